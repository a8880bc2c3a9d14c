/- Ways up a tree: what a proof's steps lead to; one way leads to one root. -/
import Derived.Test.YtenkdpogdfcbgaaVerifyW
namespace Go.Proofs.Ytenkdpogdfcbgaa
open Go.RowKit

theorem proof_wayT : ∀ (n : Nat) (L : List Nat) (i : Nat), L.length ≤ n → i < L.length → (∀ x, x ∈ L → x ≤ 2147483647) → Bn.Way (Tr.root L) L.length i (L.getD i 0) (Tr.proof L i) := by
  intro n
  induction n with
  | zero => intro L i h1 h2; omega
  | succ n ih =>
    intro L i h1 h2 hv
    by_cases hgo : 1 < L.length
    · have hul := Tr.up_length L
      have hrec := ih (Tr.up L) (i / 2) (by omega) (by omega) (up_le L hv)
      rw [Tr.root_up', hul] at hrec
      have hpr : Tr.proof L i = Tr.stepsF (L :: Tr.levels (Tr.up L)) i := by unfold Tr.proof; rw [Tr.levels_up hgo]
      have hp2 : Tr.proof (Tr.up L) (i / 2) = Tr.stepsF (Tr.levels (Tr.up L)) (i / 2) := rfl
      by_cases hs : Tr.sib i < L.length
      · rw [hpr, Tr.steps_in hs, ← hp2]
        have hval : Tr.pr (Bn.str (decide (Tr.sib i < i)) (L.getD (Tr.sib i) 0) (L.getD i 0)) = (Tr.up L).getD (i / 2) 0 := by
          unfold Tr.sib at hs ⊢
          by_cases he : i % 2 = 0
          · rw [if_pos he] at hs ⊢
            rw [decide_eq_false (by omega), up_pair L (i / 2) (by omega), show 2 * (i / 2) = i from by omega]
            rfl
          · rw [if_neg he] at hs ⊢
            rw [decide_eq_true (by omega), up_pair L (i / 2) (by omega), show 2 * (i / 2) = i - 1 from by omega, show i - 1 + 1 = i from by omega]
            rfl
        refine ⟨?_, ?_, ?_⟩
        · rw [List.map_cons, hrec.side, Bn.sides_in hgo hs]
        · intro t ht
          rcases List.mem_cons.1 ht with rfl | ht
          · exact getD_le hv _
          · exact hrec.small t ht
        · rw [Bn.fin, hval]; exact hrec.fin
      · rw [hpr, Tr.steps_out hs, ← hp2]
        have hval : (Tr.up L).getD (i / 2) 0 = L.getD i 0 := by
          unfold Tr.sib at hs
          by_cases he : i % 2 = 0
          · rw [if_pos he] at hs
            rw [up_odd L (i / 2) (by omega), show 2 * (i / 2) = i from by omega]
          · rw [if_neg he] at hs; omega
        exact ⟨by rw [hrec.side, Bn.sides_out hgo hs], hrec.small, by rw [← hval]; exact hrec.fin⟩
    · have hl1 : L.length = 1 := by omega
      have hi0 : i = 0 := by omega
      subst hi0
      have hpr : Tr.proof L 0 = [] := by
        unfold Tr.proof
        rw [Tr.levels_one (by omega), Tr.steps_out (by rw [hl1]; decide)]
        rfl
      rw [hpr, Tr.root_one (by omega)]
      refine ⟨by rw [Bn.sides_one (by omega)]; rfl, (fun t ht => nomatch ht), ?_⟩
      show L.getD 0 0 = L.headD 0
      cases L <;> rfl

/-- Steps of a row of the call's own. -/
theorem stepsZ_ownT : ∀ (st : List (Bool × Nat)) (w : World) (g o : Nat), (∀ (j : Nat) (b : Bool) (s : Nat), st[j]? = some (b, s) → w.cell? ⟨g, o + 2 * j, none⟩ = some (.bool b) ∧ w.cell? ⟨g, o + 2 * j + 1, none⟩ = some (.int .i64 (s : Int))) → StepsZ w (some ⟨g, o, none⟩) (stz st)
  | [], _, _, _, _ => trivial
  | (b, s) :: r, w, g, o, h => by
    obtain ⟨h1, h2⟩ := h 0 b s rfl
    refine ⟨g, o, none, rfl, h1, h2, stepsZ_ownT r w g (o + 2) (fun j b' s' hj => ?_)⟩
    have := h (j + 1) b' s' (by simpa using hj)
    rw [show o + 2 + 2 * j = o + 2 * (j + 1) from by omega]
    exact this

theorem stepsZ_atT {w : World} {a : Option Addr} {st : List (Bool × Nat)} (h : StepsAt w a st) : StepsZ w a (stz st) := by
  cases st with
  | nil => exact trivial
  | cons t r =>
    obtain ⟨g, o, rfl, hc⟩ := h (by simp)
    exact stepsZ_ownT _ w g o hc

theorem stz_inj : ∀ {l m : List (Bool × Nat)}, stz l = stz m → l = m
  | [], [], _ => rfl
  | [], _ :: _, h => by cases h
  | _ :: _, [], h => by cases h
  | (b, x) :: l, (c, y) :: m, h => by
    have h1 : (b, (x : Int)) :: stz l = (c, (y : Int)) :: stz m := h
    injection h1 with h2 h3
    have h4 := stz_inj h3
    injection h2 with h5 h6
    have h7 : x = y := Int.ofNat.inj h6
    rw [h4, h5, h7]

/-- One way leads to one root. -/
theorem way_one {r s n i p : Nat} {l : List (Bool × Nat)} (h : Bn.Way r n i p l) (k : WayZ s n i p (stz l)) : s = r := by
  obtain ⟨m, h1, h2⟩ := k
  obtain rfl := stz_inj h1
  rw [← h2.fin, h.fin]

theorem lvs_le (ss : List ByteArray) (n : Nat) : ∀ x, x ∈ lvs ss n → x ≤ 2147483647 := by
  intro x hx
  unfold lvs at hx
  obtain ⟨i, -, rfl⟩ := List.mem_map.1 hx
  exact pr_le _

theorem lvs_atT (ss : List ByteArray) {n j : Nat} (h : j < n) : (lvs ss n).getD j 0 = Tr.leaf (ss.getD j ByteArray.empty).data.toList := by unfold lvs; simp [List.getD, h]

/-- The last bit turned makes another number. -/
theorem xor_one (r : Nat) (hr : r ≤ 2147483647) : ∃ s : Nat, bits .xor .i64 (r : Int) 1 = (s : Int) ∧ s ≠ r := by
  refine ⟨r ^^^ 1, ?_, fun h => ?_⟩
  · have := i64_xor_nat r 1 (by omega) (by omega)
    rw [show ((1 : Nat) : Int) = 1 from rfl] at this
    exact this
  · have h1 := congrArg (fun x => x ^^^ r) h
    simp only [Nat.xor_self] at h1
    rw [Nat.xor_comm r 1, Nat.xor_assoc, Nat.xor_self] at h1
    simp at h1

end Go.Proofs.Ytenkdpogdfcbgaa
