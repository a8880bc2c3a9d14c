/- The walk of tree.Verify, where the steps are a proof. -/
import Derived.Test.YtenkdpogdfcbgaaTreeW3
namespace Go.Proofs.Ytenkdpogdfcbgaa
open Go.RowKit

theorem up_pair : ∀ (L : List Nat) (k : Nat), 2 * k + 1 < L.length → (Tr.up L).getD k 0 = Tr.node (L.getD (2 * k) 0) (L.getD (2 * k + 1) 0)
  | a :: b :: r, 0, _ => rfl
  | a :: b :: r, k + 1, h => by
    have := up_pair r k (by simp at h; omega)
    rw [Tr.up]
    exact this
  | [_], k, h => by simp at h
  | [], k, h => by simp at h

theorem up_odd : ∀ (L : List Nat) (k : Nat), 2 * k + 1 = L.length → (Tr.up L).getD k 0 = L.getD (2 * k) 0
  | a :: b :: r, 0, h => by simp at h
  | a :: b :: r, k + 1, h => by
    have := up_odd r k (by simp at h; omega)
    rw [Tr.up]
    exact this
  | [a], 0, _ => rfl
  | [a], k + 1, h => by simp at h
  | [], k, h => by simp at h

/-- Steps lie there, from an address on. -/
def StepsAt (w : World) (a : Option Addr) (st : List (Bool × Nat)) : Prop :=
  st ≠ [] → ∃ g o, a = some ⟨g, o, none⟩ ∧ ∀ (j : Nat) (b : Bool) (s : Nat), st[j]? = some (b, s) → w.cell? ⟨g, o + 2 * j, none⟩ = some (.bool b) ∧ w.cell? ⟨g, o + 2 * j + 1, none⟩ = some (.int .i64 (s : Int))

theorem steps_of_own {w : World} {base g n c : Nat} {T : TypeId} {st : List (Bool × Nat)} (h : w.ownsRow base T 2 (.slice (some ⟨g, 0, none⟩) n c) n (stv st)) : StepsAt w (some ⟨g, 0, none⟩) st := fun _ => by
  refine ⟨g, 0, rfl, fun j b s hj => ?_⟩
  have key : ∀ (l : List (Bool × Nat)) (j : Nat), l[j]? = some (b, s) → (stv l)[2 * j]? = some (.bool b) ∧ (stv l)[2 * j + 1]? = some (.int .i64 (s : Int)) := by
    intro l
    induction l with
    | nil => intro j hj; simp at hj
    | cons x l ih =>
      intro j hj
      obtain ⟨b', s'⟩ := x
      cases j with
      | zero =>
        obtain ⟨rfl, rfl⟩ : b' = b ∧ s' = s := by simpa using hj
        exact ⟨rfl, rfl⟩
      | succ j =>
        have := ih j (by simpa using hj)
        rw [stv, show 2 * (j + 1) = 2 * j + 1 + 1 from by omega]
        exact this
  obtain ⟨k1, k2⟩ := key st j hj
  have c1 := h.cells (g := g) rfl (2 * j) _ k1
  have c2 := h.cells (g := g) rfl (2 * j + 1) _ k2
  rw [addr_addT] at c1 c2
  rw [Nat.zero_add]
  exact ⟨c1, c2⟩

theorem StepsAt.tail {w : World} {g o : Nat} {x : Bool × Nat} {st : List (Bool × Nat)} (h : ∀ (j : Nat) (b : Bool) (s : Nat), (x :: st)[j]? = some (b, s) → w.cell? ⟨g, o + 2 * j, none⟩ = some (.bool b) ∧ w.cell? ⟨g, o + 2 * j + 1, none⟩ = some (.int .i64 (s : Int))) : StepsAt w (some ⟨g, o + 2, none⟩) st := fun _ => by
  refine ⟨g, o + 2, rfl, fun j b s hj => ?_⟩
  have := h (j + 1) b s (by simpa using hj)
  rw [show o + 2 + 2 * j = o + 2 * (j + 1) from by omega]
  exact this

theorem getD_le {L : List Nat} (h : ∀ x, x ∈ L → x ≤ 2147483647) (j : Nat) : L.getD j 0 ≤ 2147483647 := by
  by_cases hj : j < L.length
  · have : L.getD j 0 = L[j] := by simp [List.getD, hj]
    rw [this]; exact h _ (List.getElem_mem hj)
  · simp [List.getD, hj]

set_option maxRecDepth 100000 in
set_option maxHeartbeats 4000000 in
theorem Verify_good (r n0 i0 : Nat) (s : ByteArray) (L0 : List Nat) (a0 : Option Addr) (m0 c0 : Nat) (w : World) (hL0 : L0.length = n0) (hn0 : n0 ≤ 32) (hi0 : i0 < n0) (hs : s.size ≤ 64) (hleaf : Tr.leaf s.data.toList = L0.getD i0 0) (hv0 : ∀ x, x ∈ L0 → x ≤ 2147483647)
    (hm0 : (Tr.proof L0 i0).length = m0) (hc0 : m0 ≤ c0) (_hcm : c0 ≤ maxLen) (hst : StepsAt w a0 (Tr.proof L0 i0)) (hr : Tr.root L0 = r) :
    Calls Try.prog 29 #[.int .i64 r, .int .i64 n0, .int .i64 i0, .string s, .slice a0 m0 c0] w fun e w' => e = .returned (.tuple #[.bool true, .int .i64 0]) ∧ Below w.heap.size w w' := by
  unfold maxLen at _hcm
  obtain ⟨S, hS⟩ : ∃ S, S = (⟨#[108]⟩ : ByteArray) ++ s := ⟨_, rfl⟩
  have hSl : S.data.toList = 108 :: s.data.toList := by rw [hS]; simp
  have hSs : S.size = 1 + s.size := by rw [hS, ByteArray.size_append]; rfl
  have PL : Ans1 101 #[.int .i64 1073741907, .string S] (.int .i64 (L0.getD i0 0)) := fun w => by
    rw [← hleaf]
    have := Plain_any 1073741907 S w (by omega) (by omega) (by rw [hSs]; unfold maxLen; omega)
    rw [hSl] at this
    exact this
  rw [hS] at PL
  have HL0 := Lib.hid hL0; have HV0 := Lib.hid hv0; have HM0 := Lib.hid hm0; have HST := Lib.hid hst; have HR := Lib.hid hr
  have d1 : decide ((n0 : Int) < 1) = false := decide_eq_false (by omega)
  have d2 : decide ((32 : Int) < (n0 : Int)) = false := decide_eq_false (by omega)
  have d3 : decide ((i0 : Int) < 0) = false := decide_eq_false (by omega)
  have d4 : decide ((n0 : Int) ≤ (i0 : Int)) = false := decide_eq_false (by omega)
  have d5 : decide ((64 : Int) < (s.size : Int)) = false := decide_eq_false (by omega)
  clear hL0 hleaf hv0 hm0 hst hr hS hSl hSs
  go_enter Try.func29, Try.ntmps29
  go_wp2_with fail
  with_reducible refine PL.use ?_
  rintro e w' ⟨rfl, rfl⟩
  go_wp2_with fail
  go_loopw [1, 2, 4, 12] (fun vn vi vp vq wr => ∃ (L : List Nat) (n i m c : Nat) (a : Option Addr), vn = .int .i64 n ∧ vi = .int .i64 i ∧ vp = .slice a m c ∧ vq = .int .i64 (L.getD i 0) ∧ Hid (L.length = n) ∧ n ≤ 32 ∧ i < n ∧ Hid (∀ x, x ∈ L → x ≤ 2147483647) ∧ Hid ((Tr.proof L i).length = m) ∧ m ≤ c ∧ c ≤ c0 ∧
      Hid (StepsAt w a (Tr.proof L i)) ∧ Hid (Tr.root L = r) ∧ Hid (Below w.heap.size w wr)) (fun vn _ _ _ _ => (intOf vn).toNat)
  case atStart => exact ⟨L0, n0, i0, m0, c0, a0, rfl, rfl, rfl, rfl, HL0, hn0, hi0, HV0, HM0, hc0, Nat.le_refl _, HST, HR, Lib.hid (Below.refl _ _)⟩
  case round =>
    obtain ⟨L, n, i, m, c, a, rfl, rfl, rfl, rfl, hL, hn, hi, hv, hm, hmc, hcc, hst, hroot, hB⟩ := hrel
    by_cases hgo : 1 < n
    · have hx := sib_xor i (by omega)
      have hsib := Tr.sib_le i
      have hL1 : 1 < L.length := by rw [hL.out]; exact hgo
      have hpr : Tr.proof L i = Tr.stepsF (L :: Tr.levels (Tr.up L)) i := by unfold Tr.proof; rw [Tr.levels_up hL1]
      have hup : Hid ((Tr.up L).length = (n + 1) / 2) := Lib.hid (by rw [Tr.up_length, hL.out])
      have hroot2 : Hid (Tr.root (Tr.up L) = r) := Lib.hid (by rw [Tr.root_up']; exact hroot.out)
      have hv2 := Lib.hid (up_le L hv.out)
      have hp := getD_le hv.out i
      obtain ⟨i', hi'⟩ : ∃ i', i' = i / 2 := ⟨_, rfl⟩
      obtain ⟨n', hn'⟩ : ∃ n', n' = (n + 1) / 2 := ⟨_, rfl⟩
      have t1 : Int.tdiv (i : Int) 2 = (i' : Int) := by rw [Int.tdiv_eq_ediv_of_nonneg (by omega)]; omega
      have t2 : (i : Int) / 2 = (i' : Int) := by omega
      have t3 : Int.tdiv ((n : Int) + 1) 2 = (n' : Int) := by rw [Int.tdiv_eq_ediv_of_nonneg (by omega)]; omega
      have t4 : ((n : Int) + 1) / 2 = (n' : Int) := by omega
      have hin' : i' < n' ∧ n' ≤ 32 ∧ n' < n := by omega
      obtain ⟨hin1, hin2, hin3⟩ := hin'
      have HI := Lib.hid hi'; have HN := Lib.hid hn'
      obtain ⟨z, hz⟩ : ∃ z, z = Tr.sib i := ⟨_, rfl⟩
      rw [← hz] at hx hsib
      have HZ := Lib.hid hz
      have hbsz := hB.out.size
      clear hi' hn'
      by_cases hzin : z < n
      · have hsteps := Tr.steps_in (l := L) (r := Tr.levels (Tr.up L)) (i := i) (by rw [← hz, hL.out]; exact hzin)
        rw [← hz, ← hpr] at hsteps
        have hmm : m = (Tr.proof (Tr.up L) (i / 2)).length + 1 := by rw [← hm.out, hsteps, List.length_cons]; rfl
        obtain ⟨m', hm'⟩ : ∃ m', m' = (Tr.proof (Tr.up L) (i / 2)).length := ⟨_, rfl⟩
        rw [← hm'] at hmm
        obtain ⟨g, o, rfl, hcs⟩ := hst.out (by rw [hsteps]; exact List.cons_ne_nil _ _)
        rw [hsteps] at hcs
        have htail0 : Hid (StepsAt w (some ⟨g, o + 2, none⟩) (Tr.proof (Tr.up L) i')) := Lib.hid (by rw [HI.out]; exact StepsAt.tail hcs)
        have HM2 : Hid ((Tr.proof (Tr.up L) i').length = m') := Lib.hid (by rw [HI.out]; exact hm'.symm)
        have htail : Hid (StepsAt w (if c = 1 then some ⟨g, o, none⟩ else some ⟨g, o + 2, none⟩) (Tr.proof (Tr.up L) i')) := Lib.hid (by
          split
          · intro hne
            exact absurd (List.length_eq_zero_iff.1 (by rw [HM2.out]; omega)) hne
          · exact htail0.out)
        obtain ⟨k1, k2⟩ := hcs 0 _ _ rfl
        have c1 : Hid (wr.cell? ⟨g, o, none⟩ = some (.bool (decide (z < i)))) := Lib.hid ((hB.out.cell (World.block_lt_of_cell? w _ k1)).trans k1)
        have c2 : Hid (wr.cell? ⟨g, o + 1, none⟩ = some (.int .i64 (L.getD z 0 : Int))) := Lib.hid ((hB.out.cell (World.block_lt_of_cell? w _ k2)).trans k2)
        have hy := getD_le hv.out z
        have hd0 : (z < i ∧ Tr.node (L.getD z 0) (L.getD i 0) = (Tr.up L).getD i' 0) ∨ (¬ z < i ∧ Tr.node (L.getD i 0) (L.getD z 0) = (Tr.up L).getD i' 0) := by
          rw [HI.out]
          rw [HZ.out] at hzin ⊢
          unfold Tr.sib at hzin ⊢
          by_cases he : i % 2 = 0
          · rw [if_pos he] at hzin ⊢
            right
            refine ⟨by omega, ?_⟩
            rw [up_pair L (i / 2) (by rw [hL.out]; omega), show 2 * (i / 2) = i from by omega]
          · rw [if_neg he] at hzin ⊢
            left
            refine ⟨by omega, ?_⟩
            rw [up_pair L (i / 2) (by rw [hL.out]; omega), show 2 * (i / 2) = i - 1 from by omega, show i - 1 + 1 = i from by omega]
        have HUL : Hid ((Tr.up L).length = n') := Lib.hid (by rw [HN.out]; exact hup.out)
        subst hmm
        have hcap : m' ≤ c - 1 ∧ c - 1 ≤ c0 := by omega
        have q0 : ((m' : Int) + 1 == 0) = false := beq_eq_false_iff_ne.2 (by omega)
        obtain ⟨hcap1, hcap2⟩ := hcap
        clear hsteps hpr hcs k1 k2 hm' hx hz hst hup
        have hx := sib_xor i (by omega)
        rw [← HZ.out] at hx
        rcases hd0 with ⟨hd, hnode⟩ | ⟨hd, hnode⟩
        · have C1 := c1.out
          have C2 := c2.out
          rw [decide_eq_true hd] at C1
          have hdi : decide ((z : Int) < (i : Int)) = true := decide_eq_true (by omega)
          have hdn : decide (z < i) = true := decide_eq_true hd
          generalize L.getD z 0 = y at *
          generalize L.getD i 0 = p at *
          obtain ⟨p2, hp2⟩ : ∃ p2, p2 = (Tr.up L).getD i' 0 := ⟨_, rfl⟩
          rw [← hp2] at hnode
          obtain ⟨X, hX⟩ : ∃ X : ByteArray, X = ⟨(Tr.said y p).toArray⟩ := ⟨_, rfl⟩
          have S1 : ∀ w, Calls Try.prog 123 #[.int .i64 y, .int .i64 p] w fun e w' => e = .returned (.string X) ∧ Below w.heap.size w w' := fun w => by rw [hX]; exact said_any y p w hy hp
          have P2 : Ans1 101 #[.int .i64 1073741907, .string X] (.int .i64 p2) := fun w => by
            rw [← hnode, hX]
            exact Plain_any 1073741907 _ w (by omega) (by omega) (by show (List.toArray _).size ≤ maxLen; unfold maxLen; simp [Tr.said, Tr.four])
          have HP2 := Lib.hid hp2
          clear hX hnode c1 c2 hp2
          go_wp2_with fail
          with_reducible refine (S1 _).mono ?_
          rintro e w2 ⟨rfl, hb2⟩
          have HB2 := Lib.hid (hB.out.trans (hb2.mono hbsz))
          clear hb2 hB
          go_wp2_with fail
          with_reducible refine P2.use ?_
          rintro e w' ⟨rfl, rfl⟩
          go_wp2_with fail
          go_round
          case rel => exact ⟨Tr.up L, n', i', m', c - 1, (if c = 1 then some ⟨g, o, none⟩ else some ⟨g, o + 2, none⟩), rfl, rfl, rfl, by rw [HP2.out], HUL, hin2, hin1, hv2, HM2, hcap1, hcap2, htail, hroot2, HB2⟩
          case measure => simp [intOf]; omega
        · have C1 := c1.out
          have C2 := c2.out
          rw [decide_eq_false hd] at C1
          have hdi : decide ((z : Int) < (i : Int)) = false := decide_eq_false (by omega)
          have hdn : decide (z < i) = false := decide_eq_false hd
          generalize L.getD z 0 = y at *
          generalize L.getD i 0 = p at *
          obtain ⟨p2, hp2⟩ : ∃ p2, p2 = (Tr.up L).getD i' 0 := ⟨_, rfl⟩
          rw [← hp2] at hnode
          obtain ⟨X, hX⟩ : ∃ X : ByteArray, X = ⟨(Tr.said p y).toArray⟩ := ⟨_, rfl⟩
          have S1 : ∀ w, Calls Try.prog 123 #[.int .i64 p, .int .i64 y] w fun e w' => e = .returned (.string X) ∧ Below w.heap.size w w' := fun w => by rw [hX]; exact said_any p y w hp hy
          have P2 : Ans1 101 #[.int .i64 1073741907, .string X] (.int .i64 p2) := fun w => by
            rw [← hnode, hX]
            exact Plain_any 1073741907 _ w (by omega) (by omega) (by show (List.toArray _).size ≤ maxLen; unfold maxLen; simp [Tr.said, Tr.four])
          have HP2 := Lib.hid hp2
          clear hX hnode c1 c2 hp2
          go_wp2_with fail
          with_reducible refine (S1 _).mono ?_
          rintro e w2 ⟨rfl, hb2⟩
          have HB2 := Lib.hid (hB.out.trans (hb2.mono hbsz))
          clear hb2 hB
          go_wp2_with fail
          with_reducible refine P2.use ?_
          rintro e w' ⟨rfl, rfl⟩
          go_wp2_with fail
          go_round
          case rel => exact ⟨Tr.up L, n', i', m', c - 1, (if c = 1 then some ⟨g, o, none⟩ else some ⟨g, o + 2, none⟩), rfl, rfl, rfl, by rw [HP2.out], HUL, hin2, hin1, hv2, HM2, hcap1, hcap2, htail, hroot2, HB2⟩
          case measure => simp [intOf]; omega
      · have hsteps := Tr.steps_out (l := L) (r := Tr.levels (Tr.up L)) (i := i) (by rw [← hz, hL.out]; exact hzin)
        rw [← hpr] at hsteps
        have heven : i % 2 = 0 ∧ i + 1 = n := by
          rw [hz] at hzin
          unfold Tr.sib at hzin
          split at hzin <;> omega
        have hval : Hid (L.getD i 0 = (Tr.up L).getD i' 0) := Lib.hid (by rw [HI.out, up_odd L (i / 2) (by rw [hL.out]; omega), show 2 * (i / 2) = i from by omega])
        have HUL : Hid ((Tr.up L).length = n') := Lib.hid (by rw [HN.out]; exact hup.out)
        have HM2 : Hid ((Tr.proof (Tr.up L) i').length = m) := Lib.hid (by rw [HI.out, ← hm.out, hsteps]; rfl)
        have htail : Hid (StepsAt w a (Tr.proof (Tr.up L) i')) := Lib.hid (by have h := hst.out; rw [hsteps] at h; rw [HI.out]; exact h)
        clear hsteps hpr hx hz hst hup heven hp
        have hx := sib_xor i (by omega)
        rw [← HZ.out] at hx
        generalize L.getD i 0 = p at *
        go_wp2_with fail
        go_round
        case rel => exact ⟨Tr.up L, n', i', m, c, a, rfl, rfl, rfl, by rw [← hval.out], HUL, hin2, hin1, hv2, HM2, hmc, hcc, htail, hroot2, hB⟩
        case measure => simp [intOf]; omega
    · have h1 : n = 1 := by omega
      have hi0' : i = 0 := by omega
      subst h1
      subst hi0'
      have hpr : Tr.proof L 0 = [] := by
        unfold Tr.proof
        rw [Tr.levels_one (by rw [hL.out]; exact Nat.le_refl _), Tr.steps_out (by rw [hL.out]; decide)]
        rfl
      have hm0' : m = 0 := by rw [← hm.out, hpr]; rfl
      subst hm0'
      have hrr : ((L.getD 0 0 : Nat) : Int) = (r : Int) := by
        have h := hroot.out
        rw [Tr.root_one (by rw [hL.out]; exact Nat.le_refl _)] at h
        rw [← h]
        cases L <;> rfl
      rw [hrr]
      clear hpr hrr
      go_wp2_with fail
      go_ret2
      exact ⟨rfl, hB.out⟩

theorem four_inj {p q : Nat} (hp : p ≤ 2147483647) (hq : q ≤ 2147483647) (h : Tr.four p = Tr.four q) : p = q := by
  unfold Tr.four at h
  simp only [List.cons.injEq, and_true] at h
  obtain ⟨h0, h1, h2, h3⟩ := h
  have e0 := congrArg UInt8.toNat h0; have e1 := congrArg UInt8.toNat h1; have e2 := congrArg UInt8.toNat h2; have e3 := congrArg UInt8.toNat h3
  simp only [UInt8.toNat_ofNat'] at e0 e1 e2 e3
  omega

theorem said_inj {p q p' q' : Nat} (hp : p ≤ 2147483647) (hq : q ≤ 2147483647) (hp' : p' ≤ 2147483647) (hq' : q' ≤ 2147483647) (h : Tr.said p q = Tr.said p' q') : p = p' ∧ q = q' := by
  unfold Tr.said at h
  have h1 := (List.cons.inj h).2
  have hl : (Tr.four p).length = (Tr.four p').length := rfl
  obtain ⟨a, b⟩ := List.append_inj h1 hl
  exact ⟨four_inj hp hp' a, four_inj hq hq' b⟩

/-- A pair's string. -/
def sb (p q : Nat) : ByteArray := ⟨(Tr.said p q).toArray⟩

theorem said_open (p q : Nat) (w : World) (hp : p ≤ 2147483647) (hq : q ≤ 2147483647) : Calls Try.prog 123 #[.int .i64 p, .int .i64 q] w fun e w' => e = .returned (.string (sb p q)) ∧ Below w.heap.size w w' := said_any p q w hp hq

theorem sb_data (p q : Nat) : (sb p q).data.toList = Tr.said p q := by unfold sb; simp

theorem sb_size (p q : Nat) : (sb p q).size = 9 := rfl

end Go.Proofs.Ytenkdpogdfcbgaa
