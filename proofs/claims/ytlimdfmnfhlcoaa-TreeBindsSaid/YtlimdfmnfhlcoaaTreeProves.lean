/- TreeProves: what is proved is right; for every input; what was there stands below. -/
import Derived.Test.YtlimdfmnfhlcoaaTreeW4
import Derived.Test.YtlimdfmnfhlcoaaTreeSteps
namespace Go.Proofs.Ytlimdfmnfhlcoaa
open Go.RowKit

theorem ab_root : (decide (rootOf [⟨#[97]⟩, ⟨#[98]⟩] 2 = 0)) = false := by decide +kernel

theorem root_ab (w : World) (T : TypeId) : ∃ r : Nat, ((r : Int) == 0) = false ∧ Calls Try.prog 11 #[.slice (some ⟨w.heap.size, 0, none⟩) 2 2] (w.alloc (.cells #[.string ⟨#[97]⟩, .string ⟨#[98]⟩] T)) fun e w' =>
    e = .returned (.tuple #[.int .i64 r, .int .i64 0]) ∧ Below (w.alloc (.cells #[.string ⟨#[97]⟩, .string ⟨#[98]⟩] T)).heap.size (w.alloc (.cells #[.string ⟨#[97]⟩, .string ⟨#[98]⟩] T)) w' := by
  have h := Root_ok (some ⟨w.heap.size, 0, none⟩) 2 2 [⟨#[97]⟩, ⟨#[98]⟩] (w.alloc (.cells #[.string ⟨#[97]⟩, .string ⟨#[98]⟩] T)) (by omega) (by omega) (fun _ => ⟨_, rfl, fun i hi => by
    rw [addr_add]
    rcases i with _ | _ | i
    · exact cell_new w (k := 0) rfl
    · exact cell_new w (k := 1) rfl
    · omega⟩) (fun i hi => by
    rcases i with _ | _ | i
    · exact (by decide : (1 : Nat) ≤ 64)
    · exact (by decide : (1 : Nat) ≤ 64)
    · omega)
  refine ⟨_, ?_, h⟩
  have := of_decide_eq_false ab_root
  exact beq_eq_false_iff_ne.2 (by omega)

/-- What a proof leaves: its steps. -/
def ProofIs (w : World) (a : Option Addr) (n cap : Nat) (i : Int) (st : List (Bool × Nat)) : Prop := ∀ w', Below w.heap.size w w' → Calls Try.prog 14 #[.slice a n cap, .int .i64 i] w' fun e w'' =>
  ∃ b c, e = .returned (.tuple #[.slice b st.length c, .int .i64 0]) ∧ st.length ≤ c ∧ c ≤ maxLen ∧ StepsAt w'' b st ∧ Below w.heap.size w w''

theorem ProofIs.use {w w' : World} {a : Option Addr} {n cap : Nat} {st : List (Bool × Nat)} {i : Int} {R : Ending → World → Prop} (h : ProofIs w a n cap i st) (hb : Below w.heap.size w w')
    (hR : ∀ e w'', (∃ b c, e = .returned (.tuple #[.slice b st.length c, .int .i64 0]) ∧ st.length ≤ c ∧ c ≤ maxLen ∧ StepsAt w'' b st ∧ Below w.heap.size w w'') → R e w'') : Calls Try.prog 14 #[.slice a n cap, .int .i64 i] w' R := (h w' hb).mono hR

theorem proofIs {w : World} {a : Option Addr} {n cap i : Nat} {ss : List ByteArray} (h1 : 1 ≤ n) (hn : n ≤ 32) (hi : i < n) (hT : TextsAt w a n ss) (hsz : ∀ i, i < n → (ss.getD i ByteArray.empty).size ≤ 64) :
    ProofIs w a n cap i (Tr.proof (lvs ss n) i) := fun w' hb => by
  refine (Proof_ok a n cap i ss w' h1 hn hi (hT.keep hb) hsz).mono ?_
  rintro e w'' ⟨v, rfl, hown, hb2⟩
  have hB := hb.trans (hb2.mono hb.size)
  rcases hown.2 with ⟨rfl, hz⟩ | ⟨g, c, cur, rfl, -, -, g1, g2, -⟩
  · exact ⟨none, 0, by rw [hz], by omega, Nat.zero_le _, fun h => absurd (List.length_eq_zero_iff.1 hz) h, hB⟩
  · exact ⟨_, c, rfl, g1, g2, steps_of_own hown, hB⟩

/-- What Verify answers on these steps, wherever they lie. -/
def VerIs (r n i : Nat) (s : ByteArray) (st : List (Bool × Nat)) : Prop := ∀ w b c, st.length ≤ c → c ≤ maxLen → StepsAt w b st → Calls Try.prog 16 #[.int .i64 r, .int .i64 n, .int .i64 i, .string s, .slice b st.length c] w fun e w' =>
  e = .returned (.tuple #[.bool true, .int .i64 0]) ∧ Below w.heap.size w w'

set_option maxRecDepth 100000 in
set_option maxHeartbeats 2000000 in
theorem treeProves_bad (a : Option Addr) (n cap k : Nat) (i : Int) (w : World) (h : RootErr w a n cap 0 k) (hk : ((k : Int) != 0) = true) :
    Calls Try.prog 5 #[.slice a n cap, .int .i64 i] w fun e w' => e = .returned (.bool true) ∧ Below w.heap.size w w' := by
  obtain ⟨r, hr, P1⟩ := root_ab w 9
  have HB0 := Lib.hid ((Below.refl w.heap.size w).alloc (Nat.le_refl _) (.cells #[.string ⟨#[97]⟩, .string ⟨#[98]⟩] 9))
  go_enter Try.func5, Try.ntmps5
  go_wp2_with fail
  with_reducible refine P1.mono ?_
  rintro e w1 ⟨rfl, hb1⟩
  have HB1 := Lib.hid (HB0.out.trans (hb1.mono HB0.out.size))
  clear hb1 P1
  go_wp2_with fail
  with_reducible refine h.use HB1.out ?_
  rintro e w2 ⟨rfl, hb2⟩
  have HB2 := Lib.hid hb2
  clear hb2
  go_wp2_with fail
  go_ret
  exact ⟨rfl, HB2.out⟩

set_option maxRecDepth 100000 in
set_option maxHeartbeats 4000000 in
theorem treeProves_core (x : Addr) (n cap p q : Nat) (s : ByteArray) (st : List (Bool × Nat)) (i : Int) (w : World) (_h1 : 1 ≤ n) (_hn : n ≤ 32) (h : RootErr w (some x) n cap p 0)
    (hw : Ans1 15 #[.int .i64 i, .int .i64 n] (.int .i64 q)) (hq : q < n) (hx : ProofIs w (some x) n cap q st) (hv : VerIs p n q s st)
    (hm : st.length ≤ 5) (hc : w.cell? (x.add q) = some (.string s)) :
    Calls Try.prog 5 #[.slice (some x) n cap, .int .i64 i] w fun e w' => e = .returned (.bool true) ∧ Below w.heap.size w w' := by
  obtain ⟨r, hr, P1⟩ := root_ab w 9
  have HB0 := Lib.hid ((Below.refl w.heap.size w).alloc (Nat.le_refl _) (.cells #[.string ⟨#[97]⟩, .string ⟨#[98]⟩] 9))
  have hm2 : decide ((5 : Int) < (st.length : Int)) = false := decide_eq_false (by omega)
  go_enter Try.func5, Try.ntmps5
  go_wp2_with fail
  with_reducible refine P1.mono ?_
  rintro e w1 ⟨rfl, hb1⟩
  have HB1 := Lib.hid (HB0.out.trans (hb1.mono HB0.out.size))
  clear hb1 P1
  go_wp2_with fail
  with_reducible refine h.use HB1.out ?_
  rintro e w2 ⟨rfl, hb2⟩
  have HB2 := Lib.hid hb2
  clear hb2 h
  go_wp2_with fail
  with_reducible refine hw.use ?_
  rintro e w' ⟨rfl, rfl⟩
  go_wp2_with fail
  with_reducible refine hx.use HB2.out ?_
  rintro e w3 ⟨b3, c3, rfl, k1, k2, k3, hb3⟩
  have HB3 := Lib.hid hb3
  have hcell : w3.cell? (x.add q) = some (.string s) := by rw [hb3.cell (World.block_lt_of_cell? w _ hc)]; exact hc
  have hv3 := hv w3 b3 c3 k1 k2 k3
  clear hb3 hx k3 hv
  go_wp2_with fail
  with_reducible refine hv3.mono ?_
  rintro e w4 ⟨rfl, hb4⟩
  have HB4 := Lib.hid (HB3.out.trans (hb4.mono HB3.out.size))
  clear hb4 hv3
  go_wp2_with fail
  go_ret
  exact ⟨rfl, HB4.out⟩

theorem lvs_small (ss : List ByteArray) (n : Nat) : ∀ x, x ∈ lvs ss n → x ≤ 2147483647 := by
  intro x hx
  obtain ⟨i, -, rfl⟩ := List.mem_map.1 hx
  exact pr_le _

theorem treeProves_walk (a0 : Option Addr) (len0 cap0 : Nat) (s0 : List ByteArray) (a1 : Int) (w : World) (w0 : IsRowS w a0 len0 cap0 s0) (_ : (Lit.int .i64 a1).wf = true) :
    Calls Try.prog 5 #[.slice a0 len0 cap0, .int .i64 a1] w fun e w' => e = .returned (.bool true) ∧ Below w.heap.size w w' := by
  have hT : TextsAt w a0 len0 s0 := fun h0 => by
    rcases w0 with ⟨rfl, rfl, rfl, rfl⟩ | ⟨x, rfl, h1, h2, h3, h4, -⟩
    · exact absurd rfl h0
    · exact ⟨x, rfl, fun i hi => h4 i (by omega)⟩
  have hlen : len0 ≤ maxLen := by
    rcases w0 with ⟨_, rfl, _, _⟩ | ⟨x, _, h1, h2, _⟩
    · exact Nat.zero_le _
    · exact Nat.le_trans h1 h2
  by_cases hc : chk s0 len0 = 0
  · have h0 : len0 ≠ 0 := by intro h; rw [h] at hc; have h4 : chk s0 0 = 4 := rfl; omega
    have h32 : len0 ≤ 32 ∧ big s0 len0 = false := by
      unfold chk at hc
      rw [if_neg h0] at hc
      by_cases h : 32 < len0 ∨ big s0 len0 = true
      · rw [if_pos h] at hc; exact absurd hc (by decide)
      · refine ⟨by omega, ?_⟩
        rcases hb : big s0 len0 with _ | _
        · rfl
        · exact absurd (Or.inr hb) h
    have hsz := big_false.1 h32.2
    have hq := wi_lt a1 len0 (by omega)
    have hw := within_is (k := a1) (n := len0) (N := (len0 : Int)) rfl (by omega) (by omega) rfl
    generalize wi a1 len0 = q at *
    have hne : lvs s0 len0 ≠ [] := by intro h; have := lvs_length s0 len0; rw [h] at this; simp at this; omega
    have hll := lvs_length s0 len0
    obtain ⟨x, rfl, hcs⟩ := hT h0
    refine treeProves_core x len0 cap0 (rootOf s0 len0) q (s0.getD q ByteArray.empty) (Tr.proof (lvs s0 len0) q) a1 w (by omega) h32.1 (rootErr_ok (by omega) h32.1 hT hsz) hw hq (proofIs (by omega) h32.1 hq hT hsz) ?_ ?_ (hcs q hq)
    · intro w b c k1 k2 k3
      refine Verify_good (rootOf s0 len0) len0 q _ (lvs s0 len0) b _ c w hll h32.1 hq (hsz q hq) ?_ (lvs_small s0 len0) rfl k1 k2 k3 rfl
      unfold lvs
      simp [List.getD, hq]
    · exact Tr.proof_len 5 _ _ hne (by rw [hll]; exact h32.1) (by rw [hll]; exact hq)
  · exact treeProves_bad a0 len0 cap0 _ a1 w (rootErr_bad hlen hT rfl (bne_iff_ne.2 (by omega))) (bne_iff_ne.2 (by omega))

end Go.Proofs.Ytlimdfmnfhlcoaa
