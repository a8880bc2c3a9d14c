/- TreeSteps: no more steps than levels, none just if there is one text alone; for every input; what was there stands below. -/
import Derived.Test.YtlimdfmnfhlcoaaTreeW3
import Derived.Test.YtlimdfmnfhlcoaaArgs
namespace Go.Proofs.Ytlimdfmnfhlcoaa
open Go.RowKit

theorem proof_three (A B C : Nat) : Tr.proof [A, B, C] 2 = [(true, Tr.node A B)] := rfl

/-- What a proof leaves: so many steps. -/
def ProofAns (w : World) (a : Option Addr) (n cap : Nat) (i : Int) (m : Nat) : Prop := ∀ w', Below w.heap.size w w' → Calls Try.prog 14 #[.slice a n cap, .int .i64 i] w' fun e w'' =>
  ∃ b c, e = .returned (.tuple #[.slice b m c, .int .i64 0]) ∧ Below w.heap.size w w''

theorem ProofAns.use {w w' : World} {a : Option Addr} {n cap m : Nat} {i : Int} {R : Ending → World → Prop} (h : ProofAns w a n cap i m) (hb : Below w.heap.size w w')
    (hR : ∀ e w'', (∃ b c, e = .returned (.tuple #[.slice b m c, .int .i64 0]) ∧ Below w.heap.size w w'') → R e w'') : Calls Try.prog 14 #[.slice a n cap, .int .i64 i] w' R := (h w' hb).mono hR

theorem proofAns {w : World} {a : Option Addr} {n cap i : Nat} {ss : List ByteArray} (h1 : 1 ≤ n) (hn : n ≤ 32) (hi : i < n) (hT : TextsAt w a n ss) (hsz : ∀ i, i < n → (ss.getD i ByteArray.empty).size ≤ 64) :
    ProofAns w a n cap i (Tr.proof (lvs ss n) i).length := fun w' hb => by
  refine (Proof_ok a n cap i ss w' h1 hn hi (hT.keep hb) hsz).mono ?_
  rintro e w'' ⟨v, rfl, hown, hb2⟩
  have hB := hb.trans (hb2.mono hb.size)
  rcases hown.2 with ⟨rfl, hz⟩ | ⟨g, c, cur, rfl, -⟩
  · exact ⟨none, 0, by rw [hz], hB⟩
  · exact ⟨_, c, rfl, hB⟩

/-- What Root answers, wherever it is asked behind the beginning. -/
def RootErr (w : World) (a : Option Addr) (n cap p k : Nat) : Prop := ∀ w', Below w.heap.size w w' → Calls Try.prog 11 #[.slice a n cap] w' fun e w'' => e = .returned (.tuple #[.int .i64 p, .int .i64 k]) ∧ Below w.heap.size w w''

theorem RootErr.use {w w' : World} {a : Option Addr} {n cap p k : Nat} {R : Ending → World → Prop} (h : RootErr w a n cap p k) (hb : Below w.heap.size w w')
    (hR : ∀ e w'', e = .returned (.tuple #[.int .i64 p, .int .i64 k]) ∧ Below w.heap.size w w'' → R e w'') : Calls Try.prog 11 #[.slice a n cap] w' R := (h w' hb).mono hR

theorem rootErr_ok {w : World} {a : Option Addr} {n cap : Nat} {ss : List ByteArray} (h1 : 1 ≤ n) (hn : n ≤ 32) (hT : TextsAt w a n ss) (hsz : ∀ i, i < n → (ss.getD i ByteArray.empty).size ≤ 64) : RootErr w a n cap (rootOf ss n) 0 := fun w' hb => by
  refine (Root_ok a n cap ss w' h1 hn (hT.keep hb) hsz).mono ?_
  rintro e w'' ⟨rfl, hb2⟩
  exact ⟨rfl, hb.trans (hb2.mono hb.size)⟩

theorem rootErr_bad {w : World} {a : Option Addr} {n cap k : Nat} {ss : List ByteArray} (hn : n ≤ maxLen) (hT : TextsAt w a n ss) (hk : chk ss n = k) (h0 : ((k : Int) != 0) = true) : RootErr w a n cap 0 k := fun w' hb => by
  refine (Root_bad a n cap k ss w' hn (hT.keep hb) hk h0).mono ?_
  rintro e w'' ⟨rfl, rfl⟩
  exact ⟨rfl, hb⟩

/-- The test's own: three texts, the last. -/
theorem proof_test (w : World) (T : TypeId) : Calls Try.prog 14 #[.slice (some ⟨w.heap.size, 0, none⟩) 3 3, .int .i64 2] (w.alloc (.cells #[.string ⟨#[97]⟩, .string ⟨#[98]⟩, .string ⟨#[99]⟩] T)) fun e w' =>
    ∃ g c, e = .returned (.tuple #[.slice (some ⟨g, 0, none⟩) 1 c, .int .i64 0]) ∧ w'.cell? ⟨g, 0, none⟩ = some (.bool true) ∧ Below (w.alloc (.cells #[.string ⟨#[97]⟩, .string ⟨#[98]⟩, .string ⟨#[99]⟩] T)).heap.size (w.alloc (.cells #[.string ⟨#[97]⟩, .string ⟨#[98]⟩, .string ⟨#[99]⟩] T)) w' := by
  have h := Proof_ok (some ⟨w.heap.size, 0, none⟩) 3 3 2 [⟨#[97]⟩, ⟨#[98]⟩, ⟨#[99]⟩] (w.alloc (.cells #[.string ⟨#[97]⟩, .string ⟨#[98]⟩, .string ⟨#[99]⟩] T)) (by omega) (by omega) (by omega) (fun _ => ⟨_, rfl, fun i hi => by
    rw [addr_add]
    rcases i with _ | _ | _ | i
    · exact cell_new w (k := 0) rfl
    · exact cell_new w (k := 1) rfl
    · exact cell_new w (k := 2) rfl
    · omega⟩) (fun i hi => by
    rcases i with _ | _ | _ | i
    · exact (by decide : (1 : Nat) ≤ 64)
    · exact (by decide : (1 : Nat) ≤ 64)
    · exact (by decide : (1 : Nat) ≤ 64)
    · omega)
  refine h.mono ?_
  rintro e w' ⟨v, rfl, hown, hb⟩
  rw [show Tr.proof (lvs [⟨#[97]⟩, ⟨#[98]⟩, ⟨#[99]⟩] 3) 2 = [(true, Tr.node (Tr.leaf [97]) (Tr.leaf [98]))] from proof_three _ _ _] at hown
  obtain ⟨g, c, rfl, hg, hg'⟩ := own_some hown (by decide)
  refine ⟨g, c, rfl, ?_, hb⟩
  have := hown.cells (g := g) rfl 0 (.bool true) rfl
  rwa [addr_add] at this

set_option maxRecDepth 100000 in
set_option maxHeartbeats 2000000 in
theorem treeSteps_bad (a : Option Addr) (n cap k : Nat) (i : Int) (w : World) (h : RootErr w a n cap 0 k) (hk : ((k : Int) != 0) = true) :
    Calls Try.prog 4 #[.slice a n cap, .int .i64 i] w fun e w' => e = .returned (.bool true) ∧ Below w.heap.size w w' := by
  have P1 := proof_test w 9
  have HB0 := Lib.hid ((Below.refl w.heap.size w).alloc (Nat.le_refl _) (.cells #[.string ⟨#[97]⟩, .string ⟨#[98]⟩, .string ⟨#[99]⟩] 9))
  go_enter Try.func4, Try.ntmps4
  go_wp2_with fail
  with_reducible refine P1.mono ?_
  rintro e w1 ⟨g, c, rfl, hc, hb1⟩
  have HB1 := Lib.hid (HB0.out.trans (hb1.mono HB0.out.size))
  clear hb1 P1
  go_wp2_with fail
  with_reducible refine h.use HB1.out ?_
  rintro e w2 ⟨rfl, hb2⟩
  have HB2 := Lib.hid hb2
  clear hb2
  go_wp2_with fail
  go_ret
  exact ⟨rfl, HB2.out⟩

set_option maxRecDepth 100000 in
set_option maxHeartbeats 4000000 in
theorem treeSteps_core (a : Option Addr) (n cap p q mx my : Nat) (i : Int) (w : World) (h1 : 1 ≤ n) (hn : n ≤ 32) (h : RootErr w a n cap p 0)
    (hw : Ans1 15 #[.int .i64 i, .int .i64 n] (.int .i64 q)) (hx : ProofAns w a n cap q mx) (hy : ProofAns w a n cap ((n : Int) - 1) my)
    (hmx : ∀ j, n ≤ 2 ^ j → mx ≤ j) (hmy : decide ((0 : Int) < (my : Int)) = decide ((1 : Int) < (n : Int))) :
    Calls Try.prog 4 #[.slice a n cap, .int .i64 i] w fun e w' => e = .returned (.bool true) ∧ Below w.heap.size w w' := by
  have P1 := proof_test w 9
  have HB0 := Lib.hid ((Below.refl w.heap.size w).alloc (Nat.le_refl _) (.cells #[.string ⟨#[97]⟩, .string ⟨#[98]⟩, .string ⟨#[99]⟩] 9))
  have HMX := Lib.hid hmx
  obtain ⟨d, hd⟩ : ∃ d, decide ((1 : Int) < (n : Int)) = d := ⟨_, rfl⟩
  rw [hd] at hmy
  have hd2 : decide (1 < n) = d := by rw [← hd, decide_eq_decide]; omega
  have hmy2 : decide (0 < my) = d := by rw [← hmy, decide_eq_decide]; omega
  clear hmx
  go_enter Try.func4, Try.ntmps4
  go_wp2_with fail
  with_reducible refine P1.mono ?_
  rintro e w1 ⟨g, c, rfl, hc, hb1⟩
  have HB1 := Lib.hid (HB0.out.trans (hb1.mono HB0.out.size))
  clear hb1 P1
  go_wp2_with fail
  with_reducible refine h.use HB1.out ?_
  rintro e w2 ⟨rfl, hb2⟩
  have HB2 := Lib.hid hb2
  clear hb2 h hc
  go_wp2_with fail
  with_reducible refine hw.use ?_
  rintro e w' ⟨rfl, rfl⟩
  go_wp2_with fail
  with_reducible refine hx.use HB2.out ?_
  rintro e w3 ⟨b3, c3, rfl, hb3⟩
  have HB3 := Lib.hid hb3
  clear hb3 hx
  go_wp2_with fail
  with_reducible refine hy.use HB3.out ?_
  rintro e w4 ⟨b4, c4, rfl, hb4⟩
  have HB4 := Lib.hid hb4
  clear hb4 hy
  go_wp2_with fail
  go_loop [13] (fun k => ∃ j : Nat, j ≤ 5 ∧ k = .int .i64 j) (fun k => 5 - (intOf k).toNat)
  case atStart => exact ⟨0, by omega, rfl⟩
  case round =>
    obtain ⟨j, hj, rfl⟩ := hrel
    obtain ⟨u, hu⟩ : ∃ u, u = 2 ^ j := ⟨_, rfl⟩
    have e1 : (2 : Int) ^ j = (u : Int) := by rw [hu, Int.natCast_pow]; rfl
    have hu32 : u ≤ 32 := by rw [hu]; exact Nat.pow_le_pow_right (n := 2) (j := 5) (by decide) hj
    have HU := Lib.hid hu
    clear hu
    by_cases hgo : u < n
    · have hj5 : j < 5 := by
        rcases Nat.lt_or_ge j 5 with h | h
        · exact h
        · have : j = 5 := by omega
          have := HU.out
          subst j
          omega
      have hgi : decide ((u : Int) < (n : Int)) = true := decide_eq_true (by omega)
      go_wp2_with fail
      go_round
      case rel => exact ⟨j + 1, by omega, by go_num⟩
      case measure => simp [intOf]; omega
    · have hle := HMX.out j (by rw [← HU.out]; omega)
      have hgi : decide ((u : Int) < (n : Int)) = false := decide_eq_false (by omega)
      have hle2 : decide ((mx : Int) ≤ (j : Int)) = true := decide_eq_true (by omega)
      have hle3 : decide (mx ≤ j) = true := decide_eq_true hle
      go_wp2_with fail
      go_ret
      exact ⟨rfl, HB4.out⟩

theorem treeSteps_walk (a0 : Option Addr) (len0 cap0 : Nat) (s0 : List ByteArray) (a1 : Int) (w : World) (w0 : IsRowS w a0 len0 cap0 s0) (_ : (Lit.int .i64 a1).wf = true) :
    Calls Try.prog 4 #[.slice a0 len0 cap0, .int .i64 a1] w fun e w' => e = .returned (.bool true) ∧ Below w.heap.size w w' := by
  have hT : TextsAt w a0 len0 s0 := fun h0 => by
    rcases w0 with ⟨rfl, rfl, rfl, rfl⟩ | ⟨x, rfl, h1, h2, h3, h4, -⟩
    · exact absurd rfl h0
    · exact ⟨x, rfl, fun i hi => h4 i (by omega)⟩
  have hlen : len0 ≤ maxLen := by
    rcases w0 with ⟨_, rfl, _, _⟩ | ⟨x, _, h1, h2, _⟩
    · exact Nat.zero_le _
    · exact Nat.le_trans h1 h2
  by_cases hc : chk s0 len0 = 0
  · have h0 : len0 ≠ 0 := by intro h; rw [h] at hc; have h4 : chk s0 0 = 4 := rfl; omega
    have h32 : len0 ≤ 32 ∧ big s0 len0 = false := by
      unfold chk at hc
      rw [if_neg h0] at hc
      by_cases h : 32 < len0 ∨ big s0 len0 = true
      · rw [if_pos h] at hc; exact absurd hc (by decide)
      · refine ⟨by omega, ?_⟩
        rcases hb : big s0 len0 with _ | _
        · rfl
        · exact absurd (Or.inr hb) h
    have hsz := big_false.1 h32.2
    have hq := wi_lt a1 len0 (by omega)
    have hw := within_is (k := a1) (n := len0) (N := (len0 : Int)) rfl (by omega) (by omega) rfl
    generalize wi a1 len0 = q at *
    have hne : lvs s0 len0 ≠ [] := by intro h; have := lvs_length s0 len0; rw [h] at this; simp at this; omega
    have hll := lvs_length s0 len0
    have hlast := Tr.proof_last (lvs s0 len0) hne
    rw [hll] at hlast
    refine treeSteps_core a0 len0 cap0 _ q _ (Tr.proof (lvs s0 len0) (len0 - 1)).length a1 w (by omega) h32.1 (rootErr_ok (by omega) h32.1 hT hsz) hw (proofAns (by omega) h32.1 hq hT hsz) ?_ (fun j hj => Tr.proof_len j _ _ hne (by rw [hll]; exact hj) (by rw [hll]; exact hq)) ?_
    · have := proofAns (cap := cap0) (i := len0 - 1) (by omega) h32.1 (by omega) hT hsz
      rwa [show (((len0 - 1 : Nat)) : Int) = (len0 : Int) - 1 from by omega] at this
    · rw [decide_eq_decide]
      constructor
      · intro h; have := hlast.1 (by omega); omega
      · intro h; have := hlast.2 (by omega); omega
  · exact treeSteps_bad a0 len0 cap0 _ a1 w (rootErr_bad hlen hT rfl (bne_iff_ne.2 (by omega))) (bne_iff_ne.2 (by omega))

end Go.Proofs.Ytlimdfmnfhlcoaa
