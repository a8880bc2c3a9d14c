/- ResvReads: with write-exclusive reservations all may read; whoever may write may read; for every input; what was there stands below. -/
import Derived.Test.YtoglkellaliegaaRgX
import Derived.Test.YtoglkellaliegaaArgsL
namespace Go.Proofs.Ytoglkellaliegaa
open Go.RowKit

theorem may_mono {r : Rg.RV} {x : Int} (h : Rg.mayB r x true = true) : Rg.mayB r x false = true := by
  unfold Rg.mayB at h ⊢
  by_cases h0 : r.kind = 0
  · rw [if_pos h0]
  · rw [if_neg h0] at h ⊢
    by_cases h1 : r.kind = 1
    · rw [if_pos h1]; rfl
    · rw [if_neg h1] at h ⊢
      by_cases h3 : r.kind = 3
      · rw [if_pos h3] at h ⊢; exact h
      · rw [if_neg h3] at h ⊢
        by_cases h5 : r.kind = 5 ∨ r.kind = 7
        · rw [if_pos h5]; rfl
        · rw [if_neg h5] at h ⊢; exact h

theorem may_reads {r : Rg.RV} {x : Int} (hG : Rg.Good r) (h : Rg.mayB r x false = false) : r.kind = 3 ∨ r.kind = 6 ∨ r.kind = 8 := by
  have hk := hG.kind
  unfold Rg.mayB at h
  by_cases h0 : r.kind = 0
  · rw [if_pos h0] at h; cases h
  · rw [if_neg h0] at h
    have hk := hk.resolve_right h0
    unfold Rg.kindB at hk
    simp only [Bool.or_eq_true, beq_iff_eq, Bool.and_eq_true, decide_eq_true_eq] at hk
    by_cases h1 : r.kind = 1
    · rw [if_pos h1] at h; cases h
    · rw [if_neg h1] at h
      by_cases h3 : r.kind = 3
      · exact Or.inl h3
      · rw [if_neg h3] at h
        by_cases h5 : r.kind = 5 ∨ r.kind = 7
        · rw [if_pos h5] at h; cases h
        · omega

set_option maxRecDepth 100000 in
set_option maxHeartbeats 16000000 in
theorem reads_core (L : Option Addr) (nl cl : Nat) (F : Nat → Nat → Int) (p1 : Int) (w : World) (hL : LArg w L nl cl F) :
    Calls Try.prog 13 #[.slice L nl cl, .int .i64 p1] w fun e w' => e = .returned (.bool true) ∧ Below w.heap.size w w' := by
  obtain ⟨N, hN⟩ : ∃ N, min nl 60 = N := ⟨_, rfl⟩
  have HT4 : Hid (∀ w', Below w.heap.size w w' → Calls Try.prog 35 #[.slice L nl cl] w' fun e w'' => ∃ a n c, e = .returned (.agg #[.int .i64 (tS F N).gen, .slice a n c, .int .i64 (tS F N).kind, .int .i64 (tS F N).holder]) ∧
      w''.ownsRow w'.heap.size 56 2 (.slice a n c) n (tv (tS F N).regs) ∧ Below w'.heap.size w' w'') := Lib.hid fun w' hb => turned_R L nl cl N F w' (hL.keep hb) hN
  have HG := tS_good F N (by omega)
  have hN60 : N ≤ 60 := by omega
  have K1 := registered_R w
  have w1' := within_is (k := p1) (n := 8) (N := 8) rfl (by omega) (by omega) rfl
  have hq1 := wi_lt p1 8 (by omega)
  clear hL hN
  generalize wi p1 8 = m1 at *
  generalize tS F N = Z at *
  obtain ⟨gg, rg, kx, hh⟩ := Z
  obtain ⟨HG, hgg⟩ := HG
  have hgg' : gg ≤ (N : Int) := hgg
  have hg0 : 0 ≤ gg := HG.gen0
  have HG := Lib.hid HG
  go_enter Try.func13, Try.ntmps13
  go_wp2_with fail
  with_reducible refine K1.mono ?_
  rintro e w1 ⟨a1, q1, rfl, ho1, hb1⟩
  have K2 := reserve_first 1 1 (by decide) (by decide) a1 q1 w1 (own_tsl ho1 (Below.refl _ _))
  have HB1 := Lib.hid hb1
  clear ho1 hb1 K1
  go_wp2_with fail
  with_reducible refine K2.mono ?_
  rintro e w2 ⟨a2, q2, rfl, ho2, hb2⟩
  have HB2 := Lib.hid (HB1.out.trans (hb2.mono HB1.out.size))
  have hs2 := HB2.out.size
  have HB3 : Hid (∀ o, Below w.heap.size w (w2.alloc o)) := Lib.hid fun o => HB2.out.alloc hs2 o
  have HX3 : Hid (∀ T, R4 (w2.alloc (.cells #[.int .i64 2, .slice a2 2 q2, .int .i64 1, .int .i64 1] T)) w2.heap.size (.int .i64 2) (.slice a2 2 q2) (.int .i64 1) (.int .i64 1)) := Lib.hid fun T => r4_new w2 T _ _ _ _
  have HO2 := Lib.hid ho2
  have KM : Hid (∀ V wr v, Below w2.heap.size w2 V → Rg.mayB ⟨2, [(1, 5), (2, 6)], 1, 1⟩ 7 wr = v → Calls Try.prog 45 #[.agg #[.int .i64 2, .slice a2 2 q2, .int .i64 1, .int .i64 1], .int .i64 7, .bool wr] V fun e w' => e = .returned (.tuple #[.bool v, .int .i64 0]) ∧ Below V.heap.size V w') := Lib.hid fun V wr v hb hv => May_R 2 1 1 7 wr v a2 2 q2 _ V (good_reserved 1 1 (by decide) (by decide)) (own_tsl HO2.out hb) (by omega) (by omega) hv
  have M1 := fun o => KM.out (w2.alloc o) false true ((Below.refl _ _).alloc (Nat.le_refl _) o) rfl
  clear ho2 hb2 K2
  go_wp2_with fail
  with_reducible refine (M1 _).mono ?_
  rintro e w3 ⟨rfl, hb3⟩
  have HX4 := Lib.hid ((HX3.out 49).on hb3)
  have HB4 := Lib.hid ((HB3.out _).trans (hb3.mono (HB3.out _).size))
  have hb23 : Below w2.heap.size w2 w3 := ((Below.refl _ _).alloc (Nat.le_refl _) (.cells #[.int .i64 2, .slice a2 2 q2, .int .i64 1, .int .i64 1] 49)).trans (hb3.mono (by rw [World.size_alloc]; omega))
  have M2 := KM.out w3 true false hb23 rfl
  clear hb3 hb23 M1 KM
  obtain ⟨hl, c0, c1, c2, c3, z0, z1, z2, z3⟩ := HX4.out
  go_wp2_with fail
  with_reducible refine M2.mono ?_
  rintro e w4 ⟨rfl, hb4⟩
  have HX5 := Lib.hid (HX4.out.on hb4)
  have HB5 := Lib.hid (HB4.out.trans (hb4.mono HB4.out.size))
  have K5 := HT4.out w4 HB5.out
  clear hl c0 c1 c2 c3 z0 z1 z2 z3 hb4 M2 HT4
  obtain ⟨hl, c0, c1, c2, c3, z0, z1, z2, z3⟩ := HX5.out
  go_wp2_with fail
  with_reducible refine K5.mono ?_
  rintro e w5 ⟨a5, n5, q5, rfl, ho5, hb5⟩
  have HX6 := Lib.hid (HX5.out.on hb5)
  have HB6 := Lib.hid (HB5.out.trans (hb5.mono HB5.out.size))
  have hs4 : w2.heap.size < w4.heap.size := HX5.out.lt
  have HNE : Hid (∀ k, (Value.slice a5 n5 q5).ownBlock = some k → w2.heap.size ≠ k) := Lib.hid fun j hj => by have := row_base ho5 j hj; omega
  obtain ⟨W, hW⟩ : ∃ W, ((((w5.setCell ⟨w2.heap.size, 0, none⟩ (.int .i64 gg)).setCell ⟨w2.heap.size, 1, none⟩ (.slice a5 n5 q5)).setCell ⟨w2.heap.size, 2, none⟩ (.int .i64 kx)).setCell ⟨w2.heap.size, 3, none⟩ (.int .i64 hh)) = W := ⟨_, rfl⟩
  have HXW : Hid (R4 W w2.heap.size (.int .i64 gg) (.slice a5 n5 q5) (.int .i64 kx) (.int .i64 hh)) := Lib.hid (by rw [← hW]; exact HX6.out.set _ _ _ _)
  have HBW : Hid (Below w.heap.size w W) := Lib.hid (by rw [← hW]; exact below_set4 HB6.out hs2 _ _ _ _)
  have HOW : Hid (W.ownsRow w4.heap.size 56 2 (.slice a5 n5 q5) n5 (tv rg)) := Lib.hid (by rw [← hW]; exact own_set4 ho5 HNE.out _ _ _ _)
  have KN : Hid (∀ V wr v, Below W.heap.size W V → Rg.mayB ⟨gg, rg, kx, hh⟩ m1 wr = v → Calls Try.prog 45 #[.agg #[.int .i64 gg, .slice a5 n5 q5, .int .i64 kx, .int .i64 hh], .int .i64 m1, .bool wr] V fun e w' => e = .returned (.tuple #[.bool v, .int .i64 0]) ∧ Below V.heap.size V w') := Lib.hid fun V wr v hb hv => May_R gg kx hh m1 wr v a5 n5 q5 rg V HG.out (own_tsl HOW.out hb) (by omega) (by omega) hv
  clear hl c0 c1 c2 c3 z0 z1 z2 z3 hb5 K5 ho5
  obtain ⟨hl, c0, c1, c2, c3, z0, z1, z2, z3⟩ := HX6.out
  obtain ⟨hm, d0, d1, d2, d3, y0, y1, y2, y3⟩ := HXW.out
  have H3 := @may_mono ⟨gg, rg, kx, hh⟩ m1
  have H4 := @may_reads ⟨gg, rg, kx, hh⟩ m1 HG.out
  obtain ⟨b1, hb1⟩ : ∃ b, Rg.mayB ⟨gg, rg, kx, hh⟩ m1 false = b := ⟨_, rfl⟩
  obtain ⟨b2, hb2⟩ : ∃ b, Rg.mayB ⟨gg, rg, kx, hh⟩ m1 true = b := ⟨_, rfl⟩
  have N1 := KN.out W false b1 (Below.refl _ _) hb1
  rw [hb1] at H3 H4
  rw [hb2] at H3
  have HB2' := Lib.hid hb2
  have hcase : (b1 = true) ∨ (b1 = false ∧ b2 = false ∧ (kx = 3 ∨ kx = 6 ∨ kx = 8)) := by
    cases hc1 : b1 with
    | true => exact Or.inl rfl
    | false =>
      right
      refine ⟨rfl, ?_, H4 hc1⟩
      cases hc2 : b2 with
      | false => rfl
      | true => have := H3 hc2; rw [hc1] at this; cases this
  clear H3 H4 hb1 hb2
  go_wp2_with fail
  with_reducible refine w1'.use ?_
  rintro e w' ⟨rfl, rfl⟩
  go_wp2_with fail
  with_reducible refine N1.mono ?_
  rintro e w7 ⟨rfl, hb7⟩
  have N2 := KN.out w7 true b2 hb7 HB2'.out
  have HX7 := Lib.hid (HXW.out.on hb7)
  have HB7 := Lib.hid (HBW.out.trans (hb7.mono HBW.out.size))
  clear hl c0 c1 c2 c3 z0 z1 z2 z3 hm d0 d1 d2 d3 y0 y1 y2 y3 hb7 N1 hW
  obtain ⟨hl, c0, c1, c2, c3, z0, z1, z2, z3⟩ := HX7.out
  go_wp2_with fail
  with_reducible refine N2.mono ?_
  rintro e w8 ⟨rfl, hb8⟩
  have HX8 := Lib.hid (HX7.out.on hb8)
  have HB8 := Lib.hid (HB7.out.trans (hb8.mono HB7.out.size))
  clear hl c0 c1 c2 c3 z0 z1 z2 z3 hb8 N2
  obtain ⟨hl, c0, c1, c2, c3, z0, z1, z2, z3⟩ := HX8.out
  rcases hcase with rfl | ⟨rfl, rfl, hk⟩
  · cases b2
    all_goals
      go_wp2_with fail
      go_ret
      exact ⟨rfl, HB8.out⟩
  · rcases hk with rfl | rfl | rfl
    all_goals
      go_wp2_with fail
      go_ret
      exact ⟨by first | rfl | simp, HB8.out⟩

theorem resvReads_walk (a0 : Option Addr) (len0 cap0 : Nat) (z0 : Nat → Nat → Int) (a1 : Int) (w : World) (w0 : LArg w a0 len0 cap0 z0) (_ : (Lit.int .i64 a1).wf = true) :
    Calls Try.prog 13 #[.slice a0 len0 cap0, .int .i64 a1] w fun e w' => e = .returned (.bool true) ∧ Below w.heap.size w w' :=
  reads_core a0 len0 cap0 z0 a1 w w0

end Go.Proofs.Ytoglkellaliegaa
