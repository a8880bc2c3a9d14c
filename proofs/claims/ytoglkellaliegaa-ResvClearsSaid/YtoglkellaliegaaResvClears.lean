/- ResvClears: whoever clears, clears all; for every input; what was there stands below. -/
import Derived.Test.YtoglkellaliegaaRgX
import Derived.Test.YtoglkellaliegaaArgsL
namespace Go.Proofs.Ytoglkellaliegaa
open Go.RowKit

set_option maxRecDepth 100000 in
set_option maxHeartbeats 16000000 in
theorem clears_core (L : Option Addr) (nl cl : Nat) (F : Nat → Nat → Int) (p1 p2 p3 : Int) (w : World) (hL : LArg w L nl cl F) :
    Calls Try.prog 15 #[.slice L nl cl, .int .i64 p1, .int .i64 p2, .int .i64 p3] w fun e w' => e = .returned (.bool true) ∧ Below w.heap.size w w' := by
  obtain ⟨N, hN⟩ : ∃ N, min nl 60 = N := ⟨_, rfl⟩
  have HT4 : Hid (∀ w', Below w.heap.size w w' → Calls Try.prog 35 #[.slice L nl cl] w' fun e w'' => ∃ a n c, e = .returned (.agg #[.int .i64 (tS F N).gen, .slice a n c, .int .i64 (tS F N).kind, .int .i64 (tS F N).holder]) ∧
      w''.ownsRow w'.heap.size 56 2 (.slice a n c) n (tv (tS F N).regs) ∧ Below w'.heap.size w' w'') := Lib.hid fun w' hb => turned_R L nl cl N F w' (hL.keep hb) hN
  have HG := tS_good F N (by omega)
  have hN60 : N ≤ 60 := by omega
  have K1 := registered_R w
  have w1' := within_is (k := p1) (n := 8) (N := 8) rfl (by omega) (by omega) rfl
  have w2' := within_is (k := p2) (n := 4) (N := 4) rfl (by omega) (by omega) rfl
  have w3' := within_is (k := p3) (n := 8) (N := 8) rfl (by omega) (by omega) rfl
  have hq1 := wi_lt p1 8 (by omega)
  have hq3 := wi_lt p3 8 (by omega)
  clear hL hN
  generalize wi p1 8 = m1 at *
  generalize wi p2 4 = m2 at *
  generalize wi p3 8 = m3 at *
  generalize tS F N = Z at *
  obtain ⟨gg, rg, kx, hh⟩ := Z
  obtain ⟨HG, hgg⟩ := HG
  have hgg' : gg ≤ (N : Int) := hgg
  have hg0 : 0 ≤ gg := HG.gen0
  have HG := Lib.hid HG
  go_enter Try.func15, Try.ntmps15
  go_wp2_with fail
  with_reducible refine K1.mono ?_
  rintro e w1 ⟨a1, q1, rfl, ho1, hb1⟩
  have K2 := clear_first a1 q1 w1 (own_tsl ho1 (Below.refl _ _))
  have HB1 := Lib.hid hb1
  clear ho1 hb1 K1
  go_wp2_with fail
  with_reducible refine K2.mono ?_
  rintro e w2 ⟨a2, q2, rfl, hb2⟩
  have HB2 := Lib.hid (HB1.out.trans (hb2.mono HB1.out.size))
  have hs2 := HB2.out.size
  have HB3 : Hid (∀ o, Below w.heap.size w (w2.alloc o)) := Lib.hid fun o => HB2.out.alloc hs2 o
  have HX3 : Hid (∀ T, R4 (w2.alloc (.cells #[.int .i64 3, .slice a2 0 q2, .int .i64 0, .int .i64 0] T)) w2.heap.size (.int .i64 3) (.slice a2 0 q2) (.int .i64 0) (.int .i64 0)) := Lib.hid fun T => r4_new w2 T _ _ _ _
  have K3 := fun o => HT4.out (w2.alloc o) (HB3.out o)
  clear hb2 K2 HT4
  go_wp2_with fail
  with_reducible refine (K3 _).mono ?_
  rintro e w4 ⟨a4, n4, c4, rfl, ho4, hb4⟩
  have HB4 := Lib.hid ((HB3.out _).trans (hb4.mono (HB3.out _).size))
  have HX4 := Lib.hid ((HX3.out 49).on hb4)
  have hs4 := HB4.out.size
  have HO4 := Lib.hid ho4
  have hbx : w2.heap.size < w4.heap.size := HX4.out.lt
  obtain ⟨W, hW⟩ : ∃ W, w4.alloc (.cells #[.int .i64 gg, .slice a4 n4 c4, .int .i64 kx, .int .i64 hh] 49) = W := ⟨_, rfl⟩
  have HYW : Hid (R4 W w4.heap.size (.int .i64 gg) (.slice a4 n4 c4) (.int .i64 kx) (.int .i64 hh)) := Lib.hid (by rw [← hW]; exact r4_new w4 _ _ _ _ _)
  have HXW : Hid (R4 W w2.heap.size (.int .i64 3) (.slice a2 0 q2) (.int .i64 0) (.int .i64 0)) := Lib.hid (by rw [← hW]; exact HX4.out.alloc _)
  have HBW : Hid (Below w.heap.size w W) := Lib.hid (by rw [← hW]; exact HB4.out.alloc hs4 _)
  have HTW : Hid (∀ V, Below W.heap.size W V → TSl V a4 n4 c4 rg) := Lib.hid fun V hb => own_tsl (by rw [← hW] at hb ⊢; exact HO4.out.alloc _) hb
  have HKC : Hid (∀ V, Below w.heap.size w V → TSl V a4 n4 c4 rg → Calls Try.prog 46 #[.agg #[.int .i64 gg, .slice a4 n4 c4, .int .i64 kx, .int .i64 hh], .int .i64 m1, .int .i64 m2] V (RTo V (rz (Rg.clrR ⟨gg, rg, kx, hh⟩) (Rg.clrE ⟨gg, rg, kx, hh⟩ m1 m2)) (Rg.clrE ⟨gg, rg, kx, hh⟩ m1 m2))) := Lib.hid fun V _ hT => Clear_R gg kx hh m1 m2 a4 n4 c4 rg V HG.out hT (by omega) (by omega)
  obtain ⟨E, hE⟩ : ∃ E, Rg.clrE ⟨gg, rg, kx, hh⟩ m1 m2 = E := ⟨_, rfl⟩
  rw [hE] at HKC
  have hE9 : E = 9 ∨ E = 0 := by rw [← hE]; unfold Rg.clrE; split; exact Or.inl rfl; exact Or.inr rfl
  have HW := Lib.hid hW.symm
  clear hb4 ho4 K3 hE
  obtain ⟨hl, c0, c1, c2, c3, z0, z1, z2, z3⟩ := HYW.out
  obtain ⟨hm, d0, d1, d2, d3, y0, y1, y2, y3⟩ := HXW.out
  have T1 : RBox W w2.heap.size := ⟨_, _, _, _, HXW.out⟩
  have T2 := HBW.out
  have T3 := hl
  have hne : w4.heap.size ≠ w2.heap.size := by omega
  have hwB : w.heap.size ≤ w2.heap.size := hs2
  go_wp2_with fail
  rcases hE9 with rfl | rfl
  · have HK : Hid (∀ V, Below W.heap.size W V → Calls Try.prog 46 #[.agg #[.int .i64 gg, .slice a4 n4 c4, .int .i64 kx, .int .i64 hh], .int .i64 m1, .int .i64 m2] V (fun e w' => ∃ a n c, e = .returned (.tuple #[.agg #[.int .i64 0, .slice a n c, .int .i64 0, .int .i64 0], .int .i64 9]) ∧ w'.ownsRow V.heap.size 56 2 (.slice a n c) n (tv []) ∧ Below V.heap.size V w')) := Lib.hid fun V hb => HKC.out V (HBW.out.trans (hb.mono HBW.out.size)) (HTW.out V hb)
    clear d0 d1 d2 d3 y0 y1 y2 y3 z0 z1 z2 z3
    go_region_held3 (fun V => V.cell? ⟨w4.heap.size, 0, none⟩ = some (.int .i64 gg) ∧ V.cell? ⟨w4.heap.size, 1, none⟩ = some (.slice a4 n4 c4) ∧ V.cell? ⟨w4.heap.size, 2, none⟩ = some (.int .i64 kx) ∧ V.cell? ⟨w4.heap.size, 3, none⟩ = some (.int .i64 hh) ∧ Below w.heap.size w V ∧ w4.heap.size < V.heap.size ∧ RBox V (w2.heap.size))
      (first
        | with_reducible exact ⟨by assumption, by assumption, by assumption, by assumption, by assumption, by assumption, by assumption⟩
        | (go_split_ands; with_reducible exact bx_on hbs ⟨by assumption, by assumption, by assumption, by assumption, by assumption, by assumption, by assumption⟩)
        | (go_split_ands; with_reducible exact bx_set4 hne hwB ⟨by assumption, by assumption, by assumption, by assumption, by assumption, by assumption, by assumption⟩)
        | exact ⟨by assumption, by assumption, by assumption, by assumption, Below.drew (by assumption), by assumption, RBox.drew (by assumption)⟩
        | (go_split_ands; exact bx_on hbs ⟨by assumption, by assumption, by assumption, by assumption, Below.drew (by assumption), by assumption, RBox.drew (by assumption)⟩)
        | go_keep)
      (first
        | (go_at_call 22; with_reducible refine w1'.use ?_; rintro e ws ⟨rfl, rfl⟩)
        | (go_at_call 22; with_reducible refine w2'.use ?_; rintro e ws ⟨rfl, rfl⟩)
        | (go_at_call 46; refine (HK.out _ (by first | exact Below.refl _ _ | exact (Below.refl _ _).drew)).mono ?_; rintro e ws ⟨a6, n6, c6, rfl, ho6, hbs⟩; obtain ⟨u0, u1, u2, u3, HR6⟩ := RBox.on (by first | (with_reducible assumption) | (go_split_ands; with_reducible assumption)) hbs; have HR7 := Lib.hid HR6; have HB6 := Lib.hid (below_arm (w := w) (by first | (with_reducible assumption) | (go_split_ands; with_reducible assumption)) hbs); have HL6 := Lib.hid (own_len ho6); have HT6 := Lib.hid (own_tsl ho6 (Below.refl _ _)); obtain ⟨hm6, d0, d1, d2, d3, y0, y1, y2, y3⟩ := HR6))
    go_wp2_with fail
    obtain rfl : n6 = 0 := HL6.out.symm
    have HBS := Lib.hid (below_set4 HB6.out hwB (.int .i64 0) (.slice a6 0 c6) (.int .i64 0) (.int .i64 0))
    have K9 := Same_R 0 0 0 a6 none 0 c6 0 [] _ (HT6.out.empty (w' := ((((ws.setCell ⟨w2.heap.size, 0, none⟩ (.int .i64 0)).setCell ⟨w2.heap.size, 1, none⟩ (.slice a6 0 c6)).setCell ⟨w2.heap.size, 2, none⟩ (.int .i64 0)).setCell ⟨w2.heap.size, 3, none⟩ (.int .i64 0)))) (tsl_nil _) (by omega)
    with_reducible refine K9.mono ?_
    rintro e w9 ⟨rfl, hb9⟩
    have HB9 := Lib.hid (HBS.out.trans (hb9.mono HBS.out.size))
    clear hb9 K9
    go_wp2_with fail
    go_ret
    exact ⟨rfl, HB9.out⟩
  · have HK : Hid (∀ V, Below W.heap.size W V → Calls Try.prog 46 #[.agg #[.int .i64 gg, .slice a4 n4 c4, .int .i64 kx, .int .i64 hh], .int .i64 m1, .int .i64 m2] V (fun e w' => ∃ a n c, e = .returned (.tuple #[.agg #[.int .i64 (gg + 1), .slice a n c, .int .i64 0, .int .i64 0], .int .i64 0]) ∧ w'.ownsRow V.heap.size 56 2 (.slice a n c) n (tv []) ∧ Below V.heap.size V w')) := Lib.hid fun V hb => HKC.out V (HBW.out.trans (hb.mono HBW.out.size)) (HTW.out V hb)
    clear d0 d1 d2 d3 y0 y1 y2 y3 z0 z1 z2 z3
    go_region_held3 (fun V => V.cell? ⟨w4.heap.size, 0, none⟩ = some (.int .i64 gg) ∧ V.cell? ⟨w4.heap.size, 1, none⟩ = some (.slice a4 n4 c4) ∧ V.cell? ⟨w4.heap.size, 2, none⟩ = some (.int .i64 kx) ∧ V.cell? ⟨w4.heap.size, 3, none⟩ = some (.int .i64 hh) ∧ Below w.heap.size w V ∧ w4.heap.size < V.heap.size ∧ RBox V (w2.heap.size))
      (first
        | with_reducible exact ⟨by assumption, by assumption, by assumption, by assumption, by assumption, by assumption, by assumption⟩
        | (go_split_ands; with_reducible exact bx_on hbs ⟨by assumption, by assumption, by assumption, by assumption, by assumption, by assumption, by assumption⟩)
        | (go_split_ands; with_reducible exact bx_set4 hne hwB ⟨by assumption, by assumption, by assumption, by assumption, by assumption, by assumption, by assumption⟩)
        | exact ⟨by assumption, by assumption, by assumption, by assumption, Below.drew (by assumption), by assumption, RBox.drew (by assumption)⟩
        | (go_split_ands; exact bx_on hbs ⟨by assumption, by assumption, by assumption, by assumption, Below.drew (by assumption), by assumption, RBox.drew (by assumption)⟩)
        | go_keep)
      (first
        | (go_at_call 22; with_reducible refine w1'.use ?_; rintro e ws ⟨rfl, rfl⟩)
        | (go_at_call 22; with_reducible refine w2'.use ?_; rintro e ws ⟨rfl, rfl⟩)
        | (go_at_call 46; refine (HK.out _ (by first | exact Below.refl _ _ | exact (Below.refl _ _).drew)).mono ?_; rintro e ws ⟨a6, n6, c6, rfl, ho6, hbs⟩; obtain ⟨u0, u1, u2, u3, HR6⟩ := RBox.on (by first | (with_reducible assumption) | (go_split_ands; with_reducible assumption)) hbs; have HR7 := Lib.hid HR6; have HB6 := Lib.hid (below_arm (w := w) (by first | (with_reducible assumption) | (go_split_ands; with_reducible assumption)) hbs); have HL6 := Lib.hid (own_len ho6); have HT6 := Lib.hid (own_tsl ho6 (Below.refl _ _)); obtain ⟨hm6, d0, d1, d2, d3, y0, y1, y2, y3⟩ := HR6))
    go_wp2_with fail
    obtain rfl : n6 = 0 := HL6.out.symm
    have HX8 := Lib.hid (HR7.out.set (.int .i64 (gg + 1)) (.slice a6 0 c6) (.int .i64 0) (.int .i64 0))
    have HB8 := Lib.hid (below_set4 HB6.out hwB (.int .i64 (gg + 1)) (.slice a6 0 c6) (.int .i64 0) (.int .i64 0))
    have HC8 : Hid (((((ws.setCell ⟨w2.heap.size, 0, none⟩ (.int .i64 (gg + 1))).setCell ⟨w2.heap.size, 1, none⟩ (.slice a6 0 c6)).setCell ⟨w2.heap.size, 2, none⟩ (.int .i64 0)).setCell ⟨w2.heap.size, 3, none⟩ (.int .i64 0)).cell? ⟨w4.heap.size, 0, none⟩ = some (.int .i64 gg) ∧ w4.heap.size < ((((ws.setCell ⟨w2.heap.size, 0, none⟩ (.int .i64 (gg + 1))).setCell ⟨w2.heap.size, 1, none⟩ (.slice a6 0 c6)).setCell ⟨w2.heap.size, 2, none⟩ (.int .i64 0)).setCell ⟨w2.heap.size, 3, none⟩ (.int .i64 0)).heap.size) := Lib.hid ⟨by first | (with_reducible assumption) | (go_split_ands; with_reducible assumption), by first | (with_reducible assumption) | (go_split_ands; with_reducible assumption)⟩
    generalize ((((ws.setCell ⟨w2.heap.size, 0, none⟩ (.int .i64 (gg + 1))).setCell ⟨w2.heap.size, 1, none⟩ (.slice a6 0 c6)).setCell ⟨w2.heap.size, 2, none⟩ (.int .i64 0)).setCell ⟨w2.heap.size, 3, none⟩ (.int .i64 0)) = W8 at *
    have KM : Hid (∀ V, Calls Try.prog 45 #[.agg #[.int .i64 (gg + 1), .slice a6 0 c6, .int .i64 0, .int .i64 0], .int .i64 m3, .bool true] V fun e w' => e = .returned (.tuple #[.bool true, .int .i64 0]) ∧ Below V.heap.size V w') := Lib.hid fun V => May_R (gg + 1) 0 0 m3 true true a6 0 c6 [] V (HG.out.clr (by show gg < 1000; omega)) (HT6.out.empty) (by omega) (by omega) rfl
    obtain ⟨hl8, C0, C1, C2, C3, Z0, Z1, Z2, Z3⟩ := HX8.out
    have T2 := HB8.out
    have T4 := HC8.out.1
    clear Z0 Z1 Z2 Z3
    go_region_held3 (fun V => V.cell? ⟨w2.heap.size, 0, none⟩ = some (.int .i64 (gg + 1)) ∧ V.cell? ⟨w2.heap.size, 1, none⟩ = some (.slice a6 0 c6) ∧ V.cell? ⟨w2.heap.size, 2, none⟩ = some (.int .i64 0) ∧ V.cell? ⟨w2.heap.size, 3, none⟩ = some (.int .i64 0) ∧ Below w.heap.size w V ∧ w2.heap.size < V.heap.size)
      (first
        | with_reducible exact ⟨by assumption, by assumption, by assumption, by assumption, by assumption, by assumption⟩
        | (go_split_ands; with_reducible exact b1_on hbs ⟨by assumption, by assumption, by assumption, by assumption, by assumption, by assumption⟩)
        | exact ⟨by assumption, by assumption, by assumption, by assumption, Below.drew (by assumption), by assumption⟩
        | (go_split_ands; exact b1_on hbs ⟨by assumption, by assumption, by assumption, by assumption, Below.drew (by assumption), by assumption⟩)
        | go_keep)
      (first
        | (go_at_call 22; with_reducible refine w3'.use ?_; rintro e ws ⟨rfl, rfl⟩)
        | (go_at_call 45; refine (KM.out _).mono ?_; rintro e ws ⟨rfl, hbs⟩; have HC9 := Lib.hid ((hbs.cell (p := ⟨w4.heap.size, 0, none⟩) HC8.out.2).trans HC8.out.1); have HB9 := Lib.hid (below_arm (w := w) (by first | (with_reducible assumption) | (go_split_ands; with_reducible assumption)) hbs)))
    go_split_ands
    have T9 := HC9.out
    go_wp2_with fail
    with_reducible refine (Same_R (gg + 1) 0 0 a6 none 0 c6 0 [] _ (HT6.out.empty) (tsl_nil _) (by omega)).mono ?_
    rintro e w10 ⟨rfl, hb10⟩
    have HF := Lib.hid (HB9.out.trans (hb10.mono HB9.out.size))
    clear hb10
    go_wp2_with fail
    go_ret
    exact ⟨rfl, HF.out⟩

theorem resvClears_walk (a0 : Option Addr) (len0 cap0 : Nat) (z0 : Nat → Nat → Int) (a1 a2 a3 : Int) (w : World) (w0 : LArg w a0 len0 cap0 z0) (_ : (Lit.int .i64 a1).wf = true) (_ : (Lit.int .i64 a2).wf = true) (_ : (Lit.int .i64 a3).wf = true) :
    Calls Try.prog 15 #[.slice a0 len0 cap0, .int .i64 a1, .int .i64 a2, .int .i64 a3] w fun e w' => e = .returned (.bool true) ∧ Below w.heap.size w w' :=
  clears_core a0 len0 cap0 z0 a1 a2 a3 w w0

end Go.Proofs.Ytoglkellaliegaa
