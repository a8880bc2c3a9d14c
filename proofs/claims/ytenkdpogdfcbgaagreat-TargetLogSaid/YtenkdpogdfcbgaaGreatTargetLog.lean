/- TargetLog: the log says all: replayed it makes the state; for every input. -/
import Derived.Test.YtenkdpogdfcbgaaGreatTgA
import Derived.Test.YtenkdpogdfcbgaaGreatTgS
import Derived.Test.YtenkdpogdfcbgaaGreatArgsL
namespace Go.Proofs.YtenkdpogdfcbgaaGreat
open Go.RowKit

set_option maxRecDepth 100000 in
set_option maxHeartbeats 8000000 in
theorem targetLog_walk (a0 : Option Addr) (len0 cap0 : Nat) (z0 : Nat → Nat → Int) (a1 : Option Addr) (len1 cap1 : Nat) (t1 : List Lg.Op) (w : World) (w0 : LArg w a0 len0 cap0 z0) (w1 : OArg w a1 len1 cap1 t1) :
    Calls Tryz.prog 5 #[.slice a0 len0 cap0, .slice a1 len1 cap1] w fun e w' => e = .returned (.bool true) ∧ Below w.heap.size w w' := by
  obtain ⟨NN, hNN⟩ := w0.lens
  obtain ⟨q, hq⟩ : ∃ q, min len0 50 = q := ⟨_, rfl⟩
  have AS : Hid (∀ V, Below w.heap.size w V → TgW V w.heap.size (w.heap.size + 1) Tg.t1 0 → Calls Tryz.prog 10 #[.pointer (some ⟨w.heap.size, 0, none⟩), .slice a0 len0 cap0, .slice a1 len1 cap1] V (TgTo V w.heap.size (w.heap.size + 1) (Tg.asks t1 NN z0 Tg.t1 q) (0 + q) (.returned (.tuple #[])))) :=
    Lib.hid fun V hb h => asks_T w.heap.size (w.heap.size + 1) 0 Tg.t1 a0 len0 cap0 q NN z0 a1 len1 cap1 t1 w V h hNN w1 hb (Nat.le_refl _) hq (by omega)
  have HTL := Lib.hid (Tg.asks_len t1 NN z0 Tg.t1 q)
  obtain ⟨T, hT⟩ : ∃ T, Tg.asks t1 NN z0 Tg.t1 q = T := ⟨_, rfl⟩
  rw [hT] at AS HTL
  have N1 := New_X w
  clear w0 w1 hNN hq hT
  go_enter Tryz.func5, Tryz.ntmps5
  go_wp2_with fail
  with_reducible refine N1.mono ?_
  rintro e v1 ⟨rfl, hx1, hb1, hs1⟩
  have HT1 := Lib.hid (tgw_zero hx1 (show w.heap.size < w.heap.size + 1 by omega) (by omega)); have HB1 := Lib.hid hb1
  clear hx1 hb1 N1 hs1
  have D1 := Do_first w.heap.size (w.heap.size + 1) 1 v1 HT1.out (by decide) (by decide)
  go_wp2_with fail
  with_reducible refine D1.mono ?_
  rintro e v2 ⟨rfl, h2, g2⟩
  have HT2 := Lib.hid h2; have HB2 := Lib.hid (tgTo_below HB1.out g2 (Nat.le_refl _))
  clear h2 g2 D1 HT1 HB1
  have S1 := State_T w.heap.size (w.heap.size + 1) 0 Tg.t1 v2 HT2.out
  go_wp2_with fail
  with_reducible refine S1.mono ?_
  rintro e v3 ⟨a5, n5, c5, b5, m5, d5, rs5, rfl, hs5, hb3⟩
  obtain rfl : m5 = 1 := hs5.vlen.symm
  have HT3 := Lib.hid (HT2.out.keep hb3); have HB3 := Lib.hid (HB2.out.trans (hb3.mono HB2.out.size))
  clear hs5 hb3 S1 HT2 HB2
  have FV := fd_vols a5 b5 n5 c5 1 d5
  have A1 := AS.out v3 HB3.out HT3.out
  go_wp2_with fail
  clear FV
  with_reducible refine A1.mono ?_
  rintro e v4 ⟨rfl, h4, g4⟩
  have HT4 := Lib.hid h4; have HB4 := Lib.hid (tgTo_below HB3.out g4 (Nat.le_refl _))
  clear h4 g4 A1 HT3 HB3 AS
  have L1 := Log_T w.heap.size (w.heap.size + 1) (0 + q) T v4 HT4.out
  go_wp2_with fail
  with_reducible refine L1.mono ?_
  rintro e v5 ⟨rfl, rfl⟩
  have R1 := Replay_T HT4.out.good v4
  clear L1
  generalize Tg.text T = TX at *
  go_wp2_with fail
  with_reducible refine R1.mono ?_
  rintro e v5 ⟨a7, n7, c7, b7, m7, d7, rs7, rfl, hs7, hb5⟩
  have hal := hb5.alloc hb5.size (.cells #[.slice a7 n7 c7, .slice b7 m7 d7] 33)
  have HT6 := Lib.hid (HT4.out.keep hal); have HB6 := Lib.hid (HB4.out.trans (hal.mono HB4.out.size)); have HS6 := Lib.hid (hs7.keep ((Below.refl _ v5).alloc (Nat.le_refl _) (.cells #[.slice a7 n7 c7, .slice b7 m7 d7] 33)))
  have HX6 := Lib.hid (bxs_new v5 33 #[.slice a7 n7 c7, .slice b7 m7 d7] [.slice a7 n7 c7, .slice b7 m7 d7] rfl)
  clear hal hs7 hb5 R1 HB4 HT4
  have hone1 : 1 ≤ T.l.length := HTL.out
  have hone : (1 : Int) ≤ (T.l.length : Int) := by omega
  have hr := HT6.out.good.right
  have HR := Lib.hid hr
  clear hr HTL
  go_wp2_with fail
  obtain ⟨XB, hXB⟩ : ∃ XB, v5.heap.size = XB := ⟨_, rfl⟩
  rw [hXB] at HX6
  simp only [hXB]
  generalize v5.alloc (.cells #[.slice a7 n7 c7, .slice b7 m7 d7] 33) = wX at *
  clear hXB
  have HS0 : Hid (StS wX XB (.slice a7 n7 c7) (.slice b7 m7 d7) wX) := Lib.hid ⟨HX6.out.c 0 _ rfl, HX6.out.c 1 _ rfl, Below.refl _ _⟩
  obtain ⟨x0, x1, xb⟩ := HS0.out
  go_region_held3 (fun V => V.cell? ⟨XB, 0, none⟩ = some (.slice a7 n7 c7) ∧ V.cell? ⟨XB, 1, none⟩ = some (.slice b7 m7 d7) ∧ Below wX.heap.size wX V)
    (first | with_reducible exact HSS.out | with_reducible exact StS.drew HS0.out | with_reducible exact HS0.out)
    (first
      | (go_at_call 9; (have HSV := Lib.hid (show StS wX XB (.slice a7 n7 c7) (.slice b7 m7 d7) _ from (by first | with_reducible exact HSS.out | with_reducible exact StS.drew HS0.out | with_reducible exact HS0.out))); (with_reducible refine (State_T w.heap.size (w.heap.size + 1) (0 + q) T _ (HT6.out.keep HSV.out.2.2)).mono ?_); rintro e ws ⟨a6, n6, c6, b6, m6, d6, rs6, rfl, hs, hbs⟩; have HSS := Lib.hid (StS.on HSV.out hbs); have HQ := Lib.hid hs; clear hs hbs HSV)
      | (go_at_call 14; (with_reducible refine (Same_V a7 a6 b7 b6 n7 c7 m7 d7 n6 c6 m6 d6 _ _ rs7 rs6 T.st _ (HS6.out.keep HSS.out.2.2) HQ.out HR.out).mono ?_); rintro e ws ⟨rfl, hbs⟩; have HSS := Lib.hid (StS.on HSS.out hbs); clear hbs)
      | (go_at_call 23; (with_reducible refine (Check_V a6 b6 n6 c6 m6 d6 _ rs6 T.st _ HQ.out HR.out).mono ?_); rintro e ws ⟨rfl, hbs⟩; have HSS := Lib.hid (StS.on HSS.out hbs); clear hbs)
      | (go_at_call 13; (with_reducible refine (Resv_T w.heap.size (w.heap.size + 1) (0 + q) T _ (HT6.out.keep HSS.out.2.2)).mono ?_); rintro e ws ⟨x, y, z, rfl, ho, -, hbs⟩; have HSS := Lib.hid (StS.on HSS.out hbs); have HRR := Lib.hid (Rs.own_tsl ho (Below.refl _ _)); clear ho hbs)
      | (go_at_call 24; (with_reducible refine (Rs.Check_R T.r.gen T.r.kind T.r.holder x y z T.r.regs _ HT6.out.good.rv HRR.out).mono ?_); rintro e ws ⟨rfl, hbs⟩; have HSS := Lib.hid (StS.on HSS.out hbs); clear hbs))
  all_goals
    go_wp2_with fail
    go_ret
    exact ⟨rfl, HB6.out.trans (HSS.out.2.2.mono HB6.out.size)⟩

end Go.Proofs.YtenkdpogdfcbgaaGreat
