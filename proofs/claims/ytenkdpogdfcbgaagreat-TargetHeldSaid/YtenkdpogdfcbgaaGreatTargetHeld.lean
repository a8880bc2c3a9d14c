/- TargetHeld: who may not is refused, and nothing is another; for every input. -/
import Derived.Test.YtenkdpogdfcbgaaGreatTgA
import Derived.Test.YtenkdpogdfcbgaaGreatTgS
import Derived.Test.YtenkdpogdfcbgaaGreatTgE
import Derived.Test.YtenkdpogdfcbgaaGreatArgsL
import Derived.Test.YtenkdpogdfcbgaaGreatArgs5
namespace Go.Proofs.YtenkdpogdfcbgaaGreat
open Go.RowKit

theorem Tg.reg_t1 : Tg.regT Tg.t1 1 0 1 = ⟨Tg.tr, 0⟩ := by kernel_rfl
theorem Tg.res_tr : Tg.resT Tg.tr 1 1 3 = ⟨Tg.t2, 0⟩ := by kernel_rfl
theorem Tg.read_t2 : Tg.readR Tg.t2 2 ⟨#[97]⟩ 0 = (⟨#[]⟩, 9) := by kernel_rfl
theorem Tg.do_t2 : Tg.doR Tg.t2 2 ⟨2, ⟨#[97]⟩, ⟨#[]⟩, 0, ⟨#[]⟩⟩ = ⟨Tg.t2, 9⟩ := by kernel_rfl

theorem stw_grown {w w' : World} {base : Nat} {a : Option Addr} {n c : Nat} {b : Option Addr} {m d : Nat} {rs : List Rw} {s : Vo.St} (h : StW w base a n c b m d rs s) {B : Nat} (hg : w.grownBy w' (some B)) (hB : B < base) : StW w' base a n c b m d rs s :=
  h.kept hg (fun v hv k hk e => by have := (h.lt v hv k hk).1; have := Option.some.inj e; omega) (fun v hv k hk => (h.lt v hv k hk).2)

set_option maxRecDepth 100000 in
set_option maxHeartbeats 8000000 in
theorem targetHeld_walk (a0 : Option Addr) (len0 cap0 : Nat) (z0 : Nat → Nat → Int) (a1 : Option Addr) (len1 cap1 : Nat) (t1 : List Lg.Op) (a2 : Int) (a3_0 : Int) (a3_1 a3_2 : ByteArray) (a3_3 : Int) (a3_4 : ByteArray) (w : World) (w0 : LArg w a0 len0 cap0 z0) (w1 : OArg w a1 len1 cap1 t1) (_w2 : (Lit.int .i64 a2).wf = true)
    (_ : (Lit.int .i64 a3_0).wf = true) (w3_1 : a3_1.size ≤ maxLen) (w3_2 : a3_2.size ≤ maxLen) (_ : (Lit.int .i64 a3_3).wf = true) (w3_4 : a3_4.size ≤ maxLen) :
    Calls Tryz.prog 4 #[.slice a0 len0 cap0, .slice a1 len1 cap1, .int .i64 a2, .agg #[.int .i64 a3_0, .string a3_1, .string a3_2, .int .i64 a3_3, .string a3_4]] w fun e w' => e = .returned (.bool true) ∧ Below w.heap.size w w' := by
  obtain ⟨NN, hNN⟩ := w0.lens
  obtain ⟨q, hq⟩ : ∃ q, min len0 50 = q := ⟨_, rfl⟩
  have hal := (Below.refl w.heap.size w).alloc (Nat.le_refl _) (.cells #[.int .i64 a3_0, .string a3_1, .string a3_2, .int .i64 a3_3, .string a3_4] 29)
  have hsa : (w.alloc (.cells #[.int .i64 a3_0, .string a3_1, .string a3_2, .int .i64 a3_3, .string a3_4] 29)).heap.size = w.heap.size + 1 := World.size_alloc _ _
  have HO0 := Lib.hid (bxs_new w 29 #[.int .i64 a3_0, .string a3_1, .string a3_2, .int .i64 a3_3, .string a3_4] [.int .i64 a3_0, .string a3_1, .string a3_2, .int .i64 a3_3, .string a3_4] rfl)
  have HB0 := Lib.hid hal
  have AS : Hid (∀ V, Below w.heap.size w V → TgW V (w.heap.size + 1) (w.heap.size + 2) Tg.t2 1 → Calls Tryz.prog 10 #[.pointer (some ⟨w.heap.size + 1, 0, none⟩), .slice a0 len0 cap0, .slice a1 len1 cap1] V (TgTo V (w.heap.size + 1) (w.heap.size + 2) (Tg.asks t1 NN z0 Tg.t2 q) (1 + q) (.returned (.tuple #[])))) :=
    Lib.hid fun V hb h => asks_T (w.heap.size + 1) (w.heap.size + 2) 1 Tg.t2 a0 len0 cap0 q NN z0 a1 len1 cap1 t1 w V h hNN w1 hb (Nat.le_succ _) hq (by omega)
  obtain ⟨T, hT⟩ : ∃ T, Tg.asks t1 NN z0 Tg.t2 q = T := ⟨_, rfl⟩
  rw [hT] at AS
  have N1 := New_X (w.alloc (.cells #[.int .i64 a3_0, .string a3_1, .string a3_2, .int .i64 a3_3, .string a3_4] 29))
  rw [hsa] at N1
  have hy := wi_lt a2 8 (by decide)
  have WI := fun W => within_any a2 8 8 W rfl (by decide) (by decide)
  generalize wi a2 8 = y at *
  have HQ := Lib.hid hq
  have H34 := Lib.hid (And.intro w3_1 (And.intro w3_2 w3_4))
  clear w0 w1 hNN hq hT hal hsa w3_1 w3_2 w3_4
  go_enter Tryz.func4, Tryz.ntmps4
  go_wp2_with fail
  with_reducible refine N1.mono ?_
  rintro e v1 ⟨rfl, hx1, hb1, hs1⟩
  have HT1 := Lib.hid (tgw_zero hx1 (show w.heap.size + 1 < w.heap.size + 2 by omega) (by omega)); have HB1 := Lib.hid (HB0.out.trans (hb1.mono (Nat.le_succ _)))
  have HO1 := Lib.hid (HO0.out.on (by rw [World.size_alloc]; exact hb1))
  clear hx1 hb1 N1 hs1 HB0 HO0
  have D1 := Do_first (w.heap.size + 1) (w.heap.size + 2) 1 v1 HT1.out (by decide) (by decide)
  go_wp2_with fail
  with_reducible refine D1.mono ?_
  rintro e v2 ⟨rfl, h2, g2⟩
  have HT2 := Lib.hid h2; have HB2 := Lib.hid (tgTo_below HB1.out g2 (by omega)); have HO2 := Lib.hid (HO1.out.grown g2 (fun e => by have := Option.some.inj e; omega))
  clear h2 g2 D1 HT1 HB1 HO1
  have R1 := Register_T (w.heap.size + 1) (w.heap.size + 2) 0 Tg.t1 1 0 1 v2 HT2.out (by decide) (by decide) (by decide) (by decide) (by decide)
  rw [Tg.reg_t1] at R1
  go_wp2_with fail
  with_reducible refine R1.mono ?_
  rintro e v3 ⟨rfl, h3, g3⟩
  have HT3 := Lib.hid h3; have HB3 := Lib.hid (tgTo_below HB2.out g3 (by omega)); have HO3 := Lib.hid (HO2.out.grown g3 (fun e => by have := Option.some.inj e; omega))
  clear h3 g3 R1 HT2 HB2 HO2
  have R2 := Reserve_T (w.heap.size + 1) (w.heap.size + 2) (0 + 1) Tg.tr 1 1 3 v3 HT3.out (by decide) (by decide) (by decide)
  rw [Tg.res_tr] at R2
  go_wp2_with fail
  with_reducible refine R2.mono ?_
  rintro e v4 ⟨rfl, h4, g4⟩
  have HT4 := Lib.hid h4; have HB4 := Lib.hid (tgTo_below HB3.out g4 (by omega)); have HO4 := Lib.hid (HO3.out.grown g4 (fun e => by have := Option.some.inj e; omega))
  clear h4 g4 R2 HT3 HB3 HO3
  have R3 := Read_T (w.heap.size + 1) (w.heap.size + 2) (0 + 1) Tg.t2 2 ⟨#[97]⟩ 0 v4 HT4.out (by decide) (by decide)
  rw [Tg.read_t2] at R3
  go_wp2_with fail
  with_reducible refine R3.mono ?_
  rintro e v5 ⟨rfl, hb5⟩
  have HT5 := Lib.hid (HT4.out.keep hb5); have HB5 := Lib.hid (HB4.out.trans (hb5.mono HB4.out.size)); have HO5 := Lib.hid (HO4.out.on hb5)
  clear hb5 R3 HT4 HB4 HO4
  have D2 := Do_T (w.heap.size + 1) (w.heap.size + 2) (0 + 1) Tg.t2 2 ⟨2, ⟨#[97]⟩, ⟨#[]⟩, 0, ⟨#[]⟩⟩ v5 HT5.out (by decide) (by decide) (by decide) (by decide) (by decide)
  rw [Tg.do_t2] at D2
  go_wp2_with fail
  with_reducible refine D2.mono ?_
  rintro e v6 ⟨rfl, h6, g6⟩
  have HT6 := Lib.hid h6; have HB6 := Lib.hid (tgTo_below HB5.out g6 (by omega)); have HO6 := Lib.hid (HO5.out.grown g6 (fun e => by have := Option.some.inj e; omega))
  clear h6 g6 D2 HT5 HB5 HO5
  have A1 := AS.out v6 HB6.out HT6.out
  go_wp2_with fail
  with_reducible refine A1.mono ?_
  rintro e v7 ⟨rfl, h7, g7⟩
  have HT7 := Lib.hid h7; have HB7 := Lib.hid (tgTo_below HB6.out g7 (by omega)); have HO7 := Lib.hid (HO6.out.grown g7 (fun e => by have := Option.some.inj e; omega))
  clear h7 g7 A1 HT6 HB6 HO6 AS
  go_wp2_with fail
  with_reducible refine (WI _).mono ?_
  rintro e w' ⟨rfl, rfl⟩
  have S1 := Resv_T (w.heap.size + 1) (w.heap.size + 2) (1 + q) T v7 HT7.out
  go_wp2_with fail
  with_reducible refine S1.mono ?_
  rintro e v8 ⟨x8, y8, z8, rfl, ho8, -, hb8⟩
  have HT8 := Lib.hid (HT7.out.keep hb8); have HB8 := Lib.hid (HB7.out.trans (hb8.mono HB7.out.size)); have HO8 := Lib.hid (HO7.out.on hb8)
  have M1 := Rs.May_R T.r.gen T.r.kind T.r.holder (y : Nat) true (Rg.mayB T.r (y : Nat) true) x8 y8 z8 T.r.regs v8 HT8.out.good.rv (Rs.own_tsl ho8 (Below.refl _ _)) (by omega) (by omega) rfl
  clear ho8 hb8 S1 HT7 HB7 HO7 WI
  go_wp2_with fail
  with_reducible refine M1.mono ?_
  rintro e v9 ⟨rfl, hb9⟩
  have HT9 := Lib.hid (HT8.out.keep hb9); have HB9 := Lib.hid (HB8.out.trans (hb9.mono HB8.out.size)); have HO9 := Lib.hid (HO8.out.on hb9)
  clear hb9 M1 HT8 HB8 HO8
  have S2 := Resv_T (w.heap.size + 1) (w.heap.size + 2) (1 + q) T v9 HT9.out
  go_wp2_with fail
  with_reducible refine S2.mono ?_
  rintro e v10 ⟨x8, y8, z8, rfl, ho8, -, hb10⟩
  have HT10 := Lib.hid (HT9.out.keep hb10); have HB10 := Lib.hid (HB9.out.trans (hb10.mono HB9.out.size)); have HO10 := Lib.hid (HO9.out.on hb10)
  have M2 := Rs.May_R T.r.gen T.r.kind T.r.holder (y : Nat) false (Rg.mayB T.r (y : Nat) false) x8 y8 z8 T.r.regs v10 HT10.out.good.rv (Rs.own_tsl ho8 (Below.refl _ _)) (by omega) (by omega) rfl
  clear ho8 hb10 S2 HT9 HB9 HO9
  go_wp2_with fail
  with_reducible refine M2.mono ?_
  rintro e v11 ⟨rfl, hb11⟩
  have HT11 := Lib.hid (HT10.out.keep hb11); have HB11 := Lib.hid (HB10.out.trans (hb11.mono HB10.out.size)); have HO11 := Lib.hid (HO10.out.on hb11)
  clear hb11 M2 HT10 HB10 HO10
  have S3 := State_T (w.heap.size + 1) (w.heap.size + 2) (1 + q) T v11 HT11.out
  go_wp2_with fail
  with_reducible refine S3.mono ?_
  rintro e v12 ⟨a8, n8, c8, b8, m8, d8, rs8, rfl, hs8, hb12⟩
  have HT12 := Lib.hid (HT11.out.keep hb12); have HB12 := Lib.hid (HB11.out.trans (hb12.mono HB11.out.size)); have HO12 := Lib.hid (HO11.out.on hb12)
  have HS12 := Lib.hid (hs8.low HT11.out.le)
  clear hb12 hs8 S3 HT11 HB11 HO11
  have L1 := Log_T (w.heap.size + 1) (w.heap.size + 2) (1 + q) T v12 HT12.out
  go_wp2_with fail
  with_reducible refine L1.mono ?_
  rintro e v13 ⟨rfl, rfl⟩
  have hal := (Below.refl v12.heap.size v12).alloc (Nat.le_refl _) (.cells #[.slice a8 n8 c8, .slice b8 m8 d8] 33)
  have HT13 := Lib.hid (HT12.out.keep hal); have HB13 := Lib.hid (HB12.out.trans (hal.mono HB12.out.size)); have HO13 := Lib.hid (HO12.out.on hal); have HS13 := Lib.hid (HS12.out.keep hal)
  have HX13 := Lib.hid (bxs_new v12 33 #[.slice a8 n8 c8, .slice b8 m8 d8] [.slice a8 n8 c8, .slice b8 m8 d8] rfl)
  have hXB1 : w.heap.size + 2 ≤ v12.heap.size := HT12.out.le
  have o1 := HO13.out.c 1 _ rfl; have o3 := HO13.out.c 3 _ rfl
  have K1 := Read_T (w.heap.size + 1) (w.heap.size + 2) (1 + q) T (y : Nat) a3_1 a3_3 _ HT13.out (by omega) (by omega)
  have hrd := Tg.read_held T (y : Nat) a3_1 a3_3
  clear hal L1 HT12 HB12 HO12 HS12
  generalize Tg.readR T (y : Nat) a3_1 a3_3 = Z at *
  obtain ⟨Z1, Z2⟩ := Z
  dsimp only at hrd
  generalize Rg.mayB T.r (y : Nat) false = rd at *
  go_wp2_with fail
  obtain ⟨XB, hXB⟩ : ∃ XB, v12.heap.size = XB := ⟨_, rfl⟩
  rw [hXB] at HX13 hXB1
  simp only [hXB]
  generalize v12.alloc (.cells #[.slice a8 n8 c8, .slice b8 m8 d8] 33) = v13 at *
  clear hXB
  with_reducible refine K1.mono ?_
  rintro e v14 ⟨rfl, hb14⟩
  have HT14 := Lib.hid (HT13.out.keep hb14); have HB14 := Lib.hid (HB13.out.trans (hb14.mono HB13.out.size)); have HO14 := Lib.hid (HO13.out.on hb14); have HS14 := Lib.hid (HS13.out.keep hb14); have HX14 := Lib.hid (HX13.out.on hb14)
  clear hb14 K1 o1 o3 HT13 HB13 HO13 HS13 HX13
  have o0 := HO14.out.c 0 _ rfl; have o1 := HO14.out.c 1 _ rfl; have o2 := HO14.out.c 2 _ rfl; have o3 := HO14.out.c 3 _ rfl; have o4 := HO14.out.c 4 _ rfl
  have K2 := Do_T (w.heap.size + 1) (w.heap.size + 2) (1 + q) T (y : Nat) ⟨a3_0, a3_1, a3_2, a3_3, a3_4⟩ v14 HT14.out (by omega) (by omega) H34.out.1 H34.out.2.1 H34.out.2.2
  have hdd := Tg.do_held T (y : Nat) ⟨a3_0, a3_1, a3_2, a3_3, a3_4⟩
  have HDS := Lib.hid (Tg.do_same T (y : Nat) ⟨a3_0, a3_1, a3_2, a3_3, a3_4⟩)
  generalize Tg.doR T (y : Nat) ⟨a3_0, a3_1, a3_2, a3_3, a3_4⟩ = D at *
  obtain ⟨DT, DE⟩ := D
  dsimp only at hdd HDS
  generalize Rg.mayB T.r (y : Nat) true = wt at *
  go_wp2_with fail
  clear hrd
  with_reducible refine K2.mono ?_
  rintro e v15 ⟨rfl, h15, g15⟩
  have HT15 := Lib.hid h15; have HB15 := Lib.hid (tgTo_below HB14.out g15 (by omega)); have HS15 := Lib.hid (stw_grown HS14.out g15 (by omega)); have HX15 := Lib.hid (HX14.out.grown g15 (fun e => by have := Option.some.inj e; omega))
  have HRT := Lib.hid HT14.out.good.right
  clear h15 g15 K2 o0 o1 o2 o3 o4 HT14 HB14 HO14 HS14 HX14
  go_wp2_with fail
  clear hdd
  by_cases hE : DE = 0
  · subst hE
    go_quiet (fail)
    go_wp2_with fail
    go_ret
    exact ⟨rfl, below_drewN HB15.out _⟩
  · obtain rfl := HDS.out hE
    have hb : ((DE : Int) == 0) = false := beq_eq_false_iff_ne.2 (by omega)
    have HS0 : Hid (StS v15 XB (.slice a8 n8 c8) (.slice b8 m8 d8) v15) := Lib.hid ⟨HX15.out.c 0 _ rfl, HX15.out.c 1 _ rfl, Below.refl _ _⟩
    obtain ⟨x0, x1, xb⟩ := HS0.out
    clear hE
    have HLG : Hid (∀ V, TgW V (w.heap.size + 1) (w.heap.size + 2) DT (1 + q) → Calls Tryz.prog 16 #[.pointer (some ⟨w.heap.size + 1, 0, none⟩)] V fun e w' => e = .returned (.string (Tg.text DT)) ∧ V = w') := Lib.hid fun V h => Log_T _ _ _ DT V h
    generalize Tg.text DT = TX at *
    go_region_held3 (fun V => V.cell? ⟨XB, 0, none⟩ = some (.slice a8 n8 c8) ∧ V.cell? ⟨XB, 1, none⟩ = some (.slice b8 m8 d8) ∧ Below v15.heap.size v15 V)
      (first | with_reducible exact HSS.out | with_reducible exact StS.drew HS0.out | with_reducible exact HS0.out)
      (first
        | (go_at_call 9; (have HSV := Lib.hid (show StS v15 XB (.slice a8 n8 c8) (.slice b8 m8 d8) _ from (by first | with_reducible exact HSS.out | with_reducible exact StS.drew HS0.out | with_reducible exact HS0.out))); (with_reducible refine (State_T (w.heap.size + 1) (w.heap.size + 2) (1 + q) DT _ (HT15.out.keep HSV.out.2.2)).mono ?_); rintro e ws ⟨a6, n6, c6, b6, m6, d6, rs6, rfl, hs, hbs⟩; have HSS := Lib.hid (StS.on HSV.out hbs); have HQS := Lib.hid hs; clear hs hbs HSV)
        | (go_at_call 14; (with_reducible refine (Same_V a8 a6 b8 b6 n8 c8 m8 d8 n6 c6 m6 d6 _ _ rs8 rs6 DT.st _ (HS15.out.keep HSS.out.2.2) HQS.out HRT.out).mono ?_); rintro e ws ⟨rfl, hbs⟩; have HSS := Lib.hid (StS.on HSS.out hbs); clear hbs)
        | (go_at_call 16; (with_reducible refine (HLG.out _ (HT15.out.keep HSS.out.2.2)).mono ?_); rintro e ws ⟨rfl, rfl⟩))
    all_goals
      go_wp2_with fail
      go_ret
      exact ⟨rfl, HB15.out.trans (HSS.out.2.2.mono HB15.out.size)⟩

end Go.Proofs.YtenkdpogdfcbgaaGreat
