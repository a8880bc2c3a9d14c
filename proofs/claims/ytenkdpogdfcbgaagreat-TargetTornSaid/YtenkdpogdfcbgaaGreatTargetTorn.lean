/- TargetTorn: behind a crash there is what was done up to some deed, nobody is registered, and it goes on; for every input. -/
import Derived.Test.YtenkdpogdfcbgaaGreatTgA
import Derived.Test.YtenkdpogdfcbgaaGreatTgS
import Derived.Test.YtenkdpogdfcbgaaGreatRgT
import Derived.Test.YtenkdpogdfcbgaaGreatArgsL
namespace Go.Proofs.YtenkdpogdfcbgaaGreat
open Go.RowKit

theorem Tg.crash_t1 : Tg.crashN Tg.t1 12 = 0 ∧ Tg.crashR Tg.t1 12 = Tg.zero := ⟨by kernel_rfl, by kernel_rfl⟩

theorem stw_grownT {w w' : World} {base : Nat} {a : Option Addr} {n c : Nat} {b : Option Addr} {m d : Nat} {rs : List Rw} {s : Vo.St} (h : StW w base a n c b m d rs s) {B : Nat} (hg : w.grownBy w' (some B)) (hB : B < base) : StW w' base a n c b m d rs s :=
  h.kept hg (fun v hv k hk e => by have := (h.lt v hv k hk).1; have := Option.some.inj e; omega) (fun v hv k hk => (h.lt v hv k hk).2)

theorem tsl_empty0 (w : World) : Rs.TSl w none 0 0 [] := ⟨fun h => absurd rfl h, rfl, Nat.le_refl _, Nat.zero_le _, fun _ => ⟨rfl, rfl⟩⟩

set_option maxRecDepth 100000 in
set_option maxHeartbeats 8000000 in
theorem targetTorn_walk (a0 : Option Addr) (len0 cap0 : Nat) (z0 : Nat → Nat → Int) (a1 : Option Addr) (len1 cap1 : Nat) (t1 : List Lg.Op) (a2 : Int) (w : World) (w0 : LArg w a0 len0 cap0 z0) (w1 : OArg w a1 len1 cap1 t1) (_w2 : (Lit.int .i64 a2).wf = true) :
    Calls Tryz.prog 6 #[.slice a0 len0 cap0, .slice a1 len1 cap1, .int .i64 a2] w fun e w' => e = .returned (.bool true) ∧ Below w.heap.size w w' := by
  obtain ⟨NN, hNN⟩ := w0.lens
  obtain ⟨q, hq⟩ : ∃ q, min len0 50 = q := ⟨_, rfl⟩
  have AS : Hid (∀ V, Below w.heap.size w V → TgW V w.heap.size (w.heap.size + 1) Tg.zero 0 → Calls Tryz.prog 10 #[.pointer (some ⟨w.heap.size, 0, none⟩), .slice a0 len0 cap0, .slice a1 len1 cap1] V (TgTo V w.heap.size (w.heap.size + 1) (Tg.asks t1 NN z0 Tg.zero q) (0 + q) (.returned (.tuple #[])))) :=
    Lib.hid fun V hb h => asks_T w.heap.size (w.heap.size + 1) 0 Tg.zero a0 len0 cap0 q NN z0 a1 len1 cap1 t1 w V h hNN w1 hb (Nat.le_refl _) hq (by omega)
  obtain ⟨T, hT⟩ : ∃ T, Tg.asks t1 NN z0 Tg.zero q = T := ⟨_, rfl⟩
  rw [hT] at AS
  have N1 := New_X w
  clear w0 w1 hNN hq hT
  go_enter Tryz.func6, Tryz.ntmps6
  go_wp2_with fail
  with_reducible refine N1.mono ?_
  rintro e v1 ⟨rfl, hx1, hb1, hs1⟩
  have HT1 := Lib.hid (tgw_zero hx1 (show w.heap.size < w.heap.size + 1 by omega) (by omega)); have HB1 := Lib.hid hb1
  clear hx1 hb1 N1 hs1
  have D1 := Do_first w.heap.size (w.heap.size + 1) 1 v1 HT1.out (by decide) (by decide)
  go_wp2_with fail
  with_reducible refine D1.mono ?_
  rintro e v2 ⟨rfl, h2, g2⟩
  have HT2 := Lib.hid h2; have HB2 := Lib.hid (tgTo_below HB1.out g2 (Nat.le_refl _))
  clear h2 g2 D1 HT1 HB1
  have C1 := Crash_T w.heap.size (w.heap.size + 1) 0 Tg.t1 12 v2 HT2.out
  rw [Tg.crash_t1.1, Tg.crash_t1.2] at C1
  go_wp2_with fail
  with_reducible refine C1.mono ?_
  rintro e v3 ⟨rfl, h3, g3⟩
  have HT3 := Lib.hid h3; have HB3 := Lib.hid (tgTo_below HB2.out g3 (Nat.le_refl _))
  clear h3 g3 C1 HT2 HB2
  have S1 := State_T w.heap.size (w.heap.size + 1) 0 Tg.zero v3 HT3.out
  go_wp2_with fail
  with_reducible refine S1.mono ?_
  rintro e v4 ⟨a5, n5, c5, b5, m5, d5, rs5, rfl, hs5, hb4⟩
  obtain rfl : m5 = 0 := hs5.vlen.symm
  have HT4 := Lib.hid (HT3.out.keep hb4); have HB4 := Lib.hid (HB3.out.trans (hb4.mono HB3.out.size))
  clear hs5 hb4 S1 HT3 HB3
  have FV := fd_vols a5 b5 n5 c5 0 d5
  have A1 := AS.out v4 HB4.out HT4.out
  go_wp2_with fail
  clear FV
  with_reducible refine A1.mono ?_
  rintro e v5 ⟨rfl, h5, g5⟩
  have HT5 := Lib.hid h5; have HB5 := Lib.hid (tgTo_below HB4.out g5 (Nat.le_refl _))
  clear h5 g5 A1 HT4 HB4 AS
  have L1 := Log_T w.heap.size (w.heap.size + 1) (0 + q) T v5 HT5.out
  have hG := HT5.out.good
  have hsz := hG.size
  have hpl := wi_lt a2 ((Tg.text T).size + 2) (by omega)
  have WI : ∀ W, Calls Tryz.prog 20 #[.int .i64 a2, .int .i64 (((Tg.text T).size : Int) + 2)] W fun e w' => e = .returned (.int .i64 (wi a2 ((Tg.text T).size + 2) : Nat)) ∧ W = w' := fun W =>
    within_any a2 _ ((Tg.text T).size + 2) W (by omega) (by omega) (by omega)
  generalize wi a2 ((Tg.text T).size + 2) = p at *
  have C2 := Crash_T w.heap.size (w.heap.size + 1) (0 + q) T (p : Int) v5 HT5.out
  have hcg := Tg.crash_good hG (p : Int)
  obtain ⟨hct1, hct2⟩ := Tg.crash_text hG (p : Int)
  obtain ⟨hca1, hca2⟩ := Tg.crash_again (t := T) (p : Int)
  obtain ⟨rest, hc1, hc2, hc3⟩ := Tg.cut_spec hG.chk (Tg.crashP T (p : Int))
  have hcl : (Tg.crashR T (p : Int)).l.length = Tg.crashN T (p : Int) := Tg.crash_len (t := T) (p : Int)
  have hcr : (Tg.crashR T (p : Int)).r = Rg.zero := rfl
  have hlist : (Tg.text (Tg.crashR T (p : Int))).data.toList = Lr.log (T.l.take (Tg.crashN T (p : Int))) := rfl
  have hpP : Tg.crashP T (p : Int) ≤ p := by unfold Tg.crashP; omega
  have hPs := Tg.crash_p (t := T) (p : Int)
  have hmin : min (p : Int) ((Tg.text T).size : Int) = (Tg.crashP T (p : Int) : Int) := by unfold Tg.crashP; omega
  have hks : Tg.cutN T.l (Tg.crashP T (p : Int)) = Tg.crashN T (p : Int) := rfl
  rw [hks] at hc1 hc3
  have htl : (Tg.text T).data.toList = Lr.log T.l := rfl
  obtain ⟨C, hC⟩ : ∃ C, Tg.crashR T (p : Int) = C := ⟨_, rfl⟩
  rw [hC] at C2 hcg hct1 hct2 hca1 hca2 hcl hcr hlist
  obtain ⟨K, hK⟩ : ∃ K, Tg.crashN T (p : Int) = K := ⟨_, rfl⟩
  rw [hK] at C2 hcl hca1 hc1 hc3 hlist
  obtain ⟨PP, hPP⟩ : ∃ PP, Tg.crashP T (p : Int) = PP := ⟨_, rfl⟩
  rw [hPP] at hct1 hc1 hc3 hpP hPs hmin
  have HCL := Lib.hid hcl
  have RC : Hid (∀ V, Calls Tryz.prog 22 #[.string (Tg.text C)] V (RepTo V C.st K 0)) := Lib.hid fun V => by
    have := Replay_T hcg V
    rw [hcl] at this
    exact this
  have HCA : Hid (∀ V, TgW V w.heap.size (w.heap.size + 1) C 0 → Calls Tryz.prog 25 #[.pointer (some ⟨w.heap.size, 0, none⟩), .int .i64 ((Tg.text C).size : Int)] V (TgTo V w.heap.size (w.heap.size + 1) C 0 (.returned (.int .i64 (K : Nat))))) := Lib.hid fun V h => by
    have := Crash_T w.heap.size (w.heap.size + 1) 0 C ((Tg.text C).size : Int) V h
    rw [hca1, hca2] at this
    exact this
  have HRZ := Lib.hid hcr
  have HRT := Lib.hid hcg.right
  have HRV : Hid (∀ V, TgW V w.heap.size (w.heap.size + 1) C 0 → Calls Tryz.prog 13 #[.pointer (some ⟨w.heap.size, 0, none⟩)] V (ResvTo V Rg.zero)) := Lib.hid fun V h => by
    have := Resv_T w.heap.size (w.heap.size + 1) 0 C V h
    rw [hcr] at this
    exact this
  have HSR : Hid (∀ (x : Option Addr) (y z : Nat) (V : World) {N : Nat}, V.ownsRow N 39 2 (.slice x y z) y (Rs.tv Rg.zero.regs) → Rg.zero.regs.length = y → Calls Tryz.prog 15 #[.agg #[.int .i64 Rg.zero.gen, .slice x y z, .int .i64 Rg.zero.kind, .int .i64 Rg.zero.holder], .agg #[.int .i64 0, .slice none 0 0, .int .i64 0, .int .i64 0]] V fun e w' => e = .returned (.bool true) ∧ Below V.heap.size V w') := Lib.hid fun x y z V N ho hy => by
    obtain rfl : y = 0 := hy.symm
    exact Rs.Same_R 0 0 0 x none 0 z 0 [] V (Rs.own_tsl ho (Below.refl _ _)) (tsl_empty0 V) (by decide)
  have HLG : Hid (∀ V, TgW V w.heap.size (w.heap.size + 1) C 0 → Calls Tryz.prog 16 #[.pointer (some ⟨w.heap.size, 0, none⟩)] V fun e w' => e = .returned (.string (Tg.text C)) ∧ V = w') := Lib.hid fun V h => Log_T _ _ _ C V h
  -- what lies behind what is kept
  have hML : (Tg.text C).size = (Lr.log (T.l.take K)).length := by rw [← Lr.size_list, hlist]
  have HGR : Hid (GetAns ((Tg.text T).extract (Tg.text C).size PP) 0 ⟨#[]⟩ 0 7) := Lib.hid (by
    have hd : ((Tg.text T).extract (Tg.text C).size PP).data.toList = rest := by
      rw [ext_data, htl, hML, ← List.drop_take, hc1, List.drop_left]
    refine getAns (b := []) (by rw [ByteArray.size_extract]; unfold maxLen; omega) ?_
    rw [hd]
    rcases hc2 with h | ⟨-, h⟩
    · rw [h]; rfl
    · exact h)
  clear hG hcg hca1 hca2 hc1 hc2 hc3 hcl hcr hC hK hPP hlist htl hML hks
  generalize Tg.text T = TX at *
  generalize Tg.text C = LX at *
  have hsl := sl_to'' Tryz.underlying9 (s := TX) (y := (LX.size : Int)) (b := LX.size) rfl (by omega)
  rw [← hct2] at hsl
  have hsl2 := sl_str Tryz.underlying9 (s := TX) (x := (LX.size : Int)) (y := (PP : Int)) (a := LX.size) (b := PP) rfl rfl hct1 hPs
  have HS3 := Lib.hid (And.intro hct1 (And.intro hpP (And.intro hPs hpl)))
  clear hct2
  go_wp2_with fail
  with_reducible refine L1.mono ?_
  rintro e v6 ⟨rfl, rfl⟩
  clear L1
  go_wp2_with fail
  with_reducible refine (WI _).mono ?_
  rintro e w' ⟨rfl, rfl⟩
  go_wp2_with fail
  with_reducible refine C2.mono ?_
  rintro e v6 ⟨rfl, h6, g6⟩
  have HT6 := Lib.hid h6; have HB6 := Lib.hid (tgTo_below HB5.out g6 (Nat.le_refl _))
  clear h6 g6 C2 HT5 HB5 WI
  have L2 := HLG.out v6 HT6.out
  go_wp2_with fail
  with_reducible refine L2.mono ?_
  rintro e v7 ⟨rfl, rfl⟩
  clear L2
  go_wp2_with fail
  with_reducible refine (RC.out _).mono ?_
  rintro e v7 ⟨a7, n7, c7, b7, m7, d7, rs7, rfl, hs7, hb7⟩
  have hal := hb7.alloc hb7.size (.cells #[.slice a7 n7 c7, .slice b7 m7 d7] 33)
  have HT8 := Lib.hid (HT6.out.keep hal); have HB8 := Lib.hid (HB6.out.trans (hal.mono HB6.out.size)); have HS8 := Lib.hid ((hs7.keep ((Below.refl _ v7).alloc (Nat.le_refl _) (.cells #[.slice a7 n7 c7, .slice b7 m7 d7] 33))).low HT6.out.le)
  have HX8 := Lib.hid (bxs_new v7 33 #[.slice a7 n7 c7, .slice b7 m7 d7] [.slice a7 n7 c7, .slice b7 m7 d7] rfl)
  have hXB1 : w.heap.size + 1 ≤ v7.heap.size := Nat.le_trans HT6.out.le hb7.size
  have L3 := HLG.out _ HT8.out
  clear hal hs7 hb7 HB6 HT6 RC
  go_wp2_with fail
  with_reducible refine L3.mono ?_
  rintro e v8 ⟨rfl, rfl⟩
  clear L3
  obtain ⟨XB, hXB⟩ : ∃ XB, v7.heap.size = XB := ⟨_, rfl⟩
  rw [hXB] at HX8 hXB1
  go_wp2_with fail
  generalize v7.alloc (.cells #[.slice a7 n7 c7, .slice b7 m7 d7] 33) = wX at *
  clear hXB
  have HS0 : Hid (StS wX XB (.slice a7 n7 c7) (.slice b7 m7 d7) wX) := Lib.hid ⟨HX8.out.c 0 _ rfl, HX8.out.c 1 _ rfl, Below.refl _ _⟩
  obtain ⟨x0, x1, xb⟩ := HS0.out
  have hc9 : ¬ (p : Int) < (LX.size : Int) := by have := HS3.out; omega
  have hc9' : ¬ p < LX.size := by have := HS3.out; omega
  have hl0 : (0 : Int) ≤ (LX.size : Int) := by omega
  have hl1 : (LX.size : Int) ≤ (TX.size : Int) := by have := HS3.out; omega
  go_region_held3 (fun V => V.cell? ⟨XB, 0, none⟩ = some (.slice a7 n7 c7) ∧ V.cell? ⟨XB, 1, none⟩ = some (.slice b7 m7 d7) ∧ Below wX.heap.size wX V)
    (first | with_reducible exact HSS.out | with_reducible exact StS.drew HS0.out | with_reducible exact HS0.out)
    (first
      | (go_at_call 9; (have HSV := Lib.hid (show StS wX XB (.slice a7 n7 c7) (.slice b7 m7 d7) _ from (by first | with_reducible exact HSS.out | with_reducible exact StS.drew HS0.out | with_reducible exact HS0.out))); (with_reducible refine (State_T w.heap.size (w.heap.size + 1) 0 C _ (HT8.out.keep HSV.out.2.2)).mono ?_); rintro e ws ⟨a6, n6, c6, b6, m6, d6, rs6, rfl, hs, hbs⟩; have HSS := Lib.hid (StS.on HSV.out hbs); have HQS := Lib.hid hs; clear hs hbs HSV)
      | (go_at_call 14; (with_reducible refine (Same_V a7 a6 b7 b6 n7 c7 m7 d7 n6 c6 m6 d6 _ _ rs7 rs6 C.st _ (HS8.out.keep HSS.out.2.2) HQS.out HRT.out).mono ?_); rintro e ws ⟨rfl, hbs⟩; have HSS := Lib.hid (StS.on HSS.out hbs); clear hbs)
      | (go_at_call 13; (with_reducible refine (HRV.out _ (HT8.out.keep HSS.out.2.2)).mono ?_); rintro e ws ⟨x, y, z, rfl, ho, hl, hbs⟩; have HSS := Lib.hid (StS.on HSS.out hbs); have HOO := Lib.hid ho; have HLL := Lib.hid hl; clear ho hl hbs)
      | (go_at_call 15; (with_reducible refine (HSR.out _ _ _ _ HOO.out HLL.out).mono ?_); rintro e ws ⟨rfl, hbs⟩; have HSS := Lib.hid (StS.on HSS.out hbs); clear hbs))
  all_goals
    have HT9 := Lib.hid (HT8.out.keep HSS.out.2.2); have HB9 := Lib.hid (HB8.out.trans (HSS.out.2.2.mono HB8.out.size)); have HS10 := Lib.hid (HS8.out.keep HSS.out.2.2); have HX9 := Lib.hid (HX8.out.on HSS.out.2.2)
    have hXne : XB ≠ w.heap.size := by omega
    by_cases hgt : LX.size < p
    · have hgi : (LX.size : Int) < (p : Int) := by omega
      have hGA := HGR.out
      unfold GetAns at hGA
      clear HSS HT8 HB8 HS8 HX8 HS0 x0 x1 xb
      go_wp2_with fail
      with_reducible refine (hGA _).mono ?_
      rintro e v9 ⟨rfl, hb9⟩
      have hal := hb9.alloc hb9.size (.cells #[.int .i64 0, .string ⟨#[]⟩] 61)
      have HT9 := Lib.hid (HT9.out.keep hal); have HB9 := Lib.hid (HB9.out.trans (hal.mono HB9.out.size)); have HS10 := Lib.hid (HS10.out.keep hal); have HX9 := Lib.hid (HX9.out.on hal)
      clear hb9 hal hGA
      go_wp2_with fail
      generalize v9.alloc (.cells #[.int .i64 0, .string ⟨#[]⟩] 61) = wY at *
      have HS9 : Hid (StG wY w.heap.size XB (.slice a7 n7 c7) (.slice b7 m7 d7) wY) := Lib.hid ⟨HX9.out.c 0 _ rfl, HX9.out.c 1 _ rfl, gb_below (Below.refl _ _)⟩
      have HYr : Below wY.heap.size wY wY := Below.refl _ _
      have HYd : Below wY.heap.size wY wY.drew := (Below.refl _ wY).drew
      obtain ⟨y0, y1, yb⟩ := HS9.out
      go_region_held3 (fun V => V.cell? ⟨XB, 0, none⟩ = some (.slice a7 n7 c7) ∧ V.cell? ⟨XB, 1, none⟩ = some (.slice b7 m7 d7) ∧ wY.grownBy V (some w.heap.size))
        (first | with_reducible exact HSG.out | with_reducible exact StG.drew HS9.out | with_reducible exact HS9.out)
        (first
          | (go_at_call 25; (with_reducible refine (HCA.out _ (HT9.out.keep (by first | with_reducible exact HYd | with_reducible exact HYr))).mono ?_); rintro e ws ⟨rfl, h1, g1⟩; have HSG := Lib.hid (StG.grown (show StG wY w.heap.size XB (.slice a7 n7 c7) (.slice b7 m7 d7) _ from (by first | with_reducible exact StG.drew HS9.out | with_reducible exact HS9.out)) g1 hXne); have HTC := Lib.hid h1; have HSW := Lib.hid (stw_grownT (HS10.out.keep (by first | with_reducible exact HYd | with_reducible exact HYr)) g1 (Nat.lt_succ_self _)); clear h1 g1)
          | (go_at_call 9; (with_reducible refine (State_T w.heap.size (w.heap.size + 1) 0 C _ HTC.out).mono ?_); rintro e ws ⟨a6, n6, c6, b6, m6, d6, rs6, rfl, hs, hbs⟩; have HSG := Lib.hid (StG.on HSG.out hbs hXne); have HSW := Lib.hid (HSW.out.keep hbs); have HQ2 := Lib.hid hs; clear hs hbs)
          | (go_at_call 14; (with_reducible refine (Same_V a7 a6 b7 b6 n7 c7 m7 d7 n6 c6 m6 d6 _ _ rs7 rs6 C.st _ HSW.out HQ2.out HRT.out).mono ?_); rintro e ws ⟨rfl, hbs⟩; have HSG := Lib.hid (StG.on HSG.out hbs hXne); clear hbs))
      all_goals
        go_wp2_with fail
        go_ret
        exact ⟨rfl, HB9.out.grown HSG.out.2.2 HB9.out.size (fun k e => by have := Option.some.inj e; omega)⟩
    · have hgi : ¬ (LX.size : Int) < (p : Int) := by omega
      clear HSS HT8 HB8 HS8 HX8 HS0 x0 x1 xb
      go_wp2_with fail
      obtain ⟨wY, rfl⟩ : ∃ wY : World, wY = ws := ⟨_, rfl⟩
      have HS9 : Hid (StG wY w.heap.size XB (.slice a7 n7 c7) (.slice b7 m7 d7) wY) := Lib.hid ⟨HX9.out.c 0 _ rfl, HX9.out.c 1 _ rfl, gb_below (Below.refl _ _)⟩
      have HYr : Below wY.heap.size wY wY := Below.refl _ _
      have HYd : Below wY.heap.size wY wY.drew := (Below.refl _ wY).drew
      obtain ⟨y0, y1, yb⟩ := HS9.out
      go_region_held3 (fun V => V.cell? ⟨XB, 0, none⟩ = some (.slice a7 n7 c7) ∧ V.cell? ⟨XB, 1, none⟩ = some (.slice b7 m7 d7) ∧ wY.grownBy V (some w.heap.size))
        (first | with_reducible exact HSG.out | with_reducible exact StG.drew HS9.out | with_reducible exact HS9.out)
        (first
          | (go_at_call 25; (with_reducible refine (HCA.out _ (HT9.out.keep (by first | with_reducible exact HYd | with_reducible exact HYr))).mono ?_); rintro e ws ⟨rfl, h1, g1⟩; have HSG := Lib.hid (StG.grown (show StG wY w.heap.size XB (.slice a7 n7 c7) (.slice b7 m7 d7) _ from (by first | with_reducible exact StG.drew HS9.out | with_reducible exact HS9.out)) g1 hXne); have HTC := Lib.hid h1; have HSW := Lib.hid (stw_grownT (HS10.out.keep (by first | with_reducible exact HYd | with_reducible exact HYr)) g1 (Nat.lt_succ_self _)); clear h1 g1)
          | (go_at_call 9; (with_reducible refine (State_T w.heap.size (w.heap.size + 1) 0 C _ HTC.out).mono ?_); rintro e ws ⟨a6, n6, c6, b6, m6, d6, rs6, rfl, hs, hbs⟩; have HSG := Lib.hid (StG.on HSG.out hbs hXne); have HSW := Lib.hid (HSW.out.keep hbs); have HQ2 := Lib.hid hs; clear hs hbs)
          | (go_at_call 14; (with_reducible refine (Same_V a7 a6 b7 b6 n7 c7 m7 d7 n6 c6 m6 d6 _ _ rs7 rs6 C.st _ HSW.out HQ2.out HRT.out).mono ?_); rintro e ws ⟨rfl, hbs⟩; have HSG := Lib.hid (StG.on HSG.out hbs hXne); clear hbs))
      all_goals
        go_wp2_with fail
        go_ret
        exact ⟨rfl, HB9.out.grown HSG.out.2.2 HB9.out.size (fun k e => by have := Option.some.inj e; omega)⟩

end Go.Proofs.YtenkdpogdfcbgaaGreat
