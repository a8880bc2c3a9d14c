/- VolTwice: written twice is written once, the last time; made and dropped leaves what was; for every input. -/
import Derived.Test.YteddendidjhmbaaVolTwP
import Derived.Test.YteddendidjhmbaaTxE
import Derived.Test.YteddendidjhmbaaSameW
import Derived.Deep.RegionHeld3
namespace Go.Proofs.Yteddendidjhmbaa
open Go.RowKit

set_option maxRecDepth 100000 in
set_option maxHeartbeats 16000000 in
theorem volTwice_walk (a0 : Option Addr) (len0 cap0 : Nat) (t0 : List Lg.Op) (a1 : Int) (a2 : Int) (a3 : ByteArray) (a4 : ByteArray) (a5 : ByteArray) (a6 : Int) (w : World) (w0 : OArg w a0 len0 cap0 t0) (_w1 : (Lit.int .i64 a1).wf = true) (_w2 : (Lit.int .i64 a2).wf = true) (w3 : a3.size ≤ maxLen) (w4 : a4.size ≤ maxLen) (w5 : a5.size ≤ maxLen) (_w6 : (Lit.int .i64 a6).wf = true) :
    Calls Try.prog 15 #[.slice a0 len0 cap0, .int .i64 a1, .int .i64 a2, .string a3, .string a4, .string a5, .int .i64 a6] w fun e w' => e = .returned (.bool true) ∧ Below w.heap.size w w' := by
  have B1 := begun_V w
  have M1 : ∀ W, Below w.heap.size w W → Calls Try.prog 33 #[.slice a0 len0 cap0] W (StMade W (Vo.made t0)) := fun W hb => made_V a0 len0 cap0 t0 W ⟨w0.1.keep hb, w0.2⟩
  have HR : Hid (Vo.Right (Vo.made t0)) := Lib.hid (Vo.made_right t0)
  obtain ⟨S, hS⟩ : ∃ S, Vo.made t0 = S := ⟨_, rfl⟩
  rw [hS] at M1 HR
  obtain ⟨v, hv⟩ : ∃ v, Vo.pick S a1 = v := ⟨_, rfl⟩
  have HRX := Lib.hid (Vo.vwrite_right HR.out v a2 a3)
  have HRZ := Lib.hid (Vo.vwrite_right HR.out v a2 a4)
  have HRM := Lib.hid (Vo.make_right HR.out a5 a6)
  have HW := Lib.hid (fun h => Vo.write_again HR.out (name := v) (at_ := a2) (t := a3) a4 h)
  have HM := Lib.hid (fun h => Vo.make_drop HR.out (name := a5) (k := a6) h)
  have HN := Lib.hid (Vo.make_new HR.out a5 a6)
  obtain ⟨RX, hRX⟩ : ∃ R, Vo.writeR S v a2 a3 = R := ⟨_, rfl⟩
  obtain ⟨RZ, hRZ⟩ : ∃ R, Vo.writeR S v a2 a4 = R := ⟨_, rfl⟩
  obtain ⟨RM, hRM⟩ : ∃ R, Vo.makeR S a5 a6 = R := ⟨_, rfl⟩
  rw [hRX, hRZ] at HW
  rw [hRX] at HRX
  rw [hRZ] at HRZ
  rw [hRM] at HRM HM HN
  have hRX := Lib.hid hRX; have hRZ := Lib.hid hRZ; have hRM := Lib.hid hRM; have hv := Lib.hid hv
  obtain ⟨X, EX⟩ := RX
  obtain ⟨Z, EZ⟩ := RZ
  obtain ⟨M, EM⟩ := RM
  dsimp only at HRX HRZ HRM HW HM HN
  clear w0 hS
  go_enter Try.func15, Try.ntmps15
  go_wp2_with fail
  with_reducible refine B1.mono ?_
  rintro e v1 ⟨rfl, hb1⟩
  have HB1 := Lib.hid hb1
  have Q1 := M1 v1 hb1
  clear M1 B1 hb1
  go_wp2_with fail
  with_reducible refine Q1.mono ?_
  rintro e v2 ⟨a, n, c, b, m, d, rs, rfl, hs2, hb2⟩
  have HB_2 := Lib.hid ((HB1.out.trans (hb2.mono HB1.out.size)).alloc (HB1.out.trans (hb2.mono HB1.out.size)).size (.cells #[.slice a n c, .slice b m d] 52))
  have HXst_2 := Lib.hid (bxs_new v2 52 #[.slice a n c, .slice b m d] [.slice a n c, .slice b m d] rfl)
  have HSst_2 := Lib.hid (hs2.keep ((Below.refl _ v2).alloc (Nat.le_refl _) (.cells #[.slice a n c, .slice b m d] 52)))
  have hm : m ≤ 64 := by have := HR.out.len; rw [hs2.vlen] at this; omega
  clear hs2 hb2 Q1
  have x0 := HXst_2.out.c 0 _ rfl; have x1 := HXst_2.out.c 1 _ rfl
  have CT := pick_V a b n c m d _ rs S a1 _ HSst_2.out hm
  rw [hv.out] at CT
  go_wp2_with fail
  with_reducible refine CT.mono ?_
  rintro e v3 ⟨rfl, hb3⟩
  have HB_3 := Lib.hid (HB_2.out.trans (hb3.mono HB_2.out.size))
  have HXst_3 := Lib.hid (HXst_2.out.on hb3)
  have HSst_3 := Lib.hid (HSst_2.out.keep hb3)
  clear hb3 CT x0 x1
  have x0 := HXst_3.out.c 0 _ rfl; have x1 := HXst_3.out.c 1 _ rfl
  have CT := Write_V a b n c m d _ rs S v a3 a2 _ HSst_3.out HR.out w3
  rw [hRX.out] at CT
  go_wp2_with fail
  with_reducible refine CT.mono ?_
  rintro e v4 ⟨pa4, pn4, pc4, pb4, pm4, pd4, prs4, rfl, hs4, hb4⟩
  dsimp only at hs4
  have hc4 := hb4.alloc hb4.size (.cells #[.slice pa4 pn4 pc4, .slice pb4 pm4 pd4] 52)
  have HB_4 := Lib.hid (HB_3.out.trans (hc4.mono HB_3.out.size))
  have HXst_4 := Lib.hid (HXst_3.out.on hc4)
  have HSst_4 := Lib.hid (HSst_3.out.keep hc4)
  have HXX_4 := Lib.hid (bxs_new v4 52 #[.slice pa4 pn4 pc4, .slice pb4 pm4 pd4] [.slice pa4 pn4 pc4, .slice pb4 pm4 pd4] rfl)
  have HSX_4 := Lib.hid (hs4.keep ((Below.refl _ v4).alloc (Nat.le_refl _) (.cells #[.slice pa4 pn4 pc4, .slice pb4 pm4 pd4] 52)))
  clear hs4 hb4 hc4 CT x0 x1
  by_cases he : EX = 0
  · subst he
    have x0 := HXX_4.out.c 0 _ rfl; have x1 := HXX_4.out.c 1 _ rfl
    have CT := Write_V pa4 pb4 pn4 pc4 pm4 pd4 _ prs4 X v a4 a2 _ HSX_4.out HRX.out w4
    rw [HW.out rfl] at CT
    go_wp2_with fail
    with_reducible refine CT.mono ?_
    rintro e v5 ⟨pa5, pn5, pc5, pb5, pm5, pd5, prs5, rfl, hs5, hb5⟩
    dsimp only at hs5
    have hc5 := hb5.alloc hb5.size (.cells #[.slice pa5 pn5 pc5, .slice pb5 pm5 pd5] 52)
    have HB_5 := Lib.hid (HB_4.out.trans (hc5.mono HB_4.out.size))
    have HXst_5 := Lib.hid (HXst_4.out.on hc5)
    have HSst_5 := Lib.hid (HSst_4.out.keep hc5)
    have HXX_5 := Lib.hid (HXX_4.out.on hc5)
    have HSX_5 := Lib.hid (HSX_4.out.keep hc5)
    have HXY_5 := Lib.hid (bxs_new v5 52 #[.slice pa5 pn5 pc5, .slice pb5 pm5 pd5] [.slice pa5 pn5 pc5, .slice pb5 pm5 pd5] rfl)
    have HSY_5 := Lib.hid (hs5.keep ((Below.refl _ v5).alloc (Nat.le_refl _) (.cells #[.slice pa5 pn5 pc5, .slice pb5 pm5 pd5] 52)))
    clear hs5 hb5 hc5 CT x0 x1
    have x0 := HXst_5.out.c 0 _ rfl; have x1 := HXst_5.out.c 1 _ rfl
    have CT := Write_V a b n c m d _ rs S v a4 a2 _ HSst_5.out HR.out w4
    rw [hRZ.out] at CT
    go_wp2_with fail
    with_reducible refine CT.mono ?_
    rintro e v6 ⟨pa6, pn6, pc6, pb6, pm6, pd6, prs6, rfl, hs6, hb6⟩
    dsimp only at hs6
    have hc6 := hb6.alloc hb6.size (.cells #[.slice pa6 pn6 pc6, .slice pb6 pm6 pd6] 52)
    have HB_6 := Lib.hid (HB_5.out.trans (hc6.mono HB_5.out.size))
    have HXst_6 := Lib.hid (HXst_5.out.on hc6)
    have HSst_6 := Lib.hid (HSst_5.out.keep hc6)
    have HXX_6 := Lib.hid (HXX_5.out.on hc6)
    have HSX_6 := Lib.hid (HSX_5.out.keep hc6)
    have HXY_6 := Lib.hid (HXY_5.out.on hc6)
    have HSY_6 := Lib.hid (HSY_5.out.keep hc6)
    have HXZ_6 := Lib.hid (bxs_new v6 52 #[.slice pa6 pn6 pc6, .slice pb6 pm6 pd6] [.slice pa6 pn6 pc6, .slice pb6 pm6 pd6] rfl)
    have HSZ_6 := Lib.hid (hs6.keep ((Below.refl _ v6).alloc (Nat.le_refl _) (.cells #[.slice pa6 pn6 pc6, .slice pb6 pm6 pd6] 52)))
    clear hs6 hb6 hc6 CT x0 x1
    go_wp2_with fail
    generalize v6.alloc (.cells #[.slice pa6 pn6 pc6, .slice pb6 pm6 pd6] 52) = Wr1 at *
    have r1w0 : Below Wr1.heap.size Wr1 Wr1.drew := Below.drew (Below.refl _ _)
    have r1c0_0_0 := (HXY_6.out.on r1w0).c 0 _ rfl
    have r1c0_0_1 := (HXY_6.out.on r1w0).c 1 _ rfl
    have r1c0_1_0 := (HXZ_6.out.on r1w0).c 0 _ rfl
    have r1c0_1_1 := (HXZ_6.out.on r1w0).c 1 _ rfl
    go_region_held3 (fun V => V.cell? ⟨v5.heap.size, 0, none⟩ = some (.slice pa5 pn5 pc5) ∧ V.cell? ⟨v5.heap.size, 1, none⟩ = some (.slice pb5 pm5 pd5) ∧ V.cell? ⟨v6.heap.size, 0, none⟩ = some (.slice pa6 pn6 pc6) ∧ V.cell? ⟨v6.heap.size, 1, none⟩ = some (.slice pb6 pm6 pd6) ∧ Below Wr1.heap.size Wr1 V)
      (first | with_reducible exact ⟨by assumption, by assumption, by assumption, by assumption, by assumption⟩)
      ((first
        | (go_at_call 44; have rq := Texts_V pa5 pb5 pn5 pc5 pm5 pd5 _ prs5 Z v _ (HSY_6.out.keep r1w0) HRZ.out; (with_reducible refine rq.mono ?_); clear rq; rintro e r1u1 ⟨r1ta1, r1tn1, r1tc1, rfl, r1o1, r1n1, r1h1⟩; have r1O1_1 := Lib.hid r1o1; clear r1o1; have r1w1 := r1w0.trans (r1h1.mono r1w0.size); clear r1h1; have r1c1_0_0 := (HXY_6.out.on r1w1).c 0 _ rfl; have r1c1_0_1 := (HXY_6.out.on r1w1).c 1 _ rfl; have r1c1_1_0 := (HXZ_6.out.on r1w1).c 0 _ rfl; have r1c1_1_1 := (HXZ_6.out.on r1w1).c 1 _ rfl)
        | (go_at_call 44; have rq := Texts_V pa6 pb6 pn6 pc6 pm6 pd6 _ prs6 Z v _ (HSZ_6.out.keep r1w1) HRZ.out; (with_reducible refine rq.mono ?_); clear rq; rintro e r1u2 ⟨r1ta2, r1tn2, r1tc2, rfl, r1o2, r1n2, r1h2⟩; have r1O1_2 := Lib.hid (own_keep r1O1_1.out r1h2); have r1O2_2 := Lib.hid r1o2; clear r1o2; have r1w2 := r1w1.trans (r1h2.mono r1w1.size); clear r1h2; have r1c2_0_0 := (HXY_6.out.on r1w2).c 0 _ rfl; have r1c2_0_1 := (HXY_6.out.on r1w2).c 1 _ rfl; have r1c2_1_0 := (HXZ_6.out.on r1w2).c 0 _ rfl; have r1c2_1_1 := (HXZ_6.out.on r1w2).c 1 _ rfl)
        | (go_at_call 43; have rq := Equal_ST r1ta1 r1ta2 r1tn1 r1tc1 r1tn2 r1tc2 _ _ _ _ _ r1O1_2.out r1O2_2.out (by omega) (by omega) rfl; (with_reducible refine rq.mono ?_); clear rq; rintro e r1u3 ⟨rfl, r1h3⟩; have r1O1_3 := Lib.hid (own_keep r1O1_2.out r1h3); have r1O2_3 := Lib.hid (own_keep r1O2_2.out r1h3); have r1w3 := r1w2.trans (r1h3.mono r1w2.size); clear r1h3; have r1c3_0_0 := (HXY_6.out.on r1w3).c 0 _ rfl; have r1c3_0_1 := (HXY_6.out.on r1w3).c 1 _ rfl; have r1c3_1_0 := (HXZ_6.out.on r1w3).c 0 _ rfl; have r1c3_1_1 := (HXZ_6.out.on r1w3).c 1 _ rfl)))
    have hb7 := r1w3.mono (Nat.le_refl _)
    have HB_7 := Lib.hid (HB_6.out.trans (hb7.mono HB_6.out.size))
    have HXst_7 := Lib.hid (HXst_6.out.on hb7)
    have HSst_7 := Lib.hid (HSst_6.out.keep hb7)
    have HXX_7 := Lib.hid (HXX_6.out.on hb7)
    have HSX_7 := Lib.hid (HSX_6.out.keep hb7)
    have HXY_7 := Lib.hid (HXY_6.out.on hb7)
    have HSY_7 := Lib.hid (HSY_6.out.keep hb7)
    have HXZ_7 := Lib.hid (HXZ_6.out.on hb7)
    have HSZ_7 := Lib.hid (HSZ_6.out.keep hb7)
    clear hb7 r1w0 r1w1 r1w2 r1w3
    have x0 := HXst_7.out.c 0 _ rfl; have x1 := HXst_7.out.c 1 _ rfl
    have CT := Make_V a b n c m d _ rs S a5 a6 _ HSst_7.out HR.out w5
    rw [hRM.out] at CT
    go_wp2_with fail
    with_reducible refine CT.mono ?_
    rintro e v8 ⟨pa8, pn8, pc8, pb8, pm8, pd8, prs8, rfl, hs8, hb8⟩
    dsimp only at hs8
    have hc8 := hb8.alloc hb8.size (.cells #[.slice pa8 pn8 pc8, .slice pb8 pm8 pd8] 52)
    have HB_8 := Lib.hid (HB_7.out.trans (hc8.mono HB_7.out.size))
    have HXst_8 := Lib.hid (HXst_7.out.on hc8)
    have HSst_8 := Lib.hid (HSst_7.out.keep hc8)
    have HXX_8 := Lib.hid (HXX_7.out.on hc8)
    have HSX_8 := Lib.hid (HSX_7.out.keep hc8)
    have HXY_8 := Lib.hid (HXY_7.out.on hc8)
    have HSY_8 := Lib.hid (HSY_7.out.keep hc8)
    have HXZ_8 := Lib.hid (HXZ_7.out.on hc8)
    have HSZ_8 := Lib.hid (HSZ_7.out.keep hc8)
    have HXM_8 := Lib.hid (bxs_new v8 52 #[.slice pa8 pn8 pc8, .slice pb8 pm8 pd8] [.slice pa8 pn8 pc8, .slice pb8 pm8 pd8] rfl)
    have HSM_8 := Lib.hid (hs8.keep ((Below.refl _ v8).alloc (Nat.le_refl _) (.cells #[.slice pa8 pn8 pc8, .slice pb8 pm8 pd8] 52)))
    clear hs8 hb8 hc8 CT x0 x1
    by_cases hm0 : EM = 0
    · subst hm0
      have x0 := HXM_8.out.c 0 _ rfl; have x1 := HXM_8.out.c 1 _ rfl
      have CT := Drop_V pa8 pb8 pn8 pc8 pm8 pd8 _ prs8 M a5 _ HSM_8.out HRM.out 
      rw [HM.out rfl] at CT
      go_wp2_with fail
      with_reducible refine CT.mono ?_
      rintro e v9 ⟨pa9, pn9, pc9, pb9, pm9, pd9, prs9, rfl, hs9, hb9⟩
      dsimp only at hs9
      have hc9 := hb9.alloc hb9.size (.cells #[.slice pa9 pn9 pc9, .slice pb9 pm9 pd9] 52)
      have HB_9 := Lib.hid (HB_8.out.trans (hc9.mono HB_8.out.size))
      have HXst_9 := Lib.hid (HXst_8.out.on hc9)
      have HSst_9 := Lib.hid (HSst_8.out.keep hc9)
      have HXX_9 := Lib.hid (HXX_8.out.on hc9)
      have HSX_9 := Lib.hid (HSX_8.out.keep hc9)
      have HXY_9 := Lib.hid (HXY_8.out.on hc9)
      have HSY_9 := Lib.hid (HSY_8.out.keep hc9)
      have HXZ_9 := Lib.hid (HXZ_8.out.on hc9)
      have HSZ_9 := Lib.hid (HSZ_8.out.keep hc9)
      have HXM_9 := Lib.hid (HXM_8.out.on hc9)
      have HSM_9 := Lib.hid (HSM_8.out.keep hc9)
      have HXD_9 := Lib.hid (bxs_new v9 52 #[.slice pa9 pn9 pc9, .slice pb9 pm9 pd9] [.slice pa9 pn9 pc9, .slice pb9 pm9 pd9] rfl)
      have HSD_9 := Lib.hid (hs9.keep ((Below.refl _ v9).alloc (Nat.le_refl _) (.cells #[.slice pa9 pn9 pc9, .slice pb9 pm9 pd9] 52)))
      clear hs9 hb9 hc9 CT x0 x1
      have x0 := HXD_9.out.c 0 _ rfl; have x1 := HXD_9.out.c 1 _ rfl
      have y0 := HXst_9.out.c 0 _ rfl; have y1 := HXst_9.out.c 1 _ rfl
      have CT := Same_V pa9 a pb9 b pn9 pc9 pm9 pd9 n c m d _ _ prs9 rs S _ HSD_9.out HSst_9.out HR.out
      go_wp2_with fail
      with_reducible refine CT.mono ?_
      rintro e v10 ⟨rfl, hb10⟩
      have HB_10 := Lib.hid (HB_9.out.trans (hb10.mono HB_9.out.size))
      have HXst_10 := Lib.hid (HXst_9.out.on hb10)
      have HSst_10 := Lib.hid (HSst_9.out.keep hb10)
      have HXX_10 := Lib.hid (HXX_9.out.on hb10)
      have HSX_10 := Lib.hid (HSX_9.out.keep hb10)
      have HXY_10 := Lib.hid (HXY_9.out.on hb10)
      have HSY_10 := Lib.hid (HSY_9.out.keep hb10)
      have HXZ_10 := Lib.hid (HXZ_9.out.on hb10)
      have HSZ_10 := Lib.hid (HSZ_9.out.keep hb10)
      have HXM_10 := Lib.hid (HXM_9.out.on hb10)
      have HSM_10 := Lib.hid (HSM_9.out.keep hb10)
      have HXD_10 := Lib.hid (HXD_9.out.on hb10)
      have HSD_10 := Lib.hid (HSD_9.out.keep hb10)
      clear hb10 CT x0 x1 y0 y1
      go_wp2_with fail
      go_ret
      exact ⟨rfl, HB_10.out⟩
    · rcases HN.out with ⟨-, h2⟩ | ⟨h1, -⟩
      · subst h2
        obtain rfl : pm8 = 0 := HSM_8.out.vlen.symm
        have hb0 : ((EM : Int) != 0) = true := bne_iff_ne.2 (by omega)
        have x0 := HXM_8.out.c 0 _ rfl; have x1 := HXM_8.out.c 1 _ rfl
        go_wp2_with fail
        go_ret
        exact ⟨rfl, HB_8.out⟩
      · exact absurd h1 hm0
  · have hb : ((EX : Int) == 0) = false := beq_eq_false_iff_ne.2 (by omega)
    have x0 := HXst_4.out.c 0 _ rfl; have x1 := HXst_4.out.c 1 _ rfl
    have CT := Make_V a b n c m d _ rs S a5 a6 _ HSst_4.out HR.out w5
    rw [hRM.out] at CT
    go_wp2_with fail
    with_reducible refine CT.mono ?_
    rintro e v5 ⟨pa5, pn5, pc5, pb5, pm5, pd5, prs5, rfl, hs5, hb5⟩
    dsimp only at hs5
    have hc5 := hb5.alloc hb5.size (.cells #[.slice pa5 pn5 pc5, .slice pb5 pm5 pd5] 52)
    have HB_5 := Lib.hid (HB_4.out.trans (hc5.mono HB_4.out.size))
    have HXst_5 := Lib.hid (HXst_4.out.on hc5)
    have HSst_5 := Lib.hid (HSst_4.out.keep hc5)
    have HXX_5 := Lib.hid (HXX_4.out.on hc5)
    have HSX_5 := Lib.hid (HSX_4.out.keep hc5)
    have HXM_5 := Lib.hid (bxs_new v5 52 #[.slice pa5 pn5 pc5, .slice pb5 pm5 pd5] [.slice pa5 pn5 pc5, .slice pb5 pm5 pd5] rfl)
    have HSM_5 := Lib.hid (hs5.keep ((Below.refl _ v5).alloc (Nat.le_refl _) (.cells #[.slice pa5 pn5 pc5, .slice pb5 pm5 pd5] 52)))
    clear hs5 hb5 hc5 CT x0 x1
    by_cases hm0 : EM = 0
    · subst hm0
      have x0 := HXM_5.out.c 0 _ rfl; have x1 := HXM_5.out.c 1 _ rfl
      have CT := Drop_V pa5 pb5 pn5 pc5 pm5 pd5 _ prs5 M a5 _ HSM_5.out HRM.out 
      rw [HM.out rfl] at CT
      go_wp2_with fail
      with_reducible refine CT.mono ?_
      rintro e v6 ⟨pa6, pn6, pc6, pb6, pm6, pd6, prs6, rfl, hs6, hb6⟩
      dsimp only at hs6
      have hc6 := hb6.alloc hb6.size (.cells #[.slice pa6 pn6 pc6, .slice pb6 pm6 pd6] 52)
      have HB_6 := Lib.hid (HB_5.out.trans (hc6.mono HB_5.out.size))
      have HXst_6 := Lib.hid (HXst_5.out.on hc6)
      have HSst_6 := Lib.hid (HSst_5.out.keep hc6)
      have HXX_6 := Lib.hid (HXX_5.out.on hc6)
      have HSX_6 := Lib.hid (HSX_5.out.keep hc6)
      have HXM_6 := Lib.hid (HXM_5.out.on hc6)
      have HSM_6 := Lib.hid (HSM_5.out.keep hc6)
      have HXD_6 := Lib.hid (bxs_new v6 52 #[.slice pa6 pn6 pc6, .slice pb6 pm6 pd6] [.slice pa6 pn6 pc6, .slice pb6 pm6 pd6] rfl)
      have HSD_6 := Lib.hid (hs6.keep ((Below.refl _ v6).alloc (Nat.le_refl _) (.cells #[.slice pa6 pn6 pc6, .slice pb6 pm6 pd6] 52)))
      clear hs6 hb6 hc6 CT x0 x1
      have x0 := HXD_6.out.c 0 _ rfl; have x1 := HXD_6.out.c 1 _ rfl
      have y0 := HXst_6.out.c 0 _ rfl; have y1 := HXst_6.out.c 1 _ rfl
      have CT := Same_V pa6 a pb6 b pn6 pc6 pm6 pd6 n c m d _ _ prs6 rs S _ HSD_6.out HSst_6.out HR.out
      go_wp2_with fail
      with_reducible refine CT.mono ?_
      rintro e v7 ⟨rfl, hb7⟩
      have HB_7 := Lib.hid (HB_6.out.trans (hb7.mono HB_6.out.size))
      have HXst_7 := Lib.hid (HXst_6.out.on hb7)
      have HSst_7 := Lib.hid (HSst_6.out.keep hb7)
      have HXX_7 := Lib.hid (HXX_6.out.on hb7)
      have HSX_7 := Lib.hid (HSX_6.out.keep hb7)
      have HXM_7 := Lib.hid (HXM_6.out.on hb7)
      have HSM_7 := Lib.hid (HSM_6.out.keep hb7)
      have HXD_7 := Lib.hid (HXD_6.out.on hb7)
      have HSD_7 := Lib.hid (HSD_6.out.keep hb7)
      clear hb7 CT x0 x1 y0 y1
      go_wp2_with fail
      go_ret
      exact ⟨rfl, HB_7.out⟩
    · rcases HN.out with ⟨-, h2⟩ | ⟨h1, -⟩
      · subst h2
        obtain rfl : pm5 = 0 := HSM_5.out.vlen.symm
        have hb0 : ((EM : Int) != 0) = true := bne_iff_ne.2 (by omega)
        have x0 := HXM_5.out.c 0 _ rfl; have x1 := HXM_5.out.c 1 _ rfl
        go_wp2_with fail
        go_ret
        exact ⟨rfl, HB_5.out⟩
      · exact absurd h1 hm0

end Go.Proofs.Yteddendidjhmbaa
