/- VolClones: a clone has what there was, takes no room, and the two are independent; for every input. -/
import Derived.Test.YteddendidjhmbaaVolTwP
import Derived.Test.YteddendidjhmbaaTxE
import Derived.Test.YteddendidjhmbaaSameW
namespace Go.Proofs.Yteddendidjhmbaa
open Go.RowKit

theorem Vo.clone_err {s : Vo.St} {name nm2 : ByteArray} (h : (Vo.cloneR s name nm2).e ≠ 0) : (Vo.cloneR s name nm2).s = Vo.st0 := by
  unfold Vo.cloneR at h ⊢
  split
  · rfl
  · split
    · rfl
    · rename_i h1 _ _ h2
      simp only [h1, h2] at h
      split
      · rfl
      · rename_i h3
        rw [if_neg h3] at h
        exact absurd rfl h

set_option maxRecDepth 100000 in
set_option maxHeartbeats 16000000 in
theorem volClones_walk (a0 : Option Addr) (len0 cap0 : Nat) (t0 : List Lg.Op) (a1 : Int) (a2 : ByteArray) (a3 : Int) (a4 : ByteArray) (w : World) (w0 : OArg w a0 len0 cap0 t0) (_w1 : (Lit.int .i64 a1).wf = true) (w2 : a2.size ≤ maxLen) (_w3 : (Lit.int .i64 a3).wf = true) (w4 : a4.size ≤ maxLen) :
    Calls Try.prog 14 #[.slice a0 len0 cap0, .int .i64 a1, .string a2, .int .i64 a3, .string a4] w fun e w' => e = .returned (.bool true) ∧ Below w.heap.size w w' := by
  have B1 := begun_V w
  have M1 : ∀ W, Below w.heap.size w W → Calls Try.prog 33 #[.slice a0 len0 cap0] W (StMade W (Vo.made t0)) := fun W hb => made_V a0 len0 cap0 t0 W ⟨w0.1.keep hb, w0.2⟩
  have HR : Hid (Vo.Right (Vo.made t0)) := Lib.hid (Vo.made_right t0)
  obtain ⟨S, hS⟩ : ∃ S, Vo.made t0 = S := ⟨_, rfl⟩
  rw [hS] at M1 HR
  obtain ⟨v, hv⟩ : ∃ v, Vo.pick S a1 = v := ⟨_, rfl⟩
  have HRC := Lib.hid (Vo.clone_right HR.out v a2)
  have HC := Lib.hid (fun h => Vo.clone_texts HR.out (name := v) (nm2 := a2) h)
  have HD := Lib.hid (fun h => Vo.clone_drop HR.out (name := v) (nm2 := a2) h)
  have HE := Lib.hid (fun h => Vo.clone_err (s := S) (name := v) (nm2 := a2) h)
  obtain ⟨RC, hRC⟩ : ∃ R, Vo.cloneR S v a2 = R := ⟨_, rfl⟩
  rw [hRC] at HRC HC HD HE
  obtain ⟨X, EX⟩ := RC
  dsimp only at HRC HC HD HE
  have HRY := Lib.hid (Vo.vwrite_right HRC.out a2 a3 a4)
  have HRZ := Lib.hid (Vo.vwrite_right HRC.out v a3 a4)
  have HWY := Lib.hid (fun h => Vo.write_other HRC.out (name := a2) (nm := v) (at_ := a3) (t := a4) h)
  have HWZ := Lib.hid (fun h => Vo.write_other HRC.out (name := v) (nm := a2) (at_ := a3) (t := a4) h)
  obtain ⟨RY, hRY⟩ : ∃ R, Vo.writeR X a2 a3 a4 = R := ⟨_, rfl⟩
  obtain ⟨RZ, hRZ⟩ : ∃ R, Vo.writeR X v a3 a4 = R := ⟨_, rfl⟩
  rw [hRY] at HRY HWY
  rw [hRZ] at HRZ HWZ
  have hRC := Lib.hid hRC; have hRY := Lib.hid hRY; have hRZ := Lib.hid hRZ; have hv := Lib.hid hv
  obtain ⟨Y, EY⟩ := RY
  obtain ⟨Z, EZ⟩ := RZ
  dsimp only at HRY HRZ HWY HWZ
  clear w0 hS
  go_enter Try.func14, Try.ntmps14
  go_wp2_with fail
  with_reducible refine B1.mono ?_
  rintro e v1 ⟨rfl, hb1⟩
  have HB1 := Lib.hid hb1
  have Q1 := M1 v1 hb1
  clear M1 B1 hb1
  go_wp2_with fail
  with_reducible refine Q1.mono ?_
  rintro e v2 ⟨a, n, c, b, m, d, rs, rfl, hs2, hb2⟩
  have HB_2 := Lib.hid ((HB1.out.trans (hb2.mono HB1.out.size)).alloc (HB1.out.trans (hb2.mono HB1.out.size)).size (.cells #[.slice a n c, .slice b m d] 52))
  have HXst_2 := Lib.hid (bxs_new v2 52 #[.slice a n c, .slice b m d] [.slice a n c, .slice b m d] rfl)
  have HSst_2 := Lib.hid (hs2.keep ((Below.refl _ v2).alloc (Nat.le_refl _) (.cells #[.slice a n c, .slice b m d] 52)))
  have hm : m ≤ 64 := by have := HR.out.len; rw [hs2.vlen] at this; omega
  clear hs2 hb2 Q1
  have x0 := HXst_2.out.c 0 _ rfl; have x1 := HXst_2.out.c 1 _ rfl
  have CT := pick_V a b n c m d _ rs S a1 _ HSst_2.out hm
  rw [hv.out] at CT
  go_wp2_with fail
  with_reducible refine CT.mono ?_
  rintro e v3 ⟨rfl, hb3⟩
  have HB_3 := Lib.hid (HB_2.out.trans (hb3.mono HB_2.out.size))
  have HXst_3 := Lib.hid (HXst_2.out.on hb3)
  have HSst_3 := Lib.hid (HSst_2.out.keep hb3)
  clear hb3 CT x0 x1
  have x0 := HXst_3.out.c 0 _ rfl; have x1 := HXst_3.out.c 1 _ rfl
  have CT := Clone_V a b n c m d _ rs S v a2 _ HSst_3.out HR.out w2
  rw [hRC.out] at CT
  go_wp2_with fail
  with_reducible refine CT.mono ?_
  rintro e v4 ⟨pa4, pn4, pc4, pb4, pm4, pd4, prs4, rfl, hs4, hb4⟩
  dsimp only at hs4
  have hc4 := hb4.alloc hb4.size (.cells #[.slice pa4 pn4 pc4, .slice pb4 pm4 pd4] 52)
  have HB_4 := Lib.hid (HB_3.out.trans (hc4.mono HB_3.out.size))
  have HXst_4 := Lib.hid (HXst_3.out.on hc4)
  have HSst_4 := Lib.hid (HSst_3.out.keep hc4)
  have HXX_4 := Lib.hid (bxs_new v4 52 #[.slice pa4 pn4 pc4, .slice pb4 pm4 pd4] [.slice pa4 pn4 pc4, .slice pb4 pm4 pd4] rfl)
  have HSX_4 := Lib.hid (hs4.keep ((Below.refl _ v4).alloc (Nat.le_refl _) (.cells #[.slice pa4 pn4 pc4, .slice pb4 pm4 pd4] 52)))
  clear hs4 hb4 hc4 CT x0 x1
  by_cases he : EX = 0
  · subst he
    obtain ⟨HT1, HT2, HNE⟩ := HC.out rfl
    obtain ⟨HDR, HL⟩ := HD.out rfl
    have HT1 := Lib.hid HT1; have HT2 := Lib.hid HT2; have HNE := Lib.hid HNE; have HDR := Lib.hid HDR
    obtain rfl : n = pn4 := by rw [← HSX_4.out.len, HL, HSst_4.out.len]
    clear HC HD HE HL
    have x0 := HXst_4.out.c 0 _ rfl; have x1 := HXst_4.out.c 1 _ rfl
    have CT := Texts_V a b n c m d _ rs S v _ HSst_4.out HR.out
    go_wp2_with fail
    with_reducible refine CT.mono ?_
    rintro e v5 ⟨ta5, tn5, tc5, rfl, ho5, hn5, hb5⟩
    have HB_5 := Lib.hid (HB_4.out.trans (hb5.mono HB_4.out.size))
    have HXst_5 := Lib.hid (HXst_4.out.on hb5)
    have HSst_5 := Lib.hid (HSst_4.out.keep hb5)
    have HXX_5 := Lib.hid (HXX_4.out.on hb5)
    have HSX_5 := Lib.hid (HSX_4.out.keep hb5)
    have HOwas_5 := Lib.hid (ho5)
    clear ho5 hb5 CT x0 x1
    have x0 := HXX_5.out.c 0 _ rfl; have x1 := HXX_5.out.c 1 _ rfl
    have CT := Texts_V pa4 pb4 n pc4 pm4 pd4 _ prs4 X a2 _ HSX_5.out HRC.out
    go_wp2_with fail
    with_reducible refine CT.mono ?_
    rintro e v6 ⟨ta6, tn6, tc6, rfl, ho6, hn6, hb6⟩
    have HB_6 := Lib.hid (HB_5.out.trans (hb6.mono HB_5.out.size))
    have HXst_6 := Lib.hid (HXst_5.out.on hb6)
    have HSst_6 := Lib.hid (HSst_5.out.keep hb6)
    have HXX_6 := Lib.hid (HXX_5.out.on hb6)
    have HSX_6 := Lib.hid (HSX_5.out.keep hb6)
    have HOwas_6 := Lib.hid (own_keep HOwas_5.out hb6)
    have HOcl_6 := Lib.hid (ho6)
    clear ho6 hb6 CT x0 x1
    have CT := Equal_ST ta6 ta5 tn6 tc6 tn5 tc5 _ _ _ _ _ HOcl_6.out HOwas_6.out (by omega) (by omega) (HT1.out)
    go_wp2_with fail
    with_reducible refine CT.mono ?_
    rintro e v7 ⟨rfl, hb7⟩
    have HB_7 := Lib.hid (HB_6.out.trans (hb7.mono HB_6.out.size))
    have HXst_7 := Lib.hid (HXst_6.out.on hb7)
    have HSst_7 := Lib.hid (HSst_6.out.keep hb7)
    have HXX_7 := Lib.hid (HXX_6.out.on hb7)
    have HSX_7 := Lib.hid (HSX_6.out.keep hb7)
    have HOwas_7 := Lib.hid (own_keep HOwas_6.out hb7)
    have HOcl_7 := Lib.hid (own_keep HOcl_6.out hb7)
    clear hb7 CT
    have x0 := HXX_7.out.c 0 _ rfl; have x1 := HXX_7.out.c 1 _ rfl
    have y0 := HXst_7.out.c 0 _ rfl; have y1 := HXst_7.out.c 1 _ rfl
    have CT := Write_V pa4 pb4 n pc4 pm4 pd4 _ prs4 X a2 a4 a3 _ HSX_7.out HRC.out w4
    rw [hRY.out] at CT
    go_wp2_with fail
    with_reducible refine CT.mono ?_
    rintro e v8 ⟨pa8, pn8, pc8, pb8, pm8, pd8, prs8, rfl, hs8, hb8⟩
    dsimp only at hs8
    have hc8 := hb8.alloc hb8.size (.cells #[.slice pa8 pn8 pc8, .slice pb8 pm8 pd8] 52)
    have HB_8 := Lib.hid (HB_7.out.trans (hc8.mono HB_7.out.size))
    have HXst_8 := Lib.hid (HXst_7.out.on hc8)
    have HSst_8 := Lib.hid (HSst_7.out.keep hc8)
    have HXX_8 := Lib.hid (HXX_7.out.on hc8)
    have HSX_8 := Lib.hid (HSX_7.out.keep hc8)
    have HOwas_8 := Lib.hid (own_keep HOwas_7.out hc8)
    have HOcl_8 := Lib.hid (own_keep HOcl_7.out hc8)
    have HXY_8 := Lib.hid (bxs_new v8 52 #[.slice pa8 pn8 pc8, .slice pb8 pm8 pd8] [.slice pa8 pn8 pc8, .slice pb8 pm8 pd8] rfl)
    have HSY_8 := Lib.hid (hs8.keep ((Below.refl _ v8).alloc (Nat.le_refl _) (.cells #[.slice pa8 pn8 pc8, .slice pb8 pm8 pd8] 52)))
    clear hs8 hb8 hc8 CT x0 x1 y0 y1
    by_cases hy : EY = 0
    · subst hy
      have HY0 := Lib.hid ((HWY.out rfl (fun e => HNE.out e.symm)).trans HT2.out)
      have x0 := HXY_8.out.c 0 _ rfl; have x1 := HXY_8.out.c 1 _ rfl
      have CT := Texts_V pa8 pb8 pn8 pc8 pm8 pd8 _ prs8 Y v _ HSY_8.out HRY.out
      go_wp2_with fail
      with_reducible refine CT.mono ?_
      rintro e v9 ⟨ta9, tn9, tc9, rfl, ho9, hn9, hb9⟩
      have HB_9 := Lib.hid (HB_8.out.trans (hb9.mono HB_8.out.size))
      have HXst_9 := Lib.hid (HXst_8.out.on hb9)
      have HSst_9 := Lib.hid (HSst_8.out.keep hb9)
      have HXX_9 := Lib.hid (HXX_8.out.on hb9)
      have HSX_9 := Lib.hid (HSX_8.out.keep hb9)
      have HOwas_9 := Lib.hid (own_keep HOwas_8.out hb9)
      have HOcl_9 := Lib.hid (own_keep HOcl_8.out hb9)
      have HXY_9 := Lib.hid (HXY_8.out.on hb9)
      have HSY_9 := Lib.hid (HSY_8.out.keep hb9)
      have HOy_9 := Lib.hid (ho9)
      clear ho9 hb9 CT x0 x1
      have CT := Equal_ST ta9 ta5 tn9 tc9 tn5 tc5 _ _ _ _ _ HOy_9.out HOwas_9.out (by omega) (by omega) (HY0.out)
      go_wp2_with fail
      with_reducible refine CT.mono ?_
      rintro e v10 ⟨rfl, hb10⟩
      have HB_10 := Lib.hid (HB_9.out.trans (hb10.mono HB_9.out.size))
      have HXst_10 := Lib.hid (HXst_9.out.on hb10)
      have HSst_10 := Lib.hid (HSst_9.out.keep hb10)
      have HXX_10 := Lib.hid (HXX_9.out.on hb10)
      have HSX_10 := Lib.hid (HSX_9.out.keep hb10)
      have HOwas_10 := Lib.hid (own_keep HOwas_9.out hb10)
      have HOcl_10 := Lib.hid (own_keep HOcl_9.out hb10)
      have HXY_10 := Lib.hid (HXY_9.out.on hb10)
      have HSY_10 := Lib.hid (HSY_9.out.keep hb10)
      have HOy_10 := Lib.hid (own_keep HOy_9.out hb10)
      clear hb10 CT
      have x0 := HXX_10.out.c 0 _ rfl; have x1 := HXX_10.out.c 1 _ rfl
      have CT := Write_V pa4 pb4 n pc4 pm4 pd4 _ prs4 X v a4 a3 _ HSX_10.out HRC.out w4
      rw [hRZ.out] at CT
      go_wp2_with fail
      with_reducible refine CT.mono ?_
      rintro e v11 ⟨pa11, pn11, pc11, pb11, pm11, pd11, prs11, rfl, hs11, hb11⟩
      dsimp only at hs11
      have hc11 := hb11.alloc hb11.size (.cells #[.slice pa11 pn11 pc11, .slice pb11 pm11 pd11] 52)
      have HB_11 := Lib.hid (HB_10.out.trans (hc11.mono HB_10.out.size))
      have HXst_11 := Lib.hid (HXst_10.out.on hc11)
      have HSst_11 := Lib.hid (HSst_10.out.keep hc11)
      have HXX_11 := Lib.hid (HXX_10.out.on hc11)
      have HSX_11 := Lib.hid (HSX_10.out.keep hc11)
      have HOwas_11 := Lib.hid (own_keep HOwas_10.out hc11)
      have HOcl_11 := Lib.hid (own_keep HOcl_10.out hc11)
      have HXY_11 := Lib.hid (HXY_10.out.on hc11)
      have HSY_11 := Lib.hid (HSY_10.out.keep hc11)
      have HOy_11 := Lib.hid (own_keep HOy_10.out hc11)
      have HXZ_11 := Lib.hid (bxs_new v11 52 #[.slice pa11 pn11 pc11, .slice pb11 pm11 pd11] [.slice pa11 pn11 pc11, .slice pb11 pm11 pd11] rfl)
      have HSZ_11 := Lib.hid (hs11.keep ((Below.refl _ v11).alloc (Nat.le_refl _) (.cells #[.slice pa11 pn11 pc11, .slice pb11 pm11 pd11] 52)))
      clear hs11 hb11 hc11 CT x0 x1
      by_cases hz : EZ = 0
      · subst hz
        have HZ0 := Lib.hid ((HWZ.out rfl HNE.out).trans HT1.out)
        have x0 := HXZ_11.out.c 0 _ rfl; have x1 := HXZ_11.out.c 1 _ rfl
        have CT := Texts_V pa11 pb11 pn11 pc11 pm11 pd11 _ prs11 Z a2 _ HSZ_11.out HRZ.out
        go_wp2_with fail
        with_reducible refine CT.mono ?_
        rintro e v12 ⟨ta12, tn12, tc12, rfl, ho12, hn12, hb12⟩
        have HB_12 := Lib.hid (HB_11.out.trans (hb12.mono HB_11.out.size))
        have HXst_12 := Lib.hid (HXst_11.out.on hb12)
        have HSst_12 := Lib.hid (HSst_11.out.keep hb12)
        have HXX_12 := Lib.hid (HXX_11.out.on hb12)
        have HSX_12 := Lib.hid (HSX_11.out.keep hb12)
        have HOwas_12 := Lib.hid (own_keep HOwas_11.out hb12)
        have HOcl_12 := Lib.hid (own_keep HOcl_11.out hb12)
        have HXY_12 := Lib.hid (HXY_11.out.on hb12)
        have HSY_12 := Lib.hid (HSY_11.out.keep hb12)
        have HOy_12 := Lib.hid (own_keep HOy_11.out hb12)
        have HXZ_12 := Lib.hid (HXZ_11.out.on hb12)
        have HSZ_12 := Lib.hid (HSZ_11.out.keep hb12)
        have HOz_12 := Lib.hid (ho12)
        clear ho12 hb12 CT x0 x1
        have CT := Equal_ST ta12 ta5 tn12 tc12 tn5 tc5 _ _ _ _ _ HOz_12.out HOwas_12.out (by omega) (by omega) (HZ0.out)
        go_wp2_with fail
        with_reducible refine CT.mono ?_
        rintro e v13 ⟨rfl, hb13⟩
        have HB_13 := Lib.hid (HB_12.out.trans (hb13.mono HB_12.out.size))
        have HXst_13 := Lib.hid (HXst_12.out.on hb13)
        have HSst_13 := Lib.hid (HSst_12.out.keep hb13)
        have HXX_13 := Lib.hid (HXX_12.out.on hb13)
        have HSX_13 := Lib.hid (HSX_12.out.keep hb13)
        have HOwas_13 := Lib.hid (own_keep HOwas_12.out hb13)
        have HOcl_13 := Lib.hid (own_keep HOcl_12.out hb13)
        have HXY_13 := Lib.hid (HXY_12.out.on hb13)
        have HSY_13 := Lib.hid (HSY_12.out.keep hb13)
        have HOy_13 := Lib.hid (own_keep HOy_12.out hb13)
        have HXZ_13 := Lib.hid (HXZ_12.out.on hb13)
        have HSZ_13 := Lib.hid (HSZ_12.out.keep hb13)
        have HOz_13 := Lib.hid (own_keep HOz_12.out hb13)
        clear hb13 CT
        have x0 := HXX_13.out.c 0 _ rfl; have x1 := HXX_13.out.c 1 _ rfl
        have CT := Drop_V pa4 pb4 n pc4 pm4 pd4 _ prs4 X a2 _ HSX_13.out HRC.out 
        rw [HDR.out] at CT
        go_wp2_with fail
        with_reducible refine CT.mono ?_
        rintro e v14 ⟨pa14, pn14, pc14, pb14, pm14, pd14, prs14, rfl, hs14, hb14⟩
        dsimp only at hs14
        have hc14 := hb14.alloc hb14.size (.cells #[.slice pa14 pn14 pc14, .slice pb14 pm14 pd14] 52)
        have HB_14 := Lib.hid (HB_13.out.trans (hc14.mono HB_13.out.size))
        have HXst_14 := Lib.hid (HXst_13.out.on hc14)
        have HSst_14 := Lib.hid (HSst_13.out.keep hc14)
        have HXX_14 := Lib.hid (HXX_13.out.on hc14)
        have HSX_14 := Lib.hid (HSX_13.out.keep hc14)
        have HOwas_14 := Lib.hid (own_keep HOwas_13.out hc14)
        have HOcl_14 := Lib.hid (own_keep HOcl_13.out hc14)
        have HXY_14 := Lib.hid (HXY_13.out.on hc14)
        have HSY_14 := Lib.hid (HSY_13.out.keep hc14)
        have HOy_14 := Lib.hid (own_keep HOy_13.out hc14)
        have HXZ_14 := Lib.hid (HXZ_13.out.on hc14)
        have HSZ_14 := Lib.hid (HSZ_13.out.keep hc14)
        have HOz_14 := Lib.hid (own_keep HOz_13.out hc14)
        have HXD_14 := Lib.hid (bxs_new v14 52 #[.slice pa14 pn14 pc14, .slice pb14 pm14 pd14] [.slice pa14 pn14 pc14, .slice pb14 pm14 pd14] rfl)
        have HSD_14 := Lib.hid (hs14.keep ((Below.refl _ v14).alloc (Nat.le_refl _) (.cells #[.slice pa14 pn14 pc14, .slice pb14 pm14 pd14] 52)))
        clear hs14 hb14 hc14 CT x0 x1
        have x0 := HXD_14.out.c 0 _ rfl; have x1 := HXD_14.out.c 1 _ rfl
        have y0 := HXst_14.out.c 0 _ rfl; have y1 := HXst_14.out.c 1 _ rfl
        have CT := Same_V pa14 a pb14 b pn14 pc14 pm14 pd14 n c m d _ _ prs14 rs S _ HSD_14.out HSst_14.out HR.out
        go_wp2_with fail
        with_reducible refine CT.mono ?_
        rintro e v15 ⟨rfl, hb15⟩
        have HB_15 := Lib.hid (HB_14.out.trans (hb15.mono HB_14.out.size))
        have HXst_15 := Lib.hid (HXst_14.out.on hb15)
        have HSst_15 := Lib.hid (HSst_14.out.keep hb15)
        have HXX_15 := Lib.hid (HXX_14.out.on hb15)
        have HSX_15 := Lib.hid (HSX_14.out.keep hb15)
        have HOwas_15 := Lib.hid (own_keep HOwas_14.out hb15)
        have HOcl_15 := Lib.hid (own_keep HOcl_14.out hb15)
        have HXY_15 := Lib.hid (HXY_14.out.on hb15)
        have HSY_15 := Lib.hid (HSY_14.out.keep hb15)
        have HOy_15 := Lib.hid (own_keep HOy_14.out hb15)
        have HXZ_15 := Lib.hid (HXZ_14.out.on hb15)
        have HSZ_15 := Lib.hid (HSZ_14.out.keep hb15)
        have HOz_15 := Lib.hid (own_keep HOz_14.out hb15)
        have HXD_15 := Lib.hid (HXD_14.out.on hb15)
        have HSD_15 := Lib.hid (HSD_14.out.keep hb15)
        clear hb15 CT x0 x1 y0 y1
        go_wp2_with fail
        go_ret
        exact ⟨rfl, HB_15.out⟩
      · have hb0 : ((EZ : Int) == 0) = false := beq_eq_false_iff_ne.2 (by omega)
        have x0 := HXX_11.out.c 0 _ rfl; have x1 := HXX_11.out.c 1 _ rfl
        have CT := Drop_V pa4 pb4 n pc4 pm4 pd4 _ prs4 X a2 _ HSX_11.out HRC.out 
        rw [HDR.out] at CT
        go_wp2_with fail
        with_reducible refine CT.mono ?_
        rintro e v12 ⟨pa12, pn12, pc12, pb12, pm12, pd12, prs12, rfl, hs12, hb12⟩
        dsimp only at hs12
        have hc12 := hb12.alloc hb12.size (.cells #[.slice pa12 pn12 pc12, .slice pb12 pm12 pd12] 52)
        have HB_12 := Lib.hid (HB_11.out.trans (hc12.mono HB_11.out.size))
        have HXst_12 := Lib.hid (HXst_11.out.on hc12)
        have HSst_12 := Lib.hid (HSst_11.out.keep hc12)
        have HXX_12 := Lib.hid (HXX_11.out.on hc12)
        have HSX_12 := Lib.hid (HSX_11.out.keep hc12)
        have HOwas_12 := Lib.hid (own_keep HOwas_11.out hc12)
        have HOcl_12 := Lib.hid (own_keep HOcl_11.out hc12)
        have HXY_12 := Lib.hid (HXY_11.out.on hc12)
        have HSY_12 := Lib.hid (HSY_11.out.keep hc12)
        have HOy_12 := Lib.hid (own_keep HOy_11.out hc12)
        have HXZ_12 := Lib.hid (HXZ_11.out.on hc12)
        have HSZ_12 := Lib.hid (HSZ_11.out.keep hc12)
        have HXD_12 := Lib.hid (bxs_new v12 52 #[.slice pa12 pn12 pc12, .slice pb12 pm12 pd12] [.slice pa12 pn12 pc12, .slice pb12 pm12 pd12] rfl)
        have HSD_12 := Lib.hid (hs12.keep ((Below.refl _ v12).alloc (Nat.le_refl _) (.cells #[.slice pa12 pn12 pc12, .slice pb12 pm12 pd12] 52)))
        clear hs12 hb12 hc12 CT x0 x1
        have x0 := HXD_12.out.c 0 _ rfl; have x1 := HXD_12.out.c 1 _ rfl
        have y0 := HXst_12.out.c 0 _ rfl; have y1 := HXst_12.out.c 1 _ rfl
        have CT := Same_V pa12 a pb12 b pn12 pc12 pm12 pd12 n c m d _ _ prs12 rs S _ HSD_12.out HSst_12.out HR.out
        go_wp2_with fail
        with_reducible refine CT.mono ?_
        rintro e v13 ⟨rfl, hb13⟩
        have HB_13 := Lib.hid (HB_12.out.trans (hb13.mono HB_12.out.size))
        have HXst_13 := Lib.hid (HXst_12.out.on hb13)
        have HSst_13 := Lib.hid (HSst_12.out.keep hb13)
        have HXX_13 := Lib.hid (HXX_12.out.on hb13)
        have HSX_13 := Lib.hid (HSX_12.out.keep hb13)
        have HOwas_13 := Lib.hid (own_keep HOwas_12.out hb13)
        have HOcl_13 := Lib.hid (own_keep HOcl_12.out hb13)
        have HXY_13 := Lib.hid (HXY_12.out.on hb13)
        have HSY_13 := Lib.hid (HSY_12.out.keep hb13)
        have HOy_13 := Lib.hid (own_keep HOy_12.out hb13)
        have HXZ_13 := Lib.hid (HXZ_12.out.on hb13)
        have HSZ_13 := Lib.hid (HSZ_12.out.keep hb13)
        have HXD_13 := Lib.hid (HXD_12.out.on hb13)
        have HSD_13 := Lib.hid (HSD_12.out.keep hb13)
        clear hb13 CT x0 x1 y0 y1
        go_wp2_with fail
        go_ret
        exact ⟨rfl, HB_13.out⟩
    · have hb1 : ((EY : Int) == 0) = false := beq_eq_false_iff_ne.2 (by omega)
      have x0 := HXX_8.out.c 0 _ rfl; have x1 := HXX_8.out.c 1 _ rfl
      have CT := Write_V pa4 pb4 n pc4 pm4 pd4 _ prs4 X v a4 a3 _ HSX_8.out HRC.out w4
      rw [hRZ.out] at CT
      go_wp2_with fail
      with_reducible refine CT.mono ?_
      rintro e v9 ⟨pa9, pn9, pc9, pb9, pm9, pd9, prs9, rfl, hs9, hb9⟩
      dsimp only at hs9
      have hc9 := hb9.alloc hb9.size (.cells #[.slice pa9 pn9 pc9, .slice pb9 pm9 pd9] 52)
      have HB_9 := Lib.hid (HB_8.out.trans (hc9.mono HB_8.out.size))
      have HXst_9 := Lib.hid (HXst_8.out.on hc9)
      have HSst_9 := Lib.hid (HSst_8.out.keep hc9)
      have HXX_9 := Lib.hid (HXX_8.out.on hc9)
      have HSX_9 := Lib.hid (HSX_8.out.keep hc9)
      have HOwas_9 := Lib.hid (own_keep HOwas_8.out hc9)
      have HOcl_9 := Lib.hid (own_keep HOcl_8.out hc9)
      have HXY_9 := Lib.hid (HXY_8.out.on hc9)
      have HSY_9 := Lib.hid (HSY_8.out.keep hc9)
      have HXZ_9 := Lib.hid (bxs_new v9 52 #[.slice pa9 pn9 pc9, .slice pb9 pm9 pd9] [.slice pa9 pn9 pc9, .slice pb9 pm9 pd9] rfl)
      have HSZ_9 := Lib.hid (hs9.keep ((Below.refl _ v9).alloc (Nat.le_refl _) (.cells #[.slice pa9 pn9 pc9, .slice pb9 pm9 pd9] 52)))
      clear hs9 hb9 hc9 CT x0 x1
      by_cases hz : EZ = 0
      · subst hz
        have HZ0 := Lib.hid ((HWZ.out rfl HNE.out).trans HT1.out)
        have x0 := HXZ_9.out.c 0 _ rfl; have x1 := HXZ_9.out.c 1 _ rfl
        have CT := Texts_V pa9 pb9 pn9 pc9 pm9 pd9 _ prs9 Z a2 _ HSZ_9.out HRZ.out
        go_wp2_with fail
        with_reducible refine CT.mono ?_
        rintro e v10 ⟨ta10, tn10, tc10, rfl, ho10, hn10, hb10⟩
        have HB_10 := Lib.hid (HB_9.out.trans (hb10.mono HB_9.out.size))
        have HXst_10 := Lib.hid (HXst_9.out.on hb10)
        have HSst_10 := Lib.hid (HSst_9.out.keep hb10)
        have HXX_10 := Lib.hid (HXX_9.out.on hb10)
        have HSX_10 := Lib.hid (HSX_9.out.keep hb10)
        have HOwas_10 := Lib.hid (own_keep HOwas_9.out hb10)
        have HOcl_10 := Lib.hid (own_keep HOcl_9.out hb10)
        have HXY_10 := Lib.hid (HXY_9.out.on hb10)
        have HSY_10 := Lib.hid (HSY_9.out.keep hb10)
        have HXZ_10 := Lib.hid (HXZ_9.out.on hb10)
        have HSZ_10 := Lib.hid (HSZ_9.out.keep hb10)
        have HOz_10 := Lib.hid (ho10)
        clear ho10 hb10 CT x0 x1
        have CT := Equal_ST ta10 ta5 tn10 tc10 tn5 tc5 _ _ _ _ _ HOz_10.out HOwas_10.out (by omega) (by omega) (HZ0.out)
        go_wp2_with fail
        with_reducible refine CT.mono ?_
        rintro e v11 ⟨rfl, hb11⟩
        have HB_11 := Lib.hid (HB_10.out.trans (hb11.mono HB_10.out.size))
        have HXst_11 := Lib.hid (HXst_10.out.on hb11)
        have HSst_11 := Lib.hid (HSst_10.out.keep hb11)
        have HXX_11 := Lib.hid (HXX_10.out.on hb11)
        have HSX_11 := Lib.hid (HSX_10.out.keep hb11)
        have HOwas_11 := Lib.hid (own_keep HOwas_10.out hb11)
        have HOcl_11 := Lib.hid (own_keep HOcl_10.out hb11)
        have HXY_11 := Lib.hid (HXY_10.out.on hb11)
        have HSY_11 := Lib.hid (HSY_10.out.keep hb11)
        have HXZ_11 := Lib.hid (HXZ_10.out.on hb11)
        have HSZ_11 := Lib.hid (HSZ_10.out.keep hb11)
        have HOz_11 := Lib.hid (own_keep HOz_10.out hb11)
        clear hb11 CT
        have x0 := HXX_11.out.c 0 _ rfl; have x1 := HXX_11.out.c 1 _ rfl
        have CT := Drop_V pa4 pb4 n pc4 pm4 pd4 _ prs4 X a2 _ HSX_11.out HRC.out 
        rw [HDR.out] at CT
        go_wp2_with fail
        with_reducible refine CT.mono ?_
        rintro e v12 ⟨pa12, pn12, pc12, pb12, pm12, pd12, prs12, rfl, hs12, hb12⟩
        dsimp only at hs12
        have hc12 := hb12.alloc hb12.size (.cells #[.slice pa12 pn12 pc12, .slice pb12 pm12 pd12] 52)
        have HB_12 := Lib.hid (HB_11.out.trans (hc12.mono HB_11.out.size))
        have HXst_12 := Lib.hid (HXst_11.out.on hc12)
        have HSst_12 := Lib.hid (HSst_11.out.keep hc12)
        have HXX_12 := Lib.hid (HXX_11.out.on hc12)
        have HSX_12 := Lib.hid (HSX_11.out.keep hc12)
        have HOwas_12 := Lib.hid (own_keep HOwas_11.out hc12)
        have HOcl_12 := Lib.hid (own_keep HOcl_11.out hc12)
        have HXY_12 := Lib.hid (HXY_11.out.on hc12)
        have HSY_12 := Lib.hid (HSY_11.out.keep hc12)
        have HXZ_12 := Lib.hid (HXZ_11.out.on hc12)
        have HSZ_12 := Lib.hid (HSZ_11.out.keep hc12)
        have HOz_12 := Lib.hid (own_keep HOz_11.out hc12)
        have HXD_12 := Lib.hid (bxs_new v12 52 #[.slice pa12 pn12 pc12, .slice pb12 pm12 pd12] [.slice pa12 pn12 pc12, .slice pb12 pm12 pd12] rfl)
        have HSD_12 := Lib.hid (hs12.keep ((Below.refl _ v12).alloc (Nat.le_refl _) (.cells #[.slice pa12 pn12 pc12, .slice pb12 pm12 pd12] 52)))
        clear hs12 hb12 hc12 CT x0 x1
        have x0 := HXD_12.out.c 0 _ rfl; have x1 := HXD_12.out.c 1 _ rfl
        have y0 := HXst_12.out.c 0 _ rfl; have y1 := HXst_12.out.c 1 _ rfl
        have CT := Same_V pa12 a pb12 b pn12 pc12 pm12 pd12 n c m d _ _ prs12 rs S _ HSD_12.out HSst_12.out HR.out
        go_wp2_with fail
        with_reducible refine CT.mono ?_
        rintro e v13 ⟨rfl, hb13⟩
        have HB_13 := Lib.hid (HB_12.out.trans (hb13.mono HB_12.out.size))
        have HXst_13 := Lib.hid (HXst_12.out.on hb13)
        have HSst_13 := Lib.hid (HSst_12.out.keep hb13)
        have HXX_13 := Lib.hid (HXX_12.out.on hb13)
        have HSX_13 := Lib.hid (HSX_12.out.keep hb13)
        have HOwas_13 := Lib.hid (own_keep HOwas_12.out hb13)
        have HOcl_13 := Lib.hid (own_keep HOcl_12.out hb13)
        have HXY_13 := Lib.hid (HXY_12.out.on hb13)
        have HSY_13 := Lib.hid (HSY_12.out.keep hb13)
        have HXZ_13 := Lib.hid (HXZ_12.out.on hb13)
        have HSZ_13 := Lib.hid (HSZ_12.out.keep hb13)
        have HOz_13 := Lib.hid (own_keep HOz_12.out hb13)
        have HXD_13 := Lib.hid (HXD_12.out.on hb13)
        have HSD_13 := Lib.hid (HSD_12.out.keep hb13)
        clear hb13 CT x0 x1 y0 y1
        go_wp2_with fail
        go_ret
        exact ⟨rfl, HB_13.out⟩
      · have hb0 : ((EZ : Int) == 0) = false := beq_eq_false_iff_ne.2 (by omega)
        have x0 := HXX_9.out.c 0 _ rfl; have x1 := HXX_9.out.c 1 _ rfl
        have CT := Drop_V pa4 pb4 n pc4 pm4 pd4 _ prs4 X a2 _ HSX_9.out HRC.out 
        rw [HDR.out] at CT
        go_wp2_with fail
        with_reducible refine CT.mono ?_
        rintro e v10 ⟨pa10, pn10, pc10, pb10, pm10, pd10, prs10, rfl, hs10, hb10⟩
        dsimp only at hs10
        have hc10 := hb10.alloc hb10.size (.cells #[.slice pa10 pn10 pc10, .slice pb10 pm10 pd10] 52)
        have HB_10 := Lib.hid (HB_9.out.trans (hc10.mono HB_9.out.size))
        have HXst_10 := Lib.hid (HXst_9.out.on hc10)
        have HSst_10 := Lib.hid (HSst_9.out.keep hc10)
        have HXX_10 := Lib.hid (HXX_9.out.on hc10)
        have HSX_10 := Lib.hid (HSX_9.out.keep hc10)
        have HOwas_10 := Lib.hid (own_keep HOwas_9.out hc10)
        have HOcl_10 := Lib.hid (own_keep HOcl_9.out hc10)
        have HXY_10 := Lib.hid (HXY_9.out.on hc10)
        have HSY_10 := Lib.hid (HSY_9.out.keep hc10)
        have HXZ_10 := Lib.hid (HXZ_9.out.on hc10)
        have HSZ_10 := Lib.hid (HSZ_9.out.keep hc10)
        have HXD_10 := Lib.hid (bxs_new v10 52 #[.slice pa10 pn10 pc10, .slice pb10 pm10 pd10] [.slice pa10 pn10 pc10, .slice pb10 pm10 pd10] rfl)
        have HSD_10 := Lib.hid (hs10.keep ((Below.refl _ v10).alloc (Nat.le_refl _) (.cells #[.slice pa10 pn10 pc10, .slice pb10 pm10 pd10] 52)))
        clear hs10 hb10 hc10 CT x0 x1
        have x0 := HXD_10.out.c 0 _ rfl; have x1 := HXD_10.out.c 1 _ rfl
        have y0 := HXst_10.out.c 0 _ rfl; have y1 := HXst_10.out.c 1 _ rfl
        have CT := Same_V pa10 a pb10 b pn10 pc10 pm10 pd10 n c m d _ _ prs10 rs S _ HSD_10.out HSst_10.out HR.out
        go_wp2_with fail
        with_reducible refine CT.mono ?_
        rintro e v11 ⟨rfl, hb11⟩
        have HB_11 := Lib.hid (HB_10.out.trans (hb11.mono HB_10.out.size))
        have HXst_11 := Lib.hid (HXst_10.out.on hb11)
        have HSst_11 := Lib.hid (HSst_10.out.keep hb11)
        have HXX_11 := Lib.hid (HXX_10.out.on hb11)
        have HSX_11 := Lib.hid (HSX_10.out.keep hb11)
        have HOwas_11 := Lib.hid (own_keep HOwas_10.out hb11)
        have HOcl_11 := Lib.hid (own_keep HOcl_10.out hb11)
        have HXY_11 := Lib.hid (HXY_10.out.on hb11)
        have HSY_11 := Lib.hid (HSY_10.out.keep hb11)
        have HXZ_11 := Lib.hid (HXZ_10.out.on hb11)
        have HSZ_11 := Lib.hid (HSZ_10.out.keep hb11)
        have HXD_11 := Lib.hid (HXD_10.out.on hb11)
        have HSD_11 := Lib.hid (HSD_10.out.keep hb11)
        clear hb11 CT x0 x1 y0 y1
        go_wp2_with fail
        go_ret
        exact ⟨rfl, HB_11.out⟩
  · have hx := HE.out he
    subst hx
    obtain rfl : pm4 = 0 := HSX_4.out.vlen.symm
    have hb0 : ((EX : Int) != 0) = true := bne_iff_ne.2 (by omega)
    have x0 := HXX_4.out.c 0 _ rfl; have x1 := HXX_4.out.c 1 _ rfl
    clear HE
    go_wp2_with fail
    go_ret
    exact ⟨rfl, HB_4.out⟩

end Go.Proofs.Yteddendidjhmbaa
