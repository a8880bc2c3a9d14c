/- VolApart: writes at unlike places, in either order: the same texts, and as many items; for every input. -/
import Derived.Test.YteddendidjhmbaaVolApP
import Derived.Test.YteddendidjhmbaaTxE
import Derived.Deep.RegionHeld3
namespace Go.Proofs.Yteddendidjhmbaa
open Go.RowKit

theorem bytes_ne {a b : ByteArray} (h : a ≠ b) : ¬ a.toList = b.toList := fun e => h (by
  have h1 : (a.toList == b.toList) = true := by rw [e]; exact beq_self_eq_true _
  exact (Vo.called_iff (name := b) (v := ⟨a, []⟩)).1 h1)

set_option maxRecDepth 100000 in
set_option maxHeartbeats 16000000 in
theorem volApart_walk (a0 : Option Addr) (len0 cap0 : Nat) (t0 : List Lg.Op) (a1 : Int) (a2 : Int) (a3 : Int) (a4 : Int) (a5 : ByteArray) (a6 : ByteArray) (w : World) (w0 : OArg w a0 len0 cap0 t0) (_w1 : (Lit.int .i64 a1).wf = true) (_w2 : (Lit.int .i64 a2).wf = true) (_w3 : (Lit.int .i64 a3).wf = true) (_w4 : (Lit.int .i64 a4).wf = true) (w5 : a5.size ≤ maxLen) (w6 : a6.size ≤ maxLen) :
    Calls Try.prog 13 #[.slice a0 len0 cap0, .int .i64 a1, .int .i64 a2, .int .i64 a3, .int .i64 a4, .string a5, .string a6] w fun e w' => e = .returned (.bool true) ∧ Below w.heap.size w w' := by
  have B1 := begun_V w
  have M1 : ∀ W, Below w.heap.size w W → Calls Try.prog 33 #[.slice a0 len0 cap0] W (StMade W (Vo.made t0)) := fun W hb => made_V a0 len0 cap0 t0 W ⟨w0.1.keep hb, w0.2⟩
  have HR : Hid (Vo.Right (Vo.made t0)) := Lib.hid (Vo.made_right t0)
  obtain ⟨S, hS⟩ : ∃ S, Vo.made t0 = S := ⟨_, rfl⟩
  rw [hS] at M1 HR
  obtain ⟨va, hva⟩ : ∃ v, Vo.pick S a1 = v := ⟨_, rfl⟩
  obtain ⟨vb, hvb⟩ : ∃ v, Vo.pick S a2 = v := ⟨_, rfl⟩
  have HW := Lib.hid (fun hne h1 h2 => Vo.writes_apart HR.out (a := va) (b := vb) (p := a3) (q := a4) (s := a5) (t := a6) hne h1 h2)
  have HRX := Lib.hid (Vo.vwrite_right HR.out va a3 a5)
  have HRY := Lib.hid (Vo.vwrite_right HR.out vb a4 a6)
  obtain ⟨RX, hRX⟩ : ∃ R, Vo.writeR S va a3 a5 = R := ⟨_, rfl⟩
  obtain ⟨RY, hRY⟩ : ∃ R, Vo.writeR S vb a4 a6 = R := ⟨_, rfl⟩
  rw [hRX, hRY] at HW
  rw [hRX] at HRX
  rw [hRY] at HRY
  obtain ⟨X, EX⟩ := RX
  obtain ⟨Y, EY⟩ := RY
  dsimp only at HRX HRY HW
  have HRU := Lib.hid (Vo.vwrite_right HRX.out vb a4 a6)
  have HRV := Lib.hid (Vo.vwrite_right HRY.out va a3 a5)
  obtain ⟨RU, hRU⟩ : ∃ R, Vo.writeR X vb a4 a6 = R := ⟨_, rfl⟩
  obtain ⟨RV, hRV⟩ : ∃ R, Vo.writeR Y va a3 a5 = R := ⟨_, rfl⟩
  rw [hRU, hRV] at HW
  rw [hRU] at HRU
  rw [hRV] at HRV
  obtain ⟨U, EU⟩ := RU
  obtain ⟨V, EV⟩ := RV
  dsimp only at HRU HRV HW
  have hRX := Lib.hid hRX; have hRY := Lib.hid hRY; have hRU := Lib.hid hRU; have hRV := Lib.hid hRV; have hva := Lib.hid hva; have hvb := Lib.hid hvb
  clear w0 hS
  go_enter Try.func13, Try.ntmps13
  go_wp2_with fail
  with_reducible refine B1.mono ?_
  rintro e v1 ⟨rfl, hb1⟩
  have HB1 := Lib.hid hb1
  have Q1 := M1 v1 hb1
  clear M1 B1 hb1
  go_wp2_with fail
  with_reducible refine Q1.mono ?_
  rintro e v2 ⟨a, n, c, b, m, d, rs, rfl, hs2, hb2⟩
  have HB_2 := Lib.hid ((HB1.out.trans (hb2.mono HB1.out.size)).alloc (HB1.out.trans (hb2.mono HB1.out.size)).size (.cells #[.slice a n c, .slice b m d] 52))
  have HXst_2 := Lib.hid (bxs_new v2 52 #[.slice a n c, .slice b m d] [.slice a n c, .slice b m d] rfl)
  have HSst_2 := Lib.hid (hs2.keep ((Below.refl _ v2).alloc (Nat.le_refl _) (.cells #[.slice a n c, .slice b m d] 52)))
  have hm : m ≤ 64 := by have := HR.out.len; rw [hs2.vlen] at this; omega
  clear hs2 hb2 Q1
  go_wp2_with fail
  generalize v2.alloc (.cells #[.slice a n c, .slice b m d] 52) = Wr1 at *
  have r1w0 : Below Wr1.heap.size Wr1 Wr1.drew := Below.drew (Below.refl _ _)
  have r1c0_0_0 := (HXst_2.out.on r1w0).c 0 _ rfl
  have r1c0_0_1 := (HXst_2.out.on r1w0).c 1 _ rfl
  go_region_held3 (fun V => V.cell? ⟨v2.heap.size, 0, none⟩ = some (.slice a n c) ∧ V.cell? ⟨v2.heap.size, 1, none⟩ = some (.slice b m d) ∧ Below Wr1.heap.size Wr1 V)
    (first | with_reducible exact ⟨by assumption, by assumption, by assumption⟩)
    ((first
      | (go_at_call 35; have rq := pick_V a b n c m d _ rs S a1 _ (HSst_2.out.keep r1w0) hm; rw [hva.out] at rq; (with_reducible refine rq.mono ?_); clear rq; rintro e r1u1 ⟨rfl, r1h1⟩; have r1w1 := r1w0.trans (r1h1.mono r1w0.size); clear r1h1; have r1c1_0_0 := (HXst_2.out.on r1w1).c 0 _ rfl; have r1c1_0_1 := (HXst_2.out.on r1w1).c 1 _ rfl)
      | (go_at_call 35; have rq := pick_V a b n c m d _ rs S a2 _ (HSst_2.out.keep r1w1) hm; rw [hvb.out] at rq; (with_reducible refine rq.mono ?_); clear rq; rintro e r1u2 ⟨rfl, r1h2⟩; have r1w2 := r1w1.trans (r1h2.mono r1w1.size); clear r1h2; have r1c2_0_0 := (HXst_2.out.on r1w2).c 0 _ rfl; have r1c2_0_1 := (HXst_2.out.on r1w2).c 1 _ rfl)))
  have hb3 := r1w2.mono (Nat.le_refl _)
  have HB_3 := Lib.hid (HB_2.out.trans (hb3.mono HB_2.out.size))
  have HXst_3 := Lib.hid (HXst_2.out.on hb3)
  have HSst_3 := Lib.hid (HSst_2.out.keep hb3)
  clear hb3 r1w0 r1w1 r1w2
  have x0 := HXst_3.out.c 0 _ rfl; have x1 := HXst_3.out.c 1 _ rfl
  have CT := Write_V a b n c m d _ rs S va a5 a3 _ HSst_3.out HR.out w5
  rw [hRX.out] at CT
  go_wp2_with fail
  with_reducible refine CT.mono ?_
  rintro e v4 ⟨pa4, pn4, pc4, pb4, pm4, pd4, prs4, rfl, hs4, hb4⟩
  dsimp only at hs4
  have HAX_st := Lib.hid (hs4.off HXst_3.out.lt)
  have hzX : w.heap.size ≤ v4.heap.size := (HB_3.out.trans (hb4.mono HB_3.out.size)).size
  have hlX_st : v2.heap.size < v4.heap.size := Nat.lt_of_lt_of_le HXst_3.out.lt hb4.size
  have hc4 := hb4.alloc hb4.size (.cells #[.slice pa4 pn4 pc4, .slice pb4 pm4 pd4] 52)
  have HB_4 := Lib.hid (HB_3.out.trans (hc4.mono HB_3.out.size))
  have HXst_4 := Lib.hid (HXst_3.out.on hc4)
  have HSst_4 := Lib.hid (HSst_3.out.keep hc4)
  have HXX_4 := Lib.hid (bxs_new v4 52 #[.slice pa4 pn4 pc4, .slice pb4 pm4 pd4] [.slice pa4 pn4 pc4, .slice pb4 pm4 pd4] rfl)
  have HSX_4 := Lib.hid (hs4.keep ((Below.refl _ v4).alloc (Nat.le_refl _) (.cells #[.slice pa4 pn4 pc4, .slice pb4 pm4 pd4] 52)))
  clear hs4 hb4 hc4 CT x0 x1
  have x0 := HXst_4.out.c 0 _ rfl; have x1 := HXst_4.out.c 1 _ rfl
  have CT := Write_V a b n c m d _ rs S vb a6 a4 _ HSst_4.out HR.out w6
  rw [hRY.out] at CT
  go_wp2_with fail
  with_reducible refine CT.mono ?_
  rintro e v5 ⟨pa5, pn5, pc5, pb5, pm5, pd5, prs5, rfl, hs5, hb5⟩
  dsimp only at hs5
  have HAY_st := Lib.hid (hs5.off HXst_4.out.lt)
  have HAY_X := Lib.hid (hs5.off HXX_4.out.lt)
  have hzY : w.heap.size ≤ v5.heap.size := (HB_4.out.trans (hb5.mono HB_4.out.size)).size
  have hlY_st : v2.heap.size < v5.heap.size := Nat.lt_of_lt_of_le HXst_4.out.lt hb5.size
  have hlY_X : v4.heap.size < v5.heap.size := Nat.lt_of_lt_of_le HXX_4.out.lt hb5.size
  have hc5 := hb5.alloc hb5.size (.cells #[.slice pa5 pn5 pc5, .slice pb5 pm5 pd5] 52)
  have HB_5 := Lib.hid (HB_4.out.trans (hc5.mono HB_4.out.size))
  have HXst_5 := Lib.hid (HXst_4.out.on hc5)
  have HSst_5 := Lib.hid (HSst_4.out.keep hc5)
  have HXX_5 := Lib.hid (HXX_4.out.on hc5)
  have HSX_5 := Lib.hid (HSX_4.out.keep hc5)
  have HXY_5 := Lib.hid (bxs_new v5 52 #[.slice pa5 pn5 pc5, .slice pb5 pm5 pd5] [.slice pa5 pn5 pc5, .slice pb5 pm5 pd5] rfl)
  have HSY_5 := Lib.hid (hs5.keep ((Below.refl _ v5).alloc (Nat.le_refl _) (.cells #[.slice pa5 pn5 pc5, .slice pb5 pm5 pd5] 52)))
  clear hs5 hb5 hc5 CT x0 x1
  by_cases hx : EX = 0
  · subst hx
    by_cases hy : EY = 0
    · subst hy
      by_cases hn : va = vb ∧ a3 = a4
      · obtain ⟨hn1, hn2⟩ := hn
        subst hn1; subst hn2
        go_wp2_with fail
        go_ret
        exact ⟨rfl, HB_5.out⟩
      · have HW2 := Lib.hid (HW.out hn rfl rfl)
        clear HW
        by_cases hn1 : va = vb
        · subst hn1
          have hn2 : a3 ≠ a4 := fun e => hn ⟨rfl, e⟩
          have hn3 : (a3 == a4) = false := beq_eq_false_iff_ne.2 hn2
          clear hn
          have x0 := HXX_5.out.c 0 _ rfl; have x1 := HXX_5.out.c 1 _ rfl
          go_wp2_with fail
          have CT := Write_V pa4 pb4 pn4 pc4 pm4 pd4 _ prs4 X va a6 a4 _ HSX_5.out HRX.out w6
          rw [hRU.out] at CT
          with_reducible refine CT.mono ?_
          rintro e v6 ⟨pa6, pn6, pc6, pb6, pm6, pd6, prs6, rfl, hs6, hb6⟩
          dsimp only at hs6
          have HAU_Y := Lib.hid (hs6.off HXY_5.out.lt)
          have HAU_X := Lib.hid (hs6.off HXX_5.out.lt)
          have HB_6 := Lib.hid (HB_5.out.trans (hb6.mono HB_5.out.size))
          have HXst_6 := Lib.hid (HXst_5.out.on hb6)
          have HXX_6 := Lib.hid (HXX_5.out.on hb6)
          have HXY_6 := Lib.hid (HXY_5.out.on hb6)
          have HSY_6 := Lib.hid (HSY_5.out.keep hb6)
          clear CT x0 x1
          have y0 := HXX_6.out.c 0 _ rfl; have y1 := HXX_6.out.c 1 _ rfl; have z0 := HXX_6.out.z 0 (show 0 < 2 by decide); have z1 := HXX_6.out.z 1 (show 1 < 2 by decide)
          have HB_6s := Lib.hid (below_set2 HB_6.out (hzX) (.slice pa6 pn6 pc6) (.slice pb6 pm6 pd6))
          have HXst_6s := Lib.hid ((HXst_6.out.other (i := 0) (Nat.ne_of_gt hlX_st) (.slice pa6 pn6 pc6)).other (i := 1) (Nat.ne_of_gt hlX_st) (.slice pb6 pm6 pd6))
          have HXX_6s := Lib.hid (HXX_6.out.set2 (.slice pa6 pn6 pc6) (.slice pb6 pm6 pd6))
          have HXY_6s := Lib.hid ((HXY_6.out.other (i := 0) (Nat.ne_of_lt hlY_X) (.slice pa6 pn6 pc6)).other (i := 1) (Nat.ne_of_lt hlY_X) (.slice pb6 pm6 pd6))
          have HSY_6s := Lib.hid ((HSY_6.out.other (i := 0) HAY_X.out (.slice pa6 pn6 pc6)).other (i := 1) HAY_X.out (.slice pb6 pm6 pd6))
          have HSU_6s := Lib.hid ((hs6.other (i := 0) HAU_X.out (.slice pa6 pn6 pc6)).other (i := 1) HAU_X.out (.slice pb6 pm6 pd6))
          clear hs6 hb6
          have x0 := HXY_6s.out.c 0 _ rfl; have x1 := HXY_6s.out.c 1 _ rfl
          go_wp2_with fail
          clear y0 y1 z0 z1
          generalize (v6.setCell ⟨v4.heap.size, 0, none⟩ (.slice pa6 pn6 pc6)).setCell ⟨v4.heap.size, 1, none⟩ (.slice pb6 pm6 pd6) = Ws2 at *
          have CT := Write_V pa5 pb5 pn5 pc5 pm5 pd5 _ prs5 Y va a5 a3 _ HSY_6s.out HRY.out w5
          rw [hRV.out] at CT
          with_reducible refine CT.mono ?_
          rintro e v7 ⟨pa7, pn7, pc7, pb7, pm7, pd7, prs7, rfl, hs7, hb7⟩
          dsimp only at hs7
          have HAV_U := Lib.hid (hs7.off HXX_6s.out.lt)
          have HAV_Y := Lib.hid (hs7.off HXY_6s.out.lt)
          have HB_7 := Lib.hid (HB_6s.out.trans (hb7.mono HB_6s.out.size))
          have HXst_7 := Lib.hid (HXst_6s.out.on hb7)
          have HXY_7 := Lib.hid (HXY_6s.out.on hb7)
          have HSU_7 := Lib.hid (HSU_6s.out.keep hb7)
          have HXU_7 := Lib.hid (HXX_6s.out.on hb7)
          clear CT x0 x1
          have y0 := HXY_7.out.c 0 _ rfl; have y1 := HXY_7.out.c 1 _ rfl; have z0 := HXY_7.out.z 0 (show 0 < 2 by decide); have z1 := HXY_7.out.z 1 (show 1 < 2 by decide)
          have HB_7s := Lib.hid (below_set2 HB_7.out (hzY) (.slice pa7 pn7 pc7) (.slice pb7 pm7 pd7))
          have HXst_7s := Lib.hid ((HXst_7.out.other (i := 0) (Nat.ne_of_gt hlY_st) (.slice pa7 pn7 pc7)).other (i := 1) (Nat.ne_of_gt hlY_st) (.slice pb7 pm7 pd7))
          have HXY_7s := Lib.hid (HXY_7.out.set2 (.slice pa7 pn7 pc7) (.slice pb7 pm7 pd7))
          have HSU_7s := Lib.hid ((HSU_7.out.other (i := 0) HAU_Y.out (.slice pa7 pn7 pc7)).other (i := 1) HAU_Y.out (.slice pb7 pm7 pd7))
          have HXU_7s := Lib.hid ((HXU_7.out.other (i := 0) (Nat.ne_of_gt hlY_X) (.slice pa7 pn7 pc7)).other (i := 1) (Nat.ne_of_gt hlY_X) (.slice pb7 pm7 pd7))
          have HSV_7s := Lib.hid ((hs7.other (i := 0) HAV_Y.out (.slice pa7 pn7 pc7)).other (i := 1) HAV_Y.out (.slice pb7 pm7 pd7))
          clear hs7 hb7
          rcases HW2.out with ⟨hu, hv, hz⟩
          have HZ := Lib.hid hz
          clear HW2 hz
          rcases hu with hu | hu
          · subst hu
            rcases hv with hv | hv
            · subst hv
              have HZ1 := Lib.hid (HZ.out rfl rfl).1
              have HZ2 := Lib.hid (HZ.out rfl rfl).2
              clear HZ
              obtain rfl : pn6 = pn7 := by rw [← HSU_7s.out.len, ← HSV_7s.out.len, HZ2.out]
              go_wp2_with fail
              clear y0 y1 z0 z1
              generalize (v7.setCell ⟨v5.heap.size, 0, none⟩ (.slice pa7 pn6 pc7)).setCell ⟨v5.heap.size, 1, none⟩ (.slice pb7 pm7 pd7) = Ws4 at *
              have r3w0 : Below Ws4.heap.size Ws4 Ws4.drew := Below.drew (Below.refl _ _)
              have r3c0_0_0 := (HXU_7s.out.on r3w0).c 0 _ rfl
              have r3c0_0_1 := (HXU_7s.out.on r3w0).c 1 _ rfl
              have r3c0_1_0 := (HXY_7s.out.on r3w0).c 0 _ rfl
              have r3c0_1_1 := (HXY_7s.out.on r3w0).c 1 _ rfl
              go_region_held3 (fun V => V.cell? ⟨v4.heap.size, 0, none⟩ = some (.slice pa6 pn6 pc6) ∧ V.cell? ⟨v4.heap.size, 1, none⟩ = some (.slice pb6 pm6 pd6) ∧ V.cell? ⟨v5.heap.size, 0, none⟩ = some (.slice pa7 pn6 pc7) ∧ V.cell? ⟨v5.heap.size, 1, none⟩ = some (.slice pb7 pm7 pd7) ∧ Below Ws4.heap.size Ws4 V)
                (first | with_reducible exact ⟨by assumption, by assumption, by assumption, by assumption, by assumption⟩)
                ((first
                  | (go_at_call 44; have rq := Texts_V pa6 pb6 pn6 pc6 pm6 pd6 _ prs6 U va _ (HSU_7s.out.keep r3w0) HRU.out; (with_reducible refine rq.mono ?_); clear rq; rintro e r3u1 ⟨r3ta1, r3tn1, r3tc1, rfl, r3o1, r3n1, r3h1⟩; have r3O1_1 := Lib.hid r3o1; clear r3o1; have r3w1 := r3w0.trans (r3h1.mono r3w0.size); clear r3h1; have r3c1_0_0 := (HXU_7s.out.on r3w1).c 0 _ rfl; have r3c1_0_1 := (HXU_7s.out.on r3w1).c 1 _ rfl; have r3c1_1_0 := (HXY_7s.out.on r3w1).c 0 _ rfl; have r3c1_1_1 := (HXY_7s.out.on r3w1).c 1 _ rfl)
                  | (go_at_call 44; have rq := Texts_V pa7 pb7 pn6 pc7 pm7 pd7 _ prs7 V va _ (HSV_7s.out.keep r3w1) HRV.out; (with_reducible refine rq.mono ?_); clear rq; rintro e r3u2 ⟨r3ta2, r3tn2, r3tc2, rfl, r3o2, r3n2, r3h2⟩; have r3O1_2 := Lib.hid (own_keep r3O1_1.out r3h2); have r3O2_2 := Lib.hid r3o2; clear r3o2; have r3w2 := r3w1.trans (r3h2.mono r3w1.size); clear r3h2; have r3c2_0_0 := (HXU_7s.out.on r3w2).c 0 _ rfl; have r3c2_0_1 := (HXU_7s.out.on r3w2).c 1 _ rfl; have r3c2_1_0 := (HXY_7s.out.on r3w2).c 0 _ rfl; have r3c2_1_1 := (HXY_7s.out.on r3w2).c 1 _ rfl)
                  | (go_at_call 43; have rq := Equal_ST r3ta1 r3ta2 r3tn1 r3tc1 r3tn2 r3tc2 _ _ _ _ _ r3O1_2.out r3O2_2.out (by omega) (by omega) (HZ1.out _); (with_reducible refine rq.mono ?_); clear rq; rintro e r3u3 ⟨rfl, r3h3⟩; have r3O1_3 := Lib.hid (own_keep r3O1_2.out r3h3); have r3O2_3 := Lib.hid (own_keep r3O2_2.out r3h3); have r3w3 := r3w2.trans (r3h3.mono r3w2.size); clear r3h3; have r3c3_0_0 := (HXU_7s.out.on r3w3).c 0 _ rfl; have r3c3_0_1 := (HXU_7s.out.on r3w3).c 1 _ rfl; have r3c3_1_0 := (HXY_7s.out.on r3w3).c 0 _ rfl; have r3c3_1_1 := (HXY_7s.out.on r3w3).c 1 _ rfl)
                  | (go_at_call 44; have rq := Texts_V pa6 pb6 pn6 pc6 pm6 pd6 _ prs6 U va _ (HSU_7s.out.keep r3w3) HRU.out; (with_reducible refine rq.mono ?_); clear rq; rintro e r3u4 ⟨r3ta4, r3tn4, r3tc4, rfl, r3o4, r3n4, r3h4⟩; have r3O1_4 := Lib.hid (own_keep r3O1_3.out r3h4); have r3O2_4 := Lib.hid (own_keep r3O2_3.out r3h4); have r3O4_4 := Lib.hid r3o4; clear r3o4; have r3w4 := r3w3.trans (r3h4.mono r3w3.size); clear r3h4; have r3c4_0_0 := (HXU_7s.out.on r3w4).c 0 _ rfl; have r3c4_0_1 := (HXU_7s.out.on r3w4).c 1 _ rfl; have r3c4_1_0 := (HXY_7s.out.on r3w4).c 0 _ rfl; have r3c4_1_1 := (HXY_7s.out.on r3w4).c 1 _ rfl)
                  | (go_at_call 44; have rq := Texts_V pa7 pb7 pn6 pc7 pm7 pd7 _ prs7 V va _ (HSV_7s.out.keep r3w4) HRV.out; (with_reducible refine rq.mono ?_); clear rq; rintro e r3u5 ⟨r3ta5, r3tn5, r3tc5, rfl, r3o5, r3n5, r3h5⟩; have r3O1_5 := Lib.hid (own_keep r3O1_4.out r3h5); have r3O2_5 := Lib.hid (own_keep r3O2_4.out r3h5); have r3O4_5 := Lib.hid (own_keep r3O4_4.out r3h5); have r3O5_5 := Lib.hid r3o5; clear r3o5; have r3w5 := r3w4.trans (r3h5.mono r3w4.size); clear r3h5; have r3c5_0_0 := (HXU_7s.out.on r3w5).c 0 _ rfl; have r3c5_0_1 := (HXU_7s.out.on r3w5).c 1 _ rfl; have r3c5_1_0 := (HXY_7s.out.on r3w5).c 0 _ rfl; have r3c5_1_1 := (HXY_7s.out.on r3w5).c 1 _ rfl)
                  | (go_at_call 43; have rq := Equal_ST r3ta4 r3ta5 r3tn4 r3tc4 r3tn5 r3tc5 _ _ _ _ _ r3O4_5.out r3O5_5.out (by omega) (by omega) (HZ1.out _); (with_reducible refine rq.mono ?_); clear rq; rintro e r3u6 ⟨rfl, r3h6⟩; have r3O1_6 := Lib.hid (own_keep r3O1_5.out r3h6); have r3O2_6 := Lib.hid (own_keep r3O2_5.out r3h6); have r3O4_6 := Lib.hid (own_keep r3O4_5.out r3h6); have r3O5_6 := Lib.hid (own_keep r3O5_5.out r3h6); have r3w6 := r3w5.trans (r3h6.mono r3w5.size); clear r3h6; have r3c6_0_0 := (HXU_7s.out.on r3w6).c 0 _ rfl; have r3c6_0_1 := (HXU_7s.out.on r3w6).c 1 _ rfl; have r3c6_1_0 := (HXY_7s.out.on r3w6).c 0 _ rfl; have r3c6_1_1 := (HXY_7s.out.on r3w6).c 1 _ rfl)))
              have hb8 := r3w6.mono (Nat.le_refl _)
              have HB_8 := Lib.hid (HB_7s.out.trans (hb8.mono HB_7s.out.size))
              have HXst_8 := Lib.hid (HXst_7s.out.on hb8)
              have HSU_8 := Lib.hid (HSU_7s.out.keep hb8)
              have HXU_8 := Lib.hid (HXU_7s.out.on hb8)
              have HSV_8 := Lib.hid (HSV_7s.out.keep hb8)
              have HXV_8 := Lib.hid (HXY_7s.out.on hb8)
              clear hb8 r3w0 r3w1 r3w2 r3w3 r3w4 r3w5 r3w6
              go_wp2_with fail
              go_ret
              exact ⟨rfl, HB_8.out⟩
            · subst hv
              go_wp2_with fail
              go_ret
              exact ⟨rfl, HB_7s.out⟩
          · subst hu
            rcases hv with hv | hv
            · subst hv
              go_wp2_with fail
              go_ret
              exact ⟨rfl, HB_7s.out⟩
            · subst hv
              go_wp2_with fail
              go_ret
              exact ⟨rfl, HB_7s.out⟩
        · have hn2 := bytes_ne hn1
          clear hn
          have x0 := HXX_5.out.c 0 _ rfl; have x1 := HXX_5.out.c 1 _ rfl
          go_wp2_with fail
          have CT := Write_V pa4 pb4 pn4 pc4 pm4 pd4 _ prs4 X vb a6 a4 _ HSX_5.out HRX.out w6
          rw [hRU.out] at CT
          with_reducible refine CT.mono ?_
          rintro e v6 ⟨pa6, pn6, pc6, pb6, pm6, pd6, prs6, rfl, hs6, hb6⟩
          dsimp only at hs6
          have HAU_Y := Lib.hid (hs6.off HXY_5.out.lt)
          have HAU_X := Lib.hid (hs6.off HXX_5.out.lt)
          have HB_6 := Lib.hid (HB_5.out.trans (hb6.mono HB_5.out.size))
          have HXst_6 := Lib.hid (HXst_5.out.on hb6)
          have HXX_6 := Lib.hid (HXX_5.out.on hb6)
          have HXY_6 := Lib.hid (HXY_5.out.on hb6)
          have HSY_6 := Lib.hid (HSY_5.out.keep hb6)
          clear CT x0 x1
          have y0 := HXX_6.out.c 0 _ rfl; have y1 := HXX_6.out.c 1 _ rfl; have z0 := HXX_6.out.z 0 (show 0 < 2 by decide); have z1 := HXX_6.out.z 1 (show 1 < 2 by decide)
          have HB_6s := Lib.hid (below_set2 HB_6.out (hzX) (.slice pa6 pn6 pc6) (.slice pb6 pm6 pd6))
          have HXst_6s := Lib.hid ((HXst_6.out.other (i := 0) (Nat.ne_of_gt hlX_st) (.slice pa6 pn6 pc6)).other (i := 1) (Nat.ne_of_gt hlX_st) (.slice pb6 pm6 pd6))
          have HXX_6s := Lib.hid (HXX_6.out.set2 (.slice pa6 pn6 pc6) (.slice pb6 pm6 pd6))
          have HXY_6s := Lib.hid ((HXY_6.out.other (i := 0) (Nat.ne_of_lt hlY_X) (.slice pa6 pn6 pc6)).other (i := 1) (Nat.ne_of_lt hlY_X) (.slice pb6 pm6 pd6))
          have HSY_6s := Lib.hid ((HSY_6.out.other (i := 0) HAY_X.out (.slice pa6 pn6 pc6)).other (i := 1) HAY_X.out (.slice pb6 pm6 pd6))
          have HSU_6s := Lib.hid ((hs6.other (i := 0) HAU_X.out (.slice pa6 pn6 pc6)).other (i := 1) HAU_X.out (.slice pb6 pm6 pd6))
          clear hs6 hb6
          have x0 := HXY_6s.out.c 0 _ rfl; have x1 := HXY_6s.out.c 1 _ rfl
          go_wp2_with fail
          clear y0 y1 z0 z1
          generalize (v6.setCell ⟨v4.heap.size, 0, none⟩ (.slice pa6 pn6 pc6)).setCell ⟨v4.heap.size, 1, none⟩ (.slice pb6 pm6 pd6) = Ws2 at *
          have CT := Write_V pa5 pb5 pn5 pc5 pm5 pd5 _ prs5 Y va a5 a3 _ HSY_6s.out HRY.out w5
          rw [hRV.out] at CT
          with_reducible refine CT.mono ?_
          rintro e v7 ⟨pa7, pn7, pc7, pb7, pm7, pd7, prs7, rfl, hs7, hb7⟩
          dsimp only at hs7
          have HAV_U := Lib.hid (hs7.off HXX_6s.out.lt)
          have HAV_Y := Lib.hid (hs7.off HXY_6s.out.lt)
          have HB_7 := Lib.hid (HB_6s.out.trans (hb7.mono HB_6s.out.size))
          have HXst_7 := Lib.hid (HXst_6s.out.on hb7)
          have HXY_7 := Lib.hid (HXY_6s.out.on hb7)
          have HSU_7 := Lib.hid (HSU_6s.out.keep hb7)
          have HXU_7 := Lib.hid (HXX_6s.out.on hb7)
          clear CT x0 x1
          have y0 := HXY_7.out.c 0 _ rfl; have y1 := HXY_7.out.c 1 _ rfl; have z0 := HXY_7.out.z 0 (show 0 < 2 by decide); have z1 := HXY_7.out.z 1 (show 1 < 2 by decide)
          have HB_7s := Lib.hid (below_set2 HB_7.out (hzY) (.slice pa7 pn7 pc7) (.slice pb7 pm7 pd7))
          have HXst_7s := Lib.hid ((HXst_7.out.other (i := 0) (Nat.ne_of_gt hlY_st) (.slice pa7 pn7 pc7)).other (i := 1) (Nat.ne_of_gt hlY_st) (.slice pb7 pm7 pd7))
          have HXY_7s := Lib.hid (HXY_7.out.set2 (.slice pa7 pn7 pc7) (.slice pb7 pm7 pd7))
          have HSU_7s := Lib.hid ((HSU_7.out.other (i := 0) HAU_Y.out (.slice pa7 pn7 pc7)).other (i := 1) HAU_Y.out (.slice pb7 pm7 pd7))
          have HXU_7s := Lib.hid ((HXU_7.out.other (i := 0) (Nat.ne_of_gt hlY_X) (.slice pa7 pn7 pc7)).other (i := 1) (Nat.ne_of_gt hlY_X) (.slice pb7 pm7 pd7))
          have HSV_7s := Lib.hid ((hs7.other (i := 0) HAV_Y.out (.slice pa7 pn7 pc7)).other (i := 1) HAV_Y.out (.slice pb7 pm7 pd7))
          clear hs7 hb7
          rcases HW2.out with ⟨hu, hv, hz⟩
          have HZ := Lib.hid hz
          clear HW2 hz
          rcases hu with hu | hu
          · subst hu
            rcases hv with hv | hv
            · subst hv
              have HZ1 := Lib.hid (HZ.out rfl rfl).1
              have HZ2 := Lib.hid (HZ.out rfl rfl).2
              clear HZ
              obtain rfl : pn6 = pn7 := by rw [← HSU_7s.out.len, ← HSV_7s.out.len, HZ2.out]
              go_wp2_with fail
              clear y0 y1 z0 z1
              generalize (v7.setCell ⟨v5.heap.size, 0, none⟩ (.slice pa7 pn6 pc7)).setCell ⟨v5.heap.size, 1, none⟩ (.slice pb7 pm7 pd7) = Ws4 at *
              have r3w0 : Below Ws4.heap.size Ws4 Ws4.drew := Below.drew (Below.refl _ _)
              have r3c0_0_0 := (HXU_7s.out.on r3w0).c 0 _ rfl
              have r3c0_0_1 := (HXU_7s.out.on r3w0).c 1 _ rfl
              have r3c0_1_0 := (HXY_7s.out.on r3w0).c 0 _ rfl
              have r3c0_1_1 := (HXY_7s.out.on r3w0).c 1 _ rfl
              go_region_held3 (fun V => V.cell? ⟨v4.heap.size, 0, none⟩ = some (.slice pa6 pn6 pc6) ∧ V.cell? ⟨v4.heap.size, 1, none⟩ = some (.slice pb6 pm6 pd6) ∧ V.cell? ⟨v5.heap.size, 0, none⟩ = some (.slice pa7 pn6 pc7) ∧ V.cell? ⟨v5.heap.size, 1, none⟩ = some (.slice pb7 pm7 pd7) ∧ Below Ws4.heap.size Ws4 V)
                (first | with_reducible exact ⟨by assumption, by assumption, by assumption, by assumption, by assumption⟩)
                ((first
                  | (go_at_call 44; have rq := Texts_V pa6 pb6 pn6 pc6 pm6 pd6 _ prs6 U va _ (HSU_7s.out.keep r3w0) HRU.out; (with_reducible refine rq.mono ?_); clear rq; rintro e r3u1 ⟨r3ta1, r3tn1, r3tc1, rfl, r3o1, r3n1, r3h1⟩; have r3O1_1 := Lib.hid r3o1; clear r3o1; have r3w1 := r3w0.trans (r3h1.mono r3w0.size); clear r3h1; have r3c1_0_0 := (HXU_7s.out.on r3w1).c 0 _ rfl; have r3c1_0_1 := (HXU_7s.out.on r3w1).c 1 _ rfl; have r3c1_1_0 := (HXY_7s.out.on r3w1).c 0 _ rfl; have r3c1_1_1 := (HXY_7s.out.on r3w1).c 1 _ rfl)
                  | (go_at_call 44; have rq := Texts_V pa7 pb7 pn6 pc7 pm7 pd7 _ prs7 V va _ (HSV_7s.out.keep r3w1) HRV.out; (with_reducible refine rq.mono ?_); clear rq; rintro e r3u2 ⟨r3ta2, r3tn2, r3tc2, rfl, r3o2, r3n2, r3h2⟩; have r3O1_2 := Lib.hid (own_keep r3O1_1.out r3h2); have r3O2_2 := Lib.hid r3o2; clear r3o2; have r3w2 := r3w1.trans (r3h2.mono r3w1.size); clear r3h2; have r3c2_0_0 := (HXU_7s.out.on r3w2).c 0 _ rfl; have r3c2_0_1 := (HXU_7s.out.on r3w2).c 1 _ rfl; have r3c2_1_0 := (HXY_7s.out.on r3w2).c 0 _ rfl; have r3c2_1_1 := (HXY_7s.out.on r3w2).c 1 _ rfl)
                  | (go_at_call 43; have rq := Equal_ST r3ta1 r3ta2 r3tn1 r3tc1 r3tn2 r3tc2 _ _ _ _ _ r3O1_2.out r3O2_2.out (by omega) (by omega) (HZ1.out _); (with_reducible refine rq.mono ?_); clear rq; rintro e r3u3 ⟨rfl, r3h3⟩; have r3O1_3 := Lib.hid (own_keep r3O1_2.out r3h3); have r3O2_3 := Lib.hid (own_keep r3O2_2.out r3h3); have r3w3 := r3w2.trans (r3h3.mono r3w2.size); clear r3h3; have r3c3_0_0 := (HXU_7s.out.on r3w3).c 0 _ rfl; have r3c3_0_1 := (HXU_7s.out.on r3w3).c 1 _ rfl; have r3c3_1_0 := (HXY_7s.out.on r3w3).c 0 _ rfl; have r3c3_1_1 := (HXY_7s.out.on r3w3).c 1 _ rfl)
                  | (go_at_call 44; have rq := Texts_V pa6 pb6 pn6 pc6 pm6 pd6 _ prs6 U vb _ (HSU_7s.out.keep r3w3) HRU.out; (with_reducible refine rq.mono ?_); clear rq; rintro e r3u4 ⟨r3ta4, r3tn4, r3tc4, rfl, r3o4, r3n4, r3h4⟩; have r3O1_4 := Lib.hid (own_keep r3O1_3.out r3h4); have r3O2_4 := Lib.hid (own_keep r3O2_3.out r3h4); have r3O4_4 := Lib.hid r3o4; clear r3o4; have r3w4 := r3w3.trans (r3h4.mono r3w3.size); clear r3h4; have r3c4_0_0 := (HXU_7s.out.on r3w4).c 0 _ rfl; have r3c4_0_1 := (HXU_7s.out.on r3w4).c 1 _ rfl; have r3c4_1_0 := (HXY_7s.out.on r3w4).c 0 _ rfl; have r3c4_1_1 := (HXY_7s.out.on r3w4).c 1 _ rfl)
                  | (go_at_call 44; have rq := Texts_V pa7 pb7 pn6 pc7 pm7 pd7 _ prs7 V vb _ (HSV_7s.out.keep r3w4) HRV.out; (with_reducible refine rq.mono ?_); clear rq; rintro e r3u5 ⟨r3ta5, r3tn5, r3tc5, rfl, r3o5, r3n5, r3h5⟩; have r3O1_5 := Lib.hid (own_keep r3O1_4.out r3h5); have r3O2_5 := Lib.hid (own_keep r3O2_4.out r3h5); have r3O4_5 := Lib.hid (own_keep r3O4_4.out r3h5); have r3O5_5 := Lib.hid r3o5; clear r3o5; have r3w5 := r3w4.trans (r3h5.mono r3w4.size); clear r3h5; have r3c5_0_0 := (HXU_7s.out.on r3w5).c 0 _ rfl; have r3c5_0_1 := (HXU_7s.out.on r3w5).c 1 _ rfl; have r3c5_1_0 := (HXY_7s.out.on r3w5).c 0 _ rfl; have r3c5_1_1 := (HXY_7s.out.on r3w5).c 1 _ rfl)
                  | (go_at_call 43; have rq := Equal_ST r3ta4 r3ta5 r3tn4 r3tc4 r3tn5 r3tc5 _ _ _ _ _ r3O4_5.out r3O5_5.out (by omega) (by omega) (HZ1.out _); (with_reducible refine rq.mono ?_); clear rq; rintro e r3u6 ⟨rfl, r3h6⟩; have r3O1_6 := Lib.hid (own_keep r3O1_5.out r3h6); have r3O2_6 := Lib.hid (own_keep r3O2_5.out r3h6); have r3O4_6 := Lib.hid (own_keep r3O4_5.out r3h6); have r3O5_6 := Lib.hid (own_keep r3O5_5.out r3h6); have r3w6 := r3w5.trans (r3h6.mono r3w5.size); clear r3h6; have r3c6_0_0 := (HXU_7s.out.on r3w6).c 0 _ rfl; have r3c6_0_1 := (HXU_7s.out.on r3w6).c 1 _ rfl; have r3c6_1_0 := (HXY_7s.out.on r3w6).c 0 _ rfl; have r3c6_1_1 := (HXY_7s.out.on r3w6).c 1 _ rfl)))
              have hb8 := r3w6.mono (Nat.le_refl _)
              have HB_8 := Lib.hid (HB_7s.out.trans (hb8.mono HB_7s.out.size))
              have HXst_8 := Lib.hid (HXst_7s.out.on hb8)
              have HSU_8 := Lib.hid (HSU_7s.out.keep hb8)
              have HXU_8 := Lib.hid (HXU_7s.out.on hb8)
              have HSV_8 := Lib.hid (HSV_7s.out.keep hb8)
              have HXV_8 := Lib.hid (HXY_7s.out.on hb8)
              clear hb8 r3w0 r3w1 r3w2 r3w3 r3w4 r3w5 r3w6
              go_wp2_with fail
              go_ret
              exact ⟨rfl, HB_8.out⟩
            · subst hv
              go_wp2_with fail
              go_ret
              exact ⟨rfl, HB_7s.out⟩
          · subst hu
            rcases hv with hv | hv
            · subst hv
              go_wp2_with fail
              go_ret
              exact ⟨rfl, HB_7s.out⟩
            · subst hv
              go_wp2_with fail
              go_ret
              exact ⟨rfl, HB_7s.out⟩
    · have hb1 : ((EY : Int) != 0) = true := bne_iff_ne.2 (by omega)
      go_wp2_with fail
      go_ret
      exact ⟨rfl, HB_5.out⟩
  · have hb1 : ((EX : Int) != 0) = true := bne_iff_ne.2 (by omega)
    go_wp2_with fail
    go_ret
    exact ⟨rfl, HB_5.out⟩

end Go.Proofs.Yteddendidjhmbaa
