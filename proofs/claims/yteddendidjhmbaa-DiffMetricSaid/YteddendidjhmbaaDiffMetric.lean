/- DiffMetric: differences are none for one volume, alike both ways, and never less than a way round; for every input. -/
import Derived.Test.YteddendidjhmbaaDiffP
import Derived.Deep.RegionHeld3
namespace Go.Proofs.Yteddendidjhmbaa
open Go.RowKit

theorem iv_at {w : World} {base n c k : Nat} {a : Option Addr} {xs : List Nat} (h : w.ownsRow base 3 1 (.slice a n c) n (iv xs)) (hk : k < xs.length) : ∃ g, a = some ⟨g, 0, none⟩ ∧ g < w.heap.size ∧ w.cell? ⟨g, k, none⟩ = some (.int .i64 (xs[k] : Int)) := by
  have hl : xs.length = n := (int_cells h).1
  obtain ⟨g, cap, hv, -, hg⟩ := h.form (show 0 < n by omega)
  cases hv
  refine ⟨g, rfl, hg, ?_⟩
  have hc := h.cellAt k (by omega)
  unfold iv at hc
  rw [hc, List.getElem?_map, List.getElem?_eq_getElem hk]
  rfl

theorem one_op (w : World) : OArg (w.alloc (.cells #[.int .i64 1, .string tA, .string ⟨#[]⟩, .int .i64 2, .string ⟨#[]⟩] 83)) (some ⟨w.heap.size, 0, none⟩) 1 1 [opA] := by
  refine ⟨⟨fun _ => ⟨_, rfl, fun j t hj => ?_⟩, rfl, Nat.le_refl _, by decide, fun h => (by cases h)⟩, fun t ht => ?_⟩
  · obtain rfl : j = 0 := by
      rcases Nat.lt_or_ge j 1 with h | h
      · omega
      · rw [List.getElem?_eq_none_iff.2 (by simpa using h)] at hj; cases hj
    cases hj
    exact ⟨cell_new w (k := 0) rfl, cell_new w (k := 1) rfl, cell_new w (k := 2) rfl, cell_new w (k := 3) rfl, cell_new w (k := 4) rfl⟩
  · rw [List.mem_singleton] at ht
    subst ht
    exact ⟨by decide, by decide, by decide⟩

set_option maxRecDepth 100000 in
set_option maxHeartbeats 16000000 in
theorem diffMetric_walk (a0 : Option Addr) (len0 cap0 : Nat) (t0 : List Lg.Op) (a1 : Int) (a2 : Int) (a3 : Int) (w : World) (w0 : OArg w a0 len0 cap0 t0) (_w1 : (Lit.int .i64 a1).wf = true) (_w2 : (Lit.int .i64 a2).wf = true) (_w3 : (Lit.int .i64 a3).wf = true) :
    Calls Try.prog 17 #[.slice a0 len0 cap0, .int .i64 a1, .int .i64 a2, .int .i64 a3] w fun e w' => e = .returned (.bool true) ∧ Below w.heap.size w w' := by
  have B1 := begun_V w
  have M1 : ∀ W, Below w.heap.size w W → Calls Try.prog 33 #[.slice a0 len0 cap0] W (StMade W (Vo.made t0)) := fun W hb => made_V a0 len0 cap0 t0 W ⟨w0.1.keep hb, w0.2⟩
  have HR : Hid (Vo.Right (Vo.made t0)) := Lib.hid (Vo.made_right t0)
  obtain ⟨S, hS⟩ : ∃ S, Vo.made t0 = S := ⟨_, rfl⟩
  rw [hS] at M1 HR
  obtain ⟨va, hva⟩ : ∃ v, Vo.pick S a1 = v := ⟨_, rfl⟩
  obtain ⟨vb, hvb⟩ : ∃ v, Vo.pick S a2 = v := ⟨_, rfl⟩
  obtain ⟨vc, hvc⟩ : ∃ v, Vo.pick S a3 = v := ⟨_, rfl⟩
  have HS0 := Lib.hid (fun h => Vo.diff_self (s := S) (a := va) h)
  have HT0 := Lib.hid (fun h1 h2 h3 i hi => Vo.diff_tri (s := S) (a := va) (b := vb) (c := vc) h1 h2 h3 (i := i) hi)
  have HY := Lib.hid (Vo.diff_symm S va vb)
  have l0 := Vo.diff_len HR.out va va
  have l1 := Vo.diff_len HR.out va vb
  have l3 := Vo.diff_len HR.out vb vc
  have l4 := Vo.diff_len HR.out va vc
  obtain ⟨R0, hR0⟩ : ∃ R, Vo.diffR S va va = R := ⟨_, rfl⟩
  obtain ⟨R1, hR1⟩ : ∃ R, Vo.diffR S va vb = R := ⟨_, rfl⟩
  obtain ⟨R3, hR3⟩ : ∃ R, Vo.diffR S vb vc = R := ⟨_, rfl⟩
  obtain ⟨R4, hR4⟩ : ∃ R, Vo.diffR S va vc = R := ⟨_, rfl⟩
  rw [hR0] at HS0 l0
  rw [hR1] at HY l1
  rw [hR1, hR3, hR4] at HT0
  rw [hR3] at l3
  rw [hR4] at l4
  obtain ⟨L0, E0⟩ := R0
  obtain ⟨L1, E1⟩ := R1
  obtain ⟨L3, E3⟩ := R3
  obtain ⟨L4, E4⟩ := R4
  dsimp only at HS0 HT0 l0 l1 l3 l4
  have hR0 := Lib.hid hR0; have hR1 := Lib.hid hR1; have hR3 := Lib.hid hR3; have hR4 := Lib.hid hR4; have hva := Lib.hid hva; have hvb := Lib.hid hvb; have hvc := Lib.hid hvc
  have HM1 := Lib.hid M1
  clear w0 hS
  go_enter Try.func17, Try.ntmps17
  go_wp2_with fail
  with_reducible refine B1.mono ?_
  rintro e v1 ⟨rfl, hb1⟩
  have HB1 := Lib.hid hb1
  have hal := (Below.refl v1.heap.size v1).alloc (Nat.le_refl _) (.cells #[.int .i64 1, .string tA, .string ⟨#[]⟩, .int .i64 2, .string ⟨#[]⟩] 83)
  have HBa := Lib.hid (hb1.trans (hal.mono hb1.size))
  have M0 := made_V (some ⟨v1.heap.size, 0, none⟩) 1 1 [opA] _ (one_op v1)
  clear M1 B1 hb1 hal
  go_wp2_with fail
  with_reducible refine M0.mono ?_
  rintro e v2 ⟨a, n, c, b, m, d, rs, rfl, hs2, hb2⟩
  have HB2 := Lib.hid (HBa.out.trans (hb2.mono HBa.out.size))
  have CT := Clone_V a b n c m d _ rs (Vo.made [opA]) tA tB v2 hs2 (Vo.made_right _) (by decide)
  have HC0 : Hid (Vo.Right (Vo.cloneR (Vo.made [opA]) tA tB).s) := Lib.hid (Vo.clone_right (Vo.made_right _) tA tB)
  have HD0 : Hid (Vo.diffR (Vo.cloneR (Vo.made [opA]) tA tB).s tA tB = ([], 0)) := Lib.hid dm_diff
  have hce : (Vo.cloneR (Vo.made [opA]) tA tB).e = 0 := by rw [dm_clone]
  obtain ⟨RC, hRC⟩ : ∃ R, Vo.cloneR (Vo.made [opA]) tA tB = R := ⟨_, rfl⟩
  rw [hRC] at CT HC0 HD0 hce
  obtain ⟨C, EC⟩ := RC
  dsimp only at HC0 HD0 hce
  subst hce
  clear hs2 hb2 M0 hRC
  go_wp2_with fail
  with_reducible refine CT.mono ?_
  rintro e v3 ⟨pa3, pn3, pc3, pb3, pm3, pd3, prs3, rfl, hs3, hb3⟩
  dsimp only at hs3
  have hzC : w.heap.size ≤ v3.heap.size := (HB2.out.trans (hb3.mono HB2.out.size)).size
  have hc3 := hb3.alloc hb3.size (.cells #[.slice pa3 pn3 pc3, .slice pb3 pm3 pd3] 52)
  have HB_3 := Lib.hid (HB2.out.trans (hc3.mono HB2.out.size))
  have HXC_3 := Lib.hid (bxs_new v3 52 #[.slice pa3 pn3 pc3, .slice pb3 pm3 pd3] [.slice pa3 pn3 pc3, .slice pb3 pm3 pd3] rfl)
  have HSC_3 := Lib.hid (hs3.keep ((Below.refl _ v3).alloc (Nat.le_refl _) (.cells #[.slice pa3 pn3 pc3, .slice pb3 pm3 pd3] 52)))
  clear hs3 hb3 hc3 CT 
  have x0 := HXC_3.out.c 0 _ rfl; have x1 := HXC_3.out.c 1 _ rfl
  go_wp2_with fail
  have CT := Diff_V pa3 pb3 pn3 pc3 pm3 pd3 _ prs3 C tA tB _ HSC_3.out HC0.out
  rw [HD0.out] at CT
  with_reducible refine CT.mono ?_
  rintro e v4 ⟨da4, dn4, dc4, rfl, ho4, hl4, hb4⟩
  dsimp only at ho4 hl4
  have HB_4 := Lib.hid (HB_3.out.trans (hb4.mono HB_3.out.size))
  have HXC_4 := Lib.hid (HXC_3.out.on hb4)
  have HSC_4 := Lib.hid (HSC_3.out.keep hb4)
  have HOn_4 := Lib.hid (ho4)
  clear ho4 hb4 CT x0 x1
  obtain rfl : 0 = dn4 := hl4
  go_wp2_with fail
  have CT := HM1.out _ HB_4.out
  with_reducible refine CT.mono ?_
  rintro e v5 ⟨pa5, pn5, pc5, pb5, pm5, pd5, prs5, rfl, hs5, hb5⟩
  have HAst_C := Lib.hid (hs5.off HXC_4.out.lt)
  have HB_5 := Lib.hid (HB_4.out.trans (hb5.mono HB_4.out.size))
  have HXC_5 := Lib.hid (HXC_4.out.on hb5)
  clear CT
  have y0 := HXC_5.out.c 0 _ rfl; have y1 := HXC_5.out.c 1 _ rfl; have z0 := HXC_5.out.z 0 (show 0 < 2 by decide); have z1 := HXC_5.out.z 1 (show 1 < 2 by decide)
  have HB_5s := Lib.hid (below_set2 HB_5.out (hzC) (.slice pa5 pn5 pc5) (.slice pb5 pm5 pd5))
  have HXC_5s := Lib.hid (HXC_5.out.set2 (.slice pa5 pn5 pc5) (.slice pb5 pm5 pd5))
  have HSst_5s := Lib.hid ((hs5.other (i := 0) HAst_C.out (.slice pa5 pn5 pc5)).other (i := 1) HAst_C.out (.slice pb5 pm5 pd5))
  clear hs5 hb5
  have hm : pm5 ≤ 64 := by have := HR.out.len; rw [HSst_5s.out.vlen] at this; omega
  go_wp2_with fail
  clear y0 y1 z0 z1
  generalize (v5.setCell ⟨v3.heap.size, 0, none⟩ (.slice pa5 pn5 pc5)).setCell ⟨v3.heap.size, 1, none⟩ (.slice pb5 pm5 pd5) = Ws2 at *
  have r1w0 : Below Ws2.heap.size Ws2 Ws2.drew := Below.drew (Below.refl _ _)
  have r1c0_0_0 := (HXC_5s.out.on r1w0).c 0 _ rfl
  have r1c0_0_1 := (HXC_5s.out.on r1w0).c 1 _ rfl
  go_region_held3 (fun V => V.cell? ⟨v3.heap.size, 0, none⟩ = some (.slice pa5 pn5 pc5) ∧ V.cell? ⟨v3.heap.size, 1, none⟩ = some (.slice pb5 pm5 pd5) ∧ Below Ws2.heap.size Ws2 V)
    (first | with_reducible exact ⟨by assumption, by assumption, by assumption⟩)
    ((first
      | (go_at_call 35; have rq := pick_V pa5 pb5 pn5 pc5 pm5 pd5 _ prs5 S a1 _ (HSst_5s.out.keep r1w0) hm; rw [hva.out] at rq; (with_reducible refine rq.mono ?_); clear rq; rintro e r1u1 ⟨rfl, r1h1⟩; have r1w1 := r1w0.trans (r1h1.mono r1w0.size); clear r1h1; have r1c1_0_0 := (HXC_5s.out.on r1w1).c 0 _ rfl; have r1c1_0_1 := (HXC_5s.out.on r1w1).c 1 _ rfl)
      | (go_at_call 35; have rq := pick_V pa5 pb5 pn5 pc5 pm5 pd5 _ prs5 S a2 _ (HSst_5s.out.keep r1w1) hm; rw [hvb.out] at rq; (with_reducible refine rq.mono ?_); clear rq; rintro e r1u2 ⟨rfl, r1h2⟩; have r1w2 := r1w1.trans (r1h2.mono r1w1.size); clear r1h2; have r1c2_0_0 := (HXC_5s.out.on r1w2).c 0 _ rfl; have r1c2_0_1 := (HXC_5s.out.on r1w2).c 1 _ rfl)
      | (go_at_call 35; have rq := pick_V pa5 pb5 pn5 pc5 pm5 pd5 _ prs5 S a3 _ (HSst_5s.out.keep r1w2) hm; rw [hvc.out] at rq; (with_reducible refine rq.mono ?_); clear rq; rintro e r1u3 ⟨rfl, r1h3⟩; have r1w3 := r1w2.trans (r1h3.mono r1w2.size); clear r1h3; have r1c3_0_0 := (HXC_5s.out.on r1w3).c 0 _ rfl; have r1c3_0_1 := (HXC_5s.out.on r1w3).c 1 _ rfl)))
  have hb6 := r1w3.mono (Nat.le_refl _)
  have HB_6 := Lib.hid (HB_5s.out.trans (hb6.mono HB_5s.out.size))
  have HSst_6 := Lib.hid (HSst_5s.out.keep hb6)
  have HXst_6 := Lib.hid (HXC_5s.out.on hb6)
  clear hb6 r1w0 r1w1 r1w2 r1w3
  have x0 := HXst_6.out.c 0 _ rfl; have x1 := HXst_6.out.c 1 _ rfl
  go_wp2_with fail
  have CT := Diff_V pa5 pb5 pn5 pc5 pm5 pd5 _ prs5 S va va _ HSst_6.out HR.out
  rw [hR0.out] at CT
  with_reducible refine CT.mono ?_
  rintro e v7 ⟨da7, dn7, dc7, rfl, ho7, hl7, hb7⟩
  dsimp only at ho7 hl7
  have HB_7 := Lib.hid (HB_6.out.trans (hb7.mono HB_6.out.size))
  have HSst_7 := Lib.hid (HSst_6.out.keep hb7)
  have HXst_7 := Lib.hid (HXst_6.out.on hb7)
  have HO0_7 := Lib.hid (ho7)
  clear ho7 hb7 CT x0 x1
  have x0 := HXst_7.out.c 0 _ rfl; have x1 := HXst_7.out.c 1 _ rfl
  go_wp2_with fail
  have CT := Diff_V pa5 pb5 pn5 pc5 pm5 pd5 _ prs5 S va vb _ HSst_7.out HR.out
  rw [hR1.out] at CT
  with_reducible refine CT.mono ?_
  rintro e v8 ⟨da8, dn8, dc8, rfl, ho8, hl8, hb8⟩
  dsimp only at ho8 hl8
  have HB_8 := Lib.hid (HB_7.out.trans (hb8.mono HB_7.out.size))
  have HSst_8 := Lib.hid (HSst_7.out.keep hb8)
  have HXst_8 := Lib.hid (HXst_7.out.on hb8)
  have HO0_8 := Lib.hid (own_keep HO0_7.out hb8)
  have HO1_8 := Lib.hid (ho8)
  clear ho8 hb8 CT x0 x1
  have x0 := HXst_8.out.c 0 _ rfl; have x1 := HXst_8.out.c 1 _ rfl
  go_wp2_with fail
  have CT := Diff_V pa5 pb5 pn5 pc5 pm5 pd5 _ prs5 S vb va _ HSst_8.out HR.out
  rw [HY.out] at CT
  with_reducible refine CT.mono ?_
  rintro e v9 ⟨da9, dn9, dc9, rfl, ho9, hl9, hb9⟩
  dsimp only at ho9 hl9
  have HB_9 := Lib.hid (HB_8.out.trans (hb9.mono HB_8.out.size))
  have HSst_9 := Lib.hid (HSst_8.out.keep hb9)
  have HXst_9 := Lib.hid (HXst_8.out.on hb9)
  have HO0_9 := Lib.hid (own_keep HO0_8.out hb9)
  have HO1_9 := Lib.hid (own_keep HO1_8.out hb9)
  have HO2_9 := Lib.hid (ho9)
  clear ho9 hb9 CT x0 x1
  have x0 := HXst_9.out.c 0 _ rfl; have x1 := HXst_9.out.c 1 _ rfl
  go_wp2_with fail
  have CT := Diff_V pa5 pb5 pn5 pc5 pm5 pd5 _ prs5 S vb vc _ HSst_9.out HR.out
  rw [hR3.out] at CT
  with_reducible refine CT.mono ?_
  rintro e v10 ⟨da10, dn10, dc10, rfl, ho10, hl10, hb10⟩
  dsimp only at ho10 hl10
  have HB_10 := Lib.hid (HB_9.out.trans (hb10.mono HB_9.out.size))
  have HSst_10 := Lib.hid (HSst_9.out.keep hb10)
  have HXst_10 := Lib.hid (HXst_9.out.on hb10)
  have HO0_10 := Lib.hid (own_keep HO0_9.out hb10)
  have HO1_10 := Lib.hid (own_keep HO1_9.out hb10)
  have HO2_10 := Lib.hid (own_keep HO2_9.out hb10)
  have HO3_10 := Lib.hid (ho10)
  clear ho10 hb10 CT x0 x1
  have x0 := HXst_10.out.c 0 _ rfl; have x1 := HXst_10.out.c 1 _ rfl
  go_wp2_with fail
  have CT := Diff_V pa5 pb5 pn5 pc5 pm5 pd5 _ prs5 S va vc _ HSst_10.out HR.out
  rw [hR4.out] at CT
  with_reducible refine CT.mono ?_
  rintro e v11 ⟨da11, dn11, dc11, rfl, ho11, hl11, hb11⟩
  dsimp only at ho11 hl11
  have HB_11 := Lib.hid (HB_10.out.trans (hb11.mono HB_10.out.size))
  have HSst_11 := Lib.hid (HSst_10.out.keep hb11)
  have HXst_11 := Lib.hid (HXst_10.out.on hb11)
  have HO0_11 := Lib.hid (own_keep HO0_10.out hb11)
  have HO1_11 := Lib.hid (own_keep HO1_10.out hb11)
  have HO2_11 := Lib.hid (own_keep HO2_10.out hb11)
  have HO3_11 := Lib.hid (own_keep HO3_10.out hb11)
  have HO4_11 := Lib.hid (ho11)
  clear ho11 hb11 CT x0 x1
  by_cases q0 : E0 = 0
  rotate_left
  · have hb : ((E0 : Int) != 0) = true := bne_iff_ne.2 (by omega)
    go_wp2_with fail
    go_ret
    exact ⟨rfl, HB_11.out⟩
  subst q0
  by_cases q1 : E1 = 0
  rotate_left
  · have hb : ((E1 : Int) != 0) = true := bne_iff_ne.2 (by omega)
    go_wp2_with fail
    go_ret
    exact ⟨rfl, HB_11.out⟩
  subst q1
  by_cases q3 : E3 = 0
  rotate_left
  · have hb : ((E3 : Int) != 0) = true := bne_iff_ne.2 (by omega)
    go_wp2_with fail
    go_ret
    exact ⟨rfl, HB_11.out⟩
  subst q3
  by_cases q4 : E4 = 0
  rotate_left
  · have hb : ((E4 : Int) != 0) = true := bne_iff_ne.2 (by omega)
    go_wp2_with fail
    go_ret
    exact ⟨rfl, HB_11.out⟩
  subst q4
  have HT := Lib.hid (HT0.out rfl rfl rfl)
  have HS := Lib.hid (HS0.out rfl)
  obtain rfl : 0 = dn7 := by rw [← hl7, HS.out]; rfl
  clear HT0 HS0
  obtain ⟨wz, hwz⟩ : ∃ x, v11 = x := ⟨_, rfl⟩
  have HWZ := Lib.hid hwz
  clear hwz
  go_wp2_with fail
  go_loopw [122] (fun x wr => ∃ k : Nat, k ≤ dn11 ∧ x = .int .i64 k ∧ wr = v11) (fun x _ => dn11 - (intOf x).toNat)
  case atStart => exact ⟨0, Nat.zero_le _, rfl, rfl⟩
  case round =>
    obtain ⟨k, hk, rfl, rfl⟩ := hrel
    by_cases hlt : k < dn11
    · have hk4 : k < L4.length := by rw [hl11]; exact hlt
      have HI := Lib.hid (HT.out L4[k] (List.getElem_mem hk4))
      obtain ⟨g, rfl, hg, d0⟩ := iv_at HO4_11.out hk4
      generalize L4[k] = y at *
      have C1 := Contains_N da8 dn8 dc8 _ L1 y _ HO1_11.out (by omega)
      have C3 := Contains_N da10 dn10 dc10 _ L3 y _ HO3_11.out (by omega)
      by_cases hy : y ∈ L1
      · rw [decide_eq_true hy] at C1
        clear hy HI C3
        go_wp2_with fail
        with_reducible refine C1.mono ?_
        rintro e w6 ⟨rfl, rfl⟩
        clear C1
        go_wp2_with fail
        go_roundw
        case rel => exact ⟨k + 1, hlt, by go_num, by first | rfl | trivial⟩
        case measure => simp [intOf]; omega
      · rw [decide_eq_false hy] at C1
        rw [decide_eq_true (HI.out.resolve_left hy)] at C3
        clear hy HI
        go_wp2_with fail
        with_reducible refine C1.mono ?_
        rintro e w6 ⟨rfl, rfl⟩
        clear C1
        go_wp2_with fail
        with_reducible refine C3.mono ?_
        rintro e w6 ⟨rfl, rfl⟩
        clear C3
        go_wp2_with fail
        go_roundw
        case rel => exact ⟨k + 1, hlt, by go_num, by first | rfl | trivial⟩
        case measure => simp [intOf]; omega
    · obtain rfl : k = dn11 := by omega
      have CT := Equal_NT da8 da9 dn8 dc8 dn9 dc9 _ _ L1 L1 _ HO1_11.out HO2_11.out (by omega) rfl
      go_wp2_with fail
      with_reducible refine CT.mono ?_
      rintro e w6 ⟨rfl, hb6⟩
      have HB6 := Lib.hid (HB_11.out.trans (hb6.mono HB_11.out.size))
      clear hb6 CT
      go_wp2_with fail
      go_ret
      exact ⟨rfl, HB6.out⟩

end Go.Proofs.Yteddendidjhmbaa
