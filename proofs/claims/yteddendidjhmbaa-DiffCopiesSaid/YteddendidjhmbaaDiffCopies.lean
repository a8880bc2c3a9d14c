/- DiffCopies: the differences, copied, are no more, and no other volume is another; for every input. -/
import Derived.Test.YteddendidjhmbaaCopyP
import Derived.Deep.RegionHeld3
namespace Go.Proofs.Yteddendidjhmbaa
open Go.RowKit

theorem Vo.diff_bad {s : Vo.St} {a b : ByteArray} (h : (Vo.diffR s a b).2 ≠ 0) : (Vo.diffR s a b).1 = [] := by
  unfold Vo.diffR at h ⊢
  split
  · rfl
  · rename_i h1
    rw [if_neg h1] at h
    split
    · rfl
    · rename_i h2
      rw [if_neg h2] at h
      split
      · rfl
      · rename_i h3
        rw [if_neg h3] at h
        exact absurd rfl h

theorem txt_ne {a b : ByteArray} (h : a ≠ b) : ¬ a.toList = b.toList := fun e => h (by
  have h1 : (a.toList == b.toList) = true := by rw [e]; exact beq_self_eq_true _
  exact (Vo.called_iff (name := b) (v := ⟨a, []⟩)).1 h1)

theorem dc_none : Vo.diffR Vo.st0 tA tB = ([], 4) := by kernel_rfl

set_option maxRecDepth 100000 in
set_option maxHeartbeats 16000000 in
theorem diffCopies_walk (a0 : Option Addr) (len0 cap0 : Nat) (t0 : List Lg.Op) (a1 : Int) (a2 : Int) (a3 : Int) (w : World) (w0 : OArg w a0 len0 cap0 t0) (_w1 : (Lit.int .i64 a1).wf = true) (_w2 : (Lit.int .i64 a2).wf = true) (_w3 : (Lit.int .i64 a3).wf = true) :
    Calls Try.prog 19 #[.slice a0 len0 cap0, .int .i64 a1, .int .i64 a2, .int .i64 a3] w fun e w' => e = .returned (.bool true) ∧ Below w.heap.size w w' := by
  have B1 := begun_V w
  have M1 : ∀ W, Below w.heap.size w W → Calls Try.prog 33 #[.slice a0 len0 cap0] W (StMade W (Vo.made t0)) := fun W hb => made_V a0 len0 cap0 t0 W ⟨w0.1.keep hb, w0.2⟩
  have HR : Hid (Vo.Right (Vo.made t0)) := Lib.hid (Vo.made_right t0)
  obtain ⟨S, hS⟩ : ∃ S, Vo.made t0 = S := ⟨_, rfl⟩
  rw [hS] at M1 HR
  obtain ⟨va, hva⟩ : ∃ v, Vo.pick S a1 = v := ⟨_, rfl⟩
  obtain ⟨vb, hvb⟩ : ∃ v, Vo.pick S a2 = v := ⟨_, rfl⟩
  obtain ⟨vc, hvc⟩ : ∃ v, Vo.pick S a3 = v := ⟨_, rfl⟩
  have HCA := Lib.hid (fun h => Vo.copy_all HR.out (a := va) (b := vb) h)
  have HDB := Lib.hid (fun h => Vo.diff_bad (s := S) (a := va) (b := vb) h)
  have l1 := Vo.diff_len HR.out va vb
  obtain ⟨R1, hR1⟩ : ∃ R, Vo.diffR S va vb = R := ⟨_, rfl⟩
  rw [hR1] at HCA HDB l1
  obtain ⟨L, E⟩ := R1
  dsimp only at HCA HDB l1
  have HRX := Lib.hid (copyR_right HR.out va vb L)
  obtain ⟨RX, hRX⟩ : ∃ R, Vo.copyR S va vb L = R := ⟨_, rfl⟩
  rw [hRX] at HCA HRX
  obtain ⟨X, EX⟩ := RX
  dsimp only at HCA HRX
  have hR1 := Lib.hid hR1; have hRX := Lib.hid hRX; have hva := Lib.hid hva; have hvb := Lib.hid hvb; have hvc := Lib.hid hvc
  have HM1 := Lib.hid M1
  clear w0 hS
  go_enter Try.func19, Try.ntmps19
  go_wp2_with fail
  with_reducible refine B1.mono ?_
  rintro e v1 ⟨rfl, hb1⟩
  have HB1 := Lib.hid hb1
  have CT := Diff_V none none 0 0 0 0 0 [] Vo.st0 tA tB v1 (stW0 _ _) Vo.right0
  rw [dc_none] at CT
  clear M1 B1 hb1
  go_wp2_with fail
  with_reducible refine CT.mono ?_
  rintro e v2 ⟨da0, dn0, dc0, rfl, ho0, hl0, hb2⟩
  have HB2 := Lib.hid (HB1.out.trans (hb2.mono HB1.out.size))
  clear hb2 CT ho0 hl0
  go_wp2_with fail
  have CT := HM1.out _ HB2.out
  with_reducible refine CT.mono ?_
  rintro e v3 ⟨pa3, pn3, pc3, pb3, pm3, pd3, prs3, rfl, hs3, hb3⟩
  have hc3 := hb3.alloc hb3.size (.cells #[.slice pa3 pn3 pc3, .slice pb3 pm3 pd3] 52)
  have HB_3 := Lib.hid (HB2.out.trans (hc3.mono HB2.out.size))
  have HXst_3 := Lib.hid (bxs_new v3 52 #[.slice pa3 pn3 pc3, .slice pb3 pm3 pd3] [.slice pa3 pn3 pc3, .slice pb3 pm3 pd3] rfl)
  have HSst_3 := Lib.hid (hs3.keep ((Below.refl _ v3).alloc (Nat.le_refl _) (.cells #[.slice pa3 pn3 pc3, .slice pb3 pm3 pd3] 52)))
  clear hs3 hb3 hc3 CT 
  have hm : pm3 ≤ 64 := by have := HR.out.len; rw [HSst_3.out.vlen] at this; omega
  go_wp2_with fail
  generalize v3.alloc (.cells #[.slice pa3 pn3 pc3, .slice pb3 pm3 pd3] 52) = Wr1 at *
  have r1w0 : Below Wr1.heap.size Wr1 Wr1.drew := Below.drew (Below.refl _ _)
  have r1c0_0_0 := (HXst_3.out.on r1w0).c 0 _ rfl
  have r1c0_0_1 := (HXst_3.out.on r1w0).c 1 _ rfl
  go_region_held3 (fun V => V.cell? ⟨v3.heap.size, 0, none⟩ = some (.slice pa3 pn3 pc3) ∧ V.cell? ⟨v3.heap.size, 1, none⟩ = some (.slice pb3 pm3 pd3) ∧ Below Wr1.heap.size Wr1 V)
    (first | with_reducible exact ⟨by assumption, by assumption, by assumption⟩)
    ((first
      | (go_at_call 35; have rq := pick_V pa3 pb3 pn3 pc3 pm3 pd3 _ prs3 S a1 _ (HSst_3.out.keep r1w0) hm; rw [hva.out] at rq; (with_reducible refine rq.mono ?_); clear rq; rintro e r1u1 ⟨rfl, r1h1⟩; have r1w1 := r1w0.trans (r1h1.mono r1w0.size); clear r1h1; have r1c1_0_0 := (HXst_3.out.on r1w1).c 0 _ rfl; have r1c1_0_1 := (HXst_3.out.on r1w1).c 1 _ rfl)
      | (go_at_call 35; have rq := pick_V pa3 pb3 pn3 pc3 pm3 pd3 _ prs3 S a2 _ (HSst_3.out.keep r1w1) hm; rw [hvb.out] at rq; (with_reducible refine rq.mono ?_); clear rq; rintro e r1u2 ⟨rfl, r1h2⟩; have r1w2 := r1w1.trans (r1h2.mono r1w1.size); clear r1h2; have r1c2_0_0 := (HXst_3.out.on r1w2).c 0 _ rfl; have r1c2_0_1 := (HXst_3.out.on r1w2).c 1 _ rfl)
      | (go_at_call 35; have rq := pick_V pa3 pb3 pn3 pc3 pm3 pd3 _ prs3 S a3 _ (HSst_3.out.keep r1w2) hm; rw [hvc.out] at rq; (with_reducible refine rq.mono ?_); clear rq; rintro e r1u3 ⟨rfl, r1h3⟩; have r1w3 := r1w2.trans (r1h3.mono r1w2.size); clear r1h3; have r1c3_0_0 := (HXst_3.out.on r1w3).c 0 _ rfl; have r1c3_0_1 := (HXst_3.out.on r1w3).c 1 _ rfl)))
  have hb4 := r1w3.mono (Nat.le_refl _)
  have HB_4 := Lib.hid (HB_3.out.trans (hb4.mono HB_3.out.size))
  have HXst_4 := Lib.hid (HXst_3.out.on hb4)
  have HSst_4 := Lib.hid (HSst_3.out.keep hb4)
  clear hb4 r1w0 r1w1 r1w2 r1w3
  have x0 := HXst_4.out.c 0 _ rfl; have x1 := HXst_4.out.c 1 _ rfl
  go_wp2_with fail
  have CT := Diff_V pa3 pb3 pn3 pc3 pm3 pd3 _ prs3 S va vb _ HSst_4.out HR.out
  rw [hR1.out] at CT
  with_reducible refine CT.mono ?_
  rintro e v5 ⟨da5, dn5, dc5, rfl, ho5, hl5, hb5⟩
  dsimp only at ho5 hl5
  have HB_5 := Lib.hid (HB_4.out.trans (hb5.mono HB_4.out.size))
  have HXst_5 := Lib.hid (HXst_4.out.on hb5)
  have HSst_5 := Lib.hid (HSst_4.out.keep hb5)
  have HO1_5 := Lib.hid (ho5)
  clear ho5 hb5 CT x0 x1
  by_cases he : E = 0
  rotate_left
  · have hb : ((E : Int) != 0) = true := bne_iff_ne.2 (by omega)
    obtain rfl : 0 = dn5 := by rw [← hl5, HDB.out he]; rfl
    clear HDB HCA
    go_wp2_with fail
    go_ret
    exact ⟨rfl, HB_5.out⟩
  subst he
  have HC := Lib.hid (HCA.out rfl)
  clear HDB HCA
  have x0 := HXst_5.out.c 0 _ rfl; have x1 := HXst_5.out.c 1 _ rfl
  have CT := Copy_V pa3 pb3 pn3 pc3 pm3 pd3 _ prs3 S va vb da5 dn5 dc5 _ L _ HSst_5.out HR.out HO1_5.out (by omega)
  rw [hRX.out] at CT
  go_wp2_with fail
  with_reducible refine CT.mono ?_
  rintro e v6 ⟨pa6, pn6, pc6, pb6, pm6, pd6, prs6, rfl, hs6, hb6⟩
  dsimp only at hs6
  have hc6 := hb6.alloc hb6.size (.cells #[.slice pa6 pn6 pc6, .slice pb6 pm6 pd6] 52)
  have HB_6 := Lib.hid (HB_5.out.trans (hc6.mono HB_5.out.size))
  have HXst_6 := Lib.hid (HXst_5.out.on hc6)
  have HSst_6 := Lib.hid (HSst_5.out.keep hc6)
  have HO1_6 := Lib.hid (own_keep HO1_5.out hc6)
  have HXX_6 := Lib.hid (bxs_new v6 52 #[.slice pa6 pn6 pc6, .slice pb6 pm6 pd6] [.slice pa6 pn6 pc6, .slice pb6 pm6 pd6] rfl)
  have HSX_6 := Lib.hid (hs6.keep ((Below.refl _ v6).alloc (Nat.le_refl _) (.cells #[.slice pa6 pn6 pc6, .slice pb6 pm6 pd6] 52)))
  clear hs6 hb6 hc6 CT x0 x1
  rcases HC.out with h8 | ⟨h0, h1, h2, h3⟩
  · subst h8
    clear HC
    go_wp2_with fail
    go_ret
    exact ⟨rfl, HB_6.out⟩
  subst h0
  have H1 := Lib.hid h1; have H2 := Lib.hid h2; have H3 := Lib.hid h3
  clear HC h1 h2 h3
  have x0 := HXX_6.out.c 0 _ rfl; have x1 := HXX_6.out.c 1 _ rfl
  go_wp2_with fail
  have CT := Diff_V pa6 pb6 pn6 pc6 pm6 pd6 _ prs6 X va vb _ HSX_6.out HRX.out
  rw [H1.out] at CT
  with_reducible refine CT.mono ?_
  rintro e v7 ⟨da7, dn7, dc7, rfl, ho7, hl7, hb7⟩
  dsimp only at ho7 hl7
  have HB_7 := Lib.hid (HB_6.out.trans (hb7.mono HB_6.out.size))
  have HXst_7 := Lib.hid (HXst_6.out.on hb7)
  have HSst_7 := Lib.hid (HSst_6.out.keep hb7)
  have HO1_7 := Lib.hid (own_keep HO1_6.out hb7)
  have HXX_7 := Lib.hid (HXX_6.out.on hb7)
  have HSX_7 := Lib.hid (HSX_6.out.keep hb7)
  have HO2_7 := Lib.hid (ho7)
  clear ho7 hb7 CT x0 x1
  obtain rfl : 0 = dn7 := hl7
  by_cases hn : vc = vb
  · subst hn
    have hd : (vc.toList == vc.toList) = true := beq_self_eq_true _
    go_wp2_with fail
    have r2w0 : Below v7.heap.size v7 v7.drew := Below.drew (Below.refl _ _)
    refine wp_region_noPanic ?_
    refine wp_region_held_drew (S := (fun V => V.cell? ⟨v6.heap.size, 0, none⟩ = some (.slice pa6 pn6 pc6) ∧ V.cell? ⟨v6.heap.size, 1, none⟩ = some (.slice pb6 pm6 pd6) ∧ V.cell? ⟨v3.heap.size, 0, none⟩ = some (.slice pa3 pn3 pc3) ∧ V.cell? ⟨v3.heap.size, 1, none⟩ = some (.slice pb3 pm3 pd3) ∧ Below v7.heap.size v7 V)) (by kernel_rfl) ⟨(HXX_7.out.on r2w0).c 0 _ rfl, (HXX_7.out.on r2w0).c 1 _ rfl, (HXst_7.out.on r2w0).c 0 _ rfl, (HXst_7.out.on r2w0).c 1 _ rfl, r2w0⟩ (fun hS => ?_)
    refine wpAnyH_take (i := 0) (oi := _) (v := ?_) (by (try simp only [List.getElem?_toArray, List.getElem?_cons_zero]); rfl) (by kernel_rfl) (by kernel_rfl) (by kernel_rfl) (fun _ _ _ h => h) (Or.inl ⟨by rfl, ?_⟩) (by assumption) ?_
    rotate_left
    next => (rintro w' ⟨k00, k01, k10, k11, kb⟩; go_simp; (try with_reducible rfl))
    (try simp only [Act.put, List.setIfInBounds_toArray, List.set_cons_zero, List.set_cons_succ])
    refine wpAnyH_take (i := 1) (oi := _) (v := ?_) (by (try simp only [List.getElem?_toArray, List.getElem?_cons_succ, List.getElem?_cons_zero]); rfl) (by kernel_rfl) (by kernel_rfl) (by kernel_rfl) (fun _ _ _ h => h) (Or.inl ⟨by rfl, ?_⟩) (by assumption) ?_
    rotate_left
    next => (rintro w' ⟨k00, k01, k10, k11, kb⟩; go_simp; (try with_reducible rfl))
    (try simp only [Act.put, List.setIfInBounds_toArray, List.set_cons_zero, List.set_cons_succ])
    refine wpAnyH_take (i := 2) (oi := _) (v := ?_) (by (try simp only [List.getElem?_toArray, List.getElem?_cons_succ, List.getElem?_cons_zero]); rfl) (by kernel_rfl) (by kernel_rfl) (by kernel_rfl) (fun _ _ _ h => h) (Or.inl ⟨by rfl, ?_⟩) (by assumption) ?_
    rotate_left
    next => (rintro w' ⟨k00, k01, k10, k11, kb⟩; go_simp; (try with_reducible rfl))
    (try simp only [Act.put, List.setIfInBounds_toArray, List.set_cons_zero, List.set_cons_succ])
    refine wpAnyH_take (i := 3) (oi := _) (v := ?_) (by (try simp only [List.getElem?_toArray, List.getElem?_cons_succ, List.getElem?_cons_zero]); rfl) (by kernel_rfl) (by kernel_rfl) (by kernel_rfl) (fun _ _ _ h => h) (Or.inl ⟨by rfl, ?_⟩) (by assumption) ?_
    rotate_left
    next => (rintro w' ⟨k00, k01, k10, k11, kb⟩; go_simp; (try with_reducible rfl))
    (try simp only [Act.put, List.setIfInBounds_toArray, List.set_cons_zero, List.set_cons_succ])
    refine wpAnyH_take (i := 4) (oi := _) (v := ?_) (by (try simp only [List.getElem?_toArray, List.getElem?_cons_succ, List.getElem?_cons_zero]); rfl) (by kernel_rfl) (by kernel_rfl) (by kernel_rfl) (fun _ _ _ h => h) (Or.inl ⟨by rfl, ?_⟩) (by assumption) ?_
    rotate_left
    next => (rintro w' ⟨k00, k01, k10, k11, kb⟩; go_simp; (try with_reducible rfl))
    (try simp only [Act.put, List.setIfInBounds_toArray, List.set_cons_zero, List.set_cons_succ])
    refine wpAnyH_take (i := 5) (oi := _) (v := ?_) (by (try simp only [List.getElem?_toArray, List.getElem?_cons_succ, List.getElem?_cons_zero]); rfl) (by kernel_rfl) (by kernel_rfl) (by kernel_rfl) (fun _ _ _ h => h) (Or.inl ⟨by rfl, ?_⟩) (by assumption) ?_
    rotate_left
    next => (rintro w' ⟨k00, k01, k10, k11, kb⟩; go_simp; (try with_reducible rfl))
    (try simp only [Act.put, List.setIfInBounds_toArray, List.set_cons_zero, List.set_cons_succ])
    refine wpAnyH_take (i := 6) (oi := _) (v := ?_) (by (try simp only [List.getElem?_toArray, List.getElem?_cons_succ, List.getElem?_cons_zero]); rfl) (by kernel_rfl) (by kernel_rfl) (by kernel_rfl) (fun _ _ _ h => h) (Or.inl ⟨by rfl, ?_⟩) (by assumption) ?_
    rotate_left
    next => (rintro w' ⟨k00, k01, k10, k11, kb⟩; go_simp; (try with_reducible rfl))
    (try simp only [Act.put, List.setIfInBounds_toArray, List.set_cons_zero, List.set_cons_succ])
    refine wpAnyH_take (i := 7) (oi := _) (v := ?_) (by (try simp only [List.getElem?_toArray, List.getElem?_cons_succ, List.getElem?_cons_zero]); rfl) (by kernel_rfl) (by kernel_rfl) (by kernel_rfl) (fun _ _ _ h => h) (Or.inl ⟨by rfl, ?_⟩) (by assumption) ?_
    rotate_left
    next => (rintro w' ⟨k00, k01, k10, k11, kb⟩; go_simp; (try with_reducible rfl))
    (try simp only [Act.put, List.setIfInBounds_toArray, List.set_cons_zero, List.set_cons_succ])
    refine wpAnyH_take (i := 8) (oi := _) (v := ?_) (by (try simp only [List.getElem?_toArray, List.getElem?_cons_succ, List.getElem?_cons_zero]); rfl) (by kernel_rfl) (by kernel_rfl) (by kernel_rfl) (fun _ _ _ h => h) (Or.inl ⟨by rfl, ?_⟩) (by assumption) ?_
    rotate_left
    next => (rintro w' ⟨k00, k01, k10, k11, kb⟩; go_simp; (try with_reducible rfl))
    (try simp only [Act.put, List.setIfInBounds_toArray, List.set_cons_zero, List.set_cons_succ])
    refine wpAnyH_take (i := 9) (oi := _) (v := ?_) (by (try simp only [List.getElem?_toArray, List.getElem?_cons_succ, List.getElem?_cons_zero]); rfl) (by kernel_rfl) (by kernel_rfl) (by kernel_rfl) (fun _ _ _ h => h) (Or.inl ⟨by rfl, ?_⟩) (by assumption) ?_
    rotate_left
    next => (rintro w' ⟨k00, k01, k10, k11, kb⟩; go_simp; (try with_reducible rfl))
    (try simp only [Act.put, List.setIfInBounds_toArray, List.set_cons_zero, List.set_cons_succ])
    refine wpAnyH_take (i := 11) (oi := _) (v := ?_) (by (try simp only [List.getElem?_toArray, List.getElem?_cons_succ, List.getElem?_cons_zero]); rfl) (by kernel_rfl) (by kernel_rfl) (by kernel_rfl) (fun _ _ _ h => h) (Or.inl ⟨by rfl, ?_⟩) (by assumption) ?_
    rotate_left
    next => (rintro w' ⟨k00, k01, k10, k11, kb⟩; go_simp; (try with_reducible rfl))
    (try simp only [Act.put, List.setIfInBounds_toArray, List.set_cons_zero, List.set_cons_succ])
    refine wpAnyH_take (i := 12) (oi := _) (v := ?_) (by (try simp only [List.getElem?_toArray, List.getElem?_cons_succ, List.getElem?_cons_zero]); rfl) (by kernel_rfl) (by kernel_rfl) (by kernel_rfl) (fun _ _ _ h => h) (Or.inl ⟨by rfl, ?_⟩) (by assumption) ?_
    rotate_left
    next => (rintro w' ⟨k00, k01, k10, k11, kb⟩; go_simp; (try with_reducible rfl))
    (try simp only [Act.put, List.setIfInBounds_toArray, List.set_cons_zero, List.set_cons_succ])
    refine wpAnyH_ready (rs := [10]) (by kernel_rfl) (by simp) ?_
    refine AllReadyH.cons (o := _) (by (try simp only [List.getElem?_toArray, List.getElem?_cons_succ, List.getElem?_cons_zero]); rfl) (fun K hK => ?_) AllReadyH.nil
    go_simp
    go_at_call 44
    have rq := Texts_V pa6 pb6 pn6 pc6 pm6 pd6 _ prs6 X vc _ (HSX_7.out.keep r2w0) HRX.out
    with_reducible refine rq.mono ?_
    clear rq
    rintro e r2u1 ⟨r2ta1, r2tn1, r2tc1, rfl, r2o1, r2n1, r2h1⟩
    have r2O1_1 := Lib.hid r2o1
    clear r2o1
    have r2w1 := r2w0.trans (r2h1.mono r2w0.size)
    have hX : (fun V => V.cell? ⟨v6.heap.size, 0, none⟩ = some (.slice pa6 pn6 pc6) ∧ V.cell? ⟨v6.heap.size, 1, none⟩ = some (.slice pb6 pm6 pd6) ∧ V.cell? ⟨v3.heap.size, 0, none⟩ = some (.slice pa3 pn3 pc3) ∧ V.cell? ⟨v3.heap.size, 1, none⟩ = some (.slice pb3 pm3 pd3) ∧ Below v7.heap.size v7 V) r2u1 := ⟨(HXX_7.out.on r2w1).c 0 _ rfl, (HXX_7.out.on r2w1).c 1 _ rfl, (HXst_7.out.on r2w1).c 0 _ rfl, (HXst_7.out.on r2w1).c 1 _ rfl, r2w1⟩
    refine hK.out _ _ hX (fun _ => ?_)
    clear hK K hS r2h1
    (try simp only [Act.put, List.setIfInBounds_toArray, List.set_cons_zero, List.set_cons_succ])
    have hS := hX
    clear hX
    refine wpAnyH_ready (rs := [13]) (by kernel_rfl) (by simp) ?_
    refine AllReadyH.cons (o := _) (by (try simp only [List.getElem?_toArray, List.getElem?_cons_succ, List.getElem?_cons_zero]); rfl) (fun K hK => ?_) AllReadyH.nil
    go_simp
    go_at_call 44
    have rq := Texts_V pa3 pb3 pn3 pc3 pm3 pd3 _ prs3 S va _ (HSst_7.out.keep r2w1) HR.out
    with_reducible refine rq.mono ?_
    clear rq
    rintro e r2u2 ⟨r2ta2, r2tn2, r2tc2, rfl, r2o2, r2n2, r2h2⟩
    have r2O1_2 := Lib.hid (own_keep r2O1_1.out r2h2)
    have r2O2_2 := Lib.hid r2o2
    clear r2o2
    have r2w2 := r2w1.trans (r2h2.mono r2w1.size)
    have hX : (fun V => V.cell? ⟨v6.heap.size, 0, none⟩ = some (.slice pa6 pn6 pc6) ∧ V.cell? ⟨v6.heap.size, 1, none⟩ = some (.slice pb6 pm6 pd6) ∧ V.cell? ⟨v3.heap.size, 0, none⟩ = some (.slice pa3 pn3 pc3) ∧ V.cell? ⟨v3.heap.size, 1, none⟩ = some (.slice pb3 pm3 pd3) ∧ Below v7.heap.size v7 V) r2u2 := ⟨(HXX_7.out.on r2w2).c 0 _ rfl, (HXX_7.out.on r2w2).c 1 _ rfl, (HXst_7.out.on r2w2).c 0 _ rfl, (HXst_7.out.on r2w2).c 1 _ rfl, r2w2⟩
    refine hK.out _ _ hX (fun _ => ?_)
    clear hK K hS r2h2
    (try simp only [Act.put, List.setIfInBounds_toArray, List.set_cons_zero, List.set_cons_succ])
    have hS := hX
    clear hX
    refine wpAnyH_ready (rs := [14]) (by kernel_rfl) (by simp) ?_
    refine AllReadyH.cons (o := _) (by (try simp only [List.getElem?_toArray, List.getElem?_cons_succ, List.getElem?_cons_zero]); rfl) (fun K hK => ?_) AllReadyH.nil
    go_simp
    go_at_call 43
    have rq := Equal_ST r2ta1 r2ta2 r2tn1 r2tc1 r2tn2 r2tc2 _ _ _ _ _ r2O1_2.out r2O2_2.out (by omega) (by omega) H2.out
    with_reducible refine rq.mono ?_
    clear rq
    rintro e r2u3 ⟨rfl, r2h3⟩
    have r2O1_3 := Lib.hid (own_keep r2O1_2.out r2h3)
    have r2O2_3 := Lib.hid (own_keep r2O2_2.out r2h3)
    have r2w3 := r2w2.trans (r2h3.mono r2w2.size)
    have hX : (fun V => V.cell? ⟨v6.heap.size, 0, none⟩ = some (.slice pa6 pn6 pc6) ∧ V.cell? ⟨v6.heap.size, 1, none⟩ = some (.slice pb6 pm6 pd6) ∧ V.cell? ⟨v3.heap.size, 0, none⟩ = some (.slice pa3 pn3 pc3) ∧ V.cell? ⟨v3.heap.size, 1, none⟩ = some (.slice pb3 pm3 pd3) ∧ Below v7.heap.size v7 V) r2u3 := ⟨(HXX_7.out.on r2w3).c 0 _ rfl, (HXX_7.out.on r2w3).c 1 _ rfl, (HXst_7.out.on r2w3).c 0 _ rfl, (HXst_7.out.on r2w3).c 1 _ rfl, r2w3⟩
    refine hK.out _ _ hX (fun _ => ?_)
    clear hK K hS r2h3
    (try simp only [Act.put, List.setIfInBounds_toArray, List.set_cons_zero, List.set_cons_succ])
    have hS := hX
    clear hX
    refine wpAnyH_take (i := 15) (oi := _) (v := ?_) (by (try simp only [List.getElem?_toArray, List.getElem?_cons_succ, List.getElem?_cons_zero]); rfl) (by kernel_rfl) (by kernel_rfl) (by kernel_rfl) (fun _ _ _ h => h) (Or.inl ⟨by rfl, ?_⟩) (by assumption) ?_
    rotate_left
    next => (rintro w' ⟨k00, k01, k10, k11, kb⟩; go_simp; (try with_reducible rfl))
    (try simp only [Act.put, List.setIfInBounds_toArray, List.set_cons_zero, List.set_cons_succ])
    refine wpAnyH_take (i := 16) (oi := _) (v := ?_) (by (try simp only [List.getElem?_toArray, List.getElem?_cons_succ, List.getElem?_cons_zero]); rfl) (by kernel_rfl) (by kernel_rfl) (by kernel_rfl) (fun _ _ _ h => h) (Or.inl ⟨by rfl, ?_⟩) (by assumption) ?_
    rotate_left
    next => (rintro w' ⟨k00, k01, k10, k11, kb⟩; go_simp; (try with_reducible rfl))
    (try simp only [Act.put, List.setIfInBounds_toArray, List.set_cons_zero, List.set_cons_succ])
    refine wpAnyH_take (i := 17) (oi := _) (v := ?_) (by (try simp only [List.getElem?_toArray, List.getElem?_cons_succ, List.getElem?_cons_zero]); rfl) (by kernel_rfl) (by kernel_rfl) (by kernel_rfl) (fun _ _ _ h => h) (Or.inl ⟨by rfl, ?_⟩) (by assumption) ?_
    rotate_left
    next => (rintro w' ⟨k00, k01, k10, k11, kb⟩; go_simp; (try with_reducible rfl))
    (try simp only [Act.put, List.setIfInBounds_toArray, List.set_cons_zero, List.set_cons_succ])
    refine wpAnyH_take (i := 18) (oi := _) (v := ?_) (by (try simp only [List.getElem?_toArray, List.getElem?_cons_succ, List.getElem?_cons_zero]); rfl) (by kernel_rfl) (by kernel_rfl) (by kernel_rfl) (fun _ _ _ h => h) (Or.inl ⟨by rfl, ?_⟩) (by assumption) ?_
    rotate_left
    next => (rintro w' ⟨k00, k01, k10, k11, kb⟩; go_simp; (try with_reducible rfl))
    (try simp only [Act.put, List.setIfInBounds_toArray, List.set_cons_zero, List.set_cons_succ])
    refine wpAnyH_take (i := 19) (oi := _) (v := ?_) (by (try simp only [List.getElem?_toArray, List.getElem?_cons_succ, List.getElem?_cons_zero]); rfl) (by kernel_rfl) (by kernel_rfl) (by kernel_rfl) (fun _ _ _ h => h) (Or.inl ⟨by rfl, ?_⟩) (by assumption) ?_
    rotate_left
    next => (rintro w' ⟨k00, k01, k10, k11, kb⟩; go_simp; (try with_reducible rfl))
    (try simp only [Act.put, List.setIfInBounds_toArray, List.set_cons_zero, List.set_cons_succ])
    refine wpAnyH_take (i := 20) (oi := _) (v := ?_) (by (try simp only [List.getElem?_toArray, List.getElem?_cons_succ, List.getElem?_cons_zero]); rfl) (by kernel_rfl) (by kernel_rfl) (by kernel_rfl) (fun _ _ _ h => h) (Or.inl ⟨by rfl, ?_⟩) (by assumption) ?_
    rotate_left
    next => (rintro w' ⟨k00, k01, k10, k11, kb⟩; go_simp; (try with_reducible rfl))
    (try simp only [Act.put, List.setIfInBounds_toArray, List.set_cons_zero, List.set_cons_succ])
    refine wpAnyH_take (i := 21) (oi := _) (v := undef) (by (try simp only [List.getElem?_toArray, List.getElem?_cons_succ, List.getElem?_cons_zero]); rfl) (by kernel_rfl) (by kernel_rfl) (by kernel_rfl) (fun _ _ _ h => h) (Or.inr ⟨by rfl, rfl⟩) (by assumption) ?_
    (try simp only [Act.put, List.setIfInBounds_toArray, List.set_cons_zero, List.set_cons_succ])
    refine wpAnyH_take (i := 22) (oi := _) (v := undef) (by (try simp only [List.getElem?_toArray, List.getElem?_cons_succ, List.getElem?_cons_zero]); rfl) (by kernel_rfl) (by kernel_rfl) (by kernel_rfl) (fun _ _ _ h => h) (Or.inr ⟨by rfl, rfl⟩) (by assumption) ?_
    (try simp only [Act.put, List.setIfInBounds_toArray, List.set_cons_zero, List.set_cons_succ])
    refine wpAnyH_take (i := 24) (oi := _) (v := undef) (by (try simp only [List.getElem?_toArray, List.getElem?_cons_succ, List.getElem?_cons_zero]); rfl) (by kernel_rfl) (by kernel_rfl) (by kernel_rfl) (fun _ _ _ h => h) (Or.inr ⟨by rfl, rfl⟩) (by assumption) ?_
    (try simp only [Act.put, List.setIfInBounds_toArray, List.set_cons_zero, List.set_cons_succ])
    refine wpAnyH_take (i := 25) (oi := _) (v := undef) (by (try simp only [List.getElem?_toArray, List.getElem?_cons_succ, List.getElem?_cons_zero]); rfl) (by kernel_rfl) (by kernel_rfl) (by kernel_rfl) (fun _ _ _ h => h) (Or.inr ⟨by rfl, rfl⟩) (by assumption) ?_
    (try simp only [Act.put, List.setIfInBounds_toArray, List.set_cons_zero, List.set_cons_succ])
    refine wpAnyH_ready (rs := [23]) (by kernel_rfl) (by simp) ?_
    refine AllReadyH.cons (o := _) (by (try simp only [List.getElem?_toArray, List.getElem?_cons_succ, List.getElem?_cons_zero]); rfl) (fun K hK => ?_) AllReadyH.nil
    go_simp
    refine hK.out _ _ hS (fun _ => ?_)
    clear hK K
    (try simp only [Act.put, List.setIfInBounds_toArray, List.set_cons_zero, List.set_cons_succ])
    refine wpAnyH_ready (rs := [26]) (by kernel_rfl) (by simp) ?_
    refine AllReadyH.cons (o := _) (by (try simp only [List.getElem?_toArray, List.getElem?_cons_succ, List.getElem?_cons_zero]); rfl) (fun K hK => ?_) AllReadyH.nil
    go_simp
    refine hK.out _ _ hS (fun _ => ?_)
    clear hK K
    (try simp only [Act.put, List.setIfInBounds_toArray, List.set_cons_zero, List.set_cons_succ])
    refine wpAnyH_ready (rs := [27]) (by kernel_rfl) (by simp) ?_
    refine AllReadyH.cons (o := _) (by (try simp only [List.getElem?_toArray, List.getElem?_cons_succ, List.getElem?_cons_zero]); rfl) (fun K hK => ?_) AllReadyH.nil
    go_simp
    refine hK.out _ _ hS (fun _ => ?_)
    clear hK K
    (try simp only [Act.put, List.setIfInBounds_toArray, List.set_cons_zero, List.set_cons_succ])
    refine wpAnyH_take (i := 28) (oi := _) (v := ?_) (by (try simp only [List.getElem?_toArray, List.getElem?_cons_succ, List.getElem?_cons_zero]); rfl) (by kernel_rfl) (by kernel_rfl) (by kernel_rfl) (fun _ _ _ h => h) (Or.inl ⟨by rfl, ?_⟩) (by assumption) ?_
    rotate_left
    next => (rintro w' ⟨k00, k01, k10, k11, kb⟩; go_simp; (try with_reducible rfl))
    (try simp only [Act.put, List.setIfInBounds_toArray, List.set_cons_zero, List.set_cons_succ])
    refine wpAnyH_take (i := 29) (oi := _) (v := ?_) (by (try simp only [List.getElem?_toArray, List.getElem?_cons_succ, List.getElem?_cons_zero]); rfl) (by kernel_rfl) (by kernel_rfl) (by kernel_rfl) (fun _ _ _ h => h) (Or.inl ⟨by rfl, ?_⟩) (by assumption) ?_
    rotate_left
    next => (rintro w' ⟨k00, k01, k10, k11, kb⟩; go_simp; (try with_reducible rfl))
    (try simp only [Act.put, List.setIfInBounds_toArray, List.set_cons_zero, List.set_cons_succ])
    refine wpAnyH_take (i := 30) (oi := _) (v := ?_) (by (try simp only [List.getElem?_toArray, List.getElem?_cons_succ, List.getElem?_cons_zero]); rfl) (by kernel_rfl) (by kernel_rfl) (by kernel_rfl) (fun _ _ _ h => h) (Or.inl ⟨by rfl, ?_⟩) (by assumption) ?_
    rotate_left
    next => (rintro w' ⟨k00, k01, k10, k11, kb⟩; go_simp; (try with_reducible rfl))
    (try simp only [Act.put, List.setIfInBounds_toArray, List.set_cons_zero, List.set_cons_succ])
    refine wpAnyH_take (i := 31) (oi := _) (v := ?_) (by (try simp only [List.getElem?_toArray, List.getElem?_cons_succ, List.getElem?_cons_zero]); rfl) (by kernel_rfl) (by kernel_rfl) (by kernel_rfl) (fun _ _ _ h => h) (Or.inl ⟨by rfl, ?_⟩) (by assumption) ?_
    rotate_left
    next => (rintro w' ⟨k00, k01, k10, k11, kb⟩; go_simp; (try with_reducible rfl))
    (try simp only [Act.put, List.setIfInBounds_toArray, List.set_cons_zero, List.set_cons_succ])
    refine wpAnyH_ready (rs := [32]) (by kernel_rfl) (by simp) ?_
    refine AllReadyH.cons (o := _) (by (try simp only [List.getElem?_toArray, List.getElem?_cons_succ, List.getElem?_cons_zero]); rfl) (fun K hK => ?_) AllReadyH.nil
    go_simp
    go_at_call 34
    have rq := Check_V pa6 pb6 pn6 pc6 pm6 pd6 _ prs6 X _ (HSX_7.out.keep r2w3) HRX.out
    with_reducible refine rq.mono ?_
    clear rq
    rintro e r2u4 ⟨rfl, r2h4⟩
    have r2O1_4 := Lib.hid (own_keep r2O1_3.out r2h4)
    have r2O2_4 := Lib.hid (own_keep r2O2_3.out r2h4)
    have r2w4 := r2w3.trans (r2h4.mono r2w3.size)
    have hX : (fun V => V.cell? ⟨v6.heap.size, 0, none⟩ = some (.slice pa6 pn6 pc6) ∧ V.cell? ⟨v6.heap.size, 1, none⟩ = some (.slice pb6 pm6 pd6) ∧ V.cell? ⟨v3.heap.size, 0, none⟩ = some (.slice pa3 pn3 pc3) ∧ V.cell? ⟨v3.heap.size, 1, none⟩ = some (.slice pb3 pm3 pd3) ∧ Below v7.heap.size v7 V) r2u4 := ⟨(HXX_7.out.on r2w4).c 0 _ rfl, (HXX_7.out.on r2w4).c 1 _ rfl, (HXst_7.out.on r2w4).c 0 _ rfl, (HXst_7.out.on r2w4).c 1 _ rfl, r2w4⟩
    refine hK.out _ _ hX (fun _ => ?_)
    clear hK K hS r2h4
    (try simp only [Act.put, List.setIfInBounds_toArray, List.set_cons_zero, List.set_cons_succ])
    have hS := hX
    clear hX
    refine wpAnyH_take (i := 33) (oi := _) (v := ?_) (by (try simp only [List.getElem?_toArray, List.getElem?_cons_succ, List.getElem?_cons_zero]); rfl) (by kernel_rfl) (by kernel_rfl) (by kernel_rfl) (fun _ _ _ h => h) (Or.inl ⟨by rfl, ?_⟩) (by assumption) ?_
    rotate_left
    next => (rintro w' ⟨k00, k01, k10, k11, kb⟩; go_simp; (try with_reducible rfl))
    (try simp only [Act.put, List.setIfInBounds_toArray, List.set_cons_zero, List.set_cons_succ])
    refine wpAnyH_take (i := 34) (oi := _) (v := ?_) (by (try simp only [List.getElem?_toArray, List.getElem?_cons_succ, List.getElem?_cons_zero]); rfl) (by kernel_rfl) (by kernel_rfl) (by kernel_rfl) (fun _ _ _ h => h) (Or.inl ⟨by rfl, ?_⟩) (by assumption) ?_
    rotate_left
    next => (rintro w' ⟨k00, k01, k10, k11, kb⟩; go_simp; (try with_reducible rfl))
    (try simp only [Act.put, List.setIfInBounds_toArray, List.set_cons_zero, List.set_cons_succ])
    refine wpAnyH_take (i := 35) (oi := _) (v := ?_) (by (try simp only [List.getElem?_toArray, List.getElem?_cons_succ, List.getElem?_cons_zero]); rfl) (by kernel_rfl) (by kernel_rfl) (by kernel_rfl) (fun _ _ _ h => h) (Or.inl ⟨by rfl, ?_⟩) (by assumption) ?_
    rotate_left
    next => (rintro w' ⟨k00, k01, k10, k11, kb⟩; go_simp; (try with_reducible rfl))
    (try simp only [Act.put, List.setIfInBounds_toArray, List.set_cons_zero, List.set_cons_succ])
    refine wpAnyH_done (by kernel_rfl) ?_ _
    refine NoPanic.normal ?_
    have hb8 := r2w4.mono (Nat.le_refl _)
    have HB_8 := Lib.hid (HB_7.out.trans (hb8.mono HB_7.out.size))
    have HXst_8 := Lib.hid (HXst_7.out.on hb8)
    have HSst_8 := Lib.hid (HSst_7.out.keep hb8)
    have HO1_8 := Lib.hid (own_keep HO1_7.out hb8)
    have HXX_8 := Lib.hid (HXX_7.out.on hb8)
    have HSX_8 := Lib.hid (HSX_7.out.keep hb8)
    have HO2_8 := Lib.hid (own_keep HO2_7.out hb8)
    clear hb8 hS r2w0 r2w1 r2w2 r2w3 r2w4
    go_wp2_with fail
    go_ret
    exact ⟨rfl, HB_8.out⟩
  · have hn2 : (vc.toList == vb.toList) = false := beq_eq_false_iff_ne.2 (txt_ne hn)
    have H4 := Lib.hid (H3.out vc (fun e => hn e.symm))
    clear hn
    go_wp2_with fail
    have r2w0 : Below v7.heap.size v7 v7.drew := Below.drew (Below.refl _ _)
    have r2c0_0_0 := (HXX_7.out.on r2w0).c 0 _ rfl
    have r2c0_0_1 := (HXX_7.out.on r2w0).c 1 _ rfl
    have r2c0_1_0 := (HXst_7.out.on r2w0).c 0 _ rfl
    have r2c0_1_1 := (HXst_7.out.on r2w0).c 1 _ rfl
    go_region_held3 (fun V => V.cell? ⟨v6.heap.size, 0, none⟩ = some (.slice pa6 pn6 pc6) ∧ V.cell? ⟨v6.heap.size, 1, none⟩ = some (.slice pb6 pm6 pd6) ∧ V.cell? ⟨v3.heap.size, 0, none⟩ = some (.slice pa3 pn3 pc3) ∧ V.cell? ⟨v3.heap.size, 1, none⟩ = some (.slice pb3 pm3 pd3) ∧ Below v7.heap.size v7 V)
      (first | with_reducible exact ⟨by assumption, by assumption, by assumption, by assumption, by assumption⟩)
      ((first
        | (go_at_call 44; have rq := Texts_V pa6 pb6 pn6 pc6 pm6 pd6 _ prs6 X vb _ (HSX_7.out.keep r2w0) HRX.out; (with_reducible refine rq.mono ?_); clear rq; rintro e r2u1 ⟨r2ta1, r2tn1, r2tc1, rfl, r2o1, r2n1, r2h1⟩; have r2O1_1 := Lib.hid r2o1; clear r2o1; have r2w1 := r2w0.trans (r2h1.mono r2w0.size); clear r2h1; have r2c1_0_0 := (HXX_7.out.on r2w1).c 0 _ rfl; have r2c1_0_1 := (HXX_7.out.on r2w1).c 1 _ rfl; have r2c1_1_0 := (HXst_7.out.on r2w1).c 0 _ rfl; have r2c1_1_1 := (HXst_7.out.on r2w1).c 1 _ rfl)
        | (go_at_call 44; have rq := Texts_V pa3 pb3 pn3 pc3 pm3 pd3 _ prs3 S va _ (HSst_7.out.keep r2w1) HR.out; (with_reducible refine rq.mono ?_); clear rq; rintro e r2u2 ⟨r2ta2, r2tn2, r2tc2, rfl, r2o2, r2n2, r2h2⟩; have r2O1_2 := Lib.hid (own_keep r2O1_1.out r2h2); have r2O2_2 := Lib.hid r2o2; clear r2o2; have r2w2 := r2w1.trans (r2h2.mono r2w1.size); clear r2h2; have r2c2_0_0 := (HXX_7.out.on r2w2).c 0 _ rfl; have r2c2_0_1 := (HXX_7.out.on r2w2).c 1 _ rfl; have r2c2_1_0 := (HXst_7.out.on r2w2).c 0 _ rfl; have r2c2_1_1 := (HXst_7.out.on r2w2).c 1 _ rfl)
        | (go_at_call 43; have rq := Equal_ST r2ta1 r2ta2 r2tn1 r2tc1 r2tn2 r2tc2 _ _ _ _ _ r2O1_2.out r2O2_2.out (by omega) (by omega) H2.out; (with_reducible refine rq.mono ?_); clear rq; rintro e r2u3 ⟨rfl, r2h3⟩; have r2O1_3 := Lib.hid (own_keep r2O1_2.out r2h3); have r2O2_3 := Lib.hid (own_keep r2O2_2.out r2h3); have r2w3 := r2w2.trans (r2h3.mono r2w2.size); clear r2h3; have r2c3_0_0 := (HXX_7.out.on r2w3).c 0 _ rfl; have r2c3_0_1 := (HXX_7.out.on r2w3).c 1 _ rfl; have r2c3_1_0 := (HXst_7.out.on r2w3).c 0 _ rfl; have r2c3_1_1 := (HXst_7.out.on r2w3).c 1 _ rfl)
        | (go_at_call 44; have rq := Texts_V pa6 pb6 pn6 pc6 pm6 pd6 _ prs6 X vc _ (HSX_7.out.keep r2w3) HRX.out; (with_reducible refine rq.mono ?_); clear rq; rintro e r2u4 ⟨r2ta4, r2tn4, r2tc4, rfl, r2o4, r2n4, r2h4⟩; have r2O1_4 := Lib.hid (own_keep r2O1_3.out r2h4); have r2O2_4 := Lib.hid (own_keep r2O2_3.out r2h4); have r2O4_4 := Lib.hid r2o4; clear r2o4; have r2w4 := r2w3.trans (r2h4.mono r2w3.size); clear r2h4; have r2c4_0_0 := (HXX_7.out.on r2w4).c 0 _ rfl; have r2c4_0_1 := (HXX_7.out.on r2w4).c 1 _ rfl; have r2c4_1_0 := (HXst_7.out.on r2w4).c 0 _ rfl; have r2c4_1_1 := (HXst_7.out.on r2w4).c 1 _ rfl)
        | (go_at_call 44; have rq := Texts_V pa3 pb3 pn3 pc3 pm3 pd3 _ prs3 S vc _ (HSst_7.out.keep r2w4) HR.out; (with_reducible refine rq.mono ?_); clear rq; rintro e r2u5 ⟨r2ta5, r2tn5, r2tc5, rfl, r2o5, r2n5, r2h5⟩; have r2O1_5 := Lib.hid (own_keep r2O1_4.out r2h5); have r2O2_5 := Lib.hid (own_keep r2O2_4.out r2h5); have r2O4_5 := Lib.hid (own_keep r2O4_4.out r2h5); have r2O5_5 := Lib.hid r2o5; clear r2o5; have r2w5 := r2w4.trans (r2h5.mono r2w4.size); clear r2h5; have r2c5_0_0 := (HXX_7.out.on r2w5).c 0 _ rfl; have r2c5_0_1 := (HXX_7.out.on r2w5).c 1 _ rfl; have r2c5_1_0 := (HXst_7.out.on r2w5).c 0 _ rfl; have r2c5_1_1 := (HXst_7.out.on r2w5).c 1 _ rfl)
        | (go_at_call 43; have rq := Equal_ST r2ta4 r2ta5 r2tn4 r2tc4 r2tn5 r2tc5 _ _ _ _ _ r2O4_5.out r2O5_5.out (by omega) (by omega) H4.out; (with_reducible refine rq.mono ?_); clear rq; rintro e r2u6 ⟨rfl, r2h6⟩; have r2O1_6 := Lib.hid (own_keep r2O1_5.out r2h6); have r2O2_6 := Lib.hid (own_keep r2O2_5.out r2h6); have r2O4_6 := Lib.hid (own_keep r2O4_5.out r2h6); have r2O5_6 := Lib.hid (own_keep r2O5_5.out r2h6); have r2w6 := r2w5.trans (r2h6.mono r2w5.size); clear r2h6; have r2c6_0_0 := (HXX_7.out.on r2w6).c 0 _ rfl; have r2c6_0_1 := (HXX_7.out.on r2w6).c 1 _ rfl; have r2c6_1_0 := (HXst_7.out.on r2w6).c 0 _ rfl; have r2c6_1_1 := (HXst_7.out.on r2w6).c 1 _ rfl)
        | (go_at_call 34; have rq := Check_V pa6 pb6 pn6 pc6 pm6 pd6 _ prs6 X _ (HSX_7.out.keep r2w6) HRX.out; (with_reducible refine rq.mono ?_); clear rq; rintro e r2u7 ⟨rfl, r2h7⟩; have r2O1_7 := Lib.hid (own_keep r2O1_6.out r2h7); have r2O2_7 := Lib.hid (own_keep r2O2_6.out r2h7); have r2O4_7 := Lib.hid (own_keep r2O4_6.out r2h7); have r2O5_7 := Lib.hid (own_keep r2O5_6.out r2h7); have r2w7 := r2w6.trans (r2h7.mono r2w6.size); clear r2h7; have r2c7_0_0 := (HXX_7.out.on r2w7).c 0 _ rfl; have r2c7_0_1 := (HXX_7.out.on r2w7).c 1 _ rfl; have r2c7_1_0 := (HXst_7.out.on r2w7).c 0 _ rfl; have r2c7_1_1 := (HXst_7.out.on r2w7).c 1 _ rfl)))
    have hb8 := r2w7.mono (Nat.le_refl _)
    have HB_8 := Lib.hid (HB_7.out.trans (hb8.mono HB_7.out.size))
    have HXst_8 := Lib.hid (HXst_7.out.on hb8)
    have HSst_8 := Lib.hid (HSst_7.out.keep hb8)
    have HO1_8 := Lib.hid (own_keep HO1_7.out hb8)
    have HXX_8 := Lib.hid (HXX_7.out.on hb8)
    have HSX_8 := Lib.hid (HSX_7.out.keep hb8)
    have HO2_8 := Lib.hid (own_keep HO2_7.out hb8)
    clear hb8 r2w0 r2w1 r2w2 r2w3 r2w4 r2w5 r2w6 r2w7
    go_wp2_with fail
    go_ret
    exact ⟨rfl, HB_8.out⟩

end Go.Proofs.Yteddendidjhmbaa
