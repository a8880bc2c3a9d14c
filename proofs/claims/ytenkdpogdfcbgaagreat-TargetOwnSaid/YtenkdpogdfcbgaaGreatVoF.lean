import Derived.Test.YtenkdpogdfcbgaaGreatVoE
/- The walk of vol.Trim. -/
namespace Go.Proofs.YtenkdpogdfcbgaaGreat
open Go.RowKit

theorem trim_result {tmps : Array Value} {W : World} {B : Nat} {v0 v1 e : Value} (h2 : tmps.getD 6 undef = .pointer (some ⟨B, 0, none⟩)) (h3 : tmps.getD 7 undef = e) (h : Bxs W B [v0, v1]) :
    (results Tryz.f58 tmps).run Tryz.prog W = .ok (.tuple #[.agg #[v0, v1], e]) W := by
  have c0 := h.c 0 _ rfl; have c1 := h.c 1 _ rfl
  have hq : tmps[6]?.getD undef = .pointer (some ⟨B, 0, none⟩) := by simpa using h2
  have hr : tmps[7]?.getD undef = e := by simpa using h3
  simp [results, Tryz.results58, hq, hr, go_sem, c0, c1]

/-- The two boxes that a deed makes first. -/
theorem deed_boxes (w : World) (a b : Option Addr) (n c m d : Nat) : ∃ w0, (w.alloc (.cells #[.slice a n c, .slice b m d] 33)).alloc (.cells #[.slice none 0 0, .slice none 0 0] 33) = w0 ∧ Below w.heap.size w w0 ∧ Bxs w0 w.heap.size [.slice a n c, .slice b m d] ∧ Bxs w0 (w.heap.size + 1) [.slice none 0 0, .slice none 0 0] := by
  refine ⟨_, rfl, ((Below.refl _ w).alloc (Nat.le_refl _) _).alloc (by rw [World.size_alloc]; omega) _, (bxs_new w 33 _ _ rfl).alloc _, ?_⟩
  have := bxs_new (w.alloc (.cells #[.slice a n c, .slice b m d] 33)) 33 #[.slice none 0 0, .slice none 0 0] _ rfl
  rw [World.size_alloc] at this
  exact this

theorem trimR_bad {s : Vo.St} {name : ByteArray} {k : Int} (h : Vo.placeE s name k ≠ 0) : Vo.trimR s name k = ⟨Vo.st0, Vo.placeE s name k⟩ := by unfold Vo.trimR; rw [if_pos h]
theorem trimR_ok {s : Vo.St} {name : ByteArray} {i j : Nat} (h : Vo.placeE s name (j : Int) = 0) (hf : Vo.fd s name = i) : Vo.trimR s name (j : Int) = ⟨Vo.hole s i j, 0⟩ := by
  unfold Vo.trimR
  rw [if_neg (fun h' => h' h), hf]
  rfl

set_option maxRecDepth 100000 in
set_option maxHeartbeats 4000000 in
theorem Trim_V (a b : Option Addr) (n c m d base : Nat) (rs : List Rw) (s : Vo.St) (name : ByteArray) (k : Int) (w : World) (hS : StW w base a n c b m d rs s) (hR : Vo.Right s) :
    Calls Tryz.prog 58 #[.agg #[.slice a n c, .slice b m d], .string name, .int .i64 k] w (StTo w (Vo.trimR s name k)) := by
  have hm : m ≤ 6 := by rw [← hS.vlen]; exact hR.len
  have hn : n ≤ 64 := by rw [← hS.len]; exact hR.bag.len
  obtain ⟨w0, hw0, hB, hX, hY⟩ := deed_boxes w a b n c m d
  have P1 := place_V a b n c m d base rs s name k _ (hS.keep hB) hR
  have HCP : Hid (∀ W, Below w.heap.size w W → Calls Tryz.prog 30 #[.agg #[.slice a n c, .slice b m d]] W (StMade W s)) := Lib.hid fun W hb => Copied_V a b n c m d base rs s W (hS.keep hb) (by omega) (by omega) fun v hv => by have := (hR.vol v hv).len; omega
  have HB := Lib.hid hB; have HX := Lib.hid hX; have HY := Lib.hid hY; have HR := Lib.hid hR
  have x0 := hX.c 0 _ rfl; have x1 := hX.c 1 _ rfl
  have hlx := hX.lt
  have hly := hY.lt
  have hmv : s.vols.length = m := hS.vlen
  have HMV := Lib.hid hmv
  clear hS hR hB hX hY hmv
  by_cases hp : Vo.placeE s name k = 0
  · obtain ⟨i, j, hi, hf, rfl, hj, hfd, hpi⟩ := place_ok hp
    rw [hpi, hp] at P1
    rw [trimR_ok hp hfd]
    have him : i < m := by rw [← HMV.out]; exact hi
    have hjl : s.vols[i].ids.length ≤ 32 := (HR.out.vol s.vols[i] (List.getElem_mem hi)).len
    have HID := Lib.hid (idAt_is hi hj)
    have HJ := Lib.hid hj
    have HI := Lib.hid hi
    obtain ⟨q, hq⟩ : ∃ q, s.vols[i].ids[j] = q := ⟨_, rfl⟩
    have HQ := Lib.hid hq
    clear hq
    obtain ⟨i1, i2, i3⟩ := q
    have HID2 : Hid (Vo.idAt s i j = ⟨i1, i2, i3⟩) := Lib.hid (HID.out.trans HQ.out)
    clear hp hpi hf hfd
    go_enter Tryz.func58, Tryz.ntmps58
    go_wp2_with fail
    with_reducible refine P1.mono ?_
    rintro e w1 ⟨rfl, hb1⟩
    have HB1 := Lib.hid (HB.out.trans (hb1.mono HB.out.size))
    have HX1 := Lib.hid (HX.out.on hb1); have HY1 := Lib.hid (HY.out.on hb1)
    clear x0 x1 hb1 P1
    have x0 := HX1.out.c 0 _ rfl; have x1 := HX1.out.c 1 _ rfl
    go_wp2_with fail
    with_reducible refine (HCP.out _ HB1.out).mono ?_
    rintro e w2 ⟨a4, n4, c4, b4, m4, d4, rs4, rfl, hs4, hb2⟩
    have hm4 : m4 = m := by rw [← hs4.vlen, HMV.out]
    subst hm4
    have HB2 := Lib.hid (HB1.out.trans (hb2.mono HB1.out.size))
    have HY2 := Lib.hid (HY1.out.on hb2)
    have hz1 := HY1.out.lt
    have hz2 := hb2.size
    have hir : i < rs4.length := by rw [hs4.rlen]; exact him
    obtain ⟨e1, e2, e3⟩ := hs4.vol i rs4[i] s.vols[i] (List.getElem?_eq_getElem hir) (List.getElem?_eq_getElem hi)
    have hjn : j < rs4[i].n := by rw [← e3]; exact hj
    have hn4 : rs4[i].n ≤ 32 := by rw [← e3]; exact hjl
    have HR4 : Hid (rs4[i]? = some rs4[i]) := Lib.hid (List.getElem?_eq_getElem hir)
    obtain ⟨g, rfl, hg, d0, d1⟩ := rv_at hs4.row hir
    obtain ⟨g2, hg2e, hg2, hg2b, q0, q1, q2⟩ := dv_at e2 hj
    have HF2 : Hid (∀ V : World, StW V w1.heap.size a4 n4 c4 (some ⟨g, 0, none⟩) m4 d4 rs4 s → ∀ o, V.frozen? ⟨g2, o, none⟩ = false) := Lib.hid fun V hV o => by
      obtain ⟨-, e2', -⟩ := hV.vol i rs4[i] s.vols[i] (List.getElem?_eq_getElem hir) (List.getElem?_eq_getElem hi)
      rw [hg2e] at e2'
      exact e2'.frozenAt o
    have HG2 := Lib.hid hg2e
    have HS4 := Lib.hid hs4
    have HG2N : Hid (∀ v ∈ sls a4 n4 c4 (some ⟨g, 0, none⟩) m4 d4 rs4, ∀ B, v.ownBlock = some B → w1.heap.size ≤ B ∧ B < w2.heap.size) := Lib.hid fun v hv B hB => hs4.lt v hv B hB
    rw [hg2e] at d1
    clear x0 x1 hb2 hs4 e1 e2 e3 hg2e
    replace q0 := q0.trans (congrArg (fun x : Bg.Id => some (Value.bool x.is)) HQ.out)
    replace q1 := q1.trans (congrArg (fun x : Bg.Id => some (Value.int .i64 x.sum)) HQ.out)
    replace q2 := q2.trans (congrArg (fun x : Bg.Id => some (Value.int .i64 x.n)) HQ.out)
    dsimp only at q0 q1 q2
    generalize rs4[i].name = f1 at *
    generalize rs4[i].n = f3 at *
    generalize rs4[i].c = f4 at *
    cases i1 with
    | false =>
      have HH : Hid (Vo.hole s i j = s) := Lib.hid (by unfold Vo.hole; rw [HID2.out]; rfl)
      have HY3 := Lib.hid (HY2.out.alloc (.cells #[.slice a4 n4 c4, .slice (some ⟨g, 0, none⟩) m4 d4] 33))
      have y0 := HY3.out.c 0 _ rfl; have y1 := HY3.out.c 1 _ rfl; have yf0 := HY3.out.z 0 (show 0 < 2 by decide); have yf1 := HY3.out.z 1 (show 1 < 2 by decide)
      go_wp2_with fail
      have s0 := HS4.out.keep ((Below.refl _ w2).alloc (Nat.le_refl _) (.cells #[.slice a4 n4 c4, .slice (some ⟨g, 0, none⟩) m4 d4] 33))
      have s1 := s0.other (B := w.heap.size + 1) (i := 0) (s0.off hz1) (.slice a4 n4 c4)
      have s2 := s1.other (B := w.heap.size + 1) (i := 1) (s1.off hz1) (.slice (some ⟨g, 0, none⟩) m4 d4)
      refine bodyPost_ret (trim_result (B := w.heap.size + 1) rfl rfl (HY3.out.set2 _ _)) rfl ?_
      rw [HH.out]
      exact ⟨_, _, _, _, _, _, _, rfl, s2.low (by omega), below_set2 (HB2.out.alloc HB2.out.size _) (by omega) _ _⟩
    | true =>
      have HH : Hid (Vo.hole s i j = ⟨(Bg.dropR Bg.Pr s.bag ⟨true, i2, i3⟩).1, Vo.setV s.vols i j Bg.noId⟩) := Lib.hid (by unfold Vo.hole Vo.unuse; rw [HID2.out]; rfl)
      have HBT : Hid (Below w2.heap.size w2 (w2.alloc (.cells #[.slice a4 n4 c4, .slice (some ⟨g, 0, none⟩) m4 d4] 33)).drew) := Lib.hid (((Below.refl _ w2).alloc (Nat.le_refl _) _).drew)
      have HT := Lib.hid ((bxs_new w2 33 #[.slice a4 n4 c4, .slice (some ⟨g, 0, none⟩) m4 d4] _ rfl).drew)
      have kq : ∀ {X : World}, Below w2.heap.size w2 X → X.cell? ⟨g2, j * 3, none⟩ = some (.bool true) ∧ X.cell? ⟨g2, j * 3 + 1, none⟩ = some (.int .i64 i2) ∧ X.cell? ⟨g2, j * 3 + 2, none⟩ = some (.int .i64 i3) := fun hb => ⟨(hb.cell (p := ⟨g2, j * 3, none⟩) hg2).trans q0, (hb.cell (p := ⟨g2, j * 3 + 1, none⟩) hg2).trans q1, (hb.cell (p := ⟨g2, j * 3 + 2, none⟩) hg2).trans q2⟩
      have HKQ : Hid (∀ (X : World), Below w2.heap.size w2 X → X.cell? ⟨g2, j * 3, none⟩ = some (.bool true) ∧ X.cell? ⟨g2, j * 3 + 1, none⟩ = some (.int .i64 i2) ∧ X.cell? ⟨g2, j * 3 + 2, none⟩ = some (.int .i64 i3)) := Lib.hid fun X hb => kq hb
      have DR := Drop_I a4 n4 c4 s.bag true i2 i3 (w2.alloc (.cells #[.slice a4 n4 c4, .slice (some ⟨g, 0, none⟩) m4 d4] 33)).drew ((HS4.out.keep HBT.out).isl) (good_small HR.out.bag)
      have hsV : (w2.alloc (.cells #[.slice a4 n4 c4, .slice (some ⟨g, 0, none⟩) m4 d4] 33)).drew.heap.size = w2.heap.size + 1 := World.size_alloc ..
      have HSV := Lib.hid hsV
      clear kq hsV
      generalize (Bg.dropR Bg.Pr s.bag ⟨true, i2, i3⟩).2 = E2 at *
      generalize (Bg.dropR Bg.Pr s.bag ⟨true, i2, i3⟩).1 = L2 at *
      go_wp2_with fail
      refine wp_region_noPanic ?_
      refine region_L (S := (fun X : World => X.cell? ⟨w2.heap.size, 0, none⟩ = some (.slice a4 n4 c4) ∧ X.cell? ⟨g2, j * 3, none⟩ = some (.bool true) ∧ X.cell? ⟨g2, j * 3 + 1, none⟩ = some (.int .i64 i2) ∧ X.cell? ⟨g2, j * 3 + 2, none⟩ = some (.int .i64 i3))) (E := [7, 8, 9, 10]) (by kernel_rfl) (⟨HT.out.c 0 _ rfl, HKQ.out _ HBT.out⟩) (fun hS => ?_)
      refine take_L (i := 0) (oi := _) (v := ?_) rfl (by kernel_rfl) (by kernel_rfl) (by kernel_rfl) (by kernel_rfl) (by kernel_rfl) (by kernel_rfl) (fun _ _ _ h => h) (Or.inl ⟨by rfl, ?_⟩) hS ?_
      rotate_left
      next => (rintro w' ⟨k0, k1, k2, k3⟩; go_simp; (try with_reducible rfl))
      (try simp only [Act.put, List.setIfInBounds_toArray])
      refine take_L (i := 1) (oi := _) (v := ?_) rfl (by kernel_rfl) (by kernel_rfl) (by kernel_rfl) (by kernel_rfl) (by kernel_rfl) (by kernel_rfl) (fun _ _ _ h => h) (Or.inl ⟨by rfl, ?_⟩) hS ?_
      rotate_left
      next => (rintro w' ⟨k0, k1, k2, k3⟩; go_simp; (try with_reducible rfl))
      (try simp only [Act.put])
      refine take_L (i := 2) (oi := _) (v := ?_) rfl (by kernel_rfl) (by kernel_rfl) (by kernel_rfl) (by kernel_rfl) (by kernel_rfl) (by kernel_rfl) (fun _ _ _ h => h) (Or.inl ⟨by rfl, ?_⟩) hS ?_
      rotate_left
      next => (rintro w' ⟨k0, k1, k2, k3⟩; go_simp; (try with_reducible rfl))
      (try simp only [Act.put])
      refine take_L (i := 3) (oi := _) (v := ?_) rfl (by kernel_rfl) (by kernel_rfl) (by kernel_rfl) (by kernel_rfl) (by kernel_rfl) (by kernel_rfl) (fun _ _ _ h => h) (Or.inl ⟨by rfl, ?_⟩) hS ?_
      rotate_left
      next => (rintro w' ⟨k0, k1, k2, k3⟩; go_simp; (try with_reducible rfl))
      (try simp only [Act.put])
      refine take_L (i := 4) (oi := _) (v := ?_) rfl (by kernel_rfl) (by kernel_rfl) (by kernel_rfl) (by kernel_rfl) (by kernel_rfl) (by kernel_rfl) (fun _ _ _ h => h) (Or.inl ⟨by rfl, ?_⟩) hS ?_
      rotate_left
      next => (rintro w' ⟨k0, k1, k2, k3⟩; go_simp; (try with_reducible rfl))
      (try simp only [Act.put])
      refine one_L (i := 5) (o := _) (by kernel_rfl) rfl (fun K hK => ?_)
      go_simp
      go_at_call 85
      with_reducible refine DR.mono ?_
      rintro e w5 ⟨a5, n5, c5, rfl, ho5, hl5, hb5⟩
      have HB5 : Hid (Below w2.heap.size w2 w5) := Lib.hid (HBT.out.trans (hb5.mono (by rw [HSV.out]; omega)))
      have HT5 := Lib.hid (HT.out.on hb5)
      have HO5 := Lib.hid ho5; have HL5 := Lib.hid hl5
      have hz5 := hb5.size
      rw [HSV.out] at hz5
      have HY5 := Lib.hid (HY2.out.on HB5.out)
      have HS5 := Lib.hid (HS4.out.keep HB5.out)
      obtain ⟨r0, r1, r2⟩ := HKQ.out _ HB5.out
      have fz0 := HF2.out _ HS5.out (j * 3); have fz1 := HF2.out _ HS5.out (j * 3 + 1); have fz2 := HF2.out _ HS5.out (j * 3 + 2)
      have t0 := HT5.out.c 0 _ rfl; have t1 := HT5.out.c 1 _ rfl; have tf := HT5.out.z 0 (show 0 < 2 by decide)
      clear hb5 ho5 hl5 q0 q1 q2 d0 d1
      refine hK.out _ _ (by exact ⟨t0, r0, r1, r2⟩) (fun hSn => ?_)
      clear hK K hS
      (try simp only [Act.put, List.setIfInBounds_toArray, List.set_cons_zero, List.set_cons_succ])
      have hS := hSn
      clear hSn
      refine take_L (i := 6) (oi := _) (v := ?_) rfl (by kernel_rfl) (by kernel_rfl) (by kernel_rfl) (by kernel_rfl) (by kernel_rfl) (by kernel_rfl) (fun _ _ _ h => h) (Or.inl ⟨by rfl, ?_⟩) hS ?_
      rotate_left
      next => (rintro w' ⟨k0, k1, k2, k3⟩; go_simp; (try with_reducible rfl))
      (try simp only [Act.put, List.setIfInBounds_toArray])
      refine take_P (i := 7) (oi := _) (v := ?_) rfl (by kernel_rfl) (by kernel_rfl) (by kernel_rfl) (by kernel_rfl) (fun _ _ _ h => h) (Or.inl ⟨by rfl, ?_⟩) ?_
      rotate_left
      next => (intro w' _; go_simp; (try with_reducible rfl))
      (try simp only [Act.put])
      refine take_P (i := 8) (oi := _) (v := ?_) rfl (by kernel_rfl) (by kernel_rfl) (by kernel_rfl) (by kernel_rfl) (fun _ _ _ h => h) (Or.inl ⟨by rfl, ?_⟩) ?_
      rotate_left
      next => (intro w' _; go_simp; (try with_reducible rfl))
      (try simp only [Act.put])
      refine take_P (i := 9) (oi := _) (v := ?_) rfl (by kernel_rfl) (by kernel_rfl) (by kernel_rfl) (by kernel_rfl) (fun _ _ _ h => h) (Or.inl ⟨by rfl, ?_⟩) ?_
      rotate_left
      next => (intro w' _; go_simp; (try with_reducible rfl))
      (try simp only [Act.put])
      refine oneE_L (i := 10) (o := _) (by kernel_rfl) rfl (by kernel_rfl) (fun K hK => ?_)
      clear hS
      go_simp
      refine hK.out _ _ ?_
      clear hK K
      (try simp only [Act.put, List.setIfInBounds_toArray, List.set_cons_zero, List.set_cons_succ])
      refine done_L (by kernel_rfl) ?_ _
      refine NoPanic.normal ?_
      have y0 := HY5.out.c 0 _ rfl; have y1 := HY5.out.c 1 _ rfl; have yf0 := HY5.out.z 0 (show 0 < 2 by decide); have yf1 := HY5.out.z 1 (show 1 < 2 by decide)
      have hgT : g2 ≠ w2.heap.size := by omega
      have hgY : g2 ≠ w.heap.size + 1 := by omega
      have hTY : w2.heap.size ≠ w.heap.size + 1 := by omega
      go_wp2_with fail
      have s1 := HS5.out.other (B := w2.heap.size) (i := 0) (fun v hv e => by have := (HG2N.out v hv _ e).2; omega) (.slice a5 n5 c5)
      have s2 := s1.setBag (own_other (own_low HO5.out (show w1.heap.size ≤ _ by rw [HSV.out]; omega)) (fun e => by have := row_base HO5.out _ e; rw [HSV.out] at this; omega) (.slice a5 n5 c5)) HL5.out (fun v hv B hB e => by
        have h1 := row_base HO5.out B hB
        rw [HSV.out] at h1
        have := (HG2N.out v (by unfold sls; exact List.mem_cons_of_mem _ hv) B e).2
        omega)
      have s3 := s2.setId (id := Bg.noId) HR4.out (List.getElem?_eq_getElem HI.out) HJ.out HG2.out
      have s4 := s3.other (B := w.heap.size + 1) (i := 0) (s3.off hz1) (.slice a5 n5 c5)
      have s5 := s4.other (B := w.heap.size + 1) (i := 1) (s4.off hz1) (.slice (some ⟨g, 0, none⟩) m4 d4)
      have HY6 := (((HY5.out.other (i := 0) hTY (.slice a5 n5 c5)).other (i := j * 3) hgY (.bool false)).other (i := j * 3 + 1) hgY (.int .i64 0)).other (i := j * 3 + 2) hgY (.int .i64 0)
      have HB6 := (((HB2.out.trans (HB5.out.mono HB2.out.size)).setCell (show w.heap.size ≤ w2.heap.size by omega) (p := ⟨w2.heap.size, 0, none⟩) (.slice a5 n5 c5)).setCell (p := ⟨g2, j * 3, none⟩) (show w.heap.size ≤ g2 by omega) (.bool false)).setCell (p := ⟨g2, j * 3 + 1, none⟩) (show w.heap.size ≤ g2 by omega) (.int .i64 0)
      have HB7 := HB6.setCell (p := ⟨g2, j * 3 + 2, none⟩) (show w.heap.size ≤ g2 by omega) (.int .i64 0)
      refine bodyPost_ret (trim_result (B := w.heap.size + 1) rfl rfl (HY6.set2 _ _)) rfl ?_
      rw [HH.out]
      exact ⟨_, _, _, _, _, _, _, rfl, s5.low (by omega), below_set2 HB7 (by omega) _ _⟩
  · rw [trimR_bad hp]
    have hb : ((Vo.placeE s name k : Int) != 0) = true := bne_iff_ne.2 (by omega)
    generalize Vo.placeE s name k = E at *
    generalize Vo.placeI s name k = I at *
    clear hp
    go_enter Tryz.func58, Tryz.ntmps58
    go_wp2_with fail
    with_reducible refine P1.mono ?_
    rintro e w1 ⟨rfl, hb1⟩
    have HB1 := Lib.hid (HB.out.trans (hb1.mono HB.out.size))
    have HY1 := Lib.hid (HY.out.on hb1)
    clear x0 x1 hb1 P1
    have y0 := HY1.out.c 0 _ rfl; have y1 := HY1.out.c 1 _ rfl; have yf0 := HY1.out.z 0 (show 0 < 2 by decide); have yf1 := HY1.out.z 1 (show 1 < 2 by decide)
    go_wp2_with fail
    refine bodyPost_ret (trim_result (B := w.heap.size + 1) rfl rfl (HY1.out.set2 _ _)) rfl ?_
    exact stTo_err (below_set2 HB1.out (by omega) _ _)

end Go.Proofs.YtenkdpogdfcbgaaGreat

/- The walk of vol.Write. -/
namespace Go.Proofs.YtenkdpogdfcbgaaGreat
open Go.RowKit

theorem write_result {tmps : Array Value} {W : World} {B : Nat} {v0 v1 e : Value} (h2 : tmps.getD 8 undef = .pointer (some ⟨B, 0, none⟩)) (h3 : tmps.getD 9 undef = e) (h : Bxs W B [v0, v1]) :
    (results Tryz.f57 tmps).run Tryz.prog W = .ok (.tuple #[.agg #[v0, v1], e]) W := by
  have c0 := h.c 0 _ rfl; have c1 := h.c 1 _ rfl
  have hq : tmps[8]?.getD undef = .pointer (some ⟨B, 0, none⟩) := by simpa using h2
  have hr : tmps[9]?.getD undef = e := by simpa using h3
  simp [results, Tryz.results57, hq, hr, go_sem, c0, c1]

theorem setV_len (vs : List Vo.Vl) (i k : Nat) (id : Bg.Id) : (Vo.setV vs i k id).length = vs.length := by
  unfold Vo.setV
  split
  · rw [List.length_set]
  · rfl
theorem setV_at {vs : List Vo.Vl} {i k : Nat} {id : Bg.Id} (hi : i < vs.length) : (Vo.setV vs i k id)[i]? = some ⟨vs[i].name, vs[i].ids.set k id⟩ := by
  unfold Vo.setV
  rw [List.getElem?_eq_getElem hi]
  exact List.getElem?_set_self hi
theorem setV_ne {vs : List Vo.Vl} {i k j : Nat} {id : Bg.Id} (hij : i ≠ j) : (Vo.setV vs i k id)[j]? = vs[j]? := by
  unfold Vo.setV
  split
  · exact List.getElem?_set_ne hij
  · rfl

theorem hole_len (s : Vo.St) (i j : Nat) : (Vo.hole s i j).vols.length = s.vols.length := by
  unfold Vo.hole
  split
  · exact setV_len _ _ _ _
  · rfl
theorem hole_at {s : Vo.St} {i j : Nat} (hi : i < s.vols.length) : ∃ v, (Vo.hole s i j).vols[i]? = some v ∧ v.name = s.vols[i].name ∧ v.ids.length = s.vols[i].ids.length := by
  unfold Vo.hole
  split
  · exact ⟨_, setV_at hi, rfl, List.length_set ..⟩
  · exact ⟨_, List.getElem?_eq_getElem hi, rfl, rfl⟩

theorem writeR_bad {s : Vo.St} {name t : ByteArray} {k : Int} (h : Vo.placeE s name k ≠ 0) : Vo.writeR s name k t = ⟨Vo.st0, Vo.placeE s name k⟩ := by unfold Vo.writeR; rw [if_pos h]
theorem writeR_full {s : Vo.St} {name t : ByteArray} {i j : Nat} (h : Vo.placeE s name (j : Int) = 0) (hf : Vo.fd s name = i) {R : Bg.PutA} (hR : Bg.putR Bg.Pr (Vo.hole s i j).bag t = R) (he : R.e ≠ 0) : Vo.writeR s name (j : Int) t = ⟨Vo.st0, R.e⟩ := by
  unfold Vo.writeR
  rw [if_neg (fun h' => h' h), hf]
  rw [show ((j : Int).toNat) = j from rfl, hR, if_pos he]
theorem writeR_ok {s : Vo.St} {name t : ByteArray} {i j : Nat} (h : Vo.placeE s name (j : Int) = 0) (hf : Vo.fd s name = i) {R : Bg.PutA} (hR : Bg.putR Bg.Pr (Vo.hole s i j).bag t = R) (he : R.e = 0) : Vo.writeR s name (j : Int) t = ⟨⟨R.l, Vo.setV (Vo.hole s i j).vols i j R.id⟩, 0⟩ := by
  unfold Vo.writeR
  rw [if_neg (fun h' => h' h), hf]
  rw [show ((j : Int).toNat) = j from rfl, hR, if_neg (fun h' => h' he)]

theorem unuse_small {l : List Bg.It} (h : ∀ t ∈ l, t.text.size ≤ maxLen) (id : Bg.Id) : ∀ t ∈ Vo.unuse l id, t.text.size ≤ maxLen := by
  unfold Vo.unuse
  split
  · unfold Bg.dropR
    split
    · intro t ht; cases ht
    · split
      · intro t ht; cases ht
      · rename_i i _
        intro t ht
        have ht' : t ∈ Bg.less l i := ht
        unfold Bg.less at ht'
        split at ht'
        · rename_i x hx
          split at ht'
          · rw [List.mem_append] at ht'
            rcases ht' with ht' | ht'
            · exact h t (List.mem_of_mem_take ht')
            · exact h t (List.mem_of_mem_drop ht')
          · rcases List.mem_or_eq_of_mem_set ht' with ht' | rfl
            · exact h t ht'
            · exact h x (List.mem_of_getElem? hx)
        · exact h t ht'
  · exact h

theorem hole_small {s : Vo.St} (h : ∀ t ∈ s.bag, t.text.size ≤ maxLen) (i j : Nat) : ∀ t ∈ (Vo.hole s i j).bag, t.text.size ≤ maxLen := by
  unfold Vo.hole
  split
  · exact unuse_small h _
  · exact h

set_option maxRecDepth 100000 in
set_option maxHeartbeats 4000000 in
theorem Write_V (a b : Option Addr) (n c m d base : Nat) (rs : List Rw) (s : Vo.St) (name t : ByteArray) (k : Int) (w : World) (hS : StW w base a n c b m d rs s) (hR : Vo.Right s) (ht : t.size ≤ maxLen) :
    Calls Tryz.prog 57 #[.agg #[.slice a n c, .slice b m d], .string name, .int .i64 k, .string t] w (StTo w (Vo.writeR s name k t)) := by
  have hm : m ≤ 6 := by rw [← hS.vlen]; exact hR.len
  obtain ⟨w0, hw0, hB, hX, hY⟩ := deed_boxes w a b n c m d
  have P1 := place_V a b n c m d base rs s name k _ (hS.keep hB) hR
  have HTR : Hid (∀ W, Below w.heap.size w W → Calls Tryz.prog 58 #[.agg #[.slice a n c, .slice b m d], .string name, .int .i64 k] W (StTo W (Vo.trimR s name k))) := Lib.hid fun W hb => Trim_V a b n c m d base rs s name k W (hS.keep hb) hR
  have HSM := Lib.hid (good_small hR.bag)
  have HB := Lib.hid hB; have HX := Lib.hid hX; have HY := Lib.hid hY; have HR := Lib.hid hR
  have x0 := hX.c 0 _ rfl; have x1 := hX.c 1 _ rfl
  have hlx := hX.lt
  have hly := hY.lt
  have hmv : s.vols.length = m := hS.vlen
  have HMV := Lib.hid hmv
  clear hS hR hB hX hY hmv
  by_cases hp : Vo.placeE s name k = 0
  · obtain ⟨i, j, hi, hf, rfl, hj, hfd, hpi⟩ := place_ok hp
    rw [hpi, hp] at P1
    rw [trimR_ok hp hfd] at HTR
    have him : i < m := by rw [← HMV.out]; exact hi
    have hjl : s.vols[i].ids.length ≤ 32 := (HR.out.vol s.vols[i] (List.getElem_mem hi)).len
    obtain ⟨R, hRR⟩ : ∃ R, Bg.putR Bg.Pr (Vo.hole s i j).bag t = R := ⟨_, rfl⟩
    have HWF := Lib.hid (fun he => writeR_full hp hfd hRR he)
    have HWO := Lib.hid (fun he => writeR_ok hp hfd hRR he)
    have HPR := Lib.hid hRR
    have HHL := Lib.hid (hole_len s i j)
    obtain ⟨hv, hv1, hv2, hv3⟩ := hole_at (j := j) hi
    have HV1 := Lib.hid hv1
    have hjv : j < hv.ids.length := by rw [hv3]; exact hj
    have hvl : hv.ids.length ≤ 32 := by rw [hv3]; exact hjl
    have HSH := Lib.hid (hole_small HSM.out i j)
    obtain ⟨RR, hRq⟩ : ∃ RR, Vo.writeR s name (j : Int) t = RR := ⟨_, rfl⟩
    rw [hRq] at HWF HWO ⊢
    clear hp hpi hf hfd hRR hRq hv1 hv2 hv3 hj hjl HSM
    generalize Vo.hole s i j = H at *
    obtain ⟨Rl, Rid, Re⟩ := R
    obtain ⟨Ri1, Ri2, Ri3⟩ := Rid
    dsimp only at HWF HWO
    go_enter Tryz.func57, Tryz.ntmps57
    go_wp2_with fail
    with_reducible refine P1.mono ?_
    rintro e w1 ⟨rfl, hb1⟩
    have HB1 := Lib.hid (HB.out.trans (hb1.mono HB.out.size))
    have HX1 := Lib.hid (HX.out.on hb1); have HY1 := Lib.hid (HY.out.on hb1)
    clear x0 x1 hb1 P1
    have x0 := HX1.out.c 0 _ rfl; have x1 := HX1.out.c 1 _ rfl
    go_wp2_with fail
    with_reducible refine (HTR.out _ HB1.out).mono ?_
    rintro e w2 ⟨a4, n4, c4, b4, m4, d4, rs4, rfl, hs4, hb2⟩
    dsimp only at hs4
    have hm4 : m4 = m := by rw [← hs4.vlen, HHL.out, HMV.out]
    subst hm4
    have HB2 := Lib.hid (HB1.out.trans (hb2.mono HB1.out.size))
    have HY2 := Lib.hid (HY1.out.on hb2)
    have hz1 := HY1.out.lt
    have hz2 := hb2.size
    have hir : i < rs4.length := by rw [hs4.rlen]; exact him
    have hih : i < H.vols.length := by rw [hs4.vlen]; exact him
    obtain ⟨e1, e2, e3⟩ := hs4.vol i rs4[i] hv (List.getElem?_eq_getElem hir) HV1.out
    have hjn : j < rs4[i].n := by rw [← e3]; exact hjv
    have hn4 : rs4[i].n ≤ 32 := by rw [← e3]; exact hvl
    have HR4 : Hid (rs4[i]? = some rs4[i]) := Lib.hid (List.getElem?_eq_getElem hir)
    obtain ⟨g, rfl, hg, d0, d1⟩ := rv_at hs4.row hir
    obtain ⟨g2, hg2e, hg2, hg2b, q0, q1, q2⟩ := dv_at e2 hjv
    have HF2 : Hid (∀ V : World, StW V w1.heap.size a4 n4 c4 (some ⟨g, 0, none⟩) m4 d4 rs4 H → (∀ o, V.frozen? ⟨g2, o, none⟩ = false) ∧ (∃ u, V.cell? ⟨g2, j * 3, none⟩ = some u) ∧ (∃ u, V.cell? ⟨g2, j * 3 + 1, none⟩ = some u) ∧ (∃ u, V.cell? ⟨g2, j * 3 + 2, none⟩ = some u)) := Lib.hid fun V hV => by
      obtain ⟨-, e2', -⟩ := hV.vol i rs4[i] hv (List.getElem?_eq_getElem hir) HV1.out
      obtain ⟨g3, hg3e, -, -, r0, r1, r2⟩ := dv_at e2' hjv
      rw [hg2e] at hg3e e2'
      cases hg3e
      exact ⟨fun o => e2'.frozenAt o, ⟨_, r0⟩, ⟨_, r1⟩, ⟨_, r2⟩⟩
    have HG2 := Lib.hid hg2e
    have HS4 := Lib.hid hs4
    have HG2N : Hid (∀ v ∈ sls a4 n4 c4 (some ⟨g, 0, none⟩) m4 d4 rs4, ∀ B, v.ownBlock = some B → w1.heap.size ≤ B ∧ B < w2.heap.size) := Lib.hid fun v hv B hB => hs4.lt v hv B hB
    rw [hg2e] at d1
    have HJV := Lib.hid hjv
    have PU : ∀ W, Below w2.heap.size w2 W → Calls Tryz.prog 87 #[.slice a4 n4 c4, .string t] W (PutTo W (Bg.putR Bg.Pr H.bag t)) := fun W hb => Put_I a4 n4 c4 H.bag t W ((hs4.keep hb).isl) HSH.out ht
    rw [HPR.out] at PU
    have HPU := Lib.hid PU
    clear x0 x1 hb2 hs4 e1 e2 e3 hg2e hjv hvl q0 q1 q2 PU HTR
    have HD0 := Lib.hid d0; have HD1 := Lib.hid d1
    clear d0 d1
    generalize rs4[i].name = f1 at *
    generalize rs4[i].n = f3 at *
    generalize rs4[i].c = f4 at *
    go_wp2_with fail
    with_reducible refine (HPU.out _ ((Below.refl _ w2).alloc (Nat.le_refl _) _)).mono ?_
    rintro e w3 ⟨a5, n5, c5, rfl, ho5, hl5, hb5⟩
    have HBT : Hid (Below w2.heap.size w2 w3) := Lib.hid (((Below.refl _ w2).alloc (Nat.le_refl _) _).trans (hb5.mono (by rw [World.size_alloc]; omega)))
    have hz5 := hb5.size
    rw [World.size_alloc] at hz5
    have HT5 := Lib.hid ((bxs_new w2 33 #[.slice a4 n4 c4, .slice (some ⟨g, 0, none⟩) m4 d4] _ rfl).on hb5)
    have HO5 := Lib.hid (show w3.ownsRow (w2.heap.size + 1) 75 4 (.slice a5 n5 c5) n5 (tv Rl) by rw [← World.size_alloc w2 (.cells #[.slice a4 n4 c4, .slice (some ⟨g, 0, none⟩) m4 d4] 33)]; exact ho5)
    have HL5 := Lib.hid hl5
    have HY5 := Lib.hid (HY2.out.on HBT.out)
    clear hb5 ho5 hl5 HPU
    by_cases hRe : Re = 0
    · obtain rfl := (HWO.out hRe)
      subst hRe
      have HVB : Hid (Below w2.heap.size w2 (w3.alloc (.cells #[.bool Ri1, .int .i64 Ri2, .int .i64 Ri3] 81)).drew) := Lib.hid ((HBT.out.alloc HBT.out.size _).drew)
      have HT6 := Lib.hid ((HT5.out.alloc (.cells #[.bool Ri1, .int .i64 Ri2, .int .i64 Ri3] 81)).drew)
      have HI6 := Lib.hid ((bxs_new w3 81 #[.bool Ri1, .int .i64 Ri2, .int .i64 Ri3] _ rfl).drew)
      have HY6 := Lib.hid ((HY5.out.alloc (.cells #[.bool Ri1, .int .i64 Ri2, .int .i64 Ri3] 81)).drew)
      have HS6 := Lib.hid (HS4.out.keep HVB.out)
      have kd1 : (w3.alloc (.cells #[.bool Ri1, .int .i64 Ri2, .int .i64 Ri3] 81)).drew.cell? ⟨g, i * 2 + 1, none⟩ = some (.slice (some ⟨g2, 0, none⟩) f3 f4) := (HVB.out.cell (p := ⟨g, i * 2 + 1, none⟩) hg).trans HD1.out
      have HK1 := Lib.hid kd1
      have hgT : g ≠ w2.heap.size := by omega
      have hg2T : g2 ≠ w2.heap.size := by omega
      have hITn : w2.heap.size ≠ w3.heap.size := by omega
      have hwV : (w3.alloc (.cells #[.bool Ri1, .int .i64 Ri2, .int .i64 Ri3] 81)).drew.heap.size = w3.heap.size + 1 := World.size_alloc ..
      clear kd1
      go_wp2_with fail
      refine wp_region_noPanic ?_
      refine region_L (S := (fun X : World => X.cell? ⟨w2.heap.size, 1, none⟩ = some (.slice (some ⟨g, 0, none⟩) m4 d4) ∧ X.cell? ⟨g, i * 2 + 1, none⟩ = some (.slice (some ⟨g2, 0, none⟩) f3 f4) ∧ X.cell? ⟨w3.heap.size, 0, none⟩ = some (.bool Ri1) ∧ X.cell? ⟨w3.heap.size, 1, none⟩ = some (.int .i64 Ri2) ∧ X.cell? ⟨w3.heap.size, 2, none⟩ = some (.int .i64 Ri3))) (E := [12]) (by kernel_rfl) (⟨HT6.out.c 1 _ rfl, HK1.out, HI6.out.c 0 _ rfl, HI6.out.c 1 _ rfl, HI6.out.c 2 _ rfl⟩) (fun hS => ?_)
      refine take_L (i := 0) (oi := _) (v := ?_) rfl (by kernel_rfl) (by kernel_rfl) (by kernel_rfl) (by kernel_rfl) (by kernel_rfl) (by kernel_rfl) (fun _ _ _ h => h) (Or.inl ⟨by rfl, ?_⟩) hS ?_
      rotate_left
      next => (rintro w' ⟨k0, k1, k2, k3, k4⟩; go_simp; (try with_reducible rfl))
      (try simp only [Act.put, List.setIfInBounds_toArray])
      refine take_L (i := 1) (oi := _) (v := ?_) rfl (by kernel_rfl) (by kernel_rfl) (by kernel_rfl) (by kernel_rfl) (by kernel_rfl) (by kernel_rfl) (fun _ _ _ h => h) (Or.inl ⟨by rfl, ?_⟩) hS ?_
      rotate_left
      next => (rintro w' ⟨k0, k1, k2, k3, k4⟩; go_simp; (try with_reducible rfl))
      (try simp only [Act.put])
      refine take_L (i := 2) (oi := _) (v := ?_) rfl (by kernel_rfl) (by kernel_rfl) (by kernel_rfl) (by kernel_rfl) (by kernel_rfl) (by kernel_rfl) (fun _ _ _ h => h) (Or.inl ⟨by rfl, ?_⟩) hS ?_
      rotate_left
      next => (rintro w' ⟨k0, k1, k2, k3, k4⟩; go_simp; (try with_reducible rfl))
      (try simp only [Act.put])
      refine take_L (i := 3) (oi := _) (v := ?_) rfl (by kernel_rfl) (by kernel_rfl) (by kernel_rfl) (by kernel_rfl) (by kernel_rfl) (by kernel_rfl) (fun _ _ _ h => h) (Or.inl ⟨by rfl, ?_⟩) hS ?_
      rotate_left
      next => (rintro w' ⟨k0, k1, k2, k3, k4⟩; go_simp; (try with_reducible rfl))
      (try simp only [Act.put])
      refine take_L (i := 4) (oi := _) (v := ?_) rfl (by kernel_rfl) (by kernel_rfl) (by kernel_rfl) (by kernel_rfl) (by kernel_rfl) (by kernel_rfl) (fun _ _ _ h => h) (Or.inl ⟨by rfl, ?_⟩) hS ?_
      rotate_left
      next => (rintro w' ⟨k0, k1, k2, k3, k4⟩; go_simp; (try with_reducible rfl))
      (try simp only [Act.put])
      refine take_L (i := 5) (oi := _) (v := ?_) rfl (by kernel_rfl) (by kernel_rfl) (by kernel_rfl) (by kernel_rfl) (by kernel_rfl) (by kernel_rfl) (fun _ _ _ h => h) (Or.inl ⟨by rfl, ?_⟩) hS ?_
      rotate_left
      next => (rintro w' ⟨k0, k1, k2, k3, k4⟩; go_simp; (try with_reducible rfl))
      (try simp only [Act.put])
      refine take_L (i := 6) (oi := _) (v := ?_) rfl (by kernel_rfl) (by kernel_rfl) (by kernel_rfl) (by kernel_rfl) (by kernel_rfl) (by kernel_rfl) (fun _ _ _ h => h) (Or.inl ⟨by rfl, ?_⟩) hS ?_
      rotate_left
      next => (rintro w' ⟨k0, k1, k2, k3, k4⟩; go_simp; (try with_reducible rfl))
      (try simp only [Act.put])
      refine take_L (i := 7) (oi := _) (v := ?_) rfl (by kernel_rfl) (by kernel_rfl) (by kernel_rfl) (by kernel_rfl) (by kernel_rfl) (by kernel_rfl) (fun _ _ _ h => h) (Or.inl ⟨by rfl, ?_⟩) hS ?_
      rotate_left
      next => (rintro w' ⟨k0, k1, k2, k3, k4⟩; go_simp; (try with_reducible rfl))
      (try simp only [Act.put])
      refine take_L (i := 8) (oi := _) (v := ?_) rfl (by kernel_rfl) (by kernel_rfl) (by kernel_rfl) (by kernel_rfl) (by kernel_rfl) (by kernel_rfl) (fun _ _ _ h => h) (Or.inl ⟨by rfl, ?_⟩) hS ?_
      rotate_left
      next => (rintro w' ⟨k0, k1, k2, k3, k4⟩; go_simp; (try with_reducible rfl))
      (try simp only [Act.put])
      refine take_L (i := 9) (oi := _) (v := ?_) rfl (by kernel_rfl) (by kernel_rfl) (by kernel_rfl) (by kernel_rfl) (by kernel_rfl) (by kernel_rfl) (fun _ _ _ h => h) (Or.inl ⟨by rfl, ?_⟩) hS ?_
      rotate_left
      next => (rintro w' ⟨k0, k1, k2, k3, k4⟩; go_simp; (try with_reducible rfl))
      (try simp only [Act.put])
      have t0 := HT6.out.c 0 _ rfl; have tf := HT6.out.z 0 (show 0 < 2 by decide)
      refine one_L (i := 10) (o := _) (by kernel_rfl) rfl (fun K hK => ?_)
      go_simp
      refine hK.out _ _ (by exact ⟨(HT6.out.set 0 (show 0 < 2 by decide) (.slice a5 n5 c5) rfl).c 1 _ rfl, (World.cell?_setCell_other _ _ _ _ (by simp only [ne_eq, Addr.mk.injEq, not_and]; omega)).trans HK1.out, (HI6.out.other (i := 0) hITn (.slice a5 n5 c5)).c 0 _ rfl, (HI6.out.other (i := 0) hITn (.slice a5 n5 c5)).c 1 _ rfl, (HI6.out.other (i := 0) hITn (.slice a5 n5 c5)).c 2 _ rfl⟩) (fun hSn => ?_)
      clear hK K hS
      (try simp only [Act.put, List.setIfInBounds_toArray, List.set_cons_zero, List.set_cons_succ])
      have hS := hSn
      clear hSn
      refine take_L (i := 11) (oi := _) (v := ?_) rfl (by kernel_rfl) (by kernel_rfl) (by kernel_rfl) (by kernel_rfl) (by kernel_rfl) (by kernel_rfl) (fun _ _ _ h => h) (Or.inl ⟨by rfl, ?_⟩) hS ?_
      rotate_left
      next => (rintro w' ⟨k0, k1, k2, k3, k4⟩; go_simp; (try with_reducible rfl))
      (try simp only [Act.put, List.setIfInBounds_toArray])
      obtain ⟨fz, ⟨u0, r0⟩, ⟨u1, r1⟩, ⟨u2, r2⟩⟩ := HF2.out _ (HS4.out.keep HBT.out)
      have hg23 : g2 < w3.heap.size := by omega
      have fz0 := fz (j * 3); have fz1 := fz (j * 3 + 1); have fz2 := fz (j * 3 + 2)
      clear fz
      refine oneE_L (i := 12) (o := _) (by kernel_rfl) rfl (by kernel_rfl) (fun K hK => ?_)
      clear hS
      go_simp
      refine hK.out _ _ ?_
      clear hK K
      (try simp only [Act.put, List.setIfInBounds_toArray, List.set_cons_zero, List.set_cons_succ])
      refine done_L (by kernel_rfl) ?_ _
      refine NoPanic.normal ?_
      have hgY : g2 ≠ w.heap.size + 1 := by omega
      have hTY : w2.heap.size ≠ w.heap.size + 1 := by omega
      have HFIN : Hid (Bxs (((((w3.alloc (.cells #[.bool Ri1, .int .i64 Ri2, .int .i64 Ri3] 81)).setCell ⟨w2.heap.size, 0, none⟩ (.slice a5 n5 c5)).setCell ⟨g2, j * 3, none⟩ (.bool Ri1)).setCell ⟨g2, j * 3 + 1, none⟩ (.int .i64 Ri2)).setCell ⟨g2, j * 3 + 2, none⟩ (.int .i64 Ri3)).drew w2.heap.size [.slice a5 n5 c5, .slice (some ⟨g, 0, none⟩) m4 d4] ∧ Bxs (((((w3.alloc (.cells #[.bool Ri1, .int .i64 Ri2, .int .i64 Ri3] 81)).setCell ⟨w2.heap.size, 0, none⟩ (.slice a5 n5 c5)).setCell ⟨g2, j * 3, none⟩ (.bool Ri1)).setCell ⟨g2, j * 3 + 1, none⟩ (.int .i64 Ri2)).setCell ⟨g2, j * 3 + 2, none⟩ (.int .i64 Ri3)).drew (w.heap.size + 1) [.slice none 0 0, .slice none 0 0] ∧ StW (((((w3.alloc (.cells #[.bool Ri1, .int .i64 Ri2, .int .i64 Ri3] 81)).setCell ⟨w2.heap.size, 0, none⟩ (.slice a5 n5 c5)).setCell ⟨g2, j * 3, none⟩ (.bool Ri1)).setCell ⟨g2, j * 3 + 1, none⟩ (.int .i64 Ri2)).setCell ⟨g2, j * 3 + 2, none⟩ (.int .i64 Ri3)).drew w1.heap.size a5 n5 c5 (some ⟨g, 0, none⟩) m4 d4 rs4 ⟨Rl, Vo.setV H.vols i j ⟨Ri1, Ri2, Ri3⟩⟩ ∧ Below w.heap.size w (((((w3.alloc (.cells #[.bool Ri1, .int .i64 Ri2, .int .i64 Ri3] 81)).setCell ⟨w2.heap.size, 0, none⟩ (.slice a5 n5 c5)).setCell ⟨g2, j * 3, none⟩ (.bool Ri1)).setCell ⟨g2, j * 3 + 1, none⟩ (.int .i64 Ri2)).setCell ⟨g2, j * 3 + 2, none⟩ (.int .i64 Ri3)).drew) := Lib.hid (by
        have hal : Below w2.heap.size w2 (w3.alloc (.cells #[.bool Ri1, .int .i64 Ri2, .int .i64 Ri3] 81)) := HBT.out.alloc HBT.out.size _
        have s1 := (HS4.out.keep hal).other (B := w2.heap.size) (i := 0) (fun v hv e => by have := (HG2N.out v hv _ e).2; omega) (.slice a5 n5 c5)
        have s2 := s1.setBag (own_other (own_low (HO5.out.alloc (.cells #[.bool Ri1, .int .i64 Ri2, .int .i64 Ri3] 81)) (show w1.heap.size ≤ _ by omega)) (fun e => by have := row_base HO5.out _ e; omega) (.slice a5 n5 c5)) HL5.out (fun v hv B hB e => by
          have h1 := row_base HO5.out B hB
          have := (HG2N.out v (by unfold sls; exact List.mem_cons_of_mem _ hv) B e).2
          omega)
        have s3 := s2.setId (id := ⟨Ri1, Ri2, Ri3⟩) HR4.out HV1.out HJV.out HG2.out
        have b1 := (((HB2.out.trans (hal.mono HB2.out.size)).setCell (show w.heap.size ≤ w2.heap.size by omega) (p := ⟨w2.heap.size, 0, none⟩) (.slice a5 n5 c5)).setCell (p := ⟨g2, j * 3, none⟩) (show w.heap.size ≤ g2 by omega) (.bool Ri1)).setCell (p := ⟨g2, j * 3 + 1, none⟩) (show w.heap.size ≤ g2 by omega) (.int .i64 Ri2)
        exact ⟨(((((HT5.out.alloc (.cells #[.bool Ri1, .int .i64 Ri2, .int .i64 Ri3] 81)).set 0 (show 0 < 2 by decide) (.slice a5 n5 c5) rfl).other (i := j * 3) hg2T (.bool Ri1)).other (i := j * 3 + 1) hg2T (.int .i64 Ri2)).other (i := j * 3 + 2) hg2T (.int .i64 Ri3)).drew,
          (((((HY5.out.alloc (.cells #[.bool Ri1, .int .i64 Ri2, .int .i64 Ri3] 81)).other (i := 0) hTY (.slice a5 n5 c5)).other (i := j * 3) hgY (.bool Ri1)).other (i := j * 3 + 1) hgY (.int .i64 Ri2)).other (i := j * 3 + 2) hgY (.int .i64 Ri3)).drew,
          s3.keep (Below.refl _ _).drew, (b1.setCell (p := ⟨g2, j * 3 + 2, none⟩) (show w.heap.size ≤ g2 by omega) (.int .i64 Ri3)).drew⟩)
      clear r0 r1 r2 fz0 fz1 fz2 t0 tf
      obtain ⟨W, hW⟩ : ∃ W, (((((w3.alloc (.cells #[.bool Ri1, .int .i64 Ri2, .int .i64 Ri3] 81)).setCell ⟨w2.heap.size, 0, none⟩ (.slice a5 n5 c5)).setCell ⟨g2, j * 3, none⟩ (.bool Ri1)).setCell ⟨g2, j * 3 + 1, none⟩ (.int .i64 Ri2)).setCell ⟨g2, j * 3 + 2, none⟩ (.int .i64 Ri3)).drew = W := ⟨_, rfl⟩
      rw [hW] at HFIN
      obtain ⟨HT7, HY7, HS7, HB7⟩ := HFIN.out
      have HT7 := Lib.hid HT7; have HY7 := Lib.hid HY7; have HS7 := Lib.hid HS7; have HB7 := Lib.hid HB7
      have t0 := HT7.out.c 0 _ rfl; have t1 := HT7.out.c 1 _ rfl
      have y0 := HY7.out.c 0 _ rfl; have y1 := HY7.out.c 1 _ rfl; have yf0 := HY7.out.z 0 (show 0 < 2 by decide); have yf1 := HY7.out.z 1 (show 1 < 2 by decide)
      go_wp2_with fail
      have s4 := HS7.out.other (B := w.heap.size + 1) (i := 0) (HS7.out.off hz1) (.slice a5 n5 c5)
      have s5 := s4.other (B := w.heap.size + 1) (i := 1) (s4.off hz1) (.slice (some ⟨g, 0, none⟩) m4 d4)
      refine bodyPost_ret (write_result (B := w.heap.size + 1) rfl rfl (HY7.out.set2 _ _)) rfl ?_
      exact ⟨_, _, _, _, _, _, _, rfl, s5.low (by omega), below_set2 HB7.out (by omega) _ _⟩
    · have hb : ((Re : Int) != 0) = true := bne_iff_ne.2 (by omega)
      obtain rfl := HWF.out hRe
      have HY6 := Lib.hid (HY5.out.alloc (.cells #[.bool Ri1, .int .i64 Ri2, .int .i64 Ri3] 81))
      have HB6 := Lib.hid ((HB2.out.trans (HBT.out.mono HB2.out.size)).alloc (by have := HBT.out.size; omega) (.cells #[.bool Ri1, .int .i64 Ri2, .int .i64 Ri3] 81))
      have y0 := HY6.out.c 0 _ rfl; have y1 := HY6.out.c 1 _ rfl; have yf0 := HY6.out.z 0 (show 0 < 2 by decide); have yf1 := HY6.out.z 1 (show 1 < 2 by decide)
      clear hRe
      go_wp2_with fail
      refine bodyPost_ret (write_result (B := w.heap.size + 1) rfl rfl (HY6.out.set2 _ _)) rfl ?_
      exact stTo_err (below_set2 HB6.out (by omega) _ _)
  · rw [writeR_bad hp]
    have hb : ((Vo.placeE s name k : Int) != 0) = true := bne_iff_ne.2 (by omega)
    generalize Vo.placeE s name k = E at *
    generalize Vo.placeI s name k = I at *
    clear hp
    go_enter Tryz.func57, Tryz.ntmps57
    go_wp2_with fail
    with_reducible refine P1.mono ?_
    rintro e w1 ⟨rfl, hb1⟩
    have HB1 := Lib.hid (HB.out.trans (hb1.mono HB.out.size))
    have HY1 := Lib.hid (HY.out.on hb1)
    clear x0 x1 hb1 P1
    have y0 := HY1.out.c 0 _ rfl; have y1 := HY1.out.c 1 _ rfl; have yf0 := HY1.out.z 0 (show 0 < 2 by decide); have yf1 := HY1.out.z 1 (show 1 < 2 by decide)
    go_wp2_with fail
    refine bodyPost_ret (write_result (B := w.heap.size + 1) rfl rfl (HY1.out.set2 _ _)) rfl ?_
    exact stTo_err (below_set2 HB1.out (by omega) _ _)

end Go.Proofs.YtenkdpogdfcbgaaGreat
