/- The walk of pack.token. -/
import Derived.Test.YtkdcapjnoapjgaaDoorPkW3
namespace Go.Proofs.YtkdcapjnoapjgaaDoor
open Go.RowKit Go.Shelf

theorem KBoxed.frozen {W : World} {B : Nat} {T : TypeId} {t : Lz.Tk} (h : KBoxed W B T t) (j : Nat) : W.frozen? ⟨B, j, none⟩ = false := Lib.frozen_of_heap h j
theorem KBoxed.on {W W' : World} {B : Nat} {T : TypeId} {t : Lz.Tk} (h : KBoxed W B T t) (hb : Below W.heap.size W W') : KBoxed W' B T t := (hb.block B h.lt).trans h

/-- The three results, the first of them in cells. -/
theorem res_tok {fn : Func} {p q r : Tmp} (hr : fn.results = #[.cell p 56, .tmp q, .tmp r]) {tmps : Array Value} {W : World} {B : Nat} {d n b : Int} {v x : Value}
    (hp : tmps.getD p undef = .pointer (some ⟨B, 0, none⟩)) (hq : tmps.getD q undef = v) (hx : tmps.getD r undef = x)
    (h0 : W.cell? ⟨B, 0, none⟩ = some (.int .i64 d)) (h1 : W.cell? ⟨B, 1, none⟩ = some (.int .i64 n)) (h2 : W.cell? ⟨B, 2, none⟩ = some (.int .i64 b)) :
    (results fn tmps).run Tryd.prog W = .ok (.tuple #[.agg #[.int .i64 d, .int .i64 n, .int .i64 b], v, x]) W := by
  have hp' : tmps[p]?.getD undef = .pointer (some ⟨B, 0, none⟩) := by simpa using hp
  have hq' : tmps[q]?.getD undef = v := by simpa using hq
  have hx' : tmps[r]?.getD undef = x := by simpa using hx
  simp [results, hr, hp', hq', hx', go_sem, h0, h1, h2]

theorem set3_cells {W : World} {B : Nat} {T : TypeId} {t : Lz.Tk} (h : KBoxed W B T t) (x y z : Value) :
    (((W.setCell ⟨B, 0, none⟩ x).setCell ⟨B, 1, none⟩ y).setCell ⟨B, 2, none⟩ z).cell? ⟨B, 0, none⟩ = some x ∧
    (((W.setCell ⟨B, 0, none⟩ x).setCell ⟨B, 1, none⟩ y).setCell ⟨B, 2, none⟩ z).cell? ⟨B, 1, none⟩ = some y ∧
    (((W.setCell ⟨B, 0, none⟩ x).setCell ⟨B, 1, none⟩ y).setCell ⟨B, 2, none⟩ z).cell? ⟨B, 2, none⟩ = some z := by
  obtain ⟨c0, c1, c2⟩ := h.cells
  refine ⟨?_, ?_, ?_⟩
  · rw [World.cell?_setCell_other _ _ _ _ (by simp), World.cell?_setCell_other _ _ _ _ (by simp), World.cell?_setCell_same _ _ _ c0]
  · rw [World.cell?_setCell_other _ _ _ _ (by simp), World.cell?_setCell_same _ _ _ (by rw [World.cell?_setCell_other _ _ _ _ (by simp)]; exact c1)]
  · rw [World.cell?_setCell_same _ _ _ (by rw [World.cell?_setCell_other _ _ _ _ (by simp), World.cell?_setCell_other _ _ _ _ (by simp)]; exact c2)]

theorem below_set3 {W : World} {N B : Nat} {w : World} (hb : Below N w W) (hB : N ≤ B) (x y z : Value) : Below N w (((W.setCell ⟨B, 0, none⟩ x).setCell ⟨B, 1, none⟩ y).setCell ⟨B, 2, none⟩ z) :=
  ((hb.setCell (p := ⟨B, 0, none⟩) hB x).setCell (p := ⟨B, 1, none⟩) hB y).setCell (p := ⟨B, 2, none⟩) hB z

theorem extract_list (s : ByteArray) (a : Nat) : (s.extract a s.size).data.toList = s.data.toList.drop a := by
  have hl : s.data.toList.length = s.size := Array.length_toList ..
  rw [ext_data, List.take_of_length_le (by rw [List.length_drop, hl]; exact Nat.le_refl _)]
theorem extract_size (s : ByteArray) (a : Nat) (_ : a ≤ s.size) : (s.extract a s.size).size = s.size - a := by
  have hl : (s.extract a s.size).data.toList.length = (s.extract a s.size).size := Array.length_toList ..
  rw [← hl, extract_list, List.length_drop]
  have h2 : s.data.toList.length = s.size := Array.length_toList ..
  rw [h2]

set_option maxRecDepth 100000 in
set_option maxHeartbeats 4000000 in
theorem token_is (s : ByteArray) (c : Int) (t : Lz.Tk) (u : Nat) (w : World) (hs : s.size ≤ 100000000) (h0 : 1 ≤ s.size) (hb : Gr.bitsB s.data.toList = true) (h : Pk.tokR s.data.toList = (c, t, u)) :
    Calls Tryd.prog 35 #[.string s] w fun e w' => e = .returned (.tuple #[.agg #[.int .i64 t.d, .int .i64 t.n, .int .i64 t.b], .int .i64 u, .int .i64 c]) ∧ Below w.heap.size w w' := by
  have hl : s.data.toList.length = s.size := Array.length_toList ..
  have ix := idx_str Tryd.underlying9 (s := s) (x := 0) (k := 0) rfl h0
  have hbt : bt s.data.toList 0 = ((s.data.toList.headD 0).toNat : Int) := by
    unfold bt
    cases s.data.toList <;> rfl
  rw [hbt] at ix
  have hb0 := (s.data.toList.headD 0).toNat_lt
  have hkn := World.alloc_heap_new w (.cells #[.int .i64 0, .int .i64 0, .int .i64 0] 56)
  have hK0 : KBoxed (w.alloc (.cells #[.int .i64 0, .int .i64 0, .int .i64 0] 56)) w.heap.size 56 Pk.zt := hkn
  have HK0 := Lib.hid hK0
  have HB0 := Lib.hid ((Below.refl _ w).alloc (Nat.le_refl _) (.cells #[.int .i64 0, .int .i64 0, .int .i64 0] 56))
  clear hkn hK0
  unfold Pk.tokR at h
  by_cases h48 : s.data.toList.headD 0 = 48
  · rw [if_pos h48, hl] at h
    have e48 : ((s.data.toList.headD 0).toNat : Int) = 48 := by rw [h48]; rfl
    rw [e48] at ix
    clear e48 hb0 hbt
    by_cases h9 : s.size < 9
    · rw [if_pos h9] at h
      cases h
      obtain ⟨k0, k1, k2⟩ := HK0.out.cells
      go_enter Tryd.func35, Tryd.ntmps35
      go_wp2_with fail
      refine bodyPost_ret (res_tok (p := 2) (q := 3) (r := 4) (B := w.heap.size) rfl rfl rfl rfl k0 k1 k2) rfl ?_
      exact ⟨rfl, HB0.out⟩
    · rw [if_neg h9] at h
      cases h
      obtain ⟨v, hv⟩ : ∃ v, Gr.val ((s.data.toList.drop 1).take 8) = v := ⟨_, rfl⟩
      rw [hv]
      have HV := Lib.hid hv
      have HBB := Lib.hid hb
      have HLL := Lib.hid hl
      clear hv hb hl h48
      dsimp only
      go_enter Tryd.func35, Tryd.ntmps35
      go_wp2_with fail
      go_loopw [5, 6] (fun x i wr => ∃ j m : Nat, j ≤ 8 ∧ m ≤ 1000 ∧ i = .int .i64 ((j : Int) + 1) ∧ x = .int .i64 m ∧ Hid (Gr.val ((s.data.toList.drop 1).take j) = m) ∧ wr = w.alloc (.cells #[.int .i64 0, .int .i64 0, .int .i64 0] 56)) (fun _ i _ => 9 - (intOf i).toNat)
      case atStart => exact ⟨0, 0, Nat.zero_le _, Nat.zero_le _, rfl, rfl, Lib.hid rfl, rfl⟩
      case round =>
        obtain ⟨j, m, hj, hm, rfl, rfl, hM, rfl⟩ := hrel
        by_cases hj8 : j < 8
        · have ix2 := idx_str Tryd.underlying9 (s := s) (x := (j : Int) + 1) (k := 1 + j) (by omega) (by omega)
          have hk' : j < (s.data.toList.drop 1).length := by rw [List.length_drop, HLL.out]; omega
          have hbt2 : bt s.data.toList (1 + j) = (((s.data.toList.drop 1)[j]).toNat : Int) := by
            unfold bt; rw [List.getElem_drop, List.getD_eq_getElem?_getD, List.getElem?_eq_getElem (by rw [HLL.out]; omega)]; rfl
          have h48 := u8_less (s.data.toList.drop 1)[j] (Gr.bitsB_mem (Gr.bitsB_drop HBB.out 1) (List.getElem_mem hk'))
          have hvt := Gr.val_take hk'
          have hvl := Gr.val_lt (Gr.bitsB_take (Gr.bitsB_drop HBB.out 1) (j + 1))
          rw [hM.out] at hvt
          rw [hvt, List.length_take] at hvl
          have hp : 2 ^ (min (j + 1) (s.data.toList.drop 1).length) ≤ 2 ^ 8 := Nat.pow_le_pow_right (by decide) (by omega)
          have hp2 : (2 : Nat) ^ 8 = 256 := rfl
          have hyl := ((s.data.toList.drop 1)[j]).toNat_lt
          rw [hbt2] at ix2
          have HVT := Lib.hid hvt
          clear hvt hbt2
          generalize (s.data.toList.drop 1)[j] = b at *
          obtain ⟨d, hd⟩ : ∃ d, b.toNat - 48 = d := ⟨_, rfl⟩
          have hwr := h48.1
          have hd1 := h48.2
          rw [hd] at hwr hd1 HVT hvl
          have hvm : 2 * m + d ≤ 1000 := by omega
          clear hd h48 hp hp2 hvl hk'
          generalize b.toNat = bn at *
          go_wp2_with fail
          go_roundw
          case rel => exact ⟨j + 1, 2 * m + d, hj8, hvm, by go_num, by go_num, HVT, by first | rfl | trivial⟩
          case measure => simp [intOf]; omega
        · obtain rfl : j = 8 := by omega
          obtain rfl : m = v := by rw [← hM.out, ← HV.out]
          go_wp2_with fail
          refine bodyPost_ret (res_tok (p := 2) (q := 3) (r := 4) (B := w.heap.size) rfl rfl rfl rfl (cell_new w (k := 0) rfl) (cell_new w (k := 1) rfl) (cell_new w (k := 2) rfl)) rfl ?_
          exact ⟨by first | rfl | simp, (Below.refl _ _).alloc (Nat.le_refl _) _⟩
  · rw [if_neg h48] at h
    have e48 : (((s.data.toList.headD 0).toNat : Int) == 48) = false := by
      rw [beq_eq_false_iff_ne]
      intro he
      exact h48 (UInt8.toNat_inj.1 (by show _ = 48; omega))
    generalize (s.data.toList.headD 0).toNat = b0 at *
    obtain ⟨c1, v1, u1, hg1⟩ : ∃ c v u, Gr.readG (s.data.toList.drop 1) = (c, v, u) := ⟨_, _, _, rfl⟩
    rw [hg1] at h
    dsimp only at h
    have x1 := sl_fromG Tryd.underlying9 (s := s) (x := 1) (a := 1) rfl h0
    have xs1 := extract_size s 1 h0
    have R1 := fun w => ReadGamma_is (s.extract 1 s.size) c1 v1 u1 w (by rw [xs1]; omega) (by rw [extract_list]; exact hg1)
    clear h48 hbt
    by_cases hc1 : c1 = 0
    · subst hc1
      obtain ⟨-, hv1, hv2, hu1, ht1⟩ := Gr.readG_back hg1
      rw [List.length_drop, hl] at hu1
      rw [if_neg (by decide)] at h
      obtain ⟨c2, v2, u2, hg2⟩ : ∃ c v u, Gr.readG (s.data.toList.drop (1 + u1)) = (c, v, u) := ⟨_, _, _, rfl⟩
      rw [hg2] at h
      dsimp only at h
      have x2 := sl_fromG Tryd.underlying9 (s := s) (x := 1 + (u1 : Int)) (a := 1 + u1) (by omega) (by omega)
      have xs2 := extract_size s (1 + u1) (by omega)
      have R2 := fun w => ReadGamma_is (s.extract (1 + u1) s.size) c2 v2 u2 w (by rw [xs2]; omega) (by rw [extract_list]; exact hg2)
      generalize s.extract 1 s.size = X1 at *
      generalize s.extract (1 + u1) s.size = X2 at *
      by_cases hc2 : c2 = 0
      · subst hc2
        rw [if_neg (by decide)] at h
        cases h
        obtain ⟨-, hw1, hw2, hu2, ht2⟩ := Gr.readG_back hg2
        rw [List.length_drop, hl] at hu2
        clear hg1 hg2 ht1 ht2 hb hl xs1 xs2
        dsimp only
        go_enter Tryd.func35, Tryd.ntmps35
        go_wp2_with fail
        with_reducible refine (R1 _).mono ?_
        rintro e w1 ⟨rfl, hb1⟩
        have HK1 := Lib.hid (HK0.out.on hb1)
        have HB1 := Lib.hid (HB0.out.trans (hb1.mono HB0.out.size))
        clear R1 hb1 x1
        go_wp2_with fail
        with_reducible refine (R2 _).mono ?_
        rintro e w2 ⟨rfl, hb2⟩
        have hK2 := HK1.out.on hb2
        have HB2 := Lib.hid (HB1.out.trans (hb2.mono HB1.out.size))
        obtain ⟨k0, k1, k2⟩ := hK2.cells
        have f0 := hK2.frozen 0
        have f1 := hK2.frozen 1
        have f2 := hK2.frozen 2
        have HK2 := Lib.hid hK2
        clear R2 hb2 x2 hK2
        go_wp2_with fail
        have hs3 := set3_cells HK2.out
        refine bodyPost_ret (res_tok (p := 2) (q := 3) (r := 4) (B := w.heap.size) rfl rfl rfl rfl (hs3 _ _ _).1 (hs3 _ _ _).2.1 (hs3 _ _ _).2.2) rfl ?_
        exact ⟨by first | rfl | simp, below_set3 HB2.out (Nat.le_refl _) _ _ _⟩
      · rw [if_pos hc2] at h
        cases h
        have hcb : (c != 0) = true := bne_iff_ne.2 hc2
        clear hg1 hg2 ht1 hb hl xs1 xs2
        go_enter Tryd.func35, Tryd.ntmps35
        go_wp2_with fail
        with_reducible refine (R1 _).mono ?_
        rintro e w1 ⟨rfl, hb1⟩
        have HK1 := Lib.hid (HK0.out.on hb1)
        have HB1 := Lib.hid (HB0.out.trans (hb1.mono HB0.out.size))
        clear R1 hb1 x1
        go_wp2_with fail
        with_reducible refine (R2 _).mono ?_
        rintro e w2 ⟨rfl, hb2⟩
        have hK2 := HK1.out.on hb2
        have HB2 := Lib.hid (HB1.out.trans (hb2.mono HB1.out.size))
        obtain ⟨k0, k1, k2⟩ := hK2.cells
        have f0 := hK2.frozen 0
        have f1 := hK2.frozen 1
        have f2 := hK2.frozen 2
        have HK2 := Lib.hid hK2
        clear R2 hb2 x2 hK2
        go_wp2_with fail
        have hs3 := set3_cells HK2.out
        refine bodyPost_ret (res_tok (p := 2) (q := 3) (r := 4) (B := w.heap.size) rfl rfl rfl rfl (hs3 _ _ _).1 (hs3 _ _ _).2.1 (hs3 _ _ _).2.2) rfl ?_
        exact ⟨by first | rfl | simp, below_set3 HB2.out (Nat.le_refl _) _ _ _⟩
    · rw [if_pos hc1] at h
      cases h
      have hcb : (c != 0) = true := bne_iff_ne.2 hc1
      generalize s.extract 1 s.size = X1 at *
      clear hg1 hb hl xs1
      go_enter Tryd.func35, Tryd.ntmps35
      go_wp2_with fail
      with_reducible refine (R1 _).mono ?_
      rintro e w1 ⟨rfl, hb1⟩
      have hK1 := HK0.out.on hb1
      have HB1 := Lib.hid (HB0.out.trans (hb1.mono HB0.out.size))
      obtain ⟨k0, k1, k2⟩ := hK1.cells
      have f0 := hK1.frozen 0
      have f1 := hK1.frozen 1
      have f2 := hK1.frozen 2
      have HK1 := Lib.hid hK1
      clear R1 hb1 x1 hK1
      go_wp2_with fail
      have hs3 := set3_cells HK1.out
      refine bodyPost_ret (res_tok (p := 2) (q := 3) (r := 4) (B := w.heap.size) rfl rfl rfl rfl (hs3 _ _ _).1 (hs3 _ _ _).2.1 (hs3 _ _ _).2.2) rfl ?_
      exact ⟨by first | rfl | simp, below_set3 HB1.out (Nat.le_refl _) _ _ _⟩

end Go.Proofs.YtkdcapjnoapjgaaDoor
