/- The walk of resv.Register. -/
import Derived.Test.YtoglkellaliegaaRgI
namespace Go.Proofs.Ytoglkellaliegaa
open Go.RowKit

theorem tv_set2 {L : List Qu.T} {i : Nat} (hi : i < L.length) (y : Int) : tv (L.set i (L[i].1, y)) = (tv L).set (i * 2 + 1) (.int .i64 y) := by
  rw [tv_set]
  congr 1
  have h := (tv_get (List.getElem?_eq_getElem hi)).1
  have hl : i * 2 < (tv L).length := by rw [tv_length]; omega
  rw [List.getElem?_eq_getElem hl] at h
  rw [← Option.some.inj h]
  exact List.set_getElem_self hl

theorem setK_eq {ts : List Qu.T} (h : Rg.Inc ts) {i : Nat} (hi : i < ts.length) {x : Int} (hx : ts[i].1 = x) (y : Int) : Rg.setK ts x y = ts.set i (ts[i].1, y) := by
  unfold Rg.setK
  apply List.ext_getElem
  · simp
  · intro j h1 h2
    rw [List.getElem_map, List.getElem_set]
    have hj : j < ts.length := by simpa using h1
    by_cases e : i = j
    · subst e
      rw [if_pos (by simp [Qu.tg, hx]), if_pos rfl]
    · rw [if_neg e, if_neg]
      simp only [Qu.tg, beq_iff_eq]
      intro he
      rcases Nat.lt_or_gt_of_ne e with hlt | hlt
      · have := (List.pairwise_iff_getElem.1 h) i j hi hj hlt; omega
      · have := (List.pairwise_iff_getElem.1 h) j i hj hi hlt; omega

theorem ins_eq {ts : List Qu.T} {x y : Int} {k : Nat} (hk : k ≤ ts.length) (h1 : ∀ m (hm : m < ts.length), m < k → ts[m].1 < x) (h2 : ∀ m (hm : m < ts.length), k ≤ m → x ≤ ts[m].1) : Rg.ins ts x y = ts.take k ++ (x, y) :: ts.drop k := by
  unfold Rg.ins
  have e : ts = ts.take k ++ ts.drop k := (List.take_append_drop k ts).symm
  have a1 : ∀ t, t ∈ ts.take k → t.1 < x := fun t ht => by
    obtain ⟨m, hm, rfl⟩ := List.getElem_of_mem ht
    rw [List.length_take] at hm
    rw [List.getElem_take]
    exact h1 m (by omega) (by omega)
  have a2 : ∀ t, t ∈ ts.drop k → x ≤ t.1 := fun t ht => by
    obtain ⟨m, hm, rfl⟩ := List.getElem_of_mem ht
    rw [List.length_drop] at hm
    rw [List.getElem_drop]
    exact h2 (k + m) (by omega) (by omega)
  have b1 : ts.filter (fun t => decide (t.1 < x)) = ts.take k := by
    conv => lhs; rw [e]
    rw [List.filter_append, List.filter_eq_self.2 (fun t ht => decide_eq_true (a1 t ht)), List.filter_eq_nil_iff.2 (fun t ht => by have := a2 t ht; simp only [decide_eq_true_eq]; omega), List.append_nil]
  have b2 : ts.filter (fun t => decide (x ≤ t.1)) = ts.drop k := by
    conv => lhs; rw [e]
    rw [List.filter_append, List.filter_eq_self.2 (fun t ht => decide_eq_true (a2 t ht)), List.filter_eq_nil_iff.2 (fun t ht => by have := a1 t ht; simp only [decide_eq_true_eq]; omega), List.nil_append]
  rw [b1, b2]

theorem rowIs_pair (w : World) (x y : Int) : (w.alloc (.cells #[.int .i64 x, .int .i64 y] 56)).rowIs w.heap.size 56 2 (fun j => if j = 0 then .int .i64 x else .int .i64 y) :=
  ⟨#[.int .i64 x, .int .i64 y], by show (w.heap.push _)[w.heap.size]? = _; rw [Array.getElem?_push, if_pos rfl], rfl, fun j hj => by
    rcases j with _ | _ | j
    · rfl
    · rfl
    · omega⟩

/-- Where the reservation ends with a hand. -/
theorem out_eq (g k q x : Int) (ts : List Qu.T) : Rg.out ⟨g, ts, k, q⟩ x = ⟨g, Rg.cut ts x, if Rg.ends ts k q x = true then 0 else k, if Rg.ends ts k q x = true then 0 else q⟩ := by
  unfold Rg.out
  show (if Rg.ends ts k q x = true then _ else _) = _
  split <;> rfl

set_option maxRecDepth 100000 in
set_option maxHeartbeats 16000000 in
theorem Register_R (g k q x old y : Int) (a : Option Addr) (n c : Nat) (ts : List Qu.T) (w : World) (hG : Rg.Good ⟨g, ts, k, q⟩) (hT : TSl w a n c ts) (hg : g < 1000) (hx0 : 0 ≤ x) (hx7 : x ≤ 7) (hy0 : 0 ≤ y) (hy1 : y ≤ 1000) :
    Calls Try.prog 34 #[.agg #[.int .i64 g, .slice a n c, .int .i64 k, .int .i64 q], .int .i64 x, .int .i64 old, .int .i64 y] w (RTo w (rz (Rg.regR ⟨g, ts, k, q⟩ x y) (Rg.regE ⟨g, ts, k, q⟩ x old)) (Rg.regE ⟨g, ts, k, q⟩ x old)) := by
  have hg0 : 0 ≤ g := hG.gen0
  have hn8 : n ≤ 8 := by have := hG.len; rw [hT.len] at this; exact this
  have HX := boxes_x w g k q a n c
  have HY := boxes_y w
  have HB := boxes_b w
  have C1 := fun o o' => Check_R g k q a n c ts ((w.alloc o).alloc o') hG (hT.keep (HB.out o o'))
  have W1 := fun w => who_R x true (by unfold Rg.who; rw [decide_eq_true hx0, decide_eq_true hx7]; rfl) w
  have HF : Hid (∀ w', Below w.heap.size w w' → Calls Try.prog 72 #[.agg #[.int .i64 g, .slice a n c, .int .i64 k, .int .i64 q], .int .i64 x] w' fun e w'' => e = .returned (.int .i64 (idx (Qu.tg x) ts)) ∧ Below w'.heap.size w' w'') := Lib.hid fun w' hb => find_R g k q x a n c ts w' (hT.keep hb) (by omega)
  have HN : Hid (∀ w', Below w.heap.size w w' → Calls Try.prog 69 #[.agg #[.int .i64 g, .slice a n c, .int .i64 k, .int .i64 q], .int .i64 1] w' fun e w'' => ∃ a' c', e = .returned (.agg #[.int .i64 (g + 1), .slice a' n c', .int .i64 k, .int .i64 q]) ∧ w''.ownsRow w'.heap.size 56 2 (.slice a' n c') n (tv ts) ∧ Below w'.heap.size w' w'') := Lib.hid fun w' hb =>
    next_R g 1 k q a n c ts w' (hT.keep hb) (by omega) hg0 (by omega) (by omega) (by omega)
  have HC := Lib.hid (idx_cases ts x)
  have HT := Lib.hid hT
  have HG := Lib.hid hG
  obtain ⟨E, hE⟩ : ∃ E, Rg.regE ⟨g, ts, k, q⟩ x old = E := ⟨_, rfl⟩
  have HE : Hid (E = if Rg.key ts x = old then 0 else 9) := Lib.hid (by rw [← hE]; rfl)
  rw [hE]
  clear hT hG hE
  go_enter Try.func34, Try.ntmps34
  go_wp2_with fail
  with_reducible refine (C1 _ _).mono ?_
  rintro e w1 ⟨rfl, hb1⟩
  have HB1 := Lib.hid ((HB.out _ _).trans (hb1.mono (HB.out _ _).size))
  have HX1 := Lib.hid ((HX.out 49 _).on hb1)
  have HY1 := Lib.hid ((HY.out _ 49).on hb1)
  obtain ⟨hl, c0, c1, c2, c3, z0, z1, z2, z3⟩ := HX1.out
  have F1 := HF.out w1 HB1.out
  clear hb1 C1
  go_wp2_with fail
  with_reducible refine (W1 _).mono ?_
  rintro e w2 ⟨rfl, rfl⟩
  go_wp2_with fail
  with_reducible refine F1.mono ?_
  rintro e w2 ⟨rfl, hb2⟩
  have HB2 := Lib.hid (HB1.out.trans (hb2.mono HB1.out.size))
  have HX2 := Lib.hid (HX1.out.on hb2)
  have HY2 := Lib.hid (HY1.out.on hb2)
  have N1 := HN.out w2 HB2.out
  clear c0 c1 c2 c3 z0 z1 z2 z3 hl hb2 F1 HX1 HY1 HB1
  obtain ⟨hl, c0, c1, c2, c3, z0, z1, z2, z3⟩ := HX2.out
  obtain ⟨hm, d0, d1, d2, d3, y0, y1, y2, y3⟩ := HY2.out
  rcases HC.out with ⟨h1, h2⟩ | ⟨i, hi, h2, h1, h3, h4⟩
  · rw [h2]
    by_cases ho : old = 0
    · subst ho
      obtain rfl : E = 0 := by rw [HE.out, if_pos (Rg.key_none h1)]
      have H1 := Lib.hid h1
      clear HE h1 h2 HC
      go_wp2_with fail
      with_reducible refine N1.mono ?_
      rintro e w3 ⟨a', c', rfl, ho3, hb3⟩
      have HB3 := Lib.hid (HB2.out.trans (hb3.mono HB2.out.size))
      have HO3 := Lib.hid ho3
      have HX3 := Lib.hid (HX2.out.on hb3)
      have HY3 := Lib.hid (HY2.out.on hb3)
      have hs3 := HB3.out.size
      have hs2 := HB2.out.size
      have hs23 := hb3.size
      have hm0 := HY2.out.lt
      have HNE : Hid (∀ m k, (Value.slice a' m c').ownBlock = some k → w2.heap.size ≤ k ∧ k < w3.heap.size) := Lib.hid fun m j hj => ⟨row_base ho3 j (by cases a' <;> exact hj), own_block_lt ho3 j (by cases a' <;> exact hj)⟩
      have HZ : Hid (∀ T, R4 (w3.alloc (.cells #[.int .i64 (g + 1), .slice a' n c', .int .i64 k, .int .i64 q] T)) w3.heap.size (.int .i64 (g + 1)) (.slice a' n c') (.int .i64 k) (.int .i64 q)) := Lib.hid fun T => r4_new w3 T _ _ _ _
      have HBA : Hid (∀ o, Below w.heap.size w (w3.alloc o)) := Lib.hid fun o => HB3.out.alloc hs3 o
      clear hl c0 c1 c2 c3 z0 z1 z2 z3 hm d0 d1 d2 d3 y0 y1 y2 y3 ho3 hb3 N1
      by_cases hy : y = 0
      · subst hy
        have K4 := fun T => out_R (g + 1) k q x a' n c' w2.heap.size ts (w3.alloc (.cells #[.int .i64 (g + 1), .slice a' n c', .int .i64 k, .int .i64 q] T)) (HO3.out.alloc _) (by omega)
        have HR : Hid (Rg.regR ⟨g, ts, k, q⟩ x 0 = ⟨g + 1, Rg.cut ts x, if Rg.ends ts k q x = true then 0 else k, if Rg.ends ts k q x = true then 0 else q⟩) := Lib.hid (by unfold Rg.regR; rw [if_pos rfl, out_eq])
        generalize (if Rg.ends ts k q x = true then 0 else k) = k' at *
        generalize (if Rg.ends ts k q x = true then 0 else q) = q' at *
        go_wp2_with fail
        with_reducible refine (K4 _).mono ?_
        rintro e w4 ⟨m, rfl, hm, hO4, hg4⟩
        have HB4 := Lib.hid (own_grown (HO3.out.alloc _) (HBA.out _) hs2 (HBA.out _).size hg4)
        have HY4 := Lib.hid ((HY3.out.alloc _).grown hg4 (fun e => by have := HNE.out n _ e.symm; have := HY2.out.lt; omega))
        have HO4 := Lib.hid (own_low hO4 hs2)
        have HNE4 : Hid (∀ k, (Value.slice a' m c').ownBlock = some k → w.heap.size + 1 ≠ k) := Lib.hid fun j hj => by have := HNE.out m j hj; have := HY2.out.lt; omega
        clear hO4 hg4 K4 hm
        obtain ⟨hm, d0, d1, d2, d3, y0, y1, y2, y3⟩ := HY4.out
        go_wp2_with fail
        refine bodyPost_ret (res_cell2 (p := 8) (q := 9) (B := w.heap.size + 1) rfl rfl rfl (HY4.out.set _ _ _ _)) rfl ?_
        rw [HR.out]
        exact rto_ok (r := ⟨g + 1, Rg.cut ts x, k', q'⟩) (own_set4 HO4.out HNE4.out _ _ _ _) (below_set4 HB4.out (by omega) _ _ _ _)
      · obtain ⟨hl, c0, c1, c2, c3, z0, z1, z2, z3⟩ := (HZ.out 49)
        have hTs := fun T => (own_slice (HO3.out.alloc (.cells #[.int .i64 (g + 1), .slice a' n c', .int .i64 k, .int .i64 q] T)))
        have K4 : ∀ T, Calls Try.prog 74 #[.slice a' n c', .int .i64 x, .func (.func 75) #[] #[]] (w3.alloc (.cells #[.int .i64 (g + 1), .slice a' n c', .int .i64 k, .int .i64 q] T)) _ := fun T => Search_R x a' n c' ts (w3.alloc (.cells #[.int .i64 (g + 1), .slice a' n c', .int .i64 k, .int .i64 q] T)) (by
          obtain ⟨a2, c2, he, h⟩ := hTs T
          cases he
          exact h) hn8 hx0 hx7 HG.out.inc (fun t ht => by have := HG.out.one t ht; exact ⟨this.1, this.2.1⟩)
        have HR : Hid (∀ kk, kk ≤ ts.length → (∀ m (hm : m < ts.length), m < kk → ts[m].1 < x) → (∀ m (hm : m < ts.length), kk ≤ m → x ≤ ts[m].1) → Rg.regR ⟨g, ts, k, q⟩ x y = ⟨g + 1, ts.take kk ++ (x, y) :: ts.drop kk, k, q⟩) := Lib.hid fun kk h1 h2 h3 => by
          unfold Rg.regR
          rw [if_neg hy, if_neg (by rw [H1.out]; decide)]
          show (⟨g + 1, Rg.ins ts x y, k, q⟩ : Rg.RV) = _
          rw [ins_eq h1 h2 h3]
        have ey : (y == 0) = false := beq_eq_false_iff_ne.2 hy
        clear hTs hy
        go_wp2_with fail
        with_reducible refine (K4 _).mono ?_
        rintro e w5 ⟨kk, bb, rfl, hk, hA, hC, hb5⟩
        have HR5 := Lib.hid (HR.out kk (by rw [HT.out.len]; exact hk) hA hC)
        have HB5 := Lib.hid ((HBA.out _).trans (hb5.mono (HBA.out _).size))
        have HY5 := Lib.hid ((HY3.out.alloc _).on hb5)
        have HZ5 := Lib.hid ((HZ.out 49).on hb5)
        have HO5 := Lib.hid (own_keep (HO3.out.alloc _) hb5)
        have hs5 : w3.heap.size < w5.heap.size := by have := hb5.size; rw [World.size_alloc] at this; omega
        have K6 := Insert_R a' n c' kk w2.heap.size w5.heap.size x y ts (w5.alloc (.cells #[.int .i64 x, .int .i64 y] 56)) (HO5.out.alloc _) hk hn8 (by rw [World.size_alloc]; omega) (fun j hj => by have := HNE.out n j hj; omega) (rowIs_pair w5 x y)
        clear hl c0 c1 c2 c3 z0 z1 z2 z3 hb5 K4 hA hC HR
        obtain ⟨hl, c0, c1, c2, c3, z0, z1, z2, z3⟩ := HZ5.out
        go_wp2_with fail
        with_reducible refine K6.mono ?_
        rintro e w7 ⟨a7, c7, rfl, hO7, hg7, hl7⟩
        have HB7 := Lib.hid (own_grown (HO5.out.alloc _) (HB5.out.alloc (by omega) _) hs2 (by rw [World.size_alloc]; omega) hg7)
        have HY7 := Lib.hid ((HY5.out.alloc _).grown hg7 (fun e => by have := HNE.out n _ e.symm; have := HY2.out.lt; omega))
        have HZ7 := Lib.hid ((HZ5.out.alloc _).grown hg7 (fun e => by have := HNE.out n _ e.symm; omega))
        have HO7 := Lib.hid (own_low hO7 hs2)
        have HNE7 : Hid (∀ k, (Value.slice a7 (n + 1) c7).ownBlock = some k → w.heap.size + 1 ≠ k ∧ w3.heap.size ≠ k) := Lib.hid fun j hj => by
          rcases hl7 j hj with h | h
          · have := HNE.out n j h; omega
          · rw [World.size_alloc] at h; omega
        clear hl c0 c1 c2 c3 z0 z1 z2 z3 hO7 hg7 hl7 K6
        obtain ⟨hl, c0, c1, c2, c3, z0, z1, z2, z3⟩ := HZ7.out
        obtain ⟨hm, d0, d1, d2, d3, y0, y1, y2, y3⟩ := HY7.out
        go_wp2_with fail
        refine bodyPost_ret (res_cell2 (p := 8) (q := 9) (B := w.heap.size + 1) rfl rfl rfl ((HY7.out.other w3.heap.size 1 (by omega) _).set _ _ _ _)) rfl ?_
        rw [HR5.out]
        exact rto_ok (r := ⟨g + 1, ts.take kk ++ (x, y) :: ts.drop kk, k, q⟩) (own_set4 (own_set_other HO7.out (fun j hj => (HNE7.out j hj).2) _ _) (fun j hj => (HNE7.out j hj).1) _ _ _ _) (below_set4 (HB7.out.setCell (by omega) _) (by omega) _ _ _ _)
    · have eo : (old != 0) = true := bne_iff_ne.2 ho
      obtain rfl : E = 9 := by rw [HE.out, if_neg (by rw [Rg.key_none h1]; omega)]
      clear HE h1 h2 HC ho
      go_wp2_with fail
      refine bodyPost_ret (res_cell2 (p := 8) (q := 9) (B := w.heap.size + 1) rfl rfl rfl (HY2.out.set _ _ _ _)) rfl ?_
      exact rto_err (by decide) (below_set4 HB2.out (by omega) _ _ _ _)
  · rw [h2]
    rw [h4] at HE
    have hin : i < n := by rw [← HT.out.len]; exact hi
    have hne : ts ≠ [] := by rintro rfl; simp at hi
    obtain ⟨b, o, rfl, hb, hc⟩ := (HT.out.keep HB2.out).at_ hne
    obtain ⟨-, f2⟩ := hc i ts[i] (List.getElem?_eq_getElem hi)
    have H1 := Lib.hid h1
    have H3 := Lib.hid h3
    obtain ⟨z, hz⟩ : ∃ z, ts[i].2 = z := ⟨_, rfl⟩
    rw [hz] at HE f2
    clear hc h1 h2 h3 h4 hne hz HC
    by_cases ho : z = old
    · subst ho
      obtain rfl : E = 0 := by rw [HE.out, if_pos rfl]
      clear HE
      go_wp2_with fail
      with_reducible refine N1.mono ?_
      rintro e w3 ⟨a', c', rfl, ho3, hb3⟩
      have HB3 := Lib.hid (HB2.out.trans (hb3.mono HB2.out.size))
      have HO3 := Lib.hid ho3
      have HX3 := Lib.hid (HX2.out.on hb3)
      have HY3 := Lib.hid (HY2.out.on hb3)
      have hs3 := HB3.out.size
      have hs2 := HB2.out.size
      have hs23 := hb3.size
      have hm0 := HY2.out.lt
      have HNE : Hid (∀ m k, (Value.slice a' m c').ownBlock = some k → w2.heap.size ≤ k ∧ k < w3.heap.size) := Lib.hid fun m j hj => ⟨row_base ho3 j (by cases a' <;> exact hj), own_block_lt ho3 j (by cases a' <;> exact hj)⟩
      have HZ : Hid (∀ T, R4 (w3.alloc (.cells #[.int .i64 (g + 1), .slice a' n c', .int .i64 k, .int .i64 q] T)) w3.heap.size (.int .i64 (g + 1)) (.slice a' n c') (.int .i64 k) (.int .i64 q)) := Lib.hid fun T => r4_new w3 T _ _ _ _
      have HBA : Hid (∀ o, Below w.heap.size w (w3.alloc o)) := Lib.hid fun o => HB3.out.alloc hs3 o
      clear f2 hl c0 c1 c2 c3 z0 z1 z2 z3 hm d0 d1 d2 d3 y0 y1 y2 y3 ho3 hb3 N1
      by_cases hy : y = 0
      · subst hy
        have K4 := fun T => out_R (g + 1) k q x a' n c' w2.heap.size ts (w3.alloc (.cells #[.int .i64 (g + 1), .slice a' n c', .int .i64 k, .int .i64 q] T)) (HO3.out.alloc _) (by omega)
        have HR : Hid (Rg.regR ⟨g, ts, k, q⟩ x 0 = ⟨g + 1, Rg.cut ts x, if Rg.ends ts k q x = true then 0 else k, if Rg.ends ts k q x = true then 0 else q⟩) := Lib.hid (by unfold Rg.regR; rw [if_pos rfl, out_eq])
        generalize (if Rg.ends ts k q x = true then 0 else k) = k' at *
        generalize (if Rg.ends ts k q x = true then 0 else q) = q' at *
        go_wp2_with fail
        with_reducible refine (K4 _).mono ?_
        rintro e w4 ⟨m, rfl, hm, hO4, hg4⟩
        have HB4 := Lib.hid (own_grown (HO3.out.alloc _) (HBA.out _) hs2 (HBA.out _).size hg4)
        have HY4 := Lib.hid ((HY3.out.alloc _).grown hg4 (fun e => by have := HNE.out n _ e.symm; have := HY2.out.lt; omega))
        have HO4 := Lib.hid (own_low hO4 hs2)
        have HNE4 : Hid (∀ k, (Value.slice a' m c').ownBlock = some k → w.heap.size + 1 ≠ k) := Lib.hid fun j hj => by have := HNE.out m j hj; have := HY2.out.lt; omega
        clear hO4 hg4 K4 hm
        obtain ⟨hm, d0, d1, d2, d3, y0, y1, y2, y3⟩ := HY4.out
        go_wp2_with fail
        refine bodyPost_ret (res_cell2 (p := 8) (q := 9) (B := w.heap.size + 1) rfl rfl rfl (HY4.out.set _ _ _ _)) rfl ?_
        rw [HR.out]
        exact rto_ok (r := ⟨g + 1, Rg.cut ts x, k', q'⟩) (own_set4 HO4.out HNE4.out _ _ _ _) (below_set4 HB4.out (by omega) _ _ _ _)
      · obtain ⟨hl, c0, c1, c2, c3, z0, z1, z2, z3⟩ := (HZ.out 49)
        have HR : Hid (Rg.regR ⟨g, ts, k, q⟩ x y = ⟨g + 1, ts.set i (ts[i].1, y), k, q⟩) := Lib.hid (by
          unfold Rg.regR
          rw [if_neg hy, if_pos H1.out]
          show (⟨g + 1, Rg.setK ts x y, k, q⟩ : Rg.RV) = _
          rw [setK_eq HG.out.inc hi H3.out])
        obtain ⟨g', c'', he, hg1, hg2⟩ := HO3.out.form (by omega)
        cases he
        have ey : (y == 0) = false := beq_eq_false_iff_ne.2 hy
        have s1 : ∀ o, (w3.alloc o).cell? ⟨g', i * 2 + 1, none⟩ = some (.int .i64 (ts[i].2)) := fun o => by
          rw [(HO3.out.alloc o).cellAt _ (by omega), (tv_get (List.getElem?_eq_getElem hi)).2]
        have f1 : ∀ o, (w3.alloc o).frozen? ⟨g', i * 2 + 1, none⟩ = false := fun o => (HO3.out.alloc o).frozenAt _
        have HO4 : Hid ((w3.setCell ⟨g', i * 2 + 1, none⟩ (.int .i64 y)).ownsRow w.heap.size 56 2 (.slice (some ⟨g', 0, none⟩) n c') n (tv (ts.set i (ts[i].1, y)))) := Lib.hid (by
          have h := (HO3.out.stored (i * 2 + 1) (.int .i64 y)).1
          rw [tv_set2 hi]
          exact own_low h hs2)
        have HNE4 : Hid (∀ k, (Value.slice (some ⟨g', 0, none⟩) n c').ownBlock = some k → w.heap.size + 1 ≠ k) := Lib.hid fun j hj => by have := HNE.out n j hj; omega
        have HYb : g' ≠ w.heap.size + 1 := by omega
        have HZb : g' ≠ w3.heap.size := by omega
        have HWB : w.heap.size ≤ g' := by omega
        generalize ts[i].2 = zz at *
        obtain ⟨hm, d0, d1, d2, d3, y0, y1, y2, y3⟩ := HY3.out
        clear hy
        go_wp2_with fail
        refine bodyPost_ret (res_cell2 (p := 8) (q := 9) (B := w.heap.size + 1) rfl rfl rfl (((HY3.out.other g' (i * 2 + 1) HYb _).set _ _ _ _).alloc _)) rfl ?_
        rw [HR.out]
        exact rto_ok (r := ⟨g + 1, ts.set i (ts[i].1, y), k, q⟩) ((own_set4 HO4.out HNE4.out _ _ _ _).alloc _) ((below_set4 (HB3.out.setCell HWB _) (by omega) _ _ _ _).alloc (by simp only [World.size_setCell]; exact hs3) _)
    · have eo : (z != old) = true := bne_iff_ne.2 ho
      obtain rfl : E = 9 := by rw [HE.out, if_neg ho]
      clear HE ho
      go_wp2_with fail
      refine bodyPost_ret (res_cell2 (p := 8) (q := 9) (B := w.heap.size + 1) rfl rfl rfl (HY2.out.set _ _ _ _)) rfl ?_
      exact rto_err (by decide) (below_set4 HB2.out (by omega) _ _ _ _)

end Go.Proofs.Ytoglkellaliegaa
