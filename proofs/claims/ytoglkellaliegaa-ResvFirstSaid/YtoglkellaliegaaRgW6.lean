/- Walks: resv.out. -/
import Derived.Test.YtoglkellaliegaaRgW5
import Derived.Test.YtoglkellaliegaaRgP2
namespace Go.Proofs.Ytoglkellaliegaa
open Go.RowKit

theorem own_block_lt {w : World} {base n size : Nat} {e : TypeId} {v : Value} {xs : List Value} (h : w.ownsRow base e size v n xs) : ∀ k, v.ownBlock = some k → k < w.heap.size := by
  intro k hk
  rcases h.2 with ⟨rfl, _⟩ | ⟨g, cap, cur, rfl, hb, hh, _⟩
  · cases hk
  · cases hk
    rcases Nat.lt_or_ge g w.heap.size with h | h
    · exact h
    · rw [Array.getElem?_eq_none h] at hh; cases hh

/-- A block that is new is written. -/
theorem grown_store {w W : World} {row : Option Nat} (h : w.grownBy W row) {b : Nat} (hb : w.heap.size ≤ b) (i : Nat) (u : Value) : w.grownBy (W.setCell ⟨b, i, none⟩ u) row := by
  have k := grown_cell W b i u
  refine ⟨k.os.trans h.os, k.tape.trans h.tape, k.output.trans h.output, Nat.le_trans h.size k.size, fun j hj hr => ?_⟩
  rw [k.block j (Nat.lt_of_lt_of_le hj h.size) (by intro e; cases e; omega)]
  exact h.block j hj hr

/-- Two steps: the second turns nothing old. -/
theorem grown_below {w W W' : World} {row : Option Nat} (h : w.grownBy W row) (hb : Below W.heap.size W W') : w.grownBy W' row := h.trans (below_grown hb row)

theorem own_set_other {w : World} {base n : Nat} {e : TypeId} {v : Value} {xs : List Value} (h : w.ownsRow base e 2 v n xs) {b : Nat} (hb : ∀ k, v.ownBlock = some k → b ≠ k) (i : Nat) (u : Value) : (w.setCell ⟨b, i, none⟩ u).ownsRow base e 2 v n xs :=
  h.kept (grown_cell w b i u) (by
    rcases h.2 with ⟨rfl, -⟩ | ⟨g, cap, cur, rfl, hg, -⟩
    · exact Or.inl rfl
    · right
      show some g ≠ some b
      intro e
      cases e
      exact hb _ rfl rfl)

set_option maxRecDepth 100000 in
set_option maxHeartbeats 8000000 in
theorem out_R (g k q x : Int) (a : Option Addr) (n c base : Nat) (ts : List Qu.T) (w : World) (hown : w.ownsRow base 56 2 (.slice a n c) n (tv ts)) (hn : n ≤ 1000000) :
    Calls Try.prog 73 #[.agg #[.int .i64 g, .slice a n c, .int .i64 k, .int .i64 q], .int .i64 x] w fun e w' =>
      ∃ m, e = .returned (.agg #[.int .i64 g, .slice a m c, .int .i64 (if Rg.ends ts k q x = true then 0 else k), .int .i64 (if Rg.ends ts k q x = true then 0 else q)]) ∧ (Rg.cut ts x).length = m ∧
        w'.ownsRow base 56 2 (.slice a m c) m (tv (Rg.cut ts x)) ∧ w.grownBy w' (Value.slice a n c).ownBlock := by
  have hlt := own_block_lt hown
  have HB : ∀ o o' o'', Below w.heap.size w (((w.alloc o).alloc o').alloc o'') := fun o o' o'' => (((Below.refl _ w).alloc (Nat.le_refl _) _).alloc (by rw [World.size_alloc]; omega) _).alloc (by rw [World.size_alloc, World.size_alloc]; omega) _
  obtain ⟨a', c', he, hT⟩ := own_slice hown
  cases he
  have HX : Hid (∀ T o' o'', R4 (((w.alloc (.cells #[.int .i64 g, .slice a n c, .int .i64 k, .int .i64 q] T)).alloc o').alloc o'') w.heap.size (.int .i64 g) (.slice a n c) (.int .i64 k) (.int .i64 q)) := Lib.hid fun T o' o'' => ((r4_new w T _ _ _ _).alloc _).alloc _
  have HY : Hid (∀ o o' T, R4 (((w.alloc o).alloc o').alloc (.cells #[.int .i64 0, .slice none 0 0, .int .i64 0, .int .i64 0] T)) (w.heap.size + 2) (.int .i64 0) (.slice none 0 0) (.int .i64 0) (.int .i64 0)) := Lib.hid fun o o' T => by
    have := r4_new ((w.alloc o).alloc o') T (.int .i64 0) (.slice none 0 0) (.int .i64 0) (.int .i64 0)
    rw [World.size_alloc, World.size_alloc] at this
    exact this
  have HC : Hid (∀ o T o'', ((((w.alloc o).alloc (.cells #[.int .i64 x] T)).alloc o'').cell? ⟨w.heap.size + 1, 0, none⟩ = some (.int .i64 x))) := Lib.hid fun o T o'' => by
    have h1 := cell_new (w.alloc o) (T := T) (xs := #[.int .i64 x]) (k := 0) rfl
    rw [World.size_alloc] at h1
    rw [World.cell?_alloc_past _ _ _ (by show w.heap.size + 1 < _; rw [World.size_alloc, World.size_alloc]; omega)]
    exact h1
  have HHas := Lib.hid (fun o o' o'' => Has_R g k q x a n c ts _ rfl (((w.alloc o).alloc o').alloc o'') (hT.keep (HB o o' o'')) hn)
  have HBB := Lib.hid HB
  have HO := Lib.hid hown
  have HLT := Lib.hid hlt
  obtain ⟨k', hk'⟩ : ∃ k', (if Rg.ends ts k q x = true then 0 else k) = k' := ⟨_, rfl⟩
  obtain ⟨q', hq'⟩ : ∃ q', (if Rg.ends ts k q x = true then 0 else q) = q' := ⟨_, rfl⟩
  have A1 := fun w => all_R k _ rfl w
  have F1 := fun m w => free_R g k q a m c w
  have HE : Hid (Rg.ends ts k q x = (Rg.hasR ts k q x && (!Rg.all k || decide (Rg.cut ts x = []))) ∧ (if Rg.ends ts k q x = true then 0 else k) = k' ∧ (if Rg.ends ts k q x = true then 0 else q) = q') := Lib.hid ⟨rfl, hk', hq'⟩
  rw [hk', hq']
  generalize hbh : Rg.hasR ts k q x = bh at *
  generalize hba : Rg.all k = ba at *
  clear hT HB hlt hown hbh hba hk' hq'
  go_enter Try.func73, Try.ntmps73
  go_wp2_with fail
  have K1 := HHas.out (.cells #[.int .i64 g, .slice a n c, .int .i64 k, .int .i64 q] 49) (.cells #[.int .i64 x] 3) (.cells #[.int .i64 0, .slice none 0 0, .int .i64 0, .int .i64 0] 49)
  with_reducible refine K1.mono ?_
  rintro e w1 ⟨rfl, hb⟩
  have HB1 := Lib.hid ((HBB.out _ _ _).trans (hb.mono (HBB.out _ _ _).size))
  have HX1 := Lib.hid ((HX.out 49 _ _).on hb)
  have HY1 := Lib.hid ((HY.out _ _ 49).on hb)
  have HC1 : Hid (w1.cell? ⟨w.heap.size + 1, 0, none⟩ = some (.int .i64 x)) := Lib.hid (by rw [hb.cell (p := ⟨w.heap.size + 1, 0, none⟩) (by show w.heap.size + 1 < _; rw [World.size_alloc, World.size_alloc, World.size_alloc]; omega)]; exact HC.out _ 3 _)
  have hl1 := HY1.out.lt
  have HO1 := Lib.hid (own_keep HO.out HB1.out)
  have K2 := DeleteFunc_R a c n base (w.heap.size + 1) x ts w1 HO1.out hn (by omega) HC1.out (fun g hg => by have := HLT.out g hg; omega)
  clear hb K1
  have c1 := HX1.out.c1
  go_wp2_with fail
  with_reducible refine K2.mono ?_
  rintro e w2 ⟨m, rfl, hm, hO2, hg2⟩
  have hne : ∀ j, w.heap.size ≤ j → some j ≠ (Value.slice a n c).ownBlock := fun j hj e => by have := HLT.out j e.symm; omega
  have HX2 := Lib.hid (HX1.out.grown hg2 (hne _ (Nat.le_refl _)))
  have HY2 := Lib.hid (HY1.out.grown hg2 (hne _ (by omega)))
  have HG2 := Lib.hid ((below_grown HB1.out (Value.slice a n c).ownBlock).trans hg2)
  have HO2 := Lib.hid hO2
  have HM := Lib.hid hm
  have HNE : Hid (∀ k, (Value.slice a m c).ownBlock = some k → k < w.heap.size) := Lib.hid fun j hj => HLT.out j (by cases a <;> exact hj)
  obtain ⟨hl, c0, c1, c2, c3, z0, z1, z2, z3⟩ := HX2.out
  obtain ⟨hl', d0, d1, d2, d3, y0, y1, y2, y3⟩ := HY2.out
  obtain ⟨bm, hbm⟩ : ∃ bm, decide (Rg.cut ts x = []) = bm := ⟨_, rfl⟩
  have em : ((m : Int) == 0) = bm := by
    rw [← hm, ← hbm]
    cases Rg.cut ts x with
    | nil => rfl
    | cons t l => rw [decide_eq_false (by simp)]; exact beq_eq_false_iff_ne.2 (by rw [List.length_cons]; omega)
  obtain ⟨he1, he2, he3⟩ := HE.out
  rw [hbm] at he1
  rw [he1] at he2 he3
  clear he1 hbm HE
  have HXs := Lib.hid (HX2.out.set1 (.slice a m c))
  have HYs := Lib.hid (HY2.out.other w.heap.size 1 (by omega) (.slice a m c))
  have HOs := Lib.hid (own_set_other HO2.out (b := w.heap.size) (fun k hk => by have := HNE.out k hk; omega) 1 (.slice a m c))
  have HGs := Lib.hid (grown_store HG2.out (Nat.le_refl _) 1 (.slice a m c))
  clear hO2 hg2 hm K2 hne
  rcases bh with _ | _
  · rw [if_neg (by simp)] at he2 he3
    subst he2 he3
    go_wp2_with fail
    refine bodyPost_ret (v := .agg #[.int .i64 g, .slice a m c, .int .i64 k, .int .i64 q]) ?_ rfl ⟨m, rfl, HM.out, ?_, ?_⟩
    · exact res_cell (p := 4) (B := w.heap.size + 2) rfl rfl (HYs.out.set _ _ _ _)
    · exact own_set_other (own_set_other (own_set_other (own_set_other HOs.out (fun j hj => by have := HNE.out j hj; omega) _ _) (fun j hj => by have := HNE.out j hj; omega) _ _) (fun j hj => by have := HNE.out j hj; omega) _ _) (fun j hj => by have := HNE.out j hj; omega) _ _
    · exact grown_store (grown_store (grown_store (grown_store HGs.out (by omega) _ _) (by omega) _ _) (by omega) _ _) (by omega) _ _
  · rcases ba with _ | _
    · rw [if_pos (by simp)] at he2 he3
      subst he2 he3
      go_wp2_with fail
      have K4 := A1 (w2.setCell ⟨w.heap.size, 1, none⟩ (.slice a m c))
      with_reducible refine K4.mono ?_
      rintro e w4 ⟨rfl, rfl⟩
      clear K4
      go_wp2_with fail
      have K3 := F1 m (w2.setCell ⟨w.heap.size, 1, none⟩ (.slice a m c))
      with_reducible refine K3.mono ?_
      rintro e w3 ⟨rfl, hb3⟩
      have HXF := Lib.hid (HXs.out.on hb3)
      have HYF := Lib.hid (HYs.out.on hb3)
      have HOF := Lib.hid (own_keep HOs.out hb3)
      have HGF := Lib.hid (grown_below HGs.out hb3)
      obtain ⟨hm1, c0, c1, c2, c3, z0, z1, z2, z3⟩ := HXF.out
      obtain ⟨hm2, d0, d1, d2, d3, y0, y1, y2, y3⟩ := HYF.out
      clear hb3 K3
      go_wp2_with fail
      refine bodyPost_ret (v := .agg #[.int .i64 g, .slice a m c, .int .i64 0, .int .i64 0]) ?_ rfl ⟨m, rfl, HM.out, ?_, ?_⟩
      · exact res_cell (p := 4) (B := w.heap.size + 2) rfl rfl (((((HYF.out.other _ _ (by omega) _).other _ _ (by omega) _).other _ _ (by omega) _).other _ _ (by omega) _).set _ _ _ _)
      · exact own_set_other (own_set_other (own_set_other (own_set_other (own_set_other (own_set_other (own_set_other (own_set_other HOF.out (fun j hj => by have := HNE.out j hj; omega) _ _) (fun j hj => by have := HNE.out j hj; omega) _ _) (fun j hj => by have := HNE.out j hj; omega) _ _) (fun j hj => by have := HNE.out j hj; omega) _ _) (fun j hj => by have := HNE.out j hj; omega) _ _) (fun j hj => by have := HNE.out j hj; omega) _ _) (fun j hj => by have := HNE.out j hj; omega) _ _) (fun j hj => by have := HNE.out j hj; omega) _ _
      · exact grown_store (grown_store (grown_store (grown_store (grown_store (grown_store (grown_store (grown_store HGF.out (by omega) _ _) (by omega) _ _) (by omega) _ _) (by omega) _ _) (by omega) _ _) (by omega) _ _) (by omega) _ _) (by omega) _ _
    · rcases bm with _ | _
      · rw [if_neg (by simp)] at he2 he3
        subst he2 he3
        go_wp2_with fail
        have K4 := A1 (w2.setCell ⟨w.heap.size, 1, none⟩ (.slice a m c))
        with_reducible refine K4.mono ?_
        rintro e w4 ⟨rfl, rfl⟩
        clear K4
        go_wp2_with fail
        refine bodyPost_ret (v := .agg #[.int .i64 g, .slice a m c, .int .i64 k, .int .i64 q]) ?_ rfl ⟨m, rfl, HM.out, ?_, ?_⟩
        · exact res_cell (p := 4) (B := w.heap.size + 2) rfl rfl (HYs.out.set _ _ _ _)
        · exact own_set_other (own_set_other (own_set_other (own_set_other HOs.out (fun j hj => by have := HNE.out j hj; omega) _ _) (fun j hj => by have := HNE.out j hj; omega) _ _) (fun j hj => by have := HNE.out j hj; omega) _ _) (fun j hj => by have := HNE.out j hj; omega) _ _
        · exact grown_store (grown_store (grown_store (grown_store HGs.out (by omega) _ _) (by omega) _ _) (by omega) _ _) (by omega) _ _
      · rw [if_pos (by simp)] at he2 he3
        subst he2 he3
        go_wp2_with fail
        have K4 := A1 (w2.setCell ⟨w.heap.size, 1, none⟩ (.slice a m c))
        with_reducible refine K4.mono ?_
        rintro e w4 ⟨rfl, rfl⟩
        clear K4
        go_wp2_with fail
        have K3 := F1 m (w2.setCell ⟨w.heap.size, 1, none⟩ (.slice a m c))
        with_reducible refine K3.mono ?_
        rintro e w3 ⟨rfl, hb3⟩
        have HXF := Lib.hid (HXs.out.on hb3)
        have HYF := Lib.hid (HYs.out.on hb3)
        have HOF := Lib.hid (own_keep HOs.out hb3)
        have HGF := Lib.hid (grown_below HGs.out hb3)
        obtain ⟨hm1, c0, c1, c2, c3, z0, z1, z2, z3⟩ := HXF.out
        obtain ⟨hm2, d0, d1, d2, d3, y0, y1, y2, y3⟩ := HYF.out
        clear hb3 K3
        go_wp2_with fail
        refine bodyPost_ret (v := .agg #[.int .i64 g, .slice a m c, .int .i64 0, .int .i64 0]) ?_ rfl ⟨m, rfl, HM.out, ?_, ?_⟩
        · exact res_cell (p := 4) (B := w.heap.size + 2) rfl rfl (((((HYF.out.other _ _ (by omega) _).other _ _ (by omega) _).other _ _ (by omega) _).other _ _ (by omega) _).set _ _ _ _)
        · exact own_set_other (own_set_other (own_set_other (own_set_other (own_set_other (own_set_other (own_set_other (own_set_other HOF.out (fun j hj => by have := HNE.out j hj; omega) _ _) (fun j hj => by have := HNE.out j hj; omega) _ _) (fun j hj => by have := HNE.out j hj; omega) _ _) (fun j hj => by have := HNE.out j hj; omega) _ _) (fun j hj => by have := HNE.out j hj; omega) _ _) (fun j hj => by have := HNE.out j hj; omega) _ _) (fun j hj => by have := HNE.out j hj; omega) _ _) (fun j hj => by have := HNE.out j hj; omega) _ _
        · exact grown_store (grown_store (grown_store (grown_store (grown_store (grown_store (grown_store (grown_store HGF.out (by omega) _ _) (by omega) _ _) (by omega) _ _) (by omega) _ _) (by omega) _ _) (by omega) _ _) (by omega) _ _) (by omega) _ _

end Go.Proofs.Ytoglkellaliegaa
