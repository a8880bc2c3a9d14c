import Derived.Test.YthccdoejnklidaaItW
import Derived.Lib.LazyBuf
import Derived.Lib.SliceRun
import Derived.Deep.OwnRows
import Derived.Laws.IdiomCopy
import Derived.Deep.RegionLaw
import Derived.Lib.Overlaps
import Derived.Lib.AppendZerosOnto
import Derived.Shelf.RegionOpenPlain
/- The walk of slices.Delete of one item. -/
namespace Go.Proofs.Ythccdoejnklidaa
open Go.RowKit

theorem item_ones (x y : Int) (t : ByteArray) (z : Int) : ∀ u ∈ [Value.int .i64 x, .int .i64 y, .string t, .int .i64 z], u.oneCell' = true := by
  intro u hu
  simp at hu
  rcases hu with rfl | rfl | rfl | rfl <;> rfl

/-- 'clear' of one item. -/
theorem run_clear_one (w : World) (ty : TypeId) (b o c : Nat) (h0 : ∀ j, j < 4 → (w.cell? ⟨b, o + j, none⟩).isSome = true) (f0 : ∀ j, j < 4 → w.frozen? ⟨b, o + j, none⟩ = false) :
    (Builtin.clear_ #[29] ty #[.slice (some ⟨b, o, none⟩) 1 c]).run Try.prog w = .ok (.tuple #[]) (w.setCells b o [.int .i64 0, .int .i64 0, .string ⟨#[]⟩, .int .i64 0]) := by
  have hst := run_storeCells_cells (P := Try.prog) b o [.int .i64 0, .int .i64 0, .string ⟨#[]⟩, .int .i64 0] 0 w (by
    intro j hj
    rw [Nat.add_zero]
    exact h0 j hj) (by
    intro j hj
    rw [Nat.add_zero]
    exact f0 j hj) (item_ones 0 0 ⟨#[]⟩ 0)
  simp only [Nat.add_zero] at hst
  have hzc : (Builtin.zeroCells (Value.agg #[.int .i64 0, .int .i64 0, .string ⟨#[]⟩, .int .i64 0]).cells 1).toList = [.int .i64 0, .int .i64 0, .string ⟨#[]⟩, .int .i64 0] := by
    simp [Builtin.zeroCells, Value.cells, List.range_succ, Array.toList_map, Array.toList_range]
  simp [Builtin.clear_, run_underlying Try.underlying29, hzc, hst]

theorem rowIs_own {w : World} {base g n cap : Nat} {e : TypeId} {xs : List Value} (h : w.ownsRow base e 4 (.slice (some ⟨g, 0, none⟩) n cap) n xs) : ∃ f, w.rowIs g e (cap * 4) f ∧ (∀ j, j < n * 4 → xs[j]? = some (f j)) ∧ base ≤ g ∧ n ≤ cap ∧ cap ≤ maxLen := by
  rcases h.2 with ⟨h', _⟩ | ⟨g', cap', cur, h', hb, hg, hnc, hcm, hsz, htake⟩
  · cases h'
  · cases h'
    refine ⟨fun j => cur.getD j default, ⟨cur, hg, hsz, fun j hj => ?_⟩, fun j hj => ?_, hb, hnc, hcm⟩
    · simp [Array.getD, hsz, hj]
    · have hj2 : j < cur.size := by rw [hsz]; omega
      rw [← htake, List.getElem?_take, if_pos hj]
      simp [Array.getD, hj2]

theorem own_rowIs {w : World} {base g n cap : Nat} {e : TypeId} {xs : List Value} {f : Nat → Value} (h : w.rowIs g e (cap * 4) f) (hx : xs.length = n * 4) (hf : ∀ j, j < n * 4 → xs[j]? = some (f j)) (hb : base ≤ g) (hnc : n ≤ cap) (hcm : cap ≤ maxLen) : w.ownsRow base e 4 (.slice (some ⟨g, 0, none⟩) n cap) n xs := by
  obtain ⟨cur, hg, hsz, hc⟩ := h
  refine ⟨hx, Or.inr ⟨g, cap, cur, rfl, hb, hg, hnc, hcm, hsz, ?_⟩⟩
  apply List.ext_getElem?
  intro j
  by_cases hj : j < n * 4
  · rw [List.getElem?_take, if_pos hj, hf j hj, Array.getElem?_toList, hc j (by omega)]
  · rw [List.getElem?_eq_none (by rw [List.length_take]; omega), List.getElem?_eq_none (by omega)]

set_option maxRecDepth 100000 in
set_option maxHeartbeats 4000000 in
theorem Delete_I (g cap n i m base : Nat) (ts : List Bg.It) (w : World) (hown : w.ownsRow base 61 4 (.slice (some ⟨g, 0, none⟩) n cap) n (tv ts)) (hn : n = i + 1 + m) (_hn2 : n ≤ 1000000) (W0 : World) (hB : Below base W0 w) (_hb0 : base ≤ w.heap.size) :
    Calls Try.prog 62 #[.slice (some ⟨g, 0, none⟩) n cap, .int .i64 i, .int .i64 ((i : Int) + 1)] w fun e w' =>
      e = .returned (.slice (some ⟨g, 0, none⟩) (i + m) cap) ∧ w'.ownsRow base 61 4 (.slice (some ⟨g, 0, none⟩) (i + m) cap) (i + m) (tv (ts.take i ++ ts.drop (i + 1))) ∧ Below base W0 w' := by
  obtain ⟨i0, hi0, hz0, hz1, hz2⟩ := info_parts Try.infoItem
  obtain ⟨f, hrow, hf, hbg, hnc, hcm⟩ := rowIs_own hown
  have hlen : ts.length = n := by have := hown.1; rw [tv_length] at this; omega
  unfold maxLen at hcm
  obtain ⟨news, hnews⟩ : ∃ news, news = tv (ts.drop (i + 1)) := ⟨_, rfl⟩
  have hnl : news.length = m * 4 := by rw [hnews, tv_length, List.length_drop]; omega
  have hrowd : w.drew.rowIs g 61 (cap * 4) f := hrow
  have hcell : ∀ j, j < cap * 4 → w.drew.cell? ⟨g, j, none⟩ = some (f j) := fun j hj => by
    obtain ⟨cur, h1, h2, h3⟩ := hrow
    have := cell_of_row w g j cur _ (0, 0) h1
    show w.cell? _ = _
    rw [this, h3 j hj]
  have hfz : ∀ j, w.drew.frozen? ⟨g, j, none⟩ = false := fun j => hown.frozenAt j
  obtain ⟨A, hA, hsrc⟩ : ∃ A : Addr, (if cap = i + 1 then some (⟨g, 0, none⟩ : Addr) else some ⟨g, (i + 1) * 4, none⟩) = some A ∧ Hid (∀ t u, news[t]? = some u → w.drew.cell? (A.add t) = some u) := by
    by_cases h : cap = i + 1
    · refine ⟨⟨g, 0, none⟩, by simp [h], Lib.hid fun t u hu => ?_⟩
      have h0 : news.length = 0 := by rw [hnl]; omega
      rw [List.length_eq_zero_iff.1 h0] at hu
      simp at hu
    · refine ⟨⟨g, (i + 1) * 4, none⟩, by simp [h], Lib.hid fun t u hu => ?_⟩
      have ht : t < m * 4 := by
        have := (List.getElem?_eq_some_iff.1 hu).1
        rwa [hnl] at this
      rw [hnews, tv_drop, List.getElem?_drop, hf _ (by omega)] at hu
      rw [addr_lit, hcell _ (by omega)]
      exact hu
  have s1 : Hid (news.length = m * 4) := Lib.hid hnl
  have s2 : Hid (∀ u ∈ news, u.oneCell' = true) := Lib.hid (by rw [hnews]; exact tv_one _)
  have s3 : Hid (∀ t, t < news.length → (w.drew.cell? ⟨g, 0 + i * 4 + t, none⟩).isSome = true ∧ w.drew.frozen? ⟨g, 0 + i * 4 + t, none⟩ = false) := Lib.hid (by
    intro t ht
    rw [hnl] at ht
    rw [Nat.zero_add]
    exact ⟨by rw [hcell _ (by omega)]; rfl, hfz _⟩)
  obtain ⟨W1, hW1⟩ : ∃ W1, W1 = w.drew.setCells g (0 + i * 4) news := ⟨_, rfl⟩
  have hr1 := rowIs_setCells news (0 + i * 4) w.drew f hrowd
  rw [← hW1] at hr1
  have hcl : ∀ ty, (Builtin.clear_ #[29] ty #[.slice (some ⟨g, (i + m) * 4, none⟩) 1 (cap - (i + m))]).run Try.prog W1 = .ok (.tuple #[]) (W1.setCells g ((i + m) * 4) [.int .i64 0, .int .i64 0, .string ⟨#[]⟩, .int .i64 0]) := fun ty => by
    obtain ⟨cur, h1, h2, h3⟩ := hr1
    exact run_clear_one W1 ty g ((i + m) * 4) _ (fun j hj => by rw [cell_of_row W1 g _ cur _ (0, 0) h1, h3 _ (by omega)]; rfl) (fun j _ => by rw [hW1, World.frozen?_setCells]; exact hfz _)
  have hr2 := rowIs_setCells [.int .i64 0, .int .i64 0, .string ⟨#[]⟩, .int .i64 0] ((i + m) * 4) W1 _ hr1
  have HF : Hid ((W1.setCells g ((i + m) * 4) [.int .i64 0, .int .i64 0, .string ⟨#[]⟩, .int .i64 0]).ownsRow base 61 4 (.slice (some ⟨g, 0, none⟩) (i + m) cap) (i + m) (tv (ts.take i ++ ts.drop (i + 1))) ∧ Below base W0 (W1.setCells g ((i + m) * 4) [.int .i64 0, .int .i64 0, .string ⟨#[]⟩, .int .i64 0])) := Lib.hid ⟨own_rowIs hr2 (by rw [tv_length, List.length_append, List.length_take, List.length_drop]; omega) (fun j hj => by
      rw [if_neg (by omega)]
      rw [tv_app, ← hnews]
      have hl1 : (tv (ts.take i)).length = i * 4 := by rw [tv_length, List.length_take]; omega
      by_cases h : j < i * 4
      · rw [if_neg (by omega), List.getElem?_append_left (by omega), tv_take, List.getElem?_take, if_pos h, hf j (by omega)]
      · rw [if_pos (by omega), List.getElem?_append_right (by omega), hl1, Nat.zero_add, List.getElem?_eq_getElem (by omega)]
        simp) hbg (by omega) (by unfold maxLen; omega), by
      rw [hW1]
      exact below_setCells hbg _ _ _ (below_setCells hbg _ _ _ hB.drew)⟩
  have hW : Hid (W1 = w.drew.setCells g (0 + i * 4) news) := Lib.hid hW1
  have hic : i ≤ cap := by omega
  have hjc : i + 1 ≤ cap := by omega
  have hmn : n - (i + 1) = m := by omega
  have h1n : n - (i + m) = 1 := by omega
  have hin : (i : Int) + 1 ≤ (n : Int) := by omega
  have h0i : (0 : Int) ≤ (i : Int) + 1 := by omega
  have hne : ((i : Int) == (i : Int) + 1) = false := beq_eq_false_iff_ne.2 (by omega)
  have him : (i : Int) + (m : Int) ≤ (n : Int) := by omega
  have t1 : ((i : Int) + 1).toNat = i + 1 := by omega
  have hcc : cap - (i + 1) + (i + 1) = cap := by omega
  clear hW1 hr1 hr2 hrow hrowd hcell hfz hnews hnl hf hown hB hlen hn
  go_enter Try.func62, Try.ntmps62
  go_wp2_with fail
  go_region_law (refine step_append_room rfl (.tmp 22) (.tmp 25) 29 rfl 61 i0 4 Try.underlying29 hi0 hz1 g 0 i cap (by simp [Act.eval, Act.put]) A m (cap - (i + 1)) news (by simp [Act.eval, Act.put]) s1.out hsrc.out s2.out (by omega) s3.out ?_; rw [← hW.out])
  go_wp2_with fail
  go_ret
  exact ⟨rfl, HF.out⟩

end Go.Proofs.Ythccdoejnklidaa

/- The walk of slices.Insert at items. -/
namespace Go.Proofs.Ythccdoejnklidaa
open Go.RowKit

theorem below_grown {w w' : World} (h : Below w.heap.size w w') (row : Option Nat) : w.grownBy w' row := ⟨h.os, h.tape, h.output, h.size, fun k hk _ => h.block k hk⟩

theorem setCells_grown (w : World) (g : Nat) : ∀ (Z : List Value) (o : Nat), w.grownBy (w.setCells g o Z) (some g) := fun Z => by
  suffices ∀ (W : World) (o : Nat), w.grownBy W (some g) → w.grownBy (W.setCells g o Z) (some g) from fun o => this w o (Lib.Hx.grownBy_refl _ _)
  induction Z with
  | nil => intro W o h; exact h
  | cons u Z ih => intro W o h; exact ih _ _ (Lib.Hx.grownBy_set h _ rfl u)

theorem own_block_lt {w : World} {base n size : Nat} {e : TypeId} {v : Value} {xs : List Value} (h : w.ownsRow base e size v n xs) : ∀ k, v.ownBlock = some k → k < w.heap.size := by
  intro k hk
  rcases h.2 with ⟨rfl, _⟩ | ⟨g, cap, cur, rfl, hb, hh, _⟩
  · cases hk
  · cases hk
    rcases Nat.lt_or_ge g w.heap.size with h | h
    · exact h
    · rw [Array.getElem?_eq_none h] at hh; cases hh

section
variable {P : Program}
theorem run_copy_cells4 (w : World) (dT sT ty elem : TypeId) (b o dLen dCap : Nat) (a : Addr) (sLen sCap m : Nat) (cs : List Value)
    (hu : P.underlying dT = some (.slice elem)) (hs : (P.info? elem).map (·.size) = some 4) (hm : m = Nat.min sLen dLen) (hn : cs.length = m * 4)
    (hsrc : ∀ j v, cs[j]? = some v → w.cell? (a.add j) = some v) (hc : ∀ j, j < cs.length → (w.cell? ⟨b, o + j, none⟩).isSome = true) (hf : ∀ j, j < cs.length → w.frozen? ⟨b, o + j, none⟩ = false) (h1 : ∀ v ∈ cs, v.oneCell' = true) :
    (Builtin.copy_ #[dT, sT] ty #[.slice (some ⟨b, o, none⟩) dLen dCap, .slice (some a) sLen sCap]).run P w = .ok (goInt m) (w.setCells b o cs) := by
  have hl := run_loadCells_list (P := P) w a cs hsrc
  rw [hn] at hl
  have hst := run_storeCells_cells (P := P) b o cs 0 w (by simpa using hc) (by simpa using hf) h1
  cases hq : P.info? elem with
  | none => simp [hq] at hs
  | some i =>
    have hi : i.size = 4 := by simpa [hq] using hs
    simp [Builtin.copy_, run_underlying hu, Builtin.lenOf, Builtin.firstCells, sizeOf, typeInfo, hq, hi, ← hm, hl, hst]

theorem wp_copy_run2 (w : World) {o : Oper} {a : Act} {K : Act → World → Prop} {Q : Exit → Act → World → Prop} (d s : Operand) (t t' : TypeId)
    (ho : o.op = .call { callee := .builtin .copy, args := #[d, s], argTypes := #[t, t'] }) (v u : Value) (hd : a.eval d = v) (hs : a.eval s = u) {v' : Value} {w' : World}
    (hr : (Builtin.copy_ #[t, t'] o.type #[v, u]).run P w = .ok v' w') (h : K (a.put o.dst v') w') : o.wp P a w K Q := by
  unfold Oper.wp execOp
  simp only [ho, resolve, invoke, builtin, Sem.run_bind, Sem.run_pure, Result.andThen_ok, List.map_toArray, List.map_cons, List.map_nil, hd, hs, hr]
  exact h

theorem wpList_copy_run2 (w : World) {ops : Array Oper} {rest : List Oper} {o : Oper} {a : Act} {Q : Exit → Act → World → Prop} (hgd : o.guard = none) (d s : Operand) (t t' : TypeId)
    (ho : o.op = .call { callee := .builtin .copy, args := #[d, s], argTypes := #[t, t'] }) (v u : Value) (hd : a.eval d = v) (hs : a.eval s = u) {v' : Value} {w' : World}
    (hr : (Builtin.copy_ #[t, t'] o.type #[v, u]).run P w = .ok v' w') (h : wpList P ops Q rest (a.put o.dst v') w') : wpList P ops Q (o :: rest) a w :=
  wpList_plain hgd fun _ hK => wp_copy_run2 w d s t t' ho v u hd hs hr (hK _ _ h)

theorem step_copy_run2 {ops : Array Oper} {o : Oper} {a : Act} {w : World} {K : Act → World → Prop} {Q : Exit → Act → World → Prop} {E : Prop}
    (hg : o.guard = none) (d x : Operand) (dT sT : TypeId) (hop : o.op = Op.call { callee := Callee.builtin Builtin.copy, args := #[d, x], argTypes := #[dT, sT] })
    (v u : Value) (hd : a.eval d = v) (hx : a.eval x = u) {v' : Value} {w' : World} (hr : (Builtin.copy_ #[dT, sT] o.type #[v, u]).run P w = .ok v' w') (hK : K (a.put o.dst v') w') :
    if Region.wanted o (yielded ops a.tmps) = true then Oper.wp P o a w K Q else E := by
  have hw : Region.wanted o (yielded ops a.tmps) = true := by simp [Region.wanted, hg]
  rw [if_pos hw]
  unfold Oper.wp
  simp [execOp, hop, resolve, invoke, builtin, hd, hx, hr, Result.andThen]
  exact hK
end

theorem rowIs_cell {w : World} {g N : Nat} {e : TypeId} {f : Nat → Value} (h : w.rowIs g e N f) {j : Nat} (hj : j < N) : w.cell? ⟨g, j, none⟩ = some (f j) := by
  obtain ⟨cur, h1, h2, h3⟩ := h
  rw [cell_of_row w g j cur _ (0, 0) h1, h3 j hj]

theorem rowIs_frozen {w : World} {g N : Nat} {e : TypeId} {f : Nat → Value} (h : w.rowIs g e N f) (j : Nat) : w.frozen? ⟨g, j, none⟩ = false := by
  obtain ⟨cur, h1, h2, h3⟩ := h
  unfold World.frozen?
  rw [h1]
  simp

theorem rowIs_shape {w : World} {g N : Nat} {e : TypeId} {f : Nat → Value} (h : w.rowIs g e N f) : w.shape? g = some (e, N) := by
  obtain ⟨cur, h1, h2, h3⟩ := h
  unfold World.shape?
  rw [h1, ← h2]

theorem rowIs_drew {w : World} {g N : Nat} {e : TypeId} {f : Nat → Value} (h : w.rowIs g e N f) : w.drew.rowIs g e N f := h

set_option maxRecDepth 100000 in
set_option maxHeartbeats 8000000 in
/-- There is room. -/
theorem Insert_room (g c n i base vb : Nat) (x y q : Int) (z : ByteArray) (ts : List Bg.It) (w : World) (hown : w.ownsRow base 61 4 (.slice (some ⟨g, 0, none⟩) n c) n (tv ts)) (hi : i < n) (hn : n ≤ 64) (hroom : n + 1 ≤ c)
    (hvb : vb ≠ g) (hv : w.rowIs vb 61 4 (fun j => [Value.int .i64 x, .int .i64 y, .string z, .int .i64 q].getD j (.int .i64 0))) :
    Calls Try.prog 65 #[.slice (some ⟨g, 0, none⟩) n c, .int .i64 i, .slice (some ⟨vb, 0, none⟩) 1 1] w fun e w' =>
      ∃ a' c', e = .returned (.slice a' (n + 1) c') ∧ w'.ownsRow base 61 4 (.slice a' (n + 1) c') (n + 1) (tv (ts.take i ++ ⟨x, y, z, q⟩ :: ts.drop i)) ∧ w.grownBy w' (some g) ∧ (∀ j, (Value.slice a' (n + 1) c').ownBlock = some j → some g = some j ∨ j = w.heap.size) := by
  obtain ⟨f, hrow, hf, hbg, hnc, hcm⟩ := rowIs_own hown
  have hlen : ts.length = n := by have := hown.1; rw [tv_length] at this; omega
  unfold maxLen at hcm
  obtain ⟨i0, hi0, hz0, hz1, hz2⟩ := info_parts Try.infoItem
  have hsz : (Try.prog.info? 61).map (·.size) = some 4 := by rw [hi0]; simp [hz1]
  obtain ⟨D, hD⟩ : ∃ D, D = tv (ts.drop i) := ⟨_, rfl⟩
  have hDl : D.length = (n - i) * 4 := by rw [hD, tv_length, List.length_drop, hlen]
  have hD1 : ∀ u ∈ D, u.oneCell' = true := by rw [hD]; exact tv_one _
  have hDf : ∀ j u, D[j]? = some u → f (i * 4 + j) = u := fun j u hu => by
    have hj : j < (n - i) * 4 := by rw [← hDl]; exact (List.getElem?_eq_some_iff.1 hu).1
    rw [hD, tv_drop, List.getElem?_drop, hf _ (by omega)] at hu
    exact Option.some.inj hu
  have hov : ∀ lb cb, (callFunc 71 #[.slice (some ⟨vb, 0, none⟩) 1 1, .slice (some ⟨g, (i + 1) * 4, none⟩) lb cb]).run Try.prog w = .ok (.value (.bool false)) w := fun lb cb => by
    rw [run_callFunc_extern Try.func71 (by kernel_rfl) (by kernel_rfl) (by kernel_rfl) (e := Extern.SlicesOverlaps.overlaps #[29, 29] #[4]) (by kernel_rfl),
      Lib.run_overlaps_apart w 29 4 61 Try.underlying29 4 Try.sizeOf61 ⟨vb, 0, none⟩ ⟨g, (i + 1) * 4, none⟩ 1 1 lb cb hvb _ _ _ _ (rowIs_shape hv) (rowIs_shape hrow) (by omega) (rowIs_frozen hv _) (rowIs_frozen hv _)]
    rfl
  have hcp1 : ∀ ty dc sc, (Builtin.copy_ #[29, 29] ty #[.slice (some ⟨g, (i + 1) * 4, none⟩) (n - i) dc, .slice (some ⟨g, i * 4, none⟩) (n + 1 - i) sc]).run Try.prog w.drew = .ok (goInt ((n - i : Nat) : Int)) (w.drew.setCells g ((i + 1) * 4) D) := fun ty dc sc =>
    run_copy_cells4 w.drew _ _ ty 61 g ((i + 1) * 4) (n - i) dc ⟨g, i * 4, none⟩ (n + 1 - i) sc (n - i) D Try.underlying29 hsz (by simp only [Nat.min_def]; split <;> omega) hDl
      (fun j v hj => by rw [addr_lit, rowIs_cell (rowIs_drew hrow) (by have := (List.getElem?_eq_some_iff.1 hj).1; omega), hDf j v hj])
      (fun j hj => by rw [rowIs_cell (rowIs_drew hrow) (by omega)]; rfl) (fun j hj => rowIs_frozen (rowIs_drew hrow) _) hD1
  obtain ⟨W1, hW1⟩ : ∃ W1, W1 = w.drew.setCells g ((i + 1) * 4) D := ⟨_, rfl⟩
  have hr1 := rowIs_setCells D ((i + 1) * 4) w.drew f (rowIs_drew hrow)
  rw [← hW1] at hr1 hcp1
  have hvw : vb < w.heap.size := by
    obtain ⟨cur, h1, -⟩ := hv
    rcases Nat.lt_or_ge vb w.heap.size with h | h
    · exact h
    · rw [Array.getElem?_eq_none h] at h1; cases h1
  have hv1 : ∀ j, W1.cell? ⟨vb, j, none⟩ = w.cell? ⟨vb, j, none⟩ := fun j => by
    rw [hW1, World.cell?_setCells_out g _ _ _ _ (fun h _ => absurd h hvb)]
    rfl
  have hcp2 : ∀ (W : World), (∀ x, W.cell? x = W1.cell? x) → (∀ x, W.frozen? x = W1.frozen? x) → ∀ ty dc, (Builtin.copy_ #[29, 29] ty #[.slice (some ⟨g, i * 4, none⟩) (n + 1 - i) dc, .slice (some ⟨vb, 0, none⟩) 1 1]).run Try.prog W = .ok (goInt ((1 : Nat) : Int)) (W.setCells g (i * 4) [.int .i64 x, .int .i64 y, .string z, .int .i64 q]) := fun W hWc hWf ty dc =>
    run_copy_cells4 W _ _ ty 61 g (i * 4) (n + 1 - i) dc ⟨vb, 0, none⟩ 1 1 1 [.int .i64 x, .int .i64 y, .string z, .int .i64 q] Try.underlying29 hsz (by simp only [Nat.min_def]; split <;> omega) rfl
      (fun j v hj => by
        rw [addr_lit, Nat.zero_add, hWc, hv1]
        rcases j with _ | _ | _ | _ | j
        · rw [rowIs_cell hv (by omega)]; exact hj
        · rw [rowIs_cell hv (by omega)]; exact hj
        · rw [rowIs_cell hv (by omega)]; exact hj
        · rw [rowIs_cell hv (by omega)]; exact hj
        · simp at hj)
      (fun j hj => by
        have hj' : j < 4 := hj
        rw [hWc, rowIs_cell hr1 (by omega)]; rfl)
      (fun j hj => by rw [hWf]; exact rowIs_frozen hr1 _) (item_ones x y z q)
  have hr2 := rowIs_setCells [.int .i64 x, .int .i64 y, .string z, .int .i64 q] (i * 4) W1 _ hr1
  have HF : Hid ((W1.setCells g (i * 4) [.int .i64 x, .int .i64 y, .string z, .int .i64 q]).ownsRow base 61 4 (.slice (some ⟨g, 0, none⟩) (n + 1) c) (n + 1) (tv (ts.take i ++ ⟨x, y, z, q⟩ :: ts.drop i)) ∧ w.grownBy (W1.setCells g (i * 4) [.int .i64 x, .int .i64 y, .string z, .int .i64 q]) (some g)) := Lib.hid ⟨own_rowIs hr2 (by rw [tv_length, List.length_append, List.length_cons, List.length_take, List.length_drop]; omega) (fun j hj => by
      have hl1 : (tv (ts.take i)).length = i * 4 := by rw [tv_length, List.length_take]; omega
      rw [tv_app]
      by_cases h : j < i * 4
      · rw [List.getElem?_append_left (by omega), tv_take, List.getElem?_take, if_pos h, hf j (by omega)]
        rw [if_neg (by simp only [List.length_cons, List.length_nil]; omega), if_neg (by omega)]
      · rw [List.getElem?_append_right (by omega), hl1]
        rw [tv]
        by_cases h2 : j < i * 4 + 4
        · rw [if_pos ⟨by omega, by simp only [List.length_cons, List.length_nil]; omega⟩]
          obtain rfl | rfl | rfl | rfl : j = i * 4 ∨ j = i * 4 + 1 ∨ j = i * 4 + 2 ∨ j = i * 4 + 3 := by omega
          · rw [Nat.sub_self]; rfl
          · rw [show i * 4 + 1 - i * 4 = 1 by omega]; rfl
          · rw [show i * 4 + 2 - i * 4 = 2 by omega]; rfl
          · rw [show i * 4 + 3 - i * 4 = 3 by omega]; rfl
        · rw [if_neg (by simp only [List.length_cons, List.length_nil]; omega), if_pos (by omega)]
          obtain ⟨m, rfl⟩ : ∃ m, j = i * 4 + 4 + m := ⟨j - (i * 4 + 4), by omega⟩
          rw [show i * 4 + 4 + m - i * 4 = m + 4 by omega, show i * 4 + 4 + m - (i + 1) * 4 = m by omega]
          rw [List.getElem?_cons_succ, List.getElem?_cons_succ, List.getElem?_cons_succ, List.getElem?_cons_succ, ← hD, List.getElem?_eq_getElem (by omega)]
          simp) hbg hroom (by unfold maxLen; omega), by
      have h1 : w.grownBy w.drew (some g) := below_grown (Below.refl _ w).drew _
      rw [hW1]
      exact (h1.trans (setCells_grown _ g _ _)).trans (setCells_grown _ g _ _)⟩
  have HW := Lib.hid hW1
  have hz1 : ¬ ((i : Int) = (n : Int)) := by omega
  have hw1 : IntKind.i64.wrap ((i : Int) + 1) = (i : Int) + 1 := by rw [IntKind.wrap_i64]; omega
  have hb1 : (0 : Int) ≤ (i : Int) + 1 := by omega
  have hin : i ≤ n := by omega
  have htn : ((i : Int) + 1).toNat = i + 1 := by omega
  have hb2 : ¬ (c = i + 1) := by omega
  have hb3 : (i : Int) + 1 ≤ (n : Int) + 1 := by omega
  have hb4 : ¬ (c = i) := by omega
  have hb5 : (i : Int) ≤ (n : Int) + 1 := by omega
  have mixed : Try.prog.follows Departure.mixedOrders = true := by kernel_rfl
  clear hW1 hr1 hr2 hrow hv hv1 hvw hf hown hlen hD hDl hD1 hDf
  go_enter Try.func65, Try.ntmps65
  go_wp2_with (simp only [hov])
  go_region_law_o (refine step_copy_run2 rfl _ _ 29 29 rfl (.slice (some ⟨g, (i + 1) * 4, none⟩) (n - i) (c - (i + 1))) (.slice (some ⟨g, i * 4, none⟩) (n + 1 - i) (c - i)) (by simp [Act.eval, Act.put]) (by simp [Act.eval, Act.put]) (hcp1 _ _ _) ?_)
  go_wp2_with (at_builtin; refine wpList_copy_run2 _ rfl _ _ 29 29 rfl _ _ rfl rfl (hcp2 _ (fun _ => rfl) (fun _ => rfl) _ _) ?_)
  go_ret
  exact ⟨_, _, rfl, HF.out.1, HF.out.2, fun j hj => Or.inl hj⟩

set_option maxRecDepth 100000 in
set_option maxHeartbeats 8000000 in
/-- There is no room. -/
theorem Insert_grow (g n i base vb : Nat) (x y q : Int) (z : ByteArray) (ts : List Bg.It) (w : World) (hown : w.ownsRow base 61 4 (.slice (some ⟨g, 0, none⟩) n n) n (tv ts)) (hi : i < n) (hn : n ≤ 64) (hbw : base ≤ w.heap.size)
    (hv : w.rowIs vb 61 4 (fun j => [Value.int .i64 x, .int .i64 y, .string z, .int .i64 q].getD j (.int .i64 0))) :
    Calls Try.prog 65 #[.slice (some ⟨g, 0, none⟩) n n, .int .i64 i, .slice (some ⟨vb, 0, none⟩) 1 1] w fun e w' =>
      ∃ a' c', e = .returned (.slice a' (n + 1) c') ∧ w'.ownsRow base 61 4 (.slice a' (n + 1) c') (n + 1) (tv (ts.take i ++ ⟨x, y, z, q⟩ :: ts.drop i)) ∧ w.grownBy w' (some g) ∧ (∀ j, (Value.slice a' (n + 1) c').ownBlock = some j → some g = some j ∨ j = w.heap.size) := by
  obtain ⟨f, hrow, hf, hbg, hnc, hcm⟩ := rowIs_own hown
  have hlen : ts.length = n := by have := hown.1; rw [tv_length] at this; omega
  unfold maxLen at hcm
  obtain ⟨i0, hi0, hz0, hz1, hz2⟩ := info_parts Try.infoItem
  have hsz : (Try.prog.info? 61).map (·.size) = some 4 := by rw [hi0]; simp [hz1]
  have hgw : g < w.heap.size := own_block_lt hown g rfl
  obtain ⟨D, hD⟩ : ∃ D, D = tv (ts.drop i) := ⟨_, rfl⟩
  have hDl : D.length = (n - i) * 4 := by rw [hD, tv_length, List.length_drop, hlen]
  have hD1 : ∀ u ∈ D, u.oneCell' = true := by rw [hD]; exact tv_one _
  have hDf : ∀ j u, D[j]? = some u → f (i * 4 + j) = u := fun j u hu => by
    have hj : j < (n - i) * 4 := by rw [← hDl]; exact (List.getElem?_eq_some_iff.1 hu).1
    rw [hD, tv_drop, List.getElem?_drop, hf _ (by omega)] at hu
    exact Option.some.inj hu
  have hvw : vb < w.heap.size := by
    obtain ⟨cur, h1, -⟩ := hv
    rcases Nat.lt_or_ge vb w.heap.size with h | h
    · exact h
    · rw [Array.getElem?_eq_none h] at h1; cases h1
  have hTl : (tv (ts.take i)).length = i * 4 := by rw [tv_length, List.length_take]; omega
  have hold : (Builtin.firstCells i0.size i (.slice (some ⟨g, 0, none⟩) i n)).run Try.prog w.drew = .ok (tv (ts.take i)).toArray w.drew := by
    rw [hz1]
    refine run_firstCells_some w.drew 4 i ⟨g, 0, none⟩ i n (tv (ts.take i)) hTl (fun j v hj => ?_)
    have hj2 : j < i * 4 := by rw [← hTl]; exact (List.getElem?_eq_some_iff.1 hj).1
    rw [addr_lit, Nat.zero_add, rowIs_cell (rowIs_drew hrow) (by omega)]
    rw [tv_take, List.getElem?_take, if_pos hj2, hf j (by omega)] at hj
    exact hj
  obtain ⟨G, hG⟩ : ∃ G, G = grownCap w (n + 1) n 61 := ⟨_, rfl⟩
  have hGn : n + 1 ≤ G := by rw [hG]; exact grownCap_ge w _ _ _
  have hG63 : G ≤ maxLen := by rw [hG]; exact grownCap_le_maxLen w (n + 1) n 61 (by unfold maxLen; omega)
  obtain ⟨ROW, hROW⟩ : ∃ ROW : Array Value, ROW = (tv (ts.take i)).toArray ++ Builtin.zeroCells (Value.agg #[.int .i64 0, .int .i64 0, .string ⟨#[]⟩, .int .i64 0]).cells (n + 1 - i) ++ Builtin.zeroCells (Value.agg #[.int .i64 0, .int .i64 0, .string ⟨#[]⟩, .int .i64 0]).cells (G - (n + 1)) := ⟨_, rfl⟩
  have hrz : ∀ ty, (Builtin.append_ #[29, 3] ty #[.slice (some ⟨g, 0, none⟩) i n, .int .i64 ((n : Int) + 1 - (i : Int))]).run Try.prog w =
      .ok (.slice (some ⟨w.heap.size, 0, none⟩) (n + 1) G) (w.drew.alloc (.cells ROW 61)) := fun ty => by
    have h := Lib.run_append_grow_zeros w 29 3 ty 61 i0 _ .i64 .i64 Try.underlying29 Try.underlying3 hi0 hz0 (some ⟨g, 0, none⟩) i n (tv (ts.take i)) hold (n + 1 - i) (by omega) (by omega) (by omega) (by omega) (by rw [hz2]; omega) (by
      rw [hz2, show i + (n + 1 - i) = n + 1 by omega]
      exact growslice_fits (by omega) (by omega))
    rw [show i + (n + 1 - i) = n + 1 by omega, ← hG, ← hROW] at h
    rw [show (n : Int) + 1 - (i : Int) = ((n + 1 - i : Nat) : Int) by omega]
    exact h
  have hRs : ROW.size = G * 4 := by
    rw [hROW, Array.size_append, Array.size_append, size_zeroCells, size_zeroCells, List.size_toArray, hTl]
    show i * 4 + (n + 1 - i) * 4 + (G - (n + 1)) * 4 = G * 4
    omega
  have hRt : ∀ j, j < i * 4 → ROW.getD j default = f j := fun j hj => by
    have h1 : ROW[j]? = (tv (ts.take i))[j]? := by
      rw [hROW, Array.getElem?_append_left (by rw [Array.size_append, size_zeroCells, List.size_toArray, hTl]; omega), Array.getElem?_append_left (by rw [List.size_toArray, hTl]; exact hj), List.getElem?_toArray]
    rw [tv_take, List.getElem?_take, if_pos hj, hf j (by omega)] at h1
    rw [Array.getD_eq_getD_getElem?, h1]
    rfl
  obtain ⟨W1, hW1⟩ : ∃ W1, W1 = w.drew.alloc (.cells ROW 61) := ⟨_, rfl⟩
  obtain ⟨N, hN⟩ : ∃ N, N = w.heap.size := ⟨_, rfl⟩
  have hrow1 : W1.rowIs N 61 (G * 4) (fun j => ROW.getD j default) := ⟨ROW, by
    rw [hW1, hN]
    show (w.heap.push _)[w.heap.size]? = _
    rw [Array.getElem?_push, if_pos rfl], hRs, fun j hj => by
      show ROW[j]? = some (ROW.getD j default)
      rw [Array.getD_eq_getD_getElem?, Array.getElem?_eq_getElem (by omega)]
      rfl⟩
  have hold1 : ∀ b j, b < N → W1.cell? ⟨b, j, none⟩ = w.cell? ⟨b, j, none⟩ := fun b j hb => by
    rw [hW1, World.cell?_alloc_past _ _ _ (by show b < w.heap.size; omega)]
    rfl
  have hgr1 : w.grownBy W1 (some g) := by
    rw [hW1]
    exact below_grown (((Below.refl _ w).drew).alloc (Nat.le_refl _) _) _
  have hcpA : ∀ (W : World), (∀ x, W.cell? x = W1.cell? x) → (∀ x, W.frozen? x = W1.frozen? x) → ∀ ty dc, (Builtin.copy_ #[29, 29] ty #[.slice (some ⟨N, i * 4, none⟩) (n + 1 - i) dc, .slice (some ⟨vb, 0, none⟩) 1 1]).run Try.prog W = .ok (goInt ((1 : Nat) : Int)) (W.setCells N (i * 4) [.int .i64 x, .int .i64 y, .string z, .int .i64 q]) := fun W hWc hWf ty dc =>
    run_copy_cells4 W _ _ ty 61 N (i * 4) (n + 1 - i) dc ⟨vb, 0, none⟩ 1 1 1 [.int .i64 x, .int .i64 y, .string z, .int .i64 q] Try.underlying29 hsz (by simp only [Nat.min_def]; split <;> omega) rfl
      (fun j v hj => by
        rw [addr_lit, Nat.zero_add, hWc, hold1 _ _ (by omega)]
        rcases j with _ | _ | _ | _ | j
        · rw [rowIs_cell hv (by omega)]; exact hj
        · rw [rowIs_cell hv (by omega)]; exact hj
        · rw [rowIs_cell hv (by omega)]; exact hj
        · rw [rowIs_cell hv (by omega)]; exact hj
        · simp at hj)
      (fun j hj => by
        have hj' : j < 4 := hj
        rw [hWc, rowIs_cell hrow1 (by omega)]; rfl)
      (fun j hj => by rw [hWf]; exact rowIs_frozen hrow1 _) (item_ones x y z q)
  have hr2 := rowIs_setCells [.int .i64 x, .int .i64 y, .string z, .int .i64 q] (i * 4) W1 _ hrow1
  obtain ⟨W2, hW2⟩ : ∃ W2, W2 = W1.setCells N (i * 4) [.int .i64 x, .int .i64 y, .string z, .int .i64 q] := ⟨_, rfl⟩
  rw [← hW2] at hr2
  have hcpB : ∀ (W : World), (∀ x, W.cell? x = W2.cell? x) → (∀ x, W.frozen? x = W2.frozen? x) → ∀ ty dc sc, (Builtin.copy_ #[29, 29] ty #[.slice (some ⟨N, (i + 1) * 4, none⟩) (n - i) dc, .slice (some ⟨g, i * 4, none⟩) (n - i) sc]).run Try.prog W = .ok (goInt ((n - i : Nat) : Int)) (W.setCells N ((i + 1) * 4) D) := fun W hWc hWf ty dc sc =>
    run_copy_cells4 W _ _ ty 61 N ((i + 1) * 4) (n - i) dc ⟨g, i * 4, none⟩ (n - i) sc (n - i) D Try.underlying29 hsz (by simp only [Nat.min_def]; split <;> omega) hDl
      (fun j v hj => by
        rw [addr_lit, hWc, hW2, World.cell?_setCells_out N _ _ _ _ (fun h _ => by have h' : g = N := h; omega), hold1 _ _ (by omega), rowIs_cell hrow (by have := (List.getElem?_eq_some_iff.1 hj).1; omega), hDf j v hj])
      (fun j hj => by rw [hWc, rowIs_cell hr2 (by omega)]; rfl) (fun j hj => by rw [hWf]; exact rowIs_frozen hr2 _) hD1
  have hr3 := rowIs_setCells D ((i + 1) * 4) W2.drew _ (rowIs_drew hr2)
  obtain ⟨W3, hW3⟩ : ∃ W3, W3 = W2.drew.setCells N ((i + 1) * 4) D := ⟨_, rfl⟩
  rw [← hW3] at hr3
  have hgN : some g ≠ some N := by intro e; cases e; omega
  have HF : Hid (W3.ownsRow base 61 4 (.slice (some ⟨N, 0, none⟩) (n + 1) G) (n + 1) (tv (ts.take i ++ ⟨x, y, z, q⟩ :: ts.drop i)) ∧ w.grownBy W3 (some g)) := Lib.hid ⟨own_rowIs hr3 (by rw [tv_length, List.length_append, List.length_cons, List.length_take, List.length_drop]; omega) (fun j hj => by
      rw [tv_app]
      by_cases h : j < i * 4
      · rw [List.getElem?_append_left (by omega), tv_take, List.getElem?_take, if_pos h, hf j (by omega)]
        rw [if_neg (by omega), if_neg (by omega), hRt j h]
      · rw [List.getElem?_append_right (by omega), hTl]
        rw [tv]
        by_cases h2 : j < i * 4 + 4
        · rw [if_neg (by omega), if_pos ⟨by omega, by simp only [List.length_cons, List.length_nil]; omega⟩]
          obtain rfl | rfl | rfl | rfl : j = i * 4 ∨ j = i * 4 + 1 ∨ j = i * 4 + 2 ∨ j = i * 4 + 3 := by omega
          · rw [Nat.sub_self]; rfl
          · rw [show i * 4 + 1 - i * 4 = 1 by omega]; rfl
          · rw [show i * 4 + 2 - i * 4 = 2 by omega]; rfl
          · rw [show i * 4 + 3 - i * 4 = 3 by omega]; rfl
        · rw [if_pos (by omega)]
          obtain ⟨m, rfl⟩ : ∃ m, j = i * 4 + 4 + m := ⟨j - (i * 4 + 4), by omega⟩
          rw [show i * 4 + 4 + m - i * 4 = m + 4 by omega, show i * 4 + 4 + m - (i + 1) * 4 = m by omega]
          rw [List.getElem?_cons_succ, List.getElem?_cons_succ, List.getElem?_cons_succ, List.getElem?_cons_succ, ← hD, List.getElem?_eq_getElem (by omega)]
          simp) (by omega) hGn hG63, by
      rw [hW3, hW2]
      have h1 := setCells_grown W1 N [.int .i64 x, .int .i64 y, .string z, .int .i64 q] (i * 4)
      have h2 := (h1.trans (below_grown (Below.refl _ _).drew _)).trans (setCells_grown _ N D ((i + 1) * 4))
      refine ⟨h2.os.trans hgr1.os, h2.tape.trans hgr1.tape, h2.output.trans hgr1.output, Nat.le_trans hgr1.size h2.size, fun b hb hne => ?_⟩
      rw [h2.block b (Nat.lt_of_lt_of_le hb hgr1.size) (by intro e; cases e; omega)]
      exact hgr1.block b hb hne⟩
  have hz1' : ¬ ((i : Int) = (n : Int)) := by omega
  have hw1 : IntKind.i64.wrap ((i : Int) + 1) = (i : Int) + 1 := by rw [IntKind.wrap_i64]; omega
  have hb1 : (0 : Int) ≤ (i : Int) + 1 := by omega
  have hin : i ≤ n := by omega
  have htn : ((i : Int) + 1).toNat = i + 1 := by omega
  have hb2 : ¬ (G = i + 1) := by omega
  have hb3 : (i : Int) + 1 ≤ (n : Int) + 1 := by omega
  have hb4 : ¬ (G = i) := by omega
  have hb5 : (i : Int) ≤ (n : Int) + 1 := by omega
  have hb6 : ¬ (n = i) := by omega
  have hb7 : (i : Int) ≤ (n : Int) := by omega
  have mixed : Try.prog.follows Departure.mixedOrders = true := by kernel_rfl
  have HW1 : Hid (W1 = w.drew.alloc (.cells ROW 61) ∧ W2 = W1.setCells N (i * 4) [.int .i64 x, .int .i64 y, .string z, .int .i64 q] ∧ W3 = W2.drew.setCells N ((i + 1) * 4) D) := Lib.hid ⟨hW1, hW2, hW3⟩
  rw [← hW1] at hrz
  subst hN
  clear hW1 hW2 hW3 hr2 hr3 hrow1 hrow hv hold1 hold hvw hf hown hlen hD hDl hD1 hDf hROW hRs hRt hG hTl hgr1 hgN
  go_enter Try.func65, Try.ntmps65
  go_wp2_with (first
    | (at_builtin; refine Lib.wpList_append_run _ rfl _ _ _ _ rfl _ _ rfl rfl _ _ (hrz _) ?_)
    | (at_builtin; refine wpList_copy_run2 _ rfl _ _ 29 29 rfl _ _ rfl rfl (hcpA _ (fun _ => rfl) (fun _ => rfl) _ _) ?_))
  go_region_law_o (refine step_copy_run2 rfl _ _ 29 29 rfl (.slice (some ⟨w.heap.size, (i + 1) * 4, none⟩) (n - i) (G - (i + 1))) (.slice (some ⟨g, i * 4, none⟩) (n - i) (n - i)) (by simp [Act.eval, Act.put]) (by simp [Act.eval, Act.put]) (hcpB _ (fun _ => by rw [HW1.out.2.1]; rfl) (fun _ => by rw [HW1.out.2.1]; rfl) _ _ _) ?_)
  go_wp2_with fail
  go_ret
  obtain ⟨h1, h2, h3⟩ := HW1.out
  refine ⟨_, _, rfl, ?_⟩
  have h := HF.out
  rw [h3, h2] at h
  exact ⟨h.1, h.2, fun j hj => Or.inr (Option.some.inj hj).symm⟩

set_option maxRecDepth 100000 in
set_option maxHeartbeats 8000000 in
/-- At the end. -/
theorem Insert_end (a : Option Addr) (n c base vb : Nat) (x y q : Int) (z : ByteArray) (ts : List Bg.It) (w : World) (hown : w.ownsRow base 61 4 (.slice a n c) n (tv ts)) (hn : n ≤ 64) (hbw : base ≤ w.heap.size)
    (hv : w.rowIs vb 61 4 (fun j => [Value.int .i64 x, .int .i64 y, .string z, .int .i64 q].getD j (.int .i64 0))) :
    Calls Try.prog 65 #[.slice a n c, .int .i64 n, .slice (some ⟨vb, 0, none⟩) 1 1] w fun e w' =>
      ∃ a' c', e = .returned (.slice a' (n + 1) c') ∧ w'.ownsRow base 61 4 (.slice a' (n + 1) c') (n + 1) (tv (ts ++ [⟨x, y, z, q⟩])) ∧ w.grownBy w' (Value.slice a n c).ownBlock ∧ (∀ j, (Value.slice a' (n + 1) c').ownBlock = some j → (Value.slice a n c).ownBlock = some j ∨ j = w.heap.size) := by
  obtain ⟨i0, hi, hz0, hz1, hz2⟩ := info_parts Try.infoItem
  have HO := Lib.hid hown
  have hlen : ts.length = n := by have := hown.1; rw [tv_length] at this; omega
  have H3 : Hid (∀ j u, [Value.int .i64 x, .int .i64 y, .string z, .int .i64 q][j]? = some u → w.cell? ((⟨vb, 0, none⟩ : Addr).add j) = some u) := Lib.hid fun j u hj => by
    rw [addr_lit, Nat.zero_add]
    rcases j with _ | _ | _ | _ | j
    · rw [rowIs_cell hv (by omega)]; exact hj
    · rw [rowIs_cell hv (by omega)]; exact hj
    · rw [rowIs_cell hv (by omega)]; exact hj
    · rw [rowIs_cell hv (by omega)]; exact hj
    · simp at hj
  have H5 : Hid (n + 1 ≤ maxLen ∧ (n + 1) * 40 ≤ 140737488355328) := Lib.hid ⟨by unfold maxLen; omega, by omega⟩
  have HS := Lib.hid hbw
  have HLL := Lib.hid hlen
  have hnc : n ≤ c := by
    obtain ⟨a', c', he, h⟩ := isl_own hown hlen
    cases he
    exact h.cap
  clear hown hv hbw hlen
  go_enter Try.func65, Try.ntmps65
  cases a with
  | none =>
    go_wp2_with (at_builtin; refine wpList_append_lies _ rfl _ _ _ rfl base 61 i0 (.agg #[.int .i64 0, .int .i64 0, .string ⟨#[]⟩, .int .i64 0]) 4 40 Try.underlying29 hi hz0 hz1 hz2 rfl (by decide) _ n (tv ts) rfl HO.out ⟨vb, 0, none⟩ 1 1 [.int .i64 x, .int .i64 y, .string z, .int .i64 q] rfl rfl H3.out (item_ones x y z q) (by decide) H5.out.1 H5.out.2 HS.out _ rfl ?_)
    all_goals
      intro g' cap' w' q1 q2 q3 _
      have HF := Lib.hid q1
      have HG := Lib.hid q2
      have HK := Lib.hid q3
      clear q1 q2 q3
      go_wp2_with fail
      go_ret
      exact ⟨_, _, rfl, by rw [tv_app]; exact HF.out, HG.out, fun j hj => by
        obtain rfl : g' = j := Option.some.inj hj
        exact HK.out⟩
  | some x0 =>
    obtain ⟨g, o, zz⟩ := x0
    go_wp2_with (at_builtin; refine wpList_append_lies _ rfl _ _ _ rfl base 61 i0 (.agg #[.int .i64 0, .int .i64 0, .string ⟨#[]⟩, .int .i64 0]) 4 40 Try.underlying29 hi hz0 hz1 hz2 rfl (by decide) _ n (tv ts) rfl HO.out ⟨vb, 0, none⟩ 1 1 [.int .i64 x, .int .i64 y, .string z, .int .i64 q] rfl rfl H3.out (item_ones x y z q) (by decide) H5.out.1 H5.out.2 HS.out _ rfl ?_)
    all_goals
      intro g' cap' w' q1 q2 q3 _
      have HF := Lib.hid q1
      have HG := Lib.hid q2
      have HK := Lib.hid q3
      clear q1 q2 q3
      go_wp2_with fail
      go_ret
      exact ⟨_, _, rfl, by rw [tv_app]; exact HF.out, HG.out, fun j hj => by
        obtain rfl : g' = j := Option.some.inj hj
        exact HK.out⟩

theorem Insert_I (a : Option Addr) (n c i base vb : Nat) (x y q : Int) (z : ByteArray) (ts : List Bg.It) (w : World) (hown : w.ownsRow base 61 4 (.slice a n c) n (tv ts)) (hi : i ≤ n) (hn : n ≤ 64) (hbw : base ≤ w.heap.size)
    (hvb : ∀ k, (Value.slice a n c).ownBlock = some k → vb ≠ k) (hv : w.rowIs vb 61 4 (fun j => [Value.int .i64 x, .int .i64 y, .string z, .int .i64 q].getD j (.int .i64 0))) :
    Calls Try.prog 65 #[.slice a n c, .int .i64 i, .slice (some ⟨vb, 0, none⟩) 1 1] w fun e w' =>
      ∃ a' c', e = .returned (.slice a' (n + 1) c') ∧ w'.ownsRow base 61 4 (.slice a' (n + 1) c') (n + 1) (tv (ts.take i ++ ⟨x, y, z, q⟩ :: ts.drop i)) ∧ w.grownBy w' (Value.slice a n c).ownBlock ∧ (∀ j, (Value.slice a' (n + 1) c').ownBlock = some j → (Value.slice a n c).ownBlock = some j ∨ j = w.heap.size) := by
  have hlen : ts.length = n := by have := hown.1; rw [tv_length] at this; omega
  by_cases h : i = n
  · subst h
    have := Insert_end a i c base vb x y q z ts w hown hn hbw hv
    rw [List.take_of_length_le (by omega), List.drop_of_length_le (by omega)]
    exact this
  · obtain ⟨g, rfl⟩ : ∃ g, a = some ⟨g, 0, none⟩ := by
      rcases hown.2 with ⟨-, h0⟩ | ⟨g, cap', cur, h, -⟩
      · omega
      · cases h; exact ⟨g, rfl⟩
    obtain ⟨f, -, -, -, hnc, -⟩ := rowIs_own hown
    by_cases hc : n + 1 ≤ c
    · exact Insert_room g c n i base vb x y q z ts w hown (by omega) hn hc (hvb g rfl) hv
    · obtain rfl : c = n := by omega
      exact Insert_grow g c i base vb x y q z ts w hown (by omega) hn hbw hv

end Go.Proofs.Ythccdoejnklidaa
