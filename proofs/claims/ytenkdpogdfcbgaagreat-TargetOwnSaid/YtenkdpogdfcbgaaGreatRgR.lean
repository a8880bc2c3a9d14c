import Derived.Test.YtenkdpogdfcbgaaGreatRgW8
import Derived.Lib.Overlaps
import Derived.Lib.AppendZerosOnto
import Derived.Laws.IdiomCopy
import Derived.Shelf.RegionOpenPlain
/- Walks: slices.BinarySearchFunc and slices.Insert at registrations. -/
namespace Go.Proofs.YtenkdpogdfcbgaaGreat.Rs
open Go.RowKit

theorem cmp_R (x y t : Int) (hx0 : 0 ≤ x) (hx7 : x ≤ 7) (ht0 : 0 ≤ t) (ht7 : t ≤ 7) (w : World) : Calls Tryz.prog 67 #[.agg #[.int .i64 x, .int .i64 y], .int .i64 t] w fun e w' => e = .returned (.int .i64 (x - t)) ∧ Below w.heap.size w w' := by
  go_enter Tryz.func67, Tryz.ntmps67
  go_wp2_with fail
  go_ret
  exact ⟨rfl, (Below.refl _ _).alloc (Nat.le_refl _) _⟩

set_option maxRecDepth 100000 in
set_option maxHeartbeats 4000000 in
theorem Search_R (x : Int) (a : Option Addr) (n c : Nat) (ts : List Qu.T) (w : World) (hT : TSl w a n c ts) (hn : n ≤ 8) (hx0 : 0 ≤ x) (hx7 : x ≤ 7) (hi : Rg.Inc ts) (h1 : ∀ t, t ∈ ts → 0 ≤ t.1 ∧ t.1 ≤ 7) :
    Calls Tryz.prog 66 #[.slice a n c, .int .i64 x, .func (.func 67) #[] #[]] w fun e w' =>
      ∃ (k : Nat) (b : Bool), e = .returned (.tuple #[.int .i64 k, .bool b]) ∧ k ≤ n ∧ (∀ m (hm : m < ts.length), m < k → ts[m].1 < x) ∧ (∀ m (hm : m < ts.length), k ≤ m → x ≤ ts[m].1) ∧ Below w.heap.size w w' := by
  have HT := Lib.hid hT; have HI := Lib.hid hi; have H1 := Lib.hid h1
  clear hT hi h1
  go_enter Tryz.func66, Tryz.ntmps66
  go_wp2_with fail
  go_loopw [9, 10] (fun vi vj wr => ∃ i j : Nat, i ≤ j ∧ j ≤ n ∧ vi = .int .i64 i ∧ vj = .int .i64 j ∧ Hid (∀ m (hm : m < ts.length), m < i → ts[m].1 < x) ∧ Hid (∀ m (hm : m < ts.length), j ≤ m → x ≤ ts[m].1) ∧ Hid (Below w.heap.size w wr)) (fun vi vj _ => (intOf vj).toNat - (intOf vi).toNat)
  case atStart => exact ⟨0, n, Nat.zero_le _, Nat.le_refl _, rfl, rfl, Lib.hid fun m hm h => absurd h (Nat.not_lt_zero _), Lib.hid fun m hm h => absurd hm (by rw [HT.out.len]; omega), Lib.hid (Below.refl _ _)⟩
  case round =>
    obtain ⟨i, j, hij, hj, rfl, rfl, hA, hC, hB⟩ := hrel
    by_cases hlt : i < j
    · obtain ⟨h, hh⟩ : ∃ h, (i + j) / 2 = h := ⟨_, rfl⟩
      have h1 : i ≤ h := by omega
      have h2 : h < j := by omega
      have hk' : h < ts.length := by rw [HT.out.len]; omega
      have hne : ts ≠ [] := by rintro rfl; simp at hk'
      obtain ⟨b, o, rfl, hb, hc⟩ := (HT.out.keep hB.out).at_ hne
      obtain ⟨e1, e2⟩ := hc h ts[h] (List.getElem?_eq_getElem hk')
      have ho := H1.out ts[h] (List.getElem_mem hk')
      have K1 := fun w => cmp_R ts[h].1 ts[h].2 x ho.1 ho.2 hx0 hx7 w
      have eh : ((i : Int) + (j : Int)) / 2 = (h : Int) := by omega
      have HL : Hid (ts[h].1 < x → ∀ m (hm : m < ts.length), m < h + 1 → ts[m].1 < x) := Lib.hid fun hlt m hm hmh => by
        by_cases e : m = h
        · subst e; exact hlt
        · have := (List.pairwise_iff_getElem.1 HI.out) m h hm hk' (by omega)
          omega
      have HR : Hid (x ≤ ts[h].1 → ∀ m (hm : m < ts.length), h ≤ m → x ≤ ts[m].1) := Lib.hid fun hge m hm hmh => by
        by_cases e : m = h
        · subst e; exact hge
        · have := (List.pairwise_iff_getElem.1 HI.out) h m hk' hm (by omega)
          omega
      clear hc hne hh
      generalize ts[h].1 = p at *
      generalize ts[h].2 = q at *
      by_cases hp : p < x
      · have hd : p - x < 0 := by omega
        have HL' := Lib.hid (HL.out hp)
        clear HL HR hp
        go_wp2_with fail
        with_reducible refine (K1 _).mono ?_
        rintro e w' ⟨rfl, hb'⟩
        have HB' := Lib.hid (hB.out.trans (hb'.mono hB.out.size))
        clear hb' K1
        go_wp2_with fail
        go_roundw
        case rel => exact ⟨h + 1, j, h2, hj, by go_num, rfl, HL', hC, HB'⟩
        case measure => simp [intOf]; omega
      · have hd : 0 ≤ p - x := by omega
        have HR' := Lib.hid (HR.out (by omega))
        clear HL HR hp
        go_wp2_with fail
        with_reducible refine (K1 _).mono ?_
        rintro e w' ⟨rfl, hb'⟩
        have HB' := Lib.hid (hB.out.trans (hb'.mono hB.out.size))
        clear hb' K1
        go_wp2_with fail
        go_roundw
        case rel => exact ⟨i, h, h1, by omega, rfl, rfl, hA, HR', HB'⟩
        case measure => simp [intOf]; omega
    · obtain rfl : i = j := by omega
      by_cases hin : i < n
      · have hk' : i < ts.length := by rw [HT.out.len]; omega
        have hne : ts ≠ [] := by rintro rfl; simp at hk'
        obtain ⟨b, o, rfl, hb, hc⟩ := (HT.out.keep hB.out).at_ hne
        obtain ⟨e1, e2⟩ := hc i ts[i] (List.getElem?_eq_getElem hk')
        have ho := H1.out ts[i] (List.getElem_mem hk')
        have K1 := fun w => cmp_R ts[i].1 ts[i].2 x ho.1 ho.2 hx0 hx7 w
        clear hc hne
        generalize ts[i].1 = p at *
        generalize ts[i].2 = q at *
        go_wp2_with fail
        with_reducible refine (K1 _).mono ?_
        rintro e w' ⟨rfl, hb'⟩
        have HB' := Lib.hid (hB.out.trans (hb'.mono hB.out.size))
        clear hb' K1
        go_wp2_with fail
        go_ret2
        exact ⟨i, _, rfl, hj, hA.out, hC.out, HB'.out⟩
      · go_wp2_with fail
        go_ret2
        exact ⟨i, _, rfl, hj, hA.out, hC.out, hB.out⟩

end Go.Proofs.YtenkdpogdfcbgaaGreat.Rs

/- The walk of slices.Insert at registrations. -/
namespace Go.Proofs.YtenkdpogdfcbgaaGreat.Rs
open Go.RowKit

section
variable {P : Program}
theorem run_copy_cells2 (w : World) (dT sT ty elem : TypeId) (b o dLen dCap : Nat) (a : Addr) (sLen sCap m : Nat) (cs : List Value)
    (hu : P.underlying dT = some (.slice elem)) (hs : (P.info? elem).map (·.size) = some 2) (hm : m = Nat.min sLen dLen) (hn : cs.length = m * 2)
    (hsrc : ∀ j v, cs[j]? = some v → w.cell? (a.add j) = some v) (hc : ∀ j, j < cs.length → (w.cell? ⟨b, o + j, none⟩).isSome = true) (hf : ∀ j, j < cs.length → w.frozen? ⟨b, o + j, none⟩ = false) (h1 : ∀ v ∈ cs, v.oneCell' = true) :
    (Builtin.copy_ #[dT, sT] ty #[.slice (some ⟨b, o, none⟩) dLen dCap, .slice (some a) sLen sCap]).run P w = .ok (goInt m) (w.setCells b o cs) := by
  have hl := run_loadCells_list (P := P) w a cs hsrc
  rw [hn] at hl
  have hst := run_storeCells_cells (P := P) b o cs 0 w (by simpa using hc) (by simpa using hf) h1
  cases hq : P.info? elem with
  | none => simp [hq] at hs
  | some i =>
    have hi : i.size = 2 := by simpa [hq] using hs
    simp [Builtin.copy_, run_underlying hu, Builtin.lenOf, Builtin.firstCells, sizeOf, typeInfo, hq, hi, ← hm, hl, hst]

theorem wp_copy_run2 (w : World) {o : Oper} {a : Act} {K : Act → World → Prop} {Q : Exit → Act → World → Prop} (d s : Operand) (t t' : TypeId)
    (ho : o.op = .call { callee := .builtin .copy, args := #[d, s], argTypes := #[t, t'] }) (v u : Value) (hd : a.eval d = v) (hs : a.eval s = u) {v' : Value} {w' : World}
    (hr : (Builtin.copy_ #[t, t'] o.type #[v, u]).run P w = .ok v' w') (h : K (a.put o.dst v') w') : o.wp P a w K Q := by
  unfold Oper.wp execOp
  simp only [ho, resolve, invoke, builtin, Sem.run_bind, Sem.run_pure, Result.andThen_ok, List.map_toArray, List.map_cons, List.map_nil, hd, hs, hr]
  exact h

theorem wpList_copy_run2 (w : World) {ops : Array Oper} {rest : List Oper} {o : Oper} {a : Act} {Q : Exit → Act → World → Prop} (hgd : o.guard = none) (d s : Operand) (t t' : TypeId)
    (ho : o.op = .call { callee := .builtin .copy, args := #[d, s], argTypes := #[t, t'] }) (v u : Value) (hd : a.eval d = v) (hs : a.eval s = u) {v' : Value} {w' : World}
    (hr : (Builtin.copy_ #[t, t'] o.type #[v, u]).run P w = .ok v' w') (h : wpList P ops Q rest (a.put o.dst v') w') : wpList P ops Q (o :: rest) a w :=
  wpList_plain hgd fun _ hK => wp_copy_run2 w d s t t' ho v u hd hs hr (hK _ _ h)

theorem step_copy_run2 {ops : Array Oper} {o : Oper} {a : Act} {w : World} {K : Act → World → Prop} {Q : Exit → Act → World → Prop} {E : Prop}
    (hg : o.guard = none) (d x : Operand) (dT sT : TypeId) (hop : o.op = Op.call { callee := Callee.builtin Builtin.copy, args := #[d, x], argTypes := #[dT, sT] })
    (v u : Value) (hd : a.eval d = v) (hx : a.eval x = u) {v' : Value} {w' : World} (hr : (Builtin.copy_ #[dT, sT] o.type #[v, u]).run P w = .ok v' w') (hK : K (a.put o.dst v') w') :
    if Region.wanted o (yielded ops a.tmps) = true then Oper.wp P o a w K Q else E := by
  have hw : Region.wanted o (yielded ops a.tmps) = true := by simp [Region.wanted, hg]
  rw [if_pos hw]
  unfold Oper.wp
  simp [execOp, hop, resolve, invoke, builtin, hd, hx, hr, Result.andThen]
  exact hK
end

theorem rowIs_cell {w : World} {g N : Nat} {e : TypeId} {f : Nat → Value} (h : w.rowIs g e N f) {j : Nat} (hj : j < N) : w.cell? ⟨g, j, none⟩ = some (f j) := by
  obtain ⟨cur, h1, h2, h3⟩ := h
  rw [cell_of_row w g j cur _ (0, 0) h1, h3 j hj]

theorem rowIs_frozen {w : World} {g N : Nat} {e : TypeId} {f : Nat → Value} (h : w.rowIs g e N f) (j : Nat) : w.frozen? ⟨g, j, none⟩ = false := by
  obtain ⟨cur, h1, h2, h3⟩ := h
  unfold World.frozen?
  rw [h1]
  simp

theorem rowIs_shape {w : World} {g N : Nat} {e : TypeId} {f : Nat → Value} (h : w.rowIs g e N f) : w.shape? g = some (e, N) := by
  obtain ⟨cur, h1, h2, h3⟩ := h
  unfold World.shape?
  rw [h1, ← h2]

theorem rowIs_drew {w : World} {g N : Nat} {e : TypeId} {f : Nat → Value} (h : w.rowIs g e N f) : w.drew.rowIs g e N f := h

set_option maxRecDepth 100000 in
set_option maxHeartbeats 8000000 in
/-- There is room. -/
theorem Insert_room (g c n i base vb : Nat) (x y : Int) (ts : List Qu.T) (w : World) (hown : w.ownsRow base 39 2 (.slice (some ⟨g, 0, none⟩) n c) n (tv ts)) (hi : i < n) (hn : n ≤ 8) (hroom : n + 1 ≤ c)
    (hvb : vb ≠ g) (hv : w.rowIs vb 39 2 (fun j => if j = 0 then .int .i64 x else .int .i64 y)) :
    Calls Tryz.prog 68 #[.slice (some ⟨g, 0, none⟩) n c, .int .i64 i, .slice (some ⟨vb, 0, none⟩) 1 1] w fun e w' =>
      ∃ a' c', e = .returned (.slice a' (n + 1) c') ∧ w'.ownsRow base 39 2 (.slice a' (n + 1) c') (n + 1) (tv (ts.take i ++ (x, y) :: ts.drop i)) ∧ w.grownBy w' (some g) ∧ (∀ j, (Value.slice a' (n + 1) c').ownBlock = some j → some g = some j ∨ j = w.heap.size) := by
  obtain ⟨f, hrow, hf, hbg, hnc, hcm⟩ := rowIs_own hown
  have hlen : ts.length = n := by have := hown.1; rw [tv_length] at this; omega
  unfold maxLen at hcm
  obtain ⟨i0, hi0, hz0, hz1, hz2⟩ := info_parts Tryz.infoReg
  have hsz : (Tryz.prog.info? 39).map (·.size) = some 2 := by rw [hi0]; simp [hz1]
  obtain ⟨D, hD⟩ : ∃ D, D = tv (ts.drop i) := ⟨_, rfl⟩
  have hDl : D.length = (n - i) * 2 := by rw [hD, tv_length, List.length_drop, hlen]
  have hD1 : ∀ u ∈ D, u.oneCell' = true := by rw [hD]; exact tv_one _
  have hDf : ∀ j u, D[j]? = some u → f (i * 2 + j) = u := fun j u hu => by
    have hj : j < (n - i) * 2 := by rw [← hDl]; exact (List.getElem?_eq_some_iff.1 hu).1
    rw [hD, tv_drop, List.getElem?_drop, hf _ (by omega)] at hu
    exact Option.some.inj hu
  have hov : ∀ lb cb, (callFunc 92 #[.slice (some ⟨vb, 0, none⟩) 1 1, .slice (some ⟨g, (i + 1) * 2, none⟩) lb cb]).run Tryz.prog w = .ok (.value (.bool false)) w := fun lb cb => by
    rw [run_callFunc_extern Tryz.func92 (by kernel_rfl) (by kernel_rfl) (by kernel_rfl) (e := Extern.SlicesOverlaps.overlaps #[40, 40] #[4]) (by kernel_rfl),
      Lib.run_overlaps_apart w 40 4 39 Tryz.underlying40 2 Tryz.sizeOf39 ⟨vb, 0, none⟩ ⟨g, (i + 1) * 2, none⟩ 1 1 lb cb hvb _ _ _ _ (rowIs_shape hv) (rowIs_shape hrow) (by omega) (rowIs_frozen hv _) (rowIs_frozen hv _)]
    rfl
  have hcp1 : ∀ ty dc sc, (Builtin.copy_ #[40, 40] ty #[.slice (some ⟨g, (i + 1) * 2, none⟩) (n - i) dc, .slice (some ⟨g, i * 2, none⟩) (n + 1 - i) sc]).run Tryz.prog w.drew = .ok (goInt ((n - i : Nat) : Int)) (w.drew.setCells g ((i + 1) * 2) D) := fun ty dc sc =>
    run_copy_cells2 w.drew _ _ ty 39 g ((i + 1) * 2) (n - i) dc ⟨g, i * 2, none⟩ (n + 1 - i) sc (n - i) D Tryz.underlying40 hsz (by simp only [Nat.min_def]; split <;> omega) hDl
      (fun j v hj => by rw [addr_lit, rowIs_cell (rowIs_drew hrow) (by have := (List.getElem?_eq_some_iff.1 hj).1; omega), hDf j v hj])
      (fun j hj => by rw [rowIs_cell (rowIs_drew hrow) (by omega)]; rfl) (fun j hj => rowIs_frozen (rowIs_drew hrow) _) hD1
  obtain ⟨W1, hW1⟩ : ∃ W1, W1 = w.drew.setCells g ((i + 1) * 2) D := ⟨_, rfl⟩
  have hr1 := rowIs_setCells D ((i + 1) * 2) w.drew f (rowIs_drew hrow)
  rw [← hW1] at hr1 hcp1
  have hvw : vb < w.heap.size := by
    obtain ⟨cur, h1, -⟩ := hv
    rcases Nat.lt_or_ge vb w.heap.size with h | h
    · exact h
    · rw [Array.getElem?_eq_none h] at h1; cases h1
  have hv1 : ∀ j, W1.cell? ⟨vb, j, none⟩ = w.cell? ⟨vb, j, none⟩ := fun j => by
    rw [hW1, World.cell?_setCells_out g _ _ _ _ (fun h _ => absurd h hvb)]
    rfl
  have hcp2 : ∀ (W : World), (∀ x, W.cell? x = W1.cell? x) → (∀ x, W.frozen? x = W1.frozen? x) → ∀ ty dc, (Builtin.copy_ #[40, 40] ty #[.slice (some ⟨g, i * 2, none⟩) (n + 1 - i) dc, .slice (some ⟨vb, 0, none⟩) 1 1]).run Tryz.prog W = .ok (goInt ((1 : Nat) : Int)) (W.setCells g (i * 2) [.int .i64 x, .int .i64 y]) := fun W hWc hWf ty dc =>
    run_copy_cells2 W _ _ ty 39 g (i * 2) (n + 1 - i) dc ⟨vb, 0, none⟩ 1 1 1 [.int .i64 x, .int .i64 y] Tryz.underlying40 hsz (by simp only [Nat.min_def]; split <;> omega) rfl
      (fun j v hj => by
        rw [addr_lit, Nat.zero_add, hWc, hv1]
        rcases j with _ | _ | j
        · rw [rowIs_cell hv (by omega)]; exact hj
        · rw [rowIs_cell hv (by omega)]; exact hj
        · simp at hj)
      (fun j hj => by
        have hj' : j < 2 := hj
        rw [hWc, rowIs_cell hr1 (by omega)]; rfl)
      (fun j hj => by rw [hWf]; exact rowIs_frozen hr1 _) (pair_ones x y)
  have hr2 := rowIs_setCells [.int .i64 x, .int .i64 y] (i * 2) W1 _ hr1
  have HF : Hid ((W1.setCells g (i * 2) [.int .i64 x, .int .i64 y]).ownsRow base 39 2 (.slice (some ⟨g, 0, none⟩) (n + 1) c) (n + 1) (tv (ts.take i ++ (x, y) :: ts.drop i)) ∧ w.grownBy (W1.setCells g (i * 2) [.int .i64 x, .int .i64 y]) (some g)) := Lib.hid ⟨own_rowIs hr2 (by rw [tv_length, List.length_append, List.length_cons, List.length_take, List.length_drop]; omega) (fun j hj => by
      have hl1 : (tv (ts.take i)).length = i * 2 := by rw [tv_length, List.length_take]; omega
      rw [tv_app]
      by_cases h : j < i * 2
      · rw [List.getElem?_append_left (by omega), tv_take, List.getElem?_take, if_pos h, hf j (by omega)]
        rw [if_neg (by simp only [List.length_cons, List.length_nil]; omega), if_neg (by omega)]
      · rw [List.getElem?_append_right (by omega), hl1]
        rw [tv]
        by_cases h2 : j < i * 2 + 2
        · rw [if_pos ⟨by omega, by simp only [List.length_cons, List.length_nil]; omega⟩]
          rcases Nat.lt_or_ge (i * 2) j with h3 | h3
          · obtain rfl : j = i * 2 + 1 := by omega
            rw [show i * 2 + 1 - i * 2 = 1 by omega]
            rfl
          · obtain rfl : j = i * 2 := by omega
            rw [Nat.sub_self]
            rfl
        · rw [if_neg (by simp only [List.length_cons, List.length_nil]; omega), if_pos (by omega)]
          obtain ⟨m, rfl⟩ : ∃ m, j = i * 2 + 2 + m := ⟨j - (i * 2 + 2), by omega⟩
          rw [show i * 2 + 2 + m - i * 2 = m + 2 by omega, show i * 2 + 2 + m - (i + 1) * 2 = m by omega]
          rw [List.getElem?_cons_succ, List.getElem?_cons_succ, ← hD, List.getElem?_eq_getElem (by omega)]
          simp) hbg hroom (by unfold maxLen; omega), by
      have h1 : w.grownBy w.drew (some g) := below_grown (Below.refl _ w).drew _
      rw [hW1]
      exact (h1.trans (setCells_grown _ g _ _)).trans (setCells_grown _ g _ _)⟩
  have HW := Lib.hid hW1
  have hz1 : ¬ ((i : Int) = (n : Int)) := by omega
  have hw1 : IntKind.i64.wrap ((i : Int) + 1) = (i : Int) + 1 := by rw [IntKind.wrap_i64]; omega
  have hb1 : (0 : Int) ≤ (i : Int) + 1 := by omega
  have hin : i ≤ n := by omega
  have htn : ((i : Int) + 1).toNat = i + 1 := by omega
  have hb2 : ¬ (c = i + 1) := by omega
  have hb3 : (i : Int) + 1 ≤ (n : Int) + 1 := by omega
  have hb4 : ¬ (c = i) := by omega
  have hb5 : (i : Int) ≤ (n : Int) + 1 := by omega
  have mixed : Tryz.prog.follows Departure.mixedOrders = true := by kernel_rfl
  clear hW1 hr1 hr2 hrow hv hv1 hvw hf hown hlen hD hDl hD1 hDf
  go_enter Tryz.func68, Tryz.ntmps68
  go_wp2_with (simp only [hov])
  go_region_law_o (refine step_copy_run2 rfl _ _ 40 40 rfl (.slice (some ⟨g, (i + 1) * 2, none⟩) (n - i) (c - (i + 1))) (.slice (some ⟨g, i * 2, none⟩) (n + 1 - i) (c - i)) (by simp [Act.eval, Act.put]) (by simp [Act.eval, Act.put]) (hcp1 _ _ _) ?_)
  go_wp2_with (at_builtin; refine wpList_copy_run2 _ rfl _ _ 40 40 rfl _ _ rfl rfl (hcp2 _ (fun _ => rfl) (fun _ => rfl) _ _) ?_)
  go_ret
  exact ⟨_, _, rfl, HF.out.1, HF.out.2, fun j hj => Or.inl hj⟩

set_option maxRecDepth 100000 in
set_option maxHeartbeats 8000000 in
/-- There is no room. -/
theorem Insert_grow (g n i base vb : Nat) (x y : Int) (ts : List Qu.T) (w : World) (hown : w.ownsRow base 39 2 (.slice (some ⟨g, 0, none⟩) n n) n (tv ts)) (hi : i < n) (hn : n ≤ 8) (hbw : base ≤ w.heap.size)
    (hv : w.rowIs vb 39 2 (fun j => if j = 0 then .int .i64 x else .int .i64 y)) :
    Calls Tryz.prog 68 #[.slice (some ⟨g, 0, none⟩) n n, .int .i64 i, .slice (some ⟨vb, 0, none⟩) 1 1] w fun e w' =>
      ∃ a' c', e = .returned (.slice a' (n + 1) c') ∧ w'.ownsRow base 39 2 (.slice a' (n + 1) c') (n + 1) (tv (ts.take i ++ (x, y) :: ts.drop i)) ∧ w.grownBy w' (some g) ∧ (∀ j, (Value.slice a' (n + 1) c').ownBlock = some j → some g = some j ∨ j = w.heap.size) := by
  obtain ⟨f, hrow, hf, hbg, hnc, hcm⟩ := rowIs_own hown
  have hlen : ts.length = n := by have := hown.1; rw [tv_length] at this; omega
  unfold maxLen at hcm
  obtain ⟨i0, hi0, hz0, hz1, hz2⟩ := info_parts Tryz.infoReg
  have hsz : (Tryz.prog.info? 39).map (·.size) = some 2 := by rw [hi0]; simp [hz1]
  have hgw : g < w.heap.size := own_block_lt hown g rfl
  obtain ⟨D, hD⟩ : ∃ D, D = tv (ts.drop i) := ⟨_, rfl⟩
  have hDl : D.length = (n - i) * 2 := by rw [hD, tv_length, List.length_drop, hlen]
  have hD1 : ∀ u ∈ D, u.oneCell' = true := by rw [hD]; exact tv_one _
  have hDf : ∀ j u, D[j]? = some u → f (i * 2 + j) = u := fun j u hu => by
    have hj : j < (n - i) * 2 := by rw [← hDl]; exact (List.getElem?_eq_some_iff.1 hu).1
    rw [hD, tv_drop, List.getElem?_drop, hf _ (by omega)] at hu
    exact Option.some.inj hu
  have hvw : vb < w.heap.size := by
    obtain ⟨cur, h1, -⟩ := hv
    rcases Nat.lt_or_ge vb w.heap.size with h | h
    · exact h
    · rw [Array.getElem?_eq_none h] at h1; cases h1
  have hTl : (tv (ts.take i)).length = i * 2 := by rw [tv_length, List.length_take]; omega
  have hold : (Builtin.firstCells i0.size i (.slice (some ⟨g, 0, none⟩) i n)).run Tryz.prog w.drew = .ok (tv (ts.take i)).toArray w.drew := by
    rw [hz1]
    refine run_firstCells_some w.drew 2 i ⟨g, 0, none⟩ i n (tv (ts.take i)) hTl (fun j v hj => ?_)
    have hj2 : j < i * 2 := by rw [← hTl]; exact (List.getElem?_eq_some_iff.1 hj).1
    rw [addr_lit, Nat.zero_add, rowIs_cell (rowIs_drew hrow) (by omega)]
    rw [tv_take, List.getElem?_take, if_pos hj2, hf j (by omega)] at hj
    exact hj
  obtain ⟨G, hG⟩ : ∃ G, G = grownCap w (n + 1) n 39 := ⟨_, rfl⟩
  have hGn : n + 1 ≤ G := by rw [hG]; exact grownCap_ge w _ _ _
  have hG63 : G ≤ maxLen := by rw [hG]; exact grownCap_le_maxLen w (n + 1) n 39 (by unfold maxLen; omega)
  obtain ⟨ROW, hROW⟩ : ∃ ROW : Array Value, ROW = (tv (ts.take i)).toArray ++ Builtin.zeroCells (Value.agg #[.int .i64 0, .int .i64 0]).cells (n + 1 - i) ++ Builtin.zeroCells (Value.agg #[.int .i64 0, .int .i64 0]).cells (G - (n + 1)) := ⟨_, rfl⟩
  have hrz : ∀ ty, (Builtin.append_ #[40, 3] ty #[.slice (some ⟨g, 0, none⟩) i n, .int .i64 ((n : Int) + 1 - (i : Int))]).run Tryz.prog w =
      .ok (.slice (some ⟨w.heap.size, 0, none⟩) (n + 1) G) (w.drew.alloc (.cells ROW 39)) := fun ty => by
    have h := Lib.run_append_grow_zeros w 40 3 ty 39 i0 _ .i64 .i64 Tryz.underlying40 Tryz.underlying3 hi0 hz0 (some ⟨g, 0, none⟩) i n (tv (ts.take i)) hold (n + 1 - i) (by omega) (by omega) (by omega) (by omega) (by rw [hz2]; omega) (by
      rw [hz2, show i + (n + 1 - i) = n + 1 by omega]
      exact growslice_fits (by omega) (by omega))
    rw [show i + (n + 1 - i) = n + 1 by omega, ← hG, ← hROW] at h
    rw [show (n : Int) + 1 - (i : Int) = ((n + 1 - i : Nat) : Int) by omega]
    exact h
  have hRs : ROW.size = G * 2 := by
    rw [hROW, Array.size_append, Array.size_append, size_zeroCells, size_zeroCells, List.size_toArray, hTl]
    show i * 2 + (n + 1 - i) * 2 + (G - (n + 1)) * 2 = G * 2
    omega
  have hRt : ∀ j, j < i * 2 → ROW.getD j default = f j := fun j hj => by
    have h1 : ROW[j]? = (tv (ts.take i))[j]? := by
      rw [hROW, Array.getElem?_append_left (by rw [Array.size_append, size_zeroCells, List.size_toArray, hTl]; omega), Array.getElem?_append_left (by rw [List.size_toArray, hTl]; exact hj), List.getElem?_toArray]
    rw [tv_take, List.getElem?_take, if_pos hj, hf j (by omega)] at h1
    rw [Array.getD_eq_getD_getElem?, h1]
    rfl
  obtain ⟨W1, hW1⟩ : ∃ W1, W1 = w.drew.alloc (.cells ROW 39) := ⟨_, rfl⟩
  obtain ⟨N, hN⟩ : ∃ N, N = w.heap.size := ⟨_, rfl⟩
  have hrow1 : W1.rowIs N 39 (G * 2) (fun j => ROW.getD j default) := ⟨ROW, by
    rw [hW1, hN]
    show (w.heap.push _)[w.heap.size]? = _
    rw [Array.getElem?_push, if_pos rfl], hRs, fun j hj => by
      show ROW[j]? = some (ROW.getD j default)
      rw [Array.getD_eq_getD_getElem?, Array.getElem?_eq_getElem (by omega)]
      rfl⟩
  have hold1 : ∀ b j, b < N → W1.cell? ⟨b, j, none⟩ = w.cell? ⟨b, j, none⟩ := fun b j hb => by
    rw [hW1, World.cell?_alloc_past _ _ _ (by show b < w.heap.size; omega)]
    rfl
  have hgr1 : w.grownBy W1 (some g) := by
    rw [hW1]
    exact below_grown (((Below.refl _ w).drew).alloc (Nat.le_refl _) _) _
  have hcpA : ∀ (W : World), (∀ x, W.cell? x = W1.cell? x) → (∀ x, W.frozen? x = W1.frozen? x) → ∀ ty dc, (Builtin.copy_ #[40, 40] ty #[.slice (some ⟨N, i * 2, none⟩) (n + 1 - i) dc, .slice (some ⟨vb, 0, none⟩) 1 1]).run Tryz.prog W = .ok (goInt ((1 : Nat) : Int)) (W.setCells N (i * 2) [.int .i64 x, .int .i64 y]) := fun W hWc hWf ty dc =>
    run_copy_cells2 W _ _ ty 39 N (i * 2) (n + 1 - i) dc ⟨vb, 0, none⟩ 1 1 1 [.int .i64 x, .int .i64 y] Tryz.underlying40 hsz (by simp only [Nat.min_def]; split <;> omega) rfl
      (fun j v hj => by
        rw [addr_lit, Nat.zero_add, hWc, hold1 _ _ (by omega)]
        rcases j with _ | _ | j
        · rw [rowIs_cell hv (by omega)]; exact hj
        · rw [rowIs_cell hv (by omega)]; exact hj
        · simp at hj)
      (fun j hj => by
        have hj' : j < 2 := hj
        rw [hWc, rowIs_cell hrow1 (by omega)]; rfl)
      (fun j hj => by rw [hWf]; exact rowIs_frozen hrow1 _) (pair_ones x y)
  have hr2 := rowIs_setCells [.int .i64 x, .int .i64 y] (i * 2) W1 _ hrow1
  obtain ⟨W2, hW2⟩ : ∃ W2, W2 = W1.setCells N (i * 2) [.int .i64 x, .int .i64 y] := ⟨_, rfl⟩
  rw [← hW2] at hr2
  have hcpB : ∀ (W : World), (∀ x, W.cell? x = W2.cell? x) → (∀ x, W.frozen? x = W2.frozen? x) → ∀ ty dc sc, (Builtin.copy_ #[40, 40] ty #[.slice (some ⟨N, (i + 1) * 2, none⟩) (n - i) dc, .slice (some ⟨g, i * 2, none⟩) (n - i) sc]).run Tryz.prog W = .ok (goInt ((n - i : Nat) : Int)) (W.setCells N ((i + 1) * 2) D) := fun W hWc hWf ty dc sc =>
    run_copy_cells2 W _ _ ty 39 N ((i + 1) * 2) (n - i) dc ⟨g, i * 2, none⟩ (n - i) sc (n - i) D Tryz.underlying40 hsz (by simp only [Nat.min_def]; split <;> omega) hDl
      (fun j v hj => by
        rw [addr_lit, hWc, hW2, World.cell?_setCells_out N _ _ _ _ (fun h _ => by have h' : g = N := h; omega), hold1 _ _ (by omega), rowIs_cell hrow (by have := (List.getElem?_eq_some_iff.1 hj).1; omega), hDf j v hj])
      (fun j hj => by rw [hWc, rowIs_cell hr2 (by omega)]; rfl) (fun j hj => by rw [hWf]; exact rowIs_frozen hr2 _) hD1
  have hr3 := rowIs_setCells D ((i + 1) * 2) W2.drew _ (rowIs_drew hr2)
  obtain ⟨W3, hW3⟩ : ∃ W3, W3 = W2.drew.setCells N ((i + 1) * 2) D := ⟨_, rfl⟩
  rw [← hW3] at hr3
  have hgN : some g ≠ some N := by intro e; cases e; omega
  have HF : Hid (W3.ownsRow base 39 2 (.slice (some ⟨N, 0, none⟩) (n + 1) G) (n + 1) (tv (ts.take i ++ (x, y) :: ts.drop i)) ∧ w.grownBy W3 (some g)) := Lib.hid ⟨own_rowIs hr3 (by rw [tv_length, List.length_append, List.length_cons, List.length_take, List.length_drop]; omega) (fun j hj => by
      rw [tv_app]
      by_cases h : j < i * 2
      · rw [List.getElem?_append_left (by omega), tv_take, List.getElem?_take, if_pos h, hf j (by omega)]
        rw [if_neg (by omega), if_neg (by omega), hRt j h]
      · rw [List.getElem?_append_right (by omega), hTl]
        rw [tv]
        by_cases h2 : j < i * 2 + 2
        · rw [if_neg (by omega), if_pos ⟨by omega, by simp only [List.length_cons, List.length_nil]; omega⟩]
          rcases Nat.lt_or_ge (i * 2) j with h3 | h3
          · obtain rfl : j = i * 2 + 1 := by omega
            rw [show i * 2 + 1 - i * 2 = 1 by omega]
            rfl
          · obtain rfl : j = i * 2 := by omega
            rw [Nat.sub_self]
            rfl
        · rw [if_pos (by omega)]
          obtain ⟨m, rfl⟩ : ∃ m, j = i * 2 + 2 + m := ⟨j - (i * 2 + 2), by omega⟩
          rw [show i * 2 + 2 + m - i * 2 = m + 2 by omega, show i * 2 + 2 + m - (i + 1) * 2 = m by omega]
          rw [List.getElem?_cons_succ, List.getElem?_cons_succ, ← hD, List.getElem?_eq_getElem (by omega)]
          simp) (by omega) hGn hG63, by
      rw [hW3, hW2]
      have h1 := setCells_grown W1 N [.int .i64 x, .int .i64 y] (i * 2)
      have h2 := (h1.trans (below_grown (Below.refl _ _).drew _)).trans (setCells_grown _ N D ((i + 1) * 2))
      refine ⟨h2.os.trans hgr1.os, h2.tape.trans hgr1.tape, h2.output.trans hgr1.output, Nat.le_trans hgr1.size h2.size, fun b hb hne => ?_⟩
      rw [h2.block b (Nat.lt_of_lt_of_le hb hgr1.size) (by intro e; cases e; omega)]
      exact hgr1.block b hb hne⟩
  have hz1' : ¬ ((i : Int) = (n : Int)) := by omega
  have hw1 : IntKind.i64.wrap ((i : Int) + 1) = (i : Int) + 1 := by rw [IntKind.wrap_i64]; omega
  have hb1 : (0 : Int) ≤ (i : Int) + 1 := by omega
  have hin : i ≤ n := by omega
  have htn : ((i : Int) + 1).toNat = i + 1 := by omega
  have hb2 : ¬ (G = i + 1) := by omega
  have hb3 : (i : Int) + 1 ≤ (n : Int) + 1 := by omega
  have hb4 : ¬ (G = i) := by omega
  have hb5 : (i : Int) ≤ (n : Int) + 1 := by omega
  have hb6 : ¬ (n = i) := by omega
  have hb7 : (i : Int) ≤ (n : Int) := by omega
  have mixed : Tryz.prog.follows Departure.mixedOrders = true := by kernel_rfl
  have HW1 : Hid (W1 = w.drew.alloc (.cells ROW 39) ∧ W2 = W1.setCells N (i * 2) [.int .i64 x, .int .i64 y] ∧ W3 = W2.drew.setCells N ((i + 1) * 2) D) := Lib.hid ⟨hW1, hW2, hW3⟩
  rw [← hW1] at hrz
  subst hN
  clear hW1 hW2 hW3 hr2 hr3 hrow1 hrow hv hold1 hold hvw hf hown hlen hD hDl hD1 hDf hROW hRs hRt hG hTl hgr1 hgN
  go_enter Tryz.func68, Tryz.ntmps68
  go_wp2_with (first
    | (at_builtin; refine Lib.wpList_append_run _ rfl _ _ _ _ rfl _ _ rfl rfl _ _ (hrz _) ?_)
    | (at_builtin; refine wpList_copy_run2 _ rfl _ _ 40 40 rfl _ _ rfl rfl (hcpA _ (fun _ => rfl) (fun _ => rfl) _ _) ?_))
  go_region_law_o (refine step_copy_run2 rfl _ _ 40 40 rfl (.slice (some ⟨w.heap.size, (i + 1) * 2, none⟩) (n - i) (G - (i + 1))) (.slice (some ⟨g, i * 2, none⟩) (n - i) (n - i)) (by simp [Act.eval, Act.put]) (by simp [Act.eval, Act.put]) (hcpB _ (fun _ => by rw [HW1.out.2.1]; rfl) (fun _ => by rw [HW1.out.2.1]; rfl) _ _ _) ?_)
  go_wp2_with fail
  go_ret
  obtain ⟨h1, h2, h3⟩ := HW1.out
  refine ⟨_, _, rfl, ?_⟩
  have h := HF.out
  rw [h3, h2] at h
  exact ⟨h.1, h.2, fun j hj => Or.inr (Option.some.inj hj).symm⟩

set_option maxRecDepth 100000 in
set_option maxHeartbeats 8000000 in
/-- At the end. -/
theorem Insert_end (a : Option Addr) (n c base vb : Nat) (x y : Int) (ts : List Qu.T) (w : World) (hown : w.ownsRow base 39 2 (.slice a n c) n (tv ts)) (hn : n ≤ 8) (hbw : base ≤ w.heap.size)
    (hv : w.rowIs vb 39 2 (fun j => if j = 0 then .int .i64 x else .int .i64 y)) :
    Calls Tryz.prog 68 #[.slice a n c, .int .i64 n, .slice (some ⟨vb, 0, none⟩) 1 1] w fun e w' =>
      ∃ a' c', e = .returned (.slice a' (n + 1) c') ∧ w'.ownsRow base 39 2 (.slice a' (n + 1) c') (n + 1) (tv (ts ++ [(x, y)])) ∧ w.grownBy w' (Value.slice a n c).ownBlock ∧ (∀ j, (Value.slice a' (n + 1) c').ownBlock = some j → (Value.slice a n c).ownBlock = some j ∨ j = w.heap.size) := by
  obtain ⟨i0, hi, hz0, hz1, hz2⟩ := info_parts Tryz.infoReg
  have HO := Lib.hid hown
  have hlen : ts.length = n := by have := hown.1; rw [tv_length] at this; omega
  have H3 : Hid (∀ j u, [Value.int .i64 x, .int .i64 y][j]? = some u → w.cell? ((⟨vb, 0, none⟩ : Addr).add j) = some u) := Lib.hid fun j u hj => by
    rw [addr_lit, Nat.zero_add]
    rcases j with _ | _ | j
    · rw [rowIs_cell hv (by omega)]; exact hj
    · rw [rowIs_cell hv (by omega)]; exact hj
    · simp at hj
  have H5 : Hid (n + 1 ≤ maxLen ∧ (n + 1) * 16 ≤ 140737488355328) := Lib.hid ⟨by unfold maxLen; omega, by omega⟩
  have HS := Lib.hid hbw
  have HLL := Lib.hid hlen
  have hnc : n ≤ c := by
    obtain ⟨a', c', he, -, h, -⟩ := tasks_own hown hlen
    cases he
    exact h
  clear hown hv hbw hlen
  go_enter Tryz.func68, Tryz.ntmps68
  cases a with
  | none =>
    go_wp2_with (at_builtin; refine wpList_append_lies _ rfl _ _ _ rfl base 39 i0 (.agg #[.int .i64 0, .int .i64 0]) 2 16 Tryz.underlying40 hi hz0 hz1 hz2 rfl (by decide) _ n (tv ts) rfl HO.out ⟨vb, 0, none⟩ 1 1 [.int .i64 x, .int .i64 y] rfl rfl H3.out (pair_ones x y) (by decide) H5.out.1 H5.out.2 HS.out _ rfl ?_)
    all_goals
      intro g' cap' w' q1 q2 q3 _
      have HF := Lib.hid q1
      have HG := Lib.hid q2
      have HK := Lib.hid q3
      clear q1 q2 q3
      go_wp2_with fail
      go_ret
      exact ⟨_, _, rfl, by rw [tv_app]; exact HF.out, HG.out, fun j hj => by
        obtain rfl : g' = j := Option.some.inj hj
        exact HK.out⟩
  | some x0 =>
    obtain ⟨g, o, z⟩ := x0
    go_wp2_with (at_builtin; refine wpList_append_lies _ rfl _ _ _ rfl base 39 i0 (.agg #[.int .i64 0, .int .i64 0]) 2 16 Tryz.underlying40 hi hz0 hz1 hz2 rfl (by decide) _ n (tv ts) rfl HO.out ⟨vb, 0, none⟩ 1 1 [.int .i64 x, .int .i64 y] rfl rfl H3.out (pair_ones x y) (by decide) H5.out.1 H5.out.2 HS.out _ rfl ?_)
    all_goals
      intro g' cap' w' q1 q2 q3 _
      have HF := Lib.hid q1
      have HG := Lib.hid q2
      have HK := Lib.hid q3
      clear q1 q2 q3
      go_wp2_with fail
      go_ret
      exact ⟨_, _, rfl, by rw [tv_app]; exact HF.out, HG.out, fun j hj => by
        obtain rfl : g' = j := Option.some.inj hj
        exact HK.out⟩

theorem Insert_R (a : Option Addr) (n c i base vb : Nat) (x y : Int) (ts : List Qu.T) (w : World) (hown : w.ownsRow base 39 2 (.slice a n c) n (tv ts)) (hi : i ≤ n) (hn : n ≤ 8) (hbw : base ≤ w.heap.size)
    (hvb : ∀ k, (Value.slice a n c).ownBlock = some k → vb ≠ k) (hv : w.rowIs vb 39 2 (fun j => if j = 0 then .int .i64 x else .int .i64 y)) :
    Calls Tryz.prog 68 #[.slice a n c, .int .i64 i, .slice (some ⟨vb, 0, none⟩) 1 1] w fun e w' =>
      ∃ a' c', e = .returned (.slice a' (n + 1) c') ∧ w'.ownsRow base 39 2 (.slice a' (n + 1) c') (n + 1) (tv (ts.take i ++ (x, y) :: ts.drop i)) ∧ w.grownBy w' (Value.slice a n c).ownBlock ∧ (∀ j, (Value.slice a' (n + 1) c').ownBlock = some j → (Value.slice a n c).ownBlock = some j ∨ j = w.heap.size) := by
  have hlen : ts.length = n := by have := hown.1; rw [tv_length] at this; omega
  by_cases h : i = n
  · subst h
    have := Insert_end a i c base vb x y ts w hown hn hbw hv
    rw [List.take_of_length_le (by omega), List.drop_of_length_le (by omega)]
    exact this
  · obtain ⟨g, rfl⟩ : ∃ g, a = some ⟨g, 0, none⟩ := by
      rcases hown.2 with ⟨-, h0⟩ | ⟨g, cap', cur, h, -⟩
      · omega
      · cases h; exact ⟨g, rfl⟩
    obtain ⟨f, -, -, -, hnc, -⟩ := rowIs_own hown
    by_cases hc : n + 1 ≤ c
    · exact Insert_room g c n i base vb x y ts w hown (by omega) hn hc (hvb g rfl) hv
    · obtain rfl : c = n := by omega
      exact Insert_grow g c i base vb x y ts w hown (by omega) hn hbw hv

end Go.Proofs.YtenkdpogdfcbgaaGreat.Rs

/- The walk of resv.Register. -/
namespace Go.Proofs.YtenkdpogdfcbgaaGreat.Rs
open Go.RowKit

theorem tv_set2 {L : List Qu.T} {i : Nat} (hi : i < L.length) (y : Int) : tv (L.set i (L[i].1, y)) = (tv L).set (i * 2 + 1) (.int .i64 y) := by
  rw [tv_set]
  congr 1
  have h := (tv_get (List.getElem?_eq_getElem hi)).1
  have hl : i * 2 < (tv L).length := by rw [tv_length]; omega
  rw [List.getElem?_eq_getElem hl] at h
  rw [← Option.some.inj h]
  exact List.set_getElem_self hl

theorem setK_eq {ts : List Qu.T} (h : Rg.Inc ts) {i : Nat} (hi : i < ts.length) {x : Int} (hx : ts[i].1 = x) (y : Int) : Rg.setK ts x y = ts.set i (ts[i].1, y) := by
  unfold Rg.setK
  apply List.ext_getElem
  · simp
  · intro j h1 h2
    rw [List.getElem_map, List.getElem_set]
    have hj : j < ts.length := by simpa using h1
    by_cases e : i = j
    · subst e
      rw [if_pos (by simp [Qu.tg, hx]), if_pos rfl]
    · rw [if_neg e, if_neg]
      simp only [Qu.tg, beq_iff_eq]
      intro he
      rcases Nat.lt_or_gt_of_ne e with hlt | hlt
      · have := (List.pairwise_iff_getElem.1 h) i j hi hj hlt; omega
      · have := (List.pairwise_iff_getElem.1 h) j i hj hi hlt; omega

theorem ins_eq {ts : List Qu.T} {x y : Int} {k : Nat} (hk : k ≤ ts.length) (h1 : ∀ m (hm : m < ts.length), m < k → ts[m].1 < x) (h2 : ∀ m (hm : m < ts.length), k ≤ m → x ≤ ts[m].1) : Rg.ins ts x y = ts.take k ++ (x, y) :: ts.drop k := by
  unfold Rg.ins
  have e : ts = ts.take k ++ ts.drop k := (List.take_append_drop k ts).symm
  have a1 : ∀ t, t ∈ ts.take k → t.1 < x := fun t ht => by
    obtain ⟨m, hm, rfl⟩ := List.getElem_of_mem ht
    rw [List.length_take] at hm
    rw [List.getElem_take]
    exact h1 m (by omega) (by omega)
  have a2 : ∀ t, t ∈ ts.drop k → x ≤ t.1 := fun t ht => by
    obtain ⟨m, hm, rfl⟩ := List.getElem_of_mem ht
    rw [List.length_drop] at hm
    rw [List.getElem_drop]
    exact h2 (k + m) (by omega) (by omega)
  have b1 : ts.filter (fun t => decide (t.1 < x)) = ts.take k := by
    conv => lhs; rw [e]
    rw [List.filter_append, List.filter_eq_self.2 (fun t ht => decide_eq_true (a1 t ht)), List.filter_eq_nil_iff.2 (fun t ht => by have := a2 t ht; simp only [decide_eq_true_eq]; omega), List.append_nil]
  have b2 : ts.filter (fun t => decide (x ≤ t.1)) = ts.drop k := by
    conv => lhs; rw [e]
    rw [List.filter_append, List.filter_eq_self.2 (fun t ht => decide_eq_true (a2 t ht)), List.filter_eq_nil_iff.2 (fun t ht => by have := a1 t ht; simp only [decide_eq_true_eq]; omega), List.nil_append]
  rw [b1, b2]

theorem rowIs_pair (w : World) (x y : Int) : (w.alloc (.cells #[.int .i64 x, .int .i64 y] 39)).rowIs w.heap.size 39 2 (fun j => if j = 0 then .int .i64 x else .int .i64 y) :=
  ⟨#[.int .i64 x, .int .i64 y], by show (w.heap.push _)[w.heap.size]? = _; rw [Array.getElem?_push, if_pos rfl], rfl, fun j hj => by
    rcases j with _ | _ | j
    · rfl
    · rfl
    · omega⟩

/-- Where the reservation ends with a hand. -/
theorem out_eq (g k q x : Int) (ts : List Qu.T) : Rg.out ⟨g, ts, k, q⟩ x = ⟨g, Rg.cut ts x, if Rg.ends ts k q x = true then 0 else k, if Rg.ends ts k q x = true then 0 else q⟩ := by
  unfold Rg.out
  show (if Rg.ends ts k q x = true then _ else _) = _
  split <;> rfl

set_option maxRecDepth 100000 in
set_option maxHeartbeats 16000000 in
theorem Register_R (g k q x old y : Int) (a : Option Addr) (n c : Nat) (ts : List Qu.T) (w : World) (hG : Rg.Good ⟨g, ts, k, q⟩) (hT : TSl w a n c ts) (hg : g < 2147483647) (hx0 : 0 ≤ x) (hx7 : x ≤ 7) (hy0 : 0 ≤ y) (hy1 : y ≤ 1000) :
    Calls Tryz.prog 42 #[.agg #[.int .i64 g, .slice a n c, .int .i64 k, .int .i64 q], .int .i64 x, .int .i64 old, .int .i64 y] w (RTo w (rz (Rg.regR ⟨g, ts, k, q⟩ x y) (Rg.regE ⟨g, ts, k, q⟩ x old)) (Rg.regE ⟨g, ts, k, q⟩ x old)) := by
  have hg0 : 0 ≤ g := hG.gen0
  have hn8 : n ≤ 8 := by have := hG.len; rw [hT.len] at this; exact this
  have HX := boxes_x w g k q a n c
  have HY := boxes_y w
  have HB := boxes_b w
  have C1 := fun o o' => Check_R g k q a n c ts ((w.alloc o).alloc o') hG (hT.keep (HB.out o o'))
  have W1 := fun w => who_R x true (by unfold Rg.who; rw [decide_eq_true hx0, decide_eq_true hx7]; rfl) w
  have HF : Hid (∀ w', Below w.heap.size w w' → Calls Tryz.prog 47 #[.agg #[.int .i64 g, .slice a n c, .int .i64 k, .int .i64 q], .int .i64 x] w' fun e w'' => e = .returned (.int .i64 (idx (Qu.tg x) ts)) ∧ Below w'.heap.size w' w'') := Lib.hid fun w' hb => find_R g k q x a n c ts w' (hT.keep hb) (by omega)
  have HN : Hid (∀ w', Below w.heap.size w w' → Calls Tryz.prog 64 #[.agg #[.int .i64 g, .slice a n c, .int .i64 k, .int .i64 q], .int .i64 1] w' fun e w'' => ∃ a' c', e = .returned (.agg #[.int .i64 (g + 1), .slice a' n c', .int .i64 k, .int .i64 q]) ∧ w''.ownsRow w'.heap.size 39 2 (.slice a' n c') n (tv ts) ∧ Below w'.heap.size w' w'') := Lib.hid fun w' hb =>
    next_R g 1 k q a n c ts w' (hT.keep hb) (by omega) hg0 (by omega) (by omega) (by omega)
  have HC := Lib.hid (idx_cases ts x)
  have HT := Lib.hid hT
  have HG := Lib.hid hG
  obtain ⟨E, hE⟩ : ∃ E, Rg.regE ⟨g, ts, k, q⟩ x old = E := ⟨_, rfl⟩
  have HE : Hid (E = if Rg.key ts x = old then 0 else 9) := Lib.hid (by rw [← hE]; rfl)
  rw [hE]
  clear hT hG hE
  go_enter Tryz.func42, Tryz.ntmps42
  go_wp2_with fail
  with_reducible refine (C1 _ _).mono ?_
  rintro e w1 ⟨rfl, hb1⟩
  have HB1 := Lib.hid ((HB.out _ _).trans (hb1.mono (HB.out _ _).size))
  have HX1 := Lib.hid ((HX.out 42 _).on hb1)
  have HY1 := Lib.hid ((HY.out _ 42).on hb1)
  obtain ⟨hl, c0, c1, c2, c3, z0, z1, z2, z3⟩ := HX1.out
  have F1 := HF.out w1 HB1.out
  clear hb1 C1
  go_wp2_with fail
  with_reducible refine (W1 _).mono ?_
  rintro e w2 ⟨rfl, rfl⟩
  go_wp2_with fail
  with_reducible refine F1.mono ?_
  rintro e w2 ⟨rfl, hb2⟩
  have HB2 := Lib.hid (HB1.out.trans (hb2.mono HB1.out.size))
  have HX2 := Lib.hid (HX1.out.on hb2)
  have HY2 := Lib.hid (HY1.out.on hb2)
  have N1 := HN.out w2 HB2.out
  clear c0 c1 c2 c3 z0 z1 z2 z3 hl hb2 F1 HX1 HY1 HB1
  obtain ⟨hl, c0, c1, c2, c3, z0, z1, z2, z3⟩ := HX2.out
  obtain ⟨hm, d0, d1, d2, d3, y0, y1, y2, y3⟩ := HY2.out
  rcases HC.out with ⟨h1, h2⟩ | ⟨i, hi, h2, h1, h3, h4⟩
  · rw [h2]
    by_cases ho : old = 0
    · subst ho
      obtain rfl : E = 0 := by rw [HE.out, if_pos (Rg.key_none h1)]
      have H1 := Lib.hid h1
      clear HE h1 h2 HC
      go_wp2_with fail
      with_reducible refine N1.mono ?_
      rintro e w3 ⟨a', c', rfl, ho3, hb3⟩
      have HB3 := Lib.hid (HB2.out.trans (hb3.mono HB2.out.size))
      have HO3 := Lib.hid ho3
      have HX3 := Lib.hid (HX2.out.on hb3)
      have HY3 := Lib.hid (HY2.out.on hb3)
      have hs3 := HB3.out.size
      have hs2 := HB2.out.size
      have hs23 := hb3.size
      have hm0 := HY2.out.lt
      have HNE : Hid (∀ m k, (Value.slice a' m c').ownBlock = some k → w2.heap.size ≤ k ∧ k < w3.heap.size) := Lib.hid fun m j hj => ⟨row_base ho3 j (by cases a' <;> exact hj), own_block_lt ho3 j (by cases a' <;> exact hj)⟩
      have HZ : Hid (∀ T, R4 (w3.alloc (.cells #[.int .i64 (g + 1), .slice a' n c', .int .i64 k, .int .i64 q] T)) w3.heap.size (.int .i64 (g + 1)) (.slice a' n c') (.int .i64 k) (.int .i64 q)) := Lib.hid fun T => r4_new w3 T _ _ _ _
      have HBA : Hid (∀ o, Below w.heap.size w (w3.alloc o)) := Lib.hid fun o => HB3.out.alloc hs3 o
      clear hl c0 c1 c2 c3 z0 z1 z2 z3 hm d0 d1 d2 d3 y0 y1 y2 y3 ho3 hb3 N1
      by_cases hy : y = 0
      · subst hy
        have K4 := fun T => out_R (g + 1) k q x a' n c' w2.heap.size ts (w3.alloc (.cells #[.int .i64 (g + 1), .slice a' n c', .int .i64 k, .int .i64 q] T)) (HO3.out.alloc _) (by omega)
        have HR : Hid (Rg.regR ⟨g, ts, k, q⟩ x 0 = ⟨g + 1, Rg.cut ts x, if Rg.ends ts k q x = true then 0 else k, if Rg.ends ts k q x = true then 0 else q⟩) := Lib.hid (by unfold Rg.regR; rw [if_pos rfl, out_eq])
        generalize (if Rg.ends ts k q x = true then 0 else k) = k' at *
        generalize (if Rg.ends ts k q x = true then 0 else q) = q' at *
        go_wp2_with fail
        with_reducible refine (K4 _).mono ?_
        rintro e w4 ⟨m, rfl, hm, hO4, hg4⟩
        have HB4 := Lib.hid (own_grown (HO3.out.alloc _) (HBA.out _) hs2 (HBA.out _).size hg4)
        have HY4 := Lib.hid ((HY3.out.alloc _).grown hg4 (fun e => by have := HNE.out n _ e.symm; have := HY2.out.lt; omega))
        have HO4 := Lib.hid (own_low hO4 hs2)
        have HNE4 : Hid (∀ k, (Value.slice a' m c').ownBlock = some k → w.heap.size + 1 ≠ k) := Lib.hid fun j hj => by have := HNE.out m j hj; have := HY2.out.lt; omega
        clear hO4 hg4 K4 hm
        obtain ⟨hm, d0, d1, d2, d3, y0, y1, y2, y3⟩ := HY4.out
        go_wp2_with fail
        refine bodyPost_ret (res_cell2 (p := 8) (q := 9) (B := w.heap.size + 1) rfl rfl rfl (HY4.out.set _ _ _ _)) rfl ?_
        rw [HR.out]
        exact rto_ok (r := ⟨g + 1, Rg.cut ts x, k', q'⟩) (own_set4 HO4.out HNE4.out _ _ _ _) (below_set4 HB4.out (by omega) _ _ _ _)
      · obtain ⟨hl, c0, c1, c2, c3, z0, z1, z2, z3⟩ := (HZ.out 42)
        have hTs := fun T => (own_slice (HO3.out.alloc (.cells #[.int .i64 (g + 1), .slice a' n c', .int .i64 k, .int .i64 q] T)))
        have K4 : ∀ T, Calls Tryz.prog 66 #[.slice a' n c', .int .i64 x, .func (.func 67) #[] #[]] (w3.alloc (.cells #[.int .i64 (g + 1), .slice a' n c', .int .i64 k, .int .i64 q] T)) _ := fun T => Search_R x a' n c' ts (w3.alloc (.cells #[.int .i64 (g + 1), .slice a' n c', .int .i64 k, .int .i64 q] T)) (by
          obtain ⟨a2, c2, he, h⟩ := hTs T
          cases he
          exact h) hn8 hx0 hx7 HG.out.inc (fun t ht => by have := HG.out.one t ht; exact ⟨this.1, this.2.1⟩)
        have HR : Hid (∀ kk, kk ≤ ts.length → (∀ m (hm : m < ts.length), m < kk → ts[m].1 < x) → (∀ m (hm : m < ts.length), kk ≤ m → x ≤ ts[m].1) → Rg.regR ⟨g, ts, k, q⟩ x y = ⟨g + 1, ts.take kk ++ (x, y) :: ts.drop kk, k, q⟩) := Lib.hid fun kk h1 h2 h3 => by
          unfold Rg.regR
          rw [if_neg hy, if_neg (by rw [H1.out]; decide)]
          show (⟨g + 1, Rg.ins ts x y, k, q⟩ : Rg.RV) = _
          rw [ins_eq h1 h2 h3]
        have ey : (y == 0) = false := beq_eq_false_iff_ne.2 hy
        clear hTs hy
        go_wp2_with fail
        with_reducible refine (K4 _).mono ?_
        rintro e w5 ⟨kk, bb, rfl, hk, hA, hC, hb5⟩
        have HR5 := Lib.hid (HR.out kk (by rw [HT.out.len]; exact hk) hA hC)
        have HB5 := Lib.hid ((HBA.out _).trans (hb5.mono (HBA.out _).size))
        have HY5 := Lib.hid ((HY3.out.alloc _).on hb5)
        have HZ5 := Lib.hid ((HZ.out 42).on hb5)
        have HO5 := Lib.hid (own_keep (HO3.out.alloc _) hb5)
        have hs5 : w3.heap.size < w5.heap.size := by have := hb5.size; rw [World.size_alloc] at this; omega
        have K6 := Insert_R a' n c' kk w2.heap.size w5.heap.size x y ts (w5.alloc (.cells #[.int .i64 x, .int .i64 y] 39)) (HO5.out.alloc _) hk hn8 (by rw [World.size_alloc]; omega) (fun j hj => by have := HNE.out n j hj; omega) (rowIs_pair w5 x y)
        clear hl c0 c1 c2 c3 z0 z1 z2 z3 hb5 K4 hA hC HR
        obtain ⟨hl, c0, c1, c2, c3, z0, z1, z2, z3⟩ := HZ5.out
        go_wp2_with fail
        with_reducible refine K6.mono ?_
        rintro e w7 ⟨a7, c7, rfl, hO7, hg7, hl7⟩
        have HB7 := Lib.hid (own_grown (HO5.out.alloc _) (HB5.out.alloc (by omega) _) hs2 (by rw [World.size_alloc]; omega) hg7)
        have HY7 := Lib.hid ((HY5.out.alloc _).grown hg7 (fun e => by have := HNE.out n _ e.symm; have := HY2.out.lt; omega))
        have HZ7 := Lib.hid ((HZ5.out.alloc _).grown hg7 (fun e => by have := HNE.out n _ e.symm; omega))
        have HO7 := Lib.hid (own_low hO7 hs2)
        have HNE7 : Hid (∀ k, (Value.slice a7 (n + 1) c7).ownBlock = some k → w.heap.size + 1 ≠ k ∧ w3.heap.size ≠ k) := Lib.hid fun j hj => by
          rcases hl7 j hj with h | h
          · have := HNE.out n j h; omega
          · rw [World.size_alloc] at h; omega
        clear hl c0 c1 c2 c3 z0 z1 z2 z3 hO7 hg7 hl7 K6
        obtain ⟨hl, c0, c1, c2, c3, z0, z1, z2, z3⟩ := HZ7.out
        obtain ⟨hm, d0, d1, d2, d3, y0, y1, y2, y3⟩ := HY7.out
        go_wp2_with fail
        refine bodyPost_ret (res_cell2 (p := 8) (q := 9) (B := w.heap.size + 1) rfl rfl rfl ((HY7.out.other w3.heap.size 1 (by omega) _).set _ _ _ _)) rfl ?_
        rw [HR5.out]
        exact rto_ok (r := ⟨g + 1, ts.take kk ++ (x, y) :: ts.drop kk, k, q⟩) (own_set4 (own_set_other HO7.out (fun j hj => (HNE7.out j hj).2) _ _) (fun j hj => (HNE7.out j hj).1) _ _ _ _) (below_set4 (HB7.out.setCell (by omega) _) (by omega) _ _ _ _)
    · have eo : (old != 0) = true := bne_iff_ne.2 ho
      obtain rfl : E = 9 := by rw [HE.out, if_neg (by rw [Rg.key_none h1]; omega)]
      clear HE h1 h2 HC ho
      go_wp2_with fail
      refine bodyPost_ret (res_cell2 (p := 8) (q := 9) (B := w.heap.size + 1) rfl rfl rfl (HY2.out.set _ _ _ _)) rfl ?_
      exact rto_err (by decide) (below_set4 HB2.out (by omega) _ _ _ _)
  · rw [h2]
    rw [h4] at HE
    have hin : i < n := by rw [← HT.out.len]; exact hi
    have hne : ts ≠ [] := by rintro rfl; simp at hi
    obtain ⟨b, o, rfl, hb, hc⟩ := (HT.out.keep HB2.out).at_ hne
    obtain ⟨-, f2⟩ := hc i ts[i] (List.getElem?_eq_getElem hi)
    have H1 := Lib.hid h1
    have H3 := Lib.hid h3
    obtain ⟨z, hz⟩ : ∃ z, ts[i].2 = z := ⟨_, rfl⟩
    rw [hz] at HE f2
    clear hc h1 h2 h3 h4 hne hz HC
    by_cases ho : z = old
    · subst ho
      obtain rfl : E = 0 := by rw [HE.out, if_pos rfl]
      clear HE
      go_wp2_with fail
      with_reducible refine N1.mono ?_
      rintro e w3 ⟨a', c', rfl, ho3, hb3⟩
      have HB3 := Lib.hid (HB2.out.trans (hb3.mono HB2.out.size))
      have HO3 := Lib.hid ho3
      have HX3 := Lib.hid (HX2.out.on hb3)
      have HY3 := Lib.hid (HY2.out.on hb3)
      have hs3 := HB3.out.size
      have hs2 := HB2.out.size
      have hs23 := hb3.size
      have hm0 := HY2.out.lt
      have HNE : Hid (∀ m k, (Value.slice a' m c').ownBlock = some k → w2.heap.size ≤ k ∧ k < w3.heap.size) := Lib.hid fun m j hj => ⟨row_base ho3 j (by cases a' <;> exact hj), own_block_lt ho3 j (by cases a' <;> exact hj)⟩
      have HZ : Hid (∀ T, R4 (w3.alloc (.cells #[.int .i64 (g + 1), .slice a' n c', .int .i64 k, .int .i64 q] T)) w3.heap.size (.int .i64 (g + 1)) (.slice a' n c') (.int .i64 k) (.int .i64 q)) := Lib.hid fun T => r4_new w3 T _ _ _ _
      have HBA : Hid (∀ o, Below w.heap.size w (w3.alloc o)) := Lib.hid fun o => HB3.out.alloc hs3 o
      clear f2 hl c0 c1 c2 c3 z0 z1 z2 z3 hm d0 d1 d2 d3 y0 y1 y2 y3 ho3 hb3 N1
      by_cases hy : y = 0
      · subst hy
        have K4 := fun T => out_R (g + 1) k q x a' n c' w2.heap.size ts (w3.alloc (.cells #[.int .i64 (g + 1), .slice a' n c', .int .i64 k, .int .i64 q] T)) (HO3.out.alloc _) (by omega)
        have HR : Hid (Rg.regR ⟨g, ts, k, q⟩ x 0 = ⟨g + 1, Rg.cut ts x, if Rg.ends ts k q x = true then 0 else k, if Rg.ends ts k q x = true then 0 else q⟩) := Lib.hid (by unfold Rg.regR; rw [if_pos rfl, out_eq])
        generalize (if Rg.ends ts k q x = true then 0 else k) = k' at *
        generalize (if Rg.ends ts k q x = true then 0 else q) = q' at *
        go_wp2_with fail
        with_reducible refine (K4 _).mono ?_
        rintro e w4 ⟨m, rfl, hm, hO4, hg4⟩
        have HB4 := Lib.hid (own_grown (HO3.out.alloc _) (HBA.out _) hs2 (HBA.out _).size hg4)
        have HY4 := Lib.hid ((HY3.out.alloc _).grown hg4 (fun e => by have := HNE.out n _ e.symm; have := HY2.out.lt; omega))
        have HO4 := Lib.hid (own_low hO4 hs2)
        have HNE4 : Hid (∀ k, (Value.slice a' m c').ownBlock = some k → w.heap.size + 1 ≠ k) := Lib.hid fun j hj => by have := HNE.out m j hj; have := HY2.out.lt; omega
        clear hO4 hg4 K4 hm
        obtain ⟨hm, d0, d1, d2, d3, y0, y1, y2, y3⟩ := HY4.out
        go_wp2_with fail
        refine bodyPost_ret (res_cell2 (p := 8) (q := 9) (B := w.heap.size + 1) rfl rfl rfl (HY4.out.set _ _ _ _)) rfl ?_
        rw [HR.out]
        exact rto_ok (r := ⟨g + 1, Rg.cut ts x, k', q'⟩) (own_set4 HO4.out HNE4.out _ _ _ _) (below_set4 HB4.out (by omega) _ _ _ _)
      · obtain ⟨hl, c0, c1, c2, c3, z0, z1, z2, z3⟩ := (HZ.out 42)
        have HR : Hid (Rg.regR ⟨g, ts, k, q⟩ x y = ⟨g + 1, ts.set i (ts[i].1, y), k, q⟩) := Lib.hid (by
          unfold Rg.regR
          rw [if_neg hy, if_pos H1.out]
          show (⟨g + 1, Rg.setK ts x y, k, q⟩ : Rg.RV) = _
          rw [setK_eq HG.out.inc hi H3.out])
        obtain ⟨g', c'', he, hg1, hg2⟩ := HO3.out.form (by omega)
        cases he
        have ey : (y == 0) = false := beq_eq_false_iff_ne.2 hy
        have s1 : ∀ o, (w3.alloc o).cell? ⟨g', i * 2 + 1, none⟩ = some (.int .i64 (ts[i].2)) := fun o => by
          rw [(HO3.out.alloc o).cellAt _ (by omega), (tv_get (List.getElem?_eq_getElem hi)).2]
        have f1 : ∀ o, (w3.alloc o).frozen? ⟨g', i * 2 + 1, none⟩ = false := fun o => (HO3.out.alloc o).frozenAt _
        have HO4 : Hid ((w3.setCell ⟨g', i * 2 + 1, none⟩ (.int .i64 y)).ownsRow w.heap.size 39 2 (.slice (some ⟨g', 0, none⟩) n c') n (tv (ts.set i (ts[i].1, y)))) := Lib.hid (by
          have h := (HO3.out.stored (i * 2 + 1) (.int .i64 y)).1
          rw [tv_set2 hi]
          exact own_low h hs2)
        have HNE4 : Hid (∀ k, (Value.slice (some ⟨g', 0, none⟩) n c').ownBlock = some k → w.heap.size + 1 ≠ k) := Lib.hid fun j hj => by have := HNE.out n j hj; omega
        have HYb : g' ≠ w.heap.size + 1 := by omega
        have HZb : g' ≠ w3.heap.size := by omega
        have HWB : w.heap.size ≤ g' := by omega
        generalize ts[i].2 = zz at *
        obtain ⟨hm, d0, d1, d2, d3, y0, y1, y2, y3⟩ := HY3.out
        clear hy
        go_wp2_with fail
        refine bodyPost_ret (res_cell2 (p := 8) (q := 9) (B := w.heap.size + 1) rfl rfl rfl (((HY3.out.other g' (i * 2 + 1) HYb _).set _ _ _ _).alloc _)) rfl ?_
        rw [HR.out]
        exact rto_ok (r := ⟨g + 1, ts.set i (ts[i].1, y), k, q⟩) ((own_set4 HO4.out HNE4.out _ _ _ _).alloc _) ((below_set4 (HB3.out.setCell HWB _) (by omega) _ _ _ _).alloc (by simp only [World.size_setCell]; exact hs3) _)
    · have eo : (z != old) = true := bne_iff_ne.2 ho
      obtain rfl : E = 9 := by rw [HE.out, if_neg ho]
      clear HE ho
      go_wp2_with fail
      refine bodyPost_ret (res_cell2 (p := 8) (q := 9) (B := w.heap.size + 1) rfl rfl rfl (HY2.out.set _ _ _ _)) rfl ?_
      exact rto_err (by decide) (below_set4 HB2.out (by omega) _ _ _ _)

set_option maxRecDepth 100000 in
set_option maxHeartbeats 16000000 in
theorem Register_M (k q x old y : Int) (a : Option Addr) (n c : Nat) (ts : List Qu.T) (w : World) (hG : Rg.Good ⟨2147483647, ts, k, q⟩) (hT : TSl w a n c ts) (hx0 : 0 ≤ x) (hx7 : x ≤ 7) (hy0 : 0 ≤ y) (hy1 : y ≤ 1000) :
    Calls Tryz.prog 42 #[.agg #[.int .i64 2147483647, .slice a n c, .int .i64 k, .int .i64 q], .int .i64 x, .int .i64 old, .int .i64 y] w (RTo w (rz (Rg.regR ⟨2147483647, ts, k, q⟩ x y) (Rg.regE8 ⟨2147483647, ts, k, q⟩ x old)) (Rg.regE8 ⟨2147483647, ts, k, q⟩ x old)) := by
  have hn8 : n ≤ 8 := by have := hG.len; rw [hT.len] at this; exact this
  have HX := boxes_x w 2147483647 k q a n c
  have HY := boxes_y w
  have HB := boxes_b w
  have C1 := fun o o' => Check_R 2147483647 k q a n c ts ((w.alloc o).alloc o') hG (hT.keep (HB.out o o'))
  have W1 := fun w => who_R x true (by unfold Rg.who; rw [decide_eq_true hx0, decide_eq_true hx7]; rfl) w
  have HF : Hid (∀ w', Below w.heap.size w w' → Calls Tryz.prog 47 #[.agg #[.int .i64 2147483647, .slice a n c, .int .i64 k, .int .i64 q], .int .i64 x] w' fun e w'' => e = .returned (.int .i64 (idx (Qu.tg x) ts)) ∧ Below w'.heap.size w' w'') := Lib.hid fun w' hb => find_R 2147483647 k q x a n c ts w' (hT.keep hb) (by omega)
  have HC := Lib.hid (idx_cases ts x)
  have HT := Lib.hid hT
  have HG := Lib.hid hG
  obtain ⟨E, hE⟩ : ∃ E, Rg.regE8 ⟨2147483647, ts, k, q⟩ x old = E := ⟨_, rfl⟩
  have HE : Hid (E = if Rg.key ts x = old then 8 else 9) := Lib.hid (by rw [← hE]; rfl)
  rw [hE]
  clear hT hG hE
  go_enter Tryz.func42, Tryz.ntmps42
  go_wp2_with fail
  with_reducible refine (C1 _ _).mono ?_
  rintro e w1 ⟨rfl, hb1⟩
  have HB1 := Lib.hid ((HB.out _ _).trans (hb1.mono (HB.out _ _).size))
  have HX1 := Lib.hid ((HX.out 42 _).on hb1)
  have HY1 := Lib.hid ((HY.out _ 42).on hb1)
  obtain ⟨hl, c0, c1, c2, c3, z0, z1, z2, z3⟩ := HX1.out
  have F1 := HF.out w1 HB1.out
  clear hb1 C1
  go_wp2_with fail
  with_reducible refine (W1 _).mono ?_
  rintro e w2 ⟨rfl, rfl⟩
  go_wp2_with fail
  with_reducible refine F1.mono ?_
  rintro e w2 ⟨rfl, hb2⟩
  have HB2 := Lib.hid (HB1.out.trans (hb2.mono HB1.out.size))
  have HX2 := Lib.hid (HX1.out.on hb2)
  have HY2 := Lib.hid (HY1.out.on hb2)
  clear c0 c1 c2 c3 z0 z1 z2 z3 hl hb2 F1 HX1 HY1 HB1
  obtain ⟨hl, c0, c1, c2, c3, z0, z1, z2, z3⟩ := HX2.out
  obtain ⟨hm, d0, d1, d2, d3, y0, y1, y2, y3⟩ := HY2.out
  rcases HC.out with ⟨h1, h2⟩ | ⟨i, hi, h2, h1, h3, h4⟩
  · rw [h2]
    by_cases ho : old = 0
    · subst ho
      obtain rfl : E = 8 := by rw [HE.out, if_pos (Rg.key_none h1)]
      clear HE h1 h2 HC
      go_wp2_with fail
      refine bodyPost_ret (res_cell2 (p := 8) (q := 9) (B := w.heap.size + 1) rfl rfl rfl (HY2.out.set _ _ _ _)) rfl ?_
      exact rto_err (by decide) (below_set4 HB2.out (by omega) _ _ _ _)
    · have eo : (old != 0) = true := bne_iff_ne.2 ho
      obtain rfl : E = 9 := by rw [HE.out, if_neg (by rw [Rg.key_none h1]; omega)]
      clear HE h1 h2 HC ho
      go_wp2_with fail
      refine bodyPost_ret (res_cell2 (p := 8) (q := 9) (B := w.heap.size + 1) rfl rfl rfl (HY2.out.set _ _ _ _)) rfl ?_
      exact rto_err (by decide) (below_set4 HB2.out (by omega) _ _ _ _)
  · rw [h2]
    rw [h4] at HE
    have hin : i < n := by rw [← HT.out.len]; exact hi
    have hne : ts ≠ [] := by rintro rfl; simp at hi
    obtain ⟨b, o, rfl, hb, hc⟩ := (HT.out.keep HB2.out).at_ hne
    obtain ⟨-, f2⟩ := hc i ts[i] (List.getElem?_eq_getElem hi)
    have H1 := Lib.hid h1
    have H3 := Lib.hid h3
    obtain ⟨z, hz⟩ : ∃ z, ts[i].2 = z := ⟨_, rfl⟩
    rw [hz] at HE f2
    clear hc h1 h2 h3 h4 hne hz HC
    by_cases ho : z = old
    · subst ho
      obtain rfl : E = 8 := by rw [HE.out, if_pos rfl]
      clear HE
      go_wp2_with fail
      refine bodyPost_ret (res_cell2 (p := 8) (q := 9) (B := w.heap.size + 1) rfl rfl rfl (HY2.out.set _ _ _ _)) rfl ?_
      exact rto_err (by decide) (below_set4 HB2.out (by omega) _ _ _ _)
    · have eo : (z != old) = true := bne_iff_ne.2 ho
      obtain rfl : E = 9 := by rw [HE.out, if_neg ho]
      clear HE ho
      go_wp2_with fail
      refine bodyPost_ret (res_cell2 (p := 8) (q := 9) (B := w.heap.size + 1) rfl rfl rfl (HY2.out.set _ _ _ _)) rfl ?_
      exact rto_err (by decide) (below_set4 HB2.out (by omega) _ _ _ _)

end Go.Proofs.YtenkdpogdfcbgaaGreat.Rs
