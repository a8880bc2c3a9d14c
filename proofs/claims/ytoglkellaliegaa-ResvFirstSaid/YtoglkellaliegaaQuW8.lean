/- The walk of slices.DeleteFunc at tasks. -/
import Derived.Test.YtoglkellaliegaaQuW7
namespace Go.Proofs.Ytoglkellaliegaa
open Go.RowKit

/-- 'clear' of tasks. -/
theorem run_clear_many (w : World) (b o r c : Nat) (hr : 0 < r) (h0 : ∀ j, j < r * 2 → (w.cell? ⟨b, o + j, none⟩).isSome = true) (f0 : ∀ j, j < r * 2 → w.frozen? ⟨b, o + j, none⟩ = false) :
    ∃ Z : List Value, Z.length = r * 2 ∧ ∀ ty, (Builtin.clear_ #[22] ty #[.slice (some ⟨b, o, none⟩) r c]).run Try.prog w = .ok (.tuple #[]) (w.setCells b o Z) := by
  have hZl : (Builtin.zeroCells (Value.agg #[.int .i64 0, .int .i64 0]).cells r).toList.length = r * 2 := by rw [Array.length_toList, size_zeroCells]; rfl
  have hone : ∀ u ∈ (Builtin.zeroCells (Value.agg #[.int .i64 0, .int .i64 0]).cells r).toList, u.oneCell' = true := by
    intro u hu
    unfold Builtin.zeroCells at hu
    simp only [Array.toList_map, List.mem_map] at hu
    obtain ⟨k, -, rfl⟩ := hu
    show (#[Value.int .i64 0, Value.int .i64 0][k % 2]!).oneCell' = true
    rcases Nat.mod_two_eq_zero_or_one k with h | h
    · rw [h]; rfl
    · rw [h]; rfl
  have hst := run_storeCells_cells (P := Try.prog) b o (Builtin.zeroCells (Value.agg #[.int .i64 0, .int .i64 0]).cells r).toList 0 w (by rw [hZl]; simpa using h0) (by rw [hZl]; simpa using f0) hone
  simp only [Nat.add_zero] at hst
  refine ⟨_, hZl, fun ty => ?_⟩
  obtain ⟨m, rfl⟩ : ∃ m, r = m + 1 := ⟨r - 1, by omega⟩
  simp [Builtin.clear_, run_underlying Try.underlying22, hst]

/-- Those that are simple. -/
def simples (ts : List Qu.T) : List Qu.T := ts.filter fun t => !Qu.ns t

theorem eg_simple : ∀ args w, (callFunc 30 args).run Try.prog w = .ok (.enter 30 args) w := enters_of Try.func30 (by kernel_rfl) rfl

theorem pred_simple (w : World) : PredT w 30 #[] Qu.ns := fun W a b hb => by
  have HB := Lib.hid hb
  clear hb
  show Calls Try.prog 30 #[.agg #[.int .i64 a, .int .i64 b]] W _
  go_enter Try.func30, Try.ntmps30
  go_wp2_with fail
  go_ret
  exact ⟨rfl, HB.out.alloc HB.out.size _⟩

theorem tv_set (l : List Qu.T) (k : Nat) (t : Qu.T) : tv (l.set k t) = ((tv l).set (k * 2) (.int .i64 t.1)).set (k * 2 + 1) (.int .i64 t.2) := by
  induction l generalizing k with
  | nil => simp [tv]
  | cons u l ih =>
    cases k with
    | zero => rfl
    | succ k =>
      rw [List.set_cons_succ, tv, ih, tv, show (k + 1) * 2 = k * 2 + 1 + 1 from by omega]
      rfl

set_option maxRecDepth 100000 in
set_option maxHeartbeats 8000000 in
theorem DeleteFunc_T (g cap n base : Nat) (ts : List Qu.T) (w W0 : World) (hown : w.ownsRow base 24 2 (.slice (some ⟨g, 0, none⟩) n cap) n (tv ts)) (hn2 : n ≤ 1000000) (hB : Below base W0 w) (hb0 : base ≤ w.heap.size) :
    Calls Try.prog 29 #[.slice (some ⟨g, 0, none⟩) n cap, .func (.func 30) #[] #[]] w fun e w' =>
      ∃ m, e = .returned (.slice (some ⟨g, 0, none⟩) m cap) ∧ (simples ts).length = m ∧ w'.ownsRow base 24 2 (.slice (some ⟨g, 0, none⟩) m cap) m (tv (simples ts)) ∧ Below base W0 w' := by
  have hlen : ts.length = n := by have := hown.1; rw [tv_length] at this; omega
  obtain ⟨f0, -, -, hbg, hnc, hcm⟩ := rowIs_own hown
  obtain ⟨a', c', he, hT⟩ := tsl_own hown hlen
  cases he
  have I1 := IndexFunc_T (some ⟨g, 0, none⟩) cap ts _ _ _ w (by omega) eg_simple hT.at_ (pred_simple w)
  rw [hlen] at I1
  unfold maxLen at hcm
  have HO := Lib.hid hown; have HL := Lib.hid hlen; have HB := Lib.hid hB
  clear hT hown hB hlen
  rcases hi : ts.findIdx? Qu.ns with _ | i
  · have e1 : idx Qu.ns ts = -1 := by unfold idx; rw [hi]
    rw [e1] at I1
    have HS : Hid (simples ts = ts) := Lib.hid (by
      unfold simples
      rw [List.filter_eq_self]
      intro t ht
      rw [List.findIdx?_eq_none_iff] at hi
      rw [hi t ht]; rfl)
    clear hi e1
    go_enter Try.func29, Try.ntmps29
    go_wp2_with fail
    with_reducible refine I1.mono ?_
    rintro e w' ⟨rfl, hb⟩
    have HF : Hid (w'.ownsRow base 24 2 (.slice (some ⟨g, 0, none⟩) n cap) n (tv (simples ts)) ∧ Below base W0 w') := Lib.hid ⟨by rw [HS.out]; exact own_keep HO.out hb, HB.out.trans (hb.mono hb0)⟩
    clear hb I1
    go_wp2_with fail
    go_ret
    exact ⟨n, rfl, by rw [HS.out]; exact HL.out, HF.out⟩
  · obtain ⟨hin, hns, hbef⟩ := List.findIdx?_eq_some_iff_getElem.1 hi
    have e1 : idx Qu.ns ts = (i : Int) := by unfold idx; rw [hi]
    rw [e1] at I1
    have hin' : i < n := by rw [← HL.out]; exact hin
    have HS0 : Hid ((simples (ts.take (i + 1))) = ts.take i) := Lib.hid (by
      unfold simples
      rw [List.take_succ_eq_append_getElem hin, List.filter_append, List.filter_cons, hns, List.filter_eq_self.2 (fun t ht => by
        obtain ⟨j, hj, rfl⟩ := List.getElem_of_mem ht
        rw [List.getElem_take]
        rw [List.length_take] at hj
        cases hc : Qu.ns (ts[j]'(by omega)) with
        | false => rfl
        | true => exact absurd hc (hbef j (by omega)))]
      simp)
    clear hi e1 hns hbef hin
    go_enter Try.func29, Try.ntmps29
    go_wp2_with fail
    with_reducible refine I1.mono ?_
    rintro e w1 ⟨rfl, hb⟩
    have HO1 := Lib.hid (own_keep HO.out hb)
    have HB1 := Lib.hid (HB.out.trans (hb.mono hb0))
    have hb1 : base ≤ w1.heap.size := Nat.le_trans hb0 hb.size
    clear hb I1
    have hm1 : ((i : Int) == -1) = false := beq_eq_false_iff_ne.2 (by omega)
    go_wp2_with fail
    go_loopw [5, 6] (fun vi vj wr => ∃ (k j : Nat) (L : List Qu.T), vi = .int .i64 k ∧ vj = .int .i64 j ∧ k < j ∧ j ≤ n ∧ Hid (L.length = n) ∧ Hid (L.take k = simples (ts.take j)) ∧ Hid (L.drop j = ts.drop j) ∧ Hid (wr.ownsRow base 24 2 (.slice (some ⟨g, 0, none⟩) n cap) n (tv L)) ∧ Hid (Below base W0 wr) ∧ base ≤ wr.heap.size) (fun _ vj _ => n - (intOf vj).toNat)
    case atStart => exact ⟨i, i + 1, ts, rfl, by go_num, Nat.lt_succ_self _, hin', HL, Lib.hid HS0.out.symm, Lib.hid rfl, HO1, HB1, hb1⟩
    case round =>
      obtain ⟨k, j, L, rfl, rfl, hkj, hj, hL, hP, hD, hO, hBr, hbr⟩ := hrel
      by_cases hlt : j < n
      · have hjl : j < L.length := by rw [hL.out]; exact hlt
        have hjt : j < ts.length := by rw [HL.out]; exact hlt
        have hLj : L[j] = ts[j] := by
          have h := congrArg (fun l : List Qu.T => l[0]?) hD.out
          simp only [List.getElem?_drop, Nat.add_zero] at h
          rw [List.getElem?_eq_getElem hjl, List.getElem?_eq_getElem hjt] at h
          exact Option.some.inj h
        have c1 : wr.cell? ⟨g, j * 2, none⟩ = some (.int .i64 ts[j].1) := by
          rw [hO.out.cellAt _ (by omega), (tv_get (List.getElem?_eq_getElem hjl)).1, hLj]
        have c2 : wr.cell? ⟨g, j * 2 + 1, none⟩ = some (.int .i64 ts[j].2) := by
          rw [hO.out.cellAt _ (by omega), (tv_get (List.getElem?_eq_getElem hjl)).2, hLj]
        have HSN : Hid (simples (ts.take (j + 1)) = simples (ts.take j) ++ if Qu.ns (ts[j].1, ts[j].2) = false then [(ts[j].1, ts[j].2)] else []) := Lib.hid (by
          unfold simples
          rw [List.take_succ_eq_append_getElem hjt, List.filter_append]
          congr 1
          rw [List.filter_cons]
          show (if (!Qu.ns ts[j]) = true then _ else _) = if Qu.ns ts[j] = false then [ts[j]] else []
          cases Qu.ns ts[j] <;> rfl)
        have HDJ : Hid (∀ t, (L.set k t).drop (j + 1) = ts.drop (j + 1)) := Lib.hid fun t => by
          rw [List.drop_set_of_lt (by omega), ← List.drop_drop, ← List.drop_drop, hD.out]
        have hpc : ∀ T, Calls Try.prog 30 #[.agg #[.int .i64 ts[j].1, .int .i64 ts[j].2]] (wr.alloc (.cells #[.int .i64 ts[j].1, .int .i64 ts[j].2] T)) fun e w' => e = .returned (.bool (Qu.ns (ts[j].1, ts[j].2))) ∧ Below (wr.alloc (.cells #[.int .i64 ts[j].1, .int .i64 ts[j].2] T)).heap.size (wr.alloc (.cells #[.int .i64 ts[j].1, .int .i64 ts[j].2] T)) w' := fun T =>
          (pred_simple (wr.alloc (.cells #[.int .i64 ts[j].1, .int .i64 ts[j].2] T))) (wr.alloc (.cells #[.int .i64 ts[j].1, .int .i64 ts[j].2] T)) ts[j].1 ts[j].2 (Below.refl _ _)
        clear hjl hLj
        generalize ts[j].1 = x at *
        generalize ts[j].2 = y at *
        have HX0 := Lib.hid (box_new wr 24 x y)
        have jn : (j : Int) < (n : Int) := by omega
        cases hq : Qu.ns (x, y) with
        | true =>
          rw [hq] at hpc
          have HSN2 : Hid (simples (ts.take (j + 1)) = simples (ts.take j)) := Lib.hid (by rw [HSN.out, hq, if_neg (by decide), List.append_nil])
          have HDD : Hid (L.drop (j + 1) = ts.drop (j + 1)) := Lib.hid (by rw [← List.drop_drop, ← List.drop_drop, hD.out])
          clear hq HSN
          go_wp2_with fail
          have K1 := hpc 24
          with_reducible refine K1.mono ?_
          rintro e w2 ⟨rfl, hb2⟩
          have HB2 := Lib.hid ((hBr.out.alloc hbr (.cells #[.int .i64 x, .int .i64 y] 24)).trans (hb2.mono (by rw [World.size_alloc]; omega)))
          have HO2 := Lib.hid (own_keep (hO.out.alloc (.cells #[.int .i64 x, .int .i64 y] 24)) hb2)
          have hb3 : base ≤ w2.heap.size := Nat.le_trans hbr (by have := hb2.size; rw [World.size_alloc] at this; omega)
          clear hb2 K1 hpc
          go_wp2_with fail
          go_roundw
          case rel => exact ⟨k, j + 1, L, rfl, by go_num, by omega, hlt, hL, Lib.hid (by rw [HSN2.out]; exact hP.out), HDD, HO2, HB2, hb3⟩
          case measure => simp [intOf]; omega
        | false =>
          rw [hq] at hpc
          have HSN2 : Hid (simples (ts.take (j + 1)) = simples (ts.take j) ++ [(x, y)]) := Lib.hid (by rw [HSN.out, hq, if_pos rfl])
          have hkL : k < L.length := by rw [hL.out]; omega
          have HPT : Hid ((L.set k (x, y)).take (k + 1) = simples (ts.take j) ++ [(x, y)]) := Lib.hid (by
            rw [List.take_succ_eq_append_getElem (by rw [List.length_set]; exact hkL), List.take_set_of_le (Nat.le_refl _), hP.out]
            simp)
          have HLS : Hid ((L.set k (x, y)).length = n) := Lib.hid (by rw [List.length_set]; exact hL.out)
          clear hq HSN
          go_wp2_with fail
          have K1 := hpc 24
          with_reducible refine K1.mono ?_
          rintro e w2 ⟨rfl, hb2⟩
          have HB2 := Lib.hid ((hBr.out.alloc hbr (.cells #[.int .i64 x, .int .i64 y] 24)).trans (hb2.mono (by rw [World.size_alloc]; omega)))
          have HO2 := Lib.hid (own_keep (hO.out.alloc (.cells #[.int .i64 x, .int .i64 y] 24)) hb2)
          have HX2 := Lib.hid (HX0.out.on hb2)
          have hb3 : base ≤ w2.heap.size := Nat.le_trans hbr (by have := hb2.size; rw [World.size_alloc] at this; omega)
          have cB := HX2.out.c0; have cB1 := HX2.out.c1
          have s0 : w2.cell? ⟨g, k * 2, none⟩ = some (.int .i64 (L[k]'hkL).1) := by rw [HO2.out.cellAt _ (by omega), (tv_get (List.getElem?_eq_getElem hkL)).1]
          have s1 : w2.cell? ⟨g, k * 2 + 1, none⟩ = some (.int .i64 (L[k]'hkL).2) := by rw [HO2.out.cellAt _ (by omega), (tv_get (List.getElem?_eq_getElem hkL)).2]
          have z0 := HO2.out.frozenAt (k * 2)
          have z1 := HO2.out.frozenAt (k * 2 + 1)
          have HO3 : Hid (((w2.setCell ⟨g, k * 2, none⟩ (.int .i64 x)).setCell ⟨g, k * 2 + 1, none⟩ (.int .i64 y)).ownsRow base 24 2 (.slice (some ⟨g, 0, none⟩) n cap) n (tv (L.set k (x, y)))) := Lib.hid (by
            have h := ((HO2.out.stored (k * 2) (.int .i64 x)).1.stored (k * 2 + 1) (.int .i64 y)).1
            rw [tv_set]
            exact h)
          have HB3 : Hid (Below base W0 ((w2.setCell ⟨g, k * 2, none⟩ (.int .i64 x)).setCell ⟨g, k * 2 + 1, none⟩ (.int .i64 y))) := Lib.hid ((HB2.out.setCell hbg _).setCell hbg _)
          have hb4 : base ≤ ((w2.setCell ⟨g, k * 2, none⟩ (.int .i64 x)).setCell ⟨g, k * 2 + 1, none⟩ (.int .i64 y)).heap.size := by rw [World.size_setCell, World.size_setCell]; exact hb3
          have HB4 := Lib.hid hb4
          have kn : (k : Int) < (n : Int) := by omega
          generalize (L[k]'hkL).1 = u at *
          generalize (L[k]'hkL).2 = v at *
          clear hb2 K1 hpc hkL hb4
          go_wp2_with fail
          go_roundw
          case rel => exact ⟨k + 1, j + 1, L.set k (x, y), by go_num, by go_num, by omega, hlt, HLS, Lib.hid (by rw [HSN2.out]; exact HPT.out), Lib.hid (HDJ.out _), HO3, HB3, HB4.out⟩
          case measure => simp [intOf]; omega
      · have hjn : j = n := by omega
        subst hjn
        obtain ⟨f, hrow, hf, -, -, -⟩ := rowIs_own hO.out
        have hfr : ∀ q, wr.frozen? ⟨g, q, none⟩ = false := fun q => hO.out.frozenAt q
        obtain ⟨Z, hZl, hcl⟩ := run_clear_many wr g (k * 2) (j - k) (cap - k) (by omega) (fun q hq => by
          obtain ⟨cur, h1, h2, h3⟩ := hrow
          rw [cell_of_row wr g _ cur _ (0, 0) h1, h3 _ (by omega)]; rfl) (fun q _ => hfr _)
        have hr2 := rowIs_setCells Z (k * 2) wr f hrow
        have hsl : L.take k = simples ts := by rw [hP.out, List.take_of_length_le (by rw [HL.out]; exact Nat.le_refl _)]
        have hkl : (simples ts).length = k := by rw [← hsl, List.length_take, hL.out]; omega
        have HF : Hid ((wr.setCells g (k * 2) Z).ownsRow base 24 2 (.slice (some ⟨g, 0, none⟩) k cap) k (tv (simples ts)) ∧ Below base W0 (wr.setCells g (k * 2) Z)) := Lib.hid ⟨own_rowIs hr2 (by rw [tv_length, hkl]) (fun q hq => by
          rw [if_neg (by omega), ← hsl, tv_take, List.getElem?_take, if_pos hq]
          exact hf q (by omega)) hbg (by omega) (by unfold maxLen; omega), below_setCells hbg _ _ _ hBr.out⟩
        have HKL := Lib.hid hkl
        have hck : ¬ cap = k := by omega
        have hkc : k ≤ cap := by omega
        have hkj : (k : Int) ≤ (j : Int) := by omega
        clear hrow hf hfr hr2 hsl hkl hZl
        go_wp2_with fail
        go_ret
        exact ⟨k, rfl, HKL.out, HF.out⟩

end Go.Proofs.Ytoglkellaliegaa
