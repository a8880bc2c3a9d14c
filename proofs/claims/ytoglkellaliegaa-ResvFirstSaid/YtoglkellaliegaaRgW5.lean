/- The walk of slices.DeleteFunc at registrations, resv.out. -/
import Derived.Test.YtoglkellaliegaaRgW4
namespace Go.Proofs.Ytoglkellaliegaa
open Go.RowKit

theorem below_grown {w w' : World} (h : Below w.heap.size w w') (row : Option Nat) : w.grownBy w' row := ⟨h.os, h.tape, h.output, h.size, fun k hk _ => h.block k hk⟩

theorem zero_reg : ∀ w, (zeroValue 56).run Try.prog w = .ok (.agg #[.int .i64 0, .int .i64 0]) w := fun _ => by kernel_rfl

/-- 'clear' of registrations. -/
theorem run_clear_regs (w : World) (b o r c : Nat) (hr : 0 < r) (h0 : ∀ j, j < r * 2 → (w.cell? ⟨b, o + j, none⟩).isSome = true) (f0 : ∀ j, j < r * 2 → w.frozen? ⟨b, o + j, none⟩ = false) :
    ∃ Z : List Value, Z.length = r * 2 ∧ ∀ ty, (Builtin.clear_ #[47] ty #[.slice (some ⟨b, o, none⟩) r c]).run Try.prog w = .ok (.tuple #[]) (w.setCells b o Z) := by
  have hZl : (Builtin.zeroCells (Value.agg #[.int .i64 0, .int .i64 0]).cells r).toList.length = r * 2 := by rw [Array.length_toList, size_zeroCells]; rfl
  have hone : ∀ u ∈ (Builtin.zeroCells (Value.agg #[.int .i64 0, .int .i64 0]).cells r).toList, u.oneCell' = true := by
    intro u hu
    unfold Builtin.zeroCells at hu
    simp only [Array.toList_map, List.mem_map] at hu
    obtain ⟨k, -, rfl⟩ := hu
    show (#[Value.int .i64 0, Value.int .i64 0][k % 2]!).oneCell' = true
    rcases Nat.mod_two_eq_zero_or_one k with h | h
    · rw [h]; rfl
    · rw [h]; rfl
  have hst := run_storeCells_cells (P := Try.prog) b o (Builtin.zeroCells (Value.agg #[.int .i64 0, .int .i64 0]).cells r).toList 0 w (by rw [hZl]; simpa using h0) (by rw [hZl]; simpa using f0) hone
  simp only [Nat.add_zero] at hst
  refine ⟨_, hZl, fun ty => ?_⟩
  obtain ⟨m, rfl⟩ : ∃ m, r = m + 1 := ⟨r - 1, by omega⟩
  simp [Builtin.clear_, run_underlying Try.underlying47, hst]

theorem setCells_grown (w : World) (g : Nat) : ∀ (Z : List Value) (o : Nat), w.grownBy (w.setCells g o Z) (some g) := fun Z => by
  suffices ∀ (W : World) (o : Nat), w.grownBy W (some g) → w.grownBy (W.setCells g o Z) (some g) from fun o => this w o (Lib.Hx.grownBy_refl _ _)
  induction Z with
  | nil => intro W o h; exact h
  | cons u Z ih => intro W o h; exact ih _ _ (Lib.Hx.grownBy_set h _ rfl u)

set_option maxRecDepth 100000 in
set_option maxHeartbeats 8000000 in
theorem DeleteFunc_R (a : Option Addr) (cap n base B : Nat) (x : Int) (ts : List Qu.T) (w : World) (hown : w.ownsRow base 56 2 (.slice a n cap) n (tv ts)) (hn2 : n ≤ 1000000)
    (hBl : B < w.heap.size) (hBc : w.cell? ⟨B, 0, none⟩ = some (.int .i64 x)) (hBn : ∀ g, (Value.slice a n cap).ownBlock = some g → B ≠ g) :
    Calls Try.prog 85 #[.slice a n cap, .func (.func 86) #[] #[.pointer (some ⟨B, 0, none⟩)]] w fun e w' =>
      ∃ m, e = .returned (.slice a m cap) ∧ (Rg.cut ts x).length = m ∧ w'.ownsRow base 56 2 (.slice a m cap) m (tv (Rg.cut ts x)) ∧ w.grownBy w' (Value.slice a n cap).ownBlock := by
  have hlen : ts.length = n := by have := hown.1; rw [tv_length] at this; omega
  obtain ⟨a', c', he, hT⟩ := tsl_own hown hlen
  cases he
  have I1 := IndexFunc_R a cap ts _ #[.pointer (some ⟨B, 0, none⟩)] (Qu.tg x) w (by omega) eg_out hT.at_ (fun W p q hb => (pred_out w B x W p q (Nat.lt_of_lt_of_le hBl hb.size) ((hb.cell (p := ⟨B, 0, none⟩) hBl).trans hBc)).mono fun e w' ⟨h1, h2⟩ => ⟨h1, hb.trans (h2.mono hb.size)⟩)
  rw [hlen] at I1
  have HO := Lib.hid hown; have HL := Lib.hid hlen
  rcases hi : ts.findIdx? (Qu.tg x) with _ | i
  · have e1 : idx (Qu.tg x) ts = -1 := by unfold idx; rw [hi]
    rw [e1] at I1
    have HS : Hid (Rg.cut ts x = ts) := Lib.hid (by
      unfold Rg.cut
      rw [List.filter_eq_self]
      intro t ht
      rw [List.findIdx?_eq_none_iff] at hi
      rw [hi t ht]; rfl)
    clear hi e1 hT hown hlen hBn
    go_enter Try.func85, Try.ntmps85
    go_wp2_with fail
    with_reducible refine I1.mono ?_
    rintro e w' ⟨rfl, hb⟩
    have HF : Hid (w'.ownsRow base 56 2 (.slice a n cap) n (tv (Rg.cut ts x)) ∧ w.grownBy w' (Value.slice a n cap).ownBlock) := Lib.hid ⟨by rw [HS.out]; exact own_keep HO.out hb, below_grown hb _⟩
    clear hb I1
    go_wp2_with fail
    go_ret
    exact ⟨n, rfl, by rw [HS.out]; exact HL.out, HF.out⟩
  · obtain ⟨hin, hns, hbef⟩ := List.findIdx?_eq_some_iff_getElem.1 hi
    have hin' : i < n := by rw [← HL.out]; exact hin
    obtain ⟨g, rfl⟩ : ∃ g, a = some ⟨g, 0, none⟩ := by
      rcases hown.2 with ⟨-, h0⟩ | ⟨g, cap', cur, h, -⟩
      · omega
      · cases h; exact ⟨g, rfl⟩
    obtain ⟨f0, -, -, hbg, hnc, hcm⟩ := rowIs_own hown
    unfold maxLen at hcm
    have hBg : B ≠ g := hBn g rfl
    have e1 : idx (Qu.tg x) ts = (i : Int) := by unfold idx; rw [hi]
    rw [e1] at I1
    have HS0 : Hid ((Rg.cut (ts.take (i + 1)) x) = ts.take i) := Lib.hid (by
      unfold Rg.cut
      rw [List.take_succ_eq_append_getElem hin, List.filter_append, List.filter_cons, hns, List.filter_eq_self.2 (fun t ht => by
        obtain ⟨j, hj, rfl⟩ := List.getElem_of_mem ht
        rw [List.getElem_take]
        rw [List.length_take] at hj
        cases hc : Qu.tg x (ts[j]'(by omega)) with
        | false => rfl
        | true => exact absurd hc (hbef j (by omega)))]
      simp)
    have HBC := Lib.hid hBc
    clear hi e1 hns hbef hin hT hown hlen hBn hBc
    go_enter Try.func85, Try.ntmps85
    go_wp2_with fail
    with_reducible refine I1.mono ?_
    rintro e w1 ⟨rfl, hb⟩
    have HO1 := Lib.hid (own_keep HO.out hb)
    have HB1 := Lib.hid (below_grown hb (some g))
    clear hb I1
    have hm1 : ((i : Int) == -1) = false := beq_eq_false_iff_ne.2 (by omega)
    go_wp2_with fail
    go_loopw [5, 6] (fun vi vj wr => ∃ (k j : Nat) (L : List Qu.T), vi = .int .i64 k ∧ vj = .int .i64 j ∧ k < j ∧ j ≤ n ∧ Hid (L.length = n) ∧ Hid (L.take k = Rg.cut (ts.take j) x) ∧ Hid (L.drop j = ts.drop j) ∧ Hid (wr.ownsRow base 56 2 (.slice (some ⟨g, 0, none⟩) n cap) n (tv L)) ∧ Hid (w.grownBy wr (some g))) (fun _ vj _ => n - (intOf vj).toNat)
    case atStart => exact ⟨i, i + 1, ts, rfl, by go_num, Nat.lt_succ_self _, hin', HL, Lib.hid HS0.out.symm, Lib.hid rfl, HO1, HB1⟩
    case round =>
      obtain ⟨k, j, L, rfl, rfl, hkj, hj, hL, hP, hD, hO, hBr⟩ := hrel
      by_cases hlt : j < n
      · have hjl : j < L.length := by rw [hL.out]; exact hlt
        have hjt : j < ts.length := by rw [HL.out]; exact hlt
        have hLj : L[j] = ts[j] := by
          have h := congrArg (fun l : List Qu.T => l[0]?) hD.out
          simp only [List.getElem?_drop, Nat.add_zero] at h
          rw [List.getElem?_eq_getElem hjl, List.getElem?_eq_getElem hjt] at h
          exact Option.some.inj h
        have c1 : wr.cell? ⟨g, j * 2, none⟩ = some (.int .i64 ts[j].1) := by
          rw [hO.out.cellAt _ (by omega), (tv_get (List.getElem?_eq_getElem hjl)).1, hLj]
        have c2 : wr.cell? ⟨g, j * 2 + 1, none⟩ = some (.int .i64 ts[j].2) := by
          rw [hO.out.cellAt _ (by omega), (tv_get (List.getElem?_eq_getElem hjl)).2, hLj]
        have HSN : Hid (Rg.cut (ts.take (j + 1)) x = Rg.cut (ts.take j) x ++ if Qu.tg x (ts[j].1, ts[j].2) = false then [(ts[j].1, ts[j].2)] else []) := Lib.hid (by
          unfold Rg.cut
          rw [List.take_succ_eq_append_getElem hjt, List.filter_append]
          congr 1
          rw [List.filter_cons]
          show (if (!Qu.tg x ts[j]) = true then _ else _) = if Qu.tg x ts[j] = false then [ts[j]] else []
          cases Qu.tg x ts[j] <;> rfl)
        have HDJ : Hid (∀ t, (L.set k t).drop (j + 1) = ts.drop (j + 1)) := Lib.hid fun t => by
          rw [List.drop_set_of_lt (by omega), ← List.drop_drop, ← List.drop_drop, hD.out]
        have hBc2 : ∀ o, (wr.alloc o).cell? ⟨B, 0, none⟩ = some (.int .i64 x) := fun o => by
          rw [World.cell?_alloc_past _ _ _ (Nat.lt_of_lt_of_le hBl hBr.out.size)]
          unfold World.cell?
          rw [hBr.out.block B hBl (by simpa using hBg)]
          exact HBC.out
        have hpc : ∀ T, Calls Try.prog 86 (#[.agg #[.int .i64 ts[j].1, .int .i64 ts[j].2]] ++ #[.pointer (some ⟨B, 0, none⟩)]) (wr.alloc (.cells #[.int .i64 ts[j].1, .int .i64 ts[j].2] T)) fun e w' => e = .returned (.bool (Qu.tg x (ts[j].1, ts[j].2))) ∧ Below (wr.alloc (.cells #[.int .i64 ts[j].1, .int .i64 ts[j].2] T)).heap.size (wr.alloc (.cells #[.int .i64 ts[j].1, .int .i64 ts[j].2] T)) w' := fun T =>
          pred_out wr B x (wr.alloc (.cells #[.int .i64 ts[j].1, .int .i64 ts[j].2] T)) ts[j].1 ts[j].2 (by rw [World.size_alloc]; have := hBr.out.size; omega) (hBc2 _)
        have hpc2 : ∀ T, Calls Try.prog 86 #[.agg #[.int .i64 ts[j].1, .int .i64 ts[j].2], .pointer (some ⟨B, 0, none⟩)] (wr.alloc (.cells #[.int .i64 ts[j].1, .int .i64 ts[j].2] T)) fun e w' => e = .returned (.bool (Qu.tg x (ts[j].1, ts[j].2))) ∧ Below (wr.alloc (.cells #[.int .i64 ts[j].1, .int .i64 ts[j].2] T)).heap.size (wr.alloc (.cells #[.int .i64 ts[j].1, .int .i64 ts[j].2] T)) w' := hpc
        clear hjl hLj hpc hBc2
        generalize ts[j].1 = p at *
        generalize ts[j].2 = q at *
        have HX0 := Lib.hid (box_new wr 56 p q)
        have jn : (j : Int) < (n : Int) := by omega
        cases hq : Qu.tg x (p, q) with
        | true =>
          rw [hq] at hpc2
          have HSN2 : Hid (Rg.cut (ts.take (j + 1)) x = Rg.cut (ts.take j) x) := Lib.hid (by rw [HSN.out, hq, if_neg (by decide), List.append_nil])
          have HDD : Hid (L.drop (j + 1) = ts.drop (j + 1)) := Lib.hid (by rw [← List.drop_drop, ← List.drop_drop, hD.out])
          clear hq HSN
          go_wp2_with fail
          have K1 := hpc2 56
          with_reducible refine K1.mono ?_
          rintro e w2 ⟨rfl, hb2⟩
          have HB2 := Lib.hid (hBr.out.trans ((World.grownBy_alloc wr (.cells #[.int .i64 p, .int .i64 q] 56) (some g)).trans (below_grown hb2 _)))
          have HO2 := Lib.hid (own_keep (hO.out.alloc (.cells #[.int .i64 p, .int .i64 q] 56)) hb2)
          clear hb2 K1 hpc2
          go_wp2_with fail
          go_roundw
          case rel => exact ⟨k, j + 1, L, rfl, by go_num, by omega, hlt, hL, Lib.hid (by rw [HSN2.out]; exact hP.out), HDD, HO2, HB2⟩
          case measure => simp [intOf]; omega
        | false =>
          rw [hq] at hpc2
          have HSN2 : Hid (Rg.cut (ts.take (j + 1)) x = Rg.cut (ts.take j) x ++ [(p, q)]) := Lib.hid (by rw [HSN.out, hq, if_pos rfl])
          have hkL : k < L.length := by rw [hL.out]; omega
          have HPT : Hid ((L.set k (p, q)).take (k + 1) = Rg.cut (ts.take j) x ++ [(p, q)]) := Lib.hid (by
            rw [List.take_succ_eq_append_getElem (by rw [List.length_set]; exact hkL), List.take_set_of_le (Nat.le_refl _), hP.out]
            simp)
          have HLS : Hid ((L.set k (p, q)).length = n) := Lib.hid (by rw [List.length_set]; exact hL.out)
          clear hq HSN
          go_wp2_with fail
          have K1 := hpc2 56
          with_reducible refine K1.mono ?_
          rintro e w2 ⟨rfl, hb2⟩
          have HB2 := Lib.hid (hBr.out.trans ((World.grownBy_alloc wr (.cells #[.int .i64 p, .int .i64 q] 56) (some g)).trans (below_grown hb2 _)))
          have HO2 := Lib.hid (own_keep (hO.out.alloc (.cells #[.int .i64 p, .int .i64 q] 56)) hb2)
          have HX2 := Lib.hid (HX0.out.on hb2)
          have cB := HX2.out.c0; have cB1 := HX2.out.c1
          have s0 : w2.cell? ⟨g, k * 2, none⟩ = some (.int .i64 (L[k]'hkL).1) := by rw [HO2.out.cellAt _ (by omega), (tv_get (List.getElem?_eq_getElem hkL)).1]
          have s1 : w2.cell? ⟨g, k * 2 + 1, none⟩ = some (.int .i64 (L[k]'hkL).2) := by rw [HO2.out.cellAt _ (by omega), (tv_get (List.getElem?_eq_getElem hkL)).2]
          have z0 := HO2.out.frozenAt (k * 2)
          have z1 := HO2.out.frozenAt (k * 2 + 1)
          have HO3 : Hid (((w2.setCell ⟨g, k * 2, none⟩ (.int .i64 p)).setCell ⟨g, k * 2 + 1, none⟩ (.int .i64 q)).ownsRow base 56 2 (.slice (some ⟨g, 0, none⟩) n cap) n (tv (L.set k (p, q)))) := Lib.hid (by
            have h := ((HO2.out.stored (k * 2) (.int .i64 p)).1.stored (k * 2 + 1) (.int .i64 q)).1
            rw [tv_set]
            exact h)
          have HB3 : Hid (w.grownBy ((w2.setCell ⟨g, k * 2, none⟩ (.int .i64 p)).setCell ⟨g, k * 2 + 1, none⟩ (.int .i64 q)) (some g)) := Lib.hid (Lib.Hx.grownBy_set (Lib.Hx.grownBy_set HB2.out _ rfl _) _ rfl _)
          have kn : (k : Int) < (n : Int) := by omega
          generalize (L[k]'hkL).1 = u at *
          generalize (L[k]'hkL).2 = v at *
          clear hb2 K1 hpc2 hkL
          go_wp2_with fail
          go_roundw
          case rel => exact ⟨k + 1, j + 1, L.set k (p, q), by go_num, by go_num, by omega, hlt, HLS, Lib.hid (by rw [HSN2.out]; exact HPT.out), Lib.hid (HDJ.out _), HO3, HB3⟩
          case measure => simp [intOf]; omega
      · have hjn : j = n := by omega
        subst hjn
        obtain ⟨f, hrow, hf, -, -, -⟩ := rowIs_own hO.out
        have hfr : ∀ q, wr.frozen? ⟨g, q, none⟩ = false := fun q => hO.out.frozenAt q
        obtain ⟨Z, hZl, hcl⟩ := run_clear_regs wr g (k * 2) (j - k) (cap - k) (by omega) (fun q hq => by
          obtain ⟨cur, h1, h2, h3⟩ := hrow
          rw [cell_of_row wr g _ cur _ (0, 0) h1, h3 _ (by omega)]; rfl) (fun q _ => hfr _)
        have hr2 := rowIs_setCells Z (k * 2) wr f hrow
        have hsl : L.take k = Rg.cut ts x := by rw [hP.out, List.take_of_length_le (by rw [HL.out]; exact Nat.le_refl _)]
        have hkl : (Rg.cut ts x).length = k := by rw [← hsl, List.length_take, hL.out]; omega
        have HF : Hid ((wr.setCells g (k * 2) Z).ownsRow base 56 2 (.slice (some ⟨g, 0, none⟩) k cap) k (tv (Rg.cut ts x)) ∧ w.grownBy (wr.setCells g (k * 2) Z) (some g)) := Lib.hid ⟨own_rowIs hr2 (by rw [tv_length, hkl]) (fun q hq => by
          rw [if_neg (by omega), ← hsl, tv_take, List.getElem?_take, if_pos hq]
          exact hf q (by omega)) hbg (by omega) (by unfold maxLen; omega), hBr.out.trans (setCells_grown wr g Z _)⟩
        have HKL := Lib.hid hkl
        have hck : ¬ cap = k := by omega
        have hkc : k ≤ cap := by omega
        have hkj : (k : Int) ≤ (j : Int) := by omega
        clear hrow hf hfr hr2 hsl hkl hZl
        go_wp2_with fail
        go_ret
        exact ⟨k, rfl, HKL.out, HF.out⟩

end Go.Proofs.Ytoglkellaliegaa
