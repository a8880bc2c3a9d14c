import Derived.Test.YtenkdpogdfcbgaaGreatRgW
import Derived.Test.YtenkdpogdfcbgaaGreatQuW4
import Derived.Test.YtenkdpogdfcbgaaGreatQuP
import Derived.BigQuiet
/- Walks: resv.next, slices.DeleteFunc at registrations, resv.out. -/
namespace Go.Proofs.YtenkdpogdfcbgaaGreat.Rs
open Go.RowKit

/-- A row of the call's own, as a slice. -/
theorem own_slice {w : World} {base n : Nat} {e : TypeId} {v : Value} {ts : List Qu.T} (h : w.ownsRow base e 2 v n (tv ts)) : ∃ a c, v = .slice a n c ∧ TSl w a n c ts := tsl_own h (by have := h.1; rw [tv_length] at this; omega)

theorem grown_cell (w : World) (b i : Nat) (u : Value) : w.grownBy (w.setCell ⟨b, i, none⟩ u) (some b) :=
  Lib.Hx.grownBy_set (Lib.Hx.grownBy_refl _ _) _ rfl u

/-- Another block is written: the row stands. -/
theorem own_set {w : World} {base n : Nat} {e : TypeId} {v : Value} {xs : List Value} (h : w.ownsRow base e 2 v n xs) {b : Nat} (hb : b < base) (i : Nat) (u : Value) : (w.setCell ⟨b, i, none⟩ u).ownsRow base e 2 v n xs :=
  h.kept (grown_cell w b i u) (by
    rcases h.2 with ⟨rfl, -⟩ | ⟨g, cap, cur, rfl, hg, -⟩
    · exact Or.inl rfl
    · right
      show some g ≠ some b
      intro e
      cases e
      omega)

set_option maxRecDepth 100000 in
set_option maxHeartbeats 4000000 in
theorem next_R (g s k h : Int) (a : Option Addr) (n c : Nat) (ts : List Qu.T) (w : World) (hT : TSl w a n c ts) (hn : n ≤ 1000000) (hg0 : 0 ≤ g) (hg1 : g ≤ 2147483647) (hs0 : 0 ≤ s) (hs1 : s ≤ 1) :
    Calls Tryz.prog 64 #[.agg #[.int .i64 g, .slice a n c, .int .i64 k, .int .i64 h], .int .i64 s] w fun e w' => ∃ a' c', e = .returned (.agg #[.int .i64 (g + s), .slice a' n c', .int .i64 k, .int .i64 h]) ∧ w'.ownsRow w.heap.size 39 2 (.slice a' n c') n (tv ts) ∧ Below w.heap.size w w' := by
  have HB : ∀ o o', Below w.heap.size w ((w.alloc o).alloc o') := fun o o' => ((Below.refl _ w).alloc (Nat.le_refl _) _).alloc (by rw [World.size_alloc]; omega) _
  have C1 := fun o o' => Clone_R a n c ts ((w.alloc o).alloc o') (hT.keep (HB o o')) (by omega)
  have HR : Hid (∀ T o', R4 ((w.alloc (.cells #[.int .i64 g, .slice a n c, .int .i64 k, .int .i64 h] T)).alloc o') w.heap.size (.int .i64 g) (.slice a n c) (.int .i64 k) (.int .i64 h)) := Lib.hid fun T o' => (r4_new w T _ _ _ _).alloc _
  have HR2 : Hid (∀ o T, R4 ((w.alloc o).alloc (.cells #[.int .i64 0, .slice none 0 0, .int .i64 0, .int .i64 0] T)) (w.heap.size + 1) (.int .i64 0) (.slice none 0 0) (.int .i64 0) (.int .i64 0)) := Lib.hid fun o T => by
    have := r4_new (w.alloc o) T (.int .i64 0) (.slice none 0 0) (.int .i64 0) (.int .i64 0)
    rw [World.size_alloc] at this
    exact this
  have HBB := Lib.hid HB
  clear hT HB
  go_enter Tryz.func64, Tryz.ntmps64
  go_wp2_with fail
  with_reducible refine (C1 _ _).mono ?_
  rintro e w1 ⟨v, rfl, hown, hb⟩
  obtain ⟨a', c', rfl, -⟩ := own_slice hown
  have HO : Hid (w1.ownsRow (w.heap.size + 2) 39 2 (.slice a' n c') n (tv ts)) := Lib.hid (by rw [World.size_alloc, World.size_alloc] at hown; exact hown)
  have HB1 := Lib.hid ((HBB.out _ _).trans (hb.mono (HBB.out _ _).size))
  have HX := Lib.hid ((HR.out 42 _).on hb)
  have HY := Lib.hid ((HR2.out _ 42).on hb)
  obtain ⟨hl, c0, c1, c2, c3, z0, z1, z2, z3⟩ := HX.out
  obtain ⟨hl', d0, d1, d2, d3, y0, y1, y2, y3⟩ := HY.out
  clear hown hb C1
  go_wp2_with fail
  refine bodyPost_ret (v := .agg #[.int .i64 (g + s), .slice a' n c', .int .i64 k, .int .i64 h]) ?_ rfl ⟨a', c', rfl, ?_, ?_⟩
  · exact res_cell (p := 4) (B := w.heap.size + 1) rfl rfl ((((HY.out).other _ _ (by omega) _).other _ _ (by omega) _).set _ _ _ _)
  · exact own_low (own_set (own_set (own_set (own_set (own_set (own_set HO.out (by omega) _ _) (by omega) _ _) (by omega) _ _) (by omega) _ _) (by omega) _ _) (by omega) _ _) (by omega)
  · exact ((((((HB1.out.setCell (Nat.le_refl _) _).setCell (Nat.le_refl _) _).setCell (Nat.le_succ _) _).setCell (Nat.le_succ _) _).setCell (Nat.le_succ _) _).setCell (Nat.le_succ _) _)

end Go.Proofs.YtenkdpogdfcbgaaGreat.Rs

/- The walk of slices.DeleteFunc at registrations, resv.out. -/
namespace Go.Proofs.YtenkdpogdfcbgaaGreat.Rs
open Go.RowKit

theorem below_grown {w w' : World} (h : Below w.heap.size w w') (row : Option Nat) : w.grownBy w' row := ⟨h.os, h.tape, h.output, h.size, fun k hk _ => h.block k hk⟩

theorem zero_reg : ∀ w, (zeroValue 39).run Tryz.prog w = .ok (.agg #[.int .i64 0, .int .i64 0]) w := fun _ => by kernel_rfl

/-- 'clear' of registrations. -/
theorem run_clear_regs (w : World) (b o r c : Nat) (hr : 0 < r) (h0 : ∀ j, j < r * 2 → (w.cell? ⟨b, o + j, none⟩).isSome = true) (f0 : ∀ j, j < r * 2 → w.frozen? ⟨b, o + j, none⟩ = false) :
    ∃ Z : List Value, Z.length = r * 2 ∧ ∀ ty, (Builtin.clear_ #[40] ty #[.slice (some ⟨b, o, none⟩) r c]).run Tryz.prog w = .ok (.tuple #[]) (w.setCells b o Z) := by
  have hZl : (Builtin.zeroCells (Value.agg #[.int .i64 0, .int .i64 0]).cells r).toList.length = r * 2 := by rw [Array.length_toList, size_zeroCells]; rfl
  have hone : ∀ u ∈ (Builtin.zeroCells (Value.agg #[.int .i64 0, .int .i64 0]).cells r).toList, u.oneCell' = true := by
    intro u hu
    unfold Builtin.zeroCells at hu
    simp only [Array.toList_map, List.mem_map] at hu
    obtain ⟨k, -, rfl⟩ := hu
    show (#[Value.int .i64 0, Value.int .i64 0][k % 2]!).oneCell' = true
    rcases Nat.mod_two_eq_zero_or_one k with h | h
    · rw [h]; rfl
    · rw [h]; rfl
  have hst := run_storeCells_cells (P := Tryz.prog) b o (Builtin.zeroCells (Value.agg #[.int .i64 0, .int .i64 0]).cells r).toList 0 w (by rw [hZl]; simpa using h0) (by rw [hZl]; simpa using f0) hone
  simp only [Nat.add_zero] at hst
  refine ⟨_, hZl, fun ty => ?_⟩
  obtain ⟨m, rfl⟩ : ∃ m, r = m + 1 := ⟨r - 1, by omega⟩
  simp [Builtin.clear_, run_underlying Tryz.underlying40, hst]

theorem setCells_grown (w : World) (g : Nat) : ∀ (Z : List Value) (o : Nat), w.grownBy (w.setCells g o Z) (some g) := fun Z => by
  suffices ∀ (W : World) (o : Nat), w.grownBy W (some g) → w.grownBy (W.setCells g o Z) (some g) from fun o => this w o (Lib.Hx.grownBy_refl _ _)
  induction Z with
  | nil => intro W o h; exact h
  | cons u Z ih => intro W o h; exact ih _ _ (Lib.Hx.grownBy_set h _ rfl u)

set_option maxRecDepth 100000 in
set_option maxHeartbeats 8000000 in
theorem DeleteFunc_R (a : Option Addr) (cap n base B : Nat) (x : Int) (ts : List Qu.T) (w : World) (hown : w.ownsRow base 39 2 (.slice a n cap) n (tv ts)) (hn2 : n ≤ 1000000)
    (hBl : B < w.heap.size) (hBc : w.cell? ⟨B, 0, none⟩ = some (.int .i64 x)) (hBn : ∀ g, (Value.slice a n cap).ownBlock = some g → B ≠ g) :
    Calls Tryz.prog 90 #[.slice a n cap, .func (.func 91) #[] #[.pointer (some ⟨B, 0, none⟩)]] w fun e w' =>
      ∃ m, e = .returned (.slice a m cap) ∧ (Rg.cut ts x).length = m ∧ w'.ownsRow base 39 2 (.slice a m cap) m (tv (Rg.cut ts x)) ∧ w.grownBy w' (Value.slice a n cap).ownBlock := by
  have hlen : ts.length = n := by have := hown.1; rw [tv_length] at this; omega
  obtain ⟨a', c', he, hT⟩ := tsl_own hown hlen
  cases he
  have I1 := IndexFunc_R a cap ts _ #[.pointer (some ⟨B, 0, none⟩)] (Qu.tg x) w (by omega) eg_out hT.at_ (fun W p q hb => (pred_out w B x W p q (Nat.lt_of_lt_of_le hBl hb.size) ((hb.cell (p := ⟨B, 0, none⟩) hBl).trans hBc)).mono fun e w' ⟨h1, h2⟩ => ⟨h1, hb.trans (h2.mono hb.size)⟩)
  rw [hlen] at I1
  have HO := Lib.hid hown; have HL := Lib.hid hlen
  rcases hi : ts.findIdx? (Qu.tg x) with _ | i
  · have e1 : idx (Qu.tg x) ts = -1 := by unfold idx; rw [hi]
    rw [e1] at I1
    have HS : Hid (Rg.cut ts x = ts) := Lib.hid (by
      unfold Rg.cut
      rw [List.filter_eq_self]
      intro t ht
      rw [List.findIdx?_eq_none_iff] at hi
      rw [hi t ht]; rfl)
    clear hi e1 hT hown hlen hBn
    go_enter Tryz.func90, Tryz.ntmps90
    go_wp2_with fail
    with_reducible refine I1.mono ?_
    rintro e w' ⟨rfl, hb⟩
    have HF : Hid (w'.ownsRow base 39 2 (.slice a n cap) n (tv (Rg.cut ts x)) ∧ w.grownBy w' (Value.slice a n cap).ownBlock) := Lib.hid ⟨by rw [HS.out]; exact own_keep HO.out hb, below_grown hb _⟩
    clear hb I1
    go_wp2_with fail
    go_ret
    exact ⟨n, rfl, by rw [HS.out]; exact HL.out, HF.out⟩
  · obtain ⟨hin, hns, hbef⟩ := List.findIdx?_eq_some_iff_getElem.1 hi
    have hin' : i < n := by rw [← HL.out]; exact hin
    obtain ⟨g, rfl⟩ : ∃ g, a = some ⟨g, 0, none⟩ := by
      rcases hown.2 with ⟨-, h0⟩ | ⟨g, cap', cur, h, -⟩
      · omega
      · cases h; exact ⟨g, rfl⟩
    obtain ⟨f0, -, -, hbg, hnc, hcm⟩ := rowIs_own hown
    unfold maxLen at hcm
    have hBg : B ≠ g := hBn g rfl
    have e1 : idx (Qu.tg x) ts = (i : Int) := by unfold idx; rw [hi]
    rw [e1] at I1
    have HS0 : Hid ((Rg.cut (ts.take (i + 1)) x) = ts.take i) := Lib.hid (by
      unfold Rg.cut
      rw [List.take_succ_eq_append_getElem hin, List.filter_append, List.filter_cons, hns, List.filter_eq_self.2 (fun t ht => by
        obtain ⟨j, hj, rfl⟩ := List.getElem_of_mem ht
        rw [List.getElem_take]
        rw [List.length_take] at hj
        cases hc : Qu.tg x (ts[j]'(by omega)) with
        | false => rfl
        | true => exact absurd hc (hbef j (by omega)))]
      simp)
    have HBC := Lib.hid hBc
    clear hi e1 hns hbef hin hT hown hlen hBn hBc
    go_enter Tryz.func90, Tryz.ntmps90
    go_wp2_with fail
    with_reducible refine I1.mono ?_
    rintro e w1 ⟨rfl, hb⟩
    have HO1 := Lib.hid (own_keep HO.out hb)
    have HB1 := Lib.hid (below_grown hb (some g))
    clear hb I1
    have hm1 : ((i : Int) == -1) = false := beq_eq_false_iff_ne.2 (by omega)
    go_wp2_with fail
    go_loopw [5, 6] (fun vi vj wr => ∃ (k j : Nat) (L : List Qu.T), vi = .int .i64 k ∧ vj = .int .i64 j ∧ k < j ∧ j ≤ n ∧ Hid (L.length = n) ∧ Hid (L.take k = Rg.cut (ts.take j) x) ∧ Hid (L.drop j = ts.drop j) ∧ Hid (wr.ownsRow base 39 2 (.slice (some ⟨g, 0, none⟩) n cap) n (tv L)) ∧ Hid (w.grownBy wr (some g))) (fun _ vj _ => n - (intOf vj).toNat)
    case atStart => exact ⟨i, i + 1, ts, rfl, by go_num, Nat.lt_succ_self _, hin', HL, Lib.hid HS0.out.symm, Lib.hid rfl, HO1, HB1⟩
    case round =>
      obtain ⟨k, j, L, rfl, rfl, hkj, hj, hL, hP, hD, hO, hBr⟩ := hrel
      by_cases hlt : j < n
      · have hjl : j < L.length := by rw [hL.out]; exact hlt
        have hjt : j < ts.length := by rw [HL.out]; exact hlt
        have hLj : L[j] = ts[j] := by
          have h := congrArg (fun l : List Qu.T => l[0]?) hD.out
          simp only [List.getElem?_drop, Nat.add_zero] at h
          rw [List.getElem?_eq_getElem hjl, List.getElem?_eq_getElem hjt] at h
          exact Option.some.inj h
        have c1 : wr.cell? ⟨g, j * 2, none⟩ = some (.int .i64 ts[j].1) := by
          rw [hO.out.cellAt _ (by omega), (tv_get (List.getElem?_eq_getElem hjl)).1, hLj]
        have c2 : wr.cell? ⟨g, j * 2 + 1, none⟩ = some (.int .i64 ts[j].2) := by
          rw [hO.out.cellAt _ (by omega), (tv_get (List.getElem?_eq_getElem hjl)).2, hLj]
        have HSN : Hid (Rg.cut (ts.take (j + 1)) x = Rg.cut (ts.take j) x ++ if Qu.tg x (ts[j].1, ts[j].2) = false then [(ts[j].1, ts[j].2)] else []) := Lib.hid (by
          unfold Rg.cut
          rw [List.take_succ_eq_append_getElem hjt, List.filter_append]
          congr 1
          rw [List.filter_cons]
          show (if (!Qu.tg x ts[j]) = true then _ else _) = if Qu.tg x ts[j] = false then [ts[j]] else []
          cases Qu.tg x ts[j] <;> rfl)
        have HDJ : Hid (∀ t, (L.set k t).drop (j + 1) = ts.drop (j + 1)) := Lib.hid fun t => by
          rw [List.drop_set_of_lt (by omega), ← List.drop_drop, ← List.drop_drop, hD.out]
        have hBc2 : ∀ o, (wr.alloc o).cell? ⟨B, 0, none⟩ = some (.int .i64 x) := fun o => by
          rw [World.cell?_alloc_past _ _ _ (Nat.lt_of_lt_of_le hBl hBr.out.size)]
          unfold World.cell?
          rw [hBr.out.block B hBl (by simpa using hBg)]
          exact HBC.out
        have hpc : ∀ T, Calls Tryz.prog 91 (#[.agg #[.int .i64 ts[j].1, .int .i64 ts[j].2]] ++ #[.pointer (some ⟨B, 0, none⟩)]) (wr.alloc (.cells #[.int .i64 ts[j].1, .int .i64 ts[j].2] T)) fun e w' => e = .returned (.bool (Qu.tg x (ts[j].1, ts[j].2))) ∧ Below (wr.alloc (.cells #[.int .i64 ts[j].1, .int .i64 ts[j].2] T)).heap.size (wr.alloc (.cells #[.int .i64 ts[j].1, .int .i64 ts[j].2] T)) w' := fun T =>
          pred_out wr B x (wr.alloc (.cells #[.int .i64 ts[j].1, .int .i64 ts[j].2] T)) ts[j].1 ts[j].2 (by rw [World.size_alloc]; have := hBr.out.size; omega) (hBc2 _)
        have hpc2 : ∀ T, Calls Tryz.prog 91 #[.agg #[.int .i64 ts[j].1, .int .i64 ts[j].2], .pointer (some ⟨B, 0, none⟩)] (wr.alloc (.cells #[.int .i64 ts[j].1, .int .i64 ts[j].2] T)) fun e w' => e = .returned (.bool (Qu.tg x (ts[j].1, ts[j].2))) ∧ Below (wr.alloc (.cells #[.int .i64 ts[j].1, .int .i64 ts[j].2] T)).heap.size (wr.alloc (.cells #[.int .i64 ts[j].1, .int .i64 ts[j].2] T)) w' := hpc
        clear hjl hLj hpc hBc2
        generalize ts[j].1 = p at *
        generalize ts[j].2 = q at *
        have HX0 := Lib.hid (box_new wr 39 p q)
        have jn : (j : Int) < (n : Int) := by omega
        cases hq : Qu.tg x (p, q) with
        | true =>
          rw [hq] at hpc2
          have HSN2 : Hid (Rg.cut (ts.take (j + 1)) x = Rg.cut (ts.take j) x) := Lib.hid (by rw [HSN.out, hq, if_neg (by decide), List.append_nil])
          have HDD : Hid (L.drop (j + 1) = ts.drop (j + 1)) := Lib.hid (by rw [← List.drop_drop, ← List.drop_drop, hD.out])
          clear hq HSN
          go_wp2_with fail
          have K1 := hpc2 39
          with_reducible refine K1.mono ?_
          rintro e w2 ⟨rfl, hb2⟩
          have HB2 := Lib.hid (hBr.out.trans ((World.grownBy_alloc wr (.cells #[.int .i64 p, .int .i64 q] 39) (some g)).trans (below_grown hb2 _)))
          have HO2 := Lib.hid (own_keep (hO.out.alloc (.cells #[.int .i64 p, .int .i64 q] 39)) hb2)
          clear hb2 K1 hpc2
          go_wp2_with fail
          go_roundw
          case rel => exact ⟨k, j + 1, L, rfl, by go_num, by omega, hlt, hL, Lib.hid (by rw [HSN2.out]; exact hP.out), HDD, HO2, HB2⟩
          case measure => simp [intOf]; omega
        | false =>
          rw [hq] at hpc2
          have HSN2 : Hid (Rg.cut (ts.take (j + 1)) x = Rg.cut (ts.take j) x ++ [(p, q)]) := Lib.hid (by rw [HSN.out, hq, if_pos rfl])
          have hkL : k < L.length := by rw [hL.out]; omega
          have HPT : Hid ((L.set k (p, q)).take (k + 1) = Rg.cut (ts.take j) x ++ [(p, q)]) := Lib.hid (by
            rw [List.take_succ_eq_append_getElem (by rw [List.length_set]; exact hkL), List.take_set_of_le (Nat.le_refl _), hP.out]
            simp)
          have HLS : Hid ((L.set k (p, q)).length = n) := Lib.hid (by rw [List.length_set]; exact hL.out)
          clear hq HSN
          go_wp2_with fail
          have K1 := hpc2 39
          with_reducible refine K1.mono ?_
          rintro e w2 ⟨rfl, hb2⟩
          have HB2 := Lib.hid (hBr.out.trans ((World.grownBy_alloc wr (.cells #[.int .i64 p, .int .i64 q] 39) (some g)).trans (below_grown hb2 _)))
          have HO2 := Lib.hid (own_keep (hO.out.alloc (.cells #[.int .i64 p, .int .i64 q] 39)) hb2)
          have HX2 := Lib.hid (HX0.out.on hb2)
          have cB := HX2.out.c0; have cB1 := HX2.out.c1
          have s0 : w2.cell? ⟨g, k * 2, none⟩ = some (.int .i64 (L[k]'hkL).1) := by rw [HO2.out.cellAt _ (by omega), (tv_get (List.getElem?_eq_getElem hkL)).1]
          have s1 : w2.cell? ⟨g, k * 2 + 1, none⟩ = some (.int .i64 (L[k]'hkL).2) := by rw [HO2.out.cellAt _ (by omega), (tv_get (List.getElem?_eq_getElem hkL)).2]
          have z0 := HO2.out.frozenAt (k * 2)
          have z1 := HO2.out.frozenAt (k * 2 + 1)
          have HO3 : Hid (((w2.setCell ⟨g, k * 2, none⟩ (.int .i64 p)).setCell ⟨g, k * 2 + 1, none⟩ (.int .i64 q)).ownsRow base 39 2 (.slice (some ⟨g, 0, none⟩) n cap) n (tv (L.set k (p, q)))) := Lib.hid (by
            have h := ((HO2.out.stored (k * 2) (.int .i64 p)).1.stored (k * 2 + 1) (.int .i64 q)).1
            rw [tv_set]
            exact h)
          have HB3 : Hid (w.grownBy ((w2.setCell ⟨g, k * 2, none⟩ (.int .i64 p)).setCell ⟨g, k * 2 + 1, none⟩ (.int .i64 q)) (some g)) := Lib.hid (Lib.Hx.grownBy_set (Lib.Hx.grownBy_set HB2.out _ rfl _) _ rfl _)
          have kn : (k : Int) < (n : Int) := by omega
          generalize (L[k]'hkL).1 = u at *
          generalize (L[k]'hkL).2 = v at *
          clear hb2 K1 hpc2 hkL
          go_wp2_with fail
          go_roundw
          case rel => exact ⟨k + 1, j + 1, L.set k (p, q), by go_num, by go_num, by omega, hlt, HLS, Lib.hid (by rw [HSN2.out]; exact HPT.out), Lib.hid (HDJ.out _), HO3, HB3⟩
          case measure => simp [intOf]; omega
      · have hjn : j = n := by omega
        subst hjn
        obtain ⟨f, hrow, hf, -, -, -⟩ := rowIs_own hO.out
        have hfr : ∀ q, wr.frozen? ⟨g, q, none⟩ = false := fun q => hO.out.frozenAt q
        obtain ⟨Z, hZl, hcl⟩ := run_clear_regs wr g (k * 2) (j - k) (cap - k) (by omega) (fun q hq => by
          obtain ⟨cur, h1, h2, h3⟩ := hrow
          rw [cell_of_row wr g _ cur _ (0, 0) h1, h3 _ (by omega)]; rfl) (fun q _ => hfr _)
        have hr2 := rowIs_setCells Z (k * 2) wr f hrow
        have hsl : L.take k = Rg.cut ts x := by rw [hP.out, List.take_of_length_le (by rw [HL.out]; exact Nat.le_refl _)]
        have hkl : (Rg.cut ts x).length = k := by rw [← hsl, List.length_take, hL.out]; omega
        have HF : Hid ((wr.setCells g (k * 2) Z).ownsRow base 39 2 (.slice (some ⟨g, 0, none⟩) k cap) k (tv (Rg.cut ts x)) ∧ w.grownBy (wr.setCells g (k * 2) Z) (some g)) := Lib.hid ⟨own_rowIs hr2 (by rw [tv_length, hkl]) (fun q hq => by
          rw [if_neg (by omega), ← hsl, tv_take, List.getElem?_take, if_pos hq]
          exact hf q (by omega)) hbg (by omega) (by unfold maxLen; omega), hBr.out.trans (setCells_grown wr g Z _)⟩
        have HKL := Lib.hid hkl
        have hck : ¬ cap = k := by omega
        have hkc : k ≤ cap := by omega
        have hkj : (k : Int) ≤ (j : Int) := by omega
        clear hrow hf hfr hr2 hsl hkl hZl
        go_wp2_with fail
        go_ret
        exact ⟨k, rfl, HKL.out, HF.out⟩

end Go.Proofs.YtenkdpogdfcbgaaGreat.Rs

/- Walks: resv.out. -/
namespace Go.Proofs.YtenkdpogdfcbgaaGreat.Rs
open Go.RowKit

theorem own_block_lt {w : World} {base n size : Nat} {e : TypeId} {v : Value} {xs : List Value} (h : w.ownsRow base e size v n xs) : ∀ k, v.ownBlock = some k → k < w.heap.size := by
  intro k hk
  rcases h.2 with ⟨rfl, _⟩ | ⟨g, cap, cur, rfl, hb, hh, _⟩
  · cases hk
  · cases hk
    rcases Nat.lt_or_ge g w.heap.size with h | h
    · exact h
    · rw [Array.getElem?_eq_none h] at hh; cases hh

/-- A block that is new is written. -/
theorem grown_store {w W : World} {row : Option Nat} (h : w.grownBy W row) {b : Nat} (hb : w.heap.size ≤ b) (i : Nat) (u : Value) : w.grownBy (W.setCell ⟨b, i, none⟩ u) row := by
  have k := grown_cell W b i u
  refine ⟨k.os.trans h.os, k.tape.trans h.tape, k.output.trans h.output, Nat.le_trans h.size k.size, fun j hj hr => ?_⟩
  rw [k.block j (Nat.lt_of_lt_of_le hj h.size) (by intro e; cases e; omega)]
  exact h.block j hj hr

/-- Two steps: the second turns nothing old. -/
theorem grown_below {w W W' : World} {row : Option Nat} (h : w.grownBy W row) (hb : Below W.heap.size W W') : w.grownBy W' row := h.trans (below_grown hb row)

theorem own_set_other {w : World} {base n : Nat} {e : TypeId} {v : Value} {xs : List Value} (h : w.ownsRow base e 2 v n xs) {b : Nat} (hb : ∀ k, v.ownBlock = some k → b ≠ k) (i : Nat) (u : Value) : (w.setCell ⟨b, i, none⟩ u).ownsRow base e 2 v n xs :=
  h.kept (grown_cell w b i u) (by
    rcases h.2 with ⟨rfl, -⟩ | ⟨g, cap, cur, rfl, hg, -⟩
    · exact Or.inl rfl
    · right
      show some g ≠ some b
      intro e
      cases e
      exact hb _ rfl rfl)

set_option maxRecDepth 100000 in
set_option maxHeartbeats 8000000 in
theorem out_R (g k q x : Int) (a : Option Addr) (n c base : Nat) (ts : List Qu.T) (w : World) (hown : w.ownsRow base 39 2 (.slice a n c) n (tv ts)) (hn : n ≤ 1000000) :
    Calls Tryz.prog 65 #[.agg #[.int .i64 g, .slice a n c, .int .i64 k, .int .i64 q], .int .i64 x] w fun e w' =>
      ∃ m, e = .returned (.agg #[.int .i64 g, .slice a m c, .int .i64 (if Rg.ends ts k q x = true then 0 else k), .int .i64 (if Rg.ends ts k q x = true then 0 else q)]) ∧ (Rg.cut ts x).length = m ∧
        w'.ownsRow base 39 2 (.slice a m c) m (tv (Rg.cut ts x)) ∧ w.grownBy w' (Value.slice a n c).ownBlock := by
  have hlt := own_block_lt hown
  have HB : ∀ o o' o'', Below w.heap.size w (((w.alloc o).alloc o').alloc o'') := fun o o' o'' => (((Below.refl _ w).alloc (Nat.le_refl _) _).alloc (by rw [World.size_alloc]; omega) _).alloc (by rw [World.size_alloc, World.size_alloc]; omega) _
  obtain ⟨a', c', he, hT⟩ := own_slice hown
  cases he
  have HX : Hid (∀ T o' o'', R4 (((w.alloc (.cells #[.int .i64 g, .slice a n c, .int .i64 k, .int .i64 q] T)).alloc o').alloc o'') w.heap.size (.int .i64 g) (.slice a n c) (.int .i64 k) (.int .i64 q)) := Lib.hid fun T o' o'' => ((r4_new w T _ _ _ _).alloc _).alloc _
  have HY : Hid (∀ o o' T, R4 (((w.alloc o).alloc o').alloc (.cells #[.int .i64 0, .slice none 0 0, .int .i64 0, .int .i64 0] T)) (w.heap.size + 2) (.int .i64 0) (.slice none 0 0) (.int .i64 0) (.int .i64 0)) := Lib.hid fun o o' T => by
    have := r4_new ((w.alloc o).alloc o') T (.int .i64 0) (.slice none 0 0) (.int .i64 0) (.int .i64 0)
    rw [World.size_alloc, World.size_alloc] at this
    exact this
  have HC : Hid (∀ o T o'', ((((w.alloc o).alloc (.cells #[.int .i64 x] T)).alloc o'').cell? ⟨w.heap.size + 1, 0, none⟩ = some (.int .i64 x))) := Lib.hid fun o T o'' => by
    have h1 := cell_new (w.alloc o) (T := T) (xs := #[.int .i64 x]) (k := 0) rfl
    rw [World.size_alloc] at h1
    rw [World.cell?_alloc_past _ _ _ (by show w.heap.size + 1 < _; rw [World.size_alloc, World.size_alloc]; omega)]
    exact h1
  have HHas := Lib.hid (fun o o' o'' => Has_R g k q x a n c ts _ rfl (((w.alloc o).alloc o').alloc o'') (hT.keep (HB o o' o'')) hn)
  have HBB := Lib.hid HB
  have HO := Lib.hid hown
  have HLT := Lib.hid hlt
  obtain ⟨k', hk'⟩ : ∃ k', (if Rg.ends ts k q x = true then 0 else k) = k' := ⟨_, rfl⟩
  obtain ⟨q', hq'⟩ : ∃ q', (if Rg.ends ts k q x = true then 0 else q) = q' := ⟨_, rfl⟩
  have A1 := fun w => all_R k _ rfl w
  have F1 := fun m w => free_R g k q a m c w
  have HE : Hid (Rg.ends ts k q x = (Rg.hasR ts k q x && (!Rg.all k || decide (Rg.cut ts x = []))) ∧ (if Rg.ends ts k q x = true then 0 else k) = k' ∧ (if Rg.ends ts k q x = true then 0 else q) = q') := Lib.hid ⟨rfl, hk', hq'⟩
  rw [hk', hq']
  generalize hbh : Rg.hasR ts k q x = bh at *
  generalize hba : Rg.all k = ba at *
  clear hT HB hlt hown hbh hba hk' hq'
  go_enter Tryz.func65, Tryz.ntmps65
  go_wp2_with fail
  have K1 := HHas.out (.cells #[.int .i64 g, .slice a n c, .int .i64 k, .int .i64 q] 42) (.cells #[.int .i64 x] 3) (.cells #[.int .i64 0, .slice none 0 0, .int .i64 0, .int .i64 0] 42)
  with_reducible refine K1.mono ?_
  rintro e w1 ⟨rfl, hb⟩
  have HB1 := Lib.hid ((HBB.out _ _ _).trans (hb.mono (HBB.out _ _ _).size))
  have HX1 := Lib.hid ((HX.out 42 _ _).on hb)
  have HY1 := Lib.hid ((HY.out _ _ 42).on hb)
  have HC1 : Hid (w1.cell? ⟨w.heap.size + 1, 0, none⟩ = some (.int .i64 x)) := Lib.hid (by rw [hb.cell (p := ⟨w.heap.size + 1, 0, none⟩) (by show w.heap.size + 1 < _; rw [World.size_alloc, World.size_alloc, World.size_alloc]; omega)]; exact HC.out _ 3 _)
  have hl1 := HY1.out.lt
  have HO1 := Lib.hid (own_keep HO.out HB1.out)
  have K2 := DeleteFunc_R a c n base (w.heap.size + 1) x ts w1 HO1.out hn (by omega) HC1.out (fun g hg => by have := HLT.out g hg; omega)
  clear hb K1
  have c1 := HX1.out.c1
  go_wp2_with fail
  with_reducible refine K2.mono ?_
  rintro e w2 ⟨m, rfl, hm, hO2, hg2⟩
  have hne : ∀ j, w.heap.size ≤ j → some j ≠ (Value.slice a n c).ownBlock := fun j hj e => by have := HLT.out j e.symm; omega
  have HX2 := Lib.hid (HX1.out.grown hg2 (hne _ (Nat.le_refl _)))
  have HY2 := Lib.hid (HY1.out.grown hg2 (hne _ (by omega)))
  have HG2 := Lib.hid ((below_grown HB1.out (Value.slice a n c).ownBlock).trans hg2)
  have HO2 := Lib.hid hO2
  have HM := Lib.hid hm
  have HNE : Hid (∀ k, (Value.slice a m c).ownBlock = some k → k < w.heap.size) := Lib.hid fun j hj => HLT.out j (by cases a <;> exact hj)
  obtain ⟨hl, c0, c1, c2, c3, z0, z1, z2, z3⟩ := HX2.out
  obtain ⟨hl', d0, d1, d2, d3, y0, y1, y2, y3⟩ := HY2.out
  obtain ⟨bm, hbm⟩ : ∃ bm, decide (Rg.cut ts x = []) = bm := ⟨_, rfl⟩
  have em : ((m : Int) == 0) = bm := by
    rw [← hm, ← hbm]
    cases Rg.cut ts x with
    | nil => rfl
    | cons t l => rw [decide_eq_false (by simp)]; exact beq_eq_false_iff_ne.2 (by rw [List.length_cons]; omega)
  obtain ⟨he1, he2, he3⟩ := HE.out
  rw [hbm] at he1
  rw [he1] at he2 he3
  clear he1 hbm HE
  have HXs := Lib.hid (HX2.out.set1 (.slice a m c))
  have HYs := Lib.hid (HY2.out.other w.heap.size 1 (by omega) (.slice a m c))
  have HOs := Lib.hid (own_set_other HO2.out (b := w.heap.size) (fun k hk => by have := HNE.out k hk; omega) 1 (.slice a m c))
  have HGs := Lib.hid (grown_store HG2.out (Nat.le_refl _) 1 (.slice a m c))
  clear hO2 hg2 hm K2 hne
  rcases bh with _ | _
  · rw [if_neg (by simp)] at he2 he3
    subst he2 he3
    go_wp2_with fail
    refine bodyPost_ret (v := .agg #[.int .i64 g, .slice a m c, .int .i64 k, .int .i64 q]) ?_ rfl ⟨m, rfl, HM.out, ?_, ?_⟩
    · exact res_cell (p := 4) (B := w.heap.size + 2) rfl rfl (HYs.out.set _ _ _ _)
    · exact own_set_other (own_set_other (own_set_other (own_set_other HOs.out (fun j hj => by have := HNE.out j hj; omega) _ _) (fun j hj => by have := HNE.out j hj; omega) _ _) (fun j hj => by have := HNE.out j hj; omega) _ _) (fun j hj => by have := HNE.out j hj; omega) _ _
    · exact grown_store (grown_store (grown_store (grown_store HGs.out (by omega) _ _) (by omega) _ _) (by omega) _ _) (by omega) _ _
  · rcases ba with _ | _
    · rw [if_pos (by simp)] at he2 he3
      subst he2 he3
      go_wp2_with fail
      have K4 := A1 (w2.setCell ⟨w.heap.size, 1, none⟩ (.slice a m c))
      with_reducible refine K4.mono ?_
      rintro e w4 ⟨rfl, rfl⟩
      clear K4
      go_wp2_with fail
      have K3 := F1 m (w2.setCell ⟨w.heap.size, 1, none⟩ (.slice a m c))
      with_reducible refine K3.mono ?_
      rintro e w3 ⟨rfl, hb3⟩
      have HXF := Lib.hid (HXs.out.on hb3)
      have HYF := Lib.hid (HYs.out.on hb3)
      have HOF := Lib.hid (own_keep HOs.out hb3)
      have HGF := Lib.hid (grown_below HGs.out hb3)
      obtain ⟨hm1, c0, c1, c2, c3, z0, z1, z2, z3⟩ := HXF.out
      obtain ⟨hm2, d0, d1, d2, d3, y0, y1, y2, y3⟩ := HYF.out
      clear hb3 K3
      go_wp2_with fail
      refine bodyPost_ret (v := .agg #[.int .i64 g, .slice a m c, .int .i64 0, .int .i64 0]) ?_ rfl ⟨m, rfl, HM.out, ?_, ?_⟩
      · exact res_cell (p := 4) (B := w.heap.size + 2) rfl rfl (((((HYF.out.other _ _ (by omega) _).other _ _ (by omega) _).other _ _ (by omega) _).other _ _ (by omega) _).set _ _ _ _)
      · exact own_set_other (own_set_other (own_set_other (own_set_other (own_set_other (own_set_other (own_set_other (own_set_other HOF.out (fun j hj => by have := HNE.out j hj; omega) _ _) (fun j hj => by have := HNE.out j hj; omega) _ _) (fun j hj => by have := HNE.out j hj; omega) _ _) (fun j hj => by have := HNE.out j hj; omega) _ _) (fun j hj => by have := HNE.out j hj; omega) _ _) (fun j hj => by have := HNE.out j hj; omega) _ _) (fun j hj => by have := HNE.out j hj; omega) _ _) (fun j hj => by have := HNE.out j hj; omega) _ _
      · exact grown_store (grown_store (grown_store (grown_store (grown_store (grown_store (grown_store (grown_store HGF.out (by omega) _ _) (by omega) _ _) (by omega) _ _) (by omega) _ _) (by omega) _ _) (by omega) _ _) (by omega) _ _) (by omega) _ _
    · rcases bm with _ | _
      · rw [if_neg (by simp)] at he2 he3
        subst he2 he3
        go_wp2_with fail
        have K4 := A1 (w2.setCell ⟨w.heap.size, 1, none⟩ (.slice a m c))
        with_reducible refine K4.mono ?_
        rintro e w4 ⟨rfl, rfl⟩
        clear K4
        go_wp2_with fail
        refine bodyPost_ret (v := .agg #[.int .i64 g, .slice a m c, .int .i64 k, .int .i64 q]) ?_ rfl ⟨m, rfl, HM.out, ?_, ?_⟩
        · exact res_cell (p := 4) (B := w.heap.size + 2) rfl rfl (HYs.out.set _ _ _ _)
        · exact own_set_other (own_set_other (own_set_other (own_set_other HOs.out (fun j hj => by have := HNE.out j hj; omega) _ _) (fun j hj => by have := HNE.out j hj; omega) _ _) (fun j hj => by have := HNE.out j hj; omega) _ _) (fun j hj => by have := HNE.out j hj; omega) _ _
        · exact grown_store (grown_store (grown_store (grown_store HGs.out (by omega) _ _) (by omega) _ _) (by omega) _ _) (by omega) _ _
      · rw [if_pos (by simp)] at he2 he3
        subst he2 he3
        go_wp2_with fail
        have K4 := A1 (w2.setCell ⟨w.heap.size, 1, none⟩ (.slice a m c))
        with_reducible refine K4.mono ?_
        rintro e w4 ⟨rfl, rfl⟩
        clear K4
        go_wp2_with fail
        have K3 := F1 m (w2.setCell ⟨w.heap.size, 1, none⟩ (.slice a m c))
        with_reducible refine K3.mono ?_
        rintro e w3 ⟨rfl, hb3⟩
        have HXF := Lib.hid (HXs.out.on hb3)
        have HYF := Lib.hid (HYs.out.on hb3)
        have HOF := Lib.hid (own_keep HOs.out hb3)
        have HGF := Lib.hid (grown_below HGs.out hb3)
        obtain ⟨hm1, c0, c1, c2, c3, z0, z1, z2, z3⟩ := HXF.out
        obtain ⟨hm2, d0, d1, d2, d3, y0, y1, y2, y3⟩ := HYF.out
        clear hb3 K3
        go_wp2_with fail
        refine bodyPost_ret (v := .agg #[.int .i64 g, .slice a m c, .int .i64 0, .int .i64 0]) ?_ rfl ⟨m, rfl, HM.out, ?_, ?_⟩
        · exact res_cell (p := 4) (B := w.heap.size + 2) rfl rfl (((((HYF.out.other _ _ (by omega) _).other _ _ (by omega) _).other _ _ (by omega) _).other _ _ (by omega) _).set _ _ _ _)
        · exact own_set_other (own_set_other (own_set_other (own_set_other (own_set_other (own_set_other (own_set_other (own_set_other HOF.out (fun j hj => by have := HNE.out j hj; omega) _ _) (fun j hj => by have := HNE.out j hj; omega) _ _) (fun j hj => by have := HNE.out j hj; omega) _ _) (fun j hj => by have := HNE.out j hj; omega) _ _) (fun j hj => by have := HNE.out j hj; omega) _ _) (fun j hj => by have := HNE.out j hj; omega) _ _) (fun j hj => by have := HNE.out j hj; omega) _ _) (fun j hj => by have := HNE.out j hj; omega) _ _
        · exact grown_store (grown_store (grown_store (grown_store (grown_store (grown_store (grown_store (grown_store HGF.out (by omega) _ _) (by omega) _ _) (by omega) _ _) (by omega) _ _) (by omega) _ _) (by omega) _ _) (by omega) _ _) (by omega) _ _

end Go.Proofs.YtenkdpogdfcbgaaGreat.Rs

/- Walks: resv.Check, resv.keyed. -/
namespace Go.Proofs.YtenkdpogdfcbgaaGreat.Rs
open Go.RowKit

theorem R4.drewN {w : World} {B : Nat} {v0 v1 v2 v3 : Value} (h : R4 w B v0 v1 v2 v3) (k : Nat) : R4 (w.drewN k) B v0 v1 v2 v3 := h.on (below_drewN (Below.refl _ w) k)
theorem R4.keep {w w' : World} {B : Nat} {v0 v1 v2 v3 : Value} (h : R4 w B v0 v1 v2 v3) (hb : Below w.heap.size w w') : R4 w' B v0 v1 v2 v3 := h.on hb

/-- Of what is right Check says so. -/
theorem Check_R (g k q : Int) (a : Option Addr) (n c : Nat) (ts : List Qu.T) (w : World) (hG : Rg.Good ⟨g, ts, k, q⟩) (hT : TSl w a n c ts) :
    Calls Tryz.prog 24 #[.agg #[.int .i64 g, .slice a n c, .int .i64 k, .int .i64 q]] w fun e w' => e = .returned (.int .i64 0) ∧ Below w.heap.size w w' := by
  have hg0 : 0 ≤ g := hG.gen0
  have hg1 : g ≤ 2147483647 := hG.gen1
  have hn8 : n ≤ 8 := by have := hG.len; rw [hT.len] at this; exact this
  have HX : Hid (∀ T, R4 (w.alloc (.cells #[.int .i64 g, .slice a n c, .int .i64 k, .int .i64 q] T)) w.heap.size (.int .i64 g) (.slice a n c) (.int .i64 k) (.int .i64 q)) := Lib.hid fun T => r4_new w T _ _ _ _
  have HB : Hid (∀ o, Below w.heap.size w (w.alloc o)) := Lib.hid fun o => (Below.refl _ w).alloc (Nat.le_refl _) _
  have HT := Lib.hid hT; have HG := Lib.hid hG
  clear hT hG
  go_enter Tryz.func24, Tryz.ntmps24
  go_wp2_with fail
  go_loopw [16] (fun x wr => ∃ j : Nat, j ≤ n ∧ x = .int .i64 j ∧ Hid (R4 wr w.heap.size (.int .i64 g) (.slice a n c) (.int .i64 k) (.int .i64 q)) ∧ Hid (Below w.heap.size w wr)) (fun x _ => n - (intOf x).toNat)
  case atStart => exact ⟨0, Nat.zero_le _, rfl, HX.out _, HB.out _⟩
  case round =>
    obtain ⟨j, hj, rfl, hX, hB⟩ := hrel
    obtain ⟨hl, c0, c1, c2, c3, z0, z1, z2, z3⟩ := hX.out
    by_cases hlt : j < n
    · have hk' : j < ts.length := by rw [HT.out.len]; exact hlt
      have hne : ts ≠ [] := by rintro rfl; simp at hk'
      obtain ⟨b, o, rfl, hb, hc⟩ := (HT.out.keep hB.out).at_ hne
      obtain ⟨e1, e2⟩ := hc j ts[j] (List.getElem?_eq_getElem hk')
      have ho := HG.out.one ts[j] (List.getElem_mem hk')
      have hlt1 : ∀ i (hi : i < j), (ts[i]'(Nat.lt_trans hi hk')).1 < ts[j].1 := fun i hi => (List.pairwise_iff_getElem.1 HG.out.inc) i j (Nat.lt_trans hi hk') hk' hi
      have hsz := hB.out.size
      rcases j with _ | i
      · simp only [Nat.zero_mul, Nat.add_zero] at e1 e2
        clear hlt1 hc hne
        generalize ts[0].1 = x at *
        generalize ts[0].2 = y at *
        obtain ⟨o1, o2, o3, o4⟩ := ho
        have W1 := fun w => who_R x true (by unfold Rg.who; rw [decide_eq_true o1, decide_eq_true o2]; rfl) w
        go_wp2_with fail
        with_reducible refine (W1 _).mono ?_
        rintro e w2 ⟨rfl, rfl⟩
        go_wp2_with fail
        go_quiet (fail)
        go_wp2_with fail
        go_roundw
        case rel => exact ⟨1, by omega, by go_num, Lib.hid ((hX.out.alloc _).drewN _), Lib.hid (below_drewN (hB.out.alloc hsz _) _)⟩
        case measure => simp [intOf]; omega
      · have hpre := hlt1 i (Nat.lt_succ_self _)
        obtain ⟨d1, -⟩ := hc i (ts[i]'(by omega)) (List.getElem?_eq_getElem (by omega))
        clear hlt1 hc hne
        have HBo : Hid (b < wr.heap.size) := Lib.hid hb
        generalize (ts[i]'_).1 = p at *
        generalize ts[i + 1].1 = x at *
        generalize ts[i + 1].2 = y at *
        obtain ⟨o1, o2, o3, o4⟩ := ho
        have W1 := fun w => who_R x true (by unfold Rg.who; rw [decide_eq_true o1, decide_eq_true o2]; rfl) w
        have hge : ¬ x ≤ p := by omega
        have hgd : decide (x ≤ p) = false := decide_eq_false hge
        have hpos : decide ((0 : Int) < (i : Int) + 1) = true := decide_eq_true (by omega)
        have hsub : IntKind.i64.wrap ((i : Int) + 1 - 1) = (i : Int) := by rw [Int.add_sub_cancel]; exact IntWalk.i64_in _ (by omega)
        go_wp2_with fail
        with_reducible refine (W1 _).mono ?_
        rintro e w2 ⟨rfl, rfl⟩
        go_wp2_with fail
        go_quiet (fail)
        go_wp2_with fail
        go_roundw
        case rel => exact ⟨i + 2, by omega, by go_num, Lib.hid ((hX.out.alloc _).drewN _), Lib.hid (below_drewN (hB.out.alloc hsz _) _)⟩
        case measure => simp [intOf]; omega
    · obtain rfl : j = n := by omega
      have A1 := fun w => all_R k _ rfl w
      have F1 := fun hh => find_R g k q q a j c ts wr (HT.out.keep hB.out) hh
      have hkind := HG.out.kind
      have hnone := HG.out.none
      have hsome := HG.out.some
      have hheld := HG.out.held
      by_cases h0 : k = 0
      · obtain rfl : q = 0 := hnone (Or.inl h0)
        subst h0
        clear hkind hnone hsome hheld F1 A1
        have A1 := fun w => all_R 0 false rfl w
        go_wp2_with fail
        with_reducible refine (A1 _).mono ?_
        rintro e w2 ⟨rfl, rfl⟩
        go_wp2_with fail
        go_ret
        exact ⟨rfl, hB.out⟩
      · have e0 : (k == 0) = false := beq_eq_false_iff_ne.2 h0
        cases ha : Rg.all k with
        | true =>
          obtain rfl : q = 0 := hnone (Or.inr ha)
          have hj0 : ((j : Int) == 0) = false := beq_eq_false_iff_ne.2 (by
            have h1 := hsome ha
            have h2 := HT.out.len
            have h3 : ts.length ≠ 0 := fun e => h1 (List.length_eq_zero_iff.1 e)
            omega)
          have A1 := fun w => all_R k true ha w
          clear hkind hnone hsome hheld F1 ha h0
          go_wp2_with fail
          with_reducible refine (A1 _).mono ?_
          rintro e w2 ⟨rfl, rfl⟩
          go_wp2_with fail
          with_reducible refine (A1 _).mono ?_
          rintro e w2 ⟨rfl, rfl⟩
          go_wp2_with fail
          go_ret
          exact ⟨rfl, hB.out⟩
        | false =>
          have hk : Rg.kindB k = true := hkind.resolve_right h0
          have hh := hheld h0 ha
          have A1 := fun w => all_R k false ha w
          have K1 := fun w => kind_R k true hk w
          have hi : decide (0 ≤ idx (Qu.tg q) ts) = true := by rw [idx_has]; exact hh
          have hi' : ¬ idx (Qu.tg q) ts < 0 := by have := of_decide_eq_true hi; omega
          have F2 := F1 (by omega)
          clear hkind hnone hsome hheld F1 ha h0 hk hh hi
          generalize idx (Qu.tg q) ts = ii at *
          go_wp2_with fail
          with_reducible refine (A1 _).mono ?_
          rintro e w2 ⟨rfl, rfl⟩
          go_wp2_with fail
          with_reducible refine (K1 _).mono ?_
          rintro e w2 ⟨rfl, rfl⟩
          go_wp2_with fail
          with_reducible refine F2.mono ?_
          rintro e w2 ⟨rfl, hb2⟩
          have HF := Lib.hid (hB.out.trans (hb2.mono hB.out.size))
          clear hb2
          go_wp2_with fail
          go_ret
          exact ⟨rfl, HF.out⟩

/-- What 'keyed' answers. -/
def keyE (ts : List Qu.T) (x y : Int) : Nat := if Rg.kd ts x y = false then 9 else 0

theorem idx_cases (ts : List Qu.T) (x : Int) : (Qu.has ts x = false ∧ idx (Qu.tg x) ts = -1) ∨ ∃ (i : Nat) (hi : i < ts.length), idx (Qu.tg x) ts = i ∧ Qu.has ts x = true ∧ (ts[i]).1 = x ∧ Rg.key ts x = (ts[i]).2 := by
  cases h : ts.findIdx? (Qu.tg x) with
  | none =>
    left
    refine ⟨?_, by unfold idx; rw [h]⟩
    unfold Qu.has
    rw [List.any_eq_false]
    intro t ht
    rw [List.findIdx?_eq_none_iff] at h
    rw [h t ht]; decide
  | some i =>
    right
    obtain ⟨hi, h1, h2⟩ := List.findIdx?_eq_some_iff_getElem.1 h
    refine ⟨i, hi, by unfold idx; rw [h], ?_, by simpa [Qu.tg] using h1, ?_⟩
    · unfold Qu.has
      rw [List.any_eq_true]
      exact ⟨_, List.getElem_mem hi, h1⟩
    · unfold Rg.key
      have : ts.find? (Qu.tg x) = some ts[i] := by
        rw [List.find?_eq_some_iff_getElem]
        exact ⟨h1, i, hi, rfl, fun j hj => by simpa using h2 j hj⟩
      rw [this]

theorem keyed_R (g k q x y : Int) (a : Option Addr) (n c : Nat) (ts : List Qu.T) (w : World) (hG : Rg.Good ⟨g, ts, k, q⟩) (hT : TSl w a n c ts) (hx0 : 0 ≤ x) (hx7 : x ≤ 7) :
    Calls Tryz.prog 69 #[.agg #[.int .i64 g, .slice a n c, .int .i64 k, .int .i64 q], .int .i64 x, .int .i64 y] w fun e w' => e = .returned (.int .i64 (keyE ts x y : Nat)) ∧ Below w.heap.size w w' := by
  have hn8 : n ≤ 8 := by have := hG.len; rw [hT.len] at this; exact this
  have HX : Hid (∀ T, R4 (w.alloc (.cells #[.int .i64 g, .slice a n c, .int .i64 k, .int .i64 q] T)) w.heap.size (.int .i64 g) (.slice a n c) (.int .i64 k) (.int .i64 q)) := Lib.hid fun T => r4_new w T _ _ _ _
  have HB : Hid (∀ o, Below w.heap.size w (w.alloc o)) := Lib.hid fun o => (Below.refl _ w).alloc (Nat.le_refl _) _
  have C1 := fun o => Check_R g k q a n c ts (w.alloc o) hG (hT.keep (HB.out o))
  have W1 := fun w => who_R x true (by unfold Rg.who; rw [decide_eq_true hx0, decide_eq_true hx7]; rfl) w
  have HF : Hid (∀ w', Below w.heap.size w w' → Calls Tryz.prog 47 #[.agg #[.int .i64 g, .slice a n c, .int .i64 k, .int .i64 q], .int .i64 x] w' fun e w'' => e = .returned (.int .i64 (idx (Qu.tg x) ts)) ∧ Below w'.heap.size w' w'') := Lib.hid fun w' hb => find_R g k q x a n c ts w' (hT.keep hb) (by omega)
  have HT := Lib.hid hT
  have HC := Lib.hid (idx_cases ts x)
  obtain ⟨E, hE⟩ : ∃ E, keyE ts x y = E := ⟨_, rfl⟩
  have HE : Hid (E = if (Qu.has ts x && (Rg.key ts x == y)) = false then 9 else 0) := Lib.hid (by rw [← hE]; rfl)
  rw [hE]
  clear hT hG hE
  go_enter Tryz.func69, Tryz.ntmps69
  go_wp2_with fail
  with_reducible refine (C1 _).mono ?_
  rintro e w1 ⟨rfl, hb1⟩
  have HB1 := Lib.hid ((HB.out _).trans (hb1.mono (HB.out _).size))
  have HX1 := Lib.hid ((HX.out 42).on hb1)
  obtain ⟨hl, c0, c1, c2, c3, z0, z1, z2, z3⟩ := HX1.out
  have F1 := HF.out w1 HB1.out
  clear hb1 C1
  go_wp2_with fail
  with_reducible refine (W1 _).mono ?_
  rintro e w2 ⟨rfl, rfl⟩
  go_wp2_with fail
  with_reducible refine F1.mono ?_
  rintro e w2 ⟨rfl, hb2⟩
  have HB2 := Lib.hid (HB1.out.trans (hb2.mono HB1.out.size))
  have HX2 := Lib.hid (HX1.out.on hb2)
  clear c0 c1 c2 c3 z0 z1 z2 z3 hl hb2 F1
  obtain ⟨hl, c0, c1, c2, c3, z0, z1, z2, z3⟩ := HX2.out
  rcases HC.out with ⟨h1, h2⟩ | ⟨i, hi, h2, h1, h3, h4⟩
  · obtain rfl : E = 9 := by rw [HE.out, h1]; rfl
    rw [h2]
    clear HE h1 h2
    go_wp2_with fail
    go_ret
    exact ⟨rfl, HB2.out⟩
  · rw [h1, h4, Bool.true_and] at HE
    obtain ⟨b, o, rfl, hb, hc⟩ := (HT.out.keep HB2.out).at_ (by rintro rfl; simp at hi)
    obtain ⟨d1, d2⟩ := hc i ts[i] (List.getElem?_eq_getElem hi)
    have hin : i < n := by rw [← HT.out.len]; exact hi
    rw [h2]
    have HE' := HE.out
    clear HE h1 h2 h4 hc h3 d1
    generalize ts[i].2 = z at *
    by_cases hz : z = y
    · subst hz
      obtain rfl : E = 0 := by rw [HE']; simp
      clear HE'
      go_wp2_with fail
      go_ret
      exact ⟨rfl, HB2.out⟩
    · have ez : (z == y) = false := beq_eq_false_iff_ne.2 hz
      have ez' : (z != y) = true := bne_iff_ne.2 hz
      obtain rfl : E = 9 := by rw [HE', ez]; rfl
      clear HE' hz
      go_wp2_with fail
      go_ret
      exact ⟨rfl, HB2.out⟩

end Go.Proofs.YtenkdpogdfcbgaaGreat.Rs
