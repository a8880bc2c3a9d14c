import Derived.Test.YtenkdpogdfcbgaaSkS
/- The walks of SegPuts's closures, of slices.IndexFunc, slices.DeleteFunc at records. -/
namespace Go.Proofs.Ytenkdpogdfcbgaa
open Go.RowKit

theorem ev_take (l : List Sg.R) (k : Nat) : ev (l.take k) = (ev l).take (k * 4) := by
  induction k generalizing l with
  | zero => simp [ev]
  | succ k ih =>
    cases l with
    | nil => simp [ev]
    | cons t l => rw [List.take_succ_cons, ev, ih, ev, Nat.succ_mul, List.take_succ_cons, List.take_succ_cons, List.take_succ_cons, List.take_succ_cons]
theorem ev_set (l : List Sg.R) (k : Nat) (x : Sg.R) : ev (l.set k x) = ((((ev l).set (k * 4) (.bool x.id.is)).set (k * 4 + 1) (.int .i64 x.id.sum)).set (k * 4 + 2) (.int .i64 x.id.n)).set (k * 4 + 3) (.string x.tx) := by
  induction l generalizing k with
  | nil => simp [ev]
  | cons t l ih =>
    cases k with
    | zero => rfl
    | succ k =>
      rw [List.set_cons_succ, ev, ih, ev]
      have h0 : (k + 1) * 4 = k * 4 + 4 := by omega
      have h1 : (k + 1) * 4 + 1 = k * 4 + 1 + 4 := by omega
      have h2 : (k + 1) * 4 + 2 = k * 4 + 2 + 4 := by omega
      have h3 : (k + 1) * 4 + 3 = k * 4 + 3 + 4 := by omega
      rw [h1, h2, h3, h0]
      rfl

set_option maxHeartbeats 4000000 in
/-- The inner closure: whether a record is that in the box. -/
theorem same_R (B : Nat) (x r : Sg.R) (w : World) (hX : Bxs w B [.bool r.id.is, .int .i64 r.id.sum, .int .i64 r.id.n, .string r.tx]) :
    Calls Try.prog 73 #[.agg #[.bool x.id.is, .int .i64 x.id.sum, .int .i64 x.id.n, .string x.tx], .pointer (some ⟨B, 0, none⟩)] w fun e w' => e = .returned (.bool (decide (x = r))) ∧ Below w.heap.size w w' := by
  have hbl := hX.lt
  have hX2 := hX.alloc (.cells #[.bool x.id.is, .int .i64 x.id.sum, .int .i64 x.id.n, .string x.tx] 36)
  have HB := Lib.hid ((Below.refl w.heap.size w).alloc (Nat.le_refl _) (.cells #[.bool x.id.is, .int .i64 x.id.sum, .int .i64 x.id.n, .string x.tx] 36))
  have y0 := hX2.c 0 _ rfl; have y1 := hX2.c 1 _ rfl; have y2 := hX2.c 2 _ rfl; have y3 := hX2.c 3 _ rfl
  clear hX hX2
  obtain ⟨⟨p1, p2, p3⟩, p4⟩ := x
  obtain ⟨⟨f1, f2, f3⟩, f4⟩ := r
  dsimp only at *
  by_cases h1 : p1 = f1
  · subst h1
    by_cases h2 : p2 = f2
    · subst h2
      by_cases h3 : p3 = f3
      · subst h3
        by_cases h4 : p4 = f4
        · subst h4
          rw [decide_eq_true (rfl : (⟨⟨p1, p2, p3⟩, p4⟩ : Sg.R) = _)]
          go_enter Try.func73, Try.ntmps73
          go_wp2_with fail
          go_wp2_with fail
          go_ret
          exact ⟨rfl, HB.out⟩
        · have h5 : ¬ p4.toList = f4.toList := fun h => h4 (Bg.bs_same.1 h)
          have h6 : (p4.toList == f4.toList) = false := beq_eq_false_iff_ne.2 h5
          have HD : Hid (decide ((⟨⟨p1, p2, p3⟩, p4⟩ : Sg.R) = ⟨⟨p1, p2, p3⟩, f4⟩) = false) := Lib.hid (decide_eq_false (by intro h; cases h; exact h4 rfl))
          go_enter Try.func73, Try.ntmps73
          go_wp2_with fail
          go_wp2_with fail
          go_ret
          rw [HD.out]
          exact ⟨rfl, HB.out⟩
      · have HD : Hid (decide ((⟨⟨p1, p2, p3⟩, p4⟩ : Sg.R) = ⟨⟨p1, p2, f3⟩, f4⟩) = false) := Lib.hid (decide_eq_false (by intro h; cases h; exact h3 rfl))
        go_enter Try.func73, Try.ntmps73
        go_wp2_with fail
        go_wp2_with fail
        go_ret
        rw [HD.out]
        exact ⟨rfl, HB.out⟩
    · have HD : Hid (decide ((⟨⟨p1, p2, p3⟩, p4⟩ : Sg.R) = ⟨⟨p1, f2, f3⟩, f4⟩) = false) := Lib.hid (decide_eq_false (by intro h; cases h; exact h2 rfl))
      go_enter Try.func73, Try.ntmps73
      go_wp2_with fail
      go_wp2_with fail
      go_ret
      rw [HD.out]
      exact ⟨rfl, HB.out⟩
  · have HD : Hid (decide ((⟨⟨p1, p2, p3⟩, p4⟩ : Sg.R) = ⟨⟨f1, f2, f3⟩, f4⟩) = false) := Lib.hid (decide_eq_false (by intro h; cases h; exact h1 rfl))
    go_enter Try.func73, Try.ntmps73
    go_wp2_with fail
    go_wp2_with fail
    go_ret
    rw [HD.out]
    exact ⟨rfl, HB.out⟩

/-- What a function value answers of records, wherever the row may have turned. -/
def PredD (w : World) (row : Option Nat) (g : FuncId) (lb : Array Value) (p : Sg.R → Bool) : Prop :=
  ∀ (W : World) (x : Sg.R), w.grownBy W row → Calls Try.prog g (#[.agg #[.bool x.id.is, .int .i64 x.id.sum, .int .i64 x.id.n, .string x.tx]] ++ lb) W fun e w' => e = .returned (.bool (p x)) ∧ Below W.heap.size W w'
theorem pred_same (w : World) (row : Option Nat) (B : Nat) (r : Sg.R) (hX : Bxs w B [.bool r.id.is, .int .i64 r.id.sum, .int .i64 r.id.n, .string r.tx]) (hr : some B ≠ row) :
    PredD w row 73 #[.pointer (some ⟨B, 0, none⟩)] fun x => decide (x = r) := fun W x hg => same_R B x r W (hX.grown hg hr)
theorem eg_same : ∀ args w, (callFunc 73 args).run Try.prog w = .ok (.enter 73 args) w := enters_of Try.func73 (by kernel_rfl) rfl

set_option maxRecDepth 100000 in
set_option maxHeartbeats 4000000 in
theorem IndexFunc_RR (a : Option Addr) (n c : Nat) (l : List Sg.R) (g : FuncId) (lb : Array Value) (p : Sg.R → Bool) (row : Option Nat) (w : World) (hS : RSl w a n c l) (hn : n ≤ 1000000)
    (eg : ∀ args w, (callFunc g args).run Try.prog w = .ok (.enter g args) w) (hp : PredD w row g lb p) :
    Calls Try.prog 156 #[.slice a n c, .func (.func g) #[] lb] w fun e w' => e = .returned (.int .i64 (idxG p l)) ∧ Below w.heap.size w w' := by
  have HS := Lib.hid hS; have HP := Lib.hid hp
  clear hS hp
  go_enter Try.func156, Try.ntmps156
  go_wp2_with fail
  go_loopw [8] (fun x wr => ∃ k : Nat, k ≤ n ∧ x = .int .i64 k ∧ Hid (Below w.heap.size w wr) ∧ Hid (∀ j < k, ∀ y, l[j]? = some y → p y = false)) (fun x _ => n - (intOf x).toNat)
  case atStart => exact ⟨0, Nat.zero_le _, rfl, Lib.hid (Below.refl _ _), Lib.hid fun j hj => by omega⟩
  case round =>
    obtain ⟨k, hk, rfl, HB, HQ⟩ := hrel
    by_cases hlt : k < n
    · have hkl : k < l.length := by rw [HS.out.len]; exact hlt
      obtain ⟨A, gb, go, gs, rfl, hA, c0, c1, c2, c3⟩ := (HS.out.keep HB.out).get hkl
      have hls : l[k]? = some l[k] := List.getElem?_eq_getElem hkl
      have K1 := HP.out wr l[k] (below_grown HB.out row)
      have HN2 : Hid (p l[k] = false → Hid (∀ j < k + 1, ∀ y, l[j]? = some y → p y = false)) := Lib.hid fun hne => Lib.hid fun j hj y hy => by
        by_cases hjk : j < k
        · exact HQ.out j hjk y hy
        · obtain rfl : j = k := by omega
          rw [hls] at hy
          cases hy
          exact hne
      have HH : Hid (p l[k] = true → idxG p l = (k : Int)) := Lib.hid fun he => idxG_hit hls he HQ.out
      have HBW := Lib.hid HB.out.size
      generalize p l[k] = ps at *
      clear hls
      generalize l[k] = x at *
      obtain ⟨⟨p1, p2, p3⟩, p4⟩ := x
      dsimp only at c0 c1 c2 c3 K1
      cases ps with
      | true =>
        have HI := Lib.hid (HH.out rfl)
        clear HH HN2
        go_wp2_with (go_at_fn g; refine K1.mono ?_; rintro e w' ⟨rfl, hb'⟩)
        go_ret
        rw [HI.out]
        exact ⟨rfl, HB.out.trans (hb'.mono HBW.out)⟩
      | false =>
        have HI := HN2.out rfl
        clear HH HN2
        go_wp2_with (go_at_fn g; refine K1.mono ?_; rintro e w' ⟨rfl, hb'⟩)
        go_roundw
        case rel => exact ⟨k + 1, hlt, by go_num, Lib.hid (HB.out.trans (hb'.mono HBW.out)), HI⟩
        case measure => simp [intOf]; omega
    · obtain rfl : k = n := by omega
      have hm : idxG p l = -1 := idxG_miss fun j hj => HQ.out j (by rw [← HS.out.len]; exact hj)
      go_wp2_with fail
      go_ret
      rw [hm]
      exact ⟨rfl, HB.out⟩

theorem run_clear_recs (w : World) (b o r c : Nat) (hr : 0 < r) (h0 : ∀ j, j < r * 4 → (w.cell? ⟨b, o + j, none⟩).isSome = true) (f0 : ∀ j, j < r * 4 → w.frozen? ⟨b, o + j, none⟩ = false) :
    ∃ Z : List Value, Z.length = r * 4 ∧ ∀ ty, (Builtin.clear_ #[45] ty #[.slice (some ⟨b, o, none⟩) r c]).run Try.prog w = .ok (.tuple #[]) (w.setCells b o Z) := by
  have hZl : (Builtin.zeroCells (Value.agg #[.bool false, .int .i64 0, .int .i64 0, .string ⟨#[]⟩]).cells r).toList.length = r * 4 := by rw [Array.length_toList, size_zeroCells]; rfl
  have hone : ∀ u ∈ (Builtin.zeroCells (Value.agg #[.bool false, .int .i64 0, .int .i64 0, .string ⟨#[]⟩]).cells r).toList, u.oneCell' = true := by
    intro u hu
    unfold Builtin.zeroCells at hu
    simp only [Array.toList_map, List.mem_map] at hu
    obtain ⟨k, -, rfl⟩ := hu
    show (#[Value.bool false, Value.int .i64 0, Value.int .i64 0, Value.string ⟨#[]⟩][k % 4]!).oneCell' = true
    have h4 : k % 4 = 0 ∨ k % 4 = 1 ∨ k % 4 = 2 ∨ k % 4 = 3 := by omega
    rcases h4 with h | h | h | h
    all_goals
      rw [h]; rfl
  have hst := run_storeCells_cells (P := Try.prog) b o (Builtin.zeroCells (Value.agg #[.bool false, .int .i64 0, .int .i64 0, .string ⟨#[]⟩]).cells r).toList 0 w (by rw [hZl]; simpa using h0) (by rw [hZl]; simpa using f0) hone
  simp only [Nat.add_zero] at hst
  refine ⟨_, hZl, fun ty => ?_⟩
  obtain ⟨m, rfl⟩ : ∃ m, r = m + 1 := ⟨r - 1, by omega⟩
  simp [Builtin.clear_, run_underlying Try.underlying45, hst]

set_option maxRecDepth 100000 in
set_option maxHeartbeats 8000000 in
theorem DeleteFunc_E (a : Option Addr) (cap n base : Nat) (ts : List Sg.R) (gf : FuncId) (lb : Array Value) (p : Sg.R → Bool) (w : World) (hown : w.ownsRow base 36 4 (.slice a n cap) n (ev ts)) (hn2 : n ≤ 1000000)
    (eg : ∀ args w, (callFunc gf args).run Try.prog w = .ok (.enter gf args) w) (hp : PredD w (Value.slice a n cap).ownBlock gf lb p) :
    Calls Try.prog 72 #[.slice a n cap, .func (.func gf) #[] lb] w fun e w' =>
      ∃ m, e = .returned (.slice a m cap) ∧ w'.ownsRow base 36 4 (.slice a m cap) m (ev (ts.filter fun t => !p t)) ∧ w.grownBy w' (Value.slice a n cap).ownBlock := by
  have hlen : ts.length = n := own_len4 hown
  have I1 := IndexFunc_RR a n cap ts gf lb p _ w (rsl_own hown) hn2 eg hp
  have HO := Lib.hid hown; have HL := Lib.hid hlen; have HP := Lib.hid hp
  rcases hi : ts.findIdx? p with _ | i
  · have e1 : idxG p ts = -1 := by unfold idxG; rw [hi]
    rw [e1] at I1
    have HS : Hid ((ts.filter fun t => !p t) = ts) := Lib.hid (by
      rw [List.filter_eq_self]
      intro t ht
      rw [List.findIdx?_eq_none_iff] at hi
      rw [hi t ht]; rfl)
    clear hi e1 hown hlen hp
    go_enter Try.func72, Try.ntmps72
    go_wp2_with fail
    with_reducible refine I1.mono ?_
    rintro e w' ⟨rfl, hb⟩
    have HF : Hid (w'.ownsRow base 36 4 (.slice a n cap) n (ev (ts.filter fun t => !p t)) ∧ w.grownBy w' (Value.slice a n cap).ownBlock) := Lib.hid ⟨by rw [HS.out]; exact own_keep HO.out hb, below_grown hb _⟩
    clear hb I1
    go_wp2_with fail
    go_ret
    exact ⟨n, rfl, HF.out⟩
  · obtain ⟨hin, hns, hbef⟩ := List.findIdx?_eq_some_iff_getElem.1 hi
    have hin' : i < n := by rw [← HL.out]; exact hin
    obtain ⟨g, rfl⟩ : ∃ g, a = some ⟨g, 0, none⟩ := by
      rcases hown.2 with ⟨-, h0⟩ | ⟨g, cap', cur, h, -⟩
      · omega
      · cases h; exact ⟨g, rfl⟩
    obtain ⟨f0, -, -, hbg, hnc, hcm⟩ := rowIs_own hown
    unfold maxLen at hcm
    have e1 : idxG p ts = (i : Int) := by unfold idxG; rw [hi]
    rw [e1] at I1
    have HS0 : Hid (((ts.take (i + 1)).filter fun t => !p t) = ts.take i) := Lib.hid (by
      rw [List.take_succ_eq_append_getElem hin, List.filter_append, List.filter_cons, hns, List.filter_eq_self.2 (fun t ht => by
        obtain ⟨j, hj, rfl⟩ := List.getElem_of_mem ht
        rw [List.getElem_take]
        rw [List.length_take] at hj
        cases hc : p (ts[j]'(by omega)) with
        | false => rfl
        | true => exact absurd hc (hbef j (by omega)))]
      simp)
    clear hi e1 hns hbef hin hown hlen hp
    go_enter Try.func72, Try.ntmps72
    go_wp2_with fail
    with_reducible refine I1.mono ?_
    rintro e w1 ⟨rfl, hb⟩
    have HO1 := Lib.hid (own_keep HO.out hb)
    have HB1 := Lib.hid (below_grown hb (some g))
    clear hb I1
    have hm1 : ((i : Int) == -1) = false := beq_eq_false_iff_ne.2 (by omega)
    go_wp2_with fail
    go_loopw [5, 6] (fun vi vj wr => ∃ (k j : Nat) (L : List Sg.R), vi = .int .i64 k ∧ vj = .int .i64 j ∧ k < j ∧ j ≤ n ∧ Hid (L.length = n) ∧ Hid (L.take k = (ts.take j).filter fun t => !p t) ∧ Hid (L.drop j = ts.drop j) ∧ Hid (wr.ownsRow base 36 4 (.slice (some ⟨g, 0, none⟩) n cap) n (ev L)) ∧ Hid (w.grownBy wr (some g))) (fun _ vj _ => n - (intOf vj).toNat)
    case atStart => exact ⟨i, i + 1, ts, rfl, by go_num, Nat.lt_succ_self _, hin', HL, Lib.hid HS0.out.symm, Lib.hid rfl, HO1, HB1⟩
    case round =>
      obtain ⟨k, j, L, rfl, rfl, hkj, hj, hL, hP, hD, hO, hBr⟩ := hrel
      by_cases hlt : j < n
      · have hjl : j < L.length := by rw [hL.out]; exact hlt
        have hjt : j < ts.length := by rw [HL.out]; exact hlt
        have hLj : L[j] = ts[j] := by
          have h := congrArg (fun l : List Sg.R => l[0]?) hD.out
          simp only [List.getElem?_drop, Nat.add_zero] at h
          rw [List.getElem?_eq_getElem hjl, List.getElem?_eq_getElem hjt] at h
          exact Option.some.inj h
        obtain ⟨k0, k1, k2, k3⟩ := ev_get (List.getElem?_eq_getElem hjl)
        rw [hLj] at k0 k1 k2 k3
        have c0 : wr.cell? ⟨g, j * 4, none⟩ = some (.bool ts[j].id.is) := by rw [hO.out.cellAt _ (by omega), k0]
        have c1 : wr.cell? ⟨g, j * 4 + 1, none⟩ = some (.int .i64 ts[j].id.sum) := by rw [hO.out.cellAt _ (by omega), k1]
        have c2 : wr.cell? ⟨g, j * 4 + 2, none⟩ = some (.int .i64 ts[j].id.n) := by rw [hO.out.cellAt _ (by omega), k2]
        have c3 : wr.cell? ⟨g, j * 4 + 3, none⟩ = some (.string ts[j].tx) := by rw [hO.out.cellAt _ (by omega), k3]
        have HSN : Hid (((ts.take (j + 1)).filter fun t => !p t) = ((ts.take j).filter fun t => !p t) ++ if p ts[j] = false then [ts[j]] else []) := Lib.hid (by
          rw [List.take_succ_eq_append_getElem hjt, List.filter_append]
          congr 1
          rw [List.filter_cons]
          cases p ts[j] <;> rfl)
        have HDJ : Hid (∀ t, (L.set k t).drop (j + 1) = ts.drop (j + 1)) := Lib.hid fun t => by
          rw [List.drop_set_of_lt (by omega), ← List.drop_drop, ← List.drop_drop, hD.out]
        clear hjl hLj k0 k1 k2 k3
        generalize ts[j] = x at *
        have hpx : ∀ W, Below wr.heap.size wr W → Calls Try.prog gf (#[.agg #[.bool x.id.is, .int .i64 x.id.sum, .int .i64 x.id.n, .string x.tx]] ++ lb) W fun e w' => e = .returned (.bool (p x)) ∧ Below W.heap.size W w' := fun W hW => HP.out W x (hBr.out.trans (below_grown hW (some g)))
        obtain ⟨⟨f1, f2, f3⟩, f4⟩ := x
        dsimp only at c0 c1 c2 c3 hpx
        have hal : Below wr.heap.size wr (wr.alloc (.cells #[.bool f1, .int .i64 f2, .int .i64 f3, .string f4] 36)) := (Below.refl wr.heap.size wr).alloc (Nat.le_refl _) _
        have K1 := hpx _ hal
        have HX0 := Lib.hid (bxs_new wr 36 #[.bool f1, .int .i64 f2, .int .i64 f3, .string f4] [.bool f1, .int .i64 f2, .int .i64 f3, .string f4] rfl)
        have HAL := Lib.hid hal
        have jn : (j : Int) < (n : Int) := by omega
        clear hpx hal
        cases hq : p ⟨⟨f1, f2, f3⟩, f4⟩ with
        | true =>
          rw [hq] at K1
          have HSN2 : Hid (((ts.take (j + 1)).filter fun t => !p t) = (ts.take j).filter fun t => !p t) := Lib.hid (by rw [HSN.out, hq, if_neg (by decide), List.append_nil])
          have HDD : Hid (L.drop (j + 1) = ts.drop (j + 1)) := Lib.hid (by rw [← List.drop_drop, ← List.drop_drop, hD.out])
          clear hq HSN
          go_wp2_with (go_at_fn gf; refine K1.mono ?_; rintro e w2 ⟨rfl, hb2⟩)
          have HB2 := Lib.hid (hBr.out.trans (below_grown (HAL.out.trans (hb2.mono HAL.out.size)) (some g)))
          have HO2 := Lib.hid (own_keep hO.out (HAL.out.trans (hb2.mono HAL.out.size)))
          clear hb2 K1
          go_roundw
          case rel => exact ⟨k, j + 1, L, rfl, by go_num, by omega, hlt, hL, Lib.hid (by rw [HSN2.out]; exact hP.out), HDD, HO2, HB2⟩
          case measure => simp [intOf]; omega
        | false =>
          rw [hq] at K1
          have HSN2 : Hid (((ts.take (j + 1)).filter fun t => !p t) = ((ts.take j).filter fun t => !p t) ++ [⟨⟨f1, f2, f3⟩, f4⟩]) := Lib.hid (by rw [HSN.out, hq, if_pos rfl])
          have hkL : k < L.length := by rw [hL.out]; omega
          have HPT : Hid ((L.set k ⟨⟨f1, f2, f3⟩, f4⟩).take (k + 1) = ((ts.take j).filter fun t => !p t) ++ [⟨⟨f1, f2, f3⟩, f4⟩]) := Lib.hid (by
            rw [List.take_succ_eq_append_getElem (by rw [List.length_set]; exact hkL), List.take_set_of_le (Nat.le_refl _), hP.out]
            simp)
          have HLS : Hid ((L.set k (⟨⟨f1, f2, f3⟩, f4⟩ : Sg.R)).length = n) := Lib.hid (by rw [List.length_set]; exact hL.out)
          have HK1 := Lib.hid K1
          clear hq HSN
          have HKA : Hid (∀ w2, Below (wr.alloc (.cells #[.bool f1, .int .i64 f2, .int .i64 f3, .string f4] 36)).heap.size (wr.alloc (.cells #[.bool f1, .int .i64 f2, .int .i64 f3, .string f4] 36)) w2 →
              (w2.cell? ⟨wr.heap.size, 0, none⟩ = some (.bool f1) ∧ w2.cell? ⟨wr.heap.size, 1, none⟩ = some (.int .i64 f2) ∧ w2.cell? ⟨wr.heap.size, 2, none⟩ = some (.int .i64 f3) ∧ w2.cell? ⟨wr.heap.size, 3, none⟩ = some (.string f4)) ∧
              (w2.cell? ⟨g, k * 4, none⟩ = some (.bool (L[k]'hkL).id.is) ∧ w2.cell? ⟨g, k * 4 + 1, none⟩ = some (.int .i64 (L[k]'hkL).id.sum) ∧ w2.cell? ⟨g, k * 4 + 2, none⟩ = some (.int .i64 (L[k]'hkL).id.n) ∧ w2.cell? ⟨g, k * 4 + 3, none⟩ = some (.string (L[k]'hkL).tx)) ∧
              (w2.frozen? ⟨g, k * 4, none⟩ = false ∧ w2.frozen? ⟨g, k * 4 + 1, none⟩ = false ∧ w2.frozen? ⟨g, k * 4 + 2, none⟩ = false ∧ w2.frozen? ⟨g, k * 4 + 3, none⟩ = false) ∧
              ((((w2.setCell ⟨g, k * 4, none⟩ (.bool f1)).setCell ⟨g, k * 4 + 1, none⟩ (.int .i64 f2)).setCell ⟨g, k * 4 + 2, none⟩ (.int .i64 f3)).setCell ⟨g, k * 4 + 3, none⟩ (.string f4)).ownsRow base 36 4 (.slice (some ⟨g, 0, none⟩) n cap) n (ev (L.set k ⟨⟨f1, f2, f3⟩, f4⟩)) ∧
              w.grownBy ((((w2.setCell ⟨g, k * 4, none⟩ (.bool f1)).setCell ⟨g, k * 4 + 1, none⟩ (.int .i64 f2)).setCell ⟨g, k * 4 + 2, none⟩ (.int .i64 f3)).setCell ⟨g, k * 4 + 3, none⟩ (.string f4)) (some g)) := Lib.hid fun w2 hb2 => by
            have HB2 := hBr.out.trans (below_grown (HAL.out.trans (hb2.mono HAL.out.size)) (some g))
            have HO2 := own_keep hO.out (HAL.out.trans (hb2.mono HAL.out.size))
            have hX := HX0.out.on hb2
            obtain ⟨k0, k1, k2, k3⟩ := ev_get (List.getElem?_eq_getElem hkL)
            refine ⟨⟨hX.c 0 _ rfl, hX.c 1 _ rfl, hX.c 2 _ rfl, hX.c 3 _ rfl⟩, ⟨?_, ?_, ?_, ?_⟩, ⟨HO2.frozenAt _, HO2.frozenAt _, HO2.frozenAt _, HO2.frozenAt _⟩, ?_, ?_⟩
            · rw [HO2.cellAt _ (by omega), k0]
            · rw [HO2.cellAt _ (by omega), k1]
            · rw [HO2.cellAt _ (by omega), k2]
            · rw [HO2.cellAt _ (by omega), k3]
            · have h := ((((HO2.stored (k * 4) (.bool f1)).1.stored (k * 4 + 1) (.int .i64 f2)).1.stored (k * 4 + 2) (.int .i64 f3)).1.stored (k * 4 + 3) (.string f4)).1
              rw [ev_set]
              exact h
            · exact Lib.Hx.grownBy_set (Lib.Hx.grownBy_set (Lib.Hx.grownBy_set (Lib.Hx.grownBy_set HB2 _ rfl _) _ rfl _) _ rfl _) _ rfl _
          have kn : (k : Int) < (n : Int) := by omega
          have hgw : ¬ g = wr.heap.size := by
            have := own_block_lt hO.out g rfl
            omega
          have hwg : ¬ wr.heap.size = g := fun e => hgw e.symm
          generalize (L[k]'hkL).id.is = u1 at *
          generalize (L[k]'hkL).id.sum = u2 at *
          generalize (L[k]'hkL).id.n = u3 at *
          generalize (L[k]'hkL).tx = u4 at *
          clear hkL HK1
          go_wp2_with (go_at_fn gf; refine K1.mono ?_; rintro e w2 ⟨rfl, hb2⟩; obtain ⟨⟨b0, b1, b2, b3⟩, ⟨s0, s1, s2, s3⟩, ⟨z0, z1, z2, z3⟩, ho2, hg2⟩ := HKA.out w2 hb2; have HO2 := Lib.hid ho2; have HG2 := Lib.hid hg2; clear ho2 hg2 hb2)
          go_roundw
          case rel => exact ⟨k + 1, j + 1, L.set k ⟨⟨f1, f2, f3⟩, f4⟩, by go_num, by go_num, by omega, hlt, HLS, Lib.hid (by rw [HSN2.out]; exact HPT.out), Lib.hid (HDJ.out _), HO2, HG2⟩
          case measure => simp [intOf]; omega
      · have hjn : j = n := by omega
        subst hjn
        obtain ⟨f, hrow, hf, -, -, -⟩ := rowIs_own hO.out
        have hfr : ∀ q, wr.frozen? ⟨g, q, none⟩ = false := fun q => hO.out.frozenAt q
        obtain ⟨Z, hZl, hcl⟩ := run_clear_recs wr g (k * 4) (j - k) (cap - k) (by omega) (fun q hq => by
          obtain ⟨cur, h1, h2, h3⟩ := hrow
          rw [cell_of_row wr g _ cur _ (0, 0) h1, h3 _ (by omega)]; rfl) (fun q _ => hfr _)
        have hr2 := rowIs_setCells Z (k * 4) wr f hrow
        have hsl : L.take k = ts.filter fun t => !p t := by rw [hP.out, List.take_of_length_le (by rw [HL.out]; exact Nat.le_refl _)]
        have hkl : (ts.filter fun t => !p t).length = k := by rw [← hsl, List.length_take, hL.out]; omega
        have HF : Hid ((wr.setCells g (k * 4) Z).ownsRow base 36 4 (.slice (some ⟨g, 0, none⟩) k cap) k (ev (ts.filter fun t => !p t)) ∧ w.grownBy (wr.setCells g (k * 4) Z) (some g)) := Lib.hid ⟨own_rowIs hr2 (by rw [ev_length, hkl]) (fun q hq => by
          rw [if_neg (by omega), ← hsl, ev_take, List.getElem?_take, if_pos hq]
          exact hf q (by omega)) hbg (by omega) (by unfold maxLen; omega), hBr.out.trans (setCells_grown wr g Z _)⟩
        have hck : ¬ cap = k := by omega
        have hkc : k ≤ cap := by omega
        have hkj : (k : Int) ≤ (j : Int) := by omega
        clear hrow hf hfr hr2 hsl hkl hZl
        go_wp2_with fail
        go_ret
        exact ⟨k, rfl, HF.out⟩

set_option maxHeartbeats 4000000 in
/-- The closure: the records without that in the box. -/
theorem Without_E (a : Option Addr) (c n base B : Nat) (l : List Sg.R) (r : Sg.R) (w : World) (hown : w.ownsRow base 36 4 (.slice a n c) n (ev l)) (hn : n ≤ 1000000) (hX : Bxs w B [.bool r.id.is, .int .i64 r.id.sum, .int .i64 r.id.n, .string r.tx]) (hB : some B ≠ (Value.slice a n c).ownBlock) :
    Calls Try.prog 71 #[.slice a n c, .pointer (some ⟨B, 0, none⟩)] w fun e w' =>
      ∃ m, e = .returned (.slice a m c) ∧ w'.ownsRow base 36 4 (.slice a m c) m (ev (l.filter fun t => !decide (t = r))) ∧ w.grownBy w' (Value.slice a n c).ownBlock := by
  have K1 := DeleteFunc_E a c n base l 73 #[.pointer (some ⟨B, 0, none⟩)] (fun t => decide (t = r)) w hown hn eg_same (pred_same w _ B r hX hB)
  clear hown hX hB
  go_enter Try.func71, Try.ntmps71
  go_wp2_with fail
  with_reducible refine K1.mono ?_
  rintro e w' ⟨m, rfl, ho, hg⟩
  have HF := Lib.hid (And.intro ho hg)
  clear K1 ho hg
  go_wp2_with fail
  go_ret
  exact ⟨m, rfl, HF.out⟩
theorem eg_without : ∀ args w, (callFunc 71 args).run Try.prog w = .ok (.enter 71 args) w := enters_of Try.func71 (by kernel_rfl) rfl

end Go.Proofs.Ytenkdpogdfcbgaa
