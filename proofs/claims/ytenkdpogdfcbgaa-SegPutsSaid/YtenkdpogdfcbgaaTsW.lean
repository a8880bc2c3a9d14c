import Derived.Test.YtenkdpogdfcbgaaTsP
import Derived.Test.YtenkdpogdfcbgaaSgS
/- The walks of slices.Delete at ids, slices.Contains at records, slices.ContainsFunc at segments. -/
namespace Go.Proofs.Ytenkdpogdfcbgaa
open Go.RowKit

theorem dv_drop (l : List Bg.Id) (k : Nat) : dv (l.drop k) = (dv l).drop (k * 3) := by
  induction k generalizing l with
  | zero => rfl
  | succ k ih =>
    cases l with
    | nil => simp [dv]
    | cons t l => rw [List.drop_succ_cons, ih, dv, show (k + 1) * 3 = k * 3 + 1 + 1 + 1 from by omega, List.drop_succ_cons, List.drop_succ_cons, List.drop_succ_cons]
theorem dv_take (l : List Bg.Id) (k : Nat) : dv (l.take k) = (dv l).take (k * 3) := by
  induction k generalizing l with
  | zero => simp [dv]
  | succ k ih =>
    cases l with
    | nil => simp [dv]
    | cons t l => rw [List.take_succ_cons, dv, ih, dv, show (k + 1) * 3 = k * 3 + 1 + 1 + 1 from by omega, List.take_succ_cons, List.take_succ_cons, List.take_succ_cons]

theorem id_ones (b : Bool) (x y : Int) : ∀ u ∈ [Value.bool b, .int .i64 x, .int .i64 y], u.oneCell' = true := by
  intro u hu
  simp at hu
  rcases hu with rfl | rfl | rfl <;> rfl

/-- 'clear' of one item. -/
theorem run_clear_oneD (w : World) (ty : TypeId) (b o c : Nat) (h0 : ∀ j, j < 3 → (w.cell? ⟨b, o + j, none⟩).isSome = true) (f0 : ∀ j, j < 3 → w.frozen? ⟨b, o + j, none⟩ = false) :
    (Builtin.clear_ #[27] ty #[.slice (some ⟨b, o, none⟩) 1 c]).run Try.prog w = .ok (.tuple #[]) (w.setCells b o [.bool false, .int .i64 0, .int .i64 0]) := by
  have hst := run_storeCells_cells (P := Try.prog) b o [.bool false, .int .i64 0, .int .i64 0] 0 w (by
    intro j hj
    rw [Nat.add_zero]
    exact h0 j hj) (by
    intro j hj
    rw [Nat.add_zero]
    exact f0 j hj) (id_ones false 0 0)
  simp only [Nat.add_zero] at hst
  have hzc : (Builtin.zeroCells (Value.agg #[.bool false, .int .i64 0, .int .i64 0]).cells 1).toList = [.bool false, .int .i64 0, .int .i64 0] := by
    simp [Builtin.zeroCells, Value.cells, List.range_succ, Array.toList_map, Array.toList_range]
  simp [Builtin.clear_, run_underlying Try.underlying27, hzc, hst]

theorem rowIs_ownD {w : World} {base g n cap : Nat} {e : TypeId} {xs : List Value} (h : w.ownsRow base e 3 (.slice (some ⟨g, 0, none⟩) n cap) n xs) : ∃ f, w.rowIs g e (cap * 3) f ∧ (∀ j, j < n * 3 → xs[j]? = some (f j)) ∧ base ≤ g ∧ n ≤ cap ∧ cap ≤ maxLen := by
  rcases h.2 with ⟨h', _⟩ | ⟨g', cap', cur, h', hb, hg, hnc, hcm, hsz, htake⟩
  · cases h'
  · cases h'
    refine ⟨fun j => cur.getD j default, ⟨cur, hg, hsz, fun j hj => ?_⟩, fun j hj => ?_, hb, hnc, hcm⟩
    · simp [Array.getD, hsz, hj]
    · have hj2 : j < cur.size := by rw [hsz]; omega
      rw [← htake, List.getElem?_take, if_pos hj]
      simp [Array.getD, hj2]

theorem own_rowIsD {w : World} {base g n cap : Nat} {e : TypeId} {xs : List Value} {f : Nat → Value} (h : w.rowIs g e (cap * 3) f) (hx : xs.length = n * 3) (hf : ∀ j, j < n * 3 → xs[j]? = some (f j)) (hb : base ≤ g) (hnc : n ≤ cap) (hcm : cap ≤ maxLen) : w.ownsRow base e 3 (.slice (some ⟨g, 0, none⟩) n cap) n xs := by
  obtain ⟨cur, hg, hsz, hc⟩ := h
  refine ⟨hx, Or.inr ⟨g, cap, cur, rfl, hb, hg, hnc, hcm, hsz, ?_⟩⟩
  apply List.ext_getElem?
  intro j
  by_cases hj : j < n * 3
  · rw [List.getElem?_take, if_pos hj, hf j hj, Array.getElem?_toList, hc j (by omega)]
  · rw [List.getElem?_eq_none (by rw [List.length_take]; omega), List.getElem?_eq_none (by omega)]

set_option maxRecDepth 100000 in
set_option maxHeartbeats 4000000 in
theorem Delete_D (g cap n i m base : Nat) (ts : List Bg.Id) (w : World) (hown : w.ownsRow base 29 3 (.slice (some ⟨g, 0, none⟩) n cap) n (dv ts)) (hn : n = i + 1 + m) (_hn2 : n ≤ 1000000) (W0 : World) (hB : Below base W0 w) (_hb0 : base ≤ w.heap.size) :
    Calls Try.prog 19 #[.slice (some ⟨g, 0, none⟩) n cap, .int .i64 i, .int .i64 ((i : Int) + 1)] w fun e w' =>
      e = .returned (.slice (some ⟨g, 0, none⟩) (i + m) cap) ∧ w'.ownsRow base 29 3 (.slice (some ⟨g, 0, none⟩) (i + m) cap) (i + m) (dv (ts.take i ++ ts.drop (i + 1))) ∧ Below base W0 w' ∧ w.grownBy w' (some g) := by
  obtain ⟨i0, hi0, hz0, hz1, hz2⟩ := info_parts Try.infoId
  obtain ⟨f, hrow, hf, hbg, hnc, hcm⟩ := rowIs_ownD hown
  have hlen : ts.length = n := by have := hown.1; rw [dv_length] at this; omega
  unfold maxLen at hcm
  obtain ⟨news, hnews⟩ : ∃ news, news = dv (ts.drop (i + 1)) := ⟨_, rfl⟩
  have hnl : news.length = m * 3 := by rw [hnews, dv_length, List.length_drop]; omega
  have hrowd : w.drew.rowIs g 29 (cap * 3) f := hrow
  have hcell : ∀ j, j < cap * 3 → w.drew.cell? ⟨g, j, none⟩ = some (f j) := fun j hj => by
    obtain ⟨cur, h1, h2, h3⟩ := hrow
    have := cell_of_row w g j cur _ (0, 0) h1
    show w.cell? _ = _
    rw [this, h3 j hj]
  have hfz : ∀ j, w.drew.frozen? ⟨g, j, none⟩ = false := fun j => hown.frozenAt j
  obtain ⟨A, hA, hsrc⟩ : ∃ A : Addr, (if cap = i + 1 then some (⟨g, 0, none⟩ : Addr) else some ⟨g, (i + 1) * 3, none⟩) = some A ∧ Hid (∀ t u, news[t]? = some u → w.drew.cell? (A.add t) = some u) := by
    by_cases h : cap = i + 1
    · refine ⟨⟨g, 0, none⟩, by simp [h], Lib.hid fun t u hu => ?_⟩
      have h0 : news.length = 0 := by rw [hnl]; omega
      rw [List.length_eq_zero_iff.1 h0] at hu
      simp at hu
    · refine ⟨⟨g, (i + 1) * 3, none⟩, by simp [h], Lib.hid fun t u hu => ?_⟩
      have ht : t < m * 3 := by
        have := (List.getElem?_eq_some_iff.1 hu).1
        rwa [hnl] at this
      rw [hnews, dv_drop, List.getElem?_drop, hf _ (by omega)] at hu
      rw [addr_lit, hcell _ (by omega)]
      exact hu
  have s1 : Hid (news.length = m * 3) := Lib.hid hnl
  have s2 : Hid (∀ u ∈ news, u.oneCell' = true) := Lib.hid (by rw [hnews]; exact dv_one _)
  have s3 : Hid (∀ t, t < news.length → (w.drew.cell? ⟨g, 0 + i * 3 + t, none⟩).isSome = true ∧ w.drew.frozen? ⟨g, 0 + i * 3 + t, none⟩ = false) := Lib.hid (by
    intro t ht
    rw [hnl] at ht
    rw [Nat.zero_add]
    exact ⟨by rw [hcell _ (by omega)]; rfl, hfz _⟩)
  obtain ⟨W1, hW1⟩ : ∃ W1, W1 = w.drew.setCells g (0 + i * 3) news := ⟨_, rfl⟩
  have hr1 := rowIs_setCells news (0 + i * 3) w.drew f hrowd
  rw [← hW1] at hr1
  have hcl : ∀ ty, (Builtin.clear_ #[27] ty #[.slice (some ⟨g, (i + m) * 3, none⟩) 1 (cap - (i + m))]).run Try.prog W1 = .ok (.tuple #[]) (W1.setCells g ((i + m) * 3) [.bool false, .int .i64 0, .int .i64 0]) := fun ty => by
    obtain ⟨cur, h1, h2, h3⟩ := hr1
    exact run_clear_oneD W1 ty g ((i + m) * 3) _ (fun j hj => by rw [cell_of_row W1 g _ cur _ (0, 0) h1, h3 _ (by omega)]; rfl) (fun j _ => by rw [hW1, World.frozen?_setCells]; exact hfz _)
  have hr2 := rowIs_setCells [.bool false, .int .i64 0, .int .i64 0] ((i + m) * 3) W1 _ hr1
  have HF : Hid ((W1.setCells g ((i + m) * 3) [.bool false, .int .i64 0, .int .i64 0]).ownsRow base 29 3 (.slice (some ⟨g, 0, none⟩) (i + m) cap) (i + m) (dv (ts.take i ++ ts.drop (i + 1))) ∧ Below base W0 (W1.setCells g ((i + m) * 3) [.bool false, .int .i64 0, .int .i64 0])) := Lib.hid ⟨own_rowIsD hr2 (by rw [dv_length, List.length_append, List.length_take, List.length_drop]; omega) (fun j hj => by
      rw [if_neg (by omega)]
      rw [dv_app, ← hnews]
      have hl1 : (dv (ts.take i)).length = i * 3 := by rw [dv_length, List.length_take]; omega
      by_cases h : j < i * 3
      · rw [if_neg (by omega), List.getElem?_append_left (by omega), dv_take, List.getElem?_take, if_pos h, hf j (by omega)]
      · rw [if_pos (by omega), List.getElem?_append_right (by omega), hl1, Nat.zero_add, List.getElem?_eq_getElem (by omega)]
        simp) hbg (by omega) (by unfold maxLen; omega), by
      rw [hW1]
      exact below_setCells hbg _ _ _ (below_setCells hbg _ _ _ hB.drew)⟩
  have HGR : Hid (w.grownBy (W1.setCells g ((i + m) * 3) [.bool false, .int .i64 0, .int .i64 0]) (some g)) := Lib.hid (by
    have h1 := setCells_grown w.drew g news (0 + i * 3)
    rw [← hW1] at h1
    have h2 := setCells_grown W1 g [.bool false, .int .i64 0, .int .i64 0] ((i + m) * 3)
    exact ⟨h2.os.trans h1.os, h2.tape.trans h1.tape, h2.output.trans h1.output, Nat.le_trans h1.size h2.size, fun k hk hne => (h2.block k (Nat.lt_of_lt_of_le hk h1.size) hne).trans (h1.block k hk hne)⟩)
  have hW : Hid (W1 = w.drew.setCells g (0 + i * 3) news) := Lib.hid hW1
  have hic : i ≤ cap := by omega
  have hjc : i + 1 ≤ cap := by omega
  have hmn : n - (i + 1) = m := by omega
  have h1n : n - (i + m) = 1 := by omega
  have hin : (i : Int) + 1 ≤ (n : Int) := by omega
  have h0i : (0 : Int) ≤ (i : Int) + 1 := by omega
  have hne : ((i : Int) == (i : Int) + 1) = false := beq_eq_false_iff_ne.2 (by omega)
  have him : (i : Int) + (m : Int) ≤ (n : Int) := by omega
  have t1 : ((i : Int) + 1).toNat = i + 1 := by omega
  have hcc : cap - (i + 1) + (i + 1) = cap := by omega
  clear hW1 hr1 hr2 hrow hrowd hcell hfz hnews hnl hf hown hB hlen hn
  go_enter Try.func19, Try.ntmps19
  go_wp2_with fail
  go_region_law (refine step_append_room rfl (.tmp 22) (.tmp 25) 27 rfl 29 i0 3 Try.underlying27 hi0 hz1 g 0 i cap (by simp [Act.eval, Act.put]) A m (cap - (i + 1)) news (by simp [Act.eval, Act.put]) s1.out hsrc.out s2.out (by omega) s3.out ?_; rw [← hW.out])
  go_wp2_with fail
  go_ret
  exact ⟨rfl, HF.out.1, HF.out.2, HGR.out⟩

/-- Where the first one is, or -1. -/
def idxG {α : Type} (p : α → Bool) (l : List α) : Int := match l.findIdx? p with | some i => (i : Int) | none => -1
theorem idxG_hit {α : Type} {p : α → Bool} {l : List α} {k : Nat} {x : α} (hk : l[k]? = some x) (h : p x = true) (hb : ∀ j < k, ∀ y, l[j]? = some y → p y = false) : idxG p l = (k : Int) := by
  obtain ⟨h1, rfl⟩ := List.getElem?_eq_some_iff.1 hk
  have : l.findIdx? p = some k := List.findIdx?_eq_some_iff_getElem.2 ⟨h1, h, fun j hj hh => by rw [hb j hj _ (List.getElem?_eq_getElem (by omega))] at hh; cases hh⟩
  unfold idxG
  rw [this]
theorem idxG_miss {α : Type} {p : α → Bool} {l : List α} (hb : ∀ j < l.length, ∀ y, l[j]? = some y → p y = false) : idxG p l = -1 := by
  have : l.findIdx? p = none := List.findIdx?_eq_none_iff.2 fun x hx => by
    obtain ⟨j, hj, rfl⟩ := List.getElem_of_mem hx
    exact hb j hj _ (List.getElem?_eq_getElem hj)
  unfold idxG
  rw [this]
theorem idxG_any {α : Type} (p : α → Bool) (l : List α) : decide (0 ≤ idxG p l) = l.any p := by
  unfold idxG
  cases h : l.findIdx? p with
  | none =>
    have : l.any p = false := by
      rw [List.any_eq_false]
      intro x hx
      have := List.findIdx?_eq_none_iff.1 h x hx
      simp [this]
    rw [this]
    rfl
  | some i =>
    obtain ⟨hi, h1, -⟩ := List.findIdx?_eq_some_iff_getElem.1 h
    have : l.any p = true := List.any_eq_true.2 ⟨l[i], List.getElem_mem hi, h1⟩
    rw [this]
    exact decide_eq_true (Int.natCast_nonneg i)

set_option maxRecDepth 100000 in
set_option maxHeartbeats 4000000 in
theorem Index_E (a : Option Addr) (n c base : Nat) (l : List Sg.R) (r : Sg.R) (w : World) (hO : w.ownsRow base 36 4 (.slice a n c) n (ev l)) (hn : n ≤ 1099511627776) :
    Calls Try.prog 116 #[.slice a n c, .agg #[.bool r.id.is, .int .i64 r.id.sum, .int .i64 r.id.n, .string r.tx]] w fun e w' => e = .returned (.int .i64 (idxG (fun x => decide (x = r)) l)) ∧ Below w.heap.size w w' := by
  obtain ⟨w0, hw0⟩ : ∃ w0, w.alloc (.cells #[.bool r.id.is, .int .i64 r.id.sum, .int .i64 r.id.n, .string r.tx] 36) = w0 := ⟨_, rfl⟩
  have hal : Below w.heap.size w w0 := by rw [← hw0]; exact (Below.refl w.heap.size w).alloc (Nat.le_refl _) _
  have HX : Hid (Bxs w0 w.heap.size [.bool r.id.is, .int .i64 r.id.sum, .int .i64 r.id.n, .string r.tx]) := Lib.hid (by rw [← hw0]; exact bxs_new w _ _ _ rfl)
  have HB := Lib.hid hal; have HO := Lib.hid (own_keep hO hal); have HL := Lib.hid (own_len4 hO)
  clear hal hO
  go_enter Try.func116, Try.ntmps116
  go_wp2_with fail
  go_loopw [8] (fun x wr => ∃ k : Nat, k ≤ n ∧ x = .int .i64 k ∧ (∃ j, wr = w0.drewN j) ∧ Hid (∀ j < k, ∀ y, l[j]? = some y → (decide (y = r)) = false)) (fun x _ => n - (intOf x).toNat)
  case atStart => exact ⟨0, Nat.zero_le _, rfl, ⟨0, by first | rfl | exact hw0⟩, Lib.hid fun j hj => by omega⟩
  case round =>
    obtain ⟨k, hk, rfl, ⟨j, rfl⟩, HP⟩ := hrel
    by_cases hlt : k < n
    · have hkl : k < l.length := by rw [HL.out]; exact hlt
      obtain ⟨g, rfl, hg, c0, c1, c2, c3⟩ := ev_at HO.out hkl
      have x0 := HX.out.c 0 _ rfl; have x1 := HX.out.c 1 _ rfl; have x2 := HX.out.c 2 _ rfl; have x3 := HX.out.c 3 _ rfl
      have HN : Hid (¬ l[k] = r → Hid (∀ j < k + 1, ∀ y, l[j]? = some y → (decide (y = r)) = false)) := Lib.hid fun hne => Lib.hid fun j hj y hy => by
        by_cases hjk : j < k
        · exact HP.out j hjk y hy
        · obtain rfl : j = k := by omega
          rw [List.getElem?_eq_getElem hkl] at hy
          cases hy
          exact decide_eq_false hne
      have HH : Hid (l[k] = r → idxG (fun x => decide (x = r)) l = (k : Int)) := Lib.hid fun he => idxG_hit (List.getElem?_eq_getElem hkl) (decide_eq_true he) HP.out
      clear hw0
      generalize l[k] = x at *
      obtain ⟨⟨p1, p2, p3⟩, p4⟩ := x
      obtain ⟨⟨f1, f2, f3⟩, f4⟩ := r
      dsimp only at *
      by_cases h1 : f1 = p1
      · subst h1
        by_cases h2 : f2 = p2
        · subst h2
          by_cases h3 : f3 = p3
          · subst h3
            by_cases h4 : f4 = p4
            · subst h4
              have HI := Lib.hid (HH.out rfl)
              clear HH HN
              go_wp2_with fail
              go_region
              all_goals
                go_wp2_with fail
                go_ret
                rw [HI.out]
                exact ⟨rfl, below_drewN HB.out _⟩
            · have h5 : ¬ f4.toList = p4.toList := fun h => h4 (Bg.bs_same.1 h)
              have h6 : (f4.toList == p4.toList) = false := beq_eq_false_iff_ne.2 h5
              have h7 : ¬ p4.toList = f4.toList := fun h => h5 h.symm
              go_wp2_with fail
              go_region
              all_goals
                go_wp2_with fail
                go_roundw
                case rel => exact ⟨k + 1, hlt, by go_num, ⟨j + 1, rfl⟩, HN.out (by intro h; cases h; exact h4 rfl)⟩
                case measure => simp [intOf]; omega
          · have h5 : ¬ p3 = f3 := fun h => h3 h.symm
            go_wp2_with fail
            go_region
            all_goals
              go_wp2_with fail
              go_roundw
              case rel => exact ⟨k + 1, hlt, by go_num, ⟨j + 1, rfl⟩, HN.out (by intro h; cases h; exact h3 rfl)⟩
              case measure => simp [intOf]; omega
        · have h5 : ¬ p2 = f2 := fun h => h2 h.symm
          go_wp2_with fail
          go_region
          all_goals
            go_wp2_with fail
            go_roundw
            case rel => exact ⟨k + 1, hlt, by go_num, ⟨j + 1, rfl⟩, HN.out (by intro h; cases h; exact h2 rfl)⟩
            case measure => simp [intOf]; omega
      · have h5 : ¬ p1 = f1 := fun h => h1 h.symm
        go_wp2_with fail
        go_region
        all_goals
          go_wp2_with fail
          go_roundw
          case rel => exact ⟨k + 1, hlt, by go_num, ⟨j + 1, rfl⟩, HN.out (by intro h; cases h; exact h1 rfl)⟩
          case measure => simp [intOf]; omega
    · obtain rfl : k = n := by omega
      have hm : idxG (fun x => decide (x = r)) l = -1 := idxG_miss fun j hj => HP.out j (by rw [← HL.out]; exact hj)
      go_wp2_with fail
      go_ret
      rw [hm]
      exact ⟨rfl, below_drewN HB.out _⟩

theorem Contains_E (a : Option Addr) (n c base : Nat) (l : List Sg.R) (r : Sg.R) (w : World) (hO : w.ownsRow base 36 4 (.slice a n c) n (ev l)) (hn : n ≤ 1000000) :
    Calls Try.prog 23 #[.slice a n c, .agg #[.bool r.id.is, .int .i64 r.id.sum, .int .i64 r.id.n, .string r.tx]] w fun e w' => e = .returned (.bool (l.any fun x => decide (x = r))) ∧ Below w.heap.size w w' := by
  have hal : Below w.heap.size w (w.alloc (.cells #[.bool r.id.is, .int .i64 r.id.sum, .int .i64 r.id.n, .string r.tx] 36)) := (Below.refl w.heap.size w).alloc (Nat.le_refl _) _
  have K1 := Index_E a n c base l r (w.alloc (.cells #[.bool r.id.is, .int .i64 r.id.sum, .int .i64 r.id.n, .string r.tx] 36)) (own_keep hO hal) (by omega)
  have HA := Lib.hid (idxG_any (fun x => decide (x = r)) l)
  have HB := Lib.hid hal
  generalize idxG (fun x => decide (x = r)) l = I at *
  generalize (l.any fun x => decide (x = r)) = B at *
  clear hal hO
  go_enter Try.func23, Try.ntmps23
  go_wp2_with fail
  with_reducible refine K1.mono ?_
  rintro e w1 ⟨rfl, hb1⟩
  have HB1 := Lib.hid (HB.out.trans (hb1.mono HB.out.size))
  clear K1 hb1
  go_wp2_with fail
  go_ret
  exact ⟨by rw [← HA.out]; rfl, HB1.out⟩

/-- A predicate's function value: what it answers of segments that lie there. -/
def PredS (w : World) (g : FuncId) (lb : Array Value) (p : List Sg.R → Bool) : Prop :=
  ∀ (W : World) (a : Option Addr) (n c base : Nat) (s : List Sg.R), Below w.heap.size w W → n ≤ 1000000 → W.ownsRow base 36 4 (.slice a n c) n (ev s) → Calls Try.prog g (#[.slice a n c] ++ lb) W fun e w' => e = .returned (.bool (p s)) ∧ Below W.heap.size W w'

set_option maxRecDepth 100000 in
set_option maxHeartbeats 4000000 in
theorem IndexFunc_E (a : Option Addr) (n c base : Nat) (rs : List Rl) (l : List (List Sg.R)) (g : FuncId) (lb : Array Value) (p : List Sg.R → Bool) (w : World) (hS : SgW w base a n c rs l) (hn : n ≤ 1000000) (hs : ∀ s ∈ l, s.length ≤ 1000000)
    (eg : ∀ args w, (callFunc g args).run Try.prog w = .ok (.enter g args) w) (hp : PredS w g lb p) :
    Calls Try.prog 115 #[.slice a n c, .func (.func g) #[] lb] w fun e w' => e = .returned (.int .i64 (idxG p l)) ∧ Below w.heap.size w w' := by
  have HS := Lib.hid hS; have HN := Lib.hid hs; have HP := Lib.hid hp
  clear hS hs hp
  go_enter Try.func115, Try.ntmps115
  go_wp2_with fail
  go_loopw [8] (fun x wr => ∃ k : Nat, k ≤ n ∧ x = .int .i64 k ∧ Hid (Below w.heap.size w wr) ∧ Hid (∀ j < k, ∀ y, l[j]? = some y → p y = false)) (fun x _ => n - (intOf x).toNat)
  case atStart => exact ⟨0, Nat.zero_le _, rfl, Lib.hid (Below.refl _ _), Lib.hid fun j hj => by omega⟩
  case round =>
    obtain ⟨k, hk, rfl, HB, HQ⟩ := hrel
    by_cases hlt : k < n
    · obtain ⟨gg, r, s, rfl, hg, -, c0, hr, hls, ho⟩ := (HS.out.keep HB.out).at hlt
      have hrn : r.n ≤ 1000000 := by rw [← own_len4 ho]; exact HN.out s (List.mem_of_getElem? hls)
      have K1 := HP.out wr r.a r.n r.c _ s HB.out hrn ho
      have HN2 : Hid (p s = false → Hid (∀ j < k + 1, ∀ y, l[j]? = some y → p y = false)) := Lib.hid fun hne => Lib.hid fun j hj y hy => by
        by_cases hjk : j < k
        · exact HQ.out j hjk y hy
        · obtain rfl : j = k := by omega
          rw [hls] at hy
          cases hy
          exact hne
      have HH : Hid (p s = true → idxG p l = (k : Int)) := Lib.hid fun he => idxG_hit hls he HQ.out
      clear hg hr hls ho hrn
      generalize r.a = ra at *
      generalize r.n = rn at *
      generalize r.c = rc at *
      have HBW := Lib.hid HB.out.size
      generalize p s = ps at *
      cases ps with
      | true =>
        have HI := Lib.hid (HH.out rfl)
        clear HH HN2
        go_wp2_with (go_at_fn g; refine K1.mono ?_; rintro e w' ⟨rfl, hb'⟩)
        go_ret
        rw [HI.out]
        exact ⟨rfl, HB.out.trans (hb'.mono HBW.out)⟩
      | false =>
        have HI := HN2.out rfl
        clear HH HN2
        go_wp2_with (go_at_fn g; refine K1.mono ?_; rintro e w' ⟨rfl, hb'⟩)
        go_roundw
        case rel => exact ⟨k + 1, hlt, by go_num, Lib.hid (HB.out.trans (hb'.mono HBW.out)), HI⟩
        case measure => simp [intOf]; omega
    · obtain rfl : k = n := by omega
      have hm : idxG p l = -1 := idxG_miss fun j hj => HQ.out j (by rw [← HS.out.len]; exact hj)
      go_wp2_with fail
      go_ret
      rw [hm]
      exact ⟨rfl, HB.out⟩

theorem ContainsFunc_E (a : Option Addr) (n c base : Nat) (rs : List Rl) (l : List (List Sg.R)) (g : FuncId) (lb : Array Value) (p : List Sg.R → Bool) (w : World) (hS : SgW w base a n c rs l) (hn : n ≤ 1000000) (hs : ∀ s ∈ l, s.length ≤ 1000000)
    (eg : ∀ args w, (callFunc g args).run Try.prog w = .ok (.enter g args) w) (hp : PredS w g lb p) :
    Calls Try.prog 21 #[.slice a n c, .func (.func g) #[] lb] w fun e w' => e = .returned (.bool (l.any p)) ∧ Below w.heap.size w w' := by
  have K1 := IndexFunc_E a n c base rs l g lb p w hS hn hs eg hp
  have HA := Lib.hid (idxG_any p l)
  generalize idxG p l = I at *
  generalize l.any p = B at *
  clear hS hs hp
  go_enter Try.func21, Try.ntmps21
  go_wp2_with fail
  with_reducible refine K1.mono ?_
  rintro e w1 ⟨rfl, hb1⟩
  have HB1 := Lib.hid hb1
  clear K1 hb1
  go_wp2_with fail
  go_ret
  exact ⟨by rw [← HA.out]; rfl, HB1.out⟩

theorem eg_top : ∀ args w, (callFunc 22 args).run Try.prog w = .ok (.enter 22 args) w := enters_of Try.func22 (by kernel_rfl) rfl

theorem pred_top (w : World) (B : Nat) (r : Sg.R) (hX : Bxs w B [.bool r.id.is, .int .i64 r.id.sum, .int .i64 r.id.n, .string r.tx]) : PredS w 22 #[.pointer (some ⟨B, 0, none⟩)] (fun s => s.any fun x => decide (x = r)) := fun W a n c base s hb hn ho => by
  have hx := hX.on hb
  have c0 := hx.c 0 _ rfl; have c1 := hx.c 1 _ rfl; have c2 := hx.c 2 _ rfl; have c3 := hx.c 3 _ rfl
  have K1 := Contains_E a n c base s r W ho hn
  clear hb hX hx ho
  show Calls Try.prog 22 #[.slice a n c, .pointer (some ⟨B, 0, none⟩)] W _
  go_enter Try.func22, Try.ntmps22
  go_wp2_with fail
  with_reducible refine K1.mono ?_
  rintro e w1 ⟨rfl, hb1⟩
  have HB1 := Lib.hid hb1
  clear K1 hb1
  go_wp2_with fail
  go_ret
  exact ⟨rfl, HB1.out⟩

end Go.Proofs.Ytenkdpogdfcbgaa
