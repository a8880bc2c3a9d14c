/- The walk of slices.Delete of one item. -/
import Derived.Test.YteddendidjhmbaaItW
import Derived.Lib.LazyBuf
import Derived.Lib.SliceRun
import Derived.Deep.OwnRows
import Derived.Laws.IdiomCopy
import Derived.Deep.RegionLaw
namespace Go.Proofs.Yteddendidjhmbaa
open Go.RowKit

theorem item_ones (x y : Int) (t : ByteArray) (z : Int) : ∀ u ∈ [Value.int .i64 x, .int .i64 y, .string t, .int .i64 z], u.oneCell' = true := by
  intro u hu
  simp at hu
  rcases hu with rfl | rfl | rfl | rfl <;> rfl

/-- 'clear' of one item. -/
theorem run_clear_one (w : World) (ty : TypeId) (b o c : Nat) (h0 : ∀ j, j < 4 → (w.cell? ⟨b, o + j, none⟩).isSome = true) (f0 : ∀ j, j < 4 → w.frozen? ⟨b, o + j, none⟩ = false) :
    (Builtin.clear_ #[22] ty #[.slice (some ⟨b, o, none⟩) 1 c]).run Try.prog w = .ok (.tuple #[]) (w.setCells b o [.int .i64 0, .int .i64 0, .string ⟨#[]⟩, .int .i64 0]) := by
  have hst := run_storeCells_cells (P := Try.prog) b o [.int .i64 0, .int .i64 0, .string ⟨#[]⟩, .int .i64 0] 0 w (by
    intro j hj
    rw [Nat.add_zero]
    exact h0 j hj) (by
    intro j hj
    rw [Nat.add_zero]
    exact f0 j hj) (item_ones 0 0 ⟨#[]⟩ 0)
  simp only [Nat.add_zero] at hst
  have hzc : (Builtin.zeroCells (Value.agg #[.int .i64 0, .int .i64 0, .string ⟨#[]⟩, .int .i64 0]).cells 1).toList = [.int .i64 0, .int .i64 0, .string ⟨#[]⟩, .int .i64 0] := by
    simp [Builtin.zeroCells, Value.cells, List.range_succ, Array.toList_map, Array.toList_range]
  simp [Builtin.clear_, run_underlying Try.underlying22, hzc, hst]

theorem rowIs_own {w : World} {base g n cap : Nat} {e : TypeId} {xs : List Value} (h : w.ownsRow base e 4 (.slice (some ⟨g, 0, none⟩) n cap) n xs) : ∃ f, w.rowIs g e (cap * 4) f ∧ (∀ j, j < n * 4 → xs[j]? = some (f j)) ∧ base ≤ g ∧ n ≤ cap ∧ cap ≤ maxLen := by
  rcases h.2 with ⟨h', _⟩ | ⟨g', cap', cur, h', hb, hg, hnc, hcm, hsz, htake⟩
  · cases h'
  · cases h'
    refine ⟨fun j => cur.getD j default, ⟨cur, hg, hsz, fun j hj => ?_⟩, fun j hj => ?_, hb, hnc, hcm⟩
    · simp [Array.getD, hsz, hj]
    · have hj2 : j < cur.size := by rw [hsz]; omega
      rw [← htake, List.getElem?_take, if_pos hj]
      simp [Array.getD, hj2]

theorem own_rowIs {w : World} {base g n cap : Nat} {e : TypeId} {xs : List Value} {f : Nat → Value} (h : w.rowIs g e (cap * 4) f) (hx : xs.length = n * 4) (hf : ∀ j, j < n * 4 → xs[j]? = some (f j)) (hb : base ≤ g) (hnc : n ≤ cap) (hcm : cap ≤ maxLen) : w.ownsRow base e 4 (.slice (some ⟨g, 0, none⟩) n cap) n xs := by
  obtain ⟨cur, hg, hsz, hc⟩ := h
  refine ⟨hx, Or.inr ⟨g, cap, cur, rfl, hb, hg, hnc, hcm, hsz, ?_⟩⟩
  apply List.ext_getElem?
  intro j
  by_cases hj : j < n * 4
  · rw [List.getElem?_take, if_pos hj, hf j hj, Array.getElem?_toList, hc j (by omega)]
  · rw [List.getElem?_eq_none (by rw [List.length_take]; omega), List.getElem?_eq_none (by omega)]

set_option maxRecDepth 100000 in
set_option maxHeartbeats 4000000 in
theorem Delete_I (g cap n i m base : Nat) (ts : List Bg.It) (w : World) (hown : w.ownsRow base 37 4 (.slice (some ⟨g, 0, none⟩) n cap) n (tv ts)) (hn : n = i + 1 + m) (_hn2 : n ≤ 1000000) (W0 : World) (hB : Below base W0 w) (_hb0 : base ≤ w.heap.size) :
    Calls Try.prog 68 #[.slice (some ⟨g, 0, none⟩) n cap, .int .i64 i, .int .i64 ((i : Int) + 1)] w fun e w' =>
      e = .returned (.slice (some ⟨g, 0, none⟩) (i + m) cap) ∧ w'.ownsRow base 37 4 (.slice (some ⟨g, 0, none⟩) (i + m) cap) (i + m) (tv (ts.take i ++ ts.drop (i + 1))) ∧ Below base W0 w' := by
  obtain ⟨i0, hi0, hz0, hz1, hz2⟩ := info_parts Try.infoItem
  obtain ⟨f, hrow, hf, hbg, hnc, hcm⟩ := rowIs_own hown
  have hlen : ts.length = n := by have := hown.1; rw [tv_length] at this; omega
  unfold maxLen at hcm
  obtain ⟨news, hnews⟩ : ∃ news, news = tv (ts.drop (i + 1)) := ⟨_, rfl⟩
  have hnl : news.length = m * 4 := by rw [hnews, tv_length, List.length_drop]; omega
  have hrowd : w.drew.rowIs g 37 (cap * 4) f := hrow
  have hcell : ∀ j, j < cap * 4 → w.drew.cell? ⟨g, j, none⟩ = some (f j) := fun j hj => by
    obtain ⟨cur, h1, h2, h3⟩ := hrow
    have := cell_of_row w g j cur _ (0, 0) h1
    show w.cell? _ = _
    rw [this, h3 j hj]
  have hfz : ∀ j, w.drew.frozen? ⟨g, j, none⟩ = false := fun j => hown.frozenAt j
  obtain ⟨A, hA, hsrc⟩ : ∃ A : Addr, (if cap = i + 1 then some (⟨g, 0, none⟩ : Addr) else some ⟨g, (i + 1) * 4, none⟩) = some A ∧ Hid (∀ t u, news[t]? = some u → w.drew.cell? (A.add t) = some u) := by
    by_cases h : cap = i + 1
    · refine ⟨⟨g, 0, none⟩, by simp [h], Lib.hid fun t u hu => ?_⟩
      have h0 : news.length = 0 := by rw [hnl]; omega
      rw [List.length_eq_zero_iff.1 h0] at hu
      simp at hu
    · refine ⟨⟨g, (i + 1) * 4, none⟩, by simp [h], Lib.hid fun t u hu => ?_⟩
      have ht : t < m * 4 := by
        have := (List.getElem?_eq_some_iff.1 hu).1
        rwa [hnl] at this
      rw [hnews, tv_drop, List.getElem?_drop, hf _ (by omega)] at hu
      rw [addr_lit, hcell _ (by omega)]
      exact hu
  have s1 : Hid (news.length = m * 4) := Lib.hid hnl
  have s2 : Hid (∀ u ∈ news, u.oneCell' = true) := Lib.hid (by rw [hnews]; exact tv_one _)
  have s3 : Hid (∀ t, t < news.length → (w.drew.cell? ⟨g, 0 + i * 4 + t, none⟩).isSome = true ∧ w.drew.frozen? ⟨g, 0 + i * 4 + t, none⟩ = false) := Lib.hid (by
    intro t ht
    rw [hnl] at ht
    rw [Nat.zero_add]
    exact ⟨by rw [hcell _ (by omega)]; rfl, hfz _⟩)
  obtain ⟨W1, hW1⟩ : ∃ W1, W1 = w.drew.setCells g (0 + i * 4) news := ⟨_, rfl⟩
  have hr1 := rowIs_setCells news (0 + i * 4) w.drew f hrowd
  rw [← hW1] at hr1
  have hcl : ∀ ty, (Builtin.clear_ #[22] ty #[.slice (some ⟨g, (i + m) * 4, none⟩) 1 (cap - (i + m))]).run Try.prog W1 = .ok (.tuple #[]) (W1.setCells g ((i + m) * 4) [.int .i64 0, .int .i64 0, .string ⟨#[]⟩, .int .i64 0]) := fun ty => by
    obtain ⟨cur, h1, h2, h3⟩ := hr1
    exact run_clear_one W1 ty g ((i + m) * 4) _ (fun j hj => by rw [cell_of_row W1 g _ cur _ (0, 0) h1, h3 _ (by omega)]; rfl) (fun j _ => by rw [hW1, World.frozen?_setCells]; exact hfz _)
  have hr2 := rowIs_setCells [.int .i64 0, .int .i64 0, .string ⟨#[]⟩, .int .i64 0] ((i + m) * 4) W1 _ hr1
  have HF : Hid ((W1.setCells g ((i + m) * 4) [.int .i64 0, .int .i64 0, .string ⟨#[]⟩, .int .i64 0]).ownsRow base 37 4 (.slice (some ⟨g, 0, none⟩) (i + m) cap) (i + m) (tv (ts.take i ++ ts.drop (i + 1))) ∧ Below base W0 (W1.setCells g ((i + m) * 4) [.int .i64 0, .int .i64 0, .string ⟨#[]⟩, .int .i64 0])) := Lib.hid ⟨own_rowIs hr2 (by rw [tv_length, List.length_append, List.length_take, List.length_drop]; omega) (fun j hj => by
      rw [if_neg (by omega)]
      rw [tv_app, ← hnews]
      have hl1 : (tv (ts.take i)).length = i * 4 := by rw [tv_length, List.length_take]; omega
      by_cases h : j < i * 4
      · rw [if_neg (by omega), List.getElem?_append_left (by omega), tv_take, List.getElem?_take, if_pos h, hf j (by omega)]
      · rw [if_pos (by omega), List.getElem?_append_right (by omega), hl1, Nat.zero_add, List.getElem?_eq_getElem (by omega)]
        simp) hbg (by omega) (by unfold maxLen; omega), by
      rw [hW1]
      exact below_setCells hbg _ _ _ (below_setCells hbg _ _ _ hB.drew)⟩
  have hW : Hid (W1 = w.drew.setCells g (0 + i * 4) news) := Lib.hid hW1
  have hic : i ≤ cap := by omega
  have hjc : i + 1 ≤ cap := by omega
  have hmn : n - (i + 1) = m := by omega
  have h1n : n - (i + m) = 1 := by omega
  have hin : (i : Int) + 1 ≤ (n : Int) := by omega
  have h0i : (0 : Int) ≤ (i : Int) + 1 := by omega
  have hne : ((i : Int) == (i : Int) + 1) = false := beq_eq_false_iff_ne.2 (by omega)
  have him : (i : Int) + (m : Int) ≤ (n : Int) := by omega
  have t1 : ((i : Int) + 1).toNat = i + 1 := by omega
  have hcc : cap - (i + 1) + (i + 1) = cap := by omega
  clear hW1 hr1 hr2 hrow hrowd hcell hfz hnews hnl hf hown hB hlen hn
  go_enter Try.func68, Try.ntmps68
  go_wp2_with fail
  go_region_law (refine step_append_room rfl (.tmp 22) (.tmp 25) 22 rfl 37 i0 4 Try.underlying22 hi0 hz1 g 0 i cap (by simp [Act.eval, Act.put]) A m (cap - (i + 1)) news (by simp [Act.eval, Act.put]) s1.out hsrc.out s2.out (by omega) s3.out ?_; rw [← hW.out])
  go_wp2_with fail
  go_ret
  exact ⟨rfl, HF.out⟩

end Go.Proofs.Yteddendidjhmbaa
