/- Walks: resv.Has, next, free. -/
import Derived.Test.YtoglkellaliegaaRgW2
namespace Go.Proofs.Ytoglkellaliegaa
open Go.RowKit

theorem idx_has {ts : List Qu.T} {x : Int} : decide (0 ≤ idx (Qu.tg x) ts) = Qu.has ts x := idx_any _ _

set_option maxRecDepth 100000 in
set_option maxHeartbeats 4000000 in
theorem Has_R (g k h x : Int) (a : Option Addr) (n c : Nat) (ts : List Qu.T) (v : Bool) (hv : Rg.hasR ts k h x = v) (w : World) (hT : TSl w a n c ts) (hn : n ≤ 1000000) :
    Calls Try.prog 68 #[.agg #[.int .i64 g, .slice a n c, .int .i64 k, .int .i64 h], .int .i64 x] w fun e w' => e = .returned (.bool v) ∧ Below w.heap.size w w' := by
  subst hv
  unfold Rg.hasR
  have HB : ∀ o, Below w.heap.size w (w.alloc o) := fun o => (Below.refl _ w).alloc (Nat.le_refl _) _
  have HBB := Lib.hid HB
  by_cases h0 : k = 0
  · subst h0
    clear hT HB
    go_enter Try.func68, Try.ntmps68
    go_wp2_with fail
    go_ret
    exact ⟨rfl, HBB.out _⟩
  · have e0 : (k != 0) = true := bne_iff_ne.2 h0
    rw [if_neg h0]
    rcases ha : Rg.all k with _ | _
    · have A1 := fun w => all_R k false ha w
      clear hT HB ha h0
      go_enter Try.func68, Try.ntmps68
      go_wp2_with fail
      with_reducible refine (A1 _).mono ?_
      rintro e w1 ⟨rfl, rfl⟩
      go_wp2_with (with_reducible refine (A1 _).mono ?_; rintro e w1 ⟨rfl, rfl⟩)
      go_ret
      exact ⟨rfl, HBB.out _⟩
    · have A1 := fun w => all_R k true ha w
      have F1 := fun o => find_R g k h x a n c ts (w.alloc o) (hT.keep (HB o)) hn
      have HI : Hid (decide (0 ≤ idx (Qu.tg x) ts) = Qu.has ts x) := Lib.hid idx_has
      rw [if_pos rfl, ← idx_has]
      generalize idx (Qu.tg x) ts = i at *
      clear hT HB ha h0 HI
      rcases hi : decide (0 ≤ i) with _ | _
      all_goals
        go_enter Try.func68, Try.ntmps68
        go_wp2_with fail
        with_reducible refine (A1 _).mono ?_
        rintro e w1 ⟨rfl, rfl⟩
        go_wp2_with fail
        with_reducible refine (F1 _).mono ?_
        rintro e w2 ⟨rfl, hb⟩
        have HF := Lib.hid ((HBB.out _).trans (hb.mono (HBB.out _).size))
        have hs := hb.size
        have hc := hb.cell (p := ⟨w.heap.size, 2, none⟩) (by rw [World.size_alloc]; exact Nat.lt_succ_self _)
        rw [cell_new w (k := 2) rfl] at hc
        rw [World.size_alloc] at hs
        clear hb
        go_wp2_with (with_reducible refine (A1 _).mono ?_; rintro e w1 ⟨rfl, rfl⟩)
        go_ret
        exact ⟨rfl, HF.out⟩

/-- A reservation's cells. -/
structure R4 (W : World) (B : Nat) (v0 v1 v2 v3 : Value) : Prop where
  lt : B < W.heap.size
  c0 : W.cell? ⟨B, 0, none⟩ = some v0
  c1 : W.cell? ⟨B, 1, none⟩ = some v1
  c2 : W.cell? ⟨B, 2, none⟩ = some v2
  c3 : W.cell? ⟨B, 3, none⟩ = some v3
  z0 : W.frozen? ⟨B, 0, none⟩ = false
  z1 : W.frozen? ⟨B, 1, none⟩ = false
  z2 : W.frozen? ⟨B, 2, none⟩ = false
  z3 : W.frozen? ⟨B, 3, none⟩ = false

theorem r4_new (w : World) (T : TypeId) (v0 v1 v2 v3 : Value) : R4 (w.alloc (.cells #[v0, v1, v2, v3] T)) w.heap.size v0 v1 v2 v3 := by
  have h : (w.alloc (.cells #[v0, v1, v2, v3] T)).heap[w.heap.size]? = some (.cells #[v0, v1, v2, v3] T) := by show (w.heap.push _)[w.heap.size]? = _; rw [Array.getElem?_push, if_pos rfl]
  have hz : ∀ j, (w.alloc (.cells #[v0, v1, v2, v3] T)).frozen? ⟨w.heap.size, j, none⟩ = false := fun j => by
    unfold World.frozen?
    rw [h]
    simp
  exact ⟨by rw [World.size_alloc]; exact Nat.lt_succ_self _, cell_new w (k := 0) rfl, cell_new w (k := 1) rfl, cell_new w (k := 2) rfl, cell_new w (k := 3) rfl, hz 0, hz 1, hz 2, hz 3⟩

/-- It stands where its block stands. -/
theorem R4.block {W W' : World} {B : Nat} {v0 v1 v2 v3 : Value} (h : R4 W B v0 v1 v2 v3) (hs : B < W'.heap.size) (hb : W'.heap[B]? = W.heap[B]?) : R4 W' B v0 v1 v2 v3 := by
  have hc : ∀ j, W'.cell? ⟨B, j, none⟩ = W.cell? ⟨B, j, none⟩ := fun j => by unfold World.cell?; rw [hb]
  have hz : ∀ j, W'.frozen? ⟨B, j, none⟩ = W.frozen? ⟨B, j, none⟩ := fun j => by unfold World.frozen?; rw [hb]
  exact ⟨hs, by rw [hc]; exact h.c0, by rw [hc]; exact h.c1, by rw [hc]; exact h.c2, by rw [hc]; exact h.c3, by rw [hz]; exact h.z0, by rw [hz]; exact h.z1, by rw [hz]; exact h.z2, by rw [hz]; exact h.z3⟩

theorem R4.on {W W' : World} {B : Nat} {v0 v1 v2 v3 : Value} (h : R4 W B v0 v1 v2 v3) (hb : Below W.heap.size W W') : R4 W' B v0 v1 v2 v3 := h.block (Nat.lt_of_lt_of_le h.lt hb.size) (hb.block B h.lt)
theorem R4.grown {W W' : World} {B : Nat} {v0 v1 v2 v3 : Value} {row : Option Nat} (h : R4 W B v0 v1 v2 v3) (hg : W.grownBy W' row) (hr : some B ≠ row) : R4 W' B v0 v1 v2 v3 := h.block (Nat.lt_of_lt_of_le h.lt hg.size) (hg.block B h.lt hr)
theorem R4.alloc {W : World} {B : Nat} {v0 v1 v2 v3 : Value} (h : R4 W B v0 v1 v2 v3) (o : Obj) : R4 (W.alloc o) B v0 v1 v2 v3 := h.on ((Below.refl _ W).alloc (Nat.le_refl _) _)
theorem R4.drew {W : World} {B : Nat} {v0 v1 v2 v3 : Value} (h : R4 W B v0 v1 v2 v3) : R4 W.drew B v0 v1 v2 v3 := h.on (Below.refl _ W).drew

theorem frozen_setCell (W : World) (a b : Addr) (v : Value) : (W.setCell a v).frozen? b = W.frozen? b := by
  exact World.frozen?_setCell _ _ _ _

/-- It is written anew. -/
theorem R4.set {W : World} {B : Nat} {v0 v1 v2 v3 : Value} (h : R4 W B v0 v1 v2 v3) (u0 u1 u2 u3 : Value) : R4 ((((W.setCell ⟨B, 0, none⟩ u0).setCell ⟨B, 1, none⟩ u1).setCell ⟨B, 2, none⟩ u2).setCell ⟨B, 3, none⟩ u3) B u0 u1 u2 u3 := by
  have o : ∀ (W : World) (i j : Nat) (v : Value), i ≠ j → (W.setCell ⟨B, i, none⟩ v).cell? ⟨B, j, none⟩ = W.cell? ⟨B, j, none⟩ := fun W i j v hij => World.cell?_setCell_other _ _ _ _ (by simp only [ne_eq, Addr.mk.injEq, not_and]; omega)
  refine ⟨by rw [World.size_setCell, World.size_setCell, World.size_setCell, World.size_setCell]; exact h.lt, ?_, ?_, ?_, ?_, ?_, ?_, ?_, ?_⟩
  · rw [o _ _ _ _ (by decide), o _ _ _ _ (by decide), o _ _ _ _ (by decide)]; exact World.cell?_setCell_same _ _ _ h.c0
  · rw [o _ _ _ _ (by decide), o _ _ _ _ (by decide)]; exact World.cell?_setCell_same _ _ _ (by rw [o _ _ _ _ (by decide)]; exact h.c1)
  · rw [o _ _ _ _ (by decide)]; exact World.cell?_setCell_same _ _ _ (by rw [o _ _ _ _ (by decide), o _ _ _ _ (by decide)]; exact h.c2)
  · exact World.cell?_setCell_same _ _ _ (by rw [o _ _ _ _ (by decide), o _ _ _ _ (by decide), o _ _ _ _ (by decide)]; exact h.c3)
  all_goals simp only [frozen_setCell]
  · exact h.z0
  · exact h.z1
  · exact h.z2
  · exact h.z3

/-- Another box is written. -/
theorem R4.other {W : World} {B : Nat} {v0 v1 v2 v3 : Value} (h : R4 W B v0 v1 v2 v3) (b i : Nat) (hb : b ≠ B) (u : Value) : R4 (W.setCell ⟨b, i, none⟩ u) B v0 v1 v2 v3 := by
  have o : ∀ (j : Nat), (W.setCell ⟨b, i, none⟩ u).cell? ⟨B, j, none⟩ = W.cell? ⟨B, j, none⟩ := fun j => World.cell?_setCell_other _ _ _ _ (by simp only [ne_eq, Addr.mk.injEq, not_and]; omega)
  exact ⟨by rw [World.size_setCell]; exact h.lt, by rw [o]; exact h.c0, by rw [o]; exact h.c1, by rw [o]; exact h.c2, by rw [o]; exact h.c3, by rw [frozen_setCell]; exact h.z0, by rw [frozen_setCell]; exact h.z1, by rw [frozen_setCell]; exact h.z2, by rw [frozen_setCell]; exact h.z3⟩

theorem R4.set0 {W : World} {B : Nat} {v0 v1 v2 v3 : Value} (h : R4 W B v0 v1 v2 v3) (u : Value) : R4 (W.setCell ⟨B, 0, none⟩ u) B u v1 v2 v3 := by
  have o : ∀ (j : Nat), j ≠ 0 → (W.setCell ⟨B, 0, none⟩ u).cell? ⟨B, j, none⟩ = W.cell? ⟨B, j, none⟩ := fun j hj => World.cell?_setCell_other _ _ _ _ (by simp only [ne_eq, Addr.mk.injEq, not_and]; omega)
  exact ⟨by rw [World.size_setCell]; exact h.lt, World.cell?_setCell_same _ _ _ h.c0, by rw [o _ (by decide)]; exact h.c1, by rw [o _ (by decide)]; exact h.c2, by rw [o _ (by decide)]; exact h.c3, by rw [frozen_setCell]; exact h.z0, by rw [frozen_setCell]; exact h.z1, by rw [frozen_setCell]; exact h.z2, by rw [frozen_setCell]; exact h.z3⟩
theorem R4.set1 {W : World} {B : Nat} {v0 v1 v2 v3 : Value} (h : R4 W B v0 v1 v2 v3) (u : Value) : R4 (W.setCell ⟨B, 1, none⟩ u) B v0 u v2 v3 := by
  have o : ∀ (j : Nat), j ≠ 1 → (W.setCell ⟨B, 1, none⟩ u).cell? ⟨B, j, none⟩ = W.cell? ⟨B, j, none⟩ := fun j hj => World.cell?_setCell_other _ _ _ _ (by simp only [ne_eq, Addr.mk.injEq, not_and]; omega)
  exact ⟨by rw [World.size_setCell]; exact h.lt, by rw [o _ (by decide)]; exact h.c0, World.cell?_setCell_same _ _ _ h.c1, by rw [o _ (by decide)]; exact h.c2, by rw [o _ (by decide)]; exact h.c3, by rw [frozen_setCell]; exact h.z0, by rw [frozen_setCell]; exact h.z1, by rw [frozen_setCell]; exact h.z2, by rw [frozen_setCell]; exact h.z3⟩

/-- The result that lies in cells. -/
theorem res_cell {fn : Func} {p : Tmp} (hr : fn.results = #[.cell p 49]) {tmps : Array Value} {W : World} {B : Nat} {g k h : Int} {a : Option Addr} {n c : Nat}
    (hp : tmps.getD p undef = .pointer (some ⟨B, 0, none⟩)) (h4 : R4 W B (.int .i64 g) (.slice a n c) (.int .i64 k) (.int .i64 h)) :
    (results fn tmps).run Try.prog W = .ok (.agg #[.int .i64 g, .slice a n c, .int .i64 k, .int .i64 h]) W := by
  obtain ⟨-, c0, c1, c2, c3, -⟩ := h4
  have hp' : tmps[p]?.getD undef = .pointer (some ⟨B, 0, none⟩) := by simpa using hp
  simp [results, hr, hp', go_sem, c0, c1, c2, c3]

theorem res_cell2 {fn : Func} {p q : Tmp} (hr : fn.results = #[.cell p 49, .tmp q]) {tmps : Array Value} {W : World} {B : Nat} {g k h : Int} {a : Option Addr} {n c : Nat} {v : Value}
    (hp : tmps.getD p undef = .pointer (some ⟨B, 0, none⟩)) (hq : tmps.getD q undef = v) (h4 : R4 W B (.int .i64 g) (.slice a n c) (.int .i64 k) (.int .i64 h)) :
    (results fn tmps).run Try.prog W = .ok (.tuple #[.agg #[.int .i64 g, .slice a n c, .int .i64 k, .int .i64 h], v]) W := by
  obtain ⟨-, c0, c1, c2, c3, -⟩ := h4
  rw [results_cell_tmp hr, hp, hq]
  go_simp

set_option maxRecDepth 100000 in
set_option maxHeartbeats 2000000 in
theorem free_R (g k h : Int) (a : Option Addr) (n c : Nat) (w : World) :
    Calls Try.prog 77 #[.agg #[.int .i64 g, .slice a n c, .int .i64 k, .int .i64 h]] w fun e w' => e = .returned (.agg #[.int .i64 g, .slice a n c, .int .i64 0, .int .i64 0]) ∧ Below w.heap.size w w' := by
  go_enter Try.func77, Try.ntmps77
  go_wp2_with fail
  refine bodyPost_ret (v := .agg #[.int .i64 g, .slice a n c, .int .i64 0, .int .i64 0]) ?_ rfl ⟨rfl, ?_⟩
  · exact res_cell (p := 2) (B := w.heap.size + 1) rfl rfl (by have := r4_new (w.alloc (.cells #[.int .i64 g, .slice a n c, .int .i64 0, .int .i64 0] 49)) 49 (.int .i64 g) (.slice a n c) (.int .i64 0) (.int .i64 0); rw [World.size_alloc] at this; exact this)
  · exact ((Below.refl _ w).alloc (Nat.le_refl _) _).alloc (by rw [World.size_alloc]; omega) _

end Go.Proofs.Ytoglkellaliegaa
