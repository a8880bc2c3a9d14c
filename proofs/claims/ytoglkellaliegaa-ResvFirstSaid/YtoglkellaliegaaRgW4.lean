/- Walks: resv.next, slices.DeleteFunc at registrations, resv.out. -/
import Derived.Test.YtoglkellaliegaaRgW3
import Derived.Test.YtoglkellaliegaaQuW8
namespace Go.Proofs.Ytoglkellaliegaa
open Go.RowKit

/-- A row of the call's own, as a slice. -/
theorem own_slice {w : World} {base n : Nat} {e : TypeId} {v : Value} {ts : List Qu.T} (h : w.ownsRow base e 2 v n (tv ts)) : ∃ a c, v = .slice a n c ∧ TSl w a n c ts := tsl_own h (by have := h.1; rw [tv_length] at this; omega)

theorem grown_cell (w : World) (b i : Nat) (u : Value) : w.grownBy (w.setCell ⟨b, i, none⟩ u) (some b) :=
  Lib.Hx.grownBy_set (Lib.Hx.grownBy_refl _ _) _ rfl u

/-- Another block is written: the row stands. -/
theorem own_set {w : World} {base n : Nat} {e : TypeId} {v : Value} {xs : List Value} (h : w.ownsRow base e 2 v n xs) {b : Nat} (hb : b < base) (i : Nat) (u : Value) : (w.setCell ⟨b, i, none⟩ u).ownsRow base e 2 v n xs :=
  h.kept (grown_cell w b i u) (by
    rcases h.2 with ⟨rfl, -⟩ | ⟨g, cap, cur, rfl, hg, -⟩
    · exact Or.inl rfl
    · right
      show some g ≠ some b
      intro e
      cases e
      omega)

set_option maxRecDepth 100000 in
set_option maxHeartbeats 4000000 in
theorem next_R (g s k h : Int) (a : Option Addr) (n c : Nat) (ts : List Qu.T) (w : World) (hT : TSl w a n c ts) (hn : n ≤ 1000000) (hg0 : 0 ≤ g) (hg1 : g ≤ 1000) (hs0 : 0 ≤ s) (hs1 : s ≤ 1) :
    Calls Try.prog 69 #[.agg #[.int .i64 g, .slice a n c, .int .i64 k, .int .i64 h], .int .i64 s] w fun e w' => ∃ a' c', e = .returned (.agg #[.int .i64 (g + s), .slice a' n c', .int .i64 k, .int .i64 h]) ∧ w'.ownsRow w.heap.size 56 2 (.slice a' n c') n (tv ts) ∧ Below w.heap.size w w' := by
  have HB : ∀ o o', Below w.heap.size w ((w.alloc o).alloc o') := fun o o' => ((Below.refl _ w).alloc (Nat.le_refl _) _).alloc (by rw [World.size_alloc]; omega) _
  have C1 := fun o o' => Clone_R a n c ts ((w.alloc o).alloc o') (hT.keep (HB o o')) (by omega)
  have HR : Hid (∀ T o', R4 ((w.alloc (.cells #[.int .i64 g, .slice a n c, .int .i64 k, .int .i64 h] T)).alloc o') w.heap.size (.int .i64 g) (.slice a n c) (.int .i64 k) (.int .i64 h)) := Lib.hid fun T o' => (r4_new w T _ _ _ _).alloc _
  have HR2 : Hid (∀ o T, R4 ((w.alloc o).alloc (.cells #[.int .i64 0, .slice none 0 0, .int .i64 0, .int .i64 0] T)) (w.heap.size + 1) (.int .i64 0) (.slice none 0 0) (.int .i64 0) (.int .i64 0)) := Lib.hid fun o T => by
    have := r4_new (w.alloc o) T (.int .i64 0) (.slice none 0 0) (.int .i64 0) (.int .i64 0)
    rw [World.size_alloc] at this
    exact this
  have HBB := Lib.hid HB
  clear hT HB
  go_enter Try.func69, Try.ntmps69
  go_wp2_with fail
  with_reducible refine (C1 _ _).mono ?_
  rintro e w1 ⟨v, rfl, hown, hb⟩
  obtain ⟨a', c', rfl, -⟩ := own_slice hown
  have HO : Hid (w1.ownsRow (w.heap.size + 2) 56 2 (.slice a' n c') n (tv ts)) := Lib.hid (by rw [World.size_alloc, World.size_alloc] at hown; exact hown)
  have HB1 := Lib.hid ((HBB.out _ _).trans (hb.mono (HBB.out _ _).size))
  have HX := Lib.hid ((HR.out 49 _).on hb)
  have HY := Lib.hid ((HR2.out _ 49).on hb)
  obtain ⟨hl, c0, c1, c2, c3, z0, z1, z2, z3⟩ := HX.out
  obtain ⟨hl', d0, d1, d2, d3, y0, y1, y2, y3⟩ := HY.out
  clear hown hb C1
  go_wp2_with fail
  refine bodyPost_ret (v := .agg #[.int .i64 (g + s), .slice a' n c', .int .i64 k, .int .i64 h]) ?_ rfl ⟨a', c', rfl, ?_, ?_⟩
  · exact res_cell (p := 4) (B := w.heap.size + 1) rfl rfl ((((HY.out).other _ _ (by omega) _).other _ _ (by omega) _).set _ _ _ _)
  · exact own_low (own_set (own_set (own_set (own_set (own_set (own_set HO.out (by omega) _ _) (by omega) _ _) (by omega) _ _) (by omega) _ _) (by omega) _ _) (by omega) _ _) (by omega)
  · exact ((((((HB1.out.setCell (Nat.le_refl _) _).setCell (Nat.le_refl _) _).setCell (Nat.le_succ _) _).setCell (Nat.le_succ _) _).setCell (Nat.le_succ _) _).setCell (Nat.le_succ _) _)

end Go.Proofs.Ytoglkellaliegaa
