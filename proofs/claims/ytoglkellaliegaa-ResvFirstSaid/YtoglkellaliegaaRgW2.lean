/- Walks: resv.kind, all, who, find, Has, next, free. -/
import Derived.Test.YtoglkellaliegaaRgW
import Derived.Test.YtoglkellaliegaaRgP
namespace Go.Proofs.Ytoglkellaliegaa
open Go.RowKit

set_option maxHeartbeats 1000000 in
theorem all_R (k : Int) (v : Bool) (hv : Rg.all k = v) (w : World) : Calls Try.prog 70 #[.int .i64 k] w fun e w' => e = .returned (.bool v) ∧ w' = w := by
  subst hv
  unfold Rg.all
  rcases h : (k == 7) with _ | _
  all_goals
    go_enter Try.func70, Try.ntmps70
    go_wp2_with fail
    go_ret
    exact ⟨by first | rfl | simp, rfl⟩

set_option maxHeartbeats 1000000 in
theorem who_R (k : Int) (v : Bool) (hv : Rg.who k = v) (w : World) : Calls Try.prog 71 #[.int .i64 k] w fun e w' => e = .returned (.bool v) ∧ w' = w := by
  subst hv
  unfold Rg.who
  rcases h : decide (0 ≤ k) with _ | _
  all_goals
    go_enter Try.func71, Try.ntmps71
    go_wp2_with fail
    go_ret
    exact ⟨by first | rfl | simp, rfl⟩

set_option maxHeartbeats 1000000 in
theorem kind_R (k : Int) (v : Bool) (hv : Rg.kindB k = v) (w : World) : Calls Try.prog 67 #[.int .i64 k] w fun e w' => e = .returned (.bool v) ∧ w' = w := by
  subst hv
  unfold Rg.kindB
  rcases h : (k == 1) with _ | _
  · rcases h2 : (k == 3) with _ | _
    · rcases h3 : decide (5 ≤ k) with _ | _
      all_goals
        go_enter Try.func67, Try.ntmps67
        go_wp2_with fail
        go_ret
        exact ⟨by first | rfl | simp, rfl⟩
    · go_enter Try.func67, Try.ntmps67
      go_wp2_with fail
      go_ret
      exact ⟨by first | rfl | simp, rfl⟩
  · go_enter Try.func67, Try.ntmps67
    go_wp2_with fail
    go_ret
    exact ⟨by first | rfl | simp, rfl⟩

theorem eg_find : ∀ args w, (callFunc 84 args).run Try.prog w = .ok (.enter 84 args) w := enters_of Try.func84 (by kernel_rfl) rfl
theorem eg_out : ∀ args w, (callFunc 86 args).run Try.prog w = .ok (.enter 86 args) w := enters_of Try.func86 (by kernel_rfl) rfl
theorem eg_pre : ∀ args w, (callFunc 79 args).run Try.prog w = .ok (.enter 79 args) w := enters_of Try.func79 (by kernel_rfl) rfl

theorem pred_find (w : World) (B : Nat) (x : Int) (hB : B < w.heap.size) (hc : w.cell? ⟨B, 0, none⟩ = some (.int .i64 x)) : PredT w 84 #[.pointer (some ⟨B, 0, none⟩)] (Qu.tg x) := fun W a b hb => by
  have hc' := (hb.cell (p := ⟨B, 0, none⟩) hB).trans hc
  have hBW : B < W.heap.size := Nat.lt_of_lt_of_le hB hb.size
  have HB := Lib.hid hb
  clear hb hc hB
  show Calls Try.prog 84 #[.agg #[.int .i64 a, .int .i64 b], .pointer (some ⟨B, 0, none⟩)] W _
  go_enter Try.func84, Try.ntmps84
  go_wp2_with fail
  go_ret
  exact ⟨rfl, HB.out.alloc HB.out.size _⟩

theorem pred_pre (w : World) (B : Nat) (x : Int) (hB : B < w.heap.size) (hc : w.cell? ⟨B, 0, none⟩ = some (.int .i64 x)) : PredT w 79 #[.pointer (some ⟨B, 0, none⟩)] (Rg.kg x) := fun W a b hb => by
  have hc' := (hb.cell (p := ⟨B, 0, none⟩) hB).trans hc
  have hBW : B < W.heap.size := Nat.lt_of_lt_of_le hB hb.size
  have HB := Lib.hid hb
  clear hb hc hB
  show Calls Try.prog 79 #[.agg #[.int .i64 a, .int .i64 b], .pointer (some ⟨B, 0, none⟩)] W _
  go_enter Try.func79, Try.ntmps79
  go_wp2_with fail
  go_ret
  exact ⟨rfl, HB.out.alloc HB.out.size _⟩

theorem pred_out (_w : World) (B : Nat) (x : Int) (W : World) (a b : Int) (hB : B < W.heap.size) (hc' : W.cell? ⟨B, 0, none⟩ = some (.int .i64 x)) :
    Calls Try.prog 86 (#[.agg #[.int .i64 a, .int .i64 b]] ++ #[.pointer (some ⟨B, 0, none⟩)]) W fun e w' => e = .returned (.bool (Qu.tg x (a, b))) ∧ Below W.heap.size W w' := by
  show Calls Try.prog 86 #[.agg #[.int .i64 a, .int .i64 b], .pointer (some ⟨B, 0, none⟩)] W _
  go_enter Try.func86, Try.ntmps86
  go_wp2_with fail
  go_ret
  exact ⟨rfl, (Below.refl _ _).alloc (Nat.le_refl _) _⟩

set_option maxHeartbeats 2000000 in
theorem find_R (g k h x : Int) (a : Option Addr) (n c : Nat) (ts : List Qu.T) (w : World) (hT : TSl w a n c ts) (hn : n ≤ 1000000) :
    Calls Try.prog 72 #[.agg #[.int .i64 g, .slice a n c, .int .i64 k, .int .i64 h], .int .i64 x] w fun e w' => e = .returned (.int .i64 (idx (Qu.tg x) ts)) ∧ Below w.heap.size w w' := by
  have HB : ∀ o T, Below w.heap.size w ((w.alloc o).alloc (.cells #[.int .i64 x] T)) := fun o T => ((Below.refl _ w).alloc (Nat.le_refl _) _).alloc (by rw [World.size_alloc]; omega) _
  have I1 := fun o T => IndexFunc_R a c ts _ _ _ ((w.alloc o).alloc (.cells #[.int .i64 x] T)) (by rw [hT.len]; omega) eg_find (hT.keep (HB o T)).at_ (pred_find ((w.alloc o).alloc (.cells #[.int .i64 x] T)) (w.heap.size + 1) x (by rw [World.size_alloc, World.size_alloc]; omega) (by have := cell_new (w.alloc o) (T := T) (xs := #[.int .i64 x]) (k := 0) rfl; rw [World.size_alloc] at this; exact this))
  rw [hT.len] at I1
  have HBB := Lib.hid HB
  clear hT HB
  go_enter Try.func72, Try.ntmps72
  go_wp2_with fail
  with_reducible refine (I1 _ _).mono ?_
  rintro e w' ⟨rfl, hb⟩
  have HF := Lib.hid ((HBB.out _ _).trans (hb.mono (HBB.out _ _).size))
  clear hb
  go_wp2_with fail
  go_ret
  exact ⟨rfl, HF.out⟩

end Go.Proofs.Ytoglkellaliegaa
