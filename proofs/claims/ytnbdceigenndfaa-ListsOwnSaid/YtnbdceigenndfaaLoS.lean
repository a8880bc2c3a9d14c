/- Walks of spoil at tokens and at steps. -/
import Derived.Test.YtnbdceigenndfaaLoG
import Derived.OwnWalk
namespace Go.Proofs.Ytnbdceigenndfaa
open Go.RowKit

set_option maxRecDepth 100000 in
set_option maxHeartbeats 4000000 in
theorem spoil_k (a : Option Addr) (n c base : Nat) (x0 : Int) (x1 : Int) (x2 : Int) (xs : List Value) (w : World) (ho : w.ownsRow base 49 3 (.slice a n c) n xs) (hc : c ≤ 9223372036854775807) :
    Calls Try.prog 25 #[.slice a n c, .agg #[.int .i64 x0, .int .i64 x1, .int .i64 x2]] w fun e w' => e = .returned (.tuple #[]) ∧ w.grownBy w' (Value.slice a n c).ownBlock := by
  have hx0 : ∀ T, Bxs (w.alloc (.cells #[.int .i64 x0, .int .i64 x1, .int .i64 x2] T)) w.heap.size [.int .i64 x0, .int .i64 x1, .int .i64 x2] := fun T => bxs_new w T _ _ rfl
  have HX := Lib.hid hx0
  have HG : ∀ row, Hid (w.grownBy (w.alloc (.cells #[.int .i64 x0, .int .i64 x1, .int .i64 x2] 49)) row) := fun row => Lib.hid (World.grownBy_alloc w _ row)
  clear hx0
  rcases ho.2 with ⟨hv, -⟩ | ⟨g, cap', cur, hv, -⟩
  · cases hv
    clear ho
    go_enter Try.func25, Try.ntmps25
    go_wp2_with fail
    go_loopw [11] (fun v wr => v = .int .i64 0 ∧ Hid (w.grownBy wr none)) (fun _ _ => 0)
    case atStart => exact ⟨rfl, HG none⟩
    case round =>
      obtain ⟨rfl, G⟩ := hrel
      go_wp2_with fail
      go_end0
      exact ⟨rfl, G.out⟩
  · cases hv
    obtain ⟨f, hrow, -, -, hnc, -⟩ := lo_rowAny ho
    have hgw := lo_rowLt hrow
    have HR := Lib.hid (lo_rowOn hrow ((Below.refl _ w).alloc (Nat.le_refl _) (.cells #[.int .i64 x0, .int .i64 x1, .int .i64 x2] 49)))
    have hgB : g ≠ w.heap.size := by omega
    clear ho hrow
    go_enter Try.func25, Try.ntmps25
    go_wp2_with fail
    go_loopw [11] (fun v wr => ∃ (k : Nat) (f : Nat → Value), k ≤ c ∧ v = .int .i64 k ∧ Hid (wr.rowIs g 49 (c * 3) f) ∧ Hid (Bxs wr w.heap.size [.int .i64 x0, .int .i64 x1, .int .i64 x2]) ∧ Hid (w.grownBy wr (some g))) (fun v _ => c - (intOf v).toNat)
    case atStart => exact ⟨0, f, Nat.zero_le _, rfl, HR, Lib.hid (HX.out _), HG _⟩
    case round =>
      obtain ⟨k, f, hk, rfl, R, B, G⟩ := hrel
      by_cases hlt : k < c
      · have d0 := B.out.c 0 _ rfl; have d1 := B.out.c 1 _ rfl; have d2 := B.out.c 2 _ rfl
        have c0 := World.rowIs.cell R.out (show k * 3 < c * 3 by omega); have c1 := World.rowIs.cell R.out (show k * 3 + 1 < c * 3 by omega); have c2 := World.rowIs.cell R.out (show k * 3 + 2 < c * 3 by omega)
        have z0 := World.rowIs.frozen R.out (k * 3); have z1 := World.rowIs.frozen R.out (k * 3 + 1); have z2 := World.rowIs.frozen R.out (k * 3 + 2)
        have HR' := Lib.hid (lo_rowSet (lo_rowSet (lo_rowSet R.out (k * 3) (.int .i64 x0)) (k * 3 + 1) (.int .i64 x1)) (k * 3 + 2) (.int .i64 x2))
        have HB' := Lib.hid ((((B.out.other (i := k * 3) hgB (.int .i64 x0)).other (i := k * 3 + 1) hgB (.int .i64 x1)).other (i := k * 3 + 2) hgB (.int .i64 x2)))
        have HG' := Lib.hid (lo_grownSet (lo_grownSet (lo_grownSet G.out (k * 3) (.int .i64 x0)) (k * 3 + 1) (.int .i64 x1)) (k * 3 + 2) (.int .i64 x2))
        generalize f (k * 3) = f0 at *
        generalize f (k * 3 + 1) = f1 at *
        generalize f (k * 3 + 2) = f2 at *
        go_wp2_with fail
        go_roundw
        case rel => exact ⟨k + 1, _, by omega, by go_num, HR', HB', HG'⟩
        case measure => simp [intOf]; omega
      · obtain rfl : k = c := by omega
        go_wp2_with fail
        go_end0
        exact ⟨rfl, G.out⟩

set_option maxRecDepth 100000 in
set_option maxHeartbeats 4000000 in
theorem spoil_t (a : Option Addr) (n c base : Nat) (x0 : Bool) (x1 : Int) (xs : List Value) (w : World) (ho : w.ownsRow base 52 2 (.slice a n c) n xs) (hc : c ≤ 9223372036854775807) :
    Calls Try.prog 26 #[.slice a n c, .agg #[.bool x0, .int .i64 x1]] w fun e w' => e = .returned (.tuple #[]) ∧ w.grownBy w' (Value.slice a n c).ownBlock := by
  have hx0 : ∀ T, Bxs (w.alloc (.cells #[.bool x0, .int .i64 x1] T)) w.heap.size [.bool x0, .int .i64 x1] := fun T => bxs_new w T _ _ rfl
  have HX := Lib.hid hx0
  have HG : ∀ row, Hid (w.grownBy (w.alloc (.cells #[.bool x0, .int .i64 x1] 52)) row) := fun row => Lib.hid (World.grownBy_alloc w _ row)
  clear hx0
  rcases ho.2 with ⟨hv, -⟩ | ⟨g, cap', cur, hv, -⟩
  · cases hv
    clear ho
    go_enter Try.func26, Try.ntmps26
    go_wp2_with fail
    go_loopw [11] (fun v wr => v = .int .i64 0 ∧ Hid (w.grownBy wr none)) (fun _ _ => 0)
    case atStart => exact ⟨rfl, HG none⟩
    case round =>
      obtain ⟨rfl, G⟩ := hrel
      go_wp2_with fail
      go_end0
      exact ⟨rfl, G.out⟩
  · cases hv
    obtain ⟨f, hrow, -, -, hnc, -⟩ := lo_rowAny ho
    have hgw := lo_rowLt hrow
    have HR := Lib.hid (lo_rowOn hrow ((Below.refl _ w).alloc (Nat.le_refl _) (.cells #[.bool x0, .int .i64 x1] 52)))
    have hgB : g ≠ w.heap.size := by omega
    clear ho hrow
    go_enter Try.func26, Try.ntmps26
    go_wp2_with fail
    go_loopw [11] (fun v wr => ∃ (k : Nat) (f : Nat → Value), k ≤ c ∧ v = .int .i64 k ∧ Hid (wr.rowIs g 52 (c * 2) f) ∧ Hid (Bxs wr w.heap.size [.bool x0, .int .i64 x1]) ∧ Hid (w.grownBy wr (some g))) (fun v _ => c - (intOf v).toNat)
    case atStart => exact ⟨0, f, Nat.zero_le _, rfl, HR, Lib.hid (HX.out _), HG _⟩
    case round =>
      obtain ⟨k, f, hk, rfl, R, B, G⟩ := hrel
      by_cases hlt : k < c
      · have d0 := B.out.c 0 _ rfl; have d1 := B.out.c 1 _ rfl
        have c0 := World.rowIs.cell R.out (show k * 2 < c * 2 by omega); have c1 := World.rowIs.cell R.out (show k * 2 + 1 < c * 2 by omega)
        have z0 := World.rowIs.frozen R.out (k * 2); have z1 := World.rowIs.frozen R.out (k * 2 + 1)
        have HR' := Lib.hid (lo_rowSet (lo_rowSet R.out (k * 2) (.bool x0)) (k * 2 + 1) (.int .i64 x1))
        have HB' := Lib.hid (((B.out.other (i := k * 2) hgB (.bool x0)).other (i := k * 2 + 1) hgB (.int .i64 x1)))
        have HG' := Lib.hid (lo_grownSet (lo_grownSet G.out (k * 2) (.bool x0)) (k * 2 + 1) (.int .i64 x1))
        generalize f (k * 2) = f0 at *
        generalize f (k * 2 + 1) = f1 at *
        go_wp2_with fail
        go_roundw
        case rel => exact ⟨k + 1, _, by omega, by go_num, HR', HB', HG'⟩
        case measure => simp [intOf]; omega
      · obtain rfl : k = c := by omega
        go_wp2_with fail
        go_end0
        exact ⟨rfl, G.out⟩

end Go.Proofs.Ytnbdceigenndfaa
