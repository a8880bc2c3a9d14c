/- The walks of package poly, continued: the exported functions on arguments that are in their bounds, and the errors. -/
import Derived.Test.YtnbdceigenndfaaPolyW
import Derived.Test.YtnbdceigenndfaaG3
namespace Go.Proofs.Ytnbdceigenndfaa
open Go.RowKit

set_option maxHeartbeats 400000 in
theorem Deg_ok (a : Nat) (w : World) (ha : a ≤ 2147483647) :
    Calls Try.prog 28 #[.int .i64 a] w fun e w' => e = .returned (.tuple #[.int .i64 ((G.L a : Int) - 1), .int .i64 0]) ∧ w = w' := by
  go_enter Try.func28, Try.ntmps28
  go_wp2_with fail
  refine (check_ok a _ (by omega) (by omega)).mono ?_
  rintro e w' ⟨rfl, rfl⟩
  go_wp2_with fail
  refine (deg_any a _ (by omega)).mono ?_
  rintro e w' ⟨rfl, rfl⟩
  go_wp2_with fail
  go_ret2
  exact ⟨rfl, rfl⟩

set_option maxHeartbeats 400000 in
theorem Div_ok (a b : Nat) (w : World) (ha : a ≤ 2147483647) (hb : b ≤ 2147483647) (h0 : b ≠ 0) :
    Calls Try.prog 29 #[.int .i64 a, .int .i64 b] w fun e w' => e = .returned (.tuple #[.int .i64 (G.qt a b), .int .i64 (G.md a b), .int .i64 0]) ∧ w = w' := by
  have h1 : G.md a b ≤ 2147483647 := md_le h0 hb
  have h2 : G.qt a b < 2147483648 := qt_le (k := 31) h0 (by omega)
  have t : ((b : Int) == 0) = false := by simpa using h0
  have H := Lib.hid h0; clear h0
  go_enter Try.func29, Try.ntmps29
  go_wp2_with fail
  refine (two_ok a b _ (by omega) (by omega) (by omega) (by omega)).mono ?_
  rintro e w' ⟨rfl, rfl⟩
  go_wp2_with fail
  refine (over_any a b _ (by omega) H.out (by omega)).mono ?_
  rintro e w' ⟨rfl, rfl⟩
  go_wp2_with fail
  go_ret3
  exact ⟨rfl, rfl⟩

set_option maxHeartbeats 400000 in
theorem Div_zero (a : Nat) (w : World) (ha : a ≤ 2147483647) :
    Calls Try.prog 29 #[.int .i64 a, .int .i64 0] w fun e w' => e = .returned (.tuple #[.int .i64 0, .int .i64 0, .int .i64 10]) ∧ w = w' := by
  go_enter Try.func29, Try.ntmps29
  go_wp2_with fail
  refine (two_ok a 0 _ (by omega) (by omega) (by omega) (by omega)).mono ?_
  rintro e w' ⟨rfl, rfl⟩
  go_wp2_with fail
  go_ret3
  exact ⟨rfl, rfl⟩

set_option maxHeartbeats 400000 in
theorem Div_bad (a b : Int) (w : World) (h : ¬ (0 ≤ a ∧ a ≤ 2147483647 ∧ 0 ≤ b ∧ b ≤ 2147483647)) :
    Calls Try.prog 29 #[.int .i64 a, .int .i64 b] w fun e w' => e = .returned (.tuple #[.int .i64 0, .int .i64 0, .int .i64 1]) ∧ w = w' := by
  have H := Lib.hid h; clear h
  go_enter Try.func29, Try.ntmps29
  go_wp2_with fail
  refine (two_bad a b _ H.out).mono ?_
  rintro e w' ⟨rfl, rfl⟩
  go_wp2_with fail
  go_ret3
  exact ⟨rfl, rfl⟩

end Go.Proofs.Ytnbdceigenndfaa
