/- The walks of package poly, continued: the exported functions on arguments that are in their bounds, and the errors. -/
import Derived.Test.YtabhlmbhfbpceaaPolyW
import Derived.Test.YtabhlmbhfbpceaaG3
namespace Go.Proofs.Ytabhlmbhfbpceaa
open Go.RowKit

set_option maxHeartbeats 400000 in
theorem Deg_ok (a : Nat) (w : World) (ha : a ≤ 2147483647) :
    Calls Try.prog 11 #[.int .i64 a] w fun e w' => e = .returned (.tuple #[.int .i64 ((G.L a : Int) - 1), .int .i64 0]) ∧ w = w' := by
  go_enter Try.func11, Try.ntmps11
  go_wp2_with fail
  refine (check_ok a _ (by omega) (by omega)).mono ?_
  rintro e w' ⟨rfl, rfl⟩
  go_wp2_with fail
  refine (deg_any a _ (by omega)).mono ?_
  rintro e w' ⟨rfl, rfl⟩
  go_wp2_with fail
  go_ret2
  exact ⟨rfl, rfl⟩

set_option maxHeartbeats 400000 in
theorem Mul_ok (a b : Nat) (w : World) (ha : a ≤ 2147483647) (hb : b ≤ 2147483647) (hm : G.mul a b ≤ 2147483647) :
    Calls Try.prog 8 #[.int .i64 a, .int .i64 b] w fun e w' => e = .returned (.tuple #[.int .i64 (G.mul a b), .int .i64 0]) ∧ w = w' := by
  go_enter Try.func8, Try.ntmps8
  go_wp2_with fail
  refine (two_ok a b _ (by omega) (by omega) (by omega) (by omega)).mono ?_
  rintro e w' ⟨rfl, rfl⟩
  go_wp2_with fail
  refine (times_any a b _ (by omega) (by omega)).mono ?_
  rintro e w' ⟨rfl, rfl⟩
  go_wp2_with fail
  go_ret2
  exact ⟨rfl, rfl⟩

set_option maxHeartbeats 400000 in
theorem Mul_large (a b : Nat) (w : World) (ha : a ≤ 2147483647) (hb : b ≤ 2147483647) (hm : 2147483647 < G.mul a b) :
    Calls Try.prog 8 #[.int .i64 a, .int .i64 b] w fun e w' => e = .returned (.tuple #[.int .i64 0, .int .i64 2]) ∧ w = w' := by
  go_enter Try.func8, Try.ntmps8
  go_wp2_with fail
  refine (two_ok a b _ (by omega) (by omega) (by omega) (by omega)).mono ?_
  rintro e w' ⟨rfl, rfl⟩
  go_wp2_with fail
  refine (times_any a b _ (by omega) (by omega)).mono ?_
  rintro e w' ⟨rfl, rfl⟩
  go_wp2_with fail
  go_ret2
  exact ⟨rfl, rfl⟩

set_option maxHeartbeats 400000 in
theorem Mul_bad (a b : Int) (w : World) (h : ¬ (0 ≤ a ∧ a ≤ 2147483647 ∧ 0 ≤ b ∧ b ≤ 2147483647)) :
    Calls Try.prog 8 #[.int .i64 a, .int .i64 b] w fun e w' => e = .returned (.tuple #[.int .i64 0, .int .i64 1]) ∧ w = w' := by
  have H := Lib.hid h; clear h
  go_enter Try.func8, Try.ntmps8
  go_wp2_with fail
  refine (two_bad a b _ H.out).mono ?_
  rintro e w' ⟨rfl, rfl⟩
  go_wp2_with fail
  go_ret2
  exact ⟨rfl, rfl⟩

set_option maxHeartbeats 400000 in
theorem Div_ok (a b : Nat) (w : World) (ha : a ≤ 2147483647) (hb : b ≤ 2147483647) (h0 : b ≠ 0) :
    Calls Try.prog 12 #[.int .i64 a, .int .i64 b] w fun e w' => e = .returned (.tuple #[.int .i64 (G.qt a b), .int .i64 (G.md a b), .int .i64 0]) ∧ w = w' := by
  have h1 : G.md a b ≤ 2147483647 := md_le h0 hb
  have h2 : G.qt a b < 2147483648 := qt_le (k := 31) h0 (by omega)
  have t : ((b : Int) == 0) = false := by simpa using h0
  have H := Lib.hid h0; clear h0
  go_enter Try.func12, Try.ntmps12
  go_wp2_with fail
  refine (two_ok a b _ (by omega) (by omega) (by omega) (by omega)).mono ?_
  rintro e w' ⟨rfl, rfl⟩
  go_wp2_with fail
  refine (over_any a b _ (by omega) H.out (by omega)).mono ?_
  rintro e w' ⟨rfl, rfl⟩
  go_wp2_with fail
  go_ret3
  exact ⟨rfl, rfl⟩

set_option maxHeartbeats 400000 in
theorem Div_zero (a : Nat) (w : World) (ha : a ≤ 2147483647) :
    Calls Try.prog 12 #[.int .i64 a, .int .i64 0] w fun e w' => e = .returned (.tuple #[.int .i64 0, .int .i64 0, .int .i64 10]) ∧ w = w' := by
  go_enter Try.func12, Try.ntmps12
  go_wp2_with fail
  refine (two_ok a 0 _ (by omega) (by omega) (by omega) (by omega)).mono ?_
  rintro e w' ⟨rfl, rfl⟩
  go_wp2_with fail
  go_ret3
  exact ⟨rfl, rfl⟩

set_option maxHeartbeats 400000 in
theorem Div_bad (a b : Int) (w : World) (h : ¬ (0 ≤ a ∧ a ≤ 2147483647 ∧ 0 ≤ b ∧ b ≤ 2147483647)) :
    Calls Try.prog 12 #[.int .i64 a, .int .i64 b] w fun e w' => e = .returned (.tuple #[.int .i64 0, .int .i64 0, .int .i64 1]) ∧ w = w' := by
  have H := Lib.hid h; clear h
  go_enter Try.func12, Try.ntmps12
  go_wp2_with fail
  refine (two_bad a b _ H.out).mono ?_
  rintro e w' ⟨rfl, rfl⟩
  go_wp2_with fail
  go_ret3
  exact ⟨rfl, rfl⟩

set_option maxHeartbeats 400000 in
theorem ModMul_ok (a b m : Nat) (w : World) (ha : a ≤ 2147483647) (hb : b ≤ 2147483647) (hm : m ≤ 2147483647) (h0 : m ≠ 0) :
    Calls Try.prog 21 #[.int .i64 a, .int .i64 b, .int .i64 m] w fun e w' => e = .returned (.tuple #[.int .i64 (G.md (G.mul a b) m), .int .i64 0]) ∧ w = w' := by
  have h1 : G.md (G.mul a b) m ≤ 2147483647 := md_le h0 hm
  have t : ((m : Int) == 0) = false := by simpa using h0
  have hl := Lib.hid (mul_lt a b ha hb)
  have H := Lib.hid h0; clear h0
  go_enter Try.func21, Try.ntmps21
  go_wp2_with fail
  refine (two_ok a b _ (by omega) (by omega) (by omega) (by omega)).mono ?_
  rintro e w' ⟨rfl, rfl⟩
  go_wp2_with fail
  refine (check_ok m _ (by omega) (by omega)).mono ?_
  rintro e w' ⟨rfl, rfl⟩
  go_wp2_with fail
  refine (times_any a b _ (by omega) (by omega)).mono ?_
  rintro e w' ⟨rfl, rfl⟩
  go_wp2_with fail
  refine (over_any _ m _ (by have := hl.out; omega) H.out (by omega)).mono ?_
  rintro e w' ⟨rfl, rfl⟩
  go_wp2_with fail
  go_ret2
  exact ⟨rfl, rfl⟩

end Go.Proofs.Ytabhlmbhfbpceaa
