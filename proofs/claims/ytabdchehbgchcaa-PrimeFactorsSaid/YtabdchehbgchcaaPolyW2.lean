/- The walks of package poly, continued: the exported functions on arguments that are in their bounds, and the errors. -/
import Derived.Test.YtabdchehbgchcaaPolyW
import Derived.Test.YtabdchehbgchcaaG3
namespace Go.Proofs.Ytabdchehbgchcaa
open Go.RowKit

set_option maxHeartbeats 400000 in
theorem Deg_ok (a : Nat) (w : World) (ha : a ≤ 2147483647) :
    Calls Try.prog 32 #[.int .i64 a] w fun e w' => e = .returned (.tuple #[.int .i64 ((G.L a : Int) - 1), .int .i64 0]) ∧ w = w' := by
  go_enter Try.func32, Try.ntmps32
  go_wp2_with fail
  refine (check_ok a _ (by omega) (by omega)).mono ?_
  rintro e w' ⟨rfl, rfl⟩
  go_wp2_with fail
  refine (deg_any a _ (by omega)).mono ?_
  rintro e w' ⟨rfl, rfl⟩
  go_wp2_with fail
  go_ret2
  exact ⟨rfl, rfl⟩

set_option maxHeartbeats 400000 in
theorem Add_ok (a b : Nat) (w : World) (ha : a ≤ 2147483647) (hb : b ≤ 2147483647) :
    Calls Try.prog 28 #[.int .i64 a, .int .i64 b] w fun e w' => e = .returned (.tuple #[.int .i64 (a ^^^ b : Nat), .int .i64 0]) ∧ w = w' := by
  have hx := i64_xor_nat a b (by omega) (by omega)
  go_enter Try.func28, Try.ntmps28
  go_wp2_with fail
  refine (two_ok a b _ (by omega) (by omega) (by omega) (by omega)).mono ?_
  rintro e w' ⟨rfl, rfl⟩
  go_wp2_with fail
  go_ret2
  exact ⟨rfl, rfl⟩

set_option maxHeartbeats 400000 in
theorem Mul_ok (a b : Nat) (w : World) (ha : a ≤ 2147483647) (hb : b ≤ 2147483647) (hm : G.mul a b ≤ 2147483647) :
    Calls Try.prog 26 #[.int .i64 a, .int .i64 b] w fun e w' => e = .returned (.tuple #[.int .i64 (G.mul a b), .int .i64 0]) ∧ w = w' := by
  go_enter Try.func26, Try.ntmps26
  go_wp2_with fail
  refine (two_ok a b _ (by omega) (by omega) (by omega) (by omega)).mono ?_
  rintro e w' ⟨rfl, rfl⟩
  go_wp2_with fail
  refine (times_any a b _ (by omega) (by omega)).mono ?_
  rintro e w' ⟨rfl, rfl⟩
  go_wp2_with fail
  go_ret2
  exact ⟨rfl, rfl⟩

set_option maxHeartbeats 400000 in
theorem Mul_large (a b : Nat) (w : World) (ha : a ≤ 2147483647) (hb : b ≤ 2147483647) (hm : 2147483647 < G.mul a b) :
    Calls Try.prog 26 #[.int .i64 a, .int .i64 b] w fun e w' => e = .returned (.tuple #[.int .i64 0, .int .i64 2]) ∧ w = w' := by
  go_enter Try.func26, Try.ntmps26
  go_wp2_with fail
  refine (two_ok a b _ (by omega) (by omega) (by omega) (by omega)).mono ?_
  rintro e w' ⟨rfl, rfl⟩
  go_wp2_with fail
  refine (times_any a b _ (by omega) (by omega)).mono ?_
  rintro e w' ⟨rfl, rfl⟩
  go_wp2_with fail
  go_ret2
  exact ⟨rfl, rfl⟩

set_option maxHeartbeats 400000 in
theorem Mul_bad (a b : Int) (w : World) (h : ¬ (0 ≤ a ∧ a ≤ 2147483647 ∧ 0 ≤ b ∧ b ≤ 2147483647)) :
    Calls Try.prog 26 #[.int .i64 a, .int .i64 b] w fun e w' => e = .returned (.tuple #[.int .i64 0, .int .i64 1]) ∧ w = w' := by
  have H := Lib.hid h; clear h
  go_enter Try.func26, Try.ntmps26
  go_wp2_with fail
  refine (two_bad a b _ H.out).mono ?_
  rintro e w' ⟨rfl, rfl⟩
  go_wp2_with fail
  go_ret2
  exact ⟨rfl, rfl⟩

theorem md_le {a m : Nat} (h0 : m ≠ 0) (hm : m ≤ 2147483647) : G.md a m ≤ 2147483647 := by
  have h1 := G.L_md a h0
  have h2 : G.L m ≤ 31 := G.L_le.2 (by omega)
  have h3 : G.md a m < 2 ^ 31 := G.L_le.1 (by omega)
  omega

/-- A quotient is no longer than what is divided. -/
theorem qt_le {a b k : Nat} (h0 : b ≠ 0) (ha : a < 2 ^ k) : G.qt a b < 2 ^ k := by
  have h1 := G.qt_md a h0
  have h2 := G.L_md a h0
  by_cases hq : G.qt a b = 0
  · rw [hq]; exact Nat.two_pow_pos k
  · have h3 := G.L_mul _ _ hq h0
    have hp := G.L_pos.2 h0
    have h4 : G.L (G.md a b) < G.L (G.mul (G.qt a b) b) := by have := G.L_pos.2 hq; omega
    have h5 := G.L_xor_of_gt h4
    rw [h1] at h5
    have h6 : G.L a ≤ k := G.L_le.2 ha
    exact G.L_le.1 (by omega)

set_option maxHeartbeats 400000 in
theorem Div_ok (a b : Nat) (w : World) (ha : a ≤ 2147483647) (hb : b ≤ 2147483647) (h0 : b ≠ 0) :
    Calls Try.prog 34 #[.int .i64 a, .int .i64 b] w fun e w' => e = .returned (.tuple #[.int .i64 (G.qt a b), .int .i64 (G.md a b), .int .i64 0]) ∧ w = w' := by
  have h1 : G.md a b ≤ 2147483647 := md_le h0 hb
  have h2 : G.qt a b < 2147483648 := qt_le (k := 31) h0 (by omega)
  have t : ((b : Int) == 0) = false := by simpa using h0
  have H := Lib.hid h0; clear h0
  go_enter Try.func34, Try.ntmps34
  go_wp2_with fail
  refine (two_ok a b _ (by omega) (by omega) (by omega) (by omega)).mono ?_
  rintro e w' ⟨rfl, rfl⟩
  go_wp2_with fail
  refine (over_any a b _ (by omega) H.out (by omega)).mono ?_
  rintro e w' ⟨rfl, rfl⟩
  go_wp2_with fail
  go_ret3
  exact ⟨rfl, rfl⟩

set_option maxHeartbeats 400000 in
theorem Div_zero (a : Nat) (w : World) (ha : a ≤ 2147483647) :
    Calls Try.prog 34 #[.int .i64 a, .int .i64 0] w fun e w' => e = .returned (.tuple #[.int .i64 0, .int .i64 0, .int .i64 10]) ∧ w = w' := by
  go_enter Try.func34, Try.ntmps34
  go_wp2_with fail
  refine (two_ok a 0 _ (by omega) (by omega) (by omega) (by omega)).mono ?_
  rintro e w' ⟨rfl, rfl⟩
  go_wp2_with fail
  go_ret3
  exact ⟨rfl, rfl⟩

set_option maxHeartbeats 400000 in
theorem Div_bad (a b : Int) (w : World) (h : ¬ (0 ≤ a ∧ a ≤ 2147483647 ∧ 0 ≤ b ∧ b ≤ 2147483647)) :
    Calls Try.prog 34 #[.int .i64 a, .int .i64 b] w fun e w' => e = .returned (.tuple #[.int .i64 0, .int .i64 0, .int .i64 1]) ∧ w = w' := by
  have H := Lib.hid h; clear h
  go_enter Try.func34, Try.ntmps34
  go_wp2_with fail
  refine (two_bad a b _ H.out).mono ?_
  rintro e w' ⟨rfl, rfl⟩
  go_wp2_with fail
  go_ret3
  exact ⟨rfl, rfl⟩

set_option maxHeartbeats 400000 in
theorem ModMul_ok (a b m : Nat) (w : World) (ha : a ≤ 2147483647) (hb : b ≤ 2147483647) (hm : m ≤ 2147483647) (h0 : m ≠ 0) :
    Calls Try.prog 33 #[.int .i64 a, .int .i64 b, .int .i64 m] w fun e w' => e = .returned (.tuple #[.int .i64 (G.md (G.mul a b) m), .int .i64 0]) ∧ w = w' := by
  have h1 : G.md (G.mul a b) m ≤ 2147483647 := md_le h0 hm
  have t : ((m : Int) == 0) = false := by simpa using h0
  have hl := Lib.hid (mul_lt a b ha hb)
  have H := Lib.hid h0; clear h0
  go_enter Try.func33, Try.ntmps33
  go_wp2_with fail
  refine (two_ok a b _ (by omega) (by omega) (by omega) (by omega)).mono ?_
  rintro e w' ⟨rfl, rfl⟩
  go_wp2_with fail
  refine (check_ok m _ (by omega) (by omega)).mono ?_
  rintro e w' ⟨rfl, rfl⟩
  go_wp2_with fail
  refine (times_any a b _ (by omega) (by omega)).mono ?_
  rintro e w' ⟨rfl, rfl⟩
  go_wp2_with fail
  refine (over_any _ m _ (by have := hl.out; omega) H.out (by omega)).mono ?_
  rintro e w' ⟨rfl, rfl⟩
  go_wp2_with fail
  go_ret2
  exact ⟨rfl, rfl⟩

end Go.Proofs.Ytabdchehbgchcaa
