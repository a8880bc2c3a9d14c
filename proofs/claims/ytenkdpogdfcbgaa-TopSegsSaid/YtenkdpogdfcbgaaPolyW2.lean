/- The walks of package poly, continued: the exported functions on arguments that are in their bounds, and the errors. -/
import Derived.Test.YtenkdpogdfcbgaaPolyW
import Derived.Test.YtenkdpogdfcbgaaG3
namespace Go.Proofs.Ytenkdpogdfcbgaa
open Go.RowKit

set_option maxHeartbeats 400000 in
theorem Mul_ok (a b : Nat) (w : World) (ha : a ≤ 2147483647) (hb : b ≤ 2147483647) (hm : G.mul a b ≤ 2147483647) :
    Calls Try.prog 97 #[.int .i64 a, .int .i64 b] w fun e w' => e = .returned (.tuple #[.int .i64 (G.mul a b), .int .i64 0]) ∧ w = w' := by
  go_enter Try.func97, Try.ntmps97
  go_wp2_with fail
  refine (two_ok a b _ (by omega) (by omega) (by omega) (by omega)).mono ?_
  rintro e w' ⟨rfl, rfl⟩
  go_wp2_with fail
  refine (times_any a b _ (by omega) (by omega)).mono ?_
  rintro e w' ⟨rfl, rfl⟩
  go_wp2_with fail
  go_ret2
  exact ⟨rfl, rfl⟩

set_option maxHeartbeats 400000 in
theorem Mul_large (a b : Nat) (w : World) (ha : a ≤ 2147483647) (hb : b ≤ 2147483647) (hm : 2147483647 < G.mul a b) :
    Calls Try.prog 97 #[.int .i64 a, .int .i64 b] w fun e w' => e = .returned (.tuple #[.int .i64 0, .int .i64 2]) ∧ w = w' := by
  go_enter Try.func97, Try.ntmps97
  go_wp2_with fail
  refine (two_ok a b _ (by omega) (by omega) (by omega) (by omega)).mono ?_
  rintro e w' ⟨rfl, rfl⟩
  go_wp2_with fail
  refine (times_any a b _ (by omega) (by omega)).mono ?_
  rintro e w' ⟨rfl, rfl⟩
  go_wp2_with fail
  go_ret2
  exact ⟨rfl, rfl⟩

set_option maxHeartbeats 400000 in
theorem Mul_bad (a b : Int) (w : World) (h : ¬ (0 ≤ a ∧ a ≤ 2147483647 ∧ 0 ≤ b ∧ b ≤ 2147483647)) :
    Calls Try.prog 97 #[.int .i64 a, .int .i64 b] w fun e w' => e = .returned (.tuple #[.int .i64 0, .int .i64 1]) ∧ w = w' := by
  have H := Lib.hid h; clear h
  go_enter Try.func97, Try.ntmps97
  go_wp2_with fail
  refine (two_bad a b _ H.out).mono ?_
  rintro e w' ⟨rfl, rfl⟩
  go_wp2_with fail
  go_ret2
  exact ⟨rfl, rfl⟩

end Go.Proofs.Ytenkdpogdfcbgaa
