/- PrimeProduct: no product of two polynomials of degrees of one or more is irreducible; each of degree one is; for every input. -/
import Derived.Test.YtabdchehbgchcaaAns
namespace Go.Proofs.Ytabdchehbgchcaa
open Go.RowKit

set_option maxRecDepth 100000 in
set_option maxHeartbeats 1000000 in
theorem primeProduct_core (a0 a1 : Int) (w : World) (a b p : Nat) (ha : a < 8192) (hb : b < 8192)
    (i2 : Ans2 38 #[.int .i64 2] (.bool true) (.int .i64 0))
    (i3 : Ans2 38 #[.int .i64 3] (.bool true) (.int .i64 0))
    (i1 : Ans2 38 #[.int .i64 1] (.bool false) (.int .i64 0))
    (h1 : Ans1 27 #[.int .i64 a0, .int .i64 13] (.int .i64 a))
    (h2 : Ans1 27 #[.int .i64 a1, .int .i64 13] (.int .i64 b))
    (m1 : Ans2 26 #[.int .i64 (2 + a), .int .i64 (2 + b)] (.int .i64 p) (.int .i64 0))
    (m2 : Ans2 38 #[.int .i64 p] (.bool false) (.int .i64 0)) :
    Calls Try.prog 15 #[.int .i64 a0, .int .i64 a1] w fun e w' => e = .returned (.bool true) ∧ w = w' := by
  go_enter Try.func15, Try.ntmps15
  go_wp2_with fail
  with_reducible refine i2.use ?_
  rintro e w' ⟨rfl, rfl⟩
  go_wp2_with fail
  with_reducible refine i3.use ?_
  rintro e w' ⟨rfl, rfl⟩
  go_wp2_with fail
  with_reducible refine i1.use ?_
  rintro e w' ⟨rfl, rfl⟩
  go_wp2_with fail
  with_reducible refine h1.use ?_
  rintro e w' ⟨rfl, rfl⟩
  go_wp2_with fail
  with_reducible refine h2.use ?_
  rintro e w' ⟨rfl, rfl⟩
  go_wp2_with fail
  with_reducible refine m1.use ?_
  rintro e w' ⟨rfl, rfl⟩
  go_wp2_with fail
  with_reducible refine m2.use ?_
  rintro e w' ⟨rfl, rfl⟩
  go_wp2_with fail
  go_ret
  exact ⟨rfl, rfl⟩

theorem primeProduct_walk (a0 : Int) (a1 : Int) (_ : (Lit.int .i64 a0).wf = true) (_ : (Lit.int .i64 a1).wf = true) (w : World) :
    Calls Try.prog 15 #[.int .i64 a0, .int .i64 a1] w fun e w' => e = .returned (.bool true) ∧ Grown w w' := by
  have ha := wi_lt a0 (2 ^ 13) (by omega)
  have hb := wi_lt a1 (2 ^ 13) (by omega)
  have h1 := less_is (a := a0) (n := 13) (N := 13) rfl (by omega) rfl
  have h2 := less_is (a := a1) (n := 13) (N := 13) rfl (by omega) rfl
  generalize wi a0 (2 ^ 13) = a at *
  generalize wi a1 (2 ^ 13) = b at *
  have q1 : 2 + a < 2 ^ 14 := by omega
  have q2 : 2 + b < 2 ^ 14 := by omega
  have p1 := mul_lt_pow 27 q1 q2 (by omega)
  have hno : G.irrB (G.mul (2 + a) (2 + b)) = false := (G.irrB_false _).2 (fun hI => by
    rcases hI.2 _ _ rfl with h | h <;> omega)
  exact grown_of (primeProduct_core a0 a1 w a b _ (by omega) (by omega) (Is_is (m := 2) (by omega) (by decide +kernel)) (Is_is (m := 3) (by omega) (by decide +kernel)) (Is_is (m := 1) (by omega) (by decide +kernel)) h1 h2
    (by rw [cast2, cast2]; exact Mul_is (by omega) (by omega) rfl (by omega)) (Is_is (by omega) hno))

end Go.Proofs.Ytabdchehbgchcaa
