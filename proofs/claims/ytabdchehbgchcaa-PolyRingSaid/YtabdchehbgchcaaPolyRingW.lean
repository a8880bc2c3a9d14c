/- PolyRing: the walk's numbers put in. -/
import Derived.Test.YtabdchehbgchcaaPolyRing
namespace Go.Proofs.Ytabdchehbgchcaa
open Go.RowKit

theorem polyRing_walk (a0 : Int) (a1 : Int) (a2 : Int) (_ : (Lit.int .i64 a0).wf = true) (_ : (Lit.int .i64 a1).wf = true) (_ : (Lit.int .i64 a2).wf = true) (w : World) :
    Calls Try.prog 4 #[.int .i64 a0, .int .i64 a1, .int .i64 a2] w fun e w' => e = .returned (.bool true) ∧ Grown w w' := by
  have ha := wi_lt a0 (2 ^ 11) (by omega)
  have hb := wi_lt a1 (2 ^ 11) (by omega)
  have hc := wi_lt a2 (2 ^ 10) (by omega)
  have h1 := less_is (a := a0) (n := 11) (N := 11) rfl (by omega) rfl
  have h2 := less_is (a := a1) (n := 11) (N := 11) rfl (by omega) rfl
  have h3 := less_is (a := a2) (n := 10) (N := 10) rfl (by omega) rfl
  generalize wi a0 (2 ^ 11) = a at *
  generalize wi a1 (2 ^ 11) = b at *
  generalize wi a2 (2 ^ 10) = c at *
  have p1 := mul_lt_pow 21 ha hb (by omega)
  have p2 := mul_lt_pow 20 hb hc (by omega)
  have p3 := mul_lt_pow 30 p1 hc (by omega)
  have p4 := mul_lt_pow 20 ha hc (by omega)
  have p5 : b ^^^ c < 2 ^ 11 := Nat.xor_lt_two_pow hb (by omega)
  have p6 := mul_lt_pow 21 ha p5 (by omega)
  refine polyRing_core a0 a1 a2 w a b c (G.mul a b) (G.mul b c) (G.mul (G.mul a b) c) (b ^^^ c) (G.mul a (b ^^^ c)) (G.mul a c) _ _ _ h1 h2 h3
    (Mul_is (a := 7) (b := 5) (x := 27) (by omega) (by omega) (by decide +kernel) (by omega))
    (Mul_is (by omega) (by omega) rfl (by omega)) (Mul_is (by omega) (by omega) (G.mul_comm b a) (by omega)) (Mul_is (by omega) (by omega) rfl (by omega))
    (Mul_is (by omega) (by omega) rfl (by omega)) (Mul_is (by omega) (by omega) (G.mul_assoc a b c).symm (by omega)) (Add_is (by omega) (by omega) rfl)
    (Mul_is (by omega) (by omega) rfl (by omega)) (Mul_is (by omega) (by omega) rfl (by omega)) (Add_is (by omega) (by omega) (G.mul_xor a b c).symm)
    (Add_is (x := 0) (by omega) (by omega) (Nat.xor_self a)) (Mul_is (b := 1) (by omega) (by omega) (G.mul_one a) (by omega))
    (nat_beq_zero a) (nat_beq_zero b) (nat_beq_zero _) ?_
  rw [Bool.eq_iff_iff]
  simp only [Bool.or_eq_true, decide_eq_true_eq]
  exact G.mul_eq_zero

end Go.Proofs.Ytabdchehbgchcaa
