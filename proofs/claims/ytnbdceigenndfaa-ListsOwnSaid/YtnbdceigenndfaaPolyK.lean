/- Contracts of package poly in the form that the laws take: the result under a name of its own; and woolkeep.less. -/
import Derived.Test.YtnbdceigenndfaaPolyW3
import Derived.Test.YtnbdceigenndfaaUse
namespace Go.Proofs.Ytnbdceigenndfaa
open Go.RowKit

theorem Deg_is {a : Nat} {x : Int} (ha : a ≤ 2147483647) (hx : (G.L a : Int) - 1 = x) :
    Ans2 28 #[.int .i64 a] (.int .i64 x) (.int .i64 0) := by
  subst hx; exact fun w => Deg_ok a w ha
theorem Div_is {a b q r : Nat} (ha : a ≤ 2147483647) (hb : b ≤ 2147483647) (h0 : b ≠ 0) (hq : G.qt a b = q) (hr : G.md a b = r) :
    Ans3 29 #[.int .i64 a, .int .i64 b] (.int .i64 q) (.int .i64 r) (.int .i64 0) := by
  subst hq; subst hr; exact fun w => Div_ok a b w ha hb h0

theorem two_pow_cast (n : Nat) : (2 : Int) ^ n = ((2 ^ n : Nat) : Int) := by rw [Int.natCast_pow]; rfl

set_option maxHeartbeats 400000 in
theorem less_nat (a : Int) (n : Nat) (w : World) (hn : n ≤ 40) :
    Calls Try.prog 8 #[.int .i64 a, .int .i64 n] w fun e w' => e = .returned (.int .i64 (wi a (2 ^ n))) ∧ w = w' := by
  have hp : 2 ^ n ≤ 2 ^ 40 := Nat.pow_le_pow_right (by omega) hn
  have h1 := Nat.two_pow_pos n
  have e : IntKind.i64.wrap ((2 : Int) ^ n) = ((2 ^ n : Nat) : Int) := by rw [two_pow_cast]; exact wr (by omega)
  have HW := Lib.hid (fun w => within_any a ((2 ^ n : Nat) : Int) (2 ^ n) w rfl (by omega) (by omega))
  clear hp h1
  go_enter Try.func8, Try.ntmps8
  go_wp2_with fail
  refine (HW.out _).mono ?_
  rintro e w' ⟨rfl, rfl⟩
  go_wp2_with fail
  go_ret
  exact ⟨rfl, rfl⟩

theorem less_is {a : Int} {n : Nat} {N : Int} {x : Nat} (hN : N = n) (hn : n ≤ 40) (hx : wi a (2 ^ n) = x) :
    Ans1 8 #[.int .i64 a, .int .i64 N] (.int .i64 x) := by
  subst hN; subst hx; exact fun w => less_nat a n w hn
/-- Below powers of two: a bound on the product. -/
theorem mul_lt_pow {a b i j : Nat} (k : Nat) (ha : a < 2 ^ i) (hb : b < 2 ^ j) (hk : i + j ≤ k + 1) : G.mul a b < 2 ^ k := by
  by_cases h0 : a = 0
  · subst h0; rw [G.zero_mul]; exact Nat.two_pow_pos _
  · by_cases h1 : b = 0
    · subst h1; rw [G.mul_zero]; exact Nat.two_pow_pos _
    · have h2 : G.L a ≤ i := G.L_le.2 ha
      have h3 : G.L b ≤ j := G.L_le.2 hb
      have h4 := G.L_mul a b h0 h1
      exact G.L_le.1 (by omega)

theorem nat_beq_zero (n : Nat) : ((n : Int) == 0) = decide (n = 0) := by
  by_cases h : n = 0
  · subst h; rfl
  · rw [decide_eq_false h]; simpa using h

end Go.Proofs.Ytnbdceigenndfaa
