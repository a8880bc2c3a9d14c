/- The walks of package poly: what each function computes, said by plain functions. -/
import Derived.Test.YtnbdceigenndfaaPlainW
namespace Go.Proofs.Ytnbdceigenndfaa
open Go.RowKit

set_option maxHeartbeats 400000 in
theorem check_ok (a : Int) (w : World) (h0 : 0 ≤ a) (h1 : a ≤ 2147483647) :
    Calls Try.prog 27 #[.int .i64 a] w fun e w' => e = .returned (.int .i64 0) ∧ w = w' := by
  go_enter Try.func27, Try.ntmps27
  go_wp2
  go_ret
  exact ⟨rfl, rfl⟩

set_option maxHeartbeats 400000 in
theorem check_bad (a : Int) (w : World) (h : a < 0 ∨ 2147483647 < a) :
    Calls Try.prog 27 #[.int .i64 a] w fun e w' => e = .returned (.int .i64 1) ∧ w = w' := by
  by_cases h0 : a < 0
  · clear h
    go_enter Try.func27, Try.ntmps27
    go_wp2
    go_ret
    exact ⟨rfl, rfl⟩
  · have h1 : 2147483647 < a := by omega
    clear h
    go_enter Try.func27, Try.ntmps27
    go_wp2
    go_ret
    exact ⟨rfl, rfl⟩

set_option maxHeartbeats 400000 in
theorem two_ok (a b : Int) (w : World) (h0 : 0 ≤ a) (h1 : a ≤ 2147483647) (h2 : 0 ≤ b) (h3 : b ≤ 2147483647) :
    Calls Try.prog 38 #[.int .i64 a, .int .i64 b] w fun e w' => e = .returned (.int .i64 0) ∧ w = w' := by
  go_enter Try.func38, Try.ntmps38
  go_wp2_with fail
  refine (check_ok a _ h0 h1).mono ?_
  rintro e w' ⟨rfl, rfl⟩
  go_wp2_with fail
  refine (check_ok b _ h2 h3).mono ?_
  rintro e w' ⟨rfl, rfl⟩
  go_wp2_with fail
  go_ret
  exact ⟨rfl, rfl⟩

set_option maxHeartbeats 400000 in
theorem two_bad (a b : Int) (w : World) (h : ¬ (0 ≤ a ∧ a ≤ 2147483647 ∧ 0 ≤ b ∧ b ≤ 2147483647)) :
    Calls Try.prog 38 #[.int .i64 a, .int .i64 b] w fun e w' => e = .returned (.int .i64 1) ∧ w = w' := by
  by_cases h0 : a < 0 ∨ 2147483647 < a
  · have H0 := Lib.hid h0; clear h h0
    go_enter Try.func38, Try.ntmps38
    go_wp2_with fail
    refine (check_bad a _ H0.out).mono ?_
    rintro e w' ⟨rfl, rfl⟩
    go_wp2_with fail
    go_ret
    exact ⟨rfl, rfl⟩
  · have h1 : 0 ≤ a := by omega
    have h2 : a ≤ 2147483647 := by omega
    have H0 := Lib.hid (show b < 0 ∨ 2147483647 < b by omega); clear h h0
    go_enter Try.func38, Try.ntmps38
    go_wp2_with fail
    refine (check_ok a _ h1 h2).mono ?_
    rintro e w' ⟨rfl, rfl⟩
    go_wp2_with fail
    refine (check_bad b _ H0.out).mono ?_
    rintro e w' ⟨rfl, rfl⟩
    go_wp2_with fail
    go_ret
    exact ⟨rfl, rfl⟩

theorem mul_bit1 (a b k : Nat) (h : b / 2 ^ k % 2 = 1) : G.mul a (b % 2 ^ (k + 1)) = G.mul a (b % 2 ^ k) ^^^ a * 2 ^ k := by
  have e : b % 2 ^ (k + 1) = b % 2 ^ k ^^^ 2 ^ k := by
    rw [Nat.mod_pow_succ, h, Nat.mul_one]
    have hlt : b % 2 ^ k < 2 ^ k := Nat.mod_lt _ (Nat.two_pow_pos k)
    have := Nat.two_pow_add_eq_or_of_lt hlt 1
    rw [Nat.mul_one] at this
    rw [Nat.add_comm, this, Nat.or_comm]
    apply Nat.eq_of_testBit_eq
    intro i
    rw [Nat.testBit_or, Nat.testBit_xor, Nat.testBit_two_pow]
    by_cases hi : k = i
    · subst hi; rw [Nat.testBit_lt_two_pow hlt]; simp
    · simp [hi]
  rw [e, G.mul_xor, G.mul_pow, Nat.mul_comm]

theorem mul_bit0 (a b k : Nat) (h : b / 2 ^ k % 2 = 0) : G.mul a (b % 2 ^ (k + 1)) = G.mul a (b % 2 ^ k) := by
  rw [Nat.mod_pow_succ, h, Nat.mul_zero, Nat.add_zero]

/-- A product of two of at most 31 bits. -/
theorem mul_lt (a b : Nat) (ha : a ≤ 2147483647) (hb : b ≤ 2147483647) : G.mul a b < 4611686018427387904 := by
  by_cases h0 : a = 0
  · subst h0; rw [G.zero_mul]; omega
  · by_cases h1 : b = 0
    · subst h1; rw [G.mul_zero]; omega
    · have h2 : G.L a ≤ 31 := G.L_le.2 (by omega)
      have h3 : G.L b ≤ 31 := G.L_le.2 (by omega)
      have h4 := G.L_mul a b h0 h1
      have h5 : G.mul a b < 2 ^ 62 := G.L_le.1 (by omega)
      exact h5

theorem times_next (a b k : Nat) (ha : a ≤ 2147483647) (hb : b ≤ 2147483647) (hk : k ≤ 30) (h : b / 2 ^ k % 2 = 1) :
    bits .xor .u64 (G.mul a (b % 2 ^ k) : Int) (IntKind.u64.wrap ((a : Int) * 2 ^ k)) = (G.mul a (b % 2 ^ (k + 1)) : Int) := by
  have h1 : 2 ^ k ≤ 2 ^ 30 := Nat.pow_le_pow_right (by omega) hk
  have h2 : a * 2 ^ k ≤ 2147483647 * 2 ^ 30 := Nat.mul_le_mul ha h1
  have h4 := mul_lt a (b % 2 ^ k) ha (Nat.le_trans (Nat.mod_le _ _) hb)
  rw [shl_nat, u64_in _ (by omega), bits_xor_u64_nat _ _ (by omega) (by omega), mul_bit1 a b k h]

end Go.Proofs.Ytnbdceigenndfaa
