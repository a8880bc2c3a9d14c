/- The walks of package poly: what each function computes, said by plain functions. -/
import Derived.Test.YtenkdpogdfcbgaaPlainW
namespace Go.Proofs.Ytenkdpogdfcbgaa
open Go.RowKit

set_option maxHeartbeats 400000 in
theorem check_ok (a : Int) (w : World) (h0 : 0 ≤ a) (h1 : a ≤ 2147483647) :
    Calls Try.prog 211 #[.int .i64 a] w fun e w' => e = .returned (.int .i64 0) ∧ w = w' := by
  go_enter Try.func211, Try.ntmps211
  go_wp2
  go_ret
  exact ⟨rfl, rfl⟩

set_option maxHeartbeats 400000 in
theorem check_bad (a : Int) (w : World) (h : a < 0 ∨ 2147483647 < a) :
    Calls Try.prog 211 #[.int .i64 a] w fun e w' => e = .returned (.int .i64 1) ∧ w = w' := by
  by_cases h0 : a < 0
  · clear h
    go_enter Try.func211, Try.ntmps211
    go_wp2
    go_ret
    exact ⟨rfl, rfl⟩
  · have h1 : 2147483647 < a := by omega
    clear h
    go_enter Try.func211, Try.ntmps211
    go_wp2
    go_ret
    exact ⟨rfl, rfl⟩

set_option maxHeartbeats 400000 in
theorem two_ok (a b : Int) (w : World) (h0 : 0 ≤ a) (h1 : a ≤ 2147483647) (h2 : 0 ≤ b) (h3 : b ≤ 2147483647) :
    Calls Try.prog 166 #[.int .i64 a, .int .i64 b] w fun e w' => e = .returned (.int .i64 0) ∧ w = w' := by
  go_enter Try.func166, Try.ntmps166
  go_wp2_with fail
  refine (check_ok a _ h0 h1).mono ?_
  rintro e w' ⟨rfl, rfl⟩
  go_wp2_with fail
  refine (check_ok b _ h2 h3).mono ?_
  rintro e w' ⟨rfl, rfl⟩
  go_wp2_with fail
  go_ret
  exact ⟨rfl, rfl⟩

set_option maxHeartbeats 400000 in
theorem two_bad (a b : Int) (w : World) (h : ¬ (0 ≤ a ∧ a ≤ 2147483647 ∧ 0 ≤ b ∧ b ≤ 2147483647)) :
    Calls Try.prog 166 #[.int .i64 a, .int .i64 b] w fun e w' => e = .returned (.int .i64 1) ∧ w = w' := by
  by_cases h0 : a < 0 ∨ 2147483647 < a
  · have H0 := Lib.hid h0; clear h h0
    go_enter Try.func166, Try.ntmps166
    go_wp2_with fail
    refine (check_bad a _ H0.out).mono ?_
    rintro e w' ⟨rfl, rfl⟩
    go_wp2_with fail
    go_ret
    exact ⟨rfl, rfl⟩
  · have h1 : 0 ≤ a := by omega
    have h2 : a ≤ 2147483647 := by omega
    have H0 := Lib.hid (show b < 0 ∨ 2147483647 < b by omega); clear h h0
    go_enter Try.func166, Try.ntmps166
    go_wp2_with fail
    refine (check_ok a _ h1 h2).mono ?_
    rintro e w' ⟨rfl, rfl⟩
    go_wp2_with fail
    refine (check_bad b _ H0.out).mono ?_
    rintro e w' ⟨rfl, rfl⟩
    go_wp2_with fail
    go_ret
    exact ⟨rfl, rfl⟩

theorem mul_bit1 (a b k : Nat) (h : b / 2 ^ k % 2 = 1) : G.mul a (b % 2 ^ (k + 1)) = G.mul a (b % 2 ^ k) ^^^ a * 2 ^ k := by
  have e : b % 2 ^ (k + 1) = b % 2 ^ k ^^^ 2 ^ k := by
    rw [Nat.mod_pow_succ, h, Nat.mul_one]
    have hlt : b % 2 ^ k < 2 ^ k := Nat.mod_lt _ (Nat.two_pow_pos k)
    have := Nat.two_pow_add_eq_or_of_lt hlt 1
    rw [Nat.mul_one] at this
    rw [Nat.add_comm, this, Nat.or_comm]
    apply Nat.eq_of_testBit_eq
    intro i
    rw [Nat.testBit_or, Nat.testBit_xor, Nat.testBit_two_pow]
    by_cases hi : k = i
    · subst hi; rw [Nat.testBit_lt_two_pow hlt]; simp
    · simp [hi]
  rw [e, G.mul_xor, G.mul_pow, Nat.mul_comm]

theorem mul_bit0 (a b k : Nat) (h : b / 2 ^ k % 2 = 0) : G.mul a (b % 2 ^ (k + 1)) = G.mul a (b % 2 ^ k) := by
  rw [Nat.mod_pow_succ, h, Nat.mul_zero, Nat.add_zero]

/-- A product of two of at most 31 bits. -/
theorem mul_lt (a b : Nat) (ha : a ≤ 2147483647) (hb : b ≤ 2147483647) : G.mul a b < 4611686018427387904 := by
  by_cases h0 : a = 0
  · subst h0; rw [G.zero_mul]; omega
  · by_cases h1 : b = 0
    · subst h1; rw [G.mul_zero]; omega
    · have h2 : G.L a ≤ 31 := G.L_le.2 (by omega)
      have h3 : G.L b ≤ 31 := G.L_le.2 (by omega)
      have h4 := G.L_mul a b h0 h1
      have h5 : G.mul a b < 2 ^ 62 := G.L_le.1 (by omega)
      exact h5

theorem times_next (a b k : Nat) (ha : a ≤ 2147483647) (hb : b ≤ 2147483647) (hk : k ≤ 30) (h : b / 2 ^ k % 2 = 1) :
    bits .xor .u64 (G.mul a (b % 2 ^ k) : Int) (IntKind.u64.wrap ((a : Int) * 2 ^ k)) = (G.mul a (b % 2 ^ (k + 1)) : Int) := by
  have h1 : 2 ^ k ≤ 2 ^ 30 := Nat.pow_le_pow_right (by omega) hk
  have h2 : a * 2 ^ k ≤ 2147483647 * 2 ^ 30 := Nat.mul_le_mul ha h1
  have h4 := mul_lt a (b % 2 ^ k) ha (Nat.le_trans (Nat.mod_le _ _) hb)
  rw [shl_nat, u64_in _ (by omega), bits_xor_u64_nat _ _ (by omega) (by omega), mul_bit1 a b k h]

set_option maxHeartbeats 1000000 in
theorem times_any (a b : Nat) (w : World) (ha : a ≤ 2147483647) (hb : b ≤ 2147483647) :
    Calls Try.prog 167 #[.int .i64 a, .int .i64 b] w fun e w' => e = .returned (.int .u64 (G.mul a b)) ∧ w = w' := by
  go_enter Try.func167, Try.ntmps167
  go_wp2
  go_loop [5, 6] (fun o i => ∃ k : Nat, k ≤ 31 ∧ i = .int .i64 k ∧ o = .int .u64 (G.mul a (b % 2 ^ k))) (fun _ i => 40 - (intOf i).toNat)
  case atStart => exact ⟨0, by omega, rfl, by rw [Nat.pow_zero, Nat.mod_one]; rfl⟩
  case round =>
    obtain ⟨k, hk, rfl, rfl⟩ := hrel
    have hle : b / 2 ^ k ≤ b := Nat.div_le_self _ _
    by_cases hz : b / 2 ^ k = 0
    · have t0 : ¬ 0 < (b : Int) / 2 ^ k := by rw [shr_nat, hz]; omega
      have hfin : b % 2 ^ k = b := Nat.mod_eq_of_lt (by rcases Nat.div_eq_zero_iff.1 hz with h | h; · have := Nat.two_pow_pos k; omega
                                                        · exact h)
      have HF := Lib.hid hfin; clear hfin hz
      go_wp2
      go_ret
      exact ⟨by rw [HF.out]; rfl, rfl⟩
    · have t0 : 0 < (b : Int) / 2 ^ k := by rw [shr_nat]; exact Int.natCast_pos.2 (Nat.pos_of_ne_zero hz)
      have hk' : k ≤ 30 := by
        have h1 : 2 ^ k ≤ b := by
          rcases Nat.lt_or_ge b (2 ^ k) with h | h
          · exact absurd (Nat.div_eq_of_lt h) hz
          · exact h
        have h2 : 2 ^ k < 2 ^ 31 := by omega
        have := (Nat.pow_lt_pow_iff_right (by omega)).1 h2
        omega
      by_cases hbit : b / 2 ^ k % 2 = 1
      · have t1 : (bits .and .i64 ((b : Int) / 2 ^ k) 1 == 1) = true := by rw [shr_nat, i64_and_one _ (by omega), hbit]; rfl
        have HN := Lib.hid (times_next a b k ha hb hk' hbit)
        clear hbit hz
        go_wp2
        go_round
        case rel => exact ⟨k + 1, by omega, by go_num, by rw [HN.out]⟩
        case measure => simp [intOf]; omega
      · have t1 : (bits .and .i64 ((b : Int) / 2 ^ k) 1 == 1) = false := by rw [shr_nat, i64_and_one _ (by omega), show b / 2 ^ k % 2 = 0 from by omega]; rfl
        have HN := Lib.hid (mul_bit0 a b k (by omega))
        clear hbit hz
        go_wp2
        go_round
        case rel => exact ⟨k + 1, by omega, by go_num, by rw [HN.out]⟩
        case measure => simp [intOf]; omega

end Go.Proofs.Ytenkdpogdfcbgaa
