/- The walks of package poly: what each function computes, said by plain functions. -/
import Derived.Test.YtabdchehbgchcaaBits
import Derived.Test.YtabdchehbgchcaaShelf
import Derived.Test.YtabdchehbgchcaaG2
namespace Go.Proofs.Ytabdchehbgchcaa
open Go.RowKit

set_option maxHeartbeats 400000 in
theorem check_ok (a : Int) (w : World) (h0 : 0 ≤ a) (h1 : a ≤ 2147483647) :
    Calls Try.prog 50 #[.int .i64 a] w fun e w' => e = .returned (.int .i64 0) ∧ w = w' := by
  go_enter Try.func50, Try.ntmps50
  go_wp2
  go_ret
  exact ⟨rfl, rfl⟩

set_option maxHeartbeats 400000 in
theorem check_bad (a : Int) (w : World) (h : a < 0 ∨ 2147483647 < a) :
    Calls Try.prog 50 #[.int .i64 a] w fun e w' => e = .returned (.int .i64 1) ∧ w = w' := by
  by_cases h0 : a < 0
  · clear h
    go_enter Try.func50, Try.ntmps50
    go_wp2
    go_ret
    exact ⟨rfl, rfl⟩
  · have h1 : 2147483647 < a := by omega
    clear h
    go_enter Try.func50, Try.ntmps50
    go_wp2
    go_ret
    exact ⟨rfl, rfl⟩

set_option maxHeartbeats 400000 in
theorem two_ok (a b : Int) (w : World) (h0 : 0 ≤ a) (h1 : a ≤ 2147483647) (h2 : 0 ≤ b) (h3 : b ≤ 2147483647) :
    Calls Try.prog 46 #[.int .i64 a, .int .i64 b] w fun e w' => e = .returned (.int .i64 0) ∧ w = w' := by
  go_enter Try.func46, Try.ntmps46
  go_wp2_with fail
  refine (check_ok a _ h0 h1).mono ?_
  rintro e w' ⟨rfl, rfl⟩
  go_wp2_with fail
  refine (check_ok b _ h2 h3).mono ?_
  rintro e w' ⟨rfl, rfl⟩
  go_wp2_with fail
  go_ret
  exact ⟨rfl, rfl⟩

set_option maxHeartbeats 400000 in
theorem two_bad (a b : Int) (w : World) (h : ¬ (0 ≤ a ∧ a ≤ 2147483647 ∧ 0 ≤ b ∧ b ≤ 2147483647)) :
    Calls Try.prog 46 #[.int .i64 a, .int .i64 b] w fun e w' => e = .returned (.int .i64 1) ∧ w = w' := by
  by_cases h0 : a < 0 ∨ 2147483647 < a
  · have H0 := Lib.hid h0; clear h h0
    go_enter Try.func46, Try.ntmps46
    go_wp2_with fail
    refine (check_bad a _ H0.out).mono ?_
    rintro e w' ⟨rfl, rfl⟩
    go_wp2_with fail
    go_ret
    exact ⟨rfl, rfl⟩
  · have h1 : 0 ≤ a := by omega
    have h2 : a ≤ 2147483647 := by omega
    have H0 := Lib.hid (show b < 0 ∨ 2147483647 < b by omega); clear h h0
    go_enter Try.func46, Try.ntmps46
    go_wp2_with fail
    refine (check_ok a _ h1 h2).mono ?_
    rintro e w' ⟨rfl, rfl⟩
    go_wp2_with fail
    refine (check_bad b _ H0.out).mono ?_
    rintro e w' ⟨rfl, rfl⟩
    go_wp2_with fail
    go_ret
    exact ⟨rfl, rfl⟩

theorem bitLen_L (x : Nat) (h : x < 18446744073709551616) : Lib.bitLen x = G.L x := by
  have : ∀ f x, x < 2 ^ f → Lib.bitLenAux f x = G.L x := by
    intro f
    induction f with
    | zero => intro x hx; obtain rfl : x = 0 := by simpa using hx
              rfl
    | succ f ih =>
      intro x hx
      rw [Lib.bitLenAux]
      by_cases h0 : x = 0
      · subst h0; rfl
      · rw [if_neg h0, ih (x / 2) (by rw [Nat.pow_succ] at hx; omega), G.L_half h0, Nat.add_comm]
  exact this 64 x h

set_option maxHeartbeats 400000 in
theorem deg_any (a : Nat) (w : World) (h : a < 18446744073709551616) :
    Calls Try.prog 51 #[.int .u64 a] w fun e w' => e = .returned (.int .i64 ((G.L a : Int) - 1)) ∧ w = w' := by
  have hl : G.L a ≤ 64 := G.L_le.2 h
  have hb := bitLen_L a h
  have HB := Lib.hid hb; clear hb
  have HA : Hid ((a : Int) ≤ 18446744073709551615) := Lib.hid (by omega)
  clear h
  go_enter Try.func51, Try.ntmps51
  go_wp2_with fail
  refine (Try.bits_Len64 a _ (by omega) HA.out).mono ?_
  rintro e w' ⟨rfl, rfl⟩
  rw [Int.toNat_natCast, HB.out]
  go_wp2_with fail
  go_ret
  exact ⟨rfl, rfl⟩

theorem mul_bit1 (a b k : Nat) (h : b / 2 ^ k % 2 = 1) : G.mul a (b % 2 ^ (k + 1)) = G.mul a (b % 2 ^ k) ^^^ a * 2 ^ k := by
  have e : b % 2 ^ (k + 1) = b % 2 ^ k ^^^ 2 ^ k := by
    rw [Nat.mod_pow_succ, h, Nat.mul_one]
    have hlt : b % 2 ^ k < 2 ^ k := Nat.mod_lt _ (Nat.two_pow_pos k)
    have := Nat.two_pow_add_eq_or_of_lt hlt 1
    rw [Nat.mul_one] at this
    rw [Nat.add_comm, this, Nat.or_comm]
    apply Nat.eq_of_testBit_eq
    intro i
    rw [Nat.testBit_or, Nat.testBit_xor, Nat.testBit_two_pow]
    by_cases hi : k = i
    · subst hi; rw [Nat.testBit_lt_two_pow hlt]; simp
    · simp [hi]
  rw [e, G.mul_xor, G.mul_pow, Nat.mul_comm]

theorem mul_bit0 (a b k : Nat) (h : b / 2 ^ k % 2 = 0) : G.mul a (b % 2 ^ (k + 1)) = G.mul a (b % 2 ^ k) := by
  rw [Nat.mod_pow_succ, h, Nat.mul_zero, Nat.add_zero]

/-- A product of two of at most 31 bits. -/
theorem mul_lt (a b : Nat) (ha : a ≤ 2147483647) (hb : b ≤ 2147483647) : G.mul a b < 4611686018427387904 := by
  by_cases h0 : a = 0
  · subst h0; rw [G.zero_mul]; omega
  · by_cases h1 : b = 0
    · subst h1; rw [G.mul_zero]; omega
    · have h2 : G.L a ≤ 31 := G.L_le.2 (by omega)
      have h3 : G.L b ≤ 31 := G.L_le.2 (by omega)
      have h4 := G.L_mul a b h0 h1
      have h5 : G.mul a b < 2 ^ 62 := G.L_le.1 (by omega)
      exact h5

theorem times_next (a b k : Nat) (ha : a ≤ 2147483647) (hb : b ≤ 2147483647) (hk : k ≤ 30) (h : b / 2 ^ k % 2 = 1) :
    bits .xor .u64 (G.mul a (b % 2 ^ k) : Int) (IntKind.u64.wrap ((a : Int) * 2 ^ k)) = (G.mul a (b % 2 ^ (k + 1)) : Int) := by
  have h1 : 2 ^ k ≤ 2 ^ 30 := Nat.pow_le_pow_right (by omega) hk
  have h2 : a * 2 ^ k ≤ 2147483647 * 2 ^ 30 := Nat.mul_le_mul ha h1
  have h4 := mul_lt a (b % 2 ^ k) ha (Nat.le_trans (Nat.mod_le _ _) hb)
  rw [shl_nat, u64_in _ (by omega), bits_xor_u64_nat _ _ (by omega) (by omega), mul_bit1 a b k h]

set_option maxHeartbeats 1000000 in
theorem times_any (a b : Nat) (w : World) (ha : a ≤ 2147483647) (hb : b ≤ 2147483647) :
    Calls Try.prog 47 #[.int .i64 a, .int .i64 b] w fun e w' => e = .returned (.int .u64 (G.mul a b)) ∧ w = w' := by
  go_enter Try.func47, Try.ntmps47
  go_wp2
  go_loop [5, 6] (fun o i => ∃ k : Nat, k ≤ 31 ∧ i = .int .i64 k ∧ o = .int .u64 (G.mul a (b % 2 ^ k))) (fun _ i => 40 - (intOf i).toNat)
  case atStart => exact ⟨0, by omega, rfl, by rw [Nat.pow_zero, Nat.mod_one]; rfl⟩
  case round =>
    obtain ⟨k, hk, rfl, rfl⟩ := hrel
    have hle : b / 2 ^ k ≤ b := Nat.div_le_self _ _
    by_cases hz : b / 2 ^ k = 0
    · have t0 : ¬ 0 < (b : Int) / 2 ^ k := by rw [shr_nat, hz]; omega
      have hfin : b % 2 ^ k = b := Nat.mod_eq_of_lt (by rcases Nat.div_eq_zero_iff.1 hz with h | h; · have := Nat.two_pow_pos k; omega
                                                        · exact h)
      have HF := Lib.hid hfin; clear hfin hz
      go_wp2
      go_ret
      exact ⟨by rw [HF.out]; rfl, rfl⟩
    · have t0 : 0 < (b : Int) / 2 ^ k := by rw [shr_nat]; exact Int.natCast_pos.2 (Nat.pos_of_ne_zero hz)
      have hk' : k ≤ 30 := by
        have h1 : 2 ^ k ≤ b := by
          rcases Nat.lt_or_ge b (2 ^ k) with h | h
          · exact absurd (Nat.div_eq_of_lt h) hz
          · exact h
        have h2 : 2 ^ k < 2 ^ 31 := by omega
        have := (Nat.pow_lt_pow_iff_right (by omega)).1 h2
        omega
      by_cases hbit : b / 2 ^ k % 2 = 1
      · have t1 : (bits .and .i64 ((b : Int) / 2 ^ k) 1 == 1) = true := by rw [shr_nat, i64_and_one _ (by omega), hbit]; rfl
        have HN := Lib.hid (times_next a b k ha hb hk' hbit)
        clear hbit hz
        go_wp2
        go_round
        case rel => exact ⟨k + 1, by omega, by go_num, by rw [HN.out]⟩
        case measure => simp [intOf]; omega
      · have t1 : (bits .and .i64 ((b : Int) / 2 ^ k) 1 == 1) = false := by rw [shr_nat, i64_and_one _ (by omega), show b / 2 ^ k % 2 = 0 from by omega]; rfl
        have HN := Lib.hid (mul_bit0 a b k (by omega))
        clear hbit hz
        go_wp2
        go_round
        case rel => exact ⟨k + 1, by omega, by go_num, by rw [HN.out]⟩
        case measure => simp [intOf]; omega

theorem over_s {A b : Nat} (hA : A < 9223372036854775808) (hb : b ≠ 0) (hc : G.L b ≤ G.L A) : 2 ^ (G.L A - G.L b) * b < 9223372036854775808 ∧ 2 ^ (G.L A - G.L b) < 9223372036854775808 := by
  have hl : G.L A ≤ 63 := G.L_le.2 hA
  have hp := G.L_pos.2 hb
  have h1 : 2 ^ (G.L A - G.L b) * b < 2 ^ 63 := G.L_le.1 (by rw [G.L_pow_mul _ _ hb]; omega)
  have h2 : 2 ^ (G.L A - G.L b) < 2 ^ 63 := G.L_le.1 (by rw [G.L_pow]; omega)
  exact ⟨h1, h2⟩

theorem over_a {A b : Nat} (hA : A < 9223372036854775808) (hb : b ≠ 0) (hc : G.L b ≤ G.L A) : A ^^^ 2 ^ (G.L A - G.L b) * b < 9223372036854775808 :=
  Nat.xor_lt_two_pow (n := 63) hA (over_s hA hb hc).1

theorem over_q {A Q b : Nat} (hA : A < 9223372036854775808) (hQ : Q < 9223372036854775808) (hb : b ≠ 0) (hc : G.L b ≤ G.L A) : Q ||| 2 ^ (G.L A - G.L b) < 9223372036854775808 :=
  Nat.or_lt_two_pow (n := 63) hQ (over_s hA hb hc).2

theorem over_na {A b : Nat} (hA : A < 9223372036854775808) (hb : b ≠ 0) (hc : G.L b ≤ G.L A) :
    bits .xor .u64 (A : Int) (IntKind.u64.wrap ((b : Int) * 2 ^ (G.L A - 1 - (G.L b - 1)))) = ((A ^^^ 2 ^ (G.L A - G.L b) * b : Nat) : Int) := by
  have hp := G.L_pos.2 hb
  have h := over_s hA hb hc
  rw [show G.L A - 1 - (G.L b - 1) = G.L A - G.L b from by omega, shl_nat, Nat.mul_comm b, u64_in _ (by omega), bits_xor_u64_nat _ _ (by omega) (by omega)]

theorem over_nq {A Q b : Nat} (hA : A < 9223372036854775808) (hQ : Q < 9223372036854775808) (hb : b ≠ 0) (hc : G.L b ≤ G.L A) :
    bits .or .u64 (Q : Int) (IntKind.u64.wrap ((2 : Int) ^ (G.L A - 1 - (G.L b - 1)))) = ((Q ||| 2 ^ (G.L A - G.L b) : Nat) : Int) := by
  have hp := G.L_pos.2 hb
  have h := over_s hA hb hc
  have e : (2 : Int) ^ (G.L A - G.L b) = ((2 ^ (G.L A - G.L b) : Nat) : Int) := by rw [Int.natCast_pow]; rfl
  rw [show G.L A - 1 - (G.L b - 1) = G.L A - G.L b from by omega, e, u64_in _ (by omega), bits_or_u64_nat _ _ (by omega) (by omega)]

set_option maxHeartbeats 1000000 in
theorem over_any (a b : Nat) (w : World) (ha : a < 9223372036854775808) (hb0 : b ≠ 0) (hb : b ≤ 2147483647) :
    Calls Try.prog 52 #[.int .u64 a, .int .i64 b] w fun e w' => e = .returned (.tuple #[.int .u64 (G.qt a b), .int .u64 (G.md a b)]) ∧ w = w' := by
  have hp : 0 < G.L b := G.L_pos.2 hb0
  have hlb : G.L b ≤ 31 := G.L_le.2 (by omega)
  have HA := Lib.hid ha; clear ha
  have HB := Lib.hid hb0; clear hb0
  go_enter Try.func52, Try.ntmps52
  go_wp2_with fail
  refine (deg_any b _ (by omega)).mono ?_
  rintro e w' ⟨rfl, rfl⟩
  go_wp2_with fail
  go_loop [0, 6, 8] (fun x q _ => ∃ A Q : Nat, Hid (A < 9223372036854775808) ∧ Hid (Q < 9223372036854775808) ∧ x = .int .u64 A ∧ q = .int .u64 Q ∧ Hid (G.overF b (G.L A) Q A = G.over a b)) (fun x _ _ => G.L (intOf x).toNat)
  case atStart => exact ⟨a, 0, HA, Lib.hid (by omega), rfl, rfl, Lib.hid rfl⟩
  case round =>
    obtain ⟨A, Q, hA, hQ, rfl, rfl, hO⟩ := hrel
    have hlA : G.L A ≤ 63 := G.L_le.2 hA.out
    by_cases hc : G.L b ≤ G.L A
    · have N1 := Lib.hid (over_a hA.out HB.out hc)
      have N2 := Lib.hid (over_q (Q := Q) hA.out hQ.out HB.out hc)
      have N3 := Lib.hid (over_na hA.out HB.out hc)
      have N4 := Lib.hid (over_nq (Q := Q) hA.out hQ.out HB.out hc)
      have N5 := Lib.hid ((G.overF_step b Q A HB.out hc).symm.trans hO.out)
      have N6 := Lib.hid (G.step_L HB.out hc)
      go_wp2_with fail
      refine (deg_any A _ (by have := hA.out; omega)).mono ?_
      rintro e w' ⟨rfl, rfl⟩
      go_wp2_with fail
      refine (deg_any A _ (by have := hA.out; omega)).mono ?_
      rintro e w' ⟨rfl, rfl⟩
      go_wp2_with fail
      go_round
      case rel => exact ⟨_, _, N1, N2, congrArg (Value.int .u64) N3.out, congrArg (Value.int .u64) N4.out, N5⟩
      case measure => rw [N3.out]; exact N6.out
    · go_wp2_with fail
      refine (deg_any A _ (by have := hA.out; omega)).mono ?_
      rintro e w' ⟨rfl, rfl⟩
      go_wp2_with fail
      go_ret2
      have h := hO.out
      rw [G.overF_end _ _ _ hc] at h
      unfold G.qt G.md
      rw [← h]
      exact ⟨rfl, rfl⟩

end Go.Proofs.Ytabdchehbgchcaa
