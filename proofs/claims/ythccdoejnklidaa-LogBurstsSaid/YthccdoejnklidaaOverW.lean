/- The walks of poly.deg and poly.Over: what they compute, said by plain functions. -/
import Derived.Test.YthccdoejnklidaaBits
import Derived.Test.YthccdoejnklidaaShelf
import Derived.Test.YthccdoejnklidaaG2
namespace Go.Proofs.Ythccdoejnklidaa
open Go.RowKit

theorem bitLen_L (x : Nat) (h : x < 18446744073709551616) : Lib.bitLen x = G.L x := by
  have : ∀ f x, x < 2 ^ f → Lib.bitLenAux f x = G.L x := by
    intro f
    induction f with
    | zero => intro x hx; obtain rfl : x = 0 := by simpa using hx
              rfl
    | succ f ih =>
      intro x hx
      rw [Lib.bitLenAux]
      by_cases h0 : x = 0
      · subst h0; rfl
      · rw [if_neg h0, ih (x / 2) (by rw [Nat.pow_succ] at hx; omega), G.L_half h0, Nat.add_comm]
  exact this 64 x h

set_option maxHeartbeats 400000 in
theorem deg_any (a : Nat) (w : World) (h : a < 18446744073709551616) :
    Calls Try.prog 73 #[.int .u64 a] w fun e w' => e = .returned (.int .i64 ((G.L a : Int) - 1)) ∧ w = w' := by
  have hl : G.L a ≤ 64 := G.L_le.2 h
  have hb := bitLen_L a h
  have HB := Lib.hid hb; clear hb
  have HA : Hid ((a : Int) ≤ 18446744073709551615) := Lib.hid (by omega)
  clear h
  go_enter Try.func73, Try.ntmps73
  go_wp2_with fail
  refine (Try.bits_Len64 a _ (by omega) HA.out).mono ?_
  rintro e w' ⟨rfl, rfl⟩
  rw [Int.toNat_natCast, HB.out]
  go_wp2_with fail
  go_ret
  exact ⟨rfl, rfl⟩

theorem over_s {A b : Nat} (hA : A < 9223372036854775808) (hb : b ≠ 0) (hc : G.L b ≤ G.L A) : 2 ^ (G.L A - G.L b) * b < 9223372036854775808 ∧ 2 ^ (G.L A - G.L b) < 9223372036854775808 := by
  have hl : G.L A ≤ 63 := G.L_le.2 hA
  have hp := G.L_pos.2 hb
  have h1 : 2 ^ (G.L A - G.L b) * b < 2 ^ 63 := G.L_le.1 (by rw [G.L_pow_mul _ _ hb]; omega)
  have h2 : 2 ^ (G.L A - G.L b) < 2 ^ 63 := G.L_le.1 (by rw [G.L_pow]; omega)
  exact ⟨h1, h2⟩

theorem over_a {A b : Nat} (hA : A < 9223372036854775808) (hb : b ≠ 0) (hc : G.L b ≤ G.L A) : A ^^^ 2 ^ (G.L A - G.L b) * b < 9223372036854775808 :=
  Nat.xor_lt_two_pow (n := 63) hA (over_s hA hb hc).1

theorem over_q {A Q b : Nat} (hA : A < 9223372036854775808) (hQ : Q < 9223372036854775808) (hb : b ≠ 0) (hc : G.L b ≤ G.L A) : Q ||| 2 ^ (G.L A - G.L b) < 9223372036854775808 :=
  Nat.or_lt_two_pow (n := 63) hQ (over_s hA hb hc).2

theorem over_na {A b : Nat} (hA : A < 9223372036854775808) (hb : b ≠ 0) (hc : G.L b ≤ G.L A) :
    bits .xor .u64 (A : Int) (IntKind.u64.wrap ((b : Int) * 2 ^ (G.L A - 1 - (G.L b - 1)))) = ((A ^^^ 2 ^ (G.L A - G.L b) * b : Nat) : Int) := by
  have hp := G.L_pos.2 hb
  have h := over_s hA hb hc
  rw [show G.L A - 1 - (G.L b - 1) = G.L A - G.L b from by omega, shl_nat, Nat.mul_comm b, u64_in _ (by omega), bits_xor_u64_nat _ _ (by omega) (by omega)]

theorem over_nq {A Q b : Nat} (hA : A < 9223372036854775808) (hQ : Q < 9223372036854775808) (hb : b ≠ 0) (hc : G.L b ≤ G.L A) :
    bits .or .u64 (Q : Int) (IntKind.u64.wrap ((2 : Int) ^ (G.L A - 1 - (G.L b - 1)))) = ((Q ||| 2 ^ (G.L A - G.L b) : Nat) : Int) := by
  have hp := G.L_pos.2 hb
  have h := over_s hA hb hc
  have e : (2 : Int) ^ (G.L A - G.L b) = ((2 ^ (G.L A - G.L b) : Nat) : Int) := by rw [Int.natCast_pow]; rfl
  rw [show G.L A - 1 - (G.L b - 1) = G.L A - G.L b from by omega, e, u64_in _ (by omega), bits_or_u64_nat _ _ (by omega) (by omega)]

set_option maxHeartbeats 1000000 in
theorem over_any (a b : Nat) (w : World) (ha : a < 9223372036854775808) (hb0 : b ≠ 0) (hb : b ≤ 2147483647) :
    Calls Try.prog 66 #[.int .u64 a, .int .i64 b] w fun e w' => e = .returned (.tuple #[.int .u64 (G.qt a b), .int .u64 (G.md a b)]) ∧ w = w' := by
  have hp : 0 < G.L b := G.L_pos.2 hb0
  have hlb : G.L b ≤ 31 := G.L_le.2 (by omega)
  have HA := Lib.hid ha; clear ha
  have HB := Lib.hid hb0; clear hb0
  go_enter Try.func66, Try.ntmps66
  go_wp2_with fail
  refine (deg_any b _ (by omega)).mono ?_
  rintro e w' ⟨rfl, rfl⟩
  go_wp2_with fail
  go_loop [0, 6, 8] (fun x q _ => ∃ A Q : Nat, Hid (A < 9223372036854775808) ∧ Hid (Q < 9223372036854775808) ∧ x = .int .u64 A ∧ q = .int .u64 Q ∧ Hid (G.overF b (G.L A) Q A = G.over a b)) (fun x _ _ => G.L (intOf x).toNat)
  case atStart => exact ⟨a, 0, HA, Lib.hid (by omega), rfl, rfl, Lib.hid rfl⟩
  case round =>
    obtain ⟨A, Q, hA, hQ, rfl, rfl, hO⟩ := hrel
    have hlA : G.L A ≤ 63 := G.L_le.2 hA.out
    by_cases hc : G.L b ≤ G.L A
    · have N1 := Lib.hid (over_a hA.out HB.out hc)
      have N2 := Lib.hid (over_q (Q := Q) hA.out hQ.out HB.out hc)
      have N3 := Lib.hid (over_na hA.out HB.out hc)
      have N4 := Lib.hid (over_nq (Q := Q) hA.out hQ.out HB.out hc)
      have N5 := Lib.hid ((G.overF_step b Q A HB.out hc).symm.trans hO.out)
      have N6 := Lib.hid (G.step_L HB.out hc)
      go_wp2_with fail
      refine (deg_any A _ (by have := hA.out; omega)).mono ?_
      rintro e w' ⟨rfl, rfl⟩
      go_wp2_with fail
      refine (deg_any A _ (by have := hA.out; omega)).mono ?_
      rintro e w' ⟨rfl, rfl⟩
      go_wp2_with fail
      go_round
      case rel => exact ⟨_, _, N1, N2, congrArg (Value.int .u64) N3.out, congrArg (Value.int .u64) N4.out, N5⟩
      case measure => rw [N3.out]; exact N6.out
    · go_wp2_with fail
      refine (deg_any A _ (by have := hA.out; omega)).mono ?_
      rintro e w' ⟨rfl, rfl⟩
      go_wp2_with fail
      go_ret2
      have h := hO.out
      rw [G.overF_end _ _ _ hc] at h
      unfold G.qt G.md
      rw [← h]
      exact ⟨rfl, rfl⟩

theorem md_le {a m : Nat} (h0 : m ≠ 0) (hm : m ≤ 2147483647) : G.md a m ≤ 2147483647 := by
  have h1 := G.L_md a h0
  have h2 : G.L m ≤ 31 := G.L_le.2 (by omega)
  have h3 : G.md a m < 2 ^ 31 := G.L_le.1 (by omega)
  omega

/-- A quotient is no longer than what is divided. -/
theorem qt_le {a b k : Nat} (h0 : b ≠ 0) (ha : a < 2 ^ k) : G.qt a b < 2 ^ k := by
  have h1 := G.qt_md a h0
  have h2 := G.L_md a h0
  by_cases hq : G.qt a b = 0
  · rw [hq]; exact Nat.two_pow_pos k
  · have h3 := G.L_mul _ _ hq h0
    have hp := G.L_pos.2 h0
    have h4 : G.L (G.md a b) < G.L (G.mul (G.qt a b) b) := by have := G.L_pos.2 hq; omega
    have h5 := G.L_xor_of_gt h4
    rw [h1] at h5
    have h6 : G.L a ≤ k := G.L_le.2 ha
    exact G.L_le.1 (by omega)

end Go.Proofs.Ythccdoejnklidaa
