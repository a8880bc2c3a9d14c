/- The walks of package poly, the loops of Gcd and ModPow. -/
import Derived.Test.YtabdchehbgchcaaPolyW2
namespace Go.Proofs.Ytabdchehbgchcaa
open Go.RowKit

theorem pw_odd (a n : Nat) : G.mul a (G.pw (G.mul a a) n) = G.pw a (2 * n + 1) := by
  rw [← G.pw_two, ← G.pw_mul, Nat.add_comm, G.pw_add, G.pw_one]

theorem pw_even (a n : Nat) : G.pw (G.mul a a) n = G.pw a (2 * n) := by
  rw [← G.pw_two, ← G.pw_mul]

theorem mp_odd {O A m : Nat} (N : Nat) (hm : m ≠ 0) : G.md (G.mul (G.md (G.mul O A) m) (G.pw (G.md (G.mul A A) m) N)) m = G.md (G.mul O (G.pw A (2 * N + 1))) m := by
  rw [← pw_odd, ← G.mul_assoc]
  exact (G.md_eq_iff hm).2 (G.C_mul (G.C_comm (G.md_C _ hm)) (G.C_pw N (G.C_comm (G.md_C _ hm))))

theorem mp_even {O A m : Nat} (N : Nat) (hm : m ≠ 0) : G.md (G.mul O (G.pw (G.md (G.mul A A) m) N)) m = G.md (G.mul O (G.pw A (2 * N))) m := by
  rw [← pw_even]
  exact (G.md_eq_iff hm).2 (G.C_mul (G.C_refl m O) (G.C_pw N (G.C_comm (G.md_C _ hm))))

set_option maxHeartbeats 1000000 in
theorem Gcd_ok (a b : Nat) (w : World) (ha : a ≤ 2147483647) (hb : b ≤ 2147483647) :
    Calls Try.prog 35 #[.int .i64 a, .int .i64 b] w fun e w' => e = .returned (.tuple #[.int .i64 (G.gcd a b), .int .i64 0]) ∧ w = w' := by
  go_enter Try.func35, Try.ntmps35
  go_wp2_with fail
  refine (two_ok a b _ (by omega) (by omega) (by omega) (by omega)).mono ?_
  rintro e w' ⟨rfl, rfl⟩
  go_wp2_with fail
  go_loop [0, 1] (fun x y => ∃ A B : Nat, A ≤ 2147483647 ∧ B ≤ 2147483647 ∧ x = .int .i64 A ∧ y = .int .i64 B ∧ Hid (G.gcd A B = G.gcd a b)) (fun _ y => G.L (intOf y).toNat)
  case atStart => exact ⟨a, b, ha, hb, rfl, rfl, Lib.hid rfl⟩
  case round =>
    obtain ⟨A, B, hA, hB, rfl, rfl, hG⟩ := hrel
    by_cases h0 : B = 0
    · subst h0
      go_wp2_with fail
      go_ret2
      have h := hG.out
      rw [G.gcd_zero] at h
      rw [← h]
      exact ⟨rfl, rfl⟩
    · have h1 : G.md A B ≤ 2147483647 := md_le h0 hB
      have t : ((B : Int) == 0) = false := by simpa using h0
      have t' : ((B : Int) != 0) = true := by simpa using h0
      have N1 := Lib.hid (G.L_md A h0)
      have N2 := Lib.hid ((G.gcd_step A h0).symm.trans hG.out)
      have H := Lib.hid h0; clear h0
      go_wp2_with fail
      refine (over_any A B _ (by omega) H.out (by omega)).mono ?_
      rintro e w' ⟨rfl, rfl⟩
      go_wp2_with fail
      go_round
      case rel => exact ⟨B, G.md A B, hB, h1, rfl, rfl, N2⟩
      case measure => exact N1.out

set_option maxHeartbeats 1000000 in
theorem ModPow_ok (a n m : Nat) (w : World) (ha : a ≤ 2147483647) (hn : n ≤ 9223372036854775807) (hm : m ≤ 2147483647) (h0 : m ≠ 0) :
    Calls Try.prog 36 #[.int .i64 a, .int .i64 n, .int .i64 m] w fun e w' => e = .returned (.tuple #[.int .i64 (G.md (G.pw a n) m), .int .i64 0]) ∧ w = w' := by
  have t : ((m : Int) == 0) = false := by simpa using h0
  have h1 : G.md 1 m ≤ 2147483647 := md_le h0 hm
  have M1 := Lib.hid (G.L_md 1 h0)
  have M2 := Lib.hid (show G.md (G.mul (G.md 1 m) (G.pw a n)) m = G.md (G.pw a n) m by rw [G.md_mul_left _ _ h0, G.one_mul])
  have H := Lib.hid h0; clear h0
  have HN := Lib.hid hn; clear hn
  go_enter Try.func36, Try.ntmps36
  go_wp2_with fail
  refine (two_ok a m _ (by omega) (by omega) (by omega) (by omega)).mono ?_
  rintro e w' ⟨rfl, rfl⟩
  go_wp2_with fail
  refine (over_any 1 m _ (by omega) H.out (by omega)).mono ?_
  rintro e w' ⟨rfl, rfl⟩
  go_wp2_with fail
  go_loop [0, 1, 11] (fun x y z => ∃ A N O : Nat, A ≤ 2147483647 ∧ Hid (N ≤ 9223372036854775807) ∧ O ≤ 2147483647 ∧ x = .int .i64 A ∧ y = .int .i64 N ∧ z = .int .i64 O ∧ Hid (G.L O < G.L m) ∧ Hid (G.md (G.mul O (G.pw A N)) m = G.md (G.pw a n) m)) (fun _ y _ => (intOf y).toNat)
  case atStart => exact ⟨a, n, G.md 1 m, ha, HN, h1, rfl, rfl, rfl, M1, M2⟩
  case round =>
    obtain ⟨A, N, O, hA, hN, hO, rfl, rfl, rfl, hL, hG⟩ := hrel
    by_cases hz : N = 0
    · subst hz
      go_wp2_with fail
      go_ret2
      have h := hG.out
      rw [show G.pw A 0 = 1 from rfl, G.mul_one, G.md_small hL.out] at h
      rw [← h]
      exact ⟨rfl, rfl⟩
    · have g2 : G.md (G.mul A A) m ≤ 2147483647 := md_le H.out hm
      by_cases hbit : N % 2 = 1
      · have t1 : (bits .and .i64 (N : Int) 1 == 1) = true := by rw [i64_and_one _ (by have := hN.out; omega), hbit]; rfl
        have g1 : G.md (G.mul O A) m ≤ 2147483647 := md_le H.out hm
        have N1 := Lib.hid (G.L_md (G.mul O A) H.out)
        have N2 := Lib.hid ((show G.md (G.mul (G.md (G.mul O A) m) (G.pw (G.md (G.mul A A) m) (N / 2))) m = G.md (G.mul O (G.pw A N)) m by
          rw [mp_odd _ H.out, show 2 * (N / 2) + 1 = N from by omega]).trans hG.out)
        clear hbit
        go_wp2_with fail
        refine (ModMul_ok O A m _ hO hA hm H.out).mono ?_
        rintro e w' ⟨rfl, rfl⟩
        go_wp2_with fail
        refine (ModMul_ok A A m _ hA hA hm H.out).mono ?_
        rintro e w' ⟨rfl, rfl⟩
        go_wp2_with fail
        go_round
        case rel => exact ⟨_, N / 2, _, g2, Lib.hid (by have := hN.out; omega), g1, rfl, by go_num, rfl, N1, N2⟩
        case measure => simp [intOf]; omega
      · have t1 : (bits .and .i64 (N : Int) 1 == 1) = false := by rw [i64_and_one _ (by have := hN.out; omega), show N % 2 = 0 from by omega]; rfl
        have N2 := Lib.hid ((show G.md (G.mul O (G.pw (G.md (G.mul A A) m) (N / 2))) m = G.md (G.mul O (G.pw A N)) m by
          rw [mp_even _ H.out, show 2 * (N / 2) = N from by omega]).trans hG.out)
        clear hbit
        go_wp2_with fail
        refine (ModMul_ok A A m _ hA hA hm H.out).mono ?_
        rintro e w' ⟨rfl, rfl⟩
        go_wp2_with fail
        go_round
        case rel => exact ⟨_, N / 2, _, g2, Lib.hid (by have := hN.out; omega), hO, rfl, by go_num, rfl, hL, N2⟩
        case measure => simp [intOf]; omega

end Go.Proofs.Ytabdchehbgchcaa
