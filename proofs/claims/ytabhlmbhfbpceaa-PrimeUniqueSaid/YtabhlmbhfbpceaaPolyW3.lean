/- The walks of package poly, the loops of Gcd and ModPow. -/
import Derived.Test.YtabhlmbhfbpceaaPolyW2
namespace Go.Proofs.Ytabhlmbhfbpceaa
open Go.RowKit

theorem pw_odd (a n : Nat) : G.mul a (G.pw (G.mul a a) n) = G.pw a (2 * n + 1) := by
  rw [← G.pw_two, ← G.pw_mul, Nat.add_comm, G.pw_add, G.pw_one]

theorem pw_even (a n : Nat) : G.pw (G.mul a a) n = G.pw a (2 * n) := by
  rw [← G.pw_two, ← G.pw_mul]

theorem mp_odd {O A m : Nat} (N : Nat) (hm : m ≠ 0) : G.md (G.mul (G.md (G.mul O A) m) (G.pw (G.md (G.mul A A) m) N)) m = G.md (G.mul O (G.pw A (2 * N + 1))) m := by
  rw [← pw_odd, ← G.mul_assoc]
  exact (G.md_eq_iff hm).2 (G.C_mul (G.C_comm (G.md_C _ hm)) (G.C_pw N (G.C_comm (G.md_C _ hm))))

theorem mp_even {O A m : Nat} (N : Nat) (hm : m ≠ 0) : G.md (G.mul O (G.pw (G.md (G.mul A A) m) N)) m = G.md (G.mul O (G.pw A (2 * N))) m := by
  rw [← pw_even]
  exact (G.md_eq_iff hm).2 (G.C_mul (G.C_refl m O) (G.C_pw N (G.C_comm (G.md_C _ hm))))

set_option maxHeartbeats 1000000 in
theorem Gcd_ok (a b : Nat) (w : World) (ha : a ≤ 2147483647) (hb : b ≤ 2147483647) :
    Calls Try.prog 24 #[.int .i64 a, .int .i64 b] w fun e w' => e = .returned (.tuple #[.int .i64 (G.gcd a b), .int .i64 0]) ∧ w = w' := by
  go_enter Try.func24, Try.ntmps24
  go_wp2_with fail
  refine (two_ok a b _ (by omega) (by omega) (by omega) (by omega)).mono ?_
  rintro e w' ⟨rfl, rfl⟩
  go_wp2_with fail
  go_loop [0, 1] (fun x y => ∃ A B : Nat, A ≤ 2147483647 ∧ B ≤ 2147483647 ∧ x = .int .i64 A ∧ y = .int .i64 B ∧ Hid (G.gcd A B = G.gcd a b)) (fun _ y => G.L (intOf y).toNat)
  case atStart => exact ⟨a, b, ha, hb, rfl, rfl, Lib.hid rfl⟩
  case round =>
    obtain ⟨A, B, hA, hB, rfl, rfl, hG⟩ := hrel
    by_cases h0 : B = 0
    · subst h0
      go_wp2_with fail
      go_ret2
      have h := hG.out
      rw [G.gcd_zero] at h
      rw [← h]
      exact ⟨rfl, rfl⟩
    · have h1 : G.md A B ≤ 2147483647 := md_le h0 hB
      have t : ((B : Int) == 0) = false := by simpa using h0
      have t' : ((B : Int) != 0) = true := by simpa using h0
      have N1 := Lib.hid (G.L_md A h0)
      have N2 := Lib.hid ((G.gcd_step A h0).symm.trans hG.out)
      have H := Lib.hid h0; clear h0
      go_wp2_with fail
      refine (over_any A B _ (by omega) H.out (by omega)).mono ?_
      rintro e w' ⟨rfl, rfl⟩
      go_wp2_with fail
      go_round
      case rel => exact ⟨B, G.md A B, hB, h1, rfl, rfl, N2⟩
      case measure => exact N1.out

end Go.Proofs.Ytabhlmbhfbpceaa
