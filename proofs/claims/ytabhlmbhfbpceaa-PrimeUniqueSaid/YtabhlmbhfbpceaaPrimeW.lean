/- The walks of package prime: squared, prime, is, Is, Next. -/
import Derived.Test.YtabhlmbhfbpceaaPolyK
import Derived.Test.YtabhlmbhfbpceaaPrimeP
namespace Go.Proofs.Ytabhlmbhfbpceaa
open Go.RowKit

set_option maxHeartbeats 1000000 in
theorem squared_any (n m : Nat) (w : World) (hn : n ≤ 60) (hm : m ≤ 2147483647) (h0 : m ≠ 0) :
    Calls Try.prog 22 #[.int .i64 n, .int .i64 m] w fun e w' => e = .returned (.int .i64 (G.md (G.pw 2 (2 ^ n)) m)) ∧ w = w' := by
  have M1 := ModMul_is (a := 2) (b := 1) (m := m) (x := G.md (G.pw 2 (2 ^ 0)) m) (by omega) (by omega) hm h0 (by rw [Nat.pow_zero, G.pw_one, G.mul_one])
  have H := Lib.hid h0; clear h0
  go_enter Try.func22, Try.ntmps22
  go_wp2_with fail
  refine (M1 _).mono ?_
  rintro e w' ⟨rfl, rfl⟩
  go_wp2_with fail
  go_loop [5, 13] (fun x i => ∃ k : Nat, k ≤ n ∧ i = .int .i64 k ∧ x = .int .i64 (G.md (G.pw 2 (2 ^ k)) m)) (fun _ i => n - (intOf i).toNat)
  case atStart => exact ⟨0, by omega, rfl, rfl⟩
  case round =>
    obtain ⟨k, hk, rfl, rfl⟩ := hrel
    by_cases hlt : k < n
    · have r : G.md (G.pw 2 (2 ^ k)) m ≤ 2147483647 := md_le H.out hm
      have M2 := ModMul_is (m := m) r r hm H.out (G.sq_next m k H.out)
      clear r
      go_wp2_with fail
      refine (M2 _).mono ?_
      rintro e w' ⟨rfl, rfl⟩
      go_wp2_with fail
      go_round
      case rel => exact ⟨k + 1, by omega, by go_num, rfl⟩
      case measure => simp [intOf]; omega
    · obtain rfl : k = n := by omega
      go_wp2_with fail
      go_ret
      exact ⟨rfl, rfl⟩

set_option maxHeartbeats 1000000 in
theorem prime_any (n : Nat) (w : World) (hn : n ≤ 31) :
    Calls Try.prog 23 #[.int .i64 n] w fun e w' => e = .returned (.bool (G.primeB n)) ∧ w = w' := by
  go_enter Try.func23, Try.ntmps23
  go_wp2_with fail
  go_loop [3] (fun x => ∃ d : Nat, 2 ≤ d ∧ d ≤ 6 ∧ x = .int .i64 d ∧ Hid (G.pl n (7 - d) d = G.primeB n)) (fun x => 10 - (intOf x).toNat)
  case atStart => exact ⟨2, by omega, by omega, rfl, Lib.hid rfl⟩
  case round =>
    obtain ⟨d, h2, h6, rfl, hP⟩ := hrel
    have h := hP.out
    obtain ⟨f, hf⟩ : ∃ f, 7 - d = f + 1 := ⟨6 - d, by omega⟩
    rw [hf, G.pl] at h
    have hf' : f = 7 - (d + 1) := by omega
    have hsq : d * d ≤ 36 := Nat.mul_le_mul h6 h6
    have ecast : (d : Int) * d = ((d * d : Nat) : Int) := by rw [Int.natCast_mul]
    have hdd : d * 6 ≤ d * d ∨ d ≤ 5 := by
      rcases Nat.lt_or_ge d 6 with h' | h'
      · right; omega
      · left; exact Nat.mul_le_mul_left d h'
    have q0 : IntKind.i64.wrap ((d : Int) * d) = (d : Int) * d := wr (by rw [ecast]; omega)
    by_cases hle : d * d ≤ n
    · have t1 : (d : Int) * d ≤ n := by rw [ecast]; omega
      have d5 : d ≤ 5 := by omega
      rw [if_pos hle] at h
      by_cases hz : n % d = 0
      · rw [if_pos hz] at h
        have t2 : ((n : Int) % d == 0) = true := by rw [beq_iff_eq, ← Int.natCast_emod, hz]; rfl
        have HH := Lib.hid h; clear h hf hf' ecast hdd hle hz hP
        go_wp2_with fail
        go_ret
        exact ⟨retb HH.out, rfl⟩
      · rw [if_neg hz, hf'] at h
        have t2 : ((n : Int) % d == 0) = false := by rw [beq_eq_false_iff_ne, ← Int.natCast_emod]; omega
        have HH := Lib.hid h; clear h hf hf' ecast hdd hle hz hP
        go_wp2_with fail
        go_round
        case rel => exact ⟨d + 1, by omega, by omega, by go_num, HH⟩
        case measure => simp [intOf]; omega
    · have t1 : ¬ (d : Int) * d ≤ n := by rw [ecast]; omega
      rw [if_neg hle] at h
      have HH := Lib.hid h; clear h hf hf' ecast hdd hle hP
      go_wp2_with fail
      go_ret
      exact ⟨retb (by rw [← HH.out]; simp; omega), rfl⟩

theorem squared_is {n m : Nat} {N : Int} {x : Nat} (hN : N = n) (hn : n ≤ 60) (hm : m ≤ 2147483647) (h0 : m ≠ 0) (hx : G.md (G.pw 2 (2 ^ n)) m = x) :
    Ans1 22 #[.int .i64 N, .int .i64 m] (.int .i64 x) := by
  subst hN; subst hx; exact fun w => squared_any n m w hn hm h0
theorem prime_is {n : Nat} {b : Bool} (hn : n ≤ 31) (hb : G.primeB n = b) : Ans1 23 #[.int .i64 n] (.bool b) := by
  subst hb; exact fun w => prime_any n w hn

end Go.Proofs.Ytabhlmbhfbpceaa
