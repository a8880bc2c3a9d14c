/- PrimeGauss: of all degrees that divide n, so many irreducible polynomials of that degree, so many times, are 2 to the n; for every input. -/
import Derived.Test.YtabdchehbgchcaaPrimeCW
namespace Go.Proofs.Ytabdchehbgchcaa
open Go.RowKit

set_option maxRecDepth 100000 in
set_option maxHeartbeats 2000000 in
theorem primeGauss_core (a0 : Int) (w : World) (j n : Nat) (hj : j < 30) (hn : n = 1 + j)
    (h1 : Ans1 25 #[.int .i64 a0, .int .i64 30] (.int .i64 j)) :
    Calls Try.prog 3 #[.int .i64 a0] w fun e w' => e = .returned (.bool true) ∧ ∃ k, w' = w.drewN k := by
  have C4 : Dra2 24 #[.int .i64 4] (.int .i64 3) (.int .i64 0) := Count_is (n := 4) (by omega) (by omega) (by decide +kernel)
  have HG := Lib.hid (G.gauss n (by omega) (by omega))
  have hp : 2 ^ n ≤ 2 ^ 30 := Nat.pow_le_pow_right (by omega) (by omega)
  have q1 : IntKind.i64.wrap ((2 : Int) ^ n) = ((2 ^ n : Nat) : Int) := by
    rw [two_pow_cast]; generalize 2 ^ n = P at *; exact wr64 (by omega)
  have q1' : wrap64 ((2 : Int) ^ n) = ((2 ^ n : Nat) : Int) := by rw [← q1, IntWalk.i64_left]
  clear hp
  have e : (1 : Int) + j = n := by omega
  have HE := Lib.hid e; clear e
  have hn1 : 1 ≤ n := by omega
  have hn2 : n ≤ 30 := by omega
  clear hn
  go_enter Try.func3, Try.ntmps3
  go_wp2_with fail
  with_reducible refine C4.use ?_
  rintro e w' ⟨rfl, k1, rfl⟩
  go_wp2_with fail
  with_reducible refine h1.use ?_
  rintro e w' ⟨rfl, rfl⟩
  go_wp2_with fail
  rw [HE.out]
  go_loopw [5, 6] (fun s d wr => ∃ k : Nat, k ≤ n ∧ d = .int .i64 (k + 1 : Nat) ∧ s = .int .i64 (G.gsum n k) ∧ ∃ j, wr = w.drewN j) (fun _ d _ => 40 - (intOf d).toNat)
  case atStart => exact ⟨0, by omega, rfl, rfl, _, rfl⟩
  case round =>
    obtain ⟨k, hk, rfl, rfl, hj'⟩ := hrel
    by_cases hlt : k < n
    · have hc : G.gsum n (k + 1) = G.gsum n k + if n % (k + 1) = 0 then ((k + 1 : Nat) : Int) * G.countB (k + 1) else 0 := rfl
      have hb := G.gsum_le n k (by omega)
      have hb2 := G.gsum_le n (k + 1) (by omega)
      by_cases hm : n % (k + 1) = 0
      · have t1 : ¬ 0 < (n : Int) % ((k : Int) + 1) := by
          rw [show ((k : Int) + 1) = ((k + 1 : Nat) : Int) from by omega, ← Int.natCast_emod, hm]; omega
        have t2 : decide (0 < (n : Int) % ((k : Int) + 1)) = false := decide_eq_false t1
        rw [if_pos hm] at hc
        rw [hc] at hb2
        have hcl := G.count_le (k + 1) (by omega) (by omega)
        have CC : Dra2 24 #[.int .i64 ((k : Int) + 1)] (.int .i64 (G.countB (k + 1))) (.int .i64 0) := by
          rw [show ((k : Int) + 1) = ((k + 1 : Nat) : Int) from by omega]; exact Count_is (by omega) (by omega) rfl
        have ek : ((k + 1 : Nat) : Int) * G.countB (k + 1) = ((k : Int) + 1) * G.countB (k + 1) := by rw [show ((k + 1 : Nat) : Int) = (k : Int) + 1 from by omega]
        rw [ek] at hc hb2
        have HC := Lib.hid hc
        clear hc hm ek
        generalize G.countB (k + 1) = c at *
        generalize hV : ((k : Int) + 1) * c = V at *
        have q2 : IntKind.i64.wrap (((k : Int) + 1) * c) = V := by rw [hV]; exact wr64 (by omega)
        have q2' : wrap64 (((k : Int) + 1) * c) = V := by rw [← q2, IntWalk.i64_left]
        have HV := Lib.hid hV; clear hV
        go_wp2_with fail
        with_reducible refine CC.use ?_
        rintro e w' ⟨rfl, k2, rfl⟩
        go_wp2_with fail
        go_roundw
        case rel => exact ⟨k + 1, by omega, by go_num, by rw [HC.out], by obtain ⟨j, rfl⟩ := hj'; exact ⟨_, by first | rfl | exact dd _ _ _⟩⟩
        case measure => simp [intOf]; omega
      · have t1 : 0 < (n : Int) % ((k : Int) + 1) := by
          rw [show ((k : Int) + 1) = ((k + 1 : Nat) : Int) from by omega, ← Int.natCast_emod]; omega
        have t2 : decide (0 < (n : Int) % ((k : Int) + 1)) = true := decide_eq_true t1
        rw [if_neg hm] at hc
        have HC := Lib.hid hc; clear hc hm
        go_wp2_with fail
        go_roundw
        case rel => exact ⟨k + 1, by omega, by go_num, by rw [HC.out, Int.add_zero], hj'⟩
        case measure => simp [intOf]; omega
    · obtain rfl : k = n := by omega
      have hg := HG.out
      have t : (G.gsum k k == ((2 ^ k : Nat) : Int)) = true := by rw [beq_iff_eq]; exact hg
      have t' : (G.gsum k k == (2 : Int) ^ k) = true := by rw [beq_iff_eq, two_pow_cast]; exact hg
      clear hg
      go_wp2_with fail
      go_ret
      exact ⟨retb (by first | (simp; done) | assumption | (simp_all; done)), hj'⟩

theorem primeGauss_walk (a0 : Int) (_ : (Lit.int .i64 a0).wf = true) (w : World) :
    Calls Try.prog 3 #[.int .i64 a0] w fun e w' => e = .returned (.bool true) ∧ Grown w w' := by
  have hj := wi_lt a0 30 (by omega)
  have h1 := within_is (k := a0) (n := 30) (N := 30) rfl (by omega) (by omega) rfl
  refine (primeGauss_core a0 w (wi a0 30) _ hj rfl h1).mono ?_
  rintro e w' ⟨he, n, rfl⟩
  exact ⟨he, grown_drewN _ _⟩

end Go.Proofs.Ytabdchehbgchcaa
