/- PrimeMany: there are just so many irreducible polynomials of a degree as Count says: gone through one by one; for every input. -/
import Derived.Test.YtabdchehbgchcaaPrimeCW
namespace Go.Proofs.Ytabdchehbgchcaa
open Go.RowKit

theorem many_le (s k : Nat) : G.many s k ≤ k := by
  induction k with
  | zero => exact Nat.le_refl _
  | succ k ih => rw [G.many]; split <;> omega

set_option maxRecDepth 100000 in
set_option maxHeartbeats 2000000 in
theorem primeMany_core (a0 : Int) (w : World) (j n M C : Nat) (hn1 : 1 ≤ n) (hn : n ≤ 7) (hj : j ≤ 6) (hM : M ≤ 128)
    (HE : Hid ((1 : Int) + j = n))
    (HC : Hid (G.many M M = C)) (q1 : IntKind.i64.wrap ((2 : Int) ^ n) = (M : Int)) (q2 : IntKind.i64.wrap ((2 : Int) ^ (n + 1)) = 2 * (M : Int))
    (h1 : Ans1 25 #[.int .i64 a0, .int .i64 7] (.int .i64 j))
    (C3 : Dra2 24 #[.int .i64 3] (.int .i64 2) (.int .i64 0))
    (Cn : Dra2 24 #[.int .i64 n] (.int .i64 C) (.int .i64 0)) :
    Calls Try.prog 22 #[.int .i64 a0] w fun e w' => e = .returned (.bool true) ∧ ∃ k, w' = w.drewN k := by
  go_enter Try.func22, Try.ntmps22
  go_wp2_with fail
  with_reducible refine C3.use ?_
  rintro e w' ⟨rfl, k1, rfl⟩
  go_wp2_with fail
  with_reducible refine h1.use ?_
  rintro e w' ⟨rfl, rfl⟩
  go_wp2_with fail
  rw [HE.out]
  with_reducible refine Cn.use ?_
  rintro e w' ⟨rfl, k2, rfl⟩
  go_wp2_with fail
  go_loop [6, 7, 8] (fun e s c => ∃ k : Nat, k ≤ M ∧ e = .int .i64 0 ∧ c = .int .i64 (M + k : Nat) ∧ s = .int .i64 (G.many M k)) (fun _ _ c => 300 - (intOf c).toNat)
  case atStart => exact ⟨0, by omega, rfl, rfl, rfl⟩
  case round =>
    obtain ⟨k, hk, rfl, rfl, rfl⟩ := hrel
    obtain ⟨p, hI, hp1, hp2, hno, NX⟩ := next_ex (M + k) (by omega)
    rw [← castA] at NX
    have HNO := Lib.hid hno; clear hno
    have HI := Lib.hid hI; clear hI
    by_cases hlt : p < M + M
    · obtain ⟨d, hd⟩ : ∃ d, Hid (p = M + d) := ⟨p - M, Lib.hid (by omega)⟩
      have hd1 : k ≤ d := by have := hd.out; omega
      have hd2 : d < M := by have := hd.out; omega
      have hmk : G.many M d = G.many M k := G.many_none M k d (fun x h1 h2 => (G.irrB_false x).2 (HNO.out x h1 (by have := hd.out; omega))) hd1
      have hmk2 : G.many M (d + 1) = G.many M k + 1 := by
        rw [G.many, hmk, (G.irrB_iff (M + d)).2 (by rw [← hd.out]; exact HI.out), if_pos rfl]
      have HK := Lib.hid hmk2; clear hmk hmk2
      have hle : G.many M k ≤ 128 := Nat.le_trans (many_le M k) (by omega)
      go_wp2_with fail
      with_reducible refine NX.use ?_
      rintro e w' ⟨rfl, rfl⟩
      go_wp2_with fail
      go_round
      case rel => exact ⟨d + 1, by omega, rfl, by rw [hd.out]; go_num, by rw [HK.out]; go_num⟩
      case measure => simp [intOf]; omega
    · have hmk : G.many M M = G.many M k := G.many_none M k M (fun x h1 h2 => (G.irrB_false x).2 (HNO.out x h1 (by omega))) hk
      have HK : Hid (G.many M k = C) := Lib.hid (by rw [← hmk]; exact HC.out)
      clear hmk
      go_wp2_with fail
      with_reducible refine NX.use ?_
      rintro e w' ⟨rfl, rfl⟩
      go_wp2_with fail
      go_ret
      exact ⟨retb (by rw [HK.out]; simp), _, rfl⟩

theorem primeMany_walk (a0 : Int) (_ : (Lit.int .i64 a0).wf = true) (w : World) :
    Calls Try.prog 22 #[.int .i64 a0] w fun e w' => e = .returned (.bool true) ∧ Grown w w' := by
  have hj := wi_lt a0 7 (by omega)
  have h1 := within_is (k := a0) (n := 7) (N := 7) rfl (by omega) (by omega) rfl
  generalize wi a0 7 = j at *
  have hfin := G.many_fin ⟨1 + j, by omega⟩ (show 1 ≤ 1 + j by omega)
  have hM : 2 ^ (1 + j) ≤ 2 ^ 7 := Nat.pow_le_pow_right (by omega) (by omega)
  have hM2 : 2 ^ (1 + j + 1) = 2 * 2 ^ (1 + j) := by rw [Nat.pow_succ]; omega
  refine (primeMany_core a0 w j (1 + j) (2 ^ (1 + j)) (G.many (2 ^ (1 + j)) (2 ^ (1 + j))) (by omega) (by omega) (by omega) (by omega) (Lib.hid (by omega)) (Lib.hid rfl)
    (by rw [two_pow_cast]; generalize 2 ^ (1 + j) = P at *; exact wr64 (by omega))
    (by rw [two_pow_cast, hM2]; generalize 2 ^ (1 + j) = P at *; rw [show ((2 * P : Nat) : Int) = 2 * (P : Int) from by omega]; exact wr64 (by omega))
    h1 (Count_is (n := 3) (by omega) (by omega) (by decide +kernel)) (Count_is (by omega) (by omega) hfin.symm)).mono ?_
  rintro e w' ⟨he, n, rfl⟩
  exact ⟨he, grown_drewN _ _⟩

end Go.Proofs.Ytabdchehbgchcaa
