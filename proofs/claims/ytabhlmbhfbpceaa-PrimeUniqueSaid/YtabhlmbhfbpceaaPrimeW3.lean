/- The walks of package prime: is, Is, Next. -/
import Derived.Test.YtabhlmbhfbpceaaPrimeW2
namespace Go.Proofs.Ytabhlmbhfbpceaa
open Go.RowKit

set_option maxRecDepth 100000 in
set_option maxHeartbeats 1000000 in
theorem is_unlike (m n x y : Nat) (w : World) (hm : m ≤ 2147483647) (h2 : 2 ≤ m) (hn : G.L m = n + 1) (hx : G.md 2 m = x) (hx' : G.md (G.pw 2 (2 ^ n)) m = y) (hxy : x ≠ y) :
    Calls Try.prog 13 #[.int .i64 m] w fun e w' => e = .returned (.bool (G.irrB m)) ∧ w = w' := by
  have HX := Lib.hid hx; have HX' := Lib.hid hx'; clear hx hx'
  have h0 : m ≠ 0 := by omega
  have hL : G.L m ≤ 31 := G.L_le.2 (by omega)
  have hL2 : G.L 2 ≤ G.L m := G.L_mono h2
  rw [G.L_two] at hL2
  have hn1 : 1 ≤ n := by omega
  have D1 := Deg_is (a := m) (x := n) hm (by omega)
  have M1 := ModMul_is (a := 2) (b := 1) (m := m) (x := x) (by omega) (by omega) hm h0 (by rw [G.mul_one, HX.out])
  have S1 := squared_is (n := n) (N := n) rfl (by omega) hm h0 HX'.out
  have t : ((y : Int) == x) = false := by simp; omega
  have NO : Hid (G.irrB m = false) := by
    refine Lib.hid ((G.irrB_false m).2 (fun hI => hxy ?_))
    rw [← HX.out, ← HX'.out]
    exact ((G.md_eq_iff h0).2 ((G.rabin hn hn1).1 hI).1).symm
  clear hn h0 hL hL2 hxy
  go_enter Try.func13, Try.ntmps13
  go_wp2_with fail
  refine (D1 _).mono ?_
  rintro e w' ⟨rfl, rfl⟩
  go_wp2_with fail
  refine (M1 _).mono ?_
  rintro e w' ⟨rfl, rfl⟩
  go_wp2_with fail
  refine (S1 _).mono ?_
  rintro e w' ⟨rfl, rfl⟩
  go_wp2_with fail
  go_ret
  exact ⟨retb NO.out.symm, rfl⟩

theorem is_any (m : Nat) (w : World) (hm : m ≤ 2147483647) :
    Calls Try.prog 13 #[.int .i64 m] w fun e w' => e = .returned (.bool (G.irrB m)) ∧ w = w' := by
  by_cases h2 : m < 2
  · have : G.irrB m = false := by unfold G.irrB; rw [decide_eq_false (by omega)]; rfl
    rw [this]; exact is_low m w h2
  · obtain ⟨n, hn⟩ : ∃ n, G.L m = n + 1 := ⟨G.L m - 1, by have := G.L_pos.2 (show m ≠ 0 by omega); omega⟩
    by_cases hxy : G.md 2 m = G.md (G.pw 2 (2 ^ n)) m
    · exact is_high m n _ w hm (by omega) hn rfl hxy.symm
    · exact is_unlike m n _ _ w hm (by omega) hn rfl rfl hxy

theorem is_is {m : Nat} {b : Bool} (hm : m ≤ 2147483647) (hb : G.irrB m = b) : Ans1 13 #[.int .i64 m] (.bool b) := by
  subst hb; exact fun w => is_any m w hm

set_option maxHeartbeats 1000000 in
theorem Next_ok (m p : Nat) (w : World) (hmp : m ≤ p) (hp : p ≤ 2147483647) (hI : G.Irr p) (hno : ∀ k, m ≤ k → k < p → ¬ G.Irr k) :
    Calls Try.prog 6 #[.int .i64 m] w fun e w' => e = .returned (.tuple #[.int .i64 p, .int .i64 0]) ∧ w = w' := by
  have I1 := is_is (b := true) hp ((G.irrB_iff p).2 hI)
  have HNO := Lib.hid hno; clear hno hI
  go_enter Try.func6, Try.ntmps6
  go_wp2_with fail
  refine (check_ok m _ (by omega) (by omega)).mono ?_
  rintro e w' ⟨rfl, rfl⟩
  go_wp2_with fail
  go_loop [0] (fun y => ∃ k : Nat, m ≤ k ∧ k ≤ p ∧ y = .int .i64 k) (fun y => p - (intOf y).toNat)
  case atStart => exact ⟨m, by omega, by omega, rfl⟩
  case round =>
    obtain ⟨k, hmk, hkp, rfl⟩ := hrel
    by_cases hlt : k < p
    · have I2 := is_is (m := k) (b := false) (by omega) ((G.irrB_false k).2 (HNO.out k hmk hlt))
      go_wp2_with fail
      refine (I2 _).mono ?_
      rintro e w' ⟨rfl, rfl⟩
      go_wp2_with fail
      go_round
      case rel => exact ⟨k + 1, by omega, by omega, by go_num⟩
      case measure => simp [intOf]; omega
    · obtain rfl : k = p := by omega
      go_wp2_with fail
      refine (I1 _).mono ?_
      rintro e w' ⟨rfl, rfl⟩
      go_wp2_with fail
      go_ret2
      exact ⟨rfl, rfl⟩

theorem Next_is {m p : Nat} (hmp : m ≤ p) (hp : p ≤ 2147483647) (hI : G.Irr p) (hno : ∀ k, m ≤ k → k < p → ¬ G.Irr k) :
    Ans2 6 #[.int .i64 m] (.int .i64 p) (.int .i64 0) := fun w => Next_ok m p w hmp hp hI hno

end Go.Proofs.Ytabhlmbhfbpceaa
