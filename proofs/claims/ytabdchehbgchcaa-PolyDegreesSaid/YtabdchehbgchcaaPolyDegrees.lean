/- PolyDegrees: degrees of a product come together; that of a sum is no greater than both; for every input. -/
import Derived.Test.YtabdchehbgchcaaPolyK
namespace Go.Proofs.Ytabdchehbgchcaa
open Go.RowKit

set_option maxRecDepth 100000 in
set_option maxHeartbeats 4000000 in
theorem polyDegrees_core (a0 a1 : Int) (w : World) (a b p s X Y : Nat) (W : Int)
    (hX : X ≤ 64) (hY : Y ≤ 64) (hW1 : -1 ≤ W) (hW2 : W ≤ 64)
    (d0 : Ans2 32 #[.int .i64 0] (.int .i64 (-1)) (.int .i64 0))
    (h1 : Ans1 27 #[.int .i64 a0, .int .i64 14] (.int .i64 a))
    (h2 : Ans1 27 #[.int .i64 a1, .int .i64 14] (.int .i64 b))
    (ha : a < 16384) (hb : b < 16384)
    (m1 : Ans2 26 #[.int .i64 (1 + a), .int .i64 (1 + b)] (.int .i64 p) (.int .i64 0))
    (m2 : Ans2 28 #[.int .i64 (1 + a), .int .i64 (1 + b)] (.int .i64 s) (.int .i64 0))
    (m3 : Ans2 32 #[.int .i64 (1 + a)] (.int .i64 X) (.int .i64 0))
    (m4 : Ans2 32 #[.int .i64 (1 + b)] (.int .i64 Y) (.int .i64 0))
    (m5 : Ans2 32 #[.int .i64 p] (.int .i64 (X + Y)) (.int .i64 0))
    (m6 : Ans2 32 #[.int .i64 s] (.int .i64 W) (.int .i64 0))
    (hle : W ≤ X ∨ W ≤ Y) (hne : X ≠ Y → W = max X Y) :
    Calls Try.prog 7 #[.int .i64 a0, .int .i64 a1] w fun e w' => e = .returned (.bool true) ∧ w = w' := by
  rcases Nat.lt_trichotomy X Y with h | h | h
  · have e := hne (by omega)
    have HE := Lib.hid (show W = Y by omega); clear e hne hle
    obtain rfl := HE.out
    have t : ((X : Int) == Y) = false := by simp; omega
    go_enter Try.func7, Try.ntmps7
    go_wp2_with fail
    refine (d0 _).mono ?_
    rintro e w' ⟨rfl, rfl⟩
    go_wp2_with fail
    refine (h1 _).mono ?_
    rintro e w' ⟨rfl, rfl⟩
    go_wp2_with fail
    refine (h2 _).mono ?_
    rintro e w' ⟨rfl, rfl⟩
    go_wp2_with fail
    refine (m1 _).mono ?_
    rintro e w' ⟨rfl, rfl⟩
    go_wp2_with fail
    refine (m2 _).mono ?_
    rintro e w' ⟨rfl, rfl⟩
    go_wp2_with fail
    refine (m3 _).mono ?_
    rintro e w' ⟨rfl, rfl⟩
    go_wp2_with fail
    refine (m4 _).mono ?_
    rintro e w' ⟨rfl, rfl⟩
    go_wp2_with fail
    refine (m5 _).mono ?_
    rintro e w' ⟨rfl, rfl⟩
    go_wp2_with fail
    refine (m6 _).mono ?_
    rintro e w' ⟨rfl, rfl⟩
    go_wp2_with fail
    go_ret
    exact ⟨retb (by simp; omega), rfl⟩
  · subst h
    have hle' : W ≤ X := by omega
    clear hne hle
    go_enter Try.func7, Try.ntmps7
    go_wp2_with fail
    refine (d0 _).mono ?_
    rintro e w' ⟨rfl, rfl⟩
    go_wp2_with fail
    refine (h1 _).mono ?_
    rintro e w' ⟨rfl, rfl⟩
    go_wp2_with fail
    refine (h2 _).mono ?_
    rintro e w' ⟨rfl, rfl⟩
    go_wp2_with fail
    refine (m1 _).mono ?_
    rintro e w' ⟨rfl, rfl⟩
    go_wp2_with fail
    refine (m2 _).mono ?_
    rintro e w' ⟨rfl, rfl⟩
    go_wp2_with fail
    refine (m3 _).mono ?_
    rintro e w' ⟨rfl, rfl⟩
    go_wp2_with fail
    refine (m4 _).mono ?_
    rintro e w' ⟨rfl, rfl⟩
    go_wp2_with fail
    refine (m5 _).mono ?_
    rintro e w' ⟨rfl, rfl⟩
    go_wp2_with fail
    refine (m6 _).mono ?_
    rintro e w' ⟨rfl, rfl⟩
    go_wp2_with fail
    go_ret
    exact ⟨rfl, rfl⟩
  · have e := hne (by omega)
    have HE := Lib.hid (show W = X by omega); clear e hne hle
    obtain rfl := HE.out
    have t : ((X : Int) == Y) = false := by simp; omega
    go_enter Try.func7, Try.ntmps7
    go_wp2_with fail
    refine (d0 _).mono ?_
    rintro e w' ⟨rfl, rfl⟩
    go_wp2_with fail
    refine (h1 _).mono ?_
    rintro e w' ⟨rfl, rfl⟩
    go_wp2_with fail
    refine (h2 _).mono ?_
    rintro e w' ⟨rfl, rfl⟩
    go_wp2_with fail
    refine (m1 _).mono ?_
    rintro e w' ⟨rfl, rfl⟩
    go_wp2_with fail
    refine (m2 _).mono ?_
    rintro e w' ⟨rfl, rfl⟩
    go_wp2_with fail
    refine (m3 _).mono ?_
    rintro e w' ⟨rfl, rfl⟩
    go_wp2_with fail
    refine (m4 _).mono ?_
    rintro e w' ⟨rfl, rfl⟩
    go_wp2_with fail
    refine (m5 _).mono ?_
    rintro e w' ⟨rfl, rfl⟩
    go_wp2_with fail
    refine (m6 _).mono ?_
    rintro e w' ⟨rfl, rfl⟩
    go_wp2_with fail
    go_ret
    exact ⟨retb (by simp; omega), rfl⟩

theorem one_add (a : Nat) : (1 : Int) + a = ((1 + a : Nat) : Int) := by omega

theorem polyDegrees_walk (a0 : Int) (a1 : Int) (_ : (Lit.int .i64 a0).wf = true) (_ : (Lit.int .i64 a1).wf = true) (w : World) :
    Calls Try.prog 7 #[.int .i64 a0, .int .i64 a1] w fun e w' => e = .returned (.bool true) ∧ Grown w w' := by
  have ha := wi_lt a0 (2 ^ 14) (by omega)
  have hb := wi_lt a1 (2 ^ 14) (by omega)
  have h1 := less_is (a := a0) (n := 14) (N := 14) rfl (by omega) rfl
  have h2 := less_is (a := a1) (n := 14) (N := 14) rfl (by omega) rfl
  generalize wi a0 (2 ^ 14) = a at *
  generalize wi a1 (2 ^ 14) = b at *
  have q1 : 1 + a < 2 ^ 15 := by omega
  have q2 : 1 + b < 2 ^ 15 := by omega
  have p1 := mul_lt_pow 29 q1 q2 (by omega)
  have p2 : (1 + a) ^^^ (1 + b) < 2 ^ 15 := Nat.xor_lt_two_pow q1 q2
  have l0 := G.L_mul (1 + a) (1 + b) (by omega) (by omega)
  have l1 : 0 < G.L (1 + a) := G.L_pos.2 (by omega)
  have l2 : 0 < G.L (1 + b) := G.L_pos.2 (by omega)
  have l3 : G.L (1 + a) ≤ 15 := G.L_le.2 q1
  have l4 : G.L (1 + b) ≤ 15 := G.L_le.2 q2
  have l5 := G.L_xor_le (1 + a) (1 + b)
  have l6 : G.L (1 + a) < G.L (1 + b) → G.L ((1 + a) ^^^ (1 + b)) = G.L (1 + b) := G.L_xor_of_lt
  have l7 : G.L (1 + b) < G.L (1 + a) → G.L ((1 + a) ^^^ (1 + b)) = G.L (1 + a) := G.L_xor_of_gt
  refine (polyDegrees_core a0 a1 w a b (G.mul (1 + a) (1 + b)) ((1 + a) ^^^ (1 + b)) (G.L (1 + a) - 1) (G.L (1 + b) - 1) ((G.L ((1 + a) ^^^ (1 + b)) : Int) - 1)
    (by omega) (by omega) (by omega) (by omega) (Deg_is (a := 0) (by omega) rfl) h1 h2 ha hb
    (by rw [one_add, one_add]; exact Mul_is (by omega) (by omega) rfl (by omega))
    (by rw [one_add, one_add]; exact Add_is (by omega) (by omega) rfl)
    (by rw [one_add]; exact Deg_is (by omega) (by omega)) (by rw [one_add]; exact Deg_is (by omega) (by omega))
    (Deg_is (by omega) (by omega)) (Deg_is (by omega) rfl) (by omega) (by omega)).mono ?_
  rintro e w' ⟨he, rfl⟩
  exact ⟨he, Grown.refl _⟩

end Go.Proofs.Ytabdchehbgchcaa
