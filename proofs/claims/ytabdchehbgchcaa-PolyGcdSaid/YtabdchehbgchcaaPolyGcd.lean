/- PolyGcd: the greatest common divisor divides both; whichever comes first it is the same; a common factor comes out; for every input. -/
import Derived.Test.YtabdchehbgchcaaPolyK
namespace Go.Proofs.Ytabdchehbgchcaa
open Go.RowKit

set_option maxRecDepth 100000 in
set_option maxHeartbeats 4000000 in
theorem polyGcd_zero (a0 a1 a2 : Int) (w : World) (c : Nat) (hc : c < 16384)
    (m0 : Ans2 35 #[.int .i64 6, .int .i64 5] (.int .i64 3) (.int .i64 0))
    (h1 : Ans1 27 #[.int .i64 a0, .int .i64 16] (.int .i64 0))
    (h2 : Ans1 27 #[.int .i64 a1, .int .i64 16] (.int .i64 0))
    (h3 : Ans1 27 #[.int .i64 a2, .int .i64 14] (.int .i64 c))
    (m1 : Ans2 35 #[.int .i64 0, .int .i64 0] (.int .i64 0) (.int .i64 0))
    (m2 : Ans2 26 #[.int .i64 0, .int .i64 (1 + c)] (.int .i64 0) (.int .i64 0)) :
    Calls Try.prog 9 #[.int .i64 a0, .int .i64 a1, .int .i64 a2] w fun e w' => e = .returned (.bool true) ∧ w = w' := by
  go_enter Try.func9, Try.ntmps9
  go_wp2_with fail
  refine (m0 _).mono ?_
  rintro e w' ⟨rfl, rfl⟩
  go_wp2_with fail
  refine (h1 _).mono ?_
  rintro e w' ⟨rfl, rfl⟩
  go_wp2_with fail
  refine (h2 _).mono ?_
  rintro e w' ⟨rfl, rfl⟩
  go_wp2_with fail
  refine (h3 _).mono ?_
  rintro e w' ⟨rfl, rfl⟩
  go_wp2_with fail
  refine (m1 _).mono ?_
  rintro e w' ⟨rfl, rfl⟩
  go_wp2_with fail
  refine (m1 _).mono ?_
  rintro e w' ⟨rfl, rfl⟩
  go_wp2_with fail
  refine (m2 _).mono ?_
  rintro e w' ⟨rfl, rfl⟩
  go_wp2_with fail
  refine (m2 _).mono ?_
  rintro e w' ⟨rfl, rfl⟩
  go_wp2_with fail
  refine (m1 _).mono ?_
  rintro e w' ⟨rfl, rfl⟩
  go_wp2_with fail
  refine (m2 _).mono ?_
  rintro e w' ⟨rfl, rfl⟩
  go_wp2_with fail
  go_ret
  exact ⟨rfl, rfl⟩

set_option maxRecDepth 100000 in
set_option maxHeartbeats 4000000 in
theorem polyGcd_core (a0 a1 a2 : Int) (w : World) (a b c g ac bc k q1 q2 q3 : Nat) (hc : c < 16384) (tg : ((g : Int) == 0) = false)
    (m0 : Ans2 35 #[.int .i64 6, .int .i64 5] (.int .i64 3) (.int .i64 0))
    (h1 : Ans1 27 #[.int .i64 a0, .int .i64 16] (.int .i64 a))
    (h2 : Ans1 27 #[.int .i64 a1, .int .i64 16] (.int .i64 b))
    (h3 : Ans1 27 #[.int .i64 a2, .int .i64 14] (.int .i64 c))
    (m1 : Ans2 35 #[.int .i64 a, .int .i64 b] (.int .i64 g) (.int .i64 0))
    (m2 : Ans2 35 #[.int .i64 b, .int .i64 a] (.int .i64 g) (.int .i64 0))
    (m3 : Ans2 26 #[.int .i64 a, .int .i64 (1 + c)] (.int .i64 ac) (.int .i64 0))
    (m4 : Ans2 26 #[.int .i64 b, .int .i64 (1 + c)] (.int .i64 bc) (.int .i64 0))
    (m5 : Ans2 35 #[.int .i64 ac, .int .i64 bc] (.int .i64 k) (.int .i64 0))
    (m6 : Ans2 26 #[.int .i64 g, .int .i64 (1 + c)] (.int .i64 k) (.int .i64 0))
    (m7 : Ans3 34 #[.int .i64 a, .int .i64 g] (.int .i64 q1) (.int .i64 0) (.int .i64 0))
    (m8 : Ans3 34 #[.int .i64 b, .int .i64 g] (.int .i64 q2) (.int .i64 0) (.int .i64 0))
    (m9 : Ans3 34 #[.int .i64 k, .int .i64 (1 + c)] (.int .i64 q3) (.int .i64 0) (.int .i64 0)) :
    Calls Try.prog 9 #[.int .i64 a0, .int .i64 a1, .int .i64 a2] w fun e w' => e = .returned (.bool true) ∧ w = w' := by
  go_enter Try.func9, Try.ntmps9
  go_wp2_with fail
  refine (m0 _).mono ?_
  rintro e w' ⟨rfl, rfl⟩
  go_wp2_with fail
  refine (h1 _).mono ?_
  rintro e w' ⟨rfl, rfl⟩
  go_wp2_with fail
  refine (h2 _).mono ?_
  rintro e w' ⟨rfl, rfl⟩
  go_wp2_with fail
  refine (h3 _).mono ?_
  rintro e w' ⟨rfl, rfl⟩
  go_wp2_with fail
  refine (m1 _).mono ?_
  rintro e w' ⟨rfl, rfl⟩
  go_wp2_with fail
  refine (m2 _).mono ?_
  rintro e w' ⟨rfl, rfl⟩
  go_wp2_with fail
  refine (m3 _).mono ?_
  rintro e w' ⟨rfl, rfl⟩
  go_wp2_with fail
  refine (m4 _).mono ?_
  rintro e w' ⟨rfl, rfl⟩
  go_wp2_with fail
  refine (m5 _).mono ?_
  rintro e w' ⟨rfl, rfl⟩
  go_wp2_with fail
  refine (m6 _).mono ?_
  rintro e w' ⟨rfl, rfl⟩
  go_wp2_with fail
  refine (m7 _).mono ?_
  rintro e w' ⟨rfl, rfl⟩
  go_wp2_with fail
  refine (m8 _).mono ?_
  rintro e w' ⟨rfl, rfl⟩
  go_wp2_with fail
  refine (m9 _).mono ?_
  rintro e w' ⟨rfl, rfl⟩
  go_wp2_with fail
  go_ret
  exact ⟨rfl, rfl⟩

theorem one_add_g (a : Nat) : (1 : Int) + a = ((1 + a : Nat) : Int) := by omega

theorem polyGcd_walk (a0 : Int) (a1 : Int) (a2 : Int) (_ : (Lit.int .i64 a0).wf = true) (_ : (Lit.int .i64 a1).wf = true) (_ : (Lit.int .i64 a2).wf = true) (w : World) :
    Calls Try.prog 9 #[.int .i64 a0, .int .i64 a1, .int .i64 a2] w fun e w' => e = .returned (.bool true) ∧ Grown w w' := by
  have ha := wi_lt a0 (2 ^ 16) (by omega)
  have hb := wi_lt a1 (2 ^ 16) (by omega)
  have hc := wi_lt a2 (2 ^ 14) (by omega)
  have h1 := less_is (a := a0) (n := 16) (N := 16) rfl (by omega) rfl
  have h2 := less_is (a := a1) (n := 16) (N := 16) rfl (by omega) rfl
  have h3 := less_is (a := a2) (n := 14) (N := 14) rfl (by omega) rfl
  generalize wi a0 (2 ^ 16) = a at *
  generalize wi a1 (2 ^ 16) = b at *
  generalize wi a2 (2 ^ 14) = c at *
  have q1 : 1 + c < 2 ^ 15 := by omega
  have g1 : G.gcd a b < 2 ^ 16 := G.L_le.1 (G.gcd_L (G.L_le.2 ha) (G.L_le.2 hb))
  have p1 := mul_lt_pow 30 ha q1 (by omega)
  have p2 := mul_lt_pow 30 hb q1 (by omega)
  have p3 := mul_lt_pow 30 g1 q1 (by omega)
  have m0 := Gcd_is (a := 6) (b := 5) (x := 3) (by omega) (by omega) (by decide +kernel)
  have key : Calls Try.prog 9 #[.int .i64 a0, .int .i64 a1, .int .i64 a2] w fun e w' => e = .returned (.bool true) ∧ w = w' := by
    by_cases hg : G.gcd a b = 0
    · obtain ⟨rfl, rfl⟩ := G.gcd_eq_zero hg
      exact polyGcd_zero a0 a1 a2 w c hc m0 h1 h2 h3 (Gcd_is (a := 0) (b := 0) (x := 0) (by omega) (by omega) rfl)
        (by rw [one_add_g]; exact Mul_is (a := 0) (x := 0) (by omega) (by omega) (G.zero_mul _) (by omega))
    · have d := G.gcd_D a b
      have hk : G.mul (G.gcd a b) (1 + c) ≤ 2147483647 := by omega
      refine polyGcd_core a0 a1 a2 w a b c (G.gcd a b) (G.mul a (1 + c)) (G.mul b (1 + c)) (G.mul (G.gcd a b) (1 + c)) _ _ _ hc (by simpa using hg) m0 h1 h2 h3
        (Gcd_is (by omega) (by omega) rfl) (Gcd_is (by omega) (by omega) (G.gcd_comm b a))
        (by rw [one_add_g]; exact Mul_is (by omega) (by omega) rfl (by omega)) (by rw [one_add_g]; exact Mul_is (by omega) (by omega) rfl (by omega))
        (Gcd_is (by omega) (by omega) (G.gcd_mul a b (1 + c))) (by rw [one_add_g]; exact Mul_is (by omega) (by omega) rfl hk)
        (Div_is (r := 0) (by omega) (by omega) hg rfl ((G.md_eq_zero hg).2 d.1)) (Div_is (r := 0) (by omega) (by omega) hg rfl ((G.md_eq_zero hg).2 d.2))
        (by rw [one_add_g]; exact Div_is (r := 0) hk (by omega) (by omega) rfl ((G.md_eq_zero (by omega)).2 (G.D_mul _ (G.D_refl _))))
  refine key.mono ?_
  rintro e w' ⟨he, rfl⟩
  exact ⟨he, Grown.refl _⟩

end Go.Proofs.Ytabdchehbgchcaa
