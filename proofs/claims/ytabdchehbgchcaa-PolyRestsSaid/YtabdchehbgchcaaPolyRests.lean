/- PolyRests: what is left of a product is that of what is left, whichever two come first; for every input. -/
import Derived.Test.YtabdchehbgchcaaPolyK
namespace Go.Proofs.Ytabdchehbgchcaa
open Go.RowKit

set_option maxRecDepth 100000 in
set_option maxHeartbeats 4000000 in
theorem polyRests_core (a0 a1 a2 a3 : Int) (w : World) (a b c m qa ra qb rb x z u : Nat) (d k : Int) (hm : m < 2147483646)
    (m0 : Ans2 33 #[.int .i64 6, .int .i64 5, .int .i64 7] (.int .i64 2) (.int .i64 0))
    (h1 : Ans1 25 #[.int .i64 a0, .int .i64 2147483647] (.int .i64 a))
    (h2 : Ans1 25 #[.int .i64 a1, .int .i64 2147483647] (.int .i64 b))
    (h3 : Ans1 25 #[.int .i64 a2, .int .i64 2147483647] (.int .i64 c))
    (h4 : Ans1 25 #[.int .i64 a3, .int .i64 2147483646] (.int .i64 m))
    (m1 : Ans3 34 #[.int .i64 a, .int .i64 (2 + m)] (.int .i64 qa) (.int .i64 ra) (.int .i64 0))
    (m2 : Ans3 34 #[.int .i64 b, .int .i64 (2 + m)] (.int .i64 qb) (.int .i64 rb) (.int .i64 0))
    (m3 : Ans2 33 #[.int .i64 a, .int .i64 b, .int .i64 (2 + m)] (.int .i64 x) (.int .i64 0))
    (m4 : Ans2 33 #[.int .i64 ra, .int .i64 rb, .int .i64 (2 + m)] (.int .i64 x) (.int .i64 0))
    (m5 : Ans2 33 #[.int .i64 x, .int .i64 c, .int .i64 (2 + m)] (.int .i64 z) (.int .i64 0))
    (m6 : Ans2 33 #[.int .i64 b, .int .i64 c, .int .i64 (2 + m)] (.int .i64 u) (.int .i64 0))
    (m7 : Ans2 33 #[.int .i64 a, .int .i64 u, .int .i64 (2 + m)] (.int .i64 z) (.int .i64 0))
    (m8 : Ans2 32 #[.int .i64 x] (.int .i64 d) (.int .i64 0))
    (m9 : Ans2 32 #[.int .i64 (2 + m)] (.int .i64 k) (.int .i64 0))
    (hdk : d < k) :
    Calls Try.prog 8 #[.int .i64 a0, .int .i64 a1, .int .i64 a2, .int .i64 a3] w fun e w' => e = .returned (.bool true) ∧ Grown w w' := by
  go_enter Try.func8, Try.ntmps8
  go_wp2_with fail
  refine (m0 _).mono ?_
  rintro e w' ⟨rfl, rfl⟩
  go_wp2_with fail
  refine (h1 _).mono ?_
  rintro e w' ⟨rfl, rfl⟩
  go_wp2_with fail
  refine (h2 _).mono ?_
  rintro e w' ⟨rfl, rfl⟩
  go_wp2_with fail
  refine (h3 _).mono ?_
  rintro e w' ⟨rfl, rfl⟩
  go_wp2_with fail
  refine (h4 _).mono ?_
  rintro e w' ⟨rfl, rfl⟩
  go_wp2_with fail
  refine (m1 _).mono ?_
  rintro e w' ⟨rfl, rfl⟩
  go_wp2_with fail
  refine (m2 _).mono ?_
  rintro e w' ⟨rfl, rfl⟩
  go_wp2_with fail
  refine (m3 _).mono ?_
  rintro e w' ⟨rfl, rfl⟩
  go_wp2_with fail
  refine (m4 _).mono ?_
  rintro e w' ⟨rfl, rfl⟩
  go_wp2_with fail
  refine (m5 _).mono ?_
  rintro e w' ⟨rfl, rfl⟩
  go_wp2_with fail
  refine (m6 _).mono ?_
  rintro e w' ⟨rfl, rfl⟩
  go_wp2_with fail
  refine (m7 _).mono ?_
  rintro e w' ⟨rfl, rfl⟩
  go_wp2_with fail
  refine (m8 _).mono ?_
  rintro e w' ⟨rfl, rfl⟩
  go_wp2_with fail
  refine (m9 _).mono ?_
  rintro e w' ⟨rfl, rfl⟩
  go_wp2_with fail
  go_loop [122, 32] (fun i _ => ∃ k : Nat, k ≤ 9 ∧ i = .int .i64 k) (fun i _ => 9 - (intOf i).toNat)
  case atStart => exact ⟨0, by omega, rfl⟩
  case round =>
    obtain ⟨j, hj, rfl⟩ := hrel
    by_cases hlt : j < 9
    · have hc := cell_new w (T := 22) (lit9 (Value.int .i64 0) hlt)
      go_wp2_with fail
      go_round
      case rel => exact ⟨j + 1, by omega, by go_num⟩
      case measure => simp [intOf]; omega
    · go_wp2_with fail
      go_ret
      exact ⟨retb (by first | (simp; done) | (simp; omega)), (Grown.refl w).alloc _ _⟩

theorem two_add (a : Nat) : (2 : Int) + a = ((2 + a : Nat) : Int) := by omega

theorem polyRests_walk (a0 : Int) (a1 : Int) (a2 : Int) (a3 : Int) (_ : (Lit.int .i64 a0).wf = true) (_ : (Lit.int .i64 a1).wf = true) (_ : (Lit.int .i64 a2).wf = true) (_ : (Lit.int .i64 a3).wf = true) (w : World) :
    Calls Try.prog 8 #[.int .i64 a0, .int .i64 a1, .int .i64 a2, .int .i64 a3] w fun e w' => e = .returned (.bool true) ∧ Grown w w' := by
  have ha := wi_lt a0 2147483647 (by omega)
  have hb := wi_lt a1 2147483647 (by omega)
  have hc := wi_lt a2 2147483647 (by omega)
  have hm := wi_lt a3 2147483646 (by omega)
  have h1 := within_is (k := a0) (n := 2147483647) (N := 2147483647) rfl (by omega) (by omega) rfl
  have h2 := within_is (k := a1) (n := 2147483647) (N := 2147483647) rfl (by omega) (by omega) rfl
  have h3 := within_is (k := a2) (n := 2147483647) (N := 2147483647) rfl (by omega) (by omega) rfl
  have h4 := within_is (k := a3) (n := 2147483646) (N := 2147483646) rfl (by omega) (by omega) rfl
  generalize wi a0 2147483647 = a at *
  generalize wi a1 2147483647 = b at *
  generalize wi a2 2147483647 = c at *
  generalize wi a3 2147483646 = m at *
  have h0 : 2 + m ≠ 0 := by omega
  have r1 : ∀ x, G.md x (2 + m) ≤ 2147483647 := fun x => md_le h0 (by omega)
  have hL := G.L_md (G.mul a b) h0
  refine polyRests_core a0 a1 a2 a3 w a b c m (G.qt a (2 + m)) (G.md a (2 + m)) (G.qt b (2 + m)) (G.md b (2 + m)) (G.md (G.mul a b) (2 + m)) (G.md (G.mul (G.mul a b) c) (2 + m)) (G.md (G.mul b c) (2 + m))
    ((G.L (G.md (G.mul a b) (2 + m)) : Int) - 1) ((G.L (2 + m) : Int) - 1) (by omega)
    (ModMul_is (a := 6) (b := 5) (m := 7) (x := 2) (by omega) (by omega) (by omega) (by omega) (by decide +kernel)) h1 h2 h3 h4
    (by rw [two_add]; exact Div_is (by omega) (by omega) h0 rfl rfl) (by rw [two_add]; exact Div_is (by omega) (by omega) h0 rfl rfl)
    (by rw [two_add]; exact ModMul_is (by omega) (by omega) (by omega) h0 rfl)
    (by rw [two_add]; exact ModMul_is (r1 _) (r1 _) (by omega) h0 (G.md_mul_both _ _ h0))
    (by rw [two_add]; exact ModMul_is (r1 _) (by omega) (by omega) h0 (G.md_mul_left _ _ h0))
    (by rw [two_add]; exact ModMul_is (by omega) (by omega) (by omega) h0 rfl)
    (by rw [two_add]; exact ModMul_is (by omega) (r1 _) (by omega) h0 (by rw [G.md_mul_right _ _ h0, G.mul_assoc]))
    (Deg_is (r1 _) rfl) (by rw [two_add]; exact Deg_is (by omega) rfl) (by omega)

end Go.Proofs.Ytabdchehbgchcaa
