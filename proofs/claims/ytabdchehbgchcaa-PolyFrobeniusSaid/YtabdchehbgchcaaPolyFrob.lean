/- PolyFrobenius: modulo any polynomial the square of a sum is the sum of the squares; powers come together; for every input. -/
import Derived.Test.YtabdchehbgchcaaPolyK
namespace Go.Proofs.Ytabdchehbgchcaa
open Go.RowKit

set_option maxRecDepth 100000 in
set_option maxHeartbeats 4000000 in
theorem polyFrob_core (a0 a1 a2 a3 a4 : Int) (w : World) (a b m i k s x y z p q r : Nat) (hm : m < 2147483646) (hi : i < 1048576) (hk : k < 1048576)
    (m0 : Ans2 36 #[.int .i64 2, .int .i64 3, .int .i64 7] (.int .i64 1) (.int .i64 0))
    (h1 : Ans1 25 #[.int .i64 a0, .int .i64 2147483647] (.int .i64 a))
    (h2 : Ans1 25 #[.int .i64 a1, .int .i64 2147483647] (.int .i64 b))
    (h3 : Ans1 25 #[.int .i64 a2, .int .i64 2147483646] (.int .i64 m))
    (h4 : Ans1 25 #[.int .i64 a3, .int .i64 1048576] (.int .i64 i))
    (h5 : Ans1 25 #[.int .i64 a4, .int .i64 1048576] (.int .i64 k))
    (m1 : Ans2 28 #[.int .i64 a, .int .i64 b] (.int .i64 s) (.int .i64 0))
    (m2 : Ans2 36 #[.int .i64 s, .int .i64 2, .int .i64 (2 + m)] (.int .i64 x) (.int .i64 0))
    (m3 : Ans2 36 #[.int .i64 a, .int .i64 2, .int .i64 (2 + m)] (.int .i64 y) (.int .i64 0))
    (m4 : Ans2 36 #[.int .i64 b, .int .i64 2, .int .i64 (2 + m)] (.int .i64 z) (.int .i64 0))
    (m5 : Ans2 28 #[.int .i64 y, .int .i64 z] (.int .i64 x) (.int .i64 0))
    (m6 : Ans2 36 #[.int .i64 a, .int .i64 i, .int .i64 (2 + m)] (.int .i64 p) (.int .i64 0))
    (m7 : Ans2 36 #[.int .i64 a, .int .i64 k, .int .i64 (2 + m)] (.int .i64 q) (.int .i64 0))
    (m8 : Ans2 36 #[.int .i64 a, .int .i64 (i + k), .int .i64 (2 + m)] (.int .i64 r) (.int .i64 0))
    (m9 : Ans2 33 #[.int .i64 p, .int .i64 q, .int .i64 (2 + m)] (.int .i64 r) (.int .i64 0)) :
    Calls Try.prog 11 #[.int .i64 a0, .int .i64 a1, .int .i64 a2, .int .i64 a3, .int .i64 a4] w fun e w' => e = .returned (.bool true) ∧ Grown w w' := by
  go_enter Try.func11, Try.ntmps11
  go_wp2_with fail
  refine (m0 _).mono ?_
  rintro e w' ⟨rfl, rfl⟩
  go_wp2_with fail
  refine (h1 _).mono ?_
  rintro e w' ⟨rfl, rfl⟩
  go_wp2_with fail
  refine (h2 _).mono ?_
  rintro e w' ⟨rfl, rfl⟩
  go_wp2_with fail
  refine (h3 _).mono ?_
  rintro e w' ⟨rfl, rfl⟩
  go_wp2_with fail
  refine (h4 _).mono ?_
  rintro e w' ⟨rfl, rfl⟩
  go_wp2_with fail
  refine (h5 _).mono ?_
  rintro e w' ⟨rfl, rfl⟩
  go_wp2_with fail
  refine (m1 _).mono ?_
  rintro e w' ⟨rfl, rfl⟩
  go_wp2_with fail
  refine (m2 _).mono ?_
  rintro e w' ⟨rfl, rfl⟩
  go_wp2_with fail
  refine (m3 _).mono ?_
  rintro e w' ⟨rfl, rfl⟩
  go_wp2_with fail
  refine (m4 _).mono ?_
  rintro e w' ⟨rfl, rfl⟩
  go_wp2_with fail
  refine (m5 _).mono ?_
  rintro e w' ⟨rfl, rfl⟩
  go_wp2_with fail
  refine (m6 _).mono ?_
  rintro e w' ⟨rfl, rfl⟩
  go_wp2_with fail
  refine (m7 _).mono ?_
  rintro e w' ⟨rfl, rfl⟩
  go_wp2_with fail
  refine (m8 _).mono ?_
  rintro e w' ⟨rfl, rfl⟩
  go_wp2_with fail
  refine (m9 _).mono ?_
  rintro e w' ⟨rfl, rfl⟩
  go_wp2_with fail
  go_loop [125, 32] (fun i _ => ∃ k : Nat, k ≤ 9 ∧ i = .int .i64 k) (fun i _ => 9 - (intOf i).toNat)
  case atStart => exact ⟨0, by omega, rfl⟩
  case round =>
    obtain ⟨j, hj, rfl⟩ := hrel
    by_cases hlt : j < 9
    · have hc := cell_new w (T := 22) (lit9 (Value.int .i64 0) hlt)
      go_wp2_with fail
      go_round
      case rel => exact ⟨j + 1, by omega, by go_num⟩
      case measure => simp [intOf]; omega
    · go_wp2_with fail
      go_ret
      exact ⟨rfl, (Grown.refl w).alloc _ _⟩

theorem two_add' (a : Nat) : (2 : Int) + a = ((2 + a : Nat) : Int) := by omega
theorem add_add' (a b : Nat) : (a : Int) + b = ((a + b : Nat) : Int) := by omega

theorem polyFrobenius_walk (a0 : Int) (a1 : Int) (a2 : Int) (a3 : Int) (a4 : Int) (_ : (Lit.int .i64 a0).wf = true) (_ : (Lit.int .i64 a1).wf = true) (_ : (Lit.int .i64 a2).wf = true) (_ : (Lit.int .i64 a3).wf = true) (_ : (Lit.int .i64 a4).wf = true) (w : World) :
    Calls Try.prog 11 #[.int .i64 a0, .int .i64 a1, .int .i64 a2, .int .i64 a3, .int .i64 a4] w fun e w' => e = .returned (.bool true) ∧ Grown w w' := by
  have ha := wi_lt a0 2147483647 (by omega)
  have hb := wi_lt a1 2147483647 (by omega)
  have hm := wi_lt a2 2147483646 (by omega)
  have hi := wi_lt a3 1048576 (by omega)
  have hk := wi_lt a4 1048576 (by omega)
  have h1 := within_is (k := a0) (n := 2147483647) (N := 2147483647) rfl (by omega) (by omega) rfl
  have h2 := within_is (k := a1) (n := 2147483647) (N := 2147483647) rfl (by omega) (by omega) rfl
  have h3 := within_is (k := a2) (n := 2147483646) (N := 2147483646) rfl (by omega) (by omega) rfl
  have h4 := within_is (k := a3) (n := 1048576) (N := 1048576) rfl (by omega) (by omega) rfl
  have h5 := within_is (k := a4) (n := 1048576) (N := 1048576) rfl (by omega) (by omega) rfl
  generalize wi a0 2147483647 = a at *
  generalize wi a1 2147483647 = b at *
  generalize wi a2 2147483646 = m at *
  generalize wi a3 1048576 = i at *
  generalize wi a4 1048576 = k at *
  have h0 : 2 + m ≠ 0 := by omega
  have r1 : ∀ x, G.md x (2 + m) ≤ 2147483647 := fun x => md_le h0 (by omega)
  have hs : a ^^^ b < 2 ^ 31 := Nat.xor_lt_two_pow (by omega) (by omega)
  refine polyFrob_core a0 a1 a2 a3 a4 w a b m i k (a ^^^ b) (G.md (G.pw (a ^^^ b) 2) (2 + m)) (G.md (G.pw a 2) (2 + m)) (G.md (G.pw b 2) (2 + m)) (G.md (G.pw a i) (2 + m)) (G.md (G.pw a k) (2 + m)) (G.md (G.pw a (i + k)) (2 + m))
    (by omega) (by omega) (by omega)
    (ModPow_is (a := 2) (n := 3) (m := 7) (x := 1) (by omega) (by omega) (by omega) (by omega) (by decide +kernel)) h1 h2 h3 h4 h5
    (Add_is (by omega) (by omega) rfl)
    (by rw [two_add']; exact ModPow_is (n := 2) (by omega) (by omega) (by omega) h0 rfl) (by rw [two_add']; exact ModPow_is (n := 2) (by omega) (by omega) (by omega) h0 rfl)
    (by rw [two_add']; exact ModPow_is (n := 2) (by omega) (by omega) (by omega) h0 rfl)
    (Add_is (r1 _) (r1 _) (by rw [← G.md_xor _ _ h0, G.pw_two, G.pw_two, G.pw_two, G.sq_xor]))
    (by rw [two_add']; exact ModPow_is (by omega) (by omega) (by omega) h0 rfl) (by rw [two_add']; exact ModPow_is (by omega) (by omega) (by omega) h0 rfl)
    (by rw [two_add', add_add']; exact ModPow_is (by omega) (by omega) (by omega) h0 rfl)
    (by rw [two_add']; exact ModMul_is (r1 _) (r1 _) (by omega) h0 (by rw [G.md_mul_both _ _ h0, G.pw_add]))

end Go.Proofs.Ytabdchehbgchcaa
