/- PolyTurned: of two polynomials with a 1 at their ends, read from the other end, the product is the product, read from the other end; and irreducible is what is; for every input. -/
import Derived.Test.YtabdchehbgchcaaAns
import Derived.Test.YtabdchehbgchcaaTurnP
namespace Go.Proofs.Ytabdchehbgchcaa
open Go.RowKit

set_option maxHeartbeats 1000000 in
theorem turned_any (a : Nat) (w : World) (ha : a ≤ 2147483647) :
    Calls Try.prog 37 #[.int .i64 a] w fun e w' => e = .returned (.int .i64 (G.turned a)) ∧ w = w' := by
  have hl : G.L a ≤ 31 := G.L_le.2 (by omega)
  go_enter Try.func37, Try.ntmps37
  go_wp2_with fail
  go_loop [0, 3] (fun x o => ∃ A O : Nat, A ≤ 2147483647 ∧ O ≤ 4294967296 ∧ x = .int .i64 A ∧ o = .int .i64 O ∧ Hid (O < 2 ^ (G.L a - G.L A) ∧ G.L A ≤ G.L a) ∧ Hid (2 ^ G.L A * O ^^^ G.rk (G.L A) A = G.turned a)) (fun x _ => (intOf x).toNat)
  case atStart => exact ⟨a, 0, ha, by omega, rfl, rfl, Lib.hid ⟨Nat.two_pow_pos _, Nat.le_refl _⟩, Lib.hid (by rw [Nat.mul_zero, Nat.zero_xor]; rfl)⟩
  case round =>
    obtain ⟨A, O, hA, hO, rfl, rfl, hB, hH⟩ := hrel
    by_cases h0 : A = 0
    · subst h0
      have h := hH.out
      rw [G.L_zero, Nat.pow_zero, Nat.one_mul, show G.rk 0 0 = 0 from rfl, Nat.xor_zero] at h
      have HH := Lib.hid h; clear h
      go_wp2_with fail
      go_ret
      exact ⟨by rw [← HH.out]; rfl, rfl⟩
    · have hp : 0 < A := by omega
      have hOl : O < 2 ^ 30 := by
        have h1 := hB.out.1
        have h2 := G.L_pos.2 h0
        exact Nat.lt_of_lt_of_le h1 (Nat.pow_le_pow_right (by omega) (by omega))
      have N1 : Hid (2 * O + A % 2 < 2 ^ (G.L a - G.L (A / 2)) ∧ G.L (A / 2) ≤ G.L a) := by
        have h1 := hB.out
        have h2 := G.L_half h0
        refine Lib.hid ⟨?_, by omega⟩
        rw [show G.L a - G.L (A / 2) = G.L a - G.L A + 1 from by omega, Nat.pow_succ]
        omega
      have N2 : Hid (2 ^ G.L (A / 2) * (2 * O + A % 2) ^^^ G.rk (G.L (A / 2)) (A / 2) = G.turned a) := Lib.hid ((G.turn_next A O h0).trans hH.out)
      clear h0 hl
      go_wp2_with fail
      go_round
      case rel => exact ⟨A / 2, 2 * O + A % 2, by omega, by omega, by go_num, by go_num, N1, N2⟩
      case measure => simp [intOf]; omega

theorem turned_is {a x : Nat} (ha : a ≤ 2147483647) (hx : G.turned a = x) : Ans1 37 #[.int .i64 a] (.int .i64 x) := by
  subst hx; exact fun w => turned_any a w ha

set_option maxRecDepth 100000 in
set_option maxHeartbeats 1000000 in
theorem polyTurned_core (a0 a1 : Int) (w : World) (a b A B p ta tb q : Nat) (v : Bool) (_ : a < 4096) (_ : b < 4096)
    (bA : bits .or .i64 (a : Int) 1 = (A : Int)) (bB : bits .or .i64 (b : Int) 1 = (B : Int))
    (m0 : Ans2 26 #[.int .i64 11, .int .i64 13] (.int .i64 127) (.int .i64 0))
    (h1 : Ans1 27 #[.int .i64 a0, .int .i64 12] (.int .i64 a))
    (h2 : Ans1 27 #[.int .i64 a1, .int .i64 12] (.int .i64 b))
    (m1 : Ans2 26 #[.int .i64 A, .int .i64 B] (.int .i64 p) (.int .i64 0))
    (t1 : Ans1 37 #[.int .i64 A] (.int .i64 ta))
    (t2 : Ans1 37 #[.int .i64 B] (.int .i64 tb))
    (m2 : Ans2 26 #[.int .i64 ta, .int .i64 tb] (.int .i64 q) (.int .i64 0))
    (i1 : Ans2 38 #[.int .i64 A] (.bool v) (.int .i64 0))
    (i2 : Ans2 38 #[.int .i64 ta] (.bool v) (.int .i64 0))
    (t3 : Ans1 37 #[.int .i64 p] (.int .i64 q)) :
    Calls Try.prog 14 #[.int .i64 a0, .int .i64 a1] w fun e w' => e = .returned (.bool true) ∧ w = w' := by
  go_enter Try.func14, Try.ntmps14
  go_wp2_with fail
  with_reducible refine m0.use ?_
  rintro e w' ⟨rfl, rfl⟩
  go_wp2_with fail
  with_reducible refine h1.use ?_
  rintro e w' ⟨rfl, rfl⟩
  go_wp2_with fail
  with_reducible refine h2.use ?_
  rintro e w' ⟨rfl, rfl⟩
  go_wp2_with fail
  with_reducible refine m1.use ?_
  rintro e w' ⟨rfl, rfl⟩
  go_wp2_with fail
  with_reducible refine t1.use ?_
  rintro e w' ⟨rfl, rfl⟩
  go_wp2_with fail
  with_reducible refine t2.use ?_
  rintro e w' ⟨rfl, rfl⟩
  go_wp2_with fail
  with_reducible refine m2.use ?_
  rintro e w' ⟨rfl, rfl⟩
  go_wp2_with fail
  with_reducible refine i1.use ?_
  rintro e w' ⟨rfl, rfl⟩
  go_wp2_with fail
  with_reducible refine t1.use ?_
  rintro e w' ⟨rfl, rfl⟩
  go_wp2_with fail
  with_reducible refine i2.use ?_
  rintro e w' ⟨rfl, rfl⟩
  go_wp2_with fail
  with_reducible refine t3.use ?_
  rintro e w' ⟨rfl, rfl⟩
  go_wp2_with fail
  go_ret
  exact ⟨retb (by simp), rfl⟩

theorem polyTurned_walk (a0 : Int) (a1 : Int) (_ : (Lit.int .i64 a0).wf = true) (_ : (Lit.int .i64 a1).wf = true) (w : World) :
    Calls Try.prog 14 #[.int .i64 a0, .int .i64 a1] w fun e w' => e = .returned (.bool true) ∧ Grown w w' := by
  have ha := wi_lt a0 (2 ^ 12) (by omega)
  have hb := wi_lt a1 (2 ^ 12) (by omega)
  have h1 := less_is (a := a0) (n := 12) (N := 12) rfl (by omega) rfl
  have h2 := less_is (a := a1) (n := 12) (N := 12) rfl (by omega) rfl
  generalize wi a0 (2 ^ 12) = a at *
  generalize wi a1 (2 ^ 12) = b at *
  have bA := i64_or_nat a 1 (by omega) (by omega)
  have bB := i64_or_nat b 1 (by omega) (by omega)
  have lA : a ||| 1 < 2 ^ 12 := Nat.or_lt_two_pow ha (by omega)
  have lB : b ||| 1 < 2 ^ 12 := Nat.or_lt_two_pow hb (by omega)
  have oA : (a ||| 1) % 2 = 1 := by rw [Nat.or_mod_two_eq_one]; right; rfl
  have oB : (b ||| 1) % 2 = 1 := by rw [Nat.or_mod_two_eq_one]; right; rfl
  generalize a ||| 1 = A at *
  generalize b ||| 1 = B at *
  have zA : A ≠ 0 := by omega
  have zB : B ≠ 0 := by omega
  have LA : G.L A ≤ 12 := G.L_le.2 lA
  have LB : G.L B ≤ 12 := G.L_le.2 lB
  have ltA : G.turned A < 2 ^ 12 := G.L_le.1 (by rw [G.L_turned A oA]; exact LA)
  have ltB : G.turned B < 2 ^ 12 := G.L_le.1 (by rw [G.L_turned B oB]; exact LB)
  have p1 := mul_lt_pow 23 lA lB (by omega)
  have p2 := mul_lt_pow 23 ltA ltB (by omega)
  refine grown_of (polyTurned_core a0 a1 w a b A B (G.mul A B) (G.turned A) (G.turned B) (G.mul (G.turned A) (G.turned B)) (G.irrB A) (by omega) (by omega) bA bB
    (Mul_is (a := 11) (b := 13) (x := 127) (by omega) (by omega) (by decide +kernel) (by omega)) h1 h2
    (Mul_is (by omega) (by omega) rfl (by omega)) (turned_is (by omega) rfl) (turned_is (by omega) rfl) (Mul_is (by omega) (by omega) rfl (by omega))
    (Is_is (by omega) rfl) (Is_is (by omega) ?_) (turned_is (by omega) (G.turned_mul A B zA zB)))
  rw [Bool.eq_iff_iff, G.irrB_iff, G.irrB_iff]
  exact G.irr_turned oA zA

end Go.Proofs.Ytabdchehbgchcaa
