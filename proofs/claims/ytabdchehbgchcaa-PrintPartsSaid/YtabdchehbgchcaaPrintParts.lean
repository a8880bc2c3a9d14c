/- PrintParts: by what divides a modulus what is left of a print is the print; for every input. -/
import Derived.Test.YtabdchehbgchcaaAns
import Derived.Test.YtabdchehbgchcaaPrintW
namespace Go.Proofs.Ytabdchehbgchcaa
open Go.RowKit

set_option maxRecDepth 100000 in
set_option maxHeartbeats 1000000 in
theorem printParts_core (a0 a1 : Int) (s : ByteArray) (w : World) (a b m p q : Nat) (ha : a < 1024) (hb : b < 1024)
    (o1 : Ans2 29 #[.int .i64 5, .string ⟨#[1]⟩] (.int .i64 0) (.int .i64 0))
    (o2 : Ans2 29 #[.int .i64 4, .string ⟨#[97]⟩] (.int .i64 1) (.int .i64 0))
    (h1 : Ans1 27 #[.int .i64 a0, .int .i64 10] (.int .i64 a))
    (h2 : Ans1 27 #[.int .i64 a1, .int .i64 10] (.int .i64 b))
    (m1 : Ans2 26 #[.int .i64 (2 + a), .int .i64 (2 + b)] (.int .i64 m) (.int .i64 0))
    (o3 : Ans2 29 #[.int .i64 m, .string s] (.int .i64 p) (.int .i64 0))
    (o4 : Ans2 29 #[.int .i64 (2 + a), .string s] (.int .i64 q) (.int .i64 0))
    (m2 : Ans2 33 #[.int .i64 p, .int .i64 1, .int .i64 (2 + a)] (.int .i64 q) (.int .i64 0)) :
    Calls Try.prog 13 #[.int .i64 a0, .int .i64 a1, .string s] w fun e w' => e = .returned (.bool true) ∧ w = w' := by
  go_enter Try.func13, Try.ntmps13
  go_wp2_with fail
  with_reducible refine o1.use ?_
  rintro e w' ⟨rfl, rfl⟩
  go_wp2_with fail
  with_reducible refine o2.use ?_
  rintro e w' ⟨rfl, rfl⟩
  go_wp2_with fail
  with_reducible refine h1.use ?_
  rintro e w' ⟨rfl, rfl⟩
  go_wp2_with fail
  with_reducible refine h2.use ?_
  rintro e w' ⟨rfl, rfl⟩
  go_wp2_with fail
  with_reducible refine m1.use ?_
  rintro e w' ⟨rfl, rfl⟩
  go_wp2_with fail
  with_reducible refine o3.use ?_
  rintro e w' ⟨rfl, rfl⟩
  go_wp2_with fail
  with_reducible refine o4.use ?_
  rintro e w' ⟨rfl, rfl⟩
  go_wp2_with fail
  with_reducible refine m2.use ?_
  rintro e w' ⟨rfl, rfl⟩
  go_wp2_with fail
  go_ret
  exact ⟨rfl, rfl⟩

set_option maxRecDepth 100000 in
set_option maxHeartbeats 1000000 in
theorem printParts_err (a0 a1 : Int) (s : ByteArray) (w : World) (a b m : Nat) (ha : a < 1024) (hb : b < 1024)
    (o1 : Ans2 29 #[.int .i64 5, .string ⟨#[1]⟩] (.int .i64 0) (.int .i64 0))
    (o2 : Ans2 29 #[.int .i64 4, .string ⟨#[97]⟩] (.int .i64 1) (.int .i64 0))
    (h1 : Ans1 27 #[.int .i64 a0, .int .i64 10] (.int .i64 a))
    (h2 : Ans1 27 #[.int .i64 a1, .int .i64 10] (.int .i64 b))
    (m1 : Ans2 26 #[.int .i64 (2 + a), .int .i64 (2 + b)] (.int .i64 m) (.int .i64 0))
    (o3 : Ans2 29 #[.int .i64 m, .string s] (.int .i64 0) (.int .i64 2))
    (o4 : Ans2 29 #[.int .i64 (2 + a), .string s] (.int .i64 0) (.int .i64 2)) :
    Calls Try.prog 13 #[.int .i64 a0, .int .i64 a1, .string s] w fun e w' => e = .returned (.bool true) ∧ w = w' := by
  go_enter Try.func13, Try.ntmps13
  go_wp2_with fail
  with_reducible refine o1.use ?_
  rintro e w' ⟨rfl, rfl⟩
  go_wp2_with fail
  with_reducible refine o2.use ?_
  rintro e w' ⟨rfl, rfl⟩
  go_wp2_with fail
  with_reducible refine h1.use ?_
  rintro e w' ⟨rfl, rfl⟩
  go_wp2_with fail
  with_reducible refine h2.use ?_
  rintro e w' ⟨rfl, rfl⟩
  go_wp2_with fail
  with_reducible refine m1.use ?_
  rintro e w' ⟨rfl, rfl⟩
  go_wp2_with fail
  with_reducible refine o3.use ?_
  rintro e w' ⟨rfl, rfl⟩
  go_wp2_with fail
  with_reducible refine o4.use ?_
  rintro e w' ⟨rfl, rfl⟩
  go_wp2_with fail
  go_ret
  exact ⟨rfl, rfl⟩

theorem printParts_walk (a0 : Int) (a1 : Int) (a2 : ByteArray) (_ : (Lit.int .i64 a0).wf = true) (_ : (Lit.int .i64 a1).wf = true) (w2 : a2.size ≤ maxLen) (w : World) :
    Calls Try.prog 13 #[.int .i64 a0, .int .i64 a1, .string a2] w fun e w' => e = .returned (.bool true) ∧ Grown w w' := by
  have ha := wi_lt a0 (2 ^ 10) (by omega)
  have hb := wi_lt a1 (2 ^ 10) (by omega)
  have h1 := less_is (a := a0) (n := 10) (N := 10) rfl (by omega) rfl
  have h2 := less_is (a := a1) (n := 10) (N := 10) rfl (by omega) rfl
  generalize wi a0 (2 ^ 10) = a at *
  generalize wi a1 (2 ^ 10) = b at *
  have q1 : 2 + a < 2 ^ 11 := by omega
  have q2 : 2 + b < 2 ^ 11 := by omega
  have p1 := mul_lt_pow 21 q1 q2 (by omega)
  have n1 : 2 + a ≠ 0 := by omega
  have n2 : 2 + b ≠ 0 := by omega
  have n3 := G.mul_ne_zero n1 n2
  have hl := G.L_mul _ _ n1 n2
  have hl1 : G.L 2 ≤ G.L (2 + a) := G.L_mono (by omega)
  have hl2 : G.L 2 ≤ G.L (2 + b) := G.L_mono (by omega)
  rw [G.L_two] at hl1 hl2
  have h2m : 2 ^ 1 ≤ G.mul (2 + a) (2 + b) := G.le_of_L.1 (by omega)
  have o1 := Of_is (m := 5) (s := ⟨#[1]⟩) (x := 0) (by omega) (by omega) (by decide) (by decide +kernel)
  have o2 := Of_is (m := 4) (s := ⟨#[97]⟩) (x := 1) (by omega) (by omega) (by decide) (by decide +kernel)
  have m1 : Ans2 26 #[.int .i64 (2 + a), .int .i64 (2 + b)] (.int .i64 (G.mul (2 + a) (2 + b))) (.int .i64 0) := by rw [cast2, cast2]; exact Mul_is (by omega) (by omega) rfl (by omega)
  unfold maxLen at w2
  refine grown_of ?_
  by_cases hs : a2.size ≤ 600
  · refine printParts_core a0 a1 a2 w a b _ _ _ (by omega) (by omega) o1 o2 h1 h2 m1 (Of_is (by omega) (by omega) hs rfl) (by rw [cast2]; exact Of_is (by omega) (by omega) hs rfl) ?_
    rw [cast2]
    have hpl := G.print_lt a2.data.toList n3
    have hp := G.L_lt hpl
    refine ModMul_is (b := 1) (by omega) (by omega) (by omega) n1 ?_
    rw [G.mul_one, G.print_V _ n3, G.print_V _ n1]
    exact G.md_of_D n1 n3 ⟨2 + b, by rw [G.mul_comm]⟩
  · exact printParts_err a0 a1 a2 w a b _ (by omega) (by omega) o1 o2 h1 h2 m1 (fun w => Of_large _ a2 w (by omega) (by omega) (by omega) w2) (by rw [cast2]; exact fun w => Of_large _ a2 w (by omega) (by omega) (by omega) w2)

end Go.Proofs.Ytabdchehbgchcaa
