/- PrimeNext: the next irreducible polynomial is one, and none stands between; for every input. -/
import Derived.Test.YtabdchehbgchcaaAns
namespace Go.Proofs.Ytabdchehbgchcaa
open Go.RowKit

set_option maxRecDepth 100000 in
set_option maxHeartbeats 1000000 in
theorem primeNext_core (a0 a1 : Int) (w : World) (m p j : Nat) (b : Bool) (hm : m < 16777216) (hmp : m ≤ p) (hp : p ≤ 1073741907) (hj : m + j ≤ p)
    (m0 : Ans2 39 #[.int .i64 4] (.int .i64 7) (.int .i64 0))
    (h1 : Ans1 27 #[.int .i64 a0, .int .i64 24] (.int .i64 m))
    (m1 : Ans2 39 #[.int .i64 m] (.int .i64 p) (.int .i64 0))
    (m2 : Ans2 38 #[.int .i64 p] (.bool true) (.int .i64 0))
    (h2 : Ans1 25 #[.int .i64 a1, .int .i64 (p - m + 1)] (.int .i64 j))
    (m3 : Ans2 38 #[.int .i64 (m + j)] (.bool b) (.int .i64 0))
    (hb : b = true → m + j = p) :
    Calls Try.prog 17 #[.int .i64 a0, .int .i64 a1] w fun e w' => e = .returned (.bool true) ∧ w = w' := by
  cases b with
  | false =>
    clear hb
    go_enter Try.func17, Try.ntmps17
    go_wp2_with fail
    with_reducible refine m0.use ?_
    rintro e w' ⟨rfl, rfl⟩
    go_wp2_with fail
    with_reducible refine h1.use ?_
    rintro e w' ⟨rfl, rfl⟩
    go_wp2_with fail
    with_reducible refine m1.use ?_
    rintro e w' ⟨rfl, rfl⟩
    go_wp2_with fail
    with_reducible refine m2.use ?_
    rintro e w' ⟨rfl, rfl⟩
    go_wp2_with fail
    with_reducible refine h2.use ?_
    rintro e w' ⟨rfl, rfl⟩
    go_wp2_with fail
    with_reducible refine m3.use ?_
    rintro e w' ⟨rfl, rfl⟩
    go_wp2_with fail
    go_ret
    exact ⟨rfl, rfl⟩
  | true =>
    have h := hb rfl
    have t : ((m : Int) + j == p) = true := by rw [beq_iff_eq]; omega
    clear hb h
    go_enter Try.func17, Try.ntmps17
    go_wp2_with fail
    with_reducible refine m0.use ?_
    rintro e w' ⟨rfl, rfl⟩
    go_wp2_with fail
    with_reducible refine h1.use ?_
    rintro e w' ⟨rfl, rfl⟩
    go_wp2_with fail
    with_reducible refine m1.use ?_
    rintro e w' ⟨rfl, rfl⟩
    go_wp2_with fail
    with_reducible refine m2.use ?_
    rintro e w' ⟨rfl, rfl⟩
    go_wp2_with fail
    with_reducible refine h2.use ?_
    rintro e w' ⟨rfl, rfl⟩
    go_wp2_with fail
    with_reducible refine m3.use ?_
    rintro e w' ⟨rfl, rfl⟩
    go_wp2_with fail
    with_reducible refine h2.use ?_
    rintro e w' ⟨rfl, rfl⟩
    go_wp2_with fail
    go_ret
    exact ⟨rfl, rfl⟩

theorem primeNext_walk (a0 : Int) (a1 : Int) (_ : (Lit.int .i64 a0).wf = true) (_ : (Lit.int .i64 a1).wf = true) (w : World) :
    Calls Try.prog 17 #[.int .i64 a0, .int .i64 a1] w fun e w' => e = .returned (.bool true) ∧ Grown w w' := by
  have hm := wi_lt a0 (2 ^ 24) (by omega)
  have h1 := less_is (a := a0) (n := 24) (N := 24) rfl (by omega) rfl
  generalize wi a0 (2 ^ 24) = m at *
  obtain ⟨p, hI, hmp, hp, hno, m1⟩ := next_ex m (by omega)
  have hj := wi_lt a1 (p - m + 1) (by omega)
  have h2 := within_is (k := a1) (n := p - m + 1) (N := (p : Int) - m + 1) (by omega) (by omega) (by omega) rfl
  generalize wi a1 (p - m + 1) = j at *
  refine grown_of (primeNext_core a0 a1 w m p j (G.irrB (m + j)) (by omega) hmp hp (by omega)
    (Next_is (m := 4) (p := 7) (by omega) (by omega) ((G.irrB_iff 7).1 (by decide +kernel)) (fun k h1 h2 => (G.irrB_false k).1 (by
      have : k = 4 ∨ k = 5 ∨ k = 6 := by omega
      rcases this with rfl | rfl | rfl <;> decide +kernel))) h1 m1
    (Is_is (by omega) ((G.irrB_iff p).2 hI)) h2 (by rw [castA]; exact Is_is (by omega) rfl) ?_)
  intro hb
  apply Classical.byContradiction
  intro hne
  exact hno (m + j) (by omega) (by omega) ((G.irrB_iff _).1 hb)

end Go.Proofs.Ytabdchehbgchcaa
