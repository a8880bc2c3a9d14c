/- PrimeRoots: modulo an irreducible polynomial unlike ones have unlike squares; for every input. -/
import Derived.Test.YtabdchehbgchcaaAns
namespace Go.Proofs.Ytabdchehbgchcaa
open Go.RowKit

set_option maxRecDepth 100000 in
set_option maxHeartbeats 1000000 in
theorem primeRoots_core (a0 a1 a2 : Int) (w : World) (m p a b x y s t : Nat) (hm : m < 4096) (v : Bool)
    (m0 : Ans2 36 #[.int .i64 3, .int .i64 2, .int .i64 7] (.int .i64 2) (.int .i64 0))
    (h1 : Ans1 27 #[.int .i64 a0, .int .i64 12] (.int .i64 m))
    (m1 : Ans2 39 #[.int .i64 (2 + m)] (.int .i64 p) (.int .i64 0))
    (h2 : Ans1 27 #[.int .i64 a1, .int .i64 20] (.int .i64 a))
    (h3 : Ans1 27 #[.int .i64 a2, .int .i64 20] (.int .i64 b))
    (m2 : Ans2 33 #[.int .i64 a, .int .i64 1, .int .i64 p] (.int .i64 x) (.int .i64 0))
    (m3 : Ans2 33 #[.int .i64 b, .int .i64 1, .int .i64 p] (.int .i64 y) (.int .i64 0))
    (m4 : Ans2 36 #[.int .i64 a, .int .i64 2, .int .i64 p] (.int .i64 s) (.int .i64 0))
    (m5 : Ans2 36 #[.int .i64 b, .int .i64 2, .int .i64 p] (.int .i64 t) (.int .i64 0))
    (t1 : ((s : Int) == t) = v) (t2 : ((x : Int) == y) = v) :
    Calls Try.prog 21 #[.int .i64 a0, .int .i64 a1, .int .i64 a2] w fun e w' => e = .returned (.bool true) ∧ w = w' := by
  go_enter Try.func21, Try.ntmps21
  go_wp2_with fail
  with_reducible refine m0.use ?_
  rintro e w' ⟨rfl, rfl⟩
  go_wp2_with fail
  with_reducible refine h1.use ?_
  rintro e w' ⟨rfl, rfl⟩
  go_wp2_with fail
  with_reducible refine m1.use ?_
  rintro e w' ⟨rfl, rfl⟩
  go_wp2_with fail
  with_reducible refine h2.use ?_
  rintro e w' ⟨rfl, rfl⟩
  go_wp2_with fail
  with_reducible refine h3.use ?_
  rintro e w' ⟨rfl, rfl⟩
  go_wp2_with fail
  with_reducible refine m2.use ?_
  rintro e w' ⟨rfl, rfl⟩
  go_wp2_with fail
  with_reducible refine m3.use ?_
  rintro e w' ⟨rfl, rfl⟩
  go_wp2_with fail
  with_reducible refine m4.use ?_
  rintro e w' ⟨rfl, rfl⟩
  go_wp2_with fail
  with_reducible refine m5.use ?_
  rintro e w' ⟨rfl, rfl⟩
  go_wp2_with fail
  go_ret
  exact ⟨retb (by first | (simp; done) | simp_all), rfl⟩

theorem primeRoots_walk (a0 : Int) (a1 : Int) (a2 : Int) (_ : (Lit.int .i64 a0).wf = true) (_ : (Lit.int .i64 a1).wf = true) (_ : (Lit.int .i64 a2).wf = true) (w : World) :
    Calls Try.prog 21 #[.int .i64 a0, .int .i64 a1, .int .i64 a2] w fun e w' => e = .returned (.bool true) ∧ Grown w w' := by
  have hm := wi_lt a0 (2 ^ 12) (by omega)
  have ha := wi_lt a1 (2 ^ 20) (by omega)
  have hb := wi_lt a2 (2 ^ 20) (by omega)
  have h1 := less_is (a := a0) (n := 12) (N := 12) rfl (by omega) rfl
  have h2 := less_is (a := a1) (n := 20) (N := 20) rfl (by omega) rfl
  have h3 := less_is (a := a2) (n := 20) (N := 20) rfl (by omega) rfl
  generalize wi a0 (2 ^ 12) = m at *
  generalize wi a1 (2 ^ 20) = a at *
  generalize wi a2 (2 ^ 20) = b at *
  obtain ⟨p, hI, hmp, hp, _, m1⟩ := next_ex (2 + m) (by omega)
  have h0 : p ≠ 0 := hI.ne_zero
  refine grown_of (primeRoots_core a0 a1 a2 w m p a b (G.md a p) (G.md b p) (G.md (G.pw a 2) p) (G.md (G.pw b 2) p) (by omega) _
    (ModPow_is (a := 3) (n := 2) (m := 7) (x := 2) (by omega) (by omega) (by omega) (by omega) (by decide +kernel)) h1 (by rw [cast2]; exact m1) h2 h3
    (ModMul_is (b := 1) (by omega) (by omega) (by omega) h0 (by rw [G.mul_one])) (ModMul_is (b := 1) (by omega) (by omega) (by omega) h0 (by rw [G.mul_one]))
    (ModPow_is (n := 2) (by omega) (by omega) (by omega) h0 rfl) (ModPow_is (n := 2) (by omega) (by omega) (by omega) h0 rfl)
    (nat_beq _ _) ?_)
  rw [nat_beq, decide_eq_decide, G.md_eq_iff h0, G.md_eq_iff h0, G.pw_two, G.pw_two, ← G.sq_xor]
  exact ⟨fun h => G.D_mul _ h, fun h => (hI.euclid h).elim id id⟩

end Go.Proofs.Ytabdchehbgchcaa
