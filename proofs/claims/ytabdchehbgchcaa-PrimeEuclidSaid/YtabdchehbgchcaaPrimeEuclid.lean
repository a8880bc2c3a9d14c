/- PrimeEuclid: an irreducible polynomial that divides a product divides one of the two; for every input. -/
import Derived.Test.YtabdchehbgchcaaAns
namespace Go.Proofs.Ytabdchehbgchcaa
open Go.RowKit

set_option maxRecDepth 100000 in
set_option maxHeartbeats 1000000 in
theorem primeEuclid_core (a0 a1 a2 : Int) (w : World) (m p a b x y z : Nat) (hm : m < 256) (vx vy vz : Bool)
    (i0 : Ans2 38 #[.int .i64 7] (.bool true) (.int .i64 0))
    (i1 : Ans2 38 #[.int .i64 5] (.bool false) (.int .i64 0))
    (h1 : Ans1 27 #[.int .i64 a0, .int .i64 8] (.int .i64 m))
    (m1 : Ans2 39 #[.int .i64 (2 + m)] (.int .i64 p) (.int .i64 0))
    (h2 : Ans1 27 #[.int .i64 a1, .int .i64 15] (.int .i64 a))
    (h3 : Ans1 27 #[.int .i64 a2, .int .i64 15] (.int .i64 b))
    (m2 : Ans2 33 #[.int .i64 a, .int .i64 b, .int .i64 p] (.int .i64 x) (.int .i64 0))
    (m3 : Ans2 33 #[.int .i64 a, .int .i64 1, .int .i64 p] (.int .i64 y) (.int .i64 0))
    (m4 : Ans2 33 #[.int .i64 b, .int .i64 1, .int .i64 p] (.int .i64 z) (.int .i64 0))
    (tx : ((x : Int) == 0) = vx) (ty : ((y : Int) == 0) = vy) (tz : ((z : Int) == 0) = vz) (hv : vx = (vy || vz)) :
    Calls Try.prog 16 #[.int .i64 a0, .int .i64 a1, .int .i64 a2] w fun e w' => e = .returned (.bool true) ∧ w = w' := by
  have HV := Lib.hid hv; clear hv
  go_enter Try.func16, Try.ntmps16
  go_wp2_with fail
  with_reducible refine i0.use ?_
  rintro e w' ⟨rfl, rfl⟩
  go_wp2_with fail
  with_reducible refine i1.use ?_
  rintro e w' ⟨rfl, rfl⟩
  go_wp2_with fail
  with_reducible refine h1.use ?_
  rintro e w' ⟨rfl, rfl⟩
  go_wp2_with fail
  with_reducible refine m1.use ?_
  rintro e w' ⟨rfl, rfl⟩
  go_wp2_with fail
  with_reducible refine h2.use ?_
  rintro e w' ⟨rfl, rfl⟩
  go_wp2_with fail
  with_reducible refine h3.use ?_
  rintro e w' ⟨rfl, rfl⟩
  go_wp2_with fail
  with_reducible refine m2.use ?_
  rintro e w' ⟨rfl, rfl⟩
  go_wp2_with fail
  with_reducible refine m3.use ?_
  rintro e w' ⟨rfl, rfl⟩
  go_wp2_with fail
  with_reducible refine m4.use ?_
  rintro e w' ⟨rfl, rfl⟩
  go_wp2_with fail
  all_goals go_ret
  all_goals refine ⟨retb ?_, rfl⟩
  all_goals (have hv := HV.out; simp_all)

theorem primeEuclid_walk (a0 : Int) (a1 : Int) (a2 : Int) (_ : (Lit.int .i64 a0).wf = true) (_ : (Lit.int .i64 a1).wf = true) (_ : (Lit.int .i64 a2).wf = true) (w : World) :
    Calls Try.prog 16 #[.int .i64 a0, .int .i64 a1, .int .i64 a2] w fun e w' => e = .returned (.bool true) ∧ Grown w w' := by
  have hm := wi_lt a0 (2 ^ 8) (by omega)
  have ha := wi_lt a1 (2 ^ 15) (by omega)
  have hb := wi_lt a2 (2 ^ 15) (by omega)
  have h1 := less_is (a := a0) (n := 8) (N := 8) rfl (by omega) rfl
  have h2 := less_is (a := a1) (n := 15) (N := 15) rfl (by omega) rfl
  have h3 := less_is (a := a2) (n := 15) (N := 15) rfl (by omega) rfl
  generalize wi a0 (2 ^ 8) = m at *
  generalize wi a1 (2 ^ 15) = a at *
  generalize wi a2 (2 ^ 15) = b at *
  obtain ⟨p, hI, hmp, hp, _, m1⟩ := next_ex (2 + m) (by omega)
  have h0 : p ≠ 0 := hI.ne_zero
  refine grown_of (primeEuclid_core a0 a1 a2 w m p a b (G.md (G.mul a b) p) (G.md a p) (G.md b p) (by omega) _ _ _
    (Is_is (m := 7) (by omega) (by decide +kernel)) (Is_is (m := 5) (by omega) (by decide +kernel)) h1 (by rw [cast2]; exact m1) h2 h3
    (ModMul_is (by omega) (by omega) (by omega) h0 rfl) (ModMul_is (b := 1) (by omega) (by omega) (by omega) h0 (by rw [G.mul_one])) (ModMul_is (b := 1) (by omega) (by omega) (by omega) h0 (by rw [G.mul_one]))
    (nat_beq_zero _) (nat_beq_zero _) (nat_beq_zero _) ?_)
  rw [Bool.eq_iff_iff, Bool.or_eq_true, decide_eq_true_eq, decide_eq_true_eq, decide_eq_true_eq, G.md_eq_zero h0, G.md_eq_zero h0, G.md_eq_zero h0]
  exact ⟨hI.euclid, fun h => h.elim (fun h => G.D_mul' b h) (fun h => G.D_mul a h)⟩

end Go.Proofs.Ytabdchehbgchcaa
