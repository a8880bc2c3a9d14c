/- PrimeFermat: modulo an irreducible polynomial of degree n each, taken 2 to the n times as a factor, is itself; one time less, if it is not 0, it is 1; for every input. -/
import Derived.Test.YtabdchehbgchcaaAns
namespace Go.Proofs.Ytabdchehbgchcaa
open Go.RowKit

set_option maxRecDepth 100000 in
set_option maxHeartbeats 1000000 in
theorem primeFermat_core (a0 a1 : Int) (w : World) (m p a n N : Nat) (r y : Int) (hm : m < 1048576) (hn : n ≤ 30) (hN : N ≤ 1073741824) (hN1 : 1 ≤ N)
    (eN : IntKind.i64.wrap ((2 : Int) ^ n) = N)
    (m0 : Ans2 36 #[.int .i64 2, .int .i64 8, .int .i64 11] (.int .i64 2) (.int .i64 0))
    (h1 : Ans1 27 #[.int .i64 a0, .int .i64 20] (.int .i64 m))
    (m1 : Ans2 39 #[.int .i64 (2 + m)] (.int .i64 p) (.int .i64 0))
    (h2 : Ans1 25 #[.int .i64 a1, .int .i64 2147483647] (.int .i64 a))
    (m2 : Ans2 32 #[.int .i64 p] (.int .i64 n) (.int .i64 0))
    (m3 : Ans2 33 #[.int .i64 a, .int .i64 1, .int .i64 p] (.int .i64 r) (.int .i64 0))
    (m4 : Ans2 36 #[.int .i64 a, .int .i64 N, .int .i64 p] (.int .i64 r) (.int .i64 0))
    (m5 : Ans2 36 #[.int .i64 a, .int .i64 (N - 1), .int .i64 p] (.int .i64 y) (.int .i64 0))
    (hr : r = 0 ∧ y = 0 ∨ (r == 0) = false ∧ y = 1) :
    Calls Try.prog 20 #[.int .i64 a0, .int .i64 a1] w fun e w' => e = .returned (.bool true) ∧ w = w' := by
  rcases hr with ⟨rfl, rfl⟩ | ⟨tr, rfl⟩
  · go_enter Try.func20, Try.ntmps20
    go_wp2_with fail
    with_reducible refine m0.use ?_
    rintro e w' ⟨rfl, rfl⟩
    go_wp2_with fail
    with_reducible refine h1.use ?_
    rintro e w' ⟨rfl, rfl⟩
    go_wp2_with fail
    with_reducible refine m1.use ?_
    rintro e w' ⟨rfl, rfl⟩
    go_wp2_with fail
    with_reducible refine h2.use ?_
    rintro e w' ⟨rfl, rfl⟩
    go_wp2_with fail
    with_reducible refine m2.use ?_
    rintro e w' ⟨rfl, rfl⟩
    go_wp2_with fail
    with_reducible refine m3.use ?_
    rintro e w' ⟨rfl, rfl⟩
    go_wp2_with fail
    with_reducible refine m4.use ?_
    rintro e w' ⟨rfl, rfl⟩
    go_wp2_with fail
    with_reducible refine m5.use ?_
    rintro e w' ⟨rfl, rfl⟩
    go_wp2_with fail
    go_ret
    exact ⟨rfl, rfl⟩
  · have tr' : (r != 0) = true := by simpa using tr
    go_enter Try.func20, Try.ntmps20
    go_wp2_with fail
    with_reducible refine m0.use ?_
    rintro e w' ⟨rfl, rfl⟩
    go_wp2_with fail
    with_reducible refine h1.use ?_
    rintro e w' ⟨rfl, rfl⟩
    go_wp2_with fail
    with_reducible refine m1.use ?_
    rintro e w' ⟨rfl, rfl⟩
    go_wp2_with fail
    with_reducible refine h2.use ?_
    rintro e w' ⟨rfl, rfl⟩
    go_wp2_with fail
    with_reducible refine m2.use ?_
    rintro e w' ⟨rfl, rfl⟩
    go_wp2_with fail
    with_reducible refine m3.use ?_
    rintro e w' ⟨rfl, rfl⟩
    go_wp2_with fail
    with_reducible refine m4.use ?_
    rintro e w' ⟨rfl, rfl⟩
    go_wp2_with fail
    with_reducible refine m5.use ?_
    rintro e w' ⟨rfl, rfl⟩
    go_wp2_with fail
    go_ret
    exact ⟨rfl, rfl⟩

theorem primeFermat_walk (a0 : Int) (a1 : Int) (_ : (Lit.int .i64 a0).wf = true) (_ : (Lit.int .i64 a1).wf = true) (w : World) :
    Calls Try.prog 20 #[.int .i64 a0, .int .i64 a1] w fun e w' => e = .returned (.bool true) ∧ Grown w w' := by
  have hm := wi_lt a0 (2 ^ 20) (by omega)
  have ha := wi_lt a1 2147483647 (by omega)
  have h1 := less_is (a := a0) (n := 20) (N := 20) rfl (by omega) rfl
  have h2 := within_is (k := a1) (n := 2147483647) (N := 2147483647) rfl (by omega) (by omega) rfl
  generalize wi a0 (2 ^ 20) = m at *
  generalize wi a1 2147483647 = a at *
  obtain ⟨p, hI, hmp, hp, _, m1⟩ := next_ex (2 + m) (by omega)
  have h0 : p ≠ 0 := hI.ne_zero
  have hl := irr_lt hI hp
  have hl2 := hI.L
  obtain ⟨n, hn⟩ : ∃ n, G.L p = n + 1 := ⟨G.L p - 1, by omega⟩
  have hN : 2 ^ n ≤ 2 ^ 30 := Nat.pow_le_pow_right (by omega) (by omega)
  have hN1 : 0 < 2 ^ n := Nat.two_pow_pos n
  have hN2 : 2 ^ 1 ≤ 2 ^ n := Nat.pow_le_pow_right (by omega) (by omega)
  have e2 : ((2 ^ n : Nat) : Int) - 1 = ((2 ^ n - 1 : Nat) : Int) := by omega
  refine grown_of (primeFermat_core a0 a1 w m p a n (2 ^ n) (G.md a p) (G.md (G.pw a (2 ^ n - 1)) p) (by omega) (by omega) (by omega) (by omega)
    (by rw [two_pow_cast]; exact wr (by omega))
    (ModPow_is (a := 2) (n := 8) (m := 11) (x := 2) (by omega) (by omega) (by omega) (by omega) (by decide +kernel)) h1 (by rw [cast2]; exact m1) h2
    (Deg_is (by omega) (by omega)) (ModMul_is (b := 1) (by omega) (by omega) (by omega) h0 (by rw [G.mul_one]))
    (ModPow_is (by omega) (by omega) (by omega) h0 ((G.md_eq_iff h0).2 (hI.fermat hn a)))
    (by rw [e2]; exact ModPow_is (by omega) (by omega) (by omega) h0 rfl) ?_)
  by_cases hd : G.D p a
  · have hz : G.md a p = 0 := (G.md_eq_zero h0).2 hd
    have hz2 : G.md (G.pw a (2 ^ n - 1)) p = 0 := by
      refine (G.md_eq_zero h0).2 ?_
      obtain ⟨k, hk⟩ : ∃ k, 2 ^ n - 1 = k + 1 := ⟨2 ^ n - 2, by omega⟩
      rw [hk]
      exact G.D_mul _ hd
    exact Or.inl ⟨by rw [hz]; rfl, by rw [hz2]; rfl⟩
  · have hz : G.md a p ≠ 0 := fun h => hd ((G.md_eq_zero h0).1 h)
    have hz2 : G.md (G.pw a (2 ^ n - 1)) p = 1 := G.md_unique h0 (hI.fermat1 hn a hd) (by rw [G.L_one]; omega)
    exact Or.inr ⟨by rw [nat_beq_zero, decide_eq_false hz], by rw [hz2]; rfl⟩

end Go.Proofs.Ytabdchehbgchcaa
