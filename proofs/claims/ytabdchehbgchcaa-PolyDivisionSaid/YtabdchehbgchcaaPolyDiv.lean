/- PolyDivision: what is left has a lesser degree, and all of it together is what there was; there is no other way; for every input. -/
import Derived.Test.YtabdchehbgchcaaPolyK
namespace Go.Proofs.Ytabdchehbgchcaa
open Go.RowKit

set_option maxRecDepth 100000 in
set_option maxHeartbeats 1000000 in
theorem polyDiv_err (a b o e : Int) (w : World) (_ : ((e : Int) == 0) = false) (_ : ((e : Int) != 0) = true)
    (m0 : Ans3 34 #[.int .i64 27, .int .i64 5] (.int .i64 7) (.int .i64 0) (.int .i64 0))
    (m1 : Ans3 34 #[.int .i64 a, .int .i64 b] (.int .i64 0) (.int .i64 0) (.int .i64 e)) :
    Calls Try.prog 10 #[.int .i64 a, .int .i64 b, .int .i64 o] w fun e w' => e = .returned (.bool true) ∧ w = w' := by
  go_enter Try.func10, Try.ntmps10
  go_wp2_with fail
  refine (m0 _).mono ?_
  rintro e w' ⟨rfl, rfl⟩
  go_wp2_with fail
  refine (m1 _).mono ?_
  rintro e w' ⟨rfl, rfl⟩
  go_wp2_with fail
  go_ret
  exact ⟨rfl, rfl⟩

set_option maxRecDepth 100000 in
set_option maxHeartbeats 1000000 in
theorem polyDiv_other (a b q r p : Nat) (x y o P e : Int) (w : World) (hxy : x < y) (_ : ((e : Int) == 0) = false) (_ : ((e : Int) != 0) = true)
    (m0 : Ans3 34 #[.int .i64 27, .int .i64 5] (.int .i64 7) (.int .i64 0) (.int .i64 0))
    (m1 : Ans3 34 #[.int .i64 a, .int .i64 b] (.int .i64 q) (.int .i64 r) (.int .i64 0))
    (m2 : Ans2 26 #[.int .i64 q, .int .i64 b] (.int .i64 p) (.int .i64 0))
    (m3 : Ans2 28 #[.int .i64 p, .int .i64 r] (.int .i64 a) (.int .i64 0))
    (m4 : Ans2 32 #[.int .i64 r] (.int .i64 x) (.int .i64 0))
    (m5 : Ans2 32 #[.int .i64 b] (.int .i64 y) (.int .i64 0))
    (m6 : Ans2 26 #[.int .i64 o, .int .i64 b] (.int .i64 P) (.int .i64 e)) :
    Calls Try.prog 10 #[.int .i64 a, .int .i64 b, .int .i64 o] w fun e w' => e = .returned (.bool true) ∧ w = w' := by
  go_enter Try.func10, Try.ntmps10
  go_wp2_with fail
  refine (m0 _).mono ?_
  rintro e w' ⟨rfl, rfl⟩
  go_wp2_with fail
  refine (m1 _).mono ?_
  rintro e w' ⟨rfl, rfl⟩
  go_wp2_with fail
  refine (m2 _).mono ?_
  rintro e w' ⟨rfl, rfl⟩
  go_wp2_with fail
  refine (m3 _).mono ?_
  rintro e w' ⟨rfl, rfl⟩
  go_wp2_with fail
  refine (m4 _).mono ?_
  rintro e w' ⟨rfl, rfl⟩
  go_wp2_with fail
  refine (m5 _).mono ?_
  rintro e w' ⟨rfl, rfl⟩
  go_wp2_with fail
  refine (m6 _).mono ?_
  rintro e w' ⟨rfl, rfl⟩
  go_wp2_with fail
  go_ret
  exact ⟨rfl, rfl⟩

set_option maxRecDepth 100000 in
set_option maxHeartbeats 1000000 in
theorem polyDiv_same (a b q r p : Nat) (x y : Int) (w : World) (hxy : x < y)
    (m0 : Ans3 34 #[.int .i64 27, .int .i64 5] (.int .i64 7) (.int .i64 0) (.int .i64 0))
    (m1 : Ans3 34 #[.int .i64 a, .int .i64 b] (.int .i64 q) (.int .i64 r) (.int .i64 0))
    (m2 : Ans2 26 #[.int .i64 q, .int .i64 b] (.int .i64 p) (.int .i64 0))
    (m3 : Ans2 28 #[.int .i64 p, .int .i64 r] (.int .i64 a) (.int .i64 0))
    (m4 : Ans2 32 #[.int .i64 r] (.int .i64 x) (.int .i64 0))
    (m5 : Ans2 32 #[.int .i64 b] (.int .i64 y) (.int .i64 0)) :
    Calls Try.prog 10 #[.int .i64 a, .int .i64 b, .int .i64 q] w fun e w' => e = .returned (.bool true) ∧ w = w' := by
  go_enter Try.func10, Try.ntmps10
  go_wp2_with fail
  refine (m0 _).mono ?_
  rintro e w' ⟨rfl, rfl⟩
  go_wp2_with fail
  refine (m1 _).mono ?_
  rintro e w' ⟨rfl, rfl⟩
  go_wp2_with fail
  refine (m2 _).mono ?_
  rintro e w' ⟨rfl, rfl⟩
  go_wp2_with fail
  refine (m3 _).mono ?_
  rintro e w' ⟨rfl, rfl⟩
  go_wp2_with fail
  refine (m4 _).mono ?_
  rintro e w' ⟨rfl, rfl⟩
  go_wp2_with fail
  refine (m5 _).mono ?_
  rintro e w' ⟨rfl, rfl⟩
  go_wp2_with fail
  refine (m2 _).mono ?_
  rintro e w' ⟨rfl, rfl⟩
  go_wp2_with fail
  go_ret
  exact ⟨rfl, rfl⟩

set_option maxRecDepth 100000 in
set_option maxHeartbeats 1000000 in
theorem polyDiv_else (a b q r p o P t : Nat) (x y z : Int) (w : World) (hxy : x < y) (hyz : y ≤ z) (to : ((o : Int) == q) = false)
    (m0 : Ans3 34 #[.int .i64 27, .int .i64 5] (.int .i64 7) (.int .i64 0) (.int .i64 0))
    (m1 : Ans3 34 #[.int .i64 a, .int .i64 b] (.int .i64 q) (.int .i64 r) (.int .i64 0))
    (m2 : Ans2 26 #[.int .i64 q, .int .i64 b] (.int .i64 p) (.int .i64 0))
    (m3 : Ans2 28 #[.int .i64 p, .int .i64 r] (.int .i64 a) (.int .i64 0))
    (m4 : Ans2 32 #[.int .i64 r] (.int .i64 x) (.int .i64 0))
    (m5 : Ans2 32 #[.int .i64 b] (.int .i64 y) (.int .i64 0))
    (m6 : Ans2 26 #[.int .i64 o, .int .i64 b] (.int .i64 P) (.int .i64 0))
    (m7 : Ans2 28 #[.int .i64 P, .int .i64 a] (.int .i64 t) (.int .i64 0))
    (m8 : Ans2 32 #[.int .i64 t] (.int .i64 z) (.int .i64 0)) :
    Calls Try.prog 10 #[.int .i64 a, .int .i64 b, .int .i64 o] w fun e w' => e = .returned (.bool true) ∧ w = w' := by
  go_enter Try.func10, Try.ntmps10
  go_wp2_with fail
  refine (m0 _).mono ?_
  rintro e w' ⟨rfl, rfl⟩
  go_wp2_with fail
  refine (m1 _).mono ?_
  rintro e w' ⟨rfl, rfl⟩
  go_wp2_with fail
  refine (m2 _).mono ?_
  rintro e w' ⟨rfl, rfl⟩
  go_wp2_with fail
  refine (m3 _).mono ?_
  rintro e w' ⟨rfl, rfl⟩
  go_wp2_with fail
  refine (m4 _).mono ?_
  rintro e w' ⟨rfl, rfl⟩
  go_wp2_with fail
  refine (m5 _).mono ?_
  rintro e w' ⟨rfl, rfl⟩
  go_wp2_with fail
  refine (m6 _).mono ?_
  rintro e w' ⟨rfl, rfl⟩
  go_wp2_with fail
  refine (m7 _).mono ?_
  rintro e w' ⟨rfl, rfl⟩
  go_wp2_with fail
  refine (m8 _).mono ?_
  rintro e w' ⟨rfl, rfl⟩
  go_wp2_with fail
  go_ret
  exact ⟨retb (by first | (simp; done) | (simp; omega)), rfl⟩

theorem polyDivision_walk (a0 : Int) (a1 : Int) (a2 : Int) (_ : (Lit.int .i64 a0).wf = true) (_ : (Lit.int .i64 a1).wf = true) (_ : (Lit.int .i64 a2).wf = true) (w : World) :
    Calls Try.prog 10 #[.int .i64 a0, .int .i64 a1, .int .i64 a2] w fun e w' => e = .returned (.bool true) ∧ Grown w w' := by
  have m0 := Div_is (a := 27) (b := 5) (q := 7) (r := 0) (by omega) (by omega) (by omega) (by decide +kernel) (by decide +kernel)
  have key : Calls Try.prog 10 #[.int .i64 a0, .int .i64 a1, .int .i64 a2] w fun e w' => e = .returned (.bool true) ∧ w = w' := by
    by_cases hbad : 0 ≤ a0 ∧ a0 ≤ 2147483647 ∧ 0 ≤ a1 ∧ a1 ≤ 2147483647
    · obtain ⟨a, rfl⟩ := Int.eq_ofNat_of_zero_le hbad.1
      obtain ⟨b, rfl⟩ := Int.eq_ofNat_of_zero_le hbad.2.2.1
      have ha : a ≤ 2147483647 := by omega
      have hb : b ≤ 2147483647 := by omega
      by_cases h0 : b = 0
      · subst h0
        exact polyDiv_err a 0 a2 10 w rfl rfl m0 (fun w => Div_zero a w ha)
      · have hq : G.qt a b < 2 ^ 31 := qt_le (k := 31) h0 (by omega)
        have hr : G.md a b ≤ 2147483647 := md_le h0 hb
        have hs := G.over_spec a b h0
        have hp : G.mul (G.qt a b) b < 2 ^ 31 := by
          have : G.mul (G.qt a b) b = a ^^^ G.md a b := by
            have := G.xor_cancel' (G.md a b) (G.mul (G.qt a b) b)
            rw [hs.1] at this; exact this.symm
          rw [this]; exact Nat.xor_lt_two_pow (by omega) (by omega)
        have m1 := Div_is ha hb h0 rfl rfl
        have m2 := Mul_is (a := G.qt a b) (b := b) (by omega) hb rfl (by omega)
        have m3 := Add_is (a := G.mul (G.qt a b) b) (b := G.md a b) (by omega) hr hs.1
        have m4 := Deg_is hr rfl
        have m5 := Deg_is hb rfl
        by_cases ho : 0 ≤ a2 ∧ a2 ≤ 2147483647
        · obtain ⟨o, rfl⟩ := Int.eq_ofNat_of_zero_le ho.1
          have ho2 : o ≤ 2147483647 := by omega
          by_cases hl : 2147483647 < G.mul o b
          · exact polyDiv_other a b _ _ _ _ _ o 0 2 w (by omega) rfl rfl m0 m1 m2 m3 m4 m5 (fun w => Mul_large o b w ho2 hb hl)
          · by_cases hoq : o = G.qt a b
            · rw [hoq]
              exact polyDiv_same a b _ _ _ _ _ w (by omega) m0 m1 m2 m3 m4 m5
            · have m6 := Mul_is (a := o) (b := b) ho2 hb rfl (by omega)
              have m7 := Add_is (a := G.mul o b) (b := a) (by omega) ha rfl
              have ht : G.mul o b ^^^ a < 2 ^ 31 := Nat.xor_lt_two_pow (by omega) (by omega)
              have m8 := Deg_is (a := G.mul o b ^^^ a) (by omega) rfl
              refine polyDiv_else a b _ _ _ o _ _ _ _ _ w (by omega) ?_ (by simp; omega) m0 m1 m2 m3 m4 m5 m6 m7 m8
              have e : G.mul o b ^^^ a = G.mul (o ^^^ G.qt a b) b ^^^ G.md a b := by
                rw [G.xor_mul, Nat.xor_assoc, hs.1]
              have hne : o ^^^ G.qt a b ≠ 0 := fun h => hoq (G.xor_eq_zero h)
              have hlm := G.L_mul _ _ hne h0
              have := G.L_pos.2 hne
              rw [e, G.L_xor_of_gt (by omega)]
              omega
        · exact polyDiv_other a b _ _ _ _ _ a2 0 1 w (by omega) rfl rfl m0 m1 m2 m3 m4 m5 (fun w => Mul_bad a2 b w (by omega))
    · exact polyDiv_err a0 a1 a2 1 w rfl rfl m0 (fun w => Div_bad a0 a1 w hbad)
  refine key.mono ?_
  rintro e w' ⟨he, rfl⟩
  exact ⟨he, Grown.refl _⟩

end Go.Proofs.Ytabdchehbgchcaa
