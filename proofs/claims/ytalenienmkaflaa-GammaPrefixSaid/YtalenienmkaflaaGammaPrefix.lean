/- GammaPrefix: no number's bits begin another's; a greater one's are no shorter; from 16 on Delta is no longer than Gamma; for every input; what was there stands below. -/
import Derived.Test.YtalenienmkaflaaGammaW
import Derived.Test.YtalenienmkaflaaShut
namespace Go.Proofs.Ytalenienmkaflaa
open Go.RowKit

theorem plain_one : (⟨(Gm.plain 1).toArray⟩ : ByteArray) = ⟨#[49]⟩ := by decide +kernel
theorem delta_one : (⟨(Gm.delta 1).toArray⟩ : ByteArray) = ⟨#[49]⟩ := by decide +kernel

set_option maxRecDepth 100000 in
set_option maxHeartbeats 4000000 in
theorem gammaPrefix_core (a0 a1 : Int) (a b : Nat) (p q u v : ByteArray) (w : World) (ha : a ≤ 2147483646) (hb : b ≤ 2147483646)
    (w1 : Ans1 21 #[.int .i64 a0, .int .i64 2147483647] (.int .i64 a)) (w2 : Ans1 21 #[.int .i64 a1, .int .i64 2147483647] (.int .i64 b))
    (t1 : TextAns 35 1 ⟨#[49]⟩) (t2 : TextAns 36 1 ⟨#[49]⟩)
    (g1 : TextAns 35 (1 + (a : Int)) p) (g2 : TextAns 35 (1 + (b : Int)) q) (g3 : TextAns 36 (1 + (a : Int)) u) (g4 : TextAns 36 (1 + (b : Int)) v)
    (_ : p.size ≤ 1000) (_ : q.size ≤ 1000) (_ : u.size ≤ 1000) (_ : v.size ≤ 1000)
    (h : (1 + (a : Int) != 1 + (b : Int)) = false ∨ (1 + (a : Int) != 1 + (b : Int)) = true ∧ Ans1 29 #[.string q, .string p] (.bool false) ∧ Ans1 29 #[.string v, .string u] (.bool false))
    (h2 : decide (b < a) = true ∨ decide (b < a) = false ∧ decide (p.size ≤ q.size) = true ∧ decide (u.size ≤ v.size) = true)
    (h3 : decide (1 + (a : Int) < 16) = true ∨ decide (1 + (a : Int) < 16) = false ∧ decide (u.size ≤ p.size) = true) :
    Calls Try.prog 18 #[.int .i64 a0, .int .i64 a1] w fun e w' => e = .returned (.bool true) ∧ Below w.heap.size w w' := by
  go_enter Try.func18, Try.ntmps18
  go_wp2_with fail
  with_reducible refine t1.use ?_
  rintro e x1 ⟨rfl, hb1⟩
  go_wp2_with fail
  with_reducible refine t2.use ?_
  rintro e x2 ⟨rfl, hb2⟩
  go_wp2_with fail
  with_reducible refine w1.use ?_
  rintro e w' ⟨rfl, rfl⟩
  go_wp2_with fail
  with_reducible refine w2.use ?_
  rintro e w' ⟨rfl, rfl⟩
  go_wp2_with fail
  with_reducible refine g1.use ?_
  rintro e x3 ⟨rfl, hb3⟩
  go_wp2_with fail
  with_reducible refine g2.use ?_
  rintro e x4 ⟨rfl, hb4⟩
  go_wp2_with fail
  with_reducible refine g3.use ?_
  rintro e x5 ⟨rfl, hb5⟩
  go_wp2_with fail
  with_reducible refine g4.use ?_
  rintro e x6 ⟨rfl, hb6⟩
  have B2 := hb1.trans (hb2.mono hb1.size)
  have B3 := B2.trans (hb3.mono B2.size)
  have B4 := B3.trans (hb4.mono B3.size)
  have B5 := B4.trans (hb5.mono B4.size)
  have B6 := Lib.hid (B5.trans (hb6.mono B5.size))
  clear hb1 hb2 hb3 hb4 hb5 hb6 B2 B3 B4 B5 t1 t2 g1 g2 g3 g4 w1 w2
  rcases h with h | ⟨h, f1, f2⟩
  · rcases h2 with h2 | ⟨h2, h4, h5⟩ <;> rcases h3 with h3 | ⟨h3, h6⟩
    all_goals
      go_wp2_with fail
      go_ret
      exact ⟨rfl, B6.out⟩
  · rcases h2 with h2 | ⟨h2, h4, h5⟩ <;> rcases h3 with h3 | ⟨h3, h6⟩
    all_goals
      go_wp2_with fail
      with_reducible refine f1.use ?_
      rintro e w' ⟨rfl, rfl⟩
      go_wp2_with fail
      with_reducible refine f2.use ?_
      rintro e w' ⟨rfl, rfl⟩
      go_wp2_with fail
      go_ret
      exact ⟨rfl, B6.out⟩

theorem prefix_false {p q : ByteArray} (h : ¬ p.data.toList <+: q.data.toList) : Ans1 29 #[.string q, .string p] (.bool false) := fun w => by
  refine (Try.strings_HasPrefix q p w).mono ?_
  rintro e w' ⟨rfl, rfl⟩
  refine ⟨?_, rfl⟩
  have : Lib.hasPrefix q.data.toList p.data.toList = false := by
    unfold Lib.hasPrefix
    rw [Bool.eq_false_iff]
    intro h2
    exact h (List.isPrefixOf_iff_prefix.1 h2)
  rw [this]

theorem gammaPrefix_walk (a0 : Int) (a1 : Int) (_ : (Lit.int .i64 a0).wf = true) (_ : (Lit.int .i64 a1).wf = true) (w : World) :
    Calls Try.prog 18 #[.int .i64 a0, .int .i64 a1] w fun e w' => e = .returned (.bool true) ∧ Below w.heap.size w w' := by
  have ha := wi_lt a0 2147483647 (by decide)
  have hb := wi_lt a1 2147483647 (by decide)
  have w1 := within_is (k := a0) (n := 2147483647) (N := 2147483647) rfl (by omega) (by omega) rfl
  have w2 := within_is (k := a1) (n := 2147483647) (N := 2147483647) rfl (by omega) (by omega) rfl
  generalize wi a0 2147483647 = a at *
  generalize wi a1 2147483647 = b at *
  have G1 : ∀ n : Nat, n ≤ 2147483646 → TextAns 35 (1 + (n : Int)) ⟨(Gm.plain (1 + n)).toArray⟩ := fun n hn w => by rw [cast1]; exact Gamma_ok (1 + n) w (by omega) (by omega)
  have D1 : ∀ n : Nat, n ≤ 2147483646 → TextAns 36 (1 + (n : Int)) ⟨(Gm.delta (1 + n)).toArray⟩ := fun n hn w => by rw [cast1]; exact Delta_ok (1 + n) w (by omega) (by omega)
  have sz : ∀ l : List UInt8, (⟨l.toArray⟩ : ByteArray).size = l.length := fun l => by show (List.toArray _).size = _; rw [List.size_toArray]
  have tl : ∀ l : List UInt8, (⟨l.toArray⟩ : ByteArray).data.toList = l := fun l => rfl
  have z1 : ∀ n : Nat, n ≤ 2147483646 → (Gm.plain (1 + n)).length ≤ 1000 := fun n hn => by
    rw [Gm.plain_length _ (by omega)]
    have : G.L (1 + n) ≤ 31 := G.L_le.2 (by omega)
    omega
  have z2 : ∀ n : Nat, n ≤ 2147483646 → (Gm.delta (1 + n)).length ≤ 1000 := fun n hn => by
    rw [Gm.delta_length _ (by omega)]
    have h1 : G.L (1 + n) ≤ 31 := G.L_le.2 (by omega)
    have h2 : G.L (G.L (1 + n)) ≤ 31 := G.L_le.2 (by omega)
    omega
  refine gammaPrefix_core a0 a1 a b _ _ _ _ w (by omega) (by omega) w1 w2 (by have := G1 0 (by omega); rwa [plain_one] at this) (by have := D1 0 (by omega); rwa [delta_one] at this)
    (G1 a (by omega)) (G1 b (by omega)) (D1 a (by omega)) (D1 b (by omega)) (by rw [sz]; exact z1 a (by omega)) (by rw [sz]; exact z1 b (by omega)) (by rw [sz]; exact z2 a (by omega)) (by rw [sz]; exact z2 b (by omega)) ?_ ?_ ?_
  · by_cases h : a = b
    · left; rw [h]; simp
    · right
      refine ⟨bne_iff_ne.2 (by omega), prefix_false (fun hp => h ?_), prefix_false (fun hp => h ?_)⟩
      · have := Gm.plain_inj (by omega) (by omega) hp; omega
      · have := Gm.delta_inj (by omega) (by omega) hp; omega
  · by_cases h : b < a
    · left; exact decide_eq_true (by omega)
    · right
      have := Gm.lengths (a := 1 + a) (b := 1 + b) (by omega) (by omega)
      exact ⟨decide_eq_false (by omega), decide_eq_true (by rw [sz, sz]; omega), decide_eq_true (by rw [sz, sz]; omega)⟩
  · by_cases h : a < 15
    · left; exact decide_eq_true (by omega)
    · right
      have := Gm.delta_le (a := 1 + a) (by omega) (by omega)
      exact ⟨decide_eq_false (by omega), decide_eq_true (by rw [sz, sz]; omega)⟩

end Go.Proofs.Ytalenienmkaflaa
