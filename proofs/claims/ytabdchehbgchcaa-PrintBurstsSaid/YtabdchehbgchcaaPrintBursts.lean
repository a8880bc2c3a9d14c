/- PrintBursts: texts that differ in sixteen bits side by side, or fewer, have unlike prints by a modulus with a 1 at its end and of a degree of 16 or more; for every input; what was there stands below. -/
import Derived.Test.YtabdchehbgchcaaBurstP
import Derived.Test.YtabdchehbgchcaaShut
namespace Go.Proofs.Ytabdchehbgchcaa
open Go.RowKit

set_option maxRecDepth 100000 in
set_option maxHeartbeats 1000000 in
theorem printBursts_core (m : Int) (at0 : Int) (s s' X : ByteArray) (n t W M A a b : Nat) (w : World) (hn : s'.size = n) (hn600 : n ≤ 600)
    (hmin : min (s.size : Int) 600 = n) (hW : W ≤ 2147418110)
    (hor : bits .or .i64 (65536 + (W : Int)) 1 = (M : Int))
    (cut : ∀ w, (Instr.slice 9 (.string s) none (some (.int .i64 n)) none).run Try.prog w = .ok (.string s') w)
    (o0 : Ans2 29 #[.int .i64 65581, .string ⟨#[97]⟩] (.int .i64 353) (.int .i64 0))
    (o1 : Ans2 29 #[.int .i64 65581, .string ⟨#[99]⟩] (.int .i64 355) (.int .i64 0))
    (h1 : Ans1 25 #[.int .i64 m, .int .i64 2147418111] (.int .i64 W))
    (ht0 : ((t : Int) == 0) = false) (hn2 : 2 ≤ n)
    (h2 : Ans1 25 #[.int .i64 at0, .int .i64 (8 * (n : Int) - 15)] (.int .i64 A))
    (o2 : Ans2 29 #[.int .i64 M, .string s'] (.int .i64 a) (.int .i64 0))
    (br : ∀ w, Calls Try.prog 31 #[.string s', .int .i64 A, .int .u16 t] w fun e w' => e = .returned (.string X) ∧ Below w.heap.size w w')
    (o3 : Ans2 29 #[.int .i64 M, .string X] (.int .i64 b) (.int .i64 0))
    (hab : ((a : Int) != b) = true) :
    Calls Try.prog 6 #[.int .i64 m, .string s, .int .i64 at0, .int .u16 t] w fun e w' => e = .returned (.bool true) ∧ Below w.heap.size w w' := by
  go_enter Try.func6, Try.ntmps6
  go_wp2_with fail
  with_reducible refine o0.use ?_
  rintro e w' ⟨rfl, rfl⟩
  go_wp2_with fail
  with_reducible refine o1.use ?_
  rintro e w' ⟨rfl, rfl⟩
  go_wp2_with fail
  with_reducible refine h1.use ?_
  rintro e w' ⟨rfl, rfl⟩
  go_wp2_with fail
  with_reducible refine h2.use ?_
  rintro e w' ⟨rfl, rfl⟩
  go_wp2_with fail
  with_reducible refine o2.use ?_
  rintro e w' ⟨rfl, rfl⟩
  go_wp2_with fail
  with_reducible refine (br _).mono ?_
  intro e w' ⟨he, hb⟩
  subst he
  go_wp2_with fail
  with_reducible refine o3.use ?_
  rintro e w' ⟨rfl, rfl⟩
  go_wp2_with fail
  go_ret
  exact ⟨rfl, hb⟩

set_option maxRecDepth 100000 in
set_option maxHeartbeats 1000000 in
theorem printBursts_none (m : Int) (at0 : Int) (s s' : ByteArray) (n t W M : Nat) (w : World) (hn : s'.size = n)
    (hmin : min (s.size : Int) 600 = n) (hW : W ≤ 2147418110)
    (hor : bits .or .i64 (65536 + (W : Int)) 1 = (M : Int))
    (cut : ∀ w, (Instr.slice 9 (.string s) none (some (.int .i64 n)) none).run Try.prog w = .ok (.string s') w)
    (o0 : Ans2 29 #[.int .i64 65581, .string ⟨#[97]⟩] (.int .i64 353) (.int .i64 0))
    (o1 : Ans2 29 #[.int .i64 65581, .string ⟨#[99]⟩] (.int .i64 355) (.int .i64 0))
    (h1 : Ans1 25 #[.int .i64 m, .int .i64 2147418111] (.int .i64 W))
    (h : t = 0 ∨ ((t : Int) == 0) = false ∧ n < 2) :
    Calls Try.prog 6 #[.int .i64 m, .string s, .int .i64 at0, .int .u16 t] w fun e w' => e = .returned (.bool true) ∧ Below w.heap.size w w' := by
  rcases h with rfl | ⟨ht, h2⟩
  all_goals
    go_enter Try.func6, Try.ntmps6
    go_wp2_with fail
    with_reducible refine o0.use ?_
    rintro e w' ⟨rfl, rfl⟩
    go_wp2_with fail
    with_reducible refine o1.use ?_
    rintro e w' ⟨rfl, rfl⟩
    go_wp2_with fail
    with_reducible refine h1.use ?_
    rintro e w' ⟨rfl, rfl⟩
    go_wp2_with fail
    go_ret
    exact ⟨rfl, Below.refl _ _⟩

theorem sl_to2 {P : Program} {t : TypeId} (hu : P.underlying t = some .string) {s : ByteArray} {y : Int} {b : Nat} (hy : y = b) (hb : b ≤ s.size) :
    ∀ w, (Instr.slice t (.string s) none (some (.int .i64 y)) none).run P w = .ok (.string (s.extract 0 b)) w := by
  intro w
  subst hy
  have := run_slice_string_to_if w t s .i64 (b : Int) hu
  rw [this, if_pos (by omega), Int.toNat_natCast]

theorem or_one_odd (x : Nat) : (x ||| 1) % 2 = 1 ∧ x ≤ x ||| 1 ∧ x ||| 1 ≤ x + 1 := by
  have h1 := Nat.or_mod_two_pow (a := x) (b := 1) (n := 1)
  have h2 := Nat.or_div_two_pow (a := x) (b := 1) (n := 1)
  simp only [Nat.pow_one] at h1 h2
  have h3 : x % 2 ||| 1 = 1 := by rcases Nat.mod_two_eq_zero_or_one x with h | h <;> rw [h] <;> rfl
  rw [show (1 : Nat) % 2 = 1 from rfl, h3] at h1
  rw [show (1 : Nat) / 2 = 0 from rfl, Nat.or_zero] at h2
  omega

theorem printBursts_walk (a0 : Int) (a1 : ByteArray) (a2 : Int) (a3 : Int) (_ : (Lit.int .i64 a0).wf = true) (_ : a1.size ≤ maxLen) (_ : (Lit.int .i64 a2).wf = true) (w3 : (Lit.int .u16 a3).wf = true) (w : World) :
    Calls Try.prog 6 #[.int .i64 a0, .string a1, .int .i64 a2, .int .u16 a3] w fun e w' => e = .returned (.bool true) ∧ Below w.heap.size w w' := by
  have hb : 0 ≤ a3 ∧ a3 < 65536 := by simp [Lit.wf, IntKind.min, IntKind.max, IntKind.signed, IntKind.bits] at w3; omega
  obtain ⟨t, rfl⟩ := Int.eq_ofNat_of_zero_le (show 0 ≤ a3 by omega)
  have o0 := Of_is (m := 65581) (s := ⟨#[97]⟩) (x := 353) (by omega) (by omega) (by decide) (by decide +kernel)
  have o1 := Of_is (m := 65581) (s := ⟨#[99]⟩) (x := 355) (by omega) (by omega) (by decide) (by decide +kernel)
  obtain ⟨n, hn⟩ : ∃ n, n = min a1.size 600 := ⟨_, rfl⟩
  have hmin : min (a1.size : Int) 600 = n := by omega
  have hs' : (a1.extract 0 n).size = n := by rw [ByteArray.size_extract]; omega
  have cut := sl_to2 Try.underlying9 (s := a1) (y := (n : Int)) (b := n) rfl (by omega)
  generalize a1.extract 0 n = s' at *
  have hW := wi_lt a0 2147418111 (by omega)
  have h1 := within_is (k := a0) (n := 2147418111) (N := 2147418111) rfl (by omega) (by omega) rfl
  generalize wi a0 2147418111 = W at *
  obtain ⟨M, hM⟩ : ∃ M, M = (65536 + W) ||| 1 := ⟨_, rfl⟩
  have hor : bits .or .i64 (65536 + (W : Int)) 1 = (M : Int) := by
    rw [hM, show (65536 + (W : Int)) = ((65536 + W : Nat) : Int) from by omega]
    exact i64_or_nat _ 1 (by omega) (by omega)
  have hodd := or_one_odd (65536 + W)
  rw [← hM] at hodd
  clear hM
  by_cases ht : t = 0 ∨ ((t : Int) == 0) = false ∧ n < 2
  · exact printBursts_none a0 a2 a1 s' n t W M w hs' hmin (by omega) hor cut o0 o1 h1 ht
  · have ht0 : t ≠ 0 := fun h => ht (Or.inl h)
    have htb : ((t : Int) == 0) = false := beq_eq_false_iff_ne.2 (by omega)
    have hn2 : 2 ≤ n := by
      rcases Nat.lt_or_ge n 2 with h | h
      · exact (ht (Or.inr ⟨htb, h⟩)).elim
      · exact h
    have hA := wi_lt a2 (8 * n - 15) (by omega)
    have h2 := within_is (k := a2) (n := 8 * n - 15) (N := 8 * (n : Int) - 15) (by omega) (by omega) (by omega) rfl
    generalize wi a2 (8 * n - 15) = A at *
    have h0 : M ≠ 0 := by omega
    have hlen : s'.data.toList.length = n := by rw [← hs']; simp
    have key := G.print_burst s'.data.toList A t M (by omega) (by omega) ht0 hodd.1 (by omega)
    have o2 := Of_is (m := M) (s := s') (by omega) (by omega) (by omega) rfl
    have hXs : (⟨(brs s'.data.toList A t 16).toArray⟩ : ByteArray).size = n := by show (List.toArray _).size = n; rw [List.size_toArray, brs_length, hlen]
    have o3 := Of_is (m := M) (s := ⟨(brs s'.data.toList A t 16).toArray⟩) (by omega) (by omega) (by omega) rfl
    exact printBursts_core a0 a2 a1 s' _ n t W M A _ _ w hs' (by omega) hmin (by omega) hor cut o0 o1 h1 htb hn2 h2 o2
      (fun w => burst_any s' A t w (by omega) (by omega) (by omega)) o3 (bne_iff_ne.2 fun h => key (Int.ofNat_inj.1 h))

end Go.Proofs.Ytabdchehbgchcaa
