/- CutMore: with more bits that must be there the first piece ends no sooner; for every input; what was there stands below. -/
import Derived.Test.YtalenienmkaflaaCutK
namespace Go.Proofs.Ytalenienmkaflaa
open Go.RowKit

theorem cutMore_test : EndsAns ⟨#[97, 98, 99]⟩ 1 3 0 [1, 2, 3] 3 :=
  endsAns (le := 1) (mo := 3) (mk := 0) (by decide) (by decide) (by decide) (by decide) (by decide) (by decide +kernel) rfl

set_option maxRecDepth 100000 in
set_option maxHeartbeats 2000000 in
theorem cutMore_bad (s : ByteArray) (a1 a2 a3 a4 : Int) (p q A B C : Nat) (w : World) (hp : p ≤ 20) (hq : q ≤ 40) (_ : A < 65536) (_ : B < 65536) (hor : bits .or .i64 (A : Int) (B : Int) = (C : Int))
    (w1 : Ans1 21 #[.int .i64 a1, .int .i64 20] (.int .i64 p)) (w2 : Ans1 21 #[.int .i64 a2, .int .i64 40] (.int .i64 q))
    (w3 : Ans1 21 #[.int .i64 a3, .int .i64 65536] (.int .i64 A)) (w4 : Ans1 21 #[.int .i64 a4, .int .i64 65536] (.int .i64 B))
    (h1 : EndsBad s (1 + (p : Int)) (1 + (p : Int) + (q : Int)) A 2) (h2 : EndsBad s (1 + (p : Int)) (1 + (p : Int) + (q : Int)) C 2) :
    Calls Try.prog 4 #[.string s, .int .i64 a1, .int .i64 a2, .int .i64 a3, .int .i64 a4] w fun e w' => e = .returned (.bool true) ∧ Below w.heap.size w w' := by
  have T1 := cutMore_test
  go_enter Try.func4, Try.ntmps4
  go_wp2_with fail
  with_reducible refine T1.use ?_
  rintro e x1 ⟨b1, c1, rfl, hb1, -⟩
  go_wp2_with fail
  with_reducible refine w1.use ?_
  rintro e w' ⟨rfl, rfl⟩
  go_wp2_with fail
  with_reducible refine w2.use ?_
  rintro e w' ⟨rfl, rfl⟩
  go_wp2_with fail
  with_reducible refine w3.use ?_
  rintro e w' ⟨rfl, rfl⟩
  go_wp2_with fail
  with_reducible refine w4.use ?_
  rintro e w' ⟨rfl, rfl⟩
  go_wp2_with fail
  with_reducible refine h1.use ?_
  rintro e w' ⟨rfl, rfl⟩
  go_wp2_with fail
  with_reducible refine h2.use ?_
  rintro e w' ⟨rfl, rfl⟩
  go_wp2_with fail
  go_ret
  exact ⟨rfl, hb1⟩

set_option maxRecDepth 100000 in
set_option maxHeartbeats 2000000 in
theorem cutMore_none (s : ByteArray) (a1 a2 a3 a4 : Int) (p q A B C : Nat) (w : World) (hs : s = ⟨#[]⟩) (hp : p ≤ 20) (hq : q ≤ 40) (_ : A < 65536) (_ : B < 65536) (hor : bits .or .i64 (A : Int) (B : Int) = (C : Int))
    (w1 : Ans1 21 #[.int .i64 a1, .int .i64 20] (.int .i64 p)) (w2 : Ans1 21 #[.int .i64 a2, .int .i64 40] (.int .i64 q))
    (w3 : Ans1 21 #[.int .i64 a3, .int .i64 65536] (.int .i64 A)) (w4 : Ans1 21 #[.int .i64 a4, .int .i64 65536] (.int .i64 B))
    (h1 : EndsAns s (1 + (p : Int)) (1 + (p : Int) + (q : Int)) A [] 0) (h2 : EndsAns s (1 + (p : Int)) (1 + (p : Int) + (q : Int)) C [] 0) :
    Calls Try.prog 4 #[.string s, .int .i64 a1, .int .i64 a2, .int .i64 a3, .int .i64 a4] w fun e w' => e = .returned (.bool true) ∧ Below w.heap.size w w' := by
  have T1 := cutMore_test
  subst hs
  go_enter Try.func4, Try.ntmps4
  go_wp2_with fail
  with_reducible refine T1.use ?_
  rintro e x1 ⟨b1, c1, rfl, hb1, -⟩
  go_wp2_with fail
  with_reducible refine w1.use ?_
  rintro e w' ⟨rfl, rfl⟩
  go_wp2_with fail
  with_reducible refine w2.use ?_
  rintro e w' ⟨rfl, rfl⟩
  go_wp2_with fail
  with_reducible refine w3.use ?_
  rintro e w' ⟨rfl, rfl⟩
  go_wp2_with fail
  with_reducible refine w4.use ?_
  rintro e w' ⟨rfl, rfl⟩
  go_wp2_with fail
  with_reducible refine h1.use ?_
  rintro e x2 ⟨b2, c2, rfl, hb2, -⟩
  go_wp2_with fail
  with_reducible refine h2.use ?_
  rintro e x3 ⟨b3, c3, rfl, hb3, -⟩
  have hB1 := hb1.trans (hb2.mono hb1.size)
  have hB := hB1.trans (hb3.mono hB1.size)
  go_wp2_with fail
  go_ret
  exact ⟨rfl, hB⟩

set_option maxRecDepth 100000 in
set_option maxHeartbeats 2000000 in
theorem cutMore_core (s : ByteArray) (a1 a2 a3 a4 : Int) (p q A B C n m x y : Nat) (l k : List Nat) (w : World) (hs : (s.toList == []) = false) (hp : p ≤ 20) (hq : q ≤ 40) (_ : A < 65536) (_ : B < 65536) (hor : bits .or .i64 (A : Int) (B : Int) = (C : Int))
    (w1 : Ans1 21 #[.int .i64 a1, .int .i64 20] (.int .i64 p)) (w2 : Ans1 21 #[.int .i64 a2, .int .i64 40] (.int .i64 q))
    (w3 : Ans1 21 #[.int .i64 a3, .int .i64 65536] (.int .i64 A)) (w4 : Ans1 21 #[.int .i64 a4, .int .i64 65536] (.int .i64 B))
    (h1 : EndsAns s (1 + (p : Int)) (1 + (p : Int) + (q : Int)) A l n) (h2 : EndsAns s (1 + (p : Int)) (1 + (p : Int) + (q : Int)) C k m)
    (hn : 0 < n) (hm : 0 < m) (hl : l[0]? = some x) (hk : k[0]? = some y) (hxy : x ≤ y) :
    Calls Try.prog 4 #[.string s, .int .i64 a1, .int .i64 a2, .int .i64 a3, .int .i64 a4] w fun e w' => e = .returned (.bool true) ∧ Below w.heap.size w w' := by
  have T1 := cutMore_test
  have HL := Lib.hid hl; have HK := Lib.hid hk
  clear hl hk
  have d1 : decide ((0 : Int) < (n : Int)) = true := decide_eq_true (by omega)
  have d2 : decide ((0 : Int) < (m : Int)) = true := decide_eq_true (by omega)
  go_enter Try.func4, Try.ntmps4
  go_wp2_with fail
  with_reducible refine T1.use ?_
  rintro e x1 ⟨b1, c1, rfl, hb1, -⟩
  go_wp2_with fail
  with_reducible refine w1.use ?_
  rintro e w' ⟨rfl, rfl⟩
  go_wp2_with fail
  with_reducible refine w2.use ?_
  rintro e w' ⟨rfl, rfl⟩
  go_wp2_with fail
  with_reducible refine w3.use ?_
  rintro e w' ⟨rfl, rfl⟩
  go_wp2_with fail
  with_reducible refine w4.use ?_
  rintro e w' ⟨rfl, rfl⟩
  go_wp2_with fail
  with_reducible refine h1.use ?_
  rintro e x2 ⟨b2, c2, rfl, hb2, hr2, -⟩
  obtain ⟨g2, rfl, hR2⟩ := hr2 (by omega)
  go_wp2_with fail
  with_reducible refine h2.use ?_
  rintro e x3 ⟨b3, c3, rfl, hb3, hr3, -⟩
  obtain ⟨g3, rfl, hR3⟩ := hr3 (by omega)
  have hB1 := hb1.trans (hb2.mono hb1.size)
  have hB := hB1.trans (hb3.mono hB1.size)
  have k1 := (hR2.keep hb3).at HL.out
  have k2 := hR3.at HK.out
  have HBB := Lib.hid hB
  clear hb1 hb2 hb3 hr2 hr3 hR2 hR3 hB1 hB T1
  go_wp2_with fail
  go_quiet (fail)
  go_wp2_with fail
  go_ret
  exact ⟨rfl, below_drew HBB.out _⟩

theorem cutMore_walk (a0 : ByteArray) (a1 : Int) (a2 : Int) (a3 : Int) (a4 : Int) (w0 : a0.size ≤ maxLen) (_ : (Lit.int .i64 a1).wf = true) (_ : (Lit.int .i64 a2).wf = true) (_ : (Lit.int .i64 a3).wf = true) (_ : (Lit.int .i64 a4).wf = true) (w : World) :
    Calls Try.prog 4 #[.string a0, .int .i64 a1, .int .i64 a2, .int .i64 a3, .int .i64 a4] w fun e w' => e = .returned (.bool true) ∧ Below w.heap.size w w' := by
  have hp := wi_lt a1 20 (by decide)
  have hq := wi_lt a2 40 (by decide)
  have hA := wi_lt a3 65536 (by decide)
  have hB := wi_lt a4 65536 (by decide)
  have w1 := within_is (k := a1) (n := 20) (N := 20) rfl (by omega) (by omega) rfl
  have w2 := within_is (k := a2) (n := 40) (N := 40) rfl (by omega) (by omega) rfl
  have w3 := within_is (k := a3) (n := 65536) (N := 65536) rfl (by omega) (by omega) rfl
  have w4 := within_is (k := a4) (n := 65536) (N := 65536) rfl (by omega) (by omega) rfl
  generalize wi a1 20 = p at *
  generalize wi a2 40 = q at *
  generalize wi a3 65536 = A at *
  generalize wi a4 65536 = B at *
  have hor := i64_or_nat A B (by omega) (by omega)
  have hC : A ||| B < 65536 := Nat.or_lt_two_pow (n := 16) hA hB
  have e1 : (1 : Int) + (p : Int) = ((1 + p : Nat) : Int) := by omega
  have e2 : (1 : Int) + (p : Int) + (q : Int) = ((1 + p + q : Nat) : Int) := by omega
  by_cases hs : 600 < a0.size
  · exact cutMore_bad a0 a1 a2 a3 a4 p q A B _ w (by omega) (by omega) hA hB hor w1 w2 w3 w4 (fun w => Ends_large a0 _ _ _ w hs w0) (fun w => Ends_large a0 _ _ _ w hs w0)
  · have hll : a0.data.toList.length = a0.size := by simp
    by_cases he : a0.data.toList = []
    · have hz : a0 = ⟨#[]⟩ := ByteArray.ext (Array.toList_inj.mp he)
      exact cutMore_none a0 a1 a2 a3 a4 p q A B _ w hz (by omega) (by omega) hA hB hor w1 w2 w3 w4
        (by rw [e2, e1]; exact endsAns (by omega) (by omega) (by omega) (by omega) (by omega) (by rw [he]; rfl) rfl)
        (by rw [e2, e1]; exact endsAns (by omega) (by omega) (by omega) (by omega) (by omega) (by rw [he]; rfl) rfl)
    · have c1 := Ct.ends_cons (least := 1 + p) (most := 1 + p + q) (mask := A) (by omega) he
      have c2 := Ct.ends_cons (least := 1 + p) (most := 1 + p + q) (mask := A ||| B) (by omega) he
      exact cutMore_core a0 a1 a2 a3 a4 p q A B _ _ _ (Ct.piece (1 + p) (1 + p + q) A a0.data.toList) (Ct.piece (1 + p) (1 + p + q) (A ||| B) a0.data.toList) _ _ w
        (by rw [beq_eq_false_iff_ne, ByteArray.toList_eq]; exact he) (by omega) (by omega) hA hB hor w1 w2 w3 w4
        (by rw [e2, e1]; exact endsAns (by omega) (by omega) (by omega) (by omega) (by omega) rfl rfl)
        (by rw [e2, e1]; exact endsAns (by omega) (by omega) (by omega) (by omega) (by omega) rfl rfl)
        (by rw [c1]; simp) (by rw [c2]; simp) (by rw [c1]; rfl) (by rw [c2]; rfl) (Ct.piece_mono _ _ _ _ _)

end Go.Proofs.Ytalenienmkaflaa
