/- CutEven: without a mask each piece but the last has the least bytes that it may have; for every input; what was there stands below. -/
import Derived.Test.YtalenienmkaflaaCutK
namespace Go.Proofs.Ytalenienmkaflaa
open Go.RowKit

theorem cutEven_test : EndsAns ⟨#[97, 97, 97, 97, 97]⟩ 2 9 0 [2, 4, 5] 3 :=
  endsAns (le := 2) (mo := 9) (mk := 0) (by decide) (by decide) (by decide) (by decide) (by decide) (by decide +kernel) rfl

theorem lit245 : ∀ j (hj : j < [2, 4, 5].length), (#[.int .i64 2, .int .i64 4, .int .i64 5] : Array Value)[j]? = some (.int .i64 (([2, 4, 5][j] : Nat) : Int)) := by
  intro j hj
  rcases j with _ | _ | _ | j
  · rfl
  · rfl
  · rfl
  · exact absurd hj (by simp)

set_option maxRecDepth 100000 in
set_option maxHeartbeats 2000000 in
theorem cutEven_bad (s : ByteArray) (a1 a2 : Int) (p q : Nat) (w : World) (hp : p ≤ 40) (hq : q ≤ 40)
    (w1 : Ans1 21 #[.int .i64 a1, .int .i64 40] (.int .i64 p)) (w2 : Ans1 21 #[.int .i64 a2, .int .i64 40] (.int .i64 q))
    (h1 : EndsBad s (1 + (p : Int)) (1 + (p : Int) + (q : Int)) 0 2) :
    Calls Try.prog 6 #[.string s, .int .i64 a1, .int .i64 a2] w fun e w' => e = .returned (.bool true) ∧ Below w.heap.size w w' := by
  have T1 := cutEven_test
  go_enter Try.func6, Try.ntmps6
  go_wp2_with fail
  with_reducible refine T1.use ?_
  rintro e x1 ⟨b1, c1, rfl, hb1, hr1, -⟩
  obtain ⟨g1, rfl, hR1⟩ := hr1 (by omega)
  have E1 := equal_new (c := c1) (n := 3) hR1 rfl (by decide) lit245
  have HB := Lib.hid (hb1.alloc hb1.size (.cells #[.int .i64 2, .int .i64 4, .int .i64 5] 3))
  clear hb1 hr1 hR1 T1
  go_wp2_with fail
  with_reducible refine E1.mono ?_
  rintro e x2 ⟨rfl, z, hz⟩
  have HB2 : Hid (Below w.heap.size w x2) := Lib.hid (by rw [hz]; exact below_drew HB.out _)
  clear hz HB
  go_wp2_with fail
  with_reducible refine w1.use ?_
  rintro e w' ⟨rfl, rfl⟩
  go_wp2_with fail
  with_reducible refine w2.use ?_
  rintro e w' ⟨rfl, rfl⟩
  go_wp2_with fail
  with_reducible refine h1.use ?_
  rintro e w' ⟨rfl, rfl⟩
  go_wp2_with fail
  go_ret
  exact ⟨rfl, HB2.out⟩

set_option maxRecDepth 100000 in
set_option maxHeartbeats 4000000 in
theorem cutEven_core (s : ByteArray) (a1 a2 : Int) (p q n : Nat) (l : List Nat) (w : World) (hp : p ≤ 40) (hq : q ≤ 40) (hs : s.size ≤ 600) (hl : l.length = n) (hn : n ≤ 600)
    (w1 : Ans1 21 #[.int .i64 a1, .int .i64 40] (.int .i64 p)) (w2 : Ans1 21 #[.int .i64 a2, .int .i64 40] (.int .i64 q))
    (h1 : EndsAns s (1 + (p : Int)) (1 + (p : Int) + (q : Int)) 0 l n) (hdiv : (s.size + (1 + p) - 1) / (1 + p) = n) (hx : ∀ i x, l[i]? = some x → x = min s.size ((i + 1) * (1 + p))) :
    Calls Try.prog 6 #[.string s, .int .i64 a1, .int .i64 a2] w fun e w' => e = .returned (.bool true) ∧ Below w.heap.size w w' := by
  have T1 := cutEven_test
  have HL := Lib.hid hl; have HX := Lib.hid hx
  have hdi : ((s.size : Int) + (1 + (p : Int)) - 1) / (1 + (p : Int)) = (n : Int) := by
    rw [← hdiv, Int.natCast_ediv]
    congr 1 <;> omega
  have hdt : Int.tdiv ((s.size : Int) + (1 + (p : Int)) - 1) (1 + (p : Int)) = (n : Int) := by rw [Int.tdiv_eq_ediv_of_nonneg (by omega)]; exact hdi
  clear hl hx hdiv
  go_enter Try.func6, Try.ntmps6
  go_wp2_with fail
  with_reducible refine T1.use ?_
  rintro e x1 ⟨b1, c1, rfl, hb1, hr1, -⟩
  obtain ⟨g1, rfl, hR1⟩ := hr1 (by omega)
  have E1 := equal_new (c := c1) (n := 3) hR1 rfl (by decide) lit245
  have HB := Lib.hid (hb1.alloc hb1.size (.cells #[.int .i64 2, .int .i64 4, .int .i64 5] 3))
  clear hb1 hr1 hR1 T1
  go_wp2_with fail
  with_reducible refine E1.mono ?_
  rintro e x2 ⟨rfl, z, hz⟩
  have HB2 : Hid (Below w.heap.size w x2) := Lib.hid (by rw [hz]; exact below_drew HB.out _)
  clear hz HB
  go_wp2_with fail
  with_reducible refine w1.use ?_
  rintro e w' ⟨rfl, rfl⟩
  go_wp2_with fail
  with_reducible refine w2.use ?_
  rintro e w' ⟨rfl, rfl⟩
  go_wp2_with fail
  with_reducible refine h1.use ?_
  rintro e x3 ⟨b3, c3, rfl, hb3, hr3, -⟩
  have HB3 := Lib.hid (HB2.out.trans (hb3.mono HB2.out.size))
  have HC : Hid (∀ k, k < n → ∃ (g3 y : Nat), b3 = some ⟨g3, 0, none⟩ ∧ y ≤ 600 ∧ x3.cell? ⟨g3, k, none⟩ = some (.int .i64 (y : Int)) ∧ y = min s.size ((k + 1) * (1 + p))) := Lib.hid fun k hk => by
    obtain ⟨g3, rfl, hR4⟩ := hr3 (by omega)
    have hkl : k < l.length := by rw [HL.out]; exact hk
    have e := HX.out k l[k] (List.getElem?_eq_getElem hkl)
    exact ⟨g3, l[k], rfl, by omega, hR4.2 k hkl, e⟩
  clear HB2 hb3 hr3
  go_wp2_with fail
  go_loop [59] (fun k => ∃ i : Nat, i ≤ n ∧ k = .int .i64 i) (fun k => n - (intOf k).toNat)
  case atStart => exact ⟨0, by omega, rfl⟩
  case round =>
    obtain ⟨i, hi, rfl⟩ := hrel
    by_cases hlt : i < n
    · obtain ⟨g3, y, rfl, hy, hc, hyz⟩ := HC.out i hlt
      obtain ⟨z, hz⟩ : ∃ z, z = (i + 1) * (1 + p) := ⟨_, rfl⟩
      rw [← hz] at hyz
      have hzb : z ≤ 700 * 41 := by rw [hz]; exact Nat.mul_le_mul (by omega) (by omega)
      have hzi : ((i : Int) + 1) * (1 + (p : Int)) = (z : Int) := by rw [hz, Int.natCast_mul]; congr 1
      have hmin : min (s.size : Int) (z : Int) = (y : Int) := by omega
      have HZ := Lib.hid hz; have HY := Lib.hid hyz
      clear hz hyz
      go_wp2_with fail
      go_round
      case rel => exact ⟨i + 1, by omega, by go_num⟩
      case measure => simp [intOf]; omega
    · obtain rfl : i = n := by omega
      go_wp2_with fail
      go_ret
      exact ⟨rfl, HB3.out⟩

theorem cutEven_walk (a0 : ByteArray) (a1 : Int) (a2 : Int) (w0 : a0.size ≤ maxLen) (_ : (Lit.int .i64 a1).wf = true) (_ : (Lit.int .i64 a2).wf = true) (w : World) :
    Calls Try.prog 6 #[.string a0, .int .i64 a1, .int .i64 a2] w fun e w' => e = .returned (.bool true) ∧ Below w.heap.size w w' := by
  have hp := wi_lt a1 40 (by decide)
  have hq := wi_lt a2 40 (by decide)
  have w1 := within_is (k := a1) (n := 40) (N := 40) rfl (by omega) (by omega) rfl
  have w2 := within_is (k := a2) (n := 40) (N := 40) rfl (by omega) (by omega) rfl
  generalize wi a1 40 = p at *
  generalize wi a2 40 = q at *
  have e1 : (1 : Int) + (p : Int) = ((1 + p : Nat) : Int) := by omega
  have e2 : (1 : Int) + (p : Int) + (q : Int) = ((1 + p + q : Nat) : Int) := by omega
  by_cases hs : 600 < a0.size
  · exact cutEven_bad a0 a1 a2 p q w (by omega) (by omega) w1 w2 (fun w => Ends_large a0 _ _ _ w hs w0)
  · have hll : a0.data.toList.length = a0.size := by simp
    have hev := Ct.ends_even (least := 1 + p) (most := 1 + p + q) (by omega) a0.data.toList
    have hle := Ct.ends_length (least := 1 + p) (most := 1 + p + q) (mask := 0) (by omega) a0.data.toList
    rw [hll] at hev
    exact cutEven_core a0 a1 a2 p q _ _ w (by omega) (by omega) (by omega) rfl (by omega) w1 w2
      (by rw [e2, e1]; exact endsAns (mk := 0) (by omega) (by omega) (by omega) (by omega) (by omega) rfl rfl) hev.1.symm hev.2

end Go.Proofs.Ytalenienmkaflaa
