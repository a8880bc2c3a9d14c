/- CutAhead: with more behind it a text is cut as it was, but at its end; for every input within the form's reach; what was there stands below. -/
import Derived.Test.YtalenienmkaflaaCutK
namespace Go.Proofs.Ytalenienmkaflaa
open Go.RowKit

theorem cutAhead_test : EndsAns ⟨#[97, 98, 99]⟩ 1 1 0 [1, 2, 3] 3 :=
  endsAns (le := 1) (mo := 1) (mk := 0) (by decide) (by decide) (by decide) (by decide) (by decide) (by decide +kernel) rfl

theorem lit123 : ∀ j (hj : j < [1, 2, 3].length), (#[.int .i64 1, .int .i64 2, .int .i64 3] : Array Value)[j]? = some (.int .i64 (([1, 2, 3][j] : Nat) : Int)) := by
  intro j hj
  rcases j with _ | _ | _ | j
  · rfl
  · rfl
  · rfl
  · exact absurd hj (by simp)

/-- The second text's answer, whatever it is: its row is no matter where an error came. -/
def EndsAny (s : ByteArray) (le mo mk : Int) (k : Nat) : Prop := ∀ w, Calls Try.prog 20 #[.string s, .int .i64 le, .int .i64 mo, .int .i64 mk] w fun e w' =>
  ∃ a n cap, e = .returned (.tuple #[.slice a n cap, .int .i64 k]) ∧ Below w.heap.size w w'

theorem EndsAny.use {s : ByteArray} {le mo mk : Int} {k : Nat} {w : World} {R : Ending → World → Prop} (h : EndsAny s le mo mk k)
    (hR : ∀ e w', (∃ a n cap, e = .returned (.tuple #[.slice a n cap, .int .i64 k]) ∧ Below w.heap.size w w') → R e w') :
    Calls Try.prog 20 #[.string s, .int .i64 le, .int .i64 mo, .int .i64 mk] w R := (h w).mono hR

theorem EndsAny.of_ans {s : ByteArray} {le mo mk : Int} {l : List Nat} {n : Nat} (h : EndsAns s le mo mk l n) : EndsAny s le mo mk 0 := fun w => by
  refine (h w).mono ?_
  rintro e w' ⟨a, cap, rfl, hb, -⟩
  exact ⟨a, n, cap, rfl, hb⟩
theorem EndsAny.of_bad {s : ByteArray} {le mo mk : Int} {k : Nat} (h : EndsBad s le mo mk k) : EndsAny s le mo mk k := fun w => by
  refine (h w).mono ?_
  rintro e w' ⟨rfl, rfl⟩
  exact ⟨none, 0, 0, rfl, Below.refl _ _⟩

set_option maxRecDepth 100000 in
set_option maxHeartbeats 2000000 in
theorem cutAhead_bad (s t : ByteArray) (le mo mk : Int) (k r : Nat) (w : World) (hst : s.size + t.size ≤ 9223372036854775807) (hk : k = 1 ∨ k = 2) (hr : r = 0 ∨ r = 1 ∨ r = 2)
    (h1 : EndsBad s le mo mk k) (h2 : EndsAny (s ++ t) le mo mk r) :
    Calls Try.prog 5 #[.string s, .string t, .int .i64 le, .int .i64 mo, .int .i64 mk] w fun e w' => e = .returned (.bool true) ∧ Below w.heap.size w w' := by
  have T1 := cutAhead_test
  have c0 : ¬ (9223372036854775807 < s.size + t.size) := by omega
  rcases hk with rfl | rfl <;> rcases hr with rfl | rfl | rfl
  all_goals
    go_enter Try.func5, Try.ntmps5
    go_wp2_with fail
    with_reducible refine T1.use ?_
    rintro e x1 ⟨b1, c1, rfl, hb1, hr1, -⟩
    obtain ⟨g1, rfl, hR1⟩ := hr1 (by omega)
    have E1 := equal_new (c := c1) (n := 3) hR1 rfl (by decide) lit123
    have HB := Lib.hid (hb1.alloc hb1.size (.cells #[.int .i64 1, .int .i64 2, .int .i64 3] 3))
    clear hb1 hr1 hR1 T1
    go_wp2_with fail
    with_reducible refine E1.mono ?_
    rintro e x2 ⟨rfl, z, hz⟩
    have HB2 : Hid (Below w.heap.size w x2) := Lib.hid (by rw [hz]; exact below_drew HB.out _)
    clear hz HB
    go_wp2_with fail
    with_reducible refine h1.use ?_
    rintro e w' ⟨rfl, rfl⟩
    go_wp2_with fail
    with_reducible refine h2.use ?_
    rintro e x3 ⟨a3, n3, c3, rfl, hb3⟩
    have HB3 := Lib.hid (HB2.out.trans (hb3.mono HB2.out.size))
    clear hb3 HB2
    go_wp2_with fail
    go_ret
    exact ⟨rfl, HB3.out⟩

set_option maxRecDepth 100000 in
set_option maxHeartbeats 2000000 in
theorem cutAhead_half (s t : ByteArray) (le mo mk : Int) (k n : Nat) (l : List Nat) (w : World) (hst : s.size + t.size ≤ 9223372036854775807) (hk : k = 1 ∨ k = 2)
    (h1 : EndsAns s le mo mk l n) (h2 : EndsBad (s ++ t) le mo mk k) :
    Calls Try.prog 5 #[.string s, .string t, .int .i64 le, .int .i64 mo, .int .i64 mk] w fun e w' => e = .returned (.bool true) ∧ Below w.heap.size w w' := by
  have T1 := cutAhead_test
  have c0 : ¬ (9223372036854775807 < s.size + t.size) := by omega
  rcases hk with rfl | rfl
  all_goals
    go_enter Try.func5, Try.ntmps5
    go_wp2_with fail
    with_reducible refine T1.use ?_
    rintro e x1 ⟨b1, c1, rfl, hb1, hr1, -⟩
    obtain ⟨g1, rfl, hR1⟩ := hr1 (by omega)
    have E1 := equal_new (c := c1) (n := 3) hR1 rfl (by decide) lit123
    have HB := Lib.hid (hb1.alloc hb1.size (.cells #[.int .i64 1, .int .i64 2, .int .i64 3] 3))
    clear hb1 hr1 hR1 T1
    go_wp2_with fail
    with_reducible refine E1.mono ?_
    rintro e x2 ⟨rfl, z, hz⟩
    have HB2 : Hid (Below w.heap.size w x2) := Lib.hid (by rw [hz]; exact below_drew HB.out _)
    clear hz HB
    go_wp2_with fail
    with_reducible refine h1.use ?_
    rintro e x3 ⟨a3, c3, rfl, hb3, -⟩
    have HB3 := Lib.hid (HB2.out.trans (hb3.mono HB2.out.size))
    clear hb3 HB2
    go_wp2_with fail
    with_reducible refine h2.use ?_
    rintro e w' ⟨rfl, rfl⟩
    go_wp2_with fail
    go_ret
    exact ⟨rfl, HB3.out⟩

set_option maxRecDepth 100000 in
set_option maxHeartbeats 4000000 in
theorem cutAhead_core (s t : ByteArray) (le mo mk : Int) (n m r : Nat) (l k : List Nat) (w : World) (hst : s.size + t.size ≤ 9223372036854775807)
    (h1 : EndsAns s le mo mk l n) (h2 : EndsAns (s ++ t) le mo mk k m) (hn : n ≤ 600) (hm : m ≤ 600) (hl : l.length = n) (hk : k.length = m) (hr : (r : Int) = max 0 ((n : Int) - 1)) (hrm : r ≤ m) (he : l.take r = k.take r) :
    Calls Try.prog 5 #[.string s, .string t, .int .i64 le, .int .i64 mo, .int .i64 mk] w fun e w' => e = .returned (.bool true) ∧ Below w.heap.size w w' := by
  have T1 := cutAhead_test
  have c0 : ¬ (9223372036854775807 < s.size + t.size) := by omega
  have hmax : max (0 : Int) ((n : Int) - 1) = (r : Int) := hr.symm
  have hrn : r ≤ n := by omega
  have HL := Lib.hid hl; have HK := Lib.hid hk; have HE := Lib.hid he
  clear hl hk he hr
  go_enter Try.func5, Try.ntmps5
  go_wp2_with fail
  with_reducible refine T1.use ?_
  rintro e x1 ⟨b1, c1, rfl, hb1, hr1, -⟩
  obtain ⟨g1, rfl, hR1⟩ := hr1 (by omega)
  have E1 := equal_new (c := c1) (n := 3) hR1 rfl (by decide) lit123
  have HB := Lib.hid (hb1.alloc hb1.size (.cells #[.int .i64 1, .int .i64 2, .int .i64 3] 3))
  clear hb1 hr1 hR1 T1
  go_wp2_with fail
  with_reducible refine E1.mono ?_
  rintro e x2 ⟨rfl, z, hz⟩
  have HB2 : Hid (Below w.heap.size w x2) := Lib.hid (by rw [hz]; exact below_drew HB.out _)
  clear hz HB E1
  go_wp2_with fail
  with_reducible refine h1.use ?_
  rintro e x3 ⟨a3, c3, rfl, hb3, hr3, hc3⟩
  have HB3 := Lib.hid (HB2.out.trans (hb3.mono HB2.out.size))
  clear hb3 HB2
  go_wp2_with fail
  with_reducible refine h2.use ?_
  rintro e x4 ⟨a4, c4, rfl, hb4, hr4, hc4⟩
  have HB4 := Lib.hid (HB3.out.trans (hb4.mono HB3.out.size))
  have hrc3 : r ≤ c3 := by omega
  have hrc4 : r ≤ c4 := by omega
  have hge : (r : Int) ≤ (m : Int) := by omega
  by_cases hr0 : r = 0
  · subst hr0
    have EQ := fun (w : World) (c d : Nat) => Try.slices_Equal_int_empty a3 a4 c 0 d w (by omega)
    clear hr3 hr4
    go_wp2_with fail
    go_quiet ((go_at_call 22; exact Calls.quiet_of_same (EQ _ _ _)))
    go_wp2_with fail
    go_ret
    exact ⟨rfl, below_drew HB4.out _⟩
  · obtain ⟨g3, rfl, hR3⟩ := hr3 (by omega)
    obtain ⟨g4, rfl, hR4⟩ := hr4 (by omega)
    have EQ : ∀ (j c d : Nat), Calls Try.prog 22 #[.slice (some ⟨g3, 0, none⟩) r c, .slice (some ⟨g4, 0, none⟩) r d] (x4.drewN j) fun e w' => e = .returned (.bool true) ∧ ∃ q, w' = (x4.drewN j).drewN q := fun j c d => by
      have h3 : RowIn (x4.drewN j) g3 l := hR3.keep (below_drew hb4 j)
      have h4 : RowIn (x4.drewN j) g4 k := hR4
      refine (equal_rows h3 h4 (n := r) (m := r) (by rw [HL.out]; exact hrn) (by rw [HK.out]; exact hrm) (by rw [HL.out]; omega) (by rw [HK.out]; omega)).mono ?_
      rintro e w' ⟨rfl, q, rfl⟩
      exact ⟨by rw [decide_eq_true HE.out], q, rfl⟩
    clear hr3 hr4 hR3 hR4
    go_wp2_with fail
    go_quiet ((go_at_call 22; exact Calls.quiet_of (EQ _ _ _)))
    go_wp2_with fail
    go_ret
    exact ⟨rfl, below_drew HB4.out _⟩

theorem data_append (a b : ByteArray) : (a ++ b).data.toList = a.data.toList ++ b.data.toList := by simp

theorem cutAhead_walk (a0 : ByteArray) (a1 : ByteArray) (a2 : Int) (a3 : Int) (a4 : Int) (w0 : a0.size ≤ 140737488351232) (w1 : a1.size ≤ 140737488351232) (_ : (Lit.int .i64 a2).wf = true) (_ : (Lit.int .i64 a3).wf = true) (_ : (Lit.int .i64 a4).wf = true) (w : World) :
    Calls Try.prog 5 #[.string a0, .string a1, .int .i64 a2, .int .i64 a3, .int .i64 a4] w fun e w' => e = .returned (.bool true) ∧ Below w.heap.size w w' := by
  have hsz : (a0 ++ a1).size = a0.size + a1.size := ByteArray.size_append
  have hst : a0.size + a1.size ≤ 9223372036854775807 := by omega
  rcases ends_is a0 a2 a3 a4 (by unfold maxLen; omega) with ⟨le, mo, mk, hs, h1, h2, h3, h4, rfl, rfl, rfl⟩ | ⟨k, hk, h, -, -⟩
  · rcases ends_is (a0 ++ a1) le mo mk (by unfold maxLen; omega) with ⟨le', mo', mk', hs', -, -, -, -, e1, e2, e3⟩ | ⟨k', hk', h', -, -⟩
    · obtain rfl : le = le' := by omega
      obtain rfl : mo = mo' := by omega
      obtain rfl : mk = mk' := by omega
      have hah := Ct.ends_ahead (most := mo) (mask := mk) h1 a0.data.toList a1.data.toList
      have l1 := Ct.ends_length (most := mo) (mask := mk) h1 a0.data.toList
      have l2 := Ct.ends_length (most := mo) (mask := mk) h1 (a0 ++ a1).data.toList
      have z1 : a0.data.toList.length = a0.size := by simp
      have z2 : (a0 ++ a1).data.toList.length = (a0 ++ a1).size := by simp
      rw [← data_append] at hah
      exact cutAhead_core a0 a1 le mo mk _ _ _ _ _ w hst (endsAns hs h1 h2 h3 h4 rfl rfl) (endsAns hs' h1 h2 h3 h4 rfl rfl) (by omega) (by omega) rfl rfl (by omega) hah.1 hah.2
    · exact cutAhead_half a0 a1 le mo mk k' _ _ w hst hk' (endsAns hs h1 h2 h3 h4 rfl rfl) h'
  · rcases ends_is (a0 ++ a1) a2 a3 a4 (by unfold maxLen; omega) with ⟨le', mo', mk', hs', h1, h2, h3, h4, e1, e2, e3⟩ | ⟨k', hk', h', -, -⟩
    · exact cutAhead_bad a0 a1 a2 a3 a4 k 0 w hst hk (Or.inl rfl) h (by rw [e1, e2, e3]; exact EndsAny.of_ans (endsAns hs' h1 h2 h3 h4 rfl rfl))
    · exact cutAhead_bad a0 a1 a2 a3 a4 k k' w hst hk (by omega) h (EndsAny.of_bad h')

end Go.Proofs.Ytalenienmkaflaa
