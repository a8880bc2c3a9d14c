/- CutAgain: what stands behind a cut in two texts is cut alike in both; for every input within the form's reach; what was there stands below. -/
import Derived.Test.YtalenienmkaflaaCutK
namespace Go.Proofs.Ytalenienmkaflaa
open Go.RowKit

theorem cutAgain_test : EndsAns ⟨#[120, 121, 97, 98]⟩ 2 2 0 [2, 4] 2 :=
  endsAns (le := 2) (mo := 2) (mk := 0) (by decide) (by decide) (by decide) (by decide) (by decide) (by decide +kernel) rfl

theorem lit24 : ∀ j (hj : j < [2, 4].length), (#[.int .i64 2, .int .i64 4] : Array Value)[j]? = some (.int .i64 (([2, 4][j] : Nat) : Int)) := by
  intro j hj
  rcases j with _ | _ | j
  · rfl
  · rfl
  · exact absurd hj (by simp)

/-- What stands behind the first cut that both have. -/
def Alike (l k : List Nat) (a b n : Nat) : Prop := ∀ i j, i ≤ j → j ≤ n → a + i ∈ l → b + i ∈ k → (a + j ∈ l ↔ b + j ∈ k)

/-- Is a number in a row? -/
theorem contains_row {w : World} {a : Option Addr} {n c : Nat} {l : List Nat} {x : Int} {y : Nat} {v : Bool} (hx : x = (y : Int)) (h : n ≠ 0 → ∃ g, a = some ⟨g, 0, none⟩ ∧ RowIn w g l) (hn : l.length = n) (hb : n ≤ 1000) (hv : decide (y ∈ l) = v) :
    Calls Try.prog 23 #[.slice a n c, .int .i64 x] w fun e w' => e = .returned (.bool v) ∧ w = w' := by
  subst hx; subst hn
  by_cases h0 : l.length = 0
  · have hl := List.length_eq_zero_iff.1 h0
    rw [h0]
    refine (Try.slices_Contains_int_empty a c (y : Int) w).mono ?_
    rintro e w' ⟨rfl, rfl⟩
    rw [hl] at hv
    exact ⟨by rw [← hv]; simp, rfl⟩
  · obtain ⟨g, rfl, hR⟩ := h h0
    refine (Try.slices_Contains_int g 0 l.length c (l.map (fun (n : Nat) => (n : Int))) (y : Int) w (by rw [List.length_map]; omega) (by omega)
      (fun j hj => by rw [List.length_map] at hj; rw [map_ofNat l j hj, Nat.zero_add]; exact hR.2 j hj)).mono ?_
    rintro e w' ⟨rfl, rfl⟩
    refine ⟨?_, rfl⟩
    rw [← hv, List.take_of_length_le (by rw [List.length_map]; exact Nat.le_refl _), List.contains_eq_mem]
    congr 2
    rw [decide_eq_decide, List.mem_map]
    constructor
    · rintro ⟨z, hz, he⟩
      rwa [← Int.ofNat_inj.1 he]
    · intro hz
      exact ⟨y, hz, rfl⟩

set_option maxRecDepth 100000 in
set_option maxHeartbeats 2000000 in
theorem cutAgain_bad (a b s : ByteArray) (le mo mk : Int) (k r : Nat) (w : World) (has : a.size + s.size ≤ 9223372036854775807) (hbs : b.size + s.size ≤ 9223372036854775807) (hkr : (k = 0 ∨ k = 1 ∨ k = 2) ∧ (r = 1 ∨ r = 2) ∨ (k = 1 ∨ k = 2) ∧ r = 0)
    (h1 : EndsAny (a ++ s) le mo mk k) (h2 : EndsAny (b ++ s) le mo mk r) :
    Calls Try.prog 7 #[.string a, .string b, .string s, .int .i64 le, .int .i64 mo, .int .i64 mk] w fun e w' => e = .returned (.bool true) ∧ Below w.heap.size w w' := by
  have T1 := cutAgain_test
  have c0 : ¬ (9223372036854775807 < a.size + s.size) := by omega
  have c1 : ¬ (9223372036854775807 < b.size + s.size) := by omega
  have hb : ∃ (u v : Bool), ((k : Int) != 0) = u ∧ ((r : Int) != 0) = v ∧ (u || v) = true := by
    refine ⟨_, _, rfl, rfl, ?_⟩
    rcases hkr with ⟨rfl | rfl | rfl, rfl | rfl⟩ | ⟨rfl | rfl, rfl⟩ <;> rfl
  clear hkr
  obtain ⟨u, v, hu, hv, huv⟩ := hb
  rcases u with _ | _ <;> rcases v with _ | _
  · cases huv
  all_goals
    clear huv
    go_enter Try.func7, Try.ntmps7
    go_wp2_with fail
    with_reducible refine T1.use ?_
    rintro e x1 ⟨b1, c1, rfl, hb1, hr1, -⟩
    obtain ⟨g1, rfl, hR1⟩ := hr1 (by omega)
    have E1 := equal_new (c := c1) (n := 2) hR1 rfl (by decide) lit24
    have HB := Lib.hid (hb1.alloc hb1.size (.cells #[.int .i64 2, .int .i64 4] 3))
    clear hb1 hr1 hR1 T1
    go_wp2_with fail
    with_reducible refine E1.mono ?_
    rintro e x2 ⟨rfl, z, hz⟩
    have HB2 : Hid (Below w.heap.size w x2) := Lib.hid (by rw [hz]; exact below_drew HB.out _)
    clear hz HB
    go_wp2_with fail
    with_reducible refine h1.use ?_
    rintro e x3 ⟨a3, n3, c3, rfl, hb3⟩
    have HB3 := Lib.hid (HB2.out.trans (hb3.mono HB2.out.size))
    clear hb3 HB2
    go_wp2_with fail
    with_reducible refine h2.use ?_
    rintro e x4 ⟨a4, n4, c4, rfl, hb4⟩
    have HB4 := Lib.hid (HB3.out.trans (hb4.mono HB3.out.size))
    clear hb4 HB3
    go_wp2_with fail
    go_ret
    exact ⟨rfl, HB4.out⟩

set_option maxRecDepth 100000 in
set_option maxHeartbeats 4000000 in
theorem cutAgain_core (a b s : ByteArray) (le mo mk : Int) (n m : Nat) (l k : List Nat) (w : World) (has : a.size + s.size ≤ 600) (hbs : b.size + s.size ≤ 600)
    (h1 : EndsAns (a ++ s) le mo mk l n) (h2 : EndsAns (b ++ s) le mo mk k m) (hn : n ≤ 600) (hm : m ≤ 600) (hl : l.length = n) (hk : k.length = m) (hal : Alike l k a.size b.size s.size) :
    Calls Try.prog 7 #[.string a, .string b, .string s, .int .i64 le, .int .i64 mo, .int .i64 mk] w fun e w' => e = .returned (.bool true) ∧ Below w.heap.size w w' := by
  have T1 := cutAgain_test
  have c0 : ¬ (9223372036854775807 < a.size + s.size) := by omega
  have c1 : ¬ (9223372036854775807 < b.size + s.size) := by omega
  have HL := Lib.hid hl; have HK := Lib.hid hk; have HA := Lib.hid hal
  clear hl hk hal
  go_enter Try.func7, Try.ntmps7
  go_wp2_with fail
  with_reducible refine T1.use ?_
  rintro e x1 ⟨b1, c1, rfl, hb1, hr1, -⟩
  obtain ⟨g1, rfl, hR1⟩ := hr1 (by omega)
  have E1 := equal_new (c := c1) (n := 2) hR1 rfl (by decide) lit24
  have HB := Lib.hid (hb1.alloc hb1.size (.cells #[.int .i64 2, .int .i64 4] 3))
  clear hb1 hr1 hR1 T1
  go_wp2_with fail
  with_reducible refine E1.mono ?_
  rintro e x2 ⟨rfl, z, hz⟩
  have HB2 : Hid (Below w.heap.size w x2) := Lib.hid (by rw [hz]; exact below_drew HB.out _)
  clear hz HB E1
  go_wp2_with fail
  with_reducible refine h1.use ?_
  rintro e x3 ⟨a3, c3, rfl, hb3, hr3, -⟩
  have HB3 := Lib.hid (HB2.out.trans (hb3.mono HB2.out.size))
  clear hb3 HB2
  go_wp2_with fail
  with_reducible refine h2.use ?_
  rintro e x4 ⟨a4, c4, rfl, hb4, hr4, -⟩
  have HB4 := Lib.hid (HB3.out.trans (hb4.mono HB3.out.size))
  have HC1 : Hid (∀ (x : Int) (y : Nat) (v : Bool), x = (y : Int) → decide (y ∈ l) = v → Calls Try.prog 23 #[.slice a3 n c3, .int .i64 x] x4 fun e w' => e = .returned (.bool v) ∧ x4 = w') :=
    Lib.hid fun x y v hx hv => contains_row hx (fun h0 => by obtain ⟨g, hg, hR⟩ := hr3 h0; exact ⟨g, hg, hR.keep hb4⟩) HL.out (by omega) hv
  have HC2 : Hid (∀ (x : Int) (y : Nat) (v : Bool), x = (y : Int) → decide (y ∈ k) = v → Calls Try.prog 23 #[.slice a4 m c4, .int .i64 x] x4 fun e w' => e = .returned (.bool v) ∧ x4 = w') :=
    Lib.hid fun x y v hx hv => contains_row hx hr4 HK.out (by omega) hv
  clear hb4 HB3 hr3 hr4
  go_wp2_with fail
  go_loop [19, 63] (fun u i => ∃ (q : Nat) (z : Int), q ≤ s.size + 1 ∧ i = .int .i64 q ∧ u = .int .i64 z ∧ -1 ≤ z ∧ z ≤ s.size ∧ Hid (∀ y : Nat, z = (y : Int) → a.size + y ∈ l ∧ b.size + y ∈ k)) (fun _ i => s.size + 1 - (intOf i).toNat)
  case atStart => exact ⟨0, -1, by omega, rfl, rfl, by omega, by omega, Lib.hid (fun y h => by omega)⟩
  case round =>
    obtain ⟨q, z, hq, rfl, rfl, hz1, hz2, hZ⟩ := hrel
    by_cases hlt : q < s.size + 1
    · obtain ⟨u, hu⟩ : ∃ u, decide (a.size + q ∈ l) = u := ⟨_, rfl⟩
      obtain ⟨v, hv⟩ : ∃ v, decide (b.size + q ∈ k) = v := ⟨_, rfl⟩
      have C1 := HC1.out ((a.size : Int) + (q : Int)) (a.size + q) u (by omega) hu
      have C2 := HC2.out ((b.size : Int) + (q : Int)) (b.size + q) v (by omega) hv
      have HU := Lib.hid hu; have HV := Lib.hid hv
      clear hu hv
      by_cases hzz : z < 0
      · rcases u with _ | _
        · go_wp2_with (first | (go_at_call 23; with_reducible refine C1.mono ?_; rintro e w' ⟨rfl, rfl⟩) | (go_at_call 23; with_reducible refine C2.mono ?_; rintro e w' ⟨rfl, rfl⟩))
          go_round
          case rel => exact ⟨q + 1, z, by omega, by go_num, rfl, hz1, hz2, hZ⟩
          case measure => simp [intOf]; omega
        · rcases v with _ | _
          · go_wp2_with (first | (go_at_call 23; with_reducible refine C1.mono ?_; rintro e w' ⟨rfl, rfl⟩) | (go_at_call 23; with_reducible refine C2.mono ?_; rintro e w' ⟨rfl, rfl⟩))
            go_round
            case rel => exact ⟨q + 1, z, by omega, by go_num, rfl, hz1, hz2, hZ⟩
            case measure => simp [intOf]; omega
          · go_wp2_with (first | (go_at_call 23; with_reducible refine C1.mono ?_; rintro e w' ⟨rfl, rfl⟩) | (go_at_call 23; with_reducible refine C2.mono ?_; rintro e w' ⟨rfl, rfl⟩))
            go_round
            case rel => exact ⟨q + 1, q, by omega, by go_num, rfl, by omega, by omega, Lib.hid (fun y hy => by obtain rfl := Int.ofNat_inj.1 hy; exact ⟨of_decide_eq_true HU.out, of_decide_eq_true HV.out⟩)⟩
            case measure => simp [intOf]; omega
      · go_wp2_with fail
        go_round
        case rel => exact ⟨q + 1, z, by omega, by go_num, rfl, hz1, hz2, hZ⟩
        case measure => simp [intOf]; omega
    · obtain rfl : q = s.size + 1 := by omega
      go_wp2_with fail
      go_loop [21] (fun i => ∃ y : Int, i = .int .i64 y ∧ z ≤ y ∧ y ≤ s.size + 1) (fun i => (s.size + 1 - intOf i).toNat)
      case atStart => exact ⟨z, rfl, Int.le_refl _, by omega⟩
      case round =>
        obtain ⟨y, rfl, hy1, hy2⟩ := hrel
        by_cases hgo : y ≤ s.size ∧ 0 ≤ z
        · obtain ⟨hy3, hz0⟩ := hgo
          obtain ⟨j, rfl⟩ := Int.eq_ofNat_of_zero_le (show 0 ≤ y by omega)
          obtain ⟨i, rfl⟩ := Int.eq_ofNat_of_zero_le hz0
          have hm := hZ.out i rfl
          have hiff := HA.out i j (by omega) (by omega) hm.1 hm.2
          obtain ⟨u, hu⟩ : ∃ u, decide (a.size + j ∈ l) = u := ⟨_, rfl⟩
          have C1 := HC1.out ((a.size : Int) + (j : Int)) (a.size + j) u (by omega) hu
          have C2 := HC2.out ((b.size : Int) + (j : Int)) (b.size + j) u (by omega) (by rw [← hu, decide_eq_decide]; exact hiff.symm)
          clear hm hiff hu
          go_wp2_with (first | (go_at_call 23; with_reducible refine C1.mono ?_; rintro e w' ⟨rfl, rfl⟩) | (go_at_call 23; with_reducible refine C2.mono ?_; rintro e w' ⟨rfl, rfl⟩))
          go_round
          case rel => exact ⟨(j : Int) + 1, by go_num, by omega, by omega⟩
          case measure => simp [intOf]; omega
        · by_cases hy3 : y ≤ s.size
          · have hz0 : z < 0 := by omega
            go_wp2_with fail
            go_ret
            exact ⟨rfl, HB4.out⟩
          · go_wp2_with fail
            go_ret
            exact ⟨rfl, HB4.out⟩

theorem data_append (a b : ByteArray) : (a ++ b).data.toList = a.data.toList ++ b.data.toList := by simp

theorem alike_ends {le mo mk : Nat} (h1 : 1 ≤ le) (a b s : ByteArray) : Alike (Ct.ends le mo mk (a ++ s).data.toList) (Ct.ends le mo mk (b ++ s).data.toList) a.size b.size s.size := by
  intro i j hij hj hi1 hi2
  by_cases h : i = j
  · subst h; exact ⟨fun _ => hi2, fun _ => hi1⟩
  · have z1 : a.data.toList.length = a.size := by simp
    have z2 : b.data.toList.length = b.size := by simp
    rw [Ct.ends_after h1 _ (a.size + i) (a.size + j) hi1 (by omega), Ct.ends_after h1 _ (b.size + i) (b.size + j) hi2 (by omega), data_append, data_append,
      show a.size + j - (a.size + i) = j - i from by omega, show b.size + j - (b.size + i) = j - i from by omega, ← z1, ← z2, List.drop_length_add_append, List.drop_length_add_append]

theorem cutAgain_walk (a0 : ByteArray) (a1 : ByteArray) (a2 : ByteArray) (a3 : Int) (a4 : Int) (a5 : Int) (w0 : a0.size ≤ 140737488351232) (w1 : a1.size ≤ 140737488351232) (w2 : a2.size ≤ 140737488351232) (_ : (Lit.int .i64 a3).wf = true) (_ : (Lit.int .i64 a4).wf = true) (_ : (Lit.int .i64 a5).wf = true) (w : World) :
    Calls Try.prog 7 #[.string a0, .string a1, .string a2, .int .i64 a3, .int .i64 a4, .int .i64 a5] w fun e w' => e = .returned (.bool true) ∧ Below w.heap.size w w' := by
  have s1 : (a0 ++ a2).size = a0.size + a2.size := ByteArray.size_append
  have s2 : (a1 ++ a2).size = a1.size + a2.size := ByteArray.size_append
  have has : a0.size + a2.size ≤ 9223372036854775807 := by omega
  have hbs : a1.size + a2.size ≤ 9223372036854775807 := by omega
  rcases ends_is (a0 ++ a2) a3 a4 a5 (by unfold maxLen; omega) with ⟨le, mo, mk, hs, h1, h2, h3, h4, rfl, rfl, rfl⟩ | ⟨k, hk, h, -, -⟩
  · rcases ends_is (a1 ++ a2) le mo mk (by unfold maxLen; omega) with ⟨le', mo', mk', hs', -, -, -, -, e1, e2, e3⟩ | ⟨k', hk', h', -, -⟩
    · obtain rfl : le = le' := by omega
      obtain rfl : mo = mo' := by omega
      obtain rfl : mk = mk' := by omega
      have l1 := Ct.ends_length (most := mo) (mask := mk) h1 (a0 ++ a2).data.toList
      have l2 := Ct.ends_length (most := mo) (mask := mk) h1 (a1 ++ a2).data.toList
      have z1 : (a0 ++ a2).data.toList.length = (a0 ++ a2).size := by simp
      have z2 : (a1 ++ a2).data.toList.length = (a1 ++ a2).size := by simp
      exact cutAgain_core a0 a1 a2 le mo mk _ _ _ _ w (by omega) (by omega) (endsAns hs h1 h2 h3 h4 rfl rfl) (endsAns hs' h1 h2 h3 h4 rfl rfl) (by omega) (by omega) rfl rfl (alike_ends h1 a0 a1 a2)
    · exact cutAgain_bad a0 a1 a2 le mo mk 0 k' w has hbs (Or.inl ⟨Or.inl rfl, hk'⟩) (EndsAny.of_ans (endsAns hs h1 h2 h3 h4 rfl rfl)) (EndsAny.of_bad h')
  · rcases ends_is (a1 ++ a2) a3 a4 a5 (by unfold maxLen; omega) with ⟨le', mo', mk', hs', h1, h2, h3, h4, e1, e2, e3⟩ | ⟨k', hk', h', -, -⟩
    · exact cutAgain_bad a0 a1 a2 a3 a4 a5 k 0 w has hbs (Or.inr ⟨hk, rfl⟩) (EndsAny.of_bad h) (by rw [e1, e2, e3]; exact EndsAny.of_ans (endsAns hs' h1 h2 h3 h4 rfl rfl))
    · exact cutAgain_bad a0 a1 a2 a3 a4 a5 k k' w has hbs (Or.inl ⟨Or.inr hk, hk'⟩) (EndsAny.of_bad h) (EndsAny.of_bad h')

end Go.Proofs.Ytalenienmkaflaa
