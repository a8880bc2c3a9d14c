/- TreeHalves: the root is that of the roots of the two parts at the greatest power of two; for every input; what was there stands below. -/
import Derived.Test.YtlimdfmnfhlcoaaTreeR
import Derived.Test.YtlimdfmnfhlcoaaPrintW
import Derived.Test.YtlimdfmnfhlcoaaArgs
import Derived.Deep.Slices
namespace Go.Proofs.Ytlimdfmnfhlcoaa
open Go.RowKit

theorem la_print : G.print 1073741907 [108, 97] = 93281 := by decide +kernel

theorem root_one_text (w : World) (T : TypeId) : Calls Try.prog 11 #[.slice (some ⟨w.heap.size, 0, none⟩) 1 1] (w.alloc (.cells #[.string ⟨#[97]⟩] T)) fun e w' =>
    e = .returned (.tuple #[.int .i64 93281, .int .i64 0]) ∧ Below (w.alloc (.cells #[.string ⟨#[97]⟩] T)).heap.size (w.alloc (.cells #[.string ⟨#[97]⟩] T)) w' := by
  have h := Root_ok (some ⟨w.heap.size, 0, none⟩) 1 1 [⟨#[97]⟩] (w.alloc (.cells #[.string ⟨#[97]⟩] T)) (by omega) (by omega) (fun _ => ⟨_, rfl, fun i hi => by
    obtain rfl : i = 0 := by omega
    rw [addr_add]
    exact cell_new w (k := 0) rfl⟩) (fun i hi => by
    obtain rfl : i = 0 := by omega
    exact (by decide : (1 : Nat) ≤ 64))
  have e : rootOf [⟨#[97]⟩] 1 = 93281 := la_print
  rw [e] at h
  exact h

/-- What Root answers, wherever it is asked behind the beginning. -/
def RootAns (w : World) (a : Option Addr) (n cap p k : Nat) : Prop := ∀ w', Below w.heap.size w w' → Calls Try.prog 11 #[.slice a n cap] w' fun e w'' => e = .returned (.tuple #[.int .i64 p, .int .i64 k]) ∧ Below w.heap.size w w''

theorem RootAns.use {w w' : World} {a : Option Addr} {n cap p k : Nat} {R : Ending → World → Prop} (h : RootAns w a n cap p k) (hb : Below w.heap.size w w')
    (hR : ∀ e w'', e = .returned (.tuple #[.int .i64 p, .int .i64 k]) ∧ Below w.heap.size w w'' → R e w'') : Calls Try.prog 11 #[.slice a n cap] w' R := (h w' hb).mono hR

theorem rootAns {w : World} {a : Option Addr} {n cap : Nat} {ss : List ByteArray} (h1 : 1 ≤ n) (hn : n ≤ 32) (hT : TextsAt w a n ss) (hsz : ∀ i, i < n → (ss.getD i ByteArray.empty).size ≤ 64) : RootAns w a n cap (rootOf ss n) 0 := fun w' hb => by
  refine (Root_ok a n cap ss w' h1 hn (hT.keep hb) hsz).mono ?_
  rintro e w'' ⟨rfl, hb2⟩
  exact ⟨rfl, hb.trans (hb2.mono hb.size)⟩

theorem rootBad {w : World} {a : Option Addr} {n cap k : Nat} {ss : List ByteArray} (hn : n ≤ maxLen) (hT : TextsAt w a n ss) (hk : chk ss n = k) (h0 : ((k : Int) != 0) = true) : RootAns w a n cap 0 k := fun w' hb => by
  refine (Root_bad a n cap k ss w' hn (hT.keep hb) hk h0).mono ?_
  rintro e w'' ⟨rfl, rfl⟩
  exact ⟨rfl, hb⟩

set_option maxRecDepth 100000 in
set_option maxHeartbeats 2000000 in
theorem treeHalves_bad (a : Option Addr) (n cap : Nat) (p k : Nat) (w : World) (hn : n ≤ 9223372036854775807) (h : RootAns w a n cap p k)
    (O1 : Ans2 12 #[.int .i64 1073741907, .string ⟨#[108, 97]⟩] (.int .i64 93281) (.int .i64 0))
    (hc : ((k : Int) != 0) = true ∧ ((k : Int) == 0) = false ∧ p = 0 ∨ ((k : Int) != 0) = false ∧ ((k : Int) == 0) = true ∧ n < 2) :
    Calls Try.prog 3 #[.slice a n cap] w fun e w' => e = .returned (.bool true) ∧ Below w.heap.size w w' := by
  have R1 := root_one_text w 9
  have HB0 := Lib.hid ((Below.refl w.heap.size w).alloc (Nat.le_refl _) (.cells #[.string ⟨#[97]⟩] 9))
  rcases hc with ⟨k1, k2, rfl⟩ | ⟨k1, k2, k3⟩
  all_goals
    go_enter Try.func3, Try.ntmps3
    go_wp2_with fail
    with_reducible refine R1.mono ?_
    rintro e w1 ⟨rfl, hb1⟩
    have HB1 := Lib.hid (HB0.out.trans (hb1.mono HB0.out.size))
    clear hb1
    go_wp2_with fail
    with_reducible refine O1.use ?_
    rintro e w' ⟨rfl, rfl⟩
    go_wp2_with fail
    with_reducible refine h.use HB1.out ?_
    rintro e w2 ⟨rfl, hb2⟩
    have HB2 := Lib.hid hb2
    clear hb2
    go_wp2_with fail
    go_ret
    exact ⟨rfl, HB2.out⟩

set_option maxRecDepth 100000 in
set_option maxHeartbeats 4000000 in
theorem treeHalves_core (x : Addr) (n cap : Nat) (p q r : Nat) (X : ByteArray) (m : Nat) (w : World) (h2 : 2 ≤ n) (hn : n ≤ 32) (hcap : n ≤ cap) (hcap2 : cap ≤ maxLen) (h : RootAns w (some x) n cap p 0)
    (O1 : Ans2 12 #[.int .i64 1073741907, .string ⟨#[108, 97]⟩] (.int .i64 93281) (.int .i64 0))
    (hm : 1 ≤ m ∧ m < n ∧ n ≤ 2 * m) (hpow : ∃ j, m = 2 ^ j)
    (ha : RootAns w (some x) m cap q 0) (hb : RootAns w (some (x.add m)) (n - m) (cap - m) r 0)
    (hs : ∀ w, Calls Try.prog 13 #[.int .i64 q, .int .i64 r] w fun e w' => e = .returned (.string X) ∧ Below w.heap.size w w')
    (O2 : Ans2 12 #[.int .i64 1073741907, .string X] (.int .i64 p) (.int .i64 0)) :
    Calls Try.prog 3 #[.slice (some x) n cap] w fun e w' => e = .returned (.bool true) ∧ Below w.heap.size w w' := by
  have R1 := root_one_text w 9
  have HB0 := Lib.hid ((Below.refl w.heap.size w).alloc (Nat.le_refl _) (.cells #[.string ⟨#[97]⟩] 9))
  unfold maxLen at hcap2
  obtain ⟨hm1, hm2, hm3⟩ := hm
  have d0 : decide ((n : Int) < 2) = false := decide_eq_false (by omega)
  go_enter Try.func3, Try.ntmps3
  go_wp2_with fail
  with_reducible refine R1.mono ?_
  rintro e w1 ⟨rfl, hb1⟩
  have HB1 := Lib.hid (HB0.out.trans (hb1.mono HB0.out.size))
  clear hb1 R1
  go_wp2_with fail
  with_reducible refine O1.use ?_
  rintro e w' ⟨rfl, rfl⟩
  go_wp2_with fail
  with_reducible refine h.use HB1.out ?_
  rintro e w2 ⟨rfl, hb2⟩
  have HB2 := Lib.hid hb2
  clear hb2 h HB0 HB1
  go_wp2_with fail
  go_loop [7] (fun k => ∃ i : Nat, k = .int .i64 ((2 ^ i : Nat) : Int) ∧ Hid (2 ^ i < n)) (fun k => 64 - (intOf k).toNat)
  case atStart => exact ⟨0, rfl, Lib.hid (by omega)⟩
  case round =>
    obtain ⟨i, rfl, hi⟩ := hrel
    have hi' := hi.out
    obtain ⟨u, hu⟩ : ∃ u, u = 2 ^ i := ⟨_, rfl⟩
    rw [← hu] at hi' ⊢
    have HU := Lib.hid hu
    have hu0 : 1 ≤ u := by rw [hu]; exact Nat.two_pow_pos i
    clear hi hu
    by_cases hgo : 2 * u < n
    · go_wp2_with fail
      go_round
      case rel => exact ⟨i + 1, by rw [Nat.pow_succ, ← HU.out]; go_num, Lib.hid (by rw [Nat.pow_succ, ← HU.out]; omega)⟩
      case measure => simp [intOf]; omega
    · have hum : u = m := by
        obtain ⟨j, hj⟩ := hpow
        rw [HU.out] at hi' hgo ⊢
        rw [hj] at hm2 hm3 ⊢
        rcases Nat.lt_trichotomy i j with h | h | h
        · have := Nat.pow_le_pow_right (n := 2) (by decide) (show i + 1 ≤ j from h)
          rw [Nat.pow_succ] at this
          omega
        · rw [h]
        · have := Nat.pow_le_pow_right (n := 2) (by decide) (show j + 1 ≤ i from h)
          rw [Nat.pow_succ] at this
          omega
      subst hum
      clear HU hpow
      go_wp2_with fail
      with_reducible refine ha.use HB2.out ?_
      rintro e w3 ⟨rfl, hb3⟩
      have HB3 := Lib.hid hb3
      clear hb3 HB2 ha
      go_wp2_with fail
      with_reducible refine hb.use HB3.out ?_
      rintro e w4 ⟨rfl, hb4⟩
      have HB4 := Lib.hid hb4
      clear hb4 HB3 hb
      go_wp2_with fail
      with_reducible refine (hs _).mono ?_
      rintro e w5 ⟨rfl, hb5⟩
      have HB5 := Lib.hid (HB4.out.trans (hb5.mono HB4.out.size))
      clear hb5 HB4 hs
      go_wp2_with fail
      with_reducible refine O2.use ?_
      rintro e w' ⟨rfl, rfl⟩
      go_wp2_with fail
      go_ret
      exact ⟨rfl, HB5.out⟩

theorem of_is (X : ByteArray) (hX : X.size ≤ 600) {p : Nat} (hp : G.print 1073741907 X.data.toList = p) : Ans2 12 #[.int .i64 1073741907, .string X] (.int .i64 p) (.int .i64 0) :=
  Of_is (m := 1073741907) (by omega) (by omega) hX hp

theorem texts_take {w : World} {x : Addr} {n m : Nat} {ss : List ByteArray} (h : TextsAt w (some x) n ss) (hm : m ≤ n) : TextsAt w (some x) m ss := fun h0 => by
  obtain ⟨y, hy, hc⟩ := h (by omega)
  exact ⟨y, hy, fun i hi => hc i (by omega)⟩

theorem texts_drop {w : World} {x : Addr} {n m : Nat} {ss : List ByteArray} (h : TextsAt w (some x) n ss) (hm : m ≤ n) : TextsAt w (some (x.add m)) (n - m) (ss.drop m) := fun h0 => by
  obtain ⟨y, hy, hc⟩ := h (by omega)
  cases hy
  refine ⟨_, rfl, fun i hi => ?_⟩
  rw [Go.Deep.add_add, hc (m + i) (by omega)]
  simp [List.getD]

theorem lvs_take (ss : List ByteArray) {n m : Nat} (h : m ≤ n) : lvs ss m = (lvs ss n).take m := by
  unfold lvs
  rw [← List.map_take, List.take_range, Nat.min_eq_left h]

theorem lvs_drop (ss : List ByteArray) {n m : Nat} (h : m ≤ n) : lvs (ss.drop m) (n - m) = (lvs ss n).drop m := by
  apply List.ext_getElem?
  intro i
  rw [List.getElem?_drop]
  unfold lvs
  rw [List.getElem?_map, List.getElem?_map]
  by_cases hi : i < n - m
  · rw [List.getElem?_range hi, List.getElem?_range (by omega)]
    simp [List.getD]
  · rw [List.getElem?_eq_none (by rw [List.length_range]; omega), List.getElem?_eq_none (by rw [List.length_range]; omega)]
    rfl

theorem pow_below (n : Nat) (h : 2 ≤ n) : ∃ j, 2 ^ j < n ∧ n ≤ 2 * 2 ^ j := by
  induction n with
  | zero => omega
  | succ n ih =>
    by_cases h2 : 2 ≤ n
    · obtain ⟨j, h3, h4⟩ := ih h2
      by_cases h5 : n + 1 ≤ 2 * 2 ^ j
      · exact ⟨j, by omega, h5⟩
      · exact ⟨j + 1, by rw [Nat.pow_succ]; omega, by rw [Nat.pow_succ]; omega⟩
    · exact ⟨0, by simp; omega, by simp; omega⟩

theorem root_le : ∀ l : List Nat, (∀ x, x ∈ l → x ≤ 2147483647) → Tr.root l ≤ 2147483647 := by
  intro l h
  obtain ⟨n, hn⟩ : ∃ n, l.length ≤ n := ⟨_, Nat.le_refl _⟩
  induction n generalizing l with
  | zero => rw [List.length_eq_zero_iff.1 (Nat.le_zero.1 hn)]; decide
  | succ n ih =>
    by_cases h1 : 1 < l.length
    · rw [Tr.root_up h1]
      exact ih (Tr.up l) (up_le l h) (by have := Tr.up_lt h1; omega)
    · rw [Tr.root_one (by omega)]
      match l, h, h1 with
      | [], _, _ => exact Nat.zero_le _
      | [a], h, _ => exact h a (List.mem_cons_self ..)
      | _ :: _ :: _, _, h1 => exact absurd (by simp) h1

theorem lvs_le (ss : List ByteArray) (n : Nat) : ∀ x, x ∈ lvs ss n → x ≤ 2147483647 := by
  intro x hx
  obtain ⟨i, -, rfl⟩ := List.mem_map.1 hx
  exact pr_le _

theorem treeHalves_walk (a0 : Option Addr) (len0 cap0 : Nat) (s0 : List ByteArray) (w : World) (w0 : IsRowS w a0 len0 cap0 s0) :
    Calls Try.prog 3 #[.slice a0 len0 cap0] w fun e w' => e = .returned (.bool true) ∧ Below w.heap.size w w' := by
  have O1 := of_is ⟨#[108, 97]⟩ (by decide) la_print
  have hT : TextsAt w a0 len0 s0 := fun h0 => by
    rcases w0 with ⟨rfl, rfl, rfl, rfl⟩ | ⟨x, rfl, h1, h2, h3, h4, -⟩
    · exact absurd rfl h0
    · exact ⟨x, rfl, fun i hi => h4 i (by omega)⟩
  have hlen : len0 ≤ maxLen := by
    rcases w0 with ⟨_, rfl, _, _⟩ | ⟨x, _, h1, h2, _⟩
    · exact Nat.zero_le _
    · exact Nat.le_trans h1 h2
  have hlen' := hlen
  unfold maxLen at hlen'
  by_cases hc : chk s0 len0 = 0
  · have h0 : len0 ≠ 0 := by intro h; rw [h] at hc; have h4 : chk s0 0 = 4 := rfl; omega
    have h32 : len0 ≤ 32 ∧ big s0 len0 = false := by
      unfold chk at hc
      rw [if_neg h0] at hc
      by_cases h : 32 < len0 ∨ big s0 len0 = true
      · rw [if_pos h] at hc; exact absurd hc (by decide)
      · refine ⟨by omega, ?_⟩
        rcases hb : big s0 len0 with _ | _
        · rfl
        · exact absurd (Or.inr hb) h
    have hsz := big_false.1 h32.2
    have RA := rootAns (cap := cap0) (by omega) h32.1 hT hsz
    by_cases h2 : len0 < 2
    · exact treeHalves_bad a0 len0 cap0 _ 0 w (by omega) RA O1 (Or.inr ⟨rfl, rfl, h2⟩)
    · rcases w0 with ⟨_, rfl, _, _⟩ | ⟨x, rfl, g1, g2, g3, g4, -⟩
      · exact absurd rfl h0
      · obtain ⟨j, hj1, hj2⟩ := pow_below len0 (by omega)
        have hp := Nat.two_pow_pos j
        have hh := Tr.halves j (lvs s0 len0) (by rw [lvs_length]; exact hj1) (by rw [lvs_length]; exact hj2)
        rw [← lvs_take s0 (Nat.le_of_lt hj1), ← lvs_drop s0 (Nat.le_of_lt hj1)] at hh
        have hq := root_le _ (lvs_le s0 (2 ^ j))
        have hr := root_le _ (lvs_le (s0.drop (2 ^ j)) (len0 - 2 ^ j))
        refine treeHalves_core x len0 cap0 _ (rootOf s0 (2 ^ j)) (rootOf (s0.drop (2 ^ j)) (len0 - 2 ^ j)) ⟨(Tr.said (rootOf s0 (2 ^ j)) (rootOf (s0.drop (2 ^ j)) (len0 - 2 ^ j))).toArray⟩ (2 ^ j) w (by omega) h32.1 g1 g2 RA O1 ⟨hp, hj1, hj2⟩ ⟨j, rfl⟩
          (rootAns hp (by omega) (texts_take hT (Nat.le_of_lt hj1)) (fun i hi => hsz i (by omega)))
          (rootAns (by omega) (by omega) (texts_drop hT (Nat.le_of_lt hj1)) (fun i hi => by have := hsz (2 ^ j + i) (by omega); simpa [List.getD] using this))
          (fun w => Said_any _ _ w hq hr) (of_is _ (by show (List.toArray _).size ≤ 600; simp [Tr.said, Tr.four]) ?_)
        show G.print 1073741907 (Tr.said _ _) = rootOf s0 len0
        unfold rootOf
        rw [hh]
        rfl
  · exact treeHalves_bad a0 len0 cap0 0 _ w (by omega) (rootBad hlen hT rfl (bne_iff_ne.2 (by omega))) O1 (Or.inl ⟨bne_iff_ne.2 (by omega), beq_eq_false_iff_ne.2 (by omega), rfl⟩)

end Go.Proofs.Ytlimdfmnfhlcoaa
