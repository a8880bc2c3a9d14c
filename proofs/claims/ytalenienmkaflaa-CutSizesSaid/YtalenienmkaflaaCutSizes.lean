/- CutSizes: each piece but the last has as many bytes as it must, and no more than it may; all together are the text; for every input; what was there stands below. -/
import Derived.Test.YtalenienmkaflaaSplitW
namespace Go.Proofs.Ytalenienmkaflaa
open Go.RowKit

theorem cutSizes_test : EndsAns ⟨#[97, 97, 97, 97, 97]⟩ 2 2 65535 [2, 4, 5] 3 :=
  endsAns (le := 2) (mo := 2) (mk := 65535) (by decide) (by decide) (by decide) (by decide) (by decide) (by decide +kernel) rfl

theorem lit245' : ∀ j (hj : j < [2, 4, 5].length), (#[.int .i64 2, .int .i64 4, .int .i64 5] : Array Value)[j]? = some (.int .i64 (([2, 4, 5][j] : Nat) : Int)) := by
  intro j hj
  rcases j with _ | _ | _ | j
  · rfl
  · rfl
  · rfl
  · exact absurd hj (by simp)

/-- A row of texts lies there, or there is none. -/
def TextsIn (w : World) (a : Option Addr) (s : ByteArray) (l : List Nat) (n : Nat) : Prop :=
  n ≠ 0 → ∃ g, a = some ⟨g, 0, none⟩ ∧ g < w.heap.size ∧ ∀ j, j < n → w.cell? ⟨g, j, none⟩ = some (.string (pce s l j))

/-- What Split leaves, and what Join makes of it. -/
def SplitAns (s : ByteArray) (a : Option Addr) (l : List Nat) (n cap : Nat) (w : World) : Prop :=
  Calls Try.prog 24 #[.string s, .slice a n cap] w fun e w' => ∃ b c, e = .returned (.tuple #[.slice b n c, .int .i64 0]) ∧ Below w.heap.size w w' ∧ n ≤ c ∧ TextsIn w' b s l n

theorem splitAns {s : ByteArray} {a : Option Addr} {l : List Nat} {n cap : Nat} {w : World} (hs : s.size ≤ 600) (hl : l.length = n) (hn : n ≤ 600) (hx : n ≠ 0 → ∃ g, a = some ⟨g, 0, none⟩ ∧ RowIn w g l)
    (hm : ∀ k, k < n → Ct.pos l k < Ct.pos l (k + 1) ∧ Ct.pos l (k + 1) ≤ s.size) (hz : Ct.pos l n = s.size) : SplitAns s a l n cap w := by
  refine (Split_ok s a l n cap w hs hl hn hx hm hz).mono ?_
  rintro e w' ⟨v, rfl, hown, hb⟩
  rcases hown.2 with ⟨rfl, h0⟩ | ⟨g, c, cur, rfl, -, hg, hc, -⟩
  · exact ⟨none, 0, by rw [h0], hb, by omega, fun h => absurd h0 h⟩
  · have hg' : g < w'.heap.size := by
      rcases Nat.lt_or_ge g w'.heap.size with h | h
      · exact h
      · rw [Array.getElem?_eq_none h] at hg; cases hg
    refine ⟨_, c, rfl, hb, hc, fun _ => ⟨g, rfl, hg', fun j hj => ?_⟩⟩
    rw [hown.cellAt j (by omega)]
    simp [svs, hj]

theorem join_flat (xs : List (List UInt8)) : Lib.join xs [] = xs.flatten := by
  unfold Lib.join
  induction xs with
  | nil => rfl
  | cons x xs ih =>
    cases xs with
    | nil => simp [List.intercalate]
    | cons y ys =>
      rw [List.flatten_cons, ← ih]
      simp [List.intercalate, List.intersperse]

/-- All pieces joined are the text. -/
theorem join_all {s : ByteArray} {b : Option Addr} {l : List Nat} {n c : Nat} {w : World} (hT : TextsIn w b s l n) (hn : n ≤ 600) (hc : n ≤ c) (hs : s.size ≤ 600)
    (hm : ∀ k, k < n → Ct.pos l k < Ct.pos l (k + 1) ∧ Ct.pos l (k + 1) ≤ s.size) (hz : Ct.pos l n = s.size) :
    Calls Try.prog 25 #[.slice b n c, .string ⟨#[]⟩] w fun e w' => e = .returned (.string s) ∧ Below w.heap.size w w' := by
  have hll : s.data.toList.length = s.size := by simp
  have hfl := Ct.pcs_flat s.data.toList l n (fun i hi => by have := hm i hi; omega)
  rw [hz, ← hll, List.take_length] at hfl
  by_cases h0 : n = 0
  · subst h0
    have he : s = ⟨#[]⟩ := ByteArray.ext (Array.toList_inj.mp (by rw [← hfl]; rfl))
    rw [he]
    refine (Try.strings_Join_none b c _ w).mono ?_
    rintro e w' ⟨rfl, rfl⟩
    exact ⟨rfl, Below.refl _ _⟩
  · obtain ⟨g, rfl, hg, hcell⟩ := hT h0
    have hxs : ((List.range n).map (pce s l)).length = n := by simp
    have hmap : ((List.range n).map (pce s l)).map (·.data.toList) = Ct.pcs s.data.toList l n := by
      unfold Ct.pcs
      rw [List.map_map]
      apply List.map_congr_left
      intro i _
      show (s.extract _ _).data.toList = _
      rw [ext_data]
    have hj : Lib.join (((List.range n).map (pce s l)).map (·.data.toList)) (⟨#[]⟩ : ByteArray).data.toList = s.data.toList := by rw [hmap, show (⟨#[]⟩ : ByteArray).data.toList = [] from rfl, join_flat, hfl]
    have h := Try.strings_Join g 0 c ((List.range n).map (pce s l)) ⟨#[]⟩ w (fun j x hx => by
      rw [List.getElem?_map] at hx
      obtain ⟨i, hi, rfl⟩ := Option.map_eq_some_iff.1 hx
      obtain ⟨hin, rfl⟩ := List.getElem?_eq_some_iff.1 hi
      rw [List.length_range] at hin
      rw [List.getElem_range, Nat.zero_add]
      exact hcell j hin) hg (by omega) (by omega) (by rw [hj]; omega)
    rw [hj, hxs] at h
    refine h.mono ?_
    rintro e w' ⟨rfl, hb⟩
    exact ⟨by congr 2, hb⟩

set_option maxRecDepth 100000 in
set_option maxHeartbeats 2000000 in
theorem cutSizes_bad (s : ByteArray) (le mo mk : Int) (k : Nat) (w : World) (hk : ((k : Int) != 0) = true) (h : EndsBad s le mo mk k) :
    Calls Try.prog 8 #[.string s, .int .i64 le, .int .i64 mo, .int .i64 mk] w fun e w' => e = .returned (.bool true) ∧ Below w.heap.size w w' := by
  have T1 := cutSizes_test
  go_enter Try.func8, Try.ntmps8
  go_wp2_with fail
  with_reducible refine T1.use ?_
  rintro e x1 ⟨b1, c1, rfl, hb1, hr1, -⟩
  obtain ⟨g1, rfl, hR1⟩ := hr1 (by omega)
  have E1 := equal_new (c := c1) (n := 3) hR1 rfl (by decide) lit245'
  have HB := Lib.hid (hb1.alloc hb1.size (.cells #[.int .i64 2, .int .i64 4, .int .i64 5] 3))
  clear hb1 hr1 hR1 T1
  go_wp2_with fail
  with_reducible refine E1.mono ?_
  rintro e x2 ⟨rfl, z, hz⟩
  have HB2 : Hid (Below w.heap.size w x2) := Lib.hid (by rw [hz]; exact below_drew HB.out _)
  clear hz HB
  go_wp2_with fail
  with_reducible refine h.use ?_
  rintro e w' ⟨rfl, rfl⟩
  go_wp2_with fail
  go_ret
  exact ⟨rfl, HB2.out⟩

set_option maxRecDepth 100000 in
set_option maxHeartbeats 4000000 in
theorem cutSizes_core (s : ByteArray) (le mo : Nat) (mk : Int) (l : List Nat) (n : Nat) (w : World) (hle : 1 ≤ le) (hmo : le ≤ mo) (hmo2 : mo ≤ 600) (hs : s.size ≤ 600) (h : EndsAns s le mo mk l n) (hl : l.length = n) (hn : n ≤ 600)
    (hm : ∀ k, k < n → Ct.pos l k < Ct.pos l (k + 1) ∧ Ct.pos l (k + 1) ≤ s.size ∧ Ct.pos l (k + 1) - Ct.pos l k ≤ mo ∧ (Ct.pos l (k + 1) - Ct.pos l k < le → k + 1 = n)) (hz : Ct.pos l n = s.size) :
    Calls Try.prog 8 #[.string s, .int .i64 le, .int .i64 mo, .int .i64 mk] w fun e w' => e = .returned (.bool true) ∧ Below w.heap.size w w' := by
  have T1 := cutSizes_test
  have HM := Lib.hid hm; have HZ := Lib.hid hz; have HL := Lib.hid hl
  clear hm hz hl
  go_enter Try.func8, Try.ntmps8
  go_wp2_with fail
  with_reducible refine T1.use ?_
  rintro e x1 ⟨b1, c1, rfl, hb1, hr1, -⟩
  obtain ⟨g1, rfl, hR1⟩ := hr1 (by omega)
  have E1 := equal_new (c := c1) (n := 3) hR1 rfl (by decide) lit245'
  have HB := Lib.hid (hb1.alloc hb1.size (.cells #[.int .i64 2, .int .i64 4, .int .i64 5] 3))
  clear hb1 hr1 hR1 T1
  go_wp2_with fail
  with_reducible refine E1.mono ?_
  rintro e x2 ⟨rfl, z, hz⟩
  have HB2 : Hid (Below w.heap.size w x2) := Lib.hid (by rw [hz]; exact below_drew HB.out _)
  clear hz HB E1
  go_wp2_with fail
  with_reducible refine h.use ?_
  rintro e x3 ⟨b3, c3, rfl, hb3, hr3, -⟩
  have HB3 := Lib.hid (HB2.out.trans (hb3.mono HB2.out.size))
  have SP : SplitAns s b3 l n c3 x3 := splitAns hs HL.out hn hr3 (fun k hk => ⟨(HM.out k hk).1, (HM.out k hk).2.1⟩) HZ.out
  clear hb3 hr3 HB2
  go_wp2_with fail
  unfold SplitAns at SP
  with_reducible refine SP.mono ?_
  rintro e x4 ⟨b4, c4, rfl, hb4, hc4, hT4⟩
  have HB4 := Lib.hid (HB3.out.trans (hb4.mono HB3.out.size))
  have J1 := join_all hT4 hn hc4 hs (fun k hk => ⟨(HM.out k hk).1, (HM.out k hk).2.1⟩) HZ.out
  clear hb4 HB3 SP
  go_wp2_with fail
  with_reducible refine J1.mono ?_
  rintro e x5 ⟨rfl, hb5⟩
  have HB5 := Lib.hid (HB4.out.trans (hb5.mono HB4.out.size))
  have HT5 : Hid (∀ j, j < n → ∃ g, b4 = some ⟨g, 0, none⟩ ∧ x5.cell? ⟨g, j, none⟩ = some (.string (pce s l j))) := Lib.hid fun j hj => by
    obtain ⟨g, rfl, hg, hc⟩ := hT4 (by omega)
    exact ⟨g, rfl, by rw [hb5.cell (p := ⟨g, j, none⟩) hg]; exact hc j hj⟩
  clear hb5 hT4 J1 HB4
  go_wp2_with fail
  go_loop [64] (fun k => ∃ i : Nat, i ≤ n ∧ k = .int .i64 i) (fun k => n - (intOf k).toNat)
  case atStart => exact ⟨0, by omega, rfl⟩
  case round =>
    obtain ⟨i, hi, rfl⟩ := hrel
    by_cases hlt : i < n
    · obtain ⟨g, rfl, hc⟩ := HT5.out i hlt
      obtain ⟨m1, m2, m3, m4⟩ := HM.out i hlt
      have hsz : (pce s l i).size = Ct.pos l (i + 1) - Ct.pos l i := by unfold pce; rw [ByteArray.size_extract]; omega
      have hd : 1 ≤ Ct.pos l (i + 1) - Ct.pos l i := by omega
      clear m1 m2
      generalize Ct.pos l (i + 1) - Ct.pos l i = d at *
      have hTe : ((pce s l i).toList == []) = false := by
        rw [beq_eq_false_iff_ne, ByteArray.toList_eq]
        intro h0
        have : (pce s l i).data.toList.length = (pce s l i).size := by simp
        rw [h0] at this
        simp at this
        omega
      generalize pce s l i = T at *
      have q1 : decide ((mo : Int) < (d : Int)) = false := decide_eq_false (by omega)
      have q1' : decide (mo < d) = false := decide_eq_false (by omega)
      by_cases hlast : d < le
      · have q2 : decide ((i : Int) < (n : Int) - 1) = false := decide_eq_false (by have := m4 hlast; omega)
        clear m4
        go_wp2_with fail
        go_round
        case rel => exact ⟨i + 1, hlt, by go_num⟩
        case measure => simp [intOf]; omega
      · have q3 : decide ((d : Int) < (le : Int)) = false := decide_eq_false (by omega)
        have q3' : decide (d < le) = false := decide_eq_false (by omega)
        clear m4
        go_wp2_with fail
        go_round
        case rel => exact ⟨i + 1, hlt, by go_num⟩
        case measure => simp [intOf]; omega
    · obtain rfl : i = n := by omega
      go_wp2_with fail
      go_ret
      exact ⟨rfl, HB5.out⟩

theorem cutSizes_walk (a0 : ByteArray) (a1 : Int) (a2 : Int) (a3 : Int) (w0 : a0.size ≤ maxLen) (_ : (Lit.int .i64 a1).wf = true) (_ : (Lit.int .i64 a2).wf = true) (_ : (Lit.int .i64 a3).wf = true) (w : World) :
    Calls Try.prog 8 #[.string a0, .int .i64 a1, .int .i64 a2, .int .i64 a3] w fun e w' => e = .returned (.bool true) ∧ Below w.heap.size w w' := by
  rcases ends_is a0 a1 a2 a3 w0 with ⟨le, mo, mk, hs, h1, h2, h3, h4, rfl, rfl, rfl⟩ | ⟨k, hk, h, -, -⟩
  · have hll : a0.data.toList.length = a0.size := by simp
    have hlen := Ct.ends_length (most := mo) (mask := mk) h1 a0.data.toList
    obtain ⟨g1, g2⟩ := Ct.ends_gaps (mask := mk) h1 h2 a0.data.toList
    rw [hll] at g1 g2
    exact cutSizes_core a0 le mo mk _ _ w h1 h2 h3 hs (endsAns hs h1 h2 h3 h4 rfl rfl) rfl (by omega) g1 g2
  · exact cutSizes_bad a0 a1 a2 a3 k w (bne_iff_ne.2 (by omega)) h

end Go.Proofs.Ytalenienmkaflaa
