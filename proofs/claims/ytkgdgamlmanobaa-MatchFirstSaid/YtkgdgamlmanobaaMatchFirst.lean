/- MatchFirst: there is a match if and only if the byte stands in the window; for every input. -/
import Derived.Test.YtkgdgamlmanobaaMatchW
import Derived.Test.YtkgdgamlmanobaaShelf
import Derived.Lib.IndexLaws
import Derived.Deep.RegionWith
namespace Go.Proofs.Ytkgdgamlmanobaa
open Go.RowKit

theorem longest_c4 (w : World) : Calls Try.prog 7 #[.string ⟨#[97, 97, 97, 97]⟩, .int .i64 1, .int .i64 9] w
    fun e w' => e = .returned (.tuple #[.int .i64 1, .int .i64 3, .int .i64 0]) ∧ ∃ n, w' = w.drewN n :=
  longest_ok ⟨#[97, 97, 97, 97]⟩ 1 9 w (by decide) (by decide) (by decide) (by decide)

set_option maxRecDepth 100000 in
set_option maxHeartbeats 1000000 in
theorem matchFirst_none (s : ByteArray) (i win x y e : Int) (w : World) (hs0 : s.size ≤ maxLen) (hx : x = 0) (hy : y = 0)
    (h : ∀ w, Calls Try.prog 7 #[.string s, .int .i64 i, .int .i64 win] w fun E w' => E = .returned (.tuple #[.int .i64 x, .int .i64 y, .int .i64 e]) ∧ ∃ n, w' = w.drewN n)
    (he : e = 1 ∨ e = 2 ∨ e = 0 ∧ (s.size : Int) ≤ i) (hi : e = 0 → 0 ≤ i) :
    Calls Try.prog 5 #[.string s, .int .i64 i, .int .i64 win] w fun e w' => e = .returned (.bool true) ∧ ∃ n, w' = w.drewN n := by
  subst hx; subst hy
  have hs : s.size ≤ 9223372036854775807 := hs0
  rcases he with rfl | rfl | ⟨rfl, he⟩
  · clear hi
    go_enter Try.func5, Try.ntmps5
    go_wp2_with fail
    refine (longest_c4 _).mono ?_
    rintro e w' ⟨rfl, k1, rfl⟩
    go_wp2_with fail
    refine (h _).mono ?_
    rintro e w' ⟨rfl, k2, rfl⟩
    go_wp2_with fail
    go_ret
    exact ⟨rfl, _, rfl⟩
  · clear hi
    go_enter Try.func5, Try.ntmps5
    go_wp2_with fail
    refine (longest_c4 _).mono ?_
    rintro e w' ⟨rfl, k1, rfl⟩
    go_wp2_with fail
    refine (h _).mono ?_
    rintro e w' ⟨rfl, k2, rfl⟩
    go_wp2_with fail
    go_ret
    exact ⟨rfl, _, rfl⟩
  · have hi := hi rfl
    go_enter Try.func5, Try.ntmps5
    go_wp2_with fail
    refine (longest_c4 _).mono ?_
    rintro e w' ⟨rfl, k1, rfl⟩
    go_wp2_with fail
    refine (h _).mono ?_
    rintro e w' ⟨rfl, k2, rfl⟩
    go_wp2_with fail
    go_ret
    exact ⟨rfl, _, rfl⟩

set_option maxRecDepth 100000 in
set_option maxHeartbeats 1000000 in
theorem matchFirst_core (s p : ByteArray) (i win a x y : Nat) (c : UInt8) (z : Int) (w : World) (hs : s.size ≤ 600) (hi : i < s.size) (hw1 : 1 ≤ win) (hw : win ≤ 256) (_ : x ≤ 256) (_ : y ≤ 64)
    (h : ∀ w, Calls Try.prog 7 #[.string s, .int .i64 i, .int .i64 win] w fun E w' => E = .returned (.tuple #[.int .i64 x, .int .i64 y, .int .i64 0]) ∧ ∃ n, w' = w.drewN n)
    (hmax : max 0 ((i : Int) - win) = a)
    (hsl : ∀ w, (Instr.slice 9 (.string s) (some (.int .i64 a)) (some (.int .i64 i)) none).run Try.prog w = .ok (.string p) w)
    (hix : ∀ w, (Instr.index 9 (.string s) (.int .i64 i)).run Try.prog w = .ok (.int .u8 (c.toNat : Int)) w)
    (hib : ∀ w, Calls Try.prog 9 #[.string p, .int .u8 (c.toNat : Int)] w fun e w' => e = .returned (.int .i64 z) ∧ w' = w)
    (hz : decide (0 ≤ z) = decide (0 < y)) :
    Calls Try.prog 5 #[.string s, .int .i64 i, .int .i64 win] w fun e w' => e = .returned (.bool true) ∧ ∃ n, w' = w.drewN n := by
  have hc := c.toNat_lt
  generalize c.toNat = C at *
  have q1 : IntKind.i64.wrap ((i : Int) - win) = (i : Int) - win := IntWalk.i64_in _ (by omega)
  obtain ⟨b, hb⟩ : ∃ b : Bool, decide (0 < y) = b := ⟨_, rfl⟩
  rw [hb] at hz
  go_enter Try.func5, Try.ntmps5
  go_wp2_with fail
  refine (longest_c4 _).mono ?_
  rintro e w' ⟨rfl, k1, rfl⟩
  go_wp2_with fail
  refine (h _).mono ?_
  rintro e w2 ⟨rfl, k2, hw2⟩
  go_wp2_with fail
  go_region_with (refine (hib _).mono ?_; rintro e w' ⟨rfl, rfl⟩)
  all_goals
    go_wp2_with fail
    go_ret
    refine ⟨rfl, ?_⟩
    subst hw2
    exact ⟨_, rfl⟩

theorem matchFirst_ix (l : List UInt8) (i a D : Nat) (c : UInt8) (hi : i < l.length) (hD : D ≤ i) (ha : a = i - D) (hc : l[i]? = some c) :
    decide (0 ≤ Lib.indexByte ((l.drop a).take (i - a)) c) = decide (0 < (Mt.best l i D).2) := by
  have hg := Lib.indexByte_ge ((l.drop a).take (i - a)) c
  have key : 0 ≤ Lib.indexByte ((l.drop a).take (i - a)) c ↔ 0 < (Mt.best l i D).2 := by
    rw [Mt.best_pos l i D hi]
    constructor
    · intro h
      obtain ⟨o, ho⟩ := Int.eq_ofNat_of_zero_le h
      have h1 := (Lib.indexByte_some ho).1
      rw [List.getElem?_take] at h1
      split at h1
      · rename_i hlt
        rw [List.getElem?_drop] at h1
        exact ⟨i - (a + o), by omega, by omega, by rw [show i - (i - (a + o)) = a + o from by omega, h1, hc]⟩
      · cases h1
    · rintro ⟨d, h1, h2, h3⟩
      rcases Int.lt_or_le (Lib.indexByte ((l.drop a).take (i - a)) c) 0 with hneg | hpos
      · exfalso
        have hn := Lib.indexByte_none (show Lib.indexByte ((l.drop a).take (i - a)) c = -1 by omega) (i - d - a)
        rw [List.getElem?_take, if_pos (by omega), List.getElem?_drop, show a + (i - d - a) = i - d from by omega, ← h3] at hn
        exact hn hc
      · exact hpos
  by_cases h : 0 < (Mt.best l i D).2
  · rw [decide_eq_true h, decide_eq_true (key.2 h)]
  · rw [decide_eq_false h, decide_eq_false (fun h' => h (key.1 h'))]

theorem matchFirst_walk (a0 : ByteArray) (a1 : Int) (a2 : Int) (w0 : a0.size ≤ maxLen) (_ : (Lit.int .i64 a1).wf = true) (_ : (Lit.int .i64 a2).wf = true) (w : World) :
    Calls Try.prog 5 #[.string a0, .int .i64 a1, .int .i64 a2] w fun e w' => e = .returned (.bool true) ∧ Grown w w' := by
  have fin : (Calls Try.prog 5 #[.string a0, .int .i64 a1, .int .i64 a2] w fun e w' => e = .returned (.bool true) ∧ ∃ n, w' = w.drewN n) →
      Calls Try.prog 5 #[.string a0, .int .i64 a1, .int .i64 a2] w fun e w' => e = .returned (.bool true) ∧ Grown w w' :=
    fun h => h.mono fun _ _ ⟨h1, n, h2⟩ => ⟨h1, by subst h2; exact grown_drewN w n⟩
  refine fin ?_
  by_cases hl : 600 < a0.size
  · exact matchFirst_none a0 a1 a2 0 0 2 w w0 rfl rfl (fun w => (longest_large a0 a1 a2 w hl w0).mono fun _ _ ⟨h1, h2⟩ => ⟨h1, 0, h2.symm⟩) (Or.inr (Or.inl rfl)) (fun h => by omega)
  · by_cases hb : a1 < 0 ∨ (a0.size : Int) < a1 ∨ a2 < 1 ∨ 256 < a2
    · exact matchFirst_none a0 a1 a2 0 0 1 w w0 rfl rfl (fun w => (longest_arg a0 a1 a2 w (by omega) (by omega)).mono fun _ _ ⟨h1, h2⟩ => ⟨h1, 0, h2.symm⟩) (Or.inl rfl) (fun h => by omega)
    · obtain ⟨i, rfl⟩ := Int.eq_ofNat_of_zero_le (show 0 ≤ a1 by omega)
      obtain ⟨win, rfl⟩ := Int.eq_ofNat_of_zero_le (show 0 ≤ a2 by omega)
      have hll : a0.data.toList.length = a0.size := by simp
      have LK := fun w => longest_ok a0 i win w (by omega) (by omega) (by omega) (by omega)
      by_cases hi : i = a0.size
      · have h1 := Mt.best_in a0.data.toList i (min win i) (by omega)
        have h2 := Mt.best_is a0.data.toList i (min win i)
        have hz : (Mt.best a0.data.toList i (min win i)).1 = 0 ∧ (Mt.best a0.data.toList i (min win i)).2 = 0 := by
          rcases h2 with h | h
          · exact h
          · omega
        exact matchFirst_none a0 i win _ _ 0 w w0 (by rw [hz.1]; rfl) (by rw [hz.2]; rfl) LK (Or.inr (Or.inr ⟨rfl, by omega⟩)) (fun _ => by omega)
      · have hlt : i < a0.size := by omega
        have hmin : min win i ≤ i := Nat.min_le_right _ _
        have hc : a0.data.toList[i]? = some (a0.data.toList[i]'(by omega)) := List.getElem?_eq_getElem (by omega)
        generalize a0.data.toList[i]'(by omega) = c at hc
        have hx1 := Mt.best_le a0.data.toList i (min win i)
        have hy1 := Mt.best_most a0.data.toList i (min win i)
        have hix := idx_str Try.underlying9 (s := a0) (x := (i : Int)) (k := i) rfl hlt
        have hbt : bt a0.data.toList i = (c.toNat : Int) := by unfold bt; simp [List.getD, hc]
        rw [hbt] at hix
        refine matchFirst_core a0 (a0.extract (i - min win i) i) i win (i - min win i) _ _ c _ w (by omega) hlt (by omega) (by omega) (by omega) hy1 LK (by omega)
          (sl_str Try.underlying9 rfl rfl (by omega) (by omega)) hix (fun w => Try.strings_IndexByte _ _ w) ?_
        rw [show ((c.toNat : Int)).toNat.toUInt8 = c from by simp]
        have := matchFirst_ix a0.data.toList i (i - min win i) (min win i) c (by omega) hmin rfl hc
        have e : (a0.extract (i - min win i) i).data.toList = (a0.data.toList.drop (i - min win i)).take (i - (i - min win i)) := by
          rw [ByteArray.data_extract, Array.toList_extract]
        rw [e]
        exact this

end Go.Proofs.Ytkgdgamlmanobaa
