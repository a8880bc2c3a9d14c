/- Rows of texts: when two are one, when one holds a text. -/
import Derived.Test.YteddendidjhmbaaTxW
import Derived.Test.YteddendidjhmbaaShelf
namespace Go.Proofs.Yteddendidjhmbaa
open Go.RowKit

theorem txt_cells {w : World} {base n c : Nat} {a : Option Addr} {xs : List ByteArray} (h : w.ownsRow base 9 1 (.slice a n c) n (xs.map Value.string)) : xs.length = n ∧ (0 < n → ∃ g, a = some ⟨g, 0, none⟩ ∧ ∀ j, j < xs.length → w.cell? ⟨g, 0 + j, none⟩ = some (.string (xs.getD j ByteArray.empty))) := by
  have hl : xs.length = n := by have := h.1; rw [List.length_map] at this; omega
  refine ⟨hl, fun hn => ?_⟩
  obtain ⟨g, cap, hv, -, -⟩ := h.form hn
  cases hv
  refine ⟨g, rfl, fun j hj => ?_⟩
  have hc := h.cellAt j (by omega)
  rw [Nat.zero_add, hc, List.getElem?_map, List.getElem?_eq_getElem hj, List.getD_eq_getElem?_getD, List.getElem?_eq_getElem hj]
  rfl

/-- What a call of texts leaves. -/
def TxTo (w : World) (l : List ByteArray) (e : Ending) (w' : World) : Prop :=
  ∃ a n c, e = .returned (.slice a n c) ∧ w'.ownsRow w.heap.size 9 1 (.slice a n c) n (l.map Value.string) ∧ n ≤ 32 ∧ Below w.heap.size w w'

theorem Texts_V (a b : Option Addr) (n c m d base : Nat) (rs : List Rw) (s : Vo.St) (name : ByteArray) (w : World) (hS : StW w base a n c b m d rs s) (hR : Vo.Right s) :
    Calls Try.prog 44 #[.agg #[.slice a n c, .slice b m d], .string name] w (TxTo w (Vo.textsR s name)) :=
  (texts_V a b n c m d base rs s name w hS hR).mono fun e w' ⟨v, h1, h2, h3⟩ => by
    have hl : (Vo.textsR s name).length ≤ 32 := by rw [textsR_length]; exact blocks_small hR name
    rcases h2.2 with ⟨hv, h0⟩ | ⟨g, cap, cur, hv, -⟩
    · rw [hv] at h1 h2
      rw [h0] at h2
      exact ⟨none, 0, 0, h1, h2, Nat.zero_le _, h3⟩
    · rw [hv] at h1 h2
      exact ⟨_, _, cap, h1, h2, hl, h3⟩

theorem Equal_S (a1 a2 : Option Addr) (n c1 m c2 base1 base2 : Nat) (xs ys : List ByteArray) (w : World) (h1 : w.ownsRow base1 9 1 (.slice a1 n c1) n (xs.map Value.string)) (h2 : w.ownsRow base2 9 1 (.slice a2 m c2) m (ys.map Value.string)) (hn : n ≤ 1000) (hm : m ≤ 1000) :
    Calls Try.prog 43 #[.slice a1 n c1, .slice a2 m c2] w fun e w' => e = .returned (.bool (decide (xs = ys))) ∧ ∃ q, w' = w.drewN q := by
  obtain ⟨l1, k1⟩ := txt_cells h1
  obtain ⟨l2, k2⟩ := txt_cells h2
  by_cases hnm : n = m
  · by_cases h0 : n = 0
    · have e1 : xs = [] := List.eq_nil_of_length_eq_zero (by omega)
      have e2 : ys = [] := List.eq_nil_of_length_eq_zero (by omega)
      subst h0; subst hnm; subst e1; subst e2
      exact (Try.slices_Equal_string_empty a1 a2 c1 0 c2 w (by omega)).mono fun e w' h => ⟨h.1, 0, h.2⟩
    · obtain ⟨g1, rfl, q1⟩ := k1 (by omega)
      obtain ⟨g2, rfl, q2⟩ := k2 (by omega)
      have h := Try.slices_Equal_string g1 0 n c1 g2 0 m c2 xs ys w (by omega) (by omega) (by omega) (by omega) q1 q2
      rw [List.take_of_length_le (by omega), List.take_of_length_le (by omega)] at h
      exact h
  · have e : decide (xs = ys) = false := decide_eq_false fun e => hnm (by rw [← l1, ← l2, e])
    rw [e]
    exact (Try.slices_Equal_string_lens a1 a2 n c1 m c2 w hnm).mono fun e w' h => ⟨h.1, 0, h.2⟩

theorem Equal_ST (a1 a2 : Option Addr) (n c1 m c2 base1 base2 : Nat) (xs ys : List ByteArray) (w : World) (h1 : w.ownsRow base1 9 1 (.slice a1 n c1) n (xs.map Value.string)) (h2 : w.ownsRow base2 9 1 (.slice a2 m c2) m (ys.map Value.string)) (hn : n ≤ 1000) (hm : m ≤ 1000) (hxy : xs = ys) :
    Calls Try.prog 43 #[.slice a1 n c1, .slice a2 m c2] w fun e w' => e = .returned (.bool true) ∧ Below w.heap.size w w' :=
  (Equal_S a1 a2 n c1 m c2 base1 base2 xs ys w h1 h2 hn hm).mono fun e w' ⟨h3, q, h4⟩ => by
    rw [decide_eq_true hxy] at h3
    rw [h4]
    exact ⟨h3, below_drewN (Below.refl _ _) q⟩

theorem Contains_S (a : Option Addr) (n c base : Nat) (xs : List ByteArray) (x : ByteArray) (w : World) (h1 : w.ownsRow base 9 1 (.slice a n c) n (xs.map Value.string)) (hn : n ≤ 1000) :
    Calls Try.prog 42 #[.slice a n c, .string x] w fun e w' => e = .returned (.bool (Lib.containsS xs x)) ∧ w' = w := by
  obtain ⟨l1, k1⟩ := txt_cells h1
  by_cases h0 : n = 0
  · have e1 : xs = [] := List.eq_nil_of_length_eq_zero (by omega)
    subst h0; subst e1
    exact Try.slices_Contains_string_empty a c x w
  · obtain ⟨g1, rfl, q1⟩ := k1 (by omega)
    have h := Try.slices_Contains_string g1 0 n c xs x w (by omega) (by omega) q1
    rw [List.take_of_length_le (by omega)] at h
    exact h

end Go.Proofs.Yteddendidjhmbaa
