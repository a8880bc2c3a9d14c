/- Bags, plain facts, continued: a right bag; what Put leaves. -/
import Derived.Test.YteddendidjhmbaaBgP4
namespace Go.Proofs.Yteddendidjhmbaa.Bg
open Go.Proofs.Yteddendidjhmbaa

theorem bs_same {s t : ByteArray} : s.toList = t.toList ↔ s = t := by
  constructor
  · intro h
    rw [ByteArray.toList_eq, ByteArray.toList_eq] at h
    exact ByteArray.ext (Array.toList_inj.mp h)
  · rintro rfl; rfl

theorem same_iff {s : ByteArray} {y : It} : same s y = true ↔ y.text = s := by
  unfold same
  rw [beq_iff_eq, bs_same]

theorem same_no {s : ByteArray} {y : It} : same s y = false ↔ y.text ≠ s := by
  rw [← Bool.not_eq_true, same_iff]

theorem hitB {id : Id} {x : It} : hit id x = true ↔ id.is = true ∧ x.sum = id.sum ∧ x.n = id.n := by
  unfold hit
  simp

/-- A right bag. -/
structure Good (l : List It) : Prop where
  len : l.length ≤ 64
  one : ∀ x ∈ l, oneE Pr x = 0
  srt : l.Pairwise fun x y => cmp x y < 0
  txt : l.Pairwise fun x y => x.text ≠ y.text

theorem check_good {l : List It} (h : checkE Pr l = 0) : Good l := by
  refine ⟨check_len h, fun x hx => check_one h hx, check_sorted h, ?_⟩
  rw [List.pairwise_iff_getElem]
  intro i j hi hj hij e
  have h0 := check_apart h hj
  rw [List.any_eq_false] at h0
  refine h0 l[i] ?_ (same_iff.2 e)
  rw [List.mem_take_iff_getElem]
  exact ⟨i, by omega, rfl⟩

theorem good_check {l : List It} (h : Good l) : checkE Pr l = 0 := by
  have hs : ∀ k, k ≤ l.length → scan Pr l k = 0 := fun k => by
    induction k with
    | zero => intro _; rfl
    | succ k ih =>
      intro hk
      rw [scan_step (ih (by omega)), atE_rest (by omega) (h.one _ (List.getElem_mem _)) (by
        rcases Nat.eq_zero_or_pos k with e | e
        · exact Or.inl e
        · exact Or.inr ⟨e, (List.pairwise_iff_getElem.1 h.srt) (k - 1) k (by omega) (by omega) (by omega)⟩), if_neg]
      rw [Bool.not_eq_true, List.any_eq_false]
      intro x hx hh
      obtain ⟨i, hi, rfl⟩ := List.mem_take_iff_getElem.1 hx
      exact (List.pairwise_iff_getElem.1 h.txt) i k (by omega) (by omega) (by omega) (same_iff.1 hh)
  unfold checkE
  rw [if_neg (by have := h.len; omega)]
  exact hs _ (Nat.le_refl _)

theorem good_iff {l : List It} : checkE Pr l = 0 ↔ Good l := ⟨check_good, good_check⟩

theorem good_nil : Good [] := ⟨by simp, by simp, List.Pairwise.nil, List.Pairwise.nil⟩

/-- Two items of one id are one. -/
theorem Good.inj {l : List It} (h : Good l) {i j : Nat} (hi : i < l.length) (hj : j < l.length) (h1 : l[i].sum = l[j].sum) (h2 : l[i].n = l[j].n) : i = j := by
  rcases Nat.lt_trichotomy i j with e | e | e
  · have := (List.pairwise_iff_getElem.1 h.srt) i j hi hj e
    rw [cmp_lt] at this; omega
  · exact e
  · have := (List.pairwise_iff_getElem.1 h.srt) j i hj hi e
    rw [cmp_lt] at this; omega

theorem Good.injT {l : List It} (h : Good l) {i j : Nat} (hi : i < l.length) (hj : j < l.length) (h1 : l[i].text = l[j].text) : i = j := by
  rcases Nat.lt_trichotomy i j with e | e | e
  · exact absurd h1 ((List.pairwise_iff_getElem.1 h.txt) i j hi hj e)
  · exact e
  · exact absurd h1.symm ((List.pairwise_iff_getElem.1 h.txt) j i hj hi e)

/-- What an id says of a bag. -/
def Has (l : List It) (id : Id) (t : ByteArray) : Prop := ∃ x ∈ l, hit id x = true ∧ x.text = t

theorem Has.inj {l : List It} (h : Good l) {id : Id} {s t : ByteArray} (h1 : Has l id s) (h2 : Has l id t) : s = t := by
  obtain ⟨x, hx, h3, rfl⟩ := h1
  obtain ⟨y, hy, h4, rfl⟩ := h2
  obtain ⟨i, hi, rfl⟩ := List.getElem_of_mem hx
  obtain ⟨j, hj, rfl⟩ := List.getElem_of_mem hy
  rw [hitB] at h3 h4
  obtain rfl := h.inj hi hj (by omega) (by omega)
  rfl

theorem Has.injId {l : List It} (h : Good l) {id id' : Id} {t : ByteArray} (h1 : Has l id t) (h2 : Has l id' t) : id = id' := by
  obtain ⟨x, hx, h3, h5⟩ := h1
  obtain ⟨y, hy, h4, h6⟩ := h2
  obtain ⟨i, hi, rfl⟩ := List.getElem_of_mem hx
  obtain ⟨j, hj, rfl⟩ := List.getElem_of_mem hy
  obtain rfl := h.injT hi hj (h5.trans h6.symm)
  rw [hitB] at h3 h4
  obtain ⟨i0, i1, i2⟩ := id
  obtain ⟨j0, j1, j2⟩ := id'
  dsimp only at h3 h4
  obtain ⟨rfl, rfl, rfl⟩ := h3
  obtain ⟨rfl, rfl, rfl⟩ := h4
  rfl

/-- What Get answers of a right bag. -/
theorem getR_iff {l : List It} (h : Good l) {id : Id} {t : ByteArray} : getR Pr l id = (t, 0) ↔ Has l id t := by
  unfold getR
  rw [if_neg (fun h' => h' (good_check h))]
  cases hf : l.findIdx? (hit id) with
  | none =>
    rw [List.findIdx?_eq_none_iff] at hf
    constructor
    · intro h1; simp at h1
    · rintro ⟨x, hx, hh, -⟩
      rw [hf x hx] at hh; cases hh
  | some i =>
    obtain ⟨hi, h1, -⟩ := List.findIdx?_eq_some_iff_getElem.1 hf
    simp only [List.getElem?_eq_getElem hi]
    constructor
    · intro h2
      have e : l[i].text = t := by simpa using h2
      exact ⟨l[i], List.getElem_mem hi, h1, e⟩
    · intro h2
      rw [Has.inj h h2 ⟨l[i], List.getElem_mem hi, h1, rfl⟩]

theorem getR_e {l : List It} {id : Id} : (getR Pr l id).2 = 0 → checkE Pr l = 0 ∧ Has l id (getR Pr l id).1 := by
  intro h
  by_cases h0 : checkE Pr l = 0
  · refine ⟨h0, (getR_iff (check_good h0)).1 ?_⟩
    rw [← h]
  · unfold getR at h
    rw [if_pos h0] at h
    exact absurd h h0

theorem getR_fail {l : List It} {id : Id} (h : (getR Pr l id).2 ≠ 0) : (getR Pr l id).1 = noText := by
  unfold getR at h ⊢
  split
  · rfl
  · rename_i h0
    rw [if_neg h0] at h
    split
    · rfl
    · rename_i i hi
      rw [hi] at h
      simp only at h
      split
      · rename_i x hx
        rw [hx] at h
        exact absurd rfl h
      · rfl

end Go.Proofs.Yteddendidjhmbaa.Bg
