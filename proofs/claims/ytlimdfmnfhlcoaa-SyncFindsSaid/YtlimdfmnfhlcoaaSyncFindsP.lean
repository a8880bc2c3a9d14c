/- What is found by looking: plain facts. No program in sight. -/
import Derived.Test.YtlimdfmnfhlcoaaSyncFewP
namespace Go.Proofs.Ytlimdfmnfhlcoaa.Sy
open Go.Proofs.Ytlimdfmnfhlcoaa

/-- How many leaves lie beneath. -/
def lf (x : List (List Nat)) : Nat → Nat → Nat
  | 0, _ => 1
  | d + 1, i => if 2 * i + 1 = (x.getD d []).length then lf x d (2 * i) else lf x d (2 * i) + lf x d (2 * i + 1)

theorem lf_pos (x : List (List Nat)) : ∀ d i, 1 ≤ lf x d i
  | 0, _ => Nat.le_refl _
  | d + 1, i => by
    rw [lf]
    have := lf_pos x d (2 * i)
    split <;> omega

theorem dn_lf (x y : List (List Nat)) : ∀ d i, (dn x y d i).2 + 2 ≤ 2 * lf x d i ∧ (lk x y d i).2 + 1 ≤ 2 * lf x d i ∧ 1 ≤ (lk x y d i).2 := by
  intro d
  have key : ∀ d i, (dn x y d i).2 + 2 ≤ 2 * lf x d i → (lk x y d i).2 + 1 ≤ 2 * lf x d i ∧ 1 ≤ (lk x y d i).2 := by
    intro d i h
    have hp := lf_pos x d i
    unfold lk
    split
    · exact ⟨by show 1 + 1 ≤ _; omega, Nat.le_refl _⟩
    · exact ⟨by show (dn x y d i).2 + 1 + 1 ≤ _; omega, Nat.le_add_left _ _⟩
  induction d with
  | zero =>
    intro i
    have h : (dn x y 0 i).2 + 2 ≤ 2 * lf x 0 i := by simp [dn, lf]
    exact ⟨h, key 0 i h⟩
  | succ d ih =>
    intro i
    have h : (dn x y (d + 1) i).2 + 2 ≤ 2 * lf x (d + 1) i := by
      rw [lf]
      by_cases h2 : 2 * i + 1 = (x.getD d []).length
      · rw [dn_left h2, if_pos h2]; exact (ih (2 * i)).1
      · rw [dn_both h2, if_neg h2]
        have a := (ih (2 * i)).2.1
        have b := (ih (2 * i + 1)).2.1
        show (lk x y d (2 * i)).2 + (lk x y d (2 * i + 1)).2 + 2 ≤ _
        omega
    exact ⟨h, key (d + 1) i h⟩

theorem lf_cr {x : List (List Nat)} (hh : Halved x) : ∀ d i, d < x.length → i < (x.getD d []).length → lf x d i ≤ cr (fun j => decide (j < (x.getD 0 []).length)) (i * 2 ^ d) (2 ^ d)
  | 0, i, _, hi => by
    show 1 ≤ 0 + _
    simp only [Nat.pow_zero, Nat.mul_one, Nat.add_zero]
    rw [if_pos (decide_eq_true hi)]
    exact Nat.le_refl _
  | d + 1, i, hd, hi => by
    have e : 2 ^ (d + 1) = 2 ^ d + 2 ^ d := by rw [Nat.pow_succ]; omega
    have f : i * 2 ^ (d + 1) = 2 * i * 2 ^ d := by rw [Nat.pow_succ, Nat.mul_comm (2 ^ d) 2, ← Nat.mul_assoc, Nat.mul_comm i 2]
    have g : 2 * i * 2 ^ d + 2 ^ d = (2 * i + 1) * 2 ^ d := by rw [Nat.add_mul, Nat.one_mul]
    have hl := hh d hd
    rw [hl] at hi
    have h1 := lf_cr hh d (2 * i) (by omega) (by omega)
    rw [lf, f, e, cr_add, g]
    by_cases h2 : 2 * i + 1 = (x.getD d []).length
    · rw [if_pos h2]; omega
    · rw [if_neg h2]
      have h3 := lf_cr hh d (2 * i + 1) (by omega) (by omega)
      omega

theorem cr_below (n : Nat) : ∀ k, cr (fun j => decide (j < n)) 0 k ≤ n ∧ cr (fun j => decide (j < n)) 0 k ≤ k
  | 0 => ⟨Nat.zero_le _, Nat.le_refl _⟩
  | k + 1 => by
    obtain ⟨h1, h2⟩ := cr_below n k
    have e : cr (fun j => decide (j < n)) 0 (k + 1) = cr (fun j => decide (j < n)) 0 k + if decide (0 + k < n) = true then 1 else 0 := rfl
    rw [e]
    by_cases hk : 0 + k < n
    · rw [if_pos (decide_eq_true hk)]; omega
    · rw [if_neg (by rw [decide_eq_false hk]; decide)]; omega

/-- What is found lies beneath the place, in order, and differs. -/
theorem lk_in {x y : List (List Nat)} (hh : Halved x) : ∀ d i, d < x.length → i < (x.getD d []).length →
    ((∀ j, j ∈ (dn x y d i).1 → i * 2 ^ d ≤ j ∧ j < (i + 1) * 2 ^ d ∧ j < (x.getD 0 []).length) ∧ (dn x y d i).1.Pairwise (· < ·)) ∧
    ((∀ j, j ∈ (lk x y d i).1 → i * 2 ^ d ≤ j ∧ j < (i + 1) * 2 ^ d ∧ j < (x.getD 0 []).length) ∧ (lk x y d i).1.Pairwise (· < ·)) := by
  intro d
  have key : ∀ d i, ((∀ j, j ∈ (dn x y d i).1 → i * 2 ^ d ≤ j ∧ j < (i + 1) * 2 ^ d ∧ j < (x.getD 0 []).length) ∧ (dn x y d i).1.Pairwise (· < ·)) →
      ((∀ j, j ∈ (lk x y d i).1 → i * 2 ^ d ≤ j ∧ j < (i + 1) * 2 ^ d ∧ j < (x.getD 0 []).length) ∧ (lk x y d i).1.Pairwise (· < ·)) := by
    intro d i h
    unfold lk
    split
    · exact ⟨(fun j hj => nomatch hj), List.Pairwise.nil⟩
    · exact h
  induction d with
  | zero =>
    intro i hd hi
    have h : (∀ j, j ∈ (dn x y 0 i).1 → i * 2 ^ 0 ≤ j ∧ j < (i + 1) * 2 ^ 0 ∧ j < (x.getD 0 []).length) ∧ (dn x y 0 i).1.Pairwise (· < ·) := by
      refine ⟨fun j hj => ?_, by simp [dn]⟩
      obtain rfl : j = i := by simpa [dn] using hj
      simp only [Nat.pow_zero, Nat.mul_one]
      exact ⟨Nat.le_refl _, Nat.lt_succ_self _, hi⟩
    exact ⟨h, key 0 i h⟩
  | succ d ih =>
    intro i hd hi
    have f : i * 2 ^ (d + 1) = 2 * i * 2 ^ d := by rw [Nat.pow_succ, Nat.mul_comm (2 ^ d) 2, ← Nat.mul_assoc, Nat.mul_comm i 2]
    have f2 : (i + 1) * 2 ^ (d + 1) = (2 * i + 1) * 2 ^ d + 2 ^ d := by rw [Nat.pow_succ, Nat.add_mul, Nat.add_mul, Nat.mul_comm (2 ^ d) 2, ← Nat.mul_assoc, Nat.mul_comm i 2]; omega
    have g : (2 * i + 1) * 2 ^ d = 2 * i * 2 ^ d + 2 ^ d := by rw [Nat.add_mul, Nat.one_mul]
    have g2 : (2 * i + 1 + 1) * 2 ^ d = (2 * i + 1) * 2 ^ d + 2 ^ d := by rw [Nat.add_mul (2 * i + 1) 1, Nat.one_mul]
    have hl := hh d hd
    rw [hl] at hi
    have h : (∀ j, j ∈ (dn x y (d + 1) i).1 → i * 2 ^ (d + 1) ≤ j ∧ j < (i + 1) * 2 ^ (d + 1) ∧ j < (x.getD 0 []).length) ∧ (dn x y (d + 1) i).1.Pairwise (· < ·) := by
      by_cases h2 : 2 * i + 1 = (x.getD d []).length
      · rw [dn_left h2]
        have a := (ih (2 * i) (by omega) (by omega)).1
        refine ⟨fun j hj => ?_, a.2⟩
        have := a.1 j hj
        rw [f, f2]
        omega
      · rw [dn_both h2]
        have a := (ih (2 * i) (by omega) (by omega)).2
        have b := (ih (2 * i + 1) (by omega) (by omega)).2
        refine ⟨fun j hj => ?_, ?_⟩
        · rw [f, f2]
          rcases List.mem_append.1 hj with hj | hj
          · have := a.1 j hj; omega
          · have := b.1 j hj; omega
        · refine List.pairwise_append.2 ⟨a.2, b.2, fun u hu v hv => ?_⟩
          have := a.1 u hu
          have := b.1 v hv
          omega
    exact ⟨h, key (d + 1) i h⟩

theorem lk_diff {x y : List (List Nat)} (hx : Built x) (hy : Built y) (hl : x.length = y.length) (hs : ∀ d, (x.getD d []).length = (y.getD d []).length) :
    ∀ d i, d < x.length → i < (x.getD d []).length → ((x.getD d []).getD i 0 ≠ (y.getD d []).getD i 0 → ∀ j, j ∈ (dn x y d i).1 → (x.getD 0 []).getD j 0 ≠ (y.getD 0 []).getD j 0) ∧ ∀ j, j ∈ (lk x y d i).1 → (x.getD 0 []).getD j 0 ≠ (y.getD 0 []).getD j 0 := by
  intro d
  have key : ∀ d i, ((x.getD d []).getD i 0 ≠ (y.getD d []).getD i 0 → ∀ j, j ∈ (dn x y d i).1 → (x.getD 0 []).getD j 0 ≠ (y.getD 0 []).getD j 0) → ∀ j, j ∈ (lk x y d i).1 → (x.getD 0 []).getD j 0 ≠ (y.getD 0 []).getD j 0 := by
    intro d i h j hj
    unfold lk at hj
    split at hj
    · cases hj
    · exact h ‹_› j hj
  induction d with
  | zero =>
    intro i hd hi
    have h : (x.getD 0 []).getD i 0 ≠ (y.getD 0 []).getD i 0 → ∀ j, j ∈ (dn x y 0 i).1 → (x.getD 0 []).getD j 0 ≠ (y.getD 0 []).getD j 0 := by
      intro hne j hj
      obtain rfl : j = i := by simpa [dn] using hj
      exact hne
    exact ⟨h, key 0 i h⟩
  | succ d ih =>
    intro i hd hi
    have ex := hx d hd
    have ey := hy d (by omega)
    have hul := Tr.up_length (x.getD d [])
    have hi2 := hi
    rw [ex, hul] at hi2
    have hsd := hs d
    have h : (x.getD (d + 1) []).getD i 0 ≠ (y.getD (d + 1) []).getD i 0 → ∀ j, j ∈ (dn x y (d + 1) i).1 → (x.getD 0 []).getD j 0 ≠ (y.getD 0 []).getD j 0 := by
      intro hne j hj
      by_cases h2 : 2 * i + 1 = (x.getD d []).length
      · rw [dn_left h2] at hj
        rw [ex, ey, up_odd _ _ h2, up_odd _ _ (by omega)] at hne
        exact (ih (2 * i) (by omega) (by omega)).1 hne j hj
      · rw [dn_both h2] at hj
        rcases List.mem_append.1 hj with hj | hj
        · exact (ih (2 * i) (by omega) (by omega)).2 j hj
        · exact (ih (2 * i + 1) (by omega) (by omega)).2 j hj
    exact ⟨h, key (d + 1) i h⟩

theorem cr_zero {p : Nat → Bool} {lo : Nat} : ∀ k, (∀ j, lo ≤ j → j < lo + k → p j = false) → cr p lo k = 0
  | 0, _ => rfl
  | k + 1, h => by
    have e : cr p lo (k + 1) = cr p lo k + if p (lo + k) = true then 1 else 0 := rfl
    rw [e, cr_zero k (fun j h1 h2 => h j h1 (by omega)), h (lo + k) (by omega) (by omega)]
    rfl

/-- A place is told by the leaves beneath it. -/
theorem same_range {x z : List (List Nat)} (hx : Built x) (hz : Built z) (hl : x.length = z.length) (hs : ∀ d, (x.getD d []).length = (z.getD d []).length) {d i : Nat} (hd : d < x.length) (hi : i < (x.getD d []).length)
    (h : ∀ j, i * 2 ^ d ≤ j → j < i * 2 ^ d + 2 ^ d → (x.getD 0 []).getD j 0 = (z.getD 0 []).getD j 0) : (x.getD d []).getD i 0 = (z.getD d []).getD i 0 := by
  refine same_of_ct hx hz hl hs d i hd hi ?_
  have h1 := ct_cr x z d i
  rw [cr_zero (2 ^ d) (fun j a b => by rw [decide_eq_true (h j a b)]; rfl)] at h1
  omega

/-- With what was found replaced all looks alike. -/
theorem lk_fix {x y z : List (List Nat)} (hx : Built x) (hy : Built y) (hz : Built z) (hh : Halved x) (hl : x.length = y.length) (hs : ∀ d, (x.getD d []).length = (y.getD d []).length) (hl2 : x.length = z.length) (hs2 : ∀ d, (x.getD d []).length = (z.getD d []).length) :
    ∀ d i, d < x.length → i < (x.getD d []).length → (∀ j, i * 2 ^ d ≤ j → j < i * 2 ^ d + 2 ^ d → (z.getD 0 []).getD j 0 = if j ∈ (lk x y d i).1 then (y.getD 0 []).getD j 0 else (x.getD 0 []).getD j 0) → (z.getD d []).getD i 0 = (y.getD d []).getD i 0 := by
  intro d
  induction d with
  | zero =>
    intro i hd hi h
    have h0 := h i (by simp) (by simp)
    rw [h0]
    by_cases he : (x.getD 0 []).getD i 0 = (y.getD 0 []).getD i 0
    · rw [lk_same he, if_neg (by simp)]; exact he
    · rw [lk_other he, if_pos (by simp [dn])]
  | succ d ih =>
    intro i hd hi h
    by_cases he : (x.getD (d + 1) []).getD i 0 = (y.getD (d + 1) []).getD i 0
    · rw [lk_same he] at h
      rw [← he]
      exact (same_range hx hz hl2 hs2 hd hi (fun j a b => by rw [h j a b, if_neg (by simp)])).symm
    · rw [lk_other he] at h
      have ex := hx d hd
      have ey := hy d (by omega)
      have ez := hz d (by omega)
      have hul := Tr.up_length (x.getD d [])
      have hi2 := hi
      rw [ex, hul] at hi2
      have hsd := hs d
      have hsd2 := hs2 d
      have f : i * 2 ^ (d + 1) = 2 * i * 2 ^ d := by rw [Nat.pow_succ, Nat.mul_comm (2 ^ d) 2, ← Nat.mul_assoc, Nat.mul_comm i 2]
      have e : 2 ^ (d + 1) = 2 ^ d + 2 ^ d := by rw [Nat.pow_succ]; omega
      have g : (2 * i + 1) * 2 ^ d = 2 * i * 2 ^ d + 2 ^ d := by rw [Nat.add_mul, Nat.one_mul]
      have g2 : (2 * i + 1 + 1) * 2 ^ d = (2 * i + 1) * 2 ^ d + 2 ^ d := by rw [Nat.add_mul (2 * i + 1) 1, Nat.one_mul]
      rw [ey, ez]
      by_cases h2 : 2 * i + 1 = (x.getD d []).length
      · rw [up_odd _ _ (by omega), up_odd _ _ (by omega)]
        rw [dn_left h2] at h
        have hne : ¬ (x.getD d []).getD (2 * i) 0 = (y.getD d []).getD (2 * i) 0 := fun hc => he (by rw [ex, ey, up_odd _ _ h2, up_odd _ _ (by omega)]; exact hc)
        refine ih (2 * i) (by omega) (by omega) (fun j a b => ?_)
        rw [lk_other hne]
        exact h j (by omega) (by omega)
      · rw [dn_both h2] at h
        rw [up_pair _ _ (by omega), up_pair _ _ (by omega)]
        have i1 := (lk_in (y := y) hh d (2 * i) (by omega) (by omega)).2.1
        have i2 := (lk_in (y := y) hh d (2 * i + 1) (by omega) (by omega)).2.1
        rw [ih (2 * i) (by omega) (by omega) (fun j a b => ?_), ih (2 * i + 1) (by omega) (by omega) (fun j a b => ?_)]
        · rw [h j (by omega) (by omega)]
          by_cases hj : j ∈ (lk x y d (2 * i + 1)).1
          · rw [if_pos hj, if_pos (List.mem_append_right _ hj)]
          · rw [if_neg hj, if_neg (fun hc => by
              rcases List.mem_append.1 hc with hc | hc
              · have := i1 j hc; omega
              · exact hj hc)]
        · rw [h j (by omega) (by omega)]
          by_cases hj : j ∈ (lk x y d (2 * i)).1
          · rw [if_pos hj, if_pos (List.mem_append_left _ hj)]
          · rw [if_neg hj, if_neg (fun hc => by
              rcases List.mem_append.1 hc with hc | hc
              · exact hj hc
              · have := i2 j hc; omega)]

end Go.Proofs.Ytlimdfmnfhlcoaa.Sy
