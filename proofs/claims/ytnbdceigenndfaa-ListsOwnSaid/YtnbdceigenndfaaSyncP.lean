/- What two lists differ in, by their trees: plain facts. No program in sight. -/
import Derived.Test.YtnbdceigenndfaaTreeP
namespace Go.Proofs.Ytnbdceigenndfaa.Sy
open Go.Proofs.Ytnbdceigenndfaa

/-- Beneath a place that differs: what is found, how many were looked at. -/
def dn (x y : List (List Nat)) : Nat → Nat → List Nat × Nat
  | 0, i => ([i], 0)
  | d + 1, i =>
    if 2 * i + 1 = (x.getD d []).length then dn x y d (2 * i)
    else
      ((if (x.getD d []).getD (2 * i) 0 = (y.getD d []).getD (2 * i) 0 then [] else (dn x y d (2 * i)).1) ++ (if (x.getD d []).getD (2 * i + 1) 0 = (y.getD d []).getD (2 * i + 1) 0 then [] else (dn x y d (2 * i + 1)).1),
       (if (x.getD d []).getD (2 * i) 0 = (y.getD d []).getD (2 * i) 0 then 1 else (dn x y d (2 * i)).2 + 1) + (if (x.getD d []).getD (2 * i + 1) 0 = (y.getD d []).getD (2 * i + 1) 0 then 1 else (dn x y d (2 * i + 1)).2 + 1))

/-- Looking at a place. -/
def lk (x y : List (List Nat)) (d i : Nat) : List Nat × Nat :=
  if (x.getD d []).getD i 0 = (y.getD d []).getD i 0 then ([], 1) else ((dn x y d i).1, (dn x y d i).2 + 1)

theorem dn_left {x y : List (List Nat)} {d i : Nat} (h : 2 * i + 1 = (x.getD d []).length) : dn x y (d + 1) i = dn x y d (2 * i) := by rw [dn, if_pos h]

theorem dn_both {x y : List (List Nat)} {d i : Nat} (h : ¬ 2 * i + 1 = (x.getD d []).length) : dn x y (d + 1) i = ((lk x y d (2 * i)).1 ++ (lk x y d (2 * i + 1)).1, (lk x y d (2 * i)).2 + (lk x y d (2 * i + 1)).2) := by
  rw [dn, if_neg h]
  unfold lk
  split <;> split <;> rfl

theorem lk_same {x y : List (List Nat)} {d i : Nat} (h : (x.getD d []).getD i 0 = (y.getD d []).getD i 0) : lk x y d i = ([], 1) := if_pos h
theorem lk_other {x y : List (List Nat)} {d i : Nat} (h : ¬ (x.getD d []).getD i 0 = (y.getD d []).getD i 0) : lk x y d i = ((dn x y d i).1, (dn x y d i).2 + 1) := if_neg h

theorem dn_size (x y : List (List Nat)) : ∀ d i, (dn x y d i).1.length ≤ 2 ^ d ∧ (dn x y d i).2 + 2 ≤ 2 ^ (d + 1)
  | 0, i => by simp [dn]
  | d + 1, i => by
    have h1 := dn_size x y d (2 * i)
    have h2 := dn_size x y d (2 * i + 1)
    have p := Nat.two_pow_pos d
    by_cases h : 2 * i + 1 = (x.getD d []).length
    · rw [dn_left h]
      simp only [Nat.pow_succ] at *
      omega
    · rw [dn_both h]
      unfold lk
      simp only [Nat.pow_succ] at *
      split <;> split <;> simp <;> omega

theorem lk_size (x y : List (List Nat)) (d i : Nat) : (lk x y d i).1.length ≤ 2 ^ d ∧ (lk x y d i).2 + 1 ≤ 2 ^ (d + 1) := by
  have h := dn_size x y d i
  have p := Nat.two_pow_pos d
  unfold lk
  simp only [Nat.pow_succ] at *
  split
  · simp; omega
  · simp; omega

theorem dn_symm {x y : List (List Nat)} (h : ∀ d, (x.getD d []).length = (y.getD d []).length) : ∀ d i, dn x y d i = dn y x d i
  | 0, i => rfl
  | d + 1, i => by
    rw [dn, dn, ← h d, dn_symm h d, dn_symm h d]
    simp only [eq_comm]

theorem lk_symm {x y : List (List Nat)} (h : ∀ d, (x.getD d []).length = (y.getD d []).length) (d i : Nat) : lk x y d i = lk y x d i := by
  unfold lk
  rw [dn_symm h]
  simp only [eq_comm]

/-- Whole trees: each level has half of the one beneath it. -/
def Halved (x : List (List Nat)) : Prop := ∀ d, d + 1 < x.length → (x.getD (d + 1) []).length = ((x.getD d []).length + 1) / 2

theorem halved_levels (l : List Nat) (h0 : l ≠ []) : Halved (Tr.levels l) := by
  obtain ⟨n, hn⟩ : ∃ n, l.length ≤ n := ⟨_, Nat.le_refl _⟩
  induction n generalizing l with
  | zero => exact absurd (List.length_eq_zero_iff.1 (Nat.le_zero.1 hn)) h0
  | succ n ih =>
    by_cases h1 : 1 < l.length
    · have hlt := Tr.up_lt h1
      have hul := Tr.up_length l
      have hne : Tr.up l ≠ [] := by intro h; rw [h] at hul; simp at hul; omega
      have := ih (Tr.up l) hne (by omega)
      rw [Tr.levels_up h1]
      intro d hd
      cases d with
      | zero =>
        rw [show (l :: Tr.levels (Tr.up l)).getD 0 [] = l from rfl]
        have : (l :: Tr.levels (Tr.up l)).getD (0 + 1) [] = Tr.up l := by
          show (Tr.levels (Tr.up l)).getD 0 [] = _
          by_cases h2 : 1 < (Tr.up l).length
          · rw [Tr.levels_up h2]; rfl
          · rw [Tr.levels_one (by omega)]; rfl
        rw [this, hul]
      | succ d => exact this d (by simp at hd; omega)
    · rw [Tr.levels_one (by omega)]
      intro d hd
      simp at hd

/-- Lists of one length have trees of one shape. -/
theorem levels_shape : ∀ (n : Nat) (l m : List Nat), l.length ≤ n → l.length = m.length → (Tr.levels l).length = (Tr.levels m).length ∧ ∀ d, ((Tr.levels l).getD d []).length = ((Tr.levels m).getD d []).length := by
  intro n
  induction n with
  | zero =>
    intro l m h1 h2
    rw [Tr.levels_one (by omega), Tr.levels_one (by omega)]
    refine ⟨rfl, fun d => ?_⟩
    cases d with
    | zero => exact h2
    | succ d => rfl
  | succ n ih =>
    intro l m h1 h2
    by_cases h : 1 < l.length
    · have hlt := Tr.up_lt h
      have e1 := Tr.up_length l
      have e2 := Tr.up_length m
      have := ih (Tr.up l) (Tr.up m) (by omega) (by omega)
      rw [Tr.levels_up h, Tr.levels_up (l := m) (by omega)]
      refine ⟨by simp [this.1], fun d => ?_⟩
      cases d with
      | zero => exact h2
      | succ d => exact this.2 d
    · rw [Tr.levels_one (by omega), Tr.levels_one (by omega)]
      refine ⟨rfl, fun d => ?_⟩
      cases d with
      | zero => exact h2
      | succ d => rfl

theorem levels_few : ∀ (n : Nat) (l : List Nat), l.length ≤ n → ∀ d, ((Tr.levels l).getD d []).length ≤ l.length := by
  intro n
  induction n with
  | zero =>
    intro l h d
    rw [Tr.levels_one (by omega)]
    cases d with
    | zero => exact Nat.le_refl _
    | succ d => exact Nat.zero_le _
  | succ n ih =>
    intro l h d
    by_cases h1 : 1 < l.length
    · have hlt := Tr.up_lt h1
      rw [Tr.levels_up h1]
      cases d with
      | zero => exact Nat.le_refl _
      | succ d => exact Nat.le_trans (ih (Tr.up l) (by omega) d) (by omega)
    · rw [Tr.levels_one (by omega)]
      cases d with
      | zero => exact Nat.le_refl _
      | succ d => exact Nat.zero_le _

end Go.Proofs.Ytnbdceigenndfaa.Sy
