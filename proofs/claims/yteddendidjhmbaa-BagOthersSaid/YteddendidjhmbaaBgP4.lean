/- Bags, plain facts, continued: the first free number, an item at its place. -/
import Derived.Test.YteddendidjhmbaaBgP3
namespace Go.Proofs.Yteddendidjhmbaa.Bg
open Go.Proofs.Yteddendidjhmbaa

theorem hit_iff {s k : Int} {x : It} : hit ⟨true, s, k⟩ x = true ↔ x.sum = s ∧ x.n = k := by
  unfold hit
  simp

/-- All numbers up to k are taken: the item with number k lies at k at least. -/
theorem taken_at {l : List It} (hs : l.Pairwise fun s t => cmp s t < 0) {s : Int} : ∀ (k : Nat), (∀ j : Nat, j ≤ k → ∃ x, x ∈ l ∧ hit ⟨true, s, (j : Int)⟩ x = true) → ∀ i (hi : i < l.length), hit ⟨true, s, (k : Int)⟩ l[i] = true → k ≤ i
  | 0, _, _, _, _ => Nat.zero_le _
  | k + 1, h, i, hi, hh => by
    obtain ⟨x, hx, hx2⟩ := h k (by omega)
    obtain ⟨j, hj, rfl⟩ := List.getElem_of_mem hx
    have ih := taken_at hs k (fun j hj => h j (by omega)) j hj hx2
    rw [hit_iff] at hh hx2
    by_cases e : j < i
    · omega
    · exfalso
      by_cases e2 : i = j
      · subst e2; omega
      · have := (List.pairwise_iff_getElem.1 hs) i j hi hj (by omega)
        rw [cmp_lt] at this
        omega

theorem taken_lt {l : List It} (hs : l.Pairwise fun s t => cmp s t < 0) {s : Int} {k : Nat} (h : ∀ j : Nat, j ≤ k → l.any (hit ⟨true, s, (j : Int)⟩) = true) : k < l.length := by
  have h' : ∀ j : Nat, j ≤ k → ∃ x, x ∈ l ∧ hit ⟨true, s, (j : Int)⟩ x = true := fun j hj => List.any_eq_true.1 (h j hj)
  obtain ⟨x, hx, hx2⟩ := h' k (Nat.le_refl _)
  obtain ⟨i, hi, rfl⟩ := List.getElem_of_mem hx
  have := taken_at hs k h' i hi hx2
  omega

theorem freeFrom_at {l : List It} {s : Int} : ∀ (f : Nat) (k0 k : Nat), k0 ≤ k → k - k0 < f → (∀ j : Nat, k0 ≤ j → j < k → l.any (hit ⟨true, s, (j : Int)⟩) = true) → l.any (hit ⟨true, s, (k : Int)⟩) = false → freeFrom l s f (k0 : Int) = (k : Int)
  | 0, k0, k, _, h, _, _ => by omega
  | f + 1, k0, k, h1, h2, h3, h4 => by
    unfold freeFrom
    by_cases e : k0 = k
    · subst e
      rw [h4, if_neg (by decide)]
    · rw [h3 k0 (Nat.le_refl _) (by omega), if_pos rfl]
      have := freeFrom_at f (k0 + 1) k (by omega) (by omega) (fun j hj1 hj2 => h3 j (by omega) hj2) h4
      rw [← this]
      rfl

/-- The number that the search finds. -/
theorem free_at {l : List It} {s : Int} {k : Nat} (hk : k ≤ l.length) (h : ∀ j : Nat, j < k → l.any (hit ⟨true, s, (j : Int)⟩) = true) (h0 : l.any (hit ⟨true, s, (k : Int)⟩) = false) : free l s = (k : Int) := by
  unfold free
  exact freeFrom_at (l.length + 1) 0 k (Nat.zero_le _) (by omega) (fun j _ hj => h j hj) h0

/-- There is a free number. -/
theorem free_ex {l : List It} (hs : l.Pairwise fun s t => cmp s t < 0) (s : Int) : ∃ k : Nat, k ≤ l.length ∧ (∀ j : Nat, j < k → l.any (hit ⟨true, s, (j : Int)⟩) = true) ∧ l.any (hit ⟨true, s, (k : Int)⟩) = false := by
  have key : ∀ m : Nat, (∀ j : Nat, j < m → l.any (hit ⟨true, s, (j : Int)⟩) = true) ∨ ∃ k : Nat, (∀ j : Nat, j < k → l.any (hit ⟨true, s, (j : Int)⟩) = true) ∧ l.any (hit ⟨true, s, (k : Int)⟩) = false := fun m => by
    induction m with
    | zero => exact Or.inl fun j hj => absurd hj (Nat.not_lt_zero _)
    | succ m ih =>
      rcases ih with ih | ih
      · cases hb : l.any (hit ⟨true, s, (m : Int)⟩) with
        | false => exact Or.inr ⟨m, ih, hb⟩
        | true =>
          refine Or.inl fun j hj => ?_
          by_cases e : j = m
          · subst e; exact hb
          · exact ih j (by omega)
      · exact Or.inr ih
  rcases key (l.length + 1) with h | ⟨k, h1, h2⟩
  · exact absurd (taken_lt (k := l.length) hs fun j hj => h j (by omega)) (Nat.lt_irrefl _)
  · refine ⟨k, ?_, h1, h2⟩
    rcases Nat.eq_zero_or_pos k with e | e
    · omega
    · have := taken_lt (k := k - 1) hs fun j hj => h1 j (by omega)
      omega

theorem countP_at {l : List It} {x : It} {k : Nat} (hk : k ≤ l.length) (h1 : ∀ m (hm : m < l.length), m < k → cmp l[m] x < 0) (h2 : ∀ m (hm : m < l.length), k ≤ m → 0 ≤ cmp l[m] x) : (l.countP fun y => decide (cmp y x < 0)) = k := by
  have e : l = l.take k ++ l.drop k := (List.take_append_drop k l).symm
  have c1 : (l.take k).countP (fun y => decide (cmp y x < 0)) = (l.take k).length := by
    rw [List.countP_eq_length]
    intro y hy
    obtain ⟨j, hj, rfl⟩ := List.getElem_of_mem hy
    rw [List.length_take] at hj
    rw [List.getElem_take]
    exact decide_eq_true (h1 j (by omega) (by omega))
  have c2 : (l.drop k).countP (fun y => decide (cmp y x < 0)) = 0 := by
    rw [List.countP_eq_zero]
    intro y hy
    obtain ⟨j, hj, rfl⟩ := List.getElem_of_mem hy
    rw [List.length_drop] at hj
    rw [List.getElem_drop]
    have := h2 (k + j) (by omega) (by omega)
    rw [decide_eq_true_iff]
    omega
  conv => lhs; rw [e]
  rw [List.countP_append, c1, c2, List.length_take]
  omega

theorem ins_at {l : List It} {x : It} {k : Nat} (hk : k ≤ l.length) (h1 : ∀ m (hm : m < l.length), m < k → cmp l[m] x < 0) (h2 : ∀ m (hm : m < l.length), k ≤ m → 0 ≤ cmp l[m] x) : ins l x = l.take k ++ x :: l.drop k := by
  unfold ins
  rw [countP_at hk h1 h2]

end Go.Proofs.Yteddendidjhmbaa.Bg
