/- Proofs out of a tree of prints, plain facts. No program in sight. -/
import Derived.Test.YtnbdceigenndfaaTreeP
namespace Go.Proofs.Ytnbdceigenndfaa.Tr

/-- The place beside a place. -/
def sib (i : Nat) : Nat := if i % 2 = 0 then i + 1 else i - 1

theorem sib_eq (i : Nat) : i ^^^ 1 = sib i := by
  have h1 := Nat.xor_div_two_pow (a := i) (b := 1) (n := 1)
  have h2 := Nat.xor_mod_two_pow (a := i) (b := 1) (n := 1)
  simp only [Nat.pow_one] at h1 h2
  rw [show (1 : Nat) / 2 = 0 from rfl, Nat.xor_zero] at h1
  rw [show (1 : Nat) % 2 = 1 from rfl] at h2
  unfold sib
  rcases Nat.mod_two_eq_zero_or_one i with h | h
  · rw [if_pos h]
    rw [h] at h2
    have : (0 : Nat) ^^^ 1 = 1 := rfl
    rw [this] at h2
    omega
  · rw [if_neg (by omega)]
    rw [h] at h2
    have : (1 : Nat) ^^^ 1 = 0 := rfl
    rw [this] at h2
    omega

theorem sib_le (i : Nat) : sib i ≤ i + 1 := by unfold sib; split <;> omega

/-- The steps through levels, from place i on. -/
def stepsF : List (List Nat) → Nat → List (Bool × Nat)
  | [], _ => []
  | l :: r, i => (if sib i < l.length then [(decide (sib i < i), l.getD (sib i) 0)] else []) ++ stepsF r (i / 2)

def proof (l : List Nat) (i : Nat) : List (Bool × Nat) := stepsF (levels l) i

theorem steps_in {l : List Nat} {r : List (List Nat)} {i : Nat} (h : sib i < l.length) : stepsF (l :: r) i = (decide (sib i < i), l.getD (sib i) 0) :: stepsF r (i / 2) := by
  rw [stepsF, if_pos h]; rfl

theorem steps_out {l : List Nat} {r : List (List Nat)} {i : Nat} (h : ¬ sib i < l.length) : stepsF (l :: r) i = stepsF r (i / 2) := by
  rw [stepsF, if_neg h]; rfl

/-- How many levels stand above. -/
theorem proof_len (j : Nat) : ∀ (l : List Nat) (i : Nat), l ≠ [] → l.length ≤ 2 ^ j → i < l.length → (proof l i).length ≤ j := by
  induction j with
  | zero =>
    intro l i h0 h1 h2
    have : l.length = 1 := by simp at h1; omega
    unfold proof
    rw [levels_one (by omega), steps_out (by unfold sib; split <;> omega)]
    exact Nat.le_refl 0
  | succ j ih =>
    intro l i h0 h1 h2
    by_cases h : 1 < l.length
    · have h3 := ih (up l) (i / 2) (ups_ne h0) (by rw [up_length]; rw [Nat.pow_succ] at h1; omega) (by rw [up_length]; omega)
      unfold proof at h3 ⊢
      rw [levels_up h]
      by_cases hs : sib i < l.length
      · rw [steps_in hs, List.length_cons]; omega
      · rw [steps_out hs]; omega
    · unfold proof
      have : l.length = 1 := by omega
      rw [levels_one (by omega), steps_out (by unfold sib; split <;> omega)]
      exact Nat.zero_le _

/-- The last place has a step just if there is another. -/
theorem proof_last (l : List Nat) (h0 : l ≠ []) : 0 < (proof l (l.length - 1)).length ↔ 1 < l.length := by
  obtain ⟨n, hn⟩ : ∃ n, l.length ≤ n := ⟨_, Nat.le_refl _⟩
  induction n generalizing l with
  | zero => exact absurd (List.length_eq_zero_iff.1 (Nat.le_zero.1 hn)) h0
  | succ n ih =>
    have hp := List.length_pos_iff.2 h0
    by_cases h : 1 < l.length
    · refine ⟨fun _ => h, fun _ => ?_⟩
      unfold proof
      rw [levels_up h]
      by_cases hs : sib (l.length - 1) < l.length
      · rw [steps_in hs, List.length_cons]; omega
      · rw [steps_out hs]
        have hodd : l.length % 2 = 1 := by
          unfold sib at hs
          split at hs <;> omega
        have h3 := (ih (up l) (ups_ne h0) (by have := up_lt h; omega)).2 (by rw [up_length]; omega)
        rw [up_length, show (l.length + 1) / 2 - 1 = (l.length - 1) / 2 from by omega] at h3
        exact h3
    · have : l.length = 1 := by omega
      unfold proof
      rw [levels_one (by omega), steps_out (by unfold sib; split <;> omega)]
      constructor
      · intro h; exact absurd h (Nat.lt_irrefl 0)
      · intro h2; exact absurd h2 h

end Go.Proofs.Ytnbdceigenndfaa.Tr
