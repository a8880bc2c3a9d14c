/- Irreducible polynomials, plain facts: trial division decides, small primes, squaring again and again. No program in sight. -/
import Derived.Test.YtnbdceigenndfaaG3
namespace Go.Proofs.Ytnbdceigenndfaa.G

/-- No number from f on, so many of them, leaves nothing. -/
def trial (m : Nat) : Nat → Nat → Bool
  | 0, _ => true
  | k + 1, f => if md m f = 0 then false else trial m k (f + 1)

/-- Trial division by all of at most half the degree. -/
def irrB (m : Nat) : Bool := decide (2 ≤ m) && trial m (2 ^ ((L m + 1) / 2) - 2) 2

theorem trial_iff (m : Nat) : ∀ k f, trial m k f = true ↔ ∀ g, f ≤ g → g < f + k → md m g ≠ 0 := by
  intro k
  induction k with
  | zero => intro f; simp [trial]; intro g h1 h2; omega
  | succ k ih =>
    intro f
    rw [trial]
    split
    · rename_i h
      simp only [Bool.false_eq_true, false_iff]
      intro hall
      exact hall f (Nat.le_refl _) (by omega) h
    · rename_i h
      rw [ih]
      constructor
      · intro hall g h1 h2
        by_cases hg : g = f
        · subst hg; exact h
        · exact hall g (by omega) (by omega)
      · intro hall g h1 h2
        exact hall g (by omega) (by omega)

theorem irrB_iff (m : Nat) : irrB m = true ↔ Irr m := by
  unfold irrB
  rw [Bool.and_eq_true, decide_eq_true_eq, trial_iff]
  constructor
  · rintro ⟨h2, hall⟩
    refine ⟨h2, fun a b hab => ?_⟩
    have hm0 : m ≠ 0 := by omega
    have ha0 : a ≠ 0 := by rintro rfl; rw [zero_mul] at hab; omega
    have hb0 : b ≠ 0 := by rintro rfl; rw [mul_zero] at hab; omega
    have hl := L_mul a b ha0 hb0
    rw [← hab] at hl
    have key : ∀ c, c ≠ 0 → D c m → 2 * L c ≤ L m + 1 → c = 1 := by
      intro c hc0 hd hle
      have h3 : md m c = 0 := (md_eq_zero hc0).2 hd
      have h4 : c < 2 ^ ((L m + 1) / 2) := L_le.1 (by omega)
      apply Classical.byContradiction
      intro hne
      exact hall c (by omega) (by omega) h3
    by_cases hle : L a ≤ L b
    · exact Or.inl (key a ha0 ⟨b, by rw [hab, mul_comm]⟩ (by omega))
    · exact Or.inr (key b hb0 ⟨a, hab⟩ (by omega))
  · intro h
    refine ⟨h.1, fun g h1 h2 h3 => ?_⟩
    have hg0 : g ≠ 0 := by omega
    have hd := (md_eq_zero hg0).1 h3
    rcases h.D_or hd with h4 | h4
    · omega
    · have hL := h.L
      have h5 : L g ≤ (L m + 1) / 2 := L_le.2 (by omega)
      rw [h4] at h5
      have h6 : L m = 2 := by omega
      have h7 : g < 4 := by
        have h8 : m < 2 ^ 2 := L_le.1 (by omega)
        omega
      rw [h6] at h2
      omega

theorem irrB_false (m : Nat) : irrB m = false ↔ ¬ Irr m := by
  rw [← irrB_iff]; simp

/-- Squared so often: for reckoning. -/
def sqF (m : Nat) : Nat → Nat → Nat
  | 0, x => x
  | k + 1, x => sqF m k (md (mul x x) m)

theorem sqF_eq (m : Nat) (hm : m ≠ 0) : ∀ k j, sqF m k (md (pw 2 (2 ^ j)) m) = md (pw 2 (2 ^ (j + k))) m := by
  intro k
  induction k with
  | zero => intro j; rfl
  | succ k ih =>
    intro j
    rw [sqF, md_mul_both _ _ hm, ← pw_add, show 2 ^ j + 2 ^ j = 2 ^ (j + 1) from by rw [Nat.pow_succ]; omega, ih, Nat.add_right_comm, Nat.add_assoc]

theorem sq_next (m k : Nat) (hm : m ≠ 0) : md (mul (md (pw 2 (2 ^ k)) m) (md (pw 2 (2 ^ k)) m)) m = md (pw 2 (2 ^ (k + 1))) m := by
  rw [md_mul_both _ _ hm, ← pw_add, show 2 ^ k + 2 ^ k = 2 ^ (k + 1) from by rw [Nat.pow_succ]; omega]

/-- The program's look whether a small number is prime. -/
def pl (n : Nat) : Nat → Nat → Bool
  | 0, _ => decide (1 < n)
  | f + 1, d => if d * d ≤ n then (if n % d = 0 then false else pl n f (d + 1)) else decide (1 < n)

def primeB (n : Nat) : Bool := pl n 5 2

theorem primeB_fin : ∀ n : Fin 32, primeB n.val = true ↔ (2 ≤ n.val ∧ ∀ k : Fin 32, k.val ∣ n.val → k.val = 1 ∨ k.val = n.val) := by decide +kernel

theorem primeB_iff (n : Nat) (h : n ≤ 31) : primeB n = true ↔ Pr n := by
  rw [primeB_fin ⟨n, by omega⟩]
  constructor
  · rintro ⟨h1, h2⟩
    refine ⟨h1, fun k hk => ?_⟩
    have : k ≤ n := Nat.le_of_dvd (by have : 2 ≤ n := h1; omega) hk
    exact h2 ⟨k, by omega⟩ hk
  · rintro ⟨h1, h2⟩
    exact ⟨h1, fun k hk => h2 k.val hk⟩

/-- Great is irreducible: Rabin's test, reckoned. -/
theorem great_L : L 1073741907 = 30 + 1 := by decide +kernel

theorem great_irr : Irr 1073741907 := by
  rw [rabin great_L (by omega)]
  have hm : (1073741907 : Nat) ≠ 0 := by omega
  have e0 : md (pw 2 (2 ^ 0)) 1073741907 = 2 := by decide +kernel
  have e1 : ∀ k, md (pw 2 (2 ^ k)) 1073741907 = sqF 1073741907 k 2 := by
    intro k; have := sqF_eq 1073741907 hm k 0; rw [e0, Nat.zero_add] at this; exact this.symm
  have em : md 2 1073741907 = 2 := by decide +kernel
  refine ⟨(md_eq_iff hm).1 ?_, ?_⟩
  · rw [e1, em]; decide +kernel
  · intro q hq hd
    have hq2 := hq.1
    have hle : q ≤ 30 := Nat.le_of_dvd (by omega) hd
    rw [e1, em]
    have hfin : ∀ q : Fin 31, primeB q.val = true → q.val ∣ 30 → gcd (sqF 1073741907 (30 / q.val) 2 ^^^ 2) 1073741907 = 1 := by decide +kernel
    exact hfin ⟨q, by omega⟩ ((primeB_iff q (by omega)).2 hq) hd

/-- The least irreducible one that is not less. -/
theorem least_irr (m : Nat) (hm : m ≤ 1073741907) : ∃ p, Irr p ∧ m ≤ p ∧ p ≤ 1073741907 ∧ ∀ k, m ≤ k → k < p → ¬ Irr k := by
  have : ∀ n, n ≤ 1073741907 - m → (∃ p, Irr p ∧ m ≤ p ∧ p ≤ m + n ∧ ∀ k, m ≤ k → k < p → ¬ Irr k) ∨ (∀ k, m ≤ k → k ≤ m + n → ¬ Irr k) := by
    intro n
    induction n with
    | zero =>
      intro _
      by_cases h : Irr m
      · exact Or.inl ⟨m, h, Nat.le_refl _, by omega, fun k h1 h2 => by omega⟩
      · right; intro k h1 h2; obtain rfl : k = m := by omega
        exact h
    | succ n ih =>
      intro hn
      rcases ih (by omega) with ⟨p, h1, h2, h3, h4⟩ | hno
      · exact Or.inl ⟨p, h1, h2, by omega, h4⟩
      · by_cases h : Irr (m + (n + 1))
        · exact Or.inl ⟨m + (n + 1), h, by omega, by omega, fun k h1 h2 => hno k h1 (by omega)⟩
        · right; intro k h1 h2
          by_cases hk : k = m + (n + 1)
          · rw [hk]; exact h
          · exact hno k h1 (by omega)
  rcases this (1073741907 - m) (Nat.le_refl _) with ⟨p, h1, h2, h3, h4⟩ | hno
  · exact ⟨p, h1, h2, by omega, h4⟩
  · exact absurd great_irr (hno 1073741907 hm (by omega))

end Go.Proofs.Ytnbdceigenndfaa.G
