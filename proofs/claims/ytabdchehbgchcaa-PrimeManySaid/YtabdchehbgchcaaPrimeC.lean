/- How many irreducible polynomials of a degree: the program's reckoning, and what it comes to for degrees up to 30. No program in sight. -/
import Derived.Test.YtabdchehbgchcaaPrimeP
namespace Go.Proofs.Ytabdchehbgchcaa.G

def mb : Nat → Nat → Nat → Int → Int
  | 0, _, _, out => out
  | f + 1, n, p, out => if p ≤ n then (if 0 < n % p then mb f n (p + 1) out else if n / p % p = 0 then 0 else mb f (n / p) (p + 1) (-out)) else out

def moeb (n : Nat) : Int := mb 31 n 2 1

theorem moeb_fin : ∀ n : Fin 31, -1 ≤ moeb n.val ∧ moeb n.val ≤ 1 := by decide +kernel
theorem moeb_le (n : Nat) (h : n ≤ 30) : -1 ≤ moeb n ∧ moeb n ≤ 1 := moeb_fin ⟨n, by omega⟩

/-- The sum up to k. -/
def csum (n : Nat) : Nat → Int
  | 0 => 0
  | k + 1 => csum n k + if n % (k + 1) = 0 then moeb (k + 1) * ((2 ^ (n / (k + 1)) : Nat) : Int) else 0

theorem csum_le (n k : Nat) (hn : n ≤ 30) (hk : k ≤ 30) : -(1073741824 * (k : Int)) ≤ csum n k ∧ csum n k ≤ 1073741824 * (k : Int) := by
  induction k with
  | zero => simp [csum]
  | succ k ih =>
    have ih := ih (by omega)
    rw [csum]
    split
    · have h1 := moeb_le (k + 1) hk
      have h2 : 2 ^ (n / (k + 1)) ≤ 2 ^ 30 := Nat.pow_le_pow_right (n := 2) (i := n / (k + 1)) (j := 30) (by omega) (Nat.le_trans (Nat.div_le_self _ _) hn)
      generalize 2 ^ (n / (k + 1)) = P at *
      have h2' : (P : Int) ≤ 1073741824 := Int.ofNat_le.2 h2
      clear h2
      generalize moeb (k + 1) = u at *
      generalize csum n k = v at *
      have h3 : u = -1 ∨ u = 0 ∨ u = 1 := by omega
      rcases h3 with rfl | rfl | rfl <;> omega
    · omega

def countB (n : Nat) : Int := (csum n n).tdiv n

def gsum (n : Nat) : Nat → Int
  | 0 => 0
  | k + 1 => gsum n k + if n % (k + 1) = 0 then ((k + 1 : Nat) : Int) * countB (k + 1) else 0

theorem gauss_fin : ∀ n : Fin 31, 1 ≤ n.val → gsum n.val n.val = ((2 ^ n.val : Nat) : Int) := by decide +kernel
theorem count_fin : ∀ n : Fin 31, 1 ≤ n.val → 1 ≤ countB n.val ∧ countB n.val ≤ 1073741824 ∧ 0 ≤ csum n.val n.val := by decide +kernel

theorem gauss (n : Nat) (h1 : 1 ≤ n) (h2 : n ≤ 30) : gsum n n = ((2 ^ n : Nat) : Int) := gauss_fin ⟨n, by omega⟩ h1
theorem count_le (n : Nat) (h1 : 1 ≤ n) (h2 : n ≤ 30) : 1 ≤ countB n ∧ countB n ≤ 1073741824 ∧ 0 ≤ csum n n := count_fin ⟨n, by omega⟩ h1

theorem gsum_le (n k : Nat) (hk : k ≤ 30) : 0 ≤ gsum n k ∧ gsum n k ≤ 32212254720 * (k : Int) := by
  induction k with
  | zero => simp [gsum]
  | succ k ih =>
    have ih := ih (by omega)
    rw [gsum]
    split
    · have h1 := count_le (k + 1) (by omega) hk
      generalize countB (k + 1) = c at *
      obtain ⟨c, rfl⟩ := Int.eq_ofNat_of_zero_le (show 0 ≤ c by omega)
      have h3 : (k + 1) * c ≤ 30 * 1073741824 := Nat.mul_le_mul hk (by omega)
      have h4 : ((k + 1 : Nat) : Int) * (c : Int) = (((k + 1) * c : Nat) : Int) := by rw [Int.natCast_mul]
      rw [h4]; omega
    · omega

/-- How many from a number on, so many of them looked at. -/
def many (s : Nat) : Nat → Nat
  | 0 => 0
  | k + 1 => many s k + if irrB (s + k) then 1 else 0

theorem many_fin : ∀ n : Fin 8, 1 ≤ n.val → ((many (2 ^ n.val) (2 ^ n.val) : Nat) : Int) = countB n.val := by decide +kernel

theorem many_none (s j k : Nat) (h : ∀ x, s + j ≤ x → x < s + k → irrB x = false) (hjk : j ≤ k) : many s k = many s j := by
  induction k with
  | zero => obtain rfl : j = 0 := by omega
            rfl
  | succ k ih =>
    by_cases hj : j = k + 1
    · rw [hj]
    · rw [many, h (s + k) (by omega) (by omega), ih (fun x h1 h2 => h x h1 (by omega)) (by omega)]; rfl

end Go.Proofs.Ytabdchehbgchcaa.G
