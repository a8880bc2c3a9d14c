/- Prints of texts, plain facts: a text as a polynomial, its rest by a modulus. No program in sight. -/
import Derived.Test.YthccdoejnklidaaG3
namespace Go.Proofs.Ythccdoejnklidaa.G

/-- Bytes pushed, the rest taken at once. -/
def psh (m p : Nat) (l : List UInt8) : Nat := l.foldl (fun p c => md (256 * p ^^^ c.toNat) m) p
/-- .. no rest taken. -/
def V (p : Nat) (l : List UInt8) : Nat := l.foldl (fun p c => 256 * p ^^^ c.toNat) p
/-- The print. -/
def print (m : Nat) (l : List UInt8) : Nat := psh m (md 1 m) l

theorem psh_nil (m p : Nat) : psh m p [] = p := rfl
theorem psh_cons (m p : Nat) (c : UInt8) (l : List UInt8) : psh m p (c :: l) = psh m (md (256 * p ^^^ c.toNat) m) l := rfl
theorem psh_snoc (m p : Nat) (l : List UInt8) (c : UInt8) : psh m p (l ++ [c]) = md (256 * psh m p l ^^^ c.toNat) m := by
  unfold psh; rw [List.foldl_append]; rfl
theorem V_cons (p : Nat) (c : UInt8) (l : List UInt8) : V p (c :: l) = V (256 * p ^^^ c.toNat) l := rfl
theorem V_append (p : Nat) (l k : List UInt8) : V p (l ++ k) = V (V p l) k := by unfold V; rw [List.foldl_append]
theorem V_snoc (p : Nat) (l : List UInt8) (c : UInt8) : V p (l ++ [c]) = 256 * V p l ^^^ c.toNat := by rw [V_append]; rfl

theorem mul_256 (p : Nat) : mul p 256 = 256 * p := mul_pow p 8

theorem md_step (p c : Nat) {m : Nat} (hm : m ≠ 0) : md (256 * md p m ^^^ c) m = md (256 * p ^^^ c) m := by
  rw [md_xor _ _ hm, md_xor _ _ hm, ← mul_256, ← mul_256, md_mul_left _ _ hm]

theorem psh_V (l : List UInt8) (p : Nat) {m : Nat} (hm : m ≠ 0) : psh m (md p m) l = md (V p l) m := by
  induction l generalizing p with
  | nil => rfl
  | cons c l ih => rw [psh_cons, V_cons, md_step _ _ hm, ih]

theorem print_V (l : List UInt8) {m : Nat} (hm : m ≠ 0) : print m l = md (V 1 l) m := psh_V l 1 hm

theorem print_append (l k : List UInt8) {m : Nat} (hm : m ≠ 0) : print m (l ++ k) = md (V (V 1 l) k) m := by
  rw [print_V _ hm, V_append]

theorem V_lin (l : List UInt8) (p q : Nat) : V (p ^^^ q) l = V p l ^^^ 2 ^ (8 * l.length) * q := by
  induction l generalizing p q with
  | nil => show p ^^^ q = p ^^^ 2 ^ 0 * q; rw [Nat.pow_zero, Nat.one_mul]
  | cons c l ih =>
    rw [V_cons, V_cons, List.length_cons]
    have e : 256 * (p ^^^ q) ^^^ c.toNat = (256 * p ^^^ c.toNat) ^^^ 256 * q := by
      have := pow_xor 8 p q
      rw [show (2 : Nat) ^ 8 = 256 from rfl] at this
      rw [this, Nat.xor_assoc, Nat.xor_comm (256 * q), ← Nat.xor_assoc]
    rw [e, ih, show 8 * (l.length + 1) = 8 * l.length + 8 from by omega, Nat.pow_add, Nat.mul_assoc]

theorem V_split (l : List UInt8) (p : Nat) : V p l = 2 ^ (8 * l.length) * p ^^^ V 0 l := by
  have := V_lin l 0 p
  rw [Nat.zero_xor] at this
  rw [this, Nat.xor_comm]

theorem V0_lt (l : List UInt8) : V 0 l < 2 ^ (8 * l.length) := by
  have : ∀ (l : List UInt8) (p k : Nat), p < 2 ^ k → V p l < 2 ^ (k + 8 * l.length) := by
    intro l
    induction l with
    | nil => intro p k h; exact h
    | cons c l ih =>
      intro p k h
      rw [V_cons, List.length_cons]
      have h1 : 256 * p < 2 ^ (k + 8) := by rw [Nat.pow_add]; omega
      have h2 : c.toNat < 2 ^ (k + 8) := Nat.lt_of_lt_of_le c.toNat_lt (Nat.pow_le_pow_right (n := 2) (i := 8) (by omega) (by omega))
      have := ih (256 * p ^^^ c.toNat) (k + 8) (Nat.xor_lt_two_pow h1 h2)
      rw [show k + 8 * (l.length + 1) = k + 8 + 8 * l.length from by omega]
      exact this
  have := this l 0 0 (by simp)
  rwa [Nat.zero_add] at this

/-- x, 8 n times. -/
theorem pw_two_eq (n : Nat) : pw 2 n = 2 ^ n := by
  induction n with
  | zero => rfl
  | succ n ih =>
    show mul (pw 2 n) 2 = _
    have h := mul_pow (2 ^ n) 1
    rw [Nat.pow_one] at h
    rw [ih, h, Nat.pow_succ, Nat.mul_comm]

/-- Joined: the print of two texts out of their prints and the second's length. -/
theorem print_join (s t : List UInt8) {m : Nat} (hm : m ≠ 0) :
    print m (s ++ t) = md (mul (print m s) (md (pw 2 (8 * t.length)) m)) m ^^^ print m t ^^^ md (pw 2 (8 * t.length)) m := by
  rw [print_append _ _ hm, V_split t (V 1 s), md_xor _ _ hm, print_V s hm, md_mul_both _ _ hm, pw_two_eq, mul_pow, print_V t hm, V_split t 1, Nat.mul_one, md_xor _ _ hm]
  generalize md (2 ^ (8 * t.length) * V 1 s) m = x; generalize md (V 0 t) m = y; generalize md (2 ^ (8 * t.length)) m = z
  rw [Nat.xor_assoc, Nat.xor_comm (z ^^^ y), xor_cancel]

theorem print_lt (l : List UInt8) {m : Nat} (hm : m ≠ 0) : L (print m l) < L m := by
  rw [print_V l hm]; exact L_md _ hm

end Go.Proofs.Ythccdoejnklidaa.G
