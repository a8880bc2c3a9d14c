/- Polynomials over two numbers: division with a rest, congruence, the greatest common divisor. No program in sight. -/
import Derived.Test.YthccdoejnklidaaG1
namespace Go.Proofs.Ythccdoejnklidaa.G

/-- f divides a. -/
def D (f a : Nat) : Prop := ∃ k, a = mul k f

theorem D_zero (f : Nat) : D f 0 := ⟨0, (zero_mul f).symm⟩
theorem D_refl (f : Nat) : D f f := ⟨1, (one_mul f).symm⟩
theorem one_D (a : Nat) : D 1 a := ⟨a, (mul_one a).symm⟩
theorem D_xor {f a b : Nat} (ha : D f a) (hb : D f b) : D f (a ^^^ b) := by
  obtain ⟨k, rfl⟩ := ha; obtain ⟨j, rfl⟩ := hb
  exact ⟨k ^^^ j, (xor_mul _ _ _).symm⟩
theorem D_mul {f a : Nat} (b : Nat) (ha : D f a) : D f (mul b a) := by
  obtain ⟨k, rfl⟩ := ha
  exact ⟨mul b k, (mul_assoc _ _ _).symm⟩
theorem D_mul' {f a : Nat} (b : Nat) (ha : D f a) : D f (mul a b) := by rw [mul_comm]; exact D_mul b ha
theorem D_trans {a b c : Nat} (h : D a b) (k : D b c) : D a c := by
  obtain ⟨x, rfl⟩ := k
  exact D_mul x h
theorem D_of_xor {f a b : Nat} (h : D f (a ^^^ b)) (hb : D f b) : D f a := by
  have := D_xor h hb; rwa [xor_cancel'] at this
theorem zero_D {a : Nat} (h : D 0 a) : a = 0 := by obtain ⟨k, rfl⟩ := h; exact mul_zero k
theorem D_L {f a : Nat} (h : D f a) (ha : a ≠ 0) : L f ≤ L a := by
  obtain ⟨k, rfl⟩ := h
  have hk : k ≠ 0 := by rintro rfl; exact ha (zero_mul f)
  have hf : f ≠ 0 := by rintro rfl; exact ha (mul_zero k)
  have := L_mul k f hk hf; have := L_pos.2 hk; omega
theorem D_small {f a : Nat} (h : D f a) (hl : L a < L f) : a = 0 := by
  rcases Nat.eq_zero_or_pos a with h0 | h0
  · exact h0
  · have := D_L h (by omega); omega
theorem D_antisymm {a b : Nat} (h : D a b) (k : D b a) : a = b := by
  obtain ⟨x, rfl⟩ := h
  obtain ⟨y, hy⟩ := k
  by_cases ha : a = 0
  · subst ha; rw [mul_zero]
  · rw [← mul_assoc] at hy
    have : mul y x = 1 := by
      refine mul_cancel_right ha ?_
      rw [one_mul]; exact hy.symm
    rw [(mul_eq_one this).2, one_mul]

/-- Congruence is an equality of sums. -/
theorem C_comm {m a b : Nat} (h : D m (a ^^^ b)) : D m (b ^^^ a) := by rwa [Nat.xor_comm]
theorem C_trans {m a b c : Nat} (h : D m (a ^^^ b)) (k : D m (b ^^^ c)) : D m (a ^^^ c) := by
  have := D_xor h k
  rwa [show (a ^^^ b) ^^^ (b ^^^ c) = a ^^^ c from by rw [Nat.xor_assoc, xor_cancel]] at this
theorem C_refl (m a : Nat) : D m (a ^^^ a) := by rw [Nat.xor_self]; exact D_zero m
theorem C_mul {m a b c d : Nat} (h : D m (a ^^^ b)) (k : D m (c ^^^ d)) : D m (mul a c ^^^ mul b d) := by
  have h1 : D m (mul a c ^^^ mul b c) := by rw [← xor_mul]; exact D_mul' c h
  have h2 : D m (mul b c ^^^ mul b d) := by rw [← mul_xor]; exact D_mul b k
  exact C_trans h1 h2
theorem C_xor {m a b c d : Nat} (h : D m (a ^^^ b)) (k : D m (c ^^^ d)) : D m ((a ^^^ c) ^^^ (b ^^^ d)) := by
  rw [xor4]; exact D_xor h k

/-- The program's division: quotient so far, what is left. -/
def overF (b : Nat) : Nat → Nat → Nat → Nat × Nat
  | 0, q, a => (q, a)
  | f + 1, q, a => if L b ≤ L a then overF b f (q ||| 2 ^ (L a - L b)) (a ^^^ 2 ^ (L a - L b) * b) else (q, a)

theorem overF_fuel (b : Nat) (hb : b ≠ 0) : ∀ f g q a, L a ≤ f → L a ≤ g → overF b f q a = overF b g q a := by
  have hp := L_pos.2 hb
  intro f
  induction f with
  | zero => intro g q a h _
            cases g with
            | zero => rfl
            | succ g => rw [overF, overF, if_neg (by omega)]
  | succ f ih =>
    intro g q a h h'
    by_cases hc : L b ≤ L a
    · cases g with
      | zero => omega
      | succ g =>
        have hs : L (a ^^^ 2 ^ (L a - L b) * b) < L a := by
          have e : L (2 ^ (L a - L b) * b) = L a := by rw [L_pow_mul _ _ hb]; omega
          exact L_xor_same e.symm (L_pos.1 (by omega))
        rw [overF, overF, if_pos hc, if_pos hc]
        exact ih g _ _ (by omega) (by omega)
    · cases g with
      | zero => rw [overF, overF, if_neg hc]
      | succ g => rw [overF, overF, if_neg hc, if_neg hc]

theorem overF_step (b q a : Nat) (hb : b ≠ 0) (h : L b ≤ L a) :
    overF b (L a) q a = overF b (L (a ^^^ 2 ^ (L a - L b) * b)) (q ||| 2 ^ (L a - L b)) (a ^^^ 2 ^ (L a - L b) * b) := by
  have hp := L_pos.2 hb
  have e : L (2 ^ (L a - L b) * b) = L a := by rw [L_pow_mul _ _ hb]; omega
  have hs := L_xor_same e.symm (L_pos.1 (by omega))
  obtain ⟨k, hk⟩ : ∃ k, L a = k + 1 := ⟨L a - 1, by omega⟩
  have h1 : overF b (L a) q a = overF b k (q ||| 2 ^ (L a - L b)) (a ^^^ 2 ^ (L a - L b) * b) := by
    conv => lhs; rw [hk]
    rw [overF, if_pos h]
  rw [h1]
  exact overF_fuel b hb _ _ _ _ (by omega) (Nat.le_refl _)

theorem overF_end (b q a : Nat) (h : ¬ L b ≤ L a) : overF b (L a) q a = (q, a) := by
  cases hk : L a with
  | zero => rfl
  | succ k => rw [overF, if_neg h]

def over (a b : Nat) : Nat × Nat := overF b (L a) 0 a
def qt (a b : Nat) : Nat := (over a b).1
def md (a b : Nat) : Nat := (over a b).2

theorem or_pow (q s : Nat) (h : 2 ^ (s + 1) ∣ q) : q ||| 2 ^ s = q ^^^ 2 ^ s := by
  obtain ⟨k, rfl⟩ := h
  apply Nat.eq_of_testBit_eq
  intro i
  rw [Nat.testBit_or, Nat.testBit_xor, Nat.testBit_two_pow]
  by_cases hi : s = i
  · subst hi
    have : (2 ^ (s + 1) * k).testBit s = false := by rw [Nat.testBit_two_pow_mul, decide_eq_false (by omega)]; rfl
    simp [this]
  · simp [hi]

theorem dvd_xor_pow (q s t : Nat) (h : 2 ^ (s + 1) ∣ q) (ht : t ≤ s) : 2 ^ t ∣ (q ^^^ 2 ^ s) := by
  obtain ⟨k, rfl⟩ := h
  have : 2 ^ (s + 1) * k ^^^ 2 ^ s = 2 ^ s * ((2 * k) ^^^ 1) := by
    rw [pow_xor, Nat.mul_one, Nat.pow_succ, Nat.mul_assoc]
  rw [this]
  exact Nat.dvd_trans (Nat.pow_dvd_pow 2 ht) ⟨_, rfl⟩

/-- One step of a division lowers what is left. -/
theorem step_L {a b : Nat} (hb : b ≠ 0) (h : L b ≤ L a) : L (a ^^^ 2 ^ (L a - L b) * b) < L a := by
  have hp := L_pos.2 hb
  have e : L (2 ^ (L a - L b) * b) = L a := by rw [L_pow_mul _ _ hb]; omega
  exact L_xor_same e.symm (L_pos.1 (by omega))

theorem overF_spec (b : Nat) (hb : b ≠ 0) : ∀ f q a, L a ≤ f → (L b ≤ L a → 2 ^ (L a - L b + 1) ∣ q) →
    mul (overF b f q a).1 b ^^^ (overF b f q a).2 = mul q b ^^^ a ∧ L (overF b f q a).2 < L b := by
  have hp := L_pos.2 hb
  intro f
  induction f with
  | zero => intro q a h _; exact ⟨rfl, by show L a < L b; omega⟩
  | succ f ih =>
    intro q a h hq
    rw [overF]
    by_cases hc : L b ≤ L a
    · rw [if_pos hc]
      have hs := step_L hb hc
      have hd := hq hc
      have := ih (q ||| 2 ^ (L a - L b)) (a ^^^ 2 ^ (L a - L b) * b) (by omega) (by
        intro hc'
        rw [or_pow _ _ hd]
        exact dvd_xor_pow _ _ _ hd (by omega))
      refine ⟨this.1.trans ?_, this.2⟩
      rw [or_pow _ _ hd, xor_mul, pow_mul]
      generalize 2 ^ (L a - L b) * b = z
      rw [Nat.xor_assoc, Nat.xor_comm a z, xor_cancel]
    · rw [if_neg hc]
      exact ⟨rfl, by show L a < L b; omega⟩

theorem over_spec (a b : Nat) (hb : b ≠ 0) : mul (qt a b) b ^^^ md a b = a ∧ L (md a b) < L b := by
  have := overF_spec b hb (L a) 0 a (Nat.le_refl _) (fun _ => ⟨0, rfl⟩)
  rw [zero_mul, Nat.zero_xor] at this
  exact this

theorem L_md (a : Nat) {b : Nat} (hb : b ≠ 0) : L (md a b) < L b := (over_spec a b hb).2
theorem qt_md (a : Nat) {b : Nat} (hb : b ≠ 0) : mul (qt a b) b ^^^ md a b = a := (over_spec a b hb).1

theorem over_unique {a b q r : Nat} (hb : b ≠ 0) (h : mul q b ^^^ r = a) (hr : L r < L b) : q = qt a b ∧ r = md a b := by
  have h1 := qt_md a hb
  have h2 := L_md a hb
  have h3 : mul (q ^^^ qt a b) b = r ^^^ md a b := by
    rw [xor_mul]
    have : mul q b ^^^ r = mul (qt a b) b ^^^ md a b := by rw [h, h1]
    have h4 : (mul q b ^^^ r) ^^^ (mul (qt a b) b ^^^ r) = (mul (qt a b) b ^^^ md a b) ^^^ (mul (qt a b) b ^^^ r) := by rw [this]
    rw [xor4 (mul q b), Nat.xor_self, Nat.xor_zero, xor4 (mul (qt a b) b), Nat.xor_self, Nat.zero_xor, Nat.xor_comm (md a b)] at h4
    exact h4
  have h5 : r ^^^ md a b = 0 := D_small ⟨_, h3.symm⟩ (by have := L_xor_le r (md a b); omega)
  rw [h5] at h3
  refine ⟨?_, xor_eq_zero h5⟩
  rcases mul_eq_zero.1 h3 with h6 | h6
  · exact xor_eq_zero h6
  · exact absurd h6 hb

theorem md_C (a : Nat) {m : Nat} (hm : m ≠ 0) : D m (a ^^^ md a m) := by
  refine ⟨qt a m, ?_⟩
  have := qt_md a hm
  have h := congrArg (· ^^^ md a m) this
  simp only [xor_cancel'] at h
  exact h.symm

theorem md_unique {a m r : Nat} (hm : m ≠ 0) (h : D m (a ^^^ r)) (hr : L r < L m) : md a m = r := by
  obtain ⟨k, hk⟩ := h
  refine ((over_unique (q := k) hm ?_ hr).2).symm
  rw [← hk, xor_cancel']

theorem md_eq_iff {a b m : Nat} (hm : m ≠ 0) : md a m = md b m ↔ D m (a ^^^ b) := by
  constructor
  · intro h
    have h1 := md_C a hm; have h2 := md_C b hm
    rw [← h] at h2
    exact C_trans h1 (C_comm h2)
  · intro h
    exact md_unique hm (C_trans h (md_C b hm)) (L_md b hm)

theorem md_small {a m : Nat} (h : L a < L m) : md a m = a :=
  md_unique (L_pos.1 (by omega)) (C_refl m a) h

theorem md_md (a : Nat) {m : Nat} (hm : m ≠ 0) : md (md a m) m = md a m := md_small (L_md a hm)

theorem md_zero (m : Nat) : md 0 m = 0 := by
  by_cases hm : m = 0
  · subst hm; rfl
  · exact md_small (by rw [L_zero]; exact L_pos.2 hm)

theorem md_eq_zero {a m : Nat} (hm : m ≠ 0) : md a m = 0 ↔ D m a := by
  have := @md_eq_iff a 0 m hm
  rw [md_zero, Nat.xor_zero] at this
  exact this

theorem md_xor (a b : Nat) {m : Nat} (hm : m ≠ 0) : md (a ^^^ b) m = md a m ^^^ md b m :=
  md_unique hm (C_xor (md_C a hm) (md_C b hm)) (by have := L_xor_le (md a m) (md b m); have := L_md a hm; have := L_md b hm; omega)

theorem md_mul_left (a b : Nat) {m : Nat} (hm : m ≠ 0) : md (mul (md a m) b) m = md (mul a b) m :=
  (md_eq_iff hm).2 (C_mul (C_comm (md_C a hm)) (C_refl m b))

theorem md_mul_right (a b : Nat) {m : Nat} (hm : m ≠ 0) : md (mul a (md b m)) m = md (mul a b) m := by
  rw [mul_comm, md_mul_left _ _ hm, mul_comm]

theorem md_mul_both (a b : Nat) {m : Nat} (hm : m ≠ 0) : md (mul (md a m) (md b m)) m = md (mul a b) m := by
  rw [md_mul_left _ _ hm, md_mul_right _ _ hm]

/-- A rest by a multiple tells the rest by a part. -/
theorem md_of_D {a m n : Nat} (hm : m ≠ 0) (hn : n ≠ 0) (h : D m n) : md (md a n) m = md a m :=
  (md_eq_iff hm).2 (C_comm (D_trans h (md_C a hn)))

theorem qt_eq {a b q r : Nat} (hb : b ≠ 0) (h : mul q b ^^^ r = a) (hr : L r < L b) : qt a b = q := (over_unique hb h hr).1.symm

def gcdF : Nat → Nat → Nat → Nat
  | 0, a, _ => a
  | f + 1, a, b => if b = 0 then a else gcdF f b (md a b)

/-- Euclid's greatest common divisor. -/
def gcd (a b : Nat) : Nat := gcdF (L b) a b

theorem gcdF_fuel : ∀ f g a b, L b ≤ f → L b ≤ g → gcdF f a b = gcdF g a b := by
  intro f
  induction f with
  | zero => intro g a b h _
            obtain rfl : b = 0 := L_eq_zero.1 (by omega)
            cases g <;> simp [gcdF]
  | succ f ih =>
    intro g a b h h'
    by_cases hb : b = 0
    · subst hb; cases g <;> simp [gcdF]
    · cases g with
      | zero => exact absurd (L_eq_zero.1 (by omega)) hb
      | succ g =>
        have := L_md a hb
        rw [gcdF, gcdF, if_neg hb, if_neg hb, ih g b (md a b) (by omega) (by omega)]

theorem gcd_zero (a : Nat) : gcd a 0 = a := rfl

theorem gcd_step (a : Nat) {b : Nat} (hb : b ≠ 0) : gcd a b = gcd b (md a b) := by
  unfold gcd
  obtain ⟨k, hk⟩ : ∃ k, L b = k + 1 := ⟨L b - 1, by have := L_pos.2 hb; omega⟩
  have := L_md a hb
  rw [hk, gcdF, if_neg hb]
  exact gcdF_fuel _ _ _ _ (by omega) (Nat.le_refl _)

theorem gcd_ind {P : Nat → Nat → Prop} (h0 : ∀ a, P a 0) (h1 : ∀ a b, b ≠ 0 → P b (md a b) → P a b) : ∀ a b, P a b := by
  have : ∀ n a b, L b ≤ n → P a b := by
    intro n
    induction n with
    | zero => intro a b h
              obtain rfl : b = 0 := L_eq_zero.1 (by omega)
              exact h0 a
    | succ n ih =>
      intro a b h
      by_cases hb : b = 0
      · subst hb; exact h0 a
      · have := L_md a hb
        exact h1 a b hb (ih _ _ (by omega))
  exact fun a b => this _ a b (Nat.le_refl _)

theorem gcd_D : ∀ a b, D (gcd a b) a ∧ D (gcd a b) b := by
  refine gcd_ind (fun a => ⟨D_refl a, D_zero a⟩) ?_
  intro a b hb ⟨h1, h2⟩
  rw [gcd_step a hb]
  exact ⟨D_of_xor (D_trans h1 (md_C a hb)) h2, h1⟩

theorem gcd_bez : ∀ a b, ∃ u v, gcd a b = mul u a ^^^ mul v b := by
  refine gcd_ind (fun a => ⟨1, 0, by rw [gcd_zero, one_mul, mul_zero, Nat.xor_zero]⟩) ?_
  intro a b hb ⟨u, v, h⟩
  rw [gcd_step a hb, h]
  have hm : md a b = a ^^^ mul (qt a b) b := by
    have := qt_md a hb
    have h := congrArg (mul (qt a b) b ^^^ ·) this
    simp only [xor_cancel] at h
    rw [h, Nat.xor_comm]
  refine ⟨v, u ^^^ mul v (qt a b), ?_⟩
  rw [hm, mul_xor, xor_mul, mul_assoc]
  generalize mul u b = x; generalize mul v a = y; generalize mul v (mul (qt a b) b) = z
  ac_rfl

theorem gcd_greatest {d a b : Nat} (ha : D d a) (hb : D d b) : D d (gcd a b) := by
  obtain ⟨u, v, h⟩ := gcd_bez a b
  rw [h]; exact D_xor (D_mul u ha) (D_mul v hb)

theorem gcd_comm (a b : Nat) : gcd a b = gcd b a :=
  D_antisymm (gcd_greatest (gcd_D a b).2 (gcd_D a b).1) (gcd_greatest (gcd_D b a).2 (gcd_D b a).1)

theorem gcd_mul (a b c : Nat) : gcd (mul a c) (mul b c) = mul (gcd a b) c := by
  apply D_antisymm
  · obtain ⟨u, v, h⟩ := gcd_bez a b
    rw [h, xor_mul, mul_assoc, mul_assoc]
    exact D_xor (D_mul u (gcd_D _ _).1) (D_mul v (gcd_D _ _).2)
  · obtain ⟨x, hx⟩ := (gcd_D a b).1
    obtain ⟨y, hy⟩ := (gcd_D a b).2
    refine gcd_greatest ⟨x, ?_⟩ ⟨y, ?_⟩
    · rw [← mul_assoc, ← hx]
    · rw [← mul_assoc, ← hy]

theorem gcd_L {a b k : Nat} (ha : L a ≤ k) (hb : L b ≤ k) : L (gcd a b) ≤ k := by
  by_cases h0 : a = 0
  · by_cases h1 : b = 0
    · subst h0; subst h1; rw [gcd_zero, L_zero]; omega
    · have := D_L (gcd_D a b).2 h1; omega
  · have := D_L (gcd_D a b).1 h0; omega

theorem gcd_eq_zero {a b : Nat} (h : gcd a b = 0) : a = 0 ∧ b = 0 := by
  have := gcd_D a b
  rw [h] at this
  exact ⟨zero_D this.1, zero_D this.2⟩

end Go.Proofs.Ythccdoejnklidaa.G
