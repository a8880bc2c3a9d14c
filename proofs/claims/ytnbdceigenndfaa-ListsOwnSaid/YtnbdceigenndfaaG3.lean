
/- Polynomials over two numbers, as the bits of a natural number: products, lengths, no zero divisors. No program in sight. -/
namespace Go.Proofs.Ytnbdceigenndfaa.G

theorem xor4 (a b c d : Nat) : (a ^^^ b) ^^^ (c ^^^ d) = (a ^^^ c) ^^^ (b ^^^ d) := by ac_rfl
theorem xor_cancel (a b : Nat) : a ^^^ (a ^^^ b) = b := by rw [← Nat.xor_assoc, Nat.xor_self, Nat.zero_xor]
theorem xor_cancel' (a b : Nat) : (b ^^^ a) ^^^ a = b := by rw [Nat.xor_assoc, Nat.xor_self, Nat.xor_zero]
theorem xor_eq_zero {a b : Nat} (h : a ^^^ b = 0) : a = b := by
  have := congrArg (· ^^^ b) h
  simpa [xor_cancel'] using this
theorem xor_left_inj {a b c : Nat} (h : a ^^^ b = a ^^^ c) : b = c := by
  have := congrArg (a ^^^ ·) h
  simpa [xor_cancel] using this

theorem two_xor (a b : Nat) : 2 * (a ^^^ b) = 2 * a ^^^ 2 * b := by
  have := @Nat.shiftLeft_xor_distrib 1 a b
  simp only [Nat.shiftLeft_eq, Nat.pow_one] at this
  rw [Nat.mul_comm 2, Nat.mul_comm 2, Nat.mul_comm 2, this]

theorem pow_xor (k a b : Nat) : 2 ^ k * (a ^^^ b) = 2 ^ k * a ^^^ 2 ^ k * b := by
  have := @Nat.shiftLeft_xor_distrib k a b
  simp only [Nat.shiftLeft_eq] at this
  rw [Nat.mul_comm, this, Nat.mul_comm a, Nat.mul_comm b]

/-- One bit, as a choice. -/
def pick (b a : Nat) : Nat := if b % 2 = 1 then a else 0

theorem pick_zero (b : Nat) : pick b 0 = 0 := by unfold pick; split <;> rfl
theorem pick_two (b a : Nat) : pick b (2 * a) = 2 * pick b a := by unfold pick; split <;> rfl
theorem pick_xor_right (b x y : Nat) : pick b (x ^^^ y) = pick b x ^^^ pick b y := by unfold pick; split <;> simp
theorem pick_xor_left (b c x : Nat) : pick (b ^^^ c) x = pick b x ^^^ pick c x := by
  have h := @Nat.xor_mod_two_eq_one b c
  unfold pick
  by_cases h1 : b % 2 = 1 <;> by_cases h2 : c % 2 = 1
  · rw [if_neg (by rw [h]; simp [h1, h2]), if_pos h1, if_pos h2, Nat.xor_self]
  · rw [if_pos (by rw [h]; simp [h1, h2]), if_pos h1, if_neg h2, Nat.xor_zero]
  · rw [if_pos (by rw [h]; simp [h1, h2]), if_neg h1, if_pos h2, Nat.zero_xor]
  · rw [if_neg (by rw [h]; simp [h1, h2]), if_neg h1, if_neg h2, Nat.xor_self]

def mulF (a : Nat) : Nat → Nat → Nat
  | 0, _ => 0
  | f + 1, b => if b = 0 then 0 else pick b a ^^^ 2 * mulF a f (b / 2)

/-- The product. -/
def mul (a b : Nat) : Nat := mulF a b b

theorem mulF_fuel (a : Nat) : ∀ f g b, b ≤ f → b ≤ g → mulF a f b = mulF a g b := by
  intro f
  induction f with
  | zero => intro g b h1 _; obtain rfl : b = 0 := by omega
            cases g <;> simp [mulF]
  | succ f ih =>
    intro g b h1 h2
    cases g with
    | zero => obtain rfl : b = 0 := by omega
              simp [mulF]
    | succ g =>
      by_cases hb : b = 0
      · simp [mulF, hb]
      · rw [mulF, mulF, if_neg hb, if_neg hb, ih g (b / 2) (by omega) (by omega)]

theorem mul_zero (a : Nat) : mul a 0 = 0 := rfl

theorem mul_step (a b : Nat) : mul a b = pick b a ^^^ 2 * mul a (b / 2) := by
  by_cases hb : b = 0
  · subst hb; rw [show 0 / 2 = 0 from rfl, mul_zero]; unfold pick; simp
  · unfold mul
    obtain ⟨f, rfl⟩ : ∃ f, b = f + 1 := ⟨b - 1, by omega⟩
    rw [mulF, if_neg hb, mulF_fuel a f ((f + 1) / 2) ((f + 1) / 2) (by omega) (Nat.le_refl _)]

/-- Induction on halves. -/
theorem halves {P : Nat → Prop} (h0 : P 0) (h : ∀ b, b ≠ 0 → P (b / 2) → P b) : ∀ b, P b := by
  intro b
  induction b using Nat.strongRecOn with
  | _ b ih => by_cases hb : b = 0
              · subst hb; exact h0
              · exact h b hb (ih _ (by omega))

theorem zero_mul (b : Nat) : mul 0 b = 0 := by
  induction b using halves with
  | h0 => rfl
  | h b _ ih => rw [mul_step, ih, pick_zero]; rfl

theorem two_mul_left (a b : Nat) : mul (2 * a) b = 2 * mul a b := by
  induction b using halves with
  | h0 => rfl
  | h b _ ih => rw [mul_step, ih, mul_step a b, pick_two, two_xor]

theorem mul_two (a b : Nat) : mul a (2 * b) = 2 * mul a b := by
  rw [mul_step, show 2 * b / 2 = b from by omega]
  unfold pick; rw [if_neg (by omega), Nat.zero_xor]

theorem xor_mul (a c b : Nat) : mul (a ^^^ c) b = mul a b ^^^ mul c b := by
  induction b using halves with
  | h0 => rw [mul_zero, mul_zero, mul_zero, Nat.xor_self]
  | h b _ ih => rw [mul_step, ih, mul_step a b, mul_step c b, pick_xor_right, two_xor, xor4]

theorem mul_xor (a b c : Nat) : mul a (b ^^^ c) = mul a b ^^^ mul a c := by
  induction b using halves generalizing c with
  | h0 => rw [Nat.zero_xor, mul_zero, Nat.zero_xor]
  | h b _ ih => rw [mul_step, Nat.xor_div_two, ih, mul_step a b, mul_step a c, pick_xor_left, two_xor, xor4]

theorem mul_one (a : Nat) : mul a 1 = a := by
  rw [mul_step]; show pick 1 a ^^^ 2 * mul a 0 = a
  rw [mul_zero]; unfold pick; simp

theorem one_mul (b : Nat) : mul 1 b = b := by
  induction b using halves with
  | h0 => rfl
  | h b _ ih =>
    rw [mul_step, ih]; unfold pick
    apply Nat.eq_of_testBit_eq
    intro i
    cases i with
    | zero => split <;> simp_all [Nat.testBit_zero] <;> omega
    | succ i => rw [Nat.testBit_xor, Nat.testBit_succ, Nat.testBit_succ, Nat.testBit_succ]
                rw [show 2 * (b / 2) / 2 = b / 2 from by omega]
                split <;> simp

/-- A number is its half, doubled, and its last bit. -/
theorem split_bit (b : Nat) : b = pick b 1 ^^^ 2 * (b / 2) := by
  have := mul_step 1 b
  rw [one_mul, one_mul] at this
  exact this

theorem pick_mul (b c x : Nat) : mul (pick b x) c = pick b (mul x c) := by
  unfold pick; split
  · rfl
  · exact zero_mul c

theorem mul_comm (a b : Nat) : mul a b = mul b a := by
  induction b using halves generalizing a with
  | h0 => rw [mul_zero, zero_mul]
  | h b _ ih =>
    rw [mul_step, ih]
    have h : mul b a = mul (pick b 1 ^^^ 2 * (b / 2)) a := by rw [← split_bit]
    rw [h, xor_mul, two_mul_left, pick_mul, one_mul]

theorem mul_assoc (a b c : Nat) : mul (mul a b) c = mul a (mul b c) := by
  induction c using halves with
  | h0 => rfl
  | h c _ ih =>
    rw [mul_step, ih, mul_step b c, mul_xor, mul_two]
    congr 1
    unfold pick; split
    · rfl
    · rw [mul_zero]

theorem mul_left_comm (a b c : Nat) : mul a (mul b c) = mul b (mul a c) := by
  rw [← mul_assoc, mul_comm a b, mul_assoc]

theorem mul_pow (a k : Nat) : mul a (2 ^ k) = 2 ^ k * a := by
  induction k with
  | zero => rw [Nat.pow_zero, mul_one, Nat.one_mul]
  | succ k ih => rw [Nat.pow_succ, Nat.mul_comm, mul_two, ih, ← Nat.mul_assoc]

theorem pow_mul (a k : Nat) : mul (2 ^ k) a = 2 ^ k * a := by rw [mul_comm, mul_pow]

/-- How many bits. -/
def L (a : Nat) : Nat := if a = 0 then 0 else Nat.log2 a + 1

theorem L_zero : L 0 = 0 := rfl
theorem L_one : L 1 = 1 := by decide +kernel
theorem L_two : L 2 = 2 := by decide +kernel

theorem L_le {a k : Nat} : L a ≤ k ↔ a < 2 ^ k := by
  unfold L
  by_cases h : a = 0
  · subst h; simp [Nat.two_pow_pos]
  · rw [if_neg h, ← Nat.log2_lt h]; omega

theorem lt_L {a : Nat} : a < 2 ^ L a := L_le.1 (Nat.le_refl _)

theorem le_of_L {a k : Nat} : k < L a ↔ 2 ^ k ≤ a := by
  have := @L_le a k; omega

theorem L_pos {a : Nat} : 0 < L a ↔ a ≠ 0 := by
  rw [le_of_L]; simp; omega

theorem L_eq_zero {a : Nat} : L a = 0 ↔ a = 0 := by
  have := @L_pos a; omega

theorem L_eq {a k : Nat} (h1 : 2 ^ k ≤ a) (h2 : a < 2 ^ (k + 1)) : L a = k + 1 := by
  have := le_of_L.2 h1; have := L_le.2 h2; omega

theorem L_pow (k : Nat) : L (2 ^ k) = k + 1 :=
  L_eq (Nat.le_refl _) (Nat.pow_lt_pow_right (by omega) (by omega))

theorem L_mono {a b : Nat} (h : a ≤ b) : L a ≤ L b := L_le.2 (Nat.lt_of_le_of_lt h lt_L)

theorem L_lt {a b : Nat} (h : L a < L b) : a < b := by
  rcases Nat.lt_or_ge a b with h' | h'
  · exact h'
  · have := L_mono h'; omega

theorem L_xor_le (a b : Nat) : L (a ^^^ b) ≤ max (L a) (L b) := by
  rw [L_le]
  exact Nat.xor_lt_two_pow (L_le.1 (Nat.le_max_left _ _)) (L_le.1 (Nat.le_max_right _ _))

theorem L_xor_lt {a b k : Nat} (ha : L a ≤ k) (hb : L b ≤ k) : L (a ^^^ b) ≤ k := by
  have := L_xor_le a b; omega

theorem L_xor_of_lt {a b : Nat} (h : L a < L b) : L (a ^^^ b) = L b := by
  have h1 := L_xor_le a b
  have h2 := L_xor_le a (a ^^^ b)
  rw [xor_cancel] at h2
  omega

theorem L_xor_of_gt {a b : Nat} (h : L b < L a) : L (a ^^^ b) = L a := by
  rw [Nat.xor_comm]; exact L_xor_of_lt h

/-- Two of the same length: the highest bits go. -/
theorem L_xor_same {a b : Nat} (h : L a = L b) (h0 : a ≠ 0) : L (a ^^^ b) < L a := by
  obtain ⟨k, hk⟩ : ∃ k, L a = k + 1 := ⟨L a - 1, by have := L_pos.2 h0; omega⟩
  rw [hk]
  have ha : a.testBit k = true := Nat.testBit_of_two_pow_le_and_two_pow_add_one_gt (le_of_L.1 (by omega)) (L_le.1 (by omega))
  have hb : b.testBit k = true := Nat.testBit_of_two_pow_le_and_two_pow_add_one_gt (le_of_L.1 (by omega)) (L_le.1 (by omega))
  have : L (a ^^^ b) ≤ k := by
    rw [L_le]
    apply Nat.lt_pow_two_of_testBit
    intro i hi
    rw [Nat.testBit_xor]
    by_cases hik : i = k
    · subst hik; rw [ha, hb]; rfl
    · rw [Nat.testBit_lt_two_pow (Nat.lt_of_lt_of_le (L_le.1 (show L a ≤ k + 1 by omega)) (Nat.pow_le_pow_right (by omega) (by omega))),
        Nat.testBit_lt_two_pow (Nat.lt_of_lt_of_le (L_le.1 (show L b ≤ k + 1 by omega)) (Nat.pow_le_pow_right (by omega) (by omega)))]
      rfl
  omega

theorem L_pow_mul (a k : Nat) (h : a ≠ 0) : L (2 ^ k * a) = k + L a := by
  obtain ⟨j, hj⟩ : ∃ j, L a = j + 1 := ⟨L a - 1, by have := L_pos.2 h; omega⟩
  have h1 : 2 ^ j ≤ a := le_of_L.1 (by omega)
  have h2 : a < 2 ^ (j + 1) := L_le.1 (by omega)
  rw [hj, ← Nat.add_assoc]
  refine L_eq ?_ ?_
  · rw [Nat.pow_add]; exact Nat.mul_le_mul_left _ h1
  · rw [Nat.add_assoc, Nat.pow_add]; exact Nat.mul_lt_mul_of_pos_left h2 (Nat.two_pow_pos _)

theorem L_double (a : Nat) (h : a ≠ 0) : L (2 * a) = L a + 1 := by
  have := L_pow_mul a 1 h; rw [Nat.pow_one] at this; omega

theorem L_half {b : Nat} (h : b ≠ 0) : L b = L (b / 2) + 1 := by
  by_cases h1 : b = 1
  · subst h1; rw [L_one]; rfl
  · obtain ⟨j, hj⟩ : ∃ j, L (b / 2) = j + 1 := ⟨L (b / 2) - 1, by have := @L_pos (b / 2); omega⟩
    have h1 : 2 ^ j ≤ b / 2 := le_of_L.1 (by omega)
    have h2 : b / 2 < 2 ^ (j + 1) := L_le.1 (by omega)
    rw [hj]
    refine L_eq ?_ ?_
    · rw [Nat.pow_succ]; omega
    · rw [Nat.pow_succ]; omega

/-- The length of a product. -/
theorem L_mul (a b : Nat) (ha : a ≠ 0) (hb : b ≠ 0) : L (mul a b) + 1 = L a + L b := by
  induction b using halves with
  | h0 => exact absurd rfl hb
  | h b _ ih =>
    by_cases h1 : b = 1
    · subst h1; rw [mul_one, L_one]
    · have ih' := ih (by omega)
      have hp : L b = L (b / 2) + 1 := by
        obtain ⟨j, hj⟩ : ∃ j, L (b / 2) = j + 1 := ⟨L (b / 2) - 1, by have := @L_pos (b / 2); omega⟩
        have h1 : 2 ^ j ≤ b / 2 := le_of_L.1 (by omega)
        have h2 : b / 2 < 2 ^ (j + 1) := L_le.1 (by omega)
        rw [hj]
        refine L_eq ?_ ?_
        · rw [Nat.pow_succ]; omega
        · rw [Nat.pow_succ]; omega
      have hpos : 0 < L a := L_pos.2 ha
      have hpos2 : 0 < L (b / 2) := L_pos.2 (by omega)
      have hx : mul a (b / 2) ≠ 0 := by
        intro h0; rw [h0, L_zero] at ih'; omega
      rw [mul_step]
      have hL : L (2 * mul a (b / 2)) = L (mul a (b / 2)) + 1 := L_double _ hx
      by_cases hc : b % 2 = 1
      · unfold pick; rw [if_pos hc, L_xor_of_lt (by omega)]; omega
      · unfold pick; rw [if_neg hc, Nat.zero_xor]; omega

theorem mul_ne_zero {a b : Nat} (ha : a ≠ 0) (hb : b ≠ 0) : mul a b ≠ 0 := by
  intro h
  have := L_mul a b ha hb
  have := L_pos.2 ha; have := L_pos.2 hb
  rw [h, L_zero] at *; omega

theorem mul_eq_zero {a b : Nat} : mul a b = 0 ↔ a = 0 ∨ b = 0 := by
  constructor
  · intro h
    by_cases ha : a = 0
    · exact Or.inl ha
    · by_cases hb : b = 0
      · exact Or.inr hb
      · exact absurd h (mul_ne_zero ha hb)
  · rintro (rfl | rfl)
    · exact zero_mul _
    · exact mul_zero _

theorem mul_cancel {a b c : Nat} (ha : a ≠ 0) (h : mul a b = mul a c) : b = c := by
  have : mul a (b ^^^ c) = 0 := by rw [mul_xor, h, Nat.xor_self]
  rcases mul_eq_zero.1 this with h' | h'
  · exact absurd h' ha
  · exact xor_eq_zero h'

theorem mul_cancel_right {a b c : Nat} (ha : a ≠ 0) (h : mul b a = mul c a) : b = c := by
  rw [mul_comm b, mul_comm c] at h; exact mul_cancel ha h

theorem mul_eq_one {a b : Nat} (h : mul a b = 1) : a = 1 ∧ b = 1 := by
  have ha : a ≠ 0 := by rintro rfl; rw [zero_mul] at h; omega
  have hb : b ≠ 0 := by rintro rfl; rw [mul_zero] at h; omega
  have := L_mul a b ha hb
  rw [h, L_one] at this
  have h1 := L_pos.2 ha; have h2 := L_pos.2 hb
  have h3 : a < 2 ^ 1 := L_le.1 (by omega)
  have h4 : b < 2 ^ 1 := L_le.1 (by omega)
  omega

/-- The squares: no cross terms. -/
theorem sq_xor (a b : Nat) : mul (a ^^^ b) (a ^^^ b) = mul a a ^^^ mul b b := by
  rw [mul_xor, xor_mul, xor_mul, mul_comm b a, xor4, Nat.xor_comm (mul a b) (mul b b), ← xor4]
  rw [show (mul a a ^^^ mul b b) ^^^ (mul a b ^^^ mul a b) = mul a a ^^^ mul b b from by rw [Nat.xor_self, Nat.xor_zero]]

end Go.Proofs.Ytnbdceigenndfaa.G

/- Polynomials over two numbers: division with a rest, congruence, the greatest common divisor. No program in sight. -/
namespace Go.Proofs.Ytnbdceigenndfaa.G

/-- f divides a. -/
def D (f a : Nat) : Prop := ∃ k, a = mul k f

theorem D_zero (f : Nat) : D f 0 := ⟨0, (zero_mul f).symm⟩
theorem D_refl (f : Nat) : D f f := ⟨1, (one_mul f).symm⟩
theorem one_D (a : Nat) : D 1 a := ⟨a, (mul_one a).symm⟩
theorem D_xor {f a b : Nat} (ha : D f a) (hb : D f b) : D f (a ^^^ b) := by
  obtain ⟨k, rfl⟩ := ha; obtain ⟨j, rfl⟩ := hb
  exact ⟨k ^^^ j, (xor_mul _ _ _).symm⟩
theorem D_mul {f a : Nat} (b : Nat) (ha : D f a) : D f (mul b a) := by
  obtain ⟨k, rfl⟩ := ha
  exact ⟨mul b k, (mul_assoc _ _ _).symm⟩
theorem D_mul' {f a : Nat} (b : Nat) (ha : D f a) : D f (mul a b) := by rw [mul_comm]; exact D_mul b ha
theorem D_trans {a b c : Nat} (h : D a b) (k : D b c) : D a c := by
  obtain ⟨x, rfl⟩ := k
  exact D_mul x h
theorem D_of_xor {f a b : Nat} (h : D f (a ^^^ b)) (hb : D f b) : D f a := by
  have := D_xor h hb; rwa [xor_cancel'] at this
theorem zero_D {a : Nat} (h : D 0 a) : a = 0 := by obtain ⟨k, rfl⟩ := h; exact mul_zero k
theorem D_L {f a : Nat} (h : D f a) (ha : a ≠ 0) : L f ≤ L a := by
  obtain ⟨k, rfl⟩ := h
  have hk : k ≠ 0 := by rintro rfl; exact ha (zero_mul f)
  have hf : f ≠ 0 := by rintro rfl; exact ha (mul_zero k)
  have := L_mul k f hk hf; have := L_pos.2 hk; omega
theorem D_small {f a : Nat} (h : D f a) (hl : L a < L f) : a = 0 := by
  rcases Nat.eq_zero_or_pos a with h0 | h0
  · exact h0
  · have := D_L h (by omega); omega
theorem D_antisymm {a b : Nat} (h : D a b) (k : D b a) : a = b := by
  obtain ⟨x, rfl⟩ := h
  obtain ⟨y, hy⟩ := k
  by_cases ha : a = 0
  · subst ha; rw [mul_zero]
  · rw [← mul_assoc] at hy
    have : mul y x = 1 := by
      refine mul_cancel_right ha ?_
      rw [one_mul]; exact hy.symm
    rw [(mul_eq_one this).2, one_mul]

/-- Congruence is an equality of sums. -/
theorem C_comm {m a b : Nat} (h : D m (a ^^^ b)) : D m (b ^^^ a) := by rwa [Nat.xor_comm]
theorem C_trans {m a b c : Nat} (h : D m (a ^^^ b)) (k : D m (b ^^^ c)) : D m (a ^^^ c) := by
  have := D_xor h k
  rwa [show (a ^^^ b) ^^^ (b ^^^ c) = a ^^^ c from by rw [Nat.xor_assoc, xor_cancel]] at this
theorem C_refl (m a : Nat) : D m (a ^^^ a) := by rw [Nat.xor_self]; exact D_zero m
theorem C_mul {m a b c d : Nat} (h : D m (a ^^^ b)) (k : D m (c ^^^ d)) : D m (mul a c ^^^ mul b d) := by
  have h1 : D m (mul a c ^^^ mul b c) := by rw [← xor_mul]; exact D_mul' c h
  have h2 : D m (mul b c ^^^ mul b d) := by rw [← mul_xor]; exact D_mul b k
  exact C_trans h1 h2
theorem C_xor {m a b c d : Nat} (h : D m (a ^^^ b)) (k : D m (c ^^^ d)) : D m ((a ^^^ c) ^^^ (b ^^^ d)) := by
  rw [xor4]; exact D_xor h k

/-- The program's division: quotient so far, what is left. -/
def overF (b : Nat) : Nat → Nat → Nat → Nat × Nat
  | 0, q, a => (q, a)
  | f + 1, q, a => if L b ≤ L a then overF b f (q ||| 2 ^ (L a - L b)) (a ^^^ 2 ^ (L a - L b) * b) else (q, a)

theorem overF_fuel (b : Nat) (hb : b ≠ 0) : ∀ f g q a, L a ≤ f → L a ≤ g → overF b f q a = overF b g q a := by
  have hp := L_pos.2 hb
  intro f
  induction f with
  | zero => intro g q a h _
            cases g with
            | zero => rfl
            | succ g => rw [overF, overF, if_neg (by omega)]
  | succ f ih =>
    intro g q a h h'
    by_cases hc : L b ≤ L a
    · cases g with
      | zero => omega
      | succ g =>
        have hs : L (a ^^^ 2 ^ (L a - L b) * b) < L a := by
          have e : L (2 ^ (L a - L b) * b) = L a := by rw [L_pow_mul _ _ hb]; omega
          exact L_xor_same e.symm (L_pos.1 (by omega))
        rw [overF, overF, if_pos hc, if_pos hc]
        exact ih g _ _ (by omega) (by omega)
    · cases g with
      | zero => rw [overF, overF, if_neg hc]
      | succ g => rw [overF, overF, if_neg hc, if_neg hc]

theorem overF_step (b q a : Nat) (hb : b ≠ 0) (h : L b ≤ L a) :
    overF b (L a) q a = overF b (L (a ^^^ 2 ^ (L a - L b) * b)) (q ||| 2 ^ (L a - L b)) (a ^^^ 2 ^ (L a - L b) * b) := by
  have hp := L_pos.2 hb
  have e : L (2 ^ (L a - L b) * b) = L a := by rw [L_pow_mul _ _ hb]; omega
  have hs := L_xor_same e.symm (L_pos.1 (by omega))
  obtain ⟨k, hk⟩ : ∃ k, L a = k + 1 := ⟨L a - 1, by omega⟩
  have h1 : overF b (L a) q a = overF b k (q ||| 2 ^ (L a - L b)) (a ^^^ 2 ^ (L a - L b) * b) := by
    conv => lhs; rw [hk]
    rw [overF, if_pos h]
  rw [h1]
  exact overF_fuel b hb _ _ _ _ (by omega) (Nat.le_refl _)

theorem overF_end (b q a : Nat) (h : ¬ L b ≤ L a) : overF b (L a) q a = (q, a) := by
  cases hk : L a with
  | zero => rfl
  | succ k => rw [overF, if_neg h]

def over (a b : Nat) : Nat × Nat := overF b (L a) 0 a
def qt (a b : Nat) : Nat := (over a b).1
def md (a b : Nat) : Nat := (over a b).2

theorem or_pow (q s : Nat) (h : 2 ^ (s + 1) ∣ q) : q ||| 2 ^ s = q ^^^ 2 ^ s := by
  obtain ⟨k, rfl⟩ := h
  apply Nat.eq_of_testBit_eq
  intro i
  rw [Nat.testBit_or, Nat.testBit_xor, Nat.testBit_two_pow]
  by_cases hi : s = i
  · subst hi
    have : (2 ^ (s + 1) * k).testBit s = false := by rw [Nat.testBit_two_pow_mul, decide_eq_false (by omega)]; rfl
    simp [this]
  · simp [hi]

theorem dvd_xor_pow (q s t : Nat) (h : 2 ^ (s + 1) ∣ q) (ht : t ≤ s) : 2 ^ t ∣ (q ^^^ 2 ^ s) := by
  obtain ⟨k, rfl⟩ := h
  have : 2 ^ (s + 1) * k ^^^ 2 ^ s = 2 ^ s * ((2 * k) ^^^ 1) := by
    rw [pow_xor, Nat.mul_one, Nat.pow_succ, Nat.mul_assoc]
  rw [this]
  exact Nat.dvd_trans (Nat.pow_dvd_pow 2 ht) ⟨_, rfl⟩

/-- One step of a division lowers what is left. -/
theorem step_L {a b : Nat} (hb : b ≠ 0) (h : L b ≤ L a) : L (a ^^^ 2 ^ (L a - L b) * b) < L a := by
  have hp := L_pos.2 hb
  have e : L (2 ^ (L a - L b) * b) = L a := by rw [L_pow_mul _ _ hb]; omega
  exact L_xor_same e.symm (L_pos.1 (by omega))

theorem overF_spec (b : Nat) (hb : b ≠ 0) : ∀ f q a, L a ≤ f → (L b ≤ L a → 2 ^ (L a - L b + 1) ∣ q) →
    mul (overF b f q a).1 b ^^^ (overF b f q a).2 = mul q b ^^^ a ∧ L (overF b f q a).2 < L b := by
  have hp := L_pos.2 hb
  intro f
  induction f with
  | zero => intro q a h _; exact ⟨rfl, by show L a < L b; omega⟩
  | succ f ih =>
    intro q a h hq
    rw [overF]
    by_cases hc : L b ≤ L a
    · rw [if_pos hc]
      have hs := step_L hb hc
      have hd := hq hc
      have := ih (q ||| 2 ^ (L a - L b)) (a ^^^ 2 ^ (L a - L b) * b) (by omega) (by
        intro hc'
        rw [or_pow _ _ hd]
        exact dvd_xor_pow _ _ _ hd (by omega))
      refine ⟨this.1.trans ?_, this.2⟩
      rw [or_pow _ _ hd, xor_mul, pow_mul]
      generalize 2 ^ (L a - L b) * b = z
      rw [Nat.xor_assoc, Nat.xor_comm a z, xor_cancel]
    · rw [if_neg hc]
      exact ⟨rfl, by show L a < L b; omega⟩

theorem over_spec (a b : Nat) (hb : b ≠ 0) : mul (qt a b) b ^^^ md a b = a ∧ L (md a b) < L b := by
  have := overF_spec b hb (L a) 0 a (Nat.le_refl _) (fun _ => ⟨0, rfl⟩)
  rw [zero_mul, Nat.zero_xor] at this
  exact this

theorem L_md (a : Nat) {b : Nat} (hb : b ≠ 0) : L (md a b) < L b := (over_spec a b hb).2
theorem qt_md (a : Nat) {b : Nat} (hb : b ≠ 0) : mul (qt a b) b ^^^ md a b = a := (over_spec a b hb).1

theorem over_unique {a b q r : Nat} (hb : b ≠ 0) (h : mul q b ^^^ r = a) (hr : L r < L b) : q = qt a b ∧ r = md a b := by
  have h1 := qt_md a hb
  have h2 := L_md a hb
  have h3 : mul (q ^^^ qt a b) b = r ^^^ md a b := by
    rw [xor_mul]
    have : mul q b ^^^ r = mul (qt a b) b ^^^ md a b := by rw [h, h1]
    have h4 : (mul q b ^^^ r) ^^^ (mul (qt a b) b ^^^ r) = (mul (qt a b) b ^^^ md a b) ^^^ (mul (qt a b) b ^^^ r) := by rw [this]
    rw [xor4 (mul q b), Nat.xor_self, Nat.xor_zero, xor4 (mul (qt a b) b), Nat.xor_self, Nat.zero_xor, Nat.xor_comm (md a b)] at h4
    exact h4
  have h5 : r ^^^ md a b = 0 := D_small ⟨_, h3.symm⟩ (by have := L_xor_le r (md a b); omega)
  rw [h5] at h3
  refine ⟨?_, xor_eq_zero h5⟩
  rcases mul_eq_zero.1 h3 with h6 | h6
  · exact xor_eq_zero h6
  · exact absurd h6 hb

theorem md_C (a : Nat) {m : Nat} (hm : m ≠ 0) : D m (a ^^^ md a m) := by
  refine ⟨qt a m, ?_⟩
  have := qt_md a hm
  have h := congrArg (· ^^^ md a m) this
  simp only [xor_cancel'] at h
  exact h.symm

theorem md_unique {a m r : Nat} (hm : m ≠ 0) (h : D m (a ^^^ r)) (hr : L r < L m) : md a m = r := by
  obtain ⟨k, hk⟩ := h
  refine ((over_unique (q := k) hm ?_ hr).2).symm
  rw [← hk, xor_cancel']

theorem md_eq_iff {a b m : Nat} (hm : m ≠ 0) : md a m = md b m ↔ D m (a ^^^ b) := by
  constructor
  · intro h
    have h1 := md_C a hm; have h2 := md_C b hm
    rw [← h] at h2
    exact C_trans h1 (C_comm h2)
  · intro h
    exact md_unique hm (C_trans h (md_C b hm)) (L_md b hm)

theorem md_small {a m : Nat} (h : L a < L m) : md a m = a :=
  md_unique (L_pos.1 (by omega)) (C_refl m a) h

theorem md_md (a : Nat) {m : Nat} (hm : m ≠ 0) : md (md a m) m = md a m := md_small (L_md a hm)

theorem md_zero (m : Nat) : md 0 m = 0 := by
  by_cases hm : m = 0
  · subst hm; rfl
  · exact md_small (by rw [L_zero]; exact L_pos.2 hm)

theorem md_eq_zero {a m : Nat} (hm : m ≠ 0) : md a m = 0 ↔ D m a := by
  have := @md_eq_iff a 0 m hm
  rw [md_zero, Nat.xor_zero] at this
  exact this

theorem md_xor (a b : Nat) {m : Nat} (hm : m ≠ 0) : md (a ^^^ b) m = md a m ^^^ md b m :=
  md_unique hm (C_xor (md_C a hm) (md_C b hm)) (by have := L_xor_le (md a m) (md b m); have := L_md a hm; have := L_md b hm; omega)

theorem md_mul_left (a b : Nat) {m : Nat} (hm : m ≠ 0) : md (mul (md a m) b) m = md (mul a b) m :=
  (md_eq_iff hm).2 (C_mul (C_comm (md_C a hm)) (C_refl m b))

theorem md_mul_right (a b : Nat) {m : Nat} (hm : m ≠ 0) : md (mul a (md b m)) m = md (mul a b) m := by
  rw [mul_comm, md_mul_left _ _ hm, mul_comm]

theorem md_mul_both (a b : Nat) {m : Nat} (hm : m ≠ 0) : md (mul (md a m) (md b m)) m = md (mul a b) m := by
  rw [md_mul_left _ _ hm, md_mul_right _ _ hm]

/-- A rest by a multiple tells the rest by a part. -/
theorem md_of_D {a m n : Nat} (hm : m ≠ 0) (hn : n ≠ 0) (h : D m n) : md (md a n) m = md a m :=
  (md_eq_iff hm).2 (C_comm (D_trans h (md_C a hn)))

theorem qt_eq {a b q r : Nat} (hb : b ≠ 0) (h : mul q b ^^^ r = a) (hr : L r < L b) : qt a b = q := (over_unique hb h hr).1.symm

def gcdF : Nat → Nat → Nat → Nat
  | 0, a, _ => a
  | f + 1, a, b => if b = 0 then a else gcdF f b (md a b)

/-- Euclid's greatest common divisor. -/
def gcd (a b : Nat) : Nat := gcdF (L b) a b

theorem gcdF_fuel : ∀ f g a b, L b ≤ f → L b ≤ g → gcdF f a b = gcdF g a b := by
  intro f
  induction f with
  | zero => intro g a b h _
            obtain rfl : b = 0 := L_eq_zero.1 (by omega)
            cases g <;> simp [gcdF]
  | succ f ih =>
    intro g a b h h'
    by_cases hb : b = 0
    · subst hb; cases g <;> simp [gcdF]
    · cases g with
      | zero => exact absurd (L_eq_zero.1 (by omega)) hb
      | succ g =>
        have := L_md a hb
        rw [gcdF, gcdF, if_neg hb, if_neg hb, ih g b (md a b) (by omega) (by omega)]

theorem gcd_zero (a : Nat) : gcd a 0 = a := rfl

theorem gcd_step (a : Nat) {b : Nat} (hb : b ≠ 0) : gcd a b = gcd b (md a b) := by
  unfold gcd
  obtain ⟨k, hk⟩ : ∃ k, L b = k + 1 := ⟨L b - 1, by have := L_pos.2 hb; omega⟩
  have := L_md a hb
  rw [hk, gcdF, if_neg hb]
  exact gcdF_fuel _ _ _ _ (by omega) (Nat.le_refl _)

theorem gcd_ind {P : Nat → Nat → Prop} (h0 : ∀ a, P a 0) (h1 : ∀ a b, b ≠ 0 → P b (md a b) → P a b) : ∀ a b, P a b := by
  have : ∀ n a b, L b ≤ n → P a b := by
    intro n
    induction n with
    | zero => intro a b h
              obtain rfl : b = 0 := L_eq_zero.1 (by omega)
              exact h0 a
    | succ n ih =>
      intro a b h
      by_cases hb : b = 0
      · subst hb; exact h0 a
      · have := L_md a hb
        exact h1 a b hb (ih _ _ (by omega))
  exact fun a b => this _ a b (Nat.le_refl _)

theorem gcd_D : ∀ a b, D (gcd a b) a ∧ D (gcd a b) b := by
  refine gcd_ind (fun a => ⟨D_refl a, D_zero a⟩) ?_
  intro a b hb ⟨h1, h2⟩
  rw [gcd_step a hb]
  exact ⟨D_of_xor (D_trans h1 (md_C a hb)) h2, h1⟩

theorem gcd_bez : ∀ a b, ∃ u v, gcd a b = mul u a ^^^ mul v b := by
  refine gcd_ind (fun a => ⟨1, 0, by rw [gcd_zero, one_mul, mul_zero, Nat.xor_zero]⟩) ?_
  intro a b hb ⟨u, v, h⟩
  rw [gcd_step a hb, h]
  have hm : md a b = a ^^^ mul (qt a b) b := by
    have := qt_md a hb
    have h := congrArg (mul (qt a b) b ^^^ ·) this
    simp only [xor_cancel] at h
    rw [h, Nat.xor_comm]
  refine ⟨v, u ^^^ mul v (qt a b), ?_⟩
  rw [hm, mul_xor, xor_mul, mul_assoc]
  generalize mul u b = x; generalize mul v a = y; generalize mul v (mul (qt a b) b) = z
  ac_rfl

theorem gcd_greatest {d a b : Nat} (ha : D d a) (hb : D d b) : D d (gcd a b) := by
  obtain ⟨u, v, h⟩ := gcd_bez a b
  rw [h]; exact D_xor (D_mul u ha) (D_mul v hb)

theorem gcd_comm (a b : Nat) : gcd a b = gcd b a :=
  D_antisymm (gcd_greatest (gcd_D a b).2 (gcd_D a b).1) (gcd_greatest (gcd_D b a).2 (gcd_D b a).1)

theorem gcd_mul (a b c : Nat) : gcd (mul a c) (mul b c) = mul (gcd a b) c := by
  apply D_antisymm
  · obtain ⟨u, v, h⟩ := gcd_bez a b
    rw [h, xor_mul, mul_assoc, mul_assoc]
    exact D_xor (D_mul u (gcd_D _ _).1) (D_mul v (gcd_D _ _).2)
  · obtain ⟨x, hx⟩ := (gcd_D a b).1
    obtain ⟨y, hy⟩ := (gcd_D a b).2
    refine gcd_greatest ⟨x, ?_⟩ ⟨y, ?_⟩
    · rw [← mul_assoc, ← hx]
    · rw [← mul_assoc, ← hy]

theorem gcd_L {a b k : Nat} (ha : L a ≤ k) (hb : L b ≤ k) : L (gcd a b) ≤ k := by
  by_cases h0 : a = 0
  · by_cases h1 : b = 0
    · subst h0; subst h1; rw [gcd_zero, L_zero]; omega
    · have := D_L (gcd_D a b).2 h1; omega
  · have := D_L (gcd_D a b).1 h0; omega

theorem gcd_eq_zero {a b : Nat} (h : gcd a b = 0) : a = 0 ∧ b = 0 := by
  have := gcd_D a b
  rw [h] at this
  exact ⟨zero_D this.1, zero_D this.2⟩

end Go.Proofs.Ytnbdceigenndfaa.G

/- Polynomials over two numbers: irreducible ones, powers, Fermat's law, how many roots there may be, Rabin's test. No program in sight. -/
namespace Go.Proofs.Ytnbdceigenndfaa.G

/-- Irreducible: not constant, and no product of two that are not 1. -/
def Irr (p : Nat) : Prop := 2 ≤ p ∧ ∀ a b, p = mul a b → a = 1 ∨ b = 1

theorem Irr.ne_zero {p : Nat} (h : Irr p) : p ≠ 0 := by have := h.1; omega
theorem Irr.L {p : Nat} (h : Irr p) : 2 ≤ G.L p := by
  have : G.L 2 ≤ G.L p := L_mono h.1
  rwa [L_two] at this

theorem Irr.one {p : Nat} (h : Irr p) : ¬ D p 1 := by
  intro hd
  have := D_L hd (by omega); have := h.L; rw [L_one] at *; omega

theorem Irr.D_or {p d : Nat} (h : Irr p) (hd : D d p) : d = 1 ∨ d = p := by
  obtain ⟨k, hk⟩ := hd
  rcases h.2 k d hk with h1 | h1
  · right; rw [hk, h1, one_mul]
  · exact Or.inl h1

theorem Irr.bez {p a : Nat} (h : Irr p) (ha : ¬ D p a) : ∃ u v, mul u p ^^^ mul v a = 1 := by
  obtain ⟨u, v, huv⟩ := gcd_bez p a
  have hg := gcd_D p a
  rcases h.D_or hg.1 with h1 | h1
  · exact ⟨u, v, by rw [← huv, h1]⟩
  · exact absurd (by rw [← h1]; exact hg.2) ha

/-- Euclid's lemma. -/
theorem Irr.euclid {p a b : Nat} (h : Irr p) (hd : D p (mul a b)) : D p a ∨ D p b := by
  by_cases ha : D p a
  · exact Or.inl ha
  · obtain ⟨u, v, huv⟩ := h.bez ha
    right
    have e : b = mul (mul u b) p ^^^ mul v (mul a b) := by
      rw [mul_assoc u b p, mul_comm b p, ← mul_assoc u p b, ← mul_assoc v a b, ← xor_mul, huv, one_mul]
    rw [e]
    exact D_xor (D_mul _ (D_refl p)) (D_mul _ hd)

/-- A divisor that is not 1 and not the whole is less. -/
theorem D_le {d a : Nat} (h : D d a) (ha : a ≠ 0) (hne : d ≠ a) : d < a := by
  obtain ⟨k, rfl⟩ := h
  have hk : k ≠ 0 := by rintro rfl; exact ha (zero_mul d)
  have hd : d ≠ 0 := by rintro rfl; exact ha (mul_zero k)
  have hk1 : k ≠ 1 := by rintro rfl; exact hne (one_mul d).symm
  have h1 := L_mul k d hk hd
  have h2 : L 2 ≤ L k := L_mono (by omega)
  rw [L_two] at h2
  exact L_lt (by omega)

theorem irr_divisor : ∀ m, 2 ≤ m → ∃ p, Irr p ∧ D p m := by
  intro m
  induction m using Nat.strongRecOn with
  | _ m ih =>
    intro hm
    by_cases hp : Irr m
    · exact ⟨m, hp, D_refl m⟩
    · have : ∃ a b, m = mul a b ∧ a ≠ 1 ∧ b ≠ 1 := by
        apply Classical.byContradiction
        intro hno
        refine hp ⟨hm, fun a b hab => ?_⟩
        by_cases h1 : a = 1
        · exact Or.inl h1
        · by_cases h2 : b = 1
          · exact Or.inr h2
          · exact absurd ⟨a, b, hab, h1, h2⟩ hno
      obtain ⟨a, b, hab, ha, hb⟩ := this
      have hb0 : b ≠ 0 := by rintro rfl; rw [mul_zero] at hab; omega
      have hdb : D b m := ⟨a, hab⟩
      have hne : b ≠ m := by
        intro e
        apply ha
        refine mul_cancel_right hb0 ?_
        rw [← hab, one_mul, e]
      have := D_le hdb (by omega) hne
      obtain ⟨p, h1, h2⟩ := ih b this (by omega)
      exact ⟨p, h1, D_trans h2 hdb⟩

/-- Powers. -/
def pw (a : Nat) : Nat → Nat
  | 0 => 1
  | n + 1 => mul (pw a n) a

theorem pw_add (a i j : Nat) : pw a (i + j) = mul (pw a i) (pw a j) := by
  induction j with
  | zero => rw [Nat.add_zero]; show _ = mul _ 1; rw [mul_one]
  | succ j ih => rw [← Nat.add_assoc]; show mul (pw a (i + j)) a = mul _ (mul (pw a j) a); rw [ih, mul_assoc]

theorem pw_one (a : Nat) : pw a 1 = a := one_mul a

theorem pw_mul (a i j : Nat) : pw a (i * j) = pw (pw a i) j := by
  induction j with
  | zero => rfl
  | succ j ih => rw [Nat.mul_succ, pw_add, ih]; rfl

theorem pw_prod (a b n : Nat) : pw (mul a b) n = mul (pw a n) (pw b n) := by
  induction n with
  | zero => exact (mul_one 1).symm
  | succ n ih =>
    show mul (pw (mul a b) n) (mul a b) = mul (mul (pw a n) a) (mul (pw b n) b)
    rw [ih, mul_assoc, mul_assoc, mul_left_comm (pw b n)]

theorem one_pw (n : Nat) : pw 1 n = 1 := by
  induction n with
  | zero => rfl
  | succ n ih => show mul (pw 1 n) 1 = 1; rw [ih, mul_one]

theorem pw_two (a : Nat) : pw a 2 = mul a a := by show mul (mul 1 a) a = _; rw [one_mul]

theorem C_pw {m a b : Nat} (n : Nat) (h : D m (a ^^^ b)) : D m (pw a n ^^^ pw b n) := by
  induction n with
  | zero => exact C_refl m 1
  | succ n ih => exact C_mul ih h

/-- Frobenius: powers of two are additive. -/
theorem frob (a b k : Nat) : pw (a ^^^ b) (2 ^ k) = pw a (2 ^ k) ^^^ pw b (2 ^ k) := by
  induction k with
  | zero => rw [Nat.pow_zero, pw_one, pw_one, pw_one]
  | succ k ih => rw [Nat.pow_succ, pw_mul, ih, pw_two, sq_xor, pw_mul a, pw_mul b, pw_two, pw_two]

theorem zero_pw {n : Nat} (h : n ≠ 0) : pw 0 n = 0 := by
  obtain ⟨k, rfl⟩ : ∃ k, n = k + 1 := ⟨n - 1, by omega⟩
  exact mul_zero _

theorem Irr.pw {p a : Nat} (h : Irr p) (n : Nat) (hd : D p (pw a n)) : D p a := by
  induction n with
  | zero => exact absurd hd h.one
  | succ n ih => rcases h.euclid hd with h1 | h1
                 · exact ih h1
                 · exact h1

/-- What holds of x by Frobenius holds of all. -/
theorem all_of_x {m k : Nat} (h : D m (pw 2 (2 ^ k) ^^^ 2)) (a : Nat) : D m (pw a (2 ^ k) ^^^ a) := by
  induction a using halves with
  | h0 => rw [zero_pw (Nat.ne_of_gt (Nat.two_pow_pos k))]; exact C_refl m 0
  | h a _ ih =>
    have e : a = pick a 1 ^^^ mul 2 (a / 2) := by
      rw [mul_comm, show mul (a / 2) 2 = 2 * (a / 2) from by
        have := mul_two (a / 2) 1; rw [Nat.mul_one, mul_one] at this; exact this]
      exact split_bit a
    have e1 : pw (pick a 1) (2 ^ k) = pick a 1 := by
      unfold pick; split
      · exact one_pw _
      · exact zero_pw (Nat.ne_of_gt (Nat.two_pow_pos k))
    have : D m (pw (pick a 1 ^^^ mul 2 (a / 2)) (2 ^ k) ^^^ (pick a 1 ^^^ mul 2 (a / 2))) := by
      rw [frob, e1, pw_prod]
      exact C_xor (C_refl m _) (C_mul h ih)
    rwa [← e] at this

/-- A product of a list. -/
def prod : List Nat → Nat
  | [] => 1
  | a :: l => mul a (prod l)

theorem prod_perm {l l' : List Nat} (h : l.Perm l') : prod l = prod l' := by
  induction h with
  | nil => rfl
  | cons x _ ih => show mul x _ = mul x _; rw [ih]
  | swap x y l => show mul y (mul x _) = mul x (mul y _); exact mul_left_comm _ _ _
  | trans _ _ h1 h2 => exact h1.trans h2

theorem prod_append (l l' : List Nat) : prod (l ++ l') = mul (prod l) (prod l') := by
  induction l with
  | nil => exact (one_mul _).symm
  | cons a l ih => show mul a (prod (l ++ l')) = mul (mul a (prod l)) _; rw [ih, mul_assoc]

theorem prod_map {p : Nat} (hp : p ≠ 0) (a : Nat) (l : List Nat) : D p (prod (l.map fun x => md (mul a x) p) ^^^ mul (pw a l.length) (prod l)) := by
  induction l with
  | nil => show D p (1 ^^^ mul 1 1); rw [mul_one]; exact C_refl p 1
  | cons x l ih =>
    show D p (mul (md (mul a x) p) (prod (l.map _)) ^^^ mul (mul (pw a l.length) a) (mul x (prod l)))
    have e : mul (mul (pw a l.length) a) (mul x (prod l)) = mul (mul a x) (mul (pw a l.length) (prod l)) := by
      rw [mul_assoc, ← mul_assoc a x, mul_left_comm]
    rw [e]
    exact C_mul (C_comm (md_C _ hp)) ih

theorem Irr.prod {p : Nat} (h : Irr p) : ∀ l : List Nat, D p (prod l) → ∃ a, a ∈ l ∧ D p a := by
  intro l
  induction l with
  | nil => intro hd; exact absurd hd h.one
  | cons a l ih =>
    intro hd
    rcases h.euclid hd with h1 | h1
    · exact ⟨a, List.mem_cons_self, h1⟩
    · obtain ⟨b, hb, h2⟩ := ih h1
      exact ⟨b, List.mem_cons_of_mem _ hb, h2⟩

/-- A map of a list into itself that parts all is a turn of the list. -/
theorem map_perm {l : List Nat} (hn : l.Nodup) {f : Nat → Nat} (hin : ∀ x, x ∈ l → f x ∈ l) (hinj : ∀ x y, x ∈ l → y ∈ l → f x = f y → x = y) : (l.map f).Perm l := by
  have hn' : (l.map f).Nodup := by
    rw [List.Nodup, List.pairwise_map]
    refine List.Pairwise.imp_of_mem (R := (· ≠ ·)) ?_ hn
    intro a b ha hb hab h
    exact hab (hinj a b ha hb h)
  rw [List.perm_ext_iff_of_nodup hn' hn]
  have hsub : l.map f ⊆ l := by
    intro y hy
    obtain ⟨x, hx, rfl⟩ := List.mem_map.1 hy
    exact hin x hx
  intro a
  refine ⟨fun h => hsub h, fun ha => ?_⟩
  apply Classical.byContradiction
  intro hno
  have h1 : (a :: l.map f).Nodup := List.nodup_cons.2 ⟨hno, hn'⟩
  have h2 : (a :: l.map f) ⊆ l := by
    intro y hy
    rcases List.mem_cons.1 hy with rfl | hy
    · exact ha
    · exact hsub hy
  have := List.Nodup.length_le_of_subset h1 h2
  simp at this; omega

/-- Fermat and Galois: modulo an irreducible one of degree n. -/
theorem Irr.fermat1 {p n : Nat} (h : Irr p) (hn : G.L p = n + 1) (a : Nat) (ha : ¬ D p a) : D p (G.pw a (2 ^ n - 1) ^^^ 1) := by
  have hp := h.ne_zero
  have hlt : ∀ x, 1 ≤ x ∧ x < 2 ^ n → ¬ D p x := by
    intro x hx hd
    have := D_small hd (by have := (@L_le x n).2 hx.2; omega)
    omega
  have hlen : (List.range' 1 (2 ^ n - 1)).length = 2 ^ n - 1 := List.length_range'
  have hpos := Nat.two_pow_pos n
  have hmem : ∀ x, x ∈ List.range' 1 (2 ^ n - 1) ↔ 1 ≤ x ∧ x < 2 ^ n := by
    intro x; rw [List.mem_range'_1]; omega
  have hperm := map_perm (l := List.range' 1 (2 ^ n - 1)) (f := fun x => md (mul a x) p) List.nodup_range' (by
      intro x hx
      rw [hmem] at hx ⊢
      have h1 : md (mul a x) p ≠ 0 := by
        intro h0
        rcases h.euclid ((md_eq_zero hp).1 h0) with h2 | h2
        · exact ha h2
        · exact hlt x hx h2
      exact ⟨by omega, L_le.1 (by have := L_md (mul a x) hp; omega)⟩) (by
      intro x y hx hy hxy
      rw [hmem] at hx hy
      have h1 := (md_eq_iff hp).1 hxy
      rw [← mul_xor] at h1
      rcases h.euclid h1 with h2 | h2
      · exact absurd h2 ha
      · exact xor_eq_zero (D_small h2 (by have := L_xor_le x y; have := (@L_le x n).2 hx.2; have := (@L_le y n).2 hy.2; omega)))
  have h1 := prod_map hp a (List.range' 1 (2 ^ n - 1))
  rw [prod_perm hperm, hlen] at h1
  have h2 : D p (mul (1 ^^^ G.pw a (2 ^ n - 1)) (G.prod (List.range' 1 (2 ^ n - 1)))) := by
    rw [xor_mul, one_mul]; exact h1
  rcases h.euclid h2 with h3 | h3
  · exact C_comm h3
  · obtain ⟨x, hx, h4⟩ := h.prod _ h3
    exact absurd h4 (hlt x ((hmem x).1 hx))

theorem Irr.fermat {p n : Nat} (h : Irr p) (hn : G.L p = n + 1) (a : Nat) : D p (G.pw a (2 ^ n) ^^^ a) := by
  have hpos := Nat.two_pow_pos n
  have e : G.pw a (2 ^ n) = mul (G.pw a (2 ^ n - 1)) a := by
    have : 2 ^ n = (2 ^ n - 1) + 1 := by omega
    rw [this]; rfl
  rw [e]
  by_cases ha : D p a
  · exact D_xor (D_mul _ ha) ha
  · have := C_mul (h.fermat1 hn a ha) (C_refl p a)
    rwa [one_mul] at this

/-- A polynomial over polynomials whose highest number is 1: the lower ones, the lowest first; its value. -/
def ev : List Nat → Nat → Nat
  | [], _ => 1
  | c :: cs, y => c ^^^ mul y (ev cs y)

def quo : List Nat → Nat → List Nat
  | [], _ => []
  | [_], _ => []
  | _ :: b :: bs, c => ev (b :: bs) c :: quo (b :: bs) c

theorem quo_length (a : Nat) (as : List Nat) (c : Nat) : (quo (a :: as) c).length = as.length := by
  induction as generalizing a with
  | nil => rfl
  | cons b bs ih => show (quo (b :: bs) c).length + 1 = _; rw [ih]; rfl

theorem ev_quo (a : Nat) (as : List Nat) (c y : Nat) : ev (a :: as) y ^^^ ev (a :: as) c = mul (y ^^^ c) (ev (quo (a :: as) c) y) := by
  induction as generalizing a with
  | nil =>
    show (a ^^^ mul y 1) ^^^ (a ^^^ mul c 1) = mul (y ^^^ c) 1
    rw [xor4, Nat.xor_self, Nat.zero_xor, mul_one, mul_one, mul_one]
  | cons b bs ih =>
    have ih' := ih b
    show (a ^^^ mul y (ev (b :: bs) y)) ^^^ (a ^^^ mul c (ev (b :: bs) c)) = mul (y ^^^ c) (ev (b :: bs) c ^^^ mul y (ev (quo (b :: bs) c) y))
    rw [xor4, Nat.xor_self, Nat.zero_xor, mul_xor, mul_left_comm, ← ih', xor_mul, mul_xor]
    generalize mul y (ev (b :: bs) y) = s; generalize mul c (ev (b :: bs) c) = t; generalize mul y (ev (b :: bs) c) = u
    rw [show (u ^^^ t) ^^^ (s ^^^ u) = (u ^^^ u) ^^^ (s ^^^ t) from by ac_rfl, Nat.xor_self, Nat.zero_xor]

/-- No more roots, modulo an irreducible one, than the degree. -/
theorem Irr.roots {p : Nat} (h : Irr p) : ∀ (cs rs : List Nat), rs.Pairwise (fun x y => ¬ D p (x ^^^ y)) → (∀ r, r ∈ rs → D p (ev cs r)) → rs.length ≤ cs.length := by
  intro cs
  generalize hn : cs.length = n
  induction n generalizing cs with
  | zero =>
    intro rs _ hr
    obtain rfl := List.length_eq_zero_iff.1 hn
    cases rs with
    | nil => simp
    | cons r rs => exact absurd (hr r List.mem_cons_self) h.one
  | succ n ih =>
    intro rs hpw hr
    cases rs with
    | nil => simp
    | cons r rs =>
      cases cs with
      | nil => simp at hn
      | cons a as =>
        have h1 := List.pairwise_cons.1 hpw
        have := ih (quo (a :: as) r) (by rw [quo_length]; simpa using hn) rs h1.2 (by
          intro r' hr'
          have e := ev_quo a as r r'
          have hd : D p (ev (a :: as) r' ^^^ ev (a :: as) r) := D_xor (hr r' (List.mem_cons_of_mem _ hr')) (hr r List.mem_cons_self)
          rw [e] at hd
          rcases h.euclid hd with h2 | h2
          · exact absurd (C_comm h2) (h1.1 r' hr')
          · exact h2)
        simp; omega

theorem ev_zeros (k y : Nat) : ev (List.replicate k 0) y = pw y k := by
  induction k with
  | zero => rfl
  | succ k ih => rw [List.replicate_succ]; show 0 ^^^ mul y (ev _ y) = mul (pw y k) y; rw [ih, Nat.zero_xor, mul_comm]

/-- If all rests have a 2-to-the-k-th power that is themselves, the degree is at most k. -/
theorem Irr.few {p d k : Nat} (h : Irr p) (hd : G.L p = d + 1) (hk : 1 ≤ k) (hall : ∀ a, D p (G.pw a (2 ^ k) ^^^ a)) : d ≤ k := by
  have h2 : 2 ≤ 2 ^ k := by
    have := Nat.pow_le_pow_right (show 0 < 2 by omega) hk
    simpa using this
  have hr := h.roots (0 :: 1 :: List.replicate (2 ^ k - 2) 0) (List.range (2 ^ d)) (by
    refine List.Pairwise.imp_of_mem (R := (· < ·)) ?_ List.pairwise_lt_range
    intro x y hx hy hxy hD
    rw [List.mem_range] at hx hy
    have := xor_eq_zero (D_small hD (by have := L_xor_le x y; have := (@L_le x d).2 hx; have := (@L_le y d).2 hy; omega))
    omega) (by
    intro r _
    have := hall r
    have e : ev (0 :: 1 :: List.replicate (2 ^ k - 2) 0) r = G.pw r (2 ^ k) ^^^ r := by
      show 0 ^^^ mul r (1 ^^^ mul r (ev _ r)) = _
      rw [ev_zeros, Nat.zero_xor, mul_xor, mul_one, Nat.xor_comm]
      congr 1
      have : 2 ^ k = (2 ^ k - 2) + 1 + 1 := by omega
      rw [this]
      show _ = mul (mul _ r) r
      rw [mul_comm (mul _ r), mul_comm _ r]
      rfl
    rw [e]; exact this)
  simp only [List.length_range, List.length_cons, List.length_replicate] at hr
  apply Classical.byContradiction
  intro hlt
  have : 2 ^ k < 2 ^ d := Nat.pow_lt_pow_right (by omega) (by omega)
  omega

theorem pw_iter {m d : Nat} (h : ∀ a, D m (pw a (2 ^ d) ^^^ a)) (q : Nat) (a : Nat) : D m (pw a (2 ^ (d * q)) ^^^ a) := by
  induction q with
  | zero => rw [Nat.mul_zero, Nat.pow_zero, pw_one]; exact C_refl m a
  | succ q ih =>
    rw [Nat.mul_succ, Nat.pow_add, pw_mul]
    exact C_trans (h _) ih

/-- Where x is its own 2-to-the-n-th power modulo an irreducible one of degree d, d divides n. -/
theorem Irr.deg_dvd {p d n : Nat} (h : Irr p) (hd : G.L p = d + 1) (hx : D p (G.pw 2 (2 ^ n) ^^^ 2)) : d ∣ n := by
  have hd1 : 1 ≤ d := by have := h.L; omega
  have hr : n % d < d := Nat.mod_lt _ (by omega)
  have hall : ∀ a, D p (G.pw a (2 ^ (n % d)) ^^^ a) := by
    intro a
    have h1 := all_of_x hx a
    have h2 := pw_iter (h.fermat hd) (n / d)
    have e : n = d * (n / d) + n % d := (Nat.div_add_mod n d).symm
    have h3 : D p (G.pw a (2 ^ n) ^^^ G.pw a (2 ^ (n % d))) := by
      have : G.pw a (2 ^ n) = G.pw (G.pw a (2 ^ (d * (n / d)))) (2 ^ (n % d)) := by
        rw [← pw_mul, ← Nat.pow_add, ← e]
      rw [this]
      exact C_pw _ (h2 a)
    exact C_trans (C_comm h3) h1
  by_cases h0 : n % d = 0
  · exact Nat.dvd_of_mod_eq_zero h0
  · have := h.few hd (by omega) hall
    omega

/-- A number with just two divisors. -/
def Pr (q : Nat) : Prop := 2 ≤ q ∧ ∀ k, k ∣ q → k = 1 ∨ k = q

theorem pr_divisor : ∀ n, 2 ≤ n → ∃ q, Pr q ∧ q ∣ n := by
  intro n
  induction n using Nat.strongRecOn with
  | _ n ih =>
    intro hn
    by_cases hp : Pr n
    · exact ⟨n, hp, Nat.dvd_refl n⟩
    · have : ∃ k, k ∣ n ∧ k ≠ 1 ∧ k ≠ n := by
        apply Classical.byContradiction
        intro hno
        refine hp ⟨hn, fun k hk => ?_⟩
        by_cases h1 : k = 1
        · exact Or.inl h1
        · by_cases h2 : k = n
          · exact Or.inr h2
          · exact absurd ⟨k, hk, h1, h2⟩ hno
      obtain ⟨k, hk, h1, h2⟩ := this
      have hle := Nat.le_of_dvd (by omega) hk
      have h0 : k ≠ 0 := by rintro rfl; have := Nat.eq_zero_of_zero_dvd hk; omega
      obtain ⟨q, hq, hqk⟩ := ih k (by omega) (by omega)
      exact ⟨q, hq, Nat.dvd_trans hqk hk⟩

/-- Rabin's test is right. -/
theorem rabin {m n : Nat} (hm : G.L m = n + 1) (hn : 1 ≤ n) :
    Irr m ↔ (D m (pw 2 (2 ^ n) ^^^ 2) ∧ ∀ q, Pr q → q ∣ n → gcd (md (pw 2 (2 ^ (n / q))) m ^^^ md 2 m) m = 1) := by
  have hm0 : m ≠ 0 := L_pos.1 (by omega)
  constructor
  · intro h
    refine ⟨h.fermat hm 2, fun q hq hqn => ?_⟩
    rcases h.D_or (gcd_D (md (pw 2 (2 ^ (n / q))) m ^^^ md 2 m) m).2 with h1 | h1
    · exact h1
    · exfalso
      have h2 := (gcd_D (md (pw 2 (2 ^ (n / q))) m ^^^ md 2 m) m).1
      rw [h1] at h2
      have h3 : D m (pw 2 (2 ^ (n / q)) ^^^ 2) := by
        rw [← md_xor _ _ hm0] at h2
        exact D_of_xor (md_C _ hm0) h2
      have hdv := h.deg_dvd hm h3
      have hq2 := hq.1
      have hle : n / q < n := Nat.div_lt_self (by omega) (by omega)
      have hpos : 0 < n / q := Nat.div_pos (Nat.le_of_dvd (by omega) hqn) (by omega)
      have := Nat.le_of_dvd hpos hdv
      omega
  · rintro ⟨hx, hg⟩
    have hm2 : 2 ≤ m := by
      have : 2 ^ 1 ≤ m := le_of_L.1 (by omega)
      simpa using this
    obtain ⟨p, hp, hpm⟩ := irr_divisor m hm2
    obtain ⟨d, hd⟩ : ∃ d, G.L p = d + 1 := ⟨G.L p - 1, by have := hp.L; omega⟩
    have hdn := hp.deg_dvd hd (D_trans hpm hx)
    have hd1 : 1 ≤ d := by have := hp.L; omega
    by_cases hdn' : d = n
    · obtain ⟨k, hk⟩ := hpm
      have hk0 : k ≠ 0 := by rintro rfl; rw [zero_mul] at hk; omega
      have h1 := L_mul k p hk0 hp.ne_zero
      rw [← hk, hm, hd] at h1
      have h2 : k < 2 ^ 1 := L_le.1 (by omega)
      have : k = 1 := by omega
      rw [this, one_mul] at hk
      rw [hk]; exact hp
    · exfalso
      obtain ⟨c, hc⟩ := hdn
      have hc2 : 2 ≤ c := by
        rcases Nat.lt_or_ge c 2 with h' | h'
        · have : c = 0 ∨ c = 1 := by omega
          rcases this with rfl | rfl
          · rw [Nat.mul_zero] at hc; omega
          · rw [Nat.mul_one] at hc; omega
        · exact h'
      obtain ⟨q, hq, hqc⟩ := pr_divisor c hc2
      have hqn : q ∣ n := by rw [hc]; exact Nat.dvd_trans hqc (Nat.dvd_mul_left _ _)
      have h1 := hg q hq hqn
      obtain ⟨e, he⟩ := hqc
      have hq2 := hq.1
      have hnq : n / q = d * e := by
        rw [hc, he, show d * (q * e) = q * (d * e) from by rw [Nat.mul_left_comm]]
        exact Nat.mul_div_cancel_left _ (by omega)
      have h2 : D p (pw 2 (2 ^ (n / q)) ^^^ 2) := by
        rw [hnq]; exact pw_iter (hp.fermat hd) e 2
      have h3 : D p (md (pw 2 (2 ^ (n / q))) m ^^^ md 2 m) := by
        rw [← md_xor _ _ hm0]
        exact D_of_xor (C_comm (D_trans hpm (md_C _ hm0))) h2
      have h4 := gcd_greatest h3 hpm
      rw [h1] at h4
      exact hp.one h4

end Go.Proofs.Ytnbdceigenndfaa.G
