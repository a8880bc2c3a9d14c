/- Polynomials over two numbers, as the bits of a natural number: products, lengths, no zero divisors. No program in sight. -/
namespace Go.Proofs.Ythccdoejnklidaa.G

theorem xor4 (a b c d : Nat) : (a ^^^ b) ^^^ (c ^^^ d) = (a ^^^ c) ^^^ (b ^^^ d) := by ac_rfl
theorem xor_cancel (a b : Nat) : a ^^^ (a ^^^ b) = b := by rw [← Nat.xor_assoc, Nat.xor_self, Nat.zero_xor]
theorem xor_cancel' (a b : Nat) : (b ^^^ a) ^^^ a = b := by rw [Nat.xor_assoc, Nat.xor_self, Nat.xor_zero]
theorem xor_eq_zero {a b : Nat} (h : a ^^^ b = 0) : a = b := by
  have := congrArg (· ^^^ b) h
  simpa [xor_cancel'] using this
theorem xor_left_inj {a b c : Nat} (h : a ^^^ b = a ^^^ c) : b = c := by
  have := congrArg (a ^^^ ·) h
  simpa [xor_cancel] using this

theorem two_xor (a b : Nat) : 2 * (a ^^^ b) = 2 * a ^^^ 2 * b := by
  have := @Nat.shiftLeft_xor_distrib 1 a b
  simp only [Nat.shiftLeft_eq, Nat.pow_one] at this
  rw [Nat.mul_comm 2, Nat.mul_comm 2, Nat.mul_comm 2, this]

theorem pow_xor (k a b : Nat) : 2 ^ k * (a ^^^ b) = 2 ^ k * a ^^^ 2 ^ k * b := by
  have := @Nat.shiftLeft_xor_distrib k a b
  simp only [Nat.shiftLeft_eq] at this
  rw [Nat.mul_comm, this, Nat.mul_comm a, Nat.mul_comm b]

/-- One bit, as a choice. -/
def pick (b a : Nat) : Nat := if b % 2 = 1 then a else 0

theorem pick_zero (b : Nat) : pick b 0 = 0 := by unfold pick; split <;> rfl
theorem pick_two (b a : Nat) : pick b (2 * a) = 2 * pick b a := by unfold pick; split <;> rfl
theorem pick_xor_right (b x y : Nat) : pick b (x ^^^ y) = pick b x ^^^ pick b y := by unfold pick; split <;> simp
theorem pick_xor_left (b c x : Nat) : pick (b ^^^ c) x = pick b x ^^^ pick c x := by
  have h := @Nat.xor_mod_two_eq_one b c
  unfold pick
  by_cases h1 : b % 2 = 1 <;> by_cases h2 : c % 2 = 1
  · rw [if_neg (by rw [h]; simp [h1, h2]), if_pos h1, if_pos h2, Nat.xor_self]
  · rw [if_pos (by rw [h]; simp [h1, h2]), if_pos h1, if_neg h2, Nat.xor_zero]
  · rw [if_pos (by rw [h]; simp [h1, h2]), if_neg h1, if_pos h2, Nat.zero_xor]
  · rw [if_neg (by rw [h]; simp [h1, h2]), if_neg h1, if_neg h2, Nat.xor_self]

def mulF (a : Nat) : Nat → Nat → Nat
  | 0, _ => 0
  | f + 1, b => if b = 0 then 0 else pick b a ^^^ 2 * mulF a f (b / 2)

/-- The product. -/
def mul (a b : Nat) : Nat := mulF a b b

theorem mulF_fuel (a : Nat) : ∀ f g b, b ≤ f → b ≤ g → mulF a f b = mulF a g b := by
  intro f
  induction f with
  | zero => intro g b h1 _; obtain rfl : b = 0 := by omega
            cases g <;> simp [mulF]
  | succ f ih =>
    intro g b h1 h2
    cases g with
    | zero => obtain rfl : b = 0 := by omega
              simp [mulF]
    | succ g =>
      by_cases hb : b = 0
      · simp [mulF, hb]
      · rw [mulF, mulF, if_neg hb, if_neg hb, ih g (b / 2) (by omega) (by omega)]

theorem mul_zero (a : Nat) : mul a 0 = 0 := rfl

theorem mul_step (a b : Nat) : mul a b = pick b a ^^^ 2 * mul a (b / 2) := by
  by_cases hb : b = 0
  · subst hb; rw [show 0 / 2 = 0 from rfl, mul_zero]; unfold pick; simp
  · unfold mul
    obtain ⟨f, rfl⟩ : ∃ f, b = f + 1 := ⟨b - 1, by omega⟩
    rw [mulF, if_neg hb, mulF_fuel a f ((f + 1) / 2) ((f + 1) / 2) (by omega) (Nat.le_refl _)]

/-- Induction on halves. -/
theorem halves {P : Nat → Prop} (h0 : P 0) (h : ∀ b, b ≠ 0 → P (b / 2) → P b) : ∀ b, P b := by
  intro b
  induction b using Nat.strongRecOn with
  | _ b ih => by_cases hb : b = 0
              · subst hb; exact h0
              · exact h b hb (ih _ (by omega))

theorem zero_mul (b : Nat) : mul 0 b = 0 := by
  induction b using halves with
  | h0 => rfl
  | h b _ ih => rw [mul_step, ih, pick_zero]; rfl

theorem two_mul_left (a b : Nat) : mul (2 * a) b = 2 * mul a b := by
  induction b using halves with
  | h0 => rfl
  | h b _ ih => rw [mul_step, ih, mul_step a b, pick_two, two_xor]

theorem mul_two (a b : Nat) : mul a (2 * b) = 2 * mul a b := by
  rw [mul_step, show 2 * b / 2 = b from by omega]
  unfold pick; rw [if_neg (by omega), Nat.zero_xor]

theorem xor_mul (a c b : Nat) : mul (a ^^^ c) b = mul a b ^^^ mul c b := by
  induction b using halves with
  | h0 => rw [mul_zero, mul_zero, mul_zero, Nat.xor_self]
  | h b _ ih => rw [mul_step, ih, mul_step a b, mul_step c b, pick_xor_right, two_xor, xor4]

theorem mul_xor (a b c : Nat) : mul a (b ^^^ c) = mul a b ^^^ mul a c := by
  induction b using halves generalizing c with
  | h0 => rw [Nat.zero_xor, mul_zero, Nat.zero_xor]
  | h b _ ih => rw [mul_step, Nat.xor_div_two, ih, mul_step a b, mul_step a c, pick_xor_left, two_xor, xor4]

theorem mul_one (a : Nat) : mul a 1 = a := by
  rw [mul_step]; show pick 1 a ^^^ 2 * mul a 0 = a
  rw [mul_zero]; unfold pick; simp

theorem one_mul (b : Nat) : mul 1 b = b := by
  induction b using halves with
  | h0 => rfl
  | h b _ ih =>
    rw [mul_step, ih]; unfold pick
    apply Nat.eq_of_testBit_eq
    intro i
    cases i with
    | zero => split <;> simp_all [Nat.testBit_zero] <;> omega
    | succ i => rw [Nat.testBit_xor, Nat.testBit_succ, Nat.testBit_succ, Nat.testBit_succ]
                rw [show 2 * (b / 2) / 2 = b / 2 from by omega]
                split <;> simp

/-- A number is its half, doubled, and its last bit. -/
theorem split_bit (b : Nat) : b = pick b 1 ^^^ 2 * (b / 2) := by
  have := mul_step 1 b
  rw [one_mul, one_mul] at this
  exact this

theorem pick_mul (b c x : Nat) : mul (pick b x) c = pick b (mul x c) := by
  unfold pick; split
  · rfl
  · exact zero_mul c

theorem mul_comm (a b : Nat) : mul a b = mul b a := by
  induction b using halves generalizing a with
  | h0 => rw [mul_zero, zero_mul]
  | h b _ ih =>
    rw [mul_step, ih]
    have h : mul b a = mul (pick b 1 ^^^ 2 * (b / 2)) a := by rw [← split_bit]
    rw [h, xor_mul, two_mul_left, pick_mul, one_mul]

theorem mul_assoc (a b c : Nat) : mul (mul a b) c = mul a (mul b c) := by
  induction c using halves with
  | h0 => rfl
  | h c _ ih =>
    rw [mul_step, ih, mul_step b c, mul_xor, mul_two]
    congr 1
    unfold pick; split
    · rfl
    · rw [mul_zero]

theorem mul_left_comm (a b c : Nat) : mul a (mul b c) = mul b (mul a c) := by
  rw [← mul_assoc, mul_comm a b, mul_assoc]

theorem mul_pow (a k : Nat) : mul a (2 ^ k) = 2 ^ k * a := by
  induction k with
  | zero => rw [Nat.pow_zero, mul_one, Nat.one_mul]
  | succ k ih => rw [Nat.pow_succ, Nat.mul_comm, mul_two, ih, ← Nat.mul_assoc]

theorem pow_mul (a k : Nat) : mul (2 ^ k) a = 2 ^ k * a := by rw [mul_comm, mul_pow]

/-- How many bits. -/
def L (a : Nat) : Nat := if a = 0 then 0 else Nat.log2 a + 1

theorem L_zero : L 0 = 0 := rfl
theorem L_one : L 1 = 1 := by decide +kernel
theorem L_two : L 2 = 2 := by decide +kernel

theorem L_le {a k : Nat} : L a ≤ k ↔ a < 2 ^ k := by
  unfold L
  by_cases h : a = 0
  · subst h; simp [Nat.two_pow_pos]
  · rw [if_neg h, ← Nat.log2_lt h]; omega

theorem lt_L {a : Nat} : a < 2 ^ L a := L_le.1 (Nat.le_refl _)

theorem le_of_L {a k : Nat} : k < L a ↔ 2 ^ k ≤ a := by
  have := @L_le a k; omega

theorem L_pos {a : Nat} : 0 < L a ↔ a ≠ 0 := by
  rw [le_of_L]; simp; omega

theorem L_eq_zero {a : Nat} : L a = 0 ↔ a = 0 := by
  have := @L_pos a; omega

theorem L_eq {a k : Nat} (h1 : 2 ^ k ≤ a) (h2 : a < 2 ^ (k + 1)) : L a = k + 1 := by
  have := le_of_L.2 h1; have := L_le.2 h2; omega

theorem L_pow (k : Nat) : L (2 ^ k) = k + 1 :=
  L_eq (Nat.le_refl _) (Nat.pow_lt_pow_right (by omega) (by omega))

theorem L_mono {a b : Nat} (h : a ≤ b) : L a ≤ L b := L_le.2 (Nat.lt_of_le_of_lt h lt_L)

theorem L_lt {a b : Nat} (h : L a < L b) : a < b := by
  rcases Nat.lt_or_ge a b with h' | h'
  · exact h'
  · have := L_mono h'; omega

theorem L_xor_le (a b : Nat) : L (a ^^^ b) ≤ max (L a) (L b) := by
  rw [L_le]
  exact Nat.xor_lt_two_pow (L_le.1 (Nat.le_max_left _ _)) (L_le.1 (Nat.le_max_right _ _))

theorem L_xor_lt {a b k : Nat} (ha : L a ≤ k) (hb : L b ≤ k) : L (a ^^^ b) ≤ k := by
  have := L_xor_le a b; omega

theorem L_xor_of_lt {a b : Nat} (h : L a < L b) : L (a ^^^ b) = L b := by
  have h1 := L_xor_le a b
  have h2 := L_xor_le a (a ^^^ b)
  rw [xor_cancel] at h2
  omega

theorem L_xor_of_gt {a b : Nat} (h : L b < L a) : L (a ^^^ b) = L a := by
  rw [Nat.xor_comm]; exact L_xor_of_lt h

/-- Two of the same length: the highest bits go. -/
theorem L_xor_same {a b : Nat} (h : L a = L b) (h0 : a ≠ 0) : L (a ^^^ b) < L a := by
  obtain ⟨k, hk⟩ : ∃ k, L a = k + 1 := ⟨L a - 1, by have := L_pos.2 h0; omega⟩
  rw [hk]
  have ha : a.testBit k = true := Nat.testBit_of_two_pow_le_and_two_pow_add_one_gt (le_of_L.1 (by omega)) (L_le.1 (by omega))
  have hb : b.testBit k = true := Nat.testBit_of_two_pow_le_and_two_pow_add_one_gt (le_of_L.1 (by omega)) (L_le.1 (by omega))
  have : L (a ^^^ b) ≤ k := by
    rw [L_le]
    apply Nat.lt_pow_two_of_testBit
    intro i hi
    rw [Nat.testBit_xor]
    by_cases hik : i = k
    · subst hik; rw [ha, hb]; rfl
    · rw [Nat.testBit_lt_two_pow (Nat.lt_of_lt_of_le (L_le.1 (show L a ≤ k + 1 by omega)) (Nat.pow_le_pow_right (by omega) (by omega))),
        Nat.testBit_lt_two_pow (Nat.lt_of_lt_of_le (L_le.1 (show L b ≤ k + 1 by omega)) (Nat.pow_le_pow_right (by omega) (by omega)))]
      rfl
  omega

theorem L_pow_mul (a k : Nat) (h : a ≠ 0) : L (2 ^ k * a) = k + L a := by
  obtain ⟨j, hj⟩ : ∃ j, L a = j + 1 := ⟨L a - 1, by have := L_pos.2 h; omega⟩
  have h1 : 2 ^ j ≤ a := le_of_L.1 (by omega)
  have h2 : a < 2 ^ (j + 1) := L_le.1 (by omega)
  rw [hj, ← Nat.add_assoc]
  refine L_eq ?_ ?_
  · rw [Nat.pow_add]; exact Nat.mul_le_mul_left _ h1
  · rw [Nat.add_assoc, Nat.pow_add]; exact Nat.mul_lt_mul_of_pos_left h2 (Nat.two_pow_pos _)

theorem L_double (a : Nat) (h : a ≠ 0) : L (2 * a) = L a + 1 := by
  have := L_pow_mul a 1 h; rw [Nat.pow_one] at this; omega

theorem L_half {b : Nat} (h : b ≠ 0) : L b = L (b / 2) + 1 := by
  by_cases h1 : b = 1
  · subst h1; rw [L_one]; rfl
  · obtain ⟨j, hj⟩ : ∃ j, L (b / 2) = j + 1 := ⟨L (b / 2) - 1, by have := @L_pos (b / 2); omega⟩
    have h1 : 2 ^ j ≤ b / 2 := le_of_L.1 (by omega)
    have h2 : b / 2 < 2 ^ (j + 1) := L_le.1 (by omega)
    rw [hj]
    refine L_eq ?_ ?_
    · rw [Nat.pow_succ]; omega
    · rw [Nat.pow_succ]; omega

/-- The length of a product. -/
theorem L_mul (a b : Nat) (ha : a ≠ 0) (hb : b ≠ 0) : L (mul a b) + 1 = L a + L b := by
  induction b using halves with
  | h0 => exact absurd rfl hb
  | h b _ ih =>
    by_cases h1 : b = 1
    · subst h1; rw [mul_one, L_one]
    · have ih' := ih (by omega)
      have hp : L b = L (b / 2) + 1 := by
        obtain ⟨j, hj⟩ : ∃ j, L (b / 2) = j + 1 := ⟨L (b / 2) - 1, by have := @L_pos (b / 2); omega⟩
        have h1 : 2 ^ j ≤ b / 2 := le_of_L.1 (by omega)
        have h2 : b / 2 < 2 ^ (j + 1) := L_le.1 (by omega)
        rw [hj]
        refine L_eq ?_ ?_
        · rw [Nat.pow_succ]; omega
        · rw [Nat.pow_succ]; omega
      have hpos : 0 < L a := L_pos.2 ha
      have hpos2 : 0 < L (b / 2) := L_pos.2 (by omega)
      have hx : mul a (b / 2) ≠ 0 := by
        intro h0; rw [h0, L_zero] at ih'; omega
      rw [mul_step]
      have hL : L (2 * mul a (b / 2)) = L (mul a (b / 2)) + 1 := L_double _ hx
      by_cases hc : b % 2 = 1
      · unfold pick; rw [if_pos hc, L_xor_of_lt (by omega)]; omega
      · unfold pick; rw [if_neg hc, Nat.zero_xor]; omega

theorem mul_ne_zero {a b : Nat} (ha : a ≠ 0) (hb : b ≠ 0) : mul a b ≠ 0 := by
  intro h
  have := L_mul a b ha hb
  have := L_pos.2 ha; have := L_pos.2 hb
  rw [h, L_zero] at *; omega

theorem mul_eq_zero {a b : Nat} : mul a b = 0 ↔ a = 0 ∨ b = 0 := by
  constructor
  · intro h
    by_cases ha : a = 0
    · exact Or.inl ha
    · by_cases hb : b = 0
      · exact Or.inr hb
      · exact absurd h (mul_ne_zero ha hb)
  · rintro (rfl | rfl)
    · exact zero_mul _
    · exact mul_zero _

theorem mul_cancel {a b c : Nat} (ha : a ≠ 0) (h : mul a b = mul a c) : b = c := by
  have : mul a (b ^^^ c) = 0 := by rw [mul_xor, h, Nat.xor_self]
  rcases mul_eq_zero.1 this with h' | h'
  · exact absurd h' ha
  · exact xor_eq_zero h'

theorem mul_cancel_right {a b c : Nat} (ha : a ≠ 0) (h : mul b a = mul c a) : b = c := by
  rw [mul_comm b, mul_comm c] at h; exact mul_cancel ha h

theorem mul_eq_one {a b : Nat} (h : mul a b = 1) : a = 1 ∧ b = 1 := by
  have ha : a ≠ 0 := by rintro rfl; rw [zero_mul] at h; omega
  have hb : b ≠ 0 := by rintro rfl; rw [mul_zero] at h; omega
  have := L_mul a b ha hb
  rw [h, L_one] at this
  have h1 := L_pos.2 ha; have h2 := L_pos.2 hb
  have h3 : a < 2 ^ 1 := L_le.1 (by omega)
  have h4 : b < 2 ^ 1 := L_le.1 (by omega)
  omega

/-- The squares: no cross terms. -/
theorem sq_xor (a b : Nat) : mul (a ^^^ b) (a ^^^ b) = mul a a ^^^ mul b b := by
  rw [mul_xor, xor_mul, xor_mul, mul_comm b a, xor4, Nat.xor_comm (mul a b) (mul b b), ← xor4]
  rw [show (mul a a ^^^ mul b b) ^^^ (mul a b ^^^ mul a b) = mul a a ^^^ mul b b from by rw [Nat.xor_self, Nat.xor_zero]]

end Go.Proofs.Ythccdoejnklidaa.G
