/- Polynomials read from the other end: products go over, and irreducible ones stay so. No program in sight. -/
import Derived.Test.YtabdchehbgchcaaG3
namespace Go.Proofs.Ytabdchehbgchcaa.G

/-- The lowest k bits, turned. -/
def rk : Nat → Nat → Nat
  | 0, _ => 0
  | k + 1, a => pick a (2 ^ k) ^^^ rk k (a / 2)

def turned (a : Nat) : Nat := rk (L a) a

theorem rk_zero (k : Nat) : rk k 0 = 0 := by
  induction k with
  | zero => rfl
  | succ k ih => rw [rk, show 0 / 2 = 0 from rfl, ih]; unfold pick; simp

theorem rk_xor (k a b : Nat) : rk k (a ^^^ b) = rk k a ^^^ rk k b := by
  induction k generalizing a b with
  | zero => exact (Nat.xor_self 0).symm
  | succ k ih => rw [rk, rk, rk, pick_xor_left, Nat.xor_div_two, ih, xor4]

theorem rk_lt (k a : Nat) : rk k a < 2 ^ k := by
  induction k generalizing a with
  | zero => exact Nat.one_pos
  | succ k ih =>
    rw [rk]
    refine Nat.xor_lt_two_pow ?_ (Nat.lt_of_lt_of_le (ih _) (Nat.pow_le_pow_right (by omega) (by omega)))
    unfold pick; split
    · exact Nat.pow_lt_pow_right (by omega) (by omega)
    · exact Nat.two_pow_pos _

theorem rk_more (k j a : Nat) (h : a < 2 ^ k) : rk (k + j) a = 2 ^ j * rk k a := by
  induction k generalizing a with
  | zero => obtain rfl : a = 0 := by simpa using h
            rw [rk_zero, rk_zero, Nat.mul_zero]
  | succ k ih =>
    rw [show k + 1 + j = k + j + 1 from by omega, rk, rk, ih (a / 2) (by rw [Nat.pow_succ] at h; omega), pow_xor]
    congr 1
    unfold pick; split
    · rw [Nat.pow_add, Nat.mul_comm]
    · rfl

theorem rk_double (k x : Nat) : rk (k + 1) (2 * x) = rk k x := by
  rw [rk, show 2 * x / 2 = x from by omega]
  unfold pick
  rw [if_neg (by omega), Nat.zero_xor]

theorem rk_pow (k : Nat) : rk (k + 1) (2 ^ k) = 1 := by
  induction k with
  | zero => rfl
  | succ k ih => rw [Nat.pow_succ, Nat.mul_comm, rk_double, ih]

theorem rk_pick (k b a : Nat) : rk k (pick b a) = pick b (rk k a) := by
  unfold pick; split
  · rfl
  · exact rk_zero k

theorem mul_pick (b x y : Nat) : mul x (pick b y) = pick b (mul x y) := by
  unfold pick; split
  · rfl
  · exact mul_zero x

theorem rk_mul (k a : Nat) (ha : a < 2 ^ k) (l b : Nat) (hb : b < 2 ^ (l + 1)) : mul (rk k a) (rk (l + 1) b) = rk (k + l) (mul a b) := by
  induction l generalizing b with
  | zero =>
    have : b = 0 ∨ b = 1 := by have : b < 2 := hb; omega
    rcases this with rfl | rfl
    · rw [rk_zero, mul_zero, mul_zero, rk_zero]
    · show mul (rk k a) (rk 1 1) = _
      rw [show rk 1 1 = 1 from rk_pow 0, mul_one, mul_one]; rfl
  | succ l ih =>
    rw [rk, mul_xor, mul_pick, mul_pow, ih (b / 2) (by rw [Nat.pow_succ] at hb; omega), mul_step a b, rk_xor, rk_pick, ← Nat.add_assoc, rk_double,
      show k + l + 1 = k + (l + 1) from by omega, rk_more k (l + 1) a ha]

theorem turned_mul (a b : Nat) (ha : a ≠ 0) (hb : b ≠ 0) : turned (mul a b) = mul (turned a) (turned b) := by
  have hl := L_mul a b ha hb
  have hp := L_pos.2 hb
  obtain ⟨l, hl'⟩ : ∃ l, L b = l + 1 := ⟨L b - 1, by omega⟩
  unfold turned
  rw [hl', rk_mul (L a) a lt_L l b (by rw [← hl']; exact lt_L)]
  congr 1; omega

theorem rk_rk (k a : Nat) (h : a < 2 ^ k) : rk k (rk k a) = a := by
  induction k generalizing a with
  | zero => obtain rfl : a = 0 := by simpa using h
            rfl
  | succ k ih =>
    rw [show rk (k + 1) a = pick a (2 ^ k) ^^^ rk k (a / 2) from rfl, rk_xor, rk_pick, rk_pow, rk_more k 1 _ (rk_lt k _), ih (a / 2) (by rw [Nat.pow_succ] at h; omega), Nat.pow_one]
    exact (split_bit a).symm

theorem L_turned (a : Nat) (h : a % 2 = 1) : L (turned a) = L a := by
  obtain ⟨k, hk⟩ : ∃ k, L a = k + 1 := ⟨L a - 1, by have := @L_pos a; omega⟩
  unfold turned
  rw [hk, rk]
  unfold pick
  rw [if_pos h]
  have : L (rk k (a / 2)) ≤ k := L_le.2 (rk_lt _ _)
  rw [L_xor_of_gt (by rw [L_pow]; omega), L_pow]

theorem turned_turned (a : Nat) (h : a % 2 = 1) : turned (turned a) = a := by
  have := L_turned a h
  have e : turned (turned a) = rk (L (turned a)) (turned a) := rfl
  rw [e, this]
  exact rk_rk _ _ lt_L

theorem turned_odd (a : Nat) (h : a ≠ 0) : turned a % 2 = 1 := by
  obtain ⟨k, hk⟩ : ∃ k, L a = k + 1 := ⟨L a - 1, by have := @L_pos a; omega⟩
  have hlt : L (a ^^^ 2 ^ k) < L a := L_xor_same (by rw [L_pow, hk]) h
  have hlt2 : a ^^^ 2 ^ k < 2 ^ k := L_le.1 (by omega)
  have e : a = 2 ^ k ^^^ (a ^^^ 2 ^ k) := by rw [Nat.xor_comm a, xor_cancel]
  have e2 : turned a = 1 ^^^ 2 * rk k (a ^^^ 2 ^ k) := by
    unfold turned
    rw [hk]
    have : rk (k + 1) a = rk (k + 1) (2 ^ k ^^^ (a ^^^ 2 ^ k)) := by rw [← e]
    rw [this, rk_xor, rk_pow, rk_more k 1 _ hlt2, Nat.pow_one]
  rw [e2]
  have := @Nat.xor_mod_two_eq_one 1 (2 * rk k (a ^^^ 2 ^ k))
  rw [this]
  have h2 : ¬ (2 * rk k (a ^^^ 2 ^ k)) % 2 = 1 := by omega
  simp

theorem mul_odd (x y : Nat) (h : mul x y % 2 = 1) : x % 2 = 1 ∧ y % 2 = 1 := by
  rw [mul_step, Nat.xor_mod_two_eq_one] at h
  have h2 : ¬ (2 * mul x (y / 2)) % 2 = 1 := by omega
  unfold pick at h
  by_cases hy : y % 2 = 1
  · rw [if_pos hy] at h
    refine ⟨?_, hy⟩
    apply Classical.byContradiction
    intro hx
    exact h ⟨fun h' => absurd h' hx, fun h' => absurd h' h2⟩
  · rw [if_neg hy] at h
    exact absurd ⟨fun h' => absurd h' (by omega), fun h' => absurd h' h2⟩ h

theorem Irr.turned {a : Nat} (h : Irr a) (ho : a % 2 = 1) : Irr (G.turned a) := by
  have hl := L_turned a ho
  have hL := h.L
  refine ⟨?_, fun x y hxy => ?_⟩
  · have : 2 ^ 1 ≤ G.turned a := le_of_L.1 (by omega)
    simpa using this
  · have hodd := turned_odd a h.ne_zero
    rw [hxy] at hodd
    have hxo := mul_odd x y hodd
    have hx0 : x ≠ 0 := by rintro rfl; simp at hxo
    have hy0 : y ≠ 0 := by rintro rfl; simp at hxo
    have e := turned_turned a ho
    rw [hxy, turned_mul x y hx0 hy0] at e
    have one : ∀ z, z % 2 = 1 → G.turned z = 1 → z = 1 := by
      intro z hz h1
      have := L_turned z hz
      rw [h1, L_one] at this
      have h3 : z < 2 ^ 1 := L_le.1 (by omega)
      omega
    rcases h.2 _ _ e.symm with h1 | h1
    · exact Or.inl (one x hxo.1 h1)
    · exact Or.inr (one y hxo.2 h1)

theorem irr_turned {a : Nat} (ho : a % 2 = 1) (h0 : a ≠ 0) : Irr (turned a) ↔ Irr a := by
  constructor
  · intro h
    have := h.turned (turned_odd a h0)
    rwa [turned_turned a ho] at this
  · intro h; exact h.turned ho

/-- A number's half, doubled, and a bit. -/
theorem add_bit (o c : Nat) : 2 * o + c % 2 = pick c 1 ^^^ 2 * o := by
  have := split_bit (2 * o + c % 2)
  rw [show (2 * o + c % 2) / 2 = o from by omega] at this
  rw [this]
  congr 1
  unfold pick
  by_cases h : c % 2 = 1
  · rw [if_pos h, if_pos (by omega)]
  · rw [if_neg h, if_neg (by omega)]

theorem turn_next (A O : Nat) (h : A ≠ 0) : 2 ^ L (A / 2) * (2 * O + A % 2) ^^^ rk (L (A / 2)) (A / 2) = 2 ^ L A * O ^^^ rk (L A) A := by
  rw [L_half h, rk, add_bit, pow_xor, Nat.pow_succ, Nat.mul_assoc]
  have e : 2 ^ L (A / 2) * pick A 1 = pick A (2 ^ L (A / 2)) := by
    unfold pick; split
    · rw [Nat.mul_one]
    · rw [Nat.mul_zero]
  rw [e]
  ac_rfl

end Go.Proofs.Ytabdchehbgchcaa.G
