/- How many places are looked at: plain facts. No program in sight. -/
import Derived.Test.YtlimdfmnfhlcoaaSyncP
import Derived.Test.YtlimdfmnfhlcoaaTreeW4
namespace Go.Proofs.Ytlimdfmnfhlcoaa.Sy
open Go.Proofs.Ytlimdfmnfhlcoaa

/-- How many leaves beneath a place differ. -/
def ct (x y : List (List Nat)) : Nat → Nat → Nat
  | 0, i => if (x.getD 0 []).getD i 0 = (y.getD 0 []).getD i 0 then 0 else 1
  | d + 1, i => if 2 * i + 1 = (x.getD d []).length then ct x y d (2 * i) else ct x y d (2 * i) + ct x y d (2 * i + 1)

/-- Each level is the one beneath it, one up. -/
def Built (x : List (List Nat)) : Prop := ∀ d, d + 1 < x.length → x.getD (d + 1) [] = Tr.up (x.getD d [])

theorem built_levels (l : List Nat) : Built (Tr.levels l) := by
  obtain ⟨n, hn⟩ : ∃ n, l.length ≤ n := ⟨_, Nat.le_refl _⟩
  induction n generalizing l with
  | zero =>
    rw [Tr.levels_one (by omega)]
    intro d hd
    simp at hd
  | succ n ih =>
    by_cases h1 : 1 < l.length
    · have hlt := Tr.up_lt h1
      have := ih (Tr.up l) (by omega)
      rw [Tr.levels_up h1]
      intro d hd
      cases d with
      | zero =>
        show (Tr.levels (Tr.up l)).getD 0 [] = Tr.up l
        by_cases h2 : 1 < (Tr.up l).length
        · rw [Tr.levels_up h2]; rfl
        · rw [Tr.levels_one (by omega)]; rfl
      | succ d => exact this d (by simp at hd; omega)
    · rw [Tr.levels_one (by omega)]
      intro d hd
      simp at hd

theorem same_of_ct {x y : List (List Nat)} (hx : Built x) (hy : Built y) (hl : x.length = y.length) (hs : ∀ d, (x.getD d []).length = (y.getD d []).length) :
    ∀ d i, d < x.length → i < (x.getD d []).length → ct x y d i = 0 → (x.getD d []).getD i 0 = (y.getD d []).getD i 0 := by
  intro d
  induction d with
  | zero =>
    intro i _ _ h
    rw [ct] at h
    by_cases h2 : (x.getD 0 []).getD i 0 = (y.getD 0 []).getD i 0
    · exact h2
    · rw [if_neg h2] at h; exact absurd h (by decide)
  | succ d ih =>
    intro i hd hi h
    have ex := hx d hd
    have ey := hy d (by omega)
    have hul := Tr.up_length (x.getD d [])
    rw [ex, hul] at hi
    have hsd := hs d
    rw [ct] at h
    rw [ex, ey]
    by_cases h2 : 2 * i + 1 = (x.getD d []).length
    · rw [if_pos h2] at h
      rw [up_odd _ _ h2, up_odd _ _ (by omega)]
      exact ih (2 * i) (by omega) (by omega) h
    · rw [if_neg h2] at h
      rw [up_pair _ _ (by omega), up_pair _ _ (by omega), ih (2 * i) (by omega) (by omega) (by omega), ih (2 * i + 1) (by omega) (by omega) (by omega)]

theorem dn_few {x y : List (List Nat)} (hx : Built x) (hy : Built y) (hl : x.length = y.length) (hs : ∀ d, (x.getD d []).length = (y.getD d []).length) :
    ∀ d i, d < x.length → i < (x.getD d []).length → (1 ≤ ct x y d i → (dn x y d i).2 ≤ 2 * d * ct x y d i) ∧ (lk x y d i).2 ≤ 1 + 2 * d * ct x y d i := by
  have key : ∀ d i, d < x.length → i < (x.getD d []).length → (1 ≤ ct x y d i → (dn x y d i).2 ≤ 2 * d * ct x y d i) → (lk x y d i).2 ≤ 1 + 2 * d * ct x y d i := by
    intro d i hd hi h
    by_cases he : (x.getD d []).getD i 0 = (y.getD d []).getD i 0
    · rw [lk_same he]; exact Nat.le_add_right _ _
    · have hc : 1 ≤ ct x y d i := by
        rcases Nat.eq_zero_or_pos (ct x y d i) with h0 | h0
        · exact absurd (same_of_ct hx hy hl hs d i hd hi h0) he
        · exact h0
      rw [lk_other he]
      have := h hc
      show (dn x y d i).2 + 1 ≤ _
      omega
  intro d
  induction d with
  | zero =>
    intro i hd hi
    have h : 1 ≤ ct x y 0 i → (dn x y 0 i).2 ≤ 2 * 0 * ct x y 0 i := fun _ => by simp [dn]
    exact ⟨h, key 0 i hd hi h⟩
  | succ d ih =>
    intro i hd hi
    have ex := hx d hd
    have hul := Tr.up_length (x.getD d [])
    have hi2 := hi
    rw [ex, hul] at hi2
    have h : 1 ≤ ct x y (d + 1) i → (dn x y (d + 1) i).2 ≤ 2 * (d + 1) * ct x y (d + 1) i := by
      intro hc
      rw [ct] at hc ⊢
      by_cases h2 : 2 * i + 1 = (x.getD d []).length
      · rw [if_pos h2] at hc ⊢
        rw [dn_left h2]
        refine Nat.le_trans ((ih (2 * i) (by omega) (by omega)).1 hc) (Nat.mul_le_mul_right _ (by omega))
      · rw [if_neg h2] at hc ⊢
        rw [dn_both h2]
        have a := (ih (2 * i) (by omega) (by omega)).2
        have b := (ih (2 * i + 1) (by omega) (by omega)).2
        generalize ct x y d (2 * i) = p at *
        generalize ct x y d (2 * i + 1) = q at *
        have e : 2 * (d + 1) * (p + q) = 2 * d * p + 2 * d * q + 2 * (p + q) := by
          rw [Nat.mul_add 2 d 1, Nat.add_mul, Nat.mul_add (2 * d)]
        rw [e]
        show (lk x y d (2 * i)).2 + (lk x y d (2 * i + 1)).2 ≤ _
        omega
    exact ⟨h, key (d + 1) i hd hi h⟩

/-- How many numbers of a run are so. -/
def cr (p : Nat → Bool) (lo : Nat) : Nat → Nat
  | 0 => 0
  | k + 1 => cr p lo k + if p (lo + k) then 1 else 0

theorem cr_add (p : Nat → Bool) (lo a : Nat) : ∀ b, cr p lo (a + b) = cr p lo a + cr p (lo + a) b
  | 0 => rfl
  | b + 1 => by
    have e : cr p lo (a + (b + 1)) = cr p lo (a + b) + if p (lo + (a + b)) = true then 1 else 0 := rfl
    have f : cr p (lo + a) (b + 1) = cr p (lo + a) b + if p (lo + a + b) = true then 1 else 0 := rfl
    rw [e, f, cr_add p lo a b, Nat.add_assoc lo a b]
    omega

theorem cr_mono {p q : Nat → Bool} (h : ∀ j, p j = true → q j = true) (lo : Nat) : ∀ k, cr p lo k ≤ cr q lo k
  | 0 => Nat.le_refl _
  | k + 1 => by
    have h1 := cr_mono h lo k
    show cr p lo k + _ ≤ cr q lo k + _
    by_cases hp : p (lo + k) = true
    · rw [if_pos hp, if_pos (h _ hp)]; omega
    · rw [if_neg hp]; omega

theorem cr_one {p q : Nat → Bool} (i : Nat) (h : ∀ j, j ≠ i → p j = true → q j = true) : ∀ k, cr p 0 k ≤ cr q 0 k + if i < k then 1 else 0
  | 0 => Nat.zero_le _
  | k + 1 => by
    have h1 := cr_one i h k
    show cr p 0 k + _ ≤ cr q 0 k + _ + _
    by_cases hi : k = i
    · subst hi
      rw [if_neg (by omega)] at h1
      rw [if_pos (Nat.lt_succ_self k)]
      split <;> split <;> omega
    · have e : (if i < k + 1 then 1 else 0) = if i < k then 1 else 0 := by
        by_cases h2 : i < k
        · rw [if_pos h2, if_pos (by omega)]
        · rw [if_neg h2, if_neg (by omega)]
      rw [e]
      by_cases hp : p (0 + k) = true
      · rw [if_pos hp, if_pos (h _ (by omega) hp)]; omega
      · rw [if_neg hp]; omega

theorem ct_cr (x y : List (List Nat)) : ∀ d i, ct x y d i ≤ cr (fun j => !decide ((x.getD 0 []).getD j 0 = (y.getD 0 []).getD j 0)) (i * 2 ^ d) (2 ^ d)
  | 0, i => by
    rw [ct]
    show _ ≤ 0 + _
    simp only [Nat.pow_zero, Nat.mul_one, Nat.add_zero]
    by_cases h : (x.getD 0 []).getD i 0 = (y.getD 0 []).getD i 0
    · rw [if_pos h]; exact Nat.zero_le _
    · rw [if_neg h, if_pos (by simp only [decide_eq_false h]; rfl)]; exact Nat.le_refl _
  | d + 1, i => by
    have e : 2 ^ (d + 1) = 2 ^ d + 2 ^ d := by rw [Nat.pow_succ]; omega
    have f : i * 2 ^ (d + 1) = 2 * i * 2 ^ d := by rw [Nat.pow_succ, Nat.mul_comm (2 ^ d) 2, ← Nat.mul_assoc, Nat.mul_comm i 2]
    have g : 2 * i * 2 ^ d + 2 ^ d = (2 * i + 1) * 2 ^ d := by rw [Nat.add_mul, Nat.one_mul]
    have h1 := ct_cr x y d (2 * i)
    have h2 := ct_cr x y d (2 * i + 1)
    rw [ct, f, e, cr_add, g]
    split <;> omega

theorem levels_pow : ∀ (j : Nat) (l : List Nat), l.length ≤ 2 ^ j → (Tr.levels l).length ≤ j + 1
  | 0, l, h => by rw [Tr.levels_one (by simpa using h)]; exact Nat.le_refl _
  | j + 1, l, h => by
    by_cases h1 : 1 < l.length
    · have := levels_pow j (Tr.up l) (by rw [Tr.up_length]; rw [Nat.pow_succ] at h; omega)
      rw [Tr.levels_up h1, List.length_cons]
      omega
    · rw [Tr.levels_one (by omega)]; exact Nat.le_add_left _ _

end Go.Proofs.Ytlimdfmnfhlcoaa.Sy
