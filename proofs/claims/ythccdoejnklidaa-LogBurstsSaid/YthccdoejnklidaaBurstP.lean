/- Bursts, the plain law: some of sixteen bits turned change the print by a modulus with a 1 at its end, of degree 16 or more. -/
import Derived.Test.YthccdoejnklidaaBurstW
namespace Go.Proofs.Ythccdoejnklidaa.G

theorem D_half {m y : Nat} (hm : m % 2 = 1) (h : D m (2 * y)) : D m y := by
  obtain ⟨k, hk⟩ := h
  rw [mul_step, show pick m k = k from if_pos hm] at hk
  have hk2 : k = 2 * (y ^^^ mul k (m / 2)) := by
    rw [two_xor, hk, xor_cancel']
  obtain ⟨j, hj⟩ : ∃ j, k = 2 * j := ⟨_, hk2⟩
  refine ⟨j, ?_⟩
  have h1 : 2 * y = 2 * mul j m := by
    rw [← two_mul_left, ← hj, mul_step, show pick m k = k from if_pos hm]; exact hk
  omega

theorem D_shift {m y : Nat} (hm : m % 2 = 1) (e : Nat) (h : D m (2 ^ e * y)) : D m y := by
  induction e with
  | zero => rwa [Nat.pow_zero, Nat.one_mul] at h
  | succ e ih => exact ih (D_half hm (by rwa [Nat.pow_succ, Nat.mul_comm (2 ^ e) 2, Nat.mul_assoc] at h))

/-- One byte changed. -/
theorem V_set (l : List UInt8) (q : Nat) (c : UInt8) (p : Nat) (hq : q < l.length) :
    V p (l.set q (l.getD q 0 ^^^ c)) = V p l ^^^ 2 ^ (8 * (l.length - 1 - q)) * c.toNat := by
  have hg : l.getD q 0 = l[q] := by simp [List.getD, List.getElem?_eq_getElem hq]
  have h1 : l = l.take q ++ l[q] :: l.drop (q + 1) := by
    rw [← List.drop_eq_getElem_cons hq, List.take_append_drop]
  have h2 : l.set q (l[q] ^^^ c) = l.take q ++ (l[q] ^^^ c) :: l.drop (q + 1) := by
    rw [List.set_eq_take_append_cons_drop, if_pos hq]
  rw [hg, h2]
  conv => rhs; arg 1; rw [h1]
  rw [V_append, V_append, V_cons, V_cons, UInt8.toNat_xor, ← Nat.xor_assoc, V_lin, List.length_drop, show l.length - (q + 1) = l.length - 1 - q from by omega]

theorem bit_xor (T : Nat) : 2 * T ^^^ 1 = 2 * T + 1 := by
  have h := split_bit (2 * T + 1)
  rw [show pick (2 * T + 1) 1 = 1 from if_pos (by omega), show (2 * T + 1) / 2 = T from by omega, Nat.xor_comm] at h
  exact h.symm

theorem V_brs (l : List UInt8) (a t k : Nat) (hk : k ≤ 16) (ha : a + 16 ≤ 8 * l.length) (ht : t < 65536) :
    V 1 (brs l a t k) = V 1 l ^^^ 2 ^ (8 * l.length - a - k) * (t / 2 ^ (16 - k)) := by
  induction k with
  | zero => rw [show t / 2 ^ (16 - 0) = 0 from Nat.div_eq_of_lt ht, Nat.mul_zero, Nat.xor_zero]; rfl
  | succ k ih =>
    have ih := ih (by omega)
    obtain ⟨E, hE⟩ : ∃ E, E = 8 * l.length - a - (k + 1) := ⟨_, rfl⟩
    have hE1 : 8 * l.length - a - k = E + 1 := by omega
    have hh : t / 2 ^ (16 - k) = t / 2 ^ (15 - k) / 2 := by
      rw [Nat.div_div_eq_div_mul, show 2 ^ (15 - k) * 2 = 2 ^ (16 - k) from by rw [show 16 - k = 15 - k + 1 from by omega, Nat.pow_succ]]
    have htb : tb t k = t / 2 ^ (15 - k) % 2 := rfl
    rw [hE1, hh] at ih
    rw [← hE, show 16 - (k + 1) = 15 - k from by omega]
    generalize t / 2 ^ (15 - k) = U at *
    have hup : 2 ^ (E + 1) * (U / 2) = 2 ^ E * (2 * (U / 2)) := by rw [Nat.pow_succ, Nat.mul_assoc]
    by_cases hb : tb t k = 1
    · have hE' : brs l a t (k + 1) = (brs l a t k).set ((a + k) / 8) ((brs l a t k).getD ((a + k) / 8) 0 ^^^ UInt8.ofNat (128 / 2 ^ ((a + k) % 8))) := by
        show (if tb t k = 1 then _ else _) = _
        rw [if_pos hb]
      have hlen := brs_length l a t k
      rw [hE', V_set _ _ _ _ (by omega), ih, hlen, hup]
      have hc : (UInt8.ofNat (128 / 2 ^ ((a + k) % 8))).toNat = 2 ^ (7 - (a + k) % 8) := by
        have hr : (a + k) % 8 < 8 := by omega
        generalize (a + k) % 8 = r at *
        have : ∀ r, r < 8 → (UInt8.ofNat (128 / 2 ^ r)).toNat = 2 ^ (7 - r) := by decide
        exact this r hr
      rw [hc, ← Nat.pow_add, show 8 * (l.length - 1 - (a + k) / 8) + (7 - (a + k) % 8) = E from by omega, Nat.xor_assoc]
      congr 1
      have e1 : 2 ^ E * (2 * (U / 2)) ^^^ 2 ^ E = 2 ^ E * (2 * (U / 2) ^^^ 1) := by rw [pow_xor, Nat.mul_one]
      rw [e1, bit_xor, show 2 * (U / 2) + 1 = U from by omega]
    · have hE' : brs l a t (k + 1) = brs l a t k := by
        show (if tb t k = 1 then _ else _) = _
        rw [if_neg hb]
      rw [hE', ih, hup, show 2 * (U / 2) = U from by omega]

theorem print_burst (l : List UInt8) (a t m : Nat) (ha : a + 16 ≤ 8 * l.length) (ht : t < 65536) (h0 : t ≠ 0) (hm : m % 2 = 1) (hm16 : 65536 ≤ m) :
    print m l ≠ print m (brs l a t 16) := by
  have hne : m ≠ 0 := by omega
  intro h
  rw [print_V _ hne, print_V _ hne, V_brs l a t 16 (Nat.le_refl _) ha ht, md_eq_iff hne, xor_cancel, show t / 2 ^ (16 - 16) = t from by simp] at h
  have hd := D_shift hm _ h
  have hl1 : L t ≤ 16 := L_le.2 ht
  have hl2 : 16 < L m := le_of_L.2 hm16
  exact h0 (D_small hd (by omega))

end Go.Proofs.Ythccdoejnklidaa.G
