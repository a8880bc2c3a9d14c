import Derived.Test.YtenkdpogdfcbgaaGreatPlainW
import Derived.Deep.RegionLaw
import Derived.Laws.IdiomStrings
import Derived.Lib.ConvBytes
import Derived.Lib.BufferRead
import Derived.Laws.ResultCell
import Derived.Deep.RegionWith
import Derived.Test.YtenkdpogdfcbgaaGreatUse
/- Some of sixteen bits of a text turned: plain facts. -/
namespace Go.Proofs.YtenkdpogdfcbgaaGreat
open Go.RowKit

/-- Bit i of what is turned. -/
def tb (t i : Nat) : Nat := t / 2 ^ (15 - i) % 2

/-- The text behind k rounds. -/
def brs (l : List UInt8) (a t : Nat) : Nat → List UInt8
  | 0 => l
  | k + 1 => if tb t k = 1 then (brs l a t k).set ((a + k) / 8) ((brs l a t k).getD ((a + k) / 8) 0 ^^^ UInt8.ofNat (128 / 2 ^ ((a + k) % 8))) else brs l a t k

theorem brs_length (l : List UInt8) (a t k : Nat) : (brs l a t k).length = l.length := by
  induction k with
  | zero => rfl
  | succ k ih => unfold brs; split <;> simp [ih]

theorem u16_bit (t k : Nat) (ht : t < 65536) : bits .and .u16 ((t : Int) / 2 ^ (15 - k)) 1 = (tb t k : Int) := by
  have h1 : (t : Int) / 2 ^ (15 - k) = ((t / 2 ^ (15 - k) : Nat) : Int) := by rw [Int.natCast_ediv, Int.natCast_pow]; rfl
  have h2 : t / 2 ^ (15 - k) ≤ t := Nat.div_le_self _ _
  unfold tb
  rw [h1]
  generalize t / 2 ^ (15 - k) = v at *
  show IntKind.u16.wrap ((BitVec.ofInt 16 (v : Int) &&& BitVec.ofInt 16 1).toNat : Int) = _
  rw [BitVec.toNat_and, show (BitVec.ofInt 16 1).toNat = 1 from rfl, Nat.and_one_is_mod]
  have h3 : (BitVec.ofInt 16 (v : Int)).toNat = v := by
    rw [BitVec.toNat_ofInt]; omega
  rw [h3]
  unfold IntKind.wrap
  simp [IntKind.bits, IntKind.signed]
  omega

end Go.Proofs.YtenkdpogdfcbgaaGreat

/- Bursts, the plain law: some of sixteen bits turned change the print by a modulus with a 1 at its end, of degree 16 or more. -/
namespace Go.Proofs.YtenkdpogdfcbgaaGreat.G

theorem D_half {m y : Nat} (hm : m % 2 = 1) (h : D m (2 * y)) : D m y := by
  obtain ⟨k, hk⟩ := h
  rw [mul_step, show pick m k = k from if_pos hm] at hk
  have hk2 : k = 2 * (y ^^^ mul k (m / 2)) := by
    rw [two_xor, hk, xor_cancel']
  obtain ⟨j, hj⟩ : ∃ j, k = 2 * j := ⟨_, hk2⟩
  refine ⟨j, ?_⟩
  have h1 : 2 * y = 2 * mul j m := by
    rw [← two_mul_left, ← hj, mul_step, show pick m k = k from if_pos hm]; exact hk
  omega

theorem D_shift {m y : Nat} (hm : m % 2 = 1) (e : Nat) (h : D m (2 ^ e * y)) : D m y := by
  induction e with
  | zero => rwa [Nat.pow_zero, Nat.one_mul] at h
  | succ e ih => exact ih (D_half hm (by rwa [Nat.pow_succ, Nat.mul_comm (2 ^ e) 2, Nat.mul_assoc] at h))

/-- One byte changed. -/
theorem V_set (l : List UInt8) (q : Nat) (c : UInt8) (p : Nat) (hq : q < l.length) :
    V p (l.set q (l.getD q 0 ^^^ c)) = V p l ^^^ 2 ^ (8 * (l.length - 1 - q)) * c.toNat := by
  have hg : l.getD q 0 = l[q] := by simp [List.getD, List.getElem?_eq_getElem hq]
  have h1 : l = l.take q ++ l[q] :: l.drop (q + 1) := by
    rw [← List.drop_eq_getElem_cons hq, List.take_append_drop]
  have h2 : l.set q (l[q] ^^^ c) = l.take q ++ (l[q] ^^^ c) :: l.drop (q + 1) := by
    rw [List.set_eq_take_append_cons_drop, if_pos hq]
  rw [hg, h2]
  conv => rhs; arg 1; rw [h1]
  rw [V_append, V_append, V_cons, V_cons, UInt8.toNat_xor, ← Nat.xor_assoc, V_lin, List.length_drop, show l.length - (q + 1) = l.length - 1 - q from by omega]

theorem bit_xor (T : Nat) : 2 * T ^^^ 1 = 2 * T + 1 := by
  have h := split_bit (2 * T + 1)
  rw [show pick (2 * T + 1) 1 = 1 from if_pos (by omega), show (2 * T + 1) / 2 = T from by omega, Nat.xor_comm] at h
  exact h.symm

theorem V_brs (l : List UInt8) (a t k : Nat) (hk : k ≤ 16) (ha : a + 16 ≤ 8 * l.length) (ht : t < 65536) :
    V 1 (brs l a t k) = V 1 l ^^^ 2 ^ (8 * l.length - a - k) * (t / 2 ^ (16 - k)) := by
  induction k with
  | zero => rw [show t / 2 ^ (16 - 0) = 0 from Nat.div_eq_of_lt ht, Nat.mul_zero, Nat.xor_zero]; rfl
  | succ k ih =>
    have ih := ih (by omega)
    obtain ⟨E, hE⟩ : ∃ E, E = 8 * l.length - a - (k + 1) := ⟨_, rfl⟩
    have hE1 : 8 * l.length - a - k = E + 1 := by omega
    have hh : t / 2 ^ (16 - k) = t / 2 ^ (15 - k) / 2 := by
      rw [Nat.div_div_eq_div_mul, show 2 ^ (15 - k) * 2 = 2 ^ (16 - k) from by rw [show 16 - k = 15 - k + 1 from by omega, Nat.pow_succ]]
    have htb : tb t k = t / 2 ^ (15 - k) % 2 := rfl
    rw [hE1, hh] at ih
    rw [← hE, show 16 - (k + 1) = 15 - k from by omega]
    generalize t / 2 ^ (15 - k) = U at *
    have hup : 2 ^ (E + 1) * (U / 2) = 2 ^ E * (2 * (U / 2)) := by rw [Nat.pow_succ, Nat.mul_assoc]
    by_cases hb : tb t k = 1
    · have hE' : brs l a t (k + 1) = (brs l a t k).set ((a + k) / 8) ((brs l a t k).getD ((a + k) / 8) 0 ^^^ UInt8.ofNat (128 / 2 ^ ((a + k) % 8))) := by
        show (if tb t k = 1 then _ else _) = _
        rw [if_pos hb]
      have hlen := brs_length l a t k
      rw [hE', V_set _ _ _ _ (by omega), ih, hlen, hup]
      have hc : (UInt8.ofNat (128 / 2 ^ ((a + k) % 8))).toNat = 2 ^ (7 - (a + k) % 8) := by
        have hr : (a + k) % 8 < 8 := by omega
        generalize (a + k) % 8 = r at *
        have : ∀ r, r < 8 → (UInt8.ofNat (128 / 2 ^ r)).toNat = 2 ^ (7 - r) := by decide
        exact this r hr
      rw [hc, ← Nat.pow_add, show 8 * (l.length - 1 - (a + k) / 8) + (7 - (a + k) % 8) = E from by omega, Nat.xor_assoc]
      congr 1
      have e1 : 2 ^ E * (2 * (U / 2)) ^^^ 2 ^ E = 2 ^ E * (2 * (U / 2) ^^^ 1) := by rw [pow_xor, Nat.mul_one]
      rw [e1, bit_xor, show 2 * (U / 2) + 1 = U from by omega]
    · have hE' : brs l a t (k + 1) = brs l a t k := by
        show (if tb t k = 1 then _ else _) = _
        rw [if_neg hb]
      rw [hE', ih, hup, show 2 * (U / 2) = U from by omega]

theorem print_burst (l : List UInt8) (a t m : Nat) (ha : a + 16 ≤ 8 * l.length) (ht : t < 65536) (h0 : t ≠ 0) (hm : m % 2 = 1) (hm16 : 65536 ≤ m) :
    print m l ≠ print m (brs l a t 16) := by
  have hne : m ≠ 0 := by omega
  intro h
  rw [print_V _ hne, print_V _ hne, V_brs l a t 16 (Nat.le_refl _) ha ht, md_eq_iff hne, xor_cancel, show t / 2 ^ (16 - 16) = t from by simp] at h
  have hd := D_shift hm _ h
  have hl1 : L t ≤ 16 := L_le.2 ht
  have hl2 : 16 < L m := le_of_L.2 hm16
  exact h0 (D_small hd (by omega))

end Go.Proofs.YtenkdpogdfcbgaaGreat.G

/- Frames, plain facts: what is put is got; a burst of sixteen bits is told. No program in sight. -/
namespace Go.Proofs.YtenkdpogdfcbgaaGreat.Fr

/-- The print by the great modulus. -/
def pr (l : List UInt8) : Nat := G.print 1073741907 l
/-- A number's four bytes. -/
def tl (p : Nat) : List UInt8 := [UInt8.ofNat (p / 16777216), UInt8.ofNat (p / 65536), UInt8.ofNat (p / 256), UInt8.ofNat p]
/-- A frame's first three bytes. -/
def hd (k n : Nat) : List UInt8 := [UInt8.ofNat k, UInt8.ofNat (n / 256), UInt8.ofNat n]
def pre (k : Nat) (b : List UInt8) : List UInt8 := hd k b.length ++ b
def enc (k : Nat) (b : List UInt8) : List UInt8 := pre k b ++ tl (pr (pre k b))

/-- The body's length that a frame tells. -/
def nn (l : List UInt8) : Nat := 256 * (l.getD 1 0).toNat + (l.getD 2 0).toNat

/-- What is got: error, kind, body, bytes used. -/
def get (l : List UInt8) : Nat × Nat × List UInt8 × Nat :=
  if l.length < 3 then (7, 0, [], 0)
  else if l.getD 0 0 = 0 ∨ 700 < nn l then (3, 0, [], 0)
  else if l.length < nn l + 7 then (7, 0, [], 0)
  else if tl (pr (l.take (nn l + 3))) ≠ (l.drop (nn l + 3)).take 4 then (6, 0, [], 0)
  else (0, (l.getD 0 0).toNat, (l.drop 3).take (nn l), nn l + 7)

theorem enc_length (k : Nat) (b : List UInt8) : (enc k b).length = b.length + 7 := by
  unfold enc pre hd tl
  simp only [List.length_append, List.length_cons, List.length_nil]
  omega

theorem enc_eq (k : Nat) (b more : List UInt8) : enc k b ++ more = UInt8.ofNat k :: UInt8.ofNat (b.length / 256) :: UInt8.ofNat b.length :: (b ++ (tl (pr (pre k b)) ++ more)) := by
  unfold enc
  rw [show pre k b = UInt8.ofNat k :: UInt8.ofNat (b.length / 256) :: UInt8.ofNat b.length :: b from rfl]
  simp only [List.cons_append, List.append_assoc]

theorem toNat_k {k : Nat} (h : k ≤ 255) : (UInt8.ofNat k).toNat = k := by rw [UInt8.toNat_ofNat']; omega

theorem nn_hd (k : Nat) (b x : List UInt8) (hb : b.length ≤ 700) : nn (UInt8.ofNat k :: UInt8.ofNat (b.length / 256) :: UInt8.ofNat b.length :: x) = b.length := by
  show 256 * (UInt8.ofNat (b.length / 256)).toNat + (UInt8.ofNat b.length).toNat = b.length
  rw [UInt8.toNat_ofNat', UInt8.toNat_ofNat']
  omega

theorem ofNat_ne {k : Nat} (h1 : 1 ≤ k) (h2 : k ≤ 255) : UInt8.ofNat k ≠ 0 := by
  intro h
  have := congrArg UInt8.toNat h
  rw [toNat_k h2] at this
  have e : (0 : UInt8).toNat = 0 := rfl
  rw [e] at this
  omega

theorem get_enc {k : Nat} {b : List UInt8} (h1 : 1 ≤ k) (h2 : k ≤ 255) (hb : b.length ≤ 700) (more : List UInt8) : get (enc k b ++ more) = (0, k, b, b.length + 7) := by
  have hl : (enc k b ++ more).length = b.length + 7 + more.length := by rw [List.length_append, enc_length]
  have hn : nn (enc k b ++ more) = b.length := by rw [enc_eq]; exact nn_hd k b _ hb
  have h0 : (enc k b ++ more).getD 0 0 = UInt8.ofNat k := by rw [enc_eq]; rfl
  have hp : (pre k b).length = b.length + 3 := by unfold pre hd; simp only [List.length_append, List.length_cons, List.length_nil]; omega
  have ht : (enc k b ++ more).take (b.length + 3) = pre k b := by
    unfold enc; rw [List.append_assoc, List.take_append_of_le_length (by omega), List.take_of_length_le (by omega)]
  have hd : ((enc k b ++ more).drop (b.length + 3)).take 4 = tl (pr (pre k b)) := by
    unfold enc; rw [List.append_assoc, ← hp, List.drop_left, List.take_append_of_le_length (by exact Nat.le_refl 4)]
    rfl
  have hbd : ((enc k b ++ more).drop 3).take b.length = b := by
    rw [enc_eq]
    show (b ++ _).take b.length = b
    rw [List.take_left]
  unfold get
  rw [hn, h0, ht, hd, hbd, toNat_k h2, if_neg (by omega), if_neg (by rintro (h | h); exact ofNat_ne h1 h2 h; omega), if_neg (by omega), if_neg (fun h => h rfl)]

theorem get_short {k : Nat} {b : List UInt8} (h1 : 1 ≤ k) (h2 : k ≤ 255) (hb : b.length ≤ 700) (j : Nat) (hj : j < b.length + 7) : get ((enc k b).take j) = (7, 0, [], 0) := by
  have hl : ((enc k b).take j).length = j := by rw [List.length_take, enc_length]; omega
  unfold get
  by_cases h3 : j < 3
  · rw [if_pos (by omega)]
  · obtain ⟨i, rfl⟩ : ∃ i, j = i + 3 := ⟨j - 3, by omega⟩
    have he : (enc k b).take (i + 3) = UInt8.ofNat k :: UInt8.ofNat (b.length / 256) :: UInt8.ofNat b.length :: ((b ++ tl (pr (pre k b))).take i) := by
      have := enc_eq k b []
      rw [List.append_nil, List.append_nil] at this
      rw [this]; rfl
    have hn : nn ((enc k b).take (i + 3)) = b.length := by rw [he]; exact nn_hd k b _ hb
    have h0 : ((enc k b).take (i + 3)).getD 0 0 = UInt8.ofNat k := by rw [he]; rfl
    rw [hn, h0, if_neg (by omega), if_neg (by rintro (h | h); exact ofNat_ne h1 h2 h; omega), if_pos (by omega)]

theorem enc_inj {k k' : Nat} {b b' : List UInt8} (h1 : 1 ≤ k) (h2 : k ≤ 255) (hb : b.length ≤ 700) (h1' : 1 ≤ k') (h2' : k' ≤ 255) (hb' : b'.length ≤ 700) : enc k b = enc k' b' ↔ k = k' ∧ b = b' := by
  constructor
  · intro h
    have e1 := get_enc h1 h2 hb []
    have e2 := get_enc h1' h2' hb' []
    rw [h, e2] at e1
    injection e1 with _ e1
    injection e1 with e3 e1
    injection e1 with e4 e1
    exact ⟨e3.symm, e4.symm⟩
  · rintro ⟨rfl, rfl⟩; rfl

/-- What is got was put so. -/
theorem get_ok {l : List UInt8} {k n : Nat} {b : List UInt8} (h : get l = (0, k, b, n)) :
    1 ≤ k ∧ k ≤ 255 ∧ b.length ≤ 700 ∧ n = b.length + 7 ∧ n ≤ l.length ∧ enc k b = l.take n := by
  unfold get at h
  split at h
  · simp at h
  rename_i h3
  split at h
  · simp at h
  rename_i h4
  split at h
  · simp at h
  rename_i h5
  split at h
  · simp at h
  rename_i h6
  injection h with _ h
  injection h with hk h
  injection h with hb hn
  have hnn : nn l ≤ 700 := by
    rcases Nat.lt_or_ge 700 (nn l) with h | h
    · exact absurd (Or.inr h) h4
    · exact h
  have hbl : b.length = nn l := by rw [← hb, List.length_take, List.length_drop]; omega
  have h0 : (l.getD 0 0).toNat ≠ 0 := by
    intro h; exact h4 (Or.inl (UInt8.toNat_inj.1 (by rw [h]; rfl)))
  have h0' := (l.getD 0 0).toNat_lt
  refine ⟨by omega, by omega, by omega, by omega, by omega, ?_⟩
  obtain ⟨x, y, z, l', rfl⟩ : ∃ x y z l', l = x :: y :: z :: l' := by
    match l, h3 with
    | x :: y :: z :: l', _ => exact ⟨x, y, z, l', rfl⟩
    | [], h => exact absurd (by decide) h
    | [_], h => exact absurd (by simp) h
    | [_, _], h => exact absurd (by simp) h
  have hnE : nn (x :: y :: z :: l') = 256 * y.toNat + z.toNat := rfl
  have hy := y.toNat_lt
  have hz := z.toNat_lt
  have hpre : pre k b = (x :: y :: z :: l').take (nn (x :: y :: z :: l') + 3) := by
    have hx : UInt8.ofNat k = x := by rw [← hk]; exact UInt8.ofNat_toNat
    have hy2 : UInt8.ofNat (b.length / 256) = y := by
      rw [hbl, hnE, show (256 * y.toNat + z.toNat) / 256 = y.toNat from by omega]; exact UInt8.ofNat_toNat
    have hz2 : UInt8.ofNat b.length = z := by
      apply UInt8.toNat_inj.1
      rw [UInt8.toNat_ofNat', hbl, hnE]; omega
    unfold pre hd
    rw [hx, hy2, hz2, ← hb]
    rfl
  have h6' : tl (pr ((x :: y :: z :: l').take (nn (x :: y :: z :: l') + 3))) = ((x :: y :: z :: l').drop (nn (x :: y :: z :: l') + 3)).take 4 := Classical.not_not.1 h6
  unfold enc
  rw [hpre, h6', ← hn, show nn (x :: y :: z :: l') + 7 = (nn (x :: y :: z :: l') + 3) + 4 from rfl]
  exact List.take_add.symm

/-- An error: nothing else. -/
theorem get_err {l : List UInt8} {e k n : Nat} {b : List UInt8} (h : get l = (e, k, b, n)) : e = 0 ∨ (e = 7 ∨ e = 3 ∨ e = 6) ∧ k = 0 ∧ b = [] ∧ n = 0 := by
  unfold get at h
  split at h
  · obtain ⟨rfl, rfl, rfl, rfl⟩ : 7 = e ∧ 0 = k ∧ [] = b ∧ 0 = n := by simpa using h
    exact Or.inr ⟨Or.inl rfl, rfl, rfl, rfl⟩
  split at h
  · obtain ⟨rfl, rfl, rfl, rfl⟩ : 3 = e ∧ 0 = k ∧ [] = b ∧ 0 = n := by simpa using h
    exact Or.inr ⟨Or.inr (Or.inl rfl), rfl, rfl, rfl⟩
  split at h
  · obtain ⟨rfl, rfl, rfl, rfl⟩ : 7 = e ∧ 0 = k ∧ [] = b ∧ 0 = n := by simpa using h
    exact Or.inr ⟨Or.inl rfl, rfl, rfl, rfl⟩
  split at h
  · obtain ⟨rfl, rfl, rfl, rfl⟩ : 6 = e ∧ 0 = k ∧ [] = b ∧ 0 = n := by simpa using h
    exact Or.inr ⟨Or.inr (Or.inr rfl), rfl, rfl, rfl⟩
  · injection h with h1 _
    exact Or.inl h1.symm

theorem V_tl {p : Nat} (h : p < 4294967296) : G.V 0 (tl p) = p := by
  unfold tl
  rw [G.V_cons, G.V_cons, G.V_cons, G.V_cons]
  show 256 * (256 * (256 * (256 * 0 ^^^ _) ^^^ _) ^^^ _) ^^^ _ = p
  have key : ∀ a c : Nat, c < 256 → 256 * a ^^^ c = 256 * a + c := by
    intro a c hc
    have := or_xor a c hc
    rw [← this, Nat.mul_comm a 256]
    exact (Nat.two_pow_add_eq_or_of_lt (i := 8) hc a).symm
  rw [UInt8.toNat_ofNat', UInt8.toNat_ofNat', UInt8.toNat_ofNat', UInt8.toNat_ofNat', key _ _ (by omega), key _ _ (by omega), key _ _ (by omega), key _ _ (by omega)]
  omega

theorem xor_high (B Q : Nat) (h : Q < 2 ^ 32) : (2 ^ 32 * B ^^^ Q) / 2 ^ 32 = B ∧ (2 ^ 32 * B ^^^ Q) % 2 ^ 32 = Q := by
  rw [Nat.xor_div_two_pow, Nat.xor_mod_two_pow, Nat.mul_div_cancel_left _ (by decide : 0 < 2 ^ 32), Nat.mul_mod_right, Nat.div_eq_of_lt h, Nat.mod_eq_of_lt h, Nat.xor_zero, Nat.zero_xor]
  exact ⟨rfl, rfl⟩

/-- No burst of sixteen bits makes a body and its print fit again. -/
theorem no_burst (B e t : Nat) (ht : t < 65536) (h0 : t ≠ 0) : 2 ^ 32 * B ^^^ G.md B 1073741907 ≠ 2 ^ e * t := by
  intro h
  have hm : (1073741907 : Nat) ≠ 0 := by decide
  have hL : G.L 1073741907 = 31 := G.L_eq (k := 30) (by decide) (by decide)
  have hQ := G.L_md B hm
  obtain ⟨Q, hq⟩ : ∃ Q, Q = G.md B 1073741907 := ⟨_, rfl⟩
  rw [← hq] at h hQ
  have hQ30 : Q < 2 ^ 30 := G.L_le.1 (by omega)
  obtain ⟨h1, h2⟩ := xor_high B Q (by omega)
  rw [h] at h1 h2
  have hlt : G.L t ≤ 16 := G.L_le.2 ht
  have hodd : (1073741907 : Nat) % 2 = 1 := by decide
  have hQ0 : Q ≠ 0 := by
    intro hz
    have hd : G.D 1073741907 B := (G.md_eq_zero hm).1 (by rw [← hq, hz])
    have hd2 : G.D 1073741907 (2 ^ e * t) := by
      rw [← h, hz, Nat.xor_zero, ← G.pow_mul]
      exact G.D_mul _ hd
    exact h0 (G.D_small (G.D_shift hodd e hd2) (by omega))
  have he : e < 32 := by
    rcases Nat.lt_or_ge e 32 with h | h
    · exact h
    · obtain ⟨j, rfl⟩ : ∃ j, e = 32 + j := ⟨e - 32, by omega⟩
      rw [Nat.pow_add, Nat.mul_assoc, Nat.mul_mod_right] at h2
      exact absurd h2.symm hQ0
  have hB : B < 2 ^ 16 := by
    rw [← h1]
    have : 2 ^ e ≤ 2 ^ 32 := Nat.pow_le_pow_right (by decide) (by omega)
    have h3 : 2 ^ e * t / 2 ^ 32 ≤ 2 ^ 32 * t / 2 ^ 32 := Nat.div_le_div_right (Nat.mul_le_mul_right _ this)
    rw [Nat.mul_div_cancel_left _ (by decide : 0 < 2 ^ 32)] at h3
    exact Nat.lt_of_le_of_lt h3 ht
  have hQB : Q = B := by rw [hq]; exact G.md_small (by have := G.L_le.2 hB; omega)
  have hdv : 2 ^ e ∣ Q := by
    rw [← h2]
    exact (Nat.dvd_mod_iff (Nat.pow_dvd_pow 2 (by omega : e ≤ 32))).2 (Nat.dvd_mul_right _ _)
  have hge : 2 ^ e ≤ Q := Nat.le_of_dvd (by omega) hdv
  have he16 : e < 16 := by
    rcases Nat.lt_or_ge e 16 with h | h
    · exact h
    · have := Nat.pow_le_pow_right (n := 2) (by decide) h; omega
  have : 2 ^ e * t < 2 ^ 32 := by
    have h3 : 2 ^ e ≤ 2 ^ 16 := Nat.pow_le_pow_right (by decide) (by omega)
    calc 2 ^ e * t ≤ 2 ^ 16 * t := Nat.mul_le_mul_right _ h3
      _ < 2 ^ 16 * 2 ^ 16 := Nat.mul_lt_mul_of_pos_left (by omega) (by decide)
      _ = 2 ^ 32 := by decide
  rw [Nat.div_eq_of_lt this] at h1
  omega

theorem V0_xor (l k : List UInt8) (p : Nat) (h : l.length = k.length) : G.V p l ^^^ G.V p k = G.V 0 l ^^^ G.V 0 k := by
  rw [G.V_split l p, G.V_split k p, h, G.xor4, Nat.xor_self, Nat.zero_xor]

theorem get_burst {k : Nat} {b : List UInt8} (h1 : 1 ≤ k) (h2 : k ≤ 255) (hb : b.length ≤ 700) {a t : Nat} (ha : a + 16 ≤ 8 * (b.length + 4)) (ht : t < 65536) (h0 : t ≠ 0) :
    get ((enc k b).take 3 ++ brs ((enc k b).drop 3) a t 16) = (6, 0, [], 0) := by
  have he := enc_eq k b []
  rw [List.append_nil, List.append_nil] at he
  have e3 : (enc k b).take 3 = hd k b.length := by rw [he]; rfl
  have ed : (enc k b).drop 3 = b ++ tl (pr (pre k b)) := by rw [he]; rfl
  rw [e3, ed]
  have hm : (1073741907 : Nat) ≠ 0 := by decide
  have hL : G.L 1073741907 = 31 := G.L_eq (k := 30) (by decide) (by decide)
  obtain ⟨p, hp⟩ : ∃ p, p = pr (pre k b) := ⟨_, rfl⟩
  have hpL : p < 2 ^ 30 := by rw [hp]; exact G.L_le.1 (by have := G.print_lt (pre k b) hm; unfold pr; omega)
  rw [← hp]
  obtain ⟨r, hr⟩ : ∃ r, r = brs (b ++ tl p) a t 16 := ⟨_, rfl⟩
  have hbl : (b ++ tl p).length = b.length + 4 := by rw [List.length_append]; rfl
  have hrl : r.length = b.length + 4 := by rw [hr, brs_length, hbl]
  have hV := G.V_brs (b ++ tl p) a t 16 (Nat.le_refl _) (by omega) ht
  rw [← hr] at hV ⊢
  rw [show t / 2 ^ (16 - 16) = t from by simp, hbl] at hV
  have hl : (hd k b.length ++ r).length = b.length + 7 := by rw [List.length_append, hrl]; show 3 + _ = _; omega
  have hn : nn (hd k b.length ++ r) = b.length := nn_hd k b r hb
  have h00 : (hd k b.length ++ r).getD 0 0 = UInt8.ofNat k := rfl
  have ht3 : (hd k b.length ++ r).take (b.length + 3) = hd k b.length ++ r.take b.length := by
    rw [List.take_append, List.take_of_length_le (by show 3 ≤ _; omega), show b.length + 3 - (hd k b.length).length = b.length from by show b.length + 3 - 3 = _; omega]
  have hd3 : ((hd k b.length ++ r).drop (b.length + 3)).take 4 = r.drop b.length := by
    rw [Nat.add_comm, ← List.drop_drop]
    show (r.drop b.length).take 4 = _
    rw [List.take_of_length_le (by rw [List.length_drop]; omega)]
  unfold get
  rw [hn, h00, ht3, hd3, if_neg (by omega), if_neg (by rintro (h | h); exact ofNat_ne h1 h2 h; omega), if_neg (by omega), if_pos]
  intro hE
  obtain ⟨b', hb'⟩ : ∃ b', b' = r.take b.length := ⟨_, rfl⟩
  rw [← hb'] at hE
  obtain ⟨p', hp'⟩ : ∃ p', p' = pr (hd k b.length ++ b') := ⟨_, rfl⟩
  rw [← hp'] at hE
  have hpL' : p' < 2 ^ 30 := by rw [hp']; exact G.L_le.1 (by have := G.print_lt (hd k b.length ++ b') hm; unfold pr; omega)
  have hb'l : b'.length = b.length := by rw [hb', List.length_take]; omega
  have hrE : r = b' ++ tl p' := by rw [hE, hb', List.take_append_drop]
  have hx := V0_xor r (b ++ tl p) 1 (by omega)
  rw [hV, Nat.xor_comm (G.V 1 (b ++ tl p)), G.xor_cancel'] at hx
  have hs : ∀ (x : List UInt8) (q : Nat), q < 2 ^ 30 → G.V 0 (x ++ tl q) = 2 ^ 32 * G.V 0 x ^^^ q := by
    intro x q hq
    rw [G.V_append, G.V_split, V_tl (by omega)]
    rfl
  rw [hrE, hs _ _ hpL', hs _ _ hpL, G.xor4, ← G.pow_xor] at hx
  have hpp : p' ^^^ p = G.md (G.V 0 b' ^^^ G.V 0 b) 1073741907 := by
    rw [hp', hp]
    unfold pr pre
    rw [G.print_V _ hm, G.print_V _ hm, ← G.md_xor _ _ hm, G.V_append, G.V_append, V0_xor b' b _ hb'l]
  rw [hpp] at hx
  exact no_burst _ _ _ ht h0 hx.symm

end Go.Proofs.YtenkdpogdfcbgaaGreat.Fr

/- The walks of package frame: tail, Put, Get. -/
namespace Go.Proofs.YtenkdpogdfcbgaaGreat
open Go.RowKit

/-- A text's beginning, as a rewrite rule. -/
theorem sl_to'' {P : Program} {t : TypeId} (hu : P.underlying t = some .string) {s : ByteArray} {y : Int} {b : Nat} (hy : y = b) (hb : b ≤ s.size) :
    ∀ w, (Instr.slice t (.string s) none (some (.int .i64 y)) none).run P w = .ok (.string (s.extract 0 b)) w := by
  intro w
  subst hy
  have := run_slice_string_to_if w t s .i64 (b : Int) hu
  rw [this, if_pos (by omega), Int.toNat_natCast]

/-- The rest of a text, as a rewrite rule. -/
theorem sl_from' {P : Program} {t : TypeId} (hu : P.underlying t = some .string) {s : ByteArray} {x : Int} {a : Nat} (hx : x = a) (hb : a ≤ s.size) :
    ∀ w, (Instr.slice t (.string s) (some (.int .i64 x)) none none).run P w = .ok (.string (s.extract a s.size)) w := by
  intro w
  subst hx
  have := run_slice_string_l (w := w) (t := t) (s := s) hu .i64 (a : Int) (by omega) (by omega)
  simpa using this

theorem addr_add (b j : Nat) : (⟨b, 0, none⟩ : Addr).add j = ⟨b, j, none⟩ := by unfold Addr.add; split <;> simp_all

theorem u8_wrap (n : Nat) : IntKind.u8.wrap (n : Int) = ((UInt8.ofNat n).toNat : Int) := by
  rw [UInt8.toNat_ofNat']
  unfold IntKind.wrap
  simp [IntKind.bits, IntKind.signed]

set_option maxRecDepth 100000 in
set_option maxHeartbeats 1000000 in
theorem tail_any (s : ByteArray) (w : World) (hs : s.size ≤ maxLen) :
    Calls Tryz.prog 53 #[.string s] w fun e w' => e = .returned (.string ⟨(Fr.tl (Fr.pr s.data.toList)).toArray⟩) ∧ Below w.heap.size w w' := by
  obtain ⟨p, hp⟩ : ∃ p, p = Fr.pr s.data.toList := ⟨_, rfl⟩
  have PL : Ans1 81 #[.int .i64 1073741907, .string s] (.int .i64 p) := fun w => by rw [hp]; exact Plain_any 1073741907 s w (by omega) (by omega) hs
  have hpb : p ≤ 2147483647 := by
    have := G.print_lt s.data.toList (m := 1073741907) (by omega)
    have h31 : G.L 1073741907 = 31 := G.L_eq (k := 30) (by decide) (by decide)
    have := G.L_le.1 (show G.L (G.print 1073741907 s.data.toList) ≤ 31 by omega)
    unfold Fr.pr at hp
    omega
  rw [← hp]
  have HP := Lib.hid hp
  clear hp hs
  unfold Fr.tl
  obtain ⟨B0, h0⟩ : ∃ x, x = UInt8.ofNat (p / 16777216) := ⟨_, rfl⟩
  obtain ⟨B1, h1⟩ : ∃ x, x = UInt8.ofNat (p / 65536) := ⟨_, rfl⟩
  obtain ⟨B2, h2⟩ : ∃ x, x = UInt8.ofNat (p / 256) := ⟨_, rfl⟩
  obtain ⟨B3, h3⟩ : ∃ x, x = UInt8.ofNat p := ⟨_, rfl⟩
  have x0 : (p : Int) / 16777216 = (B0.toNat : Int) := by rw [h0, UInt8.toNat_ofNat']; omega
  have x1 : (p : Int) / 65536 % 256 = (B1.toNat : Int) := by rw [h1, UInt8.toNat_ofNat']; omega
  have x2 : (p : Int) / 256 % 256 = (B2.toNat : Int) := by rw [h2, UInt8.toNat_ofNat']; omega
  have x3 : (p : Int) % 256 = (B3.toNat : Int) := by rw [h3, UInt8.toNat_ofNat']; omega
  rw [← h0, ← h1, ← h2, ← h3]
  clear h0 h1 h2 h3
  obtain ⟨W, hW⟩ : ∃ W, W = w.alloc (.cells #[.int .u8 (B0.toNat : Int), .int .u8 (B1.toNat : Int), .int .u8 (B2.toNat : Int), .int .u8 (B3.toNat : Int)] 5) := ⟨_, rfl⟩
  have hB : Below w.heap.size w W := by rw [hW]; exact (Below.refl _ w).alloc (Nat.le_refl _) _
  have hcells : ∀ (j : Nat) (hj : j < [B0, B1, B2, B3].length), W.cell? ((⟨w.heap.size, 0, none⟩ : Addr).add j) = some (.int .u8 (([B0, B1, B2, B3][j]).toNat : Int)) := by
    intro j hj
    rw [addr_add, hW]
    rcases j with _ | _ | _ | _ | j
    · exact cell_new w (k := 0) rfl
    · exact cell_new w (k := 1) rfl
    · exact cell_new w (k := 2) rfl
    · exact cell_new w (k := 3) rfl
    · exact absurd hj (by simp)
  have hcv := run_convert_bytes_back (P := Tryz.prog) W 107 9 5 ⟨w.heap.size, 0, none⟩ 4 [B0, B1, B2, B3] Tryz.underlying107 Tryz.underlying5 Tryz.underlying9 hcells
  rw [show [B0, B1, B2, B3].length = 4 from rfl, hW] at hcv
  have HB := Lib.hid hB
  clear hcells hB
  go_enter Tryz.func53, Tryz.ntmps53
  go_wp2_with fail
  with_reducible refine PL.use ?_
  rintro e w' ⟨rfl, rfl⟩
  go_wp2_with fail
  go_ret
  exact ⟨rfl, by rw [← hW]; exact HB.out⟩

set_option maxRecDepth 100000 in
set_option maxHeartbeats 1000000 in
theorem Put_ok (k : Nat) (b : ByteArray) (w : World) (h1 : 1 ≤ k) (h2 : k ≤ 255) (hb : b.size ≤ 700) :
    Calls Tryz.prog 29 #[.agg #[.int .i64 k, .string b]] w fun e w' => e = .returned (.tuple #[.string ⟨(Fr.enc k b.data.toList).toArray⟩, .int .i64 0]) ∧ Below w.heap.size w w' := by
  have hll : b.data.toList.length = b.size := by simp
  obtain ⟨n, hn⟩ : ∃ n, b.size = n := ⟨_, rfl⟩
  rw [hn] at hb hll
  obtain ⟨B0, h0⟩ : ∃ x, x = UInt8.ofNat k := ⟨_, rfl⟩
  obtain ⟨B1, h1'⟩ : ∃ x, x = UInt8.ofNat (n / 256) := ⟨_, rfl⟩
  obtain ⟨B2, h2'⟩ : ∃ x, x = UInt8.ofNat n := ⟨_, rfl⟩
  have x1 : (n : Int) / 256 = (B1.toNat : Int) := by rw [h1', UInt8.toNat_ofNat']; omega
  have x2 : (n : Int) % 256 = (B2.toNat : Int) := by rw [h2', UInt8.toNat_ofNat']; omega
  have hk0 : (k : Int) = (B0.toNat : Int) := by rw [h0, UInt8.toNat_ofNat']; omega
  have hkk : k = B0.toNat := by omega
  obtain ⟨H, hH⟩ : ∃ H : ByteArray, H = ⟨[B0, B1, B2].toArray⟩ := ⟨_, rfl⟩
  have hHs : H.size = 3 := by rw [hH]; rfl
  obtain ⟨S, hS⟩ : ∃ S, S = H ++ b := ⟨_, rfl⟩
  have hSs : S.size = 3 + n := by rw [hS, ByteArray.size_append, hHs, hn]
  have hSl : S.data.toList = Fr.pre k b.data.toList := by
    rw [hS, hH]
    unfold Fr.pre Fr.hd
    rw [hll, ← h0, ← h1', ← h2']
    simp
  obtain ⟨T, hT⟩ : ∃ T : ByteArray, T = ⟨(Fr.tl (Fr.pr S.data.toList)).toArray⟩ := ⟨_, rfl⟩
  have hTs : T.size = 4 := by rw [hT]; rfl
  have hres : S ++ T = ⟨(Fr.enc k b.data.toList).toArray⟩ := by
    apply ByteArray.ext
    apply Array.toList_inj.mp
    unfold Fr.enc
    rw [← hSl, hT]
    simp
  have TL : ∀ w, Calls Tryz.prog 53 #[.string S] w fun e w' => e = .returned (.string T) ∧ Below w.heap.size w w' := fun w => by rw [hT]; exact tail_any S w (by unfold maxLen; omega)
  rw [← hres]
  rw [hS] at TL hSs ⊢
  clear hres hT hSl hll h0 h1' h2' hS
  obtain ⟨W0, hW0⟩ : ∃ W, W = w.alloc (.cells #[.int .i64 (k : Int), .string b] 61) := ⟨_, rfl⟩
  obtain ⟨W, hW⟩ : ∃ W, W = W0.alloc (.cells #[.int .u8 (k : Int), .int .u8 (B1.toNat : Int), .int .u8 (B2.toNat : Int)] 5) := ⟨_, rfl⟩
  have hB0 : Below w.heap.size w W0 := by rw [hW0]; exact (Below.refl _ w).alloc (Nat.le_refl _) _
  have hB : Below w.heap.size w W := by rw [hW]; exact hB0.alloc hB0.size _
  have hsz0 : W0.heap.size = w.heap.size + 1 := by rw [hW0, World.size_alloc]
  have hcells : ∀ (j : Nat) (hj : j < [B0, B1, B2].length), W.cell? ((⟨w.heap.size + 1, 0, none⟩ : Addr).add j) = some (.int .u8 (([B0, B1, B2][j]).toNat : Int)) := by
    intro j hj
    rw [addr_add, hW, ← hsz0, hk0]
    rcases j with _ | _ | _ | j
    · exact cell_new W0 (k := 0) rfl
    · exact cell_new W0 (k := 1) rfl
    · exact cell_new W0 (k := 2) rfl
    · exact absurd hj (by simp)
  have hcv := run_convert_bytes_back (P := Tryz.prog) W 107 9 5 ⟨w.heap.size + 1, 0, none⟩ 3 [B0, B1, B2] Tryz.underlying107 Tryz.underlying5 Tryz.underlying9 hcells
  rw [show [B0, B1, B2].length = 3 from rfl, ← hH, hW, hW0] at hcv
  have HB : Hid (∀ W', W' = W → Below w.heap.size w W') := Lib.hid (fun W' h => by rw [h]; exact hB)
  rw [hW, hW0] at HB
  clear hcells hB hW hW0 hB0 hsz0 hH hk0 hkk
  go_enter Tryz.func29, Tryz.ntmps29
  go_wp2_with fail
  with_reducible refine (TL _).mono ?_
  rintro e w' ⟨rfl, hb'⟩
  have hB' := ((HB.out _ rfl).trans (hb'.mono (HB.out _ rfl).size))
  clear hb'
  go_wp2_with fail
  go_ret2
  exact ⟨rfl, hB'⟩

set_option maxHeartbeats 1000000 in
theorem Put_arg (k : Int) (b : ByteArray) (w : World) (h : k < 1 ∨ 255 < k) :
    Calls Tryz.prog 29 #[.agg #[.int .i64 k, .string b]] w fun e w' => e = .returned (.tuple #[.string ⟨#[]⟩, .int .i64 1]) ∧ Below w.heap.size w w' := by
  have HB : Hid (Below w.heap.size w (w.alloc (.cells #[.int .i64 k, .string b] 61))) := Lib.hid ((Below.refl _ w).alloc (Nat.le_refl _) _)
  by_cases h1 : k < 1
  all_goals
    have h2 : k < 1 ∨ 1 ≤ k ∧ 255 < k := by omega
    clear h
  · clear h2
    go_enter Tryz.func29, Tryz.ntmps29
    go_wp2_with fail
    go_ret2
    exact ⟨rfl, HB.out⟩
  · have h3 : 255 < k := by omega
    clear h2
    go_enter Tryz.func29, Tryz.ntmps29
    go_wp2_with fail
    go_ret2
    exact ⟨rfl, HB.out⟩

set_option maxHeartbeats 1000000 in
theorem FPut_large (k : Int) (b : ByteArray) (w : World) (h1 : 1 ≤ k) (h2 : k ≤ 255) (hb : 700 < b.size) (hb2 : b.size ≤ maxLen) :
    Calls Tryz.prog 29 #[.agg #[.int .i64 k, .string b]] w fun e w' => e = .returned (.tuple #[.string ⟨#[]⟩, .int .i64 2]) ∧ Below w.heap.size w w' := by
  have HB : Hid (Below w.heap.size w (w.alloc (.cells #[.int .i64 k, .string b] 61))) := Lib.hid ((Below.refl _ w).alloc (Nat.le_refl _) _)
  unfold maxLen at hb2
  go_enter Tryz.func29, Tryz.ntmps29
  go_wp2_with fail
  go_ret2
  exact ⟨rfl, HB.out⟩

theorem results_cell_tmp2 {fn : Func} {p u v : Tmp} {ty : TypeId} (h : fn.results = #[.cell p ty, .tmp u, .tmp v]) (tmps : Array Value) (P : Program) (w : World) :
    (results fn tmps).run P w =
      ((asAddr (tmps.getD p undef)).run P w).andThen fun a w₁ => ((loadVar ty a).run P w₁).andThen fun x w₂ => .ok (.tuple #[x, tmps.getD u undef, tmps.getD v undef]) w₂ := by
  simp only [results, h]
  simp [Sem.run_bind, Result.andThen]

/-- What Get answers. -/
def gotten (s : ByteArray) : Value := .tuple #[.agg #[.int .i64 ((Fr.get s.data.toList).2.1 : Int), .string ⟨(Fr.get s.data.toList).2.2.1.toArray⟩], .int .i64 ((Fr.get s.data.toList).2.2.2 : Int), .int .i64 ((Fr.get s.data.toList).1 : Int)]

theorem fr_short {l : List UInt8} (h : l.length < 3) : Fr.get l = (7, 0, [], 0) := by unfold Fr.get; rw [if_pos h]

/-- The result cell of Get, read. -/
theorem get_result {tmps : Array Value} {W : World} {g : Nat} {k : Int} {b : ByteArray} {n e : Value} (h2 : tmps.getD 2 undef = .pointer (some ⟨g, 0, none⟩)) (h3 : tmps.getD 3 undef = n) (h4 : tmps.getD 4 undef = e)
    (c : W.cell? ⟨g, 0, none⟩ = some (.int .i64 k) ∧ W.cell? ⟨g, 1, none⟩ = some (.string b)) :
    (results Tryz.f26 tmps).run Tryz.prog W = .ok (.tuple #[.agg #[.int .i64 k, .string b], n, e]) W := by
  obtain ⟨c0, c1⟩ := c
  rw [results_cell_tmp2 rfl, h2, h3, h4]
  go_simp

theorem two_set {W : World} {g : Nat} {x0 x1 : Value} (u v : Value) (c0 : W.cell? ⟨g, 0, none⟩ = some x0) (c1 : W.cell? ⟨g, 1, none⟩ = some x1) :
    ((W.setCell ⟨g, 0, none⟩ u).setCell ⟨g, 1, none⟩ v).cell? ⟨g, 0, none⟩ = some u ∧ ((W.setCell ⟨g, 0, none⟩ u).setCell ⟨g, 1, none⟩ v).cell? ⟨g, 1, none⟩ = some v := by
  have h1 : (W.setCell ⟨g, 0, none⟩ u).cell? ⟨g, 1, none⟩ = some x1 := by rw [World.cell?_setCell_other _ _ _ _ (by simp)]; exact c1
  refine ⟨?_, World.cell?_setCell_same _ _ _ h1⟩
  rw [World.cell?_setCell_other _ _ _ _ (by simp)]
  exact World.cell?_setCell_same _ _ _ c0

theorem below_set {W w : World} {N g : Nat} (h : Below N w W) (hg : N ≤ g) (u v : Value) : Below N w ((W.setCell ⟨g, 0, none⟩ u).setCell ⟨g, 1, none⟩ v) := (h.setCell hg u).setCell hg v

theorem below_dn {B : Nat} {w w' : World} (h : Below B w w') (j : Nat) : Below B w (w'.drewN j) := ⟨h.os, h.tape, h.output, h.size, h.block⟩

theorem new_frozen (w : World) (T : TypeId) (x y : Value) (j : Nat) : (w.alloc (.cells #[x, y] T)).frozen? ⟨w.heap.size, j, none⟩ = false := by
  have h : (w.alloc (.cells #[x, y] T)).heap[w.heap.size]? = some (.cells #[x, y] T) := by show (w.heap.push _)[w.heap.size]? = _; rw [Array.getElem?_push, if_pos rfl]
  unfold World.frozen?
  rw [h]
  simp

theorem below_back {N : Nat} {a b c : World} (h : Below N b c) (k : Below N a b) : Below N a c := k.trans h

/-- The result's cell, new. -/
theorem new_frame (w : World) (T : TypeId) (x y : Value) : (w.alloc (.cells #[x, y] T)).cell? ⟨w.heap.size, 0, none⟩ = some x ∧ (w.alloc (.cells #[x, y] T)).cell? ⟨w.heap.size, 1, none⟩ = some y :=
  ⟨cell_new w (k := 0) rfl, cell_new w (k := 1) rfl⟩

set_option maxRecDepth 100000 in
set_option maxHeartbeats 2000000 in
theorem Get_short (s : ByteArray) (w : World) (h3 : s.size < 3) :
    Calls Tryz.prog 26 #[.string s] w fun e w' => e = .returned (.tuple #[.agg #[.int .i64 0, .string ⟨#[]⟩], .int .i64 0, .int .i64 7]) ∧ Below w.heap.size w w' := by
  have HB0 : Hid (Below w.heap.size w (w.alloc (.cells #[.int .i64 0, .string ⟨#[]⟩] 61))) := Lib.hid ((Below.refl _ w).alloc (Nat.le_refl _) _)
  go_enter Tryz.func26, Tryz.ntmps26
  go_wp2_with fail
  (try simp only [Exit.inBlock, Exit.then])
  refine bodyPost_ret (v := .tuple #[.agg #[.int .i64 0, .string ⟨#[]⟩], .int .i64 0, .int .i64 7]) ?_ rfl ⟨rfl, ?_⟩
  · exact get_result rfl rfl rfl (new_frame w _ _ _)
  · exact HB0.out

theorem or_256 (a b : Nat) (hb : b < 256) (ha : a < 256) : bits .or .i64 ((a : Int) * 256) (b : Int) = ((256 * a + b : Nat) : Int) := by
  rw [show (a : Int) * 256 = ((256 * a : Nat) : Int) from by omega, i64_or_nat _ _ (by omega) (by omega)]
  congr 1
  exact (Nat.two_pow_add_eq_or_of_lt (i := 8) hb a).symm

set_option maxRecDepth 100000 in
set_option maxHeartbeats 4000000 in
theorem Get_form (s : ByteArray) (w : World) (b0 b1 b2 n : Nat) (hs : s.size ≤ 9223372036854775807) (h3 : 3 ≤ s.size) (e0 : bt s.data.toList 0 = b0) (e1 : bt s.data.toList 1 = b1) (e2 : bt s.data.toList 2 = b2) (l1 : b1 < 256) (l2 : b2 < 256)
    (hn : n = 256 * b1 + b2) (h : ((b0 : Int) == 0) = true ∨ ((b0 : Int) == 0) = false ∧ decide ((700 : Int) < (n : Int)) = true) :
    Calls Tryz.prog 26 #[.string s] w fun e w' => e = .returned (.tuple #[.agg #[.int .i64 0, .string ⟨#[]⟩], .int .i64 0, .int .i64 3]) ∧ Below w.heap.size w w' := by
  have HB0 : Hid (Below w.heap.size w (w.alloc (.cells #[.int .i64 0, .string ⟨#[]⟩] 61))) := Lib.hid ((Below.refl _ w).alloc (Nat.le_refl _) _)
  have y0 := idx_str Tryz.underlying9 (s := s) (x := 0) (k := 0) rfl (by omega)
  have y1 := idx_str Tryz.underlying9 (s := s) (x := 1) (k := 1) rfl (by omega)
  have y2 := idx_str Tryz.underlying9 (s := s) (x := 2) (k := 2) rfl (by omega)
  rw [e0] at y0; rw [e1] at y1; rw [e2] at y2
  have ho := or_256 b1 b2 l2 l1
  rw [← hn] at ho
  have hnb : n ≤ 65535 := by omega
  clear e0 e1 e2 hn
  have c := new_frame w 61 (.int .i64 0) (.string ⟨#[]⟩)
  have C := Lib.hid c
  clear c
  rcases h with h | ⟨h, h'⟩
  all_goals
    go_enter Tryz.func26, Tryz.ntmps26
    go_wp2_with fail
    go_quiet (fail)
    go_wp2_with fail
    (try simp only [Exit.inBlock, Exit.then])
    refine bodyPost_ret (v := .tuple #[.agg #[.int .i64 0, .string ⟨#[]⟩], .int .i64 0, .int .i64 3]) ?_ rfl ⟨rfl, ?_⟩
    · exact get_result rfl rfl rfl (two_set _ _ C.out.1 C.out.2)
    · exact below_set (below_dn HB0.out _) (Nat.le_refl _) _ _

set_option maxRecDepth 100000 in
set_option maxHeartbeats 4000000 in
theorem Get_cut (s : ByteArray) (w : World) (b0 b1 b2 n : Nat) (hs : s.size ≤ 9223372036854775807) (h3 : 3 ≤ s.size) (e0 : bt s.data.toList 0 = b0) (e1 : bt s.data.toList 1 = b1) (e2 : bt s.data.toList 2 = b2) (l1 : b1 < 256) (l2 : b2 < 256)
    (hn : n = 256 * b1 + b2) (h0 : ((b0 : Int) == 0) = false) (hn7 : n ≤ 700) (hc : s.size < n + 7) :
    Calls Tryz.prog 26 #[.string s] w fun e w' => e = .returned (.tuple #[.agg #[.int .i64 0, .string ⟨#[]⟩], .int .i64 0, .int .i64 7]) ∧ Below w.heap.size w w' := by
  have HB0 : Hid (Below w.heap.size w (w.alloc (.cells #[.int .i64 0, .string ⟨#[]⟩] 61))) := Lib.hid ((Below.refl _ w).alloc (Nat.le_refl _) _)
  have y0 := idx_str Tryz.underlying9 (s := s) (x := 0) (k := 0) rfl (by omega)
  have y1 := idx_str Tryz.underlying9 (s := s) (x := 1) (k := 1) rfl (by omega)
  have y2 := idx_str Tryz.underlying9 (s := s) (x := 2) (k := 2) rfl (by omega)
  rw [e0] at y0; rw [e1] at y1; rw [e2] at y2
  have ho := or_256 b1 b2 l2 l1
  rw [← hn] at ho
  have hd : decide ((700 : Int) < (n : Int)) = false := decide_eq_false (by omega)
  clear e0 e1 e2 hn
  have c := new_frame w 61 (.int .i64 0) (.string ⟨#[]⟩)
  have C := Lib.hid c
  clear c
  go_enter Tryz.func26, Tryz.ntmps26
  go_wp2_with fail
  go_quiet (fail)
  go_wp2_with fail
  (try simp only [Exit.inBlock, Exit.then])
  refine bodyPost_ret (v := .tuple #[.agg #[.int .i64 0, .string ⟨#[]⟩], .int .i64 0, .int .i64 7]) ?_ rfl ⟨rfl, ?_⟩
  · exact get_result rfl rfl rfl (two_set _ _ C.out.1 C.out.2)
  · exact below_set (below_dn HB0.out _) (Nat.le_refl _) _ _

set_option maxRecDepth 100000 in
set_option maxHeartbeats 4000000 in
theorem Get_rest (s T U B : ByteArray) (w : World) (b0 b1 b2 n : Nat) (hs : s.size ≤ 9223372036854775807) (e0 : bt s.data.toList 0 = b0) (e1 : bt s.data.toList 1 = b1) (e2 : bt s.data.toList 2 = b2) (l0 : b0 < 256) (l1 : b1 < 256) (l2 : b2 < 256)
    (hn : n = 256 * b1 + b2) (h0 : ((b0 : Int) == 0) = false) (hn7 : n ≤ 700) (hc : n + 7 ≤ s.size) (hT : T = ⟨(Fr.tl (Fr.pr (s.data.toList.take (n + 3)))).toArray⟩) (hU : U = s.extract (n + 3) (n + 7)) (hB : B = s.extract 3 (n + 3)) (eq : Bool) (heq : (T.toList == U.toList) = eq) :
    Calls Tryz.prog 26 #[.string s] w fun e w' => e = .returned (if eq = true then .tuple #[.agg #[.int .i64 b0, .string B], .int .i64 (n + 7 : Nat), .int .i64 0] else .tuple #[.agg #[.int .i64 0, .string ⟨#[]⟩], .int .i64 0, .int .i64 6]) ∧ Below w.heap.size w w' := by
  have HB0 : Hid (Below w.heap.size w (w.alloc (.cells #[.int .i64 0, .string ⟨#[]⟩] 61))) := Lib.hid ((Below.refl _ w).alloc (Nat.le_refl _) _)
  have y0 := idx_str Tryz.underlying9 (s := s) (x := 0) (k := 0) rfl (by omega)
  have y1 := idx_str Tryz.underlying9 (s := s) (x := 1) (k := 1) rfl (by omega)
  have y2 := idx_str Tryz.underlying9 (s := s) (x := 2) (k := 2) rfl (by omega)
  rw [e0] at y0; rw [e1] at y1; rw [e2] at y2
  have ho := or_256 b1 b2 l2 l1
  rw [← hn] at ho
  have hd : decide ((700 : Int) < (n : Int)) = false := decide_eq_false (by omega)
  have z1 := sl_to'' Tryz.underlying9 (s := s) (y := (n : Int) + 3) (b := n + 3) (by omega) (by omega)
  have z2 := sl_str Tryz.underlying9 (s := s) (x := (n : Int) + 3) (y := (n : Int) + 7) (a := n + 3) (b := n + 7) (by omega) (by omega) (by omega) (by omega)
  have z3 := sl_str Tryz.underlying9 (s := s) (x := 3) (y := (n : Int) + 3) (a := 3) (b := n + 3) rfl (by omega) (by omega) (by omega)
  obtain ⟨P, hP⟩ : ∃ P, P = s.extract 0 (n + 3) := ⟨_, rfl⟩
  have hPl : P.data.toList = s.data.toList.take (n + 3) := by rw [hP, Lib.extract_data]; simp
  have TL : ∀ w, Calls Tryz.prog 53 #[.string P] w fun e w' => e = .returned (.string T) ∧ Below w.heap.size w w' := fun w => by rw [hT, ← hPl]; exact tail_any P w (by rw [hP, ByteArray.size_extract]; unfold maxLen; omega)
  rw [← hP] at z1; rw [← hU] at z2; rw [← hB] at z3
  have p0 : IntKind.i64.wrap (b0 : Int) = (b0 : Int) := IntWalk.i64_in _ (by omega)
  have p1 : IntKind.i64.wrap ((n : Int) + 3) = (n : Int) + 3 := IntWalk.i64_in _ (by omega)
  have p2 : IntKind.i64.wrap ((n : Int) + 7) = (n : Int) + 7 := IntWalk.i64_in _ (by omega)
  clear e0 e1 e2 hn hT hU hB hP hPl
  have c := new_frame w 61 (.int .i64 0) (.string ⟨#[]⟩)
  have C := Lib.hid c
  clear c
  have hsz : w.heap.size < (w.alloc (.cells #[.int .i64 0, .string ⟨#[]⟩] 61)).heap.size := by rw [World.size_alloc]; omega
  rcases eq with _ | _
  · have hne : (T.toList != U.toList) = true := by rw [bne, heq]; rfl
    go_enter Tryz.func26, Tryz.ntmps26
    go_wp2_with fail
    go_quiet (fail)
    go_wp2_with fail
    go_region_with (go_at_call 53; refine (TL _).mono ?_; rintro e w' ⟨rfl, hb'⟩)
    all_goals
      have hc : w'.cell? ⟨w.heap.size, 0, none⟩ = some (.int .i64 0) ∧ w'.cell? ⟨w.heap.size, 1, none⟩ = some (.string ⟨#[]⟩) :=
        ⟨(hb'.cell (p := ⟨w.heap.size, 0, none⟩) hsz).trans C.out.1, (hb'.cell (p := ⟨w.heap.size, 1, none⟩) hsz).trans C.out.2⟩
      have HB' := Lib.hid (below_back (hb'.mono (B' := w.heap.size) (Nat.le_of_lt hsz)) ⟨HB0.out.os, HB0.out.tape, HB0.out.output, HB0.out.size, HB0.out.block⟩)
      obtain ⟨hc0, hc1⟩ := hc
      have hf0 : w'.frozen? ⟨w.heap.size, 0, none⟩ = false := (hb'.frozen (p := ⟨w.heap.size, 0, none⟩) hsz).trans (new_frozen w _ _ _ 0)
      have hf1 : w'.frozen? ⟨w.heap.size, 1, none⟩ = false := (hb'.frozen (p := ⟨w.heap.size, 1, none⟩) hsz).trans (new_frozen w _ _ _ 1)
      clear hb'
      go_wp2_with fail
      (try simp only [Exit.inBlock, Exit.then])
      refine bodyPost_ret (v := .tuple #[.agg #[.int .i64 0, .string ⟨#[]⟩], .int .i64 0, .int .i64 6]) ?_ rfl ⟨rfl, ?_⟩
      · exact get_result rfl rfl rfl (two_set _ _ hc0 hc1)
      · exact below_set HB'.out (Nat.le_refl _) _ _
  · have hne : (T.toList != U.toList) = false := by rw [bne, heq]; rfl
    go_enter Tryz.func26, Tryz.ntmps26
    go_wp2_with fail
    go_quiet (fail)
    go_wp2_with fail
    go_region_with (go_at_call 53; refine (TL _).mono ?_; rintro e w' ⟨rfl, hb'⟩)
    all_goals
      have hc : w'.cell? ⟨w.heap.size, 0, none⟩ = some (.int .i64 0) ∧ w'.cell? ⟨w.heap.size, 1, none⟩ = some (.string ⟨#[]⟩) :=
        ⟨(hb'.cell (p := ⟨w.heap.size, 0, none⟩) hsz).trans C.out.1, (hb'.cell (p := ⟨w.heap.size, 1, none⟩) hsz).trans C.out.2⟩
      have HB' := Lib.hid (below_back (hb'.mono (B' := w.heap.size) (Nat.le_of_lt hsz)) ⟨HB0.out.os, HB0.out.tape, HB0.out.output, HB0.out.size, HB0.out.block⟩)
      obtain ⟨hc0, hc1⟩ := hc
      have hf0 : w'.frozen? ⟨w.heap.size, 0, none⟩ = false := (hb'.frozen (p := ⟨w.heap.size, 0, none⟩) hsz).trans (new_frozen w _ _ _ 0)
      have hf1 : w'.frozen? ⟨w.heap.size, 1, none⟩ = false := (hb'.frozen (p := ⟨w.heap.size, 1, none⟩) hsz).trans (new_frozen w _ _ _ 1)
      clear hb'
      go_wp2_with fail
      go_region
      all_goals
        go_wp2_with fail
        (try simp only [Exit.inBlock, Exit.then])
        refine bodyPost_ret (v := .tuple #[.agg #[.int .i64 b0, .string B], .int .i64 (n + 7 : Nat), .int .i64 0]) ?_ rfl ⟨rfl, ?_⟩
        · exact get_result rfl rfl rfl (two_set _ _ hc0 hc1)
        · exact below_dn (below_set HB'.out (Nat.le_refl _) _ _) 1

end Go.Proofs.YtenkdpogdfcbgaaGreat

/- frame.Get and frame.Put in the form that the laws take. -/
namespace Go.Proofs.YtenkdpogdfcbgaaGreat
open Go.RowKit

/-- What a call of Get leaves: kind, body, bytes used, error. -/
def GetAns (s : ByteArray) (k : Nat) (b : ByteArray) (n e : Nat) : Prop := ∀ w, Calls Tryz.prog 26 #[.string s] w fun r w' => r = .returned (.tuple #[.agg #[.int .i64 k, .string b], .int .i64 n, .int .i64 e]) ∧ Below w.heap.size w w'

theorem GetAns.use {s b : ByteArray} {k n e : Nat} {w : World} {R : Ending → World → Prop} (h : GetAns s k b n e)
    (hR : ∀ r w', r = .returned (.tuple #[.agg #[.int .i64 k, .string b], .int .i64 n, .int .i64 e]) ∧ Below w.heap.size w w' → R r w') : Calls Tryz.prog 26 #[.string s] w R := (h w).mono hR

/-- What a call of Put leaves. -/
def PutAns (k : Int) (b t : ByteArray) (e : Nat) : Prop := ∀ w, Calls Tryz.prog 29 #[.agg #[.int .i64 k, .string b]] w fun r w' => r = .returned (.tuple #[.string t, .int .i64 e]) ∧ Below w.heap.size w w'

theorem PutAns.use {k : Int} {b t : ByteArray} {e : Nat} {w : World} {R : Ending → World → Prop} (h : PutAns k b t e)
    (hR : ∀ r w', r = .returned (.tuple #[.string t, .int .i64 e]) ∧ Below w.heap.size w w' → R r w') : Calls Tryz.prog 29 #[.agg #[.int .i64 k, .string b]] w R := (h w).mono hR

theorem mk_list (s : ByteArray) : (⟨s.data.toList.toArray⟩ : ByteArray) = s := by cases s; simp

theorem getAns {s : ByteArray} {k n e : Nat} {b : List UInt8} (hs : s.size ≤ maxLen) (h : Fr.get s.data.toList = (e, k, b, n)) : GetAns s k ⟨b.toArray⟩ n e := by
  intro w
  have hll : s.data.toList.length = s.size := by simp
  have hs' := hs
  unfold maxLen at hs'
  have l0 := bt_hi s.data.toList 0
  have l1 := bt_hi s.data.toList 1
  have l2 := bt_hi s.data.toList 2
  have e0 : bt s.data.toList 0 = ((s.data.toList.getD 0 0).toNat : Int) := rfl
  have e1 : bt s.data.toList 1 = ((s.data.toList.getD 1 0).toNat : Int) := rfl
  have e2 : bt s.data.toList 2 = ((s.data.toList.getD 2 0).toNat : Int) := rfl
  have hnn : Fr.nn s.data.toList = 256 * (s.data.toList.getD 1 0).toNat + (s.data.toList.getD 2 0).toNat := rfl
  unfold Fr.get at h
  by_cases h3 : s.data.toList.length < 3
  · rw [if_pos h3] at h
    obtain ⟨rfl, rfl, rfl, rfl⟩ : 7 = e ∧ 0 = k ∧ [] = b ∧ 0 = n := by simpa using h
    exact Get_short s w (by omega)
  rw [if_neg h3] at h
  by_cases h4 : s.data.toList.getD 0 0 = 0 ∨ 700 < Fr.nn s.data.toList
  · rw [if_pos h4] at h
    obtain ⟨rfl, rfl, rfl, rfl⟩ : 3 = e ∧ 0 = k ∧ [] = b ∧ 0 = n := by simpa using h
    refine Get_form s w _ _ _ _ (by omega) (by omega) e0 e1 e2 (by omega) (by omega) hnn ?_
    by_cases hz : s.data.toList.getD 0 0 = 0
    · left; rw [hz]; rfl
    · right
      refine ⟨beq_eq_false_iff_ne.2 (fun h => hz (UInt8.toNat_inj.1 (by show _ = 0; omega))), decide_eq_true ?_⟩
      rcases h4 with h4 | h4
      · exact absurd h4 hz
      · omega
  rw [if_neg h4] at h
  have hz : ((((s.data.toList.getD 0 0).toNat : Nat) : Int) == 0) = false := beq_eq_false_iff_ne.2 (fun h => h4 (Or.inl (UInt8.toNat_inj.1 (by show _ = 0; omega))))
  have hn7 : Fr.nn s.data.toList ≤ 700 := by
    rcases Nat.lt_or_ge 700 (Fr.nn s.data.toList) with h | h
    · exact absurd (Or.inr h) h4
    · exact h
  by_cases h5 : s.data.toList.length < Fr.nn s.data.toList + 7
  · rw [if_pos h5] at h
    obtain ⟨rfl, rfl, rfl, rfl⟩ : 7 = e ∧ 0 = k ∧ [] = b ∧ 0 = n := by simpa using h
    exact Get_cut s w _ _ _ _ (by omega) (by omega) e0 e1 e2 (by omega) (by omega) hnn hz hn7 (by omega)
  rw [if_neg h5] at h
  have hU : (s.extract (Fr.nn s.data.toList + 3) (Fr.nn s.data.toList + 7)).data.toList = (s.data.toList.drop (Fr.nn s.data.toList + 3)).take 4 := by
    rw [Lib.extract_data, show Fr.nn s.data.toList + 7 - (Fr.nn s.data.toList + 3) = 4 from by omega]
  have key := fun eq heq => Get_rest s ⟨(Fr.tl (Fr.pr (s.data.toList.take (Fr.nn s.data.toList + 3)))).toArray⟩ _ _ w _ _ _ _ (by omega) e0 e1 e2 (by omega) (by omega) (by omega) hnn hz hn7 (by omega) rfl rfl rfl eq heq
  by_cases h6 : Fr.tl (Fr.pr (s.data.toList.take (Fr.nn s.data.toList + 3))) = (s.data.toList.drop (Fr.nn s.data.toList + 3)).take 4
  · rw [if_neg (fun h => h h6)] at h
    obtain ⟨rfl, rfl, rfl, rfl⟩ : 0 = e ∧ (s.data.toList.getD 0 0).toNat = k ∧ (s.data.toList.drop 3).take (Fr.nn s.data.toList) = b ∧ Fr.nn s.data.toList + 7 = n := by simpa using h
    have hB : (⟨((s.data.toList.drop 3).take (Fr.nn s.data.toList)).toArray⟩ : ByteArray) = s.extract 3 (Fr.nn s.data.toList + 3) := by
      rw [Lib.extract_eq, show Fr.nn s.data.toList + 3 - 3 = Fr.nn s.data.toList from by omega]
    rw [hB]
    exact key true (by rw [beq_iff_eq, ByteArray.toList_eq, ByteArray.toList_eq, hU]; exact h6)
  · rw [if_pos h6] at h
    obtain ⟨rfl, rfl, rfl, rfl⟩ : 6 = e ∧ 0 = k ∧ [] = b ∧ 0 = n := by simpa using h
    exact key false (by rw [beq_eq_false_iff_ne, ByteArray.toList_eq, ByteArray.toList_eq, hU]; exact h6)

/-- What Put answers. -/
inductive PutIs (k : Int) (b : ByteArray) : Prop
  | ok (a : Nat) (h1 : 1 ≤ a) (h2 : a ≤ 255) (hb : b.size ≤ 700) (ha : k = a)
  | bad (e : Nat) (he : e = 1 ∨ e = 2) (h : PutAns k b ⟨#[]⟩ e)

theorem put_is (k : Int) (b : ByteArray) (hb : b.size ≤ maxLen) : PutIs k b := by
  by_cases hk : k < 1 ∨ 255 < k
  · exact .bad 1 (Or.inl rfl) (fun w => Put_arg k b w hk)
  · by_cases hl : 700 < b.size
    · exact .bad 2 (Or.inr rfl) (fun w => FPut_large k b w (by omega) (by omega) hl hb)
    · exact .ok k.toNat (by omega) (by omega) (by omega) (by omega)

theorem putAns {k : Nat} {b t : ByteArray} (h1 : 1 ≤ k) (h2 : k ≤ 255) (hb : b.size ≤ 700) (ht : t.data.toList = Fr.enc k b.data.toList) : PutAns k b t 0 := fun w => by
  have := Put_ok k b w h1 h2 hb
  rwa [← ht, mk_list] at this

/-- Two frames that came in, boxed; what was there stands. -/
structure Boxed2 (w W : World) (k : Int) (a : ByteArray) (j : Int) (b : ByteArray) : Prop where
  c0 : W.cell? ⟨w.heap.size, 0, none⟩ = some (.int .i64 k)
  c1 : W.cell? ⟨w.heap.size, 1, none⟩ = some (.string a)
  d0 : W.cell? ⟨w.heap.size + 1, 0, none⟩ = some (.int .i64 j)
  d1 : W.cell? ⟨w.heap.size + 1, 1, none⟩ = some (.string b)
  size : w.heap.size + 2 ≤ W.heap.size
  below : Below w.heap.size w W

theorem Boxed2.keep {w W W' : World} {k j : Int} {a b : ByteArray} (h : Boxed2 w W k a j b) (hb : Below W.heap.size W W') : Boxed2 w W' k a j b := by
  have h2 := h.size
  refine ⟨?_, ?_, ?_, ?_, Nat.le_trans h.size hb.size, h.below.trans (hb.mono h.below.size)⟩
  · rw [hb.cell (p := ⟨w.heap.size, 0, none⟩) (show w.heap.size < _ by omega)]; exact h.c0
  · rw [hb.cell (p := ⟨w.heap.size, 1, none⟩) (show w.heap.size < _ by omega)]; exact h.c1
  · rw [hb.cell (p := ⟨w.heap.size + 1, 0, none⟩) (show w.heap.size + 1 < _ by omega)]; exact h.d0
  · rw [hb.cell (p := ⟨w.heap.size + 1, 1, none⟩) (show w.heap.size + 1 < _ by omega)]; exact h.d1

theorem Boxed2.alloc {w W : World} {k j : Int} {a b : ByteArray} (h : Boxed2 w W k a j b) (o : Obj) : Boxed2 w (W.alloc o) k a j b := h.keep ((Below.refl _ W).alloc (Nat.le_refl _) o)

theorem boxed2_new (w : World) (T : TypeId) (k : Int) (a : ByteArray) (j : Int) (b : ByteArray) : Boxed2 w ((w.alloc (.cells #[.int .i64 k, .string a] T)).alloc (.cells #[.int .i64 j, .string b] T)) k a j b := by
  have hb : Below w.heap.size w (w.alloc (.cells #[.int .i64 k, .string a] T)) := (Below.refl _ w).alloc (Nat.le_refl _) _
  have hs : (w.alloc (.cells #[.int .i64 k, .string a] T)).heap.size = w.heap.size + 1 := World.size_alloc ..
  have c := new_frame w T (.int .i64 k) (.string a)
  have d := new_frame (w.alloc (.cells #[.int .i64 k, .string a] T)) T (.int .i64 j) (.string b)
  rw [hs] at d
  have hb2 := (Below.refl (w.alloc (.cells #[.int .i64 k, .string a] T)).heap.size (w.alloc (.cells #[.int .i64 k, .string a] T))).alloc (Nat.le_refl _) (.cells #[.int .i64 j, .string b] T)
  refine ⟨?_, ?_, d.1, d.2, by rw [World.size_alloc, hs]; omega, hb.alloc hb.size _⟩
  · rw [hb2.cell (p := ⟨w.heap.size, 0, none⟩) (show w.heap.size < _ by omega)]; exact c.1
  · rw [hb2.cell (p := ⟨w.heap.size, 1, none⟩) (show w.heap.size < _ by omega)]; exact c.2

/-- Two calls, and what was laid between them. -/
theorem hop1 {w w1 w2 : World} {o : Obj} (h : Below w.heap.size w w1) (h2 : Below (w1.alloc o).heap.size (w1.alloc o) w2) (o' : Obj) (e : o' = o := by rfl) : Below w.heap.size w w2 := by
  subst e
  have h1 := h.alloc h.size o'
  exact h1.trans (h2.mono h1.size)

end Go.Proofs.YtenkdpogdfcbgaaGreat
