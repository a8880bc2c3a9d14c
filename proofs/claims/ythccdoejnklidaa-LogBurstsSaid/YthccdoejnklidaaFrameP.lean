/- Frames, plain facts: what is put is got; a burst of sixteen bits is told. No program in sight. -/
import Derived.Test.YthccdoejnklidaaBurstP
namespace Go.Proofs.Ythccdoejnklidaa.Fr

/-- The print by the great modulus. -/
def pr (l : List UInt8) : Nat := G.print 1073741907 l
/-- A number's four bytes. -/
def tl (p : Nat) : List UInt8 := [UInt8.ofNat (p / 16777216), UInt8.ofNat (p / 65536), UInt8.ofNat (p / 256), UInt8.ofNat p]
/-- A frame's first three bytes. -/
def hd (k n : Nat) : List UInt8 := [UInt8.ofNat k, UInt8.ofNat (n / 256), UInt8.ofNat n]
def pre (k : Nat) (b : List UInt8) : List UInt8 := hd k b.length ++ b
def enc (k : Nat) (b : List UInt8) : List UInt8 := pre k b ++ tl (pr (pre k b))

/-- The body's length that a frame tells. -/
def nn (l : List UInt8) : Nat := 256 * (l.getD 1 0).toNat + (l.getD 2 0).toNat

/-- What is got: error, kind, body, bytes used. -/
def get (l : List UInt8) : Nat × Nat × List UInt8 × Nat :=
  if l.length < 3 then (7, 0, [], 0)
  else if l.getD 0 0 = 0 ∨ 700 < nn l then (3, 0, [], 0)
  else if l.length < nn l + 7 then (7, 0, [], 0)
  else if tl (pr (l.take (nn l + 3))) ≠ (l.drop (nn l + 3)).take 4 then (6, 0, [], 0)
  else (0, (l.getD 0 0).toNat, (l.drop 3).take (nn l), nn l + 7)

theorem enc_length (k : Nat) (b : List UInt8) : (enc k b).length = b.length + 7 := by
  unfold enc pre hd tl
  simp only [List.length_append, List.length_cons, List.length_nil]
  omega

theorem enc_eq (k : Nat) (b more : List UInt8) : enc k b ++ more = UInt8.ofNat k :: UInt8.ofNat (b.length / 256) :: UInt8.ofNat b.length :: (b ++ (tl (pr (pre k b)) ++ more)) := by
  unfold enc
  rw [show pre k b = UInt8.ofNat k :: UInt8.ofNat (b.length / 256) :: UInt8.ofNat b.length :: b from rfl]
  simp only [List.cons_append, List.append_assoc]

theorem toNat_k {k : Nat} (h : k ≤ 255) : (UInt8.ofNat k).toNat = k := by rw [UInt8.toNat_ofNat']; omega

theorem nn_hd (k : Nat) (b x : List UInt8) (hb : b.length ≤ 700) : nn (UInt8.ofNat k :: UInt8.ofNat (b.length / 256) :: UInt8.ofNat b.length :: x) = b.length := by
  show 256 * (UInt8.ofNat (b.length / 256)).toNat + (UInt8.ofNat b.length).toNat = b.length
  rw [UInt8.toNat_ofNat', UInt8.toNat_ofNat']
  omega

theorem ofNat_ne {k : Nat} (h1 : 1 ≤ k) (h2 : k ≤ 255) : UInt8.ofNat k ≠ 0 := by
  intro h
  have := congrArg UInt8.toNat h
  rw [toNat_k h2] at this
  have e : (0 : UInt8).toNat = 0 := rfl
  rw [e] at this
  omega

theorem get_enc {k : Nat} {b : List UInt8} (h1 : 1 ≤ k) (h2 : k ≤ 255) (hb : b.length ≤ 700) (more : List UInt8) : get (enc k b ++ more) = (0, k, b, b.length + 7) := by
  have hl : (enc k b ++ more).length = b.length + 7 + more.length := by rw [List.length_append, enc_length]
  have hn : nn (enc k b ++ more) = b.length := by rw [enc_eq]; exact nn_hd k b _ hb
  have h0 : (enc k b ++ more).getD 0 0 = UInt8.ofNat k := by rw [enc_eq]; rfl
  have hp : (pre k b).length = b.length + 3 := by unfold pre hd; simp only [List.length_append, List.length_cons, List.length_nil]; omega
  have ht : (enc k b ++ more).take (b.length + 3) = pre k b := by
    unfold enc; rw [List.append_assoc, List.take_append_of_le_length (by omega), List.take_of_length_le (by omega)]
  have hd : ((enc k b ++ more).drop (b.length + 3)).take 4 = tl (pr (pre k b)) := by
    unfold enc; rw [List.append_assoc, ← hp, List.drop_left, List.take_append_of_le_length (by exact Nat.le_refl 4)]
    rfl
  have hbd : ((enc k b ++ more).drop 3).take b.length = b := by
    rw [enc_eq]
    show (b ++ _).take b.length = b
    rw [List.take_left]
  unfold get
  rw [hn, h0, ht, hd, hbd, toNat_k h2, if_neg (by omega), if_neg (by rintro (h | h); exact ofNat_ne h1 h2 h; omega), if_neg (by omega), if_neg (fun h => h rfl)]

theorem get_short {k : Nat} {b : List UInt8} (h1 : 1 ≤ k) (h2 : k ≤ 255) (hb : b.length ≤ 700) (j : Nat) (hj : j < b.length + 7) : get ((enc k b).take j) = (7, 0, [], 0) := by
  have hl : ((enc k b).take j).length = j := by rw [List.length_take, enc_length]; omega
  unfold get
  by_cases h3 : j < 3
  · rw [if_pos (by omega)]
  · obtain ⟨i, rfl⟩ : ∃ i, j = i + 3 := ⟨j - 3, by omega⟩
    have he : (enc k b).take (i + 3) = UInt8.ofNat k :: UInt8.ofNat (b.length / 256) :: UInt8.ofNat b.length :: ((b ++ tl (pr (pre k b))).take i) := by
      have := enc_eq k b []
      rw [List.append_nil, List.append_nil] at this
      rw [this]; rfl
    have hn : nn ((enc k b).take (i + 3)) = b.length := by rw [he]; exact nn_hd k b _ hb
    have h0 : ((enc k b).take (i + 3)).getD 0 0 = UInt8.ofNat k := by rw [he]; rfl
    rw [hn, h0, if_neg (by omega), if_neg (by rintro (h | h); exact ofNat_ne h1 h2 h; omega), if_pos (by omega)]

theorem enc_inj {k k' : Nat} {b b' : List UInt8} (h1 : 1 ≤ k) (h2 : k ≤ 255) (hb : b.length ≤ 700) (h1' : 1 ≤ k') (h2' : k' ≤ 255) (hb' : b'.length ≤ 700) : enc k b = enc k' b' ↔ k = k' ∧ b = b' := by
  constructor
  · intro h
    have e1 := get_enc h1 h2 hb []
    have e2 := get_enc h1' h2' hb' []
    rw [h, e2] at e1
    injection e1 with _ e1
    injection e1 with e3 e1
    injection e1 with e4 e1
    exact ⟨e3.symm, e4.symm⟩
  · rintro ⟨rfl, rfl⟩; rfl

/-- What is got was put so. -/
theorem get_ok {l : List UInt8} {k n : Nat} {b : List UInt8} (h : get l = (0, k, b, n)) :
    1 ≤ k ∧ k ≤ 255 ∧ b.length ≤ 700 ∧ n = b.length + 7 ∧ n ≤ l.length ∧ enc k b = l.take n := by
  unfold get at h
  split at h
  · simp at h
  rename_i h3
  split at h
  · simp at h
  rename_i h4
  split at h
  · simp at h
  rename_i h5
  split at h
  · simp at h
  rename_i h6
  injection h with _ h
  injection h with hk h
  injection h with hb hn
  have hnn : nn l ≤ 700 := by
    rcases Nat.lt_or_ge 700 (nn l) with h | h
    · exact absurd (Or.inr h) h4
    · exact h
  have hbl : b.length = nn l := by rw [← hb, List.length_take, List.length_drop]; omega
  have h0 : (l.getD 0 0).toNat ≠ 0 := by
    intro h; exact h4 (Or.inl (UInt8.toNat_inj.1 (by rw [h]; rfl)))
  have h0' := (l.getD 0 0).toNat_lt
  refine ⟨by omega, by omega, by omega, by omega, by omega, ?_⟩
  obtain ⟨x, y, z, l', rfl⟩ : ∃ x y z l', l = x :: y :: z :: l' := by
    match l, h3 with
    | x :: y :: z :: l', _ => exact ⟨x, y, z, l', rfl⟩
    | [], h => exact absurd (by decide) h
    | [_], h => exact absurd (by simp) h
    | [_, _], h => exact absurd (by simp) h
  have hnE : nn (x :: y :: z :: l') = 256 * y.toNat + z.toNat := rfl
  have hy := y.toNat_lt
  have hz := z.toNat_lt
  have hpre : pre k b = (x :: y :: z :: l').take (nn (x :: y :: z :: l') + 3) := by
    have hx : UInt8.ofNat k = x := by rw [← hk]; exact UInt8.ofNat_toNat
    have hy2 : UInt8.ofNat (b.length / 256) = y := by
      rw [hbl, hnE, show (256 * y.toNat + z.toNat) / 256 = y.toNat from by omega]; exact UInt8.ofNat_toNat
    have hz2 : UInt8.ofNat b.length = z := by
      apply UInt8.toNat_inj.1
      rw [UInt8.toNat_ofNat', hbl, hnE]; omega
    unfold pre hd
    rw [hx, hy2, hz2, ← hb]
    rfl
  have h6' : tl (pr ((x :: y :: z :: l').take (nn (x :: y :: z :: l') + 3))) = ((x :: y :: z :: l').drop (nn (x :: y :: z :: l') + 3)).take 4 := Classical.not_not.1 h6
  unfold enc
  rw [hpre, h6', ← hn, show nn (x :: y :: z :: l') + 7 = (nn (x :: y :: z :: l') + 3) + 4 from rfl]
  exact List.take_add.symm

/-- An error: nothing else. -/
theorem get_err {l : List UInt8} {e k n : Nat} {b : List UInt8} (h : get l = (e, k, b, n)) : e = 0 ∨ (e = 7 ∨ e = 3 ∨ e = 6) ∧ k = 0 ∧ b = [] ∧ n = 0 := by
  unfold get at h
  split at h
  · obtain ⟨rfl, rfl, rfl, rfl⟩ : 7 = e ∧ 0 = k ∧ [] = b ∧ 0 = n := by simpa using h
    exact Or.inr ⟨Or.inl rfl, rfl, rfl, rfl⟩
  split at h
  · obtain ⟨rfl, rfl, rfl, rfl⟩ : 3 = e ∧ 0 = k ∧ [] = b ∧ 0 = n := by simpa using h
    exact Or.inr ⟨Or.inr (Or.inl rfl), rfl, rfl, rfl⟩
  split at h
  · obtain ⟨rfl, rfl, rfl, rfl⟩ : 7 = e ∧ 0 = k ∧ [] = b ∧ 0 = n := by simpa using h
    exact Or.inr ⟨Or.inl rfl, rfl, rfl, rfl⟩
  split at h
  · obtain ⟨rfl, rfl, rfl, rfl⟩ : 6 = e ∧ 0 = k ∧ [] = b ∧ 0 = n := by simpa using h
    exact Or.inr ⟨Or.inr (Or.inr rfl), rfl, rfl, rfl⟩
  · injection h with h1 _
    exact Or.inl h1.symm

theorem V_tl {p : Nat} (h : p < 4294967296) : G.V 0 (tl p) = p := by
  unfold tl
  rw [G.V_cons, G.V_cons, G.V_cons, G.V_cons]
  show 256 * (256 * (256 * (256 * 0 ^^^ _) ^^^ _) ^^^ _) ^^^ _ = p
  have key : ∀ a c : Nat, c < 256 → 256 * a ^^^ c = 256 * a + c := by
    intro a c hc
    have := or_xor a c hc
    rw [← this, Nat.mul_comm a 256]
    exact (Nat.two_pow_add_eq_or_of_lt (i := 8) hc a).symm
  rw [UInt8.toNat_ofNat', UInt8.toNat_ofNat', UInt8.toNat_ofNat', UInt8.toNat_ofNat', key _ _ (by omega), key _ _ (by omega), key _ _ (by omega), key _ _ (by omega)]
  omega

theorem xor_high (B Q : Nat) (h : Q < 2 ^ 32) : (2 ^ 32 * B ^^^ Q) / 2 ^ 32 = B ∧ (2 ^ 32 * B ^^^ Q) % 2 ^ 32 = Q := by
  rw [Nat.xor_div_two_pow, Nat.xor_mod_two_pow, Nat.mul_div_cancel_left _ (by decide : 0 < 2 ^ 32), Nat.mul_mod_right, Nat.div_eq_of_lt h, Nat.mod_eq_of_lt h, Nat.xor_zero, Nat.zero_xor]
  exact ⟨rfl, rfl⟩

/-- No burst of sixteen bits makes a body and its print fit again. -/
theorem no_burst (B e t : Nat) (ht : t < 65536) (h0 : t ≠ 0) : 2 ^ 32 * B ^^^ G.md B 1073741907 ≠ 2 ^ e * t := by
  intro h
  have hm : (1073741907 : Nat) ≠ 0 := by decide
  have hL : G.L 1073741907 = 31 := G.L_eq (k := 30) (by decide) (by decide)
  have hQ := G.L_md B hm
  obtain ⟨Q, hq⟩ : ∃ Q, Q = G.md B 1073741907 := ⟨_, rfl⟩
  rw [← hq] at h hQ
  have hQ30 : Q < 2 ^ 30 := G.L_le.1 (by omega)
  obtain ⟨h1, h2⟩ := xor_high B Q (by omega)
  rw [h] at h1 h2
  have hlt : G.L t ≤ 16 := G.L_le.2 ht
  have hodd : (1073741907 : Nat) % 2 = 1 := by decide
  have hQ0 : Q ≠ 0 := by
    intro hz
    have hd : G.D 1073741907 B := (G.md_eq_zero hm).1 (by rw [← hq, hz])
    have hd2 : G.D 1073741907 (2 ^ e * t) := by
      rw [← h, hz, Nat.xor_zero, ← G.pow_mul]
      exact G.D_mul _ hd
    exact h0 (G.D_small (G.D_shift hodd e hd2) (by omega))
  have he : e < 32 := by
    rcases Nat.lt_or_ge e 32 with h | h
    · exact h
    · obtain ⟨j, rfl⟩ : ∃ j, e = 32 + j := ⟨e - 32, by omega⟩
      rw [Nat.pow_add, Nat.mul_assoc, Nat.mul_mod_right] at h2
      exact absurd h2.symm hQ0
  have hB : B < 2 ^ 16 := by
    rw [← h1]
    have : 2 ^ e ≤ 2 ^ 32 := Nat.pow_le_pow_right (by decide) (by omega)
    have h3 : 2 ^ e * t / 2 ^ 32 ≤ 2 ^ 32 * t / 2 ^ 32 := Nat.div_le_div_right (Nat.mul_le_mul_right _ this)
    rw [Nat.mul_div_cancel_left _ (by decide : 0 < 2 ^ 32)] at h3
    exact Nat.lt_of_le_of_lt h3 ht
  have hQB : Q = B := by rw [hq]; exact G.md_small (by have := G.L_le.2 hB; omega)
  have hdv : 2 ^ e ∣ Q := by
    rw [← h2]
    exact (Nat.dvd_mod_iff (Nat.pow_dvd_pow 2 (by omega : e ≤ 32))).2 (Nat.dvd_mul_right _ _)
  have hge : 2 ^ e ≤ Q := Nat.le_of_dvd (by omega) hdv
  have he16 : e < 16 := by
    rcases Nat.lt_or_ge e 16 with h | h
    · exact h
    · have := Nat.pow_le_pow_right (n := 2) (by decide) h; omega
  have : 2 ^ e * t < 2 ^ 32 := by
    have h3 : 2 ^ e ≤ 2 ^ 16 := Nat.pow_le_pow_right (by decide) (by omega)
    calc 2 ^ e * t ≤ 2 ^ 16 * t := Nat.mul_le_mul_right _ h3
      _ < 2 ^ 16 * 2 ^ 16 := Nat.mul_lt_mul_of_pos_left (by omega) (by decide)
      _ = 2 ^ 32 := by decide
  rw [Nat.div_eq_of_lt this] at h1
  omega

theorem V0_xor (l k : List UInt8) (p : Nat) (h : l.length = k.length) : G.V p l ^^^ G.V p k = G.V 0 l ^^^ G.V 0 k := by
  rw [G.V_split l p, G.V_split k p, h, G.xor4, Nat.xor_self, Nat.zero_xor]

theorem get_burst {k : Nat} {b : List UInt8} (h1 : 1 ≤ k) (h2 : k ≤ 255) (hb : b.length ≤ 700) {a t : Nat} (ha : a + 16 ≤ 8 * (b.length + 4)) (ht : t < 65536) (h0 : t ≠ 0) :
    get ((enc k b).take 3 ++ brs ((enc k b).drop 3) a t 16) = (6, 0, [], 0) := by
  have he := enc_eq k b []
  rw [List.append_nil, List.append_nil] at he
  have e3 : (enc k b).take 3 = hd k b.length := by rw [he]; rfl
  have ed : (enc k b).drop 3 = b ++ tl (pr (pre k b)) := by rw [he]; rfl
  rw [e3, ed]
  have hm : (1073741907 : Nat) ≠ 0 := by decide
  have hL : G.L 1073741907 = 31 := G.L_eq (k := 30) (by decide) (by decide)
  obtain ⟨p, hp⟩ : ∃ p, p = pr (pre k b) := ⟨_, rfl⟩
  have hpL : p < 2 ^ 30 := by rw [hp]; exact G.L_le.1 (by have := G.print_lt (pre k b) hm; unfold pr; omega)
  rw [← hp]
  obtain ⟨r, hr⟩ : ∃ r, r = brs (b ++ tl p) a t 16 := ⟨_, rfl⟩
  have hbl : (b ++ tl p).length = b.length + 4 := by rw [List.length_append]; rfl
  have hrl : r.length = b.length + 4 := by rw [hr, brs_length, hbl]
  have hV := G.V_brs (b ++ tl p) a t 16 (Nat.le_refl _) (by omega) ht
  rw [← hr] at hV ⊢
  rw [show t / 2 ^ (16 - 16) = t from by simp, hbl] at hV
  have hl : (hd k b.length ++ r).length = b.length + 7 := by rw [List.length_append, hrl]; show 3 + _ = _; omega
  have hn : nn (hd k b.length ++ r) = b.length := nn_hd k b r hb
  have h00 : (hd k b.length ++ r).getD 0 0 = UInt8.ofNat k := rfl
  have ht3 : (hd k b.length ++ r).take (b.length + 3) = hd k b.length ++ r.take b.length := by
    rw [List.take_append, List.take_of_length_le (by show 3 ≤ _; omega), show b.length + 3 - (hd k b.length).length = b.length from by show b.length + 3 - 3 = _; omega]
  have hd3 : ((hd k b.length ++ r).drop (b.length + 3)).take 4 = r.drop b.length := by
    rw [Nat.add_comm, ← List.drop_drop]
    show (r.drop b.length).take 4 = _
    rw [List.take_of_length_le (by rw [List.length_drop]; omega)]
  unfold get
  rw [hn, h00, ht3, hd3, if_neg (by omega), if_neg (by rintro (h | h); exact ofNat_ne h1 h2 h; omega), if_neg (by omega), if_pos]
  intro hE
  obtain ⟨b', hb'⟩ : ∃ b', b' = r.take b.length := ⟨_, rfl⟩
  rw [← hb'] at hE
  obtain ⟨p', hp'⟩ : ∃ p', p' = pr (hd k b.length ++ b') := ⟨_, rfl⟩
  rw [← hp'] at hE
  have hpL' : p' < 2 ^ 30 := by rw [hp']; exact G.L_le.1 (by have := G.print_lt (hd k b.length ++ b') hm; unfold pr; omega)
  have hb'l : b'.length = b.length := by rw [hb', List.length_take]; omega
  have hrE : r = b' ++ tl p' := by rw [hE, hb', List.take_append_drop]
  have hx := V0_xor r (b ++ tl p) 1 (by omega)
  rw [hV, Nat.xor_comm (G.V 1 (b ++ tl p)), G.xor_cancel'] at hx
  have hs : ∀ (x : List UInt8) (q : Nat), q < 2 ^ 30 → G.V 0 (x ++ tl q) = 2 ^ 32 * G.V 0 x ^^^ q := by
    intro x q hq
    rw [G.V_append, G.V_split, V_tl (by omega)]
    rfl
  rw [hrE, hs _ _ hpL', hs _ _ hpL, G.xor4, ← G.pow_xor] at hx
  have hpp : p' ^^^ p = G.md (G.V 0 b' ^^^ G.V 0 b) 1073741907 := by
    rw [hp', hp]
    unfold pr pre
    rw [G.print_V _ hm, G.print_V _ hm, ← G.md_xor _ _ hm, G.V_append, G.V_append, V0_xor b' b _ hb'l]
  rw [hpp] at hx
  exact no_burst _ _ _ ht h0 hx.symm

end Go.Proofs.Ythccdoejnklidaa.Fr
