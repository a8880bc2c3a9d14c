/- Numbers as bits, plain facts: no code begins another; lengths; Kraft's sum. No program in sight. -/
import Derived.Test.YtkdcapjnoapjgaaDoorG2
namespace Go.Proofs.YtkdcapjnoapjgaaDoor.Gm

/-- Bit i of many, the highest first, as a byte. -/
def bit (n many i : Nat) : UInt8 := UInt8.ofNat (48 + n / 2 ^ (many - 1 - i) % 2)
def low (n many : Nat) : List UInt8 := (List.range many).map (bit n many)
def plain (n : Nat) : List UInt8 := List.replicate (G.L n - 1) 48 ++ low n (G.L n)
def delta (n : Nat) : List UInt8 := plain (G.L n) ++ low n (G.L n - 1)

theorem low_length (n many : Nat) : (low n many).length = many := by unfold low; simp

theorem plain_length (n : Nat) (h : n ≠ 0) : (plain n).length = 2 * G.L n - 1 := by
  have := G.L_pos.2 h
  unfold plain
  rw [List.length_append, List.length_replicate, low_length]
  omega

theorem delta_length (n : Nat) (h : n ≠ 0) : (delta n).length = 2 * G.L (G.L n) - 1 + (G.L n - 1) := by
  have := G.L_pos.2 h
  unfold delta
  rw [List.length_append, low_length, plain_length _ (by omega)]

theorem bit_inj {a b k i : Nat} (h : bit a k i = bit b k i) : a / 2 ^ (k - 1 - i) % 2 = b / 2 ^ (k - 1 - i) % 2 := by
  unfold bit at h
  have h2 := congrArg UInt8.toNat h
  rw [UInt8.toNat_ofNat', UInt8.toNat_ofNat'] at h2
  omega

/-- Equal bits: equal numbers, below the power. -/
theorem low_mod {a b k : Nat} (h : low a k = low b k) : a % 2 ^ k = b % 2 ^ k := by
  have hb : ∀ j, j < k → a / 2 ^ j % 2 = b / 2 ^ j % 2 := by
    intro j hj
    have h2 := congrArg (fun l => l[k - 1 - j]?) h
    unfold low at h2
    simp only [List.getElem?_map, List.getElem?_range (show k - 1 - j < k by omega), Option.map_some] at h2
    have := bit_inj (Option.some.inj h2)
    rwa [show k - 1 - (k - 1 - j) = j from by omega] at this
  clear h
  apply Nat.eq_of_testBit_eq
  intro i
  rw [Nat.testBit_mod_two_pow, Nat.testBit_mod_two_pow]
  by_cases hi : i < k
  · rw [decide_eq_true hi, Bool.true_and, Bool.true_and, Nat.testBit_eq_decide_div_mod_eq, Nat.testBit_eq_decide_div_mod_eq, hb i hi]
  · rw [decide_eq_false hi, Bool.false_and, Bool.false_and]

theorem top {n : Nat} (h : n ≠ 0) : 2 ^ (G.L n - 1) ≤ n ∧ n < 2 ^ (G.L n) := ⟨G.le_of_L.1 (by have := G.L_pos.2 h; omega), G.lt_L⟩

/-- The first digit is 1. -/
theorem low_head {n : Nat} (h : n ≠ 0) : (low n (G.L n))[0]? = some 49 := by
  have h1 := G.L_pos.2 h
  have h2 := top h
  unfold low
  rw [List.getElem?_map, List.getElem?_range h1, Option.map_some]
  unfold bit
  have : n / 2 ^ (G.L n - 1 - 0) = 1 := by
    rw [Nat.sub_zero]
    obtain ⟨k, hk⟩ : ∃ k, G.L n = k + 1 := ⟨G.L n - 1, by omega⟩
    rw [hk, Nat.add_sub_cancel] at h2 ⊢
    rw [Nat.pow_succ] at h2
    exact Nat.div_eq_of_lt_le (by omega) (by omega)
  rw [this]
  rfl

theorem plain_get {n : Nat} (h : n ≠ 0) : (∀ i, i < G.L n - 1 → (plain n)[i]? = some 48) ∧ (plain n)[G.L n - 1]? = some 49 := by
  unfold plain
  refine ⟨fun i hi => ?_, ?_⟩
  · rw [List.getElem?_append_left (by rw [List.length_replicate]; exact hi), List.getElem?_replicate, if_pos hi]
  · rw [List.getElem?_append_right (by rw [List.length_replicate]; exact Nat.le_refl _), List.length_replicate, Nat.sub_self]
    exact low_head h

theorem pre_get {l m : List UInt8} (h : l <+: m) {i : Nat} {x : UInt8} (hx : l[i]? = some x) : m[i]? = some x := by
  obtain ⟨t, rfl⟩ := h
  rw [List.getElem?_append_left (by obtain ⟨hi, _⟩ := List.getElem?_eq_some_iff.1 hx; exact hi)]
  exact hx

theorem plain_len_eq {a b : Nat} (ha : a ≠ 0) (hb : b ≠ 0) (h : plain a <+: plain b) : G.L a = G.L b := by
  have h1 := plain_get ha
  have h2 := plain_get hb
  have pa := G.L_pos.2 ha
  have pb := G.L_pos.2 hb
  rcases Nat.lt_trichotomy (G.L a) (G.L b) with hl | hl | hl
  · have e1 := pre_get h h1.2
    have e2 := h2.1 (G.L a - 1) (by omega)
    rw [e1] at e2
    exact absurd (Option.some.inj e2) (by decide)
  · exact hl
  · have e1 := pre_get h (h1.1 (G.L b - 1) (by omega))
    rw [h2.2] at e1
    exact absurd (Option.some.inj e1) (by decide)

theorem plain_inj {a b : Nat} (ha : a ≠ 0) (hb : b ≠ 0) (h : plain a <+: plain b) : a = b := by
  have hl := plain_len_eq ha hb h
  have he : plain a = plain b := h.eq_of_length (by rw [plain_length _ ha, plain_length _ hb, hl])
  unfold plain at he
  rw [hl] at he
  have h2 := low_mod (List.append_cancel_left he)
  have ta := (top ha).2
  have tb := (top hb).2
  rw [hl] at ta
  rwa [Nat.mod_eq_of_lt ta, Nat.mod_eq_of_lt tb] at h2

theorem delta_inj {a b : Nat} (ha : a ≠ 0) (hb : b ≠ 0) (h : delta a <+: delta b) : a = b := by
  have pa := G.L_pos.2 ha
  have pb := G.L_pos.2 hb
  have h1 : plain (G.L a) <+: delta b := (List.prefix_append _ _).trans h
  have h2 : plain (G.L b) <+: delta b := List.prefix_append _ _
  have hl : G.L a = G.L b := by
    rcases Nat.le_total (plain (G.L a)).length (plain (G.L b)).length with hle | hle
    · exact plain_inj (by omega) (by omega) (List.prefix_of_prefix_length_le h1 h2 hle)
    · exact (plain_inj (by omega) (by omega) (List.prefix_of_prefix_length_le h2 h1 hle)).symm
  have he : delta a = delta b := h.eq_of_length (by rw [delta_length _ ha, delta_length _ hb, hl])
  unfold delta at he
  rw [hl] at he
  have h3 := low_mod (List.append_cancel_left he)
  have ta := top ha
  have tb := top hb
  rw [hl] at ta
  obtain ⟨k, hk⟩ : ∃ k, G.L b = k + 1 := ⟨G.L b - 1, by omega⟩
  rw [hk, Nat.add_sub_cancel] at ta tb h3
  rw [Nat.pow_succ] at ta tb
  generalize 2 ^ k = p at *
  have e1 : a / p = 1 := Nat.div_eq_of_lt_le (by omega) (by omega)
  have e2 : b / p = 1 := Nat.div_eq_of_lt_le (by omega) (by omega)
  have d1 := Nat.div_add_mod a p
  have d2 := Nat.div_add_mod b p
  rw [e1] at d1; rw [e2] at d2
  omega

theorem short_delta : ∀ k, k < 33 → 5 ≤ k → 2 * G.L k ≤ k + 1 := by decide +kernel

/-- From 16 on. -/
theorem delta_le {a : Nat} (h : 16 ≤ a) (hb : a < 2 ^ 32) : (delta a).length ≤ (plain a).length := by
  have h1 : 4 < G.L a := G.le_of_L.2 h
  have h2 : G.L a ≤ 32 := G.L_le.2 hb
  have h3 := short_delta (G.L a) (by omega) (by omega)
  rw [delta_length _ (by omega), plain_length _ (by omega)]
  omega

theorem lengths {a b : Nat} (ha : a ≠ 0) (h : a ≤ b) : (plain a).length ≤ (plain b).length ∧ (delta a).length ≤ (delta b).length := by
  have h1 := G.L_mono h
  have h2 := G.L_mono h1
  rw [plain_length _ ha, plain_length _ (by omega), delta_length _ ha, delta_length _ (by omega)]
  omega

/-- Kraft's sum, up to n. -/
def ks (k : Nat) : Nat → Nat
  | 0 => 0
  | n + 1 => ks k n + (if n = 0 then 0 else 2 ^ (2 * k - (2 * G.L n - 1)))

theorem ks_mono (k : Nat) {n m : Nat} (h : n ≤ m) : ks k n ≤ ks k m := by
  induction h with
  | refl => exact Nat.le_refl _
  | step _ ih => exact Nat.le_trans ih (by rw [ks]; exact Nat.le_add_right _ _)

theorem ks_all : ∀ k, k < 9 → 1 ≤ k → ks k (2 ^ k) + 2 ^ k = 2 ^ (2 * k) := by decide +kernel

end Go.Proofs.YtkdcapjnoapjgaaDoor.Gm
