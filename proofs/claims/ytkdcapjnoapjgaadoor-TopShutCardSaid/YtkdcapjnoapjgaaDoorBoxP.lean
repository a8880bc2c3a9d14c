/- Texts as short as they can be: plain facts. No program in sight. -/
import Derived.Test.YtkdcapjnoapjgaaDoorPkP2
namespace Go.Proofs.YtkdcapjnoapjgaaDoor.Bx
open Go.Proofs.YtkdcapjnoapjgaaDoor

def zip (l : List UInt8) : List UInt8 := Pk.by_ (Pk.bits (Lz.parse l 256))
def sh (l : List UInt8) : List UInt8 := if (zip l).length < l.length then 1 :: zip l else 0 :: l

def un (r : List UInt8) : Option (List UInt8) := if Pk.tr (Pk.ub r) = [] ∨ 7 < 8 * r.length - (Pk.tr (Pk.ub r)).length then none else some (Pk.tr (Pk.ub r)).dropLast

def op : List UInt8 → Option (List UInt8)
  | [] => none
  | x :: r => if x = 0 then some r else if x = 1 then (match un r with | none => none | some t => if (Pk.tkns t).1 ≠ 0 then none else some (Lz.expS [] (Pk.tkns t).2)) else none

theorem parse_exp {l : List UInt8} (h : l.length ≤ 600) : Lz.expE [] (Lz.parse l 256) = 0 ∧ Lz.expS [] (Lz.parse l 256) = l := Lz.parse_back h (by decide)

theorem un_zip (l : List UInt8) : un (zip l) = some (Pk.bits (Lz.parse l 256)) := by
  obtain ⟨h1, h2⟩ := Pk.un_by (Pk.bits_bits (Lz.parse l 256))
  unfold un zip
  rw [h1, h2, List.length_append, List.length_singleton]
  rw [if_neg (by rintro (h | h); · simp at h
                 · omega)]
  rw [List.dropLast_concat]

theorem op_sh {l : List UInt8} (h : l.length ≤ 600) : op (sh l) = some l := by
  obtain ⟨h1, h2⟩ := parse_exp h
  unfold sh
  split
  · show (match un (zip l) with | none => none | some t => if (Pk.tkns t).1 ≠ 0 then none else some (Lz.expS [] (Pk.tkns t).2)) = some l
    rw [un_zip]
    show (if (Pk.tkns (Pk.bits (Lz.parse l 256))).1 ≠ 0 then none else some (Lz.expS [] (Pk.tkns (Pk.bits (Lz.parse l 256))).2)) = some l
    rw [Pk.tkns_bits h1, if_neg (show ¬ ((0 : Int) ≠ 0) by decide), h2]
  · rfl

theorem zip_length (l : List UInt8) : (zip l).length = (Pk.bits (Lz.parse l 256)).length / 8 + 1 := by
  unfold zip
  rw [Pk.by_length, Pk.pad_length]
  omega

theorem zip_le {l : List UInt8} (h : l.length ≤ 600) : (zip l).length ≤ 2401 := by
  obtain ⟨h1, -⟩ := parse_exp h
  have h2 := Pk.few h1
  have h3 := Pk.bits_length _ (Pk.expE_ok _ [] h1)
  rw [zip_length]
  omega

theorem sh_length (l : List UInt8) : (sh l).length ≤ l.length + 1 ∧ (sh l).length ≤ (zip l).length + 1 := by
  unfold sh
  split
  · rename_i h; rw [List.length_cons]; omega
  · rename_i h; rw [List.length_cons]; omega

/-! ### What repeats itself is short -/

/-- A text of a period. -/
def Per (l : List UInt8) (p : Nat) : Prop := ∀ i, p ≤ i → i < l.length → l[i]? = l[i - p]?

theorem bst_per {l : List UInt8} {p : Nat} (hp : Per l p) (h1 : 1 ≤ p) (h8 : p ≤ 256) {i : Nat} (hi : p ≤ i) (hl : i < l.length) : (Lz.bst l 256 i).2 = min 64 (l.length - i) ∧ (Lz.bst l 256 i).1 ≤ p := by
  have hin := Lz.bst_in (s := l) (w := 256) (i := i) (by omega)
  have h64 := Lz.bst_le64 l 256 i
  have hr := Mt.run_most l i p 64 0 (min 64 (l.length - i)) (by omega) (fun k _ hk => by
    refine ⟨by omega, ?_⟩
    have := hp (i + k) (by omega) (by omega)
    exact this)
  have hb := Mt.best_max l i (min 256 i) p h1 (by omega)
  have hd : Lz.bst l 256 i = Mt.best l i (min 256 i) := rfl
  rw [hd] at hin h64 ⊢
  exact ⟨by omega, hb.2 (by omega)⟩

theorem L_small {a k : Nat} (h : a < 2 ^ k) : G.L a ≤ k := G.L_le.2 h

theorem sz_tok (l : List UInt8) (i d : Nat) (hd : (Lz.bst l 256 i).1 ≤ d) (hd8 : d ≤ 8) : Pk.sz (Lz.tokAt l 256 i) ≤ 21 := by
  unfold Lz.tokAt
  split
  · show (if (0 : Int) = 0 then 9 else _) ≤ 21
    rw [if_pos rfl]; omega
  · rename_i h
    have h64 := Lz.bst_le64 l 256 i
    show (if (((Lz.bst l 256 i).2 : Nat) : Int) = 0 then 9 else 1 + (2 * G.L (((Lz.bst l 256 i).1 : Nat) : Int).toNat - 1) + (2 * G.L (((Lz.bst l 256 i).2 : Nat) : Int).toNat - 1)) ≤ 21
    rw [if_neg (by omega), Int.toNat_natCast, Int.toNat_natCast]
    have e1 : G.L (Lz.bst l 256 i).1 ≤ 4 := L_small (by have : (2 : Nat) ^ 4 = 16 := rfl; omega)
    have e2 : G.L (Lz.bst l 256 i).2 ≤ 7 := L_small (by have : (2 : Nat) ^ 7 = 128 := rfl; omega)
    omega

theorem sz_first (l : List UInt8) (i p : Nat) (hi : i < p) (h8 : p ≤ 8) : Pk.sz (Lz.tokAt l 256 i) ≤ 9 * Lz.stepAt l 256 i ∧ Pk.sz (Lz.tokAt l 256 i) ≤ 19 := by
  have hd := Lz.bst_le l 256 i
  have h64 := Lz.bst_le64 l 256 i
  unfold Lz.tokAt Lz.stepAt
  split
  · show (if (0 : Int) = 0 then 9 else _) ≤ 9 * 1 ∧ (if (0 : Int) = 0 then 9 else _) ≤ 19
    rw [if_pos rfl]; omega
  · rename_i h
    show (if (((Lz.bst l 256 i).2 : Nat) : Int) = 0 then 9 else 1 + (2 * G.L (((Lz.bst l 256 i).1 : Nat) : Int).toNat - 1) + (2 * G.L (((Lz.bst l 256 i).2 : Nat) : Int).toNat - 1)) ≤ _ ∧ (if (((Lz.bst l 256 i).2 : Nat) : Int) = 0 then 9 else 1 + (2 * G.L (((Lz.bst l 256 i).1 : Nat) : Int).toNat - 1) + (2 * G.L (((Lz.bst l 256 i).2 : Nat) : Int).toNat - 1)) ≤ 19
    rw [if_neg (by omega), Int.toNat_natCast, Int.toNat_natCast]
    have e1 : G.L (Lz.bst l 256 i).1 ≤ 3 := L_small (by have : (2 : Nat) ^ 3 = 8 := rfl; omega)
    have e2 : G.L (Lz.bst l 256 i).2 ≤ 7 := L_small (by have : (2 : Nat) ^ 7 = 128 := rfl; omega)
    by_cases h3 : (Lz.bst l 256 i).2 < 3
    · have e3 : G.L (Lz.bst l 256 i).2 ≤ 2 := L_small (by have : (2 : Nat) ^ 2 = 4 := rfl; omega)
      omega
    · omega

theorem sizes_per {l : List UInt8} {p : Nat} (hp : Per l p) (h1 : 1 ≤ p) (h8 : p ≤ 8) : ∀ (k i : Nat), p ≤ i → i ≤ l.length → l.length - i ≤ k → Pk.sizes (Lz.rest l 256 i) ≤ 21 * ((l.length - i + 63) / 64)
  | 0, i, _, _, h => by rw [Lz.rest_end (by omega)]; exact Nat.zero_le _
  | k + 1, i, hi, hl, hk => by
    by_cases hlt : i < l.length
    · obtain ⟨hb1, hb2⟩ := bst_per hp h1 (by omega) hi hlt
      have hs : Lz.stepAt l 256 i = min 64 (l.length - i) := by unfold Lz.stepAt; rw [hb1]; split <;> omega
      have hsz := sz_tok l i p hb2 h8
      have ih := sizes_per hp h1 h8 k (i + min 64 (l.length - i)) (by omega) (by omega) (by omega)
      rw [Lz.rest_step hlt, hs, Pk.sizes]
      omega
    · rw [Lz.rest_end (by omega)]; exact Nat.zero_le _

theorem sizes_all {l : List UInt8} {p : Nat} (hp : Per l p) (h1 : 1 ≤ p) (h8 : p ≤ 8) (hpl : p ≤ l.length) : ∀ (k i : Nat), i < p → p - i ≤ k → Pk.sizes (Lz.rest l 256 i) ≤ 9 * (p - i) + 10 + 21 * ((l.length - p + 63) / 64)
  | 0, i, hi, h => by omega
  | k + 1, i, hi, hk => by
    have hlt : i < l.length := by omega
    obtain ⟨z1, z2⟩ := sz_first l i p hi h8
    have hst := Lz.step_in (s := l) (w := 256) hlt
    have hsp := Lz.stepAt_pos l 256 i
    rw [Lz.rest_step hlt, Pk.sizes]
    by_cases hin : i + Lz.stepAt l 256 i < p
    · have ih := sizes_all hp h1 h8 hpl k _ hin (by omega)
      omega
    · have ih := sizes_per hp h1 h8 l.length (i + Lz.stepAt l 256 i) (by omega) hst (by omega)
      have hmono : (l.length - (i + Lz.stepAt l 256 i) + 63) / 64 ≤ (l.length - p + 63) / 64 := Nat.div_le_div_right (by omega)
      omega

theorem sh_per {l : List UInt8} {p n : Nat} (hp : Per l p) (h8 : p ≤ 8) (hn : 1 ≤ n) (hl : l.length = p * n) (h600 : l.length ≤ 600) : (sh l).length ≤ 1 + p * 9 / 8 + 2 + 4 * (1 + p * n / 64) := by
  by_cases h0 : p = 0
  · subst h0
    have hl0 : l.length = 0 := by rw [hl, Nat.zero_mul]
    have := (sh_length l).1
    omega
  · have hpl : p ≤ l.length := by rw [hl]; exact Nat.le_mul_of_pos_right p hn
    have h1 := sizes_all hp (by omega) h8 hpl p 0 (by omega) (by omega)
    have h2 := (sh_length l).2
    have h3 := Pk.bits_length _ (Pk.expE_ok _ [] (parse_exp h600).1)
    rw [zip_length, h3] at h2
    have h4 : Pk.sizes (Lz.parse l 256) = Pk.sizes (Lz.rest l 256 0) := rfl
    rw [h4] at h2
    rw [hl] at h1
    generalize p * n = q at *
    generalize Pk.sizes (Lz.rest l 256 0) = S at *
    omega

end Go.Proofs.YtkdcapjnoapjgaaDoor.Bx
