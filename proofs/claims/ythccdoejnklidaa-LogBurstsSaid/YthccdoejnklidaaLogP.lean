/- Deeds as bytes: plain facts. No program in sight. -/
import Derived.Test.YthccdoejnklidaaBase
namespace Go.Proofs.Ythccdoejnklidaa.Lg
open Go.Proofs.Ythccdoejnklidaa

/-- May something be called so? -/
def nc (c : UInt8) : Bool := (decide (97 ≤ c.toNat) && decide (c.toNat ≤ 122)) || (decide (48 ≤ c.toNat) && decide (c.toNat ≤ 57))
def nmB (l : List UInt8) : Bool := !l.isEmpty && (decide (l.length ≤ 12) && l.all nc)

/-- What is wrong with a deed; of what its names are, and whether texts are empty. -/
def chk (k : Int) (b1 b2 : Bool) (a : Int) (n : Nat) (xt xx : Bool) : Nat :=
  if k < 1 ∨ 5 < k then 1 else if b1 = false ∨ (k = 5 ∧ b2 = false) then 3 else if a < 0 ∨ 32 < a then 1 else if 64 < n then 2
  else if (k ≠ 5 ∧ xt = false) ∨ (k ≠ 3 ∧ xx = false) ∨ ((k = 2 ∨ k = 5) ∧ a ≠ 0) then 3 else 0

def tx (l : List UInt8) : List UInt8 := UInt8.ofNat l.length :: l

def enc (k a : Nat) (nm to te : List UInt8) : List UInt8 := [UInt8.ofNat k, UInt8.ofNat a] ++ tx nm ++ tx to ++ tx te

theorem u8_inj {a b : Nat} (ha : a < 256) (hb : b < 256) (h : UInt8.ofNat a = UInt8.ofNat b) : a = b := by
  have := congrArg UInt8.toNat h
  rw [UInt8.toNat_ofNat', UInt8.toNat_ofNat'] at this
  omega

theorem tx_inj {l l' r r' : List UInt8} (h : l.length < 256) (h' : l'.length < 256) (e : tx l ++ r = tx l' ++ r') : l = l' ∧ r = r' := by
  unfold tx at e
  rw [List.cons_append, List.cons_append, List.cons.injEq] at e
  exact List.append_inj e.2 (u8_inj h h' e.1)

theorem enc_inj {k a k' a' : Nat} {nm to te nm' to' te' : List UInt8} (hk : k < 256) (ha : a < 256) (hk' : k' < 256) (ha' : a' < 256) (h1 : nm.length < 256) (h2 : to.length < 256) (h3 : te.length < 256) (h1' : nm'.length < 256) (h2' : to'.length < 256) (h3' : te'.length < 256)
    (h : enc k a nm to te = enc k' a' nm' to' te') : k = k' ∧ nm = nm' ∧ to = to' ∧ a = a' ∧ te = te' := by
  unfold enc at h
  rw [List.append_assoc, List.append_assoc, List.append_assoc, List.append_assoc, List.cons_append, List.cons_append, List.cons_append, List.cons_append, List.cons.injEq, List.cons.injEq] at h
  obtain ⟨e1, e2, e3⟩ := h
  obtain ⟨e4, e5⟩ := tx_inj h1 h1' e3
  obtain ⟨e6, e7⟩ := tx_inj h2 h2' e5
  have e8 := tx_inj (r := []) (r' := []) h3 h3' (by rw [List.append_nil, List.append_nil]; exact e7)
  exact ⟨u8_inj hk hk' e1, e4, e6, u8_inj ha ha' e2, e8.1⟩

/-- A deed that is right. -/
theorem chk_ok {k a : Int} {b1 b2 xt xx : Bool} {n : Nat} (h : chk k b1 b2 a n xt xx = 0) : 1 ≤ k ∧ k ≤ 5 ∧ b1 = true ∧ (k = 5 → b2 = true) ∧ (k ≠ 5 → xt = true) ∧ 0 ≤ a ∧ a ≤ 32 ∧ n ≤ 64 := by
  unfold chk at h
  split at h
  · cases h
  · split at h
    · cases h
    · split at h
      · cases h
      · split at h
        · cases h
        · split at h
          · cases h
          · rename_i h1 h2 h3 h4 h5
            refine ⟨by omega, by omega, ?_, ?_, ?_, by omega, by omega, by omega⟩
            · cases b1
              · exact absurd (Or.inl rfl) h2
              · rfl
            · intro hk
              cases b2
              · exact absurd (Or.inr ⟨hk, rfl⟩) h2
              · rfl
            · intro hk
              cases xt
              · exact absurd (Or.inl ⟨hk, rfl⟩) h5
              · rfl

theorem nm_len {l : List UInt8} (h : nmB l = true) : l.length ≤ 12 := by
  unfold nmB at h
  rw [Bool.and_eq_true, Bool.and_eq_true, decide_eq_true_eq] at h
  exact h.2.1

theorem chk_le (k a : Int) (b1 b2 xt xx : Bool) (n : Nat) : chk k b1 b2 a n xt xx ≤ 3 := by
  unfold chk
  repeat' split
  all_goals omega

theorem nc_eq (c : UInt8) {x1 x2 x3 x4 : Bool} (h1 : decide (97 ≤ (c.toNat : Int)) = x1) (h2 : decide ((c.toNat : Int) ≤ 122) = x2) (h3 : decide (48 ≤ (c.toNat : Int)) = x3) (h4 : decide ((c.toNat : Int) ≤ 57) = x4) : nc c = ((x1 && x2) || (x3 && x4)) := by
  subst h1 h2 h3 h4
  unfold nc
  congr 1
  · congr 1
    · exact decide_eq_decide.2 (by omega)
    · exact decide_eq_decide.2 (by omega)
  · congr 1
    · exact decide_eq_decide.2 (by omega)
    · exact decide_eq_decide.2 (by omega)

theorem all_take {l : List UInt8} {p : UInt8 → Bool} {i : Nat} (hi : i < l.length) (h : (l.take i).all p = true) : (l.take (i + 1)).all p = p l[i] := by
  rw [List.take_succ_eq_append_getElem hi, List.all_append, h, Bool.true_and]
  simp

theorem all_false {l : List UInt8} {p : UInt8 → Bool} {i : Nat} (hi : i < l.length) (h : p l[i] = false) : l.all p = false := by
  rw [List.all_eq_false]
  exact ⟨l[i], List.getElem_mem hi, by rw [h]; decide⟩

end Go.Proofs.Ythccdoejnklidaa.Lg
