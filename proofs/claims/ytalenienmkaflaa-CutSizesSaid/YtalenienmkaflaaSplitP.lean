/- Pieces between ends, plain facts. No program in sight. -/
import Derived.Test.YtalenienmkaflaaCutP
namespace Go.Proofs.Ytalenienmkaflaa.Ct

/-- Where piece k begins; where it ends is the next's beginning. -/
def pos (l : List Nat) (k : Nat) : Nat := (0 :: l).getD k 0

theorem pos_zero (l : List Nat) : pos l 0 = 0 := rfl
theorem pos_succ (l : List Nat) (k : Nat) : pos l (k + 1) = l.getD k 0 := rfl

theorem pos_cons (p : Nat) (l : List Nat) (k : Nat) (h : k ≤ l.length) : pos (p :: l.map (p + ·)) (k + 1) = p + pos l k := by
  rw [pos_succ]
  cases k with
  | zero => rfl
  | succ k =>
    rw [pos_succ]
    have hk : k < l.length := h
    simp [List.getD, hk]

/-- The first k pieces. -/
def pcs (t : List UInt8) (l : List Nat) (k : Nat) : List (List UInt8) := (List.range k).map fun i => (t.drop (pos l i)).take (pos l (i + 1) - pos l i)

theorem pcs_flat (t : List UInt8) (l : List Nat) (k : Nat) (h : ∀ i, i < k → pos l i ≤ pos l (i + 1)) : (pcs t l k).flatten = t.take (pos l k) := by
  induction k with
  | zero => rw [pos_zero, List.take_zero]; rfl
  | succ k ih =>
    have h1 := h k (Nat.lt_succ_self k)
    have e : pcs t l (k + 1) = pcs t l k ++ [(t.drop (pos l k)).take (pos l (k + 1) - pos l k)] := by unfold pcs; rw [List.range_succ, List.map_append]; rfl
    rw [e, List.flatten_append, ih (fun i hi => h i (Nat.lt_succ_of_lt hi)), List.flatten_cons, List.flatten_nil, List.append_nil]
    obtain ⟨d, hd⟩ : ∃ d, pos l (k + 1) = pos l k + d := ⟨pos l (k + 1) - pos l k, by omega⟩
    rw [hd, Nat.add_sub_cancel_left]
    exact List.take_add.symm

theorem ends_gaps {least most mask : Nat} (hl : 1 ≤ least) (hm : least ≤ most) (t : List UInt8) : (∀ k, k < (ends least most mask t).length →
      pos (ends least most mask t) k < pos (ends least most mask t) (k + 1) ∧ pos (ends least most mask t) (k + 1) ≤ t.length ∧ pos (ends least most mask t) (k + 1) - pos (ends least most mask t) k ≤ most ∧
      (pos (ends least most mask t) (k + 1) - pos (ends least most mask t) k < least → k + 1 = (ends least most mask t).length)) ∧
    pos (ends least most mask t) (ends least most mask t).length = t.length := by
  refine pieces (least := least) (most := most) (mask := mask) hl (P := fun t => (∀ k, k < (ends least most mask t).length →
      pos (ends least most mask t) k < pos (ends least most mask t) (k + 1) ∧ pos (ends least most mask t) (k + 1) ≤ t.length ∧ pos (ends least most mask t) (k + 1) - pos (ends least most mask t) k ≤ most ∧
      (pos (ends least most mask t) (k + 1) - pos (ends least most mask t) k < least → k + 1 = (ends least most mask t).length)) ∧
    pos (ends least most mask t) (ends least most mask t).length = t.length) ⟨fun k hk => by simp [ends_nil] at hk, rfl⟩ (fun t ht ih => ?_) t
  have h1 := piece_pos (most := most) (mask := mask) ht hl
  have h2 := piece_le least most mask t
  have h3 := piece_ge least most mask t
  have h4 := piece_most least most mask t hm
  rw [ends_cons hl ht]
  rw [List.length_drop] at ih
  have hnil : piece least most mask t = t.length → ends least most mask (t.drop (piece least most mask t)) = [] := fun h => by rw [List.drop_of_length_le (by omega)]; rfl
  generalize ends least most mask (t.drop (piece least most mask t)) = E at *
  generalize piece least most mask t = p at *
  obtain ⟨ih1, ih2⟩ := ih
  rw [List.length_cons, List.length_map]
  refine ⟨fun k hk => ?_, ?_⟩
  · cases k with
    | zero =>
      rw [pos_cons p E 0 (Nat.zero_le _), pos_zero, pos_zero]
      refine ⟨by omega, by omega, by omega, fun hlt => ?_⟩
      rw [hnil (by omega)]
      rfl
    | succ k =>
      have := ih1 k (by omega)
      rw [pos_cons p E k (by omega), pos_cons p E (k + 1) (by omega)]
      refine ⟨by omega, by omega, by omega, fun hlt => ?_⟩
      have := this.2.2.2 (by omega)
      omega
  · rw [pos_cons p E E.length (Nat.le_refl _), ih2]
    omega

end Go.Proofs.Ytalenienmkaflaa.Ct
