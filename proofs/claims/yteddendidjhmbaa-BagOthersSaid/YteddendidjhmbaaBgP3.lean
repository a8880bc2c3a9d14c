/- Bags, plain facts, continued: what Get, Drop and Put answer. -/
import Derived.Test.YteddendidjhmbaaBgP2
namespace Go.Proofs.Yteddendidjhmbaa.Bg
open Go.Proofs.Yteddendidjhmbaa

/-- No text. -/
def noText : ByteArray := ⟨#[]⟩
def noId : Id := ⟨false, 0, 0⟩

def getR (P : ByteArray → Int) (l : List It) (id : Id) : ByteArray × Nat :=
  if checkE P l ≠ 0 then (noText, checkE P l) else match l.findIdx? (hit id) with
    | none => (noText, 4)
    | some i => match l[i]? with
      | some x => (x.text, 0)
      | none => (noText, 4)

/-- A reference less. -/
def less (l : List It) (i : Nat) : List It := match l[i]? with
  | some x => if x.refs = 1 then l.take i ++ l.drop (i + 1) else l.set i ⟨x.sum, x.n, x.text, x.refs - 1⟩
  | none => l

def dropR (P : ByteArray → Int) (l : List It) (id : Id) : List It × Nat :=
  if checkE P l ≠ 0 then ([], checkE P l) else match l.findIdx? (hit id) with
    | none => ([], 4)
    | some i => (less l i, 0)

/-- The first number that no item of this print has. -/
def freeFrom (l : List It) (s : Int) : Nat → Int → Int
  | 0, k => k
  | f + 1, k => if l.any (hit ⟨true, s, k⟩) = true then freeFrom l s f (k + 1) else k
def free (l : List It) (s : Int) : Int := freeFrom l s (l.length + 1) 0

/-- An item at its place. -/
def ins (l : List It) (x : It) : List It := l.take (l.countP fun y => decide (cmp y x < 0)) ++ x :: l.drop (l.countP fun y => decide (cmp y x < 0))

structure PutA where
  l : List It
  id : Id
  e : Nat

def putR (P : ByteArray → Int) (l : List It) (t : ByteArray) : PutA :=
  if checkE P l ≠ 0 then ⟨[], noId, checkE P l⟩ else if 64 < t.size then ⟨[], noId, 2⟩ else match l.findIdx? (same t) with
    | some i => match l[i]? with
      | some x => if x.refs = 1000000 then ⟨[], noId, 8⟩ else ⟨l.set i ⟨x.sum, x.n, x.text, x.refs + 1⟩, ⟨true, x.sum, x.n⟩, 0⟩
      | none => ⟨[], noId, 8⟩
    | none => if l.length = 64 then ⟨[], noId, 8⟩ else ⟨ins l ⟨P t, free l (P t), t, 1⟩, ⟨true, P t, free l (P t)⟩, 0⟩

theorem check_len {P : ByteArray → Int} {l : List It} (h : checkE P l = 0) : l.length ≤ 64 := by
  unfold checkE at h
  split at h
  · cases h
  · omega

theorem check_scan {P : ByteArray → Int} {l : List It} (h : checkE P l = 0) : scan P l l.length = 0 := by
  unfold checkE at h
  rw [if_neg (by have := check_len h; omega)] at h
  exact h

theorem check_one {l : List It} (h : checkE Pr l = 0) {x : It} (hx : x ∈ l) : oneE Pr x = 0 := by
  obtain ⟨j, hj, rfl⟩ := List.getElem_of_mem hx
  exact scan_one (check_scan h) j hj hj

theorem checkE_le (P : ByteArray → Int) (l : List It) : checkE P l ≤ 6 := by
  have : ∀ k, scan P l k ≤ 6 := fun k => by
    induction k with
    | zero => exact Nat.zero_le _
    | succ k ih => rw [scan]; split; exact ih; exact atE_le P l k
  unfold checkE
  split
  · omega
  · exact this _

theorem scan_before {P : ByteArray → Int} {l : List It} {k m : Nat} (h : scan P l m = 0) (hk : k ≤ m) : scan P l k = 0 := by
  by_cases e : scan P l k = 0
  · exact e
  · exact absurd ((scan_stay e m hk).symm.trans h) e

/-- What is right is sorted. -/
theorem check_at0 {l : List It} (h : checkE Pr l = 0) {k : Nat} (hk : k < l.length) : atE Pr l k = 0 := by
  have h1 := check_scan h
  rw [← scan_step (scan_before h1 (Nat.le_of_lt hk))]
  exact scan_before h1 hk

theorem check_step {l : List It} (h : checkE Pr l = 0) {k : Nat} (hk : k + 1 < l.length) : cmp l[k] l[k + 1] < 0 := by
  have h0 := check_at0 h hk
  by_cases hc : cmp l[k] l[k + 1] < 0
  · exact hc
  · have := atE_form (P := Pr) hk (check_one h (List.getElem_mem hk)) (Nat.succ_pos k) (by simp only [Nat.add_sub_cancel]; omega)
    omega

theorem check_apart {l : List It} (h : checkE Pr l = 0) {k : Nat} (hk : k < l.length) : (l.take k).any (same l[k].text) = false := by
  have h0 := check_at0 h hk
  rw [atE_rest hk (check_one h (List.getElem_mem hk)) (by
    rcases Nat.eq_zero_or_pos k with e | e
    · exact Or.inl e
    · refine Or.inr ⟨e, ?_⟩
      obtain ⟨m, rfl⟩ : ∃ m, k = m + 1 := ⟨k - 1, by omega⟩
      exact check_step h hk)] at h0
  cases hb : (l.take k).any (same l[k].text) with
  | false => rfl
  | true => rw [hb] at h0; cases h0

theorem cmp_trans {a b c : It} (h1 : cmp a b < 0) (h2 : cmp b c < 0) : cmp a c < 0 := by
  rw [cmp_lt] at *
  omega

theorem check_sorted {l : List It} (h : checkE Pr l = 0) : l.Pairwise fun s t => cmp s t < 0 := by
  rw [List.pairwise_iff_getElem]
  intro i j hi hj hij
  obtain ⟨d, rfl⟩ : ∃ d, j = i + 1 + d := ⟨j - i - 1, by omega⟩
  clear hij
  induction d with
  | zero => exact check_step h hj
  | succ d ih => exact cmp_trans (ih (by omega)) (check_step h hj)

end Go.Proofs.Yteddendidjhmbaa.Bg
