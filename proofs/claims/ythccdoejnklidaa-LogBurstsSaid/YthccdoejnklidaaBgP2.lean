import Derived.Test.YthccdoejnklidaaItS
import Derived.Test.YthccdoejnklidaaPlainW
/- Bags, plain facts, continued: the print, bounds, what Check finds. -/
namespace Go.Proofs.Ythccdoejnklidaa.Bg
open Go.Proofs.Ythccdoejnklidaa

/-- The print of a block. -/
def Pr (t : ByteArray) : Int := (G.print 65581 t.data.toList : Int)

theorem Pr_lt (t : ByteArray) : 0 ≤ Pr t ∧ Pr t ≤ 70000 := by
  have h := G.print_lt t.data.toList (m := 65581) (by omega)
  have h17 : G.L 65581 = 17 := G.L_eq (k := 16) (by decide) (by decide)
  have := G.L_le.1 (show G.L (G.print 65581 t.data.toList) ≤ 17 by omega)
  have h16 := G.L_le.1 (show G.L (G.print 65581 t.data.toList) ≤ 16 by omega)
  have e : (2 : Nat) ^ 16 = 65536 := rfl
  unfold Pr
  omega

theorem one_fit {x : It} (h : oneE Pr x = 0) : Fit x ∧ x.text.size ≤ 64 ∧ x.sum = Pr x.text ∧ 0 ≤ x.n ∧ x.n < 64 ∧ 1 ≤ x.refs ∧ x.refs ≤ 1000000 := by
  unfold oneE at h
  split at h
  · cases h
  · split at h
    · cases h
    · split at h
      · cases h
      · rename_i h1 h2 h3
        have h2' : x.sum = Pr x.text := Decidable.not_not.1 h2
        have := Pr_lt x.text
        refine ⟨⟨by omega, by omega, by omega, by omega⟩, by omega, h2', by omega, by omega, by omega, by omega⟩

theorem oneE_le (P : ByteArray → Int) (x : It) : oneE P x ≤ 6 := by
  unfold oneE
  repeat' split
  all_goals omega

theorem atE_le (P : ByteArray → Int) (l : List It) (i : Nat) : atE P l i ≤ 6 := by
  unfold atE
  split
  · omega
  · rename_i x _
    have := oneE_le P x
    repeat' split
    all_goals omega

theorem scan_stay {P : ByteArray → Int} {l : List It} {k : Nat} (h : scan P l k ≠ 0) : ∀ m, k ≤ m → scan P l m = scan P l k
  | 0, hm => by obtain rfl : k = 0 := by omega
                rfl
  | m + 1, hm => by
    by_cases e : k = m + 1
    · subst e; rfl
    · have ih := scan_stay h m (by omega)
      rw [scan, if_pos (by rw [ih]; exact h), ih]

theorem scan_step {P : ByteArray → Int} {l : List It} {k : Nat} (h : scan P l k = 0) : scan P l (k + 1) = atE P l k := by
  rw [scan, if_neg (fun h' => h' h)]

/-- The fault at a place ends the search. -/
theorem check_at {P : ByteArray → Int} {l : List It} {k e : Nat} (hl : l.length ≤ 64) (hk : k < l.length) (h : scan P l k = 0) (he : atE P l k = e) (h0 : e ≠ 0) : checkE P l = e := by
  unfold checkE
  rw [if_neg (by omega), scan_stay (k := k + 1) (by rw [scan_step h, he]; exact h0) _ hk, scan_step h, he]

theorem check_end {P : ByteArray → Int} {l : List It} (hl : l.length ≤ 64) (h : scan P l l.length = 0) : checkE P l = 0 := by
  unfold checkE
  rw [if_neg (by omega), h]

theorem atE_one {P : ByteArray → Int} {l : List It} {k : Nat} (hk : k < l.length) (h : oneE P l[k] ≠ 0) : atE P l k = oneE P l[k] := by
  unfold atE
  rw [List.getElem?_eq_getElem hk]
  exact if_pos h

theorem atE_form {P : ByteArray → Int} {l : List It} {k : Nat} (hk : k < l.length) (h : oneE P l[k] = 0) (h0 : 0 < k) (hc : 0 ≤ cmp (l[k - 1]'(by omega)) l[k]) : atE P l k = 3 := by
  unfold atE
  rw [List.getElem?_eq_getElem hk, List.getElem?_eq_getElem (show k - 1 < l.length by omega)]
  show (if oneE P l[k] ≠ 0 then _ else if (decide (0 < k) && decide (0 ≤ cmp (l[k - 1]'(by omega)) l[k])) = true then 3 else _) = 3
  rw [if_neg (fun h' => h' h), decide_eq_true h0, decide_eq_true hc]
  rfl

theorem atE_rest {P : ByteArray → Int} {l : List It} {k : Nat} (hk : k < l.length) (h : oneE P l[k] = 0) (hc : k = 0 ∨ ∃ h0 : 0 < k, cmp (l[k - 1]'(by omega)) l[k] < 0) : atE P l k = if (l.take k).any (same l[k].text) = true then 5 else 0 := by
  unfold atE
  rw [List.getElem?_eq_getElem hk]
  rcases hc with rfl | ⟨h0, hc⟩
  · show (if oneE P l[0] ≠ 0 then _ else if (decide (0 < 0) && _) = true then 3 else _) = _
    rw [if_neg (fun h' => h' h), decide_eq_false (Nat.lt_irrefl 0), Bool.false_and]
    rfl
  · rw [List.getElem?_eq_getElem (show k - 1 < l.length by omega)]
    show (if oneE P l[k] ≠ 0 then _ else if (decide (0 < k) && decide (0 ≤ cmp (l[k - 1]'(by omega)) l[k])) = true then 3 else _) = _
    rw [if_neg (fun h' => h' h), decide_eq_false (show ¬ (0 ≤ cmp (l[k - 1]'(by omega)) l[k]) by omega), Bool.and_false]
    rfl

/-- What is right so far has been looked at. -/
theorem scan_one {P : ByteArray → Int} {l : List It} : ∀ {k : Nat}, scan P l k = 0 → ∀ j, j < k → (hj : j < l.length) → oneE P l[j] = 0
  | 0, _, j, hjk, _ => by omega
  | k + 1, h, j, hjk, hj => by
    have hk : scan P l k = 0 := by
      by_cases e : scan P l k = 0
      · exact e
      · rw [scan, if_pos e] at h; exact absurd h e
    by_cases e : j = k
    · subst e
      rw [scan_step hk] at h
      by_cases e : oneE P l[j] = 0
      · exact e
      · rw [atE_one hj e] at h; exact absurd h e
    · exact scan_one hk j (by omega) hj

end Go.Proofs.Ythccdoejnklidaa.Bg

/- Bags, plain facts, continued: what Get, Drop and Put answer. -/
namespace Go.Proofs.Ythccdoejnklidaa.Bg
open Go.Proofs.Ythccdoejnklidaa

/-- No text. -/
def noText : ByteArray := ⟨#[]⟩
def noId : Id := ⟨false, 0, 0⟩

def getR (P : ByteArray → Int) (l : List It) (id : Id) : ByteArray × Nat :=
  if checkE P l ≠ 0 then (noText, checkE P l) else match l.findIdx? (hit id) with
    | none => (noText, 4)
    | some i => match l[i]? with
      | some x => (x.text, 0)
      | none => (noText, 4)

/-- A reference less. -/
def less (l : List It) (i : Nat) : List It := match l[i]? with
  | some x => if x.refs = 1 then l.take i ++ l.drop (i + 1) else l.set i ⟨x.sum, x.n, x.text, x.refs - 1⟩
  | none => l

def dropR (P : ByteArray → Int) (l : List It) (id : Id) : List It × Nat :=
  if checkE P l ≠ 0 then ([], checkE P l) else match l.findIdx? (hit id) with
    | none => ([], 4)
    | some i => (less l i, 0)

/-- The first number that no item of this print has. -/
def freeFrom (l : List It) (s : Int) : Nat → Int → Int
  | 0, k => k
  | f + 1, k => if l.any (hit ⟨true, s, k⟩) = true then freeFrom l s f (k + 1) else k
def free (l : List It) (s : Int) : Int := freeFrom l s (l.length + 1) 0

/-- An item at its place. -/
def ins (l : List It) (x : It) : List It := l.take (l.countP fun y => decide (cmp y x < 0)) ++ x :: l.drop (l.countP fun y => decide (cmp y x < 0))

structure PutA where
  l : List It
  id : Id
  e : Nat

def putR (P : ByteArray → Int) (l : List It) (t : ByteArray) : PutA :=
  if checkE P l ≠ 0 then ⟨[], noId, checkE P l⟩ else if 64 < t.size then ⟨[], noId, 2⟩ else match l.findIdx? (same t) with
    | some i => match l[i]? with
      | some x => if x.refs = 1000000 then ⟨[], noId, 8⟩ else ⟨l.set i ⟨x.sum, x.n, x.text, x.refs + 1⟩, ⟨true, x.sum, x.n⟩, 0⟩
      | none => ⟨[], noId, 8⟩
    | none => if l.length = 64 then ⟨[], noId, 8⟩ else ⟨ins l ⟨P t, free l (P t), t, 1⟩, ⟨true, P t, free l (P t)⟩, 0⟩

theorem check_len {P : ByteArray → Int} {l : List It} (h : checkE P l = 0) : l.length ≤ 64 := by
  unfold checkE at h
  split at h
  · cases h
  · omega

theorem check_scan {P : ByteArray → Int} {l : List It} (h : checkE P l = 0) : scan P l l.length = 0 := by
  unfold checkE at h
  rw [if_neg (by have := check_len h; omega)] at h
  exact h

theorem check_one {l : List It} (h : checkE Pr l = 0) {x : It} (hx : x ∈ l) : oneE Pr x = 0 := by
  obtain ⟨j, hj, rfl⟩ := List.getElem_of_mem hx
  exact scan_one (check_scan h) j hj hj

theorem checkE_le (P : ByteArray → Int) (l : List It) : checkE P l ≤ 6 := by
  have : ∀ k, scan P l k ≤ 6 := fun k => by
    induction k with
    | zero => exact Nat.zero_le _
    | succ k ih => rw [scan]; split; exact ih; exact atE_le P l k
  unfold checkE
  split
  · omega
  · exact this _

theorem scan_before {P : ByteArray → Int} {l : List It} {k m : Nat} (h : scan P l m = 0) (hk : k ≤ m) : scan P l k = 0 := by
  by_cases e : scan P l k = 0
  · exact e
  · exact absurd ((scan_stay e m hk).symm.trans h) e

/-- What is right is sorted. -/
theorem check_at0 {l : List It} (h : checkE Pr l = 0) {k : Nat} (hk : k < l.length) : atE Pr l k = 0 := by
  have h1 := check_scan h
  rw [← scan_step (scan_before h1 (Nat.le_of_lt hk))]
  exact scan_before h1 hk

theorem check_step {l : List It} (h : checkE Pr l = 0) {k : Nat} (hk : k + 1 < l.length) : cmp l[k] l[k + 1] < 0 := by
  have h0 := check_at0 h hk
  by_cases hc : cmp l[k] l[k + 1] < 0
  · exact hc
  · have := atE_form (P := Pr) hk (check_one h (List.getElem_mem hk)) (Nat.succ_pos k) (by simp only [Nat.add_sub_cancel]; omega)
    omega

theorem check_apart {l : List It} (h : checkE Pr l = 0) {k : Nat} (hk : k < l.length) : (l.take k).any (same l[k].text) = false := by
  have h0 := check_at0 h hk
  rw [atE_rest hk (check_one h (List.getElem_mem hk)) (by
    rcases Nat.eq_zero_or_pos k with e | e
    · exact Or.inl e
    · refine Or.inr ⟨e, ?_⟩
      obtain ⟨m, rfl⟩ : ∃ m, k = m + 1 := ⟨k - 1, by omega⟩
      exact check_step h hk)] at h0
  cases hb : (l.take k).any (same l[k].text) with
  | false => rfl
  | true => rw [hb] at h0; cases h0

theorem cmp_trans {a b c : It} (h1 : cmp a b < 0) (h2 : cmp b c < 0) : cmp a c < 0 := by
  rw [cmp_lt] at *
  omega

theorem check_sorted {l : List It} (h : checkE Pr l = 0) : l.Pairwise fun s t => cmp s t < 0 := by
  rw [List.pairwise_iff_getElem]
  intro i j hi hj hij
  obtain ⟨d, rfl⟩ : ∃ d, j = i + 1 + d := ⟨j - i - 1, by omega⟩
  clear hij
  induction d with
  | zero => exact check_step h hj
  | succ d ih => exact cmp_trans (ih (by omega)) (check_step h hj)

end Go.Proofs.Ythccdoejnklidaa.Bg

/- Bags, plain facts, continued: the first free number, an item at its place. -/
namespace Go.Proofs.Ythccdoejnklidaa.Bg
open Go.Proofs.Ythccdoejnklidaa

theorem hit_iff {s k : Int} {x : It} : hit ⟨true, s, k⟩ x = true ↔ x.sum = s ∧ x.n = k := by
  unfold hit
  simp

/-- All numbers up to k are taken: the item with number k lies at k at least. -/
theorem taken_at {l : List It} (hs : l.Pairwise fun s t => cmp s t < 0) {s : Int} : ∀ (k : Nat), (∀ j : Nat, j ≤ k → ∃ x, x ∈ l ∧ hit ⟨true, s, (j : Int)⟩ x = true) → ∀ i (hi : i < l.length), hit ⟨true, s, (k : Int)⟩ l[i] = true → k ≤ i
  | 0, _, _, _, _ => Nat.zero_le _
  | k + 1, h, i, hi, hh => by
    obtain ⟨x, hx, hx2⟩ := h k (by omega)
    obtain ⟨j, hj, rfl⟩ := List.getElem_of_mem hx
    have ih := taken_at hs k (fun j hj => h j (by omega)) j hj hx2
    rw [hit_iff] at hh hx2
    by_cases e : j < i
    · omega
    · exfalso
      by_cases e2 : i = j
      · subst e2; omega
      · have := (List.pairwise_iff_getElem.1 hs) i j hi hj (by omega)
        rw [cmp_lt] at this
        omega

theorem taken_lt {l : List It} (hs : l.Pairwise fun s t => cmp s t < 0) {s : Int} {k : Nat} (h : ∀ j : Nat, j ≤ k → l.any (hit ⟨true, s, (j : Int)⟩) = true) : k < l.length := by
  have h' : ∀ j : Nat, j ≤ k → ∃ x, x ∈ l ∧ hit ⟨true, s, (j : Int)⟩ x = true := fun j hj => List.any_eq_true.1 (h j hj)
  obtain ⟨x, hx, hx2⟩ := h' k (Nat.le_refl _)
  obtain ⟨i, hi, rfl⟩ := List.getElem_of_mem hx
  have := taken_at hs k h' i hi hx2
  omega

theorem freeFrom_at {l : List It} {s : Int} : ∀ (f : Nat) (k0 k : Nat), k0 ≤ k → k - k0 < f → (∀ j : Nat, k0 ≤ j → j < k → l.any (hit ⟨true, s, (j : Int)⟩) = true) → l.any (hit ⟨true, s, (k : Int)⟩) = false → freeFrom l s f (k0 : Int) = (k : Int)
  | 0, k0, k, _, h, _, _ => by omega
  | f + 1, k0, k, h1, h2, h3, h4 => by
    unfold freeFrom
    by_cases e : k0 = k
    · subst e
      rw [h4, if_neg (by decide)]
    · rw [h3 k0 (Nat.le_refl _) (by omega), if_pos rfl]
      have := freeFrom_at f (k0 + 1) k (by omega) (by omega) (fun j hj1 hj2 => h3 j (by omega) hj2) h4
      rw [← this]
      rfl

/-- The number that the search finds. -/
theorem free_at {l : List It} {s : Int} {k : Nat} (hk : k ≤ l.length) (h : ∀ j : Nat, j < k → l.any (hit ⟨true, s, (j : Int)⟩) = true) (h0 : l.any (hit ⟨true, s, (k : Int)⟩) = false) : free l s = (k : Int) := by
  unfold free
  exact freeFrom_at (l.length + 1) 0 k (Nat.zero_le _) (by omega) (fun j _ hj => h j hj) h0

/-- There is a free number. -/
theorem free_ex {l : List It} (hs : l.Pairwise fun s t => cmp s t < 0) (s : Int) : ∃ k : Nat, k ≤ l.length ∧ (∀ j : Nat, j < k → l.any (hit ⟨true, s, (j : Int)⟩) = true) ∧ l.any (hit ⟨true, s, (k : Int)⟩) = false := by
  have key : ∀ m : Nat, (∀ j : Nat, j < m → l.any (hit ⟨true, s, (j : Int)⟩) = true) ∨ ∃ k : Nat, (∀ j : Nat, j < k → l.any (hit ⟨true, s, (j : Int)⟩) = true) ∧ l.any (hit ⟨true, s, (k : Int)⟩) = false := fun m => by
    induction m with
    | zero => exact Or.inl fun j hj => absurd hj (Nat.not_lt_zero _)
    | succ m ih =>
      rcases ih with ih | ih
      · cases hb : l.any (hit ⟨true, s, (m : Int)⟩) with
        | false => exact Or.inr ⟨m, ih, hb⟩
        | true =>
          refine Or.inl fun j hj => ?_
          by_cases e : j = m
          · subst e; exact hb
          · exact ih j (by omega)
      · exact Or.inr ih
  rcases key (l.length + 1) with h | ⟨k, h1, h2⟩
  · exact absurd (taken_lt (k := l.length) hs fun j hj => h j (by omega)) (Nat.lt_irrefl _)
  · refine ⟨k, ?_, h1, h2⟩
    rcases Nat.eq_zero_or_pos k with e | e
    · omega
    · have := taken_lt (k := k - 1) hs fun j hj => h1 j (by omega)
      omega

theorem countP_at {l : List It} {x : It} {k : Nat} (hk : k ≤ l.length) (h1 : ∀ m (hm : m < l.length), m < k → cmp l[m] x < 0) (h2 : ∀ m (hm : m < l.length), k ≤ m → 0 ≤ cmp l[m] x) : (l.countP fun y => decide (cmp y x < 0)) = k := by
  have e : l = l.take k ++ l.drop k := (List.take_append_drop k l).symm
  have c1 : (l.take k).countP (fun y => decide (cmp y x < 0)) = (l.take k).length := by
    rw [List.countP_eq_length]
    intro y hy
    obtain ⟨j, hj, rfl⟩ := List.getElem_of_mem hy
    rw [List.length_take] at hj
    rw [List.getElem_take]
    exact decide_eq_true (h1 j (by omega) (by omega))
  have c2 : (l.drop k).countP (fun y => decide (cmp y x < 0)) = 0 := by
    rw [List.countP_eq_zero]
    intro y hy
    obtain ⟨j, hj, rfl⟩ := List.getElem_of_mem hy
    rw [List.length_drop] at hj
    rw [List.getElem_drop]
    have := h2 (k + j) (by omega) (by omega)
    rw [decide_eq_true_iff]
    omega
  conv => lhs; rw [e]
  rw [List.countP_append, c1, c2, List.length_take]
  omega

theorem ins_at {l : List It} {x : It} {k : Nat} (hk : k ≤ l.length) (h1 : ∀ m (hm : m < l.length), m < k → cmp l[m] x < 0) (h2 : ∀ m (hm : m < l.length), k ≤ m → 0 ≤ cmp l[m] x) : ins l x = l.take k ++ x :: l.drop k := by
  unfold ins
  rw [countP_at hk h1 h2]

end Go.Proofs.Ythccdoejnklidaa.Bg

/- Bags, plain facts, continued: a right bag; what Put leaves. -/
namespace Go.Proofs.Ythccdoejnklidaa.Bg
open Go.Proofs.Ythccdoejnklidaa

theorem bs_same {s t : ByteArray} : s.toList = t.toList ↔ s = t := by
  constructor
  · intro h
    rw [ByteArray.toList_eq, ByteArray.toList_eq] at h
    exact ByteArray.ext (Array.toList_inj.mp h)
  · rintro rfl; rfl

theorem same_iff {s : ByteArray} {y : It} : same s y = true ↔ y.text = s := by
  unfold same
  rw [beq_iff_eq, bs_same]

theorem same_no {s : ByteArray} {y : It} : same s y = false ↔ y.text ≠ s := by
  rw [← Bool.not_eq_true, same_iff]

theorem hitB {id : Id} {x : It} : hit id x = true ↔ id.is = true ∧ x.sum = id.sum ∧ x.n = id.n := by
  unfold hit
  simp

/-- A right bag. -/
structure Good (l : List It) : Prop where
  len : l.length ≤ 64
  one : ∀ x ∈ l, oneE Pr x = 0
  srt : l.Pairwise fun x y => cmp x y < 0
  txt : l.Pairwise fun x y => x.text ≠ y.text

theorem check_good {l : List It} (h : checkE Pr l = 0) : Good l := by
  refine ⟨check_len h, fun x hx => check_one h hx, check_sorted h, ?_⟩
  rw [List.pairwise_iff_getElem]
  intro i j hi hj hij e
  have h0 := check_apart h hj
  rw [List.any_eq_false] at h0
  refine h0 l[i] ?_ (same_iff.2 e)
  rw [List.mem_take_iff_getElem]
  exact ⟨i, by omega, rfl⟩

theorem good_check {l : List It} (h : Good l) : checkE Pr l = 0 := by
  have hs : ∀ k, k ≤ l.length → scan Pr l k = 0 := fun k => by
    induction k with
    | zero => intro _; rfl
    | succ k ih =>
      intro hk
      rw [scan_step (ih (by omega)), atE_rest (by omega) (h.one _ (List.getElem_mem _)) (by
        rcases Nat.eq_zero_or_pos k with e | e
        · exact Or.inl e
        · exact Or.inr ⟨e, (List.pairwise_iff_getElem.1 h.srt) (k - 1) k (by omega) (by omega) (by omega)⟩), if_neg]
      rw [Bool.not_eq_true, List.any_eq_false]
      intro x hx hh
      obtain ⟨i, hi, rfl⟩ := List.mem_take_iff_getElem.1 hx
      exact (List.pairwise_iff_getElem.1 h.txt) i k (by omega) (by omega) (by omega) (same_iff.1 hh)
  unfold checkE
  rw [if_neg (by have := h.len; omega)]
  exact hs _ (Nat.le_refl _)

theorem good_iff {l : List It} : checkE Pr l = 0 ↔ Good l := ⟨check_good, good_check⟩

theorem good_nil : Good [] := ⟨by simp, by simp, List.Pairwise.nil, List.Pairwise.nil⟩

/-- Two items of one id are one. -/
theorem Good.inj {l : List It} (h : Good l) {i j : Nat} (hi : i < l.length) (hj : j < l.length) (h1 : l[i].sum = l[j].sum) (h2 : l[i].n = l[j].n) : i = j := by
  rcases Nat.lt_trichotomy i j with e | e | e
  · have := (List.pairwise_iff_getElem.1 h.srt) i j hi hj e
    rw [cmp_lt] at this; omega
  · exact e
  · have := (List.pairwise_iff_getElem.1 h.srt) j i hj hi e
    rw [cmp_lt] at this; omega

theorem Good.injT {l : List It} (h : Good l) {i j : Nat} (hi : i < l.length) (hj : j < l.length) (h1 : l[i].text = l[j].text) : i = j := by
  rcases Nat.lt_trichotomy i j with e | e | e
  · exact absurd h1 ((List.pairwise_iff_getElem.1 h.txt) i j hi hj e)
  · exact e
  · exact absurd h1.symm ((List.pairwise_iff_getElem.1 h.txt) j i hj hi e)

/-- What an id says of a bag. -/
def Has (l : List It) (id : Id) (t : ByteArray) : Prop := ∃ x ∈ l, hit id x = true ∧ x.text = t

theorem Has.inj {l : List It} (h : Good l) {id : Id} {s t : ByteArray} (h1 : Has l id s) (h2 : Has l id t) : s = t := by
  obtain ⟨x, hx, h3, rfl⟩ := h1
  obtain ⟨y, hy, h4, rfl⟩ := h2
  obtain ⟨i, hi, rfl⟩ := List.getElem_of_mem hx
  obtain ⟨j, hj, rfl⟩ := List.getElem_of_mem hy
  rw [hitB] at h3 h4
  obtain rfl := h.inj hi hj (by omega) (by omega)
  rfl

theorem Has.injId {l : List It} (h : Good l) {id id' : Id} {t : ByteArray} (h1 : Has l id t) (h2 : Has l id' t) : id = id' := by
  obtain ⟨x, hx, h3, h5⟩ := h1
  obtain ⟨y, hy, h4, h6⟩ := h2
  obtain ⟨i, hi, rfl⟩ := List.getElem_of_mem hx
  obtain ⟨j, hj, rfl⟩ := List.getElem_of_mem hy
  obtain rfl := h.injT hi hj (h5.trans h6.symm)
  rw [hitB] at h3 h4
  obtain ⟨i0, i1, i2⟩ := id
  obtain ⟨j0, j1, j2⟩ := id'
  dsimp only at h3 h4
  obtain ⟨rfl, rfl, rfl⟩ := h3
  obtain ⟨rfl, rfl, rfl⟩ := h4
  rfl

/-- What Get answers of a right bag. -/
theorem getR_iff {l : List It} (h : Good l) {id : Id} {t : ByteArray} : getR Pr l id = (t, 0) ↔ Has l id t := by
  unfold getR
  rw [if_neg (fun h' => h' (good_check h))]
  cases hf : l.findIdx? (hit id) with
  | none =>
    rw [List.findIdx?_eq_none_iff] at hf
    constructor
    · intro h1; simp at h1
    · rintro ⟨x, hx, hh, -⟩
      rw [hf x hx] at hh; cases hh
  | some i =>
    obtain ⟨hi, h1, -⟩ := List.findIdx?_eq_some_iff_getElem.1 hf
    simp only [List.getElem?_eq_getElem hi]
    constructor
    · intro h2
      have e : l[i].text = t := by simpa using h2
      exact ⟨l[i], List.getElem_mem hi, h1, e⟩
    · intro h2
      rw [Has.inj h h2 ⟨l[i], List.getElem_mem hi, h1, rfl⟩]

theorem getR_e {l : List It} {id : Id} : (getR Pr l id).2 = 0 → checkE Pr l = 0 ∧ Has l id (getR Pr l id).1 := by
  intro h
  by_cases h0 : checkE Pr l = 0
  · refine ⟨h0, (getR_iff (check_good h0)).1 ?_⟩
    rw [← h]
  · unfold getR at h
    rw [if_pos h0] at h
    exact absurd h h0

theorem getR_fail {l : List It} {id : Id} (h : (getR Pr l id).2 ≠ 0) : (getR Pr l id).1 = noText := by
  unfold getR at h ⊢
  split
  · rfl
  · rename_i h0
    rw [if_neg h0] at h
    split
    · rfl
    · rename_i i hi
      rw [hi] at h
      simp only at h
      split
      · rename_i x hx
        rw [hx] at h
        exact absurd rfl h
      · rfl

end Go.Proofs.Ythccdoejnklidaa.Bg
