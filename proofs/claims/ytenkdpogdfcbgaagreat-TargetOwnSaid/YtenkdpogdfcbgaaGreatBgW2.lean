import Derived.Test.YtenkdpogdfcbgaaGreatItD
import Derived.Test.YtenkdpogdfcbgaaGreatPlainW
import Derived.Deep.RegionWith
/- Bags, plain facts, continued: the print, bounds, what Check finds. -/
namespace Go.Proofs.YtenkdpogdfcbgaaGreat.Bg
open Go.Proofs.YtenkdpogdfcbgaaGreat

/-- The print of a block. -/
def Pr (t : ByteArray) : Int := (G.print 65581 t.data.toList : Int)

theorem Pr_lt (t : ByteArray) : 0 ≤ Pr t ∧ Pr t ≤ 70000 := by
  have h := G.print_lt t.data.toList (m := 65581) (by omega)
  have h17 : G.L 65581 = 17 := G.L_eq (k := 16) (by decide) (by decide)
  have := G.L_le.1 (show G.L (G.print 65581 t.data.toList) ≤ 17 by omega)
  have h16 := G.L_le.1 (show G.L (G.print 65581 t.data.toList) ≤ 16 by omega)
  have e : (2 : Nat) ^ 16 = 65536 := rfl
  unfold Pr
  omega

theorem one_fit {x : It} (h : oneE Pr x = 0) : Fit x ∧ x.text.size ≤ 64 ∧ x.sum = Pr x.text ∧ 0 ≤ x.n ∧ x.n < 64 ∧ 1 ≤ x.refs ∧ x.refs ≤ 1000000 := by
  unfold oneE at h
  split at h
  · cases h
  · split at h
    · cases h
    · split at h
      · cases h
      · rename_i h1 h2 h3
        have h2' : x.sum = Pr x.text := Decidable.not_not.1 h2
        have := Pr_lt x.text
        refine ⟨⟨by omega, by omega, by omega, by omega⟩, by omega, h2', by omega, by omega, by omega, by omega⟩

theorem oneE_le (P : ByteArray → Int) (x : It) : oneE P x ≤ 6 := by
  unfold oneE
  repeat' split
  all_goals omega

theorem atE_le (P : ByteArray → Int) (l : List It) (i : Nat) : atE P l i ≤ 6 := by
  unfold atE
  split
  · omega
  · rename_i x _
    have := oneE_le P x
    repeat' split
    all_goals omega

theorem scan_stay {P : ByteArray → Int} {l : List It} {k : Nat} (h : scan P l k ≠ 0) : ∀ m, k ≤ m → scan P l m = scan P l k
  | 0, hm => by obtain rfl : k = 0 := by omega
                rfl
  | m + 1, hm => by
    by_cases e : k = m + 1
    · subst e; rfl
    · have ih := scan_stay h m (by omega)
      rw [scan, if_pos (by rw [ih]; exact h), ih]

theorem scan_step {P : ByteArray → Int} {l : List It} {k : Nat} (h : scan P l k = 0) : scan P l (k + 1) = atE P l k := by
  rw [scan, if_neg (fun h' => h' h)]

/-- The fault at a place ends the search. -/
theorem check_at {P : ByteArray → Int} {l : List It} {k e : Nat} (hl : l.length ≤ 64) (hk : k < l.length) (h : scan P l k = 0) (he : atE P l k = e) (h0 : e ≠ 0) : checkE P l = e := by
  unfold checkE
  rw [if_neg (by omega), scan_stay (k := k + 1) (by rw [scan_step h, he]; exact h0) _ hk, scan_step h, he]

theorem check_end {P : ByteArray → Int} {l : List It} (hl : l.length ≤ 64) (h : scan P l l.length = 0) : checkE P l = 0 := by
  unfold checkE
  rw [if_neg (by omega), h]

theorem atE_one {P : ByteArray → Int} {l : List It} {k : Nat} (hk : k < l.length) (h : oneE P l[k] ≠ 0) : atE P l k = oneE P l[k] := by
  unfold atE
  rw [List.getElem?_eq_getElem hk]
  exact if_pos h

theorem atE_form {P : ByteArray → Int} {l : List It} {k : Nat} (hk : k < l.length) (h : oneE P l[k] = 0) (h0 : 0 < k) (hc : 0 ≤ cmp (l[k - 1]'(by omega)) l[k]) : atE P l k = 3 := by
  unfold atE
  rw [List.getElem?_eq_getElem hk, List.getElem?_eq_getElem (show k - 1 < l.length by omega)]
  show (if oneE P l[k] ≠ 0 then _ else if (decide (0 < k) && decide (0 ≤ cmp (l[k - 1]'(by omega)) l[k])) = true then 3 else _) = 3
  rw [if_neg (fun h' => h' h), decide_eq_true h0, decide_eq_true hc]
  rfl

theorem atE_rest {P : ByteArray → Int} {l : List It} {k : Nat} (hk : k < l.length) (h : oneE P l[k] = 0) (hc : k = 0 ∨ ∃ h0 : 0 < k, cmp (l[k - 1]'(by omega)) l[k] < 0) : atE P l k = if (l.take k).any (same l[k].text) = true then 5 else 0 := by
  unfold atE
  rw [List.getElem?_eq_getElem hk]
  rcases hc with rfl | ⟨h0, hc⟩
  · show (if oneE P l[0] ≠ 0 then _ else if (decide (0 < 0) && _) = true then 3 else _) = _
    rw [if_neg (fun h' => h' h), decide_eq_false (Nat.lt_irrefl 0), Bool.false_and]
    rfl
  · rw [List.getElem?_eq_getElem (show k - 1 < l.length by omega)]
    show (if oneE P l[k] ≠ 0 then _ else if (decide (0 < k) && decide (0 ≤ cmp (l[k - 1]'(by omega)) l[k])) = true then 3 else _) = _
    rw [if_neg (fun h' => h' h), decide_eq_false (show ¬ (0 ≤ cmp (l[k - 1]'(by omega)) l[k]) by omega), Bool.and_false]
    rfl

/-- What is right so far has been looked at. -/
theorem scan_one {P : ByteArray → Int} {l : List It} : ∀ {k : Nat}, scan P l k = 0 → ∀ j, j < k → (hj : j < l.length) → oneE P l[j] = 0
  | 0, _, j, hjk, _ => by omega
  | k + 1, h, j, hjk, hj => by
    have hk : scan P l k = 0 := by
      by_cases e : scan P l k = 0
      · exact e
      · rw [scan, if_pos e] at h; exact absurd h e
    by_cases e : j = k
    · subst e
      rw [scan_step hk] at h
      by_cases e : oneE P l[j] = 0
      · exact e
      · rw [atE_one hj e] at h; exact absurd h e
    · exact scan_one hk j (by omega) hj

end Go.Proofs.YtenkdpogdfcbgaaGreat.Bg

/- Bags, plain facts, continued: what Get, Drop and Put answer. -/
namespace Go.Proofs.YtenkdpogdfcbgaaGreat.Bg
open Go.Proofs.YtenkdpogdfcbgaaGreat

/-- No text. -/
def noText : ByteArray := ⟨#[]⟩
def noId : Id := ⟨false, 0, 0⟩

def getR (P : ByteArray → Int) (l : List It) (id : Id) : ByteArray × Nat :=
  if checkE P l ≠ 0 then (noText, checkE P l) else match l.findIdx? (hit id) with
    | none => (noText, 4)
    | some i => match l[i]? with
      | some x => (x.text, 0)
      | none => (noText, 4)

/-- A reference less. -/
def less (l : List It) (i : Nat) : List It := match l[i]? with
  | some x => if x.refs = 1 then l.take i ++ l.drop (i + 1) else l.set i ⟨x.sum, x.n, x.text, x.refs - 1⟩
  | none => l

def dropR (P : ByteArray → Int) (l : List It) (id : Id) : List It × Nat :=
  if checkE P l ≠ 0 then ([], checkE P l) else match l.findIdx? (hit id) with
    | none => ([], 4)
    | some i => (less l i, 0)

/-- The first number that no item of this print has. -/
def freeFrom (l : List It) (s : Int) : Nat → Int → Int
  | 0, k => k
  | f + 1, k => if l.any (hit ⟨true, s, k⟩) = true then freeFrom l s f (k + 1) else k
def free (l : List It) (s : Int) : Int := freeFrom l s (l.length + 1) 0

/-- An item at its place. -/
def ins (l : List It) (x : It) : List It := l.take (l.countP fun y => decide (cmp y x < 0)) ++ x :: l.drop (l.countP fun y => decide (cmp y x < 0))

structure PutA where
  l : List It
  id : Id
  e : Nat

def putR (P : ByteArray → Int) (l : List It) (t : ByteArray) : PutA :=
  if checkE P l ≠ 0 then ⟨[], noId, checkE P l⟩ else if 64 < t.size then ⟨[], noId, 2⟩ else match l.findIdx? (same t) with
    | some i => match l[i]? with
      | some x => if x.refs = 1000000 then ⟨[], noId, 8⟩ else ⟨l.set i ⟨x.sum, x.n, x.text, x.refs + 1⟩, ⟨true, x.sum, x.n⟩, 0⟩
      | none => ⟨[], noId, 8⟩
    | none => if l.length = 64 then ⟨[], noId, 8⟩ else ⟨ins l ⟨P t, free l (P t), t, 1⟩, ⟨true, P t, free l (P t)⟩, 0⟩

theorem check_len {P : ByteArray → Int} {l : List It} (h : checkE P l = 0) : l.length ≤ 64 := by
  unfold checkE at h
  split at h
  · cases h
  · omega

theorem check_scan {P : ByteArray → Int} {l : List It} (h : checkE P l = 0) : scan P l l.length = 0 := by
  unfold checkE at h
  rw [if_neg (by have := check_len h; omega)] at h
  exact h

theorem check_one {l : List It} (h : checkE Pr l = 0) {x : It} (hx : x ∈ l) : oneE Pr x = 0 := by
  obtain ⟨j, hj, rfl⟩ := List.getElem_of_mem hx
  exact scan_one (check_scan h) j hj hj

theorem checkE_le (P : ByteArray → Int) (l : List It) : checkE P l ≤ 6 := by
  have : ∀ k, scan P l k ≤ 6 := fun k => by
    induction k with
    | zero => exact Nat.zero_le _
    | succ k ih => rw [scan]; split; exact ih; exact atE_le P l k
  unfold checkE
  split
  · omega
  · exact this _

theorem scan_before {P : ByteArray → Int} {l : List It} {k m : Nat} (h : scan P l m = 0) (hk : k ≤ m) : scan P l k = 0 := by
  by_cases e : scan P l k = 0
  · exact e
  · exact absurd ((scan_stay e m hk).symm.trans h) e

/-- What is right is sorted. -/
theorem check_at0 {l : List It} (h : checkE Pr l = 0) {k : Nat} (hk : k < l.length) : atE Pr l k = 0 := by
  have h1 := check_scan h
  rw [← scan_step (scan_before h1 (Nat.le_of_lt hk))]
  exact scan_before h1 hk

theorem check_step {l : List It} (h : checkE Pr l = 0) {k : Nat} (hk : k + 1 < l.length) : cmp l[k] l[k + 1] < 0 := by
  have h0 := check_at0 h hk
  by_cases hc : cmp l[k] l[k + 1] < 0
  · exact hc
  · have := atE_form (P := Pr) hk (check_one h (List.getElem_mem hk)) (Nat.succ_pos k) (by simp only [Nat.add_sub_cancel]; omega)
    omega

theorem check_apart {l : List It} (h : checkE Pr l = 0) {k : Nat} (hk : k < l.length) : (l.take k).any (same l[k].text) = false := by
  have h0 := check_at0 h hk
  rw [atE_rest hk (check_one h (List.getElem_mem hk)) (by
    rcases Nat.eq_zero_or_pos k with e | e
    · exact Or.inl e
    · refine Or.inr ⟨e, ?_⟩
      obtain ⟨m, rfl⟩ : ∃ m, k = m + 1 := ⟨k - 1, by omega⟩
      exact check_step h hk)] at h0
  cases hb : (l.take k).any (same l[k].text) with
  | false => rfl
  | true => rw [hb] at h0; cases h0

theorem cmp_trans {a b c : It} (h1 : cmp a b < 0) (h2 : cmp b c < 0) : cmp a c < 0 := by
  rw [cmp_lt] at *
  omega

theorem check_sorted {l : List It} (h : checkE Pr l = 0) : l.Pairwise fun s t => cmp s t < 0 := by
  rw [List.pairwise_iff_getElem]
  intro i j hi hj hij
  obtain ⟨d, rfl⟩ : ∃ d, j = i + 1 + d := ⟨j - i - 1, by omega⟩
  clear hij
  induction d with
  | zero => exact check_step h hj
  | succ d ih => exact cmp_trans (ih (by omega)) (check_step h hj)

end Go.Proofs.YtenkdpogdfcbgaaGreat.Bg

/- Bags, plain facts, continued: the first free number, an item at its place. -/
namespace Go.Proofs.YtenkdpogdfcbgaaGreat.Bg
open Go.Proofs.YtenkdpogdfcbgaaGreat

theorem hit_iff {s k : Int} {x : It} : hit ⟨true, s, k⟩ x = true ↔ x.sum = s ∧ x.n = k := by
  unfold hit
  simp

/-- All numbers up to k are taken: the item with number k lies at k at least. -/
theorem taken_at {l : List It} (hs : l.Pairwise fun s t => cmp s t < 0) {s : Int} : ∀ (k : Nat), (∀ j : Nat, j ≤ k → ∃ x, x ∈ l ∧ hit ⟨true, s, (j : Int)⟩ x = true) → ∀ i (hi : i < l.length), hit ⟨true, s, (k : Int)⟩ l[i] = true → k ≤ i
  | 0, _, _, _, _ => Nat.zero_le _
  | k + 1, h, i, hi, hh => by
    obtain ⟨x, hx, hx2⟩ := h k (by omega)
    obtain ⟨j, hj, rfl⟩ := List.getElem_of_mem hx
    have ih := taken_at hs k (fun j hj => h j (by omega)) j hj hx2
    rw [hit_iff] at hh hx2
    by_cases e : j < i
    · omega
    · exfalso
      by_cases e2 : i = j
      · subst e2; omega
      · have := (List.pairwise_iff_getElem.1 hs) i j hi hj (by omega)
        rw [cmp_lt] at this
        omega

theorem taken_lt {l : List It} (hs : l.Pairwise fun s t => cmp s t < 0) {s : Int} {k : Nat} (h : ∀ j : Nat, j ≤ k → l.any (hit ⟨true, s, (j : Int)⟩) = true) : k < l.length := by
  have h' : ∀ j : Nat, j ≤ k → ∃ x, x ∈ l ∧ hit ⟨true, s, (j : Int)⟩ x = true := fun j hj => List.any_eq_true.1 (h j hj)
  obtain ⟨x, hx, hx2⟩ := h' k (Nat.le_refl _)
  obtain ⟨i, hi, rfl⟩ := List.getElem_of_mem hx
  have := taken_at hs k h' i hi hx2
  omega

theorem freeFrom_at {l : List It} {s : Int} : ∀ (f : Nat) (k0 k : Nat), k0 ≤ k → k - k0 < f → (∀ j : Nat, k0 ≤ j → j < k → l.any (hit ⟨true, s, (j : Int)⟩) = true) → l.any (hit ⟨true, s, (k : Int)⟩) = false → freeFrom l s f (k0 : Int) = (k : Int)
  | 0, k0, k, _, h, _, _ => by omega
  | f + 1, k0, k, h1, h2, h3, h4 => by
    unfold freeFrom
    by_cases e : k0 = k
    · subst e
      rw [h4, if_neg (by decide)]
    · rw [h3 k0 (Nat.le_refl _) (by omega), if_pos rfl]
      have := freeFrom_at f (k0 + 1) k (by omega) (by omega) (fun j hj1 hj2 => h3 j (by omega) hj2) h4
      rw [← this]
      rfl

/-- The number that the search finds. -/
theorem free_at {l : List It} {s : Int} {k : Nat} (hk : k ≤ l.length) (h : ∀ j : Nat, j < k → l.any (hit ⟨true, s, (j : Int)⟩) = true) (h0 : l.any (hit ⟨true, s, (k : Int)⟩) = false) : free l s = (k : Int) := by
  unfold free
  exact freeFrom_at (l.length + 1) 0 k (Nat.zero_le _) (by omega) (fun j _ hj => h j hj) h0

/-- There is a free number. -/
theorem free_ex {l : List It} (hs : l.Pairwise fun s t => cmp s t < 0) (s : Int) : ∃ k : Nat, k ≤ l.length ∧ (∀ j : Nat, j < k → l.any (hit ⟨true, s, (j : Int)⟩) = true) ∧ l.any (hit ⟨true, s, (k : Int)⟩) = false := by
  have key : ∀ m : Nat, (∀ j : Nat, j < m → l.any (hit ⟨true, s, (j : Int)⟩) = true) ∨ ∃ k : Nat, (∀ j : Nat, j < k → l.any (hit ⟨true, s, (j : Int)⟩) = true) ∧ l.any (hit ⟨true, s, (k : Int)⟩) = false := fun m => by
    induction m with
    | zero => exact Or.inl fun j hj => absurd hj (Nat.not_lt_zero _)
    | succ m ih =>
      rcases ih with ih | ih
      · cases hb : l.any (hit ⟨true, s, (m : Int)⟩) with
        | false => exact Or.inr ⟨m, ih, hb⟩
        | true =>
          refine Or.inl fun j hj => ?_
          by_cases e : j = m
          · subst e; exact hb
          · exact ih j (by omega)
      · exact Or.inr ih
  rcases key (l.length + 1) with h | ⟨k, h1, h2⟩
  · exact absurd (taken_lt (k := l.length) hs fun j hj => h j (by omega)) (Nat.lt_irrefl _)
  · refine ⟨k, ?_, h1, h2⟩
    rcases Nat.eq_zero_or_pos k with e | e
    · omega
    · have := taken_lt (k := k - 1) hs fun j hj => h1 j (by omega)
      omega

theorem countP_at {l : List It} {x : It} {k : Nat} (hk : k ≤ l.length) (h1 : ∀ m (hm : m < l.length), m < k → cmp l[m] x < 0) (h2 : ∀ m (hm : m < l.length), k ≤ m → 0 ≤ cmp l[m] x) : (l.countP fun y => decide (cmp y x < 0)) = k := by
  have e : l = l.take k ++ l.drop k := (List.take_append_drop k l).symm
  have c1 : (l.take k).countP (fun y => decide (cmp y x < 0)) = (l.take k).length := by
    rw [List.countP_eq_length]
    intro y hy
    obtain ⟨j, hj, rfl⟩ := List.getElem_of_mem hy
    rw [List.length_take] at hj
    rw [List.getElem_take]
    exact decide_eq_true (h1 j (by omega) (by omega))
  have c2 : (l.drop k).countP (fun y => decide (cmp y x < 0)) = 0 := by
    rw [List.countP_eq_zero]
    intro y hy
    obtain ⟨j, hj, rfl⟩ := List.getElem_of_mem hy
    rw [List.length_drop] at hj
    rw [List.getElem_drop]
    have := h2 (k + j) (by omega) (by omega)
    rw [decide_eq_true_iff]
    omega
  conv => lhs; rw [e]
  rw [List.countP_append, c1, c2, List.length_take]
  omega

theorem ins_at {l : List It} {x : It} {k : Nat} (hk : k ≤ l.length) (h1 : ∀ m (hm : m < l.length), m < k → cmp l[m] x < 0) (h2 : ∀ m (hm : m < l.length), k ≤ m → 0 ≤ cmp l[m] x) : ins l x = l.take k ++ x :: l.drop k := by
  unfold ins
  rw [countP_at hk h1 h2]

end Go.Proofs.YtenkdpogdfcbgaaGreat.Bg

/- Bags, plain facts, continued: a right bag; what Put leaves. -/
namespace Go.Proofs.YtenkdpogdfcbgaaGreat.Bg
open Go.Proofs.YtenkdpogdfcbgaaGreat

theorem bs_same {s t : ByteArray} : s.toList = t.toList ↔ s = t := by
  constructor
  · intro h
    rw [ByteArray.toList_eq, ByteArray.toList_eq] at h
    exact ByteArray.ext (Array.toList_inj.mp h)
  · rintro rfl; rfl

theorem same_iff {s : ByteArray} {y : It} : same s y = true ↔ y.text = s := by
  unfold same
  rw [beq_iff_eq, bs_same]

theorem same_no {s : ByteArray} {y : It} : same s y = false ↔ y.text ≠ s := by
  rw [← Bool.not_eq_true, same_iff]

theorem hitB {id : Id} {x : It} : hit id x = true ↔ id.is = true ∧ x.sum = id.sum ∧ x.n = id.n := by
  unfold hit
  simp

/-- A right bag. -/
structure Good (l : List It) : Prop where
  len : l.length ≤ 64
  one : ∀ x ∈ l, oneE Pr x = 0
  srt : l.Pairwise fun x y => cmp x y < 0
  txt : l.Pairwise fun x y => x.text ≠ y.text

theorem check_good {l : List It} (h : checkE Pr l = 0) : Good l := by
  refine ⟨check_len h, fun x hx => check_one h hx, check_sorted h, ?_⟩
  rw [List.pairwise_iff_getElem]
  intro i j hi hj hij e
  have h0 := check_apart h hj
  rw [List.any_eq_false] at h0
  refine h0 l[i] ?_ (same_iff.2 e)
  rw [List.mem_take_iff_getElem]
  exact ⟨i, by omega, rfl⟩

theorem good_check {l : List It} (h : Good l) : checkE Pr l = 0 := by
  have hs : ∀ k, k ≤ l.length → scan Pr l k = 0 := fun k => by
    induction k with
    | zero => intro _; rfl
    | succ k ih =>
      intro hk
      rw [scan_step (ih (by omega)), atE_rest (by omega) (h.one _ (List.getElem_mem _)) (by
        rcases Nat.eq_zero_or_pos k with e | e
        · exact Or.inl e
        · exact Or.inr ⟨e, (List.pairwise_iff_getElem.1 h.srt) (k - 1) k (by omega) (by omega) (by omega)⟩), if_neg]
      rw [Bool.not_eq_true, List.any_eq_false]
      intro x hx hh
      obtain ⟨i, hi, rfl⟩ := List.mem_take_iff_getElem.1 hx
      exact (List.pairwise_iff_getElem.1 h.txt) i k (by omega) (by omega) (by omega) (same_iff.1 hh)
  unfold checkE
  rw [if_neg (by have := h.len; omega)]
  exact hs _ (Nat.le_refl _)

theorem good_iff {l : List It} : checkE Pr l = 0 ↔ Good l := ⟨check_good, good_check⟩

theorem good_nil : Good [] := ⟨by simp, by simp, List.Pairwise.nil, List.Pairwise.nil⟩

/-- Two items of one id are one. -/
theorem Good.inj {l : List It} (h : Good l) {i j : Nat} (hi : i < l.length) (hj : j < l.length) (h1 : l[i].sum = l[j].sum) (h2 : l[i].n = l[j].n) : i = j := by
  rcases Nat.lt_trichotomy i j with e | e | e
  · have := (List.pairwise_iff_getElem.1 h.srt) i j hi hj e
    rw [cmp_lt] at this; omega
  · exact e
  · have := (List.pairwise_iff_getElem.1 h.srt) j i hj hi e
    rw [cmp_lt] at this; omega

theorem Good.injT {l : List It} (h : Good l) {i j : Nat} (hi : i < l.length) (hj : j < l.length) (h1 : l[i].text = l[j].text) : i = j := by
  rcases Nat.lt_trichotomy i j with e | e | e
  · exact absurd h1 ((List.pairwise_iff_getElem.1 h.txt) i j hi hj e)
  · exact e
  · exact absurd h1.symm ((List.pairwise_iff_getElem.1 h.txt) j i hj hi e)

/-- What an id says of a bag. -/
def Has (l : List It) (id : Id) (t : ByteArray) : Prop := ∃ x ∈ l, hit id x = true ∧ x.text = t

theorem Has.inj {l : List It} (h : Good l) {id : Id} {s t : ByteArray} (h1 : Has l id s) (h2 : Has l id t) : s = t := by
  obtain ⟨x, hx, h3, rfl⟩ := h1
  obtain ⟨y, hy, h4, rfl⟩ := h2
  obtain ⟨i, hi, rfl⟩ := List.getElem_of_mem hx
  obtain ⟨j, hj, rfl⟩ := List.getElem_of_mem hy
  rw [hitB] at h3 h4
  obtain rfl := h.inj hi hj (by omega) (by omega)
  rfl

theorem Has.injId {l : List It} (h : Good l) {id id' : Id} {t : ByteArray} (h1 : Has l id t) (h2 : Has l id' t) : id = id' := by
  obtain ⟨x, hx, h3, h5⟩ := h1
  obtain ⟨y, hy, h4, h6⟩ := h2
  obtain ⟨i, hi, rfl⟩ := List.getElem_of_mem hx
  obtain ⟨j, hj, rfl⟩ := List.getElem_of_mem hy
  obtain rfl := h.injT hi hj (h5.trans h6.symm)
  rw [hitB] at h3 h4
  obtain ⟨i0, i1, i2⟩ := id
  obtain ⟨j0, j1, j2⟩ := id'
  dsimp only at h3 h4
  obtain ⟨rfl, rfl, rfl⟩ := h3
  obtain ⟨rfl, rfl, rfl⟩ := h4
  rfl

/-- What Get answers of a right bag. -/
theorem getR_iff {l : List It} (h : Good l) {id : Id} {t : ByteArray} : getR Pr l id = (t, 0) ↔ Has l id t := by
  unfold getR
  rw [if_neg (fun h' => h' (good_check h))]
  cases hf : l.findIdx? (hit id) with
  | none =>
    rw [List.findIdx?_eq_none_iff] at hf
    constructor
    · intro h1; simp at h1
    · rintro ⟨x, hx, hh, -⟩
      rw [hf x hx] at hh; cases hh
  | some i =>
    obtain ⟨hi, h1, -⟩ := List.findIdx?_eq_some_iff_getElem.1 hf
    simp only [List.getElem?_eq_getElem hi]
    constructor
    · intro h2
      have e : l[i].text = t := by simpa using h2
      exact ⟨l[i], List.getElem_mem hi, h1, e⟩
    · intro h2
      rw [Has.inj h h2 ⟨l[i], List.getElem_mem hi, h1, rfl⟩]

theorem getR_e {l : List It} {id : Id} : (getR Pr l id).2 = 0 → checkE Pr l = 0 ∧ Has l id (getR Pr l id).1 := by
  intro h
  by_cases h0 : checkE Pr l = 0
  · refine ⟨h0, (getR_iff (check_good h0)).1 ?_⟩
    rw [← h]
  · unfold getR at h
    rw [if_pos h0] at h
    exact absurd h h0

theorem getR_fail {l : List It} {id : Id} (h : (getR Pr l id).2 ≠ 0) : (getR Pr l id).1 = noText := by
  unfold getR at h ⊢
  split
  · rfl
  · rename_i h0
    rw [if_neg h0] at h
    split
    · rfl
    · rename_i i hi
      rw [hi] at h
      simp only at h
      split
      · rename_i x hx
        rw [hx] at h
        exact absurd rfl h
      · rfl

end Go.Proofs.YtenkdpogdfcbgaaGreat.Bg

/- The walks of bag.one and bag.Check. -/
namespace Go.Proofs.YtenkdpogdfcbgaaGreat
open Go.RowKit

theorem new4 {w V : World} {T : TypeId} {x y q : Int} {z : ByteArray} (hb : Below (w.alloc (.cells #[.int .i64 x, .int .i64 y, .string z, .int .i64 q] T)).heap.size (w.alloc (.cells #[.int .i64 x, .int .i64 y, .string z, .int .i64 q] T)) V) :
    V.cell? ⟨w.heap.size, 0, none⟩ = some (.int .i64 x) ∧ V.cell? ⟨w.heap.size, 1, none⟩ = some (.int .i64 y) ∧ V.cell? ⟨w.heap.size, 2, none⟩ = some (.string z) ∧ V.cell? ⟨w.heap.size, 3, none⟩ = some (.int .i64 q) := by
  have k : ∀ {p : Addr} {v : Value}, (w.alloc (.cells #[.int .i64 x, .int .i64 y, .string z, .int .i64 q] T)).cell? p = some v → V.cell? p = some v := fun h => by rw [hb.cell (World.block_lt_of_cell? _ _ h)]; exact h
  exact ⟨k (cell_new w (k := 0) rfl), k (cell_new w (k := 1) rfl), k (cell_new w (k := 2) rfl), k (cell_new w (k := 3) rfl)⟩

theorem Plain_I (t : ByteArray) (ht : t.size ≤ maxLen) : Ans1 81 #[.int .i64 65581, .string t] (.int .i64 (Bg.Pr t)) := fun w => Plain_any 65581 t w (by omega) (by omega) ht

set_option maxRecDepth 100000 in
set_option maxHeartbeats 4000000 in
theorem one_I (x y q : Int) (z : ByteArray) (w : World) (hz : z.size ≤ maxLen) :
    Calls Tryz.prog 75 #[.agg #[.int .i64 x, .int .i64 y, .string z, .int .i64 q]] w fun e w' => e = .returned (.int .i64 (Bg.oneE Bg.Pr ⟨x, y, z, q⟩)) ∧ Below w.heap.size w w' := by
  have PL := Plain_I z hz
  have HB : Hid (Below w.heap.size w (w.alloc (.cells #[.int .i64 x, .int .i64 y, .string z, .int .i64 q] 75))) := Lib.hid ((Below.refl _ w).alloc (Nat.le_refl _) _)
  obtain ⟨r, hr⟩ : ∃ r, Bg.oneE Bg.Pr ⟨x, y, z, q⟩ = r := ⟨_, rfl⟩
  rw [hr]
  have HR := Lib.hid hr
  clear hr
  unfold maxLen at hz
  by_cases h6 : 64 < z.size
  · obtain rfl : r = 2 := by rw [← HR.out]; unfold Bg.oneE; rw [if_pos h6]
    clear HR PL
    go_enter Tryz.func75, Tryz.ntmps75
    go_wp2_with fail
    go_ret
    exact ⟨rfl, HB.out⟩
  · by_cases hs : x = Bg.Pr z
    · have hb : (x != Bg.Pr z) = false := by rw [hs]; exact bne_self_eq_false _
      by_cases h3 : y < 0 ∨ 64 ≤ y ∨ q < 1 ∨ 1000000 < q
      · obtain rfl : r = 1 := by rw [← HR.out]; unfold Bg.oneE; rw [if_neg h6, if_neg (fun h => h hs), if_pos h3]
        clear HR hs
        generalize Bg.Pr z = p at *
        have h4 : y < 0 ∨ (0 ≤ y ∧ 64 ≤ y) ∨ (0 ≤ y ∧ y < 64 ∧ q < 1) ∨ (0 ≤ y ∧ y < 64 ∧ 1 ≤ q ∧ 1000000 < q) := by omega
        clear h3
        rcases h4 with h4 | ⟨h4, h5⟩ | ⟨h4, h5, h7⟩ | ⟨h4, h5, h7, h8⟩
        all_goals
          go_enter Tryz.func75, Tryz.ntmps75
          go_wp2_with fail
          go_region_with (go_at_call 81; refine (PL _).mono ?_; rintro e w' ⟨rfl, rfl⟩)
          all_goals
            go_wp2_with fail
            go_ret
            exact ⟨rfl, HB.out.drew⟩
      · obtain rfl : r = 0 := by rw [← HR.out]; unfold Bg.oneE; rw [if_neg h6, if_neg (fun h => h hs), if_neg h3]
        clear HR hs
        generalize Bg.Pr z = p at *
        have h4 : 0 ≤ y := by omega
        have h5 : y < 64 := by omega
        have h7 : 1 ≤ q := by omega
        have h8 : q ≤ 1000000 := by omega
        clear h3
        go_enter Tryz.func75, Tryz.ntmps75
        go_wp2_with fail
        go_region_with (go_at_call 81; refine (PL _).mono ?_; rintro e w' ⟨rfl, rfl⟩)
        all_goals
          go_wp2_with fail
          go_ret
          exact ⟨rfl, HB.out.drew⟩
    · have hb : (x != Bg.Pr z) = true := bne_iff_ne.2 hs
      obtain rfl : r = 6 := by rw [← HR.out]; unfold Bg.oneE; rw [if_neg h6, if_pos hs]
      clear HR hs
      generalize Bg.Pr z = p at *
      go_enter Tryz.func75, Tryz.ntmps75
      go_wp2_with fail
      go_region_with (go_at_call 81; refine (PL _).mono ?_; rintro e w' ⟨rfl, rfl⟩)
      all_goals
        go_wp2_with fail
        go_ret
        exact ⟨rfl, HB.out.drew⟩

end Go.Proofs.YtenkdpogdfcbgaaGreat

/- The walk of bag.Check. -/
namespace Go.Proofs.YtenkdpogdfcbgaaGreat
open Go.RowKit

theorem eg_check : ∀ args w, (callFunc 78 args).run Tryz.prog w = .ok (.enter 78 args) w := enters_of Tryz.func78 (by kernel_rfl) rfl

theorem pred_check (w : World) (B : Nat) (s : ByteArray) (hB : B < w.heap.size) (hc : w.cell? ⟨B, 2, none⟩ = some (.string s)) : PredI w 78 #[.pointer (some ⟨B, 0, none⟩)] (Bg.same s) := fun W x y q z hb => by
  have hc' := (hb.cell (p := ⟨B, 2, none⟩) hB).trans hc
  have hBW : B < W.heap.size := Nat.lt_of_lt_of_le hB hb.size
  have HB := Lib.hid hb
  clear hb hc hB
  show Calls Tryz.prog 78 #[.agg #[.int .i64 x, .int .i64 y, .string z, .int .i64 q], .pointer (some ⟨B, 0, none⟩)] W _
  go_enter Tryz.func78, Tryz.ntmps78
  go_wp2_with fail
  go_ret
  exact ⟨rfl, HB.out.alloc HB.out.size _⟩

set_option maxRecDepth 100000 in
set_option maxHeartbeats 8000000 in
theorem Check_I (a : Option Addr) (n c : Nat) (ts : List Bg.It) (w : World) (hT : ISl w a n c ts) (hs : ∀ t ∈ ts, t.text.size ≤ maxLen) :
    Calls Tryz.prog 49 #[.slice a n c] w fun e w' => e = .returned (.int .i64 (Bg.checkE Bg.Pr ts)) ∧ Below w.heap.size w w' := by
  have hnm : n ≤ maxLen := Nat.le_trans hT.cap hT.max
  unfold maxLen at hnm
  have hl := hT.len
  obtain ⟨R, hR⟩ : ∃ R, Bg.checkE Bg.Pr ts = R := ⟨_, rfl⟩
  rw [hR]
  have HR := Lib.hid hR
  clear hR
  by_cases h6 : 64 < n
  · obtain rfl : R = 2 := by rw [← HR.out]; unfold Bg.checkE; rw [if_pos (by omega)]
    clear HR hl
    go_enter Tryz.func49, Tryz.ntmps49
    go_wp2_with fail
    go_ret
    exact ⟨rfl, Below.refl _ _⟩
  · have HT := Lib.hid hT; have HS := Lib.hid hs; have HL := Lib.hid hl
    clear hT hs hl
    go_enter Tryz.func49, Tryz.ntmps49
    go_wp2_with fail
    go_loopw [11] (fun x wr => ∃ k : Nat, k ≤ n ∧ x = .int .i64 k ∧ Hid (Bg.scan Bg.Pr ts k = 0) ∧ Hid (Below w.heap.size w wr)) (fun x _ => n - (intOf x).toNat)
    case atStart => exact ⟨0, Nat.zero_le _, rfl, Lib.hid rfl, Lib.hid (Below.refl _ _)⟩
    case round =>
      obtain ⟨k, hk, rfl, hA, hB⟩ := hrel
      by_cases hlt : k < n
      · have hk' : k < ts.length := by rw [HL.out]; exact hlt
        have hsz := hB.out.size
        obtain ⟨X, b, o, s, rfl, hX, c1, c2, c3, c4⟩ := (HT.out.keep hB.out).get hk'
        have O1 := fun w => one_I ts[k].sum ts[k].n ts[k].refs ts[k].text w (HS.out ts[k] (List.getElem_mem hk'))
        have HW : Hid (∀ V, Below w.heap.size w V → ISl V (some X) n c ts) := Lib.hid fun V hb => HT.out.keep hb
        by_cases h1 : Bg.oneE Bg.Pr ts[k] = 0
        · have h1' : Bg.oneE Bg.Pr ⟨ts[k].sum, ts[k].n, ts[k].text, ts[k].refs⟩ = 0 := h1
          rw [h1'] at O1
          clear h1'
          have HF : Hid (Bg.Fit ⟨ts[k].sum, ts[k].n, ts[k].text, ts[k].refs⟩) := Lib.hid (Bg.one_fit h1).1
          have HAT : Hid (k = 0 ∨ (∃ h0 : 0 < k, Bg.cmp (ts[k - 1]'(by omega)) ⟨ts[k].sum, ts[k].n, ts[k].text, ts[k].refs⟩ < 0) → Bg.atE Bg.Pr ts k = if (ts.take k).any (Bg.same ts[k].text) = true then 5 else 0) := Lib.hid fun h => Bg.atE_rest hk' h1 h
          have HFM : Hid (∀ h0 : 0 < k, 0 ≤ Bg.cmp (ts[k - 1]'(by omega)) ⟨ts[k].sum, ts[k].n, ts[k].text, ts[k].refs⟩ → Bg.atE Bg.Pr ts k = 3) := Lib.hid fun h0 h => Bg.atE_form hk' h1 h0 h
          clear h1
          generalize ts[k].sum = f1 at *
          generalize ts[k].n = f2 at *
          generalize ts[k].text = f3 at *
          generalize ts[k].refs = f4 at *
          go_wp2_with fail
          with_reducible refine (O1 _).mono ?_
          rintro e w2 ⟨rfl, hb2⟩
          obtain ⟨n0, n1, n2, n3⟩ := new4 hb2
          have hsz2 : wr.heap.size < w2.heap.size := by have := hb2.size; rw [World.size_alloc] at this; omega
          have HB2 := Lib.hid ((hB.out.alloc hB.out.size _).trans (hb2.mono (by rw [World.size_alloc]; omega)))
          clear hb2 O1 c1 c2 c3 c4
          have hkn : k ≤ n := by omega
          have CF : ∀ v, (ts.take k).any (Bg.same f3) = v → ∀ W, Below w2.heap.size w2 W → Calls Tryz.prog 77 #[.slice (some X) k c, .func (.func 78) #[] #[.pointer (some ⟨wr.heap.size, 0, none⟩)]] W fun e w' => e = .returned (.bool v) ∧ Below W.heap.size W w' := fun v hv W hb =>
            ContainsFunc_I (some X) k c (ts.take k) _ _ (Bg.same f3) v W (by omega) eg_check ((HW.out W (HB2.out.trans (hb.mono (by omega)))).take hkn) (pred_check W wr.heap.size f3 (Nat.lt_of_lt_of_le hsz2 hb.size) ((hb.cell (p := ⟨wr.heap.size, 2, none⟩) hsz2).trans n2)) hv
          obtain ⟨v, hv⟩ : ∃ v, (ts.take k).any (Bg.same f3) = v := ⟨_, rfl⟩
          have CV := CF v hv
          have HV := Lib.hid hv
          clear CF hv
          have hki : (k : Int) ≤ (c : Int) := by have := HT.out.cap; omega
          have hci : (c : Int) ≤ 9223372036854775807 := by have := HT.out.max; unfold maxLen at this; omega
          rcases Nat.eq_zero_or_pos k with hk0 | hk0
          · have HA2 := HAT.out (Or.inl hk0)
            have hgd : decide (0 < k) = false := decide_eq_false (by omega)
            clear HAT HFM
            have HA2' := Lib.hid HA2
            clear HA2 hk0
            go_wp2_with fail
            go_quiet (fail)
            cases v with
            | true =>
              obtain rfl : R = 5 := by
                rw [← HR.out]
                exact Bg.check_at (by rw [HL.out]; omega) hk' hA.out (by rw [HA2'.out, HV.out]; rfl) (by omega)
              go_wp2_with (go_at_call 77; with_reducible refine (CV _ (below_drewN (Below.refl _ _) _)).mono ?_; rintro e w3 ⟨rfl, hb3⟩)
              go_ret
              exact ⟨rfl, HB2.out.trans (((below_drewN (Below.refl _ _) _).trans hb3).mono HB2.out.size)⟩
            | false =>
              have hA' := Lib.hid (show Bg.scan Bg.Pr ts (k + 1) = 0 by rw [Bg.scan_step hA.out, HA2'.out, HV.out]; rfl)
              go_wp2_with (go_at_call 77; with_reducible refine (CV _ (below_drewN (Below.refl _ _) _)).mono ?_; rintro e w3 ⟨rfl, hb3⟩)
              have HB3 := Lib.hid (HB2.out.trans (((below_drewN (Below.refl _ _) _).trans hb3).mono HB2.out.size))
              clear hb3
              go_roundw
              case rel => exact ⟨k + 1, by omega, by go_num, hA', HB3⟩
              case measure => simp [intOf]; omega
          · have hk1 : k - 1 < ts.length := by omega
            obtain ⟨X', b', o', s', hX', hX2, d1, d2, d3, d4⟩ := (HW.out w2 HB2.out).get hk1
            obtain rfl : X = X' := Option.some.inj hX'
            have hF1 := Bg.scan_one hA.out (k - 1) (by omega) hk1
            have K1 := fun w => cmp_I ts[k-1].sum ts[k-1].n ts[k-1].refs f1 f2 f4 ts[k-1].text f3 w (Bg.one_fit hF1).1 HF.out
            have HFM1 : Hid (0 ≤ Bg.cmp ⟨ts[k-1].sum, ts[k-1].n, ts[k-1].text, ts[k-1].refs⟩ ⟨f1, f2, f3, f4⟩ → Bg.atE Bg.Pr ts k = 3) := Lib.hid (HFM.out hk0)
            have HAT1 : Hid (Bg.cmp ⟨ts[k-1].sum, ts[k-1].n, ts[k-1].text, ts[k-1].refs⟩ ⟨f1, f2, f3, f4⟩ < 0 → Bg.atE Bg.Pr ts k = if (ts.take k).any (Bg.same f3) = true then 5 else 0) := Lib.hid (fun h => HAT.out (Or.inr ⟨hk0, h⟩))
            clear HFM HAT hF1
            generalize ts[k-1].sum = p1 at *
            generalize ts[k-1].n = p2 at *
            generalize ts[k-1].text = p3 at *
            generalize ts[k-1].refs = p4 at *
            generalize Bg.cmp ⟨p1, p2, p3, p4⟩ ⟨f1, f2, f3, f4⟩ = d at *
            have HS : Hid (S8 w wr.heap.size b' o' s' (.int .i64 f1) (.int .i64 f2) (.string f3) (.int .i64 f4) (.int .i64 p1) (.int .i64 p2) (.string p3) (.int .i64 p4) w2) := Lib.hid ⟨n0, n1, n2, n3, d1, d2, d3, d4, HB2.out⟩
            have w1 : IntKind.i64.wrap ((k : Int) - 1) = (k : Int) - 1 := IntWalk.i64_in _ ⟨by omega, by omega⟩
            have w2' : ((k : Int) - 1).toNat = k - 1 := by omega
            have e1 : (0 : Int) ≤ (k : Int) - 1 := by omega
            have e2 : (k : Int) - 1 < (n : Int) := by omega
            have e3 : (1 : Int) ≤ (k : Int) := by omega
            have e4 : (k : Int) ≤ (n : Int) := by omega
            have e5 : 1 ≤ k := by omega
            have hgd : decide (0 < k) = true := decide_eq_true (by omega)
            by_cases hp : d < 0
            · have hA2 := Lib.hid (HAT1.out hp)
              clear HFM1 HAT1
              have hd0 : decide (0 ≤ d) = false := decide_eq_false (by omega)
              go_wp2_with fail
              go_region_held3 (fun V => V.cell? ⟨wr.heap.size, 0, none⟩ = some (.int .i64 f1) ∧ V.cell? ⟨wr.heap.size, 1, none⟩ = some (.int .i64 f2) ∧ V.cell? ⟨wr.heap.size, 2, none⟩ = some (.string f3) ∧ V.cell? ⟨wr.heap.size, 3, none⟩ = some (.int .i64 f4) ∧ V.cell? ⟨b', o', s'⟩ = some (.int .i64 p1) ∧ V.cell? ⟨b', o' + 1, none⟩ = some (.int .i64 p2) ∧ V.cell? ⟨b', o' + 2, none⟩ = some (.string p3) ∧ V.cell? ⟨b', o' + 3, none⟩ = some (.int .i64 p4) ∧ Below w.heap.size w V)
              (first | with_reducible exact HSS.out | with_reducible exact S8.drew HS.out | with_reducible exact HS.out)
              ((go_at_call 76; with_reducible refine (K1 _).mono ?_; rintro e ws ⟨rfl, hbs⟩; have HSS := Lib.hid (S8.on (S8.drew HS.out) hbs)))
              have HB4 : Hid (Below w2.heap.size w2 ws) := Lib.hid ((Below.refl _ w2).drew.trans hbs)
              have HB5 := Lib.hid HSS.out.2.2.2.2.2.2.2.2
              clear hbs K1 HS HSS n0 n1 n2 n3 d1 d2 d3 d4 w1 w2' e1 e2 e3 e4 e5 hd0 hgd
              cases v with
              | true =>
                obtain rfl : R = 5 := by
                  rw [← HR.out]
                  exact Bg.check_at (by rw [HL.out]; omega) hk' hA.out (by rw [hA2.out, HV.out]; rfl) (by omega)
                go_wp2_with (go_at_call 77; with_reducible refine (CV _ HB4.out).mono ?_; rintro e w3 ⟨rfl, hb3⟩)
                go_ret
                exact ⟨rfl, HB5.out.trans (hb3.mono HB5.out.size)⟩
              | false =>
                have hA' := Lib.hid (show Bg.scan Bg.Pr ts (k + 1) = 0 by rw [Bg.scan_step hA.out, hA2.out, HV.out]; rfl)
                go_wp2_with (go_at_call 77; with_reducible refine (CV _ HB4.out).mono ?_; rintro e w3 ⟨rfl, hb3⟩)
                have HB3 := Lib.hid (HB5.out.trans (hb3.mono HB5.out.size))
                clear hb3
                go_roundw
                case rel => exact ⟨k + 1, by omega, by go_num, hA', HB3⟩
                case measure => simp [intOf]; omega
            · have hA2 := Lib.hid (HFM1.out (by omega))
              have hd0 : decide (0 ≤ d) = true := decide_eq_true (by omega)
              obtain rfl : R = 3 := by
                rw [← HR.out]
                exact Bg.check_at (by rw [HL.out]; omega) hk' hA.out hA2.out (by omega)
              clear HFM1 HAT1 hp hA2
              go_wp2_with fail
              go_region_held3 (fun V => V.cell? ⟨wr.heap.size, 0, none⟩ = some (.int .i64 f1) ∧ V.cell? ⟨wr.heap.size, 1, none⟩ = some (.int .i64 f2) ∧ V.cell? ⟨wr.heap.size, 2, none⟩ = some (.string f3) ∧ V.cell? ⟨wr.heap.size, 3, none⟩ = some (.int .i64 f4) ∧ V.cell? ⟨b', o', s'⟩ = some (.int .i64 p1) ∧ V.cell? ⟨b', o' + 1, none⟩ = some (.int .i64 p2) ∧ V.cell? ⟨b', o' + 2, none⟩ = some (.string p3) ∧ V.cell? ⟨b', o' + 3, none⟩ = some (.int .i64 p4) ∧ Below w.heap.size w V)
              (first | with_reducible exact HSS.out | with_reducible exact S8.drew HS.out | with_reducible exact HS.out)
              ((go_at_call 76; with_reducible refine (K1 _).mono ?_; rintro e ws ⟨rfl, hbs⟩; have HSS := Lib.hid (S8.on (S8.drew HS.out) hbs)))
              clear hbs K1 CV
              go_wp2_with fail
              go_ret
              exact ⟨rfl, HSS.out.2.2.2.2.2.2.2.2⟩
        · have h1' : ((Bg.oneE Bg.Pr ⟨ts[k].sum, ts[k].n, ts[k].text, ts[k].refs⟩ : Nat) : Int) ≠ 0 := fun h => h1 (Int.ofNat_inj.1 h)
          obtain ⟨E, hE⟩ : ∃ E, Bg.oneE Bg.Pr ⟨ts[k].sum, ts[k].n, ts[k].text, ts[k].refs⟩ = E := ⟨_, rfl⟩
          rw [hE] at O1 h1'
          have hbE : ((E : Int) != 0) = true := bne_iff_ne.2 h1'
          obtain rfl : R = E := by
            rw [← HR.out]
            exact Bg.check_at (by rw [HL.out]; omega) hk' hA.out ((Bg.atE_one hk' h1).trans hE) (by omega)
          clear h1 h1' hE
          generalize ts[k].sum = f1 at *
          generalize ts[k].n = f2 at *
          generalize ts[k].text = f3 at *
          generalize ts[k].refs = f4 at *
          go_wp2_with fail
          with_reducible refine (O1 _).mono ?_
          rintro e w2 ⟨rfl, hb2⟩
          have HB2 := Lib.hid ((hB.out.alloc hB.out.size _).trans (hb2.mono (by rw [World.size_alloc]; omega)))
          clear hb2 O1 c1 c2 c3 c4
          go_wp2_with fail
          go_ret
          exact ⟨rfl, HB2.out⟩
      · obtain rfl : k = n := by omega
        obtain rfl : R = 0 := by
          rw [← HR.out]
          exact Bg.check_end (by rw [HL.out]; omega) (by rw [HL.out]; exact hA.out)
        go_wp2_with fail
        go_ret
        exact ⟨rfl, hB.out⟩

end Go.Proofs.YtenkdpogdfcbgaaGreat

/- The walks of bag.Find, bag.Get, bag.Drop. -/
namespace Go.Proofs.YtenkdpogdfcbgaaGreat
open Go.RowKit

theorem eg_find : ∀ args w, (callFunc 95 args).run Tryz.prog w = .ok (.enter 95 args) w := enters_of Tryz.func95 (by kernel_rfl) rfl

theorem pred_find (w : World) (B : Nat) (id : Bg.Id) (hB : B < w.heap.size) (c0 : w.cell? ⟨B, 0, none⟩ = some (.bool id.is)) (c1 : w.cell? ⟨B, 1, none⟩ = some (.int .i64 id.sum)) (c2 : w.cell? ⟨B, 2, none⟩ = some (.int .i64 id.n)) :
    PredI w 95 #[.pointer (some ⟨B, 0, none⟩)] (Bg.hit id) := fun W x y q z hb => by
  have hk : ∀ {j v}, w.cell? ⟨B, j, none⟩ = some v → W.cell? ⟨B, j, none⟩ = some v := fun {j v} h => (hb.cell (p := ⟨B, j, none⟩) hB).trans h
  have c0' := hk c0
  have c1' := hk c1
  have c2' := hk c2
  have hBW : B < W.heap.size := Nat.lt_of_lt_of_le hB hb.size
  have HB := Lib.hid hb
  have HR : ∀ b, Bg.hit id ⟨x, y, z, q⟩ = b → Hid (Ending.returned (.bool b) = Ending.returned (.bool (Bg.hit id ⟨x, y, z, q⟩))) := fun b h => Lib.hid (by rw [h])
  unfold Bg.hit at HR
  obtain ⟨i0, i1, i2⟩ := id
  dsimp only at c0' c1' c2' HR
  clear hb c0 c1 c2 hB hk
  show Calls Tryz.prog 95 #[.agg #[.int .i64 x, .int .i64 y, .string z, .int .i64 q], .pointer (some ⟨B, 0, none⟩)] W _
  cases i0 with
  | false =>
    have HE := HR false rfl
    clear HR
    go_enter Tryz.func95, Tryz.ntmps95
    go_wp2_with fail
    go_ret
    exact ⟨HE.out, HB.out.alloc HB.out.size _⟩
  | true =>
    by_cases h1 : x = i1
    · by_cases h2 : y = i2
      · have HE := HR true (by rw [beq_iff_eq.2 h1, beq_iff_eq.2 h2]; rfl)
        subst h1; subst h2
        clear HR
        go_enter Tryz.func95, Tryz.ntmps95
        go_wp2_with fail
        go_ret
        exact ⟨HE.out, HB.out.alloc HB.out.size _⟩
      · have HE := HR false (by rw [beq_eq_false_iff_ne.2 h2, Bool.and_false]; rfl)
        subst h1
        have hb2 : (y == i2) = false := beq_eq_false_iff_ne.2 h2
        clear HR h2
        go_enter Tryz.func95, Tryz.ntmps95
        go_wp2_with fail
        go_ret
        exact ⟨HE.out, HB.out.alloc HB.out.size _⟩
    · have HE := HR false (by rw [beq_eq_false_iff_ne.2 h1]; rfl)
      have hb2 : (x == i1) = false := beq_eq_false_iff_ne.2 h1
      clear HR h1
      go_enter Tryz.func95, Tryz.ntmps95
      go_wp2_with fail
      go_ret
      exact ⟨HE.out, HB.out.alloc HB.out.size _⟩

theorem new3 {w V : World} {T : TypeId} {b : Bool} {x y : Int} (hb : Below (w.alloc (.cells #[.bool b, .int .i64 x, .int .i64 y] T)).heap.size (w.alloc (.cells #[.bool b, .int .i64 x, .int .i64 y] T)) V) :
    V.cell? ⟨w.heap.size, 0, none⟩ = some (.bool b) ∧ V.cell? ⟨w.heap.size, 1, none⟩ = some (.int .i64 x) ∧ V.cell? ⟨w.heap.size, 2, none⟩ = some (.int .i64 y) := by
  have k : ∀ {p : Addr} {v : Value}, (w.alloc (.cells #[.bool b, .int .i64 x, .int .i64 y] T)).cell? p = some v → V.cell? p = some v := fun h => by rw [hb.cell (World.block_lt_of_cell? _ _ h)]; exact h
  exact ⟨k (cell_new w (k := 0) rfl), k (cell_new w (k := 1) rfl), k (cell_new w (k := 2) rfl)⟩

set_option maxHeartbeats 1000000 in
theorem Find_I (a : Option Addr) (n c : Nat) (ts : List Bg.It) (i : Bool) (x y : Int) (w : World) (hT : ISl w a n c ts) (hn : n ≤ 1099511627776) :
    Calls Tryz.prog 80 #[.slice a n c, .agg #[.bool i, .int .i64 x, .int .i64 y]] w fun e w' => e = .returned (.int .i64 (idx (Bg.hit ⟨i, x, y⟩) ts)) ∧ Below w.heap.size w w' := by
  have hB0 : Below w.heap.size w (w.alloc (.cells #[.bool i, .int .i64 x, .int .i64 y] 81)) := (Below.refl _ w).alloc (Nat.le_refl _) _
  obtain ⟨n0, n1, n2⟩ := new3 (Below.refl _ (w.alloc (.cells #[.bool i, .int .i64 x, .int .i64 y] 81)))
  have I1 := IndexFunc_I a n c ts _ #[.pointer (some ⟨w.heap.size, 0, none⟩)] (Bg.hit ⟨i, x, y⟩) _ (by omega) eg_find (hT.keep hB0) (pred_find _ w.heap.size ⟨i, x, y⟩ (by rw [World.size_alloc]; omega) n0 n1 n2)
  have HB := Lib.hid hB0
  clear n0 n1 n2 hB0 hT
  generalize idx (Bg.hit ⟨i, x, y⟩) ts = r at *
  go_enter Tryz.func80, Tryz.ntmps80
  go_wp2_with fail
  with_reducible refine I1.mono ?_
  rintro e w' ⟨rfl, hb⟩
  go_wp2_with fail
  go_ret
  exact ⟨rfl, HB.out.trans (hb.mono HB.out.size)⟩

end Go.Proofs.YtenkdpogdfcbgaaGreat

/- The walk of bag.Get. -/
namespace Go.Proofs.YtenkdpogdfcbgaaGreat
open Go.RowKit

theorem getR_bad {l : List Bg.It} {id : Bg.Id} {E : Nat} (h : Bg.checkE Bg.Pr l = E) (h0 : E ≠ 0) : Bg.getR Bg.Pr l id = (Bg.noText, E) := by
  unfold Bg.getR
  rw [h, if_pos h0]

theorem getR_none {l : List Bg.It} {id : Bg.Id} (h : Bg.checkE Bg.Pr l = 0) (h0 : l.findIdx? (Bg.hit id) = none) : Bg.getR Bg.Pr l id = (Bg.noText, 4) := by
  unfold Bg.getR
  rw [h, if_neg (fun h => h rfl), h0]

theorem getR_some {l : List Bg.It} {id : Bg.Id} {i : Nat} (h : Bg.checkE Bg.Pr l = 0) (h0 : l.findIdx? (Bg.hit id) = some i) (hi : i < l.length) : Bg.getR Bg.Pr l id = (l[i].text, 0) := by
  unfold Bg.getR
  rw [h, if_neg (fun h => h rfl), h0]
  simp only [List.getElem?_eq_getElem hi]

theorem idx_none {p : Bg.It → Bool} {ts : List Bg.It} (h : ts.findIdx? p = none) : idx p ts = -1 := by unfold idx; rw [h]
theorem idx_some {p : Bg.It → Bool} {ts : List Bg.It} {i : Nat} (h : ts.findIdx? p = some i) : idx p ts = (i : Int) ∧ i < ts.length := by
  refine ⟨by unfold idx; rw [h], ?_⟩
  exact (List.findIdx?_eq_some_iff_getElem.1 h).1

set_option maxRecDepth 100000 in
set_option maxHeartbeats 2000000 in
theorem Get_I (a : Option Addr) (n c : Nat) (ts : List Bg.It) (i : Bool) (x y : Int) (w : World) (hT : ISl w a n c ts) (hs : ∀ t ∈ ts, t.text.size ≤ maxLen) :
    Calls Tryz.prog 71 #[.slice a n c, .agg #[.bool i, .int .i64 x, .int .i64 y]] w fun e w' => e = .returned (.tuple #[.string (Bg.getR Bg.Pr ts ⟨i, x, y⟩).1, .int .i64 (Bg.getR Bg.Pr ts ⟨i, x, y⟩).2]) ∧ Below w.heap.size w w' := by
  have hB0 : Below w.heap.size w (w.alloc (.cells #[.bool i, .int .i64 x, .int .i64 y] 81)) := (Below.refl _ w).alloc (Nat.le_refl _) _
  have HN : Hid (∀ V, Below (w.alloc (.cells #[.bool i, .int .i64 x, .int .i64 y] 81)).heap.size (w.alloc (.cells #[.bool i, .int .i64 x, .int .i64 y] 81)) V → V.cell? ⟨w.heap.size, 0, none⟩ = some (.bool i) ∧ V.cell? ⟨w.heap.size, 1, none⟩ = some (.int .i64 x) ∧ V.cell? ⟨w.heap.size, 2, none⟩ = some (.int .i64 y)) := Lib.hid fun V hb => new3 hb
  have C1 := Check_I a n c ts (w.alloc (.cells #[.bool i, .int .i64 x, .int .i64 y] 81)) (hT.keep hB0) hs
  have HT := Lib.hid hT
  have HB := Lib.hid hB0
  clear hT hB0 hs
  obtain ⟨E, hE⟩ : ∃ E, Bg.checkE Bg.Pr ts = E := ⟨_, rfl⟩
  rw [hE] at C1
  by_cases h0 : E = 0
  · subst h0
    obtain ⟨r, hr⟩ : ∃ r, ts.findIdx? (Bg.hit ⟨i, x, y⟩) = r := ⟨_, rfl⟩
    have hn : n ≤ 64 := by rw [← HT.out.len]; exact Bg.check_len hE
    have F1 : ∀ V, Below w.heap.size w V → Calls Tryz.prog 80 #[.slice a n c, .agg #[.bool i, .int .i64 x, .int .i64 y]] V fun e w' => e = .returned (.int .i64 (idx (Bg.hit ⟨i, x, y⟩) ts)) ∧ Below V.heap.size V w' := fun V hb => Find_I a n c ts i x y V (HT.out.keep hb) (by omega)
    cases r with
    | none =>
      have HR := Lib.hid (getR_none hE hr)
      rw [idx_none hr] at F1
      clear hE hr
      go_enter Tryz.func71, Tryz.ntmps71
      go_wp2_with fail
      with_reducible refine C1.mono ?_
      rintro e w1 ⟨rfl, hb1⟩
      obtain ⟨n0, n1, n2⟩ := HN.out w1 hb1
      have HB1 := Lib.hid (HB.out.trans (hb1.mono HB.out.size))
      clear hb1 C1
      go_wp2_with fail
      with_reducible refine (F1 _ HB1.out).mono ?_
      rintro e w2 ⟨rfl, hb2⟩
      have HB2 := Lib.hid (HB1.out.trans (hb2.mono HB1.out.size))
      clear hb2 F1 n0 n1 n2
      go_wp2_with fail
      go_ret2
      exact ⟨by rw [HR.out]; rfl, HB2.out⟩
    | some k =>
      obtain ⟨hi1, hk⟩ := idx_some hr
      have HR := Lib.hid (getR_some hE hr hk)
      rw [hi1] at F1

      have hkn : k < n := by rw [← HT.out.len]; exact hk
      clear hE hr hi1
      go_enter Tryz.func71, Tryz.ntmps71
      go_wp2_with fail
      with_reducible refine C1.mono ?_
      rintro e w1 ⟨rfl, hb1⟩
      obtain ⟨n0, n1, n2⟩ := HN.out w1 hb1
      have HB1 := Lib.hid (HB.out.trans (hb1.mono HB.out.size))
      clear hb1 C1
      go_wp2_with fail
      with_reducible refine (F1 _ HB1.out).mono ?_
      rintro e w2 ⟨rfl, hb2⟩
      have HB2 := Lib.hid (HB1.out.trans (hb2.mono HB1.out.size))
      obtain ⟨X, b, o, s, rfl, hX, c1, c2, c3, c4⟩ := (HT.out.keep HB2.out).get hk
      clear hb2 F1 n0 n1 n2
      generalize ts[k].sum = f1 at *
      generalize ts[k].n = f2 at *
      generalize ts[k].text = f3 at *
      generalize ts[k].refs = f4 at *
      go_wp2_with fail
      go_ret2
      exact ⟨by rw [HR.out]; rfl, HB2.out⟩
  · have HR := Lib.hid (getR_bad (id := ⟨i, x, y⟩) hE h0)
    have hb : ((E : Int) != 0) = true := bne_iff_ne.2 (by omega)
    clear hE h0
    go_enter Tryz.func71, Tryz.ntmps71
    go_wp2_with fail
    with_reducible refine C1.mono ?_
    rintro e w1 ⟨rfl, hb1⟩
    have HB1 := Lib.hid (HB.out.trans (hb1.mono HB.out.size))
    clear hb1 C1
    go_wp2_with fail
    go_ret2
    exact ⟨by rw [HR.out]; rfl, HB1.out⟩

end Go.Proofs.YtenkdpogdfcbgaaGreat

/- The walk of bag.Drop. -/
namespace Go.Proofs.YtenkdpogdfcbgaaGreat
open Go.RowKit

theorem tv_set_refs {l : List Bg.It} {i : Nat} (hi : i < l.length) (r : Int) : tv (l.set i ⟨l[i].sum, l[i].n, l[i].text, r⟩) = (tv l).set (i * 4 + 3) (.int .i64 r) := by
  induction l generalizing i with
  | nil => exact absurd hi (Nat.not_lt_zero _)
  | cons x l ih =>
    cases i with
    | zero => rfl
    | succ i =>
      have hi' : i < l.length := by simpa using hi
      rw [show (i + 1) * 4 + 3 = i * 4 + 3 + 1 + 1 + 1 + 1 from by omega]
      show tv (x :: l.set i ⟨l[i].sum, l[i].n, l[i].text, r⟩) = _
      rw [tv, tv, ih hi']
      rfl

theorem dropR_bad {l : List Bg.It} {id : Bg.Id} {E : Nat} (h : Bg.checkE Bg.Pr l = E) (h0 : E ≠ 0) : Bg.dropR Bg.Pr l id = ([], E) := by
  unfold Bg.dropR
  rw [h, if_pos h0]

theorem dropR_none {l : List Bg.It} {id : Bg.Id} (h : Bg.checkE Bg.Pr l = 0) (h0 : l.findIdx? (Bg.hit id) = none) : Bg.dropR Bg.Pr l id = ([], 4) := by
  unfold Bg.dropR
  rw [h, if_neg (fun h => h rfl), h0]

theorem dropR_one {l : List Bg.It} {id : Bg.Id} {i : Nat} (h : Bg.checkE Bg.Pr l = 0) (h0 : l.findIdx? (Bg.hit id) = some i) (hi : i < l.length) (h1 : l[i].refs = 1) : Bg.dropR Bg.Pr l id = (l.take i ++ l.drop (i + 1), 0) := by
  unfold Bg.dropR
  rw [h, if_neg (fun h => h rfl), h0]
  show (Bg.less l i, 0) = _
  unfold Bg.less
  rw [List.getElem?_eq_getElem hi]
  show (if l[i].refs = 1 then _ else _, 0) = _
  rw [if_pos h1]

theorem dropR_many {l : List Bg.It} {id : Bg.Id} {i : Nat} (h : Bg.checkE Bg.Pr l = 0) (h0 : l.findIdx? (Bg.hit id) = some i) (hi : i < l.length) (h1 : l[i].refs ≠ 1) : Bg.dropR Bg.Pr l id = (l.set i ⟨l[i].sum, l[i].n, l[i].text, l[i].refs - 1⟩, 0) := by
  unfold Bg.dropR
  rw [h, if_neg (fun h => h rfl), h0]
  show (Bg.less l i, 0) = _
  unfold Bg.less
  rw [List.getElem?_eq_getElem hi]
  show (if l[i].refs = 1 then _ else _, 0) = _
  rw [if_neg h1]

/-- What a call that makes a bag answers. -/
def BagTo (w : World) (l : List Bg.It) (E : Nat) (e : Ending) (w' : World) : Prop :=
  ∃ a n c, e = .returned (.tuple #[.slice a n c, .int .i64 E]) ∧ w'.ownsRow w.heap.size 75 4 (.slice a n c) n (tv l) ∧ l.length = n ∧ Below w.heap.size w w'

theorem bagTo_nil {w w' : World} {E : Nat} (hb : Below w.heap.size w w') : BagTo w [] E (.returned (.tuple #[.slice none 0 0, .int .i64 E])) w' :=
  ⟨none, 0, 0, rfl, World.ownsRow_nil _ _ _ _, rfl, hb⟩

set_option maxRecDepth 100000 in
set_option maxHeartbeats 4000000 in
theorem Drop_I (a : Option Addr) (n c : Nat) (ts : List Bg.It) (i : Bool) (x y : Int) (w : World) (hT : ISl w a n c ts) (hs : ∀ t ∈ ts, t.text.size ≤ maxLen) :
    Calls Tryz.prog 85 #[.slice a n c, .agg #[.bool i, .int .i64 x, .int .i64 y]] w (BagTo w (Bg.dropR Bg.Pr ts ⟨i, x, y⟩).1 (Bg.dropR Bg.Pr ts ⟨i, x, y⟩).2) := by
  have hB0 : Below w.heap.size w (w.alloc (.cells #[.bool i, .int .i64 x, .int .i64 y] 81)) := (Below.refl _ w).alloc (Nat.le_refl _) _
  have HN : Hid (∀ V, Below (w.alloc (.cells #[.bool i, .int .i64 x, .int .i64 y] 81)).heap.size (w.alloc (.cells #[.bool i, .int .i64 x, .int .i64 y] 81)) V → V.cell? ⟨w.heap.size, 0, none⟩ = some (.bool i) ∧ V.cell? ⟨w.heap.size, 1, none⟩ = some (.int .i64 x) ∧ V.cell? ⟨w.heap.size, 2, none⟩ = some (.int .i64 y)) := Lib.hid fun V hb => new3 hb
  have C1 := Check_I a n c ts (w.alloc (.cells #[.bool i, .int .i64 x, .int .i64 y] 81)) (hT.keep hB0) hs
  have HT := Lib.hid hT
  have HB := Lib.hid hB0
  clear hT hB0 hs
  obtain ⟨E, hE⟩ : ∃ E, Bg.checkE Bg.Pr ts = E := ⟨_, rfl⟩
  rw [hE] at C1
  by_cases h0 : E = 0
  · subst h0
    obtain ⟨r, hr⟩ : ∃ r, ts.findIdx? (Bg.hit ⟨i, x, y⟩) = r := ⟨_, rfl⟩
    have hn : n ≤ 64 := by rw [← HT.out.len]; exact Bg.check_len hE
    have F1 : ∀ V, Below w.heap.size w V → Calls Tryz.prog 80 #[.slice a n c, .agg #[.bool i, .int .i64 x, .int .i64 y]] V fun e w' => e = .returned (.int .i64 (idx (Bg.hit ⟨i, x, y⟩) ts)) ∧ Below V.heap.size V w' := fun V hb => Find_I a n c ts i x y V (HT.out.keep hb) (by omega)
    cases r with
    | none =>
      rw [dropR_none hE hr]
      rw [idx_none hr] at F1
      clear hE hr
      go_enter Tryz.func85, Tryz.ntmps85
      go_wp2_with fail
      with_reducible refine C1.mono ?_
      rintro e w1 ⟨rfl, hb1⟩
      obtain ⟨n0, n1, n2⟩ := HN.out w1 hb1
      have HB1 := Lib.hid (HB.out.trans (hb1.mono HB.out.size))
      clear hb1 C1
      go_wp2_with fail
      with_reducible refine (F1 _ HB1.out).mono ?_
      rintro e w2 ⟨rfl, hb2⟩
      have HB2 := Lib.hid (HB1.out.trans (hb2.mono HB1.out.size))
      clear hb2 F1 n0 n1 n2
      go_wp2_with fail
      go_ret2
      exact bagTo_nil HB2.out
    | some k =>
      obtain ⟨hi1, hk⟩ := idx_some hr
      have HD1 := Lib.hid (dropR_one hE hr hk)
      have HD2 := Lib.hid (dropR_many hE hr hk)
      rw [hi1] at F1
      have hkn : k < n := by rw [← HT.out.len]; exact hk
      have hf := Bg.one_fit (Bg.check_one hE (List.getElem_mem hk))
      have hf1 := hf.2.2.2.2.2.1
      have hf2 := hf.2.2.2.2.2.2
      have CL : ∀ V, Below w.heap.size w V → Calls Tryz.prog 61 #[.slice a n c] V fun e w' => ∃ v, e = .returned v ∧ w'.ownsRow V.heap.size 75 4 v n (tv ts) ∧ Below V.heap.size V w' := fun V hb => Clone_I a n c ts V (HT.out.keep hb) (by omega)
      clear hE hr hi1 hf
      go_enter Tryz.func85, Tryz.ntmps85
      go_wp2_with fail
      with_reducible refine C1.mono ?_
      rintro e w1 ⟨rfl, hb1⟩
      obtain ⟨n0, n1, n2⟩ := HN.out w1 hb1
      have HB1 := Lib.hid (HB.out.trans (hb1.mono HB.out.size))
      clear hb1 C1
      go_wp2_with fail
      with_reducible refine (F1 _ HB1.out).mono ?_
      rintro e w2 ⟨rfl, hb2⟩
      have HB2 := Lib.hid (HB1.out.trans (hb2.mono HB1.out.size))
      clear hb2 F1 n0 n1 n2
      go_wp2_with fail
      with_reducible refine (CL _ HB2.out).mono ?_
      rintro e w3 ⟨v, rfl, ho3, hb3⟩
      have HB3 := Lib.hid (HB2.out.trans (hb3.mono HB2.out.size))
      obtain ⟨g, c3, rfl, hg1, hg2⟩ := ho3.form (by omega)
      have HO3 := Lib.hid (own_low ho3 HB2.out.size)
      have hgw : w.heap.size ≤ g := Nat.le_trans HB2.out.size (row_base ho3 g rfl)
      clear hb3 CL ho3
      have s1 : w3.cell? ⟨g, k * 4 + 3, none⟩ = some (.int .i64 ts[k].refs) := by
        rw [HO3.out.cellAt _ (by omega), (tv_get (List.getElem?_eq_getElem hk)).2.2.2]
      have z1 := HO3.out.frozenAt (k * 4 + 3)
      have HO4 : Hid ((w3.setCell ⟨g, k * 4 + 3, none⟩ (.int .i64 (ts[k].refs - 1))).ownsRow w.heap.size 75 4 (.slice (some ⟨g, 0, none⟩) n c3) n (tv (ts.set k ⟨ts[k].sum, ts[k].n, ts[k].text, ts[k].refs - 1⟩))) := Lib.hid (by
        rw [tv_set_refs hk]
        exact (HO3.out.stored (k * 4 + 3) (.int .i64 (ts[k].refs - 1))).1)
      have HB4 : Hid (Below w.heap.size w (w3.setCell ⟨g, k * 4 + 3, none⟩ (.int .i64 (ts[k].refs - 1)))) := Lib.hid (HB3.out.setCell hgw _)
      have HTL : Hid (tv ((ts.set k ⟨ts[k].sum, ts[k].n, ts[k].text, ts[k].refs - 1⟩).take k ++ (ts.set k ⟨ts[k].sum, ts[k].n, ts[k].text, ts[k].refs - 1⟩).drop (k + 1)) = tv (ts.take k ++ ts.drop (k + 1))) := Lib.hid (by
        rw [List.take_set_of_le (Nat.le_refl _), List.drop_set_of_lt (Nat.lt_succ_self _)])
      by_cases h1 : ts[k].refs = 1
      · have HD := Lib.hid (HD1.out h1)
        rw [h1, show (1 : Int) - 1 = 0 from rfl] at HO4 HB4 HTL
        rw [h1] at s1
        have D1 := Delete_I g c3 n k (n - (k + 1)) w.heap.size _ _ HO4.out (by omega) (by omega) w HB4.out HB4.out.size
        have HLL : Hid ((ts.take k ++ ts.drop (k + 1)).length = k + (n - (k + 1))) := Lib.hid (by rw [List.length_append, List.length_take, List.length_drop, HT.out.len]; omega)
        clear h1 HD1 HD2 hf1 hf2
        go_wp2_with fail
        with_reducible refine D1.mono ?_
        rintro e w5 ⟨rfl, ho5, hb5⟩
        have HO5 := Lib.hid ho5
        have HB5 := Lib.hid hb5
        clear ho5 hb5 D1 s1 z1
        go_wp2_with fail
        go_ret2
        rw [HD.out]
        exact ⟨_, _, _, rfl, HTL.out ▸ HO5.out, HLL.out, HB5.out⟩
      · have HD := Lib.hid (HD2.out h1)
        have HLL : Hid ((ts.set k ⟨ts[k].sum, ts[k].n, ts[k].text, ts[k].refs - 1⟩).length = n) := Lib.hid (by rw [List.length_set, HT.out.len])
        have hz1 : (ts[k].refs - 1 == 0) = false := beq_eq_false_iff_ne.2 (by omega)
        clear HD1 HD2 HTL h1
        generalize ts[k].refs = f4 at *
        go_wp2_with fail
        go_ret2
        rw [HD.out]
        exact ⟨_, _, _, rfl, HO4.out, HLL.out, HB4.out⟩
  · rw [dropR_bad (id := ⟨i, x, y⟩) hE h0]
    have hb : ((E : Int) != 0) = true := bne_iff_ne.2 (by omega)
    clear hE h0
    go_enter Tryz.func85, Tryz.ntmps85
    go_wp2_with fail
    with_reducible refine C1.mono ?_
    rintro e w1 ⟨rfl, hb1⟩
    have HB1 := Lib.hid (HB.out.trans (hb1.mono HB.out.size))
    clear hb1 C1
    go_wp2_with fail
    go_ret2
    exact bagTo_nil HB1.out

end Go.Proofs.YtenkdpogdfcbgaaGreat
