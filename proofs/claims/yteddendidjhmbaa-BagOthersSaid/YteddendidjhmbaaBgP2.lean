/- Bags, plain facts, continued: the print, bounds, what Check finds. -/
import Derived.Test.YteddendidjhmbaaItS
import Derived.Test.YteddendidjhmbaaPlainW
namespace Go.Proofs.Yteddendidjhmbaa.Bg
open Go.Proofs.Yteddendidjhmbaa

/-- The print of a block. -/
def Pr (t : ByteArray) : Int := (G.print 65581 t.data.toList : Int)

theorem Pr_lt (t : ByteArray) : 0 ≤ Pr t ∧ Pr t ≤ 70000 := by
  have h := G.print_lt t.data.toList (m := 65581) (by omega)
  have h17 : G.L 65581 = 17 := G.L_eq (k := 16) (by decide) (by decide)
  have := G.L_le.1 (show G.L (G.print 65581 t.data.toList) ≤ 17 by omega)
  have h16 := G.L_le.1 (show G.L (G.print 65581 t.data.toList) ≤ 16 by omega)
  have e : (2 : Nat) ^ 16 = 65536 := rfl
  unfold Pr
  omega

theorem one_fit {x : It} (h : oneE Pr x = 0) : Fit x ∧ x.text.size ≤ 64 ∧ x.sum = Pr x.text ∧ 0 ≤ x.n ∧ x.n < 64 ∧ 1 ≤ x.refs ∧ x.refs ≤ 1000000 := by
  unfold oneE at h
  split at h
  · cases h
  · split at h
    · cases h
    · split at h
      · cases h
      · rename_i h1 h2 h3
        have h2' : x.sum = Pr x.text := Decidable.not_not.1 h2
        have := Pr_lt x.text
        refine ⟨⟨by omega, by omega, by omega, by omega⟩, by omega, h2', by omega, by omega, by omega, by omega⟩

theorem oneE_le (P : ByteArray → Int) (x : It) : oneE P x ≤ 6 := by
  unfold oneE
  repeat' split
  all_goals omega

theorem atE_le (P : ByteArray → Int) (l : List It) (i : Nat) : atE P l i ≤ 6 := by
  unfold atE
  split
  · omega
  · rename_i x _
    have := oneE_le P x
    repeat' split
    all_goals omega

theorem scan_stay {P : ByteArray → Int} {l : List It} {k : Nat} (h : scan P l k ≠ 0) : ∀ m, k ≤ m → scan P l m = scan P l k
  | 0, hm => by obtain rfl : k = 0 := by omega
                rfl
  | m + 1, hm => by
    by_cases e : k = m + 1
    · subst e; rfl
    · have ih := scan_stay h m (by omega)
      rw [scan, if_pos (by rw [ih]; exact h), ih]

theorem scan_step {P : ByteArray → Int} {l : List It} {k : Nat} (h : scan P l k = 0) : scan P l (k + 1) = atE P l k := by
  rw [scan, if_neg (fun h' => h' h)]

/-- The fault at a place ends the search. -/
theorem check_at {P : ByteArray → Int} {l : List It} {k e : Nat} (hl : l.length ≤ 64) (hk : k < l.length) (h : scan P l k = 0) (he : atE P l k = e) (h0 : e ≠ 0) : checkE P l = e := by
  unfold checkE
  rw [if_neg (by omega), scan_stay (k := k + 1) (by rw [scan_step h, he]; exact h0) _ hk, scan_step h, he]

theorem check_end {P : ByteArray → Int} {l : List It} (hl : l.length ≤ 64) (h : scan P l l.length = 0) : checkE P l = 0 := by
  unfold checkE
  rw [if_neg (by omega), h]

theorem atE_one {P : ByteArray → Int} {l : List It} {k : Nat} (hk : k < l.length) (h : oneE P l[k] ≠ 0) : atE P l k = oneE P l[k] := by
  unfold atE
  rw [List.getElem?_eq_getElem hk]
  exact if_pos h

theorem atE_form {P : ByteArray → Int} {l : List It} {k : Nat} (hk : k < l.length) (h : oneE P l[k] = 0) (h0 : 0 < k) (hc : 0 ≤ cmp (l[k - 1]'(by omega)) l[k]) : atE P l k = 3 := by
  unfold atE
  rw [List.getElem?_eq_getElem hk, List.getElem?_eq_getElem (show k - 1 < l.length by omega)]
  show (if oneE P l[k] ≠ 0 then _ else if (decide (0 < k) && decide (0 ≤ cmp (l[k - 1]'(by omega)) l[k])) = true then 3 else _) = 3
  rw [if_neg (fun h' => h' h), decide_eq_true h0, decide_eq_true hc]
  rfl

theorem atE_rest {P : ByteArray → Int} {l : List It} {k : Nat} (hk : k < l.length) (h : oneE P l[k] = 0) (hc : k = 0 ∨ ∃ h0 : 0 < k, cmp (l[k - 1]'(by omega)) l[k] < 0) : atE P l k = if (l.take k).any (same l[k].text) = true then 5 else 0 := by
  unfold atE
  rw [List.getElem?_eq_getElem hk]
  rcases hc with rfl | ⟨h0, hc⟩
  · show (if oneE P l[0] ≠ 0 then _ else if (decide (0 < 0) && _) = true then 3 else _) = _
    rw [if_neg (fun h' => h' h), decide_eq_false (Nat.lt_irrefl 0), Bool.false_and]
    rfl
  · rw [List.getElem?_eq_getElem (show k - 1 < l.length by omega)]
    show (if oneE P l[k] ≠ 0 then _ else if (decide (0 < k) && decide (0 ≤ cmp (l[k - 1]'(by omega)) l[k])) = true then 3 else _) = _
    rw [if_neg (fun h' => h' h), decide_eq_false (show ¬ (0 ≤ cmp (l[k - 1]'(by omega)) l[k]) by omega), Bool.and_false]
    rfl

/-- What is right so far has been looked at. -/
theorem scan_one {P : ByteArray → Int} {l : List It} : ∀ {k : Nat}, scan P l k = 0 → ∀ j, j < k → (hj : j < l.length) → oneE P l[j] = 0
  | 0, _, j, hjk, _ => by omega
  | k + 1, h, j, hjk, hj => by
    have hk : scan P l k = 0 := by
      by_cases e : scan P l k = 0
      · exact e
      · rw [scan, if_pos e] at h; exact absurd h e
    by_cases e : j = k
    · subst e
      rw [scan_step hk] at h
      by_cases e : oneE P l[j] = 0
      · exact e
      · rw [atE_one hj e] at h; exact absurd h e
    · exact scan_one hk j (by omega) hj

end Go.Proofs.Yteddendidjhmbaa.Bg
