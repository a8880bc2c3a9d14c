/- The walk of box.Open. -/
import Derived.Test.YtkdcapjnoapjgaaDoorBoxW
namespace Go.Proofs.YtkdcapjnoapjgaaDoor
open Go.RowKit Go.Shelf

def openV (l : List UInt8) : Option (List UInt8) := match Bx.op l with
  | none => none
  | some t => if t.length ≤ 600 ∧ Bx.sh t = l then some t else none

theorem op_le {l t : List UInt8} (h : Bx.op l = some t) : t.length ≤ l.length ∨ t.length ≤ 600 := by
  cases l with
  | nil => cases h
  | cons x r =>
    have h' : (if x = 0 then some r else if x = 1 then (match Bx.un r with | none => none | some t => if (Pk.tkns t).1 ≠ 0 then none else some (Lz.expS [] (Pk.tkns t).2)) else none) = some t := h
    split at h'
    · cases h'; exact Or.inl (by rw [List.length_cons]; omega)
    · split at h'
      · split at h'
        · cases h'
        · split at h'
          · cases h'
          · cases h'
            exact Or.inr (Lz.expS_le _ [] (by simp))
      · cases h'

/-- What Open answers. -/
def OpenZ (o : Option (List UInt8)) : Ending := match o with
  | none => .returned (.tuple #[.string ⟨#[]⟩, .int .i64 3])
  | some t => .returned (.tuple #[.string ⟨t.toArray⟩, .int .i64 0])

theorem ba_ne {A B : ByteArray} (h : A.data.toList ≠ B.data.toList) : (A.toList == B.toList) = false := by
  rw [ByteArray.toList_eq, ByteArray.toList_eq]
  exact beq_eq_false_iff_ne.2 h

set_option maxRecDepth 100000 in
set_option maxHeartbeats 4000000 in
theorem Open_to (s : ByteArray) (w : World) (hs : s.size ≤ 1100000) :
    Calls Tryd.prog 8 #[.string s] w fun e w' => e = OpenZ (openV s.data.toList) ∧ Below w.heap.size w w' := by
  have hl : s.data.toList.length = s.size := Array.length_toList ..
  have O1 := fun w => open_to s w hs
  unfold openV
  cases ho : Bx.op s.data.toList with
  | none =>
    rw [ho] at O1
    show Calls _ _ _ _ fun e w' => e = .returned (.tuple #[.string ⟨#[]⟩, .int .i64 3]) ∧ _
    clear ho hl
    go_enter Tryd.func8, Tryd.ntmps8
    go_wp2_with fail
    with_reducible refine (O1 _).mono ?_
    rintro e w1 ⟨⟨x, rfl⟩, hb1⟩
    clear O1
    go_wp2_with fail
    go_ret2
    exact ⟨rfl, hb1⟩
  | some t =>
    rw [ho] at O1
    have htl := op_le ho
    obtain ⟨T, hT⟩ : ∃ T : ByteArray, T = ⟨t.toArray⟩ := ⟨_, rfl⟩
    have hTl : T.data.toList = t := by rw [hT]
    have hTs := size_of_list hTl
    have O2 : ∀ w, Calls Tryd.prog 13 #[.string s] w fun e w' => e = .returned (.tuple #[.string T, .bool true]) ∧ Below w.heap.size w w' := fun w => by rw [hT]; exact O1 w
    clear O1 ho
    dsimp only
    by_cases h6 : t.length ≤ 600 ∧ Bx.sh t = s.data.toList
    · rw [if_pos h6]
      have S1 := fun w => Shut_ok T s w (by omega) (by rw [hTl]; exact h6.2.symm)
      show Calls _ _ _ _ fun e w' => e = .returned (.tuple #[.string ⟨t.toArray⟩, .int .i64 0]) ∧ _
      rw [← hT]
      clear hT hTl hTs h6 htl hl
      go_enter Tryd.func8, Tryd.ntmps8
      go_wp2_with fail
      with_reducible refine (O2 _).mono ?_
      rintro e w1 ⟨rfl, hb1⟩
      have HB1 := Lib.hid hb1
      clear O2 hb1
      go_wp2_with fail
      with_reducible refine (S1 _).mono ?_
      rintro e w2 ⟨rfl, hb2⟩
      have HB2 := Lib.hid (HB1.out.trans (hb2.mono HB1.out.size))
      clear S1 hb2
      go_wp2_with fail
      go_ret2
      exact ⟨rfl, HB2.out⟩
    · rw [if_neg h6]
      show Calls _ _ _ _ fun e w' => e = .returned (.tuple #[.string ⟨#[]⟩, .int .i64 3]) ∧ _
      by_cases h7 : T.size ≤ 600
      · obtain ⟨B, hB⟩ : ∃ B : ByteArray, B.data.toList = Bx.sh t := ⟨⟨(Bx.sh t).toArray⟩, by simp⟩
        have S1 := fun w => Shut_ok T B w h7 (by rw [hTl]; exact hB)
        have hne : (B.toList == s.toList) = false := ba_ne (by rw [hB]; intro h; exact h6 ⟨by omega, h⟩)
        clear hT hTl hTs h6 htl hl hB
        go_enter Tryd.func8, Tryd.ntmps8
        go_wp2_with fail
        with_reducible refine (O2 _).mono ?_
        rintro e w1 ⟨rfl, hb1⟩
        have HB1 := Lib.hid hb1
        clear O2 hb1
        go_wp2_with fail
        with_reducible refine (S1 _).mono ?_
        rintro e w2 ⟨rfl, hb2⟩
        have HB2 := Lib.hid (HB1.out.trans (hb2.mono HB1.out.size))
        clear S1 hb2
        go_wp2_with fail
        go_ret2
        exact ⟨rfl, HB2.out⟩
      · have S1 := fun w => Shut_bad T w (by omega) (by unfold maxLen; omega)
        clear hT hTl hTs h6 htl hl
        go_enter Tryd.func8, Tryd.ntmps8
        go_wp2_with fail
        with_reducible refine (O2 _).mono ?_
        rintro e w1 ⟨rfl, hb1⟩
        have HB1 := Lib.hid hb1
        clear O2 hb1
        go_wp2_with fail
        with_reducible refine (S1 _).mono ?_
        rintro e w2 ⟨rfl, hb2⟩
        have HB2 := Lib.hid (HB1.out.trans (hb2.mono HB1.out.size))
        clear S1 hb2
        go_wp2_with fail
        go_ret2
        exact ⟨rfl, HB2.out⟩

theorem rep_as (c : UInt8) (s : ByteArray) (n : Nat) (w : World) (hs : s.data.toList = List.replicate n c) (hn : n ≤ 1000) : Calls Tryd.prog 30 #[.string ⟨#[c]⟩, .int .i64 n] w fun e w' => e = .returned (.string s) ∧ Below w.heap.size w w' := by
  have h := Tryd.strings_Repeat ⟨#[c]⟩ n w (by omega) (by show 1 * n ≤ _; omega)
  have e : ∀ k, Lib.repeatL (⟨#[c]⟩ : ByteArray).data.toList k = List.replicate k c := by
    intro k
    induction k with
    | zero => rfl
    | succ k ih => rw [Lib.repeatL, ih]; rfl
  rw [e, ba_of _ s hs] at h
  exact h

theorem openV_sh {l : List UInt8} (h : l.length ≤ 600) : openV (Bx.sh l) = some l := by
  unfold openV
  rw [Bx.op_sh h]
  show (if l.length ≤ 600 ∧ Bx.sh l = Bx.sh l then some l else none) = _
  rw [if_pos ⟨h, rfl⟩]

theorem openV_back {l t : List UInt8} (h : openV l = some t) : t.length ≤ 600 ∧ Bx.sh t = l := by
  unfold openV at h
  split at h
  · cases h
  · split at h
    · rename_i h1; cases h; exact h1
    · cases h

end Go.Proofs.YtkdcapjnoapjgaaDoor
