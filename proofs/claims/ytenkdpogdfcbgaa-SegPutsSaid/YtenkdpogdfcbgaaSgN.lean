import Derived.Test.YtenkdpogdfcbgaaSgC
/- The walks of seg.look and seg.Clean. -/
namespace Go.Proofs.Ytenkdpogdfcbgaa.Sg
open Go.Proofs.Ytenkdpogdfcbgaa

def ints (u : List Nat) : List Int := u.map fun (x : Nat) => (x : Int)
def best (u : List Nat) : Nat := (Lib.idxOf (ints u) (Lib.minOf (ints u))).toNat

theorem fold_min (l : List Int) : ∀ a, l.foldl min a = a ∨ l.foldl min a ∈ l := by
  induction l with
  | nil => exact fun a => Or.inl rfl
  | cons x l ih =>
    intro a
    rw [List.foldl_cons]
    rcases ih (min a x) with h | h
    · rw [h]
      by_cases hx : a ≤ x
      · left; exact Int.min_eq_left hx
      · right; rw [Int.min_eq_right (by omega)]; exact List.mem_cons_self
    · exact Or.inr (List.mem_cons_of_mem _ h)
theorem min_mem {zs : List Int} (h : zs ≠ []) : Lib.minOf zs ∈ zs := by
  cases zs with
  | nil => exact absurd rfl h
  | cons x l =>
    unfold Lib.minOf
    rcases fold_min (x :: l) ((x :: l).headD 0) with h | h
    · rw [h]; exact List.mem_cons_self
    · exact h
theorem first_hit {zs : List Int} {m : Int} (h : m ∈ zs) : ∃ k, k < zs.length ∧ zs.getD k 0 = m ∧ ∀ j, j < k → zs.getD j 0 ≠ m := by
  induction zs with
  | nil => cases h
  | cons x l ih =>
    by_cases hx : x = m
    · exact ⟨0, by simp, by simpa using hx, fun j hj => by omega⟩
    · obtain ⟨k, h1, h2, h3⟩ := ih ((List.mem_cons.1 h).resolve_left fun e => hx e.symm)
      refine ⟨k + 1, by simpa using h1, by simpa using h2, fun j hj => ?_⟩
      cases j with
      | zero => simpa using hx
      | succ j => have := h3 j (by omega); simpa using this
theorem best_is {u : List Nat} (h : u ≠ []) : best u < u.length ∧ Lib.idxOf (ints u) (Lib.minOf (ints u)) = (best u : Int) := by
  have hl : (ints u).length = u.length := List.length_map _
  obtain ⟨k, h1, h2, h3⟩ := first_hit (min_mem (zs := ints u) fun e => h (List.length_eq_zero_iff.1 (by rw [← hl, e]; rfl)))
  have h4 := Lib.idxOf_hit (ints u) (ints u).length k _ h1 (Nat.le_refl _) h2 h3
  rw [List.take_length] at h4
  unfold best
  rw [h4]
  exact ⟨by simpa [hl] using h1, by simp⟩

def putS (out : List (List R)) (r : R) : List (List R) := (putL out r).getD []
theorem putS_good {l : List (List R)} {r : R} (h : Good l) (hr : oneE r = 0) : Good (putS l r) := by
  unfold putS
  cases hp : putL l r with
  | none => exact good_nil
  | some m => exact putL_good h hr hp
theorem foldS_good {rs : List R} (hr : ∀ r ∈ rs, oneE r = 0) : ∀ {l : List (List R)}, Good l → Good (rs.foldl putS l) := by
  induction rs with
  | nil => exact fun h => h
  | cons r rs ih => exact fun h => ih (fun x hx => hr x (List.mem_cons_of_mem _ hx)) (putS_good h (hr r List.mem_cons_self))
theorem good_cut {l : List (List R)} (h : Good l) (q : Nat) : Good (l.take q ++ l.drop (q + 1)) :=
  ⟨by have := h.len; rw [List.length_append, List.length_take, List.length_drop]; omega, fun s hs => (List.mem_append.1 hs).elim (fun h1 => h.seg s (List.mem_of_mem_take h1)) fun h1 => h.seg s (List.mem_of_mem_drop h1)⟩

/-- What is left and the live records of what was taken away. -/
def cleanL (b : List Bg.It) (l : List (List R)) (q : Nat) : List (List R) := (liveR b (l.getD q []) (l.drop (q + 1)).flatten).foldl putS (l.take q ++ l.drop (q + 1))
def cleanR (b : List Bg.It) (l : List (List R)) : PutA :=
  if Bg.checkE Bg.Pr b ≠ 0 then ⟨[], Bg.checkE Bg.Pr b⟩ else if l.length = 0 then ⟨[], 4⟩ else ⟨cleanL b l (best (usedL b l)), 0⟩
theorem ok_one' {s : List R} (h : SOk s) {r : R} (hr : r ∈ s) : oneE r = 0 := oneE_zero.2 (h.one r hr)
theorem clean_good {b : List Bg.It} {l : List (List R)} (h : Good l) : Good (cleanR b l).l := by
  unfold cleanR
  split
  · exact good_nil
  · split
    · exact good_nil
    · rename_i h1 h2
      have hu : usedL b l ≠ [] := fun e => h2 (by rw [← used_length b l, e]; rfl)
      have hq := (best_is hu).1
      rw [used_length] at hq
      refine foldS_good (fun r hr => ?_) (good_cut h _)
      have hs : l.getD (best (usedL b l)) [] = l[best (usedL b l)] := by simp [List.getD, hq]
      rw [hs] at hr
      exact ok_one' (h.seg _ (List.getElem_mem hq)) (live_mem hr).1
theorem ok_one {s : List R} (h : SOk s) {r : R} (hr : r ∈ s) : oneE r = 0 := oneE_zero.2 (h.one r hr)

end Go.Proofs.Ytenkdpogdfcbgaa.Sg

namespace Go.Proofs.Ytenkdpogdfcbgaa
open Go.RowKit

theorem look_E (a : Option Addr) (n c base : Nat) (rs : List Rl) (l : List (List Sg.R)) (ba : Option Addr) (bn bc : Nat) (bl : List Bg.It) (w : World) (hS : SgW w base a n c rs l) (hG : Sg.Good l) (hI : ISl w ba bn bc bl) (hs : ∀ t ∈ bl, t.text.size ≤ maxLen) :
    Calls Try.prog 109 #[.slice a n c, .slice ba bn bc] w fun e w' => e = .returned (.int .i64 (Bg.checkE Bg.Pr bl)) ∧ Below w.heap.size w w' := by
  have hn16 : n ≤ 16 := by rw [← hS.len]; exact hG.len
  have K1 := Check_E a n c base rs l w hS (by omega) (fun s h => by have := Sg.sok_short (hG.seg s h); omega)
  rw [Sg.chk_zero.2 hG] at K1
  have HK2 : Hid (∀ V, Below w.heap.size w V → Calls Try.prog 69 #[.slice ba bn bc] V fun e w' => e = .returned (.int .i64 (Bg.checkE Bg.Pr bl)) ∧ Below V.heap.size V w') := Lib.hid fun V hb => Check_I ba bn bc bl V (hI.keep hb) hs
  clear hS hG hI hs
  go_enter Try.func109, Try.ntmps109
  go_wp2_with fail
  with_reducible refine K1.mono ?_
  rintro e w1 ⟨rfl, hb1⟩
  have HB1 := Lib.hid hb1
  have K2 := HK2.out w1 hb1
  clear K1 hb1
  go_wp2_with fail
  with_reducible refine K2.mono ?_
  rintro e w2 ⟨rfl, hb2⟩
  have HB2 := Lib.hid (HB1.out.trans (hb2.mono HB1.out.size))
  clear K2 hb2
  go_wp2_with fail
  go_ret
  exact ⟨rfl, HB2.out⟩

/-- A segment is left out. -/
theorem SgW.cut {w w' : World} {base n c q m base' : Nat} {a b : Option Addr} {d : Nat} {rs : List Rl} {l : List (List Sg.R)} (h : SgW w base a n c rs l) (hq : q < n) (hb : Below w.heap.size w w') (hr : w'.ownsRow base' 45 1 (.slice b m d) m (sv (rs.take q ++ rs.drop (q + 1)))) :
    SgW w' 0 b m d (rs.take q ++ rs.drop (q + 1)) (l.take q ++ l.drop (q + 1)) := by
  have h1 := h.keep hb
  have e1 : (rs.take q).length = q := by rw [List.length_take, h.rlen]; omega
  have e2 : (l.take q).length = q := by rw [List.length_take, h.len]; omega
  refine ⟨own_low hr (Nat.zero_le _), ?_, fun i r s hri hsi => ?_, ?_⟩
  · have := own_len1 hr
    rw [List.length_append, e1, List.length_drop, h.rlen] at this
    rw [List.length_append, e2, List.length_drop, h.len]
    exact this
  · by_cases hi : i < q
    · rw [List.getElem?_append_left (by omega), List.getElem?_take, if_pos hi] at hri hsi
      exact own_low (h1.seg i r s hri hsi) (Nat.zero_le _)
    · rw [List.getElem?_append_right (by omega), e1, List.getElem?_drop] at hri
      rw [List.getElem?_append_right (by omega), e2, List.getElem?_drop] at hsi
      exact own_low (h1.seg _ r s hri hsi) (Nat.zero_le _)
  · refine List.Pairwise.sublist ?_ h.apart
    refine List.Sublist.map _ ?_
    have : rs = rs.take q ++ rs.drop q := (List.take_append_drop q rs).symm
    conv => rhs; rw [this]
    exact List.Sublist.append (List.Sublist.refl _) (by rw [← List.drop_drop]; exact List.drop_sublist _ _)

end Go.Proofs.Ytenkdpogdfcbgaa
