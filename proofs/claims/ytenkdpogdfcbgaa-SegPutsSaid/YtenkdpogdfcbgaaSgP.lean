import Derived.Test.YtenkdpogdfcbgaaBgP6
import Derived.Test.YtenkdpogdfcbgaaVoP
/- Segments, plain: what each call answers of rows of records. No program in sight. -/
namespace Go.Proofs.Ytenkdpogdfcbgaa.Sg
open Go.Proofs.Ytenkdpogdfcbgaa

/-- A record, plain. -/
structure R where
  id : Bg.Id
  tx : ByteArray

instance : DecidableEq R := fun a b => match a, b with
  | ⟨a1, a2⟩, ⟨b1, b2⟩ => if h : a1 = b1 ∧ a2 = b2 then isTrue (by obtain ⟨rfl, rfl⟩ := h; rfl) else isFalse (fun e => h (by cases e; exact ⟨rfl, rfl⟩))

def sz (r : R) : Nat := 8 + r.tx.size
def full (l : List R) : Nat := (l.map sz).sum

theorem full_nil : full [] = 0 := rfl
theorem full_cons (r : R) (l : List R) : full (r :: l) = sz r + full l := rfl
theorem full_app (l m : List R) : full (l ++ m) = full l + full m := by
  unfold full
  rw [List.map_append, List.sum_append]
theorem full_perm {l m : List R} (h : l.Perm m) : full l = full m := (h.map sz).sum_nat
theorem full_flat (l : List (List R)) : full l.flatten = (l.map full).sum := by
  induction l with
  | nil => rfl
  | cons s l ih => rw [List.flatten_cons, full_app, ih]; rfl

/-- The first that is not nought. -/
def frst : List Nat → Nat
  | [] => 0
  | x :: l => if x = 0 then frst l else x
theorem frst_hit {l : List Nat} {k x : Nat} (h : l[k]? = some x) (hx : x ≠ 0) (hb : ∀ j < k, ∀ y, l[j]? = some y → y = 0) : frst l = x := by
  induction l generalizing k with
  | nil => simp at h
  | cons y l ih =>
    cases k with
    | zero =>
      obtain rfl : y = x := by simpa using h
      unfold frst
      rw [if_neg hx]
    | succ k =>
      have := hb 0 (by omega) y rfl
      unfold frst
      rw [if_pos this]
      exact ih (by simpa using h) fun j hj y hy => hb (j + 1) (by omega) y (by simpa using hy)
theorem frst_zero {l : List Nat} : frst l = 0 ↔ ∀ x ∈ l, x = 0 := by
  induction l with
  | nil => simp [frst]
  | cons y l ih =>
    unfold frst
    by_cases h : y = 0
    · rw [if_pos h, ih]
      simp [h]
    · rw [if_neg h]
      simp [h]

/-- What is wrong with a record. -/
def oneE (r : R) : Nat := if r.id.is = false then 3 else if 64 < r.tx.size then 2 else 0
/-- What is wrong with a segment. -/
def rowE (s : List R) : Nat := if s.length = 0 then 3 else if frst (s.map oneE) ≠ 0 then frst (s.map oneE) else if 200 < full s then 2 else 0
/-- What is wrong with segments. -/
def chkE (l : List (List R)) : Nat := if 16 < l.length then 2 else frst (l.map rowE)

/-- A right segment. -/
structure SOk (s : List R) : Prop where
  ne : s ≠ []
  one : ∀ r ∈ s, r.id.is = true ∧ r.tx.size ≤ 64
  room : full s ≤ 200

theorem oneE_zero {r : R} : oneE r = 0 ↔ r.id.is = true ∧ r.tx.size ≤ 64 := by
  unfold oneE
  split
  · rename_i h; simp [h]
  · rename_i h
    split
    · rename_i h2; simp; intro _; exact h2
    · rename_i h2; simp; exact ⟨by simpa using h, by omega⟩
theorem rowE_zero {s : List R} : rowE s = 0 ↔ SOk s := by
  unfold rowE
  constructor
  · intro h
    split at h
    · simp at h
    · rename_i h1
      split at h
      · rename_i h2; exact absurd h h2
      · rename_i h2
        have h2 : frst (s.map oneE) = 0 := by omega
        split at h
        · simp at h
        · rename_i h3
          refine ⟨fun e => h1 (by rw [e]; rfl), fun r hr => oneE_zero.1 (frst_zero.1 h2 _ (List.mem_map.2 ⟨r, hr, rfl⟩)), by omega⟩
  · rintro ⟨h1, h2, h3⟩
    have h4 : frst (s.map oneE) = 0 := frst_zero.2 fun x hx => by
      obtain ⟨r, hr, rfl⟩ := List.mem_map.1 hx
      exact oneE_zero.2 (h2 r hr)
    rw [if_neg (fun e => h1 (List.length_eq_zero_iff.1 e)), if_neg (by omega), if_neg (by omega)]

/-- Right segments. -/
structure Good (l : List (List R)) : Prop where
  len : l.length ≤ 16
  seg : ∀ s ∈ l, SOk s
theorem chk_zero {l : List (List R)} : chkE l = 0 ↔ Good l := by
  unfold chkE
  constructor
  · intro h
    split at h
    · simp at h
    · rename_i h1
      exact ⟨by omega, fun s hs => rowE_zero.1 (frst_zero.1 h _ (List.mem_map.2 ⟨s, hs, rfl⟩))⟩
  · rintro ⟨h1, h2⟩
    rw [if_neg (by omega)]
    exact frst_zero.2 fun x hx => by
      obtain ⟨s, hs, rfl⟩ := List.mem_map.1 hx
      exact rowE_zero.2 (h2 s hs)
theorem good_nil : Good [] := ⟨by simp, fun s hs => by cases hs⟩
theorem chk_one (r : R) : chkE [[r]] = oneE r := by
  unfold chkE
  rw [if_neg (by simp)]
  show (if rowE [r] = 0 then frst [] else rowE [r]) = _
  have hf : frst ([r].map oneE) = oneE r := by
    show (if oneE r = 0 then frst [] else oneE r) = _
    split
    · rename_i h; rw [h]; rfl
    · rfl
  have h2 : rowE [r] = oneE r := by
    unfold rowE
    rw [if_neg (by simp), hf]
    split
    · rfl
    · rename_i h
      have h : oneE r = 0 := by omega
      have := (oneE_zero.1 h).2
      rw [if_neg (by rw [full_cons, full_nil]; unfold sz; omega), h]
  rw [h2]
  split
  · rename_i h; rw [h]; rfl
  · rfl
theorem sok_short {s : List R} (h : SOk s) : s.length ≤ 25 := by
  have h1 := h.room
  have : ∀ l : List R, l.length * 8 ≤ full l := fun l => by
    induction l with
    | nil => simp
    | cons r l ih => rw [full_cons, List.length_cons]; unfold sz; omega
  have := this s
  omega

/-- A record at the end; none: there is no room. -/
def putL (l : List (List R)) (r : R) : Option (List (List R)) :=
  if l.length ≠ 0 ∧ full (l.getD (l.length - 1) []) + sz r ≤ 200 then some (l.take (l.length - 1) ++ [l.getD (l.length - 1) [] ++ [r]])
  else if l.length = 16 then none else some (l ++ [[r]])

theorem putL_good {l m : List (List R)} {r : R} (h : Good l) (hr : oneE r = 0) (hm : putL l r = some m) : Good m := by
  obtain ⟨h1, h2⟩ := oneE_zero.1 hr
  unfold putL at hm
  split at hm
  · rename_i hc
    cases hm
    have hl : l.length - 1 < l.length := by omega
    have hg : l.getD (l.length - 1) [] = l[l.length - 1] := by simp [List.getD, hl]
    refine ⟨by have := h.len; simp; omega, fun s hs => ?_⟩
    rcases List.mem_append.1 hs with hs | hs
    · exact h.seg s (List.mem_of_mem_take hs)
    · rw [List.mem_singleton.1 hs]
      have hk := h.seg l[l.length - 1] (List.getElem_mem hl)
      rw [hg] at hc ⊢
      refine ⟨by simp, fun x hx => ?_, by rw [full_app, full_cons, full_nil]; omega⟩
      rcases List.mem_append.1 hx with hx | hx
      · exact hk.one x hx
      · rw [List.mem_singleton.1 hx]; exact ⟨h1, h2⟩
  · split at hm
    · cases hm
    · rename_i hn
      cases hm
      refine ⟨by have := h.len; simp; omega, fun s hs => ?_⟩
      rcases List.mem_append.1 hs with hs | hs
      · exact h.seg s hs
      · rw [List.mem_singleton.1 hs]
        refine ⟨by simp, fun x hx => ?_, by rw [full_cons, full_nil]; unfold sz; omega⟩
        rw [List.mem_singleton.1 hx]; exact ⟨h1, h2⟩

theorem take_last {l : List (List R)} (h : l.length ≠ 0) : l.take (l.length - 1) ++ [l.getD (l.length - 1) []] = l := by
  have hl : l.length - 1 < l.length := by omega
  have hg : l.getD (l.length - 1) [] = l[l.length - 1] := by simp [List.getD, hl]
  rw [hg, ← List.take_succ_eq_append_getElem hl]
  exact List.take_of_length_le (by omega)
theorem putL_flat {l m : List (List R)} {r : R} (hm : putL l r = some m) : m.flatten = l.flatten ++ [r] := by
  unfold putL at hm
  split at hm
  · rename_i hc
    cases hm
    conv => rhs; rw [← take_last hc.1]
    simp
  · split at hm
    · cases hm
    · cases hm
      simp
theorem putL_len {l m : List (List R)} {r : R} (hm : putL l r = some m) : l.length ≤ m.length ∧ m.length ≤ l.length + 1 := by
  unfold putL at hm
  split at hm
  · rename_i hc
    cases hm
    simp
    omega
  · split at hm
    · cases hm
    · cases hm
      simp

/-- What seg.Put answers. -/
structure PutA where
  l : List (List R)
  e : Nat
def putR (l : List (List R)) (r : R) : PutA :=
  if chkE l ≠ 0 then ⟨[], chkE l⟩ else if chkE [[r]] ≠ 0 then ⟨[], chkE [[r]]⟩ else match putL l r with | none => ⟨[], 8⟩ | some m => ⟨m, 0⟩

theorem put_good {l : List (List R)} {r : R} (h : Good l) : Good (putR l r).l := by
  unfold putR
  split
  · exact good_nil
  · split
    · exact good_nil
    · rename_i h2
      split
      · exact good_nil
      · rename_i m hm
        exact putL_good h (by rw [chk_one] at h2; omega) hm

/-- Records that are put one by one. -/
def fitStep (out : List (List R)) (r : R) : List (List R) := if (putR out r).e = 0 then (putR out r).l else out
def fits (rs : List R) : List (List R) := rs.foldl fitStep []
theorem fitStep_good {l : List (List R)} {r : R} (h : Good l) : Good (fitStep l r) := by
  unfold fitStep
  split
  · exact put_good h
  · exact h
theorem fold_good {rs : List R} : ∀ {l : List (List R)}, Good l → Good (rs.foldl fitStep l) := by
  induction rs with
  | nil => exact fun h => h
  | cons r rs ih => exact fun h => ih (fitStep_good h)
theorem fits_good (rs : List R) : Good (fits rs) := fold_good good_nil

/-- Does its block stand in the bag? -/
def okB (b : List Bg.It) (r : R) : Bool := (b.find? (Bg.hit r.id)).any (Bg.same r.tx)
/-- Is there one behind it that is live, of the same id? -/
def seenB (b : List Bg.It) (t : List R) (id : Bg.Id) : Bool := t.any fun x => okB b x && decide (x.id = id)
/-- Which records of a segment are live, others standing behind it. -/
def flg (b : List Bg.It) : List R → List R → List Bool
  | [], _ => []
  | r :: s, tl => (okB b r && !seenB b (s ++ tl) r.id) :: flg b s tl
def flgs (b : List Bg.It) : List (List R) → List (List Bool)
  | [] => []
  | s :: t => flg b s t.flatten :: flgs b t
/-- The live records of a segment. -/
def liveR (b : List Bg.It) : List R → List R → List R
  | [], _ => []
  | r :: s, tl => if okB b r && !seenB b (s ++ tl) r.id then r :: liveR b s tl else liveR b s tl
/-- The live records of each. -/
def lives (b : List Bg.It) : List (List R) → List (List R)
  | [] => []
  | s :: t => liveR b s t.flatten :: lives b t
def usedL (b : List Bg.It) (l : List (List R)) : List Nat := (lives b l).map full

theorem flg_length (b : List Bg.It) (s tl : List R) : (flg b s tl).length = s.length := by
  induction s with
  | nil => rfl
  | cons r s ih => rw [flg, List.length_cons, ih, List.length_cons]
theorem flgs_length (b : List Bg.It) (l : List (List R)) : (flgs b l).length = l.length := by
  induction l with
  | nil => rfl
  | cons r s ih => rw [flgs, List.length_cons, ih, List.length_cons]
theorem lives_length (b : List Bg.It) (l : List (List R)) : (lives b l).length = l.length := by
  induction l with
  | nil => rfl
  | cons r s ih => rw [lives, List.length_cons, ih, List.length_cons]
theorem lives_flat (b : List Bg.It) (l : List (List R)) : (lives b l).flatten = liveR b l.flatten [] := by
  have app : ∀ (s t tl : List R), liveR b (s ++ t) tl = liveR b s (t ++ tl) ++ liveR b t tl := fun s t tl => by
    induction s with
    | nil => rfl
    | cons r s ih =>
      rw [List.cons_append, liveR, liveR, ih, List.append_assoc]
      split <;> rfl
  induction l with
  | nil => rfl
  | cons s t ih => rw [lives, List.flatten_cons, List.flatten_cons, app, ih, List.append_nil]

theorem ok_id {b : List Bg.It} {r x : R} (h : okB b r = true) (g : okB b x = true) (e : x.id = r.id) : x = r := by
  unfold okB at h g
  rw [e] at g
  cases hf : b.find? (Bg.hit r.id) with
  | none => rw [hf] at h; cases h
  | some y =>
    rw [hf] at h g
    have h1 : Bg.same r.tx y = true := h
    have h2 : Bg.same x.tx y = true := g
    unfold Bg.same at h1 h2
    rw [beq_iff_eq, Bg.bs_same] at h1 h2
    obtain ⟨i, t⟩ := r
    obtain ⟨i', t'⟩ := x
    dsimp only at e h1 h2
    rw [e, ← h1, ← h2]
theorem seen_iff {b : List Bg.It} {t : List R} {r : R} (h : okB b r = true) : seenB b t r.id = true ↔ r ∈ t := by
  unfold seenB
  rw [List.any_eq_true]
  constructor
  · rintro ⟨x, hx, hc⟩
    rw [Bool.and_eq_true, decide_eq_true_iff] at hc
    rw [← ok_id h hc.1 hc.2]
    exact hx
  · intro hr
    exact ⟨r, hr, by simp [h]⟩

theorem live_mem {b : List Bg.It} {s tl : List R} {r : R} (h : r ∈ liveR b s tl) : r ∈ s ∧ okB b r = true := by
  induction s with
  | nil => cases h
  | cons x s ih =>
    rw [liveR] at h
    split at h
    · rename_i hc
      rw [Bool.and_eq_true] at hc
      rcases List.mem_cons.1 h with rfl | h
      · exact ⟨List.mem_cons_self, hc.1⟩
      · exact ⟨List.mem_cons_of_mem _ (ih h).1, (ih h).2⟩
    · exact ⟨List.mem_cons_of_mem _ (ih h).1, (ih h).2⟩
theorem live_or {b : List Bg.It} {s tl : List R} {r : R} (h : r ∈ s) (ho : okB b r = true) : r ∈ liveR b s tl ∨ r ∈ tl := by
  induction s with
  | nil => cases h
  | cons x s ih =>
    rw [liveR]
    by_cases hs : r ∈ s
    · rcases ih hs with h1 | h1
      · left
        split
        · exact List.mem_cons_of_mem _ h1
        · exact h1
      · exact Or.inr h1
    · rcases List.mem_cons.1 h with rfl | h
      · by_cases ht : r ∈ tl
        · exact Or.inr ht
        · left
          have : seenB b (s ++ tl) r.id = false := by
            cases hq : seenB b (s ++ tl) r.id with
            | false => rfl
            | true =>
              rcases List.mem_append.1 ((seen_iff ho).1 hq) with h1 | h1
              · exact absurd h1 hs
              · exact absurd h1 ht
          rw [if_pos (by simp [ho, this])]
          exact List.mem_cons_self
      · exact absurd h hs
theorem live_nodup (b : List Bg.It) (s tl : List R) : (liveR b s tl).Nodup := by
  induction s with
  | nil => exact List.nodup_nil
  | cons x s ih =>
    rw [liveR]
    split
    · rename_i hc
      rw [Bool.and_eq_true] at hc
      refine List.nodup_cons.2 ⟨fun hm => ?_, ih⟩
      have : seenB b (s ++ tl) x.id = true := (seen_iff hc.1).2 (List.mem_append.2 (Or.inl (live_mem hm).1))
      rw [this] at hc
      simp at hc
    · exact ih
/-- All that is live. -/
def alive (b : List Bg.It) (l : List R) : List R := liveR b l []
theorem alive_mem {b : List Bg.It} {l : List R} {r : R} : r ∈ alive b l ↔ r ∈ l ∧ okB b r = true :=
  ⟨live_mem, fun ⟨h1, h2⟩ => (live_or h1 h2).resolve_right (by simp)⟩
theorem alive_perm {b : List Bg.It} {l m : List R} (h : ∀ r, okB b r = true → (r ∈ l ↔ r ∈ m)) : (alive b l).Perm (alive b m) := by
  refine (List.perm_ext_iff_of_nodup (live_nodup b l []) (live_nodup b m [])).2 fun r => ?_
  show r ∈ alive b l ↔ r ∈ alive b m
  rw [alive_mem, alive_mem]
  constructor
  · rintro ⟨h1, h2⟩; exact ⟨(h r h2).1 h1, h2⟩
  · rintro ⟨h1, h2⟩; exact ⟨(h r h2).2 h1, h2⟩
theorem used_sum (b : List Bg.It) (l : List (List R)) : (usedL b l).sum = full (alive b l.flatten) := by
  unfold usedL alive
  rw [← full_flat, lives_flat]
theorem used_length (b : List Bg.It) (l : List (List R)) : (usedL b l).length = l.length := by
  unfold usedL
  rw [List.length_map, lives_length]

end Go.Proofs.Ytenkdpogdfcbgaa.Sg
