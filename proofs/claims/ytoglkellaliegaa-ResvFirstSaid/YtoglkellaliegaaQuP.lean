/- Queues, plain facts: what may be added, what may be done. No program in sight. -/
import Derived.Test.YtoglkellaliegaaBase
namespace Go.Proofs.Ytoglkellaliegaa.Qu

abbrev T := Int × Int

/-- May a task be so? -/
def one (t : T) : Bool := (decide (0 ≤ t.1) && decide (t.1 < 1000)) && (decide (0 ≤ t.2) && decide (t.2 ≤ 2))
/-- Has a task that tag? -/
def tg (g : Int) (t : T) : Bool := t.1 == g
def has (l : List T) (g : Int) : Bool := l.any (tg g)
/-- Is it not simple? -/
def ns (t : T) : Bool := t.2 != 0

/-- What a queue is like. -/
structure Good (l : List T) : Prop where
  len : l.length ≤ 20
  one : ∀ t, t ∈ l → one t = true
  nd : (l.map (·.1)).Nodup

/-- What Add answers. -/
def addE (l : List T) (t : T) : Nat := if one t = false then 1 else if has l t.1 = true then 5 else if l.length = 20 then 8 else 0
def addL (l : List T) (t : T) : List T := if t.2 = 2 then t :: l else l ++ [t]
def addA (l : List T) (t : T) : List T := if addE l t = 0 then addL l t else []
/-- Tasks that are put. -/
def put (q : List T) (t : T) : List T := if addE q t = 0 then addL q t else q
def queued (l : List T) : List T := l.foldl put []

theorem queued_snoc (l : List T) (t : T) : queued (l ++ [t]) = put (queued l) t := by unfold queued; rw [List.foldl_append]; rfl

theorem one_iff {t : T} : one t = true ↔ 0 ≤ t.1 ∧ t.1 < 1000 ∧ 0 ≤ t.2 ∧ t.2 ≤ 2 := by
  unfold one
  simp only [Bool.and_eq_true, decide_eq_true_eq, and_assoc]

theorem has_false {l : List T} {g : Int} : has l g = false ↔ ∀ t, t ∈ l → t.1 ≠ g := by
  unfold has tg
  simp

theorem addE_zero {l : List T} {t : T} : addE l t = 0 ↔ one t = true ∧ has l t.1 = false ∧ l.length ≠ 20 := by
  unfold addE
  cases one t <;> cases has l t.1 <;> by_cases h : l.length = 20 <;> simp [h]

theorem Good.nil : Good [] := ⟨by simp, by simp, by simp⟩

theorem Good.add {l : List T} {t : T} (h : Good l) (h0 : addE l t = 0) : Good (addL l t) := by
  obtain ⟨h1, h2, h3⟩ := addE_zero.1 h0
  have hn := has_false.1 h2
  have hl := h.len
  unfold addL
  by_cases hk : t.2 = 2
  · rw [if_pos hk]
    refine ⟨by simp; omega, ?_, ?_⟩
    · intro u hu
      rcases List.mem_cons.1 hu with rfl | hu
      · exact h1
      · exact h.one u hu
    · rw [List.map_cons, List.nodup_cons]
      refine ⟨fun hm => ?_, h.nd⟩
      obtain ⟨u, hu, he⟩ := List.mem_map.1 hm
      exact hn u hu he
  · rw [if_neg hk]
    refine ⟨by simp; omega, ?_, ?_⟩
    · intro u hu
      rcases List.mem_append.1 hu with hu | hu
      · exact h.one u hu
      · rw [List.mem_singleton.1 hu]; exact h1
    · rw [List.map_append, List.nodup_append]
      refine ⟨h.nd, by simp, ?_⟩
      intro a ha b hb e
      subst e
      obtain ⟨u, hu, he⟩ := List.mem_map.1 ha
      rw [List.map_singleton, List.mem_singleton] at hb
      exact hn u hu (he.trans hb)

theorem Good.put {l : List T} {t : T} (h : Good l) : Good (put l t) := by
  unfold Qu.put
  by_cases h0 : addE l t = 0
  · rw [if_pos h0]; exact h.add h0
  · rw [if_neg h0]; exact h

theorem good_queued (l : List T) : Good (queued l) := by
  unfold queued
  suffices ∀ q, Good q → Good (l.foldl Qu.put q) from this [] Good.nil
  induction l with
  | nil => intro q h; exact h
  | cons t l ih => intro q h; exact ih _ h.put

theorem Good.sub {l m : List T} (h : Good l) (hs : m.Sublist l) : Good m :=
  ⟨Nat.le_trans hs.length_le h.len, fun t ht => h.one t (hs.subset ht), List.Sublist.nodup (hs.map _) h.nd⟩

/-- May the task at a place be done? -/
def may (l : List T) (i : Nat) : Bool :=
  if (l.getD i (0, 0)).2 = 2 then true else if (l.getD i (0, 0)).2 = 1 then decide (i = 0) else !(l.take i).any ns

/-- The tags of those of the first n that may be done. -/
def mayN (l : List T) : Nat → List Int
  | 0 => []
  | n + 1 => mayN l n ++ if may l n = true then [(l.getD n (0, 0)).1] else []

def mayL (l : List T) : List Int := mayN l l.length

theorem mayN_len (l : List T) : ∀ n, (mayN l n).length ≤ n
  | 0 => Nat.le_refl _
  | n + 1 => by
    have := mayN_len l n
    rw [mayN, List.length_append]
    split <;> simp <;> omega

theorem may_zero (l : List T) : may l 0 = true := by
  unfold may
  split
  · rfl
  · split
    · rfl
    · rfl

theorem mayN_head (l : List T) : ∀ n, ∃ r, mayN l (n + 1) = (l.getD 0 (0, 0)).1 :: r
  | 0 => ⟨[], by rw [mayN, mayN, may_zero]; rfl⟩
  | n + 1 => by
    obtain ⟨r, hr⟩ := mayN_head l n
    refine ⟨r ++ if may l (n + 1) = true then [(l.getD (n + 1) (0, 0)).1] else [], ?_⟩
    rw [mayN, hr]
    rfl

theorem mayL_head {l : List T} (h : l ≠ []) : ∃ r, mayL l = (l.getD 0 (0, 0)).1 :: r := by
  obtain ⟨n, hn⟩ : ∃ n, l.length = n + 1 := ⟨l.length - 1, by have := List.length_pos_iff.2 h; omega⟩
  unfold mayL
  rw [hn]
  exact mayN_head l n

theorem mem_mayN {l : List T} {x : Int} : ∀ n, x ∈ mayN l n ↔ ∃ i, i < n ∧ may l i = true ∧ x = (l.getD i (0, 0)).1
  | 0 => by simp [mayN]
  | n + 1 => by
    rw [mayN, List.mem_append, mem_mayN n]
    constructor
    · rintro (⟨i, h1, h2, h3⟩ | h)
      · exact ⟨i, by omega, h2, h3⟩
      · by_cases hm : may l n = true
        · rw [if_pos hm, List.mem_singleton] at h
          exact ⟨n, by omega, hm, h⟩
        · rw [if_neg hm] at h; cases h
    · rintro ⟨i, h1, h2, h3⟩
      by_cases hi : i < n
      · exact Or.inl ⟨i, hi, h2, h3⟩
      · obtain rfl : i = n := by omega
        right
        rw [if_pos h2, h3]
        exact List.mem_singleton.2 rfl

theorem getD_app {l m : List T} {i : Nat} (h : i < l.length) : (l ++ m).getD i (0, 0) = l.getD i (0, 0) := by
  simp [List.getD, List.getElem?_append_left h]

theorem may_app {l m : List T} {i : Nat} (h : i < l.length) : may (l ++ m) i = may l i := by
  unfold may
  rw [getD_app h, List.take_append_of_le_length (by omega)]

theorem mayN_app {l m : List T} : ∀ n, n ≤ l.length → mayN (l ++ m) n = mayN l n
  | 0, _ => rfl
  | n + 1, h => by rw [mayN, mayN, mayN_app n (by omega), may_app (by omega), getD_app (by omega)]

/-- A task that comes later holds up nobody. -/
theorem mayL_later (l : List T) (t : T) : ∃ r, mayL (l ++ [t]) = mayL l ++ r := by
  unfold mayL
  rw [List.length_append, List.length_singleton, mayN, mayN_app _ (Nat.le_refl _)]
  exact ⟨_, rfl⟩

/-- Where a tag stands. -/
def at? (l : List T) (g : Int) : Option Nat := l.findIdx? (tg g)

theorem tag_at {l : List T} (h : (l.map (·.1)).Nodup) {i : Nat} (hi : i < l.length) : l.findIdx? (tg (l.getD i (0, 0)).1) = some i := by
  have e : l.getD i (0, 0) = l[i] := by simp [List.getD, hi]
  rw [e, List.findIdx?_eq_some_iff_getElem]
  refine ⟨hi, by simp [tg], ?_⟩
  intro j hj hh
  have hj' : j < l.length := by omega
  have he : l[j].1 = l[i].1 := by simpa [tg] using hh
  have := (List.pairwise_iff_getElem.1 h) j i (by simpa using hj') (by simpa using hi) hj
  simp at this
  exact this he

theorem sub_erase (l : List T) (i : Nat) : (l.eraseIdx i).Sublist l := List.eraseIdx_sublist l i

/-- Where all are simple. -/
theorem may_simple {l : List T} (h : ∀ t, t ∈ l → t.2 = 0) (i : Nat) : may l i = true := by
  have hg : (l.getD i (0, 0)).2 = 0 := by
    by_cases hi : i < l.length
    · have e : l.getD i (0, 0) = l[i] := by simp [List.getD, hi]
      rw [e]; exact h _ (List.getElem_mem hi)
    · have e : l.getD i (0, 0) = (0, 0) := by simp [List.getD, Nat.le_of_not_lt hi]
      rw [e]
  unfold may
  rw [if_neg (by omega), if_neg (by omega)]
  have : (l.take i).any ns = false := by
    rw [List.any_eq_false]
    intro t ht
    have := h t (List.mem_of_mem_take ht)
    simp [ns, this]
  rw [this]
  rfl

theorem mayN_simple {l : List T} (h : ∀ t, t ∈ l → t.2 = 0) : ∀ n, (mayN l n).length = n
  | 0 => rfl
  | n + 1 => by rw [mayN, List.length_append, mayN_simple h n, if_pos (may_simple h n)]; rfl

end Go.Proofs.Ytoglkellaliegaa.Qu
