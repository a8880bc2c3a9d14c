import Derived.Test.YtenkdpogdfcbgaaGreatBase
import Derived.Test.YtenkdpogdfcbgaaGreatUse
/- Queues, plain facts: what may be added, what may be done. No program in sight. -/
namespace Go.Proofs.YtenkdpogdfcbgaaGreat.Qu

abbrev T := Int × Int

/-- May a task be so? -/
def one (t : T) : Bool := (decide (0 ≤ t.1) && decide (t.1 < 1000)) && (decide (0 ≤ t.2) && decide (t.2 ≤ 2))
/-- Has a task that tag? -/
def tg (g : Int) (t : T) : Bool := t.1 == g
def has (l : List T) (g : Int) : Bool := l.any (tg g)
/-- Is it not simple? -/
def ns (t : T) : Bool := t.2 != 0

/-- What a queue is like. -/
structure Good (l : List T) : Prop where
  len : l.length ≤ 20
  one : ∀ t, t ∈ l → one t = true
  nd : (l.map (·.1)).Nodup

/-- What Add answers. -/
def addE (l : List T) (t : T) : Nat := if one t = false then 1 else if has l t.1 = true then 5 else if l.length = 20 then 8 else 0
def addL (l : List T) (t : T) : List T := if t.2 = 2 then t :: l else l ++ [t]
def addA (l : List T) (t : T) : List T := if addE l t = 0 then addL l t else []
/-- Tasks that are put. -/
def put (q : List T) (t : T) : List T := if addE q t = 0 then addL q t else q
def queued (l : List T) : List T := l.foldl put []

theorem queued_snoc (l : List T) (t : T) : queued (l ++ [t]) = put (queued l) t := by unfold queued; rw [List.foldl_append]; rfl

theorem one_iff {t : T} : one t = true ↔ 0 ≤ t.1 ∧ t.1 < 1000 ∧ 0 ≤ t.2 ∧ t.2 ≤ 2 := by
  unfold one
  simp only [Bool.and_eq_true, decide_eq_true_eq, and_assoc]

theorem has_false {l : List T} {g : Int} : has l g = false ↔ ∀ t, t ∈ l → t.1 ≠ g := by
  unfold has tg
  simp

theorem addE_zero {l : List T} {t : T} : addE l t = 0 ↔ one t = true ∧ has l t.1 = false ∧ l.length ≠ 20 := by
  unfold addE
  cases one t <;> cases has l t.1 <;> by_cases h : l.length = 20 <;> simp [h]

theorem Good.nil : Good [] := ⟨by simp, by simp, by simp⟩

theorem Good.add {l : List T} {t : T} (h : Good l) (h0 : addE l t = 0) : Good (addL l t) := by
  obtain ⟨h1, h2, h3⟩ := addE_zero.1 h0
  have hn := has_false.1 h2
  have hl := h.len
  unfold addL
  by_cases hk : t.2 = 2
  · rw [if_pos hk]
    refine ⟨by simp; omega, ?_, ?_⟩
    · intro u hu
      rcases List.mem_cons.1 hu with rfl | hu
      · exact h1
      · exact h.one u hu
    · rw [List.map_cons, List.nodup_cons]
      refine ⟨fun hm => ?_, h.nd⟩
      obtain ⟨u, hu, he⟩ := List.mem_map.1 hm
      exact hn u hu he
  · rw [if_neg hk]
    refine ⟨by simp; omega, ?_, ?_⟩
    · intro u hu
      rcases List.mem_append.1 hu with hu | hu
      · exact h.one u hu
      · rw [List.mem_singleton.1 hu]; exact h1
    · rw [List.map_append, List.nodup_append]
      refine ⟨h.nd, by simp, ?_⟩
      intro a ha b hb e
      subst e
      obtain ⟨u, hu, he⟩ := List.mem_map.1 ha
      rw [List.map_singleton, List.mem_singleton] at hb
      exact hn u hu (he.trans hb)

theorem Good.put {l : List T} {t : T} (h : Good l) : Good (put l t) := by
  unfold Qu.put
  by_cases h0 : addE l t = 0
  · rw [if_pos h0]; exact h.add h0
  · rw [if_neg h0]; exact h

theorem good_queued (l : List T) : Good (queued l) := by
  unfold queued
  suffices ∀ q, Good q → Good (l.foldl Qu.put q) from this [] Good.nil
  induction l with
  | nil => intro q h; exact h
  | cons t l ih => intro q h; exact ih _ h.put

theorem Good.sub {l m : List T} (h : Good l) (hs : m.Sublist l) : Good m :=
  ⟨Nat.le_trans hs.length_le h.len, fun t ht => h.one t (hs.subset ht), List.Sublist.nodup (hs.map _) h.nd⟩

/-- May the task at a place be done? -/
def may (l : List T) (i : Nat) : Bool :=
  if (l.getD i (0, 0)).2 = 2 then true else if (l.getD i (0, 0)).2 = 1 then decide (i = 0) else !(l.take i).any ns

/-- The tags of those of the first n that may be done. -/
def mayN (l : List T) : Nat → List Int
  | 0 => []
  | n + 1 => mayN l n ++ if may l n = true then [(l.getD n (0, 0)).1] else []

def mayL (l : List T) : List Int := mayN l l.length

theorem mayN_len (l : List T) : ∀ n, (mayN l n).length ≤ n
  | 0 => Nat.le_refl _
  | n + 1 => by
    have := mayN_len l n
    rw [mayN, List.length_append]
    split <;> simp <;> omega

theorem may_zero (l : List T) : may l 0 = true := by
  unfold may
  split
  · rfl
  · split
    · rfl
    · rfl

theorem mayN_head (l : List T) : ∀ n, ∃ r, mayN l (n + 1) = (l.getD 0 (0, 0)).1 :: r
  | 0 => ⟨[], by rw [mayN, mayN, may_zero]; rfl⟩
  | n + 1 => by
    obtain ⟨r, hr⟩ := mayN_head l n
    refine ⟨r ++ if may l (n + 1) = true then [(l.getD (n + 1) (0, 0)).1] else [], ?_⟩
    rw [mayN, hr]
    rfl

theorem mayL_head {l : List T} (h : l ≠ []) : ∃ r, mayL l = (l.getD 0 (0, 0)).1 :: r := by
  obtain ⟨n, hn⟩ : ∃ n, l.length = n + 1 := ⟨l.length - 1, by have := List.length_pos_iff.2 h; omega⟩
  unfold mayL
  rw [hn]
  exact mayN_head l n

theorem mem_mayN {l : List T} {x : Int} : ∀ n, x ∈ mayN l n ↔ ∃ i, i < n ∧ may l i = true ∧ x = (l.getD i (0, 0)).1
  | 0 => by simp [mayN]
  | n + 1 => by
    rw [mayN, List.mem_append, mem_mayN n]
    constructor
    · rintro (⟨i, h1, h2, h3⟩ | h)
      · exact ⟨i, by omega, h2, h3⟩
      · by_cases hm : may l n = true
        · rw [if_pos hm, List.mem_singleton] at h
          exact ⟨n, by omega, hm, h⟩
        · rw [if_neg hm] at h; cases h
    · rintro ⟨i, h1, h2, h3⟩
      by_cases hi : i < n
      · exact Or.inl ⟨i, hi, h2, h3⟩
      · obtain rfl : i = n := by omega
        right
        rw [if_pos h2, h3]
        exact List.mem_singleton.2 rfl

theorem getD_app {l m : List T} {i : Nat} (h : i < l.length) : (l ++ m).getD i (0, 0) = l.getD i (0, 0) := by
  simp [List.getD, List.getElem?_append_left h]

theorem may_app {l m : List T} {i : Nat} (h : i < l.length) : may (l ++ m) i = may l i := by
  unfold may
  rw [getD_app h, List.take_append_of_le_length (by omega)]

theorem mayN_app {l m : List T} : ∀ n, n ≤ l.length → mayN (l ++ m) n = mayN l n
  | 0, _ => rfl
  | n + 1, h => by rw [mayN, mayN, mayN_app n (by omega), may_app (by omega), getD_app (by omega)]

/-- A task that comes later holds up nobody. -/
theorem mayL_later (l : List T) (t : T) : ∃ r, mayL (l ++ [t]) = mayL l ++ r := by
  unfold mayL
  rw [List.length_append, List.length_singleton, mayN, mayN_app _ (Nat.le_refl _)]
  exact ⟨_, rfl⟩

/-- Where a tag stands. -/
def at? (l : List T) (g : Int) : Option Nat := l.findIdx? (tg g)

theorem tag_at {l : List T} (h : (l.map (·.1)).Nodup) {i : Nat} (hi : i < l.length) : l.findIdx? (tg (l.getD i (0, 0)).1) = some i := by
  have e : l.getD i (0, 0) = l[i] := by simp [List.getD, hi]
  rw [e, List.findIdx?_eq_some_iff_getElem]
  refine ⟨hi, by simp [tg], ?_⟩
  intro j hj hh
  have hj' : j < l.length := by omega
  have he : l[j].1 = l[i].1 := by simpa [tg] using hh
  have := (List.pairwise_iff_getElem.1 h) j i (by simpa using hj') (by simpa using hi) hj
  simp at this
  exact this he

theorem sub_erase (l : List T) (i : Nat) : (l.eraseIdx i).Sublist l := List.eraseIdx_sublist l i

/-- Where all are simple. -/
theorem may_simple {l : List T} (h : ∀ t, t ∈ l → t.2 = 0) (i : Nat) : may l i = true := by
  have hg : (l.getD i (0, 0)).2 = 0 := by
    by_cases hi : i < l.length
    · have e : l.getD i (0, 0) = l[i] := by simp [List.getD, hi]
      rw [e]; exact h _ (List.getElem_mem hi)
    · have e : l.getD i (0, 0) = (0, 0) := by simp [List.getD, Nat.le_of_not_lt hi]
      rw [e]
  unfold may
  rw [if_neg (by omega), if_neg (by omega)]
  have : (l.take i).any ns = false := by
    rw [List.any_eq_false]
    intro t ht
    have := h t (List.mem_of_mem_take ht)
    simp [ns, this]
  rw [this]
  rfl

theorem mayN_simple {l : List T} (h : ∀ t, t ∈ l → t.2 = 0) : ∀ n, (mayN l n).length = n
  | 0 => rfl
  | n + 1 => by rw [mayN, List.length_append, mayN_simple h n, if_pos (may_simple h n)]; rfl

end Go.Proofs.YtenkdpogdfcbgaaGreat.Qu

/- Reservations, plain facts: what is computed. No program in sight. -/
namespace Go.Proofs.YtenkdpogdfcbgaaGreat.Rg

/-- A reservation, plain. -/
structure RV where
  gen : Int
  regs : List Qu.T
  kind : Int
  holder : Int

def zero : RV := ⟨0, [], 0, 0⟩
def all (k : Int) : Bool := k == 7 || k == 8
def kindB (k : Int) : Bool := k == 1 || (k == 3 || (decide (5 ≤ k) && decide (k ≤ 8)))
def who (n : Int) : Bool := decide (0 ≤ n) && decide (n ≤ 7)
def kg (k : Int) (t : Qu.T) : Bool := t.2 == k

/-- The key of a hand, or 0. -/
def key (l : List Qu.T) (w : Int) : Int := match l.find? (Qu.tg w) with | some t => t.2 | none => 0

/-- Is the reservation a hand's? -/
def hasR (l : List Qu.T) (k h w : Int) : Bool := if k = 0 then false else if all k = true then Qu.has l w else h == w

/-- Registrations without a hand. -/
def cut (l : List Qu.T) (w : Int) : List Qu.T := l.filter fun t => !Qu.tg w t

/-- Is the reservation over when a hand goes? -/
def ends (l : List Qu.T) (k h w : Int) : Bool := hasR l k h w && (!all k || decide ((cut l w) = []))

def out (r : RV) (w : Int) : RV :=
  if ends r.regs r.kind r.holder w = true then ⟨r.gen, cut r.regs w, 0, 0⟩ else ⟨r.gen, cut r.regs w, r.kind, r.holder⟩

/-- A key is set. -/
def setK (l : List Qu.T) (w k : Int) : List Qu.T := l.map fun t => if Qu.tg w t = true then (t.1, k) else t

/-- A hand is put in its place. -/
def ins (l : List Qu.T) (w k : Int) : List Qu.T := l.filter (fun t => decide (t.1 < w)) ++ (w, k) :: l.filter (fun t => decide (w ≤ t.1))

def regE (r : RV) (w old : Int) : Nat := if key r.regs w = old then 0 else 9
/-- The same, where the generations may have come to their end. -/
def regE8 (r : RV) (w old : Int) : Nat := if key r.regs w = old then (if r.gen = 2147483647 then 8 else 0) else 9
def regR (r : RV) (w k : Int) : RV :=
  if k = 0 then out ⟨r.gen + 1, r.regs, r.kind, r.holder⟩ w
  else if Qu.has r.regs w = true then ⟨r.gen + 1, setK r.regs w k, r.kind, r.holder⟩
  else ⟨r.gen + 1, ins r.regs w k, r.kind, r.holder⟩

/-- Is a hand there, with a key? -/
def kd (l : List Qu.T) (w k : Int) : Bool := Qu.has l w && (key l w == k)

def resE (r : RV) (w key k : Int) : Nat := if kd r.regs w key = false then 9 else if r.kind = 0 then 0 else if hasR r.regs r.kind r.holder w = true ∧ r.kind = k then 0 else 9
def resR (r : RV) (w k : Int) : RV := ⟨r.gen, r.regs, k, if all k = true then r.holder else w⟩

def relE (r : RV) (w key k : Int) : Nat := if kd r.regs w key = false then 9 else if hasR r.regs r.kind r.holder w = false then 0 else if r.kind = k then 0 else 3
def relR (r : RV) (w : Int) : RV := if hasR r.regs r.kind r.holder w = false then r else ⟨r.gen, r.regs, 0, 0⟩

def clrE (r : RV) (w key : Int) : Nat := if kd r.regs w key = false then 9 else 0
def clrR (r : RV) : RV := ⟨r.gen + 1, [], 0, 0⟩

/-- One step of Preempt. -/
def pstep (r : RV) (w o : Int) (s : RV × Bool) (t : Qu.T) : RV × Bool :=
  if t.2 = o then (if t.1 = w then s.1 else out s.1 t.1, s.2 || (!all r.kind && hasR r.regs r.kind r.holder t.1)) else s
def ploop (r : RV) (w o : Int) (l : List Qu.T) : RV × Bool := l.foldl (pstep r w o) (⟨r.gen + 1, r.regs, r.kind, r.holder⟩, false)
def preE (r : RV) (w key o : Int) : Nat := if kd r.regs w key = false then 9 else if o = 0 then 1 else if r.regs.any (kg o) = false then 4 else 0
def preR (r : RV) (w o k : Int) : RV :=
  if (ploop r w o r.regs).2 = true then ⟨(ploop r w o r.regs).1.gen, (ploop r w o r.regs).1.regs, k, if all k = true then 0 else w⟩
  else (ploop r w o r.regs).1

/-- What is right. -/
structure Good (r : RV) : Prop where
  gen0 : 0 ≤ r.gen
  gen1 : r.gen ≤ 2147483647
  one : ∀ t, t ∈ r.regs → 0 ≤ t.1 ∧ t.1 ≤ 7 ∧ 1 ≤ t.2 ∧ t.2 ≤ 1000
  inc : r.regs.Pairwise fun s t => s.1 < t.1
  kind : kindB r.kind = true ∨ r.kind = 0
  none : r.kind = 0 ∨ all r.kind = true → r.holder = 0
  some : all r.kind = true → r.regs ≠ []
  held : r.kind ≠ 0 → all r.kind = false → Qu.has r.regs r.holder = true

theorem length_le_of_inc {l : List Qu.T} (h : l.Pairwise fun s t => s.1 < t.1) {a b : Int} (hb : ∀ t, t ∈ l → a ≤ t.1 ∧ t.1 < b) (hab : a ≤ b) : (l.length : Int) ≤ b - a := by
  induction l generalizing a with
  | nil => simp; omega
  | cons t l ih =>
    obtain ⟨h1, h2⟩ := List.pairwise_cons.1 h
    have ht := hb t (List.mem_cons_self ..)
    have := ih h2 (a := t.1 + 1) (fun u hu => ⟨by have := h1 u hu; omega, (hb u (List.mem_cons_of_mem _ hu)).2⟩) (by omega)
    rw [List.length_cons]
    omega

theorem Good.len {r : RV} (h : Good r) : r.regs.length ≤ 8 := by
  have := length_le_of_inc h.inc (a := 0) (b := 8) (fun t ht => by have := h.one t ht; omega) (by omega)
  omega

theorem good_zero : Good zero := ⟨by decide, by decide, by simp [zero], by simp [zero], Or.inr rfl, fun _ => rfl, by simp [zero, all], by simp [zero]⟩

end Go.Proofs.YtenkdpogdfcbgaaGreat.Rg

/- Reservations, plain facts: what is right stays right; what a turn does. No program in sight. -/
namespace Go.Proofs.YtenkdpogdfcbgaaGreat.Rg

abbrev Inc (l : List Qu.T) : Prop := l.Pairwise fun s t => s.1 < t.1

theorem has_iff {l : List Qu.T} {w : Int} : Qu.has l w = true ↔ ∃ k, (w, k) ∈ l := by
  unfold Qu.has Qu.tg
  rw [List.any_eq_true]
  constructor
  · rintro ⟨t, ht, h⟩
    have h' : t.1 = w := by simpa using h
    exact ⟨t.2, by rw [← h']; exact ht⟩
  · rintro ⟨k, hk⟩
    exact ⟨_, hk, by simp⟩

theorem has_false_iff {l : List Qu.T} {w : Int} : Qu.has l w = false ↔ ∀ k, (w, k) ∉ l := by
  rw [← Bool.not_eq_true, has_iff]
  simp

theorem uniq {l : List Qu.T} (h : Inc l) {w a b : Int} (ha : (w, a) ∈ l) (hb : (w, b) ∈ l) : a = b := by
  obtain ⟨i, hi, ei⟩ := List.getElem_of_mem ha
  obtain ⟨j, hj, ej⟩ := List.getElem_of_mem hb
  rcases Nat.lt_trichotomy i j with hij | rfl | hij
  · have := (List.pairwise_iff_getElem.1 h) i j hi hj hij
    rw [ei, ej] at this
    exact absurd this (Int.lt_irrefl _)
  · rw [ei] at ej
    exact congrArg Prod.snd ej
  · have := (List.pairwise_iff_getElem.1 h) j i hj hi hij
    rw [ei, ej] at this
    exact absurd this (Int.lt_irrefl _)

theorem key_of {l : List Qu.T} (h : Inc l) {w k : Int} (hm : (w, k) ∈ l) : key l w = k := by
  unfold key
  cases e : l.find? (Qu.tg w) with
  | none =>
    have := List.find?_eq_none.1 e _ hm
    simp [Qu.tg] at this
  | some t =>
    have h1 := List.mem_of_find?_eq_some e
    have h2 : t.1 = w := by simpa [Qu.tg] using List.find?_some e
    have h3 : (w, t.2) ∈ l := by rw [← h2]; exact h1
    exact uniq h h3 hm

theorem key_none {l : List Qu.T} {w : Int} (h : Qu.has l w = false) : key l w = 0 := by
  unfold key
  have : l.find? (Qu.tg w) = none := by
    rw [List.find?_eq_none]
    intro t ht hh
    have h' : t.1 = w := by simpa [Qu.tg] using hh
    exact has_false_iff.1 h t.2 (by rw [← h']; exact ht)
  rw [this]

theorem kd_iff {l : List Qu.T} (h : Inc l) {w k : Int} : kd l w k = true ↔ (w, k) ∈ l := by
  unfold kd
  rw [Bool.and_eq_true, has_iff]
  constructor
  · rintro ⟨⟨k', hk'⟩, he⟩
    have : key l w = k' := key_of h hk'
    have e : k' = k := by rw [← this]; simpa using he
    rw [← e]; exact hk'
  · intro hm
    exact ⟨⟨k, hm⟩, by rw [key_of h hm]; simp⟩

theorem mem_cut {l : List Qu.T} {w : Int} {t : Qu.T} : t ∈ cut l w ↔ t ∈ l ∧ t.1 ≠ w := by
  unfold cut
  rw [List.mem_filter]
  simp [Qu.tg]

theorem inc_cut {l : List Qu.T} (h : Inc l) (w : Int) : Inc (cut l w) := List.Pairwise.sublist List.filter_sublist h

theorem cut_self {l : List Qu.T} {w : Int} (h : Qu.has l w = false) : cut l w = l := by
  unfold cut
  rw [List.filter_eq_self]
  intro t ht
  have : ¬ t.1 = w := fun e => has_false_iff.1 h t.2 (by rw [← e]; exact ht)
  simp [Qu.tg, this]

theorem Good.len8 {r : RV} (h : Good r) : r.regs.length ≤ 8 := h.len

theorem all_ne {k : Int} (h : all k = true) : k ≠ 0 := by
  rintro rfl
  exact absurd h (by decide)

theorem kindB_ne {k : Int} (h : kindB k = true) : k ≠ 0 := by
  rintro rfl
  exact absurd h (by decide)

theorem Good.genUp {r : RV} (h : Good r) (hg : r.gen < 2147483647) : Good ⟨r.gen + 1, r.regs, r.kind, r.holder⟩ :=
  ⟨by have := h.gen0; show 0 ≤ r.gen + 1; omega, by show r.gen + 1 ≤ 2147483647; omega, h.one, h.inc, h.kind, h.none, h.some, h.held⟩

theorem Good.regs_sub {r : RV} (h : Good r) {g : Int} {l : List Qu.T} (hs : l.Sublist r.regs) (hg0 : 0 ≤ g) (hg1 : g ≤ 2147483647) : Good ⟨g, l, 0, 0⟩ :=
  ⟨hg0, hg1, fun t ht => h.one t (hs.subset ht), List.Pairwise.sublist hs h.inc, Or.inr rfl, fun _ => rfl, fun h => (nomatch (show false = true from h)), fun h => absurd rfl h⟩

theorem Good.out {r : RV} (h : Good r) (w : Int) : Good (out r w) := by
  unfold Rg.out
  have hs : (cut r.regs w).Sublist r.regs := List.filter_sublist
  by_cases he : ends r.regs r.kind r.holder w = true
  · rw [if_pos he]
    exact h.regs_sub hs h.gen0 h.gen1
  · rw [if_neg he]
    refine ⟨h.gen0, h.gen1, fun t ht => h.one t (hs.subset ht), List.Pairwise.sublist hs h.inc, h.kind, h.none, fun ha => ?_, fun h0 ha => ?_⟩
    · show cut r.regs w ≠ []
      have ha' : all r.kind = true := ha
      intro hc
      apply he
      unfold ends hasR
      rw [if_neg (all_ne ha'), if_pos ha', hc, ha']
      have hne := h.some ha'
      have : Qu.has r.regs w = true := by
        cases hw : Qu.has r.regs w with
        | true => rfl
        | false => rw [cut_self hw] at hc; exact absurd hc hne
      rw [this]; rfl
    · have ha' : all r.kind = false := ha
      have h0' : r.kind ≠ 0 := h0
      have hh := h.held h0' ha'
      obtain ⟨k, hk⟩ := has_iff.1 hh
      show Qu.has (cut r.regs w) r.holder = true
      rw [has_iff]
      refine ⟨k, mem_cut.2 ⟨hk, ?_⟩⟩
      show r.holder ≠ w
      intro e
      apply he
      unfold ends hasR
      rw [if_neg h0', if_neg (by rw [ha']; decide), ha', e]
      simp

theorem out_gen (r : RV) (w : Int) : (out r w).gen = r.gen := by unfold out; split <;> rfl
theorem out_regs (r : RV) (w : Int) : (out r w).regs = cut r.regs w := by unfold out; split <;> rfl

theorem setK_fst (l : List Qu.T) (w k : Int) : (setK l w k).map Prod.fst = l.map Prod.fst := by
  unfold setK
  rw [List.map_map]
  apply List.map_congr_left
  intro t _
  show (if Qu.tg w t = true then (t.1, k) else t).1 = t.1
  split <;> rfl

theorem inc_of_fst {l m : List Qu.T} (h : m.map Prod.fst = l.map Prod.fst) (hi : Inc l) : Inc m := by
  have h1 : (l.map Prod.fst).Pairwise (· < ·) := List.pairwise_map.2 hi
  rw [← h] at h1
  exact List.pairwise_map.1 h1

theorem has_of_fst {l m : List Qu.T} (h : m.map Prod.fst = l.map Prod.fst) (w : Int) : Qu.has m w = Qu.has l w := by
  have key : ∀ l : List Qu.T, Qu.has l w = (l.map Prod.fst).any fun x => x == w := fun l => by
    unfold Qu.has
    rw [List.any_map]
    rfl
  rw [key, key, h]

theorem Good.setK {r : RV} (h : Good r) {w k : Int} (h1 : 1 ≤ k) (h2 : k ≤ 1000) : Good ⟨r.gen, Rg.setK r.regs w k, r.kind, r.holder⟩ := by
  refine ⟨h.gen0, h.gen1, fun t ht => ?_, inc_of_fst (setK_fst _ _ _) h.inc, h.kind, h.none, fun ha hc => ?_, fun h0 ha => ?_⟩
  · unfold Rg.setK at ht
    obtain ⟨u, hu, rfl⟩ := List.mem_map.1 ht
    have := h.one u hu
    split
    · exact ⟨this.1, this.2.1, h1, h2⟩
    · exact this
  · unfold Rg.setK at hc
    exact h.some ha (List.map_eq_nil_iff.1 hc)
  · show Qu.has (Rg.setK r.regs w k) r.holder = true
    rw [has_of_fst (setK_fst _ _ _)]
    exact h.held h0 ha

theorem mem_ins {l : List Qu.T} {w k : Int} {t : Qu.T} : t ∈ ins l w k ↔ t ∈ l ∨ t = (w, k) := by
  unfold ins
  rw [List.mem_append, List.mem_cons, List.mem_filter, List.mem_filter]
  constructor
  · rintro (⟨h, -⟩ | h | ⟨h, -⟩)
    · exact Or.inl h
    · exact Or.inr h
    · exact Or.inl h
  · rintro (h | h)
    · by_cases hw : t.1 < w
      · exact Or.inl ⟨h, by simpa using hw⟩
      · exact Or.inr (Or.inr ⟨h, by simp only [decide_eq_true_eq]; omega⟩)
    · exact Or.inr (Or.inl h)

theorem inc_ins {l : List Qu.T} (h : Inc l) {w k : Int} (hw : Qu.has l w = false) : Inc (ins l w k) := by
  unfold ins Inc
  rw [List.pairwise_append, List.pairwise_cons]
  refine ⟨h.filter _, ⟨fun t ht => ?_, h.filter _⟩, fun s hs t ht => ?_⟩
  · rw [List.mem_filter] at ht
    have h1 : w ≤ t.1 := by simpa using ht.2
    have h2 : t.1 ≠ w := fun e => has_false_iff.1 hw t.2 (by rw [← e]; exact ht.1)
    show w < t.1
    omega
  · rw [List.mem_filter] at hs
    have h1 : s.1 < w := by simpa using hs.2
    rcases List.mem_cons.1 ht with rfl | ht
    · exact h1
    · rw [List.mem_filter] at ht
      have h2 : w ≤ t.1 := by simpa using ht.2
      show s.1 < t.1
      omega

theorem cut_ins {l : List Qu.T} (h : Inc l) {w k : Int} (hw : Qu.has l w = false) : cut (ins l w k) w = l := by
  have e1 : cut (ins l w k) w = l.filter (fun t => decide (t.1 < w)) ++ l.filter (fun t => decide (w ≤ t.1)) := by
    unfold ins
    have a1 : ∀ (p : Qu.T → Bool), cut (l.filter p) w = l.filter p := fun p => cut_self (has_false_iff.2 fun k hk => has_false_iff.1 hw k (List.mem_filter.1 hk).1)
    unfold cut
    rw [List.filter_append, List.filter_cons, if_neg (by simp [Qu.tg])]
    have b1 := a1 (fun t => decide (t.1 < w))
    have b2 := a1 (fun t => decide (w ≤ t.1))
    unfold cut at b1 b2
    rw [b1, b2]
  rw [e1]
  clear e1 hw
  induction l with
  | nil => rfl
  | cons t l ih =>
    obtain ⟨h1, h2⟩ := List.pairwise_cons.1 h
    by_cases ht : t.1 < w
    · rw [List.filter_cons, if_pos (by simpa using ht), List.filter_cons, if_neg (by simp only [decide_eq_true_eq]; omega), List.cons_append, ih h2]
    · have a1 : (t :: l).filter (fun t => decide (t.1 < w)) = [] := by
        rw [List.filter_eq_nil_iff]
        intro u hu hh
        have hh' : u.1 < w := by simpa using hh
        rcases List.mem_cons.1 hu with rfl | hu
        · exact ht hh'
        · have := h1 u hu; omega
      have a2 : (t :: l).filter (fun t => decide (w ≤ t.1)) = t :: l := by
        rw [List.filter_eq_self]
        intro u hu
        simp only [decide_eq_true_eq]
        rcases List.mem_cons.1 hu with rfl | hu
        · omega
        · have := h1 u hu; omega
      rw [a1, a2, List.nil_append]

theorem Good.ins {r : RV} (h : Good r) {w k : Int} (hw0 : 0 ≤ w) (hw7 : w ≤ 7) (hn : Qu.has r.regs w = false) (h1 : 1 ≤ k) (h2 : k ≤ 1000) : Good ⟨r.gen, Rg.ins r.regs w k, r.kind, r.holder⟩ := by
  refine ⟨h.gen0, h.gen1, fun t ht => ?_, inc_ins h.inc hn, h.kind, h.none, fun _ hc => ?_, fun h0 ha => ?_⟩
  · rcases mem_ins.1 ht with ht | rfl
    · exact h.one t ht
    · exact ⟨hw0, hw7, h1, h2⟩
  · have hc' : Rg.ins r.regs w k = [] := hc
    have : (w, k) ∈ Rg.ins r.regs w k := mem_ins.2 (Or.inr rfl)
    rw [hc'] at this
    cases this
  · obtain ⟨k', hk'⟩ := has_iff.1 (h.held h0 ha)
    exact has_iff.2 ⟨k', mem_ins.2 (Or.inl hk')⟩

theorem Good.reg {r : RV} (h : Good r) (hg : r.gen < 2147483647) {w k : Int} (hw0 : 0 ≤ w) (hw7 : w ≤ 7) (h1 : 0 ≤ k) (h2 : k ≤ 1000) : Good (regR r w k) := by
  unfold regR
  by_cases h0 : k = 0
  · rw [if_pos h0]; exact (h.genUp hg).out w
  · rw [if_neg h0]
    cases hh : Qu.has r.regs w with
    | true => rw [if_pos rfl]; exact (h.genUp hg).setK (by omega) h2
    | false => rw [if_neg (by decide)]; exact (h.genUp hg).ins hw0 hw7 hh (by omega) h2

theorem reg_gen (r : RV) (w k : Int) : (regR r w k).gen = r.gen + 1 := by
  unfold regR
  split
  · rw [out_gen]
  · split <;> rfl

theorem Good.res {r : RV} (h : Good r) {w q k : Int} (hk : kindB k = true) (h0 : resE r w q k = 0) : Good (resR r w k) := by
  unfold resE at h0
  cases hd : kd r.regs w q with
  | false => rw [hd, if_pos rfl] at h0; cases h0
  | true =>
    rw [hd, if_neg (by decide)] at h0
    have hm := (kd_iff h.inc).1 hd
    have hhas : Qu.has r.regs w = true := has_iff.2 ⟨_, hm⟩
    unfold resR
    refine ⟨h.gen0, h.gen1, h.one, h.inc, Or.inl hk, fun hz => ?_, fun _ hc => ?_, fun _ ha => ?_⟩
    · rcases hz with hz | hz
      · exact absurd hz (kindB_ne hk)
      · have hz' : all k = true := hz
        show (if all k = true then r.holder else w) = 0
        rw [if_pos hz']
        by_cases hr : r.kind = 0
        · exact h.none (Or.inl hr)
        · rw [if_neg hr] at h0
          split at h0
          · rename_i h3; exact h.none (Or.inr (by rw [h3.2]; exact hz'))
          · cases h0
    · have hc' : r.regs = [] := hc
      rw [hc'] at hm; cases hm
    · show Qu.has r.regs (if all k = true then r.holder else w) = true
      have ha' : all k = false := ha
      rw [ha', if_neg (by decide)]; exact hhas

theorem Good.rel {r : RV} (h : Good r) (w : Int) : Good (relR r w) := by
  unfold relR
  split
  · exact h
  · exact h.regs_sub (List.Sublist.refl _) h.gen0 h.gen1

theorem Good.clr {r : RV} (h : Good r) (hg : r.gen < 2147483647) : Good (clrR r) := (h.genUp hg).regs_sub (r := ⟨r.gen + 1, r.regs, r.kind, r.holder⟩) (List.nil_sublist _) (by have := h.gen0; omega) (by omega)

theorem rel_gen (r : RV) (w : Int) : (relR r w).gen = r.gen := by unfold relR; split <;> rfl

/-- What holds along Preempt's loop. -/
theorem ploop_inv {r : RV} (h : Good r) (hg : r.gen < 2147483647) {w q : Int} (o : Int) (hm : (w, q) ∈ r.regs) (l : List Qu.T) :
    Good (ploop r w o l).1 ∧ (ploop r w o l).1.gen = r.gen + 1 ∧ (w, q) ∈ (ploop r w o l).1.regs := by
  unfold ploop
  suffices ∀ s : RV × Bool, Good s.1 ∧ s.1.gen = r.gen + 1 ∧ (w, q) ∈ s.1.regs → Good (l.foldl (pstep r w o) s).1 ∧ (l.foldl (pstep r w o) s).1.gen = r.gen + 1 ∧ (w, q) ∈ (l.foldl (pstep r w o) s).1.regs from this _ ⟨h.genUp hg, rfl, hm⟩
  induction l with
  | nil => intro s hs; exact hs
  | cons t l ih =>
    intro s hs
    rw [List.foldl_cons]
    apply ih
    unfold pstep
    split
    · show Good (if t.1 = w then s.1 else Rg.out s.1 t.1) ∧ (if t.1 = w then s.1 else Rg.out s.1 t.1).gen = _ ∧ (w, q) ∈ (if t.1 = w then s.1 else Rg.out s.1 t.1).regs
      split
      · exact hs
      · rename_i hne
        refine ⟨hs.1.out _, by rw [out_gen]; exact hs.2.1, ?_⟩
        rw [out_regs]
        exact mem_cut.2 ⟨hs.2.2, fun e => hne e.symm⟩
    · exact hs

theorem pstep_sub (r : RV) (w o : Int) (s : RV × Bool) (t u : Qu.T) (h : u ∈ (pstep r w o s t).1.regs) : u ∈ s.1.regs := by
  unfold pstep at h
  split at h
  · have h' : u ∈ (if t.1 = w then s.1 else Rg.out s.1 t.1).regs := h
    split at h'
    · exact h'
    · rw [out_regs] at h'; exact (mem_cut.1 h').1
  · exact h

theorem fold_sub (r : RV) (w o : Int) (l : List Qu.T) : ∀ (s : RV × Bool) (u : Qu.T), u ∈ (l.foldl (pstep r w o) s).1.regs → u ∈ s.1.regs := by
  induction l with
  | nil => intro s u h; exact h
  | cons t l ih => intro s u h; exact pstep_sub _ _ _ _ _ _ (ih _ _ h)

theorem fold_gone (r : RV) (w o : Int) (l : List Qu.T) : ∀ (s : RV × Bool) (t : Qu.T), t ∈ l → t.2 = o → t.1 ≠ w → Qu.has (l.foldl (pstep r w o) s).1.regs t.1 = false := by
  induction l with
  | nil => intro s t h; cases h
  | cons x l ih =>
    intro s t ht h1 h2
    rcases List.mem_cons.1 ht with rfl | ht
    · rw [List.foldl_cons, has_false_iff]
      intro k hk
      have h3 := fold_sub r w o l _ _ hk
      unfold pstep at h3
      rw [if_pos h1] at h3
      have h3' : (t.1, k) ∈ (if t.1 = w then s.1 else Rg.out s.1 t.1).regs := h3
      rw [if_neg h2, out_regs] at h3'
      exact (mem_cut.1 h3').2 rfl
    · exact ih _ _ ht h1 h2

theorem ploop_snoc (r : RV) (w o : Int) (l : List Qu.T) (t : Qu.T) : ploop r w o (l ++ [t]) = pstep r w o (ploop r w o l) t := by unfold ploop; rw [List.foldl_append]; rfl

/-- Did one that is preempted hold it alone? -/
theorem ploop_took (r : RV) (w o : Int) (l : List Qu.T) : (ploop r w o l).2 = l.any fun t => (t.2 == o) && (!all r.kind && hasR r.regs r.kind r.holder t.1) := by
  unfold ploop
  suffices ∀ s : RV × Bool, (l.foldl (pstep r w o) s).2 = (s.2 || l.any fun t => (t.2 == o) && (!all r.kind && hasR r.regs r.kind r.holder t.1)) from by rw [this]; rfl
  induction l with
  | nil => intro s; simp
  | cons t l ih =>
    intro s
    rw [List.foldl_cons, ih, List.any_cons]
    unfold pstep
    by_cases h : t.2 = o
    · rw [if_pos h]
      have e : (t.2 == o) = true := by simpa using h
      rw [e, Bool.true_and, ← Bool.or_assoc]
    · rw [if_neg h]
      have e : (t.2 == o) = false := by simpa using h
      rw [e, Bool.false_and, Bool.false_or]

theorem pre_regs (r : RV) (w o k : Int) : (preR r w o k).regs = (ploop r w o r.regs).1.regs := by unfold preR; split <;> rfl
theorem pre_gen0 (r : RV) (w o k : Int) : (preR r w o k).gen = (ploop r w o r.regs).1.gen := by unfold preR; split <;> rfl

theorem pre_kd {r : RV} {w q o : Int} (h0 : preE r w q o = 0) : kd r.regs w q = true := by
  unfold preE at h0
  split at h0
  · cases h0
  · rename_i h; simpa using h

theorem Good.pre {r : RV} (h : Good r) (hg : r.gen < 2147483647) {w q o k : Int} (hk : kindB k = true) (h0 : preE r w q o = 0) : Good (preR r w o k) := by
  have hm := (kd_iff h.inc).1 (pre_kd h0)
  obtain ⟨i1, i2, i3⟩ := ploop_inv h hg o hm r.regs
  unfold preR
  split
  · refine ⟨i1.gen0, i1.gen1, i1.one, i1.inc, Or.inl hk, fun hz => ?_, fun _ hc => ?_, fun _ ha => ?_⟩
    · rcases hz with hz | hz
      · exact absurd hz (kindB_ne hk)
      · show (if all k = true then 0 else w) = 0
        rw [if_pos hz]
    · have hc' : (ploop r w o r.regs).1.regs = [] := hc
      rw [hc'] at i3; cases i3
    · have ha' : all k = false := ha
      show Qu.has _ (if all k = true then 0 else w) = true
      rw [ha', if_neg (by decide)]
      exact has_iff.2 ⟨_, i3⟩
  · exact i1

/-- May a hand read, or write? -/
def mayB (r : RV) (w : Int) (wr : Bool) : Bool :=
  if r.kind = 0 then true
  else if r.kind = 1 then !wr || hasR r.regs r.kind r.holder w
  else if r.kind = 3 then hasR r.regs r.kind r.holder w
  else if r.kind = 5 ∨ r.kind = 7 then !wr || Qu.has r.regs w
  else Qu.has r.regs w

/-- A kind by its number. -/
def kinds (k : Int) : Int := [1, 3, 5, 6, 7, 8].getD (wi k 6) 1

theorem kinds_ok (k : Int) : kindB (kinds k) = true := by
  have h := wi_lt k 6 (by omega)
  unfold kinds
  generalize wi k 6 = x at *
  match x, h with
  | 0, _ | 1, _ | 2, _ | 3, _ | 4, _ | 5, _ => decide

/-- What a turn answers, and does. -/
def tE (r : RV) (f : Nat → Int) : Nat :=
  match wi (f 0) 5 with
  | 0 => regE r (wi (f 1) 8) (wi (f 2) 4)
  | 1 => resE r (wi (f 1) 8) (wi (f 2) 4) (kinds (f 3))
  | 2 => relE r (wi (f 1) 8) (wi (f 2) 4) (kinds (f 3))
  | 3 => clrE r (wi (f 1) 8) (wi (f 2) 4)
  | _ => preE r (wi (f 1) 8) (wi (f 2) 4) (wi (f 3) 4)
def tR (r : RV) (f : Nat → Int) : RV :=
  match wi (f 0) 5 with
  | 0 => regR r (wi (f 1) 8) (wi (f 3) 4)
  | 1 => resR r (wi (f 1) 8) (kinds (f 3))
  | 2 => relR r (wi (f 1) 8)
  | 3 => clrR r
  | _ => preR r (wi (f 1) 8) (wi (f 3) 4) (kinds (f 4))
/-- What stands behind a turn. -/
def tn (r : RV) (f : Nat → Int) : RV := if tE r f = 0 then tR r f else r

theorem t_good {r : RV} (h : Good r) (hg : r.gen < 2147483647) (f : Nat → Int) (h0 : tE r f = 0) : Good (tR r f) ∧ r.gen ≤ (tR r f).gen ∧ (tR r f).gen ≤ r.gen + 1 := by
  unfold tE at h0
  unfold tR
  have h8 := wi_lt (f 1) 8 (by omega)
  have h4 := wi_lt (f 3) 4 (by omega)
  split at h0
  · exact ⟨h.reg hg (by omega) (by omega) (by omega) (by omega), by rw [reg_gen]; omega, by rw [reg_gen]; omega⟩
  · exact ⟨h.res (kinds_ok _) h0, Int.le_refl _, by show r.gen ≤ r.gen + 1; omega⟩
  · exact ⟨h.rel _, by rw [rel_gen]; exact Int.le_refl _, by rw [rel_gen]; omega⟩
  · exact ⟨h.clr hg, by show r.gen ≤ r.gen + 1; omega, Int.le_refl _⟩
  · have hi := (ploop_inv h hg (wi (f 3) 4) ((kd_iff h.inc).1 (pre_kd h0)) r.regs).2.1
    exact ⟨h.pre hg (kinds_ok _) h0, by rw [pre_gen0, hi]; omega, by rw [pre_gen0, hi]; omega⟩

theorem tn_good {r : RV} (h : Good r) {n : Nat} (hg : r.gen ≤ n) (hn : n < 1000) (f : Nat → Int) : Good (tn r f) ∧ (tn r f).gen ≤ (n + 1 : Nat) := by
  unfold tn
  split
  · rename_i h0
    obtain ⟨a, b, c⟩ := t_good h (by omega) f h0
    exact ⟨a, by omega⟩
  · exact ⟨h, by omega⟩

end Go.Proofs.YtenkdpogdfcbgaaGreat.Rg
