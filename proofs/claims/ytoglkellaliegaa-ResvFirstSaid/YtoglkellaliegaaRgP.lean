/- Reservations, plain facts: what is computed. No program in sight. -/
import Derived.Test.YtoglkellaliegaaQuP
namespace Go.Proofs.Ytoglkellaliegaa.Rg

/-- A reservation, plain. -/
structure RV where
  gen : Int
  regs : List Qu.T
  kind : Int
  holder : Int

def zero : RV := ⟨0, [], 0, 0⟩
def all (k : Int) : Bool := k == 7 || k == 8
def kindB (k : Int) : Bool := k == 1 || (k == 3 || (decide (5 ≤ k) && decide (k ≤ 8)))
def who (n : Int) : Bool := decide (0 ≤ n) && decide (n ≤ 7)
def kg (k : Int) (t : Qu.T) : Bool := t.2 == k

/-- The key of a hand, or 0. -/
def key (l : List Qu.T) (w : Int) : Int := match l.find? (Qu.tg w) with | some t => t.2 | none => 0

/-- Is the reservation a hand's? -/
def hasR (l : List Qu.T) (k h w : Int) : Bool := if k = 0 then false else if all k = true then Qu.has l w else h == w

/-- Registrations without a hand. -/
def cut (l : List Qu.T) (w : Int) : List Qu.T := l.filter fun t => !Qu.tg w t

/-- Is the reservation over when a hand goes? -/
def ends (l : List Qu.T) (k h w : Int) : Bool := hasR l k h w && (!all k || decide ((cut l w) = []))

def out (r : RV) (w : Int) : RV :=
  if ends r.regs r.kind r.holder w = true then ⟨r.gen, cut r.regs w, 0, 0⟩ else ⟨r.gen, cut r.regs w, r.kind, r.holder⟩

/-- A key is set. -/
def setK (l : List Qu.T) (w k : Int) : List Qu.T := l.map fun t => if Qu.tg w t = true then (t.1, k) else t

/-- A hand is put in its place. -/
def ins (l : List Qu.T) (w k : Int) : List Qu.T := l.filter (fun t => decide (t.1 < w)) ++ (w, k) :: l.filter (fun t => decide (w ≤ t.1))

def regE (r : RV) (w old : Int) : Nat := if key r.regs w = old then 0 else 9
def regR (r : RV) (w k : Int) : RV :=
  if k = 0 then out ⟨r.gen + 1, r.regs, r.kind, r.holder⟩ w
  else if Qu.has r.regs w = true then ⟨r.gen + 1, setK r.regs w k, r.kind, r.holder⟩
  else ⟨r.gen + 1, ins r.regs w k, r.kind, r.holder⟩

/-- Is a hand there, with a key? -/
def kd (l : List Qu.T) (w k : Int) : Bool := Qu.has l w && (key l w == k)

def resE (r : RV) (w key k : Int) : Nat := if kd r.regs w key = false then 9 else if r.kind = 0 then 0 else if hasR r.regs r.kind r.holder w = true ∧ r.kind = k then 0 else 9
def resR (r : RV) (w k : Int) : RV := ⟨r.gen, r.regs, k, if all k = true then r.holder else w⟩

def relE (r : RV) (w key k : Int) : Nat := if kd r.regs w key = false then 9 else if hasR r.regs r.kind r.holder w = false then 0 else if r.kind = k then 0 else 3
def relR (r : RV) (w : Int) : RV := if hasR r.regs r.kind r.holder w = false then r else ⟨r.gen, r.regs, 0, 0⟩

def clrE (r : RV) (w key : Int) : Nat := if kd r.regs w key = false then 9 else 0
def clrR (r : RV) : RV := ⟨r.gen + 1, [], 0, 0⟩

/-- One step of Preempt. -/
def pstep (r : RV) (w o : Int) (s : RV × Bool) (t : Qu.T) : RV × Bool :=
  if t.2 = o then (if t.1 = w then s.1 else out s.1 t.1, s.2 || (!all r.kind && hasR r.regs r.kind r.holder t.1)) else s
def ploop (r : RV) (w o : Int) (l : List Qu.T) : RV × Bool := l.foldl (pstep r w o) (⟨r.gen + 1, r.regs, r.kind, r.holder⟩, false)
def preE (r : RV) (w key o : Int) : Nat := if kd r.regs w key = false then 9 else if o = 0 then 1 else if r.regs.any (kg o) = false then 4 else 0
def preR (r : RV) (w o k : Int) : RV :=
  if (ploop r w o r.regs).2 = true then ⟨(ploop r w o r.regs).1.gen, (ploop r w o r.regs).1.regs, k, if all k = true then 0 else w⟩
  else (ploop r w o r.regs).1

/-- What is right. -/
structure Good (r : RV) : Prop where
  gen0 : 0 ≤ r.gen
  gen1 : r.gen ≤ 1000
  one : ∀ t, t ∈ r.regs → 0 ≤ t.1 ∧ t.1 ≤ 7 ∧ 1 ≤ t.2 ∧ t.2 ≤ 1000
  inc : r.regs.Pairwise fun s t => s.1 < t.1
  kind : kindB r.kind = true ∨ r.kind = 0
  none : r.kind = 0 ∨ all r.kind = true → r.holder = 0
  some : all r.kind = true → r.regs ≠ []
  held : r.kind ≠ 0 → all r.kind = false → Qu.has r.regs r.holder = true

theorem length_le_of_inc {l : List Qu.T} (h : l.Pairwise fun s t => s.1 < t.1) {a b : Int} (hb : ∀ t, t ∈ l → a ≤ t.1 ∧ t.1 < b) (hab : a ≤ b) : (l.length : Int) ≤ b - a := by
  induction l generalizing a with
  | nil => simp; omega
  | cons t l ih =>
    obtain ⟨h1, h2⟩ := List.pairwise_cons.1 h
    have ht := hb t (List.mem_cons_self ..)
    have := ih h2 (a := t.1 + 1) (fun u hu => ⟨by have := h1 u hu; omega, (hb u (List.mem_cons_of_mem _ hu)).2⟩) (by omega)
    rw [List.length_cons]
    omega

theorem Good.len {r : RV} (h : Good r) : r.regs.length ≤ 8 := by
  have := length_le_of_inc h.inc (a := 0) (b := 8) (fun t ht => by have := h.one t ht; omega) (by omega)
  omega

theorem good_zero : Good zero := ⟨by decide, by decide, by simp [zero], by simp [zero], Or.inr rfl, fun _ => rfl, by simp [zero, all], by simp [zero]⟩

end Go.Proofs.Ytoglkellaliegaa.Rg
