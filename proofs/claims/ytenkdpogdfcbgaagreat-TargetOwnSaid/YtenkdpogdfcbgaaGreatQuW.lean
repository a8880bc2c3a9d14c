import Derived.Test.YtenkdpogdfcbgaaGreatQuP
import Derived.Test.YtenkdpogdfcbgaaGreatUse
import Derived.Deep.LoopGhost
import Derived.Lib.Hide
import Derived.Shelf.Abstract
import Derived.Below
import Derived.Laws.OwnMore
import Derived.Deep.AppendLies
import Derived.ArgAppend
import Derived.Lib.AppendZeros
import Derived.Lib.Walk
import Derived.Lib.SliceRun
import Derived.Laws.AppendOwnNone
import Derived.Deep.RegionWith
import Derived.StillTailTactics
/- Walks: queue.one, the closures, slices.IndexFunc and slices.ContainsFunc at tasks. -/
namespace Go.Proofs.YtenkdpogdfcbgaaGreat.Rs
open Go.RowKit

/-- A predicate's function value: what it answers of the tasks, wherever it is asked behind the beginning. -/
def PredT (w : World) (g : FuncId) (lb : Array Value) (p : Qu.T → Bool) : Prop :=
  ∀ (W : World) (a b : Int), Below w.heap.size w W → Calls Tryz.prog g (#[.agg #[.int .i64 a, .int .i64 b]] ++ lb) W fun e w' => e = .returned (.bool (p (a, b))) ∧ Below w.heap.size w w'

/-- Tasks that lie there. -/
def TasksAt (w : World) (a : Option Addr) (ts : List Qu.T) : Prop :=
  ts ≠ [] → ∃ g o, a = some ⟨g, o, none⟩ ∧ g < w.heap.size ∧ ∀ (j : Nat) (t : Qu.T), ts[j]? = some t → w.cell? ⟨g, o + j * 2, none⟩ = some (.int .i64 t.1) ∧ w.cell? ⟨g, o + j * 2 + 1, none⟩ = some (.int .i64 t.2)

theorem TasksAt.keep {w w' : World} {a : Option Addr} {ts : List Qu.T} (h : TasksAt w a ts) (hb : Below w.heap.size w w') : TasksAt w' a ts := fun h0 => by
  obtain ⟨g, o, rfl, hg, hc⟩ := h h0
  refine ⟨g, o, rfl, Nat.lt_of_lt_of_le hg hb.size, fun j t hj => ?_⟩
  rw [hb.cell (p := ⟨g, o + j * 2, none⟩) hg, hb.cell (p := ⟨g, o + j * 2 + 1, none⟩) hg]
  exact hc j t hj

theorem TasksAt.take {w : World} {a : Option Addr} {ts : List Qu.T} (h : TasksAt w a ts) (n : Nat) : TasksAt w a (ts.take n) := fun h0 => by
  have hne : ts ≠ [] := by rintro rfl; simp at h0
  obtain ⟨g, o, rfl, hg, hc⟩ := h hne
  refine ⟨g, o, rfl, hg, fun j t hj => hc j t ?_⟩
  rw [List.getElem?_take] at hj
  split at hj
  · exact hj
  · cases hj

/-- The index that IndexFunc answers. -/
def idx (p : Qu.T → Bool) (ts : List Qu.T) : Int := match ts.findIdx? p with | some i => (i : Int) | none => -1

theorem idx_hit {p : Qu.T → Bool} {ts : List Qu.T} {k : Nat} (hk : k < ts.length) (h : p ts[k] = true) (hb : ∀ j (hj : j < k), p (ts[j]'(by omega)) = false) : idx p ts = (k : Int) := by
  have : ts.findIdx? p = some k := by
    rw [List.findIdx?_eq_some_iff_getElem]
    exact ⟨hk, h, fun j hj hh => by rw [hb j hj] at hh; cases hh⟩
  unfold idx
  rw [this]

theorem idx_miss {p : Qu.T → Bool} {ts : List Qu.T} (hb : ∀ j (hj : j < ts.length), p ts[j] = false) : idx p ts = -1 := by
  have : ts.findIdx? p = none := by
    rw [List.findIdx?_eq_none_iff]
    intro x hx
    obtain ⟨j, hj, rfl⟩ := List.getElem_of_mem hx
    exact hb j hj
  unfold idx
  rw [this]

theorem idx_any (p : Qu.T → Bool) (ts : List Qu.T) : decide (0 ≤ idx p ts) = ts.any p := by
  unfold idx
  cases h : ts.findIdx? p with
  | none =>
    rw [List.findIdx?_eq_none_iff] at h
    have : ts.any p = false := by rw [List.any_eq_false]; intro x hx; rw [h x hx]; decide
    rw [this]; rfl
  | some i =>
    obtain ⟨hi, h1, -⟩ := List.findIdx?_eq_some_iff_getElem.1 h
    have : ts.any p = true := List.any_eq_true.2 ⟨_, List.getElem_mem hi, h1⟩
    rw [this]
    exact decide_eq_true (by show (0 : Int) ≤ (i : Int); omega)

end Go.Proofs.YtenkdpogdfcbgaaGreat.Rs

/- Walks: queue.Check, queue.may, slices.Clone at tasks. -/
namespace Go.Proofs.YtenkdpogdfcbgaaGreat.Rs
open Go.RowKit

/-- Tasks as values. -/
def tv : List Qu.T → List Value
  | [] => []
  | t :: l => .int .i64 t.1 :: .int .i64 t.2 :: tv l

theorem tv_app (l m : List Qu.T) : tv (l ++ m) = tv l ++ tv m := by
  induction l with
  | nil => rfl
  | cons t l ih => rw [List.cons_append, tv, ih]; rfl

theorem tv_length (l : List Qu.T) : (tv l).length = l.length * 2 := by
  induction l with
  | nil => rfl
  | cons t l ih => rw [tv, List.length_cons, List.length_cons, ih, List.length_cons]; omega

theorem tv_one (l : List Qu.T) : ∀ u ∈ tv l, u.oneCell' = true := by
  induction l with
  | nil => intro u hu; cases hu
  | cons t l ih =>
    intro u hu
    rw [tv] at hu
    rcases List.mem_cons.1 hu with rfl | hu
    · rfl
    · rcases List.mem_cons.1 hu with rfl | hu
      · rfl
      · exact ih u hu

theorem tv_get {l : List Qu.T} {j : Nat} {t : Qu.T} (h : l[j]? = some t) : (tv l)[j * 2]? = some (.int .i64 t.1) ∧ (tv l)[j * 2 + 1]? = some (.int .i64 t.2) := by
  induction l generalizing j with
  | nil => simp at h
  | cons x l ih =>
    cases j with
    | zero =>
      obtain rfl : x = t := by simpa using h
      exact ⟨rfl, rfl⟩
    | succ j =>
      have := ih (j := j) (by simpa using h)
      rw [show (j + 1) * 2 = j * 2 + 1 + 1 from by omega]
      exact this

theorem tv_split {l : List Qu.T} {j : Nat} {u : Value} (h : (tv l)[j]? = some u) : ∃ k t, l[k]? = some t ∧ (j = k * 2 ∧ u = .int .i64 t.1 ∨ j = k * 2 + 1 ∧ u = .int .i64 t.2) := by
  induction l generalizing j with
  | nil => simp [tv] at h
  | cons x l ih =>
    match j with
    | 0 => exact ⟨0, x, rfl, Or.inl ⟨rfl, by simpa [tv] using h.symm⟩⟩
    | 1 => exact ⟨0, x, rfl, Or.inr ⟨rfl, by simpa [tv] using h.symm⟩⟩
    | j + 2 =>
      obtain ⟨k, t, h1, h2⟩ := ih (j := j) (by simpa [tv] using h)
      refine ⟨k + 1, t, by simpa using h1, ?_⟩
      rcases h2 with ⟨rfl, h2⟩ | ⟨rfl, h2⟩
      · exact Or.inl ⟨by omega, h2⟩
      · exact Or.inr ⟨by omega, h2⟩

theorem addr_lit (g o j : Nat) : (⟨g, o, none⟩ : Addr).add j = ⟨g, o + j, none⟩ := by
  unfold Addr.add
  split
  · rename_i h; rw [h]; rfl
  · rfl

theorem TasksAt.cells {w : World} {g o : Nat} {ts : List Qu.T} (h : TasksAt w (some ⟨g, o, none⟩) ts) : ∀ j u, (tv ts)[j]? = some u → w.cell? ((⟨g, o, none⟩ : Addr).add j) = some u := by
  intro j u hu
  obtain ⟨k, t, hk, hh⟩ := tv_split hu
  have hne : ts ≠ [] := by rintro rfl; simp at hk
  obtain ⟨g', o', he, -, hc⟩ := h hne
  cases he
  obtain ⟨c1, c2⟩ := hc k t hk
  rw [addr_lit]
  rcases hh with ⟨rfl, rfl⟩ | ⟨rfl, rfl⟩
  · exact c1
  · rw [← Nat.add_assoc]; exact c2

/-- A row of the call's own holds these tasks. -/
theorem tasks_own {w : World} {base n : Nat} {e : TypeId} {v : Value} {ts : List Qu.T} (h : w.ownsRow base e 2 v n (tv ts)) (hn : ts.length = n) : ∃ a c, v = .slice a n c ∧ TasksAt w a ts ∧ n ≤ c ∧ c ≤ maxLen := by
  rcases h.2 with ⟨rfl, h0⟩ | ⟨g, cap, cur, rfl, hb, hh, hnc, hcm, h'⟩
  · have : ts = [] := by
      cases ts with
      | nil => rfl
      | cons t r => simp at hn; omega
    subst this
    exact ⟨none, 0, by rw [← hn]; rfl, fun h => absurd rfl h, by rw [← hn]; exact Nat.le_refl _, Nat.zero_le _⟩
  · have hlt : g < w.heap.size := by
      rcases Nat.lt_or_ge g w.heap.size with h | h
      · exact h
      · rw [Array.getElem?_eq_none h] at hh; cases hh
    refine ⟨_, cap, rfl, fun _ => ⟨g, 0, rfl, hlt, fun j t hj => ?_⟩, hnc, hcm⟩
    obtain ⟨k1, k2⟩ := tv_get hj
    have c1 := h.cells (g := g) rfl _ _ k1
    have c2 := h.cells (g := g) rfl _ _ k2
    rw [addr_lit] at c1 c2
    refine ⟨c1, ?_⟩
    rw [Nat.add_assoc]
    exact c2

theorem own_low {w : World} {b base : Nat} {e : TypeId} {size n : Nat} {v : Value} {xs : List Value} (h : w.ownsRow b e size v n xs) (hb : base ≤ b) : w.ownsRow base e size v n xs := by
  refine ⟨h.1, ?_⟩
  rcases h.2 with h2 | ⟨g, cap, cur, hv, hg, r⟩
  · exact Or.inl h2
  · exact Or.inr ⟨g, cap, cur, hv, Nat.le_trans hb hg, r⟩

theorem below_drewN {B : Nat} {a w : World} (h : Below B a w) (n : Nat) : Below B a (w.drewN n) := ⟨h.os, h.tape, h.output, h.size, h.block⟩

theorem good_check {ts : List Qu.T} (h : Qu.Good ts) {k : Nat} (hk : k < ts.length) : (ts.take k).any (Qu.tg ts[k].1) = false := by
  rw [List.any_eq_false]
  intro t ht hh
  obtain ⟨j, hj, rfl⟩ := List.getElem_of_mem ht
  have hj' : j < k := by rw [List.length_take] at hj; omega
  have := (List.pairwise_iff_getElem.1 h.nd) j k (by rw [List.length_map]; omega) (by rw [List.length_map]; omega) hj'
  simp [Qu.tg] at hh this
  exact this hh

end Go.Proofs.YtenkdpogdfcbgaaGreat.Rs

/- Walks: slices.Grow at nil, slices.Concat of two, queue.Add, queued. -/
namespace Go.Proofs.YtenkdpogdfcbgaaGreat.Rs
open Go.RowKit

/-- A slice of tasks, whole. -/
structure TSl (w : World) (a : Option Addr) (n c : Nat) (ts : List Qu.T) : Prop where
  at_ : TasksAt w a ts
  len : ts.length = n
  cap : n ≤ c
  max : c ≤ maxLen
  nil : a = none → n = 0 ∧ c = 0

theorem TSl.keep {w w' : World} {a : Option Addr} {n c : Nat} {ts : List Qu.T} (h : TSl w a n c ts) (hb : Below w.heap.size w w') : TSl w' a n c ts := ⟨h.at_.keep hb, h.len, h.cap, h.max, h.nil⟩

theorem TSl.cells {w : World} {x : Addr} {n c : Nat} {ts : List Qu.T} (h : TSl w (some x) n c ts) : ∀ j u, (tv ts)[j]? = some u → w.cell? (x.add j) = some u := by
  by_cases h0 : ts = []
  · subst h0
    intro j u hu
    simp [tv] at hu
  · obtain ⟨g, o, he, -, -⟩ := h.at_ h0
    cases he
    exact h.at_.cells

/-- A row of the call's own is such a slice. -/
theorem tsl_own {w : World} {base n : Nat} {e : TypeId} {v : Value} {ts : List Qu.T} (h : w.ownsRow base e 2 v n (tv ts)) (hn : ts.length = n) : ∃ a c, v = .slice a n c ∧ TSl w a n c ts := by
  obtain ⟨a, c, rfl, h1, h2, h3⟩ := tasks_own h hn
  refine ⟨a, c, rfl, h1, hn, h2, h3, ?_⟩
  rintro rfl
  rcases h.2 with ⟨he, h0⟩ | ⟨g, cap, cur, he, -⟩
  · cases he; exact ⟨h0, rfl⟩
  · cases he

theorem own_grown {w w' : World} {base : Nat} {e : TypeId} {size : Nat} {v : Value} {n : Nat} {xs : List Value} (h : w.ownsRow base e size v n xs) {B : Nat} {W : World} (hB : Below B W w) (hb : B ≤ base) (hs : B ≤ w.heap.size) (hg : w.grownBy w' v.ownBlock) : Below B W w' :=
  hB.grown hg hs (fun k hk => Nat.le_trans hb (row_base h k hk))

end Go.Proofs.YtenkdpogdfcbgaaGreat.Rs
