import Derived.Test.YtenkdpogdfcbgaaGreatQuW
import Derived.Deep.RegionLaw
import Derived.Deep.AppendLies
import Derived.Deep.RegionWith
import Derived.Test.YtenkdpogdfcbgaaGreatArgsT
import Derived.Lib.LazyBuf
import Derived.Lib.SliceRun
import Derived.Deep.OwnRows
import Derived.Laws.IdiomCopy
/- Walks: queue.Add, queued. -/
namespace Go.Proofs.YtenkdpogdfcbgaaGreat.Rs
open Go.RowKit

theorem cells_two (w : World) (T : TypeId) (x y : Value) : (w.alloc (.cells #[x, y] T)).cell? ⟨w.heap.size, 0, none⟩ = some x ∧ (w.alloc (.cells #[x, y] T)).cell? ⟨w.heap.size, 1, none⟩ = some y :=
  ⟨cell_new w (k := 0) rfl, cell_new w (k := 1) rfl⟩

/-- It lies behind block B. -/
def Fresh (B : Nat) (a : Option Addr) : Prop := ∀ x, a = some x → B ≤ x.block

theorem fresh_own {w : World} {base n c size : Nat} {e : TypeId} {a : Option Addr} {xs : List Value} (h : w.ownsRow base e size (.slice a n c) n xs) : Fresh base a := by
  intro x hx
  subst hx
  rcases h.2 with ⟨h0, -⟩ | ⟨g, cap, cur, h0, hb, -⟩
  · cases h0
  · cases h0; exact hb

/-- What stands while a task is added: all that was there, and the box. -/
structure Box (w W : World) (B : Nat) (x y : Int) : Prop where
  below : Below w.heap.size w W
  lt : B < W.heap.size
  c0 : W.cell? ⟨B, 0, none⟩ = some (.int .i64 x)
  c1 : W.cell? ⟨B, 1, none⟩ = some (.int .i64 y)

theorem Box.drew {w W : World} {B : Nat} {x y : Int} (h : Box w W B x y) : Box w W.drew B x y := ⟨h.below.drew, h.lt, h.c0, h.c1⟩
theorem Box.alloc {w W : World} {B : Nat} {x y : Int} (h : Box w W B x y) (o : Obj) : Box w (W.alloc o) B x y :=
  ⟨h.below.alloc h.below.size o, by rw [World.size_alloc]; have := h.lt; omega, by rw [World.cell?_alloc_past _ _ _ h.lt]; exact h.c0, by rw [World.cell?_alloc_past _ _ _ h.lt]; exact h.c1⟩
theorem Box.on {w W W' : World} {B : Nat} {x y : Int} (h : Box w W B x y) (hb : Below W.heap.size W W') : Box w W' B x y :=
  ⟨h.below.trans (hb.mono h.below.size), Nat.lt_of_lt_of_le h.lt hb.size, by rw [hb.cell (p := ⟨B, 0, none⟩) h.lt]; exact h.c0, by rw [hb.cell (p := ⟨B, 1, none⟩) h.lt]; exact h.c1⟩

theorem box_new (w : World) (T : TypeId) (x y : Int) : Box w (w.alloc (.cells #[.int .i64 x, .int .i64 y] T)) w.heap.size x y :=
  ⟨(Below.refl _ w).alloc (Nat.le_refl _) _, by rw [World.size_alloc]; omega, cell_new w (k := 0) rfl, cell_new w (k := 1) rfl⟩

theorem cells_pair (w : World) (T : TypeId) (x y : Value) : ∀ j u, [x, y][j]? = some u → (w.alloc (.cells #[x, y] T)).cell? ((⟨w.heap.size, 0, none⟩ : Addr).add j) = some u := by
  intro j u hu
  rw [addr_lit, Nat.zero_add]
  match j, hu with
  | 0, hu => obtain rfl : x = u := by simpa using hu
             exact cell_new w (k := 0) rfl
  | 1, hu => obtain rfl : y = u := by simpa using hu
             exact cell_new w (k := 1) rfl
  | j + 2, hu => simp at hu

theorem pair_ones (x y : Int) : ∀ u ∈ [Value.int .i64 x, Value.int .i64 y], u.oneCell' = true := by
  intro u hu
  rcases List.mem_cons.1 hu with rfl | hu
  · rfl
  · rw [List.mem_singleton.1 hu]; rfl

end Go.Proofs.YtenkdpogdfcbgaaGreat.Rs

/- Walks: queued, queue.May. -/
namespace Go.Proofs.YtenkdpogdfcbgaaGreat.Rs
open Go.RowKit

/-- A slice of tasks that came in. -/
structure TArg (w : World) (a : Option Addr) (n c : Nat) (ts : List Qu.T) : Prop where
  at_ : ts ≠ [] → ∃ x, a = some x ∧ ∀ (j : Nat) (t : Qu.T), ts[j]? = some t → w.cell? (x.add (j * 2)) = some (.int .i64 t.1) ∧ w.cell? (x.add (j * 2 + 1)) = some (.int .i64 t.2)
  len : ts.length = n
  cap : n ≤ c
  max : c ≤ maxLen

theorem TArg.keep {w w' : World} {a : Option Addr} {n c : Nat} {ts : List Qu.T} (h : TArg w a n c ts) (hb : Below w.heap.size w w') : TArg w' a n c ts := ⟨fun h0 => by
  obtain ⟨x, rfl, hc⟩ := h.at_ h0
  refine ⟨x, rfl, fun j t hj => ?_⟩
  obtain ⟨c1, c2⟩ := hc j t hj
  exact ⟨by rw [hb.cell (World.block_lt_of_cell? w _ c1)]; exact c1, by rw [hb.cell (World.block_lt_of_cell? w _ c2)]; exact c2⟩, h.len, h.cap, h.max⟩

theorem targ_of {w : World} {a : Option Addr} {n c : Nat} {ts : List (Int × Int)} (h : IsRowT w a n c ts) : TArg w a n c ts := by
  rcases h with ⟨rfl, rfl, rfl, rfl⟩ | ⟨x, rfl, h1, h2, h3, h4⟩
  · exact ⟨fun h => absurd rfl h, rfl, Nat.le_refl _, Nat.zero_le _⟩
  · exact ⟨fun _ => ⟨x, rfl, fun j t hj => ⟨(h4 j t hj).1, (h4 j t hj).2.1⟩⟩, h3, h1, h2⟩

/-- Integers as values. -/
def zv (l : List Int) : List Value := l.map fun x => .int .i64 x

theorem zv_snoc (l : List Int) (x : Int) : zv (l ++ [x]) = zv l ++ [.int .i64 x] := by unfold zv; rw [List.map_append]; rfl

/-- A slice of integers, whole. -/
structure ZSl (w : World) (a : Option Addr) (n c : Nat) (l : List Int) : Prop where
  at_ : l ≠ [] → ∃ g o, a = some ⟨g, o, none⟩ ∧ g < w.heap.size ∧ ∀ (j : Nat) (x : Int), l[j]? = some x → w.cell? ⟨g, o + j, none⟩ = some (.int .i64 x)
  len : l.length = n
  cap : n ≤ c
  max : c ≤ maxLen

theorem ZSl.keep {w w' : World} {a : Option Addr} {n c : Nat} {l : List Int} (h : ZSl w a n c l) (hb : Below w.heap.size w w') : ZSl w' a n c l := ⟨fun h0 => by
  obtain ⟨g, o, rfl, hg, hc⟩ := h.at_ h0
  exact ⟨g, o, rfl, Nat.lt_of_lt_of_le hg hb.size, fun j x hj => by rw [hb.cell (p := ⟨g, o + j, none⟩) hg]; exact hc j x hj⟩, h.len, h.cap, h.max⟩

theorem zsl_own {w : World} {base n : Nat} {e : TypeId} {v : Value} {l : List Int} (h : w.ownsRow base e 1 v n (zv l)) : ∃ a c, v = .slice a n c ∧ ZSl w a n c l := by
  have hn : l.length = n := by have := h.1; unfold zv at this; simpa using this
  rcases h.2 with ⟨rfl, h0⟩ | ⟨g, cap, cur, rfl, hb, hh, hnc, hcm, h'⟩
  · have : l = [] := List.length_eq_zero_iff.1 (by omega)
    subst this
    exact ⟨none, 0, by rw [h0], fun h => absurd rfl h, hn, by omega, Nat.zero_le _⟩
  · have hlt : g < w.heap.size := by
      rcases Nat.lt_or_ge g w.heap.size with h | h
      · exact h
      · rw [Array.getElem?_eq_none h] at hh; cases hh
    refine ⟨_, cap, rfl, fun _ => ⟨g, 0, rfl, hlt, fun j x hj => ?_⟩, hn, hnc, hcm⟩
    have c1 := h.cells (g := g) rfl j (.int .i64 x) (by unfold zv; simp [hj])
    rw [addr_lit] at c1
    exact c1

theorem ZSl.take {w : World} {a : Option Addr} {n c : Nat} {l : List Int} (h : ZSl w a n c l) {m : Nat} (hm : m ≤ n) : ZSl w a m c (l.take m) := by
  refine ⟨fun h0 => ?_, by rw [List.length_take, h.len]; omega, Nat.le_trans hm h.cap, h.max⟩
  have hne : l ≠ [] := by rintro rfl; simp at h0
  obtain ⟨g, o, rfl, hg, hc⟩ := h.at_ hne
  refine ⟨g, o, rfl, hg, fun j x hj => hc j x ?_⟩
  rw [List.getElem?_take] at hj
  split at hj
  · exact hj
  · cases hj

end Go.Proofs.YtenkdpogdfcbgaaGreat.Rs

/- Walks: slices.Delete of one task, queue.Done. -/
namespace Go.Proofs.YtenkdpogdfcbgaaGreat.Rs
open Go.RowKit

theorem rowIs_own {w : World} {base g n cap : Nat} {e : TypeId} {xs : List Value} (h : w.ownsRow base e 2 (.slice (some ⟨g, 0, none⟩) n cap) n xs) : ∃ f, w.rowIs g e (cap * 2) f ∧ (∀ j, j < n * 2 → xs[j]? = some (f j)) ∧ base ≤ g ∧ n ≤ cap ∧ cap ≤ maxLen := by
  rcases h.2 with ⟨h', _⟩ | ⟨g', cap', cur, h', hb, hg, hnc, hcm, hsz, htake⟩
  · cases h'
  · cases h'
    refine ⟨fun j => cur.getD j default, ⟨cur, hg, hsz, fun j hj => ?_⟩, fun j hj => ?_, hb, hnc, hcm⟩
    · simp [Array.getD, hsz, hj]
    · have hj2 : j < cur.size := by rw [hsz]; omega
      rw [← htake, List.getElem?_take, if_pos hj]
      simp [Array.getD, hj2]

theorem own_rowIs {w : World} {base g n cap : Nat} {e : TypeId} {xs : List Value} {f : Nat → Value} (h : w.rowIs g e (cap * 2) f) (hx : xs.length = n * 2) (hf : ∀ j, j < n * 2 → xs[j]? = some (f j)) (hb : base ≤ g) (hnc : n ≤ cap) (hcm : cap ≤ maxLen) : w.ownsRow base e 2 (.slice (some ⟨g, 0, none⟩) n cap) n xs := by
  obtain ⟨cur, hg, hsz, hc⟩ := h
  refine ⟨hx, Or.inr ⟨g, cap, cur, rfl, hb, hg, hnc, hcm, hsz, ?_⟩⟩
  apply List.ext_getElem?
  intro j
  by_cases hj : j < n * 2
  · rw [List.getElem?_take, if_pos hj, hf j hj, Array.getElem?_toList, hc j (by omega)]
  · rw [List.getElem?_eq_none (by rw [List.length_take]; omega), List.getElem?_eq_none (by omega)]

theorem tv_drop (l : List Qu.T) (k : Nat) : tv (l.drop k) = (tv l).drop (k * 2) := by
  induction k generalizing l with
  | zero => rfl
  | succ k ih =>
    cases l with
    | nil => simp [tv]
    | cons t l => rw [List.drop_succ_cons, ih, tv, show (k + 1) * 2 = k * 2 + 1 + 1 from by omega, List.drop_succ_cons, List.drop_succ_cons]

theorem tv_take (l : List Qu.T) (k : Nat) : tv (l.take k) = (tv l).take (k * 2) := by
  induction k generalizing l with
  | zero => simp [tv]
  | succ k ih =>
    cases l with
    | nil => simp [tv]
    | cons t l => rw [List.take_succ_cons, tv, ih, tv, show (k + 1) * 2 = k * 2 + 1 + 1 from by omega, List.take_succ_cons, List.take_succ_cons]

end Go.Proofs.YtenkdpogdfcbgaaGreat.Rs

/- Walks: queue.Done, slices.Equal at tasks. -/
namespace Go.Proofs.YtenkdpogdfcbgaaGreat.Rs
open Go.RowKit

/-- Tasks without one. -/
def cut (ts : List Qu.T) (i : Nat) : List Qu.T := ts.take i ++ ts.drop (i + 1)

end Go.Proofs.YtenkdpogdfcbgaaGreat.Rs

/- The walk of slices.DeleteFunc at tasks. -/
namespace Go.Proofs.YtenkdpogdfcbgaaGreat.Rs
open Go.RowKit

/-- Those that are simple. -/
def simples (ts : List Qu.T) : List Qu.T := ts.filter fun t => !Qu.ns t

theorem tv_set (l : List Qu.T) (k : Nat) (t : Qu.T) : tv (l.set k t) = ((tv l).set (k * 2) (.int .i64 t.1)).set (k * 2 + 1) (.int .i64 t.2) := by
  induction l generalizing k with
  | nil => simp [tv]
  | cons u l ih =>
    cases k with
    | zero => rfl
    | succ k =>
      rw [List.set_cons_succ, tv, ih, tv, show (k + 1) * 2 = k * 2 + 1 + 1 from by omega]
      rfl

end Go.Proofs.YtenkdpogdfcbgaaGreat.Rs
