import Derived.Test.YtenkdpogdfcbgaaGreatBase
import Derived.Test.YtenkdpogdfcbgaaGreatUse
import Derived.Deep.LoopGhost
import Derived.Deep.Slices
import Derived.Lib.Hide
import Derived.Lib.SliceRun
import Derived.Shelf.Abstract
import Derived.Below
import Derived.Laws.OwnMore
import Derived.Laws.AppendOwnNone
import Derived.Deep.AppendLies
import Derived.ArgAppend
import Derived.Lib.LazyBuf
import Derived.Deep.OwnRows
import Derived.Laws.IdiomCopy
import Derived.Deep.RegionLaw
import Derived.Lib.Overlaps
import Derived.Lib.AppendZerosOnto
import Derived.Shelf.RegionOpenPlain
import Derived.Deep.RegionHeld3
/- Bags, plain facts: what is right, what Put and Drop do. No program in sight. 'P' is the print of a text. -/
namespace Go.Proofs.YtenkdpogdfcbgaaGreat.Bg

/-- An item, plain. -/
structure It where
  sum : Int
  n : Int
  text : ByteArray
  refs : Int

/-- An id, plain. -/
structure Id where
  is : Bool
  sum : Int
  n : Int

def cmp (a b : It) : Int := if a.sum = b.sum then a.n - b.n else a.sum - b.sum
/-- What one item is wrong by. -/
def oneE (P : ByteArray → Int) (x : It) : Nat :=
  if 64 < x.text.size then 2 else if x.sum ≠ P x.text then 6 else if x.n < 0 ∨ 64 ≤ x.n ∨ x.refs < 1 ∨ 1000000 < x.refs then 1 else 0
def same (s : ByteArray) (y : It) : Bool := y.text.toList == s.toList
/-- What the item at a place is wrong by. -/
def atE (P : ByteArray → Int) (l : List It) (i : Nat) : Nat :=
  match l[i]? with
  | none => 0
  | some x => if oneE P x ≠ 0 then oneE P x else if (decide (0 < i) && (match l[i - 1]? with | some y => decide (0 ≤ cmp y x) | none => false)) = true then 3 else if (l.take i).any (same x.text) = true then 5 else 0
/-- The first fault among the first k. -/
def scan (P : ByteArray → Int) (l : List It) : Nat → Nat
  | 0 => 0
  | k + 1 => if scan P l k ≠ 0 then scan P l k else atE P l k
def checkE (P : ByteArray → Int) (l : List It) : Nat := if 64 < l.length then 2 else scan P l l.length

/-- Where an id's item is. -/
def hit (id : Id) (x : It) : Bool := id.is && (x.sum == id.sum && x.n == id.n)

end Go.Proofs.YtenkdpogdfcbgaaGreat.Bg

/- Items that lie there; the walks of slices.IndexFunc, ContainsFunc and Clone at items. -/
namespace Go.Proofs.YtenkdpogdfcbgaaGreat
open Go.RowKit

theorem Tryz.infoItem : (Tryz.prog.info? 75).map (fun i => (i.zero, i.size, i.bytes)) = some (some (.agg #[.int .i64 0, .int .i64 0, .string ⟨#[]⟩, .int .i64 0]), 4, 40) := by kernel_rfl

/-- Items as values. -/
def tv : List Bg.It → List Value
  | [] => []
  | t :: l => .int .i64 t.sum :: .int .i64 t.n :: .string t.text :: .int .i64 t.refs :: tv l

theorem tv_app (l m : List Bg.It) : tv (l ++ m) = tv l ++ tv m := by
  induction l with
  | nil => rfl
  | cons t l ih => rw [List.cons_append, tv, ih]; rfl

theorem tv_length (l : List Bg.It) : (tv l).length = l.length * 4 := by
  induction l with
  | nil => rfl
  | cons t l ih => rw [tv, List.length_cons, List.length_cons, List.length_cons, List.length_cons, ih, List.length_cons]; omega

theorem tv_one (l : List Bg.It) : ∀ u ∈ tv l, u.oneCell' = true := by
  induction l with
  | nil => intro u hu; cases hu
  | cons t l ih =>
    intro u hu
    rw [tv] at hu
    rcases List.mem_cons.1 hu with rfl | hu
    · rfl
    rcases List.mem_cons.1 hu with rfl | hu
    · rfl
    rcases List.mem_cons.1 hu with rfl | hu
    · rfl
    rcases List.mem_cons.1 hu with rfl | hu
    · rfl
    exact ih u hu

theorem tv_get {l : List Bg.It} {j : Nat} {t : Bg.It} (h : l[j]? = some t) : (tv l)[j * 4]? = some (.int .i64 t.sum) ∧ (tv l)[j * 4 + 1]? = some (.int .i64 t.n) ∧ (tv l)[j * 4 + 2]? = some (.string t.text) ∧ (tv l)[j * 4 + 3]? = some (.int .i64 t.refs) := by
  induction l generalizing j with
  | nil => simp at h
  | cons x l ih =>
    cases j with
    | zero =>
      obtain rfl : x = t := by simpa using h
      exact ⟨rfl, rfl, rfl, rfl⟩
    | succ j =>
      have := ih (j := j) (by simpa using h)
      rw [show (j + 1) * 4 = j * 4 + 1 + 1 + 1 + 1 from by omega]
      exact this

theorem tv_split {l : List Bg.It} {j : Nat} {u : Value} (h : (tv l)[j]? = some u) : ∃ k t, l[k]? = some t ∧ (j = k * 4 ∧ u = .int .i64 t.sum ∨ j = k * 4 + 1 ∧ u = .int .i64 t.n ∨ j = k * 4 + 2 ∧ u = .string t.text ∨ j = k * 4 + 3 ∧ u = .int .i64 t.refs) := by
  induction l generalizing j with
  | nil => simp [tv] at h
  | cons x l ih =>
    match j with
    | 0 => exact ⟨0, x, rfl, Or.inl ⟨rfl, by simpa [tv] using h.symm⟩⟩
    | 1 => exact ⟨0, x, rfl, Or.inr (Or.inl ⟨rfl, by simpa [tv] using h.symm⟩)⟩
    | 2 => exact ⟨0, x, rfl, Or.inr (Or.inr (Or.inl ⟨rfl, by simpa [tv] using h.symm⟩))⟩
    | 3 => exact ⟨0, x, rfl, Or.inr (Or.inr (Or.inr ⟨rfl, by simpa [tv] using h.symm⟩))⟩
    | j + 4 =>
      obtain ⟨k, t, h1, h2⟩ := ih (j := j) (by simpa [tv] using h)
      refine ⟨k + 1, t, by simpa using h1, ?_⟩
      rcases h2 with ⟨rfl, h2⟩ | ⟨rfl, h2⟩ | ⟨rfl, h2⟩ | ⟨rfl, h2⟩
      · exact Or.inl ⟨by omega, h2⟩
      · exact Or.inr (Or.inl ⟨by omega, h2⟩)
      · exact Or.inr (Or.inr (Or.inl ⟨by omega, h2⟩))
      · exact Or.inr (Or.inr (Or.inr ⟨by omega, h2⟩))

theorem tv_drop (l : List Bg.It) (k : Nat) : tv (l.drop k) = (tv l).drop (k * 4) := by
  induction k generalizing l with
  | zero => rfl
  | succ k ih =>
    cases l with
    | nil => simp [tv]
    | cons t l => rw [List.drop_succ_cons, ih, tv, show (k + 1) * 4 = k * 4 + 1 + 1 + 1 + 1 from by omega, List.drop_succ_cons, List.drop_succ_cons, List.drop_succ_cons, List.drop_succ_cons]

theorem tv_take (l : List Bg.It) (k : Nat) : tv (l.take k) = (tv l).take (k * 4) := by
  induction k generalizing l with
  | zero => simp [tv]
  | succ k ih =>
    cases l with
    | nil => simp [tv]
    | cons t l => rw [List.take_succ_cons, tv, ih, tv, show (k + 1) * 4 = k * 4 + 1 + 1 + 1 + 1 from by omega, List.take_succ_cons, List.take_succ_cons, List.take_succ_cons, List.take_succ_cons]

theorem addr_lit (g o j : Nat) : (⟨g, o, none⟩ : Addr).add j = ⟨g, o + j, none⟩ := by
  unfold Addr.add
  split
  · rename_i h; rw [h]; rfl
  · rfl

/-- The cells of items. -/
def ICells (w : World) (x : Addr) (ts : List Bg.It) : Prop := ∀ (j : Nat) (t : Bg.It), ts[j]? = some t →
  w.cell? (x.add (j * 4)) = some (.int .i64 t.sum) ∧ w.cell? (x.add (j * 4 + 1)) = some (.int .i64 t.n) ∧ w.cell? (x.add (j * 4 + 2)) = some (.string t.text) ∧ w.cell? (x.add (j * 4 + 3)) = some (.int .i64 t.refs)

theorem ICells.keep {w w' : World} {x : Addr} {ts : List Bg.It} (h : ICells w x ts) (hb : Below w.heap.size w w') : ICells w' x ts := fun j t hj => by
  obtain ⟨c1, c2, c3, c4⟩ := h j t hj
  exact ⟨by rw [hb.cell (World.block_lt_of_cell? w _ c1)]; exact c1, by rw [hb.cell (World.block_lt_of_cell? w _ c2)]; exact c2, by rw [hb.cell (World.block_lt_of_cell? w _ c3)]; exact c3, by rw [hb.cell (World.block_lt_of_cell? w _ c4)]; exact c4⟩

/-- A slice of items, whole. -/
structure ISl (w : World) (a : Option Addr) (n c : Nat) (ts : List Bg.It) : Prop where
  at_ : ts ≠ [] → ∃ x, a = some x ∧ ICells w x ts
  len : ts.length = n
  cap : n ≤ c
  max : c ≤ maxLen
  nil : a = none → n = 0 ∧ c = 0

theorem ISl.keep {w w' : World} {a : Option Addr} {n c : Nat} {ts : List Bg.It} (h : ISl w a n c ts) (hb : Below w.heap.size w w') : ISl w' a n c ts := ⟨fun h0 => by
  obtain ⟨x, rfl, hc⟩ := h.at_ h0
  exact ⟨x, rfl, hc.keep hb⟩, h.len, h.cap, h.max, h.nil⟩

theorem ISl.take {w : World} {a : Option Addr} {n c k : Nat} {ts : List Bg.It} (h : ISl w a n c ts) (hk : k ≤ n) : ISl w a k c (ts.take k) := ⟨fun h0 => by
  obtain ⟨x, rfl, hc⟩ := h.at_ (by rintro rfl; simp at h0)
  exact ⟨x, rfl, fun j t hj => hc j t (by rw [List.getElem?_take] at hj; split at hj; exact hj; cases hj)⟩, by rw [List.length_take, h.len]; omega, Nat.le_trans hk h.cap, h.max, fun h1 => by have := h.nil h1; omega⟩

/-- The item at a place. -/
theorem ISl.get {w : World} {a : Option Addr} {n c k : Nat} {ts : List Bg.It} (h : ISl w a n c ts) (hk : k < ts.length) :
    ∃ (A : Addr) (b o : Nat) (s : Option Nat), a = some A ∧ A.add (k * 4) = ⟨b, o, s⟩ ∧ w.cell? ⟨b, o, s⟩ = some (.int .i64 ts[k].sum) ∧ w.cell? ⟨b, o + 1, none⟩ = some (.int .i64 ts[k].n) ∧ w.cell? ⟨b, o + 2, none⟩ = some (.string ts[k].text) ∧ w.cell? ⟨b, o + 3, none⟩ = some (.int .i64 ts[k].refs) := by
  obtain ⟨A, rfl, hc⟩ := h.at_ (by rintro rfl; simp at hk)
  obtain ⟨g1, g2, g3, g4⟩ := hc k ts[k] (List.getElem?_eq_getElem hk)
  obtain ⟨b, o, s, hy⟩ : ∃ b o s, A.add (k * 4) = ⟨b, o, s⟩ := ⟨_, _, _, rfl⟩
  rw [← Go.Deep.add_add, hy, show (⟨b, o, s⟩ : Addr).add 1 = ⟨b, o + 1, none⟩ from rfl] at g2
  rw [← Go.Deep.add_add, hy, show (⟨b, o, s⟩ : Addr).add 2 = ⟨b, o + 2, none⟩ from rfl] at g3
  rw [← Go.Deep.add_add, hy, show (⟨b, o, s⟩ : Addr).add 3 = ⟨b, o + 3, none⟩ from rfl] at g4
  rw [hy] at g1
  exact ⟨A, b, o, s, rfl, hy, g1, g2, g3, g4⟩

theorem ISl.cells {w : World} {x : Addr} {n c : Nat} {ts : List Bg.It} (h : ISl w (some x) n c ts) : ∀ j u, (tv ts)[j]? = some u → w.cell? (x.add j) = some u := by
  intro j u hu
  obtain ⟨k, t, hk, hh⟩ := tv_split hu
  have hne : ts ≠ [] := by rintro rfl; simp at hk
  obtain ⟨x', he, hc⟩ := h.at_ hne
  cases he
  obtain ⟨c1, c2, c3, c4⟩ := hc k t hk
  rcases hh with ⟨rfl, rfl⟩ | ⟨rfl, rfl⟩ | ⟨rfl, rfl⟩ | ⟨rfl, rfl⟩
  · exact c1
  · exact c2
  · exact c3
  · exact c4

/-- A row of the call's own is such a slice. -/
theorem isl_own {w : World} {base n : Nat} {e : TypeId} {v : Value} {ts : List Bg.It} (h : w.ownsRow base e 4 v n (tv ts)) (hn : ts.length = n) : ∃ a c, v = .slice a n c ∧ ISl w a n c ts := by
  rcases h.2 with ⟨rfl, h0⟩ | ⟨g, cap, cur, rfl, hb, hh, hnc, hcm, h'⟩
  · have : ts = [] := List.length_eq_zero_iff.1 (by omega)
    subst this
    subst h0
    exact ⟨none, 0, rfl, fun h => absurd rfl h, rfl, Nat.le_refl _, Nat.zero_le _, fun _ => ⟨rfl, rfl⟩⟩
  · refine ⟨_, cap, rfl, fun _ => ⟨_, rfl, fun j t hj => ?_⟩, hn, hnc, hcm, fun h => by cases h⟩
    obtain ⟨k1, k2, k3, k4⟩ := tv_get hj
    exact ⟨h.cells (g := g) rfl _ _ k1, h.cells (g := g) rfl _ _ k2, h.cells (g := g) rfl _ _ k3, h.cells (g := g) rfl _ _ k4⟩

theorem own_low {w : World} {b base : Nat} {e : TypeId} {size n : Nat} {v : Value} {xs : List Value} (h : w.ownsRow b e size v n xs) (hb : base ≤ b) : w.ownsRow base e size v n xs := by
  refine ⟨h.1, ?_⟩
  rcases h.2 with h2 | ⟨g, cap, cur, hv, hg, r⟩
  · exact Or.inl h2
  · exact Or.inr ⟨g, cap, cur, hv, Nat.le_trans hb hg, r⟩

theorem below_drewN {B : Nat} {a w : World} (h : Below B a w) (n : Nat) : Below B a (w.drewN n) := ⟨h.os, h.tape, h.output, h.size, h.block⟩

theorem own_grown {w w' : World} {base : Nat} {e : TypeId} {size : Nat} {v : Value} {n : Nat} {xs : List Value} (h : w.ownsRow base e size v n xs) {B : Nat} {W : World} (hB : Below B W w) (hb : B ≤ base) (hs : B ≤ w.heap.size) (hg : w.grownBy w' v.ownBlock) : Below B W w' :=
  hB.grown hg hs (fun k hk => Nat.le_trans hb (row_base h k hk))

/-- A predicate's function value: what it answers of the items, wherever it is asked behind the beginning. -/
def PredI (w : World) (g : FuncId) (lb : Array Value) (p : Bg.It → Bool) : Prop :=
  ∀ (W : World) (s n r : Int) (t : ByteArray), Below w.heap.size w W → Calls Tryz.prog g (#[.agg #[.int .i64 s, .int .i64 n, .string t, .int .i64 r]] ++ lb) W fun e w' => e = .returned (.bool (p ⟨s, n, t, r⟩)) ∧ Below w.heap.size w w'

/-- The index that IndexFunc answers. -/
def idx (p : Bg.It → Bool) (ts : List Bg.It) : Int := match ts.findIdx? p with | some i => (i : Int) | none => -1

theorem idx_hit {p : Bg.It → Bool} {ts : List Bg.It} {k : Nat} (hk : k < ts.length) (h : p ts[k] = true) (hb : ∀ j (hj : j < k), p (ts[j]'(by omega)) = false) : idx p ts = (k : Int) := by
  have : ts.findIdx? p = some k := by
    rw [List.findIdx?_eq_some_iff_getElem]
    exact ⟨hk, h, fun j hj hh => by rw [hb j hj] at hh; cases hh⟩
  unfold idx
  rw [this]

theorem idx_miss {p : Bg.It → Bool} {ts : List Bg.It} (hb : ∀ j (hj : j < ts.length), p ts[j] = false) : idx p ts = -1 := by
  have : ts.findIdx? p = none := by
    rw [List.findIdx?_eq_none_iff]
    intro x hx
    obtain ⟨j, hj, rfl⟩ := List.getElem_of_mem hx
    exact hb j hj
  unfold idx
  rw [this]

set_option maxHeartbeats 2000000 in
theorem IndexFunc_I (a : Option Addr) (n c : Nat) (ts : List Bg.It) (g : FuncId) (lb : Array Value) (p : Bg.It → Bool) (w : World) (hn : n ≤ 1099511627776)
    (eg : ∀ args w, (callFunc g args).run Tryz.prog w = .ok (.enter g args) w) (hT : ISl w a n c ts) (hp : PredI w g lb p) :
    Calls Tryz.prog 94 #[.slice a n c, .func (.func g) #[] lb] w fun e w' => e = .returned (.int .i64 (idx p ts)) ∧ Below w.heap.size w w' := by
  have HT := Lib.hid hT; have HP := Lib.hid hp
  clear hT hp
  go_enter Tryz.func94, Tryz.ntmps94
  go_wp2_with fail
  go_loopg [5, 8] n (fun gg _ s8 wr => ∃ kk : Nat, kk ≤ n ∧ n - kk ≤ gg ∧ s8 = .int .i64 kk ∧ Hid (Below w.heap.size w wr) ∧ Hid (∀ j (_ : j < kk) (hj : j < ts.length), p ts[j] = false))
  case atStart => exact ⟨0, Nat.zero_le _, by omega, rfl, Lib.hid (Below.refl _ w), Lib.hid fun j hj => absurd hj (Nat.not_lt_zero _)⟩
  case round =>
    obtain ⟨kk, hkk, hg, rfl, BW, A⟩ := hrel
    by_cases hlt : kk < n
    · have hk' : kk < ts.length := by rw [HT.out.len]; exact hlt
      obtain ⟨X, b, o, s, rfl, hX, c1, c2, c3, c4⟩ := (HT.out.keep BW.out).get hk'
      have hcall := HP.out wr ts[kk].sum ts[kk].n ts[kk].refs ts[kk].text BW.out
      have HE : Hid (p ts[kk] = p ⟨ts[kk].sum, ts[kk].n, ts[kk].text, ts[kk].refs⟩) := Lib.hid rfl
      generalize ts[kk].sum = x at *
      generalize ts[kk].n = y at *
      generalize ts[kk].text = z at *
      generalize ts[kk].refs = q at *
      cases hq : p ⟨x, y, z, q⟩ with
      | true =>
        rw [hq] at hcall
        have HQ := Lib.hid hq
        clear hq
        go_wp2_with (go_at_fn g; refine hcall.mono ?_; rintro e w' ⟨rfl, hb'⟩)
        go_ret
        refine ⟨?_, hb'⟩
        rw [idx_hit hk' (by rw [HE.out]; exact HQ.out) (fun j hj => A.out j hj (by omega))]
        rfl
      | false =>
        rw [hq] at hcall
        have HQ := Lib.hid hq
        clear hq
        go_wp2_with (go_at_fn g; refine hcall.mono ?_; rintro e w' ⟨rfl, hb'⟩)
        go_roundg (n - (kk + 1))
        case measure => omega
        case rel =>
          refine ⟨kk + 1, by omega, by omega, by go_num, Lib.hid hb', Lib.hid fun j hj hj' => ?_⟩
          by_cases e : j = kk
          · subst e
            rw [HE.out]; exact HQ.out
          · exact A.out j (by omega) hj'
    · obtain rfl : kk = n := by omega
      go_wp2_with fail
      go_ret
      refine ⟨?_, BW.out⟩
      rw [idx_miss (fun j hj => A.out j (by rw [← HT.out.len]; exact hj) hj)]
      rfl

theorem idx_any (p : Bg.It → Bool) (ts : List Bg.It) : decide (0 ≤ idx p ts) = ts.any p := by
  unfold idx
  cases h : ts.findIdx? p with
  | none =>
    rw [List.findIdx?_eq_none_iff] at h
    have : ts.any p = false := by rw [List.any_eq_false]; intro x hx; rw [h x hx]; decide
    rw [this]; rfl
  | some i =>
    obtain ⟨hi, h1, -⟩ := List.findIdx?_eq_some_iff_getElem.1 h
    have : ts.any p = true := List.any_eq_true.2 ⟨_, List.getElem_mem hi, h1⟩
    rw [this]
    exact decide_eq_true (by show (0 : Int) ≤ (i : Int); omega)

set_option maxHeartbeats 1000000 in
theorem ContainsFunc_I (a : Option Addr) (n c : Nat) (ts : List Bg.It) (g : FuncId) (lb : Array Value) (p : Bg.It → Bool) (v : Bool) (w : World) (hn : n ≤ 1099511627776)
    (eg : ∀ args w, (callFunc g args).run Tryz.prog w = .ok (.enter g args) w) (hT : ISl w a n c ts) (hp : PredI w g lb p) (hv : ts.any p = v) :
    Calls Tryz.prog 77 #[.slice a n c, .func (.func g) #[] lb] w fun e w' => e = .returned (.bool v) ∧ Below w.heap.size w w' := by
  have I1 := IndexFunc_I a n c ts g lb p w (by omega) eg hT hp
  rw [← hv, ← idx_any]
  clear hv hT hp
  generalize idx p ts = x at *
  go_enter Tryz.func77, Tryz.ntmps77
  go_wp2_with fail
  with_reducible refine I1.mono ?_
  rintro e w' ⟨rfl, hb⟩
  go_wp2_with fail
  go_ret
  exact ⟨by first | rfl | (simp), hb⟩

set_option maxRecDepth 100000 in
set_option maxHeartbeats 4000000 in
theorem Clone_I (a : Option Addr) (n c : Nat) (ts : List Bg.It) (w : World) (hT : ISl w a n c ts) (hn : n ≤ 1099511627776) :
    Calls Tryz.prog 61 #[.slice a n c] w fun e w' => ∃ v, e = .returned v ∧ w'.ownsRow w.heap.size 75 4 v n (tv ts) ∧ Below w.heap.size w w' := by
  obtain ⟨i0, hi, hz0, hz1, hz2⟩ := info_parts Tryz.infoItem
  rcases a with _ | x
  · obtain ⟨rfl, rfl⟩ := hT.nil rfl
    obtain rfl : ts = [] := List.length_eq_zero_iff.1 hT.len
    clear hT
    have en : ∀ w, (binOp .eql 30 (.slice none 0 0) (.slice none 0 0)).run Tryz.prog w = .ok (.bool true) w := fun w => Lib.run_eql_slice_nil w 30 75 none 0 0 0 0 Tryz.underlying30
    go_enter Tryz.func61, Tryz.ntmps61
    go_wp2_with fail
    go_ret
    exact ⟨_, rfl, World.ownsRow_nil _ _ _ _, Below.refl _ _⟩
  · have HB1 : ∀ T, Below w.heap.size w (w.alloc (.cells #[] T)) := fun T => (Below.refl _ w).alloc (Nat.le_refl _) _
    have hcells : ∀ (T : TypeId) j u, (tv ts)[j]? = some u → (w.alloc (.cells #[] T)).cell? (x.add j) = some u := fun T => (hT.keep (HB1 T)).cells
    have H3 := Lib.hid (hcells 75)
    have HL : Hid ((tv ts).length = n * 4) := Lib.hid (by rw [tv_length, hT.len])
    have H5 : Hid (0 + n ≤ maxLen ∧ (0 + n) * 40 ≤ 140737488355328) := Lib.hid ⟨by unfold maxLen; omega, by omega⟩
    have HO : Hid ((w.alloc (.cells #[] 75)).ownsRow w.heap.size 75 4 (.slice (some ⟨w.heap.size, 0, none⟩) 0 0) 0 []) := Lib.hid (World.ownsRow_made w #[] 0 (Nat.le_refl _) (Nat.zero_le _) rfl)
    have HS : Hid (w.heap.size ≤ (w.alloc (.cells #[] 75)).heap.size) := Lib.hid (by rw [World.size_alloc]; omega)
    have HB := Lib.hid (HB1 75)
    clear hcells hT HB1
    have en : ∀ w, (binOp .eql 30 (.slice (some x) n c) (.slice none 0 0)).run Tryz.prog w = .ok (.bool false) w := fun w => Lib.run_eql_slice_nil w 30 75 (some x) n c 0 0 Tryz.underlying30
    go_enter Tryz.func61, Tryz.ntmps61
    go_wp2_with (at_builtin; refine wpList_append_own _ rfl _ _ _ rfl w.heap.size 75 i0 (.agg #[.int .i64 0, .int .i64 0, .string ⟨#[]⟩, .int .i64 0]) 4 40 Tryz.underlying30 hi hz0 hz1 hz2 rfl (by decide) (.slice (some ⟨w.heap.size, 0, none⟩) 0 0) 0 [] rfl HO.out x n c (tv ts) rfl HL.out H3.out (tv_one ts) H5.out.1 H5.out.2 HS.out ?_)
    intro v' w' q1 q2 _
    have HF : Hid (w'.ownsRow w.heap.size 75 4 v' n (tv ts) ∧ Below w.heap.size w w') := Lib.hid ⟨by simpa using q1, own_grown HO.out HB.out (Nat.le_refl _) HS.out q2⟩
    clear q1 q2 H3 HL H5
    go_wp2_with fail
    go_ret
    exact ⟨_, rfl, HF.out⟩

end Go.Proofs.YtenkdpogdfcbgaaGreat

/- The walk of slices.Delete of one item. -/
namespace Go.Proofs.YtenkdpogdfcbgaaGreat
open Go.RowKit

theorem item_ones (x y : Int) (t : ByteArray) (z : Int) : ∀ u ∈ [Value.int .i64 x, .int .i64 y, .string t, .int .i64 z], u.oneCell' = true := by
  intro u hu
  simp at hu
  rcases hu with rfl | rfl | rfl | rfl <;> rfl

/-- 'clear' of one item. -/
theorem run_clear_one (w : World) (ty : TypeId) (b o c : Nat) (h0 : ∀ j, j < 4 → (w.cell? ⟨b, o + j, none⟩).isSome = true) (f0 : ∀ j, j < 4 → w.frozen? ⟨b, o + j, none⟩ = false) :
    (Builtin.clear_ #[30] ty #[.slice (some ⟨b, o, none⟩) 1 c]).run Tryz.prog w = .ok (.tuple #[]) (w.setCells b o [.int .i64 0, .int .i64 0, .string ⟨#[]⟩, .int .i64 0]) := by
  have hst := run_storeCells_cells (P := Tryz.prog) b o [.int .i64 0, .int .i64 0, .string ⟨#[]⟩, .int .i64 0] 0 w (by
    intro j hj
    rw [Nat.add_zero]
    exact h0 j hj) (by
    intro j hj
    rw [Nat.add_zero]
    exact f0 j hj) (item_ones 0 0 ⟨#[]⟩ 0)
  simp only [Nat.add_zero] at hst
  have hzc : (Builtin.zeroCells (Value.agg #[.int .i64 0, .int .i64 0, .string ⟨#[]⟩, .int .i64 0]).cells 1).toList = [.int .i64 0, .int .i64 0, .string ⟨#[]⟩, .int .i64 0] := by
    simp [Builtin.zeroCells, Value.cells, List.range_succ, Array.toList_map, Array.toList_range]
  simp [Builtin.clear_, run_underlying Tryz.underlying30, hzc, hst]

theorem rowIs_own {w : World} {base g n cap : Nat} {e : TypeId} {xs : List Value} (h : w.ownsRow base e 4 (.slice (some ⟨g, 0, none⟩) n cap) n xs) : ∃ f, w.rowIs g e (cap * 4) f ∧ (∀ j, j < n * 4 → xs[j]? = some (f j)) ∧ base ≤ g ∧ n ≤ cap ∧ cap ≤ maxLen := by
  rcases h.2 with ⟨h', _⟩ | ⟨g', cap', cur, h', hb, hg, hnc, hcm, hsz, htake⟩
  · cases h'
  · cases h'
    refine ⟨fun j => cur.getD j default, ⟨cur, hg, hsz, fun j hj => ?_⟩, fun j hj => ?_, hb, hnc, hcm⟩
    · simp [Array.getD, hsz, hj]
    · have hj2 : j < cur.size := by rw [hsz]; omega
      rw [← htake, List.getElem?_take, if_pos hj]
      simp [Array.getD, hj2]

theorem own_rowIs {w : World} {base g n cap : Nat} {e : TypeId} {xs : List Value} {f : Nat → Value} (h : w.rowIs g e (cap * 4) f) (hx : xs.length = n * 4) (hf : ∀ j, j < n * 4 → xs[j]? = some (f j)) (hb : base ≤ g) (hnc : n ≤ cap) (hcm : cap ≤ maxLen) : w.ownsRow base e 4 (.slice (some ⟨g, 0, none⟩) n cap) n xs := by
  obtain ⟨cur, hg, hsz, hc⟩ := h
  refine ⟨hx, Or.inr ⟨g, cap, cur, rfl, hb, hg, hnc, hcm, hsz, ?_⟩⟩
  apply List.ext_getElem?
  intro j
  by_cases hj : j < n * 4
  · rw [List.getElem?_take, if_pos hj, hf j hj, Array.getElem?_toList, hc j (by omega)]
  · rw [List.getElem?_eq_none (by rw [List.length_take]; omega), List.getElem?_eq_none (by omega)]

set_option maxRecDepth 100000 in
set_option maxHeartbeats 4000000 in
theorem Delete_I (g cap n i m base : Nat) (ts : List Bg.It) (w : World) (hown : w.ownsRow base 75 4 (.slice (some ⟨g, 0, none⟩) n cap) n (tv ts)) (hn : n = i + 1 + m) (_hn2 : n ≤ 1000000) (W0 : World) (hB : Below base W0 w) (_hb0 : base ≤ w.heap.size) :
    Calls Tryz.prog 104 #[.slice (some ⟨g, 0, none⟩) n cap, .int .i64 i, .int .i64 ((i : Int) + 1)] w fun e w' =>
      e = .returned (.slice (some ⟨g, 0, none⟩) (i + m) cap) ∧ w'.ownsRow base 75 4 (.slice (some ⟨g, 0, none⟩) (i + m) cap) (i + m) (tv (ts.take i ++ ts.drop (i + 1))) ∧ Below base W0 w' := by
  obtain ⟨i0, hi0, hz0, hz1, hz2⟩ := info_parts Tryz.infoItem
  obtain ⟨f, hrow, hf, hbg, hnc, hcm⟩ := rowIs_own hown
  have hlen : ts.length = n := by have := hown.1; rw [tv_length] at this; omega
  unfold maxLen at hcm
  obtain ⟨news, hnews⟩ : ∃ news, news = tv (ts.drop (i + 1)) := ⟨_, rfl⟩
  have hnl : news.length = m * 4 := by rw [hnews, tv_length, List.length_drop]; omega
  have hrowd : w.drew.rowIs g 75 (cap * 4) f := hrow
  have hcell : ∀ j, j < cap * 4 → w.drew.cell? ⟨g, j, none⟩ = some (f j) := fun j hj => by
    obtain ⟨cur, h1, h2, h3⟩ := hrow
    have := cell_of_row w g j cur _ (0, 0) h1
    show w.cell? _ = _
    rw [this, h3 j hj]
  have hfz : ∀ j, w.drew.frozen? ⟨g, j, none⟩ = false := fun j => hown.frozenAt j
  obtain ⟨A, hA, hsrc⟩ : ∃ A : Addr, (if cap = i + 1 then some (⟨g, 0, none⟩ : Addr) else some ⟨g, (i + 1) * 4, none⟩) = some A ∧ Hid (∀ t u, news[t]? = some u → w.drew.cell? (A.add t) = some u) := by
    by_cases h : cap = i + 1
    · refine ⟨⟨g, 0, none⟩, by simp [h], Lib.hid fun t u hu => ?_⟩
      have h0 : news.length = 0 := by rw [hnl]; omega
      rw [List.length_eq_zero_iff.1 h0] at hu
      simp at hu
    · refine ⟨⟨g, (i + 1) * 4, none⟩, by simp [h], Lib.hid fun t u hu => ?_⟩
      have ht : t < m * 4 := by
        have := (List.getElem?_eq_some_iff.1 hu).1
        rwa [hnl] at this
      rw [hnews, tv_drop, List.getElem?_drop, hf _ (by omega)] at hu
      rw [addr_lit, hcell _ (by omega)]
      exact hu
  have s1 : Hid (news.length = m * 4) := Lib.hid hnl
  have s2 : Hid (∀ u ∈ news, u.oneCell' = true) := Lib.hid (by rw [hnews]; exact tv_one _)
  have s3 : Hid (∀ t, t < news.length → (w.drew.cell? ⟨g, 0 + i * 4 + t, none⟩).isSome = true ∧ w.drew.frozen? ⟨g, 0 + i * 4 + t, none⟩ = false) := Lib.hid (by
    intro t ht
    rw [hnl] at ht
    rw [Nat.zero_add]
    exact ⟨by rw [hcell _ (by omega)]; rfl, hfz _⟩)
  obtain ⟨W1, hW1⟩ : ∃ W1, W1 = w.drew.setCells g (0 + i * 4) news := ⟨_, rfl⟩
  have hr1 := rowIs_setCells news (0 + i * 4) w.drew f hrowd
  rw [← hW1] at hr1
  have hcl : ∀ ty, (Builtin.clear_ #[30] ty #[.slice (some ⟨g, (i + m) * 4, none⟩) 1 (cap - (i + m))]).run Tryz.prog W1 = .ok (.tuple #[]) (W1.setCells g ((i + m) * 4) [.int .i64 0, .int .i64 0, .string ⟨#[]⟩, .int .i64 0]) := fun ty => by
    obtain ⟨cur, h1, h2, h3⟩ := hr1
    exact run_clear_one W1 ty g ((i + m) * 4) _ (fun j hj => by rw [cell_of_row W1 g _ cur _ (0, 0) h1, h3 _ (by omega)]; rfl) (fun j _ => by rw [hW1, World.frozen?_setCells]; exact hfz _)
  have hr2 := rowIs_setCells [.int .i64 0, .int .i64 0, .string ⟨#[]⟩, .int .i64 0] ((i + m) * 4) W1 _ hr1
  have HF : Hid ((W1.setCells g ((i + m) * 4) [.int .i64 0, .int .i64 0, .string ⟨#[]⟩, .int .i64 0]).ownsRow base 75 4 (.slice (some ⟨g, 0, none⟩) (i + m) cap) (i + m) (tv (ts.take i ++ ts.drop (i + 1))) ∧ Below base W0 (W1.setCells g ((i + m) * 4) [.int .i64 0, .int .i64 0, .string ⟨#[]⟩, .int .i64 0])) := Lib.hid ⟨own_rowIs hr2 (by rw [tv_length, List.length_append, List.length_take, List.length_drop]; omega) (fun j hj => by
      rw [if_neg (by omega)]
      rw [tv_app, ← hnews]
      have hl1 : (tv (ts.take i)).length = i * 4 := by rw [tv_length, List.length_take]; omega
      by_cases h : j < i * 4
      · rw [if_neg (by omega), List.getElem?_append_left (by omega), tv_take, List.getElem?_take, if_pos h, hf j (by omega)]
      · rw [if_pos (by omega), List.getElem?_append_right (by omega), hl1, Nat.zero_add, List.getElem?_eq_getElem (by omega)]
        simp) hbg (by omega) (by unfold maxLen; omega), by
      rw [hW1]
      exact below_setCells hbg _ _ _ (below_setCells hbg _ _ _ hB.drew)⟩
  have hW : Hid (W1 = w.drew.setCells g (0 + i * 4) news) := Lib.hid hW1
  have hic : i ≤ cap := by omega
  have hjc : i + 1 ≤ cap := by omega
  have hmn : n - (i + 1) = m := by omega
  have h1n : n - (i + m) = 1 := by omega
  have hin : (i : Int) + 1 ≤ (n : Int) := by omega
  have h0i : (0 : Int) ≤ (i : Int) + 1 := by omega
  have hne : ((i : Int) == (i : Int) + 1) = false := beq_eq_false_iff_ne.2 (by omega)
  have him : (i : Int) + (m : Int) ≤ (n : Int) := by omega
  have t1 : ((i : Int) + 1).toNat = i + 1 := by omega
  have hcc : cap - (i + 1) + (i + 1) = cap := by omega
  clear hW1 hr1 hr2 hrow hrowd hcell hfz hnews hnl hf hown hB hlen hn
  go_enter Tryz.func104, Tryz.ntmps104
  go_wp2_with fail
  go_region_law (refine step_append_room rfl (.tmp 22) (.tmp 25) 30 rfl 75 i0 4 Tryz.underlying30 hi0 hz1 g 0 i cap (by simp [Act.eval, Act.put]) A m (cap - (i + 1)) news (by simp [Act.eval, Act.put]) s1.out hsrc.out s2.out (by omega) s3.out ?_; rw [← hW.out])
  go_wp2_with fail
  go_ret
  exact ⟨rfl, HF.out⟩

end Go.Proofs.YtenkdpogdfcbgaaGreat

/- The walk of slices.Insert at items. -/
namespace Go.Proofs.YtenkdpogdfcbgaaGreat
open Go.RowKit

theorem below_grown {w w' : World} (h : Below w.heap.size w w') (row : Option Nat) : w.grownBy w' row := ⟨h.os, h.tape, h.output, h.size, fun k hk _ => h.block k hk⟩

theorem setCells_grown (w : World) (g : Nat) : ∀ (Z : List Value) (o : Nat), w.grownBy (w.setCells g o Z) (some g) := fun Z => by
  suffices ∀ (W : World) (o : Nat), w.grownBy W (some g) → w.grownBy (W.setCells g o Z) (some g) from fun o => this w o (Lib.Hx.grownBy_refl _ _)
  induction Z with
  | nil => intro W o h; exact h
  | cons u Z ih => intro W o h; exact ih _ _ (Lib.Hx.grownBy_set h _ rfl u)

theorem own_block_lt {w : World} {base n size : Nat} {e : TypeId} {v : Value} {xs : List Value} (h : w.ownsRow base e size v n xs) : ∀ k, v.ownBlock = some k → k < w.heap.size := by
  intro k hk
  rcases h.2 with ⟨rfl, _⟩ | ⟨g, cap, cur, rfl, hb, hh, _⟩
  · cases hk
  · cases hk
    rcases Nat.lt_or_ge g w.heap.size with h | h
    · exact h
    · rw [Array.getElem?_eq_none h] at hh; cases hh

section
variable {P : Program}
theorem run_copy_cells4 (w : World) (dT sT ty elem : TypeId) (b o dLen dCap : Nat) (a : Addr) (sLen sCap m : Nat) (cs : List Value)
    (hu : P.underlying dT = some (.slice elem)) (hs : (P.info? elem).map (·.size) = some 4) (hm : m = Nat.min sLen dLen) (hn : cs.length = m * 4)
    (hsrc : ∀ j v, cs[j]? = some v → w.cell? (a.add j) = some v) (hc : ∀ j, j < cs.length → (w.cell? ⟨b, o + j, none⟩).isSome = true) (hf : ∀ j, j < cs.length → w.frozen? ⟨b, o + j, none⟩ = false) (h1 : ∀ v ∈ cs, v.oneCell' = true) :
    (Builtin.copy_ #[dT, sT] ty #[.slice (some ⟨b, o, none⟩) dLen dCap, .slice (some a) sLen sCap]).run P w = .ok (goInt m) (w.setCells b o cs) := by
  have hl := run_loadCells_list (P := P) w a cs hsrc
  rw [hn] at hl
  have hst := run_storeCells_cells (P := P) b o cs 0 w (by simpa using hc) (by simpa using hf) h1
  cases hq : P.info? elem with
  | none => simp [hq] at hs
  | some i =>
    have hi : i.size = 4 := by simpa [hq] using hs
    simp [Builtin.copy_, run_underlying hu, Builtin.lenOf, Builtin.firstCells, sizeOf, typeInfo, hq, hi, ← hm, hl, hst]

theorem wp_copy_run2 (w : World) {o : Oper} {a : Act} {K : Act → World → Prop} {Q : Exit → Act → World → Prop} (d s : Operand) (t t' : TypeId)
    (ho : o.op = .call { callee := .builtin .copy, args := #[d, s], argTypes := #[t, t'] }) (v u : Value) (hd : a.eval d = v) (hs : a.eval s = u) {v' : Value} {w' : World}
    (hr : (Builtin.copy_ #[t, t'] o.type #[v, u]).run P w = .ok v' w') (h : K (a.put o.dst v') w') : o.wp P a w K Q := by
  unfold Oper.wp execOp
  simp only [ho, resolve, invoke, builtin, Sem.run_bind, Sem.run_pure, Result.andThen_ok, List.map_toArray, List.map_cons, List.map_nil, hd, hs, hr]
  exact h

theorem wpList_copy_run2 (w : World) {ops : Array Oper} {rest : List Oper} {o : Oper} {a : Act} {Q : Exit → Act → World → Prop} (hgd : o.guard = none) (d s : Operand) (t t' : TypeId)
    (ho : o.op = .call { callee := .builtin .copy, args := #[d, s], argTypes := #[t, t'] }) (v u : Value) (hd : a.eval d = v) (hs : a.eval s = u) {v' : Value} {w' : World}
    (hr : (Builtin.copy_ #[t, t'] o.type #[v, u]).run P w = .ok v' w') (h : wpList P ops Q rest (a.put o.dst v') w') : wpList P ops Q (o :: rest) a w :=
  wpList_plain hgd fun _ hK => wp_copy_run2 w d s t t' ho v u hd hs hr (hK _ _ h)

theorem step_copy_run2 {ops : Array Oper} {o : Oper} {a : Act} {w : World} {K : Act → World → Prop} {Q : Exit → Act → World → Prop} {E : Prop}
    (hg : o.guard = none) (d x : Operand) (dT sT : TypeId) (hop : o.op = Op.call { callee := Callee.builtin Builtin.copy, args := #[d, x], argTypes := #[dT, sT] })
    (v u : Value) (hd : a.eval d = v) (hx : a.eval x = u) {v' : Value} {w' : World} (hr : (Builtin.copy_ #[dT, sT] o.type #[v, u]).run P w = .ok v' w') (hK : K (a.put o.dst v') w') :
    if Region.wanted o (yielded ops a.tmps) = true then Oper.wp P o a w K Q else E := by
  have hw : Region.wanted o (yielded ops a.tmps) = true := by simp [Region.wanted, hg]
  rw [if_pos hw]
  unfold Oper.wp
  simp [execOp, hop, resolve, invoke, builtin, hd, hx, hr, Result.andThen]
  exact hK
end

theorem rowIs_cell {w : World} {g N : Nat} {e : TypeId} {f : Nat → Value} (h : w.rowIs g e N f) {j : Nat} (hj : j < N) : w.cell? ⟨g, j, none⟩ = some (f j) := by
  obtain ⟨cur, h1, h2, h3⟩ := h
  rw [cell_of_row w g j cur _ (0, 0) h1, h3 j hj]

theorem rowIs_frozen {w : World} {g N : Nat} {e : TypeId} {f : Nat → Value} (h : w.rowIs g e N f) (j : Nat) : w.frozen? ⟨g, j, none⟩ = false := by
  obtain ⟨cur, h1, h2, h3⟩ := h
  unfold World.frozen?
  rw [h1]
  simp

theorem rowIs_shape {w : World} {g N : Nat} {e : TypeId} {f : Nat → Value} (h : w.rowIs g e N f) : w.shape? g = some (e, N) := by
  obtain ⟨cur, h1, h2, h3⟩ := h
  unfold World.shape?
  rw [h1, ← h2]

theorem rowIs_drew {w : World} {g N : Nat} {e : TypeId} {f : Nat → Value} (h : w.rowIs g e N f) : w.drew.rowIs g e N f := h

set_option maxRecDepth 100000 in
set_option maxHeartbeats 8000000 in
/-- There is room. -/
theorem Insert_room (g c n i base vb : Nat) (x y q : Int) (z : ByteArray) (ts : List Bg.It) (w : World) (hown : w.ownsRow base 75 4 (.slice (some ⟨g, 0, none⟩) n c) n (tv ts)) (hi : i < n) (hn : n ≤ 64) (hroom : n + 1 ≤ c)
    (hvb : vb ≠ g) (hv : w.rowIs vb 75 4 (fun j => [Value.int .i64 x, .int .i64 y, .string z, .int .i64 q].getD j (.int .i64 0))) :
    Calls Tryz.prog 107 #[.slice (some ⟨g, 0, none⟩) n c, .int .i64 i, .slice (some ⟨vb, 0, none⟩) 1 1] w fun e w' =>
      ∃ a' c', e = .returned (.slice a' (n + 1) c') ∧ w'.ownsRow base 75 4 (.slice a' (n + 1) c') (n + 1) (tv (ts.take i ++ ⟨x, y, z, q⟩ :: ts.drop i)) ∧ w.grownBy w' (some g) ∧ (∀ j, (Value.slice a' (n + 1) c').ownBlock = some j → some g = some j ∨ j = w.heap.size) := by
  obtain ⟨f, hrow, hf, hbg, hnc, hcm⟩ := rowIs_own hown
  have hlen : ts.length = n := by have := hown.1; rw [tv_length] at this; omega
  unfold maxLen at hcm
  obtain ⟨i0, hi0, hz0, hz1, hz2⟩ := info_parts Tryz.infoItem
  have hsz : (Tryz.prog.info? 75).map (·.size) = some 4 := by rw [hi0]; simp [hz1]
  obtain ⟨D, hD⟩ : ∃ D, D = tv (ts.drop i) := ⟨_, rfl⟩
  have hDl : D.length = (n - i) * 4 := by rw [hD, tv_length, List.length_drop, hlen]
  have hD1 : ∀ u ∈ D, u.oneCell' = true := by rw [hD]; exact tv_one _
  have hDf : ∀ j u, D[j]? = some u → f (i * 4 + j) = u := fun j u hu => by
    have hj : j < (n - i) * 4 := by rw [← hDl]; exact (List.getElem?_eq_some_iff.1 hu).1
    rw [hD, tv_drop, List.getElem?_drop, hf _ (by omega)] at hu
    exact Option.some.inj hu
  have hov : ∀ lb cb, (callFunc 113 #[.slice (some ⟨vb, 0, none⟩) 1 1, .slice (some ⟨g, (i + 1) * 4, none⟩) lb cb]).run Tryz.prog w = .ok (.value (.bool false)) w := fun lb cb => by
    rw [run_callFunc_extern Tryz.func113 (by kernel_rfl) (by kernel_rfl) (by kernel_rfl) (e := Extern.SlicesOverlaps.overlaps #[30, 30] #[4]) (by kernel_rfl),
      Lib.run_overlaps_apart w 30 4 75 Tryz.underlying30 4 Tryz.sizeOf75 ⟨vb, 0, none⟩ ⟨g, (i + 1) * 4, none⟩ 1 1 lb cb hvb _ _ _ _ (rowIs_shape hv) (rowIs_shape hrow) (by omega) (rowIs_frozen hv _) (rowIs_frozen hv _)]
    rfl
  have hcp1 : ∀ ty dc sc, (Builtin.copy_ #[30, 30] ty #[.slice (some ⟨g, (i + 1) * 4, none⟩) (n - i) dc, .slice (some ⟨g, i * 4, none⟩) (n + 1 - i) sc]).run Tryz.prog w.drew = .ok (goInt ((n - i : Nat) : Int)) (w.drew.setCells g ((i + 1) * 4) D) := fun ty dc sc =>
    run_copy_cells4 w.drew _ _ ty 75 g ((i + 1) * 4) (n - i) dc ⟨g, i * 4, none⟩ (n + 1 - i) sc (n - i) D Tryz.underlying30 hsz (by simp only [Nat.min_def]; split <;> omega) hDl
      (fun j v hj => by rw [addr_lit, rowIs_cell (rowIs_drew hrow) (by have := (List.getElem?_eq_some_iff.1 hj).1; omega), hDf j v hj])
      (fun j hj => by rw [rowIs_cell (rowIs_drew hrow) (by omega)]; rfl) (fun j hj => rowIs_frozen (rowIs_drew hrow) _) hD1
  obtain ⟨W1, hW1⟩ : ∃ W1, W1 = w.drew.setCells g ((i + 1) * 4) D := ⟨_, rfl⟩
  have hr1 := rowIs_setCells D ((i + 1) * 4) w.drew f (rowIs_drew hrow)
  rw [← hW1] at hr1 hcp1
  have hvw : vb < w.heap.size := by
    obtain ⟨cur, h1, -⟩ := hv
    rcases Nat.lt_or_ge vb w.heap.size with h | h
    · exact h
    · rw [Array.getElem?_eq_none h] at h1; cases h1
  have hv1 : ∀ j, W1.cell? ⟨vb, j, none⟩ = w.cell? ⟨vb, j, none⟩ := fun j => by
    rw [hW1, World.cell?_setCells_out g _ _ _ _ (fun h _ => absurd h hvb)]
    rfl
  have hcp2 : ∀ (W : World), (∀ x, W.cell? x = W1.cell? x) → (∀ x, W.frozen? x = W1.frozen? x) → ∀ ty dc, (Builtin.copy_ #[30, 30] ty #[.slice (some ⟨g, i * 4, none⟩) (n + 1 - i) dc, .slice (some ⟨vb, 0, none⟩) 1 1]).run Tryz.prog W = .ok (goInt ((1 : Nat) : Int)) (W.setCells g (i * 4) [.int .i64 x, .int .i64 y, .string z, .int .i64 q]) := fun W hWc hWf ty dc =>
    run_copy_cells4 W _ _ ty 75 g (i * 4) (n + 1 - i) dc ⟨vb, 0, none⟩ 1 1 1 [.int .i64 x, .int .i64 y, .string z, .int .i64 q] Tryz.underlying30 hsz (by simp only [Nat.min_def]; split <;> omega) rfl
      (fun j v hj => by
        rw [addr_lit, Nat.zero_add, hWc, hv1]
        rcases j with _ | _ | _ | _ | j
        · rw [rowIs_cell hv (by omega)]; exact hj
        · rw [rowIs_cell hv (by omega)]; exact hj
        · rw [rowIs_cell hv (by omega)]; exact hj
        · rw [rowIs_cell hv (by omega)]; exact hj
        · simp at hj)
      (fun j hj => by
        have hj' : j < 4 := hj
        rw [hWc, rowIs_cell hr1 (by omega)]; rfl)
      (fun j hj => by rw [hWf]; exact rowIs_frozen hr1 _) (item_ones x y z q)
  have hr2 := rowIs_setCells [.int .i64 x, .int .i64 y, .string z, .int .i64 q] (i * 4) W1 _ hr1
  have HF : Hid ((W1.setCells g (i * 4) [.int .i64 x, .int .i64 y, .string z, .int .i64 q]).ownsRow base 75 4 (.slice (some ⟨g, 0, none⟩) (n + 1) c) (n + 1) (tv (ts.take i ++ ⟨x, y, z, q⟩ :: ts.drop i)) ∧ w.grownBy (W1.setCells g (i * 4) [.int .i64 x, .int .i64 y, .string z, .int .i64 q]) (some g)) := Lib.hid ⟨own_rowIs hr2 (by rw [tv_length, List.length_append, List.length_cons, List.length_take, List.length_drop]; omega) (fun j hj => by
      have hl1 : (tv (ts.take i)).length = i * 4 := by rw [tv_length, List.length_take]; omega
      rw [tv_app]
      by_cases h : j < i * 4
      · rw [List.getElem?_append_left (by omega), tv_take, List.getElem?_take, if_pos h, hf j (by omega)]
        rw [if_neg (by simp only [List.length_cons, List.length_nil]; omega), if_neg (by omega)]
      · rw [List.getElem?_append_right (by omega), hl1]
        rw [tv]
        by_cases h2 : j < i * 4 + 4
        · rw [if_pos ⟨by omega, by simp only [List.length_cons, List.length_nil]; omega⟩]
          obtain rfl | rfl | rfl | rfl : j = i * 4 ∨ j = i * 4 + 1 ∨ j = i * 4 + 2 ∨ j = i * 4 + 3 := by omega
          · rw [Nat.sub_self]; rfl
          · rw [show i * 4 + 1 - i * 4 = 1 by omega]; rfl
          · rw [show i * 4 + 2 - i * 4 = 2 by omega]; rfl
          · rw [show i * 4 + 3 - i * 4 = 3 by omega]; rfl
        · rw [if_neg (by simp only [List.length_cons, List.length_nil]; omega), if_pos (by omega)]
          obtain ⟨m, rfl⟩ : ∃ m, j = i * 4 + 4 + m := ⟨j - (i * 4 + 4), by omega⟩
          rw [show i * 4 + 4 + m - i * 4 = m + 4 by omega, show i * 4 + 4 + m - (i + 1) * 4 = m by omega]
          rw [List.getElem?_cons_succ, List.getElem?_cons_succ, List.getElem?_cons_succ, List.getElem?_cons_succ, ← hD, List.getElem?_eq_getElem (by omega)]
          simp) hbg hroom (by unfold maxLen; omega), by
      have h1 : w.grownBy w.drew (some g) := below_grown (Below.refl _ w).drew _
      rw [hW1]
      exact (h1.trans (setCells_grown _ g _ _)).trans (setCells_grown _ g _ _)⟩
  have HW := Lib.hid hW1
  have hz1 : ¬ ((i : Int) = (n : Int)) := by omega
  have hw1 : IntKind.i64.wrap ((i : Int) + 1) = (i : Int) + 1 := by rw [IntKind.wrap_i64]; omega
  have hb1 : (0 : Int) ≤ (i : Int) + 1 := by omega
  have hin : i ≤ n := by omega
  have htn : ((i : Int) + 1).toNat = i + 1 := by omega
  have hb2 : ¬ (c = i + 1) := by omega
  have hb3 : (i : Int) + 1 ≤ (n : Int) + 1 := by omega
  have hb4 : ¬ (c = i) := by omega
  have hb5 : (i : Int) ≤ (n : Int) + 1 := by omega
  have mixed : Tryz.prog.follows Departure.mixedOrders = true := by kernel_rfl
  clear hW1 hr1 hr2 hrow hv hv1 hvw hf hown hlen hD hDl hD1 hDf
  go_enter Tryz.func107, Tryz.ntmps107
  go_wp2_with (simp only [hov])
  go_region_law_o (refine step_copy_run2 rfl _ _ 30 30 rfl (.slice (some ⟨g, (i + 1) * 4, none⟩) (n - i) (c - (i + 1))) (.slice (some ⟨g, i * 4, none⟩) (n + 1 - i) (c - i)) (by simp [Act.eval, Act.put]) (by simp [Act.eval, Act.put]) (hcp1 _ _ _) ?_)
  go_wp2_with (at_builtin; refine wpList_copy_run2 _ rfl _ _ 30 30 rfl _ _ rfl rfl (hcp2 _ (fun _ => rfl) (fun _ => rfl) _ _) ?_)
  go_ret
  exact ⟨_, _, rfl, HF.out.1, HF.out.2, fun j hj => Or.inl hj⟩

set_option maxRecDepth 100000 in
set_option maxHeartbeats 8000000 in
/-- There is no room. -/
theorem Insert_grow (g n i base vb : Nat) (x y q : Int) (z : ByteArray) (ts : List Bg.It) (w : World) (hown : w.ownsRow base 75 4 (.slice (some ⟨g, 0, none⟩) n n) n (tv ts)) (hi : i < n) (hn : n ≤ 64) (hbw : base ≤ w.heap.size)
    (hv : w.rowIs vb 75 4 (fun j => [Value.int .i64 x, .int .i64 y, .string z, .int .i64 q].getD j (.int .i64 0))) :
    Calls Tryz.prog 107 #[.slice (some ⟨g, 0, none⟩) n n, .int .i64 i, .slice (some ⟨vb, 0, none⟩) 1 1] w fun e w' =>
      ∃ a' c', e = .returned (.slice a' (n + 1) c') ∧ w'.ownsRow base 75 4 (.slice a' (n + 1) c') (n + 1) (tv (ts.take i ++ ⟨x, y, z, q⟩ :: ts.drop i)) ∧ w.grownBy w' (some g) ∧ (∀ j, (Value.slice a' (n + 1) c').ownBlock = some j → some g = some j ∨ j = w.heap.size) := by
  obtain ⟨f, hrow, hf, hbg, hnc, hcm⟩ := rowIs_own hown
  have hlen : ts.length = n := by have := hown.1; rw [tv_length] at this; omega
  unfold maxLen at hcm
  obtain ⟨i0, hi0, hz0, hz1, hz2⟩ := info_parts Tryz.infoItem
  have hsz : (Tryz.prog.info? 75).map (·.size) = some 4 := by rw [hi0]; simp [hz1]
  have hgw : g < w.heap.size := own_block_lt hown g rfl
  obtain ⟨D, hD⟩ : ∃ D, D = tv (ts.drop i) := ⟨_, rfl⟩
  have hDl : D.length = (n - i) * 4 := by rw [hD, tv_length, List.length_drop, hlen]
  have hD1 : ∀ u ∈ D, u.oneCell' = true := by rw [hD]; exact tv_one _
  have hDf : ∀ j u, D[j]? = some u → f (i * 4 + j) = u := fun j u hu => by
    have hj : j < (n - i) * 4 := by rw [← hDl]; exact (List.getElem?_eq_some_iff.1 hu).1
    rw [hD, tv_drop, List.getElem?_drop, hf _ (by omega)] at hu
    exact Option.some.inj hu
  have hvw : vb < w.heap.size := by
    obtain ⟨cur, h1, -⟩ := hv
    rcases Nat.lt_or_ge vb w.heap.size with h | h
    · exact h
    · rw [Array.getElem?_eq_none h] at h1; cases h1
  have hTl : (tv (ts.take i)).length = i * 4 := by rw [tv_length, List.length_take]; omega
  have hold : (Builtin.firstCells i0.size i (.slice (some ⟨g, 0, none⟩) i n)).run Tryz.prog w.drew = .ok (tv (ts.take i)).toArray w.drew := by
    rw [hz1]
    refine run_firstCells_some w.drew 4 i ⟨g, 0, none⟩ i n (tv (ts.take i)) hTl (fun j v hj => ?_)
    have hj2 : j < i * 4 := by rw [← hTl]; exact (List.getElem?_eq_some_iff.1 hj).1
    rw [addr_lit, Nat.zero_add, rowIs_cell (rowIs_drew hrow) (by omega)]
    rw [tv_take, List.getElem?_take, if_pos hj2, hf j (by omega)] at hj
    exact hj
  obtain ⟨G, hG⟩ : ∃ G, G = grownCap w (n + 1) n 75 := ⟨_, rfl⟩
  have hGn : n + 1 ≤ G := by rw [hG]; exact grownCap_ge w _ _ _
  have hG63 : G ≤ maxLen := by rw [hG]; exact grownCap_le_maxLen w (n + 1) n 75 (by unfold maxLen; omega)
  obtain ⟨ROW, hROW⟩ : ∃ ROW : Array Value, ROW = (tv (ts.take i)).toArray ++ Builtin.zeroCells (Value.agg #[.int .i64 0, .int .i64 0, .string ⟨#[]⟩, .int .i64 0]).cells (n + 1 - i) ++ Builtin.zeroCells (Value.agg #[.int .i64 0, .int .i64 0, .string ⟨#[]⟩, .int .i64 0]).cells (G - (n + 1)) := ⟨_, rfl⟩
  have hrz : ∀ ty, (Builtin.append_ #[30, 3] ty #[.slice (some ⟨g, 0, none⟩) i n, .int .i64 ((n : Int) + 1 - (i : Int))]).run Tryz.prog w =
      .ok (.slice (some ⟨w.heap.size, 0, none⟩) (n + 1) G) (w.drew.alloc (.cells ROW 75)) := fun ty => by
    have h := Lib.run_append_grow_zeros w 30 3 ty 75 i0 _ .i64 .i64 Tryz.underlying30 Tryz.underlying3 hi0 hz0 (some ⟨g, 0, none⟩) i n (tv (ts.take i)) hold (n + 1 - i) (by omega) (by omega) (by omega) (by omega) (by rw [hz2]; omega) (by
      rw [hz2, show i + (n + 1 - i) = n + 1 by omega]
      exact growslice_fits (by omega) (by omega))
    rw [show i + (n + 1 - i) = n + 1 by omega, ← hG, ← hROW] at h
    rw [show (n : Int) + 1 - (i : Int) = ((n + 1 - i : Nat) : Int) by omega]
    exact h
  have hRs : ROW.size = G * 4 := by
    rw [hROW, Array.size_append, Array.size_append, size_zeroCells, size_zeroCells, List.size_toArray, hTl]
    show i * 4 + (n + 1 - i) * 4 + (G - (n + 1)) * 4 = G * 4
    omega
  have hRt : ∀ j, j < i * 4 → ROW.getD j default = f j := fun j hj => by
    have h1 : ROW[j]? = (tv (ts.take i))[j]? := by
      rw [hROW, Array.getElem?_append_left (by rw [Array.size_append, size_zeroCells, List.size_toArray, hTl]; omega), Array.getElem?_append_left (by rw [List.size_toArray, hTl]; exact hj), List.getElem?_toArray]
    rw [tv_take, List.getElem?_take, if_pos hj, hf j (by omega)] at h1
    rw [Array.getD_eq_getD_getElem?, h1]
    rfl
  obtain ⟨W1, hW1⟩ : ∃ W1, W1 = w.drew.alloc (.cells ROW 75) := ⟨_, rfl⟩
  obtain ⟨N, hN⟩ : ∃ N, N = w.heap.size := ⟨_, rfl⟩
  have hrow1 : W1.rowIs N 75 (G * 4) (fun j => ROW.getD j default) := ⟨ROW, by
    rw [hW1, hN]
    show (w.heap.push _)[w.heap.size]? = _
    rw [Array.getElem?_push, if_pos rfl], hRs, fun j hj => by
      show ROW[j]? = some (ROW.getD j default)
      rw [Array.getD_eq_getD_getElem?, Array.getElem?_eq_getElem (by omega)]
      rfl⟩
  have hold1 : ∀ b j, b < N → W1.cell? ⟨b, j, none⟩ = w.cell? ⟨b, j, none⟩ := fun b j hb => by
    rw [hW1, World.cell?_alloc_past _ _ _ (by show b < w.heap.size; omega)]
    rfl
  have hgr1 : w.grownBy W1 (some g) := by
    rw [hW1]
    exact below_grown (((Below.refl _ w).drew).alloc (Nat.le_refl _) _) _
  have hcpA : ∀ (W : World), (∀ x, W.cell? x = W1.cell? x) → (∀ x, W.frozen? x = W1.frozen? x) → ∀ ty dc, (Builtin.copy_ #[30, 30] ty #[.slice (some ⟨N, i * 4, none⟩) (n + 1 - i) dc, .slice (some ⟨vb, 0, none⟩) 1 1]).run Tryz.prog W = .ok (goInt ((1 : Nat) : Int)) (W.setCells N (i * 4) [.int .i64 x, .int .i64 y, .string z, .int .i64 q]) := fun W hWc hWf ty dc =>
    run_copy_cells4 W _ _ ty 75 N (i * 4) (n + 1 - i) dc ⟨vb, 0, none⟩ 1 1 1 [.int .i64 x, .int .i64 y, .string z, .int .i64 q] Tryz.underlying30 hsz (by simp only [Nat.min_def]; split <;> omega) rfl
      (fun j v hj => by
        rw [addr_lit, Nat.zero_add, hWc, hold1 _ _ (by omega)]
        rcases j with _ | _ | _ | _ | j
        · rw [rowIs_cell hv (by omega)]; exact hj
        · rw [rowIs_cell hv (by omega)]; exact hj
        · rw [rowIs_cell hv (by omega)]; exact hj
        · rw [rowIs_cell hv (by omega)]; exact hj
        · simp at hj)
      (fun j hj => by
        have hj' : j < 4 := hj
        rw [hWc, rowIs_cell hrow1 (by omega)]; rfl)
      (fun j hj => by rw [hWf]; exact rowIs_frozen hrow1 _) (item_ones x y z q)
  have hr2 := rowIs_setCells [.int .i64 x, .int .i64 y, .string z, .int .i64 q] (i * 4) W1 _ hrow1
  obtain ⟨W2, hW2⟩ : ∃ W2, W2 = W1.setCells N (i * 4) [.int .i64 x, .int .i64 y, .string z, .int .i64 q] := ⟨_, rfl⟩
  rw [← hW2] at hr2
  have hcpB : ∀ (W : World), (∀ x, W.cell? x = W2.cell? x) → (∀ x, W.frozen? x = W2.frozen? x) → ∀ ty dc sc, (Builtin.copy_ #[30, 30] ty #[.slice (some ⟨N, (i + 1) * 4, none⟩) (n - i) dc, .slice (some ⟨g, i * 4, none⟩) (n - i) sc]).run Tryz.prog W = .ok (goInt ((n - i : Nat) : Int)) (W.setCells N ((i + 1) * 4) D) := fun W hWc hWf ty dc sc =>
    run_copy_cells4 W _ _ ty 75 N ((i + 1) * 4) (n - i) dc ⟨g, i * 4, none⟩ (n - i) sc (n - i) D Tryz.underlying30 hsz (by simp only [Nat.min_def]; split <;> omega) hDl
      (fun j v hj => by
        rw [addr_lit, hWc, hW2, World.cell?_setCells_out N _ _ _ _ (fun h _ => by have h' : g = N := h; omega), hold1 _ _ (by omega), rowIs_cell hrow (by have := (List.getElem?_eq_some_iff.1 hj).1; omega), hDf j v hj])
      (fun j hj => by rw [hWc, rowIs_cell hr2 (by omega)]; rfl) (fun j hj => by rw [hWf]; exact rowIs_frozen hr2 _) hD1
  have hr3 := rowIs_setCells D ((i + 1) * 4) W2.drew _ (rowIs_drew hr2)
  obtain ⟨W3, hW3⟩ : ∃ W3, W3 = W2.drew.setCells N ((i + 1) * 4) D := ⟨_, rfl⟩
  rw [← hW3] at hr3
  have hgN : some g ≠ some N := by intro e; cases e; omega
  have HF : Hid (W3.ownsRow base 75 4 (.slice (some ⟨N, 0, none⟩) (n + 1) G) (n + 1) (tv (ts.take i ++ ⟨x, y, z, q⟩ :: ts.drop i)) ∧ w.grownBy W3 (some g)) := Lib.hid ⟨own_rowIs hr3 (by rw [tv_length, List.length_append, List.length_cons, List.length_take, List.length_drop]; omega) (fun j hj => by
      rw [tv_app]
      by_cases h : j < i * 4
      · rw [List.getElem?_append_left (by omega), tv_take, List.getElem?_take, if_pos h, hf j (by omega)]
        rw [if_neg (by omega), if_neg (by omega), hRt j h]
      · rw [List.getElem?_append_right (by omega), hTl]
        rw [tv]
        by_cases h2 : j < i * 4 + 4
        · rw [if_neg (by omega), if_pos ⟨by omega, by simp only [List.length_cons, List.length_nil]; omega⟩]
          obtain rfl | rfl | rfl | rfl : j = i * 4 ∨ j = i * 4 + 1 ∨ j = i * 4 + 2 ∨ j = i * 4 + 3 := by omega
          · rw [Nat.sub_self]; rfl
          · rw [show i * 4 + 1 - i * 4 = 1 by omega]; rfl
          · rw [show i * 4 + 2 - i * 4 = 2 by omega]; rfl
          · rw [show i * 4 + 3 - i * 4 = 3 by omega]; rfl
        · rw [if_pos (by omega)]
          obtain ⟨m, rfl⟩ : ∃ m, j = i * 4 + 4 + m := ⟨j - (i * 4 + 4), by omega⟩
          rw [show i * 4 + 4 + m - i * 4 = m + 4 by omega, show i * 4 + 4 + m - (i + 1) * 4 = m by omega]
          rw [List.getElem?_cons_succ, List.getElem?_cons_succ, List.getElem?_cons_succ, List.getElem?_cons_succ, ← hD, List.getElem?_eq_getElem (by omega)]
          simp) (by omega) hGn hG63, by
      rw [hW3, hW2]
      have h1 := setCells_grown W1 N [.int .i64 x, .int .i64 y, .string z, .int .i64 q] (i * 4)
      have h2 := (h1.trans (below_grown (Below.refl _ _).drew _)).trans (setCells_grown _ N D ((i + 1) * 4))
      refine ⟨h2.os.trans hgr1.os, h2.tape.trans hgr1.tape, h2.output.trans hgr1.output, Nat.le_trans hgr1.size h2.size, fun b hb hne => ?_⟩
      rw [h2.block b (Nat.lt_of_lt_of_le hb hgr1.size) (by intro e; cases e; omega)]
      exact hgr1.block b hb hne⟩
  have hz1' : ¬ ((i : Int) = (n : Int)) := by omega
  have hw1 : IntKind.i64.wrap ((i : Int) + 1) = (i : Int) + 1 := by rw [IntKind.wrap_i64]; omega
  have hb1 : (0 : Int) ≤ (i : Int) + 1 := by omega
  have hin : i ≤ n := by omega
  have htn : ((i : Int) + 1).toNat = i + 1 := by omega
  have hb2 : ¬ (G = i + 1) := by omega
  have hb3 : (i : Int) + 1 ≤ (n : Int) + 1 := by omega
  have hb4 : ¬ (G = i) := by omega
  have hb5 : (i : Int) ≤ (n : Int) + 1 := by omega
  have hb6 : ¬ (n = i) := by omega
  have hb7 : (i : Int) ≤ (n : Int) := by omega
  have mixed : Tryz.prog.follows Departure.mixedOrders = true := by kernel_rfl
  have HW1 : Hid (W1 = w.drew.alloc (.cells ROW 75) ∧ W2 = W1.setCells N (i * 4) [.int .i64 x, .int .i64 y, .string z, .int .i64 q] ∧ W3 = W2.drew.setCells N ((i + 1) * 4) D) := Lib.hid ⟨hW1, hW2, hW3⟩
  rw [← hW1] at hrz
  subst hN
  clear hW1 hW2 hW3 hr2 hr3 hrow1 hrow hv hold1 hold hvw hf hown hlen hD hDl hD1 hDf hROW hRs hRt hG hTl hgr1 hgN
  go_enter Tryz.func107, Tryz.ntmps107
  go_wp2_with (first
    | (at_builtin; refine Lib.wpList_append_run _ rfl _ _ _ _ rfl _ _ rfl rfl _ _ (hrz _) ?_)
    | (at_builtin; refine wpList_copy_run2 _ rfl _ _ 30 30 rfl _ _ rfl rfl (hcpA _ (fun _ => rfl) (fun _ => rfl) _ _) ?_))
  go_region_law_o (refine step_copy_run2 rfl _ _ 30 30 rfl (.slice (some ⟨w.heap.size, (i + 1) * 4, none⟩) (n - i) (G - (i + 1))) (.slice (some ⟨g, i * 4, none⟩) (n - i) (n - i)) (by simp [Act.eval, Act.put]) (by simp [Act.eval, Act.put]) (hcpB _ (fun _ => by rw [HW1.out.2.1]; rfl) (fun _ => by rw [HW1.out.2.1]; rfl) _ _ _) ?_)
  go_wp2_with fail
  go_ret
  obtain ⟨h1, h2, h3⟩ := HW1.out
  refine ⟨_, _, rfl, ?_⟩
  have h := HF.out
  rw [h3, h2] at h
  exact ⟨h.1, h.2, fun j hj => Or.inr (Option.some.inj hj).symm⟩

set_option maxRecDepth 100000 in
set_option maxHeartbeats 8000000 in
/-- At the end. -/
theorem Insert_end (a : Option Addr) (n c base vb : Nat) (x y q : Int) (z : ByteArray) (ts : List Bg.It) (w : World) (hown : w.ownsRow base 75 4 (.slice a n c) n (tv ts)) (hn : n ≤ 64) (hbw : base ≤ w.heap.size)
    (hv : w.rowIs vb 75 4 (fun j => [Value.int .i64 x, .int .i64 y, .string z, .int .i64 q].getD j (.int .i64 0))) :
    Calls Tryz.prog 107 #[.slice a n c, .int .i64 n, .slice (some ⟨vb, 0, none⟩) 1 1] w fun e w' =>
      ∃ a' c', e = .returned (.slice a' (n + 1) c') ∧ w'.ownsRow base 75 4 (.slice a' (n + 1) c') (n + 1) (tv (ts ++ [⟨x, y, z, q⟩])) ∧ w.grownBy w' (Value.slice a n c).ownBlock ∧ (∀ j, (Value.slice a' (n + 1) c').ownBlock = some j → (Value.slice a n c).ownBlock = some j ∨ j = w.heap.size) := by
  obtain ⟨i0, hi, hz0, hz1, hz2⟩ := info_parts Tryz.infoItem
  have HO := Lib.hid hown
  have hlen : ts.length = n := by have := hown.1; rw [tv_length] at this; omega
  have H3 : Hid (∀ j u, [Value.int .i64 x, .int .i64 y, .string z, .int .i64 q][j]? = some u → w.cell? ((⟨vb, 0, none⟩ : Addr).add j) = some u) := Lib.hid fun j u hj => by
    rw [addr_lit, Nat.zero_add]
    rcases j with _ | _ | _ | _ | j
    · rw [rowIs_cell hv (by omega)]; exact hj
    · rw [rowIs_cell hv (by omega)]; exact hj
    · rw [rowIs_cell hv (by omega)]; exact hj
    · rw [rowIs_cell hv (by omega)]; exact hj
    · simp at hj
  have H5 : Hid (n + 1 ≤ maxLen ∧ (n + 1) * 40 ≤ 140737488355328) := Lib.hid ⟨by unfold maxLen; omega, by omega⟩
  have HS := Lib.hid hbw
  have HLL := Lib.hid hlen
  have hnc : n ≤ c := by
    obtain ⟨a', c', he, h⟩ := isl_own hown hlen
    cases he
    exact h.cap
  clear hown hv hbw hlen
  go_enter Tryz.func107, Tryz.ntmps107
  cases a with
  | none =>
    go_wp2_with (at_builtin; refine wpList_append_lies _ rfl _ _ _ rfl base 75 i0 (.agg #[.int .i64 0, .int .i64 0, .string ⟨#[]⟩, .int .i64 0]) 4 40 Tryz.underlying30 hi hz0 hz1 hz2 rfl (by decide) _ n (tv ts) rfl HO.out ⟨vb, 0, none⟩ 1 1 [.int .i64 x, .int .i64 y, .string z, .int .i64 q] rfl rfl H3.out (item_ones x y z q) (by decide) H5.out.1 H5.out.2 HS.out _ rfl ?_)
    all_goals
      intro g' cap' w' q1 q2 q3 _
      have HF := Lib.hid q1
      have HG := Lib.hid q2
      have HK := Lib.hid q3
      clear q1 q2 q3
      go_wp2_with fail
      go_ret
      exact ⟨_, _, rfl, by rw [tv_app]; exact HF.out, HG.out, fun j hj => by
        obtain rfl : g' = j := Option.some.inj hj
        exact HK.out⟩
  | some x0 =>
    obtain ⟨g, o, zz⟩ := x0
    go_wp2_with (at_builtin; refine wpList_append_lies _ rfl _ _ _ rfl base 75 i0 (.agg #[.int .i64 0, .int .i64 0, .string ⟨#[]⟩, .int .i64 0]) 4 40 Tryz.underlying30 hi hz0 hz1 hz2 rfl (by decide) _ n (tv ts) rfl HO.out ⟨vb, 0, none⟩ 1 1 [.int .i64 x, .int .i64 y, .string z, .int .i64 q] rfl rfl H3.out (item_ones x y z q) (by decide) H5.out.1 H5.out.2 HS.out _ rfl ?_)
    all_goals
      intro g' cap' w' q1 q2 q3 _
      have HF := Lib.hid q1
      have HG := Lib.hid q2
      have HK := Lib.hid q3
      clear q1 q2 q3
      go_wp2_with fail
      go_ret
      exact ⟨_, _, rfl, by rw [tv_app]; exact HF.out, HG.out, fun j hj => by
        obtain rfl : g' = j := Option.some.inj hj
        exact HK.out⟩

theorem Insert_I (a : Option Addr) (n c i base vb : Nat) (x y q : Int) (z : ByteArray) (ts : List Bg.It) (w : World) (hown : w.ownsRow base 75 4 (.slice a n c) n (tv ts)) (hi : i ≤ n) (hn : n ≤ 64) (hbw : base ≤ w.heap.size)
    (hvb : ∀ k, (Value.slice a n c).ownBlock = some k → vb ≠ k) (hv : w.rowIs vb 75 4 (fun j => [Value.int .i64 x, .int .i64 y, .string z, .int .i64 q].getD j (.int .i64 0))) :
    Calls Tryz.prog 107 #[.slice a n c, .int .i64 i, .slice (some ⟨vb, 0, none⟩) 1 1] w fun e w' =>
      ∃ a' c', e = .returned (.slice a' (n + 1) c') ∧ w'.ownsRow base 75 4 (.slice a' (n + 1) c') (n + 1) (tv (ts.take i ++ ⟨x, y, z, q⟩ :: ts.drop i)) ∧ w.grownBy w' (Value.slice a n c).ownBlock ∧ (∀ j, (Value.slice a' (n + 1) c').ownBlock = some j → (Value.slice a n c).ownBlock = some j ∨ j = w.heap.size) := by
  have hlen : ts.length = n := by have := hown.1; rw [tv_length] at this; omega
  by_cases h : i = n
  · subst h
    have := Insert_end a i c base vb x y q z ts w hown hn hbw hv
    rw [List.take_of_length_le (by omega), List.drop_of_length_le (by omega)]
    exact this
  · obtain ⟨g, rfl⟩ : ∃ g, a = some ⟨g, 0, none⟩ := by
      rcases hown.2 with ⟨-, h0⟩ | ⟨g, cap', cur, h, -⟩
      · omega
      · cases h; exact ⟨g, rfl⟩
    obtain ⟨f, -, -, -, hnc, -⟩ := rowIs_own hown
    by_cases hc : n + 1 ≤ c
    · exact Insert_room g c n i base vb x y q z ts w hown (by omega) hn hc (hvb g rfl) hv
    · obtain rfl : c = n := by omega
      exact Insert_grow g c i base vb x y q z ts w hown (by omega) hn hbw hv

end Go.Proofs.YtenkdpogdfcbgaaGreat

/- The walks of bag.cmp and of slices.BinarySearchFunc at items. -/
namespace Go.Proofs.YtenkdpogdfcbgaaGreat
open Go.RowKit

/-- An item within bounds. -/
def Bg.Fit (x : Bg.It) : Prop := 0 ≤ x.sum ∧ x.sum ≤ 70000 ∧ 0 ≤ x.n ∧ x.n ≤ 64

theorem Bg.cmp_lt {a b : Bg.It} : Bg.cmp a b < 0 ↔ a.sum < b.sum ∨ (a.sum = b.sum ∧ a.n < b.n) := by
  unfold Bg.cmp
  split <;> omega

theorem Bg.cmp_zero {a b : Bg.It} : Bg.cmp a b = 0 ↔ a.sum = b.sum ∧ a.n = b.n := by
  unfold Bg.cmp
  split <;> omega

set_option maxHeartbeats 1000000 in
theorem cmp_I (s n r s' n' r' : Int) (t t' : ByteArray) (w : World) (h : Bg.Fit ⟨s, n, t, r⟩) (h' : Bg.Fit ⟨s', n', t', r'⟩) :
    Calls Tryz.prog 76 #[.agg #[.int .i64 s, .int .i64 n, .string t, .int .i64 r], .agg #[.int .i64 s', .int .i64 n', .string t', .int .i64 r']] w fun e w' => e = .returned (.int .i64 (Bg.cmp ⟨s, n, t, r⟩ ⟨s', n', t', r'⟩)) ∧ Below w.heap.size w w' := by
  obtain ⟨h1, h2, h3, h4⟩ := h
  obtain ⟨g1, g2, g3, g4⟩ := h'
  dsimp only at h1 h2 h3 h4 g1 g2 g3 g4
  have HB : Hid (Below w.heap.size w ((w.alloc (.cells #[.int .i64 s, .int .i64 n, .string t, .int .i64 r] 75)).alloc (.cells #[.int .i64 s', .int .i64 n', .string t', .int .i64 r'] 75))) :=
    Lib.hid (((Below.refl _ w).alloc (Nat.le_refl _) _).alloc (by rw [World.size_alloc]; omega) _)
  by_cases e : s = s'
  · have hc : Bg.cmp ⟨s, n, t, r⟩ ⟨s', n', t', r'⟩ = n - n' := by unfold Bg.cmp; rw [if_pos e]
    rw [hc]
    subst e
    clear hc
    go_enter Tryz.func76, Tryz.ntmps76
    go_wp2_with fail
    go_ret
    exact ⟨rfl, HB.out⟩
  · have hc : Bg.cmp ⟨s, n, t, r⟩ ⟨s', n', t', r'⟩ = s - s' := by unfold Bg.cmp; rw [if_neg e]
    rw [hc]
    clear hc
    go_enter Tryz.func76, Tryz.ntmps76
    go_wp2_with fail
    go_ret
    exact ⟨rfl, HB.out⟩

/-- Four cells of a box of the call's own, and four of an item; what stands below. -/
abbrev S8 (w : World) (B b o : Nat) (s : Option Nat) (v0 v1 v2 v3 u0 u1 u2 u3 : Value) (V : World) : Prop :=
  V.cell? ⟨B, 0, none⟩ = some v0 ∧ V.cell? ⟨B, 1, none⟩ = some v1 ∧ V.cell? ⟨B, 2, none⟩ = some v2 ∧ V.cell? ⟨B, 3, none⟩ = some v3 ∧ V.cell? ⟨b, o, s⟩ = some u0 ∧ V.cell? ⟨b, o + 1, none⟩ = some u1 ∧ V.cell? ⟨b, o + 2, none⟩ = some u2 ∧ V.cell? ⟨b, o + 3, none⟩ = some u3 ∧ Below w.heap.size w V

theorem S8.on {w : World} {B b o : Nat} {s : Option Nat} {v0 v1 v2 v3 u0 u1 u2 u3 : Value} {V V' : World} (h : S8 w B b o s v0 v1 v2 v3 u0 u1 u2 u3 V) (hb : Below V.heap.size V V') : S8 w B b o s v0 v1 v2 v3 u0 u1 u2 u3 V' := by
  obtain ⟨a0, a1, a2, a3, b0, b1, b2, b3, hB⟩ := h
  have k : ∀ {p : Addr} {x : Value}, V.cell? p = some x → V'.cell? p = some x := fun h => by rw [hb.cell (World.block_lt_of_cell? V _ h)]; exact h
  exact ⟨k a0, k a1, k a2, k a3, k b0, k b1, k b2, k b3, hB.trans (hb.mono hB.size)⟩

theorem S8.drew {w : World} {B b o : Nat} {s : Option Nat} {v0 v1 v2 v3 u0 u1 u2 u3 : Value} {V : World} (h : S8 w B b o s v0 v1 v2 v3 u0 u1 u2 u3 V) : S8 w B b o s v0 v1 v2 v3 u0 u1 u2 u3 V.drew := h.on (Below.refl _ V).drew

set_option maxRecDepth 100000 in
set_option maxHeartbeats 4000000 in
theorem Search_I (x y q : Int) (z : ByteArray) (a : Option Addr) (n c : Nat) (ts : List Bg.It) (w : World) (hT : ISl w a n c ts) (hn : n ≤ 64) (hx : Bg.Fit ⟨x, y, z, q⟩) (hi : ts.Pairwise fun s t => Bg.cmp s t < 0) (h1 : ∀ t, t ∈ ts → Bg.Fit t) :
    Calls Tryz.prog 106 #[.slice a n c, .agg #[.int .i64 x, .int .i64 y, .string z, .int .i64 q], .func (.func 76) #[] #[]] w fun e w' =>
      ∃ (k : Nat) (b : Bool), e = .returned (.tuple #[.int .i64 k, .bool b]) ∧ k ≤ n ∧ (∀ m (hm : m < ts.length), m < k → Bg.cmp ts[m] ⟨x, y, z, q⟩ < 0) ∧ (∀ m (hm : m < ts.length), k ≤ m → 0 ≤ Bg.cmp ts[m] ⟨x, y, z, q⟩) ∧ Below w.heap.size w w' := by
  have HT := Lib.hid hT; have HI := Lib.hid hi; have H1 := Lib.hid h1; have HX := Lib.hid hx
  have hB0 : Below w.heap.size w (w.alloc (.cells #[.int .i64 x, .int .i64 y, .string z, .int .i64 q] 75)) := (Below.refl _ w).alloc (Nat.le_refl _) _
  have HB0 := Lib.hid hB0
  have HN : Hid (∀ V, Below (w.alloc (.cells #[.int .i64 x, .int .i64 y, .string z, .int .i64 q] 75)).heap.size (w.alloc (.cells #[.int .i64 x, .int .i64 y, .string z, .int .i64 q] 75)) V → V.cell? ⟨w.heap.size, 0, none⟩ = some (.int .i64 x) ∧ V.cell? ⟨w.heap.size, 1, none⟩ = some (.int .i64 y) ∧ V.cell? ⟨w.heap.size, 2, none⟩ = some (.string z) ∧ V.cell? ⟨w.heap.size, 3, none⟩ = some (.int .i64 q)) := Lib.hid fun V hb => by
    have k : ∀ {p : Addr} {v : Value}, (w.alloc (.cells #[.int .i64 x, .int .i64 y, .string z, .int .i64 q] 75)).cell? p = some v → V.cell? p = some v := fun h => by rw [hb.cell (World.block_lt_of_cell? _ _ h)]; exact h
    exact ⟨k (cell_new w (k := 0) rfl), k (cell_new w (k := 1) rfl), k (cell_new w (k := 2) rfl), k (cell_new w (k := 3) rfl)⟩
  clear hT hi h1 hx hB0
  go_enter Tryz.func106, Tryz.ntmps106
  go_wp2_with fail
  go_loopw [9, 10] (fun vi vj wr => ∃ i j : Nat, i ≤ j ∧ j ≤ n ∧ vi = .int .i64 i ∧ vj = .int .i64 j ∧ Hid (∀ m (hm : m < ts.length), m < i → Bg.cmp ts[m] ⟨x, y, z, q⟩ < 0) ∧ Hid (∀ m (hm : m < ts.length), j ≤ m → 0 ≤ Bg.cmp ts[m] ⟨x, y, z, q⟩) ∧ Hid (Below (w.alloc (.cells #[.int .i64 x, .int .i64 y, .string z, .int .i64 q] 75)).heap.size (w.alloc (.cells #[.int .i64 x, .int .i64 y, .string z, .int .i64 q] 75)) wr)) (fun vi vj _ => (intOf vj).toNat - (intOf vi).toNat)
  case atStart => exact ⟨0, n, Nat.zero_le _, Nat.le_refl _, rfl, rfl, Lib.hid fun m hm h => absurd h (Nat.not_lt_zero _), Lib.hid fun m hm h => absurd hm (by rw [HT.out.len]; omega), Lib.hid (Below.refl _ _)⟩
  case round =>
    obtain ⟨i, j, hij, hj, rfl, rfl, hA, hC, hB⟩ := hrel
    have BW := Lib.hid (HB0.out.trans (hB.out.mono HB0.out.size))
    obtain ⟨k0, k1, k2, k3⟩ := HN.out wr hB.out
    by_cases hlt : i < j
    · obtain ⟨h, hh⟩ : ∃ h, (i + j) / 2 = h := ⟨_, rfl⟩
      have h1 : i ≤ h := by omega
      have h2 : h < j := by omega
      have hk' : h < ts.length := by rw [HT.out.len]; omega
      obtain ⟨X, b, o, s, rfl, hX, c1, c2, c3, c4⟩ := (HT.out.keep BW.out).get hk'
      have K1 := fun w => cmp_I ts[h].sum ts[h].n ts[h].refs x y q ts[h].text z w (H1.out ts[h] (List.getElem_mem hk')) HX.out
      have eh : ((i : Int) + (j : Int)) / 2 = (h : Int) := by omega
      have HL : Hid (Bg.cmp ⟨ts[h].sum, ts[h].n, ts[h].text, ts[h].refs⟩ ⟨x, y, z, q⟩ < 0 → ∀ m (hm : m < ts.length), m < h + 1 → Bg.cmp ts[m] ⟨x, y, z, q⟩ < 0) := Lib.hid fun hlt m hm hmh => by
        by_cases e : m = h
        · subst e; exact hlt
        · have := (List.pairwise_iff_getElem.1 HI.out) m h hm hk' (by omega)
          rw [Bg.cmp_lt] at this hlt ⊢
          dsimp only at hlt ⊢
          omega
      have HR : Hid (0 ≤ Bg.cmp ⟨ts[h].sum, ts[h].n, ts[h].text, ts[h].refs⟩ ⟨x, y, z, q⟩ → ∀ m (hm : m < ts.length), h ≤ m → 0 ≤ Bg.cmp ts[m] ⟨x, y, z, q⟩) := Lib.hid fun hge m hm hmh => by
        by_cases e : m = h
        · subst e; exact hge
        · have := (List.pairwise_iff_getElem.1 HI.out) h m hk' hm (by omega)
          rcases Int.lt_or_le (Bg.cmp ts[m] ⟨x, y, z, q⟩) 0 with h9 | h9
          · exfalso
            rw [Bg.cmp_lt] at this h9
            have h8 : Bg.cmp ⟨ts[h].sum, ts[h].n, ts[h].text, ts[h].refs⟩ ⟨x, y, z, q⟩ < 0 := by
              rw [Bg.cmp_lt]
              dsimp only at h9 ⊢
              omega
            omega
          · exact h9
      clear hh
      generalize ts[h].sum = f1 at *
      generalize ts[h].n = f2 at *
      generalize ts[h].text = f3 at *
      generalize ts[h].refs = f4 at *
      generalize Bg.cmp ⟨f1, f2, f3, f4⟩ ⟨x, y, z, q⟩ = d at *
      have HS : Hid (S8 w w.heap.size b o s (.int .i64 x) (.int .i64 y) (.string z) (.int .i64 q) (.int .i64 f1) (.int .i64 f2) (.string f3) (.int .i64 f4) wr) := Lib.hid ⟨k0, k1, k2, k3, c1, c2, c3, c4, BW.out⟩
      have e1 : (0 : Int) ≤ (h : Int) := by omega
      have e2 : (h : Int) < (n : Int) := by omega
      have e3 : h < n := by omega
      by_cases hp : d < 0
      · have HL' := Lib.hid (HL.out hp)
        clear HL HR
        go_wp2_with fail
        go_region_held3 (fun V => V.cell? ⟨w.heap.size, 0, none⟩ = some (.int .i64 x) ∧ V.cell? ⟨w.heap.size, 1, none⟩ = some (.int .i64 y) ∧ V.cell? ⟨w.heap.size, 2, none⟩ = some (.string z) ∧ V.cell? ⟨w.heap.size, 3, none⟩ = some (.int .i64 q) ∧ V.cell? ⟨b, o, s⟩ = some (.int .i64 f1) ∧ V.cell? ⟨b, o + 1, none⟩ = some (.int .i64 f2) ∧ V.cell? ⟨b, o + 2, none⟩ = some (.string f3) ∧ V.cell? ⟨b, o + 3, none⟩ = some (.int .i64 f4) ∧ Below w.heap.size w V)
          (first | with_reducible exact HSS.out | with_reducible exact S8.drew HS.out | with_reducible exact HS.out)
          ((go_at_call 76; with_reducible refine (K1 _).mono ?_; rintro e ws ⟨rfl, hbs⟩; have HSS := Lib.hid (S8.on (S8.drew HS.out) hbs)))
        have HB' := Lib.hid (hB.out.trans ((show Below wr.heap.size wr ws from (Below.refl _ wr).drew.trans hbs).mono hB.out.size))
        clear hbs K1
        go_wp2_with fail
        go_roundw
        case rel => exact ⟨h + 1, j, h2, hj, by go_num, rfl, HL', hC, HB'⟩
        case measure => simp [intOf]; omega
      · have hd : 0 ≤ d := by omega
        have HR' := Lib.hid (HR.out (by omega))
        clear HL HR hp
        go_wp2_with fail
        go_region_held3 (fun V => V.cell? ⟨w.heap.size, 0, none⟩ = some (.int .i64 x) ∧ V.cell? ⟨w.heap.size, 1, none⟩ = some (.int .i64 y) ∧ V.cell? ⟨w.heap.size, 2, none⟩ = some (.string z) ∧ V.cell? ⟨w.heap.size, 3, none⟩ = some (.int .i64 q) ∧ V.cell? ⟨b, o, s⟩ = some (.int .i64 f1) ∧ V.cell? ⟨b, o + 1, none⟩ = some (.int .i64 f2) ∧ V.cell? ⟨b, o + 2, none⟩ = some (.string f3) ∧ V.cell? ⟨b, o + 3, none⟩ = some (.int .i64 f4) ∧ Below w.heap.size w V)
          (first | with_reducible exact HSS.out | with_reducible exact S8.drew HS.out | with_reducible exact HS.out)
          ((go_at_call 76; with_reducible refine (K1 _).mono ?_; rintro e ws ⟨rfl, hbs⟩; have HSS := Lib.hid (S8.on (S8.drew HS.out) hbs)))
        have HB' := Lib.hid (hB.out.trans ((show Below wr.heap.size wr ws from (Below.refl _ wr).drew.trans hbs).mono hB.out.size))
        clear hbs K1
        go_wp2_with fail
        go_roundw
        case rel => exact ⟨i, h, h1, by omega, rfl, rfl, hA, HR', HB'⟩
        case measure => simp [intOf]; omega
    · obtain rfl : i = j := by omega
      by_cases hin : i < n
      · have hk' : i < ts.length := by rw [HT.out.len]; omega
        obtain ⟨X, b, o, s, rfl, hX, c1, c2, c3, c4⟩ := (HT.out.keep BW.out).get hk'
        have K1 := fun w => cmp_I ts[i].sum ts[i].n ts[i].refs x y q ts[i].text z w (H1.out ts[i] (List.getElem_mem hk')) HX.out
        generalize ts[i].sum = f1 at *
        generalize ts[i].n = f2 at *
        generalize ts[i].text = f3 at *
        generalize ts[i].refs = f4 at *
        generalize Bg.cmp ⟨f1, f2, f3, f4⟩ ⟨x, y, z, q⟩ = d at *
        have HS : Hid (S8 w w.heap.size b o s (.int .i64 x) (.int .i64 y) (.string z) (.int .i64 q) (.int .i64 f1) (.int .i64 f2) (.string f3) (.int .i64 f4) wr) := Lib.hid ⟨k0, k1, k2, k3, c1, c2, c3, c4, BW.out⟩
        have e1 : (0 : Int) ≤ (i : Int) := by omega
        have e2 : (i : Int) < (n : Int) := by omega
        go_wp2_with fail
        go_region_held3 (fun V => V.cell? ⟨w.heap.size, 0, none⟩ = some (.int .i64 x) ∧ V.cell? ⟨w.heap.size, 1, none⟩ = some (.int .i64 y) ∧ V.cell? ⟨w.heap.size, 2, none⟩ = some (.string z) ∧ V.cell? ⟨w.heap.size, 3, none⟩ = some (.int .i64 q) ∧ V.cell? ⟨b, o, s⟩ = some (.int .i64 f1) ∧ V.cell? ⟨b, o + 1, none⟩ = some (.int .i64 f2) ∧ V.cell? ⟨b, o + 2, none⟩ = some (.string f3) ∧ V.cell? ⟨b, o + 3, none⟩ = some (.int .i64 f4) ∧ Below w.heap.size w V)
          (first | with_reducible exact HSS.out | with_reducible exact S8.drew HS.out | with_reducible exact HS.out)
          ((go_at_call 76; with_reducible refine (K1 _).mono ?_; rintro e ws ⟨rfl, hbs⟩; have HSS := Lib.hid (S8.on (S8.drew HS.out) hbs)))
        go_wp2_with fail
        go_ret2
        exact ⟨i, _, rfl, hj, hA.out, hC.out, HSS.out.2.2.2.2.2.2.2.2⟩
      · clear k0 k1 k2 k3
        have e4 : ¬ ((i : Int) < (n : Int)) := by omega
        go_wp2_with fail
        go_quiet (fail)
        go_wp2_with fail
        go_ret2
        exact ⟨i, _, rfl, hj, hA.out, hC.out, below_drewN BW.out _⟩

end Go.Proofs.YtenkdpogdfcbgaaGreat
