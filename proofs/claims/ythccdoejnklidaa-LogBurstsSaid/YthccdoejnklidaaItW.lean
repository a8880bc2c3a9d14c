/- Items that lie there; the walks of slices.IndexFunc, ContainsFunc and Clone at items. -/
import Derived.Test.YthccdoejnklidaaBgP
import Derived.Test.YthccdoejnklidaaRow
import Derived.Test.YthccdoejnklidaaUse
import Derived.Deep.LoopGhost
import Derived.Deep.Slices
import Derived.Lib.Hide
import Derived.Lib.SliceRun
import Derived.Shelf.Abstract
import Derived.Below
import Derived.Laws.OwnMore
import Derived.Laws.AppendOwnNone
import Derived.Deep.AppendLies
import Derived.ArgAppend
namespace Go.Proofs.Ythccdoejnklidaa
open Go.RowKit

theorem Try.infoItem : (Try.prog.info? 61).map (fun i => (i.zero, i.size, i.bytes)) = some (some (.agg #[.int .i64 0, .int .i64 0, .string ⟨#[]⟩, .int .i64 0]), 4, 40) := by kernel_rfl

/-- Items as values. -/
def tv : List Bg.It → List Value
  | [] => []
  | t :: l => .int .i64 t.sum :: .int .i64 t.n :: .string t.text :: .int .i64 t.refs :: tv l

theorem tv_app (l m : List Bg.It) : tv (l ++ m) = tv l ++ tv m := by
  induction l with
  | nil => rfl
  | cons t l ih => rw [List.cons_append, tv, ih]; rfl

theorem tv_length (l : List Bg.It) : (tv l).length = l.length * 4 := by
  induction l with
  | nil => rfl
  | cons t l ih => rw [tv, List.length_cons, List.length_cons, List.length_cons, List.length_cons, ih, List.length_cons]; omega

theorem tv_one (l : List Bg.It) : ∀ u ∈ tv l, u.oneCell' = true := by
  induction l with
  | nil => intro u hu; cases hu
  | cons t l ih =>
    intro u hu
    rw [tv] at hu
    rcases List.mem_cons.1 hu with rfl | hu
    · rfl
    rcases List.mem_cons.1 hu with rfl | hu
    · rfl
    rcases List.mem_cons.1 hu with rfl | hu
    · rfl
    rcases List.mem_cons.1 hu with rfl | hu
    · rfl
    exact ih u hu

theorem tv_get {l : List Bg.It} {j : Nat} {t : Bg.It} (h : l[j]? = some t) : (tv l)[j * 4]? = some (.int .i64 t.sum) ∧ (tv l)[j * 4 + 1]? = some (.int .i64 t.n) ∧ (tv l)[j * 4 + 2]? = some (.string t.text) ∧ (tv l)[j * 4 + 3]? = some (.int .i64 t.refs) := by
  induction l generalizing j with
  | nil => simp at h
  | cons x l ih =>
    cases j with
    | zero =>
      obtain rfl : x = t := by simpa using h
      exact ⟨rfl, rfl, rfl, rfl⟩
    | succ j =>
      have := ih (j := j) (by simpa using h)
      rw [show (j + 1) * 4 = j * 4 + 1 + 1 + 1 + 1 from by omega]
      exact this

theorem tv_split {l : List Bg.It} {j : Nat} {u : Value} (h : (tv l)[j]? = some u) : ∃ k t, l[k]? = some t ∧ (j = k * 4 ∧ u = .int .i64 t.sum ∨ j = k * 4 + 1 ∧ u = .int .i64 t.n ∨ j = k * 4 + 2 ∧ u = .string t.text ∨ j = k * 4 + 3 ∧ u = .int .i64 t.refs) := by
  induction l generalizing j with
  | nil => simp [tv] at h
  | cons x l ih =>
    match j with
    | 0 => exact ⟨0, x, rfl, Or.inl ⟨rfl, by simpa [tv] using h.symm⟩⟩
    | 1 => exact ⟨0, x, rfl, Or.inr (Or.inl ⟨rfl, by simpa [tv] using h.symm⟩)⟩
    | 2 => exact ⟨0, x, rfl, Or.inr (Or.inr (Or.inl ⟨rfl, by simpa [tv] using h.symm⟩))⟩
    | 3 => exact ⟨0, x, rfl, Or.inr (Or.inr (Or.inr ⟨rfl, by simpa [tv] using h.symm⟩))⟩
    | j + 4 =>
      obtain ⟨k, t, h1, h2⟩ := ih (j := j) (by simpa [tv] using h)
      refine ⟨k + 1, t, by simpa using h1, ?_⟩
      rcases h2 with ⟨rfl, h2⟩ | ⟨rfl, h2⟩ | ⟨rfl, h2⟩ | ⟨rfl, h2⟩
      · exact Or.inl ⟨by omega, h2⟩
      · exact Or.inr (Or.inl ⟨by omega, h2⟩)
      · exact Or.inr (Or.inr (Or.inl ⟨by omega, h2⟩))
      · exact Or.inr (Or.inr (Or.inr ⟨by omega, h2⟩))

theorem tv_drop (l : List Bg.It) (k : Nat) : tv (l.drop k) = (tv l).drop (k * 4) := by
  induction k generalizing l with
  | zero => rfl
  | succ k ih =>
    cases l with
    | nil => simp [tv]
    | cons t l => rw [List.drop_succ_cons, ih, tv, show (k + 1) * 4 = k * 4 + 1 + 1 + 1 + 1 from by omega, List.drop_succ_cons, List.drop_succ_cons, List.drop_succ_cons, List.drop_succ_cons]

theorem tv_take (l : List Bg.It) (k : Nat) : tv (l.take k) = (tv l).take (k * 4) := by
  induction k generalizing l with
  | zero => simp [tv]
  | succ k ih =>
    cases l with
    | nil => simp [tv]
    | cons t l => rw [List.take_succ_cons, tv, ih, tv, show (k + 1) * 4 = k * 4 + 1 + 1 + 1 + 1 from by omega, List.take_succ_cons, List.take_succ_cons, List.take_succ_cons, List.take_succ_cons]

theorem addr_lit (g o j : Nat) : (⟨g, o, none⟩ : Addr).add j = ⟨g, o + j, none⟩ := by
  unfold Addr.add
  split
  · rename_i h; rw [h]; rfl
  · rfl

/-- The cells of items. -/
def ICells (w : World) (x : Addr) (ts : List Bg.It) : Prop := ∀ (j : Nat) (t : Bg.It), ts[j]? = some t →
  w.cell? (x.add (j * 4)) = some (.int .i64 t.sum) ∧ w.cell? (x.add (j * 4 + 1)) = some (.int .i64 t.n) ∧ w.cell? (x.add (j * 4 + 2)) = some (.string t.text) ∧ w.cell? (x.add (j * 4 + 3)) = some (.int .i64 t.refs)

theorem ICells.keep {w w' : World} {x : Addr} {ts : List Bg.It} (h : ICells w x ts) (hb : Below w.heap.size w w') : ICells w' x ts := fun j t hj => by
  obtain ⟨c1, c2, c3, c4⟩ := h j t hj
  exact ⟨by rw [hb.cell (World.block_lt_of_cell? w _ c1)]; exact c1, by rw [hb.cell (World.block_lt_of_cell? w _ c2)]; exact c2, by rw [hb.cell (World.block_lt_of_cell? w _ c3)]; exact c3, by rw [hb.cell (World.block_lt_of_cell? w _ c4)]; exact c4⟩

/-- A slice of items, whole. -/
structure ISl (w : World) (a : Option Addr) (n c : Nat) (ts : List Bg.It) : Prop where
  at_ : ts ≠ [] → ∃ x, a = some x ∧ ICells w x ts
  len : ts.length = n
  cap : n ≤ c
  max : c ≤ maxLen
  nil : a = none → n = 0 ∧ c = 0

theorem ISl.keep {w w' : World} {a : Option Addr} {n c : Nat} {ts : List Bg.It} (h : ISl w a n c ts) (hb : Below w.heap.size w w') : ISl w' a n c ts := ⟨fun h0 => by
  obtain ⟨x, rfl, hc⟩ := h.at_ h0
  exact ⟨x, rfl, hc.keep hb⟩, h.len, h.cap, h.max, h.nil⟩

theorem ISl.take {w : World} {a : Option Addr} {n c k : Nat} {ts : List Bg.It} (h : ISl w a n c ts) (hk : k ≤ n) : ISl w a k c (ts.take k) := ⟨fun h0 => by
  obtain ⟨x, rfl, hc⟩ := h.at_ (by rintro rfl; simp at h0)
  exact ⟨x, rfl, fun j t hj => hc j t (by rw [List.getElem?_take] at hj; split at hj; exact hj; cases hj)⟩, by rw [List.length_take, h.len]; omega, Nat.le_trans hk h.cap, h.max, fun h1 => by have := h.nil h1; omega⟩

/-- The item at a place. -/
theorem ISl.get {w : World} {a : Option Addr} {n c k : Nat} {ts : List Bg.It} (h : ISl w a n c ts) (hk : k < ts.length) :
    ∃ (A : Addr) (b o : Nat) (s : Option Nat), a = some A ∧ A.add (k * 4) = ⟨b, o, s⟩ ∧ w.cell? ⟨b, o, s⟩ = some (.int .i64 ts[k].sum) ∧ w.cell? ⟨b, o + 1, none⟩ = some (.int .i64 ts[k].n) ∧ w.cell? ⟨b, o + 2, none⟩ = some (.string ts[k].text) ∧ w.cell? ⟨b, o + 3, none⟩ = some (.int .i64 ts[k].refs) := by
  obtain ⟨A, rfl, hc⟩ := h.at_ (by rintro rfl; simp at hk)
  obtain ⟨g1, g2, g3, g4⟩ := hc k ts[k] (List.getElem?_eq_getElem hk)
  obtain ⟨b, o, s, hy⟩ : ∃ b o s, A.add (k * 4) = ⟨b, o, s⟩ := ⟨_, _, _, rfl⟩
  rw [← Go.Deep.add_add, hy, show (⟨b, o, s⟩ : Addr).add 1 = ⟨b, o + 1, none⟩ from rfl] at g2
  rw [← Go.Deep.add_add, hy, show (⟨b, o, s⟩ : Addr).add 2 = ⟨b, o + 2, none⟩ from rfl] at g3
  rw [← Go.Deep.add_add, hy, show (⟨b, o, s⟩ : Addr).add 3 = ⟨b, o + 3, none⟩ from rfl] at g4
  rw [hy] at g1
  exact ⟨A, b, o, s, rfl, hy, g1, g2, g3, g4⟩

theorem ISl.cells {w : World} {x : Addr} {n c : Nat} {ts : List Bg.It} (h : ISl w (some x) n c ts) : ∀ j u, (tv ts)[j]? = some u → w.cell? (x.add j) = some u := by
  intro j u hu
  obtain ⟨k, t, hk, hh⟩ := tv_split hu
  have hne : ts ≠ [] := by rintro rfl; simp at hk
  obtain ⟨x', he, hc⟩ := h.at_ hne
  cases he
  obtain ⟨c1, c2, c3, c4⟩ := hc k t hk
  rcases hh with ⟨rfl, rfl⟩ | ⟨rfl, rfl⟩ | ⟨rfl, rfl⟩ | ⟨rfl, rfl⟩
  · exact c1
  · exact c2
  · exact c3
  · exact c4

/-- A row of the call's own is such a slice. -/
theorem isl_own {w : World} {base n : Nat} {e : TypeId} {v : Value} {ts : List Bg.It} (h : w.ownsRow base e 4 v n (tv ts)) (hn : ts.length = n) : ∃ a c, v = .slice a n c ∧ ISl w a n c ts := by
  rcases h.2 with ⟨rfl, h0⟩ | ⟨g, cap, cur, rfl, hb, hh, hnc, hcm, h'⟩
  · have : ts = [] := List.length_eq_zero_iff.1 (by omega)
    subst this
    subst h0
    exact ⟨none, 0, rfl, fun h => absurd rfl h, rfl, Nat.le_refl _, Nat.zero_le _, fun _ => ⟨rfl, rfl⟩⟩
  · refine ⟨_, cap, rfl, fun _ => ⟨_, rfl, fun j t hj => ?_⟩, hn, hnc, hcm, fun h => by cases h⟩
    obtain ⟨k1, k2, k3, k4⟩ := tv_get hj
    exact ⟨h.cells (g := g) rfl _ _ k1, h.cells (g := g) rfl _ _ k2, h.cells (g := g) rfl _ _ k3, h.cells (g := g) rfl _ _ k4⟩

theorem own_low {w : World} {b base : Nat} {e : TypeId} {size n : Nat} {v : Value} {xs : List Value} (h : w.ownsRow b e size v n xs) (hb : base ≤ b) : w.ownsRow base e size v n xs := by
  refine ⟨h.1, ?_⟩
  rcases h.2 with h2 | ⟨g, cap, cur, hv, hg, r⟩
  · exact Or.inl h2
  · exact Or.inr ⟨g, cap, cur, hv, Nat.le_trans hb hg, r⟩

theorem below_drewN {B : Nat} {a w : World} (h : Below B a w) (n : Nat) : Below B a (w.drewN n) := ⟨h.os, h.tape, h.output, h.size, h.block⟩

theorem own_grown {w w' : World} {base : Nat} {e : TypeId} {size : Nat} {v : Value} {n : Nat} {xs : List Value} (h : w.ownsRow base e size v n xs) {B : Nat} {W : World} (hB : Below B W w) (hb : B ≤ base) (hs : B ≤ w.heap.size) (hg : w.grownBy w' v.ownBlock) : Below B W w' :=
  hB.grown hg hs (fun k hk => Nat.le_trans hb (row_base h k hk))

/-- A predicate's function value: what it answers of the items, wherever it is asked behind the beginning. -/
def PredI (w : World) (g : FuncId) (lb : Array Value) (p : Bg.It → Bool) : Prop :=
  ∀ (W : World) (s n r : Int) (t : ByteArray), Below w.heap.size w W → Calls Try.prog g (#[.agg #[.int .i64 s, .int .i64 n, .string t, .int .i64 r]] ++ lb) W fun e w' => e = .returned (.bool (p ⟨s, n, t, r⟩)) ∧ Below w.heap.size w w'

/-- The index that IndexFunc answers. -/
def idx (p : Bg.It → Bool) (ts : List Bg.It) : Int := match ts.findIdx? p with | some i => (i : Int) | none => -1

theorem idx_hit {p : Bg.It → Bool} {ts : List Bg.It} {k : Nat} (hk : k < ts.length) (h : p ts[k] = true) (hb : ∀ j (hj : j < k), p (ts[j]'(by omega)) = false) : idx p ts = (k : Int) := by
  have : ts.findIdx? p = some k := by
    rw [List.findIdx?_eq_some_iff_getElem]
    exact ⟨hk, h, fun j hj hh => by rw [hb j hj] at hh; cases hh⟩
  unfold idx
  rw [this]

theorem idx_miss {p : Bg.It → Bool} {ts : List Bg.It} (hb : ∀ j (hj : j < ts.length), p ts[j] = false) : idx p ts = -1 := by
  have : ts.findIdx? p = none := by
    rw [List.findIdx?_eq_none_iff]
    intro x hx
    obtain ⟨j, hj, rfl⟩ := List.getElem_of_mem hx
    exact hb j hj
  unfold idx
  rw [this]

set_option maxHeartbeats 2000000 in
theorem IndexFunc_I (a : Option Addr) (n c : Nat) (ts : List Bg.It) (g : FuncId) (lb : Array Value) (p : Bg.It → Bool) (w : World) (hn : n ≤ 1099511627776)
    (eg : ∀ args w, (callFunc g args).run Try.prog w = .ok (.enter g args) w) (hT : ISl w a n c ts) (hp : PredI w g lb p) :
    Calls Try.prog 53 #[.slice a n c, .func (.func g) #[] lb] w fun e w' => e = .returned (.int .i64 (idx p ts)) ∧ Below w.heap.size w w' := by
  have HT := Lib.hid hT; have HP := Lib.hid hp
  clear hT hp
  go_enter Try.func53, Try.ntmps53
  go_wp2_with fail
  go_loopg [5, 8] n (fun gg _ s8 wr => ∃ kk : Nat, kk ≤ n ∧ n - kk ≤ gg ∧ s8 = .int .i64 kk ∧ Hid (Below w.heap.size w wr) ∧ Hid (∀ j (_ : j < kk) (hj : j < ts.length), p ts[j] = false))
  case atStart => exact ⟨0, Nat.zero_le _, by omega, rfl, Lib.hid (Below.refl _ w), Lib.hid fun j hj => absurd hj (Nat.not_lt_zero _)⟩
  case round =>
    obtain ⟨kk, hkk, hg, rfl, BW, A⟩ := hrel
    by_cases hlt : kk < n
    · have hk' : kk < ts.length := by rw [HT.out.len]; exact hlt
      obtain ⟨X, b, o, s, rfl, hX, c1, c2, c3, c4⟩ := (HT.out.keep BW.out).get hk'
      have hcall := HP.out wr ts[kk].sum ts[kk].n ts[kk].refs ts[kk].text BW.out
      have HE : Hid (p ts[kk] = p ⟨ts[kk].sum, ts[kk].n, ts[kk].text, ts[kk].refs⟩) := Lib.hid rfl
      generalize ts[kk].sum = x at *
      generalize ts[kk].n = y at *
      generalize ts[kk].text = z at *
      generalize ts[kk].refs = q at *
      cases hq : p ⟨x, y, z, q⟩ with
      | true =>
        rw [hq] at hcall
        have HQ := Lib.hid hq
        clear hq
        go_wp2_with (go_at_fn g; refine hcall.mono ?_; rintro e w' ⟨rfl, hb'⟩)
        go_ret
        refine ⟨?_, hb'⟩
        rw [idx_hit hk' (by rw [HE.out]; exact HQ.out) (fun j hj => A.out j hj (by omega))]
        rfl
      | false =>
        rw [hq] at hcall
        have HQ := Lib.hid hq
        clear hq
        go_wp2_with (go_at_fn g; refine hcall.mono ?_; rintro e w' ⟨rfl, hb'⟩)
        go_roundg (n - (kk + 1))
        case measure => omega
        case rel =>
          refine ⟨kk + 1, by omega, by omega, by go_num, Lib.hid hb', Lib.hid fun j hj hj' => ?_⟩
          by_cases e : j = kk
          · subst e
            rw [HE.out]; exact HQ.out
          · exact A.out j (by omega) hj'
    · obtain rfl : kk = n := by omega
      go_wp2_with fail
      go_ret
      refine ⟨?_, BW.out⟩
      rw [idx_miss (fun j hj => A.out j (by rw [← HT.out.len]; exact hj) hj)]
      rfl

theorem idx_any (p : Bg.It → Bool) (ts : List Bg.It) : decide (0 ≤ idx p ts) = ts.any p := by
  unfold idx
  cases h : ts.findIdx? p with
  | none =>
    rw [List.findIdx?_eq_none_iff] at h
    have : ts.any p = false := by rw [List.any_eq_false]; intro x hx; rw [h x hx]; decide
    rw [this]; rfl
  | some i =>
    obtain ⟨hi, h1, -⟩ := List.findIdx?_eq_some_iff_getElem.1 h
    have : ts.any p = true := List.any_eq_true.2 ⟨_, List.getElem_mem hi, h1⟩
    rw [this]
    exact decide_eq_true (by show (0 : Int) ≤ (i : Int); omega)

set_option maxHeartbeats 1000000 in
theorem ContainsFunc_I (a : Option Addr) (n c : Nat) (ts : List Bg.It) (g : FuncId) (lb : Array Value) (p : Bg.It → Bool) (v : Bool) (w : World) (hn : n ≤ 1099511627776)
    (eg : ∀ args w, (callFunc g args).run Try.prog w = .ok (.enter g args) w) (hT : ISl w a n c ts) (hp : PredI w g lb p) (hv : ts.any p = v) :
    Calls Try.prog 39 #[.slice a n c, .func (.func g) #[] lb] w fun e w' => e = .returned (.bool v) ∧ Below w.heap.size w w' := by
  have I1 := IndexFunc_I a n c ts g lb p w (by omega) eg hT hp
  rw [← hv, ← idx_any]
  clear hv hT hp
  generalize idx p ts = x at *
  go_enter Try.func39, Try.ntmps39
  go_wp2_with fail
  with_reducible refine I1.mono ?_
  rintro e w' ⟨rfl, hb⟩
  go_wp2_with fail
  go_ret
  exact ⟨by first | rfl | (simp), hb⟩

set_option maxRecDepth 100000 in
set_option maxHeartbeats 4000000 in
theorem Clone_I (a : Option Addr) (n c : Nat) (ts : List Bg.It) (w : World) (hT : ISl w a n c ts) (hn : n ≤ 1099511627776) :
    Calls Try.prog 59 #[.slice a n c] w fun e w' => ∃ v, e = .returned v ∧ w'.ownsRow w.heap.size 61 4 v n (tv ts) ∧ Below w.heap.size w w' := by
  obtain ⟨i0, hi, hz0, hz1, hz2⟩ := info_parts Try.infoItem
  rcases a with _ | x
  · obtain ⟨rfl, rfl⟩ := hT.nil rfl
    obtain rfl : ts = [] := List.length_eq_zero_iff.1 hT.len
    clear hT
    have en : ∀ w, (binOp .eql 29 (.slice none 0 0) (.slice none 0 0)).run Try.prog w = .ok (.bool true) w := fun w => Lib.run_eql_slice_nil w 29 61 none 0 0 0 0 Try.underlying29
    go_enter Try.func59, Try.ntmps59
    go_wp2_with fail
    go_ret
    exact ⟨_, rfl, World.ownsRow_nil _ _ _ _, Below.refl _ _⟩
  · have HB1 : ∀ T, Below w.heap.size w (w.alloc (.cells #[] T)) := fun T => (Below.refl _ w).alloc (Nat.le_refl _) _
    have hcells : ∀ (T : TypeId) j u, (tv ts)[j]? = some u → (w.alloc (.cells #[] T)).cell? (x.add j) = some u := fun T => (hT.keep (HB1 T)).cells
    have H3 := Lib.hid (hcells 61)
    have HL : Hid ((tv ts).length = n * 4) := Lib.hid (by rw [tv_length, hT.len])
    have H5 : Hid (0 + n ≤ maxLen ∧ (0 + n) * 40 ≤ 140737488355328) := Lib.hid ⟨by unfold maxLen; omega, by omega⟩
    have HO : Hid ((w.alloc (.cells #[] 61)).ownsRow w.heap.size 61 4 (.slice (some ⟨w.heap.size, 0, none⟩) 0 0) 0 []) := Lib.hid (World.ownsRow_made w #[] 0 (Nat.le_refl _) (Nat.zero_le _) rfl)
    have HS : Hid (w.heap.size ≤ (w.alloc (.cells #[] 61)).heap.size) := Lib.hid (by rw [World.size_alloc]; omega)
    have HB := Lib.hid (HB1 61)
    clear hcells hT HB1
    have en : ∀ w, (binOp .eql 29 (.slice (some x) n c) (.slice none 0 0)).run Try.prog w = .ok (.bool false) w := fun w => Lib.run_eql_slice_nil w 29 61 (some x) n c 0 0 Try.underlying29
    go_enter Try.func59, Try.ntmps59
    go_wp2_with (at_builtin; refine wpList_append_own _ rfl _ _ _ rfl w.heap.size 61 i0 (.agg #[.int .i64 0, .int .i64 0, .string ⟨#[]⟩, .int .i64 0]) 4 40 Try.underlying29 hi hz0 hz1 hz2 rfl (by decide) (.slice (some ⟨w.heap.size, 0, none⟩) 0 0) 0 [] rfl HO.out x n c (tv ts) rfl HL.out H3.out (tv_one ts) H5.out.1 H5.out.2 HS.out ?_)
    intro v' w' q1 q2 _
    have HF : Hid (w'.ownsRow w.heap.size 61 4 v' n (tv ts) ∧ Below w.heap.size w w') := Lib.hid ⟨by simpa using q1, own_grown HO.out HB.out (Nat.le_refl _) HS.out q2⟩
    clear q1 q2 H3 HL H5
    go_wp2_with fail
    go_ret
    exact ⟨_, rfl, HF.out⟩

end Go.Proofs.Ythccdoejnklidaa
