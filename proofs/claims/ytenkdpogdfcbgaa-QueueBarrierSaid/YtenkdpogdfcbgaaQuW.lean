import Derived.Test.YtenkdpogdfcbgaaQuP
import Derived.Test.YtenkdpogdfcbgaaUse
import Derived.Deep.LoopGhost
import Derived.Lib.Hide
import Derived.Shelf.Abstract
import Derived.Below
import Derived.Laws.OwnMore
import Derived.Deep.AppendLies
import Derived.ArgAppend
import Derived.Lib.AppendZeros
import Derived.Lib.Walk
import Derived.Lib.SliceRun
import Derived.Laws.AppendOwnNone
import Derived.Deep.RegionWith
import Derived.StillTailTactics
/- Walks: queue.one, the closures, slices.IndexFunc and slices.ContainsFunc at tasks. -/
namespace Go.Proofs.Ytenkdpogdfcbgaa.Rs
open Go.RowKit

set_option maxHeartbeats 1000000 in
theorem one_is (a b : Int) (v : Bool) (hv : Qu.one (a, b) = v) (w : World) : Calls Try.prog 146 #[.agg #[.int .i64 a, .int .i64 b]] w fun e w' => e = .returned (.bool v) ∧ Below w.heap.size w w' := by
  rw [← hv]
  clear hv
  have key : Calls Try.prog 146 #[.agg #[.int .i64 a, .int .i64 b]] w fun e w' => e = .returned (.bool ((decide (0 ≤ a) && decide (a < 1000)) && (decide (0 ≤ b) && decide (b ≤ 2)))) ∧ Below w.heap.size w w' := by
    rcases h1 : decide (0 ≤ a) with _ | _
    · go_enter Try.func146, Try.ntmps146
      go_wp2_with fail
      go_ret
      exact ⟨by rfl, (Below.refl _ _).alloc (Nat.le_refl _) _⟩
    · rcases h2 : decide (a < 1000) with _ | _
      · have g1 := of_decide_eq_true h1
        go_enter Try.func146, Try.ntmps146
        go_wp2_with fail
        go_ret
        exact ⟨by rfl, (Below.refl _ _).alloc (Nat.le_refl _) _⟩
      · rcases h3 : decide (0 ≤ b) with _ | _
        · go_enter Try.func146, Try.ntmps146
          go_wp2_with fail
          go_ret
          exact ⟨by rfl, (Below.refl _ _).alloc (Nat.le_refl _) _⟩
        · rcases h4 : decide (b ≤ 2) with _ | _
          all_goals
            go_enter Try.func146, Try.ntmps146
            go_wp2_with fail
            go_ret
            exact ⟨by rfl, (Below.refl _ _).alloc (Nat.le_refl _) _⟩
  exact key

/-- A predicate's function value: what it answers of the tasks, wherever it is asked behind the beginning. -/
def PredT (w : World) (g : FuncId) (lb : Array Value) (p : Qu.T → Bool) : Prop :=
  ∀ (W : World) (a b : Int), Below w.heap.size w W → Calls Try.prog g (#[.agg #[.int .i64 a, .int .i64 b]] ++ lb) W fun e w' => e = .returned (.bool (p (a, b))) ∧ Below w.heap.size w w'

/-- Tasks that lie there. -/
def TasksAt (w : World) (a : Option Addr) (ts : List Qu.T) : Prop :=
  ts ≠ [] → ∃ g o, a = some ⟨g, o, none⟩ ∧ g < w.heap.size ∧ ∀ (j : Nat) (t : Qu.T), ts[j]? = some t → w.cell? ⟨g, o + j * 2, none⟩ = some (.int .i64 t.1) ∧ w.cell? ⟨g, o + j * 2 + 1, none⟩ = some (.int .i64 t.2)

theorem TasksAt.keep {w w' : World} {a : Option Addr} {ts : List Qu.T} (h : TasksAt w a ts) (hb : Below w.heap.size w w') : TasksAt w' a ts := fun h0 => by
  obtain ⟨g, o, rfl, hg, hc⟩ := h h0
  refine ⟨g, o, rfl, Nat.lt_of_lt_of_le hg hb.size, fun j t hj => ?_⟩
  rw [hb.cell (p := ⟨g, o + j * 2, none⟩) hg, hb.cell (p := ⟨g, o + j * 2 + 1, none⟩) hg]
  exact hc j t hj

theorem TasksAt.take {w : World} {a : Option Addr} {ts : List Qu.T} (h : TasksAt w a ts) (n : Nat) : TasksAt w a (ts.take n) := fun h0 => by
  have hne : ts ≠ [] := by rintro rfl; simp at h0
  obtain ⟨g, o, rfl, hg, hc⟩ := h hne
  refine ⟨g, o, rfl, hg, fun j t hj => hc j t ?_⟩
  rw [List.getElem?_take] at hj
  split at hj
  · exact hj
  · cases hj

/-- The index that IndexFunc answers. -/
def idx (p : Qu.T → Bool) (ts : List Qu.T) : Int := match ts.findIdx? p with | some i => (i : Int) | none => -1

theorem idx_hit {p : Qu.T → Bool} {ts : List Qu.T} {k : Nat} (hk : k < ts.length) (h : p ts[k] = true) (hb : ∀ j (hj : j < k), p (ts[j]'(by omega)) = false) : idx p ts = (k : Int) := by
  have : ts.findIdx? p = some k := by
    rw [List.findIdx?_eq_some_iff_getElem]
    exact ⟨hk, h, fun j hj hh => by rw [hb j hj] at hh; cases hh⟩
  unfold idx
  rw [this]

theorem idx_miss {p : Qu.T → Bool} {ts : List Qu.T} (hb : ∀ j (hj : j < ts.length), p ts[j] = false) : idx p ts = -1 := by
  have : ts.findIdx? p = none := by
    rw [List.findIdx?_eq_none_iff]
    intro x hx
    obtain ⟨j, hj, rfl⟩ := List.getElem_of_mem hx
    exact hb j hj
  unfold idx
  rw [this]

set_option maxHeartbeats 2000000 in
theorem IndexFunc_T (a : Option Addr) (c : Nat) (ts : List Qu.T) (g : FuncId) (lb : Array Value) (p : Qu.T → Bool) (w : World) (hn : ts.length ≤ 1099511627776)
    (eg : ∀ args w, (callFunc g args).run Try.prog w = .ok (.enter g args) w) (hT : TasksAt w a ts) (hp : PredT w g lb p) :
    Calls Try.prog 33 #[.slice a ts.length c, .func (.func g) #[] lb] w fun e w' => e = .returned (.int .i64 (idx p ts)) ∧ Below w.heap.size w w' := by
  have HT := Lib.hid hT; have HP := Lib.hid hp
  clear hT hp
  obtain ⟨n, hn'⟩ : ∃ n, ts.length = n := ⟨_, rfl⟩
  have HN := Lib.hid hn'
  rw [hn'] at hn ⊢
  clear hn'
  go_enter Try.func33, Try.ntmps33
  go_wp2_with fail
  go_loopg [5, 8] n (fun gg _ s8 wr => ∃ kk : Nat, kk ≤ n ∧ n - kk ≤ gg ∧ s8 = .int .i64 kk ∧ Hid (Below w.heap.size w wr) ∧ Hid (∀ j (_ : j < kk) (hj : j < ts.length), p ts[j] = false))
  case atStart => exact ⟨0, Nat.zero_le _, by omega, rfl, Lib.hid (Below.refl _ w), Lib.hid fun j hj => absurd hj (Nat.not_lt_zero _)⟩
  case round =>
    obtain ⟨kk, hkk, hg, rfl, BW, A⟩ := hrel
    by_cases hlt : kk < n
    · have hk' : kk < ts.length := by rw [HN.out]; exact hlt
      have hne : ts ≠ [] := by rintro rfl; simp at hk'
      obtain ⟨b, o, rfl, hb, hc⟩ := (HT.out.keep BW.out) hne
      obtain ⟨c1, c2⟩ := hc kk ts[kk] (List.getElem?_eq_getElem hk')
      have hcall := HP.out wr ts[kk].1 ts[kk].2 BW.out
      have HE : Hid (p ts[kk] = p (ts[kk].1, ts[kk].2)) := Lib.hid rfl
      clear hc hb hne
      generalize ts[kk].1 = x at *
      generalize ts[kk].2 = y at *
      cases hq : p (x, y) with
      | true =>
        rw [hq] at hcall
        have HQ := Lib.hid hq
        clear hq
        go_wp2_with (go_at_fn g; refine hcall.mono ?_; rintro e w' ⟨rfl, hb'⟩)
        go_ret
        refine ⟨?_, hb'⟩
        rw [idx_hit hk' (by rw [HE.out]; exact HQ.out) (fun j hj => A.out j hj (by omega))]
        rfl
      | false =>
        rw [hq] at hcall
        have HQ := Lib.hid hq
        clear hq
        go_wp2_with (go_at_fn g; refine hcall.mono ?_; rintro e w' ⟨rfl, hb'⟩)
        go_roundg (n - (kk + 1))
        case measure => omega
        case rel =>
          refine ⟨kk + 1, by omega, by omega, by go_num, Lib.hid hb', Lib.hid fun j hj hj' => ?_⟩
          by_cases e : j = kk
          · subst e
            rw [HE.out]; exact HQ.out
          · exact A.out j (by omega) hj'
    · obtain rfl : kk = n := by omega
      go_wp2_with fail
      go_ret
      refine ⟨?_, BW.out⟩
      rw [idx_miss (fun j hj => A.out j (by rw [← HN.out]; exact hj) hj)]
      rfl

theorem idx_any (p : Qu.T → Bool) (ts : List Qu.T) : decide (0 ≤ idx p ts) = ts.any p := by
  unfold idx
  cases h : ts.findIdx? p with
  | none =>
    rw [List.findIdx?_eq_none_iff] at h
    have : ts.any p = false := by rw [List.any_eq_false]; intro x hx; rw [h x hx]; decide
    rw [this]; rfl
  | some i =>
    obtain ⟨hi, h1, -⟩ := List.findIdx?_eq_some_iff_getElem.1 h
    have : ts.any p = true := List.any_eq_true.2 ⟨_, List.getElem_mem hi, h1⟩
    rw [this]
    exact decide_eq_true (by show (0 : Int) ≤ (i : Int); omega)

set_option maxHeartbeats 1000000 in
theorem ContainsFunc_T (a : Option Addr) (c n : Nat) (ts : List Qu.T) (g : FuncId) (lb : Array Value) (p : Qu.T → Bool) (v : Bool) (w : World) (hn : n ≤ 1099511627776) (hl : ts.length = n)
    (eg : ∀ args w, (callFunc g args).run Try.prog w = .ok (.enter g args) w) (hT : TasksAt w a ts) (hp : PredT w g lb p) (hv : ts.any p = v) :
    Calls Try.prog 147 #[.slice a n c, .func (.func g) #[] lb] w fun e w' => e = .returned (.bool v) ∧ Below w.heap.size w w' := by
  have I1 := IndexFunc_T a c ts g lb p w (by omega) eg hT hp
  rw [hl] at I1
  rw [← hv, ← idx_any]
  clear hv hT hp hl
  generalize idx p ts = x at *
  go_enter Try.func147, Try.ntmps147
  go_wp2_with fail
  with_reducible refine I1.mono ?_
  rintro e w' ⟨rfl, hb⟩
  go_wp2_with fail
  go_ret
  exact ⟨by first | rfl | (simp), hb⟩

theorem eg_check : ∀ args w, (callFunc 181 args).run Try.prog w = .ok (.enter 181 args) w := enters_of Try.func181 (by kernel_rfl) rfl
theorem eg_add : ∀ args w, (callFunc 148 args).run Try.prog w = .ok (.enter 148 args) w := enters_of Try.func148 (by kernel_rfl) rfl
theorem eg_may : ∀ args w, (callFunc 182 args).run Try.prog w = .ok (.enter 182 args) w := enters_of Try.func182 (by kernel_rfl) rfl
theorem eg_done : ∀ args w, (callFunc 126 args).run Try.prog w = .ok (.enter 126 args) w := enters_of Try.func126 (by kernel_rfl) rfl

theorem pred_check (w : World) (B : Nat) (x : Int) (hB : B < w.heap.size) (hc : w.cell? ⟨B, 0, none⟩ = some (.int .i64 x)) : PredT w 181 #[.pointer (some ⟨B, 0, none⟩)] (Qu.tg x) := fun W a b hb => by
  have hc' := (hb.cell (p := ⟨B, 0, none⟩) hB).trans hc
  have hBW : B < W.heap.size := Nat.lt_of_lt_of_le hB hb.size
  have HB := Lib.hid hb
  clear hb hc hB
  show Calls Try.prog 181 #[.agg #[.int .i64 a, .int .i64 b], .pointer (some ⟨B, 0, none⟩)] W _
  go_enter Try.func181, Try.ntmps181
  go_wp2_with fail
  go_ret
  exact ⟨rfl, HB.out.alloc HB.out.size _⟩

theorem pred_add (w : World) (B : Nat) (x : Int) (hB : B < w.heap.size) (hc : w.cell? ⟨B, 0, none⟩ = some (.int .i64 x)) : PredT w 148 #[.pointer (some ⟨B, 0, none⟩)] (Qu.tg x) := fun W a b hb => by
  have hc' := (hb.cell (p := ⟨B, 0, none⟩) hB).trans hc
  have hBW : B < W.heap.size := Nat.lt_of_lt_of_le hB hb.size
  have HB := Lib.hid hb
  clear hb hc hB
  show Calls Try.prog 148 #[.agg #[.int .i64 a, .int .i64 b], .pointer (some ⟨B, 0, none⟩)] W _
  go_enter Try.func148, Try.ntmps148
  go_wp2_with fail
  go_ret
  exact ⟨rfl, HB.out.alloc HB.out.size _⟩

theorem pred_done (w : World) (B : Nat) (x : Int) (hB : B < w.heap.size) (hc : w.cell? ⟨B, 0, none⟩ = some (.int .i64 x)) : PredT w 126 #[.pointer (some ⟨B, 0, none⟩)] (Qu.tg x) := fun W a b hb => by
  have hc' := (hb.cell (p := ⟨B, 0, none⟩) hB).trans hc
  have hBW : B < W.heap.size := Nat.lt_of_lt_of_le hB hb.size
  have HB := Lib.hid hb
  clear hb hc hB
  show Calls Try.prog 126 #[.agg #[.int .i64 a, .int .i64 b], .pointer (some ⟨B, 0, none⟩)] W _
  go_enter Try.func126, Try.ntmps126
  go_wp2_with fail
  go_ret
  exact ⟨rfl, HB.out.alloc HB.out.size _⟩

theorem pred_may (w : World) : PredT w 182 #[] Qu.ns := fun W a b hb => by
  have HB := Lib.hid hb
  clear hb
  show Calls Try.prog 182 #[.agg #[.int .i64 a, .int .i64 b]] W _
  go_enter Try.func182, Try.ntmps182
  go_wp2_with fail
  go_ret
  exact ⟨rfl, HB.out.alloc HB.out.size _⟩

end Go.Proofs.Ytenkdpogdfcbgaa.Rs

/- Walks: queue.Check, queue.may, slices.Clone at tasks. -/
namespace Go.Proofs.Ytenkdpogdfcbgaa.Rs
open Go.RowKit

theorem Try.infoTask : (Try.prog.info? 74).map (fun i => (i.zero, i.size, i.bytes)) = some (some (.agg #[.int .i64 0, .int .i64 0]), 2, 16) := by kernel_rfl

/-- Tasks as values. -/
def tv : List Qu.T → List Value
  | [] => []
  | t :: l => .int .i64 t.1 :: .int .i64 t.2 :: tv l

theorem tv_app (l m : List Qu.T) : tv (l ++ m) = tv l ++ tv m := by
  induction l with
  | nil => rfl
  | cons t l ih => rw [List.cons_append, tv, ih]; rfl

theorem tv_length (l : List Qu.T) : (tv l).length = l.length * 2 := by
  induction l with
  | nil => rfl
  | cons t l ih => rw [tv, List.length_cons, List.length_cons, ih, List.length_cons]; omega

theorem tv_one (l : List Qu.T) : ∀ u ∈ tv l, u.oneCell' = true := by
  induction l with
  | nil => intro u hu; cases hu
  | cons t l ih =>
    intro u hu
    rw [tv] at hu
    rcases List.mem_cons.1 hu with rfl | hu
    · rfl
    · rcases List.mem_cons.1 hu with rfl | hu
      · rfl
      · exact ih u hu

theorem tv_get {l : List Qu.T} {j : Nat} {t : Qu.T} (h : l[j]? = some t) : (tv l)[j * 2]? = some (.int .i64 t.1) ∧ (tv l)[j * 2 + 1]? = some (.int .i64 t.2) := by
  induction l generalizing j with
  | nil => simp at h
  | cons x l ih =>
    cases j with
    | zero =>
      obtain rfl : x = t := by simpa using h
      exact ⟨rfl, rfl⟩
    | succ j =>
      have := ih (j := j) (by simpa using h)
      rw [show (j + 1) * 2 = j * 2 + 1 + 1 from by omega]
      exact this

theorem tv_split {l : List Qu.T} {j : Nat} {u : Value} (h : (tv l)[j]? = some u) : ∃ k t, l[k]? = some t ∧ (j = k * 2 ∧ u = .int .i64 t.1 ∨ j = k * 2 + 1 ∧ u = .int .i64 t.2) := by
  induction l generalizing j with
  | nil => simp [tv] at h
  | cons x l ih =>
    match j with
    | 0 => exact ⟨0, x, rfl, Or.inl ⟨rfl, by simpa [tv] using h.symm⟩⟩
    | 1 => exact ⟨0, x, rfl, Or.inr ⟨rfl, by simpa [tv] using h.symm⟩⟩
    | j + 2 =>
      obtain ⟨k, t, h1, h2⟩ := ih (j := j) (by simpa [tv] using h)
      refine ⟨k + 1, t, by simpa using h1, ?_⟩
      rcases h2 with ⟨rfl, h2⟩ | ⟨rfl, h2⟩
      · exact Or.inl ⟨by omega, h2⟩
      · exact Or.inr ⟨by omega, h2⟩

theorem addr_lit (g o j : Nat) : (⟨g, o, none⟩ : Addr).add j = ⟨g, o + j, none⟩ := by
  unfold Addr.add
  split
  · rename_i h; rw [h]; rfl
  · rfl

theorem TasksAt.cells {w : World} {g o : Nat} {ts : List Qu.T} (h : TasksAt w (some ⟨g, o, none⟩) ts) : ∀ j u, (tv ts)[j]? = some u → w.cell? ((⟨g, o, none⟩ : Addr).add j) = some u := by
  intro j u hu
  obtain ⟨k, t, hk, hh⟩ := tv_split hu
  have hne : ts ≠ [] := by rintro rfl; simp at hk
  obtain ⟨g', o', he, -, hc⟩ := h hne
  cases he
  obtain ⟨c1, c2⟩ := hc k t hk
  rw [addr_lit]
  rcases hh with ⟨rfl, rfl⟩ | ⟨rfl, rfl⟩
  · exact c1
  · rw [← Nat.add_assoc]; exact c2

/-- A row of the call's own holds these tasks. -/
theorem tasks_own {w : World} {base n : Nat} {e : TypeId} {v : Value} {ts : List Qu.T} (h : w.ownsRow base e 2 v n (tv ts)) (hn : ts.length = n) : ∃ a c, v = .slice a n c ∧ TasksAt w a ts ∧ n ≤ c ∧ c ≤ maxLen := by
  rcases h.2 with ⟨rfl, h0⟩ | ⟨g, cap, cur, rfl, hb, hh, hnc, hcm, h'⟩
  · have : ts = [] := by
      cases ts with
      | nil => rfl
      | cons t r => simp at hn; omega
    subst this
    exact ⟨none, 0, by rw [← hn]; rfl, fun h => absurd rfl h, by rw [← hn]; exact Nat.le_refl _, Nat.zero_le _⟩
  · have hlt : g < w.heap.size := by
      rcases Nat.lt_or_ge g w.heap.size with h | h
      · exact h
      · rw [Array.getElem?_eq_none h] at hh; cases hh
    refine ⟨_, cap, rfl, fun _ => ⟨g, 0, rfl, hlt, fun j t hj => ?_⟩, hnc, hcm⟩
    obtain ⟨k1, k2⟩ := tv_get hj
    have c1 := h.cells (g := g) rfl _ _ k1
    have c2 := h.cells (g := g) rfl _ _ k2
    rw [addr_lit] at c1 c2
    refine ⟨c1, ?_⟩
    rw [Nat.add_assoc]
    exact c2

theorem own_low {w : World} {b base : Nat} {e : TypeId} {size n : Nat} {v : Value} {xs : List Value} (h : w.ownsRow b e size v n xs) (hb : base ≤ b) : w.ownsRow base e size v n xs := by
  refine ⟨h.1, ?_⟩
  rcases h.2 with h2 | ⟨g, cap, cur, hv, hg, r⟩
  · exact Or.inl h2
  · exact Or.inr ⟨g, cap, cur, hv, Nat.le_trans hb hg, r⟩

theorem below_drewN {B : Nat} {a w : World} (h : Below B a w) (n : Nat) : Below B a (w.drewN n) := ⟨h.os, h.tape, h.output, h.size, h.block⟩

theorem good_check {ts : List Qu.T} (h : Qu.Good ts) {k : Nat} (hk : k < ts.length) : (ts.take k).any (Qu.tg ts[k].1) = false := by
  rw [List.any_eq_false]
  intro t ht hh
  obtain ⟨j, hj, rfl⟩ := List.getElem_of_mem ht
  have hj' : j < k := by rw [List.length_take] at hj; omega
  have := (List.pairwise_iff_getElem.1 h.nd) j k (by rw [List.length_map]; omega) (by rw [List.length_map]; omega) hj'
  simp [Qu.tg] at hh this
  exact this hh

set_option maxRecDepth 100000 in
set_option maxHeartbeats 4000000 in
/-- Of a queue that is right Check says so. -/
theorem Check_T (a : Option Addr) (c n : Nat) (ts : List Qu.T) (w : World) (hl : ts.length = n) (hnc : n ≤ c) (_hcm : c ≤ maxLen) (hG : Qu.Good ts) (hT : TasksAt w a ts) :
    Calls Try.prog 124 #[.slice a n c] w fun e w' => e = .returned (.int .i64 0) ∧ Below w.heap.size w w' := by
  unfold maxLen at _hcm
  have hn20 : n ≤ 20 := by rw [← hl]; exact hG.len
  have HG := Lib.hid hG; have HT := Lib.hid hT; have HL := Lib.hid hl
  clear hG hT hl
  go_enter Try.func124, Try.ntmps124
  go_wp2_with fail
  go_loopw [10] (fun x wr => ∃ k : Nat, k ≤ n ∧ x = .int .i64 k ∧ Hid (Below w.heap.size w wr)) (fun x _ => n - (intOf x).toNat)
  case atStart => exact ⟨0, Nat.zero_le _, rfl, Lib.hid (Below.refl _ _)⟩
  case round =>
    obtain ⟨k, hk, rfl, hB⟩ := hrel
    by_cases hlt : k < n
    · have hk' : k < ts.length := by rw [HL.out]; exact hlt
      have hne : ts ≠ [] := by rintro rfl; simp at hk'
      obtain ⟨g, o, rfl, hg, hc⟩ := (HT.out.keep hB.out) hne
      obtain ⟨c1, c2⟩ := hc k ts[k] (List.getElem?_eq_getElem hk')
      have hone : Qu.one (ts[k].1, ts[k].2) = true := HG.out.one ts[k] (List.getElem_mem hk')
      have hany := good_check HG.out hk'
      have hsz := hB.out.size
      clear hc hne
      generalize ts[k].1 = x at *
      generalize ts[k].2 = y at *
      have O1 := fun w => one_is x y true hone w
      have HANY := Lib.hid hany
      clear hany hone
      go_wp2_with fail
      with_reducible refine (O1 _).mono ?_
      rintro e w2 ⟨rfl, hb2⟩
      have hsz2 := hb2.size
      rw [World.size_alloc] at hsz2
      have cB : w2.cell? ⟨wr.heap.size, 0, none⟩ = some (.int .i64 x) := by
        rw [hb2.cell (p := ⟨wr.heap.size, 0, none⟩) (by rw [World.size_alloc]; exact Nat.lt_succ_self _)]
        exact cell_new wr (k := 0) rfl
      have HB2 : Hid (Below w.heap.size w w2) := Lib.hid ((hB.out.alloc hB.out.size _).trans (hb2.mono (by rw [World.size_alloc]; omega)))
      have C1 := ContainsFunc_T (some ⟨g, o, none⟩) c k (ts.take k) _ _ _ false w2 (by omega) (by rw [List.length_take]; omega) eg_check ((HT.out.keep HB2.out).take k) (pred_check w2 wr.heap.size x (by omega) cB) HANY.out
      clear hb2 hsz2 hsz O1 c1 c2 cB
      go_wp2_with fail
      with_reducible refine C1.mono ?_
      rintro e w3 ⟨rfl, hb3⟩
      have HB3 : Hid (Below w.heap.size w w3) := Lib.hid (HB2.out.trans (hb3.mono HB2.out.size))
      clear hb3 C1
      go_wp2_with fail
      go_roundw
      case rel => exact ⟨k + 1, hlt, by go_num, HB3⟩
      case measure => simp [intOf]; omega
    · obtain rfl : k = n := by omega
      go_wp2_with fail
      go_ret
      exact ⟨rfl, hB.out⟩

set_option maxRecDepth 100000 in
set_option maxHeartbeats 4000000 in
theorem may_T (a : Option Addr) (c n i : Nat) (ts : List Qu.T) (v : Bool) (w : World) (hl : ts.length = n) (hnc : n ≤ c) (_hcm : c ≤ maxLen) (hi : i < n) (hn : n ≤ 20) (hT : TasksAt w a ts) (hv : Qu.may ts i = v) :
    Calls Try.prog 125 #[.slice a n c, .int .i64 i] w fun e w' => e = .returned (.bool v) ∧ Below w.heap.size w w' := by
  unfold maxLen at _hcm
  have hk' : i < ts.length := by omega
  have hne : ts ≠ [] := by rintro rfl; simp at hk'
  obtain ⟨g, o, rfl, hg, hc⟩ := hT hne
  obtain ⟨c1, c2⟩ := hc i ts[i] (List.getElem?_eq_getElem hk')
  have eg : ts.getD i (0, 0) = ts[i] := by simp [List.getD, hk']
  unfold Qu.may at hv
  rw [eg] at hv
  have C1 := fun u (hu : (ts.take i).any Qu.ns = u) => ContainsFunc_T (some ⟨g, o, none⟩) c i (ts.take i) _ _ _ u w (by omega) (by rw [List.length_take]; omega) eg_may (hT.take i) (pred_may w) hu
  clear hc hne hT eg
  generalize ts[i].1 = x at *
  generalize ts[i].2 = y at *
  by_cases h2 : y = 2
  · rw [if_pos h2] at hv
    subst hv; subst h2
    clear C1
    go_enter Try.func125, Try.ntmps125
    go_wp2_with fail
    go_ret
    exact ⟨rfl, Below.refl _ _⟩
  · rw [if_neg h2] at hv
    have e2 : (y == 2) = false := beq_eq_false_iff_ne.2 h2
    by_cases h1 : y = 1
    · rw [if_pos h1] at hv
      subst h1
      have e0 : ((i : Int) == 0) = v := by
        rw [← hv]
        by_cases h0 : i = 0
        · subst h0; rfl
        · rw [decide_eq_false h0]; exact beq_eq_false_iff_ne.2 (by omega)
      clear C1 hv h2 e2
      go_enter Try.func125, Try.ntmps125
      go_wp2_with fail
      go_ret
      exact ⟨by first | rfl | simp [e0], Below.refl _ _⟩
    · rw [if_neg h1] at hv
      have e1 : (y == 1) = false := beq_eq_false_iff_ne.2 h1
      rcases hu : (ts.take i).any Qu.ns with _ | _
      all_goals
        have C2 := C1 _ hu
        rw [hu] at hv
        subst hv
        clear C1 hu h1 h2
        go_enter Try.func125, Try.ntmps125
        go_wp2_with fail
        with_reducible refine C2.mono ?_
        rintro e w' ⟨rfl, hb⟩
        go_wp2_with fail
        go_ret
        exact ⟨rfl, hb⟩

end Go.Proofs.Ytenkdpogdfcbgaa.Rs

/- Walks: slices.Grow at nil, slices.Concat of two, queue.Add, queued. -/
namespace Go.Proofs.Ytenkdpogdfcbgaa.Rs
open Go.RowKit

set_option maxRecDepth 100000 in
set_option maxHeartbeats 2000000 in
theorem Grow_nil (n : Nat) (hn : n ≤ 1099511627776) (w : World) :
    Calls Try.prog 200 #[.slice none 0 0, .int .i64 n] w fun e w' => ∃ v, e = .returned v ∧ w'.ownsRow w.heap.size 74 2 v 0 [] ∧ Below w.heap.size w w' := by
  obtain ⟨i0, hi, hz0, hz1, hz2⟩ := info_parts Try.infoTask
  by_cases h0 : n = 0
  · subst h0
    go_enter Try.func200, Try.ntmps200
    go_wp2_with fail
    go_ret
    exact ⟨_, rfl, World.ownsRow_nil _ _ _ _, Below.refl _ _⟩
  · have hz := fun ty => Lib.run_append_nil_zeros w 70 3 ty 74 i0 (.agg #[.int .i64 0, .int .i64 0]) .i64 .i64 Try.underlying70 Try.underlying3 hi hz0 n (by omega) (by rw [hz1]; decide) (by omega) (by rw [hz2]; omega)
    have hge := grownCap_ge w n 0 74
    have hle := grownCap_le_maxLen w n 0 74 (by unfold maxLen; omega)
    have hcs : (Builtin.zeroCells (Value.agg #[.int .i64 0, .int .i64 0]).cells n ++ Builtin.zeroCells (Value.agg #[.int .i64 0, .int .i64 0]).cells (grownCap w n 0 74 - n)).size = grownCap w n 0 74 * 2 := by
      rw [Array.size_append, size_zeroCells, size_zeroCells]
      show n * 2 + _ * 2 = _
      omega
    generalize grownCap w n 0 74 = G at *
    generalize Builtin.zeroCells (Value.agg #[.int .i64 0, .int .i64 0]).cells n ++ Builtin.zeroCells (Value.agg #[.int .i64 0, .int .i64 0]).cells (G - n) = cs at *
    have HF : Hid ((w.drew.alloc (.cells cs 74)).ownsRow w.heap.size 74 2 (.slice (some ⟨w.heap.size, 0, none⟩) 0 G) 0 [] ∧ Below w.heap.size w (w.drew.alloc (.cells cs 74))) :=
      Lib.hid ⟨World.ownsRow_made w.drew cs G (Nat.le_refl _) hle hcs, ((Below.refl _ w).drew).alloc (Nat.le_refl _) _⟩
    have hn0 : decide ((0 : Int) < (n : Int)) = true := decide_eq_true (by omega)
    clear hcs hle
    go_enter Try.func200, Try.ntmps200
    go_wp2_with (at_builtin; refine Lib.wpList_append_run _ rfl _ _ _ _ rfl _ _ rfl rfl _ _ (hz _) ?_)
    go_ret
    exact ⟨_, rfl, HF.out⟩

/-- A slice of tasks, whole. -/
structure TSl (w : World) (a : Option Addr) (n c : Nat) (ts : List Qu.T) : Prop where
  at_ : TasksAt w a ts
  len : ts.length = n
  cap : n ≤ c
  max : c ≤ maxLen
  nil : a = none → n = 0 ∧ c = 0

theorem TSl.keep {w w' : World} {a : Option Addr} {n c : Nat} {ts : List Qu.T} (h : TSl w a n c ts) (hb : Below w.heap.size w w') : TSl w' a n c ts := ⟨h.at_.keep hb, h.len, h.cap, h.max, h.nil⟩

theorem TSl.cells {w : World} {x : Addr} {n c : Nat} {ts : List Qu.T} (h : TSl w (some x) n c ts) : ∀ j u, (tv ts)[j]? = some u → w.cell? (x.add j) = some u := by
  by_cases h0 : ts = []
  · subst h0
    intro j u hu
    simp [tv] at hu
  · obtain ⟨g, o, he, -, -⟩ := h.at_ h0
    cases he
    exact h.at_.cells

/-- A row of the call's own is such a slice. -/
theorem tsl_own {w : World} {base n : Nat} {e : TypeId} {v : Value} {ts : List Qu.T} (h : w.ownsRow base e 2 v n (tv ts)) (hn : ts.length = n) : ∃ a c, v = .slice a n c ∧ TSl w a n c ts := by
  obtain ⟨a, c, rfl, h1, h2, h3⟩ := tasks_own h hn
  refine ⟨a, c, rfl, h1, hn, h2, h3, ?_⟩
  rintro rfl
  rcases h.2 with ⟨he, h0⟩ | ⟨g, cap, cur, he, -⟩
  · cases he; exact ⟨h0, rfl⟩
  · cases he

theorem own_grown {w w' : World} {base : Nat} {e : TypeId} {size : Nat} {v : Value} {n : Nat} {xs : List Value} (h : w.ownsRow base e size v n xs) {B : Nat} {W : World} (hB : Below B W w) (hb : B ≤ base) (hs : B ≤ w.heap.size) (hg : w.grownBy w' v.ownBlock) : Below B W w' :=
  hB.grown hg hs (fun k hk => Nat.le_trans hb (row_base h k hk))

set_option maxRecDepth 100000 in
set_option maxHeartbeats 4000000 in
theorem Clone_T (a : Option Addr) (n c : Nat) (ts : List Qu.T) (w : World) (hT : TSl w a n c ts) (hn : n ≤ 1099511627776) :
    Calls Try.prog 64 #[.slice a n c] w fun e w' => ∃ v, e = .returned v ∧ w'.ownsRow w.heap.size 74 2 v n (tv ts) ∧ Below w.heap.size w w' := by
  obtain ⟨i0, hi, hz0, hz1, hz2⟩ := info_parts Try.infoTask
  rcases a with _ | x
  · obtain ⟨rfl, rfl⟩ := hT.nil rfl
    obtain rfl : ts = [] := List.length_eq_zero_iff.1 hT.len
    clear hT
    have en : ∀ w, (binOp .eql 70 (.slice none 0 0) (.slice none 0 0)).run Try.prog w = .ok (.bool true) w := fun w => Lib.run_eql_slice_nil w 70 74 none 0 0 0 0 Try.underlying70
    go_enter Try.func64, Try.ntmps64
    go_wp2_with fail
    go_ret
    exact ⟨_, rfl, World.ownsRow_nil _ _ _ _, Below.refl _ _⟩
  · have HB1 : ∀ T, Below w.heap.size w (w.alloc (.cells #[] T)) := fun T => (Below.refl _ w).alloc (Nat.le_refl _) _
    have hcells : ∀ (T : TypeId) j u, (tv ts)[j]? = some u → (w.alloc (.cells #[] T)).cell? (x.add j) = some u := fun T => (hT.keep (HB1 T)).cells
    have H3 := Lib.hid (hcells 74)
    have HL : Hid ((tv ts).length = n * 2) := Lib.hid (by rw [tv_length, hT.len])
    have H5 : Hid (0 + n ≤ maxLen ∧ (0 + n) * 16 ≤ 140737488355328) := Lib.hid ⟨by unfold maxLen; omega, by omega⟩
    have HO : Hid ((w.alloc (.cells #[] 74)).ownsRow w.heap.size 74 2 (.slice (some ⟨w.heap.size, 0, none⟩) 0 0) 0 []) := Lib.hid (World.ownsRow_made w #[] 0 (Nat.le_refl _) (Nat.zero_le _) rfl)
    have HS : Hid (w.heap.size ≤ (w.alloc (.cells #[] 74)).heap.size) := Lib.hid (by rw [World.size_alloc]; omega)
    have HB := Lib.hid (HB1 74)
    clear hcells hT HB1
    have en : ∀ w, (binOp .eql 70 (.slice (some x) n c) (.slice none 0 0)).run Try.prog w = .ok (.bool false) w := fun w => Lib.run_eql_slice_nil w 70 74 (some x) n c 0 0 Try.underlying70
    go_enter Try.func64, Try.ntmps64
    go_wp2_with (at_builtin; refine wpList_append_own _ rfl _ _ _ rfl w.heap.size 74 i0 (.agg #[.int .i64 0, .int .i64 0]) 2 16 Try.underlying70 hi hz0 hz1 hz2 rfl (by decide) (.slice (some ⟨w.heap.size, 0, none⟩) 0 0) 0 [] rfl HO.out x n c (tv ts) rfl HL.out H3.out (tv_one ts) H5.out.1 H5.out.2 HS.out ?_)
    intro v' w' q1 q2 _
    have HF : Hid (w'.ownsRow w.heap.size 74 2 v' n (tv ts) ∧ Below w.heap.size w w') := Lib.hid ⟨by simpa using q1, own_grown HO.out HB.out (Nat.le_refl _) HS.out q2⟩
    clear q1 q2 H3 HL H5
    go_wp2_with fail
    go_ret
    exact ⟨_, rfl, HF.out⟩

set_option maxRecDepth 100000 in
set_option maxHeartbeats 4000000 in
theorem Concat2_T (b c n1 c1 n2 c2 : Nat) (a1 a2 : Option Addr) (t1 t2 : List Qu.T) (w : World) (hb : b < w.heap.size) (hc1 : w.cell? ⟨b, 0, none⟩ = some (.slice a1 n1 c1)) (hc2 : w.cell? ⟨b, 1, none⟩ = some (.slice a2 n2 c2))
    (h1 : TSl w a1 n1 c1 t1) (h2 : TSl w a2 n2 c2 t2) (hn1 : n1 ≤ 1000000) (hn2 : n2 ≤ 1000000) :
    Calls Try.prog 149 #[.slice (some ⟨b, 0, none⟩) 2 c] w fun e w' => ∃ v, e = .returned v ∧ w'.ownsRow w.heap.size 74 2 v (n1 + n2) (tv (t1 ++ t2)) ∧ Below w.heap.size w w' := by
  obtain ⟨i0, hi, hz0, hz1, hz2⟩ := info_parts Try.infoTask
  have H1 := Lib.hid h1; have H2 := Lib.hid h2; have HB := Lib.hid hb
  have HC1 := Lib.hid hc1; have HC2 := Lib.hid hc2
  have G1 := fun w => Grow_nil (n1 + n2) (by omega) w
  obtain ⟨S, hS⟩ : ∃ S : Int, ((n1 + n2 : Nat) : Int) = S := ⟨_, rfl⟩
  rw [hS] at G1
  have HS : Hid ((n1 : Int) + (n2 : Int) = S) := Lib.hid (by omega)
  clear hS
  have b1 : n1 + n2 ≤ maxLen := by unfold maxLen; omega
  have b2 : 0 + n1 ≤ maxLen ∧ (0 + n1) * 16 ≤ 140737488355328 ∧ (n1 + n2) * 16 ≤ 140737488355328 := by unfold maxLen; omega
  have HBB := Lib.hid b1; have HBC := Lib.hid b2
  clear h1 h2 hb b1 b2
  go_enter Try.func149, Try.ntmps149
  go_wp2_with fail
  go_loop [3, 11] (fun x i => (x = .int .i64 0 ∧ i = .int .i64 0) ∨ (x = .int .i64 n1 ∧ i = .int .i64 1) ∨ (x = .int .i64 S ∧ i = .int .i64 2)) (fun _ i => 2 - (intOf i).toNat)
  case atStart => exact Or.inl ⟨rfl, rfl⟩
  case round =>
    rcases hrel with ⟨rfl, rfl⟩ | ⟨rfl, rfl⟩ | ⟨rfl, rfl⟩
    · go_wp2_with fail
      go_round
      case rel => exact Or.inr (Or.inl ⟨by go_num, by go_num⟩)
      case measure => simp [intOf]
    · go_wp2_with fail
      go_round
      case rel => exact Or.inr (Or.inr ⟨by rw [← HS.out], by go_num⟩)
      case measure => simp [intOf]
    · have hS0 : ¬ S < 0 := by have := HS.out; omega
      clear hc1 hc2
      go_wp2_with fail
      with_reducible refine (G1 _).mono ?_
      rintro e w1 ⟨v1, rfl, hown1, hb1⟩
      have HO1 := Lib.hid hown1; have HB1 := Lib.hid hb1
      clear hown1 hb1 G1
      go_wp2_with fail
      go_loopw [6, 27] (fun v i wr => Hid (Below w.heap.size w wr) ∧ ((i = .int .i64 0 ∧ Hid (wr.ownsRow w.heap.size 74 2 v 0 [])) ∨ (i = .int .i64 1 ∧ Hid (wr.ownsRow w.heap.size 74 2 v n1 (tv t1))) ∨ (i = .int .i64 2 ∧ Hid (wr.ownsRow w.heap.size 74 2 v (n1 + n2) (tv (t1 ++ t2)))))) (fun _ i _ => 2 - (intOf i).toNat)
      case atStart => exact ⟨HB1, Or.inl ⟨rfl, HO1⟩⟩
      case round =>
        obtain ⟨hB, ⟨rfl, hO⟩ | ⟨rfl, hO⟩ | ⟨rfl, hO⟩⟩ := hrel
        · have g1 : wr.cell? ⟨b, 0, none⟩ = some (.slice a1 n1 c1) := by rw [hB.out.cell (p := ⟨b, 0, none⟩) HB.out]; exact HC1.out
          have hsz := hB.out.size
          rcases a1 with _ | x1
          · obtain ⟨rfl, rfl⟩ := H1.out.nil rfl
            have ht : t1 = [] := List.length_eq_zero_iff.1 H1.out.len
            have HT : Hid (t1 = []) := Lib.hid ht
            clear ht
            go_wp2_with (at_builtin; refine wpList_append_own_none rfl _ _ _ rfl w.heap.size 74 i0 2 Try.underlying70 hi _ 0 [] rfl hO.out rfl ?_)
            go_roundw
            case rel => exact ⟨hB, Or.inr (Or.inl ⟨by go_num, Lib.hid (by rw [HT.out]; exact hO.out)⟩)⟩
            case measure => simp [intOf]
          · have hcl := Lib.hid (H1.out.keep hB.out).cells
            have hll : Hid ((tv t1).length = n1 * 2) := Lib.hid (by rw [tv_length, H1.out.len])
            go_wp2_with (at_builtin; refine wpList_append_own _ rfl _ _ _ rfl w.heap.size 74 i0 (.agg #[.int .i64 0, .int .i64 0]) 2 16 Try.underlying70 hi hz0 hz1 hz2 rfl (by decide) _ 0 [] rfl hO.out x1 n1 c1 (tv t1) rfl hll.out hcl.out (tv_one t1) HBC.out.1 HBC.out.2.1 hsz ?_)
            intro v' w' q1 q2 _
            have HO' : Hid (w'.ownsRow w.heap.size 74 2 v' n1 (tv t1)) := Lib.hid (by simpa using q1)
            have HB' : Hid (Below w.heap.size w w') := Lib.hid (own_grown hO.out hB.out (Nat.le_refl _) hsz q2)
            clear q1 q2
            go_wp2_with fail
            go_roundw
            case rel => exact ⟨HB', Or.inr (Or.inl ⟨by go_num, HO'⟩)⟩
            case measure => simp [intOf]
        · have g1 : wr.cell? ⟨b, 1, none⟩ = some (.slice a2 n2 c2) := by rw [hB.out.cell (p := ⟨b, 1, none⟩) HB.out]; exact HC2.out
          have hsz := hB.out.size
          rcases a2 with _ | x2
          · obtain ⟨rfl, rfl⟩ := H2.out.nil rfl
            have HT : Hid (t2 = []) := Lib.hid (List.length_eq_zero_iff.1 H2.out.len)
            go_wp2_with (at_builtin; refine wpList_append_own_none rfl _ _ _ rfl w.heap.size 74 i0 2 Try.underlying70 hi _ n1 (tv t1) rfl hO.out rfl ?_)
            go_roundw
            case rel => exact ⟨hB, Or.inr (Or.inr ⟨by go_num, Lib.hid (by rw [HT.out, List.append_nil]; exact hO.out)⟩)⟩
            case measure => simp [intOf]
          · have hcl := Lib.hid (H2.out.keep hB.out).cells
            have hll : Hid ((tv t2).length = n2 * 2) := Lib.hid (by rw [tv_length, H2.out.len])
            go_wp2_with (at_builtin; refine wpList_append_own _ rfl _ _ _ rfl w.heap.size 74 i0 (.agg #[.int .i64 0, .int .i64 0]) 2 16 Try.underlying70 hi hz0 hz1 hz2 rfl (by decide) _ n1 (tv t1) rfl hO.out x2 n2 c2 (tv t2) rfl hll.out hcl.out (tv_one t2) HBB.out HBC.out.2.2 hsz ?_)
            intro v' w' q1 q2 _
            have HO' : Hid (w'.ownsRow w.heap.size 74 2 v' (n1 + n2) (tv (t1 ++ t2))) := Lib.hid (by rw [tv_app]; exact q1)
            have HB' : Hid (Below w.heap.size w w') := Lib.hid (own_grown hO.out hB.out (Nat.le_refl _) hsz q2)
            clear q1 q2
            go_wp2_with fail
            go_roundw
            case rel => exact ⟨HB', Or.inr (Or.inr ⟨by go_num, HO'⟩)⟩
            case measure => simp [intOf]
        · go_wp2_with fail
          go_ret
          exact ⟨_, rfl, hO.out, hB.out⟩

end Go.Proofs.Ytenkdpogdfcbgaa.Rs
