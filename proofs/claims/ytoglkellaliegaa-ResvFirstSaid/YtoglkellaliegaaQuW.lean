/- Walks: queue.one, the closures, slices.IndexFunc and slices.ContainsFunc at tasks. -/
import Derived.Test.YtoglkellaliegaaQuP
import Derived.Test.YtoglkellaliegaaRow
import Derived.Test.YtoglkellaliegaaUse
import Derived.Deep.LoopGhost
import Derived.Lib.Hide
import Derived.Shelf.Abstract
namespace Go.Proofs.Ytoglkellaliegaa
open Go.RowKit

set_option maxHeartbeats 1000000 in
theorem one_is (a b : Int) (v : Bool) (hv : Qu.one (a, b) = v) (w : World) : Calls Try.prog 58 #[.agg #[.int .i64 a, .int .i64 b]] w fun e w' => e = .returned (.bool v) ∧ Below w.heap.size w w' := by
  rw [← hv]
  clear hv
  have key : Calls Try.prog 58 #[.agg #[.int .i64 a, .int .i64 b]] w fun e w' => e = .returned (.bool ((decide (0 ≤ a) && decide (a < 1000)) && (decide (0 ≤ b) && decide (b ≤ 2)))) ∧ Below w.heap.size w w' := by
    rcases h1 : decide (0 ≤ a) with _ | _
    · go_enter Try.func58, Try.ntmps58
      go_wp2_with fail
      go_ret
      exact ⟨by rfl, (Below.refl _ _).alloc (Nat.le_refl _) _⟩
    · rcases h2 : decide (a < 1000) with _ | _
      · have g1 := of_decide_eq_true h1
        go_enter Try.func58, Try.ntmps58
        go_wp2_with fail
        go_ret
        exact ⟨by rfl, (Below.refl _ _).alloc (Nat.le_refl _) _⟩
      · rcases h3 : decide (0 ≤ b) with _ | _
        · go_enter Try.func58, Try.ntmps58
          go_wp2_with fail
          go_ret
          exact ⟨by rfl, (Below.refl _ _).alloc (Nat.le_refl _) _⟩
        · rcases h4 : decide (b ≤ 2) with _ | _
          all_goals
            go_enter Try.func58, Try.ntmps58
            go_wp2_with fail
            go_ret
            exact ⟨by rfl, (Below.refl _ _).alloc (Nat.le_refl _) _⟩
  exact key

/-- A predicate's function value: what it answers of the tasks, wherever it is asked behind the beginning. -/
def PredT (w : World) (g : FuncId) (lb : Array Value) (p : Qu.T → Bool) : Prop :=
  ∀ (W : World) (a b : Int), Below w.heap.size w W → Calls Try.prog g (#[.agg #[.int .i64 a, .int .i64 b]] ++ lb) W fun e w' => e = .returned (.bool (p (a, b))) ∧ Below w.heap.size w w'

/-- Tasks that lie there. -/
def TasksAt (w : World) (a : Option Addr) (ts : List Qu.T) : Prop :=
  ts ≠ [] → ∃ g o, a = some ⟨g, o, none⟩ ∧ g < w.heap.size ∧ ∀ (j : Nat) (t : Qu.T), ts[j]? = some t → w.cell? ⟨g, o + j * 2, none⟩ = some (.int .i64 t.1) ∧ w.cell? ⟨g, o + j * 2 + 1, none⟩ = some (.int .i64 t.2)

theorem TasksAt.keep {w w' : World} {a : Option Addr} {ts : List Qu.T} (h : TasksAt w a ts) (hb : Below w.heap.size w w') : TasksAt w' a ts := fun h0 => by
  obtain ⟨g, o, rfl, hg, hc⟩ := h h0
  refine ⟨g, o, rfl, Nat.lt_of_lt_of_le hg hb.size, fun j t hj => ?_⟩
  rw [hb.cell (p := ⟨g, o + j * 2, none⟩) hg, hb.cell (p := ⟨g, o + j * 2 + 1, none⟩) hg]
  exact hc j t hj

theorem TasksAt.take {w : World} {a : Option Addr} {ts : List Qu.T} (h : TasksAt w a ts) (n : Nat) : TasksAt w a (ts.take n) := fun h0 => by
  have hne : ts ≠ [] := by rintro rfl; simp at h0
  obtain ⟨g, o, rfl, hg, hc⟩ := h hne
  refine ⟨g, o, rfl, hg, fun j t hj => hc j t ?_⟩
  rw [List.getElem?_take] at hj
  split at hj
  · exact hj
  · cases hj

/-- The index that IndexFunc answers. -/
def idx (p : Qu.T → Bool) (ts : List Qu.T) : Int := match ts.findIdx? p with | some i => (i : Int) | none => -1

theorem idx_hit {p : Qu.T → Bool} {ts : List Qu.T} {k : Nat} (hk : k < ts.length) (h : p ts[k] = true) (hb : ∀ j (hj : j < k), p (ts[j]'(by omega)) = false) : idx p ts = (k : Int) := by
  have : ts.findIdx? p = some k := by
    rw [List.findIdx?_eq_some_iff_getElem]
    exact ⟨hk, h, fun j hj hh => by rw [hb j hj] at hh; cases hh⟩
  unfold idx
  rw [this]

theorem idx_miss {p : Qu.T → Bool} {ts : List Qu.T} (hb : ∀ j (hj : j < ts.length), p ts[j] = false) : idx p ts = -1 := by
  have : ts.findIdx? p = none := by
    rw [List.findIdx?_eq_none_iff]
    intro x hx
    obtain ⟨j, hj, rfl⟩ := List.getElem_of_mem hx
    exact hb j hj
  unfold idx
  rw [this]

set_option maxHeartbeats 2000000 in
theorem IndexFunc_T (a : Option Addr) (c : Nat) (ts : List Qu.T) (g : FuncId) (lb : Array Value) (p : Qu.T → Bool) (w : World) (hn : ts.length ≤ 1099511627776)
    (eg : ∀ args w, (callFunc g args).run Try.prog w = .ok (.enter g args) w) (hT : TasksAt w a ts) (hp : PredT w g lb p) :
    Calls Try.prog 25 #[.slice a ts.length c, .func (.func g) #[] lb] w fun e w' => e = .returned (.int .i64 (idx p ts)) ∧ Below w.heap.size w w' := by
  have HT := Lib.hid hT; have HP := Lib.hid hp
  clear hT hp
  obtain ⟨n, hn'⟩ : ∃ n, ts.length = n := ⟨_, rfl⟩
  have HN := Lib.hid hn'
  rw [hn'] at hn ⊢
  clear hn'
  go_enter Try.func25, Try.ntmps25
  go_wp2_with fail
  go_loopg [5, 8] n (fun gg _ s8 wr => ∃ kk : Nat, kk ≤ n ∧ n - kk ≤ gg ∧ s8 = .int .i64 kk ∧ Hid (Below w.heap.size w wr) ∧ Hid (∀ j (_ : j < kk) (hj : j < ts.length), p ts[j] = false))
  case atStart => exact ⟨0, Nat.zero_le _, by omega, rfl, Lib.hid (Below.refl _ w), Lib.hid fun j hj => absurd hj (Nat.not_lt_zero _)⟩
  case round =>
    obtain ⟨kk, hkk, hg, rfl, BW, A⟩ := hrel
    by_cases hlt : kk < n
    · have hk' : kk < ts.length := by rw [HN.out]; exact hlt
      have hne : ts ≠ [] := by rintro rfl; simp at hk'
      obtain ⟨b, o, rfl, hb, hc⟩ := (HT.out.keep BW.out) hne
      obtain ⟨c1, c2⟩ := hc kk ts[kk] (List.getElem?_eq_getElem hk')
      have hcall := HP.out wr ts[kk].1 ts[kk].2 BW.out
      have HE : Hid (p ts[kk] = p (ts[kk].1, ts[kk].2)) := Lib.hid rfl
      clear hc hb hne
      generalize ts[kk].1 = x at *
      generalize ts[kk].2 = y at *
      cases hq : p (x, y) with
      | true =>
        rw [hq] at hcall
        have HQ := Lib.hid hq
        clear hq
        go_wp2_with (go_at_fn g; refine hcall.mono ?_; rintro e w' ⟨rfl, hb'⟩)
        go_ret
        refine ⟨?_, hb'⟩
        rw [idx_hit hk' (by rw [HE.out]; exact HQ.out) (fun j hj => A.out j hj (by omega))]
        rfl
      | false =>
        rw [hq] at hcall
        have HQ := Lib.hid hq
        clear hq
        go_wp2_with (go_at_fn g; refine hcall.mono ?_; rintro e w' ⟨rfl, hb'⟩)
        go_roundg (n - (kk + 1))
        case measure => omega
        case rel =>
          refine ⟨kk + 1, by omega, by omega, by go_num, Lib.hid hb', Lib.hid fun j hj hj' => ?_⟩
          by_cases e : j = kk
          · subst e
            rw [HE.out]; exact HQ.out
          · exact A.out j (by omega) hj'
    · obtain rfl : kk = n := by omega
      go_wp2_with fail
      go_ret
      refine ⟨?_, BW.out⟩
      rw [idx_miss (fun j hj => A.out j (by rw [← HN.out]; exact hj) hj)]
      rfl

theorem idx_any (p : Qu.T → Bool) (ts : List Qu.T) : decide (0 ≤ idx p ts) = ts.any p := by
  unfold idx
  cases h : ts.findIdx? p with
  | none =>
    rw [List.findIdx?_eq_none_iff] at h
    have : ts.any p = false := by rw [List.any_eq_false]; intro x hx; rw [h x hx]; decide
    rw [this]; rfl
  | some i =>
    obtain ⟨hi, h1, -⟩ := List.findIdx?_eq_some_iff_getElem.1 h
    have : ts.any p = true := List.any_eq_true.2 ⟨_, List.getElem_mem hi, h1⟩
    rw [this]
    exact decide_eq_true (by show (0 : Int) ≤ (i : Int); omega)

set_option maxHeartbeats 1000000 in
theorem ContainsFunc_T (a : Option Addr) (c n : Nat) (ts : List Qu.T) (g : FuncId) (lb : Array Value) (p : Qu.T → Bool) (v : Bool) (w : World) (hn : n ≤ 1099511627776) (hl : ts.length = n)
    (eg : ∀ args w, (callFunc g args).run Try.prog w = .ok (.enter g args) w) (hT : TasksAt w a ts) (hp : PredT w g lb p) (hv : ts.any p = v) :
    Calls Try.prog 59 #[.slice a n c, .func (.func g) #[] lb] w fun e w' => e = .returned (.bool v) ∧ Below w.heap.size w w' := by
  have I1 := IndexFunc_T a c ts g lb p w (by omega) eg hT hp
  rw [hl] at I1
  rw [← hv, ← idx_any]
  clear hv hT hp hl
  generalize idx p ts = x at *
  go_enter Try.func59, Try.ntmps59
  go_wp2_with fail
  with_reducible refine I1.mono ?_
  rintro e w' ⟨rfl, hb⟩
  go_wp2_with fail
  go_ret
  exact ⟨by first | rfl | (simp), hb⟩

theorem eg_check : ∀ args w, (callFunc 81 args).run Try.prog w = .ok (.enter 81 args) w := enters_of Try.func81 (by kernel_rfl) rfl
theorem eg_add : ∀ args w, (callFunc 60 args).run Try.prog w = .ok (.enter 60 args) w := enters_of Try.func60 (by kernel_rfl) rfl
theorem eg_may : ∀ args w, (callFunc 82 args).run Try.prog w = .ok (.enter 82 args) w := enters_of Try.func82 (by kernel_rfl) rfl
theorem eg_done : ∀ args w, (callFunc 63 args).run Try.prog w = .ok (.enter 63 args) w := enters_of Try.func63 (by kernel_rfl) rfl

theorem pred_check (w : World) (B : Nat) (x : Int) (hB : B < w.heap.size) (hc : w.cell? ⟨B, 0, none⟩ = some (.int .i64 x)) : PredT w 81 #[.pointer (some ⟨B, 0, none⟩)] (Qu.tg x) := fun W a b hb => by
  have hc' := (hb.cell (p := ⟨B, 0, none⟩) hB).trans hc
  have hBW : B < W.heap.size := Nat.lt_of_lt_of_le hB hb.size
  have HB := Lib.hid hb
  clear hb hc hB
  show Calls Try.prog 81 #[.agg #[.int .i64 a, .int .i64 b], .pointer (some ⟨B, 0, none⟩)] W _
  go_enter Try.func81, Try.ntmps81
  go_wp2_with fail
  go_ret
  exact ⟨rfl, HB.out.alloc HB.out.size _⟩

theorem pred_add (w : World) (B : Nat) (x : Int) (hB : B < w.heap.size) (hc : w.cell? ⟨B, 0, none⟩ = some (.int .i64 x)) : PredT w 60 #[.pointer (some ⟨B, 0, none⟩)] (Qu.tg x) := fun W a b hb => by
  have hc' := (hb.cell (p := ⟨B, 0, none⟩) hB).trans hc
  have hBW : B < W.heap.size := Nat.lt_of_lt_of_le hB hb.size
  have HB := Lib.hid hb
  clear hb hc hB
  show Calls Try.prog 60 #[.agg #[.int .i64 a, .int .i64 b], .pointer (some ⟨B, 0, none⟩)] W _
  go_enter Try.func60, Try.ntmps60
  go_wp2_with fail
  go_ret
  exact ⟨rfl, HB.out.alloc HB.out.size _⟩

theorem pred_done (w : World) (B : Nat) (x : Int) (hB : B < w.heap.size) (hc : w.cell? ⟨B, 0, none⟩ = some (.int .i64 x)) : PredT w 63 #[.pointer (some ⟨B, 0, none⟩)] (Qu.tg x) := fun W a b hb => by
  have hc' := (hb.cell (p := ⟨B, 0, none⟩) hB).trans hc
  have hBW : B < W.heap.size := Nat.lt_of_lt_of_le hB hb.size
  have HB := Lib.hid hb
  clear hb hc hB
  show Calls Try.prog 63 #[.agg #[.int .i64 a, .int .i64 b], .pointer (some ⟨B, 0, none⟩)] W _
  go_enter Try.func63, Try.ntmps63
  go_wp2_with fail
  go_ret
  exact ⟨rfl, HB.out.alloc HB.out.size _⟩

theorem pred_may (w : World) : PredT w 82 #[] Qu.ns := fun W a b hb => by
  have HB := Lib.hid hb
  clear hb
  show Calls Try.prog 82 #[.agg #[.int .i64 a, .int .i64 b]] W _
  go_enter Try.func82, Try.ntmps82
  go_wp2_with fail
  go_ret
  exact ⟨rfl, HB.out.alloc HB.out.size _⟩

end Go.Proofs.Ytoglkellaliegaa
