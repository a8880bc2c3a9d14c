import Derived.Test.YtenkdpogdfcbgaaGreatQuW
import Derived.Test.YtenkdpogdfcbgaaGreatQuP
/- Walks at registrations: slices.IndexFunc, slices.ContainsFunc, slices.Clone (the tasks' texts turned). -/
namespace Go.Proofs.YtenkdpogdfcbgaaGreat.Rs
open Go.RowKit

theorem Tryz.infoReg : (Tryz.prog.info? 39).map (fun i => (i.zero, i.size, i.bytes)) = some (some (.agg #[.int .i64 0, .int .i64 0]), 2, 16) := by kernel_rfl

set_option maxHeartbeats 2000000 in
theorem IndexFunc_R (a : Option Addr) (c : Nat) (ts : List Qu.T) (g : FuncId) (lb : Array Value) (p : Qu.T → Bool) (w : World) (hn : ts.length ≤ 1099511627776)
    (eg : ∀ args w, (callFunc g args).run Tryz.prog w = .ok (.enter g args) w) (hT : TasksAt w a ts) (hp : PredT w g lb p) :
    Calls Tryz.prog 72 #[.slice a ts.length c, .func (.func g) #[] lb] w fun e w' => e = .returned (.int .i64 (idx p ts)) ∧ Below w.heap.size w w' := by
  have HT := Lib.hid hT; have HP := Lib.hid hp
  clear hT hp
  obtain ⟨n, hn'⟩ : ∃ n, ts.length = n := ⟨_, rfl⟩
  have HN := Lib.hid hn'
  rw [hn'] at hn ⊢
  clear hn'
  go_enter Tryz.func72, Tryz.ntmps72
  go_wp2_with fail
  go_loopg [5, 8] n (fun gg _ s8 wr => ∃ kk : Nat, kk ≤ n ∧ n - kk ≤ gg ∧ s8 = .int .i64 kk ∧ Hid (Below w.heap.size w wr) ∧ Hid (∀ j (_ : j < kk) (hj : j < ts.length), p ts[j] = false))
  case atStart => exact ⟨0, Nat.zero_le _, by omega, rfl, Lib.hid (Below.refl _ w), Lib.hid fun j hj => absurd hj (Nat.not_lt_zero _)⟩
  case round =>
    obtain ⟨kk, hkk, hg, rfl, BW, A⟩ := hrel
    by_cases hlt : kk < n
    · have hk' : kk < ts.length := by rw [HN.out]; exact hlt
      have hne : ts ≠ [] := by rintro rfl; simp at hk'
      obtain ⟨b, o, rfl, hb, hc⟩ := (HT.out.keep BW.out) hne
      obtain ⟨c1, c2⟩ := hc kk ts[kk] (List.getElem?_eq_getElem hk')
      have hcall := HP.out wr ts[kk].1 ts[kk].2 BW.out
      have HE : Hid (p ts[kk] = p (ts[kk].1, ts[kk].2)) := Lib.hid rfl
      clear hc hb hne
      generalize ts[kk].1 = x at *
      generalize ts[kk].2 = y at *
      cases hq : p (x, y) with
      | true =>
        rw [hq] at hcall
        have HQ := Lib.hid hq
        clear hq
        go_wp2_with (go_at_fn g; refine hcall.mono ?_; rintro e w' ⟨rfl, hb'⟩)
        go_ret
        refine ⟨?_, hb'⟩
        rw [idx_hit hk' (by rw [HE.out]; exact HQ.out) (fun j hj => A.out j hj (by omega))]
        rfl
      | false =>
        rw [hq] at hcall
        have HQ := Lib.hid hq
        clear hq
        go_wp2_with (go_at_fn g; refine hcall.mono ?_; rintro e w' ⟨rfl, hb'⟩)
        go_roundg (n - (kk + 1))
        case measure => omega
        case rel =>
          refine ⟨kk + 1, by omega, by omega, by go_num, Lib.hid hb', Lib.hid fun j hj hj' => ?_⟩
          by_cases e : j = kk
          · subst e
            rw [HE.out]; exact HQ.out
          · exact A.out j (by omega) hj'
    · obtain rfl : kk = n := by omega
      go_wp2_with fail
      go_ret
      refine ⟨?_, BW.out⟩
      rw [idx_miss (fun j hj => A.out j (by rw [← HN.out]; exact hj) hj)]
      rfl

set_option maxRecDepth 100000 in
set_option maxHeartbeats 4000000 in
theorem Clone_R (a : Option Addr) (n c : Nat) (ts : List Qu.T) (w : World) (hT : TSl w a n c ts) (hn : n ≤ 1099511627776) :
    Calls Tryz.prog 89 #[.slice a n c] w fun e w' => ∃ v, e = .returned v ∧ w'.ownsRow w.heap.size 39 2 v n (tv ts) ∧ Below w.heap.size w w' := by
  obtain ⟨i0, hi, hz0, hz1, hz2⟩ := info_parts Tryz.infoReg
  rcases a with _ | x
  · obtain ⟨rfl, rfl⟩ := hT.nil rfl
    obtain rfl : ts = [] := List.length_eq_zero_iff.1 hT.len
    clear hT
    have en : ∀ w, (binOp .eql 40 (.slice none 0 0) (.slice none 0 0)).run Tryz.prog w = .ok (.bool true) w := fun w => Lib.run_eql_slice_nil w 40 39 none 0 0 0 0 Tryz.underlying40
    go_enter Tryz.func89, Tryz.ntmps89
    go_wp2_with fail
    go_ret
    exact ⟨_, rfl, World.ownsRow_nil _ _ _ _, Below.refl _ _⟩
  · have HB1 : ∀ T, Below w.heap.size w (w.alloc (.cells #[] T)) := fun T => (Below.refl _ w).alloc (Nat.le_refl _) _
    have hcells : ∀ (T : TypeId) j u, (tv ts)[j]? = some u → (w.alloc (.cells #[] T)).cell? (x.add j) = some u := fun T => (hT.keep (HB1 T)).cells
    have H3 := Lib.hid (hcells 39)
    have HL : Hid ((tv ts).length = n * 2) := Lib.hid (by rw [tv_length, hT.len])
    have H5 : Hid (0 + n ≤ maxLen ∧ (0 + n) * 16 ≤ 140737488355328) := Lib.hid ⟨by unfold maxLen; omega, by omega⟩
    have HO : Hid ((w.alloc (.cells #[] 39)).ownsRow w.heap.size 39 2 (.slice (some ⟨w.heap.size, 0, none⟩) 0 0) 0 []) := Lib.hid (World.ownsRow_made w #[] 0 (Nat.le_refl _) (Nat.zero_le _) rfl)
    have HS : Hid (w.heap.size ≤ (w.alloc (.cells #[] 39)).heap.size) := Lib.hid (by rw [World.size_alloc]; omega)
    have HB := Lib.hid (HB1 39)
    clear hcells hT HB1
    have en : ∀ w, (binOp .eql 40 (.slice (some x) n c) (.slice none 0 0)).run Tryz.prog w = .ok (.bool false) w := fun w => Lib.run_eql_slice_nil w 40 39 (some x) n c 0 0 Tryz.underlying40
    go_enter Tryz.func89, Tryz.ntmps89
    go_wp2_with (at_builtin; refine wpList_append_own _ rfl _ _ _ rfl w.heap.size 39 i0 (.agg #[.int .i64 0, .int .i64 0]) 2 16 Tryz.underlying40 hi hz0 hz1 hz2 rfl (by decide) (.slice (some ⟨w.heap.size, 0, none⟩) 0 0) 0 [] rfl HO.out x n c (tv ts) rfl HL.out H3.out (tv_one ts) H5.out.1 H5.out.2 HS.out ?_)
    intro v' w' q1 q2 _
    have HF : Hid (w'.ownsRow w.heap.size 39 2 v' n (tv ts) ∧ Below w.heap.size w w') := Lib.hid ⟨by simpa using q1, own_grown HO.out HB.out (Nat.le_refl _) HS.out q2⟩
    clear q1 q2 H3 HL H5
    go_wp2_with fail
    go_ret
    exact ⟨_, rfl, HF.out⟩

end Go.Proofs.YtenkdpogdfcbgaaGreat.Rs

/- Walks: resv.kind, all, who, find, Has, next, free. -/
namespace Go.Proofs.YtenkdpogdfcbgaaGreat.Rs
open Go.RowKit

set_option maxHeartbeats 1000000 in
theorem all_R (k : Int) (v : Bool) (hv : Rg.all k = v) (w : World) : Calls Tryz.prog 51 #[.int .i64 k] w fun e w' => e = .returned (.bool v) ∧ w' = w := by
  subst hv
  unfold Rg.all
  rcases h : (k == 7) with _ | _
  all_goals
    go_enter Tryz.func51, Tryz.ntmps51
    go_wp2_with fail
    go_ret
    exact ⟨by first | rfl | simp, rfl⟩

set_option maxHeartbeats 1000000 in
theorem who_R (k : Int) (v : Bool) (hv : Rg.who k = v) (w : World) : Calls Tryz.prog 45 #[.int .i64 k] w fun e w' => e = .returned (.bool v) ∧ w' = w := by
  subst hv
  unfold Rg.who
  rcases h : decide (0 ≤ k) with _ | _
  all_goals
    go_enter Tryz.func45, Tryz.ntmps45
    go_wp2_with fail
    go_ret
    exact ⟨by first | rfl | simp, rfl⟩

set_option maxHeartbeats 1000000 in
theorem kind_R (k : Int) (v : Bool) (hv : Rg.kindB k = v) (w : World) : Calls Tryz.prog 52 #[.int .i64 k] w fun e w' => e = .returned (.bool v) ∧ w' = w := by
  subst hv
  unfold Rg.kindB
  rcases h : (k == 1) with _ | _
  · rcases h2 : (k == 3) with _ | _
    · rcases h3 : decide (5 ≤ k) with _ | _
      all_goals
        go_enter Tryz.func52, Tryz.ntmps52
        go_wp2_with fail
        go_ret
        exact ⟨by first | rfl | simp, rfl⟩
    · go_enter Tryz.func52, Tryz.ntmps52
      go_wp2_with fail
      go_ret
      exact ⟨by first | rfl | simp, rfl⟩
  · go_enter Tryz.func52, Tryz.ntmps52
    go_wp2_with fail
    go_ret
    exact ⟨by first | rfl | simp, rfl⟩

theorem eg_find : ∀ args w, (callFunc 73 args).run Tryz.prog w = .ok (.enter 73 args) w := enters_of Tryz.func73 (by kernel_rfl) rfl
theorem eg_out : ∀ args w, (callFunc 91 args).run Tryz.prog w = .ok (.enter 91 args) w := enters_of Tryz.func91 (by kernel_rfl) rfl

theorem pred_find (w : World) (B : Nat) (x : Int) (hB : B < w.heap.size) (hc : w.cell? ⟨B, 0, none⟩ = some (.int .i64 x)) : PredT w 73 #[.pointer (some ⟨B, 0, none⟩)] (Qu.tg x) := fun W a b hb => by
  have hc' := (hb.cell (p := ⟨B, 0, none⟩) hB).trans hc
  have hBW : B < W.heap.size := Nat.lt_of_lt_of_le hB hb.size
  have HB := Lib.hid hb
  clear hb hc hB
  show Calls Tryz.prog 73 #[.agg #[.int .i64 a, .int .i64 b], .pointer (some ⟨B, 0, none⟩)] W _
  go_enter Tryz.func73, Tryz.ntmps73
  go_wp2_with fail
  go_ret
  exact ⟨rfl, HB.out.alloc HB.out.size _⟩

theorem pred_out (_w : World) (B : Nat) (x : Int) (W : World) (a b : Int) (hB : B < W.heap.size) (hc' : W.cell? ⟨B, 0, none⟩ = some (.int .i64 x)) :
    Calls Tryz.prog 91 (#[.agg #[.int .i64 a, .int .i64 b]] ++ #[.pointer (some ⟨B, 0, none⟩)]) W fun e w' => e = .returned (.bool (Qu.tg x (a, b))) ∧ Below W.heap.size W w' := by
  show Calls Tryz.prog 91 #[.agg #[.int .i64 a, .int .i64 b], .pointer (some ⟨B, 0, none⟩)] W _
  go_enter Tryz.func91, Tryz.ntmps91
  go_wp2_with fail
  go_ret
  exact ⟨rfl, (Below.refl _ _).alloc (Nat.le_refl _) _⟩

set_option maxHeartbeats 2000000 in
theorem find_R (g k h x : Int) (a : Option Addr) (n c : Nat) (ts : List Qu.T) (w : World) (hT : TSl w a n c ts) (hn : n ≤ 1000000) :
    Calls Tryz.prog 47 #[.agg #[.int .i64 g, .slice a n c, .int .i64 k, .int .i64 h], .int .i64 x] w fun e w' => e = .returned (.int .i64 (idx (Qu.tg x) ts)) ∧ Below w.heap.size w w' := by
  have HB : ∀ o T, Below w.heap.size w ((w.alloc o).alloc (.cells #[.int .i64 x] T)) := fun o T => ((Below.refl _ w).alloc (Nat.le_refl _) _).alloc (by rw [World.size_alloc]; omega) _
  have I1 := fun o T => IndexFunc_R a c ts _ _ _ ((w.alloc o).alloc (.cells #[.int .i64 x] T)) (by rw [hT.len]; omega) eg_find (hT.keep (HB o T)).at_ (pred_find ((w.alloc o).alloc (.cells #[.int .i64 x] T)) (w.heap.size + 1) x (by rw [World.size_alloc, World.size_alloc]; omega) (by have := cell_new (w.alloc o) (T := T) (xs := #[.int .i64 x]) (k := 0) rfl; rw [World.size_alloc] at this; exact this))
  rw [hT.len] at I1
  have HBB := Lib.hid HB
  clear hT HB
  go_enter Tryz.func47, Tryz.ntmps47
  go_wp2_with fail
  with_reducible refine (I1 _ _).mono ?_
  rintro e w' ⟨rfl, hb⟩
  have HF := Lib.hid ((HBB.out _ _).trans (hb.mono (HBB.out _ _).size))
  clear hb
  go_wp2_with fail
  go_ret
  exact ⟨rfl, HF.out⟩

end Go.Proofs.YtenkdpogdfcbgaaGreat.Rs

/- Walks: resv.Has, next, free. -/
namespace Go.Proofs.YtenkdpogdfcbgaaGreat.Rs
open Go.RowKit

theorem idx_has {ts : List Qu.T} {x : Int} : decide (0 ≤ idx (Qu.tg x) ts) = Qu.has ts x := idx_any _ _

set_option maxRecDepth 100000 in
set_option maxHeartbeats 4000000 in
theorem Has_R (g k h x : Int) (a : Option Addr) (n c : Nat) (ts : List Qu.T) (v : Bool) (hv : Rg.hasR ts k h x = v) (w : World) (hT : TSl w a n c ts) (hn : n ≤ 1000000) :
    Calls Tryz.prog 46 #[.agg #[.int .i64 g, .slice a n c, .int .i64 k, .int .i64 h], .int .i64 x] w fun e w' => e = .returned (.bool v) ∧ Below w.heap.size w w' := by
  subst hv
  unfold Rg.hasR
  have HB : ∀ o, Below w.heap.size w (w.alloc o) := fun o => (Below.refl _ w).alloc (Nat.le_refl _) _
  have HBB := Lib.hid HB
  by_cases h0 : k = 0
  · subst h0
    clear hT HB
    go_enter Tryz.func46, Tryz.ntmps46
    go_wp2_with fail
    go_ret
    exact ⟨rfl, HBB.out _⟩
  · have e0 : (k != 0) = true := bne_iff_ne.2 h0
    rw [if_neg h0]
    rcases ha : Rg.all k with _ | _
    · have A1 := fun w => all_R k false ha w
      clear hT HB ha h0
      go_enter Tryz.func46, Tryz.ntmps46
      go_wp2_with fail
      with_reducible refine (A1 _).mono ?_
      rintro e w1 ⟨rfl, rfl⟩
      go_wp2_with (with_reducible refine (A1 _).mono ?_; rintro e w1 ⟨rfl, rfl⟩)
      go_ret
      exact ⟨rfl, HBB.out _⟩
    · have A1 := fun w => all_R k true ha w
      have F1 := fun o => find_R g k h x a n c ts (w.alloc o) (hT.keep (HB o)) hn
      have HI : Hid (decide (0 ≤ idx (Qu.tg x) ts) = Qu.has ts x) := Lib.hid idx_has
      rw [if_pos rfl, ← idx_has]
      generalize idx (Qu.tg x) ts = i at *
      clear hT HB ha h0 HI
      rcases hi : decide (0 ≤ i) with _ | _
      all_goals
        go_enter Tryz.func46, Tryz.ntmps46
        go_wp2_with fail
        with_reducible refine (A1 _).mono ?_
        rintro e w1 ⟨rfl, rfl⟩
        go_wp2_with fail
        with_reducible refine (F1 _).mono ?_
        rintro e w2 ⟨rfl, hb⟩
        have HF := Lib.hid ((HBB.out _).trans (hb.mono (HBB.out _).size))
        have hs := hb.size
        have hc := hb.cell (p := ⟨w.heap.size, 2, none⟩) (by rw [World.size_alloc]; exact Nat.lt_succ_self _)
        rw [cell_new w (k := 2) rfl] at hc
        rw [World.size_alloc] at hs
        clear hb
        go_wp2_with (with_reducible refine (A1 _).mono ?_; rintro e w1 ⟨rfl, rfl⟩)
        go_ret
        exact ⟨rfl, HF.out⟩

/-- A reservation's cells. -/
structure R4 (W : World) (B : Nat) (v0 v1 v2 v3 : Value) : Prop where
  lt : B < W.heap.size
  c0 : W.cell? ⟨B, 0, none⟩ = some v0
  c1 : W.cell? ⟨B, 1, none⟩ = some v1
  c2 : W.cell? ⟨B, 2, none⟩ = some v2
  c3 : W.cell? ⟨B, 3, none⟩ = some v3
  z0 : W.frozen? ⟨B, 0, none⟩ = false
  z1 : W.frozen? ⟨B, 1, none⟩ = false
  z2 : W.frozen? ⟨B, 2, none⟩ = false
  z3 : W.frozen? ⟨B, 3, none⟩ = false

theorem r4_new (w : World) (T : TypeId) (v0 v1 v2 v3 : Value) : R4 (w.alloc (.cells #[v0, v1, v2, v3] T)) w.heap.size v0 v1 v2 v3 := by
  have h : (w.alloc (.cells #[v0, v1, v2, v3] T)).heap[w.heap.size]? = some (.cells #[v0, v1, v2, v3] T) := by show (w.heap.push _)[w.heap.size]? = _; rw [Array.getElem?_push, if_pos rfl]
  have hz : ∀ j, (w.alloc (.cells #[v0, v1, v2, v3] T)).frozen? ⟨w.heap.size, j, none⟩ = false := fun j => by
    unfold World.frozen?
    rw [h]
    simp
  exact ⟨by rw [World.size_alloc]; exact Nat.lt_succ_self _, cell_new w (k := 0) rfl, cell_new w (k := 1) rfl, cell_new w (k := 2) rfl, cell_new w (k := 3) rfl, hz 0, hz 1, hz 2, hz 3⟩

/-- It stands where its block stands. -/
theorem R4.block {W W' : World} {B : Nat} {v0 v1 v2 v3 : Value} (h : R4 W B v0 v1 v2 v3) (hs : B < W'.heap.size) (hb : W'.heap[B]? = W.heap[B]?) : R4 W' B v0 v1 v2 v3 := by
  have hc : ∀ j, W'.cell? ⟨B, j, none⟩ = W.cell? ⟨B, j, none⟩ := fun j => by unfold World.cell?; rw [hb]
  have hz : ∀ j, W'.frozen? ⟨B, j, none⟩ = W.frozen? ⟨B, j, none⟩ := fun j => by unfold World.frozen?; rw [hb]
  exact ⟨hs, by rw [hc]; exact h.c0, by rw [hc]; exact h.c1, by rw [hc]; exact h.c2, by rw [hc]; exact h.c3, by rw [hz]; exact h.z0, by rw [hz]; exact h.z1, by rw [hz]; exact h.z2, by rw [hz]; exact h.z3⟩

theorem R4.on {W W' : World} {B : Nat} {v0 v1 v2 v3 : Value} (h : R4 W B v0 v1 v2 v3) (hb : Below W.heap.size W W') : R4 W' B v0 v1 v2 v3 := h.block (Nat.lt_of_lt_of_le h.lt hb.size) (hb.block B h.lt)
theorem R4.grown {W W' : World} {B : Nat} {v0 v1 v2 v3 : Value} {row : Option Nat} (h : R4 W B v0 v1 v2 v3) (hg : W.grownBy W' row) (hr : some B ≠ row) : R4 W' B v0 v1 v2 v3 := h.block (Nat.lt_of_lt_of_le h.lt hg.size) (hg.block B h.lt hr)
theorem R4.alloc {W : World} {B : Nat} {v0 v1 v2 v3 : Value} (h : R4 W B v0 v1 v2 v3) (o : Obj) : R4 (W.alloc o) B v0 v1 v2 v3 := h.on ((Below.refl _ W).alloc (Nat.le_refl _) _)
theorem R4.drew {W : World} {B : Nat} {v0 v1 v2 v3 : Value} (h : R4 W B v0 v1 v2 v3) : R4 W.drew B v0 v1 v2 v3 := h.on (Below.refl _ W).drew

theorem frozen_setCell (W : World) (a b : Addr) (v : Value) : (W.setCell a v).frozen? b = W.frozen? b := by
  exact World.frozen?_setCell _ _ _ _

/-- It is written anew. -/
theorem R4.set {W : World} {B : Nat} {v0 v1 v2 v3 : Value} (h : R4 W B v0 v1 v2 v3) (u0 u1 u2 u3 : Value) : R4 ((((W.setCell ⟨B, 0, none⟩ u0).setCell ⟨B, 1, none⟩ u1).setCell ⟨B, 2, none⟩ u2).setCell ⟨B, 3, none⟩ u3) B u0 u1 u2 u3 := by
  have o : ∀ (W : World) (i j : Nat) (v : Value), i ≠ j → (W.setCell ⟨B, i, none⟩ v).cell? ⟨B, j, none⟩ = W.cell? ⟨B, j, none⟩ := fun W i j v hij => World.cell?_setCell_other _ _ _ _ (by simp only [ne_eq, Addr.mk.injEq, not_and]; omega)
  refine ⟨by rw [World.size_setCell, World.size_setCell, World.size_setCell, World.size_setCell]; exact h.lt, ?_, ?_, ?_, ?_, ?_, ?_, ?_, ?_⟩
  · rw [o _ _ _ _ (by decide), o _ _ _ _ (by decide), o _ _ _ _ (by decide)]; exact World.cell?_setCell_same _ _ _ h.c0
  · rw [o _ _ _ _ (by decide), o _ _ _ _ (by decide)]; exact World.cell?_setCell_same _ _ _ (by rw [o _ _ _ _ (by decide)]; exact h.c1)
  · rw [o _ _ _ _ (by decide)]; exact World.cell?_setCell_same _ _ _ (by rw [o _ _ _ _ (by decide), o _ _ _ _ (by decide)]; exact h.c2)
  · exact World.cell?_setCell_same _ _ _ (by rw [o _ _ _ _ (by decide), o _ _ _ _ (by decide), o _ _ _ _ (by decide)]; exact h.c3)
  all_goals simp only [frozen_setCell]
  · exact h.z0
  · exact h.z1
  · exact h.z2
  · exact h.z3

/-- Another box is written. -/
theorem R4.other {W : World} {B : Nat} {v0 v1 v2 v3 : Value} (h : R4 W B v0 v1 v2 v3) (b i : Nat) (hb : b ≠ B) (u : Value) : R4 (W.setCell ⟨b, i, none⟩ u) B v0 v1 v2 v3 := by
  have o : ∀ (j : Nat), (W.setCell ⟨b, i, none⟩ u).cell? ⟨B, j, none⟩ = W.cell? ⟨B, j, none⟩ := fun j => World.cell?_setCell_other _ _ _ _ (by simp only [ne_eq, Addr.mk.injEq, not_and]; omega)
  exact ⟨by rw [World.size_setCell]; exact h.lt, by rw [o]; exact h.c0, by rw [o]; exact h.c1, by rw [o]; exact h.c2, by rw [o]; exact h.c3, by rw [frozen_setCell]; exact h.z0, by rw [frozen_setCell]; exact h.z1, by rw [frozen_setCell]; exact h.z2, by rw [frozen_setCell]; exact h.z3⟩

theorem R4.set0 {W : World} {B : Nat} {v0 v1 v2 v3 : Value} (h : R4 W B v0 v1 v2 v3) (u : Value) : R4 (W.setCell ⟨B, 0, none⟩ u) B u v1 v2 v3 := by
  have o : ∀ (j : Nat), j ≠ 0 → (W.setCell ⟨B, 0, none⟩ u).cell? ⟨B, j, none⟩ = W.cell? ⟨B, j, none⟩ := fun j hj => World.cell?_setCell_other _ _ _ _ (by simp only [ne_eq, Addr.mk.injEq, not_and]; omega)
  exact ⟨by rw [World.size_setCell]; exact h.lt, World.cell?_setCell_same _ _ _ h.c0, by rw [o _ (by decide)]; exact h.c1, by rw [o _ (by decide)]; exact h.c2, by rw [o _ (by decide)]; exact h.c3, by rw [frozen_setCell]; exact h.z0, by rw [frozen_setCell]; exact h.z1, by rw [frozen_setCell]; exact h.z2, by rw [frozen_setCell]; exact h.z3⟩
theorem R4.set1 {W : World} {B : Nat} {v0 v1 v2 v3 : Value} (h : R4 W B v0 v1 v2 v3) (u : Value) : R4 (W.setCell ⟨B, 1, none⟩ u) B v0 u v2 v3 := by
  have o : ∀ (j : Nat), j ≠ 1 → (W.setCell ⟨B, 1, none⟩ u).cell? ⟨B, j, none⟩ = W.cell? ⟨B, j, none⟩ := fun j hj => World.cell?_setCell_other _ _ _ _ (by simp only [ne_eq, Addr.mk.injEq, not_and]; omega)
  exact ⟨by rw [World.size_setCell]; exact h.lt, by rw [o _ (by decide)]; exact h.c0, World.cell?_setCell_same _ _ _ h.c1, by rw [o _ (by decide)]; exact h.c2, by rw [o _ (by decide)]; exact h.c3, by rw [frozen_setCell]; exact h.z0, by rw [frozen_setCell]; exact h.z1, by rw [frozen_setCell]; exact h.z2, by rw [frozen_setCell]; exact h.z3⟩

/-- The result that lies in cells. -/
theorem res_cell {fn : Func} {p : Tmp} (hr : fn.results = #[.cell p 42]) {tmps : Array Value} {W : World} {B : Nat} {g k h : Int} {a : Option Addr} {n c : Nat}
    (hp : tmps.getD p undef = .pointer (some ⟨B, 0, none⟩)) (h4 : R4 W B (.int .i64 g) (.slice a n c) (.int .i64 k) (.int .i64 h)) :
    (results fn tmps).run Tryz.prog W = .ok (.agg #[.int .i64 g, .slice a n c, .int .i64 k, .int .i64 h]) W := by
  obtain ⟨-, c0, c1, c2, c3, -⟩ := h4
  have hp' : tmps[p]?.getD undef = .pointer (some ⟨B, 0, none⟩) := by simpa using hp
  simp [results, hr, hp', go_sem, c0, c1, c2, c3]

theorem res_cell2 {fn : Func} {p q : Tmp} (hr : fn.results = #[.cell p 42, .tmp q]) {tmps : Array Value} {W : World} {B : Nat} {g k h : Int} {a : Option Addr} {n c : Nat} {v : Value}
    (hp : tmps.getD p undef = .pointer (some ⟨B, 0, none⟩)) (hq : tmps.getD q undef = v) (h4 : R4 W B (.int .i64 g) (.slice a n c) (.int .i64 k) (.int .i64 h)) :
    (results fn tmps).run Tryz.prog W = .ok (.tuple #[.agg #[.int .i64 g, .slice a n c, .int .i64 k, .int .i64 h], v]) W := by
  obtain ⟨-, c0, c1, c2, c3, -⟩ := h4
  rw [results_cell_tmp hr, hp, hq]
  go_simp

set_option maxRecDepth 100000 in
set_option maxHeartbeats 2000000 in
theorem free_R (g k h : Int) (a : Option Addr) (n c : Nat) (w : World) :
    Calls Tryz.prog 88 #[.agg #[.int .i64 g, .slice a n c, .int .i64 k, .int .i64 h]] w fun e w' => e = .returned (.agg #[.int .i64 g, .slice a n c, .int .i64 0, .int .i64 0]) ∧ Below w.heap.size w w' := by
  go_enter Tryz.func88, Tryz.ntmps88
  go_wp2_with fail
  refine bodyPost_ret (v := .agg #[.int .i64 g, .slice a n c, .int .i64 0, .int .i64 0]) ?_ rfl ⟨rfl, ?_⟩
  · exact res_cell (p := 2) (B := w.heap.size + 1) rfl rfl (by have := r4_new (w.alloc (.cells #[.int .i64 g, .slice a n c, .int .i64 0, .int .i64 0] 42)) 42 (.int .i64 g) (.slice a n c) (.int .i64 0) (.int .i64 0); rw [World.size_alloc] at this; exact this)
  · exact ((Below.refl _ w).alloc (Nat.le_refl _) _).alloc (by rw [World.size_alloc]; omega) _

end Go.Proofs.YtenkdpogdfcbgaaGreat.Rs
