/- The walks of woolkeep.roomy, marked and spoil at items. -/
import Derived.Test.YtenkdpogdfcbgaaGreatBgP6
import Derived.OwnWalk
import Derived.IntWalk
namespace Go.Proofs.YtenkdpogdfcbgaaGreat
open Go.RowKit

theorem own_cut {w : World} {base g m cap size : Nat} {e : TypeId} {xs : List Value} (h : w.ownsRow base e size (.slice (some ⟨g, 0, none⟩) m cap) m xs) {k : Nat} (hk : k ≤ m) : w.ownsRow base e size (.slice (some ⟨g, 0, none⟩) k cap) k (xs.take (k * size)) := by
  rcases h.2 with ⟨h', _⟩ | ⟨g', cap', cur, h', hb, hg, hnc, hcm, hsz, htake⟩
  · cases h'
  · cases h'
    have hmul : k * size ≤ m * size := Nat.mul_le_mul_right _ hk
    refine ⟨by rw [List.length_take, h.1]; omega, Or.inr ⟨g, cap, cur, rfl, hb, hg, Nat.le_trans hk hnc, hcm, hsz, ?_⟩⟩
    rw [← htake, List.take_take, Nat.min_eq_left hmul]

/-- All of an own row, its room too. -/
theorem own_rowAny {w : World} {base g n cap : Nat} {e : TypeId} {size : Nat} {xs : List Value} (h : w.ownsRow base e size (.slice (some ⟨g, 0, none⟩) n cap) n xs) : ∃ f, w.rowIs g e (cap * size) f ∧ (∀ j, j < n * size → xs[j]? = some (f j)) ∧ base ≤ g ∧ n ≤ cap ∧ cap ≤ maxLen := by
  rcases h.2 with ⟨h', _⟩ | ⟨g', cap', cur, h', hb, hg, hnc, hcm, hsz, htake⟩
  · cases h'
  · cases h'
    have hmul : n * size ≤ cap * size := Nat.mul_le_mul_right _ hnc
    refine ⟨fun j => cur.getD j default, ⟨cur, hg, hsz, fun j hj => ?_⟩, fun j hj => ?_, hb, hnc, hcm⟩
    · simp [Array.getD, hsz, hj]
    · have hj2 : j < cur.size := by rw [hsz]; omega
      rw [← htake, List.getElem?_take, if_pos hj]
      simp [Array.getD, hj2]

theorem rowAny_own {w : World} {base g n cap : Nat} {e : TypeId} {size : Nat} {xs : List Value} {f : Nat → Value} (h : w.rowIs g e (cap * size) f) (hx : xs.length = n * size) (hf : ∀ j, j < n * size → xs[j]? = some (f j)) (hb : base ≤ g) (hnc : n ≤ cap) (hcm : cap ≤ maxLen) : w.ownsRow base e size (.slice (some ⟨g, 0, none⟩) n cap) n xs := by
  obtain ⟨cur, hg, hsz, hc⟩ := h
  have hmul : n * size ≤ cap * size := Nat.mul_le_mul_right _ hnc
  refine ⟨hx, Or.inr ⟨g, cap, cur, rfl, hb, hg, hnc, hcm, hsz, ?_⟩⟩
  apply List.ext_getElem?
  intro j
  by_cases hj : j < n * size
  · rw [List.getElem?_take, if_pos hj, hf j hj, Array.getElem?_toList, hc j (by omega)]
  · rw [List.getElem?_eq_none (by rw [List.length_take]; omega), List.getElem?_eq_none (by omega)]

theorem row_lt {w : World} {g N : Nat} {e : TypeId} {f : Nat → Value} (h : w.rowIs g e N f) : g < w.heap.size := by
  obtain ⟨cur, hg, -⟩ := h
  exact (Array.getElem?_eq_some_iff.1 hg).1

theorem row_set {w : World} {g N : Nat} {e : TypeId} {f : Nat → Value} (h : w.rowIs g e N f) (i : Nat) (u : Value) : (w.setCell ⟨g, i, none⟩ u).rowIs g e N (fun j => if j = i then u else f j) := World.rowIs.set h i u

theorem row_on {w w' : World} {g N : Nat} {e : TypeId} {f : Nat → Value} (h : w.rowIs g e N f) (hb : Below w.heap.size w w') : w'.rowIs g e N f := by
  have hl := row_lt h
  obtain ⟨cur, hg, r⟩ := h
  exact ⟨cur, by rw [hb.block g hl]; exact hg, r⟩

theorem grown_set {w W : World} {g : Nat} (h : w.grownBy W (some g)) (i : Nat) (u : Value) : w.grownBy (W.setCell ⟨g, i, none⟩ u) (some g) :=
  ⟨h.os, h.tape, h.output, by rw [World.size_setCell]; exact h.size, fun k hk hne => by
    rw [heap_setCell_other W ⟨g, i, none⟩ k u (fun e => hne (by rw [e]))]
    exact h.block k hk hne⟩

set_option maxRecDepth 100000 in
set_option maxHeartbeats 4000000 in
theorem spoil_I (a : Option Addr) (n c base : Nat) (x y q : Int) (z : ByteArray) (xs : List Value) (w : World) (ho : w.ownsRow base 75 4 (.slice a n c) n xs) (hc : c ≤ 9223372036854775807) :
    Calls Tryz.prog 33 #[.slice a n c, .agg #[.int .i64 x, .int .i64 y, .string z, .int .i64 q]] w fun e w' => e = .returned (.tuple #[]) ∧ w.grownBy w' (Value.slice a n c).ownBlock := by
  have hx0 : ∀ T, Bxs (w.alloc (.cells #[.int .i64 x, .int .i64 y, .string z, .int .i64 q] T)) w.heap.size [.int .i64 x, .int .i64 y, .string z, .int .i64 q] := fun T => bxs_new w T _ _ rfl
  have HX := Lib.hid hx0
  have HG : ∀ row, Hid (w.grownBy (w.alloc (.cells #[.int .i64 x, .int .i64 y, .string z, .int .i64 q] 75)) row) := fun row => Lib.hid (World.grownBy_alloc w _ row)
  clear hx0
  rcases ho.2 with ⟨hv, -⟩ | ⟨g, cap', cur, hv, -⟩
  · cases hv
    clear ho
    go_enter Tryz.func33, Tryz.ntmps33
    go_wp2_with fail
    go_loopw [11] (fun v wr => v = .int .i64 0 ∧ Hid (w.grownBy wr none)) (fun _ _ => 0)
    case atStart => exact ⟨rfl, HG none⟩
    case round =>
      obtain ⟨rfl, G⟩ := hrel
      go_wp2_with fail
      go_end0
      exact ⟨rfl, G.out⟩
  · cases hv
    obtain ⟨f, hrow, -, -, hnc, -⟩ := own_rowAny ho
    have hgw := row_lt hrow
    have HR := Lib.hid (row_on hrow ((Below.refl _ w).alloc (Nat.le_refl _) (.cells #[.int .i64 x, .int .i64 y, .string z, .int .i64 q] 75)))
    have hgB : g ≠ w.heap.size := by omega
    clear ho hrow
    go_enter Tryz.func33, Tryz.ntmps33
    go_wp2_with fail
    go_loopw [11] (fun v wr => ∃ (k : Nat) (f : Nat → Value), k ≤ c ∧ v = .int .i64 k ∧ Hid (wr.rowIs g 75 (c * 4) f) ∧ Hid (Bxs wr w.heap.size [.int .i64 x, .int .i64 y, .string z, .int .i64 q]) ∧ Hid (w.grownBy wr (some g))) (fun v _ => c - (intOf v).toNat)
    case atStart => exact ⟨0, f, Nat.zero_le _, rfl, HR, Lib.hid (HX.out _), HG _⟩
    case round =>
      obtain ⟨k, f, hk, rfl, R, B, G⟩ := hrel
      by_cases hlt : k < c
      · have d0 := B.out.c 0 _ rfl; have d1 := B.out.c 1 _ rfl; have d2 := B.out.c 2 _ rfl; have d3 := B.out.c 3 _ rfl
        have c0 := World.rowIs.cell R.out (show k * 4 < c * 4 by omega); have c1 := World.rowIs.cell R.out (show k * 4 + 1 < c * 4 by omega)
        have c2 := World.rowIs.cell R.out (show k * 4 + 2 < c * 4 by omega); have c3 := World.rowIs.cell R.out (show k * 4 + 3 < c * 4 by omega)
        have z0 := World.rowIs.frozen R.out (k * 4); have z1 := World.rowIs.frozen R.out (k * 4 + 1); have z2 := World.rowIs.frozen R.out (k * 4 + 2); have z3 := World.rowIs.frozen R.out (k * 4 + 3)
        have HR' := Lib.hid (row_set (row_set (row_set (row_set R.out (k * 4) (.int .i64 x)) (k * 4 + 1) (.int .i64 y)) (k * 4 + 2) (.string z)) (k * 4 + 3) (.int .i64 q))
        have HB' := Lib.hid ((((B.out.other (i := k * 4) hgB (.int .i64 x)).other (i := k * 4 + 1) hgB (.int .i64 y)).other (i := k * 4 + 2) hgB (.string z)).other (i := k * 4 + 3) hgB (.int .i64 q))
        have HG' := Lib.hid (grown_set (grown_set (grown_set (grown_set G.out (k * 4) (.int .i64 x)) (k * 4 + 1) (.int .i64 y)) (k * 4 + 2) (.string z)) (k * 4 + 3) (.int .i64 q))
        generalize f (k * 4) = f0 at *
        generalize f (k * 4 + 1) = f1 at *
        generalize f (k * 4 + 2) = f2 at *
        generalize f (k * 4 + 3) = f3 at *
        go_wp2_with fail
        go_roundw
        case rel => exact ⟨k + 1, _, by omega, by go_num, HR', HB', HG'⟩
        case measure => simp [intOf]; omega
      · obtain rfl : k = c := by omega
        go_wp2_with fail
        go_end0
        exact ⟨rfl, G.out⟩

/-- A mark behind a list, as an item. -/
theorem tv_app2 (l m : List Bg.It) : tv (l ++ m) = tv l ++ tv m := tv_app l m

/-- A list with the room behind it full of marks. -/
def RoomI (w : World) (g C : Nat) (ts : List Bg.It) (mk : Bg.It) : Prop := ∃ f, w.rowIs g 75 (C * 4) f ∧ ∀ j, j < C * 4 → (tv (ts ++ [mk, mk, mk]))[j]? = some (f j)

theorem RoomI.on {w w' : World} {g C : Nat} {ts : List Bg.It} {mk : Bg.It} (h : RoomI w g C ts mk) (hb : Below w.heap.size w w') : RoomI w' g C ts mk := by
  obtain ⟨f, h1, h2⟩ := h
  exact ⟨f, row_on h1 hb, h2⟩

theorem RoomI.own {w : World} {g C n base : Nat} {ts : List Bg.It} {mk : Bg.It} (h : RoomI w g C ts mk) (hn : ts.length = n) (hC : C = n + 3) (hb : base ≤ g) (hm : C ≤ maxLen) : w.ownsRow base 75 4 (.slice (some ⟨g, 0, none⟩) n C) n (tv ts) := by
  obtain ⟨f, h1, h2⟩ := h
  refine rowAny_own h1 (by rw [tv_length, hn]) (fun j hj => ?_) hb (by omega) hm
  have := h2 j (by omega)
  rw [tv_app, List.getElem?_append_left (by rw [tv_length, hn]; exact hj)] at this
  exact this

theorem fill4 {l : List Bg.It} {mk : Bg.It} {f : Nat → Value} {p : Nat} (hp : (tv l).length = p) (h : ∀ j, j < p → (tv l)[j]? = some (f j)) :
    ∀ j, j < p + 4 → (tv (l ++ [mk]))[j]? = some (if j = p + 3 then .int .i64 mk.refs else if j = p + 2 then .string mk.text else if j = p + 1 then .int .i64 mk.n else if j = p then .int .i64 mk.sum else f j) := fun j hj => by
  rw [tv_app]
  by_cases h0 : j < p
  · rw [List.getElem?_append_left (by omega), h j h0, if_neg (by omega), if_neg (by omega), if_neg (by omega), if_neg (by omega)]
  · rw [List.getElem?_append_right (by omega), hp]
    have hc : j = p ∨ j = p + 1 ∨ j = p + 2 ∨ j = p + 3 := by omega
    rcases hc with rfl | rfl | rfl | rfl
    · rw [if_neg (by omega), if_neg (by omega), if_neg (by omega), if_pos rfl, Nat.sub_self]; rfl
    · rw [if_neg (by omega), if_neg (by omega), if_pos rfl, Nat.add_sub_cancel_left]; rfl
    · rw [if_neg (by omega), if_pos rfl, Nat.add_sub_cancel_left]; rfl
    · rw [if_pos rfl, Nat.add_sub_cancel_left]; rfl

theorem RoomI.mark {w : World} {g C n : Nat} {ts : List Bg.It} {mk : Bg.It} (h : RoomI w g C ts mk) (hn : ts.length = n) (hC : C = n + 3) {k : Nat} (hk : k < 3) :
    w.cell? ⟨g, n * 4 + k * 4, none⟩ = some (.int .i64 mk.sum) ∧ w.cell? ⟨g, n * 4 + k * 4 + 1, none⟩ = some (.int .i64 mk.n) ∧ w.cell? ⟨g, n * 4 + k * 4 + 2, none⟩ = some (.string mk.text) ∧ w.cell? ⟨g, n * 4 + k * 4 + 3, none⟩ = some (.int .i64 mk.refs) := by
  obtain ⟨f, h1, h2⟩ := h
  have hl : (ts ++ [mk, mk, mk])[n + k]? = some mk := by
    rw [List.getElem?_append_right (by omega), hn, Nat.add_sub_cancel_left]
    rcases (by omega : k = 0 ∨ k = 1 ∨ k = 2) with rfl | rfl | rfl <;> rfl
  obtain ⟨q0, q1, q2, q3⟩ := tv_get hl
  have e : n * 4 + k * 4 = (n + k) * 4 := by omega
  rw [e]
  refine ⟨?_, ?_, ?_, ?_⟩
  · rw [World.rowIs.cell h1 (show (n + k) * 4 < C * 4 by omega), ← h2 _ (by omega), q0]
  · rw [World.rowIs.cell h1 (show (n + k) * 4 + 1 < C * 4 by omega), ← h2 _ (by omega), q1]
  · rw [World.rowIs.cell h1 (show (n + k) * 4 + 2 < C * 4 by omega), ← h2 _ (by omega), q2]
  · rw [World.rowIs.cell h1 (show (n + k) * 4 + 3 < C * 4 by omega), ← h2 _ (by omega), q3]

set_option maxRecDepth 100000 in
set_option maxHeartbeats 2000000 in
theorem Equal_I2 (a b : Option Addr) (n c1 c2 : Nat) (l : List Bg.It) (w : World) (h1 : ISl w a n c1 l) (h2 : ISl w b n c2 l) (hn : n ≤ 3518437208832) :
    Calls Tryz.prog 36 #[.slice a n c1, .slice b n c2] w fun e w' => e = .returned (.bool true) ∧ ∃ q, w' = w.drewN q := by
  have H1 := Lib.hid h1; have H2 := Lib.hid h2; clear h1 h2
  go_enter Tryz.func36, Tryz.ntmps36
  go_wp2_with fail
  go_loopw [13] (fun x wr => ∃ k : Nat, k ≤ n ∧ x = .int .i64 k ∧ ∃ j, wr = w.drewN j) (fun x _ => n - (intOf x).toNat)
  case atStart => exact ⟨0, Nat.zero_le _, rfl, 0, rfl⟩
  case round =>
    obtain ⟨k, hk, rfl, hj⟩ := hrel
    by_cases hlt : k < n
    · have hk' : k < l.length := by rw [H1.out.len]; exact hlt
      obtain ⟨A, b1, o1, q1, rfl, hX, c1, c2, c3, c4⟩ := H1.out.get hk'
      obtain ⟨B, b2, o2, q2, rfl, hY, d1, d2, d3, d4⟩ := H2.out.get hk'
      generalize l[k].sum = f1 at *
      generalize l[k].n = f2 at *
      generalize l[k].text = f3 at *
      generalize l[k].refs = f4 at *
      obtain ⟨j, rfl⟩ := hj
      go_wp2_with fail
      go_region
      all_goals
        go_wp2_with fail
        go_roundw
        case rel => exact ⟨k + 1, hlt, by go_num, j + 1, rfl⟩
        case measure => simp [intOf]; omega
    · obtain rfl : k = n := by omega
      go_wp2_with fail
      go_ret
      exact ⟨rfl, hj⟩

end Go.Proofs.YtenkdpogdfcbgaaGreat
