/- The walks of woolkeep.roomy, marked and spoil at ids, of spoil at volumes. -/
import Derived.Test.YtenkdpogdfcbgaaGreatOwnI
import Derived.OwnWalk
namespace Go.Proofs.YtenkdpogdfcbgaaGreat
open Go.RowKit

set_option maxRecDepth 100000 in
set_option maxHeartbeats 4000000 in
theorem spoil_Id (a : Option Addr) (n c base : Nat) (x0 : Bool) (x1 : Int) (x2 : Int) (xs : List Value) (w : World) (ho : w.ownsRow base 81 3 (.slice a n c) n xs) (hc : c ≤ 9223372036854775807) :
    Calls Tryz.prog 34 #[.slice a n c, .agg #[.bool x0, .int .i64 x1, .int .i64 x2]] w fun e w' => e = .returned (.tuple #[]) ∧ w.grownBy w' (Value.slice a n c).ownBlock := by
  have hx0 : ∀ T, Bxs (w.alloc (.cells #[.bool x0, .int .i64 x1, .int .i64 x2] T)) w.heap.size [.bool x0, .int .i64 x1, .int .i64 x2] := fun T => bxs_new w T _ _ rfl
  have HX := Lib.hid hx0
  have HG : ∀ row, Hid (w.grownBy (w.alloc (.cells #[.bool x0, .int .i64 x1, .int .i64 x2] 81)) row) := fun row => Lib.hid (World.grownBy_alloc w _ row)
  clear hx0
  rcases ho.2 with ⟨hv, -⟩ | ⟨g, cap', cur, hv, -⟩
  · cases hv
    clear ho
    go_enter Tryz.func34, Tryz.ntmps34
    go_wp2_with fail
    go_loopw [11] (fun v wr => v = .int .i64 0 ∧ Hid (w.grownBy wr none)) (fun _ _ => 0)
    case atStart => exact ⟨rfl, HG none⟩
    case round =>
      obtain ⟨rfl, G⟩ := hrel
      go_wp2_with fail
      go_end0
      exact ⟨rfl, G.out⟩
  · cases hv
    obtain ⟨f, hrow, -, -, hnc, -⟩ := own_rowAny ho
    have hgw := row_lt hrow
    have HR := Lib.hid (row_on hrow ((Below.refl _ w).alloc (Nat.le_refl _) (.cells #[.bool x0, .int .i64 x1, .int .i64 x2] 81)))
    have hgB : g ≠ w.heap.size := by omega
    clear ho hrow
    go_enter Tryz.func34, Tryz.ntmps34
    go_wp2_with fail
    go_loopw [11] (fun v wr => ∃ (k : Nat) (f : Nat → Value), k ≤ c ∧ v = .int .i64 k ∧ Hid (wr.rowIs g 81 (c * 3) f) ∧ Hid (Bxs wr w.heap.size [.bool x0, .int .i64 x1, .int .i64 x2]) ∧ Hid (w.grownBy wr (some g))) (fun v _ => c - (intOf v).toNat)
    case atStart => exact ⟨0, f, Nat.zero_le _, rfl, HR, Lib.hid (HX.out _), HG _⟩
    case round =>
      obtain ⟨k, f, hk, rfl, R, B, G⟩ := hrel
      by_cases hlt : k < c
      · have d0 := B.out.c 0 _ rfl; have d1 := B.out.c 1 _ rfl; have d2 := B.out.c 2 _ rfl
        have c0 := World.rowIs.cell R.out (show k * 3 < c * 3 by omega); have c1 := World.rowIs.cell R.out (show k * 3 + 1 < c * 3 by omega); have c2 := World.rowIs.cell R.out (show k * 3 + 2 < c * 3 by omega)
        have z0 := World.rowIs.frozen R.out (k * 3); have z1 := World.rowIs.frozen R.out (k * 3 + 1); have z2 := World.rowIs.frozen R.out (k * 3 + 2)
        have HR' := Lib.hid (row_set (row_set (row_set R.out (k * 3) (.bool x0)) (k * 3 + 1) (.int .i64 x1)) (k * 3 + 2) (.int .i64 x2))
        have HB' := Lib.hid ((((B.out.other (i := k * 3) hgB (.bool x0)).other (i := k * 3 + 1) hgB (.int .i64 x1)).other (i := k * 3 + 2) hgB (.int .i64 x2)))
        have HG' := Lib.hid (grown_set (grown_set (grown_set G.out (k * 3) (.bool x0)) (k * 3 + 1) (.int .i64 x1)) (k * 3 + 2) (.int .i64 x2))
        generalize f (k * 3) = f0 at *
        generalize f (k * 3 + 1) = f1 at *
        generalize f (k * 3 + 2) = f2 at *
        go_wp2_with fail
        go_roundw
        case rel => exact ⟨k + 1, _, by omega, by go_num, HR', HB', HG'⟩
        case measure => simp [intOf]; omega
      · obtain rfl : k = c := by omega
        go_wp2_with fail
        go_end0
        exact ⟨rfl, G.out⟩

/-- A row with the room behind it full of marks. -/
def RoomId (w : World) (g C : Nat) (xs mk : List Value) : Prop := ∃ f, w.rowIs g 81 (C * 3) f ∧ ∀ j, j < C * 3 → (xs ++ (mk ++ (mk ++ mk)))[j]? = some (f j)

theorem RoomId.blk {w w' : World} {g C : Nat} {xs mk : List Value} (h : RoomId w g C xs mk) (hb : w'.heap[g]? = w.heap[g]?) : RoomId w' g C xs mk := by
  obtain ⟨f, ⟨cur, hg, r⟩, h2⟩ := h
  exact ⟨f, ⟨cur, by rw [hb]; exact hg, r⟩, h2⟩

theorem RoomId.lt {w : World} {g C : Nat} {xs mk : List Value} (h : RoomId w g C xs mk) : g < w.heap.size := by
  obtain ⟨f, h1, -⟩ := h
  exact row_lt h1

theorem RoomId.on {w w' : World} {g C : Nat} {xs mk : List Value} (h : RoomId w g C xs mk) (hb : Below w.heap.size w w') : RoomId w' g C xs mk := h.blk (hb.block g h.lt)

theorem RoomId.own {w : World} {g C n base : Nat} {xs mk : List Value} (h : RoomId w g C xs mk) (hx : xs.length = n * 3) (hC : C = n + 3) (hb : base ≤ g) (hm : C ≤ maxLen) : w.ownsRow base 81 3 (.slice (some ⟨g, 0, none⟩) n C) n xs := by
  obtain ⟨f, h1, h2⟩ := h
  refine rowAny_own h1 hx (fun j hj => ?_) hb (by omega) hm
  have := h2 j (by omega)
  rw [List.getElem?_append_left (by omega)] at this
  exact this

theorem fill_Id {xs : List Value} {f : Nat → Value} {p : Nat} (x0 : Bool) (x1 : Int) (x2 : Int) (hp : xs.length = p) (h : ∀ j, j < p → xs[j]? = some (f j)) :
    ∀ j, j < p + 3 → (xs ++ [Value.bool x0, .int .i64 x1, .int .i64 x2])[j]? = some (if j = p + 2 then .int .i64 x2 else if j = p + 1 then .int .i64 x1 else if j = p then .bool x0 else f j) := fun j hj => by
  by_cases h0 : j < p
  · rw [List.getElem?_append_left (by omega), h j h0, if_neg (by omega), if_neg (by omega), if_neg (by omega)]
  · rw [List.getElem?_append_right (by omega), hp]
    have hc : j = p ∨ j = p + 1 ∨ j = p + 2 := by omega
    rcases hc with rfl | rfl | rfl
    · rw [if_neg (by omega), if_neg (by omega), if_pos rfl, Nat.sub_self]; rfl
    · rw [if_neg (by omega), if_pos rfl, Nat.add_sub_cancel_left]; rfl
    · rw [if_pos rfl, Nat.add_sub_cancel_left]; rfl

theorem reps_Id (xs mk : List Value) (k : Nat) : xs ++ (List.replicate (k + 1) mk).flatten = (xs ++ (List.replicate k mk).flatten) ++ mk := by
  rw [List.replicate_succ', List.flatten_append, ← List.append_assoc]
  simp

theorem RoomId.mark {w : World} {g C n : Nat} {xs : List Value} {x0 : Bool} {x1 : Int} {x2 : Int} (h : RoomId w g C xs [.bool x0, .int .i64 x1, .int .i64 x2]) (hx : xs.length = n * 3) (hC : C = n + 3) {k : Nat} (hk : k < 3) :
    w.cell? ⟨g, n * 3 + k * 3, none⟩ = some (.bool x0) ∧ w.cell? ⟨g, n * 3 + k * 3 + 1, none⟩ = some (.int .i64 x1) ∧ w.cell? ⟨g, n * 3 + k * 3 + 2, none⟩ = some (.int .i64 x2) := by
  obtain ⟨f, h1, h2⟩ := h
  have key : ∀ i, i < 3 → w.cell? ⟨g, n * 3 + (k * 3 + i), none⟩ = ([Value.bool x0, .int .i64 x1, .int .i64 x2] : List Value)[i]? := fun i hi => by
    rw [World.rowIs.cell h1 (show n * 3 + (k * 3 + i) < C * 3 by omega), ← h2 _ (by omega), List.getElem?_append_right (by omega), hx, Nat.add_sub_cancel_left]
    rcases (by omega : k = 0 ∨ k = 1 ∨ k = 2) with rfl | rfl | rfl
    · rw [List.getElem?_append_left (by show 0 * 3 + i < 3; omega), Nat.zero_mul, Nat.zero_add]
    · rw [List.getElem?_append_right (by show 3 ≤ 1 * 3 + i; omega), List.getElem?_append_left (by show 1 * 3 + i - 3 < 3; omega)]
      show ([Value.bool x0, .int .i64 x1, .int .i64 x2] : List Value)[1 * 3 + i - 3]? = _
      rw [show 1 * 3 + i - 3 = i from by omega]
    · rw [List.getElem?_append_right (by show 3 ≤ 2 * 3 + i; omega), List.getElem?_append_right (by show 3 ≤ 2 * 3 + i - 3; omega)]
      show ([Value.bool x0, .int .i64 x1, .int .i64 x2] : List Value)[2 * 3 + i - 3 - 3]? = _
      rw [show 2 * 3 + i - 3 - 3 = i from by omega]
  refine ⟨?_, ?_, ?_⟩
  · have := key 0 (by decide)
    rw [← Nat.add_assoc] at this
    exact this
  · have := key 1 (by decide)
    rw [← Nat.add_assoc] at this
    exact this
  · have := key 2 (by decide)
    rw [← Nat.add_assoc] at this
    exact this

set_option maxRecDepth 100000 in
set_option maxHeartbeats 4000000 in
theorem spoil_Vol (a : Option Addr) (n c base : Nat) (x0 : ByteArray) (x1a : Option Addr) (x1n x1c : Nat) (xs : List Value) (w : World) (ho : w.ownsRow base 78 2 (.slice a n c) n xs) (hc : c ≤ 9223372036854775807) :
    Calls Tryz.prog 35 #[.slice a n c, .agg #[.string x0, .slice x1a x1n x1c]] w fun e w' => e = .returned (.tuple #[]) ∧ w.grownBy w' (Value.slice a n c).ownBlock := by
  have hx0 : ∀ T, Bxs (w.alloc (.cells #[.string x0, .slice x1a x1n x1c] T)) w.heap.size [.string x0, .slice x1a x1n x1c] := fun T => bxs_new w T _ _ rfl
  have HX := Lib.hid hx0
  have HG : ∀ row, Hid (w.grownBy (w.alloc (.cells #[.string x0, .slice x1a x1n x1c] 78)) row) := fun row => Lib.hid (World.grownBy_alloc w _ row)
  clear hx0
  rcases ho.2 with ⟨hv, -⟩ | ⟨g, cap', cur, hv, -⟩
  · cases hv
    clear ho
    go_enter Tryz.func35, Tryz.ntmps35
    go_wp2_with fail
    go_loopw [11] (fun v wr => v = .int .i64 0 ∧ Hid (w.grownBy wr none)) (fun _ _ => 0)
    case atStart => exact ⟨rfl, HG none⟩
    case round =>
      obtain ⟨rfl, G⟩ := hrel
      go_wp2_with fail
      go_end0
      exact ⟨rfl, G.out⟩
  · cases hv
    obtain ⟨f, hrow, -, -, hnc, -⟩ := own_rowAny ho
    have hgw := row_lt hrow
    have HR := Lib.hid (row_on hrow ((Below.refl _ w).alloc (Nat.le_refl _) (.cells #[.string x0, .slice x1a x1n x1c] 78)))
    have hgB : g ≠ w.heap.size := by omega
    clear ho hrow
    go_enter Tryz.func35, Tryz.ntmps35
    go_wp2_with fail
    go_loopw [11] (fun v wr => ∃ (k : Nat) (f : Nat → Value), k ≤ c ∧ v = .int .i64 k ∧ Hid (wr.rowIs g 78 (c * 2) f) ∧ Hid (Bxs wr w.heap.size [.string x0, .slice x1a x1n x1c]) ∧ Hid (w.grownBy wr (some g))) (fun v _ => c - (intOf v).toNat)
    case atStart => exact ⟨0, f, Nat.zero_le _, rfl, HR, Lib.hid (HX.out _), HG _⟩
    case round =>
      obtain ⟨k, f, hk, rfl, R, B, G⟩ := hrel
      by_cases hlt : k < c
      · have d0 := B.out.c 0 _ rfl; have d1 := B.out.c 1 _ rfl
        have c0 := World.rowIs.cell R.out (show k * 2 < c * 2 by omega); have c1 := World.rowIs.cell R.out (show k * 2 + 1 < c * 2 by omega)
        have z0 := World.rowIs.frozen R.out (k * 2); have z1 := World.rowIs.frozen R.out (k * 2 + 1)
        have HR' := Lib.hid (row_set (row_set R.out (k * 2) (.string x0)) (k * 2 + 1) (.slice x1a x1n x1c))
        have HB' := Lib.hid (((B.out.other (i := k * 2) hgB (.string x0)).other (i := k * 2 + 1) hgB (.slice x1a x1n x1c)))
        have HG' := Lib.hid (grown_set (grown_set G.out (k * 2) (.string x0)) (k * 2 + 1) (.slice x1a x1n x1c))
        generalize f (k * 2) = f0 at *
        generalize f (k * 2 + 1) = f1 at *
        go_wp2_with fail
        go_roundw
        case rel => exact ⟨k + 1, _, by omega, by go_num, HR', HB', HG'⟩
        case measure => simp [intOf]; omega
      · obtain rfl : k = c := by omega
        go_wp2_with fail
        go_end0
        exact ⟨rfl, G.out⟩

end Go.Proofs.YtenkdpogdfcbgaaGreat
