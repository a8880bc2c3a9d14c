/- The walks of woolkeep.roomy, marked and spoil at registrations and at tasks. -/
import Derived.Test.YtenkdpogdfcbgaaGreatOwnI
import Derived.OwnWalk
namespace Go.Proofs.YtenkdpogdfcbgaaGreat
open Go.RowKit

set_option maxRecDepth 100000 in
set_option maxHeartbeats 4000000 in
theorem spoil_Reg (a : Option Addr) (n c base : Nat) (x0 : Int) (x1 : Int) (xs : List Value) (w : World) (ho : w.ownsRow base 39 2 (.slice a n c) n xs) (hc : c ≤ 9223372036854775807) :
    Calls Tryz.prog 12 #[.slice a n c, .agg #[.int .i64 x0, .int .i64 x1]] w fun e w' => e = .returned (.tuple #[]) ∧ w.grownBy w' (Value.slice a n c).ownBlock := by
  have hx0 : ∀ T, Bxs (w.alloc (.cells #[.int .i64 x0, .int .i64 x1] T)) w.heap.size [.int .i64 x0, .int .i64 x1] := fun T => bxs_new w T _ _ rfl
  have HX := Lib.hid hx0
  have HG : ∀ row, Hid (w.grownBy (w.alloc (.cells #[.int .i64 x0, .int .i64 x1] 39)) row) := fun row => Lib.hid (World.grownBy_alloc w _ row)
  clear hx0
  rcases ho.2 with ⟨hv, -⟩ | ⟨g, cap', cur, hv, -⟩
  · cases hv
    clear ho
    go_enter Tryz.func12, Tryz.ntmps12
    go_wp2_with fail
    go_loopw [11] (fun v wr => v = .int .i64 0 ∧ Hid (w.grownBy wr none)) (fun _ _ => 0)
    case atStart => exact ⟨rfl, HG none⟩
    case round =>
      obtain ⟨rfl, G⟩ := hrel
      go_wp2_with fail
      go_end0
      exact ⟨rfl, G.out⟩
  · cases hv
    obtain ⟨f, hrow, -, -, hnc, -⟩ := own_rowAny ho
    have hgw := row_lt hrow
    have HR := Lib.hid (row_on hrow ((Below.refl _ w).alloc (Nat.le_refl _) (.cells #[.int .i64 x0, .int .i64 x1] 39)))
    have hgB : g ≠ w.heap.size := by omega
    clear ho hrow
    go_enter Tryz.func12, Tryz.ntmps12
    go_wp2_with fail
    go_loopw [11] (fun v wr => ∃ (k : Nat) (f : Nat → Value), k ≤ c ∧ v = .int .i64 k ∧ Hid (wr.rowIs g 39 (c * 2) f) ∧ Hid (Bxs wr w.heap.size [.int .i64 x0, .int .i64 x1]) ∧ Hid (w.grownBy wr (some g))) (fun v _ => c - (intOf v).toNat)
    case atStart => exact ⟨0, f, Nat.zero_le _, rfl, HR, Lib.hid (HX.out _), HG _⟩
    case round =>
      obtain ⟨k, f, hk, rfl, R, B, G⟩ := hrel
      by_cases hlt : k < c
      · have d0 := B.out.c 0 _ rfl; have d1 := B.out.c 1 _ rfl
        have c0 := World.rowIs.cell R.out (show k * 2 < c * 2 by omega); have c1 := World.rowIs.cell R.out (show k * 2 + 1 < c * 2 by omega)
        have z0 := World.rowIs.frozen R.out (k * 2); have z1 := World.rowIs.frozen R.out (k * 2 + 1)
        have HR' := Lib.hid (row_set (row_set R.out (k * 2) (.int .i64 x0)) (k * 2 + 1) (.int .i64 x1))
        have HB' := Lib.hid (((B.out.other (i := k * 2) hgB (.int .i64 x0)).other (i := k * 2 + 1) hgB (.int .i64 x1)))
        have HG' := Lib.hid (grown_set (grown_set G.out (k * 2) (.int .i64 x0)) (k * 2 + 1) (.int .i64 x1))
        generalize f (k * 2) = f0 at *
        generalize f (k * 2 + 1) = f1 at *
        go_wp2_with fail
        go_roundw
        case rel => exact ⟨k + 1, _, by omega, by go_num, HR', HB', HG'⟩
        case measure => simp [intOf]; omega
      · obtain rfl : k = c := by omega
        go_wp2_with fail
        go_end0
        exact ⟨rfl, G.out⟩

/-- A row with the room behind it full of marks. -/
def RoomReg (w : World) (g C : Nat) (xs mk : List Value) : Prop := ∃ f, w.rowIs g 39 (C * 2) f ∧ ∀ j, j < C * 2 → (xs ++ (mk ++ (mk ++ mk)))[j]? = some (f j)

theorem RoomReg.blk {w w' : World} {g C : Nat} {xs mk : List Value} (h : RoomReg w g C xs mk) (hb : w'.heap[g]? = w.heap[g]?) : RoomReg w' g C xs mk := by
  obtain ⟨f, ⟨cur, hg, r⟩, h2⟩ := h
  exact ⟨f, ⟨cur, by rw [hb]; exact hg, r⟩, h2⟩

theorem RoomReg.lt {w : World} {g C : Nat} {xs mk : List Value} (h : RoomReg w g C xs mk) : g < w.heap.size := by
  obtain ⟨f, h1, -⟩ := h
  exact row_lt h1

theorem RoomReg.on {w w' : World} {g C : Nat} {xs mk : List Value} (h : RoomReg w g C xs mk) (hb : Below w.heap.size w w') : RoomReg w' g C xs mk := h.blk (hb.block g h.lt)

theorem RoomReg.own {w : World} {g C n base : Nat} {xs mk : List Value} (h : RoomReg w g C xs mk) (hx : xs.length = n * 2) (hC : C = n + 3) (hb : base ≤ g) (hm : C ≤ maxLen) : w.ownsRow base 39 2 (.slice (some ⟨g, 0, none⟩) n C) n xs := by
  obtain ⟨f, h1, h2⟩ := h
  refine rowAny_own h1 hx (fun j hj => ?_) hb (by omega) hm
  have := h2 j (by omega)
  rw [List.getElem?_append_left (by omega)] at this
  exact this

theorem fill_Reg {xs : List Value} {f : Nat → Value} {p : Nat} (x0 : Int) (x1 : Int) (hp : xs.length = p) (h : ∀ j, j < p → xs[j]? = some (f j)) :
    ∀ j, j < p + 2 → (xs ++ [Value.int .i64 x0, .int .i64 x1])[j]? = some (if j = p + 1 then .int .i64 x1 else if j = p then .int .i64 x0 else f j) := fun j hj => by
  by_cases h0 : j < p
  · rw [List.getElem?_append_left (by omega), h j h0, if_neg (by omega), if_neg (by omega)]
  · rw [List.getElem?_append_right (by omega), hp]
    have hc : j = p ∨ j = p + 1 := by omega
    rcases hc with rfl | rfl
    · rw [if_neg (by omega), if_pos rfl, Nat.sub_self]; rfl
    · rw [if_pos rfl, Nat.add_sub_cancel_left]; rfl

theorem reps_Reg (xs mk : List Value) (k : Nat) : xs ++ (List.replicate (k + 1) mk).flatten = (xs ++ (List.replicate k mk).flatten) ++ mk := by
  rw [List.replicate_succ', List.flatten_append, ← List.append_assoc]
  simp

theorem RoomReg.mark {w : World} {g C n : Nat} {xs : List Value} {x0 : Int} {x1 : Int} (h : RoomReg w g C xs [.int .i64 x0, .int .i64 x1]) (hx : xs.length = n * 2) (hC : C = n + 3) {k : Nat} (hk : k < 3) :
    w.cell? ⟨g, n * 2 + k * 2, none⟩ = some (.int .i64 x0) ∧ w.cell? ⟨g, n * 2 + k * 2 + 1, none⟩ = some (.int .i64 x1) := by
  obtain ⟨f, h1, h2⟩ := h
  have key : ∀ i, i < 2 → w.cell? ⟨g, n * 2 + (k * 2 + i), none⟩ = ([Value.int .i64 x0, .int .i64 x1] : List Value)[i]? := fun i hi => by
    rw [World.rowIs.cell h1 (show n * 2 + (k * 2 + i) < C * 2 by omega), ← h2 _ (by omega), List.getElem?_append_right (by omega), hx, Nat.add_sub_cancel_left]
    rcases (by omega : k = 0 ∨ k = 1 ∨ k = 2) with rfl | rfl | rfl
    · rw [List.getElem?_append_left (by show 0 * 2 + i < 2; omega), Nat.zero_mul, Nat.zero_add]
    · rw [List.getElem?_append_right (by show 2 ≤ 1 * 2 + i; omega), List.getElem?_append_left (by show 1 * 2 + i - 2 < 2; omega)]
      show ([Value.int .i64 x0, .int .i64 x1] : List Value)[1 * 2 + i - 2]? = _
      rw [show 1 * 2 + i - 2 = i from by omega]
    · rw [List.getElem?_append_right (by show 2 ≤ 2 * 2 + i; omega), List.getElem?_append_right (by show 2 ≤ 2 * 2 + i - 2; omega)]
      show ([Value.int .i64 x0, .int .i64 x1] : List Value)[2 * 2 + i - 2 - 2]? = _
      rw [show 2 * 2 + i - 2 - 2 = i from by omega]
  refine ⟨?_, ?_⟩
  · have := key 0 (by decide)
    rw [← Nat.add_assoc] at this
    exact this
  · have := key 1 (by decide)
    rw [← Nat.add_assoc] at this
    exact this

theorem fill_Task {xs : List Value} {f : Nat → Value} {p : Nat} (x0 : Int) (x1 : Int) (hp : xs.length = p) (h : ∀ j, j < p → xs[j]? = some (f j)) :
    ∀ j, j < p + 2 → (xs ++ [Value.int .i64 x0, .int .i64 x1])[j]? = some (if j = p + 1 then .int .i64 x1 else if j = p then .int .i64 x0 else f j) := fun j hj => by
  by_cases h0 : j < p
  · rw [List.getElem?_append_left (by omega), h j h0, if_neg (by omega), if_neg (by omega)]
  · rw [List.getElem?_append_right (by omega), hp]
    have hc : j = p ∨ j = p + 1 := by omega
    rcases hc with rfl | rfl
    · rw [if_neg (by omega), if_pos rfl, Nat.sub_self]; rfl
    · rw [if_pos rfl, Nat.add_sub_cancel_left]; rfl

theorem reps_Task (xs mk : List Value) (k : Nat) : xs ++ (List.replicate (k + 1) mk).flatten = (xs ++ (List.replicate k mk).flatten) ++ mk := by
  rw [List.replicate_succ', List.flatten_append, ← List.append_assoc]
  simp

end Go.Proofs.YtenkdpogdfcbgaaGreat
