/- Walks of roomy, marked, spoil at records. -/
import Derived.Test.YtenkdpogdfcbgaaOwnI
import Derived.OwnWalk
namespace Go.Proofs.Ytenkdpogdfcbgaa
open Go.RowKit

set_option maxRecDepth 100000 in
set_option maxHeartbeats 4000000 in
theorem spoil_Rec (a : Option Addr) (n c base : Nat) (x0 : Bool) (x1 : Int) (x2 : Int) (x3 : ByteArray) (xs : List Value) (w : World) (ho : w.ownsRow base 36 4 (.slice a n c) n xs) (hc : c ≤ 9223372036854775807) :
    Calls Try.prog 51 #[.slice a n c, .agg #[.bool x0, .int .i64 x1, .int .i64 x2, .string x3]] w fun e w' => e = .returned (.tuple #[]) ∧ w.grownBy w' (Value.slice a n c).ownBlock := by
  have hx0 : ∀ T, Bxs (w.alloc (.cells #[.bool x0, .int .i64 x1, .int .i64 x2, .string x3] T)) w.heap.size [.bool x0, .int .i64 x1, .int .i64 x2, .string x3] := fun T => bxs_new w T _ _ rfl
  have HX := Lib.hid hx0
  have HG : ∀ row, Hid (w.grownBy (w.alloc (.cells #[.bool x0, .int .i64 x1, .int .i64 x2, .string x3] 36)) row) := fun row => Lib.hid (World.grownBy_alloc w _ row)
  clear hx0
  rcases ho.2 with ⟨hv, -⟩ | ⟨g, cap', cur, hv, -⟩
  · cases hv
    clear ho
    go_enter Try.func51, Try.ntmps51
    go_wp2_with fail
    go_loopw [11] (fun v wr => v = .int .i64 0 ∧ Hid (w.grownBy wr none)) (fun _ _ => 0)
    case atStart => exact ⟨rfl, HG none⟩
    case round =>
      obtain ⟨rfl, G⟩ := hrel
      go_wp2_with fail
      go_end0
      exact ⟨rfl, G.out⟩
  · cases hv
    obtain ⟨f, hrow, -, -, hnc, -⟩ := own_rowAny ho
    have hgw := row_lt hrow
    have HR := Lib.hid (row_on hrow ((Below.refl _ w).alloc (Nat.le_refl _) (.cells #[.bool x0, .int .i64 x1, .int .i64 x2, .string x3] 36)))
    have hgB : g ≠ w.heap.size := by omega
    clear ho hrow
    go_enter Try.func51, Try.ntmps51
    go_wp2_with fail
    go_loopw [11] (fun v wr => ∃ (k : Nat) (f : Nat → Value), k ≤ c ∧ v = .int .i64 k ∧ Hid (wr.rowIs g 36 (c * 4) f) ∧ Hid (Bxs wr w.heap.size [.bool x0, .int .i64 x1, .int .i64 x2, .string x3]) ∧ Hid (w.grownBy wr (some g))) (fun v _ => c - (intOf v).toNat)
    case atStart => exact ⟨0, f, Nat.zero_le _, rfl, HR, Lib.hid (HX.out _), HG _⟩
    case round =>
      obtain ⟨k, f, hk, rfl, R, B, G⟩ := hrel
      by_cases hlt : k < c
      · have d0 := B.out.c 0 _ rfl; have d1 := B.out.c 1 _ rfl; have d2 := B.out.c 2 _ rfl; have d3 := B.out.c 3 _ rfl
        have c0 := World.rowIs.cell R.out (show k * 4 < c * 4 by omega); have c1 := World.rowIs.cell R.out (show k * 4 + 1 < c * 4 by omega); have c2 := World.rowIs.cell R.out (show k * 4 + 2 < c * 4 by omega); have c3 := World.rowIs.cell R.out (show k * 4 + 3 < c * 4 by omega)
        have z0 := World.rowIs.frozen R.out (k * 4); have z1 := World.rowIs.frozen R.out (k * 4 + 1); have z2 := World.rowIs.frozen R.out (k * 4 + 2); have z3 := World.rowIs.frozen R.out (k * 4 + 3)
        have HR' := Lib.hid (row_set (row_set (row_set (row_set R.out (k * 4) (.bool x0)) (k * 4 + 1) (.int .i64 x1)) (k * 4 + 2) (.int .i64 x2)) (k * 4 + 3) (.string x3))
        have HB' := Lib.hid (((((B.out.other (i := k * 4) hgB (.bool x0)).other (i := k * 4 + 1) hgB (.int .i64 x1)).other (i := k * 4 + 2) hgB (.int .i64 x2)).other (i := k * 4 + 3) hgB (.string x3)))
        have HG' := Lib.hid (grown_set (grown_set (grown_set (grown_set G.out (k * 4) (.bool x0)) (k * 4 + 1) (.int .i64 x1)) (k * 4 + 2) (.int .i64 x2)) (k * 4 + 3) (.string x3))
        generalize f (k * 4) = f0 at *
        generalize f (k * 4 + 1) = f1 at *
        generalize f (k * 4 + 2) = f2 at *
        generalize f (k * 4 + 3) = f3 at *
        go_wp2_with fail
        go_roundw
        case rel => exact ⟨k + 1, _, by omega, by go_num, HR', HB', HG'⟩
        case measure => simp [intOf]; omega
      · obtain rfl : k = c := by omega
        go_wp2_with fail
        go_end0
        exact ⟨rfl, G.out⟩

/-- A row with the room behind it full of marks. -/
def RoomRec (w : World) (g C : Nat) (xs mk : List Value) : Prop := ∃ f, w.rowIs g 36 (C * 4) f ∧ ∀ j, j < C * 4 → (xs ++ (mk ++ (mk ++ mk)))[j]? = some (f j)

theorem RoomRec.blk {w w' : World} {g C : Nat} {xs mk : List Value} (h : RoomRec w g C xs mk) (hb : w'.heap[g]? = w.heap[g]?) : RoomRec w' g C xs mk := by
  obtain ⟨f, ⟨cur, hg, r⟩, h2⟩ := h
  exact ⟨f, ⟨cur, by rw [hb]; exact hg, r⟩, h2⟩

theorem RoomRec.lt {w : World} {g C : Nat} {xs mk : List Value} (h : RoomRec w g C xs mk) : g < w.heap.size := by
  obtain ⟨f, h1, -⟩ := h
  exact row_lt h1

theorem RoomRec.on {w w' : World} {g C : Nat} {xs mk : List Value} (h : RoomRec w g C xs mk) (hb : Below w.heap.size w w') : RoomRec w' g C xs mk := h.blk (hb.block g h.lt)

theorem RoomRec.own {w : World} {g C n base : Nat} {xs mk : List Value} (h : RoomRec w g C xs mk) (hx : xs.length = n * 4) (hC : C = n + 3) (hb : base ≤ g) (hm : C ≤ maxLen) : w.ownsRow base 36 4 (.slice (some ⟨g, 0, none⟩) n C) n xs := by
  obtain ⟨f, h1, h2⟩ := h
  refine rowAny_own h1 hx (fun j hj => ?_) hb (by omega) hm
  have := h2 j (by omega)
  rw [List.getElem?_append_left (by omega)] at this
  exact this

theorem fill_Rec {xs : List Value} {f : Nat → Value} {p : Nat} (x0 : Bool) (x1 : Int) (x2 : Int) (x3 : ByteArray) (hp : xs.length = p) (h : ∀ j, j < p → xs[j]? = some (f j)) :
    ∀ j, j < p + 4 → (xs ++ [Value.bool x0, .int .i64 x1, .int .i64 x2, .string x3])[j]? = some (if j = p + 3 then .string x3 else if j = p + 2 then .int .i64 x2 else if j = p + 1 then .int .i64 x1 else if j = p then .bool x0 else f j) := fun j hj => by
  by_cases h0 : j < p
  · rw [List.getElem?_append_left (by omega), h j h0, if_neg (by omega), if_neg (by omega), if_neg (by omega), if_neg (by omega)]
  · rw [List.getElem?_append_right (by omega), hp]
    have hc : j = p ∨ j = p + 1 ∨ j = p + 2 ∨ j = p + 3 := by omega
    rcases hc with rfl | rfl | rfl | rfl
    · rw [if_neg (by omega), if_neg (by omega), if_neg (by omega), if_pos rfl, Nat.sub_self]; rfl
    · rw [if_neg (by omega), if_neg (by omega), if_pos rfl, Nat.add_sub_cancel_left]; rfl
    · rw [if_neg (by omega), if_pos rfl, Nat.add_sub_cancel_left]; rfl
    · rw [if_pos rfl, Nat.add_sub_cancel_left]; rfl

theorem reps_Rec (xs mk : List Value) (k : Nat) : xs ++ (List.replicate (k + 1) mk).flatten = (xs ++ (List.replicate k mk).flatten) ++ mk := by
  rw [List.replicate_succ', List.flatten_append, ← List.append_assoc]
  simp

set_option maxRecDepth 100000 in
set_option maxHeartbeats 4000000 in
theorem roomy_Rec (a : Option Addr) (n c : Nat) (x0 : Bool) (x1 : Int) (x2 : Int) (x3 : ByteArray) (xs : List Value) (w : World) (hx : xs.length = n * 4) (hnil : a = none → n = 0 ∧ c = 0) (hcs : ∀ ad, a = some ad → ∀ (j : Nat) (u : Value), xs[j]? = some u → w.cell? (ad.add j) = some u) (hone : ∀ u ∈ xs, u.oneCell' = true) (hn : n ≤ 3518437208832) :
    Calls Try.prog 47 #[.slice a n c, .agg #[.bool x0, .int .i64 x1, .int .i64 x2, .string x3]] w fun e w' => ∃ g C, C = n + 3 ∧ e = .returned (.slice (some ⟨g, 0, none⟩) n C) ∧ w.heap.size ≤ g ∧ RoomRec w' g C xs [.bool x0, .int .i64 x1, .int .i64 x2, .string x3] ∧ Below w.heap.size w w' := by
  obtain ⟨i0, hi, hz0, hz1, hz2⟩ := info_parts (show (Try.prog.info? 36).map (fun i => (i.zero, i.size, i.bytes)) = some (some (.agg #[.bool false, .int .i64 0, .int .i64 0, .string ⟨#[]⟩]), 4, 40) by kernel_rfl)
  have HX := Lib.hid (bxs_new w 36 #[.bool x0, .int .i64 x1, .int .i64 x2, .string x3] [.bool x0, .int .i64 x1, .int .i64 x2, .string x3] rfl)
  have hB := (Below.refl w.heap.size w).alloc (Nat.le_refl _) (.cells #[.bool x0, .int .i64 x1, .int .i64 x2, .string x3] 36)
  have HB := Lib.hid hB
  have HCS : Hid (∀ ad, a = some ad → ∀ (j : Nat) (u : Value), xs[j]? = some u → (w.alloc (.cells #[.bool x0, .int .i64 x1, .int .i64 x2, .string x3] 36)).cell? (ad.add j) = some u) := Lib.hid fun ad h j u hj => by have h1 := hcs ad h j u hj; rw [hB.cell (World.block_lt_of_cell? w _ h1)]; exact h1
  obtain ⟨C, hC⟩ : ∃ C, C = n + 3 := ⟨_, rfl⟩
  have HCn : Hid (((n : Int) + 3) = (C : Int)) := Lib.hid (by omega)
  have hb2 : i0.bytes * C ≤ 281474976710656 := by rw [hz2]; omega
  have hb3 : C ≤ maxLen := by unfold maxLen; omega
  have hsz1 : (w.alloc (.cells #[.bool x0, .int .i64 x1, .int .i64 x2, .string x3] 36)).heap.size = w.heap.size + 1 := World.size_alloc ..
  have HSZ := Lib.hid hsz1
  have HNIL := Lib.hid hnil; have HONE := Lib.hid hone; have HXL := Lib.hid hx
  have HC := Lib.hid hC
  clear hB hsz1 hnil hcs hone hx hC
  go_enter Try.func47, Try.ntmps47
  go_wp2_with (at_make; refine wpList_make_own _ rfl _ _ _ rfl (w.heap.size + 1) 36 i0 (.agg #[.bool false, .int .i64 0, .int .i64 0, .string ⟨#[]⟩]) 4 Try.underlying45 hi hz0 hz1 _ _ _ C rfl rfl HCn.out hb2 hb3 (by rw [World.size_alloc]; exact Nat.le_refl _) ?_)
  intro w1 o1 g1
  have HG1 := Lib.hid g1
  have hk1 : Below (w.alloc (.cells #[.bool x0, .int .i64 x1, .int .i64 x2, .string x3] 36)).heap.size (w.alloc (.cells #[.bool x0, .int .i64 x1, .int .i64 x2, .string x3] 36)) w1 := (Below.refl _ _).grown g1 (Nat.le_refl _) (fun k e => by cases e)
  have HC1 : Hid (∀ ad, a = some ad → ∀ (j : Nat) (u : Value), xs[j]? = some u → w1.cell? (ad.add j) = some u) := Lib.hid fun ad h j u hj => by have h1 := HCS.out ad h j u hj; rw [hk1.cell (World.block_lt_of_cell? _ _ h1)]; exact h1
  have HX1 := Lib.hid (HX.out.on hk1)
  have HB1 := Lib.hid (HB.out.trans (hk1.mono HB.out.size))
  have hs1 := hk1.size
  rw [HSZ.out] at hs1
  have HO1 := Lib.hid o1
  have hfit : 0 + n ≤ C := by have := HC.out; omega
  clear g1 o1 hk1 HX
  go_wp2_with (at_builtin; refine wpList_append_fits_any _ rfl _ _ _ rfl (w.heap.size + 1) 36 i0 4 Try.underlying45 hi hz1 (w.heap.size + 1) 0 C [] rfl HO1.out a n c xs rfl HXL.out HNIL.out HC1.out HONE.out hfit ?_)
  intro w2 o2 g2
  obtain ⟨f, hrow, hf, -, -, -⟩ := own_rowAny o2
  have HR := Lib.hid hrow
  have HF : Hid (∀ j, j < (n + 0) * 4 → (xs ++ (List.replicate 0 ([Value.bool x0, .int .i64 x1, .int .i64 x2, .string x3] : List Value)).flatten)[j]? = some (f j)) := Lib.hid fun j hj => by
    rw [List.replicate_zero, List.flatten_nil, List.append_nil]
    exact hf j hj
  have HX2 := Lib.hid (HX1.out.grown g2 (fun e => by have := Option.some.inj e; omega))
  have HB2 := Lib.hid (HB1.out.grown g2 HB1.out.size (fun k e => by cases e; omega))
  clear o2 g2 hrow hf HC1 HG1 HO1 HCS
  go_wp2_with fail
  go_loopw [13] (fun v wr => ∃ (k : Nat) (f : Nat → Value), k ≤ 3 ∧ v = .int .i64 k ∧ Hid (wr.rowIs (w.heap.size + 1) 36 (C * 4) f) ∧ Hid (∀ j, j < (n + k) * 4 → (xs ++ (List.replicate k ([Value.bool x0, .int .i64 x1, .int .i64 x2, .string x3] : List Value)).flatten)[j]? = some (f j)) ∧ Hid (Bxs wr w.heap.size [.bool x0, .int .i64 x1, .int .i64 x2, .string x3]) ∧ Hid (Below w.heap.size w wr)) (fun v _ => 3 - (intOf v).toNat)
  case atStart => exact ⟨0, f, Nat.zero_le _, rfl, HR, HF, HX2, HB2⟩
  case round =>
    obtain ⟨k, f, hk, rfl, R, F, B, BW⟩ := hrel
    have hGB : w.heap.size + 1 ≠ w.heap.size := by omega
    by_cases hlt : k < 3
    · have hp : n + k < C := by have := HC.out; omega
      have hpC : (n : Int) + (k : Int) < (C : Int) := by omega
      have hnC : (n : Int) + 3 ≤ (C : Int) := by have := HC.out; omega
      have hn3 : ((n : Int) + 3).toNat = n + 3 := by omega
      have hnk : ((n : Int) + (k : Int)).toNat = n + k := by omega
      have hnk3 : (n : Int) + (k : Int) < (n : Int) + 3 := by omega
      have d0 := B.out.c 0 _ rfl; have d1 := B.out.c 1 _ rfl; have d2 := B.out.c 2 _ rfl; have d3 := B.out.c 3 _ rfl
      have c0 := World.rowIs.cell R.out (show (n + k) * 4 < C * 4 by omega); have c1 := World.rowIs.cell R.out (show (n + k) * 4 + 1 < C * 4 by omega); have c2 := World.rowIs.cell R.out (show (n + k) * 4 + 2 < C * 4 by omega); have c3 := World.rowIs.cell R.out (show (n + k) * 4 + 3 < C * 4 by omega)
      have z0 := World.rowIs.frozen R.out ((n + k) * 4); have z1 := World.rowIs.frozen R.out ((n + k) * 4 + 1); have z2 := World.rowIs.frozen R.out ((n + k) * 4 + 2); have z3 := World.rowIs.frozen R.out ((n + k) * 4 + 3)
      have HB' := Lib.hid (((((B.out.other (i := (n + k) * 4) hGB (.bool x0)).other (i := (n + k) * 4 + 1) hGB (.int .i64 x1)).other (i := (n + k) * 4 + 2) hGB (.int .i64 x2)).other (i := (n + k) * 4 + 3) hGB (.string x3)).drew)
      have HG' := Lib.hid (((((BW.out.setCell (p := ⟨w.heap.size + 1, (n + k) * 4, none⟩) (Nat.le_succ _) (.bool x0)).setCell (p := ⟨w.heap.size + 1, (n + k) * 4 + 1, none⟩) (Nat.le_succ _) (.int .i64 x1)).setCell (p := ⟨w.heap.size + 1, (n + k) * 4 + 2, none⟩) (Nat.le_succ _) (.int .i64 x2)).setCell (p := ⟨w.heap.size + 1, (n + k) * 4 + 3, none⟩) (Nat.le_succ _) (.string x3)).drew)
      have HF' := Lib.hid (fill_Rec (f := f) x0 x1 x2 x3 (xs := xs ++ (List.replicate k ([Value.bool x0, .int .i64 x1, .int .i64 x2, .string x3] : List Value)).flatten) (p := (n + k) * 4) (by rw [List.length_append, HXL.out, List.length_flatten, List.map_replicate, List.sum_replicate_nat]; show n * 4 + k * 4 = _; omega) F.out)
      generalize f ((n + k) * 4) = f0 at *
      generalize f ((n + k) * 4 + 1) = f1 at *
      generalize f ((n + k) * 4 + 2) = f2 at *
      generalize f ((n + k) * 4 + 3) = f3 at *
      go_wp2_with fail
      go_region
      all_goals
        go_wp2_with fail
        go_roundw
        case rel => exact ⟨k + 1, _, by omega, by go_num, Lib.hid (row_on (row_set (row_set (row_set (row_set R.out ((n + k) * 4) (.bool x0)) ((n + k) * 4 + 1) (.int .i64 x1)) ((n + k) * 4 + 2) (.int .i64 x2)) ((n + k) * 4 + 3) (.string x3)) (Below.refl _ _).drew), Lib.hid (fun j hj => by rw [reps_Rec]; exact HF'.out j (by omega)), HB', HG'⟩
        case measure => simp [intOf]; omega
    · obtain rfl : k = 3 := by omega
      go_wp2_with fail
      go_ret
      exact ⟨_, C, HC.out, rfl, Nat.le_succ _, ⟨f, R.out, fun j hj => by have := F.out j (by have := HC.out; omega); exact this⟩, BW.out⟩

theorem RoomRec.mark {w : World} {g C n : Nat} {xs : List Value} {x0 : Bool} {x1 : Int} {x2 : Int} {x3 : ByteArray} (h : RoomRec w g C xs [.bool x0, .int .i64 x1, .int .i64 x2, .string x3]) (hx : xs.length = n * 4) (hC : C = n + 3) {k : Nat} (hk : k < 3) :
    w.cell? ⟨g, n * 4 + k * 4, none⟩ = some (.bool x0) ∧ w.cell? ⟨g, n * 4 + k * 4 + 1, none⟩ = some (.int .i64 x1) ∧ w.cell? ⟨g, n * 4 + k * 4 + 2, none⟩ = some (.int .i64 x2) ∧ w.cell? ⟨g, n * 4 + k * 4 + 3, none⟩ = some (.string x3) := by
  obtain ⟨f, h1, h2⟩ := h
  have key : ∀ i, i < 4 → w.cell? ⟨g, n * 4 + (k * 4 + i), none⟩ = ([Value.bool x0, .int .i64 x1, .int .i64 x2, .string x3] : List Value)[i]? := fun i hi => by
    rw [World.rowIs.cell h1 (show n * 4 + (k * 4 + i) < C * 4 by omega), ← h2 _ (by omega), List.getElem?_append_right (by omega), hx, Nat.add_sub_cancel_left]
    rcases (by omega : k = 0 ∨ k = 1 ∨ k = 2) with rfl | rfl | rfl
    · rw [List.getElem?_append_left (by show 0 * 4 + i < 4; omega), Nat.zero_mul, Nat.zero_add]
    · rw [List.getElem?_append_right (by show 4 ≤ 1 * 4 + i; omega), List.getElem?_append_left (by show 1 * 4 + i - 4 < 4; omega)]
      show ([Value.bool x0, .int .i64 x1, .int .i64 x2, .string x3] : List Value)[1 * 4 + i - 4]? = _
      rw [show 1 * 4 + i - 4 = i from by omega]
    · rw [List.getElem?_append_right (by show 4 ≤ 2 * 4 + i; omega), List.getElem?_append_right (by show 4 ≤ 2 * 4 + i - 4; omega)]
      show ([Value.bool x0, .int .i64 x1, .int .i64 x2, .string x3] : List Value)[2 * 4 + i - 4 - 4]? = _
      rw [show 2 * 4 + i - 4 - 4 = i from by omega]
  refine ⟨?_, ?_, ?_, ?_⟩
  · have := key 0 (by decide)
    rw [← Nat.add_assoc] at this
    exact this
  · have := key 1 (by decide)
    rw [← Nat.add_assoc] at this
    exact this
  · have := key 2 (by decide)
    rw [← Nat.add_assoc] at this
    exact this
  · have := key 3 (by decide)
    rw [← Nat.add_assoc] at this
    exact this

set_option maxRecDepth 100000 in
set_option maxHeartbeats 4000000 in
theorem marked_Rec (g n C : Nat) (x0 : Bool) (x1 : Int) (x2 : Int) (x3 : ByteArray) (xs : List Value) (w : World) (hR : RoomRec w g C xs [.bool x0, .int .i64 x1, .int .i64 x2, .string x3]) (hl : xs.length = n * 4) (hC : C = n + 3) (hn : n ≤ 3518437208832) :
    Calls Try.prog 49 #[.slice (some ⟨g, 0, none⟩) n C, .agg #[.bool x0, .int .i64 x1, .int .i64 x2, .string x3]] w fun e w' => e = .returned (.bool true) ∧ Below w.heap.size w w' := by
  have HX := Lib.hid (bxs_new w 36 #[.bool x0, .int .i64 x1, .int .i64 x2, .string x3] [.bool x0, .int .i64 x1, .int .i64 x2, .string x3] rfl)
  have hB := (Below.refl w.heap.size w).alloc (Nat.le_refl _) (.cells #[.bool x0, .int .i64 x1, .int .i64 x2, .string x3] 36)
  have HB := Lib.hid hB
  have HR := Lib.hid (hR.on hB)
  have HL := Lib.hid hl; have HC := Lib.hid hC
  have hne : ¬ C = n := by omega
  have hCn : C - n = 3 := by omega
  have hle : (n : Int) ≤ (C : Int) := by omega
  have hC2 : C ≤ 3518437208835 := by omega
  clear hR hB hl hC
  go_enter Try.func49, Try.ntmps49
  go_wp2_with fail
  go_loopw [14] (fun v wr => ∃ k : Nat, k ≤ 3 ∧ v = .int .i64 k ∧ Hid (Below (w.alloc (.cells #[.bool x0, .int .i64 x1, .int .i64 x2, .string x3] 36)).heap.size (w.alloc (.cells #[.bool x0, .int .i64 x1, .int .i64 x2, .string x3] 36)) wr)) (fun v _ => 3 - (intOf v).toNat)
  case atStart => exact ⟨0, Nat.zero_le _, rfl, Lib.hid (Below.refl _ _)⟩
  case round =>
    obtain ⟨k, hk, rfl, BW⟩ := hrel
    have hsz := BW.out.size
    by_cases hlt : k < 3
    · obtain ⟨q0, q1, q2, q3⟩ := (HR.out.on BW.out).mark HL.out HC.out hlt
      have HA := Lib.hid (BW.out.alloc hsz (.cells #[.bool x0, .int .i64 x1, .int .i64 x2, .string x3] 36))
      have HXa := Lib.hid ((HX.out.on BW.out).alloc (.cells #[.bool x0, .int .i64 x1, .int .i64 x2, .string x3] 36))
      have d0 := HXa.out.c 0 _ rfl; have d1 := HXa.out.c 1 _ rfl; have d2 := HXa.out.c 2 _ rfl; have d3 := HXa.out.c 3 _ rfl
      go_wp2_with fail
      go_roundw
      case rel => exact ⟨k + 1, hlt, by go_num, HA⟩
      case measure => simp [intOf]; omega
    · obtain rfl : k = 3 := by omega
      go_wp2_with fail
      go_ret
      exact ⟨rfl, HB.out.trans (BW.out.mono HB.out.size)⟩

end Go.Proofs.Ytenkdpogdfcbgaa
