/- The walks of woolkeep.roomy, marked and spoil at registrations and at tasks. -/
import Derived.Test.YtenkdpogdfcbgaaOwnI
import Derived.OwnWalk
namespace Go.Proofs.Ytenkdpogdfcbgaa
open Go.RowKit

set_option maxRecDepth 100000 in
set_option maxHeartbeats 4000000 in
theorem spoil_Reg (a : Option Addr) (n c base : Nat) (x0 : Int) (x1 : Int) (xs : List Value) (w : World) (ho : w.ownsRow base 109 2 (.slice a n c) n xs) (hc : c ≤ 9223372036854775807) :
    Calls Try.prog 66 #[.slice a n c, .agg #[.int .i64 x0, .int .i64 x1]] w fun e w' => e = .returned (.tuple #[]) ∧ w.grownBy w' (Value.slice a n c).ownBlock := by
  have hx0 : ∀ T, Bxs (w.alloc (.cells #[.int .i64 x0, .int .i64 x1] T)) w.heap.size [.int .i64 x0, .int .i64 x1] := fun T => bxs_new w T _ _ rfl
  have HX := Lib.hid hx0
  have HG : ∀ row, Hid (w.grownBy (w.alloc (.cells #[.int .i64 x0, .int .i64 x1] 109)) row) := fun row => Lib.hid (World.grownBy_alloc w _ row)
  clear hx0
  rcases ho.2 with ⟨hv, -⟩ | ⟨g, cap', cur, hv, -⟩
  · cases hv
    clear ho
    go_enter Try.func66, Try.ntmps66
    go_wp2_with fail
    go_loopw [11] (fun v wr => v = .int .i64 0 ∧ Hid (w.grownBy wr none)) (fun _ _ => 0)
    case atStart => exact ⟨rfl, HG none⟩
    case round =>
      obtain ⟨rfl, G⟩ := hrel
      go_wp2_with fail
      go_end0
      exact ⟨rfl, G.out⟩
  · cases hv
    obtain ⟨f, hrow, -, -, hnc, -⟩ := own_rowAny ho
    have hgw := row_lt hrow
    have HR := Lib.hid (row_on hrow ((Below.refl _ w).alloc (Nat.le_refl _) (.cells #[.int .i64 x0, .int .i64 x1] 109)))
    have hgB : g ≠ w.heap.size := by omega
    clear ho hrow
    go_enter Try.func66, Try.ntmps66
    go_wp2_with fail
    go_loopw [11] (fun v wr => ∃ (k : Nat) (f : Nat → Value), k ≤ c ∧ v = .int .i64 k ∧ Hid (wr.rowIs g 109 (c * 2) f) ∧ Hid (Bxs wr w.heap.size [.int .i64 x0, .int .i64 x1]) ∧ Hid (w.grownBy wr (some g))) (fun v _ => c - (intOf v).toNat)
    case atStart => exact ⟨0, f, Nat.zero_le _, rfl, HR, Lib.hid (HX.out _), HG _⟩
    case round =>
      obtain ⟨k, f, hk, rfl, R, B, G⟩ := hrel
      by_cases hlt : k < c
      · have d0 := B.out.c 0 _ rfl; have d1 := B.out.c 1 _ rfl
        have c0 := World.rowIs.cell R.out (show k * 2 < c * 2 by omega); have c1 := World.rowIs.cell R.out (show k * 2 + 1 < c * 2 by omega)
        have z0 := World.rowIs.frozen R.out (k * 2); have z1 := World.rowIs.frozen R.out (k * 2 + 1)
        have HR' := Lib.hid (row_set (row_set R.out (k * 2) (.int .i64 x0)) (k * 2 + 1) (.int .i64 x1))
        have HB' := Lib.hid (((B.out.other (i := k * 2) hgB (.int .i64 x0)).other (i := k * 2 + 1) hgB (.int .i64 x1)))
        have HG' := Lib.hid (grown_set (grown_set G.out (k * 2) (.int .i64 x0)) (k * 2 + 1) (.int .i64 x1))
        generalize f (k * 2) = f0 at *
        generalize f (k * 2 + 1) = f1 at *
        go_wp2_with fail
        go_roundw
        case rel => exact ⟨k + 1, _, by omega, by go_num, HR', HB', HG'⟩
        case measure => simp [intOf]; omega
      · obtain rfl : k = c := by omega
        go_wp2_with fail
        go_end0
        exact ⟨rfl, G.out⟩

/-- A row with the room behind it full of marks. -/
def RoomReg (w : World) (g C : Nat) (xs mk : List Value) : Prop := ∃ f, w.rowIs g 109 (C * 2) f ∧ ∀ j, j < C * 2 → (xs ++ (mk ++ (mk ++ mk)))[j]? = some (f j)

theorem RoomReg.blk {w w' : World} {g C : Nat} {xs mk : List Value} (h : RoomReg w g C xs mk) (hb : w'.heap[g]? = w.heap[g]?) : RoomReg w' g C xs mk := by
  obtain ⟨f, ⟨cur, hg, r⟩, h2⟩ := h
  exact ⟨f, ⟨cur, by rw [hb]; exact hg, r⟩, h2⟩

theorem RoomReg.lt {w : World} {g C : Nat} {xs mk : List Value} (h : RoomReg w g C xs mk) : g < w.heap.size := by
  obtain ⟨f, h1, -⟩ := h
  exact row_lt h1

theorem RoomReg.on {w w' : World} {g C : Nat} {xs mk : List Value} (h : RoomReg w g C xs mk) (hb : Below w.heap.size w w') : RoomReg w' g C xs mk := h.blk (hb.block g h.lt)

theorem RoomReg.own {w : World} {g C n base : Nat} {xs mk : List Value} (h : RoomReg w g C xs mk) (hx : xs.length = n * 2) (hC : C = n + 3) (hb : base ≤ g) (hm : C ≤ maxLen) : w.ownsRow base 109 2 (.slice (some ⟨g, 0, none⟩) n C) n xs := by
  obtain ⟨f, h1, h2⟩ := h
  refine rowAny_own h1 hx (fun j hj => ?_) hb (by omega) hm
  have := h2 j (by omega)
  rw [List.getElem?_append_left (by omega)] at this
  exact this

theorem fill_Reg {xs : List Value} {f : Nat → Value} {p : Nat} (x0 : Int) (x1 : Int) (hp : xs.length = p) (h : ∀ j, j < p → xs[j]? = some (f j)) :
    ∀ j, j < p + 2 → (xs ++ [Value.int .i64 x0, .int .i64 x1])[j]? = some (if j = p + 1 then .int .i64 x1 else if j = p then .int .i64 x0 else f j) := fun j hj => by
  by_cases h0 : j < p
  · rw [List.getElem?_append_left (by omega), h j h0, if_neg (by omega), if_neg (by omega)]
  · rw [List.getElem?_append_right (by omega), hp]
    have hc : j = p ∨ j = p + 1 := by omega
    rcases hc with rfl | rfl
    · rw [if_neg (by omega), if_pos rfl, Nat.sub_self]; rfl
    · rw [if_pos rfl, Nat.add_sub_cancel_left]; rfl

theorem reps_Reg (xs mk : List Value) (k : Nat) : xs ++ (List.replicate (k + 1) mk).flatten = (xs ++ (List.replicate k mk).flatten) ++ mk := by
  rw [List.replicate_succ', List.flatten_append, ← List.append_assoc]
  simp

set_option maxRecDepth 100000 in
set_option maxHeartbeats 4000000 in
theorem roomy_Reg (a : Option Addr) (n c : Nat) (x0 : Int) (x1 : Int) (xs : List Value) (w : World) (hx : xs.length = n * 2) (hnil : a = none → n = 0 ∧ c = 0) (hcs : ∀ ad, a = some ad → ∀ (j : Nat) (u : Value), xs[j]? = some u → w.cell? (ad.add j) = some u) (hone : ∀ u ∈ xs, u.oneCell' = true) (hn : n ≤ 3518437208832) :
    Calls Try.prog 54 #[.slice a n c, .agg #[.int .i64 x0, .int .i64 x1]] w fun e w' => ∃ g C, C = n + 3 ∧ e = .returned (.slice (some ⟨g, 0, none⟩) n C) ∧ w.heap.size ≤ g ∧ RoomReg w' g C xs [.int .i64 x0, .int .i64 x1] ∧ Below w.heap.size w w' := by
  obtain ⟨i0, hi, hz0, hz1, hz2⟩ := info_parts (show (Try.prog.info? 109).map (fun i => (i.zero, i.size, i.bytes)) = some (some (.agg #[.int .i64 0, .int .i64 0]), 2, 16) by kernel_rfl)
  have HX := Lib.hid (bxs_new w 109 #[.int .i64 x0, .int .i64 x1] [.int .i64 x0, .int .i64 x1] rfl)
  have hB := (Below.refl w.heap.size w).alloc (Nat.le_refl _) (.cells #[.int .i64 x0, .int .i64 x1] 109)
  have HB := Lib.hid hB
  have HCS : Hid (∀ ad, a = some ad → ∀ (j : Nat) (u : Value), xs[j]? = some u → (w.alloc (.cells #[.int .i64 x0, .int .i64 x1] 109)).cell? (ad.add j) = some u) := Lib.hid fun ad h j u hj => by have h1 := hcs ad h j u hj; rw [hB.cell (World.block_lt_of_cell? w _ h1)]; exact h1
  obtain ⟨C, hC⟩ : ∃ C, C = n + 3 := ⟨_, rfl⟩
  have HCn : Hid (((n : Int) + 3) = (C : Int)) := Lib.hid (by omega)
  have hb2 : i0.bytes * C ≤ 281474976710656 := by rw [hz2]; omega
  have hb3 : C ≤ maxLen := by unfold maxLen; omega
  have hsz1 : (w.alloc (.cells #[.int .i64 x0, .int .i64 x1] 109)).heap.size = w.heap.size + 1 := World.size_alloc ..
  have HSZ := Lib.hid hsz1
  have HNIL := Lib.hid hnil; have HONE := Lib.hid hone; have HXL := Lib.hid hx
  have HC := Lib.hid hC
  clear hB hsz1 hnil hcs hone hx hC
  go_enter Try.func54, Try.ntmps54
  go_wp2_with (at_make; refine wpList_make_own _ rfl _ _ _ rfl (w.heap.size + 1) 109 i0 (.agg #[.int .i64 0, .int .i64 0]) 2 Try.underlying102 hi hz0 hz1 _ _ _ C rfl rfl HCn.out hb2 hb3 (by rw [World.size_alloc]; exact Nat.le_refl _) ?_)
  intro w1 o1 g1
  have HG1 := Lib.hid g1
  have hk1 : Below (w.alloc (.cells #[.int .i64 x0, .int .i64 x1] 109)).heap.size (w.alloc (.cells #[.int .i64 x0, .int .i64 x1] 109)) w1 := (Below.refl _ _).grown g1 (Nat.le_refl _) (fun k e => by cases e)
  have HC1 : Hid (∀ ad, a = some ad → ∀ (j : Nat) (u : Value), xs[j]? = some u → w1.cell? (ad.add j) = some u) := Lib.hid fun ad h j u hj => by have h1 := HCS.out ad h j u hj; rw [hk1.cell (World.block_lt_of_cell? _ _ h1)]; exact h1
  have HX1 := Lib.hid (HX.out.on hk1)
  have HB1 := Lib.hid (HB.out.trans (hk1.mono HB.out.size))
  have hs1 := hk1.size
  rw [HSZ.out] at hs1
  have HO1 := Lib.hid o1
  have hfit : 0 + n ≤ C := by have := HC.out; omega
  clear g1 o1 hk1 HX
  go_wp2_with (at_builtin; refine wpList_append_fits_any _ rfl _ _ _ rfl (w.heap.size + 1) 109 i0 2 Try.underlying102 hi hz1 (w.heap.size + 1) 0 C [] rfl HO1.out a n c xs rfl HXL.out HNIL.out HC1.out HONE.out hfit ?_)
  intro w2 o2 g2
  obtain ⟨f, hrow, hf, -, -, -⟩ := own_rowAny o2
  have HR := Lib.hid hrow
  have HF : Hid (∀ j, j < (n + 0) * 2 → (xs ++ (List.replicate 0 ([Value.int .i64 x0, .int .i64 x1] : List Value)).flatten)[j]? = some (f j)) := Lib.hid fun j hj => by
    rw [List.replicate_zero, List.flatten_nil, List.append_nil]
    exact hf j hj
  have HX2 := Lib.hid (HX1.out.grown g2 (fun e => by have := Option.some.inj e; omega))
  have HB2 := Lib.hid (HB1.out.grown g2 HB1.out.size (fun k e => by cases e; omega))
  clear o2 g2 hrow hf HC1 HG1 HO1 HCS
  go_wp2_with fail
  go_loopw [13] (fun v wr => ∃ (k : Nat) (f : Nat → Value), k ≤ 3 ∧ v = .int .i64 k ∧ Hid (wr.rowIs (w.heap.size + 1) 109 (C * 2) f) ∧ Hid (∀ j, j < (n + k) * 2 → (xs ++ (List.replicate k ([Value.int .i64 x0, .int .i64 x1] : List Value)).flatten)[j]? = some (f j)) ∧ Hid (Bxs wr w.heap.size [.int .i64 x0, .int .i64 x1]) ∧ Hid (Below w.heap.size w wr)) (fun v _ => 3 - (intOf v).toNat)
  case atStart => exact ⟨0, f, Nat.zero_le _, rfl, HR, HF, HX2, HB2⟩
  case round =>
    obtain ⟨k, f, hk, rfl, R, F, B, BW⟩ := hrel
    have hGB : w.heap.size + 1 ≠ w.heap.size := by omega
    by_cases hlt : k < 3
    · have hp : n + k < C := by have := HC.out; omega
      have hpC : (n : Int) + (k : Int) < (C : Int) := by omega
      have hnC : (n : Int) + 3 ≤ (C : Int) := by have := HC.out; omega
      have hn3 : ((n : Int) + 3).toNat = n + 3 := by omega
      have hnk : ((n : Int) + (k : Int)).toNat = n + k := by omega
      have hnk3 : (n : Int) + (k : Int) < (n : Int) + 3 := by omega
      have d0 := B.out.c 0 _ rfl; have d1 := B.out.c 1 _ rfl
      have c0 := World.rowIs.cell R.out (show (n + k) * 2 < C * 2 by omega); have c1 := World.rowIs.cell R.out (show (n + k) * 2 + 1 < C * 2 by omega)
      have z0 := World.rowIs.frozen R.out ((n + k) * 2); have z1 := World.rowIs.frozen R.out ((n + k) * 2 + 1)
      have HB' := Lib.hid (((B.out.other (i := (n + k) * 2) hGB (.int .i64 x0)).other (i := (n + k) * 2 + 1) hGB (.int .i64 x1)).drew)
      have HG' := Lib.hid (((BW.out.setCell (p := ⟨w.heap.size + 1, (n + k) * 2, none⟩) (Nat.le_succ _) (.int .i64 x0)).setCell (p := ⟨w.heap.size + 1, (n + k) * 2 + 1, none⟩) (Nat.le_succ _) (.int .i64 x1)).drew)
      have HF' := Lib.hid (fill_Reg (f := f) x0 x1 (xs := xs ++ (List.replicate k ([Value.int .i64 x0, .int .i64 x1] : List Value)).flatten) (p := (n + k) * 2) (by rw [List.length_append, HXL.out, List.length_flatten, List.map_replicate, List.sum_replicate_nat]; show n * 2 + k * 2 = _; omega) F.out)
      generalize f ((n + k) * 2) = f0 at *
      generalize f ((n + k) * 2 + 1) = f1 at *
      go_wp2_with fail
      go_region
      all_goals
        go_wp2_with fail
        go_roundw
        case rel => exact ⟨k + 1, _, by omega, by go_num, Lib.hid (row_on (row_set (row_set R.out ((n + k) * 2) (.int .i64 x0)) ((n + k) * 2 + 1) (.int .i64 x1)) (Below.refl _ _).drew), Lib.hid (fun j hj => by rw [reps_Reg]; exact HF'.out j (by omega)), HB', HG'⟩
        case measure => simp [intOf]; omega
    · obtain rfl : k = 3 := by omega
      go_wp2_with fail
      go_ret
      exact ⟨_, C, HC.out, rfl, Nat.le_succ _, ⟨f, R.out, fun j hj => by have := F.out j (by have := HC.out; omega); exact this⟩, BW.out⟩

theorem RoomReg.mark {w : World} {g C n : Nat} {xs : List Value} {x0 : Int} {x1 : Int} (h : RoomReg w g C xs [.int .i64 x0, .int .i64 x1]) (hx : xs.length = n * 2) (hC : C = n + 3) {k : Nat} (hk : k < 3) :
    w.cell? ⟨g, n * 2 + k * 2, none⟩ = some (.int .i64 x0) ∧ w.cell? ⟨g, n * 2 + k * 2 + 1, none⟩ = some (.int .i64 x1) := by
  obtain ⟨f, h1, h2⟩ := h
  have key : ∀ i, i < 2 → w.cell? ⟨g, n * 2 + (k * 2 + i), none⟩ = ([Value.int .i64 x0, .int .i64 x1] : List Value)[i]? := fun i hi => by
    rw [World.rowIs.cell h1 (show n * 2 + (k * 2 + i) < C * 2 by omega), ← h2 _ (by omega), List.getElem?_append_right (by omega), hx, Nat.add_sub_cancel_left]
    rcases (by omega : k = 0 ∨ k = 1 ∨ k = 2) with rfl | rfl | rfl
    · rw [List.getElem?_append_left (by show 0 * 2 + i < 2; omega), Nat.zero_mul, Nat.zero_add]
    · rw [List.getElem?_append_right (by show 2 ≤ 1 * 2 + i; omega), List.getElem?_append_left (by show 1 * 2 + i - 2 < 2; omega)]
      show ([Value.int .i64 x0, .int .i64 x1] : List Value)[1 * 2 + i - 2]? = _
      rw [show 1 * 2 + i - 2 = i from by omega]
    · rw [List.getElem?_append_right (by show 2 ≤ 2 * 2 + i; omega), List.getElem?_append_right (by show 2 ≤ 2 * 2 + i - 2; omega)]
      show ([Value.int .i64 x0, .int .i64 x1] : List Value)[2 * 2 + i - 2 - 2]? = _
      rw [show 2 * 2 + i - 2 - 2 = i from by omega]
  refine ⟨?_, ?_⟩
  · have := key 0 (by decide)
    rw [← Nat.add_assoc] at this
    exact this
  · have := key 1 (by decide)
    rw [← Nat.add_assoc] at this
    exact this

set_option maxRecDepth 100000 in
set_option maxHeartbeats 4000000 in
theorem marked_Reg (g n C : Nat) (x0 : Int) (x1 : Int) (xs : List Value) (w : World) (hR : RoomReg w g C xs [.int .i64 x0, .int .i64 x1]) (hl : xs.length = n * 2) (hC : C = n + 3) (hn : n ≤ 3518437208832) :
    Calls Try.prog 60 #[.slice (some ⟨g, 0, none⟩) n C, .agg #[.int .i64 x0, .int .i64 x1]] w fun e w' => e = .returned (.bool true) ∧ Below w.heap.size w w' := by
  have HX := Lib.hid (bxs_new w 109 #[.int .i64 x0, .int .i64 x1] [.int .i64 x0, .int .i64 x1] rfl)
  have hB := (Below.refl w.heap.size w).alloc (Nat.le_refl _) (.cells #[.int .i64 x0, .int .i64 x1] 109)
  have HB := Lib.hid hB
  have HR := Lib.hid (hR.on hB)
  have HL := Lib.hid hl; have HC := Lib.hid hC
  have hne : ¬ C = n := by omega
  have hCn : C - n = 3 := by omega
  have hle : (n : Int) ≤ (C : Int) := by omega
  have hC2 : C ≤ 3518437208835 := by omega
  clear hR hB hl hC
  go_enter Try.func60, Try.ntmps60
  go_wp2_with fail
  go_loopw [14] (fun v wr => ∃ k : Nat, k ≤ 3 ∧ v = .int .i64 k ∧ Hid (Below (w.alloc (.cells #[.int .i64 x0, .int .i64 x1] 109)).heap.size (w.alloc (.cells #[.int .i64 x0, .int .i64 x1] 109)) wr)) (fun v _ => 3 - (intOf v).toNat)
  case atStart => exact ⟨0, Nat.zero_le _, rfl, Lib.hid (Below.refl _ _)⟩
  case round =>
    obtain ⟨k, hk, rfl, BW⟩ := hrel
    have hsz := BW.out.size
    by_cases hlt : k < 3
    · obtain ⟨q0, q1⟩ := (HR.out.on BW.out).mark HL.out HC.out hlt
      have HA := Lib.hid (BW.out.alloc hsz (.cells #[.int .i64 x0, .int .i64 x1] 109))
      have HXa := Lib.hid ((HX.out.on BW.out).alloc (.cells #[.int .i64 x0, .int .i64 x1] 109))
      have d0 := HXa.out.c 0 _ rfl; have d1 := HXa.out.c 1 _ rfl
      go_wp2_with fail
      go_roundw
      case rel => exact ⟨k + 1, hlt, by go_num, HA⟩
      case measure => simp [intOf]; omega
    · obtain rfl : k = 3 := by omega
      go_wp2_with fail
      go_ret
      exact ⟨rfl, HB.out.trans (BW.out.mono HB.out.size)⟩

set_option maxRecDepth 100000 in
set_option maxHeartbeats 4000000 in
theorem spoil_Task (a : Option Addr) (n c base : Nat) (x0 : Int) (x1 : Int) (xs : List Value) (w : World) (ho : w.ownsRow base 74 2 (.slice a n c) n xs) (hc : c ≤ 9223372036854775807) :
    Calls Try.prog 67 #[.slice a n c, .agg #[.int .i64 x0, .int .i64 x1]] w fun e w' => e = .returned (.tuple #[]) ∧ w.grownBy w' (Value.slice a n c).ownBlock := by
  have hx0 : ∀ T, Bxs (w.alloc (.cells #[.int .i64 x0, .int .i64 x1] T)) w.heap.size [.int .i64 x0, .int .i64 x1] := fun T => bxs_new w T _ _ rfl
  have HX := Lib.hid hx0
  have HG : ∀ row, Hid (w.grownBy (w.alloc (.cells #[.int .i64 x0, .int .i64 x1] 74)) row) := fun row => Lib.hid (World.grownBy_alloc w _ row)
  clear hx0
  rcases ho.2 with ⟨hv, -⟩ | ⟨g, cap', cur, hv, -⟩
  · cases hv
    clear ho
    go_enter Try.func67, Try.ntmps67
    go_wp2_with fail
    go_loopw [11] (fun v wr => v = .int .i64 0 ∧ Hid (w.grownBy wr none)) (fun _ _ => 0)
    case atStart => exact ⟨rfl, HG none⟩
    case round =>
      obtain ⟨rfl, G⟩ := hrel
      go_wp2_with fail
      go_end0
      exact ⟨rfl, G.out⟩
  · cases hv
    obtain ⟨f, hrow, -, -, hnc, -⟩ := own_rowAny ho
    have hgw := row_lt hrow
    have HR := Lib.hid (row_on hrow ((Below.refl _ w).alloc (Nat.le_refl _) (.cells #[.int .i64 x0, .int .i64 x1] 74)))
    have hgB : g ≠ w.heap.size := by omega
    clear ho hrow
    go_enter Try.func67, Try.ntmps67
    go_wp2_with fail
    go_loopw [11] (fun v wr => ∃ (k : Nat) (f : Nat → Value), k ≤ c ∧ v = .int .i64 k ∧ Hid (wr.rowIs g 74 (c * 2) f) ∧ Hid (Bxs wr w.heap.size [.int .i64 x0, .int .i64 x1]) ∧ Hid (w.grownBy wr (some g))) (fun v _ => c - (intOf v).toNat)
    case atStart => exact ⟨0, f, Nat.zero_le _, rfl, HR, Lib.hid (HX.out _), HG _⟩
    case round =>
      obtain ⟨k, f, hk, rfl, R, B, G⟩ := hrel
      by_cases hlt : k < c
      · have d0 := B.out.c 0 _ rfl; have d1 := B.out.c 1 _ rfl
        have c0 := World.rowIs.cell R.out (show k * 2 < c * 2 by omega); have c1 := World.rowIs.cell R.out (show k * 2 + 1 < c * 2 by omega)
        have z0 := World.rowIs.frozen R.out (k * 2); have z1 := World.rowIs.frozen R.out (k * 2 + 1)
        have HR' := Lib.hid (row_set (row_set R.out (k * 2) (.int .i64 x0)) (k * 2 + 1) (.int .i64 x1))
        have HB' := Lib.hid (((B.out.other (i := k * 2) hgB (.int .i64 x0)).other (i := k * 2 + 1) hgB (.int .i64 x1)))
        have HG' := Lib.hid (grown_set (grown_set G.out (k * 2) (.int .i64 x0)) (k * 2 + 1) (.int .i64 x1))
        generalize f (k * 2) = f0 at *
        generalize f (k * 2 + 1) = f1 at *
        go_wp2_with fail
        go_roundw
        case rel => exact ⟨k + 1, _, by omega, by go_num, HR', HB', HG'⟩
        case measure => simp [intOf]; omega
      · obtain rfl : k = c := by omega
        go_wp2_with fail
        go_end0
        exact ⟨rfl, G.out⟩

/-- A row with the room behind it full of marks. -/
def RoomTask (w : World) (g C : Nat) (xs mk : List Value) : Prop := ∃ f, w.rowIs g 74 (C * 2) f ∧ ∀ j, j < C * 2 → (xs ++ (mk ++ (mk ++ mk)))[j]? = some (f j)

theorem RoomTask.blk {w w' : World} {g C : Nat} {xs mk : List Value} (h : RoomTask w g C xs mk) (hb : w'.heap[g]? = w.heap[g]?) : RoomTask w' g C xs mk := by
  obtain ⟨f, ⟨cur, hg, r⟩, h2⟩ := h
  exact ⟨f, ⟨cur, by rw [hb]; exact hg, r⟩, h2⟩

theorem RoomTask.lt {w : World} {g C : Nat} {xs mk : List Value} (h : RoomTask w g C xs mk) : g < w.heap.size := by
  obtain ⟨f, h1, -⟩ := h
  exact row_lt h1

theorem RoomTask.on {w w' : World} {g C : Nat} {xs mk : List Value} (h : RoomTask w g C xs mk) (hb : Below w.heap.size w w') : RoomTask w' g C xs mk := h.blk (hb.block g h.lt)

theorem RoomTask.own {w : World} {g C n base : Nat} {xs mk : List Value} (h : RoomTask w g C xs mk) (hx : xs.length = n * 2) (hC : C = n + 3) (hb : base ≤ g) (hm : C ≤ maxLen) : w.ownsRow base 74 2 (.slice (some ⟨g, 0, none⟩) n C) n xs := by
  obtain ⟨f, h1, h2⟩ := h
  refine rowAny_own h1 hx (fun j hj => ?_) hb (by omega) hm
  have := h2 j (by omega)
  rw [List.getElem?_append_left (by omega)] at this
  exact this

theorem fill_Task {xs : List Value} {f : Nat → Value} {p : Nat} (x0 : Int) (x1 : Int) (hp : xs.length = p) (h : ∀ j, j < p → xs[j]? = some (f j)) :
    ∀ j, j < p + 2 → (xs ++ [Value.int .i64 x0, .int .i64 x1])[j]? = some (if j = p + 1 then .int .i64 x1 else if j = p then .int .i64 x0 else f j) := fun j hj => by
  by_cases h0 : j < p
  · rw [List.getElem?_append_left (by omega), h j h0, if_neg (by omega), if_neg (by omega)]
  · rw [List.getElem?_append_right (by omega), hp]
    have hc : j = p ∨ j = p + 1 := by omega
    rcases hc with rfl | rfl
    · rw [if_neg (by omega), if_pos rfl, Nat.sub_self]; rfl
    · rw [if_pos rfl, Nat.add_sub_cancel_left]; rfl

theorem reps_Task (xs mk : List Value) (k : Nat) : xs ++ (List.replicate (k + 1) mk).flatten = (xs ++ (List.replicate k mk).flatten) ++ mk := by
  rw [List.replicate_succ', List.flatten_append, ← List.append_assoc]
  simp

set_option maxRecDepth 100000 in
set_option maxHeartbeats 4000000 in
theorem roomy_Task (a : Option Addr) (n c : Nat) (x0 : Int) (x1 : Int) (xs : List Value) (w : World) (hx : xs.length = n * 2) (hnil : a = none → n = 0 ∧ c = 0) (hcs : ∀ ad, a = some ad → ∀ (j : Nat) (u : Value), xs[j]? = some u → w.cell? (ad.add j) = some u) (hone : ∀ u ∈ xs, u.oneCell' = true) (hn : n ≤ 3518437208832) :
    Calls Try.prog 57 #[.slice a n c, .agg #[.int .i64 x0, .int .i64 x1]] w fun e w' => ∃ g C, C = n + 3 ∧ e = .returned (.slice (some ⟨g, 0, none⟩) n C) ∧ w.heap.size ≤ g ∧ RoomTask w' g C xs [.int .i64 x0, .int .i64 x1] ∧ Below w.heap.size w w' := by
  obtain ⟨i0, hi, hz0, hz1, hz2⟩ := info_parts (show (Try.prog.info? 74).map (fun i => (i.zero, i.size, i.bytes)) = some (some (.agg #[.int .i64 0, .int .i64 0]), 2, 16) by kernel_rfl)
  have HX := Lib.hid (bxs_new w 74 #[.int .i64 x0, .int .i64 x1] [.int .i64 x0, .int .i64 x1] rfl)
  have hB := (Below.refl w.heap.size w).alloc (Nat.le_refl _) (.cells #[.int .i64 x0, .int .i64 x1] 74)
  have HB := Lib.hid hB
  have HCS : Hid (∀ ad, a = some ad → ∀ (j : Nat) (u : Value), xs[j]? = some u → (w.alloc (.cells #[.int .i64 x0, .int .i64 x1] 74)).cell? (ad.add j) = some u) := Lib.hid fun ad h j u hj => by have h1 := hcs ad h j u hj; rw [hB.cell (World.block_lt_of_cell? w _ h1)]; exact h1
  obtain ⟨C, hC⟩ : ∃ C, C = n + 3 := ⟨_, rfl⟩
  have HCn : Hid (((n : Int) + 3) = (C : Int)) := Lib.hid (by omega)
  have hb2 : i0.bytes * C ≤ 281474976710656 := by rw [hz2]; omega
  have hb3 : C ≤ maxLen := by unfold maxLen; omega
  have hsz1 : (w.alloc (.cells #[.int .i64 x0, .int .i64 x1] 74)).heap.size = w.heap.size + 1 := World.size_alloc ..
  have HSZ := Lib.hid hsz1
  have HNIL := Lib.hid hnil; have HONE := Lib.hid hone; have HXL := Lib.hid hx
  have HC := Lib.hid hC
  clear hB hsz1 hnil hcs hone hx hC
  go_enter Try.func57, Try.ntmps57
  go_wp2_with (at_make; refine wpList_make_own _ rfl _ _ _ rfl (w.heap.size + 1) 74 i0 (.agg #[.int .i64 0, .int .i64 0]) 2 Try.underlying70 hi hz0 hz1 _ _ _ C rfl rfl HCn.out hb2 hb3 (by rw [World.size_alloc]; exact Nat.le_refl _) ?_)
  intro w1 o1 g1
  have HG1 := Lib.hid g1
  have hk1 : Below (w.alloc (.cells #[.int .i64 x0, .int .i64 x1] 74)).heap.size (w.alloc (.cells #[.int .i64 x0, .int .i64 x1] 74)) w1 := (Below.refl _ _).grown g1 (Nat.le_refl _) (fun k e => by cases e)
  have HC1 : Hid (∀ ad, a = some ad → ∀ (j : Nat) (u : Value), xs[j]? = some u → w1.cell? (ad.add j) = some u) := Lib.hid fun ad h j u hj => by have h1 := HCS.out ad h j u hj; rw [hk1.cell (World.block_lt_of_cell? _ _ h1)]; exact h1
  have HX1 := Lib.hid (HX.out.on hk1)
  have HB1 := Lib.hid (HB.out.trans (hk1.mono HB.out.size))
  have hs1 := hk1.size
  rw [HSZ.out] at hs1
  have HO1 := Lib.hid o1
  have hfit : 0 + n ≤ C := by have := HC.out; omega
  clear g1 o1 hk1 HX
  go_wp2_with (at_builtin; refine wpList_append_fits_any _ rfl _ _ _ rfl (w.heap.size + 1) 74 i0 2 Try.underlying70 hi hz1 (w.heap.size + 1) 0 C [] rfl HO1.out a n c xs rfl HXL.out HNIL.out HC1.out HONE.out hfit ?_)
  intro w2 o2 g2
  obtain ⟨f, hrow, hf, -, -, -⟩ := own_rowAny o2
  have HR := Lib.hid hrow
  have HF : Hid (∀ j, j < (n + 0) * 2 → (xs ++ (List.replicate 0 ([Value.int .i64 x0, .int .i64 x1] : List Value)).flatten)[j]? = some (f j)) := Lib.hid fun j hj => by
    rw [List.replicate_zero, List.flatten_nil, List.append_nil]
    exact hf j hj
  have HX2 := Lib.hid (HX1.out.grown g2 (fun e => by have := Option.some.inj e; omega))
  have HB2 := Lib.hid (HB1.out.grown g2 HB1.out.size (fun k e => by cases e; omega))
  clear o2 g2 hrow hf HC1 HG1 HO1 HCS
  go_wp2_with fail
  go_loopw [13] (fun v wr => ∃ (k : Nat) (f : Nat → Value), k ≤ 3 ∧ v = .int .i64 k ∧ Hid (wr.rowIs (w.heap.size + 1) 74 (C * 2) f) ∧ Hid (∀ j, j < (n + k) * 2 → (xs ++ (List.replicate k ([Value.int .i64 x0, .int .i64 x1] : List Value)).flatten)[j]? = some (f j)) ∧ Hid (Bxs wr w.heap.size [.int .i64 x0, .int .i64 x1]) ∧ Hid (Below w.heap.size w wr)) (fun v _ => 3 - (intOf v).toNat)
  case atStart => exact ⟨0, f, Nat.zero_le _, rfl, HR, HF, HX2, HB2⟩
  case round =>
    obtain ⟨k, f, hk, rfl, R, F, B, BW⟩ := hrel
    have hGB : w.heap.size + 1 ≠ w.heap.size := by omega
    by_cases hlt : k < 3
    · have hp : n + k < C := by have := HC.out; omega
      have hpC : (n : Int) + (k : Int) < (C : Int) := by omega
      have hnC : (n : Int) + 3 ≤ (C : Int) := by have := HC.out; omega
      have hn3 : ((n : Int) + 3).toNat = n + 3 := by omega
      have hnk : ((n : Int) + (k : Int)).toNat = n + k := by omega
      have hnk3 : (n : Int) + (k : Int) < (n : Int) + 3 := by omega
      have d0 := B.out.c 0 _ rfl; have d1 := B.out.c 1 _ rfl
      have c0 := World.rowIs.cell R.out (show (n + k) * 2 < C * 2 by omega); have c1 := World.rowIs.cell R.out (show (n + k) * 2 + 1 < C * 2 by omega)
      have z0 := World.rowIs.frozen R.out ((n + k) * 2); have z1 := World.rowIs.frozen R.out ((n + k) * 2 + 1)
      have HB' := Lib.hid (((B.out.other (i := (n + k) * 2) hGB (.int .i64 x0)).other (i := (n + k) * 2 + 1) hGB (.int .i64 x1)).drew)
      have HG' := Lib.hid (((BW.out.setCell (p := ⟨w.heap.size + 1, (n + k) * 2, none⟩) (Nat.le_succ _) (.int .i64 x0)).setCell (p := ⟨w.heap.size + 1, (n + k) * 2 + 1, none⟩) (Nat.le_succ _) (.int .i64 x1)).drew)
      have HF' := Lib.hid (fill_Task (f := f) x0 x1 (xs := xs ++ (List.replicate k ([Value.int .i64 x0, .int .i64 x1] : List Value)).flatten) (p := (n + k) * 2) (by rw [List.length_append, HXL.out, List.length_flatten, List.map_replicate, List.sum_replicate_nat]; show n * 2 + k * 2 = _; omega) F.out)
      generalize f ((n + k) * 2) = f0 at *
      generalize f ((n + k) * 2 + 1) = f1 at *
      go_wp2_with fail
      go_region
      all_goals
        go_wp2_with fail
        go_roundw
        case rel => exact ⟨k + 1, _, by omega, by go_num, Lib.hid (row_on (row_set (row_set R.out ((n + k) * 2) (.int .i64 x0)) ((n + k) * 2 + 1) (.int .i64 x1)) (Below.refl _ _).drew), Lib.hid (fun j hj => by rw [reps_Task]; exact HF'.out j (by omega)), HB', HG'⟩
        case measure => simp [intOf]; omega
    · obtain rfl : k = 3 := by omega
      go_wp2_with fail
      go_ret
      exact ⟨_, C, HC.out, rfl, Nat.le_succ _, ⟨f, R.out, fun j hj => by have := F.out j (by have := HC.out; omega); exact this⟩, BW.out⟩

theorem RoomTask.mark {w : World} {g C n : Nat} {xs : List Value} {x0 : Int} {x1 : Int} (h : RoomTask w g C xs [.int .i64 x0, .int .i64 x1]) (hx : xs.length = n * 2) (hC : C = n + 3) {k : Nat} (hk : k < 3) :
    w.cell? ⟨g, n * 2 + k * 2, none⟩ = some (.int .i64 x0) ∧ w.cell? ⟨g, n * 2 + k * 2 + 1, none⟩ = some (.int .i64 x1) := by
  obtain ⟨f, h1, h2⟩ := h
  have key : ∀ i, i < 2 → w.cell? ⟨g, n * 2 + (k * 2 + i), none⟩ = ([Value.int .i64 x0, .int .i64 x1] : List Value)[i]? := fun i hi => by
    rw [World.rowIs.cell h1 (show n * 2 + (k * 2 + i) < C * 2 by omega), ← h2 _ (by omega), List.getElem?_append_right (by omega), hx, Nat.add_sub_cancel_left]
    rcases (by omega : k = 0 ∨ k = 1 ∨ k = 2) with rfl | rfl | rfl
    · rw [List.getElem?_append_left (by show 0 * 2 + i < 2; omega), Nat.zero_mul, Nat.zero_add]
    · rw [List.getElem?_append_right (by show 2 ≤ 1 * 2 + i; omega), List.getElem?_append_left (by show 1 * 2 + i - 2 < 2; omega)]
      show ([Value.int .i64 x0, .int .i64 x1] : List Value)[1 * 2 + i - 2]? = _
      rw [show 1 * 2 + i - 2 = i from by omega]
    · rw [List.getElem?_append_right (by show 2 ≤ 2 * 2 + i; omega), List.getElem?_append_right (by show 2 ≤ 2 * 2 + i - 2; omega)]
      show ([Value.int .i64 x0, .int .i64 x1] : List Value)[2 * 2 + i - 2 - 2]? = _
      rw [show 2 * 2 + i - 2 - 2 = i from by omega]
  refine ⟨?_, ?_⟩
  · have := key 0 (by decide)
    rw [← Nat.add_assoc] at this
    exact this
  · have := key 1 (by decide)
    rw [← Nat.add_assoc] at this
    exact this

set_option maxRecDepth 100000 in
set_option maxHeartbeats 4000000 in
theorem marked_Task (g n C : Nat) (x0 : Int) (x1 : Int) (xs : List Value) (w : World) (hR : RoomTask w g C xs [.int .i64 x0, .int .i64 x1]) (hl : xs.length = n * 2) (hC : C = n + 3) (hn : n ≤ 3518437208832) :
    Calls Try.prog 62 #[.slice (some ⟨g, 0, none⟩) n C, .agg #[.int .i64 x0, .int .i64 x1]] w fun e w' => e = .returned (.bool true) ∧ Below w.heap.size w w' := by
  have HX := Lib.hid (bxs_new w 74 #[.int .i64 x0, .int .i64 x1] [.int .i64 x0, .int .i64 x1] rfl)
  have hB := (Below.refl w.heap.size w).alloc (Nat.le_refl _) (.cells #[.int .i64 x0, .int .i64 x1] 74)
  have HB := Lib.hid hB
  have HR := Lib.hid (hR.on hB)
  have HL := Lib.hid hl; have HC := Lib.hid hC
  have hne : ¬ C = n := by omega
  have hCn : C - n = 3 := by omega
  have hle : (n : Int) ≤ (C : Int) := by omega
  have hC2 : C ≤ 3518437208835 := by omega
  clear hR hB hl hC
  go_enter Try.func62, Try.ntmps62
  go_wp2_with fail
  go_loopw [14] (fun v wr => ∃ k : Nat, k ≤ 3 ∧ v = .int .i64 k ∧ Hid (Below (w.alloc (.cells #[.int .i64 x0, .int .i64 x1] 74)).heap.size (w.alloc (.cells #[.int .i64 x0, .int .i64 x1] 74)) wr)) (fun v _ => 3 - (intOf v).toNat)
  case atStart => exact ⟨0, Nat.zero_le _, rfl, Lib.hid (Below.refl _ _)⟩
  case round =>
    obtain ⟨k, hk, rfl, BW⟩ := hrel
    have hsz := BW.out.size
    by_cases hlt : k < 3
    · obtain ⟨q0, q1⟩ := (HR.out.on BW.out).mark HL.out HC.out hlt
      have HA := Lib.hid (BW.out.alloc hsz (.cells #[.int .i64 x0, .int .i64 x1] 74))
      have HXa := Lib.hid ((HX.out.on BW.out).alloc (.cells #[.int .i64 x0, .int .i64 x1] 74))
      have d0 := HXa.out.c 0 _ rfl; have d1 := HXa.out.c 1 _ rfl
      go_wp2_with fail
      go_roundw
      case rel => exact ⟨k + 1, hlt, by go_num, HA⟩
      case measure => simp [intOf]; omega
    · obtain rfl : k = 3 := by omega
      go_wp2_with fail
      go_ret
      exact ⟨rfl, HB.out.trans (BW.out.mono HB.out.size)⟩

end Go.Proofs.Ytenkdpogdfcbgaa
