import Derived.Test.YtnbdceigenndfaaLoR
import Derived.Test.YtnbdceigenndfaaLzW5
import Derived.Test.YtnbdceigenndfaaTreeW3
import Derived.OwnWalk
import Derived.IntWalk
import Derived.Deep.OwnRows
import Derived.Laws.OwnMore
import Derived.Laws.AppendOwnNone
import Derived.ArgAppend
import Derived.Lib.LazyBuf
import Derived.Lib.SliceRun
import Derived.Lib.AppendZerosOnto
/- Walks of roomy, marked, spoil, slices.Clone, slices.Equal at numbers, texts, tokens, steps. -/
namespace Go.Proofs.Ytnbdceigenndfaa
open Go.RowKit

theorem lo_rowAny {w : World} {base g n cap : Nat} {e : TypeId} {size : Nat} {xs : List Value} (h : w.ownsRow base e size (.slice (some ⟨g, 0, none⟩) n cap) n xs) : ∃ f, w.rowIs g e (cap * size) f ∧ (∀ j, j < n * size → xs[j]? = some (f j)) ∧ base ≤ g ∧ n ≤ cap ∧ cap ≤ maxLen := by
  rcases h.2 with ⟨h', _⟩ | ⟨g', cap', cur, h', hb, hg, hnc, hcm, hsz, htake⟩
  · cases h'
  · cases h'
    have hmul : n * size ≤ cap * size := Nat.mul_le_mul_right _ hnc
    refine ⟨fun j => cur.getD j default, ⟨cur, hg, hsz, fun j hj => ?_⟩, fun j hj => ?_, hb, hnc, hcm⟩
    · simp [Array.getD, hsz, hj]
    · have hj2 : j < cur.size := by rw [hsz]; omega
      rw [← htake, List.getElem?_take, if_pos hj]
      simp [Array.getD, hj2]
theorem lo_rowOwn {w : World} {base g n cap : Nat} {e : TypeId} {size : Nat} {xs : List Value} {f : Nat → Value} (h : w.rowIs g e (cap * size) f) (hx : xs.length = n * size) (hf : ∀ j, j < n * size → xs[j]? = some (f j)) (hb : base ≤ g) (hnc : n ≤ cap) (hcm : cap ≤ maxLen) : w.ownsRow base e size (.slice (some ⟨g, 0, none⟩) n cap) n xs := by
  obtain ⟨cur, hg, hsz, hc⟩ := h
  have hmul : n * size ≤ cap * size := Nat.mul_le_mul_right _ hnc
  refine ⟨hx, Or.inr ⟨g, cap, cur, rfl, hb, hg, hnc, hcm, hsz, ?_⟩⟩
  apply List.ext_getElem?
  intro j
  by_cases hj : j < n * size
  · rw [List.getElem?_take, if_pos hj, hf j hj, Array.getElem?_toList, hc j (by omega)]
  · rw [List.getElem?_eq_none (by rw [List.length_take]; omega), List.getElem?_eq_none (by omega)]
theorem lo_rowLt {w : World} {g N : Nat} {e : TypeId} {f : Nat → Value} (h : w.rowIs g e N f) : g < w.heap.size := by
  obtain ⟨cur, hg, -⟩ := h
  exact (Array.getElem?_eq_some_iff.1 hg).1
theorem lo_rowSet {w : World} {g N : Nat} {e : TypeId} {f : Nat → Value} (h : w.rowIs g e N f) (i : Nat) (u : Value) : (w.setCell ⟨g, i, none⟩ u).rowIs g e N (fun j => if j = i then u else f j) := World.rowIs.set h i u
theorem lo_rowOn {w w' : World} {g N : Nat} {e : TypeId} {f : Nat → Value} (h : w.rowIs g e N f) (hb : Below w.heap.size w w') : w'.rowIs g e N f := by
  have hl := lo_rowLt h
  obtain ⟨cur, hg, r⟩ := h
  exact ⟨cur, by rw [hb.block g hl]; exact hg, r⟩
theorem lo_grownSet {w W : World} {g : Nat} (h : w.grownBy W (some g)) (i : Nat) (u : Value) : w.grownBy (W.setCell ⟨g, i, none⟩ u) (some g) :=
  ⟨h.os, h.tape, h.output, by rw [World.size_setCell]; exact h.size, fun k hk hne => by
    rw [heap_setCell_other W ⟨g, i, none⟩ k u (fun e => hne (by rw [e]))]
    exact h.block k hk hne⟩
theorem lo_grownBelow {w W V : World} {row : Option Nat} (h : w.grownBy W row) (k : Below W.heap.size W V) : w.grownBy V row :=
  ⟨k.os.trans h.os, k.tape.trans h.tape, k.output.trans h.output, Nat.le_trans h.size k.size, fun j hj hne => (k.block j (Nat.lt_of_lt_of_le hj h.size)).trans (h.block j hj hne)⟩

theorem Try.infoStrL : (Try.prog.info? 9).map (fun i => (i.zero, i.size, i.bytes)) = some (some (.string ⟨#[]⟩), 1, 16) := by kernel_rfl
theorem stv_get {l : List (Bool × Nat)} {j : Nat} {t : Bool × Nat} (h : l[j]? = some t) : (stv l)[j * 2]? = some (.bool t.1) ∧ (stv l)[j * 2 + 1]? = some (.int .i64 (t.2 : Nat)) := by
  induction l generalizing j with
  | nil => simp at h
  | cons x l ih =>
    obtain ⟨b, s⟩ := x
    cases j with
    | zero =>
      obtain rfl := Option.some.inj h
      exact ⟨rfl, rfl⟩
    | succ j =>
      obtain ⟨h1, h2⟩ := ih h
      rw [show (j + 1) * 2 + 1 = j * 2 + 1 + 2 by omega, show (j + 1) * 2 = j * 2 + 2 by omega]
      exact ⟨h1, h2⟩

/-- A row of one cell each with three marks behind it. -/
def RoomG (w : World) (T : TypeId) (g C : Nat) (xs : List Value) (u : Value) : Prop := ∃ f, w.rowIs g T (C * 1) f ∧ ∀ j, j < C * 1 → (xs ++ List.replicate 3 u)[j]? = some (f j)
theorem RoomG.lt {w : World} {T : TypeId} {g C : Nat} {xs : List Value} {u : Value} (h : RoomG w T g C xs u) : g < w.heap.size := by
  obtain ⟨f, h1, -⟩ := h
  exact lo_rowLt h1
theorem RoomG.on {w w' : World} {T : TypeId} {g C : Nat} {xs : List Value} {u : Value} (h : RoomG w T g C xs u) (hb : Below w.heap.size w w') : RoomG w' T g C xs u := by
  obtain ⟨f, h1, h2⟩ := h
  exact ⟨f, lo_rowOn h1 hb, h2⟩
theorem RoomG.grown {w w' : World} {T : TypeId} {g C : Nat} {xs : List Value} {u : Value} {row : Option Nat} (h : RoomG w T g C xs u) (hg : w.grownBy w' row) (hr : row ≠ some g) : RoomG w' T g C xs u := by
  have hl := h.lt
  obtain ⟨f, ⟨cur, hh, r⟩, h2⟩ := h
  exact ⟨f, ⟨cur, by rw [hg.block g hl (fun e => hr e.symm)]; exact hh, r⟩, h2⟩
theorem RoomG.own {w : World} {T : TypeId} {g C n base : Nat} {xs : List Value} {u : Value} (h : RoomG w T g C xs u) (hx : xs.length = n * 1) (hC : C = n + 3) (hb : base ≤ g) (hm : C ≤ maxLen) : w.ownsRow base T 1 (.slice (some ⟨g, 0, none⟩) n C) n xs := by
  obtain ⟨f, h1, h2⟩ := h
  refine lo_rowOwn h1 hx (fun j hj => ?_) hb (by omega) hm
  have := h2 j (by omega)
  rw [List.getElem?_append_left (by omega)] at this
  exact this
theorem RoomG.mark {w : World} {T : TypeId} {g C n : Nat} {xs : List Value} {u : Value} (h : RoomG w T g C xs u) (hx : xs.length = n * 1) (hC : C = n + 3) {k : Nat} (hk : k < 3) : w.cell? ⟨g, n + k, none⟩ = some u := by
  obtain ⟨f, h1, h2⟩ := h
  rw [World.rowIs.cell h1 (show n + k < C * 1 by omega), ← h2 _ (by omega), List.getElem?_append_right (by omega), List.getElem?_replicate, if_pos (by omega)]
theorem fill_G {xs : List Value} {f : Nat → Value} {n k : Nat} {u : Value} (hx : xs.length = n * 1) (h : ∀ j, j < n + k → (xs ++ List.replicate k u)[j]? = some (f j)) :
    ∀ j, j < n + (k + 1) → (xs ++ List.replicate (k + 1) u)[j]? = some (if j = n + k then u else f j) := fun j hj => by
  rw [List.replicate_succ', ← List.append_assoc]
  by_cases h0 : j < n + k
  · rw [List.getElem?_append_left (by rw [List.length_append, List.length_replicate]; omega), h j h0, if_neg (by omega)]
  · rw [List.getElem?_append_right (by rw [List.length_append, List.length_replicate]; omega), List.length_append, List.length_replicate, if_pos (by omega)]
    have : j - (xs.length + k) = 0 := by omega
    rw [this]
    rfl

set_option maxRecDepth 100000 in
set_option maxHeartbeats 4000000 in
theorem spoil_i (a : Option Addr) (n c base : Nat) (x : Int) (xs : List Value) (w : World) (ho : w.ownsRow base 3 1 (.slice a n c) n xs) (hc : c ≤ 9223372036854775807) :
    Calls Try.prog 21 #[.slice a n c, .int .i64 x] w fun e w' => e = .returned (.tuple #[]) ∧ w.grownBy w' (Value.slice a n c).ownBlock := by
  have HG0 : ∀ row, Hid (w.grownBy w row) := fun row => Lib.hid (lo_grownBelow ⟨rfl, rfl, rfl, Nat.le_refl _, fun _ _ _ => rfl⟩ (Below.refl _ _))
  rcases ho.2 with ⟨hv, -⟩ | ⟨g, cap', cur, hv, -⟩
  · cases hv
    clear ho
    go_enter Try.func21, Try.ntmps21
    go_wp2_with fail
    go_loopw [11] (fun v wr => v = .int .i64 0 ∧ Hid (w.grownBy wr none)) (fun _ _ => 0)
    case atStart => exact ⟨rfl, HG0 none⟩
    case round =>
      obtain ⟨rfl, G⟩ := hrel
      go_wp2_with fail
      go_end0
      exact ⟨rfl, G.out⟩
  · cases hv
    obtain ⟨f, hrow, -, -, hnc, -⟩ := lo_rowAny ho
    have HR := Lib.hid hrow
    clear ho hrow
    go_enter Try.func21, Try.ntmps21
    go_wp2_with fail
    go_loopw [11] (fun v wr => ∃ (k : Nat) (f : Nat → Value), k ≤ c ∧ v = .int .i64 k ∧ Hid (wr.rowIs g 3 (c * 1) f) ∧ Hid (w.grownBy wr (some g))) (fun v _ => c - (intOf v).toNat)
    case atStart => exact ⟨0, f, Nat.zero_le _, rfl, HR, HG0 _⟩
    case round =>
      obtain ⟨k, f, hk, rfl, R, G⟩ := hrel
      by_cases hlt : k < c
      · have c0 := World.rowIs.cell R.out (show k < c * 1 by omega)
        have z0 := World.rowIs.frozen R.out k
        have HR' := Lib.hid (lo_rowSet R.out k (.int .i64 x))
        have HG' := Lib.hid (lo_grownSet G.out k (.int .i64 x))
        generalize f k = f0 at *
        go_wp2_with fail
        go_roundw
        case rel => exact ⟨k + 1, _, by omega, by go_num, HR', HG'⟩
        case measure => simp [intOf]; omega
      · obtain rfl : k = c := by omega
        go_wp2_with fail
        go_end0
        exact ⟨rfl, G.out⟩

set_option maxRecDepth 100000 in
set_option maxHeartbeats 4000000 in
theorem roomy_i (a : Option Addr) (n c : Nat) (x : Int) (xs : List Value) (w : World) (hx : xs.length = n * 1) (hnil : a = none → n = 0 ∧ c = 0) (hcs : ∀ ad, a = some ad → ∀ (j : Nat) (u : Value), xs[j]? = some u → w.cell? (ad.add j) = some u) (hone : ∀ u ∈ xs, u.oneCell' = true) (hn : n * 8 ≤ 140737488351232) :
    Calls Try.prog 6 #[.slice a n c, .int .i64 x] w fun e w' => ∃ g C, C = n + 3 ∧ e = .returned (.slice (some ⟨g, 0, none⟩) n C) ∧ w.heap.size ≤ g ∧ RoomG w' 3 g C xs (.int .i64 x) ∧ Below w.heap.size w w' := by
  obtain ⟨i0, hi, hz0, hz1, hz2⟩ := info_parts Try.infoInt
  obtain ⟨C, hC⟩ : ∃ C, C = n + 3 := ⟨_, rfl⟩
  have HCn : Hid (((n : Int) + 3) = (C : Int)) := Lib.hid (by omega)
  have hb2 : i0.bytes * C ≤ 281474976710656 := by rw [hz2]; omega
  have hb3 : C ≤ maxLen := by unfold maxLen; omega
  have HNIL := Lib.hid hnil; have HONE := Lib.hid hone; have HXL := Lib.hid hx
  have HC := Lib.hid hC; have HCS := Lib.hid hcs
  clear hnil hone hx hC hcs
  go_enter Try.func6, Try.ntmps6
  go_wp2_with (at_make; refine wpList_make_own _ rfl _ _ _ rfl w.heap.size 3 i0 (.int .i64 0) 1 Try.underlying22 hi hz0 hz1 _ _ _ C rfl rfl HCn.out hb2 hb3 (Nat.le_refl _) ?_)
  intro w1 o1 g1
  have hk1 : Below w.heap.size w w1 := (Below.refl _ _).grown g1 (Nat.le_refl _) (fun k e => by cases e)
  have HC1 : Hid (∀ ad, a = some ad → ∀ (j : Nat) (u : Value), xs[j]? = some u → w1.cell? (ad.add j) = some u) := Lib.hid fun ad h j u hj => by have h1 := HCS.out ad h j u hj; rw [hk1.cell (World.block_lt_of_cell? _ _ h1)]; exact h1
  have HB1 := Lib.hid hk1
  have HO1 := Lib.hid o1
  have hfit : 0 + n ≤ C := by have := HC.out; omega
  clear g1 o1 hk1
  go_wp2_with (at_builtin; refine wpList_append_fits_any _ rfl _ _ _ rfl w.heap.size 3 i0 1 Try.underlying22 hi hz1 w.heap.size 0 C [] rfl HO1.out a n c xs rfl HXL.out HNIL.out HC1.out HONE.out hfit ?_)
  intro w2 o2 g2
  obtain ⟨f, hrow, hf, -, -, -⟩ := lo_rowAny o2
  have HR := Lib.hid hrow
  have HF : Hid (∀ j, j < n + 0 → (xs ++ List.replicate 0 (.int .i64 x : Value))[j]? = some (f j)) := Lib.hid fun j hj => by
    rw [List.replicate_zero, List.append_nil]
    exact hf j (by omega)
  have HB2 := Lib.hid (HB1.out.grown g2 HB1.out.size (fun k e => by cases e; omega))
  clear o2 g2 hrow hf HC1 HO1 HCS
  go_wp2_with fail
  go_loopw [13] (fun v wr => ∃ (k : Nat) (f : Nat → Value), k ≤ 3 ∧ v = .int .i64 k ∧ Hid (wr.rowIs w.heap.size 3 (C * 1) f) ∧ Hid (∀ j, j < n + k → (xs ++ List.replicate k (.int .i64 x : Value))[j]? = some (f j)) ∧ Hid (Below w.heap.size w wr)) (fun v _ => 3 - (intOf v).toNat)
  case atStart => exact ⟨0, f, Nat.zero_le _, rfl, HR, HF, HB2⟩
  case round =>
    obtain ⟨k, f, hk, rfl, R, F, BW⟩ := hrel
    by_cases hlt : k < 3
    · have hp : n + k < C := by have := HC.out; omega
      have hpC : (n : Int) + (k : Int) < (C : Int) := by omega
      have hnC : (n : Int) + 3 ≤ (C : Int) := by have := HC.out; omega
      have hn3 : ((n : Int) + 3).toNat = n + 3 := by omega
      have hnk : ((n : Int) + (k : Int)).toNat = n + k := by omega
      have hnk3 : (n : Int) + (k : Int) < (n : Int) + 3 := by omega
      have c0 := World.rowIs.cell R.out (show n + k < C * 1 by omega)
      have z0 := World.rowIs.frozen R.out (n + k)
      have HG' := Lib.hid (BW.out.setCell (p := ⟨w.heap.size, n + k, none⟩) (Nat.le_refl _) (.int .i64 x))
      have HR' := Lib.hid (lo_rowSet R.out (n + k) (.int .i64 x))
      have HF' := Lib.hid (fill_G HXL.out F.out)
      generalize f (n + k) = f0 at *
      go_wp2_with fail
      go_roundw
      case rel => exact ⟨k + 1, _, by omega, by go_num, HR', HF', HG'⟩
      case measure => simp [intOf]; omega
    · obtain rfl : k = 3 := by omega
      go_wp2_with fail
      go_ret
      exact ⟨_, C, HC.out, rfl, Nat.le_refl _, ⟨f, R.out, fun j hj => by have := F.out j (by have := HC.out; omega); exact this⟩, BW.out⟩

set_option maxRecDepth 100000 in
set_option maxHeartbeats 4000000 in
theorem marked_i (g C n : Nat) (x : Int) (xs : List Value) (w : World) (hR : RoomG w 3 g C xs (.int .i64 x)) (hx : xs.length = n * 1) (hC : C = n + 3) :
    Calls Try.prog 14 #[.slice (some ⟨g, 0, none⟩) n C, .int .i64 x] w fun e w' => e = .returned (.bool true) ∧ Below w.heap.size w w' := by
  have HR := Lib.hid hR; have HX := Lib.hid hx; have HC := Lib.hid hC
  have hnC : (n : Int) ≤ (C : Int) := by omega
  have hnC2 : n ≤ C := by omega
  have hcn : C - n = 3 := by omega
  have hcne : ¬ C = n := by omega
  clear hR hx hC
  go_enter Try.func14, Try.ntmps14
  go_wp2_with fail
  go_loopw [14] (fun v wr => ∃ k : Nat, k ≤ 3 ∧ v = .int .i64 k ∧ Hid (Below w.heap.size w wr)) (fun v _ => 3 - (intOf v).toNat)
  case atStart => exact ⟨0, Nat.zero_le _, rfl, Lib.hid (Below.refl _ _)⟩
  case round =>
    obtain ⟨k, hk, rfl, B⟩ := hrel
    by_cases hlt : k < 3
    · have c0 := (HR.out.on B.out).mark HX.out HC.out hlt
      go_wp2_with fail
      go_roundw
      case rel => exact ⟨k + 1, hlt, by go_num, B⟩
      case measure => simp [intOf]; omega
    · obtain rfl : k = 3 := by omega
      go_wp2_with fail
      go_ret
      exact ⟨rfl, B.out⟩

set_option maxRecDepth 100000 in
set_option maxHeartbeats 4000000 in
theorem spoil_s (a : Option Addr) (n c base : Nat) (x : ByteArray) (xs : List Value) (w : World) (ho : w.ownsRow base 9 1 (.slice a n c) n xs) (hc : c ≤ 9223372036854775807) :
    Calls Try.prog 22 #[.slice a n c, .string x] w fun e w' => e = .returned (.tuple #[]) ∧ w.grownBy w' (Value.slice a n c).ownBlock := by
  have HG0 : ∀ row, Hid (w.grownBy w row) := fun row => Lib.hid (lo_grownBelow ⟨rfl, rfl, rfl, Nat.le_refl _, fun _ _ _ => rfl⟩ (Below.refl _ _))
  rcases ho.2 with ⟨hv, -⟩ | ⟨g, cap', cur, hv, -⟩
  · cases hv
    clear ho
    go_enter Try.func22, Try.ntmps22
    go_wp2_with fail
    go_loopw [11] (fun v wr => v = .int .i64 0 ∧ Hid (w.grownBy wr none)) (fun _ _ => 0)
    case atStart => exact ⟨rfl, HG0 none⟩
    case round =>
      obtain ⟨rfl, G⟩ := hrel
      go_wp2_with fail
      go_end0
      exact ⟨rfl, G.out⟩
  · cases hv
    obtain ⟨f, hrow, -, -, hnc, -⟩ := lo_rowAny ho
    have HR := Lib.hid hrow
    clear ho hrow
    go_enter Try.func22, Try.ntmps22
    go_wp2_with fail
    go_loopw [11] (fun v wr => ∃ (k : Nat) (f : Nat → Value), k ≤ c ∧ v = .int .i64 k ∧ Hid (wr.rowIs g 9 (c * 1) f) ∧ Hid (w.grownBy wr (some g))) (fun v _ => c - (intOf v).toNat)
    case atStart => exact ⟨0, f, Nat.zero_le _, rfl, HR, HG0 _⟩
    case round =>
      obtain ⟨k, f, hk, rfl, R, G⟩ := hrel
      by_cases hlt : k < c
      · have c0 := World.rowIs.cell R.out (show k < c * 1 by omega)
        have z0 := World.rowIs.frozen R.out k
        have HR' := Lib.hid (lo_rowSet R.out k (.string x))
        have HG' := Lib.hid (lo_grownSet G.out k (.string x))
        generalize f k = f0 at *
        go_wp2_with fail
        go_roundw
        case rel => exact ⟨k + 1, _, by omega, by go_num, HR', HG'⟩
        case measure => simp [intOf]; omega
      · obtain rfl : k = c := by omega
        go_wp2_with fail
        go_end0
        exact ⟨rfl, G.out⟩

set_option maxRecDepth 100000 in
set_option maxHeartbeats 4000000 in
theorem roomy_s (a : Option Addr) (n c : Nat) (x : ByteArray) (xs : List Value) (w : World) (hx : xs.length = n * 1) (hnil : a = none → n = 0 ∧ c = 0) (hcs : ∀ ad, a = some ad → ∀ (j : Nat) (u : Value), xs[j]? = some u → w.cell? (ad.add j) = some u) (hone : ∀ u ∈ xs, u.oneCell' = true) (hn : n * 16 ≤ 140737488351232) :
    Calls Try.prog 7 #[.slice a n c, .string x] w fun e w' => ∃ g C, C = n + 3 ∧ e = .returned (.slice (some ⟨g, 0, none⟩) n C) ∧ w.heap.size ≤ g ∧ RoomG w' 9 g C xs (.string x) ∧ Below w.heap.size w w' := by
  obtain ⟨i0, hi, hz0, hz1, hz2⟩ := info_parts Try.infoStrL
  obtain ⟨C, hC⟩ : ∃ C, C = n + 3 := ⟨_, rfl⟩
  have HCn : Hid (((n : Int) + 3) = (C : Int)) := Lib.hid (by omega)
  have hb2 : i0.bytes * C ≤ 281474976710656 := by rw [hz2]; omega
  have hb3 : C ≤ maxLen := by unfold maxLen; omega
  have HNIL := Lib.hid hnil; have HONE := Lib.hid hone; have HXL := Lib.hid hx
  have HC := Lib.hid hC; have HCS := Lib.hid hcs
  clear hnil hone hx hC hcs
  go_enter Try.func7, Try.ntmps7
  go_wp2_with (at_make; refine wpList_make_own _ rfl _ _ _ rfl w.heap.size 9 i0 (.string ⟨#[]⟩) 1 Try.underlying23 hi hz0 hz1 _ _ _ C rfl rfl HCn.out hb2 hb3 (Nat.le_refl _) ?_)
  intro w1 o1 g1
  have hk1 : Below w.heap.size w w1 := (Below.refl _ _).grown g1 (Nat.le_refl _) (fun k e => by cases e)
  have HC1 : Hid (∀ ad, a = some ad → ∀ (j : Nat) (u : Value), xs[j]? = some u → w1.cell? (ad.add j) = some u) := Lib.hid fun ad h j u hj => by have h1 := HCS.out ad h j u hj; rw [hk1.cell (World.block_lt_of_cell? _ _ h1)]; exact h1
  have HB1 := Lib.hid hk1
  have HO1 := Lib.hid o1
  have hfit : 0 + n ≤ C := by have := HC.out; omega
  clear g1 o1 hk1
  go_wp2_with (at_builtin; refine wpList_append_fits_any _ rfl _ _ _ rfl w.heap.size 9 i0 1 Try.underlying23 hi hz1 w.heap.size 0 C [] rfl HO1.out a n c xs rfl HXL.out HNIL.out HC1.out HONE.out hfit ?_)
  intro w2 o2 g2
  obtain ⟨f, hrow, hf, -, -, -⟩ := lo_rowAny o2
  have HR := Lib.hid hrow
  have HF : Hid (∀ j, j < n + 0 → (xs ++ List.replicate 0 (.string x : Value))[j]? = some (f j)) := Lib.hid fun j hj => by
    rw [List.replicate_zero, List.append_nil]
    exact hf j (by omega)
  have HB2 := Lib.hid (HB1.out.grown g2 HB1.out.size (fun k e => by cases e; omega))
  clear o2 g2 hrow hf HC1 HO1 HCS
  go_wp2_with fail
  go_loopw [13] (fun v wr => ∃ (k : Nat) (f : Nat → Value), k ≤ 3 ∧ v = .int .i64 k ∧ Hid (wr.rowIs w.heap.size 9 (C * 1) f) ∧ Hid (∀ j, j < n + k → (xs ++ List.replicate k (.string x : Value))[j]? = some (f j)) ∧ Hid (Below w.heap.size w wr)) (fun v _ => 3 - (intOf v).toNat)
  case atStart => exact ⟨0, f, Nat.zero_le _, rfl, HR, HF, HB2⟩
  case round =>
    obtain ⟨k, f, hk, rfl, R, F, BW⟩ := hrel
    by_cases hlt : k < 3
    · have hp : n + k < C := by have := HC.out; omega
      have hpC : (n : Int) + (k : Int) < (C : Int) := by omega
      have hnC : (n : Int) + 3 ≤ (C : Int) := by have := HC.out; omega
      have hn3 : ((n : Int) + 3).toNat = n + 3 := by omega
      have hnk : ((n : Int) + (k : Int)).toNat = n + k := by omega
      have hnk3 : (n : Int) + (k : Int) < (n : Int) + 3 := by omega
      have c0 := World.rowIs.cell R.out (show n + k < C * 1 by omega)
      have z0 := World.rowIs.frozen R.out (n + k)
      have HG' := Lib.hid (BW.out.setCell (p := ⟨w.heap.size, n + k, none⟩) (Nat.le_refl _) (.string x))
      have HR' := Lib.hid (lo_rowSet R.out (n + k) (.string x))
      have HF' := Lib.hid (fill_G HXL.out F.out)
      generalize f (n + k) = f0 at *
      go_wp2_with fail
      go_roundw
      case rel => exact ⟨k + 1, _, by omega, by go_num, HR', HF', HG'⟩
      case measure => simp [intOf]; omega
    · obtain rfl : k = 3 := by omega
      go_wp2_with fail
      go_ret
      exact ⟨_, C, HC.out, rfl, Nat.le_refl _, ⟨f, R.out, fun j hj => by have := F.out j (by have := HC.out; omega); exact this⟩, BW.out⟩

set_option maxRecDepth 100000 in
set_option maxHeartbeats 4000000 in
theorem marked_s (g C n : Nat) (x : ByteArray) (xs : List Value) (w : World) (hR : RoomG w 9 g C xs (.string x)) (hx : xs.length = n * 1) (hC : C = n + 3) :
    Calls Try.prog 16 #[.slice (some ⟨g, 0, none⟩) n C, .string x] w fun e w' => e = .returned (.bool true) ∧ Below w.heap.size w w' := by
  have HR := Lib.hid hR; have HX := Lib.hid hx; have HC := Lib.hid hC
  have hnC : (n : Int) ≤ (C : Int) := by omega
  have hnC2 : n ≤ C := by omega
  have hcn : C - n = 3 := by omega
  have hcne : ¬ C = n := by omega
  clear hR hx hC
  go_enter Try.func16, Try.ntmps16
  go_wp2_with fail
  go_loopw [14] (fun v wr => ∃ k : Nat, k ≤ 3 ∧ v = .int .i64 k ∧ Hid (Below w.heap.size w wr)) (fun v _ => 3 - (intOf v).toNat)
  case atStart => exact ⟨0, Nat.zero_le _, rfl, Lib.hid (Below.refl _ _)⟩
  case round =>
    obtain ⟨k, hk, rfl, B⟩ := hrel
    by_cases hlt : k < 3
    · have c0 := (HR.out.on B.out).mark HX.out HC.out hlt
      go_wp2_with fail
      go_roundw
      case rel => exact ⟨k + 1, hlt, by go_num, B⟩
      case measure => simp [intOf]; omega
    · obtain rfl : k = 3 := by omega
      go_wp2_with fail
      go_ret
      exact ⟨rfl, B.out⟩

set_option maxRecDepth 100000 in
set_option maxHeartbeats 4000000 in
theorem clone_i (a : Option Addr) (n c base : Nat) (xs : List Value) (w : World) (hT : w.ownsRow base 3 1 (.slice a n c) n xs) (hone : ∀ u ∈ xs, u.oneCell' = true) (hn : n ≤ 4294967296) :
    Calls Try.prog 17 #[.slice a n c] w fun e w' => ∃ b d, e = .returned (.slice b n d) ∧ w'.ownsRow w.heap.size 3 1 (.slice b n d) n xs ∧ Below w.heap.size w w' := by
  obtain ⟨i0, hi, hz0, hz1, hz2⟩ := info_parts Try.infoInt
  rcases hT.2 with ⟨he, h0⟩ | ⟨g, cap, cur, he, hg, hh, hnc, hcm, hcur⟩
  · cases he
    obtain rfl : xs = [] := List.length_eq_zero_iff.1 (by rw [hT.1, Nat.zero_mul])
    clear hT
    have en : ∀ w, (binOp .eql 22 (.slice none 0 0) (.slice none 0 0)).run Try.prog w = .ok (.bool true) w := fun w => Lib.run_eql_slice_nil w 22 3 none 0 0 0 0 Try.underlying22
    go_enter Try.func17, Try.ntmps17
    go_wp2_with fail
    go_ret
    exact ⟨none, 0, rfl, World.ownsRow_nil _ _ _ _, Below.refl _ _⟩
  · cases he
    have HB1 : ∀ T, Below w.heap.size w (w.alloc (.cells #[] T)) := fun T => (Below.refl _ w).alloc (Nat.le_refl _) _
    have hcells : ∀ (T : TypeId) j u, xs[j]? = some u → (w.alloc (.cells #[] T)).cell? ((⟨g, 0, none⟩ : Addr).add j) = some u := fun T => (lo_kept hT fun j hj => (HB1 T).block j (lo_block_lt hT j hj)).cells rfl
    have H3 := Lib.hid (hcells 3)
    have HL : Hid (xs.length = n * 1) := Lib.hid hT.1
    have HONE := Lib.hid hone
    have H5 : Hid (0 + n ≤ maxLen ∧ (0 + n) * 8 ≤ 140737488355328) := Lib.hid ⟨by unfold maxLen; omega, by omega⟩
    have HO : Hid ((w.alloc (.cells #[] 3)).ownsRow w.heap.size 3 1 (.slice (some ⟨w.heap.size, 0, none⟩) 0 0) 0 []) := Lib.hid (World.ownsRow_made w #[] 0 (Nat.le_refl _) (Nat.zero_le _) rfl)
    have HS : Hid (w.heap.size ≤ (w.alloc (.cells #[] 3)).heap.size) := Lib.hid (by rw [World.size_alloc]; omega)
    have HB := Lib.hid (HB1 3)
    clear hcells hT HB1 hh hcur hone
    have en : ∀ w, (binOp .eql 22 (.slice (some ⟨g, 0, none⟩) n c) (.slice none 0 0)).run Try.prog w = .ok (.bool false) w := fun w => Lib.run_eql_slice_nil w 22 3 (some ⟨g, 0, none⟩) n c 0 0 Try.underlying22
    go_enter Try.func17, Try.ntmps17
    go_wp2_with (at_builtin; refine wpList_append_own _ rfl _ _ _ rfl w.heap.size 3 i0 (.int .i64 0) 1 8 Try.underlying22 hi hz0 hz1 hz2 rfl (by decide) (.slice (some ⟨w.heap.size, 0, none⟩) 0 0) 0 [] rfl HO.out ⟨g, 0, none⟩ n c xs rfl HL.out H3.out HONE.out H5.out.1 H5.out.2 HS.out ?_)
    intro v' w' q1 q2 _
    have HF : Hid (w'.ownsRow w.heap.size 3 1 v' n xs ∧ Below w.heap.size w w') := Lib.hid ⟨by simpa using q1, HB.out.grown q2 HS.out (fun j e => by have := lo_base HO.out j e; exact this)⟩
    have HV : Hid (∃ b d, v' = .slice b n d) := Lib.hid (by obtain ⟨b, d, h, -⟩ := lo_shape HF.out.1; exact ⟨b, d, h⟩)
    clear q1 q2 H3 HL H5 HONE
    go_wp2_with fail
    go_ret
    obtain ⟨b, d, rfl⟩ := HV.out
    exact ⟨b, d, rfl, HF.out⟩

set_option maxRecDepth 100000 in
set_option maxHeartbeats 4000000 in
theorem clone_s (a : Option Addr) (n c base : Nat) (xs : List Value) (w : World) (hT : w.ownsRow base 9 1 (.slice a n c) n xs) (hone : ∀ u ∈ xs, u.oneCell' = true) (hn : n ≤ 4294967296) :
    Calls Try.prog 18 #[.slice a n c] w fun e w' => ∃ b d, e = .returned (.slice b n d) ∧ w'.ownsRow w.heap.size 9 1 (.slice b n d) n xs ∧ Below w.heap.size w w' := by
  obtain ⟨i0, hi, hz0, hz1, hz2⟩ := info_parts Try.infoStrL
  rcases hT.2 with ⟨he, h0⟩ | ⟨g, cap, cur, he, hg, hh, hnc, hcm, hcur⟩
  · cases he
    obtain rfl : xs = [] := List.length_eq_zero_iff.1 (by rw [hT.1, Nat.zero_mul])
    clear hT
    have en : ∀ w, (binOp .eql 23 (.slice none 0 0) (.slice none 0 0)).run Try.prog w = .ok (.bool true) w := fun w => Lib.run_eql_slice_nil w 23 9 none 0 0 0 0 Try.underlying23
    go_enter Try.func18, Try.ntmps18
    go_wp2_with fail
    go_ret
    exact ⟨none, 0, rfl, World.ownsRow_nil _ _ _ _, Below.refl _ _⟩
  · cases he
    have HB1 : ∀ T, Below w.heap.size w (w.alloc (.cells #[] T)) := fun T => (Below.refl _ w).alloc (Nat.le_refl _) _
    have hcells : ∀ (T : TypeId) j u, xs[j]? = some u → (w.alloc (.cells #[] T)).cell? ((⟨g, 0, none⟩ : Addr).add j) = some u := fun T => (lo_kept hT fun j hj => (HB1 T).block j (lo_block_lt hT j hj)).cells rfl
    have H3 := Lib.hid (hcells 9)
    have HL : Hid (xs.length = n * 1) := Lib.hid hT.1
    have HONE := Lib.hid hone
    have H5 : Hid (0 + n ≤ maxLen ∧ (0 + n) * 16 ≤ 140737488355328) := Lib.hid ⟨by unfold maxLen; omega, by omega⟩
    have HO : Hid ((w.alloc (.cells #[] 9)).ownsRow w.heap.size 9 1 (.slice (some ⟨w.heap.size, 0, none⟩) 0 0) 0 []) := Lib.hid (World.ownsRow_made w #[] 0 (Nat.le_refl _) (Nat.zero_le _) rfl)
    have HS : Hid (w.heap.size ≤ (w.alloc (.cells #[] 9)).heap.size) := Lib.hid (by rw [World.size_alloc]; omega)
    have HB := Lib.hid (HB1 9)
    clear hcells hT HB1 hh hcur hone
    have en : ∀ w, (binOp .eql 23 (.slice (some ⟨g, 0, none⟩) n c) (.slice none 0 0)).run Try.prog w = .ok (.bool false) w := fun w => Lib.run_eql_slice_nil w 23 9 (some ⟨g, 0, none⟩) n c 0 0 Try.underlying23
    go_enter Try.func18, Try.ntmps18
    go_wp2_with (at_builtin; refine wpList_append_own _ rfl _ _ _ rfl w.heap.size 9 i0 (.string ⟨#[]⟩) 1 16 Try.underlying23 hi hz0 hz1 hz2 rfl (by decide) (.slice (some ⟨w.heap.size, 0, none⟩) 0 0) 0 [] rfl HO.out ⟨g, 0, none⟩ n c xs rfl HL.out H3.out HONE.out H5.out.1 H5.out.2 HS.out ?_)
    intro v' w' q1 q2 _
    have HF : Hid (w'.ownsRow w.heap.size 9 1 v' n xs ∧ Below w.heap.size w w') := Lib.hid ⟨by simpa using q1, HB.out.grown q2 HS.out (fun j e => by have := lo_base HO.out j e; exact this)⟩
    have HV : Hid (∃ b d, v' = .slice b n d) := Lib.hid (by obtain ⟨b, d, h, -⟩ := lo_shape HF.out.1; exact ⟨b, d, h⟩)
    clear q1 q2 H3 HL H5 HONE
    go_wp2_with fail
    go_ret
    obtain ⟨b, d, rfl⟩ := HV.out
    exact ⟨b, d, rfl, HF.out⟩

set_option maxRecDepth 100000 in
set_option maxHeartbeats 4000000 in
theorem clone_k (a : Option Addr) (n c base : Nat) (xs : List Value) (w : World) (hT : w.ownsRow base 49 3 (.slice a n c) n xs) (hone : ∀ u ∈ xs, u.oneCell' = true) (hn : n ≤ 4294967296) :
    Calls Try.prog 19 #[.slice a n c] w fun e w' => ∃ b d, e = .returned (.slice b n d) ∧ w'.ownsRow w.heap.size 49 3 (.slice b n d) n xs ∧ Below w.heap.size w w' := by
  obtain ⟨i0, hi, hz0, hz1, hz2⟩ := info_parts Try.infoTok
  rcases hT.2 with ⟨he, h0⟩ | ⟨g, cap, cur, he, hg, hh, hnc, hcm, hcur⟩
  · cases he
    obtain rfl : xs = [] := List.length_eq_zero_iff.1 (by rw [hT.1, Nat.zero_mul])
    clear hT
    have en : ∀ w, (binOp .eql 34 (.slice none 0 0) (.slice none 0 0)).run Try.prog w = .ok (.bool true) w := fun w => Lib.run_eql_slice_nil w 34 49 none 0 0 0 0 Try.underlying34
    go_enter Try.func19, Try.ntmps19
    go_wp2_with fail
    go_ret
    exact ⟨none, 0, rfl, World.ownsRow_nil _ _ _ _, Below.refl _ _⟩
  · cases he
    have HB1 : ∀ T, Below w.heap.size w (w.alloc (.cells #[] T)) := fun T => (Below.refl _ w).alloc (Nat.le_refl _) _
    have hcells : ∀ (T : TypeId) j u, xs[j]? = some u → (w.alloc (.cells #[] T)).cell? ((⟨g, 0, none⟩ : Addr).add j) = some u := fun T => (lo_kept hT fun j hj => (HB1 T).block j (lo_block_lt hT j hj)).cells rfl
    have H3 := Lib.hid (hcells 49)
    have HL : Hid (xs.length = n * 3) := Lib.hid hT.1
    have HONE := Lib.hid hone
    have H5 : Hid (0 + n ≤ maxLen ∧ (0 + n) * 24 ≤ 140737488355328) := Lib.hid ⟨by unfold maxLen; omega, by omega⟩
    have HO : Hid ((w.alloc (.cells #[] 49)).ownsRow w.heap.size 49 3 (.slice (some ⟨w.heap.size, 0, none⟩) 0 0) 0 []) := Lib.hid (World.ownsRow_made w #[] 0 (Nat.le_refl _) (Nat.zero_le _) rfl)
    have HS : Hid (w.heap.size ≤ (w.alloc (.cells #[] 49)).heap.size) := Lib.hid (by rw [World.size_alloc]; omega)
    have HB := Lib.hid (HB1 49)
    clear hcells hT HB1 hh hcur hone
    have en : ∀ w, (binOp .eql 34 (.slice (some ⟨g, 0, none⟩) n c) (.slice none 0 0)).run Try.prog w = .ok (.bool false) w := fun w => Lib.run_eql_slice_nil w 34 49 (some ⟨g, 0, none⟩) n c 0 0 Try.underlying34
    go_enter Try.func19, Try.ntmps19
    go_wp2_with (at_builtin; refine wpList_append_own _ rfl _ _ _ rfl w.heap.size 49 i0 (.agg #[.int .i64 0, .int .i64 0, .int .i64 0]) 3 24 Try.underlying34 hi hz0 hz1 hz2 rfl (by decide) (.slice (some ⟨w.heap.size, 0, none⟩) 0 0) 0 [] rfl HO.out ⟨g, 0, none⟩ n c xs rfl HL.out H3.out HONE.out H5.out.1 H5.out.2 HS.out ?_)
    intro v' w' q1 q2 _
    have HF : Hid (w'.ownsRow w.heap.size 49 3 v' n xs ∧ Below w.heap.size w w') := Lib.hid ⟨by simpa using q1, HB.out.grown q2 HS.out (fun j e => by have := lo_base HO.out j e; exact this)⟩
    have HV : Hid (∃ b d, v' = .slice b n d) := Lib.hid (by obtain ⟨b, d, h, -⟩ := lo_shape HF.out.1; exact ⟨b, d, h⟩)
    clear q1 q2 H3 HL H5 HONE
    go_wp2_with fail
    go_ret
    obtain ⟨b, d, rfl⟩ := HV.out
    exact ⟨b, d, rfl, HF.out⟩

set_option maxRecDepth 100000 in
set_option maxHeartbeats 4000000 in
theorem clone_t (a : Option Addr) (n c base : Nat) (xs : List Value) (w : World) (hT : w.ownsRow base 52 2 (.slice a n c) n xs) (hone : ∀ u ∈ xs, u.oneCell' = true) (hn : n ≤ 4294967296) :
    Calls Try.prog 20 #[.slice a n c] w fun e w' => ∃ b d, e = .returned (.slice b n d) ∧ w'.ownsRow w.heap.size 52 2 (.slice b n d) n xs ∧ Below w.heap.size w w' := by
  obtain ⟨i0, hi, hz0, hz1, hz2⟩ := info_parts Try.infoStep
  rcases hT.2 with ⟨he, h0⟩ | ⟨g, cap, cur, he, hg, hh, hnc, hcm, hcur⟩
  · cases he
    obtain rfl : xs = [] := List.length_eq_zero_iff.1 (by rw [hT.1, Nat.zero_mul])
    clear hT
    have en : ∀ w, (binOp .eql 37 (.slice none 0 0) (.slice none 0 0)).run Try.prog w = .ok (.bool true) w := fun w => Lib.run_eql_slice_nil w 37 52 none 0 0 0 0 Try.underlying37
    go_enter Try.func20, Try.ntmps20
    go_wp2_with fail
    go_ret
    exact ⟨none, 0, rfl, World.ownsRow_nil _ _ _ _, Below.refl _ _⟩
  · cases he
    have HB1 : ∀ T, Below w.heap.size w (w.alloc (.cells #[] T)) := fun T => (Below.refl _ w).alloc (Nat.le_refl _) _
    have hcells : ∀ (T : TypeId) j u, xs[j]? = some u → (w.alloc (.cells #[] T)).cell? ((⟨g, 0, none⟩ : Addr).add j) = some u := fun T => (lo_kept hT fun j hj => (HB1 T).block j (lo_block_lt hT j hj)).cells rfl
    have H3 := Lib.hid (hcells 52)
    have HL : Hid (xs.length = n * 2) := Lib.hid hT.1
    have HONE := Lib.hid hone
    have H5 : Hid (0 + n ≤ maxLen ∧ (0 + n) * 16 ≤ 140737488355328) := Lib.hid ⟨by unfold maxLen; omega, by omega⟩
    have HO : Hid ((w.alloc (.cells #[] 52)).ownsRow w.heap.size 52 2 (.slice (some ⟨w.heap.size, 0, none⟩) 0 0) 0 []) := Lib.hid (World.ownsRow_made w #[] 0 (Nat.le_refl _) (Nat.zero_le _) rfl)
    have HS : Hid (w.heap.size ≤ (w.alloc (.cells #[] 52)).heap.size) := Lib.hid (by rw [World.size_alloc]; omega)
    have HB := Lib.hid (HB1 52)
    clear hcells hT HB1 hh hcur hone
    have en : ∀ w, (binOp .eql 37 (.slice (some ⟨g, 0, none⟩) n c) (.slice none 0 0)).run Try.prog w = .ok (.bool false) w := fun w => Lib.run_eql_slice_nil w 37 52 (some ⟨g, 0, none⟩) n c 0 0 Try.underlying37
    go_enter Try.func20, Try.ntmps20
    go_wp2_with (at_builtin; refine wpList_append_own _ rfl _ _ _ rfl w.heap.size 52 i0 (.agg #[.bool false, .int .i64 0]) 2 16 Try.underlying37 hi hz0 hz1 hz2 rfl (by decide) (.slice (some ⟨w.heap.size, 0, none⟩) 0 0) 0 [] rfl HO.out ⟨g, 0, none⟩ n c xs rfl HL.out H3.out HONE.out H5.out.1 H5.out.2 HS.out ?_)
    intro v' w' q1 q2 _
    have HF : Hid (w'.ownsRow w.heap.size 52 2 v' n xs ∧ Below w.heap.size w w') := Lib.hid ⟨by simpa using q1, HB.out.grown q2 HS.out (fun j e => by have := lo_base HO.out j e; exact this)⟩
    have HV : Hid (∃ b d, v' = .slice b n d) := Lib.hid (by obtain ⟨b, d, h, -⟩ := lo_shape HF.out.1; exact ⟨b, d, h⟩)
    clear q1 q2 H3 HL H5 HONE
    go_wp2_with fail
    go_ret
    obtain ⟨b, d, rfl⟩ := HV.out
    exact ⟨b, d, rfl, HF.out⟩

set_option maxRecDepth 100000 in
set_option maxHeartbeats 4000000 in
theorem equal_i (a b : Option Addr) (n c1 c2 : Nat) (l : List Int) (w : World) (h1 : At w a n 1 (l.map (Value.int .i64))) (h2 : At w b n 1 (l.map (Value.int .i64))) (hl : l.length = n) (hn : n ≤ 9223372036854775807) :
    Calls Try.prog 5 #[.slice a n c1, .slice b n c2] w fun e w' => e = .returned (.bool true) ∧ Below w.heap.size w w' := by
  have H1 := Lib.hid h1; have H2 := Lib.hid h2; have HL := Lib.hid hl
  clear h1 h2 hl
  go_enter Try.func5, Try.ntmps5
  go_wp2_with fail
  go_loopw [13] (fun x wr => ∃ k : Nat, k ≤ n ∧ x = .int .i64 k ∧ ∃ j, wr = w.drewN j) (fun x _ => n - (intOf x).toNat)
  case atStart => exact ⟨0, Nat.zero_le _, rfl, 0, rfl⟩
  case round =>
    obtain ⟨k, hk, rfl, hj⟩ := hrel
    by_cases hlt : k < n
    · have hk' : k < l.length := by rw [HL.out]; exact hlt
      obtain ⟨A, b1, o1, s1, u1, rfl, hA, hu1, c1⟩ := H1.out.one hlt
      obtain ⟨A2, b2, o2, s2, u2, rfl, hA2, hu2, c2⟩ := H2.out.one hlt
      rw [List.getElem?_map, List.getElem?_eq_getElem hk'] at hu1 hu2
      obtain rfl := Option.some.inj hu1
      obtain rfl := Option.some.inj hu2
      generalize l[k] = y at *
      clear hu1 hu2
      obtain ⟨j, rfl⟩ := hj
      go_wp2_with fail
      go_region
      all_goals
        go_wp2_with fail
        go_roundw
        case rel => exact ⟨k + 1, hlt, by go_num, j + 1, rfl⟩
        case measure => simp [intOf]; omega
    · obtain rfl : k = n := by omega
      go_wp2_with fail
      go_ret
      obtain ⟨j, rfl⟩ := hj
      exact ⟨rfl, below_drewN (Below.refl _ _) _⟩

set_option maxRecDepth 100000 in
set_option maxHeartbeats 4000000 in
theorem equal_s (a b : Option Addr) (n c1 c2 : Nat) (l : List ByteArray) (w : World) (h1 : At w a n 1 (l.map Value.string)) (h2 : At w b n 1 (l.map Value.string)) (hl : l.length = n) (hn : n ≤ 9223372036854775807) :
    Calls Try.prog 15 #[.slice a n c1, .slice b n c2] w fun e w' => e = .returned (.bool true) ∧ Below w.heap.size w w' := by
  have H1 := Lib.hid h1; have H2 := Lib.hid h2; have HL := Lib.hid hl
  clear h1 h2 hl
  go_enter Try.func15, Try.ntmps15
  go_wp2_with fail
  go_loopw [13] (fun x wr => ∃ k : Nat, k ≤ n ∧ x = .int .i64 k ∧ ∃ j, wr = w.drewN j) (fun x _ => n - (intOf x).toNat)
  case atStart => exact ⟨0, Nat.zero_le _, rfl, 0, rfl⟩
  case round =>
    obtain ⟨k, hk, rfl, hj⟩ := hrel
    by_cases hlt : k < n
    · have hk' : k < l.length := by rw [HL.out]; exact hlt
      obtain ⟨A, b1, o1, s1, u1, rfl, hA, hu1, c1⟩ := H1.out.one hlt
      obtain ⟨A2, b2, o2, s2, u2, rfl, hA2, hu2, c2⟩ := H2.out.one hlt
      rw [List.getElem?_map, List.getElem?_eq_getElem hk'] at hu1 hu2
      obtain rfl := Option.some.inj hu1
      obtain rfl := Option.some.inj hu2
      generalize l[k] = y at *
      clear hu1 hu2
      obtain ⟨j, rfl⟩ := hj
      go_wp2_with fail
      go_region
      all_goals
        go_wp2_with fail
        go_roundw
        case rel => exact ⟨k + 1, hlt, by go_num, j + 1, rfl⟩
        case measure => simp [intOf]; omega
    · obtain rfl : k = n := by omega
      go_wp2_with fail
      go_ret
      obtain ⟨j, rfl⟩ := hj
      exact ⟨rfl, below_drewN (Below.refl _ _) _⟩

set_option maxRecDepth 100000 in
set_option maxHeartbeats 4000000 in
theorem equal_k (a b : Option Addr) (n c1 c2 : Nat) (l : List Lz.Tk) (w : World) (h1 : At w a n 3 (kv l)) (h2 : At w b n 3 (kv l)) (hl : l.length = n) (hn : n ≤ 9223372036854775807) :
    Calls Try.prog 23 #[.slice a n c1, .slice b n c2] w fun e w' => e = .returned (.bool true) ∧ Below w.heap.size w w' := by
  have H1 := Lib.hid h1; have H2 := Lib.hid h2; have HL := Lib.hid hl
  clear h1 h2 hl
  go_enter Try.func23, Try.ntmps23
  go_wp2_with fail
  go_loopw [13] (fun x wr => ∃ k : Nat, k ≤ n ∧ x = .int .i64 k ∧ ∃ j, wr = w.drewN j) (fun x _ => n - (intOf x).toNat)
  case atStart => exact ⟨0, Nat.zero_le _, rfl, 0, rfl⟩
  case round =>
    obtain ⟨k, hk, rfl, hj⟩ := hrel
    by_cases hlt : k < n
    · have hk' : k < l.length := by rw [HL.out]; exact hlt
      obtain ⟨A, rfl⟩ := H1.out.there (by omega)
      obtain ⟨A2, rfl⟩ := H2.out.there (by omega)
      obtain ⟨b1, o1, s1, hA⟩ : ∃ b o s, A.add (k * 3) = ⟨b, o, s⟩ := ⟨_, _, _, rfl⟩
      obtain ⟨b2, o2, s2, hA2⟩ : ∃ b o s, A2.add (k * 3) = ⟨b, o, s⟩ := ⟨_, _, _, rfl⟩
      obtain ⟨g0, g1, g2⟩ := kv_get (List.getElem?_eq_getElem hk')
      have c0 := H1.out.cells A rfl (k * 3) _ g0
      rw [hA] at c0
      have d0 := H2.out.cells A2 rfl (k * 3) _ g0
      rw [hA2] at d0
      have c1 := H1.out.cells A rfl (k * 3 + 1) _ g1
      rw [← Go.Deep.add_add, hA, show (⟨b1, o1, s1⟩ : Addr).add 1 = ⟨b1, o1 + 1, none⟩ from rfl] at c1
      have d1 := H2.out.cells A2 rfl (k * 3 + 1) _ g1
      rw [← Go.Deep.add_add, hA2, show (⟨b2, o2, s2⟩ : Addr).add 1 = ⟨b2, o2 + 1, none⟩ from rfl] at d1
      have c2 := H1.out.cells A rfl (k * 3 + 2) _ g2
      rw [← Go.Deep.add_add, hA, show (⟨b1, o1, s1⟩ : Addr).add 2 = ⟨b1, o1 + 2, none⟩ from rfl] at c2
      have d2 := H2.out.cells A2 rfl (k * 3 + 2) _ g2
      rw [← Go.Deep.add_add, hA2, show (⟨b2, o2, s2⟩ : Addr).add 2 = ⟨b2, o2 + 2, none⟩ from rfl] at d2
      clear g0 g1 g2
      generalize l[k].d = f1 at *
      generalize l[k].n = f2 at *
      generalize l[k].b = f3 at *
      obtain ⟨j, rfl⟩ := hj
      go_wp2_with fail
      go_region
      all_goals
        go_wp2_with fail
        go_roundw
        case rel => exact ⟨k + 1, hlt, by go_num, j + 1, rfl⟩
        case measure => simp [intOf]; omega
    · obtain rfl : k = n := by omega
      go_wp2_with fail
      go_ret
      obtain ⟨j, rfl⟩ := hj
      exact ⟨rfl, below_drewN (Below.refl _ _) _⟩

set_option maxRecDepth 100000 in
set_option maxHeartbeats 4000000 in
theorem equal_t (a b : Option Addr) (n c1 c2 : Nat) (l : List (Bool × Nat)) (w : World) (h1 : At w a n 2 (stv l)) (h2 : At w b n 2 (stv l)) (hl : l.length = n) (hn : n ≤ 9223372036854775807) :
    Calls Try.prog 24 #[.slice a n c1, .slice b n c2] w fun e w' => e = .returned (.bool true) ∧ Below w.heap.size w w' := by
  have H1 := Lib.hid h1; have H2 := Lib.hid h2; have HL := Lib.hid hl
  clear h1 h2 hl
  go_enter Try.func24, Try.ntmps24
  go_wp2_with fail
  go_loopw [13] (fun x wr => ∃ k : Nat, k ≤ n ∧ x = .int .i64 k ∧ ∃ j, wr = w.drewN j) (fun x _ => n - (intOf x).toNat)
  case atStart => exact ⟨0, Nat.zero_le _, rfl, 0, rfl⟩
  case round =>
    obtain ⟨k, hk, rfl, hj⟩ := hrel
    by_cases hlt : k < n
    · have hk' : k < l.length := by rw [HL.out]; exact hlt
      obtain ⟨A, rfl⟩ := H1.out.there (by omega)
      obtain ⟨A2, rfl⟩ := H2.out.there (by omega)
      obtain ⟨b1, o1, s1, hA⟩ : ∃ b o s, A.add (k * 2) = ⟨b, o, s⟩ := ⟨_, _, _, rfl⟩
      obtain ⟨b2, o2, s2, hA2⟩ : ∃ b o s, A2.add (k * 2) = ⟨b, o, s⟩ := ⟨_, _, _, rfl⟩
      obtain ⟨g0, g1⟩ := stv_get (List.getElem?_eq_getElem hk')
      have c0 := H1.out.cells A rfl (k * 2) _ g0
      rw [hA] at c0
      have d0 := H2.out.cells A2 rfl (k * 2) _ g0
      rw [hA2] at d0
      have c1 := H1.out.cells A rfl (k * 2 + 1) _ g1
      rw [← Go.Deep.add_add, hA, show (⟨b1, o1, s1⟩ : Addr).add 1 = ⟨b1, o1 + 1, none⟩ from rfl] at c1
      have d1 := H2.out.cells A2 rfl (k * 2 + 1) _ g1
      rw [← Go.Deep.add_add, hA2, show (⟨b2, o2, s2⟩ : Addr).add 1 = ⟨b2, o2 + 1, none⟩ from rfl] at d1
      clear g0 g1
      generalize l[k].1 = f1 at *
      generalize l[k].2 = f2 at *
      obtain ⟨j, rfl⟩ := hj
      go_wp2_with fail
      go_region
      all_goals
        go_wp2_with fail
        go_roundw
        case rel => exact ⟨k + 1, hlt, by go_num, j + 1, rfl⟩
        case measure => simp [intOf]; omega
    · obtain rfl : k = n := by omega
      go_wp2_with fail
      go_ret
      obtain ⟨j, rfl⟩ := hj
      exact ⟨rfl, below_drewN (Below.refl _ _) _⟩

end Go.Proofs.Ytnbdceigenndfaa
