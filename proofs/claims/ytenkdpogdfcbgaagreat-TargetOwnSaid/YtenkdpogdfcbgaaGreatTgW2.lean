import Derived.Test.YtenkdpogdfcbgaaGreatTgW
import Derived.Test.YtenkdpogdfcbgaaGreatTgP
import Derived.Test.YtenkdpogdfcbgaaGreatSameW
/- Walks: what a target tells; what a crash leaves. -/
namespace Go.Proofs.YtenkdpogdfcbgaaGreat
open Go.RowKit

theorem state_result {tmps : Array Value} {W : World} {B : Nat} {v0 v1 : Value} (h2 : tmps.getD 2 undef = .pointer (some ⟨B, 0, none⟩)) (h : Bxs W B [v0, v1]) :
    (results Tryz.f9 tmps).run Tryz.prog W = .ok (.agg #[v0, v1]) W := by
  have c0 := h.c 0 _ rfl; have c1 := h.c 1 _ rfl
  have hq : tmps[2]?.getD undef = .pointer (some ⟨B, 0, none⟩) := by simpa using h2
  simp [results, Tryz.results9, hq, go_sem, c0, c1]

set_option maxHeartbeats 2000000 in
theorem State_T (B base G : Nat) (t : Tg.S) (w : World) (h : TgW w B base t G) :
    Calls Tryz.prog 9 #[.pointer (some ⟨B, 0, none⟩)] w (StMade w t.st) := by
  obtain ⟨a, n, c, b, m, d, rs, rx, ry, rz, hX, hS, hR⟩ := h.ex
  have hr := h.good.right
  have hal := (Below.refl w.heap.size w).alloc (Nat.le_refl _) (.cells #[.slice none 0 0, .slice none 0 0] 33)
  have C1 := Copied_V a b n c m d base rs t.st _ (hS.keep hal) (by have := hr.len; rw [hS.vlen] at this; omega) (by rw [← hS.len]; exact hr.bag.len) (fun v hv => by have := (hr.vol v hv).len; omega)
  have HX := Lib.hid (bxs_new w 33 #[.slice none 0 0, .slice none 0 0] [.slice none 0 0, .slice none 0 0] rfl)
  have HB := Lib.hid hal
  have hX2 := hX.on hal
  unfold tgc at hX2
  have c0 := hX2.c 0 _ rfl; have c1 := hX2.c 1 _ rfl
  clear h hX hS hR hr hal hX2
  go_enter Tryz.func9, Tryz.ntmps9
  go_wp2_with fail
  with_reducible refine C1.mono ?_
  rintro e w1 ⟨a6, n6, c6, b6, m6, d6, rs6, rfl, hs, hb⟩
  have HX1 := Lib.hid (HX.out.on hb)
  have HS := Lib.hid (hs.low (show w.heap.size + 1 ≤ _ by rw [World.size_alloc]; exact Nat.le_refl _)); have HB1 := Lib.hid (HB.out.trans (hb.mono HB.out.size))
  clear hs hb C1 c0 c1
  have x0 := HX1.out.c 0 _ rfl; have x1 := HX1.out.c 1 _ rfl
  have xf0 := HX1.out.z 0 (show 0 < 2 by decide); have xf1 := HX1.out.z 1 (show 1 < 2 by decide)
  go_wp2_with fail
  have s1 := HS.out.other (B := w.heap.size) (i := 0) (HS.out.off (by omega)) (.slice a6 n6 c6)
  have s2 := s1.other (B := w.heap.size) (i := 1) (s1.off (by omega)) (.slice b6 m6 d6)
  refine bodyPost_ret (state_result (B := w.heap.size) rfl (HX1.out.set2 _ _)) rfl ?_
  exact ⟨_, _, _, _, _, _, _, rfl, s2.low (by omega), below_set2 HB1.out (Nat.le_refl _) _ _⟩

theorem resv_result {tmps : Array Value} {W : World} {B : Nat} {v0 v1 v2 v3 : Value} (h2 : tmps.getD 2 undef = .pointer (some ⟨B, 0, none⟩)) (h : Bxs W B [v0, v1, v2, v3]) :
    (results Tryz.f13 tmps).run Tryz.prog W = .ok (.agg #[v0, v1, v2, v3]) W := by
  have c0 := h.c 0 _ rfl; have c1 := h.c 1 _ rfl; have c2 := h.c 2 _ rfl; have c3 := h.c 3 _ rfl
  have hq : tmps[2]?.getD undef = .pointer (some ⟨B, 0, none⟩) := by simpa using h2
  simp [results, Tryz.results13, hq, go_sem, c0, c1, c2, c3]

theorem bxs_setall4 {W : World} {B : Nat} {v0 v1 v2 v3 : Value} (h : Bxs W B [v0, v1, v2, v3]) (u0 u1 u2 u3 : Value) :
    Bxs ((((W.setCell ⟨B, 0, none⟩ u0).setCell ⟨B, 1, none⟩ u1).setCell ⟨B, 2, none⟩ u2).setCell ⟨B, 3, none⟩ u3) B [u0, u1, u2, u3] :=
  (((h.set 0 (by decide : 0 < 4) u0 rfl).set 1 (by decide : 1 < 4) u1 rfl).set 2 (by decide : 2 < 4) u2 rfl).set 3 (by decide : 3 < 4) u3 rfl

theorem row_set1 {w : World} {base : Nat} {e : TypeId} {size : Nat} {v : Value} {n : Nat} {xs : List Value} (h : w.ownsRow base e size v n xs) {B i : Nat} (hB : B < base) (u0 : Value) : (w.setCell ⟨B, i, none⟩ u0).ownsRow base e size v n xs :=
  own_other h (fun e => by have := row_base h B e; omega) u0

theorem below_set4x {N : Nat} {w W : World} {B i j k l : Nat} (h : Below N w W) (hN : N ≤ B) (u0 u1 u2 u3 : Value) : Below N w ((((W.setCell ⟨B, i, none⟩ u0).setCell ⟨B, j, none⟩ u1).setCell ⟨B, k, none⟩ u2).setCell ⟨B, l, none⟩ u3) :=
  (((h.setCell hN _).setCell hN _).setCell hN _).setCell hN _

/-- What a call of Resv leaves. -/
def ResvTo (w : World) (r : Rg.RV) (e : Ending) (w' : World) : Prop :=
  ∃ x y z, e = .returned (.agg #[.int .i64 r.gen, .slice x y z, .int .i64 r.kind, .int .i64 r.holder]) ∧ w'.ownsRow w.heap.size 39 2 (.slice x y z) y (Rs.tv r.regs) ∧ r.regs.length = y ∧ Below w.heap.size w w'

set_option maxRecDepth 100000 in
set_option maxHeartbeats 4000000 in
theorem Resv_T (B base G : Nat) (t : Tg.S) (w : World) (h : TgW w B base t G) :
    Calls Tryz.prog 13 #[.pointer (some ⟨B, 0, none⟩)] w (ResvTo w t.r) := by
  obtain ⟨i0, hi, hz0, hz1, hz2⟩ := info_parts Rs.Tryz.infoReg
  obtain ⟨a, n, c, b, m, d, rs, rx, ry, rz, hX, hS, hR⟩ := h.ex
  have hn8 : ry ≤ 8 := by have := h.good.rv.len; rw [Rs.own_len hR] at this; exact this
  obtain ⟨st, ⟨g, regs, k, q⟩, l⟩ := t
  unfold tgc at hX
  dsimp only at hX hR
  obtain ⟨w0, hw0⟩ : ∃ w0, w0 = (w.alloc (.cells #[.int .i64 0, .slice none 0 0, .int .i64 0, .int .i64 0] 42)).alloc (.cells #[.int .i64 g, .slice rx ry rz, .int .i64 k, .int .i64 q] 42) := ⟨_, rfl⟩
  have hB : Below w.heap.size w w0 := by
    rw [hw0]
    exact ((Below.refl _ w).alloc (Nat.le_refl _) _).alloc (by rw [World.size_alloc]; omega) _
  have HX := Lib.hid (show Bxs w0 w.heap.size [.int .i64 0, .slice none 0 0, .int .i64 0, .int .i64 0] by rw [hw0]; exact (bxs_new w 42 _ _ rfl).alloc _)
  have HY := Lib.hid (show Bxs w0 (w.heap.size + 1) [.int .i64 g, .slice rx ry rz, .int .i64 k, .int .i64 q] by
    rw [hw0]
    have := bxs_new (w.alloc (.cells #[.int .i64 0, .slice none 0 0, .int .i64 0, .int .i64 0] 42)) 42 #[.int .i64 g, .slice rx ry rz, .int .i64 k, .int .i64 q] _ rfl
    rw [World.size_alloc] at this
    exact this)
  have hs0 : w0.heap.size = w.heap.size + 2 := by rw [hw0, World.size_alloc, World.size_alloc]
  have HB := Lib.hid hB
  have HLEN := Lib.hid (Rs.own_len hR)
  have hTS := Rs.own_tsl hR hB
  have HX1 := hX.on ((Below.refl _ w).alloc (Nat.le_refl _) (.cells #[.int .i64 0, .slice none 0 0, .int .i64 0, .int .i64 0] 42))
  have c2 := HX1.c 2 _ rfl; have c3 := HX1.c 3 _ rfl; have c4 := HX1.c 4 _ rfl; have c5 := HX1.c 5 _ rfl
  have hw0' := hw0.symm
  have y1 := HY.out.c 1 _ rfl
  have HC : Hid (∀ x, rx = some x → ∀ j u, (Rs.tv regs)[j]? = some u → w0.cell? (x.add j) = some u) := Lib.hid fun x e => by subst e; exact hTS.cells
  have HNL : Hid (rx = none → ry = 0 ∧ rz = 0) := Lib.hid hTS.nil
  clear h hX hS hR HX1 hB hw0 hTS
  rcases rx with _ | x
  · obtain ⟨rfl, rfl⟩ := HNL.out rfl
    have HE : Hid (regs = []) := Lib.hid (List.length_eq_zero_iff.1 HLEN.out)
    have x0 := HX.out.c 0 _ rfl; have x1 := HX.out.c 1 _ rfl; have x2 := HX.out.c 2 _ rfl; have x3 := HX.out.c 3 _ rfl
    have xf0 := HX.out.z 0 (show 0 < 4 by decide); have xf1 := HX.out.z 1 (show 1 < 4 by decide); have xf2 := HX.out.z 2 (show 2 < 4 by decide); have xf3 := HX.out.z 3 (show 3 < 4 by decide)
    have y0 := HY.out.c 0 _ rfl; have y2 := HY.out.c 2 _ rfl; have y3 := HY.out.c 3 _ rfl
    have yf1 := HY.out.z 1 (show 1 < 4 by decide)
    go_enter Tryz.func13, Tryz.ntmps13
    go_wp2_with (at_builtin; refine wpList_append_own_none rfl _ _ _ rfl (w.heap.size + 2) 39 i0 2 Tryz.underlying40 hi _ 0 [] rfl (World.ownsRow_nil _ _ _ _) rfl ?_)
    go_wp2_with fail
    refine bodyPost_ret (resv_result (B := w.heap.size) rfl (bxs_setall4 (HX.out.other (b := w.heap.size + 1) (i := 1) (by omega) _) _ _ _ _)) rfl ?_
    exact ⟨_, _, _, rfl, by rw [HE.out]; exact World.ownsRow_nil _ _ _ _, HLEN.out, below_set4x (HB.out.setCell (show w.heap.size ≤ w.heap.size + 1 by omega) _) (Nat.le_refl _) _ _ _ _⟩
  · have HL : Hid ((Rs.tv regs).length = ry * 2) := Lib.hid (by rw [Rs.tv_length, HLEN.out])
    have H5 : Hid (0 + ry ≤ maxLen ∧ (0 + ry) * 16 ≤ 140737488355328) := Lib.hid ⟨by unfold maxLen; omega, by omega⟩
    have HSZ : Hid (w.heap.size + 2 ≤ w0.heap.size) := Lib.hid (by omega)
    clear hs0
    go_enter Tryz.func13, Tryz.ntmps13
    go_wp2_with (at_builtin; refine wpList_append_own _ rfl _ _ _ rfl (w.heap.size + 2) 39 i0 (.agg #[.int .i64 0, .int .i64 0]) 2 16 Tryz.underlying40 hi hz0 hz1 hz2 rfl (by decide) (.slice none 0 0) 0 [] rfl (World.ownsRow_nil _ _ _ _) x ry rz (Rs.tv regs) rfl HL.out (HC.out x rfl) (Rs.tv_one regs) H5.out.1 H5.out.2 HSZ.out ?_)
    intro v' w' q1 q2 _
    have q3 : w'.ownsRow (w.heap.size + 2) 39 2 v' ry (Rs.tv regs) := by simpa using q1
    obtain ⟨a6, c6, rfl⟩ := own_shape q3
    have HO := Lib.hid q3
    have HX6 := Lib.hid (HX.out.grown q2 (fun e => by cases e)); have HY6 := Lib.hid (HY.out.grown q2 (fun e => by cases e))
    have HB6 := Lib.hid (HB.out.grown q2 HB.out.size (fun k e => by cases e))
    clear q1 q2 q3 HL H5 HSZ HC HNL y1 c2 c3 c4 c5 hw0'
    have x0 := HX6.out.c 0 _ rfl; have x1 := HX6.out.c 1 _ rfl; have x2 := HX6.out.c 2 _ rfl; have x3 := HX6.out.c 3 _ rfl
    have xf0 := HX6.out.z 0 (show 0 < 4 by decide); have xf1 := HX6.out.z 1 (show 1 < 4 by decide); have xf2 := HX6.out.z 2 (show 2 < 4 by decide); have xf3 := HX6.out.z 3 (show 3 < 4 by decide)
    have y0 := HY6.out.c 0 _ rfl; have y1 := HY6.out.c 1 _ rfl; have y2 := HY6.out.c 2 _ rfl; have y3 := HY6.out.c 3 _ rfl
    have yf1 := HY6.out.z 1 (show 1 < 4 by decide)
    go_wp2_with fail
    refine bodyPost_ret (resv_result (B := w.heap.size) rfl (bxs_setall4 (HX6.out.other (b := w.heap.size + 1) (i := 1) (by omega) _) _ _ _ _)) rfl ?_
    exact ⟨_, _, _, rfl, own_low (row_set4 (row_set1 HO.out (show w.heap.size + 1 < w.heap.size + 2 by omega) _) (show w.heap.size < w.heap.size + 2 by omega) _ _ _ _) (by omega), HLEN.out, below_set4x (HB6.out.setCell (show w.heap.size ≤ w.heap.size + 1 by omega) _) (Nat.le_refl _) _ _ _ _⟩

end Go.Proofs.YtenkdpogdfcbgaaGreat

/- Targets: new ones; the first deed. -/
namespace Go.Proofs.YtenkdpogdfcbgaaGreat
open Go.RowKit

set_option maxHeartbeats 1000000 in
theorem New_X (w : World) : Calls Tryz.prog 7 #[] w fun e w' => e = .returned (.pointer (some ⟨w.heap.size, 0, none⟩)) ∧ Bxs w' w.heap.size (tgc none 0 0 none 0 0 none 0 0 Tg.zero) ∧ Below w.heap.size w w' ∧ w'.heap.size = w.heap.size + 1 := by
  have HX := fun T => Lib.hid (bxs_new w T #[.slice none 0 0, .slice none 0 0, .int .i64 0, .slice none 0 0, .int .i64 0, .int .i64 0, .string ⟨#[]⟩, .int .i64 0] [.slice none 0 0, .slice none 0 0, .int .i64 0, .slice none 0 0, .int .i64 0, .int .i64 0, .string ⟨#[]⟩, .int .i64 0] rfl)
  have HB := Lib.hid fun o => (Below.refl w.heap.size w).alloc (Nat.le_refl _) o
  go_enter Tryz.func7, Tryz.ntmps7
  go_wp2_with fail
  go_ret
  exact ⟨rfl, (HX _).out, HB.out _, World.size_alloc _ _⟩

theorem tgw_zero {w : World} {B base : Nat} (h : Bxs w B (tgc none 0 0 none 0 0 none 0 0 Tg.zero)) (hB : B < base) (hle : base ≤ w.heap.size) : TgW w B base Tg.zero 0 :=
  ⟨hB, hle, ⟨none, 0, 0, none, 0, 0, [], none, 0, 0, h, stW0 _ _, World.ownsRow_nil _ _ _ _⟩, Tg.good_zero⟩

abbrev Tg.opA : Lg.Op := ⟨1, ⟨#[97]⟩, ⟨#[]⟩, 1, ⟨#[]⟩⟩
abbrev Tg.t1 : Tg.S := ⟨⟨[], [⟨⟨#[97]⟩, [Bg.noId]⟩]⟩, Rg.zero, [Tg.opA]⟩
theorem Tg.do_first (x : Int) : Tg.doR Tg.zero x Tg.opA = ⟨Tg.t1, 0⟩ := by kernel_rfl

theorem Do_first (B base : Nat) (x : Int) (w : World) (h : TgW w B base Tg.zero 0) (hx0 : 0 ≤ x) (hx7 : x ≤ 7) :
    Calls Tryz.prog 8 #[.pointer (some ⟨B, 0, none⟩), .int .i64 x, .agg #[.int .i64 1, .string ⟨#[97]⟩, .string ⟨#[]⟩, .int .i64 1, .string ⟨#[]⟩]] w (TgTo w B base Tg.t1 0 (.returned (.int .i64 0))) := by
  have h1 := Do_T B base 0 Tg.zero x Tg.opA w h hx0 hx7 (by decide) (by decide) (by decide)
  rw [Tg.do_first] at h1
  exact h1

theorem doR_free {t : Tg.S} (h : t.r = Rg.zero) (x : Int) (o : Lg.Op) : Tg.doR t x o = Tg.doR t 0 o := by
  obtain ⟨st, r, l⟩ := t
  dsimp only at h
  subst h
  rfl

theorem readR_free {t : Tg.S} (h : t.r = Rg.zero) (x : Int) (name : ByteArray) (k : Int) : Tg.readR t x name k = Tg.readR t 0 name k := by
  obtain ⟨st, r, l⟩ := t
  dsimp only at h
  subst h
  rfl

theorem doR_r (t : Tg.S) (x : Int) (o : Lg.Op) : (Tg.doR t x o).t.r = t.r := by
  unfold Tg.doR
  split
  · rfl
  · split
    · rfl
    · split <;> rfl

/-- The volumes of a state by value; who is registered in a reservation by value. -/
theorem fd_vols (a b : Option Addr) (n c m d : Nat) : ∀ w : World, (Instr.field 33 (.agg #[.slice a n c, .slice b m d]) 1).run Tryz.prog w = .ok (.slice b m d) w := fun _ => by kernel_rfl

theorem fd_regs (g k q : Int) (x : Option Addr) (y z : Nat) : ∀ w : World, (Instr.field 42 (.agg #[.int .i64 g, .slice x y z, .int .i64 k, .int .i64 q]) 1).run Tryz.prog w = .ok (.slice x y z) w := fun _ => by kernel_rfl

/-- A deed's cells. -/
abbrev OpC (O : Nat) (o0 o1 o2 o3 o4 : Value) (V : World) : Prop :=
  V.cell? ⟨O, 0, none⟩ = some o0 ∧ V.cell? ⟨O, 1, none⟩ = some o1 ∧ V.cell? ⟨O, 2, none⟩ = some o2 ∧ V.cell? ⟨O, 3, none⟩ = some o3 ∧ V.cell? ⟨O, 4, none⟩ = some o4

theorem OpC.grown {O B : Nat} {o0 o1 o2 o3 o4 : Value} {V V' : World} (h : OpC O o0 o1 o2 o3 o4 V) (hg : V.grownBy V' (some B)) (hne : O ≠ B) : OpC O o0 o1 o2 o3 o4 V' := by
  have k : ∀ {j : Nat} {x : Value}, V.cell? ⟨O, j, none⟩ = some x → V'.cell? ⟨O, j, none⟩ = some x := fun h => hg.cell h (fun e => hne (Option.some.inj e))
  exact ⟨k h.1, k h.2.1, k h.2.2.1, k h.2.2.2.1, k h.2.2.2.2⟩

theorem OpC.drew {O : Nat} {o0 o1 o2 o3 o4 : Value} {V : World} (h : OpC O o0 o1 o2 o3 o4 V) : OpC O o0 o1 o2 o3 o4 V.drew := h

theorem tgTo_below {w W W' : World} {B : Nat} (h : Below w.heap.size w W) (hg : W.grownBy W' (some B)) (hB : w.heap.size ≤ B) : Below w.heap.size w W' := h.grown hg h.size (fun k e => by have := Option.some.inj e; omega)

end Go.Proofs.YtenkdpogdfcbgaaGreat
