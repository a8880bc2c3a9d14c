import Derived.Test.YtenkdpogdfcbgaaTgW
import Derived.Test.YtenkdpogdfcbgaaTgP
import Derived.Test.YtenkdpogdfcbgaaSameW
/- Walks: what a target tells; what a crash leaves. -/
namespace Go.Proofs.Ytenkdpogdfcbgaa
open Go.RowKit

theorem state_result {tmps : Array Value} {W : World} {B : Nat} {v0 v1 : Value} (h2 : tmps.getD 2 undef = .pointer (some ⟨B, 0, none⟩)) (h : Bxs W B [v0, v1]) :
    (results Try.f45 tmps).run Try.prog W = .ok (.agg #[v0, v1]) W := by
  have c0 := h.c 0 _ rfl; have c1 := h.c 1 _ rfl
  have hq : tmps[2]?.getD undef = .pointer (some ⟨B, 0, none⟩) := by simpa using h2
  simp [results, Try.results45, hq, go_sem, c0, c1]

set_option maxHeartbeats 2000000 in
theorem State_T (B base G : Nat) (t : Tg.S) (w : World) (h : TgW w B base t G) :
    Calls Try.prog 45 #[.pointer (some ⟨B, 0, none⟩)] w (StMade w t.st) := by
  obtain ⟨a, n, c, b, m, d, rs, rx, ry, rz, hX, hS, hR⟩ := h.ex
  have hr := h.good.right
  have hal := (Below.refl w.heap.size w).alloc (Nat.le_refl _) (.cells #[.slice none 0 0, .slice none 0 0] 53)
  have C1 := Copied_V a b n c m d base rs t.st _ (hS.keep hal) (by have := hr.len; rw [hS.vlen] at this; omega) (by rw [← hS.len]; exact hr.bag.len) (fun v hv => by have := (hr.vol v hv).len; omega)
  have HX := Lib.hid (bxs_new w 53 #[.slice none 0 0, .slice none 0 0] [.slice none 0 0, .slice none 0 0] rfl)
  have HB := Lib.hid hal
  have hX2 := hX.on hal
  unfold tgc at hX2
  have c0 := hX2.c 0 _ rfl; have c1 := hX2.c 1 _ rfl
  clear h hX hS hR hr hal hX2
  go_enter Try.func45, Try.ntmps45
  go_wp2_with fail
  with_reducible refine C1.mono ?_
  rintro e w1 ⟨a6, n6, c6, b6, m6, d6, rs6, rfl, hs, hb⟩
  have HX1 := Lib.hid (HX.out.on hb)
  have HS := Lib.hid (hs.low (show w.heap.size + 1 ≤ _ by rw [World.size_alloc]; exact Nat.le_refl _)); have HB1 := Lib.hid (HB.out.trans (hb.mono HB.out.size))
  clear hs hb C1 c0 c1
  have x0 := HX1.out.c 0 _ rfl; have x1 := HX1.out.c 1 _ rfl
  have xf0 := HX1.out.z 0 (show 0 < 2 by decide); have xf1 := HX1.out.z 1 (show 1 < 2 by decide)
  go_wp2_with fail
  have s1 := HS.out.other (B := w.heap.size) (i := 0) (HS.out.off (by omega)) (.slice a6 n6 c6)
  have s2 := s1.other (B := w.heap.size) (i := 1) (s1.off (by omega)) (.slice b6 m6 d6)
  refine bodyPost_ret (state_result (B := w.heap.size) rfl (HX1.out.set2 _ _)) rfl ?_
  exact ⟨_, _, _, _, _, _, _, rfl, s2.low (by omega), below_set2 HB1.out (Nat.le_refl _) _ _⟩

theorem bxs_setall4 {W : World} {B : Nat} {v0 v1 v2 v3 : Value} (h : Bxs W B [v0, v1, v2, v3]) (u0 u1 u2 u3 : Value) :
    Bxs ((((W.setCell ⟨B, 0, none⟩ u0).setCell ⟨B, 1, none⟩ u1).setCell ⟨B, 2, none⟩ u2).setCell ⟨B, 3, none⟩ u3) B [u0, u1, u2, u3] :=
  (((h.set 0 (by decide : 0 < 4) u0 rfl).set 1 (by decide : 1 < 4) u1 rfl).set 2 (by decide : 2 < 4) u2 rfl).set 3 (by decide : 3 < 4) u3 rfl

theorem row_set1 {w : World} {base : Nat} {e : TypeId} {size : Nat} {v : Value} {n : Nat} {xs : List Value} (h : w.ownsRow base e size v n xs) {B i : Nat} (hB : B < base) (u0 : Value) : (w.setCell ⟨B, i, none⟩ u0).ownsRow base e size v n xs :=
  own_other h (fun e => by have := row_base h B e; omega) u0

theorem below_set4x {N : Nat} {w W : World} {B i j k l : Nat} (h : Below N w W) (hN : N ≤ B) (u0 u1 u2 u3 : Value) : Below N w ((((W.setCell ⟨B, i, none⟩ u0).setCell ⟨B, j, none⟩ u1).setCell ⟨B, k, none⟩ u2).setCell ⟨B, l, none⟩ u3) :=
  (((h.setCell hN _).setCell hN _).setCell hN _).setCell hN _

/-- What a call of Resv leaves. -/
def ResvTo (w : World) (r : Rg.RV) (e : Ending) (w' : World) : Prop :=
  ∃ x y z, e = .returned (.agg #[.int .i64 r.gen, .slice x y z, .int .i64 r.kind, .int .i64 r.holder]) ∧ w'.ownsRow w.heap.size 109 2 (.slice x y z) y (Rs.tv r.regs) ∧ r.regs.length = y ∧ Below w.heap.size w w'

end Go.Proofs.Ytenkdpogdfcbgaa

/- Targets: new ones; the first deed. -/
namespace Go.Proofs.Ytenkdpogdfcbgaa
open Go.RowKit

set_option maxHeartbeats 1000000 in
theorem New_X (w : World) : Calls Try.prog 38 #[] w fun e w' => e = .returned (.pointer (some ⟨w.heap.size, 0, none⟩)) ∧ Bxs w' w.heap.size (tgc none 0 0 none 0 0 none 0 0 Tg.zero) ∧ Below w.heap.size w w' ∧ w'.heap.size = w.heap.size + 1 := by
  have HX := fun T => Lib.hid (bxs_new w T #[.slice none 0 0, .slice none 0 0, .int .i64 0, .slice none 0 0, .int .i64 0, .int .i64 0, .string ⟨#[]⟩, .int .i64 0] [.slice none 0 0, .slice none 0 0, .int .i64 0, .slice none 0 0, .int .i64 0, .int .i64 0, .string ⟨#[]⟩, .int .i64 0] rfl)
  have HB := Lib.hid fun o => (Below.refl w.heap.size w).alloc (Nat.le_refl _) o
  go_enter Try.func38, Try.ntmps38
  go_wp2_with fail
  go_ret
  exact ⟨rfl, (HX _).out, HB.out _, World.size_alloc _ _⟩

theorem tgw_zero {w : World} {B base : Nat} (h : Bxs w B (tgc none 0 0 none 0 0 none 0 0 Tg.zero)) (hB : B < base) (hle : base ≤ w.heap.size) : TgW w B base Tg.zero 0 :=
  ⟨hB, hle, ⟨none, 0, 0, none, 0, 0, [], none, 0, 0, h, stW0 _ _, World.ownsRow_nil _ _ _ _⟩, Tg.good_zero⟩

abbrev Tg.opA : Lg.Op := ⟨1, ⟨#[97]⟩, ⟨#[]⟩, 1, ⟨#[]⟩⟩
abbrev Tg.t1 : Tg.S := ⟨⟨[], [⟨⟨#[97]⟩, [Bg.noId]⟩]⟩, Rg.zero, [Tg.opA]⟩
theorem Tg.do_first (x : Int) : Tg.doR Tg.zero x Tg.opA = ⟨Tg.t1, 0⟩ := by kernel_rfl

theorem Do_first (B base : Nat) (x : Int) (w : World) (h : TgW w B base Tg.zero 0) (hx0 : 0 ≤ x) (hx7 : x ≤ 7) :
    Calls Try.prog 39 #[.pointer (some ⟨B, 0, none⟩), .int .i64 x, .agg #[.int .i64 1, .string ⟨#[97]⟩, .string ⟨#[]⟩, .int .i64 1, .string ⟨#[]⟩]] w (TgTo w B base Tg.t1 0 (.returned (.int .i64 0))) := by
  have h1 := Do_T B base 0 Tg.zero x Tg.opA w h hx0 hx7 (by decide) (by decide) (by decide)
  rw [Tg.do_first] at h1
  exact h1

theorem doR_free {t : Tg.S} (h : t.r = Rg.zero) (x : Int) (o : Lg.Op) : Tg.doR t x o = Tg.doR t 0 o := by
  obtain ⟨st, r, l⟩ := t
  dsimp only at h
  subst h
  rfl

theorem readR_free {t : Tg.S} (h : t.r = Rg.zero) (x : Int) (name : ByteArray) (k : Int) : Tg.readR t x name k = Tg.readR t 0 name k := by
  obtain ⟨st, r, l⟩ := t
  dsimp only at h
  subst h
  rfl

theorem doR_r (t : Tg.S) (x : Int) (o : Lg.Op) : (Tg.doR t x o).t.r = t.r := by
  unfold Tg.doR
  split
  · rfl
  · split
    · rfl
    · split <;> rfl

/-- The volumes of a state by value; who is registered in a reservation by value. -/
theorem fd_vols (a b : Option Addr) (n c m d : Nat) : ∀ w : World, (Instr.field 53 (.agg #[.slice a n c, .slice b m d]) 1).run Try.prog w = .ok (.slice b m d) w := fun _ => by kernel_rfl

theorem fd_regs (g k q : Int) (x : Option Addr) (y z : Nat) : ∀ w : World, (Instr.field 104 (.agg #[.int .i64 g, .slice x y z, .int .i64 k, .int .i64 q]) 1).run Try.prog w = .ok (.slice x y z) w := fun _ => by kernel_rfl

/-- A deed's cells. -/
abbrev OpC (O : Nat) (o0 o1 o2 o3 o4 : Value) (V : World) : Prop :=
  V.cell? ⟨O, 0, none⟩ = some o0 ∧ V.cell? ⟨O, 1, none⟩ = some o1 ∧ V.cell? ⟨O, 2, none⟩ = some o2 ∧ V.cell? ⟨O, 3, none⟩ = some o3 ∧ V.cell? ⟨O, 4, none⟩ = some o4

theorem OpC.grown {O B : Nat} {o0 o1 o2 o3 o4 : Value} {V V' : World} (h : OpC O o0 o1 o2 o3 o4 V) (hg : V.grownBy V' (some B)) (hne : O ≠ B) : OpC O o0 o1 o2 o3 o4 V' := by
  have k : ∀ {j : Nat} {x : Value}, V.cell? ⟨O, j, none⟩ = some x → V'.cell? ⟨O, j, none⟩ = some x := fun h => hg.cell h (fun e => hne (Option.some.inj e))
  exact ⟨k h.1, k h.2.1, k h.2.2.1, k h.2.2.2.1, k h.2.2.2.2⟩

theorem OpC.drew {O : Nat} {o0 o1 o2 o3 o4 : Value} {V : World} (h : OpC O o0 o1 o2 o3 o4 V) : OpC O o0 o1 o2 o3 o4 V.drew := h

theorem tgTo_below {w W W' : World} {B : Nat} (h : Below w.heap.size w W) (hg : W.grownBy W' (some B)) (hB : w.heap.size ≤ B) : Below w.heap.size w W' := h.grown hg h.size (fun k e => by have := Option.some.inj e; omega)

end Go.Proofs.Ytenkdpogdfcbgaa
