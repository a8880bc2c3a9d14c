/- Targets that lie there: a box of eight cells, and what it holds; what stands when other boxes are written. -/
import Derived.Test.YtenkdpogdfcbgaaGreatTgP
import Derived.Test.YtenkdpogdfcbgaaGreatLrW
import Derived.Test.YtenkdpogdfcbgaaGreatRgR
import Derived.Deep.RegionHeld3
import Derived.Deep.CutRange
import Derived.BigRegion
namespace Go.Proofs.YtenkdpogdfcbgaaGreat
open Go.RowKit

/-- The cells of a target. -/
def tgc (a : Option Addr) (n c : Nat) (b : Option Addr) (m d : Nat) (x : Option Addr) (y z : Nat) (t : Tg.S) : List Value :=
  [.slice a n c, .slice b m d, .int .i64 t.r.gen, .slice x y z, .int .i64 t.r.kind, .int .i64 t.r.holder, .string (Tg.text t), .int .i64 (t.l.length : Int)]

/-- A target that lies there: its box at block B, its rows from 'base' on. -/
structure TgW (w : World) (B base : Nat) (t : Tg.S) (G : Nat) : Prop where
  lt : B < base
  le : base ≤ w.heap.size
  ex : ∃ a n c b m d rs x y z, Bxs w B (tgc a n c b m d x y z t) ∧ StW w base a n c b m d rs t.st ∧ w.ownsRow base 39 2 (.slice x y z) y (Rs.tv t.r.regs)
  good : Tg.Good t G

section
variable {w w' : World} {B base B' : Nat} {t : Tg.S} {G : Nat}
theorem TgW.keep (h : TgW w B base t G) (hb : Below w.heap.size w w') : TgW w' B base t G := by
  obtain ⟨a, n, c, b, m, d, rs, x, y, z, h1, h2, h3⟩ := h.ex
  exact ⟨h.lt, Nat.le_trans h.le hb.size, ⟨a, n, c, b, m, d, rs, x, y, z, h1.on hb, h2.keep hb, own_keep h3 hb⟩, h.good⟩

theorem TgW.grown (h : TgW w B base t G) (hg : w.grownBy w' (some B')) (h1 : B' ≠ B) (h2 : B' < base) : TgW w' B base t G := by
  obtain ⟨a, n, c, b, m, d, rs, x, y, z, k1, k2, k3⟩ := h.ex
  refine ⟨h.lt, Nat.le_trans h.le hg.size, ⟨a, n, c, b, m, d, rs, x, y, z, k1.grown hg (fun e => h1 (Option.some.inj e).symm), k2.kept hg (fun v hv k hk e => ?_) (fun v hv k hk => (k2.lt v hv k hk).2), own_kept2 k3 hg (fun k hk e => ?_)⟩, h.good⟩
  · have := (k2.lt v hv k hk).1
    have := Option.some.inj e
    omega
  · have := row_base k3 k hk
    have := Option.some.inj e
    omega

theorem TgW.mono {H : Nat} (h : TgW w B base t G) (hg : G ≤ H) : TgW w B base t H := ⟨h.lt, h.le, h.ex, h.good.mono hg⟩
end

/-- A target that is written: a new state, its rows above all that was, and a log. -/
theorem gb_below {w W : World} {row : Option Nat} (h : Below w.heap.size w W) : w.grownBy W row := ⟨h.os, h.tape, h.output, h.size, fun k hk _ => h.block k hk⟩

theorem gb_set {w W : World} {B i : Nat} {u : Value} (h : w.grownBy W (some B)) : w.grownBy (W.setCell ⟨B, i, none⟩ u) (some B) :=
  ⟨h.os, h.tape, h.output, by rw [World.size_setCell]; exact h.size, fun k hk hne => by rw [heap_setCell_other W ⟨B, i, none⟩ k u (fun e => hne (by rw [e])), h.block k hk hne]⟩

theorem gb_trans {w W V : World} {row : Option Nat} (h : w.grownBy W row) (k : W.grownBy V row) : w.grownBy V row :=
  ⟨k.os.trans h.os, k.tape.trans h.tape, k.output.trans h.output, Nat.le_trans h.size k.size, fun j hj hne => (k.block j (Nat.lt_of_lt_of_le hj h.size) hne).trans (h.block j hj hne)⟩

theorem gb_tail {w W V : World} {row : Option Nat} (h : w.grownBy W row) (k : Below W.heap.size W V) : w.grownBy V row := gb_trans h (gb_below k)

theorem gb_alloc {w W : World} {row : Option Nat} (h : w.grownBy W row) (o : Obj) : w.grownBy (W.alloc o) row := gb_tail h ((Below.refl _ W).alloc (Nat.le_refl _) o)
theorem gb_drew {w W : World} {row : Option Nat} (h : w.grownBy W row) : w.grownBy W.drew row := gb_tail h (Below.refl _ W).drew

/-- What a call that leaves a target leaves. -/
def TgTo (w : World) (B base : Nat) (t : Tg.S) (G : Nat) (e0 : Ending) (e : Ending) (w' : World) : Prop := e = e0 ∧ TgW w' B base t G ∧ w.grownBy w' (some B)

theorem tgTo_same {w w' : World} {B base : Nat} {t : Tg.S} {G : Nat} {e : Ending} (h : TgW w B base t G) (hb : Below w.heap.size w w') : TgTo w B base t G e e w' := ⟨rfl, h.keep hb, gb_below hb⟩

theorem bxs_set4 {W : World} {B : Nat} {v0 v1 v2 v3 v4 v5 v6 v7 : Value} (h : Bxs W B [v0, v1, v2, v3, v4, v5, v6, v7]) (u0 u1 u6 u7 : Value) :
    Bxs ((((W.setCell ⟨B, 0, none⟩ u0).setCell ⟨B, 1, none⟩ u1).setCell ⟨B, 6, none⟩ u6).setCell ⟨B, 7, none⟩ u7) B [u0, u1, v2, v3, v4, v5, u6, u7] :=
  (((h.set 0 (by decide : 0 < 8) u0 rfl).set 1 (by decide : 1 < 8) u1 rfl).set 6 (by decide : 6 < 8) u6 rfl).set 7 (by decide : 7 < 8) u7 rfl

theorem bxs_setR {W : World} {B : Nat} {v0 v1 v2 v3 v4 v5 v6 v7 : Value} (h : Bxs W B [v0, v1, v2, v3, v4, v5, v6, v7]) (u2 u3 u4 u5 : Value) :
    Bxs ((((W.setCell ⟨B, 2, none⟩ u2).setCell ⟨B, 3, none⟩ u3).setCell ⟨B, 4, none⟩ u4).setCell ⟨B, 5, none⟩ u5) B [v0, v1, u2, u3, u4, u5, v6, v7] :=
  (((h.set 2 (by decide : 2 < 8) u2 rfl).set 3 (by decide : 3 < 8) u3 rfl).set 4 (by decide : 4 < 8) u4 rfl).set 5 (by decide : 5 < 8) u5 rfl

theorem st_set4 {w : World} {base : Nat} {a : Option Addr} {n c : Nat} {b : Option Addr} {m d : Nat} {rs : List Rw} {s : Vo.St} (h : StW w base a n c b m d rs s) {B i j k l : Nat} (hB : B < base) (u0 u1 u2 u3 : Value) :
    StW ((((w.setCell ⟨B, i, none⟩ u0).setCell ⟨B, j, none⟩ u1).setCell ⟨B, k, none⟩ u2).setCell ⟨B, l, none⟩ u3) base a n c b m d rs s :=
  (((h.other (h.off hB) u0).other (h.off hB) u1).other (h.off hB) u2).other (h.off hB) u3

theorem st_set2 {w : World} {base : Nat} {a : Option Addr} {n c : Nat} {b : Option Addr} {m d : Nat} {rs : List Rw} {s : Vo.St} (h : StW w base a n c b m d rs s) {B : Nat} (hB : B < base) (u0 u1 : Value) :
    StW ((w.setCell ⟨B, 0, none⟩ u0).setCell ⟨B, 1, none⟩ u1) base a n c b m d rs s := (h.other (h.off hB) u0).other (h.off hB) u1

theorem row_set4 {w : World} {base : Nat} {e : TypeId} {size : Nat} {v : Value} {n : Nat} {xs : List Value} (h : w.ownsRow base e size v n xs) {B i j k l : Nat} (hB : B < base) (u0 u1 u2 u3 : Value) :
    ((((w.setCell ⟨B, i, none⟩ u0).setCell ⟨B, j, none⟩ u1).setCell ⟨B, k, none⟩ u2).setCell ⟨B, l, none⟩ u3).ownsRow base e size v n xs := by
  have ho : v.ownBlock ≠ some B := fun e => by have := row_base h B e; omega
  exact own_other (own_other (own_other (own_other h ho u0) ho u1) ho u2) ho u3

theorem tgw_done {wN : World} {B base G : Nat} {a : Option Addr} {n c : Nat} {b : Option Addr} {m d : Nat} {x : Option Addr} {y z : Nat} {t : Tg.S} {a6 : Option Addr} {n6 c6 : Nat} {b6 : Option Addr} {m6 d6 : Nat} {rs6 : List Rw} {st : Vo.St} {l : List Lg.Op} {T : ByteArray} {K : Int}
    (hX : Bxs wN B (tgc a n c b m d x y z t)) (hlt : B < base) (hle : base ≤ wN.heap.size) (hS : StW wN base a6 n6 c6 b6 m6 d6 rs6 st) (hR : wN.ownsRow base 39 2 (.slice x y z) y (Rs.tv t.r.regs))
    (hT : T = Tg.text ⟨st, t.r, l⟩) (hK : K = (l.length : Int)) (hG : Tg.Good ⟨st, t.r, l⟩ G) :
    TgW ((((wN.setCell ⟨B, 0, none⟩ (.slice a6 n6 c6)).setCell ⟨B, 1, none⟩ (.slice b6 m6 d6)).setCell ⟨B, 6, none⟩ (.string T)).setCell ⟨B, 7, none⟩ (.int .i64 K)) B base ⟨st, t.r, l⟩ G := by
  subst hT; subst hK
  exact ⟨hlt, by simp only [World.size_setCell]; exact hle, ⟨_, _, _, _, _, _, _, _, _, _, bxs_set4 hX _ _ _ _, st_set4 hS hlt _ _ _ _, row_set4 hR hlt _ _ _ _⟩, hG⟩

theorem gb_set4 {w W : World} {B i j k l : Nat} {u0 u1 u2 u3 : Value} (h : w.grownBy W (some B)) : w.grownBy ((((W.setCell ⟨B, i, none⟩ u0).setCell ⟨B, j, none⟩ u1).setCell ⟨B, k, none⟩ u2).setCell ⟨B, l, none⟩ u3) (some B) := gb_set (gb_set (gb_set (gb_set h)))

/-- Cells of a target's box and of a deed's; what stands below. -/
abbrev TgS (w : World) (B O : Nat) (v0 v1 o0 o1 o2 o3 o4 : Value) (V : World) : Prop :=
  V.cell? ⟨B, 0, none⟩ = some v0 ∧ V.cell? ⟨B, 1, none⟩ = some v1 ∧ V.cell? ⟨O, 0, none⟩ = some o0 ∧ V.cell? ⟨O, 1, none⟩ = some o1 ∧ V.cell? ⟨O, 2, none⟩ = some o2 ∧ V.cell? ⟨O, 3, none⟩ = some o3 ∧ V.cell? ⟨O, 4, none⟩ = some o4 ∧ Below w.heap.size w V

section
variable {w : World} {B O : Nat} {v0 v1 o0 o1 o2 o3 o4 : Value} {V V' : World}
theorem TgS.on (h : TgS w B O v0 v1 o0 o1 o2 o3 o4 V) (hb : Below V.heap.size V V') : TgS w B O v0 v1 o0 o1 o2 o3 o4 V' := by
  obtain ⟨a0, a1, b0, b1, b2, b3, b4, hB⟩ := h
  have k : ∀ {p : Addr} {x : Value}, V.cell? p = some x → V'.cell? p = some x := fun h => by rw [hb.cell (World.block_lt_of_cell? V _ h)]; exact h
  exact ⟨k a0, k a1, k b0, k b1, k b2, k b3, k b4, hB.trans (hb.mono hB.size)⟩

theorem TgS.drew (h : TgS w B O v0 v1 o0 o1 o2 o3 o4 V) : TgS w B O v0 v1 o0 o1 o2 o3 o4 V.drew := h.on (Below.refl _ V).drew
theorem TgS.set2 (h : TgS w B O v0 v1 o0 o1 o2 o3 o4 V) {N : Nat} (hB : B < N) (hO : O < N) (hw : w.heap.size ≤ N) (u0 u1 : Value) : TgS w B O v0 v1 o0 o1 o2 o3 o4 ((V.setCell ⟨N, 0, none⟩ u0).setCell ⟨N, 1, none⟩ u1) := by
  obtain ⟨a0, a1, b0, b1, b2, b3, b4, hb⟩ := h
  have k : ∀ {b j : Nat} {x : Value}, b < N → V.cell? ⟨b, j, none⟩ = some x → ((V.setCell ⟨N, 0, none⟩ u0).setCell ⟨N, 1, none⟩ u1).cell? ⟨b, j, none⟩ = some x := fun hlt h => by
    rw [World.cell?_setCell_other _ _ _ _ (by simp only [ne_eq, Addr.mk.injEq, not_and]; omega), World.cell?_setCell_other _ _ _ _ (by simp only [ne_eq, Addr.mk.injEq, not_and]; omega)]
    exact h
  exact ⟨k hB a0, k hB a1, k hO b0, k hO b1, k hO b2, k hO b3, k hO b4, below_set2 hb hw _ _⟩

theorem TgS.alloc (h : TgS w B O v0 v1 o0 o1 o2 o3 o4 V) (o : Obj) : TgS w B O v0 v1 o0 o1 o2 o3 o4 (V.alloc o) := h.on ((Below.refl _ V).alloc (Nat.le_refl _) o)
end

set_option maxRecDepth 100000 in
set_option maxHeartbeats 8000000 in
theorem Do_T (B base G : Nat) (t : Tg.S) (x : Int) (o : Lg.Op) (w : World) (h : TgW w B base t G) (hx0 : 0 ≤ x) (hx7 : x ≤ 7) (h1 : o.nm.size ≤ maxLen) (h2 : o.tn.size ≤ maxLen) (h3 : o.tx.size ≤ maxLen) :
    Calls Tryz.prog 8 #[.pointer (some ⟨B, 0, none⟩), .int .i64 x, .agg #[.int .i64 o.k, .string o.nm, .string o.tn, .int .i64 o.a, .string o.tx]] w (TgTo w B base (Tg.doR t x o).t G (.returned (.int .i64 ((Tg.doR t x o).e : Nat)))) := by
  obtain ⟨a, n, c, b, m, d, rs, rx, ry, rz, hX, hS, hR⟩ := h.ex
  have hG := h.good
  have HD := Lib.hid (Tg.do_good hG x o)
  have HZ := Lib.hid hG.size
  have HLN := Lib.hid hG.len
  have hal := (Below.refl w.heap.size w).alloc (Nat.le_refl _) (.cells #[.int .i64 o.k, .string o.nm, .string o.tn, .int .i64 o.a, .string o.tx] 29)
  have HB := Lib.hid hal
  have HX := Lib.hid (hX.on hal)
  have HO := Lib.hid (bxs_new w 29 #[.int .i64 o.k, .string o.nm, .string o.tn, .int .i64 o.a, .string o.tx] [.int .i64 o.k, .string o.nm, .string o.tn, .int .i64 o.a, .string o.tx] rfl)
  have HT := Lib.hid h
  obtain ⟨st, ⟨g, regs, k, q⟩, l⟩ := t
  obtain ⟨v, hv⟩ : ∃ v, Rg.mayB ⟨g, regs, k, q⟩ x true = v := ⟨_, rfl⟩
  have MAY : Hid (∀ W, Below w.heap.size w W → Calls Tryz.prog 21 #[.agg #[.int .i64 g, .slice rx ry rz, .int .i64 k, .int .i64 q], .int .i64 x, .bool true] W fun e w' => e = .returned (.tuple #[.bool v, .int .i64 0]) ∧ Below W.heap.size W w') :=
    Lib.hid fun W hb => Rs.May_R g k q x true v rx ry rz regs W hG.rv (Rs.own_tsl hR hb) hx0 hx7 hv
  obtain ⟨D, hD⟩ : ∃ D, Vo.doR st o = D := ⟨_, rfl⟩
  have DOV : Hid (∀ W, Below w.heap.size w W → Calls Tryz.prog 27 #[.agg #[.slice a n c, .slice b m d], .agg #[.int .i64 o.k, .string o.nm, .string o.tn, .int .i64 o.a, .string o.tx]] W (StTo W D)) := Lib.hid fun W hb => by
    rw [← hD]; exact Do_V a b n c m d base rs st o W (hS.keep hb) hG.right h1 h2 h3
  have ENC : Hid (D.e = 0 → (∀ W, Calls Tryz.prog 28 #[.agg #[.int .i64 o.k, .string o.nm, .string o.tn, .int .i64 o.a, .string o.tx]] W fun e w' => e = .returned (.tuple #[.string ⟨(Lr.body o).toArray⟩, .int .i64 0]) ∧ Below W.heap.size W w') ∧ ∀ W, Calls Tryz.prog 29 #[.agg #[.int .i64 1, .string ⟨(Lr.body o).toArray⟩]] W fun e w' => e = .returned (.tuple #[.string ⟨(Lr.frm o).toArray⟩, .int .i64 0]) ∧ Below W.heap.size W w') := Lib.hid fun h0 => by
    have hc := Lr.do_chk (s := st) (o := o) (by rw [hD]; exact h0)
    exact ⟨fun W => Encode_op hc W, fun W => Put_frm hc W⟩
  have HFZ : Hid (D.e = 0 → (⟨(Lr.frm o).toArray⟩ : ByteArray).size ≤ 100) := Lib.hid fun h0 => by
    have hc := Lr.do_chk (s := st) (o := o) (by rw [hD]; exact h0)
    have hb := Lr.body_length hc
    have hf := Lr.frm_length hc
    show (Lr.frm o).toArray.size ≤ _
    rw [List.size_toArray]
    omega
  obtain ⟨R, hRR⟩ : ∃ R, Tg.doR ⟨st, ⟨g, regs, k, q⟩, l⟩ x o = R := ⟨_, rfl⟩
  rw [hRR] at HD ⊢
  unfold Tg.doR at hRR
  dsimp only at hRR
  rw [hv, hD] at hRR
  have hlt := h.lt; have hle := h.le
  have HS := Lib.hid hS; have HR := Lib.hid hR
  have HTX : Hid (∀ st', Tg.text ⟨st', ⟨g, regs, k, q⟩, l ++ [o]⟩ = Tg.text ⟨st, ⟨g, regs, k, q⟩, l⟩ ++ ⟨(Lr.frm o).toArray⟩) := Lib.hid fun st' => Tg.text_do (t := ⟨st, ⟨g, regs, k, q⟩, l⟩) o st' _
  have HLL : Hid ((l ++ [o]).length = l.length + 1) := Lib.hid (by rw [List.length_append]; rfl)
  unfold tgc at HX
  dsimp only at HX HZ HLN
  obtain ⟨l', hl'⟩ : ∃ l', l ++ [o] = l' := ⟨_, rfl⟩
  rw [hl'] at hRR HTX HLL
  have HL' := Lib.hid hl'
  clear h hX hS hR hG hal hv hD h1 h2 h3 hl'
  generalize (⟨(Lr.body o).toArray⟩ : ByteArray) = s1 at *
  generalize (⟨(Lr.frm o).toArray⟩ : ByteArray) = s2 at *
  obtain ⟨TX, hTX⟩ : ∃ TX, Tg.text ⟨st, ⟨g, regs, k, q⟩, l⟩ = TX := ⟨_, rfl⟩
  rw [hTX] at HX HTX HZ
  have HTY := Lib.hid hTX
  clear hTX
  generalize o.k = f1 at *
  generalize o.nm = f2 at *
  generalize o.tn = f3 at *
  generalize o.a = f4 at *
  generalize o.tx = f5 at *
  obtain ⟨N, hN⟩ : ∃ N, l.length = N := ⟨_, rfl⟩
  rw [hN] at hRR HLL HLN HX
  have HN := Lib.hid hN
  clear hN
  have M1 := MAY.out _ HB.out
  have c0 := HX.out.c 0 _ rfl; have c1 := HX.out.c 1 _ rfl; have c2 := HX.out.c 2 _ rfl; have c3 := HX.out.c 3 _ rfl; have c4 := HX.out.c 4 _ rfl; have c5 := HX.out.c 5 _ rfl
  go_enter Tryz.func8, Tryz.ntmps8
  go_wp2_with fail
  with_reducible refine M1.mono ?_
  rintro e w1 ⟨rfl, hb1⟩
  have HB1 := Lib.hid (HB.out.trans (hb1.mono HB.out.size)); have HX1 := Lib.hid (HX.out.on hb1); have HO1 := Lib.hid (HO.out.on hb1)
  clear hb1 M1 c0 c1 c2 c3 c4 c5 MAY
  cases v
  · rw [if_pos rfl] at hRR
    subst hRR
    go_wp2_with fail
    go_ret
    exact tgTo_same HT.out HB1.out
  · rw [if_neg (by decide)] at hRR
    have HS1 : Hid (TgS w1 B w.heap.size (.slice a n c) (.slice b m d) (.int .i64 f1) (.string f2) (.string f3) (.int .i64 f4) (.string f5) w1) := Lib.hid ⟨HX1.out.c 0 _ rfl, HX1.out.c 1 _ rfl, HO1.out.c 0 _ rfl, HO1.out.c 1 _ rfl, HO1.out.c 2 _ rfl, HO1.out.c 3 _ rfl, HO1.out.c 4 _ rfl, Below.refl _ _⟩
    have DW : Hid (∀ V, Below w1.heap.size w1 V → Calls Tryz.prog 27 #[.agg #[.slice a n c, .slice b m d], .agg #[.int .i64 f1, .string f2, .string f3, .int .i64 f4, .string f5]] V (StTo V D)) := Lib.hid fun V hb => DOV.out V (HB1.out.trans (hb.mono HB1.out.size))
    have hle1 : base ≤ w1.heap.size := Nat.le_trans hle HB1.out.size
    have hN1 : B < w1.heap.size := Nat.lt_of_lt_of_le hlt hle1
    have hN2 : w.heap.size < w1.heap.size := HO1.out.lt
    obtain ⟨c0, c1, o0, o1, o2, o3, o4, hb0⟩ := HS1.out
    clear DOV
    go_upto_region 6 with (fail)
    go_cut [8, 9] from 28 to 37 (fun s8 s9 wx => ∃ (X : Nat) (a6 : Option Addr) (n6 c6 : Nat) (b6 : Option Addr) (m6 d6 : Nat) (rs6 : List Rw), s8 = .int .i64 (D.e : Nat) ∧ s9 = .pointer (some ⟨X, 0, none⟩) ∧ Hid (Bxs wx X [.slice a6 n6 c6, .slice b6 m6 d6]) ∧ Hid (StW wx base a6 n6 c6 b6 m6 d6 rs6 D.s) ∧ Hid (Below w1.heap.size w1 wx))
    case first =>
      go_region_held3 (fun V => V.cell? ⟨B, 0, none⟩ = some (.slice a n c) ∧ V.cell? ⟨B, 1, none⟩ = some (.slice b m d) ∧ V.cell? ⟨w.heap.size, 0, none⟩ = some (.int .i64 f1) ∧ V.cell? ⟨w.heap.size, 1, none⟩ = some (.string f2) ∧ V.cell? ⟨w.heap.size, 2, none⟩ = some (.string f3) ∧ V.cell? ⟨w.heap.size, 3, none⟩ = some (.int .i64 f4) ∧ V.cell? ⟨w.heap.size, 4, none⟩ = some (.string f5) ∧ Below w1.heap.size w1 V)
        (first | with_reducible exact HSS.out | with_reducible exact TgS.alloc HSS.out _ | with_reducible exact TgS.set2 HSS.out hN1 hN2 (Nat.le_refl _) _ _ | with_reducible exact TgS.drew HS1.out | with_reducible exact HS1.out | with_reducible exact TgS.drew (TgS.alloc HS1.out _) | with_reducible exact TgS.alloc HS1.out _)
        ((go_at_call 27; (with_reducible refine (DW.out _ (by first | with_reducible assumption | (go_split_ands; with_reducible assumption))).mono ?_); rintro e ws ⟨a6, n6, c6, b6, m6, d6, rs6, rfl, hs6, hbs⟩; have HSS := Lib.hid (TgS.on (by first | with_reducible exact TgS.drew HS1.out | with_reducible exact HS1.out | with_reducible exact TgS.drew (TgS.alloc HS1.out _) | with_reducible exact TgS.alloc HS1.out _) hbs); have HS6 := Lib.hid hs6; have HBS := Lib.hid hbs; (first | (have HQ := Lib.hid ((bxs_new w1 33 #[.slice none 0 0, .slice none 0 0] [.slice none 0 0, .slice none 0 0] rfl).drew.on hbs); have q0 := HQ.out.c 0 _ rfl; have q1 := HQ.out.c 1 _ rfl; have qf0 := HQ.out.z 0 (show 0 < 2 by decide); have qf1 := HQ.out.z 1 (show 1 < 2 by decide)) | skip); clear hs6 hbs))
      all_goals
        go_wp2_with fail
        go_meet
        case rel =>
          first
            | exact ⟨_, _, _, _, _, _, _, _, rfl, rfl, Lib.hid (bxs_new _ _ _ _ rfl), Lib.hid ((HS6.out.low hle1).keep ((Below.refl _ _).alloc (Nat.le_refl _) _)), Lib.hid (HSS.out.2.2.2.2.2.2.2.alloc HSS.out.2.2.2.2.2.2.2.size _)⟩
            | exact ⟨w1.heap.size, _, _, _, _, _, _, _, rfl, rfl, Lib.hid (HQ.out.set2 _ _), Lib.hid ((st_set2 HS6.out (by show w1.heap.size < (w1.alloc _).heap.size; rw [World.size_alloc]; exact Nat.lt_succ_self _) _ _).low (Nat.le_trans hle1 (by show w1.heap.size ≤ (w1.alloc _).heap.size; rw [World.size_alloc]; exact Nat.le_succ _))), Lib.hid (below_set2 HSS.out.2.2.2.2.2.2.2 (Nat.le_refl _) _ _)⟩
    case rest =>
      obtain ⟨X, a6, n6, c6, b6, m6, d6, rs6, rfl, rfl, HY2, HS6, HW2⟩ := hcut
      have HB2 := Lib.hid (HB1.out.trans (HW2.out.mono HB1.out.size)); have HX2 := Lib.hid (HX1.out.on HW2.out); have HO2 := Lib.hid (HO1.out.on HW2.out)
      clear c0 c1 o0 o1 o2 o3 o4 hb0 DW HS1
      obtain ⟨DS, DE⟩ := D
      dsimp only at *
      by_cases hE : DE = 0
      · subst hE
        rw [if_neg (fun h => h rfl)] at hRR
        obtain ⟨EN, PU⟩ := ENC.out rfl
        have hfz := HFZ.out rfl
        clear ENC HFZ
        have c7 := HX2.out.c 7 _ rfl
        by_cases hN : N = 200
        · rw [if_pos hN] at hRR
          subst hRR
          subst hN
          go_wp2_with fail
          go_ret
          exact tgTo_same HT.out HB2.out
        · rw [if_neg hN] at hRR
          subst hRR
          have hb7 : ((N : Int) == 200) = false := beq_eq_false_iff_ne.2 (by omega)
          have o0 := HO2.out.c 0 _ rfl; have o1 := HO2.out.c 1 _ rfl; have o2 := HO2.out.c 2 _ rfl; have o3 := HO2.out.c 3 _ rfl; have o4 := HO2.out.c 4 _ rfl
          have E1 := EN wc
          go_wp2_with fail
          with_reducible refine E1.mono ?_
          rintro e w4 ⟨rfl, hb4⟩
          have HB4 := Lib.hid (HB2.out.trans (hb4.mono HB2.out.size)); have HX4 := Lib.hid (HX2.out.on hb4); have HS8 := Lib.hid (HS6.out.keep hb4); have HY4 := Lib.hid (HY2.out.on hb4)
          clear hb4 E1 EN o0 o1 o2 o3 o4 c7
          have P1 := PU w4
          go_wp2_with fail
          with_reducible refine P1.mono ?_
          rintro e w5 ⟨rfl, hb5⟩
          have HB5 := Lib.hid (HB4.out.trans (hb5.mono HB4.out.size)); have HX5 := Lib.hid (HX4.out.on hb5); have HS9 := Lib.hid (HS8.out.keep hb5); have HY5 := Lib.hid (HY4.out.on hb5)
          clear hb5 P1 PU
          have x0 := HX5.out.c 0 _ rfl; have x1 := HX5.out.c 1 _ rfl; have x6 := HX5.out.c 6 _ rfl; have x7 := HX5.out.c 7 _ rfl
          have z0 := HX5.out.z 0 (show 0 < 8 by decide); have z1 := HX5.out.z 1 (show 1 < 8 by decide); have z6 := HX5.out.z 6 (show 6 < 8 by decide); have z7 := HX5.out.z 7 (show 7 < 8 by decide)
          have y0 := HY5.out.c 0 _ rfl; have y1 := HY5.out.c 1 _ rfl
          have hsum : ¬ (9223372036854775807 < TX.size + s2.size) := by have := HZ.out; omega
          have hN2 := HLN.out
          have HX6 : Hid (Bxs w5 B (tgc a n c b m d rx ry rz ⟨st, ⟨g, regs, k, q⟩, l⟩)) := Lib.hid (by unfold tgc; dsimp only; rw [HN.out]; rw [HTY.out]; exact HX5.out)
          go_wp2_with fail
          go_region
          all_goals
            go_wp2_with fail
            go_ret
            exact ⟨rfl, (tgw_done (t := ⟨st, ⟨g, regs, k, q⟩, l⟩) (T := TX ++ s2) (K := (N : Int) + 1) (l := l') (st := DS) (x := rx) (y := ry) (z := rz) HX6.out hlt (Nat.le_trans hle HB5.out.size) HS9.out (own_keep HR.out HB5.out) (by rw [HTX.out]) (by rw [HLL.out]; omega) HD.out).keep (Below.refl _ _).drew, gb_drew (gb_set4 (gb_below HB5.out))⟩
      · have hb : ((DE : Int) != 0) = true := bne_iff_ne.2 (by omega)
        rw [if_pos hE] at hRR
        subst hRR
        clear hE
        go_wp2_with fail
        go_ret
        exact tgTo_same HT.out HB2.out

theorem rz_keep (t : Tg.S) (r : Rg.RV) (E : Nat) : Tg.keep t (Rs.rz r E) E = Tg.keep t r E := by
  unfold Tg.keep Rs.rz
  by_cases h : E = 0
  · subst h; rfl
  · rw [if_neg h, if_neg h]

theorem tgw_kept {wN : World} {B base G : Nat} {a : Option Addr} {n c : Nat} {b : Option Addr} {m d : Nat} {x : Option Addr} {y z : Nat} {t : Tg.S} {rs : List Rw} {r : Rg.RV} {x6 : Option Addr} {y6 z6 : Nat}
    (hX : Bxs wN B (tgc a n c b m d x y z t)) (hlt : B < base) (hle : base ≤ wN.heap.size) (hS : StW wN base a n c b m d rs t.st) (hR : wN.ownsRow base 39 2 (.slice x6 y6 z6) y6 (Rs.tv r.regs)) (hG : Tg.Good ⟨t.st, r, t.l⟩ G) :
    TgW ((((wN.setCell ⟨B, 2, none⟩ (.int .i64 r.gen)).setCell ⟨B, 3, none⟩ (.slice x6 y6 z6)).setCell ⟨B, 4, none⟩ (.int .i64 r.kind)).setCell ⟨B, 5, none⟩ (.int .i64 r.holder)) B base ⟨t.st, r, t.l⟩ G :=
  ⟨hlt, by simp only [World.size_setCell]; exact hle, ⟨_, _, _, _, _, _, _, _, _, _, bxs_setR hX _ _ _ _, st_set4 hS hlt _ _ _ _, row_set4 hR hlt _ _ _ _⟩, hG⟩

set_option maxRecDepth 100000 in
set_option maxHeartbeats 4000000 in
theorem keep_T (B base G H : Nat) (t : Tg.S) (r : Rg.RV) (E : Nat) (x : Option Addr) (y z : Nat) (w : World) (h : TgW w B base t G) (ho : w.ownsRow base 39 2 (.slice x y z) y (Rs.tv r.regs)) (hg : Tg.Good (Tg.keep t r E).t H) (hGH : G ≤ H) :
    Calls Tryz.prog 41 #[.pointer (some ⟨B, 0, none⟩), .agg #[.int .i64 r.gen, .slice x y z, .int .i64 r.kind, .int .i64 r.holder], .int .i64 (E : Nat)] w (TgTo w B base (Tg.keep t r E).t H (.returned (.int .i64 (E : Nat)))) := by
  obtain ⟨a, n, c, b, m, d, rs, rx, ry, rz, hX, hS, hR⟩ := h.ex
  have hal := (Below.refl w.heap.size w).alloc (Nat.le_refl _) (.cells #[.int .i64 r.gen, .slice x y z, .int .i64 r.kind, .int .i64 r.holder] 42)
  have HB := Lib.hid hal
  have HX := Lib.hid (hX.on hal)
  have HY := Lib.hid (bxs_new w 42 #[.int .i64 r.gen, .slice x y z, .int .i64 r.kind, .int .i64 r.holder] [.int .i64 r.gen, .slice x y z, .int .i64 r.kind, .int .i64 r.holder] rfl)
  have HT := Lib.hid (h.mono hGH)
  have HS := Lib.hid (hS.keep hal)
  have HO := Lib.hid (own_keep ho hal)
  have hlt := h.lt
  have hle : base ≤ (w.alloc (.cells #[.int .i64 r.gen, .slice x y z, .int .i64 r.kind, .int .i64 r.holder] 42)).heap.size := Nat.le_trans h.le hal.size
  have HLE := Lib.hid hle
  clear h hX hS hR hal ho hle
  by_cases hE : E = 0
  · subst hE
    have HG : Hid (Tg.Good ⟨t.st, r, t.l⟩ H) := Lib.hid hg
    rw [show (Tg.keep t r 0).t = ⟨t.st, r, t.l⟩ from rfl]
    clear hg
    have HX' := HX
    unfold tgc at HX
    have y0 := HY.out.c 0 _ rfl; have y1 := HY.out.c 1 _ rfl; have y2 := HY.out.c 2 _ rfl; have y3 := HY.out.c 3 _ rfl
    have x2 := HX.out.c 2 _ rfl; have x3 := HX.out.c 3 _ rfl; have x4 := HX.out.c 4 _ rfl; have x5 := HX.out.c 5 _ rfl
    have z2 := HX.out.z 2 (show 2 < 8 by decide); have z3 := HX.out.z 3 (show 3 < 8 by decide); have z4 := HX.out.z 4 (show 4 < 8 by decide); have z5 := HX.out.z 5 (show 5 < 8 by decide)
    go_enter Tryz.func41, Tryz.ntmps41
    go_wp2_with fail
    go_ret
    exact ⟨rfl, tgw_kept HX'.out hlt HLE.out HS.out HO.out HG.out, gb_set4 (gb_below HB.out)⟩
  · have hb : ((E : Int) == 0) = false := beq_eq_false_iff_ne.2 (by omega)
    have HT' : Hid (TgW w B base (Tg.keep t r E).t H) := by
      rw [show (Tg.keep t r E).t = t from if_neg hE]; exact HT
    clear hE hg
    go_enter Tryz.func41, Tryz.ntmps41
    go_wp2_with fail
    go_ret
    exact tgTo_same HT'.out HB.out

/-- A call of keep behind a call that answers a reservation. -/
theorem keep_rto {B base G H : Nat} {t : Tg.S} {r : Rg.RV} {E : Nat} {w w1 : World} {e : Ending} (h : TgW w B base t G) (hg : Tg.Good (Tg.keep t r E).t H) (hGH : G ≤ H) (hr : Rs.RTo w (Rs.rz r E) E e w1) :
    ∃ x y z, e = .returned (.tuple #[.agg #[.int .i64 (Rs.rz r E).gen, .slice x y z, .int .i64 (Rs.rz r E).kind, .int .i64 (Rs.rz r E).holder], .int .i64 (E : Nat)]) ∧
      Calls Tryz.prog 41 #[.pointer (some ⟨B, 0, none⟩), .agg #[.int .i64 (Rs.rz r E).gen, .slice x y z, .int .i64 (Rs.rz r E).kind, .int .i64 (Rs.rz r E).holder], .int .i64 (E : Nat)] w1 fun e w' => e = .returned (.int .i64 (E : Nat)) ∧ TgW w' B base (Tg.keep t r E).t H ∧ w.grownBy w' (some B) := by
  obtain ⟨x, y, z, rfl, ho, hb⟩ := hr
  refine ⟨x, y, z, rfl, ?_⟩
  have hk := keep_T B base G H t (Rs.rz r E) E x y z w1 (h.keep hb) (own_low ho h.le) (by rw [rz_keep]; exact hg) hGH
  rw [rz_keep] at hk
  refine hk.mono ?_
  rintro e w' ⟨rfl, h1, h2⟩
  exact ⟨rfl, h1, gb_trans (gb_below hb) h2⟩

set_option maxRecDepth 100000 in
set_option maxHeartbeats 4000000 in
theorem Register_T (B base G : Nat) (t : Tg.S) (x old y : Int) (w : World) (h : TgW w B base t G) (hG : G < 1000) (hx0 : 0 ≤ x) (hx7 : x ≤ 7) (hy0 : 0 ≤ y) (hy1 : y ≤ 1000) :
    Calls Tryz.prog 17 #[.pointer (some ⟨B, 0, none⟩), .int .i64 x, .int .i64 old, .int .i64 y] w (TgTo w B base (Tg.regT t x old y).t (G + 1) (.returned (.int .i64 ((Tg.regT t x old y).e : Nat)))) := by
  obtain ⟨a, n, c, b, m, d, rs, rx, ry, rz, hX, hS, hR⟩ := h.ex
  have hg := h.good
  have HD := Tg.reg_good hg hG hx0 hx7 (old := old) hy0 hy1
  have h0 := h
  obtain ⟨st, ⟨g, regs, k, q⟩, l⟩ := t
  have R1 := Rs.Register_R g k q x old y rx ry rz regs w hg.rv (Rs.own_tsl hR (Below.refl _ _)) (by have := hg.gen; dsimp only at this; omega) hx0 hx7 hy0 hy1
  have K1 := fun e w1 => @keep_rto B base G (G + 1) ⟨st, ⟨g, regs, k, q⟩, l⟩ (Rg.regR ⟨g, regs, k, q⟩ x y) (Rg.regE ⟨g, regs, k, q⟩ x old) w w1 e h0 HD (Nat.le_succ _)
  have HK := Lib.hid K1
  unfold Tg.regT
  dsimp only
  obtain ⟨E, hE⟩ : ∃ E, Rg.regE ⟨g, regs, k, q⟩ x old = E := ⟨_, rfl⟩
  rw [hE] at R1 HK ⊢
  obtain ⟨Z, hZ⟩ : ∃ Z, Tg.keep ⟨st, ⟨g, regs, k, q⟩, l⟩ (Rg.regR ⟨g, regs, k, q⟩ x y) E = Z := ⟨_, rfl⟩
  have HZE : Hid (Z.e = E) := Lib.hid (by rw [← hZ]; rfl)
  rw [hZ] at HK ⊢
  have HZE' := HZE.out
  rw [HZE']
  unfold tgc at hX
  have c2 := hX.c 2 _ rfl; have c3 := hX.c 3 _ rfl; have c4 := hX.c 4 _ rfl; have c5 := hX.c 5 _ rfl
  dsimp only at c2 c3 c4 c5
  clear h0 HD hZ hE hX hS hR K1 HZE' h hg
  go_enter Tryz.func17, Tryz.ntmps17
  go_wp2_with fail
  with_reducible refine R1.mono ?_
  intro e w1 hr
  obtain ⟨x6, y6, z6, rfl, KK⟩ := HK.out _ _ hr
  clear hr R1 c2 c3 c4 c5
  go_wp2_with fail
  with_reducible refine KK.mono ?_
  rintro e w2 ⟨rfl, hT, hgb⟩
  have HF := Lib.hid (And.intro hT hgb)
  clear hT hgb KK
  go_wp2_with fail
  go_ret
  exact ⟨rfl, HF.out⟩

set_option maxRecDepth 100000 in
set_option maxHeartbeats 4000000 in
theorem Reserve_T (B base G : Nat) (t : Tg.S) (x y kk : Int) (w : World) (h : TgW w B base t G) (hx0 : 0 ≤ x) (hx7 : x ≤ 7) (hkk : Rg.kindB kk = true) :
    Calls Tryz.prog 18 #[.pointer (some ⟨B, 0, none⟩), .int .i64 x, .int .i64 y, .int .i64 kk] w (TgTo w B base (Tg.resT t x y kk).t G (.returned (.int .i64 ((Tg.resT t x y kk).e : Nat)))) := by
  obtain ⟨a, n, c, b, m, d, rs, rx, ry, rz, hX, hS, hR⟩ := h.ex
  have hg := h.good
  have HD := Tg.res_good hg (x := x) (y := y) hkk
  have h0 := h
  obtain ⟨st, ⟨g, regs, k, q⟩, l⟩ := t
  have R1 := Rs.Reserve_R g k q x y kk rx ry rz regs w hg.rv (Rs.own_tsl hR (Below.refl _ _)) hx0 hx7 hkk
  have K1 := fun e w1 => @keep_rto B base G G ⟨st, ⟨g, regs, k, q⟩, l⟩ (Rg.resR ⟨g, regs, k, q⟩ x kk) (Rg.resE ⟨g, regs, k, q⟩ x y kk) w w1 e h0 HD (Nat.le_refl _)
  have HK := Lib.hid K1
  unfold Tg.resT
  dsimp only
  obtain ⟨E, hE⟩ : ∃ E, Rg.resE ⟨g, regs, k, q⟩ x y kk = E := ⟨_, rfl⟩
  rw [hE] at R1 HK ⊢
  obtain ⟨Z, hZ⟩ : ∃ Z, Tg.keep ⟨st, ⟨g, regs, k, q⟩, l⟩ (Rg.resR ⟨g, regs, k, q⟩ x kk) E = Z := ⟨_, rfl⟩
  have HZE : Hid (Z.e = E) := Lib.hid (by rw [← hZ]; rfl)
  rw [hZ] at HK ⊢
  have HZE' := HZE.out
  rw [HZE']
  unfold tgc at hX
  have c2 := hX.c 2 _ rfl; have c3 := hX.c 3 _ rfl; have c4 := hX.c 4 _ rfl; have c5 := hX.c 5 _ rfl
  dsimp only at c2 c3 c4 c5
  clear h0 HD hZ hE hX hS hR K1 HZE' h hg
  go_enter Tryz.func18, Tryz.ntmps18
  go_wp2_with fail
  with_reducible refine R1.mono ?_
  intro e w1 hr
  obtain ⟨x6, y6, z6, rfl, KK⟩ := HK.out _ _ hr
  clear hr R1 c2 c3 c4 c5
  go_wp2_with fail
  with_reducible refine KK.mono ?_
  rintro e w2 ⟨rfl, hT, hgb⟩
  have HF := Lib.hid (And.intro hT hgb)
  clear hT hgb KK
  go_wp2_with fail
  go_ret
  exact ⟨rfl, HF.out⟩

set_option maxRecDepth 100000 in
set_option maxHeartbeats 4000000 in
theorem Release_T (B base G : Nat) (t : Tg.S) (x y kk : Int) (w : World) (h : TgW w B base t G) (hx0 : 0 ≤ x) (hx7 : x ≤ 7) (hkk : Rg.kindB kk = true) :
    Calls Tryz.prog 32 #[.pointer (some ⟨B, 0, none⟩), .int .i64 x, .int .i64 y, .int .i64 kk] w (TgTo w B base (Tg.relT t x y kk).t G (.returned (.int .i64 ((Tg.relT t x y kk).e : Nat)))) := by
  obtain ⟨a, n, c, b, m, d, rs, rx, ry, rz, hX, hS, hR⟩ := h.ex
  have hg := h.good
  have HD := Tg.rel_good hg (x := x) (y := y) (k := kk)
  have h0 := h
  obtain ⟨st, ⟨g, regs, k, q⟩, l⟩ := t
  have R1 := Rs.Release_R g k q x y kk rx ry rz regs w hg.rv (Rs.own_tsl hR (Below.refl _ _)) hx0 hx7 hkk
  have K1 := fun e w1 => @keep_rto B base G G ⟨st, ⟨g, regs, k, q⟩, l⟩ (Rg.relR ⟨g, regs, k, q⟩ x) (Rg.relE ⟨g, regs, k, q⟩ x y kk) w w1 e h0 HD (Nat.le_refl _)
  have HK := Lib.hid K1
  unfold Tg.relT
  dsimp only
  obtain ⟨E, hE⟩ : ∃ E, Rg.relE ⟨g, regs, k, q⟩ x y kk = E := ⟨_, rfl⟩
  rw [hE] at R1 HK ⊢
  obtain ⟨Z, hZ⟩ : ∃ Z, Tg.keep ⟨st, ⟨g, regs, k, q⟩, l⟩ (Rg.relR ⟨g, regs, k, q⟩ x) E = Z := ⟨_, rfl⟩
  have HZE : Hid (Z.e = E) := Lib.hid (by rw [← hZ]; rfl)
  rw [hZ] at HK ⊢
  have HZE' := HZE.out
  rw [HZE']
  unfold tgc at hX
  have c2 := hX.c 2 _ rfl; have c3 := hX.c 3 _ rfl; have c4 := hX.c 4 _ rfl; have c5 := hX.c 5 _ rfl
  dsimp only at c2 c3 c4 c5
  clear h0 HD hZ hE hX hS hR K1 HZE' h hg
  go_enter Tryz.func32, Tryz.ntmps32
  go_wp2_with fail
  with_reducible refine R1.mono ?_
  intro e w1 hr
  obtain ⟨x6, y6, z6, rfl, KK⟩ := HK.out _ _ hr
  clear hr R1 c2 c3 c4 c5
  go_wp2_with fail
  with_reducible refine KK.mono ?_
  rintro e w2 ⟨rfl, hT, hgb⟩
  have HF := Lib.hid (And.intro hT hgb)
  clear hT hgb KK
  go_wp2_with fail
  go_ret
  exact ⟨rfl, HF.out⟩

set_option maxRecDepth 100000 in
set_option maxHeartbeats 4000000 in
theorem Read_T (B base G : Nat) (t : Tg.S) (x : Int) (name : ByteArray) (at_ : Int) (w : World) (h : TgW w B base t G) (hx0 : 0 ≤ x) (hx7 : x ≤ 7) :
    Calls Tryz.prog 19 #[.pointer (some ⟨B, 0, none⟩), .int .i64 x, .string name, .int .i64 at_] w fun e w' => e = .returned (.tuple #[.string (Tg.readR t x name at_).1, .int .i64 ((Tg.readR t x name at_).2 : Nat)]) ∧ Below w.heap.size w w' := by
  obtain ⟨a, n, c, b, m, d, rs, rx, ry, rz, hX, hS, hR⟩ := h.ex
  have hG := h.good
  obtain ⟨st, ⟨g, regs, k, q⟩, l⟩ := t
  obtain ⟨v, hv⟩ : ∃ v, Rg.mayB ⟨g, regs, k, q⟩ x false = v := ⟨_, rfl⟩
  have M1 := Rs.May_R g k q x false v rx ry rz regs w hG.rv (Rs.own_tsl hR (Below.refl _ _)) hx0 hx7 hv
  have RD : Hid (∀ W, Below w.heap.size w W → Calls Tryz.prog 44 #[.agg #[.slice a n c, .slice b m d], .string name, .int .i64 at_] W fun e w' => e = .returned (.tuple #[.string (Vo.readR st name at_).1, .int .i64 (Vo.readR st name at_).2]) ∧ Below W.heap.size W w') :=
    Lib.hid fun W hb => Read_V a b n c m d base rs st name at_ W (hS.keep hb) hG.right
  unfold Tg.readR
  dsimp only
  rw [hv]
  obtain ⟨Z, hZ⟩ : ∃ Z, (if v = false then ((⟨#[]⟩ : ByteArray), 9) else Vo.readR st name at_) = Z := ⟨_, rfl⟩
  rw [hZ]
  have HZ := Lib.hid hZ
  unfold tgc at hX
  have HX := Lib.hid hX
  have c2 := hX.c 2 _ rfl; have c3 := hX.c 3 _ rfl; have c4 := hX.c 4 _ rfl; have c5 := hX.c 5 _ rfl
  dsimp only at c2 c3 c4 c5
  clear h hX hS hR hG hv hZ
  go_enter Tryz.func19, Tryz.ntmps19
  go_wp2_with fail
  with_reducible refine M1.mono ?_
  rintro e w1 ⟨rfl, hb1⟩
  have HB1 := Lib.hid hb1; have HX1 := Lib.hid (HX.out.on hb1)
  clear hb1 M1 c2 c3 c4 c5
  have hZ := HZ.out
  clear HZ
  cases v
  · rw [if_pos rfl] at hZ
    subst hZ
    go_wp2_with fail
    go_ret2
    exact ⟨rfl, HB1.out⟩
  · rw [if_neg (by decide)] at hZ
    have c0 := HX1.out.c 0 _ rfl; have c1 := HX1.out.c 1 _ rfl
    have R1 := RD.out w1 HB1.out
    rw [hZ] at R1
    clear hZ RD
    obtain ⟨Z1, Z2⟩ := Z
    dsimp only at R1 ⊢
    go_wp2_with fail
    with_reducible refine R1.mono ?_
    rintro e w2 ⟨rfl, hb2⟩
    have HB2 := Lib.hid (HB1.out.trans (hb2.mono HB1.out.size))
    clear hb2 R1
    go_wp2_with fail
    go_ret2
    exact ⟨rfl, HB2.out⟩

set_option maxHeartbeats 1000000 in
theorem Log_T (B base G : Nat) (t : Tg.S) (w : World) (h : TgW w B base t G) :
    Calls Tryz.prog 16 #[.pointer (some ⟨B, 0, none⟩)] w fun e w' => e = .returned (.string (Tg.text t)) ∧ w = w' := by
  obtain ⟨a, n, c, b, m, d, rs, rx, ry, rz, hX, hS, hR⟩ := h.ex
  unfold tgc at hX
  have c6 := hX.c 6 _ rfl
  clear h hX hS hR
  generalize Tg.text t = T at *
  go_enter Tryz.func16, Tryz.ntmps16
  go_wp2_with fail
  go_ret
  exact ⟨rfl, rfl⟩

set_option maxHeartbeats 1000000 in
theorem New_T (w : World) : Calls Tryz.prog 7 #[] w fun e w' => e = .returned (.pointer (some ⟨w.heap.size, 0, none⟩)) ∧ TgW w' w.heap.size (w.heap.size + 1) Tg.zero 0 ∧ Below w.heap.size w w' ∧ w'.heap.size = w.heap.size + 1 := by
  have HX := fun T => Lib.hid (bxs_new w T #[.slice none 0 0, .slice none 0 0, .int .i64 0, .slice none 0 0, .int .i64 0, .int .i64 0, .string ⟨#[]⟩, .int .i64 0] [.slice none 0 0, .slice none 0 0, .int .i64 0, .slice none 0 0, .int .i64 0, .int .i64 0, .string ⟨#[]⟩, .int .i64 0] rfl)
  have HB := Lib.hid fun o => (Below.refl w.heap.size w).alloc (Nat.le_refl _) o
  go_enter Tryz.func7, Tryz.ntmps7
  go_wp2_with fail
  go_ret
  exact ⟨rfl, ⟨Nat.lt_succ_self _, by rw [World.size_alloc]; exact Nat.le_refl _, ⟨none, 0, 0, none, 0, 0, [], none, 0, 0, (HX _).out, stW0 _ _, World.ownsRow_nil _ _ _ _⟩, Tg.good_zero⟩, HB.out _, World.size_alloc _ _⟩

end Go.Proofs.YtenkdpogdfcbgaaGreat
