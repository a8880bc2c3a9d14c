/- The walk of log.Decode at what Encode wrote. -/
import Derived.Test.YtdmfgdhfkceihaaLogW4
namespace Go.Proofs.Ytdmfgdhfkceihaa
open Go.RowKit

/-- A box of some cells. -/
structure Bxs (W : World) (B : Nat) (cs : List Value) : Prop where
  lt : B < W.heap.size
  c : ∀ (j : Nat) (v : Value), cs[j]? = some v → W.cell? ⟨B, j, none⟩ = some v
  z : ∀ j, j < cs.length → W.frozen? ⟨B, j, none⟩ = false

theorem bxs_new (w : World) (T : TypeId) (cs : Array Value) (l : List Value) (hl : cs.toList = l) : Bxs (w.alloc (.cells cs T)) w.heap.size l := by
  subst hl
  have h : (w.alloc (.cells cs T)).heap[w.heap.size]? = some (.cells cs T) := by show (w.heap.push _)[w.heap.size]? = _; rw [Array.getElem?_push, if_pos rfl]
  refine ⟨by rw [World.size_alloc]; exact Nat.lt_succ_self _, fun j v hj => cell_new w (k := j) (by simpa using hj), fun j _ => ?_⟩
  unfold World.frozen?
  rw [h]
  simp

theorem Bxs.block {W W' : World} {B : Nat} {cs : List Value} (h : Bxs W B cs) (hs : B < W'.heap.size) (hb : W'.heap[B]? = W.heap[B]?) : Bxs W' B cs := by
  have hc : ∀ j, W'.cell? ⟨B, j, none⟩ = W.cell? ⟨B, j, none⟩ := fun j => by unfold World.cell?; rw [hb]
  have hz : ∀ j, W'.frozen? ⟨B, j, none⟩ = W.frozen? ⟨B, j, none⟩ := fun j => by unfold World.frozen?; rw [hb]
  exact ⟨hs, fun j v hj => by rw [hc]; exact h.c j v hj, fun j hj => by rw [hz]; exact h.z j hj⟩

theorem Bxs.on {W W' : World} {B : Nat} {cs : List Value} (h : Bxs W B cs) (hb : Below W.heap.size W W') : Bxs W' B cs := h.block (Nat.lt_of_lt_of_le h.lt hb.size) (hb.block B h.lt)
theorem Bxs.alloc {W : World} {B : Nat} {cs : List Value} (h : Bxs W B cs) (o : Obj) : Bxs (W.alloc o) B cs := h.on ((Below.refl _ W).alloc (Nat.le_refl _) _)
theorem Bxs.drew {W : World} {B : Nat} {cs : List Value} (h : Bxs W B cs) : Bxs W.drew B cs := h.on (Below.refl _ W).drew
theorem Bxs.drewN {W : World} {B : Nat} {cs : List Value} (h : Bxs W B cs) (n : Nat) : Bxs (W.drewN n) B cs := h.on (below_drewN (Below.refl _ W) n)

theorem Bxs.other {W : World} {B : Nat} {cs : List Value} (h : Bxs W B cs) {b i : Nat} (hb : b ≠ B) (u : Value) : Bxs (W.setCell ⟨b, i, none⟩ u) B cs := by
  have o : ∀ (j : Nat), (W.setCell ⟨b, i, none⟩ u).cell? ⟨B, j, none⟩ = W.cell? ⟨B, j, none⟩ := fun j => World.cell?_setCell_other _ _ _ _ (by simp only [ne_eq, Addr.mk.injEq, not_and]; omega)
  exact ⟨by rw [World.size_setCell]; exact h.lt, fun j v hj => by rw [o]; exact h.c j v hj, fun j hj => by rw [World.frozen?_setCell]; exact h.z j hj⟩

theorem Bxs.set {W : World} {B : Nat} {cs : List Value} (h : Bxs W B cs) (i : Nat) (hi : i < cs.length) (u : Value) {cs' : List Value} (hc : cs' = cs.set i u) : Bxs (W.setCell ⟨B, i, none⟩ u) B cs' := by
  subst hc
  have o : ∀ (j : Nat), j ≠ i → (W.setCell ⟨B, i, none⟩ u).cell? ⟨B, j, none⟩ = W.cell? ⟨B, j, none⟩ := fun j hj => World.cell?_setCell_other _ _ _ _ (by simp only [ne_eq, Addr.mk.injEq, not_and]; omega)
  refine ⟨by rw [World.size_setCell]; exact h.lt, fun j v hj => ?_, fun j hj => by rw [World.frozen?_setCell]; exact h.z j (by rwa [List.length_set] at hj)⟩
  by_cases hji : j = i
  · subst hji
    rw [List.getElem?_set_self hi] at hj
    cases hj
    exact World.cell?_setCell_same _ _ _ (h.c j cs[j] (List.getElem?_eq_getElem hi))
  · rw [List.getElem?_set_ne (fun h => hji h.symm)] at hj
    rw [o j hji]
    exact h.c j v hj

theorem Bxs.set5 {W : World} {B : Nat} {v0 v1 v2 v3 v4 : Value} (h : Bxs W B [v0, v1, v2, v3, v4]) (u0 u1 u2 u3 u4 : Value) :
    Bxs (((((W.setCell ⟨B, 0, none⟩ u0).setCell ⟨B, 1, none⟩ u1).setCell ⟨B, 2, none⟩ u2).setCell ⟨B, 3, none⟩ u3).setCell ⟨B, 4, none⟩ u4) B [u0, u1, u2, u3, u4] :=
  ((((h.set 0 (by decide : 0 < 5) u0 rfl).set 1 (by decide : 1 < 5) u1 rfl).set 2 (by decide : 2 < 5) u2 rfl).set 3 (by decide : 3 < 5) u3 rfl).set 4 (by decide : 4 < 5) u4 rfl

theorem below_set5 {N : Nat} {w W : World} {B : Nat} (h : Below N w W) (hN : N ≤ B) (u0 u1 u2 u3 u4 : Value) :
    Below N w (((((W.setCell ⟨B, 0, none⟩ u0).setCell ⟨B, 1, none⟩ u1).setCell ⟨B, 2, none⟩ u2).setCell ⟨B, 3, none⟩ u3).setCell ⟨B, 4, none⟩ u4) :=
  ((((h.setCell hN _).setCell hN _).setCell hN _).setCell hN _).setCell hN _

/-- What take leaves. -/
abbrev TakeAns (s A B : ByteArray) : Prop := ∀ w, Calls Try.prog 22 #[.string s] w fun e w' => e = .returned (.tuple #[.string A, .string B, .bool true]) ∧ Below w.heap.size w w'

/-- The result that lies in cells. -/
theorem dec_result {tmps : Array Value} {W : World} {B : Nat} {k a : Int} {nm to tx : ByteArray} {v : Value} (h2 : tmps.getD 2 undef = .pointer (some ⟨B, 0, none⟩)) (h3 : tmps.getD 3 undef = v)
    (h : Bxs W B [.int .i64 k, .string nm, .string to, .int .i64 a, .string tx]) :
    (results Try.f10 tmps).run Try.prog W = .ok (.tuple #[.agg #[.int .i64 k, .string nm, .string to, .int .i64 a, .string tx], v]) W := by
  have c0 := h.c 0 _ rfl; have c1 := h.c 1 _ rfl; have c2 := h.c 2 _ rfl; have c3 := h.c 3 _ rfl; have c4 := h.c 4 _ rfl
  rw [results_cell_tmp1 rfl, h2, h3]
  go_simp

set_option maxRecDepth 100000 in
set_option maxHeartbeats 4000000 in
theorem Decode_core (c0 c1 : UInt8) (nm to tx s R0 R1 R2 R3 : ByteArray) (w : World) (hs : 2 ≤ s.size) (hs1 : s.size ≤ 100000) (h0 : bt s.data.toList 0 = c0.toNat) (h1 : bt s.data.toList 1 = c1.toNat) (hR0 : s.extract 2 s.size = R0)
    (t1 : TakeAns R0 nm R1) (t2 : TakeAns R1 to R2) (t3 : TakeAns R2 tx R3) (he : R3.toList.isEmpty = true)
    (C1 : ∀ w, Calls Try.prog 20 #[.agg #[.int .i64 c0.toNat, .string nm, .string to, .int .i64 c1.toNat, .string tx]] w fun e w' => e = .returned (.int .i64 0) ∧ Below w.heap.size w w') :
    Calls Try.prog 10 #[.string s] w fun e w' => e = .returned (.tuple #[.agg #[.int .i64 c0.toNat, .string nm, .string to, .int .i64 c1.toNat, .string tx], .int .i64 0]) ∧ Below w.heap.size w w' := by
  have i0 := idx_str Try.underlying9 (s := s) (x := 0) (k := 0) rfl (by omega)
  have i1 := idx_str Try.underlying9 (s := s) (x := 1) (k := 1) rfl (by omega)
  rw [h0] at i0; rw [h1] at i1
  have z2 := sl_fromL Try.underlying9 (s := s) (x := 2) (a := 2) rfl (by omega)
  rw [hR0] at z2
  have l0 := c0.toNat_lt
  have l1 := c1.toNat_lt
  have p0 : IntKind.i64.wrap (c0.toNat : Int) = (c0.toNat : Int) := IntWalk.i64_in _ (by omega)
  have p1 : IntKind.i64.wrap (c1.toNat : Int) = (c1.toNat : Int) := IntWalk.i64_in _ (by omega)
  have T1 := Lib.hid t1; have T2 := Lib.hid t2; have T3 := Lib.hid t3; have HC := Lib.hid C1; have HE := Lib.hid he
  clear h0 h1 hR0 t1 t2 t3 C1 he
  have s1 : (w.alloc (.cells #[.int .i64 0, .string ⟨#[]⟩, .string ⟨#[]⟩, .int .i64 0, .string ⟨#[]⟩] 23)).heap.size = w.heap.size + 1 := World.size_alloc ..
  have s2 : ((w.alloc (.cells #[.int .i64 0, .string ⟨#[]⟩, .string ⟨#[]⟩, .int .i64 0, .string ⟨#[]⟩] 23)).alloc (.cells #[.int .i64 (c0.toNat : Int), .string ⟨#[]⟩, .string ⟨#[]⟩, .int .i64 (c1.toNat : Int), .string ⟨#[]⟩] 23)).heap.size = w.heap.size + 1 + 1 := by rw [World.size_alloc, s1]
  have X0 : Bxs ((((w.alloc (.cells #[.int .i64 0, .string ⟨#[]⟩, .string ⟨#[]⟩, .int .i64 0, .string ⟨#[]⟩] 23)).alloc (.cells #[.int .i64 (c0.toNat : Int), .string ⟨#[]⟩, .string ⟨#[]⟩, .int .i64 (c1.toNat : Int), .string ⟨#[]⟩] 23)).alloc (.cells #[.pointer (some ⟨w.heap.size + 1, 1, none⟩), .pointer (some ⟨w.heap.size + 1, 2, none⟩), .pointer (some ⟨w.heap.size + 1, 4, none⟩)] 49)).drew) w.heap.size [.int .i64 0, .string ⟨#[]⟩, .string ⟨#[]⟩, .int .i64 0, .string ⟨#[]⟩] := (((bxs_new w 23 _ _ rfl).alloc _).alloc _).drew
  have X1 : Bxs ((((w.alloc (.cells #[.int .i64 0, .string ⟨#[]⟩, .string ⟨#[]⟩, .int .i64 0, .string ⟨#[]⟩] 23)).alloc (.cells #[.int .i64 (c0.toNat : Int), .string ⟨#[]⟩, .string ⟨#[]⟩, .int .i64 (c1.toNat : Int), .string ⟨#[]⟩] 23)).alloc (.cells #[.pointer (some ⟨w.heap.size + 1, 1, none⟩), .pointer (some ⟨w.heap.size + 1, 2, none⟩), .pointer (some ⟨w.heap.size + 1, 4, none⟩)] 49)).drew) (w.heap.size + 1) [.int .i64 c0.toNat, .string ⟨#[]⟩, .string ⟨#[]⟩, .int .i64 c1.toNat, .string ⟨#[]⟩] := by
    have := ((bxs_new (w.alloc (.cells #[.int .i64 0, .string ⟨#[]⟩, .string ⟨#[]⟩, .int .i64 0, .string ⟨#[]⟩] 23)) 23 #[.int .i64 (c0.toNat : Int), .string ⟨#[]⟩, .string ⟨#[]⟩, .int .i64 (c1.toNat : Int), .string ⟨#[]⟩] _ rfl).alloc (.cells #[.pointer (some ⟨w.heap.size + 1, 1, none⟩), .pointer (some ⟨w.heap.size + 1, 2, none⟩), .pointer (some ⟨w.heap.size + 1, 4, none⟩)] 49)).drew
    rw [s1] at this
    exact this
  have X2 : Bxs ((((w.alloc (.cells #[.int .i64 0, .string ⟨#[]⟩, .string ⟨#[]⟩, .int .i64 0, .string ⟨#[]⟩] 23)).alloc (.cells #[.int .i64 (c0.toNat : Int), .string ⟨#[]⟩, .string ⟨#[]⟩, .int .i64 (c1.toNat : Int), .string ⟨#[]⟩] 23)).alloc (.cells #[.pointer (some ⟨w.heap.size + 1, 1, none⟩), .pointer (some ⟨w.heap.size + 1, 2, none⟩), .pointer (some ⟨w.heap.size + 1, 4, none⟩)] 49)).drew) (w.heap.size + 1 + 1) [.pointer (some ⟨w.heap.size + 1, 1, none⟩), .pointer (some ⟨w.heap.size + 1, 2, none⟩), .pointer (some ⟨w.heap.size + 1, 4, none⟩)] := by
    have := (bxs_new ((w.alloc (.cells #[.int .i64 0, .string ⟨#[]⟩, .string ⟨#[]⟩, .int .i64 0, .string ⟨#[]⟩] 23)).alloc (.cells #[.int .i64 (c0.toNat : Int), .string ⟨#[]⟩, .string ⟨#[]⟩, .int .i64 (c1.toNat : Int), .string ⟨#[]⟩] 23)) 49 #[.pointer (some ⟨w.heap.size + 1, 1, none⟩), .pointer (some ⟨w.heap.size + 1, 2, none⟩), .pointer (some ⟨w.heap.size + 1, 4, none⟩)] _ rfl).drew
    rw [s2] at this
    exact this
  have XB : Below w.heap.size w ((((w.alloc (.cells #[.int .i64 0, .string ⟨#[]⟩, .string ⟨#[]⟩, .int .i64 0, .string ⟨#[]⟩] 23)).alloc (.cells #[.int .i64 (c0.toNat : Int), .string ⟨#[]⟩, .string ⟨#[]⟩, .int .i64 (c1.toNat : Int), .string ⟨#[]⟩] 23)).alloc (.cells #[.pointer (some ⟨w.heap.size + 1, 1, none⟩), .pointer (some ⟨w.heap.size + 1, 2, none⟩), .pointer (some ⟨w.heap.size + 1, 4, none⟩)] 49)).drew) := ((((Below.refl _ w).alloc (Nat.le_refl _) _).alloc (by rw [s1]; omega) _).alloc (by rw [s2]; omega) _).drew
  have H0 := Lib.hid X0; have H1 := Lib.hid X1; have H2 := Lib.hid X2; have HB := Lib.hid XB
  clear s1 s2 X0 X1 X2 XB
  go_enter Try.func10, Try.ntmps10
  go_wp2_with fail
  go_region
  go_wp2_with fail
  go_loopw [0, 26] (fun sv iv wr => ∃ (x1 x2 x3 : ByteArray), Hid (Bxs wr (w.heap.size + 1) [.int .i64 c0.toNat, .string x1, .string x2, .int .i64 c1.toNat, .string x3]) ∧ Hid (Bxs wr w.heap.size [.int .i64 0, .string ⟨#[]⟩, .string ⟨#[]⟩, .int .i64 0, .string ⟨#[]⟩]) ∧ Hid (Bxs wr (w.heap.size + 1 + 1) [.pointer (some ⟨w.heap.size + 1, 1, none⟩), .pointer (some ⟨w.heap.size + 1, 2, none⟩), .pointer (some ⟨w.heap.size + 1, 4, none⟩)]) ∧ Hid (Below w.heap.size w wr) ∧ ((iv = .int .i64 0 ∧ sv = .string R0 ∧ x1 = ⟨#[]⟩ ∧ x2 = ⟨#[]⟩ ∧ x3 = ⟨#[]⟩) ∨ (iv = .int .i64 1 ∧ sv = .string R1 ∧ x1 = nm ∧ x2 = ⟨#[]⟩ ∧ x3 = ⟨#[]⟩) ∨ (iv = .int .i64 2 ∧ sv = .string R2 ∧ x1 = nm ∧ x2 = to ∧ x3 = ⟨#[]⟩) ∨ (iv = .int .i64 3 ∧ sv = .string R3 ∧ x1 = nm ∧ x2 = to ∧ x3 = tx))) (fun _ iv _ => 3 - (intOf iv).toNat)
  case atStart => exact ⟨_, _, _, H1, H0, H2, HB, Or.inl ⟨rfl, rfl, rfl, rfl, rfl⟩⟩
  case round =>
    clear H0 H1 H2 HB
    obtain ⟨x1, x2, x3, H1, H0, H2, HB, h⟩ := hrel
    rcases h with ⟨rfl, rfl, rfl, rfl, rfl⟩ | ⟨rfl, rfl, rfl, rfl, rfl⟩ | ⟨rfl, rfl, rfl, rfl, rfl⟩ | ⟨rfl, rfl, rfl, rfl, rfl⟩
    · have P0 := H2.out.c 0 _ rfl
      go_wp2_with fail
      with_reducible refine (T1.out _).mono ?_
      rintro e w1 ⟨rfl, hb1⟩
      have G0 := Lib.hid (H0.out.on hb1); have G1 := Lib.hid (H1.out.on hb1); have G2 := Lib.hid (H2.out.on hb1); have GB := Lib.hid (HB.out.trans (hb1.mono HB.out.size))
      have C0 := G1.out.c 1 _ rfl
      have Z0 := G1.out.z 1 (by decide : 1 < 5)
      clear hb1 P0 H0 H1 H2 HB
      go_wp2_with fail
      go_roundw
      case rel => exact ⟨_, _, _, Lib.hid (G1.out.set 1 (by decide : 1 < 5) _ rfl), Lib.hid (G0.out.other (by omega) _), Lib.hid (G2.out.other (by omega) _), Lib.hid (GB.out.setCell (by show _ ≤ _ + 1; omega) _), Or.inr (Or.inl ⟨rfl, rfl, rfl, rfl, rfl⟩)⟩
      case measure => simp [intOf]
    · have P0 := H2.out.c 1 _ rfl
      go_wp2_with fail
      with_reducible refine (T2.out _).mono ?_
      rintro e w1 ⟨rfl, hb1⟩
      have G0 := Lib.hid (H0.out.on hb1); have G1 := Lib.hid (H1.out.on hb1); have G2 := Lib.hid (H2.out.on hb1); have GB := Lib.hid (HB.out.trans (hb1.mono HB.out.size))
      have C0 := G1.out.c 2 _ rfl
      have Z0 := G1.out.z 2 (by decide : 2 < 5)
      clear hb1 P0 H0 H1 H2 HB
      go_wp2_with fail
      go_roundw
      case rel => exact ⟨_, _, _, Lib.hid (G1.out.set 2 (by decide : 2 < 5) _ rfl), Lib.hid (G0.out.other (by omega) _), Lib.hid (G2.out.other (by omega) _), Lib.hid (GB.out.setCell (by show _ ≤ _ + 1; omega) _), Or.inr (Or.inr (Or.inl ⟨rfl, rfl, rfl, rfl, rfl⟩))⟩
      case measure => simp [intOf]
    · have P0 := H2.out.c 2 _ rfl
      go_wp2_with fail
      with_reducible refine (T3.out _).mono ?_
      rintro e w1 ⟨rfl, hb1⟩
      have G0 := Lib.hid (H0.out.on hb1); have G1 := Lib.hid (H1.out.on hb1); have G2 := Lib.hid (H2.out.on hb1); have GB := Lib.hid (HB.out.trans (hb1.mono HB.out.size))
      have C0 := G1.out.c 4 _ rfl
      have Z0 := G1.out.z 4 (by decide : 4 < 5)
      clear hb1 P0 H0 H1 H2 HB
      go_wp2_with fail
      go_roundw
      case rel => exact ⟨_, _, _, Lib.hid (G1.out.set 4 (by decide : 4 < 5) _ rfl), Lib.hid (G0.out.other (by omega) _), Lib.hid (G2.out.other (by omega) _), Lib.hid (GB.out.setCell (by show _ ≤ _ + 1; omega) _), Or.inr (Or.inr (Or.inr ⟨rfl, rfl, rfl, rfl, rfl⟩))⟩
      case measure => simp [intOf]
    · have k0 := H1.out.c 0 _ rfl; have k1 := H1.out.c 1 _ rfl; have k2 := H1.out.c 2 _ rfl; have k3 := H1.out.c 3 _ rfl; have k4 := H1.out.c 4 _ rfl
      have he := HE.out
      go_wp2_with fail
      with_reducible refine (HC.out _).mono ?_
      rintro e w1 ⟨rfl, hb1⟩
      have G0 := Lib.hid (H0.out.on hb1); have G1 := Lib.hid (H1.out.on hb1); have GB := Lib.hid (HB.out.trans (hb1.mono HB.out.size))
      clear hb1 k0 k1 k2 k3 k4 H0 H1 H2 HB
      have k0 := G1.out.c 0 _ rfl; have k1 := G1.out.c 1 _ rfl; have k2 := G1.out.c 2 _ rfl; have k3 := G1.out.c 3 _ rfl; have k4 := G1.out.c 4 _ rfl
      have g0 := G0.out.c 0 _ rfl; have g1 := G0.out.c 1 _ rfl; have g2 := G0.out.c 2 _ rfl; have g3 := G0.out.c 3 _ rfl; have g4 := G0.out.c 4 _ rfl
      have y0 := G0.out.z 0 (by decide : 0 < 5); have y1 := G0.out.z 1 (by decide : 1 < 5); have y2 := G0.out.z 2 (by decide : 2 < 5); have y3 := G0.out.z 3 (by decide : 3 < 5); have y4 := G0.out.z 4 (by decide : 4 < 5)
      go_wp2_with fail
      (try simp only [Exit.inBlock, Exit.then])
      refine bodyPost_ret (v := .tuple #[.agg #[.int .i64 c0.toNat, .string x1, .string x2, .int .i64 c1.toNat, .string x3], .int .i64 0]) ?_ rfl ⟨rfl, ?_⟩
      · exact dec_result rfl rfl (G0.out.set5 _ _ _ _ _)
      · exact below_set5 GB.out (Nat.le_refl _) _ _ _ _ _

theorem list_back {s : ByteArray} {l : List UInt8} (h : s.data.toList = l) (hl : l.length ≤ 100000) : s.size ≤ 100000 := by
  have : s.data.toList.length = s.size := Array.length_toList ..
  rw [← this, h]; exact hl

theorem Decode_ok (k a : Nat) (nm to tx S : ByteArray) (w : World)
    (hr : Lg.chk k (Lg.nmB nm.data.toList) (Lg.nmB to.data.toList) a tx.size to.toList.isEmpty tx.toList.isEmpty = 0) (hn : nm.size ≤ 12) (ht : to.size ≤ 12) (hx : tx.size ≤ 64) (hk : k ≤ 5) (ha : a ≤ 32)
    (hS : S.data.toList = Lg.enc k a nm.data.toList to.data.toList tx.data.toList) :
    Calls Try.prog 10 #[.string S] w fun e w' => e = .returned (.tuple #[.agg #[.int .i64 k, .string nm, .string to, .int .i64 a, .string tx], .int .i64 0]) ∧ Below w.heap.size w w' := by
  have ln : nm.data.toList.length = nm.size := Array.length_toList ..
  have lt : to.data.toList.length = to.size := Array.length_toList ..
  have lx : tx.data.toList.length = tx.size := Array.length_toList ..
  have lS : S.data.toList.length = S.size := Array.length_toList ..
  obtain ⟨c0, hc0⟩ : ∃ c, UInt8.ofNat k = c := ⟨_, rfl⟩
  obtain ⟨c1, hc1⟩ : ∃ c, UInt8.ofNat a = c := ⟨_, rfl⟩
  have e0 : k = c0.toNat := by rw [← hc0, UInt8.toNat_ofNat']; omega
  have e1 : a = c1.toNat := by rw [← hc1, UInt8.toNat_ofNat']; omega
  have tl : ∀ s : ByteArray, (Lg.tx s.data.toList).length = s.size + 1 := fun s => by
    have : s.data.toList.length = s.size := Array.length_toList ..
    rw [Lg.tx, List.length_cons, this]
  obtain ⟨R2, h2⟩ : ∃ R : ByteArray, R.data.toList = Lg.tx tx.data.toList := ⟨⟨(Lg.tx tx.data.toList).toArray⟩, by simp⟩
  obtain ⟨R1, h1⟩ : ∃ R : ByteArray, R.data.toList = Lg.tx to.data.toList ++ R2.data.toList := ⟨⟨(Lg.tx to.data.toList ++ R2.data.toList).toArray⟩, by simp⟩
  obtain ⟨R0, h0⟩ : ∃ R : ByteArray, R.data.toList = Lg.tx nm.data.toList ++ R1.data.toList := ⟨⟨(Lg.tx nm.data.toList ++ R1.data.toList).toArray⟩, by simp⟩
  have hS2 : S.data.toList = [c0, c1] ++ R0.data.toList := by
    rw [hS, Lg.enc, h0, h1, h2, hc0, hc1]
    simp
  have q2 : R2.data.toList.length = tx.size + 1 := by rw [h2, tl]
  have q1 : R1.data.toList.length = to.size + 1 + (tx.size + 1) := by rw [h1, List.length_append, tl, q2]
  have q0 : R0.data.toList.length = nm.size + 1 + (to.size + 1 + (tx.size + 1)) := by rw [h0, List.length_append, tl, q1]
  have qS : S.size = 2 + (nm.size + 1 + (to.size + 1 + (tx.size + 1))) := by rw [← lS, hS2, List.length_append, q0]; rfl
  have r2 : R2.size ≤ 100000 := list_back rfl (by omega)
  have r1 : R1.size ≤ 100000 := list_back rfl (by omega)
  have r0 : R0.size ≤ 100000 := list_back rfl (by omega)
  subst e0 e1
  refine Decode_core c0 c1 nm to tx S R0 R1 R2 ⟨#[]⟩ w (by omega) (by omega) ?_ ?_ ?_ (fun w => take_ok R0 nm R1 w (by omega) r0 h0) (fun w => take_ok R1 to R2 w (by omega) r1 h1)
    (fun w => take_ok R2 tx ⟨#[]⟩ w (by omega) r2 (by rw [h2]; simp)) (by rw [ByteArray.toList_eq]; rfl) (fun w => by
      have := Check_any c0.toNat nm to c1.toNat tx w (by unfold maxLen; omega) (by unfold maxLen; omega) (by unfold maxLen; omega)
      rwa [hr] at this)
  · rw [hS2]; rfl
  · rw [hS2]; rfl
  · apply ByteArray.ext
    apply Array.toList_inj.mp
    rw [Lib.extract_data, List.take_of_length_le (by rw [List.length_drop, lS]; exact Nat.le_refl _), hS2]
    rfl

end Go.Proofs.Ytdmfgdhfkceihaa
