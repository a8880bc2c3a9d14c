/- Walks: a turn of a reservation. -/
import Derived.Test.YtenkdpogdfcbgaaRgT
import Derived.Test.YtenkdpogdfcbgaaArgsC
import Derived.Deep.RegionHeld3
namespace Go.Proofs.Ytenkdpogdfcbgaa.Rs
open Go.RowKit

set_option maxRecDepth 100000 in
set_option maxHeartbeats 2000000 in
theorem n_R (w : World) (B i : Nat) (c : Option Addr) (nc cc : Nat) (f : Nat → Int) (h0 : w.cell? ⟨B, 0, none⟩ = some (.slice c nc cc)) (hc : CArg w c nc f) :
    Calls Try.prog 140 #[.int .i64 i, .pointer (some ⟨B, 0, none⟩)] w fun e w' => e = .returned (.int .i64 (f i)) ∧ w' = w := by
  have hm := hc.max
  unfold maxLen at hm
  by_cases hi : i < nc
  · obtain ⟨x, rfl, -, h3⟩ := hc.cell i hi
    clear hc
    generalize f i = y at *
    go_enter Try.func140, Try.ntmps140
    go_wp2_with fail
    go_ret
    exact ⟨rfl, rfl⟩
  · have hz := hc.zero i (by omega)
    rw [hz]
    clear hc hz
    go_enter Try.func140, Try.ntmps140
    go_wp2_with fail
    go_ret
    exact ⟨rfl, rfl⟩

/-- A box of four cells, whatever they hold. -/
def RBox (V : World) (B : Nat) : Prop := ∃ v0 v1 v2 v3, R4 V B v0 v1 v2 v3
theorem RBox.drew {V : World} {B : Nat} (h : RBox V B) : RBox V.drew B := by
  obtain ⟨v0, v1, v2, v3, h⟩ := h
  exact ⟨_, _, _, _, h.drew⟩
theorem RBox.on {V V' : World} {B : Nat} (h : RBox V B) (hb : Below V.heap.size V V') : RBox V' B := by
  obtain ⟨v0, v1, v2, v3, h⟩ := h
  exact ⟨_, _, _, _, h.on hb⟩

theorem arm_own {w V ws : World} {e : TypeId} {v : Value} {n : Nat} {xs : List Value} (h : w.heap.size + 2 < V.heap.size) (ho : ws.ownsRow V.heap.size e 2 v n xs) : ws.ownsRow w.heap.size e 2 v n xs ∧ ∀ k, v.ownBlock = some k → w.heap.size + 2 ≠ k :=
  ⟨own_low ho (by omega), fun j hj => by have := row_base ho j hj; omega⟩

theorem tbox_set4 {w V : World} {v0 v1 v2 v3 v4 u0 u1 u2 u3 : Value} (h : V.cell? ⟨w.heap.size, 0, none⟩ = some v0 ∧ V.cell? ⟨w.heap.size, 1, none⟩ = some v1 ∧ V.cell? ⟨w.heap.size, 2, none⟩ = some v2 ∧ V.cell? ⟨w.heap.size, 3, none⟩ = some v3 ∧ V.cell? ⟨w.heap.size + 1, 0, none⟩ = some v4 ∧ Below w.heap.size w V ∧ w.heap.size + 2 < V.heap.size ∧ RBox V (w.heap.size + 2)) :
    let V' := ((((V.setCell ⟨w.heap.size + 2, 0, none⟩ u0).setCell ⟨w.heap.size + 2, 1, none⟩ u1).setCell ⟨w.heap.size + 2, 2, none⟩ u2).setCell ⟨w.heap.size + 2, 3, none⟩ u3)
    V'.cell? ⟨w.heap.size, 0, none⟩ = some v0 ∧ V'.cell? ⟨w.heap.size, 1, none⟩ = some v1 ∧ V'.cell? ⟨w.heap.size, 2, none⟩ = some v2 ∧ V'.cell? ⟨w.heap.size, 3, none⟩ = some v3 ∧ V'.cell? ⟨w.heap.size + 1, 0, none⟩ = some v4 ∧ Below w.heap.size w V' ∧ w.heap.size + 2 < V'.heap.size ∧ RBox V' (w.heap.size + 2) := by
  obtain ⟨h0, h1, h2, h3, h4, h5, h6, h7⟩ := h
  have o : ∀ (W : World) (B i j : Nat) (v : Value), B ≠ w.heap.size + 2 → (W.setCell ⟨w.heap.size + 2, i, none⟩ v).cell? ⟨B, j, none⟩ = W.cell? ⟨B, j, none⟩ := fun W B i j v hij => World.cell?_setCell_other _ _ _ _ (by simp only [ne_eq, Addr.mk.injEq, not_and]; omega)
  obtain ⟨q0, q1, q2, q3, hq⟩ := h7
  have e : ∀ B j, B ≠ w.heap.size + 2 → ((((V.setCell ⟨w.heap.size + 2, 0, none⟩ u0).setCell ⟨w.heap.size + 2, 1, none⟩ u1).setCell ⟨w.heap.size + 2, 2, none⟩ u2).setCell ⟨w.heap.size + 2, 3, none⟩ u3).cell? ⟨B, j, none⟩ = V.cell? ⟨B, j, none⟩ := fun B j hB => by rw [o _ _ _ _ _ hB, o _ _ _ _ _ hB, o _ _ _ _ _ hB, o _ _ _ _ _ hB]
  exact ⟨by rw [e _ _ (by omega)]; exact h0, by rw [e _ _ (by omega)]; exact h1, by rw [e _ _ (by omega)]; exact h2, by rw [e _ _ (by omega)]; exact h3, by rw [e _ _ (by omega)]; exact h4, below_set4 h5 (by omega) _ _ _ _, by simp only [World.size_setCell]; exact h6, _, _, _, _, hq.set _ _ _ _⟩

theorem tbox_on {w V V' : World} {v0 v1 v2 v3 v4 : Value} (hb : Below V.heap.size V V') (h : V.cell? ⟨w.heap.size, 0, none⟩ = some v0 ∧ V.cell? ⟨w.heap.size, 1, none⟩ = some v1 ∧ V.cell? ⟨w.heap.size, 2, none⟩ = some v2 ∧ V.cell? ⟨w.heap.size, 3, none⟩ = some v3 ∧ V.cell? ⟨w.heap.size + 1, 0, none⟩ = some v4 ∧ Below w.heap.size w V ∧ w.heap.size + 2 < V.heap.size ∧ RBox V (w.heap.size + 2)) :
    V'.cell? ⟨w.heap.size, 0, none⟩ = some v0 ∧ V'.cell? ⟨w.heap.size, 1, none⟩ = some v1 ∧ V'.cell? ⟨w.heap.size, 2, none⟩ = some v2 ∧ V'.cell? ⟨w.heap.size, 3, none⟩ = some v3 ∧ V'.cell? ⟨w.heap.size + 1, 0, none⟩ = some v4 ∧ Below w.heap.size w V' ∧ w.heap.size + 2 < V'.heap.size ∧ RBox V' (w.heap.size + 2) := by
  obtain ⟨h0, h1, h2, h3, h4, h5, h6, h7⟩ := h
  have hs := hb.size
  have e : ∀ B j, B < V.heap.size → V'.cell? ⟨B, j, none⟩ = V.cell? ⟨B, j, none⟩ := fun B j hB => hb.cell (p := ⟨B, j, none⟩) hB
  exact ⟨by rw [e _ _ (by omega)]; exact h0, by rw [e _ _ (by omega)]; exact h1, by rw [e _ _ (by omega)]; exact h2, by rw [e _ _ (by omega)]; exact h3, by rw [e _ _ (by omega)]; exact h4, h5.trans (hb.mono h5.size), by omega, h7.on hb⟩

set_option maxRecDepth 100000 in
set_option maxHeartbeats 16000000 in
/-- A turn. -/
theorem turn_R (g k q : Int) (a : Option Addr) (n c : Nat) (ts : List Qu.T) (b : Option Addr) (nc cc : Nat) (f : Nat → Int) (w : World) (hG : Rg.Good ⟨g, ts, k, q⟩) (hg : g < 1000) (hT : TSl w a n c ts) (hC : CArg w b nc f) :
    Calls Try.prog 55 #[.agg #[.int .i64 g, .slice a n c, .int .i64 k, .int .i64 q], .slice b nc cc] w (RTo w (rz (Rg.tR ⟨g, ts, k, q⟩ f) (Rg.tE ⟨g, ts, k, q⟩ f)) (Rg.tE ⟨g, ts, k, q⟩ f)) := by
  have HX : Hid (∀ T o o', R4 (((w.alloc (.cells #[.int .i64 g, .slice a n c, .int .i64 k, .int .i64 q] T)).alloc o).alloc o') w.heap.size (.int .i64 g) (.slice a n c) (.int .i64 k) (.int .i64 q)) := Lib.hid fun T o o' => ((r4_new w T _ _ _ _).alloc _).alloc _
  have HC : Hid (∀ o1 T o2, ((((w.alloc o1).alloc (.cells #[.slice b nc cc] T)).alloc o2).cell? ⟨w.heap.size + 1, 0, none⟩ = some (.slice b nc cc))) := Lib.hid fun o1 T o2 => by
    have h1 := cell_new (w.alloc o1) (T := T) (xs := #[.slice b nc cc]) (k := 0) rfl
    rw [World.size_alloc] at h1
    rw [World.cell?_alloc_past _ _ _ (by show w.heap.size + 1 < _; rw [World.size_alloc, World.size_alloc]; omega)]
    exact h1
  have HY : Hid (∀ o o' T, R4 (((w.alloc o).alloc o').alloc (.cells #[.int .i64 0, .slice none 0 0, .int .i64 0, .int .i64 0] T)) (w.heap.size + 2) (.int .i64 0) (.slice none 0 0) (.int .i64 0) (.int .i64 0)) := Lib.hid fun o o' T => by
    have := r4_new ((w.alloc o).alloc o') T (.int .i64 0) (.slice none 0 0) (.int .i64 0) (.int .i64 0)
    rw [World.size_alloc, World.size_alloc] at this
    exact this
  have HB : Hid (∀ o o' o'', Below w.heap.size w (((w.alloc o).alloc o').alloc o'')) := Lib.hid fun o o' o'' => (((Below.refl _ w).alloc (Nat.le_refl _) _).alloc (by rw [World.size_alloc]; omega) _).alloc (by rw [World.size_alloc, World.size_alloc]; omega) _
  obtain ⟨W, hW⟩ : ∃ W, W = ((w.alloc (.cells #[.int .i64 g, .slice a n c, .int .i64 k, .int .i64 q] 104)).alloc (.cells #[.slice b nc cc] 23)).alloc (.cells #[.int .i64 0, .slice none 0 0, .int .i64 0, .int .i64 0] 104) := ⟨_, rfl⟩
  have HXW : Hid (R4 W w.heap.size (.int .i64 g) (.slice a n c) (.int .i64 k) (.int .i64 q)) := Lib.hid (by rw [hW]; exact HX.out _ _ _)
  have HYW : Hid (R4 W (w.heap.size + 2) (.int .i64 0) (.slice none 0 0) (.int .i64 0) (.int .i64 0)) := Lib.hid (by rw [hW]; exact HY.out _ _ _)
  have HCW : Hid (W.cell? ⟨w.heap.size + 1, 0, none⟩ = some (.slice b nc cc)) := Lib.hid (by rw [hW]; exact HC.out _ _ _)
  have HBW : Hid (Below w.heap.size w W) := Lib.hid (by rw [hW]; exact HB.out _ _ _)
  have HT := Lib.hid hT
  have HG := Lib.hid hG
  have HA := Lib.hid hC
  have HN : Hid (∀ i : Nat, Calls Try.prog 140 #[.int .i64 i, .pointer (some ⟨w.heap.size + 1, 0, none⟩)] W fun e w' => e = .returned (.int .i64 (f i)) ∧ w' = W) := Lib.hid fun i => n_R W _ i b nc cc f HCW.out (hC.keep HBW.out)
  have N0 : Calls Try.prog 140 #[.int .i64 0, .pointer (some ⟨w.heap.size + 1, 0, none⟩)] W fun e w' => e = .returned (.int .i64 (f 0)) ∧ w' = W := HN.out 0
  have N1 : Calls Try.prog 140 #[.int .i64 1, .pointer (some ⟨w.heap.size + 1, 0, none⟩)] W fun e w' => e = .returned (.int .i64 (f 1)) ∧ w' = W := HN.out 1
  have N2 : Calls Try.prog 140 #[.int .i64 2, .pointer (some ⟨w.heap.size + 1, 0, none⟩)] W fun e w' => e = .returned (.int .i64 (f 2)) ∧ w' = W := HN.out 2
  have N3 : Calls Try.prog 140 #[.int .i64 3, .pointer (some ⟨w.heap.size + 1, 0, none⟩)] W fun e w' => e = .returned (.int .i64 (f 3)) ∧ w' = W := HN.out 3
  have w0 := within_is (k := f 0) (n := 5) (N := 5) rfl (by omega) (by omega) rfl
  have w1 := within_is (k := f 1) (n := 8) (N := 8) rfl (by omega) (by omega) rfl
  have w2 := within_is (k := f 2) (n := 4) (N := 4) rfl (by omega) (by omega) rfl
  have w3 := within_is (k := f 3) (n := 4) (N := 4) rfl (by omega) (by omega) rfl
  have h0 := wi_lt (f 0) 5 (by omega)
  have h1 := wi_lt (f 1) 8 (by omega)
  have h2 := wi_lt (f 2) 4 (by omega)
  have h3 := wi_lt (f 3) 4 (by omega)
  obtain ⟨E, hE⟩ : ∃ E, Rg.tE ⟨g, ts, k, q⟩ f = E := ⟨_, rfl⟩
  obtain ⟨R, hR⟩ : ∃ R, Rg.tR ⟨g, ts, k, q⟩ f = R := ⟨_, rfl⟩
  have HE : Hid (E = match wi (f 0) 5 with
    | 0 => Rg.regE ⟨g, ts, k, q⟩ (wi (f 1) 8) (wi (f 2) 4)
    | 1 => Rg.resE ⟨g, ts, k, q⟩ (wi (f 1) 8) (wi (f 2) 4) (Rg.kinds (f 3))
    | 2 => Rg.relE ⟨g, ts, k, q⟩ (wi (f 1) 8) (wi (f 2) 4) (Rg.kinds (f 3))
    | 3 => Rg.clrE ⟨g, ts, k, q⟩ (wi (f 1) 8) (wi (f 2) 4)
    | _ => Rg.preE ⟨g, ts, k, q⟩ (wi (f 1) 8) (wi (f 2) 4) (wi (f 3) 4)) := Lib.hid (by rw [← hE]; rfl)
  have HR : Hid (R = match wi (f 0) 5 with
    | 0 => Rg.regR ⟨g, ts, k, q⟩ (wi (f 1) 8) (wi (f 3) 4)
    | 1 => Rg.resR ⟨g, ts, k, q⟩ (wi (f 1) 8) (Rg.kinds (f 3))
    | 2 => Rg.relR ⟨g, ts, k, q⟩ (wi (f 1) 8)
    | 3 => Rg.clrR ⟨g, ts, k, q⟩
    | _ => Rg.preR ⟨g, ts, k, q⟩ (wi (f 1) 8) (wi (f 3) 4) (Rg.kinds (f 4))) := Lib.hid (by rw [← hR]; rfl)
  obtain ⟨Z, hZ⟩ : ∃ Z, rz R E = Z := ⟨_, rfl⟩
  rw [hE, hR, hZ]
  have HZ := Lib.hid hZ
  clear hZ hE hR hC hT hG HX HY HC HB
  generalize wi (f 0) 5 = m0 at *
  generalize wi (f 1) 8 = m1 at *
  generalize wi (f 2) 4 = m2 at *
  generalize wi (f 3) 4 = m3 at *
  have hW2 := hW.symm
  obtain ⟨hl, c0, c1, c2, c3, z0, z1, z2, z3⟩ := HXW.out
  obtain ⟨hm, d0, d1, d2, d3, y0, y1, y2, y3⟩ := HYW.out
  clear hW
  go_enter Try.func55, Try.ntmps55
  go_wp2_with fail
  with_reducible refine N1.mono ?_
  rintro e w' ⟨rfl, rfl⟩
  go_wp2_with fail
  with_reducible refine w1.use ?_
  rintro e w' ⟨rfl, rfl⟩
  go_wp2_with fail
  with_reducible refine N2.mono ?_
  rintro e w' ⟨rfl, rfl⟩
  go_wp2_with fail
  with_reducible refine w2.use ?_
  rintro e w' ⟨rfl, rfl⟩
  go_wp2_with fail
  with_reducible refine N3.mono ?_
  rintro e w' ⟨rfl, rfl⟩
  go_wp2_with fail
  with_reducible refine w3.use ?_
  rintro e w' ⟨rfl, rfl⟩
  go_wp2_with fail
  with_reducible refine N0.mono ?_
  rintro e w' ⟨rfl, rfl⟩
  go_wp2_with fail
  with_reducible refine w0.use ?_
  rintro e w' ⟨rfl, rfl⟩
  have H0 : m0 = 0 ∨ m0 = 1 ∨ m0 = 2 ∨ m0 = 3 ∨ m0 = 4 := by omega
  clear N0 N1 N2 w0 w1 w2 w3 h0
  rcases H0 with rfl | rfl | rfl | rfl | rfl
  · have e1 : E = Rg.regE ⟨g, ts, k, q⟩ m1 m2 := HE.out
    have e2 : R = Rg.regR ⟨g, ts, k, q⟩ m1 m3 := HR.out
    have K1 : Calls Try.prog 139 #[.agg #[.int .i64 g, .slice a n c, .int .i64 k, .int .i64 q], .int .i64 m1, .int .i64 m2, .int .i64 m3] w' (RTo w' Z E) := by
      rw [← HZ.out, e2, e1]
      exact Register_R g k q m1 m2 m3 a n c ts w' HG.out (HT.out.keep HBW.out) hg (by omega) (by omega) (by omega) (by omega)
    clear e1 e2 HE HR HZ N3
    obtain ⟨zg, zr, zk, zh⟩ := Z
    go_wp2_with fail
    with_reducible refine K1.mono ?_
    rintro e w6 ⟨a6, n6, c6, rfl, ho6, hb6⟩
    have HY6 := Lib.hid (HYW.out.on hb6)
    have HB6 := Lib.hid (HBW.out.trans (hb6.mono HBW.out.size))
    have HO6 := Lib.hid (own_low ho6 HBW.out.size)
    have HNE : Hid (∀ k, (Value.slice a6 n6 c6).ownBlock = some k → w.heap.size + 2 ≠ k) := Lib.hid fun j hj => by have := row_base ho6 j hj; omega
    clear hl c0 c1 c2 c3 z0 z1 z2 z3 hm d0 d1 d2 d3 y0 y1 y2 y3 ho6 hb6 K1
    obtain ⟨hm, d0, d1, d2, d3, y0, y1, y2, y3⟩ := HY6.out
    go_wp2_with fail
    refine bodyPost_ret (res_cell2 (p := 4) (q := 5) (B := w.heap.size + 2) rfl rfl rfl (HY6.out.set _ _ _ _)) rfl ?_
    exact ⟨a6, n6, c6, rfl, own_set4 HO6.out HNE.out _ _ _ _, below_set4 HB6.out (by omega) _ _ _ _⟩
  · have e1 : E = Rg.resE ⟨g, ts, k, q⟩ m1 m2 (Rg.kinds (f 3)) := HE.out
    have e2 : R = Rg.resR ⟨g, ts, k, q⟩ m1 (Rg.kinds (f 3)) := HR.out
    have HK : Hid (∀ w'', Below w.heap.size w w'' → Calls Try.prog 141 #[.agg #[.int .i64 g, .slice a n c, .int .i64 k, .int .i64 q], .int .i64 m1, .int .i64 m2, .int .i64 (Rg.kinds (f 3))] w'' (RTo w'' Z E)) := Lib.hid fun w'' hb => by
      rw [← HZ.out, e2, e1]
      exact Reserve_R g k q m1 m2 (Rg.kinds (f 3)) a n c ts w'' HG.out (HT.out.keep hb) (by omega) (by omega) (Rg.kinds_ok _)
    clear e1 e2 HE HR HZ
    obtain ⟨zg, zr, zk, zh⟩ := Z
    have T1 : RBox w' (w.heap.size + 2) := ⟨_, _, _, _, HYW.out⟩
    have T2 := HBW.out
    have T3 := HCW.out
    have HNI : Hid (∀ V : World, V.cell? ⟨w.heap.size + 1, 0, none⟩ = some (.slice b nc cc) → CArg V b nc f → Calls Try.prog 140 #[.int .i64 3, .pointer (some ⟨w.heap.size + 1, 0, none⟩)] V fun e w' => e = .returned (.int .i64 (f 3)) ∧ w' = V) := Lib.hid fun V h1 h2 => n_R V (w.heap.size + 1) 3 b nc cc f h1 h2
    clear hW2 N3
    go_wp2_with  fail
    go_region_held3 (fun V => V.cell? ⟨w.heap.size, 0, none⟩ = some (.int .i64 g) ∧ V.cell? ⟨w.heap.size, 1, none⟩ = some (.slice a n c) ∧ V.cell? ⟨w.heap.size, 2, none⟩ = some (.int .i64 k) ∧ V.cell? ⟨w.heap.size, 3, none⟩ = some (.int .i64 q) ∧ V.cell? ⟨w.heap.size + 1, 0, none⟩ = some (.slice b nc cc) ∧ Below w.heap.size w V ∧ w.heap.size + 2 < V.heap.size ∧ RBox V (w.heap.size + 2))
      (first
        | with_reducible exact ⟨by assumption, by assumption, by assumption, by assumption, by assumption, by assumption, by assumption, by assumption⟩
        | (go_split_ands; with_reducible exact tbox_on hbs ⟨by assumption, by assumption, by assumption, by assumption, by assumption, by assumption, by assumption, by assumption⟩)
        | (go_split_ands; with_reducible exact tbox_set4 ⟨by assumption, by assumption, by assumption, by assumption, by assumption, by assumption, by assumption, by assumption⟩)
        | exact ⟨by assumption, by assumption, by assumption, by assumption, by assumption, Below.drew (by assumption), by assumption, RBox.drew (by assumption)⟩
        | (go_split_ands; exact tbox_on hbs ⟨by assumption, by assumption, by assumption, by assumption, by assumption, Below.drew (by assumption), by assumption, RBox.drew (by assumption)⟩)
        | go_keep)
      (first
        | (go_at_call 140; refine (HNI.out _ (by first | assumption | (go_split_ands; assumption)) (HA.out.keep (by first | assumption | (go_split_ands; assumption)))).mono ?_; rintro e ws ⟨rfl, rfl⟩)
        | (go_at_call 142; refine (kinds_R _ _).mono ?_; rintro e ws ⟨rfl, hbs⟩)
        | (go_at_call 141; refine (HK.out _ (by first | assumption | (go_split_ands; assumption))).mono ?_; rintro e ws ⟨a6, n6, c6, rfl, ho6, hbs⟩; obtain ⟨u0, u1, u2, u3, HR6⟩ := RBox.on (by first | assumption | (go_split_ands; assumption)) hbs; have HR7 := Lib.hid HR6; have HO6 := Lib.hid (arm_own (w := w) (by first | assumption | (go_split_ands; assumption)) ho6); have HB6 := Lib.hid (Below.trans (a := w) (by first | assumption | (go_split_ands; assumption)) (hbs.mono (Nat.le_of_lt (Nat.lt_of_le_of_lt (Nat.le_add_right _ 2) (by first | assumption | (go_split_ands; assumption)))))); obtain ⟨hm6, d0, d1, d2, d3, y0, y1, y2, y3⟩ := HR6))
    go_wp2_with fail
    refine bodyPost_ret (res_cell2 (p := 4) (q := 5) (B := w.heap.size + 2) rfl rfl rfl (HR7.out.set _ _ _ _)) rfl ?_
    exact ⟨a6, n6, c6, rfl, own_set4 HO6.out.1 HO6.out.2 _ _ _ _, below_set4 HB6.out (by omega) _ _ _ _⟩
  · have e1 : E = Rg.relE ⟨g, ts, k, q⟩ m1 m2 (Rg.kinds (f 3)) := HE.out
    have e2 : R = Rg.relR ⟨g, ts, k, q⟩ m1 := HR.out
    have HK : Hid (∀ w'', Below w.heap.size w w'' → Calls Try.prog 143 #[.agg #[.int .i64 g, .slice a n c, .int .i64 k, .int .i64 q], .int .i64 m1, .int .i64 m2, .int .i64 (Rg.kinds (f 3))] w'' (RTo w'' Z E)) := Lib.hid fun w'' hb => by
      rw [← HZ.out, e2, e1]
      exact Release_R g k q m1 m2 (Rg.kinds (f 3)) a n c ts w'' HG.out (HT.out.keep hb) (by omega) (by omega) (Rg.kinds_ok _)
    clear e1 e2 HE HR HZ
    obtain ⟨zg, zr, zk, zh⟩ := Z
    have T1 : RBox w' (w.heap.size + 2) := ⟨_, _, _, _, HYW.out⟩
    have T2 := HBW.out
    have T3 := HCW.out
    have HNI : Hid (∀ V : World, V.cell? ⟨w.heap.size + 1, 0, none⟩ = some (.slice b nc cc) → CArg V b nc f → Calls Try.prog 140 #[.int .i64 3, .pointer (some ⟨w.heap.size + 1, 0, none⟩)] V fun e w' => e = .returned (.int .i64 (f 3)) ∧ w' = V) := Lib.hid fun V h1 h2 => n_R V (w.heap.size + 1) 3 b nc cc f h1 h2
    clear hW2 N3
    go_wp2_with  fail
    go_region_held3 (fun V => V.cell? ⟨w.heap.size, 0, none⟩ = some (.int .i64 g) ∧ V.cell? ⟨w.heap.size, 1, none⟩ = some (.slice a n c) ∧ V.cell? ⟨w.heap.size, 2, none⟩ = some (.int .i64 k) ∧ V.cell? ⟨w.heap.size, 3, none⟩ = some (.int .i64 q) ∧ V.cell? ⟨w.heap.size + 1, 0, none⟩ = some (.slice b nc cc) ∧ Below w.heap.size w V ∧ w.heap.size + 2 < V.heap.size ∧ RBox V (w.heap.size + 2))
      (first
        | with_reducible exact ⟨by assumption, by assumption, by assumption, by assumption, by assumption, by assumption, by assumption, by assumption⟩
        | (go_split_ands; with_reducible exact tbox_on hbs ⟨by assumption, by assumption, by assumption, by assumption, by assumption, by assumption, by assumption, by assumption⟩)
        | (go_split_ands; with_reducible exact tbox_set4 ⟨by assumption, by assumption, by assumption, by assumption, by assumption, by assumption, by assumption, by assumption⟩)
        | exact ⟨by assumption, by assumption, by assumption, by assumption, by assumption, Below.drew (by assumption), by assumption, RBox.drew (by assumption)⟩
        | (go_split_ands; exact tbox_on hbs ⟨by assumption, by assumption, by assumption, by assumption, by assumption, Below.drew (by assumption), by assumption, RBox.drew (by assumption)⟩)
        | go_keep)
      (first
        | (go_at_call 140; refine (HNI.out _ (by first | assumption | (go_split_ands; assumption)) (HA.out.keep (by first | assumption | (go_split_ands; assumption)))).mono ?_; rintro e ws ⟨rfl, rfl⟩)
        | (go_at_call 142; refine (kinds_R _ _).mono ?_; rintro e ws ⟨rfl, hbs⟩)
        | (go_at_call 143; refine (HK.out _ (by first | assumption | (go_split_ands; assumption))).mono ?_; rintro e ws ⟨a6, n6, c6, rfl, ho6, hbs⟩; obtain ⟨u0, u1, u2, u3, HR6⟩ := RBox.on (by first | assumption | (go_split_ands; assumption)) hbs; have HR7 := Lib.hid HR6; have HO6 := Lib.hid (arm_own (w := w) (by first | assumption | (go_split_ands; assumption)) ho6); have HB6 := Lib.hid (Below.trans (a := w) (by first | assumption | (go_split_ands; assumption)) (hbs.mono (Nat.le_of_lt (Nat.lt_of_le_of_lt (Nat.le_add_right _ 2) (by first | assumption | (go_split_ands; assumption)))))); obtain ⟨hm6, d0, d1, d2, d3, y0, y1, y2, y3⟩ := HR6))
    go_wp2_with fail
    refine bodyPost_ret (res_cell2 (p := 4) (q := 5) (B := w.heap.size + 2) rfl rfl rfl (HR7.out.set _ _ _ _)) rfl ?_
    exact ⟨a6, n6, c6, rfl, own_set4 HO6.out.1 HO6.out.2 _ _ _ _, below_set4 HB6.out (by omega) _ _ _ _⟩
  · have e1 : E = Rg.clrE ⟨g, ts, k, q⟩ m1 m2 := HE.out
    have e2 : R = Rg.clrR ⟨g, ts, k, q⟩ := HR.out
    have K1 : Calls Try.prog 56 #[.agg #[.int .i64 g, .slice a n c, .int .i64 k, .int .i64 q], .int .i64 m1, .int .i64 m2] w' (RTo w' Z E) := by
      rw [← HZ.out, e2, e1]
      exact Clear_R g k q m1 m2 a n c ts w' HG.out (HT.out.keep HBW.out) (by omega) (by omega)
    clear e1 e2 HE HR HZ N3
    obtain ⟨zg, zr, zk, zh⟩ := Z
    go_wp2_with fail
    with_reducible refine K1.mono ?_
    rintro e w6 ⟨a6, n6, c6, rfl, ho6, hb6⟩
    have HY6 := Lib.hid (HYW.out.on hb6)
    have HB6 := Lib.hid (HBW.out.trans (hb6.mono HBW.out.size))
    have HO6 := Lib.hid (own_low ho6 HBW.out.size)
    have HNE : Hid (∀ k, (Value.slice a6 n6 c6).ownBlock = some k → w.heap.size + 2 ≠ k) := Lib.hid fun j hj => by have := row_base ho6 j hj; omega
    clear hl c0 c1 c2 c3 z0 z1 z2 z3 hm d0 d1 d2 d3 y0 y1 y2 y3 ho6 hb6 K1
    obtain ⟨hm, d0, d1, d2, d3, y0, y1, y2, y3⟩ := HY6.out
    go_wp2_with fail
    refine bodyPost_ret (res_cell2 (p := 4) (q := 5) (B := w.heap.size + 2) rfl rfl rfl (HY6.out.set _ _ _ _)) rfl ?_
    exact ⟨a6, n6, c6, rfl, own_set4 HO6.out HNE.out _ _ _ _, below_set4 HB6.out (by omega) _ _ _ _⟩
  · have e1 : E = Rg.preE ⟨g, ts, k, q⟩ m1 m2 m3 := HE.out
    have e2 : R = Rg.preR ⟨g, ts, k, q⟩ m1 m3 (Rg.kinds (f 4)) := HR.out
    have HK : Hid (∀ w'', Below w.heap.size w w'' → Calls Try.prog 144 #[.agg #[.int .i64 g, .slice a n c, .int .i64 k, .int .i64 q], .int .i64 m1, .int .i64 m2, .int .i64 m3, .int .i64 (Rg.kinds (f 4))] w'' (RTo w'' Z E)) := Lib.hid fun w'' hb => by
      rw [← HZ.out, e2, e1]
      exact Preempt_R g k q m1 m2 m3 (Rg.kinds (f 4)) a n c ts w'' HG.out (HT.out.keep hb) hg (by omega) (by omega) (by omega) (by omega) (Rg.kinds_ok _)
    clear e1 e2 HE HR HZ
    obtain ⟨zg, zr, zk, zh⟩ := Z
    have T1 : RBox w' (w.heap.size + 2) := ⟨_, _, _, _, HYW.out⟩
    have T2 := HBW.out
    have T3 := HCW.out
    have HNI : Hid (∀ V : World, V.cell? ⟨w.heap.size + 1, 0, none⟩ = some (.slice b nc cc) → CArg V b nc f → Calls Try.prog 140 #[.int .i64 4, .pointer (some ⟨w.heap.size + 1, 0, none⟩)] V fun e w' => e = .returned (.int .i64 (f 4)) ∧ w' = V) := Lib.hid fun V h1 h2 => n_R V (w.heap.size + 1) 4 b nc cc f h1 h2
    clear hW2 N3
    go_wp2_with  fail
    go_region_held3 (fun V => V.cell? ⟨w.heap.size, 0, none⟩ = some (.int .i64 g) ∧ V.cell? ⟨w.heap.size, 1, none⟩ = some (.slice a n c) ∧ V.cell? ⟨w.heap.size, 2, none⟩ = some (.int .i64 k) ∧ V.cell? ⟨w.heap.size, 3, none⟩ = some (.int .i64 q) ∧ V.cell? ⟨w.heap.size + 1, 0, none⟩ = some (.slice b nc cc) ∧ Below w.heap.size w V ∧ w.heap.size + 2 < V.heap.size ∧ RBox V (w.heap.size + 2))
      (first
        | with_reducible exact ⟨by assumption, by assumption, by assumption, by assumption, by assumption, by assumption, by assumption, by assumption⟩
        | (go_split_ands; with_reducible exact tbox_on hbs ⟨by assumption, by assumption, by assumption, by assumption, by assumption, by assumption, by assumption, by assumption⟩)
        | (go_split_ands; with_reducible exact tbox_set4 ⟨by assumption, by assumption, by assumption, by assumption, by assumption, by assumption, by assumption, by assumption⟩)
        | exact ⟨by assumption, by assumption, by assumption, by assumption, by assumption, Below.drew (by assumption), by assumption, RBox.drew (by assumption)⟩
        | (go_split_ands; exact tbox_on hbs ⟨by assumption, by assumption, by assumption, by assumption, by assumption, Below.drew (by assumption), by assumption, RBox.drew (by assumption)⟩)
        | go_keep)
      (first
        | (go_at_call 140; refine (HNI.out _ (by first | assumption | (go_split_ands; assumption)) (HA.out.keep (by first | assumption | (go_split_ands; assumption)))).mono ?_; rintro e ws ⟨rfl, rfl⟩)
        | (go_at_call 142; refine (kinds_R _ _).mono ?_; rintro e ws ⟨rfl, hbs⟩)
        | (go_at_call 144; refine (HK.out _ (by first | assumption | (go_split_ands; assumption))).mono ?_; rintro e ws ⟨a6, n6, c6, rfl, ho6, hbs⟩; obtain ⟨u0, u1, u2, u3, HR6⟩ := RBox.on (by first | assumption | (go_split_ands; assumption)) hbs; have HR7 := Lib.hid HR6; have HO6 := Lib.hid (arm_own (w := w) (by first | assumption | (go_split_ands; assumption)) ho6); have HB6 := Lib.hid (Below.trans (a := w) (by first | assumption | (go_split_ands; assumption)) (hbs.mono (Nat.le_of_lt (Nat.lt_of_le_of_lt (Nat.le_add_right _ 2) (by first | assumption | (go_split_ands; assumption)))))); obtain ⟨hm6, d0, d1, d2, d3, y0, y1, y2, y3⟩ := HR6))
    go_wp2_with fail
    refine bodyPost_ret (res_cell2 (p := 4) (q := 5) (B := w.heap.size + 2) rfl rfl rfl (HR7.out.set _ _ _ _)) rfl ?_
    exact ⟨a6, n6, c6, rfl, own_set4 HO6.out.1 HO6.out.2 _ _ _ _, below_set4 HB6.out (by omega) _ _ _ _⟩

end Go.Proofs.Ytenkdpogdfcbgaa.Rs
