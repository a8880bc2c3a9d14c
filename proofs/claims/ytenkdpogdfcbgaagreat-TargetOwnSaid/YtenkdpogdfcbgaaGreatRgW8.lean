/- Walks: resv.Clear, resv.Reserve, resv.Release, resv.May. -/
import Derived.Test.YtenkdpogdfcbgaaGreatRgW4
namespace Go.Proofs.YtenkdpogdfcbgaaGreat.Rs
open Go.RowKit

/-- What a call that answers a reservation and an error leaves. -/
def RTo (w : World) (r : Rg.RV) (E : Nat) (e : Ending) (w' : World) : Prop :=
  ∃ a n c, e = .returned (.tuple #[.agg #[.int .i64 r.gen, .slice a n c, .int .i64 r.kind, .int .i64 r.holder], .int .i64 (E : Nat)]) ∧ w'.ownsRow w.heap.size 39 2 (.slice a n c) n (tv r.regs) ∧ Below w.heap.size w w'

/-- With an error nothing is answered. -/
def rz (r : Rg.RV) (E : Nat) : Rg.RV := if E = 0 then r else Rg.zero

theorem rto_err {w w' : World} {r : Rg.RV} {E : Nat} (hE : E ≠ 0) (hb : Below w.heap.size w w') : RTo w (rz r E) E (.returned (.tuple #[.agg #[.int .i64 0, .slice none 0 0, .int .i64 0, .int .i64 0], .int .i64 (E : Nat)])) w' := by
  unfold rz
  rw [if_neg hE]
  exact ⟨none, 0, 0, rfl, World.ownsRow_nil _ _ _ _, hb⟩

theorem rto_ok {w w' : World} {r : Rg.RV} {a : Option Addr} {n c : Nat} (ho : w'.ownsRow w.heap.size 39 2 (.slice a n c) n (tv r.regs)) (hb : Below w.heap.size w w') :
    RTo w (rz r 0) 0 (.returned (.tuple #[.agg #[.int .i64 r.gen, .slice a n c, .int .i64 r.kind, .int .i64 r.holder], .int .i64 0])) w' := ⟨a, n, c, rfl, ho, hb⟩

theorem below_set4 {N : Nat} {w W : World} {B : Nat} (h : Below N w W) (hN : N ≤ B) (u0 u1 u2 u3 : Value) : Below N w ((((W.setCell ⟨B, 0, none⟩ u0).setCell ⟨B, 1, none⟩ u1).setCell ⟨B, 2, none⟩ u2).setCell ⟨B, 3, none⟩ u3) :=
  (((h.setCell hN _).setCell hN _).setCell hN _).setCell hN _

theorem own_set4 {w : World} {base n : Nat} {e : TypeId} {v : Value} {xs : List Value} (h : w.ownsRow base e 2 v n xs) {B : Nat} (hB : ∀ k, v.ownBlock = some k → B ≠ k) (u0 u1 u2 u3 : Value) : ((((w.setCell ⟨B, 0, none⟩ u0).setCell ⟨B, 1, none⟩ u1).setCell ⟨B, 2, none⟩ u2).setCell ⟨B, 3, none⟩ u3).ownsRow base e 2 v n xs :=
  own_set_other (own_set_other (own_set_other (own_set_other h hB _ _) hB _ _) hB _ _) hB _ _

theorem keyE_kd (ts : List Qu.T) (x y : Int) : (Rg.kd ts x y = false ∧ keyE ts x y = 9) ∨ (Rg.kd ts x y = true ∧ keyE ts x y = 0) := by
  unfold keyE
  cases Rg.kd ts x y
  · exact Or.inl ⟨rfl, rfl⟩
  · exact Or.inr ⟨rfl, rfl⟩

/-- The boxes that a call on a reservation begins with. -/
theorem boxes_x (w : World) (g k q : Int) (a : Option Addr) (n c : Nat) : Hid (∀ T o, R4 ((w.alloc (.cells #[.int .i64 g, .slice a n c, .int .i64 k, .int .i64 q] T)).alloc o) w.heap.size (.int .i64 g) (.slice a n c) (.int .i64 k) (.int .i64 q)) := Lib.hid fun T _ => (r4_new w T _ _ _ _).alloc _
theorem boxes_y (w : World) : Hid (∀ o T, R4 ((w.alloc o).alloc (.cells #[.int .i64 0, .slice none 0 0, .int .i64 0, .int .i64 0] T)) (w.heap.size + 1) (.int .i64 0) (.slice none 0 0) (.int .i64 0) (.int .i64 0)) := Lib.hid fun o T => by
  have := r4_new (w.alloc o) T (.int .i64 0) (.slice none 0 0) (.int .i64 0) (.int .i64 0)
  rw [World.size_alloc] at this
  exact this
theorem boxes_b (w : World) : Hid (∀ o o', Below w.heap.size w ((w.alloc o).alloc o')) := Lib.hid fun o o' => ((Below.refl _ w).alloc (Nat.le_refl _) _).alloc (by rw [World.size_alloc]; omega) _

set_option maxRecDepth 100000 in
set_option maxHeartbeats 8000000 in
theorem Reserve_R (g k q x y kk : Int) (a : Option Addr) (n c : Nat) (ts : List Qu.T) (w : World) (hG : Rg.Good ⟨g, ts, k, q⟩) (hT : TSl w a n c ts) (hx0 : 0 ≤ x) (hx7 : x ≤ 7) (hkk : Rg.kindB kk = true) :
    Calls Tryz.prog 43 #[.agg #[.int .i64 g, .slice a n c, .int .i64 k, .int .i64 q], .int .i64 x, .int .i64 y, .int .i64 kk] w (RTo w (rz (Rg.resR ⟨g, ts, k, q⟩ x kk) (Rg.resE ⟨g, ts, k, q⟩ x y kk)) (Rg.resE ⟨g, ts, k, q⟩ x y kk)) := by
  have hg0 : 0 ≤ g := hG.gen0
  have hg1 : g ≤ 2147483647 := hG.gen1
  have hn8 : n ≤ 8 := by have := hG.len; rw [hT.len] at this; exact this
  have HX := boxes_x w g k q a n c
  have HY := boxes_y w
  have HB := boxes_b w
  have C1 := fun o o' => keyed_R g k q x y a n c ts ((w.alloc o).alloc o') hG (hT.keep (HB.out o o')) hx0 hx7
  have HH : Hid (∀ w', Below w.heap.size w w' → Calls Tryz.prog 46 #[.agg #[.int .i64 g, .slice a n c, .int .i64 k, .int .i64 q], .int .i64 x] w' fun e w'' => e = .returned (.bool (Rg.hasR ts k q x)) ∧ Below w'.heap.size w' w'') := Lib.hid fun w' hb => Has_R g k q x a n c ts _ rfl w' (hT.keep hb) (by omega)
  have HN : Hid (∀ w', Below w.heap.size w w' → Calls Tryz.prog 64 #[.agg #[.int .i64 g, .slice a n c, .int .i64 k, .int .i64 q], .int .i64 0] w' fun e w'' => ∃ a' c', e = .returned (.agg #[.int .i64 g, .slice a' n c', .int .i64 k, .int .i64 q]) ∧ w''.ownsRow w'.heap.size 39 2 (.slice a' n c') n (tv ts) ∧ Below w'.heap.size w' w'') := Lib.hid fun w' hb => by
    have h := next_R g 0 k q a n c ts w' (hT.keep hb) (by omega) hg0 hg1 (by omega) (by omega)
    rw [Int.add_zero] at h
    exact h
  have K1 := fun w => kind_R kk true hkk w
  have A1 := fun w => all_R kk _ rfl w
  obtain ⟨E, hE⟩ : ∃ E, Rg.resE ⟨g, ts, k, q⟩ x y kk = E := ⟨_, rfl⟩
  have HE : Hid (E = if Rg.kd ts x y = false then 9 else if k = 0 then 0 else if Rg.hasR ts k q x = true ∧ k = kk then 0 else 9) := Lib.hid (by rw [← hE]; rfl)
  rw [hE]
  have HKE := Lib.hid (keyE_kd ts x y)
  clear hT hG hE
  go_enter Tryz.func43, Tryz.ntmps43
  go_wp2_with fail
  with_reducible refine (C1 _ _).mono ?_
  rintro e w1 ⟨rfl, hb1⟩
  have HB1 := Lib.hid ((HB.out _ _).trans (hb1.mono (HB.out _ _).size))
  have HX1 := Lib.hid ((HX.out 42 _).on hb1)
  have HY1 := Lib.hid ((HY.out _ 42).on hb1)
  obtain ⟨hl, c0, c1, c2, c3, z0, z1, z2, z3⟩ := HX1.out
  obtain ⟨hm, d0, d1, d2, d3, y0, y1, y2, y3⟩ := HY1.out
  clear hb1 C1
  rcases HKE.out with ⟨h1, h2⟩ | ⟨h1, h2⟩
  · rw [h2]
    obtain rfl : E = 9 := by rw [HE.out, if_pos h1]
    clear h1 h2 HE HKE
    go_wp2_with fail
    refine bodyPost_ret (res_cell2 (p := 8) (q := 9) (B := w.heap.size + 1) rfl rfl rfl (HY1.out.set _ _ _ _)) rfl ?_
    exact rto_err (by decide) (below_set4 HB1.out (by omega) _ _ _ _)
  · rw [h2]
    rw [h1, if_neg (by decide)] at HE
    clear h1 h2 HKE
    by_cases h0 : k = 0
    · obtain rfl : E = 0 := by rw [HE.out, if_pos h0]
      subst h0
      have N1 := HN.out w1 HB1.out
      clear HE
      go_wp2_with fail
      with_reducible refine (K1 _).mono ?_
      rintro e w2 ⟨rfl, rfl⟩
      go_wp2_with fail
      with_reducible refine N1.mono ?_
      rintro e w3 ⟨a', c', rfl, ho3, hb3⟩
      have HB3 := Lib.hid (HB1.out.trans (hb3.mono HB1.out.size))
      have HO3 := Lib.hid (own_low ho3 HB1.out.size)
      have HY3 := Lib.hid (HY1.out.on hb3)
      have hs3 := HB3.out.size
      have HNE : Hid (∀ k, (Value.slice a' n c').ownBlock = some k → w.heap.size + 1 ≠ k) := Lib.hid fun j hj => by have := row_base ho3 j hj; omega
      clear hl c0 c1 c2 c3 z0 z1 z2 z3 hm d0 d1 d2 d3 y0 y1 y2 y3 ho3 hb3 N1
      obtain ⟨hm, d0, d1, d2, d3, y0, y1, y2, y3⟩ := HY3.out
      cases ha : Rg.all kk with
      | true =>
        rw [ha] at A1
        have HR : Hid (Rg.resR ⟨g, ts, 0, q⟩ x kk = ⟨g, ts, kk, q⟩) := Lib.hid (by unfold Rg.resR; rw [if_pos ha])
        clear ha
        go_wp2_with fail
        with_reducible refine (A1 _).mono ?_
        rintro e w4 ⟨rfl, rfl⟩
        go_wp2_with fail
        refine bodyPost_ret (res_cell2 (p := 8) (q := 9) (B := w.heap.size + 1) rfl rfl rfl ((HY3.out.set _ _ _ _).alloc _)) rfl ?_
        rw [HR.out]
        exact rto_ok (r := ⟨g, ts, kk, q⟩) ((own_set4 HO3.out HNE.out _ _ _ _).alloc _) ((below_set4 HB3.out (by omega) _ _ _ _).alloc (by simp only [World.size_setCell]; exact hs3) _)
      | false =>
        rw [ha] at A1
        have HR : Hid (Rg.resR ⟨g, ts, 0, q⟩ x kk = ⟨g, ts, kk, x⟩) := Lib.hid (by unfold Rg.resR; rw [if_neg (by rw [ha]; decide)])
        clear ha
        go_wp2_with fail
        with_reducible refine (A1 _).mono ?_
        rintro e w4 ⟨rfl, rfl⟩
        go_wp2_with fail
        refine bodyPost_ret (res_cell2 (p := 8) (q := 9) (B := w.heap.size + 1) rfl rfl rfl ((HY3.out.set _ _ _ _).alloc _)) rfl ?_
        rw [HR.out]
        exact rto_ok (r := ⟨g, ts, kk, x⟩) ((own_set4 HO3.out HNE.out _ _ _ _).alloc _) ((below_set4 HB3.out (by omega) _ _ _ _).alloc (by simp only [World.size_setCell]; exact hs3) _)
    · have e0 : (k != 0) = true := bne_iff_ne.2 h0
      rw [if_neg h0] at HE
      have H1 := HH.out w1 HB1.out
      cases hh : Rg.hasR ts k q x with
      | false =>
        rw [hh] at H1 HE
        obtain rfl : E = 9 := by rw [HE.out, if_neg (by simp)]
        clear HE hh h0
        go_wp2_with fail
        with_reducible refine (K1 _).mono ?_
        rintro e w2 ⟨rfl, rfl⟩
        go_wp2_with fail
        with_reducible refine H1.mono ?_
        rintro e w3 ⟨rfl, hb3⟩
        have HB3 := Lib.hid (HB1.out.trans (hb3.mono HB1.out.size))
        have HY3 := Lib.hid (HY1.out.on hb3)
        clear hl c0 c1 c2 c3 z0 z1 z2 z3 hm d0 d1 d2 d3 y0 y1 y2 y3 hb3 H1
        obtain ⟨hm, d0, d1, d2, d3, y0, y1, y2, y3⟩ := HY3.out
        go_wp2_with fail
        refine bodyPost_ret (res_cell2 (p := 8) (q := 9) (B := w.heap.size + 1) rfl rfl rfl (HY3.out.set _ _ _ _)) rfl ?_
        exact rto_err (by decide) (below_set4 HB3.out (by omega) _ _ _ _)
      | true =>
        rw [hh] at H1 HE
        by_cases hq : k = kk
        · subst hq
          obtain rfl : E = 0 := by rw [HE.out, if_pos ⟨rfl, rfl⟩]
          clear HE hh h0
          go_wp2_with fail
          with_reducible refine (K1 _).mono ?_
          rintro e w2 ⟨rfl, rfl⟩
          go_wp2_with fail
          with_reducible refine H1.mono ?_
          rintro e w4 ⟨rfl, hb4⟩
          have HB4 := Lib.hid (HB1.out.trans (hb4.mono HB1.out.size))
          have HY4 := Lib.hid (HY1.out.on hb4)
          have HX4 := Lib.hid (HX1.out.on hb4)
          have N1 := HN.out w4 HB4.out
          clear hl c0 c1 c2 c3 z0 z1 z2 z3 hm d0 d1 d2 d3 y0 y1 y2 y3 hb4 H1 HX1 HY1 HB1
          obtain ⟨hl, c0, c1, c2, c3, z0, z1, z2, z3⟩ := HX4.out
          obtain ⟨hm, d0, d1, d2, d3, y0, y1, y2, y3⟩ := HY4.out
          go_wp2_with fail
          with_reducible refine N1.mono ?_
          rintro e w3 ⟨a', c', rfl, ho3, hb3⟩
          have HB3 := Lib.hid (HB4.out.trans (hb3.mono HB4.out.size))
          have HO3 := Lib.hid (own_low ho3 HB4.out.size)
          have HY3 := Lib.hid (HY4.out.on hb3)
          have hs3 := HB3.out.size
          have HNE : Hid (∀ k, (Value.slice a' n c').ownBlock = some k → w.heap.size + 1 ≠ k) := Lib.hid fun j hj => by have := row_base ho3 j hj; omega
          clear hl c0 c1 c2 c3 z0 z1 z2 z3 hm d0 d1 d2 d3 y0 y1 y2 y3 ho3 hb3 N1
          obtain ⟨hm, d0, d1, d2, d3, y0, y1, y2, y3⟩ := HY3.out
          cases ha : Rg.all k with
          | true =>
            rw [ha] at A1
            have HR : Hid (Rg.resR ⟨g, ts, k, q⟩ x k = ⟨g, ts, k, q⟩) := Lib.hid (by unfold Rg.resR; rw [if_pos ha])
            clear ha
            go_wp2_with fail
            with_reducible refine (A1 _).mono ?_
            rintro e w4 ⟨rfl, rfl⟩
            go_wp2_with fail
            refine bodyPost_ret (res_cell2 (p := 8) (q := 9) (B := w.heap.size + 1) rfl rfl rfl ((HY3.out.set _ _ _ _).alloc _)) rfl ?_
            rw [HR.out]
            exact rto_ok (r := ⟨g, ts, k, q⟩) ((own_set4 HO3.out HNE.out _ _ _ _).alloc _) ((below_set4 HB3.out (by omega) _ _ _ _).alloc (by simp only [World.size_setCell]; exact hs3) _)
          | false =>
            rw [ha] at A1
            have HR : Hid (Rg.resR ⟨g, ts, k, q⟩ x k = ⟨g, ts, k, x⟩) := Lib.hid (by unfold Rg.resR; rw [if_neg (by rw [ha]; decide)])
            clear ha
            go_wp2_with fail
            with_reducible refine (A1 _).mono ?_
            rintro e w4 ⟨rfl, rfl⟩
            go_wp2_with fail
            refine bodyPost_ret (res_cell2 (p := 8) (q := 9) (B := w.heap.size + 1) rfl rfl rfl ((HY3.out.set _ _ _ _).alloc _)) rfl ?_
            rw [HR.out]
            exact rto_ok (r := ⟨g, ts, k, x⟩) ((own_set4 HO3.out HNE.out _ _ _ _).alloc _) ((below_set4 HB3.out (by omega) _ _ _ _).alloc (by simp only [World.size_setCell]; exact hs3) _)
        · have eq : (k != kk) = true := bne_iff_ne.2 hq
          obtain rfl : E = 9 := by rw [HE.out, if_neg (fun h => hq h.2)]
          clear HE hh h0 hq
          go_wp2_with fail
          with_reducible refine (K1 _).mono ?_
          rintro e w2 ⟨rfl, rfl⟩
          go_wp2_with fail
          with_reducible refine H1.mono ?_
          rintro e w3 ⟨rfl, hb3⟩
          have HB3 := Lib.hid (HB1.out.trans (hb3.mono HB1.out.size))
          have HY3 := Lib.hid (HY1.out.on hb3)
          have HX3 := Lib.hid (HX1.out.on hb3)
          clear hl c0 c1 c2 c3 z0 z1 z2 z3 hm d0 d1 d2 d3 y0 y1 y2 y3 hb3 H1
          obtain ⟨hl, c0, c1, c2, c3, z0, z1, z2, z3⟩ := HX3.out
          obtain ⟨hm, d0, d1, d2, d3, y0, y1, y2, y3⟩ := HY3.out
          go_wp2_with fail
          refine bodyPost_ret (res_cell2 (p := 8) (q := 9) (B := w.heap.size + 1) rfl rfl rfl (HY3.out.set _ _ _ _)) rfl ?_
          exact rto_err (by decide) (below_set4 HB3.out (by omega) _ _ _ _)

set_option maxRecDepth 100000 in
set_option maxHeartbeats 8000000 in
theorem Release_R (g k q x y kk : Int) (a : Option Addr) (n c : Nat) (ts : List Qu.T) (w : World) (hG : Rg.Good ⟨g, ts, k, q⟩) (hT : TSl w a n c ts) (hx0 : 0 ≤ x) (hx7 : x ≤ 7) (hkk : Rg.kindB kk = true) :
    Calls Tryz.prog 63 #[.agg #[.int .i64 g, .slice a n c, .int .i64 k, .int .i64 q], .int .i64 x, .int .i64 y, .int .i64 kk] w (RTo w (rz (Rg.relR ⟨g, ts, k, q⟩ x) (Rg.relE ⟨g, ts, k, q⟩ x y kk)) (Rg.relE ⟨g, ts, k, q⟩ x y kk)) := by
  have hg0 : 0 ≤ g := hG.gen0
  have hg1 : g ≤ 2147483647 := hG.gen1
  have hn8 : n ≤ 8 := by have := hG.len; rw [hT.len] at this; exact this
  have HX := boxes_x w g k q a n c
  have HY := boxes_y w
  have HB := boxes_b w
  have C1 := fun o o' => keyed_R g k q x y a n c ts ((w.alloc o).alloc o') hG (hT.keep (HB.out o o')) hx0 hx7
  have HH : Hid (∀ w', Below w.heap.size w w' → Calls Tryz.prog 46 #[.agg #[.int .i64 g, .slice a n c, .int .i64 k, .int .i64 q], .int .i64 x] w' fun e w'' => e = .returned (.bool (Rg.hasR ts k q x)) ∧ Below w'.heap.size w' w'') := Lib.hid fun w' hb => Has_R g k q x a n c ts _ rfl w' (hT.keep hb) (by omega)
  have HN : Hid (∀ w', Below w.heap.size w w' → Calls Tryz.prog 64 #[.agg #[.int .i64 g, .slice a n c, .int .i64 k, .int .i64 q], .int .i64 0] w' fun e w'' => ∃ a' c', e = .returned (.agg #[.int .i64 g, .slice a' n c', .int .i64 k, .int .i64 q]) ∧ w''.ownsRow w'.heap.size 39 2 (.slice a' n c') n (tv ts) ∧ Below w'.heap.size w' w'') := Lib.hid fun w' hb => by
    have h := next_R g 0 k q a n c ts w' (hT.keep hb) (by omega) hg0 hg1 (by omega) (by omega)
    rw [Int.add_zero] at h
    exact h
  have K1 := fun w => kind_R kk true hkk w
  have F1 := fun a c w => free_R g k q a n c w
  obtain ⟨E, hE⟩ : ∃ E, Rg.relE ⟨g, ts, k, q⟩ x y kk = E := ⟨_, rfl⟩
  have HE : Hid (E = if Rg.kd ts x y = false then 9 else if Rg.hasR ts k q x = false then 0 else if k = kk then 0 else 3) := Lib.hid (by rw [← hE]; rfl)
  rw [hE]
  have HKE := Lib.hid (keyE_kd ts x y)
  clear hT hG hE
  go_enter Tryz.func63, Tryz.ntmps63
  go_wp2_with fail
  with_reducible refine (C1 _ _).mono ?_
  rintro e w1 ⟨rfl, hb1⟩
  have HB1 := Lib.hid ((HB.out _ _).trans (hb1.mono (HB.out _ _).size))
  have HX1 := Lib.hid ((HX.out 42 _).on hb1)
  have HY1 := Lib.hid ((HY.out _ 42).on hb1)
  obtain ⟨hl, c0, c1, c2, c3, z0, z1, z2, z3⟩ := HX1.out
  obtain ⟨hm, d0, d1, d2, d3, y0, y1, y2, y3⟩ := HY1.out
  clear hb1 C1
  rcases HKE.out with ⟨h1, h2⟩ | ⟨h1, h2⟩
  · rw [h2]
    obtain rfl : E = 9 := by rw [HE.out, if_pos h1]
    clear h1 h2 HE HKE
    go_wp2_with fail
    refine bodyPost_ret (res_cell2 (p := 8) (q := 9) (B := w.heap.size + 1) rfl rfl rfl (HY1.out.set _ _ _ _)) rfl ?_
    exact rto_err (by decide) (below_set4 HB1.out (by omega) _ _ _ _)
  · rw [h2]
    rw [h1, if_neg (by decide)] at HE
    clear h1 h2 HKE
    have N1 := HN.out w1 HB1.out
    go_wp2_with fail
    with_reducible refine (K1 _).mono ?_
    rintro e w2 ⟨rfl, rfl⟩
    go_wp2_with fail
    with_reducible refine N1.mono ?_
    rintro e w3 ⟨a', c', rfl, ho3, hb3⟩
    have HB3 := Lib.hid (HB1.out.trans (hb3.mono HB1.out.size))
    have HO3 := Lib.hid (own_low ho3 HB1.out.size)
    have HY3 := Lib.hid (HY1.out.on hb3)
    have HX3 := Lib.hid (HX1.out.on hb3)
    have hs3 := HB3.out.size
    have HNE : Hid (∀ k, (Value.slice a' n c').ownBlock = some k → w.heap.size + 1 ≠ k) := Lib.hid fun j hj => by have := row_base ho3 j hj; omega
    have HBA : Hid (∀ o, Below w.heap.size w (w3.alloc o)) := Lib.hid fun o => HB3.out.alloc hs3 o
    have HZ : Hid (∀ T, R4 (w3.alloc (.cells #[.int .i64 g, .slice a' n c', .int .i64 k, .int .i64 q] T)) w3.heap.size (.int .i64 g) (.slice a' n c') (.int .i64 k) (.int .i64 q)) := Lib.hid fun T => r4_new w3 T _ _ _ _
    have H1 := fun o => HH.out (w3.alloc o) (HBA.out o)
    clear hl c0 c1 c2 c3 z0 z1 z2 z3 hm d0 d1 d2 d3 y0 y1 y2 y3 ho3 hb3 N1
    obtain ⟨hl, c0, c1, c2, c3, z0, z1, z2, z3⟩ := HX3.out
    go_wp2_with fail
    with_reducible refine (H1 _).mono ?_
    rintro e w4 ⟨rfl, hb4⟩
    have HB4 := Lib.hid ((HBA.out _).trans (hb4.mono (HBA.out _).size))
    have HX4 := Lib.hid ((HX3.out.alloc _).on hb4)
    have HY4 := Lib.hid ((HY3.out.alloc _).on hb4)
    have HZ4 := Lib.hid ((HZ.out 42).on hb4)
    have HO4 := Lib.hid (own_keep (HO3.out.alloc _) hb4)
    have hs4 : w3.heap.size ≤ w4.heap.size := by have := hb4.size; rw [World.size_alloc] at this; omega
    clear hl c0 c1 c2 c3 z0 z1 z2 z3 hb4 H1
    obtain ⟨hl, c0, c1, c2, c3, z0, z1, z2, z3⟩ := HX4.out
    obtain ⟨hm, d0, d1, d2, d3, y0, y1, y2, y3⟩ := HY4.out
    obtain ⟨hn, b0, b1, b2, b3, x0, x1, x2, x3⟩ := HZ4.out
    cases hh : Rg.hasR ts k q x with
    | false =>
      obtain rfl : E = 0 := by rw [HE.out, if_pos hh]
      have HR : Hid (Rg.relR ⟨g, ts, k, q⟩ x = ⟨g, ts, k, q⟩) := Lib.hid (by unfold Rg.relR; rw [if_pos hh])
      clear HE hh
      go_wp2_with fail
      refine bodyPost_ret (res_cell2 (p := 8) (q := 9) (B := w.heap.size + 1) rfl rfl rfl (HY4.out.set _ _ _ _)) rfl ?_
      rw [HR.out]
      exact rto_ok (r := ⟨g, ts, k, q⟩) (own_set4 HO4.out HNE.out _ _ _ _) (below_set4 HB4.out (by omega) _ _ _ _)
    | true =>
      rw [hh, if_neg (by decide)] at HE
      by_cases hq : k = kk
      · subst hq
        obtain rfl : E = 0 := by rw [HE.out, if_pos rfl]
        have HR : Hid (Rg.relR ⟨g, ts, k, q⟩ x = ⟨g, ts, 0, 0⟩) := Lib.hid (by unfold Rg.relR; rw [if_neg (by rw [hh]; decide)])
        clear HE hh
        go_wp2_with fail
        with_reducible refine (F1 _ _ _).mono ?_
        rintro e w5 ⟨rfl, hb5⟩
        have HB5 := Lib.hid (HB4.out.trans (hb5.mono HB4.out.size))
        have HY5 := Lib.hid (HY4.out.on hb5)
        have HO5 := Lib.hid (own_keep HO4.out hb5)
        clear hl c0 c1 c2 c3 z0 z1 z2 z3 hm d0 d1 d2 d3 y0 y1 y2 y3 hn b0 b1 b2 b3 x0 x1 x2 x3 hb5
        obtain ⟨hm, d0, d1, d2, d3, y0, y1, y2, y3⟩ := HY5.out
        go_wp2_with fail
        refine bodyPost_ret (res_cell2 (p := 8) (q := 9) (B := w.heap.size + 1) rfl rfl rfl (HY5.out.set _ _ _ _)) rfl ?_
        rw [HR.out]
        exact rto_ok (r := ⟨g, ts, 0, 0⟩) (own_set4 HO5.out HNE.out _ _ _ _) (below_set4 HB5.out (by omega) _ _ _ _)
      · have eq : (k != kk) = true := bne_iff_ne.2 hq
        obtain rfl : E = 3 := by rw [HE.out, if_neg hq]
        clear HE hh hq
        go_wp2_with fail
        refine bodyPost_ret (res_cell2 (p := 8) (q := 9) (B := w.heap.size + 1) rfl rfl rfl (HY4.out.set _ _ _ _)) rfl ?_
        exact rto_err (by decide) (below_set4 HB4.out (by omega) _ _ _ _)

set_option maxRecDepth 100000 in
set_option maxHeartbeats 8000000 in
theorem May_R (g k q x : Int) (wr v : Bool) (a : Option Addr) (n c : Nat) (ts : List Qu.T) (w : World) (hG : Rg.Good ⟨g, ts, k, q⟩) (hT : TSl w a n c ts) (hx0 : 0 ≤ x) (hx7 : x ≤ 7) (hv : Rg.mayB ⟨g, ts, k, q⟩ x wr = v) :
    Calls Tryz.prog 21 #[.agg #[.int .i64 g, .slice a n c, .int .i64 k, .int .i64 q], .int .i64 x, .bool wr] w fun e w' => e = .returned (.tuple #[.bool v, .int .i64 0]) ∧ Below w.heap.size w w' := by
  have hn8 : n ≤ 8 := by have := hG.len; rw [hT.len] at this; exact this
  have HX : Hid (∀ T, R4 (w.alloc (.cells #[.int .i64 g, .slice a n c, .int .i64 k, .int .i64 q] T)) w.heap.size (.int .i64 g) (.slice a n c) (.int .i64 k) (.int .i64 q)) := Lib.hid fun T => r4_new w T _ _ _ _
  have HB : Hid (∀ o, Below w.heap.size w (w.alloc o)) := Lib.hid fun o => (Below.refl _ w).alloc (Nat.le_refl _) _
  have C1 := fun o => Check_R g k q a n c ts (w.alloc o) hG (hT.keep (HB.out o))
  have W1 := fun w => who_R x true (by unfold Rg.who; rw [decide_eq_true hx0, decide_eq_true hx7]; rfl) w
  have HF : Hid (∀ w', Below w.heap.size w w' → Calls Tryz.prog 47 #[.agg #[.int .i64 g, .slice a n c, .int .i64 k, .int .i64 q], .int .i64 x] w' fun e w'' => e = .returned (.int .i64 (idx (Qu.tg x) ts)) ∧ Below w'.heap.size w' w'') := Lib.hid fun w' hb => find_R g k q x a n c ts w' (hT.keep hb) (by omega)
  have HH : Hid (∀ w', Below w.heap.size w w' → Calls Tryz.prog 46 #[.agg #[.int .i64 g, .slice a n c, .int .i64 k, .int .i64 q], .int .i64 x] w' fun e w'' => e = .returned (.bool (Rg.hasR ts k q x)) ∧ Below w'.heap.size w' w'') := Lib.hid fun w' hb => Has_R g k q x a n c ts _ rfl w' (hT.keep hb) (by omega)
  have hkind : Rg.kindB k = true ∨ k = 0 := hG.kind
  have HI : Hid (decide (0 ≤ idx (Qu.tg x) ts) = Qu.has ts x) := Lib.hid idx_has
  have HV : Hid (v = if k = 0 then true else if k = 1 then !wr || Rg.hasR ts k q x else if k = 3 then Rg.hasR ts k q x else if k = 5 ∨ k = 7 then !wr || Qu.has ts x else Qu.has ts x) := Lib.hid (by rw [← hv]; rfl)
  clear hT hG hv
  generalize Rg.hasR ts k q x = bh at *
  generalize idx (Qu.tg x) ts = ii at *
  generalize Qu.has ts x = bt at *
  go_enter Tryz.func21, Tryz.ntmps21
  go_wp2_with fail
  with_reducible refine (C1 _).mono ?_
  rintro e w1 ⟨rfl, hb1⟩
  have HB1 := Lib.hid ((HB.out _).trans (hb1.mono (HB.out _).size))
  have HX1 := Lib.hid ((HX.out 42).on hb1)
  obtain ⟨hl, c0, c1, c2, c3, z0, z1, z2, z3⟩ := HX1.out
  have F1 := HF.out w1 HB1.out
  have H1 := HH.out w1 HB1.out
  clear hb1 C1
  go_wp2_with fail
  with_reducible refine (W1 _).mono ?_
  rintro e w2 ⟨rfl, rfl⟩
  by_cases h0 : k = 0
  · subst h0
    obtain rfl : v = true := by rw [HV.out, if_pos rfl]
    clear HV F1 H1 hkind
    go_wp2_with fail
    go_ret2
    exact ⟨rfl, HB1.out⟩
  · rw [if_neg h0] at HV
    have e0 : (k == 0) = false := beq_eq_false_iff_ne.2 h0
    by_cases h1 : k = 1
    · subst h1
      rw [if_pos rfl] at HV
      obtain rfl := HV.out
      clear HV F1 hkind h0
      cases wr with
      | true =>
        go_wp2_with fail
        with_reducible refine H1.mono ?_
        rintro e w3 ⟨rfl, hb3⟩
        have HB3 := Lib.hid (HB1.out.trans (hb3.mono HB1.out.size))
        clear hb3 H1
        go_wp2_with fail
        go_ret2
        exact ⟨by first | rfl | simp, HB3.out⟩
      | false =>
        go_wp2_with fail
        go_ret2
        exact ⟨by first | rfl | simp, HB1.out⟩
    · rw [if_neg h1] at HV
      have e1 : (k == 1) = false := beq_eq_false_iff_ne.2 h1
      by_cases h3 : k = 3
      · subst h3
        rw [if_pos rfl] at HV
        obtain rfl := HV.out
        clear HV F1 hkind h0 h1
        go_wp2_with fail
        with_reducible refine H1.mono ?_
        rintro e w3 ⟨rfl, hb3⟩
        have HB3 := Lib.hid (HB1.out.trans (hb3.mono HB1.out.size))
        clear hb3 H1
        go_wp2_with fail
        go_ret2
        exact ⟨rfl, HB3.out⟩
      · rw [if_neg h3] at HV
        have e3 : (k == 3) = false := beq_eq_false_iff_ne.2 h3
        rcases hi : decide (0 ≤ ii) with _ | _
        all_goals
          have hbt : Hid (bt = decide (0 ≤ ii)) := Lib.hid HI.out.symm
          rw [hi] at hbt
          by_cases h57 : k = 5 ∨ k = 7
          · rw [if_pos h57] at HV
            rcases h57 with rfl | rfl
            all_goals
              cases wr with
              | true =>
                obtain rfl : v = bt := by rw [HV.out]; rfl
                obtain rfl := hbt.out
                clear HV H1 hkind h0 h1 h3 HI hbt HF HH HX HB HX1
                go_wp2_with fail
                with_reducible refine F1.mono ?_
                rintro e w3 ⟨rfl, hb3⟩
                have HB3 := Lib.hid (HB1.out.trans (hb3.mono HB1.out.size))
                clear hb3 F1
                go_wp2_with fail
                go_ret2
                exact ⟨by first | rfl | simp, HB3.out⟩
              | false =>
                obtain rfl : v = true := by rw [HV.out]; rfl
                clear HV H1 F1 hkind h0 h1 h3 HI hbt
                go_wp2_with fail
                go_ret2
                exact ⟨by first | rfl | simp, HB1.out⟩
          · rw [if_neg h57] at HV
            have e5 : (k == 5) = false := beq_eq_false_iff_ne.2 fun h => h57 (Or.inl h)
            have e7 : (k == 7) = false := beq_eq_false_iff_ne.2 fun h => h57 (Or.inr h)
            obtain rfl := HV.out
            obtain rfl := hbt.out
            clear HV H1 hkind h0 h1 h3 HI hbt h57 HF HH HX HB HX1
            go_wp2_with fail
            with_reducible refine F1.mono ?_
            rintro e w3 ⟨rfl, hb3⟩
            have HB3 := Lib.hid (HB1.out.trans (hb3.mono HB1.out.size))
            clear hb3 F1
            go_wp2_with fail
            go_ret2
            exact ⟨by first | rfl | simp, HB3.out⟩

/-- A value of a row of the call's own can be read wherever it stands. -/
theorem own_tsl {w w' : World} {base n c : Nat} {a : Option Addr} {e : TypeId} {ts : List Qu.T} (h : w.ownsRow base e 2 (.slice a n c) n (tv ts)) (hb : Below w.heap.size w w') : TSl w' a n c ts := by
  obtain ⟨a', c', he, hT⟩ := own_slice h
  cases he
  exact hT.keep hb

theorem own_len {w : World} {base n c : Nat} {a : Option Addr} {e : TypeId} {ts : List Qu.T} (h : w.ownsRow base e 2 (.slice a n c) n (tv ts)) : ts.length = n := by
  have := h.1
  rw [tv_length] at this
  omega

theorem lit6 (w : World) (T : TypeId) {j : Nat} (hj : j < 6) : (w.alloc (.cells #[.int .i64 1, .int .i64 3, .int .i64 5, .int .i64 6, .int .i64 7, .int .i64 8] T)).cell? ⟨w.heap.size, j, none⟩ = some (.int .i64 ([1, 3, 5, 6, 7, 8].getD j 1)) := by
  match j, hj with
  | 0, _ => exact cell_new w (k := 0) rfl
  | 1, _ => exact cell_new w (k := 1) rfl
  | 2, _ => exact cell_new w (k := 2) rfl
  | 3, _ => exact cell_new w (k := 3) rfl
  | 4, _ => exact cell_new w (k := 4) rfl
  | 5, _ => exact cell_new w (k := 5) rfl

set_option maxRecDepth 100000 in
set_option maxHeartbeats 4000000 in
theorem kinds_R (k : Int) (w : World) : Calls Tryz.prog 31 #[.int .i64 k] w fun e w' => e = .returned (.int .i64 (Rg.kinds k)) ∧ Below w.heap.size w w' := by
  have hw := within_is (k := k) (n := 6) (N := 6) rfl (by omega) (by omega) rfl
  have hq := wi_lt k 6 (by omega)
  have HL := fun T => lit6 w T hq
  unfold Rg.kinds
  generalize wi k 6 = x at *
  generalize [1, 3, 5, 6, 7, 8].getD x (1 : Int) = y at *
  have HB : Hid (∀ o, Below w.heap.size w (w.alloc o)) := Lib.hid fun o => (Below.refl _ w).alloc (Nat.le_refl _) _
  go_enter Tryz.func31, Tryz.ntmps31
  go_wp2_with fail
  with_reducible refine hw.use ?_
  rintro e w' ⟨rfl, rfl⟩
  go_wp2_with fail
  go_ret
  exact ⟨rfl, HB.out _⟩

end Go.Proofs.YtenkdpogdfcbgaaGreat.Rs
