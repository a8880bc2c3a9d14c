/- ResvFirst: the first reservation excludes others from reserving, releasing and writing; for every input; what was there stands below. -/
import Derived.Test.YtoglkellaliegaaRgX
import Derived.Test.YtoglkellaliegaaArgsL
import Derived.Deep.CutRange
namespace Go.Proofs.Ytoglkellaliegaa
open Go.RowKit

theorem b1_alloc {w V : World} {B1 : Nat} {v0 v1 v2 v3 : Value} {o : Obj} (h : V.cell? ⟨B1, 0, none⟩ = some v0 ∧ V.cell? ⟨B1, 1, none⟩ = some v1 ∧ V.cell? ⟨B1, 2, none⟩ = some v2 ∧ V.cell? ⟨B1, 3, none⟩ = some v3 ∧ Below w.heap.size w V ∧ B1 < V.heap.size) :
    (V.alloc o).cell? ⟨B1, 0, none⟩ = some v0 ∧ (V.alloc o).cell? ⟨B1, 1, none⟩ = some v1 ∧ (V.alloc o).cell? ⟨B1, 2, none⟩ = some v2 ∧ (V.alloc o).cell? ⟨B1, 3, none⟩ = some v3 ∧ Below w.heap.size w (V.alloc o) ∧ B1 < (V.alloc o).heap.size :=
  b1_on ((Below.refl _ V).alloc (Nat.le_refl _) o) h

theorem b1_drew {w V : World} {B1 : Nat} {v0 v1 v2 v3 : Value} (h : V.cell? ⟨B1, 0, none⟩ = some v0 ∧ V.cell? ⟨B1, 1, none⟩ = some v1 ∧ V.cell? ⟨B1, 2, none⟩ = some v2 ∧ V.cell? ⟨B1, 3, none⟩ = some v3 ∧ Below w.heap.size w V ∧ B1 < V.heap.size) :
    V.drew.cell? ⟨B1, 0, none⟩ = some v0 ∧ V.drew.cell? ⟨B1, 1, none⟩ = some v1 ∧ V.drew.cell? ⟨B1, 2, none⟩ = some v2 ∧ V.drew.cell? ⟨B1, 3, none⟩ = some v3 ∧ Below w.heap.size w V.drew ∧ B1 < V.drew.heap.size :=
  ⟨h.1, h.2.1, h.2.2.1, h.2.2.2.1, h.2.2.2.2.1.drew, h.2.2.2.2.2⟩

theorem tsl_set4 {U ws : World} {e : TypeId} {a : Option Addr} {n c : Nat} {ts : List Qu.T} (ho : ws.ownsRow U.heap.size e 2 (.slice a n c) n (tv ts)) {B : Nat} (hB : B < U.heap.size) (u0 u1 u2 u3 : Value) :
    TSl ((((ws.setCell ⟨B, 0, none⟩ u0).setCell ⟨B, 1, none⟩ u1).setCell ⟨B, 2, none⟩ u2).setCell ⟨B, 3, none⟩ u3) a n c ts := own_tsl (own_set4 ho (fun j hj => by have := row_base ho j hj; omega) _ _ _ _) (Below.refl _ _)

theorem tsl_drew {w : World} {a : Option Addr} {n c : Nat} {ts : List Qu.T} (h : TSl w a n c ts) : TSl w.drew a n c ts := h.keep (Below.refl _ _).drew

theorem r4_new_drew (w : World) (T : TypeId) (v0 v1 v2 v3 : Value) : R4 (w.drew.alloc (.cells #[v0, v1, v2, v3] T)) w.heap.size v0 v1 v2 v3 := r4_new w.drew T v0 v1 v2 v3

theorem b1_set4 {w V : World} {B1 B2 : Nat} {v0 v1 v2 v3 u0 u1 u2 u3 : Value} (hne : B1 < B2) (hw : w.heap.size ≤ B2) (h : V.cell? ⟨B1, 0, none⟩ = some v0 ∧ V.cell? ⟨B1, 1, none⟩ = some v1 ∧ V.cell? ⟨B1, 2, none⟩ = some v2 ∧ V.cell? ⟨B1, 3, none⟩ = some v3 ∧ Below w.heap.size w V ∧ B1 < V.heap.size) :
    let V' := ((((V.setCell ⟨B2, 0, none⟩ u0).setCell ⟨B2, 1, none⟩ u1).setCell ⟨B2, 2, none⟩ u2).setCell ⟨B2, 3, none⟩ u3)
    V'.cell? ⟨B1, 0, none⟩ = some v0 ∧ V'.cell? ⟨B1, 1, none⟩ = some v1 ∧ V'.cell? ⟨B1, 2, none⟩ = some v2 ∧ V'.cell? ⟨B1, 3, none⟩ = some v3 ∧ Below w.heap.size w V' ∧ B1 < V'.heap.size := by
  obtain ⟨h0, h1, h2, h3, h5, h6⟩ := h
  have o : ∀ (W : World) (i j : Nat) (v : Value), (W.setCell ⟨B2, i, none⟩ v).cell? ⟨B1, j, none⟩ = W.cell? ⟨B1, j, none⟩ := fun W i j v => World.cell?_setCell_other _ _ _ _ (by simp only [ne_eq, Addr.mk.injEq, not_and]; omega)
  have e : ∀ j, ((((V.setCell ⟨B2, 0, none⟩ u0).setCell ⟨B2, 1, none⟩ u1).setCell ⟨B2, 2, none⟩ u2).setCell ⟨B2, 3, none⟩ u3).cell? ⟨B1, j, none⟩ = V.cell? ⟨B1, j, none⟩ := fun j => by rw [o, o, o, o]
  exact ⟨by rw [e]; exact h0, by rw [e]; exact h1, by rw [e]; exact h2, by rw [e]; exact h3, below_set4 h5 hw _ _ _ _, by simp only [World.size_setCell]; exact h6⟩

theorem reserve_other (a : Option Addr) (c : Nat) (w : World) (hT : TSl w a 2 c [(1, 5), (2, 6)]) : Calls Try.prog 32 #[.agg #[.int .i64 2, .slice a 2 c, .int .i64 3, .int .i64 1], .int .i64 2, .int .i64 6, .int .i64 3] w fun e w' =>
    ∃ a c, e = .returned (.tuple #[.agg #[.int .i64 0, .slice a 0 c, .int .i64 0, .int .i64 0], .int .i64 9]) ∧ Below w.heap.size w w' := by
  refine (Reserve_R 2 3 1 2 6 3 a 2 c [(1, 5), (2, 6)] w (good_reserved 3 1 (by decide) (by decide)) hT (by omega) (by omega) (by decide)).mono ?_
  have e1 : rz (Rg.resR ⟨2, [(1, 5), (2, 6)], 3, 1⟩ 2 3) (Rg.resE ⟨2, [(1, 5), (2, 6)], 3, 1⟩ 2 6 3) = ⟨0, [], 0, 0⟩ := by kernel_rfl
  have e2 : Rg.resE ⟨2, [(1, 5), (2, 6)], 3, 1⟩ 2 6 3 = 9 := by kernel_rfl
  rw [e1, e2]
  rintro e w' ⟨a, n, c, rfl, ho, hb⟩
  obtain rfl : n = 0 := (own_len ho).symm
  exact ⟨a, c, rfl, hb⟩

/-- Another one has not what one alone has. -/
theorem other_has {ts : List Qu.T} {k x y : Int} (hk : Rg.all k = false) (hxy : y ≠ x) : Rg.hasR ts k x y = false := by
  unfold Rg.hasR
  by_cases h0 : k = 0
  · rw [if_pos h0]
  · rw [if_neg h0, if_neg (by rw [hk]; decide), beq_eq_false_iff_ne]
    exact fun e => hxy e.symm

theorem other_res {g k x y z kk : Int} {ts : List Qu.T} (hk : Rg.all k = false) (h0 : k ≠ 0) (hxy : y ≠ x) : Rg.resE ⟨g, ts, k, x⟩ y z kk = 9 := by
  show (if Rg.kd ts y z = false then 9 else if k = 0 then 0 else if Rg.hasR ts k x y = true ∧ k = kk then 0 else 9) = 9
  rw [if_neg h0, other_has hk hxy]
  simp

theorem other_rel {g k x y z kk : Int} {ts : List Qu.T} (hk : Rg.all k = false) (hxy : y ≠ x) : (Rg.relE ⟨g, ts, k, x⟩ y z kk = 9 ∨ Rg.relE ⟨g, ts, k, x⟩ y z kk = 0) ∧ Rg.relR ⟨g, ts, k, x⟩ y = ⟨g, ts, k, x⟩ := by
  constructor
  · show (if Rg.kd ts y z = false then 9 else if Rg.hasR ts k x y = false then 0 else if k = kk then 0 else 3) = 9 ∨ (if Rg.kd ts y z = false then 9 else if Rg.hasR ts k x y = false then 0 else if k = kk then 0 else 3) = 0
    rw [other_has hk hxy]
    cases Rg.kd ts y z <;> simp
  · show (if Rg.hasR ts k x y = false then _ else _) = _
    rw [other_has hk hxy, if_pos rfl]

set_option maxRecDepth 100000 in
set_option maxHeartbeats 32000000 in
theorem first_core (L : Option Addr) (nl cl : Nat) (F : Nat → Nat → Int) (p1 p2 p3 p4 p5 p6 : Int) (w : World) (hL : LArg w L nl cl F) :
    Calls Try.prog 14 #[.slice L nl cl, .int .i64 p1, .int .i64 p2, .int .i64 p3, .int .i64 p4, .int .i64 p5, .int .i64 p6] w fun e w' => e = .returned (.bool true) ∧ Below w.heap.size w w' := by
  obtain ⟨N, hN⟩ : ∃ N, min nl 60 = N := ⟨_, rfl⟩
  have HT4 : Hid (∀ w', Below w.heap.size w w' → Calls Try.prog 35 #[.slice L nl cl] w' fun e w'' => ∃ a n c, e = .returned (.agg #[.int .i64 (tS F N).gen, .slice a n c, .int .i64 (tS F N).kind, .int .i64 (tS F N).holder]) ∧
      w''.ownsRow w'.heap.size 56 2 (.slice a n c) n (tv (tS F N).regs) ∧ Below w'.heap.size w' w'') := Lib.hid fun w' hb => turned_R L nl cl N F w' (hL.keep hb) hN
  have HG := tS_good F N (by omega)
  have hN60 : N ≤ 60 := by omega
  have K1 := registered_R w
  have w1' := within_is (k := p1) (n := 8) (N := 8) rfl (by omega) (by omega) rfl
  have w2' := within_is (k := p2) (n := 8) (N := 8) rfl (by omega) (by omega) rfl
  have w3' := within_is (k := p3) (n := 4) (N := 4) rfl (by omega) (by omega) rfl
  have w4' := within_is (k := p4) (n := 4) (N := 4) rfl (by omega) (by omega) rfl
  have w5' := within_is (k := p5) (n := 2) (N := 2) rfl (by omega) (by omega) rfl
  have KK := Lib.hid fun w => kinds_R p6 w
  have hkk := Rg.kinds_ok p6
  have hq1 := wi_lt p1 8 (by omega)
  have hq2 := wi_lt p2 8 (by omega)
  have hq5 := wi_lt p5 2 (by omega)
  clear hL hN
  generalize wi p1 8 = m1 at *
  generalize wi p2 8 = m2 at *
  generalize wi p3 4 = m3 at *
  generalize wi p4 4 = m4 at *
  generalize wi p5 2 = m5 at *
  generalize Rg.kinds p6 = kk at *
  generalize tS F N = Z at *
  obtain ⟨gg, rg, kx, hh⟩ := Z
  obtain ⟨HG, hgg⟩ := HG
  have hgg' : gg ≤ (N : Int) := hgg
  have hg0 : 0 ≤ gg := HG.gen0
  have HG := Lib.hid HG
  have hg8 : rg.length ≤ 8 := HG.out.len
  have HKK := Lib.hid hkk
  clear hkk
  go_enter Try.func14, Try.ntmps14
  go_wp2_with fail
  with_reducible refine K1.mono ?_
  rintro e w1 ⟨a1, q1, rfl, ho1, hb1⟩
  have HB1 := Lib.hid hb1
  have K2 := reserve_first 3 1 (by decide) (by decide) a1 q1 w1 (own_tsl ho1 (Below.refl _ _))
  clear ho1 hb1 K1
  go_wp2_with fail
  with_reducible refine K2.mono ?_
  rintro e w2 ⟨a2, q2, rfl, ho2, hb2⟩
  have HB2 := Lib.hid (HB1.out.trans (hb2.mono HB1.out.size))
  have hs2 := HB2.out.size
  have HBA : Hid (∀ o, Below w.heap.size w (w2.alloc o)) := Lib.hid fun o => HB2.out.alloc hs2 o
  have HX2 : Hid (∀ T, R4 (w2.alloc (.cells #[.int .i64 2, .slice a2 2 q2, .int .i64 3, .int .i64 1] T)) w2.heap.size (.int .i64 2) (.slice a2 2 q2) (.int .i64 3) (.int .i64 1)) := Lib.hid fun T => r4_new w2 T _ _ _ _
  have K3 := fun o => reserve_other a2 q2 (w2.alloc o) (own_tsl ho2 ((Below.refl _ _).alloc (Nat.le_refl _) o))
  clear ho2 hb2 K2
  go_wp2_with fail
  with_reducible refine (K3 _).mono ?_
  rintro e w3 ⟨a3, q3, rfl, hb3⟩
  have HX3 := Lib.hid ((HX2.out 49).on hb3)
  have HB3 := Lib.hid ((HBA.out _).trans (hb3.mono (HBA.out _).size))
  have hs3 := HB3.out.size
  have hl23 : w2.heap.size < w3.heap.size := HX3.out.lt
  have HX4 := fun T => Lib.hid (HX3.out.alloc (.cells #[.int .i64 0, .slice a3 0 q3, .int .i64 0, .int .i64 0] T))
  have HB4 : Hid (∀ o, Below w.heap.size w (w3.alloc o)) := Lib.hid fun o => HB3.out.alloc hs3 o
  have K4 := fun o => HT4.out (w3.alloc o) (HB4.out o)
  clear hb3 K3 HT4
  go_wp2_with fail
  with_reducible refine (K4 _).mono ?_
  rintro e w4 ⟨a4, n4, q4, rfl, ho4, hb4⟩
  have HX5 := Lib.hid ((HX4 49).out.on hb4)
  have HB5 := Lib.hid ((HB4.out _).trans (hb4.mono (HB4.out _).size))
  have HNE : Hid (∀ k, (Value.slice a4 n4 q4).ownBlock = some k → w2.heap.size ≠ k) := Lib.hid fun j hj => by have := row_base ho4 j hj; rw [World.size_alloc] at this; omega
  obtain ⟨W, hW⟩ : ∃ W, ((((w4.setCell ⟨w2.heap.size, 0, none⟩ (.int .i64 gg)).setCell ⟨w2.heap.size, 1, none⟩ (.slice a4 n4 q4)).setCell ⟨w2.heap.size, 2, none⟩ (.int .i64 kx)).setCell ⟨w2.heap.size, 3, none⟩ (.int .i64 hh)) = W := ⟨_, rfl⟩
  have HXW : Hid (R4 W w2.heap.size (.int .i64 gg) (.slice a4 n4 q4) (.int .i64 kx) (.int .i64 hh)) := Lib.hid (by rw [← hW]; exact HX5.out.set _ _ _ _)
  have HBW : Hid (Below w.heap.size w W) := Lib.hid (by rw [← hW]; exact below_set4 HB5.out hs2 _ _ _ _)
  have HOW : Hid (W.ownsRow (w3.heap.size + 1) 56 2 (.slice a4 n4 q4) n4 (tv rg)) := Lib.hid (by rw [← hW]; rw [World.size_alloc] at ho4; exact own_set4 ho4 HNE.out _ _ _ _)
  have hsW := HBW.out.size
  obtain ⟨k, hk⟩ : ∃ k : Int, (if m5 = 0 then (1 : Int) else 3) = k := ⟨_, rfl⟩
  have hk13 : k = 1 ∨ k = 3 := by rw [← hk]; split; exact Or.inl rfl; exact Or.inr rfl
  have hk0 : k ≠ 0 := by omega
  have hkB : Rg.kindB k = true := by rcases hk13 with rfl | rfl <;> decide
  have hkA : Rg.all k = false := by rcases hk13 with rfl | rfl <;> decide
  have HC5 : ∀ T, (W.alloc (.cells #[.int .i64 1, .int .i64 3] T)).cell? ⟨W.heap.size, m5, none⟩ = some (.int .i64 k) := fun T => by
    rcases (show m5 = 0 ∨ m5 = 1 by omega) with rfl | rfl
    · rw [← hk]; exact cell_new W (k := 0) rfl
    · rw [← hk]; exact cell_new W (k := 1) rfl
  have HKB := Lib.hid hkB
  have HKA := Lib.hid hkA
  have HK0 := Lib.hid hk0
  have HK13 := Lib.hid hk13
  obtain ⟨E, hE⟩ : ∃ E, Rg.resE ⟨gg, rg, kx, hh⟩ m1 m3 k = E := ⟨_, rfl⟩
  have HE := Lib.hid hE
  have K6 := fun o => Reserve_R gg kx hh m1 m3 k a4 n4 q4 rg (W.alloc o) HG.out (own_tsl HOW.out ((Below.refl _ _).alloc (Nat.le_refl _) o)) (by omega) (by omega) HKB.out
  rw [hE] at K6
  have HB6 : Hid (∀ o, Below w.heap.size w (W.alloc o)) := Lib.hid fun o => HBW.out.alloc hsW o
  clear hk hk13 hkB hkA hk0 hE hb4 K4 ho4
  obtain ⟨lx, cx0, cx1, cx2, cx3, zx0, zx1, zx2, zx3⟩ := HX5.out
  obtain ⟨lX, cX0, cX1, cX2, cX3, zX0, zX1, zX2, zX3⟩ := HXW.out
  go_wp2_with fail
  with_reducible refine w1'.use ?_
  rintro e w' ⟨rfl, rfl⟩
  go_wp2_with fail
  with_reducible refine w2'.use ?_
  rintro e w' ⟨rfl, rfl⟩
  go_wp2_with fail
  with_reducible refine w3'.use ?_
  rintro e w' ⟨rfl, rfl⟩
  go_wp2_with fail
  with_reducible refine w4'.use ?_
  rintro e w' ⟨rfl, rfl⟩
  go_wp2_with fail
  with_reducible refine w5'.use ?_
  rintro e w' ⟨rfl, rfl⟩
  go_wp2_with fail
  by_cases h0 : E = 0
  · subst h0
    have HGR := Lib.hid (HG.out.res HKB.out HE.out)
    have eZ : Rg.resR ⟨gg, rg, kx, hh⟩ m1 k = ⟨gg, rg, k, m1⟩ := by unfold Rg.resR; rw [if_neg (by rw [HKA.out]; decide)]
    have eR : rz (Rg.resR ⟨gg, rg, kx, hh⟩ m1 k) 0 = ⟨gg, rg, k, m1⟩ := by unfold rz; rw [if_pos rfl, eZ]
    rw [eZ] at HGR
    rw [eR] at K6
    clear eZ eR
    with_reducible refine (K6 _).mono ?_
    rintro e w7 ⟨a5, n5, q5, rfl, ho5, hb7⟩
    have HB7 := Lib.hid ((HB6.out _).trans (hb7.mono (HB6.out _).size))
    have hs7 := HB7.out.size
    by_cases hm : m2 = m1
    · subst hm
      clear hb7 ho5 K6 lx cx0 cx1 cx2 cx3 zx0 zx1 zx2 zx3 lX cX0 cX1 cX2 cX3 zX0 zX1 zX2 zX3 hW
      go_wp2_with fail
      go_ret
      exact ⟨rfl, HB7.out.alloc hs7 _⟩
    · have hxy : (m2 : Int) ≠ (m1 : Int) := by omega
      have em : ((m2 : Int) == (m1 : Int)) = false := beq_eq_false_iff_ne.2 hxy
      obtain ⟨V, hV⟩ : ∃ V, w7.alloc (.cells #[.int .i64 gg, .slice a5 n5 q5, .int .i64 k, .int .i64 m1] 49) = V := ⟨_, rfl⟩
      have HXV : Hid (R4 V w7.heap.size (.int .i64 gg) (.slice a5 n5 q5) (.int .i64 k) (.int .i64 m1)) := Lib.hid (by rw [← hV]; exact r4_new w7 _ _ _ _ _)
      have HBV : Hid (Below w.heap.size w V) := Lib.hid (by rw [← hV]; exact HB7.out.alloc hs7 _)
      have HTV : Hid (∀ U, Below V.heap.size V U → TSl U a5 n5 q5 rg) := Lib.hid fun U hb => own_tsl (by rw [← hV] at hb ⊢; exact ho5.alloc _) hb
      have HR1 : Hid (∀ U, Below V.heap.size V U → Calls Try.prog 32 #[.agg #[.int .i64 gg, .slice a5 n5 q5, .int .i64 k, .int .i64 m1], .int .i64 m2, .int .i64 m4, .int .i64 kk] U fun e w' => ∃ a n c, e = .returned (.tuple #[.agg #[.int .i64 0, .slice a n c, .int .i64 0, .int .i64 0], .int .i64 9]) ∧ w'.ownsRow U.heap.size 56 2 (.slice a n c) n (tv []) ∧ Below U.heap.size U w') := Lib.hid fun U hb => by
        have h := Reserve_R gg k m1 m2 m4 kk a5 n5 q5 rg U HGR.out (HTV.out U hb) (by omega) (by omega) HKK.out
        rw [other_res HKA.out HK0.out hxy] at h
        exact h
      have HM1 : Hid (∀ U, Below V.heap.size V U → Calls Try.prog 45 #[.agg #[.int .i64 gg, .slice a5 n5 q5, .int .i64 k, .int .i64 m1], .int .i64 m2, .bool true] U fun e w' => e = .returned (.tuple #[.bool false, .int .i64 0]) ∧ Below U.heap.size U w') := Lib.hid fun U hb => by
        refine May_R gg k m1 m2 true false a5 n5 q5 rg U HGR.out (HTV.out U hb) (by omega) (by omega) ?_
        unfold Rg.mayB
        rw [if_neg HK0.out]
        show (if k = 1 then !true || Rg.hasR rg k m1 m2 else if k = 3 then Rg.hasR rg k m1 m2 else _) = false
        rw [other_has HKA.out hxy]
        rcases HK13.out with h | h
        · rw [if_pos h]; rfl
        · rw [if_neg (by omega), if_pos h]
      have hrel := other_rel (g := gg) (ts := rg) (z := m4) (kk := kk) HKA.out hxy
      obtain ⟨hE3, hR3⟩ := hrel
      have HLr := Lib.hid (fun U hb => Release_R gg k m1 m2 m4 kk a5 n5 q5 rg U HGR.out (HTV.out U hb) (by omega) (by omega) HKK.out)
      obtain ⟨E3, hE3'⟩ : ∃ E3, Rg.relE ⟨gg, rg, k, m1⟩ m2 m4 kk = E3 := ⟨_, rfl⟩
      rw [hR3, hE3'] at HLr
      rw [hE3'] at hE3
      have HLEN := Lib.hid (own_len ho5)
      clear hE3' hR3 hb7 ho5 K6 lx cx0 cx1 cx2 cx3 zx0 zx1 zx2 zx3 lX cX0 cX1 cX2 cX3 zX0 zX1 zX2 zX3 hW hm
      obtain ⟨lu, cu0, cu1, cu2, cu3, zu0, zu1, zu2, zu3⟩ := HXV.out
      have T2 : Below V.heap.size V V := Below.refl _ _
      have hVs : V.heap.size = w7.heap.size + 1 := by rw [← hV, World.size_alloc]
      have hBlt : w7.heap.size < V.heap.size := by omega
      clear hVs
      have HSV : Hid (V.cell? ⟨w7.heap.size, 0, none⟩ = some (.int .i64 gg) ∧ V.cell? ⟨w7.heap.size, 1, none⟩ = some (.slice a5 n5 q5) ∧ V.cell? ⟨w7.heap.size, 2, none⟩ = some (.int .i64 k) ∧ V.cell? ⟨w7.heap.size, 3, none⟩ = some (.int .i64 m1) ∧ Below V.heap.size V V ∧ w7.heap.size < V.heap.size) := Lib.hid ⟨HXV.out.c0, HXV.out.c1, HXV.out.c2, HXV.out.c3, Below.refl _ _, hBlt⟩
      go_upto_region 11 with (fail)
      go_cut [20, 21] from 79 to 87 (fun _ s21 wx => s21 = .int .i64 9 ∧ Hid (wx.cell? ⟨w7.heap.size, 0, none⟩ = some (.int .i64 gg) ∧ wx.cell? ⟨w7.heap.size, 1, none⟩ = some (.slice a5 n5 q5) ∧ wx.cell? ⟨w7.heap.size, 2, none⟩ = some (.int .i64 k) ∧ wx.cell? ⟨w7.heap.size, 3, none⟩ = some (.int .i64 m1) ∧ Below V.heap.size V wx ∧ w7.heap.size < wx.heap.size))
      case first =>
        go_region_held3 (fun U => U.cell? ⟨w7.heap.size, 0, none⟩ = some (.int .i64 gg) ∧ U.cell? ⟨w7.heap.size, 1, none⟩ = some (.slice a5 n5 q5) ∧ U.cell? ⟨w7.heap.size, 2, none⟩ = some (.int .i64 k) ∧ U.cell? ⟨w7.heap.size, 3, none⟩ = some (.int .i64 m1) ∧ Below V.heap.size V U ∧ w7.heap.size < U.heap.size)
          (first
            | with_reducible exact ⟨by with_reducible assumption, by with_reducible assumption, by with_reducible assumption, by with_reducible assumption, by with_reducible assumption, by with_reducible assumption⟩
            | (go_split_ands; with_reducible exact b1_on hbs ⟨by with_reducible assumption, by with_reducible assumption, by with_reducible assumption, by with_reducible assumption, by with_reducible assumption, by with_reducible assumption⟩)
            | with_reducible exact b1_drew HSV.out
            | with_reducible exact b1_alloc HSW.out
            | with_reducible exact b1_alloc HSK.out
            | with_reducible exact b1_alloc HSV.out
            | with_reducible exact b1_alloc (b1_drew HSV.out)
            | with_reducible exact b1_alloc (b1_drew HSK.out)
            | with_reducible exact b1_drew (b1_alloc HSV.out)
            | with_reducible exact b1_drew (b1_alloc HSK.out)
            | with_reducible exact b1_set4 HSK.out.2.2.2.2.2 HSK.out.2.2.2.2.1.size HSW.out
            | with_reducible exact b1_set4 HSV.out.2.2.2.2.2 HSV.out.2.2.2.2.1.size HSW.out
            | with_reducible exact ⟨by with_reducible assumption, by with_reducible assumption, by with_reducible assumption, by with_reducible assumption, Below.drew (by with_reducible assumption), by with_reducible assumption⟩
            | (go_split_ands; with_reducible exact b1_on hbs ⟨by with_reducible assumption, by with_reducible assumption, by with_reducible assumption, by with_reducible assumption, Below.drew (by with_reducible assumption), by with_reducible assumption⟩)
            | go_keep)
          (first
            | (go_at_call 38; refine (KK.out _).mono ?_; rintro e ws ⟨rfl, hbs⟩; have HSK := Lib.hid (b1_on (w := V) (B1 := w7.heap.size) (v0 := .int .i64 gg) (v1 := .slice a5 n5 q5) (v2 := .int .i64 k) (v3 := .int .i64 m1) hbs ⟨(by first | (with_reducible assumption) | (go_split_ands; with_reducible assumption)), (by first | (with_reducible assumption) | (go_split_ands; with_reducible assumption)), (by first | (with_reducible assumption) | (go_split_ands; with_reducible assumption)), (by first | (with_reducible assumption) | (go_split_ands; with_reducible assumption)), (by first | (with_reducible assumption) | (go_split_ands; with_reducible assumption)), (by first | (with_reducible assumption) | (go_split_ands; with_reducible assumption))⟩); (first | (with_reducible have HN1 := Lib.hid ((r4_new V 49 (.int .i64 0) (.slice none 0 0) (.int .i64 0) (.int .i64 0)).on hbs)) | (with_reducible have HN1 := Lib.hid ((r4_new V 49 (.int .i64 0) (.slice none 0 0) (.int .i64 0) (.int .i64 0)).drew.on hbs)) | (with_reducible have HN1 := Lib.hid ((r4_new_drew V 49 (.int .i64 0) (.slice none 0 0) (.int .i64 0) (.int .i64 0)).on hbs)) | skip))
            | (go_at_call 32; refine (HR1.out _ (by first | (with_reducible assumption) | (go_split_ands; with_reducible assumption))).mono ?_; rintro e ws ⟨a6, n6, q6, rfl, ho6, hbs⟩; have HSW := Lib.hid (b1_on (w := V) (B1 := w7.heap.size) (v0 := .int .i64 gg) (v1 := .slice a5 n5 q5) (v2 := .int .i64 k) (v3 := .int .i64 m1) hbs ⟨(by first | (with_reducible assumption) | (go_split_ands; with_reducible assumption)), (by first | (with_reducible assumption) | (go_split_ands; with_reducible assumption)), (by first | (with_reducible assumption) | (go_split_ands; with_reducible assumption)), (by first | (with_reducible assumption) | (go_split_ands; with_reducible assumption)), (by first | (with_reducible assumption) | (go_split_ands; with_reducible assumption)), (by first | (with_reducible assumption) | (go_split_ands; with_reducible assumption))⟩); (first | (with_reducible have HQ := Lib.hid (HN1.out.on hbs); have hQ := HQ.out; obtain ⟨lQ, cQ0, cQ1, cQ2, cQ3, zQ0, zQ1, zQ2, zQ3⟩ := hQ) | (with_reducible have HQ := Lib.hid ((r4_new _ 49 (.int .i64 0) (.slice none 0 0) (.int .i64 0) (.int .i64 0)).on hbs); have hQ := HQ.out; obtain ⟨lQ, cQ0, cQ1, cQ2, cQ3, zQ0, zQ1, zQ2, zQ3⟩ := hQ) | (with_reducible have HQ := Lib.hid ((r4_new _ 49 (.int .i64 0) (.slice none 0 0) (.int .i64 0) (.int .i64 0)).drew.on hbs); have hQ := HQ.out; obtain ⟨lQ, cQ0, cQ1, cQ2, cQ3, zQ0, zQ1, zQ2, zQ3⟩ := hQ) | skip)))
        all_goals
          go_wp2_with fail
          go_meet
          exact ⟨rfl, Lib.hid (by first | (with_reducible assumption) | (go_split_ands; with_reducible exact ⟨by with_reducible assumption, by with_reducible assumption, by with_reducible assumption, by with_reducible assumption, by with_reducible assumption, by with_reducible assumption⟩))⟩
      case rest =>
        obtain ⟨rfl, HS1⟩ := hcut
        obtain ⟨c0, c1, c2, c3, hbV, hlt⟩ := HS1.out
        have HSB := HS1
        rcases hE3 with rfl | rfl
        · have HR2 : Hid (∀ U, Below V.heap.size V U → Calls Try.prog 37 #[.agg #[.int .i64 gg, .slice a5 n5 q5, .int .i64 k, .int .i64 m1], .int .i64 m2, .int .i64 m4, .int .i64 kk] U fun e w' => ∃ a n c, e = .returned (.tuple #[.agg #[.int .i64 0, .slice a n c, .int .i64 0, .int .i64 0], .int .i64 9]) ∧ w'.ownsRow U.heap.size 56 2 (.slice a n c) n (tv []) ∧ Below U.heap.size U w') := Lib.hid fun U hb => HLr.out U hb
          go_upto_region 12 with (fail)
          go_cut [22, 23] from 88 to 96 (fun _ s23 wx => s23 = .int .i64 9 ∧ Hid (wx.cell? ⟨w7.heap.size, 0, none⟩ = some (.int .i64 gg) ∧ wx.cell? ⟨w7.heap.size, 1, none⟩ = some (.slice a5 n5 q5) ∧ wx.cell? ⟨w7.heap.size, 2, none⟩ = some (.int .i64 k) ∧ wx.cell? ⟨w7.heap.size, 3, none⟩ = some (.int .i64 m1) ∧ Below V.heap.size V wx ∧ w7.heap.size < wx.heap.size))
          case first =>
            go_region_held3 (fun U => U.cell? ⟨w7.heap.size, 0, none⟩ = some (.int .i64 gg) ∧ U.cell? ⟨w7.heap.size, 1, none⟩ = some (.slice a5 n5 q5) ∧ U.cell? ⟨w7.heap.size, 2, none⟩ = some (.int .i64 k) ∧ U.cell? ⟨w7.heap.size, 3, none⟩ = some (.int .i64 m1) ∧ Below V.heap.size V U ∧ w7.heap.size < U.heap.size)
              (first
                | with_reducible exact ⟨by with_reducible assumption, by with_reducible assumption, by with_reducible assumption, by with_reducible assumption, by with_reducible assumption, by with_reducible assumption⟩
                | (go_split_ands; with_reducible exact b1_on hbs ⟨by with_reducible assumption, by with_reducible assumption, by with_reducible assumption, by with_reducible assumption, by with_reducible assumption, by with_reducible assumption⟩)
                | with_reducible exact b1_drew HSB.out
                | with_reducible exact b1_alloc HSW.out
                | with_reducible exact b1_alloc HSK.out
                | with_reducible exact b1_alloc HSB.out
                | with_reducible exact b1_alloc (b1_drew HSB.out)
                | with_reducible exact b1_alloc (b1_drew HSK.out)
                | with_reducible exact b1_drew (b1_alloc HSB.out)
                | with_reducible exact b1_drew (b1_alloc HSK.out)
                | with_reducible exact b1_set4 HSK.out.2.2.2.2.2 HSK.out.2.2.2.2.1.size HSW.out
                | with_reducible exact b1_set4 HSB.out.2.2.2.2.2 HSB.out.2.2.2.2.1.size HSW.out
                | with_reducible exact ⟨by with_reducible assumption, by with_reducible assumption, by with_reducible assumption, by with_reducible assumption, Below.drew (by with_reducible assumption), by with_reducible assumption⟩
                | (go_split_ands; with_reducible exact b1_on hbs ⟨by with_reducible assumption, by with_reducible assumption, by with_reducible assumption, by with_reducible assumption, Below.drew (by with_reducible assumption), by with_reducible assumption⟩)
                | go_keep)
              (first
                | (go_at_call 38; refine (KK.out _).mono ?_; rintro e ws ⟨rfl, hbs⟩; have HSK := Lib.hid (b1_on (w := V) (B1 := w7.heap.size) (v0 := .int .i64 gg) (v1 := .slice a5 n5 q5) (v2 := .int .i64 k) (v3 := .int .i64 m1) hbs ⟨(by first | (with_reducible assumption) | (go_split_ands; with_reducible assumption)), (by first | (with_reducible assumption) | (go_split_ands; with_reducible assumption)), (by first | (with_reducible assumption) | (go_split_ands; with_reducible assumption)), (by first | (with_reducible assumption) | (go_split_ands; with_reducible assumption)), (by first | (with_reducible assumption) | (go_split_ands; with_reducible assumption)), (by first | (with_reducible assumption) | (go_split_ands; with_reducible assumption))⟩); (first | (with_reducible have HN1 := Lib.hid ((r4_new wc 49 (.int .i64 0) (.slice none 0 0) (.int .i64 0) (.int .i64 0)).on hbs)) | (with_reducible have HN1 := Lib.hid ((r4_new wc 49 (.int .i64 0) (.slice none 0 0) (.int .i64 0) (.int .i64 0)).drew.on hbs)) | (with_reducible have HN1 := Lib.hid ((r4_new_drew V 49 (.int .i64 0) (.slice none 0 0) (.int .i64 0) (.int .i64 0)).on hbs)) | skip))
                | (go_at_call 37; refine (HR2.out _ (by first | (with_reducible assumption) | (go_split_ands; with_reducible assumption))).mono ?_; rintro e ws ⟨a6, n6, q6, rfl, ho6, hbs⟩; have HSW := Lib.hid (b1_on (w := V) (B1 := w7.heap.size) (v0 := .int .i64 gg) (v1 := .slice a5 n5 q5) (v2 := .int .i64 k) (v3 := .int .i64 m1) hbs ⟨(by first | (with_reducible assumption) | (go_split_ands; with_reducible assumption)), (by first | (with_reducible assumption) | (go_split_ands; with_reducible assumption)), (by first | (with_reducible assumption) | (go_split_ands; with_reducible assumption)), (by first | (with_reducible assumption) | (go_split_ands; with_reducible assumption)), (by first | (with_reducible assumption) | (go_split_ands; with_reducible assumption)), (by first | (with_reducible assumption) | (go_split_ands; with_reducible assumption))⟩); (first | (with_reducible have HQ := Lib.hid (HN1.out.on hbs); have hQ := HQ.out; obtain ⟨lQ, cQ0, cQ1, cQ2, cQ3, zQ0, zQ1, zQ2, zQ3⟩ := hQ) | (with_reducible have HQ := Lib.hid ((r4_new _ 49 (.int .i64 0) (.slice none 0 0) (.int .i64 0) (.int .i64 0)).on hbs); have hQ := HQ.out; obtain ⟨lQ, cQ0, cQ1, cQ2, cQ3, zQ0, zQ1, zQ2, zQ3⟩ := hQ) | (with_reducible have HQ := Lib.hid ((r4_new _ 49 (.int .i64 0) (.slice none 0 0) (.int .i64 0) (.int .i64 0)).drew.on hbs); have hQ := HQ.out; obtain ⟨lQ, cQ0, cQ1, cQ2, cQ3, zQ0, zQ1, zQ2, zQ3⟩ := hQ) | skip)))
            all_goals
              go_wp2_with fail
              go_meet
              exact ⟨rfl, Lib.hid (by first | (with_reducible assumption) | (go_split_ands; with_reducible exact ⟨by with_reducible assumption, by with_reducible assumption, by with_reducible assumption, by with_reducible assumption, by with_reducible assumption, by with_reducible assumption⟩))⟩
          case rest =>
            obtain ⟨rfl, HS2⟩ := hcut
            clear c0 c1 c2 c3 hbV hlt
            have M1 := HM1.out wc HS2.out.2.2.2.2.1
            obtain ⟨e0, e1, e2, e3, hbV2, hlt2⟩ := HS2.out
            go_wp2_with fail
            with_reducible refine M1.mono ?_
            rintro e w9 ⟨rfl, hb9⟩
            have HB9 := Lib.hid (HBV.out.trans ((hbV2.trans (hb9.mono hbV2.size)).mono HBV.out.size))
            clear hb9 M1 e0 e1 e2 e3
            go_wp2_with fail
            go_ret
            exact ⟨rfl, HB9.out⟩
        · have HR2 : Hid (∀ U, Below V.heap.size V U → Calls Try.prog 37 #[.agg #[.int .i64 gg, .slice a5 n5 q5, .int .i64 k, .int .i64 m1], .int .i64 m2, .int .i64 m4, .int .i64 kk] U fun e w' => ∃ a n c, e = .returned (.tuple #[.agg #[.int .i64 gg, .slice a n c, .int .i64 k, .int .i64 m1], .int .i64 0]) ∧ w'.ownsRow U.heap.size 56 2 (.slice a n c) n (tv rg) ∧ Below U.heap.size U w') := Lib.hid fun U hb => HLr.out U hb
          go_upto_region 12 with (fail)
          go_cut [22, 23] from 88 to 96 (fun s22 s23 wx => s23 = .int .i64 0 ∧ ∃ (B n c : Nat) (a : Option Addr), s22 = .pointer (some ⟨B, 0, none⟩) ∧ Hid (R4 wx B (.int .i64 gg) (.slice a n c) (.int .i64 k) (.int .i64 m1)) ∧ Hid (TSl wx a n c rg) ∧ Hid (wx.cell? ⟨w7.heap.size, 0, none⟩ = some (.int .i64 gg) ∧ wx.cell? ⟨w7.heap.size, 1, none⟩ = some (.slice a5 n5 q5) ∧ wx.cell? ⟨w7.heap.size, 2, none⟩ = some (.int .i64 k) ∧ wx.cell? ⟨w7.heap.size, 3, none⟩ = some (.int .i64 m1) ∧ Below V.heap.size V wx ∧ w7.heap.size < wx.heap.size))
          case first =>
            go_region_held3 (fun U => U.cell? ⟨w7.heap.size, 0, none⟩ = some (.int .i64 gg) ∧ U.cell? ⟨w7.heap.size, 1, none⟩ = some (.slice a5 n5 q5) ∧ U.cell? ⟨w7.heap.size, 2, none⟩ = some (.int .i64 k) ∧ U.cell? ⟨w7.heap.size, 3, none⟩ = some (.int .i64 m1) ∧ Below V.heap.size V U ∧ w7.heap.size < U.heap.size)
              (first
                | with_reducible exact ⟨by with_reducible assumption, by with_reducible assumption, by with_reducible assumption, by with_reducible assumption, by with_reducible assumption, by with_reducible assumption⟩
                | (go_split_ands; with_reducible exact b1_on hbs ⟨by with_reducible assumption, by with_reducible assumption, by with_reducible assumption, by with_reducible assumption, by with_reducible assumption, by with_reducible assumption⟩)
                | with_reducible exact b1_drew HSB.out
                | with_reducible exact b1_alloc HSW.out
                | with_reducible exact b1_alloc HSK.out
                | with_reducible exact b1_alloc HSB.out
                | with_reducible exact b1_alloc (b1_drew HSB.out)
                | with_reducible exact b1_alloc (b1_drew HSK.out)
                | with_reducible exact b1_drew (b1_alloc HSB.out)
                | with_reducible exact b1_drew (b1_alloc HSK.out)
                | with_reducible exact b1_set4 HSK.out.2.2.2.2.2 HSK.out.2.2.2.2.1.size HSW.out
                | with_reducible exact b1_set4 HSB.out.2.2.2.2.2 HSB.out.2.2.2.2.1.size HSW.out
                | with_reducible exact ⟨by with_reducible assumption, by with_reducible assumption, by with_reducible assumption, by with_reducible assumption, Below.drew (by with_reducible assumption), by with_reducible assumption⟩
                | (go_split_ands; with_reducible exact b1_on hbs ⟨by with_reducible assumption, by with_reducible assumption, by with_reducible assumption, by with_reducible assumption, Below.drew (by with_reducible assumption), by with_reducible assumption⟩)
                | go_keep)
              (first
                | (go_at_call 38; refine (KK.out _).mono ?_; rintro e ws ⟨rfl, hbs⟩; have HSK := Lib.hid (b1_on (w := V) (B1 := w7.heap.size) (v0 := .int .i64 gg) (v1 := .slice a5 n5 q5) (v2 := .int .i64 k) (v3 := .int .i64 m1) hbs ⟨(by first | (with_reducible assumption) | (go_split_ands; with_reducible assumption)), (by first | (with_reducible assumption) | (go_split_ands; with_reducible assumption)), (by first | (with_reducible assumption) | (go_split_ands; with_reducible assumption)), (by first | (with_reducible assumption) | (go_split_ands; with_reducible assumption)), (by first | (with_reducible assumption) | (go_split_ands; with_reducible assumption)), (by first | (with_reducible assumption) | (go_split_ands; with_reducible assumption))⟩); (first | (with_reducible have HN1 := Lib.hid ((r4_new wc 49 (.int .i64 0) (.slice none 0 0) (.int .i64 0) (.int .i64 0)).on hbs)) | (with_reducible have HN1 := Lib.hid ((r4_new wc 49 (.int .i64 0) (.slice none 0 0) (.int .i64 0) (.int .i64 0)).drew.on hbs)) | (with_reducible have HN1 := Lib.hid ((r4_new_drew V 49 (.int .i64 0) (.slice none 0 0) (.int .i64 0) (.int .i64 0)).on hbs)) | skip))
                | (go_at_call 37; refine (HR2.out _ (by first | (with_reducible assumption) | (go_split_ands; with_reducible assumption))).mono ?_; rintro e ws ⟨a6, n6, q6, rfl, ho6, hbs⟩; have HSW := Lib.hid (b1_on (w := V) (B1 := w7.heap.size) (v0 := .int .i64 gg) (v1 := .slice a5 n5 q5) (v2 := .int .i64 k) (v3 := .int .i64 m1) hbs ⟨(by first | (with_reducible assumption) | (go_split_ands; with_reducible assumption)), (by first | (with_reducible assumption) | (go_split_ands; with_reducible assumption)), (by first | (with_reducible assumption) | (go_split_ands; with_reducible assumption)), (by first | (with_reducible assumption) | (go_split_ands; with_reducible assumption)), (by first | (with_reducible assumption) | (go_split_ands; with_reducible assumption)), (by first | (with_reducible assumption) | (go_split_ands; with_reducible assumption))⟩); (first | (with_reducible have HQ := Lib.hid (HN1.out.on hbs); have hQ := HQ.out; obtain ⟨lQ, cQ0, cQ1, cQ2, cQ3, zQ0, zQ1, zQ2, zQ3⟩ := hQ) | (with_reducible have HQ := Lib.hid ((r4_new _ 49 (.int .i64 0) (.slice none 0 0) (.int .i64 0) (.int .i64 0)).on hbs); have hQ := HQ.out; obtain ⟨lQ, cQ0, cQ1, cQ2, cQ3, zQ0, zQ1, zQ2, zQ3⟩ := hQ) | (with_reducible have HQ := Lib.hid ((r4_new _ 49 (.int .i64 0) (.slice none 0 0) (.int .i64 0) (.int .i64 0)).drew.on hbs); have hQ := HQ.out; obtain ⟨lQ, cQ0, cQ1, cQ2, cQ3, zQ0, zQ1, zQ2, zQ3⟩ := hQ) | skip)))
            all_goals
              go_wp2_with fail
              go_meet
              refine ⟨rfl, _, n6, q6, a6, rfl, Lib.hid ?_, Lib.hid ?_, Lib.hid (by first | (with_reducible assumption) | (go_split_ands; with_reducible exact ⟨by with_reducible assumption, by with_reducible assumption, by with_reducible assumption, by with_reducible assumption, by with_reducible assumption, by with_reducible assumption⟩))⟩
              · first
                  | with_reducible exact r4_new _ _ _ _ _ _
                  | with_reducible exact (r4_new _ _ _ _ _ _).drew
                  | with_reducible exact HQ.out.set _ _ _ _
                  | with_reducible exact (HQ.out.set _ _ _ _).drew
              · first
                  | with_reducible exact own_tsl ho6 ((Below.refl _ _).alloc (Nat.le_refl _) _)
                  | with_reducible exact tsl_drew (own_tsl ho6 ((Below.refl _ _).alloc (Nat.le_refl _) _))
                  | with_reducible exact tsl_set4 ho6 HN1.out.lt _ _ _ _
                  | exact tsl_set4 ho6 (by rw [World.size_alloc]; exact Nat.lt_succ_self _) _ _ _ _
                  | with_reducible exact tsl_drew (tsl_set4 ho6 HN1.out.lt _ _ _ _)
                  | exact tsl_drew (tsl_set4 ho6 (by rw [World.size_alloc]; exact Nat.lt_succ_self _) _ _ _ _)
          case rest =>
            obtain ⟨rfl, B, n6, q6, a6, rfl, HRY, HTY, HS2⟩ := hcut
            clear c0 c1 c2 c3 hbV hlt
            have M1 := HM1.out wc HS2.out.2.2.2.2.1
            obtain ⟨e0, e1, e2, e3, hbV2, hlt2⟩ := HS2.out
            go_wp2_with fail
            with_reducible refine M1.mono ?_
            rintro e w9 ⟨rfl, hb9⟩
            have HB9 := Lib.hid (HBV.out.trans ((hbV2.trans (hb9.mono hbV2.size)).mono HBV.out.size))
            have HX9 : Hid (w9.cell? ⟨w7.heap.size, 0, none⟩ = some (.int .i64 gg) ∧ w9.cell? ⟨w7.heap.size, 1, none⟩ = some (.slice a5 n5 q5) ∧ w9.cell? ⟨w7.heap.size, 2, none⟩ = some (.int .i64 k) ∧ w9.cell? ⟨w7.heap.size, 3, none⟩ = some (.int .i64 m1)) := Lib.hid ⟨by rw [hb9.cell (p := ⟨w7.heap.size, 0, none⟩) hlt2]; exact e0, by rw [hb9.cell (p := ⟨w7.heap.size, 1, none⟩) hlt2]; exact e1, by rw [hb9.cell (p := ⟨w7.heap.size, 2, none⟩) hlt2]; exact e2, by rw [hb9.cell (p := ⟨w7.heap.size, 3, none⟩) hlt2]; exact e3⟩
            have HY9 := Lib.hid (HRY.out.on hb9)
            obtain rfl : n6 = n5 := by rw [← HTY.out.len]; exact HLEN.out
            have S9 := Same_R gg k m1 a6 a5 n6 q6 q5 rg w9 (HTY.out.keep hb9) (HTV.out w9 (hbV2.trans (hb9.mono hbV2.size))) (by have h1 := HLEN.out; omega)
            clear hb9 M1 e0 e1 e2 e3
            obtain ⟨f0, f1, f2, f3⟩ := HX9.out
            obtain ⟨ly, cy0, cy1, cy2, cy3, zy0, zy1, zy2, zy3⟩ := HY9.out
            go_wp2_with fail
            with_reducible refine S9.mono ?_
            rintro e w10 ⟨rfl, hb10⟩
            have HF := Lib.hid (HB9.out.trans (hb10.mono HB9.out.size))
            clear hb10
            go_wp2_with fail
            go_ret
            exact ⟨rfl, HF.out⟩
  · have eR : rz (Rg.resR ⟨gg, rg, kx, hh⟩ m1 k) E = ⟨0, [], 0, 0⟩ := by unfold rz; rw [if_neg h0]; rfl
    rw [eR] at K6
    have e0 : ((E : Int) != 0) = true := bne_iff_ne.2 (by omega)
    have e0' : ((E : Int) == 0) = false := beq_eq_false_iff_ne.2 (by omega)
    clear eR h0
    with_reducible refine (K6 _).mono ?_
    rintro e w7 ⟨a5, n5, q5, rfl, ho5, hb7⟩
    obtain rfl : n5 = 0 := (own_len ho5).symm
    have HB7 := Lib.hid ((HB6.out _).trans (hb7.mono (HB6.out _).size))
    have hs7 := HB7.out.size
    have HT7 := Lib.hid (own_tsl ho5 (Below.refl _ _))
    have HBA7 : Hid (∀ o, Below w.heap.size w (w7.alloc o)) := Lib.hid fun o => HB7.out.alloc hs7 o
    have S9 := fun o => Same_R 0 0 0 a5 none 0 q5 0 [] (w7.alloc o) (HT7.out.empty) (tsl_nil _) (by omega)
    clear hb7 ho5 K6 lx cx0 cx1 cx2 cx3 zx0 zx1 zx2 zx3 lX cX0 cX1 cX2 cX3 zX0 zX1 zX2 zX3 hW
    go_wp2_with fail
    with_reducible refine (S9 _).mono ?_
    rintro e w9 ⟨rfl, hb9⟩
    have HF := Lib.hid ((HBA7.out _).trans (hb9.mono (HBA7.out _).size))
    clear hb9
    go_wp2_with fail
    go_ret
    exact ⟨rfl, HF.out⟩

theorem resvFirst_walk (a0 : Option Addr) (len0 cap0 : Nat) (z0 : Nat → Nat → Int) (a1 a2 a3 a4 a5 a6 : Int) (w : World) (w0 : LArg w a0 len0 cap0 z0) (_ : (Lit.int .i64 a1).wf = true) (_ : (Lit.int .i64 a2).wf = true) (_ : (Lit.int .i64 a3).wf = true) (_ : (Lit.int .i64 a4).wf = true) (_ : (Lit.int .i64 a5).wf = true) (_ : (Lit.int .i64 a6).wf = true) :
    Calls Try.prog 14 #[.slice a0 len0 cap0, .int .i64 a1, .int .i64 a2, .int .i64 a3, .int .i64 a4, .int .i64 a5, .int .i64 a6] w fun e w' => e = .returned (.bool true) ∧ Below w.heap.size w w' :=
  first_core a0 len0 cap0 z0 a1 a2 a3 a4 a5 a6 w w0

end Go.Proofs.Ytoglkellaliegaa
