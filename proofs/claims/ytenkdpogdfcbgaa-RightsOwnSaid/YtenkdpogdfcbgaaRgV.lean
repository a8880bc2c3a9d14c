/- Walks: reservations by some turns, the first two. -/
import Derived.Test.YtenkdpogdfcbgaaRgU
namespace Go.Proofs.Ytenkdpogdfcbgaa.Rs
open Go.RowKit

/-- What some turns make of nothing. -/
def tS (F : Nat → Nat → Int) : Nat → Rg.RV
  | 0 => Rg.zero
  | j + 1 => Rg.tn (tS F j) (F j)

theorem tS_good (F : Nat → Nat → Int) : ∀ j, j ≤ 60 → Rg.Good (tS F j) ∧ (tS F j).gen ≤ j
  | 0, _ => ⟨Rg.good_zero, Int.le_refl _⟩
  | j + 1, h => by
    have ih := tS_good F j (by omega)
    have := Rg.tn_good ih.1 (n := j) ih.2 (by omega) (F j)
    exact this

set_option maxRecDepth 100000 in
set_option maxHeartbeats 8000000 in
theorem turned_R (L : Option Addr) (nl cl N : Nat) (F : Nat → Nat → Int) (w : World) (hL : LArg w L nl cl F) (hN : min nl 60 = N) :
    Calls Try.prog 53 #[.slice L nl cl] w fun e w' => ∃ a n c, e = .returned (.agg #[.int .i64 (tS F N).gen, .slice a n c, .int .i64 (tS F N).kind, .int .i64 (tS F N).holder]) ∧
      w'.ownsRow w.heap.size 109 2 (.slice a n c) n (tv (tS F N).regs) ∧ Below w.heap.size w w' := by
  have hcap := hL.cap
  have hmax := hL.max
  unfold maxLen at hmax
  have hN60 : N ≤ 60 := by omega
  have hNl : N ≤ nl := by omega
  have hmin : min (nl : Int) 60 = (N : Int) := by omega
  have h0N : (0 : Int) ≤ (N : Int) := by omega
  have hNc : (N : Int) ≤ (cl : Int) := by omega
  have HB := boxes_b w
  have HY := boxes_y w
  have HX : Hid (∀ T o, R4 ((w.alloc (.cells #[.int .i64 0, .slice none 0 0, .int .i64 0, .int .i64 0] T)).alloc o) w.heap.size (.int .i64 0) (.slice none 0 0) (.int .i64 0) (.int .i64 0)) := Lib.hid fun T o => (r4_new w T _ _ _ _).alloc _
  have HL := Lib.hid hL
  obtain ⟨Z, hZ⟩ : ∃ Z, tS F N = Z := ⟨_, rfl⟩
  have HZ := Lib.hid hZ
  rw [hZ]
  clear hL hN hZ
  go_enter Try.func53, Try.ntmps53
  go_wp2_with fail
  go_loopw [14] (fun v wr => ∃ (j m c : Nat) (a : Option Addr) (gg kx hh : Int) (rg : List Qu.T), j ≤ N ∧ v = .int .i64 j ∧ Hid (tS F j = ⟨gg, rg, kx, hh⟩) ∧
      Hid (R4 wr (w.heap.size + 1) (.int .i64 gg) (.slice a m c) (.int .i64 kx) (.int .i64 hh)) ∧ Hid (wr.ownsRow (w.heap.size + 2) 109 2 (.slice a m c) m (tv rg)) ∧
      Hid (R4 wr w.heap.size (.int .i64 0) (.slice none 0 0) (.int .i64 0) (.int .i64 0)) ∧ Hid (Below w.heap.size w wr)) (fun v _ => N - (intOf v).toNat)
  case atStart => exact ⟨0, 0, 0, none, 0, 0, 0, [], Nat.zero_le _, rfl, Lib.hid rfl, HY.out _ _, Lib.hid (World.ownsRow_nil _ _ _ _), HX.out _ _, Lib.hid (HB.out _ _)⟩
  case round =>
    obtain ⟨j, m, c, a, gg, kx, hh, rg, hj, rfl, HS, HR, HO, HY1, HBr⟩ := hrel
    obtain ⟨hl, c0, c1, c2, c3, z0, z1, z2, z3⟩ := HR.out
    by_cases hlt : j < N
    · obtain ⟨x, b, nc, cc, rfl, hxb, hxc, hC⟩ := (HL.out.keep HBr.out).row j (by omega)
      have hG := tS_good F j (by omega)
      rw [HS.out] at hG
      have hg : gg ≤ (j : Int) := hG.2
      obtain ⟨a', c', he, hT⟩ := own_slice HO.out
      cases he
      have T1 := turn_R gg kx hh a m c rg b nc cc (F j) wr hG.1 (by omega) hT hC
      have HSN : Hid (tS F (j + 1) = Rg.tn ⟨gg, rg, kx, hh⟩ (F j)) := Lib.hid (by rw [← HS.out]; rfl)
      obtain ⟨E, hE⟩ : ∃ E, Rg.tE ⟨gg, rg, kx, hh⟩ (F j) = E := ⟨_, rfl⟩
      rw [hE] at T1
      have HE := Lib.hid hE
      have hsr := HBr.out.size
      clear hE hT hC hG
      by_cases h0 : E = 0
      · subst h0
        obtain ⟨⟨zg, zr, zk, zh⟩, hZZ⟩ : ∃ Z, rz (Rg.tR ⟨gg, rg, kx, hh⟩ (F j)) 0 = Z := ⟨_, rfl⟩
        rw [hZZ] at T1
        have HSZ : Hid (tS F (j + 1) = ⟨zg, zr, zk, zh⟩) := Lib.hid (by rw [HSN.out, ← hZZ]; unfold Rg.tn rz; rw [if_pos HE.out, if_pos rfl])
        clear hZZ HSN
        go_wp2_with fail
        with_reducible refine T1.mono ?_
        rintro e w6 ⟨a6, n6, c6, rfl, ho6, hb6⟩
        have HR6 := Lib.hid (HR.out.on hb6)
        have HY6 := Lib.hid (HY1.out.on hb6)
        have HB6 := Lib.hid (HBr.out.trans (hb6.mono HBr.out.size))
        have hsz : w.heap.size + 2 ≤ wr.heap.size := by have := HR.out.lt; omega
        have HO6 := Lib.hid (own_low ho6 hsz)
        have HNE : Hid (∀ k, (Value.slice a6 n6 c6).ownBlock = some k → w.heap.size + 1 ≠ k) := Lib.hid fun j hj => by have := row_base ho6 j hj; omega
        have hs6 := HB6.out.size
        clear hl c0 c1 c2 c3 z0 z1 z2 z3 ho6 hb6 T1
        obtain ⟨hl, c0, c1, c2, c3, z0, z1, z2, z3⟩ := HR6.out
        go_wp2_with fail
        go_roundw
        case rel => exact ⟨j + 1, n6, c6, a6, zg, zk, zh, zr, hlt, by go_num, HSZ, Lib.hid ((HR6.out.set _ _ _ _).alloc _), Lib.hid ((own_set4 HO6.out HNE.out _ _ _ _).alloc _), Lib.hid ((other4 HY6.out (by omega) _ _ _ _).alloc _), Lib.hid ((below_set4 HB6.out (by omega) _ _ _ _).alloc (by simp only [World.size_setCell]; exact hs6) _)⟩
        case measure => simp [intOf]; omega
      · obtain ⟨⟨zg, zr, zk, zh⟩, hZZ⟩ : ∃ Z, rz (Rg.tR ⟨gg, rg, kx, hh⟩ (F j)) E = Z := ⟨_, rfl⟩
        rw [hZZ] at T1
        have HSZ : Hid (tS F (j + 1) = ⟨gg, rg, kx, hh⟩) := Lib.hid (by rw [HSN.out]; unfold Rg.tn; rw [if_neg (by rw [HE.out]; exact h0)])
        have e0 : ((E : Int) == 0) = false := beq_eq_false_iff_ne.2 (by omega)
        clear hZZ HSN h0
        go_wp2_with fail
        with_reducible refine T1.mono ?_
        rintro e w6 ⟨a6, n6, c6, rfl, ho6, hb6⟩
        have HR6 := Lib.hid (HR.out.on hb6)
        have HY6 := Lib.hid (HY1.out.on hb6)
        have HB6 := Lib.hid (HBr.out.trans (hb6.mono HBr.out.size))
        have HO6 := Lib.hid (own_keep HO.out hb6)
        have hs6 := HB6.out.size
        clear hl c0 c1 c2 c3 z0 z1 z2 z3 ho6 hb6 T1
        go_wp2_with fail
        go_roundw
        case rel => exact ⟨j + 1, m, c, a, gg, kx, hh, rg, hlt, by go_num, HSZ, Lib.hid (HR6.out.alloc _), Lib.hid (HO6.out.alloc _), Lib.hid (HY6.out.alloc _), Lib.hid (HB6.out.alloc hs6 _)⟩
        case measure => simp [intOf]; omega
    · obtain rfl : j = N := by omega
      obtain rfl : Z = ⟨gg, rg, kx, hh⟩ := by rw [← HZ.out]; exact HS.out
      obtain ⟨hm, d0, d1, d2, d3, y0, y1, y2, y3⟩ := HY1.out
      have HNE : Hid (∀ k, (Value.slice a m c).ownBlock = some k → w.heap.size ≠ k) := Lib.hid fun j hj => by have := row_base HO.out j hj; omega
      have HOL := Lib.hid (own_low HO.out (base := w.heap.size) (by omega))
      go_wp2_with fail
      refine bodyPost_ret (v := .agg #[.int .i64 gg, .slice a m c, .int .i64 kx, .int .i64 hh]) ?_ rfl ⟨a, m, c, rfl, ?_, ?_⟩
      · exact res_cell (p := 2) (B := w.heap.size) rfl rfl (HY1.out.set _ _ _ _)
      · exact own_set4 HOL.out HNE.out _ _ _ _
      · exact below_set4 HBr.out (Nat.le_refl _) _ _ _ _

theorem tsl_nil (w : World) : TSl w none 0 0 [] := ⟨fun h => absurd rfl h, rfl, Nat.le_refl _, Nat.zero_le _, fun _ => ⟨rfl, rfl⟩⟩

theorem reg_first (w : World) : Calls Try.prog 139 #[.agg #[.int .i64 0, .slice none 0 0, .int .i64 0, .int .i64 0], .int .i64 1, .int .i64 0, .int .i64 5] w fun e w' =>
    ∃ a c, e = .returned (.tuple #[.agg #[.int .i64 1, .slice a 1 c, .int .i64 0, .int .i64 0], .int .i64 0]) ∧ w'.ownsRow w.heap.size 109 2 (.slice a 1 c) 1 (tv [(1, 5)]) ∧ Below w.heap.size w w' := by
  refine (Register_R 0 0 0 1 0 5 none 0 0 [] w Rg.good_zero (tsl_nil w) (by omega) (by omega) (by omega) (by omega) (by omega)).mono ?_
  have e1 : rz (Rg.regR ⟨0, [], 0, 0⟩ 1 5) (Rg.regE ⟨0, [], 0, 0⟩ 1 0) = ⟨1, [(1, 5)], 0, 0⟩ := by kernel_rfl
  have e2 : Rg.regE ⟨0, [], 0, 0⟩ 1 0 = 0 := by kernel_rfl
  rw [e1, e2]
  rintro e w' ⟨a, n, c, rfl, ho, hb⟩
  obtain rfl : n = 1 := by
    have := ho.1
    rw [tv_length] at this
    have h : 1 * 2 = n * 2 := this
    omega
  exact ⟨a, c, rfl, ho, hb⟩

theorem good_one : Rg.Good ⟨1, [(1, 5)], 0, 0⟩ := by
  have h := Rg.good_zero.reg (w := 1) (k := 5) (by decide) (by decide) (by decide) (by decide) (by decide)
  have e : Rg.regR Rg.zero 1 5 = ⟨1, [(1, 5)], 0, 0⟩ := by kernel_rfl
  rw [e] at h
  exact h

theorem good_two : Rg.Good ⟨2, [(1, 5), (2, 6)], 0, 0⟩ := by
  have h := good_one.reg (w := 2) (k := 6) (by decide) (by decide) (by decide) (by decide) (by decide)
  have e : Rg.regR ⟨1, [(1, 5)], 0, 0⟩ 2 6 = ⟨2, [(1, 5), (2, 6)], 0, 0⟩ := by kernel_rfl
  rw [e] at h
  exact h

theorem reg_second (a : Option Addr) (c : Nat) (w : World) (hT : TSl w a 1 c [(1, 5)]) : Calls Try.prog 139 #[.agg #[.int .i64 1, .slice a 1 c, .int .i64 0, .int .i64 0], .int .i64 2, .int .i64 0, .int .i64 6] w fun e w' =>
    ∃ a c, e = .returned (.tuple #[.agg #[.int .i64 2, .slice a 2 c, .int .i64 0, .int .i64 0], .int .i64 0]) ∧ w'.ownsRow w.heap.size 109 2 (.slice a 2 c) 2 (tv [(1, 5), (2, 6)]) ∧ Below w.heap.size w w' := by
  refine (Register_R 1 0 0 2 0 6 a 1 c [(1, 5)] w good_one hT (by omega) (by omega) (by omega) (by omega) (by omega)).mono ?_
  have e1 : rz (Rg.regR ⟨1, [(1, 5)], 0, 0⟩ 2 6) (Rg.regE ⟨1, [(1, 5)], 0, 0⟩ 2 0) = ⟨2, [(1, 5), (2, 6)], 0, 0⟩ := by kernel_rfl
  have e2 : Rg.regE ⟨1, [(1, 5)], 0, 0⟩ 2 0 = 0 := by kernel_rfl
  rw [e1, e2]
  rintro e w' ⟨a, n, c, rfl, ho, hb⟩
  obtain rfl : n = 2 := by
    have := ho.1
    rw [tv_length] at this
    have h : 2 * 2 = n * 2 := this
    omega
  exact ⟨a, c, rfl, ho, hb⟩

set_option maxRecDepth 100000 in
set_option maxHeartbeats 4000000 in
theorem registered_R (w : World) : Calls Try.prog 52 #[] w fun e w' =>
    ∃ a c, e = .returned (.agg #[.int .i64 2, .slice a 2 c, .int .i64 0, .int .i64 0]) ∧ w'.ownsRow w.heap.size 109 2 (.slice a 2 c) 2 (tv [(1, 5), (2, 6)]) ∧ Below w.heap.size w w' := by
  have HX : Hid (∀ T, R4 (w.alloc (.cells #[.int .i64 0, .slice none 0 0, .int .i64 0, .int .i64 0] T)) w.heap.size (.int .i64 0) (.slice none 0 0) (.int .i64 0) (.int .i64 0)) := Lib.hid fun T => r4_new w T _ _ _ _
  have HB : Hid (∀ o, Below w.heap.size w (w.alloc o)) := Lib.hid fun o => (Below.refl _ w).alloc (Nat.le_refl _) _
  have K1 := fun o => reg_first (w.alloc o)
  go_enter Try.func52, Try.ntmps52
  go_wp2_with fail
  with_reducible refine (K1 _).mono ?_
  rintro e w1 ⟨a1, cq, rfl, ho1, hb1⟩
  have HX1 := Lib.hid ((HX.out 104).on hb1)
  have HB1 := Lib.hid ((HB.out _).trans (hb1.mono (HB.out _).size))
  have hs1 := hb1.size
  rw [World.size_alloc] at hs1
  obtain ⟨a', c', he, hT⟩ := own_slice ho1
  cases he
  have K2 := fun o => reg_second a1 cq (w1.alloc o) (hT.keep ((Below.refl _ _).alloc (Nat.le_refl _) o))
  have HZ : Hid (∀ T, R4 (w1.alloc (.cells #[.int .i64 1, .slice a1 1 cq, .int .i64 0, .int .i64 0] T)) w1.heap.size (.int .i64 1) (.slice a1 1 cq) (.int .i64 0) (.int .i64 0)) := Lib.hid fun T => r4_new w1 T _ _ _ _
  clear ho1 hb1 hT K1
  go_wp2_with fail
  with_reducible refine (K2 _).mono ?_
  rintro e w2 ⟨a2, cp, rfl, ho2, hb2⟩
  have HX2 := Lib.hid ((HX1.out.alloc _).on hb2)
  have HZ2 := Lib.hid ((HZ.out 104).on hb2)
  have HBA := Lib.hid (HB1.out.alloc (by omega) (.cells #[.int .i64 1, .slice a1 1 cq, .int .i64 0, .int .i64 0] 104))
  have HB2 := Lib.hid (HBA.out.trans (hb2.mono HBA.out.size))
  have HNE : Hid (∀ k, (Value.slice a2 2 cp).ownBlock = some k → w.heap.size ≠ k ∧ w1.heap.size ≠ k) := Lib.hid fun j hj => by have := row_base ho2 j hj; rw [World.size_alloc] at this; omega
  have HO2 := Lib.hid (own_low ho2 (base := w.heap.size) (by rw [World.size_alloc]; omega))
  clear ho2 hb2 K2
  obtain ⟨hl, c0, c1, c2, c3, z0, z1, z2, z3⟩ := HX2.out
  obtain ⟨hm, d0, d1, d2, d3, y0, y1, y2, y3⟩ := HZ2.out
  go_wp2_with fail
  refine bodyPost_ret (v := .agg #[.int .i64 2, .slice a2 2 cp, .int .i64 0, .int .i64 0]) ?_ rfl ⟨a2, cp, rfl, ?_, ?_⟩
  · exact res_cell (p := 0) (B := w.heap.size) rfl rfl ((other4 HX2.out (by omega) _ _ _ _).set _ _ _ _)
  · exact own_set4 (own_set4 HO2.out (fun j hj => (HNE.out j hj).2) _ _ _ _) (fun j hj => (HNE.out j hj).1) _ _ _ _
  · exact below_set4 (below_set4 HB2.out (by omega) _ _ _ _) (Nat.le_refl _) _ _ _ _

end Go.Proofs.Ytenkdpogdfcbgaa.Rs
