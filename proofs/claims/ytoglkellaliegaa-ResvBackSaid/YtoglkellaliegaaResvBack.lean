/- ResvBack: registering and unregistering, reserving and releasing leave all as it was but Gen; for every input; what was there stands below. -/
import Derived.Test.YtoglkellaliegaaRgX
import Derived.Test.YtoglkellaliegaaArgsL
namespace Go.Proofs.Ytoglkellaliegaa
open Go.RowKit

theorem unreg_two (a : Option Addr) (c : Nat) (w : World) (hT : TSl w a 2 c [(1, 5), (2, 6)]) : Calls Try.prog 34 #[.agg #[.int .i64 2, .slice a 2 c, .int .i64 0, .int .i64 0], .int .i64 2, .int .i64 6, .int .i64 0] w fun e w' =>
    ∃ a c, e = .returned (.tuple #[.agg #[.int .i64 3, .slice a 1 c, .int .i64 0, .int .i64 0], .int .i64 0]) ∧ w'.ownsRow w.heap.size 56 2 (.slice a 1 c) 1 (tv [(1, 5)]) ∧ Below w.heap.size w w' := by
  refine (Register_R 2 0 0 2 6 0 a 2 c [(1, 5), (2, 6)] w good_two hT (by omega) (by omega) (by omega) (by omega) (by omega)).mono ?_
  have e1 : rz (Rg.regR ⟨2, [(1, 5), (2, 6)], 0, 0⟩ 2 0) (Rg.regE ⟨2, [(1, 5), (2, 6)], 0, 0⟩ 2 6) = ⟨3, [(1, 5)], 0, 0⟩ := by kernel_rfl
  have e2 : Rg.regE ⟨2, [(1, 5), (2, 6)], 0, 0⟩ 2 6 = 0 := by kernel_rfl
  rw [e1, e2]
  rintro e w' ⟨a, n, c, rfl, ho, hb⟩
  obtain rfl : n = 1 := (own_len ho).symm
  exact ⟨a, c, rfl, ho, hb⟩

/-- Whoever registers was not registered. -/
theorem back_reg {r : Rg.RV} (hG : Rg.Good r) {x : Int} (h : Rg.key r.regs x = 0) : Qu.has r.regs x = false := by
  cases hh : Qu.has r.regs x with
  | false => rfl
  | true =>
    obtain ⟨k, hk⟩ := Rg.has_iff.1 hh
    have h1 := Rg.key_of hG.inc hk
    have h2 := (hG.one _ hk).2.2.1
    have h3 : 1 ≤ k := h2
    omega

theorem back_ins {r : Rg.RV} (hG : Rg.Good r) {x y : Int} (h : Qu.has r.regs x = false) (hy : y ≠ 0) : Rg.regR r x y = ⟨r.gen + 1, Rg.ins r.regs x y, r.kind, r.holder⟩ := by
  unfold Rg.regR
  rw [if_neg hy, if_neg (by rw [h]; decide)]

theorem back_out {g k q x y : Int} {ts : List Qu.T} (hG : Rg.Good ⟨g, ts, k, q⟩) (h : Qu.has ts x = false) (g' : Int) : Rg.regR ⟨g', Rg.ins ts x y, k, q⟩ x 0 = ⟨g' + 1, ts, k, q⟩ := by
  unfold Rg.regR
  rw [if_pos rfl, out_eq]
  have hc : Rg.cut (Rg.ins ts x y) x = ts := Rg.cut_ins hG.inc h
  have he : Rg.ends (Rg.ins ts x y) k q x = false := by
    unfold Rg.ends
    rw [hc]
    cases ha : Rg.all k with
    | true =>
      have hne : ts ≠ [] := hG.some ha
      rw [decide_eq_false hne]
      simp
    | false =>
      have hf : Rg.hasR (Rg.ins ts x y) k q x = false := by
        unfold Rg.hasR
        by_cases h0 : k = 0
        · rw [if_pos h0]
        · rw [if_neg h0, if_neg (by rw [ha]; decide)]
          rw [beq_eq_false_iff_ne]
          intro e
          have hh : Qu.has ts q = true := hG.held h0 ha
          rw [e, h] at hh
          cases hh
      rw [hf]
      rfl
  rw [hc, he]
  rfl

theorem back_key {ts : List Qu.T} (hi : Rg.Inc ts) {x y : Int} (h : Qu.has ts x = false) : Rg.key (Rg.ins ts x y) x = y := Rg.key_of (Rg.inc_ins hi h) (Rg.mem_ins.2 (Or.inr rfl))

theorem back_res {g x y kk : Int} {ts : List Qu.T} (hi : Rg.Inc ts) (hk : Rg.kindB kk = true) (h0 : Rg.resE ⟨g, ts, 0, 0⟩ x y kk = 0) :
    Rg.relE (Rg.resR ⟨g, ts, 0, 0⟩ x kk) x y kk = 0 ∧ Rg.relR (Rg.resR ⟨g, ts, 0, 0⟩ x kk) x = ⟨g, ts, 0, 0⟩ := by
  have hd : Rg.kd ts x y = true := by
    unfold Rg.resE at h0
    cases hd : Rg.kd ts x y with
    | true => rfl
    | false =>
      have h0' : (if Rg.kd ts x y = false then 9 else _) = 0 := h0
      rw [hd, if_pos rfl] at h0'
      cases h0'
  have hh : Qu.has ts x = true := Rg.has_iff.2 ⟨_, (Rg.kd_iff hi).1 hd⟩
  have hf : Rg.hasR ts kk (if Rg.all kk = true then 0 else x) x = true := by
    unfold Rg.hasR
    rw [if_neg (Rg.kindB_ne hk)]
    cases ha : Rg.all kk with
    | true => rw [if_pos rfl]; exact hh
    | false => rw [if_neg (by decide), if_neg (by decide)]; simp
  constructor
  · show (if Rg.kd ts x y = false then 9 else if Rg.hasR ts kk (if Rg.all kk = true then 0 else x) x = false then 0 else if kk = kk then 0 else 3) = 0
    rw [hd, hf]
    simp
  · show (if Rg.hasR ts kk (if Rg.all kk = true then 0 else x) x = false then _ else _) = _
    rw [hf, if_neg (by decide)]
    rfl

set_option maxRecDepth 100000 in
set_option maxHeartbeats 32000000 in
theorem back_core (L : Option Addr) (nl cl : Nat) (F : Nat → Nat → Int) (p1 p2 p3 p4 : Int) (w : World) (hL : LArg w L nl cl F) :
    Calls Try.prog 9 #[.slice L nl cl, .int .i64 p1, .int .i64 p2, .int .i64 p3, .int .i64 p4] w fun e w' => e = .returned (.bool true) ∧ Below w.heap.size w w' := by
  obtain ⟨N, hN⟩ : ∃ N, min nl 60 = N := ⟨_, rfl⟩
  have HT4 : Hid (∀ w', Below w.heap.size w w' → Calls Try.prog 35 #[.slice L nl cl] w' fun e w'' => ∃ a n c, e = .returned (.agg #[.int .i64 (tS F N).gen, .slice a n c, .int .i64 (tS F N).kind, .int .i64 (tS F N).holder]) ∧
      w''.ownsRow w'.heap.size 56 2 (.slice a n c) n (tv (tS F N).regs) ∧ Below w'.heap.size w' w'') := Lib.hid fun w' hb => turned_R L nl cl N F w' (hL.keep hb) hN
  have HG := tS_good F N (by omega)
  have hN60 : N ≤ 60 := by omega
  have K1 := registered_R w
  have w1' := within_is (k := p1) (n := 8) (N := 8) rfl (by omega) (by omega) rfl
  have w2' := within_is (k := p2) (n := 1000) (N := 1000) rfl (by omega) (by omega) rfl
  have w3' := within_is (k := p3) (n := 4) (N := 4) rfl (by omega) (by omega) rfl
  have KK := fun w => kinds_R p4 w
  have hkk := Rg.kinds_ok p4
  have hq1 := wi_lt p1 8 (by omega)
  have hq2 := wi_lt p2 1000 (by omega)
  clear hL hN
  generalize wi p1 8 = m1 at *
  generalize wi p2 1000 = m2 at *
  generalize wi p3 4 = m3 at *
  generalize Rg.kinds p4 = kk at *
  generalize tS F N = Z at *
  obtain ⟨gg, rg, kx, hh⟩ := Z
  obtain ⟨HG, hgg⟩ := HG
  have hgg' : gg ≤ (N : Int) := hgg
  have hg0 : 0 ≤ gg := HG.gen0
  have HG := Lib.hid HG
  have HKK := Lib.hid hkk
  clear hkk
  go_enter Try.func9, Try.ntmps9
  go_wp2_with fail
  with_reducible refine K1.mono ?_
  rintro e w1 ⟨a1, q1, rfl, ho1, hb1⟩
  have HB1 := Lib.hid hb1
  have hs1 := hb1.size
  have HBA : Hid (∀ o, Below w.heap.size w (w1.alloc o)) := Lib.hid fun o => HB1.out.alloc hs1 o
  have HX1 : Hid (∀ T, R4 (w1.alloc (.cells #[.int .i64 2, .slice a1 2 q1, .int .i64 0, .int .i64 0] T)) w1.heap.size (.int .i64 2) (.slice a1 2 q1) (.int .i64 0) (.int .i64 0)) := Lib.hid fun T => r4_new w1 T _ _ _ _
  have K2 := fun o => unreg_two a1 q1 (w1.alloc o) (own_tsl ho1 ((Below.refl _ _).alloc (Nat.le_refl _) o))
  clear ho1 hb1 K1
  go_wp2_with fail
  with_reducible refine (K2 _).mono ?_
  rintro e w2 ⟨a2, q2, rfl, ho2, hb2⟩
  have HX2 := Lib.hid ((HX1.out 49).on hb2)
  have HB2 := Lib.hid ((HBA.out _).trans (hb2.mono (HBA.out _).size))
  have hs2 := HB2.out.size
  have hl12 : w1.heap.size < w2.heap.size := HX2.out.lt
  have HX3 := fun T => Lib.hid (HX2.out.alloc (.cells #[.int .i64 3, .slice a2 1 q2, .int .i64 0, .int .i64 0] T))
  have HY3 : ∀ T, Hid (R4 (w2.alloc (.cells #[.int .i64 3, .slice a2 1 q2, .int .i64 0, .int .i64 0] T)) w2.heap.size (.int .i64 3) (.slice a2 1 q2) (.int .i64 0) (.int .i64 0)) := fun T => Lib.hid (r4_new w2 T _ _ _ _)
  have HB3 : Hid (∀ o, Below w.heap.size w (w2.alloc o)) := Lib.hid fun o => HB2.out.alloc hs2 o
  have K3 := fun o => HT4.out (w2.alloc o) (HB3.out o)
  clear ho2 hb2 K2 HT4
  go_wp2_with fail
  with_reducible refine (K3 _).mono ?_
  rintro e w3 ⟨a3, n3, q3, rfl, ho3, hb3⟩
  have HX4 := Lib.hid ((HX3 49).out.on hb3)
  have HY4 := Lib.hid ((HY3 49).out.on hb3)
  have HB4 := Lib.hid ((HB3.out _).trans (hb3.mono (HB3.out _).size))
  have HNE : Hid (∀ k, (Value.slice a3 n3 q3).ownBlock = some k → w1.heap.size ≠ k) := Lib.hid fun j hj => by have := row_base ho3 j hj; rw [World.size_alloc] at this; omega
  obtain ⟨W, hW⟩ : ∃ W, ((((w3.setCell ⟨w1.heap.size, 0, none⟩ (.int .i64 gg)).setCell ⟨w1.heap.size, 1, none⟩ (.slice a3 n3 q3)).setCell ⟨w1.heap.size, 2, none⟩ (.int .i64 kx)).setCell ⟨w1.heap.size, 3, none⟩ (.int .i64 hh)) = W := ⟨_, rfl⟩
  have HXW : Hid (R4 W w1.heap.size (.int .i64 gg) (.slice a3 n3 q3) (.int .i64 kx) (.int .i64 hh)) := Lib.hid (by rw [← hW]; exact HX4.out.set _ _ _ _)
  have HYW : Hid (R4 W w2.heap.size (.int .i64 3) (.slice a2 1 q2) (.int .i64 0) (.int .i64 0)) := Lib.hid (by rw [← hW]; exact other4 HY4.out (by omega) _ _ _ _)
  have HBW : Hid (Below w.heap.size w W) := Lib.hid (by rw [← hW]; exact below_set4 HB4.out hs1 _ _ _ _)
  have HOW : Hid (W.ownsRow (w2.heap.size + 1) 56 2 (.slice a3 n3 q3) n3 (tv rg)) := Lib.hid (by rw [← hW]; rw [World.size_alloc] at ho3; exact own_set4 ho3 HNE.out _ _ _ _)
  have HN3 : Hid (∀ k, (Value.slice a3 n3 q3).ownBlock = some k → w2.heap.size ≠ k) := Lib.hid fun j hj => by have := row_base HOW.out j hj; omega
  clear hb3 K3 ho3
  obtain ⟨lx, cx0, cx1, cx2, cx3, zx0, zx1, zx2, zx3⟩ := HX4.out
  obtain ⟨lX, cX0, cX1, cX2, cX3, zX0, zX1, zX2, zX3⟩ := HXW.out
  go_wp2_with fail
  with_reducible refine w1'.use ?_
  rintro e w' ⟨rfl, rfl⟩
  go_wp2_with fail
  with_reducible refine w2'.use ?_
  rintro e w' ⟨rfl, rfl⟩
  go_wp2_with fail
  with_reducible refine w3'.use ?_
  rintro e w' ⟨rfl, rfl⟩
  go_wp2_with fail
  with_reducible refine (KK _).mono ?_
  rintro e w4 ⟨rfl, hb4⟩
  have HX5 := Lib.hid (HXW.out.on hb4)
  have HY5 := Lib.hid (HYW.out.on hb4)
  have HO5 := Lib.hid (own_keep HOW.out hb4)
  have HB5 := Lib.hid (HBW.out.trans (hb4.mono HBW.out.size))
  clear lx cx0 cx1 cx2 cx3 zx0 zx1 zx2 zx3 lX cX0 cX1 cX2 cX3 zX0 zX1 zX2 zX3
  clear hb4 hW KK w1' w2' w3'
  have K5 := Register_R gg kx hh m1 0 (1 + (m2 : Int)) a3 n3 q3 rg w4 HG.out (own_tsl HO5.out (Below.refl _ _)) (by omega) (by omega) (by omega) (by omega) (by omega)
  obtain ⟨E, hE⟩ : ∃ E, Rg.regE ⟨gg, rg, kx, hh⟩ m1 0 = E := ⟨_, rfl⟩
  have HE : Hid (E = if Rg.key rg m1 = 0 then 0 else 9) := Lib.hid (by rw [← hE]; rfl)
  rw [hE] at K5
  clear hE
  obtain ⟨lx, cx0, cx1, cx2, cx3, zx0, zx1, zx2, zx3⟩ := HX5.out
  obtain ⟨ly, cy0, cy1, cy2, cy3, zy0, zy1, zy2, zy3⟩ := HY5.out
  by_cases hk0 : Rg.key rg m1 = 0
  · obtain rfl : E = 0 := by rw [HE.out, if_pos hk0]
    have hh1 : Qu.has rg m1 = false := back_reg HG.out hk0
    have hy1 : (1 : Int) + (m2 : Int) ≠ 0 := by omega
    have eR : rz (Rg.regR ⟨gg, rg, kx, hh⟩ m1 (1 + (m2 : Int))) 0 = ⟨gg + 1, Rg.ins rg m1 (1 + (m2 : Int)), kx, hh⟩ := by
      unfold rz
      rw [if_pos rfl]
      exact back_ins HG.out hh1 hy1
    rw [eR] at K5
    have HH1 := Lib.hid hh1
    have HGX := Lib.hid ((HG.out.genUp (show gg < 1000 by omega)).ins (w := m1) (k := 1 + (m2 : Int)) (by omega) (by omega) hh1 (by omega) (by omega))
    clear HE hk0 hh1 eR hy1
    go_wp2_with fail
    with_reducible refine K5.mono ?_
    rintro e w5 ⟨a5, n5, q5, rfl, ho5, hb5⟩
    have HX6 := Lib.hid (HX5.out.on hb5)
    have HY6 := Lib.hid (HY5.out.on hb5)
    have HO6 := Lib.hid (own_keep HO5.out hb5)
    have HB6 := Lib.hid (HB5.out.trans (hb5.mono HB5.out.size))
    have hlt6 := HY5.out.lt
    have HNE5 : Hid (∀ k, (Value.slice a5 n5 q5).ownBlock = some k → w2.heap.size ≠ k) := Lib.hid fun j hj => by have := row_base ho5 j hj; omega
    obtain ⟨V, hV⟩ : ∃ V, ((((w5.setCell ⟨w2.heap.size, 0, none⟩ (.int .i64 (gg + 1))).setCell ⟨w2.heap.size, 1, none⟩ (.slice a5 n5 q5)).setCell ⟨w2.heap.size, 2, none⟩ (.int .i64 kx)).setCell ⟨w2.heap.size, 3, none⟩ (.int .i64 hh)) = V := ⟨_, rfl⟩
    have HXV : Hid (R4 V w1.heap.size (.int .i64 gg) (.slice a3 n3 q3) (.int .i64 kx) (.int .i64 hh)) := Lib.hid (by rw [← hV]; exact other4 HX6.out (by omega) _ _ _ _)
    have HYV : Hid (R4 V w2.heap.size (.int .i64 (gg + 1)) (.slice a5 n5 q5) (.int .i64 kx) (.int .i64 hh)) := Lib.hid (by rw [← hV]; exact HY6.out.set _ _ _ _)
    have HBV : Hid (Below w.heap.size w V) := Lib.hid (by rw [← hV]; exact below_set4 HB6.out hs2 _ _ _ _)
    have HOV : Hid (V.ownsRow (w2.heap.size + 1) 56 2 (.slice a3 n3 q3) n3 (tv rg)) := Lib.hid (by rw [← hV]; exact own_set4 HO6.out HN3.out _ _ _ _)
    have HOX : Hid (V.ownsRow w4.heap.size 56 2 (.slice a5 n5 q5) n5 (tv (Rg.ins rg m1 (1 + (m2 : Int))))) := Lib.hid (by rw [← hV]; exact own_set4 ho5 HNE5.out _ _ _ _)
    have K6 := Register_R (gg + 1) kx hh m1 (1 + (m2 : Int)) 0 a5 n5 q5 _ V HGX.out (own_tsl HOX.out (Below.refl _ _)) (by omega) (by omega) (by omega) (by omega) (by omega)
    have e1 : Rg.regE ⟨gg + 1, Rg.ins rg m1 (1 + (m2 : Int)), kx, hh⟩ m1 (1 + (m2 : Int)) = 0 := by
      show (if Rg.key (Rg.ins rg m1 (1 + (m2 : Int))) m1 = 1 + (m2 : Int) then 0 else 9) = 0
      rw [if_pos (back_key HG.out.inc HH1.out)]
    have e2 : rz (Rg.regR ⟨gg + 1, Rg.ins rg m1 (1 + (m2 : Int)), kx, hh⟩ m1 0) 0 = ⟨gg + 2, rg, kx, hh⟩ := by
      unfold rz
      rw [if_pos rfl, back_out HG.out HH1.out (gg + 1), Int.add_assoc]
      rfl
    rw [e1, e2] at K6
    clear e1 e2
    clear lx cx0 cx1 cx2 cx3 zx0 zx1 zx2 zx3 ly cy0 cy1 cy2 cy3 zy0 zy1 zy2 zy3
    obtain ⟨lx, cx0, cx1, cx2, cx3, zx0, zx1, zx2, zx3⟩ := HX6.out
    obtain ⟨ly, cy0, cy1, cy2, cy3, zy0, zy1, zy2, zy3⟩ := HY6.out
    obtain ⟨lX, cX0, cX1, cX2, cX3, zX0, zX1, zX2, zX3⟩ := HXV.out
    obtain ⟨lY, cY0, cY1, cY2, cY3, zY0, zY1, zY2, zY3⟩ := HYV.out
    clear ho5 hb5 K5
    go_wp2_with fail
    with_reducible refine K6.mono ?_
    rintro e w6 ⟨a6, n6, q6, rfl, ho6, hb6⟩
    obtain rfl : n6 = n3 := by rw [← own_len ho6]; exact own_len HOV.out
    have HX7 := Lib.hid (HXV.out.on hb6)
    have HY7 := Lib.hid (HYV.out.on hb6)
    have HB7 := Lib.hid (HBV.out.trans (hb6.mono HBV.out.size))
    have HO7 := Lib.hid (own_keep HOV.out hb6)
    have hs7 := HB7.out.size
    have HT7 := Lib.hid (own_tsl ho6 (Below.refl _ _))
    have HBA7 : Hid (∀ o, Below w.heap.size w (w6.alloc o)) := Lib.hid fun o => HB7.out.alloc hs7 o
    have S7 := fun o => Same_R gg kx hh a6 a3 n6 q6 q3 rg (w6.alloc o) (HT7.out.keep ((Below.refl _ _).alloc (Nat.le_refl _) o)) ((own_tsl HO7.out (Below.refl _ _)).keep ((Below.refl _ _).alloc (Nat.le_refl _) o)) (by have h1 := own_len HO7.out; have h2 := HG.out.len; have h3 : rg.length ≤ 8 := h2; omega)
    clear lx cx0 cx1 cx2 cx3 zx0 zx1 zx2 zx3 ly cy0 cy1 cy2 cy3 zy0 zy1 zy2 zy3 lX cX0 cX1 cX2 cX3 zX0 zX1 zX2 zX3 lY cY0 cY1 cY2 cY3 zY0 zY1 zY2 zY3
    obtain ⟨lx, cx0, cx1, cx2, cx3, zx0, zx1, zx2, zx3⟩ := HX7.out
    obtain ⟨ly, cy0, cy1, cy2, cy3, zy0, zy1, zy2, zy3⟩ := HY7.out
    clear hV ho6 hb6 K6
    go_wp2_with fail
    with_reducible refine (S7 _).mono ?_
    rintro e w7 ⟨rfl, hb7⟩
    have HX8 := Lib.hid ((HX7.out.alloc _).on hb7)
    have HY8 := Lib.hid ((HY7.out.alloc _).on hb7)
    have HB8 := Lib.hid ((HBA7.out _).trans (hb7.mono (HBA7.out _).size))
    have HO8 := Lib.hid (own_keep (HO7.out.alloc _) hb7)
    clear lx cx0 cx1 cx2 cx3 zx0 zx1 zx2 zx3 ly cy0 cy1 cy2 cy3 zy0 zy1 zy2 zy3
    clear hb7 S7
    have K9 := Reserve_R gg kx hh m1 m3 kk a3 n6 q3 rg w7 HG.out (own_tsl HO8.out (Below.refl _ _)) (by omega) (by omega) HKK.out
    obtain ⟨E2, hE2⟩ : ∃ E2, Rg.resE ⟨gg, rg, kx, hh⟩ m1 m3 kk = E2 := ⟨_, rfl⟩
    rw [hE2] at K9
    have HE2 := Lib.hid hE2
    clear hE2
    obtain ⟨lu, cu0, cu1, cu2, cu3, zu0, zu1, zu2, zu3⟩ := HX8.out
    obtain ⟨lv, cv0, cv1, cv2, cv3, zv0, zv1, zv2, zv3⟩ := HY8.out
    by_cases h2 : E2 = 0
    · subst h2
      by_cases h0 : kx = 0
      · subst h0
        have hh0 : hh = 0 := HG.out.none (Or.inl rfl)
        subst hh0
        have hb := back_res (g := gg) (x := m1) (y := m3) (ts := rg) HG.out.inc HKK.out HE2.out
        have HGR := Lib.hid (HG.out.res HKK.out HE2.out)
        obtain ⟨hq, hhq⟩ : ∃ hq, (if Rg.all kk = true then (0 : Int) else (m1 : Int)) = hq := ⟨_, rfl⟩
        have eZ : Rg.resR ⟨gg, rg, 0, 0⟩ m1 kk = ⟨gg, rg, kk, hq⟩ := by rw [← hhq]; rfl
        rw [eZ] at hb HGR
        have eR : rz (Rg.resR ⟨gg, rg, 0, 0⟩ m1 kk) 0 = ⟨gg, rg, kk, hq⟩ := by unfold rz; rw [if_pos rfl, eZ]
        rw [eR] at K9
        have HRL := Lib.hid hb
        clear hb eZ eR hhq
        go_wp2_with fail
        with_reducible refine K9.mono ?_
        rintro e w10 ⟨a10, n10, q10, rfl, ho10, hb10⟩
        obtain rfl : n10 = n6 := by rw [← own_len ho10]; exact own_len HO8.out
        have HX11 := Lib.hid (HX8.out.on hb10)
        have HY11 := Lib.hid (HY8.out.on hb10)
        have HB11 := Lib.hid (HB8.out.trans (hb10.mono HB8.out.size))
        have HO11 := Lib.hid (own_keep HO8.out hb10)
        have hlt11 := HY8.out.lt
        have HNE11 : Hid (∀ k, (Value.slice a10 n10 q10).ownBlock = some k → w2.heap.size ≠ k) := Lib.hid fun j hj => by have := row_base ho10 j hj; omega
        obtain ⟨U, hU⟩ : ∃ U, ((((w10.setCell ⟨w2.heap.size, 0, none⟩ (.int .i64 gg)).setCell ⟨w2.heap.size, 1, none⟩ (.slice a10 n10 q10)).setCell ⟨w2.heap.size, 2, none⟩ (.int .i64 kk)).setCell ⟨w2.heap.size, 3, none⟩ (.int .i64 hq)) = U := ⟨_, rfl⟩
        have HXU : Hid (R4 U w1.heap.size (.int .i64 gg) (.slice a3 n10 q3) (.int .i64 0) (.int .i64 0)) := Lib.hid (by rw [← hU]; exact other4 HX11.out (by omega) _ _ _ _)
        have HYU : Hid (R4 U w2.heap.size (.int .i64 gg) (.slice a10 n10 q10) (.int .i64 kk) (.int .i64 hq)) := Lib.hid (by rw [← hU]; exact HY11.out.set _ _ _ _)
        have HBU : Hid (Below w.heap.size w U) := Lib.hid (by rw [← hU]; exact below_set4 HB11.out hs2 _ _ _ _)
        have HOU : Hid (U.ownsRow (w2.heap.size + 1) 56 2 (.slice a3 n10 q3) n10 (tv rg)) := Lib.hid (by rw [← hU]; exact own_set4 HO11.out HN3.out _ _ _ _)
        have HOZ : Hid (U.ownsRow w7.heap.size 56 2 (.slice a10 n10 q10) n10 (tv rg)) := Lib.hid (by rw [← hU]; exact own_set4 ho10 HNE11.out _ _ _ _)
        have K12 := Release_R gg kk hq m1 m3 kk a10 n10 q10 rg U HGR.out (own_tsl HOZ.out (Below.refl _ _)) (by omega) (by omega) HKK.out
        have e1 : rz (Rg.relR ⟨gg, rg, kk, hq⟩ m1) 0 = ⟨gg, rg, 0, 0⟩ := by unfold rz; rw [if_pos rfl]; exact HRL.out.2
        rw [HRL.out.1, e1] at K12
        clear e1 ho10 hb10 K9 lu cu0 cu1 cu2 cu3 zu0 zu1 zu2 zu3 lv cv0 cv1 cv2 cv3 zv0 zv1 zv2 zv3
        obtain ⟨lu, cu0, cu1, cu2, cu3, zu0, zu1, zu2, zu3⟩ := HX11.out
        obtain ⟨lv, cv0, cv1, cv2, cv3, zv0, zv1, zv2, zv3⟩ := HY11.out
        obtain ⟨lU, cU0, cU1, cU2, cU3, zU0, zU1, zU2, zU3⟩ := HXU.out
        obtain ⟨lV, cV0, cV1, cV2, cV3, zV0, zV1, zV2, zV3⟩ := HYU.out
        go_wp2_with fail
        with_reducible refine K12.mono ?_
        rintro e w12 ⟨a12, n12, q12, rfl, ho12, hb12⟩
        obtain rfl : n12 = n10 := by rw [← own_len ho12]; exact own_len HOU.out
        have HX13 := Lib.hid (HXU.out.on hb12)
        have HB13 := Lib.hid (HBU.out.trans (hb12.mono HBU.out.size))
        have HO13 := Lib.hid (own_keep HOU.out hb12)
        have hs13 := HB13.out.size
        have HT13 := Lib.hid (own_tsl ho12 (Below.refl _ _))
        have HBA13 : Hid (∀ o, Below w.heap.size w (w12.alloc o)) := Lib.hid fun o => HB13.out.alloc hs13 o
        have S13 := fun o => Same_R gg 0 0 a12 a3 n12 q12 q3 rg (w12.alloc o) (HT13.out.keep ((Below.refl _ _).alloc (Nat.le_refl _) o)) ((own_tsl HO13.out (Below.refl _ _)).keep ((Below.refl _ _).alloc (Nat.le_refl _) o)) (by have h1 := own_len HO13.out; have h2 := HG.out.len; have h3 : rg.length ≤ 8 := h2; omega)
        clear hU ho12 hb12 K12 lu cu0 cu1 cu2 cu3 zu0 zu1 zu2 zu3 lv cv0 cv1 cv2 cv3 zv0 zv1 zv2 zv3 lU cU0 cU1 cU2 cU3 zU0 zU1 zU2 zU3 lV cV0 cV1 cV2 cV3 zV0 zV1 zV2 zV3
        obtain ⟨lu, cu0, cu1, cu2, cu3, zu0, zu1, zu2, zu3⟩ := HX13.out
        go_wp2_with fail
        with_reducible refine (S13 _).mono ?_
        rintro e w13 ⟨rfl, hb13⟩
        have HF := Lib.hid ((HBA13.out _).trans (hb13.mono (HBA13.out _).size))
        clear hb13
        go_wp2_with fail
        go_ret
        exact ⟨rfl, HF.out⟩
      · have e0 : (kx != 0) = true := bne_iff_ne.2 h0
        obtain ⟨⟨zg, zr, zk, zh⟩, hZ⟩ : ∃ Z, rz (Rg.resR ⟨gg, rg, kx, hh⟩ m1 kk) 0 = Z := ⟨_, rfl⟩
        rw [hZ] at K9
        clear hZ h0
        go_wp2_with fail
        with_reducible refine K9.mono ?_
        rintro e w10 ⟨a10, n10, q10, rfl, ho10, hb10⟩
        have HX11 := Lib.hid (HX8.out.on hb10)
        have HY11 := Lib.hid (HY8.out.on hb10)
        have HB11 := Lib.hid (HB8.out.trans (hb10.mono HB8.out.size))
        clear ho10 hb10 K9 lu cu0 cu1 cu2 cu3 zu0 zu1 zu2 zu3 lv cv0 cv1 cv2 cv3 zv0 zv1 zv2 zv3
        obtain ⟨lu, cu0, cu1, cu2, cu3, zu0, zu1, zu2, zu3⟩ := HX11.out
        obtain ⟨lv, cv0, cv1, cv2, cv3, zv0, zv1, zv2, zv3⟩ := HY11.out
        go_wp2_with fail
        go_ret
        exact ⟨rfl, below_set4 HB11.out hs2 _ _ _ _⟩
    · have e2 : ((E2 : Int) != 0) = true := bne_iff_ne.2 (by omega)
      have eR : rz (Rg.resR ⟨gg, rg, kx, hh⟩ m1 kk) E2 = ⟨0, [], 0, 0⟩ := by unfold rz; rw [if_neg h2]; rfl
      rw [eR] at K9
      clear eR h2
      go_wp2_with fail
      with_reducible refine K9.mono ?_
      rintro e w10 ⟨a10, n10, q10, rfl, ho10, hb10⟩
      have HX11 := Lib.hid (HX8.out.on hb10)
      have HY11 := Lib.hid (HY8.out.on hb10)
      have HB11 := Lib.hid (HB8.out.trans (hb10.mono HB8.out.size))
      clear ho10 hb10 K9 lu cu0 cu1 cu2 cu3 zu0 zu1 zu2 zu3 lv cv0 cv1 cv2 cv3 zv0 zv1 zv2 zv3
      obtain ⟨lu, cu0, cu1, cu2, cu3, zu0, zu1, zu2, zu3⟩ := HX11.out
      obtain ⟨lv, cv0, cv1, cv2, cv3, zv0, zv1, zv2, zv3⟩ := HY11.out
      go_wp2_with fail
      go_ret
      exact ⟨rfl, below_set4 HB11.out hs2 _ _ _ _⟩
  · obtain rfl : E = 9 := by rw [HE.out, if_neg hk0]
    have eR : rz (Rg.regR ⟨gg, rg, kx, hh⟩ m1 (1 + (m2 : Int))) 9 = ⟨0, [], 0, 0⟩ := rfl
    rw [eR] at K5
    clear HE hk0 eR
    go_wp2_with fail
    with_reducible refine K5.mono ?_
    rintro e w5 ⟨a5, n5, q5, rfl, ho5, hb5⟩
    have HX6 := Lib.hid (HX5.out.on hb5)
    have HY6 := Lib.hid (HY5.out.on hb5)
    have HO6 := Lib.hid (own_keep HO5.out hb5)
    have HB6 := Lib.hid (HB5.out.trans (hb5.mono HB5.out.size))
    obtain ⟨V, hV⟩ : ∃ V, ((((w5.setCell ⟨w2.heap.size, 0, none⟩ (.int .i64 0)).setCell ⟨w2.heap.size, 1, none⟩ (.slice a5 n5 q5)).setCell ⟨w2.heap.size, 2, none⟩ (.int .i64 0)).setCell ⟨w2.heap.size, 3, none⟩ (.int .i64 0)) = V := ⟨_, rfl⟩
    have HXV : Hid (R4 V w1.heap.size (.int .i64 gg) (.slice a3 n3 q3) (.int .i64 kx) (.int .i64 hh)) := Lib.hid (by rw [← hV]; exact other4 HX6.out (by omega) _ _ _ _)
    have HYV : Hid (R4 V w2.heap.size (.int .i64 0) (.slice a5 n5 q5) (.int .i64 0) (.int .i64 0)) := Lib.hid (by rw [← hV]; exact HY6.out.set _ _ _ _)
    have HBV : Hid (Below w.heap.size w V) := Lib.hid (by rw [← hV]; exact below_set4 HB6.out hs2 _ _ _ _)
    have HOV : Hid (V.ownsRow (w2.heap.size + 1) 56 2 (.slice a3 n3 q3) n3 (tv rg)) := Lib.hid (by rw [← hV]; exact own_set4 HO6.out HN3.out _ _ _ _)
    clear lx cx0 cx1 cx2 cx3 zx0 zx1 zx2 zx3 ly cy0 cy1 cy2 cy3 zy0 zy1 zy2 zy3
    obtain ⟨lx, cx0, cx1, cx2, cx3, zx0, zx1, zx2, zx3⟩ := HX6.out
    obtain ⟨ly, cy0, cy1, cy2, cy3, zy0, zy1, zy2, zy3⟩ := HY6.out
    clear ho5 hb5 K5
    have K9 := Reserve_R gg kx hh m1 m3 kk a3 n3 q3 rg V HG.out (own_tsl HOV.out (Below.refl _ _)) (by omega) (by omega) HKK.out
    obtain ⟨E2, hE2⟩ : ∃ E2, Rg.resE ⟨gg, rg, kx, hh⟩ m1 m3 kk = E2 := ⟨_, rfl⟩
    rw [hE2] at K9
    have HE2 := Lib.hid hE2
    clear hE2
    obtain ⟨lu, cu0, cu1, cu2, cu3, zu0, zu1, zu2, zu3⟩ := HXV.out
    obtain ⟨lv, cv0, cv1, cv2, cv3, zv0, zv1, zv2, zv3⟩ := HYV.out
    by_cases h2 : E2 = 0
    · subst h2
      by_cases h0 : kx = 0
      · subst h0
        have hh0 : hh = 0 := HG.out.none (Or.inl rfl)
        subst hh0
        have hb := back_res (g := gg) (x := m1) (y := m3) (ts := rg) HG.out.inc HKK.out HE2.out
        have HGR := Lib.hid (HG.out.res HKK.out HE2.out)
        obtain ⟨hq, hhq⟩ : ∃ hq, (if Rg.all kk = true then (0 : Int) else (m1 : Int)) = hq := ⟨_, rfl⟩
        have eZ : Rg.resR ⟨gg, rg, 0, 0⟩ m1 kk = ⟨gg, rg, kk, hq⟩ := by rw [← hhq]; rfl
        rw [eZ] at hb HGR
        have eR : rz (Rg.resR ⟨gg, rg, 0, 0⟩ m1 kk) 0 = ⟨gg, rg, kk, hq⟩ := by unfold rz; rw [if_pos rfl, eZ]
        rw [eR] at K9
        have HRL := Lib.hid hb
        clear hb eZ eR hhq
        go_wp2_with fail
        with_reducible refine K9.mono ?_
        rintro e w10 ⟨a10, n10, q10, rfl, ho10, hb10⟩
        obtain rfl : n10 = n3 := by rw [← own_len ho10]; exact own_len HOV.out
        have HX11 := Lib.hid (HXV.out.on hb10)
        have HY11 := Lib.hid (HYV.out.on hb10)
        have HB11 := Lib.hid (HBV.out.trans (hb10.mono HBV.out.size))
        have HO11 := Lib.hid (own_keep HOV.out hb10)
        have hlt11 := HYV.out.lt
        have HNE11 : Hid (∀ k, (Value.slice a10 n10 q10).ownBlock = some k → w2.heap.size ≠ k) := Lib.hid fun j hj => by have := row_base ho10 j hj; omega
        obtain ⟨U, hU⟩ : ∃ U, ((((w10.setCell ⟨w2.heap.size, 0, none⟩ (.int .i64 gg)).setCell ⟨w2.heap.size, 1, none⟩ (.slice a10 n10 q10)).setCell ⟨w2.heap.size, 2, none⟩ (.int .i64 kk)).setCell ⟨w2.heap.size, 3, none⟩ (.int .i64 hq)) = U := ⟨_, rfl⟩
        have HXU : Hid (R4 U w1.heap.size (.int .i64 gg) (.slice a3 n10 q3) (.int .i64 0) (.int .i64 0)) := Lib.hid (by rw [← hU]; exact other4 HX11.out (by omega) _ _ _ _)
        have HYU : Hid (R4 U w2.heap.size (.int .i64 gg) (.slice a10 n10 q10) (.int .i64 kk) (.int .i64 hq)) := Lib.hid (by rw [← hU]; exact HY11.out.set _ _ _ _)
        have HBU : Hid (Below w.heap.size w U) := Lib.hid (by rw [← hU]; exact below_set4 HB11.out hs2 _ _ _ _)
        have HOU : Hid (U.ownsRow (w2.heap.size + 1) 56 2 (.slice a3 n10 q3) n10 (tv rg)) := Lib.hid (by rw [← hU]; exact own_set4 HO11.out HN3.out _ _ _ _)
        have HOZ : Hid (U.ownsRow V.heap.size 56 2 (.slice a10 n10 q10) n10 (tv rg)) := Lib.hid (by rw [← hU]; exact own_set4 ho10 HNE11.out _ _ _ _)
        have K12 := Release_R gg kk hq m1 m3 kk a10 n10 q10 rg U HGR.out (own_tsl HOZ.out (Below.refl _ _)) (by omega) (by omega) HKK.out
        have e1 : rz (Rg.relR ⟨gg, rg, kk, hq⟩ m1) 0 = ⟨gg, rg, 0, 0⟩ := by unfold rz; rw [if_pos rfl]; exact HRL.out.2
        rw [HRL.out.1, e1] at K12
        clear e1 ho10 hb10 K9 lu cu0 cu1 cu2 cu3 zu0 zu1 zu2 zu3 lv cv0 cv1 cv2 cv3 zv0 zv1 zv2 zv3
        obtain ⟨lu, cu0, cu1, cu2, cu3, zu0, zu1, zu2, zu3⟩ := HX11.out
        obtain ⟨lv, cv0, cv1, cv2, cv3, zv0, zv1, zv2, zv3⟩ := HY11.out
        obtain ⟨lU, cU0, cU1, cU2, cU3, zU0, zU1, zU2, zU3⟩ := HXU.out
        obtain ⟨lV, cV0, cV1, cV2, cV3, zV0, zV1, zV2, zV3⟩ := HYU.out
        go_wp2_with fail
        with_reducible refine K12.mono ?_
        rintro e w12 ⟨a12, n12, q12, rfl, ho12, hb12⟩
        obtain rfl : n12 = n10 := by rw [← own_len ho12]; exact own_len HOU.out
        have HX13 := Lib.hid (HXU.out.on hb12)
        have HB13 := Lib.hid (HBU.out.trans (hb12.mono HBU.out.size))
        have HO13 := Lib.hid (own_keep HOU.out hb12)
        have hs13 := HB13.out.size
        have HT13 := Lib.hid (own_tsl ho12 (Below.refl _ _))
        have HBA13 : Hid (∀ o, Below w.heap.size w (w12.alloc o)) := Lib.hid fun o => HB13.out.alloc hs13 o
        have S13 := fun o => Same_R gg 0 0 a12 a3 n12 q12 q3 rg (w12.alloc o) (HT13.out.keep ((Below.refl _ _).alloc (Nat.le_refl _) o)) ((own_tsl HO13.out (Below.refl _ _)).keep ((Below.refl _ _).alloc (Nat.le_refl _) o)) (by have h1 := own_len HO13.out; have h2 := HG.out.len; have h3 : rg.length ≤ 8 := h2; omega)
        clear hU ho12 hb12 K12 lu cu0 cu1 cu2 cu3 zu0 zu1 zu2 zu3 lv cv0 cv1 cv2 cv3 zv0 zv1 zv2 zv3 lU cU0 cU1 cU2 cU3 zU0 zU1 zU2 zU3 lV cV0 cV1 cV2 cV3 zV0 zV1 zV2 zV3
        obtain ⟨lu, cu0, cu1, cu2, cu3, zu0, zu1, zu2, zu3⟩ := HX13.out
        go_wp2_with fail
        with_reducible refine (S13 _).mono ?_
        rintro e w13 ⟨rfl, hb13⟩
        have HF := Lib.hid ((HBA13.out _).trans (hb13.mono (HBA13.out _).size))
        clear hb13
        go_wp2_with fail
        go_ret
        exact ⟨rfl, HF.out⟩
      · have e0 : (kx != 0) = true := bne_iff_ne.2 h0
        obtain ⟨⟨zg, zr, zk, zh⟩, hZ⟩ : ∃ Z, rz (Rg.resR ⟨gg, rg, kx, hh⟩ m1 kk) 0 = Z := ⟨_, rfl⟩
        rw [hZ] at K9
        clear hZ h0
        go_wp2_with fail
        with_reducible refine K9.mono ?_
        rintro e w10 ⟨a10, n10, q10, rfl, ho10, hb10⟩
        have HX11 := Lib.hid (HXV.out.on hb10)
        have HY11 := Lib.hid (HYV.out.on hb10)
        have HB11 := Lib.hid (HBV.out.trans (hb10.mono HBV.out.size))
        clear ho10 hb10 K9 lu cu0 cu1 cu2 cu3 zu0 zu1 zu2 zu3 lv cv0 cv1 cv2 cv3 zv0 zv1 zv2 zv3
        obtain ⟨lu, cu0, cu1, cu2, cu3, zu0, zu1, zu2, zu3⟩ := HX11.out
        obtain ⟨lv, cv0, cv1, cv2, cv3, zv0, zv1, zv2, zv3⟩ := HY11.out
        go_wp2_with fail
        go_ret
        exact ⟨rfl, below_set4 HB11.out hs2 _ _ _ _⟩
    · have e2 : ((E2 : Int) != 0) = true := bne_iff_ne.2 (by omega)
      have eR : rz (Rg.resR ⟨gg, rg, kx, hh⟩ m1 kk) E2 = ⟨0, [], 0, 0⟩ := by unfold rz; rw [if_neg h2]; rfl
      rw [eR] at K9
      clear eR h2
      go_wp2_with fail
      with_reducible refine K9.mono ?_
      rintro e w10 ⟨a10, n10, q10, rfl, ho10, hb10⟩
      have HX11 := Lib.hid (HXV.out.on hb10)
      have HY11 := Lib.hid (HYV.out.on hb10)
      have HB11 := Lib.hid (HBV.out.trans (hb10.mono HBV.out.size))
      clear ho10 hb10 K9 lu cu0 cu1 cu2 cu3 zu0 zu1 zu2 zu3 lv cv0 cv1 cv2 cv3 zv0 zv1 zv2 zv3
      obtain ⟨lu, cu0, cu1, cu2, cu3, zu0, zu1, zu2, zu3⟩ := HX11.out
      obtain ⟨lv, cv0, cv1, cv2, cv3, zv0, zv1, zv2, zv3⟩ := HY11.out
      go_wp2_with fail
      go_ret
      exact ⟨rfl, below_set4 HB11.out hs2 _ _ _ _⟩


theorem resvBack_walk (a0 : Option Addr) (len0 cap0 : Nat) (z0 : Nat → Nat → Int) (a1 a2 a3 a4 : Int) (w : World) (w0 : LArg w a0 len0 cap0 z0) (_ : (Lit.int .i64 a1).wf = true) (_ : (Lit.int .i64 a2).wf = true) (_ : (Lit.int .i64 a3).wf = true) (_ : (Lit.int .i64 a4).wf = true) :
    Calls Try.prog 9 #[.slice a0 len0 cap0, .int .i64 a1, .int .i64 a2, .int .i64 a3, .int .i64 a4] w fun e w' => e = .returned (.bool true) ∧ Below w.heap.size w w' :=
  back_core a0 len0 cap0 z0 a1 a2 a3 a4 w w0

end Go.Proofs.Ytoglkellaliegaa
