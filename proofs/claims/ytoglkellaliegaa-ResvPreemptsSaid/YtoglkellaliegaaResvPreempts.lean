/- ResvPreempts: preempting the holder transfers the reservation and removes its registration; for every input; what was there stands below. -/
import Derived.Test.YtoglkellaliegaaRgX
import Derived.Test.YtoglkellaliegaaArgsL
namespace Go.Proofs.Ytoglkellaliegaa
open Go.RowKit

theorem preempt_first (a : Option Addr) (c : Nat) (w : World) (hT : TSl w a 2 c [(1, 5), (2, 6)]) : Calls Try.prog 40 #[.agg #[.int .i64 2, .slice a 2 c, .int .i64 3, .int .i64 1], .int .i64 2, .int .i64 6, .int .i64 5, .int .i64 1] w fun e w' =>
    ∃ a c, e = .returned (.tuple #[.agg #[.int .i64 3, .slice a 1 c, .int .i64 1, .int .i64 2], .int .i64 0]) ∧ Below w.heap.size w w' := by
  refine (Preempt_R 2 3 1 2 6 5 1 a 2 c [(1, 5), (2, 6)] w (good_reserved 3 1 (by decide) (by decide)) hT (by omega) (by omega) (by omega) (by omega) (by omega) (by decide)).mono ?_
  have e1 : rz (Rg.preR ⟨2, [(1, 5), (2, 6)], 3, 1⟩ 2 5 1) (Rg.preE ⟨2, [(1, 5), (2, 6)], 3, 1⟩ 2 6 5) = ⟨3, [(2, 6)], 1, 2⟩ := by kernel_rfl
  have e2 : Rg.preE ⟨2, [(1, 5), (2, 6)], 3, 1⟩ 2 6 5 = 0 := by kernel_rfl
  rw [e1, e2]
  rintro e w' ⟨a, n, c, rfl, ho, hb⟩
  obtain rfl : n = 1 := (own_len ho).symm
  exact ⟨a, c, rfl, hb⟩

/-- What stands behind a Preempt. -/
theorem pre_facts {r z : Rg.RV} {x q o kk : Int} (hG : Rg.Good r) (hg : r.gen < 1000) (hk : Rg.kindB kk = true) (h0 : Rg.preE r x q o = 0) (hz : Rg.preR r x o kk = z) :
    Rg.Good z ∧ z.gen = r.gen + 1 ∧ Rg.key z.regs x = q ∧ (∀ t, t ∈ r.regs → t.2 = o → t.1 ≠ x → Rg.key z.regs t.1 = 0) ∧
      ((r.regs.any fun t => (t.2 == o) && (!Rg.all r.kind && Rg.hasR r.regs r.kind r.holder t.1)) = true → z.kind = kk ∧ Rg.hasR z.regs z.kind z.holder x = true) := by
  have hm := (Rg.kd_iff hG.inc).1 (Rg.pre_kd h0)
  obtain ⟨i1, i2, i3⟩ := Rg.ploop_inv hG hg o hm r.regs
  have hGz := hG.pre hg hk h0
  rw [hz] at hGz
  have hregs : z.regs = (Rg.ploop r x o r.regs).1.regs := by rw [← hz, Rg.pre_regs]
  refine ⟨hGz, by rw [← hz, Rg.pre_gen0, i2], by rw [hregs]; exact Rg.key_of i1.inc i3, fun t ht h1 h2 => ?_, fun ht => ?_⟩
  · rw [hregs]
    exact Rg.key_none (Rg.fold_gone r x o r.regs _ t ht h1 h2)
  · have htk := Rg.ploop_took r x o r.regs
    rw [ht] at htk
    have hz2 : z = ⟨(Rg.ploop r x o r.regs).1.gen, (Rg.ploop r x o r.regs).1.regs, kk, if Rg.all kk = true then 0 else x⟩ := by rw [← hz]; unfold Rg.preR; rw [if_pos htk]
    rw [hz2]
    refine ⟨rfl, ?_⟩
    show Rg.hasR (Rg.ploop r x o r.regs).1.regs kk (if Rg.all kk = true then 0 else x) x = true
    unfold Rg.hasR
    rw [if_neg (Rg.kindB_ne hk)]
    cases ha : Rg.all kk with
    | true => rw [if_pos rfl]; exact Rg.has_iff.2 ⟨_, i3⟩
    | false => rw [if_neg (by decide), if_neg (by decide)]; simp

set_option maxRecDepth 100000 in
set_option maxHeartbeats 32000000 in
theorem preempts_core (L : Option Addr) (nl cl : Nat) (F : Nat → Nat → Int) (p1 p2 p3 p4 : Int) (w : World) (hL : LArg w L nl cl F) :
    Calls Try.prog 10 #[.slice L nl cl, .int .i64 p1, .int .i64 p2, .int .i64 p3, .int .i64 p4] w fun e w' => e = .returned (.bool true) ∧ Below w.heap.size w w' := by
  obtain ⟨N, hN⟩ : ∃ N, min nl 60 = N := ⟨_, rfl⟩
  have HT4 : Hid (∀ w', Below w.heap.size w w' → Calls Try.prog 35 #[.slice L nl cl] w' fun e w'' => ∃ a n c, e = .returned (.agg #[.int .i64 (tS F N).gen, .slice a n c, .int .i64 (tS F N).kind, .int .i64 (tS F N).holder]) ∧
      w''.ownsRow w'.heap.size 56 2 (.slice a n c) n (tv (tS F N).regs) ∧ Below w'.heap.size w' w'') := Lib.hid fun w' hb => turned_R L nl cl N F w' (hL.keep hb) hN
  have HG := tS_good F N (by omega)
  have hN60 : N ≤ 60 := by omega
  have K1 := registered_R w
  have w1' := within_is (k := p1) (n := 8) (N := 8) rfl (by omega) (by omega) rfl
  have w2' := within_is (k := p2) (n := 4) (N := 4) rfl (by omega) (by omega) rfl
  have w3' := within_is (k := p3) (n := 4) (N := 4) rfl (by omega) (by omega) rfl
  have KK := fun w => kinds_R p4 w
  have hkk := Rg.kinds_ok p4
  have hq1 := wi_lt p1 8 (by omega)
  have hq3 := wi_lt p3 4 (by omega)
  clear hL hN
  generalize wi p1 8 = m1 at *
  generalize wi p2 4 = m2 at *
  generalize wi p3 4 = m3 at *
  generalize Rg.kinds p4 = kk at *
  generalize tS F N = Z at *
  obtain ⟨gg, rg, kx, hh⟩ := Z
  obtain ⟨HG, hgg⟩ := HG
  have hgg' : gg ≤ (N : Int) := hgg
  have hg0 : 0 ≤ gg := HG.gen0
  have HG := Lib.hid HG
  have HKK := Lib.hid hkk
  clear hkk
  go_enter Try.func10, Try.ntmps10
  go_wp2_with fail
  with_reducible refine K1.mono ?_
  rintro e w1 ⟨a1, q1, rfl, ho1, hb1⟩
  have HB1 := Lib.hid hb1
  have K2 := reserve_first 3 1 (by decide) (by decide) a1 q1 w1 (own_tsl ho1 (Below.refl _ _))
  clear ho1 hb1 K1
  go_wp2_with fail
  with_reducible refine K2.mono ?_
  rintro e w2 ⟨a2, q2, rfl, ho2, hb2⟩
  have HB2 := Lib.hid (HB1.out.trans (hb2.mono HB1.out.size))
  have hs2 := HB2.out.size
  have HBA : Hid (∀ o, Below w.heap.size w (w2.alloc o)) := Lib.hid fun o => HB2.out.alloc hs2 o
  have HX2 : Hid (∀ T, R4 (w2.alloc (.cells #[.int .i64 2, .slice a2 2 q2, .int .i64 3, .int .i64 1] T)) w2.heap.size (.int .i64 2) (.slice a2 2 q2) (.int .i64 3) (.int .i64 1)) := Lib.hid fun T => r4_new w2 T _ _ _ _
  have K3 := fun o => preempt_first a2 q2 (w2.alloc o) (own_tsl ho2 ((Below.refl _ _).alloc (Nat.le_refl _) o))
  clear ho2 hb2 K2
  go_wp2_with fail
  with_reducible refine (K3 _).mono ?_
  rintro e w3 ⟨a3, q3, rfl, hb3⟩
  have HX3 := Lib.hid ((HX2.out 49).on hb3)
  have HB3 := Lib.hid ((HBA.out _).trans (hb3.mono (HBA.out _).size))
  have hs3 := HB3.out.size
  have hl23 : w2.heap.size < w3.heap.size := HX3.out.lt
  have HX4 := fun T => Lib.hid (HX3.out.alloc (.cells #[.int .i64 3, .slice a3 1 q3, .int .i64 1, .int .i64 2] T))
  have HY4 : ∀ T, Hid (R4 (w3.alloc (.cells #[.int .i64 3, .slice a3 1 q3, .int .i64 1, .int .i64 2] T)) w3.heap.size (.int .i64 3) (.slice a3 1 q3) (.int .i64 1) (.int .i64 2)) := fun T => Lib.hid (r4_new w3 T _ _ _ _)
  have HB4 : Hid (∀ o, Below w.heap.size w (w3.alloc o)) := Lib.hid fun o => HB3.out.alloc hs3 o
  have K4 := fun o => HT4.out (w3.alloc o) (HB4.out o)
  clear hb3 K3 HT4
  go_wp2_with fail
  with_reducible refine (K4 _).mono ?_
  rintro e w4 ⟨a4, n4, q4, rfl, ho4, hb4⟩
  have HX5 := Lib.hid ((HX4 49).out.on hb4)
  have HY5 := Lib.hid ((HY4 49).out.on hb4)
  have HB5 := Lib.hid ((HB4.out _).trans (hb4.mono (HB4.out _).size))
  have HNE : Hid (∀ k, (Value.slice a4 n4 q4).ownBlock = some k → w2.heap.size ≠ k ∧ w3.heap.size ≠ k) := Lib.hid fun j hj => by have := row_base ho4 j hj; rw [World.size_alloc] at this; omega
  obtain ⟨W, hW⟩ : ∃ W, ((((w4.setCell ⟨w2.heap.size, 0, none⟩ (.int .i64 gg)).setCell ⟨w2.heap.size, 1, none⟩ (.slice a4 n4 q4)).setCell ⟨w2.heap.size, 2, none⟩ (.int .i64 kx)).setCell ⟨w2.heap.size, 3, none⟩ (.int .i64 hh)) = W := ⟨_, rfl⟩
  have HXW : Hid (R4 W w2.heap.size (.int .i64 gg) (.slice a4 n4 q4) (.int .i64 kx) (.int .i64 hh)) := Lib.hid (by rw [← hW]; exact HX5.out.set _ _ _ _)
  have HYW : Hid (R4 W w3.heap.size (.int .i64 3) (.slice a3 1 q3) (.int .i64 1) (.int .i64 2)) := Lib.hid (by rw [← hW]; exact other4 HY5.out (by omega) _ _ _ _)
  have HBW : Hid (Below w.heap.size w W) := Lib.hid (by rw [← hW]; exact below_set4 HB5.out hs2 _ _ _ _)
  have HOW : Hid (W.ownsRow (w3.heap.size + 1) 56 2 (.slice a4 n4 q4) n4 (tv rg)) := Lib.hid (by rw [← hW]; rw [World.size_alloc] at ho4; exact own_set4 ho4 (fun j hj => (HNE.out j hj).1) _ _ _ _)
  clear hb4 K4 ho4
  obtain ⟨lx, cx0, cx1, cx2, cx3, zx0, zx1, zx2, zx3⟩ := HX5.out
  obtain ⟨ly, cy0, cy1, cy2, cy3, zy0, zy1, zy2, zy3⟩ := HY5.out
  obtain ⟨lX, cX0, cX1, cX2, cX3, zX0, zX1, zX2, zX3⟩ := HXW.out
  go_wp2_with fail
  with_reducible refine w1'.use ?_
  rintro e w' ⟨rfl, rfl⟩
  go_wp2_with fail
  with_reducible refine w2'.use ?_
  rintro e w' ⟨rfl, rfl⟩
  go_wp2_with fail
  with_reducible refine w3'.use ?_
  rintro e w' ⟨rfl, rfl⟩
  go_wp2_with fail
  with_reducible refine (KK _).mono ?_
  rintro e w5 ⟨rfl, hb5⟩
  have HX6 := Lib.hid (HXW.out.on hb5)
  have HY6 := Lib.hid (HYW.out.on hb5)
  have HO6 := Lib.hid (own_keep HOW.out hb5)
  have HB6 := Lib.hid (HBW.out.trans (hb5.mono HBW.out.size))
  clear lx cx0 cx1 cx2 cx3 zx0 zx1 zx2 zx3 ly cy0 cy1 cy2 cy3 zy0 zy1 zy2 zy3 lX cX0 cX1 cX2 cX3 zX0 zX1 zX2 zX3 hb5 hW KK w1' w2' w3'
  have K6 := Preempt_R gg kx hh m1 m2 m3 kk a4 n4 q4 rg w5 HG.out (own_tsl HO6.out (Below.refl _ _)) (by omega) (by omega) (by omega) (by omega) (by omega) HKK.out
  obtain ⟨E, hE⟩ : ∃ E, Rg.preE ⟨gg, rg, kx, hh⟩ m1 m2 m3 = E := ⟨_, rfl⟩
  rw [hE] at K6
  have HE := Lib.hid hE
  clear hE
  obtain ⟨lx, cx0, cx1, cx2, cx3, zx0, zx1, zx2, zx3⟩ := HX6.out
  obtain ⟨ly, cy0, cy1, cy2, cy3, zy0, zy1, zy2, zy3⟩ := HY6.out
  by_cases h0 : E = 0
  · subst h0
    obtain ⟨⟨zg, zr, zk, zh⟩, hZ⟩ : ∃ Z, Rg.preR ⟨gg, rg, kx, hh⟩ m1 m3 kk = Z := ⟨_, rfl⟩
    have eR : rz (Rg.preR ⟨gg, rg, kx, hh⟩ m1 m3 kk) 0 = ⟨zg, zr, zk, zh⟩ := by unfold rz; rw [if_pos rfl]; exact hZ
    rw [eR] at K6
    have HPF := Lib.hid (pre_facts HG.out (show gg < 1000 by omega) HKK.out HE.out hZ)
    clear hZ eR
    have hzg : zg = gg + 1 := HPF.out.2.1
    subst hzg
    go_wp2_with fail
    with_reducible refine K6.mono ?_
    rintro e w6 ⟨a6, n6, q6, rfl, ho6, hb6⟩
    have HX7 := Lib.hid (HX6.out.on hb6)
    have HY7 := Lib.hid (HY6.out.on hb6)
    have HO7 := Lib.hid (own_keep HO6.out hb6)
    have HB7 := Lib.hid (HB6.out.trans (hb6.mono HB6.out.size))
    have hlt7 := HY6.out.lt
    have HNE6 : Hid (∀ k, (Value.slice a6 n6 q6).ownBlock = some k → w3.heap.size ≠ k) := Lib.hid fun j hj => by have := row_base ho6 j hj; omega
    obtain ⟨V, hV⟩ : ∃ V, ((((w6.setCell ⟨w3.heap.size, 0, none⟩ (.int .i64 (gg + 1))).setCell ⟨w3.heap.size, 1, none⟩ (.slice a6 n6 q6)).setCell ⟨w3.heap.size, 2, none⟩ (.int .i64 zk)).setCell ⟨w3.heap.size, 3, none⟩ (.int .i64 zh)) = V := ⟨_, rfl⟩
    have HXV : Hid (R4 V w2.heap.size (.int .i64 gg) (.slice a4 n4 q4) (.int .i64 kx) (.int .i64 hh)) := Lib.hid (by rw [← hV]; exact other4 HX7.out (by omega) _ _ _ _)
    have HYV : Hid (R4 V w3.heap.size (.int .i64 (gg + 1)) (.slice a6 n6 q6) (.int .i64 zk) (.int .i64 zh)) := Lib.hid (by rw [← hV]; exact HY7.out.set _ _ _ _)
    have HBV : Hid (Below w.heap.size w V) := Lib.hid (by rw [← hV]; exact below_set4 HB7.out hs3 _ _ _ _)
    have HTV : Hid (∀ U, Below V.heap.size V U → TSl U a4 n4 q4 rg) := Lib.hid fun U hb => own_tsl (by rw [← hV] at hb ⊢; exact own_set4 HO7.out (fun j hj => (HNE.out j hj).2) _ _ _ _) hb
    have HTZ : Hid (∀ U, Below V.heap.size V U → TSl U a6 n6 q6 zr) := Lib.hid fun U hb => own_tsl (by rw [← hV] at hb ⊢; exact own_set4 ho6 HNE6.out _ _ _ _) hb
    have hn4 : n4 ≤ 8 := by have h1 := own_len HO7.out; have h2 := HG.out.len; have h3 : rg.length ≤ 8 := h2; omega
    have hn6 : n6 ≤ 8 := by have h1 := own_len ho6; have h2 := HPF.out.1.len; have h3 : zr.length ≤ 8 := h2; omega
    have HL4 := Lib.hid (own_len HO7.out)
    clear lx cx0 cx1 cx2 cx3 zx0 zx1 zx2 zx3 ly cy0 cy1 cy2 cy3 zy0 zy1 zy2 zy3 ho6 hb6 K6
    obtain ⟨lx, cx0, cx1, cx2, cx3, zx0, zx1, zx2, zx3⟩ := HX7.out
    obtain ⟨ly, cy0, cy1, cy2, cy3, zy0, zy1, zy2, zy3⟩ := HY7.out
    obtain ⟨lX, cX0, cX1, cX2, cX3, zX0, zX1, zX2, zX3⟩ := HXV.out
    obtain ⟨lY, cY0, cY1, cY2, cY3, zY0, zY1, zY2, zY3⟩ := HYV.out
    go_wp2_with fail
    go_loopw [15, 77] (fun v15 v77 wr => ∃ (j : Nat) (tk : Bool), j ≤ n4 ∧ v77 = .int .i64 j ∧ v15 = .bool tk ∧ Hid (tk = (rg.take j).any fun t => (t.2 == (m3 : Int)) && (!Rg.all kx && Rg.hasR rg kx hh t.1)) ∧
        Hid (R4 wr w2.heap.size (.int .i64 gg) (.slice a4 n4 q4) (.int .i64 kx) (.int .i64 hh)) ∧ Hid (R4 wr w3.heap.size (.int .i64 (gg + 1)) (.slice a6 n6 q6) (.int .i64 zk) (.int .i64 zh)) ∧ Hid (Below V.heap.size V wr)) (fun _ v77 _ => n4 - (intOf v77).toNat)
    case atStart => exact ⟨0, false, Nat.zero_le _, rfl, rfl, Lib.hid rfl, HXV, HYV, Lib.hid (Below.refl _ _)⟩
    case round =>
      clear lx cx0 cx1 cx2 cx3 zx0 zx1 zx2 zx3 ly cy0 cy1 cy2 cy3 zy0 zy1 zy2 zy3 lX cX0 cX1 cX2 cX3 zX0 zX1 zX2 zX3 lY cY0 cY1 cY2 cY3 zY0 zY1 zY2 zY3 hV
      obtain ⟨j, tk, hj, rfl, rfl, HTK, HXr, HYr, HBr⟩ := hrel
      obtain ⟨lx, cx0, cx1, cx2, cx3, zx0, zx1, zx2, zx3⟩ := HXr.out
      obtain ⟨ly, cy0, cy1, cy2, cy3, zy0, zy1, zy2, zy3⟩ := HYr.out
      by_cases hlt : j < n4
      · have hk' : j < rg.length := by rw [HL4.out]; exact hlt
        have hne : rg ≠ [] := by rintro rfl; simp at hk'
        obtain ⟨b, u, rfl, hb, hc⟩ := (HTV.out wr HBr.out).at_ hne
        obtain ⟨e1, e2⟩ := hc j rg[j] (List.getElem?_eq_getElem hk')
        have HSN : Hid (((rg.take (j + 1)).any fun t => (t.2 == (m3 : Int)) && (!Rg.all kx && Rg.hasR rg kx hh t.1)) = (((rg.take j).any fun t => (t.2 == (m3 : Int)) && (!Rg.all kx && Rg.hasR rg kx hh t.1)) || ((rg[j].2 == (m3 : Int)) && (!Rg.all kx && Rg.hasR rg kx hh rg[j].1)))) := Lib.hid (by rw [List.take_succ_eq_append_getElem hk', List.any_append]; simp)
        have HGONE0 : Hid (rg[j].2 = (m3 : Int) → rg[j].1 ≠ (m1 : Int) → Rg.key zr rg[j].1 = 0) := Lib.hid fun h1 h2 => HPF.out.2.2.2.1 _ (List.getElem_mem hk') h1 h2
        clear hc hne
        have HPB : Hid (∀ T, (wr.alloc (.cells #[.int .i64 rg[j].1, .int .i64 rg[j].2] T)).cell? ⟨wr.heap.size, 0, none⟩ = some (.int .i64 rg[j].1) ∧ (wr.alloc (.cells #[.int .i64 rg[j].1, .int .i64 rg[j].2] T)).cell? ⟨wr.heap.size, 1, none⟩ = some (.int .i64 rg[j].2)) := Lib.hid fun T => cells_two wr T _ _
        generalize rg[j].1 = p at *
        generalize rg[j].2 = z at *
        have hsr := HBr.out.size
        by_cases hz : z = (m3 : Int)
        · subst hz
          obtain ⟨g1, g2⟩ := HPB.out 56
          have HGONE : Hid (p ≠ (m1 : Int) → Rg.key zr p = 0) := Lib.hid (HGONE0.out rfl)
          have HXA := Lib.hid (HXr.out.alloc (.cells #[.int .i64 p, .int .i64 (m3 : Int)] 56))
          have HYA := Lib.hid (HYr.out.alloc (.cells #[.int .i64 p, .int .i64 (m3 : Int)] 56))
          have HBA2 := Lib.hid (HBr.out.alloc hsr (.cells #[.int .i64 p, .int .i64 (m3 : Int)] 56))
          clear lx cx0 cx1 cx2 cx3 zx0 zx1 zx2 zx3 ly cy0 cy1 cy2 cy3 zy0 zy1 zy2 zy3
          obtain ⟨lx, cx0, cx1, cx2, cx3, zx0, zx1, zx2, zx3⟩ := HXA.out
          obtain ⟨ly, cy0, cy1, cy2, cy3, zy0, zy1, zy2, zy3⟩ := HYA.out
          cases tk with
          | true =>
            have HN : Hid (true = (rg.take (j + 1)).any fun t => (t.2 == (m3 : Int)) && (!Rg.all kx && Rg.hasR rg kx hh t.1)) := Lib.hid (by rw [HSN.out, ← HTK.out]; simp)
            by_cases hp : p = (m1 : Int)
            · have ep : (p != (m1 : Int)) = false := by rw [hp]; simp
              clear hp
              go_wp2_with fail
              go_roundw
              case rel => exact ⟨j + 1, true, hlt, by go_num, rfl, HN, HXA, HYA, HBA2⟩
              case measure => simp [intOf]; omega
            · have ep : (p != (m1 : Int)) = true := bne_iff_ne.2 hp
              have hk0 : Rg.key zr p = 0 := HGONE.out hp
              have KY : Hid (∀ U, Below V.heap.size V U → Calls Try.prog 42 #[.agg #[.int .i64 (gg + 1), .slice a6 n6 q6, .int .i64 zk, .int .i64 zh], .int .i64 p] U fun e w' => e = .returned (.int .i64 0) ∧ Below U.heap.size U w') := Lib.hid fun U hb => by
                have h := Key_R (gg + 1) zk zh p a6 n6 q6 zr U (HTZ.out U hb) (by omega)
                rw [hk0] at h
                exact h
              have K9 := KY.out _ HBA2.out
              clear hp hk0
              go_wp2_with fail
              with_reducible refine K9.mono ?_
              rintro e w9 ⟨rfl, hb9⟩
              have HX9 := Lib.hid (HXA.out.on hb9)
              have HY9 := Lib.hid (HYA.out.on hb9)
              have HB9 := Lib.hid (HBA2.out.trans (hb9.mono HBA2.out.size))
              clear hb9 K9
              go_wp2_with fail
              go_roundw
              case rel => exact ⟨j + 1, true, hlt, by go_num, rfl, HN, HX9, HY9, HB9⟩
              case measure => simp [intOf]; omega
          | false =>
            have KH := fun v hv => RHas_R gg kx hh p (some ⟨b, u, none⟩) n4 q4 rg v (wr.alloc (.cells #[.int .i64 p, .int .i64 (m3 : Int)] 56)) HG.out (HTV.out _ HBA2.out) hv
            obtain ⟨bh, hbh⟩ : ∃ bh, Rg.hasR rg kx hh p = bh := ⟨_, rfl⟩
            have H1 := KH bh hbh
            have HBH := Lib.hid hbh
            clear hbh KH
            go_wp2_with fail
            with_reducible refine H1.mono ?_
            rintro e w7 ⟨rfl, hb7⟩
            have HX7' := Lib.hid (HXA.out.on hb7)
            have HY7' := Lib.hid (HYA.out.on hb7)
            have HB7' := Lib.hid (HBA2.out.trans (hb7.mono HBA2.out.size))
            have G1 : w7.cell? ⟨wr.heap.size, 0, none⟩ = some (.int .i64 p) := by rw [hb7.cell (p := ⟨wr.heap.size, 0, none⟩) (by show wr.heap.size < _; rw [World.size_alloc]; omega)]; exact g1
            clear g1 g2 lx cx0 cx1 cx2 cx3 zx0 zx1 zx2 zx3 ly cy0 cy1 cy2 cy3 zy0 zy1 zy2 zy3 hb7 H1 HXA HYA HBA2
            obtain ⟨lx, cx0, cx1, cx2, cx3, zx0, zx1, zx2, zx3⟩ := HX7'.out
            obtain ⟨ly, cy0, cy1, cy2, cy3, zy0, zy1, zy2, zy3⟩ := HY7'.out
            cases bh with
            | false =>
              have HN : Hid (false = (rg.take (j + 1)).any fun t => (t.2 == (m3 : Int)) && (!Rg.all kx && Rg.hasR rg kx hh t.1)) := Lib.hid (by rw [HSN.out, ← HTK.out]; rw [HBH.out]; simp)
              by_cases hp : p = (m1 : Int)
              · have ep : (p != (m1 : Int)) = false := by rw [hp]; simp
                clear hp
                go_wp2_with fail
                go_roundw
                case rel => exact ⟨j + 1, false, hlt, by go_num, rfl, HN, HX7', HY7', HB7'⟩
                case measure => simp [intOf]; omega
              · have ep : (p != (m1 : Int)) = true := bne_iff_ne.2 hp
                have hk0 : Rg.key zr p = 0 := HGONE.out hp
                have KY : Hid (∀ U, Below V.heap.size V U → Calls Try.prog 42 #[.agg #[.int .i64 (gg + 1), .slice a6 n6 q6, .int .i64 zk, .int .i64 zh], .int .i64 p] U fun e w' => e = .returned (.int .i64 0) ∧ Below U.heap.size U w') := Lib.hid fun U hb => by
                  have h := Key_R (gg + 1) zk zh p a6 n6 q6 zr U (HTZ.out U hb) (by omega)
                  rw [hk0] at h
                  exact h
                have K9 := KY.out _ HB7'.out
                clear hp hk0
                go_wp2_with fail
                with_reducible refine K9.mono ?_
                rintro e w9 ⟨rfl, hb9⟩
                have HX9 := Lib.hid (HX7'.out.on hb9)
                have HY9 := Lib.hid (HY7'.out.on hb9)
                have HB9 := Lib.hid (HB7'.out.trans (hb9.mono HB7'.out.size))
                clear hb9 K9
                go_wp2_with fail
                go_roundw
                case rel => exact ⟨j + 1, false, hlt, by go_num, rfl, HN, HX9, HY9, HB9⟩
                case measure => simp [intOf]; omega
            | true =>
              cases ha : Rg.all kx with
              | true =>
                have SH := fun w => Shared_R kx true ha w
                have HA := Lib.hid ha
                clear ha
                have HN : Hid (false = (rg.take (j + 1)).any fun t => (t.2 == (m3 : Int)) && (!Rg.all kx && Rg.hasR rg kx hh t.1)) := Lib.hid (by rw [HSN.out, ← HTK.out]; rw [HBH.out, HA.out]; simp)
                by_cases hp : p = (m1 : Int)
                · have ep : (p != (m1 : Int)) = false := by rw [hp]; simp
                  clear hp
                  go_wp2_with fail
                  with_reducible refine (SH _).mono ?_
                  rintro e w8 ⟨rfl, rfl⟩
                  go_wp2_with fail
                  go_roundw
                  case rel => exact ⟨j + 1, false, hlt, by go_num, rfl, HN, HX7', HY7', HB7'⟩
                  case measure => simp [intOf]; omega
                · have ep : (p != (m1 : Int)) = true := bne_iff_ne.2 hp
                  have hk0 : Rg.key zr p = 0 := HGONE.out hp
                  have KY : Hid (∀ U, Below V.heap.size V U → Calls Try.prog 42 #[.agg #[.int .i64 (gg + 1), .slice a6 n6 q6, .int .i64 zk, .int .i64 zh], .int .i64 p] U fun e w' => e = .returned (.int .i64 0) ∧ Below U.heap.size U w') := Lib.hid fun U hb => by
                    have h := Key_R (gg + 1) zk zh p a6 n6 q6 zr U (HTZ.out U hb) (by omega)
                    rw [hk0] at h
                    exact h
                  have K9 := KY.out _ HB7'.out
                  clear hp hk0
                  go_wp2_with fail
                  with_reducible refine (SH _).mono ?_
                  rintro e w8 ⟨rfl, rfl⟩
                  go_wp2_with fail
                  with_reducible refine K9.mono ?_
                  rintro e w9 ⟨rfl, hb9⟩
                  have HX9 := Lib.hid (HX7'.out.on hb9)
                  have HY9 := Lib.hid (HY7'.out.on hb9)
                  have HB9 := Lib.hid (HB7'.out.trans (hb9.mono HB7'.out.size))
                  clear hb9 K9
                  go_wp2_with fail
                  go_roundw
                  case rel => exact ⟨j + 1, false, hlt, by go_num, rfl, HN, HX9, HY9, HB9⟩
                  case measure => simp [intOf]; omega
              | false =>
                have SH := fun w => Shared_R kx false ha w
                have HA := Lib.hid ha
                clear ha
                have HN : Hid (true = (rg.take (j + 1)).any fun t => (t.2 == (m3 : Int)) && (!Rg.all kx && Rg.hasR rg kx hh t.1)) := Lib.hid (by rw [HSN.out, ← HTK.out]; rw [HBH.out, HA.out]; simp)
                by_cases hp : p = (m1 : Int)
                · have ep : (p != (m1 : Int)) = false := by rw [hp]; simp
                  clear hp
                  go_wp2_with fail
                  with_reducible refine (SH _).mono ?_
                  rintro e w8 ⟨rfl, rfl⟩
                  go_wp2_with fail
                  go_roundw
                  case rel => exact ⟨j + 1, true, hlt, by go_num, rfl, HN, HX7', HY7', HB7'⟩
                  case measure => simp [intOf]; omega
                · have ep : (p != (m1 : Int)) = true := bne_iff_ne.2 hp
                  have hk0 : Rg.key zr p = 0 := HGONE.out hp
                  have KY : Hid (∀ U, Below V.heap.size V U → Calls Try.prog 42 #[.agg #[.int .i64 (gg + 1), .slice a6 n6 q6, .int .i64 zk, .int .i64 zh], .int .i64 p] U fun e w' => e = .returned (.int .i64 0) ∧ Below U.heap.size U w') := Lib.hid fun U hb => by
                    have h := Key_R (gg + 1) zk zh p a6 n6 q6 zr U (HTZ.out U hb) (by omega)
                    rw [hk0] at h
                    exact h
                  have K9 := KY.out _ HB7'.out
                  clear hp hk0
                  go_wp2_with fail
                  with_reducible refine (SH _).mono ?_
                  rintro e w8 ⟨rfl, rfl⟩
                  go_wp2_with fail
                  with_reducible refine K9.mono ?_
                  rintro e w9 ⟨rfl, hb9⟩
                  have HX9 := Lib.hid (HX7'.out.on hb9)
                  have HY9 := Lib.hid (HY7'.out.on hb9)
                  have HB9 := Lib.hid (HB7'.out.trans (hb9.mono HB7'.out.size))
                  clear hb9 K9
                  go_wp2_with fail
                  go_roundw
                  case rel => exact ⟨j + 1, true, hlt, by go_num, rfl, HN, HX9, HY9, HB9⟩
                  case measure => simp [intOf]; omega
        · have ez : (z != (m3 : Int)) = true := bne_iff_ne.2 hz
          have ez2 : (z == (m3 : Int)) = false := beq_eq_false_iff_ne.2 hz
          have HN : Hid (tk = (rg.take (j + 1)).any fun t => (t.2 == (m3 : Int)) && (!Rg.all kx && Rg.hasR rg kx hh t.1)) := Lib.hid (by rw [HSN.out, ← HTK.out, ez2]; simp)
          clear hz ez2
          go_wp2_with fail
          go_roundw
          case rel => exact ⟨j + 1, tk, hlt, by go_num, rfl, HN, Lib.hid (HXr.out.alloc _), Lib.hid (HYr.out.alloc _), Lib.hid (HBr.out.alloc hsr _)⟩
          case measure => simp [intOf]; omega
      · obtain rfl : j = n4 := by omega
        have HFIN : Hid (tk = rg.any fun t => (t.2 == (m3 : Int)) && (!Rg.all kx && Rg.hasR rg kx hh t.1)) := Lib.hid (by rw [HTK.out, List.take_of_length_le (by rw [HL4.out]; exact Nat.le_refl _)])
        have hrc := HBr.out.size
        have KY : Hid (∀ U, Below V.heap.size V U → Calls Try.prog 42 #[.agg #[.int .i64 (gg + 1), .slice a6 n6 q6, .int .i64 zk, .int .i64 zh], .int .i64 m1] U fun e w' => e = .returned (.int .i64 m2) ∧ Below U.heap.size U w') := Lib.hid fun U hb => by
          have h := Key_R (gg + 1) zk zh m1 a6 n6 q6 zr U (HTZ.out U hb) (by omega)
          have h2 : Rg.key zr m1 = (m2 : Int) := HPF.out.2.2.1
          rw [h2] at h
          exact h
        have K9 := KY.out _ HBr.out
        have CK : Hid (∀ U, Below V.heap.size V U → Calls Try.prog 43 #[.agg #[.int .i64 (gg + 1), .slice a6 n6 q6, .int .i64 zk, .int .i64 zh]] U fun e w' => e = .returned (.int .i64 0) ∧ Below U.heap.size U w') := Lib.hid fun U hb => Check_R (gg + 1) zk zh a6 n6 q6 zr U HPF.out.1 (HTZ.out U hb)
        go_wp2_with fail
        with_reducible refine K9.mono ?_
        rintro e w8 ⟨rfl, hb8⟩
        have HX8 := Lib.hid (HXr.out.on hb8)
        have HY8 := Lib.hid (HYr.out.on hb8)
        have HB8 := Lib.hid (HBr.out.trans (hb8.mono HBr.out.size))
        have K10 := CK.out _ HB8.out
        clear lx cx0 cx1 cx2 cx3 zx0 zx1 zx2 zx3 ly cy0 cy1 cy2 cy3 zy0 zy1 zy2 zy3 hb8 K9
        obtain ⟨lx, cx0, cx1, cx2, cx3, zx0, zx1, zx2, zx3⟩ := HX8.out
        obtain ⟨ly, cy0, cy1, cy2, cy3, zy0, zy1, zy2, zy3⟩ := HY8.out
        go_wp2_with fail
        with_reducible refine K10.mono ?_
        rintro e w9 ⟨rfl, hb9⟩
        have HX9 := Lib.hid (HX8.out.on hb9)
        have HY9 := Lib.hid (HY8.out.on hb9)
        have HB9 := Lib.hid (HB8.out.trans (hb9.mono HB8.out.size))
        clear lx cx0 cx1 cx2 cx3 zx0 zx1 zx2 zx3 ly cy0 cy1 cy2 cy3 zy0 zy1 zy2 zy3 hb9 K10
        obtain ⟨lx, cx0, cx1, cx2, cx3, zx0, zx1, zx2, zx3⟩ := HX9.out
        obtain ⟨ly, cy0, cy1, cy2, cy3, zy0, zy1, zy2, zy3⟩ := HY9.out
        cases tk with
        | false =>
          go_wp2_with fail
          go_ret
          exact ⟨rfl, HBV.out.trans (HB9.out.mono HBV.out.size)⟩
        | true =>
          have h2 := HPF.out.2.2.2.2 HFIN.out.symm
          have hzk : zk = kk := h2.1
          have hH : Rg.hasR zr zk zh m1 = true := h2.2
          have K11 := RHas_R (gg + 1) zk zh m1 a6 n6 q6 zr true w9 HPF.out.1 (HTZ.out w9 HB9.out) hH
          subst hzk
          clear h2 hH
          go_wp2_with fail
          with_reducible refine K11.mono ?_
          rintro e w10 ⟨rfl, hb10⟩
          have HF := Lib.hid (HBV.out.trans ((HB9.out.trans (hb10.mono HB9.out.size)).mono HBV.out.size))
          clear hb10
          go_wp2_with fail
          go_ret
          exact ⟨rfl, HF.out⟩
  · have eR : rz (Rg.preR ⟨gg, rg, kx, hh⟩ m1 m3 kk) E = ⟨0, [], 0, 0⟩ := by unfold rz; rw [if_neg h0]; rfl
    rw [eR] at K6
    have e0 : ((E : Int) != 0) = true := bne_iff_ne.2 (by omega)
    clear eR h0
    go_wp2_with fail
    with_reducible refine K6.mono ?_
    rintro e w6 ⟨a6, n6, q6, rfl, ho6, hb6⟩
    obtain rfl : n6 = 0 := (own_len ho6).symm
    have HY7 := Lib.hid (HY6.out.on hb6)
    have HB7 := Lib.hid (HB6.out.trans (hb6.mono HB6.out.size))
    have HBS := Lib.hid (below_set4 HB7.out hs3 (.int .i64 0) (.slice a6 0 q6) (.int .i64 0) (.int .i64 0))
    have S9 := Same_R 0 0 0 a6 none 0 q6 0 [] _ ((own_tsl ho6 (Below.refl _ _)).empty (w' := ((((w6.setCell ⟨w3.heap.size, 0, none⟩ (.int .i64 0)).setCell ⟨w3.heap.size, 1, none⟩ (.slice a6 0 q6)).setCell ⟨w3.heap.size, 2, none⟩ (.int .i64 0)).setCell ⟨w3.heap.size, 3, none⟩ (.int .i64 0)))) (tsl_nil _) (by omega)
    clear ho6 hb6 K6 lx cx0 cx1 cx2 cx3 zx0 zx1 zx2 zx3 ly cy0 cy1 cy2 cy3 zy0 zy1 zy2 zy3
    obtain ⟨ly, cy0, cy1, cy2, cy3, zy0, zy1, zy2, zy3⟩ := HY7.out
    go_wp2_with fail
    with_reducible refine S9.mono ?_
    rintro e w9 ⟨rfl, hb9⟩
    have HF := Lib.hid (HBS.out.trans (hb9.mono HBS.out.size))
    clear hb9
    go_wp2_with fail
    go_ret
    exact ⟨rfl, HF.out⟩

theorem resvPreempts_walk (a0 : Option Addr) (len0 cap0 : Nat) (z0 : Nat → Nat → Int) (a1 a2 a3 a4 : Int) (w : World) (w0 : LArg w a0 len0 cap0 z0) (_ : (Lit.int .i64 a1).wf = true) (_ : (Lit.int .i64 a2).wf = true) (_ : (Lit.int .i64 a3).wf = true) (_ : (Lit.int .i64 a4).wf = true) :
    Calls Try.prog 10 #[.slice a0 len0 cap0, .int .i64 a1, .int .i64 a2, .int .i64 a3, .int .i64 a4] w fun e w' => e = .returned (.bool true) ∧ Below w.heap.size w w' :=
  preempts_core a0 len0 cap0 z0 a1 a2 a3 a4 w w0

end Go.Proofs.Ytoglkellaliegaa
