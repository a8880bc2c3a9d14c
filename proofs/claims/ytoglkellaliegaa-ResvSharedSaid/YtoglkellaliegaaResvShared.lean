/- ResvShared: a reservation of all who are registered ends with the last registration or when any of them releases it; for every input; what was there stands below. -/
import Derived.Test.YtoglkellaliegaaRgX
import Derived.Test.YtoglkellaliegaaArgsL
import Derived.Deep.CutRange
namespace Go.Proofs.Ytoglkellaliegaa
open Go.RowKit

theorem shared_a (a : Option Addr) (c : Nat) (w : World) (hT : TSl w a 2 c [(1, 5), (2, 6)]) : Calls Try.prog 34 #[.agg #[.int .i64 2, .slice a 2 c, .int .i64 8, .int .i64 0], .int .i64 1, .int .i64 5, .int .i64 0] w fun e w' =>
    ∃ a c, e = .returned (.tuple #[.agg #[.int .i64 3, .slice a 1 c, .int .i64 8, .int .i64 0], .int .i64 0]) ∧ w'.ownsRow w.heap.size 56 2 (.slice a 1 c) 1 (tv [(2, 6)]) ∧ Below w.heap.size w w' := by
  refine (Register_R 2 8 0 1 5 0 a 2 c [(1, 5), (2, 6)] w (good_reserved 8 0 (by decide) (by decide)) hT (by omega) (by omega) (by omega) (by omega) (by omega)).mono ?_
  have e1 : rz (Rg.regR ⟨2, [(1, 5), (2, 6)], 8, 0⟩ 1 0) (Rg.regE ⟨2, [(1, 5), (2, 6)], 8, 0⟩ 1 5) = ⟨3, [(2, 6)], 8, 0⟩ := by kernel_rfl
  have e2 : Rg.regE ⟨2, [(1, 5), (2, 6)], 8, 0⟩ 1 5 = 0 := by kernel_rfl
  rw [e1, e2]
  rintro e w' ⟨a, n, c, rfl, ho, hb⟩
  obtain rfl : n = 1 := (own_len ho).symm
  exact ⟨a, c, rfl, ho, hb⟩

theorem good_shared : Rg.Good ⟨3, [(2, 6)], 8, 0⟩ := by
  have h := (good_reserved 8 0 (by decide) (by decide)).reg (w := 1) (k := 0) (by decide) (by decide) (by decide) (by decide) (by decide)
  have e : Rg.regR ⟨2, [(1, 5), (2, 6)], 8, 0⟩ 1 0 = ⟨3, [(2, 6)], 8, 0⟩ := by kernel_rfl
  rw [e] at h
  exact h

theorem shared_b (a : Option Addr) (c : Nat) (w : World) (hT : TSl w a 1 c [(2, 6)]) : Calls Try.prog 34 #[.agg #[.int .i64 3, .slice a 1 c, .int .i64 8, .int .i64 0], .int .i64 2, .int .i64 6, .int .i64 0] w fun e w' =>
    ∃ a c, e = .returned (.tuple #[.agg #[.int .i64 4, .slice a 0 c, .int .i64 0, .int .i64 0], .int .i64 0]) ∧ Below w.heap.size w w' := by
  refine (Register_R 3 8 0 2 6 0 a 1 c [(2, 6)] w good_shared hT (by omega) (by omega) (by omega) (by omega) (by omega)).mono ?_
  have e1 : rz (Rg.regR ⟨3, [(2, 6)], 8, 0⟩ 2 0) (Rg.regE ⟨3, [(2, 6)], 8, 0⟩ 2 6) = ⟨4, [], 0, 0⟩ := by kernel_rfl
  have e2 : Rg.regE ⟨3, [(2, 6)], 8, 0⟩ 2 6 = 0 := by kernel_rfl
  rw [e1, e2]
  rintro e w' ⟨a, n, c, rfl, ho, hb⟩
  obtain rfl : n = 0 := (own_len ho).symm
  exact ⟨a, c, rfl, hb⟩

/-- What is left of a reservation of all when the first have gone. -/
def left (g k : Int) (rg : List Qu.T) (j : Nat) : Rg.RV := ⟨g + j, rg.drop j, if rg.drop j = [] then 0 else k, 0⟩

theorem left_good {g k : Int} {rg : List Qu.T} (hG : Rg.Good ⟨g, rg, k, 0⟩) (ha : Rg.all k = true) (hg : g ≤ 60) {j : Nat} (hj : j ≤ 8) : Rg.Good (left g k rg j) := by
  have h0 : 0 ≤ g := hG.gen0
  refine ⟨by show 0 ≤ g + (j : Int); omega, by show g + (j : Int) ≤ 1000; omega, fun t ht => hG.one t (List.mem_of_mem_drop ht), List.Pairwise.sublist (List.drop_sublist j rg) hG.inc, ?_, fun _ => rfl, fun h1 h2 => ?_, fun h1 h2 => ?_⟩
  · show Rg.kindB (if rg.drop j = [] then 0 else k) = true ∨ (if rg.drop j = [] then 0 else k) = 0
    by_cases h : rg.drop j = []
    · rw [if_pos h]; exact Or.inr rfl
    · rw [if_neg h]; exact hG.kind
  · have h2' : rg.drop j = [] := h2
    have h1' : Rg.all (if rg.drop j = [] then 0 else k) = true := h1
    rw [if_pos h2'] at h1'
    exact absurd h1' (by decide)
  · have h2' : Rg.all (if rg.drop j = [] then 0 else k) = false := h2
    have h1' : (if rg.drop j = [] then 0 else k) ≠ 0 := h1
    by_cases h : rg.drop j = []
    · rw [if_pos h] at h1'; exact absurd rfl h1'
    · rw [if_neg h, ha] at h2'; cases h2'

theorem left_step {g k : Int} {rg : List Qu.T} (hi : Rg.Inc rg) (ha : Rg.all k = true) {j : Nat} (hj : j < rg.length) :
    left g k rg j = ⟨g + j, rg.drop j, k, 0⟩ ∧ Rg.regE ⟨g + j, rg.drop j, k, 0⟩ rg[j].1 rg[j].2 = 0 ∧ Rg.regR ⟨g + j, rg.drop j, k, 0⟩ rg[j].1 0 = left g k rg (j + 1) := by
  have e : rg.drop j = rg[j] :: rg.drop (j + 1) := List.drop_eq_getElem_cons hj
  have hne : rg.drop j ≠ [] := by rw [e]; exact List.cons_ne_nil _ _
  have hid : Rg.Inc (rg.drop j) := List.Pairwise.sublist (List.drop_sublist j rg) hi
  have hmem : (rg[j].1, rg[j].2) ∈ rg.drop j := by rw [e]; exact List.mem_cons_self ..
  refine ⟨by unfold left; rw [if_neg hne], ?_, ?_⟩
  · show (if Rg.key (rg.drop j) rg[j].1 = rg[j].2 then 0 else 9) = 0
    rw [if_pos (Rg.key_of hid hmem)]
  · have hc : Rg.cut (rg.drop j) rg[j].1 = rg.drop (j + 1) := by
      have hid2 := hid
      rw [e] at hid2
      obtain ⟨h1, -⟩ := List.pairwise_cons.1 hid2
      rw [e]
      unfold Rg.cut
      rw [List.filter_cons, if_neg (by simp [Qu.tg]), List.filter_eq_self]
      intro t ht
      have := h1 t ht
      have hne : ¬ t.1 = rg[j].1 := by omega
      simp [Qu.tg, hne]
    have hh : Qu.has (rg.drop j) rg[j].1 = true := Rg.has_iff.2 ⟨_, hmem⟩
    have he : Rg.ends (rg.drop j) k 0 rg[j].1 = decide (rg.drop (j + 1) = []) := by
      unfold Rg.ends Rg.hasR
      rw [if_neg (Rg.all_ne ha), if_pos ha, hh, ha, hc]
      simp
    unfold Rg.regR
    rw [if_pos rfl, out_eq, hc, he]
    unfold left
    by_cases h : rg.drop (j + 1) = []
    · rw [if_pos h, decide_eq_true h, if_pos rfl, if_pos rfl, h]
      simp only [Rg.RV.mk.injEq, and_true]
      omega
    · rw [if_neg h, decide_eq_false h, if_neg (by decide), if_neg (by decide)]
      simp only [Rg.RV.mk.injEq, and_true]
      omega

theorem shared_rel {g k : Int} {rg : List Qu.T} (hi : Rg.Inc rg) (ha : Rg.all k = true) {p z : Int} (hm : (p, z) ∈ rg) : Rg.relE ⟨g, rg, k, 0⟩ p z k = 0 ∧ Rg.relR ⟨g, rg, k, 0⟩ p = ⟨g, rg, 0, 0⟩ := by
  have hd := (Rg.kd_iff hi).2 hm
  have hh : Rg.hasR rg k 0 p = true := by unfold Rg.hasR; rw [if_neg (Rg.all_ne ha), if_pos ha]; exact Rg.has_iff.2 ⟨_, hm⟩
  constructor
  · show (if Rg.kd rg p z = false then 9 else if Rg.hasR rg k 0 p = false then 0 else if k = k then 0 else 3) = 0
    rw [hd, hh]
    simp
  · show (if Rg.hasR rg k 0 p = false then _ else _) = _
    rw [hh, if_neg (by decide)]

set_option maxRecDepth 100000 in
set_option maxHeartbeats 32000000 in
theorem shared_core (L : Option Addr) (nl cl : Nat) (F : Nat → Nat → Int) (p1 : Int) (w : World) (hL : LArg w L nl cl F) :
    Calls Try.prog 8 #[.slice L nl cl, .int .i64 p1] w fun e w' => e = .returned (.bool true) ∧ Below w.heap.size w w' := by
  obtain ⟨N, hN⟩ : ∃ N, min nl 60 = N := ⟨_, rfl⟩
  have HT4 : Hid (∀ w', Below w.heap.size w w' → Calls Try.prog 35 #[.slice L nl cl] w' fun e w'' => ∃ a n c, e = .returned (.agg #[.int .i64 (tS F N).gen, .slice a n c, .int .i64 (tS F N).kind, .int .i64 (tS F N).holder]) ∧
      w''.ownsRow w'.heap.size 56 2 (.slice a n c) n (tv (tS F N).regs) ∧ Below w'.heap.size w' w'') := Lib.hid fun w' hb => turned_R L nl cl N F w' (hL.keep hb) hN
  have HG := tS_good F N (by omega)
  have hN60 : N ≤ 60 := by omega
  have K1 := registered_R w
  clear hL hN
  generalize tS F N = Z at *
  obtain ⟨gg, rg, kx, hh⟩ := Z
  obtain ⟨HG, hgg⟩ := HG
  have hgg' : gg ≤ (N : Int) := hgg
  have hg0 : 0 ≤ gg := HG.gen0
  have HG := Lib.hid HG
  go_enter Try.func8, Try.ntmps8
  go_wp2_with fail
  with_reducible refine K1.mono ?_
  rintro e w1 ⟨a1, q1, rfl, ho1, hb1⟩
  have HB1 := Lib.hid hb1
  have K2 := reserve_first 8 0 (by decide) (by decide) a1 q1 w1 (own_tsl ho1 (Below.refl _ _))
  clear ho1 hb1 K1
  go_wp2_with fail
  with_reducible refine K2.mono ?_
  rintro e w2 ⟨a2, q2, rfl, ho2, hb2⟩
  have HB2 := Lib.hid (HB1.out.trans (hb2.mono HB1.out.size))
  have hs2 := HB2.out.size
  have HBA : Hid (∀ o, Below w.heap.size w (w2.alloc o)) := Lib.hid fun o => HB2.out.alloc hs2 o
  have HX2 : Hid (∀ T, R4 (w2.alloc (.cells #[.int .i64 2, .slice a2 2 q2, .int .i64 8, .int .i64 0] T)) w2.heap.size (.int .i64 2) (.slice a2 2 q2) (.int .i64 8) (.int .i64 0)) := Lib.hid fun T => r4_new w2 T _ _ _ _
  have K3 := fun o => shared_a a2 q2 (w2.alloc o) (own_tsl ho2 ((Below.refl _ _).alloc (Nat.le_refl _) o))
  clear ho2 hb2 K2
  go_wp2_with fail
  with_reducible refine (K3 _).mono ?_
  rintro e w3 ⟨a3, q3, rfl, ho3, hb3⟩
  have HX3 := Lib.hid ((HX2.out 49).on hb3)
  have HB3 := Lib.hid ((HBA.out _).trans (hb3.mono (HBA.out _).size))
  have hs3 := HB3.out.size
  have hl23 : w2.heap.size < w3.heap.size := HX3.out.lt
  have HX4 := fun T => Lib.hid (HX3.out.alloc (.cells #[.int .i64 3, .slice a3 1 q3, .int .i64 8, .int .i64 0] T))
  have HY4 : ∀ T, Hid (R4 (w3.alloc (.cells #[.int .i64 3, .slice a3 1 q3, .int .i64 8, .int .i64 0] T)) w3.heap.size (.int .i64 3) (.slice a3 1 q3) (.int .i64 8) (.int .i64 0)) := fun T => Lib.hid (r4_new w3 T _ _ _ _)
  have HB4 : Hid (∀ o, Below w.heap.size w (w3.alloc o)) := Lib.hid fun o => HB3.out.alloc hs3 o
  have K4 := fun o => shared_b a3 q3 (w3.alloc o) (own_tsl ho3 ((Below.refl _ _).alloc (Nat.le_refl _) o))
  clear ho3 hb3 K3
  go_wp2_with fail
  with_reducible refine (K4 _).mono ?_
  rintro e w4 ⟨a4, q4, rfl, hb4⟩
  have HX5 := Lib.hid ((HX4 49).out.on hb4)
  have HY5 := Lib.hid ((HY4 49).out.on hb4)
  have HB5 := Lib.hid ((HB4.out _).trans (hb4.mono (HB4.out _).size))
  have hs5 := HB5.out.size
  have hl34 : w3.heap.size < w4.heap.size := HY5.out.lt
  have HX6 := fun T => Lib.hid (HX5.out.alloc (.cells #[.int .i64 4, .slice a4 0 q4, .int .i64 0, .int .i64 0] T))
  have HB6 : Hid (∀ o, Below w.heap.size w (w4.alloc o)) := Lib.hid fun o => HB5.out.alloc hs5 o
  have K5 := fun o => HT4.out (w4.alloc o) (HB6.out o)
  clear hb4 K4 HT4
  obtain ⟨ly, cy0, cy1, cy2, cy3, zy0, zy1, zy2, zy3⟩ := HY5.out
  go_wp2_with fail
  with_reducible refine (K5 _).mono ?_
  rintro e w5 ⟨a5, n5, q5, rfl, ho5, hb5⟩
  have HX7 := Lib.hid ((HX6 49).out.on hb5)
  have HB7 := Lib.hid ((HB6.out _).trans (hb5.mono (HB6.out _).size))
  have HNE : Hid (∀ k, (Value.slice a5 n5 q5).ownBlock = some k → w2.heap.size ≠ k) := Lib.hid fun j hj => by have := row_base ho5 j hj; rw [World.size_alloc] at this; omega
  obtain ⟨W, hW⟩ : ∃ W, ((((w5.setCell ⟨w2.heap.size, 0, none⟩ (.int .i64 gg)).setCell ⟨w2.heap.size, 1, none⟩ (.slice a5 n5 q5)).setCell ⟨w2.heap.size, 2, none⟩ (.int .i64 kx)).setCell ⟨w2.heap.size, 3, none⟩ (.int .i64 hh)) = W := ⟨_, rfl⟩
  have HXW : Hid (R4 W w2.heap.size (.int .i64 gg) (.slice a5 n5 q5) (.int .i64 kx) (.int .i64 hh)) := Lib.hid (by rw [← hW]; exact HX7.out.set _ _ _ _)
  have HBW : Hid (Below w.heap.size w W) := Lib.hid (by rw [← hW]; exact below_set4 HB7.out hs2 _ _ _ _)
  have HOW : Hid (W.ownsRow (w2.heap.size + 1) 56 2 (.slice a5 n5 q5) n5 (tv rg)) := Lib.hid (by rw [← hW]; exact own_low (own_set4 ho5 HNE.out _ _ _ _) (by rw [World.size_alloc]; omega))
  have hlen : rg.length = n5 := own_len ho5
  have hn8 : n5 ≤ 8 := by have h2 := HG.out.len; have h3 : rg.length ≤ 8 := h2; omega
  clear hb5 K5 ho5 ly cy0 cy1 cy2 cy3 zy0 zy1 zy2 zy3
  obtain ⟨lx, cx0, cx1, cx2, cx3, zx0, zx1, zx2, zx3⟩ := HX7.out
  obtain ⟨lX, cX0, cX1, cX2, cX3, zX0, zX1, zX2, zX3⟩ := HXW.out
  cases ha : Rg.all kx with
  | false =>
    have SH := fun w => Shared_R kx false ha w
    clear ha
    go_wp2_with fail
    with_reducible refine (SH _).mono ?_
    rintro e w6 ⟨rfl, rfl⟩
    go_wp2_with fail
    go_ret
    exact ⟨rfl, HBW.out⟩
  | true =>
    have SH := fun w => Shared_R kx true ha w
    have hh0 : hh = 0 := HG.out.none (Or.inr ha)
    subst hh0
    have hne : rg ≠ [] := HG.out.some ha
    have hn0 : n5 ≠ 0 := by rw [← hlen]; exact fun h => hne (List.length_eq_zero_iff.1 h)
    have hn0' : ((n5 : Int) == 0) = false := beq_eq_false_iff_ne.2 (by omega)
    have w1' := within_is (k := p1) (n := n5) (N := (n5 : Int)) rfl (by omega) (by omega) rfl
    have hq1 := wi_lt p1 n5 (by omega)
    generalize wi p1 n5 = m1 at *
    have hm1 : m1 < rg.length := by omega
    obtain ⟨gb, c'', he5, hg1, hg2⟩ := HOW.out.form (by omega)
    cases he5
    have HTW : Hid (∀ U, Below W.heap.size W U → TSl U (some ⟨gb, 0, none⟩) n5 q5 rg) := Lib.hid fun U hb => own_tsl HOW.out hb
    obtain ⟨gb2, o2, he, hb2, hc2⟩ := (HTW.out W (Below.refl _ _)).at_ hne
    cases he
    obtain ⟨d1, d2⟩ := hc2 m1 rg[m1] (List.getElem?_eq_getElem hm1)
    rw [Nat.zero_add] at d1 d2
    have hrel := shared_rel (g := gg) HG.out.inc ha (p := rg[m1].1) (z := rg[m1].2) (List.getElem_mem hm1)
    have hw1 := HG.out.one rg[m1] (List.getElem_mem hm1)
    have HA := Lib.hid ha
    have HLEN := Lib.hid hlen
    have hsW := HBW.out.size
    have hlX := HXW.out.lt
    clear hc2 hne hlen ha
    generalize rg[m1].1 = p at *
    generalize rg[m1].2 = z at *
    have HREL := Lib.hid hrel
    have kw : IntKind.i64.wrap (m1 : Int) = (m1 : Int) := IntWalk.i64_in _ (by omega)
    have k0 : (0 : Int) ≤ (m1 : Int) := by omega
    have k1 : (m1 : Int) < (n5 : Int) := by omega
    go_wp2_with fail
    with_reducible refine (SH _).mono ?_
    rintro e w6 ⟨rfl, rfl⟩
    go_upto_region 11 with (fail)
    go_cut [11] from 62 to 70 (fun s11 wx => s11 = .pointer (some ⟨w6.heap.size, 0, none⟩) ∧ ∃ q, wx = (w6.alloc (.cells #[.int .i64 p, .int .i64 z] 56)).drewN q)
    case first =>
      go_region_with (go_at_call 22; with_reducible refine w1'.use ?_; rintro e ws ⟨rfl, rfl⟩)
      all_goals
        go_wp2_with fail
        go_meet
        exact ⟨rfl, 1, rfl⟩
    case rest =>
      obtain ⟨rfl, kq, rfl⟩ := hcut
      have HXU := Lib.hid ((HXW.out.alloc (.cells #[.int .i64 p, .int .i64 z] 56)).drewN kq)
      have HBU := Lib.hid (below_drewN (HBW.out.alloc hsW (.cells #[.int .i64 p, .int .i64 z] 56)) kq)
      have HOU : Hid (((w6.alloc (.cells #[.int .i64 p, .int .i64 z] 56)).drewN kq).ownsRow (w2.heap.size + 1) 56 2 (.slice (some ⟨gb, 0, none⟩) n5 q5) n5 (tv rg)) := Lib.hid (own_keep HOW.out (below_drewN ((Below.refl _ w6).alloc (Nat.le_refl _) _) kq))
      have hkB : Rg.kindB kx = true := (HG.out.kind).resolve_right (Rg.all_ne HA.out)
      have hkx0 : kx ≠ 0 := Rg.all_ne HA.out
      have K8 := Release_R gg kx 0 p z kx (some ⟨gb, 0, none⟩) n5 q5 rg ((w6.alloc (.cells #[.int .i64 p, .int .i64 z] 56)).drewN kq) HG.out (HTW.out _ (below_drewN ((Below.refl _ w6).alloc (Nat.le_refl _) _) kq)) hw1.1 hw1.2.1 hkB
      have eR : rz (Rg.relR ⟨gg, rg, kx, 0⟩ p) (Rg.relE ⟨gg, rg, kx, 0⟩ p z kx) = ⟨gg, rg, 0, 0⟩ := by rw [HREL.out.1, HREL.out.2]; rfl
      rw [eR, HREL.out.1] at K8
      have P1 : ((w6.alloc (.cells #[.int .i64 p, .int .i64 z] 56)).drewN kq).cell? ⟨w6.heap.size, 0, none⟩ = some (.int .i64 p) := (cells_two w6 _ _ _).1
      have P2 : ((w6.alloc (.cells #[.int .i64 p, .int .i64 z] 56)).drewN kq).cell? ⟨w6.heap.size, 1, none⟩ = some (.int .i64 z) := (cells_two w6 _ _ _).2
      clear lx cx0 cx1 cx2 cx3 zx0 zx1 zx2 zx3 lX cX0 cX1 cX2 cX3 zX0 zX1 zX2 zX3 d1 d2 hw1 hrel eR w1' hW kw k0 k1
      obtain ⟨lu, cu0, cu1, cu2, cu3, zu0, zu1, zu2, zu3⟩ := HXU.out
      go_wp2_with fail
      with_reducible refine K8.mono ?_
      rintro e w8 ⟨a8, n8, q8, rfl, ho8, hb8⟩
      have HX9 := Lib.hid (HXU.out.on hb8)
      have HO9 := Lib.hid (own_keep HOU.out hb8)
      have HB9 := Lib.hid (HBU.out.trans (hb8.mono HBU.out.size))
      have hs9 := HB9.out.size
      have HX10 := fun o => Lib.hid (HX9.out.alloc o)
      clear lu cu0 cu1 cu2 cu3 zu0 zu1 zu2 zu3 ho8 hb8 K8 P1 P2
      obtain ⟨lv, cv0, cv1, cv2, cv3, zv0, zv1, zv2, zv3⟩ := HX9.out
      go_wp2_with fail
      go_loopw [92] (fun v wr => ∃ (j m q : Nat) (a : Option Addr) (kj : Int), j ≤ n5 ∧ v = .int .i64 j ∧ m = n5 - j ∧ Hid (left gg kx rg j = ⟨gg + j, rg.drop j, kj, 0⟩) ∧
          Hid (R4 wr w2.heap.size (.int .i64 (gg + j)) (.slice a m q) (.int .i64 kj) (.int .i64 0)) ∧ Hid (wr.ownsRow (w2.heap.size + 1) 56 2 (.slice a m q) m (tv (rg.drop j))) ∧
          Hid (wr.ownsRow (w2.heap.size + 1) 56 2 (.slice (some ⟨gb, 0, none⟩) n5 q5) n5 (tv rg)) ∧ Hid (Below w.heap.size w wr)) (fun v _ => n5 - (intOf v).toNat)
      case atStart =>
        refine ⟨0, n5, q5, some ⟨gb, 0, none⟩, kx, Nat.zero_le _, rfl, rfl, Lib.hid ?_, Lib.hid ?_, Lib.hid (HO9.out.alloc _), Lib.hid (HO9.out.alloc _), Lib.hid (HB9.out.alloc hs9 _)⟩
        · unfold left
          rw [List.drop_zero, if_neg (by intro h; rw [h] at HLEN; have := HLEN.out; simp at this; omega)]
        · have h := HX9.out.alloc (.cells #[.int .i64 gg, .slice a8 n8 q8, .int .i64 0, .int .i64 0] 49)
          have e0 : gg + ((0 : Nat) : Int) = gg := by simp
          rw [e0]
          exact h
      case round =>
        clear lv cv0 cv1 cv2 cv3 zv0 zv1 zv2 zv3
        obtain ⟨j, m, q, a, kj, hj, rfl, rfl, HLF, HXr, HOr, HOo, HBr⟩ := hrel
        obtain ⟨ly, cy0, cy1, cy2, cy3, zy0, zy1, zy2, zy3⟩ := HXr.out
        by_cases hlt : j < n5
        · have hk' : j < rg.length := by rw [HLEN.out]; exact hlt
          obtain ⟨s1, s2, s3⟩ := left_step (g := gg) HG.out.inc HA.out hk'
          have hkj : kj = kx := by
            have h := HLF.out
            rw [s1] at h
            exact (congrArg Rg.RV.kind h).symm
          subst hkj
          have hGL := left_good HG.out HA.out (show gg ≤ 60 by omega) (j := j) (by omega)
          rw [s1] at hGL
          have hne : rg ≠ [] := by rintro rfl; simp at hk'
          obtain ⟨gx, ox, hex, hbx, hcx⟩ := (own_tsl HOo.out (Below.refl _ _)).at_ hne
          cases hex
          obtain ⟨e1, e2⟩ := hcx j rg[j] (List.getElem?_eq_getElem hk')
          rw [Nat.zero_add] at e1 e2
          have hw := HG.out.one rg[j] (List.getElem_mem hk')
          have hsr := HBr.out.size
          have hl2 := HXr.out.lt
          have HGN := Lib.hid s3
          have HE0 := Lib.hid s2
          have HPJ : Hid (∀ T, (wr.alloc (.cells #[.int .i64 rg[j].1, .int .i64 rg[j].2] T)).cell? ⟨wr.heap.size, 0, none⟩ = some (.int .i64 rg[j].1) ∧ (wr.alloc (.cells #[.int .i64 rg[j].1, .int .i64 rg[j].2] T)).cell? ⟨wr.heap.size, 1, none⟩ = some (.int .i64 rg[j].2)) := Lib.hid fun T => cells_two wr T _ _
          clear hcx hne s1 s2 s3
          generalize rg[j].1 = pj at *
          generalize rg[j].2 = zj at *
          obtain ⟨h1, h2⟩ := HPJ.out 56
          have HXA := Lib.hid (HXr.out.alloc (.cells #[.int .i64 pj, .int .i64 zj] 56))
          have HBA2 := Lib.hid (HBr.out.alloc hsr (.cells #[.int .i64 pj, .int .i64 zj] 56))
          have HOA := Lib.hid (HOr.out.alloc (.cells #[.int .i64 pj, .int .i64 zj] 56))
          have HOB := Lib.hid (HOo.out.alloc (.cells #[.int .i64 pj, .int .i64 zj] 56))
          have K9 := Register_R (gg + j) kj 0 pj zj 0 a (n5 - j) q (rg.drop j) (wr.alloc (.cells #[.int .i64 pj, .int .i64 zj] 56)) hGL (own_tsl HOA.out (Below.refl _ _)) (by omega) (by omega) (by omega) (by omega) (by omega)
          obtain ⟨k', hk2⟩ : ∃ k', (if rg.drop (j + 1) = [] then 0 else kj) = k' := ⟨_, rfl⟩
          have eR : rz (Rg.regR ⟨gg + j, rg.drop j, kj, 0⟩ pj 0) (Rg.regE ⟨gg + j, rg.drop j, kj, 0⟩ pj zj) = ⟨gg + ((j + 1 : Nat) : Int), rg.drop (j + 1), k', 0⟩ := by
            rw [HE0.out, ← hk2]
            unfold rz
            rw [if_pos rfl, HGN.out]
            rfl
          rw [eR, HE0.out] at K9
          have HLN : Hid (left gg kj rg (j + 1) = ⟨gg + ((j + 1 : Nat) : Int), rg.drop (j + 1), k', 0⟩) := Lib.hid (by unfold left; rw [hk2])
          have hdl : (rg.drop (j + 1)).length = n5 - (j + 1) := by rw [List.length_drop, HLEN.out]
          have hcase : (n5 - (j + 1) = 0 ∧ k' = 0) ∨ (n5 - (j + 1) ≠ 0 ∧ k' = kj) := by
            by_cases h : rg.drop (j + 1) = []
            · left; rw [if_pos h] at hk2; exact ⟨by rw [← hdl, h]; rfl, hk2.symm⟩
            · right; rw [if_neg h] at hk2; exact ⟨by rw [← hdl]; exact fun h2 => h (List.length_eq_zero_iff.1 h2), hk2.symm⟩
          have HDL := Lib.hid hdl
          have HCS := Lib.hid hcase
          have ekj : (kj == 0) = false := beq_eq_false_iff_ne.2 hkx0
          clear eR hk2 hw hdl hcase ly cy0 cy1 cy2 cy3 zy0 zy1 zy2 zy3 hGL
          obtain ⟨la, ca0, ca1, ca2, ca3, za0, za1, za2, za3⟩ := HXA.out
          go_wp2_with fail
          with_reducible refine K9.mono ?_
          rintro e w9 ⟨a9, n9, q9, rfl, ho9, hb9⟩
          obtain rfl : n9 = n5 - (j + 1) := by rw [← own_len ho9]; exact HDL.out
          have HX11 := Lib.hid (HXA.out.on hb9)
          have HB11 := Lib.hid (HBA2.out.trans (hb9.mono HBA2.out.size))
          have HO11 := Lib.hid (own_low ho9 (base := w2.heap.size + 1) (by rw [World.size_alloc]; omega))
          have HOO11 := Lib.hid (own_keep HOB.out hb9)
          have hs11 := HB11.out.size
          have HN9 : Hid (∀ k, (Value.slice a9 (n5 - (j + 1)) q9).ownBlock = some k → w2.heap.size ≠ k) := Lib.hid fun i hi => by have := row_base HO11.out i hi; omega
          have HNo : Hid (∀ k, (Value.slice (some ⟨gb, 0, none⟩) n5 q5).ownBlock = some k → w2.heap.size ≠ k) := Lib.hid fun i hi => by have := row_base HOO11.out i hi; omega
          have hnn : ((n5 - (j + 1) : Nat) : Int) = ((n5 - j : Nat) : Int) - 1 := by omega
          have enn : (((n5 - (j + 1) : Nat) : Int) != ((n5 - j : Nat) : Int) - 1) = false := by rw [bne_eq_false_iff_eq]; exact hnn
          have hsub : IntKind.i64.wrap (((n5 - j : Nat) : Int) - 1) = ((n5 - j : Nat) : Int) - 1 := IntWalk.i64_in _ (by omega)
          obtain ⟨MM, hMM⟩ : ∃ MM, n5 - (j + 1) = MM := ⟨_, rfl⟩
          obtain ⟨MJ, hMJ⟩ : ∃ MJ, n5 - j = MJ := ⟨_, rfl⟩
          rw [hMM] at HO11 HN9 HCS enn
          rw [hMJ] at enn hsub HX11
          have HMM := Lib.hid hMM
          rw [hMM]
          clear hnn ho9 hb9 K9 h1 h2 la ca0 ca1 ca2 ca3 za0 za1 za2 za3 hMM hMJ
          obtain ⟨lb, cb0, cb1, cb2, cb3, zb0, zb1, zb2, zb3⟩ := HX11.out
          rcases HCS.out with ⟨hM0, hk0⟩ | ⟨hM0, hk0⟩
          · subst hM0 hk0
            go_wp2_with fail
            go_roundw
            case rel => exact ⟨j + 1, 0, q9, a9, 0, hlt, by go_num, HMM.out.symm, HLN, Lib.hid ((HX11.out.set _ _ _ _).alloc _), Lib.hid ((own_set4 HO11.out HN9.out _ _ _ _).alloc _), Lib.hid ((own_set4 HOO11.out HNo.out _ _ _ _).alloc _), Lib.hid ((below_set4 HB11.out hs2 _ _ _ _).alloc (by simp only [World.size_setCell]; exact hs11) _)⟩
            case measure => simp [intOf]; omega
          · subst hk0
            have em : ((MM : Int) == 0) = false := beq_eq_false_iff_ne.2 (by omega)
            clear hM0
            go_wp2_with fail
            go_roundw
            case rel => exact ⟨j + 1, MM, q9, a9, _, hlt, by go_num, HMM.out.symm, HLN, Lib.hid ((HX11.out.set _ _ _ _).alloc _), Lib.hid ((own_set4 HO11.out HN9.out _ _ _ _).alloc _), Lib.hid ((own_set4 HOO11.out HNo.out _ _ _ _).alloc _), Lib.hid ((below_set4 HB11.out hs2 _ _ _ _).alloc (by simp only [World.size_setCell]; exact hs11) _)⟩
            case measure => simp [intOf]; omega
        · obtain rfl : j = n5 := by omega
          have h00 : j - j = 0 := Nat.sub_self j
          rw [h00] at HXr
          clear ly cy0 cy1 cy2 cy3 zy0 zy1 zy2 zy3
          obtain ⟨lz, cz0, cz1, cz2, cz3, zz0, zz1, zz2, zz3⟩ := HXr.out
          go_wp2_with fail
          go_ret
          exact ⟨rfl, HBr.out⟩

theorem resvShared_walk (a0 : Option Addr) (len0 cap0 : Nat) (z0 : Nat → Nat → Int) (a1 : Int) (w : World) (w0 : LArg w a0 len0 cap0 z0) (_ : (Lit.int .i64 a1).wf = true) :
    Calls Try.prog 8 #[.slice a0 len0 cap0, .int .i64 a1] w fun e w' => e = .returned (.bool true) ∧ Below w.heap.size w w' :=
  shared_core a0 len0 cap0 z0 a1 w w0

end Go.Proofs.Ytoglkellaliegaa
