/- DiffWritten: of a clone that was written in places just those differ whose texts do; for every input. -/
import Derived.Test.YteddendidjhmbaaWrP
import Derived.Deep.RegionHeld3
import Derived.BigQuiet
namespace Go.Proofs.Yteddendidjhmbaa
open Go.RowKit

abbrev tZ : ByteArray := ⟨#[122, 122]⟩

theorem tx_at {w : World} {base n c k : Nat} {a : Option Addr} {xs : List ByteArray} (h : w.ownsRow base 9 1 (.slice a n c) n (xs.map Value.string)) (hk : k < xs.length) : ∃ g, a = some ⟨g, 0, none⟩ ∧ g < w.heap.size ∧ w.cell? ⟨g, k, none⟩ = some (.string xs[k]) := by
  have hl : xs.length = n := (txt_cells h).1
  obtain ⟨g, cap, hv, -, hg⟩ := h.form (show 0 < n by omega)
  cases hv
  refine ⟨g, rfl, hg, ?_⟩
  have hc := h.cellAt k (by omega)
  rw [hc, List.getElem?_map, List.getElem?_eq_getElem hk]
  rfl

theorem str_ne {a b : ByteArray} (h : a ≠ b) : (a.toList == b.toList) = false := beq_eq_false_iff_ne.2 fun e => h (by
  have h1 : (a.toList == b.toList) = true := by rw [e]; exact beq_self_eq_true _
  exact (Vo.called_iff (name := b) (v := ⟨a, []⟩)).1 h1)

set_option maxRecDepth 100000 in
set_option maxHeartbeats 16000000 in
theorem diffWritten_walk (a0 : Option Addr) (len0 cap0 : Nat) (t0 : List Lg.Op) (a1 : Int) (a2 : Option Addr) (len2 cap2 : Nat) (t2 : List Lg.Op) (w : World) (w0 : OArg w a0 len0 cap0 t0) (_w1 : (Lit.int .i64 a1).wf = true) (w2 : OArg w a2 len2 cap2 t2) :
    Calls Try.prog 16 #[.slice a0 len0 cap0, .int .i64 a1, .slice a2 len2 cap2] w fun e w' => e = .returned (.bool true) ∧ Below w.heap.size w w' := by
  have B1 := begun_V w
  have M1 : ∀ W, Below w.heap.size w W → Calls Try.prog 33 #[.slice a0 len0 cap0] W (StMade W (Vo.made t0)) := fun W hb => made_V a0 len0 cap0 t0 W ⟨w0.1.keep hb, w0.2⟩
  have HR : Hid (Vo.Right (Vo.made t0)) := Lib.hid (Vo.made_right t0)
  obtain ⟨S, hS⟩ : ∃ S, Vo.made t0 = S := ⟨_, rfl⟩
  rw [hS] at M1 HR
  obtain ⟨v, hv⟩ : ∃ v, Vo.pick S a1 = v := ⟨_, rfl⟩
  have HRX := Lib.hid (Vo.clone_right HR.out v tZ)
  have HWN := Lib.hid (fun h => Vo.wr_new HR.out (nm := v) (zz := tZ) h)
  obtain ⟨RX, hRX⟩ : ∃ R, Vo.cloneR S v tZ = R := ⟨_, rfl⟩
  rw [hRX] at HRX HWN
  obtain ⟨X, EX⟩ := RX
  dsimp only at HRX HWN
  have hRX := Lib.hid hRX; have hv := Lib.hid hv
  have HOP := Lib.hid w2.1
  have HOT : Hid (∀ t ∈ t2, t.tx.size ≤ maxLen) := Lib.hid fun t ht => (w2.2 t ht).2.2
  have hocap := w2.1.cap
  have homax := w2.1.max
  have hmm := @run_makeMap Try.prog
  unfold maxLen at homax
  clear w2
  clear w0 hS
  go_enter Try.func16, Try.ntmps16
  go_wp2_with fail
  with_reducible refine B1.mono ?_
  rintro e v1 ⟨rfl, hb1⟩
  have HB1 := Lib.hid hb1
  have Q1 := M1 v1 hb1
  clear M1 B1 hb1
  go_wp2_with fail
  with_reducible refine Q1.mono ?_
  rintro e v2 ⟨a, n, c, b, m, d, rs, rfl, hs2, hb2⟩
  have HB_2 := Lib.hid ((HB1.out.trans (hb2.mono HB1.out.size)).alloc (HB1.out.trans (hb2.mono HB1.out.size)).size (.cells #[.slice a n c, .slice b m d] 52))
  have HXst_2 := Lib.hid (bxs_new v2 52 #[.slice a n c, .slice b m d] [.slice a n c, .slice b m d] rfl)
  have HSst_2 := Lib.hid (hs2.keep ((Below.refl _ v2).alloc (Nat.le_refl _) (.cells #[.slice a n c, .slice b m d] 52)))
  have hm : m ≤ 64 := by have := HR.out.len; rw [hs2.vlen] at this; omega
  clear hs2 hb2 Q1
  have x0 := HXst_2.out.c 0 _ rfl; have x1 := HXst_2.out.c 1 _ rfl
  have CT := pick_V a b n c m d _ rs S a1 _ HSst_2.out hm
  rw [hv.out] at CT
  go_wp2_with fail
  with_reducible refine CT.mono ?_
  rintro e v3 ⟨rfl, hb3⟩
  have HB_3 := Lib.hid (HB_2.out.trans (hb3.mono HB_2.out.size))
  have HXst_3 := Lib.hid (HXst_2.out.on hb3)
  have HSst_3 := Lib.hid (HSst_2.out.keep hb3)
  clear hb3 CT x0 x1
  have x0 := HXst_3.out.c 0 _ rfl; have x1 := HXst_3.out.c 1 _ rfl
  have CT := Clone_V a b n c m d _ rs S v tZ _ HSst_3.out HR.out (by decide)
  rw [hRX.out] at CT
  go_wp2_with fail
  with_reducible refine CT.mono ?_
  rintro e v4 ⟨pa4, pn4, pc4, pb4, pm4, pd4, prs4, rfl, hs4, hb4⟩
  dsimp only at hs4
  have hc4 := hb4.alloc hb4.size (.cells #[.slice pa4 pn4 pc4, .slice pb4 pm4 pd4] 52)
  have HL : Hid (∀ B : Nat, v4.heap.size ≤ B → ∀ v ∈ sls pa4 pn4 pc4 pb4 pm4 pd4 prs4, v.ownBlock ≠ some B) := Lib.hid fun B hB v hv e => Nat.not_lt.2 hB (hs4.lt v hv B e).2
  have HBv := Lib.hid (HB_3.out.trans (hb4.mono HB_3.out.size))
  have ha4 := (Below.refl _ v4).alloc (Nat.le_refl _) (.cells #[.slice pa4 pn4 pc4, .slice pb4 pm4 pd4] 52)
  have HB_4 := Lib.hid (HB_3.out.trans (hc4.mono HB_3.out.size))
  have HXX_4 := Lib.hid (bxs_new v4 52 #[.slice pa4 pn4 pc4, .slice pb4 pm4 pd4] [.slice pa4 pn4 pc4, .slice pb4 pm4 pd4] rfl)
  have HSX_4 := Lib.hid (hs4.keep ha4)
  have HV_4 := Lib.hid (ha4)
  clear hs4 hb4 hc4 ha4 CT x0 x1
  by_cases he : EX = 0
  rotate_left
  · have hb : ((EX : Int) != 0) = true := bne_iff_ne.2 (by omega)
    go_wp2_with fail
    go_ret
    exact ⟨rfl, HB_4.out⟩
  subst he
  obtain ⟨A, hA⟩ := HWN.out rfl
  have HW := Lib.hid hA
  clear hA HWN
  have HD0 := Lib.hid (Vo.wr_none HW.out)
  have x0 := HXX_4.out.c 0 _ rfl; have x1 := HXX_4.out.c 1 _ rfl
  go_wp2_with fail
  have CT := Diff_V pa4 pb4 pn4 pc4 pm4 pd4 _ prs4 X v tZ _ HSX_4.out HRX.out
  rw [HD0.out] at CT
  with_reducible refine CT.mono ?_
  rintro e v5 ⟨da5, dn5, dc5, rfl, ho5, hl5, hb5⟩
  dsimp only at ho5 hl5
  have HB_5 := Lib.hid (HB_4.out.trans (hb5.mono HB_4.out.size))
  have HXX_5 := Lib.hid (HXX_4.out.on hb5)
  have HSX_5 := Lib.hid (HSX_4.out.keep hb5)
  have HV_5 := Lib.hid (HV_4.out.trans (hb5.mono HV_4.out.size))
  have HOd_5 := Lib.hid (ho5)
  clear ho5 hb5 CT x0 x1
  obtain rfl : 0 = dn5 := hl5
  go_wp2_with fail
  have hz1 := HV_5.out.size
  have MB := Lib.hid ((HV_5.out.alloc hz1 (.map #[] 0)))
  have XB := Lib.hid (HXX_5.out.alloc (.map #[] 0))
  have MM := Lib.hid (Bm.new v5)
  have SB : Hid (StP (v5.alloc (.map #[] 0)) 0 v5.heap.size v4.heap.size pa4 pn4 pc4 pb4 pm4 pd4 prs4 X) := Lib.hid ⟨(HSX_5.out.keep ((Below.refl _ v5).alloc (Nat.le_refl _) _)).low (Nat.zero_le _), HL.out _ hz1, HL.out _ (Nat.le_refl _)⟩
  have hlt0 := HXX_5.out.lt
  have hzw := HBv.out.size
  go_loopw [53] (fun x wr => ∃ (k : Nat) (pa5 : Option Addr) (pn5 pc5 : Nat) (pb5 : Option Addr) (pm5 pd5 : Nat) (prs5 : List Rw) (x5 : Vo.St) (l5 : List Int), k ≤ len2 ∧ x = .int .i64 k ∧ Hid (Below v4.heap.size v4 wr) ∧ Hid (Bxs wr v4.heap.size [.slice pa5 pn5 pc5, .slice pb5 pm5 pd5]) ∧
      Hid (StP wr 0 v5.heap.size v4.heap.size pa5 pn5 pc5 pb5 pm5 pd5 prs5 x5) ∧ Hid (Bm wr v5.heap.size k l5) ∧ Hid (Vo.Wr x5 v tZ A l5)) (fun x _ => len2 - (intOf x).toNat)
  case atStart => exact ⟨0, _, _, _, _, _, _, _, X, [], Nat.zero_le _, rfl, MB, XB, SB, MM, HW⟩
  case round =>
    obtain ⟨k, pa5, pn5, pc5, pb5, pm5, pd5, prs5, x5, l5, hk, rfl, BW, XW, SW, MW, RW⟩ := hrel
    have hsz := BW.out.size
    have hml := MW.out.lt
    have BWw := Lib.hid (HBv.out.trans (BW.out.mono hzw))
    by_cases hlt : k < len2
    · have hkl : k < t2.length := by rw [HOP.out.len]; exact hlt
      obtain ⟨X9, b9, o9, s9, rfl, hX9, d0, d1, d2, d3, d4⟩ := (HOP.out.keep BWw.out).get hkl
      have hal := (Below.refl wr.heap.size wr).alloc (Nat.le_refl _) (.cells #[.int .i64 t2[k].k, .string t2[k].nm, .string t2[k].tn, .int .i64 t2[k].a, .string t2[k].tx] 83)
      have hts := HOT.out t2[k] (List.getElem_mem hkl)
      have BA := Lib.hid (BW.out.trans (hal.mono hsz))
      have XA := Lib.hid (XW.out.on hal)
      have SA := Lib.hid (SW.out.keep hal)
      have MA := Lib.hid (MW.out.on hal)
      have OA := Lib.hid (bxs_new wr 83 #[.int .i64 t2[k].k, .string t2[k].nm, .string t2[k].tn, .int .i64 t2[k].a, .string t2[k].tx] _ rfl)
      generalize t2[k].k = f1 at *
      generalize t2[k].nm = f2 at *
      generalize t2[k].tn = f3 at *
      generalize t2[k].a = f4 at *
      generalize t2[k].tx = f5 at *
      have WT := Write_V pa5 pb5 pn5 pc5 pm5 pd5 _ prs5 x5 tZ f5 f4 _ SA.out.1 RW.out.right hts
      have HWS := Lib.hid (fun h => Vo.wr_step RW.out (at_ := f4) (t := f5) h)
      have HFW := Lib.hid (fun h => write_wf (s := x5) (name := tZ) (at_ := f4) (t := f5) RW.out.right h)
      obtain ⟨R, hR⟩ : ∃ R, Vo.writeR x5 tZ f4 f5 = R := ⟨_, rfl⟩
      rw [hR] at WT HWS HFW
      obtain ⟨RS, RE⟩ := R
      dsimp only at HWS HFW
      have x0 := XA.out.c 0 _ rfl; have x1 := XA.out.c 1 _ rfl
      have hza := BA.out.size
      clear hal hR hts
      go_wp2_with fail
      with_reducible refine WT.mono ?_
      rintro e w6 ⟨a6, n6, c6, b6, m6, d6, rs6, rfl, hs6, hb6⟩
      dsimp only at hs6
      have hcc := hb6.alloc hb6.size (.cells #[.slice a6 n6 c6, .slice b6 m6 d6] 52)
      have haa := (Below.refl _ w6).alloc (Nat.le_refl _) (.cells #[.slice a6 n6 c6, .slice b6 m6 d6] 52)
      have B7 := Lib.hid (BA.out.trans (hcc.mono hza))
      have X7 := Lib.hid (XA.out.on hcc)
      have S7 := Lib.hid (SA.out.keep hcc)
      have M7 := Lib.hid (MA.out.on hcc)
      have O7 := Lib.hid (OA.out.on hcc)
      have Y7 := Lib.hid (bxs_new w6 52 #[.slice a6 n6 c6, .slice b6 m6 d6] [.slice a6 n6 c6, .slice b6 m6 d6] rfl)
      have N7 : Hid (StP (w6.alloc (.cells #[.slice a6 n6 c6, .slice b6 m6 d6] 52)) 0 v5.heap.size v4.heap.size a6 n6 c6 b6 m6 d6 rs6 RS) := Lib.hid ((StP.new hs6 (MA.out.lt) (XA.out.lt) (Nat.zero_le _)).keep haa)
      clear hs6 hb6 hcc haa WT x0 x1 d0 d1 d2 d3 d4
      by_cases hE : RE = 0
      · subst hE
        have HW7 := Lib.hid (HWS.out rfl)
        have hwf := HFW.out rfl
        have hkN : k < maxLen := by unfold maxLen; omega
        have hne : v4.heap.size ≠ v5.heap.size := by omega
        clear HWS HFW
        go_wp2_with fail
        generalize w6.alloc (.cells #[.slice a6 n6 c6, .slice b6 m6 d6] 52) = W7 at *
        have o3 := O7.out.c 3 _ rfl
        have y0 := Y7.out.c 0 _ rfl; have y1 := Y7.out.c 1 _ rfl
        have x0 := X7.out.c 0 _ rfl; have x1 := X7.out.c 1 _ rfl; have z0 := X7.out.z 0 (show 0 < 2 by decide); have z1 := X7.out.z 1 (show 1 < 2 by decide)
        obtain ⟨W9, hup, hm9, hg9⟩ := Bm.put (W := ((W7.setCell ⟨v4.heap.size, 0, none⟩ (.slice a6 n6 c6)).setCell ⟨v4.heap.size, 1, none⟩ (.slice b6 m6 d6)).drew) ((Bm.set M7.out hne _ _).on (Below.refl _ _).drew) hwf hkN
        have HM9 := Lib.hid hm9
        have B9 : Hid (Below v4.heap.size v4 W9) := Lib.hid ((below_set2 B7.out (Nat.le_refl _) _ _).drew.grown hg9 (below_set2 B7.out (Nat.le_refl _) (.slice a6 n6 c6) (.slice b6 m6 d6)).size (fun q e => by cases e; omega))
        have X9' : Hid (Bxs W9 v4.heap.size [.slice a6 n6 c6, .slice b6 m6 d6]) := Lib.hid ((X7.out.set2 _ _).drew.grown hg9 (fun e => hne (Option.some.inj e)))
        have S9 : Hid (StP W9 0 v5.heap.size v4.heap.size a6 n6 c6 b6 m6 d6 rs6 RS) := Lib.hid (((N7.out.setB _ _).keep (Below.refl _ _).drew).map hg9)
        clear hm9 hg9
        go_region
        all_goals
          go_wp2_with fail
          go_roundw
          case rel => exact ⟨k + 1, _, _, _, _, _, _, _, _, _, hlt, by go_num, B9, X9', S9, HM9, HW7⟩
          case measure => simp [intOf]; omega
      · have hb : ((RE : Int) == 0) = false := beq_eq_false_iff_ne.2 (by omega)
        clear hE HWS HFW
        go_wp2_with fail
        go_roundw
        case rel => exact ⟨k + 1, _, _, _, _, _, _, _, _, _, hlt, by go_num, B7, X7, S7, Lib.hid (M7.out.more (Nat.le_succ _)), RW⟩
        case measure => simp [intOf]; omega
    · obtain rfl : k = len2 := by omega
      obtain ⟨L, hL, hp, hq, hfin⟩ := Vo.wr_diff RW.out
      have hone := Lib.hid RW.out.one
      have HRW := Lib.hid RW.out.right
      have HF := Lib.hid hfin
      have SW1 := Lib.hid SW.out.1
      have hLl : L.length ≤ 32 := by have := Vo.diff_len HRW.out v tZ; rw [hL] at this; exact this
      replace hL := Lib.hid hL; replace hp := Lib.hid hp; replace hq := Lib.hid hq
      have hAl : A.length ≤ 32 := by have := blocks_small HRW.out v; rw [hone.out] at this; exact this
      clear RW hfin SW
      have x0 := XW.out.c 0 _ rfl; have x1 := XW.out.c 1 _ rfl
      go_wp2_with fail
      have CT := Diff_V pa5 pb5 pn5 pc5 pm5 pd5 _ prs5 x5 v tZ _ SW1.out HRW.out
      rw [hL.out] at CT
      with_reducible refine CT.mono ?_
      rintro e v10 ⟨da10, dn10, dc10, rfl, ho10, hl10, hb10⟩
      dsimp only at ho10 hl10
      have HB_10 := Lib.hid (BWw.out.trans (hb10.mono BWw.out.size))
      have HXx_10 := Lib.hid (XW.out.on hb10)
      have HSx_10 := Lib.hid (SW1.out.keep hb10)
      have HM_10 := Lib.hid (MW.out.on hb10)
      have HOL_10 := Lib.hid (ho10)
      clear ho10 hb10 CT x0 x1
      go_wp2_with fail
      have r6w0 : Below v10.heap.size v10 v10.drew := Below.drew (Below.refl _ _)
      have r6c0_0_0 := (HXx_10.out.on r6w0).c 0 _ rfl
      have r6c0_0_1 := (HXx_10.out.on r6w0).c 1 _ rfl
      go_region_held3 (fun V => V.cell? ⟨v4.heap.size, 0, none⟩ = some (.slice pa5 pn5 pc5) ∧ V.cell? ⟨v4.heap.size, 1, none⟩ = some (.slice pb5 pm5 pd5) ∧ Below v10.heap.size v10 V)
        (first | with_reducible exact ⟨by assumption, by assumption, by assumption⟩)
        ((first
          | (go_at_call 44; have rq := Texts_V pa5 pb5 pn5 pc5 pm5 pd5 _ prs5 x5 v _ (HSx_10.out.keep r6w0) HRW.out; (with_reducible refine rq.mono ?_); clear rq; rintro e r6u1 ⟨r6ta1, r6tn1, r6tc1, rfl, r6o1, r6n1, r6h1⟩; have r6O1_1 := Lib.hid r6o1; clear r6o1; have r6w1 := r6w0.trans (r6h1.mono r6w0.size); clear r6h1; have r6c1_0_0 := (HXx_10.out.on r6w1).c 0 _ rfl; have r6c1_0_1 := (HXx_10.out.on r6w1).c 1 _ rfl)
          | (go_at_call 44; have rq := Texts_V pa5 pb5 pn5 pc5 pm5 pd5 _ prs5 x5 tZ _ (HSx_10.out.keep r6w1) HRW.out; (with_reducible refine rq.mono ?_); clear rq; rintro e r6u2 ⟨r6ta2, r6tn2, r6tc2, rfl, r6o2, r6n2, r6h2⟩; have r6O1_2 := Lib.hid (own_keep r6O1_1.out r6h2); have r6O2_2 := Lib.hid r6o2; clear r6o2; have r6w2 := r6w1.trans (r6h2.mono r6w1.size); clear r6h2; have r6c2_0_0 := (HXx_10.out.on r6w2).c 0 _ rfl; have r6c2_0_1 := (HXx_10.out.on r6w2).c 1 _ rfl)))
      have hb11 := r6w2.mono (Nat.le_refl _)
      have HB_11 := Lib.hid (HB_10.out.trans (hb11.mono HB_10.out.size))
      have HXx_11 := Lib.hid (HXx_10.out.on hb11)
      have HSx_11 := Lib.hid (HSx_10.out.keep hb11)
      have HM_11 := Lib.hid (HM_10.out.on hb11)
      have HOL_11 := Lib.hid (own_keep HOL_10.out hb11)
      clear hb11 r6w0 r6w1 r6w2
      have x0 := HXx_11.out.c 0 _ rfl; have x1 := HXx_11.out.c 1 _ rfl
      have CT := Blocks_V pa5 pb5 pn5 pc5 pm5 pd5 _ prs5 x5 v _ HSx_11.out HRW.out
      rw [hone.out] at CT
      go_wp2_with fail
      with_reducible refine CT.mono ?_
      rintro e v12 ⟨ia, inn, ic, rfl, ho12, hl12, hb12⟩
      dsimp only at ho12 hl12
      have HB_12 := Lib.hid (HB_11.out.trans (hb12.mono HB_11.out.size))
      have HXx_12 := Lib.hid (HXx_11.out.on hb12)
      have HSx_12 := Lib.hid (HSx_11.out.keep hb12)
      have HM_12 := Lib.hid (HM_11.out.on hb12)
      have HOL_12 := Lib.hid (own_keep HOL_11.out hb12)
      have Hp_12 := Lib.hid (own_keep r6O1_2.out hb12)
      have Hq_12 := Lib.hid (own_keep r6O2_2.out hb12)
      have HI_12 := Lib.hid (ho12)
      clear ho12 hb12 CT x0 x1
      obtain rfl : A.length = inn := hl12
      obtain rfl : A.length = r6tn1 := by rw [← hp.out]; exact (txt_cells Hp_12.out).1
      obtain rfl : A.length = r6tn2 := by rw [← hq.out]; exact (txt_cells Hq_12.out).1
      go_wp2_with fail
      go_loopw [110] (fun x wr => ∃ i : Nat, i ≤ A.length ∧ x = .int .i64 i ∧ Hid (Below v12.heap.size v12 wr)) (fun x _ => A.length - (intOf x).toNat)
      case atStart => exact ⟨0, Nat.zero_le _, rfl, Lib.hid (Below.refl _ _)⟩
      case round =>
        obtain ⟨i, hi3, rfl, BV⟩ := hrel
        by_cases hlt3 : i < A.length
        · have h1 : i < (Vo.textsR x5 v).length := by rw [hp.out]; exact hlt3
          have h2 : i < (Vo.textsR x5 tZ).length := by rw [hq.out]; exact hlt3
          obtain ⟨g1, rfl, -, c1⟩ := tx_at (own_keep Hp_12.out BV.out) h1
          obtain ⟨g2, rfl, -, c2⟩ := tx_at (own_keep Hq_12.out BV.out) h2
          obtain ⟨g3, rfl, -, -, c3, c4, c5⟩ := dv_at (own_keep HI_12.out BV.out) hlt3
          have hf := HF.out i h1 h2 hlt3
          have CN : ∀ W', Below v12.heap.size v12 W' → Calls Try.prog 48 #[.slice da10 dn10 dc10, .int .i64 (i : Int)] W' fun e w' => e = .returned (.bool (decide (i ∈ L))) ∧ w' = W' := fun W' hW => Contains_N da10 dn10 dc10 _ L i W' (own_keep HOL_12.out hW) (by omega)
          have LK : ∀ j, (Instr.lookup 81 (.map (some v5.heap.size)) (.int .i64 (i : Int)) false).run Try.prog (wr.drewN j) = .ok (.bool (decide ((i : Int) ∈ l5))) (wr.drewN j) := fun j => (HM_12.out.on (below_drewN BV.out j)).look (WalkArith.wf_i64 (by omega))
          generalize (Vo.textsR x5 v)[i] = sp at *
          generalize (Vo.textsR x5 tZ)[i] = sq at *
          generalize A[i].is = ai at *
          generalize A[i].sum = asum at *
          generalize A[i].n = anum at *
          by_cases hm : (i : Int) ∈ l5
          · rw [decide_eq_true hm] at LK
            by_cases hpq : sp = sq
            · subst hpq
              cases ai with
              | false =>
                rw [decide_eq_true (hf.2 ⟨hm, Or.inr rfl⟩)] at CN
                clear hf hm
                go_wp2_with fail
                go_quiet ((go_at_call 48; refine Calls.quiet_of_same (CN _ ?_); exact below_drewN BV.out _))
                go_wp2_with fail
                go_roundw
                case rel => exact ⟨i + 1, hlt3, by go_num, Lib.hid (below_drewN BV.out _)⟩
                case measure => simp [intOf]; omega
              | true =>
                rw [decide_eq_false (fun h => (hf.1 h).2.elim (fun h => h rfl) (fun h => by cases h))] at CN
                clear hf hm
                go_wp2_with fail
                go_quiet ((go_at_call 48; refine Calls.quiet_of_same (CN _ ?_); exact below_drewN BV.out _))
                go_wp2_with fail
                go_roundw
                case rel => exact ⟨i + 1, hlt3, by go_num, Lib.hid (below_drewN BV.out _)⟩
                case measure => simp [intOf]; omega
            · rw [decide_eq_true (hf.2 ⟨hm, Or.inl hpq⟩)] at CN
              have hne := str_ne hpq
              clear hpq
              clear hf hm
              go_wp2_with fail
              go_quiet ((go_at_call 48; refine Calls.quiet_of_same (CN _ ?_); exact below_drewN BV.out _))
              go_wp2_with fail
              go_roundw
              case rel => exact ⟨i + 1, hlt3, by go_num, Lib.hid (below_drewN BV.out _)⟩
              case measure => simp [intOf]; omega
          · rw [decide_eq_false hm] at LK
            rw [decide_eq_false (fun h => hm (hf.1 h).1)] at CN
            clear hf hm
            go_wp2_with fail
            go_quiet ((go_at_call 48; refine Calls.quiet_of_same (CN _ ?_); exact below_drewN BV.out _))
            go_wp2_with fail
            go_roundw
            case rel => exact ⟨i + 1, hlt3, by go_num, Lib.hid (below_drewN BV.out _)⟩
            case measure => simp [intOf]; omega
        · obtain rfl : i = A.length := by omega
          go_wp2_with fail
          go_ret
          exact ⟨rfl, HB_12.out.trans (BV.out.mono HB_12.out.size)⟩

end Go.Proofs.Yteddendidjhmbaa
