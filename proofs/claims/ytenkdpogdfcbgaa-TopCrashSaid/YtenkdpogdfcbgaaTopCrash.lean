/- TopCrash: whatever two hands do, and whatever a crash takes, there is what was done up to some deed, and what is done from then on is done; for every input. -/
import Derived.Test.YtenkdpogdfcbgaaTgS
import Derived.Test.YtenkdpogdfcbgaaTgE
import Derived.Test.YtenkdpogdfcbgaaPolyW2
import Derived.Test.YtenkdpogdfcbgaaArgsO
import Derived.Deep.AppendLies
namespace Go.Proofs.Ytenkdpogdfcbgaa
open Go.RowKit

set_option maxHeartbeats 1000000 in
theorem crash_begun : Ans1 14 #[] (.bool true) := fun w => by
  have M : ∀ w, Calls Try.prog 97 #[.int .i64 3, .int .i64 3] w fun e w' => e = .returned (.tuple #[.int .i64 5, .int .i64 0]) ∧ w = w' := fun w => Mul_ok 3 3 w (by decide) (by decide) (by decide)
  go_enter Try.func14, Try.ntmps14
  go_wp2_with fail
  with_reducible refine (M _).mono ?_
  rintro e w' ⟨rfl, rfl⟩
  go_wp2_with fail
  go_ret
  exact ⟨rfl, rfl⟩

/-- Rows of unlike elements are unlike blocks. -/
theorem own_types {w : World} {b1 b2 : Nat} {e1 e2 : TypeId} {s1 s2 : Nat} {v1 v2 : Value} {n1 n2 : Nat} {xs1 xs2 : List Value} (h1 : w.ownsRow b1 e1 s1 v1 n1 xs1) (h2 : w.ownsRow b2 e2 s2 v2 n2 xs2) (hne : e1 ≠ e2) : ∀ k, v1.ownBlock = some k → v2.ownBlock ≠ some k := fun k k1 k2 => by
  rcases h1.2 with ⟨rfl, -⟩ | ⟨g, cap, cur, rfl, -, hh, -⟩
  · cases k1
  · rcases h2.2 with ⟨rfl, -⟩ | ⟨g', cap', cur', rfl, -, hh', -⟩
    · cases k2
    · cases k1
      have e : g' = g := Option.some.inj k2
      subst e
      rw [hh] at hh'
      injection hh' with h3
      injection h3 with h4 h5
      exact hne h5

/-- A target stands while a row of deeds grows. -/
theorem TgW.deeds {w w' : World} {B base G bo n : Nat} {t : Tg.S} {v : Value} {xs : List Value} (h : TgW w B base t G) (ho : w.ownsRow bo 55 5 v n xs) (hB : B < bo) (hg : w.grownBy w' v.ownBlock) : TgW w' B base t G := by
  obtain ⟨a, n1, c, b, m, d, rs, x, y, z, k1, k2, k3⟩ := h.ex
  have hb := row_base ho
  refine ⟨h.lt, Nat.le_trans h.le hg.size, ⟨a, n1, c, b, m, d, rs, x, y, z, k1.grown hg (fun e => by have := hb B e.symm; omega), k2.kept hg (fun u hu k hk e => ?_) (fun u hu k hk => (k2.lt u hu k hk).2), own_kept2 k3 hg (fun k hk e => own_types k3 ho (by decide) k hk e)⟩, h.good⟩
  unfold sls at hu
  rcases List.mem_cons.1 hu with rfl | hu
  · exact own_types k2.bag ho (by decide) k hk e
  rcases List.mem_cons.1 hu with rfl | hu
  · exact own_types k2.row ho (by decide) k hk e
  obtain ⟨r, hr, rfl⟩ := List.mem_map.1 hu
  obtain ⟨i, hi, rfl⟩ := List.getElem_of_mem hr
  obtain ⟨-, h2, -⟩ := k2.vol i rs[i] (t.st.vols[i]'(by rw [k2.vlen, ← k2.rlen]; exact hi)) (List.getElem?_eq_getElem hi) (List.getElem?_eq_getElem _)
  exact own_types h2 ho (by decide) k hk e

theorem do_l {t : Tg.S} {x : Int} {o : Lg.Op} (h : (Tg.doR t x o).e = 0) : (Tg.doR t x o).t.l = t.l ++ [o] := by
  unfold Tg.doR at h ⊢
  split
  · rename_i h1
    rw [if_pos h1] at h
    cases h
  · rename_i h1
    rw [if_neg h1] at h
    split
    · rename_i h2
      rw [if_pos h2] at h
      exact absurd h h2
    · rename_i h2
      rw [if_neg h2] at h
      split
      · rename_i h3
        rw [if_pos h3] at h
        cases h
      · rfl

theorem doR_r' (t : Tg.S) (x : Int) (o : Lg.Op) : (Tg.doR t x o).t.r = t.r := by
  unfold Tg.doR
  split
  · rfl
  · split
    · rfl
    · split <;> rfl

theorem ov_take : ∀ (l : List Lg.Op) (k : Nat), ov (l.take k) = (ov l).take (k * 5)
  | _, 0 => by rw [List.take_zero, Nat.zero_mul, List.take_zero]; rfl
  | [], k + 1 => by rw [List.take_nil]; show ([] : List Value) = List.take _ []; rw [List.take_nil]
  | o :: l, k + 1 => by
    rw [List.take_succ_cons, show (k + 1) * 5 = k * 5 + 5 from by omega]
    show (.int .i64 o.k :: .string o.nm :: .string o.tn :: .int .i64 o.a :: .string o.tx :: ov (l.take k) : List Value) = _
    rw [ov_take l k]
    rfl

/-- The beginning of a row of deeds. -/
theorem own_head {w : World} {base n c k : Nat} {a : Option Addr} {l : List Lg.Op} (h : w.ownsRow base 55 5 (.slice a n c) n (ov l)) (hk : k ≤ n) : w.ownsRow base 55 5 (.slice a k c) k (ov (l.take k)) := by
  rw [ov_take]
  refine ⟨by rw [List.length_take, h.1]; exact Nat.min_eq_left (by omega), ?_⟩
  rcases h.2 with ⟨hv, h0⟩ | ⟨g, cap, cur, hv, h1, h2, h3, h4, h5, h6⟩
  · cases hv
    obtain rfl : k = 0 := by omega
    exact Or.inl ⟨rfl, rfl⟩
  · cases hv
    refine Or.inr ⟨g, c, cur, rfl, h1, h2, by omega, h4, h5, ?_⟩
    rw [← h6, List.take_take, Nat.min_eq_left (by omega)]

set_option maxRecDepth 100000 in
set_option maxHeartbeats 8000000 in
theorem topCrash_walk (a0 : Option Addr) (len0 cap0 : Nat) (t0 : List Lg.Op) (a1 : Option Addr) (len1 cap1 : Nat) (t1 : List Lg.Op) (a2 : Int) (w : World) (w0 : OArg w a0 len0 cap0 t0) (w1 : OArg w a1 len1 cap1 t1) (_w2 : (Lit.int .i64 a2).wf = true) :
    Calls Try.prog 6 #[.slice a0 len0 cap0, .slice a1 len1 cap1, .int .i64 a2] w fun e w' => e = .returned (.bool true) ∧ Below w.heap.size w w' := by
  obtain ⟨i0, hi, hz0, hz1, hz2⟩ := info_parts kp_infoOp
  obtain ⟨q, hq⟩ : ∃ q, min len0 60 = q := ⟨_, rfl⟩
  have hq1 : q ≤ len0 := by omega
  have hqi : min (len0 : Int) 60 = (q : Int) := by omega
  have hq60 : q ≤ 60 := by omega
  have hcap := w0.1.cap
  have hmax := w0.1.max
  unfold maxLen at hmax
  obtain ⟨q2, hq2⟩ : ∃ q, min len1 60 = q := ⟨_, rfl⟩
  have hq3 : q2 ≤ len1 := by omega
  have hqj : min (len1 : Int) 60 = (q2 : Int) := by omega
  have hq61 : q2 ≤ 60 := by omega
  have hcap1 := w1.1.cap
  have hmax1 := w1.1.max
  unfold maxLen at hmax1
  have HM : Hid (∀ t ∈ t0.take q, t.nm.size ≤ maxLen ∧ t.tn.size ≤ maxLen ∧ t.tx.size ≤ maxLen) := Lib.hid fun t ht => w0.2 t (List.mem_of_mem_take ht)
  have HM2 : Hid (∀ t ∈ t1.take q2, t.nm.size ≤ maxLen ∧ t.tn.size ≤ maxLen ∧ t.tx.size ≤ maxLen) := Lib.hid fun t ht => w1.2 t (List.mem_of_mem_take ht)
  have HT := Lib.hid (w0.1.take hq1)
  have HTB := Lib.hid (w1.1.take hq3)
  have BG := crash_begun
  have N1 := New_X w
  clear w0 w1 hq hq2
  go_enter Try.func6, Try.ntmps6
  go_wp2_with fail
  with_reducible refine N1.mono ?_
  rintro e v1 ⟨rfl, hx1, hb1, hs1⟩
  have HT1 := Lib.hid (tgw_zero hx1 (show w.heap.size < w.heap.size + 1 by omega) (by omega)); have HB1 := Lib.hid hb1
  clear hx1 hb1 N1 hs1
  go_wp2_with fail
  with_reducible refine BG.use ?_
  rintro e w' ⟨rfl, rfl⟩
  go_wp2_with fail
  go_loopw [8, 32] (fun v x wr => ∃ (k : Nat) (T : Tg.S) (al : Option Addr) (nl cl : Nat), k ≤ q ∧ v = .slice al nl cl ∧ x = .int .i64 k ∧ Hid (T.r = Rg.zero ∧ T.l.length = nl ∧ nl ≤ k + 0) ∧ Hid (TgW wr w.heap.size (w.heap.size + 1) T 0) ∧ Hid (wr.ownsRow (w.heap.size + 1) 55 5 (.slice al nl cl) nl (ov T.l)) ∧ Hid (Below w.heap.size w wr)) (fun _ x _ => q - (intOf x).toNat)
  case atStart => exact ⟨0, Tg.zero, none, 0, 0, Nat.zero_le _, rfl, rfl, Lib.hid ⟨rfl, rfl, Nat.le_refl _⟩, HT1, Lib.hid (World.ownsRow_nil _ _ _ _), HB1⟩
  case round =>
    obtain ⟨k, T, al, nl, cl, hk, rfl, rfl, HS, TW, OW, BW⟩ := hrel
    by_cases hlt : k < q
    · have hkl : k < (t0.take q).length := by rw [HT.out.len]; exact hlt
      obtain ⟨X, b', o', s', rfl, hX, d0, d1, d2, d3, d4⟩ := (HT.out.keep BW.out).get hkl
      have hm := HM.out (t0.take q)[k] (List.getElem_mem hkl)
      obtain ⟨R, hR⟩ : ∃ R, Tg.doR T ((k : Int) % 2) (t0.take q)[k] = R := ⟨_, rfl⟩
      have hal := (Below.refl wr.heap.size wr).alloc (Nat.le_refl _) (.cells #[.int .i64 (t0.take q)[k].k, .string (t0.take q)[k].nm, .string (t0.take q)[k].tn, .int .i64 (t0.take q)[k].a, .string (t0.take q)[k].tx] 55)
      have D1 := Do_T w.heap.size (w.heap.size + 1) 0 T ((k : Int) % 2) (t0.take q)[k] _ (TW.out.keep hal) (by omega) (by omega) hm.1 hm.2.1 hm.2.2
      have HRR : Hid (R.t.r = Rg.zero) := Lib.hid (by rw [← hR, doR_r']; exact HS.out.1)
      have HRL : Hid (R.e = 0 → R.t.l = T.l ++ [(t0.take q)[k]]) := Lib.hid fun h => by rw [← hR] at h ⊢; exact do_l h
      have HRS : Hid (R.e ≠ 0 → R.t = T) := Lib.hid fun h => by rw [← hR] at h ⊢; exact Tg.do_same _ _ _ h
      have HOV : Hid (∀ l : List Lg.Op, l = T.l ++ [(t0.take q)[k]] → ov l = ov T.l ++ [.int .i64 (t0.take q)[k].k, .string (t0.take q)[k].nm, .string (t0.take q)[k].tn, .int .i64 (t0.take q)[k].a, .string (t0.take q)[k].tx] ∧ l.length = T.l.length + 1) := Lib.hid fun l h => by rw [h, ov_app]; exact ⟨rfl, by rw [List.length_append]; rfl⟩
      rw [hR] at D1
      have HAL := Lib.hid hal
      have HP := Lib.hid (bxs_new wr 55 #[.int .i64 (t0.take q)[k].k, .string (t0.take q)[k].nm, .string (t0.take q)[k].tn, .int .i64 (t0.take q)[k].a, .string (t0.take q)[k].tx] [.int .i64 (t0.take q)[k].k, .string (t0.take q)[k].nm, .string (t0.take q)[k].tn, .int .i64 (t0.take q)[k].a, .string (t0.take q)[k].tx] rfl)
      obtain ⟨T9, hT9⟩ : ∃ T9, (t0.take q)[k] = T9 := ⟨_, rfl⟩
      have HRL2 : Hid (R.e = 0 → R.t.l = T.l ++ [T9]) := Lib.hid fun h => by rw [← hT9]; exact HRL.out h
      have HOV2 : Hid (∀ l : List Lg.Op, l = T.l ++ [T9] → ov l = ov T.l ++ [.int .i64 (t0.take q)[k].k, .string (t0.take q)[k].nm, .string (t0.take q)[k].tn, .int .i64 (t0.take q)[k].a, .string (t0.take q)[k].tx] ∧ l.length = T.l.length + 1) := Lib.hid fun l h => HOV.out l (by rw [hT9]; exact h)
      clear hR hal hm hT9 HRL HOV
      generalize (t0.take q)[k].k = f1 at *
      generalize (t0.take q)[k].nm = f2 at *
      generalize (t0.take q)[k].tn = f3 at *
      generalize (t0.take q)[k].a = f4 at *
      generalize (t0.take q)[k].tx = f5 at *
      obtain ⟨RT, RE⟩ := R
      dsimp only at HRR HRL2 HRS D1
      go_wp2_with fail
      with_reducible refine D1.mono ?_
      rintro e w2 ⟨rfl, h2, g2⟩
      have HT2 := Lib.hid h2
      have HB2 := Lib.hid (tgTo_below (BW.out.trans (HAL.out.mono BW.out.size)) g2 (Nat.le_refl _))
      have HO2 := Lib.hid (own_kept2 (own_keep OW.out HAL.out) g2 (fun j hj e => by have := row_base OW.out j hj; have := Option.some.inj e; omega))
      have HP2 := Lib.hid (HP.out.grown g2 (fun e => by have := Option.some.inj e; have := TW.out.le; omega))
      clear h2 g2 D1 d0 d1 d2 d3 d4
      by_cases hE : RE = 0
      · subst hE
        have hln := (HOV2.out RT.l (HRL2.out rfl)).2
        have hov := (HOV2.out RT.l (HRL2.out rfl)).1
        have HLN := Lib.hid hln; have HOW := Lib.hid hov
        have hnl := HS.out.2.1; have hnk := HS.out.2.2
        have p0 := HP2.out.c 0 _ rfl; have p1 := HP2.out.c 1 _ rfl; have p2 := HP2.out.c 2 _ rfl; have p3 := HP2.out.c 3 _ rfl; have p4 := HP2.out.c 4 _ rfl
        have hb1 : nl + 1 ≤ maxLen := by unfold maxLen; omega
        have hb22 : (nl + 1) * 64 ≤ 140737488355328 := by omega
        have hb3 : w.heap.size + 1 ≤ (w2.alloc (.cells #[.int .i64 f1, .string f2, .string f3, .int .i64 f4, .string f5] 55)).heap.size := by rw [World.size_alloc]; have := HT2.out.le; omega
        have HOA := Lib.hid (HO2.out.alloc (.cells #[.int .i64 f1, .string f2, .string f3, .int .i64 f4, .string f5] 55))
        have HCE : Hid (∀ (j : Nat) (u : Value), [Value.int .i64 f1, .string f2, .string f3, .int .i64 f4, .string f5][j]? = some u → (w2.alloc (.cells #[.int .i64 f1, .string f2, .string f3, .int .i64 f4, .string f5] 55)).cell? ((⟨w2.heap.size, 0, none⟩ : Addr).add j) = some u) := Lib.hid (World.news_of_block (w := w2.alloc (.cells #[.int .i64 f1, .string f2, .string f3, .int .i64 f4, .string f5] 55)) (B := w2.heap.size) (cs := #[.int .i64 f1, .string f2, .string f3, .int .i64 f4, .string f5]) (t := 55) (fr := (0, 0)) (Go.Deep.blk_alloc_new w2 _))
        have HON : Hid (∀ u ∈ [Value.int .i64 f1, .string f2, .string f3, .int .i64 f4, .string f5], u.oneCell' = true) := Lib.hid (by intro u hu; simp at hu; rcases hu with rfl | rfl | rfl | rfl | rfl <;> rfl)
        have HT3 := Lib.hid (HT2.out.keep ((Below.refl _ w2).alloc (Nat.le_refl _) (.cells #[.int .i64 f1, .string f2, .string f3, .int .i64 f4, .string f5] 55)))
        have HB3 := Lib.hid (HB2.out.alloc HB2.out.size (.cells #[.int .i64 f1, .string f2, .string f3, .int .i64 f4, .string f5] 55))
        clear hln hov hnl hnk
        go_wp2_with (at_builtin; refine wpList_append_lies _ rfl _ _ _ rfl (w.heap.size + 1) 55 i0 (.agg #[.int .i64 0, .string ⟨#[]⟩, .string ⟨#[]⟩, .int .i64 0, .string ⟨#[]⟩]) 5 64 Try.underlying50 hi hz0 hz1 hz2 rfl (by decide) (.slice al nl cl) nl (ov T.l) rfl HOA.out ⟨w2.heap.size, 0, none⟩ 1 1 [.int .i64 f1, .string f2, .string f3, .int .i64 f4, .string f5] rfl rfl HCE.out HON.out (by decide) hb1 hb22 hb3 _ rfl ?_)
        intro g' cap' wq q1 q2 q3 q4
        have HTQ := Lib.hid (HT3.out.deeds HOA.out (Nat.lt_succ_self _) q2)
        have HBQ := Lib.hid (HB3.out.grown q2 HB3.out.size (fun j e => by have := row_base HOA.out j e; omega))
        have HOQ : Hid (wq.ownsRow (w.heap.size + 1) 55 5 (.slice (some ⟨g', 0, none⟩) (nl + 1) cap') (nl + 1) (ov RT.l)) := Lib.hid (by rw [HOW.out]; exact q1)
        clear q1 q2 q3 q4
        go_wp2_with fail
        go_roundw
        case rel => exact ⟨k + 1, RT, _, _, _, hlt, rfl, by go_num, Lib.hid ⟨HRR.out, by rw [HLN.out, HS.out.2.1], by have := HS.out.2.2; omega⟩, HTQ, HOQ, HBQ⟩
        case measure => simp [intOf]; omega
      · have hrs := HRS.out hE
        subst hrs
        have hb : ((RE : Int) == 0) = false := beq_eq_false_iff_ne.2 (by omega)
        clear hE
        go_wp2_with fail
        go_roundw
        case rel => exact ⟨k + 1, _, _, _, _, hlt, rfl, by go_num, Lib.hid ⟨HRR.out, HS.out.2.1, by have := HS.out.2.2; omega⟩, HT2, HO2, HB2⟩
        case measure => simp [intOf]; omega
    · obtain rfl : k = q := by omega
      have hG := TW.out.good
      have hsz := hG.size
      have L1 := Log_T w.heap.size (w.heap.size + 1) 0 T wr TW.out
      have WI : ∀ W, Calls Try.prog 17 #[.int .i64 a2, .int .i64 (((Tg.text T).size : Int) + 1)] W fun e w' => e = .returned (.int .i64 (wi a2 ((Tg.text T).size + 1) : Nat)) ∧ W = w' := fun W =>
        within_any a2 _ ((Tg.text T).size + 1) W (by omega) (by omega) (by omega)
      generalize wi a2 ((Tg.text T).size + 1) = p at *
      generalize Tg.text T = TX at *
      have C2 := Crash_T w.heap.size (w.heap.size + 1) 0 T (p : Int) wr TW.out
      have hcl : (Tg.crashR T (p : Int)).l = T.l.take (Tg.crashN T (p : Int)) := rfl
      have hcr : (Tg.crashR T (p : Int)).r = Rg.zero := rfl
      have hcn : Tg.crashN T (p : Int) ≤ T.l.length := Tg.cut_le _ _
      obtain ⟨C, hC⟩ : ∃ C, Tg.crashR T (p : Int) = C := ⟨_, rfl⟩
      rw [hC] at C2 hcl hcr
      obtain ⟨K, hK⟩ : ∃ K, Tg.crashN T (p : Int) = K := ⟨_, rfl⟩
      rw [hK] at C2 hcl hcn
      have hKn : K ≤ nl := by rw [← HS.out.2.1]; exact hcn
      have hn60 : nl ≤ k := by have := HS.out.2.2; omega
      have HCL : Hid (C.l = T.l.take K ∧ C.l.length = K) := Lib.hid ⟨hcl, by rw [hcl, List.length_take]; omega⟩
      have HCR := Lib.hid hcr
      have hK1 : ¬ (nl : Int) < (K : Int) := by omega
      have hK3 : ¬ nl < K := by omega
      have hK4 : decide (nl < K) = false := decide_eq_false hK3
      have hK5 : decide ((K : Int) < 0) = false := decide_eq_false (by omega)
      have hK2 : (K : Int) ≤ (cl : Int) := by
        have := (own_cap OW.out).1
        omega
      clear hC hK hcl hcr hcn hG
      go_wp2_with fail
      with_reducible refine L1.mono ?_
      rintro e v2 ⟨rfl, rfl⟩
      clear L1
      go_wp2_with fail
      with_reducible refine (WI _).mono ?_
      rintro e w' ⟨rfl, rfl⟩
      go_wp2_with fail
      with_reducible refine C2.mono ?_
      rintro e v3 ⟨rfl, h3, g3⟩
      have HT3 := Lib.hid h3; have HB3 := Lib.hid (tgTo_below BW.out g3 (Nat.le_refl _))
      have HO3 : Hid (v3.ownsRow (w.heap.size + 1) 55 5 (.slice al K cl) K (ov C.l)) := Lib.hid (by
        rw [HCL.out.1]
        exact own_head (own_kept2 OW.out g3 (fun j hj e => by have := row_base OW.out j hj; have := Option.some.inj e; omega)) hKn)
      clear h3 g3 C2 WI
      have hK0 : (0 : Int) ≤ (K : Int) := by omega
      go_wp2_with fail
      go_loopw [8, 73] (fun v x wr => ∃ (k : Nat) (T : Tg.S) (al : Option Addr) (nl cl : Nat), k ≤ q2 ∧ v = .slice al nl cl ∧ x = .int .i64 k ∧ Hid (T.r = Rg.zero ∧ T.l.length = nl ∧ nl ≤ k + 60) ∧ Hid (TgW wr w.heap.size (w.heap.size + 1) T 0) ∧ Hid (wr.ownsRow (w.heap.size + 1) 55 5 (.slice al nl cl) nl (ov T.l)) ∧ Hid (Below w.heap.size w wr)) (fun _ x _ => q2 - (intOf x).toNat)
      case atStart => exact ⟨0, C, al, K, cl, Nat.zero_le _, rfl, rfl, Lib.hid ⟨HCR.out, HCL.out.2, by omega⟩, HT3, HO3, HB3⟩
      case round =>
        obtain ⟨k, T, al, nl, cl, hk, rfl, rfl, HS, TW, OW, BW⟩ := hrel
        by_cases hlt : k < q2
        · have hkl : k < (t1.take q2).length := by rw [HTB.out.len]; exact hlt
          obtain ⟨X, b', o', s', rfl, hX, d0, d1, d2, d3, d4⟩ := (HTB.out.keep BW.out).get hkl
          have hm := HM2.out (t1.take q2)[k] (List.getElem_mem hkl)
          obtain ⟨R, hR⟩ : ∃ R, Tg.doR T ((k : Int) % 3) (t1.take q2)[k] = R := ⟨_, rfl⟩
          have hal := (Below.refl wr.heap.size wr).alloc (Nat.le_refl _) (.cells #[.int .i64 (t1.take q2)[k].k, .string (t1.take q2)[k].nm, .string (t1.take q2)[k].tn, .int .i64 (t1.take q2)[k].a, .string (t1.take q2)[k].tx] 55)
          have D1 := Do_T w.heap.size (w.heap.size + 1) 0 T ((k : Int) % 3) (t1.take q2)[k] _ (TW.out.keep hal) (by omega) (by omega) hm.1 hm.2.1 hm.2.2
          have HRR : Hid (R.t.r = Rg.zero) := Lib.hid (by rw [← hR, doR_r']; exact HS.out.1)
          have HRL : Hid (R.e = 0 → R.t.l = T.l ++ [(t1.take q2)[k]]) := Lib.hid fun h => by rw [← hR] at h ⊢; exact do_l h
          have HRS : Hid (R.e ≠ 0 → R.t = T) := Lib.hid fun h => by rw [← hR] at h ⊢; exact Tg.do_same _ _ _ h
          have HOV : Hid (∀ l : List Lg.Op, l = T.l ++ [(t1.take q2)[k]] → ov l = ov T.l ++ [.int .i64 (t1.take q2)[k].k, .string (t1.take q2)[k].nm, .string (t1.take q2)[k].tn, .int .i64 (t1.take q2)[k].a, .string (t1.take q2)[k].tx] ∧ l.length = T.l.length + 1) := Lib.hid fun l h => by rw [h, ov_app]; exact ⟨rfl, by rw [List.length_append]; rfl⟩
          rw [hR] at D1
          have HAL := Lib.hid hal
          have HP := Lib.hid (bxs_new wr 55 #[.int .i64 (t1.take q2)[k].k, .string (t1.take q2)[k].nm, .string (t1.take q2)[k].tn, .int .i64 (t1.take q2)[k].a, .string (t1.take q2)[k].tx] [.int .i64 (t1.take q2)[k].k, .string (t1.take q2)[k].nm, .string (t1.take q2)[k].tn, .int .i64 (t1.take q2)[k].a, .string (t1.take q2)[k].tx] rfl)
          obtain ⟨T9, hT9⟩ : ∃ T9, (t1.take q2)[k] = T9 := ⟨_, rfl⟩
          have HRL2 : Hid (R.e = 0 → R.t.l = T.l ++ [T9]) := Lib.hid fun h => by rw [← hT9]; exact HRL.out h
          have HOV2 : Hid (∀ l : List Lg.Op, l = T.l ++ [T9] → ov l = ov T.l ++ [.int .i64 (t1.take q2)[k].k, .string (t1.take q2)[k].nm, .string (t1.take q2)[k].tn, .int .i64 (t1.take q2)[k].a, .string (t1.take q2)[k].tx] ∧ l.length = T.l.length + 1) := Lib.hid fun l h => HOV.out l (by rw [hT9]; exact h)
          clear hR hal hm hT9 HRL HOV
          generalize (t1.take q2)[k].k = f1 at *
          generalize (t1.take q2)[k].nm = f2 at *
          generalize (t1.take q2)[k].tn = f3 at *
          generalize (t1.take q2)[k].a = f4 at *
          generalize (t1.take q2)[k].tx = f5 at *
          obtain ⟨RT, RE⟩ := R
          dsimp only at HRR HRL2 HRS D1
          go_wp2_with fail
          with_reducible refine D1.mono ?_
          rintro e w2 ⟨rfl, h2, g2⟩
          have HT2 := Lib.hid h2
          have HB2 := Lib.hid (tgTo_below (BW.out.trans (HAL.out.mono BW.out.size)) g2 (Nat.le_refl _))
          have HO2 := Lib.hid (own_kept2 (own_keep OW.out HAL.out) g2 (fun j hj e => by have := row_base OW.out j hj; have := Option.some.inj e; omega))
          have HP2 := Lib.hid (HP.out.grown g2 (fun e => by have := Option.some.inj e; have := TW.out.le; omega))
          clear h2 g2 D1 d0 d1 d2 d3 d4
          by_cases hE : RE = 0
          · subst hE
            have hln := (HOV2.out RT.l (HRL2.out rfl)).2
            have hov := (HOV2.out RT.l (HRL2.out rfl)).1
            have HLN := Lib.hid hln; have HOW := Lib.hid hov
            have hnl := HS.out.2.1; have hnk := HS.out.2.2
            have p0 := HP2.out.c 0 _ rfl; have p1 := HP2.out.c 1 _ rfl; have p2 := HP2.out.c 2 _ rfl; have p3 := HP2.out.c 3 _ rfl; have p4 := HP2.out.c 4 _ rfl
            have hb1 : nl + 1 ≤ maxLen := by unfold maxLen; omega
            have hb22 : (nl + 1) * 64 ≤ 140737488355328 := by omega
            have hb3 : w.heap.size + 1 ≤ (w2.alloc (.cells #[.int .i64 f1, .string f2, .string f3, .int .i64 f4, .string f5] 55)).heap.size := by rw [World.size_alloc]; have := HT2.out.le; omega
            have HOA := Lib.hid (HO2.out.alloc (.cells #[.int .i64 f1, .string f2, .string f3, .int .i64 f4, .string f5] 55))
            have HCE : Hid (∀ (j : Nat) (u : Value), [Value.int .i64 f1, .string f2, .string f3, .int .i64 f4, .string f5][j]? = some u → (w2.alloc (.cells #[.int .i64 f1, .string f2, .string f3, .int .i64 f4, .string f5] 55)).cell? ((⟨w2.heap.size, 0, none⟩ : Addr).add j) = some u) := Lib.hid (World.news_of_block (w := w2.alloc (.cells #[.int .i64 f1, .string f2, .string f3, .int .i64 f4, .string f5] 55)) (B := w2.heap.size) (cs := #[.int .i64 f1, .string f2, .string f3, .int .i64 f4, .string f5]) (t := 55) (fr := (0, 0)) (Go.Deep.blk_alloc_new w2 _))
            have HON : Hid (∀ u ∈ [Value.int .i64 f1, .string f2, .string f3, .int .i64 f4, .string f5], u.oneCell' = true) := Lib.hid (by intro u hu; simp at hu; rcases hu with rfl | rfl | rfl | rfl | rfl <;> rfl)
            have HT3 := Lib.hid (HT2.out.keep ((Below.refl _ w2).alloc (Nat.le_refl _) (.cells #[.int .i64 f1, .string f2, .string f3, .int .i64 f4, .string f5] 55)))
            have HB3 := Lib.hid (HB2.out.alloc HB2.out.size (.cells #[.int .i64 f1, .string f2, .string f3, .int .i64 f4, .string f5] 55))
            clear hln hov hnl hnk
            go_wp2_with (at_builtin; refine wpList_append_lies _ rfl _ _ _ rfl (w.heap.size + 1) 55 i0 (.agg #[.int .i64 0, .string ⟨#[]⟩, .string ⟨#[]⟩, .int .i64 0, .string ⟨#[]⟩]) 5 64 Try.underlying50 hi hz0 hz1 hz2 rfl (by decide) (.slice al nl cl) nl (ov T.l) rfl HOA.out ⟨w2.heap.size, 0, none⟩ 1 1 [.int .i64 f1, .string f2, .string f3, .int .i64 f4, .string f5] rfl rfl HCE.out HON.out (by decide) hb1 hb22 hb3 _ rfl ?_)
            intro g' cap' wq q1 q2 q3 q4
            have HTQ := Lib.hid (HT3.out.deeds HOA.out (Nat.lt_succ_self _) q2)
            have HBQ := Lib.hid (HB3.out.grown q2 HB3.out.size (fun j e => by have := row_base HOA.out j e; omega))
            have HOQ : Hid (wq.ownsRow (w.heap.size + 1) 55 5 (.slice (some ⟨g', 0, none⟩) (nl + 1) cap') (nl + 1) (ov RT.l)) := Lib.hid (by rw [HOW.out]; exact q1)
            clear q1 q2 q3 q4
            go_wp2_with fail
            go_roundw
            case rel => exact ⟨k + 1, RT, _, _, _, hlt, rfl, by go_num, Lib.hid ⟨HRR.out, by rw [HLN.out, HS.out.2.1], by have := HS.out.2.2; omega⟩, HTQ, HOQ, HBQ⟩
            case measure => simp [intOf]; omega
          · have hrs := HRS.out hE
            subst hrs
            have hb : ((RE : Int) == 0) = false := beq_eq_false_iff_ne.2 (by omega)
            clear hE
            go_wp2_with fail
            go_roundw
            case rel => exact ⟨k + 1, _, _, _, _, hlt, rfl, by go_num, Lib.hid ⟨HRR.out, HS.out.2.1, by have := HS.out.2.2; omega⟩, HT2, HO2, HB2⟩
            case measure => simp [intOf]; omega
        · obtain rfl : k = q2 := by omega
          have hG := TW.out.good
          have hnl := HS.out.2.1
          have hnk := HS.out.2.2
          have L1 : Calls Try.prog 42 #[.slice al nl cl] wr fun e w' => e = .returned (.tuple #[.string (Tg.text T), .int .i64 0]) ∧ Below wr.heap.size wr w' := Log_L al nl cl T.l wr (own_osl OW.out hnl) hG.chk (by omega)
          have RC : Hid (∀ V, Calls Try.prog 43 #[.string (Tg.text T)] V (RepTo V T.st nl 0)) := Lib.hid fun V => by
            have := Replay_T hG V
            rw [hnl] at this
            exact this
          have HLG : Hid (∀ V, TgW V w.heap.size (w.heap.size + 1) T 0 → Calls Try.prog 41 #[.pointer (some ⟨w.heap.size, 0, none⟩)] V fun e w' => e = .returned (.string (Tg.text T)) ∧ V = w') := Lib.hid fun V h => Log_T _ _ _ T V h
          have HRT := Lib.hid hG.right
          generalize Tg.text T = TX at *
          clear hG hnl
          go_wp2_with fail
          with_reducible refine L1.mono ?_
          rintro e v4 ⟨rfl, hb4⟩
          have HT4 := Lib.hid (TW.out.keep hb4); have HB4 := Lib.hid (BW.out.trans (hb4.mono BW.out.size))
          clear hb4 L1
          go_wp2_with fail
          with_reducible refine (RC.out _).mono ?_
          rintro e v5 ⟨a7, n7, c7, b7, m7, d7, rs7, rfl, hs7, hb7⟩
          have hal := hb7.alloc hb7.size (.cells #[.slice a7 n7 c7, .slice b7 m7 d7] 53)
          have HT8 := Lib.hid (HT4.out.keep hal); have HB8 := Lib.hid (HB4.out.trans (hal.mono HB4.out.size)); have HS8 := Lib.hid (hs7.keep ((Below.refl _ v5).alloc (Nat.le_refl _) (.cells #[.slice a7 n7 c7, .slice b7 m7 d7] 53)))
          have HX8 := Lib.hid (bxs_new v5 53 #[.slice a7 n7 c7, .slice b7 m7 d7] [.slice a7 n7 c7, .slice b7 m7 d7] rfl)
          clear hal hs7 hb7 RC HT4 HB4
          go_wp2_with fail
          obtain ⟨XB, hXB⟩ : ∃ XB, v5.heap.size = XB := ⟨_, rfl⟩
          rw [hXB] at HX8
          simp only [hXB]
          generalize v5.alloc (.cells #[.slice a7 n7 c7, .slice b7 m7 d7] 53) = wX at *
          clear hXB
          have HS0 : Hid (StS wX XB (.slice a7 n7 c7) (.slice b7 m7 d7) wX) := Lib.hid ⟨HX8.out.c 0 _ rfl, HX8.out.c 1 _ rfl, Below.refl _ _⟩
          obtain ⟨x0, x1, xb⟩ := HS0.out
          go_region_held3 (fun V => V.cell? ⟨XB, 0, none⟩ = some (.slice a7 n7 c7) ∧ V.cell? ⟨XB, 1, none⟩ = some (.slice b7 m7 d7) ∧ Below wX.heap.size wX V)
            (first | with_reducible exact HSS.out | with_reducible exact StS.drew HS0.out | with_reducible exact HS0.out)
            (first
              | (go_at_call 41; (with_reducible refine (HLG.out _ (HT8.out.keep (by first | with_reducible assumption | (go_split_ands; with_reducible assumption)))).mono ?_); rintro e ws ⟨rfl, rfl⟩)
              | (go_at_call 45; (have HSV := Lib.hid (show StS wX XB (.slice a7 n7 c7) (.slice b7 m7 d7) _ from (by first | with_reducible exact HSS.out | with_reducible exact StS.drew HS0.out | with_reducible exact HS0.out))); (with_reducible refine (State_T w.heap.size (w.heap.size + 1) 0 T _ (HT8.out.keep HSV.out.2.2)).mono ?_); rintro e ws ⟨a6, n6, c6, b6, m6, d6, rs6, rfl, hs, hbs⟩; have HSS := Lib.hid (StS.on HSV.out hbs); have HQS := Lib.hid hs; clear hs hbs HSV)
              | (go_at_call 44; (with_reducible refine (Same_V a6 a7 b6 b7 n6 c6 m6 d6 n7 c7 m7 d7 _ _ rs6 rs7 T.st _ HQS.out (HS8.out.keep HSS.out.2.2) HRT.out).mono ?_); rintro e ws ⟨rfl, hbs⟩; have HSS := Lib.hid (StS.on HSS.out hbs); clear hbs))
          all_goals
            go_wp2_with fail
            go_ret
            exact ⟨rfl, HB8.out.trans (HSS.out.2.2.mono HB8.out.size)⟩

end Go.Proofs.Ytenkdpogdfcbgaa
