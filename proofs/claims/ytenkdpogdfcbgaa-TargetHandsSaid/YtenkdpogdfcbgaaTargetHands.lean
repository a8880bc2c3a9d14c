/- TargetHands: while nobody has reserved it makes no difference whose hand it is; for every input. -/
import Derived.Test.YtenkdpogdfcbgaaTgW2
import Derived.Test.YtenkdpogdfcbgaaArgs
import Derived.Test.YtenkdpogdfcbgaaArgsO
import Derived.Deep.RegionHeld3
import Derived.Deep.CutRange
namespace Go.Proofs.Ytenkdpogdfcbgaa
open Go.RowKit

set_option maxRecDepth 100000 in
set_option maxHeartbeats 8000000 in
theorem targetHands_walk (a0 : Option Addr) (len0 cap0 : Nat) (t0 : List Lg.Op) (a1 : Option Addr) (len1 cap1 : Nat) (z1 : List Int) (a2 : ByteArray) (a3 : Int) (w : World) (w0 : OArg w a0 len0 cap0 t0) (w1 : IsRowI w a1 len1 cap1 z1) (_w2 : a2.size ≤ maxLen) (_w3 : (Lit.int .i64 a3).wf = true) :
    Calls Try.prog 12 #[.slice a0 len0 cap0, .slice a1 len1 cap1, .string a2, .int .i64 a3] w fun e w' => e = .returned (.bool true) ∧ Below w.heap.size w w' := by
  obtain ⟨q, hq⟩ : ∃ q, min len0 60 = q := ⟨_, rfl⟩
  have hq1 : q ≤ len0 := by omega
  have hqi : min (len0 : Int) 60 = (q : Int) := by omega
  have hcap := w0.1.cap
  have hmax := w0.1.max
  unfold maxLen at hmax
  have HM : Hid (∀ t ∈ t0.take q, t.nm.size ≤ maxLen ∧ t.tn.size ≤ maxLen ∧ t.tx.size ≤ maxLen) := Lib.hid fun t ht => w0.2 t (List.mem_of_mem_take ht)
  have HT := Lib.hid (w0.1.take hq1)
  have HZ : Hid (∀ k, k < len1 → ∃ x z, a1 = some x ∧ w.cell? (x.add k) = some (.int .i64 z) ∧ x.block < w.heap.size) := Lib.hid fun k hk => by
    rcases w1 with ⟨-, h, -, -⟩ | ⟨x, rfl, h1, h2, h3, h4, -⟩
    · omega
    · have := h4 k (by omega)
      refine ⟨x, _, rfl, this, ?_⟩
      have h5 := World.block_lt_of_cell? w _ this
      have e : (x.add k).block = x.block := by unfold Addr.add; split <;> rfl
      omega
  have hl1 : len1 ≤ 1099511627776 ∨ True := Or.inr trivial
  clear w0 w1 hq hl1
  have N1 := New_X w
  go_enter Try.func12, Try.ntmps12
  go_wp2_with fail
  with_reducible refine N1.mono ?_
  rintro e w1 ⟨rfl, hx1, hb1, hs1⟩
  have HX1 := Lib.hid hx1; have HB1 := Lib.hid hb1
  clear hx1 hb1 N1
  have N2 := New_X w1
  go_wp2_with fail
  with_reducible refine N2.mono ?_
  rintro e w2 ⟨rfl, hx2, hb2, hs2⟩
  rw [hs1] at hx2
  have HB2 := Lib.hid (HB1.out.trans (hb2.mono HB1.out.size))
  have T0 := tgw_zero (HX1.out.on hb2) (show w.heap.size < w.heap.size + 2 by omega) (by omega)
  have U0 := tgw_zero hx2 (show w.heap.size + 1 < w.heap.size + 2 by omega) (by omega)
  have HT0 := Lib.hid T0; have HU0 := Lib.hid U0
  clear hx2 hb2 N2 T0 U0 HX1 HB1
  have D1 := Do_first w.heap.size (w.heap.size + 2) 5 w2 HT0.out (by decide) (by decide)
  clear hs2
  go_wp2_with fail
  with_reducible refine D1.mono ?_
  rintro e w3 ⟨rfl, h3, g3⟩
  have HT3 := Lib.hid h3; have HU3 := Lib.hid (HU0.out.grown g3 (by omega) (by omega)); have HB3 := Lib.hid (tgTo_below HB2.out g3 (Nat.le_refl _))
  clear h3 g3 D1 HT0 HU0 HB2
  have D2 := Do_first (w.heap.size + 1) (w.heap.size + 2) 0 w3 HU3.out (by decide) (by decide)
  go_wp2_with fail
  with_reducible refine D2.mono ?_
  rintro e w4 ⟨rfl, h4, g4⟩
  have HU4 := Lib.hid h4; have HT4 := Lib.hid (HT3.out.grown g4 (by omega) (by omega)); have HB4 := Lib.hid (tgTo_below HB3.out g4 (by omega))
  clear h4 g4 D2 HT3 HU3 HB3
  have S1 := State_T w.heap.size (w.heap.size + 2) 0 Tg.t1 w4 HT4.out
  go_wp2_with fail
  with_reducible refine S1.mono ?_
  rintro e w5 ⟨a5, n5, c5, b5, m5, d5, rs5, rfl, hs5, hb5⟩
  obtain rfl : m5 = 1 := hs5.vlen.symm
  have HT5 := Lib.hid (HT4.out.keep hb5); have HU5 := Lib.hid (HU4.out.keep hb5); have HB5 := Lib.hid (HB4.out.trans (hb5.mono HB4.out.size))
  clear hs5 hb5 S1 HT4 HU4 HB4
  have FV := fd_vols a5 b5 n5 c5 1 d5
  go_wp2_with fail
  clear hs1 FV
  go_loopw [51] (fun x wr => ∃ (k : Nat) (T : Tg.S), k ≤ q ∧ x = .int .i64 k ∧ Hid (T.r = Rg.zero) ∧ Hid (TgW wr w.heap.size (w.heap.size + 2) T 0) ∧ Hid (TgW wr (w.heap.size + 1) (w.heap.size + 2) T 0) ∧ Hid (Below w.heap.size w wr)) (fun x _ => q - (intOf x).toNat)
  case atStart => exact ⟨0, Tg.t1, Nat.zero_le _, rfl, Lib.hid rfl, HT5, HU5, HB5⟩
  case round =>
    obtain ⟨k, T, hk, rfl, HR, TW, UW, BW⟩ := hrel
    by_cases hlt : k < q
    · have hkl : k < (t0.take q).length := by rw [HT.out.len]; exact hlt
      obtain ⟨X, b', o', s', rfl, hX, d0, d1, d2, d3, d4⟩ := (HT.out.keep BW.out).get hkl
      have hm := HM.out (t0.take q)[k] (List.getElem_mem hkl)
      obtain ⟨R, hR⟩ : ∃ R, Tg.doR T 0 (t0.take q)[k] = R := ⟨_, rfl⟩
      have HRZ : Hid (R.t.r = Rg.zero) := Lib.hid (by rw [← hR, doR_r]; exact HR.out)
      have DTT : Hid (∀ (y : Int) (V : World), TgW V w.heap.size (w.heap.size + 2) T 0 → 0 ≤ y → y ≤ 7 → Calls Try.prog 39 #[.pointer (some ⟨w.heap.size, 0, none⟩), .int .i64 y, .agg #[.int .i64 (t0.take q)[k].k, .string (t0.take q)[k].nm, .string (t0.take q)[k].tn, .int .i64 (t0.take q)[k].a, .string (t0.take q)[k].tx]] V (TgTo V w.heap.size (w.heap.size + 2) R.t 0 (.returned (.int .i64 (R.e : Nat))))) := Lib.hid fun y V h h0 h7 => by
        have := Do_T w.heap.size (w.heap.size + 2) 0 T y (t0.take q)[k] V h h0 h7 hm.1 hm.2.1 hm.2.2
        rw [doR_free HR.out, hR] at this
        exact this
      have DUU : Hid (∀ (V : World), TgW V (w.heap.size + 1) (w.heap.size + 2) T 0 → Calls Try.prog 39 #[.pointer (some ⟨w.heap.size + 1, 0, none⟩), .int .i64 0, .agg #[.int .i64 (t0.take q)[k].k, .string (t0.take q)[k].nm, .string (t0.take q)[k].tn, .int .i64 (t0.take q)[k].a, .string (t0.take q)[k].tx]] V (TgTo V (w.heap.size + 1) (w.heap.size + 2) R.t 0 (.returned (.int .i64 (R.e : Nat))))) := Lib.hid fun V h => by
        have := Do_T (w.heap.size + 1) (w.heap.size + 2) 0 T 0 (t0.take q)[k] V h (by decide) (by decide) hm.1 hm.2.1 hm.2.2
        rw [hR] at this
        exact this
      clear hR hm
      generalize (t0.take q)[k].k = f1 at *
      generalize (t0.take q)[k].nm = f2 at *
      generalize (t0.take q)[k].tn = f3 at *
      generalize (t0.take q)[k].a = f4 at *
      generalize (t0.take q)[k].tx = f5 at *
      obtain ⟨wA, hwA⟩ : ∃ wA, wA = wr.alloc (.cells #[.int .i64 f1, .string f2, .string f3, .int .i64 f4, .string f5] 55) := ⟨_, rfl⟩
      have hal : Below wr.heap.size wr wA := by rw [hwA]; exact (Below.refl _ wr).alloc (Nat.le_refl _) _
      have BA := Lib.hid (BW.out.trans (hal.mono BW.out.size))
      have TA := Lib.hid (TW.out.keep hal); have UA := Lib.hid (UW.out.keep hal)
      have hszA := BA.out.size
      have hO : Bxs wA wr.heap.size [.int .i64 f1, .string f2, .string f3, .int .i64 f4, .string f5] := by rw [hwA]; exact bxs_new _ _ _ _ rfl
      obtain ⟨XO, hXO⟩ : ∃ XO, wr.heap.size = XO := ⟨_, rfl⟩
      rw [hXO] at hO
      have hXB : w.heap.size + 2 ≤ XO := by rw [← hXO]; exact TW.out.le
      have HCA : Hid (OpC XO (.int .i64 f1) (.string f2) (.string f3) (.int .i64 f4) (.string f5) wA) := Lib.hid ⟨hO.c 0 _ rfl, hO.c 1 _ rfl, hO.c 2 _ rfl, hO.c 3 _ rfl, hO.c 4 _ rfl⟩
      obtain ⟨e0, e1, e2, e3, e4⟩ := HCA.out
      have HBr : Below wA.heap.size wA wA := Below.refl _ _
      have HBd : Below wA.heap.size wA wA.drew := (Below.refl _ wA).drew
      have hne1 : XO ≠ w.heap.size := by omega
      have hne2 : XO ≠ w.heap.size + 1 := by omega
      have hwA' := hwA.symm
      clear hwA hal hO
      by_cases hpk : k < len1
      · obtain ⟨x1, z, rfl, hc, hxb⟩ := HZ.out k hpk
        have hcA : wA.cell? (x1.add k) = some (.int .i64 z) := by
          rw [BA.out.cell (by unfold Addr.add; split <;> exact hxb)]
          exact hc
        have WI := fun W => within_any z 8 8 W rfl (by decide) (by decide)
        have hy := wi_lt z 8 (by decide)
        have hpi : (k : Int) < (len1 : Int) := by omega
        clear hc hxb
        generalize wi z 8 = y at *
        go_wp2_with fail
        with_reducible refine (WI _).mono ?_
        rintro e w' ⟨rfl, rfl⟩
        have DT : Hid (∀ V, Below wA.heap.size wA V → Calls Try.prog 39 #[.pointer (some ⟨w.heap.size, 0, none⟩), .int .i64 (y : Nat), .agg #[.int .i64 f1, .string f2, .string f3, .int .i64 f4, .string f5]] V (TgTo V w.heap.size (w.heap.size + 2) R.t 0 (.returned (.int .i64 (R.e : Nat))))) := Lib.hid fun V hb => DTT.out (y : Nat) V (TA.out.keep hb) (by omega) (by omega)
        have DU : Hid (∀ V, Below wA.heap.size wA V → Calls Try.prog 39 #[.pointer (some ⟨w.heap.size + 1, 0, none⟩), .int .i64 0, .agg #[.int .i64 f1, .string f2, .string f3, .int .i64 f4, .string f5]] V (TgTo V (w.heap.size + 1) (w.heap.size + 2) R.t 0 (.returned (.int .i64 (R.e : Nat))))) := Lib.hid fun V hb => DUU.out V (UA.out.keep hb)
        go_upto_region 10 with (fail)
        go_cut [72] from 65 to 73 (fun s72 wx => s72 = .bool false ∧ Hid (TgW wx w.heap.size (w.heap.size + 2) R.t 0) ∧ Hid (TgW wx (w.heap.size + 1) (w.heap.size + 2) R.t 0) ∧ Hid (Below w.heap.size w wx))
        case first =>
          go_region_held3 (fun V => V.cell? ⟨XO, 0, none⟩ = some (.int .i64 f1) ∧ V.cell? ⟨XO, 1, none⟩ = some (.string f2) ∧ V.cell? ⟨XO, 2, none⟩ = some (.string f3) ∧ V.cell? ⟨XO, 3, none⟩ = some (.int .i64 f4) ∧ V.cell? ⟨XO, 4, none⟩ = some (.string f5))
            (first | with_reducible exact HC4.out | with_reducible exact HC3.out | with_reducible exact HC2.out | with_reducible exact HC1.out | with_reducible exact OpC.drew HCA.out | with_reducible exact HCA.out)
            (first
              | (go_at_call 39; (with_reducible refine (DT.out _ (by first | with_reducible exact HBd | with_reducible exact HBr)).mono ?_); rintro e ws ⟨rfl, h1, g1⟩; have HC1 := Lib.hid (OpC.grown (by first | with_reducible exact OpC.drew HCA.out | with_reducible exact HCA.out) g1 hne1); have HT1 := Lib.hid h1; have HU1 := Lib.hid ((UA.out.keep (by first | with_reducible exact HBd | with_reducible exact HBr)).grown g1 (by omega) (by omega)); have HB1 := Lib.hid (tgTo_below (BA.out.trans (show Below w.heap.size wA _ from (by first | with_reducible exact HBd.mono hszA | with_reducible exact HBr.mono hszA))) g1 (Nat.le_refl _)); clear h1 g1)
              | (go_at_call 39; (with_reducible refine (DUU.out _ HU1.out).mono ?_); rintro e ws2 ⟨rfl, h1, g1⟩; have HC2 := Lib.hid (OpC.grown HC1.out g1 hne2); have HUF := Lib.hid h1; have HTF := Lib.hid (HT1.out.grown g1 (by omega) (by omega)); have HBF := Lib.hid (tgTo_below HB1.out g1 (by omega)); clear h1 g1)
              | (go_at_call 39; (with_reducible refine (DU.out _ (by first | with_reducible exact HBd | with_reducible exact HBr)).mono ?_); rintro e ws ⟨rfl, h1, g1⟩; have HC3 := Lib.hid (OpC.grown (by first | with_reducible exact OpC.drew HCA.out | with_reducible exact HCA.out) g1 hne2); have HU2 := Lib.hid h1; have HT2 := Lib.hid ((TA.out.keep (by first | with_reducible exact HBd | with_reducible exact HBr)).grown g1 (by omega) (by omega)); have HB2' := Lib.hid (tgTo_below (BA.out.trans (show Below w.heap.size wA _ from (by first | with_reducible exact HBd.mono hszA | with_reducible exact HBr.mono hszA))) g1 (by omega)); clear h1 g1)
              | (go_at_call 39; (with_reducible refine (DTT.out (y : Nat) _ HT2.out (by omega) (by omega)).mono ?_); rintro e ws2 ⟨rfl, h1, g1⟩; have HC4 := Lib.hid (OpC.grown HC3.out g1 hne1); have HTF := Lib.hid h1; have HUF := Lib.hid (HU2.out.grown g1 (by omega) (by omega)); have HBF := Lib.hid (tgTo_below HB2'.out g1 (Nat.le_refl _)); clear h1 g1))
          all_goals
            go_wp2_with fail
            go_meet
            case rel => exact ⟨by simp, HTF, HUF, HBF⟩
        case rest =>
          obtain ⟨rfl, HTF, HUF, HBF⟩ := hcut
          go_wp2_with fail
          go_roundw
          case rel => exact ⟨k + 1, R.t, hlt, by go_num, HRZ, HTF, HUF, HBF⟩
          case measure => simp [intOf]; omega
      · have hpi : ¬ (k : Int) < (len1 : Int) := by omega
        have DT : Hid (∀ V, Below wA.heap.size wA V → Calls Try.prog 39 #[.pointer (some ⟨w.heap.size, 0, none⟩), .int .i64 0, .agg #[.int .i64 f1, .string f2, .string f3, .int .i64 f4, .string f5]] V (TgTo V w.heap.size (w.heap.size + 2) R.t 0 (.returned (.int .i64 (R.e : Nat))))) := Lib.hid fun V hb => DTT.out 0 V (TA.out.keep hb) (by omega) (by omega)
        have DU : Hid (∀ V, Below wA.heap.size wA V → Calls Try.prog 39 #[.pointer (some ⟨w.heap.size + 1, 0, none⟩), .int .i64 0, .agg #[.int .i64 f1, .string f2, .string f3, .int .i64 f4, .string f5]] V (TgTo V (w.heap.size + 1) (w.heap.size + 2) R.t 0 (.returned (.int .i64 (R.e : Nat))))) := Lib.hid fun V hb => DUU.out V (UA.out.keep hb)
        go_upto_region 10 with (fail)
        go_cut [72] from 65 to 73 (fun s72 wx => s72 = .bool false ∧ Hid (TgW wx w.heap.size (w.heap.size + 2) R.t 0) ∧ Hid (TgW wx (w.heap.size + 1) (w.heap.size + 2) R.t 0) ∧ Hid (Below w.heap.size w wx))
        case first =>
          go_region_held3 (fun V => V.cell? ⟨XO, 0, none⟩ = some (.int .i64 f1) ∧ V.cell? ⟨XO, 1, none⟩ = some (.string f2) ∧ V.cell? ⟨XO, 2, none⟩ = some (.string f3) ∧ V.cell? ⟨XO, 3, none⟩ = some (.int .i64 f4) ∧ V.cell? ⟨XO, 4, none⟩ = some (.string f5))
            (first | with_reducible exact HC4.out | with_reducible exact HC3.out | with_reducible exact HC2.out | with_reducible exact HC1.out | with_reducible exact OpC.drew HCA.out | with_reducible exact HCA.out)
            (first
              | (go_at_call 39; (with_reducible refine (DT.out _ (by first | with_reducible exact HBd | with_reducible exact HBr)).mono ?_); rintro e ws ⟨rfl, h1, g1⟩; have HC1 := Lib.hid (OpC.grown (by first | with_reducible exact OpC.drew HCA.out | with_reducible exact HCA.out) g1 hne1); have HT1 := Lib.hid h1; have HU1 := Lib.hid ((UA.out.keep (by first | with_reducible exact HBd | with_reducible exact HBr)).grown g1 (by omega) (by omega)); have HB1 := Lib.hid (tgTo_below (BA.out.trans (show Below w.heap.size wA _ from (by first | with_reducible exact HBd.mono hszA | with_reducible exact HBr.mono hszA))) g1 (Nat.le_refl _)); clear h1 g1)
              | (go_at_call 39; (with_reducible refine (DUU.out _ HU1.out).mono ?_); rintro e ws2 ⟨rfl, h1, g1⟩; have HC2 := Lib.hid (OpC.grown HC1.out g1 hne2); have HUF := Lib.hid h1; have HTF := Lib.hid (HT1.out.grown g1 (by omega) (by omega)); have HBF := Lib.hid (tgTo_below HB1.out g1 (by omega)); clear h1 g1)
              | (go_at_call 39; (with_reducible refine (DU.out _ (by first | with_reducible exact HBd | with_reducible exact HBr)).mono ?_); rintro e ws ⟨rfl, h1, g1⟩; have HC3 := Lib.hid (OpC.grown (by first | with_reducible exact OpC.drew HCA.out | with_reducible exact HCA.out) g1 hne2); have HU2 := Lib.hid h1; have HT2 := Lib.hid ((TA.out.keep (by first | with_reducible exact HBd | with_reducible exact HBr)).grown g1 (by omega) (by omega)); have HB2' := Lib.hid (tgTo_below (BA.out.trans (show Below w.heap.size wA _ from (by first | with_reducible exact HBd.mono hszA | with_reducible exact HBr.mono hszA))) g1 (by omega)); clear h1 g1)
              | (go_at_call 39; (with_reducible refine (DTT.out 0 _ HT2.out (by omega) (by omega)).mono ?_); rintro e ws2 ⟨rfl, h1, g1⟩; have HC4 := Lib.hid (OpC.grown HC3.out g1 hne1); have HTF := Lib.hid h1; have HUF := Lib.hid (HU2.out.grown g1 (by omega) (by omega)); have HBF := Lib.hid (tgTo_below HB2'.out g1 (Nat.le_refl _)); clear h1 g1))
          all_goals
            go_wp2_with fail
            go_meet
            case rel => exact ⟨by simp, HTF, HUF, HBF⟩
        case rest =>
          obtain ⟨rfl, HTF, HUF, HBF⟩ := hcut
          go_wp2_with fail
          go_roundw
          case rel => exact ⟨k + 1, R.t, hlt, by go_num, HRZ, HTF, HUF, HBF⟩
          case measure => simp [intOf]; omega
    · obtain rfl : k = q := by omega
      have R1 := Read_T w.heap.size (w.heap.size + 2) 0 T 7 a2 a3 wr TW.out (by decide) (by decide)
      rw [readR_free HR.out] at R1
      have R2 : Hid (∀ V, TgW V (w.heap.size + 1) (w.heap.size + 2) T 0 → Calls Try.prog 93 #[.pointer (some ⟨w.heap.size + 1, 0, none⟩), .int .i64 0, .string a2, .int .i64 a3] V fun e w' => e = .returned (.tuple #[.string (Tg.readR T 0 a2 a3).1, .int .i64 ((Tg.readR T 0 a2 a3).2 : Nat)]) ∧ Below V.heap.size V w') := Lib.hid fun V h => Read_T (w.heap.size + 1) (w.heap.size + 2) 0 T 0 a2 a3 V h (by decide) (by decide)
      generalize Tg.readR T 0 a2 a3 = Z at *
      obtain ⟨Z1, Z2⟩ := Z
      go_wp2_with fail
      with_reducible refine R1.mono ?_
      rintro e v1 ⟨rfl, hb1⟩
      have HT1 := Lib.hid (TW.out.keep hb1); have HU1 := Lib.hid (UW.out.keep hb1); have HB1 := Lib.hid (BW.out.trans (hb1.mono BW.out.size))
      clear hb1 R1
      have Q2 := R2.out v1 HU1.out
      go_wp2_with fail
      with_reducible refine Q2.mono ?_
      rintro e v2 ⟨rfl, hb2⟩
      have HT2 := Lib.hid (HT1.out.keep hb2); have HU2 := Lib.hid (HU1.out.keep hb2); have HB2 := Lib.hid (HB1.out.trans (hb2.mono HB1.out.size))
      clear hb2 Q2 R2
      have L1 := Log_T w.heap.size (w.heap.size + 2) 0 T v2 HT2.out
      have L2 := Log_T (w.heap.size + 1) (w.heap.size + 2) 0 T v2 HU2.out
      go_wp2_with fail
      with_reducible refine L1.mono ?_
      rintro e v3 ⟨rfl, rfl⟩
      go_wp2_with fail
      with_reducible refine L2.mono ?_
      rintro e v3 ⟨rfl, rfl⟩
      have S1 := State_T w.heap.size (w.heap.size + 2) 0 T v2 HT2.out
      clear L1 L2
      go_wp2_with fail
      with_reducible refine S1.mono ?_
      rintro e v3 ⟨a6, n6, c6, b6, m6, d6, rs6, rfl, hs3, hb3⟩
      have HU3 := Lib.hid (HU2.out.keep hb3); have HB3 := Lib.hid (HB2.out.trans (hb3.mono HB2.out.size)); have HS3 := Lib.hid hs3
      clear hs3 hb3 S1
      have S2 := State_T (w.heap.size + 1) (w.heap.size + 2) 0 T v3 HU3.out
      go_wp2_with fail
      with_reducible refine S2.mono ?_
      rintro e v4 ⟨a7, n7, c7, b7, m7, d7, rs7, rfl, hs4, hb4⟩
      have HB4 := Lib.hid (HB3.out.trans (hb4.mono HB3.out.size))
      have K := Same_V a6 a7 b6 b7 n6 c6 m6 d6 n7 c7 m7 d7 _ _ rs6 rs7 T.st v4 (HS3.out.keep hb4) hs4 TW.out.good.right
      clear hs4 hb4 S2
      go_wp2_with fail
      with_reducible refine K.mono ?_
      rintro e v5 ⟨rfl, hb5⟩
      have HB5 := Lib.hid (HB4.out.trans (hb5.mono HB4.out.size))
      clear hb5 K
      go_wp2_with fail
      go_ret
      exact ⟨rfl, HB5.out⟩

end Go.Proofs.Ytenkdpogdfcbgaa
