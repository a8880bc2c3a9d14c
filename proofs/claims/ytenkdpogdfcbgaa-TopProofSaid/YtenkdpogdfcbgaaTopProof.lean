/- TopProof: each block of a volume is proved by the volume's root, and by no other, behind whatever deeds; for every input. -/
import Derived.Test.YtenkdpogdfcbgaaTopPP
import Derived.Test.YtenkdpogdfcbgaaTreeWay
import Derived.Test.YtenkdpogdfcbgaaTxW
import Derived.Test.YtenkdpogdfcbgaaPolyW2
import Derived.Deep.RegionHeld3
import Derived.Deep.CutRange
import Derived.BigQuiet
namespace Go.Proofs.Ytenkdpogdfcbgaa
open Go.RowKit

set_option maxHeartbeats 1000000 in
theorem top_begun : Ans1 14 #[] (.bool true) := fun w => by
  have M : ∀ w, Calls Try.prog 97 #[.int .i64 3, .int .i64 3] w fun e w' => e = .returned (.tuple #[.int .i64 5, .int .i64 0]) ∧ w = w' := fun w => Mul_ok 3 3 w (by decide) (by decide) (by decide)
  go_enter Try.func14, Try.ntmps14
  go_wp2_with fail
  with_reducible refine (M _).mono ?_
  rintro e w' ⟨rfl, rfl⟩
  go_wp2_with fail
  go_ret
  exact ⟨rfl, rfl⟩

/-- A row of texts as a tree reads it. -/
theorem texts_own {w : World} {base n c : Nat} {a : Option Addr} {ss : List ByteArray} (h : w.ownsRow base 9 1 (.slice a n c) n (ss.map Value.string)) : TextsAt w a n ss := fun h0 => by
  have hl : ss.length = n := by have := h.1; rw [List.length_map] at this; omega
  obtain ⟨g, cap, hv, -, -⟩ := h.form (by omega)
  cases hv
  refine ⟨_, rfl, fun i hi => ?_⟩
  rw [addr_addT, h.cellAt i (by omega), List.getElem?_map, List.getElem?_eq_getElem (by omega), List.getD_eq_getElem?_getD, List.getElem?_eq_getElem (by omega)]
  rfl

/-- Cells of a state's box and of a volume. -/
abbrev Tp3 (B g p : Nat) (v u0 u1 : Value) (V : World) : Prop := V.cell? ⟨B, 1, none⟩ = some v ∧ V.cell? ⟨g, p * 2, none⟩ = some u0 ∧ V.cell? ⟨g, p * 2 + 1, none⟩ = some u1
theorem Tp3.drew {B g p : Nat} {v u0 u1 : Value} {V : World} (h : Tp3 B g p v u0 u1 V) : Tp3 B g p v u0 u1 V.drew := h
theorem Tp3.alloc {B g p : Nat} {v u0 u1 : Value} {V : World} (h : Tp3 B g p v u0 u1 V) (o : Obj) : Tp3 B g p v u0 u1 (V.alloc o) := by
  have k : ∀ {q : Addr} {x : Value}, V.cell? q = some x → (V.alloc o).cell? q = some x := fun h => by rw [((Below.refl V.heap.size V).alloc (Nat.le_refl _) o).cell (World.block_lt_of_cell? V _ h)]; exact h
  exact ⟨k h.1, k h.2.1, k h.2.2⟩

theorem fin_le {p : Nat} (hp : p ≤ 2147483647) : ∀ l : List (Bool × Nat), Bn.fin p l ≤ 2147483647
  | [] => hp
  | (b, x) :: l => fin_le (pr_le _) l

set_option maxRecDepth 100000 in
set_option maxHeartbeats 8000000 in
theorem topProof_walk (a0 : Option Addr) (len0 cap0 : Nat) (t0 : List Lg.Op) (a1 a2 : Int) (w : World) (w0 : OArg w a0 len0 cap0 t0) (_w1 : (Lit.int .i64 a1).wf = true) (_w2 : (Lit.int .i64 a2).wf = true) :
    Calls Try.prog 4 #[.slice a0 len0 cap0, .int .i64 a1, .int .i64 a2] w fun e w' => e = .returned (.bool true) ∧ Below w.heap.size w w' := by
  obtain ⟨i0, hi, hz0, hz1, hz2⟩ := info_parts tx_infoStr
  obtain ⟨q, hq⟩ : ∃ q, min len0 60 = q := ⟨_, rfl⟩
  have hq1 : q ≤ len0 := by omega
  have hqi : min (len0 : Int) 60 = (q : Int) := by omega
  have hcap := w0.1.cap
  have hmax := w0.1.max
  unfold maxLen at hmax
  have HM : Hid (∀ t ∈ t0.take q, t.nm.size ≤ maxLen ∧ t.tn.size ≤ maxLen ∧ t.tx.size ≤ maxLen) := Lib.hid fun t ht => w0.2 t (List.mem_of_mem_take ht)
  have HT := Lib.hid (w0.1.take hq1)
  have BG := top_begun
  have hB : Below w.heap.size w (w.alloc (.cells #[.slice none 0 0, .slice none 0 0] 53)) := (Below.refl _ w).alloc (Nat.le_refl _) _
  have hY : Bxs (w.alloc (.cells #[.slice none 0 0, .slice none 0 0] 53)) w.heap.size [.slice none 0 0, .slice none 0 0] := bxs_new w 53 _ _ rfl
  have HB := Lib.hid hB; have HY := Lib.hid hY
  clear w0 hq hB hY
  go_enter Try.func4, Try.ntmps4
  go_wp2_with fail
  with_reducible refine BG.use ?_
  rintro e w' ⟨rfl, rfl⟩
  go_wp2_with fail
  go_loopw [33] (fun x wr => ∃ (k : Nat) (a5 : Option Addr) (n5 c5 : Nat) (b5 : Option Addr) (m5 d5 : Nat) (rs5 : List Rw) (S : Vo.St), k ≤ q ∧ x = .int .i64 k ∧ Hid (Vo.Right S ∧ Vo.NE S.vols) ∧ Hid (Below w.heap.size w wr) ∧ Hid (Bxs wr w.heap.size [.slice a5 n5 c5, .slice b5 m5 d5]) ∧
      Hid (StW wr (w.heap.size + 1) a5 n5 c5 b5 m5 d5 rs5 S))
    (fun x _ => q - (intOf x).toNat)
  case atStart => exact ⟨0, none, 0, 0, none, 0, 0, [], Vo.st0, Nat.zero_le _, rfl, Lib.hid ⟨Vo.right0, Vo.ne0⟩, HB, HY, Lib.hid (stW0 _ _)⟩
  case round =>
    obtain ⟨k, a5, n5, c5, b5, m5, d5, rs5, S, hk, rfl, HS, BW, YW, SW⟩ := hrel
    have hsz := BW.out.size
    have hyl := YW.out.lt
    by_cases hlt : k < q
    · have hkl : k < (t0.take q).length := by rw [HT.out.len]; exact hlt
      obtain ⟨X, b', o', s', rfl, hX, d0, d1, d2, d3, d4⟩ := (HT.out.keep BW.out).get hkl
      have hal := (Below.refl wr.heap.size wr).alloc (Nat.le_refl _) (.cells #[.int .i64 (t0.take q)[k].k, .string (t0.take q)[k].nm, .string (t0.take q)[k].tn, .int .i64 (t0.take q)[k].a, .string (t0.take q)[k].tx] 55)
      have hm := HM.out (t0.take q)[k] (List.getElem_mem hkl)
      have DO := Do_V a5 b5 n5 c5 m5 d5 (w.heap.size + 1) rs5 S (t0.take q)[k] _ (SW.out.keep hal) HS.out.1 hm.1 hm.2.1 hm.2.2
      have HDR := Lib.hid (And.intro (Vo.do_right HS.out.1 (t0.take q)[k]) (Vo.ne_do HS.out.2 (t0.take q)[k]))
      have HAL := Lib.hid hal
      have y0 := YW.out.c 0 _ rfl; have y1 := YW.out.c 1 _ rfl
      clear hal hm
      obtain ⟨R, hR⟩ : ∃ R, Vo.doR S (t0.take q)[k] = R := ⟨_, rfl⟩
      rw [hR] at DO HDR
      clear hR
      generalize (t0.take q)[k].k = f1 at *
      generalize (t0.take q)[k].nm = f2 at *
      generalize (t0.take q)[k].tn = f3 at *
      generalize (t0.take q)[k].a = f4 at *
      generalize (t0.take q)[k].tx = f5 at *
      obtain ⟨RS, RE⟩ := R
      dsimp only at HDR
      go_wp2_with fail
      with_reducible refine DO.mono ?_
      rintro e w2 ⟨a6, n6, c6, b6, m6, d6, rs6, rfl, hs6, hb6⟩
      have hb7 := HAL.out.trans (hb6.mono (by rw [World.size_alloc]; omega))
      have HB7 := Lib.hid (BW.out.trans (hb7.mono hsz))
      have HY7 := Lib.hid (YW.out.on hb7); have HS7 := Lib.hid (SW.out.keep hb7)
      have hz6 : wr.heap.size < w2.heap.size := by have := hb6.size; rw [World.size_alloc] at this; omega
      have HS6 := Lib.hid (hs6.low (show w.heap.size + 1 ≤ _ by rw [World.size_alloc]; omega))
      clear hs6 hb6 hb7 d0 d1 d2 d3 d4 y0 y1
      by_cases hE : RE = 0
      · subst hE
        have HY8 := Lib.hid (HY7.out.alloc (.cells #[.slice a6 n6 c6, .slice b6 m6 d6] 53))
        have y0 := HY8.out.c 0 _ rfl; have y1 := HY8.out.c 1 _ rfl; have yf0 := HY8.out.z 0 (show 0 < 2 by decide); have yf1 := HY8.out.z 1 (show 1 < 2 by decide)
        have HB8 := Lib.hid (HB7.out.alloc HB7.out.size (.cells #[.slice a6 n6 c6, .slice b6 m6 d6] 53))
        have HS8 := Lib.hid (HS6.out.keep ((Below.refl _ w2).alloc (Nat.le_refl _) (.cells #[.slice a6 n6 c6, .slice b6 m6 d6] 53)))
        go_wp2_with fail
        have s1 := HS8.out.other (B := w.heap.size) (i := 0) (HS8.out.off (by omega)) (.slice a6 n6 c6)
        have s2 := s1.other (B := w.heap.size) (i := 1) (s1.off (by omega)) (.slice b6 m6 d6)
        have HS9 := Lib.hid s2
        clear s1 s2
        go_roundw
        case rel => exact ⟨k + 1, _, _, _, _, _, _, _, _, hlt, by go_num, HDR, Lib.hid (below_set2 HB8.out (by omega) _ _), Lib.hid (HY8.out.set2 _ _), HS9⟩
        case measure => simp [intOf]; omega
      · have hb : ((RE : Int) == 0) = false := beq_eq_false_iff_ne.2 (by omega)
        clear hE
        go_wp2_with fail
        go_roundw
        case rel => exact ⟨k + 1, _, _, _, _, _, _, _, _, hlt, by go_num, HS, Lib.hid (HB7.out.alloc HB7.out.size _), Lib.hid (HY7.out.alloc _), Lib.hid (HS7.out.keep ((Below.refl _ w2).alloc (Nat.le_refl _) _))⟩
        case measure => simp [intOf]; omega
    · obtain rfl : k = q := by omega
      have y0 := YW.out.c 0 _ rfl; have y1 := YW.out.c 1 _ rfl
      by_cases hm0 : m5 = 0
      · subst hm0
        go_wp2_with fail
        go_ret
        exact ⟨rfl, BW.out⟩
      · have hm6 : m5 ≤ 6 := by have := HS.out.1.len; rw [SW.out.vlen] at this; exact this
        have hlt2 := wi_lt a1 m5 (by omega)
        have hv : wi a1 m5 < S.vols.length := by rw [SW.out.vlen]; exact hlt2
        have hr : wi a1 m5 < rs5.length := by rw [SW.out.rlen]; exact hlt2
        obtain ⟨g, rfl, hg, e0, e1⟩ := rv_at SW.out.row hr
        rw [rs_name SW.out hr hv] at e0
        have hids := (SW.out.vol (wi a1 m5) rs5[wi a1 m5] S.vols[wi a1 m5] (List.getElem?_eq_getElem hr) (List.getElem?_eq_getElem hv)).2.2
        have hne := HS.out.2 S.vols[wi a1 m5] (List.getElem_mem hv)
        have hl32 := (HS.out.1.vol S.vols[wi a1 m5] (List.getElem_mem hv)).len
        have HRA : Hid (∀ j : Nat, j < S.vols[wi a1 m5].ids.length → (Vo.readR S S.vols[wi a1 m5].name (j : Int)).2 = 0) := Lib.hid fun j hj => by
          have := Vo.read_at HS.out.1 hv hj
          rw [this]
          split
          · have hmem := (HS.out.1.vol S.vols[wi a1 m5] (List.getElem_mem hv)).ids S.vols[wi a1 m5].ids[j] (List.getElem_mem hj)
            rename_i his
            rcases hmem with h | ⟨x, hx, h⟩
            · rw [h] at his; cases his
            · have hh : Bg.Has S.bag S.vols[wi a1 m5].ids[j] x.text := ⟨x, hx, by rw [h]; unfold Bg.hit Vo.idOf; simp, rfl⟩
              rw [(Bg.getR_iff HS.out.1.bag).2 hh]
          · rfl
        have HR64 : Hid (∀ j : Nat, (Vo.readR S S.vols[wi a1 m5].name (j : Int)).1.size ≤ 64) := Lib.hid fun j => Vo.read_64 HS.out.1 _ _
        have WI := fun W => within_any a1 (m5 : Int) m5 W rfl (by omega) (by omega)
        have h00 : ((m5 : Int) == 0) = false := beq_eq_false_iff_ne.2 (by omega)
        obtain ⟨Z, hZ⟩ : ∃ Z, S.vols[wi a1 m5].ids.length = Z := ⟨_, rfl⟩
        have hZ0 : 1 ≤ Z := by
          rw [← hZ]
          exact List.length_pos_iff.2 hne
        rw [hZ] at hids hl32 HRA
        clear hne hZ
        generalize S.vols[wi a1 m5].name = f1 at *
        generalize rs5[wi a1 m5].a = ra at *
        generalize rs5[wi a1 m5].c = rc at *
        generalize rs5[wi a1 m5].n = rn at *
        subst hids
        generalize wi a1 m5 = p at *
        have e01 : (0 : Int) ≤ (p : Int) := by omega
        have e02 : (p : Int) < (m5 : Int) := by omega
        go_upto_region 13 with (fail)
        go_cut [12] from 51 to 60 (fun s12 wx => ∃ Bv : Nat, s12 = .pointer (some ⟨Bv, 0, none⟩) ∧ wr.heap.size ≤ Bv ∧ Hid (Bxs wx Bv [.string f1, .slice ra Z rc]) ∧ Hid (Below wr.heap.size wr wx))
        case first =>
          have HS1 : Hid (Tp3 w.heap.size g p (.slice (some ⟨g, 0, none⟩) m5 d5) (.string f1) (.slice ra Z rc) wr) := Lib.hid ⟨y1, e0, e1⟩
          go_region_held3 (fun V => V.cell? ⟨w.heap.size, 1, none⟩ = some (.slice (some ⟨g, 0, none⟩) m5 d5) ∧ V.cell? ⟨g, p * 2, none⟩ = some (.string f1) ∧ V.cell? ⟨g, p * 2 + 1, none⟩ = some (.slice ra Z rc))
            (first | with_reducible exact Tp3.drew HS1.out | with_reducible exact HS1.out | with_reducible exact Tp3.drew (Tp3.alloc HS1.out _) | with_reducible exact Tp3.alloc HS1.out _)
            ((go_at_call 17; (with_reducible refine (WI _).mono ?_); rintro e ws ⟨rfl, rfl⟩))
          all_goals
            go_wp2_with fail
            go_meet
            case rel => exact ⟨wr.heap.size, rfl, Nat.le_refl _, Lib.hid (by first | exact (bxs_new _ _ _ _ rfl).drew | exact bxs_new _ _ _ _ rfl), Lib.hid (by first | exact ((Below.refl _ wr).alloc (Nat.le_refl _) _).drew | exact (Below.refl _ wr).alloc (Nat.le_refl _) _)⟩
        case rest =>
          obtain ⟨Bv, rfl, hBv, HV, HW⟩ := hcut
          have BX := Lib.hid (BW.out.trans (HW.out.mono BW.out.size)); have YX := Lib.hid (YW.out.on HW.out); have SX := Lib.hid (SW.out.keep HW.out)
          clear e0 e1 y0 y1 WI
          have z1 := HV.out.c 1 _ rfl
          have hZb : ((Z : Int) == 0) = false := beq_eq_false_iff_ne.2 (by omega)
          have hsc := BX.out.size
          go_wp2_with fail
          go_loopw [13, 67] (fun v x wv => ∃ j : Nat, j ≤ Z ∧ x = .int .i64 j ∧ wv.ownsRow wc.heap.size 9 1 v j (txN S f1 j) ∧ Hid (Below wc.heap.size wc wv)) (fun _ x _ => Z - (intOf x).toNat)
          case atStart => exact ⟨0, Nat.zero_le _, rfl, World.ownsRow_nil _ _ _ _, Lib.hid (Below.refl _ _)⟩
          case round =>
            rename_i v13
            obtain ⟨j, hj, rfl, hown, hB⟩ := hrel
            have YV := Lib.hid (YX.out.on hB.out); have VV := Lib.hid (HV.out.on hB.out)
            by_cases hlt3 : j < Z
            · have x0 := YV.out.c 0 _ rfl; have x1 := YV.out.c 1 _ rfl
              have v0 := VV.out.c 0 _ rfl
              have RD := Read_V a5 (some ⟨g, 0, none⟩) n5 c5 m5 d5 (w.heap.size + 1) rs5 S f1 (j : Int) wr (SX.out.keep hB.out) HS.out.1
              rw [HRA.out j hlt3] at RD
              have hTs : Hid (txN S f1 (j + 1) = txN S f1 j ++ [.string (Vo.readR S f1 (j : Int)).1]) := Lib.hid (txN_succ S f1 j)
              have hbsz := hB.out.size
              generalize (Vo.readR S f1 (j : Int)).1 = T at *
              go_wp2_with fail
              with_reducible refine RD.mono ?_
              rintro e w2 ⟨rfl, hb2⟩
              have hown1 := own_keep hown hb2
              have HB2 := Lib.hid (hB.out.trans (hb2.mono hbsz))
              have hown2 : (w2.alloc (.cells #[.string T] 9)).ownsRow wc.heap.size 9 1 u13 j (txN S f1 j) := hown1.alloc _
              have hcell2 : ∀ i x, [Value.string T][i]? = some x → (w2.alloc (.cells #[.string T] 9)).cell? ((⟨w2.heap.size, 0, none⟩ : Addr).add i) = some x := fun i x h => cell_one_new w2 (.string T) 9 i x h
              have hone : ∀ x ∈ [Value.string T], x.oneCell' = true := by intro x hx; simp at hx; subst hx; rfl
              have hb1 : j + 1 ≤ maxLen := by unfold maxLen; omega
              have hb22 : (j + 1) * 16 ≤ 140737488355328 := by omega
              have hb3 : wc.heap.size ≤ (w2.alloc (.cells #[.string T] 9)).heap.size := by rw [World.size_alloc]; have := HB2.out.size; omega
              have hbase := row_base hown1
              have H2 := Lib.hid hown2; have H3 := Lib.hid hcell2; have H4 := Lib.hid hone
              clear hown2 hcell2 hone x0 x1 v0 RD hb2 hown hown1
              go_wp2_with (at_builtin; refine wpList_append_lies _ rfl _ _ _ rfl wc.heap.size 9 i0 (.string ⟨#[]⟩) 1 16 Try.underlying22 hi hz0 hz1 hz2 rfl (by decide) u13 j _ rfl H2.out ⟨w2.heap.size, 0, none⟩ 1 1 [.string T] rfl rfl H3.out H4.out (by decide) hb1 hb22 hb3 _ rfl ?_)
              intro g' cap' wq q1 q2 q3 q4
              have HB' : Hid (Below wc.heap.size wc wq) := Lib.hid ((HB2.out.alloc HB2.out.size _).grown q2 hb3 (fun k e => by have := hbase k e; omega))
              have HR2 : wq.ownsRow wc.heap.size 9 1 (.slice (some ⟨g', 0, none⟩) (j + 1) cap') (j + 1) (txN S f1 (j + 1)) := by rw [hTs.out]; exact q1
              clear q1 q2 q3 q4 H2 H3 H4 hb3 hbase hB
              go_wp2_with fail
              go_roundw
              case rel => exact ⟨j + 1, hlt3, by go_num, HR2, HB'⟩
              case measure => simp [intOf]; omega
            · obtain rfl : j = Z := by omega
              obtain ⟨a4, c4, rfl⟩ := own_shape hown
              obtain ⟨ss, hss⟩ : ∃ ss, (List.range j).map (fun (i : Nat) => (Vo.readR S f1 (i : Int)).1) = ss := ⟨_, rfl⟩
              have htx : txN S f1 j = ss.map Value.string := by rw [← hss, List.map_map]; rfl
              rw [htx] at hown
              have hsl : ss.length = j := by rw [← hss, List.length_map, List.length_range]
              have hsz : ∀ i, i < j → (ss.getD i ByteArray.empty).size ≤ 64 := fun i hi => by
                rw [← hss, List.getD_eq_getElem?_getD, List.getElem?_map, List.getElem?_range hi]
                exact HR64.out i
              have hTX := texts_own hown
              have HTX := Lib.hid hTX
              have pw := wi_lt a2 j (by omega)
              obtain ⟨p2, hp2⟩ : ∃ p2, wi a2 j = p2 := ⟨_, rfl⟩
              have WJ : ∀ W, Calls Try.prog 17 #[.int .i64 a2, .int .i64 j] W fun e w' => e = .returned (.int .i64 p2) ∧ W = w' := fun W => by
                rw [← hp2]; exact within_any a2 (j : Int) j W rfl (by omega) (by omega)
              rw [hp2] at pw
              have R1 := Root_ok a4 j c4 ss wr (by omega) hl32 hTX hsz
              have PR : Hid (∀ V, Below wr.heap.size wr V → Calls Try.prog 28 #[.slice a4 j c4, .int .i64 p2] V fun e w'' => ∃ b c, e = .returned (.tuple #[.slice b (Tr.proof (lvs ss j) p2).length c, .int .i64 0]) ∧ (Tr.proof (lvs ss j) p2).length ≤ c ∧ c ≤ maxLen ∧ StepsAt w'' b (Tr.proof (lvs ss j) p2) ∧ Below wr.heap.size wr w'') := Lib.hid fun V hb => by
                refine (Proof_ok a4 j c4 p2 ss V (by omega) hl32 pw (hTX.keep hb) hsz).mono ?_
                rintro e w'' ⟨v, rfl, ho, hb2⟩
                have hB := hb.trans (hb2.mono hb.size)
                rcases ho.2 with ⟨rfl, hz⟩ | ⟨g, c, cur, rfl, -, -, g1, g2, -⟩
                · exact ⟨none, 0, by rw [hz], by omega, Nat.zero_le _, fun h => absurd (List.length_eq_zero_iff.1 hz) h, hB⟩
                · exact ⟨_, c, rfl, g1, g2, steps_of_own ho, hB⟩
              have hw := proof_wayT j (lvs ss j) p2 (by rw [lvs_length]; exact Nat.le_refl _) (by rw [lvs_length]; exact pw) (lvs_le ss j)
              rw [lvs_length, lvs_atT ss pw] at hw
              have hroot : Tr.root (lvs ss j) = rootOf ss j := rfl
              rw [hroot] at hw
              have VG : Hid (∀ V b c, (Tr.proof (lvs ss j) p2).length ≤ c → c ≤ maxLen → StepsAt V b (Tr.proof (lvs ss j) p2) → Calls Try.prog 29 #[.int .i64 (rootOf ss j : Nat), .int .i64 j, .int .i64 p2, .string (ss.getD p2 ByteArray.empty), .slice b (Tr.proof (lvs ss j) p2).length c] V fun e w' => e = .returned (.tuple #[.bool true, .int .i64 0]) ∧ Below V.heap.size V w') := Lib.hid fun V b c h1 h2 h3 =>
                Verify_good (rootOf ss j) j p2 (ss.getD p2 ByteArray.empty) (lvs ss j) b _ c V (lvs_length ss j) hl32 pw (hsz p2 pw) (lvs_atT ss pw).symm (lvs_le ss j) rfl h1 h2 h3 rfl
              have hrl : rootOf ss j ≤ 2147483647 := by
                rw [← hw.fin]
                exact fin_le (pr_le _) _
              obtain ⟨r2, hr2, hrne⟩ := xor_one (rootOf ss j) hrl
              have VB : Hid (∀ V b c, (Tr.proof (lvs ss j) p2).length ≤ c → c ≤ maxLen → StepsAt V b (Tr.proof (lvs ss j) p2) → Calls Try.prog 29 #[.int .i64 (r2 : Nat), .int .i64 j, .int .i64 p2, .string (ss.getD p2 ByteArray.empty), .slice b (Tr.proof (lvs ss j) p2).length c] V fun e w' => e = .returned (.tuple #[.bool false, .int .i64 0]) ∧ Below V.heap.size V w') := Lib.hid fun V b c h1 h2 h3 => by
                refine (Verify_any r2 j p2 (ss.getD p2 ByteArray.empty) (stz (Tr.proof (lvs ss j) p2)) b _ c V (by omega) hl32 pw (hsz p2 pw) (by unfold stz; rw [List.length_map]) h1 h2 (stepsZ_atT h3)).mono ?_
                rintro e w' ⟨v, rfl, hv, hb⟩
                have hf : v = false := by
                  cases hvv : v with
                  | false => rfl
                  | true => exact absurd (way_one hw (hv hvv)) hrne
                subst hf
                exact ⟨rfl, hb⟩
              have hcel : wr.cell? ⟨(a4.getD ⟨0, 0, none⟩).block, p2, none⟩ = some (.string (ss.getD p2 ByteArray.empty)) ∧ a4 = some ⟨(a4.getD ⟨0, 0, none⟩).block, 0, none⟩ ∧ (a4.getD ⟨0, 0, none⟩).block < wr.heap.size := by
                obtain ⟨gg, cap, hv, -, hlt⟩ := hown.form (by omega)
                cases hv
                refine ⟨?_, rfl, hlt⟩
                show wr.cell? ⟨gg, p2, none⟩ = _
                rw [hown.cellAt p2 (by omega), List.getElem?_map, List.getElem?_eq_getElem (by omega), List.getD_eq_getElem?_getD, List.getElem?_eq_getElem (by omega)]
                rfl
              obtain ⟨hc, ha4, hglt⟩ := hcel
              generalize (a4.getD ⟨0, 0, none⟩).block = gg at *
              subst ha4
              have BZ := Lib.hid (BX.out.trans (hB.out.mono BX.out.size))
              have hp2i : (0 : Int) ≤ (p2 : Int) := by omega
              have hp2j : (p2 : Int) < (j : Int) := by omega
              clear hown htx hss hsz hTX hw hroot hrl hrne hsl hp2
              generalize ss.getD p2 ByteArray.empty = TP at *
              generalize rootOf ss j = r1 at *
              generalize Tr.proof (lvs ss j) p2 = st at *
              go_wp2_with fail
              with_reducible refine (WJ _).mono ?_
              rintro e w' ⟨rfl, rfl⟩
              go_wp2_with fail
              with_reducible refine R1.mono ?_
              rintro e v1 ⟨rfl, hb1⟩
              have HB1 := Lib.hid hb1
              have P1 := PR.out v1 hb1
              clear hb1 R1 WJ
              go_wp2_with fail
              with_reducible refine P1.mono ?_
              rintro e v2 ⟨b2, c2, rfl, k1, k2, k3, hb2⟩
              have HB2 := Lib.hid hb2
              have hc2 : v2.cell? ⟨gg, p2, none⟩ = some (.string TP) := by rw [hb2.cell (p := ⟨gg, p2, none⟩) hglt]; exact hc
              have V1 := VG.out v2 b2 c2 k1 k2 k3
              have HK3 := Lib.hid k3
              clear hb2 P1 k3 PR
              go_wp2_with fail
              with_reducible refine V1.mono ?_
              rintro e v3 ⟨rfl, hb3⟩
              have HB3 := Lib.hid (HB2.out.trans (hb3.mono HB2.out.size))
              have hc3 : v3.cell? ⟨gg, p2, none⟩ = some (.string TP) := by rw [HB3.out.cell (p := ⟨gg, p2, none⟩) hglt]; exact hc
              have HK4 : Hid (StepsAt v3 b2 st) := Lib.hid fun h => by
                obtain ⟨g5, o5, h5, h6⟩ := HK3.out h
                exact ⟨g5, o5, h5, fun i b s hi => by
                  obtain ⟨h7, h8⟩ := h6 i b s hi
                  exact ⟨by rw [hb3.cell (World.block_lt_of_cell? v2 _ h7)]; exact h7, by rw [hb3.cell (World.block_lt_of_cell? v2 _ h8)]; exact h8⟩⟩
              have V2 := VB.out v3 b2 c2 k1 k2 HK4.out
              clear hb3 V1 hc2
              go_wp2_with fail
              with_reducible refine V2.mono ?_
              rintro e v4 ⟨rfl, hb4⟩
              have HB4 := Lib.hid (HB3.out.trans (hb4.mono HB3.out.size))
              have HBF := Lib.hid (BZ.out.trans (HB4.out.mono BZ.out.size))
              clear hb4 V2 hc3
              go_wp2_with fail
              go_ret
              exact ⟨rfl, HBF.out⟩

end Go.Proofs.Ytenkdpogdfcbgaa
