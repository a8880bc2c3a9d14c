/- VolRoom: there are as many items as unlike texts; for every input. -/
import Derived.Test.YteddendidjhmbaaVolRoP
import Derived.Deep.AppendLies
namespace Go.Proofs.Yteddendidjhmbaa
open Go.RowKit

set_option maxRecDepth 100000 in
set_option maxHeartbeats 16000000 in
theorem volRoom_walk (a0 : Option Addr) (len0 cap0 : Nat) (t0 : List Lg.Op) (w : World) (w0 : OArg w a0 len0 cap0 t0) :
    Calls Try.prog 12 #[.slice a0 len0 cap0] w fun e w' => e = .returned (.bool true) ∧ Below w.heap.size w w' := by
  obtain ⟨i0, hi, hz0, hz1, hz2⟩ := info_parts tx_infoStr
  have B1 := begun_V w
  have M1 : ∀ W, Below w.heap.size w W → Calls Try.prog 33 #[.slice a0 len0 cap0] W (StMade W (Vo.made t0)) := fun W hb => made_V a0 len0 cap0 t0 W ⟨w0.1.keep hb, w0.2⟩
  have HR : Hid (Vo.Right (Vo.made t0)) := Lib.hid (Vo.made_right t0)
  obtain ⟨S, hS⟩ : ∃ S, Vo.made t0 = S := ⟨_, rfl⟩
  rw [hS] at M1 HR
  clear w0 hS
  go_enter Try.func12, Try.ntmps12
  go_wp2_with fail
  with_reducible refine B1.mono ?_
  rintro e v1 ⟨rfl, hb1⟩
  have HB1 := Lib.hid hb1
  have Q1 := M1 v1 hb1
  clear M1 B1 hb1
  go_wp2_with fail
  with_reducible refine Q1.mono ?_
  rintro e v2 ⟨a, n, c, b, m, d, rs, rfl, hs2, hb2⟩
  have HB_2 := Lib.hid ((HB1.out.trans (hb2.mono HB1.out.size)).alloc (HB1.out.trans (hb2.mono HB1.out.size)).size (.cells #[.slice a n c, .slice b m d] 52))
  have HXst_2 := Lib.hid (bxs_new v2 52 #[.slice a n c, .slice b m d] [.slice a n c, .slice b m d] rfl)
  have HSst_2 := Lib.hid (hs2.keep ((Below.refl _ v2).alloc (Nat.le_refl _) (.cells #[.slice a n c, .slice b m d] 52)))
  have hm : m ≤ 64 := by have := HR.out.len; rw [hs2.vlen] at this; omega
  clear hs2 hb2 Q1
  have x1 := HXst_2.out.c 1 _ rfl
  have hm6 : m ≤ 6 := by rw [← HSst_2.out.vlen]; exact HR.out.len
  go_wp2_with fail
  generalize v2.alloc (.cells #[.slice a n c, .slice b m d] 52) = W at *
  have hWB := HXst_2.out.lt
  clear x1
  go_loopw [4, 18] (fun v x wr => ∃ (k : Nat) (a5 : Option Addr) (n5 c5 : Nat) (xs : List ByteArray), k ≤ m ∧ x = .int .i64 k ∧ v = .slice a5 n5 c5 ∧ Hid (wr.ownsRow W.heap.size 9 1 (.slice a5 n5 c5) n5 (xs.map Value.string)) ∧ Hid (xs = Vo.room S k ∧ xs.length ≤ 32 * k) ∧ Hid (Below W.heap.size W wr)) (fun _ x _ => m - (intOf x).toNat)
  case atStart => exact ⟨0, none, 0, 0, [], Nat.zero_le _, rfl, rfl, Lib.hid (World.ownsRow_nil _ _ _ _), Lib.hid ⟨rfl, Nat.zero_le _⟩, Lib.hid (Below.refl _ _)⟩
  case round =>
    obtain ⟨k, a5, n5, c5, xs, hk, rfl, rfl, OW, EQ, BW⟩ := hrel
    by_cases hlt : k < m
    · have hkv : k < S.vols.length := by rw [HSst_2.out.vlen]; exact hlt
      have hkr : k < rs.length := by rw [HSst_2.out.rlen]; exact hlt
      obtain ⟨g, rfl, hg, d0, d1⟩ := rv_at (HSst_2.out.keep BW.out).row hkr
      obtain ⟨e1, e2, e3⟩ := HSst_2.out.vol k rs[k] S.vols[k] (List.getElem?_eq_getElem hkr) (List.getElem?_eq_getElem hkv)
      have hn3 : rs[k].n ≤ 32 := by rw [← e3]; exact (HR.out.vol S.vols[k] (List.getElem_mem hkv)).len
      have HZ : Hid (∀ j : Nat, j < rs[k].n → (Vo.readR S rs[k].name (j : Int)).2 = 0) := Lib.hid fun j hj => by
        rw [e1]
        exact Vo.read_zero HR.out hkv (by rw [e3]; exact hj)
      have HN : Hid (∀ j : Nat, j < rs[k].n → ∀ (hj : j < S.vols[k].ids.length), Vo.inV S S.vols[k] xs (j + 1) = Vo.addT (Vo.inV S S.vols[k] xs j) S.vols[k].ids[j].is (Vo.readR S rs[k].name (j : Int)).1) := Lib.hid fun j hj hj' => by
        rw [e1]
        exact Vo.inV_step hj'
      have HK : Hid (Vo.room S (k + 1) = Vo.inV S S.vols[k] xs rs[k].n) := Lib.hid (by rw [Vo.room_step hkv, ← EQ.out.1, e3])
      have HI := Lib.hid e2
      have HL := Lib.hid e3
      clear e1 e2 e3
      generalize S.vols[k] = V at *
      generalize rs[k].name = f1 at *
      generalize rs[k].a = f2 at *
      generalize rs[k].n = f3 at *
      generalize rs[k].c = f4 at *
      have ha := (Below.refl wr.heap.size wr).alloc (Nat.le_refl _) (.cells #[.string f1, .slice f2 f3 f4] 56)
      have BA := Lib.hid (BW.out.trans (ha.mono BW.out.size))
      have OA := Lib.hid (own_keep OW.out ha)
      have CA := Lib.hid (bxs_new wr 56 #[.string f1, .slice f2 f3 f4] [.string f1, .slice f2 f3 f4] rfl)
      have NA : Hid ((Value.slice a5 n5 c5).ownBlock ≠ some wr.heap.size) := Lib.hid fun e => by have := own_block_lt OW.out _ e; omega
      have hwr := BW.out.size
      clear ha
      go_wp2_with fail
      obtain ⟨wo, rfl⟩ : ∃ wo : World, wo = wr := ⟨_, rfl⟩
      clear d0 d1
      go_loopw [4, 25] (fun v x wv => ∃ (j : Nat) (a6 : Option Addr) (n6 c6 : Nat) (ys : List ByteArray), j ≤ f3 ∧ x = .int .i64 j ∧ v = .slice a6 n6 c6 ∧ Hid (wv.ownsRow W.heap.size 9 1 (.slice a6 n6 c6) n6 (ys.map Value.string)) ∧ Hid (ys = Vo.inV S V xs j ∧ ys.length ≤ xs.length + j) ∧ Hid (Below W.heap.size W wv) ∧ Hid (Bxs wv wo.heap.size [.string f1, .slice f2 f3 f4]) ∧ Hid ((Value.slice a6 n6 c6).ownBlock ≠ some wo.heap.size)) (fun _ x _ => f3 - (intOf x).toNat)
      case atStart => exact ⟨0, a5, n5, c5, xs, Nat.zero_le _, rfl, rfl, OA, Lib.hid ⟨rfl, Nat.le_refl _⟩, BA, CA, NA⟩
      case round =>
        obtain ⟨j, a6, n6, c6, ys, hj, rfl, rfl, OV, EV, BV, CV, NV⟩ := hrel
        by_cases hlt2 : j < f3
        · have hji : j < V.ids.length := by rw [HL.out]; exact hlt2
          obtain ⟨g2, rfl, hg2, -, q0, q1, q2⟩ := dv_at (own_keep HI.out BV.out) hji
          have HNj := Lib.hid (HN.out j hlt2 hji)
          have HZj := Lib.hid (HZ.out j hlt2)
          generalize V.ids[j].is = b1 at *
          generalize V.ids[j].sum = b2 at *
          generalize V.ids[j].n = b3 at *
          have ha := (Below.refl wr.heap.size wr).alloc (Nat.le_refl _) (.cells #[.bool b1, .int .i64 b2, .int .i64 b3] 26)
          have BV1 := Lib.hid (BV.out.trans (ha.mono BV.out.size))
          have OV1 := Lib.hid (own_keep OV.out ha)
          have CV1 := Lib.hid (CV.out.on ha)
          have IV1 := Lib.hid (bxs_new wr 26 #[.bool b1, .int .i64 b2, .int .i64 b3] [.bool b1, .int .i64 b2, .int .i64 b3] rfl)
          have SV1 := Lib.hid (HSst_2.out.keep BV1.out)
          have XV1 := Lib.hid (HXst_2.out.on BV1.out)
          have RD := Read_V a (some ⟨g, 0, none⟩) n c m d _ rs S f1 (j : Int) _ SV1.out HR.out
          rw [HZj.out] at RD
          have HNk := Lib.hid HNj.out
          clear HNj HZj
          generalize (Vo.readR S f1 (j : Int)).1 = T at *
          have x0 := XV1.out.c 0 _ rfl; have x1 := XV1.out.c 1 _ rfl; have y0 := CV1.out.c 0 _ rfl
          clear ha
          go_wp2_with fail
          with_reducible refine RD.mono ?_
          rintro e w5 ⟨rfl, hb5⟩
          have BV5 := Lib.hid (BV1.out.trans (hb5.mono BV1.out.size))
          have OV5 := Lib.hid (own_keep OV1.out hb5)
          have CV5 := Lib.hid (CV1.out.on hb5)
          have z0 := (IV1.out.on hb5).c 0 _ rfl
          have hyl : n6 ≤ 1000 := by have := OV.out.1; rw [List.length_map] at this; have := EV.out.2; have := EQ.out.2; omega
          have HW5 : wo.heap.size < w5.heap.size := CV5.out.lt
          have hw5 := BV5.out.size
          clear hb5 RD x0 x1 y0 q0 q1 q2
          cases b1 with
          | false =>
            go_wp2_with fail
            go_roundw
            case rel => exact ⟨j + 1, a6, n6, c6, ys, hlt2, by go_num, rfl, OV5, Lib.hid ⟨by rw [HNk.out, ← EV.out.1]; rfl, by have := EV.out.2; omega⟩, BV5, CV5, NV⟩
            case measure => simp [intOf]; omega
          | true =>
            have CT := Contains_S a6 n6 c6 _ ys T w5 OV5.out hyl
            cases hc : Lib.containsS ys T with
            | true =>
              rw [hc] at CT
              have HC := Lib.hid hc
              clear hc
              go_wp2_with fail
              with_reducible refine CT.mono ?_
              rintro e w6 ⟨rfl, rfl⟩
              clear CT
              go_wp2_with fail
              go_roundw
              case rel => exact ⟨j + 1, a6, n6, c6, ys, hlt2, by go_num, rfl, OV5, Lib.hid ⟨by rw [HNk.out, ← EV.out.1]; unfold Vo.addT; rw [if_neg (fun h => by rw [HC.out] at h; cases h.2)], by have := EV.out.2; omega⟩, BV5, CV5, NV⟩
              case measure => simp [intOf]; omega
            | false =>
              rw [hc] at CT
              have HC := Lib.hid hc
              clear hc
              go_wp2_with fail
              with_reducible refine CT.mono ?_
              rintro e w6 ⟨rfl, rfl⟩
              clear CT z0
              have hcell : ∀ j x, [Value.string T][j]? = some x → (w6.alloc (.cells #[.string T] 9)).cell? ((⟨w6.heap.size, 0, none⟩ : Addr).add j) = some x := fun j x h => cell_one_new w6 (.string T) 9 j x h
              have hone : ∀ x ∈ [Value.string T], x.oneCell' = true := by intro x hx; simp at hx; subst hx; rfl
              have hb1 : n6 + 1 ≤ maxLen := by unfold maxLen; omega
              have hb22 : (n6 + 1) * 16 ≤ 140737488355328 := by omega
              have hb3 : W.heap.size ≤ (w6.alloc (.cells #[.string T] 9)).heap.size := by rw [World.size_alloc]; omega
              have H2 : Hid ((w6.alloc (.cells #[.string T] 9)).ownsRow W.heap.size 9 1 (.slice a6 n6 c6) n6 (ys.map Value.string)) := Lib.hid (OV5.out.alloc _)
              have H3 := Lib.hid hcell; have H4 := Lib.hid hone
              have hbase := Lib.hid (row_base OV5.out)
              clear hcell hone
              go_wp2_with (at_builtin; refine wpList_append_lies _ rfl _ _ _ rfl W.heap.size 9 i0 (.string ⟨#[]⟩) 1 16 Try.underlying69 hi hz0 hz1 hz2 rfl (by decide) (.slice a6 n6 c6) n6 _ rfl H2.out ⟨w6.heap.size, 0, none⟩ 1 1 [.string T] rfl rfl H3.out H4.out (by decide) hb1 hb22 hb3 _ rfl ?_)
              intro g' cap' wq p1 p2 p3 p4
              have BQ : Hid (Below W.heap.size W wq) := Lib.hid ((BV5.out.alloc hw5 _).grown p2 hb3 (fun k e => by have := hbase.out k e; omega))
              have CQ : Hid (Bxs wq wo.heap.size [.string f1, .slice (some ⟨g2, 0, none⟩) f3 f4]) := Lib.hid ((CV5.out.alloc _).grown p2 (fun e => NV.out e.symm))
              have NQ : Hid ((Value.slice (some ⟨g', 0, none⟩) (n6 + 1) cap').ownBlock ≠ some wo.heap.size) := Lib.hid fun e => by
                have e2 : g' = wo.heap.size := Option.some.inj e
                rcases p3 with h | h
                · exact NV.out (by rw [h, e2])
                · omega
              have OQ : Hid (wq.ownsRow W.heap.size 9 1 (.slice (some ⟨g', 0, none⟩) (n6 + 1) cap') (n6 + 1) ((ys ++ [T]).map Value.string)) := Lib.hid (by rw [List.map_append]; exact p1)
              clear p1 p2 p3 p4 H2 H3 H4 hb3 hbase
              go_wp2_with fail
              go_roundw
              case rel => exact ⟨j + 1, _, _, _, ys ++ [T], hlt2, by go_num, rfl, OQ, Lib.hid ⟨by rw [HNk.out, ← EV.out.1]; unfold Vo.addT; rw [if_pos ⟨rfl, HC.out⟩], by have := EV.out.2; rw [List.length_append, List.length_singleton]; omega⟩, BQ, CQ, NQ⟩
              case measure => simp [intOf]; omega
        · obtain rfl : j = f3 := by omega
          go_wp2_with fail
          go_roundw
          case rel => exact ⟨k + 1, a6, n6, c6, ys, hlt, by go_num, rfl, OV, Lib.hid ⟨by rw [HK.out, EV.out.1], by have := EV.out.2; have := EQ.out.2; omega⟩, BV⟩
          case measure => simp [intOf]; omega
    · obtain rfl : k = m := by omega
      have hn : n = n5 := by
        have h1 := OW.out.1
        rw [List.length_map, EQ.out.1, ← HSst_2.out.vlen, Vo.room_is HR.out, HSst_2.out.len] at h1
        omega
      subst hn
      have x0 := (HXst_2.out.on BW.out).c 0 _ rfl
      go_wp2_with fail
      go_ret
      exact ⟨rfl, HB_2.out.trans (BW.out.mono HB_2.out.size)⟩

end Go.Proofs.Yteddendidjhmbaa
