import Derived.Test.YtenkdpogdfcbgaaGreatVoF
import Derived.Test.YtenkdpogdfcbgaaGreatVoP
import Derived.Test.YtenkdpogdfcbgaaGreatVoE
import Derived.Test.YtenkdpogdfcbgaaGreatLogW2
/- The walk of vol.Drop. -/
namespace Go.Proofs.YtenkdpogdfcbgaaGreat
open Go.RowKit

theorem drop_result {tmps : Array Value} {W : World} {B : Nat} {v0 v1 e : Value} (h2 : tmps.getD 4 undef = .pointer (some ⟨B, 0, none⟩)) (h3 : tmps.getD 5 undef = e) (h : Bxs W B [v0, v1]) :
    (results Tryz.f56 tmps).run Tryz.prog W = .ok (.tuple #[.agg #[v0, v1], e]) W := by
  have c0 := h.c 0 _ rfl; have c1 := h.c 1 _ rfl
  have hq : tmps[4]?.getD undef = .pointer (some ⟨B, 0, none⟩) := by simpa using h2
  have hr : tmps[5]?.getD undef = e := by simpa using h3
  simp [results, Tryz.results56, hq, hr, go_sem, c0, c1]

theorem vdrop_none {s : Vo.St} {name : ByteArray} (h : Vo.find s.vols name = none) : Vo.dropR s name = ⟨Vo.st0, 4⟩ := by unfold Vo.dropR; rw [h]
theorem vdrop_some {s : Vo.St} {name : ByteArray} {i : Nat} (h : Vo.find s.vols name = some i) (hi : i < s.vols.length) : Vo.dropR s name = ⟨⟨s.vols[i].ids.foldl Vo.unuse s.bag, s.vols.take i ++ s.vols.drop (i + 1)⟩, 0⟩ := by
  unfold Vo.dropR
  rw [h]
  simp only [List.getElem?_eq_getElem hi, List.eraseIdx_eq_take_drop_succ]

theorem fold_take {α β : Type} (f : β → α → β) (b : β) {l : List α} {k : Nat} (hk : k < l.length) : (l.take (k + 1)).foldl f b = f ((l.take k).foldl f b) l[k] := by
  rw [List.take_succ_eq_append_getElem hk, List.foldl_append]
  rfl

theorem fold_small {l : List Bg.It} (h : ∀ t ∈ l, t.text.size ≤ maxLen) (ids : List Bg.Id) : ∀ t ∈ ids.foldl Vo.unuse l, t.text.size ≤ maxLen := by
  induction ids generalizing l with
  | nil => exact h
  | cons x ids ih => exact ih (unuse_small h x)

set_option maxRecDepth 100000 in
set_option maxHeartbeats 4000000 in
theorem Drop_V (a b : Option Addr) (n c m d base : Nat) (rs : List Rw) (s : Vo.St) (name : ByteArray) (w : World) (hS : StW w base a n c b m d rs s) (hR : Vo.Right s) :
    Calls Tryz.prog 56 #[.agg #[.slice a n c, .slice b m d], .string name] w (StTo w (Vo.dropR s name)) := by
  have hm : m ≤ 6 := by rw [← hS.vlen]; exact hR.len
  have hn : n ≤ 64 := by rw [← hS.len]; exact hR.bag.len
  obtain ⟨w0, hw0, hB, hX, hY⟩ := deed_boxes w a b n c m d
  have C1 := Check_V a b n c m d base rs s _ (hS.keep hB) hR
  have HF1 : Hid (∀ W, Below w.heap.size w W → Calls Tryz.prog 84 #[.agg #[.slice a n c, .slice b m d], .string name] W fun e w' => e = .returned (.int .i64 (Vo.findI s.vols name)) ∧ Below W.heap.size W w') := Lib.hid fun W hb => find_V a b n c m d base rs s name W (hS.keep hb) (by omega)
  have HCP : Hid (∀ W, Below w.heap.size w W → Calls Tryz.prog 30 #[.agg #[.slice a n c, .slice b m d]] W (StMade W s)) := Lib.hid fun W hb => Copied_V a b n c m d base rs s W (hS.keep hb) (by omega) (by omega) fun v hv => by have := (hR.vol v hv).len; omega
  have HSM := Lib.hid (good_small hR.bag)
  have HB := Lib.hid hB; have HX := Lib.hid hX; have HY := Lib.hid hY; have HR := Lib.hid hR
  have x0 := hX.c 0 _ rfl; have x1 := hX.c 1 _ rfl
  have hlx := hX.lt
  have hly := hY.lt
  have hmv : s.vols.length = m := hS.vlen
  have HMV := Lib.hid hmv
  clear hS hR hB hX hY hmv
  cases hf : Vo.find s.vols name with
  | none =>
    rw [findI_none hf] at HF1
    rw [vdrop_none hf]
    clear hf
    go_enter Tryz.func56, Tryz.ntmps56
    go_wp2_with fail
    with_reducible refine C1.mono ?_
    rintro e w1 ⟨rfl, hb1⟩
    have HB1 := Lib.hid (HB.out.trans (hb1.mono HB.out.size))
    have HX1 := Lib.hid (HX.out.on hb1); have HY1 := Lib.hid (HY.out.on hb1)
    clear x0 x1 hb1 C1
    have x0 := HX1.out.c 0 _ rfl; have x1 := HX1.out.c 1 _ rfl
    go_wp2_with fail
    with_reducible refine (HF1.out _ HB1.out).mono ?_
    rintro e w2 ⟨rfl, hb2⟩
    have HB2 := Lib.hid (HB1.out.trans (hb2.mono HB1.out.size))
    have HY2 := Lib.hid (HY1.out.on hb2)
    clear x0 x1 hb2
    have y0 := HY2.out.c 0 _ rfl; have y1 := HY2.out.c 1 _ rfl; have yf0 := HY2.out.z 0 (show 0 < 2 by decide); have yf1 := HY2.out.z 1 (show 1 < 2 by decide)
    go_wp2_with fail
    refine bodyPost_ret (drop_result (B := w.heap.size + 1) rfl rfl (HY2.out.set2 _ _)) rfl ?_
    exact stTo_err (below_set2 HB2.out (by omega) _ _)
  | some i =>
    obtain ⟨hfi, hi⟩ := findI_some hf
    rw [hfi] at HF1
    rw [vdrop_some hf hi]
    have him : i < m := by rw [← HMV.out]; exact hi
    have hjl : s.vols[i].ids.length ≤ 32 := (HR.out.vol s.vols[i] (List.getElem_mem hi)).len
    obtain ⟨ids, hids⟩ : ∃ ids, s.vols[i].ids = ids := ⟨_, rfl⟩
    rw [hids] at hjl ⊢
    have HVI : Hid (s.vols[i]? = some s.vols[i] ∧ s.vols[i].ids = ids) := Lib.hid ⟨List.getElem?_eq_getElem hi, hids⟩
    clear hf hfi hids
    go_enter Tryz.func56, Tryz.ntmps56
    go_wp2_with fail
    with_reducible refine C1.mono ?_
    rintro e w1 ⟨rfl, hb1⟩
    have HB1 := Lib.hid (HB.out.trans (hb1.mono HB.out.size))
    have HX1 := Lib.hid (HX.out.on hb1); have HY1 := Lib.hid (HY.out.on hb1)
    clear x0 x1 hb1 C1
    have x0 := HX1.out.c 0 _ rfl; have x1 := HX1.out.c 1 _ rfl
    go_wp2_with fail
    with_reducible refine (HF1.out _ HB1.out).mono ?_
    rintro e w2 ⟨rfl, hb2⟩
    have HB2 := Lib.hid (HB1.out.trans (hb2.mono HB1.out.size))
    have HX2 := Lib.hid (HX1.out.on hb2); have HY2 := Lib.hid (HY1.out.on hb2)
    clear x0 x1 hb2 HF1
    have x0 := HX2.out.c 0 _ rfl; have x1 := HX2.out.c 1 _ rfl
    go_wp2_with fail
    with_reducible refine (HCP.out _ HB2.out).mono ?_
    rintro e w3 ⟨a4, n4, c4, b4, m4, d4, rs4, rfl, hs4, hb3⟩
    have hm4 : m4 = m := by rw [← hs4.vlen, HMV.out]
    subst hm4
    have HB3 := Lib.hid (HB2.out.trans (hb3.mono HB2.out.size))
    have HY3 := Lib.hid (HY2.out.on hb3)
    have hz1 := HY2.out.lt
    have hz2 := hb3.size
    have hir : i < rs4.length := by rw [hs4.rlen]; exact him
    obtain ⟨e1, e2, e3⟩ := hs4.vol i rs4[i] s.vols[i] (List.getElem?_eq_getElem hir) (List.getElem?_eq_getElem hi)
    have hn4 : rs4[i].n ≤ 32 := by rw [← e3, HVI.out.2]; exact hjl
    have HIL : Hid (ids.length = rs4[i].n) := Lib.hid (by rw [← e3, HVI.out.2])
    obtain ⟨g, rfl, hg, d0, d1⟩ := rv_at hs4.row hir
    have HAT : Hid (∀ (V : World) (a' : Option Addr) (n' c' : Nat) (L : List Bg.It), StW V w2.heap.size a' n' c' (some ⟨g, 0, none⟩) m4 d4 rs4 ⟨L, s.vols⟩ → V.ownsRow w2.heap.size 81 3 (.slice rs4[i].a rs4[i].n rs4[i].c) rs4[i].n (dv ids)) := Lib.hid fun V a' n' c' L hV => by
      have h := (hV.vol i rs4[i] s.vols[i] (List.getElem?_eq_getElem hir) (List.getElem?_eq_getElem hi)).2.1
      rw [HVI.out.2] at h
      exact h
    have HS4 := Lib.hid hs4
    have HNB : Hid (∀ v ∈ (Value.slice (some ⟨g, 0, none⟩) m4 d4) :: rs4.map Rw.sl, ∀ B, v.ownBlock = some B → w2.heap.size ≤ B ∧ B < w3.heap.size) := Lib.hid fun v hv B hB => hs4.lt v (by unfold sls; exact List.mem_cons_of_mem _ hv) B hB
    have HAB : Hid (∀ B, (Value.slice a4 n4 c4).ownBlock = some B → B < w3.heap.size) := Lib.hid fun B hB => own_block_lt hs4.bag B hB
    clear x0 x1 hb3 hs4 e1 e2 e3
    generalize rs4[i].name = f1 at *
    generalize rs4[i].a = f2 at *
    generalize rs4[i].n = f3 at *
    generalize rs4[i].c = f4 at *
    go_wp2_with fail
    clear d0 d1
    go_loopw [32] (fun x wr => ∃ (k : Nat) (a5 : Option Addr) (n5 c5 : Nat) (L : List Bg.It), k ≤ f3 ∧ x = .int .i64 k ∧ Hid (L = (ids.take k).foldl Vo.unuse s.bag) ∧ Hid (Below w.heap.size w wr) ∧ Hid (Bxs wr w3.heap.size [.slice a5 n5 c5, .slice (some ⟨g, 0, none⟩) m4 d4]) ∧ Hid (Bxs wr (w.heap.size + 1) [.slice none 0 0, .slice none 0 0]) ∧
        Hid (StW wr w2.heap.size a5 n5 c5 (some ⟨g, 0, none⟩) m4 d4 rs4 ⟨L, s.vols⟩) ∧ Hid (∀ B, (Value.slice a5 n5 c5).ownBlock = some B → B ≠ w3.heap.size))
      (fun x _ => f3 - (intOf x).toNat)
    case atStart => exact ⟨0, a4, n4, c4, s.bag, Nat.zero_le _, rfl, Lib.hid rfl, Lib.hid (HB3.out.alloc HB3.out.size _), Lib.hid (bxs_new w3 _ _ _ rfl), Lib.hid (HY3.out.alloc _), Lib.hid (HS4.out.keep ((Below.refl _ w3).alloc (Nat.le_refl _) _)), Lib.hid fun B hB e => by have := HAB.out B hB; omega⟩
    case round =>
      obtain ⟨k, a5, n5, c5, L, hk, rfl, HL, BW, TW, YW, SW, OW⟩ := hrel
      have hsz := BW.out.size
      have htl := TW.out.lt
      by_cases hlt : k < f3
      · have hkl : k < ids.length := by rw [HIL.out]; exact hlt
        obtain ⟨g2, rfl, hg2, -, q0, q1, q2⟩ := dv_at (HAT.out wr _ _ _ _ SW.out) hkl
        have HST := Lib.hid (fold_take Vo.unuse s.bag hkl)
        have HLS : Hid (∀ t ∈ L, t.text.size ≤ maxLen) := Lib.hid (by rw [HL.out]; exact fold_small HSM.out _)
        rw [← HL.out] at HST
        generalize ids[k] = id0 at *
        obtain ⟨i1, i2, i3⟩ := id0
        dsimp only at q0 q1 q2
        cases i1 with
        | false =>
          have HL' : Hid (L = (ids.take (k + 1)).foldl Vo.unuse s.bag) := Lib.hid (by rw [HST.out]; rfl)
          have BA := Lib.hid fun o => BW.out.alloc hsz o
          go_wp2_with fail
          go_roundw
          case rel => exact ⟨k + 1, a5, n5, c5, L, hlt, by go_num, HL', Lib.hid (BA.out _), Lib.hid (TW.out.alloc _), Lib.hid (YW.out.alloc _), Lib.hid (SW.out.keep ((Below.refl _ wr).alloc (Nat.le_refl _) _)), OW⟩
          case measure => simp [intOf]; omega
        | true =>
          have hal := (Below.refl wr.heap.size wr).alloc (Nat.le_refl _) (.cells #[.bool true, .int .i64 i2, .int .i64 i3] 81)
          have DR := Drop_I a5 n5 c5 L true i2 i3 _ ((SW.out.keep hal).isl) HLS.out
          have HL' : Hid ((Bg.dropR Bg.Pr L ⟨true, i2, i3⟩).1 = (ids.take (k + 1)).foldl Vo.unuse s.bag) := Lib.hid (by rw [HST.out]; rfl)
          have HAL := Lib.hid hal
          have t0 := TW.out.c 0 _ rfl
          clear hal
          generalize (Bg.dropR Bg.Pr L ⟨true, i2, i3⟩).2 = E2 at *
          generalize (Bg.dropR Bg.Pr L ⟨true, i2, i3⟩).1 = L2 at *
          go_wp2_with fail
          with_reducible refine DR.mono ?_
          rintro e w5 ⟨a6, n6, c6, rfl, ho6, hl6, hb6⟩
          have hb7 := HAL.out.trans (hb6.mono (by rw [World.size_alloc]; omega))
          have HB7 := Lib.hid (BW.out.trans (hb7.mono hsz))
          have HT7 := Lib.hid (TW.out.on hb7); have HY7 := Lib.hid (YW.out.on hb7); have HS7 := Lib.hid (SW.out.keep hb7)
          rw [World.size_alloc] at ho6
          have HO6 := Lib.hid ho6; have HL6 := Lib.hid hl6
          have hz7 := hb7.size
          clear ho6 hl6 hb6 hb7 t0 q0 q1 q2
          have t0 := HT7.out.c 0 _ rfl; have t1 := HT7.out.c 1 _ rfl; have tf := HT7.out.z 0 (show 0 < 2 by decide)
          have HSN : Hid (StW (w5.setCell ⟨w3.heap.size, 0, none⟩ (.slice a6 n6 c6)) w2.heap.size a6 n6 c6 (some ⟨g, 0, none⟩) m4 d4 rs4 ⟨L2, s.vols⟩) := Lib.hid (by
            have s1 := HS7.out.other (B := w3.heap.size) (i := 0) (fun v hv e => by
              unfold sls at hv
              rcases List.mem_cons.1 hv with rfl | hv
              · exact OW.out _ e rfl
              · have := (HNB.out v hv _ e).2; omega) (.slice a6 n6 c6)
            refine s1.setBag (own_other (own_low HO6.out (by omega)) (fun e => by have := row_base HO6.out _ e; omega) (.slice a6 n6 c6)) HL6.out (fun v hv B hB e => ?_)
            have h1 := row_base HO6.out B hB
            have := (HNB.out v hv B e).2
            omega)
          go_wp2_with fail
          go_roundw
          case rel => exact ⟨k + 1, a6, n6, c6, L2, hlt, by go_num, HL', Lib.hid (HB7.out.setCell (show w.heap.size ≤ w3.heap.size by omega) _), Lib.hid (HT7.out.set 0 (show 0 < 2 by decide) (.slice a6 n6 c6) rfl), Lib.hid (HY7.out.other (i := 0) (by omega) _), HSN, Lib.hid fun B hB e => by have := row_base HO6.out B hB; omega⟩
          case measure => simp [intOf]; omega
      · obtain rfl : k = f3 := by omega
        have HLF : Hid (L = ids.foldl Vo.unuse s.bag) := Lib.hid (by rw [HL.out, List.take_of_length_le (by rw [HIL.out]; exact Nat.le_refl _)])
        obtain ⟨m', hm'⟩ : ∃ m', m4 = i + 1 + m' := ⟨m4 - i - 1, by omega⟩
        have DL := Delete_V g d4 m4 i m' w2.heap.size rs4 wr SW.out.row hm' (by omega)
        have t0 := TW.out.c 0 _ rfl; have t1 := TW.out.c 1 _ rfl
        have w1' : IntKind.i64.wrap ((i : Int) + 1) = (i : Int) + 1 := IntWalk.i64_in _ ⟨by omega, by omega⟩
        have HM' := Lib.hid hm'
        clear hm'
        go_wp2_with fail
        with_reducible refine DL.mono ?_
        rintro e w5 ⟨rfl, ho5, hg5⟩
        have hnb : ∀ B, (∀ v ∈ sls a5 n5 c5 (some ⟨g, 0, none⟩) m4 d4 rs4, v.ownBlock ≠ some B) → some B ≠ some g := fun B hB e => hB (.slice (some ⟨g, 0, none⟩) m4 d4) (by simp [sls]) (by rw [e]; rfl)
        have hoT : ∀ v ∈ sls a5 n5 c5 (some ⟨g, 0, none⟩) m4 d4 rs4, v.ownBlock ≠ some w3.heap.size := fun v hv e => by
          unfold sls at hv
          rcases List.mem_cons.1 hv with rfl | hv
          · exact OW.out _ e rfl
          · have := (HNB.out v hv _ e).2; omega
        have HT5 := Lib.hid (TW.out.grown hg5 (hnb _ hoT))
        have HY5 := Lib.hid (YW.out.grown hg5 (hnb _ (SW.out.off hz1)))
        have HB5 := Lib.hid (BW.out.grown hg5 (by omega) (fun j hj => by cases hj; have := (HNB.out _ List.mem_cons_self g rfl).1; omega))
        have HS5 := Lib.hid (SW.out.del HM'.out hg5 ho5 rfl)
        have hgl : ∀ v ∈ sls a5 n5 c5 (some ⟨g, 0, none⟩) (i + m') d4 (rs4.take i ++ rs4.drop (i + 1)), v.ownBlock ≠ some w3.heap.size := fun v hv e => by
          unfold sls at hv
          rcases List.mem_cons.1 hv with rfl | hv
          · exact OW.out _ e rfl
          · rcases List.mem_cons.1 hv with rfl | hv
            · exact hoT (.slice (some ⟨g, 0, none⟩) m4 d4) (by simp [sls]) e
            · refine hoT v ?_ e
              obtain ⟨r, hr, rfl⟩ := List.mem_map.1 hv
              unfold sls
              refine List.mem_cons_of_mem _ (List.mem_cons_of_mem _ (List.mem_map_of_mem ?_))
              rcases List.mem_append.1 hr with hr | hr
              · exact List.mem_of_mem_take hr
              · exact List.mem_of_mem_drop hr
        have HGL := Lib.hid hgl
        clear ho5 hg5 hnb hoT hgl t0 t1 DL
        have t0 := HT5.out.c 0 _ rfl; have t1 := HT5.out.c 1 _ rfl; have tf := HT5.out.z 1 (show 1 < 2 by decide)
        have y0 := HY5.out.c 0 _ rfl; have y1 := HY5.out.c 1 _ rfl; have yf0 := HY5.out.z 0 (show 0 < 2 by decide); have yf1 := HY5.out.z 1 (show 1 < 2 by decide)
        have hTY : w3.heap.size ≠ w.heap.size + 1 := by omega
        go_wp2_with fail
        have s1 := HS5.out.other (B := w3.heap.size) (i := 1) HGL.out (.slice (some ⟨g, 0, none⟩) (i + m') d4)
        have s2 := s1.other (B := w.heap.size + 1) (i := 0) (s1.off hz1) (.slice a5 n5 c5)
        have s3 := s2.other (B := w.heap.size + 1) (i := 1) (s2.off hz1) (.slice (some ⟨g, 0, none⟩) (i + m') d4)
        have HY6 := HY5.out.other (i := 1) hTY (.slice (some ⟨g, 0, none⟩) (i + m') d4)
        refine bodyPost_ret (drop_result (B := w.heap.size + 1) rfl rfl (HY6.set2 _ _)) rfl ?_
        rw [← HLF.out]
        exact ⟨_, _, _, _, _, _, _, rfl, s3.low (by omega), below_set2 (HB5.out.setCell (show w.heap.size ≤ w3.heap.size by omega) _) (by omega) _ _⟩

end Go.Proofs.YtenkdpogdfcbgaaGreat

/- The walk of vol.Clone. -/
namespace Go.Proofs.YtenkdpogdfcbgaaGreat
open Go.RowKit

theorem clone_result {tmps : Array Value} {W : World} {B : Nat} {v0 v1 e : Value} (h2 : tmps.getD 6 undef = .pointer (some ⟨B, 0, none⟩)) (h3 : tmps.getD 7 undef = e) (h : Bxs W B [v0, v1]) :
    (results Tryz.f59 tmps).run Tryz.prog W = .ok (.tuple #[.agg #[v0, v1], e]) W := by
  have c0 := h.c 0 _ rfl; have c1 := h.c 1 _ rfl
  have hq : tmps[6]?.getD undef = .pointer (some ⟨B, 0, none⟩) := by simpa using h2
  have hr : tmps[7]?.getD undef = e := by simpa using h3
  simp [results, Tryz.results59, hq, hr, go_sem, c0, c1]

theorem vclone_none {s : Vo.St} {name tn : ByteArray} (h : Vo.find s.vols name = none) : Vo.cloneR s name tn = ⟨Vo.st0, 4⟩ := by unfold Vo.cloneR; rw [h]
theorem vclone_bad {s : Vo.St} {name tn : ByteArray} {i : Nat} (h : Vo.find s.vols name = some i) (hi : i < s.vols.length) (he : Vo.freshE s.vols tn ≠ 0) : Vo.cloneR s name tn = ⟨Vo.st0, Vo.freshE s.vols tn⟩ := by
  unfold Vo.cloneR
  rw [h]
  simp only [List.getElem?_eq_getElem hi]
  rw [if_pos he]
theorem vclone_ok {s : Vo.St} {name tn : ByteArray} {i : Nat} (h : Vo.find s.vols name = some i) (hi : i < s.vols.length) (he : Vo.freshE s.vols tn = 0) : Vo.cloneR s name tn = ⟨⟨s.vols[i].ids.foldl Vo.reuse s.bag, Vo.insV s.vols ⟨tn, s.vols[i].ids⟩⟩, 0⟩ := by
  unfold Vo.cloneR
  rw [h]
  simp only [List.getElem?_eq_getElem hi]
  rw [if_neg (fun h => h he)]

theorem reuse_none {l : List Bg.It} {id : Bg.Id} (h : l.findIdx? (Bg.hit id) = none) : Vo.reuse l id = l := by unfold Vo.reuse; rw [h]
theorem reuse_some {l : List Bg.It} {id : Bg.Id} {k : Nat} (h : l.findIdx? (Bg.hit id) = some k) (hk : k < l.length) : Vo.reuse l id = l.set k ⟨l[k].sum, l[k].n, l[k].text, l[k].refs + 1⟩ := by
  unfold Vo.reuse
  rw [h]
  simp only [List.getElem?_eq_getElem hk]

/-- Refs within bounds. -/
def Lo (l : List Bg.It) (N : Nat) : Prop := ∀ x ∈ l, 0 ≤ x.refs ∧ x.refs ≤ 1000000 + (N : Int)

theorem Lo.next {l : List Bg.It} {N : Nat} (h : Lo l N) (id : Bg.Id) : Lo (Vo.reuse l id) (N + 1) := by
  have h1 : Lo l (N + 1) := fun x hx => by have := h x hx; omega
  unfold Vo.reuse
  split
  · split
    · rename_i x hx
      intro y hy
      rcases List.mem_or_eq_of_mem_set hy with hy | rfl
      · exact h1 y hy
      · have := h x (List.mem_of_getElem? hx)
        show 0 ≤ x.refs + 1 ∧ x.refs + 1 ≤ _
        omega
    · exact h1
  · exact h1

theorem StW.setRefs {w : World} {base n c m d g k : Nat} {b : Option Addr} {rs : List Rw} {s : Vo.St} {r : Int} (h : StW w base (some ⟨g, 0, none⟩) n c b m d rs s) (hk : k < s.bag.length) :
    StW (w.setCell ⟨g, k * 4 + 3, none⟩ (.int .i64 r)) base (some ⟨g, 0, none⟩) n c b m d rs ⟨s.bag.set k ⟨s.bag[k].sum, s.bag[k].n, s.bag[k].text, r⟩, s.vols⟩ := by
  have hap := h.apart'
  unfold sls at hap
  rw [apart_cons] at hap
  have hblk : ∀ (B : Nat), B ≠ g → (w.setCell ⟨g, k * 4 + 3, none⟩ (.int .i64 r)).heap[B]? = w.heap[B]? := fun B hB => heap_setCell_other _ _ B _ (fun e => hB e)
  have hne : ∀ v ∈ (Value.slice b m d) :: rs.map Rw.sl, ∀ B, v.ownBlock = some B → B ≠ g := fun v hv B hB e => by subst e; exact hap.1 v hv B rfl hB
  refine ⟨?_, by show (s.bag.set _ _).length = n; rw [List.length_set, h.len], own_kept3 h.row fun B hB => hblk B (hne _ List.mem_cons_self B hB), h.rlen, h.vlen, fun i r' v hr hv => ?_, h.apart⟩
  · show World.ownsRow _ _ _ _ _ _ (tv (s.bag.set k _))
    rw [tv_set_refs hk]
    exact (h.bag.stored (k * 4 + 3) (.int .i64 r)).1
  · obtain ⟨h1, h2, h3⟩ := h.vol i r' v hr hv
    exact ⟨h1, own_kept3 h2 fun B hB => hblk B (hne _ (List.mem_cons_of_mem _ (List.mem_map_of_mem (List.mem_of_getElem? hr))) B hB), h3⟩

theorem tv_at {w : World} {base n m c k : Nat} {e : TypeId} {a : Option Addr} {l : List Bg.It} (h : w.ownsRow base e 4 (.slice a n c) m (tv l)) (hk : k < l.length) :
    ∃ g, a = some ⟨g, 0, none⟩ ∧ g < w.heap.size ∧ base ≤ g ∧ w.cell? ⟨g, k * 4 + 3, none⟩ = some (.int .i64 l[k].refs) ∧ ∀ o, w.frozen? ⟨g, o, none⟩ = false := by
  have hl := h.1
  rw [tv_length] at hl
  obtain ⟨g, cap, hv, h1, h2⟩ := h.form (by omega)
  cases hv
  exact ⟨g, rfl, h2, h1, by rw [h.cellAt _ (by omega), (tv_get (List.getElem?_eq_getElem hk)).2.2.2], fun o => h.frozenAt o⟩

set_option maxRecDepth 100000 in
set_option maxHeartbeats 4000000 in
theorem Clone_V (a b : Option Addr) (n c m d base : Nat) (rs : List Rw) (s : Vo.St) (name tn : ByteArray) (w : World) (hS : StW w base a n c b m d rs s) (hR : Vo.Right s) (hto : tn.size ≤ maxLen) :
    Calls Tryz.prog 59 #[.agg #[.slice a n c, .slice b m d], .string name, .string tn] w (StTo w (Vo.cloneR s name tn)) := by
  have hm : m ≤ 6 := by rw [← hS.vlen]; exact hR.len
  have hn : n ≤ 64 := by rw [← hS.len]; exact hR.bag.len
  obtain ⟨w0, hw0, hB, hX, hY⟩ := deed_boxes w a b n c m d
  have C1 := Check_V a b n c m d base rs s _ (hS.keep hB) hR
  have HF1 : Hid (∀ W, Below w.heap.size w W → Calls Tryz.prog 84 #[.agg #[.slice a n c, .slice b m d], .string name] W fun e w' => e = .returned (.int .i64 (Vo.findI s.vols name)) ∧ Below W.heap.size W w') := Lib.hid fun W hb => find_V a b n c m d base rs s name W (hS.keep hb) (by omega)
  have HFR : Hid (∀ W, Below w.heap.size w W → Calls Tryz.prog 82 #[.agg #[.slice a n c, .slice b m d], .string tn] W fun e w' => e = .returned (.int .i64 (Vo.freshE s.vols tn)) ∧ Below W.heap.size W w') := Lib.hid fun W hb => fresh_V a b n c m d base rs s tn W (hS.keep hb) (by omega) hto
  have HCP : Hid (∀ W, Below w.heap.size w W → Calls Tryz.prog 30 #[.agg #[.slice a n c, .slice b m d]] W (StMade W s)) := Lib.hid fun W hb => Copied_V a b n c m d base rs s W (hS.keep hb) (by omega) (by omega) fun v hv => by have := (hR.vol v hv).len; omega
  have HLO : Hid (Lo s.bag 0) := Lib.hid fun x hx => by have := (Bg.one_fit (hR.bag.one x hx)).2.2.2.2.2; omega
  have HB := Lib.hid hB; have HX := Lib.hid hX; have HY := Lib.hid hY; have HR := Lib.hid hR
  have x0 := hX.c 0 _ rfl; have x1 := hX.c 1 _ rfl
  have hlx := hX.lt
  have hly := hY.lt
  have hmv : s.vols.length = m := hS.vlen
  have HMV := Lib.hid hmv
  have HBL : Hid (s.bag.length = n) := Lib.hid hS.len
  clear hS hR hB hX hY hmv
  cases hf : Vo.find s.vols name with
  | none =>
    rw [findI_none hf] at HF1
    rw [vclone_none hf]
    clear hf
    go_enter Tryz.func59, Tryz.ntmps59
    go_wp2_with fail
    with_reducible refine C1.mono ?_
    rintro e w1 ⟨rfl, hb1⟩
    have HB1 := Lib.hid (HB.out.trans (hb1.mono HB.out.size))
    have HX1 := Lib.hid (HX.out.on hb1); have HY1 := Lib.hid (HY.out.on hb1)
    clear x0 x1 hb1 C1
    have x0 := HX1.out.c 0 _ rfl; have x1 := HX1.out.c 1 _ rfl
    go_wp2_with fail
    with_reducible refine (HF1.out _ HB1.out).mono ?_
    rintro e w2 ⟨rfl, hb2⟩
    have HB2 := Lib.hid (HB1.out.trans (hb2.mono HB1.out.size))
    have HY2 := Lib.hid (HY1.out.on hb2)
    clear x0 x1 hb2
    have y0 := HY2.out.c 0 _ rfl; have y1 := HY2.out.c 1 _ rfl; have yf0 := HY2.out.z 0 (show 0 < 2 by decide); have yf1 := HY2.out.z 1 (show 1 < 2 by decide)
    go_wp2_with fail
    refine bodyPost_ret (clone_result (B := w.heap.size + 1) rfl rfl (HY2.out.set2 _ _)) rfl ?_
    exact stTo_err (below_set2 HB2.out (by omega) _ _)
  | some i =>
    obtain ⟨hfi, hi⟩ := findI_some hf
    rw [hfi] at HF1
    have him : i < m := by rw [← HMV.out]; exact hi
    by_cases hfe : Vo.freshE s.vols tn = 0
    · rw [vclone_ok hf hi hfe]
      rw [hfe] at HFR
      have hjl : s.vols[i].ids.length ≤ 32 := (HR.out.vol s.vols[i] (List.getElem_mem hi)).len
      obtain ⟨ids, hids⟩ : ∃ ids, s.vols[i].ids = ids := ⟨_, rfl⟩
      rw [hids] at hjl ⊢
      have HVI : Hid (s.vols[i]? = some s.vols[i] ∧ s.vols[i].ids = ids) := Lib.hid ⟨List.getElem?_eq_getElem hi, hids⟩
      clear hf hfi hids hfe
      go_enter Tryz.func59, Tryz.ntmps59
      go_wp2_with fail
      with_reducible refine C1.mono ?_
      rintro e w1 ⟨rfl, hb1⟩
      have HB1 := Lib.hid (HB.out.trans (hb1.mono HB.out.size))
      have HX1 := Lib.hid (HX.out.on hb1); have HY1 := Lib.hid (HY.out.on hb1)
      clear x0 x1 hb1 C1
      have x0 := HX1.out.c 0 _ rfl; have x1 := HX1.out.c 1 _ rfl
      go_wp2_with fail
      with_reducible refine (HF1.out _ HB1.out).mono ?_
      rintro e w2 ⟨rfl, hb2⟩
      have HB2 := Lib.hid (HB1.out.trans (hb2.mono HB1.out.size))
      have HX2 := Lib.hid (HX1.out.on hb2); have HY2 := Lib.hid (HY1.out.on hb2)
      clear x0 x1 hb2 HF1
      have x0 := HX2.out.c 0 _ rfl; have x1 := HX2.out.c 1 _ rfl
      go_wp2_with fail
      with_reducible refine (HFR.out _ HB2.out).mono ?_
      rintro e w3 ⟨rfl, hb3⟩
      have HB3 := Lib.hid (HB2.out.trans (hb3.mono HB2.out.size))
      have HX3 := Lib.hid (HX2.out.on hb3); have HY3 := Lib.hid (HY2.out.on hb3)
      clear x0 x1 hb3 HFR
      have x0 := HX3.out.c 0 _ rfl; have x1 := HX3.out.c 1 _ rfl
      go_wp2_with fail
      with_reducible refine (HCP.out _ HB3.out).mono ?_
      rintro e w4 ⟨a4, n4, c4, b4, m4, d4, rs4, rfl, hs4, hb4⟩
      have hm4 : m4 = m := by rw [← hs4.vlen, HMV.out]
      subst hm4
      have hn4' : n4 = n := by rw [← hs4.len, HBL.out]
      subst hn4'
      have HB4 := Lib.hid (HB3.out.trans (hb4.mono HB3.out.size))
      have HBC := Lib.hid hb4
      have HY4 := Lib.hid (HY3.out.on hb4)
      have hz1 := HY3.out.lt
      have hz2 := hb4.size
      have hir : i < rs4.length := by rw [hs4.rlen]; exact him
      obtain ⟨e1, e2, e3⟩ := hs4.vol i rs4[i] s.vols[i] (List.getElem?_eq_getElem hir) (List.getElem?_eq_getElem hi)
      have hn4 : rs4[i].n ≤ 32 := by rw [← e3, HVI.out.2]; exact hjl
      have HIL : Hid (ids.length = rs4[i].n) := Lib.hid (by rw [← e3, HVI.out.2])
      obtain ⟨g, rfl, hg, d0, d1⟩ := rv_at hs4.row hir
      have HAT : Hid (∀ (V : World) (L : List Bg.It), StW V w3.heap.size a4 n4 c4 (some ⟨g, 0, none⟩) m4 d4 rs4 ⟨L, s.vols⟩ → V.ownsRow w3.heap.size 81 3 (.slice rs4[i].a rs4[i].n rs4[i].c) rs4[i].n (dv ids) ∧ V.cell? ⟨g, i * 2 + 1, none⟩ = some (.slice rs4[i].a rs4[i].n rs4[i].c)) := Lib.hid fun V L hV => by
        have h := (hV.vol i rs4[i] s.vols[i] (List.getElem?_eq_getElem hir) (List.getElem?_eq_getElem hi)).2.1
        rw [HVI.out.2] at h
        obtain ⟨g', hg', -, -, h2⟩ := rv_at hV.row hir
        cases hg'
        exact ⟨h, h2⟩
      have HS4 := Lib.hid hs4
      have HNB : Hid (∀ v ∈ sls a4 n4 c4 (some ⟨g, 0, none⟩) m4 d4 rs4, ∀ B, v.ownBlock = some B → w3.heap.size ≤ B ∧ B < w4.heap.size) := Lib.hid fun v hv B hB => hs4.lt v hv B hB
      clear x0 x1 hb4 hs4 e1 e2 e3
      generalize rs4[i].name = f1 at *
      generalize rs4[i].a = f2 at *
      generalize rs4[i].n = f3 at *
      generalize rs4[i].c = f4 at *
      go_wp2_with fail
      clear d0 d1
      go_loopw [43] (fun x wr => ∃ (k : Nat) (L : List Bg.It), k ≤ f3 ∧ x = .int .i64 k ∧ Hid (L = (ids.take k).foldl Vo.reuse s.bag) ∧ Hid (Below w3.heap.size w3 wr) ∧ Hid (Bxs wr w4.heap.size [.slice a4 n4 c4, .slice (some ⟨g, 0, none⟩) m4 d4]) ∧ Hid (Bxs wr (w.heap.size + 1) [.slice none 0 0, .slice none 0 0]) ∧
          Hid (StW wr w3.heap.size a4 n4 c4 (some ⟨g, 0, none⟩) m4 d4 rs4 ⟨L, s.vols⟩) ∧ Hid (Lo L k))
        (fun x _ => f3 - (intOf x).toNat)
      case atStart => exact ⟨0, s.bag, Nat.zero_le _, rfl, Lib.hid rfl, Lib.hid (HBC.out.alloc HBC.out.size _), Lib.hid (bxs_new w4 _ _ _ rfl), Lib.hid (HY4.out.alloc _), Lib.hid (HS4.out.keep ((Below.refl _ w4).alloc (Nat.le_refl _) _)), HLO⟩
      case round =>
        obtain ⟨k, L, hk, rfl, HL, BW, TW, YW, SW, OW⟩ := hrel
        have hsz := BW.out.size
        have htl := TW.out.lt
        by_cases hlt : k < f3
        · have hkl : k < ids.length := by rw [HIL.out]; exact hlt
          obtain ⟨g2, rfl, hg2, -, q0, q1, q2⟩ := dv_at (HAT.out wr _ SW.out).1 hkl
          have HST := Lib.hid (fold_take Vo.reuse s.bag hkl)
          rw [← HL.out] at HST
          generalize ids[k] = id0 at *
          obtain ⟨i1, i2, i3⟩ := id0
          dsimp only at q0 q1 q2
          have hal := (Below.refl wr.heap.size wr).alloc (Nat.le_refl _) (.cells #[.bool i1, .int .i64 i2, .int .i64 i3] 81)
          have FD := Find_I a4 n4 c4 L i1 i2 i3 _ ((SW.out.keep hal).isl) (by omega)
          have HAL := Lib.hid hal
          have t0 := TW.out.c 0 _ rfl
          have OW' := Lib.hid (OW.out.next ⟨i1, i2, i3⟩)
          rw [← HST.out] at OW'
          have HLL : Hid (L.length = n4) := Lib.hid SW.out.len
          clear hal
          cases hfx : L.findIdx? (Bg.hit ⟨i1, i2, i3⟩) with
          | none =>
            rw [idx_none hfx] at FD
            have HL' : Hid (L = (ids.take (k + 1)).foldl Vo.reuse s.bag) := Lib.hid (by rw [HST.out, reuse_none hfx])
            rw [← HL'.out] at OW'
            clear hfx
            go_wp2_with fail
            with_reducible refine FD.mono ?_
            rintro e w5 ⟨rfl, hb5⟩
            have hb7 := HAL.out.trans (hb5.mono (by rw [World.size_alloc]; omega))
            have HB7 := Lib.hid (BW.out.trans (hb7.mono hsz))
            have HT7 := Lib.hid (TW.out.on hb7); have HY7 := Lib.hid (YW.out.on hb7); have HS7 := Lib.hid (SW.out.keep hb7)
            clear hb5 hb7 t0 q0 q1 q2
            go_wp2_with fail
            go_roundw
            case rel => exact ⟨k + 1, L, hlt, by go_num, HL', HB7, HT7, HY7, HS7, OW'⟩
            case measure => simp [intOf]; omega
          | some p =>
            obtain ⟨hx1, hp⟩ := idx_some hfx
            rw [hx1] at FD
            have hpn : p < n4 := by rw [← HLL.out]; exact hp
            have HL' : Hid (L.set p ⟨L[p].sum, L[p].n, L[p].text, L[p].refs + 1⟩ = (ids.take (k + 1)).foldl Vo.reuse s.bag) := Lib.hid (by rw [HST.out, reuse_some hfx hp])
            rw [← HL'.out] at OW'
            have hrf := OW.out L[p] (List.getElem_mem hp)
            obtain ⟨hr1, hr2⟩ := hrf
            have hr3 : L[p].refs ≤ 2000000 := by omega
            clear hfx hx1 hr2
            go_wp2_with fail
            with_reducible refine FD.mono ?_
            rintro e w5 ⟨rfl, hb5⟩
            have hb7 := HAL.out.trans (hb5.mono (by rw [World.size_alloc]; omega))
            have HB7 := Lib.hid (BW.out.trans (hb7.mono hsz))
            have HT7 := Lib.hid (TW.out.on hb7); have HY7 := Lib.hid (YW.out.on hb7); have HS7 := Lib.hid (SW.out.keep hb7)
            clear hb5 hb7 t0 q0 q1 q2
            obtain ⟨gb, rfl, hgb, hgbb, cr, fr⟩ := tv_at HS7.out.bag hp
            have t0 := HT7.out.c 0 _ rfl
            have fr3 := fr (p * 4 + 3)
            have HS8 := Lib.hid (HS7.out.setRefs (r := L[p].refs + 1) hp)
            have hgT : gb ≠ w4.heap.size := by have := (HNB.out (.slice (some ⟨gb, 0, none⟩) n4 c4) (by simp [sls]) gb rfl).2; omega
            clear fr
            generalize L[p].refs = rf at *
            go_wp2_with fail
            go_roundw
            case rel => exact ⟨k + 1, _, hlt, by go_num, HL', Lib.hid (HB7.out.setCell (show w3.heap.size ≤ gb by omega) _), Lib.hid (HT7.out.other hgT _), Lib.hid (HY7.out.other (by omega) _), HS8, OW'⟩
            case measure => simp [intOf]; omega
        · obtain rfl : k = f3 := by omega
          have HLF : Hid (L = ids.foldl Vo.reuse s.bag) := Lib.hid (by rw [HL.out, List.take_of_length_le (by rw [HIL.out]; exact Nat.le_refl _)])
          obtain ⟨hrow, hcell⟩ := HAT.out wr _ SW.out
          have HRW := Lib.hid hrow
          have hgw : g < wr.heap.size := by
            have := (HNB.out (.slice (some ⟨g, 0, none⟩) m4 d4) (by simp [sls]) g rfl).2
            omega
          have t0 := TW.out.c 0 _ rfl; have t1 := TW.out.c 1 _ rfl
          clear hrow
          go_wp2_with fail
          have hwd : Below wr.heap.size wr wr.drew := (Below.refl _ wr).drew
          have CD := Clone_D f2 k f4 w3.heap.size ids wr.drew (own_keep HRW.out hwd) (by omega)
          have HSRT := Lib.hid HR.out.srt
          clear hwd
          refine wp_region_noPanic ?_
          refine region_L (S := (fun X : World => X.cell? ⟨w4.heap.size, 0, none⟩ = some (.slice a4 n4 c4) ∧ X.cell? ⟨w4.heap.size, 1, none⟩ = some (.slice (some ⟨g, 0, none⟩) m4 d4) ∧ X.cell? ⟨g, i * 2 + 1, none⟩ = some (.slice f2 k f4))) (E := [10, 11, 12]) (by kernel_rfl) (⟨t0, t1, hcell⟩) (fun hS => ?_)
          refine take_L (i := 0) (oi := _) (v := ?_) rfl (by kernel_rfl) (by kernel_rfl) (by kernel_rfl) (by kernel_rfl) (by kernel_rfl) (by kernel_rfl) (fun _ _ _ h => h) (Or.inl ⟨by rfl, ?_⟩) hS ?_
          rotate_left
          next => (rintro w' ⟨k0, k1, k2⟩; go_simp; (try with_reducible rfl))
          (try simp only [Act.put, List.setIfInBounds_toArray])
          refine take_L (i := 1) (oi := _) (v := ?_) rfl (by kernel_rfl) (by kernel_rfl) (by kernel_rfl) (by kernel_rfl) (by kernel_rfl) (by kernel_rfl) (fun _ _ _ h => h) (Or.inl ⟨by rfl, ?_⟩) hS ?_
          rotate_left
          next => (rintro w' ⟨k0, k1, k2⟩; go_simp; (try with_reducible rfl))
          (try simp only [Act.put])
          refine take_L (i := 2) (oi := _) (v := ?_) rfl (by kernel_rfl) (by kernel_rfl) (by kernel_rfl) (by kernel_rfl) (by kernel_rfl) (by kernel_rfl) (fun _ _ _ h => h) (Or.inl ⟨by rfl, ?_⟩) hS ?_
          rotate_left
          next => (rintro w' ⟨k0, k1, k2⟩; go_simp; (try with_reducible rfl))
          (try simp only [Act.put])
          refine take_L (i := 3) (oi := _) (v := ?_) rfl (by kernel_rfl) (by kernel_rfl) (by kernel_rfl) (by kernel_rfl) (by kernel_rfl) (by kernel_rfl) (fun _ _ _ h => h) (Or.inl ⟨by rfl, ?_⟩) hS ?_
          rotate_left
          next => (rintro w' ⟨k0, k1, k2⟩; go_simp; (try with_reducible rfl))
          (try simp only [Act.put])
          refine take_L (i := 4) (oi := _) (v := ?_) rfl (by kernel_rfl) (by kernel_rfl) (by kernel_rfl) (by kernel_rfl) (by kernel_rfl) (by kernel_rfl) (fun _ _ _ h => h) (Or.inl ⟨by rfl, ?_⟩) hS ?_
          rotate_left
          next => (rintro w' ⟨k0, k1, k2⟩; go_simp; (try with_reducible rfl))
          (try simp only [Act.put])
          refine take_L (i := 5) (oi := _) (v := ?_) rfl (by kernel_rfl) (by kernel_rfl) (by kernel_rfl) (by kernel_rfl) (by kernel_rfl) (by kernel_rfl) (fun _ _ _ h => h) (Or.inl ⟨by rfl, ?_⟩) hS ?_
          rotate_left
          next => (rintro w' ⟨k0, k1, k2⟩; go_simp; (try with_reducible rfl))
          (try simp only [Act.put])
          refine take_L (i := 6) (oi := _) (v := ?_) rfl (by kernel_rfl) (by kernel_rfl) (by kernel_rfl) (by kernel_rfl) (by kernel_rfl) (by kernel_rfl) (fun _ _ _ h => h) (Or.inl ⟨by rfl, ?_⟩) hS ?_
          rotate_left
          next => (rintro w' ⟨k0, k1, k2⟩; go_simp; (try with_reducible rfl))
          (try simp only [Act.put])
          refine take_L (i := 7) (oi := _) (v := ?_) rfl (by kernel_rfl) (by kernel_rfl) (by kernel_rfl) (by kernel_rfl) (by kernel_rfl) (by kernel_rfl) (fun _ _ _ h => h) (Or.inl ⟨by rfl, ?_⟩) hS ?_
          rotate_left
          next => (rintro w' ⟨k0, k1, k2⟩; go_simp; (try with_reducible rfl))
          (try simp only [Act.put])
          refine one_L (i := 8) (o := _) (by kernel_rfl) rfl (fun K hK => ?_)
          go_simp
          go_at_call 62
          with_reducible refine CD.mono ?_
          rintro e w6 ⟨v6, rfl, ho6, hb6⟩
          obtain ⟨a6, c6, rfl⟩ := own_shape ho6
          have hb6' : Below wr.heap.size wr w6 := (Below.refl _ wr).drew.trans hb6
          have HS6 := Lib.hid (SW.out.keep hb6')
          have HT6 := Lib.hid (TW.out.on hb6')
          have HB6 := Lib.hid (BW.out.trans (hb6'.mono hsz))
          have h6c := (hb6'.cell (p := ⟨g, i * 2 + 1, none⟩) hgw).trans hcell
          have hz6 := hb6'.size
          have AD := add_V a4 (some ⟨g, 0, none⟩) a6 n4 c4 m4 d4 k c6 w3.heap.size w3.heap.size rs4 ⟨L, s.vols⟩ tn ids w3 w6 HS6.out (by omega) HSRT.out (own_low ho6 (show w3.heap.size ≤ wr.heap.size from hsz)) HIL.out
            (fun v hv j hj e => by
              have h1 := (HNB.out v hv j hj).2
              have h2 := row_base ho6 j e
              have h3 : wr.heap.size ≤ j := h2
              omega) HB6.out (Nat.le_refl _) (by omega)
          -- the box of the state that is handed back lies below
          have HY6 := Lib.hid (YW.out.on hb6')
          clear ho6 hb6 hb6' CD
          refine hK.out _ _ (by exact ⟨HT6.out.c 0 _ rfl, HT6.out.c 1 _ rfl, h6c⟩) (fun hSn => ?_)
          clear hK K hS
          (try simp only [Act.put, List.setIfInBounds_toArray, List.set_cons_zero, List.set_cons_succ])
          have hS := hSn
          clear hSn
          refine take_L (i := 9) (oi := _) (v := ?_) rfl (by kernel_rfl) (by kernel_rfl) (by kernel_rfl) (by kernel_rfl) (by kernel_rfl) (by kernel_rfl) (fun _ _ _ h => h) (Or.inl ⟨by rfl, ?_⟩) hS ?_
          rotate_left
          next => (rintro w' ⟨k0, k1, k2⟩; go_simp; (try with_reducible rfl))
          (try simp only [Act.put, List.setIfInBounds_toArray])
          refine oneE_L (i := 10) (o := _) (by kernel_rfl) rfl (by kernel_rfl) (fun K hK => ?_)
          clear hS
          go_simp
          go_at_call 83
          with_reducible refine AD.mono ?_
          rintro e w7 ⟨b7, d7, rs7, rfl, hs7, hb7⟩
          have HY7 := Lib.hid (HY3.out.on hb7)
          have HB7 := Lib.hid (HB3.out.trans (hb7.mono HB3.out.size))
          have HS7 := Lib.hid hs7
          have y0 := HY7.out.c 0 _ rfl; have y1 := HY7.out.c 1 _ rfl; have yf0 := HY7.out.z 0 (show 0 < 2 by decide); have yf1 := HY7.out.z 1 (show 1 < 2 by decide)
          clear hs7 hb7 t0 t1 hcell h6c AD
          refine hK.out _ _ ?_
          clear hK K
          (try simp only [Act.put, List.setIfInBounds_toArray, List.set_cons_zero, List.set_cons_succ])
          refine oneE_L (i := 11) (o := _) (by kernel_rfl) rfl (by kernel_rfl) (fun K hK => ?_)
          go_simp
          refine hK.out _ _ ?_
          clear hK K
          (try simp only [Act.put, List.setIfInBounds_toArray, List.set_cons_zero, List.set_cons_succ])
          refine oneE_L (i := 12) (o := _) (by kernel_rfl) rfl (by kernel_rfl) (fun K hK => ?_)
          go_simp
          refine hK.out _ _ ?_
          clear hK K
          (try simp only [Act.put, List.setIfInBounds_toArray, List.set_cons_zero, List.set_cons_succ])
          refine done_L (by kernel_rfl) ?_ _
          refine NoPanic.normal ?_
          go_wp2_with fail
          have s1 := HS7.out.other (B := w.heap.size + 1) (i := 0) (HS7.out.off hz1) (.slice a4 n4 c4)
          have s2 := s1.other (B := w.heap.size + 1) (i := 1) (s1.off hz1) (.slice b7 (m4 + 1) d7)
          refine bodyPost_ret (clone_result (B := w.heap.size + 1) rfl rfl (HY7.out.set2 _ _)) rfl ?_
          rw [← HLF.out]
          exact ⟨_, _, _, _, _, _, _, rfl, s2.low (by omega), below_set2 HB7.out (by omega) _ _⟩
    · rw [vclone_bad hf hi hfe]
      have hb : ((Vo.freshE s.vols tn : Int) != 0) = true := bne_iff_ne.2 (by omega)
      generalize Vo.freshE s.vols tn = E at *
      clear hf hfi hfe
      go_enter Tryz.func59, Tryz.ntmps59
      go_wp2_with fail
      with_reducible refine C1.mono ?_
      rintro e w1 ⟨rfl, hb1⟩
      have HB1 := Lib.hid (HB.out.trans (hb1.mono HB.out.size))
      have HX1 := Lib.hid (HX.out.on hb1); have HY1 := Lib.hid (HY.out.on hb1)
      clear x0 x1 hb1 C1
      have x0 := HX1.out.c 0 _ rfl; have x1 := HX1.out.c 1 _ rfl
      go_wp2_with fail
      with_reducible refine (HF1.out _ HB1.out).mono ?_
      rintro e w2 ⟨rfl, hb2⟩
      have HB2 := Lib.hid (HB1.out.trans (hb2.mono HB1.out.size))
      have HX2 := Lib.hid (HX1.out.on hb2); have HY2 := Lib.hid (HY1.out.on hb2)
      clear x0 x1 hb2 HF1
      have x0 := HX2.out.c 0 _ rfl; have x1 := HX2.out.c 1 _ rfl
      go_wp2_with fail
      with_reducible refine (HFR.out _ HB2.out).mono ?_
      rintro e w3 ⟨rfl, hb3⟩
      have HB3 := Lib.hid (HB2.out.trans (hb3.mono HB2.out.size))
      have HY3 := Lib.hid (HY2.out.on hb3)
      clear x0 x1 hb3
      have y0 := HY3.out.c 0 _ rfl; have y1 := HY3.out.c 1 _ rfl; have yf0 := HY3.out.z 0 (show 0 < 2 by decide); have yf1 := HY3.out.z 1 (show 1 < 2 by decide)
      go_wp2_with fail
      refine bodyPost_ret (clone_result (B := w.heap.size + 1) rfl rfl (HY3.out.set2 _ _)) rfl ?_
      exact stTo_err (below_set2 HB3.out (by omega) _ _)

end Go.Proofs.YtenkdpogdfcbgaaGreat

/- The walk of log.Do. -/
namespace Go.Proofs.YtenkdpogdfcbgaaGreat
open Go.RowKit

theorem do_result {tmps : Array Value} {W : World} {B : Nat} {v0 v1 e : Value} (h2 : tmps.getD 4 undef = .pointer (some ⟨B, 0, none⟩)) (h3 : tmps.getD 5 undef = e) (h : Bxs W B [v0, v1]) :
    (results Tryz.f27 tmps).run Tryz.prog W = .ok (.tuple #[.agg #[v0, v1], e]) W := by
  have c0 := h.c 0 _ rfl; have c1 := h.c 1 _ rfl
  have hq : tmps[4]?.getD undef = .pointer (some ⟨B, 0, none⟩) := by simpa using h2
  have hr : tmps[5]?.getD undef = e := by simpa using h3
  simp [results, Tryz.results27, hq, hr, go_sem, c0, c1]

/-- An error of a state's call, stored. -/
theorem stTo_store {w W w' : World} {R : Vo.An} {a n c b m d rs} {B : Nat} (hS : StW w' W.heap.size a n c b m d rs R.s) (hb : Below w.heap.size w w') (hB : w.heap.size ≤ B) (hBW : B < W.heap.size) (hW : w.heap.size ≤ W.heap.size) :
    StTo w R (.returned (.tuple #[.agg #[.slice a n c, .slice b m d], .int .i64 R.e])) ((w'.setCell ⟨B, 0, none⟩ (.slice a n c)).setCell ⟨B, 1, none⟩ (.slice b m d)) := by
  have s1 := hS.other (B := B) (i := 0) (hS.off hBW) (.slice a n c)
  have s2 := s1.other (B := B) (i := 1) (s1.off hBW) (.slice b m d)
  exact ⟨_, _, _, _, _, _, _, rfl, s2.low hW, below_set2 hb hB _ _⟩

set_option maxRecDepth 100000 in
set_option maxHeartbeats 4000000 in
theorem Do_V (a b : Option Addr) (n c m d base : Nat) (rs : List Rw) (s : Vo.St) (o : Lg.Op) (w : World) (hS : StW w base a n c b m d rs s) (hR : Vo.Right s) (h1 : o.nm.size ≤ maxLen) (h2 : o.tn.size ≤ maxLen) (h3 : o.tx.size ≤ maxLen) :
    Calls Tryz.prog 27 #[.agg #[.slice a n c, .slice b m d], .agg #[.int .i64 o.k, .string o.nm, .string o.tn, .int .i64 o.a, .string o.tx]] w (StTo w (Vo.doR s o)) := by
  obtain ⟨w0, hw0⟩ : ∃ w0, w0 = ((w.alloc (.cells #[.slice a n c, .slice b m d] 33)).alloc (.cells #[.int .i64 o.k, .string o.nm, .string o.tn, .int .i64 o.a, .string o.tx] 29)).alloc (.cells #[.slice none 0 0, .slice none 0 0] 33) := ⟨_, rfl⟩
  have hB : Below w.heap.size w w0 := by
    rw [hw0]
    exact (((Below.refl _ w).alloc (Nat.le_refl _) _).alloc (by rw [World.size_alloc]; omega) _).alloc (by rw [World.size_alloc, World.size_alloc]; omega) _
  have hX : Bxs w0 w.heap.size [.slice a n c, .slice b m d] := by rw [hw0]; exact ((bxs_new w 33 _ _ rfl).alloc _).alloc _
  have hO : Bxs w0 (w.heap.size + 1) [.int .i64 o.k, .string o.nm, .string o.tn, .int .i64 o.a, .string o.tx] := by
    rw [hw0]
    have := bxs_new (w.alloc (.cells #[.slice a n c, .slice b m d] 33)) 29 #[.int .i64 o.k, .string o.nm, .string o.tn, .int .i64 o.a, .string o.tx] _ rfl
    rw [World.size_alloc] at this
    exact this.alloc _
  have hY : Bxs w0 (w.heap.size + 2) [.slice none 0 0, .slice none 0 0] := by
    rw [hw0]
    have := bxs_new ((w.alloc (.cells #[.slice a n c, .slice b m d] 33)).alloc (.cells #[.int .i64 o.k, .string o.nm, .string o.tn, .int .i64 o.a, .string o.tx] 29)) 33 #[.slice none 0 0, .slice none 0 0] _ rfl
    rw [World.size_alloc, World.size_alloc] at this
    exact this
  have C1 := Check_any o.k o.nm o.tn o.a o.tx w0 h1 h2 h3
  have HE : Hid (Lg.chk o.k (Lg.nmB o.nm.data.toList) (Lg.nmB o.tn.data.toList) o.a o.tx.size o.tn.toList.isEmpty o.tx.toList.isEmpty = Lg.chkE o) := Lib.hid rfl
  rw [HE.out] at C1
  have HMK : Hid (∀ W, Below w.heap.size w W → Calls Tryz.prog 55 #[.agg #[.slice a n c, .slice b m d], .string o.nm, .int .i64 o.a] W (StTo W (Vo.makeR s o.nm o.a))) := Lib.hid fun W hb => Make_V a b n c m d base rs s o.nm o.a W (hS.keep hb) hR h1
  have HDR : Hid (∀ W, Below w.heap.size w W → Calls Tryz.prog 56 #[.agg #[.slice a n c, .slice b m d], .string o.nm] W (StTo W (Vo.dropR s o.nm))) := Lib.hid fun W hb => Drop_V a b n c m d base rs s o.nm W (hS.keep hb) hR
  have HWR : Hid (∀ W, Below w.heap.size w W → Calls Tryz.prog 57 #[.agg #[.slice a n c, .slice b m d], .string o.nm, .int .i64 o.a, .string o.tx] W (StTo W (Vo.writeR s o.nm o.a o.tx))) := Lib.hid fun W hb => Write_V a b n c m d base rs s o.nm o.tx o.a W (hS.keep hb) hR h3
  have HTR : Hid (∀ W, Below w.heap.size w W → Calls Tryz.prog 58 #[.agg #[.slice a n c, .slice b m d], .string o.nm, .int .i64 o.a] W (StTo W (Vo.trimR s o.nm o.a))) := Lib.hid fun W hb => Trim_V a b n c m d base rs s o.nm o.a W (hS.keep hb) hR
  have HCL : Hid (∀ W, Below w.heap.size w W → Calls Tryz.prog 59 #[.agg #[.slice a n c, .slice b m d], .string o.nm, .string o.tn] W (StTo W (Vo.cloneR s o.nm o.tn))) := Lib.hid fun W hb => Clone_V a b n c m d base rs s o.nm o.tn W (hS.keep hb) hR h2
  obtain ⟨R, hRR⟩ : ∃ R, Vo.doR s o = R := ⟨_, rfl⟩
  rw [hRR]
  unfold Vo.doR at hRR
  have HB := Lib.hid hB; have HX := Lib.hid hX; have HO := Lib.hid hO; have HY := Lib.hid hY
  have x0 := hX.c 0 _ rfl; have x1 := hX.c 1 _ rfl
  have o0 := hO.c 0 _ rfl; have o1 := hO.c 1 _ rfl; have o2 := hO.c 2 _ rfl; have o3 := hO.c 3 _ rfl; have o4 := hO.c 4 _ rfl
  have hly := hY.lt
  have hw0' := hw0.symm
  clear hS hR hB hX hO hY hw0 h1 h2 h3
  generalize Lg.chkE o = E at *
  generalize o.k = ok at *
  generalize o.nm = onm at *
  generalize o.tn = otn at *
  generalize o.a = oa at *
  generalize o.tx = otx at *
  clear HE
  by_cases hE : E ≠ 0
  · rw [if_pos hE] at hRR
    subst hRR
    have hb : ((E : Int) != 0) = true := bne_iff_ne.2 (by omega)
    go_enter Tryz.func27, Tryz.ntmps27
    go_wp2_with fail
    with_reducible refine C1.mono ?_
    rintro e w1 ⟨rfl, hb1⟩
    have HB1 := Lib.hid (HB.out.trans (hb1.mono HB.out.size))
    have HY1 := Lib.hid (HY.out.on hb1)
    clear x0 x1 o0 o1 o2 o3 o4 hb1 C1
    have y0 := HY1.out.c 0 _ rfl; have y1 := HY1.out.c 1 _ rfl; have yf0 := HY1.out.z 0 (show 0 < 2 by decide); have yf1 := HY1.out.z 1 (show 1 < 2 by decide)
    go_wp2_with fail
    refine bodyPost_ret (do_result (B := w.heap.size + 2) rfl rfl (HY1.out.set2 _ _)) rfl ?_
    exact stTo_err (below_set2 HB1.out (by omega) _ _)
  · rw [if_neg hE] at hRR
    obtain rfl : E = 0 := by omega
    clear hE
    have rest : ∀ w1, Below w0.heap.size w0 w1 → Below w.heap.size w w1 ∧ Bxs w1 w.heap.size [.slice a n c, .slice b m d] ∧ Bxs w1 (w.heap.size + 1) [.int .i64 ok, .string onm, .string otn, .int .i64 oa, .string otx] ∧ Bxs w1 (w.heap.size + 2) [.slice none 0 0, .slice none 0 0] := fun w1 hb => ⟨HB.out.trans (hb.mono HB.out.size), HX.out.on hb, HO.out.on hb, HY.out.on hb⟩
    have HREST := Lib.hid rest
    clear rest
    by_cases k1 : ok = 1
    · rw [if_pos k1] at hRR
      subst k1
      have HRR := Lib.hid hRR
      clear hRR
      go_enter Tryz.func27, Tryz.ntmps27
      go_wp2_with fail
      with_reducible refine C1.mono ?_
      rintro e w1 ⟨rfl, hb1⟩
      obtain ⟨hB1, hX1, hO1, hY1⟩ := HREST.out w1 hb1
      have HB1 := Lib.hid hB1; have HY1 := Lib.hid hY1
      clear x0 x1 o0 o1 o2 o3 o4 hb1 C1 hB1
      have x0 := hX1.c 0 _ rfl; have x1 := hX1.c 1 _ rfl
      have o0 := hO1.c 0 _ rfl; have o1 := hO1.c 1 _ rfl; have o2 := hO1.c 2 _ rfl; have o3 := hO1.c 3 _ rfl; have o4 := hO1.c 4 _ rfl
      have hl1 := hY1.lt
      clear hX1 hO1 hY1
      go_wp2_with fail
      with_reducible refine (HMK.out _ HB1.out).mono ?_
      rintro e w2 ⟨a2, n2, c2, b2, m2, d2, rs2, rfl, hs2, hb2⟩
      rw [HRR.out] at hs2
      rw [HRR.out]
      have HB2 := Lib.hid (HB1.out.trans (hb2.mono HB1.out.size))
      have HY2 := Lib.hid (HY1.out.on hb2)
      have HS2 := Lib.hid hs2
      clear x0 x1 o0 o1 o2 o3 o4 hb2 hs2
      have y0 := HY2.out.c 0 _ rfl; have y1 := HY2.out.c 1 _ rfl; have yf0 := HY2.out.z 0 (show 0 < 2 by decide); have yf1 := HY2.out.z 1 (show 1 < 2 by decide)
      go_wp2_with fail
      refine bodyPost_ret (do_result (B := w.heap.size + 2) rfl rfl (HY2.out.set2 _ _)) rfl ?_
      exact stTo_store HS2.out HB2.out (by omega) hl1 HB1.out.size
    · rw [if_neg k1] at hRR
      have q1 : (ok == 1) = false := beq_eq_false_iff_ne.2 k1
      by_cases k2 : ok = 2
      · rw [if_pos k2] at hRR
        subst k2
        clear k1 q1
        have HRR := Lib.hid hRR
        clear hRR
        go_enter Tryz.func27, Tryz.ntmps27
        go_wp2_with fail
        with_reducible refine C1.mono ?_
        rintro e w1 ⟨rfl, hb1⟩
        obtain ⟨hB1, hX1, hO1, hY1⟩ := HREST.out w1 hb1
        have HB1 := Lib.hid hB1; have HY1 := Lib.hid hY1
        clear x0 x1 o0 o1 o2 o3 o4 hb1 C1 hB1
        have x0 := hX1.c 0 _ rfl; have x1 := hX1.c 1 _ rfl
        have o0 := hO1.c 0 _ rfl; have o1 := hO1.c 1 _ rfl; have o2 := hO1.c 2 _ rfl; have o3 := hO1.c 3 _ rfl; have o4 := hO1.c 4 _ rfl
        have hl1 := hY1.lt
        clear hX1 hO1 hY1
        go_wp2_with fail
        with_reducible refine (HDR.out _ HB1.out).mono ?_
        rintro e w2 ⟨a2, n2, c2, b2, m2, d2, rs2, rfl, hs2, hb2⟩
        rw [HRR.out] at hs2
        rw [HRR.out]
        have HB2 := Lib.hid (HB1.out.trans (hb2.mono HB1.out.size))
        have HY2 := Lib.hid (HY1.out.on hb2)
        have HS2 := Lib.hid hs2
        clear x0 x1 o0 o1 o2 o3 o4 hb2 hs2
        have y0 := HY2.out.c 0 _ rfl; have y1 := HY2.out.c 1 _ rfl; have yf0 := HY2.out.z 0 (show 0 < 2 by decide); have yf1 := HY2.out.z 1 (show 1 < 2 by decide)
        go_wp2_with fail
        refine bodyPost_ret (do_result (B := w.heap.size + 2) rfl rfl (HY2.out.set2 _ _)) rfl ?_
        exact stTo_store HS2.out HB2.out (by omega) hl1 HB1.out.size
      · rw [if_neg k2] at hRR
        have q2 : (ok == 2) = false := beq_eq_false_iff_ne.2 k2
        by_cases k3 : ok = 3
        · rw [if_pos k3] at hRR
          subst k3
          clear k1 q1 k2 q2
          have HRR := Lib.hid hRR
          clear hRR
          go_enter Tryz.func27, Tryz.ntmps27
          go_wp2_with fail
          with_reducible refine C1.mono ?_
          rintro e w1 ⟨rfl, hb1⟩
          obtain ⟨hB1, hX1, hO1, hY1⟩ := HREST.out w1 hb1
          have HB1 := Lib.hid hB1; have HY1 := Lib.hid hY1
          clear x0 x1 o0 o1 o2 o3 o4 hb1 C1 hB1
          have x0 := hX1.c 0 _ rfl; have x1 := hX1.c 1 _ rfl
          have o0 := hO1.c 0 _ rfl; have o1 := hO1.c 1 _ rfl; have o2 := hO1.c 2 _ rfl; have o3 := hO1.c 3 _ rfl; have o4 := hO1.c 4 _ rfl
          have hl1 := hY1.lt
          clear hX1 hO1 hY1
          go_wp2_with fail
          with_reducible refine (HWR.out _ HB1.out).mono ?_
          rintro e w2 ⟨a2, n2, c2, b2, m2, d2, rs2, rfl, hs2, hb2⟩
          rw [HRR.out] at hs2
          rw [HRR.out]
          have HB2 := Lib.hid (HB1.out.trans (hb2.mono HB1.out.size))
          have HY2 := Lib.hid (HY1.out.on hb2)
          have HS2 := Lib.hid hs2
          clear x0 x1 o0 o1 o2 o3 o4 hb2 hs2
          have y0 := HY2.out.c 0 _ rfl; have y1 := HY2.out.c 1 _ rfl; have yf0 := HY2.out.z 0 (show 0 < 2 by decide); have yf1 := HY2.out.z 1 (show 1 < 2 by decide)
          go_wp2_with fail
          refine bodyPost_ret (do_result (B := w.heap.size + 2) rfl rfl (HY2.out.set2 _ _)) rfl ?_
          exact stTo_store HS2.out HB2.out (by omega) hl1 HB1.out.size
        · rw [if_neg k3] at hRR
          have q3 : (ok == 3) = false := beq_eq_false_iff_ne.2 k3
          by_cases k4 : ok = 4
          · rw [if_pos k4] at hRR
            subst k4
            clear k1 q1 k2 q2 k3 q3
            have HRR := Lib.hid hRR
            clear hRR
            go_enter Tryz.func27, Tryz.ntmps27
            go_wp2_with fail
            with_reducible refine C1.mono ?_
            rintro e w1 ⟨rfl, hb1⟩
            obtain ⟨hB1, hX1, hO1, hY1⟩ := HREST.out w1 hb1
            have HB1 := Lib.hid hB1; have HY1 := Lib.hid hY1
            clear x0 x1 o0 o1 o2 o3 o4 hb1 C1 hB1
            have x0 := hX1.c 0 _ rfl; have x1 := hX1.c 1 _ rfl
            have o0 := hO1.c 0 _ rfl; have o1 := hO1.c 1 _ rfl; have o2 := hO1.c 2 _ rfl; have o3 := hO1.c 3 _ rfl; have o4 := hO1.c 4 _ rfl
            have hl1 := hY1.lt
            clear hX1 hO1 hY1
            go_wp2_with fail
            with_reducible refine (HTR.out _ HB1.out).mono ?_
            rintro e w2 ⟨a2, n2, c2, b2, m2, d2, rs2, rfl, hs2, hb2⟩
            rw [HRR.out] at hs2
            rw [HRR.out]
            have HB2 := Lib.hid (HB1.out.trans (hb2.mono HB1.out.size))
            have HY2 := Lib.hid (HY1.out.on hb2)
            have HS2 := Lib.hid hs2
            clear x0 x1 o0 o1 o2 o3 o4 hb2 hs2
            have y0 := HY2.out.c 0 _ rfl; have y1 := HY2.out.c 1 _ rfl; have yf0 := HY2.out.z 0 (show 0 < 2 by decide); have yf1 := HY2.out.z 1 (show 1 < 2 by decide)
            go_wp2_with fail
            refine bodyPost_ret (do_result (B := w.heap.size + 2) rfl rfl (HY2.out.set2 _ _)) rfl ?_
            exact stTo_store HS2.out HB2.out (by omega) hl1 HB1.out.size
          · rw [if_neg k4] at hRR
            have q4 : (ok == 4) = false := beq_eq_false_iff_ne.2 k4
            clear k1 k2 k3 k4
            have HRR := Lib.hid hRR
            clear hRR
            go_enter Tryz.func27, Tryz.ntmps27
            go_wp2_with fail
            with_reducible refine C1.mono ?_
            rintro e w1 ⟨rfl, hb1⟩
            obtain ⟨hB1, hX1, hO1, hY1⟩ := HREST.out w1 hb1
            have HB1 := Lib.hid hB1; have HY1 := Lib.hid hY1
            clear x0 x1 o0 o1 o2 o3 o4 hb1 C1 hB1
            have x0 := hX1.c 0 _ rfl; have x1 := hX1.c 1 _ rfl
            have o0 := hO1.c 0 _ rfl; have o1 := hO1.c 1 _ rfl; have o2 := hO1.c 2 _ rfl; have o3 := hO1.c 3 _ rfl; have o4 := hO1.c 4 _ rfl
            have hl1 := hY1.lt
            clear hX1 hO1 hY1
            go_wp2_with fail
            with_reducible refine (HCL.out _ HB1.out).mono ?_
            rintro e w2 ⟨a2, n2, c2, b2, m2, d2, rs2, rfl, hs2, hb2⟩
            rw [HRR.out] at hs2
            rw [HRR.out]
            have HB2 := Lib.hid (HB1.out.trans (hb2.mono HB1.out.size))
            have HY2 := Lib.hid (HY1.out.on hb2)
            have HS2 := Lib.hid hs2
            clear x0 x1 o0 o1 o2 o3 o4 hb2 hs2
            have y0 := HY2.out.c 0 _ rfl; have y1 := HY2.out.c 1 _ rfl; have yf0 := HY2.out.z 0 (show 0 < 2 by decide); have yf1 := HY2.out.z 1 (show 1 < 2 by decide)
            go_wp2_with fail
            refine bodyPost_ret (do_result (B := w.heap.size + 2) rfl rfl (HY2.out.set2 _ _)) rfl ?_
            exact stTo_store HS2.out HB2.out (by omega) hl1 HB1.out.size

end Go.Proofs.YtenkdpogdfcbgaaGreat
