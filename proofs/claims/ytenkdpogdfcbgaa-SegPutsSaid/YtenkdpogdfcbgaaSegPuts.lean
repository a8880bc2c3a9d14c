import Derived.Test.YtenkdpogdfcbgaaSpW
import Derived.Test.YtenkdpogdfcbgaaArgsR
/- SegPuts: what is put is there, and nothing else that lives has turned, for every input. -/
namespace Go.Proofs.Ytenkdpogdfcbgaa.Sg
open Go.Proofs.Ytenkdpogdfcbgaa

def rS : R := ⟨⟨true, 0, 0⟩, ⟨#[97]⟩⟩
theorem fits_rS : fits [rS] = [[rS]] := by kernel_rfl

theorem without_eq {b : List Bg.It} {l m : List R} {r : R} {o1 o2 : List R} (hm : m = l ++ [r]) (h1 : o1.Perm (alive b l)) (h2 : o2.Perm (alive b m)) (s1 : Srt o1) (s2 : Srt o2) : (o1.filter fun t => !decide (t = r)) = o2.filter fun t => !decide (t = r) := by
  have n1 : o1.Nodup := h1.nodup_iff.2 (live_nodup b l [])
  have n2 : o2.Nodup := h2.nodup_iff.2 (live_nodup b m [])
  refine srt_eq (b := b) ((List.perm_ext_iff_of_nodup (n1.filter _) (n2.filter _)).2 fun x => ?_) (s1.filter _) (s2.filter _) fun x hx => (alive_mem.1 (h1.mem_iff.1 (List.mem_filter.1 hx).1)).2
  rw [List.mem_filter, List.mem_filter, h1.mem_iff, h2.mem_iff, alive_mem, alive_mem, hm, List.mem_append, List.mem_singleton]
  constructor
  · rintro ⟨⟨h3, h4⟩, h5⟩
    exact ⟨⟨Or.inl h3, h4⟩, h5⟩
  · rintro ⟨⟨h3, h4⟩, h5⟩
    refine ⟨⟨h3.resolve_right ?_, h4⟩, h5⟩
    rintro rfl
    simp at h5

end Go.Proofs.Ytenkdpogdfcbgaa.Sg

namespace Go.Proofs.Ytenkdpogdfcbgaa
open Go.RowKit

set_option maxRecDepth 100000 in
set_option maxHeartbeats 16000000 in
theorem segPuts_walk (a0 : Option Addr) (len0 cap0 : Nat) (t0 : List Sg.R) (a1 : Option Addr) (len1 cap1 : Nat) (t1 : List Bg.It) (a2 : Int) (w : World) (w0 : RArg w a0 len0 cap0 t0) (w1 : IArg w a1 len1 cap1 t1) (_ : (Lit.int .i64 a2).wf = true) :
    Calls Try.prog 10 #[.slice a0 len0 cap0, .slice a1 len1 cap1, .int .i64 a2] w fun e w' => e = .returned (.bool true) ∧ Below w.heap.size w w' := by
  have HA := Lib.hid w0
  have HI := Lib.hid w1.1
  have HT := Lib.hid w1.2.1
  have hal := (Below.refl w.heap.size w).alloc (Nat.le_refl _) (.cells #[.bool true, .int .i64 0, .int .i64 0, .string ⟨#[97]⟩] 36)
  have HB0 := Lib.hid hal
  have K1 := fits_E (some ⟨w.heap.size, 0, none⟩) 1 1 [Sg.rS] (w.alloc (.cells #[.bool true, .int .i64 0, .int .i64 0, .string ⟨#[97]⟩] 36)) (rsl_own (base := w.heap.size) (World.ownsRow_lit w #[.bool true, .int .i64 0, .int .i64 0, .string ⟨#[97]⟩] 1 (Nat.le_refl _) (by unfold maxLen; decide) rfl)) (by omega)
  rw [Sg.fits_rS] at K1
  clear hal w0 w1
  go_enter Try.func10, Try.ntmps10
  go_wp2_with fail
  with_reducible refine K1.mono ?_
  rintro e v1 ⟨b1, m1, d1, z1, rfl, hs, hb⟩
  obtain rfl : m1 = 1 := hs.len.symm
  have HB1 := Lib.hid (HB0.out.trans (hb.mono HB0.out.size))
  obtain ⟨g1, r1, s1, rfl, hg1, -, c0, hr1, hls1, ho1⟩ := hs.at (k := 0) (by omega)
  obtain rfl : [Sg.rS] = s1 := Option.some.inj hls1
  have hr1n : r1.n = 1 := (own_len4 ho1).symm
  obtain ⟨ra1, rn1, rc1⟩ := r1
  dsimp only at hr1n c0
  subst hr1n
  have K2 := Check_I a1 len1 cap1 t1 v1 (HI.out.keep HB1.out) HT.out
  obtain ⟨E, hE⟩ : ∃ E, Bg.checkE Bg.Pr t1 = E := ⟨_, rfl⟩
  rw [hE] at K2
  clear K1 hs hb hg1 hr1 hls1 ho1
  by_cases hE0 : E = 0
  · subst hE0
    have HBG := Lib.hid (Bg.check_good hE)
    clear hE
    by_cases hz : len1 = 0
    · subst hz
      go_wp2_with fail
      with_reducible refine K2.mono ?_
      rintro e v2 ⟨rfl, hb⟩
      have HB2 := Lib.hid (HB1.out.trans (hb.mono HB1.out.size))
      clear K2 hb
      go_wp2_with fail
      go_ret
      exact ⟨rfl, HB2.out⟩
    · have hz1 : ((len1 : Int) == 0) = false := beq_eq_false_iff_ne.2 (by omega)
      go_wp2_with fail
      with_reducible refine K2.mono ?_
      rintro e v2 ⟨rfl, hb⟩
      have HB2 := Lib.hid (HB1.out.trans (hb.mono HB1.out.size))
      have K3 := fits_E a0 len0 cap0 t0 v2 (HA.out.1.keep HB2.out) (by have := HA.out.2.1; unfold maxLen at this; exact this)
      clear K2 hb c0
      go_wp2_with fail
      with_reducible refine K3.mono ?_
      rintro e v3 ⟨b5, n, d5, zs, rfl, hs, hb⟩
      have HG := Lib.hid (Sg.fits_good t0)
      generalize Sg.fits t0 = l at *
      have HB3 := Lib.hid (HB2.out.trans (hb.mono HB2.out.size))
      have HS3 := Lib.hid hs
      have HI3 := Lib.hid (HI.out.keep HB3.out)
      have hlm : len1 ≤ 4611686018427387904 := by
        have h1 := HBG.out.len
        have h2 := HI.out.len
        omega
      have K4 := within_any a2 len1 len1 v3 rfl (by omega) hlm
      have hil := wi_lt a2 len1 (by omega)
      clear K3 hs hb
      go_wp2_with fail
      with_reducible refine K4.mono ?_
      rintro e v4 ⟨rfl, rfl⟩
      clear K4
      generalize wi a2 len1 = i at *
      have hit : i < t1.length := by rw [HI3.out.len]; exact hil
      obtain ⟨A, ab, ao, as_, rfl, hA, c0, c1, c2, c3⟩ := HI3.out.get hit
      have hcap := HI3.out.cap
      have hof := Bg.one_fit (HBG.out.one t1[i] (List.getElem_mem hit))
      have HOK : Hid (Sg.okB t1 ⟨⟨true, t1[i].sum, t1[i].n⟩, t1[i].text⟩ = true) := Lib.hid (Sg.has_ok HBG.out ⟨t1[i], List.getElem_mem hit, by unfold Bg.hit; simp, rfl⟩)
      have h1E : Sg.oneE ⟨⟨true, t1[i].sum, t1[i].n⟩, t1[i].text⟩ = 0 := Sg.oneE_zero.2 ⟨rfl, hof.2.1⟩
      have H1E := Lib.hid h1E
      clear hof h1E hlm
      generalize t1[i].sum = y1 at *
      generalize t1[i].n = y2 at *
      generalize t1[i].text = y3 at *
      generalize t1[i].refs = y4 at *
      go_wp2_with fail
      obtain ⟨V, hV⟩ : ∃ V, (v3.alloc (.cells #[.int .i64 y1, .int .i64 y2, .string y3, .int .i64 y4] 43)).alloc (.cells #[.bool true, .int .i64 y1, .int .i64 y2, .string y3] 36) = V := ⟨_, rfl⟩
      have hbV : Below v3.heap.size v3 V := by rw [← hV]; exact ((Below.refl v3.heap.size v3).alloc (Nat.le_refl _) _).alloc (by rw [World.size_alloc]; omega) _
      have hX : Bxs V (v3.heap.size + 1) [.bool true, .int .i64 y1, .int .i64 y2, .string y3] := by
        have := bxs_new (v3.alloc (.cells #[.int .i64 y1, .int .i64 y2, .string y3, .int .i64 y4] 43)) 36 #[.bool true, .int .i64 y1, .int .i64 y2, .string y3] [.bool true, .int .i64 y1, .int .i64 y2, .string y3] rfl
        rw [World.size_alloc] at this
        rw [← hV]
        exact this
      rw [hV]
      clear hV c0 c1 c2 c3 hA
      have HX := Lib.hid hX
      have HBV := Lib.hid (HB3.out.trans (hbV.mono HB3.out.size))
      have HSV := Lib.hid (HS3.out.keep hbV)
      have HIV := Lib.hid (HI3.out.keep hbV)
      generalize v3.heap.size + 1 = B at *
      have K5 := Put_E b5 n d5 _ zs l ⟨⟨true, y1, y2⟩, y3⟩ V HSV.out HG.out
      dsimp only at K5
      clear hX hbV HS3 HI3
      cases hp : Sg.putL l ⟨⟨true, y1, y2⟩, y3⟩ with
      | none =>
        have hpr : Sg.putR l ⟨⟨true, y1, y2⟩, y3⟩ = ⟨[], 8⟩ := by
          unfold Sg.putR
          rw [Sg.chk_zero.2 HG.out, if_neg (by simp), Sg.chk_one, H1E.out, if_neg (by simp), hp]
        rw [hpr] at K5
        clear hpr
        clear hp
        with_reducible refine K5.mono ?_
        rintro e v5 ⟨cb, cm, cd, cz, rfl, hs, hb⟩
        obtain rfl : cm = 0 := hs.len.symm
        have HB5 := Lib.hid (HBV.out.trans (hb.mono HBV.out.size))
        clear K5 hs hb
        go_wp2_with fail
        go_ret
        exact ⟨rfl, HB5.out⟩
      | some m =>
        have hpr : Sg.putR l ⟨⟨true, y1, y2⟩, y3⟩ = ⟨m, 0⟩ := by
          unfold Sg.putR
          rw [Sg.chk_zero.2 HG.out, if_neg (by simp), Sg.chk_one, H1E.out, if_neg (by simp), hp]
        rw [hpr] at K5
        clear hpr
        have HGM := Lib.hid (Sg.putL_good HG.out H1E.out hp)
        have HFL := Lib.hid (Sg.putL_flat hp)
        clear hp
        with_reducible refine K5.mono ?_
        rintro e v5 ⟨cb, cm, cd, cz, rfl, hs, hb⟩
        dsimp only at hs
        dsimp only
        have HB5 := Lib.hid (HBV.out.trans (hb.mono HBV.out.size))
        have HS5 := Lib.hid (HSV.out.keep hb)
        have HI5 := Lib.hid (HIV.out.keep hb)
        have HC5 := Lib.hid hs
        have HX5 := Lib.hid (HX.out.on hb)
        have K6 := alive_E b5 n d5 _ zs l (some A) len1 cap1 t1 v5 HS5.out HG.out HI5.out HBG.out
        clear K5 hs hb HSV HIV HX
        go_wp2_with fail
        with_reducible refine K6.mono ?_
        rintro e v6 ⟨o1, pb, pm, pd, rfl, ho, hp, hq, hb⟩
        have HB6 := Lib.hid (HB5.out.trans (hb.mono HB5.out.size))
        have HI6 := Lib.hid (HI5.out.keep hb)
        have HC6 := Lib.hid (HC5.out.keep hb)
        have HX6 := Lib.hid (HX5.out.on hb)
        have hlen : ∀ (x : List (List Sg.R)) (o : List Sg.R), Sg.Good x → o.Perm (Sg.alive t1 x.flatten) → o.length ≤ 400 := fun x o hx hp => by
          have h2 := hp.length_eq
          have h3 := Sg.live_len t1 x.flatten []
          have h4 := Sg.flat_len (l := x) fun s hs => Sg.sok_short (hx.seg s hs)
          have h5 := hx.len
          unfold Sg.alive at h2
          omega
        have hpm : pm ≤ 400 := by rw [← own_len4 ho]; exact hlen l o1 HG.out hp
        have HLE := Lib.hid hlen
        have HOL : Hid (o1.length = pm) := Lib.hid (own_len4 ho)
        have HO1 := Lib.hid ho; have HP1 := Lib.hid hp; have HQ1 := Lib.hid hq
        have HSZ : Hid (v5.heap.size ≤ v6.heap.size) := Lib.hid hb.size
        have HPL : Hid (∀ k, (Value.slice pb pm pd).ownBlock = some k → k < v6.heap.size) := Lib.hid (own_block_lt ho)
        have HXL : Hid (B < v5.heap.size) := Lib.hid HX5.out.lt
        have K7 := alive_E cb cm cd _ cz m (some A) len1 cap1 t1 v6 HC6.out HGM.out HI6.out HBG.out
        clear K6 ho hp hq hb HI5 HC5 HX5 hlen
        go_wp2_with fail
        with_reducible refine K7.mono ?_
        rintro e v7 ⟨o2, rb, rm, rd, rfl, ho, hp, hq, hb⟩
        have HB7 := Lib.hid (HB6.out.trans (hb.mono HB6.out.size))
        have HI7 := Lib.hid (HI6.out.keep hb)
        have HC7 := Lib.hid (HC6.out.keep hb)
        have hX7 := HX6.out.on hb
        have HX7 := Lib.hid hX7
        have hrm : rm ≤ 400 := by rw [← own_len4 ho]; exact HLE.out m o2 HGM.out hp
        have HO1 := Lib.hid (own_keep HO1.out hb)
        have HO2 := Lib.hid ho; have HP2 := Lib.hid hp; have HQ2 := Lib.hid hq
        have K8 := Contains_R rb rm rd o2 ⟨⟨true, y1, y2⟩, y3⟩ v7 (rsl_own ho) (by omega)
        have hin : (o2.any fun x => decide (x = (⟨⟨true, y1, y2⟩, y3⟩ : Sg.R))) = true := by
          rw [List.any_eq_true]
          exact ⟨_, hp.mem_iff.2 (Sg.alive_mem.2 ⟨by rw [HFL.out]; simp, HOK.out⟩), decide_eq_true rfl⟩
        rw [hin] at K8
        dsimp only at K8
        have x0 := hX7.c 0 _ rfl; have x1 := hX7.c 1 _ rfl; have x2 := hX7.c 2 _ rfl; have x3 := hX7.c 3 _ rfl
        clear K7 ho hp hq hb HI6 HC6 HX6 hin hX7 HLE
        go_wp2_with fail
        with_reducible refine K8.mono ?_
        rintro e v8 ⟨rfl, hb⟩
        have HB8 := Lib.hid (HB7.out.trans (hb.mono HB7.out.size))
        have HI8 := Lib.hid (HI7.out.keep hb)
        have HC8 := Lib.hid (HC7.out.keep hb)
        have HX8 := Lib.hid (HX7.out.on hb)
        have HO1 := Lib.hid (own_keep HO1.out hb)
        have HO2 := Lib.hid (own_keep HO2.out hb)
        have hc16 : cm ≤ 16 := by rw [← HC8.out.len]; exact HGM.out.len
        have K9 := Check_E cb cm cd _ cz m v8 HC8.out (by omega) (fun s hs => Nat.le_trans (Sg.sok_short (HGM.out.seg s hs)) (by omega))
        rw [Sg.chk_zero.2 HGM.out] at K9
        clear K8 hb HI7 HC7 HX7 x0 x1 x2 x3
        go_wp2_with fail
        with_reducible refine K9.mono ?_
        rintro e v9 ⟨rfl, hb⟩
        have HB9 := Lib.hid (HB8.out.trans (hb.mono HB8.out.size))
        have HI9 := Lib.hid (HI8.out.keep hb)
        have HC9 := Lib.hid (HC8.out.keep hb)
        have HX9 := Lib.hid (HX8.out.on hb)
        have HO1 := Lib.hid (own_keep HO1.out hb)
        have HO2 := Lib.hid (own_keep HO2.out hb)
        have K10 := Live_E cb cm cd _ cz m (some A) len1 cap1 t1 v9 HC9.out HGM.out HI9.out HT.out
        rw [Bg.good_check HBG.out, if_pos rfl] at K10
        clear K9 hb HI8 HC8 HX8
        go_wp2_with fail
        with_reducible refine K10.mono ?_
        rintro e v10 ⟨ub, um, ud, rfl, ho, hb⟩
        obtain rfl : um = cm := by
          have h1 : (iv (Sg.usedL t1 m)).length = um * 1 := ho.1
          unfold iv at h1
          rw [List.length_map, Sg.used_length, HC9.out.len] at h1
          omega
        have HB10 := Lib.hid (HB9.out.trans (hb.mono HB9.out.size))
        have HX10 := Lib.hid (HX9.out.on hb)
        have HO1 := Lib.hid (own_keep HO1.out hb)
        have HO2 := Lib.hid (own_keep HO2.out hb)
        have HB1N : Hid (some B ≠ (Value.slice pb pm pd).ownBlock) := Lib.hid fun e => by have := row_base HO1.out B e.symm; have := HXL.out; omega
        have HB2N : Hid (some B ≠ (Value.slice rb rm rd).ownBlock) := Lib.hid fun e => by have := row_base HO2.out B e.symm; have := HXL.out; have := HSZ.out; omega
        have HON : Hid (∀ k, (Value.slice rb rm rd).ownBlock = some k → (Value.slice pb pm pd).ownBlock ≠ some k) := Lib.hid fun k hk e => by have := row_base HO2.out k hk; have := HPL.out k e; omega
        have K11 := Without_E pb pd pm _ B o1 ⟨⟨true, y1, y2⟩, y3⟩ v10 HO1.out (by omega) HX10.out HB1N.out
        have eg := eg_without
        clear K10 ho hb HI9 HC9 HX9
        go_wp2_with fail
        with_reducible refine K11.mono ?_
        rintro e v11 ⟨n1, rfl, ho, hg⟩
        have HB11 : Hid (Below w.heap.size w v11) := Lib.hid (HB10.out.grown hg HB10.out.size (fun k e => by have := row_base HO1.out k e; have := HB5.out.size; omega))
        have HX11 := Lib.hid (HX10.out.grown hg HB1N.out)
        have HO2 := Lib.hid (own_kept2 HO2.out hg fun k hk => HON.out k hk)
        have HO1 := Lib.hid ho
        have K12 := Without_E rb rd rm _ B o2 ⟨⟨true, y1, y2⟩, y3⟩ v11 HO2.out (by omega) HX11.out HB2N.out
        clear K11 ho hg HX10
        go_wp2_with fail
        with_reducible refine K12.mono ?_
        rintro e v12 ⟨n2, rfl, ho, hg⟩
        have HB12 : Hid (Below w.heap.size w v12) := Lib.hid (HB11.out.grown hg HB11.out.size (fun k e => by have := row_base HO2.out k e; have := HB5.out.size; have := HSZ.out; omega))
        have HO1 := Lib.hid (own_kept2 HO1.out hg fun k hk e => HON.out k e (by cases pb <;> exact hk))
        have heq : (o1.filter fun t => !decide (t = (⟨⟨true, y1, y2⟩, y3⟩ : Sg.R))) = o2.filter fun t => !decide (t = (⟨⟨true, y1, y2⟩, y3⟩ : Sg.R)) := Sg.without_eq HFL.out HP1.out HP2.out HQ1.out HQ2.out
        rw [← heq] at ho
        obtain rfl : n1 = n2 := (own_len4 HO1.out).symm.trans (own_len4 ho)
        have hn1 : n1 ≤ 400 := by
          rw [← own_len4 ho]
          refine Nat.le_trans (List.length_filter_le _ _) ?_
          rw [HOL.out]
          exact hpm
        have K13 := Equal_E pb rb n1 pd rd _ _ _ v12 HO1.out ho (by omega)
        clear K12 ho hg heq
        go_wp2_with fail
        with_reducible refine K13.mono ?_
        rintro e v13 ⟨rfl, q, rfl⟩
        clear K13
        go_wp2_with fail
        go_ret
        exact ⟨rfl, below_drewN HB12.out q⟩
  · have hb1 : ((E : Int) != 0) = true := bne_iff_ne.2 (by omega)
    clear hE
    go_wp2_with fail
    with_reducible refine K2.mono ?_
    rintro e v2 ⟨rfl, hb⟩
    have HB2 := Lib.hid (HB1.out.trans (hb.mono HB1.out.size))
    clear K2 hb
    go_wp2_with fail
    go_ret
    exact ⟨rfl, HB2.out⟩

end Go.Proofs.Ytenkdpogdfcbgaa
