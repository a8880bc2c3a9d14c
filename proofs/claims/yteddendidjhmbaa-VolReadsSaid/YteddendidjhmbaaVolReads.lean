/- VolReads: what was written is read back, what was trimmed is not, the rest is as it was; for every input. -/
import Derived.Test.YteddendidjhmbaaVolRdP
namespace Go.Proofs.Yteddendidjhmbaa
open Go.RowKit

/-- What a call leaves of a box of two cells. -/
theorem pk_on {W V V' : World} {B : Nat} {u v : Value} (hX : Bxs W B [u, v]) (hV : Below W.heap.size W V) (hb : Below V.heap.size V V') : V'.cell? ⟨B, 0, none⟩ = some u ∧ V'.cell? ⟨B, 1, none⟩ = some v ∧ Below W.heap.size W V' := by
  have h := hV.trans (hb.mono hV.size)
  exact ⟨(hX.on h).c 0 _ rfl, (hX.on h).c 1 _ rfl, h⟩

theorem bytes_eq {a b : ByteArray} (h : a.toList = b.toList) : a = b := by
  have h1 : (a.toList == b.toList) = true := by rw [h]; exact beq_self_eq_true _
  exact (Vo.called_iff (name := b) (v := ⟨a, []⟩)).1 h1

set_option maxRecDepth 100000 in
set_option maxHeartbeats 16000000 in
theorem volReads_walk (a0 : Option Addr) (len0 cap0 : Nat) (t0 : List Lg.Op) (a1 a2 : Int) (a3 : ByteArray) (a4 a5 : Int) (w : World) (w0 : OArg w a0 len0 cap0 t0) (_w1 : (Lit.int .i64 a1).wf = true) (_w2 : (Lit.int .i64 a2).wf = true) (w3 : a3.size ≤ maxLen) (_w4 : (Lit.int .i64 a4).wf = true) (_w5 : (Lit.int .i64 a5).wf = true) :
    Calls Try.prog 9 #[.slice a0 len0 cap0, .int .i64 a1, .int .i64 a2, .string a3, .int .i64 a4, .int .i64 a5] w fun e w' => e = .returned (.bool true) ∧ Below w.heap.size w w' := by
  have B1 := begun_V w
  have M1 : ∀ W, Below w.heap.size w W → Calls Try.prog 33 #[.slice a0 len0 cap0] W (StMade W (Vo.made t0)) := fun W hb => made_V a0 len0 cap0 t0 W ⟨w0.1.keep hb, w0.2⟩
  have HR : Hid (Vo.Right (Vo.made t0)) := Lib.hid (Vo.made_right t0)
  obtain ⟨S, hS⟩ : ∃ S, Vo.made t0 = S := ⟨_, rfl⟩
  rw [hS] at M1 HR
  have HP := Lib.hid (Vo.trim_write HR.out (Vo.pick S a1) a2 a3)
  have HRX := Lib.hid (Vo.vwrite_right HR.out (Vo.pick S a1) a2 a3)
  have HRY := Lib.hid (Vo.trim_right HR.out (Vo.pick S a1) a2)
  clear w0 hS
  go_enter Try.func9, Try.ntmps9
  go_wp2_with fail
  with_reducible refine B1.mono ?_
  rintro e v1 ⟨rfl, hb1⟩
  have HB1 := Lib.hid hb1
  have Q1 := M1 v1 hb1
  clear M1 B1 hb1
  go_wp2_with fail
  with_reducible refine Q1.mono ?_
  rintro e v2 ⟨a, n, c, b, m, d, rs, rfl, hs2, hb2⟩
  have HB2 := Lib.hid ((HB1.out.trans (hb2.mono HB1.out.size)).alloc (HB1.out.trans (hb2.mono HB1.out.size)).size (.cells #[.slice a n c, .slice b m d] 52))
  have HX2 := Lib.hid (bxs_new v2 52 #[.slice a n c, .slice b m d] _ rfl)
  have HS2 := Lib.hid (hs2.keep ((Below.refl _ v2).alloc (Nat.le_refl _) (.cells #[.slice a n c, .slice b m d] 52)))
  have hm : m ≤ 64 := by have := HR.out.len; rw [hs2.vlen] at this; omega
  clear hs2 hb2 Q1
  go_wp2_with fail
  generalize v2.alloc (.cells #[.slice a n c, .slice b m d] 52) = W at *
  have x0 := HX2.out.c 0 _ rfl
  have x1 := HX2.out.c 1 _ rfl
  have hw0 := Below.refl W.heap.size W
  go_region_held3 (fun V => V.cell? ⟨v2.heap.size, 0, none⟩ = some (.slice a n c) ∧ V.cell? ⟨v2.heap.size, 1, none⟩ = some (.slice b m d) ∧ Below W.heap.size W V)
    (first
      | with_reducible exact ⟨by assumption, by assumption, by assumption⟩
      | exact ⟨by assumption, by assumption, Below.drew (by assumption)⟩)
    ((go_at_call 35; refine (pick_V a b n c m d _ rs S _ _ (HS2.out.keep (by first | with_reducible assumption | (go_split_ands; with_reducible assumption) | exact Below.drew (by with_reducible assumption))) hm).mono ?_; rintro e ws ⟨rfl, hbs⟩; obtain ⟨y0, y1, hbw⟩ := pk_on HX2.out (by first | with_reducible assumption | (go_split_ands; with_reducible assumption) | exact Below.drew (by with_reducible assumption)) hbs; clear hbs))
  have HB3 := Lib.hid (HB2.out.trans (hbw.mono HB2.out.size))
  have HX3 := Lib.hid (HX2.out.on hbw)
  have HS3 := Lib.hid (HS2.out.keep hbw)
  obtain ⟨nm, hnm⟩ : ∃ x, Vo.pick S a1 = x := ⟨_, rfl⟩
  obtain ⟨al, hal⟩ : ∃ x, Vo.pick S a4 = x := ⟨_, rfl⟩
  rw [hnm] at HP HRX HRY
  have RD := Read_V a b n c m d _ rs S al a5 _ HS3.out HR.out
  obtain ⟨RA, hRA⟩ : ∃ R, Vo.readR S al a5 = R := ⟨_, rfl⟩
  rw [hRA] at RD
  obtain ⟨was, ew⟩ := RA
  dsimp only at RD
  clear x0 x1 hw0 hbw
  go_wp2_with fail
  rw [hnm, hal]
  with_reducible refine RD.mono ?_
  rintro e w4 ⟨rfl, hb4⟩
  have HB4 := Lib.hid (HB3.out.trans (hb4.mono HB3.out.size))
  have HX4 := Lib.hid (HX3.out.on hb4)
  have HS4 := Lib.hid (HS3.out.keep hb4)
  clear hb4 RD y0 y1
  have x0 := HX4.out.c 0 _ rfl; have x1 := HX4.out.c 1 _ rfl
  have WR := Write_V a b n c m d _ rs S nm a3 a2 w4 HS4.out HR.out w3
  obtain ⟨RX, hRX⟩ : ∃ R, Vo.writeR S nm a2 a3 = R := ⟨_, rfl⟩
  rw [hRX] at WR HP HRX
  obtain ⟨X, EX⟩ := RX
  dsimp only at HP HRX
  go_wp2_with fail
  with_reducible refine WR.mono ?_
  rintro e w5 ⟨a6, n6, c6, b6, m6, d6, rs6, rfl, hs5, hb5⟩
  dsimp only at hs5
  have ha5 := (Below.refl _ w5).alloc (Nat.le_refl _) (.cells #[.slice a6 n6 c6, .slice b6 m6 d6] 52)
  have HB5 := Lib.hid ((HB4.out.trans (hb5.mono HB4.out.size)).trans (ha5.mono (HB4.out.trans (hb5.mono HB4.out.size)).size))
  have HX5 := Lib.hid ((HX4.out.on hb5).on ha5)
  have HS5 := Lib.hid ((HS4.out.keep hb5).keep ha5)
  have HXx := Lib.hid (bxs_new w5 52 #[.slice a6 n6 c6, .slice b6 m6 d6] _ rfl)
  have HSx := Lib.hid (hs5.keep ha5)
  clear hs5 hb5 ha5 WR x0 x1
  have x0 := HX5.out.c 0 _ rfl; have x1 := HX5.out.c 1 _ rfl
  have TR := Trim_V a b n c m d _ rs S nm a2 _ HS5.out HR.out
  obtain ⟨RY, hRY⟩ : ∃ R, Vo.trimR S nm a2 = R := ⟨_, rfl⟩
  rw [hRY] at TR HP HRY
  obtain ⟨Y, EY⟩ := RY
  dsimp only at HP HRY
  go_wp2_with fail
  with_reducible refine TR.mono ?_
  rintro e w6 ⟨a7, n7, c7, b7, m7, d7, rs7, rfl, hs6, hb6⟩
  dsimp only at hs6
  have ha6 := (Below.refl _ w6).alloc (Nat.le_refl _) (.cells #[.slice a7 n7 c7, .slice b7 m7 d7] 52)
  have HB6 := Lib.hid ((HB5.out.trans (hb6.mono HB5.out.size)).trans (ha6.mono (HB5.out.trans (hb6.mono HB5.out.size)).size))
  have HXx6 := Lib.hid ((HXx.out.on hb6).on ha6)
  have HSx6 := Lib.hid ((HSx.out.keep hb6).keep ha6)
  have HXy := Lib.hid (bxs_new w6 52 #[.slice a7 n7 c7, .slice b7 m7 d7] _ rfl)
  have HSy := Lib.hid (hs6.keep ha6)
  clear hs6 hb6 ha6 TR x0 x1 hRX hRY
  rcases HP.out with ⟨h1, h2⟩ | ⟨h1, h2, h3, h4⟩
  · subst h2
    have hb : ((EX : Int) != 0) = true := bne_iff_ne.2 (by omega)
    clear HP h1
    go_wp2_with fail
    go_ret
    exact ⟨rfl, HB6.out⟩
  · subst h1
    clear HP
    rcases h4 with ⟨h4, h5, h6⟩ | ⟨h4, h5⟩
    · subst h4
      by_cases hn : nm = al
      · subst hn
        by_cases ha : a2 = a5
        · subst ha
          have x0 := HXx6.out.c 0 _ rfl; have x1 := HXx6.out.c 1 _ rfl
          have RD := Read_V a6 b6 n6 c6 m6 d6 _ rs6 X nm a2 _ HSx6.out HRX.out
          rw [h5] at RD
          dsimp only at RD
          go_wp2_with fail
          with_reducible refine RD.mono ?_
          rintro e v7 ⟨rfl, hb7⟩
          have HB6_7 := Lib.hid (HB6.out.trans (hb7.mono HB6.out.size))
          have HXx6_7 := Lib.hid (HXx6.out.on hb7)
          have HSx6_7 := Lib.hid (HSx6.out.keep hb7)
          have HXy_7 := Lib.hid (HXy.out.on hb7)
          have HSy_7 := Lib.hid (HSy.out.keep hb7)
          clear hb7 RD x0 x1
          have x0 := HXx6_7.out.c 0 _ rfl; have x1 := HXx6_7.out.c 1 _ rfl
          have RD := Read_V a6 b6 n6 c6 m6 d6 _ rs6 X nm a2 _ HSx6_7.out HRX.out
          rw [h5] at RD
          dsimp only at RD
          go_wp2_with fail
          with_reducible refine RD.mono ?_
          rintro e v8 ⟨rfl, hb8⟩
          have HB6_8 := Lib.hid (HB6_7.out.trans (hb8.mono HB6_7.out.size))
          have HXx6_8 := Lib.hid (HXx6_7.out.on hb8)
          have HSx6_8 := Lib.hid (HSx6_7.out.keep hb8)
          have HXy_8 := Lib.hid (HXy_7.out.on hb8)
          have HSy_8 := Lib.hid (HSy_7.out.keep hb8)
          clear hb8 RD x0 x1
          have x0 := HXy_8.out.c 0 _ rfl; have x1 := HXy_8.out.c 1 _ rfl
          have RD := Read_V a7 b7 n7 c7 m7 d7 _ rs7 Y nm a2 _ HSy_8.out HRY.out
          rw [h2, show Bg.noText = ⟨#[]⟩ from rfl] at RD
          dsimp only at RD
          go_wp2_with fail
          with_reducible refine RD.mono ?_
          rintro e v9 ⟨rfl, hb9⟩
          have HB6_9 := Lib.hid (HB6_8.out.trans (hb9.mono HB6_8.out.size))
          have HXx6_9 := Lib.hid (HXx6_8.out.on hb9)
          have HSx6_9 := Lib.hid (HSx6_8.out.keep hb9)
          have HXy_9 := Lib.hid (HXy_8.out.on hb9)
          have HSy_9 := Lib.hid (HSy_8.out.keep hb9)
          clear hb9 RD x0 x1
          have x0 := HXy_9.out.c 0 _ rfl; have x1 := HXy_9.out.c 1 _ rfl
          have RD := Read_V a7 b7 n7 c7 m7 d7 _ rs7 Y nm a2 _ HSy_9.out HRY.out
          rw [h2, show Bg.noText = ⟨#[]⟩ from rfl] at RD
          dsimp only at RD
          go_wp2_with fail
          with_reducible refine RD.mono ?_
          rintro e v10 ⟨rfl, hb10⟩
          have HB6_10 := Lib.hid (HB6_9.out.trans (hb10.mono HB6_9.out.size))
          have HXx6_10 := Lib.hid (HXx6_9.out.on hb10)
          have HSx6_10 := Lib.hid (HSx6_9.out.keep hb10)
          have HXy_10 := Lib.hid (HXy_9.out.on hb10)
          have HSy_10 := Lib.hid (HSy_9.out.keep hb10)
          clear hb10 RD x0 x1
          go_wp2_with fail
          go_ret
          exact ⟨rfl, HB6_10.out⟩
        · have HQ : Hid (¬ (nm = nm ∧ a2 = a5)) := Lib.hid fun e => ha e.2
          have hb1 : (a2 == a5) = false := beq_eq_false_iff_ne.2 ha
          have hb2 : (a2 != a5) = true := bne_iff_ne.2 ha
          have x0 := HXx6.out.c 0 _ rfl; have x1 := HXx6.out.c 1 _ rfl
          have RD := Read_V a6 b6 n6 c6 m6 d6 _ rs6 X nm a2 _ HSx6.out HRX.out
          rw [h5] at RD
          dsimp only at RD
          go_wp2_with fail
          with_reducible refine RD.mono ?_
          rintro e v7 ⟨rfl, hb7⟩
          have HB6_7 := Lib.hid (HB6.out.trans (hb7.mono HB6.out.size))
          have HXx6_7 := Lib.hid (HXx6.out.on hb7)
          have HSx6_7 := Lib.hid (HSx6.out.keep hb7)
          have HXy_7 := Lib.hid (HXy.out.on hb7)
          have HSy_7 := Lib.hid (HSy.out.keep hb7)
          clear hb7 RD x0 x1
          have x0 := HXx6_7.out.c 0 _ rfl; have x1 := HXx6_7.out.c 1 _ rfl
          have RD := Read_V a6 b6 n6 c6 m6 d6 _ rs6 X nm a5 _ HSx6_7.out HRX.out
          rw [h6 nm a5 (by first | exact HQ.out | exact fun e => HQ.out ⟨trivial, e.2⟩), hRA] at RD
          dsimp only at RD
          go_wp2_with fail
          with_reducible refine RD.mono ?_
          rintro e v8 ⟨rfl, hb8⟩
          have HB6_8 := Lib.hid (HB6_7.out.trans (hb8.mono HB6_7.out.size))
          have HXx6_8 := Lib.hid (HXx6_7.out.on hb8)
          have HSx6_8 := Lib.hid (HSx6_7.out.keep hb8)
          have HXy_8 := Lib.hid (HXy_7.out.on hb8)
          have HSy_8 := Lib.hid (HSy_7.out.keep hb8)
          clear hb8 RD x0 x1
          have x0 := HXy_8.out.c 0 _ rfl; have x1 := HXy_8.out.c 1 _ rfl
          have RD := Read_V a7 b7 n7 c7 m7 d7 _ rs7 Y nm a2 _ HSy_8.out HRY.out
          rw [h2, show Bg.noText = ⟨#[]⟩ from rfl] at RD
          dsimp only at RD
          go_wp2_with fail
          with_reducible refine RD.mono ?_
          rintro e v9 ⟨rfl, hb9⟩
          have HB6_9 := Lib.hid (HB6_8.out.trans (hb9.mono HB6_8.out.size))
          have HXx6_9 := Lib.hid (HXx6_8.out.on hb9)
          have HSx6_9 := Lib.hid (HSx6_8.out.keep hb9)
          have HXy_9 := Lib.hid (HXy_8.out.on hb9)
          have HSy_9 := Lib.hid (HSy_8.out.keep hb9)
          clear hb9 RD x0 x1
          have x0 := HXy_9.out.c 0 _ rfl; have x1 := HXy_9.out.c 1 _ rfl
          have RD := Read_V a7 b7 n7 c7 m7 d7 _ rs7 Y nm a5 _ HSy_9.out HRY.out
          rw [h3 nm a5 (by first | exact HQ.out | exact fun e => HQ.out ⟨trivial, e.2⟩), hRA] at RD
          dsimp only at RD
          go_wp2_with fail
          with_reducible refine RD.mono ?_
          rintro e v10 ⟨rfl, hb10⟩
          have HB6_10 := Lib.hid (HB6_9.out.trans (hb10.mono HB6_9.out.size))
          have HXx6_10 := Lib.hid (HXx6_9.out.on hb10)
          have HSx6_10 := Lib.hid (HSx6_9.out.keep hb10)
          have HXy_10 := Lib.hid (HXy_9.out.on hb10)
          have HSy_10 := Lib.hid (HSy_9.out.keep hb10)
          clear hb10 RD x0 x1
          go_wp2_with fail
          go_ret
          exact ⟨rfl, HB6_10.out⟩
      · have HQ : Hid (¬ (nm = al ∧ a2 = a5)) := Lib.hid fun e => hn e.1
        have hb1 : ¬ nm.toList = al.toList := fun e => hn (bytes_eq e)
        have x0 := HXx6.out.c 0 _ rfl; have x1 := HXx6.out.c 1 _ rfl
        have RD := Read_V a6 b6 n6 c6 m6 d6 _ rs6 X nm a2 _ HSx6.out HRX.out
        rw [h5] at RD
        dsimp only at RD
        go_wp2_with fail
        with_reducible refine RD.mono ?_
        rintro e v7 ⟨rfl, hb7⟩
        have HB6_7 := Lib.hid (HB6.out.trans (hb7.mono HB6.out.size))
        have HXx6_7 := Lib.hid (HXx6.out.on hb7)
        have HSx6_7 := Lib.hid (HSx6.out.keep hb7)
        have HXy_7 := Lib.hid (HXy.out.on hb7)
        have HSy_7 := Lib.hid (HSy.out.keep hb7)
        clear hb7 RD x0 x1
        have x0 := HXx6_7.out.c 0 _ rfl; have x1 := HXx6_7.out.c 1 _ rfl
        have RD := Read_V a6 b6 n6 c6 m6 d6 _ rs6 X al a5 _ HSx6_7.out HRX.out
        rw [h6 al a5 (by first | exact HQ.out | exact fun e => HQ.out ⟨trivial, e.2⟩), hRA] at RD
        dsimp only at RD
        go_wp2_with fail
        with_reducible refine RD.mono ?_
        rintro e v8 ⟨rfl, hb8⟩
        have HB6_8 := Lib.hid (HB6_7.out.trans (hb8.mono HB6_7.out.size))
        have HXx6_8 := Lib.hid (HXx6_7.out.on hb8)
        have HSx6_8 := Lib.hid (HSx6_7.out.keep hb8)
        have HXy_8 := Lib.hid (HXy_7.out.on hb8)
        have HSy_8 := Lib.hid (HSy_7.out.keep hb8)
        clear hb8 RD x0 x1
        have x0 := HXy_8.out.c 0 _ rfl; have x1 := HXy_8.out.c 1 _ rfl
        have RD := Read_V a7 b7 n7 c7 m7 d7 _ rs7 Y nm a2 _ HSy_8.out HRY.out
        rw [h2, show Bg.noText = ⟨#[]⟩ from rfl] at RD
        dsimp only at RD
        go_wp2_with fail
        with_reducible refine RD.mono ?_
        rintro e v9 ⟨rfl, hb9⟩
        have HB6_9 := Lib.hid (HB6_8.out.trans (hb9.mono HB6_8.out.size))
        have HXx6_9 := Lib.hid (HXx6_8.out.on hb9)
        have HSx6_9 := Lib.hid (HSx6_8.out.keep hb9)
        have HXy_9 := Lib.hid (HXy_8.out.on hb9)
        have HSy_9 := Lib.hid (HSy_8.out.keep hb9)
        clear hb9 RD x0 x1
        have x0 := HXy_9.out.c 0 _ rfl; have x1 := HXy_9.out.c 1 _ rfl
        have RD := Read_V a7 b7 n7 c7 m7 d7 _ rs7 Y al a5 _ HSy_9.out HRY.out
        rw [h3 al a5 (by first | exact HQ.out | exact fun e => HQ.out ⟨trivial, e.2⟩), hRA] at RD
        dsimp only at RD
        go_wp2_with fail
        with_reducible refine RD.mono ?_
        rintro e v10 ⟨rfl, hb10⟩
        have HB6_10 := Lib.hid (HB6_9.out.trans (hb10.mono HB6_9.out.size))
        have HXx6_10 := Lib.hid (HXx6_9.out.on hb10)
        have HSx6_10 := Lib.hid (HSx6_9.out.keep hb10)
        have HXy_10 := Lib.hid (HXy_9.out.on hb10)
        have HSy_10 := Lib.hid (HSy_9.out.keep hb10)
        clear hb10 RD x0 x1
        go_wp2_with fail
        go_ret
        exact ⟨rfl, HB6_10.out⟩
    · have hE : EX = 8 ∨ EX = 2 := h5
      have hb0 : ((EX : Int) == 0) = false := beq_eq_false_iff_ne.2 (by omega)
      rcases hE with rfl | rfl
      · clear h4 h5 hb0
        by_cases hn : nm = al
        · subst hn
          by_cases ha : a2 = a5
          · subst ha
            have x0 := HXy.out.c 0 _ rfl; have x1 := HXy.out.c 1 _ rfl
            have RD := Read_V a7 b7 n7 c7 m7 d7 _ rs7 Y nm a2 _ HSy.out HRY.out
            rw [h2, show Bg.noText = ⟨#[]⟩ from rfl] at RD
            dsimp only at RD
            go_wp2_with fail
            with_reducible refine RD.mono ?_
            rintro e v7 ⟨rfl, hb7⟩
            have HB6_7 := Lib.hid (HB6.out.trans (hb7.mono HB6.out.size))
            have HXx6_7 := Lib.hid (HXx6.out.on hb7)
            have HSx6_7 := Lib.hid (HSx6.out.keep hb7)
            have HXy_7 := Lib.hid (HXy.out.on hb7)
            have HSy_7 := Lib.hid (HSy.out.keep hb7)
            clear hb7 RD x0 x1
            have x0 := HXy_7.out.c 0 _ rfl; have x1 := HXy_7.out.c 1 _ rfl
            have RD := Read_V a7 b7 n7 c7 m7 d7 _ rs7 Y nm a2 _ HSy_7.out HRY.out
            rw [h2, show Bg.noText = ⟨#[]⟩ from rfl] at RD
            dsimp only at RD
            go_wp2_with fail
            with_reducible refine RD.mono ?_
            rintro e v8 ⟨rfl, hb8⟩
            have HB6_8 := Lib.hid (HB6_7.out.trans (hb8.mono HB6_7.out.size))
            have HXx6_8 := Lib.hid (HXx6_7.out.on hb8)
            have HSx6_8 := Lib.hid (HSx6_7.out.keep hb8)
            have HXy_8 := Lib.hid (HXy_7.out.on hb8)
            have HSy_8 := Lib.hid (HSy_7.out.keep hb8)
            clear hb8 RD x0 x1
            go_wp2_with fail
            go_ret
            exact ⟨rfl, HB6_8.out⟩
          · have HQ : Hid (¬ (nm = nm ∧ a2 = a5)) := Lib.hid fun e => ha e.2
            have hb1 : (a2 == a5) = false := beq_eq_false_iff_ne.2 ha
            have hb2 : (a2 != a5) = true := bne_iff_ne.2 ha
            have x0 := HXy.out.c 0 _ rfl; have x1 := HXy.out.c 1 _ rfl
            have RD := Read_V a7 b7 n7 c7 m7 d7 _ rs7 Y nm a2 _ HSy.out HRY.out
            rw [h2, show Bg.noText = ⟨#[]⟩ from rfl] at RD
            dsimp only at RD
            go_wp2_with fail
            with_reducible refine RD.mono ?_
            rintro e v7 ⟨rfl, hb7⟩
            have HB6_7 := Lib.hid (HB6.out.trans (hb7.mono HB6.out.size))
            have HXx6_7 := Lib.hid (HXx6.out.on hb7)
            have HSx6_7 := Lib.hid (HSx6.out.keep hb7)
            have HXy_7 := Lib.hid (HXy.out.on hb7)
            have HSy_7 := Lib.hid (HSy.out.keep hb7)
            clear hb7 RD x0 x1
            have x0 := HXy_7.out.c 0 _ rfl; have x1 := HXy_7.out.c 1 _ rfl
            have RD := Read_V a7 b7 n7 c7 m7 d7 _ rs7 Y nm a5 _ HSy_7.out HRY.out
            rw [h3 nm a5 (by first | exact HQ.out | exact fun e => HQ.out ⟨trivial, e.2⟩), hRA] at RD
            dsimp only at RD
            go_wp2_with fail
            with_reducible refine RD.mono ?_
            rintro e v8 ⟨rfl, hb8⟩
            have HB6_8 := Lib.hid (HB6_7.out.trans (hb8.mono HB6_7.out.size))
            have HXx6_8 := Lib.hid (HXx6_7.out.on hb8)
            have HSx6_8 := Lib.hid (HSx6_7.out.keep hb8)
            have HXy_8 := Lib.hid (HXy_7.out.on hb8)
            have HSy_8 := Lib.hid (HSy_7.out.keep hb8)
            clear hb8 RD x0 x1
            go_wp2_with fail
            go_ret
            exact ⟨rfl, HB6_8.out⟩
        · have HQ : Hid (¬ (nm = al ∧ a2 = a5)) := Lib.hid fun e => hn e.1
          have hb1 : ¬ nm.toList = al.toList := fun e => hn (bytes_eq e)
          have x0 := HXy.out.c 0 _ rfl; have x1 := HXy.out.c 1 _ rfl
          have RD := Read_V a7 b7 n7 c7 m7 d7 _ rs7 Y nm a2 _ HSy.out HRY.out
          rw [h2, show Bg.noText = ⟨#[]⟩ from rfl] at RD
          dsimp only at RD
          go_wp2_with fail
          with_reducible refine RD.mono ?_
          rintro e v7 ⟨rfl, hb7⟩
          have HB6_7 := Lib.hid (HB6.out.trans (hb7.mono HB6.out.size))
          have HXx6_7 := Lib.hid (HXx6.out.on hb7)
          have HSx6_7 := Lib.hid (HSx6.out.keep hb7)
          have HXy_7 := Lib.hid (HXy.out.on hb7)
          have HSy_7 := Lib.hid (HSy.out.keep hb7)
          clear hb7 RD x0 x1
          have x0 := HXy_7.out.c 0 _ rfl; have x1 := HXy_7.out.c 1 _ rfl
          have RD := Read_V a7 b7 n7 c7 m7 d7 _ rs7 Y al a5 _ HSy_7.out HRY.out
          rw [h3 al a5 (by first | exact HQ.out | exact fun e => HQ.out ⟨trivial, e.2⟩), hRA] at RD
          dsimp only at RD
          go_wp2_with fail
          with_reducible refine RD.mono ?_
          rintro e v8 ⟨rfl, hb8⟩
          have HB6_8 := Lib.hid (HB6_7.out.trans (hb8.mono HB6_7.out.size))
          have HXx6_8 := Lib.hid (HXx6_7.out.on hb8)
          have HSx6_8 := Lib.hid (HSx6_7.out.keep hb8)
          have HXy_8 := Lib.hid (HXy_7.out.on hb8)
          have HSy_8 := Lib.hid (HSy_7.out.keep hb8)
          clear hb8 RD x0 x1
          go_wp2_with fail
          go_ret
          exact ⟨rfl, HB6_8.out⟩
      · clear h4 h5 hb0
        by_cases hn : nm = al
        · subst hn
          by_cases ha : a2 = a5
          · subst ha
            have x0 := HXy.out.c 0 _ rfl; have x1 := HXy.out.c 1 _ rfl
            have RD := Read_V a7 b7 n7 c7 m7 d7 _ rs7 Y nm a2 _ HSy.out HRY.out
            rw [h2, show Bg.noText = ⟨#[]⟩ from rfl] at RD
            dsimp only at RD
            go_wp2_with fail
            with_reducible refine RD.mono ?_
            rintro e v7 ⟨rfl, hb7⟩
            have HB6_7 := Lib.hid (HB6.out.trans (hb7.mono HB6.out.size))
            have HXx6_7 := Lib.hid (HXx6.out.on hb7)
            have HSx6_7 := Lib.hid (HSx6.out.keep hb7)
            have HXy_7 := Lib.hid (HXy.out.on hb7)
            have HSy_7 := Lib.hid (HSy.out.keep hb7)
            clear hb7 RD x0 x1
            have x0 := HXy_7.out.c 0 _ rfl; have x1 := HXy_7.out.c 1 _ rfl
            have RD := Read_V a7 b7 n7 c7 m7 d7 _ rs7 Y nm a2 _ HSy_7.out HRY.out
            rw [h2, show Bg.noText = ⟨#[]⟩ from rfl] at RD
            dsimp only at RD
            go_wp2_with fail
            with_reducible refine RD.mono ?_
            rintro e v8 ⟨rfl, hb8⟩
            have HB6_8 := Lib.hid (HB6_7.out.trans (hb8.mono HB6_7.out.size))
            have HXx6_8 := Lib.hid (HXx6_7.out.on hb8)
            have HSx6_8 := Lib.hid (HSx6_7.out.keep hb8)
            have HXy_8 := Lib.hid (HXy_7.out.on hb8)
            have HSy_8 := Lib.hid (HSy_7.out.keep hb8)
            clear hb8 RD x0 x1
            go_wp2_with fail
            go_ret
            exact ⟨rfl, HB6_8.out⟩
          · have HQ : Hid (¬ (nm = nm ∧ a2 = a5)) := Lib.hid fun e => ha e.2
            have hb1 : (a2 == a5) = false := beq_eq_false_iff_ne.2 ha
            have hb2 : (a2 != a5) = true := bne_iff_ne.2 ha
            have x0 := HXy.out.c 0 _ rfl; have x1 := HXy.out.c 1 _ rfl
            have RD := Read_V a7 b7 n7 c7 m7 d7 _ rs7 Y nm a2 _ HSy.out HRY.out
            rw [h2, show Bg.noText = ⟨#[]⟩ from rfl] at RD
            dsimp only at RD
            go_wp2_with fail
            with_reducible refine RD.mono ?_
            rintro e v7 ⟨rfl, hb7⟩
            have HB6_7 := Lib.hid (HB6.out.trans (hb7.mono HB6.out.size))
            have HXx6_7 := Lib.hid (HXx6.out.on hb7)
            have HSx6_7 := Lib.hid (HSx6.out.keep hb7)
            have HXy_7 := Lib.hid (HXy.out.on hb7)
            have HSy_7 := Lib.hid (HSy.out.keep hb7)
            clear hb7 RD x0 x1
            have x0 := HXy_7.out.c 0 _ rfl; have x1 := HXy_7.out.c 1 _ rfl
            have RD := Read_V a7 b7 n7 c7 m7 d7 _ rs7 Y nm a5 _ HSy_7.out HRY.out
            rw [h3 nm a5 (by first | exact HQ.out | exact fun e => HQ.out ⟨trivial, e.2⟩), hRA] at RD
            dsimp only at RD
            go_wp2_with fail
            with_reducible refine RD.mono ?_
            rintro e v8 ⟨rfl, hb8⟩
            have HB6_8 := Lib.hid (HB6_7.out.trans (hb8.mono HB6_7.out.size))
            have HXx6_8 := Lib.hid (HXx6_7.out.on hb8)
            have HSx6_8 := Lib.hid (HSx6_7.out.keep hb8)
            have HXy_8 := Lib.hid (HXy_7.out.on hb8)
            have HSy_8 := Lib.hid (HSy_7.out.keep hb8)
            clear hb8 RD x0 x1
            go_wp2_with fail
            go_ret
            exact ⟨rfl, HB6_8.out⟩
        · have HQ : Hid (¬ (nm = al ∧ a2 = a5)) := Lib.hid fun e => hn e.1
          have hb1 : ¬ nm.toList = al.toList := fun e => hn (bytes_eq e)
          have x0 := HXy.out.c 0 _ rfl; have x1 := HXy.out.c 1 _ rfl
          have RD := Read_V a7 b7 n7 c7 m7 d7 _ rs7 Y nm a2 _ HSy.out HRY.out
          rw [h2, show Bg.noText = ⟨#[]⟩ from rfl] at RD
          dsimp only at RD
          go_wp2_with fail
          with_reducible refine RD.mono ?_
          rintro e v7 ⟨rfl, hb7⟩
          have HB6_7 := Lib.hid (HB6.out.trans (hb7.mono HB6.out.size))
          have HXx6_7 := Lib.hid (HXx6.out.on hb7)
          have HSx6_7 := Lib.hid (HSx6.out.keep hb7)
          have HXy_7 := Lib.hid (HXy.out.on hb7)
          have HSy_7 := Lib.hid (HSy.out.keep hb7)
          clear hb7 RD x0 x1
          have x0 := HXy_7.out.c 0 _ rfl; have x1 := HXy_7.out.c 1 _ rfl
          have RD := Read_V a7 b7 n7 c7 m7 d7 _ rs7 Y al a5 _ HSy_7.out HRY.out
          rw [h3 al a5 (by first | exact HQ.out | exact fun e => HQ.out ⟨trivial, e.2⟩), hRA] at RD
          dsimp only at RD
          go_wp2_with fail
          with_reducible refine RD.mono ?_
          rintro e v8 ⟨rfl, hb8⟩
          have HB6_8 := Lib.hid (HB6_7.out.trans (hb8.mono HB6_7.out.size))
          have HXx6_8 := Lib.hid (HXx6_7.out.on hb8)
          have HSx6_8 := Lib.hid (HSx6_7.out.keep hb8)
          have HXy_8 := Lib.hid (HXy_7.out.on hb8)
          have HSy_8 := Lib.hid (HSy_7.out.keep hb8)
          clear hb8 RD x0 x1
          go_wp2_with fail
          go_ret
          exact ⟨rfl, HB6_8.out⟩

end Go.Proofs.Yteddendidjhmbaa
