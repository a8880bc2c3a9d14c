/- VolNew: a new volume reads as no text everywhere; for every input. -/
import Derived.Test.YteddendidjhmbaaMdW
namespace Go.Proofs.Yteddendidjhmbaa
open Go.RowKit

set_option maxRecDepth 100000 in
set_option maxHeartbeats 16000000 in
theorem volNew_walk (a0 : Option Addr) (len0 cap0 : Nat) (t0 : List Lg.Op) (a1 : ByteArray) (a2 : Int) (w : World) (w0 : OArg w a0 len0 cap0 t0) (w1 : a1.size ≤ maxLen) (_w2 : (Lit.int .i64 a2).wf = true) :
    Calls Try.prog 11 #[.slice a0 len0 cap0, .string a1, .int .i64 a2] w fun e w' => e = .returned (.bool true) ∧ Below w.heap.size w w' := by
  have B1 := begun_V w
  have M1 : ∀ W, Below w.heap.size w W → Calls Try.prog 33 #[.slice a0 len0 cap0] W (StMade W (Vo.made t0)) := fun W hb => made_V a0 len0 cap0 t0 W ⟨w0.1.keep hb, w0.2⟩
  have HR : Hid (Vo.Right (Vo.made t0)) := Lib.hid (Vo.made_right t0)
  obtain ⟨S, hS⟩ : ∃ S, Vo.made t0 = S := ⟨_, rfl⟩
  rw [hS] at M1 HR
  have HN := Lib.hid (Vo.make_new HR.out a1 a2)
  have HR2 := Lib.hid (Vo.make_right HR.out a1 a2)
  clear w0 hS
  go_enter Try.func11, Try.ntmps11
  go_wp2_with fail
  with_reducible refine B1.mono ?_
  rintro e v1 ⟨rfl, hb1⟩
  have HB1 := Lib.hid hb1
  have Q1 := M1 v1 hb1
  clear M1 B1 hb1
  go_wp2_with fail
  with_reducible refine Q1.mono ?_
  rintro e v2 ⟨a, n, c, b, m, d, rs, rfl, hs2, hb2⟩
  have HB2 := Lib.hid ((HB1.out.trans (hb2.mono HB1.out.size)).alloc (HB1.out.trans (hb2.mono HB1.out.size)).size (.cells #[.slice a n c, .slice b m d] 52))
  have HX2 := Lib.hid (bxs_new v2 52 #[.slice a n c, .slice b m d] _ rfl)
  have HS2 := Lib.hid (hs2.keep ((Below.refl _ v2).alloc (Nat.le_refl _) (.cells #[.slice a n c, .slice b m d] 52)))
  have Q2 := Make_V a b n c m d _ rs S a1 a2 _ HS2.out HR.out w1
  obtain ⟨R, hRR⟩ : ∃ R, Vo.makeR S a1 a2 = R := ⟨_, rfl⟩
  rw [hRR] at Q2 HN HR2
  obtain ⟨RS, RE⟩ := R
  dsimp only at HN HR2
  have hz2 : v2.heap.size < (v2.alloc (.cells #[.slice a n c, .slice b m d] 52)).heap.size := by rw [World.size_alloc]; omega
  clear hs2 hb2 Q1 hRR
  go_wp2_with fail
  with_reducible refine Q2.mono ?_
  rintro e v3 ⟨a6, n6, c6, b6, m6, d6, rs6, rfl, hs3, hb3⟩
  have HB3 := Lib.hid ((HB2.out.trans (hb3.mono HB2.out.size)).alloc (HB2.out.trans (hb3.mono HB2.out.size)).size (.cells #[.slice a6 n6 c6, .slice b6 m6 d6] 52))
  have HX3 := Lib.hid ((HX2.out.on hb3).alloc (.cells #[.slice a6 n6 c6, .slice b6 m6 d6] 52))
  have HY3 := Lib.hid (bxs_new v3 52 #[.slice a6 n6 c6, .slice b6 m6 d6] _ rfl)
  have HS3 := Lib.hid (hs3.keep ((Below.refl _ v3).alloc (Nat.le_refl _) (.cells #[.slice a6 n6 c6, .slice b6 m6 d6] 52)))
  have hz3 : v2.heap.size < v3.heap.size := Nat.lt_of_lt_of_le hz2 hb3.size
  dsimp only at HS3
  clear hs3 hb3 Q2 hz2
  rcases HN.out with ⟨h1, h2⟩ | ⟨h1, N, h2, h3, h4, h5, h6, h7⟩
  · subst h2
    obtain rfl : m6 = 0 := HS3.out.vlen.symm
    have hb : ((RE : Int) != 0) = true := bne_iff_ne.2 (by omega)
    clear HN h1
    go_wp2_with fail
    go_ret
    exact ⟨rfl, HB3.out⟩
  · subst h1; subst h2
    have Q3 := Blocks_V a6 b6 n6 c6 m6 d6 _ rs6 RS a1 _ HS3.out HR2.out
    rw [h6] at Q3
    have H7 := Lib.hid h7
    obtain rfl : n6 = n := by have := HS3.out.len; have := HS2.out.len; rw [h4] at *; omega
    obtain rfl : m6 = m + 1 := by have := HS3.out.vlen; have := HS2.out.vlen; omega
    have hm6 : m ≤ 6 := by rw [← HS2.out.vlen]; exact HR.out.len
    clear HN h4 h5 h6 h7
    go_wp2_with fail
    with_reducible refine Q3.mono ?_
    rintro e v4 ⟨a7, n7, c7, rfl, ho, hl, hb4⟩
    have hb4' := hb4.mono (show v3.heap.size ≤ _ by rw [World.size_alloc]; omega)
    have HB4 := Lib.hid (HB3.out.trans (hb4.mono HB3.out.size))
    have HX4 := Lib.hid (HX3.out.on hb4)
    have HY4 := Lib.hid (HY3.out.on hb4)
    have HS4 := Lib.hid (HS3.out.keep hb4)
    obtain rfl : n7 = N := by rw [← hl]; exact List.length_replicate
    have HO4 := Lib.hid ho
    have x0 := HX4.out.c 0 _ rfl; have x1 := HX4.out.c 1 _ rfl
    have y0 := HY4.out.c 0 _ rfl; have y1 := HY4.out.c 1 _ rfl
    have hyl := HY4.out.lt
    clear hb4 hb4' ho hl Q3
    go_wp2_with fail
    go_loopw [67] (fun x wr => ∃ (k : Nat), k ≤ n7 ∧ x = .int .i64 k ∧ Hid (Below v4.heap.size v4 wr))
      (fun x _ => n7 - (intOf x).toNat)
    case atStart => exact ⟨0, Nat.zero_le _, rfl, Lib.hid (Below.refl _ _)⟩
    case round =>
      obtain ⟨k, hk, rfl, BW⟩ := hrel
      have hsz := BW.out.size
      by_cases hlt : k < n7
      · have hki : k < (List.replicate n7 Bg.noId).length := by rw [List.length_replicate]; exact hlt
        obtain ⟨g, rfl, hg, -, q0, q1, q2⟩ := dv_at (own_keep HO4.out BW.out) hki
        rw [List.getElem_replicate] at q0 q1 q2
        have hal := (Below.refl wr.heap.size wr).alloc (Nat.le_refl _) (.cells #[.bool false, .int .i64 0, .int .i64 0] 26)
        have HI := Lib.hid (bxs_new wr 26 #[.bool false, .int .i64 0, .int .i64 0] _ rfl)
        have HBW := Lib.hid (BW.out.trans (hal.mono hsz))
        have z0 := (HY4.out.on HBW.out).c 0 _ rfl; have z1 := (HY4.out.on HBW.out).c 1 _ rfl
        have RD := Read_V a6 b6 n6 c6 (m + 1) d6 _ rs6 RS a1 (k : Int) _ (HS4.out.keep HBW.out) HR2.out
        rw [H7.out k hlt, show Bg.noText = ⟨#[]⟩ from rfl] at RD
        simp only [Bg.noId] at q0 q1 q2
        clear hal
        go_wp2_with fail
        with_reducible refine RD.mono ?_
        rintro e v5 ⟨rfl, hb5⟩
        have HB5 := Lib.hid (HBW.out.trans (hb5.mono HBW.out.size))
        have u0 := (HI.out.on hb5).c 0 _ rfl
        clear hb5 q0 q1 q2 z0 z1 RD
        go_wp2_with fail
        go_roundw
        case rel => exact ⟨k + 1, hlt, by go_num, HB5⟩
        case measure => simp [intOf]; omega
      · obtain rfl : k = n7 := by omega
        go_wp2_with fail
        go_ret
        exact ⟨rfl, HB4.out.trans (BW.out.mono HB4.out.size)⟩

end Go.Proofs.Yteddendidjhmbaa
