/- The walk of log.Do. -/
import Derived.Test.YthccdoejnklidaaVoP
import Derived.Test.YthccdoejnklidaaVoH
import Derived.Test.YthccdoejnklidaaVoE
import Derived.Test.YthccdoejnklidaaLogW2
namespace Go.Proofs.Ythccdoejnklidaa
open Go.RowKit

theorem do_result {tmps : Array Value} {W : World} {B : Nat} {v0 v1 e : Value} (h2 : tmps.getD 4 undef = .pointer (some ⟨B, 0, none⟩)) (h3 : tmps.getD 5 undef = e) (h : Bxs W B [v0, v1]) :
    (results Try.f15 tmps).run Try.prog W = .ok (.tuple #[.agg #[v0, v1], e]) W := by
  have c0 := h.c 0 _ rfl; have c1 := h.c 1 _ rfl
  have hq : tmps[4]?.getD undef = .pointer (some ⟨B, 0, none⟩) := by simpa using h2
  have hr : tmps[5]?.getD undef = e := by simpa using h3
  simp [results, Try.results15, hq, hr, go_sem, c0, c1]

/-- An error of a state's call, stored. -/
theorem stTo_store {w W w' : World} {R : Vo.An} {a n c b m d rs} {B : Nat} (hS : StW w' W.heap.size a n c b m d rs R.s) (hb : Below w.heap.size w w') (hB : w.heap.size ≤ B) (hBW : B < W.heap.size) (hW : w.heap.size ≤ W.heap.size) :
    StTo w R (.returned (.tuple #[.agg #[.slice a n c, .slice b m d], .int .i64 R.e])) ((w'.setCell ⟨B, 0, none⟩ (.slice a n c)).setCell ⟨B, 1, none⟩ (.slice b m d)) := by
  have s1 := hS.other (B := B) (i := 0) (hS.off hBW) (.slice a n c)
  have s2 := s1.other (B := B) (i := 1) (s1.off hBW) (.slice b m d)
  exact ⟨_, _, _, _, _, _, _, rfl, s2.low hW, below_set2 hb hB _ _⟩

set_option maxRecDepth 100000 in
set_option maxHeartbeats 4000000 in
theorem Do_V (a b : Option Addr) (n c m d base : Nat) (rs : List Rw) (s : Vo.St) (o : Lg.Op) (w : World) (hS : StW w base a n c b m d rs s) (hR : Vo.Right s) (h1 : o.nm.size ≤ maxLen) (h2 : o.tn.size ≤ maxLen) (h3 : o.tx.size ≤ maxLen) :
    Calls Try.prog 15 #[.agg #[.slice a n c, .slice b m d], .agg #[.int .i64 o.k, .string o.nm, .string o.tn, .int .i64 o.a, .string o.tx]] w (StTo w (Vo.doR s o)) := by
  obtain ⟨w0, hw0⟩ : ∃ w0, w0 = ((w.alloc (.cells #[.slice a n c, .slice b m d] 32)).alloc (.cells #[.int .i64 o.k, .string o.nm, .string o.tn, .int .i64 o.a, .string o.tx] 28)).alloc (.cells #[.slice none 0 0, .slice none 0 0] 32) := ⟨_, rfl⟩
  have hB : Below w.heap.size w w0 := by
    rw [hw0]
    exact (((Below.refl _ w).alloc (Nat.le_refl _) _).alloc (by rw [World.size_alloc]; omega) _).alloc (by rw [World.size_alloc, World.size_alloc]; omega) _
  have hX : Bxs w0 w.heap.size [.slice a n c, .slice b m d] := by rw [hw0]; exact ((bxs_new w 32 _ _ rfl).alloc _).alloc _
  have hO : Bxs w0 (w.heap.size + 1) [.int .i64 o.k, .string o.nm, .string o.tn, .int .i64 o.a, .string o.tx] := by
    rw [hw0]
    have := bxs_new (w.alloc (.cells #[.slice a n c, .slice b m d] 32)) 28 #[.int .i64 o.k, .string o.nm, .string o.tn, .int .i64 o.a, .string o.tx] _ rfl
    rw [World.size_alloc] at this
    exact this.alloc _
  have hY : Bxs w0 (w.heap.size + 2) [.slice none 0 0, .slice none 0 0] := by
    rw [hw0]
    have := bxs_new ((w.alloc (.cells #[.slice a n c, .slice b m d] 32)).alloc (.cells #[.int .i64 o.k, .string o.nm, .string o.tn, .int .i64 o.a, .string o.tx] 28)) 32 #[.slice none 0 0, .slice none 0 0] _ rfl
    rw [World.size_alloc, World.size_alloc] at this
    exact this
  have C1 := Check_any o.k o.nm o.tn o.a o.tx w0 h1 h2 h3
  have HE : Hid (Lg.chk o.k (Lg.nmB o.nm.data.toList) (Lg.nmB o.tn.data.toList) o.a o.tx.size o.tn.toList.isEmpty o.tx.toList.isEmpty = Lg.chkE o) := Lib.hid rfl
  rw [HE.out] at C1
  have HMK : Hid (∀ W, Below w.heap.size w W → Calls Try.prog 28 #[.agg #[.slice a n c, .slice b m d], .string o.nm, .int .i64 o.a] W (StTo W (Vo.makeR s o.nm o.a))) := Lib.hid fun W hb => Make_V a b n c m d base rs s o.nm o.a W (hS.keep hb) hR h1
  have HDR : Hid (∀ W, Below w.heap.size w W → Calls Try.prog 29 #[.agg #[.slice a n c, .slice b m d], .string o.nm] W (StTo W (Vo.dropR s o.nm))) := Lib.hid fun W hb => Drop_V a b n c m d base rs s o.nm W (hS.keep hb) hR
  have HWR : Hid (∀ W, Below w.heap.size w W → Calls Try.prog 30 #[.agg #[.slice a n c, .slice b m d], .string o.nm, .int .i64 o.a, .string o.tx] W (StTo W (Vo.writeR s o.nm o.a o.tx))) := Lib.hid fun W hb => Write_V a b n c m d base rs s o.nm o.tx o.a W (hS.keep hb) hR h3
  have HTR : Hid (∀ W, Below w.heap.size w W → Calls Try.prog 31 #[.agg #[.slice a n c, .slice b m d], .string o.nm, .int .i64 o.a] W (StTo W (Vo.trimR s o.nm o.a))) := Lib.hid fun W hb => Trim_V a b n c m d base rs s o.nm o.a W (hS.keep hb) hR
  have HCL : Hid (∀ W, Below w.heap.size w W → Calls Try.prog 32 #[.agg #[.slice a n c, .slice b m d], .string o.nm, .string o.tn] W (StTo W (Vo.cloneR s o.nm o.tn))) := Lib.hid fun W hb => Clone_V a b n c m d base rs s o.nm o.tn W (hS.keep hb) hR h2
  obtain ⟨R, hRR⟩ : ∃ R, Vo.doR s o = R := ⟨_, rfl⟩
  rw [hRR]
  unfold Vo.doR at hRR
  have HB := Lib.hid hB; have HX := Lib.hid hX; have HO := Lib.hid hO; have HY := Lib.hid hY
  have x0 := hX.c 0 _ rfl; have x1 := hX.c 1 _ rfl
  have o0 := hO.c 0 _ rfl; have o1 := hO.c 1 _ rfl; have o2 := hO.c 2 _ rfl; have o3 := hO.c 3 _ rfl; have o4 := hO.c 4 _ rfl
  have hly := hY.lt
  have hw0' := hw0.symm
  clear hS hR hB hX hO hY hw0 h1 h2 h3
  generalize Lg.chkE o = E at *
  generalize o.k = ok at *
  generalize o.nm = onm at *
  generalize o.tn = otn at *
  generalize o.a = oa at *
  generalize o.tx = otx at *
  clear HE
  by_cases hE : E ≠ 0
  · rw [if_pos hE] at hRR
    subst hRR
    have hb : ((E : Int) != 0) = true := bne_iff_ne.2 (by omega)
    go_enter Try.func15, Try.ntmps15
    go_wp2_with fail
    with_reducible refine C1.mono ?_
    rintro e w1 ⟨rfl, hb1⟩
    have HB1 := Lib.hid (HB.out.trans (hb1.mono HB.out.size))
    have HY1 := Lib.hid (HY.out.on hb1)
    clear x0 x1 o0 o1 o2 o3 o4 hb1 C1
    have y0 := HY1.out.c 0 _ rfl; have y1 := HY1.out.c 1 _ rfl; have yf0 := HY1.out.z 0 (show 0 < 2 by decide); have yf1 := HY1.out.z 1 (show 1 < 2 by decide)
    go_wp2_with fail
    refine bodyPost_ret (do_result (B := w.heap.size + 2) rfl rfl (HY1.out.set2 _ _)) rfl ?_
    exact stTo_err (below_set2 HB1.out (by omega) _ _)
  · rw [if_neg hE] at hRR
    obtain rfl : E = 0 := by omega
    clear hE
    have rest : ∀ w1, Below w0.heap.size w0 w1 → Below w.heap.size w w1 ∧ Bxs w1 w.heap.size [.slice a n c, .slice b m d] ∧ Bxs w1 (w.heap.size + 1) [.int .i64 ok, .string onm, .string otn, .int .i64 oa, .string otx] ∧ Bxs w1 (w.heap.size + 2) [.slice none 0 0, .slice none 0 0] := fun w1 hb => ⟨HB.out.trans (hb.mono HB.out.size), HX.out.on hb, HO.out.on hb, HY.out.on hb⟩
    have HREST := Lib.hid rest
    clear rest
    by_cases k1 : ok = 1
    · rw [if_pos k1] at hRR
      subst k1
      have HRR := Lib.hid hRR
      clear hRR
      go_enter Try.func15, Try.ntmps15
      go_wp2_with fail
      with_reducible refine C1.mono ?_
      rintro e w1 ⟨rfl, hb1⟩
      obtain ⟨hB1, hX1, hO1, hY1⟩ := HREST.out w1 hb1
      have HB1 := Lib.hid hB1; have HY1 := Lib.hid hY1
      clear x0 x1 o0 o1 o2 o3 o4 hb1 C1 hB1
      have x0 := hX1.c 0 _ rfl; have x1 := hX1.c 1 _ rfl
      have o0 := hO1.c 0 _ rfl; have o1 := hO1.c 1 _ rfl; have o2 := hO1.c 2 _ rfl; have o3 := hO1.c 3 _ rfl; have o4 := hO1.c 4 _ rfl
      have hl1 := hY1.lt
      clear hX1 hO1 hY1
      go_wp2_with fail
      with_reducible refine (HMK.out _ HB1.out).mono ?_
      rintro e w2 ⟨a2, n2, c2, b2, m2, d2, rs2, rfl, hs2, hb2⟩
      rw [HRR.out] at hs2
      rw [HRR.out]
      have HB2 := Lib.hid (HB1.out.trans (hb2.mono HB1.out.size))
      have HY2 := Lib.hid (HY1.out.on hb2)
      have HS2 := Lib.hid hs2
      clear x0 x1 o0 o1 o2 o3 o4 hb2 hs2
      have y0 := HY2.out.c 0 _ rfl; have y1 := HY2.out.c 1 _ rfl; have yf0 := HY2.out.z 0 (show 0 < 2 by decide); have yf1 := HY2.out.z 1 (show 1 < 2 by decide)
      go_wp2_with fail
      refine bodyPost_ret (do_result (B := w.heap.size + 2) rfl rfl (HY2.out.set2 _ _)) rfl ?_
      exact stTo_store HS2.out HB2.out (by omega) hl1 HB1.out.size
    · rw [if_neg k1] at hRR
      have q1 : (ok == 1) = false := beq_eq_false_iff_ne.2 k1
      by_cases k2 : ok = 2
      · rw [if_pos k2] at hRR
        subst k2
        clear k1 q1
        have HRR := Lib.hid hRR
        clear hRR
        go_enter Try.func15, Try.ntmps15
        go_wp2_with fail
        with_reducible refine C1.mono ?_
        rintro e w1 ⟨rfl, hb1⟩
        obtain ⟨hB1, hX1, hO1, hY1⟩ := HREST.out w1 hb1
        have HB1 := Lib.hid hB1; have HY1 := Lib.hid hY1
        clear x0 x1 o0 o1 o2 o3 o4 hb1 C1 hB1
        have x0 := hX1.c 0 _ rfl; have x1 := hX1.c 1 _ rfl
        have o0 := hO1.c 0 _ rfl; have o1 := hO1.c 1 _ rfl; have o2 := hO1.c 2 _ rfl; have o3 := hO1.c 3 _ rfl; have o4 := hO1.c 4 _ rfl
        have hl1 := hY1.lt
        clear hX1 hO1 hY1
        go_wp2_with fail
        with_reducible refine (HDR.out _ HB1.out).mono ?_
        rintro e w2 ⟨a2, n2, c2, b2, m2, d2, rs2, rfl, hs2, hb2⟩
        rw [HRR.out] at hs2
        rw [HRR.out]
        have HB2 := Lib.hid (HB1.out.trans (hb2.mono HB1.out.size))
        have HY2 := Lib.hid (HY1.out.on hb2)
        have HS2 := Lib.hid hs2
        clear x0 x1 o0 o1 o2 o3 o4 hb2 hs2
        have y0 := HY2.out.c 0 _ rfl; have y1 := HY2.out.c 1 _ rfl; have yf0 := HY2.out.z 0 (show 0 < 2 by decide); have yf1 := HY2.out.z 1 (show 1 < 2 by decide)
        go_wp2_with fail
        refine bodyPost_ret (do_result (B := w.heap.size + 2) rfl rfl (HY2.out.set2 _ _)) rfl ?_
        exact stTo_store HS2.out HB2.out (by omega) hl1 HB1.out.size
      · rw [if_neg k2] at hRR
        have q2 : (ok == 2) = false := beq_eq_false_iff_ne.2 k2
        by_cases k3 : ok = 3
        · rw [if_pos k3] at hRR
          subst k3
          clear k1 q1 k2 q2
          have HRR := Lib.hid hRR
          clear hRR
          go_enter Try.func15, Try.ntmps15
          go_wp2_with fail
          with_reducible refine C1.mono ?_
          rintro e w1 ⟨rfl, hb1⟩
          obtain ⟨hB1, hX1, hO1, hY1⟩ := HREST.out w1 hb1
          have HB1 := Lib.hid hB1; have HY1 := Lib.hid hY1
          clear x0 x1 o0 o1 o2 o3 o4 hb1 C1 hB1
          have x0 := hX1.c 0 _ rfl; have x1 := hX1.c 1 _ rfl
          have o0 := hO1.c 0 _ rfl; have o1 := hO1.c 1 _ rfl; have o2 := hO1.c 2 _ rfl; have o3 := hO1.c 3 _ rfl; have o4 := hO1.c 4 _ rfl
          have hl1 := hY1.lt
          clear hX1 hO1 hY1
          go_wp2_with fail
          with_reducible refine (HWR.out _ HB1.out).mono ?_
          rintro e w2 ⟨a2, n2, c2, b2, m2, d2, rs2, rfl, hs2, hb2⟩
          rw [HRR.out] at hs2
          rw [HRR.out]
          have HB2 := Lib.hid (HB1.out.trans (hb2.mono HB1.out.size))
          have HY2 := Lib.hid (HY1.out.on hb2)
          have HS2 := Lib.hid hs2
          clear x0 x1 o0 o1 o2 o3 o4 hb2 hs2
          have y0 := HY2.out.c 0 _ rfl; have y1 := HY2.out.c 1 _ rfl; have yf0 := HY2.out.z 0 (show 0 < 2 by decide); have yf1 := HY2.out.z 1 (show 1 < 2 by decide)
          go_wp2_with fail
          refine bodyPost_ret (do_result (B := w.heap.size + 2) rfl rfl (HY2.out.set2 _ _)) rfl ?_
          exact stTo_store HS2.out HB2.out (by omega) hl1 HB1.out.size
        · rw [if_neg k3] at hRR
          have q3 : (ok == 3) = false := beq_eq_false_iff_ne.2 k3
          by_cases k4 : ok = 4
          · rw [if_pos k4] at hRR
            subst k4
            clear k1 q1 k2 q2 k3 q3
            have HRR := Lib.hid hRR
            clear hRR
            go_enter Try.func15, Try.ntmps15
            go_wp2_with fail
            with_reducible refine C1.mono ?_
            rintro e w1 ⟨rfl, hb1⟩
            obtain ⟨hB1, hX1, hO1, hY1⟩ := HREST.out w1 hb1
            have HB1 := Lib.hid hB1; have HY1 := Lib.hid hY1
            clear x0 x1 o0 o1 o2 o3 o4 hb1 C1 hB1
            have x0 := hX1.c 0 _ rfl; have x1 := hX1.c 1 _ rfl
            have o0 := hO1.c 0 _ rfl; have o1 := hO1.c 1 _ rfl; have o2 := hO1.c 2 _ rfl; have o3 := hO1.c 3 _ rfl; have o4 := hO1.c 4 _ rfl
            have hl1 := hY1.lt
            clear hX1 hO1 hY1
            go_wp2_with fail
            with_reducible refine (HTR.out _ HB1.out).mono ?_
            rintro e w2 ⟨a2, n2, c2, b2, m2, d2, rs2, rfl, hs2, hb2⟩
            rw [HRR.out] at hs2
            rw [HRR.out]
            have HB2 := Lib.hid (HB1.out.trans (hb2.mono HB1.out.size))
            have HY2 := Lib.hid (HY1.out.on hb2)
            have HS2 := Lib.hid hs2
            clear x0 x1 o0 o1 o2 o3 o4 hb2 hs2
            have y0 := HY2.out.c 0 _ rfl; have y1 := HY2.out.c 1 _ rfl; have yf0 := HY2.out.z 0 (show 0 < 2 by decide); have yf1 := HY2.out.z 1 (show 1 < 2 by decide)
            go_wp2_with fail
            refine bodyPost_ret (do_result (B := w.heap.size + 2) rfl rfl (HY2.out.set2 _ _)) rfl ?_
            exact stTo_store HS2.out HB2.out (by omega) hl1 HB1.out.size
          · rw [if_neg k4] at hRR
            have q4 : (ok == 4) = false := beq_eq_false_iff_ne.2 k4
            clear k1 k2 k3 k4
            have HRR := Lib.hid hRR
            clear hRR
            go_enter Try.func15, Try.ntmps15
            go_wp2_with fail
            with_reducible refine C1.mono ?_
            rintro e w1 ⟨rfl, hb1⟩
            obtain ⟨hB1, hX1, hO1, hY1⟩ := HREST.out w1 hb1
            have HB1 := Lib.hid hB1; have HY1 := Lib.hid hY1
            clear x0 x1 o0 o1 o2 o3 o4 hb1 C1 hB1
            have x0 := hX1.c 0 _ rfl; have x1 := hX1.c 1 _ rfl
            have o0 := hO1.c 0 _ rfl; have o1 := hO1.c 1 _ rfl; have o2 := hO1.c 2 _ rfl; have o3 := hO1.c 3 _ rfl; have o4 := hO1.c 4 _ rfl
            have hl1 := hY1.lt
            clear hX1 hO1 hY1
            go_wp2_with fail
            with_reducible refine (HCL.out _ HB1.out).mono ?_
            rintro e w2 ⟨a2, n2, c2, b2, m2, d2, rs2, rfl, hs2, hb2⟩
            rw [HRR.out] at hs2
            rw [HRR.out]
            have HB2 := Lib.hid (HB1.out.trans (hb2.mono HB1.out.size))
            have HY2 := Lib.hid (HY1.out.on hb2)
            have HS2 := Lib.hid hs2
            clear x0 x1 o0 o1 o2 o3 o4 hb2 hs2
            have y0 := HY2.out.c 0 _ rfl; have y1 := HY2.out.c 1 _ rfl; have yf0 := HY2.out.z 0 (show 0 < 2 by decide); have yf1 := HY2.out.z 1 (show 1 < 2 by decide)
            go_wp2_with fail
            refine bodyPost_ret (do_result (B := w.heap.size + 2) rfl rfl (HY2.out.set2 _ _)) rfl ?_
            exact stTo_store HS2.out HB2.out (by omega) hl1 HB1.out.size

end Go.Proofs.Ythccdoejnklidaa
