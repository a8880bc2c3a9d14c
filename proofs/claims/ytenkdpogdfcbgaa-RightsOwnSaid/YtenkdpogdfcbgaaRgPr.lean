/- The walk of resv.Preempt. -/
import Derived.Test.YtenkdpogdfcbgaaRgR
namespace Go.Proofs.Ytenkdpogdfcbgaa.Rs
open Go.RowKit

theorem other4 {W : World} {b : Nat} {v0 v1 v2 v3 : Value} (h : R4 W b v0 v1 v2 v3) {B : Nat} (hb : B ≠ b) (u0 u1 u2 u3 : Value) : R4 ((((W.setCell ⟨B, 0, none⟩ u0).setCell ⟨B, 1, none⟩ u1).setCell ⟨B, 2, none⟩ u2).setCell ⟨B, 3, none⟩ u3) b v0 v1 v2 v3 :=
  (((h.other _ _ hb _).other _ _ hb _).other _ _ hb _).other _ _ hb _

theorem pstep_no {r : Rg.RV} {w o : Int} {s : Rg.RV × Bool} {t : Qu.T} (h : t.2 ≠ o) : Rg.pstep r w o s t = s := by unfold Rg.pstep; rw [if_neg h]
theorem pstep_me {r : Rg.RV} {w o : Int} {s : Rg.RV × Bool} {t : Qu.T} (h : t.2 = o) (hw : t.1 = w) : Rg.pstep r w o s t = (s.1, s.2 || (!Rg.all r.kind && Rg.hasR r.regs r.kind r.holder t.1)) := by unfold Rg.pstep; rw [if_pos h, if_pos hw]
theorem pstep_out {r : Rg.RV} {w o : Int} {s : Rg.RV × Bool} {t : Qu.T} (h : t.2 = o) (hw : t.1 ≠ w) : Rg.pstep r w o s t = (Rg.out s.1 t.1, s.2 || (!Rg.all r.kind && Rg.hasR r.regs r.kind r.holder t.1)) := by unfold Rg.pstep; rw [if_pos h, if_neg hw]

set_option maxRecDepth 100000 in
set_option maxHeartbeats 32000000 in
theorem Preempt_R (g k q x y o kk : Int) (a : Option Addr) (n c : Nat) (ts : List Qu.T) (w : World) (hG : Rg.Good ⟨g, ts, k, q⟩) (hT : TSl w a n c ts) (hg : g < 1000) (hx0 : 0 ≤ x) (hx7 : x ≤ 7) (ho0 : 0 ≤ o) (ho1 : o ≤ 1000) (hkk : Rg.kindB kk = true) :
    Calls Try.prog 144 #[.agg #[.int .i64 g, .slice a n c, .int .i64 k, .int .i64 q], .int .i64 x, .int .i64 y, .int .i64 o, .int .i64 kk] w (RTo w (rz (Rg.preR ⟨g, ts, k, q⟩ x o kk) (Rg.preE ⟨g, ts, k, q⟩ x y o)) (Rg.preE ⟨g, ts, k, q⟩ x y o)) := by
  have hg0 : 0 ≤ g := hG.gen0
  have hn8 : n ≤ 8 := by have := hG.len; rw [hT.len] at this; exact this
  have HX : Hid (∀ T o o', R4 (((w.alloc (.cells #[.int .i64 g, .slice a n c, .int .i64 k, .int .i64 q] T)).alloc o).alloc o') w.heap.size (.int .i64 g) (.slice a n c) (.int .i64 k) (.int .i64 q)) := Lib.hid fun T o o' => ((r4_new w T _ _ _ _).alloc _).alloc _
  have HC : Hid (∀ o1 T o2, ((((w.alloc o1).alloc (.cells #[.int .i64 o] T)).alloc o2).cell? ⟨w.heap.size + 1, 0, none⟩ = some (.int .i64 o))) := Lib.hid fun o1 T o2 => by
    have h1 := cell_new (w.alloc o1) (T := T) (xs := #[.int .i64 o]) (k := 0) rfl
    rw [World.size_alloc] at h1
    rw [World.cell?_alloc_past _ _ _ (by show w.heap.size + 1 < _; rw [World.size_alloc, World.size_alloc]; omega)]
    exact h1
  have HY : Hid (∀ o o' T, R4 (((w.alloc o).alloc o').alloc (.cells #[.int .i64 0, .slice none 0 0, .int .i64 0, .int .i64 0] T)) (w.heap.size + 2) (.int .i64 0) (.slice none 0 0) (.int .i64 0) (.int .i64 0)) := Lib.hid fun o o' T => by
    have := r4_new ((w.alloc o).alloc o') T (.int .i64 0) (.slice none 0 0) (.int .i64 0) (.int .i64 0)
    rw [World.size_alloc, World.size_alloc] at this
    exact this
  have HB : Hid (∀ o o' o'', Below w.heap.size w (((w.alloc o).alloc o').alloc o'')) := Lib.hid fun o o' o'' => (((Below.refl _ w).alloc (Nat.le_refl _) _).alloc (by rw [World.size_alloc]; omega) _).alloc (by rw [World.size_alloc, World.size_alloc]; omega) _
  have C1 := fun o o' o'' => keyed_R g k q x y a n c ts (((w.alloc o).alloc o').alloc o'') hG (hT.keep (HB.out o o' o'')) hx0 hx7
  have HH : Hid (∀ w' p, Below w.heap.size w w' → Calls Try.prog 185 #[.agg #[.int .i64 g, .slice a n c, .int .i64 k, .int .i64 q], .int .i64 p] w' fun e w'' => e = .returned (.bool (Rg.hasR ts k q p)) ∧ Below w'.heap.size w' w'') := Lib.hid fun w' p hb => Has_R g k q p a n c ts _ rfl w' (hT.keep hb) (by omega)
  have HN : Hid (∀ w', Below w.heap.size w w' → Calls Try.prog 190 #[.agg #[.int .i64 g, .slice a n c, .int .i64 k, .int .i64 q], .int .i64 1] w' fun e w'' => ∃ a' c', e = .returned (.agg #[.int .i64 (g + 1), .slice a' n c', .int .i64 k, .int .i64 q]) ∧ w''.ownsRow w'.heap.size 109 2 (.slice a' n c') n (tv ts) ∧ Below w'.heap.size w' w'') := Lib.hid fun w' hb =>
    next_R g 1 k q a n c ts w' (hT.keep hb) (by omega) hg0 (by omega) (by omega) (by omega)
  have HP : Hid (∀ w', Below w.heap.size w w' → w.heap.size + 1 < w'.heap.size → w'.cell? ⟨w.heap.size + 1, 0, none⟩ = some (.int .i64 o) → Calls Try.prog 198 #[.slice a n c, .func (.func 199) #[] #[.pointer (some ⟨w.heap.size + 1, 0, none⟩)]] w' fun e w'' => e = .returned (.bool (ts.any (Rg.kg o))) ∧ Below w'.heap.size w' w'') := Lib.hid fun w' hb hs hc =>
    ContainsFunc_R a c n ts _ _ _ _ w' (by omega) hT.len eg_pre (hT.keep hb).at_ (pred_pre w' (w.heap.size + 1) o hs hc) rfl
  have K1 := fun w => kind_R kk true hkk w
  have A1 := fun w => all_R k _ rfl w
  have A2 := fun w => all_R kk _ rfl w
  have HT := Lib.hid hT
  have HG := Lib.hid hG
  obtain ⟨E, hE⟩ : ∃ E, Rg.preE ⟨g, ts, k, q⟩ x y o = E := ⟨_, rfl⟩
  have HE : Hid (E = if Rg.kd ts x y = false then 9 else if o = 0 then 1 else if ts.any (Rg.kg o) = false then 4 else 0) := Lib.hid (by rw [← hE]; rfl)
  rw [hE]
  have HKE := Lib.hid (keyE_kd ts x y)
  clear hT hG hE
  go_enter Try.func144, Try.ntmps144
  go_wp2_with fail
  with_reducible refine (C1 _ _ _).mono ?_
  rintro e w1 ⟨rfl, hb1⟩
  have HB1 := Lib.hid ((HB.out _ _ _).trans (hb1.mono (HB.out _ _ _).size))
  have HX1 := Lib.hid ((HX.out 104 _ _).on hb1)
  have HY1 := Lib.hid ((HY.out _ _ 104).on hb1)
  have HC1 : Hid (w1.cell? ⟨w.heap.size + 1, 0, none⟩ = some (.int .i64 o)) := Lib.hid (by rw [hb1.cell (p := ⟨w.heap.size + 1, 0, none⟩) (by show w.heap.size + 1 < _; rw [World.size_alloc, World.size_alloc, World.size_alloc]; omega)]; exact HC.out _ 3 _)
  obtain ⟨hl, c0, c1, c2, c3, z0, z1, z2, z3⟩ := HX1.out
  obtain ⟨hm, d0, d1, d2, d3, y0, y1, y2, y3⟩ := HY1.out
  have cC := HC1.out
  clear hb1 C1
  rcases HKE.out with ⟨h1, h2⟩ | ⟨h1, h2⟩
  · rw [h2]
    obtain rfl : E = 9 := by rw [HE.out, if_pos h1]
    clear h1 h2 HE HKE
    go_wp2_with fail
    refine bodyPost_ret (res_cell2 (p := 10) (q := 11) (B := w.heap.size + 2) rfl rfl rfl (HY1.out.set _ _ _ _)) rfl ?_
    exact rto_err (by decide) (below_set4 HB1.out (by omega) _ _ _ _)
  · rw [h2]
    rw [h1, if_neg (by decide)] at HE
    have HKD := Lib.hid h1
    clear h1 h2 HKE
    by_cases h0 : o = 0
    · subst h0
      obtain rfl : E = 1 := by rw [HE.out, if_pos rfl]
      clear HE
      go_wp2_with fail
      with_reducible refine (K1 _).mono ?_
      rintro e w2 ⟨rfl, rfl⟩
      go_wp2_with fail
      refine bodyPost_ret (res_cell2 (p := 10) (q := 11) (B := w.heap.size + 2) rfl rfl rfl (HY1.out.set _ _ _ _)) rfl ?_
      exact rto_err (by decide) (below_set4 HB1.out (by omega) _ _ _ _)
    · rw [if_neg h0] at HE
      have ho2 : 1 ≤ o := by omega
      have P1 := HP.out w1 HB1.out (by omega) HC1.out
      clear h0
      go_wp2_with fail
      with_reducible refine (K1 _).mono ?_
      rintro e w1 ⟨rfl, rfl⟩
      go_wp2_with fail
      with_reducible refine P1.mono ?_
      rintro e w2 ⟨rfl, hb2⟩
      have HB2 := Lib.hid (HB1.out.trans (hb2.mono HB1.out.size))
      have HX2 := Lib.hid (HX1.out.on hb2)
      have HY2 := Lib.hid (HY1.out.on hb2)
      have HC2 : Hid (w2.cell? ⟨w.heap.size + 1, 0, none⟩ = some (.int .i64 o)) := Lib.hid (by rw [hb2.cell (p := ⟨w.heap.size + 1, 0, none⟩) (by show w.heap.size + 1 < w1.heap.size; omega)]; exact HC1.out)
      have N1 := HN.out w2 HB2.out
      clear cC hl c0 c1 c2 c3 z0 z1 z2 z3 hm d0 d1 d2 d3 y0 y1 y2 y3 hb2 P1 HX1 HY1 HC1
      obtain ⟨hl, c0, c1, c2, c3, z0, z1, z2, z3⟩ := HX2.out
      obtain ⟨hm, d0, d1, d2, d3, y0, y1, y2, y3⟩ := HY2.out
      cases hany : ts.any (Rg.kg o) with
      | false =>
        obtain rfl : E = 4 := by rw [HE.out, if_pos hany]
        clear HE hany N1
        go_wp2_with fail
        refine bodyPost_ret (res_cell2 (p := 10) (q := 11) (B := w.heap.size + 2) rfl rfl rfl (HY2.out.set _ _ _ _)) rfl ?_
        exact rto_err (by decide) (below_set4 HB2.out (by omega) _ _ _ _)
      | true =>
        obtain rfl : E = 0 := by rw [HE.out, if_neg (by rw [hany]; decide)]
        clear HE hany HB1
        go_wp2_with fail
        with_reducible refine N1.mono ?_
        rintro e w3 ⟨a', c', rfl, ho3, hb3⟩
        have HB3 := Lib.hid (HB2.out.trans (hb3.mono HB2.out.size))
        have HO3 := Lib.hid ho3
        have HX3 := Lib.hid (HX2.out.on hb3)
        have HY3 := Lib.hid (HY2.out.on hb3)
        have HC3 : Hid (w3.cell? ⟨w.heap.size + 1, 0, none⟩ = some (.int .i64 o)) := Lib.hid (by rw [hb3.cell (p := ⟨w.heap.size + 1, 0, none⟩) (by show w.heap.size + 1 < w2.heap.size; omega)]; exact HC2.out)
        have hs3 := HB3.out.size
        have hs2 := HB2.out.size
        have hs23 := hb3.size
        have hm0 := HY2.out.lt
        have hBX1 : w.heap.size + 2 < w3.heap.size := by omega
        have HNE : Hid (∀ m k, (Value.slice a' m c').ownBlock = some k → w.heap.size + 2 < k ∧ k < w3.heap.size ∧ w2.heap.size ≤ k) := Lib.hid fun m j hj => by
          have h1 := row_base ho3 j (by cases a' <;> exact hj)
          have h2 := own_block_lt ho3 j (by cases a' <;> exact hj)
          omega
        have HZ : Hid (∀ T, R4 (w3.alloc (.cells #[.int .i64 (g + 1), .slice a' n c', .int .i64 k, .int .i64 q] T)) w3.heap.size (.int .i64 (g + 1)) (.slice a' n c') (.int .i64 k) (.int .i64 q)) := Lib.hid fun T => r4_new w3 T _ _ _ _
        have hwB : w.heap.size ≤ w3.heap.size := by omega
        clear c0 c1 c2 c3 z0 z1 z2 z3 hl hm d0 d1 d2 d3 y0 y1 y2 y3 ho3 hb3 N1
        clear HX2 HY2 HC2
        obtain ⟨hl, c0, c1, c2, c3, z0, z1, z2, z3⟩ := HX3.out
        go_wp2_with fail
        go_loopw [14, 52] (fun v14 v52 wr => ∃ (j m : Nat) (gg kx hh : Int) (rg : List Qu.T) (tk : Bool), j ≤ n ∧ v52 = .int .i64 j ∧ v14 = .bool tk ∧ Hid (Rg.ploop ⟨g, ts, k, q⟩ x o (ts.take j) = (⟨gg, rg, kx, hh⟩, tk)) ∧
            Hid (R4 wr w3.heap.size (.int .i64 gg) (.slice a' m c') (.int .i64 kx) (.int .i64 hh)) ∧ Hid (wr.ownsRow w2.heap.size 109 2 (.slice a' m c') m (tv rg)) ∧
            Hid (R4 wr w.heap.size (.int .i64 g) (.slice a n c) (.int .i64 k) (.int .i64 q)) ∧ Hid (wr.cell? ⟨w.heap.size + 1, 0, none⟩ = some (.int .i64 o)) ∧ Hid (R4 wr (w.heap.size + 2) (.int .i64 0) (.slice none 0 0) (.int .i64 0) (.int .i64 0)) ∧ Hid (Below w.heap.size w wr)) (fun _ v52 _ => n - (intOf v52).toNat)
        case atStart =>
          refine ⟨0, n, g + 1, k, q, ts, false, Nat.zero_le _, rfl, rfl, Lib.hid rfl, HZ.out _, Lib.hid (HO3.out.alloc _), Lib.hid (HX3.out.alloc _), Lib.hid ?_, Lib.hid (HY3.out.alloc _), Lib.hid (HB3.out.alloc hs3 _)⟩
          rw [World.cell?_alloc_past _ _ _ (by show w.heap.size + 1 < w3.heap.size; omega)]
          exact HC3.out
        case round =>
          obtain ⟨j, m, gg, kx, hh, rg, tk, hj, rfl, rfl, HS, HZr, HOr, HXr, HCr, HYr, HBr⟩ := hrel
          by_cases hlt : j < n
          · have hk' : j < ts.length := by rw [HT.out.len]; exact hlt
            have hne : ts ≠ [] := by rintro rfl; simp at hk'
            obtain ⟨b, u, rfl, hb, hc⟩ := (HT.out.keep HBr.out).at_ hne
            obtain ⟨e1, e2⟩ := hc j ts[j] (List.getElem?_eq_getElem hk')
            have HSN : Hid (Rg.ploop ⟨g, ts, k, q⟩ x o (ts.take (j + 1)) = Rg.pstep ⟨g, ts, k, q⟩ x o (⟨gg, rg, kx, hh⟩, tk) (ts[j].1, ts[j].2)) := Lib.hid (by rw [List.take_succ_eq_append_getElem hk', Rg.ploop_snoc, HS.out])
            have hm8 : m ≤ 8 := by
              have h1 := (Rg.ploop_inv HG.out hg o ((Rg.kd_iff HG.out.inc).1 HKD.out) (ts.take j)).1
              rw [HS.out] at h1
              have h2 := h1.len
              have h3 := HOr.out.1
              rw [tv_length] at h3
              have h4 : rg.length ≤ 8 := h2
              omega
            clear hc hne
            have HPB : Hid (∀ T, (wr.alloc (.cells #[.int .i64 ts[j].1, .int .i64 ts[j].2] T)).cell? ⟨wr.heap.size, 0, none⟩ = some (.int .i64 ts[j].1) ∧ (wr.alloc (.cells #[.int .i64 ts[j].1, .int .i64 ts[j].2] T)).cell? ⟨wr.heap.size, 1, none⟩ = some (.int .i64 ts[j].2)) := Lib.hid fun T => cells_two wr T _ _
            generalize ts[j].1 = p at *
            generalize ts[j].2 = z at *
            obtain ⟨hl, c0, c1, c2, c3, z0, z1, z2, z3⟩ := HXr.out
            have hlz := HZr.out.lt
            have cC := HCr.out
            have hsr := HBr.out.size
            by_cases hzo : z = o
            · subst hzo
              obtain ⟨g1, g2⟩ := HPB.out 109
              have HXA := Lib.hid (HXr.out.alloc (.cells #[.int .i64 p, .int .i64 z] 109))
              have HYA := Lib.hid (HYr.out.alloc (.cells #[.int .i64 p, .int .i64 z] 109))
              have HZA := Lib.hid (HZr.out.alloc (.cells #[.int .i64 p, .int .i64 z] 109))
              have HCA : Hid ((wr.alloc (.cells #[.int .i64 p, .int .i64 z] 109)).cell? ⟨w.heap.size + 1, 0, none⟩ = some (.int .i64 z)) := Lib.hid (by
                rw [World.cell?_alloc_past _ _ _ (by show w.heap.size + 1 < wr.heap.size; omega)]
                exact cC)
              have HBA := Lib.hid (HBr.out.alloc hsr (.cells #[.int .i64 p, .int .i64 z] 109))
              have HOA := Lib.hid (HOr.out.alloc (.cells #[.int .i64 p, .int .i64 z] 109))
              have H1 := HH.out _ p HBA.out
              have gC := HCA.out
              clear hl c0 c1 c2 c3 z0 z1 z2 z3 cC
              obtain ⟨hl, c0, c1, c2, c3, z0, z1, z2, z3⟩ := HXA.out
              cases tk with
              | true =>
                by_cases hp : p = x
                · have HR : Hid (Rg.ploop ⟨g, ts, k, q⟩ x z (ts.take (j + 1)) = (⟨gg, rg, kx, hh⟩, true)) := Lib.hid (by
                    rw [HSN.out, pstep_me (t := (p, z)) (o := z) rfl hp]
                    rfl)
                  have ep : (p != x) = false := by rw [hp]; simp
                  clear HSN hp
                  go_wp2_with fail
                  go_roundw
                  case rel => exact ⟨j + 1, m, gg, kx, hh, rg, true, hlt, by go_num, rfl, HR, HZA, HOA, HXA, HCA, HYA, HBA⟩
                  case measure => simp [intOf]; omega
                · have HE1 : Hid (Rg.ploop ⟨g, ts, k, q⟩ x z (ts.take (j + 1)) = (⟨gg, Rg.cut rg p, if Rg.ends rg kx hh p = true then 0 else kx, if Rg.ends rg kx hh p = true then 0 else hh⟩, true)) := Lib.hid (by
                    rw [HSN.out, pstep_out (t := (p, z)) (o := z) rfl hp, out_eq]
                    rfl)
                  have K4 := out_R gg kx hh p a' m c' w2.heap.size rg _ HOA.out (by omega)
                  generalize (if Rg.ends rg kx hh p = true then 0 else kx) = k' at *
                  generalize (if Rg.ends rg kx hh p = true then 0 else hh) = q' at *
                  have ep : (p != x) = true := bne_iff_ne.2 hp
                  clear HSN hp
                  obtain ⟨hlx, b0, b1, b2, b3, x0, x1, x2, x3⟩ := HZA.out
                  go_wp2_with fail
                  with_reducible refine K4.mono ?_
                  rintro e w5 ⟨m', rfl, hm5, hO5, hg5⟩
                  have HNr := Lib.hid (HNE.out m)
                  have HB5 := Lib.hid (own_grown HOA.out HBA.out hs2 HBA.out.size hg5)
                  have HZ5 := Lib.hid (HZA.out.grown hg5 (fun e => by have := HNr.out _ e.symm; omega))
                  have HX5 := Lib.hid (HXA.out.grown hg5 (fun e => by have := HNr.out _ e.symm; omega))
                  have HY5 := Lib.hid (HYA.out.grown hg5 (fun e => by have := HNr.out _ e.symm; omega))
                  have HC5 : Hid (w5.cell? ⟨w.heap.size + 1, 0, none⟩ = some (.int .i64 z)) := Lib.hid (hg5.cell HCA.out (fun e => by have := HNr.out (w.heap.size + 1) e.symm; omega))
                  have HO5 := Lib.hid hO5
                  clear hlx b0 b1 b2 b3 x0 x1 x2 x3 hl c0 c1 c2 c3 z0 z1 z2 z3 gC g1 g2 hO5 hg5 hm5 K4
                  obtain ⟨hlx, b0, b1, b2, b3, x0, x1, x2, x3⟩ := HZ5.out
                  go_wp2_with fail
                  go_roundw
                  case rel =>
                    refine ⟨j + 1, m', gg, k', q', Rg.cut rg p, true, hlt, by go_num, rfl, HE1, Lib.hid (HZ5.out.set _ _ _ _), Lib.hid (own_set4 HO5.out (fun j hj => by have := HNE.out m' j hj; omega) _ _ _ _), Lib.hid (other4 HX5.out (by omega) _ _ _ _), Lib.hid ?_, Lib.hid (other4 HY5.out (by omega) _ _ _ _), Lib.hid (below_set4 HB5.out hwB _ _ _ _)⟩
                    rw [World.cell?_setCell_other _ _ _ _ (by simp only [ne_eq, Addr.mk.injEq, not_and]; omega), World.cell?_setCell_other _ _ _ _ (by simp only [ne_eq, Addr.mk.injEq, not_and]; omega), World.cell?_setCell_other _ _ _ _ (by simp only [ne_eq, Addr.mk.injEq, not_and]; omega), World.cell?_setCell_other _ _ _ _ (by simp only [ne_eq, Addr.mk.injEq, not_and]; omega)]
                    exact HC5.out
                  case measure => simp [intOf]; omega
              | false =>
                cases ha : Rg.all k with
                | true =>
                  rw [ha] at A1
                  have HA := Lib.hid ha
                  clear ha
                  by_cases hp : p = x
                  · have HR : Hid (Rg.ploop ⟨g, ts, k, q⟩ x z (ts.take (j + 1)) = (⟨gg, rg, kx, hh⟩, false)) := Lib.hid (by
                      rw [HSN.out, pstep_me (t := (p, z)) (o := z) rfl hp]
                      simp [HA.out])
                    have ep : (p != x) = false := by rw [hp]; simp
                    clear HSN hp
                    go_wp2_with fail
                    with_reducible refine (A1 _).mono ?_
                    rintro e w4 ⟨rfl, rfl⟩
                    go_wp2_with fail
                    go_roundw
                    case rel => exact ⟨j + 1, m, gg, kx, hh, rg, false, hlt, by go_num, rfl, HR, HZA, HOA, HXA, HCA, HYA, HBA⟩
                    case measure => simp [intOf]; omega
                  · have HE1 : Hid (Rg.ploop ⟨g, ts, k, q⟩ x z (ts.take (j + 1)) = (⟨gg, Rg.cut rg p, if Rg.ends rg kx hh p = true then 0 else kx, if Rg.ends rg kx hh p = true then 0 else hh⟩, false)) := Lib.hid (by
                      rw [HSN.out, pstep_out (t := (p, z)) (o := z) rfl hp, out_eq]
                      simp [HA.out])
                    have K4 := out_R gg kx hh p a' m c' w2.heap.size rg _ HOA.out (by omega)
                    generalize (if Rg.ends rg kx hh p = true then 0 else kx) = k' at *
                    generalize (if Rg.ends rg kx hh p = true then 0 else hh) = q' at *
                    have ep : (p != x) = true := bne_iff_ne.2 hp
                    clear HSN hp
                    obtain ⟨hlx, b0, b1, b2, b3, x0, x1, x2, x3⟩ := HZA.out
                    go_wp2_with fail
                    with_reducible refine (A1 _).mono ?_
                    rintro e w4 ⟨rfl, rfl⟩
                    go_wp2_with fail
                    with_reducible refine K4.mono ?_
                    rintro e w5 ⟨m', rfl, hm5, hO5, hg5⟩
                    have HNr := Lib.hid (HNE.out m)
                    have HB5 := Lib.hid (own_grown HOA.out HBA.out hs2 HBA.out.size hg5)
                    have HZ5 := Lib.hid (HZA.out.grown hg5 (fun e => by have := HNr.out _ e.symm; omega))
                    have HX5 := Lib.hid (HXA.out.grown hg5 (fun e => by have := HNr.out _ e.symm; omega))
                    have HY5 := Lib.hid (HYA.out.grown hg5 (fun e => by have := HNr.out _ e.symm; omega))
                    have HC5 : Hid (w5.cell? ⟨w.heap.size + 1, 0, none⟩ = some (.int .i64 z)) := Lib.hid (hg5.cell HCA.out (fun e => by have := HNr.out (w.heap.size + 1) e.symm; omega))
                    have HO5 := Lib.hid hO5
                    clear hlx b0 b1 b2 b3 x0 x1 x2 x3 hl c0 c1 c2 c3 z0 z1 z2 z3 gC g1 g2 hO5 hg5 hm5 K4
                    obtain ⟨hlx, b0, b1, b2, b3, x0, x1, x2, x3⟩ := HZ5.out
                    go_wp2_with fail
                    go_roundw
                    case rel =>
                      refine ⟨j + 1, m', gg, k', q', Rg.cut rg p, false, hlt, by go_num, rfl, HE1, Lib.hid (HZ5.out.set _ _ _ _), Lib.hid (own_set4 HO5.out (fun j hj => by have := HNE.out m' j hj; omega) _ _ _ _), Lib.hid (other4 HX5.out (by omega) _ _ _ _), Lib.hid ?_, Lib.hid (other4 HY5.out (by omega) _ _ _ _), Lib.hid (below_set4 HB5.out hwB _ _ _ _)⟩
                      rw [World.cell?_setCell_other _ _ _ _ (by simp only [ne_eq, Addr.mk.injEq, not_and]; omega), World.cell?_setCell_other _ _ _ _ (by simp only [ne_eq, Addr.mk.injEq, not_and]; omega), World.cell?_setCell_other _ _ _ _ (by simp only [ne_eq, Addr.mk.injEq, not_and]; omega), World.cell?_setCell_other _ _ _ _ (by simp only [ne_eq, Addr.mk.injEq, not_and]; omega)]
                      exact HC5.out
                    case measure => simp [intOf]; omega
                | false =>
                  rw [ha] at A1
                  have HA := Lib.hid ha
                  obtain ⟨bh, hbh⟩ : ∃ bh, Rg.hasR ts k q p = bh := ⟨_, rfl⟩
                  rw [hbh] at H1
                  have HBH := Lib.hid hbh
                  clear ha hbh
                  go_wp2_with fail
                  with_reducible refine (A1 _).mono ?_
                  rintro e w4 ⟨rfl, rfl⟩
                  go_wp2_with fail
                  with_reducible refine H1.mono ?_
                  rintro e w4 ⟨rfl, hb4⟩
                  have HX4 := Lib.hid (HXA.out.on hb4)
                  have HY4 := Lib.hid (HYA.out.on hb4)
                  have HZ4 := Lib.hid (HZA.out.on hb4)
                  have HC4 : Hid (w4.cell? ⟨w.heap.size + 1, 0, none⟩ = some (.int .i64 z)) := Lib.hid (by rw [hb4.cell (p := ⟨w.heap.size + 1, 0, none⟩) (by show w.heap.size + 1 < _; rw [World.size_alloc]; omega)]; exact HCA.out)
                  have HB4 := Lib.hid (HBA.out.trans (hb4.mono HBA.out.size))
                  have HO4 := Lib.hid (own_keep HOA.out hb4)
                  have G1 : w4.cell? ⟨wr.heap.size, 0, none⟩ = some (.int .i64 p) := by rw [hb4.cell (p := ⟨wr.heap.size, 0, none⟩) (by show wr.heap.size < _; rw [World.size_alloc]; omega)]; exact g1
                  have G2 : w4.cell? ⟨wr.heap.size, 1, none⟩ = some (.int .i64 z) := by rw [hb4.cell (p := ⟨wr.heap.size, 1, none⟩) (by show wr.heap.size < _; rw [World.size_alloc]; omega)]; exact g2
                  clear g1 g2 hl c0 c1 c2 c3 z0 z1 z2 z3 gC hb4 H1 HXA HYA HZA HCA HBA HOA
                  obtain ⟨hl, c0, c1, c2, c3, z0, z1, z2, z3⟩ := HX4.out
                  have cC := HC4.out
                  by_cases hp : p = x
                  · have HR : Hid (Rg.ploop ⟨g, ts, k, q⟩ x z (ts.take (j + 1)) = (⟨gg, rg, kx, hh⟩, bh)) := Lib.hid (by
                      rw [HSN.out, pstep_me (t := (p, z)) (o := z) rfl hp]
                      simp [HA.out, HBH.out])
                    have ep : (p != x) = false := by rw [hp]; simp
                    clear HSN hp
                    go_wp2_with fail
                    go_roundw
                    case rel => exact ⟨j + 1, m, gg, kx, hh, rg, bh, hlt, by go_num, rfl, HR, HZ4, HO4, HX4, HC4, HY4, HB4⟩
                    case measure => simp [intOf]; omega
                  · have HE1 : Hid (Rg.ploop ⟨g, ts, k, q⟩ x z (ts.take (j + 1)) = (⟨gg, Rg.cut rg p, if Rg.ends rg kx hh p = true then 0 else kx, if Rg.ends rg kx hh p = true then 0 else hh⟩, bh)) := Lib.hid (by
                      rw [HSN.out, pstep_out (t := (p, z)) (o := z) rfl hp, out_eq]
                      simp [HA.out, HBH.out])
                    have K4 := out_R gg kx hh p a' m c' w2.heap.size rg _ HO4.out (by omega)
                    generalize (if Rg.ends rg kx hh p = true then 0 else kx) = k' at *
                    generalize (if Rg.ends rg kx hh p = true then 0 else hh) = q' at *
                    have ep : (p != x) = true := bne_iff_ne.2 hp
                    clear HSN hp
                    obtain ⟨hlx, b0, b1, b2, b3, x0, x1, x2, x3⟩ := HZ4.out
                    go_wp2_with fail
                    with_reducible refine K4.mono ?_
                    rintro e w5 ⟨m', rfl, hm5, hO5, hg5⟩
                    have HNr := Lib.hid (HNE.out m)
                    have HB5 := Lib.hid (own_grown HO4.out HB4.out hs2 HB4.out.size hg5)
                    have HZ5 := Lib.hid (HZ4.out.grown hg5 (fun e => by have := HNr.out _ e.symm; omega))
                    have HX5 := Lib.hid (HX4.out.grown hg5 (fun e => by have := HNr.out _ e.symm; omega))
                    have HY5 := Lib.hid (HY4.out.grown hg5 (fun e => by have := HNr.out _ e.symm; omega))
                    have HC5 : Hid (w5.cell? ⟨w.heap.size + 1, 0, none⟩ = some (.int .i64 z)) := Lib.hid (hg5.cell HC4.out (fun e => by have := HNr.out (w.heap.size + 1) e.symm; omega))
                    have HO5 := Lib.hid hO5
                    clear hlx b0 b1 b2 b3 x0 x1 x2 x3 hl c0 c1 c2 c3 z0 z1 z2 z3 cC G1 G2 hO5 hg5 hm5 K4
                    obtain ⟨hlx, b0, b1, b2, b3, x0, x1, x2, x3⟩ := HZ5.out
                    go_wp2_with fail
                    go_roundw
                    case rel =>
                      refine ⟨j + 1, m', gg, k', q', Rg.cut rg p, bh, hlt, by go_num, rfl, HE1, Lib.hid (HZ5.out.set _ _ _ _), Lib.hid (own_set4 HO5.out (fun j hj => by have := HNE.out m' j hj; omega) _ _ _ _), Lib.hid (other4 HX5.out (by omega) _ _ _ _), Lib.hid ?_, Lib.hid (other4 HY5.out (by omega) _ _ _ _), Lib.hid (below_set4 HB5.out hwB _ _ _ _)⟩
                      rw [World.cell?_setCell_other _ _ _ _ (by simp only [ne_eq, Addr.mk.injEq, not_and]; omega), World.cell?_setCell_other _ _ _ _ (by simp only [ne_eq, Addr.mk.injEq, not_and]; omega), World.cell?_setCell_other _ _ _ _ (by simp only [ne_eq, Addr.mk.injEq, not_and]; omega), World.cell?_setCell_other _ _ _ _ (by simp only [ne_eq, Addr.mk.injEq, not_and]; omega)]
                      exact HC5.out
                    case measure => simp [intOf]; omega
            · have ez : (z != o) = true := bne_iff_ne.2 hzo
              have HR : Hid (Rg.ploop ⟨g, ts, k, q⟩ x o (ts.take (j + 1)) = (⟨gg, rg, kx, hh⟩, tk)) := Lib.hid (by rw [HSN.out, pstep_no hzo])
              have gC : (wr.alloc (.cells #[.int .i64 p, .int .i64 z] 109)).cell? ⟨w.heap.size + 1, 0, none⟩ = some (.int .i64 o) := by
                rw [World.cell?_alloc_past _ _ _ (by show w.heap.size + 1 < wr.heap.size; omega)]
                exact cC
              have HCC := Lib.hid gC
              clear hzo cC
              go_wp2_with fail
              go_roundw
              case rel => exact ⟨j + 1, m, gg, kx, hh, rg, tk, hlt, by go_num, rfl, HR, Lib.hid (HZr.out.alloc _), Lib.hid (HOr.out.alloc _), Lib.hid (HXr.out.alloc _), HCC, Lib.hid (HYr.out.alloc _), Lib.hid (HBr.out.alloc hsr _)⟩
              case measure => simp [intOf]; omega
          · obtain rfl : j = n := by omega
            have HSN : Hid (Rg.ploop ⟨g, ts, k, q⟩ x o ts = (⟨gg, rg, kx, hh⟩, tk)) := Lib.hid (by rw [← HS.out, List.take_of_length_le (by rw [HT.out.len]; exact Nat.le_refl _)])
            obtain ⟨hl, c0, c1, c2, c3, z0, z1, z2, z3⟩ := HZr.out
            obtain ⟨hm, d0, d1, d2, d3, y0, y1, y2, y3⟩ := HYr.out
            have HOL := Lib.hid (own_low HOr.out hs2)
            have HNE4 : Hid (∀ k, (Value.slice a' m c').ownBlock = some k → w.heap.size + 2 ≠ k ∧ w3.heap.size ≠ k) := Lib.hid fun j hj => by have := HNE.out m j hj; omega
            have HF1 := free_R gg kx hh a' m c' wr
            cases tk with
            | false =>
              have HR : Hid (Rg.preR ⟨g, ts, k, q⟩ x o kk = ⟨gg, rg, kx, hh⟩) := Lib.hid (by unfold Rg.preR; rw [HSN.out]; rfl)
              clear HSN HS HF1
              go_wp2_with fail
              refine bodyPost_ret (res_cell2 (p := 10) (q := 11) (B := w.heap.size + 2) rfl rfl rfl (HYr.out.set _ _ _ _)) rfl ?_
              rw [HR.out]
              exact rto_ok (r := ⟨gg, rg, kx, hh⟩) (own_set4 HOL.out (fun j hj => (HNE4.out j hj).1) _ _ _ _) (below_set4 HBr.out (by omega) _ _ _ _)
            | true =>
              have HR : Hid (Rg.preR ⟨g, ts, k, q⟩ x o kk = ⟨gg, rg, kk, if Rg.all kk = true then 0 else x⟩) := Lib.hid (by unfold Rg.preR; rw [HSN.out]; rfl)
              clear HSN HS
              go_wp2_with fail
              with_reducible refine HF1.mono ?_
              rintro e w4 ⟨rfl, hb4⟩
              have HY4 := Lib.hid (HYr.out.on hb4)
              have HZ4 := Lib.hid (HZr.out.on hb4)
              have HB4 := Lib.hid (HBr.out.trans (hb4.mono HBr.out.size))
              have HO4 := Lib.hid (own_keep HOL.out hb4)
              clear hl c0 c1 c2 c3 z0 z1 z2 z3 hm d0 d1 d2 d3 y0 y1 y2 y3 hb4 HF1
              obtain ⟨hl, c0, c1, c2, c3, z0, z1, z2, z3⟩ := HZ4.out
              obtain ⟨W5, hW5⟩ : ∃ W5, ((((w4.setCell ⟨w3.heap.size, 0, none⟩ (.int .i64 gg)).setCell ⟨w3.heap.size, 1, none⟩ (.slice a' m c')).setCell ⟨w3.heap.size, 2, none⟩ (.int .i64 0)).setCell ⟨w3.heap.size, 3, none⟩ (.int .i64 0)) = W5 := ⟨_, rfl⟩
              have HZ5 : Hid (R4 W5 w3.heap.size (.int .i64 gg) (.slice a' m c') (.int .i64 0) (.int .i64 0)) := Lib.hid (by rw [← hW5]; exact HZ4.out.set _ _ _ _)
              have HY5 : Hid (R4 W5 (w.heap.size + 2) (.int .i64 0) (.slice none 0 0) (.int .i64 0) (.int .i64 0)) := Lib.hid (by rw [← hW5]; exact other4 HY4.out (by omega) _ _ _ _)
              have HB5 : Hid (Below w.heap.size w W5) := Lib.hid (by rw [← hW5]; exact below_set4 HB4.out hwB _ _ _ _)
              have HO5 : Hid (W5.ownsRow w.heap.size 109 2 (.slice a' m c') m (tv rg)) := Lib.hid (by rw [← hW5]; exact own_set4 HO4.out (fun j hj => (HNE4.out j hj).2) _ _ _ _)
              obtain ⟨hl5, C0, C1, C2, C3, Z0, Z1, Z2, Z3⟩ := HZ5.out
              obtain ⟨hm5, D0, D1, D2, D3, Y0, Y1, Y2, Y3⟩ := HY5.out
              clear HZ4 HY4 HB4 HO4 HZr HYr HBr HOL HOr HXr HCr
              cases ha : Rg.all kk with
              | true =>
                rw [ha] at A2 HR
                rw [if_pos rfl] at HR
                clear ha
                go_wp2_with fail
                with_reducible refine (A2 _).mono ?_
                rintro e w5 ⟨rfl, rfl⟩
                go_wp2_with fail
                refine bodyPost_ret (res_cell2 (p := 10) (q := 11) (B := w.heap.size + 2) rfl rfl rfl ((HY5.out.other w3.heap.size 2 (by omega) _).set _ _ _ _)) rfl ?_
                rw [HR.out]
                exact rto_ok (r := ⟨gg, rg, kk, 0⟩) (own_set4 (own_set_other HO5.out (fun j hj => (HNE4.out j hj).2) _ _) (fun j hj => (HNE4.out j hj).1) _ _ _ _) (below_set4 (HB5.out.setCell hwB _) (by omega) _ _ _ _)
              | false =>
                rw [ha] at A2 HR
                rw [if_neg (by decide)] at HR
                clear ha
                go_wp2_with fail
                with_reducible refine (A2 _).mono ?_
                rintro e w5 ⟨rfl, rfl⟩
                go_wp2_with fail
                refine bodyPost_ret (res_cell2 (p := 10) (q := 11) (B := w.heap.size + 2) rfl rfl rfl (((HY5.out.other w3.heap.size 2 (by omega) _).other w3.heap.size 3 (by omega) _).set _ _ _ _)) rfl ?_
                rw [HR.out]
                exact rto_ok (r := ⟨gg, rg, kk, x⟩) (own_set4 (own_set_other (own_set_other HO5.out (fun j hj => (HNE4.out j hj).2) _ _) (fun j hj => (HNE4.out j hj).2) _ _) (fun j hj => (HNE4.out j hj).1) _ _ _ _) (below_set4 ((HB5.out.setCell hwB _).setCell hwB _) (by omega) _ _ _ _)

end Go.Proofs.Ytenkdpogdfcbgaa.Rs
