/- SameState: what it answers of two states that are one. -/
import Derived.Test.YtenkdpogdfcbgaaGreatMdW
namespace Go.Proofs.YtenkdpogdfcbgaaGreat
open Go.RowKit

set_option maxRecDepth 100000 in
set_option maxHeartbeats 2000000 in
theorem Equal_D (a b : Option Addr) (n c1 c2 base1 base2 : Nat) (l : List Bg.Id) (w : World) (h1 : w.ownsRow base1 81 3 (.slice a n c1) n (dv l)) (h2 : w.ownsRow base2 81 3 (.slice b n c2) n (dv l)) (hl : l.length = n) (hn : n ≤ 1099511627776) :
    Calls Tryz.prog 39 #[.slice a n c1, .slice b n c2] w fun e w' => e = .returned (.bool true) ∧ ∃ q, w' = w.drewN q := by
  have H1 := Lib.hid h1; have H2 := Lib.hid h2; have HL := Lib.hid hl; clear h1 h2 hl
  go_enter Tryz.func39, Tryz.ntmps39
  go_wp2_with fail
  go_loopw [13] (fun x wr => ∃ k : Nat, k ≤ n ∧ x = .int .i64 k ∧ ∃ j, wr = w.drewN j) (fun x _ => n - (intOf x).toNat)
  case atStart => exact ⟨0, Nat.zero_le _, rfl, 0, rfl⟩
  case round =>
    obtain ⟨k, hk, rfl, hj⟩ := hrel
    by_cases hlt : k < n
    · have hk' : k < l.length := by rw [HL.out]; exact hlt
      obtain ⟨g1, rfl, hX, -, c1, c2, c3⟩ := dv_at H1.out hk'
      obtain ⟨g2, rfl, hY, -, d1, d2, d3⟩ := dv_at H2.out hk'
      generalize l[k].is = f1 at *
      generalize l[k].sum = f2 at *
      generalize l[k].n = f3 at *
      obtain ⟨j, rfl⟩ := hj
      go_wp2_with fail
      go_region
      all_goals
        go_wp2_with fail
        go_roundw
        case rel => exact ⟨k + 1, hlt, by go_num, j + 1, rfl⟩
        case measure => simp [intOf]; omega
    · obtain rfl : k = n := by omega
      go_wp2_with fail
      go_ret
      exact ⟨rfl, hj⟩

set_option maxRecDepth 100000 in
set_option maxHeartbeats 2000000 in
theorem SameVol_D (nm : ByteArray) (a b : Option Addr) (n c1 c2 base1 base2 : Nat) (l : List Bg.Id) (w : World) (h1 : w.ownsRow base1 81 3 (.slice a n c1) n (dv l)) (h2 : w.ownsRow base2 81 3 (.slice b n c2) n (dv l)) (hl : l.length = n) (hn : n ≤ 1099511627776) :
    Calls Tryz.prog 38 #[.agg #[.string nm, .slice a n c1], .agg #[.string nm, .slice b n c2]] w fun e w' => e = .returned (.bool true) ∧ Below w.heap.size w w' := by
  have hB : Below w.heap.size w ((w.alloc (.cells #[.string nm, .slice a n c1] 78)).alloc (.cells #[.string nm, .slice b n c2] 78)) := ((Below.refl _ w).alloc (Nat.le_refl _) _).alloc (by rw [World.size_alloc]; omega) _
  have E1 := Equal_D a b n c1 c2 base1 base2 l _ (own_keep h1 hB) (own_keep h2 hB) hl hn
  have HB := Lib.hid hB
  clear hB h1 h2
  go_enter Tryz.func38, Tryz.ntmps38
  go_wp2_with fail
  with_reducible refine E1.mono ?_
  rintro e w' ⟨rfl, q, rfl⟩
  go_wp2_with fail
  go_ret
  exact ⟨rfl, below_drewN HB.out q⟩

theorem eg_same : ∀ args w, (callFunc 38 args).run Tryz.prog w = .ok (.enter 38 args) w := enters_of Tryz.func38 (by kernel_rfl) rfl

/-- The rows of two states that are one. -/
theorem same_rows {w : World} {base1 base2 n1 c1 m d1 n2 c2 d2 : Nat} {a1 b1 a2 b2 : Option Addr} {rs1 rs2 : List Rw} {s : Vo.St} (h1 : StW w base1 a1 n1 c1 b1 m d1 rs1 s) (h2 : StW w base2 a2 n2 c2 b2 m d2 rs2 s) {k : Nat} (hk1 : k < rs1.length) (hk2 : k < rs2.length) (hkv : k < s.vols.length) :
    rs1[k].name = s.vols[k].name ∧ rs2[k].name = s.vols[k].name ∧ rs1[k].n = s.vols[k].ids.length ∧ rs2[k].n = s.vols[k].ids.length ∧ w.ownsRow base1 81 3 (.slice rs1[k].a rs1[k].n rs1[k].c) rs1[k].n (dv s.vols[k].ids) ∧ w.ownsRow base2 81 3 (.slice rs2[k].a rs2[k].n rs2[k].c) rs2[k].n (dv s.vols[k].ids) := by
  obtain ⟨e1, e2, e3⟩ := h1.vol k _ _ (List.getElem?_eq_getElem hk1) (List.getElem?_eq_getElem hkv)
  obtain ⟨e4, e5, e6⟩ := h2.vol k _ _ (List.getElem?_eq_getElem hk2) (List.getElem?_eq_getElem hkv)
  exact ⟨e1, e4, e3.symm, e6.symm, e2, e5⟩

set_option maxRecDepth 100000 in
set_option maxHeartbeats 4000000 in
theorem EqualFunc_V (a1 a2 b1 b2 : Option Addr) (n1 c1 m d1 n2 c2 d2 base1 base2 : Nat) (rs1 rs2 : List Rw) (s : Vo.St) (w : World) (h1 : StW w base1 a1 n1 c1 b1 m d1 rs1 s) (h2 : StW w base2 a2 n2 c2 b2 m d2 rs2 s) (hR : Vo.Right s) :
    Calls Tryz.prog 37 #[.slice b1 m d1, .slice b2 m d2, .func (.func 38) #[] #[]] w fun e w' => e = .returned (.bool true) ∧ Below w.heap.size w w' := by
  have hm : m ≤ 6 := by rw [← h1.vlen]; exact hR.len
  have eg := eg_same
  have H1 := Lib.hid h1; have H2 := Lib.hid h2; have HR := Lib.hid hR
  clear h1 h2 hR
  go_enter Tryz.func37, Tryz.ntmps37
  go_wp2_with fail
  go_loopw [17] (fun x wr => ∃ k : Nat, k ≤ m ∧ x = .int .i64 k ∧ Hid (Below w.heap.size w wr)) (fun x _ => m - (intOf x).toNat)
  case atStart => exact ⟨0, Nat.zero_le _, rfl, Lib.hid (Below.refl _ _)⟩
  case round =>
    obtain ⟨k, hk, rfl, BW⟩ := hrel
    by_cases hlt : k < m
    · have hkv : k < s.vols.length := by rw [H1.out.vlen]; exact hlt
      have hk1 : k < rs1.length := by rw [H1.out.rlen]; exact hlt
      have hk2 : k < rs2.length := by rw [H2.out.rlen]; exact hlt
      have hn3 : s.vols[k].ids.length ≤ 32 := (HR.out.vol s.vols[k] (List.getElem_mem hkv)).len
      obtain ⟨g1, rfl, hg1, x0, x1⟩ := rv_at (H1.out.keep BW.out).row hk1
      obtain ⟨g2, rfl, hg2, y0, y1⟩ := rv_at (H2.out.keep BW.out).row hk2
      obtain ⟨e1, e2, e3, e4, e5, e6⟩ := same_rows (H1.out.keep BW.out) (H2.out.keep BW.out) hk1 hk2 hkv
      rw [e1] at x0
      rw [e2] at y0
      rw [e3] at x1 e5
      rw [e4] at y1 e6
      have HA := Lib.hid ((BW.out.alloc BW.out.size (.cells #[.string s.vols[k].name, .slice rs1[k].a s.vols[k].ids.length rs1[k].c] 78)).alloc (by rw [World.size_alloc]; have := BW.out.size; omega) (.cells #[.string s.vols[k].name, .slice rs2[k].a s.vols[k].ids.length rs2[k].c] 78))
      have hal : Below wr.heap.size wr ((wr.alloc (.cells #[.string s.vols[k].name, .slice rs1[k].a s.vols[k].ids.length rs1[k].c] 78)).alloc (.cells #[.string s.vols[k].name, .slice rs2[k].a s.vols[k].ids.length rs2[k].c] 78)) := ((Below.refl _ wr).alloc (Nat.le_refl _) _).alloc (by rw [World.size_alloc]; omega) _
      have K := SameVol_D s.vols[k].name rs1[k].a rs2[k].a s.vols[k].ids.length rs1[k].c rs2[k].c base1 base2 s.vols[k].ids _ (own_keep e5 hal) (own_keep e6 hal) rfl (by omega)
      clear e1 e2 e3 e4 e5 e6 hal hn3
      generalize s.vols[k].ids.length = f2 at *
      generalize s.vols[k].name = f1 at *
      generalize rs1[k].a = f3 at *
      generalize rs1[k].c = f4 at *
      generalize rs2[k].a = f5 at *
      generalize rs2[k].c = f6 at *
      go_wp2_with (go_at_fn 38; refine K.mono ?_; rintro e w' ⟨rfl, hb'⟩)
      go_roundw
      case rel => exact ⟨k + 1, hlt, by go_num, Lib.hid (HA.out.trans (hb'.mono HA.out.size))⟩
      case measure => simp [intOf]; omega
    · obtain rfl : k = m := by omega
      go_wp2_with fail
      go_ret
      exact ⟨rfl, BW.out⟩

set_option maxRecDepth 100000 in
set_option maxHeartbeats 4000000 in
/-- Two states that are one are the same. -/
theorem Same_V (a1 a2 b1 b2 : Option Addr) (n1 c1 m1 d1 n2 c2 m2 d2 base1 base2 : Nat) (rs1 rs2 : List Rw) (s : Vo.St) (w : World) (h1 : StW w base1 a1 n1 c1 b1 m1 d1 rs1 s) (h2 : StW w base2 a2 n2 c2 b2 m2 d2 rs2 s) (hR : Vo.Right s) :
    Calls Tryz.prog 14 #[.agg #[.slice a1 n1 c1, .slice b1 m1 d1], .agg #[.slice a2 n2 c2, .slice b2 m2 d2]] w fun e w' => e = .returned (.bool true) ∧ Below w.heap.size w w' := by
  obtain rfl : m1 = m2 := h1.vlen.symm.trans h2.vlen
  obtain rfl : n1 = n2 := h1.len.symm.trans h2.len
  have hn : n1 ≤ 64 := by rw [← h1.len]; exact hR.bag.len
  have hB : Below w.heap.size w ((w.alloc (.cells #[.slice a1 n1 c1, .slice b1 m1 d1] 33)).alloc (.cells #[.slice a2 n1 c2, .slice b2 m1 d2] 33)) := ((Below.refl _ w).alloc (Nat.le_refl _) _).alloc (by rw [World.size_alloc]; omega) _
  have k1 := h1.keep hB; have k2 := h2.keep hB
  have E1 := Equal_I a1 a2 n1 c1 c2 s.bag _ (own_isl0 k1.bag k1.len) (own_isl0 k2.bag k2.len) (by omega)
  have E2 : ∀ q, Calls Tryz.prog 37 #[.slice b1 m1 d1, .slice b2 m1 d2, .func (.func 38) #[] #[]] (((w.alloc (.cells #[.slice a1 n1 c1, .slice b1 m1 d1] 33)).alloc (.cells #[.slice a2 n1 c2, .slice b2 m1 d2] 33)).drewN q) _ := fun q => EqualFunc_V a1 a2 b1 b2 n1 c1 m1 d1 n1 c2 d2 base1 base2 rs1 rs2 s _ (k1.keep (below_drewN (Below.refl _ _) q)) (k2.keep (below_drewN (Below.refl _ _) q)) hR
  have HB := Lib.hid hB
  clear hB h1 h2 k1 k2 hR
  go_enter Tryz.func14, Tryz.ntmps14
  go_wp2_with fail
  with_reducible refine E1.mono ?_
  rintro e w' ⟨rfl, q, rfl⟩
  go_wp2_with fail
  with_reducible refine (E2 q).mono ?_
  rintro e w2 ⟨rfl, hb2⟩
  go_wp2_with fail
  go_ret
  exact ⟨rfl, (below_drewN HB.out q).trans (hb2.mono (below_drewN HB.out q).size)⟩

end Go.Proofs.YtenkdpogdfcbgaaGreat
