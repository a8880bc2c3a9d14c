/- TargetOwn: what a target tells is a copy; for every input. -/
import Derived.Test.YtenkdpogdfcbgaaGreatToA
import Derived.Test.YtenkdpogdfcbgaaGreatOwnS
import Derived.Test.YtenkdpogdfcbgaaGreatOwnR
import Derived.Test.YtenkdpogdfcbgaaGreatRgT
import Derived.Test.YtenkdpogdfcbgaaGreatArgsL
namespace Go.Proofs.YtenkdpogdfcbgaaGreat
open Go.RowKit

/-- What lay before stands when a state is spoilt that lies behind it. -/
theorem SpTo.behind {W W' : World} {vs : List Value} {N : Nat} (h : SpTo W W' vs) (hv : ∀ v ∈ vs, ∀ k, v.ownBlock = some k → N ≤ k) (hN : N ≤ W.heap.size) : Below N W W' :=
  ⟨h.os, h.tape, h.output, h.size, fun k hk => h.block k (Nat.lt_of_lt_of_le hk hN) fun v hm e => by have := hv v hm k e; omega⟩
theorem behind_grown {W W' : World} {row : Option Nat} {N : Nat} (h : W.grownBy W' row) (hr : ∀ k, row = some k → N ≤ k) (hN : N ≤ W.heap.size) : Below N W W' :=
  ⟨h.os, h.tape, h.output, h.size, fun k hk => h.block k (Nat.lt_of_lt_of_le hk hN) fun e => by have := hr k e.symm; omega⟩

/-- One row of what came in. -/
theorem LArgN.sub {w : World} {x : Addr} {nl cl k : Nat} {N : Nat → Nat} {F : Nat → Nat → Int} (h : LArgN w (some x) nl cl N F) (hk : k < nl) : LArgN w (some (x.add k)) 1 (cl - k) (fun j => N (k + j)) fun j => F (k + j) :=
  ⟨fun i hi => by
    obtain rfl : i = 0 := by omega
    obtain ⟨y, b, cc, hy, h1, h2, h3⟩ := h.row k hk
    cases hy
    exact ⟨x.add k, b, cc, rfl, by rw [addr_block]; exact h1, by rw [Go.Deep.add_add, Nat.add_zero]; exact h2, h3⟩, by have := h.cap; omega, by have := h.max; omega⟩

set_option maxRecDepth 100000 in
set_option maxHeartbeats 8000000 in
theorem targetOwn_walk (a0 : Option Addr) (len0 cap0 : Nat) (z0 : Nat → Nat → Int) (a1 : Option Addr) (len1 cap1 : Nat) (t1 : List Lg.Op) (w : World) (w0 : LArg w a0 len0 cap0 z0) (w1 : OArg w a1 len1 cap1 t1) :
    Calls Tryz.prog 3 #[.slice a0 len0 cap0, .slice a1 len1 cap1] w fun e w' => e = .returned (.bool true) ∧ Below w.heap.size w w' := by
  obtain ⟨NN, hNN⟩ := w0.lens
  have HL := Lib.hid hNN; have HO := Lib.hid w1
  have hcap := w0.cap
  have hmax := w0.max
  unfold maxLen at hmax
  have N1 := New_X w
  clear w0 w1 hNN
  go_enter Tryz.func3, Tryz.ntmps3
  go_wp2_with fail
  with_reducible refine N1.mono ?_
  rintro e v1 ⟨rfl, hx1, hb1, hs1⟩
  have N2 := New_X v1
  have HX1 := Lib.hid hx1; have HB1 := Lib.hid hb1
  clear hx1 hb1 N1
  go_wp2_with fail
  with_reducible refine N2.mono ?_
  rintro e v2 ⟨rfl, hx2, hb2, hs2⟩
  have HT2 := Lib.hid (tgw_zero (base := w.heap.size + 2) (HX1.out.on hb2) (by omega) (by omega))
  have HU2 := Lib.hid (tgw_zero (base := w.heap.size + 2) hx2 (by omega) (by omega))
  have HB2 := Lib.hid (HB1.out.trans (hb2.mono HB1.out.size))
  clear hx2 hb2 N2 hs2 HX1 HB1
  rw [hs1] at HU2
  simp only [hs1]
  clear hs1
  have D1 := Do_first w.heap.size (w.heap.size + 2) 1 v2 HT2.out (by decide) (by decide)
  go_wp2_with fail
  with_reducible refine D1.mono ?_
  rintro e v3 ⟨rfl, h3, g3⟩
  have HT3 := Lib.hid h3; have HB3 := Lib.hid (tgTo_below HB2.out g3 (Nat.le_refl _)); have HU3 := Lib.hid (HU2.out.grown g3 (by omega) (by omega))
  clear h3 g3 D1 HT2 HU2 HB2
  have S1 := State_T w.heap.size (w.heap.size + 2) 0 Tg.t1 v3 HT3.out
  go_wp2_with fail
  with_reducible refine S1.mono ?_
  rintro e v4 ⟨a5, n5, c5, b5, m5, d5, rs5, rfl, hs5, hb4⟩
  obtain rfl : m5 = 1 := hs5.vlen.symm
  have HT4 := Lib.hid (HT3.out.keep hb4); have HU4 := Lib.hid (HU3.out.keep hb4); have HB4 := Lib.hid (HB3.out.trans (hb4.mono HB3.out.size))
  clear hs5 hb4 S1 HT3 HU3 HB3
  have FV := fd_vols a5 b5 n5 c5 1 d5
  have D2 := Do_first (w.heap.size + 1) (w.heap.size + 2) 1 v4 HU4.out (by decide) (by decide)
  go_wp2_with fail
  clear FV
  with_reducible refine D2.mono ?_
  rintro e v5 ⟨rfl, h5, g5⟩
  have HU5 := Lib.hid (h5.mono (Nat.zero_le Tg.M)); have HB5 := Lib.hid (tgTo_below HB4.out g5 (by omega)); have HT5 := Lib.hid ((HT4.out.grown g5 (by omega) (by omega)).mono (Nat.zero_le Tg.M))
  clear h5 g5 D2 HT4 HU4 HB4
  go_wp2_with fail
  go_loopw [34] (fun x wr => ∃ (k : Nat) (T : Tg.S), x = .int .i64 k ∧ k ≤ len0 ∧ Hid (Below w.heap.size w wr) ∧ Hid (TgW wr w.heap.size (w.heap.size + 2) T Tg.M) ∧ Hid (TgW wr (w.heap.size + 1) (w.heap.size + 2) T Tg.M)) (fun x _ => len0 - (intOf x).toNat)
  case atStart => exact ⟨0, _, rfl, Nat.zero_le _, HB5, HT5, HU5⟩
  case round =>
    obtain ⟨k, T, rfl, hk, HB, HT, HU⟩ := hrel
    by_cases hlt : k < len0
    · obtain ⟨xa, xo, xs, rfl⟩ : ∃ b o s, a0 = some ⟨b, o, s⟩ := by
        obtain ⟨x, b, cc, rfl, -⟩ := HL.out.row k hlt
        exact ⟨_, _, _, rfl⟩
      have hw1 : IntKind.i64.wrap ((k : Int) + 1) = (k : Int) + 1 := IntWalk.i64_in _ ⟨by omega, by omega⟩
      have hk0 : (0 : Int) ≤ (k : Int) + 1 := by omega
      have hk1 : (k : Int) ≤ (k : Int) + 1 := by omega
      have hk2 : (k : Int) + 1 ≤ (cap0 : Int) := by omega
      have hk3 : ((k : Int) + 1).toNat = k + 1 := by omega
      have hk4 : (k : Int) ≤ (cap0 : Int) := by omega
      have LS := HL.out.sub hlt
      obtain ⟨T2, hT2⟩ : ∃ T2, Tg.asks8 t1 (fun j => NN (k + j)) (fun j => z0 (k + j)) T 1 = T2 := ⟨_, rfl⟩
      have A1 := asks_T8 w.heap.size (w.heap.size + 2) T (some ((⟨xa, xo, xs⟩ : Addr).add k)) 1 (cap0 - k) 1 (fun j => NN (k + j)) (fun j => z0 (k + j)) a1 len1 cap1 t1 w wr HT.out LS HO.out HB.out (Nat.le_refl _) (by decide)
      have HLS := Lib.hid LS
      rw [hT2] at A1
      have HT2 := Lib.hid hT2
      clear LS hT2
      go_wp2_with fail
      with_reducible refine A1.mono ?_
      rintro e v2 ⟨rfl, h2, g2⟩
      have HTa := Lib.hid h2; have HBa := Lib.hid (tgTo_below HB.out g2 (Nat.le_refl _)); have HUa := Lib.hid (HU.out.grown g2 (by omega) (by omega))
      clear h2 g2 A1 HT HU HB
      have A2 := asks_T8 (w.heap.size + 1) (w.heap.size + 2) T (some ((⟨xa, xo, xs⟩ : Addr).add k)) 1 (cap0 - k) 1 (fun j => NN (k + j)) (fun j => z0 (k + j)) a1 len1 cap1 t1 w v2 HUa.out HLS.out HO.out HBa.out (by omega) (by decide)
      rw [HT2.out] at A2
      clear HLS HT2
      go_wp2_with fail
      with_reducible refine A2.mono ?_
      rintro e v3 ⟨rfl, h3, g3⟩
      have HUb := Lib.hid h3; have HBb := Lib.hid (tgTo_below HBa.out g3 (by omega)); have HTb := Lib.hid (HTa.out.grown g3 (by omega) (by omega))
      clear h3 g3 A2 HTa HUa HBa
      have S1 := State_T w.heap.size (w.heap.size + 2) Tg.M T2 v3 HTb.out
      go_wp2_with fail
      with_reducible refine S1.mono ?_
      rintro e v4 ⟨a5, n5, c5, b5, m5, d5, rs5, rfl, hs5, hb4⟩
      have P1 := spoilt_V a5 b5 n5 c5 m5 d5 _ rs5 T2.st v4 hs5
      have HS5 := Lib.hid hs5; have HB4 := Lib.hid hb4
      clear hs5 hb4 S1
      go_wp2_with fail
      with_reducible refine P1.mono ?_
      rintro e v5 ⟨rfl, hsp⟩
      have hbe : Below v3.heap.size v4 v5 := hsp.behind (fun v hv j hj => (HS5.out.lies.2 v (by
        unfold sls
        simp only [List.cons_append, List.mem_cons, List.mem_append, List.mem_map, List.not_mem_nil, or_false] at hv ⊢
        rcases hv with h | h | h
        · exact Or.inl h
        · exact Or.inr (Or.inr h)
        · exact Or.inr (Or.inl h)) j hj).1) HB4.out.size
      have hbn := HB4.out.trans hbe
      have HTc := Lib.hid (HTb.out.keep hbn); have HUc := Lib.hid (HUb.out.keep hbn); have HBc := Lib.hid (HBb.out.trans (hbn.mono HBb.out.size))
      clear hsp hbe hbn P1 HS5 HB4 HTb HUb HBb
      have R1 := Resv_T w.heap.size (w.heap.size + 2) Tg.M T2 v5 HTc.out
      go_wp2_with fail
      with_reducible refine R1.mono ?_
      rintro e v6 ⟨x6, y6, z6, rfl, ho6, -, hb6⟩
      have FR := fd_regs T2.r.gen T2.r.kind T2.r.holder x6 y6 z6
      have P2 := spoil_Reg x6 y6 z6 _ 0 9 _ v6 ho6 (by have := (own_cap ho6).2.1; unfold maxLen at this; exact this)
      have HO6 := Lib.hid ho6; have HB6 := Lib.hid hb6
      clear ho6 hb6 R1
      go_wp2_with fail
      clear FR
      with_reducible refine P2.mono ?_
      rintro e v7 ⟨rfl, hgr⟩
      have hbn := HB6.out.trans (behind_grown hgr (fun j hj => row_base HO6.out j hj) HB6.out.size)
      have HTd := Lib.hid (HTc.out.keep hbn); have HUd := Lib.hid (HUc.out.keep hbn); have HBd := Lib.hid (HBc.out.trans (hbn.mono HBc.out.size))
      clear hgr hbn P2 HO6 HB6 HTc HUc HBc
      go_wp2_with fail
      go_roundw
      case rel => exact ⟨k + 1, T2, by go_num, hlt, HBd, HTd, HUd⟩
      case measure => simp [intOf]; omega
    · obtain rfl : k = len0 := by omega
      have S1 := State_T w.heap.size (w.heap.size + 2) Tg.M T wr HT.out
      go_wp2_with fail
      with_reducible refine S1.mono ?_
      rintro e v2 ⟨a5, n5, c5, b5, m5, d5, rs5, rfl, hs5, hb⟩
      have HS5 := Lib.hid hs5; have HTa := Lib.hid (HT.out.keep hb); have HUa := Lib.hid (HU.out.keep hb); have HBa := Lib.hid (HB.out.trans (hb.mono HB.out.size))
      clear hs5 hb S1 HT HU HB
      have S2 := State_T (w.heap.size + 1) (w.heap.size + 2) Tg.M T v2 HUa.out
      go_wp2_with fail
      with_reducible refine S2.mono ?_
      rintro e v3 ⟨a6, n6, c6, b6, m6, d6, rs6, rfl, hs6, hb⟩
      have C1 := Same_V a5 a6 b5 b6 n5 c5 m5 d5 n6 c6 m6 d6 _ _ rs5 rs6 T.st v3 (HS5.out.keep hb) hs6 HTa.out.good.right
      have HTb := Lib.hid (HTa.out.keep hb); have HUb := Lib.hid (HUa.out.keep hb); have HBb := Lib.hid (HBa.out.trans (hb.mono HBa.out.size))
      clear hs6 hb S2 HTa HUa HBa HS5
      go_wp2_with fail
      with_reducible refine C1.mono ?_
      rintro e v4 ⟨rfl, hb⟩
      have HTc := Lib.hid (HTb.out.keep hb); have HUc := Lib.hid (HUb.out.keep hb); have HBc := Lib.hid (HBb.out.trans (hb.mono HBb.out.size))
      clear hb C1 HTb HUb HBb
      have R1 := Resv_T w.heap.size (w.heap.size + 2) Tg.M T v4 HTc.out
      go_wp2_with fail
      with_reducible refine R1.mono ?_
      rintro e v5 ⟨x6, y6, z6, rfl, ho6, hl6, hb⟩
      have HO6 := Lib.hid ho6; have HTd := Lib.hid (HTc.out.keep hb); have HUd := Lib.hid (HUc.out.keep hb); have HBd := Lib.hid (HBc.out.trans (hb.mono HBc.out.size))
      clear ho6 hb R1 HTc HUc HBc
      have R2 := Resv_T (w.heap.size + 1) (w.heap.size + 2) Tg.M T v5 HUd.out
      go_wp2_with fail
      with_reducible refine R2.mono ?_
      rintro e v6 ⟨x7, y7, z7, rfl, ho7, hl7, hb⟩
      obtain rfl : y6 = y7 := hl6.symm.trans hl7
      have hy8 : y6 ≤ 8 := by rw [← hl6]; exact HUd.out.good.rv.len
      have C2 := Rs.Same_R T.r.gen T.r.kind T.r.holder x6 x7 y6 z6 z7 T.r.regs v6 (Rs.own_tsl HO6.out hb) (Rs.own_tsl ho7 (Below.refl _ _)) (by omega)
      have HTe := Lib.hid (HTd.out.keep hb); have HUe := Lib.hid (HUd.out.keep hb); have HBe := Lib.hid (HBd.out.trans (hb.mono HBd.out.size))
      clear ho7 hl6 hl7 hb R2 HO6 HTd HUd HBd
      go_wp2_with fail
      with_reducible refine C2.mono ?_
      rintro e v7 ⟨rfl, hb⟩
      have L1 := Log_T w.heap.size (w.heap.size + 2) Tg.M T v7 (HTe.out.keep hb)
      have L2 := Log_T (w.heap.size + 1) (w.heap.size + 2) Tg.M T v7 (HUe.out.keep hb)
      have HBf := Lib.hid (HBe.out.trans (hb.mono HBe.out.size))
      clear hb C2 HTe HUe HBe
      generalize Tg.text T = TX at *
      go_wp2_with fail
      with_reducible refine L1.mono ?_
      rintro e v8 ⟨rfl, rfl⟩
      clear L1
      go_wp2_with fail
      with_reducible refine L2.mono ?_
      rintro e v8 ⟨rfl, rfl⟩
      clear L2
      go_wp2_with fail
      go_ret
      exact ⟨rfl, HBf.out⟩

end Go.Proofs.YtenkdpogdfcbgaaGreat
