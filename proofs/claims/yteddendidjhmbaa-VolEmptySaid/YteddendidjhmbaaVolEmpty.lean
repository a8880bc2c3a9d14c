/- VolEmpty: without its volumes, or with all of them trimmed, the bag is empty; for every input. -/
import Derived.Test.YteddendidjhmbaaVolEP
namespace Go.Proofs.Yteddendidjhmbaa
open Go.RowKit

/-- A state that lies apart from two boxes. -/
def StO (w : World) (base A B : Nat) (a : Option Addr) (n c : Nat) (b : Option Addr) (m d : Nat) (rs : List Rw) (s : Vo.St) : Prop :=
  StW w base a n c b m d rs s ∧ (∀ v ∈ sls a n c b m d rs, v.ownBlock ≠ some A) ∧ ∀ v ∈ sls a n c b m d rs, v.ownBlock ≠ some B

section
variable {w w' : World} {base base' A B : Nat} {a b : Option Addr} {n c m d : Nat} {rs : List Rw} {s : Vo.St}
theorem StO.keep (h : StO w base A B a n c b m d rs s) (hb : Below w.heap.size w w') : StO w' base A B a n c b m d rs s := ⟨h.1.keep hb, h.2⟩
theorem StO.setA (h : StO w base A B a n c b m d rs s) (u0 u1 : Value) : StO ((w.setCell ⟨A, 0, none⟩ u0).setCell ⟨A, 1, none⟩ u1) base A B a n c b m d rs s := ⟨(h.1.other h.2.1 u0).other h.2.1 u1, h.2⟩
theorem StO.setB (h : StO w base A B a n c b m d rs s) (u0 u1 : Value) : StO ((w.setCell ⟨B, 0, none⟩ u0).setCell ⟨B, 1, none⟩ u1) base A B a n c b m d rs s := ⟨(h.1.other h.2.2 u0).other h.2.2 u1, h.2⟩
theorem StO.new (h : StW w base' a n c b m d rs s) (hA : A < base') (hB : B < base') (hb : base ≤ base') : StO w base A B a n c b m d rs s := ⟨h.low hb, h.off hA, h.off hB⟩
theorem StO.first (h : StW w base a n c b m d rs s) (hA : w.heap.size ≤ A) (hB : w.heap.size ≤ B) : StO w base A B a n c b m d rs s :=
  ⟨h, fun v hv e => by have := h.lt v hv A e; omega, fun v hv e => by have := h.lt v hv B e; omega⟩
end

set_option maxRecDepth 100000 in
set_option maxHeartbeats 16000000 in
theorem volEmpty_walk (a0 : Option Addr) (len0 cap0 : Nat) (t0 : List Lg.Op) (w : World) (w0 : OArg w a0 len0 cap0 t0) :
    Calls Try.prog 10 #[.slice a0 len0 cap0] w fun e w' => e = .returned (.bool true) ∧ Below w.heap.size w w' := by
  have B1 := begun_V w
  have M1 : ∀ W, Below w.heap.size w W → Calls Try.prog 33 #[.slice a0 len0 cap0] W (StMade W (Vo.made t0)) := fun W hb => made_V a0 len0 cap0 t0 W ⟨w0.1.keep hb, w0.2⟩
  have HR : Hid (Vo.Right (Vo.made t0)) := Lib.hid (Vo.made_right t0)
  obtain ⟨S, hS⟩ : ∃ S, Vo.made t0 = S := ⟨_, rfl⟩
  rw [hS] at M1 HR
  clear w0 hS
  go_enter Try.func10, Try.ntmps10
  go_wp2_with fail
  with_reducible refine B1.mono ?_
  rintro e v1 ⟨rfl, hb1⟩
  have HB1 := Lib.hid hb1
  have Q1 := M1 v1 hb1
  clear M1 B1 hb1
  go_wp2_with fail
  with_reducible refine Q1.mono ?_
  rintro e v2 ⟨a, n, c, b, m, d, rs, rfl, hs2, hb2⟩
  have HB2 := Lib.hid (HB1.out.trans (hb2.mono HB1.out.size))
  have HS2 := Lib.hid hs2
  obtain ⟨o, ho⟩ : ∃ o, o = Obj.cells #[.slice a n c, .slice b m d] 52 := ⟨_, rfl⟩
  have hal : Below v2.heap.size v2 ((v2.alloc o).alloc o) := ((Below.refl _ v2).alloc (Nat.le_refl _) o).alloc (by rw [World.size_alloc]; omega) o
  have HAL := Lib.hid hal
  have HX2 : Hid (Bxs ((v2.alloc o).alloc o) v2.heap.size [.slice a n c, .slice b m d]) := Lib.hid (by rw [ho]; exact (bxs_new v2 52 _ _ rfl).alloc _)
  have HY2 : Hid (Bxs ((v2.alloc o).alloc o) (v2.heap.size + 1) [.slice a n c, .slice b m d]) := Lib.hid (by
    rw [ho]
    have := bxs_new (v2.alloc (.cells #[.slice a n c, .slice b m d] 52)) 52 #[.slice a n c, .slice b m d] _ rfl
    rwa [World.size_alloc] at this)
  have HS3 : Hid (StO ((v2.alloc o).alloc o) v1.heap.size v2.heap.size (v2.heap.size + 1) a n c b m d rs S) := Lib.hid ((StO.first (A := v2.heap.size) (B := v2.heap.size + 1) hs2 (by omega) (by omega)).keep hal)
  have hm : m ≤ 6 := by rw [← hs2.vlen]; exact HR.out.len
  have hz12 : v1.heap.size ≤ v2.heap.size := hb2.size
  have hx0 := HX2.out.c 0 _ rfl; have hx1 := HX2.out.c 1 _ rfl
  rw [ho] at hx0 hx1
  clear hs2 hb2 Q1 hal
  rw [ho] at HAL HX2 HY2 HS3
  clear ho o
  go_wp2_with fail
  clear hx0 hx1
  go_loopw [20] (fun x wr => ∃ (k : Nat) (a5 : Option Addr) (n5 c5 : Nat) (b5 : Option Addr) (m5 d5 : Nat) (rs5 : List Rw) (s5 : Vo.St) (a6 : Option Addr) (n6 c6 : Nat) (b6 : Option Addr) (m6 d6 : Nat) (rs6 : List Rw) (s6 : Vo.St), k ≤ m ∧ x = .int .i64 k ∧
      Hid (Below v2.heap.size v2 wr) ∧ Hid (Bxs wr v2.heap.size [.slice a5 n5 c5, .slice b5 m5 d5]) ∧ Hid (Bxs wr (v2.heap.size + 1) [.slice a6 n6 c6, .slice b6 m6 d6]) ∧
      Hid (StO wr v1.heap.size v2.heap.size (v2.heap.size + 1) a5 n5 c5 b5 m5 d5 rs5 s5) ∧ Hid (StO wr v1.heap.size v2.heap.size (v2.heap.size + 1) a6 n6 c6 b6 m6 d6 rs6 s6) ∧
      Hid (Vo.Right s5 ∧ s5.vols = S.vols.drop k) ∧ Hid (Vo.Right s6 ∧ s6.vols = Vo.clN S.vols k))
    (fun x _ => m - (intOf x).toNat)
  case atStart => exact ⟨0, a, n, c, b, m, d, rs, S, a, n, c, b, m, d, rs, S, Nat.zero_le _, rfl, HAL, HX2, HY2, HS3, HS3, Lib.hid ⟨HR.out, rfl⟩, Lib.hid ⟨HR.out, rfl⟩⟩
  case round =>
    obtain ⟨k, a5, n5, c5, b5, m5, d5, rs5, s5, a6, n6, c6, b6, m6, d6, rs6, s6, hk, rfl, BW, XW, YW, S5, S6, R5, R6⟩ := hrel
    have hsz := BW.out.size
    have hyl := YW.out.lt
    by_cases hlt : k < m
    · have hkv : k < S.vols.length := by rw [HS2.out.vlen]; exact hlt
      have hkr : k < rs.length := by rw [HS2.out.rlen]; exact hlt
      obtain ⟨g, rfl, hg, d0, d1⟩ := rv_at (HS2.out.keep BW.out).row hkr
      obtain ⟨e1, -, e3⟩ := HS2.out.vol k rs[k] S.vols[k] (List.getElem?_eq_getElem hkr) (List.getElem?_eq_getElem hkv)
      have hn3 : rs[k].n ≤ 32 := by rw [← e3]; exact (HR.out.vol S.vols[k] (List.getElem_mem hkv)).len
      have TS : Hid (∀ (j : Nat) (s : Vo.St), Vo.Right s → j < rs[k].n → s.vols = Vo.inN S.vols k j → ∃ s', Vo.trimR s rs[k].name (j : Int) = ⟨s', 0⟩ ∧ Vo.Right s' ∧ s'.vols = Vo.inN S.vols k (j + 1)) := Lib.hid fun j s h hj hv => by
        rw [e1]
        exact Vo.trim_step h hkv (by rw [e3]; exact hj) hv
      have DS : Hid (∃ s', Vo.dropR s5 rs[k].name = ⟨s', 0⟩ ∧ Vo.Right s' ∧ s'.vols = S.vols.drop (k + 1)) := Lib.hid (by
        rw [e1]
        exact Vo.drop_step R5.out.1 hkv R5.out.2)
      have HE : Hid (Vo.inN S.vols k rs[k].n = Vo.clN S.vols (k + 1)) := Lib.hid (by rw [← e3]; exact Vo.inN_end hkv)
      have H0 : Hid (Vo.Right s6 ∧ s6.vols = Vo.inN S.vols k 0) := Lib.hid ⟨R6.out.1, by rw [R6.out.2, Vo.inN_zero hkv]⟩
      clear e1 e3 R6
      generalize rs[k].name = f1 at *
      generalize rs[k].a = f2 at *
      generalize rs[k].n = f3 at *
      generalize rs[k].c = f4 at *
      have BA := Lib.hid (BW.out.alloc hsz (.cells #[.string f1, .slice f2 f3 f4] 56))
      have ha2 := (Below.refl wr.heap.size wr).alloc (Nat.le_refl _) (.cells #[.string f1, .slice f2 f3 f4] 56)
      have XA := Lib.hid (XW.out.on ha2)
      have YA := Lib.hid (YW.out.on ha2)
      have S5A := Lib.hid (S5.out.keep ha2)
      have S6A := Lib.hid (S6.out.keep ha2)
      have CA := Lib.hid (bxs_new wr 56 #[.string f1, .slice f2 f3 f4] _ rfl)
      have hCB : v2.heap.size + 1 < wr.heap.size := hyl
      clear ha2
      go_wp2_with fail
      obtain ⟨wo, rfl⟩ : ∃ wo : World, wo = wr := ⟨_, rfl⟩
      clear d0 d1
      go_loopw [27] (fun x wv => ∃ (j : Nat) (a6 : Option Addr) (n6 c6 : Nat) (b6 : Option Addr) (m6 d6 : Nat) (rs6 : List Rw) (s6 : Vo.St), j ≤ f3 ∧ x = .int .i64 j ∧
          Hid (Below v2.heap.size v2 wv) ∧ Hid (Bxs wv v2.heap.size [.slice a5 n5 c5, .slice b5 m5 d5]) ∧ Hid (Bxs wv (v2.heap.size + 1) [.slice a6 n6 c6, .slice b6 m6 d6]) ∧ Hid (Bxs wv wo.heap.size [.string f1, .slice f2 f3 f4]) ∧
          Hid (StO wv v1.heap.size v2.heap.size (v2.heap.size + 1) a5 n5 c5 b5 m5 d5 rs5 s5) ∧ Hid (StO wv v1.heap.size v2.heap.size (v2.heap.size + 1) a6 n6 c6 b6 m6 d6 rs6 s6) ∧ Hid (Vo.Right s6 ∧ s6.vols = Vo.inN S.vols k j))
        (fun x _ => f3 - (intOf x).toNat)
      case atStart => exact ⟨0, a6, n6, c6, b6, m6, d6, rs6, s6, Nat.zero_le _, rfl, BA, XA, YA, CA, S5A, S6A, H0⟩
      case round =>
        clear BW XW YW S5 S6 BA XA YA CA S5A S6A H0
        obtain ⟨j, a6, n6, c6, b6, m6, d6, rs6, s6, hj, rfl, BW, XW, YW, CW, S5, S6, R6⟩ := hrel
        have hszj := BW.out.size
        have hcl := CW.out.lt
        have q0 := CW.out.c 0 _ rfl
        by_cases hlt2 : j < f3
        · obtain ⟨s7, ht, hr7, hv7⟩ := TS.out j s6 R6.out.1 hlt2 R6.out.2
          have TR := Trim_V a6 b6 n6 c6 m6 d6 _ rs6 s6 f1 (j : Int) wr S6.out.1 R6.out.1
          rw [ht] at TR
          have HR7 := Lib.hid (And.intro hr7 hv7)
          have y0 := YW.out.c 0 _ rfl; have y1 := YW.out.c 1 _ rfl
          clear ht hr7 hv7
          go_wp2_with fail
          with_reducible refine TR.mono ?_
          rintro e w2 ⟨a7, n7, c7, b7, m7, d7, rs7, rfl, hs7, hb7⟩
          have hz7 := hb7.size
          have hal := hb7.alloc hz7 (.cells #[.slice a7 n7 c7, .slice b7 m7 d7] 52)
          have B8 := Lib.hid (BW.out.trans (hal.mono hszj))
          have X8 := Lib.hid (XW.out.on hal); have Y8 := Lib.hid (YW.out.on hal); have C8 := Lib.hid (CW.out.on hal); have S58 := Lib.hid (S5.out.keep hal)
          have S78 : Hid (StO (w2.alloc (.cells #[.slice a7 n7 c7, .slice b7 m7 d7] 52)) v1.heap.size v2.heap.size (v2.heap.size + 1) a7 n7 c7 b7 m7 d7 rs7 s7) := Lib.hid ((StO.new hs7 (by omega) (by omega) (by omega)).keep ((Below.refl _ w2).alloc (Nat.le_refl _) _))
          clear y0 y1 hs7 hb7 hal TR q0
          have y0 := Y8.out.c 0 _ rfl; have y1 := Y8.out.c 1 _ rfl; have yf0 := Y8.out.z 0 (show 0 < 2 by decide); have yf1 := Y8.out.z 1 (show 1 < 2 by decide)
          go_wp2_with fail
          go_roundw
          case rel => exact ⟨j + 1, _, _, _, _, _, _, _, _, hlt2, by go_num, Lib.hid (below_set2 B8.out (by omega) _ _), Lib.hid ((X8.out.other (i := 0) (by omega) _).other (i := 1) (by omega) _), Lib.hid (Y8.out.set2 _ _), Lib.hid ((C8.out.other (i := 0) (by omega) _).other (i := 1) (by omega) _), Lib.hid (S58.out.setB _ _), Lib.hid (S78.out.setB _ _), HR7⟩
          case measure => simp [intOf]; omega
        · obtain rfl : j = f3 := by omega
          obtain ⟨s7, ht, hr7, hv7⟩ := DS.out
          have R8 : Hid (Vo.Right s6 ∧ s6.vols = Vo.clN S.vols (k + 1)) := Lib.hid ⟨R6.out.1, by rw [R6.out.2, HE.out]⟩
          have TR := Drop_V a5 b5 n5 c5 m5 d5 _ rs5 s5 f1 wr S5.out.1 R5.out.1
          rw [ht] at TR
          have HR7 := Lib.hid (And.intro hr7 hv7)
          have x0 := XW.out.c 0 _ rfl; have x1 := XW.out.c 1 _ rfl
          have hyw := YW.out.lt
          clear ht hr7 hv7
          go_wp2_with fail
          with_reducible refine TR.mono ?_
          rintro e w2 ⟨a7, n7, c7, b7, m7, d7, rs7, rfl, hs7, hb7⟩
          have hz7 := hb7.size
          have hal := hb7.alloc hz7 (.cells #[.slice a7 n7 c7, .slice b7 m7 d7] 52)
          have B8 := Lib.hid (BW.out.trans (hal.mono hszj))
          have X8 := Lib.hid (XW.out.on hal); have Y8 := Lib.hid (YW.out.on hal); have S68 := Lib.hid (S6.out.keep hal)
          have S78 : Hid (StO (w2.alloc (.cells #[.slice a7 n7 c7, .slice b7 m7 d7] 52)) v1.heap.size v2.heap.size (v2.heap.size + 1) a7 n7 c7 b7 m7 d7 rs7 s7) := Lib.hid ((StO.new hs7 (by omega) (by omega) (by omega)).keep ((Below.refl _ w2).alloc (Nat.le_refl _) _))
          clear x0 x1 hs7 hb7 hal TR q0
          have x0 := X8.out.c 0 _ rfl; have x1 := X8.out.c 1 _ rfl; have xf0 := X8.out.z 0 (show 0 < 2 by decide); have xf1 := X8.out.z 1 (show 1 < 2 by decide)
          go_wp2_with fail
          go_roundw
          case rel => exact ⟨k + 1, _, _, _, _, _, _, _, _, _, _, _, _, _, _, _, _, hlt, by go_num, Lib.hid (below_set2 B8.out (by omega) _ _), Lib.hid (X8.out.set2 _ _), Lib.hid ((Y8.out.other (i := 0) (by omega) _).other (i := 1) (by omega) _), Lib.hid (S78.out.setA _ _), Lib.hid (S68.out.setA _ _), HR7, R8⟩
          case measure => simp [intOf]; omega
    · obtain rfl : k = m := by omega
      have hl : S.vols.length = k := HS2.out.vlen
      have hv5 : s5.vols = [] := by rw [R5.out.2, ← hl, List.drop_length]
      obtain rfl : m5 = 0 := by rw [← S5.out.1.vlen, hv5]; rfl
      obtain rfl : n5 = 0 := by rw [← S5.out.1.len, Vo.bag_empty R5.out.1 (by rw [hv5]; intro v hv; cases hv)]; rfl
      obtain rfl : n6 = 0 := by rw [← S6.out.1.len, Vo.bag_empty R6.out.1 (by rw [R6.out.2, ← hl]; exact Vo.clN_empty S.vols)]; rfl
      have x0 := XW.out.c 0 _ rfl; have x1 := XW.out.c 1 _ rfl; have y0 := YW.out.c 0 _ rfl
      clear hl hv5
      go_wp2_with fail
      go_ret
      exact ⟨rfl, HB2.out.trans (BW.out.mono HB2.out.size)⟩

end Go.Proofs.Yteddendidjhmbaa
