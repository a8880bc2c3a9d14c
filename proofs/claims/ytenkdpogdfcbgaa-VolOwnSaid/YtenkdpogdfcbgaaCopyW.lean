/- diff.Copy on a right state. -/
import Derived.Test.YtenkdpogdfcbgaaDiffW
namespace Go.Proofs.Ytenkdpogdfcbgaa
open Go.RowKit

/-- One place is copied. -/
def Vo.copy1 (xs : List Bg.Id) (nm1 nm2 : ByteArray) (s : Vo.St) (i : Nat) : Vo.An :=
  if xs.length ≤ i then ⟨Vo.st0, 1⟩ else if (xs.getD i Bg.noId).is = true then Vo.writeR s nm2 (i : Int) (Vo.readR s nm1 (i : Int)).1 else Vo.trimR s nm2 (i : Int)
/-- Some places are copied. -/
def Vo.copyN (xs : List Bg.Id) (nm1 nm2 : ByteArray) : Vo.St → List Nat → Vo.An
  | s, [] => ⟨s, 0⟩
  | s, i :: l => if (Vo.copy1 xs nm1 nm2 s i).e ≠ 0 then ⟨Vo.st0, (Vo.copy1 xs nm1 nm2 s i).e⟩ else Vo.copyN xs nm1 nm2 (Vo.copy1 xs nm1 nm2 s i).s l
/-- What diff.Copy answers. -/
def Vo.copyR (s : Vo.St) (nm1 nm2 : ByteArray) (l : List Nat) : Vo.An :=
  if (Vo.blocksR s nm1).2 ≠ 0 then ⟨Vo.st0, (Vo.blocksR s nm1).2⟩ else if (Vo.blocksR s nm2).2 ≠ 0 then ⟨Vo.st0, (Vo.blocksR s nm2).2⟩ else Vo.copyN (Vo.blocksR s nm1).1 nm1 nm2 s l

theorem copy1_right {xs : List Bg.Id} {nm1 nm2 : ByteArray} {s : Vo.St} (h : Vo.Right s) (i : Nat) : Vo.Right (Vo.copy1 xs nm1 nm2 s i).s := by
  unfold Vo.copy1
  split
  · exact Vo.right0
  · split
    · exact Vo.vwrite_right h _ _ _
    · exact Vo.trim_right h _ _

theorem copyN_right {xs : List Bg.Id} {nm1 nm2 : ByteArray} : ∀ {l : List Nat} {s : Vo.St}, Vo.Right s → Vo.Right (Vo.copyN xs nm1 nm2 s l).s
  | [], _, h => h
  | i :: l, s, h => by
    unfold Vo.copyN
    split
    · exact Vo.right0
    · exact copyN_right (copy1_right h i)

theorem copyR_right {s : Vo.St} (h : Vo.Right s) (nm1 nm2 : ByteArray) (l : List Nat) : Vo.Right (Vo.copyR s nm1 nm2 l).s := by
  unfold Vo.copyR
  split
  · exact Vo.right0
  · split
    · exact Vo.right0
    · exact copyN_right h

/-- What is read is small. -/
theorem read_small {s : Vo.St} (h : Vo.Right s) (name : ByteArray) (at_ : Int) : (Vo.readR s name at_).1.size ≤ maxLen := by
  have hz : Bg.noText.size ≤ maxLen := Nat.zero_le _
  unfold Vo.readR
  split
  · exact hz
  · split
    · unfold Bg.getR
      split
      · exact hz
      · split
        · exact hz
        · rename_i j _
          cases hx : s.bag[j]? with
          | some x =>
            obtain ⟨hi, rfl⟩ := List.getElem?_eq_some_iff.1 hx
            exact good_small h.bag _ (List.getElem_mem hi)
          | none => exact hz
    · exact hz

theorem nat_at {w : World} {base n c k : Nat} {a : Option Addr} {xs : List Nat} (h : w.ownsRow base 3 1 (.slice a n c) n (iv xs)) (hk : k < xs.length) : ∃ g, a = some ⟨g, 0, none⟩ ∧ g < w.heap.size ∧ w.cell? ⟨g, k, none⟩ = some (.int .i64 (xs[k] : Int)) := by
  have hl : xs.length = n := (int_cells h).1
  obtain ⟨g, cap, hv, -, hg⟩ := h.form (show 0 < n by omega)
  cases hv
  refine ⟨g, rfl, hg, ?_⟩
  have hc := h.cellAt k (by omega)
  unfold iv at hc
  rw [hc, List.getElem?_map, List.getElem?_eq_getElem hk]
  rfl

/-- A state that lies apart from two boxes. -/
def StP (w : World) (base A B : Nat) (a : Option Addr) (n c : Nat) (b : Option Addr) (m d : Nat) (rs : List Rw) (s : Vo.St) : Prop :=
  StW w base a n c b m d rs s ∧ (∀ v ∈ sls a n c b m d rs, v.ownBlock ≠ some A) ∧ ∀ v ∈ sls a n c b m d rs, v.ownBlock ≠ some B

section
variable {w w' : World} {base base' A B : Nat} {a b : Option Addr} {n c m d : Nat} {rs : List Rw} {s : Vo.St}
theorem StP.keep (h : StP w base A B a n c b m d rs s) (hb : Below w.heap.size w w') : StP w' base A B a n c b m d rs s := ⟨h.1.keep hb, h.2⟩
theorem StP.setA (h : StP w base A B a n c b m d rs s) (u0 u1 : Value) : StP ((w.setCell ⟨A, 0, none⟩ u0).setCell ⟨A, 1, none⟩ u1) base A B a n c b m d rs s := ⟨(h.1.other h.2.1 u0).other h.2.1 u1, h.2⟩
theorem StP.setB (h : StP w base A B a n c b m d rs s) (u0 u1 : Value) : StP ((w.setCell ⟨B, 0, none⟩ u0).setCell ⟨B, 1, none⟩ u1) base A B a n c b m d rs s := ⟨(h.1.other h.2.2 u0).other h.2.2 u1, h.2⟩
theorem StP.new (h : StW w base' a n c b m d rs s) (hA : A < base') (hB : B < base') (hb : base ≤ base') : StP w base A B a n c b m d rs s := ⟨h.low hb, h.off hA, h.off hB⟩
theorem StP.first (h : StW w base' a n c b m d rs s) (hA : A < base') (hB : w.heap.size ≤ B) (hb : base ≤ base') : StP w base A B a n c b m d rs s :=
  ⟨h.low hb, h.off hA, fun v hv e => by have := (h.lt v hv B e).2; omega⟩
end

theorem copy_result {tmps : Array Value} {W : World} {B : Nat} {v0 v1 e : Value} (h2 : tmps.getD 8 undef = .pointer (some ⟨B, 0, none⟩)) (h3 : tmps.getD 9 undef = e) (h : Bxs W B [v0, v1]) :
    (results Try.f86 tmps).run Try.prog W = .ok (.tuple #[.agg #[v0, v1], e]) W := by
  have c0 := h.c 0 _ rfl; have c1 := h.c 1 _ rfl
  have hq : tmps[8]?.getD undef = .pointer (some ⟨B, 0, none⟩) := by simpa using h2
  have hr : tmps[9]?.getD undef = e := by simpa using h3
  simp [results, Try.results86, hq, hr, go_sem, c0, c1]

set_option maxRecDepth 100000 in
set_option maxHeartbeats 8000000 in
theorem Copy_V (a b : Option Addr) (n c m d base : Nat) (rs : List Rw) (s : Vo.St) (nm1 nm2 : ByteArray) (x : Option Addr) (p q base2 : Nat) (ls : List Nat) (w : World) (hS : StW w base a n c b m d rs s) (hR : Vo.Right s) (hL : w.ownsRow base2 3 1 (.slice x p q) p (iv ls)) (hp : p ≤ 1000) :
    Calls Try.prog 86 #[.agg #[.slice a n c, .slice b m d], .string nm1, .string nm2, .slice x p q] w (StTo w (Vo.copyR s nm1 nm2 ls)) := by
  have hm : m ≤ 6 := by rw [← hS.vlen]; exact hR.len
  have hn : n ≤ 64 := by rw [← hS.len]; exact hR.bag.len
  obtain ⟨w0, hw0, hB, hX, hY⟩ := deed_boxes w a b n c m d
  have HCP : Hid (∀ W, Below w.heap.size w W → Calls Try.prog 136 #[.agg #[.slice a n c, .slice b m d]] W (StMade W s)) := Lib.hid fun W hb => Copied_V a b n c m d base rs s W (hS.keep hb) (by omega) (by omega) fun v hv => by have := (hR.vol v hv).len; omega
  have HS := Lib.hid (hS.keep hB); have HB := Lib.hid hB; have HX := Lib.hid hX; have HY := Lib.hid hY; have HR := Lib.hid hR
  have HL := Lib.hid (own_keep hL hB)
  have HLL := Lib.hid (int_cells hL).1
  have L1 := blocks_small hR nm1
  have K1 := Blocks_V a b n c m d base rs s nm1 _ HS.out hR
  obtain ⟨R, hQ⟩ : ∃ R, Vo.copyR s nm1 nm2 ls = R := ⟨_, rfl⟩
  rw [hQ]
  unfold Vo.copyR at hQ
  obtain ⟨R1, h1⟩ : ∃ R, Vo.blocksR s nm1 = R := ⟨_, rfl⟩
  obtain ⟨R2, h2⟩ : ∃ R, Vo.blocksR s nm2 = R := ⟨_, rfl⟩
  rw [h1] at K1 L1 hQ
  rw [h2] at hQ
  have H2 := Lib.hid h2
  obtain ⟨xs, e1⟩ := R1
  obtain ⟨ys, e2⟩ := R2
  dsimp only at L1 hQ
  have HQ := Lib.hid hQ
  have hlx := hX.lt
  have hly := hY.lt
  have x0 := hX.c 0 _ rfl; have x1 := hX.c 1 _ rfl
  clear hS hR hB hX hY hL h1 h2 hQ
  go_enter Try.func86, Try.ntmps86
  go_wp2_with fail
  with_reducible refine K1.mono ?_
  rintro e w1 ⟨a1, p1, q1, rfl, o1, l1, hb1⟩
  dsimp only at o1 l1
  have HB1 := Lib.hid (HB.out.trans (hb1.mono HB.out.size))
  have HX1 := Lib.hid (HX.out.on hb1); have HY1 := Lib.hid (HY.out.on hb1)
  have HS1 := Lib.hid (HS.out.keep hb1)
  have HL1 := Lib.hid (own_keep HL.out hb1)
  have HO1 := Lib.hid o1
  have hz1 := HB1.out.size
  obtain rfl : xs.length = p1 := l1
  clear x0 x1 o1 hb1 K1
  by_cases h1 : e1 = 0
  · subst h1
    have HQ := Lib.hid (HQ.out)
    have x0 := HX1.out.c 0 _ rfl; have x1 := HX1.out.c 1 _ rfl
    have K2 := Blocks_V a b n c m d base rs s nm2 _ HS1.out HR.out
    rw [H2.out] at K2
    go_wp2_with fail
    with_reducible refine K2.mono ?_
    rintro e w2 ⟨a2, p2, q2, rfl, o2, l2, hb2⟩
    have HB2 := Lib.hid (HB1.out.trans (hb2.mono HB1.out.size))
    have HX2 := Lib.hid (HX1.out.on hb2); have HY2 := Lib.hid (HY1.out.on hb2)
    have HS2 := Lib.hid (HS1.out.keep hb2)
    have HL2 := Lib.hid (own_keep HL1.out hb2)
    have HO2 := Lib.hid (own_keep HO1.out hb2)
    have hz2 := HB2.out.size
    clear x0 x1 o2 l2 hb2 K2
    by_cases h2 : e2 = 0
    · subst h2
      have HQ3 : Hid (Vo.copyN xs nm1 nm2 s ls = R) := Lib.hid (by
        have := HQ.out
        rwa [if_neg (by decide), if_neg (by decide)] at this)
      clear HQ
      have x0 := HX2.out.c 0 _ rfl; have x1 := HX2.out.c 1 _ rfl
      go_wp2_with fail
      with_reducible refine (HCP.out _ HB2.out).mono ?_
      rintro e w3 ⟨a4, n4, c4, b4, m4, d4, rs4, rfl, hs4, hb3⟩
      have hly2 := HY2.out.lt
      have hz3 := hb3.size
      have hal := (Below.refl _ w3).alloc (Nat.le_refl _) (.cells #[.slice a4 n4 c4, .slice b4 m4 d4] 53)
      have HB3 := Lib.hid ((HB2.out.trans (hb3.mono HB2.out.size)))
      have HY3 := Lib.hid (HY2.out.on hb3)
      have HL3 := Lib.hid (own_keep HL2.out hb3)
      have HO3 := Lib.hid (own_keep HO2.out hb3)
      have HAL := Lib.hid hal
      have HV3 := Lib.hid (bxs_new w3 53 #[.slice a4 n4 c4, .slice b4 m4 d4] [.slice a4 n4 c4, .slice b4 m4 d4] rfl)
      have HS3 : Hid (StP (w3.alloc (.cells #[.slice a4 n4 c4, .slice b4 m4 d4] 53)) w2.heap.size (w.heap.size + 1) w3.heap.size a4 n4 c4 b4 m4 d4 rs4 s) := Lib.hid ((StP.first hs4 hly2 (Nat.le_refl _) (Nat.le_refl _)).keep hal)
      have hly3 := HY3.out.lt
      clear x0 x1 hs4 hb3 hal
      go_wp2_with fail
      go_loopw [44] (fun x wr => ∃ (k : Nat) (a5 : Option Addr) (n5 c5 : Nat) (b5 : Option Addr) (m5 d5 : Nat) (rs5 : List Rw) (s5 : Vo.St), k ≤ p ∧ x = .int .i64 k ∧ Hid (Below w3.heap.size w3 wr) ∧ Hid (Bxs wr w3.heap.size [.slice a5 n5 c5, .slice b5 m5 d5]) ∧ Hid (StP wr w2.heap.size (w.heap.size + 1) w3.heap.size a5 n5 c5 b5 m5 d5 rs5 s5) ∧ Hid (Vo.Right s5 ∧ Vo.copyN xs nm1 nm2 s5 (ls.drop k) = R)) (fun x _ => p - (intOf x).toNat)
      case atStart => exact ⟨0, a4, n4, c4, b4, m4, d4, rs4, s, Nat.zero_le _, rfl, HAL, HV3, HS3, Lib.hid ⟨HR.out, HQ3.out⟩⟩
      case round =>
        obtain ⟨k, a5, n5, c5, b5, m5, d5, rs5, s5, hk, rfl, BW, XW, SW, QW⟩ := hrel
        have hsz := BW.out.size
        have HYW := Lib.hid (HY3.out.on BW.out)
        have y0 := HYW.out.c 0 _ rfl; have y1 := HYW.out.c 1 _ rfl; have yf0 := HYW.out.z 0 (show 0 < 2 by decide); have yf1 := HYW.out.z 1 (show 1 < 2 by decide)
        by_cases hlt : k < p
        · have hkl : k < ls.length := by rw [HLL.out]; exact hlt
          obtain ⟨g, rfl, hg, d0⟩ := nat_at (own_keep HL3.out BW.out) hkl
          have HC : Hid ((if (Vo.copy1 xs nm1 nm2 s5 ls[k]).e ≠ 0 then (⟨Vo.st0, (Vo.copy1 xs nm1 nm2 s5 ls[k]).e⟩ : Vo.An) else Vo.copyN xs nm1 nm2 (Vo.copy1 xs nm1 nm2 s5 ls[k]).s (ls.drop (k + 1))) = R) := Lib.hid (by
            have := QW.out.2
            rw [List.drop_eq_getElem_cons hkl] at this
            exact this)
          generalize ls[k] = i at *
          have hi0 : (0 : Int) ≤ (i : Int) := by omega
          have HR5 := Lib.hid QW.out.1
          clear QW
          by_cases hil : i < xs.length
          · obtain ⟨g2, rfl, hg2, -, q0, q1, q2⟩ := dv_at (own_keep HO3.out BW.out) hil
            have h1 : (i : Int) < (xs.length : Int) := by omega
            have HC2 : Hid (Vo.copy1 xs nm1 nm2 s5 i = if xs[i].is = true then Vo.writeR s5 nm2 (i : Int) (Vo.readR s5 nm1 (i : Int)).1 else Vo.trimR s5 nm2 (i : Int)) := Lib.hid (by
              unfold Vo.copy1
              rw [if_neg (by omega), List.getD_eq_getElem?_getD, List.getElem?_eq_getElem hil, Option.getD_some])
            generalize xs[i].is = z at *
            cases z with
            | false =>
              have x0 := XW.out.c 0 _ rfl; have x1 := XW.out.c 1 _ rfl
              have HC3 : Hid (Vo.copy1 xs nm1 nm2 s5 i = Vo.trimR s5 nm2 (i : Int)) := Lib.hid (by rw [HC2.out, if_neg (by decide)])
              have BW5 := BW; have XW5 := XW
              have WR := Trim_V a5 b5 n5 c5 m5 d5 _ rs5 s5 nm2 (i : Int) _ SW.out.1 HR5.out
              clear HC2
              rw [← HC3.out] at WR
              have HRN := Lib.hid (copy1_right (xs := xs) (nm1 := nm1) (nm2 := nm2) HR5.out i)
              have hsz5 := BW5.out.size
              clear HC3
              generalize Vo.copy1 xs nm1 nm2 s5 i = RN at *
              obtain ⟨s7, E7⟩ := RN
              go_wp2_with fail
              with_reducible refine WR.mono ?_
              rintro e w6 ⟨a7, n7, c7, b7, m7, d7, rs7, rfl, hs7, hb7⟩
              dsimp only at hs7
              have hz7 := hb7.size
              have BW6 := Lib.hid (BW5.out.trans (hb7.mono hsz5))
              have XW6 := Lib.hid (XW5.out.on hb7)
              have HY6 := Lib.hid (HY3.out.on BW6.out)
              have SW6 : Hid (StP w6 w2.heap.size (w.heap.size + 1) w3.heap.size a7 n7 c7 b7 m7 d7 rs7 s7) := Lib.hid (StP.new hs7 (by omega) (Nat.lt_of_lt_of_le XW5.out.lt (Nat.le_refl _)) (by omega))
              clear x0 x1 hs7 hb7 WR y0 y1 yf0 yf1 q0 q1 q2 d0
              have x0 := XW6.out.c 0 _ rfl; have x1 := XW6.out.c 1 _ rfl; have xf0 := XW6.out.z 0 (show 0 < 2 by decide); have xf1 := XW6.out.z 1 (show 1 < 2 by decide)
              by_cases he : E7 = 0
              · subst he
                have HN2 : Hid (Vo.copyN xs nm1 nm2 s7 (ls.drop (k + 1)) = R) := Lib.hid (by have := HC.out; rwa [if_neg (fun h => h rfl)] at this)
                clear HC
                go_wp2_with fail
                go_roundw
                case rel => exact ⟨k + 1, _, _, _, _, _, _, _, _, hlt, by go_num, Lib.hid (below_set2 BW6.out (Nat.le_refl _) _ _), Lib.hid (XW6.out.set2 _ _), Lib.hid (SW6.out.setB _ _), Lib.hid ⟨HRN.out, HN2.out⟩⟩
                case measure => simp [intOf]; omega
              · have hb : ((E7 : Int) != 0) = true := bne_iff_ne.2 (by omega)
                have HN2 : Hid ((⟨Vo.st0, E7⟩ : Vo.An) = R) := Lib.hid (by have := HC.out; rwa [if_pos he] at this)
                clear HC
                have y0 := HY6.out.c 0 _ rfl; have y1 := HY6.out.c 1 _ rfl; have yf0 := HY6.out.z 0 (show 0 < 2 by decide); have yf1 := HY6.out.z 1 (show 1 < 2 by decide)
                have hne : w3.heap.size ≠ w.heap.size + 1 := by omega
                go_wp2_with fail
                refine bodyPost_ret (copy_result (B := w.heap.size + 1) rfl rfl (((HY6.out.other (i := 0) hne _).other (i := 1) hne _).set2 _ _)) rfl ?_
                rw [← HN2.out]
                exact stTo_err (below_set2 (below_set2 (HB3.out.trans (BW6.out.mono HB3.out.size)) (by omega) _ _) (by omega) _ _)
            | true =>
              have x0 := XW.out.c 0 _ rfl; have x1 := XW.out.c 1 _ rfl
              have HC3 : Hid (Vo.copy1 xs nm1 nm2 s5 i = Vo.writeR s5 nm2 (i : Int) (Vo.readR s5 nm1 (i : Int)).1) := Lib.hid (by rw [HC2.out, if_pos rfl])
              have RD := Read_V a5 b5 n5 c5 m5 d5 _ rs5 s5 nm1 (i : Int) _ SW.out.1 HR5.out
              have hts := read_small HR5.out nm1 (i : Int)
              generalize (Vo.readR s5 nm1 (i : Int)).1 = T at *
              generalize (Vo.readR s5 nm1 (i : Int)).2 = TE at *
              clear HC2
              go_wp2_with fail
              with_reducible refine RD.mono ?_
              rintro e w5 ⟨rfl, hb5⟩
              have BW5 := Lib.hid (BW.out.trans (hb5.mono hsz))
              have XW5 := Lib.hid (XW.out.on hb5)
              have SW5 := Lib.hid (SW.out.keep hb5)
              clear hb5 RD x0 x1 y0 y1 yf0 yf1 q0 q1 q2 d0
              have x0 := XW5.out.c 0 _ rfl; have x1 := XW5.out.c 1 _ rfl
              have WR := Write_V a5 b5 n5 c5 m5 d5 _ rs5 s5 nm2 T (i : Int) _ SW5.out.1 HR5.out hts
              rw [← HC3.out] at WR
              have HRN := Lib.hid (copy1_right (xs := xs) (nm1 := nm1) (nm2 := nm2) HR5.out i)
              have hsz5 := BW5.out.size
              clear HC3
              generalize Vo.copy1 xs nm1 nm2 s5 i = RN at *
              obtain ⟨s7, E7⟩ := RN
              go_wp2_with fail
              with_reducible refine WR.mono ?_
              rintro e w6 ⟨a7, n7, c7, b7, m7, d7, rs7, rfl, hs7, hb7⟩
              dsimp only at hs7
              have hz7 := hb7.size
              have BW6 := Lib.hid (BW5.out.trans (hb7.mono hsz5))
              have XW6 := Lib.hid (XW5.out.on hb7)
              have HY6 := Lib.hid (HY3.out.on BW6.out)
              have SW6 : Hid (StP w6 w2.heap.size (w.heap.size + 1) w3.heap.size a7 n7 c7 b7 m7 d7 rs7 s7) := Lib.hid (StP.new hs7 (by omega) (Nat.lt_of_lt_of_le XW5.out.lt (Nat.le_refl _)) (by omega))
              clear x0 x1 hs7 hb7 WR
              have x0 := XW6.out.c 0 _ rfl; have x1 := XW6.out.c 1 _ rfl; have xf0 := XW6.out.z 0 (show 0 < 2 by decide); have xf1 := XW6.out.z 1 (show 1 < 2 by decide)
              by_cases he : E7 = 0
              · subst he
                have HN2 : Hid (Vo.copyN xs nm1 nm2 s7 (ls.drop (k + 1)) = R) := Lib.hid (by have := HC.out; rwa [if_neg (fun h => h rfl)] at this)
                clear HC
                go_wp2_with fail
                go_roundw
                case rel => exact ⟨k + 1, _, _, _, _, _, _, _, _, hlt, by go_num, Lib.hid (below_set2 BW6.out (Nat.le_refl _) _ _), Lib.hid (XW6.out.set2 _ _), Lib.hid (SW6.out.setB _ _), Lib.hid ⟨HRN.out, HN2.out⟩⟩
                case measure => simp [intOf]; omega
              · have hb : ((E7 : Int) != 0) = true := bne_iff_ne.2 (by omega)
                have HN2 : Hid ((⟨Vo.st0, E7⟩ : Vo.An) = R) := Lib.hid (by have := HC.out; rwa [if_pos he] at this)
                clear HC
                have y0 := HY6.out.c 0 _ rfl; have y1 := HY6.out.c 1 _ rfl; have yf0 := HY6.out.z 0 (show 0 < 2 by decide); have yf1 := HY6.out.z 1 (show 1 < 2 by decide)
                have hne : w3.heap.size ≠ w.heap.size + 1 := by omega
                go_wp2_with fail
                refine bodyPost_ret (copy_result (B := w.heap.size + 1) rfl rfl (((HY6.out.other (i := 0) hne _).other (i := 1) hne _).set2 _ _)) rfl ?_
                rw [← HN2.out]
                exact stTo_err (below_set2 (below_set2 (HB3.out.trans (BW6.out.mono HB3.out.size)) (by omega) _ _) (by omega) _ _)
          · have h1 : ¬ (i : Int) < (xs.length : Int) := by omega
            have h2 : (xs.length : Int) ≤ (i : Int) := by omega
            have HE : Hid ((⟨Vo.st0, 1⟩ : Vo.An) = R) := Lib.hid (by
              have h := HC.out
              have h3 : Vo.copy1 xs nm1 nm2 s5 i = ⟨Vo.st0, 1⟩ := by unfold Vo.copy1; rw [if_pos (by omega)]
              rw [h3] at h
              exact h)
            clear HC
            go_wp2_with fail
            refine bodyPost_ret (copy_result (B := w.heap.size + 1) rfl rfl (HYW.out.set2 _ _)) rfl ?_
            rw [← HE.out]
            exact stTo_err (below_set2 (HB3.out.trans (BW.out.mono HB3.out.size)) (by omega) _ _)
        · obtain rfl : k = p := by omega
          have HE : Hid ((⟨s5, 0⟩ : Vo.An) = R) := Lib.hid (by
            have := QW.out.2
            rw [← HLL.out, List.drop_length] at this
            exact this)
          have x0 := XW.out.c 0 _ rfl; have x1 := XW.out.c 1 _ rfl
          go_wp2_with fail
          refine bodyPost_ret (copy_result (B := w.heap.size + 1) rfl rfl (HYW.out.set2 _ _)) rfl ?_
          rw [← HE.out]
          exact ⟨_, _, _, _, _, _, _, rfl, ((SW.out.setA _ _).1).low hz2, below_set2 (HB3.out.trans (BW.out.mono HB3.out.size)) (by omega) _ _⟩
    · have hb : ((e2 : Int) != 0) = true := bne_iff_ne.2 (by omega)
      have HQ3 : Hid ((⟨Vo.st0, e2⟩ : Vo.An) = R) := Lib.hid (by
        have := HQ.out
        rwa [if_neg (by decide), if_pos h2] at this)
      clear HQ
      have y0 := HY2.out.c 0 _ rfl; have y1 := HY2.out.c 1 _ rfl; have yf0 := HY2.out.z 0 (show 0 < 2 by decide); have yf1 := HY2.out.z 1 (show 1 < 2 by decide)
      go_wp2_with fail
      refine bodyPost_ret (copy_result (B := w.heap.size + 1) rfl rfl (HY2.out.set2 _ _)) rfl ?_
      rw [← HQ3.out]
      exact stTo_err (below_set2 HB2.out (by omega) _ _)
  · have hb : ((e1 : Int) != 0) = true := bne_iff_ne.2 (by omega)
    have HQ3 : Hid ((⟨Vo.st0, e1⟩ : Vo.An) = R) := Lib.hid (by
      have := HQ.out
      rwa [if_pos h1] at this)
    clear HQ
    have y0 := HY1.out.c 0 _ rfl; have y1 := HY1.out.c 1 _ rfl; have yf0 := HY1.out.z 0 (show 0 < 2 by decide); have yf1 := HY1.out.z 1 (show 1 < 2 by decide)
    go_wp2_with fail
    refine bodyPost_ret (copy_result (B := w.heap.size + 1) rfl rfl (HY1.out.set2 _ _)) rfl ?_
    rw [← HQ3.out]
    exact stTo_err (below_set2 HB1.out (by omega) _ _)

end Go.Proofs.Ytenkdpogdfcbgaa
