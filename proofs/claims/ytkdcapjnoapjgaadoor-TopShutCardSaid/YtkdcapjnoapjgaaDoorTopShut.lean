/- TopShut: a text that is shut, framed, got and opened again is as it was; a burst of sixteen bits in it is told; what was there stands below. -/
import Derived.Test.YtkdcapjnoapjgaaDoorBoxW2
import Derived.Test.YtkdcapjnoapjgaaDoorFrameK
import Derived.Test.YtkdcapjnoapjgaaDoorPolyW2
import Derived.Test.YtkdcapjnoapjgaaDoorShut
import Derived.Lib.ConvBytes
namespace Go.Proofs.YtkdcapjnoapjgaaDoor
open Go.RowKit Go.Shelf

set_option maxHeartbeats 1000000 in
theorem begun_any : Ans1 5 #[] (.bool true) := fun w => by
  have M : ∀ w, Calls Tryd.prog 11 #[.int .i64 3, .int .i64 3] w fun e w' => e = .returned (.tuple #[.int .i64 5, .int .i64 0]) ∧ w = w' := fun w => Mul_ok 3 3 w (by decide) (by decide) (by decide)
  go_enter Tryd.func5, Tryd.ntmps5
  go_wp2_with fail
  with_reducible refine (M _).mono ?_
  rintro e w' ⟨rfl, rfl⟩
  go_wp2_with fail
  go_ret
  exact ⟨rfl, rfl⟩

/-- Some of sixteen bits, behind three bytes. -/
theorem brs_three (u l : List UInt8) (hu : u.length = 3) (a t : Nat) (ha : a + 16 ≤ 8 * l.length) : ∀ k, k ≤ 16 → brs (u ++ l) (a + 24) t k = u ++ brs l a t k
  | 0, _ => rfl
  | k + 1, hk => by
    have ih := brs_three u l hu a t ha k (by omega)
    have hl := brs_length l a t k
    unfold brs
    rw [ih, show (a + 24 + k) / 8 = 3 + (a + k) / 8 from by omega, show (a + 24 + k) % 8 = (a + k) % 8 from by omega]
    by_cases hb : tb t k = 1
    · rw [if_pos hb, if_pos hb, List.getD_eq_getElem?_getD, List.getD_eq_getElem?_getD, List.getElem?_append_right (by omega), hu, show 3 + (a + k) / 8 - 3 = (a + k) / 8 from by omega, List.set_append_right _ _ (by omega), hu, show 3 + (a + k) / 8 - 3 = (a + k) / 8 from by omega]
    · rw [if_neg hb, if_neg hb]

set_option maxRecDepth 100000 in
set_option maxHeartbeats 1000000 in
theorem topShut_bad (s : ByteArray) (a t : Int) (w : World) (hs : 600 < s.size) (hm : s.size ≤ maxLen) :
    Calls Tryd.prog 3 #[.string s, .int .i64 a, .int .u16 t] w fun e w' => e = .returned (.bool true) ∧ Below w.heap.size w w' := by
  have S1 := fun w => Shut_bad s w hs hm
  have BG := begun_any
  unfold maxLen at hm
  go_enter Tryd.func3, Tryd.ntmps3
  go_wp2_with fail
  with_reducible refine (S1 _).mono ?_
  rintro e w1 ⟨rfl, hb1⟩
  have HB1 := Lib.hid hb1
  clear hb1
  go_wp2_with fail
  with_reducible refine BG.use ?_
  rintro e w' ⟨rfl, rfl⟩
  go_wp2_with fail
  with_reducible refine BG.use ?_
  rintro e w' ⟨rfl, rfl⟩
  go_wp2_with fail
  go_ret
  exact ⟨by first | rfl | (simp; done) | (simp; omega), HB1.out⟩

set_option maxRecDepth 100000 in
set_option maxHeartbeats 4000000 in
theorem topShut_core (s B X Z : ByteArray) (at_ : Int) (A t : Nat) (w : World)
    (S1 : ∀ w, Calls Tryd.prog 4 #[.string s] w fun e w' => e = .returned (.tuple #[.string B, .int .i64 0]) ∧ Below w.heap.size w w')
    (P1 : PutAns 7 B X 0) (G1 : GetAns X 7 B X.size 0)
    (O1 : ∀ w, Calls Tryd.prog 8 #[.string B] w fun e w' => e = .returned (.tuple #[.string s, .int .i64 0]) ∧ Below w.heap.size w w')
    (hX1 : 8 ≤ X.size) (hX2 : X.size ≤ 708) (ht : t < 65536) (hA : Ans1 9 #[.int .i64 at_, .int .i64 (8 * ((X.size : Int) - 3) - 15)] (.int .i64 A)) (hA2 : A + 16 ≤ 8 * (X.size - 3))
    (hZ : Z.data.toList = brs X.data.toList (A + 24) t 16) (G2 : t ≠ 0 → GetAns Z 0 ⟨#[]⟩ 0 6) :
    Calls Tryd.prog 3 #[.string s, .int .i64 at_, .int .u16 t] w fun e w' => e = .returned (.bool true) ∧ Below w.heap.size w w' := by
  have BG := begun_any
  have HZ := Lib.hid hZ
  have HG2 := Lib.hid G2
  clear hZ G2
  have key : ((t : Int) == 0) = true ∨ ((t : Int) == 0) = false := by cases ((t : Int) == 0) <;> simp
  rcases key with h0 | h0
  · clear hA HG2 HZ hA2
    go_enter Tryd.func3, Tryd.ntmps3
    go_wp2_with fail
    with_reducible refine (S1 _).mono ?_
    rintro e w1 ⟨rfl, hb1⟩
    have HB1 := Lib.hid hb1
    clear hb1 S1
    go_wp2_with fail
    with_reducible refine BG.use ?_
    rintro e w' ⟨rfl, rfl⟩
    go_wp2_with fail
    with_reducible refine P1.use ?_
    rintro r w2 ⟨rfl, hb2⟩
    have HB2 := Lib.hid (HB1.out.trans (hb2.mono HB1.out.size))
    clear hb2 HB1 P1
    go_wp2_with fail
    with_reducible refine G1.use ?_
    rintro r w3 ⟨rfl, hb3⟩
    have HB3 := Lib.hid (HB2.out.trans (hb3.mono HB2.out.size))
    clear hb3 HB2 G1
    go_wp2_with fail
    with_reducible refine (O1 _).mono ?_
    rintro e w4 ⟨rfl, hb4⟩
    have hs4 : w3.heap.size < (w3.alloc (.cells #[.int .i64 7, .string B] 29)).heap.size := by rw [World.size_alloc]; omega
    have c0 : w4.cell? ⟨w3.heap.size, 0, none⟩ = some (.int .i64 7) := (hb4.cell (p := ⟨w3.heap.size, 0, none⟩) hs4).trans (new_frame w3 _ _ _).1
    have HB4 := Lib.hid ((HB3.out.alloc HB3.out.size (.cells #[.int .i64 7, .string B] 29)).trans (hb4.mono (by rw [World.size_alloc]; have := HB3.out.size; omega)))
    clear hb4 HB3 O1 hs4
    go_wp2_with fail
    go_ret
    exact ⟨rfl, HB4.out⟩
  · have g2 := HG2.out (by rintro rfl; cases h0)
    clear HG2
    go_enter Tryd.func3, Tryd.ntmps3
    go_wp2_with fail
    with_reducible refine (S1 _).mono ?_
    rintro e w1 ⟨rfl, hb1⟩
    have HB1 := Lib.hid hb1
    clear hb1 S1
    go_wp2_with fail
    with_reducible refine BG.use ?_
    rintro e w' ⟨rfl, rfl⟩
    go_wp2_with fail
    with_reducible refine P1.use ?_
    rintro r w2 ⟨rfl, hb2⟩
    have HB2 := Lib.hid (HB1.out.trans (hb2.mono HB1.out.size))
    clear hb2 HB1 P1
    go_wp2_with fail
    with_reducible refine G1.use ?_
    rintro r w3 ⟨rfl, hb3⟩
    have HB3 := Lib.hid (HB2.out.trans (hb3.mono HB2.out.size))
    clear hb3 HB2 G1
    go_wp2_with fail
    with_reducible refine (O1 _).mono ?_
    rintro e w4 ⟨rfl, hb4⟩
    have hs4 : w3.heap.size < (w3.alloc (.cells #[.int .i64 7, .string B] 29)).heap.size := by rw [World.size_alloc]; omega
    have c0 : w4.cell? ⟨w3.heap.size, 0, none⟩ = some (.int .i64 7) := (hb4.cell (p := ⟨w3.heap.size, 0, none⟩) hs4).trans (new_frame w3 _ _ _).1
    have HB4 := Lib.hid ((HB3.out.alloc HB3.out.size (.cells #[.int .i64 7, .string B] 29)).trans (hb4.mono (by rw [World.size_alloc]; have := HB3.out.size; omega)))
    clear hb4 HB3 O1 hs4
    have kc := Lib.run_convert_string_bytes (P := Tryd.prog) w4 9 32 5 X Tryd.underlying9 Tryd.underlying32 Tryd.underlying5
    have hb0 : Below w4.heap.size w4 (Lib.bytesWorld w4 5 X) := ⟨rfl, rfl, rfl, by rw [Lib.bytesWorld_size]; omega, fun k hk => Lib.bytesWorld_at_old w4 _ X k hk⟩
    have hc0 : ∀ j, j < X.size → (Lib.bytesWorld w4 5 X).cell? ⟨w4.heap.size, j, none⟩ = some (.int .u8 ((X.data.toList.getD j 0).toNat : Int)) := fun j hj => Lib.bytesWorld_cell w4 _ X j hj
    have hf0 : ∀ j, j < X.size → (Lib.bytesWorld w4 5 X).frozen? ⟨w4.heap.size, j, none⟩ = false := by
      intro j hj
      have hz : j < (Lib.bytesCells w4 5 X).size := by unfold Lib.bytesCells; simp; omega
      simp [World.frozen?, Lib.bytesWorld_at_new]
      omega
    generalize hcap : grownCap w4 X.size 0 5 = cap at *
    have HB := Lib.hid hb0; have HC := Lib.hid hc0; have HF := Lib.hid hf0; clear hb0 hc0 hf0 hcap
    go_wp2_with fail
    with_reducible refine hA.use ?_
    rintro e w' ⟨rfl, rfl⟩
    go_wp2_with fail
    have hll : X.data.toList.length = X.size := Array.length_toList ..
    go_loopw [86] (fun i wr => ∃ k : Nat, k ≤ 16 ∧ i = .int .i64 k ∧ Hid (∀ j, j < X.size → wr.cell? ⟨w4.heap.size, j, none⟩ = some (.int .u8 (((brs X.data.toList (A + 24) t k).getD j 0).toNat : Int))) ∧ Hid (∀ j, j < X.size → wr.frozen? ⟨w4.heap.size, j, none⟩ = false) ∧ Hid (Below w4.heap.size w4 wr))
      (fun i _ => 16 - (intOf i).toNat)
    case atStart => exact ⟨0, Nat.zero_le _, rfl, HC, HF, HB⟩
    case round =>
      obtain ⟨k, hk, rfl, hC, hF, hB⟩ := hrel
      by_cases hlt : k < 16
      · have hlen := brs_length X.data.toList (A + 24) t k
        have hb : bits .and .u16 ((t : Int) / 2 ^ (15 - k)) 1 = (tb t k : Int) := u16_bit t k ht
        by_cases hbit : tb t k = 1
        · rw [hbit] at hb
          obtain ⟨q, hq⟩ : ∃ q, q = (A + k) / 8 := ⟨_, rfl⟩
          obtain ⟨qq, hqq⟩ : ∃ qq, qq = (A + 24 + k) / 8 := ⟨_, rfl⟩
          obtain ⟨r, hr⟩ : ∃ r, r = (A + k) % 8 := ⟨_, rfl⟩
          have hrr : r = (A + 24 + k) % 8 := by omega
          have hqs : qq < X.size := by omega
          have hq3 : (3 : Int) + (q : Int) = (qq : Int) := by omega
          have hq1 : ((A : Int) + (k : Int)) / 8 = (q : Int) := by omega
          have hr1 : ((A : Int) + (k : Int)) % 8 = (r : Int) := by omega
          have hq2 : Int.tdiv ((A : Int) + (k : Int)) 8 = (q : Int) := by rw [Int.tdiv_eq_ediv_of_nonneg (by omega)]; exact hq1
          have hr2 : Int.tmod ((A : Int) + (k : Int)) 8 = (r : Int) := by rw [Int.tmod_eq_emod_of_nonneg (by omega)]; exact hr1
          have hr8 : r < 8 := by omega
          have hw1 : IntKind.i64.wrap ((A : Int) + (k : Int)) = (A : Int) + (k : Int) := IntWalk.i64_in _ (by omega)
          have hw2 : IntKind.i64.wrap (qq : Int) = (qq : Int) := IntWalk.i64_in _ (by omega)
          obtain ⟨x, hx⟩ : ∃ x : UInt8, x = (brs X.data.toList (A + 24) t k).getD qq 0 := ⟨_, rfl⟩
          obtain ⟨y, hy⟩ : ∃ y : UInt8, y = x ^^^ UInt8.ofNat (128 / 2 ^ r) := ⟨_, rfl⟩
          have hM : (128 : Int) / 2 ^ r = ((128 / 2 ^ r : Nat) : Int) := by rw [Int.natCast_ediv, Int.natCast_pow]; rfl
          have hMlt : 128 / 2 ^ r < 256 := Nat.lt_of_le_of_lt (Nat.div_le_self _ _) (by omega)
          have hxy : bits .xor .u8 (x.toNat : Int) ((128 / 2 ^ r : Nat) : Int) = (y.toNat : Int) := by
            rw [u8_xor_nat _ _ x.toNat_lt hMlt, hy, UInt8.toNat_xor, UInt8.toNat_ofNat', Nat.mod_eq_of_lt hMlt]
          generalize hMM : 128 / 2 ^ r = M at *
          have HM := Lib.hid hMM; clear hMM
          have hld : wr.drew.cell? ⟨w4.heap.size, qq, none⟩ = some (.int .u8 (x.toNat : Int)) := by rw [hx]; exact hC.out qq hqs
          have hfr : wr.drew.frozen? ⟨w4.heap.size, qq, none⟩ = false := hF.out qq hqs
          have hxl := x.toNat_lt
          have hyl := y.toNat_lt
          have HX := Lib.hid hx; have HY := Lib.hid hy; have HQ := Lib.hid hqq; have HR := Lib.hid hrr
          clear hx hy hq hr hqq hrr
          generalize hxn : x.toNat = xn at *
          generalize hyn : y.toNat = yn at *
          have HXN := Lib.hid hxn; have HYN := Lib.hid hyn
          clear hxn hyn
          go_wp2_with fail
          go_region
          have hC' : Hid (∀ j, j < X.size → ((wr.setCell ⟨w4.heap.size, qq, none⟩ (.int .u8 (yn : Int))).drew).cell? ⟨w4.heap.size, j, none⟩ = some (.int .u8 (((brs X.data.toList (A + 24) t (k + 1)).getD j 0).toNat : Int))) := by
            refine Lib.hid fun j hj => ?_
            have hE : brs X.data.toList (A + 24) t (k + 1) = (brs X.data.toList (A + 24) t k).set qq y := by
              show (if tb t k = 1 then _ else _) = _
              rw [if_pos hbit, ← HQ.out, ← HR.out, ← HX.out, HM.out, HY.out]
            rw [hE]
            show (wr.setCell ⟨w4.heap.size, qq, none⟩ (.int .u8 (yn : Int))).cell? ⟨w4.heap.size, j, none⟩ = _
            by_cases hjq : j = qq
            · subst hjq
              have hld' : wr.cell? ⟨w4.heap.size, j, none⟩ = some (.int .u8 (xn : Int)) := hld
              rw [World.cell?_setCell_same _ _ _ hld', ← HYN.out]
              simp [List.getD, hlen, hll, hj]
            · rw [World.cell?_setCell_other _ _ _ _ (by simp), hC.out j hj]
              simp [List.getD, Ne.symm hjq]
          have hF' : Hid (∀ j, j < X.size → ((wr.setCell ⟨w4.heap.size, qq, none⟩ (.int .u8 (yn : Int))).drew).frozen? ⟨w4.heap.size, j, none⟩ = false) :=
            Lib.hid fun j hj => by rw [show ((wr.setCell ⟨w4.heap.size, qq, none⟩ (.int .u8 (yn : Int))).drew).frozen? ⟨w4.heap.size, j, none⟩ = (wr.setCell ⟨w4.heap.size, qq, none⟩ (.int .u8 (yn : Int))).frozen? ⟨w4.heap.size, j, none⟩ from rfl, World.frozen?_setCell]; exact hF.out j hj
          have hB' : Hid (Below w4.heap.size w4 ((wr.setCell ⟨w4.heap.size, qq, none⟩ (.int .u8 (yn : Int))).drew)) := Lib.hid (hB.out.setCell (Nat.le_refl _) _).drew
          clear hld hfr hC hF hB hb hq1 hr1 hq2 hr2 hw1 hw2 hM hxy
          go_wp2_with fail
          go_round
          case rel => exact ⟨k + 1, hlt, by go_num, hC', hF', hB'⟩
          case measure => simp [intOf]; omega
        · have hb0 : tb t k = 0 := by unfold tb at hbit ⊢; omega
          rw [hb0] at hb
          have hn : brs X.data.toList (A + 24) t (k + 1) = brs X.data.toList (A + 24) t k := by unfold brs; rw [if_neg hbit]; cases k <;> rfl
          go_wp2_with fail
          go_round
          case rel => exact ⟨k + 1, hlt, by go_num, by rw [hn]; exact hC, hF, hB⟩
          case measure => simp [intOf]; omega
      · obtain rfl : k = 16 := by omega
        have hlen := brs_length X.data.toList (A + 24) t 16
        rw [← HZ.out] at hlen hC
        have hcells : ∀ (j : Nat) (hj : j < Z.data.toList.length), wr.cell? ((⟨w4.heap.size, 0, none⟩ : Addr).add j) = some (.int .u8 (Z.data.toList[j].toNat : Int)) := by
          intro j hj
          have h := hC.out j (by omega)
          rw [addr_add, h, List.getD_eq_getElem?_getD, List.getElem?_eq_getElem hj]
          rfl
        have hcv := run_convert_bytes_back (P := Tryd.prog) wr 32 9 5 ⟨w4.heap.size, 0, none⟩ cap Z.data.toList Tryd.underlying32 Tryd.underlying5 Tryd.underlying9 hcells
        rw [hlen, hll, mk_list] at hcv
        have HB5 := Lib.hid (HB4.out.trans (hB.out.mono HB4.out.size))
        clear hcells hlen hll hC hF kc HB4 hB HB HC HF
        go_wp2_with fail
        with_reducible refine g2.use ?_
        rintro r w6 ⟨rfl, hb6⟩
        have HB6 := Lib.hid (HB5.out.trans (hb6.mono HB5.out.size))
        clear hb6 HB5 g2
        go_wp2_with fail
        go_ret
        exact ⟨rfl, HB6.out⟩

theorem topShut_walk (s : ByteArray) (a t : Int) (hs : s.size ≤ maxLen) (_ : (Lit.int .i64 a).wf = true) (wt : (Lit.int .u16 t).wf = true) (w : World) :
    Calls Tryd.prog 3 #[.string s, .int .i64 a, .int .u16 t] w fun e w' => e = .returned (.bool true) ∧ Below w.heap.size w w' := by
  have hb : 0 ≤ t ∧ t < 65536 := by simp [Lit.wf, IntKind.min, IntKind.max, IntKind.signed, IntKind.bits] at wt; omega
  obtain ⟨t, rfl⟩ := Int.eq_ofNat_of_zero_le (show 0 ≤ t by omega)
  by_cases h6 : 600 < s.size
  · exact topShut_bad s a t w h6 hs
  · have hl : s.data.toList.length = s.size := Array.length_toList ..
    obtain ⟨B, hB⟩ : ∃ B : ByteArray, B.data.toList = Bx.sh s.data.toList := ⟨⟨(Bx.sh s.data.toList).toArray⟩, by simp⟩
    have hBs := size_of_list hB
    have hsl := (Bx.sh_length s.data.toList).1
    rw [← hBs, hl] at hsl
    have hB1 : 1 ≤ B.size := by rw [hBs]; unfold Bx.sh; split <;> rw [List.length_cons] <;> omega
    have S1 := fun w => Shut_ok s B w (by omega) hB
    have O1 := fun w => Open_to B w (by omega)
    rw [hB, openV_sh (by omega)] at O1
    have O2 : ∀ w, Calls Tryd.prog 8 #[.string B] w fun e w' => e = .returned (.tuple #[.string s, .int .i64 0]) ∧ Below w.heap.size w w' := fun w => by
      have := O1 w
      unfold OpenZ at this
      dsimp only at this
      rwa [ba_of _ s rfl] at this
    have hBl : B.data.toList.length = B.size := Array.length_toList ..
    obtain ⟨X, hX⟩ : ∃ X : ByteArray, X.data.toList = Fr.enc 7 B.data.toList := ⟨⟨(Fr.enc 7 B.data.toList).toArray⟩, by simp⟩
    have hXl : X.data.toList.length = X.size := Array.length_toList ..
    have hXs : X.size = B.size + 7 := by rw [← hXl, hX, Fr.enc_length, hBl]
    have P1 : PutAns 7 B X 0 := putAns (k := 7) (by omega) (by omega) (by omega) hX
    have hg := Fr.get_enc (k := 7) (b := B.data.toList) (by omega) (by omega) (by omega) []
    rw [List.append_nil, ← hX] at hg
    have G1 := getAns (s := X) (by unfold maxLen; omega) hg
    rw [mk_list, hBl, ← hXs] at G1
    have hA := wi_lt a (8 * (X.size - 3) - 15) (by omega)
    have hw := within_is (k := a) (n := 8 * (X.size - 3) - 15) (N := 8 * ((X.size : Int) - 3) - 15) (by omega) (by omega) (by omega) rfl
    generalize wi a (8 * (X.size - 3) - 15) = A at *
    obtain ⟨Z, hZ⟩ : ∃ Z : ByteArray, Z.data.toList = brs X.data.toList (A + 24) t 16 := ⟨⟨(brs X.data.toList (A + 24) t 16).toArray⟩, by simp⟩
    have hZl : Z.data.toList.length = Z.size := Array.length_toList ..
    have hZs : Z.size = X.size := by rw [← hZl, hZ, brs_length, hXl]
    refine topShut_core s B X Z a A t w S1 P1 G1 O2 (by omega) (by omega) (by omega) hw (by omega) hZ (fun h0 => ?_)
    have hb := Fr.get_burst (k := 7) (b := B.data.toList) (by omega) (by omega) (by omega) (a := A) (t := t) (by omega) (by omega) h0
    have e := brs_three ((Fr.enc 7 B.data.toList).take 3) ((Fr.enc 7 B.data.toList).drop 3) (by rw [List.length_take, ← hX, hXl]; omega) A t (by rw [List.length_drop, ← hX, hXl]; omega) 16 (by omega)
    rw [List.take_append_drop] at e
    rw [← e, ← hX, ← hZ] at hb
    exact getAns (by unfold maxLen; omega) hb

end Go.Proofs.YtkdcapjnoapjgaaDoor
