/- The walks of package box: small, Shut, open, Open. -/
import Derived.Test.YtkdcapjnoapjgaaDoorBoxP
import Derived.Test.YtkdcapjnoapjgaaDoorPkK
namespace Go.Proofs.YtkdcapjnoapjgaaDoor
open Go.RowKit Go.Shelf

set_option maxRecDepth 100000 in
set_option maxHeartbeats 4000000 in
theorem small_ok (s Y : ByteArray) (w : World) (hs : s.size ≤ 600) (hY : Y.data.toList = Bx.zip s.data.toList) :
    Calls Tryd.prog 10 #[.string s] w fun e w' => e = .returned (.tuple #[.string Y, .int .i64 0]) ∧ Below w.heap.size w w' := by
  have hl : s.data.toList.length = s.size := Array.length_toList ..
  obtain ⟨hE, hX⟩ := Bx.parse_exp (l := s.data.toList) (by omega)
  obtain ⟨R, hR⟩ : ∃ R : ByteArray, R.data.toList = Pk.bits (Lz.parse s.data.toList 256) := ⟨⟨(Pk.bits (Lz.parse s.data.toList 256)).toArray⟩, by simp⟩
  have hRs := size_of_list hR
  have hfew := Pk.few hE
  rw [Pk.bits_length _ (Pk.expE_ok _ [] hE)] at hRs
  have P1 : ∀ w, Calls Tryd.prog 14 #[.string s, .int .i64 256] w (ParseR w (Lz.parse s.data.toList 256) (Lz.parse s.data.toList 256).length 0) := fun w => Parse_K s s.data.toList 256 _ w rfl hs (by decide) (by decide) rfl
  have X1 := fun (w1 : World) (a : Option Addr) (n c : Nat) (h : KArg w1 a n c (Lz.parse s.data.toList 256)) => Bits_as a n c _ R w1 h hE hR
  have X2 := fun w => Bytes_as R Y (Pk.bits (Lz.parse s.data.toList 256)) w hR (by omega) (Pk.bits_bits _) hY
  generalize Lz.parse s.data.toList 256 = ts at *
  clear hE hX hR hRs hfew hY hl
  go_enter Tryd.func10, Tryd.ntmps10
  go_wp2_with fail
  with_reducible refine (P1 _).mono ?_
  rintro e w1 ⟨a1, c1, rfl, hk1, hb1⟩
  have X3 := X1 w1 _ _ _ hk1
  have HB1 := Lib.hid hb1
  clear P1 X1 hk1 hb1
  go_wp2_with fail
  with_reducible refine X3.mono ?_
  rintro e w2 ⟨rfl, hb2⟩
  have HB2 := Lib.hid (HB1.out.trans (hb2.mono HB1.out.size))
  clear X3 hb2
  go_wp2_with fail
  with_reducible refine (X2 _).mono ?_
  rintro e w3 ⟨rfl, hb3⟩
  have HB3 := Lib.hid (HB2.out.trans (hb3.mono HB2.out.size))
  clear X2 hb3
  go_wp2_with fail
  go_ret2
  exact ⟨rfl, HB3.out⟩

set_option maxRecDepth 100000 in
set_option maxHeartbeats 4000000 in
theorem small_bad (s : ByteArray) (w : World) (hs : 600 < s.size) (hm : s.size ≤ maxLen) :
    Calls Tryd.prog 10 #[.string s] w fun e w' => e = .returned (.tuple #[.string ⟨#[]⟩, .int .i64 2]) ∧ Below w.heap.size w w' := by
  have hp : ParseE s 256 = 2 := by unfold ParseE; rw [if_pos hs]
  have P1 := fun w => Parse_bad s 256 w hm (by rw [hp]; decide)
  rw [hp] at P1
  clear hp
  go_enter Tryd.func10, Tryd.ntmps10
  go_wp2_with fail
  with_reducible refine (P1 _).mono ?_
  rintro e w1 ⟨rfl, hb1⟩
  clear P1
  go_wp2_with fail
  go_ret2
  exact ⟨rfl, hb1⟩

set_option maxRecDepth 100000 in
set_option maxHeartbeats 4000000 in
theorem Shut_ok (s B : ByteArray) (w : World) (hs : s.size ≤ 600) (hB : B.data.toList = Bx.sh s.data.toList) :
    Calls Tryd.prog 4 #[.string s] w fun e w' => e = .returned (.tuple #[.string B, .int .i64 0]) ∧ Below w.heap.size w w' := by
  have hl : s.data.toList.length = s.size := Array.length_toList ..
  obtain ⟨Y, hY⟩ : ∃ Y : ByteArray, Y.data.toList = Bx.zip s.data.toList := ⟨⟨(Bx.zip s.data.toList).toArray⟩, by simp⟩
  have hYs := size_of_list hY
  have hYle := Bx.zip_le (l := s.data.toList) (by omega)
  have S1 := fun w => small_ok s Y w hs hY
  unfold Bx.sh at hB
  rw [← hYs, hl] at hB
  rw [← hYs] at hYle
  by_cases h : Y.size < s.size
  · rw [if_pos h] at hB
    have hBB : (⟨#[1]⟩ : ByteArray) ++ Y = B := by
      apply ByteArray.ext
      apply Array.toList_inj.mp
      rw [hB]
      simp [hY]
    clear hB hY hYs hl
    go_enter Tryd.func4, Tryd.ntmps4
    go_wp2_with fail
    with_reducible refine (S1 _).mono ?_
    rintro e w1 ⟨rfl, hb1⟩
    clear S1
    go_wp2_with fail
    go_ret2
    exact ⟨by rw [← hBB]; rfl, hb1⟩
  · rw [if_neg h] at hB
    have hBB : (⟨#[0]⟩ : ByteArray) ++ s = B := by
      apply ByteArray.ext
      apply Array.toList_inj.mp
      rw [hB]
      simp
    clear hB hY hYs hl
    go_enter Tryd.func4, Tryd.ntmps4
    go_wp2_with fail
    with_reducible refine (S1 _).mono ?_
    rintro e w1 ⟨rfl, hb1⟩
    clear S1
    go_wp2_with fail
    go_ret2
    exact ⟨by rw [← hBB]; rfl, hb1⟩

set_option maxRecDepth 100000 in
set_option maxHeartbeats 4000000 in
theorem Shut_bad (s : ByteArray) (w : World) (hs : 600 < s.size) (hm : s.size ≤ maxLen) :
    Calls Tryd.prog 4 #[.string s] w fun e w' => e = .returned (.tuple #[.string ⟨#[]⟩, .int .i64 2]) ∧ Below w.heap.size w w' := by
  have S1 := fun w => small_bad s w hs hm
  go_enter Tryd.func4, Tryd.ntmps4
  go_wp2_with fail
  with_reducible refine (S1 _).mono ?_
  rintro e w1 ⟨rfl, hb1⟩
  clear S1
  go_wp2_with fail
  go_ret2
  exact ⟨rfl, hb1⟩

/-- What open answers. -/
def OpenR (o : Option (List UInt8)) (e : Ending) : Prop := match o with
  | none => ∃ x : ByteArray, e = .returned (.tuple #[.string x, .bool false])
  | some t => e = .returned (.tuple #[.string ⟨t.toArray⟩, .bool true])

theorem extract1 {s : ByteArray} {b : UInt8} {r : List UInt8} (h : s.data.toList = b :: r) : s.extract 1 s.size = ⟨r.toArray⟩ := by
  apply ByteArray.ext
  apply Array.toList_inj.mp
  rw [extract_list, h]
  rfl

set_option maxRecDepth 100000 in
set_option maxHeartbeats 4000000 in
theorem open_to (s : ByteArray) (w : World) (hs : s.size ≤ 1100000) :
    Calls Tryd.prog 13 #[.string s] w fun e w' => OpenR (Bx.op s.data.toList) e ∧ Below w.heap.size w w' := by
  have hl : s.data.toList.length = s.size := Array.length_toList ..
  have hse := str_empty s
  cases hd : s.data.toList with
  | nil =>
    rw [hd] at hl
    have hse2 : s.toList.isEmpty = true := by rw [hse]; exact decide_eq_true hl.symm
    clear hse
    go_enter Tryd.func13, Tryd.ntmps13
    go_wp2_with fail
    go_ret2
    exact ⟨⟨_, rfl⟩, Below.refl _ _⟩
  | cons b r =>
    rw [hd, List.length_cons] at hl
    have hse2 : s.toList.isEmpty = false := by rw [hse]; exact decide_eq_false (by omega)
    have ix := idx_str Tryd.underlying9 (s := s) (x := 0) (k := 0) rfl (by omega)
    have hbt : bt s.data.toList 0 = (b.toNat : Int) := by rw [hd]; rfl
    rw [hbt] at ix
    have x1 := sl_fromG Tryd.underlying9 (s := s) (x := 1) (a := 1) rfl (by omega)
    rw [extract1 hd] at x1
    obtain ⟨X, hX⟩ : ∃ X : ByteArray, X = ⟨r.toArray⟩ := ⟨_, rfl⟩
    have hXl : X.data.toList = r := by rw [hX]
    have hXs := size_of_list hXl
    rw [← hX] at x1
    have hbl := b.toNat_lt
    have HX := Lib.hid hX
    clear hse hbt hd hX
    by_cases h0 : b = 0
    · subst h0
      have e0 : ((0 : UInt8).toNat : Int) = 0 := rfl
      rw [e0] at ix
      show Calls _ _ _ _ fun e w' => OpenR (some r) e ∧ _
      clear hbl e0
      go_enter Tryd.func13, Tryd.ntmps13
      go_wp2_with fail
      go_ret2
      exact ⟨by have h : (⟨r.toArray⟩ : ByteArray) = X := HX.out.symm; show _ = Ending.returned (.tuple #[.string ⟨r.toArray⟩, .bool true]); rw [h]; rfl, Below.refl _ _⟩
    · by_cases h1 : b = 1
      · subst h1
        have e0 : ((1 : UInt8).toNat : Int) = 1 := rfl
        rw [e0] at ix
        have hop : Bx.op (1 :: r) = (match Bx.un r with | none => none | some t => if (Pk.tkns t).1 ≠ 0 then none else some (Lz.expS [] (Pk.tkns t).2)) := rfl
        have U1 := fun w => Unbytes_to X w (by omega)
        rw [hXl] at U1
        obtain ⟨O, hO⟩ : ∃ O, Bx.op (1 :: r) = O := ⟨_, rfl⟩
        rw [hO] at hop ⊢
        have HOP := Lib.hid hop
        clear hbl e0 hop hO hXl h0
        go_enter Tryd.func13, Tryd.ntmps13
        go_wp2_with fail
        with_reducible refine (U1 _).mono ?_
        rintro e w1 ⟨hU, hb1⟩
        have HB1 := Lib.hid hb1
        clear U1 hb1
        rcases hU with ⟨h2, h7, rfl⟩ | ⟨h2, rfl⟩
        · have hun : Bx.un r = some (Pk.tr (Pk.ub r)).dropLast := by
            unfold Bx.un
            rw [if_neg (by rintro (h | h); · exact h2 h
                           · omega)]
          have hO2 := HOP.out
          rw [hun] at hO2
          dsimp only at hO2
          obtain ⟨j, hj, -⟩ := Pk.tr_split (Pk.ub r)
          have hjl := congrArg List.length hj
          rw [List.length_append, Pk.ub_length] at hjl
          obtain ⟨T, hT⟩ : ∃ T : ByteArray, T = ⟨(Pk.tr (Pk.ub r)).dropLast.toArray⟩ := ⟨_, rfl⟩
          have hTl : T.data.toList = (Pk.tr (Pk.ub r)).dropLast := by rw [hT]
          have hTs := size_of_list hTl
          rw [List.length_dropLast] at hTs
          have K1 := fun w => Tokens_to T w (by omega)
          rw [hTl] at K1
          rw [← hT]
          have hbk : (Pk.tkns (Pk.tr (Pk.ub r)).dropLast).1 = 0 → Lz.expE [] (Pk.tkns (Pk.tr (Pk.ub r)).dropLast).2 = 0 := fun h => (Pk.tkns_back (Prod.ext h rfl)).2.1
          have HO2 := Lib.hid hO2
          clear h2 h7 hun hO2 hj hjl hT hTl hTs HOP
          unfold TokR at K1
          generalize (Pk.tr (Pk.ub r)).dropLast = t at *
          generalize Pk.tkns t = q at *
          obtain ⟨z, ts⟩ := q
          dsimp only at K1 hbk
          go_wp2_with fail
          with_reducible refine (K1 _).mono ?_
          rintro e w2 ⟨a2, n2, c2, rfl, hk2, hb2⟩
          have HB2 := Lib.hid (HB1.out.trans (hb2.mono HB1.out.size))
          have X2 := Expand_as a2 n2 c2 ts _ _ w2 hk2 rfl rfl
          clear K1 hb2 HB1 hk2
          by_cases hz : z = 0
          · subst hz
            rw [hbk rfl] at X2
            have HO3 : Hid (some (Lz.expS [] ts) = O) := Lib.hid (by have := HO2.out; rw [if_neg (by decide)] at this; exact this.symm)
            clear hbk
            go_wp2_with fail
            with_reducible refine X2.mono ?_
            rintro e w3 ⟨rfl, hb3⟩
            have HB3 := Lib.hid (HB2.out.trans (hb3.mono HB2.out.size))
            clear X2 hb3
            go_wp2_with fail
            go_ret2
            exact ⟨by rw [← HO3.out]; rfl, HB3.out⟩
          · have hzb : (z != 0) = true := bne_iff_ne.2 hz
            have HO3 : Hid (none = O) := Lib.hid (by have := HO2.out; rw [if_pos hz] at this; exact this.symm)
            clear hbk X2
            go_wp2_with fail
            go_ret2
            exact ⟨by rw [← HO3.out]; exact ⟨_, rfl⟩, HB2.out⟩
        · have hun : Bx.un r = none := by unfold Bx.un; rw [if_pos h2]
          have HO2 := HOP.out
          rw [hun] at HO2
          have HO3 : Hid (none = O) := Lib.hid HO2.symm
          clear HO2 hun h2
          go_wp2_with fail
          go_ret2
          exact ⟨by rw [← HO3.out]; exact ⟨_, rfl⟩, HB1.out⟩
      · have hop : Bx.op (b :: r) = none := by
          show (if b = 0 then some r else if b = 1 then _ else none) = none
          rw [if_neg h0, if_neg h1]
        rw [hop]
        have hb1 : 1 < (b.toNat : Int) := by
          have e0 : b.toNat ≠ 0 := fun h => h0 (UInt8.toNat_inj.1 h)
          have e1 : b.toNat ≠ 1 := fun h => h1 (UInt8.toNat_inj.1 h)
          omega
        clear hop h0 h1
        generalize b.toNat = bn at *
        go_enter Tryd.func13, Tryd.ntmps13
        go_wp2_with fail
        go_ret2
        exact ⟨⟨_, rfl⟩, Below.refl _ _⟩

end Go.Proofs.YtkdcapjnoapjgaaDoor
