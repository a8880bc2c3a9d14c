/- The walk of pack.Unbytes. -/
import Derived.Test.YtkdcapjnoapjgaaDoorPkW2
namespace Go.Proofs.YtkdcapjnoapjgaaDoor
open Go.RowKit Go.Shelf

theorem sl_toP {P : Program} {t : TypeId} (hu : P.underlying t = some .string) {s : ByteArray} {y : Int} {b : Nat} (hy : y = b) (hb : b ≤ s.size) :
    ∀ w, (Instr.slice t (.string s) none (some (.int .i64 y)) none).run P w = .ok (.string (s.extract 0 b)) w := by
  intro w
  subst hy
  have := hb
  simp [go_sem, hu]
  omega

theorem ub_take {b : List UInt8} {k : Nat} (hk : k < b.length) : Pk.ub (b.take (k + 1)) = Pk.ub (b.take k) ++ Gm.low b[k].toNat 8 := by
  rw [List.take_succ_eq_append_getElem hk, Pk.ub_app]
  show _ = _
  unfold Pk.ub
  simp

/-- What Unbytes answers. -/
def UnR (l : List UInt8) (e : Ending) : Prop :=
  (Pk.tr (Pk.ub l) ≠ [] ∧ 8 * l.length - (Pk.tr (Pk.ub l)).length ≤ 7 ∧ e = .returned (.tuple #[.string ⟨(Pk.tr (Pk.ub l)).dropLast.toArray⟩, .int .i64 0])) ∨
  ((Pk.tr (Pk.ub l) = [] ∨ 7 < 8 * l.length - (Pk.tr (Pk.ub l)).length) ∧ e = .returned (.tuple #[.string ⟨#[]⟩, .int .i64 3]))

set_option maxRecDepth 100000 in
set_option maxHeartbeats 4000000 in
theorem Unbytes_to (s : ByteArray) (w : World) (hs : s.size ≤ 2000000) :
    Calls Tryd.prog 20 #[.string s] w fun e w' => UnR s.data.toList e ∧ Below w.heap.size w w' := by
  have hl : s.data.toList.length = s.size := Array.length_toList ..
  have HL := Lib.hid hl
  obtain ⟨Z, hZ⟩ : ∃ Z, Pk.tr (Pk.ub s.data.toList) = Z := ⟨_, rfl⟩
  unfold UnR
  rw [hl, hZ]
  have HZt := Lib.hid hZ
  clear hZ
  have HN := Lib.hid (Lib.fresh_isBuilder 59 5 w)
  have HB2 := Lib.hid ((Below.refl _ w).alloc (Nat.le_refl _) (.cells #[.pointer none, .slice none 0 0] 59))
  clear hl
  go_enter Tryd.func20, Tryd.ntmps20
  go_wp2_with fail
  go_loopw [9] (fun i wr => ∃ k : Nat, k ≤ s.size ∧ i = .int .i64 k ∧ Hid (Lib.IsBuilder 59 5 w.heap.size w.heap.size (Lib.byteCells (Pk.ub (s.data.toList.take k))) wr) ∧ Hid (Below w.heap.size w wr)) (fun i _ => s.size - (intOf i).toNat)
  case atStart => exact ⟨0, Nat.zero_le _, rfl, HN, HB2⟩
  case round =>
    obtain ⟨k, hk, rfl, hBl, hB⟩ := hrel
    by_cases hlt : k < s.size
    · have ix := idx_str Tryd.underlying9 (s := s) (x := (k : Int)) (k := k) rfl hlt
      have hk' : k < s.data.toList.length := by rw [HL.out]; exact hlt
      have hbt : bt s.data.toList k = ((s.data.toList[k]).toNat : Int) := by unfold bt; rw [List.getD_eq_getElem?_getD, List.getElem?_eq_getElem hk']; rfl
      rw [hbt] at ix
      have hut := ub_take hk'
      have hyl := (s.data.toList[k]).toNat_lt
      have hlen : (Pk.ub (s.data.toList.take k)).length ≤ 100000000 := by rw [Pk.ub_length, List.length_take]; omega
      have HUT := Lib.hid hut
      clear hut hbt
      generalize (s.data.toList[k]).toNat = Z at *
      clear hk'
      have L1 : ∀ w, Calls Tryd.prog 26 #[.int .i64 Z, .int .i64 8] w fun e w' => e = .returned (.string ⟨(Gm.low Z 8).toArray⟩) ∧ Below w.heap.size w w' := fun w => Low_any Z 8 w (by omega) (by omega)
      obtain ⟨X, hX⟩ : ∃ X : ByteArray, X = ⟨(Gm.low Z 8).toArray⟩ := ⟨_, rfl⟩
      rw [← hX] at L1
      have hXs : X.size = 8 := by rw [hX]; show (List.toArray _).size = _; rw [List.size_toArray, Gm.low_length]
      have hXl : X.data.toList = Gm.low Z 8 := by rw [hX]
      have WM := fun (w3 : World) (h : Lib.IsBuilder 59 5 w.heap.size w.heap.size (Lib.byteCells (Pk.ub (s.data.toList.take k))) w3) (hb : w.heap.size ≤ w3.heap.size) => Write_more w.heap.size w.heap.size _ _ X w3 h hXl hlen (by omega) hb
      clear hX hXl hlen
      go_wp2_with fail
      with_reducible refine (L1 _).mono ?_
      rintro e w2 ⟨rfl, hb2⟩
      have W1 := WM w2 (bld_keep hBl.out hb2) (Nat.le_trans hB.out.size hb2.size)
      have HB4 := Lib.hid (hB.out.trans (hb2.mono hB.out.size))
      clear WM L1 hb2
      go_wp2_with fail
      with_reducible refine W1.mono ?_
      rintro e w3 ⟨rfl, hbl3, hb3⟩
      have HBL3 : Hid (Lib.IsBuilder 59 5 w.heap.size w.heap.size (Lib.byteCells (Pk.ub (s.data.toList.take (k + 1)))) w3) := Lib.hid (by rw [HUT.out]; exact hbl3)
      have HB5 := Lib.hid (HB4.out.trans hb3)
      clear W1 hbl3 hb3
      go_wp2_with fail
      go_roundw
      case rel => exact ⟨k + 1, hlt, by go_num, HBL3, HB5⟩
      case measure => simp [intOf]; omega
    · obtain rfl : k = s.size := by omega
      have S1 := Tryd.Builder_String_any w.heap.size w.heap.size (Pk.ub s.data.toList) wr (by have := hBl.out; rw [List.take_of_length_le (by rw [HL.out]; exact Nat.le_refl _)] at this; exact this) hB.out.size
      have hul := Pk.ub_length s.data.toList
      rw [HL.out] at hul
      obtain ⟨X, hX⟩ : ∃ X : ByteArray, X = ⟨(Pk.ub s.data.toList).toArray⟩ := ⟨_, rfl⟩
      rw [← hX] at S1
      have hXs : X.size = 8 * s.size := by rw [hX]; show (List.toArray _).size = _; rw [List.size_toArray, hul]
      have T1 : ∀ w, Calls Tryd.prog 34 #[.string X, .string ⟨#[48]⟩] w fun e w' => e = .returned (.string ⟨(Pk.tr X.data.toList).toArray⟩) ∧ w' = w := fun w => Tryd.strings_TrimRight_one X 48 (by decide) w (by omega)
      have hXl : X.data.toList = Pk.ub s.data.toList := by rw [hX]
      rw [hXl] at T1
      have htl : (Pk.tr (Pk.ub s.data.toList)).length ≤ 8 * s.size := by
        obtain ⟨j, hj, -⟩ := Pk.tr_split (Pk.ub s.data.toList)
        have := congrArg List.length hj
        rw [List.length_append, hul] at this
        omega
      rw [HZt.out] at htl T1
      obtain ⟨Y, hY⟩ : ∃ Y : ByteArray, Y = ⟨Z.toArray⟩ := ⟨_, rfl⟩
      rw [← hY] at T1
      have hYs : Y.size = Z.length := by rw [hY]; exact List.size_toArray ..
      have hYl : Y.data.toList = Z := by rw [hY]
      have hYe : Y.toList.isEmpty = Z.isEmpty := by rw [ByteArray.toList_eq, hYl]
      clear hX hXl hul hY
      by_cases hz : Z = []
      · have hze : Y.toList.isEmpty = true := by rw [hYe, hz]; rfl
        have HZ := Lib.hid hz
        clear hz hYe hYl
        go_wp2_with fail
        with_reducible refine S1.mono ?_
        rintro e w5 ⟨rfl, hb5⟩
        have HB6 := Lib.hid (hB.out.trans hb5)
        clear S1 hb5
        go_wp2_with fail
        with_reducible refine (T1 _).mono ?_
        rintro e w' ⟨rfl, rfl⟩
        go_wp2_with fail
        go_ret2
        exact ⟨Or.inr ⟨Or.inl HZ.out, rfl⟩, HB6.out⟩
      · have hze : Y.toList.isEmpty = false := by rw [hYe]; cases Z with | nil => exact absurd rfl hz | cons _ _ => rfl
        have hzp : 1 ≤ Y.size := by rw [hYs]; cases Z with | nil => exact absurd rfl hz | cons _ _ => simp
        by_cases h7 : 7 < 8 * s.size - Z.length
        · clear hYe hYl
          have h7i : 7 < (s.size : Int) * 8 - (Y.size : Int) := by omega
          go_wp2_with fail
          with_reducible refine S1.mono ?_
          rintro e w5 ⟨rfl, hb5⟩
          have HB6 := Lib.hid (hB.out.trans hb5)
          clear S1 hb5
          go_wp2_with fail
          with_reducible refine (T1 _).mono ?_
          rintro e w' ⟨rfl, rfl⟩
          go_wp2_with fail
          go_ret2
          exact ⟨Or.inr ⟨Or.inr h7, rfl⟩, HB6.out⟩
        · have h7i : (s.size : Int) * 8 - (Y.size : Int) ≤ 7 := by omega
          have x1 := sl_toP Tryd.underlying9 (s := Y) (y := (Y.size : Int) - 1) (b := Y.size - 1) (by omega) (by omega)
          have HE : Hid (Y.extract 0 (Y.size - 1) = ⟨Z.dropLast.toArray⟩) := Lib.hid (by
            apply ByteArray.ext
            apply Array.toList_inj.mp
            rw [ext_data, hYl, List.drop_zero, List.dropLast_eq_take, hYs]
            simp)
          have h7n : 8 * s.size - Z.length ≤ 7 := by omega
          have hYle : Y.size ≤ 16000000 := by omega
          clear hYe hYl hYs
          generalize Y.extract 0 (Y.size - 1) = T at *
          go_wp2_with fail
          with_reducible refine S1.mono ?_
          rintro e w5 ⟨rfl, hb5⟩
          have HB6 := Lib.hid (hB.out.trans hb5)
          clear S1 hb5
          go_wp2_with fail
          with_reducible refine (T1 _).mono ?_
          rintro e w' ⟨rfl, rfl⟩
          go_wp2_with fail
          go_ret2
          exact ⟨Or.inl ⟨hz, h7n, by rw [← HE.out]; rfl⟩, HB6.out⟩

end Go.Proofs.YtkdcapjnoapjgaaDoor
