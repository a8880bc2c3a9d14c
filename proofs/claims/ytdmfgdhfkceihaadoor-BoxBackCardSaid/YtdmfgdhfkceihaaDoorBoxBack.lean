/- BoxBack: Open inverts Shut, which adds at most one byte; for every input; what was there stands below. -/
import Derived.Test.YtdmfgdhfkceihaaDoorBoxW2
import Derived.Test.YtdmfgdhfkceihaaDoorShut
namespace Go.Proofs.YtdmfgdhfkceihaaDoor
open Go.RowKit Go.Shelf

theorem Shut_a (w : World) : Calls Tryd.prog 14 #[.string ⟨#[97]⟩] w fun e w' => e = .returned (.tuple #[.string ⟨#[0, 97]⟩, .int .i64 0]) ∧ Below w.heap.size w w' :=
  Shut_ok ⟨#[97]⟩ ⟨#[0, 97]⟩ w (by decide) (by kernel_rfl)

theorem sh60 : (Bx.sh (List.replicate 60 97)).length ≤ 5 := by decide +kernel

set_option maxRecDepth 100000 in
set_option maxHeartbeats 4000000 in
theorem bback_core (s : ByteArray) (w : World) (hs : s.size ≤ maxLen) :
    Calls Tryd.prog 7 #[.string s] w fun e w' => e = .returned (.bool true) ∧ Below w.heap.size w w' := by
  obtain ⟨A60, hA⟩ : ∃ A : ByteArray, A.data.toList = List.replicate 60 97 := ⟨⟨(List.replicate 60 97).toArray⟩, by simp⟩
  have R1 : ∀ w, Calls Tryd.prog 16 #[.string ⟨#[97]⟩, .int .i64 60] w fun e w' => e = .returned (.string A60) ∧ Below w.heap.size w w' := fun w => rep_as 97 A60 60 w hA (by omega)
  have hAs := size_of_list hA
  rw [List.length_replicate] at hAs
  obtain ⟨B60, hB⟩ : ∃ B : ByteArray, B.data.toList = Bx.sh A60.data.toList := ⟨⟨(Bx.sh A60.data.toList).toArray⟩, by simp⟩
  have hBs := size_of_list hB
  have hB5 : B60.size ≤ 5 := by rw [hBs, hA]; exact sh60
  have S1 := fun w => Shut_ok A60 B60 w (by omega) hB
  clear hA hB hBs hAs
  by_cases h6 : s.size ≤ 600
  · have hl : s.data.toList.length = s.size := Array.length_toList ..
    obtain ⟨B, hB⟩ : ∃ B : ByteArray, B.data.toList = Bx.sh s.data.toList := ⟨⟨(Bx.sh s.data.toList).toArray⟩, by simp⟩
    have hBs := size_of_list hB
    have hsl := (Bx.sh_length s.data.toList).1
    rw [← hBs, hl] at hsl
    have S2 := fun w => Shut_ok s B w h6 hB
    have O1 := fun w => Open_to B w (by omega)
    rw [hB, openV_sh (by omega)] at O1
    have O2 : ∀ w, Calls Tryd.prog 22 #[.string B] w fun e w' => e = .returned (.tuple #[.string s, .int .i64 0]) ∧ Below w.heap.size w w' := fun w => by
      have := O1 w
      unfold OpenZ at this
      dsimp only at this
      rwa [ba_of _ s rfl] at this
    clear O1 hB hBs hl
    go_enter Tryd.func7, Tryd.ntmps7
    go_wp2_with fail
    with_reducible refine (Shut_a _).mono ?_
    rintro e w1 ⟨rfl, hb1⟩
    have HB1 := Lib.hid hb1
    clear hb1
    go_wp2_with fail
    with_reducible refine (R1 _).mono ?_
    rintro e w2 ⟨rfl, hb2⟩
    have HB2 := Lib.hid (HB1.out.trans (hb2.mono HB1.out.size))
    clear hb2 HB1 R1
    go_wp2_with fail
    with_reducible refine (S1 _).mono ?_
    rintro e w3 ⟨rfl, hb3⟩
    have HB3 := Lib.hid (HB2.out.trans (hb3.mono HB2.out.size))
    clear hb3 HB2 S1
    go_wp2_with fail
    with_reducible refine (S2 _).mono ?_
    rintro e w4 ⟨rfl, hb4⟩
    have HB4 := Lib.hid (HB3.out.trans (hb4.mono HB3.out.size))
    clear hb4 HB3 S2
    go_wp2_with fail
    with_reducible refine (O2 _).mono ?_
    rintro e w5 ⟨rfl, hb5⟩
    have HB5 := Lib.hid (HB4.out.trans (hb5.mono HB4.out.size))
    clear hb5 HB4 O2
    go_wp2_with fail
    go_ret
    exact ⟨by first | rfl | (simp; done) | (simp; omega), HB5.out⟩
  · have S2 := fun w => Shut_bad s w (by omega) hs
    go_enter Tryd.func7, Tryd.ntmps7
    go_wp2_with fail
    with_reducible refine (Shut_a _).mono ?_
    rintro e w1 ⟨rfl, hb1⟩
    have HB1 := Lib.hid hb1
    clear hb1
    go_wp2_with fail
    with_reducible refine (R1 _).mono ?_
    rintro e w2 ⟨rfl, hb2⟩
    have HB2 := Lib.hid (HB1.out.trans (hb2.mono HB1.out.size))
    clear hb2 HB1 R1
    go_wp2_with fail
    with_reducible refine (S1 _).mono ?_
    rintro e w3 ⟨rfl, hb3⟩
    have HB3 := Lib.hid (HB2.out.trans (hb3.mono HB2.out.size))
    clear hb3 HB2 S1
    go_wp2_with fail
    with_reducible refine (S2 _).mono ?_
    rintro e w4 ⟨rfl, hb4⟩
    have HB4 := Lib.hid (HB3.out.trans (hb4.mono HB3.out.size))
    clear hb4 HB3 S2
    go_wp2_with fail
    go_ret
    exact ⟨rfl, HB4.out⟩

theorem boxBack_walk (s : ByteArray) (hs : s.size ≤ maxLen) (w : World) :
    Calls Tryd.prog 7 #[.string s] w fun e w' => e = .returned (.bool true) ∧ Below w.heap.size w w' :=
  bback_core s w hs

end Go.Proofs.YtdmfgdhfkceihaaDoor
