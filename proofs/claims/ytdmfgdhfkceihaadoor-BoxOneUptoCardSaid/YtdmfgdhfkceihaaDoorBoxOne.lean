/- BoxOne: compressing an opened string yields the same bytes; upto the second form's bound. -/
import Derived.Test.YtdmfgdhfkceihaaDoorBoxW2
import Derived.Test.YtdmfgdhfkceihaaDoorBulk
import Derived.Test.YtdmfgdhfkceihaaDoorShut
namespace Go.Proofs.YtdmfgdhfkceihaaDoor
open Go.RowKit Go.Shelf

theorem Open_a (w : World) : Calls Tryd.prog 22 #[.string ⟨#[0, 97]⟩] w fun e w' => e = .returned (.tuple #[.string ⟨#[97]⟩, .int .i64 0]) ∧ Below w.heap.size w w' := by
  have := Open_to ⟨#[0, 97]⟩ w (by decide)
  rwa [show openV (⟨#[0, 97]⟩ : ByteArray).data.toList = some [97] from by kernel_rfl] at this

theorem open60 : openV (0 :: List.replicate 60 97) = none := by kernel_rfl

set_option maxRecDepth 100000 in
set_option maxHeartbeats 4000000 in
theorem bone_core (b : ByteArray) (w : World) (hb : b.size ≤ 1048576) :
    Calls Tryd.prog 8 #[.string b] w fun e w' => e = .returned (.bool true) ∧ Below w.heap.size w w' := by
  obtain ⟨A60, hA⟩ : ∃ A : ByteArray, A.data.toList = List.replicate 60 97 := ⟨⟨(List.replicate 60 97).toArray⟩, by simp⟩
  have R1 : ∀ w, Calls Tryd.prog 16 #[.string ⟨#[97]⟩, .int .i64 60] w fun e w' => e = .returned (.string A60) ∧ Below w.heap.size w w' := fun w => rep_as 97 A60 60 w hA (by omega)
  have hAs := size_of_list hA
  rw [List.length_replicate] at hAs
  have hcl : ((⟨#[0]⟩ : ByteArray) ++ A60).data.toList = 0 :: List.replicate 60 97 := by rw [ByteArray.data_append, Array.toList_append, hA]; rfl
  have hcs : ((⟨#[0]⟩ : ByteArray) ++ A60).size = 61 := by rw [ByteArray.size_append, hAs]; rfl
  have O1 : ∀ w, Calls Tryd.prog 22 #[.string ((⟨#[0]⟩ : ByteArray) ++ A60)] w fun e w' => e = .returned (.tuple #[.string ⟨#[]⟩, .int .i64 3]) ∧ Below w.heap.size w w' := fun w => by
    have := Open_to ((⟨#[0]⟩ : ByteArray) ++ A60) w (by omega)
    rwa [hcl, open60] at this
  have O2 := fun w => Open_to b w (by omega)
  clear hcl hA
  cases ho : openV b.data.toList with
  | none =>
    rw [ho] at O2
    have O3 : ∀ w, Calls Tryd.prog 22 #[.string b] w fun e w' => e = .returned (.tuple #[.string ⟨#[]⟩, .int .i64 3]) ∧ Below w.heap.size w w' := O2
    clear O2 ho
    go_enter Tryd.func8, Tryd.ntmps8
    go_wp2_with fail
    with_reducible refine (Open_a _).mono ?_
    rintro e w1 ⟨rfl, hb1⟩
    have HB1 := Lib.hid hb1
    clear hb1
    go_wp2_with fail
    with_reducible refine (R1 _).mono ?_
    rintro e w2 ⟨rfl, hb2⟩
    have HB2 := Lib.hid (HB1.out.trans (hb2.mono HB1.out.size))
    clear hb2 HB1 R1
    go_wp2_with fail
    with_reducible refine (O1 _).mono ?_
    rintro e w3 ⟨rfl, hb3⟩
    have HB3 := Lib.hid (HB2.out.trans (hb3.mono HB2.out.size))
    clear hb3 HB2 O1
    go_wp2_with fail
    with_reducible refine (O3 _).mono ?_
    rintro e w4 ⟨rfl, hb4⟩
    have HB4 := Lib.hid (HB3.out.trans (hb4.mono HB3.out.size))
    clear hb4 HB3 O3
    go_wp2_with fail
    go_ret
    exact ⟨rfl, HB4.out⟩
  | some t =>
    rw [ho] at O2
    obtain ⟨ht6, hts⟩ := openV_back ho
    obtain ⟨T, hT⟩ : ∃ T : ByteArray, T = ⟨t.toArray⟩ := ⟨_, rfl⟩
    have hTl : T.data.toList = t := by rw [hT]
    have hTs := size_of_list hTl
    have O3 : ∀ w, Calls Tryd.prog 22 #[.string b] w fun e w' => e = .returned (.tuple #[.string T, .int .i64 0]) ∧ Below w.heap.size w w' := fun w => by rw [hT]; exact O2 w
    have S1 := fun w => Shut_ok T b w (by omega) (by rw [hTl, hts])
    clear O2 ho ht6 hts hT hTl hTs
    go_enter Tryd.func8, Tryd.ntmps8
    go_wp2_with fail
    with_reducible refine (Open_a _).mono ?_
    rintro e w1 ⟨rfl, hb1⟩
    have HB1 := Lib.hid hb1
    clear hb1
    go_wp2_with fail
    with_reducible refine (R1 _).mono ?_
    rintro e w2 ⟨rfl, hb2⟩
    have HB2 := Lib.hid (HB1.out.trans (hb2.mono HB1.out.size))
    clear hb2 HB1 R1
    go_wp2_with fail
    with_reducible refine (O1 _).mono ?_
    rintro e w3 ⟨rfl, hb3⟩
    have HB3 := Lib.hid (HB2.out.trans (hb3.mono HB2.out.size))
    clear hb3 HB2 O1
    go_wp2_with fail
    with_reducible refine (O3 _).mono ?_
    rintro e w4 ⟨rfl, hb4⟩
    have HB4 := Lib.hid (HB3.out.trans (hb4.mono HB3.out.size))
    clear hb4 HB3 O3
    go_wp2_with fail
    with_reducible refine (S1 _).mono ?_
    rintro e w5 ⟨rfl, hb5⟩
    have HB5 := Lib.hid (HB4.out.trans (hb5.mono HB4.out.size))
    clear hb5 HB4 S1
    go_wp2_with fail
    go_ret
    exact ⟨by first | rfl | simp, HB5.out⟩

theorem boxOne_walk (b : ByteArray) (hb : b.size ≤ 1048576) (w : World) :
    Calls Tryd.prog 8 #[.string b] w fun e w' => e = .returned (.bool true) ∧ Below w.heap.size w w' :=
  bone_core b w hb

end Go.Proofs.YtdmfgdhfkceihaaDoor
