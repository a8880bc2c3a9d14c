/- The walks of vol.Name and log.Check. -/
import Derived.Test.YthccdoejnklidaaLogP
import Derived.Test.YthccdoejnklidaaUse
namespace Go.Proofs.Ythccdoejnklidaa
open Go.RowKit

theorem empty_list (s : ByteArray) : s.toList.isEmpty = s.data.toList.isEmpty := by rw [ByteArray.toList_eq]

theorem empty_size {s : ByteArray} (h : s.toList.isEmpty = true) : s.size = 0 := by
  rw [empty_list, List.isEmpty_iff] at h
  have : s.data.toList.length = s.size := Array.length_toList ..
  rw [← this, h]; rfl

theorem empty_not {s : ByteArray} (h : s.toList.isEmpty = false) : 0 < s.size := by
  have : s.data.toList.length = s.size := Array.length_toList ..
  rw [empty_list] at h
  rcases hl : s.data.toList with _ | ⟨x, r⟩
  · rw [hl] at h; cases h
  · rw [hl, List.length_cons] at this; omega

set_option maxRecDepth 100000 in
set_option maxHeartbeats 4000000 in
theorem Name_any (s : ByteArray) (w : World) (hs : s.size ≤ maxLen) :
    Calls Try.prog 41 #[.string s] w fun e w' => e = .returned (.bool (Lg.nmB s.data.toList)) ∧ w = w' := by
  have hl : s.data.toList.length = s.size := Array.length_toList ..
  unfold maxLen at hs
  cases he : s.toList.isEmpty with
  | true =>
    have hb : Lg.nmB s.data.toList = false := by unfold Lg.nmB; rw [← empty_list, he]; rfl
    rw [hb]
    clear hb hl
    go_enter Try.func41, Try.ntmps41
    go_wp2_with fail
    go_ret
    exact ⟨rfl, rfl⟩
  | false =>
    by_cases h12 : 12 < s.size
    · have hb : Lg.nmB s.data.toList = false := by unfold Lg.nmB; rw [decide_eq_false (by omega), Bool.false_and, Bool.and_false]
      rw [hb]
      clear hb hl
      go_enter Try.func41, Try.ntmps41
      go_wp2_with fail
      go_ret
      exact ⟨rfl, rfl⟩
    · obtain ⟨b, hb⟩ : ∃ b, Lg.nmB s.data.toList = b := ⟨_, rfl⟩
      have hb2 : s.data.toList.all Lg.nc = b := by rw [← hb]; unfold Lg.nmB; rw [← empty_list, he, decide_eq_true (by omega)]; rfl
      rw [hb]
      have HB := Lib.hid hb2
      clear hb hb2
      go_enter Try.func41, Try.ntmps41
      go_wp2_with fail
      go_loop [13] (fun x => ∃ i : Nat, i ≤ s.size ∧ x = .int .i64 i ∧ Hid ((s.data.toList.take i).all Lg.nc = true)) (fun x => s.size - (intOf x).toNat)
      case atStart => exact ⟨0, Nat.zero_le _, rfl, Lib.hid rfl⟩
      case round =>
        obtain ⟨i, hi, rfl, hA⟩ := hrel
        by_cases hlt : i < s.size
        · have hil : i < s.data.toList.length := by omega
          have ix := idx_str Try.underlying9 (s := s) (x := (i : Int)) (k := i) rfl hlt
          have hbt : bt s.data.toList i = ((s.data.toList[i]).toNat : Int) := by unfold bt; rw [getD_in _ _ _ hil]
          have hA1 := Lg.all_take hil hA.out
          have hA2 := Lg.all_false (p := Lg.nc) hil
          rw [hbt] at ix
          generalize s.data.toList[i] = c at *
          obtain ⟨x1, h1⟩ : ∃ x, decide (97 ≤ (c.toNat : Int)) = x := ⟨_, rfl⟩
          obtain ⟨x2, h2⟩ : ∃ x, decide ((c.toNat : Int) ≤ 122) = x := ⟨_, rfl⟩
          obtain ⟨x3, h3⟩ : ∃ x, decide (48 ≤ (c.toNat : Int)) = x := ⟨_, rfl⟩
          obtain ⟨x4, h4⟩ : ∃ x, decide ((c.toNat : Int) ≤ 57) = x := ⟨_, rfl⟩
          have hnc := Lg.nc_eq c h1 h2 h3 h4
          have HA1 := Lib.hid hA1
          have HA2 := Lib.hid hA2
          have HN := Lib.hid hnc
          clear hbt hA1 hA2 hnc hA hl hil
          rcases x1 with _ | _ <;> rcases x2 with _ | _ <;> rcases x3 with _ | _ <;> rcases x4 with _ | _
          all_goals
            go_wp2_with fail
            first
              | (go_round
                 case rel => exact ⟨i + 1, hlt, by go_num, Lib.hid (by rw [HA1.out, HN.out]; rfl)⟩
                 case measure => simp [intOf]; omega)
              | (go_ret
                 obtain rfl : b = false := by rw [← HB.out, HA2.out (by rw [HN.out]; rfl)]
                 exact ⟨rfl, rfl⟩)
        · obtain rfl : i = s.size := by omega
          have hA3 : s.data.toList.all Lg.nc = true := by have := hA.out; rwa [List.take_of_length_le (by omega)] at this
          have hbb : b = true := by rw [← HB.out, hA3]
          subst hbb
          clear hA3 hA hl
          go_wp2_with fail
          go_ret
          exact ⟨rfl, rfl⟩

end Go.Proofs.Ythccdoejnklidaa
