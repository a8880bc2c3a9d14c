/- The walk of match.Longest: what it computes, said by a plain function. -/
import Derived.Test.YtdmfgdhfkceihaaMatchP
import Derived.Test.YtdmfgdhfkceihaaBase
namespace Go.Proofs.Ytdmfgdhfkceihaa
open Go.RowKit

set_option maxHeartbeats 400000 in
theorem longest_large (s : ByteArray) (i win : Int) (w : World) (h : 600 < s.size) (hs : s.size ≤ maxLen) :
    Calls Try.prog 26 #[.string s, .int .i64 i, .int .i64 win] w fun e w' => e = .returned (.tuple #[.int .i64 0, .int .i64 0, .int .i64 2]) ∧ w = w' := by
  unfold maxLen at hs
  go_enter Try.func26, Try.ntmps26
  go_wp2
  go_ret3
  exact ⟨rfl, rfl⟩

set_option maxHeartbeats 400000 in
theorem longest_arg (s : ByteArray) (i win : Int) (w : World) (h : s.size ≤ 600) (hb : i < 0 ∨ s.size < i ∨ win < 1 ∨ 256 < win) :
    Calls Try.prog 26 #[.string s, .int .i64 i, .int .i64 win] w fun e w' => e = .returned (.tuple #[.int .i64 0, .int .i64 0, .int .i64 1]) ∧ w = w' := by
  by_cases h1 : i < 0
  · clear hb
    go_enter Try.func26, Try.ntmps26
    go_wp2
    go_ret3
    exact ⟨rfl, rfl⟩
  · by_cases h2 : s.size < i
    · clear hb
      go_enter Try.func26, Try.ntmps26
      go_wp2
      go_ret3
      exact ⟨rfl, rfl⟩
    · by_cases h3 : win < 1
      · clear hb
        go_enter Try.func26, Try.ntmps26
        go_wp2
        go_ret3
        exact ⟨rfl, rfl⟩
      · have h4 : 256 < win := by omega
        clear hb
        go_enter Try.func26, Try.ntmps26
        go_wp2
        go_ret3
        exact ⟨rfl, rfl⟩

set_option maxHeartbeats 1000000 in
theorem longest_ok (s : ByteArray) (i win : Nat) (w : World) (h : s.size ≤ 600) (h1 : i ≤ s.size) (h2 : 1 ≤ win) (h3 : win ≤ 256) :
    Calls Try.prog 26 #[.string s, .int .i64 i, .int .i64 win] w fun e w' => e = .returned (.tuple #[.int .i64 (Mt.best s.data.toList i (min win i)).1, .int .i64 (Mt.best s.data.toList i (min win i)).2, .int .i64 0]) ∧ ∃ n, w' = w.drewN n := by
  have hm : (if i < win then (i : Int) else (win : Int)) = ((min win i : Nat) : Int) := by split <;> omega
  have hm1 : min win i ≤ i := by omega
  have hm2 : min win i ≤ 256 := by omega
  generalize min win i = m at *
  have hbm : ∀ d, (Mt.best s.data.toList i d).2 ≤ 64 := Mt.best_most _ _
  go_enter Try.func26, Try.ntmps26
  go_wp2
  go_loopw [9, 10, 11] (fun a b c wr => ∃ k : Nat, k ≤ m ∧ a = .int .i64 (Mt.best s.data.toList i k).1 ∧ b = .int .i64 (Mt.best s.data.toList i k).2 ∧ c = .int .i64 (k + 1 : Nat) ∧ ∃ n, wr = w.drewN n) (fun _ _ c _ => 300 - (intOf c).toNat)
  case atStart => exact ⟨0, by omega, rfl, rfl, rfl, 0, rfl⟩
  case round =>
    obtain ⟨k, hk, rfl, rfl, rfl, nw, rfl⟩ := hrel
    by_cases hlt : k < m
    · go_wp2
      go_loopw [12] (fun c wr => ∃ n : Nat, n ≤ 64 ∧ i + n ≤ s.size ∧ c = .int .i64 n ∧ Hid (Mt.run s.data.toList i (k + 1) (64 - n) n = Mt.run s.data.toList i (k + 1) 64 0) ∧ ∃ n, wr = w.drewN n) (fun c _ => 64 - (intOf c).toNat)
      case atStart => exact ⟨0, by omega, by omega, rfl, rfl, nw, rfl⟩
      case round =>
        obtain ⟨n, hn, hin, rfl, hr, nw', rfl⟩ := hrel
        by_cases hn6 : n < 64
        · have g1 : decide ((n : Int) < 64) = true := by simp; omega
          by_cases hin6 : i + n < s.size
          · have g2 : decide ((i : Int) + n < s.size) = true := by simp; omega
            have x1 := idx_str Try.underlying9 (s := s) (x := (i : Int) + n) (k := i + n) (by omega) (by omega)
            have x2 := idx_str Try.underlying9 (s := s) (x := (i : Int) + n - (k + 1)) (k := i + n - (k + 1)) (by omega) (by omega)
            have q1 : IntKind.i64.wrap ((i : Int) + n) = (i : Int) + n := wr (by omega)
            have q2 : IntKind.i64.wrap ((i : Int) + n - (k + 1)) = (i : Int) + n - (k + 1) := wr (by omega)
            by_cases hb : bt s.data.toList (i + n) = bt s.data.toList (i + n - (k + 1))
            · have g3 : (bt s.data.toList (i + n) == bt s.data.toList (i + n - (k + 1))) = true := by simpa using hb
              clear hb
              go_wp2_with fail
              go_quiet (fail)
              clear x1 x2 q1 q2
              go_wp2
              go_roundw
              case rel => exact ⟨n + 1, by omega, by omega, by go_num, Lib.hid (by rw [← hr.out, show 64 - n = (64 - (n + 1)) + 1 from by omega]; exact (Mt.run_yes _ _ _ _ _ (by simpa using hin6) ((bt_eq_iff _ _ _ (by simpa using hin6) (by simp; omega)).1 (by simpa using g3))).symm), _, rfl⟩
              case measure => simp [intOf]; omega
            · have g3 : (bt s.data.toList (i + n) == bt s.data.toList (i + n - (k + 1))) = false := by simpa using hb
              clear hb
              go_wp2_with fail
              go_quiet (fail)
              clear x1 x2 q1 q2
              have hz : Mt.run s.data.toList i (k + 1) 64 0 = n := by
                rw [← hr.out, show 64 - n = (64 - (n + 1)) + 1 from by omega]; exact Mt.run_no _ _ _ _ _ (fun h => by have := (bt_eq_iff _ _ _ (by simpa using hin6) (by simp; omega)).2 h.2; simp [this] at g3)
              have HZ := Lib.hid hz; clear hz
              go_wp2
              all_goals go_roundw
              case rel => exact ⟨k + 1, by omega, by rw [Mt.best_up HZ.out ‹_›], by rw [Mt.best_up HZ.out ‹_›], by go_num, _, rfl⟩
              case measure => simp [intOf]; omega
              case rel => exact ⟨k + 1, by omega, by rw [Mt.best_stay HZ.out ‹_›], by rw [Mt.best_stay HZ.out ‹_›], by go_num, _, rfl⟩
              case measure => simp [intOf]; omega
          · have g2 : decide ((i : Int) + n < s.size) = false := by simp; omega
            have q1 : IntKind.i64.wrap ((i : Int) + n) = (i : Int) + n := wr (by omega)
            go_wp2_with fail
            go_quiet (fail)
            clear q1
            have hz : Mt.run s.data.toList i (k + 1) 64 0 = n := by
              rw [← hr.out, show 64 - n = (64 - (n + 1)) + 1 from by omega]; exact Mt.run_no _ _ _ _ _ (fun h => hin6 (by simpa using h.1))
            have HZ := Lib.hid hz; clear hz
            go_wp2
            all_goals go_roundw
            case rel => exact ⟨k + 1, by omega, by rw [Mt.best_up HZ.out ‹_›], by rw [Mt.best_up HZ.out ‹_›], by go_num, _, rfl⟩
            case measure => simp [intOf]; omega
            case rel => exact ⟨k + 1, by omega, by rw [Mt.best_stay HZ.out ‹_›], by rw [Mt.best_stay HZ.out ‹_›], by go_num, _, rfl⟩
            case measure => simp [intOf]; omega
        · have g1 : decide ((n : Int) < 64) = false := by simp; omega
          go_wp2_with fail
          go_quiet (fail)
          have hz : Mt.run s.data.toList i (k + 1) 64 0 = n := by
            rw [← hr.out, show 64 - n = 0 from by omega]; rfl
          have HZ := Lib.hid hz; clear hz
          go_wp2
          all_goals go_roundw
          case rel => exact ⟨k + 1, by omega, by rw [Mt.best_up HZ.out ‹_›], by rw [Mt.best_up HZ.out ‹_›], by go_num, _, rfl⟩
          case measure => simp [intOf]; omega
          case rel => exact ⟨k + 1, by omega, by rw [Mt.best_stay HZ.out ‹_›], by rw [Mt.best_stay HZ.out ‹_›], by go_num, _, rfl⟩
          case measure => simp [intOf]; omega
    · go_wp2
      go_ret3
      obtain rfl : k = m := by omega
      exact ⟨rfl, _, rfl⟩

end Go.Proofs.Ytdmfgdhfkceihaa
