/- MatchIs: what match.Longest tells stands there, no longer text does in the window, and none as long nearer; for every input. -/
import Derived.Test.YtkgdgamlmanobaaMatchW
import Derived.Test.YtkgdgamlmanobaaWithin
namespace Go.Proofs.Ytkgdgamlmanobaa
open Go.RowKit

theorem longest_c1 (w : World) : Calls Try.prog 7 #[.string ⟨#[97, 98, 97, 98]⟩, .int .i64 2, .int .i64 9] w
    fun e w' => e = .returned (.tuple #[.int .i64 2, .int .i64 2, .int .i64 0]) ∧ ∃ n, w' = w.drewN n :=
  longest_ok ⟨#[97, 98, 97, 98]⟩ 2 9 w (by decide) (by decide) (by decide) (by decide)

set_option maxHeartbeats 400000 in
theorem matchIs_large (s : ByteArray) (i win d n : Int) (w : World) (h : 600 < s.size) (hs : s.size ≤ maxLen) :
    Calls Try.prog 3 #[.string s, .int .i64 i, .int .i64 win, .int .i64 d, .int .i64 n] w fun e w' => e = .returned (.bool true) ∧ ∃ n, w' = w.drewN n := by
  unfold maxLen at hs
  go_enter Try.func3, Try.ntmps3
  go_wp2_with fail
  refine (longest_c1 _).mono ?_
  rintro e w' ⟨rfl, n1, rfl⟩
  go_wp2_with fail
  refine (longest_large s i win _ h hs).mono ?_
  rintro e w' ⟨rfl, rfl⟩
  go_wp2_with fail
  go_ret
  first | exact ⟨rfl, _, rfl⟩ | exact ⟨rfl, _, dd _ _ _⟩

set_option maxHeartbeats 400000 in
theorem matchIs_arg (s : ByteArray) (i win d n : Int) (w : World) (h : s.size ≤ 600) (hb : i < 0 ∨ s.size < i ∨ win < 1 ∨ 256 < win) :
    Calls Try.prog 3 #[.string s, .int .i64 i, .int .i64 win, .int .i64 d, .int .i64 n] w fun e w' => e = .returned (.bool true) ∧ ∃ n, w' = w.drewN n := by
  have HB := Lib.hid hb; clear hb
  go_enter Try.func3, Try.ntmps3
  go_wp2_with fail
  refine (longest_c1 _).mono ?_
  rintro e w' ⟨rfl, n1, rfl⟩
  go_wp2_with fail
  refine (longest_arg s i win _ h HB.out).mono ?_
  rintro e w' ⟨rfl, rfl⟩
  go_wp2_with fail
  go_ret
  first | exact ⟨rfl, _, rfl⟩ | exact ⟨rfl, _, dd _ _ _⟩

theorem neg_false {b : Bool} (h : b = true) : (!b) = false := by rw [h]; rfl

set_option maxRecDepth 100000 in
set_option maxHeartbeats 4000000 in
theorem matchIs_ok (s : ByteArray) (i win : Nat) (d n : Int) (w : World) (h : s.size ≤ 600) (h1 : i ≤ s.size) (h2 : 1 ≤ win) (h3 : win ≤ 256) :
    Calls Try.prog 3 #[.string s, .int .i64 i, .int .i64 win, .int .i64 d, .int .i64 n] w fun e w' => e = .returned (.bool true) ∧ ∃ n, w' = w.drewN n := by
  have HC := Lib.hid (fun w => longest_ok s i win w h h1 h2 h3)
  have hm : min win i ≤ i := by omega
  have hsz : s.data.toList.length = s.size := by simp
  have f1 := Mt.best_is s.data.toList i (min win i)
  have f2 := Mt.best_in s.data.toList i (min win i) (by omega)
  have f3 := Mt.best_same s.data.toList i (min win i) hm
  have f4 := fun d n => Mt.best_wins s.data.toList i (min win i) d n hm
  have f5 := Mt.best_most s.data.toList i (min win i)
  generalize (Mt.best s.data.toList i (min win i)).1 = X at *
  generalize (Mt.best s.data.toList i (min win i)).2 = Y at *
  have HD := Lib.hid (fun w => within_any d 300 300 w rfl (by omega) (by omega))
  have HN := Lib.hid (fun w => within_any n 65 65 w rfl (by omega) (by omega))
  have d1 := wi_lt d 300 (by omega)
  have n1 := wi_lt n 65 (by omega)
  generalize wi d 300 = d' at *
  generalize wi n 65 = n' at *
  have a1 : X ≤ i := by omega
  have a2 : i + Y ≤ s.size := by omega
  have a3 : Y = 0 ↔ X = 0 := by omega
  have g1 : decide ((Y : Int) < 0) = false := by simp
  have g2 : decide ((X : Int) < 0) = false := by simp
  have g3 : decide (i < X) = false := by simp; omega
  have g4 : decide ((s.size : Int) < i + Y) = false := by simp; omega
  have g5 : (((Y : Int) == 0) == ((X : Int) == 0)) = true := by
    by_cases hy : Y = 0
    · have hx := a3.1 hy; subst hy; subst hx; rfl
    · have hx : X ≠ 0 := fun hx => hy (a3.2 hx)
      rw [show ((Y : Int) == 0) = false from by simpa using hy, show ((X : Int) == 0) = false from by simpa using hx]; rfl
  have g6 : ((s.extract i (i + Y)).toList == (s.extract (i - X) (i - X + Y)).toList) = true := by
    rw [ext_list, ext_list, show i + Y - i = Y from by omega, show i - X + Y - (i - X) = Y from by omega, f3]
    simp
  have G3 := Lib.hid f3; have G1 := Lib.hid f1; have A3 := Lib.hid a3; have F4 := Lib.hid f4
  have HSZ := Lib.hid hsz
  clear f3 f1 a3 f4 hsz f2
  have q1 : IntKind.i64.wrap ((i : Int) + Y) = (i : Int) + Y := wr (by omega)
  have q2 : IntKind.i64.wrap ((i : Int) - X) = (i : Int) - X := wr (by omega)
  have q3 : IntKind.i64.wrap ((i : Int) - X + Y) = (i : Int) - X + Y := wr (by omega)
  have q4 := Lib.hid True.intro
  have x1 := sl_str Try.underlying9 (s := s) (x := (i : Int)) (y := (i : Int) + Y) (a := i) (b := i + Y) (by omega) (by omega) (by omega) (by omega)
  have x2 := sl_str Try.underlying9 (s := s) (x := (i : Int) - X) (y := (i : Int) - X + Y) (a := i - X) (b := i - X + Y) (by omega) (by omega) (by omega) (by omega)
  go_enter Try.func3, Try.ntmps3
  go_wp2_with fail
  refine (longest_c1 _).mono ?_
  rintro e w' ⟨rfl, n1, rfl⟩
  go_wp2_with fail
  refine (HC.out _).mono ?_
  rintro e w' ⟨rfl, n2, rfl⟩
  go_wp2_with fail
  go_quiet (fail)
  clear q1 q2 q3 q4 x1 x2
  go_wp2_with fail
  refine (HD.out _).mono ?_
  rintro e w' ⟨rfl, rfl⟩
  go_wp2_with fail
  refine (HN.out _).mono ?_
  rintro e w' ⟨rfl, rfl⟩
  go_wp2_with fail
  by_cases c1 : d' < 1
  · have b1 : decide ((d' : Int) < 1) = true := by simp; omega
    go_quiet (fail)
    go_wp2_with fail
    go_ret
    first | exact ⟨rfl, _, rfl⟩ | exact ⟨rfl, _, dd _ _ _⟩
  · have b1 : decide ((d' : Int) < 1) = false := by simp; omega
    by_cases c2 : i < d'
    · have b2 : decide (i < d') = true := by simp; omega
      go_quiet (fail)
      go_wp2_with fail
      go_ret
      first | exact ⟨rfl, _, rfl⟩ | exact ⟨rfl, _, dd _ _ _⟩
    · have b2 : decide (i < d') = false := by simp; omega
      by_cases c3 : win < d'
      · have b3 : decide (win < d') = true := by simp; omega
        go_quiet (fail)
        go_wp2_with fail
        go_ret
        first | exact ⟨rfl, _, rfl⟩ | exact ⟨rfl, _, dd _ _ _⟩
      · have b3 : decide (win < d') = false := by simp; omega
        have r1 : IntKind.i64.wrap ((i : Int) + n') = (i : Int) + n' := wr (by omega)
        by_cases c4 : s.size < i + n'
        · have b4 : decide ((s.size : Int) < (i : Int) + n') = true := by simp; omega
          go_quiet (fail)
          go_wp2_with fail
          go_ret
          first | exact ⟨rfl, _, rfl⟩ | exact ⟨rfl, _, dd _ _ _⟩
        · have b4 : decide ((s.size : Int) < (i : Int) + n') = false := by simp; omega
          by_cases c5 : n' < 1
          · have b5 : decide ((n' : Int) < 1) = true := by simp; omega
            go_quiet (fail)
            go_wp2_with fail
            go_ret
            first | exact ⟨rfl, _, rfl⟩ | exact ⟨rfl, _, dd _ _ _⟩
          · have b5 : decide ((n' : Int) < 1) = false := by simp; omega
            have r2 : IntKind.i64.wrap ((i : Int) - d') = (i : Int) - d' := wr (by omega)
            have r3 : IntKind.i64.wrap ((i : Int) - d' + n') = (i : Int) - d' + n' := wr (by omega)
            have y1 := sl_str Try.underlying9 (s := s) (x := (i : Int) - d') (y := (i : Int) - d' + n') (a := i - d') (b := i - d' + n') (by omega) (by omega) (by omega) (by omega)
            have y2 := sl_str Try.underlying9 (s := s) (x := (i : Int)) (y := (i : Int) + n') (a := i) (b := i + n') (by omega) (by omega) (by omega) (by omega)
            have e1 : (s.extract (i - d') (i - d' + n')).toList = (s.data.toList.drop (i - d')).take n' := by rw [ext_list]; congr 1; omega
            have e2 : (s.extract i (i + n')).toList = (s.data.toList.drop i).take n' := by rw [ext_list]; congr 1; omega
            by_cases c6 : (s.extract (i - d') (i - d' + n')).toList = (s.extract i (i + n')).toList
            · have b6 : ((s.extract (i - d') (i - d' + n')).toList == (s.extract i (i + n')).toList) = true := by simpa using c6
              have hw := F4.out d' n' (by omega) (by omega) (by omega) (by omega) (by have := HSZ.out; omega) (by rw [← e1, ← e2]; exact c6)
              clear e1 e2 c6
              by_cases c7 : n' < Y
              · clear hw
                go_quiet (fail)
                clear r1 r2 r3 y1 y2
                go_wp2_with fail
                go_ret
                first | exact ⟨rfl, _, rfl⟩ | exact ⟨rfl, _, dd _ _ _⟩
              · have c8 : Y = n' := by omega
                have c9 : X ≤ d' := by omega
                clear hw
                subst c8
                go_quiet (fail)
                clear r1 r2 r3 y1 y2
                go_wp2_with fail
                go_ret
                first | exact ⟨rfl, _, rfl⟩ | exact ⟨rfl, _, dd _ _ _⟩
            · have b6 : ((s.extract (i - d') (i - d' + n')).toList == (s.extract i (i + n')).toList) = false := by simpa using c6
              clear e1 e2 c6
              go_quiet (fail)
              go_wp2_with fail
              go_ret
              first | exact ⟨rfl, _, rfl⟩ | exact ⟨rfl, _, dd _ _ _⟩

theorem matchIs_walk (a0 : ByteArray) (a1 : Int) (a2 : Int) (a3 : Int) (a4 : Int) (w0 : a0.size ≤ maxLen) (_ : (Lit.int .i64 a1).wf = true) (_ : (Lit.int .i64 a2).wf = true) (_ : (Lit.int .i64 a3).wf = true) (_ : (Lit.int .i64 a4).wf = true) (w : World) :
    Calls Try.prog 3 #[.string a0, .int .i64 a1, .int .i64 a2, .int .i64 a3, .int .i64 a4] w fun e w' => e = .returned (.bool true) ∧ Grown w w' := by
  have key : Calls Try.prog 3 #[.string a0, .int .i64 a1, .int .i64 a2, .int .i64 a3, .int .i64 a4] w fun e w' => e = .returned (.bool true) ∧ ∃ n, w' = w.drewN n := by
    by_cases h : 600 < a0.size
    · exact matchIs_large a0 a1 a2 a3 a4 w h w0
    · by_cases hb : a1 < 0 ∨ a0.size < a1 ∨ a2 < 1 ∨ 256 < a2
      · exact matchIs_arg a0 a1 a2 a3 a4 w (by omega) hb
      · obtain ⟨i, rfl⟩ := Int.eq_ofNat_of_zero_le (show 0 ≤ a1 by omega)
        obtain ⟨win, rfl⟩ := Int.eq_ofNat_of_zero_le (show 0 ≤ a2 by omega)
        exact matchIs_ok a0 i win a3 a4 w (by omega) (by omega) (by omega) (by omega)
  refine key.mono ?_
  rintro e w' ⟨he, n, rfl⟩
  exact ⟨he, grown_drewN _ _⟩

end Go.Proofs.Ytkgdgamlmanobaa
