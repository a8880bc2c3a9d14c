/- MatchGrows: a larger window never shortens a match, and from the next byte on it is at most one shorter; for every input. -/
import Derived.Test.YtkgdgamlmanobaaMatchW
import Derived.Test.YtkgdgamlmanobaaWithin
namespace Go.Proofs.Ytkgdgamlmanobaa
open Go.RowKit

theorem longest_c2 (w : World) : Calls Try.prog 7 #[.string ⟨#[97, 98, 99, 97, 98, 99]⟩, .int .i64 3, .int .i64 2] w
    fun e w' => e = .returned (.tuple #[.int .i64 0, .int .i64 0, .int .i64 0]) ∧ ∃ n, w' = w.drewN n :=
  longest_ok ⟨#[97, 98, 99, 97, 98, 99]⟩ 3 2 w (by decide) (by decide) (by decide) (by decide)

theorem longest_c3 (w : World) : Calls Try.prog 7 #[.string ⟨#[97, 98, 99, 97, 98, 99]⟩, .int .i64 3, .int .i64 3] w
    fun e w' => e = .returned (.tuple #[.int .i64 3, .int .i64 3, .int .i64 0]) ∧ ∃ n, w' = w.drewN n :=
  longest_ok ⟨#[97, 98, 99, 97, 98, 99]⟩ 3 3 w (by decide) (by decide) (by decide) (by decide)

/-- What a call of match.Longest answers, in some order of draws. -/
def LgIs (s : ByteArray) (i win x y e : Int) : Prop :=
  ∀ w, Calls Try.prog 7 #[.string s, .int .i64 i, .int .i64 win] w fun E w' => E = .returned (.tuple #[.int .i64 x, .int .i64 y, .int .i64 e]) ∧ ∃ n, w' = w.drewN n

theorem grows_lo (A B : Int) : (if A < B then A else B) = min A B := by split <;> omega

set_option maxRecDepth 100000 in
set_option maxHeartbeats 1000000 in
theorem matchGrows_err (s : ByteArray) (i a b : Int) (e : Int) (w : World) (he : e = 1 ∨ e = 2)
    (h : ∀ win : Int, 1 ≤ win → win ≤ 256 → LgIs s i win 0 0 e) :
    Calls Try.prog 4 #[.string s, .int .i64 i, .int .i64 a, .int .i64 b] w fun e w' => e = .returned (.bool true) ∧ ∃ n, w' = w.drewN n := by
  have HD := Lib.hid (fun w => within_any a 256 256 w rfl (by omega) (by omega))
  have HN := Lib.hid (fun w => within_any b 256 256 w rfl (by omega) (by omega))
  have d1 := wi_lt a 256 (by omega)
  have n1 := wi_lt b 256 (by omega)
  generalize wi a 256 = A at *
  generalize wi b 256 = B at *
  have h1 := h (1 + A) (by omega) (by omega)
  have h2 := h (1 + B) (by omega) (by omega)
  clear h
  rcases Nat.lt_trichotomy A B with hAB | hAB | hAB
  · rcases he with rfl | rfl
    all_goals
      have H1 := h1
      have H2 := h2
      clear h1 h2
      go_enter Try.func4, Try.ntmps4
      go_wp2_with fail
      refine (longest_c2 _).mono ?_
      rintro e w' ⟨rfl, k1, rfl⟩
      go_wp2_with fail
      refine (longest_c3 _).mono ?_
      rintro e w' ⟨rfl, k2, rfl⟩
      go_wp2_with fail
      refine (HD.out _).mono ?_
      rintro e w' ⟨rfl, rfl⟩
      go_wp2_with fail
      refine (HN.out _).mono ?_
      rintro e w' ⟨rfl, rfl⟩
      go_wp2_with fail
      refine (H1 _).mono ?_
      rintro e w' ⟨rfl, k3, rfl⟩
      go_wp2_with fail
      refine (H2 _).mono ?_
      rintro e w' ⟨rfl, k4, rfl⟩
      go_wp2_with fail
      go_ret
      first | exact ⟨rfl, _, rfl⟩ | exact ⟨rfl, _, dd _ _ _⟩
  · subst hAB
    rcases he with rfl | rfl
    all_goals
      have H1 := h1
      have H2 := h1
      clear h1 h2
      go_enter Try.func4, Try.ntmps4
      go_wp2_with fail
      refine (longest_c2 _).mono ?_
      rintro e w' ⟨rfl, k1, rfl⟩
      go_wp2_with fail
      refine (longest_c3 _).mono ?_
      rintro e w' ⟨rfl, k2, rfl⟩
      go_wp2_with fail
      refine (HD.out _).mono ?_
      rintro e w' ⟨rfl, rfl⟩
      go_wp2_with fail
      refine (HN.out _).mono ?_
      rintro e w' ⟨rfl, rfl⟩
      go_wp2_with fail
      refine (H1 _).mono ?_
      rintro e w' ⟨rfl, k3, rfl⟩
      go_wp2_with fail
      refine (H2 _).mono ?_
      rintro e w' ⟨rfl, k4, rfl⟩
      go_wp2_with fail
      go_ret
      first | exact ⟨rfl, _, rfl⟩ | exact ⟨rfl, _, dd _ _ _⟩
  · rcases he with rfl | rfl
    all_goals
      have H1 := h2
      have H2 := h1
      clear h1 h2
      go_enter Try.func4, Try.ntmps4
      go_wp2_with fail
      refine (longest_c2 _).mono ?_
      rintro e w' ⟨rfl, k1, rfl⟩
      go_wp2_with fail
      refine (longest_c3 _).mono ?_
      rintro e w' ⟨rfl, k2, rfl⟩
      go_wp2_with fail
      refine (HD.out _).mono ?_
      rintro e w' ⟨rfl, rfl⟩
      go_wp2_with fail
      refine (HN.out _).mono ?_
      rintro e w' ⟨rfl, rfl⟩
      go_wp2_with fail
      refine (H1 _).mono ?_
      rintro e w' ⟨rfl, k3, rfl⟩
      go_wp2_with fail
      refine (H2 _).mono ?_
      rintro e w' ⟨rfl, k4, rfl⟩
      go_wp2_with fail
      go_ret
      first | exact ⟨rfl, _, rfl⟩ | exact ⟨rfl, _, dd _ _ _⟩

set_option maxRecDepth 100000 in
set_option maxHeartbeats 1000000 in
theorem matchGrows_ok (s : ByteArray) (i : Nat) (a b : Int) (w : World) (hs : s.size ≤ 600) (hi : i ≤ s.size) :
    Calls Try.prog 4 #[.string s, .int .i64 i, .int .i64 a, .int .i64 b] w fun e w' => e = .returned (.bool true) ∧ ∃ n, w' = w.drewN n := by
  have HD := Lib.hid (fun w => within_any a 256 256 w rfl (by omega) (by omega))
  have HN := Lib.hid (fun w => within_any b 256 256 w rfl (by omega) (by omega))
  have d1 := wi_lt a 256 (by omega)
  have n1 := wi_lt b 256 (by omega)
  generalize wi a 256 = A at *
  generalize wi b 256 = B at *
  have hlen : s.data.toList.length = s.size := by simp
  -- the less and the greater window
  obtain ⟨lo, hi', hlo, hhi, hle⟩ : ∃ lo hi' : Nat, lo = min (1 + A) (1 + B) ∧ hi' = max (1 + A) (1 + B) ∧ lo ≤ hi' := ⟨_, _, rfl, rfl, by omega⟩
  have H1 : LgIs s i lo (Mt.best s.data.toList i (min lo i)).1 (Mt.best s.data.toList i (min lo i)).2 0 := fun w => longest_ok s i lo w hs hi (by omega) (by omega)
  have H2 : LgIs s i hi' (Mt.best s.data.toList i (min hi' i)).1 (Mt.best s.data.toList i (min hi' i)).2 0 := fun w => longest_ok s i hi' w hs hi (by omega) (by omega)
  have hm := Mt.best_mono s.data.toList i (min lo i) (min hi' i) (by omega)
  have hin := Mt.best_in s.data.toList i (min hi' i) (by omega)
  have hm1 := Mt.best_most s.data.toList i (min lo i)
  have hm2 := Mt.best_most s.data.toList i (min hi' i)
  have hnx := Mt.best_next s.data.toList i (min hi' i) (min hi' (i + 1)) (by omega)
  have H3 : i < s.size → LgIs s ((i : Int) + 1) hi' (Mt.best s.data.toList (i + 1) (min hi' (i + 1))).1 (Mt.best s.data.toList (i + 1) (min hi' (i + 1))).2 0 := fun h w => longest_ok s (i + 1) hi' w hs (by omega) (by omega) (by omega)
  have hm3 := Mt.best_most s.data.toList (i + 1) (min hi' (i + 1))
  generalize (Mt.best s.data.toList i (min lo i)).1 = x1 at *
  generalize (Mt.best s.data.toList i (min lo i)).2 = y1 at *
  generalize (Mt.best s.data.toList i (min hi' i)).1 = x2 at *
  generalize (Mt.best s.data.toList i (min hi' i)).2 = y2 at *
  generalize (Mt.best s.data.toList (i + 1) (min hi' (i + 1))).1 = x3 at *
  generalize (Mt.best s.data.toList (i + 1) (min hi' (i + 1))).2 = y3 at *
  rw [hlen] at hin
  clear hlen
  rcases Nat.lt_trichotomy A B with hAB | hAB | hAB
  · obtain rfl : lo = 1 + A := by omega
    obtain rfl : hi' = 1 + B := by omega
    rw [show ((1 + B : Nat) : Int) = 1 + (B : Int) from by omega] at H2 H3
    rw [show ((1 + A : Nat) : Int) = 1 + (A : Int) from by omega] at H1
    clear hlo hhi
    by_cases hlt : i < s.size
    · have H3 := H3 hlt
      have g1 : decide ((y2 : Int) - 1 ≤ y3) = true := by simp; omega
      go_enter Try.func4, Try.ntmps4
      go_wp2_with fail
      refine (longest_c2 _).mono ?_
      rintro e w' ⟨rfl, k1, rfl⟩
      go_wp2_with fail
      refine (longest_c3 _).mono ?_
      rintro e w' ⟨rfl, k2, rfl⟩
      go_wp2_with fail
      refine (HD.out _).mono ?_
      rintro e w' ⟨rfl, rfl⟩
      go_wp2_with fail
      refine (HN.out _).mono ?_
      rintro e w' ⟨rfl, rfl⟩
      go_wp2_with fail
      refine (H1 _).mono ?_
      rintro e w' ⟨rfl, k3, rfl⟩
      go_wp2_with fail
      refine (H2 _).mono ?_
      rintro e w' ⟨rfl, k4, rfl⟩
      go_wp2_with fail
      refine (H3 _).mono ?_
      rintro e w' ⟨rfl, k5, rfl⟩
      go_wp2_with fail
      go_ret
      first | exact ⟨rfl, _, rfl⟩ | exact ⟨rfl, _, dd _ _ _⟩
    · obtain rfl : y1 = 0 := by omega
      obtain rfl : y2 = 0 := by omega
      clear H3
      go_enter Try.func4, Try.ntmps4
      go_wp2_with fail
      refine (longest_c2 _).mono ?_
      rintro e w' ⟨rfl, k1, rfl⟩
      go_wp2_with fail
      refine (longest_c3 _).mono ?_
      rintro e w' ⟨rfl, k2, rfl⟩
      go_wp2_with fail
      refine (HD.out _).mono ?_
      rintro e w' ⟨rfl, rfl⟩
      go_wp2_with fail
      refine (HN.out _).mono ?_
      rintro e w' ⟨rfl, rfl⟩
      go_wp2_with fail
      refine (H1 _).mono ?_
      rintro e w' ⟨rfl, k3, rfl⟩
      go_wp2_with fail
      refine (H2 _).mono ?_
      rintro e w' ⟨rfl, k4, rfl⟩
      go_wp2_with fail
      go_ret
      first | exact ⟨rfl, _, rfl⟩ | exact ⟨rfl, _, dd _ _ _⟩
  · subst hAB
    obtain rfl : lo = 1 + A := by omega
    obtain rfl : hi' = 1 + A := by omega
    rw [show ((1 + A : Nat) : Int) = 1 + (A : Int) from by omega] at H2 H3
    rw [show ((1 + A : Nat) : Int) = 1 + (A : Int) from by omega] at H1
    clear hlo hhi
    by_cases hlt : i < s.size
    · have H3 := H3 hlt
      have g1 : decide ((y2 : Int) - 1 ≤ y3) = true := by simp; omega
      go_enter Try.func4, Try.ntmps4
      go_wp2_with fail
      refine (longest_c2 _).mono ?_
      rintro e w' ⟨rfl, k1, rfl⟩
      go_wp2_with fail
      refine (longest_c3 _).mono ?_
      rintro e w' ⟨rfl, k2, rfl⟩
      go_wp2_with fail
      refine (HD.out _).mono ?_
      rintro e w' ⟨rfl, rfl⟩
      go_wp2_with fail
      refine (HN.out _).mono ?_
      rintro e w' ⟨rfl, rfl⟩
      go_wp2_with fail
      refine (H1 _).mono ?_
      rintro e w' ⟨rfl, k3, rfl⟩
      go_wp2_with fail
      refine (H2 _).mono ?_
      rintro e w' ⟨rfl, k4, rfl⟩
      go_wp2_with fail
      refine (H3 _).mono ?_
      rintro e w' ⟨rfl, k5, rfl⟩
      go_wp2_with fail
      go_ret
      first | exact ⟨rfl, _, rfl⟩ | exact ⟨rfl, _, dd _ _ _⟩
    · obtain rfl : y1 = 0 := by omega
      obtain rfl : y2 = 0 := by omega
      clear H3
      go_enter Try.func4, Try.ntmps4
      go_wp2_with fail
      refine (longest_c2 _).mono ?_
      rintro e w' ⟨rfl, k1, rfl⟩
      go_wp2_with fail
      refine (longest_c3 _).mono ?_
      rintro e w' ⟨rfl, k2, rfl⟩
      go_wp2_with fail
      refine (HD.out _).mono ?_
      rintro e w' ⟨rfl, rfl⟩
      go_wp2_with fail
      refine (HN.out _).mono ?_
      rintro e w' ⟨rfl, rfl⟩
      go_wp2_with fail
      refine (H1 _).mono ?_
      rintro e w' ⟨rfl, k3, rfl⟩
      go_wp2_with fail
      refine (H2 _).mono ?_
      rintro e w' ⟨rfl, k4, rfl⟩
      go_wp2_with fail
      go_ret
      first | exact ⟨rfl, _, rfl⟩ | exact ⟨rfl, _, dd _ _ _⟩
  · obtain rfl : lo = 1 + B := by omega
    obtain rfl : hi' = 1 + A := by omega
    rw [show ((1 + A : Nat) : Int) = 1 + (A : Int) from by omega] at H2 H3
    rw [show ((1 + B : Nat) : Int) = 1 + (B : Int) from by omega] at H1
    clear hlo hhi
    by_cases hlt : i < s.size
    · have H3 := H3 hlt
      have g1 : decide ((y2 : Int) - 1 ≤ y3) = true := by simp; omega
      go_enter Try.func4, Try.ntmps4
      go_wp2_with fail
      refine (longest_c2 _).mono ?_
      rintro e w' ⟨rfl, k1, rfl⟩
      go_wp2_with fail
      refine (longest_c3 _).mono ?_
      rintro e w' ⟨rfl, k2, rfl⟩
      go_wp2_with fail
      refine (HD.out _).mono ?_
      rintro e w' ⟨rfl, rfl⟩
      go_wp2_with fail
      refine (HN.out _).mono ?_
      rintro e w' ⟨rfl, rfl⟩
      go_wp2_with fail
      refine (H1 _).mono ?_
      rintro e w' ⟨rfl, k3, rfl⟩
      go_wp2_with fail
      refine (H2 _).mono ?_
      rintro e w' ⟨rfl, k4, rfl⟩
      go_wp2_with fail
      refine (H3 _).mono ?_
      rintro e w' ⟨rfl, k5, rfl⟩
      go_wp2_with fail
      go_ret
      first | exact ⟨rfl, _, rfl⟩ | exact ⟨rfl, _, dd _ _ _⟩
    · obtain rfl : y1 = 0 := by omega
      obtain rfl : y2 = 0 := by omega
      clear H3
      go_enter Try.func4, Try.ntmps4
      go_wp2_with fail
      refine (longest_c2 _).mono ?_
      rintro e w' ⟨rfl, k1, rfl⟩
      go_wp2_with fail
      refine (longest_c3 _).mono ?_
      rintro e w' ⟨rfl, k2, rfl⟩
      go_wp2_with fail
      refine (HD.out _).mono ?_
      rintro e w' ⟨rfl, rfl⟩
      go_wp2_with fail
      refine (HN.out _).mono ?_
      rintro e w' ⟨rfl, rfl⟩
      go_wp2_with fail
      refine (H1 _).mono ?_
      rintro e w' ⟨rfl, k3, rfl⟩
      go_wp2_with fail
      refine (H2 _).mono ?_
      rintro e w' ⟨rfl, k4, rfl⟩
      go_wp2_with fail
      go_ret
      first | exact ⟨rfl, _, rfl⟩ | exact ⟨rfl, _, dd _ _ _⟩

theorem matchGrows_walk (a0 : ByteArray) (a1 : Int) (a2 : Int) (a3 : Int) (w0 : a0.size ≤ maxLen) (_ : (Lit.int .i64 a1).wf = true) (_ : (Lit.int .i64 a2).wf = true) (_ : (Lit.int .i64 a3).wf = true) (w : World) :
    Calls Try.prog 4 #[.string a0, .int .i64 a1, .int .i64 a2, .int .i64 a3] w fun e w' => e = .returned (.bool true) ∧ Grown w w' := by
  have key : Calls Try.prog 4 #[.string a0, .int .i64 a1, .int .i64 a2, .int .i64 a3] w fun e w' => e = .returned (.bool true) ∧ ∃ n, w' = w.drewN n := by
    by_cases h : 600 < a0.size
    · exact matchGrows_err a0 a1 a2 a3 2 w (Or.inr rfl) (fun win _ _ w => (longest_large a0 a1 win w h w0).mono (fun _ _ ⟨h1, h2⟩ => ⟨h1, 0, h2.symm⟩))
    · by_cases hb : a1 < 0 ∨ a0.size < a1
      · exact matchGrows_err a0 a1 a2 a3 1 w (Or.inl rfl) (fun win _ _ w => (longest_arg a0 a1 win w (by omega) (by omega)).mono (fun _ _ ⟨h1, h2⟩ => ⟨h1, 0, h2.symm⟩))
      · obtain ⟨i, rfl⟩ := Int.eq_ofNat_of_zero_le (show 0 ≤ a1 by omega)
        exact matchGrows_ok a0 i a2 a3 w (by omega) (by omega)
  refine key.mono ?_
  rintro e w' ⟨he, n, rfl⟩
  exact ⟨he, grown_drewN _ _⟩

end Go.Proofs.Ytkgdgamlmanobaa
