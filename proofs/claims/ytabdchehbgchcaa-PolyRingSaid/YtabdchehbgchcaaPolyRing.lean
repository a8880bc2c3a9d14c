/- PolyRing: sums and products of polynomials, in any order, whichever two come first; products go over sums; for every input. -/
import Derived.Test.YtabdchehbgchcaaPolyK
namespace Go.Proofs.Ytabdchehbgchcaa
open Go.RowKit

set_option maxRecDepth 100000 in
set_option maxHeartbeats 4000000 in
theorem polyRing_core (a0 a1 a2 : Int) (w : World) (a b c AB BC LL S AS AC : Nat) (va vb vab : Bool)
    (h1 : Ans1 27 #[.int .i64 a0, .int .i64 11] (.int .i64 a))
    (h2 : Ans1 27 #[.int .i64 a1, .int .i64 11] (.int .i64 b))
    (h3 : Ans1 27 #[.int .i64 a2, .int .i64 10] (.int .i64 c))
    (m0 : Ans2 26 #[.int .i64 7, .int .i64 5] (.int .i64 27) (.int .i64 0))
    (m1 : Ans2 26 #[.int .i64 a, .int .i64 b] (.int .i64 AB) (.int .i64 0))
    (m2 : Ans2 26 #[.int .i64 b, .int .i64 a] (.int .i64 AB) (.int .i64 0))
    (m3 : Ans2 26 #[.int .i64 b, .int .i64 c] (.int .i64 BC) (.int .i64 0))
    (m4 : Ans2 26 #[.int .i64 AB, .int .i64 c] (.int .i64 LL) (.int .i64 0))
    (m5 : Ans2 26 #[.int .i64 a, .int .i64 BC] (.int .i64 LL) (.int .i64 0))
    (m6 : Ans2 28 #[.int .i64 b, .int .i64 c] (.int .i64 S) (.int .i64 0))
    (m7 : Ans2 26 #[.int .i64 a, .int .i64 S] (.int .i64 AS) (.int .i64 0))
    (m8 : Ans2 26 #[.int .i64 a, .int .i64 c] (.int .i64 AC) (.int .i64 0))
    (m9 : Ans2 28 #[.int .i64 AB, .int .i64 AC] (.int .i64 AS) (.int .i64 0))
    (m10 : Ans2 28 #[.int .i64 a, .int .i64 a] (.int .i64 0) (.int .i64 0))
    (m11 : Ans2 26 #[.int .i64 a, .int .i64 1] (.int .i64 a) (.int .i64 0))
    (ta : ((a : Int) == 0) = va) (tb : ((b : Int) == 0) = vb) (tab : ((AB : Int) == 0) = vab)
    (hv : vab = (va || vb)) :
    Calls Try.prog 4 #[.int .i64 a0, .int .i64 a1, .int .i64 a2] w fun e w' => e = .returned (.bool true) ∧ Grown w w' := by
  have HV := Lib.hid hv; clear hv
  go_enter Try.func4, Try.ntmps4
  go_wp2_with fail
  refine (m0 _).mono ?_
  rintro e w' ⟨rfl, rfl⟩
  go_wp2_with fail
  refine (h1 _).mono ?_
  rintro e w' ⟨rfl, rfl⟩
  go_wp2_with fail
  refine (h2 _).mono ?_
  rintro e w' ⟨rfl, rfl⟩
  go_wp2_with fail
  refine (h3 _).mono ?_
  rintro e w' ⟨rfl, rfl⟩
  go_wp2_with fail
  refine (m1 _).mono ?_
  rintro e w' ⟨rfl, rfl⟩
  go_wp2_with fail
  refine (m2 _).mono ?_
  rintro e w' ⟨rfl, rfl⟩
  go_wp2_with fail
  refine (m3 _).mono ?_
  rintro e w' ⟨rfl, rfl⟩
  go_wp2_with fail
  refine (m4 _).mono ?_
  rintro e w' ⟨rfl, rfl⟩
  go_wp2_with fail
  refine (m5 _).mono ?_
  rintro e w' ⟨rfl, rfl⟩
  go_wp2_with fail
  refine (m6 _).mono ?_
  rintro e w' ⟨rfl, rfl⟩
  go_wp2_with fail
  refine (m7 _).mono ?_
  rintro e w' ⟨rfl, rfl⟩
  go_wp2_with fail
  refine (m8 _).mono ?_
  rintro e w' ⟨rfl, rfl⟩
  go_wp2_with fail
  refine (m9 _).mono ?_
  rintro e w' ⟨rfl, rfl⟩
  go_wp2_with fail
  refine (m10 _).mono ?_
  rintro e w' ⟨rfl, rfl⟩
  go_wp2_with fail
  go_loop [121, 30] (fun i _ => ∃ k : Nat, k ≤ 10 ∧ i = .int .i64 k) (fun i _ => 10 - (intOf i).toNat)
  case atStart => exact ⟨0, by omega, rfl⟩
  case round =>
    obtain ⟨k, hk, rfl⟩ := hrel
    by_cases hlt : k < 10
    · have hc := cell_new w (T := 22) (lit10 (Value.int .i64 0) hlt)
      go_wp2_with fail
      go_round
      case rel => exact ⟨k + 1, by omega, by go_num⟩
      case measure => simp [intOf]; omega
    · go_wp2_with fail
      refine (m11 _).mono ?_
      rintro e w' ⟨rfl, rfl⟩
      go_wp2_with fail
      all_goals go_ret
      all_goals refine ⟨retb ?_, (Grown.refl w).alloc _ _⟩
      · have hv := HV.out; simp_all
      · have hv := HV.out; simp_all

end Go.Proofs.Ytabdchehbgchcaa
