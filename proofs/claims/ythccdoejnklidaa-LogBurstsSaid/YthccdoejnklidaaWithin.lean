/- The walk of woolkeep.Within: a number from 0 to n-1. -/
import Derived.Test.YthccdoejnklidaaBase
namespace Go.Proofs.Ythccdoejnklidaa
open Go.RowKit

/-- What Within computes. -/
def wi (k : Int) (n : Nat) : Nat := ((k % 18446744073709551616) % n).toNat

theorem wi_lt (k : Int) (n : Nat) (h : 0 < n) : wi k n < n := by
  unfold wi
  have h1 := Int.emod_nonneg (k % 18446744073709551616) (b := n) (by omega)
  have h2 := Int.emod_lt_of_pos (k % 18446744073709551616) (b := n) (by omega)
  omega

theorem wi_eq (k : Int) (n : Nat) (h1 : 1 ≤ n) (h2 : n ≤ 4611686018427387904) : wrap64 ((IntKind.u64.wrap k).tmod ↑n) = (wi k n : Int) := by
  have e : IntKind.u64.wrap k = k % 18446744073709551616 := IntKind.wrap_u64 k
  have h0 : 0 ≤ k % 18446744073709551616 := Int.emod_nonneg _ (by omega)
  rw [e, Int.tmod_eq_emod_of_nonneg h0]
  have h3 := Int.emod_nonneg (k % 18446744073709551616) (b := n) (by omega)
  have h4 := Int.emod_lt_of_pos (k % 18446744073709551616) (b := n) (by omega)
  rw [IntWalk.wrap64_in _ ⟨by omega, by omega⟩]
  unfold wi
  omega

set_option maxHeartbeats 400000 in
theorem within_any (k N : Int) (n : Nat) (w : World) (hN : N = n) (h1 : 1 ≤ n) (h2 : n ≤ 4611686018427387904) :
    Calls Try.prog 9 #[.int .i64 k, .int .i64 N] w fun e w' => e = .returned (.int .i64 (wi k n)) ∧ w = w' := by
  subst hN
  go_enter Try.func9, Try.ntmps9
  go_wp2
  go_ret
  exact ⟨congrArg (fun x => Ending.returned (.int .i64 x)) (wi_eq k n h1 h2), rfl⟩

end Go.Proofs.Ythccdoejnklidaa
