/- The walks of package poly, the loops of Gcd and ModPow. -/
import Derived.Test.YtnbdceigenndfaaPolyW2
namespace Go.Proofs.Ytnbdceigenndfaa
open Go.RowKit

theorem pw_odd (a n : Nat) : G.mul a (G.pw (G.mul a a) n) = G.pw a (2 * n + 1) := by
  rw [← G.pw_two, ← G.pw_mul, Nat.add_comm, G.pw_add, G.pw_one]

theorem pw_even (a n : Nat) : G.pw (G.mul a a) n = G.pw a (2 * n) := by
  rw [← G.pw_two, ← G.pw_mul]

theorem mp_odd {O A m : Nat} (N : Nat) (hm : m ≠ 0) : G.md (G.mul (G.md (G.mul O A) m) (G.pw (G.md (G.mul A A) m) N)) m = G.md (G.mul O (G.pw A (2 * N + 1))) m := by
  rw [← pw_odd, ← G.mul_assoc]
  exact (G.md_eq_iff hm).2 (G.C_mul (G.C_comm (G.md_C _ hm)) (G.C_pw N (G.C_comm (G.md_C _ hm))))

theorem mp_even {O A m : Nat} (N : Nat) (hm : m ≠ 0) : G.md (G.mul O (G.pw (G.md (G.mul A A) m) N)) m = G.md (G.mul O (G.pw A (2 * N))) m := by
  rw [← pw_even]
  exact (G.md_eq_iff hm).2 (G.C_mul (G.C_refl m O) (G.C_pw N (G.C_comm (G.md_C _ hm))))

end Go.Proofs.Ytnbdceigenndfaa
