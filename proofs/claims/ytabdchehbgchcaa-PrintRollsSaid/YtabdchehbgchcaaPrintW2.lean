/- The walks of package print, continued: rest, Join, Roll. -/
import Derived.Test.YtabdchehbgchcaaAns
import Derived.Test.YtabdchehbgchcaaPrintW
namespace Go.Proofs.Ytabdchehbgchcaa
open Go.RowKit

theorem Mod_is {m : Nat} (h0 : 2 ≤ m) (h1 : m ≤ 2147483647) : Ans1 48 #[.int .i64 m] (.int .i64 0) := fun w => Mod_ok m w h0 h1

set_option maxHeartbeats 400000 in
theorem rest_ok (m a d : Nat) (w : World) (hm : m ≤ 2147483647) (hd : G.L m = d + 1) (ha : a < 2 ^ d) :
    Calls Try.prog 54 #[.int .i64 m, .int .i64 a] w fun e w' => e = .returned (.bool true) ∧ w = w' := by
  have hl : G.L m ≤ 31 := G.L_le.2 (by omega)
  have hd2 : d ≤ 30 := by omega
  have D1 := Deg_is (a := m) (x := d) hm (by omega)
  have hp : 2 ^ d ≤ 2 ^ 30 := Nat.pow_le_pow_right (by omega) hd2
  obtain ⟨P, hP⟩ : ∃ P, Hid (2 ^ d = P) := ⟨_, Lib.hid rfl⟩
  have q1 : IntKind.i64.wrap ((2 : Int) ^ d) = (P : Int) := by rw [two_pow_cast, hP.out]; rw [hP.out] at hp; exact wr (by omega)
  rw [hP.out] at ha hp
  clear hd hl
  go_enter Try.func54, Try.ntmps54
  go_wp2_with fail
  with_reducible refine D1.use ?_
  rintro e w' ⟨rfl, rfl⟩
  go_wp2_with fail
  go_ret
  exact ⟨retb (by first | (simp; done) | (simp; omega)), rfl⟩

theorem rest_is {m a : Nat} (hm : m ≤ 2147483647) (h2 : 2 ≤ m) (ha : G.L a < G.L m) : Ans1 54 #[.int .i64 m, .int .i64 a] (.bool true) := by
  obtain ⟨d, hd⟩ : ∃ d, G.L m = d + 1 := ⟨G.L m - 1, by have := G.L_pos.2 (show m ≠ 0 by omega); omega⟩
  exact fun w => rest_ok m a d w hm hd (G.L_le.1 (by omega))

set_option maxRecDepth 100000 in
set_option maxHeartbeats 1000000 in
theorem Join_ok (m a b n x y z : Nat) (w : World) (h2 : 2 ≤ m) (hm : m ≤ 2147483647) (hn : n ≤ 600) (hx : x ≤ 2147483647) (hy : y ≤ 2147483647) (hb : b ≤ 2147483647)
    (ra : Ans1 54 #[.int .i64 m, .int .i64 a] (.bool true)) (rb : Ans1 54 #[.int .i64 m, .int .i64 b] (.bool true))
    (m1 : Ans2 36 #[.int .i64 2, .int .i64 (8 * (n : Int)), .int .i64 m] (.int .i64 x) (.int .i64 0))
    (m2 : Ans2 33 #[.int .i64 a, .int .i64 x, .int .i64 m] (.int .i64 y) (.int .i64 0))
    (hz : y ^^^ b ^^^ x = z) :
    Calls Try.prog 40 #[.int .i64 m, .int .i64 a, .int .i64 b, .int .i64 n] w fun e w' => e = .returned (.tuple #[.int .i64 z, .int .i64 0]) ∧ w = w' := by
  have M0 := Mod_is h2 hm
  have hyb : y ^^^ b < 2 ^ 31 := Nat.xor_lt_two_pow (by omega) (by omega)
  obtain ⟨Y, hY⟩ : ∃ Y, Hid (y ^^^ b = Y) := ⟨_, Lib.hid rfl⟩
  have b1 : bits .xor .i64 (y : Int) (b : Int) = (Y : Int) := by rw [i64_xor_nat _ _ (by omega) (by omega), hY.out]
  have b2 : bits .xor .i64 (Y : Int) (x : Int) = (z : Int) := by rw [i64_xor_nat _ _ (by rw [hY.out] at hyb; omega) (by omega), ← hY.out, hz]
  clear hz hyb
  go_enter Try.func40, Try.ntmps40
  go_wp2_with fail
  with_reducible refine M0.use ?_
  rintro e w' ⟨rfl, rfl⟩
  go_wp2_with fail
  with_reducible refine ra.use ?_
  rintro e w' ⟨rfl, rfl⟩
  go_wp2_with fail
  with_reducible refine rb.use ?_
  rintro e w' ⟨rfl, rfl⟩
  go_wp2_with fail
  with_reducible refine m1.use ?_
  rintro e w' ⟨rfl, rfl⟩
  go_wp2_with fail
  with_reducible refine m2.use ?_
  rintro e w' ⟨rfl, rfl⟩
  go_wp2_with fail
  go_ret2
  exact ⟨rfl, rfl⟩

end Go.Proofs.Ytabdchehbgchcaa
