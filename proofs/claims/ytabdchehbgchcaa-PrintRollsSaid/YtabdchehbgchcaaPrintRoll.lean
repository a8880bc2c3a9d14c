/- The walk of print.Roll, and what it computes of a window. -/
import Derived.Test.YtabdchehbgchcaaPrintW2
namespace Go.Proofs.Ytabdchehbgchcaa
open Go.RowKit

/-- What Roll computes. -/
def rollN (m p o c n : Nat) : Nat :=
  G.md (256 * (p ^^^ G.md (G.pw 2 (8 * n)) m ^^^ G.md (G.mul o (G.md (G.pw 2 (8 * (n - 1))) m)) m) ^^^ c) m ^^^ G.md (G.pw 2 (8 * n)) m

theorem roll_print (o c : UInt8) (u : List UInt8) {m : Nat} (hm : m ≠ 0) :
    rollN m (G.print m (o :: u)) o.toNat c.toNat (u.length + 1) = G.print m (u ++ [c]) := by
  unfold rollN
  have e1 : G.print m (o :: u) ^^^ G.md (G.pw 2 (8 * (u.length + 1))) m ^^^ G.md (G.mul o.toNat (G.md (G.pw 2 (8 * (u.length + 1 - 1))) m)) m = G.md (G.V 0 u) m := by
    rw [G.print_V _ hm, G.V_cons, G.V_split, G.md_mul_right _ _ hm, G.pw_two_eq, G.pw_two_eq, G.mul_pow, Nat.add_sub_cancel, Nat.mul_one, G.pow_xor, G.md_xor _ _ hm, G.md_xor _ _ hm,
      show (2 : Nat) ^ (8 * (u.length + 1)) = 2 ^ (8 * u.length) * 256 from by rw [Nat.mul_add, Nat.pow_add]]
    generalize G.md (2 ^ (8 * u.length) * 256) m = x; generalize G.md (2 ^ (8 * u.length) * o.toNat) m = y; generalize G.md (G.V 0 u) m = z
    rw [show ((x ^^^ y) ^^^ z) ^^^ x ^^^ y = ((x ^^^ x) ^^^ (y ^^^ y)) ^^^ z from by ac_rfl, Nat.xor_self, Nat.xor_self, Nat.xor_self, Nat.zero_xor]
  rw [e1, G.md_step _ _ hm, G.print_V _ hm, G.V_split (u ++ [c]) 1, Nat.mul_one, G.V_snoc, List.length_append, List.length_singleton, G.md_xor (2 ^ _) _ hm, G.pw_two_eq, Nat.xor_comm]

set_option maxRecDepth 100000 in
set_option maxHeartbeats 1000000 in
theorem Roll_ok (m p o c n x l f X Y r z : Nat) (w : World) (h2 : 2 ≤ m) (hm : m ≤ 2147483647) (hn : n ≤ 600) (hn1 : 1 ≤ n) (ho : o ≤ 255) (hc : c ≤ 255)
    (_ : x ≤ 2147483647) (_ : f ≤ 2147483647) (_ : X ≤ 2147483647) (hY : Y ≤ 2147483647) (hr : r ≤ 2147483647)
    (rp : Ans1 54 #[.int .i64 m, .int .i64 p] (.bool true))
    (m1 : Ans2 36 #[.int .i64 2, .int .i64 (8 * (n : Int)), .int .i64 m] (.int .i64 x) (.int .i64 0))
    (m2 : Ans2 36 #[.int .i64 2, .int .i64 (8 * ((n : Int) - 1)), .int .i64 m] (.int .i64 l) (.int .i64 0))
    (m3 : Ans2 33 #[.int .i64 o, .int .i64 l, .int .i64 m] (.int .i64 f) (.int .i64 0))
    (b1 : bits .xor .i64 (p : Int) (x : Int) = (X : Int)) (b2 : bits .xor .i64 (X : Int) (f : Int) = (Y : Int))
    (y q : Nat) (hy : bits .or .u64 ((Y : Int) * 256) (c : Int) = (y : Int))
    (ov : Ans2 52 #[.int .u64 y, .int .i64 m] (.int .u64 q) (.int .u64 r))
    (b3 : bits .xor .i64 (r : Int) (x : Int) = (z : Int)) :
    Calls Try.prog 41 #[.int .i64 m, .int .i64 p, .int .i64 o, .int .i64 c, .int .i64 n] w fun e w' => e = .returned (.tuple #[.int .i64 z, .int .i64 0]) ∧ w = w' := by
  have M0 := Mod_is h2 hm
  go_enter Try.func41, Try.ntmps41
  go_wp2_with fail
  with_reducible refine M0.use ?_
  rintro e w' ⟨rfl, rfl⟩
  go_wp2_with fail
  with_reducible refine rp.use ?_
  rintro e w' ⟨rfl, rfl⟩
  go_wp2_with fail
  with_reducible refine m1.use ?_
  rintro e w' ⟨rfl, rfl⟩
  go_wp2_with fail
  with_reducible refine m2.use ?_
  rintro e w' ⟨rfl, rfl⟩
  go_wp2_with fail
  with_reducible refine m3.use ?_
  rintro e w' ⟨rfl, rfl⟩
  go_wp2_with fail
  with_reducible refine ov.use ?_
  rintro e w' ⟨rfl, rfl⟩
  go_wp2_with fail
  go_ret2
  exact ⟨rfl, rfl⟩

theorem Roll_is {m p o c n z : Nat} (h2 : 2 ≤ m) (hm : m ≤ 2147483647) (hp : G.L p < G.L m) (ho : o ≤ 255) (hc : c ≤ 255) (hn1 : 1 ≤ n) (hn : n ≤ 600) (hz : rollN m p o c n = z) :
    Ans2 41 #[.int .i64 m, .int .i64 p, .int .i64 o, .int .i64 c, .int .i64 n] (.int .i64 z) (.int .i64 0) := by
  have h0 : m ≠ 0 := by omega
  have hpl := G.L_lt hp
  unfold rollN at hz
  have HZ := Lib.hid hz; clear hz
  obtain ⟨x, hx⟩ : ∃ x, Hid (G.md (G.pw 2 (8 * n)) m = x) := ⟨_, Lib.hid rfl⟩
  obtain ⟨l, hl⟩ : ∃ l, Hid (G.md (G.pw 2 (8 * (n - 1))) m = l) := ⟨_, Lib.hid rfl⟩
  obtain ⟨f, hf⟩ : ∃ f, Hid (G.md (G.mul o l) m = f) := ⟨_, Lib.hid rfl⟩
  have bx : x ≤ 2147483647 := by rw [← hx.out]; exact md_le h0 hm
  have bl : l ≤ 2147483647 := by rw [← hl.out]; exact md_le h0 hm
  have bf : f ≤ 2147483647 := by rw [← hf.out]; exact md_le h0 hm
  obtain ⟨X, hX⟩ : ∃ X, Hid (p ^^^ x = X) := ⟨_, Lib.hid rfl⟩
  have bX : X < 2 ^ 31 := by rw [← hX.out]; exact Nat.xor_lt_two_pow (by omega) (by omega)
  obtain ⟨Y, hY⟩ : ∃ Y, Hid (X ^^^ f = Y) := ⟨_, Lib.hid rfl⟩
  have bY : Y < 2 ^ 31 := by rw [← hY.out]; exact Nat.xor_lt_two_pow (by omega) (by omega)
  obtain ⟨y, hy⟩ : ∃ y, Hid (256 * Y ^^^ c = y) := ⟨_, Lib.hid rfl⟩
  have by_ : y < 2 ^ 40 := by rw [← hy.out]; exact Nat.xor_lt_two_pow (by omega) (by omega)
  obtain ⟨r, hr⟩ : ∃ r, Hid (G.md y m = r) := ⟨_, Lib.hid rfl⟩
  have br : r ≤ 2147483647 := by rw [← hr.out]; exact md_le h0 hm
  have hzz : r ^^^ x = z := by rw [← HZ.out, hx.out, hl.out, hf.out, hX.out, hY.out, hy.out, hr.out]
  have HZZ := Lib.hid hzz; clear hzz
  refine fun w => Roll_ok m p o c n x l f X Y r z w h2 hm hn hn1 ho hc bx bf (by omega) (by omega) br (rest_is hm h2 hp)
    (by rw [show (8 : Int) * (n : Int) = ((8 * n : Nat) : Int) from by omega]; exact ModPow_is (a := 2) (by omega) (by omega) hm h0 hx.out)
    (by rw [show (8 : Int) * ((n : Int) - 1) = ((8 * (n - 1) : Nat) : Int) from by omega]; exact ModPow_is (a := 2) (by omega) (by omega) hm h0 hl.out)
    (ModMul_is (by omega) bl hm h0 hf.out) ?_ ?_ y (G.qt y m) ?_ ?_ ?_
  · rw [i64_xor_nat _ _ (by omega) (by omega), hX.out]
  · rw [i64_xor_nat _ _ (by omega) (by omega), hY.out]
  · rw [show (Y : Int) * 256 = ((Y * 256 : Nat) : Int) from by omega, bits_or_u64_nat _ _ (by omega) (by omega), or_xor Y c (by omega), hy.out]
  · intro w
    have := over_any y m w (by omega) h0 (by omega)
    rw [hr.out] at this
    exact this
  · rw [i64_xor_nat _ _ (by omega) (by omega), HZZ.out]

end Go.Proofs.Ytabdchehbgchcaa
