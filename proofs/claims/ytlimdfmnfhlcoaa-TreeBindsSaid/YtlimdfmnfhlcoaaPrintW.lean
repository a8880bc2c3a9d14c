/- The walks of package print: Mod, push, Plain, Of. -/
import Derived.Test.YtlimdfmnfhlcoaaPlainW
namespace Go.Proofs.Ytlimdfmnfhlcoaa
open Go.RowKit

theorem Ans1.fit {f : Nat} {args : Array Value} {x : Value} {w : World} {R : Ending → World → Prop} (h : Ans1 f args x) (hR : ∀ e w', e = .returned x ∧ w = w' → R e w') : Calls Try.prog f args w R := (h w).mono hR

set_option maxHeartbeats 400000 in
theorem Mod_ok (m : Nat) (w : World) (h0 : 2 ≤ m) (h1 : m ≤ 2147483647) :
    Calls Try.prog 26 #[.int .i64 m] w fun e w' => e = .returned (.int .i64 0) ∧ w = w' := by
  go_enter Try.func26, Try.ntmps26
  go_wp2_with fail
  go_ret
  exact ⟨rfl, rfl⟩

set_option maxHeartbeats 400000 in
theorem Mod_bad (m : Int) (w : World) (h : m < 2 ∨ 2147483647 < m) :
    Calls Try.prog 26 #[.int .i64 m] w fun e w' => e = .returned (.int .i64 1) ∧ w = w' := by
  by_cases h0 : m < 2
  · clear h
    go_enter Try.func26, Try.ntmps26
    go_wp2_with fail
    go_ret
    exact ⟨rfl, rfl⟩
  · have h1 : 2147483647 < m := by omega
    clear h
    go_enter Try.func26, Try.ntmps26
    go_wp2_with fail
    go_ret
    exact ⟨rfl, rfl⟩

set_option maxHeartbeats 400000 in
theorem Of_ok (m : Nat) (s : ByteArray) (w : World) (h2 : 2 ≤ m) (hm : m ≤ 2147483647) (hs : s.size ≤ 600) :
    Calls Try.prog 12 #[.int .i64 m, .string s] w fun e w' => e = .returned (.tuple #[.int .i64 (G.print m s.data.toList), .int .i64 0]) ∧ w = w' := by
  go_enter Try.func12, Try.ntmps12
  go_wp2_with fail
  refine (Mod_ok m _ h2 hm).mono ?_
  rintro e w' ⟨rfl, rfl⟩
  go_wp2_with fail
  refine (Plain_any m s _ hm (by omega) (by unfold maxLen; omega)).mono ?_
  rintro e w' ⟨rfl, rfl⟩
  go_wp2_with fail
  go_ret2
  exact ⟨rfl, rfl⟩

set_option maxHeartbeats 400000 in
theorem Of_large (m : Nat) (s : ByteArray) (w : World) (h2 : 2 ≤ m) (hm : m ≤ 2147483647) (hs : 600 < s.size) (hs2 : s.size ≤ 9223372036854775807) :
    Calls Try.prog 12 #[.int .i64 m, .string s] w fun e w' => e = .returned (.tuple #[.int .i64 0, .int .i64 2]) ∧ w = w' := by
  go_enter Try.func12, Try.ntmps12
  go_wp2_with fail
  refine (Mod_ok m _ h2 hm).mono ?_
  rintro e w' ⟨rfl, rfl⟩
  go_wp2_with fail
  go_ret2
  exact ⟨rfl, rfl⟩

set_option maxHeartbeats 400000 in
theorem Of_bad (m : Int) (s : ByteArray) (w : World) (h : m < 2 ∨ 2147483647 < m) :
    Calls Try.prog 12 #[.int .i64 m, .string s] w fun e w' => e = .returned (.tuple #[.int .i64 0, .int .i64 1]) ∧ w = w' := by
  have H := Lib.hid h; clear h
  go_enter Try.func12, Try.ntmps12
  go_wp2_with fail
  refine (Mod_bad m _ H.out).mono ?_
  rintro e w' ⟨rfl, rfl⟩
  go_wp2_with fail
  go_ret2
  exact ⟨rfl, rfl⟩

theorem Of_is {m : Nat} {s : ByteArray} {x : Nat} (h2 : 2 ≤ m) (hm : m ≤ 2147483647) (hs : s.size ≤ 600) (hx : G.print m s.data.toList = x) :
    Ans2 12 #[.int .i64 m, .string s] (.int .i64 x) (.int .i64 0) := by
  subst hx; exact fun w => Of_ok m s w h2 hm hs

/-- The errors of print.Of. -/
theorem Of_err {m : Int} {s : ByteArray} (hs2 : s.size ≤ 9223372036854775807) (h : ¬ (2 ≤ m ∧ m ≤ 2147483647 ∧ s.size ≤ 600)) :
    (m < 2 ∨ 2147483647 < m) ∧ Ans2 12 #[.int .i64 m, .string s] (.int .i64 0) (.int .i64 1) ∨
    (2 ≤ m ∧ m ≤ 2147483647 ∧ 600 < s.size) ∧ Ans2 12 #[.int .i64 m, .string s] (.int .i64 0) (.int .i64 2) := by
  by_cases hb : m < 2 ∨ 2147483647 < m
  · exact Or.inl ⟨hb, fun w => Of_bad m s w hb⟩
  · obtain ⟨k, rfl⟩ := Int.eq_ofNat_of_zero_le (show 0 ≤ m by omega)
    exact Or.inr ⟨⟨by omega, by omega, by omega⟩, fun w => Of_large k s w (by omega) (by omega) (by omega) hs2⟩

end Go.Proofs.Ytlimdfmnfhlcoaa
