/- The walks of print.push and print.Plain. -/
import Derived.Test.YthccdoejnklidaaOverW
import Derived.Test.YthccdoejnklidaaUse
import Derived.Test.YthccdoejnklidaaPrintP
namespace Go.Proofs.Ythccdoejnklidaa
open Go.RowKit

theorem take_one (l : List UInt8) (k : Nat) (h : k < l.length) : l.take (k + 1) = l.take k ++ [l[k]] := by
  rw [List.take_succ_eq_append_getElem h]

theorem bt_get (l : List UInt8) (k : Nat) (h : k < l.length) : bt l k = ((l[k]).toNat : Int) := by
  unfold bt; rw [getD_in _ _ _ h]

theorem or_xor (p c : Nat) (hc : c < 256) : p * 256 ||| c = 256 * p ^^^ c := by
  rw [Nat.mul_comm p 256]
  apply Nat.eq_of_testBit_eq
  intro i
  rw [Nat.testBit_or, Nat.testBit_xor]
  by_cases hi : i < 8
  · have : (2 ^ 8 * p).testBit i = false := by
      rw [Nat.testBit_two_pow_mul, decide_eq_false (by omega)]; rfl
    have h : (256 * p).testBit i = false := this
    rw [h]; simp
  · have : c.testBit i = false := Nat.testBit_lt_two_pow (Nat.lt_of_lt_of_le hc (Nat.pow_le_pow_right (n := 2) (i := 8) (by omega) (by omega)))
    rw [this]; simp

set_option maxHeartbeats 1000000 in
theorem push_any (p m : Nat) (s : ByteArray) (w : World) (hp : p ≤ 2147483647) (hm : m ≤ 2147483647) (h0 : m ≠ 0) (hs : s.size ≤ maxLen) :
    Calls Try.prog 67 #[.int .i64 p, .string s, .int .i64 m] w fun e w' => e = .returned (.int .i64 (G.psh m p s.data.toList)) ∧ w = w' := by
  unfold maxLen at hs
  have H := Lib.hid h0; clear h0
  have hl : s.data.toList.length = s.size := by simp
  have HL := Lib.hid hl; clear hl
  go_enter Try.func67, Try.ntmps67
  go_wp2_with fail
  go_loop [0, 12] (fun x i => ∃ k P : Nat, k ≤ s.size ∧ P ≤ 2147483647 ∧ i = .int .i64 k ∧ x = .int .i64 P ∧ Hid (P = G.psh m p (s.data.toList.take k))) (fun _ i => s.size - (intOf i).toNat)
  case atStart => exact ⟨0, p, by omega, hp, rfl, rfl, Lib.hid rfl⟩
  case round =>
    obtain ⟨k, P, hk, hP, rfl, rfl, hH⟩ := hrel
    by_cases hlt : k < s.size
    · have x1 := idx_str Try.underlying9 (s := s) (x := (k : Int)) (k := k) rfl hlt
      have hkl : k < s.data.toList.length := by rw [HL.out]; exact hlt
      have hb := bt_get s.data.toList k hkl
      have hlt256 : (s.data.toList[k]).toNat < 256 := UInt8.toNat_lt _
      have HN : Hid (G.md (256 * P ^^^ (s.data.toList[k]).toNat) m = G.psh m p (s.data.toList.take (k + 1))) := Lib.hid (by rw [take_one _ _ hkl, G.psh_snoc, ← hH.out])
      generalize (s.data.toList[k]).toNat = c at *
      rw [hb] at x1
      have hor : bits .or .u64 ((P : Int) * 256) (c : Int) = ((256 * P ^^^ c : Nat) : Int) := by
        rw [show (P : Int) * 256 = ((P * 256 : Nat) : Int) from by omega, bits_or_u64_nat _ _ (by omega) (by omega), or_xor P c hlt256]
      have hov : 256 * P ^^^ c < 2 ^ 40 := Nat.xor_lt_two_pow (by omega) (by omega)
      have hR : G.md (256 * P ^^^ c) m ≤ 2147483647 := md_le H.out hm
      have OV : ∀ w, Calls Try.prog 66 #[.int .u64 (256 * P ^^^ c : Nat), .int .i64 m] w fun e w' => e = .returned (.tuple #[.int .u64 (G.qt (256 * P ^^^ c) m), .int .u64 (G.md (256 * P ^^^ c) m)]) ∧ w = w' :=
        fun w => over_any _ m w (by omega) H.out (by omega)
      have HOV := Lib.hid OV; clear OV
      generalize G.qt (256 * P ^^^ c) m = q at *
      generalize G.md (256 * P ^^^ c) m = r at *
      generalize 256 * P ^^^ c = y at *
      clear hb hkl
      go_wp2_with fail
      refine (HOV.out _).mono ?_
      rintro e w' ⟨rfl, rfl⟩
      go_wp2_with fail
      go_round
      case rel => exact ⟨k + 1, r, by omega, by omega, by go_num, rfl, HN⟩
      case measure => simp [intOf]; omega
    · obtain rfl : k = s.size := by omega
      go_wp2_with fail
      go_ret
      exact ⟨by have h := hH.out; rw [List.take_of_length_le (by rw [HL.out]; omega)] at h; rw [← h]; rfl, rfl⟩

set_option maxHeartbeats 400000 in
theorem Plain_any (m : Nat) (s : ByteArray) (w : World) (hm : m ≤ 2147483647) (h0 : m ≠ 0) (hs : s.size ≤ maxLen) :
    Calls Try.prog 52 #[.int .i64 m, .string s] w fun e w' => e = .returned (.int .i64 (G.print m s.data.toList)) ∧ w = w' := by
  have h1 : G.md 1 m ≤ 2147483647 := md_le h0 hm
  have H := Lib.hid h0; clear h0
  have HS := Lib.hid hs; clear hs
  have OV : Hid (∀ w, Calls Try.prog 66 #[.int .u64 1, .int .i64 m] w fun e w' => e = .returned (.tuple #[.int .u64 (G.qt 1 m), .int .u64 (G.md 1 m)]) ∧ w = w') :=
    Lib.hid (fun w => over_any 1 m w (by omega) H.out hm)
  go_enter Try.func52, Try.ntmps52
  go_wp2_with fail
  refine (OV.out _).mono ?_
  rintro e w' ⟨rfl, rfl⟩
  go_wp2_with fail
  refine (push_any (G.md 1 m) m s _ h1 hm H.out HS.out).mono ?_
  rintro e w' ⟨rfl, rfl⟩
  go_wp2_with fail
  go_ret
  exact ⟨rfl, rfl⟩

end Go.Proofs.Ythccdoejnklidaa
