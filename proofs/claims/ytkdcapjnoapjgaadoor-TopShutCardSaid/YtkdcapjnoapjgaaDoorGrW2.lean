/- The walks of gamma.ReadGamma and ReadDelta. -/
import Derived.Test.YtkdcapjnoapjgaaDoorGrW
import Derived.Test.YtkdcapjnoapjgaaDoorRow
namespace Go.Proofs.YtkdcapjnoapjgaaDoor
open Go.RowKit

theorem sl_fromG {P : Program} {t : TypeId} (hu : P.underlying t = some .string) {s : ByteArray} {x : Int} {a : Nat} (hx : x = a) (hb : a ≤ s.size) :
    ∀ w, (Instr.slice t (.string s) (some (.int .i64 x)) none none).run P w = .ok (.string (s.extract a s.size)) w := by
  intro w
  subst hx
  have := hb
  simp [go_sem, hu]
  omega

theorem readG_codes (l : List UInt8) : ((Gr.readG l).1 = 0 ∨ (Gr.readG l).1 = 2 ∨ (Gr.readG l).1 = 3 ∨ (Gr.readG l).1 = 7) ∧ ((Gr.readG l).1 ≠ 0 → (Gr.readG l).2 = (0, 0)) := by
  unfold Gr.readG
  split
  · exact ⟨by simp, fun _ => rfl⟩
  · split
    · exact ⟨by simp, fun _ => rfl⟩
    · split
      · exact ⟨by simp, fun _ => rfl⟩
      · exact ⟨by simp, fun h => absurd rfl h⟩

set_option maxRecDepth 100000 in
set_option maxHeartbeats 1000000 in
theorem ReadGamma_is (s : ByteArray) (c : Int) (v u : Nat) (w : World) (hs : s.size ≤ 9223372036854775807) (h : Gr.readG s.data.toList = (c, v, u)) :
    Calls Tryd.prog 50 #[.string s] w fun e w' => e = .returned (.tuple #[.int .i64 v, .int .i64 u, .int .i64 c]) ∧ Below w.heap.size w w' := by
  have hl : s.data.toList.length = s.size := by simp
  obtain ⟨bv, hbv⟩ : ∃ b, Gr.bitsB s.data.toList = b := ⟨_, rfl⟩
  have B1 := fun w => Bits_is s bv w hs hbv
  obtain ⟨k, hk⟩ : ∃ k, Gr.zer s.data.toList = k := ⟨_, rfl⟩
  have hks : k ≤ s.size := by rw [← hk, ← hl]; unfold Gr.zer; omega
  have Z1 := fun w => zeros_is s k w hs hk
  unfold Gr.readG at h
  rw [hbv, hk, hl] at h
  cases bv with
  | false =>
    cases h
    clear Z1 hbv hk
    go_enter Tryd.func50, Tryd.ntmps50
    go_wp2_with fail
    with_reducible refine (B1 _).mono ?_
    rintro e w1 ⟨rfl, hb⟩
    clear B1
    go_wp2_with fail
    go_ret3
    exact ⟨rfl, hb⟩
  | true =>
    rw [if_neg (by decide)] at h
    by_cases h30 : 30 < k
    · rw [if_pos h30] at h
      cases h
      clear hbv hk
      go_enter Tryd.func50, Tryd.ntmps50
      go_wp2_with fail
      with_reducible refine (B1 _).mono ?_
      rintro e w1 ⟨rfl, hb⟩
      clear B1
      go_wp2_with fail
      with_reducible refine (Z1 _).mono ?_
      rintro e w' ⟨rfl, rfl⟩
      go_wp2_with fail
      go_ret3
      exact ⟨rfl, hb⟩
    · rw [if_neg h30] at h
      by_cases hlt : s.size < 2 * k + 1
      · rw [if_pos hlt] at h
        cases h
        clear hbv hk
        go_enter Tryd.func50, Tryd.ntmps50
        go_wp2_with fail
        with_reducible refine (B1 _).mono ?_
        rintro e w1 ⟨rfl, hb⟩
        clear B1
        go_wp2_with fail
        with_reducible refine (Z1 _).mono ?_
        rintro e w' ⟨rfl, rfl⟩
        go_wp2_with fail
        go_ret3
        exact ⟨rfl, hb⟩
      · rw [if_neg hlt] at h
        cases h
        have x1 := sl_str Tryd.underlying9 (s := s) (x := (k : Int)) (y := 2 * (k : Int) + 1) (a := k) (b := 2 * k + 1) rfl (by omega) (by omega) (by omega)
        have hxl : (s.extract k (2 * k + 1)).data.toList = (s.data.toList.drop k).take (k + 1) := by rw [ext_data]; congr 1; omega
        have hxs : (s.extract k (2 * k + 1)).size ≤ 31 := by
          have := congrArg List.length hxl
          rw [List.length_take] at this
          have h2 : (s.extract k (2 * k + 1)).data.toList.length = (s.extract k (2 * k + 1)).size := Array.length_toList ..
          omega
        have V1 := fun w => value_is (s.extract k (2 * k + 1)) (Gr.val ((s.data.toList.drop k).take (k + 1))) w hxs (by rw [hxl]; exact Gr.bitsB_take (Gr.bitsB_drop hbv _) _) (by rw [hxl])
        have hvl := Gr.val_lt (Gr.bitsB_take (Gr.bitsB_drop hbv k) (k + 1))
        generalize Gr.val ((s.data.toList.drop k).take (k + 1)) = vv at *
        generalize s.extract k (2 * k + 1) = X at *
        clear hbv hk hxl hvl
        go_enter Tryd.func50, Tryd.ntmps50
        go_wp2_with fail
        with_reducible refine (B1 _).mono ?_
        rintro e w1 ⟨rfl, hb⟩
        clear B1
        go_wp2_with fail
        with_reducible refine (Z1 _).mono ?_
        rintro e w' ⟨rfl, rfl⟩
        clear Z1
        go_wp2_with fail
        with_reducible refine (V1 _).mono ?_
        rintro e w' ⟨rfl, rfl⟩
        clear V1
        go_wp2_with fail
        go_ret3
        exact ⟨by first | rfl | (simp), hb⟩

theorem or_int {k r : Nat} (hr : r < 2 ^ k) (hk : k ≤ 30) : bits .or .i64 ((2 ^ k : Nat) : Int) (r : Int) = ((2 ^ k ||| r : Nat) : Int) := by
  have h : 2 ^ k ≤ 2 ^ 30 := Nat.pow_le_pow_right (by decide) hk
  have h2 : (2 : Nat) ^ 30 = 1073741824 := rfl
  exact i64_or_nat _ _ (by omega) (by omega)

theorem pow_wrap {k : Nat} (hk : k ≤ 30) : wrap64 ((2 : Int) ^ k) = ((2 ^ k : Nat) : Int) := by
  have h : 2 ^ k ≤ 2 ^ 30 := Nat.pow_le_pow_right (by decide) hk
  have h2 : (2 : Nat) ^ 30 = 1073741824 := rfl
  rw [show ((2 : Int) ^ k) = ((2 ^ k : Nat) : Int) from (Int.natCast_pow 2 k).symm]
  generalize 2 ^ k = P at *
  exact IntWalk.wrap64_in _ (by omega)

theorem below_drewG {B : Nat} {a w : World} (h : Below B a w) (n : Nat) : Below B a (w.drewN n) := ⟨h.os, h.tape, h.output, h.size, h.block⟩

theorem shl_int {k : Nat} (hk : k ≤ 30) : Op.shift .shl .i64 1 .i64 (k : Int) = pure (.int .i64 ((2 ^ k : Nat) : Int)) := by
  have h : 2 ^ k ≤ 2 ^ 30 := Nat.pow_le_pow_right (by decide) hk
  have h2 : (2 : Nat) ^ 30 = 1073741824 := rfl
  rw [shift_shl_i64 _ _ _ (by omega) (by omega), Int.toNat_natCast, Int.one_mul, show ((2 : Int) ^ k) = ((2 ^ k : Nat) : Int) from (Int.natCast_pow 2 k).symm]
  generalize 2 ^ k = P at *
  rw [show IntKind.i64.wrap (P : Int) = P from IntWalk.i64_in _ (by omega)]

end Go.Proofs.YtkdcapjnoapjgaaDoor
