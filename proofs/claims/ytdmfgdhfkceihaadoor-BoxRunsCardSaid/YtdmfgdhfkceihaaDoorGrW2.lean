/- The walks of gamma.ReadGamma and ReadDelta. -/
import Derived.Test.YtdmfgdhfkceihaaDoorGrW
import Derived.Test.YtdmfgdhfkceihaaDoorRow
namespace Go.Proofs.YtdmfgdhfkceihaaDoor
open Go.RowKit

theorem sl_fromG {P : Program} {t : TypeId} (hu : P.underlying t = some .string) {s : ByteArray} {x : Int} {a : Nat} (hx : x = a) (hb : a ≤ s.size) :
    ∀ w, (Instr.slice t (.string s) (some (.int .i64 x)) none none).run P w = .ok (.string (s.extract a s.size)) w := by
  intro w
  subst hx
  have := hb
  simp [go_sem, hu]
  omega

theorem readG_codes (l : List UInt8) : ((Gr.readG l).1 = 0 ∨ (Gr.readG l).1 = 2 ∨ (Gr.readG l).1 = 3 ∨ (Gr.readG l).1 = 7) ∧ ((Gr.readG l).1 ≠ 0 → (Gr.readG l).2 = (0, 0)) := by
  unfold Gr.readG
  split
  · exact ⟨by simp, fun _ => rfl⟩
  · split
    · exact ⟨by simp, fun _ => rfl⟩
    · split
      · exact ⟨by simp, fun _ => rfl⟩
      · exact ⟨by simp, fun h => absurd rfl h⟩

set_option maxRecDepth 100000 in
set_option maxHeartbeats 1000000 in
theorem ReadGamma_is (s : ByteArray) (c : Int) (v u : Nat) (w : World) (hs : s.size ≤ 9223372036854775807) (h : Gr.readG s.data.toList = (c, v, u)) :
    Calls Tryd.prog 11 #[.string s] w fun e w' => e = .returned (.tuple #[.int .i64 v, .int .i64 u, .int .i64 c]) ∧ Below w.heap.size w w' := by
  have hl : s.data.toList.length = s.size := by simp
  obtain ⟨bv, hbv⟩ : ∃ b, Gr.bitsB s.data.toList = b := ⟨_, rfl⟩
  have B1 := fun w => Bits_is s bv w hs hbv
  obtain ⟨k, hk⟩ : ∃ k, Gr.zer s.data.toList = k := ⟨_, rfl⟩
  have hks : k ≤ s.size := by rw [← hk, ← hl]; unfold Gr.zer; omega
  have Z1 := fun w => zeros_is s k w hs hk
  unfold Gr.readG at h
  rw [hbv, hk, hl] at h
  cases bv with
  | false =>
    cases h
    clear Z1 hbv hk
    go_enter Tryd.func11, Tryd.ntmps11
    go_wp2_with fail
    with_reducible refine (B1 _).mono ?_
    rintro e w1 ⟨rfl, hb⟩
    clear B1
    go_wp2_with fail
    go_ret3
    exact ⟨rfl, hb⟩
  | true =>
    rw [if_neg (by decide)] at h
    by_cases h30 : 30 < k
    · rw [if_pos h30] at h
      cases h
      clear hbv hk
      go_enter Tryd.func11, Tryd.ntmps11
      go_wp2_with fail
      with_reducible refine (B1 _).mono ?_
      rintro e w1 ⟨rfl, hb⟩
      clear B1
      go_wp2_with fail
      with_reducible refine (Z1 _).mono ?_
      rintro e w' ⟨rfl, rfl⟩
      go_wp2_with fail
      go_ret3
      exact ⟨rfl, hb⟩
    · rw [if_neg h30] at h
      by_cases hlt : s.size < 2 * k + 1
      · rw [if_pos hlt] at h
        cases h
        clear hbv hk
        go_enter Tryd.func11, Tryd.ntmps11
        go_wp2_with fail
        with_reducible refine (B1 _).mono ?_
        rintro e w1 ⟨rfl, hb⟩
        clear B1
        go_wp2_with fail
        with_reducible refine (Z1 _).mono ?_
        rintro e w' ⟨rfl, rfl⟩
        go_wp2_with fail
        go_ret3
        exact ⟨rfl, hb⟩
      · rw [if_neg hlt] at h
        cases h
        have x1 := sl_str Tryd.underlying9 (s := s) (x := (k : Int)) (y := 2 * (k : Int) + 1) (a := k) (b := 2 * k + 1) rfl (by omega) (by omega) (by omega)
        have hxl : (s.extract k (2 * k + 1)).data.toList = (s.data.toList.drop k).take (k + 1) := by rw [ext_data]; congr 1; omega
        have hxs : (s.extract k (2 * k + 1)).size ≤ 31 := by
          have := congrArg List.length hxl
          rw [List.length_take] at this
          have h2 : (s.extract k (2 * k + 1)).data.toList.length = (s.extract k (2 * k + 1)).size := Array.length_toList ..
          omega
        have V1 := fun w => value_is (s.extract k (2 * k + 1)) (Gr.val ((s.data.toList.drop k).take (k + 1))) w hxs (by rw [hxl]; exact Gr.bitsB_take (Gr.bitsB_drop hbv _) _) (by rw [hxl])
        have hvl := Gr.val_lt (Gr.bitsB_take (Gr.bitsB_drop hbv k) (k + 1))
        generalize Gr.val ((s.data.toList.drop k).take (k + 1)) = vv at *
        generalize s.extract k (2 * k + 1) = X at *
        clear hbv hk hxl hvl
        go_enter Tryd.func11, Tryd.ntmps11
        go_wp2_with fail
        with_reducible refine (B1 _).mono ?_
        rintro e w1 ⟨rfl, hb⟩
        clear B1
        go_wp2_with fail
        with_reducible refine (Z1 _).mono ?_
        rintro e w' ⟨rfl, rfl⟩
        clear Z1
        go_wp2_with fail
        with_reducible refine (V1 _).mono ?_
        rintro e w' ⟨rfl, rfl⟩
        clear V1
        go_wp2_with fail
        go_ret3
        exact ⟨by first | rfl | (simp), hb⟩

theorem or_int {k r : Nat} (hr : r < 2 ^ k) (hk : k ≤ 30) : bits .or .i64 ((2 ^ k : Nat) : Int) (r : Int) = ((2 ^ k ||| r : Nat) : Int) := by
  have h : 2 ^ k ≤ 2 ^ 30 := Nat.pow_le_pow_right (by decide) hk
  have h2 : (2 : Nat) ^ 30 = 1073741824 := rfl
  exact i64_or_nat _ _ (by omega) (by omega)

theorem pow_wrap {k : Nat} (hk : k ≤ 30) : wrap64 ((2 : Int) ^ k) = ((2 ^ k : Nat) : Int) := by
  have h : 2 ^ k ≤ 2 ^ 30 := Nat.pow_le_pow_right (by decide) hk
  have h2 : (2 : Nat) ^ 30 = 1073741824 := rfl
  rw [show ((2 : Int) ^ k) = ((2 ^ k : Nat) : Int) from (Int.natCast_pow 2 k).symm]
  generalize 2 ^ k = P at *
  exact IntWalk.wrap64_in _ (by omega)

theorem below_drewG {B : Nat} {a w : World} (h : Below B a w) (n : Nat) : Below B a (w.drewN n) := ⟨h.os, h.tape, h.output, h.size, h.block⟩

theorem shl_int {k : Nat} (hk : k ≤ 30) : Op.shift .shl .i64 1 .i64 (k : Int) = pure (.int .i64 ((2 ^ k : Nat) : Int)) := by
  have h : 2 ^ k ≤ 2 ^ 30 := Nat.pow_le_pow_right (by decide) hk
  have h2 : (2 : Nat) ^ 30 = 1073741824 := rfl
  rw [shift_shl_i64 _ _ _ (by omega) (by omega), Int.toNat_natCast, Int.one_mul, show ((2 : Int) ^ k) = ((2 ^ k : Nat) : Int) from (Int.natCast_pow 2 k).symm]
  generalize 2 ^ k = P at *
  rw [show IntKind.i64.wrap (P : Int) = P from IntWalk.i64_in _ (by omega)]

set_option maxRecDepth 100000 in
set_option maxHeartbeats 2000000 in
theorem ReadDelta_is (s : ByteArray) (c : Int) (v u : Nat) (w : World) (hs : s.size ≤ 9223372036854775000) (h : Gr.readD s.data.toList = (c, v, u)) (hc : c = 0 ∨ (Gr.readG s.data.toList).1 ≠ 0) :
    Calls Tryd.prog 12 #[.string s] w fun e w' => e = .returned (.tuple #[.int .i64 v, .int .i64 u, .int .i64 c]) ∧ Below w.heap.size w w' := by
  have hl : s.data.toList.length = s.size := by simp
  obtain ⟨c1, v1, u1, hg⟩ : ∃ c v u, Gr.readG s.data.toList = (c, v, u) := ⟨_, _, _, rfl⟩
  have R1 := fun w => ReadGamma_is s c1 v1 u1 w (by omega) hg
  unfold Gr.readD at h
  rw [hg] at h hc
  dsimp only at h hc
  by_cases h0 : c1 = 0
  · subst h0
    rcases hc with rfl | hc
    · have hb := Gr.readG_back hg
      rw [if_neg (by decide)] at h
      by_cases h31 : 31 < v1
      · rw [if_pos h31] at h; cases h
      · rw [if_neg h31] at h
        by_cases hlt : s.data.toList.length < u1 + v1 - 1
        · rw [if_pos hlt] at h; cases h
        · rw [if_neg hlt] at h
          obtain ⟨m, rfl⟩ : ∃ m, v1 = m + 1 := ⟨v1 - 1, by omega⟩
          rw [hl] at hlt hb
          rw [show u1 + (m + 1) - 1 = u1 + m from by omega, Nat.add_sub_cancel] at h
          rw [show u1 + (m + 1) - 1 = u1 + m from by omega] at hlt
          cases h
          have x1 := sl_str Tryd.underlying9 (s := s) (x := (u1 : Int)) (y := (u1 : Int) + m) (a := u1) (b := u1 + m) rfl (by omega) (by omega) (by omega)
          have hxl : (s.extract u1 (u1 + m)).data.toList = (s.data.toList.drop u1).take m := by rw [ext_data]; congr 1; omega
          have hxs : (s.extract u1 (u1 + m)).size ≤ 31 := by
            have := congrArg List.length hxl
            rw [List.length_take] at this
            have h2 : (s.extract u1 (u1 + m)).data.toList.length = (s.extract u1 (u1 + m)).size := Array.length_toList ..
            omega
          have V1 := fun w => value_is (s.extract u1 (u1 + m)) (Gr.val ((s.data.toList.drop u1).take m)) w hxs (by rw [hxl]; exact Gr.bitsB_take (Gr.bitsB_drop hb.1 _) _) (by rw [hxl])
          have hvl := Gr.val_lt (Gr.bitsB_take (Gr.bitsB_drop hb.1 u1) m)
          rw [List.length_take, List.length_drop, hl, Nat.min_eq_left (by omega)] at hvl
          have hor := or_int hvl (by omega)
          have qs := shl_int (k := m) (by omega)
          have hor31 : 2 ^ m ||| Gr.val ((s.data.toList.drop u1).take m) < 2 ^ 31 := Nat.or_lt_two_pow (Nat.pow_lt_pow_right (by decide) (by omega)) (Nat.lt_of_lt_of_le hvl (Nat.pow_le_pow_right (by decide) (by omega)))
          have h31e : (2 : Nat) ^ 31 = 2147483648 := rfl
          rw [h31e] at hor31
          clear h31e hvl
          obtain ⟨O, hO⟩ : ∃ O, 2 ^ m ||| Gr.val ((s.data.toList.drop u1).take m) = O := ⟨_, rfl⟩
          rw [hO] at hor hor31 ⊢
          clear hO
          have HP : Hid (wrap64 ((2 : Int) ^ m) = ((2 ^ m : Nat) : Int)) := Lib.hid (pow_wrap (by omega))
          generalize 2 ^ m = P at *
          generalize Gr.val ((s.data.toList.drop u1).take m) = vv at *
          generalize s.extract u1 (u1 + m) = X at *
          clear hxl hxs hb hg
          go_enter Tryd.func12, Tryd.ntmps12
          go_wp2_with fail
          with_reducible refine (R1 _).mono ?_
          rintro e w1 ⟨rfl, hb⟩
          clear R1
          have q1 : IntKind.i64.wrap ((m : Int) + 1 - 1) = m := by rw [show (m : Int) + 1 - 1 = m from by omega]; exact IntWalk.i64_in _ (by omega)
          have q2 : IntKind.i64.wrap ((u1 : Int) + ((m : Int) + 1)) = (u1 : Int) + ((m : Int) + 1) := IntWalk.i64_in _ (by omega)
          have q3 : IntKind.i64.wrap ((u1 : Int) + ((m : Int) + 1) - 1) = (u1 : Int) + m := by rw [IntWalk.i64_in _ (by omega)]; omega
          go_wp2_with fail
          go_quiet ((go_at_call 28; exact Calls.quiet_of_same (V1 _)))
          clear q1 q2 q3 qs
          go_wp2_with fail
          go_ret3
          exact ⟨by simp [HP.out, hor], below_drewG hb _⟩
    · exact absurd rfl hc
  · rw [if_pos h0] at h
    cases h
    have hb : (c != 0) = true := bne_iff_ne.2 h0
    clear hg hc
    go_enter Tryd.func12, Tryd.ntmps12
    go_wp2_with fail
    with_reducible refine (R1 _).mono ?_
    rintro e w1 ⟨rfl, hb⟩
    clear R1
    go_wp2_with fail
    go_ret3
    exact ⟨rfl, hb⟩

end Go.Proofs.YtdmfgdhfkceihaaDoor
