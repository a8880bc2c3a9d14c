/- The walk of log.Check. -/
import Derived.Test.YthccdoejnklidaaLogW
namespace Go.Proofs.Ythccdoejnklidaa
open Go.RowKit

theorem Name_is {s : ByteArray} {b : Bool} (hs : s.size ≤ maxLen) (h : Lg.nmB s.data.toList = b) : Ans1 41 #[.string s] (.bool b) := fun w => by
  have := Name_any s w hs
  rwa [h] at this

/-- A deed, as a value. -/
def opV (k : Int) (nm to : ByteArray) (a : Int) (tx : ByteArray) : Value := .agg #[.int .i64 k, .string nm, .string to, .int .i64 a, .string tx]

set_option maxRecDepth 100000 in
set_option maxHeartbeats 4000000 in
theorem Check_any (k : Int) (nm to : ByteArray) (a : Int) (tx : ByteArray) (w : World) (hn : nm.size ≤ maxLen) (ht : to.size ≤ maxLen) (hx : tx.size ≤ maxLen) :
    Calls Try.prog 27 #[.agg #[.int .i64 k, .string nm, .string to, .int .i64 a, .string tx]] w fun e w' => e = .returned (.int .i64 (Lg.chk k (Lg.nmB nm.data.toList) (Lg.nmB to.data.toList) a tx.size to.toList.isEmpty tx.toList.isEmpty)) ∧ Below w.heap.size w w' := by
  have HB : Hid (Below w.heap.size w (w.alloc (.cells #[.int .i64 k, .string nm, .string to, .int .i64 a, .string tx] 28))) := Lib.hid ((Below.refl _ w).alloc (Nat.le_refl _) _)
  obtain ⟨b1, h1⟩ : ∃ b, Lg.nmB nm.data.toList = b := ⟨_, rfl⟩
  obtain ⟨b2, h2⟩ : ∃ b, Lg.nmB to.data.toList = b := ⟨_, rfl⟩
  obtain ⟨xt, h3⟩ : ∃ b, to.toList.isEmpty = b := ⟨_, rfl⟩
  obtain ⟨xx, h4⟩ : ∃ b, tx.toList.isEmpty = b := ⟨_, rfl⟩
  have N1 := Name_is hn h1
  have N2 := Name_is ht h2
  unfold maxLen at hx
  rw [h1, h2, h3, h4]
  clear h1 h2 hn ht
  by_cases hk : k < 1 ∨ 5 < k
  · have e : Lg.chk k b1 b2 a tx.size xt xx = 1 := by unfold Lg.chk; rw [if_pos hk]
    rw [e]
    clear e h3 h4
    by_cases hk1 : k < 1
    · clear hk
      go_enter Try.func27, Try.ntmps27
      go_wp2_with fail
      go_ret
      exact ⟨rfl, HB.out⟩
    · have hk5 : 5 < k := by omega
      clear hk
      go_enter Try.func27, Try.ntmps27
      go_wp2_with fail
      go_ret
      exact ⟨rfl, HB.out⟩
  · have hk1 : 1 ≤ k := by omega
    have hk5 : k ≤ 5 := by omega
    cases b1 with
    | false =>
      have e : Lg.chk k false b2 a tx.size xt xx = 3 := by unfold Lg.chk; rw [if_neg hk, if_pos (Or.inl rfl)]
      rw [e]
      clear e hk h3 h4
      go_enter Try.func27, Try.ntmps27
      go_wp2_with fail
      with_reducible refine N1.use ?_
      rintro e w' ⟨rfl, rfl⟩
      go_wp2_with fail
      go_ret
      exact ⟨rfl, HB.out⟩
    | true =>
      by_cases hk2 : k = 5 ∧ b2 = false
      · have e : Lg.chk k true b2 a tx.size xt xx = 3 := by unfold Lg.chk; rw [if_neg hk, if_pos (Or.inr hk2)]
        obtain ⟨rfl, rfl⟩ := hk2
        rw [e]
        clear e hk h3 h4 hk1 hk5
        go_enter Try.func27, Try.ntmps27
        go_wp2_with fail
        with_reducible refine N1.use ?_
        rintro e w' ⟨rfl, rfl⟩
        go_wp2_with fail
        with_reducible refine N2.use ?_
        rintro e w' ⟨rfl, rfl⟩
        go_wp2_with fail
        go_ret
        exact ⟨rfl, HB.out⟩
      · have hk3 : (k ≠ 5) ∨ (k = 5 ∧ b2 = true) := by
          by_cases h : k = 5
          · exact Or.inr ⟨h, by cases b2; exact absurd ⟨h, rfl⟩ hk2; rfl⟩
          · exact Or.inl h
        by_cases ha : a < 0 ∨ 32 < a
        · have e : Lg.chk k true b2 a tx.size xt xx = 1 := by unfold Lg.chk; rw [if_neg hk, if_neg (by rintro (h | h); cases h; exact hk2 h), if_pos ha]
          rw [e]
          clear e hk h3 h4 hk2
          by_cases ha1 : a < 0
          all_goals
            have ha2 : a < 0 ∨ 0 ≤ a ∧ 32 < a := by omega
            clear ha
            rcases hk3 with hk3 | ⟨rfl, rfl⟩
          · clear ha2
            go_enter Try.func27, Try.ntmps27
            go_wp2_with fail
            with_reducible refine N1.use ?_
            rintro e w' ⟨rfl, rfl⟩
            go_wp2_with fail
            go_ret
            exact ⟨rfl, HB.out⟩
          · clear ha2
            go_enter Try.func27, Try.ntmps27
            go_wp2_with fail
            with_reducible refine N1.use ?_
            rintro e w' ⟨rfl, rfl⟩
            go_wp2_with fail
            with_reducible refine N2.use ?_
            rintro e w' ⟨rfl, rfl⟩
            go_wp2_with fail
            go_ret
            exact ⟨rfl, HB.out⟩
          · have ha3 : 32 < a := by omega
            clear ha2
            go_enter Try.func27, Try.ntmps27
            go_wp2_with fail
            with_reducible refine N1.use ?_
            rintro e w' ⟨rfl, rfl⟩
            go_wp2_with fail
            go_ret
            exact ⟨rfl, HB.out⟩
          · have ha3 : 32 < a := by omega
            clear ha2
            go_enter Try.func27, Try.ntmps27
            go_wp2_with fail
            with_reducible refine N1.use ?_
            rintro e w' ⟨rfl, rfl⟩
            go_wp2_with fail
            with_reducible refine N2.use ?_
            rintro e w' ⟨rfl, rfl⟩
            go_wp2_with fail
            go_ret
            exact ⟨rfl, HB.out⟩
        · have ha0 : 0 ≤ a := by omega
          have ha32 : a ≤ 32 := by omega
          by_cases hx6 : 64 < tx.size
          · have e : Lg.chk k true b2 a tx.size xt xx = 2 := by unfold Lg.chk; rw [if_neg hk, if_neg (by rintro (h | h); cases h; exact hk2 h), if_neg ha, if_pos hx6]
            rw [e]
            clear e hk h3 h4 hk2 ha
            rcases hk3 with hk3 | ⟨rfl, rfl⟩
            · go_enter Try.func27, Try.ntmps27
              go_wp2_with fail
              with_reducible refine N1.use ?_
              rintro e w' ⟨rfl, rfl⟩
              go_wp2_with fail
              go_ret
              exact ⟨rfl, HB.out⟩
            · go_enter Try.func27, Try.ntmps27
              go_wp2_with fail
              with_reducible refine N1.use ?_
              rintro e w' ⟨rfl, rfl⟩
              go_wp2_with fail
              with_reducible refine N2.use ?_
              rintro e w' ⟨rfl, rfl⟩
              go_wp2_with fail
              go_ret
              exact ⟨rfl, HB.out⟩
          · obtain ⟨xa, h5⟩ : ∃ b, (a != 0) = b := ⟨_, rfl⟩
            have e : Lg.chk k true b2 a tx.size xt xx = if (k ≠ 5 ∧ xt = false) ∨ (k ≠ 3 ∧ xx = false) ∨ ((k = 2 ∨ k = 5) ∧ xa = true) then 3 else 0 := by
              rw [← h5]
              unfold Lg.chk
              rw [if_neg hk, if_neg (by rintro (h | h); cases h; exact hk2 h), if_neg ha, if_neg hx6]
              simp only [bne_iff_ne]
            rw [e]
            obtain ⟨r, hr⟩ : ∃ r : Nat, (if (k ≠ 5 ∧ xt = false) ∨ (k ≠ 3 ∧ xx = false) ∨ ((k = 2 ∨ k = 5) ∧ xa = true) then 3 else 0) = r := ⟨_, rfl⟩
            rw [hr]
            have HR := Lib.hid hr
            clear e hk hk2 ha hr
            obtain rfl | rfl | rfl | rfl | rfl : k = 1 ∨ k = 2 ∨ k = 3 ∨ k = 4 ∨ k = 5 := by omega
            · clear hk3
              rcases xt with _ | _ <;> rcases xx with _ | _
              all_goals
                go_enter Try.func27, Try.ntmps27
                go_wp2_with fail
                with_reducible refine N1.use ?_
                rintro e w' ⟨rfl, rfl⟩
                go_wp2_with fail
                go_ret
                exact ⟨by rw [← HR.out]; rfl, HB.out⟩
            · clear hk3
              rcases xt with _ | _ <;> rcases xx with _ | _ <;> rcases xa with _ | _
              all_goals
                go_enter Try.func27, Try.ntmps27
                go_wp2_with fail
                with_reducible refine N1.use ?_
                rintro e w' ⟨rfl, rfl⟩
                go_wp2_with fail
                go_ret
                exact ⟨by rw [← HR.out]; rfl, HB.out⟩
            · clear hk3
              rcases xt with _ | _
              all_goals
                go_enter Try.func27, Try.ntmps27
                go_wp2_with fail
                with_reducible refine N1.use ?_
                rintro e w' ⟨rfl, rfl⟩
                go_wp2_with fail
                go_ret
                exact ⟨by rw [← HR.out]; rfl, HB.out⟩
            · clear hk3
              rcases xt with _ | _ <;> rcases xx with _ | _
              all_goals
                go_enter Try.func27, Try.ntmps27
                go_wp2_with fail
                with_reducible refine N1.use ?_
                rintro e w' ⟨rfl, rfl⟩
                go_wp2_with fail
                go_ret
                exact ⟨by rw [← HR.out]; rfl, HB.out⟩
            · obtain rfl : b2 = true := by rcases hk3 with h | h; exact absurd rfl h; exact h.2
              clear hk3
              rcases xx with _ | _ <;> rcases xa with _ | _
              all_goals
                go_enter Try.func27, Try.ntmps27
                go_wp2_with fail
                with_reducible refine N1.use ?_
                rintro e w' ⟨rfl, rfl⟩
                go_wp2_with fail
                with_reducible refine N2.use ?_
                rintro e w' ⟨rfl, rfl⟩
                go_wp2_with fail
                go_ret
                exact ⟨by rw [← HR.out]; rfl, HB.out⟩

end Go.Proofs.Ythccdoejnklidaa
