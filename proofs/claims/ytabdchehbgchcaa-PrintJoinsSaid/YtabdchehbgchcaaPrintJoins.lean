/- PrintJoins: the print of two texts, one behind the other, hangs on their prints, and on how long the second is; for every input within the form's reach. -/
import Derived.Test.YtabdchehbgchcaaPrintW2
namespace Go.Proofs.Ytabdchehbgchcaa
open Go.RowKit

set_option maxRecDepth 100000 in
set_option maxHeartbeats 1000000 in
theorem printJoins_core (m : Int) (s t : ByteArray) (w : World) (a b c : Nat) (hs : s.size ≤ 600) (ht : t.size ≤ 600)
    (o0 : Ans2 29 #[.int .i64 7, .string ⟨#[]⟩] (.int .i64 1) (.int .i64 0))
    (o1 : Ans2 29 #[.int .i64 m, .string s] (.int .i64 a) (.int .i64 0))
    (o2 : Ans2 29 #[.int .i64 m, .string t] (.int .i64 b) (.int .i64 0))
    (o3 : Ans2 29 #[.int .i64 m, .string (s ++ t)] (.int .i64 c) (.int .i64 0))
    (j1 : Ans2 40 #[.int .i64 m, .int .i64 a, .int .i64 b, .int .i64 t.size] (.int .i64 c) (.int .i64 0)) :
    Calls Try.prog 18 #[.int .i64 m, .string s, .string t] w fun e w' => e = .returned (.bool true) ∧ w = w' := by
  go_enter Try.func18, Try.ntmps18
  go_wp2_with fail
  with_reducible refine o0.use ?_
  rintro e w' ⟨rfl, rfl⟩
  go_wp2_with fail
  with_reducible refine o1.use ?_
  rintro e w' ⟨rfl, rfl⟩
  go_wp2_with fail
  with_reducible refine o2.use ?_
  rintro e w' ⟨rfl, rfl⟩
  go_wp2_with fail
  with_reducible refine o3.use ?_
  rintro e w' ⟨rfl, rfl⟩
  go_wp2_with fail
  with_reducible refine j1.use ?_
  rintro e w' ⟨rfl, rfl⟩
  go_wp2_with fail
  go_ret
  exact ⟨rfl, rfl⟩

set_option maxRecDepth 100000 in
set_option maxHeartbeats 1000000 in
theorem printJoins_err (m : Int) (s t : ByteArray) (w : World) (a b c e1 e2 e3 : Int) (hs : s.size ≤ 140737488351232) (ht : t.size ≤ 140737488351232)
    (o0 : Ans2 29 #[.int .i64 7, .string ⟨#[]⟩] (.int .i64 1) (.int .i64 0))
    (o1 : Ans2 29 #[.int .i64 m, .string s] (.int .i64 a) (.int .i64 e1))
    (o2 : Ans2 29 #[.int .i64 m, .string t] (.int .i64 b) (.int .i64 e2))
    (o3 : Ans2 29 #[.int .i64 m, .string (s ++ t)] (.int .i64 c) (.int .i64 e3))
    (h : e1 = 0 ∧ e2 = 0 ∧ e3 = 2 ∨ e1 = 0 ∧ e2 = 2 ∨ (e1 = 1 ∨ e1 = 2) ∧ a = 0) :
    Calls Try.prog 18 #[.int .i64 m, .string s, .string t] w fun e w' => e = .returned (.bool true) ∧ w = w' := by
  rcases h with ⟨rfl, rfl, rfl⟩ | ⟨rfl, rfl⟩ | ⟨rfl | rfl, rfl⟩
  all_goals
    go_enter Try.func18, Try.ntmps18
    go_wp2_with fail
    with_reducible refine o0.use ?_
    rintro e w' ⟨rfl, rfl⟩
    go_wp2_with fail
    with_reducible refine o1.use ?_
    rintro e w' ⟨rfl, rfl⟩
    go_wp2_with fail
    with_reducible refine o2.use ?_
    rintro e w' ⟨rfl, rfl⟩
    go_wp2_with fail
    with_reducible refine o3.use ?_
    rintro e w' ⟨rfl, rfl⟩
    go_wp2_with fail
    go_ret
    exact ⟨rfl, rfl⟩

theorem append_data (s t : ByteArray) : (s ++ t).data.toList = s.data.toList ++ t.data.toList := by
  rw [ByteArray.data_append, Array.toList_append]

theorem printJoins_walk (a0 : Int) (a1 : ByteArray) (a2 : ByteArray) (_ : (Lit.int .i64 a0).wf = true) (w1 : a1.size ≤ 140737488351232) (w2 : a2.size ≤ 140737488351232) (w : World) :
    Calls Try.prog 18 #[.int .i64 a0, .string a1, .string a2] w fun e w' => e = .returned (.bool true) ∧ Grown w w' := by
  have o0 := Of_is (m := 7) (s := ⟨#[]⟩) (x := 1) (by omega) (by omega) (by decide) (by decide +kernel)
  have hsz : (a1 ++ a2).size = a1.size + a2.size := ByteArray.size_append
  have hl2 : a2.data.toList.length = a2.size := by simp
  refine grown_of ?_
  by_cases hm : 2 ≤ a0 ∧ a0 ≤ 2147483647
  · obtain ⟨m, rfl⟩ := Int.eq_ofNat_of_zero_le (show 0 ≤ a0 by omega)
    have h2 : 2 ≤ m := by omega
    have hm2 : m ≤ 2147483647 := by omega
    have h0 : m ≠ 0 := by omega
    have big : ∀ s : ByteArray, 600 < s.size → s.size ≤ 9223372036854775807 → Ans2 29 #[.int .i64 m, .string s] (.int .i64 0) (.int .i64 2) := fun s h h' w => Of_large m s w h2 hm2 h h'
    by_cases hs : a1.size ≤ 600
    · have o1 := Of_is (m := m) h2 hm2 hs rfl
      by_cases ht : a2.size ≤ 600
      · have o2 := Of_is (m := m) h2 hm2 ht rfl
        by_cases hst : (a1 ++ a2).size ≤ 600
        · have o3 := Of_is (m := m) h2 hm2 hst rfl
          have l1 := G.print_lt a1.data.toList h0
          have l2 := G.print_lt a2.data.toList h0
          have hx : G.md (G.pw 2 (8 * a2.size)) m ≤ 2147483647 := md_le h0 hm2
          have hy : G.md (G.mul (G.print m a1.data.toList) (G.md (G.pw 2 (8 * a2.size)) m)) m ≤ 2147483647 := md_le h0 hm2
          have hb := G.L_lt l2
          have ha := G.L_lt l1
          refine printJoins_core m a1 a2 w _ _ _ hs ht o0 o1 o2 o3 (fun w => ?_)
          refine Join_ok m _ _ a2.size _ _ _ w h2 hm2 ht hx hy (by omega) (rest_is hm2 h2 l1) (rest_is hm2 h2 l2) ?_ (ModMul_is (by omega) hx hm2 h0 rfl) ?_
          · rw [show (8 : Int) * (a2.size : Int) = ((8 * a2.size : Nat) : Int) from by omega]
            exact ModPow_is (a := 2) (by omega) (by omega) hm2 h0 rfl
          · rw [append_data, G.print_join _ _ h0, hl2]
        · exact printJoins_err m a1 a2 w _ _ _ 0 0 2 w1 w2 o0 o1 o2 (big _ (by omega) (by omega)) (Or.inl ⟨rfl, rfl, rfl⟩)
      · exact printJoins_err m a1 a2 w _ _ _ 0 2 2 w1 w2 o0 o1 (big _ (by omega) (by omega)) (big _ (by omega) (by omega)) (Or.inr (Or.inl ⟨rfl, rfl⟩))
    · by_cases ht : a2.size ≤ 600
      · exact printJoins_err m a1 a2 w _ _ _ 2 0 2 w1 w2 o0 (big _ (by omega) (by omega)) (Of_is (m := m) h2 hm2 ht rfl) (big _ (by omega) (by omega)) (Or.inr (Or.inr ⟨Or.inr rfl, rfl⟩))
      · exact printJoins_err m a1 a2 w _ _ _ 2 2 2 w1 w2 o0 (big _ (by omega) (by omega)) (big _ (by omega) (by omega)) (big _ (by omega) (by omega)) (Or.inr (Or.inr ⟨Or.inr rfl, rfl⟩))
  · have bad : ∀ s : ByteArray, Ans2 29 #[.int .i64 a0, .string s] (.int .i64 0) (.int .i64 1) := fun s w => Of_bad a0 s w (by omega)
    exact printJoins_err a0 a1 a2 w _ _ _ 1 1 1 w1 w2 o0 (bad _) (bad _) (bad _) (Or.inr (Or.inr ⟨Or.inl rfl, rfl⟩))

end Go.Proofs.Ytabdchehbgchcaa
