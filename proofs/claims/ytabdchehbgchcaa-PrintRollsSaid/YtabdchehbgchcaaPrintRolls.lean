/- PrintRolls: a window that moves on has the print of what it shows; for every input. -/
import Derived.Test.YtabdchehbgchcaaPrintRoll
namespace Go.Proofs.Ytabdchehbgchcaa
open Go.RowKit

theorem sl_to {P : Program} {t : TypeId} (hu : P.underlying t = some .string) {s : ByteArray} {y : Int} {b : Nat} (hy : y = b) (hb : b ≤ s.size) :
    ∀ w, (Instr.slice t (.string s) none (some (.int .i64 y)) none).run P w = .ok (.string (s.extract 0 b)) w := by
  intro w
  subst hy
  have := run_slice_string_to_if w t s .i64 (b : Int) hu
  rw [this, if_pos (by omega), Int.toNat_natCast]

/-- The window of n bytes that ends at i. -/
def win (l : List UInt8) (n i : Nat) : List UInt8 := (l.drop (i - n)).take n

theorem win_out (l : List UInt8) (n i : Nat) (h1 : 1 ≤ n) (h2 : n ≤ i) (h3 : i < l.length) :
    ∃ u : List UInt8, u.length + 1 = n ∧ win l n i = l[i - n] :: u ∧ win l n (i + 1) = u ++ [l[i]] := by
  refine ⟨(l.drop (i - n + 1)).take (n - 1), ?_, ?_, ?_⟩
  · rw [List.length_take, List.length_drop]; omega
  · unfold win
    rw [List.drop_eq_getElem_cons (by omega : i - n < l.length)]
    obtain ⟨k, rfl⟩ : ∃ k, n = k + 1 := ⟨n - 1, by omega⟩
    rw [List.take_succ_cons, Nat.add_sub_cancel]
  · unfold win
    rw [show i + 1 - n = i - n + 1 from by omega]
    obtain ⟨k, rfl⟩ : ∃ k, n = k + 1 := ⟨n - 1, by omega⟩
    have hk : k < (l.drop (i - (k + 1) + 1)).length := by rw [List.length_drop]; omega
    rw [Nat.add_sub_cancel, List.take_succ_eq_append_getElem hk, List.getElem_drop]
    congr 2
    congr 1
    omega

/-- What a round of the loop asks. -/
def RollRound (m : Nat) (t : ByteArray) (j i : Nat) : Prop :=
  ∃ O C : Nat, O ≤ 255 ∧ C ≤ 255 ∧ bt t.data.toList (i - (1 + j)) = O ∧ bt t.data.toList i = C ∧
      Ans2 41 #[.int .i64 m, .int .i64 (G.print m (win t.data.toList (1 + j) i)), .int .i64 O, .int .i64 C, .int .i64 (1 + (j : Int))] (.int .i64 (G.print m (win t.data.toList (1 + j) (i + 1)))) (.int .i64 0) ∧
      Ans2 29 #[.int .i64 m, .string (t.extract (i - (1 + j) + 1) (i + 1))] (.int .i64 (G.print m (win t.data.toList (1 + j) (i + 1)))) (.int .i64 0)

set_option maxRecDepth 100000 in
set_option maxHeartbeats 2000000 in
theorem printRolls_core (m T j : Nat) (s t : ByteArray) (a2 : Int) (w : World) (q0 : Nat) (hq0 : q0 ≤ 255) (pa : Nat) (tpa : ((pa : Int) == 0) = false)
    (hT : t.size = T) (hT40 : T ≤ 40) (hnT : 1 + j ≤ T)
    (hmin : min (s.size : Int) 40 = T) (hmax : max 1 (T : Int) = T)
    (r0 : Ans2 41 #[.int .i64 283, .int .i64 0, .int .i64 0, .int .i64 0, .int .i64 1] (.int .i64 q0) (.int .i64 0))
    (o0 : Ans2 29 #[.int .i64 283, .string ⟨#[97]⟩] (.int .i64 pa) (.int .i64 0))
    (cut : ∀ w, (Instr.slice 9 (.string s) none (some (.int .i64 T)) none).run Try.prog w = .ok (.string t) w)
    (hw : Ans1 25 #[.int .i64 a2, .int .i64 T] (.int .i64 j))
    (o1 : Ans2 29 #[.int .i64 m, .string (t.extract 0 (1 + j))] (.int .i64 (G.print m (win t.data.toList (1 + j) (1 + j)))) (.int .i64 0))
    (HR : ∀ i, 1 + j ≤ i → i < T → RollRound m t j i) :
    Calls Try.prog 19 #[.int .i64 m, .string s, .int .i64 a2] w fun e w' => e = .returned (.bool true) ∧ ∃ k, w' = w.drewN k := by
  have HRR := Lib.hid HR; clear HR
  have cut2 := sl_to Try.underlying9 (s := t) (y := (1 : Int) + (j : Int)) (b := 1 + j) (by omega) (by omega)
  go_enter Try.func19, Try.ntmps19
  go_wp2_with fail
  with_reducible refine r0.use ?_
  rintro e w' ⟨rfl, rfl⟩
  go_wp2_with fail
  with_reducible refine o0.use ?_
  rintro e w' ⟨rfl, rfl⟩
  go_wp2_with fail
  with_reducible refine hw.use ?_
  rintro e w' ⟨rfl, rfl⟩
  go_wp2_with fail
  with_reducible refine o1.use ?_
  rintro e w' ⟨rfl, rfl⟩
  go_wp2_with fail
  go_loopw [11, 13] (fun p i wr => ∃ k : Nat, 1 + j ≤ k ∧ k ≤ T ∧ i = .int .i64 k ∧ p = .int .i64 (G.print m (win t.data.toList (1 + j) k)) ∧ ∃ j, wr = w.drewN j) (fun _ i _ => 60 - (intOf i).toNat)
  case atStart => exact ⟨1 + j, by omega, by omega, by go_num, rfl, 0, rfl⟩
  case round =>
    obtain ⟨k, hk1, hk2, rfl, rfl, hj⟩ := hrel
    by_cases hlt : k < T
    · obtain ⟨O, C, hO, hC, e1, e2, R1, O1⟩ := HRR.out k hk1 hlt
      have x1 := idx_str Try.underlying9 (s := t) (x := (k : Int) - (1 + (j : Int))) (k := k - (1 + j)) (by omega) (by omega)
      have x2 := idx_str Try.underlying9 (s := t) (x := (k : Int)) (k := k) rfl (by omega)
      rw [e1] at x1
      rw [e2] at x2
      have x3 := sl_str Try.underlying9 (s := t) (x := (k : Int) - (1 + (j : Int)) + 1) (y := (k : Int) + 1) (a := k - (1 + j) + 1) (b := k + 1) (by omega) (by omega) (by omega) (by omega)
      clear e1 e2
      generalize G.print m (win t.data.toList (1 + j) k) = p at *
      obtain ⟨p', hp'⟩ : ∃ p', Hid (G.print m (win t.data.toList (1 + j) (k + 1)) = p') := ⟨_, Lib.hid rfl⟩
      rw [hp'.out] at R1 O1
      have q1 : IntKind.i64.wrap ((k : Int) - (1 + (j : Int))) = (k : Int) - (1 + (j : Int)) := IntWalk.i64_in _ (by omega)
      go_wp2_with fail
      go_quiet ((go_at_call 41; exact Calls.quiet_of_same ((R1 _).mono fun _ _ ⟨h1, h2⟩ => ⟨h1, h2.symm⟩)))
      clear q1 x1 x2
      go_wp2_with fail
      with_reducible refine O1.use ?_
      rintro e w' ⟨rfl, rfl⟩
      go_wp2_with fail
      go_roundw
      case rel => exact ⟨k + 1, by omega, by omega, by go_num, by rw [hp'.out], by obtain ⟨j, rfl⟩ := hj; exact ⟨_, dd _ _ _⟩⟩
      case measure => simp [intOf]; omega
    · obtain rfl : k = T := by omega
      go_wp2_with fail
      go_ret
      exact ⟨rfl, hj⟩

set_option maxRecDepth 100000 in
set_option maxHeartbeats 1000000 in
theorem printRolls_none (m : Int) (s t : ByteArray) (a2 : Int) (w : World) (q0 : Nat) (hq0 : q0 ≤ 255) (pa : Nat) (tpa : ((pa : Int) == 0) = false)
    (hT : t.size = 0) (hmin : min (s.size : Int) 40 = 0) (hmax : max 1 (0 : Int) = 1)
    (r0 : Ans2 41 #[.int .i64 283, .int .i64 0, .int .i64 0, .int .i64 0, .int .i64 1] (.int .i64 q0) (.int .i64 0))
    (o0 : Ans2 29 #[.int .i64 283, .string ⟨#[97]⟩] (.int .i64 pa) (.int .i64 0))
    (cut : ∀ w, (Instr.slice 9 (.string s) none (some (.int .i64 0)) none).run Try.prog w = .ok (.string t) w)
    (hw : Ans1 25 #[.int .i64 a2, .int .i64 1] (.int .i64 0)) :
    Calls Try.prog 19 #[.int .i64 m, .string s, .int .i64 a2] w fun e w' => e = .returned (.bool true) ∧ ∃ k, w' = w.drewN k := by
  go_enter Try.func19, Try.ntmps19
  go_wp2_with fail
  with_reducible refine r0.use ?_
  rintro e w' ⟨rfl, rfl⟩
  go_wp2_with fail
  with_reducible refine o0.use ?_
  rintro e w' ⟨rfl, rfl⟩
  go_wp2_with fail
  with_reducible refine hw.use ?_
  rintro e w' ⟨rfl, rfl⟩
  go_wp2_with fail
  go_ret
  exact ⟨rfl, 0, rfl⟩

set_option maxRecDepth 100000 in
set_option maxHeartbeats 1000000 in
theorem printRolls_bad (m : Int) (T j : Nat) (s t : ByteArray) (a2 : Int) (w : World) (q0 : Nat) (hq0 : q0 ≤ 255) (pa : Nat) (tpa : ((pa : Int) == 0) = false)
    (hT : t.size = T) (hT40 : T ≤ 40) (hnT : 1 + j ≤ T)
    (hmin : min (s.size : Int) 40 = T) (hmax : max 1 (T : Int) = T)
    (r0 : Ans2 41 #[.int .i64 283, .int .i64 0, .int .i64 0, .int .i64 0, .int .i64 1] (.int .i64 q0) (.int .i64 0))
    (o0 : Ans2 29 #[.int .i64 283, .string ⟨#[97]⟩] (.int .i64 pa) (.int .i64 0))
    (cut : ∀ w, (Instr.slice 9 (.string s) none (some (.int .i64 T)) none).run Try.prog w = .ok (.string t) w)
    (hw : Ans1 25 #[.int .i64 a2, .int .i64 T] (.int .i64 j))
    (o1 : Ans2 29 #[.int .i64 m, .string (t.extract 0 (1 + j))] (.int .i64 0) (.int .i64 1)) :
    Calls Try.prog 19 #[.int .i64 m, .string s, .int .i64 a2] w fun e w' => e = .returned (.bool true) ∧ ∃ k, w' = w.drewN k := by
  have cut2 := sl_to Try.underlying9 (s := t) (y := (1 : Int) + (j : Int)) (b := 1 + j) (by omega) (by omega)
  go_enter Try.func19, Try.ntmps19
  go_wp2_with fail
  with_reducible refine r0.use ?_
  rintro e w' ⟨rfl, rfl⟩
  go_wp2_with fail
  with_reducible refine o0.use ?_
  rintro e w' ⟨rfl, rfl⟩
  go_wp2_with fail
  with_reducible refine hw.use ?_
  rintro e w' ⟨rfl, rfl⟩
  go_wp2_with fail
  with_reducible refine o1.use ?_
  rintro e w' ⟨rfl, rfl⟩
  go_wp2_with fail
  go_ret
  exact ⟨rfl, 0, rfl⟩

theorem printRolls_walk (a0 : Int) (a1 : ByteArray) (a2 : Int) (_ : (Lit.int .i64 a0).wf = true) (_ : a1.size ≤ maxLen) (_ : (Lit.int .i64 a2).wf = true) (w : World) :
    Calls Try.prog 19 #[.int .i64 a0, .string a1, .int .i64 a2] w fun e w' => e = .returned (.bool true) ∧ Grown w w' := by
  have key : Calls Try.prog 19 #[.int .i64 a0, .string a1, .int .i64 a2] w fun e w' => e = .returned (.bool true) ∧ ∃ k, w' = w.drewN k := by
    have r0 := Roll_is (m := 283) (p := 0) (o := 0) (c := 0) (n := 1) (by omega) (by omega) (by decide +kernel) (by omega) (by omega) (by omega) (by omega) rfl
    have hq : rollN 283 0 0 0 1 ≤ 255 := by decide +kernel
    have o0 := Of_is (m := 283) (s := ⟨#[97]⟩) (by omega) (by omega) (by decide) rfl
    have hp : ((G.print 283 (⟨#[97]⟩ : ByteArray).data.toList : Nat) : Int) ≠ 0 := by
      have : G.print 283 (⟨#[97]⟩ : ByteArray).data.toList ≠ 0 := by decide +kernel
      omega
    have tpa := beq_eq_false_iff_ne.2 hp
    clear hp
    obtain ⟨T, hT⟩ : ∃ T, T = min a1.size 40 := ⟨_, rfl⟩
    have hmin : min (a1.size : Int) 40 = T := by omega
    have hTs : (a1.extract 0 T).size = T := by rw [ByteArray.size_extract]; omega
    have cut := sl_to Try.underlying9 (s := a1) (y := (T : Int)) (b := T) rfl (by omega)
    by_cases h0 : T = 0
    · rw [h0] at cut hTs hmin
      have hw0 := within_is (k := a2) (n := 1) (N := 1) (x := 0) rfl (by omega) (by omega) (by have := wi_lt a2 1 (by omega); omega)
      exact printRolls_none a0 a1 (a1.extract 0 0) a2 w _ hq _ tpa hTs hmin rfl r0 o0 cut hw0
    · have hj := wi_lt a2 T (by omega)
      have hw := within_is (k := a2) (n := T) (N := T) rfl (by omega) (by omega) rfl
      generalize wi a2 T = j at *
      by_cases hm : 2 ≤ a0 ∧ a0 ≤ 2147483647
      · obtain ⟨m, rfl⟩ := Int.eq_ofNat_of_zero_le (show 0 ≤ a0 by omega)
        have h2 : 2 ≤ m := by omega
        have hm2 : m ≤ 2147483647 := by omega
        have hm0 : m ≠ 0 := by omega
        generalize a1.extract 0 T = t at *
        have hl : t.data.toList.length = T := by rw [← hTs]; simp
        have ext : ∀ a b, b ≤ T → (t.extract a b).size ≤ 600 := by intro a b hb; rw [ByteArray.size_extract]; omega
        refine printRolls_core m T j a1 t a2 w _ hq _ tpa hTs (by omega) (by omega) hmin (by omega) r0 o0 cut hw ?_ ?_
        · refine Of_is h2 hm2 (ext _ _ (by omega)) ?_
          rw [Lib.extract_data]; unfold win; rw [Nat.sub_self, Nat.sub_zero]
        · intro i h1 hi
          obtain ⟨u, hu, e1, e2⟩ := win_out t.data.toList (1 + j) i (by omega) h1 (by omega)
          refine ⟨(t.data.toList[i - (1 + j)]'(by omega)).toNat, (t.data.toList[i]'(by omega)).toNat, ?_, ?_, bt_get _ _ _, bt_get _ _ _, ?_, ?_⟩
          · have := UInt8.toNat_lt (t.data.toList[i - (1 + j)]'(by omega)); omega
          · have := UInt8.toNat_lt (t.data.toList[i]'(by omega)); omega
          · have hlt := G.print_lt (win t.data.toList (1 + j) i) hm0
            rw [show (1 : Int) + (j : Int) = ((1 + j : Nat) : Int) from by omega]
            refine Roll_is h2 hm2 hlt ?_ ?_ (by omega) (by omega) ?_
            · have := UInt8.toNat_lt (t.data.toList[i - (1 + j)]'(by omega)); omega
            · have := UInt8.toNat_lt (t.data.toList[i]'(by omega)); omega
            · have := roll_print (t.data.toList[i - (1 + j)]'(by omega)) (t.data.toList[i]'(by omega)) u hm0
              rw [hu, ← e1, ← e2] at this
              exact this
          · refine Of_is h2 hm2 (ext _ _ (by omega)) ?_
            rw [Lib.extract_data]; unfold win
            rw [show i + 1 - (1 + j) = i - (1 + j) + 1 from by omega, show i + 1 - (i - (1 + j) + 1) = 1 + j from by omega]
      · exact printRolls_bad a0 T j a1 (a1.extract 0 T) a2 w _ hq _ tpa hTs (by omega) (by omega) hmin (by omega) r0 o0 cut hw (fun w => Of_bad a0 _ w (by omega))
  refine key.mono ?_
  rintro e w' ⟨he, n, rfl⟩
  exact ⟨he, grown_drewN _ _⟩

end Go.Proofs.Ytabdchehbgchcaa
