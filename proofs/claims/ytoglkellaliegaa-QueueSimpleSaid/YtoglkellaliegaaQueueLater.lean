/- QueueLater: a task that comes later, and is not Head, holds up nobody; for every input; what was there stands below. -/
import Derived.Test.YtoglkellaliegaaQuW5
namespace Go.Proofs.Ytoglkellaliegaa
open Go.RowKit

/-- One task in a row of its own. -/
theorem lit_one (w : World) (T : TypeId) (x y : Int) : TSl (w.alloc (.cells #[.int .i64 x, .int .i64 y] T)) (some ⟨w.heap.size, 0, none⟩) 1 1 [(x, y)] :=
  ⟨fun _ => ⟨w.heap.size, 0, rfl, by rw [World.size_alloc]; omega, fun j t hj => by
    match j, hj with
    | 0, hj => obtain rfl : (x, y) = t := by simpa using hj
               exact cells_two w T (.int .i64 x) (.int .i64 y)
    | j + 1, hj => simp at hj⟩, rfl, Nat.le_refl _, by decide, fun h => nomatch h⟩

theorem good_one : Qu.Good [(1, 0)] := ⟨by decide, by intro t ht; rw [List.mem_singleton.1 ht]; rfl, by simp⟩

/-- The test's own. -/
theorem later_test (w : World) (T : TypeId) : Calls Try.prog 17 #[.slice (some ⟨w.heap.size, 0, none⟩) 1 1, .agg #[.int .i64 2, .int .i64 0]] (w.alloc (.cells #[.int .i64 1, .int .i64 0] T)) fun e w' =>
    ∃ a c, e = .returned (.tuple #[.slice a 2 c, .int .i64 0]) ∧ Below w.heap.size w w' := by
  refine (add_ok good_one (lit_one w T 1 0) (x := 2) (y := 0) (by decide)).mono ?_
  rintro e w' ⟨a, n, c, rfl, hT, hb, -⟩
  obtain rfl : n = 2 := by rw [← hT.len]; rfl
  exact ⟨a, c, rfl, ((Below.refl _ w).alloc (Nat.le_refl _) _).trans (hb.mono (by rw [World.size_alloc]; omega))⟩

/-- What queued leaves, wherever it is asked behind the beginning. -/
theorem queued_on {w w' : World} {a : Option Addr} {n c : Nat} {ts : List Qu.T} (hT : TArg w a n c ts) (hb : Below w.heap.size w w') :
    Calls Try.prog 18 #[.slice a n c] w' fun e w'' => ∃ b m d, e = .returned (.slice b m d) ∧ TSl w'' b m d (Qu.queued ts) ∧ Below w'.heap.size w' w'' := queued_T a n c ts w' (hT.keep hb)

set_option maxRecDepth 100000 in
set_option maxHeartbeats 8000000 in
theorem later_core (a : Option Addr) (n c : Nat) (ts : List Qu.T) (x y : Int) (w : World) (hT : TArg w a n c ts) :
    Calls Try.prog 3 #[.slice a n c, .agg #[.int .i64 x, .int .i64 y]] w fun e w' => e = .returned (.bool true) ∧ Below w.heap.size w w' := by
  have HT := Lib.hid hT
  clear hT
  have HX0 := Lib.hid (box_new w 24 x y)
  have P1 := later_test (w.alloc (.cells #[.int .i64 x, .int .i64 y] 24)) 24
  rw [World.size_alloc] at P1
  have HG := Lib.hid (Qu.good_queued ts)
  have HQ : Hid (∀ w', Below w.heap.size w w' → Calls Try.prog 18 #[.slice a n c] w' fun e w'' => ∃ b m d, e = .returned (.slice b m d) ∧ TSl w'' b m d (Qu.queued ts) ∧ Below w'.heap.size w' w'') := Lib.hid fun w' hb => queued_on HT.out hb
  clear HT
  generalize Qu.queued ts = q at *
  by_cases hE : Qu.addE q (x, y) = 0
  · have HGA := Lib.hid (HG.out.add hE)
    have HE := Lib.hid hE
    obtain ⟨r, hr⟩ := Qu.mayL_later q (x, y)
    have HR := Lib.hid hr
    clear hE hr
    by_cases hy : y = 2
    · have HY : Hid (Qu.addL q (x, 2) = (x, 2) :: q) := Lib.hid (by unfold Qu.addL; rw [if_pos rfl])
      subst hy
      go_enter Try.func3, Try.ntmps3
      go_wp2_with fail
      with_reducible refine P1.mono ?_
      rintro e w1 ⟨a1, c1, rfl, hb1⟩
      have HX1 := Lib.hid (HX0.out.on (hb1.mono (by rw [World.size_alloc]; exact Nat.le_refl _)))
      clear hb1 P1
      go_wp2_with fail
      with_reducible refine (HQ.out w1 HX1.out.below).mono ?_
      rintro e w2 ⟨b2, m2, d2, rfl, hq2, hb2⟩
      have HX2 := Lib.hid (HX1.out.on hb2)
      have HQ2 := Lib.hid hq2
      have M2 := May_T b2 m2 d2 q w2 HG.out hq2
      clear hb2 hq2
      go_wp2_with fail
      with_reducible refine M2.mono ?_
      rintro e w3 ⟨b3, m3, d3, rfl, hz3, hb3⟩
      have HX3 := Lib.hid (HX2.out.on hb3)
      have HQ3 := Lib.hid (HQ2.out.keep hb3)
      have cB := HX3.out.c0; have cB1 := HX3.out.c1
      have A3 := add_ok HG.out HQ3.out HE.out
      clear hb3 M2 hz3
      go_wp2_with fail
      with_reducible refine A3.mono ?_
      rintro e w4 ⟨b4, m4, d4, rfl, hq4, hb4, -⟩
      have HX4 := Lib.hid (HX3.out.on hb4)
      have HQ4 := Lib.hid hq4
      have cC := HX4.out.c0; have cC1 := HX4.out.c1
      have M4 := May_T b4 m4 d4 _ w4 HGA.out hq4
      clear hb4 A3 hq4 cB cB1
      go_wp2_with fail
      with_reducible refine M4.mono ?_
      rintro e w5 ⟨b5, m5, d5, rfl, hz5, hb5⟩
      have HX5 := Lib.hid (HX4.out.on hb5)
      have cB := HX5.out.c0; have cB1 := HX5.out.c1
      have C5 := Contains_Z b5 m5 d5 _ x w5 hz5 (by
        obtain ⟨s, hs⟩ := Qu.mayL_head (l := Qu.addL q (x, 2)) (by rw [HY.out]; simp)
        rw [hs, HY.out]
        exact List.mem_cons_self ..) (by
        have h1 := hz5.len
        have h2 := Qu.mayN_len (Qu.addL q (x, 2)) (Qu.addL q (x, 2)).length
        have h3 := HGA.out.len
        unfold Qu.mayL at h1
        omega)
      clear hb5 M4 hz5 cC cC1
      go_wp2_with fail
      with_reducible refine C5.mono ?_
      rintro e w6 ⟨rfl, rfl⟩
      clear C5
      go_wp2_with fail
      go_ret
      exact ⟨rfl, HX5.out.below⟩
    · have ey : (y == 2) = false := beq_eq_false_iff_ne.2 hy
      have HY : Hid (Qu.addL q (x, y) = q ++ [(x, y)]) := Lib.hid (by unfold Qu.addL; rw [if_neg hy])
      clear hy
      go_enter Try.func3, Try.ntmps3
      go_wp2_with fail
      with_reducible refine P1.mono ?_
      rintro e w1 ⟨a1, c1, rfl, hb1⟩
      have HX1 := Lib.hid (HX0.out.on (hb1.mono (by rw [World.size_alloc]; exact Nat.le_refl _)))
      clear hb1 P1
      go_wp2_with fail
      with_reducible refine (HQ.out w1 HX1.out.below).mono ?_
      rintro e w2 ⟨b2, m2, d2, rfl, hq2, hb2⟩
      have HX2 := Lib.hid (HX1.out.on hb2)
      have HQ2 := Lib.hid hq2
      have M2 := May_T b2 m2 d2 q w2 HG.out hq2
      clear hb2 hq2
      go_wp2_with fail
      with_reducible refine M2.mono ?_
      rintro e w3 ⟨b3, m3, d3, rfl, hz3, hb3⟩
      have HX3 := Lib.hid (HX2.out.on hb3)
      have HQ3 := Lib.hid (HQ2.out.keep hb3)
      have HZ3 := Lib.hid hz3
      have cB := HX3.out.c0; have cB1 := HX3.out.c1
      have A3 := add_ok HG.out HQ3.out HE.out
      clear hb3 M2 hz3
      go_wp2_with fail
      with_reducible refine A3.mono ?_
      rintro e w4 ⟨b4, m4, d4, rfl, hq4, hb4, -⟩
      have HX4 := Lib.hid (HX3.out.on hb4)
      have HZ4 := Lib.hid (HZ3.out.keep hb4)
      have cC := HX4.out.c0; have cC1 := HX4.out.c1
      have M4 := May_T b4 m4 d4 _ w4 HGA.out hq4
      clear hb4 A3 hq4 cB cB1
      go_wp2_with fail
      with_reducible refine M4.mono ?_
      rintro e w5 ⟨b5, m5, d5, rfl, hz5, hb5⟩
      have HX5 := Lib.hid (HX4.out.on hb5)
      have HZ5 := Lib.hid (HZ4.out.keep hb5)
      have cB := HX5.out.c0; have cB1 := HX5.out.c1
      have hle : m3 ≤ m5 := by
        have h1 := hz5.len; have h2 := HZ5.out.len
        rw [HY.out, HR.out, List.length_append] at h1
        omega
      have hdc : decide ((m3 : Int) ≤ (m5 : Int)) = true := decide_eq_true (by omega)
      have hcap := hz5.cap
      have hmx := hz5.max
      unfold maxLen at hmx
      have E5 := Equal_Z b5 b3 m3 d5 d3 (Qu.mayL q) w5 (by
        have h := hz5.take hle
        rw [HY.out, HR.out, List.take_append_of_le_length (by rw [HZ5.out.len]; exact Nat.le_refl _), List.take_of_length_le (by rw [HZ5.out.len]; exact Nat.le_refl _)] at h
        exact h) HZ5.out (by
        have h1 := HZ5.out.len
        have h2 := Qu.mayN_len q q.length
        have h3 := HG.out.len
        unfold Qu.mayL at h1
        omega)
      clear hb5 M4 hz5 cC cC1
      go_wp2_with fail
      with_reducible refine E5.mono ?_
      rintro e w6 ⟨rfl, k6, rfl⟩
      clear E5
      go_wp2_with fail
      go_ret
      exact ⟨rfl, below_drewN HX5.out.below k6⟩
  · have HE := Lib.hid hE
    clear hE
    go_enter Try.func3, Try.ntmps3
    go_wp2_with fail
    with_reducible refine P1.mono ?_
    rintro e w1 ⟨a1, c1, rfl, hb1⟩
    have HX1 := Lib.hid (HX0.out.on (hb1.mono (by rw [World.size_alloc]; exact Nat.le_refl _)))
    clear hb1 P1
    go_wp2_with fail
    with_reducible refine (HQ.out w1 HX1.out.below).mono ?_
    rintro e w2 ⟨b2, m2, d2, rfl, hq2, hb2⟩
    have HX2 := Lib.hid (HX1.out.on hb2)
    have HQ2 := Lib.hid hq2
    have M2 := May_T b2 m2 d2 q w2 HG.out hq2
    clear hb2 hq2
    go_wp2_with fail
    with_reducible refine M2.mono ?_
    rintro e w3 ⟨b3, m3, d3, rfl, hz3, hb3⟩
    have HX3 := Lib.hid (HX2.out.on hb3)
    have HQ3 := Lib.hid (HQ2.out.keep hb3)
    have cB := HX3.out.c0; have cB1 := HX3.out.c1
    obtain ⟨K, k1, k2, A3⟩ := add_bad HG.out HQ3.out HE.out
    clear hb3 M2 hz3
    go_wp2_with fail
    with_reducible refine A3.mono ?_
    rintro e w4 ⟨b4, m4, d4, rfl, hq4, hb4, -⟩
    have HX4 := Lib.hid (HX3.out.on hb4)
    obtain rfl : m4 = 0 := by rw [← hq4.len]; rfl
    clear hb4 A3 hq4 cB cB1
    go_wp2_with fail
    go_ret
    exact ⟨rfl, HX4.out.below⟩

theorem queueLater_walk (a0 : Option Addr) (len0 cap0 : Nat) (t0 : List (Int × Int)) (a1_0 a1_1 : Int) (w : World) (w0 : IsRowT w a0 len0 cap0 t0) (_ : (Lit.int .i64 a1_0).wf = true) (_ : (Lit.int .i64 a1_1).wf = true) :
    Calls Try.prog 3 #[.slice a0 len0 cap0, .agg #[.int .i64 a1_0, .int .i64 a1_1]] w fun e w' => e = .returned (.bool true) ∧ Below w.heap.size w w' :=
  later_core a0 len0 cap0 t0 a1_0 a1_1 w (targ_of w0)

end Go.Proofs.Ytoglkellaliegaa
