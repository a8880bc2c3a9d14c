/- QueueHeads: a Head task may be done at once, and the last one stands first; for every input; what was there stands below. -/
import Derived.Test.YtoglkellaliegaaQuW7
import Derived.Test.YtoglkellaliegaaQueueLater
namespace Go.Proofs.Ytoglkellaliegaa
open Go.RowKit

theorem heads_test (w : World) (T : TypeId) : Calls Try.prog 17 #[.slice (some ⟨w.heap.size, 0, none⟩) 1 1, .agg #[.int .i64 2, .int .i64 2]] (w.alloc (.cells #[.int .i64 1, .int .i64 0] T)) fun e w' =>
    ∃ g o c, e = .returned (.tuple #[.slice (some ⟨g, o, none⟩) 2 c, .int .i64 0]) ∧ w'.cell? ⟨g, o, none⟩ = some (.int .i64 2) ∧ Below w.heap.size w w' := by
  refine (add_ok good_one (lit_one w T 1 0) (x := 2) (y := 2) (by decide)).mono ?_
  rintro e w' ⟨a, n, c, rfl, hT, hb, -⟩
  have e1 : Qu.addL [(1, 0)] (2, 2) = [(2, 2), (1, 0)] := by decide
  rw [e1] at hT
  obtain rfl : n = 2 := by rw [← hT.len]; rfl
  obtain ⟨g, o, rfl, -, hc⟩ := hT.at_ (by simp)
  have := (hc 0 (2, 2) rfl).1
  exact ⟨g, o, c, rfl, by simpa using this, ((Below.refl _ w).alloc (Nat.le_refl _) _).trans (hb.mono (by rw [World.size_alloc]; omega))⟩

/-- What queued leaves lies behind all that was there. -/
theorem queued_onF {w w' : World} {a : Option Addr} {n c : Nat} {ts : List Qu.T} (hT : TArg w a n c ts) (hb : Below w.heap.size w w') :
    Calls Try.prog 18 #[.slice a n c] w' fun e w'' => ∃ b m d, e = .returned (.slice b m d) ∧ TSl w'' b m d (Qu.queued ts) ∧ Below w'.heap.size w' w'' ∧ Fresh w'.heap.size b := queued_F a n c ts w' (hT.keep hb)

theorem tsl_set {w : World} {b : Option Addr} {m d B k : Nat} {q : List Qu.T} {v : Value} (h : TSl w b m d q) (hf : Fresh (B + 1) b) : TSl (w.setCell ⟨B, k, none⟩ v) b m d q :=
  ⟨fun h0 => by
    obtain ⟨g, o, rfl, hg, hc⟩ := h.at_ h0
    have hne := hf _ rfl
    refine ⟨g, o, rfl, by rw [World.size_setCell]; exact hg, fun j t hj => ?_⟩
    have hne2 : B + 1 ≤ g := hne
    obtain ⟨c1, c2⟩ := hc j t hj
    exact ⟨by rw [World.cell?_setCell_other _ _ _ _ (by simp <;> omega)]; exact c1, by rw [World.cell?_setCell_other _ _ _ _ (by simp <;> omega)]; exact c2⟩, h.len, h.cap, h.max, h.nil⟩

theorem may_head (q : List Qu.T) (x : Int) : Qu.may ((x, 2) :: q) 0 = true := Qu.may_zero _

set_option maxRecDepth 100000 in
set_option maxHeartbeats 16000000 in
theorem heads_core (a : Option Addr) (n c : Nat) (ts : List Qu.T) (x y : Int) (w : World) (hT : TArg w a n c ts) :
    Calls Try.prog 5 #[.slice a n c, .agg #[.int .i64 x, .int .i64 y]] w fun e w' => e = .returned (.bool true) ∧ Below w.heap.size w w' := by
  have HT := Lib.hid hT
  clear hT
  have HX0 := Lib.hid (box_new w 24 x y)
  have P1 := heads_test (w.alloc (.cells #[.int .i64 x, .int .i64 y] 24)) 24
  rw [World.size_alloc] at P1
  have HG := Lib.hid (Qu.good_queued ts)
  have HQ : Hid (∀ w', Below w.heap.size w w' → Calls Try.prog 18 #[.slice a n c] w' fun e w'' => ∃ b m d, e = .returned (.slice b m d) ∧ TSl w'' b m d (Qu.queued ts) ∧ Below w'.heap.size w' w'' ∧ Fresh w'.heap.size b) := Lib.hid fun w' hb => queued_onF HT.out hb
  have HST : Hid (∀ W, Box w W w.heap.size x y → Box w (W.setCell ⟨w.heap.size, 1, none⟩ (.int .i64 2)) w.heap.size x 2) := Lib.hid fun W hW =>
    ⟨hW.below.setCell (Nat.le_refl _) _, by rw [World.size_setCell]; exact hW.lt, by rw [World.cell?_setCell_other _ _ _ _ (by simp)]; exact hW.c0, World.cell?_setCell_same _ _ _ hW.c1⟩
  have HFZ : Hid (∀ (W : World), Below (w.alloc (.cells #[.int .i64 x, .int .i64 y] 24)).heap.size (w.alloc (.cells #[.int .i64 x, .int .i64 y] 24)) W → W.frozen? ⟨w.heap.size, 1, none⟩ = false) := Lib.hid fun W hb => by
    rw [hb.frozen (p := ⟨w.heap.size, 1, none⟩) (by rw [World.size_alloc]; exact Nat.lt_succ_self _)]
    exact World.frozen?_alloc_new _ _ _ _
  clear HT
  generalize Qu.queued ts = q at *
  by_cases hE : Qu.addE q (x, 2) = 0
  · have HGA := Lib.hid (HG.out.add hE)
    have HE := Lib.hid hE
    have HY : Hid (Qu.addL q (x, 2) = (x, 2) :: q) := Lib.hid (by unfold Qu.addL; rw [if_pos rfl])
    clear hE
    go_enter Try.func5, Try.ntmps5
    go_wp2_with fail
    with_reducible refine P1.mono ?_
    rintro e w1 ⟨g1, o1, c1, rfl, hc1, hb1⟩
    have HX1 := Lib.hid (HX0.out.on (hb1.mono (by rw [World.size_alloc]; exact Nat.le_refl _)))
    have HBB1 := Lib.hid (hb1.mono (show (w.alloc (.cells #[.int .i64 x, .int .i64 y] 24)).heap.size ≤ _ from by rw [World.size_alloc]; exact Nat.le_refl _))
    clear hb1 P1
    go_wp2_with fail
    with_reducible refine (HQ.out w1 HX1.out.below).mono ?_
    rintro e w2 ⟨b2, m2, d2, rfl, hq2, hb2, hfr2⟩
    have HX2 := Lib.hid (HX1.out.on hb2)
    have cB := HX2.out.c0; have cB1 := HX2.out.c1
    have fB := HFZ.out w2 (HBB1.out.trans (hb2.mono (by have := HBB1.out.size; exact this)))
    obtain ⟨w3, hw3⟩ : ∃ w3, w3 = w2.setCell ⟨w.heap.size, 1, none⟩ (.int .i64 2) := ⟨_, rfl⟩
    have HX3 : Hid (Box w w3 w.heap.size x 2) := Lib.hid (by rw [hw3]; exact HST.out w2 HX2.out)
    have HQ3 : Hid (TSl w3 b2 m2 d2 q) := Lib.hid (by rw [hw3]; exact tsl_set hq2 (fun z hz => Nat.le_trans HX1.out.lt (hfr2 z hz)))
    have A3 := add_ok HG.out HQ3.out HE.out
    clear hb2 hq2 hc1 hfr2
    go_wp2_with fail
    rw [← hw3]
    have dB := HX3.out.c0; have dB1 := HX3.out.c1
    clear hw3 cB cB1 fB
    go_wp2_with fail
    with_reducible refine A3.mono ?_
    rintro e w4 ⟨b4, m4, d4, rfl, hq4, hb4, -⟩
    have HX4 := Lib.hid (HX3.out.on hb4)
    have HQ4 := Lib.hid (HQ3.out.keep hb4)
    have HN4 := Lib.hid hq4
    obtain rfl : m4 = m2 + 1 := by rw [← hq4.len, HY.out, List.length_cons, HQ4.out.len]
    have hm2 : m2 ≤ 20 := by rw [← HQ4.out.len]; exact HG.out.len
    have M4 := May_T b4 (m2 + 1) d4 _ w4 HGA.out hq4
    clear hb4 hq4 A3 dB dB1
    go_wp2_with fail
    with_reducible refine M4.mono ?_
    rintro e w5 ⟨b5, m5, d5, rfl, hz5, hb5⟩
    have HX5 := Lib.hid (HX4.out.on hb5)
    have HQ5 := Lib.hid (HQ4.out.keep hb5)
    have HN5 := Lib.hid (HN4.out.keep hb5)
    have HZ5 := Lib.hid hz5
    have cB := HX5.out.c0; have cB1 := HX5.out.c1
    have D5 := Done_T b4 (m2 + 1) d4 0 _ x w5 HGA.out HN5.out (by rw [HY.out]; exact Nat.zero_lt_succ _) (by rw [HY.out]; rfl) (by rw [HY.out]; exact may_head q x)
    rw [Nat.add_sub_cancel] at D5
    clear hb5 hz5 M4
    go_wp2_with fail
    with_reducible refine D5.mono ?_
    rintro e w6 ⟨b6, d6, rfl, hq6, hb6⟩
    have HX6 := Lib.hid (HX5.out.on hb6)
    have dB := HX6.out.c0; have dB1 := HX6.out.c1
    have e6 : cut (Qu.addL q (x, 2)) 0 = q := by rw [HY.out]; rfl
    rw [e6] at hq6
    have EQ : ∀ j, Calls Try.prog 24 #[.slice b6 m2 d6, .slice b2 m2 d2] (w6.drewN j) fun e w' => e = .returned (.bool true) ∧ ∃ q, w' = (w6.drewN j).drewN q := fun j =>
      Equal_T b6 b2 m2 d6 d2 q (w6.drewN j) (hq6.keep (below_drewN (Below.refl _ _) j)) ((HQ5.out.keep hb6).keep (below_drewN (Below.refl _ _) j)) (by omega)
    obtain ⟨s, hs⟩ := Qu.mayL_head (l := Qu.addL q (x, 2)) (by rw [HY.out]; simp)
    have hs2 : Qu.mayL (Qu.addL q (x, 2)) = x :: s := by rw [hs, HY.out]; rfl
    have hZ6 := HZ5.out.keep hb6
    rw [hs2] at hZ6
    obtain ⟨g5, o5, rfl, -, hc5⟩ := hZ6.at_ (by simp)
    have z0 := hc5 0 x rfl
    rw [Nat.add_zero] at z0
    have hm5 : 0 < m5 := by rw [← hZ6.len]; exact Nat.zero_lt_succ _
    have hN6 := HN5.out.keep hb6
    rw [HY.out] at hN6
    obtain ⟨g4, o4, rfl, -, hc4⟩ := hN6.at_ (by simp)
    obtain ⟨n0, n1⟩ := hc4 0 (x, 2) rfl
    rw [Nat.zero_mul, Nat.add_zero] at n0 n1
    have hgt : decide ((0 : Int) < (m5 : Int)) = true := decide_eq_true (by omega)
    have hgt2 : (0 : Int) < (m5 : Int) := by omega
    have hgt3 : (0 : Int) < ((m2 : Int) + 1) := by omega
    have exx : (x == x) = true := beq_self_eq_true x
    clear hb6 hq6 D5 e6 hs hs2 hZ6 hc5 hN6 hc4 cB cB1
    go_wp2_with fail
    go_quiet ((go_at_call 24; exact Calls.quiet_of (EQ _)))
    go_wp2_with fail
    go_ret
    exact ⟨rfl, below_drewN HX6.out.below _⟩
  · have HE := Lib.hid hE
    clear hE
    go_enter Try.func5, Try.ntmps5
    go_wp2_with fail
    with_reducible refine P1.mono ?_
    rintro e w1 ⟨g1, o1, c1, rfl, hc1, hb1⟩
    have HX1 := Lib.hid (HX0.out.on (hb1.mono (by rw [World.size_alloc]; exact Nat.le_refl _)))
    have HBB1 := Lib.hid (hb1.mono (show (w.alloc (.cells #[.int .i64 x, .int .i64 y] 24)).heap.size ≤ _ from by rw [World.size_alloc]; exact Nat.le_refl _))
    clear hb1 P1
    go_wp2_with fail
    with_reducible refine (HQ.out w1 HX1.out.below).mono ?_
    rintro e w2 ⟨b2, m2, d2, rfl, hq2, hb2, hfr2⟩
    have HX2 := Lib.hid (HX1.out.on hb2)
    have cB := HX2.out.c0; have cB1 := HX2.out.c1
    have fB := HFZ.out w2 (HBB1.out.trans (hb2.mono (by have := HBB1.out.size; exact this)))
    obtain ⟨w3, hw3⟩ : ∃ w3, w3 = w2.setCell ⟨w.heap.size, 1, none⟩ (.int .i64 2) := ⟨_, rfl⟩
    have HX3 : Hid (Box w w3 w.heap.size x 2) := Lib.hid (by rw [hw3]; exact HST.out w2 HX2.out)
    have HQ3 : Hid (TSl w3 b2 m2 d2 q) := Lib.hid (by rw [hw3]; exact tsl_set hq2 (fun z hz => Nat.le_trans HX1.out.lt (hfr2 z hz)))
    obtain ⟨K, k1, k2, A3⟩ := add_bad HG.out HQ3.out HE.out
    clear hb2 hq2 hc1 hfr2
    go_wp2_with fail
    rw [← hw3]
    have dB := HX3.out.c0; have dB1 := HX3.out.c1
    clear hw3 cB cB1 fB
    go_wp2_with fail
    with_reducible refine A3.mono ?_
    rintro e w4 ⟨b4, m4, d4, rfl, hq4, hb4, -⟩
    have HX4 := Lib.hid (HX3.out.on hb4)
    obtain rfl : m4 = 0 := by rw [← hq4.len]; rfl
    clear hb4 hq4 A3
    go_wp2_with fail
    go_ret
    exact ⟨rfl, HX4.out.below⟩

theorem queueHeads_walk (a0 : Option Addr) (len0 cap0 : Nat) (t0 : List (Int × Int)) (a1_0 a1_1 : Int) (w : World) (w0 : IsRowT w a0 len0 cap0 t0) (_ : (Lit.int .i64 a1_0).wf = true) (_ : (Lit.int .i64 a1_1).wf = true) :
    Calls Try.prog 5 #[.slice a0 len0 cap0, .agg #[.int .i64 a1_0, .int .i64 a1_1]] w fun e w' => e = .returned (.bool true) ∧ Below w.heap.size w w' :=
  heads_core a0 len0 cap0 t0 a1_0 a1_1 w (targ_of w0)

end Go.Proofs.Ytoglkellaliegaa
