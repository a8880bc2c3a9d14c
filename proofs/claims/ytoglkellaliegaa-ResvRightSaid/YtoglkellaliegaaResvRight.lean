/- ResvRight: states stay right; with Writes or All one hand at most may write; whoever has it may read and write; for every input; what was there stands below. -/
import Derived.Test.YtoglkellaliegaaRgX
import Derived.Test.YtoglkellaliegaaArgsL
import Derived.Test.YtoglkellaliegaaResvReads
namespace Go.Proofs.Ytoglkellaliegaa
open Go.RowKit

theorem countP_or {α : Type} (p q : α → Bool) : ∀ (l : List α), (∀ x, x ∈ l → p x = true → q x = false) → l.countP (fun x => p x || q x) = l.countP p + l.countP q
  | [], _ => rfl
  | x :: l, h => by
    have ih := countP_or p q l (fun y hy => h y (List.mem_cons_of_mem _ hy))
    have hx := h x (List.mem_cons_self ..)
    rw [List.countP_cons, List.countP_cons, List.countP_cons, ih]
    cases hp : p x with
    | true => rw [hx hp]; simp; omega
    | false => cases q x <;> simp; omega

theorem count_one {x : Int} (hx : 0 ≤ x) : ∀ n : Nat, (List.range n).countP (fun i => decide (x = ((i : Nat) : Int))) = if x < n then 1 else 0
  | 0 => by rw [if_neg (by omega)]; rfl
  | n + 1 => by
    rw [List.range_succ, List.countP_append, count_one hx n, List.countP_singleton]
    by_cases h : x = (n : Int)
    · rw [if_neg (by omega), if_pos (by simpa using h), if_pos (by omega)]
    · have hd : ¬ (decide (x = (n : Int)) = true) := by rw [decide_eq_false h]; decide
      by_cases h2 : x < (n : Int)
      · rw [if_pos h2, if_neg hd, if_pos (show x < ((n + 1 : Nat) : Int) by omega)]
      · rw [if_neg h2, if_neg hd, if_neg (show ¬ x < ((n + 1 : Nat) : Int) by omega)]

theorem count_has {l : List Qu.T} (hi : Rg.Inc l) (h1 : ∀ t, t ∈ l → 0 ≤ t.1 ∧ t.1 ≤ 7) : (List.range 8).countP (fun i => Qu.has l ((i : Nat) : Int)) = l.length := by
  induction l with
  | nil => decide
  | cons t l ih =>
    obtain ⟨h2, h3⟩ := List.pairwise_cons.1 hi
    have ih := ih h3 (fun u hu => h1 u (List.mem_cons_of_mem _ hu))
    have ht := h1 t (List.mem_cons_self ..)
    have e : (fun i : Nat => Qu.has (t :: l) ((i : Nat) : Int)) = fun i => decide (t.1 = ((i : Nat) : Int)) || Qu.has l ((i : Nat) : Int) := by
      funext i
      show (Qu.tg i t || Qu.has l i) = _
      congr 1
    have hc := countP_or (fun i : Nat => decide (t.1 = ((i : Nat) : Int))) (fun i : Nat => Qu.has l ((i : Nat) : Int)) (List.range 8) (fun i _ hp => by
      have hp' : t.1 = (i : Int) := by simpa using hp
      rw [Rg.has_false_iff]
      intro k hk
      have := h2 _ hk
      have h' : t.1 < (i : Int) := this
      omega)
    rw [e, hc, ih, count_one ht.1, if_pos (by omega), List.length_cons]
    omega

/-- How many of the first hands may write. -/
def cnt (r : Rg.RV) (n : Nat) : Nat := (List.range n).countP fun i => Rg.mayB r ((i : Nat) : Int) true

theorem cnt_succ (r : Rg.RV) (n : Nat) : cnt r (n + 1) = cnt r n + if Rg.mayB r (n : Int) true = true then 1 else 0 := by
  unfold cnt
  rw [List.range_succ, List.countP_append, List.countP_singleton]

theorem cnt_free {r : Rg.RV} (h : r.kind = 0) : cnt r 8 = 8 := by
  have e : ∀ i : Int, Rg.mayB r i true = true := fun i => by unfold Rg.mayB; rw [if_pos h]
  unfold cnt
  simp [e]

theorem held_in {r : Rg.RV} (hG : Rg.Good r) (h0 : r.kind ≠ 0) (ha : Rg.all r.kind = false) : 0 ≤ r.holder ∧ r.holder ≤ 7 := by
  obtain ⟨k, hk⟩ := Rg.has_iff.1 (hG.held h0 ha)
  have := hG.one _ hk
  exact ⟨this.1, this.2.1⟩

theorem cnt_one {r : Rg.RV} (hG : Rg.Good r) (h : r.kind = 1 ∨ r.kind = 3) : cnt r 8 = 1 := by
  have ha : Rg.all r.kind = false := by rcases h with h | h <;> rw [h] <;> decide
  have h0 : r.kind ≠ 0 := by omega
  have hh := held_in hG h0 ha
  have e : ∀ i : Int, Rg.mayB r i true = decide (r.holder = i) := fun i => by
    have eh : Rg.hasR r.regs r.kind r.holder i = decide (r.holder = i) := by
      unfold Rg.hasR
      rw [if_neg h0, if_neg (by rw [ha]; decide)]
      by_cases e : r.holder = i
      · rw [decide_eq_true e]; simpa using e
      · rw [decide_eq_false e]; simpa using e
    unfold Rg.mayB
    rw [if_neg h0, eh]
    rcases h with h | h
    · rw [if_pos h, Bool.not_true, Bool.false_or]
    · rw [if_neg (by omega), if_pos h]
  unfold cnt
  simp only [e]
  rw [count_one hh.1, if_pos (by omega)]

theorem cnt_all {r : Rg.RV} (hG : Rg.Good r) (h0 : r.kind ≠ 0) (h1 : r.kind ≠ 1) (h3 : r.kind ≠ 3) : cnt r 8 = r.regs.length := by
  have e : ∀ i : Int, Rg.mayB r i true = Qu.has r.regs i := fun i => by
    unfold Rg.mayB
    rw [if_neg h0, if_neg h1, if_neg h3]
    split <;> simp
  unfold cnt
  simp only [e]
  exact count_has hG.inc (fun t ht => ⟨(hG.one t ht).1, (hG.one t ht).2.1⟩)

/-- Whoever has it may write. -/
theorem has_may {r : Rg.RV} (hG : Rg.Good r) {x : Int} (h : Rg.hasR r.regs r.kind r.holder x = true) : Rg.mayB r x true = true := by
  unfold Rg.mayB
  by_cases h0 : r.kind = 0
  · rw [if_pos h0]
  · rw [if_neg h0]
    have hh : Qu.has r.regs x = true := by
      unfold Rg.hasR at h
      rw [if_neg h0] at h
      cases ha : Rg.all r.kind with
      | true => rw [if_pos ha] at h; exact h
      | false =>
        rw [if_neg (by rw [ha]; decide)] at h
        have e : r.holder = x := by simpa using h
        rw [← e]
        exact hG.held h0 ha
    rw [h, hh]
    simp

set_option maxRecDepth 100000 in
set_option maxHeartbeats 16000000 in
theorem right_core (L : Option Addr) (nl cl : Nat) (F : Nat → Nat → Int) (w : World) (hL : LArg w L nl cl F) :
    Calls Try.prog 12 #[.slice L nl cl] w fun e w' => e = .returned (.bool true) ∧ Below w.heap.size w w' := by
  obtain ⟨N, hN⟩ : ∃ N, min nl 60 = N := ⟨_, rfl⟩
  have HT4 : Hid (∀ w', Below w.heap.size w w' → Calls Try.prog 35 #[.slice L nl cl] w' fun e w'' => ∃ a n c, e = .returned (.agg #[.int .i64 (tS F N).gen, .slice a n c, .int .i64 (tS F N).kind, .int .i64 (tS F N).holder]) ∧
      w''.ownsRow w'.heap.size 56 2 (.slice a n c) n (tv (tS F N).regs) ∧ Below w'.heap.size w' w'') := Lib.hid fun w' hb => turned_R L nl cl N F w' (hL.keep hb) hN
  have HG := tS_good F N (by omega)
  have hN60 : N ≤ 60 := by omega
  have K1 := registered_R w
  clear hL hN
  generalize tS F N = Z at *
  obtain ⟨gg, rg, kx, hh⟩ := Z
  obtain ⟨HG, hgg⟩ := HG
  have hgg' : gg ≤ (N : Int) := hgg
  have hg0 : 0 ≤ gg := HG.gen0
  have HG := Lib.hid HG
  go_enter Try.func12, Try.ntmps12
  go_wp2_with fail
  with_reducible refine K1.mono ?_
  rintro e w1 ⟨a1, q1, rfl, ho1, hb1⟩
  have HB1 := Lib.hid hb1
  have hs1 := hb1.size
  have HB2 : Hid (∀ o, Below w.heap.size w (w1.alloc o)) := Lib.hid fun o => HB1.out.alloc hs1 o
  have HX2 : Hid (∀ T, R4 (w1.alloc (.cells #[.int .i64 2, .slice a1 2 q1, .int .i64 0, .int .i64 0] T)) w1.heap.size (.int .i64 2) (.slice a1 2 q1) (.int .i64 0) (.int .i64 0)) := Lib.hid fun T => r4_new w1 T _ _ _ _
  have K2 := fun o => HT4.out (w1.alloc o) (HB2.out o)
  clear ho1 hb1 K1 HT4
  go_wp2_with fail
  with_reducible refine (K2 _).mono ?_
  rintro e w2 ⟨a5, n5, q5, rfl, ho5, hb5⟩
  have HX3 := Lib.hid ((HX2.out 49).on hb5)
  have HB3 := Lib.hid ((HB2.out _).trans (hb5.mono (HB2.out _).size))
  have HNE : Hid (∀ k, (Value.slice a5 n5 q5).ownBlock = some k → w1.heap.size ≠ k) := Lib.hid fun j hj => by have := row_base ho5 j hj; rw [World.size_alloc] at this; omega
  obtain ⟨W, hW⟩ : ∃ W, ((((w2.setCell ⟨w1.heap.size, 0, none⟩ (.int .i64 gg)).setCell ⟨w1.heap.size, 1, none⟩ (.slice a5 n5 q5)).setCell ⟨w1.heap.size, 2, none⟩ (.int .i64 kx)).setCell ⟨w1.heap.size, 3, none⟩ (.int .i64 hh)) = W := ⟨_, rfl⟩
  have HXW : Hid (R4 W w1.heap.size (.int .i64 gg) (.slice a5 n5 q5) (.int .i64 kx) (.int .i64 hh)) := Lib.hid (by rw [← hW]; exact HX3.out.set _ _ _ _)
  have HBW : Hid (Below w.heap.size w W) := Lib.hid (by rw [← hW]; exact below_set4 HB3.out hs1 _ _ _ _)
  have HOW : Hid (∀ V, Below W.heap.size W V → TSl V a5 n5 q5 rg) := Lib.hid fun V hb => own_tsl (by rw [← hW] at hb ⊢; exact own_set4 ho5 HNE.out _ _ _ _) hb
  have hlen : rg.length = n5 := own_len ho5
  have C1 := Check_R gg kx hh a5 n5 q5 rg W HG.out (HOW.out W (Below.refl _ _))
  clear hb5 K2 ho5
  obtain ⟨hl, c0, c1, c2, c3, z0, z1, z2, z3⟩ := HX3.out
  obtain ⟨hm, d0, d1, d2, d3, y0, y1, y2, y3⟩ := HXW.out
  have HLEN := Lib.hid hlen
  clear hlen
  go_wp2_with fail
  with_reducible refine C1.mono ?_
  rintro e w3 ⟨rfl, hb3⟩
  have HX4 := Lib.hid (HXW.out.on hb3)
  have HB4 := Lib.hid (HBW.out.trans (hb3.mono HBW.out.size))
  have HT4 := Lib.hid hb3
  clear hl c0 c1 c2 c3 z0 z1 z2 z3 hm d0 d1 d2 d3 y0 y1 y2 y3 hb3 C1 hW
  go_wp2_with fail
  go_loopw [4, 25] (fun v4 v25 wr => ∃ j : Nat, j ≤ 8 ∧ v25 = .int .i64 j ∧ v4 = .int .i64 (cnt ⟨gg, rg, kx, hh⟩ j : Nat) ∧ Hid (R4 wr w1.heap.size (.int .i64 gg) (.slice a5 n5 q5) (.int .i64 kx) (.int .i64 hh)) ∧ Hid (Below W.heap.size W wr)) (fun _ v25 _ => 8 - (intOf v25).toNat)
  case atStart => exact ⟨0, Nat.zero_le _, rfl, rfl, HX4, HT4⟩
  case round =>
    obtain ⟨j, hj, rfl, rfl, HR, HBr⟩ := hrel
    obtain ⟨hl, c0, c1, c2, c3, z0, z1, z2, z3⟩ := HR.out
    by_cases hlt : j < 8
    · have KN : Hid (∀ V wr v, Below W.heap.size W V → Rg.mayB ⟨gg, rg, kx, hh⟩ j wr = v → Calls Try.prog 45 #[.agg #[.int .i64 gg, .slice a5 n5 q5, .int .i64 kx, .int .i64 hh], .int .i64 j, .bool wr] V fun e w' => e = .returned (.tuple #[.bool v, .int .i64 0]) ∧ Below V.heap.size V w') := Lib.hid fun V wr v hb hv => May_R gg kx hh j wr v a5 n5 q5 rg V HG.out (HOW.out V hb) (by omega) (by omega) hv
      have KH : Hid (∀ V v, Below W.heap.size W V → Rg.hasR rg kx hh j = v → Calls Try.prog 41 #[.agg #[.int .i64 gg, .slice a5 n5 q5, .int .i64 kx, .int .i64 hh], .int .i64 j] V fun e w' => e = .returned (.bool v) ∧ Below V.heap.size V w') := Lib.hid fun V v hb hv => RHas_R gg kx hh j a5 n5 q5 rg v V HG.out (HOW.out V hb) hv
      have H3 := @may_mono ⟨gg, rg, kx, hh⟩ j
      have H4 : Rg.hasR rg kx hh j = true → Rg.mayB ⟨gg, rg, kx, hh⟩ j true = true := fun h => has_may (r := ⟨gg, rg, kx, hh⟩) HG.out h
      have hc8 : cnt ⟨gg, rg, kx, hh⟩ j ≤ j := by unfold cnt; exact Nat.le_trans List.countP_le_length (by rw [List.length_range]; exact Nat.le_refl _)
      have HCN := Lib.hid (cnt_succ ⟨gg, rg, kx, hh⟩ j)
      obtain ⟨b1, hb1⟩ : ∃ b, Rg.mayB ⟨gg, rg, kx, hh⟩ j false = b := ⟨_, rfl⟩
      obtain ⟨b2, hb2⟩ : ∃ b, Rg.mayB ⟨gg, rg, kx, hh⟩ j true = b := ⟨_, rfl⟩
      obtain ⟨b3, hb3⟩ : ∃ b, Rg.hasR rg kx hh j = b := ⟨_, rfl⟩
      have HM1 := Lib.hid hb1
      have HM2 := Lib.hid hb2
      have HM3 := Lib.hid hb3
      rw [hb1, hb2] at H3
      rw [hb2, hb3] at H4
      have N1 := KN.out wr false b1 HBr.out hb1
      have hcase : (b2 = true ∧ b1 = true) ∨ (b2 = false ∧ b3 = false) := by
        cases hc2 : b2 with
        | true => exact Or.inl ⟨rfl, H3 hc2⟩
        | false =>
          right
          refine ⟨rfl, ?_⟩
          cases hc3 : b3 with
          | false => rfl
          | true => have := H4 hc3; rw [hc2] at this; cases this
      clear H3 H4 hb1 hb2 hb3
      generalize cnt ⟨gg, rg, kx, hh⟩ j = cj at *
      go_wp2_with fail
      with_reducible refine N1.mono ?_
      rintro e w7 ⟨rfl, hb7⟩
      have HR7 := Lib.hid (HR.out.on hb7)
      have HB7 := Lib.hid (HBr.out.trans (hb7.mono HBr.out.size))
      have N2 := KN.out w7 true b2 HB7.out HM2.out
      clear hl c0 c1 c2 c3 z0 z1 z2 z3 hb7 N1
      obtain ⟨hl, c0, c1, c2, c3, z0, z1, z2, z3⟩ := HR7.out
      go_wp2_with fail
      with_reducible refine N2.mono ?_
      rintro e w8 ⟨rfl, hb8⟩
      have HR8 := Lib.hid (HR7.out.on hb8)
      have HB8 := Lib.hid (HB7.out.trans (hb8.mono HB7.out.size))
      have N3 := KH.out w8 b3 HB8.out HM3.out
      clear hl c0 c1 c2 c3 z0 z1 z2 z3 hb8 N2
      obtain ⟨hl, c0, c1, c2, c3, z0, z1, z2, z3⟩ := HR8.out
      rcases hcase with ⟨rfl, rfl⟩ | ⟨rfl, rfl⟩
      · have HCN' : Hid (cnt ⟨gg, rg, kx, hh⟩ (j + 1) = cj + 1) := Lib.hid (by rw [HCN.out, HM2.out, if_pos rfl])
        cases b3
        all_goals
          go_wp2_with fail
          with_reducible refine N3.mono ?_
          rintro e w9 ⟨rfl, hb9⟩
          have HR9 := Lib.hid (HR8.out.on hb9)
          have HB9 := Lib.hid (HB8.out.trans (hb9.mono HB8.out.size))
          clear hb9 N3 hl c0 c1 c2 c3 z0 z1 z2 z3
          go_wp2_with fail
          go_roundw
          case rel => exact ⟨j + 1, hlt, by go_num, by rw [HCN'.out]; go_num, HR9, HB9⟩
          case measure => simp [intOf]; omega
      · have HCN' : Hid (cnt ⟨gg, rg, kx, hh⟩ (j + 1) = cj) := Lib.hid (by rw [HCN.out, HM2.out, if_neg (by decide), Nat.add_zero])
        cases b1
        all_goals
          go_wp2_with fail
          with_reducible refine N3.mono ?_
          rintro e w9 ⟨rfl, hb9⟩
          have HR9 := Lib.hid (HR8.out.on hb9)
          have HB9 := Lib.hid (HB8.out.trans (hb9.mono HB8.out.size))
          clear hb9 N3 hl c0 c1 c2 c3 z0 z1 z2 z3
          go_wp2_with fail
          go_roundw
          case rel => exact ⟨j + 1, hlt, by go_num, by rw [HCN'.out], HR9, HB9⟩
          case measure => simp [intOf]; omega
    · obtain rfl : j = 8 := by omega
      have HBF := Lib.hid (HBW.out.trans (HBr.out.mono HBW.out.size))
      by_cases h0 : kx = 0
      · have hc := cnt_free (r := ⟨gg, rg, kx, hh⟩) h0
        rw [hc]
        subst h0
        clear hc
        go_wp2_with fail
        go_ret
        exact ⟨rfl, HBF.out⟩
      · have e0 : (kx == 0) = false := beq_eq_false_iff_ne.2 h0
        by_cases h1 : kx = 1
        · have hc := cnt_one HG.out (Or.inl h1)
          rw [hc]
          subst h1
          clear hc h0 e0
          go_wp2_with fail
          go_ret
          exact ⟨rfl, HBF.out⟩
        · have e1 : (kx == 1) = false := beq_eq_false_iff_ne.2 h1
          by_cases h3 : kx = 3
          · have hc := cnt_one HG.out (Or.inr h3)
            rw [hc]
            subst h3
            clear hc h0 e0 h1 e1
            go_wp2_with fail
            go_ret
            exact ⟨rfl, HBF.out⟩
          · have e3 : (kx == 3) = false := beq_eq_false_iff_ne.2 h3
            have hc := cnt_all HG.out h0 h1 h3
            have hc' : cnt ⟨gg, rg, kx, hh⟩ 8 = n5 := by rw [hc]; exact HLEN.out
            rw [hc']
            clear hc hc' h0 h1 h3
            go_wp2_with fail
            go_ret
            exact ⟨by first | rfl | simp, HBF.out⟩

theorem resvRight_walk (a0 : Option Addr) (len0 cap0 : Nat) (z0 : Nat → Nat → Int) (w : World) (w0 : LArg w a0 len0 cap0 z0) :
    Calls Try.prog 12 #[.slice a0 len0 cap0] w fun e w' => e = .returned (.bool true) ∧ Below w.heap.size w w' :=
  right_core a0 len0 cap0 z0 w w0

end Go.Proofs.Ytoglkellaliegaa
