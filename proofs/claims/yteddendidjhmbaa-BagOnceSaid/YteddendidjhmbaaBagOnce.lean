/- BagOnce: a text that is put twice is there once; for every input. -/
import Derived.Test.YteddendidjhmbaaBgP7
namespace Go.Proofs.Yteddendidjhmbaa
open Go.RowKit

theorem good_refs_in {l : List Bg.It} (h : Bg.Good l) : ∀ x ∈ l, 1 ≤ x.refs ∧ x.refs ≤ 1000000 := fun x hx => (Bg.one_fit (h.one x hx)).2.2.2.2.2

/-- The test's own. -/
theorem once_test (w : World) : Calls Try.prog 20 #[] w fun e w' => ∃ a c, e = .returned (.slice a 2 c) ∧ Below w.heap.size w w' ∧ Calls Try.prog 23 #[.slice a 2 c] w' fun e w'' => e = .returned (.int .i64 (0 : Nat)) ∧ Below w'.heap.size w' w'' := by
  refine (two_I w).mono ?_
  rintro e w' ⟨a, c, rfl, ho, hb⟩
  have := Check_I a 2 c Bg.twoL w' (own_isl ho rfl) (good_small two_good)
  rw [two_check] at this
  exact ⟨a, c, rfl, hb, this⟩

set_option maxRecDepth 100000 in
set_option maxHeartbeats 8000000 in
theorem once_bad (a0 : Option Addr) (len0 cap0 : Nat) (t0 : List Bg.It) (a1 a2 : ByteArray) (w : World) (w0 : IArg w a0 len0 cap0 t0) (w1 : a1.size ≤ maxLen) (e1 : (Bg.putR Bg.Pr t0 a1).e ≠ 0) :
    Calls Try.prog 4 #[.slice a0 len0 cap0, .string a1, .string a2] w fun e w' => e = .returned (.bool true) ∧ Below w.heap.size w w' := by
  have T1 := once_test w
  have hl := (Bg.put_err e1).1
  obtain ⟨RA, hRA⟩ : ∃ R, Bg.putR Bg.Pr t0 a1 = R := ⟨_, rfl⟩
  have PA := fun V (h : Below w.heap.size w V) => Put_I a0 len0 cap0 t0 a1 V (w0.1.keep h) w0.2.1 w1
  rw [hRA] at PA e1 hl
  have hh := int_ne e1
  have HL := Lib.hid hl
  clear w0 w1 hRA e1 hl
  go_enter Try.func4, Try.ntmps4
  go_wp2_with fail
  with_reducible refine T1.mono ?_
  rintro e v1 ⟨ax, cx, rfl, hb, C1⟩
  have HB1 := Lib.hid hb
  clear hb T1
  go_wp2_with fail
  with_reducible refine C1.mono ?_
  rintro e v2 ⟨rfl, hb⟩
  have HB2 := Lib.hid (HB1.out.trans (hb.mono HB1.out.size))
  have P1 := PA v2 HB2.out
  clear hb C1 PA
  go_wp2_with fail
  with_reducible refine P1.mono ?_
  rintro e v4 ⟨aA, nA, cA, rfl, -, hnA, hbA⟩
  obtain rfl : nA = 0 := by rw [HL.out] at hnA; exact hnA.symm
  have HB4 := Lib.hid fun o => (HB2.out.trans (hbA.mono HB2.out.size)).alloc (HB2.out.trans (hbA.mono HB2.out.size)).size o
  clear hnA hbA P1
  go_wp2_with fail
  go_ret
  exact ⟨rfl, HB4.out _⟩

theorem alloc_id {w : World} {T : TypeId} {b : Bool} {x y : Int} : Bxs (w.alloc (.cells #[.bool b, .int .i64 x, .int .i64 y] T)) w.heap.size [.bool b, .int .i64 x, .int .i64 y] := bxs_new w T _ _ rfl

set_option maxRecDepth 100000 in
set_option maxHeartbeats 8000000 in
theorem once_half (a0 : Option Addr) (len0 cap0 : Nat) (t0 : List Bg.It) (a1 a2 : ByteArray) (w : World) (w0 : IArg w a0 len0 cap0 t0) (w1 : a1.size ≤ maxLen) (w2 : a2.size ≤ maxLen) (lA lB : List Bg.It) (xA yA xB yB : Int) (iB : Bool) (eB : Nat)
    (h1 : Bg.putR Bg.Pr t0 a1 = ⟨lA, ⟨true, xA, yA⟩, 0⟩) (h2 : Bg.putR Bg.Pr lA a2 = ⟨lB, ⟨iB, xB, yB⟩, eB⟩)
    (hgA : Bg.getR Bg.Pr lA ⟨true, xA, yA⟩ = (a1, 0)) (hcA : Bg.checkE Bg.Pr lA = 0) (hrA : Bg.refsV lA = Bg.refsV t0 + 1) (hg0 : Bg.Good t0)
    (hE : eB ≠ 0 → eB = 8 ∨ eB = 2)
    (hok : eB = 0 → Bg.getR Bg.Pr lB ⟨iB, xB, yB⟩ = (a2, 0) ∧ Bg.getR Bg.Pr lB ⟨true, xA, yA⟩ = (a1, 0) ∧ iB = true ∧ Bg.Good lB ∧ Bg.refsV lB = Bg.refsV lA + 1 ∧ (a1 = a2 → xA = xB ∧ yA = yB ∧ lA.length = lB.length) ∧ (a1 ≠ a2 → xA ≠ xB ∨ yA ≠ yB)) :
    Calls Try.prog 4 #[.slice a0 len0 cap0, .string a1, .string a2] w fun e w' => e = .returned (.bool true) ∧ Below w.heap.size w w' := by
  have T1 := once_test w
  have PA := fun V (h : Below w.heap.size w V) => Put_I a0 len0 cap0 t0 a1 V (w0.1.keep h) w0.2.1 w1
  rw [h1] at PA
  have hgoA := Bg.check_good hcA
  have PB := fun (V : World) (a : Option Addr) (n c : Nat) (h : ISl V a n c lA) => Put_I a n c lA a2 V h (good_small hgoA) w2
  rw [h2] at PB
  have GA := fun (V : World) (a : Option Addr) (n c : Nat) (h : ISl V a n c lA) => Get_I a n c lA true xA yA V h (good_small hgoA)
  rw [hgA] at GA
  have CA := fun (V : World) (a : Option Addr) (n c : Nat) (h : ISl V a n c lA) => Check_I a n c lA V h (good_small hgoA)
  rw [hcA] at CA
  have RA := fun (V : World) (a : Option Addr) (n c : Nat) (h : ISl V a n c lA) => refs_I a n c lA V h (by rw [← h.len]; exact hgoA.len) (good_refs_in hgoA)
  have hr0 := Bg.refsV_bound t0 (good_refs_in hg0)
  have hl0 := hg0.len
  have hlen0 : len0 ≤ 64 := by rw [← w0.1.len]; exact hl0
  have R0 := fun V (h : Below w.heap.size w V) => refs_I a0 len0 cap0 t0 V (w0.1.keep h) hlen0 (good_refs_in hg0)
  rw [hrA] at RA
  obtain ⟨hr1, hr2⟩ := hr0
  have hr3 : Bg.refsV t0 ≤ 64000000 := by omega
  clear hr2 hl0
  have hbig : IntKind.i64.wrap (Bg.refsV t0 + 1) = Bg.refsV t0 + 1 := IntWalk.i64_in _ ⟨by omega, by omega⟩
  have HRA := Lib.hid hrA
  have HOK := Lib.hid hok; have HEE := Lib.hid hE
  clear w0 w1 h1 h2 hgA hcA hrA hg0 hE hok hgoA
  generalize Bg.refsV t0 = r0 at *
  go_enter Try.func4, Try.ntmps4
  go_wp2_with fail
  with_reducible refine T1.mono ?_
  rintro e v1 ⟨ax, cx, rfl, hb, C1⟩
  have HB1 := Lib.hid hb
  clear hb T1
  go_wp2_with fail
  with_reducible refine C1.mono ?_
  rintro e v2 ⟨rfl, hb⟩
  have HB2 := Lib.hid (HB1.out.trans (hb.mono HB1.out.size))
  have P1 := PA v2 HB2.out
  clear hb C1 PA
  go_wp2_with fail
  with_reducible refine P1.mono ?_
  rintro e v4 ⟨aA, nA, cA, rfl, hoA, hnA, hbA⟩
  have HB4 := Lib.hid fun o => (HB2.out.trans (hbA.mono HB2.out.size)).alloc (HB2.out.trans (hbA.mono HB2.out.size)).size o
  have HOA := Lib.hid (fun o => own_isl (hoA.alloc o) hnA)
  have HNA := Lib.hid hnA
  have P2 := fun o => PB (v4.alloc o) aA nA cA (HOA.out o)
  clear hoA hnA hbA P1 PB
  go_wp2_with fail
  have HBX4 := Lib.hid (fun (T : TypeId) => (bxs_new v4 T #[.bool true, .int .i64 xA, .int .i64 yA] _ rfl))
  with_reducible refine (P2 _).mono ?_
  rintro e v5 ⟨aB, nB, cB, rfl, hoB, hnB, hbB⟩
  have HBX5 := Lib.hid fun o => ((HBX4.out _).on hbB).alloc o
  have HB5 := Lib.hid fun o => ((HB4.out _).trans (hbB.mono (HB4.out _).size)).alloc ((HB4.out _).trans (hbB.mono (HB4.out _).size)).size o
  have HOA5 := Lib.hid fun o => ((HOA.out _).keep hbB).keep ((Below.refl _ v5).alloc (Nat.le_refl _) o)
  have HOB := Lib.hid fun o => own_isl (hoB.alloc o) hnB
  have HNB := Lib.hid hnB
  have HBY := Lib.hid (fun (T : TypeId) => (bxs_new v5 T #[.bool iB, .int .i64 xB, .int .i64 yB] _ rfl))
  have P3 := fun o => GA (v5.alloc o) aA nA cA (HOA5.out o)
  have c0 := fun o => (HBX5.out o).c 0 _ rfl; have c1 := fun o => (HBX5.out o).c 1 _ rfl; have c2 := fun o => (HBX5.out o).c 2 _ rfl
  clear hoB hnB hbB P2 GA
  go_wp2_with fail
  with_reducible refine (P3 _).mono ?_
  rintro e v6 ⟨rfl, hb6⟩
  have HB6 := Lib.hid ((HB5.out _).trans (hb6.mono (HB5.out _).size))
  have HOA6 := Lib.hid ((HOA5.out _).keep hb6)
  have HOB6 := Lib.hid ((HOB.out _).keep hb6)
  have HBX6 := Lib.hid ((HBX5.out _).on hb6)
  have HBY6 := Lib.hid ((HBY.out _).on hb6)
  have P4 := CA v6 aA nA cA HOA6.out
  clear hb6 P3 CA c0 c1 c2 HOA5 HOB HBX5 HBY
  go_wp2_with fail
  with_reducible refine P4.mono ?_
  rintro e v7 ⟨rfl, hb7⟩
  have HB7 := Lib.hid (HB6.out.trans (hb7.mono HB6.out.size))
  have HOB7 := Lib.hid (HOB6.out.keep hb7)
  have HBX7 := Lib.hid (HBX6.out.on hb7)
  have HBY7 := Lib.hid (HBY6.out.on hb7)
  have HOA7 := Lib.hid (HOA6.out.keep hb7)
  have P5 := RA v7 aA nA cA HOA7.out
  clear hb7 P4 HOB6 HBX6 HBY6 HOA6
  go_wp2_with fail
  with_reducible refine P5.mono ?_
  rintro e v8 ⟨rfl, hb8⟩
  have HB8 := Lib.hid (HB7.out.trans (hb8.mono HB7.out.size))
  have HOB8 := Lib.hid (HOB7.out.keep hb8)
  have HBX8 := Lib.hid (HBX7.out.on hb8)
  have HBY8 := Lib.hid (HBY7.out.on hb8)
  have HOA8 := Lib.hid (HOA7.out.keep hb8)
  have P6 := R0 v8 HB8.out
  clear hb8 P5 HOB7 HBX7 HBY7 HOA7 R0
  go_wp2_with fail
  with_reducible refine P6.mono ?_
  rintro e v9 ⟨rfl, hb9⟩
  have HB9 := Lib.hid (HB8.out.trans (hb9.mono HB8.out.size))
  have HOB9 := Lib.hid (HOB8.out.keep hb9)
  have HBX9 := Lib.hid (HBX8.out.on hb9)
  have HBY9 := Lib.hid (HBY8.out.on hb9)
  have HOA9 := Lib.hid (HOA8.out.keep hb9)
  clear hb9 P6 HOB8 HBX8 HBY8 HOA8
  by_cases e2 : eB = 0
  · subst e2
    obtain ⟨k1, k2, rfl, k3, k4, k5, k6⟩ := HOK.out rfl
    have GB := fun (V : World) (h : ISl V aB nB cB lB) => Get_I aB nB cB lB true xB yB V h (good_small k3)
    rw [k1] at GB
    have GB1 := fun (V : World) (h : ISl V aB nB cB lB) => Get_I aB nB cB lB true xA yA V h (good_small k3)
    rw [k2] at GB1
    have hnB : nB ≤ 64 := by rw [← HNB.out]; exact k3.len
    have RB := fun (V : World) (h : ISl V aB nB cB lB) => refs_I aB nB cB lB V h hnB (good_refs_in k3)
    rw [k4, HRA.out] at RB
    have RA2 := fun (V : World) (h : ISl V aA nA cA lA) => RA V aA nA cA h
    have hbig2 : IntKind.i64.wrap (r0 + 1 + 1) = r0 + 1 + 1 := IntWalk.i64_in _ ⟨by omega, by omega⟩
    clear k1 k2 k3 k4 HOK HEE RA
    have Q1 := GB v9 HOB9.out
    have c0 := HBY9.out.c 0 _ rfl; have c1 := HBY9.out.c 1 _ rfl; have c2 := HBY9.out.c 2 _ rfl
    go_wp2_with fail
    with_reducible refine Q1.mono ?_
    rintro e u1 ⟨rfl, hb1⟩
    have HC1 := Lib.hid (HB9.out.trans (hb1.mono HB9.out.size))
    have HOB1 := Lib.hid (HOB9.out.keep hb1)
    have HBX1 := Lib.hid (HBX9.out.on hb1)
    have HBY1 := Lib.hid (HBY9.out.on hb1)
    have HOA1 := Lib.hid (HOA9.out.keep hb1)
    have Q2 := GB1 u1 HOB1.out
    clear c0 c1 c2 hb1 Q1 GB GB1 HOB9 HBX9 HBY9 HOA9
    have c0 := HBX1.out.c 0 _ rfl; have c1 := HBX1.out.c 1 _ rfl; have c2 := HBX1.out.c 2 _ rfl
    go_wp2_with fail
    with_reducible refine Q2.mono ?_
    rintro e u2 ⟨rfl, hb2⟩
    have HC2 := Lib.hid (HC1.out.trans (hb2.mono HC1.out.size))
    have HOB2 := Lib.hid (HOB1.out.keep hb2)
    have HBX2 := Lib.hid (HBX1.out.on hb2)
    have HBY2 := Lib.hid (HBY1.out.on hb2)
    have HOA2 := Lib.hid (HOA1.out.keep hb2)
    have Q3 := RB u2 HOB2.out
    clear c0 c1 c2 hb2 Q2 RB HOB1 HBX1 HBY1 HOA1
    have c0 := HBX2.out.c 0 _ rfl; have c1 := HBX2.out.c 1 _ rfl; have c2 := HBX2.out.c 2 _ rfl
    have d0 := HBY2.out.c 0 _ rfl; have d1 := HBY2.out.c 1 _ rfl; have d2 := HBY2.out.c 2 _ rfl
    by_cases hs : a1 = a2
    · obtain ⟨rfl, rfl, hll⟩ := k5 hs
      subst hs
      have hnn : ((nA : Int) == (nB : Int)) = true := by rw [beq_iff_eq]; have := HNA.out; have := HNB.out; omega
      clear k5 k6 hll
      go_wp2_with fail
      with_reducible refine Q3.mono ?_
      rintro e u3 ⟨rfl, hb3⟩
      have HC3 := Lib.hid (HC2.out.trans (hb3.mono HC2.out.size))
      have Q4 := RA2 u3 (HOA2.out.keep hb3)
      clear hb3 Q3 RA2 c0 c1 c2 d0 d1 d2
      go_wp2_with fail
      with_reducible refine Q4.mono ?_
      rintro e u4 ⟨rfl, hb4⟩
      have HC4 := Lib.hid (HC3.out.trans (hb4.mono HC3.out.size))
      clear hb4 Q4
      go_wp2_with fail
      go_ret
      exact ⟨rfl, HC4.out⟩
    · have k7 := k6 hs
      have hst : (a1.toList == a2.toList) = false := by rw [beq_eq_false_iff_ne]; exact fun h => hs (Bg.bs_same.1 h)
      clear k5 k6 hs
      rcases k7 with k7 | k7
      · have k8 : (xA == xB) = false := beq_eq_false_iff_ne.2 k7
        clear k7
        go_wp2_with fail
        with_reducible refine Q3.mono ?_
        rintro e u3 ⟨rfl, hb3⟩
        have HC3 := Lib.hid (HC2.out.trans (hb3.mono HC2.out.size))
        have Q4 := RA2 u3 (HOA2.out.keep hb3)
        clear hb3 Q3 RA2 c0 c1 c2 d0 d1 d2
        go_wp2_with fail
        with_reducible refine Q4.mono ?_
        rintro e u4 ⟨rfl, hb4⟩
        have HC4 := Lib.hid (HC3.out.trans (hb4.mono HC3.out.size))
        clear hb4 Q4
        go_wp2_with fail
        go_ret
        exact ⟨rfl, HC4.out⟩
      · have k8 : (yA == yB) = false := beq_eq_false_iff_ne.2 k7
        clear k7
        go_wp2_with fail
        with_reducible refine Q3.mono ?_
        rintro e u3 ⟨rfl, hb3⟩
        have HC3 := Lib.hid (HC2.out.trans (hb3.mono HC2.out.size))
        have Q4 := RA2 u3 (HOA2.out.keep hb3)
        clear hb3 Q3 RA2 c0 c1 c2 d0 d1 d2
        go_wp2_with fail
        with_reducible refine Q4.mono ?_
        rintro e u4 ⟨rfl, hb4⟩
        have HC4 := Lib.hid (HC3.out.trans (hb4.mono HC3.out.size))
        clear hb4 Q4
        go_wp2_with fail
        go_ret
        exact ⟨rfl, HC4.out⟩
  · rcases HEE.out e2 with rfl | rfl
    · clear RA e2
      go_wp2_with fail
      go_ret
      exact ⟨rfl, HB9.out⟩
    · clear RA e2
      go_wp2_with fail
      go_ret
      exact ⟨rfl, HB9.out⟩

theorem bagOnce_walk (a0 : Option Addr) (len0 cap0 : Nat) (t0 : List Bg.It) (a1 a2 : ByteArray) (w : World) (w0 : IArg w a0 len0 cap0 t0) (w1 : a1.size ≤ maxLen) (w2 : a2.size ≤ maxLen) :
    Calls Try.prog 4 #[.slice a0 len0 cap0, .string a1, .string a2] w fun e w' => e = .returned (.bool true) ∧ Below w.heap.size w w' := by
  by_cases e1 : (Bg.putR Bg.Pr t0 a1).e = 0
  · have k1 := Bg.put_ok e1
    obtain ⟨RA, hRA⟩ : ∃ R, Bg.putR Bg.Pr t0 a1 = R := ⟨_, rfl⟩
    rw [hRA] at k1 e1
    obtain ⟨lA, ⟨iA, xA, yA⟩, eA⟩ := RA
    obtain rfl : eA = 0 := e1
    obtain rfl : iA = true := k1.is
    obtain ⟨RB, hRB⟩ : ∃ R, Bg.putR Bg.Pr lA a2 = R := ⟨_, rfl⟩
    obtain ⟨lB, ⟨iB, xB, yB⟩, eB⟩ := RB
    refine once_half a0 len0 cap0 t0 a1 a2 w w0 w1 w2 lA lB xA yA xB yB iB eB hRA hRB ((Bg.getR_iff k1.good).2 k1.has) (Bg.good_check k1.good) k1.refs k1.was (fun h => ?_) (fun h => ?_)
    · have := (Bg.put_err (l := lA) (t := a2) (by rw [hRB]; exact h)).2.2 (Bg.good_check k1.good)
      rwa [hRB] at this
    · have k2 := Bg.put_ok (l := lA) (t := a2) (by rw [hRB]; exact h)
      rw [hRB] at k2
      have h1 : Bg.Has lB ⟨true, xA, yA⟩ a1 := k2.more _ _ k1.has
      obtain rfl : iB = true := k2.is
      refine ⟨(Bg.getR_iff k2.good).2 k2.has, (Bg.getR_iff k2.good).2 h1, rfl, k2.good, k2.refs, fun e => ?_, fun e => ?_⟩
      · subst e
        have h2 := Bg.Has.injId k2.good h1 k2.has
        have h3 := k2.len
        have hu := k1.used a1
        rw [if_pos rfl] at hu
        have hpos : 0 ≤ Bg.usedV t0 a1 := by
          by_cases hu : ∃ y ∈ t0, y.text = a1
          · obtain ⟨y, hy, h2⟩ := hu
            rw [Bg.usedV_of k1.was hy h2]
            have := (Bg.one_fit (k1.was.one y hy)).2.2.2.2.2.1
            omega
          · rw [Bg.usedV_no fun y hy h2 => hu ⟨y, hy, h2⟩]
            exact Int.le_refl _
        dsimp only at hu h3
        rw [if_neg (by omega)] at h3
        simp only [Bg.Id.mk.injEq, true_and] at h2
        exact ⟨h2.1, h2.2, h3.symm⟩
      · rcases Classical.em (xA = xB) with h4 | h4
        · rcases Classical.em (yA = yB) with h5 | h5
          · subst h4; subst h5
            exact absurd (Bg.Has.inj k2.good h1 k2.has) e
          · exact Or.inr h5
        · exact Or.inl h4
  · exact once_bad a0 len0 cap0 t0 a1 a2 w w0 w1 e1

end Go.Proofs.Yteddendidjhmbaa
