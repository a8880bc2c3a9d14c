/- BagTurns: in whichever order two texts are put, all is used as often; for every input. -/
import Derived.Test.YteddendidjhmbaaBgP7
namespace Go.Proofs.Yteddendidjhmbaa
open Go.RowKit

theorem used_two_a : Bg.usedV Bg.twoL ⟨#[97]⟩ = 1 := by kernel_rfl
theorem used_two_c : Bg.usedV Bg.twoL ⟨#[99]⟩ = 0 := by kernel_rfl

/-- What the law asks. -/
theorem turns_law {l : List Bg.It} {s t : ByteArray} (h1 : (Bg.putR Bg.Pr l s).e = 0) (h2 : (Bg.putR Bg.Pr (Bg.putR Bg.Pr l s).l t).e = 0) (h3 : (Bg.putR Bg.Pr l t).e = 0) (h4 : (Bg.putR Bg.Pr (Bg.putR Bg.Pr l t).l s).e = 0) :
    (Bg.putR Bg.Pr (Bg.putR Bg.Pr l s).l t).l.length = (Bg.putR Bg.Pr (Bg.putR Bg.Pr l t).l s).l.length ∧ (∀ u, Bg.usedV (Bg.putR Bg.Pr (Bg.putR Bg.Pr l s).l t).l u = Bg.usedV (Bg.putR Bg.Pr (Bg.putR Bg.Pr l t).l s).l u) ∧ 1 ≤ Bg.usedV (Bg.putR Bg.Pr (Bg.putR Bg.Pr l s).l t).l s ∧ 1 ≤ Bg.usedV (Bg.putR Bg.Pr (Bg.putR Bg.Pr l s).l t).l t := by
  have k1 := Bg.put_ok h1; have k2 := Bg.put_ok h2; have k3 := Bg.put_ok h3; have k4 := Bg.put_ok h4
  have pos : ∀ u, 0 ≤ Bg.usedV l u := fun u => by
    by_cases hu : ∃ y ∈ l, y.text = u
    · obtain ⟨y, hy, h2⟩ := hu
      rw [Bg.usedV_of k1.was hy h2]
      have := (Bg.one_fit (k1.was.one y hy)).2.2.2.2.2.1
      omega
    · rw [Bg.usedV_no fun y hy h2 => hu ⟨y, hy, h2⟩]
      exact Int.le_refl _
  have us := k1.used; have ut := k2.used; have vs := k3.used; have vt := k4.used
  refine ⟨?_, fun u => ?_, ?_, ?_⟩
  · rw [k2.len, k1.len, k4.len, k3.len, us t, vs s]
    have p1 := pos s; have p2 := pos t
    by_cases e : s = t
    · subst e; rfl
    · rw [if_neg (show ¬ t = s from fun h => e h.symm), if_neg (show ¬ s = t from e)]
      simp only [Int.add_zero]
      omega
  · rw [ut, us, vt, vs]
    omega
  · rw [ut, us, if_pos rfl]
    have := pos s
    split <;> omega
  · rw [ut, us, if_pos rfl]
    have := pos t
    split <;> omega

set_option maxRecDepth 100000 in
set_option maxHeartbeats 8000000 in
theorem bagTurns_walk (a0 : Option Addr) (len0 cap0 : Nat) (t0 : List Bg.It) (a1 a2 a3 : ByteArray) (w : World) (w0 : IArg w a0 len0 cap0 t0) (w1 : a1.size ≤ maxLen) (w2 : a2.size ≤ maxLen) (_w3 : a3.size ≤ maxLen) :
    Calls Try.prog 3 #[.slice a0 len0 cap0, .string a1, .string a2, .string a3] w fun e w' => e = .returned (.bool true) ∧ Below w.heap.size w w' := by
  have HA := Lib.hid w0
  have T1 := two_I w
  obtain ⟨RA, hRA⟩ : ∃ R, Bg.putR Bg.Pr t0 a1 = R := ⟨_, rfl⟩
  obtain ⟨RB, hRB⟩ : ∃ R, Bg.putR Bg.Pr RA.l a2 = R := ⟨_, rfl⟩
  obtain ⟨RC, hRC⟩ : ∃ R, Bg.putR Bg.Pr t0 a2 = R := ⟨_, rfl⟩
  obtain ⟨RD, hRD⟩ : ∃ R, Bg.putR Bg.Pr RC.l a1 = R := ⟨_, rfl⟩
  have sA := Lib.hid (hRA ▸ put_small t0 a1); have sC := Lib.hid (hRC ▸ put_small t0 a2)
  have lB := hRB ▸ put_len RA.l a2; have lD := hRD ▸ put_len RC.l a1
  have LAW : Hid (RA.e = 0 → RB.e = 0 → RC.e = 0 → RD.e = 0 → RB.l.length = RD.l.length ∧ (∀ u, Bg.usedV RB.l u = Bg.usedV RD.l u) ∧ 1 ≤ Bg.usedV RB.l a1 ∧ 1 ≤ Bg.usedV RB.l a2) := Lib.hid (by
    rw [← hRB, ← hRD, ← hRA, ← hRC]
    exact turns_law)
  have PA := fun V (h : Below w.heap.size w V) => Put_I a0 len0 cap0 t0 a1 V (w0.1.keep h) w0.2.1 w1
  have PC := fun V (h : Below w.heap.size w V) => Put_I a0 len0 cap0 t0 a2 V (w0.1.keep h) w0.2.1 w2
  have PB : ∀ (V : World) (a : Option Addr) (n c : Nat), ISl V a n c RA.l → Calls Try.prog 22 #[.slice a n c, .string a2] V (PutTo V RB) := fun V a n c h1 => hRB ▸ Put_I a n c RA.l a2 V h1 sA.out w2
  have PD : ∀ (V : World) (a : Option Addr) (n c : Nat), ISl V a n c RC.l → Calls Try.prog 22 #[.slice a n c, .string a1] V (PutTo V RD) := fun V a n c h1 => hRD ▸ Put_I a n c RC.l a1 V h1 sC.out w1
  rw [hRA] at PA
  rw [hRC] at PC
  clear w0 w1 w2 hRA hRB hRC hRD sA sC
  go_enter Try.func3, Try.ntmps3
  go_wp2_with fail
  with_reducible refine T1.mono ?_
  rintro e v1 ⟨ax, cx, rfl, ho, hb⟩
  have HB1 := Lib.hid hb
  have U1 := used_I ax 2 cx Bg.twoL ⟨#[97]⟩ v1 (own_isl ho rfl) (by omega)
  rw [used_two_a] at U1
  have U2 := fun V (h : Below v1.heap.size v1 V) => used_I ax 2 cx Bg.twoL ⟨#[99]⟩ V ((own_isl ho rfl).keep h) (by omega)
  rw [used_two_c] at U2
  clear ho hb T1
  go_wp2_with fail
  with_reducible refine U1.mono ?_
  rintro e v2 ⟨rfl, hb⟩
  have U3 := U2 v2 hb
  have HB2 := Lib.hid (HB1.out.trans (hb.mono HB1.out.size))
  clear hb U1 U2
  go_wp2_with fail
  with_reducible refine U3.mono ?_
  rintro e v3 ⟨rfl, hb⟩
  have HB3 := Lib.hid (HB2.out.trans (hb.mono HB2.out.size))
  have P1 := PA v3 HB3.out
  clear hb U3 PA
  go_wp2_with fail
  with_reducible refine P1.mono ?_
  rintro e v4 ⟨aA, nA, cA, rfl, hoA, hnA, hbA⟩
  have HB4 := Lib.hid fun o => (HB3.out.trans (hbA.mono HB3.out.size)).alloc (HB3.out.trans (hbA.mono HB3.out.size)).size o
  have P2 := fun o => PB (v4.alloc o) aA nA cA (own_isl (hoA.alloc o) hnA)
  clear hoA hnA hbA P1 PB
  go_wp2_with fail
  with_reducible refine (P2 _).mono ?_
  rintro e v5 ⟨aB, nB, cB, rfl, hoB, hnB, hbB⟩
  have HB5 := Lib.hid fun o => ((HB4.out _).trans (hbB.mono (HB4.out _).size)).alloc ((HB4.out _).trans (hbB.mono (HB4.out _).size)).size o
  have HOB := Lib.hid hoB
  have P3 := fun o => PC (v5.alloc o) (HB5.out o)
  clear hoB hbB P2 PC
  go_wp2_with fail
  with_reducible refine (P3 _).mono ?_
  rintro e v6 ⟨aC, nC, cC, rfl, hoC, hnC, hbC⟩
  have HOB6 := Lib.hid (own_keep (HOB.out.alloc _) hbC)
  have HB6 := Lib.hid fun o => ((HB5.out _).trans (hbC.mono (HB5.out _).size)).alloc ((HB5.out _).trans (hbC.mono (HB5.out _).size)).size o
  have P4 := fun o => PD (v6.alloc o) aC nC cC (own_isl (hoC.alloc o) hnC)
  clear hoC hnC hbC P3 PD HOB
  go_wp2_with fail
  with_reducible refine (P4 _).mono ?_
  rintro e v7 ⟨aD, nD, cD, rfl, hoD, hnD, hbD⟩
  have HOB7 := own_keep (HOB6.out.alloc _) hbD
  have HB7 := Lib.hid fun o => ((HB6.out _).trans (hbD.mono (HB6.out _).size)).alloc ((HB6.out _).trans (hbD.mono (HB6.out _).size)).size o
  clear P4 hbD
  by_cases e1 : RA.e = 0
  · by_cases e2 : RB.e = 0
    · by_cases e3 : RC.e = 0
      · by_cases e4 : RD.e = 0
        · obtain ⟨l1, l2, l3, l4⟩ := LAW.out e1 e2 e3 e4
          have UB : Hid (∀ o V u, Below (v7.alloc o).heap.size (v7.alloc o) V → Calls Try.prog 21 #[.slice aB nB cB, .string u] V fun e w' => e = .returned (.int .i64 (Bg.usedV RB.l u)) ∧ Below V.heap.size V w') := Lib.hid fun o V u h => used_I aB nB cB RB.l u V ((own_isl (HOB7.alloc o) hnB).keep h) (by omega)
          have UD : Hid (∀ o V u, Below (v7.alloc o).heap.size (v7.alloc o) V → Calls Try.prog 21 #[.slice aD nD cD, .string u] V fun e w' => e = .returned (.int .i64 (Bg.usedV RD.l u)) ∧ Below V.heap.size V w') := Lib.hid fun o V u h => used_I aD nD cD RD.l u V ((own_isl (hoD.alloc o) hnD).keep h) (by omega)
          have hnn : ((nB : Int) == (nD : Int)) = true := by rw [beq_iff_eq]; omega
          have l2' := Lib.hid (l2 a3)
          have z1 := int_z e1; have z2 := int_z e2; have z3 := int_z e3; have z4 := int_z e4
          clear HOB7 hoD hnB hnD l1 l2 LAW e1 e2 e3 e4 lB lD
          go_wp2_with fail
          have V1 := fun o => UB.out o (v7.alloc o) a3 (Below.refl _ _)
          with_reducible refine (V1 _).mono ?_
          rintro e v8 ⟨rfl, hb8⟩
          have V2 := UD.out _ v8 a3 hb8
          have HB8 := Lib.hid hb8
          clear V1 hb8
          rw [← l2'.out] at V2
          go_wp2_with fail
          with_reducible refine V2.mono ?_
          rintro e v9 ⟨rfl, hb9⟩
          have HB9 := Lib.hid (HB8.out.trans (hb9.mono HB8.out.size))
          have V3 := UB.out _ v9 a1 HB9.out
          clear V2 hb9
          go_wp2_with fail
          with_reducible refine V3.mono ?_
          rintro e v10 ⟨rfl, hb10⟩
          have HB10 := Lib.hid (HB9.out.trans (hb10.mono HB9.out.size))
          have V4 := UB.out _ v10 a2 HB10.out
          have d3 : decide (1 ≤ Bg.usedV RB.l a1) = true := decide_eq_true l3
          have d4 : decide (1 ≤ Bg.usedV RB.l a2) = true := decide_eq_true l4
          clear V3 hb10
          go_wp2_with fail
          with_reducible refine V4.mono ?_
          rintro e v11 ⟨rfl, hb11⟩
          have HB11 := Lib.hid (HB10.out.trans (hb11.mono HB10.out.size))
          clear V4 hb11
          go_wp2_with fail
          go_ret
          exact ⟨rfl, (HB7.out _).trans (HB11.out.mono (HB7.out _).size)⟩
        · have hh := int_ne e4
          have z1 := int_z e1; have z2 := int_z e2; have z3 := int_z e3
          clear e1 e2 e3 e4 LAW HOB7 hoD hnB hnD lB lD
          go_wp2_with fail
          go_ret
          exact ⟨rfl, HB7.out _⟩
      · have hh := int_ne e3
        have z1 := int_z e1; have z2 := int_z e2
        clear e1 e2 e3 LAW HOB7 hoD hnB hnD lB lD
        go_wp2_with fail
        go_ret
        exact ⟨rfl, HB7.out _⟩
    · have hh := int_ne e2
      have z1 := int_z e1
      clear e1 e2 LAW HOB7 hoD hnB hnD lB lD
      go_wp2_with fail
      go_ret
      exact ⟨rfl, HB7.out _⟩
  · have hh := int_ne e1
    clear e1 LAW HOB7 hoD hnB hnD lB lD
    go_wp2_with fail
    go_ret
    exact ⟨rfl, HB7.out _⟩

end Go.Proofs.Yteddendidjhmbaa
