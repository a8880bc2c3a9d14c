/- BagOthers: what is put or dropped changes no other block, nor its id; for every input. -/
import Derived.Test.YteddendidjhmbaaBgP7
import Derived.Deep.CutRange
namespace Go.Proofs.Yteddendidjhmbaa
open Go.RowKit

theorem get_two : Bg.getR Bg.Pr Bg.twoL ⟨true, 353, 0⟩ = (⟨#[97]⟩, 0) := by kernel_rfl

theorem drop_err {l : List Bg.It} {id : Bg.Id} (h : (Bg.dropR Bg.Pr l id).2 ≠ 0) : (Bg.dropR Bg.Pr l id).1 = [] := by
  unfold Bg.dropR at h ⊢
  split
  · rfl
  · rename_i h0
    rw [if_neg h0] at h
    split
    · rfl
    · rename_i i hi
      rw [hi] at h
      exact absurd rfl h

/-- What Drop leaves of the others. -/
theorem drop_ok {l : List Bg.It} {id : Bg.Id} (hg : Bg.Good l) (h : (Bg.dropR Bg.Pr l id).2 = 0) : Bg.Good (Bg.dropR Bg.Pr l id).1 ∧ id.is = true ∧ ∀ o t, Bg.Has l o t → (o.sum ≠ id.sum ∨ o.n ≠ id.n) → Bg.Has (Bg.dropR Bg.Pr l id).1 o t := by
  cases hf : l.findIdx? (Bg.hit id) with
  | none =>
    unfold Bg.dropR at h
    rw [if_neg (fun h' => h' (Bg.good_check hg)), hf] at h
    cases h
  | some i =>
    obtain ⟨hi, h1, -⟩ := List.findIdx?_eq_some_iff_getElem.1 hf
    have hs := Bg.split_at hi
    have hgs : Bg.Good (l.take i ++ l[i] :: l.drop (i + 1)) := hs ▸ hg
    have hd := Bg.drop_mid hgs h1
    rw [← hs] at hd
    rw [hd]
    have hfit := Bg.one_fit (Bg.good_mid.1 hgs).2.2.1
    refine ⟨?_, (Bg.hitB.1 h1).1, fun o t ho hne => ?_⟩
    · show Bg.Good (if l[i].refs = 1 then _ else _)
      split
      · exact (Bg.good_mid.1 hgs).1
      · exact Bg.good_refs hgs (by omega) (by omega)
    · show Bg.Has (if l[i].refs = 1 then _ else _) o t
      rw [hs, Bg.has_mid] at ho
      have ho' : Bg.Has (l.take i ++ l.drop (i + 1)) o t := by
        rcases ho with ho | ho
        · exact ho
        · have k1 := Bg.hitB.1 ho.1
          have k2 := Bg.hitB.1 h1
          omega
      split
      · exact ho'
      · rw [Bg.has_mid]; exact Or.inl ho'

theorem add0 (X : Addr) : X.add 0 = X := by cases X; rfl

theorem ne_or {x y a b : Int} (h : x ≠ a ∨ y ≠ b) : (x == a) = false ∨ ((x == a) = true ∧ (y == b) = false) := by
  by_cases e : x = a
  · subst e
    rcases h with h | h
    · exact absurd rfl h
    · exact Or.inr ⟨beq_self_eq_true _, beq_eq_false_iff_ne.2 h⟩
  · exact Or.inl (beq_eq_false_iff_ne.2 e)

theorem id_boxes (w : World) (i2 i3 : Bool) (x2 y2 x3 y3 : Int) : ∀ T T', Below w.heap.size w ((w.alloc (.cells #[.bool i2, .int .i64 x2, .int .i64 y2] T)).alloc (.cells #[.bool i3, .int .i64 x3, .int .i64 y3] T')) ∧ Bxs ((w.alloc (.cells #[.bool i2, .int .i64 x2, .int .i64 y2] T)).alloc (.cells #[.bool i3, .int .i64 x3, .int .i64 y3] T')) w.heap.size [.bool i2, .int .i64 x2, .int .i64 y2] ∧ Bxs ((w.alloc (.cells #[.bool i2, .int .i64 x2, .int .i64 y2] T)).alloc (.cells #[.bool i3, .int .i64 x3, .int .i64 y3] T')) (w.heap.size + 1) [.bool i3, .int .i64 x3, .int .i64 y3] := fun T T' => by
  refine ⟨((Below.refl _ w).alloc (Nat.le_refl _) _).alloc (by rw [World.size_alloc]; omega) _, (bxs_new w T _ _ rfl).alloc _, ?_⟩
  have := bxs_new (w.alloc (.cells #[.bool i2, .int .i64 x2, .int .i64 y2] T)) T' #[.bool i3, .int .i64 x3, .int .i64 y3] _ rfl
  rwa [World.size_alloc] at this

set_option maxRecDepth 100000 in
set_option maxHeartbeats 16000000 in
theorem bagOthers_walk (a0 : Option Addr) (len0 cap0 : Nat) (t0 : List Bg.It) (a1 : ByteArray) (i2 : Bool) (x2 y2 : Int) (i3 : Bool) (x3 y3 : Int) (w : World) (w0 : IArg w a0 len0 cap0 t0) (w1 : a1.size ≤ maxLen) (_w2 : (Lit.int .i64 x2).wf = true) (_w3 : (Lit.int .i64 y2).wf = true) (_w4 : (Lit.int .i64 x3).wf = true) (_w5 : (Lit.int .i64 y3).wf = true) :
    Calls Try.prog 5 #[.slice a0 len0 cap0, .string a1, .agg #[.bool i2, .int .i64 x2, .int .i64 y2], .agg #[.bool i3, .int .i64 x3, .int .i64 y3]] w fun e w' => e = .returned (.bool true) ∧ Below w.heap.size w w' := by
  obtain ⟨hB0, hX, hY⟩ := id_boxes w i2 i3 x2 y2 x3 y3 26 26
  have T1 := two_I ((w.alloc (.cells #[.bool i2, .int .i64 x2, .int .i64 y2] 26)).alloc (.cells #[.bool i3, .int .i64 x3, .int .i64 y3] 26))
  have HA := Lib.hid w0
  have HB0 := Lib.hid hB0; have HX0 := Lib.hid hX; have HY0 := Lib.hid hY
  have G2 := fun (V : World) (a : Option Addr) (c : Nat) (h : ISl V a 2 c Bg.twoL) => Get_I a 2 c Bg.twoL true 353 0 V h (good_small two_good)
  rw [get_two] at G2
  have GO := fun V (h : Below w.heap.size w V) => Get_I a0 len0 cap0 t0 i3 x3 y3 V (w0.1.keep h) w0.2.1
  obtain ⟨RG, hRG⟩ : ∃ R, Bg.getR Bg.Pr t0 ⟨i3, x3, y3⟩ = R := ⟨_, rfl⟩
  rw [hRG] at GO
  obtain ⟨tx, eG⟩ := RG
  have PA := fun V (h : Below w.heap.size w V) => Put_I a0 len0 cap0 t0 a1 V (w0.1.keep h) w0.2.1 w1
  have DA := fun V (h : Below w.heap.size w V) => Drop_I a0 len0 cap0 t0 i2 x2 y2 V (w0.1.keep h) w0.2.1
  clear hB0 hX hY
  by_cases hG : eG = 0
  · subst hG
    have hch : Bg.checkE Bg.Pr t0 = 0 := (Bg.getR_e (l := t0) (id := ⟨i3, x3, y3⟩) (by rw [hRG])).1
    have hg := Bg.check_good hch
    have hHas : Bg.Has t0 ⟨i3, x3, y3⟩ tx := (Bg.getR_iff hg).1 hRG
    obtain ⟨RA, hRA⟩ : ∃ R, Bg.putR Bg.Pr t0 a1 = R := ⟨_, rfl⟩
    obtain ⟨RD, hRD⟩ : ∃ R, Bg.dropR Bg.Pr t0 ⟨i2, x2, y2⟩ = R := ⟨_, rfl⟩
    rw [hRA] at PA
    rw [hRD] at DA
    obtain ⟨lA, ⟨iA, xA, yA⟩, eA⟩ := RA
    obtain ⟨lD, eD⟩ := RD
    obtain rfl : i3 = true := by obtain ⟨x, hx, hh, -⟩ := hHas; exact (Bg.hitB.1 hh).1
    have HK : Hid (eA = 0 → iA = true ∧ Bg.Good lA ∧ Bg.getR Bg.Pr lA ⟨true, x3, y3⟩ = (tx, 0) ∧ ((tx.toList == a1.toList) = true ∧ xA = x3 ∧ yA = y3 ∨ (tx.toList == a1.toList) = false ∧ (xA ≠ x3 ∨ yA ≠ y3))) := Lib.hid fun h => by
      have k := Bg.put_ok (l := t0) (t := a1) (by rw [hRA]; exact h)
      rw [hRA] at k
      obtain rfl : iA = true := k.is
      have k2 := k.more _ _ hHas
      refine ⟨rfl, k.good, (Bg.getR_iff k.good).2 k2, ?_⟩
      by_cases e : tx = a1
      · subst e
        have := Bg.Has.injId k.good k.has k2
        simp only [Bg.Id.mk.injEq, true_and] at this
        exact Or.inl ⟨beq_self_eq_true _, this.1, this.2⟩
      · refine Or.inr ⟨beq_eq_false_iff_ne.2 fun h => e (Bg.bs_same.1 h), ?_⟩
        rcases Classical.em (xA = x3) with h4 | h4
        · rcases Classical.em (yA = y3) with h5 | h5
          · subst h4; subst h5
            exact absurd (Bg.Has.inj k.good k2 k.has) e
          · exact Or.inr h5
        · exact Or.inl h4
    have HD : Hid (eD = 0 → i2 = true ∧ Bg.Good lD ∧ (x3 ≠ x2 ∨ y3 ≠ y2 → Bg.getR Bg.Pr lD ⟨true, x3, y3⟩ = (tx, 0))) := Lib.hid fun h => by
      have k := drop_ok (l := t0) (id := ⟨i2, x2, y2⟩) hg (by rw [hRD]; exact h)
      rw [hRD] at k
      exact ⟨k.2.1, k.1, fun hne => (Bg.getR_iff k.1).2 (k.2.2 _ _ hHas hne)⟩
    have HDE : Hid (eD ≠ 0 → lD = []) := Lib.hid fun h => by
      have k := drop_err (l := t0) (id := ⟨i2, x2, y2⟩) (by rw [hRD]; exact h)
      rwa [hRD] at k
    clear w0 w1 hRG hRA hRD hch hg hHas
    go_enter Try.func5, Try.ntmps5
    go_wp2_with fail
    with_reducible refine T1.mono ?_
    rintro e v1 ⟨ax, cx, rfl, ho, hb⟩
    have HB1 := Lib.hid (HB0.out.trans (hb.mono HB0.out.size))
    have HX1 := Lib.hid (HX0.out.on hb)
    have HY1 := Lib.hid (HY0.out.on hb)
    have HT1 := Lib.hid (own_isl ho rfl)
    obtain ⟨X, b, o, s, rfl, hX, c0, c1, c2, c3⟩ := HT1.out.get (k := 0) (by decide)
    obtain rfl : X = ⟨b, o, s⟩ := (add0 X).symm.trans hX
    have Q1 := G2 v1 _ cx HT1.out
    have d0 : v1.cell? ⟨b, o, s⟩ = some (.int .i64 353) := c0
    clear c0 c1 c2 c3 hX T1 G2 ho
    clear hb
    go_wp2_with fail
    with_reducible refine Q1.mono ?_
    rintro e v2 ⟨rfl, hb⟩
    have HB2 := Lib.hid (HB1.out.trans (hb.mono HB1.out.size))
    have HX2 := Lib.hid (HX1.out.on hb)
    have HY2 := Lib.hid (HY1.out.on hb)
    obtain ⟨X, b', o', s', he', hX, c0, c1, c2, c3⟩ := (HT1.out.keep hb).get (k := 0) (by decide)
    cases he'
    obtain ⟨rfl, rfl, rfl⟩ : b = b' ∧ o = o' ∧ s = s' := by
      have h := (add0 _).symm.trans hX
      simpa using h
    have d2 : v2.cell? ⟨b, o + 2, none⟩ = some (.string ⟨#[97]⟩) := c2
    have Q2 := GO v2 HB2.out
    have y0 := HY2.out.c 0 _ rfl; have y1 := HY2.out.c 1 _ rfl; have y2' := HY2.out.c 2 _ rfl
    clear c0 c1 c2 c3 hX hb Q1 d0 GO
    go_wp2_with fail
    with_reducible refine Q2.mono ?_
    rintro e v3 ⟨rfl, hb⟩
    have HB3 := Lib.hid (HB2.out.trans (hb.mono HB2.out.size))
    have HX3 := Lib.hid (HX2.out.on hb)
    have HY3 := Lib.hid (HY2.out.on hb)
    have Q3 := PA v3 HB3.out
    clear hb Q2 PA d2 y0 y1 y2'
    go_wp2_with fail
    with_reducible refine Q3.mono ?_
    rintro e v4 ⟨aA, nA, cA, rfl, ho, hn, hb⟩
    have HB4 := Lib.hid fun o => (HB3.out.trans (hb.mono HB3.out.size)).alloc (HB3.out.trans (hb.mono HB3.out.size)).size o
    have HX4 := Lib.hid fun o => (HX3.out.on hb).alloc o
    have HY4 := Lib.hid fun o => (HY3.out.on hb).alloc o
    have HO4 := Lib.hid fun o => own_isl (ho.alloc o) hn
    have HI4 := Lib.hid fun (T : TypeId) => bxs_new v4 T #[.bool iA, .int .i64 xA, .int .i64 yA] _ rfl
    have Q4 := fun o => DA (v4.alloc o) (HB4.out o)
    have x0 := fun o => (HX4.out o).c 0 _ rfl; have x1 := fun o => (HX4.out o).c 1 _ rfl; have x2' := fun o => (HX4.out o).c 2 _ rfl
    clear hb Q3 DA ho hn
    go_wp2_with fail
    with_reducible refine (Q4 _).mono ?_
    rintro e v5 ⟨aD, nD, cD, rfl, ho, hn, hb⟩
    have HB5 := Lib.hid ((HB4.out _).trans (hb.mono (HB4.out _).size))
    have HX5 := Lib.hid ((HX4.out _).on hb)
    have HY5 := Lib.hid ((HY4.out _).on hb)
    have HO5 := Lib.hid ((HO4.out _).keep hb)
    have HI5 := Lib.hid ((HI4.out _).on hb)
    have HD5 := Lib.hid (own_isl ho hn)
    have HN5 := Lib.hid hn
    clear hb Q4 ho hn x0 x1 x2'
    go_upto_if 71 with (fail)
    go_cut [] from 72 to 93 (fun wx => Hid (Below v5.heap.size v5 wx))
    case first =>
      by_cases hA : eA = 0
      · subst hA
        obtain ⟨rfl, k1, k2, k3⟩ := HK.out rfl
        have Q5 := Get_I aA nA cA lA true x3 y3 v5 HO5.out (good_small k1)
        rw [k2] at Q5
        have y0 := HY5.out.c 0 _ rfl; have y1 := HY5.out.c 1 _ rfl; have y2' := HY5.out.c 2 _ rfl
        clear k1 k2 HK HD HDE
        rcases k3 with ⟨k4, rfl, rfl⟩ | ⟨k4, k5⟩
        · go_wp2_with fail
          with_reducible refine Q5.mono ?_
          rintro e v6 ⟨rfl, hb⟩
          have HB6 := Lib.hid hb
          have z0 := (HY5.out.on hb).c 0 _ rfl; have z1 := (HY5.out.on hb).c 1 _ rfl; have z2 := (HY5.out.on hb).c 2 _ rfl
          have u0 := (HI5.out.on hb).c 0 _ rfl; have u1 := (HI5.out.on hb).c 1 _ rfl; have u2 := (HI5.out.on hb).c 2 _ rfl
          clear hb y0 y1 y2' Q5
          go_wp2_with fail
          go_meet
          case rel => exact HB6
        · rcases ne_or k5 with k6 | ⟨k6, k7⟩
          · clear k5
            go_wp2_with fail
            with_reducible refine Q5.mono ?_
            rintro e v6 ⟨rfl, hb⟩
            have HB6 := Lib.hid hb
            have z0 := (HY5.out.on hb).c 0 _ rfl; have z1 := (HY5.out.on hb).c 1 _ rfl; have z2 := (HY5.out.on hb).c 2 _ rfl
            have u0 := (HI5.out.on hb).c 0 _ rfl; have u1 := (HI5.out.on hb).c 1 _ rfl; have u2 := (HI5.out.on hb).c 2 _ rfl
            clear hb y0 y1 y2' Q5
            go_wp2_with fail
            go_meet
            case rel => exact HB6
          · clear k5
            go_wp2_with fail
            with_reducible refine Q5.mono ?_
            rintro e v6 ⟨rfl, hb⟩
            have HB6 := Lib.hid hb
            have z0 := (HY5.out.on hb).c 0 _ rfl; have z1 := (HY5.out.on hb).c 1 _ rfl; have z2 := (HY5.out.on hb).c 2 _ rfl
            have u0 := (HI5.out.on hb).c 0 _ rfl; have u1 := (HI5.out.on hb).c 1 _ rfl; have u2 := (HI5.out.on hb).c 2 _ rfl
            clear hb y0 y1 y2' Q5
            go_wp2_with fail
            go_meet
            case rel => exact HB6
      · have hh : ((eA : Int) == 0) = false := beq_eq_false_iff_ne.2 (by omega)
        clear hA
        go_wp2_with fail
        go_meet
        case rel => exact Lib.hid (Below.refl _ _)
    case rest =>
      have HB6 := Lib.hid (HB5.out.trans (hcut.out.mono HB5.out.size))
      have HX6 := Lib.hid (HX5.out.on hcut.out)
      have HY6 := Lib.hid (HY5.out.on hcut.out)
      have HD6 := Lib.hid (HD5.out.keep hcut.out)
      clear hcut
      by_cases hD : eD = 0
      · subst hD
        obtain ⟨rfl, k1, k2⟩ := HD.out rfl
        have x0 := HX6.out.c 0 _ rfl; have x1 := HX6.out.c 1 _ rfl; have x2' := HX6.out.c 2 _ rfl
        have y0 := HY6.out.c 0 _ rfl; have y1 := HY6.out.c 1 _ rfl; have y2' := HY6.out.c 2 _ rfl
        clear HK HD HDE
        by_cases hid : x2 = x3 ∧ y2 = y3
        · obtain ⟨rfl, rfl⟩ := hid
          clear k1 k2
          go_wp2_with fail
          go_ret
          exact ⟨rfl, HB6.out⟩
        · have hne : x3 ≠ x2 ∨ y3 ≠ y2 := by omega
          have Q6 := Get_I aD nD cD lD true x3 y3 wc HD6.out (good_small k1)
          rw [k2 hne] at Q6
          have hne' : x2 ≠ x3 ∨ y2 ≠ y3 := by omega
          clear hid k1 k2 hne
          rcases ne_or hne' with k6 | ⟨k6, k7⟩
          · clear hne'
            go_wp2_with fail
            with_reducible refine Q6.mono ?_
            rintro e v7 ⟨rfl, hb⟩
            have HB7 := Lib.hid (HB6.out.trans (hb.mono HB6.out.size))
            clear hb Q6
            go_wp2_with fail
            go_ret
            exact ⟨rfl, HB7.out⟩
          · clear hne'
            go_wp2_with fail
            with_reducible refine Q6.mono ?_
            rintro e v7 ⟨rfl, hb⟩
            have HB7 := Lib.hid (HB6.out.trans (hb.mono HB6.out.size))
            clear hb Q6
            go_wp2_with fail
            go_ret
            exact ⟨rfl, HB7.out⟩
      · have hh := int_ne hD
        have hh2 : ((eD : Int) == 0) = false := beq_eq_false_iff_ne.2 (by omega)
        obtain rfl : nD = 0 := by rw [← HN5.out, HDE.out hD]; rfl
        clear hD HK HD HDE
        go_wp2_with fail
        go_ret
        exact ⟨rfl, HB6.out⟩
  · have htx : tx = Bg.noText := by
      have := Bg.getR_fail (l := t0) (id := ⟨i3, x3, y3⟩) (by rw [hRG]; exact hG)
      rwa [hRG] at this
    subst htx
    have hh := int_ne hG
    clear w0 w1 hRG hG PA DA
    go_enter Try.func5, Try.ntmps5
    go_wp2_with fail
    with_reducible refine T1.mono ?_
    rintro e v1 ⟨ax, cx, rfl, ho, hb⟩
    have HB1 := Lib.hid (HB0.out.trans (hb.mono HB0.out.size))
    have HX1 := Lib.hid (HX0.out.on hb)
    have HY1 := Lib.hid (HY0.out.on hb)
    have HT1 := Lib.hid (own_isl ho rfl)
    obtain ⟨X, b, o, s, rfl, hX, c0, c1, c2, c3⟩ := HT1.out.get (k := 0) (by decide)
    obtain rfl : X = ⟨b, o, s⟩ := (add0 X).symm.trans hX
    have Q1 := G2 v1 _ cx HT1.out
    have d0 : v1.cell? ⟨b, o, s⟩ = some (.int .i64 353) := c0
    clear c0 c1 c2 c3 hX T1 G2 ho
    clear hb
    go_wp2_with fail
    with_reducible refine Q1.mono ?_
    rintro e v2 ⟨rfl, hb⟩
    have HB2 := Lib.hid (HB1.out.trans (hb.mono HB1.out.size))
    have HY2 := Lib.hid (HY1.out.on hb)
    obtain ⟨X, b', o', s', he', hX, c0, c1, c2, c3⟩ := (HT1.out.keep hb).get (k := 0) (by decide)
    cases he'
    obtain ⟨rfl, rfl, rfl⟩ : b = b' ∧ o = o' ∧ s = s' := by
      have h := (add0 _).symm.trans hX
      simpa using h
    have d2 : v2.cell? ⟨b, o + 2, none⟩ = some (.string ⟨#[97]⟩) := c2
    have Q2 := GO v2 HB2.out
    have y0 := HY2.out.c 0 _ rfl; have y1 := HY2.out.c 1 _ rfl; have y2' := HY2.out.c 2 _ rfl
    clear c0 c1 c2 c3 hX hb Q1 d0 GO
    go_wp2_with fail
    with_reducible refine Q2.mono ?_
    rintro e v3 ⟨rfl, hb⟩
    have HB3 := Lib.hid (HB2.out.trans (hb.mono HB2.out.size))
    clear hb Q2
    unfold Bg.noText
    go_wp2_with fail
    go_ret
    exact ⟨rfl, HB3.out⟩

end Go.Proofs.Yteddendidjhmbaa
