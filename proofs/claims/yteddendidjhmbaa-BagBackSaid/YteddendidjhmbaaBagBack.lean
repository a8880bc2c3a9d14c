/- BagBack: what is put and dropped leaves all as it was; for every input. -/
import Derived.Test.YteddendidjhmbaaBgP7
namespace Go.Proofs.Yteddendidjhmbaa
open Go.RowKit

def Bg.threeL : List Bg.It := [⟨353, 0, Bg.tA, 1⟩, ⟨354, 0, Bg.tB, 1⟩, ⟨355, 0, Bg.tC, 1⟩]
theorem three1 : Bg.putR Bg.Pr Bg.twoL ⟨#[99]⟩ = ⟨Bg.threeL, ⟨true, 355, 0⟩, 0⟩ := by kernel_rfl
theorem three2 : Bg.dropR Bg.Pr Bg.threeL ⟨true, 355, 0⟩ = (Bg.twoL, 0) := by
  have h := (Bg.put_ok (l := Bg.twoL) (t := ⟨#[99]⟩) (by rw [three1])).back
  rw [three1] at h
  exact h
theorem three_good : Bg.Good Bg.threeL := by
  have h := (Bg.put_ok (l := Bg.twoL) (t := ⟨#[99]⟩) (by rw [three1])).good
  rw [three1] at h
  exact h

set_option maxRecDepth 100000 in
set_option maxHeartbeats 8000000 in
theorem bagBack_walk (a0 : Option Addr) (len0 cap0 : Nat) (t0 : List Bg.It) (a1 : ByteArray) (w : World) (w0 : IArg w a0 len0 cap0 t0) (w1 : a1.size ≤ maxLen) :
    Calls Try.prog 6 #[.slice a0 len0 cap0, .string a1] w fun e w' => e = .returned (.bool true) ∧ Below w.heap.size w w' := by
  have T1 := two_I w
  have HA := Lib.hid w0
  have P3 := fun (V : World) (a : Option Addr) (c : Nat) (h : ISl V a 2 c Bg.twoL) => Put_I a 2 c Bg.twoL ⟨#[99]⟩ V h (good_small two_good) (by unfold maxLen; decide)
  rw [three1] at P3
  have D3 := fun (V : World) (a : Option Addr) (n c : Nat) (h : ISl V a n c Bg.threeL) => Drop_I a n c Bg.threeL true 355 0 V h (good_small three_good)
  rw [three2] at D3
  have PA := fun V (h : Below w.heap.size w V) => Put_I a0 len0 cap0 t0 a1 V (w0.1.keep h) w0.2.1 w1
  obtain ⟨RA, hRA⟩ : ∃ R, Bg.putR Bg.Pr t0 a1 = R := ⟨_, rfl⟩
  have HK : Hid (RA.e = 0 → Bg.PutOk t0 a1 RA) := Lib.hid fun h => hRA ▸ Bg.put_ok (by rw [hRA]; exact h)
  have HER : Hid (RA.e ≠ 0 → RA.l = []) := Lib.hid fun h => hRA ▸ (Bg.put_err (by rw [hRA]; exact h)).1
  rw [hRA] at PA
  clear w0 w1 hRA
  obtain ⟨lA, ⟨iA, xA, yA⟩, eA⟩ := RA
  dsimp only at HER
  go_enter Try.func6, Try.ntmps6
  go_wp2_with fail
  with_reducible refine T1.mono ?_
  rintro e v1 ⟨ax, cx, rfl, ho, hb⟩
  have HB1 := Lib.hid hb
  have HX1 := Lib.hid (own_isl ho rfl)
  have Q1 := P3 v1 ax cx HX1.out
  clear ho hb T1 P3
  go_wp2_with fail
  with_reducible refine Q1.mono ?_
  rintro e v2 ⟨ay, n3, cy, rfl, ho, hn, hb⟩
  obtain rfl : n3 = 3 := hn.symm
  have HB2 := Lib.hid (HB1.out.trans (hb.mono HB1.out.size))
  have HX2 := Lib.hid (HX1.out.keep hb)
  have HI : Hid (∀ T, Bxs (v2.alloc (.cells #[.bool true, .int .i64 355, .int .i64 0] T)) v2.heap.size [.bool true, .int .i64 355, .int .i64 0]) := Lib.hid fun T => bxs_new v2 T _ _ rfl
  have Q2 := fun o => D3 (v2.alloc o) ay 3 cy (own_isl (ho.alloc o) rfl)
  have BA := Lib.hid fun o => (HB2.out.alloc HB2.out.size o)
  clear ho hb Q1 D3 hn
  go_wp2_with fail
  with_reducible refine (Q2 _).mono ?_
  rintro e v3 ⟨az, n3, cz, rfl, ho, hn, hb⟩
  obtain rfl : n3 = 2 := hn.symm
  have HB3 := Lib.hid ((BA.out _).trans (hb.mono (BA.out _).size))
  have HI3 := Lib.hid ((HI.out _).on hb)
  have HX3 := Lib.hid ((HX2.out.keep ((Below.refl _ v2).alloc (Nat.le_refl _) _)).keep hb)
  have Q3 := Equal_I ax az 2 cx cz Bg.twoL v3 HX3.out (own_isl ho rfl) (by omega)
  clear ho hb Q2 hn
  go_wp2_with fail
  with_reducible refine Q3.mono ?_
  rintro e v4 ⟨rfl, q, rfl⟩
  have Q4 := PA _ (below_drewN HB3.out q)
  have HI4 := Lib.hid (HI3.out.drewN q)
  have HB4 := Lib.hid (below_drewN HB3.out q)
  clear Q3 PA
  go_wp2_with fail
  with_reducible refine Q4.mono ?_
  rintro e v5 ⟨aA, nA, cA, rfl, ho, hn, hb⟩
  have HI5 := Lib.hid (HI4.out.on hb)
  have HB5 := Lib.hid (HB4.out.trans (hb.mono HB4.out.size))
  have c0 := HI5.out.c 0 _ rfl; have c1 := HI5.out.c 1 _ rfl; have c2 := HI5.out.c 2 _ rfl
  have z0 := HI5.out.z 0 (by decide); have z1 := HI5.out.z 1 (by decide); have z2 := HI5.out.z 2 (by decide)
  have hv2 : w.heap.size ≤ v2.heap.size := HB2.out.size
  clear Q4
  by_cases he : eA = 0
  · subst he
    have K := HK.out rfl
    obtain rfl : iA = true := K.is
    have hbk := K.back
    dsimp only at hbk
    have HGA := Lib.hid K.good
    have HO := Lib.hid ho
    have hnb : (Value.slice aA nA cA).ownBlock ≠ some v2.heap.size := fun h => by
      have h1 := row_base ho _ h
      have h2 := HI4.out.lt
      omega
    have HI6 := Lib.hid (HI5.out.set3 (.bool true) (.int .i64 xA) (.int .i64 yA))
    have HB6 := Lib.hid (below_set3 HB5.out hv2 (.bool true) (.int .i64 xA) (.int .i64 yA))
    have HO6 := Lib.hid (own_other (own_other (own_other ho (j := 0) hnb (.bool true)) (j := 1) hnb (.int .i64 xA)) (j := 2) hnb (.int .i64 yA))
    have Q5 := Drop_I aA nA cA lA true xA yA _ (own_isl HO6.out hn) (good_small HGA.out)
    rw [hbk] at Q5
    have hl0 := K.was.len
    clear ho hb hn K HK HER hbk hnb
    go_wp2_with fail
    with_reducible refine Q5.mono ?_
    rintro e v6 ⟨aB, nB, cB, rfl, ho, hn, hb⟩
    have HB7 := Lib.hid (HB6.out.trans (hb.mono HB6.out.size))
    obtain rfl : nB = len0 := by rw [← hn, HA.out.1.len]
    have Q6 := Equal_I aB a0 nB cB cap0 t0 v6 (own_isl ho hn) (HA.out.1.keep HB7.out) (by omega)
    clear ho hb hn Q5 c0 c1 c2 z0 z1 z2 hl0
    go_wp2_with fail
    with_reducible refine Q6.mono ?_
    rintro e v7 ⟨rfl, q7, rfl⟩
    clear Q6
    go_wp2_with fail
    go_ret
    exact ⟨rfl, below_drewN HB7.out q7⟩
  · have hh := int_ne he
    obtain rfl : nA = 0 := by rw [← hn, HER.out he]; rfl
    have HB6 := Lib.hid (below_set3 HB5.out hv2 (.bool iA) (.int .i64 xA) (.int .i64 yA))
    clear ho hb hn HK HER he
    go_wp2_with fail
    go_ret
    exact ⟨rfl, HB6.out⟩

end Go.Proofs.Yteddendidjhmbaa
