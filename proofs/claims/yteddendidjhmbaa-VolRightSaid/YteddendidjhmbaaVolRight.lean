/- VolRight: what deeds make is right, each block used as often as it says; for every input. -/
import Derived.Test.YteddendidjhmbaaVolRP
namespace Go.Proofs.Yteddendidjhmbaa
open Go.RowKit

set_option maxRecDepth 100000 in
set_option maxHeartbeats 16000000 in
theorem volRight_walk (a0 : Option Addr) (len0 cap0 : Nat) (t0 : List Lg.Op) (w : World) (w0 : OArg w a0 len0 cap0 t0) :
    Calls Try.prog 8 #[.slice a0 len0 cap0] w fun e w' => e = .returned (.bool true) ∧ Below w.heap.size w w' := by
  have B1 := begun_V w
  have M1 : ∀ W, Below w.heap.size w W → Calls Try.prog 33 #[.slice a0 len0 cap0] W (StMade W (Vo.made t0)) := fun W hb => made_V a0 len0 cap0 t0 W ⟨w0.1.keep hb, w0.2⟩
  have HR : Hid (Vo.Right (Vo.made t0)) := Lib.hid (Vo.made_right t0)
  obtain ⟨S, hS⟩ : ∃ S, Vo.made t0 = S := ⟨_, rfl⟩
  rw [hS] at M1 HR
  clear w0 hS
  go_enter Try.func8, Try.ntmps8
  go_wp2_with fail
  with_reducible refine B1.mono ?_
  rintro e v1 ⟨rfl, hb1⟩
  have HB1 := Lib.hid hb1
  have Q1 := M1 v1 hb1
  clear M1 B1 hb1
  go_wp2_with fail
  with_reducible refine Q1.mono ?_
  rintro e v2 ⟨a, n, c, b, m, d, rs, rfl, hs2, hb2⟩
  obtain ⟨v3, hv3⟩ : ∃ v3, v2.alloc (.cells #[.slice a n c, .slice b m d] 52) = v3 := ⟨_, rfl⟩
  have HB3 := Lib.hid ((HB1.out.trans (hb2.mono HB1.out.size)).alloc (HB1.out.trans (hb2.mono HB1.out.size)).size (.cells #[.slice a n c, .slice b m d] 52))
  have HX3 := Lib.hid (bxs_new v2 52 #[.slice a n c, .slice b m d] _ rfl)
  have HS3 := Lib.hid (hs2.keep ((Below.refl _ v2).alloc (Nat.le_refl _) (.cells #[.slice a n c, .slice b m d] 52)))
  rw [hv3] at HB3 HX3 HS3
  have HV3 := Lib.hid hv3
  have c0 := HX3.out.c 0 _ rfl; have c1 := HX3.out.c 1 _ rfl
  have hxl := HX3.out.lt
  have hm : m ≤ 6 := by rw [← HS3.out.vlen]; exact HR.out.len
  clear hs2 hb2 Q1
  go_wp2_with fail
  clear hv3
  go_loopw [4, 16] (fun y x wr => ∃ (k : Nat), k ≤ m ∧ x = .int .i64 k ∧ y = .int .i64 (Vo.usedN (Vo.allIds (S.vols.take k)) : Nat) ∧ Hid (Below v3.heap.size v3 wr))
    (fun _ x _ => m - (intOf x).toNat)
  case atStart => exact ⟨0, Nat.zero_le _, rfl, rfl, Lib.hid (Below.refl _ _)⟩
  case round =>
    obtain ⟨k, hk, rfl, rfl, BW⟩ := hrel
    have hsz := BW.out.size
    by_cases hlt : k < m
    · have hkv : k < S.vols.length := by rw [HS3.out.vlen]; exact hlt
      have hkr : k < rs.length := by rw [HS3.out.rlen]; exact hlt
      obtain ⟨g, rfl, hg, d0, d1⟩ := rv_at (HS3.out.keep BW.out).row hkr
      obtain ⟨-, e2, e3⟩ := HS3.out.vol k rs[k] S.vols[k] (List.getElem?_eq_getElem hkr) (List.getElem?_eq_getElem hkv)
      have hn3 : rs[k].n ≤ 32 := by rw [← e3]; exact (HR.out.vol S.vols[k] (List.getElem_mem hkv)).len
      have hst := Vo.used_step hkv
      have hs1 := Vo.used_small HR.out k
      have HL2 : Hid (∀ V, Below v3.heap.size v3 V → V.ownsRow v1.heap.size 26 3 (.slice rs[k].a rs[k].n rs[k].c) rs[k].n (dv S.vols[k].ids)) := Lib.hid fun V hb => own_keep e2 hb
      have HE3 := Lib.hid e3
      have BA := Lib.hid fun o => BW.out.alloc hsz o
      clear e2 e3
      generalize rs[k].name = f1 at *
      generalize rs[k].a = f2 at *
      generalize rs[k].n = f3 at *
      generalize rs[k].c = f4 at *
      generalize S.vols[k].ids = ids at *
      generalize Vo.usedN (Vo.allIds (S.vols.take k)) = U at *
      have HST := Lib.hid hst
      clear hst
      go_wp2_with fail
      obtain ⟨wo, rfl⟩ : ∃ wo : World, wo = wr := ⟨_, rfl⟩
      go_loopw [4, 23] (fun y x wv => ∃ i : Nat, i ≤ f3 ∧ x = .int .i64 i ∧ y = .int .i64 ((U + Vo.usedN (ids.take i) : Nat) : Int) ∧ Hid (Below v3.heap.size v3 wv)) (fun _ x _ => f3 - (intOf x).toNat)
      case atStart => exact ⟨0, Nat.zero_le _, rfl, rfl, Lib.hid (BA.out _)⟩
      case round =>
        obtain ⟨i, hi, rfl, rfl, BI⟩ := hrel
        have hszi := BI.out.size
        by_cases hlt2 : i < f3
        · have hil : i < ids.length := by rw [HE3.out]; exact hlt2
          obtain ⟨g2, rfl, hg2, -, q0, q1, q2⟩ := dv_at (HL2.out wr BI.out) hil
          have hut := Vo.usedN_take hil
          have hub := Vo.usedN_le (ids.take i)
          have hub2 : (ids.take i).length ≤ i := List.length_take_le ..
          have BJ := Lib.hid fun o => BI.out.alloc hszi o
          generalize ids[i].is = i1 at *
          generalize ids[i].sum = i2 at *
          generalize ids[i].n = i3 at *
          have HUT := Lib.hid hut
          clear hut
          cases i1 with
          | false =>
            go_wp2_with fail
            go_roundw
            case rel => exact ⟨i + 1, hlt2, by go_num, by rw [HUT.out, if_neg (by decide), Nat.add_zero], Lib.hid (BJ.out _)⟩
            case measure => simp [intOf]; omega
          | true =>
            generalize Vo.usedN (ids.take i) = V at *
            have hw : IntKind.i64.wrap (((U + V : Nat) : Int) + 1) = ((U + V : Nat) : Int) + 1 := IntWalk.i64_in _ ⟨by omega, by omega⟩
            go_wp2_with fail
            go_roundw
            case rel => exact ⟨i + 1, hlt2, by go_num, by rw [HUT.out, if_pos rfl]; congr 1, Lib.hid (BJ.out _)⟩
            case measure => simp [intOf]; omega
        · obtain rfl : i = f3 := by omega
          have hall : Hid (U + Vo.usedN (ids.take i) = Vo.usedN (Vo.allIds (S.vols.take (k + 1)))) := Lib.hid (by rw [HST.out, List.take_of_length_le (by rw [HE3.out]; exact Nat.le_refl _)])
          go_wp2_with fail
          go_roundw
          case rel => exact ⟨k + 1, hlt, by go_num, by rw [hall.out], Lib.hid BI.out⟩
          case measure => simp [intOf]; omega
    · obtain rfl : k = m := by omega
      have hal : Vo.usedN (Vo.allIds (S.vols.take k)) = Vo.usedN (Vo.allIds S.vols) := by rw [List.take_of_length_le (by rw [HS3.out.vlen]; exact Nat.le_refl _)]
      have CK := Check_V a b n c k d _ rs S wr (HS3.out.keep BW.out) HR.out
      have RF : ∀ W, Below v3.heap.size v3 W → Calls Try.prog 25 #[.slice a n c] W fun e w' => e = .returned (.int .i64 (Bg.refsV S.bag)) ∧ Below W.heap.size W w' := fun W hb =>
        refs_I a n c S.bag W (HS3.out.keep hb).isl (by rw [← HS3.out.len]; exact HR.out.bag.len) (Vo.refs_in HR.out.bag)
      rw [Vo.refs_right HR.out] at RF
      rw [hal]
      generalize Vo.usedN (Vo.allIds S.vols) = U at *
      have x0 := (HX3.out.on BW.out).c 0 _ rfl; have x1 := (HX3.out.on BW.out).c 1 _ rfl
      clear hal
      go_wp2_with fail
      with_reducible refine CK.mono ?_
      rintro e w5 ⟨rfl, hb5⟩
      have HB5 := Lib.hid (BW.out.trans (hb5.mono hsz))
      have y0 := (HX3.out.on HB5.out).c 0 _ rfl
      have RF5 := RF w5 HB5.out
      clear CK hb5 x0 x1 RF
      go_wp2_with fail
      with_reducible refine RF5.mono ?_
      rintro e w6 ⟨rfl, hb6⟩
      have HB6 := Lib.hid (HB5.out.trans (hb6.mono HB5.out.size))
      clear hb6 RF5
      go_wp2_with fail
      go_ret
      exact ⟨rfl, HB3.out.trans (HB6.out.mono HB3.out.size)⟩

end Go.Proofs.Yteddendidjhmbaa
