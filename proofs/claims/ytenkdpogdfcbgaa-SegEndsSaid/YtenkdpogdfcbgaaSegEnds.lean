import Derived.Test.YtenkdpogdfcbgaaSgN2
import Derived.Test.YtenkdpogdfcbgaaArgsR
/- SegEnds: where nothing is used, cleaned as often as there are segments, nothing is left; for every input. -/
namespace Go.Proofs.Ytenkdpogdfcbgaa.Sg
open Go.Proofs.Ytenkdpogdfcbgaa

def r0 : R := ⟨⟨true, 0, 0⟩, ⟨#[97]⟩⟩
theorem fits_r0 : fits [r0] = [[r0]] := by kernel_rfl
theorem live_none (s tl : List R) : liveR [] s tl = [] := by
  induction s with
  | nil => rfl
  | cons r s ih =>
    rw [liveR, ih]
    rfl
theorem clean_none {l : List (List R)} (h : l.length ≠ 0) : ∃ q, q < l.length ∧ cleanR [] l = ⟨l.take q ++ l.drop (q + 1), 0⟩ := by
  have hu : usedL [] l ≠ [] := fun e => h (by rw [← used_length [] l, e]; rfl)
  have hq := (best_is hu).1
  rw [used_length] at hq
  refine ⟨_, hq, ?_⟩
  unfold cleanR
  have h0 : Bg.checkE Bg.Pr [] = 0 := rfl
  rw [h0, if_neg (by simp), if_neg h]
  unfold cleanL
  rw [live_none]
  rfl
theorem clean_empty : cleanR [] [] = ⟨[], 4⟩ := rfl
theorem clean_r0 : cleanR [] [[r0]] = ⟨[], 0⟩ := by
  obtain ⟨q, hq, h⟩ := clean_none (l := [[r0]]) (by simp)
  obtain rfl : q = 0 := by simpa using hq
  exact h

end Go.Proofs.Ytenkdpogdfcbgaa.Sg

namespace Go.Proofs.Ytenkdpogdfcbgaa
open Go.RowKit

theorem isl_none0 (w : World) : ISl w none 0 0 [] := ⟨fun h => absurd rfl h, rfl, Nat.le_refl _, Nat.zero_le _, fun _ => ⟨rfl, rfl⟩⟩

set_option maxRecDepth 100000 in
set_option maxHeartbeats 8000000 in
theorem segEnds_walk (a0 : Option Addr) (len0 cap0 : Nat) (t0 : List Sg.R) (w : World) (w0 : RArg w a0 len0 cap0 t0) :
    Calls Try.prog 7 #[.slice a0 len0 cap0] w fun e w' => e = .returned (.bool true) ∧ Below w.heap.size w w' := by
  have hal := (Below.refl w.heap.size w).alloc (Nat.le_refl _) (.cells #[.bool true, .int .i64 0, .int .i64 0, .string ⟨#[97]⟩] 36)
  have HB0 := Lib.hid hal
  have K1 := fits_E (some ⟨w.heap.size, 0, none⟩) 1 1 [Sg.r0] (w.alloc (.cells #[.bool true, .int .i64 0, .int .i64 0, .string ⟨#[97]⟩] 36)) (rsl_own (base := w.heap.size) (World.ownsRow_lit w #[.bool true, .int .i64 0, .int .i64 0, .string ⟨#[97]⟩] 1 (Nat.le_refl _) (by unfold maxLen; decide) rfl)) (by omega)
  rw [Sg.fits_r0] at K1
  have HA := Lib.hid w0
  clear hal w0
  go_enter Try.func7, Try.ntmps7
  go_wp2_with fail
  with_reducible refine K1.mono ?_
  rintro e v1 ⟨b1, m1, d1, z1, rfl, hs, hb⟩
  obtain rfl : m1 = 1 := hs.len.symm
  have HB1 := Lib.hid (HB0.out.trans (hb.mono HB0.out.size))
  have HG1 : Sg.Good [[Sg.r0]] := by rw [← Sg.fits_r0]; exact Sg.fits_good _
  have K2 := Clean_E b1 1 d1 _ z1 [[Sg.r0]] none 0 0 [] v1 hs HG1 (isl_none0 _) (fun t ht => by cases ht)
  rw [Sg.clean_r0] at K2
  clear K1 hs hb HG1
  go_wp2_with fail
  with_reducible refine K2.mono ?_
  rintro e v2 ⟨b2, m2, d2, z2, rfl, hs, hb⟩
  obtain rfl : m2 = 0 := hs.len.symm
  have HB2 := Lib.hid (HB1.out.trans (hb.mono HB1.out.size))
  have K3 := fits_E a0 len0 cap0 t0 v2 (HA.out.1.keep HB2.out) (by have := HA.out.2.1; unfold maxLen at this; exact this)
  have HGF := Lib.hid (Sg.fits_good t0)
  generalize Sg.fits t0 = l0 at *
  clear K2 hs hb
  go_wp2_with fail
  with_reducible refine K3.mono ?_
  rintro e v3 ⟨b3, m3, d3, z3, rfl, hs, hb⟩
  have HS3 := Lib.hid (hs.low HB2.out.size)
  have HB3 := Lib.hid (HB2.out.trans (hb.mono HB2.out.size))
  clear K3 hs hb
  go_wp2_with fail
  go_loopw [3, 6] (fun v x wr => ∃ (b : Option Addr) (m d : Nat) (zs : List Rl) (l : List (List Sg.R)), v = .slice b m d ∧ x = .int .i64 m ∧ Hid (Below w.heap.size w wr) ∧ Hid (SgW wr w.heap.size b m d zs l) ∧ Hid (Sg.Good l)) (fun _ x _ => (intOf x).toNat)
  case atStart => exact ⟨_, _, _, _, _, rfl, rfl, HB3, HS3, HGF⟩
  case round =>
    obtain ⟨b, m, d, zs, l, rfl, rfl, HB, HS, HG⟩ := hrel
    have hm16 : m ≤ 16 := by rw [← HS.out.len]; exact HG.out.len
    have K4 := Clean_E b m d _ zs l none 0 0 [] wr HS.out HG.out (isl_none0 _) (fun t ht => by cases ht)
    rcases m with _ | q
    · obtain rfl : l = [] := List.length_eq_zero_iff.1 HS.out.len
      rw [Sg.clean_empty] at K4
      go_wp2_with fail
      with_reducible refine K4.mono ?_
      rintro e v5 ⟨b5, m5, d5, z5, rfl, hs, hb⟩
      have HB5 := Lib.hid (HB.out.trans (hb.mono HB.out.size))
      clear K4 hs hb
      go_wp2_with fail
      go_ret
      exact ⟨rfl, HB5.out⟩
    · obtain ⟨k, hk, hc⟩ := Sg.clean_none (l := l) (by rw [HS.out.len]; omega)
      rw [hc] at K4
      have HLE : Hid ((l.take k ++ l.drop (k + 1)).length = q) := Lib.hid (by rw [List.length_append, List.length_take, List.length_drop, HS.out.len]; rw [HS.out.len] at hk; omega)
      have HGE := Lib.hid (Sg.good_cut HG.out k)
      generalize l.take k ++ l.drop (k + 1) = l2 at *
      clear hk hc
      go_wp2_with fail
      with_reducible refine K4.mono ?_
      rintro e v5 ⟨b5, m5, d5, z5, rfl, hs, hb⟩
      dsimp only at hs
      obtain rfl : m5 = q := by rw [← hs.len]; exact HLE.out
      have HB5 := Lib.hid (HB.out.trans (hb.mono HB.out.size))
      have HS5 := Lib.hid (hs.low HB.out.size)
      clear K4 hs hb
      go_wp2_with fail
      go_roundw
      case rel => exact ⟨_, _, _, _, _, rfl, by go_num, HB5, HS5, HGE⟩
      case measure => simp [intOf]

end Go.Proofs.Ytenkdpogdfcbgaa
