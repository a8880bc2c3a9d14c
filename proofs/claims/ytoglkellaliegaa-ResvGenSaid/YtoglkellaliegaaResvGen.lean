/- ResvGen: Gen never falls and rises by one at most; what is refused changes nothing; for every input; what was there stands below. -/
import Derived.Test.YtoglkellaliegaaRgX
import Derived.Test.YtoglkellaliegaaArgsL
namespace Go.Proofs.Ytoglkellaliegaa
open Go.RowKit

set_option maxRecDepth 100000 in
set_option maxHeartbeats 16000000 in
theorem gen_core (L : Option Addr) (nl cl : Nat) (F : Nat → Nat → Int) (w : World) (hL : LArg w L nl cl F) :
    Calls Try.prog 11 #[.slice L nl cl] w fun e w' => e = .returned (.bool true) ∧ Below w.heap.size w w' := by
  have hcap := hL.cap
  have hmax := hL.max
  unfold maxLen at hmax
  obtain ⟨N, hN⟩ : ∃ N, min nl 60 = N := ⟨_, rfl⟩
  have hN60 : N ≤ 60 := by omega
  have hNl : N ≤ nl := by omega
  have hmin : min (nl : Int) 60 = (N : Int) := by omega
  have h0N : (0 : Int) ≤ (N : Int) := by omega
  have hNc : (N : Int) ≤ (cl : Int) := by omega
  have K1 := registered_R w
  have HL := Lib.hid hL
  clear hL hN
  go_enter Try.func11, Try.ntmps11
  go_wp2_with fail
  with_reducible refine K1.mono ?_
  rintro e w1 ⟨a1, q1, rfl, ho1, hb1⟩
  have HB1 := Lib.hid hb1
  have hs1 := hb1.size
  have HB2 : Hid (∀ o o', Below w.heap.size w ((w1.alloc o).alloc o')) := Lib.hid fun o o' => (HB1.out.alloc hs1 _).alloc (by rw [World.size_alloc]; omega) _
  have HX2 : Hid (∀ o T, R4 ((w1.alloc o).alloc (.cells #[.int .i64 0, .slice none 0 0, .int .i64 0, .int .i64 0] T)) (w1.heap.size + 1) (.int .i64 0) (.slice none 0 0) (.int .i64 0) (.int .i64 0)) := Lib.hid fun o T => by
    have := r4_new (w1.alloc o) T (.int .i64 0) (.slice none 0 0) (.int .i64 0) (.int .i64 0)
    rw [World.size_alloc] at this
    exact this
  clear ho1 hb1 K1
  go_wp2_with fail
  go_loopw [19] (fun v wr => ∃ (j m c : Nat) (a : Option Addr) (gg kx hh : Int) (rg : List Qu.T), j ≤ N ∧ v = .int .i64 j ∧ Hid (Rg.Good ⟨gg, rg, kx, hh⟩ ∧ gg ≤ (j : Int)) ∧
      Hid (R4 wr (w1.heap.size + 1) (.int .i64 gg) (.slice a m c) (.int .i64 kx) (.int .i64 hh)) ∧ Hid (wr.ownsRow (w1.heap.size + 2) 56 2 (.slice a m c) m (tv rg)) ∧
      Hid (Below w.heap.size w wr)) (fun v _ => N - (intOf v).toNat)
  case atStart => exact ⟨0, 0, 0, none, 0, 0, 0, [], Nat.zero_le _, rfl, Lib.hid ⟨Rg.good_zero, Int.le_refl _⟩, HX2.out _ _, Lib.hid (World.ownsRow_nil _ _ _ _), HB2.out _ _⟩
  case round =>
    obtain ⟨j, m, c, a, gg, kx, hh, rg, hj, rfl, HGJ, HR, HO, HBr⟩ := hrel
    obtain ⟨hl, c0, c1, c2, c3, z0, z1, z2, z3⟩ := HR.out
    by_cases hlt : j < N
    · obtain ⟨x, b, nc, cc, rfl, hxb, hxc, hC⟩ := (HL.out.keep HBr.out).row j (by omega)
      have hg : gg ≤ (j : Int) := HGJ.out.2
      have hg0 : 0 ≤ gg := HGJ.out.1.gen0
      have T1 := turn_R gg kx hh a m c rg b nc cc (F j) wr HGJ.out.1 (by omega) (own_tsl HO.out (Below.refl _ _)) hC
      obtain ⟨E, hE⟩ : ∃ E, Rg.tE ⟨gg, rg, kx, hh⟩ (F j) = E := ⟨_, rfl⟩
      rw [hE] at T1
      have HE := Lib.hid hE
      have hsr := HBr.out.size
      have hlr := HR.out.lt
      clear hE hC
      by_cases h0 : E = 0
      · subst h0
        obtain ⟨⟨zg, zr, zk, zh⟩, hZZ⟩ : ∃ Z, rz (Rg.tR ⟨gg, rg, kx, hh⟩ (F j)) 0 = Z := ⟨_, rfl⟩
        rw [hZZ] at T1
        have HT := Rg.t_good HGJ.out.1 (show gg < 1000 by omega) (F j) HE.out
        have hZ2 : Rg.tR ⟨gg, rg, kx, hh⟩ (F j) = ⟨zg, zr, zk, zh⟩ := hZZ
        rw [hZ2] at HT
        have hz1 : gg ≤ zg := HT.2.1
        have hz2 : zg ≤ gg + 1 := HT.2.2
        have HGN : Hid (Rg.Good ⟨zg, zr, zk, zh⟩ ∧ zg ≤ ((j + 1 : Nat) : Int)) := Lib.hid ⟨HT.1, by omega⟩
        clear hZZ hZ2 HT
        go_wp2_with fail
        with_reducible refine T1.mono ?_
        rintro e w6 ⟨a6, n6, q6, rfl, ho6, hb6⟩
        have HR6 := Lib.hid (HR.out.on hb6)
        have HB6 := Lib.hid (HBr.out.trans (hb6.mono HBr.out.size))
        have HO6 := Lib.hid (own_low ho6 (base := w1.heap.size + 2) (by omega))
        have HNE : Hid (∀ k, (Value.slice a6 n6 q6).ownBlock = some k → w1.heap.size + 1 ≠ k) := Lib.hid fun j hj => by have := row_base ho6 j hj; omega
        have hs6 := HB6.out.size
        have hlz : ¬ zg < gg := by omega
        have hgz : ¬ gg + 1 < zg := by omega
        clear hl c0 c1 c2 c3 z0 z1 z2 z3 ho6 hb6 T1
        obtain ⟨hl, c0, c1, c2, c3, z0, z1, z2, z3⟩ := HR6.out
        go_wp2_with fail
        go_roundw
        case rel => exact ⟨j + 1, n6, q6, a6, zg, zk, zh, zr, hlt, by go_num, HGN, Lib.hid ((HR6.out.set _ _ _ _).alloc _), Lib.hid ((own_set4 HO6.out HNE.out _ _ _ _).alloc _), Lib.hid ((below_set4 HB6.out (by omega) _ _ _ _).alloc (by simp only [World.size_setCell]; exact hs6) _)⟩
        case measure => simp [intOf]; omega
      · have HEE : Hid (rz (Rg.tR ⟨gg, rg, kx, hh⟩ (F j)) E = ⟨0, [], 0, 0⟩) := Lib.hid (by unfold rz; rw [if_neg h0]; rfl)
        rw [HEE.out] at T1
        have e0 : ((E : Int) != 0) = true := bne_iff_ne.2 (by omega)
        have HGN : Hid (Rg.Good ⟨gg, rg, kx, hh⟩ ∧ gg ≤ ((j + 1 : Nat) : Int)) := Lib.hid ⟨HGJ.out.1, by omega⟩
        clear h0 HEE
        go_wp2_with fail
        with_reducible refine T1.mono ?_
        rintro e w6 ⟨a6, n6, q6, rfl, ho6, hb6⟩
        obtain rfl : n6 = 0 := (own_len ho6).symm
        have HR6 := Lib.hid (HR.out.on hb6)
        have HB6 := Lib.hid (HBr.out.trans (hb6.mono HBr.out.size))
        have HO6 := Lib.hid (own_keep HO.out hb6)
        have hs6 := HB6.out.size
        have S6 := fun V => Same_R 0 0 0 a6 none 0 q6 0 [] V ((own_tsl ho6 (Below.refl _ _)).empty) (tsl_nil _) (by omega)
        clear hl c0 c1 c2 c3 z0 z1 z2 z3 ho6 hb6 T1
        have HBA : Hid (∀ o, Below w.heap.size w (w6.alloc o)) := Lib.hid fun o => HB6.out.alloc hs6 o
        go_wp2_with fail
        with_reducible refine (S6 _).mono ?_
        rintro e w7 ⟨rfl, hb7⟩
        have HR7 := Lib.hid ((HR6.out.alloc _).on hb7)
        have HO7 := Lib.hid (own_keep (HO6.out.alloc _) hb7)
        have HB7 := Lib.hid ((HBA.out _).trans (hb7.mono (HBA.out _).size))
        clear hb7 S6
        go_wp2_with fail
        go_roundw
        case rel => exact ⟨j + 1, m, c, a, gg, kx, hh, rg, hlt, by go_num, HGN, HR7, HO7, HB7⟩
        case measure => simp [intOf]; omega
    · obtain rfl : j = N := by omega
      go_wp2_with fail
      go_ret
      exact ⟨rfl, HBr.out⟩

theorem resvGen_walk (a0 : Option Addr) (len0 cap0 : Nat) (z0 : Nat → Nat → Int) (w : World) (w0 : LArg w a0 len0 cap0 z0) :
    Calls Try.prog 11 #[.slice a0 len0 cap0] w fun e w' => e = .returned (.bool true) ∧ Below w.heap.size w w' :=
  gen_core a0 len0 cap0 z0 w w0

end Go.Proofs.Ytoglkellaliegaa
