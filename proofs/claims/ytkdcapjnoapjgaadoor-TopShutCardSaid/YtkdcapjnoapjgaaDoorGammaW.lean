/- The walks of package gamma: Low, plain, Gamma, Delta. -/
import Derived.Test.YtkdcapjnoapjgaaDoorGammaP
import Derived.Test.YtkdcapjnoapjgaaDoorOverW
import Derived.Test.YtkdcapjnoapjgaaDoorUse
import Derived.OwnWalk
import Derived.Deep.RegionLaw
import Derived.Laws.IdiomStrings
import Derived.Lib.ConvBytes
namespace Go.Proofs.YtkdcapjnoapjgaaDoor
open Go.RowKit

theorem Tryd.infoU8g : (Tryd.prog.info? 5).map (fun i => (i.zero, i.size, i.bytes)) = some (some (.int .u8 0), 1, 1) := by kernel_rfl

theorem addr_off (b j : Nat) : (⟨b, 0, none⟩ : Addr).add j = ⟨b, j, none⟩ := by unfold Addr.add; split <;> simp_all

/-- What stands at place j when the first k are written. -/
def lowAt (n m k j : Nat) : Int := if j < k then ((Gm.bit n m j).toNat : Int) else 0

theorem bit_val (n m i : Nat) : ((Gm.bit n m i).toNat : Int) = 48 + ((n / 2 ^ (m - 1 - i) % 2 : Nat) : Int) := by
  unfold Gm.bit
  rw [UInt8.toNat_ofNat']
  omega

set_option maxRecDepth 100000 in
set_option maxHeartbeats 2000000 in
theorem Low_any (n m : Nat) (w : World) (hn : n ≤ 2147483647) (hm : m ≤ 32) :
    Calls Tryd.prog 26 #[.int .i64 n, .int .i64 m] w fun e w' => e = .returned (.string ⟨(Gm.low n m).toArray⟩) ∧ Below w.heap.size w w' := by
  obtain ⟨i0, hi, hz0, hz1, hz2⟩ := info_parts Tryd.infoU8g
  go_enter Tryd.func26, Tryd.ntmps26
  go_wp2_with (at_make; refine wpList_make_full _ rfl _ _ _ rfl w.heap.size 5 i0 (.int .u8 0) 1 Tryd.underlying32 hi hz0 hz1 .i64 .i64 (m : Int) (m : Int) m rfl rfl rfl rfl (by rw [hz2]; omega) (by unfold maxLen; omega) (Nat.le_refl _) ?_)
  intro w1 hown hg
  have hc : ∀ j, j < m → w1.cell? ⟨w.heap.size, j, none⟩ = some (.int .u8 (lowAt n m 0 j)) := by
    intro j hj
    have h := hown.cells (g := w.heap.size) rfl j (.int .u8 0) (by rw [toList_madeCells_one]; simp [hj])
    rw [addr_off] at h
    rw [h]; rfl
  have hf : ∀ j, w1.frozen? ⟨w.heap.size, j, none⟩ = false := by
    intro j
    rcases hown.2 with ⟨h, _⟩ | ⟨g', cap, cur, hv, _, hh, _⟩
    · cases h
    · cases hv
      unfold World.frozen?
      rw [hh]
      simp
  have hb0 : Below w.heap.size w w1 := (Below.refl _ w).grown hg (Nat.le_refl _) (fun k hk => by cases hk)
  have HC := Lib.hid hc; have HF := Lib.hid hf; have HB := Lib.hid hb0
  clear hown hg hc hf hb0 hi hz0 hz1 hz2
  go_wp2_with fail
  go_loopw [11] (fun i wr => ∃ k : Nat, k ≤ m ∧ i = .int .i64 k ∧ Hid (∀ j, j < m → wr.cell? ⟨w.heap.size, j, none⟩ = some (.int .u8 (lowAt n m k j))) ∧ Hid (∀ j, wr.frozen? ⟨w.heap.size, j, none⟩ = false) ∧ Hid (Below w.heap.size w wr))
    (fun i _ => m - (intOf i).toNat)
  case atStart => exact ⟨0, Nat.zero_le _, rfl, HC, HF, HB⟩
  case round =>
    obtain ⟨k, hk, rfl, hC, hF, hB⟩ := hrel
    by_cases hlt : k < m
    · obtain ⟨j0, hj0⟩ : ∃ j0, j0 = m - 1 - k := ⟨_, rfl⟩
      have hji : (m : Int) - 1 - (k : Int) = (j0 : Int) := by omega
      obtain ⟨b, hb⟩ : ∃ b, b = n / 2 ^ j0 % 2 := ⟨_, rfl⟩
      have hle : n / 2 ^ j0 ≤ n := Nat.div_le_self _ _
      have hand : bits .and .i64 ((n : Int) / 2 ^ j0) 1 = (b : Int) := by
        rw [shr_nat, i64_and_one _ (by omega), hb]
      have hb2 : b < 2 := by omega
      have hj31 : j0 ≤ 31 := by omega
      have hld : wr.cell? ⟨w.heap.size, k, none⟩ = some (.int .u8 (lowAt n m k k)) := hC.out k hlt
      have hfr : wr.frozen? ⟨w.heap.size, k, none⟩ = false := hF.out k
      have hv : ((Gm.bit n m k).toNat : Int) = 48 + (b : Int) := by rw [bit_val, ← hj0, ← hb]
      have HV := Lib.hid hv; have HJ := Lib.hid hj0; have HBB := Lib.hid hb
      clear hv hj0 hb hle
      go_wp2_with fail
      go_round
      case rel =>
        refine ⟨k + 1, hlt, by go_num, Lib.hid fun j hj => ?_, Lib.hid fun j => by rw [World.frozen?_setCell]; exact hF.out j, Lib.hid (hB.out.setCell (Nat.le_refl _) _)⟩
        by_cases hjk : j = k
        · subst hjk
          rw [World.cell?_setCell_same _ _ _ hld, show lowAt n m (j + 1) j = ((Gm.bit n m j).toNat : Int) from if_pos (by omega), HV.out]
        · rw [World.cell?_setCell_other _ _ _ _ (by simp), hC.out j hj]
          have : lowAt n m (k + 1) j = lowAt n m k j := by
            unfold lowAt
            by_cases h : j < k
            · rw [if_pos h, if_pos (by omega)]
            · rw [if_neg h, if_neg (by omega)]
          rw [this]
      case measure => simp [intOf]; omega
    · obtain rfl : k = m := by omega
      have hlen : (Gm.low n k).length = k := Gm.low_length n k
      have hcells : ∀ (j : Nat) (hj : j < (Gm.low n k).length), wr.cell? ((⟨w.heap.size, 0, none⟩ : Addr).add j) = some (.int .u8 ((Gm.low n k)[j].toNat : Int)) := by
        intro j hj
        rw [addr_off, hC.out j (by omega)]
        rw [show lowAt n k k j = ((Gm.bit n k j).toNat : Int) from if_pos (by omega)]
        simp [Gm.low]
      have hcv := run_convert_bytes_back (P := Tryd.prog) wr 32 9 5 ⟨w.heap.size, 0, none⟩ k (Gm.low n k) Tryd.underlying32 Tryd.underlying5 Tryd.underlying9 hcells
      rw [hlen] at hcv
      clear hcells hlen hC hF
      go_wp2_with fail
      go_ret
      exact ⟨rfl, hB.out⟩

set_option maxRecDepth 100000 in
set_option maxHeartbeats 1000000 in
theorem bitsLen_any (n : Nat) (w : World) (hn : n ≤ 2147483647) :
    Calls Tryd.prog 52 #[.int .u64 n] w fun e w' => e = .returned (.int .i64 (G.L n)) ∧ w = w' := by
  refine (Tryd.bits_Len n w (by omega) (by omega)).mono ?_
  rintro e w' ⟨rfl, rfl⟩
  rw [Int.toNat_natCast, bitLen_L n (by omega)]
  exact ⟨rfl, rfl⟩

theorem rep_zero (k : Nat) : Lib.repeatL (⟨#[48]⟩ : ByteArray).data.toList k = List.replicate k 48 := by
  induction k with
  | zero => rfl
  | succ k ih => rw [Lib.repeatL, ih]; rfl

set_option maxRecDepth 100000 in
set_option maxHeartbeats 1000000 in
theorem plain_any (n : Nat) (w : World) (h0 : n ≠ 0) (hn : n ≤ 2147483647) :
    Calls Tryd.prog 39 #[.int .i64 n] w fun e w' => e = .returned (.string ⟨(Gm.plain n).toArray⟩) ∧ Below w.heap.size w w' := by
  have hl := G.L_pos.2 h0
  have hl2 : G.L n ≤ 31 := G.L_le.2 (by omega)
  have B1 : Ans1 52 #[.int .u64 n] (.int .i64 (G.L n)) := fun w => bitsLen_any n w hn
  have hp : Gm.plain n = List.replicate (G.L n - 1) 48 ++ Gm.low n (G.L n) := rfl
  have hll := Gm.low_length n (G.L n)
  generalize G.L n = k at *
  obtain ⟨j, hj⟩ : ∃ j, k = j + 1 := ⟨k - 1, by omega⟩
  subst hj
  have R1 : ∀ w, Calls Tryd.prog 30 #[.string ⟨#[48]⟩, .int .i64 j] w fun e w' => e = .returned (.string ⟨(List.replicate j 48).toArray⟩) ∧ Below w.heap.size w w' := fun w => by
    have := Tryd.strings_Repeat ⟨#[48]⟩ j w (by omega) (by show 1 * j ≤ _; omega)
    rwa [rep_zero] at this
  have L1 : ∀ w, Calls Tryd.prog 26 #[.int .i64 n, .int .i64 ((j : Int) + 1)] w fun e w' => e = .returned (.string ⟨(Gm.low n (j + 1)).toArray⟩) ∧ Below w.heap.size w w' := fun w => Low_any n (j + 1) w hn (by omega)
  obtain ⟨X, hX⟩ : ∃ X : ByteArray, X = ⟨(List.replicate j 48).toArray⟩ := ⟨_, rfl⟩
  obtain ⟨Y, hY⟩ : ∃ Y : ByteArray, Y = ⟨(Gm.low n (j + 1)).toArray⟩ := ⟨_, rfl⟩
  have hres : X ++ Y = ⟨(Gm.plain n).toArray⟩ := by
    apply ByteArray.ext
    apply Array.toList_inj.mp
    rw [hp, hX, hY]
    simp
  have hXs : X.size = j := by rw [hX]; show (List.toArray _).size = _; rw [List.size_toArray, List.length_replicate]
  have hYs : Y.size = j + 1 := by rw [hY]; show (List.toArray _).size = _; rw [List.size_toArray, hll]
  rw [← hX] at R1; rw [← hY] at L1; rw [← hres]
  clear hX hY hres hp hll hl
  go_enter Tryd.func39, Tryd.ntmps39
  go_wp2_with fail
  with_reducible refine B1.use ?_
  rintro e w' ⟨rfl, rfl⟩
  go_wp2_with fail
  with_reducible refine (R1 _).mono ?_
  rintro e w1 ⟨rfl, hb1⟩
  go_wp2_with fail
  with_reducible refine (L1 _).mono ?_
  rintro e w2 ⟨rfl, hb2⟩
  have HB := Lib.hid (hb1.trans (hb2.mono hb1.size))
  clear hb1 hb2
  go_wp2_with fail
  go_ret
  exact ⟨rfl, HB.out⟩

set_option maxHeartbeats 1000000 in
theorem Gamma_ok (n : Nat) (w : World) (h0 : 1 ≤ n) (hn : n ≤ 2147483647) :
    Calls Tryd.prog 27 #[.int .i64 n] w fun e w' => e = .returned (.tuple #[.string ⟨(Gm.plain n).toArray⟩, .int .i64 0]) ∧ Below w.heap.size w w' := by
  have P1 : ∀ w, Calls Tryd.prog 39 #[.int .i64 n] w fun e w' => e = .returned (.string ⟨(Gm.plain n).toArray⟩) ∧ Below w.heap.size w w' := fun w => plain_any n w (by omega) hn
  generalize (⟨(Gm.plain n).toArray⟩ : ByteArray) = X at *
  go_enter Tryd.func27, Tryd.ntmps27
  go_wp2_with fail
  with_reducible refine (P1 _).mono ?_
  rintro e w1 ⟨rfl, hb1⟩
  go_wp2_with fail
  go_ret2
  exact ⟨rfl, hb1⟩

/-- What a call leaves: a text, no error. -/
def TextAns (f : Nat) (n : Int) (t : ByteArray) : Prop := ∀ w, Calls Tryd.prog f #[.int .i64 n] w fun e w' => e = .returned (.tuple #[.string t, .int .i64 0]) ∧ Below w.heap.size w w'

theorem TextAns.use {f : Nat} {n : Int} {t : ByteArray} {w : World} {R : Ending → World → Prop} (h : TextAns f n t)
    (hR : ∀ e w', e = .returned (.tuple #[.string t, .int .i64 0]) ∧ Below w.heap.size w w' → R e w') : Calls Tryd.prog f #[.int .i64 n] w R := (h w).mono hR

end Go.Proofs.YtkdcapjnoapjgaaDoor
