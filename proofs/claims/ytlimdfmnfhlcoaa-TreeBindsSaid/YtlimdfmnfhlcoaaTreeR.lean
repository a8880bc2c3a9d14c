/- The walks of woolref.Four and woolref.Said: the reference's own words for a pair. -/
import Derived.Test.YtlimdfmnfhlcoaaTreeW2
namespace Go.Proofs.Ytlimdfmnfhlcoaa
open Go.RowKit

set_option maxRecDepth 100000 in
set_option maxHeartbeats 1000000 in
theorem Four_any (p : Nat) (w : World) (hpb : p ≤ 2147483647) :
    Calls Try.prog 28 #[.int .i64 p] w fun e w' => e = .returned (.string ⟨(Tr.four p).toArray⟩) ∧ Below w.heap.size w w' := by
  unfold Tr.four
  obtain ⟨B0, h0⟩ : ∃ x, x = UInt8.ofNat (p / 16777216) := ⟨_, rfl⟩
  obtain ⟨B1, h1⟩ : ∃ x, x = UInt8.ofNat (p / 65536) := ⟨_, rfl⟩
  obtain ⟨B2, h2⟩ : ∃ x, x = UInt8.ofNat (p / 256) := ⟨_, rfl⟩
  obtain ⟨B3, h3⟩ : ∃ x, x = UInt8.ofNat p := ⟨_, rfl⟩
  have x0 : (p : Int) / 16777216 = (B0.toNat : Int) := by rw [h0, UInt8.toNat_ofNat']; omega
  have x1 : (p : Int) / 65536 % 256 = (B1.toNat : Int) := by rw [h1, UInt8.toNat_ofNat']; omega
  have x2 : (p : Int) / 256 % 256 = (B2.toNat : Int) := by rw [h2, UInt8.toNat_ofNat']; omega
  have x3 : (p : Int) % 256 = (B3.toNat : Int) := by rw [h3, UInt8.toNat_ofNat']; omega
  rw [← h0, ← h1, ← h2, ← h3]
  clear h0 h1 h2 h3
  obtain ⟨W, hW⟩ : ∃ W, W = w.alloc (.cells #[.int .u8 (B0.toNat : Int), .int .u8 (B1.toNat : Int), .int .u8 (B2.toNat : Int), .int .u8 (B3.toNat : Int)] 5) := ⟨_, rfl⟩
  have hB : Below w.heap.size w W := by rw [hW]; exact (Below.refl _ w).alloc (Nat.le_refl _) _
  have hcells : ∀ (j : Nat) (hj : j < [B0, B1, B2, B3].length), W.cell? ((⟨w.heap.size, 0, none⟩ : Addr).add j) = some (.int .u8 (([B0, B1, B2, B3][j]).toNat : Int)) := by
    intro j hj
    rw [addr_add, hW]
    rcases j with _ | _ | _ | _ | j
    · exact cell_new w (k := 0) rfl
    · exact cell_new w (k := 1) rfl
    · exact cell_new w (k := 2) rfl
    · exact cell_new w (k := 3) rfl
    · exact absurd hj (by simp)
  have hcv := run_convert_bytes_back (P := Try.prog) W 69 9 5 ⟨w.heap.size, 0, none⟩ 4 [B0, B1, B2, B3] Try.underlying69 Try.underlying5 Try.underlying9 hcells
  rw [show [B0, B1, B2, B3].length = 4 from rfl, hW] at hcv
  have HB := Lib.hid hB
  clear hcells hB
  go_enter Try.func28, Try.ntmps28
  go_wp2_with fail
  go_ret
  exact ⟨rfl, by rw [← hW]; exact HB.out⟩

set_option maxRecDepth 100000 in
set_option maxHeartbeats 1000000 in
theorem Said_any (p q : Nat) (w : World) (hp : p ≤ 2147483647) (hq : q ≤ 2147483647) :
    Calls Try.prog 13 #[.int .i64 p, .int .i64 q] w fun e w' => e = .returned (.string ⟨(Tr.said p q).toArray⟩) ∧ Below w.heap.size w w' := by
  have P1 : ∀ w, Calls Try.prog 28 #[.int .i64 p] w fun e w' => e = .returned (.string ⟨(Tr.four p).toArray⟩) ∧ Below w.heap.size w w' := fun w => Four_any p w hp
  have P2 : ∀ w, Calls Try.prog 28 #[.int .i64 q] w fun e w' => e = .returned (.string ⟨(Tr.four q).toArray⟩) ∧ Below w.heap.size w w' := fun w => Four_any q w hq
  obtain ⟨X, hX⟩ : ∃ X : ByteArray, X = ⟨(Tr.four p).toArray⟩ := ⟨_, rfl⟩
  obtain ⟨Y, hY⟩ : ∃ Y : ByteArray, Y = ⟨(Tr.four q).toArray⟩ := ⟨_, rfl⟩
  have hXs : X.size = 4 := by rw [hX]; rfl
  have hYs : Y.size = 4 := by rw [hY]; rfl
  have hres : (⟨#[110]⟩ : ByteArray) ++ X ++ Y = ⟨(Tr.said p q).toArray⟩ := by
    apply ByteArray.ext
    apply Array.toList_inj.mp
    rw [hX, hY]
    simp [Tr.said]
  rw [← hX] at P1; rw [← hY] at P2; rw [← hres]
  clear hX hY hres
  go_enter Try.func13, Try.ntmps13
  go_wp2_with fail
  with_reducible refine (P1 _).mono ?_
  rintro e w1 ⟨rfl, hb1⟩
  go_wp2_with fail
  with_reducible refine (P2 _).mono ?_
  rintro e w2 ⟨rfl, hb2⟩
  have HB := Lib.hid (hb1.trans (hb2.mono hb1.size))
  clear hb1 hb2
  go_wp2_with fail
  go_ret
  exact ⟨rfl, HB.out⟩

end Go.Proofs.Ytlimdfmnfhlcoaa
