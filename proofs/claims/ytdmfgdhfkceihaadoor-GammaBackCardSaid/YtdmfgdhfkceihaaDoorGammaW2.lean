/- The walk of gamma.Delta. -/
import Derived.Test.YtdmfgdhfkceihaaDoorGammaW
namespace Go.Proofs.YtdmfgdhfkceihaaDoor
open Go.RowKit

set_option maxRecDepth 100000 in
set_option maxHeartbeats 1000000 in
theorem Delta_ok (n : Nat) (w : World) (h0 : 1 ≤ n) (hn : n ≤ 2147483647) :
    Calls Tryd.prog 10 #[.int .i64 n] w fun e w' => e = .returned (.tuple #[.string ⟨(Gm.delta n).toArray⟩, .int .i64 0]) ∧ Below w.heap.size w w' := by
  have hl := G.L_pos.2 (show n ≠ 0 by omega)
  have hl2 : G.L n ≤ 31 := G.L_le.2 (by omega)
  have B1 : Ans1 24 #[.int .u64 n] (.int .i64 (G.L n)) := fun w => bitsLen_any n w hn
  have hd : Gm.delta n = Gm.plain (G.L n) ++ Gm.low n (G.L n - 1) := rfl
  have hl1 := Gm.low_length n (G.L n - 1)
  have hl3 := Gm.plain_length (G.L n) (by omega)
  have hll : G.L (G.L n) ≤ 31 := G.L_le.2 (by omega)
  generalize G.L n = k at *
  obtain ⟨j, hj⟩ : ∃ j, k = j + 1 := ⟨k - 1, by omega⟩
  subst hj
  have P1 : ∀ w, Calls Tryd.prog 23 #[.int .i64 ((j : Int) + 1)] w fun e w' => e = .returned (.string ⟨(Gm.plain (j + 1)).toArray⟩) ∧ Below w.heap.size w w' := fun w => plain_any (j + 1) w (by omega) (by omega)
  have L1 : ∀ w, Calls Tryd.prog 25 #[.int .i64 n, .int .i64 j] w fun e w' => e = .returned (.string ⟨(Gm.low n j).toArray⟩) ∧ Below w.heap.size w w' := fun w => Low_any n j w hn (by omega)
  obtain ⟨X, hX⟩ : ∃ X : ByteArray, X = ⟨(Gm.plain (j + 1)).toArray⟩ := ⟨_, rfl⟩
  obtain ⟨Y, hY⟩ : ∃ Y : ByteArray, Y = ⟨(Gm.low n j).toArray⟩ := ⟨_, rfl⟩
  have hres : X ++ Y = ⟨(Gm.delta n).toArray⟩ := by
    apply ByteArray.ext
    apply Array.toList_inj.mp
    rw [hd, hX, hY]
    simp
  have hXs : X.size ≤ 100 := by rw [hX]; show (List.toArray _).size ≤ _; rw [List.size_toArray, hl3]; omega
  have hYs : Y.size = j := by rw [hY]; show (List.toArray _).size = _; rw [List.size_toArray]; exact hl1
  rw [← hX] at P1; rw [← hY] at L1; rw [← hres]
  clear hX hY hres hd hl1 hl3 hll hl
  go_enter Tryd.func10, Tryd.ntmps10
  go_wp2_with fail
  with_reducible refine B1.use ?_
  rintro e w' ⟨rfl, rfl⟩
  go_wp2_with fail
  with_reducible refine (P1 _).mono ?_
  rintro e w1 ⟨rfl, hb1⟩
  go_wp2_with fail
  with_reducible refine (L1 _).mono ?_
  rintro e w2 ⟨rfl, hb2⟩
  have HB := Lib.hid (hb1.trans (hb2.mono hb1.size))
  clear hb1 hb2
  go_wp2_with fail
  go_ret2
  exact ⟨rfl, HB.out⟩

end Go.Proofs.YtdmfgdhfkceihaaDoor
