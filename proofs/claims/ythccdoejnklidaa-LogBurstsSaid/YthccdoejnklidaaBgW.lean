/- The walks of bag.one and bag.Check. -/
import Derived.Test.YthccdoejnklidaaBgP2
import Derived.Deep.RegionWith
namespace Go.Proofs.Ythccdoejnklidaa
open Go.RowKit

theorem new4 {w V : World} {T : TypeId} {x y q : Int} {z : ByteArray} (hb : Below (w.alloc (.cells #[.int .i64 x, .int .i64 y, .string z, .int .i64 q] T)).heap.size (w.alloc (.cells #[.int .i64 x, .int .i64 y, .string z, .int .i64 q] T)) V) :
    V.cell? ⟨w.heap.size, 0, none⟩ = some (.int .i64 x) ∧ V.cell? ⟨w.heap.size, 1, none⟩ = some (.int .i64 y) ∧ V.cell? ⟨w.heap.size, 2, none⟩ = some (.string z) ∧ V.cell? ⟨w.heap.size, 3, none⟩ = some (.int .i64 q) := by
  have k : ∀ {p : Addr} {v : Value}, (w.alloc (.cells #[.int .i64 x, .int .i64 y, .string z, .int .i64 q] T)).cell? p = some v → V.cell? p = some v := fun h => by rw [hb.cell (World.block_lt_of_cell? _ _ h)]; exact h
  exact ⟨k (cell_new w (k := 0) rfl), k (cell_new w (k := 1) rfl), k (cell_new w (k := 2) rfl), k (cell_new w (k := 3) rfl)⟩

theorem Plain_I (t : ByteArray) (ht : t.size ≤ maxLen) : Ans1 52 #[.int .i64 65581, .string t] (.int .i64 (Bg.Pr t)) := fun w => Plain_any 65581 t w (by omega) (by omega) ht

set_option maxRecDepth 100000 in
set_option maxHeartbeats 4000000 in
theorem one_I (x y q : Int) (z : ByteArray) (w : World) (hz : z.size ≤ maxLen) :
    Calls Try.prog 37 #[.agg #[.int .i64 x, .int .i64 y, .string z, .int .i64 q]] w fun e w' => e = .returned (.int .i64 (Bg.oneE Bg.Pr ⟨x, y, z, q⟩)) ∧ Below w.heap.size w w' := by
  have PL := Plain_I z hz
  have HB : Hid (Below w.heap.size w (w.alloc (.cells #[.int .i64 x, .int .i64 y, .string z, .int .i64 q] 61))) := Lib.hid ((Below.refl _ w).alloc (Nat.le_refl _) _)
  obtain ⟨r, hr⟩ : ∃ r, Bg.oneE Bg.Pr ⟨x, y, z, q⟩ = r := ⟨_, rfl⟩
  rw [hr]
  have HR := Lib.hid hr
  clear hr
  unfold maxLen at hz
  by_cases h6 : 64 < z.size
  · obtain rfl : r = 2 := by rw [← HR.out]; unfold Bg.oneE; rw [if_pos h6]
    clear HR PL
    go_enter Try.func37, Try.ntmps37
    go_wp2_with fail
    go_ret
    exact ⟨rfl, HB.out⟩
  · by_cases hs : x = Bg.Pr z
    · have hb : (x != Bg.Pr z) = false := by rw [hs]; exact bne_self_eq_false _
      by_cases h3 : y < 0 ∨ 64 ≤ y ∨ q < 1 ∨ 1000000 < q
      · obtain rfl : r = 1 := by rw [← HR.out]; unfold Bg.oneE; rw [if_neg h6, if_neg (fun h => h hs), if_pos h3]
        clear HR hs
        generalize Bg.Pr z = p at *
        have h4 : y < 0 ∨ (0 ≤ y ∧ 64 ≤ y) ∨ (0 ≤ y ∧ y < 64 ∧ q < 1) ∨ (0 ≤ y ∧ y < 64 ∧ 1 ≤ q ∧ 1000000 < q) := by omega
        clear h3
        rcases h4 with h4 | ⟨h4, h5⟩ | ⟨h4, h5, h7⟩ | ⟨h4, h5, h7, h8⟩
        all_goals
          go_enter Try.func37, Try.ntmps37
          go_wp2_with fail
          go_region_with (go_at_call 52; refine (PL _).mono ?_; rintro e w' ⟨rfl, rfl⟩)
          all_goals
            go_wp2_with fail
            go_ret
            exact ⟨rfl, HB.out.drew⟩
      · obtain rfl : r = 0 := by rw [← HR.out]; unfold Bg.oneE; rw [if_neg h6, if_neg (fun h => h hs), if_neg h3]
        clear HR hs
        generalize Bg.Pr z = p at *
        have h4 : 0 ≤ y := by omega
        have h5 : y < 64 := by omega
        have h7 : 1 ≤ q := by omega
        have h8 : q ≤ 1000000 := by omega
        clear h3
        go_enter Try.func37, Try.ntmps37
        go_wp2_with fail
        go_region_with (go_at_call 52; refine (PL _).mono ?_; rintro e w' ⟨rfl, rfl⟩)
        all_goals
          go_wp2_with fail
          go_ret
          exact ⟨rfl, HB.out.drew⟩
    · have hb : (x != Bg.Pr z) = true := bne_iff_ne.2 hs
      obtain rfl : r = 6 := by rw [← HR.out]; unfold Bg.oneE; rw [if_neg h6, if_pos hs]
      clear HR hs
      generalize Bg.Pr z = p at *
      go_enter Try.func37, Try.ntmps37
      go_wp2_with fail
      go_region_with (go_at_call 52; refine (PL _).mono ?_; rintro e w' ⟨rfl, rfl⟩)
      all_goals
        go_wp2_with fail
        go_ret
        exact ⟨rfl, HB.out.drew⟩

end Go.Proofs.Ythccdoejnklidaa
