/- The walks of bag.Find, bag.Get, bag.Drop. -/
import Derived.Test.YteddendidjhmbaaBgW2
namespace Go.Proofs.Yteddendidjhmbaa
open Go.RowKit

theorem eg_find : ∀ args w, (callFunc 86 args).run Try.prog w = .ok (.enter 86 args) w := enters_of Try.func86 (by kernel_rfl) rfl

theorem pred_find (w : World) (B : Nat) (id : Bg.Id) (hB : B < w.heap.size) (c0 : w.cell? ⟨B, 0, none⟩ = some (.bool id.is)) (c1 : w.cell? ⟨B, 1, none⟩ = some (.int .i64 id.sum)) (c2 : w.cell? ⟨B, 2, none⟩ = some (.int .i64 id.n)) :
    PredI w 86 #[.pointer (some ⟨B, 0, none⟩)] (Bg.hit id) := fun W x y q z hb => by
  have hk : ∀ {j v}, w.cell? ⟨B, j, none⟩ = some v → W.cell? ⟨B, j, none⟩ = some v := fun {j v} h => (hb.cell (p := ⟨B, j, none⟩) hB).trans h
  have c0' := hk c0
  have c1' := hk c1
  have c2' := hk c2
  have hBW : B < W.heap.size := Nat.lt_of_lt_of_le hB hb.size
  have HB := Lib.hid hb
  have HR : ∀ b, Bg.hit id ⟨x, y, z, q⟩ = b → Hid (Ending.returned (.bool b) = Ending.returned (.bool (Bg.hit id ⟨x, y, z, q⟩))) := fun b h => Lib.hid (by rw [h])
  unfold Bg.hit at HR
  obtain ⟨i0, i1, i2⟩ := id
  dsimp only at c0' c1' c2' HR
  clear hb c0 c1 c2 hB hk
  show Calls Try.prog 86 #[.agg #[.int .i64 x, .int .i64 y, .string z, .int .i64 q], .pointer (some ⟨B, 0, none⟩)] W _
  cases i0 with
  | false =>
    have HE := HR false rfl
    clear HR
    go_enter Try.func86, Try.ntmps86
    go_wp2_with fail
    go_ret
    exact ⟨HE.out, HB.out.alloc HB.out.size _⟩
  | true =>
    by_cases h1 : x = i1
    · by_cases h2 : y = i2
      · have HE := HR true (by rw [beq_iff_eq.2 h1, beq_iff_eq.2 h2]; rfl)
        subst h1; subst h2
        clear HR
        go_enter Try.func86, Try.ntmps86
        go_wp2_with fail
        go_ret
        exact ⟨HE.out, HB.out.alloc HB.out.size _⟩
      · have HE := HR false (by rw [beq_eq_false_iff_ne.2 h2, Bool.and_false]; rfl)
        subst h1
        have hb2 : (y == i2) = false := beq_eq_false_iff_ne.2 h2
        clear HR h2
        go_enter Try.func86, Try.ntmps86
        go_wp2_with fail
        go_ret
        exact ⟨HE.out, HB.out.alloc HB.out.size _⟩
    · have HE := HR false (by rw [beq_eq_false_iff_ne.2 h1]; rfl)
      have hb2 : (x == i1) = false := beq_eq_false_iff_ne.2 h1
      clear HR h1
      go_enter Try.func86, Try.ntmps86
      go_wp2_with fail
      go_ret
      exact ⟨HE.out, HB.out.alloc HB.out.size _⟩

theorem new3 {w V : World} {T : TypeId} {b : Bool} {x y : Int} (hb : Below (w.alloc (.cells #[.bool b, .int .i64 x, .int .i64 y] T)).heap.size (w.alloc (.cells #[.bool b, .int .i64 x, .int .i64 y] T)) V) :
    V.cell? ⟨w.heap.size, 0, none⟩ = some (.bool b) ∧ V.cell? ⟨w.heap.size, 1, none⟩ = some (.int .i64 x) ∧ V.cell? ⟨w.heap.size, 2, none⟩ = some (.int .i64 y) := by
  have k : ∀ {p : Addr} {v : Value}, (w.alloc (.cells #[.bool b, .int .i64 x, .int .i64 y] T)).cell? p = some v → V.cell? p = some v := fun h => by rw [hb.cell (World.block_lt_of_cell? _ _ h)]; exact h
  exact ⟨k (cell_new w (k := 0) rfl), k (cell_new w (k := 1) rfl), k (cell_new w (k := 2) rfl)⟩

set_option maxHeartbeats 1000000 in
theorem Find_I (a : Option Addr) (n c : Nat) (ts : List Bg.It) (i : Bool) (x y : Int) (w : World) (hT : ISl w a n c ts) (hn : n ≤ 1099511627776) :
    Calls Try.prog 61 #[.slice a n c, .agg #[.bool i, .int .i64 x, .int .i64 y]] w fun e w' => e = .returned (.int .i64 (idx (Bg.hit ⟨i, x, y⟩) ts)) ∧ Below w.heap.size w w' := by
  have hB0 : Below w.heap.size w (w.alloc (.cells #[.bool i, .int .i64 x, .int .i64 y] 26)) := (Below.refl _ w).alloc (Nat.le_refl _) _
  obtain ⟨n0, n1, n2⟩ := new3 (Below.refl _ (w.alloc (.cells #[.bool i, .int .i64 x, .int .i64 y] 26)))
  have I1 := IndexFunc_I a n c ts _ #[.pointer (some ⟨w.heap.size, 0, none⟩)] (Bg.hit ⟨i, x, y⟩) _ (by omega) eg_find (hT.keep hB0) (pred_find _ w.heap.size ⟨i, x, y⟩ (by rw [World.size_alloc]; omega) n0 n1 n2)
  have HB := Lib.hid hB0
  clear n0 n1 n2 hB0 hT
  generalize idx (Bg.hit ⟨i, x, y⟩) ts = r at *
  go_enter Try.func61, Try.ntmps61
  go_wp2_with fail
  with_reducible refine I1.mono ?_
  rintro e w' ⟨rfl, hb⟩
  go_wp2_with fail
  go_ret
  exact ⟨rfl, HB.out.trans (hb.mono HB.out.size)⟩

end Go.Proofs.Yteddendidjhmbaa
