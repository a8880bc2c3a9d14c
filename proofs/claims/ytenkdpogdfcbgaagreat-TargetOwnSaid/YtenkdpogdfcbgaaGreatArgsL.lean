/- What a walk is told of a slice of slices of integers that came in. -/
import Derived.Test.YtenkdpogdfcbgaaGreatArgsC
import Derived.Deep.Slices
import Derived.Deep.Fields
import Derived.Lib.SmallJoins
import Derived.ChangeSame
import Derived.SliceStrings
namespace Go.Proofs.YtenkdpogdfcbgaaGreat
open Go.RowKit Go.ChangeShapes Go.WideShapes Go.Deep Go.Joins

section
variable {H : Type} {enc : TypeId × Value → H} {P : Program} {w : World} {base : Nat} {spare : Nat → Bool} {held : Bool}
theorem open_row {t i : TypeId} {fuel : Nat} {cs : List Value} {x : DataW H × List MemPlace} (ht : P.underlying t = some (.slice i)) (hi : P.underlying i = some (.int .i64)) (hC : P.cellsOf i = 1)
    (h : DataW.trod enc P w base spare held fuel t cs = some x) : ∃ a len cap f, cs = [.slice a len cap] ∧ CArg w a len f := by
  rcases open_slice ht h with ⟨h0, _⟩ | ⟨a, len, cap, m, n, D, Pl, hcs, hb, hl, hm, hmm, hx, hi'⟩
  · exact ⟨none, 0, 0, fun _ => 0, h0, ⟨fun i hi => absurd hi (Nat.not_lt_zero _), fun _ _ => rfl, Nat.zero_le _⟩⟩
  · have each : ∀ j, j < len → ∃ z : Int, w.cell? (a.add j) = some (.int .i64 z) := by
      intro j hj
      obtain ⟨cs', hc, ht'⟩ := hi' j (by rw [hmm]; split <;> omega)
      rw [hC, Nat.mul_one] at hc
      obtain ⟨_, hcl, hat⟩ := World.cells?_some hc
      match cs', hcl with
      | [v0], _ =>
        obtain ⟨z0, e0, -, w0⟩ := DataW.trod_int hi ht'
        obtain rfl : v0 = .int .i64 z0 := by simpa using e0
        have c0 := hat 0 (by decide)
        rw [Go.Deep.add_add, Nat.add_zero] at c0
        exact ⟨z0, c0⟩
    obtain ⟨Z, hZ, hZ0⟩ : ∃ Z : Nat → Int, (∀ j, j < len → w.cell? (a.add j) = some (.int .i64 (Z j))) ∧ ∀ j, len ≤ j → Z j = 0 :=
      ⟨fun j => if hj : j < len then Classical.choose (each j hj) else 0, fun j hj => by simp only [dif_pos hj]; exact Classical.choose_spec (each j hj), fun j hj => by simp only [dif_neg (Nat.not_lt.2 hj)]⟩
    exact ⟨some a, len, cap, Z, hcs, ⟨fun j hj => ⟨a, rfl, by have := World.block_lt_of_cell? w _ (hZ j hj); rwa [addr_block] at this, hZ j hj⟩, hZ0, Nat.le_trans hl hm⟩⟩

theorem open_rows {t e i : TypeId} {fuel : Nat} {cs : List Value} {x : DataW H × List MemPlace} (ht : P.underlying t = some (.slice e)) (he : P.underlying e = some (.slice i)) (hi : P.underlying i = some (.int .i64)) (hCe : P.cellsOf e = 1) (hC : P.cellsOf i = 1)
    (h : DataW.trod enc P w base spare held fuel t cs = some x) : ∃ a len cap F, cs = [.slice a len cap] ∧ LArg w a len cap F := by
  rcases open_slice ht h with ⟨h0, _⟩ | ⟨a, len, cap, m, n, D, Pl, hcs, hb, hl, hm, hmm, hx, hi'⟩
  · exact ⟨none, 0, 0, fun _ _ => 0, h0, ⟨fun i hi => absurd hi (Nat.not_lt_zero _), Nat.le_refl _, Nat.zero_le _⟩⟩
  · have each : ∀ j, j < len → ∃ (f : Nat → Int) (b : Option Addr) (nc cc : Nat), w.cell? (a.add j) = some (.slice b nc cc) ∧ CArg w b nc f := by
      intro j hj
      obtain ⟨cs', hc, ht'⟩ := hi' j (by rw [hmm]; split <;> omega)
      rw [hCe, Nat.mul_one] at hc
      obtain ⟨_, hcl, hat⟩ := World.cells?_some hc
      match cs', hcl with
      | [v0], _ =>
        obtain ⟨b, nc, cc, f, e0, hc0⟩ := open_row he hi hC ht'
        obtain rfl : v0 = .slice b nc cc := by simpa using e0
        have c0 := hat 0 (by decide)
        rw [Go.Deep.add_add, Nat.add_zero] at c0
        exact ⟨f, b, nc, cc, c0, hc0⟩
    obtain ⟨F, hF⟩ : ∃ F : Nat → Nat → Int, ∀ j, j < len → ∃ (b : Option Addr) (nc cc : Nat), w.cell? (a.add j) = some (.slice b nc cc) ∧ CArg w b nc (F j) :=
      ⟨fun j => if hj : j < len then Classical.choose (each j hj) else fun _ => 0, fun j hj => by simp only [dif_pos hj]; exact Classical.choose_spec (each j hj)⟩
    refine ⟨some a, len, cap, F, hcs, ⟨fun j hj => ?_, hl, hm⟩⟩
    obtain ⟨b, nc, cc, h1, h2⟩ := hF j hj
    exact ⟨a, b, nc, cc, rfl, by have := World.block_lt_of_cell? w _ h1; rwa [addr_block] at this, h1, h2⟩
end

end Go.Proofs.YtenkdpogdfcbgaaGreat
