/- Rows of numbers that came in, and rows of rows. -/
import Derived.Test.YtenkdpogdfcbgaaGreatUse
namespace Go.Proofs.YtenkdpogdfcbgaaGreat
open Go.RowKit

/-- A row of numbers that came in, read with 0 behind its end. -/
structure CArg (w : World) (c : Option Addr) (nc : Nat) (f : Nat → Int) : Prop where
  cell : ∀ i, i < nc → ∃ x, c = some x ∧ x.block < w.heap.size ∧ w.cell? (x.add i) = some (.int .i64 (f i))
  zero : ∀ i, nc ≤ i → f i = 0
  max : nc ≤ maxLen

theorem addr_block (x : Addr) (i : Nat) : (x.add i).block = x.block := by
  unfold Addr.add
  split <;> rfl

theorem CArg.keep {w w' : World} {c : Option Addr} {nc : Nat} {f : Nat → Int} (h : CArg w c nc f) (hb : Below w.heap.size w w') : CArg w' c nc f :=
  ⟨fun i hi => by
    obtain ⟨x, h1, h2, h3⟩ := h.cell i hi
    exact ⟨x, h1, Nat.lt_of_lt_of_le h2 hb.size, by rw [hb.cell (p := x.add i) (by rw [addr_block]; exact h2)]; exact h3⟩, h.zero, h.max⟩

/-- Rows of numbers that came in. -/
structure LArg (w : World) (L : Option Addr) (nl cl : Nat) (F : Nat → Nat → Int) : Prop where
  row : ∀ i, i < nl → ∃ x b nc cc, L = some x ∧ x.block < w.heap.size ∧ w.cell? (x.add i) = some (.slice b nc cc) ∧ CArg w b nc (F i)
  cap : nl ≤ cl
  max : cl ≤ maxLen

theorem LArg.keep {w w' : World} {L : Option Addr} {nl cl : Nat} {F : Nat → Nat → Int} (h : LArg w L nl cl F) (hb : Below w.heap.size w w') : LArg w' L nl cl F :=
  ⟨fun i hi => by
    obtain ⟨x, b, nc, cc, h1, h2, h3, h4⟩ := h.row i hi
    exact ⟨x, b, nc, cc, h1, Nat.lt_of_lt_of_le h2 hb.size, by rw [hb.cell (p := x.add i) (by rw [addr_block]; exact h2)]; exact h3, h4.keep hb⟩, h.cap, h.max⟩

/-- The same, the rows' lengths known. -/
structure LArgN (w : World) (L : Option Addr) (nl cl : Nat) (N : Nat → Nat) (F : Nat → Nat → Int) : Prop where
  row : ∀ i, i < nl → ∃ x b cc, L = some x ∧ x.block < w.heap.size ∧ w.cell? (x.add i) = some (.slice b (N i) cc) ∧ CArg w b (N i) (F i)
  cap : nl ≤ cl
  max : cl ≤ maxLen

theorem LArgN.keep {w w' : World} {L : Option Addr} {nl cl : Nat} {N : Nat → Nat} {F : Nat → Nat → Int} (h : LArgN w L nl cl N F) (hb : Below w.heap.size w w') : LArgN w' L nl cl N F :=
  ⟨fun i hi => by
    obtain ⟨x, b, cc, h1, h2, h3, h4⟩ := h.row i hi
    exact ⟨x, b, cc, h1, Nat.lt_of_lt_of_le h2 hb.size, by rw [hb.cell (p := x.add i) (by rw [addr_block]; exact h2)]; exact h3, h4.keep hb⟩, h.cap, h.max⟩

theorem LArg.lens {w : World} {L : Option Addr} {nl cl : Nat} {F : Nat → Nat → Int} (h : LArg w L nl cl F) : ∃ N, LArgN w L nl cl N F := by
  obtain ⟨N, hN⟩ : ∃ N : Nat → Nat, ∀ i, i < nl → ∃ x b cc, L = some x ∧ x.block < w.heap.size ∧ w.cell? (x.add i) = some (.slice b (N i) cc) ∧ CArg w b (N i) (F i) := by
    have h1 : ∀ i, ∃ n, i < nl → ∃ x b cc, L = some x ∧ x.block < w.heap.size ∧ w.cell? (x.add i) = some (.slice b n cc) ∧ CArg w b n (F i) := fun i => by
      by_cases hi : i < nl
      · obtain ⟨x, b, n, cc, h2⟩ := h.row i hi
        exact ⟨n, fun _ => ⟨x, b, cc, h2⟩⟩
      · exact ⟨0, fun h => absurd h hi⟩
    exact ⟨fun i => Classical.choose (h1 i), fun i => Classical.choose_spec (h1 i)⟩
  exact ⟨N, hN, h.cap, h.max⟩

end Go.Proofs.YtenkdpogdfcbgaaGreat
