/- Rows of numbers: as values, as cells. -/
import Derived.Test.YthccdoejnklidaaBase
import Derived.Deep.AppendLies
import Derived.Below
namespace Go.Proofs.Ythccdoejnklidaa
open Go.RowKit

theorem Try.infoInt : (Try.prog.info? 3).map (fun i => (i.zero, i.size, i.bytes)) = some (some (.int .i64 0), 1, 8) := by kernel_rfl

/-- Numbers as values. -/
def iv (l : List Nat) : List Value := l.map fun (p : Nat) => .int .i64 (p : Int)

theorem iv_snoc (l : List Nat) (p : Nat) : iv (l ++ [p]) = iv l ++ [.int .i64 (p : Int)] := by unfold iv; rw [List.map_append]; rfl

theorem row_base {w : World} {base : Nat} {e : TypeId} {size : Nat} {v : Value} {n : Nat} {xs : List Value} (h : w.ownsRow base e size v n xs) : ∀ k, v.ownBlock = some k → base ≤ k := by
  intro k hk
  rcases h.2 with ⟨rfl, _⟩ | ⟨g, cap, cur, rfl, hb, _⟩
  · cases hk
  · cases hk; exact hb

theorem iv_cells {w : World} {base g n cap : Nat} {e : TypeId} {l : List Nat} (h : w.ownsRow base e 1 (.slice (some ⟨g, 0, none⟩) n cap) n (iv l)) (hn : l.length = n) :
    ∀ j (hj : j < l.length), w.cell? ⟨g, j, none⟩ = some (.int .i64 (l[j] : Int)) := fun j hj => by
  rw [h.cellAt j (by omega)]
  simp [iv, hj]

theorem iv_length (l : List Nat) : (iv l).length = l.length := by unfold iv; simp

theorem ext_data (s : ByteArray) (a b : Nat) : (s.extract a b).data.toList = (s.data.toList.drop a).take (b - a) := by
  rw [ByteArray.data_extract, Array.toList_extract]

/-- A row of numbers lies in a block. -/
def RowIn (w : World) (g : Nat) (l : List Nat) : Prop := g < w.heap.size ∧ ∀ j (hj : j < l.length), w.cell? ⟨g, j, none⟩ = some (.int .i64 (l[j] : Int))

theorem RowIn.keep {w w' : World} {g : Nat} {l : List Nat} (h : RowIn w g l) (hb : Below w.heap.size w w') : RowIn w' g l :=
  ⟨Nat.lt_of_lt_of_le h.1 hb.size, fun j hj => by rw [hb.cell h.1]; exact h.2 j hj⟩

theorem RowIn.at {w : World} {g : Nat} {l : List Nat} (h : RowIn w g l) {j x : Nat} (hx : l[j]? = some x) : w.cell? ⟨g, j, none⟩ = some (.int .i64 (x : Int)) := by
  obtain ⟨hj, rfl⟩ := List.getElem?_eq_some_iff.1 hx
  exact h.2 j hj

/-- A row of the call's own stands behind whatever turns nothing that was there. -/
theorem own_keep {w w' : World} {base : Nat} {e : TypeId} {size : Nat} {v : Value} {n : Nat} {xs : List Value} (h : w.ownsRow base e size v n xs) (hb : Below w.heap.size w w') : w'.ownsRow base e size v n xs := by
  refine ⟨h.1, ?_⟩
  rcases h.2 with h2 | ⟨g, cap, cur, hv, hg, hh, r⟩
  · exact Or.inl h2
  · refine Or.inr ⟨g, cap, cur, hv, hg, ?_, r⟩
    have hlt : g < w.heap.size := by
      rcases Nat.lt_or_ge g w.heap.size with h | h
      · exact h
      · rw [Array.getElem?_eq_none h] at hh; cases hh
    rw [hb.block g hlt]
    exact hh

theorem own_kept {w w' : World} {base : Nat} {e : TypeId} {size : Nat} {v : Value} {n : Nat} {xs : List Value} (hb : Below w.heap.size w w') (h : w.ownsRow base e size v n xs) : w'.ownsRow base e size v n xs := own_keep h hb

theorem below_via {N : Nat} {w X W : World} (h : Below X.heap.size X W) (k : Below N w X) (hN : N ≤ X.heap.size) : Below N w W := k.trans (h.mono hN)

theorem below_grew {B : Nat} {a X w' : World} {row : Option Nat} (hg : X.grownBy w' row) (h : Below B a X) (hB : B ≤ X.heap.size) (hr : ∀ k, row = some k → B ≤ k) : Below B a w' := h.grown hg hB hr

end Go.Proofs.Ythccdoejnklidaa
