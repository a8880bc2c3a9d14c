/- Rows of numbers: as values, as cells. -/
import Derived.Test.YtabhlmbhfbpceaaBase
import Derived.Deep.AppendLies
namespace Go.Proofs.Ytabhlmbhfbpceaa
open Go.RowKit

theorem Try.infoInt : (Try.prog.info? 3).map (fun i => (i.zero, i.size, i.bytes)) = some (some (.int .i64 0), 1, 8) := by kernel_rfl

/-- Numbers as values. -/
def iv (l : List Nat) : List Value := l.map fun (p : Nat) => .int .i64 (p : Int)

theorem iv_snoc (l : List Nat) (p : Nat) : iv (l ++ [p]) = iv l ++ [.int .i64 (p : Int)] := by unfold iv; rw [List.map_append]; rfl

theorem row_base {w : World} {base : Nat} {e : TypeId} {size : Nat} {v : Value} {n : Nat} {xs : List Value} (h : w.ownsRow base e size v n xs) : ∀ k, v.ownBlock = some k → base ≤ k := by
  intro k hk
  rcases h.2 with ⟨rfl, _⟩ | ⟨g, cap, cur, rfl, hb, _⟩
  · cases hk
  · cases hk; exact hb

theorem iv_cells {w : World} {base g n cap : Nat} {e : TypeId} {l : List Nat} (h : w.ownsRow base e 1 (.slice (some ⟨g, 0, none⟩) n cap) n (iv l)) (hn : l.length = n) :
    ∀ j (hj : j < l.length), w.cell? ⟨g, j, none⟩ = some (.int .i64 (l[j] : Int)) := fun j hj => by
  rw [h.cellAt j (by omega)]
  simp [iv, hj]

theorem iv_length (l : List Nat) : (iv l).length = l.length := by unfold iv; simp

theorem ext_data (s : ByteArray) (a b : Nat) : (s.extract a b).data.toList = (s.data.toList.drop a).take (b - a) := by
  rw [ByteArray.data_extract, Array.toList_extract]

end Go.Proofs.Ytabhlmbhfbpceaa
