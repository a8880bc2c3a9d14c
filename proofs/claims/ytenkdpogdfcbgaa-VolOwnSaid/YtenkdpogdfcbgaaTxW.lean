import Derived.Test.YtenkdpogdfcbgaaMdW
import Derived.Deep.AppendLies
import Derived.Test.YtenkdpogdfcbgaaShelf
/- The walk of woolkeep.texts on a right state. -/
namespace Go.Proofs.Ytenkdpogdfcbgaa
open Go.RowKit

theorem tx_infoStr : (Try.prog.info? 9).map (fun i => (i.zero, i.size, i.bytes)) = some (some (.string ⟨#[]⟩), 1, 16) := by kernel_rfl

/-- What a volume reads as, place after place. -/
def Vo.textsR (s : Vo.St) (name : ByteArray) : List ByteArray := (List.range (Vo.blocksR s name).1.length).map fun (j : Nat) => (Vo.readR s name (j : Int)).1
/-- The first k of them as values. -/
def txN (s : Vo.St) (name : ByteArray) (k : Nat) : List Value := (List.range k).map fun (j : Nat) => Value.string (Vo.readR s name (j : Int)).1
theorem txN_succ (s : Vo.St) (name : ByteArray) (k : Nat) : txN s name (k + 1) = txN s name k ++ [.string (Vo.readR s name (k : Int)).1] := by
  unfold txN
  rw [List.range_succ, List.map_append]
  rfl
theorem txN_is (s : Vo.St) (name : ByteArray) : txN s name (Vo.blocksR s name).1.length = (Vo.textsR s name).map Value.string := by
  unfold txN Vo.textsR
  rw [List.map_map]
  rfl
theorem textsR_length (s : Vo.St) (name : ByteArray) : (Vo.textsR s name).length = (Vo.blocksR s name).1.length := by
  unfold Vo.textsR
  rw [List.length_map, List.length_range]

theorem blocks_small {s : Vo.St} (h : Vo.Right s) (name : ByteArray) : (Vo.blocksR s name).1.length ≤ 32 := by
  unfold Vo.blocksR
  split
  · exact Nat.zero_le _
  · split
    · exact Nat.zero_le _
    · rename_i v hv
      obtain ⟨hi, rfl⟩ := List.getElem?_eq_some_iff.1 hv
      exact (h.vol _ (List.getElem_mem hi)).len

theorem blocks_bad {s : Vo.St} {name : ByteArray} (h : (Vo.blocksR s name).2 ≠ 0) : (Vo.blocksR s name).1 = [] := by
  unfold Vo.blocksR at h ⊢
  split
  · rfl
  · rename_i hf
    rw [hf] at h
    dsimp only at h
    split
    · rfl
    · rename_i hv
      rw [hv] at h
      exact absurd rfl h

end Go.Proofs.Ytenkdpogdfcbgaa

/- Rows of texts: when two are one, when one holds a text. -/
namespace Go.Proofs.Ytenkdpogdfcbgaa
open Go.RowKit

theorem txt_cells {w : World} {base n c : Nat} {a : Option Addr} {xs : List ByteArray} (h : w.ownsRow base 9 1 (.slice a n c) n (xs.map Value.string)) : xs.length = n ∧ (0 < n → ∃ g, a = some ⟨g, 0, none⟩ ∧ ∀ j, j < xs.length → w.cell? ⟨g, 0 + j, none⟩ = some (.string (xs.getD j ByteArray.empty))) := by
  have hl : xs.length = n := by have := h.1; rw [List.length_map] at this; omega
  refine ⟨hl, fun hn => ?_⟩
  obtain ⟨g, cap, hv, -, -⟩ := h.form hn
  cases hv
  refine ⟨g, rfl, fun j hj => ?_⟩
  have hc := h.cellAt j (by omega)
  rw [Nat.zero_add, hc, List.getElem?_map, List.getElem?_eq_getElem hj, List.getD_eq_getElem?_getD, List.getElem?_eq_getElem hj]
  rfl

/-- What a call of texts leaves. -/
def TxTo (w : World) (l : List ByteArray) (e : Ending) (w' : World) : Prop :=
  ∃ a n c, e = .returned (.slice a n c) ∧ w'.ownsRow w.heap.size 9 1 (.slice a n c) n (l.map Value.string) ∧ n ≤ 32 ∧ Below w.heap.size w w'

end Go.Proofs.Ytenkdpogdfcbgaa
