/- What a walk is told of a slice of structs of one-cell fields that came in. -/
import Derived.Test.YteddendidjhmbaaBase
import Derived.Deep.Slices
import Derived.Deep.Fields
import Derived.Lib.SmallJoins
import Derived.ChangeSame
namespace Go.Proofs.Yteddendidjhmbaa
open Go.RowKit Go.ChangeShapes Go.WideShapes Go.Deep Go.Joins

section
variable {H : Type} {enc : TypeId × Value → H} {P : Program} {w : World} {base : Nat} {spare : Nat → Bool} {held : Bool}

/-- It is nil; or each element's fields lie one behind another, each reads as its type says. -/
theorem open_structs {t e : TypeId} {fs : Array Field} {fuel : Nat} {cs : List Value} {x : DataW H × List MemPlace} (ht : P.underlying t = some (.slice e)) (he : P.underlying e = some (.struct fs))
    (hone : oneCellFields P fs = true) (hC : P.cellsOf e = fs.size) (h : DataW.trod enc P w base spare held fuel t cs = some x) :
    ∃ a len cap, cs = [.slice a len cap] ∧ ((a = none ∧ len = 0 ∧ cap = 0) ∨ ∃ A, a = some A ∧ len ≤ cap ∧ cap ≤ maxLen ∧
      ∀ i, i < len → ∀ j f, fs[j]? = some f → ∃ v y m, w.cell? (A.add (i * fs.size + j)) = some v ∧ DataW.trod enc P w base spare held m f.type [v] = some y) := by
  rcases open_slice ht h with ⟨h0, _⟩ | ⟨a, len, cap, m, n, D, Pl, hcs, hb, hl, hm, hmm, hx, hi⟩
  · exact ⟨none, 0, 0, h0, Or.inl ⟨rfl, rfl, rfl⟩⟩
  · refine ⟨some a, len, cap, hcs, Or.inr ⟨a, rfl, hl, hm, fun i hil j f hj => ?_⟩⟩
    obtain ⟨cs', hc, ht'⟩ := hi i (by rw [hmm]; split <;> omega)
    rw [hC] at hc
    obtain ⟨_, hcl, hat⟩ := World.cells?_some hc
    obtain ⟨ys, n', hn', hy, hlen, hyl, hf⟩ := DataW.trod_struct he ht'
    obtain ⟨o0, k0⟩ := hone_of hone j f hj
    have hjs : j < fs.size := (Array.getElem?_eq_some_iff.1 hj).1
    have hjl : j < cs'.length := by rw [hcl]; exact hjs
    have hft := hf j f hj
    rw [o0, k0, List.drop_eq_getElem_cons hjl] at hft
    have hq : ∀ (l : List Value), List.take 1 (cs'[j] :: l) = [cs'[j]] := fun l => rfl
    rw [hq] at hft
    have hyj : j < ys.length := by rw [hyl]; exact hjs
    rw [List.getElem?_eq_getElem hyj] at hft
    have hcell := hat j hjs
    rw [Go.Deep.add_add] at hcell
    exact ⟨cs'[j], _, n', by simpa [List.getElem?_eq_getElem hjl] using hcell, hft⟩
end

end Go.Proofs.Yteddendidjhmbaa
