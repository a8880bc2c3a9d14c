/- What a walk is told of a slice of pairs that came in. -/
import Derived.Test.YtenkdpogdfcbgaaGreatBase
import Derived.Deep.Slices
import Derived.Deep.Fields
import Derived.Lib.SmallJoins
import Derived.ChangeSame
namespace Go.Proofs.YtenkdpogdfcbgaaGreat
open Go.RowKit Go.ChangeShapes Go.WideShapes Go.Deep Go.Joins

/-- It is nil; or it leads to pairs of integers. -/
def IsRowT (w : World) (a : Option Addr) (len cap : Nat) (ts : List (Int × Int)) : Prop :=
  (a = none ∧ len = 0 ∧ cap = 0 ∧ ts = []) ∨
  ∃ x, a = some x ∧ len ≤ cap ∧ cap ≤ maxLen ∧ ts.length = len ∧ ∀ j t, ts[j]? = some t → w.cell? (x.add (j * 2)) = some (.int .i64 t.1) ∧ w.cell? (x.add (j * 2 + 1)) = some (.int .i64 t.2) ∧ (Lit.int .i64 t.1).wf = true ∧ (Lit.int .i64 t.2).wf = true

section
variable {H : Type} {enc : TypeId × Value → H} {P : Program} {w : World} {base : Nat} {spare : Nat → Bool} {held : Bool}
theorem open_pairs {t e : TypeId} {f0 f1 : Field} {fuel : Nat} {cs : List Value} {x : DataW H × List MemPlace} (ht : P.underlying t = some (.slice e)) (he : P.underlying e = some (.struct #[f0, f1]))
    (hone : oneCellFields P #[f0, f1] = true) (hC : P.cellsOf e = 2) (u0 : P.underlying f0.type = some (.int .i64)) (u1 : P.underlying f1.type = some (.int .i64)) (h : DataW.trod enc P w base spare held fuel t cs = some x) :
    ∃ a len cap ts, cs = [.slice a len cap] ∧ IsRowT w a len cap ts := by
  rcases open_slice ht h with ⟨h0, _⟩ | ⟨a, len, cap, m, n, D, Pl, hcs, hb, hl, hm, hmm, hx, hi⟩
  · exact ⟨none, 0, 0, [], h0, Or.inl ⟨rfl, rfl, rfl, rfl⟩⟩
  · have each : ∀ i, i < len → ∃ z : Int × Int, w.cell? (a.add (i * 2)) = some (.int .i64 z.1) ∧ w.cell? (a.add (i * 2 + 1)) = some (.int .i64 z.2) ∧ (Lit.int .i64 z.1).wf = true ∧ (Lit.int .i64 z.2).wf = true := by
      intro i hil
      obtain ⟨cs', hc, ht'⟩ := hi i (by rw [hmm]; split <;> omega)
      rw [hC] at hc
      obtain ⟨_, hcl, hat⟩ := World.cells?_some hc
      obtain ⟨ys, n', hn', hy, hlen, hyl, hf⟩ := DataW.trod_struct he ht'
      obtain ⟨o0, k0⟩ := hone_of hone 0 f0 rfl
      obtain ⟨o1, k1⟩ := hone_of hone 1 f1 rfl
      match cs', hcl with
      | [v0, v1], _ =>
        match ys, hyl with
        | [y0, y1], _ =>
          have g0 : DataW.trod enc P w base spare held n' f0.type [v0] = some y0 := by simpa [Value.cells, o0, k0] using hf 0 f0 rfl
          have g1 : DataW.trod enc P w base spare held n' f1.type [v1] = some y1 := by simpa [Value.cells, o1, k1] using hf 1 f1 rfl
          obtain ⟨z0, e0, -, w0⟩ := DataW.trod_int u0 g0
          obtain ⟨z1, e1, -, w1⟩ := DataW.trod_int u1 g1
          obtain rfl : v0 = .int .i64 z0 := by simpa using e0
          obtain rfl : v1 = .int .i64 z1 := by simpa using e1
          have c0 := hat 0 (by decide)
          have c1 := hat 1 (by decide)
          rw [Go.Deep.add_add] at c0 c1
          exact ⟨(z0, z1), c0, c1, w0, w1⟩
    obtain ⟨Z, hZ⟩ : ∃ Z : Nat → Int × Int, ∀ i, i < len → w.cell? (a.add (i * 2)) = some (.int .i64 (Z i).1) ∧ w.cell? (a.add (i * 2 + 1)) = some (.int .i64 (Z i).2) ∧ (Lit.int .i64 (Z i).1).wf = true ∧ (Lit.int .i64 (Z i).2).wf = true :=
      ⟨fun i => if hi : i < len then Classical.choose (each i hi) else (0, 0), fun i hi => by simp only [dif_pos hi]; exact Classical.choose_spec (each i hi)⟩
    refine ⟨some a, len, cap, (List.range len).map Z, hcs, Or.inr ⟨a, rfl, hl, hm, by simp, fun j t hj => ?_⟩⟩
    obtain ⟨hj2, rfl⟩ : j < len ∧ Z j = t := by
      rw [List.getElem?_map] at hj
      obtain ⟨k, hk, rfl⟩ := Option.map_eq_some_iff.1 hj
      obtain ⟨h1, rfl⟩ := List.getElem?_eq_some_iff.1 hk
      simp at h1 ⊢
      exact h1
    exact hZ j hj2
end

end Go.Proofs.YtenkdpogdfcbgaaGreat
