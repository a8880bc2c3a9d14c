import Derived.Test.YtenkdpogdfcbgaaGreatBase
import Derived.Deep.Slices
import Derived.Deep.Fields
import Derived.Lib.SmallJoins
import Derived.ChangeSame
import Derived.Test.YtenkdpogdfcbgaaGreatItD
/- What a walk is told of a slice of structs of one-cell fields that came in. -/
namespace Go.Proofs.YtenkdpogdfcbgaaGreat
open Go.RowKit Go.ChangeShapes Go.WideShapes Go.Deep Go.Joins

section
variable {H : Type} {enc : TypeId × Value → H} {P : Program} {w : World} {base : Nat} {spare : Nat → Bool} {held : Bool}

/-- It is nil; or each element's fields lie one behind another, each reads as its type says. -/
theorem open_structs {t e : TypeId} {fs : Array Field} {fuel : Nat} {cs : List Value} {x : DataW H × List MemPlace} (ht : P.underlying t = some (.slice e)) (he : P.underlying e = some (.struct fs))
    (hone : oneCellFields P fs = true) (hC : P.cellsOf e = fs.size) (h : DataW.trod enc P w base spare held fuel t cs = some x) :
    ∃ a len cap, cs = [.slice a len cap] ∧ ((a = none ∧ len = 0 ∧ cap = 0) ∨ ∃ A, a = some A ∧ len ≤ cap ∧ cap ≤ maxLen ∧
      ∀ i, i < len → ∀ j f, fs[j]? = some f → ∃ v y m, w.cell? (A.add (i * fs.size + j)) = some v ∧ DataW.trod enc P w base spare held m f.type [v] = some y) := by
  rcases open_slice ht h with ⟨h0, _⟩ | ⟨a, len, cap, m, n, D, Pl, hcs, hb, hl, hm, hmm, hx, hi⟩
  · exact ⟨none, 0, 0, h0, Or.inl ⟨rfl, rfl, rfl⟩⟩
  · refine ⟨some a, len, cap, hcs, Or.inr ⟨a, rfl, hl, hm, fun i hil j f hj => ?_⟩⟩
    obtain ⟨cs', hc, ht'⟩ := hi i (by rw [hmm]; split <;> omega)
    rw [hC] at hc
    obtain ⟨_, hcl, hat⟩ := World.cells?_some hc
    obtain ⟨ys, n', hn', hy, hlen, hyl, hf⟩ := DataW.trod_struct he ht'
    obtain ⟨o0, k0⟩ := hone_of hone j f hj
    have hjs : j < fs.size := (Array.getElem?_eq_some_iff.1 hj).1
    have hjl : j < cs'.length := by rw [hcl]; exact hjs
    have hft := hf j f hj
    rw [o0, k0, List.drop_eq_getElem_cons hjl] at hft
    have hq : ∀ (l : List Value), List.take 1 (cs'[j] :: l) = [cs'[j]] := fun l => rfl
    rw [hq] at hft
    have hyj : j < ys.length := by rw [hyl]; exact hjs
    rw [List.getElem?_eq_getElem hyj] at hft
    have hcell := hat j hjs
    rw [Go.Deep.add_add] at hcell
    exact ⟨cs'[j], _, n', by simpa [List.getElem?_eq_getElem hjl] using hcell, hft⟩
end

end Go.Proofs.YtenkdpogdfcbgaaGreat

/- What a walk is told of a slice of items that came in. -/
namespace Go.Proofs.YtenkdpogdfcbgaaGreat
open Go.RowKit Go.ChangeShapes Go.WideShapes Go.Deep Go.Joins

/-- Items that came in: whole, their texts within the reading. -/
def IArg (w : World) (a : Option Addr) (n c : Nat) (ts : List Bg.It) : Prop := ISl w a n c ts ∧ (∀ t ∈ ts, t.text.size ≤ maxLen) ∧ ∀ t ∈ ts, (Lit.int .i64 t.sum).wf = true ∧ (Lit.int .i64 t.n).wf = true ∧ (Lit.int .i64 t.refs).wf = true

section
variable {H : Type} {enc : TypeId × Value → H} {P : Program} {w : World} {base : Nat} {spare : Nat → Bool} {held : Bool}
theorem open_items {t e : TypeId} {f0 f1 f2 f3 : Field} {fuel : Nat} {cs : List Value} {x : DataW H × List MemPlace} (ht : P.underlying t = some (.slice e)) (he : P.underlying e = some (.struct #[f0, f1, f2, f3]))
    (hone : oneCellFields P #[f0, f1, f2, f3] = true) (hC : P.cellsOf e = 4) (u0 : P.underlying f0.type = some (.int .i64)) (u1 : P.underlying f1.type = some (.int .i64)) (u2 : P.underlying f2.type = some .string) (u3 : P.underlying f3.type = some (.int .i64)) (h : DataW.trod enc P w base spare held fuel t cs = some x) :
    ∃ a len cap ts, cs = [.slice a len cap] ∧ IArg w a len cap ts := by
  obtain ⟨a, len, cap, hcs, ⟨rfl, rfl, rfl⟩ | ⟨A, rfl, hl, hm, hi⟩⟩ := open_structs ht he hone hC h
  · exact ⟨none, 0, 0, [], hcs, ⟨fun h => absurd rfl h, rfl, Nat.le_refl _, Nat.zero_le _, fun _ => ⟨rfl, rfl⟩⟩, fun t ht => absurd ht (by simp), fun t ht => absurd ht (by simp)⟩
  · have each : ∀ i, i < len → ∃ z : Bg.It, (w.cell? (A.add (i * 4)) = some (.int .i64 z.sum) ∧ w.cell? (A.add (i * 4 + 1)) = some (.int .i64 z.n) ∧ w.cell? (A.add (i * 4 + 2)) = some (.string z.text) ∧ w.cell? (A.add (i * 4 + 3)) = some (.int .i64 z.refs)) ∧ z.text.size ≤ maxLen ∧ (Lit.int .i64 z.sum).wf = true ∧ (Lit.int .i64 z.n).wf = true ∧ (Lit.int .i64 z.refs).wf = true := fun i hil => by
      obtain ⟨v0, y0, m0, c0, t0⟩ := hi i hil 0 f0 rfl
      obtain ⟨v1, y1, m1, c1, t1⟩ := hi i hil 1 f1 rfl
      obtain ⟨v2, y2, m2, c2, t2⟩ := hi i hil 2 f2 rfl
      obtain ⟨v3, y3, m3, c3, t3⟩ := hi i hil 3 f3 rfl
      obtain ⟨z0, e0, -, w0⟩ := DataW.trod_int u0 t0
      obtain ⟨z1, e1, -, w1⟩ := DataW.trod_int u1 t1
      obtain ⟨z2, e2, -, w2⟩ := DataW.trod_string u2 t2
      obtain ⟨z3, e3, -, w3⟩ := DataW.trod_int u3 t3
      obtain rfl : v0 = .int .i64 z0 := by simpa using e0
      obtain rfl : v1 = .int .i64 z1 := by simpa using e1
      obtain rfl : v2 = .string z2 := by simpa using e2
      obtain rfl : v3 = .int .i64 z3 := by simpa using e3
      exact ⟨⟨z0, z1, z2, z3⟩, ⟨by simpa using c0, by simpa using c1, by simpa using c2, by simpa using c3⟩, w2, w0, w1, w3⟩
    obtain ⟨Z, hZ⟩ : ∃ Z : Nat → Bg.It, ∀ i, i < len → (w.cell? (A.add (i * 4)) = some (.int .i64 (Z i).sum) ∧ w.cell? (A.add (i * 4 + 1)) = some (.int .i64 (Z i).n) ∧ w.cell? (A.add (i * 4 + 2)) = some (.string (Z i).text) ∧ w.cell? (A.add (i * 4 + 3)) = some (.int .i64 (Z i).refs)) ∧ (Z i).text.size ≤ maxLen ∧ (Lit.int .i64 (Z i).sum).wf = true ∧ (Lit.int .i64 (Z i).n).wf = true ∧ (Lit.int .i64 (Z i).refs).wf = true :=
      ⟨fun i => if hi : i < len then Classical.choose (each i hi) else ⟨0, 0, ⟨#[]⟩, 0⟩, fun i hi => by simp only [dif_pos hi]; exact Classical.choose_spec (each i hi)⟩
    have hmem : ∀ t ∈ (List.range len).map Z, ∃ i, i < len ∧ Z i = t := fun t ht => by
      obtain ⟨i, hi, rfl⟩ := List.mem_map.1 ht
      exact ⟨i, List.mem_range.1 hi, rfl⟩
    refine ⟨some A, len, cap, (List.range len).map Z, hcs, ⟨fun _ => ⟨A, rfl, fun j t hj => ?_⟩, by simp, hl, hm, fun h => by cases h⟩, fun t ht => ?_, fun t ht => ?_⟩
    · obtain ⟨hj2, rfl⟩ : j < len ∧ Z j = t := by
        rw [List.getElem?_map] at hj
        obtain ⟨k, hk, rfl⟩ := Option.map_eq_some_iff.1 hj
        obtain ⟨h1, rfl⟩ := List.getElem?_eq_some_iff.1 hk
        simp at h1 ⊢
        exact h1
      exact (hZ j hj2).1
    · obtain ⟨i, hi, rfl⟩ := hmem t ht
      exact (hZ i hi).2.1
    · obtain ⟨i, hi, rfl⟩ := hmem t ht
      exact (hZ i hi).2.2
end

end Go.Proofs.YtenkdpogdfcbgaaGreat
