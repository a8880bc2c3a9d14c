/- What a walk is told of a slice of tokens that came in. -/
import Derived.Test.YtdmfgdhfkceihaaBase
import Derived.Test.YtdmfgdhfkceihaaLzP
import Derived.Deep.Slices
import Derived.Deep.Fields
import Derived.Lib.SmallJoins
import Derived.ChangeSame
namespace Go.Proofs.Ytdmfgdhfkceihaa
open Go.RowKit Go.ChangeShapes Go.WideShapes Go.Deep Go.Joins

/-- The cells of tokens. -/
def KCells (w : World) (x : Addr) (ts : List Lz.Tk) : Prop := ∀ (j : Nat) (t : Lz.Tk), ts[j]? = some t → w.cell? (x.add (j * 3)) = some (.int .i64 t.d) ∧ w.cell? (x.add (j * 3 + 1)) = some (.int .i64 t.n) ∧ w.cell? (x.add (j * 3 + 2)) = some (.int .i64 t.b)

/-- A slice of tokens. -/
structure KArg (w : World) (a : Option Addr) (n c : Nat) (ts : List Lz.Tk) : Prop where
  at_ : ts ≠ [] → ∃ x, a = some x ∧ KCells w x ts
  len : ts.length = n
  cap : n ≤ c
  max : c ≤ maxLen

theorem KCells.keep {w w' : World} {x : Addr} {ts : List Lz.Tk} (h : KCells w x ts) (hb : Below w.heap.size w w') : KCells w' x ts := fun j t hj => by
  obtain ⟨c1, c2, c3⟩ := h j t hj
  exact ⟨by rw [hb.cell (World.block_lt_of_cell? w _ c1)]; exact c1, by rw [hb.cell (World.block_lt_of_cell? w _ c2)]; exact c2, by rw [hb.cell (World.block_lt_of_cell? w _ c3)]; exact c3⟩

theorem KArg.keep {w w' : World} {a : Option Addr} {n c : Nat} {ts : List Lz.Tk} (h : KArg w a n c ts) (hb : Below w.heap.size w w') : KArg w' a n c ts := ⟨fun h0 => by
  obtain ⟨x, rfl, hc⟩ := h.at_ h0
  exact ⟨x, rfl, hc.keep hb⟩, h.len, h.cap, h.max⟩

/-- It is nil; or it leads to tokens. -/
def IsRow3 (w : World) (a : Option Addr) (len cap : Nat) (ts : List Lz.Tk) : Prop :=
  (a = none ∧ len = 0 ∧ cap = 0 ∧ ts = []) ∨
  ∃ x, a = some x ∧ len ≤ cap ∧ cap ≤ maxLen ∧ ts.length = len ∧ KCells w x ts ∧ ∀ t ∈ ts, (Lit.int .i64 t.d).wf = true ∧ (Lit.int .i64 t.n).wf = true ∧ (Lit.int .i64 t.b).wf = true

theorem karg_of {w : World} {a : Option Addr} {n c : Nat} {ts : List Lz.Tk} (h : IsRow3 w a n c ts) : KArg w a n c ts := by
  rcases h with ⟨rfl, rfl, rfl, rfl⟩ | ⟨x, rfl, h1, h2, h3, h4, -⟩
  · exact ⟨fun h => absurd rfl h, rfl, Nat.le_refl _, Nat.zero_le _⟩
  · exact ⟨fun _ => ⟨x, rfl, h4⟩, h3, h1, h2⟩

theorem kwf_of {w : World} {a : Option Addr} {n c : Nat} {ts : List Lz.Tk} (h : IsRow3 w a n c ts) : ∀ t ∈ ts, (Lit.int .i64 t.d).wf = true ∧ (Lit.int .i64 t.n).wf = true ∧ (Lit.int .i64 t.b).wf = true := by
  rcases h with ⟨rfl, rfl, rfl, rfl⟩ | ⟨x, rfl, h1, h2, h3, h4, h5⟩
  · intro t ht; cases ht
  · exact h5

section
variable {H : Type} {enc : TypeId × Value → H} {P : Program} {w : World} {base : Nat} {spare : Nat → Bool} {held : Bool}
theorem open_tokens {t e : TypeId} {f0 f1 f2 : Field} {fuel : Nat} {cs : List Value} {x : DataW H × List MemPlace} (ht : P.underlying t = some (.slice e)) (he : P.underlying e = some (.struct #[f0, f1, f2]))
    (hone : oneCellFields P #[f0, f1, f2] = true) (hC : P.cellsOf e = 3) (u0 : P.underlying f0.type = some (.int .i64)) (u1 : P.underlying f1.type = some (.int .i64)) (u2 : P.underlying f2.type = some (.int .i64)) (h : DataW.trod enc P w base spare held fuel t cs = some x) :
    ∃ a len cap ts, cs = [.slice a len cap] ∧ IsRow3 w a len cap ts := by
  rcases open_slice ht h with ⟨h0, _⟩ | ⟨a, len, cap, m, n, D, Pl, hcs, hb, hl, hm, hmm, hx, hi⟩
  · exact ⟨none, 0, 0, [], h0, Or.inl ⟨rfl, rfl, rfl, rfl⟩⟩
  · have each : ∀ i, i < len → ∃ z : Lz.Tk, (w.cell? (a.add (i * 3)) = some (.int .i64 z.d) ∧ w.cell? (a.add (i * 3 + 1)) = some (.int .i64 z.n) ∧ w.cell? (a.add (i * 3 + 2)) = some (.int .i64 z.b)) ∧ (Lit.int .i64 z.d).wf = true ∧ (Lit.int .i64 z.n).wf = true ∧ (Lit.int .i64 z.b).wf = true := by
      intro i hil
      obtain ⟨cs', hc, ht'⟩ := hi i (by rw [hmm]; split <;> omega)
      rw [hC] at hc
      obtain ⟨_, hcl, hat⟩ := World.cells?_some hc
      obtain ⟨ys, n', hn', hy, hlen, hyl, hf⟩ := DataW.trod_struct he ht'
      obtain ⟨o0, k0⟩ := hone_of hone 0 f0 rfl
      obtain ⟨o1, k1⟩ := hone_of hone 1 f1 rfl
      obtain ⟨o2, k2⟩ := hone_of hone 2 f2 rfl
      match cs', hcl with
      | [v0, v1, v2], _ =>
        match ys, hyl with
        | [y0, y1, y2], _ =>
          have g0 : DataW.trod enc P w base spare held n' f0.type [v0] = some y0 := by simpa [Value.cells, o0, k0] using hf 0 f0 rfl
          have g1 : DataW.trod enc P w base spare held n' f1.type [v1] = some y1 := by simpa [Value.cells, o1, k1] using hf 1 f1 rfl
          have g2 : DataW.trod enc P w base spare held n' f2.type [v2] = some y2 := by simpa [Value.cells, o2, k2] using hf 2 f2 rfl
          obtain ⟨z0, e0, -, w0⟩ := DataW.trod_int u0 g0
          obtain ⟨z1, e1, -, w1⟩ := DataW.trod_int u1 g1
          obtain ⟨z2, e2, -, w2⟩ := DataW.trod_int u2 g2
          obtain rfl : v0 = .int .i64 z0 := by simpa using e0
          obtain rfl : v1 = .int .i64 z1 := by simpa using e1
          obtain rfl : v2 = .int .i64 z2 := by simpa using e2
          have c0 := hat 0 (by decide)
          have c1 := hat 1 (by decide)
          have c2 := hat 2 (by decide)
          rw [Go.Deep.add_add] at c0 c1 c2
          exact ⟨⟨z0, z1, z2⟩, ⟨c0, c1, c2⟩, w0, w1, w2⟩
    obtain ⟨Z, hZ⟩ : ∃ Z : Nat → Lz.Tk, ∀ i, i < len → (w.cell? (a.add (i * 3)) = some (.int .i64 (Z i).d) ∧ w.cell? (a.add (i * 3 + 1)) = some (.int .i64 (Z i).n) ∧ w.cell? (a.add (i * 3 + 2)) = some (.int .i64 (Z i).b)) ∧ (Lit.int .i64 (Z i).d).wf = true ∧ (Lit.int .i64 (Z i).n).wf = true ∧ (Lit.int .i64 (Z i).b).wf = true :=
      ⟨fun i => if hi : i < len then Classical.choose (each i hi) else ⟨0, 0, 0⟩, fun i hi => by simp only [dif_pos hi]; exact Classical.choose_spec (each i hi)⟩
    have get : ∀ j t, ((List.range len).map Z)[j]? = some t → j < len ∧ Z j = t := fun j t hj => by
      rw [List.getElem?_map] at hj
      obtain ⟨k, hk, rfl⟩ := Option.map_eq_some_iff.1 hj
      obtain ⟨h1, rfl⟩ := List.getElem?_eq_some_iff.1 hk
      simp at h1 ⊢
      exact h1
    refine ⟨some a, len, cap, (List.range len).map Z, hcs, Or.inr ⟨a, rfl, hl, hm, by simp, fun j t hj => ?_, fun t ht => ?_⟩⟩
    · obtain ⟨hj2, rfl⟩ := get j t hj
      exact (hZ j hj2).1
    · obtain ⟨j, hj, rfl⟩ := List.getElem_of_mem ht
      obtain ⟨hj2, he⟩ := get j _ (List.getElem?_eq_getElem hj)
      rw [← he]
      exact (hZ j hj2).2
end

end Go.Proofs.Ytdmfgdhfkceihaa
