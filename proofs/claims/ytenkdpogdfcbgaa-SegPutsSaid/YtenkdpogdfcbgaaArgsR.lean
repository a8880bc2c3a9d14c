import Derived.Test.YtenkdpogdfcbgaaSgW4
import Derived.Test.YtenkdpogdfcbgaaArgsIt
/- What a walk is told of a slice of records (an id and a text) that came in. -/
namespace Go.Proofs.Ytenkdpogdfcbgaa
open Go.RowKit Go.ChangeShapes Go.WideShapes Go.Deep Go.Joins

/-- Records that came in: whole, their texts within the reading. -/
def RArg (w : World) (a : Option Addr) (n c : Nat) (ts : List Sg.R) : Prop := RSl w a n c ts ∧ n ≤ maxLen ∧ (∀ t ∈ ts, t.tx.size ≤ maxLen) ∧ ∀ t ∈ ts, IdOk t.id

theorem four_of {α : Type} {l : List α} (h : l.length = 4) : ∃ a b c d, l = [a, b, c, d] := by
  match l, h with
  | [a, b, c, d], _ => exact ⟨a, b, c, d, rfl⟩

section
variable {H : Type} {enc : TypeId × Value → H} {P : Program} {w : World} {base : Nat} {spare : Nat → Bool} {held : Bool}

theorem open_recs {t e : TypeId} {f0 f1 i0 i1 i2 : Field} {fuel : Nat} {cs : List Value} {x : DataW H × List MemPlace} (ht : P.underlying t = some (.slice e)) (he : P.underlying e = some (.struct #[f0, f1]))
    (hC : P.cellsOf e = 4) (hi0 : P.underlying f0.type = some (.struct #[i0, i1, i2])) (hone : oneCellFields P #[i0, i1, i2] = true) (hCi : P.cellsOf f0.type = 3) (hC1 : P.cellsOf f1.type = 1) (o0 : f0.offset = 0) (o1 : f1.offset = 3)
    (u0 : P.underlying i0.type = some .bool) (u1 : P.underlying i1.type = some (.int .i64)) (u2 : P.underlying i2.type = some (.int .i64)) (u3 : P.underlying f1.type = some .string) (h : DataW.trod enc P w base spare held fuel t cs = some x) :
    ∃ a len cap ts, cs = [.slice a len cap] ∧ RArg w a len cap ts := by
  rcases open_slice ht h with ⟨h0, _⟩ | ⟨a, len, cap, m, n, D, Pl, hcs, hb, hl, hm, hmm, hx, hi⟩
  · exact ⟨none, 0, 0, [], h0, ⟨fun h => absurd rfl h, rfl⟩, Nat.zero_le _, fun t ht => absurd ht (by simp), fun t ht => absurd ht (by simp)⟩
  · have each : ∀ i, i < len → ∃ z : Sg.R, (w.cell? (a.add (i * 4)) = some (.bool z.id.is) ∧ w.cell? (a.add (i * 4 + 1)) = some (.int .i64 z.id.sum) ∧ w.cell? (a.add (i * 4 + 2)) = some (.int .i64 z.id.n) ∧ w.cell? (a.add (i * 4 + 3)) = some (.string z.tx)) ∧ z.tx.size ≤ maxLen ∧ IdOk z.id := fun i hil => by
      obtain ⟨cs', hc, ht'⟩ := hi i (by rw [hmm]; split <;> omega)
      rw [hC] at hc
      obtain ⟨_, hcl, hat⟩ := World.cells?_some hc
      obtain ⟨c0, c1, c2, c3, rfl⟩ := four_of hcl
      obtain ⟨ys, n', -, -, -, hyl, hf⟩ := DataW.trod_struct he ht'
      have hf0 := hf 0 f0 rfl
      have hf1 := hf 1 f1 rfl
      rw [o0, hCi] at hf0
      rw [o1, hC1] at hf1
      have hy2 : ys.length = 2 := hyl
      have hy0 : (0 : Nat) < ys.length := by omega
      have hy1 : (1 : Nat) < ys.length := by omega
      rw [List.getElem?_eq_getElem hy0] at hf0
      rw [List.getElem?_eq_getElem hy1] at hf1
      have hf0' : DataW.trod enc P w base spare held n' f0.type [c0, c1, c2] = some ys[0] := hf0
      have hf1' : DataW.trod enc P w base spare held n' f1.type [c3] = some ys[1] := hf1
      obtain ⟨zs, n2, -, -, -, hzl, hg⟩ := DataW.trod_struct hi0 hf0'
      have hz3 : zs.length = 3 := hzl
      have j0 : (0 : Nat) < zs.length := by omega
      have j1 : (1 : Nat) < zs.length := by omega
      have j2 : (2 : Nat) < zs.length := by omega
      obtain ⟨p0, k0⟩ := hone_of hone 0 i0 rfl
      obtain ⟨p1, k1⟩ := hone_of hone 1 i1 rfl
      obtain ⟨p2, k2⟩ := hone_of hone 2 i2 rfl
      have hg0 := hg 0 i0 rfl; have hg1 := hg 1 i1 rfl; have hg2 := hg 2 i2 rfl
      rw [p0, k0, List.getElem?_eq_getElem j0] at hg0
      rw [p1, k1, List.getElem?_eq_getElem j1] at hg1
      rw [p2, k2, List.getElem?_eq_getElem j2] at hg2
      have hg0' : DataW.trod enc P w base spare held n2 i0.type [c0] = some zs[0] := hg0
      have hg1' : DataW.trod enc P w base spare held n2 i1.type [c1] = some zs[1] := hg1
      have hg2' : DataW.trod enc P w base spare held n2 i2.type [c2] = some zs[2] := hg2
      obtain ⟨z0, e0, -⟩ := DataW.trod_bool u0 hg0'
      obtain ⟨z1, e1, -, w1⟩ := DataW.trod_int u1 hg1'
      obtain ⟨z2, e2, -, w2⟩ := DataW.trod_int u2 hg2'
      obtain ⟨z3, e3, -, w3⟩ := DataW.trod_string u3 hf1'
      obtain rfl : c0 = .bool z0 := by simpa using e0
      obtain rfl : c1 = .int .i64 z1 := by simpa using e1
      obtain rfl : c2 = .int .i64 z2 := by simpa using e2
      obtain rfl : c3 = .string z3 := by simpa using e3
      have q0 := hat 0 (by decide); have q1 := hat 1 (by decide); have q2 := hat 2 (by decide); have q3 := hat 3 (by decide)
      rw [Go.Deep.add_add] at q0 q1 q2 q3
      exact ⟨⟨⟨z0, z1, z2⟩, z3⟩, ⟨by simpa using q0, by simpa using q1, by simpa using q2, by simpa using q3⟩, w3, w1, w2⟩
    obtain ⟨Z, hZ⟩ : ∃ Z : Nat → Sg.R, ∀ i, i < len → (w.cell? (a.add (i * 4)) = some (.bool (Z i).id.is) ∧ w.cell? (a.add (i * 4 + 1)) = some (.int .i64 (Z i).id.sum) ∧ w.cell? (a.add (i * 4 + 2)) = some (.int .i64 (Z i).id.n) ∧ w.cell? (a.add (i * 4 + 3)) = some (.string (Z i).tx)) ∧ (Z i).tx.size ≤ maxLen ∧ IdOk (Z i).id :=
      ⟨fun i => if hi : i < len then Classical.choose (each i hi) else ⟨⟨false, 0, 0⟩, ⟨#[]⟩⟩, fun i hi => by simp only [dif_pos hi]; exact Classical.choose_spec (each i hi)⟩
    have hmem : ∀ t ∈ (List.range len).map Z, ∃ i, i < len ∧ Z i = t := fun t ht => by
      obtain ⟨i, hi, rfl⟩ := List.mem_map.1 ht
      exact ⟨i, List.mem_range.1 hi, rfl⟩
    refine ⟨some a, len, cap, (List.range len).map Z, hcs, ⟨fun _ => ⟨a, rfl, fun j t hj => ?_⟩, by simp⟩, Nat.le_trans hl hm, fun t ht => ?_, fun t ht => ?_⟩
    · obtain ⟨hj2, rfl⟩ : j < len ∧ Z j = t := by
        rw [List.getElem?_map] at hj
        obtain ⟨k, hk, rfl⟩ := Option.map_eq_some_iff.1 hj
        obtain ⟨h1, rfl⟩ := List.getElem?_eq_some_iff.1 hk
        simp at h1 ⊢
        exact h1
      exact (hZ j hj2).1
    · obtain ⟨i, hi, rfl⟩ := hmem t ht
      exact (hZ i hi).2.1
    · obtain ⟨i, hi, rfl⟩ := hmem t ht
      exact (hZ i hi).2.2

/-- A record by value. -/
theorem open_rec1 {r : Reach} {b0 : Nat} {t : TypeId} {f0 f1 i0 i1 i2 : Field} {v : Value} {d : DataW H} {p : List MemPlace} (he : P.underlying t = some (.struct #[f0, f1]))
    (hC : P.cellsOf t = 4) (hi0 : P.underlying f0.type = some (.struct #[i0, i1, i2])) (hone : oneCellFields P #[i0, i1, i2] = true) (hCi : P.cellsOf f0.type = 3) (hC1 : P.cellsOf f1.type = 1) (o0 : f0.offset = 0) (o1 : f1.offset = 3)
    (u0 : P.underlying i0.type = some .bool) (u1 : P.underlying i1.type = some (.int .i64)) (u2 : P.underlying i2.type = some (.int .i64)) (u3 : P.underlying f1.type = some .string) (hv : Value.okWide P w r b0 t v) (h : DataW.Trod enc P w base spare held t v d p) :
    ∃ (z0 : Bool) (z1 z2 : Int) (z3 : ByteArray), v = .agg #[.bool z0, .int .i64 z1, .int .i64 z2, .string z3] ∧ d = .agg [.agg [.lit (.bool z0), .lit (.int .i64 z1), .lit (.int .i64 z2)], .lit (.string z3.data.toList)] ∧ p = [] ∧
      (Lit.int .i64 z1).wf = true ∧ (Lit.int .i64 z2).wf = true ∧ z3.size ≤ maxLen := by
  obtain ⟨cs, rfl, hsz⟩ := okWide_struct he hv
  obtain ⟨c0, c1, c2, c3, rfl⟩ := array4 (hsz.trans hC)
  obtain ⟨fuel, hf⟩ := h
  obtain ⟨y0, y1, n, hx, _, h0, h1⟩ := trod_struct2 he hf
  rw [o0, hCi] at h0
  rw [o1, hC1] at h1
  have h0' : DataW.trod enc P w base spare held n f0.type [c0, c1, c2] = some y0 := h0
  have h1' : DataW.trod enc P w base spare held n f1.type [c3] = some y1 := h1
  obtain ⟨x0, x1, x2, n2, hx2, _, g0, g1, g2⟩ := trod_struct3 hi0 h0'
  obtain ⟨p0, k0⟩ := hone_of hone 0 i0 rfl
  obtain ⟨p1, k1⟩ := hone_of hone 1 i1 rfl
  obtain ⟨p2, k2⟩ := hone_of hone 2 i2 rfl
  rw [p0, k0] at g0
  rw [p1, k1] at g1
  rw [p2, k2] at g2
  have g0' : DataW.trod enc P w base spare held n2 i0.type [c0] = some x0 := g0
  have g1' : DataW.trod enc P w base spare held n2 i1.type [c1] = some x1 := g1
  have g2' : DataW.trod enc P w base spare held n2 i2.type [c2] = some x2 := g2
  obtain ⟨z0, e0, rfl⟩ := DataW.trod_bool u0 g0'
  obtain ⟨z1, e1, rfl, w1⟩ := DataW.trod_int u1 g1'
  obtain ⟨z2, e2, rfl, w2⟩ := DataW.trod_int u2 g2'
  obtain ⟨z3, e3, rfl, w3⟩ := DataW.trod_string u3 h1'
  obtain rfl : c0 = .bool z0 := by simpa using e0
  obtain rfl : c1 = .int .i64 z1 := by simpa using e1
  obtain rfl : c2 = .int .i64 z2 := by simpa using e2
  obtain rfl : c3 = .string z3 := by simpa using e3
  subst hx2
  simp only [Prod.mk.injEq] at hx
  exact ⟨z0, z1, z2, z3, rfl, hx.1, hx.2, w1, w2, w3⟩

theorem shut_rec1 {t : TypeId} {f0 f1 i0 i1 i2 : Field} {z0 : Bool} {z1 z2 : Int} {z3 : ByteArray} (he : P.underlying t = some (.struct #[f0, f1]))
    (hC : P.cellsOf t = 4) (hi0 : P.underlying f0.type = some (.struct #[i0, i1, i2])) (hone : oneCellFields P #[i0, i1, i2] = true) (hCi : P.cellsOf f0.type = 3) (hC1 : P.cellsOf f1.type = 1) (o0 : f0.offset = 0) (o1 : f1.offset = 3)
    (u0 : P.underlying i0.type = some .bool) (u1 : P.underlying i1.type = some (.int .i64)) (u2 : P.underlying i2.type = some (.int .i64)) (u3 : P.underlying f1.type = some .string) (w1 : (Lit.int .i64 z1).wf = true) (w2 : (Lit.int .i64 z2).wf = true) (w3 : z3.size ≤ maxLen) :
    DataW.Trod enc P w base spare held t (.agg #[.bool z0, .int .i64 z1, .int .i64 z2, .string z3]) (.agg [.agg [.lit (.bool z0), .lit (.int .i64 z1), .lit (.int .i64 z2)], .lit (.string z3.data.toList)]) [] := by
  obtain ⟨p0, k0⟩ := hone_of hone 0 i0 rfl
  obtain ⟨p1, k1⟩ := hone_of hone 1 i1 rfl
  obtain ⟨p2, k2⟩ := hone_of hone 2 i2 rfl
  have l0 : DataW.trod enc P w base spare held 1 i0.type [.bool z0] = some (.lit (.bool z0), []) := by simp [DataW.trod, u0]
  have l1 : DataW.trod enc P w base spare held 1 i1.type [.int .i64 z1] = some (.lit (.int .i64 z1), []) := by simp [DataW.trod, u1, w1]
  have l2 : DataW.trod enc P w base spare held 1 i2.type [.int .i64 z2] = some (.lit (.int .i64 z2), []) := by simp [DataW.trod, u2, w2]
  have l3 : DataW.trod enc P w base spare held 2 f1.type [.string z3] = some (.lit (.string z3.data.toList), []) := by simp [DataW.trod, u3, w3]
  have s1 := trod_struct3_mk (enc := enc) (w := w) (base := base) (spare := spare) (held := held) (n := 1) (cs := [.bool z0, .int .i64 z1, .int .i64 z2]) hi0 (by simp [hCi])
    (by simpa [p0, k0] using l0) (by simpa [p1, k1] using l1) (by simpa [p2, k2] using l2)
  have s2 := trod_struct2_mk (enc := enc) (w := w) (base := base) (spare := spare) (held := held) (n := 2) (cs := [.bool z0, .int .i64 z1, .int .i64 z2, .string z3]) he (by simp [hC])
    (by simpa [o0, hCi] using s1) (by simpa [o1, hC1] using l3)
  exact ⟨_, by simpa [Value.cells] using s2⟩
end

end Go.Proofs.Ytenkdpogdfcbgaa
