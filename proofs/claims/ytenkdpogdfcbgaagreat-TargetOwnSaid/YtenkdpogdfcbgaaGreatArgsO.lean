/- Deeds that lie there; what a walk is told of a slice of deeds that came in. -/
import Derived.Test.YtenkdpogdfcbgaaGreatArgsIt
import Derived.Test.YtenkdpogdfcbgaaGreatVoP
import Derived.Below
namespace Go.Proofs.YtenkdpogdfcbgaaGreat
open Go.RowKit Go.ChangeShapes Go.WideShapes Go.Deep Go.Joins

def OCells (w : World) (x : Addr) (ts : List Lg.Op) : Prop := ∀ (j : Nat) (t : Lg.Op), ts[j]? = some t →
  w.cell? (x.add (j * 5)) = some (.int .i64 t.k) ∧ w.cell? (x.add (j * 5 + 1)) = some (.string t.nm) ∧ w.cell? (x.add (j * 5 + 2)) = some (.string t.tn) ∧ w.cell? (x.add (j * 5 + 3)) = some (.int .i64 t.a) ∧ w.cell? (x.add (j * 5 + 4)) = some (.string t.tx)

/-- A slice of deeds, whole. -/
structure OSl (w : World) (a : Option Addr) (n c : Nat) (ts : List Lg.Op) : Prop where
  at_ : ts ≠ [] → ∃ x, a = some x ∧ OCells w x ts
  len : ts.length = n
  cap : n ≤ c
  max : c ≤ maxLen
  nil : a = none → n = 0 ∧ c = 0

theorem OSl.keep {w w' : World} {a : Option Addr} {n c : Nat} {ts : List Lg.Op} (h : OSl w a n c ts) (hb : Below w.heap.size w w') : OSl w' a n c ts := ⟨fun h0 => by
  obtain ⟨x, rfl, hc⟩ := h.at_ h0
  refine ⟨x, rfl, fun j t hj => ?_⟩
  obtain ⟨c1, c2, c3, c4, c5⟩ := hc j t hj
  have k : ∀ {p : Addr} {v : Value}, w.cell? p = some v → w'.cell? p = some v := fun h => by rw [hb.cell (World.block_lt_of_cell? w _ h)]; exact h
  exact ⟨k c1, k c2, k c3, k c4, k c5⟩, h.len, h.cap, h.max, h.nil⟩

theorem OSl.take {w : World} {a : Option Addr} {n c k : Nat} {ts : List Lg.Op} (h : OSl w a n c ts) (hk : k ≤ n) : OSl w a k c (ts.take k) := ⟨fun h0 => by
  obtain ⟨x, rfl, hc⟩ := h.at_ (by rintro rfl; simp at h0)
  exact ⟨x, rfl, fun j t hj => hc j t (by rw [List.getElem?_take] at hj; split at hj; exact hj; cases hj)⟩, by rw [List.length_take, h.len]; omega, Nat.le_trans hk h.cap, h.max, fun h1 => by have := h.nil h1; omega⟩

/-- The deed at a place. -/
theorem OSl.get {w : World} {a : Option Addr} {n c k : Nat} {ts : List Lg.Op} (h : OSl w a n c ts) (hk : k < ts.length) :
    ∃ (A : Addr) (b o : Nat) (s : Option Nat), a = some A ∧ A.add (k * 5) = ⟨b, o, s⟩ ∧ w.cell? ⟨b, o, s⟩ = some (.int .i64 ts[k].k) ∧ w.cell? ⟨b, o + 1, none⟩ = some (.string ts[k].nm) ∧ w.cell? ⟨b, o + 2, none⟩ = some (.string ts[k].tn) ∧ w.cell? ⟨b, o + 3, none⟩ = some (.int .i64 ts[k].a) ∧ w.cell? ⟨b, o + 4, none⟩ = some (.string ts[k].tx) := by
  obtain ⟨A, rfl, hc⟩ := h.at_ (by rintro rfl; simp at hk)
  obtain ⟨g1, g2, g3, g4, g5⟩ := hc k ts[k] (List.getElem?_eq_getElem hk)
  obtain ⟨b, o, s, hy⟩ : ∃ b o s, A.add (k * 5) = ⟨b, o, s⟩ := ⟨_, _, _, rfl⟩
  rw [← Go.Deep.add_add, hy, show (⟨b, o, s⟩ : Addr).add 1 = ⟨b, o + 1, none⟩ from rfl] at g2
  rw [← Go.Deep.add_add, hy, show (⟨b, o, s⟩ : Addr).add 2 = ⟨b, o + 2, none⟩ from rfl] at g3
  rw [← Go.Deep.add_add, hy, show (⟨b, o, s⟩ : Addr).add 3 = ⟨b, o + 3, none⟩ from rfl] at g4
  rw [← Go.Deep.add_add, hy, show (⟨b, o, s⟩ : Addr).add 4 = ⟨b, o + 4, none⟩ from rfl] at g5
  rw [hy] at g1
  exact ⟨A, b, o, s, rfl, hy, g1, g2, g3, g4, g5⟩

/-- Deeds that came in: whole, their texts within the reading. -/
def OArg (w : World) (a : Option Addr) (n c : Nat) (ts : List Lg.Op) : Prop := OSl w a n c ts ∧ ∀ t ∈ ts, t.nm.size ≤ maxLen ∧ t.tn.size ≤ maxLen ∧ t.tx.size ≤ maxLen

section
variable {H : Type} {enc : TypeId × Value → H} {P : Program} {w : World} {base : Nat} {spare : Nat → Bool} {held : Bool}
theorem open_ops {t e : TypeId} {f0 f1 f2 f3 f4 : Field} {fuel : Nat} {cs : List Value} {x : DataW H × List MemPlace} (ht : P.underlying t = some (.slice e)) (he : P.underlying e = some (.struct #[f0, f1, f2, f3, f4]))
    (hone : oneCellFields P #[f0, f1, f2, f3, f4] = true) (hC : P.cellsOf e = 5) (u0 : P.underlying f0.type = some (.int .i64)) (u1 : P.underlying f1.type = some .string) (u2 : P.underlying f2.type = some .string) (u3 : P.underlying f3.type = some (.int .i64)) (u4 : P.underlying f4.type = some .string) (h : DataW.trod enc P w base spare held fuel t cs = some x) :
    ∃ a len cap ts, cs = [.slice a len cap] ∧ OArg w a len cap ts := by
  obtain ⟨a, len, cap, hcs, ⟨rfl, rfl, rfl⟩ | ⟨A, rfl, hl, hm, hi⟩⟩ := open_structs ht he hone hC h
  · exact ⟨none, 0, 0, [], hcs, ⟨fun h => absurd rfl h, rfl, Nat.le_refl _, Nat.zero_le _, fun _ => ⟨rfl, rfl⟩⟩, fun t ht => absurd ht (by simp)⟩
  · have each : ∀ i, i < len → ∃ z : Lg.Op, (w.cell? (A.add (i * 5)) = some (.int .i64 z.k) ∧ w.cell? (A.add (i * 5 + 1)) = some (.string z.nm) ∧ w.cell? (A.add (i * 5 + 2)) = some (.string z.tn) ∧ w.cell? (A.add (i * 5 + 3)) = some (.int .i64 z.a) ∧ w.cell? (A.add (i * 5 + 4)) = some (.string z.tx)) ∧ z.nm.size ≤ maxLen ∧ z.tn.size ≤ maxLen ∧ z.tx.size ≤ maxLen := fun i hil => by
      obtain ⟨v0, y0, m0, c0, t0⟩ := hi i hil 0 f0 rfl
      obtain ⟨v1, y1, m1, c1, t1⟩ := hi i hil 1 f1 rfl
      obtain ⟨v2, y2, m2, c2, t2⟩ := hi i hil 2 f2 rfl
      obtain ⟨v3, y3, m3, c3, t3⟩ := hi i hil 3 f3 rfl
      obtain ⟨v4, y4, m4, c4, t4⟩ := hi i hil 4 f4 rfl
      obtain ⟨z0, e0, -, w0⟩ := DataW.trod_int u0 t0
      obtain ⟨z1, e1, -, w1⟩ := DataW.trod_string u1 t1
      obtain ⟨z2, e2, -, w2⟩ := DataW.trod_string u2 t2
      obtain ⟨z3, e3, -, w3⟩ := DataW.trod_int u3 t3
      obtain ⟨z4, e4, -, w4⟩ := DataW.trod_string u4 t4
      obtain rfl : v0 = .int .i64 z0 := by simpa using e0
      obtain rfl : v1 = .string z1 := by simpa using e1
      obtain rfl : v2 = .string z2 := by simpa using e2
      obtain rfl : v3 = .int .i64 z3 := by simpa using e3
      obtain rfl : v4 = .string z4 := by simpa using e4
      exact ⟨⟨z0, z1, z2, z3, z4⟩, ⟨by simpa using c0, by simpa using c1, by simpa using c2, by simpa using c3, by simpa using c4⟩, w1, w2, w4⟩
    obtain ⟨Z, hZ⟩ : ∃ Z : Nat → Lg.Op, ∀ i, i < len → (w.cell? (A.add (i * 5)) = some (.int .i64 (Z i).k) ∧ w.cell? (A.add (i * 5 + 1)) = some (.string (Z i).nm) ∧ w.cell? (A.add (i * 5 + 2)) = some (.string (Z i).tn) ∧ w.cell? (A.add (i * 5 + 3)) = some (.int .i64 (Z i).a) ∧ w.cell? (A.add (i * 5 + 4)) = some (.string (Z i).tx)) ∧ (Z i).nm.size ≤ maxLen ∧ (Z i).tn.size ≤ maxLen ∧ (Z i).tx.size ≤ maxLen :=
      ⟨fun i => if hi : i < len then Classical.choose (each i hi) else ⟨0, ⟨#[]⟩, ⟨#[]⟩, 0, ⟨#[]⟩⟩, fun i hi => by simp only [dif_pos hi]; exact Classical.choose_spec (each i hi)⟩
    have hmem : ∀ t ∈ (List.range len).map Z, ∃ i, i < len ∧ Z i = t := fun t ht => by
      obtain ⟨i, hi, rfl⟩ := List.mem_map.1 ht
      exact ⟨i, List.mem_range.1 hi, rfl⟩
    refine ⟨some A, len, cap, (List.range len).map Z, hcs, ⟨fun _ => ⟨A, rfl, fun j t hj => ?_⟩, by simp, hl, hm, fun h => by cases h⟩, fun t ht => ?_⟩
    · obtain ⟨hj2, rfl⟩ : j < len ∧ Z j = t := by
        rw [List.getElem?_map] at hj
        obtain ⟨k, hk, rfl⟩ := Option.map_eq_some_iff.1 hj
        obtain ⟨h1, rfl⟩ := List.getElem?_eq_some_iff.1 hk
        simp at h1 ⊢
        exact h1
      exact (hZ j hj2).1
    · obtain ⟨i, hi, rfl⟩ := hmem t ht
      exact (hZ i hi).2
end

end Go.Proofs.YtenkdpogdfcbgaaGreat
