import Derived.Test.YtenkdpogdfcbgaaSgP
import Derived.Test.YtenkdpogdfcbgaaVoC
import Derived.Laws.OwnMore
/- Rows of records, as cells; segments that lie there. -/
namespace Go.Proofs.Ytenkdpogdfcbgaa
open Go.RowKit

theorem Try.infoRec : (Try.prog.info? 36).map (fun i => (i.zero, i.size, i.bytes)) = some (some (.agg #[.bool false, .int .i64 0, .int .i64 0, .string ⟨#[]⟩]), 4, 40) := by kernel_rfl
theorem Try.infoRecs : (Try.prog.info? 45).map (fun i => (i.zero, i.size, i.bytes)) = some (some (.slice none 0 0), 1, 24) := by kernel_rfl

/-- Records as values. -/
def ev : List Sg.R → List Value
  | [] => []
  | t :: l => .bool t.id.is :: .int .i64 t.id.sum :: .int .i64 t.id.n :: .string t.tx :: ev l
def Sg.R.c (r : Sg.R) : List Value := [.bool r.id.is, .int .i64 r.id.sum, .int .i64 r.id.n, .string r.tx]

theorem ev_app (l m : List Sg.R) : ev (l ++ m) = ev l ++ ev m := by
  induction l with
  | nil => rfl
  | cons t l ih => rw [List.cons_append, ev, ih]; rfl
theorem ev_length (l : List Sg.R) : (ev l).length = l.length * 4 := by
  induction l with
  | nil => rfl
  | cons t l ih => rw [ev, List.length_cons, List.length_cons, List.length_cons, List.length_cons, ih, List.length_cons]; omega
theorem ev_one (l : List Sg.R) : ∀ u ∈ ev l, u.oneCell' = true := by
  induction l with
  | nil => intro u hu; cases hu
  | cons t l ih =>
    intro u hu
    rw [ev] at hu
    rcases List.mem_cons.1 hu with rfl | hu
    · rfl
    rcases List.mem_cons.1 hu with rfl | hu
    · rfl
    rcases List.mem_cons.1 hu with rfl | hu
    · rfl
    rcases List.mem_cons.1 hu with rfl | hu
    · rfl
    exact ih u hu
theorem ev_get {l : List Sg.R} {j : Nat} {t : Sg.R} (h : l[j]? = some t) : (ev l)[j * 4]? = some (.bool t.id.is) ∧ (ev l)[j * 4 + 1]? = some (.int .i64 t.id.sum) ∧ (ev l)[j * 4 + 2]? = some (.int .i64 t.id.n) ∧ (ev l)[j * 4 + 3]? = some (.string t.tx) := by
  induction l generalizing j with
  | nil => simp at h
  | cons x l ih =>
    cases j with
    | zero =>
      obtain rfl : x = t := by simpa using h
      exact ⟨rfl, rfl, rfl, rfl⟩
    | succ j =>
      have := ih (j := j) (by simpa using h)
      rw [show (j + 1) * 4 = j * 4 + 1 + 1 + 1 + 1 from by omega]
      exact this
/-- The record at a place. -/
theorem ev_at {w : World} {base n m c k : Nat} {e : TypeId} {a : Option Addr} {l : List Sg.R} (h : w.ownsRow base e 4 (.slice a n c) m (ev l)) (hk : k < l.length) :
    ∃ g, a = some ⟨g, 0, none⟩ ∧ g < w.heap.size ∧ w.cell? ⟨g, k * 4, none⟩ = some (.bool l[k].id.is) ∧ w.cell? ⟨g, k * 4 + 1, none⟩ = some (.int .i64 l[k].id.sum) ∧ w.cell? ⟨g, k * 4 + 2, none⟩ = some (.int .i64 l[k].id.n) ∧ w.cell? ⟨g, k * 4 + 3, none⟩ = some (.string l[k].tx) := by
  have hl := h.1
  rw [ev_length] at hl
  obtain ⟨g, cap, hv, h1, h2⟩ := h.form (by omega)
  cases hv
  have hg := ev_get (List.getElem?_eq_getElem hk)
  exact ⟨g, rfl, h2, by rw [h.cellAt _ (by omega), hg.1], by rw [h.cellAt _ (by omega), hg.2.1], by rw [h.cellAt _ (by omega), hg.2.2.1], by rw [h.cellAt _ (by omega), hg.2.2.2]⟩
theorem own_len4 {w : World} {base m : Nat} {e : TypeId} {v : Value} {l : List Sg.R} (h : w.ownsRow base e 4 v m (ev l)) : l.length = m := by
  have hl := h.1
  rw [ev_length] at hl
  omega

/-- A slice as it lies there. -/
structure Rl where
  a : Option Addr
  n : Nat
  c : Nat

def Rl.v (r : Rl) : Value := .slice r.a r.n r.c
def sv (l : List Rl) : List Value := l.map Rl.v

theorem sv_app (l m : List Rl) : sv (l ++ m) = sv l ++ sv m := List.map_append
theorem sv_length (l : List Rl) : (sv l).length = l.length := List.length_map _
theorem sv_one (l : List Rl) : ∀ u ∈ sv l, u.oneCell' = true := fun u hu => by
  obtain ⟨r, -, rfl⟩ := List.mem_map.1 hu
  rfl
theorem sv_at {w : World} {base n m c k : Nat} {e : TypeId} {a : Option Addr} {l : List Rl} (h : w.ownsRow base e 1 (.slice a n c) m (sv l)) (hk : k < l.length) :
    ∃ g, a = some ⟨g, 0, none⟩ ∧ g < w.heap.size ∧ base ≤ g ∧ w.cell? ⟨g, k, none⟩ = some (.slice l[k].a l[k].n l[k].c) := by
  have hl := h.1
  rw [sv_length] at hl
  obtain ⟨g, cap, hv, h1, h2⟩ := h.form (by omega)
  cases hv
  exact ⟨g, rfl, h2, h1, by rw [h.cellAt _ (by omega)]; unfold sv; rw [List.getElem?_map, List.getElem?_eq_getElem hk]; rfl⟩
theorem own_len1 {w : World} {base m : Nat} {e : TypeId} {v : Value} {l : List Rl} (h : w.ownsRow base e 1 v m (sv l)) : l.length = m := by
  have hl := h.1
  rw [sv_length] at hl
  omega

theorem own_unlike {w : World} {b1 b2 : Nat} {e1 e2 : TypeId} {s1 s2 : Nat} {v1 v2 : Value} {n1 n2 : Nat} {xs1 xs2 : List Value} (h1 : w.ownsRow b1 e1 s1 v1 n1 xs1) (h2 : w.ownsRow b2 e2 s2 v2 n2 xs2) (hne : e1 ≠ e2) : ∀ k, v1.ownBlock = some k → v2.ownBlock ≠ some k := fun k k1 k2 => by
  rcases h1.2 with ⟨rfl, -⟩ | ⟨g, cap, cur, rfl, -, hh, -⟩
  · cases k1
  · rcases h2.2 with ⟨rfl, -⟩ | ⟨g', cap', cur', rfl, -, hh', -⟩
    · cases k2
    · cases k1
      have e : g' = g := Option.some.inj k2
      subst e
      rw [hh] at hh'
      injection hh' with h3
      injection h3 with h4 h5
      exact hne h5

/-- Segments that lie there, from block 'base' on, in rows that share nothing. -/
structure SgW (w : World) (base : Nat) (a : Option Addr) (n c : Nat) (rs : List Rl) (l : List (List Sg.R)) : Prop where
  row : w.ownsRow base 45 1 (.slice a n c) n (sv rs)
  len : l.length = n
  seg : ∀ (i : Nat) (r : Rl) (s : List Sg.R), rs[i]? = some r → l[i]? = some s → w.ownsRow base 36 4 r.v r.n (ev s)
  apart : Apart (rs.map Rl.v)

theorem SgW.rlen {w : World} {base : Nat} {a : Option Addr} {n c : Nat} {rs : List Rl} {l : List (List Sg.R)} (h : SgW w base a n c rs l) : rs.length = n := own_len1 h.row
theorem SgW.keep {w w' : World} {base : Nat} {a : Option Addr} {n c : Nat} {rs : List Rl} {l : List (List Sg.R)} (h : SgW w base a n c rs l) (hb : Below w.heap.size w w') : SgW w' base a n c rs l :=
  ⟨own_keep h.row hb, h.len, fun i r s h1 h2 => own_keep (h.seg i r s h1 h2) hb, h.apart⟩
theorem SgW.low {w : World} {base base' : Nat} {a : Option Addr} {n c : Nat} {rs : List Rl} {l : List (List Sg.R)} (h : SgW w base a n c rs l) (hb : base' ≤ base) : SgW w base' a n c rs l :=
  ⟨own_low h.row hb, h.len, fun i r s h1 h2 => own_low (h.seg i r s h1 h2) hb, h.apart⟩
theorem sgW0 (w : World) (base : Nat) : SgW w base none 0 0 [] [] := ⟨World.ownsRow_nil _ _ _ _, rfl, fun i r s h => by simp at h, List.Pairwise.nil⟩
theorem SgW.rows {w : World} {base : Nat} {a : Option Addr} {n c : Nat} {rs : List Rl} {l : List (List Sg.R)} (h : SgW w base a n c rs l) {r : Rl} (hr : r ∈ rs) : ∃ s, s ∈ l ∧ w.ownsRow base 36 4 r.v r.n (ev s) := by
  obtain ⟨i, hi, rfl⟩ := List.getElem_of_mem hr
  have hl : i < l.length := by rw [h.len, ← h.rlen]; exact hi
  exact ⟨l[i], List.getElem_mem hl, h.seg i _ _ (List.getElem?_eq_getElem hi) (List.getElem?_eq_getElem hl)⟩
/-- Segment k. -/
theorem SgW.at {w : World} {base : Nat} {a : Option Addr} {n c : Nat} {rs : List Rl} {l : List (List Sg.R)} (h : SgW w base a n c rs l) {k : Nat} (hk : k < n) :
    ∃ (g : Nat) (r : Rl) (s : List Sg.R), a = some ⟨g, 0, none⟩ ∧ g < w.heap.size ∧ base ≤ g ∧ w.cell? ⟨g, k, none⟩ = some (.slice r.a r.n r.c) ∧ rs[k]? = some r ∧ l[k]? = some s ∧ w.ownsRow base 36 4 (.slice r.a r.n r.c) r.n (ev s) := by
  have h1 : k < rs.length := by rw [h.rlen]; exact hk
  have h2 : k < l.length := by rw [h.len]; exact hk
  obtain ⟨g, e1, e2, e3, e4⟩ := sv_at h.row h1
  exact ⟨g, rs[k], l[k], e1, e2, e3, e4, List.getElem?_eq_getElem h1, List.getElem?_eq_getElem h2, h.seg k _ _ (List.getElem?_eq_getElem h1) (List.getElem?_eq_getElem h2)⟩

end Go.Proofs.Ytenkdpogdfcbgaa
