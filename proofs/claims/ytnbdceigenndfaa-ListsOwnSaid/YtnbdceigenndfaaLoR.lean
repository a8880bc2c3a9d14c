import Derived.Test.YtnbdceigenndfaaUse
import Derived.Laws.AppendOwnNone
/- Rows that are kept account of: what lies in the call's own rows, each apart from all others. -/
namespace Go.Proofs.Ytnbdceigenndfaa
open Go.RowKit

theorem lo_block_lt {w : World} {base n size : Nat} {e : TypeId} {v : Value} {xs : List Value} (h : w.ownsRow base e size v n xs) : ∀ k, v.ownBlock = some k → k < w.heap.size := by
  intro k hk
  rcases h.2 with ⟨rfl, _⟩ | ⟨g, cap, cur, rfl, hb, hh, _⟩
  · cases hk
  · cases hk
    rcases Nat.lt_or_ge g w.heap.size with h | h
    · exact h
    · rw [Array.getElem?_eq_none h] at hh; cases hh
theorem lo_base {w : World} {base n size : Nat} {e : TypeId} {v : Value} {xs : List Value} (h : w.ownsRow base e size v n xs) : ∀ k, v.ownBlock = some k → base ≤ k := by
  intro k hk
  rcases h.2 with ⟨rfl, _⟩ | ⟨g, cap, cur, rfl, hb, hh, _⟩
  · cases hk
  · cases hk
    exact hb
theorem lo_kept {w w' : World} {base n size : Nat} {e : TypeId} {v : Value} {xs : List Value} (h : w.ownsRow base e size v n xs) (hb : ∀ k, v.ownBlock = some k → w'.heap[k]? = w.heap[k]?) : w'.ownsRow base e size v n xs := by
  refine ⟨h.1, ?_⟩
  rcases h.2 with h0 | ⟨g, cap, cur, rfl, h1, hh, r⟩
  · exact Or.inl h0
  · exact Or.inr ⟨g, cap, cur, rfl, h1, by rw [hb g rfl]; exact hh, r⟩
theorem lo_low {w : World} {base base' n size : Nat} {e : TypeId} {v : Value} {xs : List Value} (h : w.ownsRow base e size v n xs) (hb : base' ≤ base) : w.ownsRow base' e size v n xs := by
  refine ⟨h.1, ?_⟩
  rcases h.2 with h0 | ⟨g, cap, cur, rfl, h1, r⟩
  · exact Or.inl h0
  · exact Or.inr ⟨g, cap, cur, rfl, Nat.le_trans hb h1, r⟩
theorem lo_shape {w : World} {base n size : Nat} {e : TypeId} {v : Value} {xs : List Value} (h : w.ownsRow base e size v n xs) : ∃ a c, v = .slice a n c ∧ n ≤ c ∧ c ≤ maxLen ∧ (a = none → n = 0 ∧ c = 0) := by
  rcases h.2 with ⟨rfl, h0⟩ | ⟨g, cap, cur, rfl, h1, hh, h2, h3, r⟩
  · subst h0
    exact ⟨none, 0, rfl, Nat.le_refl _, Nat.zero_le _, fun _ => ⟨rfl, rfl⟩⟩
  · exact ⟨_, cap, rfl, h2, h3, fun h => by cases h⟩

/-- A row that is held. -/
structure Hr where
  T : TypeId
  k : Nat
  v : Value
  n : Nat
  xs : List Value

structure Rows (w : World) (base : Nat) (rs : List Hr) : Prop where
  own : ∀ r ∈ rs, w.ownsRow base r.T r.k r.v r.n r.xs
  apart : rs.Pairwise fun r s => ∀ j, r.v.ownBlock = some j → s.v.ownBlock ≠ some j

theorem rows_nil (w : World) (base : Nat) : Rows w base [] := ⟨fun r hr => (by cases hr), List.Pairwise.nil⟩
theorem Rows.kept {w w' : World} {base : Nat} {rs : List Hr} (h : Rows w base rs) (hb : ∀ r ∈ rs, ∀ k, r.v.ownBlock = some k → w'.heap[k]? = w.heap[k]?) : Rows w' base rs := ⟨fun r hr => lo_kept (h.own r hr) (hb r hr), h.apart⟩
theorem Rows.keep {w w' : World} {base : Nat} {rs : List Hr} (h : Rows w base rs) (hb : Below w.heap.size w w') : Rows w' base rs := h.kept fun r hr k hk => hb.block k (lo_block_lt (h.own r hr) k hk)
theorem Rows.cons {w w' : World} {base k n : Nat} {rs : List Hr} {T : TypeId} {v : Value} {xs : List Value} (h : Rows w base rs) (hb : Below w.heap.size w w') (ho : w'.ownsRow w.heap.size T k v n xs) (hs : base ≤ w.heap.size) : Rows w' base (⟨T, k, v, n, xs⟩ :: rs) := by
  refine ⟨fun r hr => ?_, List.pairwise_cons.2 ⟨fun s hs j hj e => ?_, h.apart⟩⟩
  · rcases List.mem_cons.1 hr with rfl | hr
    · exact lo_low ho hs
    · exact (h.keep hb).own r hr
  · have h1 := lo_base ho j hj
    have h2 := lo_block_lt (h.own s hs) j e
    omega
/-- What lies before all of them is turned. -/
theorem Rows.other {w w' : World} {base : Nat} {row : Option Nat} {rs : List Hr} (h : Rows w base rs) (hg : w.grownBy w' row) (hr : ∀ j, row = some j → j < base) : Rows w' base rs :=
  h.kept fun r hm k hk => hg.block k (lo_block_lt (h.own r hm) k hk) fun e => by
    have h1 := hr k e.symm
    have h2 := lo_base (h.own r hm) k hk
    omega
/-- One of them is spoilt. -/
theorem Rows.spoil {w w' : World} {base : Nat} {rs : List Hr} {r : Hr} (h : Rows w base rs) (i : Nat) (hr : rs[i]? = some r) (hg : w.grownBy w' r.v.ownBlock) : Rows w' base (rs.eraseIdx i) := by
  obtain ⟨hi, rfl⟩ := List.getElem?_eq_some_iff.1 hr
  have hp := List.pairwise_iff_getElem.1 h.apart
  have h2 : Rows w base (rs.eraseIdx i) := ⟨fun r hr => h.own r (List.mem_of_mem_eraseIdx hr), h.apart.sublist (List.eraseIdx_sublist ..)⟩
  refine h2.kept fun r hm k hk => hg.block k (lo_block_lt (h2.own r hm) k hk) fun e => ?_
  rw [List.mem_eraseIdx_iff_getElem] at hm
  obtain ⟨j, hj, hne, rfl⟩ := hm
  rcases Nat.lt_or_gt_of_ne hne with h3 | h3
  · exact hp j i hj hi h3 k hk e.symm
  · exact hp i j hi hj h3 k e.symm hk
theorem Rows.get {w : World} {base : Nat} {rs : List Hr} {r : Hr} (h : Rows w base rs) (i : Nat) (hr : rs[i]? = some r) : w.ownsRow base r.T r.k r.v r.n r.xs := h.own r (List.mem_of_getElem? hr)

/-- A list of cells that lies at a slice. -/
structure At (w : World) (a : Option Addr) (n k : Nat) (xs : List Value) : Prop where
  len : xs.length = n * k
  cells : ∀ x, a = some x → ∀ j u, xs[j]? = some u → w.cell? (x.add j) = some u
  there : n ≠ 0 → ∃ x, a = some x
theorem At.keep {w w' : World} {a : Option Addr} {n k : Nat} {xs : List Value} (h : At w a n k xs) (hb : Below w.heap.size w w') : At w' a n k xs :=
  ⟨h.len, fun x hx j u hu => by
    have h1 := h.cells x hx j u hu
    rw [hb.cell (World.block_lt_of_cell? w _ h1)]
    exact h1, h.there⟩
theorem at_own {w : World} {base n m c k : Nat} {T : TypeId} {a : Option Addr} {xs : List Value} (h : w.ownsRow base T k (.slice a n c) m xs) : At w a n k xs := by
  obtain ⟨a', c', hv, -, -, -⟩ := lo_shape h
  cases hv
  refine ⟨h.1, fun x hx j u hu => ?_, fun h0 => ?_⟩
  · subst hx
    obtain ⟨g, hx⟩ : ∃ g, x = ⟨g, 0, none⟩ := by
      rcases h.2 with ⟨h1, -⟩ | ⟨g, cap, cur, hv, -⟩
      · cases h1
      · cases hv; exact ⟨g, rfl⟩
    subst hx
    exact h.cells (g := g) rfl j u hu
  · rcases h.2 with ⟨h1, h2⟩ | ⟨g, cap, cur, hv, -⟩
    · omega
    · cases hv; exact ⟨_, rfl⟩
theorem At.one {w : World} {a : Option Addr} {n : Nat} {xs : List Value} (h : At w a n 1 xs) {j : Nat} (hj : j < n) : ∃ (A : Addr) (b o : Nat) (s : Option Nat) (u : Value), a = some A ∧ A.add j = ⟨b, o, s⟩ ∧ xs[j]? = some u ∧ w.cell? ⟨b, o, s⟩ = some u := by
  obtain ⟨x, rfl⟩ := h.there (by omega)
  have hl : j < xs.length := by rw [h.len]; omega
  obtain ⟨b, o, s, hy⟩ : ∃ b o s, x.add j = ⟨b, o, s⟩ := ⟨_, _, _, rfl⟩
  have h1 := h.cells x rfl j _ (List.getElem?_eq_getElem hl)
  rw [hy] at h1
  exact ⟨x, b, o, s, _, rfl, hy, List.getElem?_eq_getElem hl, h1⟩

/-- What a call that answers a new row leaves. -/
def RowTo (w : World) (T : TypeId) (k : Nat) (xs : List Value) (e : Ending) (w' : World) : Prop :=
  ∃ a n c E, e = .returned (.tuple #[.slice a n c, E]) ∧ w'.ownsRow w.heap.size T k (.slice a n c) n xs ∧ Below w.heap.size w w'
theorem rowTo_of {w w' : World} {T : TypeId} {k n : Nat} {v E : Value} {xs : List Value} {e : Ending} (he : e = .returned (.tuple #[v, E])) (ho : w'.ownsRow w.heap.size T k v n xs) (hb : Below w.heap.size w w') : RowTo w T k xs e w' := by
  obtain ⟨a, c, rfl, -⟩ := lo_shape ho
  exact ⟨a, n, c, E, he, ho, hb⟩
theorem rowTo_nil {w w' : World} {T : TypeId} {k : Nat} {E : Value} {e : Ending} (he : e = .returned (.tuple #[.slice none 0 0, E])) (hb : Below w.heap.size w w') : RowTo w T k [] e w' := ⟨none, 0, 0, E, he, World.ownsRow_nil _ _ _ _, hb⟩

end Go.Proofs.Ytnbdceigenndfaa
