/- A box of the call's own, of whatever cells. -/
import Derived.Test.YthccdoejnklidaaUse
import Derived.Below
namespace Go.Proofs.Ythccdoejnklidaa
open Go.RowKit

theorem below_drewN0 {B : Nat} {a w : World} (h : Below B a w) (n : Nat) : Below B a (w.drewN n) := ⟨h.os, h.tape, h.output, h.size, h.block⟩

/-- A box of some cells. -/
structure Bxs (W : World) (B : Nat) (cs : List Value) : Prop where
  lt : B < W.heap.size
  c : ∀ (j : Nat) (v : Value), cs[j]? = some v → W.cell? ⟨B, j, none⟩ = some v
  z : ∀ j, j < cs.length → W.frozen? ⟨B, j, none⟩ = false

theorem bxs_new (w : World) (T : TypeId) (cs : Array Value) (l : List Value) (hl : cs.toList = l) : Bxs (w.alloc (.cells cs T)) w.heap.size l := by
  subst hl
  have h : (w.alloc (.cells cs T)).heap[w.heap.size]? = some (.cells cs T) := by show (w.heap.push _)[w.heap.size]? = _; rw [Array.getElem?_push, if_pos rfl]
  refine ⟨by rw [World.size_alloc]; exact Nat.lt_succ_self _, fun j v hj => cell_new w (k := j) (by simpa using hj), fun j _ => ?_⟩
  unfold World.frozen?
  rw [h]
  simp

theorem Bxs.block {W W' : World} {B : Nat} {cs : List Value} (h : Bxs W B cs) (hs : B < W'.heap.size) (hb : W'.heap[B]? = W.heap[B]?) : Bxs W' B cs := by
  have hc : ∀ j, W'.cell? ⟨B, j, none⟩ = W.cell? ⟨B, j, none⟩ := fun j => by unfold World.cell?; rw [hb]
  have hz : ∀ j, W'.frozen? ⟨B, j, none⟩ = W.frozen? ⟨B, j, none⟩ := fun j => by unfold World.frozen?; rw [hb]
  exact ⟨hs, fun j v hj => by rw [hc]; exact h.c j v hj, fun j hj => by rw [hz]; exact h.z j hj⟩

theorem Bxs.on {W W' : World} {B : Nat} {cs : List Value} (h : Bxs W B cs) (hb : Below W.heap.size W W') : Bxs W' B cs := h.block (Nat.lt_of_lt_of_le h.lt hb.size) (hb.block B h.lt)
theorem Bxs.alloc {W : World} {B : Nat} {cs : List Value} (h : Bxs W B cs) (o : Obj) : Bxs (W.alloc o) B cs := h.on ((Below.refl _ W).alloc (Nat.le_refl _) _)
theorem Bxs.drew {W : World} {B : Nat} {cs : List Value} (h : Bxs W B cs) : Bxs W.drew B cs := h.on (Below.refl _ W).drew
theorem Bxs.drewN {W : World} {B : Nat} {cs : List Value} (h : Bxs W B cs) (n : Nat) : Bxs (W.drewN n) B cs := h.on (below_drewN0 (Below.refl _ W) n)

theorem Bxs.other {W : World} {B : Nat} {cs : List Value} (h : Bxs W B cs) {b i : Nat} (hb : b ≠ B) (u : Value) : Bxs (W.setCell ⟨b, i, none⟩ u) B cs := by
  have o : ∀ (j : Nat), (W.setCell ⟨b, i, none⟩ u).cell? ⟨B, j, none⟩ = W.cell? ⟨B, j, none⟩ := fun j => World.cell?_setCell_other _ _ _ _ (by simp only [ne_eq, Addr.mk.injEq, not_and]; omega)
  exact ⟨by rw [World.size_setCell]; exact h.lt, fun j v hj => by rw [o]; exact h.c j v hj, fun j hj => by rw [World.frozen?_setCell]; exact h.z j hj⟩

theorem Bxs.set {W : World} {B : Nat} {cs : List Value} (h : Bxs W B cs) (i : Nat) (hi : i < cs.length) (u : Value) {cs' : List Value} (hc : cs' = cs.set i u) : Bxs (W.setCell ⟨B, i, none⟩ u) B cs' := by
  subst hc
  have o : ∀ (j : Nat), j ≠ i → (W.setCell ⟨B, i, none⟩ u).cell? ⟨B, j, none⟩ = W.cell? ⟨B, j, none⟩ := fun j hj => World.cell?_setCell_other _ _ _ _ (by simp only [ne_eq, Addr.mk.injEq, not_and]; omega)
  refine ⟨by rw [World.size_setCell]; exact h.lt, fun j v hj => ?_, fun j hj => by rw [World.frozen?_setCell]; exact h.z j (by rwa [List.length_set] at hj)⟩
  by_cases hji : j = i
  · subst hji
    rw [List.getElem?_set_self hi] at hj
    cases hj
    exact World.cell?_setCell_same _ _ _ (h.c j cs[j] (List.getElem?_eq_getElem hi))
  · rw [List.getElem?_set_ne (fun h => hji h.symm)] at hj
    rw [o j hji]
    exact h.c j v hj

theorem Bxs.set5 {W : World} {B : Nat} {v0 v1 v2 v3 v4 : Value} (h : Bxs W B [v0, v1, v2, v3, v4]) (u0 u1 u2 u3 u4 : Value) :
    Bxs (((((W.setCell ⟨B, 0, none⟩ u0).setCell ⟨B, 1, none⟩ u1).setCell ⟨B, 2, none⟩ u2).setCell ⟨B, 3, none⟩ u3).setCell ⟨B, 4, none⟩ u4) B [u0, u1, u2, u3, u4] :=
  ((((h.set 0 (by decide : 0 < 5) u0 rfl).set 1 (by decide : 1 < 5) u1 rfl).set 2 (by decide : 2 < 5) u2 rfl).set 3 (by decide : 3 < 5) u3 rfl).set 4 (by decide : 4 < 5) u4 rfl

theorem below_set5 {N : Nat} {w W : World} {B : Nat} (h : Below N w W) (hN : N ≤ B) (u0 u1 u2 u3 u4 : Value) :
    Below N w (((((W.setCell ⟨B, 0, none⟩ u0).setCell ⟨B, 1, none⟩ u1).setCell ⟨B, 2, none⟩ u2).setCell ⟨B, 3, none⟩ u3).setCell ⟨B, 4, none⟩ u4) :=
  ((((h.setCell hN _).setCell hN _).setCell hN _).setCell hN _).setCell hN _

theorem Bxs.set3 {W : World} {B : Nat} {v0 v1 v2 : Value} (h : Bxs W B [v0, v1, v2]) (u0 u1 u2 : Value) :
    Bxs (((W.setCell ⟨B, 0, none⟩ u0).setCell ⟨B, 1, none⟩ u1).setCell ⟨B, 2, none⟩ u2) B [u0, u1, u2] :=
  ((h.set 0 (by decide : 0 < 3) u0 rfl).set 1 (by decide : 1 < 3) u1 rfl).set 2 (by decide : 2 < 3) u2 rfl

theorem Bxs.set2 {W : World} {B : Nat} {v0 v1 : Value} (h : Bxs W B [v0, v1]) (u0 u1 : Value) :
    Bxs ((W.setCell ⟨B, 0, none⟩ u0).setCell ⟨B, 1, none⟩ u1) B [u0, u1] :=
  (h.set 0 (by decide : 0 < 2) u0 rfl).set 1 (by decide : 1 < 2) u1 rfl

theorem Bxs.grown {W W' : World} {B : Nat} {cs : List Value} {row : Option Nat} (h : Bxs W B cs) (hg : W.grownBy W' row) (hr : some B ≠ row) : Bxs W' B cs := h.block (Nat.lt_of_lt_of_le h.lt hg.size) (hg.block B h.lt hr)

theorem below_set3 {N : Nat} {w W : World} {B : Nat} (h : Below N w W) (hN : N ≤ B) (u0 u1 u2 : Value) :
    Below N w (((W.setCell ⟨B, 0, none⟩ u0).setCell ⟨B, 1, none⟩ u1).setCell ⟨B, 2, none⟩ u2) := ((h.setCell hN _).setCell hN _).setCell hN _

theorem below_set2 {N : Nat} {w W : World} {B : Nat} (h : Below N w W) (hN : N ≤ B) (u0 u1 : Value) :
    Below N w ((W.setCell ⟨B, 0, none⟩ u0).setCell ⟨B, 1, none⟩ u1) := (h.setCell hN _).setCell hN _

/-- A row of the call's own stands where another box is written. -/
theorem own_other {w : World} {base B j : Nat} {e : TypeId} {size : Nat} {v : Value} {n : Nat} {xs : List Value} (h : w.ownsRow base e size v n xs) (hv : v.ownBlock ≠ some B) (u : Value) : (w.setCell ⟨B, j, none⟩ u).ownsRow base e size v n xs := by
  refine ⟨h.1, ?_⟩
  rcases h.2 with h2 | ⟨g, cap, cur, hv', hg, hh, r⟩
  · exact Or.inl h2
  · refine Or.inr ⟨g, cap, cur, hv', hg, ?_, r⟩
    have hne : g ≠ B := fun e => hv (by rw [hv', e]; rfl)
    have := heap_setCell_other w ⟨B, j, none⟩ g u (fun e => hne e)
    rw [this]; exact hh

end Go.Proofs.Ythccdoejnklidaa
