/- Targets: what stands while a target is held against what its log says. -/
import Derived.Test.YtenkdpogdfcbgaaGreatTgW2
import Derived.Test.YtenkdpogdfcbgaaGreatTgC
import Derived.Deep.RegionHeld3
namespace Go.Proofs.YtenkdpogdfcbgaaGreat
open Go.RowKit

/-- Cells of a state's box; what stands below. -/
abbrev StS (w : World) (X : Nat) (v0 v1 : Value) (V : World) : Prop := V.cell? ⟨X, 0, none⟩ = some v0 ∧ V.cell? ⟨X, 1, none⟩ = some v1 ∧ Below w.heap.size w V

theorem StS.on {w : World} {X : Nat} {v0 v1 : Value} {V V' : World} (h : StS w X v0 v1 V) (hb : Below V.heap.size V V') : StS w X v0 v1 V' := by
  have k : ∀ {p : Addr} {x : Value}, V.cell? p = some x → V'.cell? p = some x := fun h => by rw [hb.cell (World.block_lt_of_cell? V _ h)]; exact h
  exact ⟨k h.1, k h.2.1, h.2.2.trans (hb.mono h.2.2.size)⟩
theorem StS.drew {w : World} {X : Nat} {v0 v1 : Value} {V : World} (h : StS w X v0 v1 V) : StS w X v0 v1 V.drew := h.on (Below.refl _ V).drew

/-- What a target's log says, replayed, is its state. -/
theorem Replay_T {t : Tg.S} {G : Nat} (h : Tg.Good t G) (w : World) : Calls Tryz.prog 22 #[.string (Tg.text t)] w (RepTo w t.st t.l.length 0) := by
  have h1 := Replay_L (Tg.text t) t.l [] 0 w (by rw [List.append_nil]; rfl) (by have := h.size; omega) h.len (by rw [h.run]) (Or.inl ⟨rfl, rfl⟩)
  rw [if_pos rfl, if_pos rfl, h.run] at h1
  exact h1

/-- Cells of a state's box; only a target's box may be another. -/
abbrev StG (w : World) (B X : Nat) (v0 v1 : Value) (V : World) : Prop := V.cell? ⟨X, 0, none⟩ = some v0 ∧ V.cell? ⟨X, 1, none⟩ = some v1 ∧ w.grownBy V (some B)

theorem StG.grown {w : World} {B X : Nat} {v0 v1 : Value} {V V' : World} (h : StG w B X v0 v1 V) (hg : V.grownBy V' (some B)) (hne : X ≠ B) : StG w B X v0 v1 V' :=
  ⟨hg.cell h.1 (fun e => hne (Option.some.inj e)), hg.cell h.2.1 (fun e => hne (Option.some.inj e)), gb_trans h.2.2 hg⟩
theorem StG.on {w : World} {B X : Nat} {v0 v1 : Value} {V V' : World} (h : StG w B X v0 v1 V) (hb : Below V.heap.size V V') (hne : X ≠ B) : StG w B X v0 v1 V' := h.grown (gb_below hb) hne
theorem StG.drew {w : World} {B X : Nat} {v0 v1 : Value} {V : World} (h : StG w B X v0 v1 V) : StG w B X v0 v1 V.drew := ⟨h.1, h.2.1, gb_drew h.2.2⟩

end Go.Proofs.YtenkdpogdfcbgaaGreat
