/- For the laws on reservations: boxes through a region that draws its order; first results. -/
import Derived.Test.YtoglkellaliegaaRgV
namespace Go.Proofs.Ytoglkellaliegaa
open Go.RowKit

/-- What a region is told: a box that it reads, a box that it writes. -/
theorem bx_on {w V V' : World} {B1 B2 : Nat} {v0 v1 v2 v3 : Value} (hb : Below V.heap.size V V') (h : V.cell? ⟨B1, 0, none⟩ = some v0 ∧ V.cell? ⟨B1, 1, none⟩ = some v1 ∧ V.cell? ⟨B1, 2, none⟩ = some v2 ∧ V.cell? ⟨B1, 3, none⟩ = some v3 ∧ Below w.heap.size w V ∧ B1 < V.heap.size ∧ RBox V B2) :
    V'.cell? ⟨B1, 0, none⟩ = some v0 ∧ V'.cell? ⟨B1, 1, none⟩ = some v1 ∧ V'.cell? ⟨B1, 2, none⟩ = some v2 ∧ V'.cell? ⟨B1, 3, none⟩ = some v3 ∧ Below w.heap.size w V' ∧ B1 < V'.heap.size ∧ RBox V' B2 := by
  obtain ⟨h0, h1, h2, h3, h5, h6, h7⟩ := h
  have hs := hb.size
  have e : ∀ B j, B < V.heap.size → V'.cell? ⟨B, j, none⟩ = V.cell? ⟨B, j, none⟩ := fun B j hB => hb.cell (p := ⟨B, j, none⟩) hB
  exact ⟨by rw [e _ _ h6]; exact h0, by rw [e _ _ h6]; exact h1, by rw [e _ _ h6]; exact h2, by rw [e _ _ h6]; exact h3, h5.trans (hb.mono h5.size), by omega, h7.on hb⟩

theorem bx_set4 {w V : World} {B1 B2 : Nat} {v0 v1 v2 v3 u0 u1 u2 u3 : Value} (hne : B1 ≠ B2) (hw : w.heap.size ≤ B2) (h : V.cell? ⟨B1, 0, none⟩ = some v0 ∧ V.cell? ⟨B1, 1, none⟩ = some v1 ∧ V.cell? ⟨B1, 2, none⟩ = some v2 ∧ V.cell? ⟨B1, 3, none⟩ = some v3 ∧ Below w.heap.size w V ∧ B1 < V.heap.size ∧ RBox V B2) :
    let V' := ((((V.setCell ⟨B2, 0, none⟩ u0).setCell ⟨B2, 1, none⟩ u1).setCell ⟨B2, 2, none⟩ u2).setCell ⟨B2, 3, none⟩ u3)
    V'.cell? ⟨B1, 0, none⟩ = some v0 ∧ V'.cell? ⟨B1, 1, none⟩ = some v1 ∧ V'.cell? ⟨B1, 2, none⟩ = some v2 ∧ V'.cell? ⟨B1, 3, none⟩ = some v3 ∧ Below w.heap.size w V' ∧ B1 < V'.heap.size ∧ RBox V' B2 := by
  obtain ⟨h0, h1, h2, h3, h5, h6, h7⟩ := h
  have o : ∀ (W : World) (i j : Nat) (v : Value), (W.setCell ⟨B2, i, none⟩ v).cell? ⟨B1, j, none⟩ = W.cell? ⟨B1, j, none⟩ := fun W i j v => World.cell?_setCell_other _ _ _ _ (by simp only [ne_eq, Addr.mk.injEq, not_and]; omega)
  obtain ⟨q0, q1, q2, q3, hq⟩ := h7
  have e : ∀ j, ((((V.setCell ⟨B2, 0, none⟩ u0).setCell ⟨B2, 1, none⟩ u1).setCell ⟨B2, 2, none⟩ u2).setCell ⟨B2, 3, none⟩ u3).cell? ⟨B1, j, none⟩ = V.cell? ⟨B1, j, none⟩ := fun j => by rw [o, o, o, o]
  exact ⟨by rw [e]; exact h0, by rw [e]; exact h1, by rw [e]; exact h2, by rw [e]; exact h3, below_set4 h5 hw _ _ _ _, by simp only [World.size_setCell]; exact h6, _, _, _, _, hq.set _ _ _ _⟩

theorem TSl.empty {w w' : World} {a : Option Addr} {n c : Nat} (h : TSl w a n c []) : TSl w' a n c [] := ⟨fun h => absurd rfl h, h.len, h.cap, h.max, h.nil⟩

theorem below_arm {w V ws : World} (h : Below w.heap.size w V) (hb : Below V.heap.size V ws) : Below w.heap.size w ws := h.trans (hb.mono h.size)

/-- One box that is read. -/
theorem b1_on {w V V' : World} {B1 : Nat} {v0 v1 v2 v3 : Value} (hb : Below V.heap.size V V') (h : V.cell? ⟨B1, 0, none⟩ = some v0 ∧ V.cell? ⟨B1, 1, none⟩ = some v1 ∧ V.cell? ⟨B1, 2, none⟩ = some v2 ∧ V.cell? ⟨B1, 3, none⟩ = some v3 ∧ Below w.heap.size w V ∧ B1 < V.heap.size) :
    V'.cell? ⟨B1, 0, none⟩ = some v0 ∧ V'.cell? ⟨B1, 1, none⟩ = some v1 ∧ V'.cell? ⟨B1, 2, none⟩ = some v2 ∧ V'.cell? ⟨B1, 3, none⟩ = some v3 ∧ Below w.heap.size w V' ∧ B1 < V'.heap.size := by
  obtain ⟨h0, h1, h2, h3, h5, h6⟩ := h
  have hs := hb.size
  have e : ∀ B j, B < V.heap.size → V'.cell? ⟨B, j, none⟩ = V.cell? ⟨B, j, none⟩ := fun B j hB => hb.cell (p := ⟨B, j, none⟩) hB
  exact ⟨by rw [e _ _ h6]; exact h0, by rw [e _ _ h6]; exact h1, by rw [e _ _ h6]; exact h2, by rw [e _ _ h6]; exact h3, h5.trans (hb.mono h5.size), by omega⟩

/-- A value of a row of the call's own can be read wherever it stands. -/
theorem own_tsl {w w' : World} {base n c : Nat} {a : Option Addr} {e : TypeId} {ts : List Qu.T} (h : w.ownsRow base e 2 (.slice a n c) n (tv ts)) (hb : Below w.heap.size w w') : TSl w' a n c ts := by
  obtain ⟨a', c', he, hT⟩ := own_slice h
  cases he
  exact hT.keep hb

theorem own_len {w : World} {base n c : Nat} {a : Option Addr} {e : TypeId} {ts : List Qu.T} (h : w.ownsRow base e 2 (.slice a n c) n (tv ts)) : ts.length = n := by
  have := h.1
  rw [tv_length] at this
  omega

theorem clear_first (a : Option Addr) (c : Nat) (w : World) (hT : TSl w a 2 c [(1, 5), (2, 6)]) : Calls Try.prog 46 #[.agg #[.int .i64 2, .slice a 2 c, .int .i64 0, .int .i64 0], .int .i64 1, .int .i64 5] w fun e w' =>
    ∃ a c, e = .returned (.tuple #[.agg #[.int .i64 3, .slice a 0 c, .int .i64 0, .int .i64 0], .int .i64 0]) ∧ Below w.heap.size w w' := by
  refine (Clear_R 2 0 0 1 5 a 2 c [(1, 5), (2, 6)] w good_two hT (by omega) (by omega)).mono ?_
  have e1 : rz (Rg.clrR ⟨2, [(1, 5), (2, 6)], 0, 0⟩) (Rg.clrE ⟨2, [(1, 5), (2, 6)], 0, 0⟩ 1 5) = ⟨3, [], 0, 0⟩ := by kernel_rfl
  have e2 : Rg.clrE ⟨2, [(1, 5), (2, 6)], 0, 0⟩ 1 5 = 0 := by kernel_rfl
  rw [e1, e2]
  rintro e w' ⟨a, n, c, rfl, ho, hb⟩
  obtain rfl : n = 0 := (own_len ho).symm
  exact ⟨a, c, rfl, hb⟩

theorem good_reserved (kk q : Int) (hk : Rg.kindB kk = true) (hq : (if Rg.all kk = true then 0 else 1) = q) : Rg.Good ⟨2, [(1, 5), (2, 6)], kk, q⟩ := by
  have e : Rg.resE ⟨2, [(1, 5), (2, 6)], 0, 0⟩ 1 5 kk = 0 := by
    unfold Rg.resE
    rw [if_neg (by decide)]
    rfl
  have h := good_two.res (w := 1) hk e
  unfold Rg.resR at h
  rw [← hq]
  exact h

theorem reserve_first (kk q : Int) (hk : Rg.kindB kk = true) (hq : (if Rg.all kk = true then 0 else 1) = q) (a : Option Addr) (c : Nat) (w : World) (hT : TSl w a 2 c [(1, 5), (2, 6)]) :
    Calls Try.prog 32 #[.agg #[.int .i64 2, .slice a 2 c, .int .i64 0, .int .i64 0], .int .i64 1, .int .i64 5, .int .i64 kk] w fun e w' =>
      ∃ a c, e = .returned (.tuple #[.agg #[.int .i64 2, .slice a 2 c, .int .i64 kk, .int .i64 q], .int .i64 0]) ∧ w'.ownsRow w.heap.size 56 2 (.slice a 2 c) 2 (tv [(1, 5), (2, 6)]) ∧ Below w.heap.size w w' := by
  refine (Reserve_R 2 0 0 1 5 kk a 2 c [(1, 5), (2, 6)] w good_two hT (by omega) (by omega) hk).mono ?_
  have e2 : Rg.resE ⟨2, [(1, 5), (2, 6)], 0, 0⟩ 1 5 kk = 0 := by
    unfold Rg.resE
    rw [if_neg (by decide)]
    rfl
  have e1 : rz (Rg.resR ⟨2, [(1, 5), (2, 6)], 0, 0⟩ 1 kk) 0 = ⟨2, [(1, 5), (2, 6)], kk, q⟩ := by
    unfold rz Rg.resR
    rw [if_pos rfl, ← hq]
  rw [e2, e1]
  rintro e w' ⟨a, n, c, rfl, ho, hb⟩
  obtain rfl : n = 2 := (own_len ho).symm
  exact ⟨a, c, rfl, ho, hb⟩

end Go.Proofs.Ytoglkellaliegaa
