/- The walk of lz.Expand: what tokens make. -/
import Derived.Test.YtnbdceigenndfaaLzW
namespace Go.Proofs.Ytnbdceigenndfaa
open Go.RowKit

theorem addr_lit0 (b j : Nat) : (⟨b, 0, none⟩ : Addr).add j = ⟨b, j, none⟩ := by unfold Addr.add; split <;> simp_all

theorem own_lt {w : World} {base : Nat} {e : TypeId} {size : Nat} {v : Value} {n : Nat} {xs : List Value} (h : w.ownsRow base e size v n xs) : ∀ k, v.ownBlock = some k → k < w.heap.size := by
  intro k hk
  rcases h.2 with ⟨rfl, _⟩ | ⟨g, cap, cur, rfl, hb, hh, _⟩
  · cases hk
  · cases hk; exact (Array.getElem?_eq_some_iff.1 hh).1

/-- The three cells of a token's box. -/
def KBox (w : World) (B : Nat) (d n b : Int) : Prop := w.cell? ⟨B, 0, none⟩ = some (.int .i64 d) ∧ w.cell? ⟨B, 1, none⟩ = some (.int .i64 n) ∧ w.cell? ⟨B, 2, none⟩ = some (.int .i64 b) ∧ B < w.heap.size

theorem KBox.on {w w' : World} {B : Nat} {d n b : Int} (h : KBox w B d n b) (hb : Below w.heap.size w w') : KBox w' B d n b :=
  ⟨(hb.cell (p := ⟨B, 0, none⟩) h.2.2.2).trans h.1, (hb.cell (p := ⟨B, 1, none⟩) h.2.2.2).trans h.2.1, (hb.cell (p := ⟨B, 2, none⟩) h.2.2.2).trans h.2.2.1, Nat.lt_of_lt_of_le h.2.2.2 hb.size⟩

theorem kbox_new (w : World) (T : TypeId) (d n b : Int) : KBox (w.alloc (.cells #[.int .i64 d, .int .i64 n, .int .i64 b] T)) w.heap.size d n b :=
  ⟨cell_new w (k := 0) rfl, cell_new w (k := 1) rfl, cell_new w (k := 2) rfl, by rw [World.size_alloc]; exact Nat.lt_succ_self _⟩

theorem KBox.grew {w w' : World} {B : Nat} {d n b : Int} {row : Option Nat} (h : KBox w B d n b) (hg : w.grownBy w' row) (hs : w.heap.size ≤ w'.heap.size) (hr : ∀ k, row = some k → k ≠ B) : KBox w' B d n b := by
  have hne : some B ≠ row := fun e => hr B e.symm rfl
  exact ⟨(hg.cell_far ⟨B, 0, none⟩ h.2.2.2 hne).trans h.1, (hg.cell_far ⟨B, 1, none⟩ h.2.2.2 hne).trans h.2.1, (hg.cell_far ⟨B, 2, none⟩ h.2.2.2 hne).trans h.2.2.1, Nat.lt_of_lt_of_le h.2.2.2 hs⟩

/-- A row of bytes is no token's box. -/
theorem own_nobox {w : World} {base B g c : Nat} {e : TypeId} {m : Nat} {l : List UInt8} {d n b : Int} (h : w.ownsRow base e 1 (.slice (some ⟨g, 0, none⟩) m c) m (bv l)) (hm : 0 < l.length) (hB : KBox w B d n b) : g ≠ B := by
  rintro rfl
  have h1 := h.cells (g := g) rfl 0 (.int .u8 (l[0].toNat : Int)) (by simp [bv, hm])
  rw [show (⟨g, 0, none⟩ : Addr).add 0 = ⟨g, 0, none⟩ from rfl, hB.1] at h1
  cases h1

theorem codeT_eq (out : List UInt8) (m : Nat) (d n b : Int) (hm : out.length = m) :
    Lz.codeT out ⟨d, n, b⟩ = if Lz.okT ⟨d, n, b⟩ = false then 1 else if (m : Int) < d then 3 else if 600 < m + Lz.lenT ⟨d, n, b⟩ then 2 else 0 := by
  unfold Lz.codeT; rw [hm]

end Go.Proofs.Ytnbdceigenndfaa
