/- cut.Ends in the form that the laws take: the row of ends, as cells. -/
import Derived.Test.YtalenienmkaflaaCutW
import Derived.Test.YtalenienmkaflaaShut
namespace Go.Proofs.Ytalenienmkaflaa
open Go.RowKit

/-- A row of numbers lies in a block. -/
def RowIn (w : World) (g : Nat) (l : List Nat) : Prop := g < w.heap.size ∧ ∀ j (hj : j < l.length), w.cell? ⟨g, j, none⟩ = some (.int .i64 (l[j] : Int))

theorem RowIn.keep {w w' : World} {g : Nat} {l : List Nat} (h : RowIn w g l) (hb : Below w.heap.size w w') : RowIn w' g l :=
  ⟨Nat.lt_of_lt_of_le h.1 hb.size, fun j hj => by rw [hb.cell h.1]; exact h.2 j hj⟩

theorem RowIn.at {w : World} {g : Nat} {l : List Nat} (h : RowIn w g l) {j x : Nat} (hx : l[j]? = some x) : w.cell? ⟨g, j, none⟩ = some (.int .i64 (x : Int)) := by
  obtain ⟨hj, rfl⟩ := List.getElem?_eq_some_iff.1 hx
  exact h.2 j hj

/-- What a call of Ends leaves: a row, or an error. -/
def EndsAns (s : ByteArray) (le mo mk : Int) (l : List Nat) (n : Nat) : Prop := ∀ w, Calls Try.prog 20 #[.string s, .int .i64 le, .int .i64 mo, .int .i64 mk] w fun e w' =>
  ∃ a cap, e = .returned (.tuple #[.slice a n cap, .int .i64 0]) ∧ Below w.heap.size w w' ∧ (n ≠ 0 → ∃ g, a = some ⟨g, 0, none⟩ ∧ RowIn w' g l)

theorem endsAns {s : ByteArray} {le mo mk : Nat} {l : List Nat} {n : Nat} (hs : s.size ≤ 600) (h1 : 1 ≤ le) (h2 : le ≤ mo) (h3 : mo ≤ 600) (h4 : mk ≤ 65535) (hl : Ct.ends le mo mk s.data.toList = l) (hn : l.length = n) :
    EndsAns s le mo mk l n := by
  subst hl; subst hn
  intro w
  refine (Ends_ok s le mo mk w hs h1 h2 h3 h4).mono ?_
  rintro e w' ⟨v, rfl, hown, hb⟩
  rcases hown.2 with ⟨rfl, hz⟩ | ⟨g, cap, cur, rfl, -, hg, -⟩
  · refine ⟨none, 0, by rw [hz], hb, fun h => absurd hz h⟩
  · have hg' : g < w'.heap.size := by
      rcases Nat.lt_or_ge g w'.heap.size with h | h
      · exact h
      · rw [Array.getElem?_eq_none h] at hg; cases hg
    exact ⟨_, cap, rfl, hb, fun _ => ⟨g, rfl, hg', iv_cells hown rfl⟩⟩

theorem EndsAns.use {s : ByteArray} {le mo mk : Int} {l : List Nat} {n : Nat} {w : World} {R : Ending → World → Prop} (h : EndsAns s le mo mk l n)
    (hR : ∀ e w', (∃ a cap, e = .returned (.tuple #[.slice a n cap, .int .i64 0]) ∧ Below w.heap.size w w' ∧ (n ≠ 0 → ∃ g, a = some ⟨g, 0, none⟩ ∧ RowIn w' g l)) → R e w') :
    Calls Try.prog 20 #[.string s, .int .i64 le, .int .i64 mo, .int .i64 mk] w R := (h w).mono hR

/-- .. an error: no row. -/
abbrev EndsBad (s : ByteArray) (le mo mk : Int) (k : Nat) : Prop := Ans2 20 #[.string s, .int .i64 le, .int .i64 mo, .int .i64 mk] (.slice none 0 0) (.int .i64 k)

/-- The rest of a text, as a rewrite rule. -/
theorem sl_from {P : Program} {t : TypeId} (hu : P.underlying t = some .string) {s : ByteArray} {x : Int} {a : Nat} (hx : x = a) (hb : a ≤ s.size) :
    ∀ w, (Instr.slice t (.string s) (some (.int .i64 x)) none none).run P w = .ok (.string (s.extract a s.size)) w := by
  intro w
  subst hx
  have := run_slice_string_l (w := w) (t := t) (s := s) hu .i64 (a : Int) (by omega) (by omega)
  simpa using this

theorem str_eq (s t : ByteArray) : (s.toList == t.toList) = decide (s = t) := by
  by_cases h : s = t
  · subst h; simp
  · rw [decide_eq_false h, beq_eq_false_iff_ne]
    intro h2
    rw [ByteArray.toList_eq, ByteArray.toList_eq] at h2
    exact h (ByteArray.ext (Array.toList_inj.mp h2))

theorem below_drew {B : Nat} {w w' : World} (h : Below B w w') (j : Nat) : Below B w (w'.drewN j) := ⟨h.os, h.tape, h.output, h.size, h.block⟩

end Go.Proofs.Ytalenienmkaflaa
