/- cut.Ends in the form that the laws take: the row of ends, as cells. -/
import Derived.Test.YtalenienmkaflaaCutW
import Derived.Test.YtalenienmkaflaaShut
namespace Go.Proofs.Ytalenienmkaflaa
open Go.RowKit

/-- A row of numbers lies in a block. -/
def RowIn (w : World) (g : Nat) (l : List Nat) : Prop := g < w.heap.size ∧ ∀ j (hj : j < l.length), w.cell? ⟨g, j, none⟩ = some (.int .i64 (l[j] : Int))

theorem RowIn.keep {w w' : World} {g : Nat} {l : List Nat} (h : RowIn w g l) (hb : Below w.heap.size w w') : RowIn w' g l :=
  ⟨Nat.lt_of_lt_of_le h.1 hb.size, fun j hj => by rw [hb.cell h.1]; exact h.2 j hj⟩

theorem RowIn.at {w : World} {g : Nat} {l : List Nat} (h : RowIn w g l) {j x : Nat} (hx : l[j]? = some x) : w.cell? ⟨g, j, none⟩ = some (.int .i64 (x : Int)) := by
  obtain ⟨hj, rfl⟩ := List.getElem?_eq_some_iff.1 hx
  exact h.2 j hj

/-- What a call of Ends leaves: a row, or an error. -/
def EndsAns (s : ByteArray) (le mo mk : Int) (l : List Nat) (n : Nat) : Prop := ∀ w, Calls Try.prog 20 #[.string s, .int .i64 le, .int .i64 mo, .int .i64 mk] w fun e w' =>
  ∃ a cap, e = .returned (.tuple #[.slice a n cap, .int .i64 0]) ∧ Below w.heap.size w w' ∧ (n ≠ 0 → ∃ g, a = some ⟨g, 0, none⟩ ∧ RowIn w' g l) ∧ n ≤ cap

theorem endsAns {s : ByteArray} {le mo mk : Nat} {l : List Nat} {n : Nat} (hs : s.size ≤ 600) (h1 : 1 ≤ le) (h2 : le ≤ mo) (h3 : mo ≤ 600) (h4 : mk ≤ 65535) (hl : Ct.ends le mo mk s.data.toList = l) (hn : l.length = n) :
    EndsAns s le mo mk l n := by
  subst hl; subst hn
  intro w
  refine (Ends_ok s le mo mk w hs h1 h2 h3 h4).mono ?_
  rintro e w' ⟨v, rfl, hown, hb⟩
  rcases hown.2 with ⟨rfl, hz⟩ | ⟨g, cap, cur, rfl, -, hg, hcap, -⟩
  · refine ⟨none, 0, by rw [hz], hb, fun h => absurd hz h, by rw [hz]; exact Nat.le_refl _⟩
  · have hg' : g < w'.heap.size := by
      rcases Nat.lt_or_ge g w'.heap.size with h | h
      · exact h
      · rw [Array.getElem?_eq_none h] at hg; cases hg
    exact ⟨_, cap, rfl, hb, fun _ => ⟨g, rfl, hg', iv_cells hown rfl⟩, hcap⟩

theorem EndsAns.use {s : ByteArray} {le mo mk : Int} {l : List Nat} {n : Nat} {w : World} {R : Ending → World → Prop} (h : EndsAns s le mo mk l n)
    (hR : ∀ e w', (∃ a cap, e = .returned (.tuple #[.slice a n cap, .int .i64 0]) ∧ Below w.heap.size w w' ∧ (n ≠ 0 → ∃ g, a = some ⟨g, 0, none⟩ ∧ RowIn w' g l) ∧ n ≤ cap) → R e w') :
    Calls Try.prog 20 #[.string s, .int .i64 le, .int .i64 mo, .int .i64 mk] w R := (h w).mono hR

/-- .. an error: no row. -/
abbrev EndsBad (s : ByteArray) (le mo mk : Int) (k : Nat) : Prop := Ans2 20 #[.string s, .int .i64 le, .int .i64 mo, .int .i64 mk] (.slice none 0 0) (.int .i64 k)

/-- The rest of a text, as a rewrite rule. -/
theorem sl_from {P : Program} {t : TypeId} (hu : P.underlying t = some .string) {s : ByteArray} {x : Int} {a : Nat} (hx : x = a) (hb : a ≤ s.size) :
    ∀ w, (Instr.slice t (.string s) (some (.int .i64 x)) none none).run P w = .ok (.string (s.extract a s.size)) w := by
  intro w
  subst hx
  have := run_slice_string_l (w := w) (t := t) (s := s) hu .i64 (a : Int) (by omega) (by omega)
  simpa using this

theorem str_eq (s t : ByteArray) : (s.toList == t.toList) = decide (s = t) := by
  by_cases h : s = t
  · subst h; simp
  · rw [decide_eq_false h, beq_eq_false_iff_ne]
    intro h2
    rw [ByteArray.toList_eq, ByteArray.toList_eq] at h2
    exact h (ByteArray.ext (Array.toList_inj.mp h2))

theorem below_drew {B : Nat} {w w' : World} (h : Below B w w') (j : Nat) : Below B w (w'.drewN j) := ⟨h.os, h.tape, h.output, h.size, h.block⟩

theorem map_ofNat (l : List Nat) (j : Nat) (hj : j < l.length) : (l.map (fun (n : Nat) => (n : Int))).getD j 0 = (l[j] : Int) := by
  simp [List.getD, hj]

theorem map_ofNat_beq (l m : List Nat) : (l.map (fun (n : Nat) => (n : Int)) == m.map (fun (n : Nat) => (n : Int))) = decide (l = m) := by
  by_cases h : l = m
  · subst h; simp
  · rw [decide_eq_false h, beq_eq_false_iff_ne]
    intro h2
    have h3 := congrArg (fun x => x.map Int.toNat) h2
    simp only [List.map_map] at h3
    have e : (Int.toNat ∘ fun (n : Nat) => (n : Int)) = id := by funext x; simp
    rw [e, List.map_id, List.map_id] at h3
    exact h h3

/-- Two rows that lie somewhere, compared. -/
theorem equal_rows {w : World} {g1 g2 c1 c2 n m : Nat} {l k : List Nat} (h1 : RowIn w g1 l) (h2 : RowIn w g2 k) (hn : n ≤ l.length) (hm : m ≤ k.length) (hb : l.length ≤ 1000) (hb2 : k.length ≤ 1000) :
    Calls Try.prog 22 #[.slice (some ⟨g1, 0, none⟩) n c1, .slice (some ⟨g2, 0, none⟩) m c2] w fun e w' => e = .returned (.bool (decide (l.take n = k.take m))) ∧ ∃ q, w' = w.drewN q := by
  have h := Try.slices_Equal_int g1 0 n c1 g2 0 m c2 (l.map (fun (n : Nat) => (n : Int))) (k.map (fun (n : Nat) => (n : Int))) w (by rw [List.length_map]; exact hn) (by rw [List.length_map]; exact hm) (by omega) (by omega)
    (fun j hj => by rw [List.length_map] at hj; rw [map_ofNat l j hj, Nat.zero_add]; exact h1.2 j hj) (fun j hj => by rw [List.length_map] at hj; rw [map_ofNat k j hj, Nat.zero_add]; exact h2.2 j hj)
  rw [← List.map_take, ← List.map_take, map_ofNat_beq] at h
  exact h

/-- A row compared with one that was just laid. -/
theorem equal_new {w : World} {g c n : Nat} {l : List Nat} {vs : Array Value} (h : RowIn w g l) (hn : l.length = n) (hb : n ≤ 1000) (hv : ∀ j (hj : j < l.length), vs[j]? = some (.int .i64 (l[j] : Int))) :
    Calls Try.prog 22 #[.slice (some ⟨g, 0, none⟩) n c, .slice (some ⟨w.heap.size, 0, none⟩) n n] (w.alloc (.cells vs 3)) fun e w' => e = .returned (.bool true) ∧ ∃ q, w' = (w.alloc (.cells vs 3)).drewN q := by
  have h2 : RowIn (w.alloc (.cells vs 3)) w.heap.size l := ⟨by rw [World.size_alloc]; omega, fun j hj => cell_new w (k := j) (hv j hj)⟩
  have h1 := h.keep ((Below.refl w.heap.size w).alloc (Nat.le_refl _) (.cells vs 3))
  refine (equal_rows h1 h2 (n := n) (m := n) (by omega) (by omega) (by omega) (by omega)).mono ?_
  rintro e w' ⟨rfl, q, rfl⟩
  exact ⟨by simp, q, rfl⟩

/-- The second text's answer, whatever it is: its row is no matter where an error came. -/
def EndsAny (s : ByteArray) (le mo mk : Int) (k : Nat) : Prop := ∀ w, Calls Try.prog 20 #[.string s, .int .i64 le, .int .i64 mo, .int .i64 mk] w fun e w' =>
  ∃ a n cap, e = .returned (.tuple #[.slice a n cap, .int .i64 k]) ∧ Below w.heap.size w w'

theorem EndsAny.use {s : ByteArray} {le mo mk : Int} {k : Nat} {w : World} {R : Ending → World → Prop} (h : EndsAny s le mo mk k)
    (hR : ∀ e w', (∃ a n cap, e = .returned (.tuple #[.slice a n cap, .int .i64 k]) ∧ Below w.heap.size w w') → R e w') :
    Calls Try.prog 20 #[.string s, .int .i64 le, .int .i64 mo, .int .i64 mk] w R := (h w).mono hR

theorem EndsAny.of_ans {s : ByteArray} {le mo mk : Int} {l : List Nat} {n : Nat} (h : EndsAns s le mo mk l n) : EndsAny s le mo mk 0 := fun w => by
  refine (h w).mono ?_
  rintro e w' ⟨a, cap, rfl, hb, -⟩
  exact ⟨a, n, cap, rfl, hb⟩
theorem EndsAny.of_bad {s : ByteArray} {le mo mk : Int} {k : Nat} (h : EndsBad s le mo mk k) : EndsAny s le mo mk k := fun w => by
  refine (h w).mono ?_
  rintro e w' ⟨rfl, rfl⟩
  exact ⟨none, 0, 0, rfl, Below.refl _ _⟩

end Go.Proofs.Ytalenienmkaflaa
