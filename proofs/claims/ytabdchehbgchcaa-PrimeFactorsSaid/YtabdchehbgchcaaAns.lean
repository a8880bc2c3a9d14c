/- Calls met by contracts under a name: the form that fails at once where it does not fit. -/
import Derived.Test.YtabdchehbgchcaaPolyK
import Derived.Test.YtabdchehbgchcaaPrimeW3
namespace Go.Proofs.Ytabdchehbgchcaa
open Go.RowKit

theorem Ans1.use {f : Nat} {args : Array Value} {x : Value} {w : World} {R : Ending → World → Prop} (h : Ans1 f args x) (hR : ∀ e w', e = .returned x ∧ w = w' → R e w') : Calls Try.prog f args w R := (h w).mono hR
theorem Ans2.use {f : Nat} {args : Array Value} {x y : Value} {w : World} {R : Ending → World → Prop} (h : Ans2 f args x y) (hR : ∀ e w', e = .returned (.tuple #[x, y]) ∧ w = w' → R e w') : Calls Try.prog f args w R := (h w).mono hR
theorem Ans3.use {f : Nat} {args : Array Value} {x y z : Value} {w : World} {R : Ending → World → Prop} (h : Ans3 f args x y z) (hR : ∀ e w', e = .returned (.tuple #[x, y, z]) ∧ w = w' → R e w') : Calls Try.prog f args w R := (h w).mono hR

theorem cast1 (a : Nat) : (1 : Int) + a = ((1 + a : Nat) : Int) := by omega
theorem cast2 (a : Nat) : (2 : Int) + a = ((2 + a : Nat) : Int) := by omega
theorem castA (a b : Nat) : (a : Int) + b = ((a + b : Nat) : Int) := by omega

/-- The next irreducible one. -/
theorem next_ex (m : Nat) (hm : m ≤ 1073741907) : ∃ p, G.Irr p ∧ m ≤ p ∧ p ≤ 1073741907 ∧ (∀ k, m ≤ k → k < p → ¬ G.Irr k) ∧ Ans2 39 #[.int .i64 m] (.int .i64 p) (.int .i64 0) := by
  obtain ⟨p, h1, h2, h3, h4⟩ := G.least_irr m hm
  exact ⟨p, h1, h2, h3, h4, Next_is h2 (by omega) h1 h4⟩

theorem nat_beq (a b : Nat) : ((a : Int) == b) = decide (a = b) := by
  by_cases h : a = b
  · subst h; simp
  · rw [decide_eq_false h, beq_eq_false_iff_ne]; omega

theorem irr_lt {p : Nat} (_ : G.Irr p) (hp : p ≤ 1073741907) : G.L p ≤ 31 := G.L_le.2 (by omega)

theorem grown_of {f : Nat} {args : Array Value} {w : World} {v : Value} (h : Calls Try.prog f args w fun e w' => e = .returned v ∧ w = w') : Calls Try.prog f args w fun e w' => e = .returned v ∧ Grown w w' := by
  refine h.mono ?_
  rintro e w' ⟨he, rfl⟩
  exact ⟨he, Grown.refl _⟩

end Go.Proofs.Ytabdchehbgchcaa
