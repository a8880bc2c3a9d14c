/- Contracts under a name: the form that fails at once where it does not fit. -/
import Derived.Test.YthccdoejnklidaaWithin
namespace Go.Proofs.Ythccdoejnklidaa
open Go.RowKit

/-- A call that answers a tuple of three parts .. two parts, and leaves the world alone. -/
def Ans2 (f : Nat) (args : Array Value) (x y : Value) : Prop := ∀ w, Calls Try.prog f args w fun e w' => e = .returned (.tuple #[x, y]) ∧ w = w'
def Ans3 (f : Nat) (args : Array Value) (x y z : Value) : Prop := ∀ w, Calls Try.prog f args w fun e w' => e = .returned (.tuple #[x, y, z]) ∧ w = w'
def Ans1 (f : Nat) (args : Array Value) (x : Value) : Prop := ∀ w, Calls Try.prog f args w fun e w' => e = .returned x ∧ w = w'

theorem within_is {k N : Int} {n x : Nat} (hN : N = n) (h1 : 1 ≤ n) (h2 : n ≤ 4611686018427387904) (hx : wi k n = x) :
    Ans1 9 #[.int .i64 k, .int .i64 N] (.int .i64 x) := by
  subst hx; exact fun w => within_any k N n w hN h1 h2

theorem Ans1.use {f : Nat} {args : Array Value} {x : Value} {w : World} {R : Ending → World → Prop} (h : Ans1 f args x) (hR : ∀ e w', e = .returned x ∧ w = w' → R e w') : Calls Try.prog f args w R := (h w).mono hR
theorem Ans2.use {f : Nat} {args : Array Value} {x y : Value} {w : World} {R : Ending → World → Prop} (h : Ans2 f args x y) (hR : ∀ e w', e = .returned (.tuple #[x, y]) ∧ w = w' → R e w') : Calls Try.prog f args w R := (h w).mono hR
theorem Ans3.use {f : Nat} {args : Array Value} {x y z : Value} {w : World} {R : Ending → World → Prop} (h : Ans3 f args x y z) (hR : ∀ e w', e = .returned (.tuple #[x, y, z]) ∧ w = w' → R e w') : Calls Try.prog f args w R := (h w).mono hR

theorem cast1 (a : Nat) : (1 : Int) + a = ((1 + a : Nat) : Int) := by omega
theorem cast2 (a : Nat) : (2 : Int) + a = ((2 + a : Nat) : Int) := by omega
theorem castA (a b : Nat) : (a : Int) + b = ((a + b : Nat) : Int) := by omega

theorem nat_beq (a b : Nat) : ((a : Int) == b) = decide (a = b) := by
  by_cases h : a = b
  · subst h; simp
  · rw [decide_eq_false h, beq_eq_false_iff_ne]; omega

theorem grown_of {f : Nat} {args : Array Value} {w : World} {v : Value} (h : Calls Try.prog f args w fun e w' => e = .returned v ∧ w = w') : Calls Try.prog f args w fun e w' => e = .returned v ∧ Grown w w' := by
  refine h.mono ?_
  rintro e w' ⟨he, rfl⟩
  exact ⟨he, Grown.refl _⟩

end Go.Proofs.Ythccdoejnklidaa
