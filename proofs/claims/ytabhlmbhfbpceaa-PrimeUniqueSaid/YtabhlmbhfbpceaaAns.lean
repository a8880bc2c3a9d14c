/- Calls met by contracts under a name: the form that fails at once where it does not fit. -/
import Derived.Test.YtabhlmbhfbpceaaPolyK
import Derived.Test.YtabhlmbhfbpceaaPrimeW3
namespace Go.Proofs.Ytabhlmbhfbpceaa
open Go.RowKit

/-- The next irreducible one. -/
theorem next_ex (m : Nat) (hm : m ≤ 1073741907) : ∃ p, G.Irr p ∧ m ≤ p ∧ p ≤ 1073741907 ∧ (∀ k, m ≤ k → k < p → ¬ G.Irr k) ∧ Ans2 6 #[.int .i64 m] (.int .i64 p) (.int .i64 0) := by
  obtain ⟨p, h1, h2, h3, h4⟩ := G.least_irr m hm
  exact ⟨p, h1, h2, h3, h4, Next_is h2 (by omega) h1 h4⟩

theorem irr_lt {p : Nat} (_ : G.Irr p) (hp : p ≤ 1073741907) : G.L p ≤ 31 := G.L_le.2 (by omega)

end Go.Proofs.Ytabhlmbhfbpceaa
