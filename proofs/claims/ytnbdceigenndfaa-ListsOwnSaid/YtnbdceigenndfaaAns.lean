/- Calls met by contracts under a name: the form that fails at once where it does not fit. -/
import Derived.Test.YtnbdceigenndfaaPolyK
import Derived.Test.YtnbdceigenndfaaPrimeW3
namespace Go.Proofs.Ytnbdceigenndfaa
open Go.RowKit

theorem irr_lt {p : Nat} (_ : G.Irr p) (hp : p ≤ 1073741907) : G.L p ≤ 31 := G.L_le.2 (by omega)

end Go.Proofs.Ytnbdceigenndfaa
