/- The walks of package prime: is, Is, Next. -/
import Derived.Test.YtnbdceigenndfaaPrimeW2
namespace Go.Proofs.Ytnbdceigenndfaa
open Go.RowKit

end Go.Proofs.Ytnbdceigenndfaa
