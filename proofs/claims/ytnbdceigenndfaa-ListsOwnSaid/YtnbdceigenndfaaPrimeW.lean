/- The walks of package prime: squared, prime, is, Is, Next. -/
import Derived.Test.YtnbdceigenndfaaPolyK
import Derived.Test.YtnbdceigenndfaaPrimeP
namespace Go.Proofs.Ytnbdceigenndfaa
open Go.RowKit

end Go.Proofs.Ytnbdceigenndfaa
