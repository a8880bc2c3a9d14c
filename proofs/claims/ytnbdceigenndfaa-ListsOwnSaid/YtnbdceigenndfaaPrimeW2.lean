/- The walks of package prime: is, Rabin's test, on polynomials of one degree or more. -/
import Derived.Test.YtnbdceigenndfaaPrimeW
namespace Go.Proofs.Ytnbdceigenndfaa
open Go.RowKit

end Go.Proofs.Ytnbdceigenndfaa
