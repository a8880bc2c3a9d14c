/-
  No cell of these rows narrows 'for every input' (looked for: loops, veiled, ifaces, maps, wideKeys, modest, calm, conditions, laid).
  DERIVED. THE GIVEN ROWS OF THIS SEAT. 21 by the template 'for every input the law returns true; each argument reads behind the call as it read before'; 0 by the template 'total and deterministic' (their statements: YtabdchehbgchcaaTotals.lean).
  GIVEN WITH THE SEED: the statements are not yours to turn. If you find one false, say at which input.
  Laid BY PROGRAM, IN A SANDBOX (cutbox-rows.mjs): the forced cells as the released guide's own fill.sh prints them over the translation f3184dd0d63fa46f… (all of the seat's roots in one cut). By AI agents, Wed Nov 11 2026. No macro, syntax, notation, axiom, sorry.
-/
import Derived.Test.YtabdchehbgchcaaChecked
import GoSem.Claim
import GoSem.ClaimJoined
import GoSem.ClaimMapViews
import Derived.JoinedTies
import Derived.KernelRfl
namespace Go.Proofs.Ytabdchehbgchcaa
/- THE CELL 'sum', in the pinned program and in every row, IS THE sha256 OF THE DUMP (.gsa) THAT YtabdchehbgchcaaProg.lean LOADS. Nothing in Lean hashes anything: it is a label: what it is worth is what the hold of that sum in a sandbox is worth. -/
noncomputable def Try.pinned : Pinned := { name := "ytabdchehbgchcaa", sum := "f3184dd0d63fa46ff96149f3482b8eb7b0f5a7cd2cc822806d734fb979ed3ef7", checked := Try.checked }
namespace Rows
def none {H : Type} : Left H := { results := [], args := [] }

/-- 'woolkeep.PrimeGauss': WHATEVER THE INPUT: true; the input reads as it did. -/
def primeGaussSpec : ChangeSpec := { name := "primeGauss", fn := fun _ => fun
  | [d] => { results := [.lit (.bool true)], args := [d] }
  | _ => none }
def primeGaussRow : OpenClaim := { program := "ytabdchehbgchcaa", sum := "f3184dd0d63fa46ff96149f3482b8eb7b0f5a7cd2cc822806d734fb979ed3ef7", func := "woolsack/woolkeep.PrimeGauss", spec := "primeGauss", apart := false }
def PrimeGaussSaid : Prop := primeGaussRow.holds Try.pinned (OpenSpec.ofChange primeGaussSpec)

/-- ITS FALSE NEIGHBOUR: 'it returns false'. Refute it at one input. -/
def primeGaussWrong : ChangeSpec := { name := "primeGauss", fn := fun _ => fun
  | [d] => { results := [.lit (.bool false)], args := [d] }
  | _ => none }
def PrimeGaussWrongFalsely : Prop := primeGaussRow.holds Try.pinned (OpenSpec.ofChange primeGaussWrong)

/-- 'woolkeep.PolyRing': WHATEVER THE INPUT: true; the input reads as it did. -/
def polyRingSpec : ChangeSpec := { name := "polyRing", fn := fun _ => fun
  | [d1, d2, d3] => { results := [.lit (.bool true)], args := [d1, d2, d3] }
  | _ => none }
def polyRingRow : OpenClaim := { program := "ytabdchehbgchcaa", sum := "f3184dd0d63fa46ff96149f3482b8eb7b0f5a7cd2cc822806d734fb979ed3ef7", func := "woolsack/woolkeep.PolyRing", spec := "polyRing", apart := false }
def PolyRingSaid : Prop := polyRingRow.holds Try.pinned (OpenSpec.ofChange polyRingSpec)

/-- ITS FALSE NEIGHBOUR: 'it returns false'. Refute it at one input. -/
def polyRingWrong : ChangeSpec := { name := "polyRing", fn := fun _ => fun
  | [d1, d2, d3] => { results := [.lit (.bool false)], args := [d1, d2, d3] }
  | _ => none }
def PolyRingWrongFalsely : Prop := polyRingRow.holds Try.pinned (OpenSpec.ofChange polyRingWrong)

/-- 'woolkeep.PrintLinear': WHATEVER THE INPUT: true; the input reads as it did. -/
def printLinearSpec : ChangeSpec := { name := "printLinear", fn := fun _ => fun
  | [d1, d2, d3, d4] => { results := [.lit (.bool true)], args := [d1, d2, d3, d4] }
  | _ => none }
def printLinearRow : OpenClaim := { program := "ytabdchehbgchcaa", sum := "f3184dd0d63fa46ff96149f3482b8eb7b0f5a7cd2cc822806d734fb979ed3ef7", func := "woolsack/woolkeep.PrintLinear", spec := "printLinear", apart := false }
def PrintLinearSaid : Prop := printLinearRow.holds Try.pinned (OpenSpec.ofChange printLinearSpec)

/-- ITS FALSE NEIGHBOUR: 'it returns false'. Refute it at one input. -/
def printLinearWrong : ChangeSpec := { name := "printLinear", fn := fun _ => fun
  | [d1, d2, d3, d4] => { results := [.lit (.bool false)], args := [d1, d2, d3, d4] }
  | _ => none }
def PrintLinearWrongFalsely : Prop := printLinearRow.holds Try.pinned (OpenSpec.ofChange printLinearWrong)

/-- 'woolkeep.PrintBursts': WHATEVER THE INPUT: true; the input reads as it did. -/
def printBurstsSpec : ChangeSpec := { name := "printBursts", fn := fun _ => fun
  | [d1, d2, d3, d4] => { results := [.lit (.bool true)], args := [d1, d2, d3, d4] }
  | _ => none }
def printBurstsRow : OpenClaim := { program := "ytabdchehbgchcaa", sum := "f3184dd0d63fa46ff96149f3482b8eb7b0f5a7cd2cc822806d734fb979ed3ef7", func := "woolsack/woolkeep.PrintBursts", spec := "printBursts", apart := false }
def PrintBurstsSaid : Prop := printBurstsRow.holds Try.pinned (OpenSpec.ofChange printBurstsSpec)

/-- ITS FALSE NEIGHBOUR: 'it returns false'. Refute it at one input. -/
def printBurstsWrong : ChangeSpec := { name := "printBursts", fn := fun _ => fun
  | [d1, d2, d3, d4] => { results := [.lit (.bool false)], args := [d1, d2, d3, d4] }
  | _ => none }
def PrintBurstsWrongFalsely : Prop := printBurstsRow.holds Try.pinned (OpenSpec.ofChange printBurstsWrong)

/-- 'woolkeep.PolyDegrees': WHATEVER THE INPUT: true; the input reads as it did. -/
def polyDegreesSpec : ChangeSpec := { name := "polyDegrees", fn := fun _ => fun
  | [d1, d2] => { results := [.lit (.bool true)], args := [d1, d2] }
  | _ => none }
def polyDegreesRow : OpenClaim := { program := "ytabdchehbgchcaa", sum := "f3184dd0d63fa46ff96149f3482b8eb7b0f5a7cd2cc822806d734fb979ed3ef7", func := "woolsack/woolkeep.PolyDegrees", spec := "polyDegrees", apart := false }
def PolyDegreesSaid : Prop := polyDegreesRow.holds Try.pinned (OpenSpec.ofChange polyDegreesSpec)

/-- ITS FALSE NEIGHBOUR: 'it returns false'. Refute it at one input. -/
def polyDegreesWrong : ChangeSpec := { name := "polyDegrees", fn := fun _ => fun
  | [d1, d2] => { results := [.lit (.bool false)], args := [d1, d2] }
  | _ => none }
def PolyDegreesWrongFalsely : Prop := polyDegreesRow.holds Try.pinned (OpenSpec.ofChange polyDegreesWrong)

/-- 'woolkeep.PolyRests': WHATEVER THE INPUT: true; the input reads as it did. -/
def polyRestsSpec : ChangeSpec := { name := "polyRests", fn := fun _ => fun
  | [d1, d2, d3, d4] => { results := [.lit (.bool true)], args := [d1, d2, d3, d4] }
  | _ => none }
def polyRestsRow : OpenClaim := { program := "ytabdchehbgchcaa", sum := "f3184dd0d63fa46ff96149f3482b8eb7b0f5a7cd2cc822806d734fb979ed3ef7", func := "woolsack/woolkeep.PolyRests", spec := "polyRests", apart := false }
def PolyRestsSaid : Prop := polyRestsRow.holds Try.pinned (OpenSpec.ofChange polyRestsSpec)

/-- ITS FALSE NEIGHBOUR: 'it returns false'. Refute it at one input. -/
def polyRestsWrong : ChangeSpec := { name := "polyRests", fn := fun _ => fun
  | [d1, d2, d3, d4] => { results := [.lit (.bool false)], args := [d1, d2, d3, d4] }
  | _ => none }
def PolyRestsWrongFalsely : Prop := polyRestsRow.holds Try.pinned (OpenSpec.ofChange polyRestsWrong)

/-- 'woolkeep.PolyGcd': WHATEVER THE INPUT: true; the input reads as it did. -/
def polyGcdSpec : ChangeSpec := { name := "polyGcd", fn := fun _ => fun
  | [d1, d2, d3] => { results := [.lit (.bool true)], args := [d1, d2, d3] }
  | _ => none }
def polyGcdRow : OpenClaim := { program := "ytabdchehbgchcaa", sum := "f3184dd0d63fa46ff96149f3482b8eb7b0f5a7cd2cc822806d734fb979ed3ef7", func := "woolsack/woolkeep.PolyGcd", spec := "polyGcd", apart := false }
def PolyGcdSaid : Prop := polyGcdRow.holds Try.pinned (OpenSpec.ofChange polyGcdSpec)

/-- ITS FALSE NEIGHBOUR: 'it returns false'. Refute it at one input. -/
def polyGcdWrong : ChangeSpec := { name := "polyGcd", fn := fun _ => fun
  | [d1, d2, d3] => { results := [.lit (.bool false)], args := [d1, d2, d3] }
  | _ => none }
def PolyGcdWrongFalsely : Prop := polyGcdRow.holds Try.pinned (OpenSpec.ofChange polyGcdWrong)

/-- 'woolkeep.PolyDivision': WHATEVER THE INPUT: true; the input reads as it did. -/
def polyDivisionSpec : ChangeSpec := { name := "polyDivision", fn := fun _ => fun
  | [d1, d2, d3] => { results := [.lit (.bool true)], args := [d1, d2, d3] }
  | _ => none }
def polyDivisionRow : OpenClaim := { program := "ytabdchehbgchcaa", sum := "f3184dd0d63fa46ff96149f3482b8eb7b0f5a7cd2cc822806d734fb979ed3ef7", func := "woolsack/woolkeep.PolyDivision", spec := "polyDivision", apart := false }
def PolyDivisionSaid : Prop := polyDivisionRow.holds Try.pinned (OpenSpec.ofChange polyDivisionSpec)

/-- ITS FALSE NEIGHBOUR: 'it returns false'. Refute it at one input. -/
def polyDivisionWrong : ChangeSpec := { name := "polyDivision", fn := fun _ => fun
  | [d1, d2, d3] => { results := [.lit (.bool false)], args := [d1, d2, d3] }
  | _ => none }
def PolyDivisionWrongFalsely : Prop := polyDivisionRow.holds Try.pinned (OpenSpec.ofChange polyDivisionWrong)

/-- 'woolkeep.PolyFrobenius': WHATEVER THE INPUT: true; the input reads as it did. -/
def polyFrobeniusSpec : ChangeSpec := { name := "polyFrobenius", fn := fun _ => fun
  | [d1, d2, d3, d4, d5] => { results := [.lit (.bool true)], args := [d1, d2, d3, d4, d5] }
  | _ => none }
def polyFrobeniusRow : OpenClaim := { program := "ytabdchehbgchcaa", sum := "f3184dd0d63fa46ff96149f3482b8eb7b0f5a7cd2cc822806d734fb979ed3ef7", func := "woolsack/woolkeep.PolyFrobenius", spec := "polyFrobenius", apart := false }
def PolyFrobeniusSaid : Prop := polyFrobeniusRow.holds Try.pinned (OpenSpec.ofChange polyFrobeniusSpec)

/-- ITS FALSE NEIGHBOUR: 'it returns false'. Refute it at one input. -/
def polyFrobeniusWrong : ChangeSpec := { name := "polyFrobenius", fn := fun _ => fun
  | [d1, d2, d3, d4, d5] => { results := [.lit (.bool false)], args := [d1, d2, d3, d4, d5] }
  | _ => none }
def PolyFrobeniusWrongFalsely : Prop := polyFrobeniusRow.holds Try.pinned (OpenSpec.ofChange polyFrobeniusWrong)

/-- 'woolkeep.PrintByte': WHATEVER THE INPUT: true; the input reads as it did. -/
def printByteSpec : ChangeSpec := { name := "printByte", fn := fun _ => fun
  | [d1, d2, d3] => { results := [.lit (.bool true)], args := [d1, d2, d3] }
  | _ => none }
def printByteRow : OpenClaim := { program := "ytabdchehbgchcaa", sum := "f3184dd0d63fa46ff96149f3482b8eb7b0f5a7cd2cc822806d734fb979ed3ef7", func := "woolsack/woolkeep.PrintByte", spec := "printByte", apart := false }
def PrintByteSaid : Prop := printByteRow.holds Try.pinned (OpenSpec.ofChange printByteSpec)

/-- ITS FALSE NEIGHBOUR: 'it returns false'. Refute it at one input. -/
def printByteWrong : ChangeSpec := { name := "printByte", fn := fun _ => fun
  | [d1, d2, d3] => { results := [.lit (.bool false)], args := [d1, d2, d3] }
  | _ => none }
def PrintByteWrongFalsely : Prop := printByteRow.holds Try.pinned (OpenSpec.ofChange printByteWrong)

/-- 'woolkeep.PrintParts': WHATEVER THE INPUT: true; the input reads as it did. -/
def printPartsSpec : ChangeSpec := { name := "printParts", fn := fun _ => fun
  | [d1, d2, d3] => { results := [.lit (.bool true)], args := [d1, d2, d3] }
  | _ => none }
def printPartsRow : OpenClaim := { program := "ytabdchehbgchcaa", sum := "f3184dd0d63fa46ff96149f3482b8eb7b0f5a7cd2cc822806d734fb979ed3ef7", func := "woolsack/woolkeep.PrintParts", spec := "printParts", apart := false }
def PrintPartsSaid : Prop := printPartsRow.holds Try.pinned (OpenSpec.ofChange printPartsSpec)

/-- ITS FALSE NEIGHBOUR: 'it returns false'. Refute it at one input. -/
def printPartsWrong : ChangeSpec := { name := "printParts", fn := fun _ => fun
  | [d1, d2, d3] => { results := [.lit (.bool false)], args := [d1, d2, d3] }
  | _ => none }
def PrintPartsWrongFalsely : Prop := printPartsRow.holds Try.pinned (OpenSpec.ofChange printPartsWrong)

/-- 'woolkeep.PolyTurned': WHATEVER THE INPUT: true; the input reads as it did. -/
def polyTurnedSpec : ChangeSpec := { name := "polyTurned", fn := fun _ => fun
  | [d1, d2] => { results := [.lit (.bool true)], args := [d1, d2] }
  | _ => none }
def polyTurnedRow : OpenClaim := { program := "ytabdchehbgchcaa", sum := "f3184dd0d63fa46ff96149f3482b8eb7b0f5a7cd2cc822806d734fb979ed3ef7", func := "woolsack/woolkeep.PolyTurned", spec := "polyTurned", apart := false }
def PolyTurnedSaid : Prop := polyTurnedRow.holds Try.pinned (OpenSpec.ofChange polyTurnedSpec)

/-- ITS FALSE NEIGHBOUR: 'it returns false'. Refute it at one input. -/
def polyTurnedWrong : ChangeSpec := { name := "polyTurned", fn := fun _ => fun
  | [d1, d2] => { results := [.lit (.bool false)], args := [d1, d2] }
  | _ => none }
def PolyTurnedWrongFalsely : Prop := polyTurnedRow.holds Try.pinned (OpenSpec.ofChange polyTurnedWrong)

/-- 'woolkeep.PrimeProduct': WHATEVER THE INPUT: true; the input reads as it did. -/
def primeProductSpec : ChangeSpec := { name := "primeProduct", fn := fun _ => fun
  | [d1, d2] => { results := [.lit (.bool true)], args := [d1, d2] }
  | _ => none }
def primeProductRow : OpenClaim := { program := "ytabdchehbgchcaa", sum := "f3184dd0d63fa46ff96149f3482b8eb7b0f5a7cd2cc822806d734fb979ed3ef7", func := "woolsack/woolkeep.PrimeProduct", spec := "primeProduct", apart := false }
def PrimeProductSaid : Prop := primeProductRow.holds Try.pinned (OpenSpec.ofChange primeProductSpec)

/-- ITS FALSE NEIGHBOUR: 'it returns false'. Refute it at one input. -/
def primeProductWrong : ChangeSpec := { name := "primeProduct", fn := fun _ => fun
  | [d1, d2] => { results := [.lit (.bool false)], args := [d1, d2] }
  | _ => none }
def PrimeProductWrongFalsely : Prop := primeProductRow.holds Try.pinned (OpenSpec.ofChange primeProductWrong)

/-- 'woolkeep.PrimeEuclid': WHATEVER THE INPUT: true; the input reads as it did. -/
def primeEuclidSpec : ChangeSpec := { name := "primeEuclid", fn := fun _ => fun
  | [d1, d2, d3] => { results := [.lit (.bool true)], args := [d1, d2, d3] }
  | _ => none }
def primeEuclidRow : OpenClaim := { program := "ytabdchehbgchcaa", sum := "f3184dd0d63fa46ff96149f3482b8eb7b0f5a7cd2cc822806d734fb979ed3ef7", func := "woolsack/woolkeep.PrimeEuclid", spec := "primeEuclid", apart := false }
def PrimeEuclidSaid : Prop := primeEuclidRow.holds Try.pinned (OpenSpec.ofChange primeEuclidSpec)

/-- ITS FALSE NEIGHBOUR: 'it returns false'. Refute it at one input. -/
def primeEuclidWrong : ChangeSpec := { name := "primeEuclid", fn := fun _ => fun
  | [d1, d2, d3] => { results := [.lit (.bool false)], args := [d1, d2, d3] }
  | _ => none }
def PrimeEuclidWrongFalsely : Prop := primeEuclidRow.holds Try.pinned (OpenSpec.ofChange primeEuclidWrong)

/-- 'woolkeep.PrimeNext': WHATEVER THE INPUT: true; the input reads as it did. -/
def primeNextSpec : ChangeSpec := { name := "primeNext", fn := fun _ => fun
  | [d1, d2] => { results := [.lit (.bool true)], args := [d1, d2] }
  | _ => none }
def primeNextRow : OpenClaim := { program := "ytabdchehbgchcaa", sum := "f3184dd0d63fa46ff96149f3482b8eb7b0f5a7cd2cc822806d734fb979ed3ef7", func := "woolsack/woolkeep.PrimeNext", spec := "primeNext", apart := false }
def PrimeNextSaid : Prop := primeNextRow.holds Try.pinned (OpenSpec.ofChange primeNextSpec)

/-- ITS FALSE NEIGHBOUR: 'it returns false'. Refute it at one input. -/
def primeNextWrong : ChangeSpec := { name := "primeNext", fn := fun _ => fun
  | [d1, d2] => { results := [.lit (.bool false)], args := [d1, d2] }
  | _ => none }
def PrimeNextWrongFalsely : Prop := primeNextRow.holds Try.pinned (OpenSpec.ofChange primeNextWrong)

/-- 'woolkeep.PrintJoins': WHATEVER THE INPUT: true; the input reads as it did. -/
def printJoinsSpec : ChangeSpec := { name := "printJoins", fn := fun _ => fun
  | [d1, d2, d3] => { results := [.lit (.bool true)], args := [d1, d2, d3] }
  | _ => none }
def printJoinsRow : OpenClaim := { program := "ytabdchehbgchcaa", sum := "f3184dd0d63fa46ff96149f3482b8eb7b0f5a7cd2cc822806d734fb979ed3ef7", func := "woolsack/woolkeep.PrintJoins", spec := "printJoins", apart := false }
def PrintJoinsSaid : Prop := printJoinsRow.holds Try.pinned (OpenSpec.ofChange printJoinsSpec)

/-- ITS FALSE NEIGHBOUR: 'it returns false'. Refute it at one input. -/
def printJoinsWrong : ChangeSpec := { name := "printJoins", fn := fun _ => fun
  | [d1, d2, d3] => { results := [.lit (.bool false)], args := [d1, d2, d3] }
  | _ => none }
def PrintJoinsWrongFalsely : Prop := printJoinsRow.holds Try.pinned (OpenSpec.ofChange printJoinsWrong)

/-- 'woolkeep.PrintRolls': WHATEVER THE INPUT: true; the input reads as it did. -/
def printRollsSpec : ChangeSpec := { name := "printRolls", fn := fun _ => fun
  | [d1, d2, d3] => { results := [.lit (.bool true)], args := [d1, d2, d3] }
  | _ => none }
def printRollsRow : OpenClaim := { program := "ytabdchehbgchcaa", sum := "f3184dd0d63fa46ff96149f3482b8eb7b0f5a7cd2cc822806d734fb979ed3ef7", func := "woolsack/woolkeep.PrintRolls", spec := "printRolls", apart := false }
def PrintRollsSaid : Prop := printRollsRow.holds Try.pinned (OpenSpec.ofChange printRollsSpec)

/-- ITS FALSE NEIGHBOUR: 'it returns false'. Refute it at one input. -/
def printRollsWrong : ChangeSpec := { name := "printRolls", fn := fun _ => fun
  | [d1, d2, d3] => { results := [.lit (.bool false)], args := [d1, d2, d3] }
  | _ => none }
def PrintRollsWrongFalsely : Prop := printRollsRow.holds Try.pinned (OpenSpec.ofChange printRollsWrong)

/-- 'woolkeep.PrimeFermat': WHATEVER THE INPUT: true; the input reads as it did. -/
def primeFermatSpec : ChangeSpec := { name := "primeFermat", fn := fun _ => fun
  | [d1, d2] => { results := [.lit (.bool true)], args := [d1, d2] }
  | _ => none }
def primeFermatRow : OpenClaim := { program := "ytabdchehbgchcaa", sum := "f3184dd0d63fa46ff96149f3482b8eb7b0f5a7cd2cc822806d734fb979ed3ef7", func := "woolsack/woolkeep.PrimeFermat", spec := "primeFermat", apart := false }
def PrimeFermatSaid : Prop := primeFermatRow.holds Try.pinned (OpenSpec.ofChange primeFermatSpec)

/-- ITS FALSE NEIGHBOUR: 'it returns false'. Refute it at one input. -/
def primeFermatWrong : ChangeSpec := { name := "primeFermat", fn := fun _ => fun
  | [d1, d2] => { results := [.lit (.bool false)], args := [d1, d2] }
  | _ => none }
def PrimeFermatWrongFalsely : Prop := primeFermatRow.holds Try.pinned (OpenSpec.ofChange primeFermatWrong)

/-- 'woolkeep.PrimeRoots': WHATEVER THE INPUT: true; the input reads as it did. -/
def primeRootsSpec : ChangeSpec := { name := "primeRoots", fn := fun _ => fun
  | [d1, d2, d3] => { results := [.lit (.bool true)], args := [d1, d2, d3] }
  | _ => none }
def primeRootsRow : OpenClaim := { program := "ytabdchehbgchcaa", sum := "f3184dd0d63fa46ff96149f3482b8eb7b0f5a7cd2cc822806d734fb979ed3ef7", func := "woolsack/woolkeep.PrimeRoots", spec := "primeRoots", apart := false }
def PrimeRootsSaid : Prop := primeRootsRow.holds Try.pinned (OpenSpec.ofChange primeRootsSpec)

/-- ITS FALSE NEIGHBOUR: 'it returns false'. Refute it at one input. -/
def primeRootsWrong : ChangeSpec := { name := "primeRoots", fn := fun _ => fun
  | [d1, d2, d3] => { results := [.lit (.bool false)], args := [d1, d2, d3] }
  | _ => none }
def PrimeRootsWrongFalsely : Prop := primeRootsRow.holds Try.pinned (OpenSpec.ofChange primeRootsWrong)

/-- 'woolkeep.PrimeMany': WHATEVER THE INPUT: true; the input reads as it did. -/
def primeManySpec : ChangeSpec := { name := "primeMany", fn := fun _ => fun
  | [d] => { results := [.lit (.bool true)], args := [d] }
  | _ => none }
def primeManyRow : OpenClaim := { program := "ytabdchehbgchcaa", sum := "f3184dd0d63fa46ff96149f3482b8eb7b0f5a7cd2cc822806d734fb979ed3ef7", func := "woolsack/woolkeep.PrimeMany", spec := "primeMany", apart := false }
def PrimeManySaid : Prop := primeManyRow.holds Try.pinned (OpenSpec.ofChange primeManySpec)

/-- ITS FALSE NEIGHBOUR: 'it returns false'. Refute it at one input. -/
def primeManyWrong : ChangeSpec := { name := "primeMany", fn := fun _ => fun
  | [d] => { results := [.lit (.bool false)], args := [d] }
  | _ => none }
def PrimeManyWrongFalsely : Prop := primeManyRow.holds Try.pinned (OpenSpec.ofChange primeManyWrong)

/-- 'woolkeep.PrimeFactors': WHATEVER THE INPUT: true; the input reads as it did. -/
def primeFactorsSpec : ChangeSpec := { name := "primeFactors", fn := fun _ => fun
  | [d] => { results := [.lit (.bool true)], args := [d] }
  | _ => none }
def primeFactorsRow : OpenClaim := { program := "ytabdchehbgchcaa", sum := "f3184dd0d63fa46ff96149f3482b8eb7b0f5a7cd2cc822806d734fb979ed3ef7", func := "woolsack/woolkeep.PrimeFactors", spec := "primeFactors", apart := false }
def PrimeFactorsSaid : Prop := primeFactorsRow.holds Try.pinned (OpenSpec.ofChange primeFactorsSpec)

/-- ITS FALSE NEIGHBOUR: 'it returns false'. Refute it at one input. -/
def primeFactorsWrong : ChangeSpec := { name := "primeFactors", fn := fun _ => fun
  | [d] => { results := [.lit (.bool false)], args := [d] }
  | _ => none }
def PrimeFactorsWrongFalsely : Prop := primeFactorsRow.holds Try.pinned (OpenSpec.ofChange primeFactorsWrong)

/- THE SECOND FORM. 'bulk': how many values and letters a reading holds, each counted each time it is reached (what is shared counts as often as it is met; a slice's spare places count too). A statement '..UptoSaid' is the law's where the arguments, and the package variables that the reading takes, are together of bulk at most 1048576: NARROWER than '..Said'. Prove '..Said' where nothing that the law and all that it calls make is longer than what came in: it says more and counts as full. Else prove '..UptoSaid'. A law counts once. -/
mutual
def uptoBulk {H : Type} : DataW H → Nat
  | .lit (.string bytes) => bytes.length + 1
  | .lit _ => 1
  | .nil => 1
  | .ptr d => uptoBulk d + 1
  | .slice elems spare => uptoBulkAll elems + uptoBulkAll spare + 1
  | .agg parts => uptoBulkAll parts + 1
  | .iface _ d => uptoBulk d + 1
  | .map entries => uptoBulkEntries entries + 1
  | .held _ => 1
def uptoBulkAll {H : Type} : List (DataW H) → Nat
  | [] => 0
  | d :: r => uptoBulk d + uptoBulkAll r
def uptoBulkEntries {H : Type} : List (Lit × DataW H) → Nat
  | [] => 0
  | x :: r => uptoBulkEntry x + uptoBulkEntries r
def uptoBulkEntry {H : Type} : Lit × DataW H → Nat
  | (.string bytes, d) => bytes.length + uptoBulk d + 1
  | (_, d) => uptoBulk d + 1
 end
def uptoSmall : (H : Type) → List (DataW H) → Bool := fun _ ds => decide (uptoBulkAll ds ≤ 1048576)
def OpenSpec.upto (s : _root_.Go.ChangeSpec) : _root_.Go.OpenSpec := { _root_.Go.OpenSpec.ofChange s with cond := some uptoSmall }

/-- 'woolkeep.PrimeGauss', WHERE WHAT IT READS IS OF BULK AT MOST 1048576: true; the input reads as it did. -/
def primeGaussUptoRow : OpenClaim := { program := "ytabdchehbgchcaa", sum := "f3184dd0d63fa46ff96149f3482b8eb7b0f5a7cd2cc822806d734fb979ed3ef7", func := "woolsack/woolkeep.PrimeGauss", spec := "primeGauss", apart := false, narrowed := true }
def PrimeGaussUptoSaid : Prop := primeGaussUptoRow.holds Try.pinned (OpenSpec.upto primeGaussSpec)

/-- 'woolkeep.PolyRing', WHERE WHAT IT READS IS OF BULK AT MOST 1048576: true; the input reads as it did. -/
def polyRingUptoRow : OpenClaim := { program := "ytabdchehbgchcaa", sum := "f3184dd0d63fa46ff96149f3482b8eb7b0f5a7cd2cc822806d734fb979ed3ef7", func := "woolsack/woolkeep.PolyRing", spec := "polyRing", apart := false, narrowed := true }
def PolyRingUptoSaid : Prop := polyRingUptoRow.holds Try.pinned (OpenSpec.upto polyRingSpec)

/-- 'woolkeep.PrintLinear', WHERE WHAT IT READS IS OF BULK AT MOST 1048576: true; the input reads as it did. -/
def printLinearUptoRow : OpenClaim := { program := "ytabdchehbgchcaa", sum := "f3184dd0d63fa46ff96149f3482b8eb7b0f5a7cd2cc822806d734fb979ed3ef7", func := "woolsack/woolkeep.PrintLinear", spec := "printLinear", apart := false, narrowed := true }
def PrintLinearUptoSaid : Prop := printLinearUptoRow.holds Try.pinned (OpenSpec.upto printLinearSpec)

/-- 'woolkeep.PrintBursts', WHERE WHAT IT READS IS OF BULK AT MOST 1048576: true; the input reads as it did. -/
def printBurstsUptoRow : OpenClaim := { program := "ytabdchehbgchcaa", sum := "f3184dd0d63fa46ff96149f3482b8eb7b0f5a7cd2cc822806d734fb979ed3ef7", func := "woolsack/woolkeep.PrintBursts", spec := "printBursts", apart := false, narrowed := true }
def PrintBurstsUptoSaid : Prop := printBurstsUptoRow.holds Try.pinned (OpenSpec.upto printBurstsSpec)

/-- 'woolkeep.PolyDegrees', WHERE WHAT IT READS IS OF BULK AT MOST 1048576: true; the input reads as it did. -/
def polyDegreesUptoRow : OpenClaim := { program := "ytabdchehbgchcaa", sum := "f3184dd0d63fa46ff96149f3482b8eb7b0f5a7cd2cc822806d734fb979ed3ef7", func := "woolsack/woolkeep.PolyDegrees", spec := "polyDegrees", apart := false, narrowed := true }
def PolyDegreesUptoSaid : Prop := polyDegreesUptoRow.holds Try.pinned (OpenSpec.upto polyDegreesSpec)

/-- 'woolkeep.PolyRests', WHERE WHAT IT READS IS OF BULK AT MOST 1048576: true; the input reads as it did. -/
def polyRestsUptoRow : OpenClaim := { program := "ytabdchehbgchcaa", sum := "f3184dd0d63fa46ff96149f3482b8eb7b0f5a7cd2cc822806d734fb979ed3ef7", func := "woolsack/woolkeep.PolyRests", spec := "polyRests", apart := false, narrowed := true }
def PolyRestsUptoSaid : Prop := polyRestsUptoRow.holds Try.pinned (OpenSpec.upto polyRestsSpec)

/-- 'woolkeep.PolyGcd', WHERE WHAT IT READS IS OF BULK AT MOST 1048576: true; the input reads as it did. -/
def polyGcdUptoRow : OpenClaim := { program := "ytabdchehbgchcaa", sum := "f3184dd0d63fa46ff96149f3482b8eb7b0f5a7cd2cc822806d734fb979ed3ef7", func := "woolsack/woolkeep.PolyGcd", spec := "polyGcd", apart := false, narrowed := true }
def PolyGcdUptoSaid : Prop := polyGcdUptoRow.holds Try.pinned (OpenSpec.upto polyGcdSpec)

/-- 'woolkeep.PolyDivision', WHERE WHAT IT READS IS OF BULK AT MOST 1048576: true; the input reads as it did. -/
def polyDivisionUptoRow : OpenClaim := { program := "ytabdchehbgchcaa", sum := "f3184dd0d63fa46ff96149f3482b8eb7b0f5a7cd2cc822806d734fb979ed3ef7", func := "woolsack/woolkeep.PolyDivision", spec := "polyDivision", apart := false, narrowed := true }
def PolyDivisionUptoSaid : Prop := polyDivisionUptoRow.holds Try.pinned (OpenSpec.upto polyDivisionSpec)

/-- 'woolkeep.PolyFrobenius', WHERE WHAT IT READS IS OF BULK AT MOST 1048576: true; the input reads as it did. -/
def polyFrobeniusUptoRow : OpenClaim := { program := "ytabdchehbgchcaa", sum := "f3184dd0d63fa46ff96149f3482b8eb7b0f5a7cd2cc822806d734fb979ed3ef7", func := "woolsack/woolkeep.PolyFrobenius", spec := "polyFrobenius", apart := false, narrowed := true }
def PolyFrobeniusUptoSaid : Prop := polyFrobeniusUptoRow.holds Try.pinned (OpenSpec.upto polyFrobeniusSpec)

/-- 'woolkeep.PrintByte', WHERE WHAT IT READS IS OF BULK AT MOST 1048576: true; the input reads as it did. -/
def printByteUptoRow : OpenClaim := { program := "ytabdchehbgchcaa", sum := "f3184dd0d63fa46ff96149f3482b8eb7b0f5a7cd2cc822806d734fb979ed3ef7", func := "woolsack/woolkeep.PrintByte", spec := "printByte", apart := false, narrowed := true }
def PrintByteUptoSaid : Prop := printByteUptoRow.holds Try.pinned (OpenSpec.upto printByteSpec)

/-- 'woolkeep.PrintParts', WHERE WHAT IT READS IS OF BULK AT MOST 1048576: true; the input reads as it did. -/
def printPartsUptoRow : OpenClaim := { program := "ytabdchehbgchcaa", sum := "f3184dd0d63fa46ff96149f3482b8eb7b0f5a7cd2cc822806d734fb979ed3ef7", func := "woolsack/woolkeep.PrintParts", spec := "printParts", apart := false, narrowed := true }
def PrintPartsUptoSaid : Prop := printPartsUptoRow.holds Try.pinned (OpenSpec.upto printPartsSpec)

/-- 'woolkeep.PolyTurned', WHERE WHAT IT READS IS OF BULK AT MOST 1048576: true; the input reads as it did. -/
def polyTurnedUptoRow : OpenClaim := { program := "ytabdchehbgchcaa", sum := "f3184dd0d63fa46ff96149f3482b8eb7b0f5a7cd2cc822806d734fb979ed3ef7", func := "woolsack/woolkeep.PolyTurned", spec := "polyTurned", apart := false, narrowed := true }
def PolyTurnedUptoSaid : Prop := polyTurnedUptoRow.holds Try.pinned (OpenSpec.upto polyTurnedSpec)

/-- 'woolkeep.PrimeProduct', WHERE WHAT IT READS IS OF BULK AT MOST 1048576: true; the input reads as it did. -/
def primeProductUptoRow : OpenClaim := { program := "ytabdchehbgchcaa", sum := "f3184dd0d63fa46ff96149f3482b8eb7b0f5a7cd2cc822806d734fb979ed3ef7", func := "woolsack/woolkeep.PrimeProduct", spec := "primeProduct", apart := false, narrowed := true }
def PrimeProductUptoSaid : Prop := primeProductUptoRow.holds Try.pinned (OpenSpec.upto primeProductSpec)

/-- 'woolkeep.PrimeEuclid', WHERE WHAT IT READS IS OF BULK AT MOST 1048576: true; the input reads as it did. -/
def primeEuclidUptoRow : OpenClaim := { program := "ytabdchehbgchcaa", sum := "f3184dd0d63fa46ff96149f3482b8eb7b0f5a7cd2cc822806d734fb979ed3ef7", func := "woolsack/woolkeep.PrimeEuclid", spec := "primeEuclid", apart := false, narrowed := true }
def PrimeEuclidUptoSaid : Prop := primeEuclidUptoRow.holds Try.pinned (OpenSpec.upto primeEuclidSpec)

/-- 'woolkeep.PrimeNext', WHERE WHAT IT READS IS OF BULK AT MOST 1048576: true; the input reads as it did. -/
def primeNextUptoRow : OpenClaim := { program := "ytabdchehbgchcaa", sum := "f3184dd0d63fa46ff96149f3482b8eb7b0f5a7cd2cc822806d734fb979ed3ef7", func := "woolsack/woolkeep.PrimeNext", spec := "primeNext", apart := false, narrowed := true }
def PrimeNextUptoSaid : Prop := primeNextUptoRow.holds Try.pinned (OpenSpec.upto primeNextSpec)

/-- 'woolkeep.PrintJoins', WHERE WHAT IT READS IS OF BULK AT MOST 1048576: true; the input reads as it did. -/
def printJoinsUptoRow : OpenClaim := { program := "ytabdchehbgchcaa", sum := "f3184dd0d63fa46ff96149f3482b8eb7b0f5a7cd2cc822806d734fb979ed3ef7", func := "woolsack/woolkeep.PrintJoins", spec := "printJoins", apart := false, narrowed := true }
def PrintJoinsUptoSaid : Prop := printJoinsUptoRow.holds Try.pinned (OpenSpec.upto printJoinsSpec)

/-- 'woolkeep.PrintRolls', WHERE WHAT IT READS IS OF BULK AT MOST 1048576: true; the input reads as it did. -/
def printRollsUptoRow : OpenClaim := { program := "ytabdchehbgchcaa", sum := "f3184dd0d63fa46ff96149f3482b8eb7b0f5a7cd2cc822806d734fb979ed3ef7", func := "woolsack/woolkeep.PrintRolls", spec := "printRolls", apart := false, narrowed := true }
def PrintRollsUptoSaid : Prop := printRollsUptoRow.holds Try.pinned (OpenSpec.upto printRollsSpec)

/-- 'woolkeep.PrimeFermat', WHERE WHAT IT READS IS OF BULK AT MOST 1048576: true; the input reads as it did. -/
def primeFermatUptoRow : OpenClaim := { program := "ytabdchehbgchcaa", sum := "f3184dd0d63fa46ff96149f3482b8eb7b0f5a7cd2cc822806d734fb979ed3ef7", func := "woolsack/woolkeep.PrimeFermat", spec := "primeFermat", apart := false, narrowed := true }
def PrimeFermatUptoSaid : Prop := primeFermatUptoRow.holds Try.pinned (OpenSpec.upto primeFermatSpec)

/-- 'woolkeep.PrimeRoots', WHERE WHAT IT READS IS OF BULK AT MOST 1048576: true; the input reads as it did. -/
def primeRootsUptoRow : OpenClaim := { program := "ytabdchehbgchcaa", sum := "f3184dd0d63fa46ff96149f3482b8eb7b0f5a7cd2cc822806d734fb979ed3ef7", func := "woolsack/woolkeep.PrimeRoots", spec := "primeRoots", apart := false, narrowed := true }
def PrimeRootsUptoSaid : Prop := primeRootsUptoRow.holds Try.pinned (OpenSpec.upto primeRootsSpec)

/-- 'woolkeep.PrimeMany', WHERE WHAT IT READS IS OF BULK AT MOST 1048576: true; the input reads as it did. -/
def primeManyUptoRow : OpenClaim := { program := "ytabdchehbgchcaa", sum := "f3184dd0d63fa46ff96149f3482b8eb7b0f5a7cd2cc822806d734fb979ed3ef7", func := "woolsack/woolkeep.PrimeMany", spec := "primeMany", apart := false, narrowed := true }
def PrimeManyUptoSaid : Prop := primeManyUptoRow.holds Try.pinned (OpenSpec.upto primeManySpec)

/-- 'woolkeep.PrimeFactors', WHERE WHAT IT READS IS OF BULK AT MOST 1048576: true; the input reads as it did. -/
def primeFactorsUptoRow : OpenClaim := { program := "ytabdchehbgchcaa", sum := "f3184dd0d63fa46ff96149f3482b8eb7b0f5a7cd2cc822806d734fb979ed3ef7", func := "woolsack/woolkeep.PrimeFactors", spec := "primeFactors", apart := false, narrowed := true }
def PrimeFactorsUptoSaid : Prop := primeFactorsUptoRow.holds Try.pinned (OpenSpec.upto primeFactorsSpec)

end Rows
end Go.Proofs.Ytabdchehbgchcaa
