/-
  No cell of these rows narrows 'for every input' (looked for: loops, veiled, ifaces, maps, wideKeys, modest, calm, conditions, laid).
  DERIVED. THE GIVEN ROWS OF THIS SEAT. 17 by the template 'for every input the law returns true; each argument reads behind the call as it read before'; 0 by the template 'total and deterministic' (their statements: YtalenienmkaflaaTotals.lean).
  GIVEN WITH THE SEED: the statements are not yours to turn. If you find one false, say at which input.
  Laid BY PROGRAM, IN A SANDBOX (cutbox-rows.mjs): the forced cells as the released guide's own fill.sh prints them over the translation a799a7dc58d6fb8c… (all of the seat's roots in one cut). By AI agents, Wed Nov 11 2026. No macro, syntax, notation, axiom, sorry.
-/
import Derived.Test.YtalenienmkaflaaChecked
import GoSem.Claim
import GoSem.ClaimJoined
import GoSem.ClaimMapViews
import Derived.JoinedTies
import Derived.KernelRfl
namespace Go.Proofs.Ytalenienmkaflaa
/- THE CELL 'sum', in the pinned program and in every row, IS THE sha256 OF THE DUMP (.gsa) THAT YtalenienmkaflaaProg.lean LOADS. Nothing in Lean hashes anything: it is a label: what it is worth is what the hold of that sum in a sandbox is worth. -/
noncomputable def Try.pinned : Pinned := { name := "ytalenienmkaflaa", sum := "a799a7dc58d6fb8cbbc0f21122f6a020fedb46ba208c3932c12b56019fc0a1ea", checked := Try.checked }
namespace Rows
def none {H : Type} : Left H := { results := [], args := [] }

/-- 'woolkeep.CutLocal': WHATEVER THE INPUT: true; the input reads as it did. -/
def cutLocalSpec : ChangeSpec := { name := "cutLocal", fn := fun _ => fun
  | [d1, d2, d3, d4, d5] => { results := [.lit (.bool true)], args := [d1, d2, d3, d4, d5] }
  | _ => none }
def cutLocalRow : OpenClaim := { program := "ytalenienmkaflaa", sum := "a799a7dc58d6fb8cbbc0f21122f6a020fedb46ba208c3932c12b56019fc0a1ea", func := "woolsack/woolkeep.CutLocal", spec := "cutLocal", apart := false }
def CutLocalSaid : Prop := cutLocalRow.holds Try.pinned (OpenSpec.ofChange cutLocalSpec)

/-- ITS FALSE NEIGHBOUR: 'it returns false'. Refute it at one input. -/
def cutLocalWrong : ChangeSpec := { name := "cutLocal", fn := fun _ => fun
  | [d1, d2, d3, d4, d5] => { results := [.lit (.bool false)], args := [d1, d2, d3, d4, d5] }
  | _ => none }
def CutLocalWrongFalsely : Prop := cutLocalRow.holds Try.pinned (OpenSpec.ofChange cutLocalWrong)

/-- 'woolkeep.CutMore': WHATEVER THE INPUT: true; the input reads as it did. -/
def cutMoreSpec : ChangeSpec := { name := "cutMore", fn := fun _ => fun
  | [d1, d2, d3, d4, d5] => { results := [.lit (.bool true)], args := [d1, d2, d3, d4, d5] }
  | _ => none }
def cutMoreRow : OpenClaim := { program := "ytalenienmkaflaa", sum := "a799a7dc58d6fb8cbbc0f21122f6a020fedb46ba208c3932c12b56019fc0a1ea", func := "woolsack/woolkeep.CutMore", spec := "cutMore", apart := false }
def CutMoreSaid : Prop := cutMoreRow.holds Try.pinned (OpenSpec.ofChange cutMoreSpec)

/-- ITS FALSE NEIGHBOUR: 'it returns false'. Refute it at one input. -/
def cutMoreWrong : ChangeSpec := { name := "cutMore", fn := fun _ => fun
  | [d1, d2, d3, d4, d5] => { results := [.lit (.bool false)], args := [d1, d2, d3, d4, d5] }
  | _ => none }
def CutMoreWrongFalsely : Prop := cutMoreRow.holds Try.pinned (OpenSpec.ofChange cutMoreWrong)

/-- 'woolkeep.CutAhead': WHATEVER THE INPUT: true; the input reads as it did. -/
def cutAheadSpec : ChangeSpec := { name := "cutAhead", fn := fun _ => fun
  | [d1, d2, d3, d4, d5] => { results := [.lit (.bool true)], args := [d1, d2, d3, d4, d5] }
  | _ => none }
def cutAheadRow : OpenClaim := { program := "ytalenienmkaflaa", sum := "a799a7dc58d6fb8cbbc0f21122f6a020fedb46ba208c3932c12b56019fc0a1ea", func := "woolsack/woolkeep.CutAhead", spec := "cutAhead", apart := false }
def CutAheadSaid : Prop := cutAheadRow.holds Try.pinned (OpenSpec.ofChange cutAheadSpec)

/-- ITS FALSE NEIGHBOUR: 'it returns false'. Refute it at one input. -/
def cutAheadWrong : ChangeSpec := { name := "cutAhead", fn := fun _ => fun
  | [d1, d2, d3, d4, d5] => { results := [.lit (.bool false)], args := [d1, d2, d3, d4, d5] }
  | _ => none }
def CutAheadWrongFalsely : Prop := cutAheadRow.holds Try.pinned (OpenSpec.ofChange cutAheadWrong)

/-- 'woolkeep.CutEven': WHATEVER THE INPUT: true; the input reads as it did. -/
def cutEvenSpec : ChangeSpec := { name := "cutEven", fn := fun _ => fun
  | [d1, d2, d3] => { results := [.lit (.bool true)], args := [d1, d2, d3] }
  | _ => none }
def cutEvenRow : OpenClaim := { program := "ytalenienmkaflaa", sum := "a799a7dc58d6fb8cbbc0f21122f6a020fedb46ba208c3932c12b56019fc0a1ea", func := "woolsack/woolkeep.CutEven", spec := "cutEven", apart := false }
def CutEvenSaid : Prop := cutEvenRow.holds Try.pinned (OpenSpec.ofChange cutEvenSpec)

/-- ITS FALSE NEIGHBOUR: 'it returns false'. Refute it at one input. -/
def cutEvenWrong : ChangeSpec := { name := "cutEven", fn := fun _ => fun
  | [d1, d2, d3] => { results := [.lit (.bool false)], args := [d1, d2, d3] }
  | _ => none }
def CutEvenWrongFalsely : Prop := cutEvenRow.holds Try.pinned (OpenSpec.ofChange cutEvenWrong)

/-- 'woolkeep.CutAgain': WHATEVER THE INPUT: true; the input reads as it did. -/
def cutAgainSpec : ChangeSpec := { name := "cutAgain", fn := fun _ => fun
  | [d1, d2, d3, d4, d5, d6] => { results := [.lit (.bool true)], args := [d1, d2, d3, d4, d5, d6] }
  | _ => none }
def cutAgainRow : OpenClaim := { program := "ytalenienmkaflaa", sum := "a799a7dc58d6fb8cbbc0f21122f6a020fedb46ba208c3932c12b56019fc0a1ea", func := "woolsack/woolkeep.CutAgain", spec := "cutAgain", apart := false }
def CutAgainSaid : Prop := cutAgainRow.holds Try.pinned (OpenSpec.ofChange cutAgainSpec)

/-- ITS FALSE NEIGHBOUR: 'it returns false'. Refute it at one input. -/
def cutAgainWrong : ChangeSpec := { name := "cutAgain", fn := fun _ => fun
  | [d1, d2, d3, d4, d5, d6] => { results := [.lit (.bool false)], args := [d1, d2, d3, d4, d5, d6] }
  | _ => none }
def CutAgainWrongFalsely : Prop := cutAgainRow.holds Try.pinned (OpenSpec.ofChange cutAgainWrong)

/-- 'woolkeep.CutSizes': WHATEVER THE INPUT: true; the input reads as it did. -/
def cutSizesSpec : ChangeSpec := { name := "cutSizes", fn := fun _ => fun
  | [d1, d2, d3, d4] => { results := [.lit (.bool true)], args := [d1, d2, d3, d4] }
  | _ => none }
def cutSizesRow : OpenClaim := { program := "ytalenienmkaflaa", sum := "a799a7dc58d6fb8cbbc0f21122f6a020fedb46ba208c3932c12b56019fc0a1ea", func := "woolsack/woolkeep.CutSizes", spec := "cutSizes", inPlace := ["internal/abi.NoEscape", "internal/bytealg.MakeNoZero"], apart := false }
def CutSizesSaid : Prop := cutSizesRow.holds Try.pinned (OpenSpec.ofChange cutSizesSpec)

/-- ITS FALSE NEIGHBOUR: 'it returns false'. Refute it at one input. -/
def cutSizesWrong : ChangeSpec := { name := "cutSizes", fn := fun _ => fun
  | [d1, d2, d3, d4] => { results := [.lit (.bool false)], args := [d1, d2, d3, d4] }
  | _ => none }
def CutSizesWrongFalsely : Prop := cutSizesRow.holds Try.pinned (OpenSpec.ofChange cutSizesWrong)

/-- 'woolkeep.FrameBursts': WHATEVER THE INPUT: true; the input reads as it did. -/
def frameBurstsSpec : ChangeSpec := { name := "frameBursts", fn := fun _ => fun
  | [d1, d2, d3] => { results := [.lit (.bool true)], args := [d1, d2, d3] }
  | _ => none }
def frameBurstsRow : OpenClaim := { program := "ytalenienmkaflaa", sum := "a799a7dc58d6fb8cbbc0f21122f6a020fedb46ba208c3932c12b56019fc0a1ea", func := "woolsack/woolkeep.FrameBursts", spec := "frameBursts", apart := false }
def FrameBurstsSaid : Prop := frameBurstsRow.holds Try.pinned (OpenSpec.ofChange frameBurstsSpec)

/-- ITS FALSE NEIGHBOUR: 'it returns false'. Refute it at one input. -/
def frameBurstsWrong : ChangeSpec := { name := "frameBursts", fn := fun _ => fun
  | [d1, d2, d3] => { results := [.lit (.bool false)], args := [d1, d2, d3] }
  | _ => none }
def FrameBurstsWrongFalsely : Prop := frameBurstsRow.holds Try.pinned (OpenSpec.ofChange frameBurstsWrong)

/-- 'woolkeep.FrameOne': WHATEVER THE INPUT: true; the input reads as it did. -/
def frameOneSpec : ChangeSpec := { name := "frameOne", fn := fun _ => fun
  | [d] => { results := [.lit (.bool true)], args := [d] }
  | _ => none }
def frameOneRow : OpenClaim := { program := "ytalenienmkaflaa", sum := "a799a7dc58d6fb8cbbc0f21122f6a020fedb46ba208c3932c12b56019fc0a1ea", func := "woolsack/woolkeep.FrameOne", spec := "frameOne", apart := false }
def FrameOneSaid : Prop := frameOneRow.holds Try.pinned (OpenSpec.ofChange frameOneSpec)

/-- ITS FALSE NEIGHBOUR: 'it returns false'. Refute it at one input. -/
def frameOneWrong : ChangeSpec := { name := "frameOne", fn := fun _ => fun
  | [d] => { results := [.lit (.bool false)], args := [d] }
  | _ => none }
def FrameOneWrongFalsely : Prop := frameOneRow.holds Try.pinned (OpenSpec.ofChange frameOneWrong)

/-- 'woolkeep.FrameRow': WHATEVER THE INPUT: true; the input reads as it did. -/
def frameRowSpec : ChangeSpec := { name := "frameRow", fn := fun _ => fun
  | [d1, d2, d3] => { results := [.lit (.bool true)], args := [d1, d2, d3] }
  | _ => none }
def frameRowRow : OpenClaim := { program := "ytalenienmkaflaa", sum := "a799a7dc58d6fb8cbbc0f21122f6a020fedb46ba208c3932c12b56019fc0a1ea", func := "woolsack/woolkeep.FrameRow", spec := "frameRow", apart := false }
def FrameRowSaid : Prop := frameRowRow.holds Try.pinned (OpenSpec.ofChange frameRowSpec)

/-- ITS FALSE NEIGHBOUR: 'it returns false'. Refute it at one input. -/
def frameRowWrong : ChangeSpec := { name := "frameRow", fn := fun _ => fun
  | [d1, d2, d3] => { results := [.lit (.bool false)], args := [d1, d2, d3] }
  | _ => none }
def FrameRowWrongFalsely : Prop := frameRowRow.holds Try.pinned (OpenSpec.ofChange frameRowWrong)

/-- 'woolkeep.FrameBack': WHATEVER THE INPUT: true; the input reads as it did. -/
def frameBackSpec : ChangeSpec := { name := "frameBack", fn := fun _ => fun
  | [d1, d2, d3, d4] => { results := [.lit (.bool true)], args := [d1, d2, d3, d4] }
  | _ => none }
def frameBackRow : OpenClaim := { program := "ytalenienmkaflaa", sum := "a799a7dc58d6fb8cbbc0f21122f6a020fedb46ba208c3932c12b56019fc0a1ea", func := "woolsack/woolkeep.FrameBack", spec := "frameBack", apart := false }
def FrameBackSaid : Prop := frameBackRow.holds Try.pinned (OpenSpec.ofChange frameBackSpec)

/-- ITS FALSE NEIGHBOUR: 'it returns false'. Refute it at one input. -/
def frameBackWrong : ChangeSpec := { name := "frameBack", fn := fun _ => fun
  | [d1, d2, d3, d4] => { results := [.lit (.bool false)], args := [d1, d2, d3, d4] }
  | _ => none }
def FrameBackWrongFalsely : Prop := frameBackRow.holds Try.pinned (OpenSpec.ofChange frameBackWrong)

/-- 'woolkeep.LzLength': WHATEVER THE INPUT: true; the input reads as it did. -/
def lzLengthSpec : ChangeSpec := { name := "lzLength", fn := fun _ => fun
  | [d1, d2] => { results := [.lit (.bool true)], args := [d1, d2] }
  | _ => none }
def lzLengthRow : OpenClaim := { program := "ytalenienmkaflaa", sum := "a799a7dc58d6fb8cbbc0f21122f6a020fedb46ba208c3932c12b56019fc0a1ea", func := "woolsack/woolkeep.LzLength", spec := "lzLength", apart := false }
def LzLengthSaid : Prop := lzLengthRow.holds Try.pinned (OpenSpec.ofChange lzLengthSpec)

/-- ITS FALSE NEIGHBOUR: 'it returns false'. Refute it at one input. -/
def lzLengthWrong : ChangeSpec := { name := "lzLength", fn := fun _ => fun
  | [d1, d2] => { results := [.lit (.bool false)], args := [d1, d2] }
  | _ => none }
def LzLengthWrongFalsely : Prop := lzLengthRow.holds Try.pinned (OpenSpec.ofChange lzLengthWrong)

/-- 'woolkeep.LzFewest': WHATEVER THE INPUT: true; the input reads as it did. -/
def lzFewestSpec : ChangeSpec := { name := "lzFewest", fn := fun _ => fun
  | [d1, d2] => { results := [.lit (.bool true)], args := [d1, d2] }
  | _ => none }
def lzFewestRow : OpenClaim := { program := "ytalenienmkaflaa", sum := "a799a7dc58d6fb8cbbc0f21122f6a020fedb46ba208c3932c12b56019fc0a1ea", func := "woolsack/woolkeep.LzFewest", spec := "lzFewest", unfollowed := true, recurses := true, apart := false }
def LzFewestSaid : Prop := lzFewestRow.holds Try.pinned (OpenSpec.ofChange lzFewestSpec)

/-- ITS FALSE NEIGHBOUR: 'it returns false'. Refute it at one input. -/
def lzFewestWrong : ChangeSpec := { name := "lzFewest", fn := fun _ => fun
  | [d1, d2] => { results := [.lit (.bool false)], args := [d1, d2] }
  | _ => none }
def LzFewestWrongFalsely : Prop := lzFewestRow.holds Try.pinned (OpenSpec.ofChange lzFewestWrong)

/-- 'woolkeep.LzBack': WHATEVER THE INPUT: true; the input reads as it did. -/
def lzBackSpec : ChangeSpec := { name := "lzBack", fn := fun _ => fun
  | [d1, d2, d3] => { results := [.lit (.bool true)], args := [d1, d2, d3] }
  | _ => none }
def lzBackRow : OpenClaim := { program := "ytalenienmkaflaa", sum := "a799a7dc58d6fb8cbbc0f21122f6a020fedb46ba208c3932c12b56019fc0a1ea", func := "woolsack/woolkeep.LzBack", spec := "lzBack", unfollowed := true, recurses := true, apart := false }
def LzBackSaid : Prop := lzBackRow.holds Try.pinned (OpenSpec.ofChange lzBackSpec)

/-- ITS FALSE NEIGHBOUR: 'it returns false'. Refute it at one input. -/
def lzBackWrong : ChangeSpec := { name := "lzBack", fn := fun _ => fun
  | [d1, d2, d3] => { results := [.lit (.bool false)], args := [d1, d2, d3] }
  | _ => none }
def LzBackWrongFalsely : Prop := lzBackRow.holds Try.pinned (OpenSpec.ofChange lzBackWrong)

/-- 'woolkeep.LzRuns': WHATEVER THE INPUT: true; the input reads as it did. -/
def lzRunsSpec : ChangeSpec := { name := "lzRuns", fn := fun _ => fun
  | [d1, d2, d3] => { results := [.lit (.bool true)], args := [d1, d2, d3] }
  | _ => none }
def lzRunsRow : OpenClaim := { program := "ytalenienmkaflaa", sum := "a799a7dc58d6fb8cbbc0f21122f6a020fedb46ba208c3932c12b56019fc0a1ea", func := "woolsack/woolkeep.LzRuns", spec := "lzRuns", inPlace := ["internal/abi.NoEscape", "internal/bytealg.MakeNoZero"], unfollowed := true, recurses := true, apart := false }
def LzRunsSaid : Prop := lzRunsRow.holds Try.pinned (OpenSpec.ofChange lzRunsSpec)

/-- ITS FALSE NEIGHBOUR: 'it returns false'. Refute it at one input. -/
def lzRunsWrong : ChangeSpec := { name := "lzRuns", fn := fun _ => fun
  | [d1, d2, d3] => { results := [.lit (.bool false)], args := [d1, d2, d3] }
  | _ => none }
def LzRunsWrongFalsely : Prop := lzRunsRow.holds Try.pinned (OpenSpec.ofChange lzRunsWrong)

/-- 'woolkeep.GammaKraft': WHATEVER THE INPUT: true; the input reads as it did. -/
def gammaKraftSpec : ChangeSpec := { name := "gammaKraft", fn := fun _ => fun
  | [d] => { results := [.lit (.bool true)], args := [d] }
  | _ => none }
def gammaKraftRow : OpenClaim := { program := "ytalenienmkaflaa", sum := "a799a7dc58d6fb8cbbc0f21122f6a020fedb46ba208c3932c12b56019fc0a1ea", func := "woolsack/woolkeep.GammaKraft", spec := "gammaKraft", inPlace := ["internal/abi.NoEscape", "internal/bytealg.MakeNoZero"], apart := false }
def GammaKraftSaid : Prop := gammaKraftRow.holds Try.pinned (OpenSpec.ofChange gammaKraftSpec)

/-- ITS FALSE NEIGHBOUR: 'it returns false'. Refute it at one input. -/
def gammaKraftWrong : ChangeSpec := { name := "gammaKraft", fn := fun _ => fun
  | [d] => { results := [.lit (.bool false)], args := [d] }
  | _ => none }
def GammaKraftWrongFalsely : Prop := gammaKraftRow.holds Try.pinned (OpenSpec.ofChange gammaKraftWrong)

/-- 'woolkeep.GammaPrefix': WHATEVER THE INPUT: true; the input reads as it did. -/
def gammaPrefixSpec : ChangeSpec := { name := "gammaPrefix", fn := fun _ => fun
  | [d1, d2] => { results := [.lit (.bool true)], args := [d1, d2] }
  | _ => none }
def gammaPrefixRow : OpenClaim := { program := "ytalenienmkaflaa", sum := "a799a7dc58d6fb8cbbc0f21122f6a020fedb46ba208c3932c12b56019fc0a1ea", func := "woolsack/woolkeep.GammaPrefix", spec := "gammaPrefix", inPlace := ["internal/abi.NoEscape", "internal/bytealg.MakeNoZero"], apart := false }
def GammaPrefixSaid : Prop := gammaPrefixRow.holds Try.pinned (OpenSpec.ofChange gammaPrefixSpec)

/-- ITS FALSE NEIGHBOUR: 'it returns false'. Refute it at one input. -/
def gammaPrefixWrong : ChangeSpec := { name := "gammaPrefix", fn := fun _ => fun
  | [d1, d2] => { results := [.lit (.bool false)], args := [d1, d2] }
  | _ => none }
def GammaPrefixWrongFalsely : Prop := gammaPrefixRow.holds Try.pinned (OpenSpec.ofChange gammaPrefixWrong)

/-- 'woolkeep.LogBack': WHATEVER THE INPUT: true; the input reads as it did. -/
def logBackSpec : ChangeSpec := { name := "logBack", fn := fun _ => fun
  | [d1, d2] => { results := [.lit (.bool true)], args := [d1, d2] }
  | _ => none }
def logBackRow : OpenClaim := { program := "ytalenienmkaflaa", sum := "a799a7dc58d6fb8cbbc0f21122f6a020fedb46ba208c3932c12b56019fc0a1ea", func := "woolsack/woolkeep.LogBack", spec := "logBack", apart := false }
def LogBackSaid : Prop := logBackRow.holds Try.pinned (OpenSpec.ofChange logBackSpec)

/-- ITS FALSE NEIGHBOUR: 'it returns false'. Refute it at one input. -/
def logBackWrong : ChangeSpec := { name := "logBack", fn := fun _ => fun
  | [d1, d2] => { results := [.lit (.bool false)], args := [d1, d2] }
  | _ => none }
def LogBackWrongFalsely : Prop := logBackRow.holds Try.pinned (OpenSpec.ofChange logBackWrong)

/- THE SECOND FORM. 'bulk': how many values and letters a reading holds, each counted each time it is reached (what is shared counts as often as it is met; a slice's spare places count too). A statement '..UptoSaid' is the law's where the arguments, and the package variables that the reading takes, are together of bulk at most 1048576: NARROWER than '..Said'. Prove '..Said' where nothing that the law and all that it calls make is longer than what came in: it says more and counts as full. Else prove '..UptoSaid'. A law counts once. -/
mutual
def uptoBulk {H : Type} : DataW H → Nat
  | .lit (.string bytes) => bytes.length + 1
  | .lit _ => 1
  | .nil => 1
  | .ptr d => uptoBulk d + 1
  | .slice elems spare => uptoBulkAll elems + uptoBulkAll spare + 1
  | .agg parts => uptoBulkAll parts + 1
  | .iface _ d => uptoBulk d + 1
  | .map entries => uptoBulkEntries entries + 1
  | .held _ => 1
def uptoBulkAll {H : Type} : List (DataW H) → Nat
  | [] => 0
  | d :: r => uptoBulk d + uptoBulkAll r
def uptoBulkEntries {H : Type} : List (Lit × DataW H) → Nat
  | [] => 0
  | x :: r => uptoBulkEntry x + uptoBulkEntries r
def uptoBulkEntry {H : Type} : Lit × DataW H → Nat
  | (.string bytes, d) => bytes.length + uptoBulk d + 1
  | (_, d) => uptoBulk d + 1
 end
def uptoSmall : (H : Type) → List (DataW H) → Bool := fun _ ds => decide (uptoBulkAll ds ≤ 1048576)
def OpenSpec.upto (s : _root_.Go.ChangeSpec) : _root_.Go.OpenSpec := { _root_.Go.OpenSpec.ofChange s with cond := some uptoSmall }

/-- 'woolkeep.CutLocal', WHERE WHAT IT READS IS OF BULK AT MOST 1048576: true; the input reads as it did. -/
def cutLocalUptoRow : OpenClaim := { program := "ytalenienmkaflaa", sum := "a799a7dc58d6fb8cbbc0f21122f6a020fedb46ba208c3932c12b56019fc0a1ea", func := "woolsack/woolkeep.CutLocal", spec := "cutLocal", apart := false, narrowed := true }
def CutLocalUptoSaid : Prop := cutLocalUptoRow.holds Try.pinned (OpenSpec.upto cutLocalSpec)

/-- 'woolkeep.CutMore', WHERE WHAT IT READS IS OF BULK AT MOST 1048576: true; the input reads as it did. -/
def cutMoreUptoRow : OpenClaim := { program := "ytalenienmkaflaa", sum := "a799a7dc58d6fb8cbbc0f21122f6a020fedb46ba208c3932c12b56019fc0a1ea", func := "woolsack/woolkeep.CutMore", spec := "cutMore", apart := false, narrowed := true }
def CutMoreUptoSaid : Prop := cutMoreUptoRow.holds Try.pinned (OpenSpec.upto cutMoreSpec)

/-- 'woolkeep.CutAhead', WHERE WHAT IT READS IS OF BULK AT MOST 1048576: true; the input reads as it did. -/
def cutAheadUptoRow : OpenClaim := { program := "ytalenienmkaflaa", sum := "a799a7dc58d6fb8cbbc0f21122f6a020fedb46ba208c3932c12b56019fc0a1ea", func := "woolsack/woolkeep.CutAhead", spec := "cutAhead", apart := false, narrowed := true }
def CutAheadUptoSaid : Prop := cutAheadUptoRow.holds Try.pinned (OpenSpec.upto cutAheadSpec)

/-- 'woolkeep.CutEven', WHERE WHAT IT READS IS OF BULK AT MOST 1048576: true; the input reads as it did. -/
def cutEvenUptoRow : OpenClaim := { program := "ytalenienmkaflaa", sum := "a799a7dc58d6fb8cbbc0f21122f6a020fedb46ba208c3932c12b56019fc0a1ea", func := "woolsack/woolkeep.CutEven", spec := "cutEven", apart := false, narrowed := true }
def CutEvenUptoSaid : Prop := cutEvenUptoRow.holds Try.pinned (OpenSpec.upto cutEvenSpec)

/-- 'woolkeep.CutAgain', WHERE WHAT IT READS IS OF BULK AT MOST 1048576: true; the input reads as it did. -/
def cutAgainUptoRow : OpenClaim := { program := "ytalenienmkaflaa", sum := "a799a7dc58d6fb8cbbc0f21122f6a020fedb46ba208c3932c12b56019fc0a1ea", func := "woolsack/woolkeep.CutAgain", spec := "cutAgain", apart := false, narrowed := true }
def CutAgainUptoSaid : Prop := cutAgainUptoRow.holds Try.pinned (OpenSpec.upto cutAgainSpec)

/-- 'woolkeep.CutSizes', WHERE WHAT IT READS IS OF BULK AT MOST 1048576: true; the input reads as it did. -/
def cutSizesUptoRow : OpenClaim := { program := "ytalenienmkaflaa", sum := "a799a7dc58d6fb8cbbc0f21122f6a020fedb46ba208c3932c12b56019fc0a1ea", func := "woolsack/woolkeep.CutSizes", spec := "cutSizes", inPlace := ["internal/abi.NoEscape", "internal/bytealg.MakeNoZero"], apart := false, narrowed := true }
def CutSizesUptoSaid : Prop := cutSizesUptoRow.holds Try.pinned (OpenSpec.upto cutSizesSpec)

/-- 'woolkeep.FrameBursts', WHERE WHAT IT READS IS OF BULK AT MOST 1048576: true; the input reads as it did. -/
def frameBurstsUptoRow : OpenClaim := { program := "ytalenienmkaflaa", sum := "a799a7dc58d6fb8cbbc0f21122f6a020fedb46ba208c3932c12b56019fc0a1ea", func := "woolsack/woolkeep.FrameBursts", spec := "frameBursts", apart := false, narrowed := true }
def FrameBurstsUptoSaid : Prop := frameBurstsUptoRow.holds Try.pinned (OpenSpec.upto frameBurstsSpec)

/-- 'woolkeep.FrameOne', WHERE WHAT IT READS IS OF BULK AT MOST 1048576: true; the input reads as it did. -/
def frameOneUptoRow : OpenClaim := { program := "ytalenienmkaflaa", sum := "a799a7dc58d6fb8cbbc0f21122f6a020fedb46ba208c3932c12b56019fc0a1ea", func := "woolsack/woolkeep.FrameOne", spec := "frameOne", apart := false, narrowed := true }
def FrameOneUptoSaid : Prop := frameOneUptoRow.holds Try.pinned (OpenSpec.upto frameOneSpec)

/-- 'woolkeep.FrameRow', WHERE WHAT IT READS IS OF BULK AT MOST 1048576: true; the input reads as it did. -/
def frameRowUptoRow : OpenClaim := { program := "ytalenienmkaflaa", sum := "a799a7dc58d6fb8cbbc0f21122f6a020fedb46ba208c3932c12b56019fc0a1ea", func := "woolsack/woolkeep.FrameRow", spec := "frameRow", apart := false, narrowed := true }
def FrameRowUptoSaid : Prop := frameRowUptoRow.holds Try.pinned (OpenSpec.upto frameRowSpec)

/-- 'woolkeep.FrameBack', WHERE WHAT IT READS IS OF BULK AT MOST 1048576: true; the input reads as it did. -/
def frameBackUptoRow : OpenClaim := { program := "ytalenienmkaflaa", sum := "a799a7dc58d6fb8cbbc0f21122f6a020fedb46ba208c3932c12b56019fc0a1ea", func := "woolsack/woolkeep.FrameBack", spec := "frameBack", apart := false, narrowed := true }
def FrameBackUptoSaid : Prop := frameBackUptoRow.holds Try.pinned (OpenSpec.upto frameBackSpec)

/-- 'woolkeep.LzLength', WHERE WHAT IT READS IS OF BULK AT MOST 1048576: true; the input reads as it did. -/
def lzLengthUptoRow : OpenClaim := { program := "ytalenienmkaflaa", sum := "a799a7dc58d6fb8cbbc0f21122f6a020fedb46ba208c3932c12b56019fc0a1ea", func := "woolsack/woolkeep.LzLength", spec := "lzLength", apart := false, narrowed := true }
def LzLengthUptoSaid : Prop := lzLengthUptoRow.holds Try.pinned (OpenSpec.upto lzLengthSpec)

/-- 'woolkeep.LzFewest', WHERE WHAT IT READS IS OF BULK AT MOST 1048576: true; the input reads as it did. -/
def lzFewestUptoRow : OpenClaim := { program := "ytalenienmkaflaa", sum := "a799a7dc58d6fb8cbbc0f21122f6a020fedb46ba208c3932c12b56019fc0a1ea", func := "woolsack/woolkeep.LzFewest", spec := "lzFewest", unfollowed := true, recurses := true, apart := false, narrowed := true }
def LzFewestUptoSaid : Prop := lzFewestUptoRow.holds Try.pinned (OpenSpec.upto lzFewestSpec)

/-- 'woolkeep.LzBack', WHERE WHAT IT READS IS OF BULK AT MOST 1048576: true; the input reads as it did. -/
def lzBackUptoRow : OpenClaim := { program := "ytalenienmkaflaa", sum := "a799a7dc58d6fb8cbbc0f21122f6a020fedb46ba208c3932c12b56019fc0a1ea", func := "woolsack/woolkeep.LzBack", spec := "lzBack", unfollowed := true, recurses := true, apart := false, narrowed := true }
def LzBackUptoSaid : Prop := lzBackUptoRow.holds Try.pinned (OpenSpec.upto lzBackSpec)

/-- 'woolkeep.LzRuns', WHERE WHAT IT READS IS OF BULK AT MOST 1048576: true; the input reads as it did. -/
def lzRunsUptoRow : OpenClaim := { program := "ytalenienmkaflaa", sum := "a799a7dc58d6fb8cbbc0f21122f6a020fedb46ba208c3932c12b56019fc0a1ea", func := "woolsack/woolkeep.LzRuns", spec := "lzRuns", inPlace := ["internal/abi.NoEscape", "internal/bytealg.MakeNoZero"], unfollowed := true, recurses := true, apart := false, narrowed := true }
def LzRunsUptoSaid : Prop := lzRunsUptoRow.holds Try.pinned (OpenSpec.upto lzRunsSpec)

/-- 'woolkeep.GammaKraft', WHERE WHAT IT READS IS OF BULK AT MOST 1048576: true; the input reads as it did. -/
def gammaKraftUptoRow : OpenClaim := { program := "ytalenienmkaflaa", sum := "a799a7dc58d6fb8cbbc0f21122f6a020fedb46ba208c3932c12b56019fc0a1ea", func := "woolsack/woolkeep.GammaKraft", spec := "gammaKraft", inPlace := ["internal/abi.NoEscape", "internal/bytealg.MakeNoZero"], apart := false, narrowed := true }
def GammaKraftUptoSaid : Prop := gammaKraftUptoRow.holds Try.pinned (OpenSpec.upto gammaKraftSpec)

/-- 'woolkeep.GammaPrefix', WHERE WHAT IT READS IS OF BULK AT MOST 1048576: true; the input reads as it did. -/
def gammaPrefixUptoRow : OpenClaim := { program := "ytalenienmkaflaa", sum := "a799a7dc58d6fb8cbbc0f21122f6a020fedb46ba208c3932c12b56019fc0a1ea", func := "woolsack/woolkeep.GammaPrefix", spec := "gammaPrefix", inPlace := ["internal/abi.NoEscape", "internal/bytealg.MakeNoZero"], apart := false, narrowed := true }
def GammaPrefixUptoSaid : Prop := gammaPrefixUptoRow.holds Try.pinned (OpenSpec.upto gammaPrefixSpec)

/-- 'woolkeep.LogBack', WHERE WHAT IT READS IS OF BULK AT MOST 1048576: true; the input reads as it did. -/
def logBackUptoRow : OpenClaim := { program := "ytalenienmkaflaa", sum := "a799a7dc58d6fb8cbbc0f21122f6a020fedb46ba208c3932c12b56019fc0a1ea", func := "woolsack/woolkeep.LogBack", spec := "logBack", apart := false, narrowed := true }
def LogBackUptoSaid : Prop := logBackUptoRow.holds Try.pinned (OpenSpec.upto logBackSpec)

end Rows
end Go.Proofs.Ytalenienmkaflaa
