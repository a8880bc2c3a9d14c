/-
  No cell of these rows narrows 'for every input' (looked for: loops, veiled, ifaces, maps, wideKeys, modest, calm, conditions, laid).
  DERIVED. THE GIVEN ROWS OF THIS SEAT. 17 by the template 'for every input the law returns true; each argument reads behind the call as it read before'; 0 by the template 'total and deterministic' (their statements: YteddendidjhmbaaTotals.lean).
  GIVEN WITH THE SEED: the statements are not yours to turn. If you find one false, say at which input.
  Laid BY PROGRAM, IN A SANDBOX (cutbox-rows.mjs): the forced cells as the released guide's own fill.sh prints them over the translation ea027ed68584be48… (all of the seat's roots in one cut). By AI agents, Wed Nov 11 2026. No macro, syntax, notation, axiom, sorry.
-/
import Derived.Test.YteddendidjhmbaaChecked
import GoSem.Claim
import GoSem.ClaimJoined
import GoSem.ClaimMapViews
import Derived.JoinedTies
import Derived.KernelRfl
namespace Go.Proofs.Yteddendidjhmbaa
/- THE CELL 'sum', in the pinned program and in every row, IS THE sha256 OF THE DUMP (.gsa) THAT YteddendidjhmbaaProg.lean LOADS. Nothing in Lean hashes anything: it is a label: what it is worth is what the hold of that sum in a sandbox is worth. -/
noncomputable def Try.pinned : Pinned := { name := "yteddendidjhmbaa", sum := "ea027ed68584be48daecf8bf3c601d8717caea9886a5fb43b91cedd3ab5ada6e", checked := Try.checked }
namespace Rows
def none {H : Type} : Left H := { results := [], args := [] }

/-- 'woolkeep.BagTurns': WHATEVER THE INPUT: true; the input reads as it did. -/
def bagTurnsSpec : ChangeSpec := { name := "bagTurns", fn := fun _ => fun
  | [d1, d2, d3, d4] => { results := [.lit (.bool true)], args := [d1, d2, d3, d4] }
  | _ => none }
def bagTurnsRow : OpenClaim := { program := "yteddendidjhmbaa", sum := "ea027ed68584be48daecf8bf3c601d8717caea9886a5fb43b91cedd3ab5ada6e", func := "woolsack/woolkeep.BagTurns", spec := "bagTurns", inPlace := ["slices.overlaps[woolsack/api.Item]"], unfollowed := true, recurses := true, plainKeys := false, apart := false }
def BagTurnsSaid : Prop := bagTurnsRow.holds Try.pinned (OpenSpec.ofChange bagTurnsSpec)

/-- ITS FALSE NEIGHBOUR: 'it returns false'. Refute it at one input. -/
def bagTurnsWrong : ChangeSpec := { name := "bagTurns", fn := fun _ => fun
  | [d1, d2, d3, d4] => { results := [.lit (.bool false)], args := [d1, d2, d3, d4] }
  | _ => none }
def BagTurnsWrongFalsely : Prop := bagTurnsRow.holds Try.pinned (OpenSpec.ofChange bagTurnsWrong)

/-- 'woolkeep.BagOnce': WHATEVER THE INPUT: true; the input reads as it did. -/
def bagOnceSpec : ChangeSpec := { name := "bagOnce", fn := fun _ => fun
  | [d1, d2, d3] => { results := [.lit (.bool true)], args := [d1, d2, d3] }
  | _ => none }
def bagOnceRow : OpenClaim := { program := "yteddendidjhmbaa", sum := "ea027ed68584be48daecf8bf3c601d8717caea9886a5fb43b91cedd3ab5ada6e", func := "woolsack/woolkeep.BagOnce", spec := "bagOnce", inPlace := ["slices.overlaps[woolsack/api.Item]"], unfollowed := true, recurses := true, plainKeys := false, apart := false }
def BagOnceSaid : Prop := bagOnceRow.holds Try.pinned (OpenSpec.ofChange bagOnceSpec)

/-- ITS FALSE NEIGHBOUR: 'it returns false'. Refute it at one input. -/
def bagOnceWrong : ChangeSpec := { name := "bagOnce", fn := fun _ => fun
  | [d1, d2, d3] => { results := [.lit (.bool false)], args := [d1, d2, d3] }
  | _ => none }
def BagOnceWrongFalsely : Prop := bagOnceRow.holds Try.pinned (OpenSpec.ofChange bagOnceWrong)

/-- 'woolkeep.BagOthers': WHATEVER THE INPUT: true; the input reads as it did. -/
def bagOthersSpec : ChangeSpec := { name := "bagOthers", fn := fun _ => fun
  | [d1, d2, d3, d4] => { results := [.lit (.bool true)], args := [d1, d2, d3, d4] }
  | _ => none }
def bagOthersRow : OpenClaim := { program := "yteddendidjhmbaa", sum := "ea027ed68584be48daecf8bf3c601d8717caea9886a5fb43b91cedd3ab5ada6e", func := "woolsack/woolkeep.BagOthers", spec := "bagOthers", inPlace := ["slices.overlaps[woolsack/api.Item]"], unfollowed := true, recurses := true, plainKeys := false, apart := false }
def BagOthersSaid : Prop := bagOthersRow.holds Try.pinned (OpenSpec.ofChange bagOthersSpec)

/-- ITS FALSE NEIGHBOUR: 'it returns false'. Refute it at one input. -/
def bagOthersWrong : ChangeSpec := { name := "bagOthers", fn := fun _ => fun
  | [d1, d2, d3, d4] => { results := [.lit (.bool false)], args := [d1, d2, d3, d4] }
  | _ => none }
def BagOthersWrongFalsely : Prop := bagOthersRow.holds Try.pinned (OpenSpec.ofChange bagOthersWrong)

/-- 'woolkeep.BagBack': WHATEVER THE INPUT: true; the input reads as it did. -/
def bagBackSpec : ChangeSpec := { name := "bagBack", fn := fun _ => fun
  | [d1, d2] => { results := [.lit (.bool true)], args := [d1, d2] }
  | _ => none }
def bagBackRow : OpenClaim := { program := "yteddendidjhmbaa", sum := "ea027ed68584be48daecf8bf3c601d8717caea9886a5fb43b91cedd3ab5ada6e", func := "woolsack/woolkeep.BagBack", spec := "bagBack", inPlace := ["slices.overlaps[woolsack/api.Item]"], unfollowed := true, recurses := true, plainKeys := false, apart := false }
def BagBackSaid : Prop := bagBackRow.holds Try.pinned (OpenSpec.ofChange bagBackSpec)

/-- ITS FALSE NEIGHBOUR: 'it returns false'. Refute it at one input. -/
def bagBackWrong : ChangeSpec := { name := "bagBack", fn := fun _ => fun
  | [d1, d2] => { results := [.lit (.bool false)], args := [d1, d2] }
  | _ => none }
def BagBackWrongFalsely : Prop := bagBackRow.holds Try.pinned (OpenSpec.ofChange bagBackWrong)

/-- 'woolkeep.BagOwn': WHATEVER THE INPUT: true; the input reads as it did. -/
def bagOwnSpec : ChangeSpec := { name := "bagOwn", fn := fun _ => fun
  | [d1, d2, d3] => { results := [.lit (.bool true)], args := [d1, d2, d3] }
  | _ => none }
def bagOwnRow : OpenClaim := { program := "yteddendidjhmbaa", sum := "ea027ed68584be48daecf8bf3c601d8717caea9886a5fb43b91cedd3ab5ada6e", func := "woolsack/woolkeep.BagOwn", spec := "bagOwn", inPlace := ["slices.overlaps[woolsack/api.Item]"], unfollowed := true, recurses := true, plainKeys := false, apart := false }
def BagOwnSaid : Prop := bagOwnRow.holds Try.pinned (OpenSpec.ofChange bagOwnSpec)

/-- ITS FALSE NEIGHBOUR: 'it returns false'. Refute it at one input. -/
def bagOwnWrong : ChangeSpec := { name := "bagOwn", fn := fun _ => fun
  | [d1, d2, d3] => { results := [.lit (.bool false)], args := [d1, d2, d3] }
  | _ => none }
def BagOwnWrongFalsely : Prop := bagOwnRow.holds Try.pinned (OpenSpec.ofChange bagOwnWrong)

/-- 'woolkeep.VolRight': WHATEVER THE INPUT: true; the input reads as it did. -/
def volRightSpec : ChangeSpec := { name := "volRight", fn := fun _ => fun
  | [d] => { results := [.lit (.bool true)], args := [d] }
  | _ => none }
def volRightRow : OpenClaim := { program := "yteddendidjhmbaa", sum := "ea027ed68584be48daecf8bf3c601d8717caea9886a5fb43b91cedd3ab5ada6e", func := "woolsack/woolkeep.VolRight", spec := "volRight", inPlace := ["internal/bytealg.abigen_runtime_cmpstring", "slices.overlaps[woolsack/api.Vol]", "slices.overlaps[woolsack/api.Item]"], unfollowed := true, recurses := true, plainKeys := false, apart := false }
def VolRightSaid : Prop := volRightRow.holds Try.pinned (OpenSpec.ofChange volRightSpec)

/-- ITS FALSE NEIGHBOUR: 'it returns false'. Refute it at one input. -/
def volRightWrong : ChangeSpec := { name := "volRight", fn := fun _ => fun
  | [d] => { results := [.lit (.bool false)], args := [d] }
  | _ => none }
def VolRightWrongFalsely : Prop := volRightRow.holds Try.pinned (OpenSpec.ofChange volRightWrong)

/-- 'woolkeep.VolReads': WHATEVER THE INPUT: true; the input reads as it did. -/
def volReadsSpec : ChangeSpec := { name := "volReads", fn := fun _ => fun
  | [d1, d2, d3, d4, d5, d6] => { results := [.lit (.bool true)], args := [d1, d2, d3, d4, d5, d6] }
  | _ => none }
def volReadsRow : OpenClaim := { program := "yteddendidjhmbaa", sum := "ea027ed68584be48daecf8bf3c601d8717caea9886a5fb43b91cedd3ab5ada6e", func := "woolsack/woolkeep.VolReads", spec := "volReads", inPlace := ["internal/bytealg.abigen_runtime_cmpstring", "slices.overlaps[woolsack/api.Vol]", "slices.overlaps[woolsack/api.Item]"], unfollowed := true, recurses := true, plainKeys := false, apart := false }
def VolReadsSaid : Prop := volReadsRow.holds Try.pinned (OpenSpec.ofChange volReadsSpec)

/-- ITS FALSE NEIGHBOUR: 'it returns false'. Refute it at one input. -/
def volReadsWrong : ChangeSpec := { name := "volReads", fn := fun _ => fun
  | [d1, d2, d3, d4, d5, d6] => { results := [.lit (.bool false)], args := [d1, d2, d3, d4, d5, d6] }
  | _ => none }
def VolReadsWrongFalsely : Prop := volReadsRow.holds Try.pinned (OpenSpec.ofChange volReadsWrong)

/-- 'woolkeep.VolEmpty': WHATEVER THE INPUT: true; the input reads as it did. -/
def volEmptySpec : ChangeSpec := { name := "volEmpty", fn := fun _ => fun
  | [d] => { results := [.lit (.bool true)], args := [d] }
  | _ => none }
def volEmptyRow : OpenClaim := { program := "yteddendidjhmbaa", sum := "ea027ed68584be48daecf8bf3c601d8717caea9886a5fb43b91cedd3ab5ada6e", func := "woolsack/woolkeep.VolEmpty", spec := "volEmpty", inPlace := ["internal/bytealg.abigen_runtime_cmpstring", "slices.overlaps[woolsack/api.Vol]", "slices.overlaps[woolsack/api.Item]"], unfollowed := true, recurses := true, plainKeys := false, apart := false }
def VolEmptySaid : Prop := volEmptyRow.holds Try.pinned (OpenSpec.ofChange volEmptySpec)

/-- ITS FALSE NEIGHBOUR: 'it returns false'. Refute it at one input. -/
def volEmptyWrong : ChangeSpec := { name := "volEmpty", fn := fun _ => fun
  | [d] => { results := [.lit (.bool false)], args := [d] }
  | _ => none }
def VolEmptyWrongFalsely : Prop := volEmptyRow.holds Try.pinned (OpenSpec.ofChange volEmptyWrong)

/-- 'woolkeep.VolNew': WHATEVER THE INPUT: true; the input reads as it did. -/
def volNewSpec : ChangeSpec := { name := "volNew", fn := fun _ => fun
  | [d1, d2, d3] => { results := [.lit (.bool true)], args := [d1, d2, d3] }
  | _ => none }
def volNewRow : OpenClaim := { program := "yteddendidjhmbaa", sum := "ea027ed68584be48daecf8bf3c601d8717caea9886a5fb43b91cedd3ab5ada6e", func := "woolsack/woolkeep.VolNew", spec := "volNew", inPlace := ["internal/bytealg.abigen_runtime_cmpstring", "slices.overlaps[woolsack/api.Vol]", "slices.overlaps[woolsack/api.Item]"], unfollowed := true, recurses := true, plainKeys := false, apart := false }
def VolNewSaid : Prop := volNewRow.holds Try.pinned (OpenSpec.ofChange volNewSpec)

/-- ITS FALSE NEIGHBOUR: 'it returns false'. Refute it at one input. -/
def volNewWrong : ChangeSpec := { name := "volNew", fn := fun _ => fun
  | [d1, d2, d3] => { results := [.lit (.bool false)], args := [d1, d2, d3] }
  | _ => none }
def VolNewWrongFalsely : Prop := volNewRow.holds Try.pinned (OpenSpec.ofChange volNewWrong)

/-- 'woolkeep.VolRoom': WHATEVER THE INPUT: true; the input reads as it did. -/
def volRoomSpec : ChangeSpec := { name := "volRoom", fn := fun _ => fun
  | [d] => { results := [.lit (.bool true)], args := [d] }
  | _ => none }
def volRoomRow : OpenClaim := { program := "yteddendidjhmbaa", sum := "ea027ed68584be48daecf8bf3c601d8717caea9886a5fb43b91cedd3ab5ada6e", func := "woolsack/woolkeep.VolRoom", spec := "volRoom", inPlace := ["internal/bytealg.abigen_runtime_cmpstring", "slices.overlaps[woolsack/api.Vol]", "slices.overlaps[woolsack/api.Item]"], unfollowed := true, recurses := true, plainKeys := false, apart := false }
def VolRoomSaid : Prop := volRoomRow.holds Try.pinned (OpenSpec.ofChange volRoomSpec)

/-- ITS FALSE NEIGHBOUR: 'it returns false'. Refute it at one input. -/
def volRoomWrong : ChangeSpec := { name := "volRoom", fn := fun _ => fun
  | [d] => { results := [.lit (.bool false)], args := [d] }
  | _ => none }
def VolRoomWrongFalsely : Prop := volRoomRow.holds Try.pinned (OpenSpec.ofChange volRoomWrong)

/-- 'woolkeep.VolApart': WHATEVER THE INPUT: true; the input reads as it did. -/
def volApartSpec : ChangeSpec := { name := "volApart", fn := fun _ => fun
  | [d1, d2, d3, d4, d5, d6, d7] => { results := [.lit (.bool true)], args := [d1, d2, d3, d4, d5, d6, d7] }
  | _ => none }
def volApartRow : OpenClaim := { program := "yteddendidjhmbaa", sum := "ea027ed68584be48daecf8bf3c601d8717caea9886a5fb43b91cedd3ab5ada6e", func := "woolsack/woolkeep.VolApart", spec := "volApart", inPlace := ["internal/bytealg.abigen_runtime_cmpstring", "slices.overlaps[woolsack/api.Vol]", "slices.overlaps[woolsack/api.Item]"], unfollowed := true, recurses := true, plainKeys := false, apart := false }
def VolApartSaid : Prop := volApartRow.holds Try.pinned (OpenSpec.ofChange volApartSpec)

/-- ITS FALSE NEIGHBOUR: 'it returns false'. Refute it at one input. -/
def volApartWrong : ChangeSpec := { name := "volApart", fn := fun _ => fun
  | [d1, d2, d3, d4, d5, d6, d7] => { results := [.lit (.bool false)], args := [d1, d2, d3, d4, d5, d6, d7] }
  | _ => none }
def VolApartWrongFalsely : Prop := volApartRow.holds Try.pinned (OpenSpec.ofChange volApartWrong)

/-- 'woolkeep.VolClones': WHATEVER THE INPUT: true; the input reads as it did. -/
def volClonesSpec : ChangeSpec := { name := "volClones", fn := fun _ => fun
  | [d1, d2, d3, d4, d5] => { results := [.lit (.bool true)], args := [d1, d2, d3, d4, d5] }
  | _ => none }
def volClonesRow : OpenClaim := { program := "yteddendidjhmbaa", sum := "ea027ed68584be48daecf8bf3c601d8717caea9886a5fb43b91cedd3ab5ada6e", func := "woolsack/woolkeep.VolClones", spec := "volClones", inPlace := ["internal/bytealg.abigen_runtime_cmpstring", "slices.overlaps[woolsack/api.Vol]", "slices.overlaps[woolsack/api.Item]"], unfollowed := true, recurses := true, plainKeys := false, apart := false }
def VolClonesSaid : Prop := volClonesRow.holds Try.pinned (OpenSpec.ofChange volClonesSpec)

/-- ITS FALSE NEIGHBOUR: 'it returns false'. Refute it at one input. -/
def volClonesWrong : ChangeSpec := { name := "volClones", fn := fun _ => fun
  | [d1, d2, d3, d4, d5] => { results := [.lit (.bool false)], args := [d1, d2, d3, d4, d5] }
  | _ => none }
def VolClonesWrongFalsely : Prop := volClonesRow.holds Try.pinned (OpenSpec.ofChange volClonesWrong)

/-- 'woolkeep.VolTwice': WHATEVER THE INPUT: true; the input reads as it did. -/
def volTwiceSpec : ChangeSpec := { name := "volTwice", fn := fun _ => fun
  | [d1, d2, d3, d4, d5, d6, d7] => { results := [.lit (.bool true)], args := [d1, d2, d3, d4, d5, d6, d7] }
  | _ => none }
def volTwiceRow : OpenClaim := { program := "yteddendidjhmbaa", sum := "ea027ed68584be48daecf8bf3c601d8717caea9886a5fb43b91cedd3ab5ada6e", func := "woolsack/woolkeep.VolTwice", spec := "volTwice", inPlace := ["internal/bytealg.abigen_runtime_cmpstring", "slices.overlaps[woolsack/api.Vol]", "slices.overlaps[woolsack/api.Item]"], unfollowed := true, recurses := true, plainKeys := false, apart := false }
def VolTwiceSaid : Prop := volTwiceRow.holds Try.pinned (OpenSpec.ofChange volTwiceSpec)

/-- ITS FALSE NEIGHBOUR: 'it returns false'. Refute it at one input. -/
def volTwiceWrong : ChangeSpec := { name := "volTwice", fn := fun _ => fun
  | [d1, d2, d3, d4, d5, d6, d7] => { results := [.lit (.bool false)], args := [d1, d2, d3, d4, d5, d6, d7] }
  | _ => none }
def VolTwiceWrongFalsely : Prop := volTwiceRow.holds Try.pinned (OpenSpec.ofChange volTwiceWrong)

/-- 'woolkeep.DiffWritten': WHATEVER THE INPUT: true; the input reads as it did. -/
def diffWrittenSpec : ChangeSpec := { name := "diffWritten", fn := fun _ => fun
  | [d1, d2, d3] => { results := [.lit (.bool true)], args := [d1, d2, d3] }
  | _ => none }
def diffWrittenRow : OpenClaim := { program := "yteddendidjhmbaa", sum := "ea027ed68584be48daecf8bf3c601d8717caea9886a5fb43b91cedd3ab5ada6e", func := "woolsack/woolkeep.DiffWritten", spec := "diffWritten", inPlace := ["internal/bytealg.abigen_runtime_cmpstring", "slices.overlaps[woolsack/api.Vol]", "slices.overlaps[woolsack/api.Item]"], unfollowed := true, recurses := true, plainKeys := false, apart := false }
def DiffWrittenSaid : Prop := diffWrittenRow.holds Try.pinned (OpenSpec.ofChange diffWrittenSpec)

/-- ITS FALSE NEIGHBOUR: 'it returns false'. Refute it at one input. -/
def diffWrittenWrong : ChangeSpec := { name := "diffWritten", fn := fun _ => fun
  | [d1, d2, d3] => { results := [.lit (.bool false)], args := [d1, d2, d3] }
  | _ => none }
def DiffWrittenWrongFalsely : Prop := diffWrittenRow.holds Try.pinned (OpenSpec.ofChange diffWrittenWrong)

/-- 'woolkeep.DiffMetric': WHATEVER THE INPUT: true; the input reads as it did. -/
def diffMetricSpec : ChangeSpec := { name := "diffMetric", fn := fun _ => fun
  | [d1, d2, d3, d4] => { results := [.lit (.bool true)], args := [d1, d2, d3, d4] }
  | _ => none }
def diffMetricRow : OpenClaim := { program := "yteddendidjhmbaa", sum := "ea027ed68584be48daecf8bf3c601d8717caea9886a5fb43b91cedd3ab5ada6e", func := "woolsack/woolkeep.DiffMetric", spec := "diffMetric", inPlace := ["internal/bytealg.abigen_runtime_cmpstring", "slices.overlaps[woolsack/api.Vol]", "slices.overlaps[woolsack/api.Item]"], unfollowed := true, recurses := true, plainKeys := false, apart := false }
def DiffMetricSaid : Prop := diffMetricRow.holds Try.pinned (OpenSpec.ofChange diffMetricSpec)

/-- ITS FALSE NEIGHBOUR: 'it returns false'. Refute it at one input. -/
def diffMetricWrong : ChangeSpec := { name := "diffMetric", fn := fun _ => fun
  | [d1, d2, d3, d4] => { results := [.lit (.bool false)], args := [d1, d2, d3, d4] }
  | _ => none }
def DiffMetricWrongFalsely : Prop := diffMetricRow.holds Try.pinned (OpenSpec.ofChange diffMetricWrong)

/-- 'woolkeep.VolOwn': WHATEVER THE INPUT: true; the input reads as it did. -/
def volOwnSpec : ChangeSpec := { name := "volOwn", fn := fun _ => fun
  | [d1, d2, d3, d4, d5, d6] => { results := [.lit (.bool true)], args := [d1, d2, d3, d4, d5, d6] }
  | _ => none }
def volOwnRow : OpenClaim := { program := "yteddendidjhmbaa", sum := "ea027ed68584be48daecf8bf3c601d8717caea9886a5fb43b91cedd3ab5ada6e", func := "woolsack/woolkeep.VolOwn", spec := "volOwn", inPlace := ["internal/bytealg.abigen_runtime_cmpstring", "slices.overlaps[woolsack/api.Vol]", "slices.overlaps[woolsack/api.Item]"], unfollowed := true, recurses := true, plainKeys := false, apart := false }
def VolOwnSaid : Prop := volOwnRow.holds Try.pinned (OpenSpec.ofChange volOwnSpec)

/-- ITS FALSE NEIGHBOUR: 'it returns false'. Refute it at one input. -/
def volOwnWrong : ChangeSpec := { name := "volOwn", fn := fun _ => fun
  | [d1, d2, d3, d4, d5, d6] => { results := [.lit (.bool false)], args := [d1, d2, d3, d4, d5, d6] }
  | _ => none }
def VolOwnWrongFalsely : Prop := volOwnRow.holds Try.pinned (OpenSpec.ofChange volOwnWrong)

/-- 'woolkeep.DiffCopies': WHATEVER THE INPUT: true; the input reads as it did. -/
def diffCopiesSpec : ChangeSpec := { name := "diffCopies", fn := fun _ => fun
  | [d1, d2, d3, d4] => { results := [.lit (.bool true)], args := [d1, d2, d3, d4] }
  | _ => none }
def diffCopiesRow : OpenClaim := { program := "yteddendidjhmbaa", sum := "ea027ed68584be48daecf8bf3c601d8717caea9886a5fb43b91cedd3ab5ada6e", func := "woolsack/woolkeep.DiffCopies", spec := "diffCopies", inPlace := ["internal/bytealg.abigen_runtime_cmpstring", "slices.overlaps[woolsack/api.Vol]", "slices.overlaps[woolsack/api.Item]"], unfollowed := true, recurses := true, plainKeys := false, apart := false }
def DiffCopiesSaid : Prop := diffCopiesRow.holds Try.pinned (OpenSpec.ofChange diffCopiesSpec)

/-- ITS FALSE NEIGHBOUR: 'it returns false'. Refute it at one input. -/
def diffCopiesWrong : ChangeSpec := { name := "diffCopies", fn := fun _ => fun
  | [d1, d2, d3, d4] => { results := [.lit (.bool false)], args := [d1, d2, d3, d4] }
  | _ => none }
def DiffCopiesWrongFalsely : Prop := diffCopiesRow.holds Try.pinned (OpenSpec.ofChange diffCopiesWrong)

/- THE SECOND FORM. 'bulk': how many values and letters a reading holds, each counted each time it is reached (what is shared counts as often as it is met; a slice's spare places count too). A statement '..UptoSaid' is the law's where the arguments, and the package variables that the reading takes, are together of bulk at most 1048576: NARROWER than '..Said'. Prove '..Said' where nothing that the law and all that it calls make is longer than what came in: it says more and counts as full. Else prove '..UptoSaid'. A law counts once. -/
mutual
def uptoBulk {H : Type} : DataW H → Nat
  | .lit (.string bytes) => bytes.length + 1
  | .lit _ => 1
  | .nil => 1
  | .ptr d => uptoBulk d + 1
  | .slice elems spare => uptoBulkAll elems + uptoBulkAll spare + 1
  | .agg parts => uptoBulkAll parts + 1
  | .iface _ d => uptoBulk d + 1
  | .map entries => uptoBulkEntries entries + 1
  | .held _ => 1
def uptoBulkAll {H : Type} : List (DataW H) → Nat
  | [] => 0
  | d :: r => uptoBulk d + uptoBulkAll r
def uptoBulkEntries {H : Type} : List (Lit × DataW H) → Nat
  | [] => 0
  | x :: r => uptoBulkEntry x + uptoBulkEntries r
def uptoBulkEntry {H : Type} : Lit × DataW H → Nat
  | (.string bytes, d) => bytes.length + uptoBulk d + 1
  | (_, d) => uptoBulk d + 1
 end
def uptoSmall : (H : Type) → List (DataW H) → Bool := fun _ ds => decide (uptoBulkAll ds ≤ 1048576)
def OpenSpec.upto (s : _root_.Go.ChangeSpec) : _root_.Go.OpenSpec := { _root_.Go.OpenSpec.ofChange s with cond := some uptoSmall }

/-- 'woolkeep.BagTurns', WHERE WHAT IT READS IS OF BULK AT MOST 1048576: true; the input reads as it did. -/
def bagTurnsUptoRow : OpenClaim := { program := "yteddendidjhmbaa", sum := "ea027ed68584be48daecf8bf3c601d8717caea9886a5fb43b91cedd3ab5ada6e", func := "woolsack/woolkeep.BagTurns", spec := "bagTurns", inPlace := ["slices.overlaps[woolsack/api.Item]"], unfollowed := true, recurses := true, plainKeys := false, apart := false, narrowed := true }
def BagTurnsUptoSaid : Prop := bagTurnsUptoRow.holds Try.pinned (OpenSpec.upto bagTurnsSpec)

/-- 'woolkeep.BagOnce', WHERE WHAT IT READS IS OF BULK AT MOST 1048576: true; the input reads as it did. -/
def bagOnceUptoRow : OpenClaim := { program := "yteddendidjhmbaa", sum := "ea027ed68584be48daecf8bf3c601d8717caea9886a5fb43b91cedd3ab5ada6e", func := "woolsack/woolkeep.BagOnce", spec := "bagOnce", inPlace := ["slices.overlaps[woolsack/api.Item]"], unfollowed := true, recurses := true, plainKeys := false, apart := false, narrowed := true }
def BagOnceUptoSaid : Prop := bagOnceUptoRow.holds Try.pinned (OpenSpec.upto bagOnceSpec)

/-- 'woolkeep.BagOthers', WHERE WHAT IT READS IS OF BULK AT MOST 1048576: true; the input reads as it did. -/
def bagOthersUptoRow : OpenClaim := { program := "yteddendidjhmbaa", sum := "ea027ed68584be48daecf8bf3c601d8717caea9886a5fb43b91cedd3ab5ada6e", func := "woolsack/woolkeep.BagOthers", spec := "bagOthers", inPlace := ["slices.overlaps[woolsack/api.Item]"], unfollowed := true, recurses := true, plainKeys := false, apart := false, narrowed := true }
def BagOthersUptoSaid : Prop := bagOthersUptoRow.holds Try.pinned (OpenSpec.upto bagOthersSpec)

/-- 'woolkeep.BagBack', WHERE WHAT IT READS IS OF BULK AT MOST 1048576: true; the input reads as it did. -/
def bagBackUptoRow : OpenClaim := { program := "yteddendidjhmbaa", sum := "ea027ed68584be48daecf8bf3c601d8717caea9886a5fb43b91cedd3ab5ada6e", func := "woolsack/woolkeep.BagBack", spec := "bagBack", inPlace := ["slices.overlaps[woolsack/api.Item]"], unfollowed := true, recurses := true, plainKeys := false, apart := false, narrowed := true }
def BagBackUptoSaid : Prop := bagBackUptoRow.holds Try.pinned (OpenSpec.upto bagBackSpec)

/-- 'woolkeep.BagOwn', WHERE WHAT IT READS IS OF BULK AT MOST 1048576: true; the input reads as it did. -/
def bagOwnUptoRow : OpenClaim := { program := "yteddendidjhmbaa", sum := "ea027ed68584be48daecf8bf3c601d8717caea9886a5fb43b91cedd3ab5ada6e", func := "woolsack/woolkeep.BagOwn", spec := "bagOwn", inPlace := ["slices.overlaps[woolsack/api.Item]"], unfollowed := true, recurses := true, plainKeys := false, apart := false, narrowed := true }
def BagOwnUptoSaid : Prop := bagOwnUptoRow.holds Try.pinned (OpenSpec.upto bagOwnSpec)

/-- 'woolkeep.VolRight', WHERE WHAT IT READS IS OF BULK AT MOST 1048576: true; the input reads as it did. -/
def volRightUptoRow : OpenClaim := { program := "yteddendidjhmbaa", sum := "ea027ed68584be48daecf8bf3c601d8717caea9886a5fb43b91cedd3ab5ada6e", func := "woolsack/woolkeep.VolRight", spec := "volRight", inPlace := ["internal/bytealg.abigen_runtime_cmpstring", "slices.overlaps[woolsack/api.Vol]", "slices.overlaps[woolsack/api.Item]"], unfollowed := true, recurses := true, plainKeys := false, apart := false, narrowed := true }
def VolRightUptoSaid : Prop := volRightUptoRow.holds Try.pinned (OpenSpec.upto volRightSpec)

/-- 'woolkeep.VolReads', WHERE WHAT IT READS IS OF BULK AT MOST 1048576: true; the input reads as it did. -/
def volReadsUptoRow : OpenClaim := { program := "yteddendidjhmbaa", sum := "ea027ed68584be48daecf8bf3c601d8717caea9886a5fb43b91cedd3ab5ada6e", func := "woolsack/woolkeep.VolReads", spec := "volReads", inPlace := ["internal/bytealg.abigen_runtime_cmpstring", "slices.overlaps[woolsack/api.Vol]", "slices.overlaps[woolsack/api.Item]"], unfollowed := true, recurses := true, plainKeys := false, apart := false, narrowed := true }
def VolReadsUptoSaid : Prop := volReadsUptoRow.holds Try.pinned (OpenSpec.upto volReadsSpec)

/-- 'woolkeep.VolEmpty', WHERE WHAT IT READS IS OF BULK AT MOST 1048576: true; the input reads as it did. -/
def volEmptyUptoRow : OpenClaim := { program := "yteddendidjhmbaa", sum := "ea027ed68584be48daecf8bf3c601d8717caea9886a5fb43b91cedd3ab5ada6e", func := "woolsack/woolkeep.VolEmpty", spec := "volEmpty", inPlace := ["internal/bytealg.abigen_runtime_cmpstring", "slices.overlaps[woolsack/api.Vol]", "slices.overlaps[woolsack/api.Item]"], unfollowed := true, recurses := true, plainKeys := false, apart := false, narrowed := true }
def VolEmptyUptoSaid : Prop := volEmptyUptoRow.holds Try.pinned (OpenSpec.upto volEmptySpec)

/-- 'woolkeep.VolNew', WHERE WHAT IT READS IS OF BULK AT MOST 1048576: true; the input reads as it did. -/
def volNewUptoRow : OpenClaim := { program := "yteddendidjhmbaa", sum := "ea027ed68584be48daecf8bf3c601d8717caea9886a5fb43b91cedd3ab5ada6e", func := "woolsack/woolkeep.VolNew", spec := "volNew", inPlace := ["internal/bytealg.abigen_runtime_cmpstring", "slices.overlaps[woolsack/api.Vol]", "slices.overlaps[woolsack/api.Item]"], unfollowed := true, recurses := true, plainKeys := false, apart := false, narrowed := true }
def VolNewUptoSaid : Prop := volNewUptoRow.holds Try.pinned (OpenSpec.upto volNewSpec)

/-- 'woolkeep.VolRoom', WHERE WHAT IT READS IS OF BULK AT MOST 1048576: true; the input reads as it did. -/
def volRoomUptoRow : OpenClaim := { program := "yteddendidjhmbaa", sum := "ea027ed68584be48daecf8bf3c601d8717caea9886a5fb43b91cedd3ab5ada6e", func := "woolsack/woolkeep.VolRoom", spec := "volRoom", inPlace := ["internal/bytealg.abigen_runtime_cmpstring", "slices.overlaps[woolsack/api.Vol]", "slices.overlaps[woolsack/api.Item]"], unfollowed := true, recurses := true, plainKeys := false, apart := false, narrowed := true }
def VolRoomUptoSaid : Prop := volRoomUptoRow.holds Try.pinned (OpenSpec.upto volRoomSpec)

/-- 'woolkeep.VolApart', WHERE WHAT IT READS IS OF BULK AT MOST 1048576: true; the input reads as it did. -/
def volApartUptoRow : OpenClaim := { program := "yteddendidjhmbaa", sum := "ea027ed68584be48daecf8bf3c601d8717caea9886a5fb43b91cedd3ab5ada6e", func := "woolsack/woolkeep.VolApart", spec := "volApart", inPlace := ["internal/bytealg.abigen_runtime_cmpstring", "slices.overlaps[woolsack/api.Vol]", "slices.overlaps[woolsack/api.Item]"], unfollowed := true, recurses := true, plainKeys := false, apart := false, narrowed := true }
def VolApartUptoSaid : Prop := volApartUptoRow.holds Try.pinned (OpenSpec.upto volApartSpec)

/-- 'woolkeep.VolClones', WHERE WHAT IT READS IS OF BULK AT MOST 1048576: true; the input reads as it did. -/
def volClonesUptoRow : OpenClaim := { program := "yteddendidjhmbaa", sum := "ea027ed68584be48daecf8bf3c601d8717caea9886a5fb43b91cedd3ab5ada6e", func := "woolsack/woolkeep.VolClones", spec := "volClones", inPlace := ["internal/bytealg.abigen_runtime_cmpstring", "slices.overlaps[woolsack/api.Vol]", "slices.overlaps[woolsack/api.Item]"], unfollowed := true, recurses := true, plainKeys := false, apart := false, narrowed := true }
def VolClonesUptoSaid : Prop := volClonesUptoRow.holds Try.pinned (OpenSpec.upto volClonesSpec)

/-- 'woolkeep.VolTwice', WHERE WHAT IT READS IS OF BULK AT MOST 1048576: true; the input reads as it did. -/
def volTwiceUptoRow : OpenClaim := { program := "yteddendidjhmbaa", sum := "ea027ed68584be48daecf8bf3c601d8717caea9886a5fb43b91cedd3ab5ada6e", func := "woolsack/woolkeep.VolTwice", spec := "volTwice", inPlace := ["internal/bytealg.abigen_runtime_cmpstring", "slices.overlaps[woolsack/api.Vol]", "slices.overlaps[woolsack/api.Item]"], unfollowed := true, recurses := true, plainKeys := false, apart := false, narrowed := true }
def VolTwiceUptoSaid : Prop := volTwiceUptoRow.holds Try.pinned (OpenSpec.upto volTwiceSpec)

/-- 'woolkeep.DiffWritten', WHERE WHAT IT READS IS OF BULK AT MOST 1048576: true; the input reads as it did. -/
def diffWrittenUptoRow : OpenClaim := { program := "yteddendidjhmbaa", sum := "ea027ed68584be48daecf8bf3c601d8717caea9886a5fb43b91cedd3ab5ada6e", func := "woolsack/woolkeep.DiffWritten", spec := "diffWritten", inPlace := ["internal/bytealg.abigen_runtime_cmpstring", "slices.overlaps[woolsack/api.Vol]", "slices.overlaps[woolsack/api.Item]"], unfollowed := true, recurses := true, plainKeys := false, apart := false, narrowed := true }
def DiffWrittenUptoSaid : Prop := diffWrittenUptoRow.holds Try.pinned (OpenSpec.upto diffWrittenSpec)

/-- 'woolkeep.DiffMetric', WHERE WHAT IT READS IS OF BULK AT MOST 1048576: true; the input reads as it did. -/
def diffMetricUptoRow : OpenClaim := { program := "yteddendidjhmbaa", sum := "ea027ed68584be48daecf8bf3c601d8717caea9886a5fb43b91cedd3ab5ada6e", func := "woolsack/woolkeep.DiffMetric", spec := "diffMetric", inPlace := ["internal/bytealg.abigen_runtime_cmpstring", "slices.overlaps[woolsack/api.Vol]", "slices.overlaps[woolsack/api.Item]"], unfollowed := true, recurses := true, plainKeys := false, apart := false, narrowed := true }
def DiffMetricUptoSaid : Prop := diffMetricUptoRow.holds Try.pinned (OpenSpec.upto diffMetricSpec)

/-- 'woolkeep.VolOwn', WHERE WHAT IT READS IS OF BULK AT MOST 1048576: true; the input reads as it did. -/
def volOwnUptoRow : OpenClaim := { program := "yteddendidjhmbaa", sum := "ea027ed68584be48daecf8bf3c601d8717caea9886a5fb43b91cedd3ab5ada6e", func := "woolsack/woolkeep.VolOwn", spec := "volOwn", inPlace := ["internal/bytealg.abigen_runtime_cmpstring", "slices.overlaps[woolsack/api.Vol]", "slices.overlaps[woolsack/api.Item]"], unfollowed := true, recurses := true, plainKeys := false, apart := false, narrowed := true }
def VolOwnUptoSaid : Prop := volOwnUptoRow.holds Try.pinned (OpenSpec.upto volOwnSpec)

/-- 'woolkeep.DiffCopies', WHERE WHAT IT READS IS OF BULK AT MOST 1048576: true; the input reads as it did. -/
def diffCopiesUptoRow : OpenClaim := { program := "yteddendidjhmbaa", sum := "ea027ed68584be48daecf8bf3c601d8717caea9886a5fb43b91cedd3ab5ada6e", func := "woolsack/woolkeep.DiffCopies", spec := "diffCopies", inPlace := ["internal/bytealg.abigen_runtime_cmpstring", "slices.overlaps[woolsack/api.Vol]", "slices.overlaps[woolsack/api.Item]"], unfollowed := true, recurses := true, plainKeys := false, apart := false, narrowed := true }
def DiffCopiesUptoSaid : Prop := diffCopiesUptoRow.holds Try.pinned (OpenSpec.upto diffCopiesSpec)

end Rows
end Go.Proofs.Yteddendidjhmbaa
