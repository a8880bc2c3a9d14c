/-
  No cell of these rows narrows 'for every input' (looked for: loops, veiled, ifaces, maps, wideKeys, modest, calm, conditions, laid).
  DERIVED. THE GIVEN ROWS OF THIS SEAT. 14 by the template 'for every input the law returns true; each argument reads behind the call as it read before'; 0 by the template 'total and deterministic' (their statements: YtoglkellaliegaaTotals.lean).
  GIVEN WITH THE SEED: the statements are not yours to turn. If you find one false, say at which input.
  Laid BY PROGRAM, IN A SANDBOX (cutbox-rows.mjs): the forced cells as the released guide's own fill.sh prints them over the translation c2325238a3abd190… (all of the seat's roots in one cut). By AI agents, Wed Nov 11 2026. No macro, syntax, notation, axiom, sorry.
-/
import Derived.Test.YtoglkellaliegaaChecked
import GoSem.Claim
import GoSem.ClaimJoined
import GoSem.ClaimMapViews
import Derived.JoinedTies
import Derived.KernelRfl
namespace Go.Proofs.Ytoglkellaliegaa
/- THE CELL 'sum', in the pinned program and in every row, IS THE sha256 OF THE DUMP (.gsa) THAT YtoglkellaliegaaProg.lean LOADS. Nothing in Lean hashes anything: it is a label: what it is worth is what the hold of that sum in a sandbox is worth. -/
noncomputable def Try.pinned : Pinned := { name := "ytoglkellaliegaa", sum := "c2325238a3abd19081d7961b91f7a95347d932f85a79fb729db9ccd6ecebadbe", checked := Try.checked }
namespace Rows
def none {H : Type} : Left H := { results := [], args := [] }

/-- 'woolkeep.QueueLater': WHATEVER THE INPUT: true; the input reads as it did. -/
def queueLaterSpec : ChangeSpec := { name := "queueLater", fn := fun _ => fun
  | [d1, d2] => { results := [.lit (.bool true)], args := [d1, d2] }
  | _ => none }
def queueLaterRow : OpenClaim := { program := "ytoglkellaliegaa", sum := "c2325238a3abd19081d7961b91f7a95347d932f85a79fb729db9ccd6ecebadbe", func := "woolsack/woolkeep.QueueLater", spec := "queueLater", unfollowed := true, recurses := true, apart := false }
def QueueLaterSaid : Prop := queueLaterRow.holds Try.pinned (OpenSpec.ofChange queueLaterSpec)

/-- ITS FALSE NEIGHBOUR: 'it returns false'. Refute it at one input. -/
def queueLaterWrong : ChangeSpec := { name := "queueLater", fn := fun _ => fun
  | [d1, d2] => { results := [.lit (.bool false)], args := [d1, d2] }
  | _ => none }
def QueueLaterWrongFalsely : Prop := queueLaterRow.holds Try.pinned (OpenSpec.ofChange queueLaterWrong)

/-- 'woolkeep.QueueGoes': WHATEVER THE INPUT: true; the input reads as it did. -/
def queueGoesSpec : ChangeSpec := { name := "queueGoes", fn := fun _ => fun
  | [d1, d2] => { results := [.lit (.bool true)], args := [d1, d2] }
  | _ => none }
def queueGoesRow : OpenClaim := { program := "ytoglkellaliegaa", sum := "c2325238a3abd19081d7961b91f7a95347d932f85a79fb729db9ccd6ecebadbe", func := "woolsack/woolkeep.QueueGoes", spec := "queueGoes", unfollowed := true, recurses := true, apart := false }
def QueueGoesSaid : Prop := queueGoesRow.holds Try.pinned (OpenSpec.ofChange queueGoesSpec)

/-- ITS FALSE NEIGHBOUR: 'it returns false'. Refute it at one input. -/
def queueGoesWrong : ChangeSpec := { name := "queueGoes", fn := fun _ => fun
  | [d1, d2] => { results := [.lit (.bool false)], args := [d1, d2] }
  | _ => none }
def QueueGoesWrongFalsely : Prop := queueGoesRow.holds Try.pinned (OpenSpec.ofChange queueGoesWrong)

/-- 'woolkeep.QueueHeads': WHATEVER THE INPUT: true; the input reads as it did. -/
def queueHeadsSpec : ChangeSpec := { name := "queueHeads", fn := fun _ => fun
  | [d1, d2] => { results := [.lit (.bool true)], args := [d1, d2] }
  | _ => none }
def queueHeadsRow : OpenClaim := { program := "ytoglkellaliegaa", sum := "c2325238a3abd19081d7961b91f7a95347d932f85a79fb729db9ccd6ecebadbe", func := "woolsack/woolkeep.QueueHeads", spec := "queueHeads", unfollowed := true, recurses := true, apart := false }
def QueueHeadsSaid : Prop := queueHeadsRow.holds Try.pinned (OpenSpec.ofChange queueHeadsSpec)

/-- ITS FALSE NEIGHBOUR: 'it returns false'. Refute it at one input. -/
def queueHeadsWrong : ChangeSpec := { name := "queueHeads", fn := fun _ => fun
  | [d1, d2] => { results := [.lit (.bool false)], args := [d1, d2] }
  | _ => none }
def QueueHeadsWrongFalsely : Prop := queueHeadsRow.holds Try.pinned (OpenSpec.ofChange queueHeadsWrong)

/-- 'woolkeep.QueueBarrier': WHATEVER THE INPUT: true; the input reads as it did. -/
def queueBarrierSpec : ChangeSpec := { name := "queueBarrier", fn := fun _ => fun
  | [d1, d2] => { results := [.lit (.bool true)], args := [d1, d2] }
  | _ => none }
def queueBarrierRow : OpenClaim := { program := "ytoglkellaliegaa", sum := "c2325238a3abd19081d7961b91f7a95347d932f85a79fb729db9ccd6ecebadbe", func := "woolsack/woolkeep.QueueBarrier", spec := "queueBarrier", unfollowed := true, recurses := true, apart := false }
def QueueBarrierSaid : Prop := queueBarrierRow.holds Try.pinned (OpenSpec.ofChange queueBarrierSpec)

/-- ITS FALSE NEIGHBOUR: 'it returns false'. Refute it at one input. -/
def queueBarrierWrong : ChangeSpec := { name := "queueBarrier", fn := fun _ => fun
  | [d1, d2] => { results := [.lit (.bool false)], args := [d1, d2] }
  | _ => none }
def QueueBarrierWrongFalsely : Prop := queueBarrierRow.holds Try.pinned (OpenSpec.ofChange queueBarrierWrong)

/-- 'woolkeep.QueueSimple': WHATEVER THE INPUT: true; the input reads as it did. -/
def queueSimpleSpec : ChangeSpec := { name := "queueSimple", fn := fun _ => fun
  | [d1, d2] => { results := [.lit (.bool true)], args := [d1, d2] }
  | _ => none }
def queueSimpleRow : OpenClaim := { program := "ytoglkellaliegaa", sum := "c2325238a3abd19081d7961b91f7a95347d932f85a79fb729db9ccd6ecebadbe", func := "woolsack/woolkeep.QueueSimple", spec := "queueSimple", unfollowed := true, recurses := true, apart := false }
def QueueSimpleSaid : Prop := queueSimpleRow.holds Try.pinned (OpenSpec.ofChange queueSimpleSpec)

/-- ITS FALSE NEIGHBOUR: 'it returns false'. Refute it at one input. -/
def queueSimpleWrong : ChangeSpec := { name := "queueSimple", fn := fun _ => fun
  | [d1, d2] => { results := [.lit (.bool false)], args := [d1, d2] }
  | _ => none }
def QueueSimpleWrongFalsely : Prop := queueSimpleRow.holds Try.pinned (OpenSpec.ofChange queueSimpleWrong)

/-- 'woolkeep.ResvShared': WHATEVER THE INPUT: true; the input reads as it did. -/
def resvSharedSpec : ChangeSpec := { name := "resvShared", fn := fun _ => fun
  | [d1, d2] => { results := [.lit (.bool true)], args := [d1, d2] }
  | _ => none }
def resvSharedRow : OpenClaim := { program := "ytoglkellaliegaa", sum := "c2325238a3abd19081d7961b91f7a95347d932f85a79fb729db9ccd6ecebadbe", func := "woolsack/woolkeep.ResvShared", spec := "resvShared", inPlace := ["slices.overlaps[woolsack/api.Reg]"], unfollowed := true, recurses := true, apart := false }
def ResvSharedSaid : Prop := resvSharedRow.holds Try.pinned (OpenSpec.ofChange resvSharedSpec)

/-- ITS FALSE NEIGHBOUR: 'it returns false'. Refute it at one input. -/
def resvSharedWrong : ChangeSpec := { name := "resvShared", fn := fun _ => fun
  | [d1, d2] => { results := [.lit (.bool false)], args := [d1, d2] }
  | _ => none }
def ResvSharedWrongFalsely : Prop := resvSharedRow.holds Try.pinned (OpenSpec.ofChange resvSharedWrong)

/-- 'woolkeep.ResvBack': WHATEVER THE INPUT: true; the input reads as it did. -/
def resvBackSpec : ChangeSpec := { name := "resvBack", fn := fun _ => fun
  | [d1, d2, d3, d4, d5] => { results := [.lit (.bool true)], args := [d1, d2, d3, d4, d5] }
  | _ => none }
def resvBackRow : OpenClaim := { program := "ytoglkellaliegaa", sum := "c2325238a3abd19081d7961b91f7a95347d932f85a79fb729db9ccd6ecebadbe", func := "woolsack/woolkeep.ResvBack", spec := "resvBack", inPlace := ["slices.overlaps[woolsack/api.Reg]"], unfollowed := true, recurses := true, apart := false }
def ResvBackSaid : Prop := resvBackRow.holds Try.pinned (OpenSpec.ofChange resvBackSpec)

/-- ITS FALSE NEIGHBOUR: 'it returns false'. Refute it at one input. -/
def resvBackWrong : ChangeSpec := { name := "resvBack", fn := fun _ => fun
  | [d1, d2, d3, d4, d5] => { results := [.lit (.bool false)], args := [d1, d2, d3, d4, d5] }
  | _ => none }
def ResvBackWrongFalsely : Prop := resvBackRow.holds Try.pinned (OpenSpec.ofChange resvBackWrong)

/-- 'woolkeep.ResvPreempts': WHATEVER THE INPUT: true; the input reads as it did. -/
def resvPreemptsSpec : ChangeSpec := { name := "resvPreempts", fn := fun _ => fun
  | [d1, d2, d3, d4, d5] => { results := [.lit (.bool true)], args := [d1, d2, d3, d4, d5] }
  | _ => none }
def resvPreemptsRow : OpenClaim := { program := "ytoglkellaliegaa", sum := "c2325238a3abd19081d7961b91f7a95347d932f85a79fb729db9ccd6ecebadbe", func := "woolsack/woolkeep.ResvPreempts", spec := "resvPreempts", inPlace := ["slices.overlaps[woolsack/api.Reg]"], unfollowed := true, recurses := true, apart := false }
def ResvPreemptsSaid : Prop := resvPreemptsRow.holds Try.pinned (OpenSpec.ofChange resvPreemptsSpec)

/-- ITS FALSE NEIGHBOUR: 'it returns false'. Refute it at one input. -/
def resvPreemptsWrong : ChangeSpec := { name := "resvPreempts", fn := fun _ => fun
  | [d1, d2, d3, d4, d5] => { results := [.lit (.bool false)], args := [d1, d2, d3, d4, d5] }
  | _ => none }
def ResvPreemptsWrongFalsely : Prop := resvPreemptsRow.holds Try.pinned (OpenSpec.ofChange resvPreemptsWrong)

/-- 'woolkeep.ResvGen': WHATEVER THE INPUT: true; the input reads as it did. -/
def resvGenSpec : ChangeSpec := { name := "resvGen", fn := fun _ => fun
  | [d] => { results := [.lit (.bool true)], args := [d] }
  | _ => none }
def resvGenRow : OpenClaim := { program := "ytoglkellaliegaa", sum := "c2325238a3abd19081d7961b91f7a95347d932f85a79fb729db9ccd6ecebadbe", func := "woolsack/woolkeep.ResvGen", spec := "resvGen", inPlace := ["slices.overlaps[woolsack/api.Reg]"], unfollowed := true, recurses := true, apart := false }
def ResvGenSaid : Prop := resvGenRow.holds Try.pinned (OpenSpec.ofChange resvGenSpec)

/-- ITS FALSE NEIGHBOUR: 'it returns false'. Refute it at one input. -/
def resvGenWrong : ChangeSpec := { name := "resvGen", fn := fun _ => fun
  | [d] => { results := [.lit (.bool false)], args := [d] }
  | _ => none }
def ResvGenWrongFalsely : Prop := resvGenRow.holds Try.pinned (OpenSpec.ofChange resvGenWrong)

/-- 'woolkeep.ResvRight': WHATEVER THE INPUT: true; the input reads as it did. -/
def resvRightSpec : ChangeSpec := { name := "resvRight", fn := fun _ => fun
  | [d] => { results := [.lit (.bool true)], args := [d] }
  | _ => none }
def resvRightRow : OpenClaim := { program := "ytoglkellaliegaa", sum := "c2325238a3abd19081d7961b91f7a95347d932f85a79fb729db9ccd6ecebadbe", func := "woolsack/woolkeep.ResvRight", spec := "resvRight", inPlace := ["slices.overlaps[woolsack/api.Reg]"], unfollowed := true, recurses := true, apart := false }
def ResvRightSaid : Prop := resvRightRow.holds Try.pinned (OpenSpec.ofChange resvRightSpec)

/-- ITS FALSE NEIGHBOUR: 'it returns false'. Refute it at one input. -/
def resvRightWrong : ChangeSpec := { name := "resvRight", fn := fun _ => fun
  | [d] => { results := [.lit (.bool false)], args := [d] }
  | _ => none }
def ResvRightWrongFalsely : Prop := resvRightRow.holds Try.pinned (OpenSpec.ofChange resvRightWrong)

/-- 'woolkeep.ResvReads': WHATEVER THE INPUT: true; the input reads as it did. -/
def resvReadsSpec : ChangeSpec := { name := "resvReads", fn := fun _ => fun
  | [d1, d2] => { results := [.lit (.bool true)], args := [d1, d2] }
  | _ => none }
def resvReadsRow : OpenClaim := { program := "ytoglkellaliegaa", sum := "c2325238a3abd19081d7961b91f7a95347d932f85a79fb729db9ccd6ecebadbe", func := "woolsack/woolkeep.ResvReads", spec := "resvReads", inPlace := ["slices.overlaps[woolsack/api.Reg]"], unfollowed := true, recurses := true, apart := false }
def ResvReadsSaid : Prop := resvReadsRow.holds Try.pinned (OpenSpec.ofChange resvReadsSpec)

/-- ITS FALSE NEIGHBOUR: 'it returns false'. Refute it at one input. -/
def resvReadsWrong : ChangeSpec := { name := "resvReads", fn := fun _ => fun
  | [d1, d2] => { results := [.lit (.bool false)], args := [d1, d2] }
  | _ => none }
def ResvReadsWrongFalsely : Prop := resvReadsRow.holds Try.pinned (OpenSpec.ofChange resvReadsWrong)

/-- 'woolkeep.ResvFirst': WHATEVER THE INPUT: true; the input reads as it did. -/
def resvFirstSpec : ChangeSpec := { name := "resvFirst", fn := fun _ => fun
  | [d1, d2, d3, d4, d5, d6, d7] => { results := [.lit (.bool true)], args := [d1, d2, d3, d4, d5, d6, d7] }
  | _ => none }
def resvFirstRow : OpenClaim := { program := "ytoglkellaliegaa", sum := "c2325238a3abd19081d7961b91f7a95347d932f85a79fb729db9ccd6ecebadbe", func := "woolsack/woolkeep.ResvFirst", spec := "resvFirst", inPlace := ["slices.overlaps[woolsack/api.Reg]"], unfollowed := true, recurses := true, apart := false }
def ResvFirstSaid : Prop := resvFirstRow.holds Try.pinned (OpenSpec.ofChange resvFirstSpec)

/-- ITS FALSE NEIGHBOUR: 'it returns false'. Refute it at one input. -/
def resvFirstWrong : ChangeSpec := { name := "resvFirst", fn := fun _ => fun
  | [d1, d2, d3, d4, d5, d6, d7] => { results := [.lit (.bool false)], args := [d1, d2, d3, d4, d5, d6, d7] }
  | _ => none }
def ResvFirstWrongFalsely : Prop := resvFirstRow.holds Try.pinned (OpenSpec.ofChange resvFirstWrong)

/-- 'woolkeep.ResvClears': WHATEVER THE INPUT: true; the input reads as it did. -/
def resvClearsSpec : ChangeSpec := { name := "resvClears", fn := fun _ => fun
  | [d1, d2, d3, d4] => { results := [.lit (.bool true)], args := [d1, d2, d3, d4] }
  | _ => none }
def resvClearsRow : OpenClaim := { program := "ytoglkellaliegaa", sum := "c2325238a3abd19081d7961b91f7a95347d932f85a79fb729db9ccd6ecebadbe", func := "woolsack/woolkeep.ResvClears", spec := "resvClears", inPlace := ["slices.overlaps[woolsack/api.Reg]"], unfollowed := true, recurses := true, apart := false }
def ResvClearsSaid : Prop := resvClearsRow.holds Try.pinned (OpenSpec.ofChange resvClearsSpec)

/-- ITS FALSE NEIGHBOUR: 'it returns false'. Refute it at one input. -/
def resvClearsWrong : ChangeSpec := { name := "resvClears", fn := fun _ => fun
  | [d1, d2, d3, d4] => { results := [.lit (.bool false)], args := [d1, d2, d3, d4] }
  | _ => none }
def ResvClearsWrongFalsely : Prop := resvClearsRow.holds Try.pinned (OpenSpec.ofChange resvClearsWrong)

/-- 'woolkeep.RightsOwn': WHATEVER THE INPUT: true; the input reads as it did. -/
def rightsOwnSpec : ChangeSpec := { name := "rightsOwn", fn := fun _ => fun
  | [d1, d2, d3, d4] => { results := [.lit (.bool true)], args := [d1, d2, d3, d4] }
  | _ => none }
def rightsOwnRow : OpenClaim := { program := "ytoglkellaliegaa", sum := "c2325238a3abd19081d7961b91f7a95347d932f85a79fb729db9ccd6ecebadbe", func := "woolsack/woolkeep.RightsOwn", spec := "rightsOwn", inPlace := ["slices.overlaps[woolsack/api.Reg]"], unfollowed := true, recurses := true, apart := false }
def RightsOwnSaid : Prop := rightsOwnRow.holds Try.pinned (OpenSpec.ofChange rightsOwnSpec)

/-- ITS FALSE NEIGHBOUR: 'it returns false'. Refute it at one input. -/
def rightsOwnWrong : ChangeSpec := { name := "rightsOwn", fn := fun _ => fun
  | [d1, d2, d3, d4] => { results := [.lit (.bool false)], args := [d1, d2, d3, d4] }
  | _ => none }
def RightsOwnWrongFalsely : Prop := rightsOwnRow.holds Try.pinned (OpenSpec.ofChange rightsOwnWrong)

/- THE SECOND FORM. 'bulk': how many values and letters a reading holds, each counted each time it is reached (what is shared counts as often as it is met; a slice's spare places count too). A statement '..UptoSaid' is the law's where the arguments, and the package variables that the reading takes, are together of bulk at most 1048576: NARROWER than '..Said'. Prove '..Said' where nothing that the law and all that it calls make is longer than what came in: it says more and counts as full. Else prove '..UptoSaid'. A law counts once. -/
mutual
def uptoBulk {H : Type} : DataW H → Nat
  | .lit (.string bytes) => bytes.length + 1
  | .lit _ => 1
  | .nil => 1
  | .ptr d => uptoBulk d + 1
  | .slice elems spare => uptoBulkAll elems + uptoBulkAll spare + 1
  | .agg parts => uptoBulkAll parts + 1
  | .iface _ d => uptoBulk d + 1
  | .map entries => uptoBulkEntries entries + 1
  | .held _ => 1
def uptoBulkAll {H : Type} : List (DataW H) → Nat
  | [] => 0
  | d :: r => uptoBulk d + uptoBulkAll r
def uptoBulkEntries {H : Type} : List (Lit × DataW H) → Nat
  | [] => 0
  | x :: r => uptoBulkEntry x + uptoBulkEntries r
def uptoBulkEntry {H : Type} : Lit × DataW H → Nat
  | (.string bytes, d) => bytes.length + uptoBulk d + 1
  | (_, d) => uptoBulk d + 1
 end
def uptoSmall : (H : Type) → List (DataW H) → Bool := fun _ ds => decide (uptoBulkAll ds ≤ 1048576)
def OpenSpec.upto (s : _root_.Go.ChangeSpec) : _root_.Go.OpenSpec := { _root_.Go.OpenSpec.ofChange s with cond := some uptoSmall }

/-- 'woolkeep.QueueLater', WHERE WHAT IT READS IS OF BULK AT MOST 1048576: true; the input reads as it did. -/
def queueLaterUptoRow : OpenClaim := { program := "ytoglkellaliegaa", sum := "c2325238a3abd19081d7961b91f7a95347d932f85a79fb729db9ccd6ecebadbe", func := "woolsack/woolkeep.QueueLater", spec := "queueLater", unfollowed := true, recurses := true, apart := false, narrowed := true }
def QueueLaterUptoSaid : Prop := queueLaterUptoRow.holds Try.pinned (OpenSpec.upto queueLaterSpec)

/-- 'woolkeep.QueueGoes', WHERE WHAT IT READS IS OF BULK AT MOST 1048576: true; the input reads as it did. -/
def queueGoesUptoRow : OpenClaim := { program := "ytoglkellaliegaa", sum := "c2325238a3abd19081d7961b91f7a95347d932f85a79fb729db9ccd6ecebadbe", func := "woolsack/woolkeep.QueueGoes", spec := "queueGoes", unfollowed := true, recurses := true, apart := false, narrowed := true }
def QueueGoesUptoSaid : Prop := queueGoesUptoRow.holds Try.pinned (OpenSpec.upto queueGoesSpec)

/-- 'woolkeep.QueueHeads', WHERE WHAT IT READS IS OF BULK AT MOST 1048576: true; the input reads as it did. -/
def queueHeadsUptoRow : OpenClaim := { program := "ytoglkellaliegaa", sum := "c2325238a3abd19081d7961b91f7a95347d932f85a79fb729db9ccd6ecebadbe", func := "woolsack/woolkeep.QueueHeads", spec := "queueHeads", unfollowed := true, recurses := true, apart := false, narrowed := true }
def QueueHeadsUptoSaid : Prop := queueHeadsUptoRow.holds Try.pinned (OpenSpec.upto queueHeadsSpec)

/-- 'woolkeep.QueueBarrier', WHERE WHAT IT READS IS OF BULK AT MOST 1048576: true; the input reads as it did. -/
def queueBarrierUptoRow : OpenClaim := { program := "ytoglkellaliegaa", sum := "c2325238a3abd19081d7961b91f7a95347d932f85a79fb729db9ccd6ecebadbe", func := "woolsack/woolkeep.QueueBarrier", spec := "queueBarrier", unfollowed := true, recurses := true, apart := false, narrowed := true }
def QueueBarrierUptoSaid : Prop := queueBarrierUptoRow.holds Try.pinned (OpenSpec.upto queueBarrierSpec)

/-- 'woolkeep.QueueSimple', WHERE WHAT IT READS IS OF BULK AT MOST 1048576: true; the input reads as it did. -/
def queueSimpleUptoRow : OpenClaim := { program := "ytoglkellaliegaa", sum := "c2325238a3abd19081d7961b91f7a95347d932f85a79fb729db9ccd6ecebadbe", func := "woolsack/woolkeep.QueueSimple", spec := "queueSimple", unfollowed := true, recurses := true, apart := false, narrowed := true }
def QueueSimpleUptoSaid : Prop := queueSimpleUptoRow.holds Try.pinned (OpenSpec.upto queueSimpleSpec)

/-- 'woolkeep.ResvShared', WHERE WHAT IT READS IS OF BULK AT MOST 1048576: true; the input reads as it did. -/
def resvSharedUptoRow : OpenClaim := { program := "ytoglkellaliegaa", sum := "c2325238a3abd19081d7961b91f7a95347d932f85a79fb729db9ccd6ecebadbe", func := "woolsack/woolkeep.ResvShared", spec := "resvShared", inPlace := ["slices.overlaps[woolsack/api.Reg]"], unfollowed := true, recurses := true, apart := false, narrowed := true }
def ResvSharedUptoSaid : Prop := resvSharedUptoRow.holds Try.pinned (OpenSpec.upto resvSharedSpec)

/-- 'woolkeep.ResvBack', WHERE WHAT IT READS IS OF BULK AT MOST 1048576: true; the input reads as it did. -/
def resvBackUptoRow : OpenClaim := { program := "ytoglkellaliegaa", sum := "c2325238a3abd19081d7961b91f7a95347d932f85a79fb729db9ccd6ecebadbe", func := "woolsack/woolkeep.ResvBack", spec := "resvBack", inPlace := ["slices.overlaps[woolsack/api.Reg]"], unfollowed := true, recurses := true, apart := false, narrowed := true }
def ResvBackUptoSaid : Prop := resvBackUptoRow.holds Try.pinned (OpenSpec.upto resvBackSpec)

/-- 'woolkeep.ResvPreempts', WHERE WHAT IT READS IS OF BULK AT MOST 1048576: true; the input reads as it did. -/
def resvPreemptsUptoRow : OpenClaim := { program := "ytoglkellaliegaa", sum := "c2325238a3abd19081d7961b91f7a95347d932f85a79fb729db9ccd6ecebadbe", func := "woolsack/woolkeep.ResvPreempts", spec := "resvPreempts", inPlace := ["slices.overlaps[woolsack/api.Reg]"], unfollowed := true, recurses := true, apart := false, narrowed := true }
def ResvPreemptsUptoSaid : Prop := resvPreemptsUptoRow.holds Try.pinned (OpenSpec.upto resvPreemptsSpec)

/-- 'woolkeep.ResvGen', WHERE WHAT IT READS IS OF BULK AT MOST 1048576: true; the input reads as it did. -/
def resvGenUptoRow : OpenClaim := { program := "ytoglkellaliegaa", sum := "c2325238a3abd19081d7961b91f7a95347d932f85a79fb729db9ccd6ecebadbe", func := "woolsack/woolkeep.ResvGen", spec := "resvGen", inPlace := ["slices.overlaps[woolsack/api.Reg]"], unfollowed := true, recurses := true, apart := false, narrowed := true }
def ResvGenUptoSaid : Prop := resvGenUptoRow.holds Try.pinned (OpenSpec.upto resvGenSpec)

/-- 'woolkeep.ResvRight', WHERE WHAT IT READS IS OF BULK AT MOST 1048576: true; the input reads as it did. -/
def resvRightUptoRow : OpenClaim := { program := "ytoglkellaliegaa", sum := "c2325238a3abd19081d7961b91f7a95347d932f85a79fb729db9ccd6ecebadbe", func := "woolsack/woolkeep.ResvRight", spec := "resvRight", inPlace := ["slices.overlaps[woolsack/api.Reg]"], unfollowed := true, recurses := true, apart := false, narrowed := true }
def ResvRightUptoSaid : Prop := resvRightUptoRow.holds Try.pinned (OpenSpec.upto resvRightSpec)

/-- 'woolkeep.ResvReads', WHERE WHAT IT READS IS OF BULK AT MOST 1048576: true; the input reads as it did. -/
def resvReadsUptoRow : OpenClaim := { program := "ytoglkellaliegaa", sum := "c2325238a3abd19081d7961b91f7a95347d932f85a79fb729db9ccd6ecebadbe", func := "woolsack/woolkeep.ResvReads", spec := "resvReads", inPlace := ["slices.overlaps[woolsack/api.Reg]"], unfollowed := true, recurses := true, apart := false, narrowed := true }
def ResvReadsUptoSaid : Prop := resvReadsUptoRow.holds Try.pinned (OpenSpec.upto resvReadsSpec)

/-- 'woolkeep.ResvFirst', WHERE WHAT IT READS IS OF BULK AT MOST 1048576: true; the input reads as it did. -/
def resvFirstUptoRow : OpenClaim := { program := "ytoglkellaliegaa", sum := "c2325238a3abd19081d7961b91f7a95347d932f85a79fb729db9ccd6ecebadbe", func := "woolsack/woolkeep.ResvFirst", spec := "resvFirst", inPlace := ["slices.overlaps[woolsack/api.Reg]"], unfollowed := true, recurses := true, apart := false, narrowed := true }
def ResvFirstUptoSaid : Prop := resvFirstUptoRow.holds Try.pinned (OpenSpec.upto resvFirstSpec)

/-- 'woolkeep.ResvClears', WHERE WHAT IT READS IS OF BULK AT MOST 1048576: true; the input reads as it did. -/
def resvClearsUptoRow : OpenClaim := { program := "ytoglkellaliegaa", sum := "c2325238a3abd19081d7961b91f7a95347d932f85a79fb729db9ccd6ecebadbe", func := "woolsack/woolkeep.ResvClears", spec := "resvClears", inPlace := ["slices.overlaps[woolsack/api.Reg]"], unfollowed := true, recurses := true, apart := false, narrowed := true }
def ResvClearsUptoSaid : Prop := resvClearsUptoRow.holds Try.pinned (OpenSpec.upto resvClearsSpec)

/-- 'woolkeep.RightsOwn', WHERE WHAT IT READS IS OF BULK AT MOST 1048576: true; the input reads as it did. -/
def rightsOwnUptoRow : OpenClaim := { program := "ytoglkellaliegaa", sum := "c2325238a3abd19081d7961b91f7a95347d932f85a79fb729db9ccd6ecebadbe", func := "woolsack/woolkeep.RightsOwn", spec := "rightsOwn", inPlace := ["slices.overlaps[woolsack/api.Reg]"], unfollowed := true, recurses := true, apart := false, narrowed := true }
def RightsOwnUptoSaid : Prop := rightsOwnUptoRow.holds Try.pinned (OpenSpec.upto rightsOwnSpec)

end Rows
end Go.Proofs.Ytoglkellaliegaa
