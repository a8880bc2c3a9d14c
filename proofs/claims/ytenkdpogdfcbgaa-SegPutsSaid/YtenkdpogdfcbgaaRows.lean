/-
  No cell of these rows narrows 'for every input' (looked for: loops, veiled, ifaces, maps, wideKeys, modest, calm, conditions, laid).
  DERIVED. THE GIVEN ROWS OF THIS SEAT. 11 by the template 'for every input the law returns true; each argument reads behind the call as it read before'; 0 by the template 'total and deterministic' (their statements: YtenkdpogdfcbgaaTotals.lean).
  GIVEN WITH THE SEED: the statements are not yours to turn. If you find one false, say at which input.
  Laid BY PROGRAM, IN A SANDBOX (cutbox-rows.mjs): the forced cells as the released guide's own fill.sh prints them over the translation 1c92de10c2907c1d… (all of the seat's roots in one cut). By AI agents, Wed Nov 11 2026. No macro, syntax, notation, axiom, sorry.
-/
import Derived.Test.YtenkdpogdfcbgaaChecked
import GoSem.Claim
import GoSem.ClaimJoined
import GoSem.ClaimMapViews
import Derived.JoinedTies
import Derived.KernelRfl
namespace Go.Proofs.Ytenkdpogdfcbgaa
/- THE CELL 'sum', in the pinned program and in every row, IS THE sha256 OF THE DUMP (.gsa) THAT YtenkdpogdfcbgaaProg.lean LOADS. Nothing in Lean hashes anything: it is a label: what it is worth is what the hold of that sum in a sandbox is worth. -/
noncomputable def Try.pinned : Pinned := { name := "ytenkdpogdfcbgaa", sum := "1c92de10c2907c1d90a3908178f2e805e49636a63c84b85d0a94941c7d79b48a", checked := Try.checked }
namespace Rows
def none {H : Type} : Left H := { results := [], args := [] }

/-- 'wooltop.TopSegs': WHATEVER THE INPUT: true; the input reads as it did. -/
def topSegsSpec : ChangeSpec := { name := "topSegs", fn := fun _ => fun
  | [d1, d2, d3] => { results := [.lit (.bool true)], args := [d1, d2, d3] }
  | _ => none }
def topSegsRow : OpenClaim := { program := "ytenkdpogdfcbgaa", sum := "1c92de10c2907c1d90a3908178f2e805e49636a63c84b85d0a94941c7d79b48a", func := "woolsack/wooltop.TopSegs", spec := "topSegs", inPlace := ["slices.overlaps[woolsack/api.Item]"], unfollowed := true, recurses := true, plainKeys := false, apart := false }
def TopSegsSaid : Prop := topSegsRow.holds Try.pinned (OpenSpec.ofChange topSegsSpec)

/-- ITS FALSE NEIGHBOUR: 'it returns false'. Refute it at one input. -/
def topSegsWrong : ChangeSpec := { name := "topSegs", fn := fun _ => fun
  | [d1, d2, d3] => { results := [.lit (.bool false)], args := [d1, d2, d3] }
  | _ => none }
def TopSegsWrongFalsely : Prop := topSegsRow.holds Try.pinned (OpenSpec.ofChange topSegsWrong)

/-- 'wooltop.TopProof': WHATEVER THE INPUT: true; the input reads as it did. -/
def topProofSpec : ChangeSpec := { name := "topProof", fn := fun _ => fun
  | [d1, d2, d3] => { results := [.lit (.bool true)], args := [d1, d2, d3] }
  | _ => none }
def topProofRow : OpenClaim := { program := "ytenkdpogdfcbgaa", sum := "1c92de10c2907c1d90a3908178f2e805e49636a63c84b85d0a94941c7d79b48a", func := "woolsack/wooltop.TopProof", spec := "topProof", inPlace := ["internal/bytealg.abigen_runtime_cmpstring", "slices.overlaps[woolsack/api.Vol]", "slices.overlaps[woolsack/api.Item]"], unfollowed := true, recurses := true, plainKeys := false, apart := false }
def TopProofSaid : Prop := topProofRow.holds Try.pinned (OpenSpec.ofChange topProofSpec)

/-- ITS FALSE NEIGHBOUR: 'it returns false'. Refute it at one input. -/
def topProofWrong : ChangeSpec := { name := "topProof", fn := fun _ => fun
  | [d1, d2, d3] => { results := [.lit (.bool false)], args := [d1, d2, d3] }
  | _ => none }
def TopProofWrongFalsely : Prop := topProofRow.holds Try.pinned (OpenSpec.ofChange topProofWrong)

/-- 'woolkeep.QueueBarrier': WHATEVER THE INPUT: true; the input reads as it did. -/
def queueBarrierSpec : ChangeSpec := { name := "queueBarrier", fn := fun _ => fun
  | [d1, d2] => { results := [.lit (.bool true)], args := [d1, d2] }
  | _ => none }
def queueBarrierRow : OpenClaim := { program := "ytenkdpogdfcbgaa", sum := "1c92de10c2907c1d90a3908178f2e805e49636a63c84b85d0a94941c7d79b48a", func := "woolsack/woolkeep.QueueBarrier", spec := "queueBarrier", unfollowed := true, recurses := true, plainKeys := false, apart := false }
def QueueBarrierSaid : Prop := queueBarrierRow.holds Try.pinned (OpenSpec.ofChange queueBarrierSpec)

/-- ITS FALSE NEIGHBOUR: 'it returns false'. Refute it at one input. -/
def queueBarrierWrong : ChangeSpec := { name := "queueBarrier", fn := fun _ => fun
  | [d1, d2] => { results := [.lit (.bool false)], args := [d1, d2] }
  | _ => none }
def QueueBarrierWrongFalsely : Prop := queueBarrierRow.holds Try.pinned (OpenSpec.ofChange queueBarrierWrong)

/-- 'wooltop.TopCrash': WHATEVER THE INPUT: true; the input reads as it did. -/
def topCrashSpec : ChangeSpec := { name := "topCrash", fn := fun _ => fun
  | [d1, d2, d3] => { results := [.lit (.bool true)], args := [d1, d2, d3] }
  | _ => none }
def topCrashRow : OpenClaim := { program := "ytenkdpogdfcbgaa", sum := "1c92de10c2907c1d90a3908178f2e805e49636a63c84b85d0a94941c7d79b48a", func := "woolsack/wooltop.TopCrash", spec := "topCrash", inPlace := ["internal/bytealg.abigen_runtime_cmpstring", "slices.overlaps[woolsack/api.Vol]", "slices.overlaps[woolsack/api.Item]"], unfollowed := true, recurses := true, plainKeys := false, apart := false }
def TopCrashSaid : Prop := topCrashRow.holds Try.pinned (OpenSpec.ofChange topCrashSpec)

/-- ITS FALSE NEIGHBOUR: 'it returns false'. Refute it at one input. -/
def topCrashWrong : ChangeSpec := { name := "topCrash", fn := fun _ => fun
  | [d1, d2, d3] => { results := [.lit (.bool false)], args := [d1, d2, d3] }
  | _ => none }
def TopCrashWrongFalsely : Prop := topCrashRow.holds Try.pinned (OpenSpec.ofChange topCrashWrong)

/-- 'woolkeep.SegEnds': WHATEVER THE INPUT: true; the input reads as it did. -/
def segEndsSpec : ChangeSpec := { name := "segEnds", fn := fun _ => fun
  | [d] => { results := [.lit (.bool true)], args := [d] }
  | _ => none }
def segEndsRow : OpenClaim := { program := "ytenkdpogdfcbgaa", sum := "1c92de10c2907c1d90a3908178f2e805e49636a63c84b85d0a94941c7d79b48a", func := "woolsack/woolkeep.SegEnds", spec := "segEnds", unfollowed := true, recurses := true, plainKeys := false, apart := false }
def SegEndsSaid : Prop := segEndsRow.holds Try.pinned (OpenSpec.ofChange segEndsSpec)

/-- ITS FALSE NEIGHBOUR: 'it returns false'. Refute it at one input. -/
def segEndsWrong : ChangeSpec := { name := "segEnds", fn := fun _ => fun
  | [d] => { results := [.lit (.bool false)], args := [d] }
  | _ => none }
def SegEndsWrongFalsely : Prop := segEndsRow.holds Try.pinned (OpenSpec.ofChange segEndsWrong)

/-- 'woolkeep.SegOwn': WHATEVER THE INPUT: true; the input reads as it did. -/
def segOwnSpec : ChangeSpec := { name := "segOwn", fn := fun _ => fun
  | [d1, d2, d3] => { results := [.lit (.bool true)], args := [d1, d2, d3] }
  | _ => none }
def segOwnRow : OpenClaim := { program := "ytenkdpogdfcbgaa", sum := "1c92de10c2907c1d90a3908178f2e805e49636a63c84b85d0a94941c7d79b48a", func := "woolsack/woolkeep.SegOwn", spec := "segOwn", unfollowed := true, recurses := true, plainKeys := false, apart := false }
def SegOwnSaid : Prop := segOwnRow.holds Try.pinned (OpenSpec.ofChange segOwnSpec)

/-- ITS FALSE NEIGHBOUR: 'it returns false'. Refute it at one input. -/
def segOwnWrong : ChangeSpec := { name := "segOwn", fn := fun _ => fun
  | [d1, d2, d3] => { results := [.lit (.bool false)], args := [d1, d2, d3] }
  | _ => none }
def SegOwnWrongFalsely : Prop := segOwnRow.holds Try.pinned (OpenSpec.ofChange segOwnWrong)

/-- 'woolkeep.RightsOwn': WHATEVER THE INPUT: true; the input reads as it did. -/
def rightsOwnSpec : ChangeSpec := { name := "rightsOwn", fn := fun _ => fun
  | [d1, d2, d3, d4] => { results := [.lit (.bool true)], args := [d1, d2, d3, d4] }
  | _ => none }
def rightsOwnRow : OpenClaim := { program := "ytenkdpogdfcbgaa", sum := "1c92de10c2907c1d90a3908178f2e805e49636a63c84b85d0a94941c7d79b48a", func := "woolsack/woolkeep.RightsOwn", spec := "rightsOwn", inPlace := ["slices.overlaps[woolsack/api.Reg]"], unfollowed := true, recurses := true, plainKeys := false, apart := false }
def RightsOwnSaid : Prop := rightsOwnRow.holds Try.pinned (OpenSpec.ofChange rightsOwnSpec)

/-- ITS FALSE NEIGHBOUR: 'it returns false'. Refute it at one input. -/
def rightsOwnWrong : ChangeSpec := { name := "rightsOwn", fn := fun _ => fun
  | [d1, d2, d3, d4] => { results := [.lit (.bool false)], args := [d1, d2, d3, d4] }
  | _ => none }
def RightsOwnWrongFalsely : Prop := rightsOwnRow.holds Try.pinned (OpenSpec.ofChange rightsOwnWrong)

/-- 'woolkeep.SegPuts': WHATEVER THE INPUT: true; the input reads as it did. -/
def segPutsSpec : ChangeSpec := { name := "segPuts", fn := fun _ => fun
  | [d1, d2, d3] => { results := [.lit (.bool true)], args := [d1, d2, d3] }
  | _ => none }
def segPutsRow : OpenClaim := { program := "ytenkdpogdfcbgaa", sum := "1c92de10c2907c1d90a3908178f2e805e49636a63c84b85d0a94941c7d79b48a", func := "woolsack/woolkeep.SegPuts", spec := "segPuts", unfollowed := true, recurses := true, plainKeys := false, apart := false }
def SegPutsSaid : Prop := segPutsRow.holds Try.pinned (OpenSpec.ofChange segPutsSpec)

/-- ITS FALSE NEIGHBOUR: 'it returns false'. Refute it at one input. -/
def segPutsWrong : ChangeSpec := { name := "segPuts", fn := fun _ => fun
  | [d1, d2, d3] => { results := [.lit (.bool false)], args := [d1, d2, d3] }
  | _ => none }
def SegPutsWrongFalsely : Prop := segPutsRow.holds Try.pinned (OpenSpec.ofChange segPutsWrong)

/-- 'woolkeep.VolOwn': WHATEVER THE INPUT: true; the input reads as it did. -/
def volOwnSpec : ChangeSpec := { name := "volOwn", fn := fun _ => fun
  | [d1, d2, d3, d4, d5, d6] => { results := [.lit (.bool true)], args := [d1, d2, d3, d4, d5, d6] }
  | _ => none }
def volOwnRow : OpenClaim := { program := "ytenkdpogdfcbgaa", sum := "1c92de10c2907c1d90a3908178f2e805e49636a63c84b85d0a94941c7d79b48a", func := "woolsack/woolkeep.VolOwn", spec := "volOwn", inPlace := ["internal/bytealg.abigen_runtime_cmpstring", "slices.overlaps[woolsack/api.Vol]", "slices.overlaps[woolsack/api.Item]"], unfollowed := true, recurses := true, plainKeys := false, apart := false }
def VolOwnSaid : Prop := volOwnRow.holds Try.pinned (OpenSpec.ofChange volOwnSpec)

/-- ITS FALSE NEIGHBOUR: 'it returns false'. Refute it at one input. -/
def volOwnWrong : ChangeSpec := { name := "volOwn", fn := fun _ => fun
  | [d1, d2, d3, d4, d5, d6] => { results := [.lit (.bool false)], args := [d1, d2, d3, d4, d5, d6] }
  | _ => none }
def VolOwnWrongFalsely : Prop := volOwnRow.holds Try.pinned (OpenSpec.ofChange volOwnWrong)

/-- 'woolkeep.TargetHands': WHATEVER THE INPUT: true; the input reads as it did. -/
def targetHandsSpec : ChangeSpec := { name := "targetHands", fn := fun _ => fun
  | [d1, d2, d3, d4] => { results := [.lit (.bool true)], args := [d1, d2, d3, d4] }
  | _ => none }
def targetHandsRow : OpenClaim := { program := "ytenkdpogdfcbgaa", sum := "1c92de10c2907c1d90a3908178f2e805e49636a63c84b85d0a94941c7d79b48a", func := "woolsack/woolkeep.TargetHands", spec := "targetHands", inPlace := ["internal/bytealg.abigen_runtime_cmpstring", "slices.overlaps[woolsack/api.Vol]", "slices.overlaps[woolsack/api.Item]"], unfollowed := true, recurses := true, plainKeys := false, apart := false }
def TargetHandsSaid : Prop := targetHandsRow.holds Try.pinned (OpenSpec.ofChange targetHandsSpec)

/-- ITS FALSE NEIGHBOUR: 'it returns false'. Refute it at one input. -/
def targetHandsWrong : ChangeSpec := { name := "targetHands", fn := fun _ => fun
  | [d1, d2, d3, d4] => { results := [.lit (.bool false)], args := [d1, d2, d3, d4] }
  | _ => none }
def TargetHandsWrongFalsely : Prop := targetHandsRow.holds Try.pinned (OpenSpec.ofChange targetHandsWrong)

/-- 'woolkeep.SegKeeps': WHATEVER THE INPUT: true; the input reads as it did. -/
def segKeepsSpec : ChangeSpec := { name := "segKeeps", fn := fun _ => fun
  | [d1, d2] => { results := [.lit (.bool true)], args := [d1, d2] }
  | _ => none }
def segKeepsRow : OpenClaim := { program := "ytenkdpogdfcbgaa", sum := "1c92de10c2907c1d90a3908178f2e805e49636a63c84b85d0a94941c7d79b48a", func := "woolsack/woolkeep.SegKeeps", spec := "segKeeps", inPlace := ["slices.overlaps[woolsack/api.Item]"], unfollowed := true, recurses := true, plainKeys := false, apart := false }
def SegKeepsSaid : Prop := segKeepsRow.holds Try.pinned (OpenSpec.ofChange segKeepsSpec)

/-- ITS FALSE NEIGHBOUR: 'it returns false'. Refute it at one input. -/
def segKeepsWrong : ChangeSpec := { name := "segKeeps", fn := fun _ => fun
  | [d1, d2] => { results := [.lit (.bool false)], args := [d1, d2] }
  | _ => none }
def SegKeepsWrongFalsely : Prop := segKeepsRow.holds Try.pinned (OpenSpec.ofChange segKeepsWrong)

/- THE SECOND FORM. 'bulk': how many values and letters a reading holds, each counted each time it is reached (what is shared counts as often as it is met; a slice's spare places count too). A statement '..UptoSaid' is the law's where the arguments, and the package variables that the reading takes, are together of bulk at most 1048576: NARROWER than '..Said'. Prove '..Said' where nothing that the law and all that it calls make is longer than what came in: it says more and counts as full. Else prove '..UptoSaid'. A law counts once. -/
mutual
def uptoBulk {H : Type} : DataW H → Nat
  | .lit (.string bytes) => bytes.length + 1
  | .lit _ => 1
  | .nil => 1
  | .ptr d => uptoBulk d + 1
  | .slice elems spare => uptoBulkAll elems + uptoBulkAll spare + 1
  | .agg parts => uptoBulkAll parts + 1
  | .iface _ d => uptoBulk d + 1
  | .map entries => uptoBulkEntries entries + 1
  | .held _ => 1
def uptoBulkAll {H : Type} : List (DataW H) → Nat
  | [] => 0
  | d :: r => uptoBulk d + uptoBulkAll r
def uptoBulkEntries {H : Type} : List (Lit × DataW H) → Nat
  | [] => 0
  | x :: r => uptoBulkEntry x + uptoBulkEntries r
def uptoBulkEntry {H : Type} : Lit × DataW H → Nat
  | (.string bytes, d) => bytes.length + uptoBulk d + 1
  | (_, d) => uptoBulk d + 1
 end
def uptoSmall : (H : Type) → List (DataW H) → Bool := fun _ ds => decide (uptoBulkAll ds ≤ 1048576)
def OpenSpec.upto (s : _root_.Go.ChangeSpec) : _root_.Go.OpenSpec := { _root_.Go.OpenSpec.ofChange s with cond := some uptoSmall }

/-- 'wooltop.TopSegs', WHERE WHAT IT READS IS OF BULK AT MOST 1048576: true; the input reads as it did. -/
def topSegsUptoRow : OpenClaim := { program := "ytenkdpogdfcbgaa", sum := "1c92de10c2907c1d90a3908178f2e805e49636a63c84b85d0a94941c7d79b48a", func := "woolsack/wooltop.TopSegs", spec := "topSegs", inPlace := ["slices.overlaps[woolsack/api.Item]"], unfollowed := true, recurses := true, plainKeys := false, apart := false, narrowed := true }
def TopSegsUptoSaid : Prop := topSegsUptoRow.holds Try.pinned (OpenSpec.upto topSegsSpec)

/-- 'wooltop.TopProof', WHERE WHAT IT READS IS OF BULK AT MOST 1048576: true; the input reads as it did. -/
def topProofUptoRow : OpenClaim := { program := "ytenkdpogdfcbgaa", sum := "1c92de10c2907c1d90a3908178f2e805e49636a63c84b85d0a94941c7d79b48a", func := "woolsack/wooltop.TopProof", spec := "topProof", inPlace := ["internal/bytealg.abigen_runtime_cmpstring", "slices.overlaps[woolsack/api.Vol]", "slices.overlaps[woolsack/api.Item]"], unfollowed := true, recurses := true, plainKeys := false, apart := false, narrowed := true }
def TopProofUptoSaid : Prop := topProofUptoRow.holds Try.pinned (OpenSpec.upto topProofSpec)

/-- 'woolkeep.QueueBarrier', WHERE WHAT IT READS IS OF BULK AT MOST 1048576: true; the input reads as it did. -/
def queueBarrierUptoRow : OpenClaim := { program := "ytenkdpogdfcbgaa", sum := "1c92de10c2907c1d90a3908178f2e805e49636a63c84b85d0a94941c7d79b48a", func := "woolsack/woolkeep.QueueBarrier", spec := "queueBarrier", unfollowed := true, recurses := true, plainKeys := false, apart := false, narrowed := true }
def QueueBarrierUptoSaid : Prop := queueBarrierUptoRow.holds Try.pinned (OpenSpec.upto queueBarrierSpec)

/-- 'wooltop.TopCrash', WHERE WHAT IT READS IS OF BULK AT MOST 1048576: true; the input reads as it did. -/
def topCrashUptoRow : OpenClaim := { program := "ytenkdpogdfcbgaa", sum := "1c92de10c2907c1d90a3908178f2e805e49636a63c84b85d0a94941c7d79b48a", func := "woolsack/wooltop.TopCrash", spec := "topCrash", inPlace := ["internal/bytealg.abigen_runtime_cmpstring", "slices.overlaps[woolsack/api.Vol]", "slices.overlaps[woolsack/api.Item]"], unfollowed := true, recurses := true, plainKeys := false, apart := false, narrowed := true }
def TopCrashUptoSaid : Prop := topCrashUptoRow.holds Try.pinned (OpenSpec.upto topCrashSpec)

/-- 'woolkeep.SegEnds', WHERE WHAT IT READS IS OF BULK AT MOST 1048576: true; the input reads as it did. -/
def segEndsUptoRow : OpenClaim := { program := "ytenkdpogdfcbgaa", sum := "1c92de10c2907c1d90a3908178f2e805e49636a63c84b85d0a94941c7d79b48a", func := "woolsack/woolkeep.SegEnds", spec := "segEnds", unfollowed := true, recurses := true, plainKeys := false, apart := false, narrowed := true }
def SegEndsUptoSaid : Prop := segEndsUptoRow.holds Try.pinned (OpenSpec.upto segEndsSpec)

/-- 'woolkeep.SegOwn', WHERE WHAT IT READS IS OF BULK AT MOST 1048576: true; the input reads as it did. -/
def segOwnUptoRow : OpenClaim := { program := "ytenkdpogdfcbgaa", sum := "1c92de10c2907c1d90a3908178f2e805e49636a63c84b85d0a94941c7d79b48a", func := "woolsack/woolkeep.SegOwn", spec := "segOwn", unfollowed := true, recurses := true, plainKeys := false, apart := false, narrowed := true }
def SegOwnUptoSaid : Prop := segOwnUptoRow.holds Try.pinned (OpenSpec.upto segOwnSpec)

/-- 'woolkeep.RightsOwn', WHERE WHAT IT READS IS OF BULK AT MOST 1048576: true; the input reads as it did. -/
def rightsOwnUptoRow : OpenClaim := { program := "ytenkdpogdfcbgaa", sum := "1c92de10c2907c1d90a3908178f2e805e49636a63c84b85d0a94941c7d79b48a", func := "woolsack/woolkeep.RightsOwn", spec := "rightsOwn", inPlace := ["slices.overlaps[woolsack/api.Reg]"], unfollowed := true, recurses := true, plainKeys := false, apart := false, narrowed := true }
def RightsOwnUptoSaid : Prop := rightsOwnUptoRow.holds Try.pinned (OpenSpec.upto rightsOwnSpec)

/-- 'woolkeep.SegPuts', WHERE WHAT IT READS IS OF BULK AT MOST 1048576: true; the input reads as it did. -/
def segPutsUptoRow : OpenClaim := { program := "ytenkdpogdfcbgaa", sum := "1c92de10c2907c1d90a3908178f2e805e49636a63c84b85d0a94941c7d79b48a", func := "woolsack/woolkeep.SegPuts", spec := "segPuts", unfollowed := true, recurses := true, plainKeys := false, apart := false, narrowed := true }
def SegPutsUptoSaid : Prop := segPutsUptoRow.holds Try.pinned (OpenSpec.upto segPutsSpec)

/-- 'woolkeep.VolOwn', WHERE WHAT IT READS IS OF BULK AT MOST 1048576: true; the input reads as it did. -/
def volOwnUptoRow : OpenClaim := { program := "ytenkdpogdfcbgaa", sum := "1c92de10c2907c1d90a3908178f2e805e49636a63c84b85d0a94941c7d79b48a", func := "woolsack/woolkeep.VolOwn", spec := "volOwn", inPlace := ["internal/bytealg.abigen_runtime_cmpstring", "slices.overlaps[woolsack/api.Vol]", "slices.overlaps[woolsack/api.Item]"], unfollowed := true, recurses := true, plainKeys := false, apart := false, narrowed := true }
def VolOwnUptoSaid : Prop := volOwnUptoRow.holds Try.pinned (OpenSpec.upto volOwnSpec)

/-- 'woolkeep.TargetHands', WHERE WHAT IT READS IS OF BULK AT MOST 1048576: true; the input reads as it did. -/
def targetHandsUptoRow : OpenClaim := { program := "ytenkdpogdfcbgaa", sum := "1c92de10c2907c1d90a3908178f2e805e49636a63c84b85d0a94941c7d79b48a", func := "woolsack/woolkeep.TargetHands", spec := "targetHands", inPlace := ["internal/bytealg.abigen_runtime_cmpstring", "slices.overlaps[woolsack/api.Vol]", "slices.overlaps[woolsack/api.Item]"], unfollowed := true, recurses := true, plainKeys := false, apart := false, narrowed := true }
def TargetHandsUptoSaid : Prop := targetHandsUptoRow.holds Try.pinned (OpenSpec.upto targetHandsSpec)

/-- 'woolkeep.SegKeeps', WHERE WHAT IT READS IS OF BULK AT MOST 1048576: true; the input reads as it did. -/
def segKeepsUptoRow : OpenClaim := { program := "ytenkdpogdfcbgaa", sum := "1c92de10c2907c1d90a3908178f2e805e49636a63c84b85d0a94941c7d79b48a", func := "woolsack/woolkeep.SegKeeps", spec := "segKeeps", inPlace := ["slices.overlaps[woolsack/api.Item]"], unfollowed := true, recurses := true, plainKeys := false, apart := false, narrowed := true }
def SegKeepsUptoSaid : Prop := segKeepsUptoRow.holds Try.pinned (OpenSpec.upto segKeepsSpec)

end Rows
end Go.Proofs.Ytenkdpogdfcbgaa
