/-
  No cell of these rows narrows 'for every input' (looked for: loops, veiled, ifaces, maps, wideKeys, modest, calm, conditions, laid).
  DERIVED. THE GIVEN ROWS OF THIS SEAT. 4 by the template 'for every input the law returns true; each argument reads behind the call as it read before'; 0 by the template 'total and deterministic' (their statements: YtenkdpogdfcbgaaGreatTotals.lean).
  GIVEN WITH THE SEED: the statements are not yours to turn. If you find one false, say at which input.
  Laid BY PROGRAM, IN A SANDBOX (cutbox-rows.mjs): the forced cells as the released guide's own fill.sh prints them over the translation e92f050f57b1ec8f… (all of the seat's roots in one cut). By AI agents, Wed Nov 11 2026. No macro, syntax, notation, axiom, sorry.
-/
import Derived.Test.YtenkdpogdfcbgaaGreatChecked
import GoSem.Claim
import GoSem.ClaimJoined
import GoSem.ClaimMapViews
import Derived.JoinedTies
import Derived.KernelRfl
namespace Go.Proofs.YtenkdpogdfcbgaaGreat
/- THE CELL 'sum', in the pinned program and in every row, IS THE sha256 OF THE DUMP (.gsa) THAT YtenkdpogdfcbgaaGreatProg.lean LOADS. Nothing in Lean hashes anything: it is a label: what it is worth is what the hold of that sum in a sandbox is worth. -/
noncomputable def Tryz.pinned : Pinned := { name := "ytenkdpogdfcbgaagreat", sum := "e92f050f57b1ec8f8ceb7eb70a54dfd3ccd9ed817d712f85ff0eade96c9dd216", checked := Tryz.checked }
namespace Rows
def none {H : Type} : Left H := { results := [], args := [] }

/-- 'woolkeep.TargetOwn': WHATEVER THE INPUT: true; the input reads as it did. -/
def targetOwnSpec : ChangeSpec := { name := "targetOwn", fn := fun _ => fun
  | [d1, d2] => { results := [.lit (.bool true)], args := [d1, d2] }
  | _ => none }
def targetOwnRow : OpenClaim := { program := "ytenkdpogdfcbgaagreat", sum := "e92f050f57b1ec8f8ceb7eb70a54dfd3ccd9ed817d712f85ff0eade96c9dd216", func := "woolsack/woolkeep.TargetOwn", spec := "targetOwn", inPlace := ["internal/bytealg.abigen_runtime_cmpstring", "slices.overlaps[woolsack/api.Vol]", "slices.overlaps[woolsack/api.Item]", "slices.overlaps[woolsack/api.Reg]"], unfollowed := true, recurses := true, plainKeys := false, apart := false }
def TargetOwnSaid : Prop := targetOwnRow.holds Tryz.pinned (OpenSpec.ofChange targetOwnSpec)

/-- ITS FALSE NEIGHBOUR: 'it returns false'. Refute it at one input. -/
def targetOwnWrong : ChangeSpec := { name := "targetOwn", fn := fun _ => fun
  | [d1, d2] => { results := [.lit (.bool false)], args := [d1, d2] }
  | _ => none }
def TargetOwnWrongFalsely : Prop := targetOwnRow.holds Tryz.pinned (OpenSpec.ofChange targetOwnWrong)

/-- 'woolkeep.TargetHeld': WHATEVER THE INPUT: true; the input reads as it did. -/
def targetHeldSpec : ChangeSpec := { name := "targetHeld", fn := fun _ => fun
  | [d1, d2, d3, d4] => { results := [.lit (.bool true)], args := [d1, d2, d3, d4] }
  | _ => none }
def targetHeldRow : OpenClaim := { program := "ytenkdpogdfcbgaagreat", sum := "e92f050f57b1ec8f8ceb7eb70a54dfd3ccd9ed817d712f85ff0eade96c9dd216", func := "woolsack/woolkeep.TargetHeld", spec := "targetHeld", inPlace := ["internal/bytealg.abigen_runtime_cmpstring", "slices.overlaps[woolsack/api.Vol]", "slices.overlaps[woolsack/api.Item]", "slices.overlaps[woolsack/api.Reg]"], unfollowed := true, recurses := true, plainKeys := false, apart := false }
def TargetHeldSaid : Prop := targetHeldRow.holds Tryz.pinned (OpenSpec.ofChange targetHeldSpec)

/-- ITS FALSE NEIGHBOUR: 'it returns false'. Refute it at one input. -/
def targetHeldWrong : ChangeSpec := { name := "targetHeld", fn := fun _ => fun
  | [d1, d2, d3, d4] => { results := [.lit (.bool false)], args := [d1, d2, d3, d4] }
  | _ => none }
def TargetHeldWrongFalsely : Prop := targetHeldRow.holds Tryz.pinned (OpenSpec.ofChange targetHeldWrong)

/-- 'woolkeep.TargetLog': WHATEVER THE INPUT: true; the input reads as it did. -/
def targetLogSpec : ChangeSpec := { name := "targetLog", fn := fun _ => fun
  | [d1, d2] => { results := [.lit (.bool true)], args := [d1, d2] }
  | _ => none }
def targetLogRow : OpenClaim := { program := "ytenkdpogdfcbgaagreat", sum := "e92f050f57b1ec8f8ceb7eb70a54dfd3ccd9ed817d712f85ff0eade96c9dd216", func := "woolsack/woolkeep.TargetLog", spec := "targetLog", inPlace := ["internal/bytealg.abigen_runtime_cmpstring", "slices.overlaps[woolsack/api.Vol]", "slices.overlaps[woolsack/api.Item]", "slices.overlaps[woolsack/api.Reg]"], unfollowed := true, recurses := true, plainKeys := false, apart := false }
def TargetLogSaid : Prop := targetLogRow.holds Tryz.pinned (OpenSpec.ofChange targetLogSpec)

/-- ITS FALSE NEIGHBOUR: 'it returns false'. Refute it at one input. -/
def targetLogWrong : ChangeSpec := { name := "targetLog", fn := fun _ => fun
  | [d1, d2] => { results := [.lit (.bool false)], args := [d1, d2] }
  | _ => none }
def TargetLogWrongFalsely : Prop := targetLogRow.holds Tryz.pinned (OpenSpec.ofChange targetLogWrong)

/-- 'woolkeep.TargetTorn': WHATEVER THE INPUT: true; the input reads as it did. -/
def targetTornSpec : ChangeSpec := { name := "targetTorn", fn := fun _ => fun
  | [d1, d2, d3] => { results := [.lit (.bool true)], args := [d1, d2, d3] }
  | _ => none }
def targetTornRow : OpenClaim := { program := "ytenkdpogdfcbgaagreat", sum := "e92f050f57b1ec8f8ceb7eb70a54dfd3ccd9ed817d712f85ff0eade96c9dd216", func := "woolsack/woolkeep.TargetTorn", spec := "targetTorn", inPlace := ["internal/bytealg.abigen_runtime_cmpstring", "slices.overlaps[woolsack/api.Vol]", "slices.overlaps[woolsack/api.Item]", "slices.overlaps[woolsack/api.Reg]"], unfollowed := true, recurses := true, plainKeys := false, apart := false }
def TargetTornSaid : Prop := targetTornRow.holds Tryz.pinned (OpenSpec.ofChange targetTornSpec)

/-- ITS FALSE NEIGHBOUR: 'it returns false'. Refute it at one input. -/
def targetTornWrong : ChangeSpec := { name := "targetTorn", fn := fun _ => fun
  | [d1, d2, d3] => { results := [.lit (.bool false)], args := [d1, d2, d3] }
  | _ => none }
def TargetTornWrongFalsely : Prop := targetTornRow.holds Tryz.pinned (OpenSpec.ofChange targetTornWrong)

/- THE SECOND FORM. 'bulk': how many values and letters a reading holds, each counted each time it is reached (what is shared counts as often as it is met; a slice's spare places count too). A statement '..UptoSaid' is the law's where the arguments, and the package variables that the reading takes, are together of bulk at most 1048576: NARROWER than '..Said'. Prove '..Said' where nothing that the law and all that it calls make is longer than what came in: it says more and counts as full. Else prove '..UptoSaid'. A law counts once. -/
mutual
def uptoBulk {H : Type} : DataW H → Nat
  | .lit (.string bytes) => bytes.length + 1
  | .lit _ => 1
  | .nil => 1
  | .ptr d => uptoBulk d + 1
  | .slice elems spare => uptoBulkAll elems + uptoBulkAll spare + 1
  | .agg parts => uptoBulkAll parts + 1
  | .iface _ d => uptoBulk d + 1
  | .map entries => uptoBulkEntries entries + 1
  | .held _ => 1
def uptoBulkAll {H : Type} : List (DataW H) → Nat
  | [] => 0
  | d :: r => uptoBulk d + uptoBulkAll r
def uptoBulkEntries {H : Type} : List (Lit × DataW H) → Nat
  | [] => 0
  | x :: r => uptoBulkEntry x + uptoBulkEntries r
def uptoBulkEntry {H : Type} : Lit × DataW H → Nat
  | (.string bytes, d) => bytes.length + uptoBulk d + 1
  | (_, d) => uptoBulk d + 1
 end
def uptoSmall : (H : Type) → List (DataW H) → Bool := fun _ ds => decide (uptoBulkAll ds ≤ 1048576)
def OpenSpec.upto (s : _root_.Go.ChangeSpec) : _root_.Go.OpenSpec := { _root_.Go.OpenSpec.ofChange s with cond := some uptoSmall }

/-- 'woolkeep.TargetOwn', WHERE WHAT IT READS IS OF BULK AT MOST 1048576: true; the input reads as it did. -/
def targetOwnUptoRow : OpenClaim := { program := "ytenkdpogdfcbgaagreat", sum := "e92f050f57b1ec8f8ceb7eb70a54dfd3ccd9ed817d712f85ff0eade96c9dd216", func := "woolsack/woolkeep.TargetOwn", spec := "targetOwn", inPlace := ["internal/bytealg.abigen_runtime_cmpstring", "slices.overlaps[woolsack/api.Vol]", "slices.overlaps[woolsack/api.Item]", "slices.overlaps[woolsack/api.Reg]"], unfollowed := true, recurses := true, plainKeys := false, apart := false, narrowed := true }
def TargetOwnUptoSaid : Prop := targetOwnUptoRow.holds Tryz.pinned (OpenSpec.upto targetOwnSpec)

/-- 'woolkeep.TargetHeld', WHERE WHAT IT READS IS OF BULK AT MOST 1048576: true; the input reads as it did. -/
def targetHeldUptoRow : OpenClaim := { program := "ytenkdpogdfcbgaagreat", sum := "e92f050f57b1ec8f8ceb7eb70a54dfd3ccd9ed817d712f85ff0eade96c9dd216", func := "woolsack/woolkeep.TargetHeld", spec := "targetHeld", inPlace := ["internal/bytealg.abigen_runtime_cmpstring", "slices.overlaps[woolsack/api.Vol]", "slices.overlaps[woolsack/api.Item]", "slices.overlaps[woolsack/api.Reg]"], unfollowed := true, recurses := true, plainKeys := false, apart := false, narrowed := true }
def TargetHeldUptoSaid : Prop := targetHeldUptoRow.holds Tryz.pinned (OpenSpec.upto targetHeldSpec)

/-- 'woolkeep.TargetLog', WHERE WHAT IT READS IS OF BULK AT MOST 1048576: true; the input reads as it did. -/
def targetLogUptoRow : OpenClaim := { program := "ytenkdpogdfcbgaagreat", sum := "e92f050f57b1ec8f8ceb7eb70a54dfd3ccd9ed817d712f85ff0eade96c9dd216", func := "woolsack/woolkeep.TargetLog", spec := "targetLog", inPlace := ["internal/bytealg.abigen_runtime_cmpstring", "slices.overlaps[woolsack/api.Vol]", "slices.overlaps[woolsack/api.Item]", "slices.overlaps[woolsack/api.Reg]"], unfollowed := true, recurses := true, plainKeys := false, apart := false, narrowed := true }
def TargetLogUptoSaid : Prop := targetLogUptoRow.holds Tryz.pinned (OpenSpec.upto targetLogSpec)

/-- 'woolkeep.TargetTorn', WHERE WHAT IT READS IS OF BULK AT MOST 1048576: true; the input reads as it did. -/
def targetTornUptoRow : OpenClaim := { program := "ytenkdpogdfcbgaagreat", sum := "e92f050f57b1ec8f8ceb7eb70a54dfd3ccd9ed817d712f85ff0eade96c9dd216", func := "woolsack/woolkeep.TargetTorn", spec := "targetTorn", inPlace := ["internal/bytealg.abigen_runtime_cmpstring", "slices.overlaps[woolsack/api.Vol]", "slices.overlaps[woolsack/api.Item]", "slices.overlaps[woolsack/api.Reg]"], unfollowed := true, recurses := true, plainKeys := false, apart := false, narrowed := true }
def TargetTornUptoSaid : Prop := targetTornUptoRow.holds Tryz.pinned (OpenSpec.upto targetTornSpec)

end Rows
end Go.Proofs.YtenkdpogdfcbgaaGreat
