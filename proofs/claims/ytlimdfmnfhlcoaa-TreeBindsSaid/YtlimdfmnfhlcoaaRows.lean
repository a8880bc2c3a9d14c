/-
  No cell of these rows narrows 'for every input' (looked for: loops, veiled, ifaces, maps, wideKeys, modest, calm, conditions, laid).
  DERIVED. THE GIVEN ROWS OF THIS SEAT. 8 by the template 'for every input the law returns true; each argument reads behind the call as it read before'; 0 by the template 'total and deterministic' (their statements: YtlimdfmnfhlcoaaTotals.lean).
  GIVEN WITH THE SEED: the statements are not yours to turn. If you find one false, say at which input.
  Laid BY PROGRAM, IN A SANDBOX (cutbox-rows.mjs): the forced cells as the released guide's own fill.sh prints them over the translation 2335e620d66e25fe… (all of the seat's roots in one cut). By AI agents, Wed Nov 11 2026. No macro, syntax, notation, axiom, sorry.
-/
import Derived.Test.YtlimdfmnfhlcoaaChecked
import GoSem.Claim
import GoSem.ClaimJoined
import GoSem.ClaimMapViews
import Derived.JoinedTies
import Derived.KernelRfl
namespace Go.Proofs.Ytlimdfmnfhlcoaa
/- THE CELL 'sum', in the pinned program and in every row, IS THE sha256 OF THE DUMP (.gsa) THAT YtlimdfmnfhlcoaaProg.lean LOADS. Nothing in Lean hashes anything: it is a label: what it is worth is what the hold of that sum in a sandbox is worth. -/
noncomputable def Try.pinned : Pinned := { name := "ytlimdfmnfhlcoaa", sum := "2335e620d66e25fe11dfd894b86d9a40c024b3914ebc7701bf7f128c804a9260", checked := Try.checked }
namespace Rows
def none {H : Type} : Left H := { results := [], args := [] }

/-- 'woolkeep.TreeHalves': WHATEVER THE INPUT: true; the input reads as it did. -/
def treeHalvesSpec : ChangeSpec := { name := "treeHalves", fn := fun _ => fun
  | [d] => { results := [.lit (.bool true)], args := [d] }
  | _ => none }
def treeHalvesRow : OpenClaim := { program := "ytlimdfmnfhlcoaa", sum := "2335e620d66e25fe11dfd894b86d9a40c024b3914ebc7701bf7f128c804a9260", func := "woolsack/woolkeep.TreeHalves", spec := "treeHalves", unfollowed := true, recurses := true, apart := false }
def TreeHalvesSaid : Prop := treeHalvesRow.holds Try.pinned (OpenSpec.ofChange treeHalvesSpec)

/-- ITS FALSE NEIGHBOUR: 'it returns false'. Refute it at one input. -/
def treeHalvesWrong : ChangeSpec := { name := "treeHalves", fn := fun _ => fun
  | [d] => { results := [.lit (.bool false)], args := [d] }
  | _ => none }
def TreeHalvesWrongFalsely : Prop := treeHalvesRow.holds Try.pinned (OpenSpec.ofChange treeHalvesWrong)

/-- 'woolkeep.TreeSteps': WHATEVER THE INPUT: true; the input reads as it did. -/
def treeStepsSpec : ChangeSpec := { name := "treeSteps", fn := fun _ => fun
  | [d1, d2] => { results := [.lit (.bool true)], args := [d1, d2] }
  | _ => none }
def treeStepsRow : OpenClaim := { program := "ytlimdfmnfhlcoaa", sum := "2335e620d66e25fe11dfd894b86d9a40c024b3914ebc7701bf7f128c804a9260", func := "woolsack/woolkeep.TreeSteps", spec := "treeSteps", unfollowed := true, recurses := true, apart := false }
def TreeStepsSaid : Prop := treeStepsRow.holds Try.pinned (OpenSpec.ofChange treeStepsSpec)

/-- ITS FALSE NEIGHBOUR: 'it returns false'. Refute it at one input. -/
def treeStepsWrong : ChangeSpec := { name := "treeSteps", fn := fun _ => fun
  | [d1, d2] => { results := [.lit (.bool false)], args := [d1, d2] }
  | _ => none }
def TreeStepsWrongFalsely : Prop := treeStepsRow.holds Try.pinned (OpenSpec.ofChange treeStepsWrong)

/-- 'woolkeep.TreeProves': WHATEVER THE INPUT: true; the input reads as it did. -/
def treeProvesSpec : ChangeSpec := { name := "treeProves", fn := fun _ => fun
  | [d1, d2] => { results := [.lit (.bool true)], args := [d1, d2] }
  | _ => none }
def treeProvesRow : OpenClaim := { program := "ytlimdfmnfhlcoaa", sum := "2335e620d66e25fe11dfd894b86d9a40c024b3914ebc7701bf7f128c804a9260", func := "woolsack/woolkeep.TreeProves", spec := "treeProves", unfollowed := true, recurses := true, apart := false }
def TreeProvesSaid : Prop := treeProvesRow.holds Try.pinned (OpenSpec.ofChange treeProvesSpec)

/-- ITS FALSE NEIGHBOUR: 'it returns false'. Refute it at one input. -/
def treeProvesWrong : ChangeSpec := { name := "treeProves", fn := fun _ => fun
  | [d1, d2] => { results := [.lit (.bool false)], args := [d1, d2] }
  | _ => none }
def TreeProvesWrongFalsely : Prop := treeProvesRow.holds Try.pinned (OpenSpec.ofChange treeProvesWrong)

/-- 'woolkeep.TreeBinds': WHATEVER THE INPUT: true; the input reads as it did. -/
def treeBindsSpec : ChangeSpec := { name := "treeBinds", fn := fun _ => fun
  | [d1, d2, d3, d4] => { results := [.lit (.bool true)], args := [d1, d2, d3, d4] }
  | _ => none }
def treeBindsRow : OpenClaim := { program := "ytlimdfmnfhlcoaa", sum := "2335e620d66e25fe11dfd894b86d9a40c024b3914ebc7701bf7f128c804a9260", func := "woolsack/woolkeep.TreeBinds", spec := "treeBinds", unfollowed := true, recurses := true, apart := false }
def TreeBindsSaid : Prop := treeBindsRow.holds Try.pinned (OpenSpec.ofChange treeBindsSpec)

/-- ITS FALSE NEIGHBOUR: 'it returns false'. Refute it at one input. -/
def treeBindsWrong : ChangeSpec := { name := "treeBinds", fn := fun _ => fun
  | [d1, d2, d3, d4] => { results := [.lit (.bool false)], args := [d1, d2, d3, d4] }
  | _ => none }
def TreeBindsWrongFalsely : Prop := treeBindsRow.holds Try.pinned (OpenSpec.ofChange treeBindsWrong)

/-- 'woolkeep.TreeClash': WHATEVER THE INPUT: true; the input reads as it did. -/
def treeClashSpec : ChangeSpec := { name := "treeClash", fn := fun _ => fun
  | [d1, d2] => { results := [.lit (.bool true)], args := [d1, d2] }
  | _ => none }
def treeClashRow : OpenClaim := { program := "ytlimdfmnfhlcoaa", sum := "2335e620d66e25fe11dfd894b86d9a40c024b3914ebc7701bf7f128c804a9260", func := "woolsack/woolkeep.TreeClash", spec := "treeClash", unfollowed := true, recurses := true, apart := false }
def TreeClashSaid : Prop := treeClashRow.holds Try.pinned (OpenSpec.ofChange treeClashSpec)

/-- ITS FALSE NEIGHBOUR: 'it returns false'. Refute it at one input. -/
def treeClashWrong : ChangeSpec := { name := "treeClash", fn := fun _ => fun
  | [d1, d2] => { results := [.lit (.bool false)], args := [d1, d2] }
  | _ => none }
def TreeClashWrongFalsely : Prop := treeClashRow.holds Try.pinned (OpenSpec.ofChange treeClashWrong)

/-- 'woolkeep.SyncFew': WHATEVER THE INPUT: true; the input reads as it did. -/
def syncFewSpec : ChangeSpec := { name := "syncFew", fn := fun _ => fun
  | [d1, d2, d3] => { results := [.lit (.bool true)], args := [d1, d2, d3] }
  | _ => none }
def syncFewRow : OpenClaim := { program := "ytlimdfmnfhlcoaa", sum := "2335e620d66e25fe11dfd894b86d9a40c024b3914ebc7701bf7f128c804a9260", func := "woolsack/woolkeep.SyncFew", spec := "syncFew", unfollowed := true, recurses := true, apart := false }
def SyncFewSaid : Prop := syncFewRow.holds Try.pinned (OpenSpec.ofChange syncFewSpec)

/-- ITS FALSE NEIGHBOUR: 'it returns false'. Refute it at one input. -/
def syncFewWrong : ChangeSpec := { name := "syncFew", fn := fun _ => fun
  | [d1, d2, d3] => { results := [.lit (.bool false)], args := [d1, d2, d3] }
  | _ => none }
def SyncFewWrongFalsely : Prop := syncFewRow.holds Try.pinned (OpenSpec.ofChange syncFewWrong)

/-- 'woolkeep.SyncSame': WHATEVER THE INPUT: true; the input reads as it did. -/
def syncSameSpec : ChangeSpec := { name := "syncSame", fn := fun _ => fun
  | [d1, d2] => { results := [.lit (.bool true)], args := [d1, d2] }
  | _ => none }
def syncSameRow : OpenClaim := { program := "ytlimdfmnfhlcoaa", sum := "2335e620d66e25fe11dfd894b86d9a40c024b3914ebc7701bf7f128c804a9260", func := "woolsack/woolkeep.SyncSame", spec := "syncSame", unfollowed := true, recurses := true, apart := false }
def SyncSameSaid : Prop := syncSameRow.holds Try.pinned (OpenSpec.ofChange syncSameSpec)

/-- ITS FALSE NEIGHBOUR: 'it returns false'. Refute it at one input. -/
def syncSameWrong : ChangeSpec := { name := "syncSame", fn := fun _ => fun
  | [d1, d2] => { results := [.lit (.bool false)], args := [d1, d2] }
  | _ => none }
def SyncSameWrongFalsely : Prop := syncSameRow.holds Try.pinned (OpenSpec.ofChange syncSameWrong)

/-- 'woolkeep.SyncFinds': WHATEVER THE INPUT: true; the input reads as it did. -/
def syncFindsSpec : ChangeSpec := { name := "syncFinds", fn := fun _ => fun
  | [d1, d2] => { results := [.lit (.bool true)], args := [d1, d2] }
  | _ => none }
def syncFindsRow : OpenClaim := { program := "ytlimdfmnfhlcoaa", sum := "2335e620d66e25fe11dfd894b86d9a40c024b3914ebc7701bf7f128c804a9260", func := "woolsack/woolkeep.SyncFinds", spec := "syncFinds", unfollowed := true, recurses := true, apart := false }
def SyncFindsSaid : Prop := syncFindsRow.holds Try.pinned (OpenSpec.ofChange syncFindsSpec)

/-- ITS FALSE NEIGHBOUR: 'it returns false'. Refute it at one input. -/
def syncFindsWrong : ChangeSpec := { name := "syncFinds", fn := fun _ => fun
  | [d1, d2] => { results := [.lit (.bool false)], args := [d1, d2] }
  | _ => none }
def SyncFindsWrongFalsely : Prop := syncFindsRow.holds Try.pinned (OpenSpec.ofChange syncFindsWrong)

/- THE SECOND FORM. 'bulk': how many values and letters a reading holds, each counted each time it is reached (what is shared counts as often as it is met; a slice's spare places count too). A statement '..UptoSaid' is the law's where the arguments, and the package variables that the reading takes, are together of bulk at most 1048576: NARROWER than '..Said'. Prove '..Said' where nothing that the law and all that it calls make is longer than what came in: it says more and counts as full. Else prove '..UptoSaid'. A law counts once. -/
mutual
def uptoBulk {H : Type} : DataW H → Nat
  | .lit (.string bytes) => bytes.length + 1
  | .lit _ => 1
  | .nil => 1
  | .ptr d => uptoBulk d + 1
  | .slice elems spare => uptoBulkAll elems + uptoBulkAll spare + 1
  | .agg parts => uptoBulkAll parts + 1
  | .iface _ d => uptoBulk d + 1
  | .map entries => uptoBulkEntries entries + 1
  | .held _ => 1
def uptoBulkAll {H : Type} : List (DataW H) → Nat
  | [] => 0
  | d :: r => uptoBulk d + uptoBulkAll r
def uptoBulkEntries {H : Type} : List (Lit × DataW H) → Nat
  | [] => 0
  | x :: r => uptoBulkEntry x + uptoBulkEntries r
def uptoBulkEntry {H : Type} : Lit × DataW H → Nat
  | (.string bytes, d) => bytes.length + uptoBulk d + 1
  | (_, d) => uptoBulk d + 1
 end
def uptoSmall : (H : Type) → List (DataW H) → Bool := fun _ ds => decide (uptoBulkAll ds ≤ 1048576)
def OpenSpec.upto (s : _root_.Go.ChangeSpec) : _root_.Go.OpenSpec := { _root_.Go.OpenSpec.ofChange s with cond := some uptoSmall }

/-- 'woolkeep.TreeHalves', WHERE WHAT IT READS IS OF BULK AT MOST 1048576: true; the input reads as it did. -/
def treeHalvesUptoRow : OpenClaim := { program := "ytlimdfmnfhlcoaa", sum := "2335e620d66e25fe11dfd894b86d9a40c024b3914ebc7701bf7f128c804a9260", func := "woolsack/woolkeep.TreeHalves", spec := "treeHalves", unfollowed := true, recurses := true, apart := false, narrowed := true }
def TreeHalvesUptoSaid : Prop := treeHalvesUptoRow.holds Try.pinned (OpenSpec.upto treeHalvesSpec)

/-- 'woolkeep.TreeSteps', WHERE WHAT IT READS IS OF BULK AT MOST 1048576: true; the input reads as it did. -/
def treeStepsUptoRow : OpenClaim := { program := "ytlimdfmnfhlcoaa", sum := "2335e620d66e25fe11dfd894b86d9a40c024b3914ebc7701bf7f128c804a9260", func := "woolsack/woolkeep.TreeSteps", spec := "treeSteps", unfollowed := true, recurses := true, apart := false, narrowed := true }
def TreeStepsUptoSaid : Prop := treeStepsUptoRow.holds Try.pinned (OpenSpec.upto treeStepsSpec)

/-- 'woolkeep.TreeProves', WHERE WHAT IT READS IS OF BULK AT MOST 1048576: true; the input reads as it did. -/
def treeProvesUptoRow : OpenClaim := { program := "ytlimdfmnfhlcoaa", sum := "2335e620d66e25fe11dfd894b86d9a40c024b3914ebc7701bf7f128c804a9260", func := "woolsack/woolkeep.TreeProves", spec := "treeProves", unfollowed := true, recurses := true, apart := false, narrowed := true }
def TreeProvesUptoSaid : Prop := treeProvesUptoRow.holds Try.pinned (OpenSpec.upto treeProvesSpec)

/-- 'woolkeep.TreeBinds', WHERE WHAT IT READS IS OF BULK AT MOST 1048576: true; the input reads as it did. -/
def treeBindsUptoRow : OpenClaim := { program := "ytlimdfmnfhlcoaa", sum := "2335e620d66e25fe11dfd894b86d9a40c024b3914ebc7701bf7f128c804a9260", func := "woolsack/woolkeep.TreeBinds", spec := "treeBinds", unfollowed := true, recurses := true, apart := false, narrowed := true }
def TreeBindsUptoSaid : Prop := treeBindsUptoRow.holds Try.pinned (OpenSpec.upto treeBindsSpec)

/-- 'woolkeep.TreeClash', WHERE WHAT IT READS IS OF BULK AT MOST 1048576: true; the input reads as it did. -/
def treeClashUptoRow : OpenClaim := { program := "ytlimdfmnfhlcoaa", sum := "2335e620d66e25fe11dfd894b86d9a40c024b3914ebc7701bf7f128c804a9260", func := "woolsack/woolkeep.TreeClash", spec := "treeClash", unfollowed := true, recurses := true, apart := false, narrowed := true }
def TreeClashUptoSaid : Prop := treeClashUptoRow.holds Try.pinned (OpenSpec.upto treeClashSpec)

/-- 'woolkeep.SyncFew', WHERE WHAT IT READS IS OF BULK AT MOST 1048576: true; the input reads as it did. -/
def syncFewUptoRow : OpenClaim := { program := "ytlimdfmnfhlcoaa", sum := "2335e620d66e25fe11dfd894b86d9a40c024b3914ebc7701bf7f128c804a9260", func := "woolsack/woolkeep.SyncFew", spec := "syncFew", unfollowed := true, recurses := true, apart := false, narrowed := true }
def SyncFewUptoSaid : Prop := syncFewUptoRow.holds Try.pinned (OpenSpec.upto syncFewSpec)

/-- 'woolkeep.SyncSame', WHERE WHAT IT READS IS OF BULK AT MOST 1048576: true; the input reads as it did. -/
def syncSameUptoRow : OpenClaim := { program := "ytlimdfmnfhlcoaa", sum := "2335e620d66e25fe11dfd894b86d9a40c024b3914ebc7701bf7f128c804a9260", func := "woolsack/woolkeep.SyncSame", spec := "syncSame", unfollowed := true, recurses := true, apart := false, narrowed := true }
def SyncSameUptoSaid : Prop := syncSameUptoRow.holds Try.pinned (OpenSpec.upto syncSameSpec)

/-- 'woolkeep.SyncFinds', WHERE WHAT IT READS IS OF BULK AT MOST 1048576: true; the input reads as it did. -/
def syncFindsUptoRow : OpenClaim := { program := "ytlimdfmnfhlcoaa", sum := "2335e620d66e25fe11dfd894b86d9a40c024b3914ebc7701bf7f128c804a9260", func := "woolsack/woolkeep.SyncFinds", spec := "syncFinds", unfollowed := true, recurses := true, apart := false, narrowed := true }
def SyncFindsUptoSaid : Prop := syncFindsUptoRow.holds Try.pinned (OpenSpec.upto syncFindsSpec)

end Rows
end Go.Proofs.Ytlimdfmnfhlcoaa
