/-
  No cell of these rows narrows 'for every input' (looked for: loops, veiled, ifaces, maps, wideKeys, modest, calm, conditions, laid).
  DERIVED. THE GIVEN ROWS OF THIS SEAT. 4 by the template 'for every input the law returns true; each argument reads behind the call as it read before'; 0 by the template 'total and deterministic' (their statements: YtkgdgamlmanobaaTotals.lean).
  GIVEN WITH THE SEED: the statements are not yours to turn. If you find one false, say at which input.
  Laid BY PROGRAM, IN A SANDBOX (cutbox-rows.mjs): the forced cells as the released guide's own fill.sh prints them over the translation c7b516b6280b1292… (all of the seat's roots in one cut). By AI agents, Wed Nov 11 2026. No macro, syntax, notation, axiom, sorry.
-/
import Derived.Test.YtkgdgamlmanobaaChecked
import GoSem.Claim
import GoSem.ClaimJoined
import GoSem.ClaimMapViews
import Derived.JoinedTies
import Derived.KernelRfl
namespace Go.Proofs.Ytkgdgamlmanobaa
/- THE CELL 'sum', in the pinned program and in every row, IS THE sha256 OF THE DUMP (.gsa) THAT YtkgdgamlmanobaaProg.lean LOADS. Nothing in Lean hashes anything: it is a label: what it is worth is what the hold of that sum in a sandbox is worth. -/
noncomputable def Try.pinned : Pinned := { name := "ytkgdgamlmanobaa", sum := "c7b516b6280b12921a9b0270cbeb5ca5febeea6066ea707b0a0249f4c2723dda", checked := Try.checked }
namespace Rows
def none {H : Type} : Left H := { results := [], args := [] }

/-- 'woolkeep.MatchIs': WHATEVER THE INPUT: true; the input reads as it did. -/
def matchIsSpec : ChangeSpec := { name := "matchIs", fn := fun _ => fun
  | [d1, d2, d3, d4, d5] => { results := [.lit (.bool true)], args := [d1, d2, d3, d4, d5] }
  | _ => none }
def matchIsRow : OpenClaim := { program := "ytkgdgamlmanobaa", sum := "c7b516b6280b12921a9b0270cbeb5ca5febeea6066ea707b0a0249f4c2723dda", func := "woolsack/woolkeep.MatchIs", spec := "matchIs", apart := false }
def MatchIsSaid : Prop := matchIsRow.holds Try.pinned (OpenSpec.ofChange matchIsSpec)

/-- ITS FALSE NEIGHBOUR: 'it returns false'. Refute it at one input. -/
def matchIsWrong : ChangeSpec := { name := "matchIs", fn := fun _ => fun
  | [d1, d2, d3, d4, d5] => { results := [.lit (.bool false)], args := [d1, d2, d3, d4, d5] }
  | _ => none }
def MatchIsWrongFalsely : Prop := matchIsRow.holds Try.pinned (OpenSpec.ofChange matchIsWrong)

/-- 'woolkeep.MatchGrows': WHATEVER THE INPUT: true; the input reads as it did. -/
def matchGrowsSpec : ChangeSpec := { name := "matchGrows", fn := fun _ => fun
  | [d1, d2, d3, d4] => { results := [.lit (.bool true)], args := [d1, d2, d3, d4] }
  | _ => none }
def matchGrowsRow : OpenClaim := { program := "ytkgdgamlmanobaa", sum := "c7b516b6280b12921a9b0270cbeb5ca5febeea6066ea707b0a0249f4c2723dda", func := "woolsack/woolkeep.MatchGrows", spec := "matchGrows", apart := false }
def MatchGrowsSaid : Prop := matchGrowsRow.holds Try.pinned (OpenSpec.ofChange matchGrowsSpec)

/-- ITS FALSE NEIGHBOUR: 'it returns false'. Refute it at one input. -/
def matchGrowsWrong : ChangeSpec := { name := "matchGrows", fn := fun _ => fun
  | [d1, d2, d3, d4] => { results := [.lit (.bool false)], args := [d1, d2, d3, d4] }
  | _ => none }
def MatchGrowsWrongFalsely : Prop := matchGrowsRow.holds Try.pinned (OpenSpec.ofChange matchGrowsWrong)

/-- 'woolkeep.MatchFirst': WHATEVER THE INPUT: true; the input reads as it did. -/
def matchFirstSpec : ChangeSpec := { name := "matchFirst", fn := fun _ => fun
  | [d1, d2, d3] => { results := [.lit (.bool true)], args := [d1, d2, d3] }
  | _ => none }
def matchFirstRow : OpenClaim := { program := "ytkgdgamlmanobaa", sum := "c7b516b6280b12921a9b0270cbeb5ca5febeea6066ea707b0a0249f4c2723dda", func := "woolsack/woolkeep.MatchFirst", spec := "matchFirst", inPlace := ["internal/bytealg.IndexByteString"], apart := false }
def MatchFirstSaid : Prop := matchFirstRow.holds Try.pinned (OpenSpec.ofChange matchFirstSpec)

/-- ITS FALSE NEIGHBOUR: 'it returns false'. Refute it at one input. -/
def matchFirstWrong : ChangeSpec := { name := "matchFirst", fn := fun _ => fun
  | [d1, d2, d3] => { results := [.lit (.bool false)], args := [d1, d2, d3] }
  | _ => none }
def MatchFirstWrongFalsely : Prop := matchFirstRow.holds Try.pinned (OpenSpec.ofChange matchFirstWrong)

/-- 'woolkeep.PolyRing': WHATEVER THE INPUT: true; the input reads as it did. -/
def polyRingSpec : ChangeSpec := { name := "polyRing", fn := fun _ => fun
  | [d1, d2, d3] => { results := [.lit (.bool true)], args := [d1, d2, d3] }
  | _ => none }
def polyRingRow : OpenClaim := { program := "ytkgdgamlmanobaa", sum := "c7b516b6280b12921a9b0270cbeb5ca5febeea6066ea707b0a0249f4c2723dda", func := "woolsack/woolkeep.PolyRing", spec := "polyRing", apart := false }
def PolyRingSaid : Prop := polyRingRow.holds Try.pinned (OpenSpec.ofChange polyRingSpec)

/-- ITS FALSE NEIGHBOUR: 'it returns false'. Refute it at one input. -/
def polyRingWrong : ChangeSpec := { name := "polyRing", fn := fun _ => fun
  | [d1, d2, d3] => { results := [.lit (.bool false)], args := [d1, d2, d3] }
  | _ => none }
def PolyRingWrongFalsely : Prop := polyRingRow.holds Try.pinned (OpenSpec.ofChange polyRingWrong)

/- THE SECOND FORM. 'bulk': how many values and letters a reading holds, each counted each time it is reached (what is shared counts as often as it is met; a slice's spare places count too). A statement '..UptoSaid' is the law's where the arguments, and the package variables that the reading takes, are together of bulk at most 1048576: NARROWER than '..Said'. Prove '..Said' where nothing that the law and all that it calls make is longer than what came in: it says more and counts as full. Else prove '..UptoSaid'. A law counts once. -/
mutual
def uptoBulk {H : Type} : DataW H → Nat
  | .lit (.string bytes) => bytes.length + 1
  | .lit _ => 1
  | .nil => 1
  | .ptr d => uptoBulk d + 1
  | .slice elems spare => uptoBulkAll elems + uptoBulkAll spare + 1
  | .agg parts => uptoBulkAll parts + 1
  | .iface _ d => uptoBulk d + 1
  | .map entries => uptoBulkEntries entries + 1
  | .held _ => 1
def uptoBulkAll {H : Type} : List (DataW H) → Nat
  | [] => 0
  | d :: r => uptoBulk d + uptoBulkAll r
def uptoBulkEntries {H : Type} : List (Lit × DataW H) → Nat
  | [] => 0
  | x :: r => uptoBulkEntry x + uptoBulkEntries r
def uptoBulkEntry {H : Type} : Lit × DataW H → Nat
  | (.string bytes, d) => bytes.length + uptoBulk d + 1
  | (_, d) => uptoBulk d + 1
 end
def uptoSmall : (H : Type) → List (DataW H) → Bool := fun _ ds => decide (uptoBulkAll ds ≤ 1048576)
def OpenSpec.upto (s : _root_.Go.ChangeSpec) : _root_.Go.OpenSpec := { _root_.Go.OpenSpec.ofChange s with cond := some uptoSmall }

/-- 'woolkeep.MatchIs', WHERE WHAT IT READS IS OF BULK AT MOST 1048576: true; the input reads as it did. -/
def matchIsUptoRow : OpenClaim := { program := "ytkgdgamlmanobaa", sum := "c7b516b6280b12921a9b0270cbeb5ca5febeea6066ea707b0a0249f4c2723dda", func := "woolsack/woolkeep.MatchIs", spec := "matchIs", apart := false, narrowed := true }
def MatchIsUptoSaid : Prop := matchIsUptoRow.holds Try.pinned (OpenSpec.upto matchIsSpec)

/-- 'woolkeep.MatchGrows', WHERE WHAT IT READS IS OF BULK AT MOST 1048576: true; the input reads as it did. -/
def matchGrowsUptoRow : OpenClaim := { program := "ytkgdgamlmanobaa", sum := "c7b516b6280b12921a9b0270cbeb5ca5febeea6066ea707b0a0249f4c2723dda", func := "woolsack/woolkeep.MatchGrows", spec := "matchGrows", apart := false, narrowed := true }
def MatchGrowsUptoSaid : Prop := matchGrowsUptoRow.holds Try.pinned (OpenSpec.upto matchGrowsSpec)

/-- 'woolkeep.MatchFirst', WHERE WHAT IT READS IS OF BULK AT MOST 1048576: true; the input reads as it did. -/
def matchFirstUptoRow : OpenClaim := { program := "ytkgdgamlmanobaa", sum := "c7b516b6280b12921a9b0270cbeb5ca5febeea6066ea707b0a0249f4c2723dda", func := "woolsack/woolkeep.MatchFirst", spec := "matchFirst", inPlace := ["internal/bytealg.IndexByteString"], apart := false, narrowed := true }
def MatchFirstUptoSaid : Prop := matchFirstUptoRow.holds Try.pinned (OpenSpec.upto matchFirstSpec)

/-- 'woolkeep.PolyRing', WHERE WHAT IT READS IS OF BULK AT MOST 1048576: true; the input reads as it did. -/
def polyRingUptoRow : OpenClaim := { program := "ytkgdgamlmanobaa", sum := "c7b516b6280b12921a9b0270cbeb5ca5febeea6066ea707b0a0249f4c2723dda", func := "woolsack/woolkeep.PolyRing", spec := "polyRing", apart := false, narrowed := true }
def PolyRingUptoSaid : Prop := polyRingUptoRow.holds Try.pinned (OpenSpec.upto polyRingSpec)

end Rows
end Go.Proofs.Ytkgdgamlmanobaa
