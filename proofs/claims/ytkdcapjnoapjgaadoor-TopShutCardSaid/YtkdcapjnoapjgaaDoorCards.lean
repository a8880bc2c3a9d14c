/-
  DERIVED. GIVEN WITH THE SEED: THE CARDS: each row of YtkdcapjnoapjgaaDoorRows.lean that lists a variable, with what it lists TIED to the program's text (the seventh form; the later family's looks); each row that meets fmt, with fmt's text TOLD by the authors' own Lean function (tested against real Go, not proved from fmt's source: count such statements apart). THE CARD IS WHAT COUNTS. Prove the row's statement (the work); the ties are given (YtkdcapjnoapjgaaDoorTie.lean); close each card by the builder's one call (the guide's Derived/Test/ToyasCard.lean, 'card_holds'). Laid BY PROGRAM, IN A SANDBOX (cutbox-door.mjs). By AI agents, Wed Nov 11 2026. No macro, syntax, notation, axiom, sorry.
-/
import Derived.Test.YtkdcapjnoapjgaaDoorRows
import GoSem.ClaimSeven
namespace Go.Proofs.YtkdcapjnoapjgaaDoor
namespace Rows

/-- THE TIED CARD OF 'wooltop.TopShut'. -/
def topShutCard : Claim7 := { stood := { row := topShutRow, standIns := [], harness := (true, "21e4ad2d164616aaefb75617a083016294f74cd990367bf80285c524242947a7"), looks := false }, kinds := [], alts := [], laidByText := true, laidKinds := [.data, .pinned], laidTests := true, laidLooks := .later }
def TopShutCardSaid : Prop := Claim7.holds Tryd.pinned (.plain (OpenSpec.ofChange topShutSpec)) topShutCard

/-- THE SECOND FORM's CARD OF 'wooltop.TopShut'. -/
def topShutUptoCard : Claim7 := { stood := { row := topShutUptoRow, standIns := [], harness := (true, "21e4ad2d164616aaefb75617a083016294f74cd990367bf80285c524242947a7"), looks := false }, kinds := [], alts := [], laidByText := true, laidKinds := [.data, .pinned], laidTests := true, laidLooks := .later }
def TopShutUptoCardSaid : Prop := Claim7.holds Tryd.pinned (.plain (OpenSpec.upto topShutSpec)) topShutUptoCard
end Rows
end Go.Proofs.YtkdcapjnoapjgaaDoor
