/-
  DERIVED. GIVEN WITH THE SEED: THE CARDS: each row of YtdmfgdhfkceihaaDoorRows.lean that lists a variable, with what it lists TIED to the program's text (the seventh form; the later family's looks); each row that meets fmt, with fmt's text TOLD by the authors' own Lean function (tested against real Go, not proved from fmt's source: count such statements apart). THE CARD IS WHAT COUNTS. Prove the row's statement (the work); the ties are given (YtdmfgdhfkceihaaDoorTie.lean); close each card by the builder's one call (the guide's Derived/Test/ToyasCard.lean, 'card_holds'). Laid BY PROGRAM, IN A SANDBOX (cutbox-door.mjs). By AI agents, Wed Nov 11 2026. No macro, syntax, notation, axiom, sorry.
-/
import Derived.Test.YtdmfgdhfkceihaaDoorRows
import GoSem.ClaimSeven
namespace Go.Proofs.YtdmfgdhfkceihaaDoor
namespace Rows

/-- THE TIED CARD OF 'woolkeep.GammaBack'. -/
def gammaBackCard : Claim7 := { stood := { row := gammaBackRow, standIns := [], harness := (true, "1a52b62cfaff9ad3339c556e51c9737cf5a4e655c938bb76c247f4d149312a72"), looks := false }, kinds := [], alts := [], laidByText := true, laidKinds := [.data, .pinned], laidTests := true, laidLooks := .later }
def GammaBackCardSaid : Prop := Claim7.holds Tryd.pinned (.plain (OpenSpec.ofChange gammaBackSpec)) gammaBackCard

/-- THE TIED CARD OF 'woolkeep.BoxRuns'. -/
def boxRunsCard : Claim7 := { stood := { row := boxRunsRow, standIns := [], harness := (true, "1a52b62cfaff9ad3339c556e51c9737cf5a4e655c938bb76c247f4d149312a72"), looks := false }, kinds := [], alts := [], laidByText := true, laidKinds := [.data, .pinned], laidTests := true, laidLooks := .later }
def BoxRunsCardSaid : Prop := Claim7.holds Tryd.pinned (.plain (OpenSpec.ofChange boxRunsSpec)) boxRunsCard

/-- THE TIED CARD OF 'woolkeep.PackBack'. -/
def packBackCard : Claim7 := { stood := { row := packBackRow, standIns := [], harness := (true, "1a52b62cfaff9ad3339c556e51c9737cf5a4e655c938bb76c247f4d149312a72"), looks := false }, kinds := [], alts := [], laidByText := true, laidKinds := [.data, .pinned], laidTests := true, laidLooks := .later }
def PackBackCardSaid : Prop := Claim7.holds Tryd.pinned (.plain (OpenSpec.ofChange packBackSpec)) packBackCard

/-- THE TIED CARD OF 'woolkeep.PackOne'. -/
def packOneCard : Claim7 := { stood := { row := packOneRow, standIns := [], harness := (true, "1a52b62cfaff9ad3339c556e51c9737cf5a4e655c938bb76c247f4d149312a72"), looks := false }, kinds := [], alts := [], laidByText := true, laidKinds := [.data, .pinned], laidTests := true, laidLooks := .later }
def PackOneCardSaid : Prop := Claim7.holds Tryd.pinned (.plain (OpenSpec.ofChange packOneSpec)) packOneCard

/-- THE TIED CARD OF 'woolkeep.BoxBack'. -/
def boxBackCard : Claim7 := { stood := { row := boxBackRow, standIns := [], harness := (true, "1a52b62cfaff9ad3339c556e51c9737cf5a4e655c938bb76c247f4d149312a72"), looks := false }, kinds := [], alts := [], laidByText := true, laidKinds := [.data, .pinned], laidTests := true, laidLooks := .later }
def BoxBackCardSaid : Prop := Claim7.holds Tryd.pinned (.plain (OpenSpec.ofChange boxBackSpec)) boxBackCard

/-- THE TIED CARD OF 'woolkeep.BoxOne'. -/
def boxOneCard : Claim7 := { stood := { row := boxOneRow, standIns := [], harness := (true, "1a52b62cfaff9ad3339c556e51c9737cf5a4e655c938bb76c247f4d149312a72"), looks := false }, kinds := [], alts := [], laidByText := true, laidKinds := [.data, .pinned], laidTests := true, laidLooks := .later }
def BoxOneCardSaid : Prop := Claim7.holds Tryd.pinned (.plain (OpenSpec.ofChange boxOneSpec)) boxOneCard

/-- THE SECOND FORM's CARD OF 'woolkeep.GammaBack'. -/
def gammaBackUptoCard : Claim7 := { stood := { row := gammaBackUptoRow, standIns := [], harness := (true, "1a52b62cfaff9ad3339c556e51c9737cf5a4e655c938bb76c247f4d149312a72"), looks := false }, kinds := [], alts := [], laidByText := true, laidKinds := [.data, .pinned], laidTests := true, laidLooks := .later }
def GammaBackUptoCardSaid : Prop := Claim7.holds Tryd.pinned (.plain (OpenSpec.upto gammaBackSpec)) gammaBackUptoCard

/-- THE SECOND FORM's CARD OF 'woolkeep.BoxRuns'. -/
def boxRunsUptoCard : Claim7 := { stood := { row := boxRunsUptoRow, standIns := [], harness := (true, "1a52b62cfaff9ad3339c556e51c9737cf5a4e655c938bb76c247f4d149312a72"), looks := false }, kinds := [], alts := [], laidByText := true, laidKinds := [.data, .pinned], laidTests := true, laidLooks := .later }
def BoxRunsUptoCardSaid : Prop := Claim7.holds Tryd.pinned (.plain (OpenSpec.upto boxRunsSpec)) boxRunsUptoCard

/-- THE SECOND FORM's CARD OF 'woolkeep.PackBack'. -/
def packBackUptoCard : Claim7 := { stood := { row := packBackUptoRow, standIns := [], harness := (true, "1a52b62cfaff9ad3339c556e51c9737cf5a4e655c938bb76c247f4d149312a72"), looks := false }, kinds := [], alts := [], laidByText := true, laidKinds := [.data, .pinned], laidTests := true, laidLooks := .later }
def PackBackUptoCardSaid : Prop := Claim7.holds Tryd.pinned (.plain (OpenSpec.upto packBackSpec)) packBackUptoCard

/-- THE SECOND FORM's CARD OF 'woolkeep.PackOne'. -/
def packOneUptoCard : Claim7 := { stood := { row := packOneUptoRow, standIns := [], harness := (true, "1a52b62cfaff9ad3339c556e51c9737cf5a4e655c938bb76c247f4d149312a72"), looks := false }, kinds := [], alts := [], laidByText := true, laidKinds := [.data, .pinned], laidTests := true, laidLooks := .later }
def PackOneUptoCardSaid : Prop := Claim7.holds Tryd.pinned (.plain (OpenSpec.upto packOneSpec)) packOneUptoCard

/-- THE SECOND FORM's CARD OF 'woolkeep.BoxBack'. -/
def boxBackUptoCard : Claim7 := { stood := { row := boxBackUptoRow, standIns := [], harness := (true, "1a52b62cfaff9ad3339c556e51c9737cf5a4e655c938bb76c247f4d149312a72"), looks := false }, kinds := [], alts := [], laidByText := true, laidKinds := [.data, .pinned], laidTests := true, laidLooks := .later }
def BoxBackUptoCardSaid : Prop := Claim7.holds Tryd.pinned (.plain (OpenSpec.upto boxBackSpec)) boxBackUptoCard

/-- THE SECOND FORM's CARD OF 'woolkeep.BoxOne'. -/
def boxOneUptoCard : Claim7 := { stood := { row := boxOneUptoRow, standIns := [], harness := (true, "1a52b62cfaff9ad3339c556e51c9737cf5a4e655c938bb76c247f4d149312a72"), looks := false }, kinds := [], alts := [], laidByText := true, laidKinds := [.data, .pinned], laidTests := true, laidLooks := .later }
def BoxOneUptoCardSaid : Prop := Claim7.holds Tryd.pinned (.plain (OpenSpec.upto boxOneSpec)) boxOneUptoCard
end Rows
end Go.Proofs.YtdmfgdhfkceihaaDoor
