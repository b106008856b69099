/-
  DERIVED. GIVEN WITH THE SEED: THE CARDS: each row of YtmgaibeibfholaaDoorRows.lean that lists a variable, with what it lists TIED to the program's text (the seventh form; the later family's looks); each row that meets fmt, with fmt's text TOLD by the authors' own Lean function (tested against real Go, not proved from fmt's source: count such statements apart). THE CARD IS WHAT COUNTS. Prove the row's statement (the work); the ties are given (YtmgaibeibfholaaDoorTie.lean); close each card by the builder's one call (the guide's Derived/Test/ToyasCard.lean, 'card_holds'). Laid BY PROGRAM, IN A SANDBOX (cutbox-door.mjs). By AI agents, Wed Nov 11 2026. No macro, syntax, notation, axiom, sorry.
-/
import Derived.Test.YtmgaibeibfholaaDoorRows
import GoSem.ClaimSeven
namespace Go.Proofs.YtmgaibeibfholaaDoor
namespace Rows

/-- THE TIED CARD OF 'rhizomelaw09.CheckPrograms'. -/
def checkProgramsCard : Claim7 := { stood := { row := checkProgramsRow, standIns := [], harness := (true, "210e7c01f9eed0e3111d26968fc68abc91d4c773f602594e4b195c5fc7fdd44d"), looks := false }, kinds := [], alts := [], laidByText := true, laidKinds := [.data, .pinned], laidTests := true, laidLooks := .later }
def CheckProgramsCardSaid : Prop := Claim7.holds Tryd.pinned (.plain (OpenSpec.ofChange checkProgramsSpec)) checkProgramsCard

/-- THE TIED CARD OF 'rhizomelaw09.CheckParts'. -/
def checkPartsCard : Claim7 := { stood := { row := checkPartsRow, standIns := [], harness := (true, "210e7c01f9eed0e3111d26968fc68abc91d4c773f602594e4b195c5fc7fdd44d"), looks := false }, kinds := [], alts := [], laidByText := true, laidKinds := [.data, .pinned], laidTests := true, laidLooks := .later }
def CheckPartsCardSaid : Prop := Claim7.holds Tryd.pinned (.plain (OpenSpec.ofChange checkPartsSpec)) checkPartsCard

/-- THE TIED CARD OF 'rhizomelaw09.CheckMany'. -/
def checkManyCard : Claim7 := { stood := { row := checkManyRow, standIns := [], harness := (true, "210e7c01f9eed0e3111d26968fc68abc91d4c773f602594e4b195c5fc7fdd44d"), looks := false }, kinds := [], alts := [], laidByText := true, laidKinds := [.data, .pinned], laidTests := true, laidLooks := .later }
def CheckManyCardSaid : Prop := Claim7.holds Tryd.pinned (.plain (OpenSpec.ofChange checkManySpec)) checkManyCard

/-- THE SECOND FORM's CARD OF 'rhizomelaw09.CheckPrograms'. -/
def checkProgramsUptoCard : Claim7 := { stood := { row := checkProgramsUptoRow, standIns := [], harness := (true, "210e7c01f9eed0e3111d26968fc68abc91d4c773f602594e4b195c5fc7fdd44d"), looks := false }, kinds := [], alts := [], laidByText := true, laidKinds := [.data, .pinned], laidTests := true, laidLooks := .later }
def CheckProgramsUptoCardSaid : Prop := Claim7.holds Tryd.pinned (.plain (OpenSpec.upto checkProgramsSpec)) checkProgramsUptoCard

/-- THE SECOND FORM's CARD OF 'rhizomelaw09.CheckParts'. -/
def checkPartsUptoCard : Claim7 := { stood := { row := checkPartsUptoRow, standIns := [], harness := (true, "210e7c01f9eed0e3111d26968fc68abc91d4c773f602594e4b195c5fc7fdd44d"), looks := false }, kinds := [], alts := [], laidByText := true, laidKinds := [.data, .pinned], laidTests := true, laidLooks := .later }
def CheckPartsUptoCardSaid : Prop := Claim7.holds Tryd.pinned (.plain (OpenSpec.upto checkPartsSpec)) checkPartsUptoCard

/-- THE SECOND FORM's CARD OF 'rhizomelaw09.CheckMany'. -/
def checkManyUptoCard : Claim7 := { stood := { row := checkManyUptoRow, standIns := [], harness := (true, "210e7c01f9eed0e3111d26968fc68abc91d4c773f602594e4b195c5fc7fdd44d"), looks := false }, kinds := [], alts := [], laidByText := true, laidKinds := [.data, .pinned], laidTests := true, laidLooks := .later }
def CheckManyUptoCardSaid : Prop := Claim7.holds Tryd.pinned (.plain (OpenSpec.upto checkManySpec)) checkManyUptoCard
end Rows
end Go.Proofs.YtmgaibeibfholaaDoor
