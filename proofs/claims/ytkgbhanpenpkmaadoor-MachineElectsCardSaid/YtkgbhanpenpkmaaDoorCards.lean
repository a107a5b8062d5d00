/-
  DERIVED. GIVEN WITH THE SEED: THE CARDS: each row of YtkgbhanpenpkmaaDoorRows.lean that lists a variable, with what it lists TIED to the program's text (the seventh form; the later family's looks); each row that meets fmt, with fmt's text TOLD by the authors' own Lean function (tested against real Go, not proved from fmt's source: count such statements apart). THE CARD IS WHAT COUNTS. Prove the row's statement (the work); the ties are given (YtkgbhanpenpkmaaDoorTie.lean); close each card by the builder's one call (the guide's Derived/Test/ToyasCard.lean, 'card_holds'). Laid BY PROGRAM, IN A SANDBOX (cutbox-door.mjs). By AI agents, Wed Nov 11 2026. No macro, syntax, notation, axiom, sorry.
-/
import Derived.Test.YtkgbhanpenpkmaaDoorRows
import GoSem.ClaimSeven
namespace Go.Proofs.YtkgbhanpenpkmaaDoor
namespace Rows

/-- THE TIED CARD OF 'quoratelaw13.MachineCommands'. -/
def machineCommandsCard : Claim7 := { stood := { row := machineCommandsRow, standIns := [], harness := (true, "e640dc242ff0eb1d01da4f41cbeeee11fcaf69ca6db1e00dea01670808ad3c14"), looks := true }, kinds := [], alts := [], laidByText := true, laidKinds := [.data, .data, .data, .sentinel, .sentinel, .data], laidTests := true, laidLooks := .later }
def MachineCommandsCardSaid : Prop := Claim7.holds Tryd.pinned (.plain (OpenSpec.ofChange machineCommandsSpec)) machineCommandsCard

/-- THE TIED CARD OF 'quoratelaw13.MachineBack'. -/
def machineBackCard : Claim7 := { stood := { row := machineBackRow, standIns := [], harness := (true, "e640dc242ff0eb1d01da4f41cbeeee11fcaf69ca6db1e00dea01670808ad3c14"), looks := true }, kinds := [], alts := [], laidByText := true, laidKinds := [.data, .data, .data, .sentinel, .sentinel, .data], laidTests := true, laidLooks := .later }
def MachineBackCardSaid : Prop := Claim7.holds Tryd.pinned (.plain (OpenSpec.ofChange machineBackSpec)) machineBackCard

/-- THE TIED CARD OF 'quoratelaw13.MachineElects'. -/
def machineElectsCard : Claim7 := { stood := { row := machineElectsRow, standIns := [], harness := (true, "e640dc242ff0eb1d01da4f41cbeeee11fcaf69ca6db1e00dea01670808ad3c14"), looks := true }, kinds := [], alts := [], laidByText := true, laidKinds := [.data, .data, .data, .sentinel, .sentinel, .data], laidTests := true, laidLooks := .later }
def MachineElectsCardSaid : Prop := Claim7.holds Tryd.pinned (.plain (OpenSpec.ofChange machineElectsSpec)) machineElectsCard

/-- THE SECOND FORM's CARD OF 'quoratelaw13.MachineCommands'. -/
def machineCommandsUptoCard : Claim7 := { stood := { row := machineCommandsUptoRow, standIns := [], harness := (true, "e640dc242ff0eb1d01da4f41cbeeee11fcaf69ca6db1e00dea01670808ad3c14"), looks := true }, kinds := [], alts := [], laidByText := true, laidKinds := [.data, .data, .data, .sentinel, .sentinel, .data], laidTests := true, laidLooks := .later }
def MachineCommandsUptoCardSaid : Prop := Claim7.holds Tryd.pinned (.plain (OpenSpec.upto machineCommandsSpec)) machineCommandsUptoCard

/-- THE SECOND FORM's CARD OF 'quoratelaw13.MachineBack'. -/
def machineBackUptoCard : Claim7 := { stood := { row := machineBackUptoRow, standIns := [], harness := (true, "e640dc242ff0eb1d01da4f41cbeeee11fcaf69ca6db1e00dea01670808ad3c14"), looks := true }, kinds := [], alts := [], laidByText := true, laidKinds := [.data, .data, .data, .sentinel, .sentinel, .data], laidTests := true, laidLooks := .later }
def MachineBackUptoCardSaid : Prop := Claim7.holds Tryd.pinned (.plain (OpenSpec.upto machineBackSpec)) machineBackUptoCard

/-- THE SECOND FORM's CARD OF 'quoratelaw13.MachineElects'. -/
def machineElectsUptoCard : Claim7 := { stood := { row := machineElectsUptoRow, standIns := [], harness := (true, "e640dc242ff0eb1d01da4f41cbeeee11fcaf69ca6db1e00dea01670808ad3c14"), looks := true }, kinds := [], alts := [], laidByText := true, laidKinds := [.data, .data, .data, .sentinel, .sentinel, .data], laidTests := true, laidLooks := .later }
def MachineElectsUptoCardSaid : Prop := Claim7.holds Tryd.pinned (.plain (OpenSpec.upto machineElectsSpec)) machineElectsUptoCard
end Rows
end Go.Proofs.YtkgbhanpenpkmaaDoor
