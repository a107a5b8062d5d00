/-
  DERIVED. GIVEN WITH THE SEED: THE CARDS: each row of YtggibajakcigaaaGreatDoorRows.lean that lists a variable, with what it lists TIED to the program's text (the seventh form; the later family's looks); each row that meets fmt, with fmt's text TOLD by the authors' own Lean function (tested against real Go, not proved from fmt's source: count such statements apart). THE CARD IS WHAT COUNTS. Prove the row's statement (the work); the ties are given (YtggibajakcigaaaGreatDoorTie.lean); close each card by the builder's one call (the guide's Derived/Test/ToyasCard.lean, 'card_holds'). Laid BY PROGRAM, IN A SANDBOX (cutbox-door.mjs). By AI agents, Wed Nov 11 2026. No macro, syntax, notation, axiom, sorry.
-/
import Derived.Test.YtggibajakcigaaaGreatDoorRows
import GoSem.ClaimSeven
namespace Go.Proofs.YtggibajakcigaaaGreatDoor
namespace Rows

/-- THE TIED CARD OF 'quoratelaw13.MachineTokens'. -/
def machineTokensCard : Claim7 := { stood := { row := machineTokensRow, standIns := [], harness := (true, "86a8071ede3bba4a50684a25241cb557381dbbe0046a38e1008cf69034f0343b"), looks := true }, kinds := [], alts := [], laidByText := true, laidKinds := [.data, .data, .data, .sentinel, .sentinel, .data, .data], laidTests := true, laidLooks := .later }
def MachineTokensCardSaid : Prop := Claim7.holds Tryz.pinned (.plain (OpenSpec.ofChange machineTokensSpec)) machineTokensCard

/-- THE SECOND FORM's CARD OF 'quoratelaw13.MachineTokens'. -/
def machineTokensUptoCard : Claim7 := { stood := { row := machineTokensUptoRow, standIns := [], harness := (true, "86a8071ede3bba4a50684a25241cb557381dbbe0046a38e1008cf69034f0343b"), looks := true }, kinds := [], alts := [], laidByText := true, laidKinds := [.data, .data, .data, .sentinel, .sentinel, .data, .data], laidTests := true, laidLooks := .later }
def MachineTokensUptoCardSaid : Prop := Claim7.holds Tryz.pinned (.plain (OpenSpec.upto machineTokensSpec)) machineTokensUptoCard
end Rows
end Go.Proofs.YtggibajakcigaaaGreatDoor
