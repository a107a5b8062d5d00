/-
  DERIVED. GIVEN WITH THE SEED: THE CARDS: each row of YtlibhkehebioeaaGreatDoorRows.lean that lists a variable, with what it lists TIED to the program's text (the seventh form; the later family's looks); each row that meets fmt, with fmt's text TOLD by the authors' own Lean function (tested against real Go, not proved from fmt's source: count such statements apart). THE CARD IS WHAT COUNTS. Prove the row's statement (the work); the ties are given (YtlibhkehebioeaaGreatDoorTie.lean); close each card by the builder's one call (the guide's Derived/Test/ToyasCard.lean, 'card_holds'). Laid BY PROGRAM, IN A SANDBOX (cutbox-door.mjs). By AI agents, Wed Nov 11 2026. No macro, syntax, notation, axiom, sorry.
-/
import Derived.Test.YtlibhkehebioeaaGreatDoorRows
import GoSem.ClaimSeven
namespace Go.Proofs.YtlibhkehebioeaaGreatDoor
namespace Rows

/-- THE TIED CARD OF 'quoratelaw13.MachineApplies'. -/
def machineAppliesCard : Claim7 := { stood := { row := machineAppliesRow, standIns := [], harness := (true, "8784688898cd57419de3cd3d4d58114786b031fe9d4efabc407d161d1a4965e3"), looks := true }, kinds := [], alts := [], laidByText := true, laidKinds := [.data, .data, .data, .sentinel, .sentinel, .data, .data], laidTests := true, laidLooks := .later }
def MachineAppliesCardSaid : Prop := Claim7.holds Tryz.pinned (.plain (OpenSpec.ofChange machineAppliesSpec)) machineAppliesCard

/-- THE TIED CARD OF 'quoratelaw13.MachineKeys'. -/
def machineKeysCard : Claim7 := { stood := { row := machineKeysRow, standIns := [], harness := (true, "8784688898cd57419de3cd3d4d58114786b031fe9d4efabc407d161d1a4965e3"), looks := true }, kinds := [], alts := [], laidByText := true, laidKinds := [.data, .data, .data, .sentinel, .sentinel, .data, .data], laidTests := true, laidLooks := .later }
def MachineKeysCardSaid : Prop := Claim7.holds Tryz.pinned (.plain (OpenSpec.ofChange machineKeysSpec)) machineKeysCard

/-- THE TIED CARD OF 'quoratelaw13.MachineLocks'. -/
def machineLocksCard : Claim7 := { stood := { row := machineLocksRow, standIns := [], harness := (true, "8784688898cd57419de3cd3d4d58114786b031fe9d4efabc407d161d1a4965e3"), looks := true }, kinds := [], alts := [], laidByText := true, laidKinds := [.data, .data, .data, .sentinel, .sentinel, .data, .data], laidTests := true, laidLooks := .later }
def MachineLocksCardSaid : Prop := Claim7.holds Tryz.pinned (.plain (OpenSpec.ofChange machineLocksSpec)) machineLocksCard

/-- THE TIED CARD OF 'quoratelaw13.MachineSessions'. -/
def machineSessionsCard : Claim7 := { stood := { row := machineSessionsRow, standIns := [], harness := (true, "8784688898cd57419de3cd3d4d58114786b031fe9d4efabc407d161d1a4965e3"), looks := true }, kinds := [], alts := [], laidByText := true, laidKinds := [.data, .data, .data, .sentinel, .sentinel, .data, .data], laidTests := true, laidLooks := .later }
def MachineSessionsCardSaid : Prop := Claim7.holds Tryz.pinned (.plain (OpenSpec.ofChange machineSessionsSpec)) machineSessionsCard

/-- THE TIED CARD OF 'quoratelaw13.MachineSnapshots'. -/
def machineSnapshotsCard : Claim7 := { stood := { row := machineSnapshotsRow, standIns := [], harness := (true, "8784688898cd57419de3cd3d4d58114786b031fe9d4efabc407d161d1a4965e3"), looks := true }, kinds := [], alts := [], laidByText := true, laidKinds := [.data, .data, .data, .sentinel, .sentinel, .data, .data], laidTests := true, laidLooks := .later }
def MachineSnapshotsCardSaid : Prop := Claim7.holds Tryz.pinned (.plain (OpenSpec.ofChange machineSnapshotsSpec)) machineSnapshotsCard

/-- THE TIED CARD OF 'quoratelaw13.MachineAll'. -/
def machineAllCard : Claim7 := { stood := { row := machineAllRow, standIns := [], harness := (true, "8784688898cd57419de3cd3d4d58114786b031fe9d4efabc407d161d1a4965e3"), looks := true }, kinds := [], alts := [], laidByText := true, laidKinds := [.data, .data, .data, .sentinel, .sentinel, .data, .data], laidTests := true, laidLooks := .later }
def MachineAllCardSaid : Prop := Claim7.holds Tryz.pinned (.plain (OpenSpec.ofChange machineAllSpec)) machineAllCard

/-- THE TIED CARD OF 'quoratelaw13.MachineOnce'. -/
def machineOnceCard : Claim7 := { stood := { row := machineOnceRow, standIns := [], harness := (true, "8784688898cd57419de3cd3d4d58114786b031fe9d4efabc407d161d1a4965e3"), looks := true }, kinds := [], alts := [], laidByText := true, laidKinds := [.data, .data, .data, .sentinel, .sentinel, .data, .data], laidTests := true, laidLooks := .later }
def MachineOnceCardSaid : Prop := Claim7.holds Tryz.pinned (.plain (OpenSpec.ofChange machineOnceSpec)) machineOnceCard

/-- THE TIED CARD OF 'quoratelaw13.MachineTokens'. -/
def machineTokensCard : Claim7 := { stood := { row := machineTokensRow, standIns := [], harness := (true, "8784688898cd57419de3cd3d4d58114786b031fe9d4efabc407d161d1a4965e3"), looks := true }, kinds := [], alts := [], laidByText := true, laidKinds := [.data, .data, .data, .sentinel, .sentinel, .data, .data], laidTests := true, laidLooks := .later }
def MachineTokensCardSaid : Prop := Claim7.holds Tryz.pinned (.plain (OpenSpec.ofChange machineTokensSpec)) machineTokensCard

/-- THE TIED CARD OF 'quoratelaw13.MachineSame'. -/
def machineSameCard : Claim7 := { stood := { row := machineSameRow, standIns := [], harness := (true, "8784688898cd57419de3cd3d4d58114786b031fe9d4efabc407d161d1a4965e3"), looks := true }, kinds := [], alts := [], laidByText := true, laidKinds := [.data, .data, .data, .sentinel, .sentinel, .data, .data], laidTests := true, laidLooks := .later }
def MachineSameCardSaid : Prop := Claim7.holds Tryz.pinned (.plain (OpenSpec.ofChange machineSameSpec)) machineSameCard

/-- THE TIED CARD OF 'quoratelaw13.MachineFrame'. -/
def machineFrameCard : Claim7 := { stood := { row := machineFrameRow, standIns := [], harness := (true, "8784688898cd57419de3cd3d4d58114786b031fe9d4efabc407d161d1a4965e3"), looks := true }, kinds := [], alts := [], laidByText := true, laidKinds := [.data, .data, .data, .sentinel, .sentinel, .data, .data], laidTests := true, laidLooks := .later }
def MachineFrameCardSaid : Prop := Claim7.holds Tryz.pinned (.plain (OpenSpec.ofChange machineFrameSpec)) machineFrameCard

/-- THE SECOND FORM's CARD OF 'quoratelaw13.MachineApplies'. -/
def machineAppliesUptoCard : Claim7 := { stood := { row := machineAppliesUptoRow, standIns := [], harness := (true, "8784688898cd57419de3cd3d4d58114786b031fe9d4efabc407d161d1a4965e3"), looks := true }, kinds := [], alts := [], laidByText := true, laidKinds := [.data, .data, .data, .sentinel, .sentinel, .data, .data], laidTests := true, laidLooks := .later }
def MachineAppliesUptoCardSaid : Prop := Claim7.holds Tryz.pinned (.plain (OpenSpec.upto machineAppliesSpec)) machineAppliesUptoCard

/-- THE SECOND FORM's CARD OF 'quoratelaw13.MachineKeys'. -/
def machineKeysUptoCard : Claim7 := { stood := { row := machineKeysUptoRow, standIns := [], harness := (true, "8784688898cd57419de3cd3d4d58114786b031fe9d4efabc407d161d1a4965e3"), looks := true }, kinds := [], alts := [], laidByText := true, laidKinds := [.data, .data, .data, .sentinel, .sentinel, .data, .data], laidTests := true, laidLooks := .later }
def MachineKeysUptoCardSaid : Prop := Claim7.holds Tryz.pinned (.plain (OpenSpec.upto machineKeysSpec)) machineKeysUptoCard

/-- THE SECOND FORM's CARD OF 'quoratelaw13.MachineLocks'. -/
def machineLocksUptoCard : Claim7 := { stood := { row := machineLocksUptoRow, standIns := [], harness := (true, "8784688898cd57419de3cd3d4d58114786b031fe9d4efabc407d161d1a4965e3"), looks := true }, kinds := [], alts := [], laidByText := true, laidKinds := [.data, .data, .data, .sentinel, .sentinel, .data, .data], laidTests := true, laidLooks := .later }
def MachineLocksUptoCardSaid : Prop := Claim7.holds Tryz.pinned (.plain (OpenSpec.upto machineLocksSpec)) machineLocksUptoCard

/-- THE SECOND FORM's CARD OF 'quoratelaw13.MachineSessions'. -/
def machineSessionsUptoCard : Claim7 := { stood := { row := machineSessionsUptoRow, standIns := [], harness := (true, "8784688898cd57419de3cd3d4d58114786b031fe9d4efabc407d161d1a4965e3"), looks := true }, kinds := [], alts := [], laidByText := true, laidKinds := [.data, .data, .data, .sentinel, .sentinel, .data, .data], laidTests := true, laidLooks := .later }
def MachineSessionsUptoCardSaid : Prop := Claim7.holds Tryz.pinned (.plain (OpenSpec.upto machineSessionsSpec)) machineSessionsUptoCard

/-- THE SECOND FORM's CARD OF 'quoratelaw13.MachineSnapshots'. -/
def machineSnapshotsUptoCard : Claim7 := { stood := { row := machineSnapshotsUptoRow, standIns := [], harness := (true, "8784688898cd57419de3cd3d4d58114786b031fe9d4efabc407d161d1a4965e3"), looks := true }, kinds := [], alts := [], laidByText := true, laidKinds := [.data, .data, .data, .sentinel, .sentinel, .data, .data], laidTests := true, laidLooks := .later }
def MachineSnapshotsUptoCardSaid : Prop := Claim7.holds Tryz.pinned (.plain (OpenSpec.upto machineSnapshotsSpec)) machineSnapshotsUptoCard

/-- THE SECOND FORM's CARD OF 'quoratelaw13.MachineAll'. -/
def machineAllUptoCard : Claim7 := { stood := { row := machineAllUptoRow, standIns := [], harness := (true, "8784688898cd57419de3cd3d4d58114786b031fe9d4efabc407d161d1a4965e3"), looks := true }, kinds := [], alts := [], laidByText := true, laidKinds := [.data, .data, .data, .sentinel, .sentinel, .data, .data], laidTests := true, laidLooks := .later }
def MachineAllUptoCardSaid : Prop := Claim7.holds Tryz.pinned (.plain (OpenSpec.upto machineAllSpec)) machineAllUptoCard

/-- THE SECOND FORM's CARD OF 'quoratelaw13.MachineOnce'. -/
def machineOnceUptoCard : Claim7 := { stood := { row := machineOnceUptoRow, standIns := [], harness := (true, "8784688898cd57419de3cd3d4d58114786b031fe9d4efabc407d161d1a4965e3"), looks := true }, kinds := [], alts := [], laidByText := true, laidKinds := [.data, .data, .data, .sentinel, .sentinel, .data, .data], laidTests := true, laidLooks := .later }
def MachineOnceUptoCardSaid : Prop := Claim7.holds Tryz.pinned (.plain (OpenSpec.upto machineOnceSpec)) machineOnceUptoCard

/-- THE SECOND FORM's CARD OF 'quoratelaw13.MachineTokens'. -/
def machineTokensUptoCard : Claim7 := { stood := { row := machineTokensUptoRow, standIns := [], harness := (true, "8784688898cd57419de3cd3d4d58114786b031fe9d4efabc407d161d1a4965e3"), looks := true }, kinds := [], alts := [], laidByText := true, laidKinds := [.data, .data, .data, .sentinel, .sentinel, .data, .data], laidTests := true, laidLooks := .later }
def MachineTokensUptoCardSaid : Prop := Claim7.holds Tryz.pinned (.plain (OpenSpec.upto machineTokensSpec)) machineTokensUptoCard

/-- THE SECOND FORM's CARD OF 'quoratelaw13.MachineSame'. -/
def machineSameUptoCard : Claim7 := { stood := { row := machineSameUptoRow, standIns := [], harness := (true, "8784688898cd57419de3cd3d4d58114786b031fe9d4efabc407d161d1a4965e3"), looks := true }, kinds := [], alts := [], laidByText := true, laidKinds := [.data, .data, .data, .sentinel, .sentinel, .data, .data], laidTests := true, laidLooks := .later }
def MachineSameUptoCardSaid : Prop := Claim7.holds Tryz.pinned (.plain (OpenSpec.upto machineSameSpec)) machineSameUptoCard

/-- THE SECOND FORM's CARD OF 'quoratelaw13.MachineFrame'. -/
def machineFrameUptoCard : Claim7 := { stood := { row := machineFrameUptoRow, standIns := [], harness := (true, "8784688898cd57419de3cd3d4d58114786b031fe9d4efabc407d161d1a4965e3"), looks := true }, kinds := [], alts := [], laidByText := true, laidKinds := [.data, .data, .data, .sentinel, .sentinel, .data, .data], laidTests := true, laidLooks := .later }
def MachineFrameUptoCardSaid : Prop := Claim7.holds Tryz.pinned (.plain (OpenSpec.upto machineFrameSpec)) machineFrameUptoCard
end Rows
end Go.Proofs.YtlibhkehebioeaaGreatDoor
