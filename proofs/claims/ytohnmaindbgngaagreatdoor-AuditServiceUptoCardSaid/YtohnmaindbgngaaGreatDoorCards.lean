/-
  DERIVED. GIVEN WITH THE SEED: THE CARDS: each row of YtohnmaindbgngaaGreatDoorRows.lean that lists a variable, with what it lists TIED to the program's text (the seventh form; the later family's looks); each row that meets fmt, with fmt's text TOLD by the authors' own Lean function (tested against real Go, not proved from fmt's source: count such statements apart). THE CARD IS WHAT COUNTS. Prove the row's statement (the work); the ties are given (YtohnmaindbgngaaGreatDoorTie.lean); close each card by the builder's one call (the guide's Derived/Test/ToyasCard.lean, 'card_holds'). Laid BY PROGRAM, IN A SANDBOX (cutbox-door.mjs). By AI agents, Wed Nov 11 2026. No macro, syntax, notation, axiom, sorry.
-/
import Derived.Test.YtohnmaindbgngaaGreatDoorRows
import GoSem.ClaimSeven
namespace Go.Proofs.YtohnmaindbgngaaGreatDoor
namespace Rows

/-- THE TIED CARD OF 'quoratelaw17.AuditService'. -/
def auditServiceCard : Claim7 := { stood := { row := auditServiceRow, standIns := [], harness := (true, "04fdcf75f0a41c85722ca63d6efa46d948f66233f16fc92567a954aee1439e24"), looks := true }, kinds := [], alts := [], laidByText := true, laidKinds := [.data, .data, .data, .sentinel, .sentinel, .data], laidTests := true, laidLooks := .later }
def AuditServiceCardSaid : Prop := Claim7.holds Tryz.pinned (.plain (OpenSpec.ofChange auditServiceSpec)) auditServiceCard

/-- THE TIED CARD OF 'quoratelaw17.AuditServiceFirst'. -/
def auditServiceFirstCard : Claim7 := { stood := { row := auditServiceFirstRow, standIns := [], harness := (true, "04fdcf75f0a41c85722ca63d6efa46d948f66233f16fc92567a954aee1439e24"), looks := true }, kinds := [], alts := [], laidByText := true, laidKinds := [.data, .data, .data, .sentinel, .sentinel, .data], laidTests := true, laidLooks := .later }
def AuditServiceFirstCardSaid : Prop := Claim7.holds Tryz.pinned (.plain (OpenSpec.ofChange auditServiceFirstSpec)) auditServiceFirstCard

/-- THE TIED CARD OF 'quoratelaw17.AuditSerial'. -/
def auditSerialCard : Claim7 := { stood := { row := auditSerialRow, standIns := [], harness := (true, "04fdcf75f0a41c85722ca63d6efa46d948f66233f16fc92567a954aee1439e24"), looks := true }, kinds := [], alts := [], laidByText := true, laidKinds := [.data, .data, .data, .sentinel, .sentinel, .data], laidTests := true, laidLooks := .later }
def AuditSerialCardSaid : Prop := Claim7.holds Tryz.pinned (.plain (OpenSpec.ofChange auditSerialSpec)) auditSerialCard

/-- THE SECOND FORM's CARD OF 'quoratelaw17.AuditService'. -/
def auditServiceUptoCard : Claim7 := { stood := { row := auditServiceUptoRow, standIns := [], harness := (true, "04fdcf75f0a41c85722ca63d6efa46d948f66233f16fc92567a954aee1439e24"), looks := true }, kinds := [], alts := [], laidByText := true, laidKinds := [.data, .data, .data, .sentinel, .sentinel, .data], laidTests := true, laidLooks := .later }
def AuditServiceUptoCardSaid : Prop := Claim7.holds Tryz.pinned (.plain (OpenSpec.upto auditServiceSpec)) auditServiceUptoCard

/-- THE SECOND FORM's CARD OF 'quoratelaw17.AuditServiceFirst'. -/
def auditServiceFirstUptoCard : Claim7 := { stood := { row := auditServiceFirstUptoRow, standIns := [], harness := (true, "04fdcf75f0a41c85722ca63d6efa46d948f66233f16fc92567a954aee1439e24"), looks := true }, kinds := [], alts := [], laidByText := true, laidKinds := [.data, .data, .data, .sentinel, .sentinel, .data], laidTests := true, laidLooks := .later }
def AuditServiceFirstUptoCardSaid : Prop := Claim7.holds Tryz.pinned (.plain (OpenSpec.upto auditServiceFirstSpec)) auditServiceFirstUptoCard

/-- THE SECOND FORM's CARD OF 'quoratelaw17.AuditSerial'. -/
def auditSerialUptoCard : Claim7 := { stood := { row := auditSerialUptoRow, standIns := [], harness := (true, "04fdcf75f0a41c85722ca63d6efa46d948f66233f16fc92567a954aee1439e24"), looks := true }, kinds := [], alts := [], laidByText := true, laidKinds := [.data, .data, .data, .sentinel, .sentinel, .data], laidTests := true, laidLooks := .later }
def AuditSerialUptoCardSaid : Prop := Claim7.holds Tryz.pinned (.plain (OpenSpec.upto auditSerialSpec)) auditSerialUptoCard
end Rows
end Go.Proofs.YtohnmaindbgngaaGreatDoor
