/-
  DERIVED. GIVEN WITH THE SEED: THE CARDS: each row of YtioinjcdkmiafaaDoorRows.lean that lists a variable, with what it lists TIED to the program's text (the seventh form; the later family's looks); each row that meets fmt, with fmt's text TOLD by the authors' own Lean function (tested against real Go, not proved from fmt's source: count such statements apart). THE CARD IS WHAT COUNTS. Prove the row's statement (the work); the ties are given (YtioinjcdkmiafaaDoorTie.lean); close each card by the builder's one call (the guide's Derived/Test/ToyasCard.lean, 'card_holds'). Laid BY PROGRAM, IN A SANDBOX (cutbox-door.mjs). By AI agents, Wed Nov 11 2026. No macro, syntax, notation, axiom, sorry.
-/
import Derived.Test.YtioinjcdkmiafaaDoorRows
import GoSem.ClaimSeven
namespace Go.Proofs.YtioinjcdkmiafaaDoor
namespace Rows

/-- THE TIED CARD OF 'quoratelaw14.ReplicaPromise'. -/
def replicaPromiseCard : Claim7 := { stood := { row := replicaPromiseRow, standIns := [], harness := (true, "e8d9bc2b80f6aa53d19b1462466e06c0e3a65aaf093abd0c3f84556a50e610f3"), looks := true }, kinds := [], alts := [], laidByText := true, laidKinds := [.data, .data, .data, .sentinel, .sentinel, .data, .data], laidTests := true, laidLooks := .later }
def ReplicaPromiseCardSaid : Prop := Claim7.holds Tryd.pinned (.plain (OpenSpec.ofChange replicaPromiseSpec)) replicaPromiseCard

/-- THE SECOND FORM's CARD OF 'quoratelaw14.ReplicaPromise'. -/
def replicaPromiseUptoCard : Claim7 := { stood := { row := replicaPromiseUptoRow, standIns := [], harness := (true, "e8d9bc2b80f6aa53d19b1462466e06c0e3a65aaf093abd0c3f84556a50e610f3"), looks := true }, kinds := [], alts := [], laidByText := true, laidKinds := [.data, .data, .data, .sentinel, .sentinel, .data, .data], laidTests := true, laidLooks := .later }
def ReplicaPromiseUptoCardSaid : Prop := Claim7.holds Tryd.pinned (.plain (OpenSpec.upto replicaPromiseSpec)) replicaPromiseUptoCard
end Rows
end Go.Proofs.YtioinjcdkmiafaaDoor
