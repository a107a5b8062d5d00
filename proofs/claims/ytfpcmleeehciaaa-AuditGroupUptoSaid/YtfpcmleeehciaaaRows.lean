/-
  No cell of these rows narrows 'for every input' (looked for: loops, veiled, ifaces, maps, wideKeys, modest, calm, conditions, laid).
  DERIVED. THE GIVEN ROWS OF THIS SEAT. 3 by the template 'for every input the law returns true; each argument reads behind the call as it read before'; 0 by the template 'total and deterministic' (their statements: YtfpcmleeehciaaaTotals.lean).
  GIVEN WITH THE SEED: the statements are not yours to turn. If you find one false, say at which input.
  Laid BY PROGRAM, IN A SANDBOX (cutbox-rows.mjs): the forced cells as the released guide's own fill.sh prints them over the translation 032806aec758a18d… (all of the seat's roots in one cut). By AI agents, Wed Nov 11 2026. No macro, syntax, notation, axiom, sorry.
-/
import Derived.Test.YtfpcmleeehciaaaChecked
import GoSem.Claim
import GoSem.ClaimJoined
import GoSem.ClaimMapViews
import Derived.JoinedTies
import Derived.KernelRfl
namespace Go.Proofs.Ytfpcmleeehciaaa
/- THE CELL 'sum', in the pinned program and in every row, IS THE sha256 OF THE DUMP (.gsa) THAT YtfpcmleeehciaaaProg.lean LOADS. Nothing in Lean hashes anything: it is a label: what it is worth is what the hold of that sum in a sandbox is worth. -/
noncomputable def Try.pinned : Pinned := { name := "ytfpcmleeehciaaa", sum := "032806aec758a18d934ba265debb5e384b881439f849633b2a962c42528c5d65", checked := Try.checked }
namespace Rows
def none {H : Type} : Left H := { results := [], args := [] }

/-- 'quoratelaw17.AuditGroup': WHATEVER THE INPUT: true; the input reads as it did. -/
def auditGroupSpec : ChangeSpec := { name := "auditGroup", fn := fun _ => fun
  | [d] => { results := [.lit (.bool true)], args := [d] }
  | _ => none }
def auditGroupRow : OpenClaim := { program := "ytfpcmleeehciaaa", sum := "032806aec758a18d934ba265debb5e384b881439f849633b2a962c42528c5d65", func := "quorate/quoratelaw17.AuditGroup", spec := "auditGroup", unfollowed := true, recurses := true, plainKeys := false, apart := false }
def AuditGroupSaid : Prop := auditGroupRow.holds Try.pinned (OpenSpec.ofChange auditGroupSpec)

/-- ITS FALSE NEIGHBOUR: 'it returns false'. Refute it at one input. -/
def auditGroupWrong : ChangeSpec := { name := "auditGroup", fn := fun _ => fun
  | [d] => { results := [.lit (.bool false)], args := [d] }
  | _ => none }
def AuditGroupWrongFalsely : Prop := auditGroupRow.holds Try.pinned (OpenSpec.ofChange auditGroupWrong)

/-- 'quoratelaw17.AuditFirst': WHATEVER THE INPUT: true; the input reads as it did. -/
def auditFirstSpec : ChangeSpec := { name := "auditFirst", fn := fun _ => fun
  | [d] => { results := [.lit (.bool true)], args := [d] }
  | _ => none }
def auditFirstRow : OpenClaim := { program := "ytfpcmleeehciaaa", sum := "032806aec758a18d934ba265debb5e384b881439f849633b2a962c42528c5d65", func := "quorate/quoratelaw17.AuditFirst", spec := "auditFirst", unfollowed := true, recurses := true, plainKeys := false, apart := false }
def AuditFirstSaid : Prop := auditFirstRow.holds Try.pinned (OpenSpec.ofChange auditFirstSpec)

/-- ITS FALSE NEIGHBOUR: 'it returns false'. Refute it at one input. -/
def auditFirstWrong : ChangeSpec := { name := "auditFirst", fn := fun _ => fun
  | [d] => { results := [.lit (.bool false)], args := [d] }
  | _ => none }
def AuditFirstWrongFalsely : Prop := auditFirstRow.holds Try.pinned (OpenSpec.ofChange auditFirstWrong)

/-- 'quoratelaw17.AuditHistory': WHATEVER THE INPUT: true; the input reads as it did. -/
def auditHistorySpec : ChangeSpec := { name := "auditHistory", fn := fun _ => fun
  | [d] => { results := [.lit (.bool true)], args := [d] }
  | _ => none }
def auditHistoryRow : OpenClaim := { program := "ytfpcmleeehciaaa", sum := "032806aec758a18d934ba265debb5e384b881439f849633b2a962c42528c5d65", func := "quorate/quoratelaw17.AuditHistory", spec := "auditHistory", recurses := true, plainKeys := false, apart := false }
def AuditHistorySaid : Prop := auditHistoryRow.holds Try.pinned (OpenSpec.ofChange auditHistorySpec)

/-- ITS FALSE NEIGHBOUR: 'it returns false'. Refute it at one input. -/
def auditHistoryWrong : ChangeSpec := { name := "auditHistory", fn := fun _ => fun
  | [d] => { results := [.lit (.bool false)], args := [d] }
  | _ => none }
def AuditHistoryWrongFalsely : Prop := auditHistoryRow.holds Try.pinned (OpenSpec.ofChange auditHistoryWrong)

/- THE SECOND FORM. 'bulk': how many values and letters a reading holds, each counted each time it is reached (what is shared counts as often as it is met; a slice's spare places count too). A statement '..UptoSaid' is the law's where the arguments, and the package variables that the reading takes, are together of bulk at most 1048576: NARROWER than '..Said'. Prove '..Said' where nothing that the law and all that it calls make is longer than what came in: it says more and counts as full. Else prove '..UptoSaid'. A law counts once. -/
mutual
def uptoBulk {H : Type} : DataW H → Nat
  | .lit (.string bytes) => bytes.length + 1
  | .lit _ => 1
  | .nil => 1
  | .ptr d => uptoBulk d + 1
  | .slice elems spare => uptoBulkAll elems + uptoBulkAll spare + 1
  | .agg parts => uptoBulkAll parts + 1
  | .iface _ d => uptoBulk d + 1
  | .map entries => uptoBulkEntries entries + 1
  | .held _ => 1
def uptoBulkAll {H : Type} : List (DataW H) → Nat
  | [] => 0
  | d :: r => uptoBulk d + uptoBulkAll r
def uptoBulkEntries {H : Type} : List (Lit × DataW H) → Nat
  | [] => 0
  | x :: r => uptoBulkEntry x + uptoBulkEntries r
def uptoBulkEntry {H : Type} : Lit × DataW H → Nat
  | (.string bytes, d) => bytes.length + uptoBulk d + 1
  | (_, d) => uptoBulk d + 1
 end
def uptoSmall : (H : Type) → List (DataW H) → Bool := fun _ ds => decide (uptoBulkAll ds ≤ 1048576)
def OpenSpec.upto (s : _root_.Go.ChangeSpec) : _root_.Go.OpenSpec := { _root_.Go.OpenSpec.ofChange s with cond := some uptoSmall }

/-- 'quoratelaw17.AuditGroup', WHERE WHAT IT READS IS OF BULK AT MOST 1048576: true; the input reads as it did. -/
def auditGroupUptoRow : OpenClaim := { program := "ytfpcmleeehciaaa", sum := "032806aec758a18d934ba265debb5e384b881439f849633b2a962c42528c5d65", func := "quorate/quoratelaw17.AuditGroup", spec := "auditGroup", unfollowed := true, recurses := true, plainKeys := false, apart := false, narrowed := true }
def AuditGroupUptoSaid : Prop := auditGroupUptoRow.holds Try.pinned (OpenSpec.upto auditGroupSpec)

/-- 'quoratelaw17.AuditFirst', WHERE WHAT IT READS IS OF BULK AT MOST 1048576: true; the input reads as it did. -/
def auditFirstUptoRow : OpenClaim := { program := "ytfpcmleeehciaaa", sum := "032806aec758a18d934ba265debb5e384b881439f849633b2a962c42528c5d65", func := "quorate/quoratelaw17.AuditFirst", spec := "auditFirst", unfollowed := true, recurses := true, plainKeys := false, apart := false, narrowed := true }
def AuditFirstUptoSaid : Prop := auditFirstUptoRow.holds Try.pinned (OpenSpec.upto auditFirstSpec)

/-- 'quoratelaw17.AuditHistory', WHERE WHAT IT READS IS OF BULK AT MOST 1048576: true; the input reads as it did. -/
def auditHistoryUptoRow : OpenClaim := { program := "ytfpcmleeehciaaa", sum := "032806aec758a18d934ba265debb5e384b881439f849633b2a962c42528c5d65", func := "quorate/quoratelaw17.AuditHistory", spec := "auditHistory", recurses := true, plainKeys := false, apart := false, narrowed := true }
def AuditHistoryUptoSaid : Prop := auditHistoryUptoRow.holds Try.pinned (OpenSpec.upto auditHistorySpec)

end Rows
end Go.Proofs.Ytfpcmleeehciaaa
