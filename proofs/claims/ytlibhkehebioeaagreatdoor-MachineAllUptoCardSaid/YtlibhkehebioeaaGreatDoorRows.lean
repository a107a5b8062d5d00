/-
  NARROWER THAN 'FOR EVERY INPUT', by the rows' own cells (each row's printed sentence says how): MachineApplies: laid · MachineKeys: laid · MachineLocks: laid · MachineSessions: laid · MachineSnapshots: laid · MachineAll: laid · MachineOnce: laid · MachineTokens: laid · MachineSame: laid · MachineFrame: laid.
  DERIVED. THE GIVEN ROWS OF THIS SEAT. 10 by the template 'for every input the law returns true; each argument reads behind the call as it read before'; 0 by the template 'total and deterministic' (their statements: YtlibhkehebioeaaGreatDoorTotals.lean).
  GIVEN WITH THE SEED: the statements are not yours to turn. If you find one false, say at which input.
  Laid BY PROGRAM, IN A SANDBOX (cutbox-rows.mjs): the forced cells as the released guide's own fill.sh prints them over the translation 2339291ed867b30a… (all of the seat's roots in one cut). By AI agents, Wed Nov 11 2026. No macro, syntax, notation, axiom, sorry.
-/
import Derived.Test.YtlibhkehebioeaaGreatDoorChecked
import GoSem.Claim
import GoSem.ClaimJoined
import GoSem.ClaimMapViews
import Derived.JoinedTies
import Derived.KernelRfl
namespace Go.Proofs.YtlibhkehebioeaaGreatDoor
/- THE CELL 'sum', in the pinned program and in every row, IS THE sha256 OF THE DUMP (.gsa) THAT YtlibhkehebioeaaGreatDoorProg.lean LOADS. Nothing in Lean hashes anything: it is a label: what it is worth is what the hold of that sum in a sandbox is worth. -/
noncomputable def Tryz.pinned : Pinned := { name := "ytlibhkehebioeaagreatdoor", sum := "2339291ed867b30ad82607be5faefbcc2d3c0fda6d0f064e99fa94859340bc35", checked := Tryz.checked }
namespace Rows
def none {H : Type} : Left H := { results := [], args := [] }

/- WHAT THE LISTED PACKAGE-LEVEL VARIABLES READ AS WHEN THE CALL BEGINS. Each datum BY PROGRAM (the guide's laid-datum.mjs) off the statement by which the dump's own 'gosem.cut.vars' lays the variable. In a bare row this is a premise. The card (YtlibhkehebioeaaGreatDoorCards.lean) ties it to the program's text. -/
def laid_math_bits_deBruijn32tab {H : Type} : DataW H := .agg [.lit (.int .u8 0), .lit (.int .u8 1), .lit (.int .u8 28), .lit (.int .u8 2), .lit (.int .u8 29), .lit (.int .u8 14), .lit (.int .u8 24), .lit (.int .u8 3), .lit (.int .u8 30), .lit (.int .u8 22), .lit (.int .u8 20), .lit (.int .u8 15), .lit (.int .u8 25), .lit (.int .u8 17), .lit (.int .u8 4), .lit (.int .u8 8), .lit (.int .u8 31), .lit (.int .u8 27), .lit (.int .u8 13), .lit (.int .u8 23), .lit (.int .u8 21), .lit (.int .u8 19), .lit (.int .u8 16), .lit (.int .u8 7), .lit (.int .u8 26), .lit (.int .u8 12), .lit (.int .u8 18), .lit (.int .u8 6), .lit (.int .u8 11), .lit (.int .u8 5), .lit (.int .u8 10), .lit (.int .u8 9)]
def laid_math_bits_deBruijn64tab {H : Type} : DataW H := .agg [.lit (.int .u8 0), .lit (.int .u8 1), .lit (.int .u8 56), .lit (.int .u8 2), .lit (.int .u8 57), .lit (.int .u8 49), .lit (.int .u8 28), .lit (.int .u8 3), .lit (.int .u8 61), .lit (.int .u8 58), .lit (.int .u8 42), .lit (.int .u8 50), .lit (.int .u8 38), .lit (.int .u8 29), .lit (.int .u8 17), .lit (.int .u8 4), .lit (.int .u8 62), .lit (.int .u8 47), .lit (.int .u8 59), .lit (.int .u8 36), .lit (.int .u8 45), .lit (.int .u8 43), .lit (.int .u8 51), .lit (.int .u8 22), .lit (.int .u8 53), .lit (.int .u8 39), .lit (.int .u8 33), .lit (.int .u8 30), .lit (.int .u8 24), .lit (.int .u8 18), .lit (.int .u8 12), .lit (.int .u8 5), .lit (.int .u8 63), .lit (.int .u8 55), .lit (.int .u8 48), .lit (.int .u8 27), .lit (.int .u8 60), .lit (.int .u8 41), .lit (.int .u8 37), .lit (.int .u8 16), .lit (.int .u8 46), .lit (.int .u8 35), .lit (.int .u8 44), .lit (.int .u8 21), .lit (.int .u8 52), .lit (.int .u8 32), .lit (.int .u8 23), .lit (.int .u8 11), .lit (.int .u8 54), .lit (.int .u8 26), .lit (.int .u8 40), .lit (.int .u8 15), .lit (.int .u8 34), .lit (.int .u8 20), .lit (.int .u8 31), .lit (.int .u8 10), .lit (.int .u8 25), .lit (.int .u8 14), .lit (.int .u8 19), .lit (.int .u8 9), .lit (.int .u8 13), .lit (.int .u8 8), .lit (.int .u8 7), .lit (.int .u8 6)]
def laid_internal_strconv_uint64pow10 {H : Type} : DataW H := .agg [.lit (.int .u64 1), .lit (.int .u64 10), .lit (.int .u64 100), .lit (.int .u64 1000), .lit (.int .u64 10000), .lit (.int .u64 100000), .lit (.int .u64 1000000), .lit (.int .u64 10000000), .lit (.int .u64 100000000), .lit (.int .u64 1000000000), .lit (.int .u64 10000000000), .lit (.int .u64 100000000000), .lit (.int .u64 1000000000000), .lit (.int .u64 10000000000000), .lit (.int .u64 100000000000000), .lit (.int .u64 1000000000000000), .lit (.int .u64 10000000000000000), .lit (.int .u64 100000000000000000), .lit (.int .u64 1000000000000000000), .lit (.int .u64 10000000000000000000)]
def laid_strconv_ErrRange {H : Type} : DataW H := .iface "*errors.errorString" (.ptr (.agg [.lit (.string [118, 97, 108, 117, 101, 32, 111, 117, 116, 32, 111, 102, 32, 114, 97, 110, 103, 101])]))
def laid_strconv_ErrSyntax {H : Type} : DataW H := .iface "*errors.errorString" (.ptr (.agg [.lit (.string [105, 110, 118, 97, 108, 105, 100, 32, 115, 121, 110, 116, 97, 120])]))
def laid_quorate_wire_nibble {H : Type} : DataW H := .agg [.lit (.int .u32 0), .lit (.int .u32 498536548), .lit (.int .u32 997073096), .lit (.int .u32 651767980), .lit (.int .u32 1994146192), .lit (.int .u32 1802195444), .lit (.int .u32 1303535960), .lit (.int .u32 1342533948), .lit (.int .u32 3988292384), .lit (.int .u32 4027552580), .lit (.int .u32 3604390888), .lit (.int .u32 3412177804), .lit (.int .u32 2607071920), .lit (.int .u32 2262029012), .lit (.int .u32 2685067896), .lit (.int .u32 3183342108)]
def laid_quorate_machine_shapes {H : Type} : DataW H := .agg [.lit (.int .i64 0), .lit (.int .i64 3), .lit (.int .i64 1), .lit (.int .i64 7), .lit (.int .i64 1), .lit (.int .i64 9), .lit (.int .i64 1), .lit (.int .i64 1), .lit (.int .i64 17), .lit (.int .i64 32)]

/-- 'quoratelaw13.MachineApplies': WHATEVER THE INPUT: true; the input reads as it did. -/
def machineAppliesSpec : ChangeSpec := { name := "machineApplies", fn := fun _ => fun
  | [d] => { results := [.lit (.bool true)], args := [d] }
  | _ => none }
def machineAppliesRow : OpenClaim := { program := "ytlibhkehebioeaagreatdoor", sum := "2339291ed867b30ad82607be5faefbcc2d3c0fda6d0f064e99fa94859340bc35", func := "quorate/quoratelaw13.MachineApplies", spec := "machineApplies", unfollowed := true, recurses := true, named := ["internal/strconv.uint64pow10", "math/bits.deBruijn32tab", "math/bits.deBruijn64tab", "quorate/wire.nibble", "quorate/machine.shapes", "strconv.ErrSyntax", "strconv.ErrRange"], apart := false, laid := [("math/bits.deBruijn32tab", laid_math_bits_deBruijn32tab), ("math/bits.deBruijn64tab", laid_math_bits_deBruijn64tab), ("internal/strconv.uint64pow10", laid_internal_strconv_uint64pow10), ("strconv.ErrRange", laid_strconv_ErrRange), ("strconv.ErrSyntax", laid_strconv_ErrSyntax), ("quorate/wire.nibble", laid_quorate_wire_nibble), ("quorate/machine.shapes", laid_quorate_machine_shapes)] }
def MachineAppliesSaid : Prop := machineAppliesRow.holds Tryz.pinned (OpenSpec.ofChange machineAppliesSpec)

/-- ITS FALSE NEIGHBOUR: 'it returns false'. Refute it at one input. -/
def machineAppliesWrong : ChangeSpec := { name := "machineApplies", fn := fun _ => fun
  | [d] => { results := [.lit (.bool false)], args := [d] }
  | _ => none }
def MachineAppliesWrongFalsely : Prop := machineAppliesRow.holds Tryz.pinned (OpenSpec.ofChange machineAppliesWrong)

/-- 'quoratelaw13.MachineKeys': WHATEVER THE INPUT: true; the input reads as it did. -/
def machineKeysSpec : ChangeSpec := { name := "machineKeys", fn := fun _ => fun
  | [d] => { results := [.lit (.bool true)], args := [d] }
  | _ => none }
def machineKeysRow : OpenClaim := { program := "ytlibhkehebioeaagreatdoor", sum := "2339291ed867b30ad82607be5faefbcc2d3c0fda6d0f064e99fa94859340bc35", func := "quorate/quoratelaw13.MachineKeys", spec := "machineKeys", unfollowed := true, recurses := true, named := ["internal/strconv.uint64pow10", "math/bits.deBruijn32tab", "math/bits.deBruijn64tab", "quorate/wire.nibble", "quorate/machine.shapes", "strconv.ErrSyntax", "strconv.ErrRange"], apart := false, laid := [("math/bits.deBruijn32tab", laid_math_bits_deBruijn32tab), ("math/bits.deBruijn64tab", laid_math_bits_deBruijn64tab), ("internal/strconv.uint64pow10", laid_internal_strconv_uint64pow10), ("strconv.ErrRange", laid_strconv_ErrRange), ("strconv.ErrSyntax", laid_strconv_ErrSyntax), ("quorate/wire.nibble", laid_quorate_wire_nibble), ("quorate/machine.shapes", laid_quorate_machine_shapes)] }
def MachineKeysSaid : Prop := machineKeysRow.holds Tryz.pinned (OpenSpec.ofChange machineKeysSpec)

/-- ITS FALSE NEIGHBOUR: 'it returns false'. Refute it at one input. -/
def machineKeysWrong : ChangeSpec := { name := "machineKeys", fn := fun _ => fun
  | [d] => { results := [.lit (.bool false)], args := [d] }
  | _ => none }
def MachineKeysWrongFalsely : Prop := machineKeysRow.holds Tryz.pinned (OpenSpec.ofChange machineKeysWrong)

/-- 'quoratelaw13.MachineLocks': WHATEVER THE INPUT: true; the input reads as it did. -/
def machineLocksSpec : ChangeSpec := { name := "machineLocks", fn := fun _ => fun
  | [d] => { results := [.lit (.bool true)], args := [d] }
  | _ => none }
def machineLocksRow : OpenClaim := { program := "ytlibhkehebioeaagreatdoor", sum := "2339291ed867b30ad82607be5faefbcc2d3c0fda6d0f064e99fa94859340bc35", func := "quorate/quoratelaw13.MachineLocks", spec := "machineLocks", unfollowed := true, recurses := true, named := ["internal/strconv.uint64pow10", "math/bits.deBruijn32tab", "math/bits.deBruijn64tab", "quorate/wire.nibble", "quorate/machine.shapes", "strconv.ErrSyntax", "strconv.ErrRange"], apart := false, laid := [("math/bits.deBruijn32tab", laid_math_bits_deBruijn32tab), ("math/bits.deBruijn64tab", laid_math_bits_deBruijn64tab), ("internal/strconv.uint64pow10", laid_internal_strconv_uint64pow10), ("strconv.ErrRange", laid_strconv_ErrRange), ("strconv.ErrSyntax", laid_strconv_ErrSyntax), ("quorate/wire.nibble", laid_quorate_wire_nibble), ("quorate/machine.shapes", laid_quorate_machine_shapes)] }
def MachineLocksSaid : Prop := machineLocksRow.holds Tryz.pinned (OpenSpec.ofChange machineLocksSpec)

/-- ITS FALSE NEIGHBOUR: 'it returns false'. Refute it at one input. -/
def machineLocksWrong : ChangeSpec := { name := "machineLocks", fn := fun _ => fun
  | [d] => { results := [.lit (.bool false)], args := [d] }
  | _ => none }
def MachineLocksWrongFalsely : Prop := machineLocksRow.holds Tryz.pinned (OpenSpec.ofChange machineLocksWrong)

/-- 'quoratelaw13.MachineSessions': WHATEVER THE INPUT: true; the input reads as it did. -/
def machineSessionsSpec : ChangeSpec := { name := "machineSessions", fn := fun _ => fun
  | [d] => { results := [.lit (.bool true)], args := [d] }
  | _ => none }
def machineSessionsRow : OpenClaim := { program := "ytlibhkehebioeaagreatdoor", sum := "2339291ed867b30ad82607be5faefbcc2d3c0fda6d0f064e99fa94859340bc35", func := "quorate/quoratelaw13.MachineSessions", spec := "machineSessions", unfollowed := true, recurses := true, named := ["internal/strconv.uint64pow10", "math/bits.deBruijn32tab", "math/bits.deBruijn64tab", "quorate/wire.nibble", "quorate/machine.shapes", "strconv.ErrSyntax", "strconv.ErrRange"], apart := false, laid := [("math/bits.deBruijn32tab", laid_math_bits_deBruijn32tab), ("math/bits.deBruijn64tab", laid_math_bits_deBruijn64tab), ("internal/strconv.uint64pow10", laid_internal_strconv_uint64pow10), ("strconv.ErrRange", laid_strconv_ErrRange), ("strconv.ErrSyntax", laid_strconv_ErrSyntax), ("quorate/wire.nibble", laid_quorate_wire_nibble), ("quorate/machine.shapes", laid_quorate_machine_shapes)] }
def MachineSessionsSaid : Prop := machineSessionsRow.holds Tryz.pinned (OpenSpec.ofChange machineSessionsSpec)

/-- ITS FALSE NEIGHBOUR: 'it returns false'. Refute it at one input. -/
def machineSessionsWrong : ChangeSpec := { name := "machineSessions", fn := fun _ => fun
  | [d] => { results := [.lit (.bool false)], args := [d] }
  | _ => none }
def MachineSessionsWrongFalsely : Prop := machineSessionsRow.holds Tryz.pinned (OpenSpec.ofChange machineSessionsWrong)

/-- 'quoratelaw13.MachineSnapshots': WHATEVER THE INPUT: true; the input reads as it did. -/
def machineSnapshotsSpec : ChangeSpec := { name := "machineSnapshots", fn := fun _ => fun
  | [d] => { results := [.lit (.bool true)], args := [d] }
  | _ => none }
def machineSnapshotsRow : OpenClaim := { program := "ytlibhkehebioeaagreatdoor", sum := "2339291ed867b30ad82607be5faefbcc2d3c0fda6d0f064e99fa94859340bc35", func := "quorate/quoratelaw13.MachineSnapshots", spec := "machineSnapshots", unfollowed := true, recurses := true, named := ["internal/strconv.uint64pow10", "math/bits.deBruijn32tab", "math/bits.deBruijn64tab", "quorate/wire.nibble", "quorate/machine.shapes", "strconv.ErrSyntax", "strconv.ErrRange"], apart := false, laid := [("math/bits.deBruijn32tab", laid_math_bits_deBruijn32tab), ("math/bits.deBruijn64tab", laid_math_bits_deBruijn64tab), ("internal/strconv.uint64pow10", laid_internal_strconv_uint64pow10), ("strconv.ErrRange", laid_strconv_ErrRange), ("strconv.ErrSyntax", laid_strconv_ErrSyntax), ("quorate/wire.nibble", laid_quorate_wire_nibble), ("quorate/machine.shapes", laid_quorate_machine_shapes)] }
def MachineSnapshotsSaid : Prop := machineSnapshotsRow.holds Tryz.pinned (OpenSpec.ofChange machineSnapshotsSpec)

/-- ITS FALSE NEIGHBOUR: 'it returns false'. Refute it at one input. -/
def machineSnapshotsWrong : ChangeSpec := { name := "machineSnapshots", fn := fun _ => fun
  | [d] => { results := [.lit (.bool false)], args := [d] }
  | _ => none }
def MachineSnapshotsWrongFalsely : Prop := machineSnapshotsRow.holds Tryz.pinned (OpenSpec.ofChange machineSnapshotsWrong)

/-- 'quoratelaw13.MachineAll': WHATEVER THE INPUT: true; the input reads as it did. -/
def machineAllSpec : ChangeSpec := { name := "machineAll", fn := fun _ => fun
  | [d] => { results := [.lit (.bool true)], args := [d] }
  | _ => none }
def machineAllRow : OpenClaim := { program := "ytlibhkehebioeaagreatdoor", sum := "2339291ed867b30ad82607be5faefbcc2d3c0fda6d0f064e99fa94859340bc35", func := "quorate/quoratelaw13.MachineAll", spec := "machineAll", unfollowed := true, recurses := true, named := ["internal/strconv.uint64pow10", "math/bits.deBruijn32tab", "math/bits.deBruijn64tab", "quorate/wire.nibble", "quorate/machine.shapes", "strconv.ErrSyntax", "strconv.ErrRange"], apart := false, laid := [("math/bits.deBruijn32tab", laid_math_bits_deBruijn32tab), ("math/bits.deBruijn64tab", laid_math_bits_deBruijn64tab), ("internal/strconv.uint64pow10", laid_internal_strconv_uint64pow10), ("strconv.ErrRange", laid_strconv_ErrRange), ("strconv.ErrSyntax", laid_strconv_ErrSyntax), ("quorate/wire.nibble", laid_quorate_wire_nibble), ("quorate/machine.shapes", laid_quorate_machine_shapes)] }
def MachineAllSaid : Prop := machineAllRow.holds Tryz.pinned (OpenSpec.ofChange machineAllSpec)

/-- ITS FALSE NEIGHBOUR: 'it returns false'. Refute it at one input. -/
def machineAllWrong : ChangeSpec := { name := "machineAll", fn := fun _ => fun
  | [d] => { results := [.lit (.bool false)], args := [d] }
  | _ => none }
def MachineAllWrongFalsely : Prop := machineAllRow.holds Tryz.pinned (OpenSpec.ofChange machineAllWrong)

/-- 'quoratelaw13.MachineOnce': WHATEVER THE INPUT: true; the input reads as it did. -/
def machineOnceSpec : ChangeSpec := { name := "machineOnce", fn := fun _ => fun
  | [d] => { results := [.lit (.bool true)], args := [d] }
  | _ => none }
def machineOnceRow : OpenClaim := { program := "ytlibhkehebioeaagreatdoor", sum := "2339291ed867b30ad82607be5faefbcc2d3c0fda6d0f064e99fa94859340bc35", func := "quorate/quoratelaw13.MachineOnce", spec := "machineOnce", unfollowed := true, recurses := true, named := ["quorate/machine.shapes", "strconv.ErrSyntax", "strconv.ErrRange", "internal/strconv.uint64pow10", "math/bits.deBruijn32tab", "math/bits.deBruijn64tab", "quorate/wire.nibble"], apart := false, laid := [("math/bits.deBruijn32tab", laid_math_bits_deBruijn32tab), ("math/bits.deBruijn64tab", laid_math_bits_deBruijn64tab), ("internal/strconv.uint64pow10", laid_internal_strconv_uint64pow10), ("strconv.ErrRange", laid_strconv_ErrRange), ("strconv.ErrSyntax", laid_strconv_ErrSyntax), ("quorate/wire.nibble", laid_quorate_wire_nibble), ("quorate/machine.shapes", laid_quorate_machine_shapes)] }
def MachineOnceSaid : Prop := machineOnceRow.holds Tryz.pinned (OpenSpec.ofChange machineOnceSpec)

/-- ITS FALSE NEIGHBOUR: 'it returns false'. Refute it at one input. -/
def machineOnceWrong : ChangeSpec := { name := "machineOnce", fn := fun _ => fun
  | [d] => { results := [.lit (.bool false)], args := [d] }
  | _ => none }
def MachineOnceWrongFalsely : Prop := machineOnceRow.holds Tryz.pinned (OpenSpec.ofChange machineOnceWrong)

/-- 'quoratelaw13.MachineTokens': WHATEVER THE INPUT: true; the input reads as it did. -/
def machineTokensSpec : ChangeSpec := { name := "machineTokens", fn := fun _ => fun
  | [d] => { results := [.lit (.bool true)], args := [d] }
  | _ => none }
def machineTokensRow : OpenClaim := { program := "ytlibhkehebioeaagreatdoor", sum := "2339291ed867b30ad82607be5faefbcc2d3c0fda6d0f064e99fa94859340bc35", func := "quorate/quoratelaw13.MachineTokens", spec := "machineTokens", unfollowed := true, recurses := true, named := ["quorate/machine.shapes", "strconv.ErrSyntax", "strconv.ErrRange", "internal/strconv.uint64pow10", "math/bits.deBruijn32tab", "math/bits.deBruijn64tab", "quorate/wire.nibble"], apart := false, laid := [("math/bits.deBruijn32tab", laid_math_bits_deBruijn32tab), ("math/bits.deBruijn64tab", laid_math_bits_deBruijn64tab), ("internal/strconv.uint64pow10", laid_internal_strconv_uint64pow10), ("strconv.ErrRange", laid_strconv_ErrRange), ("strconv.ErrSyntax", laid_strconv_ErrSyntax), ("quorate/wire.nibble", laid_quorate_wire_nibble), ("quorate/machine.shapes", laid_quorate_machine_shapes)] }
def MachineTokensSaid : Prop := machineTokensRow.holds Tryz.pinned (OpenSpec.ofChange machineTokensSpec)

/-- ITS FALSE NEIGHBOUR: 'it returns false'. Refute it at one input. -/
def machineTokensWrong : ChangeSpec := { name := "machineTokens", fn := fun _ => fun
  | [d] => { results := [.lit (.bool false)], args := [d] }
  | _ => none }
def MachineTokensWrongFalsely : Prop := machineTokensRow.holds Tryz.pinned (OpenSpec.ofChange machineTokensWrong)

/-- 'quoratelaw13.MachineSame': WHATEVER THE INPUT: true; the input reads as it did. -/
def machineSameSpec : ChangeSpec := { name := "machineSame", fn := fun _ => fun
  | [d1, d2] => { results := [.lit (.bool true)], args := [d1, d2] }
  | _ => none }
def machineSameRow : OpenClaim := { program := "ytlibhkehebioeaagreatdoor", sum := "2339291ed867b30ad82607be5faefbcc2d3c0fda6d0f064e99fa94859340bc35", func := "quorate/quoratelaw13.MachineSame", spec := "machineSame", unfollowed := true, recurses := true, named := ["quorate/machine.shapes", "strconv.ErrSyntax", "strconv.ErrRange", "internal/strconv.uint64pow10", "math/bits.deBruijn32tab", "math/bits.deBruijn64tab", "quorate/wire.nibble"], apart := false, laid := [("math/bits.deBruijn32tab", laid_math_bits_deBruijn32tab), ("math/bits.deBruijn64tab", laid_math_bits_deBruijn64tab), ("internal/strconv.uint64pow10", laid_internal_strconv_uint64pow10), ("strconv.ErrRange", laid_strconv_ErrRange), ("strconv.ErrSyntax", laid_strconv_ErrSyntax), ("quorate/wire.nibble", laid_quorate_wire_nibble), ("quorate/machine.shapes", laid_quorate_machine_shapes)] }
def MachineSameSaid : Prop := machineSameRow.holds Tryz.pinned (OpenSpec.ofChange machineSameSpec)

/-- ITS FALSE NEIGHBOUR: 'it returns false'. Refute it at one input. -/
def machineSameWrong : ChangeSpec := { name := "machineSame", fn := fun _ => fun
  | [d1, d2] => { results := [.lit (.bool false)], args := [d1, d2] }
  | _ => none }
def MachineSameWrongFalsely : Prop := machineSameRow.holds Tryz.pinned (OpenSpec.ofChange machineSameWrong)

/-- 'quoratelaw13.MachineFrame': WHATEVER THE INPUT: true; the input reads as it did. -/
def machineFrameSpec : ChangeSpec := { name := "machineFrame", fn := fun _ => fun
  | [d] => { results := [.lit (.bool true)], args := [d] }
  | _ => none }
def machineFrameRow : OpenClaim := { program := "ytlibhkehebioeaagreatdoor", sum := "2339291ed867b30ad82607be5faefbcc2d3c0fda6d0f064e99fa94859340bc35", func := "quorate/quoratelaw13.MachineFrame", spec := "machineFrame", unfollowed := true, recurses := true, named := ["quorate/machine.shapes", "strconv.ErrSyntax", "strconv.ErrRange", "internal/strconv.uint64pow10", "math/bits.deBruijn32tab", "math/bits.deBruijn64tab", "quorate/wire.nibble"], apart := false, laid := [("math/bits.deBruijn32tab", laid_math_bits_deBruijn32tab), ("math/bits.deBruijn64tab", laid_math_bits_deBruijn64tab), ("internal/strconv.uint64pow10", laid_internal_strconv_uint64pow10), ("strconv.ErrRange", laid_strconv_ErrRange), ("strconv.ErrSyntax", laid_strconv_ErrSyntax), ("quorate/wire.nibble", laid_quorate_wire_nibble), ("quorate/machine.shapes", laid_quorate_machine_shapes)] }
def MachineFrameSaid : Prop := machineFrameRow.holds Tryz.pinned (OpenSpec.ofChange machineFrameSpec)

/-- ITS FALSE NEIGHBOUR: 'it returns false'. Refute it at one input. -/
def machineFrameWrong : ChangeSpec := { name := "machineFrame", fn := fun _ => fun
  | [d] => { results := [.lit (.bool false)], args := [d] }
  | _ => none }
def MachineFrameWrongFalsely : Prop := machineFrameRow.holds Tryz.pinned (OpenSpec.ofChange machineFrameWrong)

/- THE SECOND FORM. 'bulk': how many values and letters a reading holds, each counted each time it is reached (what is shared counts as often as it is met; a slice's spare places count too). A statement '..UptoSaid' is the law's where the arguments, and the package variables that the reading takes, are together of bulk at most 1048576: NARROWER than '..Said'. Prove '..Said' where nothing that the law and all that it calls make is longer than what came in: it says more and counts as full. Else prove '..UptoSaid'. A law counts once. -/
mutual
def uptoBulk {H : Type} : DataW H → Nat
  | .lit (.string bytes) => bytes.length + 1
  | .lit _ => 1
  | .nil => 1
  | .ptr d => uptoBulk d + 1
  | .slice elems spare => uptoBulkAll elems + uptoBulkAll spare + 1
  | .agg parts => uptoBulkAll parts + 1
  | .iface _ d => uptoBulk d + 1
  | .map entries => uptoBulkEntries entries + 1
  | .held _ => 1
def uptoBulkAll {H : Type} : List (DataW H) → Nat
  | [] => 0
  | d :: r => uptoBulk d + uptoBulkAll r
def uptoBulkEntries {H : Type} : List (Lit × DataW H) → Nat
  | [] => 0
  | x :: r => uptoBulkEntry x + uptoBulkEntries r
def uptoBulkEntry {H : Type} : Lit × DataW H → Nat
  | (.string bytes, d) => bytes.length + uptoBulk d + 1
  | (_, d) => uptoBulk d + 1
 end
def uptoSmall : (H : Type) → List (DataW H) → Bool := fun _ ds => decide (uptoBulkAll ds ≤ 1048576)
def OpenSpec.upto (s : _root_.Go.ChangeSpec) : _root_.Go.OpenSpec := { _root_.Go.OpenSpec.ofChange s with cond := some uptoSmall }

/-- 'quoratelaw13.MachineApplies', WHERE WHAT IT READS IS OF BULK AT MOST 1048576: true; the input reads as it did. -/
def machineAppliesUptoRow : OpenClaim := { program := "ytlibhkehebioeaagreatdoor", sum := "2339291ed867b30ad82607be5faefbcc2d3c0fda6d0f064e99fa94859340bc35", func := "quorate/quoratelaw13.MachineApplies", spec := "machineApplies", unfollowed := true, recurses := true, named := ["internal/strconv.uint64pow10", "math/bits.deBruijn32tab", "math/bits.deBruijn64tab", "quorate/wire.nibble", "quorate/machine.shapes", "strconv.ErrSyntax", "strconv.ErrRange"], apart := false, laid := [("math/bits.deBruijn32tab", laid_math_bits_deBruijn32tab), ("math/bits.deBruijn64tab", laid_math_bits_deBruijn64tab), ("internal/strconv.uint64pow10", laid_internal_strconv_uint64pow10), ("strconv.ErrRange", laid_strconv_ErrRange), ("strconv.ErrSyntax", laid_strconv_ErrSyntax), ("quorate/wire.nibble", laid_quorate_wire_nibble), ("quorate/machine.shapes", laid_quorate_machine_shapes)], narrowed := true }
def MachineAppliesUptoSaid : Prop := machineAppliesUptoRow.holds Tryz.pinned (OpenSpec.upto machineAppliesSpec)

/-- 'quoratelaw13.MachineKeys', WHERE WHAT IT READS IS OF BULK AT MOST 1048576: true; the input reads as it did. -/
def machineKeysUptoRow : OpenClaim := { program := "ytlibhkehebioeaagreatdoor", sum := "2339291ed867b30ad82607be5faefbcc2d3c0fda6d0f064e99fa94859340bc35", func := "quorate/quoratelaw13.MachineKeys", spec := "machineKeys", unfollowed := true, recurses := true, named := ["internal/strconv.uint64pow10", "math/bits.deBruijn32tab", "math/bits.deBruijn64tab", "quorate/wire.nibble", "quorate/machine.shapes", "strconv.ErrSyntax", "strconv.ErrRange"], apart := false, laid := [("math/bits.deBruijn32tab", laid_math_bits_deBruijn32tab), ("math/bits.deBruijn64tab", laid_math_bits_deBruijn64tab), ("internal/strconv.uint64pow10", laid_internal_strconv_uint64pow10), ("strconv.ErrRange", laid_strconv_ErrRange), ("strconv.ErrSyntax", laid_strconv_ErrSyntax), ("quorate/wire.nibble", laid_quorate_wire_nibble), ("quorate/machine.shapes", laid_quorate_machine_shapes)], narrowed := true }
def MachineKeysUptoSaid : Prop := machineKeysUptoRow.holds Tryz.pinned (OpenSpec.upto machineKeysSpec)

/-- 'quoratelaw13.MachineLocks', WHERE WHAT IT READS IS OF BULK AT MOST 1048576: true; the input reads as it did. -/
def machineLocksUptoRow : OpenClaim := { program := "ytlibhkehebioeaagreatdoor", sum := "2339291ed867b30ad82607be5faefbcc2d3c0fda6d0f064e99fa94859340bc35", func := "quorate/quoratelaw13.MachineLocks", spec := "machineLocks", unfollowed := true, recurses := true, named := ["internal/strconv.uint64pow10", "math/bits.deBruijn32tab", "math/bits.deBruijn64tab", "quorate/wire.nibble", "quorate/machine.shapes", "strconv.ErrSyntax", "strconv.ErrRange"], apart := false, laid := [("math/bits.deBruijn32tab", laid_math_bits_deBruijn32tab), ("math/bits.deBruijn64tab", laid_math_bits_deBruijn64tab), ("internal/strconv.uint64pow10", laid_internal_strconv_uint64pow10), ("strconv.ErrRange", laid_strconv_ErrRange), ("strconv.ErrSyntax", laid_strconv_ErrSyntax), ("quorate/wire.nibble", laid_quorate_wire_nibble), ("quorate/machine.shapes", laid_quorate_machine_shapes)], narrowed := true }
def MachineLocksUptoSaid : Prop := machineLocksUptoRow.holds Tryz.pinned (OpenSpec.upto machineLocksSpec)

/-- 'quoratelaw13.MachineSessions', WHERE WHAT IT READS IS OF BULK AT MOST 1048576: true; the input reads as it did. -/
def machineSessionsUptoRow : OpenClaim := { program := "ytlibhkehebioeaagreatdoor", sum := "2339291ed867b30ad82607be5faefbcc2d3c0fda6d0f064e99fa94859340bc35", func := "quorate/quoratelaw13.MachineSessions", spec := "machineSessions", unfollowed := true, recurses := true, named := ["internal/strconv.uint64pow10", "math/bits.deBruijn32tab", "math/bits.deBruijn64tab", "quorate/wire.nibble", "quorate/machine.shapes", "strconv.ErrSyntax", "strconv.ErrRange"], apart := false, laid := [("math/bits.deBruijn32tab", laid_math_bits_deBruijn32tab), ("math/bits.deBruijn64tab", laid_math_bits_deBruijn64tab), ("internal/strconv.uint64pow10", laid_internal_strconv_uint64pow10), ("strconv.ErrRange", laid_strconv_ErrRange), ("strconv.ErrSyntax", laid_strconv_ErrSyntax), ("quorate/wire.nibble", laid_quorate_wire_nibble), ("quorate/machine.shapes", laid_quorate_machine_shapes)], narrowed := true }
def MachineSessionsUptoSaid : Prop := machineSessionsUptoRow.holds Tryz.pinned (OpenSpec.upto machineSessionsSpec)

/-- 'quoratelaw13.MachineSnapshots', WHERE WHAT IT READS IS OF BULK AT MOST 1048576: true; the input reads as it did. -/
def machineSnapshotsUptoRow : OpenClaim := { program := "ytlibhkehebioeaagreatdoor", sum := "2339291ed867b30ad82607be5faefbcc2d3c0fda6d0f064e99fa94859340bc35", func := "quorate/quoratelaw13.MachineSnapshots", spec := "machineSnapshots", unfollowed := true, recurses := true, named := ["internal/strconv.uint64pow10", "math/bits.deBruijn32tab", "math/bits.deBruijn64tab", "quorate/wire.nibble", "quorate/machine.shapes", "strconv.ErrSyntax", "strconv.ErrRange"], apart := false, laid := [("math/bits.deBruijn32tab", laid_math_bits_deBruijn32tab), ("math/bits.deBruijn64tab", laid_math_bits_deBruijn64tab), ("internal/strconv.uint64pow10", laid_internal_strconv_uint64pow10), ("strconv.ErrRange", laid_strconv_ErrRange), ("strconv.ErrSyntax", laid_strconv_ErrSyntax), ("quorate/wire.nibble", laid_quorate_wire_nibble), ("quorate/machine.shapes", laid_quorate_machine_shapes)], narrowed := true }
def MachineSnapshotsUptoSaid : Prop := machineSnapshotsUptoRow.holds Tryz.pinned (OpenSpec.upto machineSnapshotsSpec)

/-- 'quoratelaw13.MachineAll', WHERE WHAT IT READS IS OF BULK AT MOST 1048576: true; the input reads as it did. -/
def machineAllUptoRow : OpenClaim := { program := "ytlibhkehebioeaagreatdoor", sum := "2339291ed867b30ad82607be5faefbcc2d3c0fda6d0f064e99fa94859340bc35", func := "quorate/quoratelaw13.MachineAll", spec := "machineAll", unfollowed := true, recurses := true, named := ["internal/strconv.uint64pow10", "math/bits.deBruijn32tab", "math/bits.deBruijn64tab", "quorate/wire.nibble", "quorate/machine.shapes", "strconv.ErrSyntax", "strconv.ErrRange"], apart := false, laid := [("math/bits.deBruijn32tab", laid_math_bits_deBruijn32tab), ("math/bits.deBruijn64tab", laid_math_bits_deBruijn64tab), ("internal/strconv.uint64pow10", laid_internal_strconv_uint64pow10), ("strconv.ErrRange", laid_strconv_ErrRange), ("strconv.ErrSyntax", laid_strconv_ErrSyntax), ("quorate/wire.nibble", laid_quorate_wire_nibble), ("quorate/machine.shapes", laid_quorate_machine_shapes)], narrowed := true }
def MachineAllUptoSaid : Prop := machineAllUptoRow.holds Tryz.pinned (OpenSpec.upto machineAllSpec)

/-- 'quoratelaw13.MachineOnce', WHERE WHAT IT READS IS OF BULK AT MOST 1048576: true; the input reads as it did. -/
def machineOnceUptoRow : OpenClaim := { program := "ytlibhkehebioeaagreatdoor", sum := "2339291ed867b30ad82607be5faefbcc2d3c0fda6d0f064e99fa94859340bc35", func := "quorate/quoratelaw13.MachineOnce", spec := "machineOnce", unfollowed := true, recurses := true, named := ["quorate/machine.shapes", "strconv.ErrSyntax", "strconv.ErrRange", "internal/strconv.uint64pow10", "math/bits.deBruijn32tab", "math/bits.deBruijn64tab", "quorate/wire.nibble"], apart := false, laid := [("math/bits.deBruijn32tab", laid_math_bits_deBruijn32tab), ("math/bits.deBruijn64tab", laid_math_bits_deBruijn64tab), ("internal/strconv.uint64pow10", laid_internal_strconv_uint64pow10), ("strconv.ErrRange", laid_strconv_ErrRange), ("strconv.ErrSyntax", laid_strconv_ErrSyntax), ("quorate/wire.nibble", laid_quorate_wire_nibble), ("quorate/machine.shapes", laid_quorate_machine_shapes)], narrowed := true }
def MachineOnceUptoSaid : Prop := machineOnceUptoRow.holds Tryz.pinned (OpenSpec.upto machineOnceSpec)

/-- 'quoratelaw13.MachineTokens', WHERE WHAT IT READS IS OF BULK AT MOST 1048576: true; the input reads as it did. -/
def machineTokensUptoRow : OpenClaim := { program := "ytlibhkehebioeaagreatdoor", sum := "2339291ed867b30ad82607be5faefbcc2d3c0fda6d0f064e99fa94859340bc35", func := "quorate/quoratelaw13.MachineTokens", spec := "machineTokens", unfollowed := true, recurses := true, named := ["quorate/machine.shapes", "strconv.ErrSyntax", "strconv.ErrRange", "internal/strconv.uint64pow10", "math/bits.deBruijn32tab", "math/bits.deBruijn64tab", "quorate/wire.nibble"], apart := false, laid := [("math/bits.deBruijn32tab", laid_math_bits_deBruijn32tab), ("math/bits.deBruijn64tab", laid_math_bits_deBruijn64tab), ("internal/strconv.uint64pow10", laid_internal_strconv_uint64pow10), ("strconv.ErrRange", laid_strconv_ErrRange), ("strconv.ErrSyntax", laid_strconv_ErrSyntax), ("quorate/wire.nibble", laid_quorate_wire_nibble), ("quorate/machine.shapes", laid_quorate_machine_shapes)], narrowed := true }
def MachineTokensUptoSaid : Prop := machineTokensUptoRow.holds Tryz.pinned (OpenSpec.upto machineTokensSpec)

/-- 'quoratelaw13.MachineSame', WHERE WHAT IT READS IS OF BULK AT MOST 1048576: true; the input reads as it did. -/
def machineSameUptoRow : OpenClaim := { program := "ytlibhkehebioeaagreatdoor", sum := "2339291ed867b30ad82607be5faefbcc2d3c0fda6d0f064e99fa94859340bc35", func := "quorate/quoratelaw13.MachineSame", spec := "machineSame", unfollowed := true, recurses := true, named := ["quorate/machine.shapes", "strconv.ErrSyntax", "strconv.ErrRange", "internal/strconv.uint64pow10", "math/bits.deBruijn32tab", "math/bits.deBruijn64tab", "quorate/wire.nibble"], apart := false, laid := [("math/bits.deBruijn32tab", laid_math_bits_deBruijn32tab), ("math/bits.deBruijn64tab", laid_math_bits_deBruijn64tab), ("internal/strconv.uint64pow10", laid_internal_strconv_uint64pow10), ("strconv.ErrRange", laid_strconv_ErrRange), ("strconv.ErrSyntax", laid_strconv_ErrSyntax), ("quorate/wire.nibble", laid_quorate_wire_nibble), ("quorate/machine.shapes", laid_quorate_machine_shapes)], narrowed := true }
def MachineSameUptoSaid : Prop := machineSameUptoRow.holds Tryz.pinned (OpenSpec.upto machineSameSpec)

/-- 'quoratelaw13.MachineFrame', WHERE WHAT IT READS IS OF BULK AT MOST 1048576: true; the input reads as it did. -/
def machineFrameUptoRow : OpenClaim := { program := "ytlibhkehebioeaagreatdoor", sum := "2339291ed867b30ad82607be5faefbcc2d3c0fda6d0f064e99fa94859340bc35", func := "quorate/quoratelaw13.MachineFrame", spec := "machineFrame", unfollowed := true, recurses := true, named := ["quorate/machine.shapes", "strconv.ErrSyntax", "strconv.ErrRange", "internal/strconv.uint64pow10", "math/bits.deBruijn32tab", "math/bits.deBruijn64tab", "quorate/wire.nibble"], apart := false, laid := [("math/bits.deBruijn32tab", laid_math_bits_deBruijn32tab), ("math/bits.deBruijn64tab", laid_math_bits_deBruijn64tab), ("internal/strconv.uint64pow10", laid_internal_strconv_uint64pow10), ("strconv.ErrRange", laid_strconv_ErrRange), ("strconv.ErrSyntax", laid_strconv_ErrSyntax), ("quorate/wire.nibble", laid_quorate_wire_nibble), ("quorate/machine.shapes", laid_quorate_machine_shapes)], narrowed := true }
def MachineFrameUptoSaid : Prop := machineFrameUptoRow.holds Tryz.pinned (OpenSpec.upto machineFrameSpec)

end Rows
end Go.Proofs.YtlibhkehebioeaaGreatDoor
