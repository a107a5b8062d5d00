/-
  MERGED: SrvSerLaw
-/
import Derived.Test.YtohnmaindbgngaaGreatDoorS2
import Derived.Test.YtohnmaindbgngaaGreatDoorQZ
import Derived.Test.YtohnmaindbgngaaGreatDoorCards
import Derived.Test.YtohnmaindbgngaaGreatDoorTie
import Derived.Stop.LaidErr
import Derived.OpenShut
import Derived.Deep.DeepHandedRow
import Derived.Deep.DeepLaidRun
namespace Go.Proofs.YtohnmaindbgngaaGreatDoor.auditSerial
set_option linter.unusedVariables false
set_option linter.unusedSimpArgs false
open Go.ChangeShapes Go.WideShapes Go.ChangeAt Go.RowKit

theorem own : ownKnob Tryz.prog.godebug = none := by kernel_rfl
theorem gPowT : (Tryz.prog.globals[3]?).map (·.type) = some 231 := by kernel_rfl
theorem gShpT : (Tryz.prog.globals[0]?).map (·.type) = some 150 := by kernel_rfl
theorem gSynT : (Tryz.prog.globals[1]?).map (·.type) = some 180 := by kernel_rfl
theorem starErr : "*" ++ "errors.errorString" = "*errors.errorString" := by decide
theorem rowErr (u : TypeId) (h : Tryz.prog.typeName? 3 u = some "*errors.errorString") : u = 235 :=
  typeName_ptr_named (nm := "errors.errorString") (by rw [starErr]; kernel_rfl) (by kernel_rfl) (by decide) u (by rw [starErr]; exact h)

theorem tabs_of_laid {W : World} (h : laidMetH Tryz.prog Rows.auditSerialRow.laid W) : Tabs W := by
  have h0 : laidMet Tryz.prog Rows.auditSerialRow.laid W := h
  have h2 := h0.tail.tail
  have h4 := h2.tail.tail
  have h5 := h4.tail
  obtain ⟨a, s, hs, _, _, _⟩ := laid_sentinel h4 gSyn gSynT Tryz.underlying180 rowErr Tryz.underlying235 Tryz.underlying237 rfl rfl Tryz.underlying9 (by kernel_rfl) (by kernel_rfl)
  exact ⟨Lib.tabIs_of_head (zs := Lib.pow10Tab) (rest := _) gPow gPowT Tryz.underlying231 Tryz.underlying149 (by kernel_rfl) (by kernel_rfl) h2,
    Lib.tabIs_of_head (zs := shapeTab) (rest := []) gShp gShpT Tryz.underlying150 Tryz.underlying3 (by kernel_rfl) (by kernel_rfl) h5, _, _, hs⟩

set_option maxRecDepth 100000 in
theorem contract (H : Type) (enc : TypeId × Value → H) (W : World) (base : Nat) (args : Array Value) (ds gs : List (DataW H)) (before : List MemPlace)
    (hval : ∀ (j : Nat) t v, Tryz.f5.params[j]? = some t → args[j]? = some v → Value.okWide Tryz.prog W .any base t v)
    (hW : DataW.Whole enc Tryz.prog Tryz.f5.params.toList Rows.auditSerialSpec.vars false W args.toList ds gs before) (hL : laidMetH Tryz.prog Rows.auditSerialRow.laid W) (hS : Rows.uptoSmall H (ds ++ gs) = true) :
    Calls Tryz.prog 5 args W fun e W' => ∃ v, e = .returned v ∧ Rows.auditSerialSpec.post enc Tryz.prog Tryz.f5 false true false false W args v W' := by
  have hW' := hW
  obtain ⟨p, q, hA0, hV, rfl, hfz, hnd⟩ := hW
  have hA : DataW.TrodAll enc Tryz.prog W 0 (fun _ => true) true Tryz.f5.params.toList args.toList ds p := hA0
  rw [Tryz.params5] at hA hval
  obtain ⟨v0, vs0, d0, ds0, p0, q0, hargs, rfl, rfl, h0, r0⟩ := trodAll_cons hA
  obtain ⟨rfl, rfl, rfl⟩ := trodAll_nil r0
  obtain rfl : args = #[v0] := by cases args; simp_all
  obtain ⟨rfl, rfl⟩ := trodVars_none hV
  obtain ⟨A, A2, n, c, n2, c2, K, hs, vs, rfl, hnc, hn, hm, hok, hi, hcm, hrd2, hlv, hn2, hnl⟩ := open_case (hval 0 _ v0 rfl rfl) h0 (small_one (by simpa using hS))
  refine (serial_any A A2 n c n2 c2 K hs vs W (tabs_of_laid hL) hm hok hi hcm hnc hn hrd2 hlv hn2 hnl).mono fun e W' ⟨he, hf⟩ => ?_
  subst he
  exact ⟨_, rfl, post_true laidOut (by kernel_rfl) rfl Tryz.underlying4 rfl hW' rfl hf.below⟩

/-! ### a world for the witness -/
abbrev rangeS : ByteArray := { data := #[118, 97, 108, 117, 101, 32, 111, 117, 116, 32, 111, 102, 32, 114, 97, 110, 103, 101] }
abbrev syntaxS : ByteArray := { data := #[105, 110, 118, 97, 108, 105, 100, 32, 115, 121, 110, 116, 97, 120] }
def litCell : DataW Unit → Value
  | .lit (.int k z) => .int k z
  | _ => undef
def tabCells : DataW Unit → Array Value
  | .agg l => (l.map litCell).toArray
  | _ => #[]
noncomputable def low : Nat := (World.holding Tryz.prog default ⟨#[], #[], []⟩).heap.size
def put (cs : Array Value) : Obj → Obj
  | .cells _ t frozen => .cells cs t frozen
  | o => o
noncomputable def laidWorld (os : Os) : World :=
  let w0 := World.holding Tryz.prog os ⟨#[.cells #[.string rangeS] 237, .cells #[.string syntaxS] 237], #[], []⟩
  { w0 with heap := (((((w0.heap.modify 4 (put (tabCells Rows.laid_math_bits_deBruijn32tab))).modify 5 (put (tabCells Rows.laid_math_bits_deBruijn64tab))).modify 3 (put (tabCells Rows.laid_internal_strconv_uint64pow10))).modify
      2 (put #[.iface 235 (.pointer (some ⟨low, 0, none⟩))])).modify 1 (put #[.iface 235 (.pointer (some ⟨low + 1, 0, none⟩))])).modify 0 (put (tabCells Rows.laid_quorate_machine_shapes)) }
abbrev zeroArgs : Array Value := #[.agg #[.slice none 0 0, .slice none 0 0, .int .i64 0]]
set_option maxRecDepth 100000 in
theorem laid_met (os : Os) : laidMet Tryz.prog Rows.auditSerialUptoRow.laid ((laidWorld os).forCall (fun _ _ => 0) ⟨#[], zeroArgs, []⟩).memory :=
  laidMet_of_run' 8 (by kernel_rfl) (by kernel_rfl)
theorem reads (os : Os) {H : Type} (enc : TypeId × Value → H) : ∃ places, DataW.whole enc Tryz.prog ((laidWorld os).forCall (fun _ _ => 0) ⟨#[], zeroArgs, []⟩).memory Tryz.f5.params.toList Rows.auditSerialSpec.vars false zeroArgs.toList 8 = some ([.agg [.nil, .nil, .lit (.int .i64 0)]], [], places) :=
  ⟨[], by kernel_rfl⟩

set_option maxRecDepth 100000 in
theorem liftedUpto (os : Os) (started : os.Started) (H : Type) (enc : TypeId × Value → H) (F : Stop.Interp) :
    ReturnsInHanded {} Tryz.checked os 5 .any ((Rows.OpenSpec.upto Rows.auditSerialSpec).preRow enc Tryz.prog Tryz.f5 Rows.auditSerialUptoRow.domain false Rows.auditSerialUptoRow.laid) (((Rows.OpenSpec.upto Rows.auditSerialSpec).at F).post enc Tryz.prog Tryz.f5 false true false false) := by
  obtain ⟨places, hx⟩ := reads os enc
  refine returnsInHanded_of_row (C := Tryz.checked) (s := Rows.OpenSpec.upto Rows.auditSerialSpec) own started (by kernel_rfl) Tryz.func5
    (witness_row_at (enc := enc) (C := Tryz.checked) false (laidWorld os) zeroArgs rfl (by kernel_rfl) (by kernel_rfl) (by kernel_rfl)
      (OpenSpec.preRow_of_cond 8 hx (by kernel_rfl) (fun k hk => by cases hk; kernel_rfl) (by kernel_rfl) (laid_met os))) ?_
  intro W base args ds gs before hval hW _ hcond _ hL _ _
  exact contract H enc W base args ds gs before hval hW hL (hcond _ rfl)

theorem saidUpto : Rows.AuditSerialUptoSaid :=
  OpenClaim.holds_of_cond 5 Tryz.f5 rfl rfl rfl rfl rfl rfl rfl ⟨rfl, rfl, rfl, rfl, rfl⟩ rfl rfl rfl rfl rfl (by kernel_rfl) Tryz.func5 (by kernel_rfl)
    (of_decide_eq_true (by kernel_rfl)) (by unfold Func.isWrapper; first | (rw [if_pos (by decide +kernel)]; kernel_rfl) | (rw [if_neg (by decide +kernel)]; exact ⟨rfl, rfl⟩))
    (fun os started H enc _ F => by rw [OpenClaim.pre_eq_preRow]; exact liftedUpto os started H enc F)

/-- No parameter wants a stand-in; the program's own looks are off. -/
theorem plain (f : FuncId) (fn : Func) (hf : Tryz.pinned.checked.prog.funcNamed "quorate/quoratelaw17.AuditSerial" = some f) (hfn : Tryz.pinned.checked.prog.funcs[f]? = some fn) :
    true = Tryz.pinned.checked.prog.looks [] ∧ ∀ (j : Nat) t, fn.params[j]? = some t → Tryz.pinned.checked.prog.wantsStandIn t = false := by
  obtain rfl : f = 5 := Option.some.inj ((show Tryz.prog.funcNamed "quorate/quoratelaw17.AuditSerial" = some 5 by kernel_rfl).symm.trans hf) |>.symm
  obtain rfl : fn = Tryz.f5 := (Option.some.inj (Tryz.func5.symm.trans hfn)).symm
  refine ⟨by kernel_rfl, fun j t ht => ?_⟩
  rw [Tryz.params5] at ht
  have hm := Array.mem_of_getElem? ht
  simp only [List.mem_toArray, List.mem_cons, List.not_mem_nil, or_false] at hm
  subst hm
  exact (show Tryz.prog.wantsStandIn 25 = false by kernel_rfl)

theorem cardUpto : Rows.AuditSerialUptoCardSaid :=
  Claim7.holds_tied_plain_at .later [] _ _ _ _ saidUpto (fun _ h => by cases h) (by kernel_rfl) (fun _ h => by cases h) auditSerialUpto_row_tie rfl ⟨rfl, rfl⟩ (by kernel_rfl) rfl plain (by kernel_rfl)
end Go.Proofs.YtohnmaindbgngaaGreatDoor.auditSerial
