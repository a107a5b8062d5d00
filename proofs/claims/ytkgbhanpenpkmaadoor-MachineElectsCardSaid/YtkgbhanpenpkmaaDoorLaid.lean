/-
  WHAT THE ROW's LIST OF PACKAGE-LEVEL VARIABLES GIVES A WALK, AND A WORLD THAT MEETS IT.
-/
import Derived.Test.YtkgbhanpenpkmaaDoorCheck
import Derived.Test.YtkgbhanpenpkmaaDoorCards
import Derived.Test.YtkgbhanpenpkmaaDoorTie
import Derived.Stop.LaidErr
import Derived.OpenShut
import Derived.Deep.DeepHandedRow
import Derived.Deep.DeepLaidRun
namespace Go.Proofs.YtkgbhanpenpkmaaDoor
set_option linter.unusedVariables false
set_option linter.unusedSimpArgs false
open Go.ChangeShapes Go.WideShapes Go.ChangeAt Go.RowKit

theorem own : ownKnob Tryd.prog.godebug = none := by kernel_rfl
theorem gPowT : (Tryd.prog.globals[3]?).map (·.type) = some 170 := by kernel_rfl
theorem gShpT : (Tryd.prog.globals[0]?).map (·.type) = some 115 := by kernel_rfl
theorem gSynT : (Tryd.prog.globals[1]?).map (·.type) = some 127 := by kernel_rfl
theorem starErr : "*" ++ "errors.errorString" = "*errors.errorString" := by decide
theorem rowErr (u : TypeId) (h : Tryd.prog.typeName? 3 u = some "*errors.errorString") : u = 174 :=
  typeName_ptr_named (nm := "errors.errorString") (by rw [starErr]; kernel_rfl) (by kernel_rfl) (by decide) u (by rw [starErr]; exact h)

theorem tabs_of_laid {W : World} (h : laidMetH Tryd.prog Rows.machineBackRow.laid W) : Tabs W := by
  have h0 : laidMet Tryd.prog Rows.machineBackRow.laid W := h
  have h2 := h0.tail.tail
  have h4 := h2.tail.tail
  have h5 := h4.tail
  obtain ⟨a, s, hs, _, _, _⟩ := laid_sentinel h4 gSyn gSynT Tryd.underlying127 rowErr Tryd.underlying174 Tryd.underlying176 rfl rfl Tryd.underlying9 (by kernel_rfl) (by kernel_rfl)
  exact ⟨Lib.tabIs_of_head (zs := Lib.pow10Tab) (rest := _) gPow gPowT Tryd.underlying170 Tryd.underlying143 (by kernel_rfl) (by kernel_rfl) h2,
    Lib.tabIs_of_head (zs := shapeTab) (rest := []) gShp gShpT Tryd.underlying115 Tryd.underlying3 (by kernel_rfl) (by kernel_rfl) h5, _, _, hs⟩
end Go.Proofs.YtkgbhanpenpkmaaDoor
