/-
  MERGED: Copied Copied2
-/
import Derived.Test.YtohnmaindbgngaaGreatDoorQI
namespace Go.Proofs.YtohnmaindbgngaaGreatDoor
set_option linter.unusedVariables false
set_option linter.unusedSimpArgs false
open Go.RowKit

theorem memb_info : (Tryz.prog.info? 59).map (fun i => (i.zero, i.size, i.bytes)) = some (some (.agg (MemD.cells ⟨0, 0, 0⟩).toArray), 3, 24) := by kernel_rfl
theorem etMem : ET Tryz.prog 46 59 3 24 (.agg (MemD.cells ⟨0, 0, 0⟩).toArray) := ⟨Tryz.underlying46, memb_info, rfl, by decide, by decide⟩
theorem byte_info : (Tryz.prog.info? 5).map (fun i => (i.zero, i.size, i.bytes)) = some (some (.int .u8 0), 1, 1) := by kernel_rfl
theorem etByte : ET Tryz.prog 47 5 1 1 (.int .u8 0) := ⟨Tryz.underlying47, byte_info, rfl, by decide, by decide⟩
theorem mem_one (l : List MemD) : ∀ u ∈ rcells MemD.cells l, u.oneCell' = true := by
  intro u hu
  obtain ⟨x, _, hx⟩ := List.mem_flatMap.1 hu
  simp only [MemD.cells, List.mem_cons, List.not_mem_nil, or_false] at hx
  rcases hx with rfl | rfl | rfl <;> rfl
theorem mcells_snoc (hs : List MkV) (x : MkV) : mcells hs ++ x.cells = mcells (hs ++ [x]) := by simp [mcells, rcells]

end Go.Proofs.YtohnmaindbgngaaGreatDoor
namespace Go.Proofs.YtohnmaindbgngaaGreatDoor
set_option linter.unusedVariables false
set_option linter.unusedSimpArgs false
open Go.RowKit

end Go.Proofs.YtohnmaindbgngaaGreatDoor
