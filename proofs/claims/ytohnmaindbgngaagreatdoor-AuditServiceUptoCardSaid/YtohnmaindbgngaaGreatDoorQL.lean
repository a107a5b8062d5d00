/-
  MERGED: Chk
-/
import Derived.Test.YtohnmaindbgngaaGreatDoorQ4
namespace Go.Proofs.YtohnmaindbgngaaGreatDoor
set_option linter.unusedVariables false
set_option linter.unusedSimpArgs false
open Go.RowKit

set_option maxHeartbeats 400000 in
theorem check_any (c i r o : Int) (k v d : List UInt8) (w : World) (hT : Tabs w) :
    Calls Tryz.prog 57 #[cmdV c i r o k v d] w fun e w' => e = .returned (.int .i64 (if validB c i r o k v d = true then 0 else 130)) ∧ Fresh w w' := by
  have hk0 : Fresh w (w.alloc (.cells #[.int .i64 c, .int .i64 i, .int .i64 r, .int .i64 o, str k, str v, str d] 43)) := (Keep.refl _ w).alloc _
  have HC := Lib.hid (valid_any c i r o k v d _ (hT.fresh hk0))
  have HK := Lib.hid hk0
  clear hk0 hT
  generalize validB c i r o k v d = b at HC ⊢
  go_enter Tryz.func57, Tryz.ntmps57
  go_wp2_with fail
  refine HC.out.mono ?_
  rintro e w1 ⟨rfl, hk⟩
  cases b
  all_goals
    go_wp2_with fail
    go_ret
    exact ⟨by simp, HK.out.trans hk⟩
end Go.Proofs.YtohnmaindbgngaaGreatDoor
