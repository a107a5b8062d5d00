/-
  WALKS OF machine's 'names' and 'lets' on a machine that has no lock.
-/
import Derived.Test.YtkgbhanpenpkmaaDoorMach3
import Derived.Test.YtkgbhanpenpkmaaDoorShelf
import Derived.Maps.RangeWalk
namespace Go.Proofs.YtkgbhanpenpkmaaDoor
set_option linter.unusedVariables false
set_option linter.unusedSimpArgs false
open Go.RowKit

theorem rangeNil {w : World} {b : Nat} (h : MapIs Tryd.prog 9 w b []) :
    ∃ w', (Instr.range 86 (.map (some b))).run Tryd.prog w = .ok (.pointer (some ⟨w.heap.size, 0, none⟩)) w' ∧ w'.ranges Tryd.prog 9 Rv b w.heap.size 0 (mD []) (Maps.has (mD [])) 0 ∧ Keep (fun _ => True) w w' ∧ w'.heap.size = w.heap.size + 1 := by
  obtain ⟨w', h1, h2, h3, h4⟩ := World.ownsMap.range h (Maps.string_keyed Tryd.underlying9) (e := 110) Tryd.underlying86
  exact ⟨w', h1, h2, (Keep.of_grown h3).weaken (fun _ _ _ => by simp), h4⟩
theorem wpList_rangeNil {w : World} {b : Nat} {ops : Array Oper} {rest : List Oper} {o : Oper} {a : Act} {Q : Exit → Act → World → Prop} (hgd : o.guard = none) (m : Operand) (hop : o.op = Op.range 86 m) (hm : a.eval m = .map (some b)) (h : MapIs Tryd.prog 9 w b [])
    (hK : ∀ w', w'.ranges Tryd.prog 9 Rv b w.heap.size 0 (mD []) (Maps.has (mD [])) 0 → Keep (fun _ => True) w w' → w'.heap.size = w.heap.size + 1 → wpList Tryd.prog ops Q rest (a.put o.dst (.pointer (some ⟨w.heap.size, 0, none⟩))) w') : wpList Tryd.prog ops Q (o :: rest) a w := by
  refine wpList_plain hgd fun K' hK' => ?_
  obtain ⟨w', hrun, r1, r2, r3⟩ := rangeNil h
  unfold Oper.wp
  simp [execOp, hop, hm, hrun, Result.andThen]
  exact hK' _ _ (hK w' r1 r2 r3)
theorem wpList_nextNil {w : World} {b r : Nat} {ops : Array Oper} {rest : List Oper} {o : Oper} {a : Act} {Q : Exit → Act → World → Prop} (hgd : o.guard = none) (it : Operand) (hop : o.op = Op.next it false) (hit : a.eval it = .pointer (some ⟨r, 0, none⟩)) (h : w.ranges Tryd.prog 9 Rv b r 0 (mD []) (Maps.has (mD [])) 0)
    (hK : wpList Tryd.prog ops Q rest (a.put o.dst (.tuple #[.bool false])) w) : wpList Tryd.prog ops Q (o :: rest) a w := by
  refine wpList_plain hgd fun K' hK' => ?_
  unfold Oper.wp
  rcases h.next (Maps.string_keyed Tryd.underlying9) o.type with ⟨h0, hl, hrun⟩ | ⟨key, v, kl, y, w', cnt', hkey, hlk, hv, hat, hrun, hrg, hlt, hgr, hsz, hen⟩
  · simp [execOp, hop, hit, hrun, Result.andThen]
    exact hK' _ _ hK
  · omega

set_option maxRecDepth 20000 in
theorem names0_any (b : Nat) (w : World) (h : MapIs Tryd.prog 9 w b []) : Calls Tryd.prog 55 #[.map (some b)] w fun e w' => e = .returned (.slice none 0 0) ∧ Fresh w w' := by
  have H := Lib.hid h
  clear h
  go_enter Tryd.func55, Tryd.ntmps55
  go_wp2_with (at_range; refine wpList_rangeNil rfl (.tmp 5) rfl rfl H.out ?_)
  intro w1 hr hk hs
  have HR := Lib.hid hr
  clear hr
  go_wp2_with fail
  refine wp_loop_rounds 1 ?_
  rw [rounds_succ]
  go_wp2_with (at_next; refine wpList_nextNil rfl (.tmp 6) rfl rfl HR.out ?_)
  refine (Tryd.slices_Sort_string_none none 0 w1).mono ?_
  rintro e _ ⟨rfl, rfl⟩
  go_wp2
  go_ret
  exact ⟨rfl, hk⟩

set_option maxRecDepth 20000 in
theorem lets0_any (m b : Nat) (c : Int) (w : World) (h0 : w.cell? ⟨m, 1, none⟩ = some (.map (some b))) (h : MapIs Tryd.prog 9 w b []) : Calls Tryd.prog 43 #[.pointer (some ⟨m, 0, none⟩), .int .i64 c] w fun e w' => e = .returned (.int .i64 0) ∧ Fresh w w' := by
  have H := Lib.hid (And.intro h h0)
  clear h
  go_enter Tryd.func43, Tryd.ntmps43
  go_wp2_with (at_range; refine wpList_rangeNil rfl (.tmp 13) rfl rfl H.out.1 ?_)
  intro w1 hr hk hs
  have HR := Lib.hid hr
  have x1 := hk.cellAt H.out.2 trivial
  have HN := Lib.hid (names0_any b w1 (H.out.1.keep hk trivial))
  have HK := Lib.hid hk
  clear hr h0 hk
  go_wp2_with fail
  refine wp_loop_rounds 1 ?_
  rw [rounds_succ]
  go_wp2_with (at_next; refine wpList_nextNil rfl (.tmp 14) rfl rfl HR.out ?_)
  go_wp2_with fail
  refine HN.out.mono ?_
  rintro e w2 ⟨rfl, f2⟩
  have HF := Lib.hid (HK.out.trans f2)
  clear f2 x1 HN HR
  go_wp2_with fail
  refine wp_loop_rounds 1 ?_
  rw [rounds_succ]
  go_wp2
  go_ret
  exact ⟨rfl, HF.out⟩
end Go.Proofs.YtkgbhanpenpkmaaDoor
