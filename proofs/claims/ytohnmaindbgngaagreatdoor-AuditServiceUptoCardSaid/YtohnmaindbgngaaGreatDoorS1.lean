/-
  MERGED: SrvSer SrvS
-/
import Derived.Test.YtohnmaindbgngaaGreatDoorQC
import Derived.Test.YtohnmaindbgngaaGreatDoorQX
import Derived.Test.YtohnmaindbgngaaGreatDoorQD
import Derived.Test.YtohnmaindbgngaaGreatDoorQI
namespace Go.Proofs.YtohnmaindbgngaaGreatDoor
set_option linter.unusedVariables false
set_option linter.unusedSimpArgs false

/-- The results of a run. -/
def runRs : StD → List CmdD → List ResD
  | _, [] => []
  | st, c :: t => (c.apply st).1 :: runRs (c.apply st).2 t
def runSt : StD → List CmdD → StD
  | st, [] => st
  | st, c :: t => runSt (c.apply st).2 t
theorem runRs_len : ∀ (l : List CmdD) (st : StD), (runRs st l).length = l.length
  | [], _ => rfl
  | c :: t, st => congrArg Nat.succ (runRs_len t _)
theorem runRs_snoc (c : CmdD) : ∀ (l : List CmdD) (st : StD), runRs st (l ++ [c]) = runRs st l ++ [(c.apply (runSt st l)).1]
  | [], st => rfl
  | d :: t, st => congrArg (List.cons _) (runRs_snoc c t _)
theorem runSt_snoc (c : CmdD) : ∀ (l : List CmdD) (st : StD), runSt st (l ++ [c]) = (c.apply (runSt st l)).2
  | [], st => rfl
  | d :: t, st => runSt_snoc c t _
theorem hfind_appS {ds : List MarkD} {n : Int} {c : CmdD} (r : List MarkD) (h : hfind ds n = some c) : hfind (ds ++ r) n = some c := by
  unfold hfind at h ⊢
  rw [List.find?_append]
  cases hf : ds.find? (fun d => d.kind == 12 && d.n == n) with
  | some x => rw [hf] at h; exact h
  | none => rw [hf] at h; cases h
end Go.Proofs.YtohnmaindbgngaaGreatDoor
namespace Go.Proofs.YtohnmaindbgngaaGreatDoor
set_option linter.unusedVariables false
set_option linter.unusedSimpArgs false
open Go.RowKit Go.Shelf

/-! ### results -/
def ResD.cellsR (r : ResD) : List Value := [.int .i64 r.code, tx r.val, .int .i64 r.n]
theorem resr_one (x : ResD) : ∀ u ∈ x.cellsR, u.oneCell' = true := by
  intro u hu
  simp only [ResD.cellsR, List.mem_cons, List.not_mem_nil, or_false] at hu
  rcases hu with rfl | rfl | rfl <;> rfl
set_option maxRecDepth 20000 in
theorem eqcmdS (x y : CmdD) (w : World) : Sem.run Tryz.prog (binOp BinOp.eql 43 (.agg #[.int .i64 x.c, .int .i64 x.i, .int .i64 x.r, .int .i64 x.o, tx x.k, tx x.v, tx x.d]) (.agg #[.int .i64 y.c, .int .i64 y.i, .int .i64 y.r, .int .i64 y.o, tx y.k, tx y.v, tx y.d])) w = .ok (.bool (decide (x = y))) w := by
  by_cases h : x = y
  · subst h
    rw [decide_eq_true rfl]
    go_simp
  · rw [decide_eq_false h]
    rcases cmd_ne h with hb | ⟨e1, hb⟩ | ⟨e1, e2, hb⟩ | ⟨e1, e2, e3, hb⟩ | ⟨e1, e2, e3, e4, hb⟩ | ⟨e1, e2, e3, e4, e5, hb⟩ | ⟨e1, e2, e3, e4, e5, e6, hb⟩
    all_goals go_simp
/-! ### among those that were done -/
/-! ### the machine that does the history -/
/-! ### a copy with another code -/
/-- Cells of a mark. -/
theorem mk_cells_at {w : World} {b o : Nat} {x : MkV} (h : w.rangeAt b o x.cells) :
    (w.cell? ⟨b, o + 1, none⟩ = some (.int .i64 x.d.kind)) ∧ (w.cell? ⟨b, o + 22, none⟩ = some (.int .i64 x.d.rc) ∧ w.cell? ⟨b, o + 23, none⟩ = some (tx x.d.rv) ∧ w.cell? ⟨b, o + 24, none⟩ = some (.int .i64 x.d.rn)) ∧
    (w.cell? ⟨b, o + 15, none⟩ = some (.int .i64 x.d.cmd.c) ∧ w.cell? ⟨b, o + 16, none⟩ = some (.int .i64 x.d.cmd.i) ∧ w.cell? ⟨b, o + 17, none⟩ = some (.int .i64 x.d.cmd.r) ∧ w.cell? ⟨b, o + 18, none⟩ = some (.int .i64 x.d.cmd.o) ∧ w.cell? ⟨b, o + 19, none⟩ = some (tx x.d.cmd.k) ∧ w.cell? ⟨b, o + 20, none⟩ = some (tx x.d.cmd.v) ∧ w.cell? ⟨b, o + 21, none⟩ = some (tx x.d.cmd.d)) :=
  ⟨h 1 _ rfl, ⟨h 22 _ rfl, h 23 _ rfl, h 24 _ rfl⟩, h 15 _ rfl, h 16 _ rfl, h 17 _ rfl, h 18 _ rfl, h 19 _ rfl, h 20 _ rfl, h 21 _ rfl⟩
theorem cmd_cells_at {w : World} {b o : Nat} {x : CmdD} (h : w.rangeAt b o x.cells) :
    w.cell? ⟨b, o, none⟩ = some (.int .i64 x.c) ∧ w.cell? ⟨b, o + 1, none⟩ = some (.int .i64 x.i) ∧ w.cell? ⟨b, o + 2, none⟩ = some (.int .i64 x.r) ∧ w.cell? ⟨b, o + 3, none⟩ = some (.int .i64 x.o) ∧ w.cell? ⟨b, o + 4, none⟩ = some (tx x.k) ∧ w.cell? ⟨b, o + 5, none⟩ = some (tx x.v) ∧ w.cell? ⟨b, o + 6, none⟩ = some (tx x.d) :=
  ⟨h 0 _ rfl, h 1 _ rfl, h 2 _ rfl, h 3 _ rfl, h 4 _ rfl, h 5 _ rfl, h 6 _ rfl⟩
theorem range_lt {w : World} {b o : Nat} {v : Value} {cs : List Value} (h : w.rangeAt b o (v :: cs)) : b < w.heap.size := lt_of_cell (h 0 _ rfl)
end Go.Proofs.YtohnmaindbgngaaGreatDoor
