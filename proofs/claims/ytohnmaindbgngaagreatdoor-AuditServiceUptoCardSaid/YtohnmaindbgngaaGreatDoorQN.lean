/-
  MERGED: SrvCmp
-/
import Derived.Test.YtohnmaindbgngaaGreatDoorQM
namespace Go.Proofs.YtohnmaindbgngaaGreatDoor
set_option linter.unusedVariables false
set_option linter.unusedSimpArgs false
open Go.RowKit Go.BigFrame

theorem tx_bne {a b : List UInt8} (h : a ≠ b) : (a == b) = false := by simpa using h
theorem cmd_ne {x y : CmdD} (h : x ≠ y) : (x.c == y.c) = false ∨ (x.c = y.c ∧ (x.i == y.i) = false) ∨ (x.c = y.c ∧ x.i = y.i ∧ (x.r == y.r) = false) ∨ (x.c = y.c ∧ x.i = y.i ∧ x.r = y.r ∧ (x.o == y.o) = false) ∨ (x.c = y.c ∧ x.i = y.i ∧ x.r = y.r ∧ x.o = y.o ∧ (x.k == y.k) = false) ∨
    (x.c = y.c ∧ x.i = y.i ∧ x.r = y.r ∧ x.o = y.o ∧ x.k = y.k ∧ (x.v == y.v) = false) ∨ (x.c = y.c ∧ x.i = y.i ∧ x.r = y.r ∧ x.o = y.o ∧ x.k = y.k ∧ x.v = y.v ∧ (x.d == y.d) = false) := by
  obtain ⟨a1, a2, a3, a4, a5, a6, a7⟩ := x
  obtain ⟨b1, b2, b3, b4, b5, b6, b7⟩ := y
  simp only
  by_cases e1 : a1 = b1
  rotate_left
  · left; simpa using e1
  right
  by_cases e2 : a2 = b2
  rotate_left
  · left; exact ⟨e1, by simpa using e2⟩
  right
  by_cases e3 : a3 = b3
  rotate_left
  · left; exact ⟨e1, e2, by simpa using e3⟩
  right
  by_cases e4 : a4 = b4
  rotate_left
  · left; exact ⟨e1, e2, e3, by simpa using e4⟩
  right
  by_cases e5 : a5 = b5
  rotate_left
  · left; exact ⟨e1, e2, e3, e4, by simpa using e5⟩
  right
  by_cases e6 : a6 = b6
  rotate_left
  · left; exact ⟨e1, e2, e3, e4, e5, by simpa using e6⟩
  right
  refine ⟨e1, e2, e3, e4, e5, e6, ?_⟩
  have : a7 ≠ b7 := fun e7 => h (by rw [e1, e2, e3, e4, e5, e6, e7])
  simpa using this
theorem res_ne {x y : ResD} (h : x ≠ y) : (x.code == y.code) = false ∨ (x.code = y.code ∧ (x.val == y.val) = false) ∨ (x.code = y.code ∧ x.val = y.val ∧ (x.n == y.n) = false) := by
  obtain ⟨a1, a2, a3⟩ := x
  obtain ⟨b1, b2, b3⟩ := y
  simp only
  by_cases e1 : a1 = b1
  rotate_left
  · left; simpa using e1
  right
  by_cases e2 : a2 = b2
  rotate_left
  · left; exact ⟨e1, by simpa using e2⟩
  right
  refine ⟨e1, e2, ?_⟩
  have : a3 ≠ b3 := fun e3 => h (by rw [e1, e2, e3])
  simpa using this
set_option maxRecDepth 20000 in
theorem necmd (x y : CmdD) (w : World) : Sem.run Tryz.prog (binOp BinOp.neq 43 (.agg #[.int .i64 x.c, .int .i64 x.i, .int .i64 x.r, .int .i64 x.o, tx x.k, tx x.v, tx x.d]) (.agg #[.int .i64 y.c, .int .i64 y.i, .int .i64 y.r, .int .i64 y.o, tx y.k, tx y.v, tx y.d])) w = .ok (.bool (decide (x ≠ y))) w := by
  by_cases h : x = y
  · subst h
    rw [decide_eq_false (by simp)]
    go_simp
  · rw [decide_eq_true h]
    rcases cmd_ne h with hb | ⟨e1, hb⟩ | ⟨e1, e2, hb⟩ | ⟨e1, e2, e3, hb⟩ | ⟨e1, e2, e3, e4, hb⟩ | ⟨e1, e2, e3, e4, e5, hb⟩ | ⟨e1, e2, e3, e4, e5, e6, hb⟩
    all_goals go_simp
theorem neres (x y : ResD) (w : World) : Sem.run Tryz.prog (binOp BinOp.neq 49 (.agg #[.int .i64 x.code, tx x.val, .int .i64 x.n]) (.agg #[.int .i64 y.code, tx y.val, .int .i64 y.n])) w = .ok (.bool (decide (x ≠ y))) w := by
  by_cases h : x = y
  · subst h
    rw [decide_eq_false (by simp)]
    go_simp
  · rw [decide_eq_true h]
    rcases res_ne h with hb | ⟨e1, hb⟩ | ⟨e1, e2, hb⟩
    all_goals go_simp
/-- What lies under an index, or nothing at all. -/
def entOr (o : Option (CmdD × ResD)) : CmdD × ResD := o.getD (cmd0, ⟨0, [], 0⟩)
theorem ent_zero (u : World) : (zeroValue 130).run Tryz.prog u = .ok (entA2 (cmd0, ⟨0, [], 0⟩)) u := Tryz.zeroValue130 u
theorem ent_val (o : Option (CmdD × ResD)) : (o.map entA2).getD (entA2 (cmd0, ⟨0, [], 0⟩)) = entA2 (entOr o) := by cases o <;> rfl
theorem ent_res (s : SrvD) (n : Int) : (entOr (s.entries n)).2 = s.resAt n := by unfold entOr SrvD.resAt; cases s.entries n <;> rfl
theorem plc_val (o : Option Int) : (o.map iV).getD (.int .i64 0) = .int .i64 (o.getD 0) := by cases o <;> rfl
end Go.Proofs.YtohnmaindbgngaaGreatDoor
