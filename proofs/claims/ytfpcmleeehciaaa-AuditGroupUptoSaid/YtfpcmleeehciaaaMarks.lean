/-
  MARKS IN MEMORY: a mark's cells with the headers of its three lists, what these read as; ranges of several cells inside a row.
-/
import Derived.Test.YtfpcmleeehciaaaAppK
import Derived.Test.YtfpcmleeehciaaaHistPlain
import Derived.Test.YtfpcmleeehciaaaCells
import Derived.Deep.MidRow
namespace Go.Proofs.Ytfpcmleeehciaaa
set_option linter.unusedVariables false
set_option linter.unusedSimpArgs false
open Go.RowKit

/-- A slice value that reads as these cells. -/
def SlOk (w : World) (Z : Nat → Prop) (size n : Nat) (v : Value) (xs : List Value) : Prop :=
  ∃ A c, v = .slice A n c ∧ n ≤ c ∧ (n = 0 → c = 0 ∨ A ≠ none) ∧ Rd w Z size A n xs
theorem SlOk.keep {w w' : World} {Z : Nat → Prop} {size n : Nat} {v : Value} {xs : List Value} (h : SlOk w Z size n v xs) (hk : Keep Z w w') : SlOk w' Z size n v xs := by
  obtain ⟨A, c, h1, h2, h3, h4⟩ := h
  exact ⟨A, c, h1, h2, h3, h4.keep hk⟩
theorem SlOk.weaken {w : World} {Z Z' : Nat → Prop} {size n : Nat} {v : Value} {xs : List Value} (h : SlOk w Z size n v xs) (hz : ∀ k, Z k → Z' k) : SlOk w Z' size n v xs := by
  obtain ⟨A, c, h1, h2, h3, h4⟩ := h
  exact ⟨A, c, h1, h2, h3, h4.weaken hz⟩

/-- A mark with the headers of its three lists. -/
structure MkV where
  d : MarkD
  vm : Value
  vt : Value
  vb : Value
def MkV.cells (x : MkV) : List Value := x.d.cells x.vm x.vt x.vb
theorem mk_len (x : MkV) : x.cells.length = 26 := rfl
abbrev mcells (hs : List MkV) : List Value := rcells MkV.cells hs
/-- .. whose lists read. -/
structure MkOk (w : World) (Z : Nat → Prop) (x : MkV) : Prop where
  m : SlOk w Z 3 x.d.mem.length x.vm (rcells MemD.cells x.d.mem)
  t : SlOk w Z 1 x.d.tr.length x.vt (ics x.d.tr)
  b : SlOk w Z 1 x.d.body.length x.vb (Lib.byteCells x.d.body)
/-- Sizes that a machine can hold; the index is an int. -/
structure MkFit (d : MarkD) : Prop where
  m : d.mem.length ≤ 1048576
  t : d.tr.length ≤ 1048576
  b : d.body.length ≤ 1048576
  nl : -9223372036854775808 ≤ d.n
  nh : d.n < 9223372036854775808
theorem MkOk.keep {w w' : World} {Z : Nat → Prop} {x : MkV} (h : MkOk w Z x) (hk : Keep Z w w') : MkOk w' Z x := ⟨h.m.keep hk, h.t.keep hk, h.b.keep hk⟩
theorem MkOk.weaken {w : World} {Z Z' : Nat → Prop} {x : MkV} (h : MkOk w Z x) (hz : ∀ k, Z k → Z' k) : MkOk w Z' x := ⟨h.m.weaken hz, h.t.weaken hz, h.b.weaken hz⟩
def MkOne (x : MkV) : Prop := x.vm.oneCell' = true ∧ x.vt.oneCell' = true ∧ x.vb.oneCell' = true
theorem mk_one {x : MkV} (h : MkOne x) : ∀ u ∈ x.cells, u.oneCell' = true := by
  intro u hu
  simp only [MkV.cells, MarkD.cells, CmdD.cells, List.mem_append, List.mem_cons, List.not_mem_nil, or_false] at hu
  rcases hu with ((rfl | rfl | rfl | rfl | rfl | rfl | rfl | rfl | rfl | rfl | rfl | rfl | rfl | rfl | rfl) | (rfl | rfl | rfl | rfl | rfl | rfl | rfl)) | (rfl | rfl | rfl | rfl)
  all_goals first | rfl | exact h.1 | exact h.2.1 | exact h.2.2
/-- A slice of marks reads as these (their lists are not looked at). -/
structure Mks (w : World) (Z : Nat → Prop) (A : Option Addr) (n : Nat) (hs : List MkV) : Prop where
  len : hs.length = n
  rd : Rd w Z 26 A n (mcells hs)
  le : n ≤ 1048576
  fit : ∀ h ∈ hs, MkFit h.d
  one : ∀ h ∈ hs, MkOne h
theorem Mks.keep {w w' : World} {Z : Nat → Prop} {A : Option Addr} {n : Nat} {hs : List MkV} (h : Mks w Z A n hs) (hk : Keep Z w w') : Mks w' Z A n hs := ⟨h.len, h.rd.keep hk, h.le, h.fit, h.one⟩
theorem Mks.weaken {w : World} {Z Z' : Nat → Prop} {A : Option Addr} {n : Nat} {hs : List MkV} (h : Mks w Z A n hs) (hz : ∀ k, Z k → Z' k) : Mks w Z' A n hs := ⟨h.len, h.rd.weaken hz, h.le, h.fit, h.one⟩

/-! ### ranges -/
section
variable {α : Type} {f : α → List Value} {c : Nat} (hc : ∀ a, (f a).length = c)
include hc
theorem Rd.range {w : World} {Z : Nat → Prop} {A : Option Addr} {n : Nat} {ps : List α} (h : Rd w Z c A n (rcells f ps)) {k : Nat} (hk : k < ps.length) (hn : k < n) :
    ∃ b o, A = some ⟨b, o, none⟩ ∧ Z b ∧ w.rangeAt b (o + k * c) (f ps[k]) := by
  obtain ⟨b, o, hA, hz, hcell⟩ := h.2 (by omega)
  refine ⟨b, o, hA, hz, fun j u hu => ?_⟩
  have hj : j < c := by
    rcases Nat.lt_or_ge j c with h1 | h1
    · exact h1
    · rw [List.getElem?_eq_none (by rw [hc]; omega)] at hu; cases hu
  have := hcell (k * c + j) u (by rw [rcells_get hc ps k hk j hj]; exact hu)
  rwa [← Nat.add_assoc] at this
end
theorem rangeAt_keep {Z : Nat → Prop} {w w' : World} {b o : Nat} {cs : List Value} (h : w.rangeAt b o cs) (hk : Keep Z w w') (hz : Z b) : w'.rangeAt b o cs := fun j v hv => hk.cellAt (h j v hv) hz
theorem rangeAt_drewN {w : World} {b o : Nat} {cs : List Value} (h : w.rangeAt b o cs) (n : Nat) : (w.drewN n).rangeAt b o cs := h
theorem rangeAt_alloc {w : World} {b o : Nat} {cs : List Value} (h : w.rangeAt b o cs) (x : Obj) : (w.alloc x).rangeAt b o cs := rangeAt_keep h ((Keep.refl (fun _ => True) w).alloc x) trivial
theorem rangeAt_cell {w : World} {b o : Nat} {cs : List Value} (h : w.rangeAt b o cs) (j : Nat) (hj : j < cs.length) : w.cell? ⟨b, o + j, none⟩ = some cs[j] := h j _ (List.getElem?_eq_getElem hj)
theorem Blk.range {w : World} {g : Nat} {t : TypeId} {cs : Array Value} (h : Blk w g t cs) : w.rangeAt g 0 cs.toList := fun j v hv => by
  rw [h.cell (0 + j), Nat.zero_add]
  simpa using hv
theorem Mks.at1 {w : World} {Z : Nat → Prop} {A : Option Addr} {n : Nat} {hs : List MkV} (h : Mks w Z A n hs) {k : Nat} (hk : k < n) :
    ∃ b o, A = some ⟨b, o, none⟩ ∧ Z b ∧ ∃ hl : k < hs.length, w.rangeAt b (o + k * 26) hs[k].cells := by
  have hl : k < hs.length := by rw [h.len]; exact hk
  obtain ⟨b, o, hA, hz, hr⟩ := Rd.range mk_len h.rd hl hk
  exact ⟨b, o, hA, hz, hl, hr⟩
/-- Where a mark lies its command lies. -/
theorem range_cmd {w : World} {b o : Nat} {x : MkV} (h : w.rangeAt b o x.cells) : w.rangeAt b (o + 15) x.d.cmd.cells := fun j u hu => by
  have h7 : j < 7 := by
    rcases Nat.lt_or_ge j 7 with h1 | h1
    · exact h1
    · rw [List.getElem?_eq_none (by rw [cmd_seven]; exact h1)] at hu; cases hu
  have := h (15 + j) u (by
    show (x.d.cells _ _ _)[15 + j]? = some u
    unfold MarkD.cells
    rw [List.append_assoc, List.getElem?_append_right (by simp)]
    simp only [List.length_cons, List.length_nil]
    rw [show 15 + j - (0 + 1 + 1 + 1 + 1 + 1 + 1 + 1 + 1 + 1 + 1 + 1 + 1 + 1 + 1 + 1) = j by omega, List.getElem?_append_left (by rw [cmd_seven]; exact h7)]
    exact hu)
  rw [show o + 15 + j = o + (15 + j) by omega]
  exact this
abbrev dsOf (hs : List MkV) : List MarkD := hs.map MkV.d
theorem dsOf_take {hs : List MkV} {k : Nat} (hk : k < hs.length) : dsOf (hs.take (k + 1)) = dsOf (hs.take k) ++ [hs[k].d] := by
  unfold dsOf
  rw [List.take_succ_eq_append_getElem hk, List.map_append]
  rfl
theorem dsOf_split {hs : List MkV} {k : Nat} (hk : k < hs.length) : dsOf hs = dsOf (hs.take k) ++ hs[k].d :: dsOf (hs.drop (k + 1)) := by
  have h1 : hs = hs.take k ++ hs[k] :: hs.drop (k + 1) := by rw [← List.drop_eq_getElem_cons hk, List.take_append_drop]
  calc dsOf hs = List.map MkV.d (hs.take k ++ hs[k] :: hs.drop (k + 1)) := congrArg (List.map MkV.d) h1
    _ = _ := by rw [List.map_append, List.map_cons]
theorem cmd_one (x : CmdD) : ∀ u ∈ x.cells, u.oneCell' = true := by
  intro u hu
  simp only [CmdD.cells, List.mem_cons, List.not_mem_nil, or_false] at hu
  rcases hu with rfl | rfl | rfl | rfl | rfl | rfl | rfl <;> rfl
theorem cmd_info : (Try.prog.info? 45).map (fun i => (i.zero, i.size, i.bytes)) = some (some (.agg (CmdD.cells ⟨0, 0, 0, 0, [], [], []⟩).toArray), 7, 80) := by kernel_rfl
theorem etCmd : ET Try.prog 51 45 7 80 (.agg (CmdD.cells ⟨0, 0, 0, 0, [], [], []⟩).toArray) := ⟨Try.underlying51, cmd_info, rfl, by decide, by decide⟩
abbrev ccells (cs : List CmdD) : List Value := rcells CmdD.cells cs
theorem ccells_snoc (cs : List CmdD) (d : CmdD) : ccells cs ++ d.cells = ccells (cs ++ [d]) := by simp [ccells, rcells]
/-! ### the 26 cells of a mark -/
abbrev markZ : Value := .agg #[.int .i64 0, .int .i64 0, .int .i64 0, .int .i64 0, .int .i64 0, .int .i64 0, .int .i64 0, .int .i64 0, .slice none 0 0, .slice none 0 0, .int .i64 0, .int .i64 0, .int .i64 0, .int .i64 0, .slice none 0 0, .int .i64 0, .int .i64 0, .int .i64 0, .int .i64 0, tx [], tx [], tx [], .int .i64 0, tx [], .int .i64 0, .int .i64 0]
theorem mark_info : (Try.prog.info? 50).map (fun i => (i.zero, i.size, i.bytes)) = some (some markZ, 26, 288) := by kernel_rfl
theorem etMark : ET Try.prog 22 50 26 288 markZ := ⟨Try.underlying22, mark_info, rfl, by decide, by decide⟩
end Go.Proofs.Ytfpcmleeehciaaa
