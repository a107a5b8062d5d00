/-
  MERGED: GrpK AppK Marks MatS
-/
import Derived.Test.YtohnmaindbgngaaGreatDoorQ1
import Derived.Test.YtohnmaindbgngaaGreatDoorQC
import Derived.DeepKeys4
import Derived.Test.YtohnmaindbgngaaGreatDoorQ5
import Derived.Deep.MidRow
import Derived.Test.YtohnmaindbgngaaGreatDoorQB
namespace Go.Proofs.YtohnmaindbgngaaGreatDoor
set_option linter.unusedVariables false
set_option linter.unusedSimpArgs false
open Go.RowKit
open Go.Maps (Keyed)

def I64 (z : Int) : Prop := -9223372036854775808 ≤ z ∧ z < 9223372036854775808
def whoA (x : Who) : Value := .agg #[.int .i64 x.1, .int .i64 x.2]
def InW (x : Who) : Prop := I64 x.1 ∧ I64 x.2
def InV (x : V4) : Prop := I64 x.1 ∧ I64 x.2.1 ∧ I64 x.2.2.1 ∧ I64 x.2.2.2
theorem laidOutA : laidOutB Tryz.prog = true := by kernel_rfl
theorem lit_wf {z : Int} (h : I64 z) : (Lit.int .i64 z).wf = true := by
  have := h.1; have := h.2
  simp [Lit.wf, IntKind.min, IntKind.max, IntKind.signed, IntKind.bits]; omega
theorem kint0 : Keyed Tryz.prog 3 := Maps.int_keyed Tryz.underlying3
theorem ikey {z : Int} (h : I64 z) : keyOf Tryz.prog 3 (.int .i64 z) = some (.int .i64 z) := Maps.keyOf_int_mk Tryz.underlying3 (lit_wf h)
theorem kwho : Keyed Tryz.prog 97 := Keyed.of_law (deep_law_laid laidOutA (m := 6) (by omega) (of_decide_eq_true (by kernel_rfl)) (by kernel_rfl) (by rw [Tryz.underlying97]))
theorem lits_int {z : Int} (h : I64 z) (d : Nat) : Tryz.prog.keyLits (d + 1) 3 [.int .i64 z] = some [.int .i64 z] := by
  unfold Program.keyLits
  rw [Tryz.underlying3]
  simp [lit_wf h]
theorem sizeP : ∃ d, Tryz.prog.types.size + 1 = d + 5 := ⟨Tryz.prog.types.size - 4, by have : 4 ≤ Tryz.prog.types.size := of_decide_eq_true (by kernel_rfl); omega⟩
theorem c1 : Tryz.prog.cellsOf 3 = 1 := by kernel_rfl
theorem cW : Tryz.prog.cellsOf 97 = 2 := by kernel_rfl
theorem lits_who {x : Who} (h : InW x) (d : Nat) : Tryz.prog.keyLits (d + 2) 97 [.int .i64 x.1, .int .i64 x.2] = some [.int .i64 x.1, .int .i64 x.2] := by
  unfold Program.keyLits
  rw [Tryz.underlying97]
  simp [cW, c1, lits_int h.1, lits_int h.2]
section
variable {α : Type} (P : Program) (k : TypeId) (enc : α → Value)
/-- A key's reading. -/
noncomputable def keyL (a : α) : Lit := (keyOf P k (enc a)).getD (.bool true)
variable {P k enc}
theorem keyL_of {a : α} (h : (keyOf P k (enc a)).isSome = true) : keyOf P k (enc a) = some (keyL P k enc a) := by
  obtain ⟨l, hl⟩ := Option.isSome_iff_exists.1 h
  unfold keyL
  rw [hl]
  rfl
/-- What is found behind a store. -/
theorem kfind_upd [DecidableEq α] (K : Keyed P k) (hinj : ∀ a b, enc a = enc b → a = b) {a b : α} (ha : (keyOf P k (enc a)).isSome = true) (hb : (keyOf P k (enc b)).isSome = true) (v : Value) (ps : List Ke) :
    kfind (keyL P k enc b) (kput (keyL P k enc a) v ps) = if b = a then some v else kfind (keyL P k enc b) ps := by
  rw [kfind_put]
  by_cases e : b = a
  · subst e
    rw [WideAt.sameKey_self (K.key (keyL_of hb))]
    simp
  · have : (keyL P k enc a).sameKey (keyL P k enc b) = false := by
      rw [Bool.eq_false_iff]
      intro h
      have h1 := same_eq h
      have h2 := keyL_of ha
      rw [h1] at h2
      exact e (hinj _ _ (K.inj (keyL_of hb) h2))
    rw [this, if_neg e]
    simp
end
theorem whoA_inj (a b : Who) (h : whoA a = whoA b) : a = b := by
  simp [whoA] at h
  exact Prod.ext h.1 h.2
theorem intA_inj (a b : Int) (h : Value.int .i64 a = Value.int .i64 b) : a = b := by injection h
theorem key_who {x : Who} (h : InW x) : (keyOf Tryz.prog 97 (whoA x)).isSome = true := by
  obtain ⟨d, hd⟩ := sizeP
  have h1 : Tryz.prog.keyType 97 = true := by kernel_rfl
  have h2 : (whoA x).formed Tryz.prog 97 = true := by simp [whoA, Value.formed, Tryz.underlying97, cW]
  unfold keyOf
  rw [Tryz.underlying97]
  simp only [h1, h2, Bool.and_self, if_true, hd]
  have := lits_who h (d + 3)
  simp only [whoA, Value.cells] at this ⊢
  rw [this]
  rfl
theorem key_int {z : Int} (h : I64 z) : (keyOf Tryz.prog 3 (.int .i64 z)).isSome = true := by rw [ikey h]; rfl
end Go.Proofs.YtohnmaindbgngaaGreatDoor
namespace Go.Proofs.YtohnmaindbgngaaGreatDoor
set_option linter.unusedVariables false
set_option linter.unusedSimpArgs false
open Go.RowKit

/-- 'append(s, x)' of an element of several cells that has just been laid in a block of its own. -/
theorem wpList_appK {P : Program} {w : World} {t e : TypeId} {size bytes : Nat} {z : Value} (E : ET P t e size bytes z) {ops : Array Oper} {rest : List Oper} {o : Oper} {a : Act} {Q : Exit → Act → World → Prop} (hgd : o.guard = none) (s x : Operand)
    (ho : o.op = .call { callee := .builtin .append, args := #[s, x], argTypes := #[t, t] }) (cs : Array Value) (te : TypeId) (hsz : cs.size = size) (hcs : ∀ u ∈ cs.toList, u.oneCell' = true)
    (base : Nat) (v : Value) (n : Nat) (xs : List Value) (hs : a.eval s = v) (hx : a.eval x = .slice (some ⟨w.heap.size, 0, none⟩) 1 1) (hown : w.ownsRow base e size v n xs)
    (hb : (n + 1) * bytes ≤ 140737488355328) (hbase : base ≤ w.heap.size)
    (h : ∀ v' w', w'.ownsRow base e size v' (n + 1) (xs ++ cs.toList) → Keep (fun k => v.ownBlock ≠ some k) w w' → Next w.heap.size v v' → wpList P ops Q rest (a.put o.dst v') w') :
    wpList P ops Q (o :: rest) a (w.alloc (.cells cs te)) :=
  wpList_app E hgd s x ho base v n xs hs (hown.alloc _) _ _ 1 1 cs.toList hx (Rd.one_of (Blk.new w te cs) hsz) (fun h => by cases h) hcs hb (by simp; omega) fun v' w' h1 h2 h3 =>
    h v' w' h1 (((Keep.refl _ w).alloc _).comp h2 (fun _ _ h => h) (fun _ _ h => h)) (h3.imp id fun ⟨g, hg, hl⟩ => ⟨g, hg, by simp at hl; omega⟩)
/-- .. where the walk has reckoned the new block's number in its own way. -/
theorem wpList_appB {P : Program} {w : World} {t e : TypeId} {size bytes : Nat} {z : Value} (E : ET P t e size bytes z) {ops : Array Oper} {rest : List Oper} {o : Oper} {a : Act} {Q : Exit → Act → World → Prop} (hgd : o.guard = none) (s x : Operand)
    (ho : o.op = .call { callee := .builtin .append, args := #[s, x], argTypes := #[t, t] }) (cs : Array Value) (te : TypeId) (hsz : cs.size = size) (hcs : ∀ u ∈ cs.toList, u.oneCell' = true)
    (base : Nat) (v : Value) (n : Nat) (xs : List Value) (B : Nat) (hB : B = w.heap.size) (hs : a.eval s = v) (hx : a.eval x = .slice (some ⟨B, 0, none⟩) 1 1) (hown : w.ownsRow base e size v n xs)
    (hb : (n + 1) * bytes ≤ 140737488355328) (hbase : base ≤ w.heap.size)
    (h : ∀ v' w', w'.ownsRow base e size v' (n + 1) (xs ++ cs.toList) → Keep (fun k => v.ownBlock ≠ some k) w w' → Next w.heap.size v v' → wpList P ops Q rest (a.put o.dst v') w') :
    wpList P ops Q (o :: rest) a (w.alloc (.cells cs te)) := by
  subst hB
  exact wpList_appK E hgd s x ho cs te hsz hcs base v n xs hs hx hown hb hbase h
theorem wpList_app1B {P : Program} {w : World} {t e : TypeId} {bytes : Nat} {z : Value} (E : ET P t e 1 bytes z) {ops : Array Oper} {rest : List Oper} {o : Oper} {a : Act} {Q : Exit → Act → World → Prop} (hgd : o.guard = none) (s x : Operand)
    (ho : o.op = .call { callee := .builtin .append, args := #[s, x], argTypes := #[t, t] }) (y : Value) (te : TypeId) (hy : y.oneCell' = true)
    (base : Nat) (v : Value) (n : Nat) (xs : List Value) (B : Nat) (hB : B = w.heap.size) (hs : a.eval s = v) (hx : a.eval x = .slice (some ⟨B, 0, none⟩) 1 1) (hown : w.ownsRow base e 1 v n xs)
    (hb : (n + 1) * bytes ≤ 140737488355328) (hbase : base ≤ w.heap.size)
    (h : ∀ v' w', w'.ownsRow base e 1 v' (n + 1) (xs ++ [y]) → Keep (fun k => v.ownBlock ≠ some k) w w' → Next w.heap.size v v' → wpList P ops Q rest (a.put o.dst v') w') :
    wpList P ops Q (o :: rest) a (w.alloc (.cells #[y] te)) := by
  subst hB
  exact wpList_app1 E hgd s x ho y te hy base v n xs hs hx hown hb hbase h
end Go.Proofs.YtohnmaindbgngaaGreatDoor
namespace Go.Proofs.YtohnmaindbgngaaGreatDoor
set_option linter.unusedVariables false
set_option linter.unusedSimpArgs false
open Go.RowKit

/-- A slice value that reads as these cells. -/
def SlOk (w : World) (Z : Nat → Prop) (size n : Nat) (v : Value) (xs : List Value) : Prop :=
  ∃ A c, v = .slice A n c ∧ n ≤ c ∧ (n = 0 → c = 0 ∨ A ≠ none) ∧ Rd w Z size A n xs
theorem SlOk.keep {w w' : World} {Z : Nat → Prop} {size n : Nat} {v : Value} {xs : List Value} (h : SlOk w Z size n v xs) (hk : Keep Z w w') : SlOk w' Z size n v xs := by
  obtain ⟨A, c, h1, h2, h3, h4⟩ := h
  exact ⟨A, c, h1, h2, h3, h4.keep hk⟩
theorem SlOk.weaken {w : World} {Z Z' : Nat → Prop} {size n : Nat} {v : Value} {xs : List Value} (h : SlOk w Z size n v xs) (hz : ∀ k, Z k → Z' k) : SlOk w Z' size n v xs := by
  obtain ⟨A, c, h1, h2, h3, h4⟩ := h
  exact ⟨A, c, h1, h2, h3, h4.weaken hz⟩

/-- A mark with the headers of its three lists. -/
structure MkV where
  d : MarkD
  vm : Value
  vt : Value
  vb : Value
def MkV.cells (x : MkV) : List Value := x.d.cells x.vm x.vt x.vb
theorem mk_len (x : MkV) : x.cells.length = 26 := rfl
abbrev mcells (hs : List MkV) : List Value := rcells MkV.cells hs
/-- .. whose lists read. -/
structure MkOk (w : World) (Z : Nat → Prop) (x : MkV) : Prop where
  m : SlOk w Z 3 x.d.mem.length x.vm (rcells MemD.cells x.d.mem)
  t : SlOk w Z 1 x.d.tr.length x.vt (ics x.d.tr)
  b : SlOk w Z 1 x.d.body.length x.vb (Lib.byteCells x.d.body)
/-- Sizes that a machine can hold; the index is an int. -/
structure MkFit (d : MarkD) : Prop where
  m : d.mem.length ≤ 1048576
  t : d.tr.length ≤ 1048576
  b : d.body.length ≤ 1048576
  nl : -9223372036854775808 ≤ d.n
  nh : d.n < 9223372036854775808
theorem MkOk.keep {w w' : World} {Z : Nat → Prop} {x : MkV} (h : MkOk w Z x) (hk : Keep Z w w') : MkOk w' Z x := ⟨h.m.keep hk, h.t.keep hk, h.b.keep hk⟩
def MkOne (x : MkV) : Prop := x.vm.oneCell' = true ∧ x.vt.oneCell' = true ∧ x.vb.oneCell' = true
theorem mk_one {x : MkV} (h : MkOne x) : ∀ u ∈ x.cells, u.oneCell' = true := by
  intro u hu
  simp only [MkV.cells, MarkD.cells, CmdD.cells, List.mem_append, List.mem_cons, List.not_mem_nil, or_false] at hu
  rcases hu with ((rfl | rfl | rfl | rfl | rfl | rfl | rfl | rfl | rfl | rfl | rfl | rfl | rfl | rfl | rfl) | (rfl | rfl | rfl | rfl | rfl | rfl | rfl)) | (rfl | rfl | rfl | rfl)
  all_goals first | rfl | exact h.1 | exact h.2.1 | exact h.2.2
/-- A slice of marks reads as these (their lists are not looked at). -/
structure Mks (w : World) (Z : Nat → Prop) (A : Option Addr) (n : Nat) (hs : List MkV) : Prop where
  len : hs.length = n
  rd : Rd w Z 26 A n (mcells hs)
  le : n ≤ 1048576
  fit : ∀ h ∈ hs, MkFit h.d
  one : ∀ h ∈ hs, MkOne h
theorem Mks.keep {w w' : World} {Z : Nat → Prop} {A : Option Addr} {n : Nat} {hs : List MkV} (h : Mks w Z A n hs) (hk : Keep Z w w') : Mks w' Z A n hs := ⟨h.len, h.rd.keep hk, h.le, h.fit, h.one⟩
/-! ### ranges -/
section
variable {α : Type} {f : α → List Value} {c : Nat} (hc : ∀ a, (f a).length = c)
include hc
theorem Rd.range {w : World} {Z : Nat → Prop} {A : Option Addr} {n : Nat} {ps : List α} (h : Rd w Z c A n (rcells f ps)) {k : Nat} (hk : k < ps.length) (hn : k < n) :
    ∃ b o, A = some ⟨b, o, none⟩ ∧ Z b ∧ w.rangeAt b (o + k * c) (f ps[k]) := by
  obtain ⟨b, o, hA, hz, hcell⟩ := h.2 (by omega)
  refine ⟨b, o, hA, hz, fun j u hu => ?_⟩
  have hj : j < c := by
    rcases Nat.lt_or_ge j c with h1 | h1
    · exact h1
    · rw [List.getElem?_eq_none (by rw [hc]; omega)] at hu; cases hu
  have := hcell (k * c + j) u (by rw [rcells_get hc ps k hk j hj]; exact hu)
  rwa [← Nat.add_assoc] at this
end
theorem rangeAt_keep {Z : Nat → Prop} {w w' : World} {b o : Nat} {cs : List Value} (h : w.rangeAt b o cs) (hk : Keep Z w w') (hz : Z b) : w'.rangeAt b o cs := fun j v hv => hk.cellAt (h j v hv) hz
theorem Blk.range {w : World} {g : Nat} {t : TypeId} {cs : Array Value} (h : Blk w g t cs) : w.rangeAt g 0 cs.toList := fun j v hv => by
  rw [h.cell (0 + j), Nat.zero_add]
  simpa using hv
theorem Mks.at1 {w : World} {Z : Nat → Prop} {A : Option Addr} {n : Nat} {hs : List MkV} (h : Mks w Z A n hs) {k : Nat} (hk : k < n) :
    ∃ b o, A = some ⟨b, o, none⟩ ∧ Z b ∧ ∃ hl : k < hs.length, w.rangeAt b (o + k * 26) hs[k].cells := by
  have hl : k < hs.length := by rw [h.len]; exact hk
  obtain ⟨b, o, hA, hz, hr⟩ := Rd.range mk_len h.rd hl hk
  exact ⟨b, o, hA, hz, hl, hr⟩
/-- Where a mark lies its command lies. -/
theorem range_cmd {w : World} {b o : Nat} {x : MkV} (h : w.rangeAt b o x.cells) : w.rangeAt b (o + 15) x.d.cmd.cells := fun j u hu => by
  have h7 : j < 7 := by
    rcases Nat.lt_or_ge j 7 with h1 | h1
    · exact h1
    · rw [List.getElem?_eq_none (by rw [cmd_seven]; exact h1)] at hu; cases hu
  have := h (15 + j) u (by
    show (x.d.cells _ _ _)[15 + j]? = some u
    unfold MarkD.cells
    rw [List.append_assoc, List.getElem?_append_right (by simp)]
    simp only [List.length_cons, List.length_nil]
    rw [show 15 + j - (0 + 1 + 1 + 1 + 1 + 1 + 1 + 1 + 1 + 1 + 1 + 1 + 1 + 1 + 1 + 1) = j by omega, List.getElem?_append_left (by rw [cmd_seven]; exact h7)]
    exact hu)
  rw [show o + 15 + j = o + (15 + j) by omega]
  exact this
abbrev dsOf (hs : List MkV) : List MarkD := hs.map MkV.d
theorem dsOf_take {hs : List MkV} {k : Nat} (hk : k < hs.length) : dsOf (hs.take (k + 1)) = dsOf (hs.take k) ++ [hs[k].d] := by
  unfold dsOf
  rw [List.take_succ_eq_append_getElem hk, List.map_append]
  rfl
theorem dsOf_split {hs : List MkV} {k : Nat} (hk : k < hs.length) : dsOf hs = dsOf (hs.take k) ++ hs[k].d :: dsOf (hs.drop (k + 1)) := by
  have h1 : hs = hs.take k ++ hs[k] :: hs.drop (k + 1) := by rw [← List.drop_eq_getElem_cons hk, List.take_append_drop]
  calc dsOf hs = List.map MkV.d (hs.take k ++ hs[k] :: hs.drop (k + 1)) := congrArg (List.map MkV.d) h1
    _ = _ := by rw [List.map_append, List.map_cons]
theorem cmd_one (x : CmdD) : ∀ u ∈ x.cells, u.oneCell' = true := by
  intro u hu
  simp only [CmdD.cells, List.mem_cons, List.not_mem_nil, or_false] at hu
  rcases hu with rfl | rfl | rfl | rfl | rfl | rfl | rfl <;> rfl
theorem cmd_info : (Tryz.prog.info? 43).map (fun i => (i.zero, i.size, i.bytes)) = some (some (.agg (CmdD.cells ⟨0, 0, 0, 0, [], [], []⟩).toArray), 7, 80) := by kernel_rfl
theorem etCmd : ET Tryz.prog 52 43 7 80 (.agg (CmdD.cells ⟨0, 0, 0, 0, [], [], []⟩).toArray) := ⟨Tryz.underlying52, cmd_info, rfl, by decide, by decide⟩
abbrev ccells (cs : List CmdD) : List Value := rcells CmdD.cells cs
theorem ccells_snoc (cs : List CmdD) (d : CmdD) : ccells cs ++ d.cells = ccells (cs ++ [d]) := by simp [ccells, rcells]
/-! ### the 26 cells of a mark -/
abbrev markZ : Value := .agg #[.int .i64 0, .int .i64 0, .int .i64 0, .int .i64 0, .int .i64 0, .int .i64 0, .int .i64 0, .int .i64 0, .slice none 0 0, .slice none 0 0, .int .i64 0, .int .i64 0, .int .i64 0, .int .i64 0, .slice none 0 0, .int .i64 0, .int .i64 0, .int .i64 0, .int .i64 0, tx [], tx [], tx [], .int .i64 0, tx [], .int .i64 0, .int .i64 0]
theorem mark_info : (Tryz.prog.info? 51).map (fun i => (i.zero, i.size, i.bytes)) = some (some markZ, 26, 288) := by kernel_rfl
theorem etMark : ET Tryz.prog 22 51 26 288 markZ := ⟨Tryz.underlying22, mark_info, rfl, by decide, by decide⟩
end Go.Proofs.YtohnmaindbgngaaGreatDoor
namespace Go.Proofs.YtohnmaindbgngaaGreatDoor
set_option linter.unusedVariables false
set_option linter.unusedSimpArgs false
open Go.RowKit

/-- A machine m, with its blocks F, all made behind B; it stands at s. -/
structure MAtS (B : Nat) (w : World) (F : Nat → Prop) (m : Nat) (s : StD) : Prop where
  ex : ∃ bp bl, MSt (fun j => F j ∧ j ≠ m ∧ j ≠ bp) w m bp bl s ∧ F bp
  fm : F m
  lo : ∀ j, F j → B ≤ j
  hi : ∀ j, F j → j < w.heap.size
  inv : Inv s
section
variable {B : Nat} {w w' : World} {F : Nat → Prop} {m : Nat} {s : StD}
theorem MAtS.keep {Z : Nat → Prop} (h : MAtS B w F m s) (hk : Keep Z w w') (hz : ∀ j, F j → Z j) : MAtS B w' F m s := by
  obtain ⟨bp, bl, hm, hb⟩ := h.ex
  exact ⟨⟨bp, bl, hm.keep hk (hz m h.fm) (hz bp hb) (fun j hj => hz j hj.1), hb⟩, h.fm, h.lo, fun j hj => Nat.lt_of_lt_of_le (h.hi j hj) hk.size, h.inv⟩
theorem MAtS.fresh (h : MAtS B w F m s) (hk : Fresh w w') : MAtS B w' F m s := h.keep hk (fun _ _ => trivial)
theorem MAtS.lower {B' : Nat} (h : MAtS B w F m s) (hb : B' ≤ B) : MAtS B' w F m s := ⟨h.ex, h.fm, fun j hj => Nat.le_trans hb (h.lo j hj), h.hi, h.inv⟩
/-- Two machines that share nothing. -/
theorem MAtS.of {bp bl : Nat} {S : Nat → Prop} (hm : MSt S w m bp bl s) (hi : Inv s) (h1 : B ≤ m) (h2 : B ≤ bp) (h3 : ∀ j, S j → j < w.heap.size → B ≤ j) : MAtS B w (fun j => j = m ∨ j = bp ∨ (S j ∧ j < w.heap.size)) m s :=
  ⟨⟨bp, bl, hm.tight.widen (fun j hj => ⟨.inr (.inr hj), fun e => hm.nm (e ▸ hj.1), fun e => hm.nb (e ▸ hj.1)⟩) (fun h => h.2.1 rfl) (fun h => h.2.2 rfl), .inr (.inl rfl)⟩, .inl rfl,
    fun j hj => hj.elim (fun e => e ▸ h1) fun hj => hj.elim (fun e => e ▸ h2) fun hj => h3 j hj.1 hj.2,
    fun j hj => hj.elim (fun e => e ▸ hm.blk.lt) fun hj => hj.elim (fun e => e ▸ hm.pm.lt) fun hj => hj.2, hi⟩
end
theorem applyD_invS {c i r o : Int} {k v d : Txt} {s : StD} (h : Inv s) : Inv (applyD c i r o k v d s).2 := by
  unfold applyD
  split
  · rename_i hv
    exact (apply_ok h (vcmd_of hv)).2
  · exact h

/-! ### the contracts -/
section
variable {B : Nat} {w : World} {F : Nat → Prop} {m : Nat} {s : StD}
theorem mats_new (w : World) : Calls Tryz.prog 13 #[] w fun e w' => (∃ (m : Nat) (F : Nat → Prop), e = .returned (.pointer (some ⟨m, 0, none⟩)) ∧ MAtS w.heap.size w' F m newD) ∧ Fresh w w' := by
  refine (newm_any w).mono ?_
  rintro e w' ⟨⟨m, bp, bl, rfl, hm, h1, h2, h3⟩, hf⟩
  exact ⟨⟨m, _, rfl, MAtS.of hm inv_new h1 h2 (fun j hj _ => by rw [hj]; exact h3)⟩, hf⟩
/-- Apply, from a world that grew out of W. -/
theorem mats_apply {W : World} (hT : Tabs W) (hf : Fresh W w) (h : MAtS W.heap.size w F m s) (c i r o : Int) (k v d : Txt) :
    Calls Tryz.prog 14 #[.pointer (some ⟨m, 0, none⟩), cmdV c i r o k v d] w fun e w' =>
      e = .returned (resV (applyD c i r o k v d s).1) ∧ (∃ F' : Nat → Prop, MAtS W.heap.size w' F' m (applyD c i r o k v d s).2 ∧ (∀ j, F' j → F j ∨ w.heap.size ≤ j)) ∧ Keep (fun j => ¬ F j) w w' ∧ Fresh W w' := by
  obtain ⟨bp, bl, hm, hb⟩ := h.ex
  have hT0 := hT.fresh hf
  refine (appl_any _ m bp bl s c i r o k v d w hm h.inv.lk h.inv.pr hT0 (fun w' hk => hT.fresh ?_)).mono ?_
  · exact hf.comp hk (fun _ _ _ => trivial) (fun j hj _ => ⟨fun e => by have := h.lo m h.fm; omega, fun e => by have := h.lo bp hb; omega, fun e => by have := h.lo j e.1; omega⟩)
  · rintro e w' ⟨he, hst, hk⟩
    have hkF : Keep (fun j => ¬ F j) w w' := hk.weaken fun j _ hj => ⟨fun e => hj (e ▸ h.fm), fun e => hj (e ▸ hb), fun e => hj e.1⟩
    refine ⟨he, ⟨_, MAtS.of hst (applyD_invS h.inv) (h.lo m h.fm) (h.lo bp hb) (fun j hj _ => ?_), fun j hj => ?_⟩, hkF, hf.comp hkF (fun _ _ _ => trivial) (fun j hj _ e => by have := h.lo j e; omega)⟩
    · rcases hj with hj | hj
      · exact h.lo j hj.1
      · exact Nat.le_trans hf.size hj
    · rcases hj with rfl | rfl | ⟨hj | hj, _⟩
      · exact .inl h.fm
      · exact .inl hb
      · exact .inl hj.1
      · exact .inr hj
end
end Go.Proofs.YtohnmaindbgngaaGreatDoor
