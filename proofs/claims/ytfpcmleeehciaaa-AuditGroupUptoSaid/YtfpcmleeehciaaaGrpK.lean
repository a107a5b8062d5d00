/-
  THE KEYS OF audit.Group's MAPS: incarnations, views, an incarnation in a view, messages; what is found behind a store.
-/
import Derived.Test.YtfpcmleeehciaaaGrpD
import Derived.Test.YtfpcmleeehciaaaKmap
import Derived.DeepKeys4
namespace Go.Proofs.Ytfpcmleeehciaaa
set_option linter.unusedVariables false
set_option linter.unusedSimpArgs false
open Go.RowKit
open Go.Maps (Keyed)

def I64 (z : Int) : Prop := -9223372036854775808 ≤ z ∧ z < 9223372036854775808
def whoA (x : Who) : Value := .agg #[.int .i64 x.1, .int .i64 x.2]
def viewA (x : V4) : Value := .agg #[.int .i64 x.1, .int .i64 x.2.1, .int .i64 x.2.2.1, .int .i64 x.2.2.2]
def spotA (x : V4 × Who) : Value := .agg #[.int .i64 x.1.1, .int .i64 x.1.2.1, .int .i64 x.1.2.2.1, .int .i64 x.1.2.2.2, .int .i64 x.2.1, .int .i64 x.2.2]
def msgA (x : V4 × Who × Int) : Value := .agg #[.int .i64 x.1.1, .int .i64 x.1.2.1, .int .i64 x.1.2.2.1, .int .i64 x.1.2.2.2, .int .i64 x.2.1.1, .int .i64 x.2.1.2, .int .i64 x.2.2]
def InW (x : Who) : Prop := I64 x.1 ∧ I64 x.2
def InV (x : V4) : Prop := I64 x.1 ∧ I64 x.2.1 ∧ I64 x.2.2.1 ∧ I64 x.2.2.2
theorem laidOutA : laidOutB Try.prog = true := by kernel_rfl
theorem lit_wf {z : Int} (h : I64 z) : (Lit.int .i64 z).wf = true := by
  have := h.1; have := h.2
  simp [Lit.wf, IntKind.min, IntKind.max, IntKind.signed, IntKind.bits]; omega
theorem kint0 : Keyed Try.prog 3 := Maps.int_keyed Try.underlying3
theorem ikey {z : Int} (h : I64 z) : keyOf Try.prog 3 (.int .i64 z) = some (.int .i64 z) := Maps.keyOf_int_mk Try.underlying3 (lit_wf h)
theorem kwho : Keyed Try.prog 78 := Keyed.of_law (deep_law_laid laidOutA (m := 6) (by omega) (of_decide_eq_true (by kernel_rfl)) (by kernel_rfl) (by rw [Try.underlying78]))
theorem kview : Keyed Try.prog 41 := Keyed.of_law (deep_law_laid laidOutA (m := 6) (by omega) (of_decide_eq_true (by kernel_rfl)) (by kernel_rfl) (by rw [Try.underlying41]))
theorem kspot : Keyed Try.prog 104 := Keyed.of_law (deep_law_laid laidOutA (m := 6) (by omega) (of_decide_eq_true (by kernel_rfl)) (by kernel_rfl) (by rw [Try.underlying104]))
theorem kmsg : Keyed Try.prog 109 := Keyed.of_law (deep_law_laid laidOutA (m := 6) (by omega) (of_decide_eq_true (by kernel_rfl)) (by kernel_rfl) (by rw [Try.underlying109]))
theorem lits_int {z : Int} (h : I64 z) (d : Nat) : Try.prog.keyLits (d + 1) 3 [.int .i64 z] = some [.int .i64 z] := by
  unfold Program.keyLits
  rw [Try.underlying3]
  simp [lit_wf h]
theorem sizeP : ∃ d, Try.prog.types.size + 1 = d + 5 := ⟨Try.prog.types.size - 4, by have : 4 ≤ Try.prog.types.size := of_decide_eq_true (by kernel_rfl); omega⟩
theorem c1 : Try.prog.cellsOf 3 = 1 := by kernel_rfl
theorem cW : Try.prog.cellsOf 78 = 2 := by kernel_rfl
theorem cV4 : Try.prog.cellsOf 41 = 4 := by kernel_rfl
theorem cSp : Try.prog.cellsOf 104 = 6 := by kernel_rfl
theorem cMe : Try.prog.cellsOf 109 = 7 := by kernel_rfl
theorem lits_who {x : Who} (h : InW x) (d : Nat) : Try.prog.keyLits (d + 2) 78 [.int .i64 x.1, .int .i64 x.2] = some [.int .i64 x.1, .int .i64 x.2] := by
  unfold Program.keyLits
  rw [Try.underlying78]
  simp [cW, c1, lits_int h.1, lits_int h.2]
theorem lits_view {x : V4} (h : InV x) (d : Nat) : Try.prog.keyLits (d + 2) 41 [.int .i64 x.1, .int .i64 x.2.1, .int .i64 x.2.2.1, .int .i64 x.2.2.2] = some [.int .i64 x.1, .int .i64 x.2.1, .int .i64 x.2.2.1, .int .i64 x.2.2.2] := by
  unfold Program.keyLits
  rw [Try.underlying41]
  simp [cV4, c1, lits_int h.1, lits_int h.2.1, lits_int h.2.2.1, lits_int h.2.2.2]
theorem lits_spot {x : V4 × Who} (h : InV x.1) (h2 : InW x.2) (d : Nat) : Try.prog.keyLits (d + 3) 104 [.int .i64 x.1.1, .int .i64 x.1.2.1, .int .i64 x.1.2.2.1, .int .i64 x.1.2.2.2, .int .i64 x.2.1, .int .i64 x.2.2] = some [.int .i64 x.1.1, .int .i64 x.1.2.1, .int .i64 x.1.2.2.1, .int .i64 x.1.2.2.2, .int .i64 x.2.1, .int .i64 x.2.2] := by
  unfold Program.keyLits
  rw [Try.underlying104]
  simp [cSp, cV4, cW, lits_view h, lits_who h2]
theorem lits_msg {x : V4 × Who × Int} (h : InV x.1) (h2 : InW x.2.1) (h3 : I64 x.2.2) (d : Nat) : Try.prog.keyLits (d + 4) 109 [.int .i64 x.1.1, .int .i64 x.1.2.1, .int .i64 x.1.2.2.1, .int .i64 x.1.2.2.2, .int .i64 x.2.1.1, .int .i64 x.2.1.2, .int .i64 x.2.2] = some [.int .i64 x.1.1, .int .i64 x.1.2.1, .int .i64 x.1.2.2.1, .int .i64 x.1.2.2.2, .int .i64 x.2.1.1, .int .i64 x.2.1.2, .int .i64 x.2.2] := by
  unfold Program.keyLits
  rw [Try.underlying109]
  have hs := lits_spot (x := (x.1, x.2.1)) h h2 d
  simp only at hs
  simp [cMe, cSp, c1, hs, lits_int h3]
section
variable {α : Type} (P : Program) (k : TypeId) (enc : α → Value)
/-- A key's reading. -/
noncomputable def keyL (a : α) : Lit := (keyOf P k (enc a)).getD (.bool true)
variable {P k enc}
theorem keyL_of {a : α} (h : (keyOf P k (enc a)).isSome = true) : keyOf P k (enc a) = some (keyL P k enc a) := by
  obtain ⟨l, hl⟩ := Option.isSome_iff_exists.1 h
  unfold keyL
  rw [hl]
  rfl
/-- What is found behind a store. -/
theorem kfind_upd [DecidableEq α] (K : Keyed P k) (hinj : ∀ a b, enc a = enc b → a = b) {a b : α} (ha : (keyOf P k (enc a)).isSome = true) (hb : (keyOf P k (enc b)).isSome = true) (v : Value) (ps : List Ke) :
    kfind (keyL P k enc b) (kput (keyL P k enc a) v ps) = if b = a then some v else kfind (keyL P k enc b) ps := by
  rw [kfind_put]
  by_cases e : b = a
  · subst e
    rw [WideAt.sameKey_self (K.key (keyL_of hb))]
    simp
  · have : (keyL P k enc a).sameKey (keyL P k enc b) = false := by
      rw [Bool.eq_false_iff]
      intro h
      have h1 := same_eq h
      have h2 := keyL_of ha
      rw [h1] at h2
      exact e (hinj _ _ (K.inj (keyL_of hb) h2))
    rw [this, if_neg e]
    simp
end
theorem whoA_inj (a b : Who) (h : whoA a = whoA b) : a = b := by
  simp [whoA] at h
  exact Prod.ext h.1 h.2
theorem viewA_inj (a b : V4) (h : viewA a = viewA b) : a = b := by
  simp [viewA] at h
  exact Prod.ext h.1 (Prod.ext h.2.1 (Prod.ext h.2.2.1 h.2.2.2))
theorem spotA_inj (a b : V4 × Who) (h : spotA a = spotA b) : a = b := by
  simp [spotA] at h
  exact Prod.ext (Prod.ext h.1 (Prod.ext h.2.1 (Prod.ext h.2.2.1 h.2.2.2.1))) (Prod.ext h.2.2.2.2.1 h.2.2.2.2.2)
theorem msgA_inj (a b : V4 × Who × Int) (h : msgA a = msgA b) : a = b := by
  simp [msgA] at h
  exact Prod.ext (Prod.ext h.1 (Prod.ext h.2.1 (Prod.ext h.2.2.1 h.2.2.2.1))) (Prod.ext (Prod.ext h.2.2.2.2.1 h.2.2.2.2.2.1) h.2.2.2.2.2.2)
theorem intA_inj (a b : Int) (h : Value.int .i64 a = Value.int .i64 b) : a = b := by injection h
theorem key_who {x : Who} (h : InW x) : (keyOf Try.prog 78 (whoA x)).isSome = true := by
  obtain ⟨d, hd⟩ := sizeP
  have h1 : Try.prog.keyType 78 = true := by kernel_rfl
  have h2 : (whoA x).formed Try.prog 78 = true := by simp [whoA, Value.formed, Try.underlying78, cW]
  unfold keyOf
  rw [Try.underlying78]
  simp only [h1, h2, Bool.and_self, if_true, hd]
  have := lits_who h (d + 3)
  simp only [whoA, Value.cells] at this ⊢
  rw [this]
  rfl
theorem key_view {x : V4} (h : InV x) : (keyOf Try.prog 41 (viewA x)).isSome = true := by
  obtain ⟨d, hd⟩ := sizeP
  have h1 : Try.prog.keyType 41 = true := by kernel_rfl
  have h2 : (viewA x).formed Try.prog 41 = true := by simp [viewA, Value.formed, Try.underlying41, cV4]
  unfold keyOf
  rw [Try.underlying41]
  simp only [h1, h2, Bool.and_self, if_true, hd]
  have := lits_view h (d + 3)
  simp only [viewA, Value.cells] at this ⊢
  rw [this]
  rfl
theorem key_spot {x : V4 × Who} (h : InV x.1) (hw : InW x.2) : (keyOf Try.prog 104 (spotA x)).isSome = true := by
  obtain ⟨d, hd⟩ := sizeP
  have h1 : Try.prog.keyType 104 = true := by kernel_rfl
  have h2 : (spotA x).formed Try.prog 104 = true := by simp [spotA, Value.formed, Try.underlying104, cSp]
  unfold keyOf
  rw [Try.underlying104]
  simp only [h1, h2, Bool.and_self, if_true, hd]
  have := lits_spot h hw (d + 2)
  simp only [spotA, Value.cells] at this ⊢
  rw [this]
  rfl
theorem key_msg {x : V4 × Who × Int} (h : InV x.1) (hw : InW x.2.1) (hi : I64 x.2.2) : (keyOf Try.prog 109 (msgA x)).isSome = true := by
  obtain ⟨d, hd⟩ := sizeP
  have h1 : Try.prog.keyType 109 = true := by kernel_rfl
  have h2 : (msgA x).formed Try.prog 109 = true := by simp [msgA, Value.formed, Try.underlying109, cMe]
  unfold keyOf
  rw [Try.underlying109]
  simp only [h1, h2, Bool.and_self, if_true, hd]
  have := lits_msg h hw hi (d + 1)
  simp only [msgA, Value.cells] at this ⊢
  rw [this]
  rfl
theorem key_int {z : Int} (h : I64 z) : (keyOf Try.prog 3 (.int .i64 z)).isSome = true := by rw [ikey h]; rfl
end Go.Proofs.Ytfpcmleeehciaaa
