/-
  MERGED: Map Pure Put ReadP Take Reader
-/
import Derived.Test.YtohnmaindbgngaaGreatDoorQ1
import Derived.Maps.OwnSet
import Derived.Laws.BitsAllLaws
import Derived.Laws.BitsLemmas
import Derived.RowKit2
import Derived.Laws.CopyOwn
namespace Go.Proofs.YtohnmaindbgngaaGreatDoor
set_option linter.unusedVariables false
set_option linter.unusedSimpArgs false
open Go.RowKit
open Go.Maps (Keyed)

abbrev Kv := List UInt8 × Value
/-- Every element reads as itself. -/
def Rv (v : Value) : Option (DataW Value × List MemPlace) := some (.held v, [])
def mEnt (p : Kv) : Lit × DataW Value := (.string p.1, .held p.2)
def mD (ps : List Kv) : DataW Value := .map (ps.map mEnt)
/-- Block b is a map that holds just these. -/
def MapIs (P : Program) (k : TypeId) (w : World) (b : Nat) (ps : List Kv) : Prop := w.ownsMap P k Rv b ps.length (mD ps)
def mfind (k : List UInt8) (ps : List Kv) : Option Value := (ps.find? fun p => p.1 == k).map (·.2)
def mins (x : Kv) : List Kv → List Kv
  | [] => [x]
  | y :: r => if bytesBefore x.1 y.1 then x :: y :: r else y :: mins x r
def mdel (k : List UInt8) (ps : List Kv) : List Kv := ps.filter fun p => !(p.1 == k)
def mput (k : List UInt8) (v : Value) (ps : List Kv) : List Kv := mins (k, v) (mdel k ps)

theorem mD_insert (x : Kv) : ∀ ps : List Kv, DataW.insert (mEnt x) (ps.map mEnt) = (mins x ps).map mEnt
  | [] => rfl
  | y :: r => by
    simp only [List.map_cons, DataW.insert, mins]
    have e : (mEnt x).1.before (mEnt y).1 = bytesBefore x.1 y.1 := rfl
    rw [e]
    split
    · rfl
    · rw [mD_insert x r]; rfl
theorem mD_filter (k : List UInt8) (ps : List Kv) : (ps.map mEnt).filter (fun p => !p.1.sameKey (.string k)) = (mdel k ps).map mEnt := by
  unfold mdel
  rw [List.filter_map]
  rfl
theorem mD_put (k : List UInt8) (v : Value) (ps : List Kv) : (mD ps).put (.string k) (.held v) = mD (mput k v ps) := by
  unfold mD DataW.put
  simp only
  rw [mD_filter]
  exact congrArg DataW.map (mD_insert (k, v) _)
theorem mD_del (k : List UInt8) (ps : List Kv) : (mD ps).del (.string k) = mD (mdel k ps) := by
  unfold mD DataW.del
  simp only
  rw [mD_filter]
theorem mD_has (k : List UInt8) (ps : List Kv) : Maps.has (mD ps) (.string k) = (mfind k ps).isSome := by
  unfold mD Maps.has mfind
  simp only
  induction ps with
  | nil => rfl
  | cons p ps ih =>
    simp only [List.map_cons, List.any_cons, List.find?_cons]
    rw [ih]
    have e : (mEnt p).1.sameKey (.string k) = (p.1 == k) := rfl
    rw [e]
    cases h : p.1 == k <;> simp
theorem mD_at (k : List UInt8) (z : Value) (ps : List Kv) : (mD ps).atKey (.string k) (.held z) = .held ((mfind k ps).getD z) := by
  unfold mD DataW.atKey mfind
  simp only
  induction ps with
  | nil => rfl
  | cons p ps ih =>
    simp only [List.map_cons, List.find?_cons]
    have e : (mEnt p).1.sameKey (.string k) = (p.1 == k) := rfl
    rw [e]
    cases h : p.1 == k
    · exact ih
    · rfl
theorem mD_size (ps : List Kv) : Maps.size (mD ps) = ps.length := by simp [mD, Maps.size]
section
variable {P : Program} {k : TypeId} {w w' : World} {b : Nat} {ps : List Kv}
theorem MapIs.of {n : Nat} {D : DataW Value} (h : w.ownsMap P k Rv b n D) (hD : D = mD ps) : MapIs P k w b ps := by
  subst hD
  obtain ⟨es, clock, hb, F, _, hD⟩ := h
  refine ⟨es, clock, hb, F, ?_, hD⟩
  have h1 := congrArg Maps.size hD
  rw [mD_size] at h1
  simp [Maps.size, length_sorted] at h1
  omega
theorem MapIs.made (w : World) (P : Program) (k : TypeId) : MapIs P k (w.alloc (.map #[] 0)) w.heap.size [] := World.ownsMap_made w P k Rv
theorem MapIs.lt (h : MapIs P k w b ps) : b < w.heap.size := World.ownsMap.lt h
theorem MapIs.blk (h : MapIs P k w b ps) (hb : w'.heap[b]? = w.heap[b]?) : MapIs P k w' b ps := by
  obtain ⟨es, clock, hh, F, hs, hD⟩ := h
  exact ⟨es, clock, hb.trans hh, F, hs, hD⟩
theorem MapIs.keep {Z : Nat → Prop} (h : MapIs P k w b ps) (hk : Keep Z w w') (hz : Z b) : MapIs P k w' b ps := h.blk (hk.block b h.lt hz)
theorem MapIs.ne_blk {g : Nat} {t : TypeId} {cs : Array Value} (h : MapIs P k w b ps) (hg : Blk w g t cs) : b ≠ g := by
  rintro rfl
  obtain ⟨es, clock, hh, _⟩ := h
  unfold Blk at hg
  rw [hg] at hh
  cases hh
theorem str_key (hk : P.underlying k = some .string) {l : List UInt8} (hl : l.length ≤ maxLen) : keyOf P k (.string ⟨l.toArray⟩) = some (.string l) := by
  have := Go.WideMaps.keyOf_string_mk (P := P) hk (s := ⟨l.toArray⟩) (by show l.length ≤ maxLen; exact hl)
  simpa using this
theorem MapIs.look_ok {t e : TypeId} (h : MapIs P k w b ps) (hk : P.underlying k = some .string) (ht : P.underlying t = some (.map k e)) {z : Value} (hz : (zeroValue e).run P w = .ok z w) {l : List UInt8} (hl : l.length ≤ maxLen) :
    (Instr.lookup t (.map (some b)) (.string ⟨l.toArray⟩) true).run P w = .ok (.tuple #[(mfind l ps).getD z, .bool (mfind l ps).isSome]) w := by
  obtain ⟨v, qs, hrun, hv⟩ := World.ownsMap.look_ok h (Maps.string_keyed hk) ht hz (zd := .held z) (zp := []) rfl (str_key hk hl)
  rw [mD_has] at hrun
  rw [mD_at] at hv
  unfold Rv at hv
  injection hv with hv
  injection hv with hv _
  injection hv with hv
  rw [hrun, hv]
theorem MapIs.look {t e : TypeId} (h : MapIs P k w b ps) (hk : P.underlying k = some .string) (ht : P.underlying t = some (.map k e)) {z : Value} (hz : (zeroValue e).run P w = .ok z w) {l : List UInt8} (hl : l.length ≤ maxLen) :
    (Instr.lookup t (.map (some b)) (.string ⟨l.toArray⟩) false).run P w = .ok ((mfind l ps).getD z) w := by
  obtain ⟨v, qs, hrun, hv⟩ := World.ownsMap.lookup h (Maps.string_keyed hk) ht hz (zd := .held z) (zp := []) rfl (str_key hk hl)
  rw [mD_at] at hv
  unfold Rv at hv
  injection hv with hv
  injection hv with hv _
  injection hv with hv
  rw [hrun, hv]
theorem MapIs.len {t e : TypeId} (h : MapIs P k w b ps) (ht : P.underlying t = some (.map k e)) (ty : TypeId) : (Builtin.len_ #[t] ty #[.map (some b)]).run P w = .ok (.int .i64 (ps.length : Int)) w := by
  have := World.ownsMap.len h ht ty
  rwa [mD_size] at this
theorem Keep.of_turned (h : w.mapTurned w' b) : Keep (fun i => i ≠ b) w w' := (Keep.of_grown h.grown).weaken fun i _ hi e => hi (by injection e with e; exact e.symm)
theorem MapIs.store {t e : TypeId} (h : MapIs P k w b ps) (hk : P.underlying k = some .string) (ht : P.underlying t = some (.map k e)) (hn : ps.length < maxLen) {l : List UInt8} (hl : l.length ≤ maxLen) (v : Value) :
    ∃ w', (Instr.mapUpdate t (.map (some b)) (.string ⟨l.toArray⟩) v).run P w = .ok () w' ∧ MapIs P k w' b (mput l v ps) ∧ Keep (fun i => i ≠ b) w w' := by
  obtain ⟨w', hrun, ho, ht'⟩ := World.ownsMap.store h (Maps.string_keyed hk) ht hn (str_key hk hl) (val := v) (d := .held v) (ps := []) rfl
  exact ⟨w', hrun, MapIs.of ho (mD_put l v ps), Keep.of_turned ht'⟩
theorem MapIs.drop {t e : TypeId} (h : MapIs P k w b ps) (hk : P.underlying k = some .string) (ht : P.underlying t = some (.map k e)) {l : List UInt8} (hl : l.length ≤ maxLen) (ty : TypeId) :
    ∃ w', (Builtin.delete_ #[t, k] ty #[.map (some b), .string ⟨l.toArray⟩]).run P w = .ok (.tuple #[]) w' ∧ MapIs P k w' b (mdel l ps) ∧ Keep (fun i => i ≠ b) w w' := by
  obtain ⟨w', hrun, ho, ht'⟩ := World.ownsMap.drop h (Maps.string_keyed hk) ht (str_key hk hl) ty
  exact ⟨w', hrun, MapIs.of ho (mD_del l ps), Keep.of_turned ht'⟩
/-- The operation, for the walk. -/
theorem wpList_mstore {t e : TypeId} {ops : Array Oper} {rest : List Oper} {o : Oper} {a : Act} {Q : Exit → Act → World → Prop} (hgd : o.guard = none) (m x v : Operand) (hop : o.op = Op.mapUpdate t m x v)
    (hk : P.underlying k = some .string) (ht : P.underlying t = some (.map k e)) (hm : a.eval m = .map (some b)) (h : MapIs P k w b ps) (hn : ps.length < maxLen) {l : List UInt8} (hl : l.length ≤ maxLen) (hx : a.eval x = .string ⟨l.toArray⟩) (u : Value) (hv : a.eval v = u)
    (hK : ∀ w', MapIs P k w' b (mput l u ps) → Keep (fun i => i ≠ b) w w' → wpList P ops Q rest (a.put o.dst undef) w') : wpList P ops Q (o :: rest) a w := by
  refine wpList_plain hgd fun K' hK' => ?_
  obtain ⟨w', hrun, r1, r2⟩ := h.store hk ht hn hl u
  unfold Oper.wp
  simp [execOp, hop, hm, hx, hv, hrun, Result.andThen]
  exact hK' _ _ (hK w' r1 r2)
theorem wpList_mlen {t e : TypeId} {ops : Array Oper} {rest : List Oper} {o : Oper} {a : Act} {Q : Exit → Act → World → Prop} (hgd : o.guard = none) (m : Operand) (hop : o.op = Op.call { callee := Callee.builtin Builtin.len, args := #[m], argTypes := #[t] })
    (ht : P.underlying t = some (.map k e)) (hm : a.eval m = .map (some b)) (h : MapIs P k w b ps) (hK : wpList P ops Q rest (a.put o.dst (.int .i64 (ps.length : Int))) w) : wpList P ops Q (o :: rest) a w := by
  refine wpList_plain hgd fun K' hK' => ?_
  have hrun := h.len ht o.type
  unfold Oper.wp execOp
  simp only [hop, resolve, invoke, builtin, Sem.run_bind, Sem.run_pure, Result.andThen_ok, List.map_toArray, List.map_cons, List.map_nil, hm, hrun]
  exact hK' _ _ hK
theorem wpList_mdrop {t e : TypeId} {ops : Array Oper} {rest : List Oper} {o : Oper} {a : Act} {Q : Exit → Act → World → Prop} (hgd : o.guard = none) (m x : Operand) (hop : o.op = Op.call { callee := Callee.builtin Builtin.delete, args := #[m, x], argTypes := #[t, k] })
    (hk : P.underlying k = some .string) (ht : P.underlying t = some (.map k e)) (hm : a.eval m = .map (some b)) (h : MapIs P k w b ps) {l : List UInt8} (hl : l.length ≤ maxLen) (hx : a.eval x = .string ⟨l.toArray⟩)
    (hK : ∀ w', MapIs P k w' b (mdel l ps) → Keep (fun i => i ≠ b) w w' → wpList P ops Q rest (a.put o.dst (.tuple #[])) w') : wpList P ops Q (o :: rest) a w := by
  refine wpList_plain hgd fun K' hK' => ?_
  obtain ⟨w', hrun, r1, r2⟩ := h.drop hk ht hl o.type
  unfold Oper.wp execOp
  simp only [hop, resolve, invoke, builtin, Sem.run_bind, Sem.run_pure, Result.andThen_ok, List.map_toArray, List.map_cons, List.map_nil, hm, hx, hrun]
  exact hK' _ _ (hK w' r1 r2)
end
end Go.Proofs.YtohnmaindbgngaaGreatDoor
namespace Go.Proofs.YtohnmaindbgngaaGreatDoor
set_option linter.unusedVariables false
set_option linter.unusedSimpArgs false
end Go.Proofs.YtohnmaindbgngaaGreatDoor
namespace Go.Proofs.YtohnmaindbgngaaGreatDoor
set_option linter.unusedVariables false
set_option linter.unusedSimpArgs false
open Go.RowKit
end Go.Proofs.YtohnmaindbgngaaGreatDoor
namespace Go.Proofs.YtohnmaindbgngaaGreatDoor
set_option linter.unusedVariables false
set_option linter.unusedSimpArgs false

end Go.Proofs.YtohnmaindbgngaaGreatDoor
namespace Go.Proofs.YtohnmaindbgngaaGreatDoor
set_option linter.unusedVariables false
set_option linter.unusedSimpArgs false
open Go.RowKit
end Go.Proofs.YtohnmaindbgngaaGreatDoor
namespace Go.Proofs.YtohnmaindbgngaaGreatDoor
set_option linter.unusedVariables false
set_option linter.unusedSimpArgs false
open Go.RowKit
end Go.Proofs.YtohnmaindbgngaaGreatDoor
