/-
  MERGED: Kmap
-/
import Derived.Test.YtioinjcdkmiafaaDoorYA0
import Derived.Maps.OwnSet
import Derived.Maps.RangeWalk
namespace Go.Proofs.YtioinjcdkmiafaaDoor
set_option linter.unusedVariables false
set_option linter.unusedSimpArgs false
open Go.RowKit
open Go.Maps (Keyed)

abbrev Ke := Lit × Value
/-- Every element reads as itself. -/
def Kr (v : Value) : Option (DataW Value × List MemPlace) := some (.held v, [])
def kEnt (p : Ke) : Lit × DataW Value := (p.1, .held p.2)
def kD (ps : List Ke) : DataW Value := .map (ps.map kEnt)
/-- Block b is a map that holds just these. -/
def KMap (P : Program) (k : TypeId) (w : World) (b : Nat) (ps : List Ke) : Prop := w.ownsMap P k Kr b ps.length (kD ps)
def kfind (k : Lit) (ps : List Ke) : Option Value := (ps.find? fun p => p.1.sameKey k).map (·.2)
def kins (x : Ke) : List Ke → List Ke
  | [] => [x]
  | y :: r => if x.1.before y.1 then x :: y :: r else y :: kins x r
def kdel (k : Lit) (ps : List Ke) : List Ke := ps.filter fun p => !(p.1.sameKey k)
def kput (k : Lit) (v : Value) (ps : List Ke) : List Ke := kins (k, v) (kdel k ps)

theorem kD_insert (x : Ke) : ∀ ps : List Ke, DataW.insert (kEnt x) (ps.map kEnt) = (kins x ps).map kEnt
  | [] => rfl
  | y :: r => by
    simp only [List.map_cons, DataW.insert, kins]
    have e : (kEnt x).1.before (kEnt y).1 = x.1.before y.1 := rfl
    rw [e]
    split
    · rfl
    · rw [kD_insert x r]; rfl
theorem kD_filter (k : Lit) (ps : List Ke) : (ps.map kEnt).filter (fun p => !p.1.sameKey k) = (kdel k ps).map kEnt := by
  unfold kdel
  rw [List.filter_map]
  rfl
theorem kD_put (k : Lit) (v : Value) (ps : List Ke) : (kD ps).put k (.held v) = kD (kput k v ps) := by
  unfold kD DataW.put
  simp only
  rw [kD_filter]
  exact congrArg DataW.map (kD_insert (k, v) _)
theorem kD_del (k : Lit) (ps : List Ke) : (kD ps).del k = kD (kdel k ps) := by
  unfold kD DataW.del
  simp only
  rw [kD_filter]
theorem kD_has (k : Lit) (ps : List Ke) : Maps.has (kD ps) k = (kfind k ps).isSome := by
  unfold kD Maps.has kfind
  simp only
  induction ps with
  | nil => rfl
  | cons p ps ih =>
    simp only [List.map_cons, List.any_cons, List.find?_cons]
    rw [ih]
    have e : (kEnt p).1.sameKey k = p.1.sameKey k := rfl
    rw [e]
    cases h : p.1.sameKey k <;> simp
theorem kD_at (k : Lit) (z : Value) (ps : List Ke) : (kD ps).atKey k (.held z) = .held ((kfind k ps).getD z) := by
  unfold kD DataW.atKey kfind
  simp only
  induction ps with
  | nil => rfl
  | cons p ps ih =>
    simp only [List.map_cons, List.find?_cons]
    have e : (kEnt p).1.sameKey k = p.1.sameKey k := rfl
    rw [e]
    cases h : p.1.sameKey k
    · exact ih
    · rfl
theorem kD_size (ps : List Ke) : Maps.size (kD ps) = ps.length := by simp [kD, Maps.size]
theorem kins_len (x : Ke) : ∀ ps : List Ke, (kins x ps).length = ps.length + 1
  | [] => rfl
  | y :: r => by
    unfold kins
    split
    · rfl
    · simp [kins_len x r]
theorem kdel_len (k : Lit) (ps : List Ke) : (kdel k ps).length ≤ ps.length := List.length_filter_le _ _
theorem kput_len (k : Lit) (v : Value) (ps : List Ke) : (kput k v ps).length ≤ ps.length + 1 := by
  unfold kput
  rw [kins_len]
  have := kdel_len k ps
  omega
theorem same_eq {a b : Lit} (h : a.sameKey b = true) : a = b := by
  cases a <;> cases b <;> simp [Lit.sameKey] at h <;> simp_all
theorem kins_find (x : Ke) (p : Ke → Bool) : ∀ ps : List Ke, (∀ y ∈ ps, ¬ (p x = true ∧ p y = true)) → (kins x ps).find? p = if p x then some x else ps.find? p
  | [], _ => by simp [kins, List.find?_cons]; cases p x <;> rfl
  | y :: r, h => by
    unfold kins
    have hr := kins_find x p r (fun z hz => h z (by simp [hz]))
    have hy := h y (by simp)
    split
    · simp only [List.find?_cons]
      cases p x <;> rfl
    · simp only [List.find?_cons, hr]
      cases hx : p x <;> cases hy' : p y <;> simp_all
/-- What is found behind a store. -/
theorem kfind_put (k k' : Lit) (v : Value) (ps : List Ke) : kfind k' (kput k v ps) = if k.sameKey k' = true then some v else kfind k' ps := by
  unfold kfind kput
  rw [kins_find]
  · by_cases h : k.sameKey k' = true
    · simp [h]
    · simp only [h, if_false, Bool.false_eq_true]
      congr 1
      unfold kdel
      induction ps with
      | nil => rfl
      | cons p ps ih =>
        simp only [List.filter_cons]
        cases h1 : p.1.sameKey k
        · simp only [Bool.not_false, if_true, List.find?_cons]
          rw [ih]
        · simp only [Bool.not_true, Bool.false_eq_true, if_false]
          rw [ih, List.find?_cons]
          have e := same_eq h1
          cases h2 : p.1.sameKey k'
          · rfl
          · rw [e] at h2
            exact absurd h2 h
  · rintro y hy ⟨h1, h2⟩
    have e := same_eq h1
    simp only at e
    subst e
    simp [kdel, h2] at hy

section
variable {P : Program} {k : TypeId} {w w' : World} {b : Nat} {ps : List Ke}
theorem KMap.of {n : Nat} {D : DataW Value} (h : w.ownsMap P k Kr b n D) (hD : D = kD ps) : KMap P k w b ps := by
  subst hD
  obtain ⟨es, clock, hb, F, _, hD⟩ := h
  refine ⟨es, clock, hb, F, ?_, hD⟩
  have h1 := congrArg Maps.size hD
  rw [kD_size] at h1
  simp [Maps.size, length_sorted] at h1
  omega
theorem KMap.made (w : World) (P : Program) (k : TypeId) : KMap P k (w.alloc (.map #[] 0)) w.heap.size [] := World.ownsMap_made w P k Kr
theorem KMap.lt (h : KMap P k w b ps) : b < w.heap.size := World.ownsMap.lt h
theorem KMap.blk (h : KMap P k w b ps) (hb : w'.heap[b]? = w.heap[b]?) : KMap P k w' b ps := by
  obtain ⟨es, clock, hh, F, hs, hD⟩ := h
  exact ⟨es, clock, hb.trans hh, F, hs, hD⟩
theorem KMap.keep {Z : Nat → Prop} (h : KMap P k w b ps) (hk : Keep Z w w') (hz : Z b) : KMap P k w' b ps := h.blk (hk.block b h.lt hz)
theorem KMap.ne_blk {g : Nat} {t : TypeId} {cs : Array Value} (h : KMap P k w b ps) (hg : Blk w g t cs) : b ≠ g := by
  rintro rfl
  obtain ⟨es, clock, hh, _⟩ := h
  unfold Blk at hg
  rw [hg] at hh
  cases hh
theorem KMap.look_ok {t e : TypeId} (h : KMap P k w b ps) (K : Keyed P k) (ht : P.underlying t = some (.map k e)) {z : Value} (hz : (zeroValue e).run P w = .ok z w) {x : Value} {l : Lit} (hx : keyOf P k x = some l) :
    (Instr.lookup t (.map (some b)) x true).run P w = .ok (.tuple #[(kfind l ps).getD z, .bool (kfind l ps).isSome]) w := by
  obtain ⟨v, qs, hrun, hv⟩ := World.ownsMap.look_ok h K ht hz (zd := .held z) (zp := []) rfl hx
  rw [kD_has] at hrun
  rw [kD_at] at hv
  unfold Kr at hv
  injection hv with hv
  injection hv with hv _
  injection hv with hv
  rw [hrun, hv]
theorem KMap.look {t e : TypeId} (h : KMap P k w b ps) (K : Keyed P k) (ht : P.underlying t = some (.map k e)) {z : Value} (hz : (zeroValue e).run P w = .ok z w) {x : Value} {l : Lit} (hx : keyOf P k x = some l) :
    (Instr.lookup t (.map (some b)) x false).run P w = .ok ((kfind l ps).getD z) w := by
  obtain ⟨v, qs, hrun, hv⟩ := World.ownsMap.lookup h K ht hz (zd := .held z) (zp := []) rfl hx
  rw [kD_at] at hv
  unfold Kr at hv
  injection hv with hv
  injection hv with hv _
  injection hv with hv
  rw [hrun, hv]
theorem KMap.len {t e : TypeId} (h : KMap P k w b ps) (ht : P.underlying t = some (.map k e)) (ty : TypeId) : (Builtin.len_ #[t] ty #[.map (some b)]).run P w = .ok (.int .i64 (ps.length : Int)) w := by
  have := World.ownsMap.len h ht ty
  rwa [kD_size] at this
theorem Keep.of_kturned (h : w.mapTurned w' b) : Keep (fun i => i ≠ b) w w' := (Keep.of_grown h.grown).weaken fun i _ hi e => hi (by injection e with e; exact e.symm)
theorem KMap.store {t e : TypeId} (h : KMap P k w b ps) (K : Keyed P k) (ht : P.underlying t = some (.map k e)) (hn : ps.length < maxLen) {x : Value} {l : Lit} (hx : keyOf P k x = some l) (v : Value) :
    ∃ w', (Instr.mapUpdate t (.map (some b)) x v).run P w = .ok () w' ∧ KMap P k w' b (kput l v ps) ∧ Keep (fun i => i ≠ b) w w' := by
  obtain ⟨w', hrun, ho, ht'⟩ := World.ownsMap.store h K ht hn hx (val := v) (d := .held v) (ps := []) rfl
  exact ⟨w', hrun, KMap.of ho (kD_put l v ps), Keep.of_kturned ht'⟩
/-- The operation, for the walk. -/
theorem wpList_kstore {t e : TypeId} {ops : Array Oper} {rest : List Oper} {o : Oper} {a : Act} {Q : Exit → Act → World → Prop} (hgd : o.guard = none) (m x v : Operand) (hop : o.op = Op.mapUpdate t m x v)
    (K : Keyed P k) (ht : P.underlying t = some (.map k e)) (hm : a.eval m = .map (some b)) (h : KMap P k w b ps) (hn : ps.length < maxLen) {xv : Value} {l : Lit} (hl : keyOf P k xv = some l) (hx : a.eval x = xv) (u : Value) (hv : a.eval v = u)
    (hK : ∀ w', KMap P k w' b (kput l u ps) → Keep (fun i => i ≠ b) w w' → wpList P ops Q rest (a.put o.dst undef) w') : wpList P ops Q (o :: rest) a w := by
  refine wpList_plain hgd fun K' hK' => ?_
  obtain ⟨w', hrun, r1, r2⟩ := h.store K ht hn hl u
  unfold Oper.wp
  simp [execOp, hop, hm, hx, hv, hrun, Result.andThen]
  exact hK' _ _ (hK w' r1 r2)
theorem wpList_klen {t e : TypeId} {ops : Array Oper} {rest : List Oper} {o : Oper} {a : Act} {Q : Exit → Act → World → Prop} (hgd : o.guard = none) (m : Operand) (hop : o.op = Op.call { callee := Callee.builtin Builtin.len, args := #[m], argTypes := #[t] })
    (ht : P.underlying t = some (.map k e)) (hm : a.eval m = .map (some b)) (h : KMap P k w b ps) (hK : wpList P ops Q rest (a.put o.dst (.int .i64 (ps.length : Int))) w) : wpList P ops Q (o :: rest) a w := by
  refine wpList_plain hgd fun K' hK' => ?_
  have hrun := h.len ht o.type
  unfold Oper.wp execOp
  simp only [hop, resolve, invoke, builtin, Sem.run_bind, Sem.run_pure, Result.andThen_ok, List.map_toArray, List.map_cons, List.map_nil, hm, hrun]
  exact hK' _ _ hK
end
end Go.Proofs.YtioinjcdkmiafaaDoor
