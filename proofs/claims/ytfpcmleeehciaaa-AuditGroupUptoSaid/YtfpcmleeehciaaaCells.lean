/-
  GENERAL WORDS, OVER ANY PROGRAM: a variable of several cells is written whole.
-/
import Derived.Test.YtfpcmleeehciaaaRow
import Derived.Deep.MidRow
namespace Go.Proofs.Ytfpcmleeehciaaa
set_option linter.unusedVariables false
set_option linter.unusedSimpArgs false
open Go.RowKit

theorem Blk.there {w : World} {g : Nat} {t : TypeId} {cs : Array Value} (h : Blk w g t cs) : w.there g 0 cs.size := fun j hj => by
  rw [h.cell (0 + j), Nat.zero_add]
  exact ⟨by simp [hj], h.frozen _⟩
theorem Blk.setCells {g : Nat} {t : TypeId} : ∀ (vs : List Value) (o : Nat) (w : World) (cs : Array Value), Blk w g t cs → o + vs.length ≤ cs.size → ∃ cs' : Array Value, Blk (w.setCells g o vs) g t cs' ∧ cs'.toList = cs.toList.take o ++ vs ++ cs.toList.drop (o + vs.length)
  | [], o, w, cs, h, _ => ⟨cs, h, by simp⟩
  | v :: r, o, w, cs, h, hl => by
    have hl' : o + (r.length + 1) ≤ cs.size := by simpa using hl
    obtain ⟨cs', h1, h2⟩ := Blk.setCells r (o + 1) _ _ (h.set o v) (by simp; omega)
    refine ⟨cs', h1, ?_⟩
    rw [h2, Array.toList_setIfInBounds]
    have ho : o < cs.toList.length := by simp; omega
    have e1 : (cs.toList.set o v).take (o + 1) = cs.toList.take o ++ [v] := by
      rw [List.take_succ_eq_append_getElem (by simpa using ho), List.take_set_of_le (Nat.le_refl _)]
      simp
    have e2 : (cs.toList.set o v).drop (o + 1 + r.length) = cs.toList.drop (o + (v :: r).length) := by
      rw [List.drop_set_of_lt (by omega)]
      congr 1
      simp
      omega
    rw [e1, e2]
    simp
theorem Keep.setCells {Z : Nat → Prop} {a : World} {g : Nat} : ∀ (vs : List Value) (o : Nat) (w : World), Keep Z a w → (g < a.heap.size → ¬ Z g) → Keep Z a (w.setCells g o vs)
  | [], _, _, h, _ => h
  | v :: r, o, w, h, hg => Keep.setCells r (o + 1) _ (h.setCell hg v) hg
theorem size_setCells {g : Nat} : ∀ (vs : List Value) (o : Nat) (w : World), (w.setCells g o vs).heap.size = w.heap.size
  | [], _, _ => rfl
  | v :: r, o, w => by
    rw [World.setCells, size_setCells r (o + 1)]
    simp [World.setCell]
theorem Blk.whole {w : World} {g : Nat} {t : TypeId} {cs0 cells : Array Value} (h : Blk w g t cs0) (hs : cs0.size = cells.size) : Blk (w.setCells g 0 cells.toList) g t cells := by
  obtain ⟨cs', h1, h2⟩ := Blk.setCells cells.toList 0 w cs0 h (by simp [hs])
  have : cs' = cells := by
    apply Array.ext'
    rw [h2]
    simp [hs]
  rwa [this] at h1
theorem wpList_store_new {P : Program} {w : World} {T : TypeId} {ops : Array Oper} {rest : List Oper} {o : Oper} {a : Act} {Q : Exit → Act → World → Prop} (hgd : o.guard = none) (x y : Operand) (ho : o.op = .store T x y) (cs0 cells : Array Value) (te : TypeId)
    (hx : a.eval x = .pointer (some ⟨w.heap.size, 0, none⟩)) (hy : a.eval y = .agg cells) (hsz : cs0.size = cells.size) (hi : (P.info? T).map (·.size) = some cells.size) (h1 : cells.all (·.oneCell') = true)
    (h : ∀ w', Blk w' w.heap.size te cells → Fresh w w' → w'.heap.size = w.heap.size + 1 → wpList P ops Q rest (a.put o.dst undef) w') :
    wpList P ops Q (o :: rest) a (w.alloc (.cells cs0 te)) := by
  have hb := Blk.new w te cs0
  have ht := hb.there
  rw [hsz] at ht
  refine wpList_store_mid hgd T x y ho w.heap.size 0 cells hx hy ht hi h1 (h _ (hb.whole hsz) ?_ ?_)
  · exact Keep.setCells _ _ _ ((Keep.refl _ w).alloc _) (fun h => absurd h (Nat.lt_irrefl _))
  · rw [size_setCells]
    simp

/-- A store of several cells, the world behind it a letter. -/
theorem wpList_store_to {P : Program} {ops : Array Oper} {rest : List Oper} {op : Oper} {a : Act} {w : World} {Q : Exit → Act → World → Prop} (hgd : op.guard = none) (ty : TypeId) (x y : Operand) (ho : op.op = .store ty x y)
    (b o : Nat) (cells : Array Value) (hx : a.eval x = .pointer (some ⟨b, o, none⟩)) (hy : a.eval y = .agg cells)
    (ht : w.there b o cells.size) (hi : (P.info? ty).map (·.size) = some cells.size) (h1 : cells.all (·.oneCell') = true)
    (h : ∀ w', Hid (w' = w.setCells b o cells.toList) → wpList P ops Q rest (a.put op.dst undef) w') : wpList P ops Q (op :: rest) a w :=
  wpList_store_mid hgd ty x y ho b o cells hx hy ht hi h1 (h _ (Lib.hid rfl))
/-- What 'buildSlice' makes of an element of many cells. -/
theorem fold_zip_at : ∀ (l : List Value) (o : Nat) (zs : Array Value), o + l.length ≤ zs.size → ((l.zipIdx o).foldl (fun cs x => cs.setIfInBounds x.snd x.fst) zs).toList = zs.toList.take o ++ l ++ zs.toList.drop (o + l.length)
  | [], o, zs, _ => by simp
  | v :: r, o, zs, hl => by
    have hl' : o + (r.length + 1) ≤ zs.size := by simpa using hl
    rw [List.zipIdx_cons, List.foldl_cons, fold_zip_at r (o + 1) _ (by simp; omega), Array.toList_setIfInBounds]
    have ho : o < zs.toList.length := by simp; omega
    have e1 : (zs.toList.set o v).take (o + 1) = zs.toList.take o ++ [v] := by
      rw [List.take_succ_eq_append_getElem (by simpa using ho), List.take_set_of_le (Nat.le_refl _)]
      simp
    have e2 : (zs.toList.set o v).drop (o + 1 + r.length) = zs.toList.drop (o + (v :: r).length) := by
      rw [List.drop_set_of_lt (by omega)]
      congr 1
      simp
      omega
    rw [e1, e2]
    simp
theorem fold_zip (l : List Value) (zs : Array Value) (h : zs.size = l.length) : l.zipIdx.foldl (fun cs x => cs.setIfInBounds x.snd x.fst) zs = l.toArray := by
  apply Array.ext'
  rw [fold_zip_at l 0 zs (by omega)]
  simp [← h]
end Go.Proofs.Ytfpcmleeehciaaa
