/-
  GENERAL WORDS, OVER ANY PROGRAM: 'm[k] op= v' and 'a[i], b[j] = ..' on a map: its entry is found or made, and written later.
-/
import Derived.Test.YtfpcmleeehciaaaKmap
import Derived.WideKeyEntry
namespace Go.Proofs.Ytfpcmleeehciaaa
set_option linter.unusedVariables false
set_option linter.unusedSimpArgs false
open Go.RowKit
open Go.Maps (Keyed)
open Go.ChangeMaps (setBlock)

/-- What the entry's maker hands to its writer. -/
structure Entry (P : Program) (k t : TypeId) (b : Nat) (ps : List Ke) (l : Lit) (z : Value) (st : Value) (w w1 : World) : Prop where
  keep : Keep (fun i => i ≠ b) w w1
  map : ∃ ps1, KMap P k w1 b ps1 ∧ (∀ l', (kfind l' ps1).getD z = (kfind l' ps).getD z) ∧ ps1.length ≤ ps.length + 1
  put : ∀ w2 v, w2.heap[b]? = w1.heap[b]? → ∃ w3, (Instr.entryStore t (.map (some b)) st v).run P w2 = .ok () w3 ∧ KMap P k w3 b (kput l v ps) ∧ Keep (fun i => i ≠ b) w2 w3
theorem setBlock_keep {w : World} {b : Nat} {es es' : Array MapEntry} {c c' : Nat} (hb : w.heap[b]? = some (.map es c)) : Keep (fun i => i ≠ b) w (setBlock w b (.map es' c')) :=
  ⟨rfl, rfl, rfl, by simp [setBlock], fun i _ hi => Go.ChangeMaps.heap_setBlock_other hb _ hi⟩
theorem kmap_same {P : Program} {k : TypeId} {w w' : World} {b : Nat} {ps : List Ke} {o : Obj} (h : KMap P k w b ps) (h1 : w.heap[b]? = some o) (h2 : w'.heap[b]? = some o) : KMap P k w' b ps := h.blk (h2.trans h1.symm)
section
variable {P : Program} {k t e : TypeId} {w : World} {b : Nat} {ps : List Ke}
theorem KMap.entry (h : KMap P k w b ps) (K : Keyed P k) (ht : P.underlying t = some (.map k e)) (hn : ps.length < maxLen) {z : Value} (hz : ∀ u : World, (zeroValue e).run P u = .ok z u) {x : Value} {l : Lit} (hx : keyOf P k x = some l) :
    ∃ (st : Value) (w1 : World), (Instr.mapEntry t (.map (some b)) x).run P w = .ok (.tuple #[(kfind l ps).getD z, st]) w1 ∧ Entry P k t b ps l z st w w1 := by
  have hlook := h.look K ht (hz w) hx
  have hst := fun v => h.store K ht hn hx v
  obtain ⟨es, clock, hb, F, hsz, hD⟩ := h
  obtain ⟨s1, s2, _⟩ := F.stamped
  have hfit := F
  rcases K.find w hx es.toList F.keys with ⟨h1, h2⟩ | ⟨j, e0, h1, h2, h3⟩
  · have hzv : (kfind l ps).getD z = z := by
      have hl : (Instr.lookup t (.map (some b)) x false).run P w = .ok z w := by
        simp [Instr.lookup, run_underlying ht, MapKept.run_getObj_map hb, K.check w es.isEmpty hx, h1, hz, Result.andThen]
      rw [hlook] at hl
      injection hl
    have hup : ∀ v, (Instr.mapUpdate t (.map (some b)) x v).run P w = .ok () (setBlock w b (.map (es.push ⟨x, v, clock⟩) (clock + 1))) := fun v => by
      simp [Instr.mapUpdate, run_underlying ht, MapKept.run_getObj_map hb, K.check w false hx, h1, MapKept.run_setObj_map _ hb, Result.andThen, setBlock]
    have hkm : ∀ v, KMap P k (setBlock w b (.map (es.push ⟨x, v, clock⟩) (clock + 1))) b (kput l v ps) := fun v => by
      obtain ⟨w', r1, r2, _⟩ := hst v
      rw [hup v] at r1
      injection r1 with _ r1
      rw [r1]
      exact r2
    refine ⟨goInt clock, setBlock w b (.map (es.push ⟨x, z, clock⟩) (clock + 1)), ?_, setBlock_keep hb, ⟨_, hkm z, fun l' => ?_, kput_len l z ps⟩, fun w2 v hw2 => ?_⟩
    · rw [hzv]
      simp [Instr.mapEntry, run_underlying ht, MapKept.run_getObj_map hb, K.check w false hx, h1, hz, MapKept.run_setObj_map _ hb, Result.andThen, setBlock]
    · rw [kfind_put]
      split
      · rename_i hs
        have := same_eq hs
        subst this
        rw [hzv]; rfl
      · rfl
    · rw [Go.ChangeMaps.heap_setBlock_same hb] at hw2
      have hidx : (es.push ⟨x, z, clock⟩).findIdx? (fun e => ((e.born : Nat) : Int) == ((clock : Nat) : Int)) = some es.size := by
        rw [WideElems.findIdx_arr]
        exact WideElems.findIdx_born (l := (es.push ⟨x, z, clock⟩).toList) (j := es.size) (e0 := ⟨x, z, clock⟩) (by
          rw [Array.toList_push, List.map_append]
          refine List.nodup_append.2 ⟨s2, by simp, fun a ha c hc e1 => ?_⟩
          simp only [List.map_cons, List.map_nil, List.mem_singleton] at hc
          obtain ⟨y, hy, rfl⟩ := List.mem_map.1 ha
          have := s1 y hy
          omega) (by simp)
      have hmod : (es.push ⟨x, z, clock⟩).modify es.size (fun e => { e with val := v }) = es.push ⟨x, v, clock⟩ := by
        apply Array.ext'
        rw [Array.toList_modify, Array.toList_push, Array.toList_push, ← Array.length_toList, WideElems.modify_last]
      refine ⟨setBlock w2 b (.map (es.push ⟨x, v, clock⟩) (clock + 1)), ?_, ?_, setBlock_keep hw2⟩
      · simp [Instr.entryStore, MapKept.run_getObj_map hw2, asInt, asIntOf, goInt, hidx, hmod, MapKept.run_setObj_map _ hw2, Result.andThen, setBlock]
      · exact kmap_same (hkm v) (Go.ChangeMaps.heap_setBlock_same hb _) (Go.ChangeMaps.heap_setBlock_same hw2 _)
  · have hj : es[j]? = some e0 := by simpa using h2
    have hsame : es.modify j (fun e => { e with key := x }) = es := by
      apply Array.ext'
      rw [Array.toList_modify, Go.ChangeMaps.modify_eq_set _ _ _ _ h2]
      have : ({ e0 with key := x } : MapEntry) = e0 := by rw [← h3]
      rw [this]
      exact WideElems.set_self _ _ _ h2
    have hzv : (kfind l ps).getD z = e0.val := by
      have hl : (Instr.lookup t (.map (some b)) x false).run P w = .ok e0.val w := by
        simp [Instr.lookup, run_underlying ht, MapKept.run_getObj_map hb, K.check w es.isEmpty hx, h1, Result.andThen]
      rw [hlook] at hl
      injection hl
    have hup : ∀ v, (Instr.mapUpdate t (.map (some b)) x v).run P w = .ok () (setBlock w b (.map (es.modify j (fun e' => { e' with key := x, val := v })) clock)) := fun v => by
      simp [Instr.mapUpdate, run_underlying ht, MapKept.run_getObj_map hb, K.check w false hx, h1, hj, h3, K.stays w hx, MapKept.run_setObj_map _ hb, Result.andThen, setBlock]
    have hkm : ∀ v, KMap P k (setBlock w b (.map (es.modify j (fun e' => { e' with key := x, val := v })) clock)) b (kput l v ps) := fun v => by
      obtain ⟨w', r1, r2, _⟩ := hst v
      rw [hup v] at r1
      injection r1 with _ r1
      rw [r1]
      exact r2
    have hk0 : KMap P k w b ps := ⟨es, clock, hb, hfit, hsz, hD⟩
    refine ⟨goInt e0.born, setBlock w b (.map es clock), ?_, setBlock_keep hb, ⟨ps, kmap_same hk0 hb (Go.ChangeMaps.heap_setBlock_same hb _), fun _ => rfl, Nat.le_succ _⟩, fun w2 v hw2 => ?_⟩
    · rw [hzv]
      simp [Instr.mapEntry, run_underlying ht, MapKept.run_getObj_map hb, K.check w false hx, h1, hj, h3, K.stays w hx, hsame, MapKept.run_setObj_map _ hb, Result.andThen, setBlock]
    · rw [Go.ChangeMaps.heap_setBlock_same hb] at hw2
      have hidx : es.findIdx? (fun e => ((e.born : Nat) : Int) == ((e0.born : Nat) : Int)) = some j := by
        rw [WideElems.findIdx_arr]
        exact WideElems.findIdx_born s2 h2
      have hmod : es.modify j (fun e => { e with val := v }) = es.modify j (fun e' => { e' with key := x, val := v }) := by
        apply Array.ext'
        rw [Array.toList_modify, Array.toList_modify, Go.ChangeMaps.modify_eq_set _ _ _ _ h2, Go.ChangeMaps.modify_eq_set _ _ _ _ h2, ← h3]
      refine ⟨setBlock w2 b (.map (es.modify j (fun e' => { e' with key := x, val := v })) clock), ?_, ?_, setBlock_keep hw2⟩
      · simp [Instr.entryStore, MapKept.run_getObj_map hw2, asInt, asIntOf, goInt, hidx, hmod, MapKept.run_setObj_map _ hw2, Result.andThen, setBlock]
      · exact kmap_same (hkm v) (Go.ChangeMaps.heap_setBlock_same hb _) (Go.ChangeMaps.heap_setBlock_same hw2 _)
end
end Go.Proofs.Ytfpcmleeehciaaa
