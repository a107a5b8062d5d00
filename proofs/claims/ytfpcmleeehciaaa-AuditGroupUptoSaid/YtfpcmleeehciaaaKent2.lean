/-
  GENERAL WORDS, OVER ANY PROGRAM: 'a[i], b[j] = x, y' ON TWO MAPS, IN WHATEVER ORDER: one grid of worlds.
-/
import Derived.Test.YtfpcmleeehciaaaKent
namespace Go.Proofs.Ytfpcmleeehciaaa
set_option linter.unusedVariables false
set_option linter.unusedSimpArgs false
open Go.RowKit
open Go.Maps (Keyed)
open Go.ChangeMaps (setBlock)

theorem setBlock_same {w : World} {b : Nat} (h : b < w.heap.size) (o : Obj) : (setBlock w b o).heap[b]? = some o := by
  unfold setBlock
  simp [Array.getElem?_setIfInBounds, h]
theorem setBlock_at (w : World) (b : Nat) (o : Obj) : (setBlock w b o).heap[b]? = if b < w.heap.size then some o else none := by
  unfold setBlock
  simp [Array.getElem?_setIfInBounds]
section
variable {P : Program} {k t e : TypeId} {w : World} {b : Nat} {ps : List Ke}
theorem at_unique {es : List MapEntry} (h : (es.map (fun x => x.key)).Nodup) {i j : Nat} {a c : MapEntry} (hi : es[i]? = some a) (hj : es[j]? = some c) (hk : a.key = c.key) : i = j := by
  obtain ⟨hi1, rfl⟩ := List.getElem?_eq_some_iff.1 hi
  obtain ⟨hj1, rfl⟩ := List.getElem?_eq_some_iff.1 hj
  exact (List.getElem_inj (h₀ := by simpa using hi1) (h₁ := by simpa using hj1) h).1 (by simpa using hk)
/-- The entry of a key in every world in which the map lies as it does here. -/
theorem KMap.entryU (h : KMap P k w b ps) (K : Keyed P k) (ht : P.underlying t = some (.map k e)) (hn : ps.length < maxLen) {z : Value} (hz : ∀ u : World, (zeroValue e).run P u = .ok z u) {x : Value} {l : Lit} (hx : keyOf P k x = some l) (v : Value) :
    ∃ (st : Value) (o1 o2 : Obj), (∀ wX, wX.heap[b]? = w.heap[b]? → (Instr.mapEntry t (.map (some b)) x).run P wX = .ok (.tuple #[(kfind l ps).getD z, st]) (setBlock wX b o1)) ∧
      (∀ wY, wY.heap[b]? = some o1 → (Instr.entryStore t (.map (some b)) st v).run P wY = .ok () (setBlock wY b o2)) ∧
      ∀ wZ, wZ.heap[b]? = some o2 → KMap P k wZ b (kput l v ps) := by
  obtain ⟨es, clock, hb, F, hsz, hD⟩ := id h
  obtain ⟨s1, s2, s3⟩ := F.stamped
  have mk : ∀ (st : Value) (o1 o2 : Obj), (∀ wX, wX.heap[b]? = w.heap[b]? → ∃ v0, (Instr.mapEntry t (.map (some b)) x).run P wX = .ok (.tuple #[v0, st]) (setBlock wX b o1)) → (∀ wY, wY.heap[b]? = some o1 → (Instr.entryStore t (.map (some b)) st v).run P wY = .ok () (setBlock wY b o2)) →
      ∃ (st : Value) (o1 o2 : Obj), (∀ wX, wX.heap[b]? = w.heap[b]? → (Instr.mapEntry t (.map (some b)) x).run P wX = .ok (.tuple #[(kfind l ps).getD z, st]) (setBlock wX b o1)) ∧
      (∀ wY, wY.heap[b]? = some o1 → (Instr.entryStore t (.map (some b)) st v).run P wY = .ok () (setBlock wY b o2)) ∧
      ∀ wZ, wZ.heap[b]? = some o2 → KMap P k wZ b (kput l v ps) := fun st o1 o2 hA hB => by
    have hA' : ∀ wX, wX.heap[b]? = w.heap[b]? → (Instr.mapEntry t (.map (some b)) x).run P wX = .ok (.tuple #[(kfind l ps).getD z, st]) (setBlock wX b o1) := fun wX hX => by
      obtain ⟨v0, h0⟩ := hA wX hX
      obtain ⟨st', w1, h1, -⟩ := (h.blk hX).entry K ht hn hz hx
      rw [h0] at h1
      injection h1 with h1 _
      injection h1 with h1
      injection h1 with h1
      injection h1 with h1 _
      rw [h0, h1]
    refine ⟨st, o1, o2, hA', hB, fun wZ hZ => ?_⟩
    obtain ⟨st', w1, h1, hE⟩ := h.entry K ht hn hz hx
    rw [hA' w rfl] at h1
    injection h1 with h1 h2
    injection h1 with h1
    injection h1 with h1
    injection h1 with _ h1
    injection h1 with h1 _
    subst h1
    have hw1 : w1.heap[b]? = some o1 := by rw [← h2]; exact setBlock_same (h.lt) _
    obtain ⟨w3, r1, r2, -⟩ := hE.put w1 v rfl
    rw [hB w1 hw1] at r1
    injection r1 with _ r1
    have h3 : w3.heap[b]? = some o2 := by rw [← r1]; exact setBlock_same (by rw [← h2]; simp [setBlock]; exact h.lt) _
    exact kmap_same r2 h3 hZ
  by_cases hex : ∃ (j : Nat) (e0 : MapEntry), es.toList[j]? = some e0 ∧ e0.key = x
  · obtain ⟨j, e0, h2, h3⟩ := hex
    have hfind : ∀ wX, (Instr.findKey k x es.toList).run P wX = .ok (some (j, e0.val)) wX := fun wX => by
      rcases K.find wX hx es.toList F.keys with ⟨_, h5⟩ | ⟨j', e0', h4, h5, h6⟩
      · exact absurd h3 (h5 e0 (List.mem_of_getElem? h2))
      · obtain rfl := at_unique s3 h2 h5 (h3.trans h6.symm)
        rw [h2] at h5
        obtain rfl := Option.some.inj h5
        exact h4
    have hj : es[j]? = some e0 := by simpa using h2
    have hsame : es.modify j (fun e => { e with key := x }) = es := by
      apply Array.ext'
      rw [Array.toList_modify, Go.ChangeMaps.modify_eq_set _ _ _ _ h2]
      have : ({ e0 with key := x } : MapEntry) = e0 := by rw [← h3]
      rw [this]
      exact WideElems.set_self _ _ _ h2
    refine mk (goInt e0.born) (.map es clock) (.map (es.modify j (fun e => { e with val := v })) clock) (fun wX hX => ⟨e0.val, ?_⟩) (fun wY hY => ?_)
    · rw [hb] at hX
      simp [Instr.mapEntry, run_underlying ht, MapKept.run_getObj_map hX, K.check wX false hx, hfind wX, hj, h3, K.stays wX hx, hsame, MapKept.run_setObj_map _ hX, Result.andThen, setBlock]
    · have hidx : es.findIdx? (fun e => ((e.born : Nat) : Int) == ((e0.born : Nat) : Int)) = some j := by
        rw [WideElems.findIdx_arr]
        exact WideElems.findIdx_born s2 h2
      simp [Instr.entryStore, MapKept.run_getObj_map hY, asInt, asIntOf, goInt, hidx, MapKept.run_setObj_map _ hY, Result.andThen, setBlock]
  · have hfind : ∀ wX, (Instr.findKey k x es.toList).run P wX = .ok none wX := fun wX => by
      rcases K.find wX hx es.toList F.keys with ⟨h4, _⟩ | ⟨j', e0', h4, h5, h6⟩
      · exact h4
      · exact absurd ⟨j', e0', h5, h6⟩ hex
    have hidx : (es.push ⟨x, z, clock⟩).findIdx? (fun e => ((e.born : Nat) : Int) == ((clock : Nat) : Int)) = some es.size := by
      rw [WideElems.findIdx_arr]
      exact WideElems.findIdx_born (l := (es.push ⟨x, z, clock⟩).toList) (j := es.size) (e0 := ⟨x, z, clock⟩) (by
        rw [Array.toList_push, List.map_append]
        refine List.nodup_append.2 ⟨s2, by simp, fun a ha c hc e1 => ?_⟩
        simp only [List.map_cons, List.map_nil, List.mem_singleton] at hc
        obtain ⟨y, hy, rfl⟩ := List.mem_map.1 ha
        have := s1 y hy
        omega) (by simp)
    have hmod : (es.push ⟨x, z, clock⟩).modify es.size (fun e => { e with val := v }) = es.push ⟨x, v, clock⟩ := by
      apply Array.ext'
      rw [Array.toList_modify, Array.toList_push, Array.toList_push, ← Array.length_toList, WideElems.modify_last]
    refine mk (goInt clock) (.map (es.push ⟨x, z, clock⟩) (clock + 1)) (.map (es.push ⟨x, v, clock⟩) (clock + 1)) (fun wX hX => ⟨z, ?_⟩) (fun wY hY => ?_)
    · rw [hb] at hX
      simp [Instr.mapEntry, run_underlying ht, MapKept.run_getObj_map hX, K.check wX false hx, hfind wX, hz, MapKept.run_setObj_map _ hX, Result.andThen, setBlock]
    · simp [Instr.entryStore, MapKept.run_getObj_map hY, asInt, asIntOf, goInt, hidx, hmod, MapKept.run_setObj_map _ hY, Result.andThen, setBlock]
end
theorem setBlock_comm (w : World) {a b : Nat} (h : a ≠ b) (x y : Obj) : setBlock (setBlock w a x) b y = setBlock (setBlock w b y) a x := by
  unfold setBlock
  simp only
  rw [Array.setIfInBounds_comm _ _ h]
theorem setBlock_twice (w : World) (a : Nat) (x y : Obj) : setBlock (setBlock w a x) a y = setBlock w a y := by
  unfold setBlock
  simp
theorem setBlock_other {w : World} {a b : Nat} (h : b ≠ a) (x : Obj) : (setBlock w a x).heap[b]? = w.heap[b]? := by
  unfold setBlock
  simp [Array.getElem?_setIfInBounds, h.symm]
/-- The worlds of two entries that are made and written, in whatever order. -/
def grid (w : World) (a b : Nat) (x1 x2 y1 y2 : Obj) (i j : Nat) : World :=
  let u := match i with | 0 => w | 1 => setBlock w a x1 | _ => setBlock w a x2
  match j with | 0 => u | 1 => setBlock u b y1 | _ => setBlock u b y2
theorem grid_keep (w : World) (a b : Nat) (x1 x2 y1 y2 : Obj) (i j : Nat) : Keep (fun k => k ≠ a ∧ k ≠ b) w (grid w a b x1 x2 y1 y2 i j) := by
  have key : ∀ (w : World) (c : Nat) (o : Obj), Keep (fun k => k ≠ c) w (setBlock w c o) := fun w c o => ⟨rfl, rfl, rfl, by simp [setBlock], fun i _ hi => setBlock_other hi o⟩
  have k1 : ∀ i, Keep (fun k => k ≠ a ∧ k ≠ b) w (match i with | 0 => w | 1 => setBlock w a x1 | _ => setBlock w a x2) := fun i => by
    match i with
    | 0 => exact Keep.refl _ _
    | 1 => exact (key w a x1).weaken fun _ _ h => h.1
    | _ + 2 => exact (key w a x2).weaken fun _ _ h => h.1
  unfold grid
  simp only
  match j with
  | 0 => exact k1 i
  | 1 => exact (k1 i).trans ((key _ b y1).weaken fun _ _ h => h.2)
  | _ + 2 => exact (k1 i).trans ((key _ b y2).weaken fun _ _ h => h.2)
section
variable {w : World} {a b : Nat} (h : a ≠ b) (ha : a < w.heap.size) (hb : b < w.heap.size) (x1 x2 y1 y2 : Obj)
include h
theorem grid_u1 (j : Nat) : setBlock (grid w a b x1 x2 y1 y2 0 j) a x1 = grid w a b x1 x2 y1 y2 1 j := by
  match j with
  | 0 => rfl
  | 1 => exact setBlock_comm w h.symm y1 x1
  | _ + 2 => exact setBlock_comm w h.symm y2 x1
theorem grid_u2 (j : Nat) : setBlock (grid w a b x1 x2 y1 y2 1 j) a x2 = grid w a b x1 x2 y1 y2 2 j := by
  match j with
  | 0 => exact setBlock_twice w a x1 x2
  | 1 => exact (setBlock_comm _ h.symm y1 x2).trans (congrArg (fun u => setBlock u b y1) (setBlock_twice w a x1 x2))
  | _ + 2 => exact (setBlock_comm _ h.symm y2 x2).trans (congrArg (fun u => setBlock u b y2) (setBlock_twice w a x1 x2))
omit h in
theorem grid_l1 (i : Nat) : setBlock (grid w a b x1 x2 y1 y2 i 0) b y1 = grid w a b x1 x2 y1 y2 i 1 := rfl
omit h in
theorem grid_l2 (i : Nat) : setBlock (grid w a b x1 x2 y1 y2 i 1) b y2 = grid w a b x1 x2 y1 y2 i 2 := setBlock_twice _ b y1 y2
theorem grid_a (i j : Nat) : (grid w a b x1 x2 y1 y2 i j).heap[a]? = (grid w a b x1 x2 y1 y2 i 0).heap[a]? := by
  match j with
  | 0 => rfl
  | 1 => exact setBlock_other h y1
  | _ + 2 => exact setBlock_other h y2
theorem grid_b (i j : Nat) : (grid w a b x1 x2 y1 y2 i j).heap[b]? = (grid w a b x1 x2 y1 y2 0 j).heap[b]? := by
  have key : ∀ i, (match i with | 0 => w | 1 => setBlock w a x1 | _ => setBlock w a x2 : World).heap[b]? = w.heap[b]? := fun i => by
    match i with
    | 0 => rfl
    | 1 => exact setBlock_other h.symm x1
    | _ + 2 => exact setBlock_other h.symm x2
  have sz : ∀ i, (match i with | 0 => w | 1 => setBlock w a x1 | _ => setBlock w a x2 : World).heap.size = w.heap.size := fun i => by
    match i with
    | 0 => rfl
    | 1 => simp [setBlock]
    | _ + 2 => simp [setBlock]
  unfold grid
  simp only
  match j with
  | 0 => exact key i
  | 1 => exact (setBlock_at _ b y1).trans ((congrArg (fun n => if b < n then some y1 else none) (sz i)).trans (setBlock_at w b y1).symm)
  | _ + 2 => exact (setBlock_at _ b y2).trans ((congrArg (fun n => if b < n then some y2 else none) (sz i)).trans (setBlock_at w b y2).symm)
end
/-- Both entries' laws on the grid. -/
theorem two_entries {P : Program} {k t e k' t' e' : TypeId} {w : World} {a b : Nat} {ps qs : List Ke} (hA : KMap P k w a ps) (hB : KMap P k' w b qs) (h : a ≠ b) (K : Keyed P k) (K' : Keyed P k') (ht : P.underlying t = some (.map k e)) (ht' : P.underlying t' = some (.map k' e')) (hn : ps.length < maxLen) (hn' : qs.length < maxLen)
    {z z' : Value} (hz : ∀ u : World, (zeroValue e).run P u = .ok z u) (hz' : ∀ u : World, (zeroValue e').run P u = .ok z' u) {x x' : Value} {l l' : Lit} (hx : keyOf P k x = some l) (hx' : keyOf P k' x' = some l') (v v' : Value) :
    ∃ (st st' : Value) (v0 v0' : Value) (W : Nat → Nat → World), W 0 0 = w ∧ (∀ i j, Keep (fun k => k ≠ a ∧ k ≠ b) w (W i j)) ∧
      (∀ j, (Instr.mapEntry t (.map (some a)) x).run P (W 0 j) = .ok (.tuple #[v0, st]) (W 1 j)) ∧ (∀ j, (Instr.entryStore t (.map (some a)) st v).run P (W 1 j) = .ok () (W 2 j)) ∧
      (∀ i, (Instr.mapEntry t' (.map (some b)) x').run P (W i 0) = .ok (.tuple #[v0', st']) (W i 1)) ∧ (∀ i, (Instr.entryStore t' (.map (some b)) st' v').run P (W i 1) = .ok () (W i 2)) ∧
      KMap P k (W 2 2) a (kput l v ps) ∧ KMap P k' (W 2 2) b (kput l' v' qs) := by
  obtain ⟨st, x1, x2, h1, h2, h3⟩ := hA.entryU K ht hn hz hx v
  obtain ⟨st', y1, y2, g1, g2, g3⟩ := hB.entryU K' ht' hn' hz' hx' v'
  have sa := hA.lt
  have sb := hB.lt
  have at1 : ∀ j, (grid w a b x1 x2 y1 y2 1 j).heap[a]? = some x1 := fun j => by
    rw [grid_a h]
    simp [grid, setBlock, Array.getElem?_setIfInBounds, sa]
  have at2 : ∀ j, (grid w a b x1 x2 y1 y2 2 j).heap[a]? = some x2 := fun j => by
    rw [grid_a h]
    simp [grid, setBlock, Array.getElem?_setIfInBounds, sa]
  have bt1 : ∀ i, (grid w a b x1 x2 y1 y2 i 1).heap[b]? = some y1 := fun i => by
    rw [grid_b h]
    simp [grid, setBlock, Array.getElem?_setIfInBounds, sb]
  have bt2 : ∀ i, (grid w a b x1 x2 y1 y2 i 2).heap[b]? = some y2 := fun i => by
    rw [grid_b h]
    simp [grid, setBlock, Array.getElem?_setIfInBounds, sb]
  refine ⟨st, st', (kfind l ps).getD z, (kfind l' qs).getD z', grid w a b x1 x2 y1 y2, rfl, grid_keep w a b x1 x2 y1 y2, fun j => ?_, fun j => ?_, fun i => ?_, fun i => ?_, h3 _ (at2 2), g3 _ (bt2 2)⟩
  · rw [h1 _ (by rw [grid_a h]; rfl), grid_u1 h]
  · rw [h2 _ (at1 j), grid_u2 h]
  · rw [g1 _ (by rw [grid_b h]; rfl), grid_l1]
  · rw [g2 _ (bt1 i), grid_l2]
end Go.Proofs.Ytfpcmleeehciaaa
