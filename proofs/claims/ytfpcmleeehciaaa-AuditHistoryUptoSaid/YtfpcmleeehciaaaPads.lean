/-
  ROWS THAT ARE 64 LONGER THAN WHAT IS LOOKED AT.
-/
import Derived.Test.YtfpcmleeehciaaaCopied
namespace Go.Proofs.Ytfpcmleeehciaaa
set_option linter.unusedVariables false
set_option linter.unusedSimpArgs false
open Go.RowKit

def memPad (k : Nat) : MemD := ⟨-7 - (k : Int), 0, 0⟩
def trPad (k : Nat) : Int := -7 - (k : Int)
def byPad (k : Nat) : UInt8 := UInt8.ofNat (200 - k)
def memPads (j : Nat) : List MemD := (List.range j).map memPad
def trPads (j : Nat) : List Int := (List.range j).map trPad
def byPads (j : Nat) : List UInt8 := (List.range j).map byPad
theorem byPad_nat {k : Nat} (h : k < 64) : ((byPad k).toNat : Int) = 200 - (k : Int) := by
  unfold byPad
  rw [UInt8.toNat_ofNat']
  omega
theorem memPads_succ (j : Nat) : memPads (j + 1) = memPads j ++ [memPad j] := by simp [memPads, List.range_succ]
theorem trPads_succ (j : Nat) : trPads (j + 1) = trPads j ++ [trPad j] := by simp [trPads, List.range_succ]
theorem byPads_succ (j : Nat) : byPads (j + 1) = byPads j ++ [byPad j] := by simp [byPads, List.range_succ]
theorem mem_snoc (a : List MemD) (x : MemD) : rcells MemD.cells a ++ x.cells = rcells MemD.cells (a ++ [x]) := by simp [rcells]

/-- The three rows of a mark that is being copied; the copy lies in block G. -/
structure Pads (wr wi : World) (G : Nat) (x : MkV) (jm jt jb : Nat) (vm vt vb : Value) : Prop where
  m : wi.ownsRow wr.heap.size 55 3 vm (x.d.mem.length + jm) (rcells MemD.cells (x.d.mem ++ memPads jm))
  t : wi.ownsRow wr.heap.size 3 1 vt (x.d.tr.length + jt) (ics (x.d.tr ++ trPads jt))
  b : wi.ownsRow wr.heap.size 5 1 vb (x.d.body.length + jb) (Lib.byteCells (x.d.body ++ byPads jb))
  blk : Blk wi G 50 x.cells.toArray
  fresh : Fresh wr wi
section
variable {wr wi w1 : World} {G jm jt jb : Nat} {x : MkV} {vm vt vb v' : Value}
theorem Pads.stepM (h : Pads wr wi G x jm jt jb vm vt vb) (ho : w1.ownsRow wr.heap.size 55 3 v' (x.d.mem.length + jm + 1) (rcells MemD.cells (x.d.mem ++ memPads jm) ++ (memPad jm).cells)) (hk : Keep (fun k => vm.ownBlock ≠ some k) wi w1) : Pads wr w1 G x (jm + 1) jt jb v' vt vb := by
  refine ⟨?_, own_keep h.t hk (fun k e => own_ne_owned h.t h.m (by decide) e), own_keep h.b hk (fun k e => own_ne_owned h.b h.m (by decide) e), h.blk.keep hk (own_ne_blk h.m h.blk (by decide)), h.fresh.comp hk (fun _ _ h => h) (fun i hi _ e => by have := (own_lt h.m e).1; omega)⟩
  rw [mem_snoc, List.append_assoc, ← memPads_succ] at ho
  exact ho
theorem Pads.stepT (h : Pads wr wi G x jm jt jb vm vt vb) (ho : w1.ownsRow wr.heap.size 3 1 v' (x.d.tr.length + jt + 1) (ics (x.d.tr ++ trPads jt) ++ [.int .i64 (trPad jt)])) (hk : Keep (fun k => vt.ownBlock ≠ some k) wi w1) : Pads wr w1 G x jm (jt + 1) jb vm v' vb := by
  refine ⟨own_keep h.m hk (fun k e => own_ne_owned h.m h.t (by decide) e), ?_, own_keep h.b hk (fun k e => own_ne_owned h.b h.t (by decide) e), h.blk.keep hk (own_ne_blk h.t h.blk (by decide)), h.fresh.comp hk (fun _ _ h => h) (fun i hi _ e => by have := (own_lt h.t e).1; omega)⟩
  have e : ics (x.d.tr ++ trPads jt) ++ [.int .i64 (trPad jt)] = ics (x.d.tr ++ trPads (jt + 1)) := by rw [trPads_succ]; simp [ics]
  rw [e] at ho
  exact ho
theorem Pads.stepB (h : Pads wr wi G x jm jt jb vm vt vb) (ho : w1.ownsRow wr.heap.size 5 1 v' (x.d.body.length + jb + 1) (Lib.byteCells (x.d.body ++ byPads jb) ++ [.int .u8 ((byPad jb).toNat : Int)])) (hk : Keep (fun k => vb.ownBlock ≠ some k) wi w1) : Pads wr w1 G x jm jt (jb + 1) vm vt v' := by
  refine ⟨own_keep h.m hk (fun k e => own_ne_owned h.m h.b (by decide) e), own_keep h.t hk (fun k e => own_ne_owned h.t h.b (by decide) e), ?_, h.blk.keep hk (own_ne_blk h.b h.blk (by decide)), h.fresh.comp hk (fun _ _ h => h) (fun i hi _ e => by have := (own_lt h.b e).1; omega)⟩
  have e : Lib.byteCells (x.d.body ++ byPads jb) ++ [.int .u8 ((byPad jb).toNat : Int)] = Lib.byteCells (x.d.body ++ byPads (jb + 1)) := by rw [byPads_succ]; simp [Lib.byteCells]
  rw [e] at ho
  exact ho
end

/-! ### soft blocks: of members, ints, bytes -/
abbrev SoftT (t : TypeId) : Prop := t = 55 ∨ t = 3 ∨ t = 5
def Soft (w w' : World) : Prop := ∀ (k : Nat) (cs : Array Value) (t : TypeId) (fr : Nat × Nat), w.heap[k]? = some (Obj.cells cs t fr) → SoftT t → w'.heap[k]? = w.heap[k]?
theorem Soft.trans {a b c : World} (h : Soft a b) (k : Soft b c) : Soft a c := fun i cs t fr hi ht => by
  have h1 := h i cs t fr hi ht
  rw [k i cs t fr (h1.trans hi) ht, h1]
theorem Soft.fresh {a b : World} (h : Fresh a b) : Soft a b := fun i cs t fr hi _ => h.block i (lt_of_block hi) trivial
theorem Soft.own {a b : World} {base e size n : Nat} {v : Value} {xs : List Value} (ho : a.ownsRow base e size v n xs) (he : ¬ SoftT e) (h : Keep (fun k => v.ownBlock ≠ some k) a b) : Soft a b := fun i cs t fr hi ht => by
  refine h.block i (lt_of_block hi) fun hv => ?_
  rcases ho.2 with ⟨rfl, _⟩ | ⟨g, cap, cur, rfl, _, hh, _⟩
  · simp [Value.ownBlock] at hv
  · simp [Value.ownBlock] at hv
    subst hv
    rw [hi] at hh
    injection hh with hh
    injection hh with _ h2
    exact he (h2 ▸ ht)
theorem Soft.set {a : World} {X i : Nat} {t : TypeId} {cs : Array Value} (hb : Blk a X t cs) (ht : ¬ SoftT t) (u : Value) : Soft a (a.setCell ⟨X, i, none⟩ u) := fun k cs' t' fr hk ht' => by
  refine Below.heap_setCell a ⟨X, i, none⟩ u k ?_
  rintro rfl
  unfold Blk at hb
  rw [hb] at hk
  injection hk with hk
  injection hk with _ h2
  exact ht (h2 ▸ ht')
theorem own_soft {w w' : World} {base e size n : Nat} {v : Value} {xs : List Value} (h : w.ownsRow base e size v n xs) (he : SoftT e) (hs : Soft w w') : w'.ownsRow base e size v n xs := by
  refine ⟨h.1, ?_⟩
  rcases h.2 with hn | ⟨g, cap, cur, rfl, hb, hgg, rest⟩
  · exact .inl hn
  · exact .inr ⟨g, cap, cur, rfl, hb, (hs g _ _ _ hgg he).trans hgg, rest⟩
/-- A long row and the piece of it that is looked at. -/
def LRow (w : World) (base te sz : Nat) (hdr long : Value) (n : Nat) (xs pads : List Value) : Prop :=
  ∃ g c, long = .slice (some ⟨g, 0, none⟩) (n + 64) c ∧ hdr = .slice (some ⟨g, 0, none⟩) n c ∧ xs.length = n * sz ∧ w.ownsRow base te sz long (n + 64) (xs ++ pads)
theorem LRow.soft {w w' : World} {base te sz : Nat} {hdr long : Value} {n : Nat} {xs pads : List Value} (h : LRow w base te sz hdr long n xs pads) (ht : SoftT te) (hs : Soft w w') : LRow w' base te sz hdr long n xs pads := by
  obtain ⟨g, c, h1, h2, h3, h4⟩ := h
  exact ⟨g, c, h1, h2, h3, own_soft h4 ht hs⟩
/-- The piece reads. -/
theorem LRow.sl {w : World} {base te sz : Nat} {hdr long : Value} {n : Nat} {xs pads : List Value} (h : LRow w base te sz hdr long n xs pads) : SlOk w (fun k => ∃ cs fr, w.heap[k]? = some (.cells cs te fr)) sz n hdr xs := by
  obtain ⟨g, c, rfl, rfl, h3, h4⟩ := h
  have h5 := own_cut h4 h3
  refine ⟨some ⟨g, 0, none⟩, c, rfl, ?_, fun _ => .inr (by simp), ?_⟩
  · obtain ⟨g', c', hv, _, _, hc⟩ := own_nonnil h4 (by omega)
    injection hv with _ _ hcc
    omega
  · refine (Blk.rdOwn h5).weaken fun k hk => ?_
    subst hk
    rcases h5.2 with ⟨hv, _⟩ | ⟨g', cap, cur, hv, _, hh, _⟩
    · cases hv
    · cases hv
      exact ⟨cur, _, hh⟩
/-- A mark of the loose list, and its three long rows. -/
structure LMk where
  x : MkV
  m : Value
  t : Value
  b : Value
structure LMkOk (w : World) (base : Nat) (p : LMk) : Prop where
  m : LRow w base 55 3 p.x.vm p.m p.x.d.mem.length (rcells MemD.cells p.x.d.mem) (rcells MemD.cells (memPads 64))
  t : LRow w base 3 1 p.x.vt p.t p.x.d.tr.length (ics p.x.d.tr) (ics (trPads 64))
  b : LRow w base 5 1 p.x.vb p.b p.x.d.body.length (Lib.byteCells p.x.d.body) (Lib.byteCells (byPads 64))
theorem LMkOk.soft {w w' : World} {base : Nat} {p : LMk} (h : LMkOk w base p) (hs : Soft w w') : LMkOk w' base p := ⟨h.m.soft (.inl rfl) hs, h.t.soft (.inr (.inl rfl)) hs, h.b.soft (.inr (.inr rfl)) hs⟩
end Go.Proofs.Ytfpcmleeehciaaa
