/-
  MERGED: Pads Quad Loosely
-/
import Derived.Test.YtohnmaindbgngaaGreatDoorQW
import Derived.Test.YtohnmaindbgngaaGreatDoorQS
import Derived.Deep.DeepCutAuto
import Derived.Deep.CutBlock
import Derived.Deep.RegionHeld3
namespace Go.Proofs.YtohnmaindbgngaaGreatDoor
set_option linter.unusedVariables false
set_option linter.unusedSimpArgs false
open Go.RowKit

def memPad (k : Nat) : MemD := ⟨-7 - (k : Int), 0, 0⟩
def trPad (k : Nat) : Int := -7 - (k : Int)
def byPad (k : Nat) : UInt8 := UInt8.ofNat (200 - k)
def memPads (j : Nat) : List MemD := (List.range j).map memPad
def trPads (j : Nat) : List Int := (List.range j).map trPad
def byPads (j : Nat) : List UInt8 := (List.range j).map byPad
theorem byPad_nat {k : Nat} (h : k < 64) : ((byPad k).toNat : Int) = 200 - (k : Int) := by
  unfold byPad
  rw [UInt8.toNat_ofNat']
  omega
theorem memPads_succ (j : Nat) : memPads (j + 1) = memPads j ++ [memPad j] := by simp [memPads, List.range_succ]
theorem trPads_succ (j : Nat) : trPads (j + 1) = trPads j ++ [trPad j] := by simp [trPads, List.range_succ]
theorem byPads_succ (j : Nat) : byPads (j + 1) = byPads j ++ [byPad j] := by simp [byPads, List.range_succ]
theorem mem_snoc (a : List MemD) (x : MemD) : rcells MemD.cells a ++ x.cells = rcells MemD.cells (a ++ [x]) := by simp [rcells]

/-- The three rows of a mark that is being copied; the copy lies in block G. -/
structure Pads (wr wi : World) (G : Nat) (x : MkV) (jm jt jb : Nat) (vm vt vb : Value) : Prop where
  m : wi.ownsRow wr.heap.size 59 3 vm (x.d.mem.length + jm) (rcells MemD.cells (x.d.mem ++ memPads jm))
  t : wi.ownsRow wr.heap.size 3 1 vt (x.d.tr.length + jt) (ics (x.d.tr ++ trPads jt))
  b : wi.ownsRow wr.heap.size 5 1 vb (x.d.body.length + jb) (Lib.byteCells (x.d.body ++ byPads jb))
  blk : Blk wi G 51 x.cells.toArray
  fresh : Fresh wr wi
section
variable {wr wi w1 : World} {G jm jt jb : Nat} {x : MkV} {vm vt vb v' : Value}
theorem Pads.stepM (h : Pads wr wi G x jm jt jb vm vt vb) (ho : w1.ownsRow wr.heap.size 59 3 v' (x.d.mem.length + jm + 1) (rcells MemD.cells (x.d.mem ++ memPads jm) ++ (memPad jm).cells)) (hk : Keep (fun k => vm.ownBlock ≠ some k) wi w1) : Pads wr w1 G x (jm + 1) jt jb v' vt vb := by
  refine ⟨?_, own_keep h.t hk (fun k e => own_ne_owned h.t h.m (by decide) e), own_keep h.b hk (fun k e => own_ne_owned h.b h.m (by decide) e), h.blk.keep hk (own_ne_blk h.m h.blk (by decide)), h.fresh.comp hk (fun _ _ h => h) (fun i hi _ e => by have := (own_lt h.m e).1; omega)⟩
  rw [mem_snoc, List.append_assoc, ← memPads_succ] at ho
  exact ho
theorem Pads.stepT (h : Pads wr wi G x jm jt jb vm vt vb) (ho : w1.ownsRow wr.heap.size 3 1 v' (x.d.tr.length + jt + 1) (ics (x.d.tr ++ trPads jt) ++ [.int .i64 (trPad jt)])) (hk : Keep (fun k => vt.ownBlock ≠ some k) wi w1) : Pads wr w1 G x jm (jt + 1) jb vm v' vb := by
  refine ⟨own_keep h.m hk (fun k e => own_ne_owned h.m h.t (by decide) e), ?_, own_keep h.b hk (fun k e => own_ne_owned h.b h.t (by decide) e), h.blk.keep hk (own_ne_blk h.t h.blk (by decide)), h.fresh.comp hk (fun _ _ h => h) (fun i hi _ e => by have := (own_lt h.t e).1; omega)⟩
  have e : ics (x.d.tr ++ trPads jt) ++ [.int .i64 (trPad jt)] = ics (x.d.tr ++ trPads (jt + 1)) := by rw [trPads_succ]; simp [ics]
  rw [e] at ho
  exact ho
theorem Pads.stepB (h : Pads wr wi G x jm jt jb vm vt vb) (ho : w1.ownsRow wr.heap.size 5 1 v' (x.d.body.length + jb + 1) (Lib.byteCells (x.d.body ++ byPads jb) ++ [.int .u8 ((byPad jb).toNat : Int)])) (hk : Keep (fun k => vb.ownBlock ≠ some k) wi w1) : Pads wr w1 G x jm jt (jb + 1) vm vt v' := by
  refine ⟨own_keep h.m hk (fun k e => own_ne_owned h.m h.b (by decide) e), own_keep h.t hk (fun k e => own_ne_owned h.t h.b (by decide) e), ?_, h.blk.keep hk (own_ne_blk h.b h.blk (by decide)), h.fresh.comp hk (fun _ _ h => h) (fun i hi _ e => by have := (own_lt h.b e).1; omega)⟩
  have e : Lib.byteCells (x.d.body ++ byPads jb) ++ [.int .u8 ((byPad jb).toNat : Int)] = Lib.byteCells (x.d.body ++ byPads (jb + 1)) := by rw [byPads_succ]; simp [Lib.byteCells]
  rw [e] at ho
  exact ho
end

/-! ### soft blocks: of members, ints, bytes -/
abbrev SoftT (t : TypeId) : Prop := t = 59 ∨ t = 3 ∨ t = 5
def Soft (w w' : World) : Prop := ∀ (k : Nat) (cs : Array Value) (t : TypeId) (fr : Nat × Nat), w.heap[k]? = some (Obj.cells cs t fr) → SoftT t → w'.heap[k]? = w.heap[k]?
theorem Soft.trans {a b c : World} (h : Soft a b) (k : Soft b c) : Soft a c := fun i cs t fr hi ht => by
  have h1 := h i cs t fr hi ht
  rw [k i cs t fr (h1.trans hi) ht, h1]
theorem Soft.fresh {a b : World} (h : Fresh a b) : Soft a b := fun i cs t fr hi _ => h.block i (lt_of_block hi) trivial
theorem Soft.own {a b : World} {base e size n : Nat} {v : Value} {xs : List Value} (ho : a.ownsRow base e size v n xs) (he : ¬ SoftT e) (h : Keep (fun k => v.ownBlock ≠ some k) a b) : Soft a b := fun i cs t fr hi ht => by
  refine h.block i (lt_of_block hi) fun hv => ?_
  rcases ho.2 with ⟨rfl, _⟩ | ⟨g, cap, cur, rfl, _, hh, _⟩
  · simp [Value.ownBlock] at hv
  · simp [Value.ownBlock] at hv
    subst hv
    rw [hi] at hh
    injection hh with hh
    injection hh with _ h2
    exact he (h2 ▸ ht)
theorem Soft.set {a : World} {X i : Nat} {t : TypeId} {cs : Array Value} (hb : Blk a X t cs) (ht : ¬ SoftT t) (u : Value) : Soft a (a.setCell ⟨X, i, none⟩ u) := fun k cs' t' fr hk ht' => by
  refine Below.heap_setCell a ⟨X, i, none⟩ u k ?_
  rintro rfl
  unfold Blk at hb
  rw [hb] at hk
  injection hk with hk
  injection hk with _ h2
  exact ht (h2 ▸ ht')
theorem own_soft {w w' : World} {base e size n : Nat} {v : Value} {xs : List Value} (h : w.ownsRow base e size v n xs) (he : SoftT e) (hs : Soft w w') : w'.ownsRow base e size v n xs := by
  refine ⟨h.1, ?_⟩
  rcases h.2 with hn | ⟨g, cap, cur, rfl, hb, hgg, rest⟩
  · exact .inl hn
  · exact .inr ⟨g, cap, cur, rfl, hb, (hs g _ _ _ hgg he).trans hgg, rest⟩
/-- A long row and the piece of it that is looked at. -/
def LRow (w : World) (base te sz : Nat) (hdr long : Value) (n : Nat) (xs pads : List Value) : Prop :=
  ∃ g c, long = .slice (some ⟨g, 0, none⟩) (n + 64) c ∧ hdr = .slice (some ⟨g, 0, none⟩) n c ∧ xs.length = n * sz ∧ w.ownsRow base te sz long (n + 64) (xs ++ pads)
theorem LRow.soft {w w' : World} {base te sz : Nat} {hdr long : Value} {n : Nat} {xs pads : List Value} (h : LRow w base te sz hdr long n xs pads) (ht : SoftT te) (hs : Soft w w') : LRow w' base te sz hdr long n xs pads := by
  obtain ⟨g, c, h1, h2, h3, h4⟩ := h
  exact ⟨g, c, h1, h2, h3, own_soft h4 ht hs⟩
/-- The piece reads. -/
theorem LRow.sl {w : World} {base te sz : Nat} {hdr long : Value} {n : Nat} {xs pads : List Value} (h : LRow w base te sz hdr long n xs pads) : SlOk w (fun k => ∃ cs fr, w.heap[k]? = some (.cells cs te fr)) sz n hdr xs := by
  obtain ⟨g, c, rfl, rfl, h3, h4⟩ := h
  have h5 := own_cut h4 h3
  refine ⟨some ⟨g, 0, none⟩, c, rfl, ?_, fun _ => .inr (by simp), ?_⟩
  · obtain ⟨g', c', hv, _, _, hc⟩ := own_nonnil h4 (by omega)
    injection hv with _ _ hcc
    omega
  · refine (Blk.rdOwn h5).weaken fun k hk => ?_
    subst hk
    rcases h5.2 with ⟨hv, _⟩ | ⟨g', cap, cur, hv, _, hh, _⟩
    · cases hv
    · cases hv
      exact ⟨cur, _, hh⟩
/-- A mark of the loose list, and its three long rows. -/
structure LMk where
  x : MkV
  m : Value
  t : Value
  b : Value
structure LMkOk (w : World) (base : Nat) (p : LMk) : Prop where
  m : LRow w base 59 3 p.x.vm p.m p.x.d.mem.length (rcells MemD.cells p.x.d.mem) (rcells MemD.cells (memPads 64))
  t : LRow w base 3 1 p.x.vt p.t p.x.d.tr.length (ics p.x.d.tr) (ics (trPads 64))
  b : LRow w base 5 1 p.x.vb p.b p.x.d.body.length (Lib.byteCells p.x.d.body) (Lib.byteCells (byPads 64))
theorem LMkOk.soft {w w' : World} {base : Nat} {p : LMk} (h : LMkOk w base p) (hs : Soft w w') : LMkOk w' base p := ⟨h.m.soft (.inl rfl) hs, h.t.soft (.inr (.inl rfl)) hs, h.b.soft (.inr (.inr rfl)) hs⟩
end Go.Proofs.YtohnmaindbgngaaGreatDoor
namespace Go.Proofs.YtohnmaindbgngaaGreatDoor
set_option linter.unusedVariables false
set_option linter.unusedSimpArgs false
open Go.RowKit

/-- The box X with its four rows; the mark that is being copied lies in G. -/
structure Quad (w wr : World) (X G : Nat) (cs : Array Value) (nL nM nT nB : Nat) (xL : List MkV) (xM xT xB : List Value) (vL vM vT vB : Value) : Prop where
  blk : Blk wr X 37 #[vL, vM, vT, vB]
  copy : Blk wr G 51 cs
  L : wr.ownsRow w.heap.size 51 26 vL nL (mcells xL)
  M : wr.ownsRow w.heap.size 46 1 vM nM xM
  T : wr.ownsRow w.heap.size 23 1 vT nT xT
  B : wr.ownsRow w.heap.size 47 1 vB nB xB
  fresh : Fresh w wr
  lo : w.heap.size ≤ X
  neL : vL.ownBlock ≠ some G
  hiG : w.heap.size ≤ G
section
variable {w wr w1 : World} {X G : Nat} {cs : Array Value} {nL nM nT nB : Nat} {xL : List MkV} {xM xT xB : List Value} {vL vM vT vB v' : Value}
theorem Quad.ne (h : Quad w wr X G cs nL nM nT nB xL xM xT xB vL vM vT vB) : X ≠ G := h.blk.ne h.copy (by decide)
theorem Quad.pushM {u : Value} (h : Quad w wr X G cs nL nM nT nB xL xM xT xB vL vM vT vB) (ho : w1.ownsRow w.heap.size 46 1 v' (nM + 1) (xM ++ [u])) (hk : Keep (fun k => vM.ownBlock ≠ some k) wr w1) :
    Quad w (w1.setCell ⟨X, 1, none⟩ v') X G cs nL (nM + 1) nT nB xL (xM ++ [u]) xT xB vL v' vT vB ∧ Soft wr (w1.setCell ⟨X, 1, none⟩ v') ∧ Blk w1 X 37 #[vL, vM, vT, vB] := by
  have hb : Blk w1 X 37 #[vL, vM, vT, vB] := h.blk.keep hk (own_ne_blk h.M h.blk (by decide))
  have hf : Fresh w w1 := h.fresh.comp hk (fun _ _ h => h) (fun i hi _ e => by have := (own_lt h.M e).1; omega)
  refine ⟨⟨hb.set 1 v', (h.copy.keep hk (own_ne_blk h.M h.copy (by decide))).far h.ne.symm _, own_far (own_keep h.L hk (fun k e => own_ne_owned h.L h.M (by decide) e)) (own_ne_blk (own_keep h.L hk (fun k e => own_ne_owned h.L h.M (by decide) e)) hb (by decide)) _, own_far ho (own_ne_blk ho hb (by decide)) _, own_far (own_keep h.T hk (fun k e => own_ne_owned h.T h.M (by decide) e)) (own_ne_blk (own_keep h.T hk (fun k e => own_ne_owned h.T h.M (by decide) e)) hb (by decide)) _, own_far (own_keep h.B hk (fun k e => own_ne_owned h.B h.M (by decide) e)) (own_ne_blk (own_keep h.B hk (fun k e => own_ne_owned h.B h.M (by decide) e)) hb (by decide)) _, hf.setCell (fun hl => absurd hl (by have := h.lo; show ¬ X < _; omega)) _, h.lo, h.neL, h.hiG⟩, (Soft.own h.M (by decide) hk).trans (Soft.set hb (by decide) v'), hb⟩
theorem Quad.pushT {u : Value} (h : Quad w wr X G cs nL nM nT nB xL xM xT xB vL vM vT vB) (ho : w1.ownsRow w.heap.size 23 1 v' (nT + 1) (xT ++ [u])) (hk : Keep (fun k => vT.ownBlock ≠ some k) wr w1) :
    Quad w (w1.setCell ⟨X, 2, none⟩ v') X G cs nL nM (nT + 1) nB xL xM (xT ++ [u]) xB vL vM v' vB ∧ Soft wr (w1.setCell ⟨X, 2, none⟩ v') ∧ Blk w1 X 37 #[vL, vM, vT, vB] := by
  have hb : Blk w1 X 37 #[vL, vM, vT, vB] := h.blk.keep hk (own_ne_blk h.T h.blk (by decide))
  have hf : Fresh w w1 := h.fresh.comp hk (fun _ _ h => h) (fun i hi _ e => by have := (own_lt h.T e).1; omega)
  refine ⟨⟨hb.set 2 v', (h.copy.keep hk (own_ne_blk h.T h.copy (by decide))).far h.ne.symm _, own_far (own_keep h.L hk (fun k e => own_ne_owned h.L h.T (by decide) e)) (own_ne_blk (own_keep h.L hk (fun k e => own_ne_owned h.L h.T (by decide) e)) hb (by decide)) _, own_far (own_keep h.M hk (fun k e => own_ne_owned h.M h.T (by decide) e)) (own_ne_blk (own_keep h.M hk (fun k e => own_ne_owned h.M h.T (by decide) e)) hb (by decide)) _, own_far ho (own_ne_blk ho hb (by decide)) _, own_far (own_keep h.B hk (fun k e => own_ne_owned h.B h.T (by decide) e)) (own_ne_blk (own_keep h.B hk (fun k e => own_ne_owned h.B h.T (by decide) e)) hb (by decide)) _, hf.setCell (fun hl => absurd hl (by have := h.lo; show ¬ X < _; omega)) _, h.lo, h.neL, h.hiG⟩, (Soft.own h.T (by decide) hk).trans (Soft.set hb (by decide) v'), hb⟩
theorem Quad.pushB {u : Value} (h : Quad w wr X G cs nL nM nT nB xL xM xT xB vL vM vT vB) (ho : w1.ownsRow w.heap.size 47 1 v' (nB + 1) (xB ++ [u])) (hk : Keep (fun k => vB.ownBlock ≠ some k) wr w1) :
    Quad w (w1.setCell ⟨X, 3, none⟩ v') X G cs nL nM nT (nB + 1) xL xM xT (xB ++ [u]) vL vM vT v' ∧ Soft wr (w1.setCell ⟨X, 3, none⟩ v') ∧ Blk w1 X 37 #[vL, vM, vT, vB] := by
  have hb : Blk w1 X 37 #[vL, vM, vT, vB] := h.blk.keep hk (own_ne_blk h.B h.blk (by decide))
  have hf : Fresh w w1 := h.fresh.comp hk (fun _ _ h => h) (fun i hi _ e => by have := (own_lt h.B e).1; omega)
  refine ⟨⟨hb.set 3 v', (h.copy.keep hk (own_ne_blk h.B h.copy (by decide))).far h.ne.symm _, own_far (own_keep h.L hk (fun k e => own_ne_owned h.L h.B (by decide) e)) (own_ne_blk (own_keep h.L hk (fun k e => own_ne_owned h.L h.B (by decide) e)) hb (by decide)) _, own_far (own_keep h.M hk (fun k e => own_ne_owned h.M h.B (by decide) e)) (own_ne_blk (own_keep h.M hk (fun k e => own_ne_owned h.M h.B (by decide) e)) hb (by decide)) _, own_far (own_keep h.T hk (fun k e => own_ne_owned h.T h.B (by decide) e)) (own_ne_blk (own_keep h.T hk (fun k e => own_ne_owned h.T h.B (by decide) e)) hb (by decide)) _, own_far ho (own_ne_blk ho hb (by decide)) _, hf.setCell (fun hl => absurd hl (by have := h.lo; show ¬ X < _; omega)) _, h.lo, h.neL, h.hiG⟩, (Soft.own h.B (by decide) hk).trans (Soft.set hb (by decide) v'), hb⟩
theorem Quad.setG (h : Quad w wr X G cs nL nM nT nB xL xM xT xB vL vM vT vB) (i : Nat) (u : Value) : Quad w (wr.setCell ⟨G, i, none⟩ u) X G (cs.setIfInBounds i u) nL nM nT nB xL xM xT xB vL vM vT vB ∧ Soft wr (wr.setCell ⟨G, i, none⟩ u) :=
  ⟨⟨h.blk.far h.ne _, h.copy.set i u, own_far h.L h.neL _, own_far h.M (own_ne_blk h.M h.copy (by decide)) _, own_far h.T (own_ne_blk h.T h.copy (by decide)) _, own_far h.B (own_ne_blk h.B h.copy (by decide)) _, h.fresh.setCell (fun hl => absurd hl (by have := h.hiG; show ¬ G < _; omega)) _, h.lo, h.neL, h.hiG⟩, Soft.set h.copy (by decide) u⟩
end
/-- The box behind k marks. -/
structure Loos (w wr : World) (X : Nat) (hs : List MkV) (k : Nat) (ps : List LMk) (vL vM vT vB : Value) : Prop where
  blk : Blk wr X 37 #[vL, vM, vT, vB]
  len : ps.length = k
  L : wr.ownsRow w.heap.size 51 26 vL k (mcells (ps.map LMk.x))
  M : wr.ownsRow w.heap.size 46 1 vM k (ps.map LMk.m)
  T : wr.ownsRow w.heap.size 23 1 vT k (ps.map LMk.t)
  B : wr.ownsRow w.heap.size 47 1 vB k (ps.map LMk.b)
  rows : ∀ p ∈ ps, LMkOk wr w.heap.size p
  same : dsOf (ps.map LMk.x) = dsOf (hs.take k)
  fresh : Fresh w wr
  lo : w.heap.size ≤ X
theorem Loos.keep {w wr w1 : World} {X : Nat} {hs : List MkV} {k : Nat} {ps : List LMk} {vL vM vT vB : Value} (h : Loos w wr X hs k ps vL vM vT vB) (hf : Fresh wr w1) : Loos w w1 X hs k ps vL vM vT vB :=
  ⟨h.blk.keep hf trivial, h.len, own_keep h.L hf (fun _ _ => trivial), own_keep h.M hf (fun _ _ => trivial), own_keep h.T hf (fun _ _ => trivial), own_keep h.B hf (fun _ _ => trivial), fun p hp => (h.rows p hp).soft (Soft.fresh hf), h.same, h.fresh.trans hf, h.lo⟩
theorem Loos.quad {w wr w1 : World} {X G : Nat} {cs : Array Value} {hs : List MkV} {k : Nat} {ps : List LMk} {vL vM vT vB : Value} (h : Loos w wr X hs k ps vL vM vT vB) (hf : Fresh wr w1) (hb : Blk w1 G 51 cs) (hG : wr.heap.size ≤ G) :
    Quad w w1 X G cs k k k k (ps.map LMk.x) (ps.map LMk.m) (ps.map LMk.t) (ps.map LMk.b) vL vM vT vB :=
  have h1 := h.keep hf
  ⟨h1.blk, hb, h1.L, h1.M, h1.T, h1.B, h1.fresh, h1.lo, fun e => by have := (own_lt h.L e).2; omega, Nat.le_trans h.fresh.size hG⟩
/-- The mark is pushed. -/
theorem Loos.step {w wr wq w1 : World} {X G : Nat} {cs : Array Value} {hs : List MkV} {k : Nat} {ps : List LMk} {p : LMk} {vL vM vT vB vM' vT' vB' vL' : Value} (h : Loos w wr X hs k ps vL vM vT vB)
    (hq : Quad w wq X G cs k (k + 1) (k + 1) (k + 1) (ps.map LMk.x) (ps.map LMk.m ++ [p.m]) (ps.map LMk.t ++ [p.t]) (ps.map LMk.b ++ [p.b]) vL vM' vT' vB') (hk : k < hs.length) (hd : p.x.d = hs[k].d) (hsq : Soft wr wq) (hp : LMkOk wq w.heap.size p)
    (ho : w1.ownsRow w.heap.size 51 26 vL' (k + 1) (mcells (ps.map LMk.x) ++ p.x.cells)) (hkk : Keep (fun i => vL.ownBlock ≠ some i) wq w1) : Loos w (w1.setCell ⟨X, 0, none⟩ vL') X hs (k + 1) (ps ++ [p]) vL' vM' vT' vB' := by
  have hb : Blk w1 X 37 #[vL, vM', vT', vB'] := hq.blk.keep hkk (own_ne_blk hq.L hq.blk (by decide))
  have hf : Fresh w w1 := hq.fresh.comp hkk (fun _ _ h => h) (fun i hi _ e => by have := (own_lt hq.L e).1; omega)
  have hS : Soft wq (w1.setCell ⟨X, 0, none⟩ vL') := (Soft.own hq.L (by decide) hkk).trans (Soft.set hb (by decide) vL')
  refine ⟨hb.set 0 vL', by simp [h.len], ?_, ?_, ?_, ?_, fun q hq2 => ?_, ?_, hf.setCell (fun hl => absurd hl (by have := h.lo; show ¬ X < _; omega)) _, h.lo⟩
  · rw [mcells_snoc] at ho
    have := own_far ho (own_ne_blk ho hb (by decide)) (p := ⟨X, 0, none⟩) vL'
    simpa using this
  · have := own_far (own_keep hq.M hkk (fun k e => own_ne_owned hq.M hq.L (by decide) e)) (own_ne_blk (own_keep hq.M hkk (fun k e => own_ne_owned hq.M hq.L (by decide) e)) hb (by decide)) (p := ⟨X, 0, none⟩) vL'
    simpa using this
  · have := own_far (own_keep hq.T hkk (fun k e => own_ne_owned hq.T hq.L (by decide) e)) (own_ne_blk (own_keep hq.T hkk (fun k e => own_ne_owned hq.T hq.L (by decide) e)) hb (by decide)) (p := ⟨X, 0, none⟩) vL'
    simpa using this
  · have := own_far (own_keep hq.B hkk (fun k e => own_ne_owned hq.B hq.L (by decide) e)) (own_ne_blk (own_keep hq.B hkk (fun k e => own_ne_owned hq.B hq.L (by decide) e)) hb (by decide)) (p := ⟨X, 0, none⟩) vL'
    simpa using this
  · rcases List.mem_append.1 hq2 with h2 | h2
    · exact (h.rows q h2).soft (hsq.trans hS)
    · simp at h2
      subst h2
      exact hp.soft hS
  · have e : dsOf ((ps ++ [p]).map LMk.x) = dsOf (ps.map LMk.x) ++ [p.x.d] := by simp [dsOf]
    rw [e, h.same, dsOf_take hk, hd]
end Go.Proofs.YtohnmaindbgngaaGreatDoor
namespace Go.Proofs.YtohnmaindbgngaaGreatDoor
set_option linter.unusedVariables false
set_option linter.unusedSimpArgs false
open Go.RowKit

theorem mems_info : (Tryz.prog.info? 46).map (fun i => (i.zero, i.size, i.bytes)) = some (some (.slice none 0 0), 1, 24) := by kernel_rfl
theorem etMems : ET Tryz.prog 33 46 1 24 (.slice none 0 0) := ⟨Tryz.underlying33, mems_info, rfl, by decide, by decide⟩
theorem ints_info : (Tryz.prog.info? 23).map (fun i => (i.zero, i.size, i.bytes)) = some (some (.slice none 0 0), 1, 24) := by kernel_rfl
theorem etInts : ET Tryz.prog 34 23 1 24 (.slice none 0 0) := ⟨Tryz.underlying34, ints_info, rfl, by decide, by decide⟩
theorem bytes_info : (Tryz.prog.info? 47).map (fun i => (i.zero, i.size, i.bytes)) = some (some (.slice none 0 0), 1, 24) := by kernel_rfl
theorem etBytes : ET Tryz.prog 35 47 1 24 (.slice none 0 0) := ⟨Tryz.underlying35, bytes_info, rfl, by decide, by decide⟩
set_option maxRecDepth 20000 in
set_option maxHeartbeats 900000 in
theorem loosely_any (Z : Nat → Prop) (A : Option Addr) (n c : Nat) (hs : List MkV) (w : World) (h : Mks w Z A n hs) (ho : ∀ h ∈ hs, MkOk w Z h) :
    Calls Tryz.prog 6 #[.slice A n c] w fun e w' => (∃ (X : Nat) (ps : List LMk) (vL vM vT vB : Value), e = .returned (.pointer (some ⟨X, 0, none⟩)) ∧ Loos w w' X hs n ps vL vM vT vB) ∧ Fresh w w' := by
  have HM := Lib.hid (And.intro h ho)
  have hle := h.le
  clear h ho
  go_enter Tryz.func6, Tryz.ntmps6
  go_wp2
  go_loopw [4] (fun i wr => ∃ (k : Nat) (ps : List LMk) (vL vM vT vB : Value), k ≤ n ∧ i = .int .i64 (k : Int) ∧ Hid (Loos w wr w.heap.size hs k ps vL vM vT vB)) (fun i _ => n - (intOf i).toNat)
  case atStart =>
    have e : w.alloc (.cells #[.slice none 0 0, .slice none 0 0, .slice none 0 0, .slice none 0 0] 37) = w.alloc (.cells #[.slice none 0 0, .slice none 0 0, .slice none 0 0, .slice none 0 0] 37) := rfl
    exact ⟨0, [], _, _, _, _, Nat.zero_le _, rfl, Lib.hid ⟨Blk.new w _ _, rfl, World.ownsRow_nil _ _ _ _, World.ownsRow_nil _ _ _ _, World.ownsRow_nil _ _ _ _, World.ownsRow_nil _ _ _ _, (fun p hp => by cases hp), rfl, (Keep.refl _ w).alloc _, Nat.le_refl _⟩⟩
  case round =>
    rename World => wr
    obtain ⟨k, ps, vL, vM, vT, vB, hk, rfl, HW⟩ := hrel
    by_cases hlt : k < n
    · obtain ⟨b, o, rfl, -, hl, hr⟩ := HM.out.1.at1 hlt
      have hbX : b < w.heap.size := lt_of_cell (hr 0 _ rfl)
      have hr0 := hr
      replace hr := rangeAt_keep hr HW.out.fresh trivial
      have hok := HM.out.2 _ (List.getElem_mem hl)
      have hfit := HM.out.1.fit _ (List.getElem_mem hl)
      have hone := HM.out.1.one _ (List.getElem_mem hl)
      obtain ⟨x, hx⟩ : ∃ x, x = hs[k] := ⟨_, rfl⟩
      rw [← hx] at hr hr0 hok hfit hone
      obtain ⟨⟨AM, cM, eM, -, nM, rM⟩, ⟨AT, cT, eT, -, nT, rT⟩, ⟨AB, cB, eB, -, nB, rB⟩⟩ := hok
      have HR := Lib.hid (And.intro hr (And.intro hone hr0))
      have HX := Lib.hid (show ∃ hl : k < hs.length, x = hs[k] from ⟨hl, hx⟩)
      have HL := Lib.hid (show ∀ w', Fresh w w' → Rd w' Z 3 AM x.d.mem.length (rcells MemD.cells x.d.mem) ∧ Rd w' Z 1 AT x.d.tr.length (ics x.d.tr) ∧ Rd w' Z 1 AB x.d.body.length (Lib.byteCells x.d.body) from fun w' h => ⟨rM.keep (h.weaken fun _ _ _ => trivial), rT.keep (h.weaken fun _ _ _ => trivial), rB.keep (h.weaken fun _ _ _ => trivial)⟩)
      have HNl := Lib.hid (And.intro nM (And.intro nT nB))
      have HFt := Lib.hid hfit
      have HE := Lib.hid (And.intro eM (And.intro eT eB))
      clear hr hr0 hx hl nM rM nT rT nB rB hfit hone eM eT eB
      go_wp2_with (first | (refine wpList_load_mid rfl 51 _ rfl b (o + k * 26) rfl x.cells _ HR.out.1 Tryz.underlying51 rfl (by kernel_rfl) ?_) | (refine wpList_store_new rfl (.tmp 5) (.tmp 21) rfl _ x.cells.toArray _ rfl rfl rfl (by kernel_rfl) (Array.all_eq_true_iff_forall_mem.2 fun u hu => mk_one HR.out.2.1 u (by simpa using hu)) ?_))
      intro w1 hb1 hf1 hs1
      have c8 : w1.cell? ⟨wr.heap.size, 8, none⟩ = some (.slice AM x.d.mem.length cM) := (hb1.cell 8).trans (congrArg some HE.out.1)
      have c9 : w1.cell? ⟨wr.heap.size, 9, none⟩ = some (.slice AT x.d.tr.length cT) := (hb1.cell 9).trans (congrArg some HE.out.2.1)
      have c14 : w1.cell? ⟨wr.heap.size, 14, none⟩ = some (.slice AB x.d.body.length cB) := (hb1.cell 14).trans (congrArg some HE.out.2.2)
      have H1 := Lib.hid (And.intro hb1 (And.intro hf1 hs1))
      clear hb1 hf1
      go_wp2_with (at_builtin; refine wpList_app etMem rfl _ _ rfl wr.heap.size _ 0 [] rfl (World.ownsRow_nil _ _ _ _) Z AM _ cM _ rfl (HL.out _ (HW.out.fresh.trans H1.out.2.1)).1 HNl.out.1 (mem_one _) (by have := HFt.out.m; omega) H1.out.2.1.size ?_)
      intro v1 w2 ho1 hk1 hn1
      have hk1' : Fresh w1 w2 := hk1.weaken (fun _ _ _ => by simp [Value.ownBlock])
      have c9' := hk1'.cellAt c9 trivial
      have c14' := hk1'.cellAt c14 trivial
      have H2 := Lib.hid (And.intro (H1.out.1.keep hk1' trivial) (And.intro (H1.out.2.1.trans hk1') ho1))
      clear c8 c9 c14 hk1 hk1' ho1 hn1 hs1
      go_wp2_with (at_builtin; refine wpList_app etInt rfl _ _ rfl wr.heap.size _ 0 [] rfl (World.ownsRow_nil _ _ _ _) Z AT _ cT _ rfl (HL.out _ (HW.out.fresh.trans H2.out.2.1)).2.1 HNl.out.2.1 (ics_one _) (by have := HFt.out.t; omega) H2.out.2.1.size ?_)
      intro v2 w3 ho2 hk2 hn2
      have hk2' : Fresh w2 w3 := hk2.weaken (fun _ _ _ => by simp [Value.ownBlock])
      have c14 := hk2'.cellAt c14' trivial
      have H3 := Lib.hid (And.intro (H2.out.1.keep hk2' trivial) (And.intro (H2.out.2.1.trans hk2') (And.intro (own_keep H2.out.2.2 hk2' (fun _ _ => trivial)) ho2)))
      clear c9' c14' hk2 hk2' ho2 hn2
      go_wp2_with (at_builtin; refine wpList_app etByte rfl _ _ rfl wr.heap.size _ 0 [] rfl (World.ownsRow_nil _ _ _ _) Z AB _ cB _ rfl (HL.out _ (HW.out.fresh.trans H3.out.2.1)).2.2 HNl.out.2.2 (bcs_one _) (by have := HFt.out.b; omega) H3.out.2.1.size ?_)
      intro v3 w4 ho3 hk3 hn3
      have hk3' : Fresh w3 w4 := hk3.weaken (fun _ _ _ => by simp [Value.ownBlock])
      have HP := Lib.hid (show Pads wr w4 wr.heap.size x 0 0 0 v1 v2 v3 from ⟨by
          have := own_keep H3.out.2.2.1 hk3' (fun _ _ => trivial)
          simpa [memPads] using this, by
          have := own_keep H3.out.2.2.2 hk3' (fun _ _ => trivial)
          simpa [trPads] using this, by simpa [byPads] using ho3, H3.out.1.keep hk3' trivial, H3.out.2.1.trans hk3'⟩)
      clear c14 hk3 hk3' ho3 hn3 H1 H2 H3
      go_wp2_with fail
      go_loopw [6, 7, 8, 9] (fun um ut ub i wi => ∃ j : Nat, j ≤ 64 ∧ i = .int .i64 (j : Int) ∧ Hid (Pads wr wi wr.heap.size x j j j um ut ub)) (fun _ _ _ i _ => 64 - (intOf i).toNat)
      case atStart => exact ⟨0, Nat.zero_le _, rfl, HP⟩
      case round =>
        rename World => wi
        obtain ⟨j, hj, rfl, HQ⟩ := hrel
        have hfm := HFt.out.m
        have hft := HFt.out.t
        have hfb := HFt.out.b
        by_cases hlt2 : j < 64
        · have HB := Lib.hid HQ.out.fresh.size
          go_wp2_with (at_builtin; refine wpList_appK etMem rfl (.tmp 35) (.tmp 39) rfl (memPad j).cells.toArray _ rfl (by intro u hu; simp [MemD.cells] at hu; rcases hu with rfl | rfl | rfl <;> rfl) wr.heap.size _ (x.d.mem.length + j) _ rfl rfl HQ.out.m (by omega) HB.out ?_)
          intro v5 w5 ho5 hk5 hn5
          have HQ2 := Lib.hid (HQ.out.stepM ho5 hk5)
          clear ho5 hk5 hn5 HB
          have HB := Lib.hid HQ2.out.fresh.size
          go_wp2_with (at_builtin; refine wpList_app1 etInt rfl (.tmp 41) (.tmp 44) rfl (.int .i64 (trPad j)) _ rfl wr.heap.size _ (x.d.tr.length + j) _ rfl rfl HQ2.out.t (by omega) HB.out ?_)
          intro v6 w6 ho6 hk6 hn6
          have HQ3 := Lib.hid (HQ2.out.stepT ho6 hk6)
          clear ho6 hk6 hn6 HB
          have HB := Lib.hid HQ3.out.fresh.size
          go_wp2_with (at_builtin; refine wpList_app1 etByte rfl (.tmp 46) (.tmp 50) rfl (.int .u8 (200 - (j : Int))) _ rfl wr.heap.size _ (x.d.body.length + j) _ rfl rfl HQ3.out.b (by omega) HB.out ?_)
          intro v7 w7 ho7 hk7 hn7
          have HQ4 := Lib.hid (HQ3.out.stepB (by rw [byPad_nat hlt2]; exact ho7) hk7)
          clear ho7 hk7 hn7 HB HQ2 HQ3
          go_wp2_with fail
          exact ⟨⟨j + 1, by omega, congrArg _ (by omega), HQ4⟩, by simp [intOf]; omega⟩
        · obtain rfl : j = 64 := by omega
          obtain ⟨gm, cm, rfl, -, -, hcm⟩ := own_nonnil HQ.out.m (by omega)
          obtain ⟨gt, ct, rfl, -, -, hct⟩ := own_nonnil HQ.out.t (by omega)
          obtain ⟨gb, cb, rfl, -, -, hcb⟩ := own_nonnil HQ.out.b (by omega)
          have HQd := Lib.hid (HW.out.quad HQ.out.fresh HQ.out.blk (Nat.le_refl _))
          have HB := Lib.hid HQd.out.fresh.size
          have cX1 := HQd.out.blk.cell 1
          go_wp2_with (at_builtin; refine wpList_app1 etMems rfl (.tmp 56) (.tmp 58) rfl (.slice (some ⟨gm, 0, none⟩) (x.d.mem.length + 64) cm) _ rfl w.heap.size _ k _ rfl rfl HQd.out.M (by omega) HB.out ?_)
          intro v5 w5 ho5 hk5 hn5
          obtain ⟨P5, q5, rfl, -, -⟩ := own_rd ho5
          have h5 := HQd.out.pushM ho5 hk5
          clear cX1 HB
          have cX1 : w5.cell? ⟨w.heap.size, 1, none⟩ = some vM := h5.2.2.cell 1
          have fX1 := h5.2.2.frozen 1
          have cX2 : w5.cell? ⟨w.heap.size, 2, none⟩ = some vT := h5.2.2.cell 2
          have H5 := Lib.hid (And.intro h5.1 h5.2.1)
          clear ho5 hk5 hn5 h5
          go_wp2_with (at_builtin; refine wpList_app1B etInts rfl (.tmp 66) (.tmp 68) rfl (.slice (some ⟨gt, 0, none⟩) (x.d.tr.length + 64) ct) _ rfl w.heap.size _ k _ w5.heap.size (by simp) rfl rfl H5.out.1.T (by omega) H5.out.1.fresh.size ?_)
          intro v6 w6 ho6 hk6 hn6
          obtain ⟨P6, q6, rfl, -, -⟩ := own_rd ho6
          have h6 := H5.out.1.pushT ho6 hk6
          clear cX1 fX1 cX2
          have cX2 : w6.cell? ⟨w.heap.size, 2, none⟩ = some vT := h6.2.2.cell 2
          have fX2 := h6.2.2.frozen 2
          have cX3 : w6.cell? ⟨w.heap.size, 3, none⟩ = some vB := h6.2.2.cell 3
          have H6 := Lib.hid (And.intro h6.1 (H5.out.2.trans h6.2.1))
          clear ho6 hk6 hn6 h6
          go_wp2_with (at_builtin; refine wpList_app1B etBytes rfl (.tmp 76) (.tmp 78) rfl (.slice (some ⟨gb, 0, none⟩) (x.d.body.length + 64) cb) _ rfl w.heap.size _ k _ w6.heap.size (by simp) rfl rfl H6.out.1.B (by omega) H6.out.1.fresh.size ?_)
          intro v7 w7 ho7 hk7 hn7
          obtain ⟨P7, q7, rfl, -, -⟩ := own_rd ho7
          have h7 := H6.out.1.pushB ho7 hk7
          clear cX2 fX2 cX3
          have cX3 : w7.cell? ⟨w.heap.size, 3, none⟩ = some vB := h7.2.2.cell 3
          have fX3 := h7.2.2.frozen 3
          obtain ⟨W, hWe⟩ : ∃ W, W = w7.setCell ⟨w.heap.size, 3, none⟩ (.slice P7 (k + 1) q7) := ⟨_, rfl⟩
          have hq := h7.1
          have hs := H6.out.2.trans h7.2.1
          rw [← hWe] at hq hs
          have H7 := Lib.hid (And.intro hq hs)
          clear ho7 hk7 hn7 h7 hq hs H5 H6 HQd
          go_upto_region 18 with (fail)
          rw [← hWe]
          clear hWe cX3 fX3
          have hwr := HW.out.fresh.size
          have hbG : b ≠ wr.heap.size := by omega
          have rW := rangeAt_keep HR.out.2.2 H7.out.1.fresh trivial
          have l8 : W.cell? ⟨b, o + k * 26 + 8, none⟩ = some (.slice AM x.d.mem.length cM) := (rW 8 _ rfl).trans (congrArg some HE.out.1)
          have l9 : W.cell? ⟨b, o + k * 26 + 9, none⟩ = some (.slice AT x.d.tr.length cT) := (rW 9 _ rfl).trans (congrArg some HE.out.2.1)
          have l14 : W.cell? ⟨b, o + k * 26 + 14, none⟩ = some (.slice AB x.d.body.length cB) := (rW 14 _ rfl).trans (congrArg some HE.out.2.2)
          have bG := H7.out.1.copy
          have d8 : W.cell? ⟨wr.heap.size, 8, none⟩ = some x.vm := bG.cell 8
          have d9 : W.cell? ⟨wr.heap.size, 9, none⟩ = some x.vt := bG.cell 9
          have d14 : W.cell? ⟨wr.heap.size, 14, none⟩ = some x.vb := bG.cell 14
          have e8 := bG.frozen 8
          have e9 := bG.frozen 9
          have e14 := bG.frozen 14
          have hcm1 : x.d.mem.length ≤ cm := by omega
          have hct1 : x.d.tr.length ≤ ct := by omega
          have hcb1 : x.d.body.length ≤ cb := by omega
          have g1 := H7.out.1.setG 8 (.slice (some ⟨gm, 0, none⟩) x.d.mem.length cm)
          have g2 := g1.1.setG 9 (.slice (some ⟨gt, 0, none⟩) x.d.tr.length ct)
          have g3 := g2.1.setG 14 (.slice (some ⟨gb, 0, none⟩) x.d.body.length cb)
          have hS8 := ((H7.out.2.trans g1.2).trans g2.2).trans g3.2
          have hq8 := g3.1
          obtain ⟨W8, hW8⟩ : ∃ W8, W8 = ((W.setCell ⟨wr.heap.size, 8, none⟩ (.slice (some ⟨gm, 0, none⟩) x.d.mem.length cm)).setCell ⟨wr.heap.size, 9, none⟩ (.slice (some ⟨gt, 0, none⟩) x.d.tr.length ct)).setCell ⟨wr.heap.size, 14, none⟩ (.slice (some ⟨gb, 0, none⟩) x.d.body.length cb) := ⟨_, rfl⟩
          rw [← hW8] at hS8 hq8
          obtain ⟨p, hp⟩ : ∃ p : LMk, p = ⟨⟨x.d, .slice (some ⟨gm, 0, none⟩) x.d.mem.length cm, .slice (some ⟨gt, 0, none⟩) x.d.tr.length ct, .slice (some ⟨gb, 0, none⟩) x.d.body.length cb⟩, .slice (some ⟨gm, 0, none⟩) (x.d.mem.length + 64) cm, .slice (some ⟨gt, 0, none⟩) (x.d.tr.length + 64) ct, .slice (some ⟨gb, 0, none⟩) (x.d.body.length + 64) cb⟩ := ⟨_, rfl⟩
          have hp1 : LMkOk wi w.heap.size p := by
            subst hp
            exact ⟨⟨gm, cm, rfl, rfl, rcells_len mem_three _, by have := own_base HQ.out.m hwr; rw [rcells_append] at this; exact this⟩, ⟨gt, ct, rfl, rfl, by simp [ics], by have := own_base HQ.out.t hwr; unfold ics at this ⊢; rw [List.map_append] at this; exact this⟩, ⟨gb, cb, rfl, rfl, by simp [Lib.byteCells], by have := own_base HQ.out.b hwr; rw [Lib.byteCells_append] at this; exact this⟩⟩
          have hq9 : Quad w W8 w.heap.size wr.heap.size p.x.cells.toArray k (k + 1) (k + 1) (k + 1) (ps.map LMk.x) (ps.map LMk.m ++ [p.m]) (ps.map LMk.t ++ [p.t]) (ps.map LMk.b ++ [p.b]) vL (.slice P5 (k + 1) q5) (.slice P6 (k + 1) q6) (.slice P7 (k + 1) q7) := by
            rw [hp]
            exact hq8
          have H8 := Lib.hid (And.intro hq9 (And.intro (hp1.soft hS8) (And.intro ((Soft.fresh HQ.out.fresh).trans hS8) (show p.x.d = x.d ∧ MkOne p.x from by rw [hp]; exact ⟨rfl, rfl, rfl, rfl⟩))))
          have HPp := Lib.hid hp
          clear rW bG g1 g2 g3 hS8 hq8 hp1 hq9 hp H7
          go_upto_region 21 with (fail)
          rw [← hW8]
          clear hW8 l8 l9 l14 d8 d9 d14 e8 e9 e14
          have x0 : W8.drew.cell? ⟨w.heap.size, 0, none⟩ = some vL := H8.out.1.blk.cell 0
          have h26 := mk_len p.x
          have r8 : W8.rangeAt wr.heap.size 0 p.x.cells := by
            have := H8.out.1.copy.range
            rwa [List.toList_toArray] at this
          have HY := Lib.hid (And.intro (show p.x.cells.toArray.size = 26 ∧ ∀ u ∈ p.x.cells.toArray.toList, u.oneCell' = true from ⟨by rw [List.size_toArray]; exact h26, fun u hu => mk_one H8.out.2.2.2.2 u (by simpa using hu)⟩) (And.intro (own_ne_blk H8.out.1.L H8.out.1.blk (by decide)) r8))
          clear r8
          have hi50 : (Tryz.prog.info? 51).map (·.size) = some p.x.cells.length := by rw [h26]; kernel_rfl
          have HS0 : Hid (∀ w', Keep (fun i => vL.ownBlock ≠ some i ∧ i ≠ w.heap.size) W8 w' → w'.rangeAt wr.heap.size 0 p.x.cells) := Lib.hid fun w' hk => rangeAt_keep HY.out.2.2 hk ⟨H8.out.1.neL, H8.out.1.ne.symm⟩
          refine wp_region_held_drew (S := fun w' => Keep (fun i => vL.ownBlock ≠ some i ∧ i ≠ w.heap.size) W8 w') (by kernel_rfl) ((Keep.refl _ W8).drew) (fun hHeld => ?_)
          refine wpAnyH_take (i := 0) (v := .pointer (some ⟨w.heap.size, 0, none⟩)) rfl (by kernel_rfl) (by kernel_rfl) (by kernel_rfl) (fun _ _ _ h => h) (Or.inl ⟨by rfl, by intro w hSw; go_simp⟩) hHeld ?_
          simp only [Act.put, List.setIfInBounds_toArray, List.set_cons_zero, List.set_cons_succ]
          refine wpAnyH_take (i := 1) (v := .pointer (some ⟨w.heap.size, 0, none⟩)) rfl (by kernel_rfl) (by kernel_rfl) (by kernel_rfl) (fun _ _ _ h => h) (Or.inl ⟨by rfl, by intro w hSw; go_simp⟩) hHeld ?_
          simp only [Act.put, List.setIfInBounds_toArray, List.set_cons_zero, List.set_cons_succ]
          refine wpAnyH_take (i := 2) (v := .pointer (some ⟨w.heap.size, 0, none⟩)) rfl (by kernel_rfl) (by kernel_rfl) (by kernel_rfl) (fun _ _ _ h => h) (Or.inl ⟨by rfl, by intro w hSw; go_simp⟩) hHeld ?_
          simp only [Act.put, List.setIfInBounds_toArray, List.set_cons_zero, List.set_cons_succ]
          refine wpAnyH_take (i := 3) (v := .pointer (some ⟨w.heap.size, 0, none⟩)) rfl (by kernel_rfl) (by kernel_rfl) (by kernel_rfl) (fun _ _ _ h => h) (Or.inl ⟨by rfl, by intro w hSw; go_simp⟩) hHeld ?_
          simp only [Act.put, List.setIfInBounds_toArray, List.set_cons_zero, List.set_cons_succ]
          refine wpAnyH_take (i := 5) (v := .agg p.x.cells.toArray) rfl (by kernel_rfl) (by kernel_rfl) (by kernel_rfl) (fun _ _ _ h => h) (yieldsIf_load_mid (by rfl) _ _ rfl wr.heap.size 0 rfl p.x.cells _ HS0.out Tryz.underlying51 rfl hi50) hHeld ?_
          simp only [Act.put, List.setIfInBounds_toArray, List.set_cons_zero, List.set_cons_succ]
          have x0b : W8.cell? ⟨w.heap.size, 0, none⟩ = some vL := x0
          have h8l : w.heap.size < W8.heap.size := lt_of_cell (w := W8) (p := ⟨w.heap.size, 0, none⟩) x0
          have hkX : Fresh W8 (W8.drew.alloc (.cells p.x.cells.toArray 51)) := (Keep.refl (fun _ => True) W8).drew.alloc _
          have HZ := Lib.hid (And.intro (own_keep H8.out.1.L hkX (fun _ _ => trivial)) (And.intro (Rd.one_of (Blk.new W8.drew 51 p.x.cells.toArray) HY.out.1.1) (And.intro (Nat.le_trans H8.out.1.fresh.size hkX.size) hkX)))
          have hHA : Keep (fun i => vL.ownBlock ≠ some i ∧ i ≠ w.heap.size) W8 (W8.drew.alloc (.cells p.x.cells.toArray 51)) := hkX.weaken (fun _ _ _ => trivial)
          clear hkX
          refine wpAnyH_ready (rs := [4, 6]) (by kernel_rfl) (by simp) ?_
          refine AllReadyH.cons rfl (fun K hK => ?_) (AllReadyH.cons rfl (fun K hK => ?_) AllReadyH.nil)
          · go_simp
            refine hK.out _ _ hHeld (fun _ => ?_)
            clear hK K
            refine wpAnyH_ready (rs := [6]) (by kernel_rfl) (by simp) ?_
            refine AllReadyH.cons rfl (fun K hK => ?_) AllReadyH.nil
            go_simp
            rw [fold_zip p.x.cells]
            rotate_left
            exact h26.symm
            refine hK.out _ _ hHA (fun _ => ?_)
            clear hK K
            refine wpAnyH_ready (rs := [7]) (by kernel_rfl) (by simp) ?_
            refine AllReadyH.cons rfl (fun K hK => ?_) AllReadyH.nil
            refine step_app etMark rfl (.tmp 113) (.tmp 115) rfl w.heap.size _ k _ rfl HZ.out.1 _ (some ⟨W8.drew.heap.size, 0, none⟩) 1 1 _ rfl HZ.out.2.1 (fun h => Nat.noConfusion h) HY.out.1.2 (by omega) HZ.out.2.2.1 ?_
            intro v9 w9 ho9 hk9 hn9
            obtain ⟨P9, q9, rfl, -, -⟩ := own_rd ho9
            have hk89 : Keep (fun i => vL.ownBlock ≠ some i) W8 w9 := HZ.out.2.2.2.comp hk9 (fun _ _ _ => trivial) (fun _ _ h => h)
            have hB9 : Keep (fun i => vL.ownBlock ≠ some i ∧ i ≠ w.heap.size) W8 w9 := hk89.weaken (fun _ _ h => h.1)
            have bX9 := H8.out.1.blk.keep hk89 HY.out.2.1
            have t0 : w9.cell? ⟨w.heap.size, 0, none⟩ = some vL := bX9.cell 0
            have tg := bX9.frozen 0
            have HN : Hid (Loos w (w9.setCell ⟨w.heap.size, 0, none⟩ (.slice P9 (k + 1) q9)) w.heap.size hs (k + 1) (ps ++ [p]) (.slice P9 (k + 1) q9) (.slice P5 (k + 1) q5) (.slice P6 (k + 1) q6) (.slice P7 (k + 1) q7)) := Lib.hid (by
              obtain ⟨hl, ex⟩ := HX.out
              exact HW.out.step H8.out.1 hl (by rw [H8.out.2.2.2.1, ex]) H8.out.2.2.1 H8.out.2.1 ho9 hk89)
            clear ho9 hk9 hn9 hk89 bX9
            refine hK.out _ _ hB9 (fun hHeld9 => ?_)
            clear hK K
            refine wpAnyH_ready (rs := [8]) (by kernel_rfl) (by simp) ?_
            refine AllReadyH.cons rfl (fun K hK => ?_) AllReadyH.nil
            go_simp
            refine hK.out _ _ hHeld9 (fun _ => ?_)
            clear hK K
            refine wpAnyH_ready (rs := [9]) (by kernel_rfl) (by simp) ?_
            refine AllReadyH.cons rfl (fun K hK => ?_) AllReadyH.nil
            go_simp
            refine hK.out _ _ hHeld9 (fun _ => ?_)
            clear hK K
            refine wpAnyH_ready (rs := [10]) (by kernel_rfl) (by simp) ?_
            refine AllReadyH.cons rfl (fun K hK => ?_) AllReadyH.nil
            go_simp
            refine hK.out _ _ (hHeld9.setCell (fun _ h => h.2 rfl) _) (fun _ => ?_)
            clear hK K
            refine wpAnyH_done (by kernel_rfl) ?_ _
            go_wp2_with fail
            exact ⟨⟨k + 1, _, _, _, _, _, by omega, congrArg _ (by omega), HN⟩, by simp [intOf]; omega⟩
          · go_simp
            rw [fold_zip p.x.cells]
            rotate_left
            exact h26.symm
            refine hK.out _ _ hHA (fun _ => ?_)
            clear hK K
            refine wpAnyH_ready (rs := [4]) (by kernel_rfl) (by simp) ?_
            refine AllReadyH.cons rfl (fun K hK => ?_) AllReadyH.nil
            go_simp
            refine hK.out _ _ hHA (fun _ => ?_)
            clear hK K
            refine wpAnyH_ready (rs := [7]) (by kernel_rfl) (by simp) ?_
            refine AllReadyH.cons rfl (fun K hK => ?_) AllReadyH.nil
            refine step_app etMark rfl (.tmp 113) (.tmp 115) rfl w.heap.size _ k _ rfl HZ.out.1 _ (some ⟨W8.drew.heap.size, 0, none⟩) 1 1 _ rfl HZ.out.2.1 (fun h => Nat.noConfusion h) HY.out.1.2 (by omega) HZ.out.2.2.1 ?_
            intro v9 w9 ho9 hk9 hn9
            obtain ⟨P9, q9, rfl, -, -⟩ := own_rd ho9
            have hk89 : Keep (fun i => vL.ownBlock ≠ some i) W8 w9 := HZ.out.2.2.2.comp hk9 (fun _ _ _ => trivial) (fun _ _ h => h)
            have hB9 : Keep (fun i => vL.ownBlock ≠ some i ∧ i ≠ w.heap.size) W8 w9 := hk89.weaken (fun _ _ h => h.1)
            have bX9 := H8.out.1.blk.keep hk89 HY.out.2.1
            have t0 : w9.cell? ⟨w.heap.size, 0, none⟩ = some vL := bX9.cell 0
            have tg := bX9.frozen 0
            have HN : Hid (Loos w (w9.setCell ⟨w.heap.size, 0, none⟩ (.slice P9 (k + 1) q9)) w.heap.size hs (k + 1) (ps ++ [p]) (.slice P9 (k + 1) q9) (.slice P5 (k + 1) q5) (.slice P6 (k + 1) q6) (.slice P7 (k + 1) q7)) := Lib.hid (by
              obtain ⟨hl, ex⟩ := HX.out
              exact HW.out.step H8.out.1 hl (by rw [H8.out.2.2.2.1, ex]) H8.out.2.2.1 H8.out.2.1 ho9 hk89)
            clear ho9 hk9 hn9 hk89 bX9
            refine hK.out _ _ hB9 (fun hHeld9 => ?_)
            clear hK K
            refine wpAnyH_ready (rs := [8]) (by kernel_rfl) (by simp) ?_
            refine AllReadyH.cons rfl (fun K hK => ?_) AllReadyH.nil
            go_simp
            refine hK.out _ _ hHeld9 (fun _ => ?_)
            clear hK K
            refine wpAnyH_ready (rs := [9]) (by kernel_rfl) (by simp) ?_
            refine AllReadyH.cons rfl (fun K hK => ?_) AllReadyH.nil
            go_simp
            refine hK.out _ _ hHeld9 (fun _ => ?_)
            clear hK K
            refine wpAnyH_ready (rs := [10]) (by kernel_rfl) (by simp) ?_
            refine AllReadyH.cons rfl (fun K hK => ?_) AllReadyH.nil
            go_simp
            refine hK.out _ _ (hHeld9.setCell (fun _ h => h.2 rfl) _) (fun _ => ?_)
            clear hK K
            refine wpAnyH_done (by kernel_rfl) ?_ _
            go_wp2_with fail
            exact ⟨⟨k + 1, _, _, _, _, _, by omega, congrArg _ (by omega), HN⟩, by simp [intOf]; omega⟩
    · obtain rfl : k = n := by omega
      go_wp2_with fail
      go_ret
      exact ⟨⟨_, ps, vL, vM, vT, vB, rfl, HW.out⟩, HW.out.fresh⟩
end Go.Proofs.YtohnmaindbgngaaGreatDoor
