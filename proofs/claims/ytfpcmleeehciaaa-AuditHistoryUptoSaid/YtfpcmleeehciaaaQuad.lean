/-
  THE LOOSE LIST IN MEMORY: the box with its four rows; what a push does.
-/
import Derived.Test.YtfpcmleeehciaaaPads
namespace Go.Proofs.Ytfpcmleeehciaaa
set_option linter.unusedVariables false
set_option linter.unusedSimpArgs false
open Go.RowKit

/-- The box X with its four rows; the mark that is being copied lies in G. -/
structure Quad (w wr : World) (X G : Nat) (cs : Array Value) (nL nM nT nB : Nat) (xL : List MkV) (xM xT xB : List Value) (vL vM vT vB : Value) : Prop where
  blk : Blk wr X 35 #[vL, vM, vT, vB]
  copy : Blk wr G 50 cs
  L : wr.ownsRow w.heap.size 50 26 vL nL (mcells xL)
  M : wr.ownsRow w.heap.size 42 1 vM nM xM
  T : wr.ownsRow w.heap.size 23 1 vT nT xT
  B : wr.ownsRow w.heap.size 43 1 vB nB xB
  fresh : Fresh w wr
  lo : w.heap.size ≤ X
  neL : vL.ownBlock ≠ some G
  hiG : w.heap.size ≤ G
section
variable {w wr w1 : World} {X G : Nat} {cs : Array Value} {nL nM nT nB : Nat} {xL : List MkV} {xM xT xB : List Value} {vL vM vT vB v' : Value}
theorem Quad.ne (h : Quad w wr X G cs nL nM nT nB xL xM xT xB vL vM vT vB) : X ≠ G := h.blk.ne h.copy (by decide)
theorem Quad.pushM {u : Value} (h : Quad w wr X G cs nL nM nT nB xL xM xT xB vL vM vT vB) (ho : w1.ownsRow w.heap.size 42 1 v' (nM + 1) (xM ++ [u])) (hk : Keep (fun k => vM.ownBlock ≠ some k) wr w1) :
    Quad w (w1.setCell ⟨X, 1, none⟩ v') X G cs nL (nM + 1) nT nB xL (xM ++ [u]) xT xB vL v' vT vB ∧ Soft wr (w1.setCell ⟨X, 1, none⟩ v') ∧ Blk w1 X 35 #[vL, vM, vT, vB] := by
  have hb : Blk w1 X 35 #[vL, vM, vT, vB] := h.blk.keep hk (own_ne_blk h.M h.blk (by decide))
  have hf : Fresh w w1 := h.fresh.comp hk (fun _ _ h => h) (fun i hi _ e => by have := (own_lt h.M e).1; omega)
  refine ⟨⟨hb.set 1 v', (h.copy.keep hk (own_ne_blk h.M h.copy (by decide))).far h.ne.symm _, own_far (own_keep h.L hk (fun k e => own_ne_owned h.L h.M (by decide) e)) (own_ne_blk (own_keep h.L hk (fun k e => own_ne_owned h.L h.M (by decide) e)) hb (by decide)) _, own_far ho (own_ne_blk ho hb (by decide)) _, own_far (own_keep h.T hk (fun k e => own_ne_owned h.T h.M (by decide) e)) (own_ne_blk (own_keep h.T hk (fun k e => own_ne_owned h.T h.M (by decide) e)) hb (by decide)) _, own_far (own_keep h.B hk (fun k e => own_ne_owned h.B h.M (by decide) e)) (own_ne_blk (own_keep h.B hk (fun k e => own_ne_owned h.B h.M (by decide) e)) hb (by decide)) _, hf.setCell (fun hl => absurd hl (by have := h.lo; show ¬ X < _; omega)) _, h.lo, h.neL, h.hiG⟩, (Soft.own h.M (by decide) hk).trans (Soft.set hb (by decide) v'), hb⟩
theorem Quad.pushT {u : Value} (h : Quad w wr X G cs nL nM nT nB xL xM xT xB vL vM vT vB) (ho : w1.ownsRow w.heap.size 23 1 v' (nT + 1) (xT ++ [u])) (hk : Keep (fun k => vT.ownBlock ≠ some k) wr w1) :
    Quad w (w1.setCell ⟨X, 2, none⟩ v') X G cs nL nM (nT + 1) nB xL xM (xT ++ [u]) xB vL vM v' vB ∧ Soft wr (w1.setCell ⟨X, 2, none⟩ v') ∧ Blk w1 X 35 #[vL, vM, vT, vB] := by
  have hb : Blk w1 X 35 #[vL, vM, vT, vB] := h.blk.keep hk (own_ne_blk h.T h.blk (by decide))
  have hf : Fresh w w1 := h.fresh.comp hk (fun _ _ h => h) (fun i hi _ e => by have := (own_lt h.T e).1; omega)
  refine ⟨⟨hb.set 2 v', (h.copy.keep hk (own_ne_blk h.T h.copy (by decide))).far h.ne.symm _, own_far (own_keep h.L hk (fun k e => own_ne_owned h.L h.T (by decide) e)) (own_ne_blk (own_keep h.L hk (fun k e => own_ne_owned h.L h.T (by decide) e)) hb (by decide)) _, own_far (own_keep h.M hk (fun k e => own_ne_owned h.M h.T (by decide) e)) (own_ne_blk (own_keep h.M hk (fun k e => own_ne_owned h.M h.T (by decide) e)) hb (by decide)) _, own_far ho (own_ne_blk ho hb (by decide)) _, own_far (own_keep h.B hk (fun k e => own_ne_owned h.B h.T (by decide) e)) (own_ne_blk (own_keep h.B hk (fun k e => own_ne_owned h.B h.T (by decide) e)) hb (by decide)) _, hf.setCell (fun hl => absurd hl (by have := h.lo; show ¬ X < _; omega)) _, h.lo, h.neL, h.hiG⟩, (Soft.own h.T (by decide) hk).trans (Soft.set hb (by decide) v'), hb⟩
theorem Quad.pushB {u : Value} (h : Quad w wr X G cs nL nM nT nB xL xM xT xB vL vM vT vB) (ho : w1.ownsRow w.heap.size 43 1 v' (nB + 1) (xB ++ [u])) (hk : Keep (fun k => vB.ownBlock ≠ some k) wr w1) :
    Quad w (w1.setCell ⟨X, 3, none⟩ v') X G cs nL nM nT (nB + 1) xL xM xT (xB ++ [u]) vL vM vT v' ∧ Soft wr (w1.setCell ⟨X, 3, none⟩ v') ∧ Blk w1 X 35 #[vL, vM, vT, vB] := by
  have hb : Blk w1 X 35 #[vL, vM, vT, vB] := h.blk.keep hk (own_ne_blk h.B h.blk (by decide))
  have hf : Fresh w w1 := h.fresh.comp hk (fun _ _ h => h) (fun i hi _ e => by have := (own_lt h.B e).1; omega)
  refine ⟨⟨hb.set 3 v', (h.copy.keep hk (own_ne_blk h.B h.copy (by decide))).far h.ne.symm _, own_far (own_keep h.L hk (fun k e => own_ne_owned h.L h.B (by decide) e)) (own_ne_blk (own_keep h.L hk (fun k e => own_ne_owned h.L h.B (by decide) e)) hb (by decide)) _, own_far (own_keep h.M hk (fun k e => own_ne_owned h.M h.B (by decide) e)) (own_ne_blk (own_keep h.M hk (fun k e => own_ne_owned h.M h.B (by decide) e)) hb (by decide)) _, own_far (own_keep h.T hk (fun k e => own_ne_owned h.T h.B (by decide) e)) (own_ne_blk (own_keep h.T hk (fun k e => own_ne_owned h.T h.B (by decide) e)) hb (by decide)) _, own_far ho (own_ne_blk ho hb (by decide)) _, hf.setCell (fun hl => absurd hl (by have := h.lo; show ¬ X < _; omega)) _, h.lo, h.neL, h.hiG⟩, (Soft.own h.B (by decide) hk).trans (Soft.set hb (by decide) v'), hb⟩
theorem Quad.setG (h : Quad w wr X G cs nL nM nT nB xL xM xT xB vL vM vT vB) (i : Nat) (u : Value) : Quad w (wr.setCell ⟨G, i, none⟩ u) X G (cs.setIfInBounds i u) nL nM nT nB xL xM xT xB vL vM vT vB ∧ Soft wr (wr.setCell ⟨G, i, none⟩ u) :=
  ⟨⟨h.blk.far h.ne _, h.copy.set i u, own_far h.L h.neL _, own_far h.M (own_ne_blk h.M h.copy (by decide)) _, own_far h.T (own_ne_blk h.T h.copy (by decide)) _, own_far h.B (own_ne_blk h.B h.copy (by decide)) _, h.fresh.setCell (fun hl => absurd hl (by have := h.hiG; show ¬ G < _; omega)) _, h.lo, h.neL, h.hiG⟩, Soft.set h.copy (by decide) u⟩
end
/-- The box behind k marks. -/
structure Loos (w wr : World) (X : Nat) (hs : List MkV) (k : Nat) (ps : List LMk) (vL vM vT vB : Value) : Prop where
  blk : Blk wr X 35 #[vL, vM, vT, vB]
  len : ps.length = k
  L : wr.ownsRow w.heap.size 50 26 vL k (mcells (ps.map LMk.x))
  M : wr.ownsRow w.heap.size 42 1 vM k (ps.map LMk.m)
  T : wr.ownsRow w.heap.size 23 1 vT k (ps.map LMk.t)
  B : wr.ownsRow w.heap.size 43 1 vB k (ps.map LMk.b)
  rows : ∀ p ∈ ps, LMkOk wr w.heap.size p
  same : dsOf (ps.map LMk.x) = dsOf (hs.take k)
  fresh : Fresh w wr
  lo : w.heap.size ≤ X
theorem Loos.keep {w wr w1 : World} {X : Nat} {hs : List MkV} {k : Nat} {ps : List LMk} {vL vM vT vB : Value} (h : Loos w wr X hs k ps vL vM vT vB) (hf : Fresh wr w1) : Loos w w1 X hs k ps vL vM vT vB :=
  ⟨h.blk.keep hf trivial, h.len, own_keep h.L hf (fun _ _ => trivial), own_keep h.M hf (fun _ _ => trivial), own_keep h.T hf (fun _ _ => trivial), own_keep h.B hf (fun _ _ => trivial), fun p hp => (h.rows p hp).soft (Soft.fresh hf), h.same, h.fresh.trans hf, h.lo⟩
theorem Loos.quad {w wr w1 : World} {X G : Nat} {cs : Array Value} {hs : List MkV} {k : Nat} {ps : List LMk} {vL vM vT vB : Value} (h : Loos w wr X hs k ps vL vM vT vB) (hf : Fresh wr w1) (hb : Blk w1 G 50 cs) (hG : wr.heap.size ≤ G) :
    Quad w w1 X G cs k k k k (ps.map LMk.x) (ps.map LMk.m) (ps.map LMk.t) (ps.map LMk.b) vL vM vT vB :=
  have h1 := h.keep hf
  ⟨h1.blk, hb, h1.L, h1.M, h1.T, h1.B, h1.fresh, h1.lo, fun e => by have := (own_lt h.L e).2; omega, Nat.le_trans h.fresh.size hG⟩
/-- The mark is pushed. -/
theorem Loos.step {w wr wq w1 : World} {X G : Nat} {cs : Array Value} {hs : List MkV} {k : Nat} {ps : List LMk} {p : LMk} {vL vM vT vB vM' vT' vB' vL' : Value} (h : Loos w wr X hs k ps vL vM vT vB)
    (hq : Quad w wq X G cs k (k + 1) (k + 1) (k + 1) (ps.map LMk.x) (ps.map LMk.m ++ [p.m]) (ps.map LMk.t ++ [p.t]) (ps.map LMk.b ++ [p.b]) vL vM' vT' vB') (hk : k < hs.length) (hd : p.x.d = hs[k].d) (hsq : Soft wr wq) (hp : LMkOk wq w.heap.size p)
    (ho : w1.ownsRow w.heap.size 50 26 vL' (k + 1) (mcells (ps.map LMk.x) ++ p.x.cells)) (hkk : Keep (fun i => vL.ownBlock ≠ some i) wq w1) : Loos w (w1.setCell ⟨X, 0, none⟩ vL') X hs (k + 1) (ps ++ [p]) vL' vM' vT' vB' := by
  have hb : Blk w1 X 35 #[vL, vM', vT', vB'] := hq.blk.keep hkk (own_ne_blk hq.L hq.blk (by decide))
  have hf : Fresh w w1 := hq.fresh.comp hkk (fun _ _ h => h) (fun i hi _ e => by have := (own_lt hq.L e).1; omega)
  have hS : Soft wq (w1.setCell ⟨X, 0, none⟩ vL') := (Soft.own hq.L (by decide) hkk).trans (Soft.set hb (by decide) vL')
  refine ⟨hb.set 0 vL', by simp [h.len], ?_, ?_, ?_, ?_, fun q hq2 => ?_, ?_, hf.setCell (fun hl => absurd hl (by have := h.lo; show ¬ X < _; omega)) _, h.lo⟩
  · rw [mcells_snoc] at ho
    have := own_far ho (own_ne_blk ho hb (by decide)) (p := ⟨X, 0, none⟩) vL'
    simpa using this
  · have := own_far (own_keep hq.M hkk (fun k e => own_ne_owned hq.M hq.L (by decide) e)) (own_ne_blk (own_keep hq.M hkk (fun k e => own_ne_owned hq.M hq.L (by decide) e)) hb (by decide)) (p := ⟨X, 0, none⟩) vL'
    simpa using this
  · have := own_far (own_keep hq.T hkk (fun k e => own_ne_owned hq.T hq.L (by decide) e)) (own_ne_blk (own_keep hq.T hkk (fun k e => own_ne_owned hq.T hq.L (by decide) e)) hb (by decide)) (p := ⟨X, 0, none⟩) vL'
    simpa using this
  · have := own_far (own_keep hq.B hkk (fun k e => own_ne_owned hq.B hq.L (by decide) e)) (own_ne_blk (own_keep hq.B hkk (fun k e => own_ne_owned hq.B hq.L (by decide) e)) hb (by decide)) (p := ⟨X, 0, none⟩) vL'
    simpa using this
  · rcases List.mem_append.1 hq2 with h2 | h2
    · exact (h.rows q h2).soft (hsq.trans hS)
    · simp at h2
      subst h2
      exact hp.soft hS
  · have e : dsOf ((ps ++ [p]).map LMk.x) = dsOf (ps.map LMk.x) ++ [p.x.d] := by simp [dsOf]
    rw [e, h.same, dsOf_take hk, hd]
end Go.Proofs.Ytfpcmleeehciaaa
