/-
  MERGED: Sess Ask SnapE
-/
import Derived.Test.YtioinjcdkmiafaaDoorYB2
import Derived.Test.YtioinjcdkmiafaaDoorYB4
import Derived.Test.YtioinjcdkmiafaaDoorYA5
import Derived.BigRegion
import Derived.Test.YtioinjcdkmiafaaDoorYB1
namespace Go.Proofs.YtioinjcdkmiafaaDoor
set_option linter.unusedVariables false
set_option linter.unusedSimpArgs false
open Go.RowKit

theorem mcell_head {bp bl : Nat} {tok : Int} {ss : List MSess} : (mchcells bp bl tok ss)[0]? = some (.map (some bp)) ∧ (mchcells bp bl tok ss)[1]? = some (.map (some bl)) := ⟨rfl, rfl⟩
theorem mcell_sess {bp bl : Nat} {tok : Int} {ss : List MSess} {q j : Nat} (hq : q < ss.length) (hj : j < 5) : (mchcells bp bl tok ss)[3 + q * 5 + j]? = ss[q].cells[j]? := by
  unfold mchcells
  rw [List.getElem?_append_right (by simp; omega)]
  simp only [List.length_cons, List.length_nil]
  rw [show 3 + q * 5 + j - (0 + 1 + 1 + 1) = q * 5 + j by omega]
  exact rcells_get sess_five ss q hq j hj
theorem mcell_put {bp bl : Nat} {tok : Int} {ss : List MSess} {q j : Nat} (hq : q < ss.length) (hj : j < 5) (u : Value) (p : MSess) (hp : p.cells = ss[q].cells.set j u) :
    (mchcells bp bl tok ss).toArray.setIfInBounds (3 + q * 5 + j) u = (mchcells bp bl tok (ss.set q p)).toArray := by
  rw [List.setIfInBounds_toArray]
  unfold mchcells
  rw [List.set_append_right _ _ (by simp; omega)]
  simp only [List.length_cons, List.length_nil]
  rw [show 3 + q * 5 + j - (0 + 1 + 1 + 1) = q * 5 + j by omega]
  rw [rcells_set sess_five ss q hq j u p hj hp]
theorem mcells_store {bp bl : Nat} {tok : Int} {ss : List MSess} {q : Nat} (hq : q < ss.length) (i r : Int) (R : MRes) :
    ((((((mchcells bp bl tok ss).toArray.setIfInBounds (3 + q * 5) (.int .i64 i)).setIfInBounds (3 + q * 5 + 1) (.int .i64 r)).setIfInBounds (3 + q * 5 + 2) (.int .i64 R.code)).setIfInBounds (3 + q * 5 + 3) (str R.val)).setIfInBounds (3 + q * 5 + 4) (.int .i64 R.n)) = (mchcells bp bl tok (ss.set q ⟨i, r, R⟩)).toArray := by
  have l1 : q < (ss.set q ⟨i, ss[q].req, ss[q].last⟩).length := by simpa using hq
  have l2 : q < (ss.set q ⟨i, r, ss[q].last⟩).length := by simpa using hq
  have l3 : q < (ss.set q ⟨i, r, ⟨R.code, ss[q].last.val, ss[q].last.n⟩⟩).length := by simpa using hq
  have l4 : q < (ss.set q ⟨i, r, ⟨R.code, R.val, ss[q].last.n⟩⟩).length := by simpa using hq
  have e0 : (mchcells bp bl tok ss).toArray.setIfInBounds (3 + q * 5) (.int .i64 i) = _ := mcell_put (j := 0) hq (by omega) (.int .i64 i) ⟨i, ss[q].req, ss[q].last⟩ rfl
  rw [e0, mcell_put (j := 1) l1 (by omega) _ ⟨i, r, ss[q].last⟩ (by simp [MSess.cells]), List.set_set,
    mcell_put (j := 2) l2 (by omega) _ ⟨i, r, ⟨R.code, ss[q].last.val, ss[q].last.n⟩⟩ (by simp [MSess.cells]), List.set_set,
    mcell_put (j := 3) l3 (by omega) _ ⟨i, r, ⟨R.code, R.val, ss[q].last.n⟩⟩ (by simp [MSess.cells]), List.set_set,
    mcell_put (j := 4) l4 (by omega) _ ⟨i, r, R⟩ (by simp [MSess.cells]), List.set_set]

end Go.Proofs.YtioinjcdkmiafaaDoor
namespace Go.Proofs.YtioinjcdkmiafaaDoor
set_option linter.unusedVariables false
set_option linter.unusedSimpArgs false
open Go.RowKit

theorem newm_any (w : World) : Calls Tryd.prog 34 #[] w fun e w' => (∃ m bp bl : Nat, e = .returned (.pointer (some ⟨m, 0, none⟩)) ∧ MSt (fun j => j = bl) w' m bp bl newD ∧ w.heap.size ≤ m ∧ w.heap.size ≤ bp ∧ w.heap.size ≤ bl) ∧ Fresh w w' := by
  refine (new_any w).mono ?_
  rintro e w' ⟨⟨m, bp, bl, rfl, hm, h1, h2, h3⟩, hf⟩
  refine ⟨⟨m, bp, bl, rfl, ⟨hm.blk, by simp [newD], hm.pm, ⟨[], hm.lm, (fun x hx => by cases hx), List.Pairwise.nil, rfl, rfl⟩, fun e => ?_, fun e => ?_⟩, h1, h2, h3⟩, hf⟩
  · exact hm.lm.ne_blk hm.blk e.symm
  · exact hm.ne e

/-! ### Session -/
def sesA (z : SesD) : Array Value := #[.int .i64 z.inc, .int .i64 z.req, .int .i64 z.last.code, str z.last.val, .int .i64 z.last.n]
abbrev sesV (z : SesD) : Value := .agg (sesA z)
/-- What 'Session' tells. -/
def sessD (q : Int) (s : StD) : SesD × Bool := if q < 0 ∨ 16 ≤ q ∨ (s.ss.getD q.toNat noSes).inc = 0 then (noSes, false) else (s.ss.getD q.toNat noSes, true)
theorem MSt.ses {S : Nat → Prop} {w : World} {m bp bl : Nat} {s : StD} (h : MSt S w m bp bl s) {q : Nat} (hq : q < 16) (j : Nat) (hj : j < 5) : w.cell? ⟨m, 3 + q * 5 + j, none⟩ = (MSess.cells (s.ss.getD q noSes))[j]? := by
  have hqs : q < s.ss.length := by rw [h.len]; exact hq
  rw [h.cell, mcell_sess hqs hj, List.getD_eq_getElem?_getD, List.getElem?_eq_getElem hqs]
  rfl

/-- Five cells are stored into a block that the call made. -/
def sesStored (w : World) (g : Nat) (z : SesD) : World := ((((w.setCell ⟨g, 0, none⟩ (.int .i64 z.inc)).setCell ⟨g, 1, none⟩ (.int .i64 z.req)).setCell ⟨g, 2, none⟩ (.int .i64 z.last.code)).setCell ⟨g, 3, none⟩ (str z.last.val)).setCell ⟨g, 4, none⟩ (.int .i64 z.last.n)
theorem ses_stored {w W : World} {g : Nat} {cs : Array Value} (hf : Fresh w W) (hb : Blk W g 92 cs) (hc : cs = sesA noSes) (hg : g = w.heap.size) (z : SesD) : Blk (sesStored W g z) g 92 (sesA z) ∧ Fresh w (sesStored W g z) := by
  subst hc
  have h : g < w.heap.size → ¬ True := fun h => absurd h (by rw [hg]; exact Nat.lt_irrefl _)
  exact ⟨((((hb.set 0 _).set 1 _).set 2 _).set 3 _).set 4 _, ((((hf.setCell h _).setCell h _).setCell h _).setCell h _).setCell h _⟩

/-! ### Locks, Holder -/
theorem lks_rise {S : Nat → Prop} {w : World} {bl : Nat} {ms : List LkM} {ls : List LockD} (h : Lks S w bl ms ls) : (ms.map LkM.kv).map Prod.fst = ls.map LockD.name := by
  rw [← h.keys, List.map_map]
  rfl
abbrev holdA (h : Int × Int × Int) : Array Value := #[.int .i64 h.1, .int .i64 h.2.1, .int .i64 h.2.2]
/-- What 'Holder' tells: the client, its incarnation, the token. -/
def holdD (k : Txt) (s : StD) : (Int × Int × Int) × Bool := match lfind k s.locks with
  | none => ((0, 0, 0), false)
  | some l => ((l.holder, (s.ss.getD l.holder.toNat noSes).inc, l.token), true)
end Go.Proofs.YtioinjcdkmiafaaDoor
namespace Go.Proofs.YtioinjcdkmiafaaDoor
set_option linter.unusedVariables false
set_option linter.unusedSimpArgs false

/-! ### the sessions, told as a list -/
abbrev Up (l : List (Nat × SesD)) : Prop := l.Pairwise fun a b => a.1 < b.1
theorem up_ext : ∀ {l m : List (Nat × SesD)}, Up l → Up m → (∀ x, x ∈ l ↔ x ∈ m) → l = m
  | [], [], _, _, _ => rfl
  | [], y :: r, _, _, h => absurd ((h y).2 (by simp)) (by simp)
  | x :: r, [], _, _, h => absurd ((h x).1 (by simp)) (by simp)
  | x :: r, y :: s, h1, h2, h => by
    obtain ⟨a1, a2⟩ := List.pairwise_cons.1 h1
    obtain ⟨b1, b2⟩ := List.pairwise_cons.1 h2
    have hxy : x = y := by
      rcases List.mem_cons.1 ((h x).1 (by simp)) with e | hx
      · exact e
      · rcases List.mem_cons.1 ((h y).2 (by simp)) with e | hy
        · exact e.symm
        · have c1 := b1 _ hx
          have c2 := a1 _ hy
          omega
    subst hxy
    congr 1
    refine up_ext a2 b2 fun z => ?_
    have hz := h z
    rw [List.mem_cons, List.mem_cons] at hz
    have n1 : x ∉ r := fun hx => by have := a1 _ hx; omega
    have n2 : x ∉ s := fun hx => by have := b1 _ hx; omega
    constructor
    · intro hr
      rcases hz.1 (.inr hr) with e | h3
      · subst e; exact absurd hr n1
      · exact h3
    · intro hs
      rcases hz.2 (.inr hs) with e | h3
      · subst e; exact absurd hs n2
      · exact h3
theorem asked_mem {ss : List SesD} {x : Nat × SesD} : x ∈ asked ss ↔ x.1 < 16 ∧ x.2 = ss.getD x.1 noSes ∧ 0 < x.2.inc := by
  unfold asked
  rw [List.mem_filter, List.mem_map]
  constructor
  · rintro ⟨⟨q, hq, rfl⟩, h⟩
    exact ⟨by simpa using hq, rfl, by simpa using h⟩
  · rintro ⟨h1, h2, h3⟩
    exact ⟨⟨x.1, by simpa using h1, by rw [← h2]⟩, by simpa using h3⟩
theorem asked_up (ss : List SesD) : Up (asked ss) := by
  unfold asked
  refine List.Pairwise.sublist List.filter_sublist ?_
  rw [List.pairwise_map]
  exact List.pairwise_lt_range
theorem asked_len (ss : List SesD) : (asked ss).length ≤ 16 := by
  unfold asked
  refine Nat.le_trans (List.length_filter_le _ _) ?_
  simp
theorem sesAt_of {l : List (Nat × SesD)} (hu : Up l) {x : Nat × SesD} (hx : x ∈ l) : sesAt l x.1 = x.2 := by
  unfold sesAt
  induction l with
  | nil => cases hx
  | cons y r ih =>
    obtain ⟨h1, h2⟩ := List.pairwise_cons.1 hu
    rw [List.find?_cons]
    rcases List.mem_cons.1 hx with rfl | hx
    · simp
    · have := h1 x hx
      have e : (y.1 == x.1) = false := by simp; omega
      rw [e]
      exact ih h2 hx
theorem sesAt_none {l : List (Nat × SesD)} {q : Nat} (h : ∀ x ∈ l, x.1 ≠ q) : sesAt l q = noSes := by
  unfold sesAt
  have : l.find? (fun x => x.1 == q) = none := List.find?_eq_none.2 fun x hx => by simp [h x hx]
  rw [this]
  rfl
theorem sesAt_asked {ss : List SesD} (hs : ∀ x ∈ ss, x = noSes ∨ SesOk x) (h16 : ss.length = 16) {q : Nat} (hq : q < 16) : sesAt (asked ss) q = ss.getD q noSes := by
  by_cases h : 0 < (ss.getD q noSes).inc
  · exact sesAt_of (asked_up ss) (x := (q, ss.getD q noSes)) (asked_mem.2 ⟨hq, rfl, h⟩)
  · rcases hs _ (getD_mem (n := q) (by omega)) with e | e
    · rw [e]
      refine sesAt_none fun x hx hxq => ?_
      have := asked_mem.1 hx
      rw [hxq, e] at this
      have h2 := this.2.2
      rw [this.2.1] at h2
      exact absurd h2 (by decide)
    · have := e.i0
      omega
theorem asked_back {ss : List SesD} (hs : ∀ x ∈ ss, x = noSes ∨ SesOk x) (h16 : ss.length = 16) : (List.range 16).map (sesAt (asked ss)) = ss := by
  apply List.ext_getElem (by simp [h16])
  intro i h1 h2
  have hi : i < 16 := by simpa using h1
  rw [List.getElem_map, List.getElem_range, sesAt_asked hs h16 hi]
  simp [List.getD, h2]
theorem asked_of {l : List (Nat × SesD)} (hu : Up l) (h : ∀ x ∈ l, x.1 < 16 ∧ 0 < x.2.inc) : asked ((List.range 16).map (sesAt l)) = l := by
  have hget : ∀ q, q < 16 → ((List.range 16).map (sesAt l)).getD q noSes = sesAt l q := fun q hq => by simp [List.getD, hq]
  refine up_ext (asked_up _) hu fun x => ?_
  rw [asked_mem]
  constructor
  · rintro ⟨h1, h2, h3⟩
    rw [hget _ h1] at h2
    by_cases hx : ∃ y ∈ l, y.1 = x.1
    · obtain ⟨y, hy, e⟩ := hx
      have h4 := sesAt_of hu hy
      rw [e] at h4
      have : x = y := Prod.ext e.symm (h2.trans h4)
      rw [this]
      exact hy
    · rw [sesAt_none (fun y hy e => hx ⟨y, hy, e⟩)] at h2
      rw [h2] at h3
      exact absurd h3 (by decide)
  · intro hx
    obtain ⟨h1, h2⟩ := h x hx
    exact ⟨h1, by rw [hget _ h1, sesAt_of hu hx], h2⟩

/-! ### what is written is read -/
def rawOf (s : StD) : RawD := ⟨s.tok.toNat, s.pairs, s.locks, asked s.ss⟩
theorem ses_asked {s : StD} (h : Inv s) {x : Nat × SesD} (hx : x ∈ asked s.ss) : x.1 < 16 ∧ SesOk x.2 := by
  obtain ⟨h1, h2, h3⟩ := asked_mem.1 hx
  refine ⟨h1, ?_⟩
  rcases h.ses _ (getD_mem (n := x.1) (by rw [h.s16]; exact h1)) with e | e
  · rw [h2, e] at h3
    exact absurd h3 (by decide)
  · rw [h2]
    exact e
theorem oRaw_put {bs X : List UInt8} {s : StD} {p : Nat} (h : Inv s) (hb : bs.drop p = restB s ++ X) : oRaw bs p = some (rawOf s, p + (restB s).length) := by
  have t0 := h.lk.tok0
  have t1 := h.lk.tok1
  unfold restB at hb
  rw [List.append_assoc, List.append_assoc, List.append_assoc, List.append_assoc, List.append_assoc, List.append_assoc] at hb
  have h1 := drop_next hb
  have h2 := drop_next h1
  have h3 := drop_next h2
  have h4 := drop_next h3
  have h5 := drop_next h4
  have h6 := drop_next h5
  have hpl := h.pr.len
  have hll := h.lk.len
  have hal := asked_len s.ss
  unfold oRaw
  rw [oNum_put hb (by omega) (by omega)]
  simp only [Option.bind_some]
  rw [oNum_put h1 (by omega) (by omega)]
  simp only [Option.bind_some]
  rw [oMany_put (enc := pairB) s.pairs _ _ (fun x hx p X hb => oPair_put hb (h.pr.each x hx).2.1 (h.pr.each x hx).2.2) h2]
  simp only [Option.bind_some]
  rw [oNum_put h3 (by omega) (by omega)]
  simp only [Option.bind_some]
  rw [oMany_put (enc := lockB) s.locks _ _ (fun x hx p X hb => oLock_put hb (h.lk.each x hx) t1) h4]
  simp only [Option.bind_some]
  rw [oNum_put h5 (by omega) (by omega)]
  simp only [Option.bind_some]
  rw [oMany_put (enc := sesB) (asked s.ss) _ _ (fun x hx p X hb => oSes_put hb (ses_asked h hx).1 (ses_asked h hx).2) h6]
  simp only [Option.bind_some]
  simp [rawOf, restB, Nat.add_assoc]
theorem rawOk_of {s : StD} (h : Inv s) : RawOk (rawOf s) where
  pn := fun p hp e => by have := (h.pr.each p hp).1; rw [e] at this; simp at this
  pr := h.pr.rise
  ln := fun l hl e => by have := (h.lk.each l hl).n1; rw [e] at this; simp at this
  lr := h.lk.rise
  lt := fun l hl => by
    have h1 := (h.lk.each l hl).t0
    have h2 := (h.lk.each l hl).t1
    have h0 := h.lk.tok0
    refine ⟨h1, ?_⟩
    show l.token ≤ ((s.tok.toNat : Nat) : Int)
    omega
  la := h.lk.apart
  lq := fun l hl => ⟨(h.lk.each l hl).nd, (h.lk.each l hl).hq⟩
  sr := asked_up _
  s1 := fun x hx => by
    have := (ses_asked h hx).2
    exact ⟨this.i0, this.r0, this.last.c0, this.last.c10⟩
  link := fun c hc => by
    have h1 := h.link c hc
    have hc16 : c.toNat < 16 := by
      obtain ⟨l, hl, hh⟩ := hc
      have hk := h.lk.each l hl
      rcases hh with rfl | hh
      · have := hk.h0; have := hk.h1; omega
      · have := hk.q c hh; omega
    rw [show (rawOf s).sess = asked s.ss from rfl, sesAt_asked h.ses h.s16 hc16]
    exact h1
theorem toSt_of {s : StD} (h : Inv s) : toSt (rawOf s) = s := by
  unfold toSt rawOf
  have e1 := asked_back h.ses h.s16
  have e2 : ((s.tok.toNat : Nat) : Int) = s.tok := by have := h.lk.tok0; omega
  simp only
  rw [e1, e2]
theorem rest_pos (s : StD) : 4 ≤ (restB s).length := by
  have h1 := putB_pos s.tok.toNat
  have h2 := putB_pos s.pairs.length
  have h3 := putB_pos s.locks.length
  have h4 := putB_pos (asked s.ss).length
  unfold restB
  simp only [List.length_append]
  omega
/-- A machine is what its snapshot tells. -/
theorem restored_snap {s : StD} (h : Inv s) : Restored (snapB s) s := by
  have hp := rest_pos s
  have hl : (snapB s).length = (bodyB s).length + 4 := by unfold snapB; rw [List.length_append, sumB_four]
  have hbl : (bodyB s).length = 3 + (restB s).length := by unfold bodyB; rw [List.length_append]; rfl
  have ht : (snapB s).take ((snapB s).length - 4) = bodyB s := by
    rw [hl, Nat.add_sub_cancel]
    unfold snapB
    exact List.take_left
  refine ⟨⟨by omega, ?_, ?_⟩, rawOf s, ?_, rawOk_of h, (toSt_of h).symm⟩
  · unfold snapB bodyB headB
    rfl
  · rw [ht, hl, Nat.add_sub_cancel]
    unfold snapB
    exact List.drop_left
  · rw [ht]
    have := oRaw_put (bs := bodyB s) (p := 3) (X := []) h (by unfold bodyB headB; simp)
    rw [this, hl, hbl]
    simp
end Go.Proofs.YtioinjcdkmiafaaDoor
