/-
  MERGED: SnapD RepD RepP
-/
import Derived.Test.YtioinjcdkmiafaaDoorYB0
import Derived.Test.YtioinjcdkmiafaaDoorYA1
import Derived.Test.YtioinjcdkmiafaaDoorYA3
import Derived.Test.YtioinjcdkmiafaaDoorYA5
namespace Go.Proofs.YtioinjcdkmiafaaDoor
set_option linter.unusedVariables false
set_option linter.unusedSimpArgs false

def queueB (q : List Int) : List UInt8 := q.flatMap fun c => putB c.toNat
def lockB (l : LockD) : List UInt8 := txt l.name ++ (putB l.holder.toNat ++ (putB l.token.toNat ++ (putB l.queue.length ++ queueB l.queue)))
def pairB (p : Txt × Txt) : List UInt8 := txt p.1 ++ txt p.2
def sesB (x : Nat × SesD) : List UInt8 := putB x.1 ++ (putB x.2.inc.toNat ++ (putB x.2.req.toNat ++ (putB x.2.last.code.toNat ++ (txt x.2.last.val ++ putB x.2.last.n.toNat))))
/-- The clients that have a session, with it. -/
def asked (ss : List SesD) : List (Nat × SesD) := ((List.range 16).map fun q => (q, ss.getD q noSes)).filter fun x => decide (0 < x.2.inc)
def restB (s : StD) : List UInt8 := putB s.tok.toNat ++ (putB s.pairs.length ++ (s.pairs.flatMap pairB ++ (putB s.locks.length ++ (s.locks.flatMap lockB ++ (putB (asked s.ss).length ++ (asked s.ss).flatMap sesB)))))
def headB : List UInt8 := [81, 83, 1]
def bodyB (s : StD) : List UInt8 := headB ++ restB s
def snapB (s : StD) : List UInt8 := bodyB s ++ sumB (bodyB s)

/-! ### reading -/
def oNum (bs : List UInt8) (p hi : Nat) : Option (Nat × Nat) := if (takeB (bs.drop p)).2.2 = 0 ∧ (takeB (bs.drop p)).1 ≤ hi then some ((takeB (bs.drop p)).1, p + (takeB (bs.drop p)).2.1) else none
def oTxt (bs : List UInt8) (p : Nat) : Option (Txt × Nat) := (oNum bs p 8).bind fun x => if x.2 + x.1 ≤ bs.length then some ((bs.drop x.2).take x.1, x.2 + x.1) else none
/-- So many of a thing, one behind the other. -/
def oMany {α : Type} (one : Nat → Option (α × Nat)) : Nat → Nat → Option (List α × Nat)
  | 0, p => some ([], p)
  | n + 1, p => (one p).bind fun x => (oMany one n x.2).bind fun y => some (x.1 :: y.1, y.2)
def oPair (bs : List UInt8) (p : Nat) : Option ((Txt × Txt) × Nat) := (oTxt bs p).bind fun k => (oTxt bs k.2).bind fun v => some ((k.1, v.1), v.2)
def oCl (bs : List UInt8) (p : Nat) : Option (Int × Nat) := (oNum bs p 15).bind fun c => some ((c.1 : Int), c.2)
def oLock (bs : List UInt8) (p : Nat) : Option (LockD × Nat) := (oTxt bs p).bind fun k => (oNum bs k.2 15).bind fun h => (oNum bs h.2 99999999).bind fun t => (oNum bs t.2 15).bind fun w => (oMany (oCl bs) w.1 w.2).bind fun q => some (⟨k.1, (h.1 : Int), (t.1 : Int), q.1⟩, q.2)
def oSes (bs : List UInt8) (p : Nat) : Option ((Nat × SesD) × Nat) := (oNum bs p 15).bind fun q => (oNum bs q.2 4611686018427387904).bind fun i => (oNum bs i.2 4611686018427387904).bind fun r => (oNum bs r.2 11).bind fun c => (oTxt bs c.2).bind fun v => (oNum bs v.2 99999999).bind fun n => some ((q.1, ⟨(i.1 : Int), (r.1 : Int), ⟨(c.1 : Int), v.1, (n.1 : Int)⟩⟩), n.2)
structure RawD where
  tok : Nat
  pairs : List (Txt × Txt)
  locks : List LockD
  sess : List (Nat × SesD)
def oRaw (bs : List UInt8) (p : Nat) : Option (RawD × Nat) :=
  (oNum bs p 99999999).bind fun t => (oNum bs t.2 16).bind fun a => (oMany (oPair bs) a.1 a.2).bind fun ps => (oNum bs ps.2 8).bind fun b => (oMany (oLock bs) b.1 b.2).bind fun ls => (oNum bs ls.2 16).bind fun c => (oMany (oSes bs) c.1 c.2).bind fun ss => some (⟨t.1, ps.1, ls.1, ss.1⟩, ss.2)
def sesAt (l : List (Nat × SesD)) (q : Nat) : SesD := ((l.find? fun x => x.1 == q).map (·.2)).getD noSes
structure RawOk (r : RawD) : Prop where
  pn : ∀ p ∈ r.pairs, p.1 ≠ []
  pr : Rise (r.pairs.map Prod.fst)
  ln : ∀ l ∈ r.locks, l.name ≠ []
  lr : Rise (r.locks.map LockD.name)
  lt : ∀ l ∈ r.locks, 1 ≤ l.token ∧ l.token ≤ (r.tok : Int)
  la : r.locks.Pairwise fun a b => a.token ≠ b.token
  lq : ∀ l ∈ r.locks, l.queue.Nodup ∧ l.holder ∉ l.queue
  sr : r.sess.Pairwise fun a b => a.1 < b.1
  s1 : ∀ x ∈ r.sess, 1 ≤ x.2.inc ∧ 1 ≤ x.2.req ∧ 1 ≤ x.2.last.code ∧ x.2.last.code ≠ 10
  link : ∀ c, who r.locks c → 0 < (sesAt r.sess c.toNat).inc
def toSt (r : RawD) : StD := ⟨r.pairs, r.locks, (r.tok : Int), (List.range 16).map (sesAt r.sess)⟩
def sealedB (b : List UInt8) : Prop := 11 ≤ b.length ∧ b.take 3 = headB ∧ b.drop (b.length - 4) = sumB (b.take (b.length - 4))
/-- The machine that these bytes are a snapshot of. -/
def Restored (b : List UInt8) (s : StD) : Prop := sealedB b ∧ ∃ r, oRaw (b.take (b.length - 4)) 3 = some (r, b.length - 4) ∧ RawOk r ∧ s = toSt r

/-! ### what is written is read -/
theorem oNum_put {bs X : List UInt8} {p x hi : Nat} (h : bs.drop p = putB x ++ X) (hx : x ≤ 4611686018427387904) (hm : x ≤ hi) : oNum bs p hi = some (x, p + (putB x).length) := by
  unfold oNum
  rw [h, takeB_put x X hx]
  simp [hm]
theorem oTxt_put {bs X s : List UInt8} {p : Nat} (h : bs.drop p = txt s ++ X) (hs : s.length ≤ 8) : oTxt bs p = some (s, p + (txt s).length) := by
  unfold txt at h
  rw [List.append_assoc] at h
  have h1 := drop_next h
  have hl : p + (putB s.length).length + s.length ≤ bs.length := by
    have := congrArg List.length h1
    simp at this
    have h0 := putB_pos s.length
    have h2 := congrArg List.length h
    simp at h2
    omega
  unfold oTxt
  rw [oNum_put h (by omega) hs]
  simp only [Option.bind_some]
  rw [if_pos hl, h1]
  simp [txt]
  omega
theorem oMany_put {α : Type} {bs : List UInt8} {one : Nat → Option (α × Nat)} {enc : α → List UInt8} : ∀ (l : List α) (p : Nat) (X : List UInt8), (∀ x ∈ l, ∀ p X, bs.drop p = enc x ++ X → one p = some (x, p + (enc x).length)) → bs.drop p = l.flatMap enc ++ X → oMany one l.length p = some (l, p + (l.flatMap enc).length)
  | [], p, X, _, _ => by simp [oMany]
  | x :: r, p, X, ho, h => by
    rw [List.flatMap_cons, List.append_assoc] at h
    have h1 := ho x (by simp) p _ h
    have h2 := drop_next h
    have h3 := oMany_put r (p + (enc x).length) X (fun y hy => ho y (by simp [hy])) h2
    rw [List.length_cons, oMany, h1]
    simp only [Option.bind_some]
    rw [h3]
    simp [Nat.add_assoc]
theorem oPair_put {bs X : List UInt8} {x : Txt × Txt} {p : Nat} (h : bs.drop p = pairB x ++ X) (h1 : x.1.length ≤ 8) (h2 : x.2.length ≤ 8) : oPair bs p = some (x, p + (pairB x).length) := by
  unfold pairB at h
  rw [List.append_assoc] at h
  have h3 := drop_next h
  unfold oPair
  rw [oTxt_put h h1]
  simp only [Option.bind_some]
  rw [oTxt_put h3 h2]
  simp [pairB, Nat.add_assoc]
theorem oCl_put {bs X : List UInt8} {c : Int} {p : Nat} (h : bs.drop p = putB c.toNat ++ X) (h0 : 0 ≤ c) (h1 : c < 16) : oCl bs p = some (c, p + (putB c.toNat).length) := by
  unfold oCl
  rw [oNum_put h (by omega) (by omega)]
  simp
  omega
theorem oLock_put {bs X : List UInt8} {l : LockD} {p : Nat} {tok : Int} (h : bs.drop p = lockB l ++ X) (hl : LOk tok l) (ht : tok ≤ 99999999) : oLock bs p = some (l, p + (lockB l).length) := by
  have hq := queue_len hl.nd hl.q
  have hq15 : l.queue.length ≤ 15 := by
    have h1 : (l.holder :: l.queue).length ≤ 16 := queue_len (List.nodup_cons.2 ⟨hl.hq, hl.nd⟩) (fun c hc => by
      rcases List.mem_cons.1 hc with rfl | hc
      · exact ⟨hl.h0, hl.h1⟩
      · exact hl.q c hc)
    simpa using h1
  have t1 := hl.t1
  have t0 := hl.t0
  have g0 := hl.h0
  have g1 := hl.h1
  unfold lockB at h
  rw [List.append_assoc, List.append_assoc, List.append_assoc, List.append_assoc] at h
  have h1 := drop_next h
  have h2 := drop_next h1
  have h3 := drop_next h2
  have h4 := drop_next h3
  unfold oLock
  rw [oTxt_put h hl.n8]
  simp only [Option.bind_some]
  rw [oNum_put h1 (by omega) (by omega)]
  simp only [Option.bind_some]
  rw [oNum_put h2 (by omega) (by omega)]
  simp only [Option.bind_some]
  rw [oNum_put h3 (by omega) hq15]
  simp only [Option.bind_some]
  rw [oMany_put (enc := fun c : Int => putB c.toNat) l.queue _ _ (fun c hc p X h => oCl_put h (hl.q c hc).1 (hl.q c hc).2) h4]
  simp only [Option.bind_some]
  have e1 : ((l.holder.toNat : Nat) : Int) = l.holder := by omega
  have e2 : ((l.token.toNat : Nat) : Int) = l.token := by omega
  rw [e1, e2]
  simp [lockB, queueB, Nat.add_assoc]
theorem oSes_put {bs X : List UInt8} {x : Nat × SesD} {p : Nat} (h : bs.drop p = sesB x ++ X) (hx : x.1 < 16) (hs : SesOk x.2) : oSes bs p = some (x, p + (sesB x).length) := by
  obtain ⟨q, i, r, c, v, n⟩ := x
  have i0 := hs.i0; have i1 := hs.i1; have r0 := hs.r0; have r1 := hs.r1
  have c0 := hs.last.c0; have c1 := hs.last.c1; have n0 := hs.last.n0; have n1 := hs.last.n1; have hv := hs.last.v
  simp only at i0 i1 r0 r1 c0 c1 n0 n1 hv hx
  unfold sesB at h
  rw [List.append_assoc, List.append_assoc, List.append_assoc, List.append_assoc, List.append_assoc] at h
  have h1 := drop_next h
  have h2 := drop_next h1
  have h3 := drop_next h2
  have h4 := drop_next h3
  have h5 := drop_next h4
  unfold oSes
  rw [oNum_put h (by omega) (by omega)]
  simp only [Option.bind_some]
  rw [oNum_put h1 (by simp only; omega) (by simp only; omega)]
  simp only [Option.bind_some]
  rw [oNum_put h2 (by simp only; omega) (by simp only; omega)]
  simp only [Option.bind_some]
  rw [oNum_put h3 (by simp only; omega) (by simp only; omega)]
  simp only [Option.bind_some]
  rw [oTxt_put h4 hv]
  simp only [Option.bind_some]
  rw [oNum_put h5 (by simp only; omega) (by simp only; omega)]
  simp only [Option.bind_some]
  have e1 : ((i.toNat : Nat) : Int) = i := by omega
  have e2 : ((r.toNat : Nat) : Int) = r := by omega
  have e3 : ((c.toNat : Nat) : Int) = c := by omega
  have e4 : ((n.toNat : Nat) : Int) = n := by omega
  rw [e1, e2, e3, e4]
  simp [sesB, Nat.add_assoc]
end Go.Proofs.YtioinjcdkmiafaaDoor
namespace Go.Proofs.YtioinjcdkmiafaaDoor
set_option linter.unusedVariables false
set_option linter.unusedSimpArgs false

def rep1 (bs : Txt) : Nat × Nat × Bool := rCount bs 0 false mxC
def rep2 (bs : Txt) : Nat × Nat × Bool := rCount bs (rep1 bs).2.1 (rep1 bs).2.2 mxC
def rep3 (bs : Txt) : Nat × Nat × Bool := rCount bs (rep2 bs).2.1 (rep2 bs).2.2 mxC
def rep4 (bs : Txt) : Txt × Nat × Bool := rText bs (rep3 bs).2.1 (rep3 bs).2.2 mxC
open Classical in
noncomputable def shotB (b : Txt) : Bool := decide (∃ s, Restored b s)
noncomputable def bad4 (bs : Txt) : Bool := (rep4 bs).2.2 || !shotB (rep4 bs).1
noncomputable def rep5 (bs : Txt) : Nat × Nat × Bool := rCount bs (rep4 bs).2.1 (bad4 bs) mxC
noncomputable def bad5 (bs : Txt) : Bool := (rep5 bs).2.2 || decide (16 < (rep5 bs).1)
/-- The entries: the place behind them, is it amiss? -/
def repLoop (bs : Txt) : Nat → Nat → Nat × Bool
  | 0, p => (p, false)
  | n + 1, p => if (rText bs p false mxC).2.2 = true then ((rText bs p false mxC).2.1, true) else if decOk (rText bs p false mxC).1 = true then repLoop bs n (rText bs p false mxC).2.1 else ((rText bs p false mxC).2.1, true)
noncomputable def repOk (bs : Txt) : Bool := !bad5 bs && (!(repLoop bs (rep5 bs).1 (rep5 bs).2.1).2 && (decide (((rep3 bs).1 : Int) ≤ mxC - ((rep5 bs).1 : Int)) && decide ((repLoop bs (rep5 bs).1 (rep5 bs).2.1).1 = bs.length)))
structure RecD where
  kind : Int
  body : Txt
def oneOk (bs : Txt) : Bool := !(rCount bs 0 false mxC).2.2 && decide ((rCount bs 0 false mxC).2.1 = bs.length)
noncomputable def recS (best : Int) (r : RecD) : Int :=
  if r.kind = 1 then (if repOk r.body = true then max (max best ((rep1 r.body).1 : Int)) ((rep2 r.body).1 : Int) else best)
  else if r.kind = 4 then (if oneOk r.body = true then max best ((rCount r.body 0 false mxC).1 : Int) else best)
  else best
noncomputable def promD (l : List RecD) : Int := l.foldl recS 0
theorem promD_snoc (l : List RecD) (r : RecD) : promD (l ++ [r]) = recS (promD l) r := by
  unfold promD
  rw [List.foldl_append]
  rfl

/-! ### the document's reading -/
def doc1 (bs : Txt) : Nat × Nat × Int := nNum bs 0 0 0 mxC
def doc2 (bs : Txt) : Nat × Nat × Int := nNum bs (doc1 bs).2.1 (doc1 bs).2.2 0 mxC
def doc3 (bs : Txt) : Nat × Nat × Int := nNum bs (doc2 bs).2.1 (doc2 bs).2.2 0 mxC
def doc4 (bs : Txt) : Txt × Nat × Int := nByt bs (doc3 bs).2.1 (doc3 bs).2.2 (bs.length : Int)
def doc5 (bs : Txt) : Nat × Nat × Int := nNum bs (doc4 bs).2.1 (doc4 bs).2.2 0 16
/-- The entries: none: one is no command; else how many, the place, the error. -/
def docLoop (bs : Txt) : Nat → Nat → Int → Nat → Option (Nat × Nat × Int)
  | 0, p, e, k => some (k, p, e)
  | n + 1, p, e, k => if e ≠ 0 then some (k, p, e) else if decOk (nByt bs p e (bs.length : Int)).1 = true then docLoop bs n (nByt bs p e (bs.length : Int)).2.1 (nByt bs p e (bs.length : Int)).2.2 (k + 1) else none
noncomputable def docOk (bs : Txt) : Bool := match docLoop bs (doc5 bs).1 (doc5 bs).2.1 (doc5 bs).2.2 0 with
  | none => false
  | some (k, p, e) => decide (e = 0) && (decide (p = bs.length) && (shotB (doc4 bs).1 && decide (((doc3 bs).1 : Int) ≤ mxC - (k : Int))))
end Go.Proofs.YtioinjcdkmiafaaDoor
namespace Go.Proofs.YtioinjcdkmiafaaDoor
set_option linter.unusedVariables false
set_option linter.unusedSimpArgs false

/-- One number, read by both. -/
theorem num_both (bs : Txt) (p : Nat) (hi : Int) (hh : hi ≤ mxC) : ((nNum bs p 0 0 hi).2.2 = 0 ∧ rCount bs p false mxC = ((nNum bs p 0 0 hi).1, (nNum bs p 0 0 hi).2.1, false) ∧ ((nNum bs p 0 0 hi).1 : Int) ≤ hi) ∨ ((nNum bs p 0 0 hi).2.2 ≠ 0 ∧ (nNum bs p 0 0 hi).1 = 0 ∧ ((rCount bs p false mxC).2.2 = true ∨ hi < ((rCount bs p false mxC).1 : Int))) := by
  obtain ⟨q, hq⟩ : ∃ q, q = nNum bs p 0 0 hi := ⟨_, rfl⟩
  rw [← hq]
  obtain ⟨v, p', e⟩ := q
  by_cases he : e = 0
  · subst he
    obtain ⟨h1, -, h3⟩ := count_of_num hq.symm hh
    exact .inl ⟨rfl, h1, h3⟩
  · refine .inr ⟨he, ?_, ?_⟩
    · unfold nNum at hq
      rw [if_neg (by simp)] at hq
      split at hq
      · injection hq
      · split at hq
        · injection hq
        · injection hq with _ hq
          injection hq with _ hq
          exact absurd hq he
    · cases hb : (rCount bs p false mxC).2.2 with
      | true => exact .inl rfl
      | false =>
        refine .inr (Int.not_le.1 fun hle => he ?_)
        obtain ⟨h1, -⟩ := num_of_count (lo := 0) hb (by omega) hle
        rw [h1] at hq
        injection hq with _ hq
        injection hq
theorem count_mxC (bs : Txt) (p : Nat) : ((rCount bs p false mxC).1 : Int) ≤ mxC := by
  unfold rCount
  split
  · show ((0 : Nat) : Int) ≤ _; decide
  · rename_i h
    have : ¬ mxC < ((takeB (bs.drop p)).1 : Int) := fun h4 => h (.inr (.inr h4))
    show ((takeB (bs.drop p)).1 : Int) ≤ _
    omega
theorem num_bothM (bs : Txt) (p : Nat) : ((nNum bs p 0 0 mxC).2.2 = 0 ∧ rCount bs p false mxC = ((nNum bs p 0 0 mxC).1, (nNum bs p 0 0 mxC).2.1, false)) ∨ ((nNum bs p 0 0 mxC).2.2 ≠ 0 ∧ (rCount bs p false mxC).2.2 = true) := by
  rcases num_both bs p mxC (Int.le_refl _) with ⟨h1, h2, -⟩ | ⟨h1, -, h2⟩
  · exact .inl ⟨h1, h2⟩
  · refine .inr ⟨h1, ?_⟩
    rcases h2 with h2 | h2
    · exact h2
    · have := count_mxC bs p
      omega
theorem count_stick (bs : Txt) (p : Nat) (m : Int) : rCount bs p true m = (0, p, true) := by
  unfold rCount
  rw [if_pos (.inl rfl)]
theorem text_stick (bs : Txt) (p : Nat) (m : Int) : (rText bs p true m).2.2 = true := by
  unfold rText
  rw [count_stick, if_pos (.inl rfl)]
/-- One text, read by both. -/
theorem byt_both (bs : Txt) (p : Nat) (hl : (bs.length : Int) ≤ mxC) : ((nByt bs p 0 (bs.length : Int)).2.2 = 0 ∧ rText bs p false mxC = ((nByt bs p 0 (bs.length : Int)).1, (nByt bs p 0 (bs.length : Int)).2.1, false)) ∨ ((nByt bs p 0 (bs.length : Int)).2.2 ≠ 0 ∧ (rText bs p false mxC).2.2 = true) := by
  rcases num_both bs p (bs.length : Int) hl with ⟨h1, h2, h3⟩ | ⟨h1, h0, h2⟩
  · unfold nByt rText
    rw [if_neg (by simpa using h1), h2]
    by_cases h4 : bs.length < (nNum bs p 0 0 (bs.length : Int)).2.1 + (nNum bs p 0 0 (bs.length : Int)).1
    · right
      rw [if_pos h4, if_pos (.inr h4)]
      exact ⟨fun h5 => absurd (show (10 : Int) = 0 from h5) (by decide), rfl⟩
    · left
      rw [if_neg h4, if_neg (fun h5 => h5.elim (fun h6 => by cases (show false = true from h6)) (fun h6 => h4 h6))]
      exact ⟨rfl, rfl⟩
  · right
    unfold nByt
    rw [if_pos h1]
    refine ⟨h1, ?_⟩
    unfold rText
    rcases h2 with h2 | h2
    · rw [if_pos (.inl h2)]
    · rw [if_pos (.inr (by omega))]
theorem docLoop_bad (bs : Txt) (n p : Nat) (e : Int) (he : e ≠ 0) (k : Nat) : docLoop bs n p e k = some (k, p, e) := by
  cases n with
  | zero => rfl
  | succ n =>
    unfold docLoop
    rw [if_pos he]
theorem loop_same (bs : Txt) (hl : (bs.length : Int) ≤ mxC) : ∀ (n p k : Nat), (∃ q, docLoop bs n p 0 k = some (k + n, q, 0) ∧ repLoop bs n p = (q, false)) ∨ ((repLoop bs n p).2 = true ∧ (docLoop bs n p 0 k = none ∨ ∃ k' q e, docLoop bs n p 0 k = some (k', q, e) ∧ e ≠ 0))
  | 0, p, k => .inl ⟨p, rfl, rfl⟩
  | n + 1, p, k => by
    unfold docLoop repLoop
    rw [if_neg (by simp)]
    rcases byt_both bs p hl with ⟨h1, h2⟩ | ⟨h1, h2⟩
    · rw [h2]
      simp only [Bool.false_eq_true, if_false]
      rw [h1]
      by_cases hd : decOk (nByt bs p 0 (bs.length : Int)).1 = true
      · rw [if_pos hd, if_pos hd]
        have := loop_same bs hl n (nByt bs p 0 (bs.length : Int)).2.1 (k + 1)
        rw [show k + 1 + n = k + (n + 1) by omega] at this
        exact this
      · rw [if_neg hd, if_neg hd]
        exact .inr ⟨rfl, .inl rfl⟩
    · rw [if_pos h2]
      refine .inr ⟨rfl, ?_⟩
      by_cases hd : decOk (nByt bs p 0 (bs.length : Int)).1 = true
      · rw [if_pos hd, docLoop_bad _ _ _ _ h1]
        exact .inr ⟨_, _, _, rfl, h1⟩
      · rw [if_neg hd]
        exact .inl rfl
/-- A reading that is amiss in the numbers and texts ahead of the entries. -/
theorem doc_bad (bs : Txt) (h : (doc4 bs).2.2 ≠ 0) : docOk bs = false := by
  have h5 : doc5 bs = (0, (doc4 bs).2.1, (doc4 bs).2.2) := by
    unfold doc5
    exact nNum_stick h
  unfold docOk
  rw [h5]
  simp only [docLoop]
  rw [decide_eq_false h, Bool.false_and]
theorem byt_stick (bs : Txt) (p : Nat) (e hi : Int) (h : e ≠ 0) : (nByt bs p e hi).2.2 ≠ 0 := by
  unfold nByt
  rw [nNum_stick h, if_pos h]
  exact h
theorem rep_bad (bs : Txt) (h : bad5 bs = true) : repOk bs = false := by
  unfold repOk
  rw [h]
  rfl
theorem bad4_bad (bs : Txt) (h : bad4 bs = true) : bad5 bs = true := by
  unfold bad5 rep5
  rw [h, count_stick]
  rfl
theorem rep4_bad (bs : Txt) (h : (rep4 bs).2.2 = true) : bad4 bs = true := by
  unfold bad4
  rw [h]
  rfl
/-- The document's reading is the program's. -/
theorem doc_same (bs : Txt) (hl : (bs.length : Int) ≤ mxC) : docOk bs = repOk bs ∧ (repOk bs = true → (doc1 bs).1 = (rep1 bs).1 ∧ (doc2 bs).1 = (rep2 bs).1) := by
  have bad : docOk bs = false → repOk bs = false → docOk bs = repOk bs ∧ (repOk bs = true → (doc1 bs).1 = (rep1 bs).1 ∧ (doc2 bs).1 = (rep2 bs).1) := fun h1 h2 => ⟨h1.trans h2.symm, fun h => by rw [h2] at h; cases h⟩
  rcases num_bothM bs 0 with ⟨a1, b1⟩ | ⟨a1, b1⟩
  rotate_left
  · -- the promise is amiss
    have e2 : (doc2 bs).2.2 ≠ 0 := by unfold doc2; rw [nNum_stick (show (doc1 bs).2.2 ≠ 0 from a1)]; exact a1
    have e3 : (doc3 bs).2.2 ≠ 0 := by unfold doc3; rw [nNum_stick e2]; exact e2
    have e4 : (doc4 bs).2.2 ≠ 0 := by unfold doc4; exact byt_stick _ _ _ _ e3
    have r1 : (rep1 bs).2.2 = true := b1
    have r2 : (rep2 bs).2.2 = true := by unfold rep2; rw [r1, count_stick]
    have r3 : (rep3 bs).2.2 = true := by unfold rep3; rw [r2, count_stick]
    have r4 : (rep4 bs).2.2 = true := by unfold rep4; rw [r3, text_stick]
    exact bad (doc_bad bs e4) (rep_bad bs (bad4_bad bs (rep4_bad bs r4)))
  have r1 : rep1 bs = ((doc1 bs).1, (doc1 bs).2.1, false) := b1
  have d1 : (doc1 bs).2.2 = 0 := a1
  rcases num_bothM bs (doc1 bs).2.1 with ⟨a2, b2⟩ | ⟨a2, b2⟩
  rotate_left
  · have e2 : (doc2 bs).2.2 ≠ 0 := by unfold doc2; rw [d1]; exact a2
    have e3 : (doc3 bs).2.2 ≠ 0 := by unfold doc3; rw [nNum_stick e2]; exact e2
    have e4 : (doc4 bs).2.2 ≠ 0 := by unfold doc4; exact byt_stick _ _ _ _ e3
    have r2 : (rep2 bs).2.2 = true := by unfold rep2; rw [r1]; exact b2
    have r3 : (rep3 bs).2.2 = true := by unfold rep3; rw [r2, count_stick]
    have r4 : (rep4 bs).2.2 = true := by unfold rep4; rw [r3, text_stick]
    exact bad (doc_bad bs e4) (rep_bad bs (bad4_bad bs (rep4_bad bs r4)))
  have d2 : doc2 bs = nNum bs (doc1 bs).2.1 0 0 mxC := by unfold doc2; rw [d1]
  have r2 : rep2 bs = ((doc2 bs).1, (doc2 bs).2.1, false) := by unfold rep2; rw [r1, d2]; exact b2
  have d2' : (doc2 bs).2.2 = 0 := by rw [d2]; exact a2
  rcases num_bothM bs (doc2 bs).2.1 with ⟨a3, b3⟩ | ⟨a3, b3⟩
  rotate_left
  · have e3 : (doc3 bs).2.2 ≠ 0 := by unfold doc3; rw [d2']; exact a3
    have e4 : (doc4 bs).2.2 ≠ 0 := by unfold doc4; exact byt_stick _ _ _ _ e3
    have r3 : (rep3 bs).2.2 = true := by unfold rep3; rw [r2]; exact b3
    have r4 : (rep4 bs).2.2 = true := by unfold rep4; rw [r3, text_stick]
    exact bad (doc_bad bs e4) (rep_bad bs (bad4_bad bs (rep4_bad bs r4)))
  have d3 : doc3 bs = nNum bs (doc2 bs).2.1 0 0 mxC := by unfold doc3; rw [d2']
  have r3 : rep3 bs = ((doc3 bs).1, (doc3 bs).2.1, false) := by unfold rep3; rw [r2, d3]; exact b3
  have d3' : (doc3 bs).2.2 = 0 := by rw [d3]; exact a3
  rcases byt_both bs (doc3 bs).2.1 hl with ⟨a4, b4⟩ | ⟨a4, b4⟩
  rotate_left
  · have e4 : (doc4 bs).2.2 ≠ 0 := by unfold doc4; rw [d3']; exact a4
    have r4 : (rep4 bs).2.2 = true := by unfold rep4; rw [r3]; exact b4
    exact bad (doc_bad bs e4) (rep_bad bs (bad4_bad bs (rep4_bad bs r4)))
  have d4 : doc4 bs = nByt bs (doc3 bs).2.1 0 (bs.length : Int) := by unfold doc4; rw [d3']
  have r4 : rep4 bs = ((doc4 bs).1, (doc4 bs).2.1, false) := by unfold rep4; rw [r3, d4]; exact b4
  have d4' : (doc4 bs).2.2 = 0 := by rw [d4]; exact a4
  have d5 : doc5 bs = nNum bs (doc4 bs).2.1 0 0 16 := by unfold doc5; rw [d4']
  by_cases hr : shotB (doc4 bs).1 = true
  rotate_left
  · rw [Bool.not_eq_true] at hr
    refine bad ?_ (rep_bad bs (bad4_bad bs ?_))
    · unfold docOk
      rw [hr]
      split
      · rfl
      · simp
    · unfold bad4
      rw [r4, hr]
      rfl
  have hb4 : bad4 bs = false := by
    unfold bad4
    rw [r4, hr]
    rfl
  have hr5 : rep5 bs = rCount bs (doc4 bs).2.1 false mxC := by unfold rep5; rw [hb4, r4]
  rcases num_both bs (doc4 bs).2.1 16 (by decide) with ⟨a5, b5, c5⟩ | ⟨a5, c5, b5⟩
  rotate_left
  · refine bad ?_ (rep_bad bs ?_)
    · unfold docOk
      rw [d5, c5, docLoop_bad _ _ _ _ a5]
      simp only
      rw [decide_eq_false a5, Bool.false_and]
    · unfold bad5
      rw [hr5]
      rcases b5 with b5 | b5
      · rw [b5]; rfl
      · rw [decide_eq_true (by omega), Bool.or_true]
  have r5 : rep5 bs = ((doc5 bs).1, (doc5 bs).2.1, false) := by rw [hr5, d5]; exact b5
  have d5' : (doc5 bs).2.2 = 0 := by rw [d5]; exact a5
  have hb5 : bad5 bs = false := by
    unfold bad5
    rw [r5]
    have : ((doc5 bs).1 : Int) ≤ 16 := by rw [d5]; exact c5
    show (false || decide (16 < (doc5 bs).1)) = false
    rw [decide_eq_false (by omega)]
    rfl
  refine ⟨?_, fun _ => ⟨by rw [r1], by rw [r2]⟩⟩
  unfold docOk repOk
  rw [hb5, r5, d5', r3]
  rcases loop_same bs hl (doc5 bs).1 (doc5 bs).2.1 0 with ⟨q, h1, h2⟩ | ⟨h1, h2⟩
  · rw [h1, h2, Nat.zero_add, hr]
    simp only [decide_true, Bool.not_false, Bool.true_and]
    rw [Bool.and_comm]
  · simp only [h1, Bool.not_true, Bool.false_and, Bool.and_false]
    rcases h2 with h2 | ⟨k', q, e, h2, he⟩
    · rw [h2]
    · rw [h2]
      simp only
      rw [decide_eq_false he, Bool.false_and]
/-- A body that is one number. -/
theorem one_same (bs : Txt) : (decide ((doc1 bs).2.2 = 0) && decide ((doc1 bs).2.1 = bs.length)) = oneOk bs ∧ (oneOk bs = true → (doc1 bs).1 = (rCount bs 0 false mxC).1) := by
  unfold oneOk
  rcases num_bothM bs 0 with ⟨a1, b1⟩ | ⟨a1, b1⟩
  · rw [b1]
    unfold doc1
    rw [a1]
    exact ⟨rfl, fun _ => rfl⟩
  · rw [b1]
    unfold doc1
    rw [decide_eq_false a1]
    exact ⟨rfl, fun h => by cases h⟩
end Go.Proofs.YtioinjcdkmiafaaDoor
