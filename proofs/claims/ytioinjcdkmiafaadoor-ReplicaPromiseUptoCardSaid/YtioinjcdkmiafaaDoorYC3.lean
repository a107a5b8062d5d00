/-
  MERGED: RestP Ops2
-/
import Derived.Test.YtioinjcdkmiafaaDoorYC0
import Derived.Test.YtioinjcdkmiafaaDoorYB6
namespace Go.Proofs.YtioinjcdkmiafaaDoor
set_option linter.unusedVariables false
set_option linter.unusedSimpArgs false
open Go.RowKit

/-! ### one of each kind -/
theorem oNum_le {bs : Txt} {p hi v q : Nat} (h : oNum bs p hi = some (v, q)) : v ≤ hi := by
  obtain ⟨_, _, _, h⟩ := oNum_inv h
  exact h
theorem oNum_to {bs : Txt} {p hi lo v q : Nat} (h : oNum bs p hi = some (v, q)) (hv : v ≤ lo) : oNum bs p lo = some (v, q) := by
  unfold oNum at h ⊢
  split at h
  · rename_i hc
    injection h with h
    injection h with h1 h2
    rw [if_pos ⟨hc.1, by omega⟩, h1, h2]
  · cases h
theorem rdPair_ok {bs : Txt} (p : Nat) (bad : Bool) (h : (rdPair bs p bad).2.2 = false) : bad = false ∧ oPair bs p = some ((rdPair bs p bad).1, (rdPair bs p bad).2.1) := by
  unfold rdPair at h ⊢
  simp only at h ⊢
  obtain ⟨h1, h2⟩ := o_of_text h
  obtain ⟨h3, h4⟩ := o_of_text h1
  refine ⟨h3, ?_⟩
  unfold oPair
  rw [h4]
  simp only [Option.bind_some]
  rw [h2]
  rfl
theorem rdPair_of {bs : Txt} (p : Nat) (x : Txt × Txt) (p' : Nat) (h : oPair bs p = some (x, p')) : rdPair bs p false = (x, p', false) := by
  unfold oPair at h
  obtain ⟨⟨k, q⟩, h1, h⟩ := some_bind h
  obtain ⟨⟨v, q2⟩, h2, h⟩ := some_bind h
  injection h with h
  injection h with e1 e2
  simp only at h2 e1 e2
  have h3 := text_of_o h1
  have h4 := text_of_o h2
  unfold rdPair
  rw [h3]
  simp only
  rw [h4, ← e1, ← e2]
theorem rdCl_ok {bs : Txt} (p : Nat) (bad : Bool) (h : (rdCl bs p bad).2.2 = false) : bad = false ∧ oCl bs p = some ((rdCl bs p bad).1, (rdCl bs p bad).2.1) := by
  have h0 : (rCount bs p bad 15).2.2 = false := h
  have h1 := o_of_count (hi := 15) h0
  have h2 : oNum bs p 15 = some ((rCount bs p bad 15).1, (rCount bs p bad 15).2.1) := h1.2
  refine ⟨h1.1, ?_⟩
  unfold oCl
  rw [h2]
  rfl
theorem rdCl_of {bs : Txt} (p : Nat) (x : Int) (p' : Nat) (h : oCl bs p = some (x, p')) : rdCl bs p false = (x, p', false) := by
  unfold oCl at h
  obtain ⟨⟨c, q⟩, h1, h⟩ := some_bind h
  injection h with h
  injection h with e1 e2
  have h2 : rCount bs p false 15 = (c, q, false) := count_of_o h1
  unfold rdCl
  rw [h2, ← e1, ← e2]
theorem qchk_iff : ∀ (l seen : List Int), chkAll qchk qnxt seen l ↔ l.Nodup ∧ ∀ c ∈ l, c ∉ seen
  | [], seen => by simp [chkAll]
  | c :: r, seen => by
    rw [chkAll, qchk_iff r (qnxt seen c)]
    unfold qchk qnxt
    constructor
    · rintro ⟨h1, h2, h3⟩
      have h1 : c ∉ seen := by simpa using h1
      refine ⟨List.nodup_cons.2 ⟨fun h => h3 c h (by simp), h2⟩, fun d hd => ?_⟩
      rcases List.mem_cons.1 hd with rfl | hd
      · exact h1
      · exact fun h => h3 d hd (by simp [h])
    · rintro ⟨h1, h3⟩
      obtain ⟨h1, h2⟩ := List.nodup_cons.1 h1
      refine ⟨by simpa using h3 c (by simp), h2, fun d hd h => ?_⟩
      rcases List.mem_cons.1 h with rfl | h
      · exact h1 hd
      · exact h3 d (by simp [hd]) h
/-- A lock, with what is looked at while it is read. -/
def lckOk (tok : Nat) (x : LockD) : Prop := x.token ≤ (tok : Int) ∧ x.queue.Nodup ∧ x.holder ∉ x.queue
instance (tok : Nat) (x : LockD) : Decidable (lckOk tok x) := by unfold lckOk; infer_instance
def oLockT (bs : Txt) (tok : Nat) (p : Nat) : Option (LockD × Nat) := (oLock bs p).bind fun x => if lckOk tok x.1 then some x else none
theorem rdLock_ok {bs : Txt} {tok : Nat} (ht : tok ≤ 99999999) (p : Nat) (bad : Bool) (h : (rdLock bs (tok : Int) p bad).2.2 = false) : bad = false ∧ oLockT bs tok p = some ((rdLock bs (tok : Int) p bad).1, (rdLock bs (tok : Int) p bad).2.1) := by
  unfold rdLock at h ⊢
  simp only at h ⊢
  generalize ha : rText bs p bad 8 = a at h ⊢
  generalize hb : rCount bs a.2.1 a.2.2 15 = b at h ⊢
  generalize hc : rCount bs b.2.1 b.2.2 (tok : Int) = c at h ⊢
  unfold rQueue at h ⊢
  generalize hd : rCount bs c.2.1 c.2.2 15 = d at h ⊢
  obtain ⟨x1, x2, x3⟩ := runF_ok (one := oCl bs) rdCl_ok _ _ _ _ h
  have y0 : (rCount bs c.2.1 c.2.2 15).2.2 = false := by rw [hd]; exact x1
  obtain ⟨y1, y2⟩ := o_of_count (hi := 15) y0
  have y2 : oNum bs c.2.1 15 = some (d.1, d.2.1) := by rw [← hd]; exact y2
  have z0 : (rCount bs b.2.1 b.2.2 (tok : Int)).2.2 = false := by rw [hc]; exact y1
  obtain ⟨z1, z2⟩ := o_of_count (hi := tok) z0
  have z2 : oNum bs b.2.1 tok = some (c.1, c.2.1) := by rw [← hc]; exact z2
  have u0 : (rCount bs a.2.1 a.2.2 15).2.2 = false := by rw [hb]; exact z1
  obtain ⟨u1, u2⟩ := o_of_count (hi := 15) u0
  have u2 : oNum bs a.2.1 15 = some (b.1, b.2.1) := by rw [← hb]; exact u2
  have v0 : (rText bs p bad 8).2.2 = false := by rw [ha]; exact u1
  obtain ⟨v1, v2⟩ := o_of_text v0
  have v2 : oTxt bs p = some (a.1, a.2.1) := by rw [← ha]; exact v2
  refine ⟨v1, ?_⟩
  have z3 := oNum_to z2 (lo := 99999999) (by have := oNum_le z2; omega)
  obtain ⟨q1, q2⟩ := (qchk_iff _ _).1 x3
  unfold oLockT oLock
  rw [v2]
  simp only [Option.bind_some]
  rw [u2]
  simp only [Option.bind_some]
  rw [z3]
  simp only [Option.bind_some]
  rw [y2]
  simp only [Option.bind_some]
  rw [x2]
  simp only [Option.bind_some]
  rw [if_pos]
  refine ⟨?_, q1, fun hm => ?_⟩
  · have := oNum_le z2
    show (c.1 : Int) ≤ (tok : Int)
    omega
  · exact q2 _ hm (by simp)
theorem rdLock_of {bs : Txt} {tok : Nat} (p : Nat) (x : LockD) (p' : Nat) (h : oLockT bs tok p = some (x, p')) : rdLock bs (tok : Int) p false = (x, p', false) := by
  unfold oLockT at h
  obtain ⟨⟨y, q⟩, h1, h⟩ := some_bind h
  simp only at h
  split at h
  · rename_i hk
    injection h with h
    injection h with e1 e2
    subst e1 e2
    unfold oLock at h1
    obtain ⟨⟨k, q1⟩, g1, h⟩ := some_bind h1
    clear h1
    obtain ⟨⟨hd, q2⟩, h2, h⟩ := some_bind h
    obtain ⟨⟨t, q3⟩, h3, h⟩ := some_bind h
    obtain ⟨⟨w, q4⟩, h4, h⟩ := some_bind h
    obtain ⟨⟨qs, q5⟩, h5, h⟩ := some_bind h
    injection h with h
    injection h with e1 e2
    simp only at h2 h3 h4 h5 e1 e2
    subst e1 e2
    have a1 := text_of_o g1
    have a2 : rCount bs q1 false 15 = (hd, q2, false) := count_of_o h2
    have htl : t ≤ tok := by
      have : ((t : Nat) : Int) ≤ (tok : Int) := hk.1
      omega
    have a3 : rCount bs q2 false (tok : Int) = (t, q3, false) := count_of_o (oNum_to h3 htl)
    have a4 : rCount bs q3 false 15 = (w, q4, false) := count_of_o h4
    have a5 := runF_of (chk := qchk) (nxt := qnxt) (rdCl_of (bs := bs)) w q4 q5 [(hd : Int)] qs h5 ((qchk_iff _ _).2 ⟨hk.2.1, fun c hc hm => by
      have e : c = (hd : Int) := by simpa using hm
      subst e
      exact hk.2.2 hc⟩)
    unfold rdLock rQueue
    rw [a1]
    simp only
    rw [a2]
    simp only
    rw [a3]
    simp only
    rw [a4]
    simp only
    rw [a5]
  · cases h
theorem oMany_guard {α : Type} {one : Nat → Option (α × Nat)} {P : α → Prop} [DecidablePred P] : ∀ (n p : Nat) (l : List α) (p' : Nat), oMany (fun q => (one q).bind fun x => if P x.1 then some x else none) n p = some (l, p') ↔ oMany one n p = some (l, p') ∧ ∀ x ∈ l, P x
  | 0, p, l, p' => by
    simp only [oMany, Option.some.injEq, Prod.mk.injEq]
    constructor
    · rintro ⟨rfl, rfl⟩; simp
    · exact fun h => h.1
  | n + 1, p, l, p' => by
    rw [oMany, oMany]
    constructor
    · intro h
      obtain ⟨⟨x, q⟩, g1, g⟩ := some_bind h
      clear h
      obtain ⟨⟨y, q1⟩, h2, g1⟩ := some_bind g1
      obtain ⟨⟨r, q2⟩, h3, g⟩ := some_bind g
      simp only at g1 h3 g
      split at g1
      · rename_i hP
        injection g1 with g1
        injection g1 with e1 e2
        injection g with g
        injection g with e3 e4
        subst e1 e2 e3 e4
        obtain ⟨g1, g2⟩ := (oMany_guard n q1 r q2).1 h3
        rw [h2]
        simp only [Option.bind_some]
        rw [g1]
        refine ⟨rfl, fun z hz => ?_⟩
        rcases List.mem_cons.1 hz with rfl | hz
        · exact hP
        · exact g2 z hz
      · cases g1
    · rintro ⟨h0, hP⟩
      obtain ⟨⟨x, q⟩, h1, h⟩ := some_bind h0
      clear h0
      obtain ⟨⟨r, q2⟩, h3, h⟩ := some_bind h
      injection h with h
      injection h with e1 e2
      subst e1 e2
      rw [h1]
      simp only [Option.bind_some]
      rw [if_pos (hP x (by simp))]
      simp only [Option.bind_some]
      rw [(oMany_guard n q r q2).2 ⟨h3, fun z hz => hP z (by simp [hz])⟩]
      rfl
theorem rdSes_ok {bs : Txt} (p : Nat) (bad : Bool) (h : (rdSes bs p bad).2.2 = false) : bad = false ∧ oSes bs p = some ((rdSes bs p bad).1, (rdSes bs p bad).2.1) := by
  unfold rdSes at h ⊢
  simp only at h ⊢
  generalize ha : rCount bs p bad 15 = a at h ⊢
  generalize hb : rCount bs a.2.1 a.2.2 4611686018427387904 = b at h ⊢
  generalize hc : rCount bs b.2.1 b.2.2 4611686018427387904 = c at h ⊢
  generalize hd : rCount bs c.2.1 c.2.2 11 = d at h ⊢
  generalize he : rText bs d.2.1 d.2.2 8 = e at h ⊢
  generalize hf : rCount bs e.2.1 e.2.2 99999999 = f at h ⊢
  have f0 : (rCount bs e.2.1 e.2.2 99999999).2.2 = false := by rw [hf]; exact h
  obtain ⟨f1, f2⟩ := o_of_count (hi := 99999999) f0
  have f2 : oNum bs e.2.1 99999999 = some (f.1, f.2.1) := by rw [← hf]; exact f2
  have e0 : (rText bs d.2.1 d.2.2 8).2.2 = false := by rw [he]; exact f1
  obtain ⟨e1, e2⟩ := o_of_text e0
  have e2 : oTxt bs d.2.1 = some (e.1, e.2.1) := by rw [← he]; exact e2
  have d0 : (rCount bs c.2.1 c.2.2 11).2.2 = false := by rw [hd]; exact e1
  obtain ⟨d1, d2⟩ := o_of_count (hi := 11) d0
  have d2 : oNum bs c.2.1 11 = some (d.1, d.2.1) := by rw [← hd]; exact d2
  have c0 : (rCount bs b.2.1 b.2.2 4611686018427387904).2.2 = false := by rw [hc]; exact d1
  obtain ⟨c1, c2⟩ := o_of_count (hi := 4611686018427387904) c0
  have c2 : oNum bs b.2.1 4611686018427387904 = some (c.1, c.2.1) := by rw [← hc]; exact c2
  have b0 : (rCount bs a.2.1 a.2.2 4611686018427387904).2.2 = false := by rw [hb]; exact c1
  obtain ⟨b1, b2⟩ := o_of_count (hi := 4611686018427387904) b0
  have b2 : oNum bs a.2.1 4611686018427387904 = some (b.1, b.2.1) := by rw [← hb]; exact b2
  have a0 : (rCount bs p bad 15).2.2 = false := by rw [ha]; exact b1
  obtain ⟨a1, a2⟩ := o_of_count (hi := 15) a0
  have a2 : oNum bs p 15 = some (a.1, a.2.1) := by rw [← ha]; exact a2
  refine ⟨a1, ?_⟩
  unfold oSes
  rw [a2]
  simp only [Option.bind_some]
  rw [b2]
  simp only [Option.bind_some]
  rw [c2]
  simp only [Option.bind_some]
  rw [d2]
  simp only [Option.bind_some]
  rw [e2]
  simp only [Option.bind_some]
  rw [f2]
  rfl
theorem rdSes_of {bs : Txt} (p : Nat) (x : Nat × SesD) (p' : Nat) (h : oSes bs p = some (x, p')) : rdSes bs p false = (x, p', false) := by
  unfold oSes at h
  obtain ⟨⟨q, q1⟩, h1, h⟩ := some_bind h
  obtain ⟨⟨i, q2⟩, h2, h⟩ := some_bind h
  obtain ⟨⟨r, q3⟩, h3, h⟩ := some_bind h
  obtain ⟨⟨c, q4⟩, h4, h⟩ := some_bind h
  obtain ⟨⟨v, q5⟩, h5, h⟩ := some_bind h
  obtain ⟨⟨n, q6⟩, h6, h⟩ := some_bind h
  injection h with h
  injection h with e1 e2
  simp only at h2 h3 h4 h5 h6 e1 e2
  have a1 : rCount bs p false 15 = (q, q1, false) := count_of_o h1
  have a2 : rCount bs q1 false 4611686018427387904 = (i, q2, false) := count_of_o h2
  have a3 : rCount bs q2 false 4611686018427387904 = (r, q3, false) := count_of_o h3
  have a4 : rCount bs q3 false 11 = (c, q4, false) := count_of_o h4
  have a5 := text_of_o h5
  have a6 : rCount bs q5 false 99999999 = (n, q6, false) := count_of_o h6
  unfold rdSes
  rw [a1]
  simp only
  rw [a2]
  simp only
  rw [a3]
  simp only
  rw [a4]
  simp only
  rw [a5]
  simp only
  rw [a6, ← e1, ← e2]

/-! ### what is looked at from one to the next -/
theorem rise_two {a b : Txt} {l : List Txt} : Rise (a :: b :: l) ↔ bytesBefore a b = true ∧ Rise (b :: l) := by
  unfold Rise
  rw [List.pairwise_cons]
  constructor
  · exact fun h => ⟨h.1 b (by simp), h.2⟩
  · rintro ⟨h1, h2⟩
    refine ⟨fun c hc => ?_, h2⟩
    rcases List.mem_cons.1 hc with rfl | hc
    · exact h1
    · exact before_trans h1 ((List.pairwise_cons.1 h2).1 c hc)
theorem before_nil {a : Txt} : bytesBefore [] a = true ↔ a ≠ [] := by
  cases a with
  | nil => simp [bytesBefore]
  | cons x r => simp [bytesBefore]
theorem rise_nil {l : List Txt} : Rise ([] :: l) ↔ (∀ a ∈ l, a ≠ []) ∧ Rise l := by
  unfold Rise
  rw [List.pairwise_cons]
  constructor
  · exact fun h => ⟨fun a ha => before_nil.1 (h.1 a ha), h.2⟩
  · exact fun h => ⟨fun a ha => before_nil.2 (h.1 a ha), h.2⟩
theorem pchk_iff : ∀ (l : List (Txt × Txt)) (last : Txt), chkAll pchk pnxt last l ↔ Rise (last :: l.map Prod.fst)
  | [], last => by simp [chkAll, Rise]
  | x :: r, last => by
    rw [chkAll, pchk_iff r, List.map_cons, rise_two]
    rfl
theorem lchk_iff : ∀ (l : List LockD) (last : Txt) (seen : List Int), chkAll lchk lnxt (last, seen) l ↔ Rise (last :: l.map LockD.name) ∧ (∀ x ∈ l, x.token ≠ 0 ∧ x.token ∉ seen) ∧ l.Pairwise fun a b => a.token ≠ b.token
  | [], last, seen => by simp [chkAll, Rise]
  | x :: r, last, seen => by
    rw [chkAll, show lnxt (last, seen) x = (x.name, x.token :: seen) from rfl, lchk_iff r, List.map_cons, rise_two, List.pairwise_cons]
    have e : lchk (last, seen) x = true ↔ bytesBefore last x.name = true ∧ x.token ≠ 0 ∧ x.token ∉ seen := by
      unfold lchk
      simp [Bool.and_eq_true, and_assoc]
    rw [e]
    constructor
    · rintro ⟨⟨h1, h2, h3⟩, h4, h5, h6⟩
      refine ⟨⟨h1, h4⟩, fun y hy => ?_, fun y hy he => ?_, h6⟩
      · rcases List.mem_cons.1 hy with rfl | hy
        · exact ⟨h2, h3⟩
        · exact ⟨(h5 y hy).1, fun h => (h5 y hy).2 (by simp [h])⟩
      · exact (h5 y hy).2 (by simp [he])
    · rintro ⟨⟨h1, h4⟩, h5, h6, h7⟩
      refine ⟨⟨h1, h5 x (by simp)⟩, h4, fun y hy => ⟨(h5 y (by simp [hy])).1, fun h => ?_⟩, h7⟩
      rcases List.mem_cons.1 h with h | h
      · exact h6 y hy h.symm
      · exact (h5 y (by simp [hy])).2 h
theorem schk_iff : ∀ (l : List (Nat × SesD)) (last : Int), chkAll schk snxt last l ↔ (∀ x ∈ l, last < (x.1 : Int)) ∧ (l.Pairwise fun a b => a.1 < b.1) ∧ ∀ x ∈ l, x.2.inc ≠ 0 ∧ x.2.req ≠ 0 ∧ x.2.last.code ≠ 0 ∧ x.2.last.code ≠ 10
  | [], last => by simp [chkAll]
  | x :: r, last => by
    rw [chkAll, show snxt last x = (x.1 : Int) from rfl, schk_iff r, List.pairwise_cons]
    have e : schk last x = true ↔ last < (x.1 : Int) ∧ x.2.inc ≠ 0 ∧ x.2.req ≠ 0 ∧ x.2.last.code ≠ 0 ∧ x.2.last.code ≠ 10 := by
      unfold schk
      simp [Bool.and_eq_true, and_assoc]
    rw [e]
    constructor
    · rintro ⟨⟨h1, h2⟩, h4, h5, h6⟩
      refine ⟨fun y hy => ?_, ⟨fun y hy => by have := h4 y hy; omega, h5⟩, fun y hy => ?_⟩
      · rcases List.mem_cons.1 hy with rfl | hy
        · exact h1
        · have := h4 y hy; omega
      · rcases List.mem_cons.1 hy with rfl | hy
        · exact h2
        · exact h6 y hy
    · rintro ⟨h1, ⟨h2, h3⟩, h4⟩
      exact ⟨⟨h1 x (by simp), h4 x (by simp)⟩, fun y hy => by have := h2 y hy; omega, h3, fun y hy => h4 y (by simp [hy])⟩

/-! ### all of it -/
/-- What Restore reads: the count of tokens, the pairs, the locks, the sessions. -/
abbrev rsT (bs : Txt) : Nat × Nat × Bool := rCount bs 3 false 99999999
abbrev rsP (bs : Txt) : List (Txt × Txt) × Nat × Bool := rPairs bs (rsT bs).2.1 (rsT bs).2.2
abbrev rsL (bs : Txt) : List LockD × Nat × Bool := rLocks bs ((rsT bs).1 : Int) (rsP bs).2.1 (rsP bs).2.2
abbrev rsS (bs : Txt) : List (Nat × SesD) × Nat × Bool := rSess1 bs (rsL bs).2.1 (rsL bs).2.2
def rsSs (bs : Txt) : List SesD := ssPut (rsS bs).1 (List.replicate 16 noSes)
def rsGood (bs : Txt) : Prop := (rsS bs).2.2 = false ∧ sesMiss (rsL bs).1 (rsSs bs) = false ∧ (rsS bs).2.1 = bs.length
def rsRaw (bs : Txt) : RawD := ⟨(rsT bs).1, (rsP bs).1, (rsL bs).1, (rsS bs).1⟩
theorem chk_sess {r : RawD} (hr : RRead r) (hs : r.sess.Pairwise fun a b => a.1 < b.1) (h0 : ∀ x ∈ r.sess, x.2.inc ≠ 0) : sesMiss r.locks (ssPut r.sess (List.replicate 16 noSes)) = false ↔ ∀ c, who r.locks c → 0 < (sesAt r.sess c.toNat).inc := by
  have hget : ∀ c, who r.locks c → (ssPut r.sess (List.replicate 16 noSes)).getD c.toNat noSes = sesAt r.sess c.toNat := fun c hc => by
    have hc16 : c.toNat < 16 := by
      obtain ⟨l, hl, hh⟩ := hc
      have hk := hr.l l hl
      rcases hh with rfl | hh
      · have := hk.h0; have := hk.h1; omega
      · have := hk.q c hh; omega
    rw [ssPut_all hs]
    simp [List.getD, hc16]
  have hpos : ∀ q, 0 ≤ (sesAt r.sess q).inc := fun q => by
    by_cases hq : ∃ y ∈ r.sess, y.1 = q
    · obtain ⟨y, hy, rfl⟩ := hq
      rw [sesAt_of hs hy]
      exact (hr.s y hy).i0
    · rw [sesAt_none fun y hy e => hq ⟨y, hy, e⟩]
      decide
  unfold sesMiss
  rw [List.any_eq_false]
  constructor
  · intro h c hc
    have hg := hget c hc
    obtain ⟨l, hl, hh⟩ := hc
    have h1 := h l hl
    rw [Bool.not_eq_true, List.any_eq_false] at h1
    have h2 := h1 c (by rcases hh with rfl | hh <;> simp [*])
    rw [hg] at h2
    have h3 := hpos c.toNat
    have h4 : ¬ (sesAt r.sess c.toNat).inc = 0 := by simpa using h2
    omega
  · intro h l hl
    rw [Bool.not_eq_true, List.any_eq_false]
    intro c hc
    have hw : who r.locks c := ⟨l, hl, by simpa using hc⟩
    have h1 := h c hw
    rw [hget c hw]
    simp
    omega
theorem good_raw {bs : Txt} (h : rsGood bs) : oRaw bs 3 = some (rsRaw bs, bs.length) ∧ RawOk (rsRaw bs) ∧ toSt (rsRaw bs) = ⟨(rsP bs).1, (rsL bs).1, ((rsT bs).1 : Int), rsSs bs⟩ := by
  obtain ⟨h1, h2, h3⟩ := h
  obtain ⟨s1, s2, s3⟩ := runF_ok (one := oSes bs) rdSes_ok _ _ _ _ h1
  obtain ⟨t1, t2⟩ := o_of_count (hi := 16) s1
  have htok : (rsT bs).1 ≤ 99999999 := by
    have := rCount_most bs 3 false (most := 99999999) (by omega)
    show (rCount bs 3 false 99999999).1 ≤ 99999999
    omega
  obtain ⟨l1, l2, l3⟩ := runF_ok (one := oLockT bs (rsT bs).1) (rdLock_ok htok) _ _ _ _ t1
  obtain ⟨u1, u2⟩ := o_of_count (hi := 8) l1
  obtain ⟨p1, p2, p3⟩ := runF_ok (one := oPair bs) rdPair_ok _ _ _ _ u1
  obtain ⟨v1, v2⟩ := o_of_count (hi := 16) p1
  obtain ⟨w1, w2⟩ := o_of_count (hi := 99999999) v1
  obtain ⟨l4, l5⟩ := (oMany_guard (P := lckOk (rsT bs).1) _ _ _ _).1 l2
  have hraw : oRaw bs 3 = some (rsRaw bs, bs.length) := by
    unfold oRaw
    rw [show oNum bs 3 99999999 = some ((rsT bs).1, (rsT bs).2.1) from w2]
    simp only [Option.bind_some]
    rw [show oNum bs (rsT bs).2.1 16 = some ((rCount bs (rsT bs).2.1 (rsT bs).2.2 16).1, (rCount bs (rsT bs).2.1 (rsT bs).2.2 16).2.1) from v2]
    simp only [Option.bind_some]
    rw [show oMany (oPair bs) _ _ = some ((rsP bs).1, (rsP bs).2.1) from p2]
    simp only [Option.bind_some]
    rw [show oNum bs (rsP bs).2.1 8 = some ((rCount bs (rsP bs).2.1 (rsP bs).2.2 8).1, (rCount bs (rsP bs).2.1 (rsP bs).2.2 8).2.1) from u2]
    simp only [Option.bind_some]
    rw [show oMany (oLock bs) _ _ = some ((rsL bs).1, (rsL bs).2.1) from l4]
    simp only [Option.bind_some]
    rw [show oNum bs (rsL bs).2.1 16 = some ((rCount bs (rsL bs).2.1 (rsL bs).2.2 16).1, (rCount bs (rsL bs).2.1 (rsL bs).2.2 16).2.1) from t2]
    simp only [Option.bind_some]
    rw [show oMany (oSes bs) _ _ = some ((rsS bs).1, (rsS bs).2.1) from s2]
    simp only [Option.bind_some]
    rw [h3]
    rfl
  obtain ⟨-, -, hr⟩ := oRaw_inv hraw
  obtain ⟨a1, a2⟩ := rise_nil.1 ((pchk_iff _ _).1 p3)
  obtain ⟨b0, b3, b4⟩ := (lchk_iff _ _ _).1 l3
  obtain ⟨b1, b2⟩ := rise_nil.1 b0
  obtain ⟨-, c2, c3⟩ := (schk_iff _ _).1 s3
  refine ⟨hraw, ⟨fun p hp => a1 _ (List.mem_map.2 ⟨p, hp, rfl⟩), a2, fun l hl => b1 _ (List.mem_map.2 ⟨l, hl, rfl⟩), b2, fun l hl => ⟨?_, (l5 l hl).1⟩, b4, fun l hl => (l5 l hl).2, c2, fun x hx => ?_, ?_⟩, ?_⟩
  · have e1 := (b3 l hl).1
    have e2 := (hr.l l hl).t0
    omega
  · obtain ⟨e1, e2, e3, e4⟩ := c3 x hx
    have e5 := hr.s x hx
    have := e5.i0; have := e5.r0; have := e5.c0
    exact ⟨by omega, by omega, by omega, e4⟩
  · exact (chk_sess hr c2 fun x hx => (c3 x hx).1).1 h2
  · unfold toSt rsSs
    rw [ssPut_all c2]
    rfl
theorem raw_good {bs : Txt} {r : RawD} (h : oRaw bs 3 = some (r, bs.length)) (ho : RawOk r) : rsGood bs := by
  obtain ⟨-, -, hr⟩ := oRaw_inv h
  unfold oRaw at h
  obtain ⟨⟨t, q1⟩, h1, h⟩ := some_bind h
  obtain ⟨⟨a, q2⟩, h2, h⟩ := some_bind h
  obtain ⟨⟨ps, q3⟩, h3, h⟩ := some_bind h
  obtain ⟨⟨b, q4⟩, h4, h⟩ := some_bind h
  obtain ⟨⟨ls, q5⟩, h5, h⟩ := some_bind h
  obtain ⟨⟨c, q6⟩, h6, h⟩ := some_bind h
  obtain ⟨⟨ss, q7⟩, h7, h⟩ := some_bind h
  injection h with h
  injection h with e1 e2
  subst e1
  simp only at h2 h3 h4 h5 h6 h7 e2
  subst e2
  have eT : rsT bs = (t, q1, false) := count_of_o h1
  have e16 : rCount bs q1 false 16 = (a, q2, false) := count_of_o h2
  have eP : rsP bs = (ps, q3, false) := by
    unfold rsP rPairs
    rw [eT]
    simp only
    rw [e16]
    simp only
    refine runF_of rdPair_of _ _ _ _ _ h3 ((pchk_iff _ _).2 (rise_nil.2 ⟨fun x hx => ?_, ho.pr⟩))
    obtain ⟨p, hp, rfl⟩ := List.mem_map.1 hx
    exact ho.pn p hp
  have e8 : rCount bs q3 false 8 = (b, q4, false) := count_of_o h4
  have eL : rsL bs = (ls, q5, false) := by
    unfold rsL rLocks
    rw [eT, eP]
    simp only
    rw [e8]
    simp only
    refine runF_of rdLock_of _ _ _ _ _ ((oMany_guard (P := lckOk t) _ _ _ _).2 ⟨h5, fun l hl => ⟨(ho.lt l hl).2, ho.lq l hl⟩⟩) ((lchk_iff _ _ _).2 ⟨rise_nil.2 ⟨fun x hx => ?_, ho.lr⟩, fun l hl => ⟨?_, by simp⟩, ho.la⟩)
    · obtain ⟨p, hp, rfl⟩ := List.mem_map.1 hx
      exact ho.ln p hp
    · have := (ho.lt l hl).1
      omega
  have f16 : rCount bs q5 false 16 = (c, q6, false) := count_of_o h6
  have eS : rsS bs = (ss, bs.length, false) := by
    unfold rsS rSess1
    rw [eL]
    simp only
    rw [f16]
    simp only
    refine runF_of rdSes_of _ _ _ _ _ h7 ((schk_iff _ _).2 ⟨fun x hx => by omega, ho.sr, fun x hx => ?_⟩)
    obtain ⟨g1, g2, g3, g4⟩ := ho.s1 x hx
    exact ⟨by omega, by omega, by omega, g4⟩
  refine ⟨by rw [eS], ?_, by rw [eS]⟩
  unfold rsSs
  rw [eS, eL]
  exact (chk_sess hr ho.sr fun x hx => by have := (ho.s1 x hx).1; omega).2 ho.link
/-- Restore succeeds with just the machine that the text tells. -/
theorem restored_good {b : Txt} (hs : sealedB b) (h : rsGood (b.take (b.length - 4))) : Restored b ⟨(rsP (b.take (b.length - 4))).1, (rsL (b.take (b.length - 4))).1, ((rsT (b.take (b.length - 4))).1 : Int), rsSs (b.take (b.length - 4))⟩ := by
  obtain ⟨h1, h2, h3⟩ := good_raw h
  have hl : (b.take (b.length - 4)).length = b.length - 4 := by rw [List.length_take]; omega
  rw [hl] at h1
  exact ⟨hs, _, h1, h2, h3.symm⟩
theorem good_restored {b : Txt} {s : StD} (h : Restored b s) : sealedB b ∧ rsGood (b.take (b.length - 4)) := by
  obtain ⟨hs, r, h1, h2, -⟩ := h
  have hl : (b.take (b.length - 4)).length = b.length - 4 := by rw [List.length_take]; omega
  exact ⟨hs, raw_good (by rw [hl]; exact h1) h2⟩
end Go.Proofs.YtioinjcdkmiafaaDoor
namespace Go.Proofs.YtioinjcdkmiafaaDoor
set_option linter.unusedVariables false
set_option linter.unusedSimpArgs false
open Go.RowKit

/-- An operation that turns the pairs alone. -/
theorem op_pairs {S : Nat → Prop} {m bp bl : Nat} {s : StD} {w w' : World} {e : Ending} {R : MRes} {P' : Ps} {x : ResD × StD} (hm : MSt S w m bp bl s) (h1 : e = .returned (resV R)) (h2 : MapIs Tryd.prog 9 w' bp (sk P')) (hk : Keep (fun j => j ≠ bp) w w')
    (hx : x = (R, { s with pairs := P' })) : OpPost S m bp bl x w e w' := by
  subst hx
  obtain ⟨ms, hl⟩ := hm.lk
  have hml := hm.blk.lt
  have hbl := hm.pm.lt
  exact ⟨h1, ⟨hm.blk.keep hk hm.mp, hm.len, h2, ⟨ms, (hl.keep hk fun j hj e => hm.nb (by rw [← e]; exact hj)).widen fun j h => .inl h⟩, fun h => h.elim hm.nm fun h => by omega, fun h => h.elim hm.nb fun h => by omega⟩, hk.weaken fun j _ h => h.2.1⟩
end Go.Proofs.YtioinjcdkmiafaaDoor
