/-
  MERGED: Got El
-/
import Derived.Test.YtioinjcdkmiafaaDoorYB6
namespace Go.Proofs.YtioinjcdkmiafaaDoor
set_option linter.unusedVariables false
set_option linter.unusedSimpArgs false

/-- 'x' is read up to 'p', with the error 'e': just where 'o' gives something good. -/
structure Got {α : Type} (o : Option (α × Nat)) (good : α → Prop) (x : α) (p : Nat) (e : Int) : Prop where
  ok : e = 0 → o = some (x, p) ∧ good x
  on : ∀ y q, o = some (y, q) → good y → e = 0
section
variable {α β : Type} {bs : List UInt8} {o : Option (α × Nat)} {g : α → Prop} {x : α} {p : Nat} {e : Int}
theorem Got.start (p : Nat) : Got (some ((), p)) (fun _ => True) () p 0 := ⟨fun _ => ⟨rfl, trivial⟩, fun _ _ _ _ => rfl⟩
/-- It is told in another way. -/
theorem Got.as (h : Got o g x p e) {o' : Option (β × Nat)} {g' : β → Prop} {x' : β} (f : α → β) (ho : o' = o.map fun y => (f y.1, y.2)) (hg : ∀ y q, o = some (y, q) → (g y ↔ g' (f y))) (hx : x' = f x) : Got o' g' x' p e := by
  subst ho hx
  refine ⟨fun h0 => ?_, fun y q h1 h2 => ?_⟩
  · obtain ⟨h1, h2⟩ := h.ok h0
    exact ⟨by rw [h1]; rfl, (hg x p h1).1 h2⟩
  · cases ho : o with
    | none => rw [ho] at h1; cases h1
    | some z =>
      obtain ⟨z, r⟩ := z
      rw [ho] at h1
      injection h1 with h1
      injection h1 with e1 e2
      simp only at e1 e2
      subst e1
      exact h.on z r ho ((hg z r ho).2 h2)
theorem Got.weak (h : Got o g x p e) {g' : α → Prop} (hg : ∀ y q, o = some (y, q) → (g y ↔ g' y)) : Got o g' x p e := h.as id (by cases o <;> rfl) hg rfl
/-- One more number. -/
theorem Got.num (h : Got o g x p e) (lo : Int) (hi : Nat) :
    Got (o.bind fun y => (oNum bs y.2 hi).bind fun v => some ((y.1, v.1), v.2)) (fun z : α × Nat => g z.1 ∧ lo ≤ (z.2 : Int)) (x, (nNum bs p e lo (hi : Int)).1) (nNum bs p e lo (hi : Int)).2.1 (nNum bs p e lo (hi : Int)).2.2 := by
  refine ⟨fun h0 => ?_, fun y q h1 h2 => ?_⟩
  · obtain ⟨h1, h2, h3⟩ := o_of_num h0
    obtain ⟨h4, h5⟩ := h.ok h1
    refine ⟨?_, h5, h3⟩
    rw [h4]
    show (oNum bs p hi).bind _ = _
    rw [h2]
    rfl
  · obtain ⟨⟨y0, q0⟩, h3, h4⟩ := some_bind h1
    obtain ⟨⟨v, q1⟩, h5, h6⟩ := some_bind h4
    injection h6 with h6
    injection h6 with e1 e2
    subst e1 e2
    have he := h.on y0 q0 h3 h2.1
    subst he
    obtain ⟨h7, -⟩ := h.ok rfl
    rw [h3] at h7
    injection h7 with h7
    injection h7 with e3 e4
    subst e3 e4
    rw [num_of_o h5 h2.2]
/-- The document's next list of bytes, of at least 'lo'. -/
def nBytL (bs : List UInt8) (p : Nat) (e lo hi : Int) : List UInt8 × Nat × Int :=
  if (nNum bs p e lo hi).2.2 ≠ 0 then ([], (nNum bs p e lo hi).2.1, (nNum bs p e lo hi).2.2)
  else if bs.length < (nNum bs p e lo hi).2.1 + (nNum bs p e lo hi).1 then ([], (nNum bs p e lo hi).2.1, 10)
  else ((bs.drop (nNum bs p e lo hi).2.1).take (nNum bs p e lo hi).1, (nNum bs p e lo hi).2.1 + (nNum bs p e lo hi).1, 0)
theorem nByt_L (bs : List UInt8) (p : Nat) (e hi : Int) : nByt bs p e hi = nBytL bs p e 0 hi := rfl
/-- One more text. -/
theorem Got.txt (h : Got o g x p e) (lo : Nat) :
    Got (o.bind fun y => (oTxt bs y.2).bind fun v => some ((y.1, v.1), v.2)) (fun z : α × Txt => g z.1 ∧ lo ≤ z.2.length) (x, (nBytL bs p e (lo : Int) 8).1) (nBytL bs p e (lo : Int) 8).2.1 (nBytL bs p e (lo : Int) 8).2.2 := by
  have hn := h.num (bs := bs) (lo : Int) 8
  obtain ⟨r, hr⟩ : ∃ r, r = nNum bs p e (lo : Int) ((8 : Nat) : Int) := ⟨_, rfl⟩
  have hr2 : nNum bs p e (lo : Int) 8 = r := hr.symm
  rw [← hr] at hn
  obtain ⟨v, q, e1⟩ := r
  unfold nBytL
  rw [hr2]
  simp only at hn ⊢
  by_cases h1 : e1 = 0
  · subst h1
    rw [if_neg (by simp)]
    obtain ⟨h2, h3, h4⟩ := hn.ok rfl
    obtain ⟨⟨y0, q0⟩, h5, h6⟩ := some_bind h2
    obtain ⟨⟨v0, q1⟩, h7, h8⟩ := some_bind h6
    injection h8 with h8
    injection h8 with e2 e3
    injection e2 with e4 e5
    subst e3 e4 e5
    simp only at h3 h4 h7
    by_cases hb : bs.length < q1 + v0
    · rw [if_pos hb]
      refine ⟨fun h => absurd h (by simp), fun y q h9 h10 => ?_⟩
      rw [h5] at h9
      have h11 : oTxt bs q0 = none := by
        unfold oTxt
        rw [h7]
        show (if q1 + v0 ≤ bs.length then _ else _) = _
        rw [if_neg (by omega)]
      have h9 : (oTxt bs q0).bind (fun v => some ((y0, v.1), v.2)) = some (y, q) := h9
      rw [h11] at h9
      cases h9
    · rw [if_neg hb]
      have h11 : oTxt bs q0 = some ((bs.drop q1).take v0, q1 + v0) := by
        unfold oTxt
        rw [h7]
        show (if q1 + v0 ≤ bs.length then _ else _) = _
        rw [if_pos (by omega)]
      refine ⟨fun _ => ⟨?_, h3, ?_⟩, fun _ _ _ _ => rfl⟩
      · rw [h5]
        show (oTxt bs q0).bind _ = _
        rw [h11]
        rfl
      · simp only [List.length_take, List.length_drop]
        omega
  · rw [if_pos h1]
    refine ⟨fun h => absurd h h1, fun y q h9 h10 => ?_⟩
    obtain ⟨⟨y0, q0⟩, h5, h6⟩ := some_bind h9
    obtain ⟨⟨t, q1⟩, h7, h8⟩ := some_bind h6
    injection h8 with h8
    injection h8 with e2 e3
    subst e2 e3
    simp only at h7 h10
    unfold oTxt at h7
    obtain ⟨⟨v0, q2⟩, h11, h12⟩ := some_bind h7
    simp only at h12
    split at h12
    · injection h12 with h12
      injection h12 with e4 e5
      refine hn.on (y0, v0) q2 ?_ ⟨h10.1, ?_⟩
      · rw [h5]
        show (oNum bs q0 8).bind _ = _
        rw [h11]
        rfl
      · have hl := h10.2
        rw [← e4] at hl
        simp only [List.length_take, List.length_drop] at hl
        omega
    · cases h12
end
/-! ### lists -/
theorem oMany_snoc {α : Type} {one : Nat → Option (α × Nat)} : ∀ (n p : Nat), oMany one (n + 1) p = (oMany one n p).bind fun xs => (one xs.2).bind fun y => some (xs.1 ++ [y.1], y.2)
  | 0, p => by
    show (one p).bind (fun x => (oMany one 0 x.2).bind fun y => some (x.1 :: y.1, y.2)) = (one p).bind fun y => some ([] ++ [y.1], y.2)
    rfl
  | n + 1, p => by
    have ih := fun q => oMany_snoc (one := one) n q
    show (one p).bind (fun x => (oMany one (n + 1) x.2).bind fun y => some (x.1 :: y.1, y.2)) = ((one p).bind fun x => (oMany one n x.2).bind fun y => some (x.1 :: y.1, y.2)).bind _
    cases h1 : one p with
    | none => rfl
    | some x =>
      show (oMany one (n + 1) x.2).bind _ = ((oMany one n x.2).bind _).bind _
      rw [ih]
      cases h2 : oMany one n x.2 with
      | none => rfl
      | some ys =>
        show ((one ys.2).bind _).bind _ = (one ys.2).bind _
        cases h3 : one ys.2 with
        | none => rfl
        | some z => rfl
end Go.Proofs.YtioinjcdkmiafaaDoor
namespace Go.Proofs.YtioinjcdkmiafaaDoor
set_option linter.unusedVariables false
set_option linter.unusedSimpArgs false

/-- From the place p with the error e the reader has come to p', e' with b. -/
structure El {β : Type} (one : Nat → Option (β × Nat)) (good : β → Prop) (p : Nat) (e : Int) (b : β) (p' : Nat) (e' : Int) : Prop where
  z : e ≠ 0 → e' ≠ 0
  r : e = 0 → Got (one p) good b p' e'
section
variable {β γ : Type} {bs : List UInt8} {p p1 p2 : Nat} {e e1 e2 : Int}
theorem El.num (p : Nat) (e lo : Int) (hi : Nat) : El (fun p => oNum bs p hi) (fun v => lo ≤ (v : Int)) p e (nNum bs p e lo (hi : Int)).1 (nNum bs p e lo (hi : Int)).2.1 (nNum bs p e lo (hi : Int)).2.2 := by
  refine ⟨fun h => by rw [nNum_stick h]; exact h, fun h => ?_⟩
  subst h
  refine ⟨fun h0 => ?_, fun y q h1 h2 => ?_⟩
  · obtain ⟨-, h1, h2⟩ := o_of_num h0
    exact ⟨h1, h2⟩
  · rw [num_of_o h1 h2]
theorem El.txt (p : Nat) (e : Int) (lo : Nat) : El (fun p => oTxt bs p) (fun t => lo ≤ t.length) p e (nBytL bs p e (lo : Int) 8).1 (nBytL bs p e (lo : Int) 8).2.1 (nBytL bs p e (lo : Int) 8).2.2 := by
  refine ⟨fun h => ?_, fun h => ?_⟩
  · unfold nBytL
    rw [nNum_stick h, if_pos h]
    exact h
  · subst h
    have h := (Got.start p).txt (bs := bs) lo
    refine ⟨fun h0 => ?_, fun y q h1 h2 => ?_⟩
    · obtain ⟨h1, -, h2⟩ := h.ok h0
      obtain ⟨⟨v, q⟩, h3, h4⟩ := some_bind (show (oTxt bs p).bind (fun v => some (((), v.1), v.2)) = _ from h1)
      injection h4 with h4
      injection h4 with e1 e2
      injection e1 with _ e3
      simp only at e2 e3
      subst e3
      rw [← e2]
      exact ⟨h3, h2⟩
    · exact h.on ((), y) q (by show (oTxt bs p).bind _ = _; rw [h1]; rfl) ⟨trivial, h2⟩
theorem El.map {one : Nat → Option (β × Nat)} {good : β → Prop} {b : β} (h : El one good p e b p1 e1) {one' : Nat → Option (γ × Nat)} {good' : γ → Prop} (f : β → γ) (ho : one' p = (one p).map fun y => (f y.1, y.2)) (hg : ∀ y q, one p = some (y, q) → (good y ↔ good' (f y))) : El one' good' p e (f b) p1 e1 :=
  ⟨h.z, fun h0 => (h.r h0).as f ho hg rfl⟩
theorem El.seq {one1 : Nat → Option (β × Nat)} {one2 : Nat → Option (γ × Nat)} {g1 : β → Prop} {g2 : γ → Prop} {b : β} {c : γ} (h : El one1 g1 p e b p1 e1) (k : El one2 g2 p1 e1 c p2 e2) :
    El (fun p => (one1 p).bind fun u => (one2 u.2).bind fun v => some ((u.1, v.1), v.2)) (fun z => g1 z.1 ∧ g2 z.2) p e (b, c) p2 e2 := by
  refine ⟨fun h0 => k.z (h.z h0), fun h0 => ?_⟩
  have hg := h.r h0
  by_cases h1 : e1 = 0
  · have kg := k.r h1
    obtain ⟨a1, a2⟩ := hg.ok h1
    refine ⟨fun h2 => ?_, fun y q h3 h4 => ?_⟩
    · obtain ⟨a3, a4⟩ := kg.ok h2
      refine ⟨?_, a2, a4⟩
      show (one1 p).bind _ = _
      rw [a1]
      show (one2 p1).bind _ = _
      rw [a3]
      rfl
    · obtain ⟨⟨u, q1⟩, h5, h6⟩ := some_bind h3
      obtain ⟨⟨v, q2⟩, h7, h8⟩ := some_bind h6
      rw [a1] at h5
      injection h5 with h5
      injection h5 with e3 e4
      subst e3 e4
      injection h8 with h8
      injection h8 with e5 e6
      subst e5
      exact kg.on v q2 h7 h4.2
  · refine ⟨fun h2 => absurd h2 (k.z h1), fun y q h3 h4 => ?_⟩
    obtain ⟨⟨u, q1⟩, h5, h6⟩ := some_bind h3
    obtain ⟨⟨v, q2⟩, h7, h8⟩ := some_bind h6
    injection h8 with h8
    injection h8 with e5 e6
    subst e5
    exact absurd (hg.on u q1 h5 h4.1) h1
/-- So many as were told ahead. -/
theorem El.cnt {one1 : Nat → Option (β × Nat)} {one : Nat → Option (γ × Nat)} {g1 : β → Prop} {G : List γ → Prop} {b : β} (n : β → Nat) {xs : List γ} (h : El one1 g1 p e b p1 e1) (k : El (oMany one (n b)) G p1 e1 xs p2 e2) :
    El (fun p => (one1 p).bind fun u => (oMany one (n u.1) u.2).bind fun v => some ((u.1, v.1), v.2)) (fun z => g1 z.1 ∧ G z.2) p e (b, xs) p2 e2 := by
  refine ⟨fun h0 => k.z (h.z h0), fun h0 => ?_⟩
  have hg := h.r h0
  by_cases h1 : e1 = 0
  · have kg := k.r h1
    obtain ⟨a1, a2⟩ := hg.ok h1
    refine ⟨fun h2 => ?_, fun y q h3 h4 => ?_⟩
    · obtain ⟨a3, a4⟩ := kg.ok h2
      refine ⟨?_, a2, a4⟩
      show (one1 p).bind _ = _
      rw [a1]
      show (oMany one (n b) p1).bind _ = _
      rw [a3]
      rfl
    · obtain ⟨⟨u, q1⟩, h5, h6⟩ := some_bind h3
      obtain ⟨⟨v, q2⟩, h7, h8⟩ := some_bind h6
      rw [a1] at h5
      injection h5 with h5
      injection h5 with e3 e4
      subst e3 e4
      injection h8 with h8
      injection h8 with e5 e6
      subst e5
      exact kg.on v q2 h7 h4.2
  · refine ⟨fun h2 => absurd h2 (k.z h1), fun y q h3 h4 => ?_⟩
    obtain ⟨⟨u, q1⟩, h5, h6⟩ := some_bind h3
    obtain ⟨⟨v, q2⟩, h7, h8⟩ := some_bind h6
    injection h8 with h8
    injection h8 with e5 e6
    subst e5
    exact absurd (hg.on u q1 h5 h4.1) h1
theorem El.many0 {one : Nat → Option (β × Nat)} {G : List β → Prop} (hG : G []) (p : Nat) (e : Int) : El (oMany one 0) G p e [] p e :=
  ⟨id, fun h => ⟨fun _ => ⟨rfl, hG⟩, fun _ _ _ _ => h⟩⟩
theorem El.manyS {one : Nat → Option (β × Nat)} {G : List β → Prop} {gd : List β → β → Prop} (hG : ∀ ys y, G (ys ++ [y]) ↔ G ys ∧ gd ys y) {j : Nat} {xs : List β} {b : β} (h : El (oMany one j) G p e xs p1 e1) (k : El one (gd xs) p1 e1 b p2 e2) :
    El (oMany one (j + 1)) G p e (xs ++ [b]) p2 e2 := by
  refine ⟨fun h0 => k.z (h.z h0), fun h0 => ?_⟩
  have hg := h.r h0
  by_cases h1 : e1 = 0
  · have kg := k.r h1
    obtain ⟨a1, a2⟩ := hg.ok h1
    refine ⟨fun h2 => ?_, fun y q h3 h4 => ?_⟩
    · obtain ⟨a3, a4⟩ := kg.ok h2
      refine ⟨?_, (hG _ _).2 ⟨a2, a4⟩⟩
      rw [oMany_snoc, a1]
      show (one p1).bind _ = _
      rw [a3]
      rfl
    · rw [oMany_snoc, a1] at h3
      obtain ⟨⟨v, q2⟩, h7, h8⟩ := some_bind (show (one p1).bind (fun y => some (xs ++ [y.1], y.2)) = _ from h3)
      injection h8 with h8
      injection h8 with e5 e6
      simp only at e5
      rw [← e5] at h4
      exact kg.on v q2 h7 ((hG _ _).1 h4).2
  · refine ⟨fun h2 => absurd h2 (k.z h1), fun y q h3 h4 => ?_⟩
    rw [oMany_snoc] at h3
    obtain ⟨⟨u, q1⟩, h5, h6⟩ := some_bind h3
    obtain ⟨⟨v, q2⟩, h7, h8⟩ := some_bind h6
    injection h8 with h8
    injection h8 with e5 e6
    simp only at e5
    rw [← e5] at h4
    exact absurd (hg.on u q1 h5 ((hG _ _).1 h4).1) h1
end
/-! ### the pieces of a snapshot -/
theorem all_snoc {β : Type} {g : β → Prop} (ys : List β) (y : β) : (∀ x ∈ ys ++ [y], g x) ↔ (∀ x ∈ ys, g x) ∧ g y := by
  constructor
  · intro h
    exact ⟨fun x hx => h x (by simp [hx]), h y (by simp)⟩
  · rintro ⟨h1, h2⟩ x hx
    rcases List.mem_append.1 hx with h | h
    · exact h1 x h
    · rw [List.mem_singleton.1 h]; exact h2
section
variable {bs : List UInt8} {p p1 p2 p3 p4 p5 p6 : Nat} {e e1 e2 e3 e4 e5 e6 : Int}
theorem El.pair {k v : Txt} (h1 : El (fun p => oTxt bs p) (fun t => 1 ≤ t.length) p e k p1 e1) (h2 : El (fun p => oTxt bs p) (fun t => 0 ≤ t.length) p1 e1 v p2 e2) :
    El (oPair bs) (fun x => x.1 ≠ []) p e (k, v) p2 e2 := by
  refine (h1.seq h2).map id ?_ fun y q _ => ?_
  · unfold oPair
    cases oTxt bs p with
    | none => rfl
    | some u =>
      show (oTxt bs u.2).bind _ = ((oTxt bs u.2).bind _).map _
      cases oTxt bs u.2 <;> rfl
  · obtain ⟨a, b⟩ := y
    cases a <;> simp
theorem El.cl {c : Nat} (h1 : El (fun p => oNum bs p 15) (fun v => (0 : Int) ≤ (v : Int)) p e c p1 e1) : El (oCl bs) (fun _ => True) p e (c : Int) p1 e1 := by
  refine h1.map (fun c : Nat => (c : Int)) ?_ fun y q _ => ?_
  · unfold oCl
    cases oNum bs p 15 <;> rfl
  · exact ⟨fun _ => trivial, fun _ => by omega⟩
def lkGood (l : LockD) : Prop := l.name ≠ [] ∧ 1 ≤ l.token
theorem El.lock {nm : Txt} {ho tk wn : Nat} {q : List Int} (h1 : El (fun p => oTxt bs p) (fun t => 1 ≤ t.length) p e nm p1 e1) (h2 : El (fun p => oNum bs p 15) (fun v => (0 : Int) ≤ (v : Int)) p1 e1 ho p2 e2)
    (h3 : El (fun p => oNum bs p 99999999) (fun v => (1 : Int) ≤ (v : Int)) p2 e2 tk p3 e3) (h4 : El (fun p => oNum bs p 15) (fun v => (0 : Int) ≤ (v : Int)) p3 e3 wn p4 e4) (h5 : El (oMany (oCl bs) wn) (fun l => ∀ x ∈ l, True) p4 e4 q p5 e5) :
    El (oLock bs) lkGood p e ⟨nm, (ho : Int), (tk : Int), q⟩ p5 e5 := by
  refine ((((h1.seq h2).seq h3).seq h4).cnt (fun z => z.2) h5).map (fun z => (⟨z.1.1.1.1, (z.1.1.1.2 : Int), (z.1.1.2 : Int), z.2⟩ : LockD)) ?_ fun y qq _ => ?_
  · unfold oLock
    cases oTxt bs p with
    | none => rfl
    | some a =>
      simp only [Option.bind_some]
      cases oNum bs a.2 15 with
      | none => rfl
      | some b =>
        simp only [Option.bind_some]
        cases oNum bs b.2 99999999 with
        | none => rfl
        | some c =>
          simp only [Option.bind_some]
          cases oNum bs c.2 15 with
          | none => rfl
          | some d =>
            simp only [Option.bind_some]
            cases oMany (oCl bs) d.1 d.2 <;> rfl
  · obtain ⟨⟨⟨⟨a, b⟩, c⟩, d⟩, l⟩ := y
    unfold lkGood
    simp only
    constructor
    · rintro ⟨⟨⟨⟨h, -⟩, h2⟩, -⟩, -⟩
      exact ⟨fun e => by rw [e] at h; simp at h, h2⟩
    · rintro ⟨h, h2⟩
      refine ⟨⟨⟨⟨?_, by omega⟩, h2⟩, by omega⟩, fun _ _ => trivial⟩
      cases a with
      | nil => exact absurd rfl h
      | cons x r => simp
def sesGood (lo : Nat) (x : Nat × SesD) : Prop := lo ≤ x.1 ∧ 1 ≤ x.2.inc ∧ 1 ≤ x.2.req ∧ 1 ≤ x.2.last.code
theorem El.ses {lo q i r c n : Nat} {v : Txt} (h1 : El (fun p => oNum bs p 15) (fun v => (lo : Int) ≤ (v : Int)) p e q p1 e1) (h2 : El (fun p => oNum bs p 4611686018427387904) (fun v => (1 : Int) ≤ (v : Int)) p1 e1 i p2 e2)
    (h3 : El (fun p => oNum bs p 4611686018427387904) (fun v => (1 : Int) ≤ (v : Int)) p2 e2 r p3 e3) (h4 : El (fun p => oNum bs p 11) (fun v => (1 : Int) ≤ (v : Int)) p3 e3 c p4 e4) (h5 : El (fun p => oTxt bs p) (fun t => 0 ≤ t.length) p4 e4 v p5 e5)
    (h6 : El (fun p => oNum bs p 99999999) (fun v => (0 : Int) ≤ (v : Int)) p5 e5 n p6 e6) :
    El (oSes bs) (sesGood lo) p e (q, ⟨(i : Int), (r : Int), ⟨(c : Int), v, (n : Int)⟩⟩) p6 e6 := by
  refine (((((h1.seq h2).seq h3).seq h4).seq h5).seq h6).map (fun z => (z.1.1.1.1.1, (⟨(z.1.1.1.1.2 : Int), (z.1.1.1.2 : Int), ⟨(z.1.1.2 : Int), z.1.2, (z.2 : Int)⟩⟩ : SesD))) ?_ fun y qq _ => ?_
  · unfold oSes
    cases oNum bs p 15 with
    | none => rfl
    | some a =>
      simp only [Option.bind_some]
      cases oNum bs a.2 4611686018427387904 with
      | none => rfl
      | some b =>
        simp only [Option.bind_some]
        cases oNum bs b.2 4611686018427387904 with
        | none => rfl
        | some c =>
          simp only [Option.bind_some]
          cases oNum bs c.2 11 with
          | none => rfl
          | some d =>
            simp only [Option.bind_some]
            cases oTxt bs d.2 with
            | none => rfl
            | some f =>
              simp only [Option.bind_some]
              cases oNum bs f.2 99999999 <;> rfl
  · obtain ⟨⟨⟨⟨⟨a, b⟩, c⟩, d⟩, f⟩, g⟩ := y
    unfold sesGood
    simp only
    constructor
    · rintro ⟨⟨⟨⟨⟨h1, h2⟩, h3⟩, h4⟩, -⟩, -⟩
      exact ⟨by omega, h2, h3, h4⟩
    · rintro ⟨h1, h2, h3, h4⟩
      exact ⟨⟨⟨⟨⟨by omega, h2⟩, h3⟩, h4⟩, by omega⟩, by omega⟩
/-- What must come next among the sessions. -/
def sesNext (l : List (Nat × SesD)) : Nat := match l.getLast? with
  | some x => x.1 + 1
  | none => 0
def sesAll : List (Nat × SesD) → Prop := fun l => (∀ x ∈ l, 1 ≤ x.2.inc ∧ 1 ≤ x.2.req ∧ 1 ≤ x.2.last.code) ∧ l.Pairwise fun a b => a.1 < b.1
theorem sesAll_snoc (ys : List (Nat × SesD)) (y : Nat × SesD) : sesAll (ys ++ [y]) ↔ sesAll ys ∧ sesGood (sesNext ys) y := by
  unfold sesAll sesGood
  rw [all_snoc (g := fun x : Nat × SesD => 1 ≤ x.2.inc ∧ 1 ≤ x.2.req ∧ 1 ≤ x.2.last.code), List.pairwise_append]
  have h : ys.Pairwise (fun a b => a.1 < b.1) → ((∀ a ∈ ys, ∀ b ∈ [y], a.1 < b.1) ↔ sesNext ys ≤ y.1) := fun hp => by
    unfold sesNext
    cases hl : ys.getLast? with
    | none =>
      rw [List.getLast?_eq_none_iff] at hl
      subst hl
      simp
    | some z =>
      obtain ⟨zs, rfl⟩ := List.getLast?_eq_some_iff.1 hl
      constructor
      · intro h
        have := h z (by simp) y (by simp)
        show z.1 + 1 ≤ y.1
        omega
      · intro h a ha b hb
        rw [List.mem_singleton.1 hb]
        have h3 : z.1 + 1 ≤ y.1 := h
        rcases List.mem_append.1 ha with h1 | h1
        · have := (List.pairwise_append.1 hp).2.2 a h1 z (by simp)
          omega
        · rw [List.mem_singleton.1 h1]; omega
  constructor
  · rintro ⟨⟨h1, h2, h3, h4⟩, h5, -, h6⟩
    exact ⟨⟨h1, h5⟩, (h h5).1 h6, h2, h3, h4⟩
  · rintro ⟨⟨h1, h5⟩, h6, h2, h3, h4⟩
    exact ⟨⟨h1, h2, h3, h4⟩, h5, List.pairwise_singleton _ _, (h h5).2 h6⟩
def rawGood (r : RawD) : Prop := (∀ x ∈ r.pairs, x.1 ≠ []) ∧ (∀ l ∈ r.locks, lkGood l) ∧ sesAll r.sess
theorem El.raw {t a b c : Nat} {ps : List (Txt × Txt)} {ls : List LockD} {ss : List (Nat × SesD)} (h1 : El (fun p => oNum bs p 99999999) (fun v => (0 : Int) ≤ (v : Int)) p e t p1 e1) (h2 : El (fun p => oNum bs p 16) (fun v => (0 : Int) ≤ (v : Int)) p1 e1 a p2 e2)
    (h3 : El (oMany (oPair bs) a) (fun l => ∀ x ∈ l, x.1 ≠ []) p2 e2 ps p3 e3) (h4 : El (fun p => oNum bs p 8) (fun v => (0 : Int) ≤ (v : Int)) p3 e3 b p4 e4) (h5 : El (oMany (oLock bs) b) (fun l => ∀ x ∈ l, lkGood x) p4 e4 ls p5 e5)
    {p7 : Nat} {e7 : Int} (h6 : El (fun p => oNum bs p 16) (fun v => (0 : Int) ≤ (v : Int)) p5 e5 c p6 e6) (h7 : El (oMany (oSes bs) c) sesAll p6 e6 ss p7 e7) :
    El (oRaw bs) rawGood p e ⟨t, ps, ls, ss⟩ p7 e7 := by
  refine ((((((h1.seq h2).cnt (fun z => z.2) h3).seq h4).cnt (fun z => z.2) h5).seq h6).cnt (fun z => z.2) h7).map (fun z => (⟨z.1.1.1.1.1.1, z.1.1.1.1.2, z.1.1.2, z.2⟩ : RawD)) ?_ fun y qq _ => ?_
  · unfold oRaw
    cases oNum bs p 99999999 with
    | none => rfl
    | some a =>
      simp only [Option.bind_some]
      cases oNum bs a.2 16 with
      | none => rfl
      | some b =>
        simp only [Option.bind_some]
        cases oMany (oPair bs) b.1 b.2 with
        | none => rfl
        | some c =>
          simp only [Option.bind_some]
          cases oNum bs c.2 8 with
          | none => rfl
          | some d =>
            simp only [Option.bind_some]
            cases oMany (oLock bs) d.1 d.2 with
            | none => rfl
            | some f =>
              simp only [Option.bind_some]
              cases oNum bs f.2 16 with
              | none => rfl
              | some g =>
                simp only [Option.bind_some]
                cases oMany (oSes bs) g.1 g.2 <;> rfl
  · obtain ⟨⟨⟨⟨⟨⟨a, b⟩, c⟩, d⟩, f⟩, g⟩, l⟩ := y
    unfold rawGood
    simp only
    constructor
    · rintro ⟨⟨⟨⟨⟨⟨-, -⟩, h1⟩, -⟩, h2⟩, -⟩, h3⟩
      exact ⟨h1, h2, h3⟩
    · rintro ⟨h1, h2, h3⟩
      exact ⟨⟨⟨⟨⟨⟨by omega, by omega⟩, h1⟩, by omega⟩, h2⟩, by omega⟩, h3⟩
end
end Go.Proofs.YtioinjcdkmiafaaDoor
