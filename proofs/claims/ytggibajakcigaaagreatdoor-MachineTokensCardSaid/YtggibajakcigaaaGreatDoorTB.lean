/-
  MERGED: Tok TokP RowM
-/
import Derived.Test.YtggibajakcigaaaGreatDoorT4
import Derived.Test.YtggibajakcigaaaGreatDoorTA
import Derived.Test.YtggibajakcigaaaGreatDoorNum
import Derived.Deep.RegionLaw
namespace Go.Proofs.YtggibajakcigaaaGreatDoor
set_option linter.unusedVariables false
set_option linter.unusedSimpArgs false

structure RowD where
  held : Bool
  client : Int
  token : Int
  queue : List Int
deriving DecidableEq
def rowOf : Option LockD → RowD
  | none => ⟨false, 0, 0, []⟩
  | some l => ⟨true, l.holder, l.token, l.queue⟩
def rowD (k : Txt) (s : StD) : RowD := rowOf (lfind k s.locks)
def lessD (q : List Int) (c : Int) : List Int := q.filter fun y => !(y == c)
def RowD.passes (r : RowD) : RowD := match r.queue with
  | [] => ⟨false, 0, 0, []⟩
  | c :: q => ⟨true, c, -1, q⟩
def RowD.leaves (r : RowD) (c : Int) : RowD := if r.held = false ∨ r.client ≠ c then { r with queue := lessD r.queue c } else RowD.passes { r with queue := lessD r.queue c }
/-- What an operation does with the row of its key. -/
def RowD.onKey (r : RowD) (c o code : Int) : RowD :=
  if o = 6 then (if r.held = false ∧ code = 1 then ⟨true, c, -1, []⟩ else if r.held = true ∧ r.client ≠ c ∧ ¬ (lessD r.queue c).length < r.queue.length then { r with queue := lessD r.queue (-1) ++ [c] } else r)
  else if o = 7 then (if r.held = true ∧ r.client = c then r.passes else { r with queue := lessD r.queue c })
  else r
def goesD (num : Txt → Int × Bool) (r : RowD) (k : Txt) (c o : Int) (key v : Txt) (anew : Bool) (code : Int) : RowD :=
  let r1 := if anew then r.leaves c else r
  if o = 9 ∧ code = 1 then r1.leaves (num v).1 else if key ≠ k then r1 else r1.onKey c o code
/-- The row is as it must be; -1: a token above g. -/
def Meets (g : Int) (a b : RowD) : Prop := ∃ t, b = ⟨a.held, a.client, t, a.queue⟩ ∧ ((t = -1 ∧ g < a.token) ∨ (t = a.token ∧ t ≠ -1))
theorem Meets.same {g : Int} {a : RowD} (h : a.token ≠ -1) : Meets g a a := ⟨a.token, rfl, .inr ⟨rfl, h⟩⟩
theorem Meets.tok {g : Int} {a b : RowD} (h : Meets g a b) (hg : 0 ≤ g) : a.token ≠ -1 := by
  obtain ⟨t, _, h | h⟩ := h <;> omega
theorem Meets.lower {g g' : Int} {a b : RowD} (h : Meets g' a b) (hg : g ≤ g') : Meets g a b := by
  obtain ⟨t, h1, h2 | h2⟩ := h
  · exact ⟨t, h1, .inl ⟨h2.1, by omega⟩⟩
  · exact ⟨t, h1, .inr h2⟩
/-- A step that keeps the token, or makes another of its own, from a row that meets. -/
theorem Meets.step {g : Int} {a b a' : RowD} (f : RowD → RowD) (hf : ∀ r : RowD, ∀ t, (∃ q, f r = { r with queue := q } ∧ f { r with token := t } = { r with token := t, queue := q }) ∨ f { r with token := t } = f r)
    (h : Meets g a b) (h' : Meets g a' (f a)) (hg : 0 ≤ g) : Meets g a' (f b) := by
  have ht := h.tok hg
  obtain ⟨t, rfl, h2⟩ := h
  rcases hf a t with ⟨q, h3, h4⟩ | h3
  · rw [h3] at h'
    obtain ⟨t', h5, h6⟩ := h'
    have e : (⟨a.held, a.client, t, a.queue⟩ : RowD) = { a with token := t } := rfl
    rw [e, h4]
    have e2 := congrArg RowD.token h5
    have e3 := congrArg RowD.held h5
    have e4 := congrArg RowD.client h5
    have e5 := congrArg RowD.queue h5
    simp only at e2 e3 e4 e5
    refine ⟨t, by rw [← e3, ← e4, ← e5], ?_⟩
    rcases h2 with h2 | h2
    · exact .inl ⟨h2.1, by omega⟩
    · exact .inr ⟨by omega, h2.2⟩
  · have e : (⟨a.held, a.client, t, a.queue⟩ : RowD) = { a with token := t } := rfl
    rw [e, h3]
    exact h'
theorem leaves_uni (c : Int) (r : RowD) (t : Int) : (∃ q, r.leaves c = { r with queue := q } ∧ RowD.leaves { r with token := t } c = { r with token := t, queue := q }) ∨ RowD.leaves { r with token := t } c = r.leaves c := by
  unfold RowD.leaves
  by_cases h : r.held = false ∨ r.client ≠ c
  · exact .inl ⟨_, by rw [if_pos h], by rw [if_pos h]⟩
  · refine .inr ?_
    rw [if_neg h, if_neg h]
    rfl
theorem onKey_uni (c o code : Int) (r : RowD) (t : Int) : (∃ q, r.onKey c o code = { r with queue := q } ∧ RowD.onKey { r with token := t } c o code = { r with token := t, queue := q }) ∨ RowD.onKey { r with token := t } c o code = r.onKey c o code := by
  unfold RowD.onKey
  by_cases h6 : o = 6
  · simp only [h6, if_true]
    by_cases h1 : r.held = false ∧ code = 1
    · exact .inr (by rw [if_pos h1, if_pos h1])
    · rw [if_neg h1, if_neg h1]
      by_cases h2 : r.held = true ∧ r.client ≠ c ∧ ¬ (lessD r.queue c).length < r.queue.length
      · exact .inl ⟨_, by rw [if_pos h2], by rw [if_pos h2]⟩
      · exact .inl ⟨r.queue, by rw [if_neg h2], by rw [if_neg h2]⟩
  · rw [if_neg h6, if_neg h6]
    by_cases h7 : o = 7
    · rw [if_pos h7, if_pos h7]
      by_cases h1 : r.held = true ∧ r.client = c
      · exact .inr (by rw [if_pos h1, if_pos h1]; rfl)
      · exact .inl ⟨_, by rw [if_neg h1], by rw [if_neg h1]⟩
    · exact .inl ⟨r.queue, by rw [if_neg h7], by rw [if_neg h7]⟩

/-! ### passing on -/
theorem pass_tok (k : Txt) (s : StD) : s.tok ≤ (passD k s).2.tok ∧ (passD k s).2.tok ≤ s.tok + 1 := by
  unfold passD
  split
  · exact ⟨Int.le_refl _, by show s.tok ≤ s.tok + 1; omega⟩
  · split
    · exact ⟨Int.le_refl _, by show s.tok ≤ s.tok + 1; omega⟩
    · split
      · exact ⟨Int.le_refl _, by show s.tok ≤ s.tok + 1; omega⟩
      · exact ⟨by show s.tok ≤ s.tok + 1; omega, Int.le_refl _⟩
theorem passAll_tok : ∀ (ns : List Txt) (s : StD), s.tok ≤ (passAll ns s).tok ∧ (passAll ns s).tok ≤ s.tok + ns.length
  | [], s => ⟨Int.le_refl _, by show s.tok ≤ s.tok + 0; omega⟩
  | k :: r, s => by
    have h1 := pass_tok k s
    have h2 := passAll_tok r (passD k s).2
    have e : passAll (k :: r) s = passAll r (passD k s).2 := rfl
    rw [e]
    simp only [List.length_cons]
    omega
/-- The lock behind a passing on. -/
def PassIs (g : Int) (k : Txt) (l : Option LockD) (l' : Option LockD) : Prop := match l with
  | none => l' = none
  | some l => match l.queue with
    | [] => l' = none
    | c :: q => ∃ t, g < t ∧ l' = some ⟨k, c, t, q⟩
theorem pass_self {k : Txt} {s : StD} (ht : s.tok < 99999999) : PassIs s.tok k (lfind k s.locks) (lfind k (passD k s).2.locks) := by
  unfold passD PassIs
  cases hf : lfind k s.locks with
  | none => exact hf
  | some l =>
    obtain ⟨hn, hm⟩ := findK_some hf
    simp only
    cases hq : l.queue with
    | nil =>
      simp only
      show findK LockD.name k (delK LockD.name k s.locks) = none
      rw [findK_del, if_pos rfl]
    | cons c q =>
      simp only
      rw [if_neg (by omega)]
      refine ⟨s.tok + 1, by omega, ?_⟩
      show findK LockD.name k (setK LockD.name _ s.locks) = _
      rw [findK_set ⟨l, hm, hn⟩, if_pos rfl]
theorem PassIs.lower {g g' : Int} {k : Txt} {l l' : Option LockD} (h : PassIs g' k l l') (hg : g ≤ g') : PassIs g k l l' := by
  unfold PassIs at h ⊢
  cases l with
  | none => exact h
  | some l =>
    simp only at h ⊢
    cases hq : l.queue with
    | nil => rw [hq] at h; exact h
    | cons c q =>
      rw [hq] at h
      obtain ⟨t, h1, h2⟩ := h
      exact ⟨t, by omega, h2⟩
theorem passAll_find (k : Txt) : ∀ (ns : List Txt) (s : StD), ns.Nodup → s.tok + ns.length ≤ 99999999 →
    (k ∉ ns → lfind k (passAll ns s).locks = lfind k s.locks) ∧ (k ∈ ns → PassIs s.tok k (lfind k s.locks) (lfind k (passAll ns s).locks))
  | [], s, _, _ => ⟨fun _ => rfl, fun h => by cases h⟩
  | a :: r, s, hn, ht => by
    obtain ⟨h1, h2⟩ := List.nodup_cons.1 hn
    have e : passAll (a :: r) s = passAll r (passD a s).2 := rfl
    rw [e]
    have hp := pass_tok a s
    simp only [List.length_cons] at ht
    have ih := passAll_find k r (passD a s).2 h2 (by omega)
    refine ⟨fun hk => ?_, fun hk => ?_⟩
    · rw [ih.1 (fun h => hk (by simp [h])), pass_other (fun h => hk (by simp [h]))]
    · by_cases hka : k = a
      · subst hka
        rw [ih.1 h1]
        exact pass_self (by omega)
      · rcases List.mem_cons.1 hk with h | h
        · exact absurd h hka
        · have := ih.2 h
          rw [pass_other hka] at this
          exact this.lower hp.1
theorem find_map (c : Int) (k : Txt) (ls : List LockD) : lfind k (ls.map (leaveL c)) = (lfind k ls).map (leaveL c) := by
  show findK _ _ _ = _
  unfold findK
  rw [List.find?_map]
  rfl
theorem heldBy_mem {c : Int} {ls : List LockD} (hr : Rise (ls.map LockD.name)) {k : Txt} : k ∈ heldBy c ls ↔ ∃ l, lfind k ls = some l ∧ l.holder = c := by
  unfold heldBy
  rw [List.mem_map]
  constructor
  · rintro ⟨l, h1, rfl⟩
    obtain ⟨h2, h3⟩ := List.mem_filter.1 h1
    exact ⟨l, findK_of hr h2 rfl, by simpa using h3⟩
  · rintro ⟨l, h1, h2⟩
    obtain ⟨h3, h4⟩ := findK_some h1
    exact ⟨l, List.mem_filter.2 ⟨h4, by simpa using h2⟩, h3⟩
theorem heldBy_nodup {c : Int} {ls : List LockD} (hr : Rise (ls.map LockD.name)) : (heldBy c ls).Nodup := (List.Sublist.map _ List.filter_sublist).nodup hr.nodup
theorem heldBy_len (c : Int) (ls : List LockD) : (heldBy c ls).length ≤ ls.length := by
  unfold heldBy
  rw [List.length_map]
  exact List.length_filter_le _ _
theorem lets_tok {s : StD} (c : Int) (h : LInv s.locks s.tok) : s.tok ≤ (letsD c s).2.tok ∧ (letsD c s).2.tok ≤ s.tok + 8 := by
  have h1 := passAll_tok (heldBy c s.locks) { s with locks := s.locks.map (leaveL c) }
  have h2 := heldBy_len c s.locks
  have h3 := h.len
  refine ⟨h1.1, Int.le_trans h1.2 ?_⟩
  show s.tok + _ ≤ _
  omega
theorem rowOf_pass {g : Int} {k : Txt} {l : LockD} {l' : Option LockD} (h : PassIs g k (some l) l') (hg : 0 ≤ g) : Meets g (rowOf l') (RowD.passes (rowOf (some l))) := by
  obtain ⟨ln, lh, lt, lq⟩ := l
  cases lq with
  | nil =>
    have h : l' = none := h
    subst h
    exact Meets.same (g := g) (a := ⟨false, 0, 0, []⟩) (by decide)
  | cons c q =>
    have h : ∃ t, g < t ∧ l' = some ⟨k, c, t, q⟩ := h
    obtain ⟨t, h1, rfl⟩ := h
    exact ⟨-1, rfl, .inl ⟨rfl, h1⟩⟩
theorem lets_row {s : StD} (c : Int) (k : Txt) (h : LInv s.locks s.tok) (ht : s.tok + 8 ≤ 99999999) : Meets s.tok (rowD k (letsD c s).2) ((rowD k s).leaves c) := by
  have hl := h.len
  have h1 := passAll_find k (heldBy c s.locks) { s with locks := s.locks.map (leaveL c) } (heldBy_nodup h.rise) (by have := heldBy_len c s.locks; show s.tok + _ ≤ _; omega)
  simp only [find_map] at h1
  have e : (letsD c s).2 = passAll (heldBy c s.locks) { s with locks := s.locks.map (leaveL c) } := rfl
  unfold rowD
  rw [e]
  cases hf : lfind k s.locks with
  | none =>
    rw [h1.1 (fun hm => by obtain ⟨l, h2, _⟩ := (heldBy_mem h.rise).1 hm; rw [hf] at h2; cases h2), hf]
    exact Meets.same (by simp [rowOf])
  | some l =>
    have hlk := h.each l (findK_some hf).2
    by_cases hc : l.holder = c
    · have h2 := h1.2 ((heldBy_mem h.rise).2 ⟨l, hf, hc⟩)
      rw [hf] at h2
      have h3 := rowOf_pass h2 h.tok0
      have e2 : (rowOf (some l)).leaves c = RowD.passes (rowOf ((some l).map (leaveL c))) := by
        unfold RowD.leaves
        rw [if_neg (by simp [rowOf, hc])]
        rfl
      rw [e2]
      exact h3
    · rw [h1.1 (fun hm => by obtain ⟨l', h2, h3⟩ := (heldBy_mem h.rise).1 hm; rw [hf] at h2; injection h2 with h2; exact hc (h2 ▸ h3)), hf]
      have e2 : (rowOf (some l)).leaves c = rowOf ((some l).map (leaveL c)) := by
        unfold RowD.leaves
        rw [if_pos (.inr (by simpa [rowOf] using hc))]
        rfl
      rw [e2]
      exact Meets.same (by have := hlk.t0; show l.token ≠ -1; omega)
theorem row_tok {s : StD} (h : LInv s.locks s.tok) (k : Txt) : 0 ≤ (rowD k s).token ∧ (rowD k s).token ≤ s.tok := by
  unfold rowD
  cases hf : lfind k s.locks with
  | none => exact ⟨Int.le_refl _, h.tok0⟩
  | some l =>
    have hl := h.each l (findK_some hf).2
    exact ⟨by have := hl.t0; show 0 ≤ l.token; omega, hl.t1⟩
theorem less_len {q : List Int} {c : Int} : (lessD q c).length < q.length ↔ c ∈ q := by
  unfold lessD
  induction q with
  | nil => simp
  | cons x r ih =>
    rw [List.filter_cons]
    by_cases hx : x = c
    · subst hx
      have := List.length_filter_le (fun y => !(y == x)) r
      simp
      omega
    · have e : (!(x == c)) = true := by simpa using hx
      rw [if_pos e]
      simp only [List.length_cons, Nat.add_lt_add_iff_right, ih, List.mem_cons]
      constructor
      · exact .inr
      · rintro (h | h)
        · exact absurd h.symm hx
        · exact h
theorem less_none {q : List Int} {c : Int} (h : c ∉ q) : lessD q c = q := List.filter_eq_self.2 fun x hx => by
  have : x ≠ c := fun e => h (e ▸ hx)
  simpa using this
section
variable {num : Txt → Int × Bool} {ita : Int → Txt} {s : StD} {c i r o : Int} {k v d : Txt}
theorem onLock_tok (h : LInv s.locks s.tok) : s.tok ≤ (onLockD num c o k v s).2.tok ∧ (onLockD num c o k v s).2.tok ≤ s.tok + 1 := by
  unfold onLockD
  split
  · split
    · split
      · exact ⟨Int.le_refl _, by show s.tok ≤ _; omega⟩
      · split
        · exact ⟨Int.le_refl _, by show s.tok ≤ _; omega⟩
        · exact ⟨by show s.tok ≤ s.tok + 1; omega, Int.le_refl _⟩
    · exact ⟨Int.le_refl _, by show s.tok ≤ _; omega⟩
  · split
    · split
      · exact ⟨Int.le_refl _, by show s.tok ≤ _; omega⟩
      · split
        · exact ⟨Int.le_refl _, by show s.tok ≤ _; omega⟩
        · exact ⟨Int.le_refl _, by show s.tok ≤ _; omega⟩
    · split
      · split
        · exact pass_tok k s
        · split
          · exact ⟨Int.le_refl _, by show s.tok ≤ _; omega⟩
          · exact ⟨Int.le_refl _, by show s.tok ≤ _; omega⟩
      · split
        · exact ⟨Int.le_refl _, by show s.tok ≤ _; omega⟩
        · exact ⟨Int.le_refl _, by show s.tok ≤ _; omega⟩
/-- Another name's row stays. -/
theorem onLock_other {k' : Txt} (hne : k' ≠ k) : lfind k' (onLockD num c o k v s).2.locks = lfind k' s.locks := by
  unfold onLockD
  cases hf : lfind k s.locks with
  | none =>
    simp only
    split
    · split
      · rfl
      · split
        · rfl
        · show findK LockD.name k' (insK LockD.name _ s.locks) = _
          rw [findK_ins (findK_none hf), if_neg (fun e => hne e.symm)]
    · rfl
  | some l =>
    obtain ⟨hn, hm⟩ := findK_some hf
    simp only
    split
    · split
      · rfl
      · split
        · rfl
        · show findK LockD.name k' (setK LockD.name _ s.locks) = _
          rw [findK_set (x := { l with queue := l.queue ++ [c] }) ⟨l, hm, rfl⟩, if_neg (fun e => hne (e.symm.trans hn))]
    · split
      · split
        · exact pass_other hne
        · split
          · show findK LockD.name k' (setK LockD.name _ s.locks) = _
            rw [findK_set (x := leaveL c l) ⟨l, hm, rfl⟩, if_neg (fun e => hne (e.symm.trans hn))]
          · rfl
      · split <;> rfl
theorem onKey_7 (r : RowD) (c code : Int) : r.onKey c 7 code = if r.held = true ∧ r.client = c then r.passes else { r with queue := lessD r.queue c } := by
  unfold RowD.onKey
  rw [if_neg (by omega), if_pos rfl]
theorem onLock_row (h : LInv s.locks s.tok) (hc : 0 ≤ c) (ht : s.tok < 99999999) : Meets s.tok (rowD k (onLockD num c o k v s).2) ((rowD k s).onKey c o (onLockD num c o k v s).1.code) := by
  have h0 := h.tok0
  unfold rowD onLockD
  cases hf : lfind k s.locks with
  | none =>
    simp only
    by_cases h6 : o = 6
    · simp only [h6, if_true]
      unfold RowD.onKey
      simp only [if_true]
      split
      · simp only
        rw [if_neg (by simp), if_neg (by simp [rowOf]), hf]
        exact Meets.same (by simp [rowOf])
      · rw [if_neg (by omega)]
        simp only
        rw [if_pos ⟨rfl, trivial⟩]
        have e : lfind k (insK LockD.name ⟨k, c, s.tok + 1, []⟩ s.locks) = some ⟨k, c, s.tok + 1, []⟩ := by
          show findK LockD.name k _ = _
          rw [findK_ins (findK_none hf), if_pos rfl]
        rw [e]
        exact ⟨-1, rfl, .inl ⟨rfl, by show s.tok < s.tok + 1; omega⟩⟩
    · rw [if_neg h6]
      simp only
      unfold RowD.onKey
      rw [if_neg h6, hf]
      split
      · rw [if_neg (by simp [rowOf])]
        exact Meets.same (by simp [rowOf])
      · exact Meets.same (by simp [rowOf])
  | some l =>
    obtain ⟨hn, hm⟩ := findK_some hf
    have hl := h.each l hm
    have hlt : l.token ≠ -1 := by have := hl.t0; omega
    simp only
    by_cases h6 : o = 6
    · simp only [h6, if_true]
      unfold RowD.onKey
      simp only [if_true]
      by_cases hh : l.holder = c
      · simp only [hh, if_true]
        rw [if_neg (by simp [rowOf]), if_neg (by simp [rowOf, hh]), hf]
        exact Meets.same hlt
      · rw [if_neg hh]
        by_cases hq : c ∈ l.queue
        · rw [if_pos hq]
          simp only
          rw [if_neg (by simp [rowOf]), if_neg (by have := (less_len (q := l.queue) (c := c)).2 hq; simp only [rowOf]; omega), hf]
          exact Meets.same hlt
        · rw [if_neg hq]
          simp only
          rw [if_neg (by simp [rowOf]), if_pos ⟨rfl, hh, fun h2 => hq (less_len.1 h2)⟩]
          have e : lfind k (setK LockD.name { l with queue := l.queue ++ [c] } s.locks) = some { l with queue := l.queue ++ [c] } := by
            show findK LockD.name k _ = _
            rw [findK_set (x := { l with queue := l.queue ++ [c] }) ⟨l, hm, rfl⟩, if_pos hn]
          rw [e]
          have e2 : lessD l.queue (-1) = l.queue := less_none fun h2 => by have := (hl.q _ h2).1; omega
          refine ⟨l.token, ?_, .inr ⟨rfl, hlt⟩⟩
          simp only [rowOf, e2]
    · rw [if_neg h6]
      by_cases h7 : o = 7
      · simp only [h7, if_true]
        rw [onKey_7]
        by_cases hh : l.holder = c
        · simp only [hh, if_true]
          rw [if_pos ⟨rfl, hh⟩]
          have h2 := pass_self (k := k) ht
          rw [hf] at h2
          exact rowOf_pass h2 h0
        · rw [if_neg hh, if_neg (show ¬((rowOf (some l)).held = true ∧ (rowOf (some l)).client = c) from fun h => hh h.2)]
          by_cases hq : c ∈ l.queue
          · rw [if_pos hq]
            simp only
            have e : lfind k (setK LockD.name (leaveL c l) s.locks) = some (leaveL c l) := by
              show findK LockD.name k _ = _
              rw [findK_set (x := leaveL c l) ⟨l, hm, rfl⟩, if_pos (show (leaveL c l).name = k from hn)]
            rw [e]
            exact ⟨l.token, rfl, .inr ⟨rfl, hlt⟩⟩
          · rw [if_neg hq]
            simp only
            rw [hf]
            refine ⟨l.token, ?_, .inr ⟨rfl, hlt⟩⟩
            simp only [rowOf, less_none hq]
      · rw [if_neg h7]
        unfold RowD.onKey
        rw [if_neg h6, if_neg h7]
        split <;> (simp only; rw [hf]; exact Meets.same hlt)
theorem onKey_rest : (onKeyD num ita o k v d s).2.locks = s.locks ∧ (onKeyD num ita o k v d s).2.tok = s.tok ∧ (onKeyD num ita o k v d s).2.ss = s.ss := by
  unfold onKeyD
  split
  · split
    · split <;> exact ⟨rfl, rfl, rfl⟩
    · exact ⟨rfl, rfl, rfl⟩
  · split
    · exact ⟨rfl, rfl, rfl⟩
    · split
      · split <;> exact ⟨rfl, rfl, rfl⟩
      · split
        · exact ⟨rfl, rfl, rfl⟩
        · split
          · split
            · exact ⟨rfl, rfl, rfl⟩
            · split <;> exact ⟨rfl, rfl, rfl⟩
          · exact ⟨rfl, rfl, rfl⟩
/-- What the operation does with a row. -/
theorem does_row (k' : Txt) (h : LInv s.locks s.tok) (hc : 0 ≤ c) (ho : 1 ≤ o ∧ o ≤ 9) (ht : s.tok + 8 ≤ 99999999) :
    Meets s.tok (rowD k' (doesD num ita c o k v d s).2) (if o = 9 ∧ (doesD num ita c o k v d s).1.code = 1 then (rowD k' s).leaves (num v).1 else if k ≠ k' then rowD k' s else (rowD k' s).onKey c o (doesD num ita c o k v d s).1.code) := by
  have hrt : (rowD k' s).token ≠ -1 := by have := (row_tok h k').1; omega
  unfold doesD
  by_cases h5 : o ≤ 5
  · rw [if_pos h5, if_neg (by omega)]
    have e : rowD k' (onKeyD num ita o k v d s).2 = rowD k' s := by unfold rowD; rw [onKey_rest.1]
    rw [e]
    split
    · exact Meets.same hrt
    · unfold RowD.onKey
      rw [if_neg (by omega), if_neg (by omega)]
      exact Meets.same hrt
  · rw [if_neg h5]
    by_cases h8 : o ≤ 8
    · rw [if_pos h8, if_neg (by omega)]
      by_cases hk : k = k'
      · subst hk
        rw [if_neg (by simp)]
        exact onLock_row h hc (by omega)
      · rw [if_pos hk]
        have e : rowD k' (onLockD num c o k v s).2 = rowD k' s := by unfold rowD; rw [onLock_other (fun e => hk e.symm)]
        rw [e]
        exact Meets.same hrt
    · rw [if_neg h8]
      have h9 : o = 9 := by omega
      unfold endD
      by_cases hz : (s.ss.getD (num v).1.toNat noSes).inc = 0
      · rw [if_pos hz]
        simp only
        rw [if_neg (by simp)]
        split
        · exact Meets.same hrt
        · unfold RowD.onKey
          rw [if_neg (by omega), if_neg (by omega)]
          exact Meets.same hrt
      · rw [if_neg hz]
        simp only
        rw [if_pos ⟨h9, trivial⟩]
        exact lets_row _ k' h ht
theorem does_tok (h : LInv s.locks s.tok) : s.tok ≤ (doesD num ita c o k v d s).2.tok ∧ (doesD num ita c o k v d s).2.tok ≤ s.tok + 8 := by
  unfold doesD
  split
  · rw [onKey_rest.2.1]
    omega
  · split
    · have := onLock_tok (num := num) (c := c) (o := o) (k := k) (v := v) h
      omega
    · unfold endD
      split
      · exact ⟨Int.le_refl _, by show s.tok ≤ _; omega⟩
      · exact lets_tok _ h
/-- A lock that was had: its holder, its token. -/
theorem lock_had (h : LInv s.locks s.tok) (h1 : (doesD num ita c 6 k v d s).1.code = 1) : ∃ l, lfind k (doesD num ita c 6 k v d s).2.locks = some l ∧ l.holder = c ∧ l.token = (doesD num ita c 6 k v d s).1.n := by
  have e : doesD num ita c 6 k v d s = onLockD num c 6 k v s := by unfold doesD; rw [if_neg (by omega), if_pos (by omega)]
  rw [e] at h1 ⊢
  unfold onLockD at h1 ⊢
  cases hf : lfind k s.locks with
  | none =>
    rw [hf] at h1
    simp only [if_true] at h1 ⊢
    split at h1
    · simp at h1
    · rename_i h8
      split at h1
      · simp at h1
      · rename_i h9
        rw [if_neg h8, if_neg h9]
        refine ⟨⟨k, c, s.tok + 1, []⟩, ?_, rfl, rfl⟩
        show findK LockD.name k (insK LockD.name _ s.locks) = _
        rw [findK_ins (findK_none hf), if_pos rfl]
  | some l =>
    rw [hf] at h1
    simp only [if_true] at h1 ⊢
    split at h1
    · rename_i hh
      rw [if_pos hh]
      exact ⟨l, hf, hh, rfl⟩
    · split at h1 <;> simp at h1
end
end Go.Proofs.YtggibajakcigaaaGreatDoor
namespace Go.Proofs.YtggibajakcigaaaGreatDoor
set_option linter.unusedVariables false
set_option linter.unusedSimpArgs false

theorem valid_nine {c i r : Int} {k v d : Txt} (h : validB c i r 9 k v d = true) : (numb v).2 = true := by
  obtain ⟨-, -, -, -, hf⟩ := valid_ok h
  have e : shapeTab.getD (9 : Int).toNat 0 = 32 := by decide
  have b2 : hasB 32 2 = false := by decide
  have b8 : hasB 32 8 = false := by decide
  have b16 : hasB 32 16 = false := by decide
  have b32 : hasB 32 32 = true := by decide
  rw [e] at hf
  unfold fitsB at hf
  rw [b2, b8, b16, b32] at hf
  split at hf
  · cases hf
  · split at hf
    · cases hf
    · simp at hf
      exact hf.1
section
variable {s : StD} {c i r o : Int} {k v d : Txt}
theorem Meets.trans_goes {g : Int} {a b : RowD} {s1 s2 : StD} {k' : Txt} {code : Int} (h1 : Meets g (rowD k' s1) b) (hg : 0 ≤ g) (hs : g ≤ s1.tok)
    (h2 : Meets s1.tok (rowD k' s2) (if o = 9 ∧ code = 1 then (rowD k' s1).leaves (numb v).1 else if k ≠ k' then rowD k' s1 else (rowD k' s1).onKey c o code)) :
    Meets g (rowD k' s2) (if o = 9 ∧ code = 1 then b.leaves (numb v).1 else if k ≠ k' then b else b.onKey c o code) := by
  by_cases h9 : o = 9 ∧ code = 1
  · rw [if_pos h9] at h2 ⊢
    exact Meets.step (fun r => r.leaves (numb v).1) (leaves_uni _) h1 (h2.lower hs) hg
  · rw [if_neg h9] at h2 ⊢
    by_cases hk : k ≠ k'
    · rw [if_pos hk] at h2 ⊢
      refine Meets.step (fun r => r) (fun r t => .inl ⟨r.queue, rfl, rfl⟩) h1 (h2.lower hs) hg
    · rw [if_neg hk] at h2 ⊢
      exact Meets.step (fun r => r.onKey c o code) (onKey_uni c o code) h1 (h2.lower hs) hg
/-- A new request. -/
theorem apply_row (hi : Inv s) (hv : validB c i r o k v d = true) {z : SesD} (hz : s.ss.getD c.toNat noSes = z) (hs : ¬ (z.inc > i ∨ (z.inc = i ∧ z.req > r))) (ha : ¬ (z.inc = i ∧ z.req = r)) (ht : s.tok + 16 ≤ 99999999) (k' : Txt) {anew : Bool} (hnew : anew = true ↔ 0 < z.inc ∧ z.inc < i) :
    Meets s.tok (rowD k' (applyD c i r o k v d s).2) (goesD rnum (rowD k' s) k' c o k v anew (applyD c i r o k v d s).1.code) ∧ s.tok ≤ (applyD c i r o k v d s).2.tok ∧ (applyD c i r o k v d s).2.tok ≤ s.tok + 16 := by
  have hV := vcmd_of hv
  have h0 := hi.lk.tok0
  have hc0 := hV.c0
  have hR : o = 9 → (rnum v).1 = (numb v).1 := fun h9 => by
    rw [rnum_eq]
    have h := valid_nine (h9 ▸ hv)
    rw [h]
    rfl
  have hG : ∀ (r : RowD) code, goesD rnum r k' c o k v anew code = (if o = 9 ∧ code = 1 then (if anew then r.leaves c else r).leaves (numb v).1 else if k ≠ k' then (if anew then r.leaves c else r) else (if anew then r.leaves c else r).onKey c o code) := fun r code => by
    unfold goesD
    by_cases h9 : o = 9 ∧ code = 1
    · simp only [if_pos h9, hR h9.1]
    · simp only [if_neg h9]
  rw [hG]
  unfold applyD
  rw [if_pos hv]
  unfold applyV
  simp only [hz]
  rw [if_neg hs, if_neg ha]
  by_cases hn : 0 < z.inc ∧ z.inc < i
  · rw [if_pos hn, hnew.2 hn]
    simp only [if_true]
    have h1 := lets_row c k' hi.lk (by omega)
    have ht1 := lets_tok c hi.lk
    have hi1 := hi.lk.lets c
    have h2 := does_row (num := numb) (ita := Lib.itoa) (o := o) (k := k) (v := v) (d := d) k' hi1 hc0 ⟨hV.o1, hV.o9⟩ (by omega)
    have ht2 := does_tok (num := numb) (ita := Lib.itoa) (c := c) (o := o) (k := k) (v := v) (d := d) hi1
    exact ⟨Meets.trans_goes (a := rowD k' s) h1 h0 ht1.1 h2, by show s.tok ≤ (doesD numb Lib.itoa c o k v d (letsD c s).2).2.tok; omega, by show (doesD numb Lib.itoa c o k v d (letsD c s).2).2.tok ≤ _; omega⟩
  · rw [if_neg hn]
    have e : anew = false := by
      cases anew
      · rfl
      · exact absurd (hnew.1 rfl) hn
    rw [e]
    simp only [Bool.false_eq_true, if_false]
    have h2 := does_row (num := numb) (ita := Lib.itoa) (o := o) (k := k) (v := v) (d := d) k' hi.lk hc0 ⟨hV.o1, hV.o9⟩ (by omega)
    have ht2 := does_tok (num := numb) (ita := Lib.itoa) (c := c) (o := o) (k := k) (v := v) (d := d) hi.lk
    exact ⟨h2, by show s.tok ≤ (doesD numb Lib.itoa c o k v d s).2.tok; omega, by show (doesD numb Lib.itoa c o k v d s).2.tok ≤ _; omega⟩
/-- A lock that was had. -/
theorem apply_had (hi : Inv s) (hv : validB c i r 6 k v d = true) {z : SesD} (hz : s.ss.getD c.toNat noSes = z) (hs : ¬ (z.inc > i ∨ (z.inc = i ∧ z.req > r))) (ha : ¬ (z.inc = i ∧ z.req = r)) (h1 : (applyD c i r 6 k v d s).1.code = 1) :
    holdD k (applyD c i r 6 k v d s).2 = ((c, i, (applyD c i r 6 k v d s).1.n), true) := by
  have hV := vcmd_of hv
  have hcl : c.toNat < s.ss.length := by rw [hi.s16]; have := hV.c0; have := hV.c1; omega
  have hss := (applyD_new (k := k) (v := v) (d := d) (o := 6) hi hv hz hs ha).1
  have hl : ∃ l, lfind k (applyD c i r 6 k v d s).2.locks = some l ∧ l.holder = c ∧ l.token = (applyD c i r 6 k v d s).1.n := by
    unfold applyD at h1 ⊢
    rw [if_pos hv] at h1 ⊢
    unfold applyV at h1 ⊢
    simp only [hz] at h1 ⊢
    rw [if_neg hs, if_neg ha] at h1 ⊢
    by_cases hn : 0 < z.inc ∧ z.inc < i
    · rw [if_pos hn] at h1 ⊢
      exact lock_had (num := numb) (ita := Lib.itoa) (hi.lk.lets c) h1
    · rw [if_neg hn] at h1 ⊢
      exact lock_had (num := numb) (ita := Lib.itoa) hi.lk h1
  obtain ⟨l, h2, h3, h4⟩ := hl
  unfold holdD
  rw [h2]
  simp only [h3, h4, hss]
  rw [getD_set_self hcl]
end
end Go.Proofs.YtggibajakcigaaaGreatDoor
namespace Go.Proofs.YtggibajakcigaaaGreatDoor
set_option linter.unusedVariables false
set_option linter.unusedSimpArgs false
open Go.RowKit

theorem Rd.intAt {w : World} {Z : Nat → Prop} {A : Option Addr} {n k : Nat} {l : List Int} (h : Rd w Z 1 A n (ics l)) (hk : k < n) :
    ∃ b o, A = some ⟨b, o, none⟩ ∧ Z b ∧ ∃ (hl : k < l.length), w.cell? ⟨b, o + k, none⟩ = some (.int .i64 l[k]) := by
  obtain ⟨b, o, hA, hz, hl, hc⟩ := h.at1 hk
  have hl2 : k < l.length := by simpa [ics] using hl
  exact ⟨b, o, hA, hz, hl2, by rw [hc]; simp [ics]⟩
theorem Rd.strAt {w : World} {Z : Nat → Prop} {A : Option Addr} {n k : Nat} {l : List Txt} (h : Rd w Z 1 A n (l.map str)) (hk : k < n) :
    ∃ b o, A = some ⟨b, o, none⟩ ∧ Z b ∧ ∃ (hl : k < l.length), w.cell? ⟨b, o + k, none⟩ = some (str l[k]) := by
  obtain ⟨b, o, hA, hz, hl, hc⟩ := h.at1 hk
  have hl2 : k < l.length := by simpa using hl
  exact ⟨b, o, hA, hz, hl2, by rw [hc]; simp⟩
theorem take_same {α : Type} {l m : List α} {k : Nat} (h : l.take k = m.take k) (hl : k < l.length) (hm : k < m.length) (he : l[k] = m[k]) : l.take (k + 1) = m.take (k + 1) := by
  rw [List.take_succ_eq_append_getElem hl, List.take_succ_eq_append_getElem hm, h, he]

/-! ### SameInts -/
set_option maxHeartbeats 400000 in
theorem sameints_any (Z1 Z2 : Nat → Prop) (A1 A2 : Option Addr) (n1 c1 n2 c2 : Nat) (l1 l2 : List Int) (w : World) (h1 : Rd w Z1 1 A1 n1 (ics l1)) (h2 : Rd w Z2 1 A2 n2 (ics l2)) (hn : n1 ≤ 1099511627770) (hn2 : n2 ≤ 1099511627770) :
    Calls Tryz.prog 12 #[.slice A1 n1 c1, .slice A2 n2 c2] w fun e w' => e = .returned (.bool (decide (l1 = l2))) ∧ ∃ k, w' = w.drewN k := by
  have hl1 : l1.length = n1 := by simpa [ics] using h1.1
  have hl2 : l2.length = n2 := by simpa [ics] using h2.1
  obtain ⟨r, hr⟩ : ∃ r, r = decide (l1 = l2) := ⟨_, rfl⟩
  rw [← hr]
  by_cases hne : n1 = n2
  · subst hne
    have HA := Lib.hid (And.intro h1 (And.intro h2 (And.intro hl1 (And.intro hl2 hr))))
    clear h1 h2 hl1 hl2 hr
    go_enter Tryz.func12, Tryz.ntmps12
    go_wp2
    go_loopw [5] (fun i wr => ∃ (k d : Nat), k ≤ n1 ∧ i = .int .i64 (k : Int) ∧ wr = w.drewN d ∧ Hid (l1.take k = l2.take k)) (fun i _ => n1 - (intOf i).toNat)
    case atStart => exact ⟨0, 0, Nat.zero_le _, rfl, rfl, rfl⟩
    case round =>
      obtain ⟨k, d, hk, rfl, rfl, HW⟩ := hrel
      by_cases hlt : k < n1
      · obtain ⟨b1, o1, rfl, -, g1, e1⟩ := HA.out.1.intAt hlt
        obtain ⟨b2, o2, rfl, -, g2, e2⟩ := HA.out.2.1.intAt hlt
        obtain ⟨x, hx⟩ : ∃ x, x = l1[k] := ⟨_, rfl⟩
        obtain ⟨y, hy⟩ : ∃ y, y = l2[k] := ⟨_, rfl⟩
        rw [← hx] at e1
        rw [← hy] at e2
        have HX := Lib.hid (And.intro hx hy)
        clear hx hy
        by_cases hxy : x = y
        · have hs := take_same HW.out g1 g2 (by rw [← HX.out.1, ← HX.out.2, hxy])
          have HS := Lib.hid hs
          clear hs HX HW g1 g2
          go_wp2_with fail
          go_quiet (fail)
          go_wp2_with fail
          exact ⟨⟨k + 1, _, by omega, congrArg _ (by omega), rfl, HS.out⟩, by simp [intOf]; omega⟩
        · have hf : r = false := by
            rw [HA.out.2.2.2.2]
            refine decide_eq_false fun h => hxy ?_
            subst h
            rw [HX.out.1, HX.out.2]
          clear HX HW g1 g2
          subst hf
          go_wp2_with fail
          go_quiet (fail)
          go_wp2_with fail
          go_ret
          exact ⟨rfl, _, World.drewN_drewN _ _ _⟩
      · obtain rfl : k = n1 := by omega
        have ht : r = true := by
          rw [HA.out.2.2.2.2]
          have := HW.out
          rw [List.take_of_length_le (by rw [HA.out.2.2.1]; exact Nat.le_refl _), List.take_of_length_le (by rw [HA.out.2.2.2.1]; exact Nat.le_refl _)] at this
          exact decide_eq_true this
        subst ht
        clear HW
        go_wp2_with fail
        go_ret
        exact ⟨rfl, _, rfl⟩
  · have hf : r = false := by
      rw [hr]
      exact decide_eq_false fun h => hne (by rw [← hl1, ← hl2, h])
    subst hf
    have hne' : ¬ ((n1 : Int) = (n2 : Int)) := by omega
    clear hr h1 h2 hl1 hl2
    go_enter Tryz.func12, Tryz.ntmps12
    go_wp2_with fail
    go_ret
    exact ⟨rfl, 0, rfl⟩

/-! ### sameNames -/
/-! ### less -/
theorem less_le (q : List Int) (x : Int) : (lessD q x).length ≤ q.length := List.length_filter_le _ _
theorem less_snoc (q : List Int) (x y : Int) : lessD (q ++ [y]) x = lessD q x ++ (if y = x then [] else [y]) := by
  unfold lessD
  rw [List.filter_append]
  by_cases h : y = x <;> simp [h]
set_option maxRecDepth 20000 in
theorem less_any (Z : Nat → Prop) (A : Option Addr) (n c : Nat) (q : List Int) (x : Int) (w : World) (h : Rd w Z 1 A n (ics q)) (hn : n ≤ 1000000) :
    Calls Tryz.prog 13 #[.slice A n c, .int .i64 x] w fun e w' => (∃ v, e = .returned v ∧ w'.ownsRow w.heap.size 3 1 v (lessD q x).length (ics (lessD q x))) ∧ Fresh w w' := by
  have hl : q.length = n := by simpa [ics] using h.1
  have HA := Lib.hid (And.intro (h.weaken (Z' := fun _ => True) fun _ _ => trivial) hl)
  clear h hl
  go_enter Tryz.func13, Tryz.ntmps13
  go_wp2_with fail
  go_loopw [5, 6] (fun v i wr => ∃ k : Nat, k ≤ n ∧ i = .int .i64 (k : Int) ∧ Hid (wr.ownsRow w.heap.size 3 1 v (lessD (q.take k) x).length (ics (lessD (q.take k) x)) ∧ Fresh w wr)) (fun _ i _ => n - (intOf i).toNat)
  case atStart => exact ⟨0, by omega, rfl, Lib.hid ⟨by exact World.ownsRow_nil _ _ _ _, Keep.refl _ _⟩⟩
  case round =>
    rename World => wr
    obtain ⟨k, hk, rfl, HR⟩ := hrel
    by_cases hlt : k < n
    · obtain ⟨b, o, rfl, -, hlk, e1⟩ := (HA.out.1.keep HR.out.2).intAt hlt
      obtain ⟨y, hy⟩ : ∃ y, y = q[k] := ⟨_, rfl⟩
      rw [← hy] at e1
      have HS : Hid (lessD (q.take (k + 1)) x = lessD (q.take k) x ++ (if y = x then [] else [y])) := Lib.hid (by rw [List.take_succ_eq_append_getElem hlk, ← hy, less_snoc])
      have hle : (lessD (q.take k) x).length ≤ 1000000 := by
        have := less_le (q.take k) x
        have := List.length_take_le k q
        omega
      clear hy hlk
      by_cases hyx : y = x
      · subst hyx
        have HS2 : Hid (lessD (q.take (k + 1)) y = lessD (q.take k) y) := Lib.hid (by rw [HS.out, if_pos rfl]; simp)
        clear HS hle
        go_wp2_with fail
        exact ⟨⟨k + 1, by omega, by simp, Lib.hid ⟨by rw [HS2.out]; exact HR.out.1, HR.out.2⟩⟩, by simp only [intOf]; omega⟩
      · have HS2 : Hid (lessD (q.take (k + 1)) x = lessD (q.take k) x ++ [y]) := Lib.hid (by rw [HS.out, if_neg hyx])
        have HL := Lib.hid hle
        clear HS hle
        go_wp2_with (at_builtin; refine wpList_app1 etInt2 rfl (.tmp 19) (.tmp 24) rfl (.int .i64 y) _ rfl w.heap.size _ (lessD (q.take k) x).length (ics (lessD (q.take k) x)) rfl rfl HR.out.1 (by have := HL.out; omega) HR.out.2.size ?_)
        intro v2 w2 ho2 hk2 hn2
        have H2 := Lib.hid (And.intro ho2 hk2)
        clear ho2 hk2 hn2
        go_wp2_with fail
        refine ⟨⟨k + 1, by omega, by simp, Lib.hid ⟨?_, HR.out.2.comp H2.out.2 (fun _ _ h => h) (fun i hi _ e => by have := (own_lt HR.out.1 e).1; omega)⟩⟩, by simp only [intOf]; omega⟩
        rw [HS2.out]
        have h1 := H2.out.1
        simpa [ics] using h1
    · obtain rfl : k = n := by omega
      go_wp2_with fail
      go_ret
      have h1 := HR.out.1
      rw [List.take_of_length_le (by rw [HA.out.2]; exact Nat.le_refl _)] at h1
      exact ⟨⟨_, rfl, h1⟩, HR.out.2⟩

/-! ### row -/
theorem rowA_one (a : Bool) (i j : Int) (q : Value) (h : q.oneCell' = true) : (#[.bool a, .int .i64 i, .int .i64 j, q] : Array Value).all (·.oneCell') = true := by
  simp [h, show (Value.bool a).oneCell' = true from rfl, show (Value.int IntKind.i64 i).oneCell' = true from rfl, show (Value.int IntKind.i64 j).oneCell' = true from rfl]
abbrev RowD.vals (r : RowD) (q : Value) : Array Value := #[.bool r.held, .int .i64 r.client, .int .i64 r.token, q]
/-- A row's value: its queue reads. -/
def RowV (w : World) (base : Nat) (r : RowD) (q : Value) : Prop := w.ownsRow base 3 1 q r.queue.length (ics r.queue)
theorem RowV.keep {w w' : World} {base : Nat} {r : RowD} {q : Value} (h : RowV w base r q) (hk : Fresh w w') : RowV w' base r q := own_keep h hk (fun _ _ => trivial)
theorem row_wait (k : Txt) (s : StD) : (waitD k s).map Prod.fst = (rowD k s).queue ∧ (holdD k s).2 = (rowD k s).held ∧ (holdD k s).1.1 = (rowD k s).client ∧ (holdD k s).1.2.2 = (rowD k s).token := by
  unfold waitD rowD holdD
  cases lfind k s.locks with
  | none => exact ⟨rfl, rfl, rfl, rfl⟩
  | some l => exact ⟨by simp [rowOf, Function.comp_def], rfl, rfl, rfl⟩
theorem wait_len {k : Txt} {s : StD} (h : LInv s.locks s.tok) : (waitD k s).length ≤ 16 := by
  unfold waitD
  cases hf : lfind k s.locks with
  | none => simp
  | some l =>
    have := h.each l (findK_some hf).2
    simpa using queue_len this.nd this.q
set_option maxRecDepth 20000 in
theorem row_any {B : Nat} {w : World} {F : Nat → Prop} {m : Nat} {s : StD} (h : MAt B w F m s) (k : Txt) (hk : k.length ≤ 1048576) :
    Calls Tryz.prog 6 #[.pointer (some ⟨m, 0, none⟩), str k] w fun e w' => (∃ q, e = .returned (.agg ((rowD k s).vals q)) ∧ RowV w' w.heap.size (rowD k s) q) ∧ Fresh w w' := by
  obtain ⟨g4, hg4⟩ : ∃ g, g = w.heap.size := ⟨_, rfl⟩
  obtain ⟨W, hW⟩ : ∃ W, W = w.alloc (.cells #[.bool false, .int .i64 0, .int .i64 0, .slice none 0 0] 30) := ⟨_, rfl⟩
  have hf0 : Fresh w W := hW ▸ (Keep.refl _ w).alloc _
  have hb0 : Blk W g4 30 #[.bool false, .int .i64 0, .int .i64 0, .slice none 0 0] := by rw [hW, hg4]; exact Blk.new _ _ _
  have hh := mat_holder (h.fresh hf0) k (by omega)
  obtain ⟨R, hR⟩ : ∃ R, R = rowD k s := ⟨_, rfl⟩
  obtain ⟨X, hX⟩ : ∃ X, X = waitD k s := ⟨_, rfl⟩
  obtain ⟨r1, r2, r3, r4⟩ := row_wait k s
  have hlen := wait_len (k := k) h.inv.lk
  rw [← hX] at r1 hlen
  rw [← hR] at r1 r2 r3 r4
  obtain ⟨⟨⟨z1, zi, z3⟩, zb⟩, hH⟩ : ∃ H, H = holdD k s := ⟨_, rfl⟩
  rw [← hH] at hh r2 r3 r4
  simp only at hh r2 r3 r4
  have HH := Lib.hid hh
  have H0 := Lib.hid (And.intro h (And.intro hf0 (And.intro hb0 (And.intro r1 (And.intro r2 (And.intro r3 r4))))))
  have HR := Lib.hid hR
  have HX := Lib.hid hX
  have HG4 : Hid (w.heap.size ≤ g4) := Lib.hid (by omega)
  clear h hf0 hb0 r1 r2 r3 r4 hH hh
  go_enter Tryz.func6, Tryz.ntmps6
  go_upto_region 1 with (fail)
  simp only [← hg4]
  rw [← hW]
  clear hW hg4 hR hX
  go_wp2_with fail
  refine Calls.mono HH.out ?_
  rintro e w1 ⟨rfl, hf1⟩
  have H1 := Lib.hid hf1
  clear hf1 HH
  go_wp2_with (refine wpList_store_new rfl (.tmp 5) (.tmp 14) rfl _ (holdA (z1, zi, z3)) _ rfl rfl rfl (by kernel_rfl) (by simp [Value.oneCell']) ?_)
  intro w2 hb2 hf2 hs2
  obtain ⟨g5, hg5⟩ : ∃ g, g = w1.heap.size := ⟨_, rfl⟩
  rw [← hg5] at hb2 ⊢
  have t0 := hb2.cell 0
  have t2 := hb2.cell 2
  simp at t0 t2
  have hl5 := hb2.lt
  have H2 := Lib.hid (H1.out.then hf2)
  clear hb2 hf2 hs2 hg5 H1
  go_wp2_with (refine wpList_store_new rfl (.tmp 7) (.tmp 21) rfl _ #[.bool zb, .int .i64 z1, .int .i64 z3, .slice none 0 0] _ rfl rfl rfl (by kernel_rfl) (by simp [Value.oneCell']) ?_)
  intro w3 hb3 hf3 hs3
  obtain ⟨g7, hg7⟩ : ∃ g, g = w2.heap.size := ⟨_, rfl⟩
  rw [← hg7] at hb3 ⊢
  have hf03 := (H0.out.2.1.then H2.out).then hf3
  have HW := Lib.hid (mat_waiting (H0.out.1.fresh hf03) k (by omega))
  have hb4 := (H0.out.2.2.1.keep H2.out trivial).keep hf3 trivial
  have H47 : Hid (g4 ≠ g7) := Lib.hid (by have := (H0.out.2.2.1.keep H2.out trivial).lt; omega)
  have HG7 : Hid (w.heap.size ≤ g7) := Lib.hid (by have := (H0.out.2.1.then H2.out).size; omega)
  have H3 := Lib.hid (And.intro hf03 (And.intro hb3 hb4))
  clear t0 t2 hl5 hb3 hf3 hs3 hg7 hf03 hb4 H2
  go_wp2_with fail
  refine Calls.mono HW.out ?_
  rintro e w4 ⟨⟨v8, rfl, hv8⟩, hf4⟩
  rw [← HX.out] at hv8
  obtain ⟨A8, c8, rfl, hrd8, -⟩ := own_rd hv8
  have H4 := Lib.hid (And.intro (H3.out.1.then hf4) (And.intro (H3.out.2.1.keep hf4 trivial) (And.intro (H3.out.2.2.keep hf4 trivial) (own_base hv8 H3.out.1.size))))
  clear hv8 hf4 hrd8 HW H3
  go_wp2_with fail
  go_loopw [9] (fun iv wr => ∃ j : Nat, j ≤ X.length ∧ iv = .int .i64 (j : Int) ∧ Hid (∃ qv, Blk wr g7 30 #[.bool zb, .int .i64 z1, .int .i64 z3, qv] ∧ wr.ownsRow w.heap.size 3 1 qv j (ics ((X.take j).map Prod.fst)) ∧ wr.ownsRow w.heap.size 69 2 (.slice A8 X.length c8) X.length (wcells X) ∧ Fresh w wr ∧ Blk wr g4 30 #[.bool false, .int .i64 0, .int .i64 0, .slice none 0 0])) (fun i _ => X.length - (intOf i).toNat)
  case atStart => exact ⟨0, by omega, rfl, Lib.hid ⟨_, H4.out.2.1, by exact World.ownsRow_nil _ _ _ _, H4.out.2.2.2, H4.out.1, H4.out.2.2.1⟩⟩
  case round =>
    rename World => wr
    obtain ⟨j, hj, rfl, HW⟩ := hrel
    obtain ⟨qv, hbk, hoq, how, hfw, hb4⟩ := HW.out
    by_cases hlt : j < X.length
    · obtain ⟨A, cw, e8, hrd, -⟩ := own_rd how
      injection e8 with e8 _ ec
      subst e8 ec
      obtain ⟨b8, o8, rfl, -, hcell⟩ := hrd.2 (by omega)
      obtain ⟨x, hx⟩ : ∃ x, x = (X[j]).1 := ⟨_, rfl⟩
      have hc8 : wr.cell? ⟨b8, o8 + j * 2, none⟩ = some (.int .i64 x) := by
        refine hcell (j * 2) _ ?_
        have := rcells_get (f := waitC) (c := 2) (fun _ => rfl) X j hlt 0 (by omega)
        rw [Nat.add_zero] at this
        rw [this, hx]
        rfl
      have h3 := hbk.cell 3
      simp at h3
      have hqk : qv.ownBlock ≠ some g7 := own_ne_blk hoq hbk (by decide)
      have hq4 : qv.ownBlock ≠ some g4 := own_ne_blk hoq hb4 (by decide)
      have hl7 := hbk.lt
      have hl8 := lt_of_cell hc8
      have hji : (j : Int) < (X.length : Int) := by omega
      have HT : Hid (((X.take (j + 1)).map Prod.fst) = (X.take j).map Prod.fst ++ [x]) := Lib.hid (by rw [List.take_succ_eq_append_getElem hlt, List.map_append, hx]; rfl)
      have hkA : Fresh wr (wr.drew.alloc (.cells #[.int .i64 x] 3)) := ((Keep.refl (fun _ => True) wr).drew).alloc _
      have hoA := own_keep hoq hkA (fun _ _ => trivial)
      have fA : (wr.drew.alloc (.cells #[.int .i64 x] 3)).frozen? ⟨g7, 3, none⟩ = false := (hkA.frozen (p := ⟨g7, 3, none⟩) hl7 trivial).trans (hbk.frozen 3)
      have cA := hkA.cellAt h3 trivial
      have lA : g7 < (wr.drew.alloc (.cells #[.int .i64 x] 3)).heap.size := Nat.lt_of_lt_of_le hl7 hkA.size
      have HF := Lib.hid (And.intro hoA (And.intro hqk (And.intro cA (And.intro fA (And.intro lA (And.intro (show (j + 1) * 8 ≤ 140737488355328 by omega) (Nat.le_trans hfw.size hkA.size)))))))
      have HB := Lib.hid (And.intro hbk (And.intro hoq (And.intro how (And.intro hfw hb4))))
      clear hkA hoA fA cA lA hqk hq4 hbk hoq how hfw hb4 hx hrd hcell HW
      go_upto_region 7 with (fail)
      go_region_law (first
        | (refine step_app etInt2 rfl (.tmp 32) (.tmp 38) rfl w.heap.size qv j _ rfl HF.out.1 _ (some ⟨wr.heap.size, 0, none⟩) 1 _ [.int .i64 x] rfl (Rd.one_of (Blk.new _ _ _) rfl) (fun h => by cases h) (by simp [Value.oneCell']) HF.out.2.2.2.2.2.1 HF.out.2.2.2.2.2.2 ?_
           intro v4 w4 ho4 hk4 hn4
           obtain ⟨A4, c4, rfl, -⟩ := own_rd ho4
           have u3 := hk4.cellAt HF.out.2.2.1 HF.out.2.1
           have tf : w4.frozen? ⟨g7, 3, none⟩ = false := (hk4.frozen (p := ⟨g7, 3, none⟩) HF.out.2.2.2.2.1 HF.out.2.1).trans HF.out.2.2.2.1
           have tl : g7 < w4.heap.size := Nat.lt_of_lt_of_le HF.out.2.2.2.2.1 hk4.size
           have H5 := Lib.hid (And.intro ho4 (And.intro hk4 hn4))
           clear ho4 hk4 hn4))
      all_goals
        go_wp2_with fail
        obtain ⟨ho4, hk4, -⟩ := H5.out
        have hk : Keep (fun k => qv.ownBlock ≠ some k) wr w4 := (((Keep.refl (fun _ => True) wr).drew).alloc (.cells #[.int .i64 x] 3)).comp hk4 (fun _ _ _ => trivial) (fun _ _ h => h)
        have hqk := HF.out.2.1
        have hbk4 := HB.out.1.keep hk hqk
        have hV : (Value.slice A4 (j + 1) c4).ownBlock ≠ some g7 := own_ne_blk ho4 hbk4 (by decide)
        have how4 := own_keep HB.out.2.2.1 hk (fun k hk => own_apart HB.out.2.2.1 HB.out.2.1 (by decide) hk)
        have hb44 := HB.out.2.2.2.2.keep hk (own_ne_blk HB.out.2.1 HB.out.2.2.2.2 (by decide))
        refine ⟨⟨j + 1, by omega, by simp, Lib.hid ⟨_, hbk4.set 3 _, ?_, own_far how4 (p := ⟨g7, 3, none⟩) (own_ne_blk (e := 69) (t := 30) how4 hbk4 (by decide)) _, ?_, hb44.far H47.out _⟩⟩, by simp only [intOf]; omega⟩
        · rw [HT.out]
          have h1 := own_far ho4 (p := ⟨g7, 3, none⟩) hV (Value.slice A4 (j + 1) c4)
          simpa [ics] using h1
        · exact (HB.out.2.2.2.1.comp hk (fun _ _ h => h) (fun i hi _ e => by have := (own_lt HB.out.2.1 e).1; omega)).setCell (fun hh _ => by have := HG7.out; simp at hh; omega) _
    · obtain rfl : j = X.length := by omega
      have k0 := hbk.cell 0
      have k1 := hbk.cell 1
      have k2 := hbk.cell 2
      have k3 := hbk.cell 3
      simp at k0 k1 k2 k3
      have hl7 := hbk.lt
      have HT4 := Lib.hid hb4.there
      have HE := Lib.hid (And.intro hoq (And.intro hfw hb4))
      obtain ⟨Aq, cq, rfl, -⟩ := own_rd hoq
      clear hbk hoq how hfw hb4 HW
      go_wp2_with (refine wpList_store_to rfl 30 (.tmp 4) (.tmp 41) rfl g4 0 #[.bool zb, .int .i64 z1, .int .i64 z3, .slice Aq X.length cq] rfl rfl HT4.out (by kernel_rfl) (rowA_one _ _ _ _ rfl) ?_)
      intro w6 hw6
      have hb6 : Blk w6 g4 30 #[.bool zb, .int .i64 z1, .int .i64 z3, .slice Aq X.length cq] := by
        rw [hw6.out]
        exact HE.out.2.2.whole rfl
      have hk6 : Keep (fun j => j ≠ g4) wr w6 := by rw [hw6.out]; exact Keep.setCells _ _ _ (Keep.refl _ wr) (fun _ e => e rfl)
      have H6 := Lib.hid (And.intro hb6 hk6)
      have hne4 : (Value.slice Aq X.length cq).ownBlock ≠ some g4 := own_ne_blk HE.out.1 HE.out.2.2 (by decide)
      have HN4 := Lib.hid hne4
      clear k0 k1 k2 k3 hl7 hw6 hb6 hk6 hne4 HT4
      go_wp2_with fail
      refine bodyPost_ret (results_one rfl _ _ g4 30 #[.bool zb, .int .i64 z1, .int .i64 z3, .slice Aq X.length cq] _ rfl H6.out.1 Tryz.underlying30 rfl (by kernel_rfl)) rfl ?_
      obtain ⟨-, -, -, r1, r2, r3, r4⟩ := H0.out
      have e1 := own_keep HE.out.1 H6.out.2 (fun k hk e => HN4.out (e ▸ hk))
      rw [List.take_length, r1] at e1
      have e2 : X.length = R.queue.length := by rw [← r1, List.length_map]
      rw [← HR.out]
      refine ⟨⟨_, by rw [r2, r3, r4], ?_⟩, HE.out.2.1.comp H6.out.2 (fun _ _ h => h) (fun i hi _ e => by have := HG4.out; omega)⟩
      unfold RowV
      rw [← e2]
      exact e1
end Go.Proofs.YtggibajakcigaaaGreatDoor
