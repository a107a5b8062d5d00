/-
  MERGED: Rise
-/
import Derived.WideAt
import Derived.WideShapes
namespace Go.Proofs.YtioinjcdkmiafaaDoor
set_option linter.unusedVariables false
set_option linter.unusedSimpArgs false
abbrev Txt := List UInt8
def Rise (ks : List Txt) : Prop := ks.Pairwise fun a b => bytesBefore a b = true
theorem before_irrefl (a : Txt) : bytesBefore a a = false := WideAt.bytes_irrefl a
theorem before_trans {a b c : Txt} (h : bytesBefore a b = true) (k : bytesBefore b c = true) : bytesBefore a c = true := WideShapes.bytes_trans a b c h k
theorem before_ne {a b : Txt} (h : bytesBefore a b = true) : a ≠ b := by
  rintro rfl
  rw [before_irrefl] at h
  cases h
theorem before_not {a b : Txt} (h : bytesBefore a b = false) (hne : a ≠ b) : bytesBefore b a = true := by
  rcases WideAt.bytes_total a b hne with h1 | h1
  · rw [h1] at h; cases h
  · exact h1
theorem before_asymm {a b : Txt} (h : bytesBefore a b = true) : bytesBefore b a = false := by
  cases hb : bytesBefore b a with
  | false => rfl
  | true => exact absurd (before_trans h hb) (by rw [before_irrefl]; simp)
theorem Rise.nodup {ks : List Txt} (h : Rise ks) : ks.Nodup := h.imp before_ne
section
variable {α : Type} (key : α → Txt)
def findK (k : Txt) (l : List α) : Option α := l.find? fun x => key x == k
def insK (x : α) : List α → List α
  | [] => [x]
  | y :: r => if bytesBefore (key x) (key y) = true then x :: y :: r else y :: insK x r
def setK (x : α) (l : List α) : List α := l.map fun y => if key y == key x then x else y
def delK (k : Txt) (l : List α) : List α := l.filter fun x => !(key x == k)
variable {key}
theorem findK_some {k : Txt} {l : List α} {x : α} (h : findK key k l = some x) : key x = k ∧ x ∈ l := ⟨by simpa using List.find?_some h, List.mem_of_find?_eq_some h⟩
theorem findK_none {k : Txt} {l : List α} (h : findK key k l = none) : ∀ x ∈ l, key x ≠ k := fun x hx => by simpa using List.find?_eq_none.1 h x hx
theorem findK_of {k : Txt} {l : List α} {x : α} (hr : Rise (l.map key)) (hx : x ∈ l) (hk : key x = k) : findK key k l = some x := by
  induction l with
  | nil => cases hx
  | cons y r ih =>
    unfold findK
    rw [List.find?_cons]
    by_cases hy : key y = k
    · have : (key y == k) = true := by simp [hy]
      rw [this]
      rcases List.mem_cons.1 hx with rfl | h1
      · rfl
      · exfalso
        have h2 := (List.pairwise_cons.1 hr).1 (key x) (List.mem_map_of_mem h1)
        rw [hy, hk, before_irrefl] at h2
        cases h2
    · have : (key y == k) = false := by simp [hy]
      rw [this]
      rcases List.mem_cons.1 hx with rfl | h1
      · exact absurd hk hy
      · exact ih (List.pairwise_cons.1 hr).2 h1
theorem insK_mem {x z : α} : ∀ {l : List α}, z ∈ insK key x l ↔ z = x ∨ z ∈ l
  | [] => by simp [insK]
  | y :: r => by
    unfold insK
    split
    · simp
    · rw [List.mem_cons, insK_mem, List.mem_cons]
      constructor
      · rintro (h | h | h)
        · exact .inr (.inl h)
        · exact .inl h
        · exact .inr (.inr h)
      · rintro (h | h | h)
        · exact .inr (.inl h)
        · exact .inl h
        · exact .inr (.inr h)
theorem insK_len (x : α) : ∀ l : List α, (insK key x l).length = l.length + 1
  | [] => rfl
  | y :: r => by
    unfold insK
    split
    · rfl
    · simp [insK_len x r]
theorem insK_rise {x : α} : ∀ {l : List α}, Rise (l.map key) → (∀ y ∈ l, key y ≠ key x) → Rise ((insK key x l).map key)
  | [], _, _ => by simp [insK, Rise]
  | y :: r, hr, hn => by
    unfold insK
    obtain ⟨h1, h2⟩ := List.pairwise_cons.1 hr
    split
    · rename_i hb
      refine List.pairwise_cons.2 ⟨fun k hk => ?_, hr⟩
      rcases List.mem_cons.1 hk with rfl | hk
      · exact hb
      · exact before_trans hb (h1 k hk)
    · rename_i hb
      have hb' : bytesBefore (key y) (key x) = true := before_not (by simpa using hb) (fun e => hn y (by simp) e.symm)
      refine List.pairwise_cons.2 ⟨fun k hk => ?_, insK_rise h2 (fun z hz => hn z (by simp [hz]))⟩
      obtain ⟨z, hz, rfl⟩ := List.mem_map.1 hk
      rcases insK_mem.1 hz with rfl | hz
      · exact hb'
      · exact h1 _ (List.mem_map_of_mem hz)
theorem setK_keys (x : α) (l : List α) : (setK key x l).map key = l.map key := by
  unfold setK
  rw [List.map_map]
  refine List.map_congr_left fun y _ => ?_
  show key (if key y == key x then x else y) = key y
  split
  · rename_i h
    exact (by simpa using h : key y = key x).symm
  · rfl
theorem setK_len (x : α) (l : List α) : (setK key x l).length = l.length := by simp [setK]
theorem setK_mem {x z : α} {l : List α} (h : z ∈ setK key x l) : z = x ∨ (z ∈ l ∧ key z ≠ key x) := by
  obtain ⟨y, hy, rfl⟩ := List.mem_map.1 h
  split
  · exact .inl rfl
  · rename_i hk
    exact .inr ⟨hy, by simpa using hk⟩
theorem delK_mem {k : Txt} {z : α} {l : List α} : z ∈ delK key k l ↔ z ∈ l ∧ key z ≠ k := by simp [delK]
theorem delK_rise {k : Txt} {l : List α} (h : Rise (l.map key)) : Rise ((delK key k l).map key) := List.Pairwise.sublist (List.Sublist.map _ List.filter_sublist) h
theorem delK_len (k : Txt) (l : List α) : (delK key k l).length ≤ l.length := List.length_filter_le _ _
theorem delK_none {k : Txt} {l : List α} (h : ∀ x ∈ l, key x ≠ k) : delK key k l = l := List.filter_eq_self.2 fun x hx => by simp [h x hx]
theorem findK_set {k : Txt} {x : α} {l : List α} (hx : ∃ y ∈ l, key y = key x) : findK key k (setK key x l) = if key x = k then some x else findK key k l := by
  unfold findK setK
  induction l with
  | nil => obtain ⟨y, hy, _⟩ := hx; cases hy
  | cons y r ih =>
    rw [List.map_cons, List.find?_cons, List.find?_cons]
    by_cases hy : key y = key x
    · have e1 : (key y == key x) = true := by simp [hy]
      rw [e1]
      simp only [if_true]
      by_cases hk : key x = k
      · have e2 : (key x == k) = true := by simp [hk]
        rw [e2, if_pos hk]
      · have e2 : (key x == k) = false := by simp [hk]
        have e3 : (key y == k) = false := by rw [hy]; exact e2
        rw [e2, if_neg hk, e3]
        by_cases hr : ∃ z ∈ r, key z = key x
        · rw [ih hr, if_neg hk]
        · have : (r.map fun y => if key y == key x then x else y) = r := by
            rw [List.map_congr_left (g := id) (fun z hz => ?_), List.map_id]
            have : key z ≠ key x := fun e => hr ⟨z, hz, e⟩
            simp [this]
          rw [this]
    · have e1 : (key y == key x) = false := by simp [hy]
      rw [e1]
      simp only [Bool.false_eq_true, if_false]
      have hr : ∃ z ∈ r, key z = key x := by
        obtain ⟨z, hz, e⟩ := hx
        rcases List.mem_cons.1 hz with rfl | hz
        · exact absurd e hy
        · exact ⟨z, hz, e⟩
      cases hk : key y == k with
      | true =>
        have hyk : key y = k := by simpa using hk
        rw [if_neg (fun e => hy (hyk.trans e.symm))]
      | false => exact ih hr
theorem findK_del {k k' : Txt} {l : List α} : findK key k' (delK key k l) = if k' = k then none else findK key k' l := by
  unfold findK delK
  rw [List.find?_filter]
  split
  · rename_i h
    subst h
    rw [List.find?_eq_none]
    intro x _
    simp
  · rename_i h
    congr 1
    funext x
    by_cases hx : key x = k'
    · simp [hx, h]
    · simp [hx]
theorem findK_ins {k : Txt} {x : α} : ∀ {l : List α}, (∀ y ∈ l, key y ≠ key x) → findK key k (insK key x l) = if key x = k then some x else findK key k l
  | [], _ => by
    unfold insK findK
    rw [List.find?_cons]
    by_cases hk : key x = k
    · simp [hk]
    · have : (key x == k) = false := by simp [hk]
      rw [this, if_neg hk]
  | y :: r, hn => by
    have ih := findK_ins (k := k) (x := x) (l := r) (fun z hz => hn z (by simp [hz]))
    unfold insK
    by_cases hk : key x = k
    · rw [if_pos hk] at ih ⊢
      have hyk : (key y == k) = false := by
        have := hn y (by simp)
        simp only [beq_eq_false_iff_ne]
        exact fun e => this (e.trans hk.symm)
      split
      · unfold findK
        rw [List.find?_cons]
        simp [hk]
      · unfold findK at ih ⊢
        rw [List.find?_cons, hyk]
        exact ih
    · rw [if_neg hk] at ih ⊢
      have hxk : (key x == k) = false := by simp [hk]
      split
      · unfold findK
        rw [List.find?_cons, hxk]
      · unfold findK at ih ⊢
        rw [List.find?_cons, List.find?_cons]
        cases key y == k
        · exact ih
        · rfl
/-- Two rising lists of the same elements are one. -/
theorem rise_ext : ∀ {l m : List α}, Rise (l.map key) → Rise (m.map key) → (∀ x, x ∈ l ↔ x ∈ m) → l = m
  | [], [], _, _, _ => rfl
  | [], y :: r, _, _, h => absurd ((h y).2 (by simp)) (by simp)
  | x :: r, [], _, _, h => absurd ((h x).1 (by simp)) (by simp)
  | x :: r, y :: s, h1, h2, h => by
    obtain ⟨a1, a2⟩ := List.pairwise_cons.1 h1
    obtain ⟨b1, b2⟩ := List.pairwise_cons.1 h2
    have hxy : x = y := by
      rcases List.mem_cons.1 ((h x).1 (by simp)) with e | hx
      · exact e
      · rcases List.mem_cons.1 ((h y).2 (by simp)) with e | hy
        · exact e.symm
        · have c1 := b1 _ (List.mem_map_of_mem (f := key) hx)
          have c2 := a1 _ (List.mem_map_of_mem (f := key) hy)
          rw [before_asymm c1] at c2
          cases c2
    subst hxy
    congr 1
    refine rise_ext a2 b2 fun z => ?_
    have hz := h z
    rw [List.mem_cons, List.mem_cons] at hz
    have n1 : x ∉ r := fun hx => by
      have := a1 _ (List.mem_map_of_mem (f := key) hx)
      rw [before_irrefl] at this
      cases this
    have n2 : x ∉ s := fun hx => by
      have := b1 _ (List.mem_map_of_mem (f := key) hx)
      rw [before_irrefl] at this
      cases this
    constructor
    · intro hr
      rcases hz.1 (.inr hr) with e | h3
      · subst e; exact absurd hr n1
      · exact h3
    · intro hs
      rcases hz.2 (.inr hs) with e | h3
      · subst e; exact absurd hs n2
      · exact h3
end
end Go.Proofs.YtioinjcdkmiafaaDoor
