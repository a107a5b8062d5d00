/-
  MERGED: SrvJ
-/
import Derived.Test.YtohnmaindbgngaaGreatDoorQV
import Derived.Test.YtohnmaindbgngaaGreatDoorQW
namespace Go.Proofs.YtohnmaindbgngaaGreatDoor
set_option linter.unusedVariables false
set_option linter.unusedSimpArgs false
open Go.RowKit Go.Shelf

def badQ : MkV := ⟨badR, .slice none 0 0, .slice none 0 0, .slice none 0 0⟩
theorem dsOf_memS {hs ks : List MkV} (h : dsOf ks = dsOf hs) {x : MkV} (hx : x ∈ ks) : ∃ y ∈ hs, y.d = x.d := by
  have h1 : x.d ∈ dsOf ks := List.mem_map_of_mem hx
  rw [h] at h1
  exact List.mem_map.1 h1
/-- The copies, as marks. -/
structure CopsS (wr : World) (B : Nat) (v : Value) (n : Nat) (ds : List MarkD) (ks : List MkV) : Prop where
  own : wr.ownsRow B 51 26 v n (mcells ks)
  len : ks.length = n
  le : n ≤ 1048576
  same : dsOf ks = ds
  one : ∀ h ∈ ks, MkOne h
  rows : ∀ h ∈ ks, MkOk wr (fun _ => True) h
  fit : ∀ h ∈ ks, MkFit h.d
  ints : ∀ h ∈ ks, MkInt h.d
  cmds : ∀ h ∈ ks, InC h.d.cmd
theorem CopsS.of {w wr : World} {hs ks : List MkV} {n : Nat} {v : Value} (h : Cop2 w wr hs n v ks) (hl : hs.length = n) (hle : n ≤ 1048576) (hf : ∀ x ∈ hs, MkFit x.d) (hi : ∀ x ∈ hs, MkInt x.d) (hc : ∀ x ∈ hs, InC x.d.cmd) : CopsS wr w.heap.size v n (dsOf hs) ks := by
  have hs0 : dsOf ks = dsOf hs := by rw [h.same, ← hl, List.take_length]
  refine ⟨h.own, h.len, hle, hs0, h.one, fun x hx => (h.rows x hx).ok, fun x hx => ?_, fun x hx => ?_, fun x hx => ?_⟩
  · obtain ⟨y, hy, e⟩ := dsOf_memS hs0 hx
    rw [← e]; exact hf y hy
  · obtain ⟨y, hy, e⟩ := dsOf_memS hs0 hx
    rw [← e]; exact hi y hy
  · obtain ⟨y, hy, e⟩ := dsOf_memS hs0 hx
    rw [← e]; exact hc y hy
theorem CopsS.fresh {w w' : World} {B : Nat} {v : Value} {n : Nat} {ds : List MarkD} {ks : List MkV} (h : CopsS w B v n ds ks) (hk : Fresh w w') : CopsS w' B v n ds ks :=
  ⟨own_keep h.own hk (fun _ _ => trivial), h.len, h.le, h.same, h.one, fun x hx => (h.rows x hx).keep hk, h.fit, h.ints, h.cmds⟩
theorem CopsS.bad {w w' : World} {B : Nat} {v v' : Value} {n : Nat} {ds : List MarkD} {ks : List MkV} (h : CopsS w B v n ds ks) (hn : n ≤ 1048575) (ho : w'.ownsRow B 51 26 v' (n + 1) (mcells ks ++ badQ.cells)) (hr : ∀ x ∈ ks, MkOk w' (fun _ => True) x) : CopsS w' B v' (n + 1) (ds ++ [badR]) (ks ++ [badQ]) := by
  have key : ∀ {p : MkV → Prop}, (∀ x ∈ ks, p x) → p badQ → ∀ x ∈ ks ++ [badQ], p x := fun h1 h2 x hx => by
    rcases List.mem_append.1 hx with h3 | h3
    · exact h1 x h3
    · simp at h3; subst h3; exact h2
  have z : I64 0 := ⟨by decide, by decide⟩
  refine ⟨by rw [mcells_snoc] at ho; exact ho, by simp [h.len], by omega, ?_, key h.one ⟨rfl, rfl, rfl⟩, key hr ?_, key h.fit ⟨by decide, by decide, by decide, by decide, by decide⟩, key h.ints ⟨z, z, z, z, z, z, z, z, fun y hy => by cases hy⟩, key h.cmds ⟨⟨by decide, by decide⟩, z, z, z, by decide, by decide, by decide⟩⟩
  · have e : dsOf (ks ++ [badQ]) = dsOf ks ++ [badR] := by unfold dsOf; rw [List.map_append]; rfl
    rw [e, h.same]
  · have s : ∀ k, SlOk w' (fun _ => True) k 0 (.slice none 0 0) [] := fun k => ⟨none, 0, rfl, Nat.le_refl _, fun _ => .inl rfl, Rd.nil _ _ _ _⟩
    exact ⟨s 3, s 1, s 1⟩
theorem rcells_takeS {α : Type} {f : α → List Value} {c : Nat} (hc : ∀ a, (f a).length = c) : ∀ (xs : List α) (k : Nat), rcells f (xs.take k) = (rcells f xs).take (k * c)
  | [], k => by simp [rcells]
  | x :: r, 0 => by simp [rcells]
  | x :: r, k + 1 => by
    have e1 : rcells f (x :: r) = f x ++ rcells f r := by simp [rcells]
    have e2 : rcells f ((x :: r).take (k + 1)) = f x ++ rcells f (r.take k) := by simp [rcells]
    have e3 : (f x).take ((k + 1) * c) = f x := List.take_of_length_le (by rw [hc, Nat.succ_mul]; omega)
    rw [e1, e2, rcells_takeS hc r k, List.take_append, hc, e3, show (k + 1) * c - c = k * c from by rw [Nat.succ_mul]; omega]
theorem Rd.take26S {w : World} {Z : Nat → Prop} {size n k : Nat} {A : Option Addr} {xs : List Value} (h : Rd w Z size A n xs) (hk : k ≤ n) : Rd w Z size A k (xs.take (k * size)) := by
  refine ⟨by rw [List.length_take, h.1]; exact Nat.min_eq_left (Nat.mul_le_mul_right size hk), fun hn => ?_⟩
  obtain ⟨b, o, e, hz, hc⟩ := h.2 (by omega)
  refine ⟨b, o, e, hz, fun j u hu => hc j u ?_⟩
  rw [List.getElem?_take] at hu
  split at hu
  · exact hu
  · cases hu
theorem crow_appS {w5 w6 : World} {B B' n : Nat} {v5 : Value} {xs : List Value} (ho : w5.ownsRow B 51 26 v5 n xs) (hk : Keep (fun k => v5.ownBlock ≠ some k) w5 w6) {x : MkV} (h : CRow w5 B' x) : CRow w6 B' x := h.keep hk fun k ⟨cs, t, hh, ht⟩ e => by
  rcases ho.2 with ⟨rfl, _⟩ | ⟨g, cap, cur, rfl, _, hg, _⟩
  · simp [Value.ownBlock] at e
  · simp [Value.ownBlock] at e
    subst e
    rw [hg] at hh
    injection hh with hh
    injection hh with _ h2
    subst h2
    revert ht
    decide
abbrev V2S := Int × Int
theorem ver_neS {x y : V2S} (h : x ≠ y) : (x.1 == y.1) = false ∨ (x.1 = y.1 ∧ (x.2 == y.2) = false) := by
  obtain ⟨a, b⟩ := x
  obtain ⟨a', b'⟩ := y
  by_cases e1 : a = a'
  · exact .inr ⟨e1, by simpa using fun e2 => h (by rw [e1, e2])⟩
  · exact .inl (by simpa using e1)
theorem eqverS (x y : V2S) (w : World) : Sem.run Tryz.prog (binOp BinOp.eql 29 (.agg #[.int .i64 x.1, .int .i64 x.2]) (.agg #[.int .i64 y.1, .int .i64 y.2])) w = .ok (.bool (decide (x = y))) w := by
  by_cases h : x = y
  · subst h
    rw [decide_eq_true rfl]
    go_simp
  · rw [decide_eq_false h]
    rcases ver_neS h with hb | ⟨e, hb⟩
    · go_simp
    · go_simp
theorem neverS (x y : V2S) (w : World) : Sem.run Tryz.prog (binOp BinOp.neq 29 (.agg #[.int .i64 x.1, .int .i64 x.2]) (.agg #[.int .i64 y.1, .int .i64 y.2])) w = .ok (.bool (decide (x ≠ y))) w := by
  by_cases h : x = y
  · subst h
    rw [decide_eq_false (by simp)]
    go_simp
  · rw [decide_eq_true h]
    rcases ver_neS h with hb | ⟨e, hb⟩
    · go_simp
    · go_simp
/-- The marks ahead of a place. -/
theorem Mks.takeS {w : World} {Z : Nat → Prop} {A : Option Addr} {n k : Nat} {hs : List MkV} (h : Mks w Z A n hs) (hk : k ≤ n) : Mks w Z A k (hs.take k) :=
  ⟨by rw [List.length_take, h.len]; omega, by
    have e : mcells (hs.take k) = (mcells hs).take (k * 26) := rcells_takeS mk_len hs k
    rw [e]
    exact h.rd.take26S hk, Nat.le_trans hk h.le, fun x hx => h.fit x (List.mem_of_mem_take hx), fun x hx => h.one x (List.mem_of_mem_take hx)⟩

/-- audit.Service on copies, with votes that read. -/
theorem CopsS.service {w : World} (hT : Tabs w) {B : Nat} {v : Value} {n : Nat} {ds : List MarkD} {ks : List MkV} (h : CopsS w B v n ds ks) {B2 nv : Nat} {v2 : Value} {vs : List Int} (h2 : w.ownsRow B2 3 1 v2 nv (ics vs)) (hl : vs.length = nv) (hn : nv ≤ 1048576) :
    Calls Tryz.prog 7 #[v, v2] w fun e w' => e = .returned (.tuple #[.agg #[.int .i64 (serviceD vs ds).1.1, .int .i64 (serviceD vs ds).1.2], .int .i64 (serviceD vs ds).2]) ∧ Fresh w w' := by
  obtain ⟨A, c, rfl, hr, -⟩ := own_rd h.own
  obtain ⟨A2, c2, rfl, hr2, -⟩ := own_rd h2
  have := serviceC_any hT A n c ks ⟨h.len, hr.weaken fun _ _ => trivial, h.le, h.fit, h.one⟩ h.rows h.ints h.cmds A2 nv c2 vs (hr2.weaken fun _ _ => trivial) hl hn
  rw [h.same] at this
  exact this
theorem service_one : serviceD [1] [] = ((0, 0), 0) := by
  unfold serviceD
  rw [if_neg (by decide), if_neg (by decide)]
  rfl
theorem serviceD_err {vs : List Int} {ds : List MarkD} {a b e : Int} (h : serviceD vs ds = ((a, b), e)) (he : e = 0) : ballotB vs = true ∧ ds.all (fun m => decide (0 ≤ m.node) && decide (m.node < (vs.length : Int))) = true ∧ servD vs ds = (a, b) := by
  unfold serviceD at h
  split at h
  · injection h with _ h
    rw [he] at h
    cases h
  · rename_i h1
    split at h
    · injection h with _ h
      rw [he] at h
      cases h
    · rename_i h2
      injection h with h3 _
      exact ⟨by simpa using h1, by simpa using h2, h3⟩
theorem serviceD_ok {vs : List Int} {ds : List MarkD} (h1 : ballotB vs = true) (h2 : ds.all (fun m => decide (0 ≤ m.node) && decide (m.node < (vs.length : Int))) = true) : serviceD vs ds = (servD vs ds, 0) := by
  unfold serviceD
  rw [if_neg (by rw [h1]; decide), if_neg (by rw [h2]; decide)]
/-- What the three verdicts are. -/
theorem service_three {vs : List Int} {ds : List MarkD} {n k : Nat} {va vb : Int} (hv : serviceD vs ds = ((va, vb), 0)) (hn : ds.length = n) :
    ∃ ua ub wa wb : Int, serviceD vs (ds ++ [badR]) = ((ua, ub), 0) ∧ serviceD vs (ds.take k) = ((wa, wb), 0) ∧
      ((va = 0 ∧ vb = 0 ∧ ua = 28 ∧ ub = (n : Int) ∧ wa = 0 ∧ wb = 0) ∨ (va ≠ 0 ∧ ua = va ∧ ub = vb ∧ vb < (k : Int) ∧ wa = va ∧ wb = vb) ∨ (va ≠ 0 ∧ ua = va ∧ ub = vb ∧ ¬ vb < (k : Int) ∧ wa = 0 ∧ wb = 0)) := by
  obtain ⟨h1, h2, h3⟩ := serviceD_err hv rfl
  have hl := (ballotB_all h1).1
  have hb : (ds ++ [badR]).all (fun m => decide (0 ≤ m.node) && decide (m.node < (vs.length : Int))) = true := by
    rw [List.all_append, h2]
    have e : badR.node = 0 := rfl
    simp [e]
    omega
  have ht : (ds.take k).all (fun m => decide (0 ≤ m.node) && decide (m.node < (vs.length : Int))) = true := by
    rw [List.all_eq_true] at h2 ⊢
    exact fun x hx => h2 x (List.mem_of_mem_take hx)
  have e1 := servD_bad vs ds
  have e2 := servD_take vs ds k
  have e3 := servD_none vs ds
  rw [h3] at e1 e2 e3
  simp only at e1 e2 e3
  refine ⟨(servD vs (ds ++ [badR])).1, (servD vs (ds ++ [badR])).2, (servD vs (ds.take k)).1, (servD vs (ds.take k)).2, serviceD_ok h1 hb, serviceD_ok h1 ht, ?_⟩
  by_cases hz : va = 0
  · have e4 := e3 hz
    injection e4 with _ hb0
    rw [if_pos hz] at e1
    rw [if_neg (by rintro ⟨h, -⟩; exact h hz)] at e2
    rw [e1, e2]
    exact .inl ⟨hz, hb0, rfl, by rw [hn], rfl, rfl⟩
  · rw [if_neg hz] at e1
    by_cases hk : vb < (k : Int)
    · rw [if_pos ⟨hz, hk⟩] at e2
      rw [e1, e2]
      exact .inr (.inl ⟨hz, rfl, rfl, hk, rfl, rfl⟩)
    · rw [if_neg (by rintro ⟨-, h⟩; exact hk h)] at e2
      rw [e1, e2]
      exact .inr (.inr ⟨hz, rfl, rfl, hk, rfl, rfl⟩)
end Go.Proofs.YtohnmaindbgngaaGreatDoor
