/-
  PLAIN WORDS ON quoratelaw01's Book: what its pages show, and which blocks are theirs. And the walk of 'Pat'.
-/
import Derived.Test.YtkgbhanpenpkmaaDoorRow
import Derived.Test.YtkgbhanpenpkmaaDoorBytes
namespace Go.Proofs.YtkgbhanpenpkmaaDoor
set_option linter.unusedVariables false
set_option linter.unusedSimpArgs false
open Go.RowKit

theorem xor_u8 (a b : Int) : ∃ c : UInt8, bits .xor .u8 a b = (c.toNat : Int) := by
  refine ⟨UInt8.ofNat (bits .xor .u8 a b).toNat, ?_⟩
  have h : bits .xor .u8 a b = IntKind.u8.wrap ((BitVec.ofInt 8 a ^^^ BitVec.ofInt 8 b).toNat : Int) := rfl
  rw [h, IntKind.wrap_u8, UInt8.toNat_ofNat']
  omega

/-- A page: its list, the longer one, what it showed, its number, its mark; 'now' is what it shows, 'st' how far it is: 0 kept, 1 written over, 2 made longer. -/
structure Pg where
  b : Value
  g : Value
  was : Value
  id : Int
  st : Nat
  now : List UInt8
def Pg.done (p : Pg) : Bool := p.st != 0
def Pg.cells (p : Pg) : List Value := [p.b, p.g, p.was, .int .i64 p.id, .bool p.done]
theorem pg_five (p : Pg) : p.cells.length = 5 := rfl
abbrev pcells (ps : List Pg) : List Value := rcells Pg.cells ps

/-! ### marks -/
set_option maxHeartbeats 400000 in
theorem Pat_ex (id : Int) (k : Nat) (hk : k ≤ 1099511627770) : ∃ c : UInt8, ∀ w, Calls Tryd.prog 30 #[.int .i64 id, .int .i64 (k : Int)] w fun e w' => e = .returned (.int .u8 (c.toNat : Int)) ∧ w = w' := by
  obtain ⟨c, hc⟩ := xor_u8 (wrap64 (id + 1) % 4294967296 * 2654435761 % 4294967296 / 2 ^ (8 * (k % 4)) % 256) (↑k / 4 % 256)
  refine ⟨c, fun w => ?_⟩
  rw [← hc]
  clear hc
  go_enter Tryd.func30, Tryd.ntmps30
  go_wp2
  go_ret
  exact ⟨rfl, rfl⟩
noncomputable def pat (id : Int) (k : Nat) : UInt8 := if h : k ≤ 1099511627770 then Classical.choose (Pat_ex id k h) else 0
theorem Pat_any (id : Int) (k : Nat) (hk : k ≤ 1099511627770) (w : World) : Calls Tryd.prog 30 #[.int .i64 id, .int .i64 (k : Int)] w fun e w' => e = .returned (.int .u8 ((pat id k).toNat : Int)) ∧ w = w' := by
  unfold pat
  rw [dif_pos hk]
  exact Classical.choose_spec (Pat_ex id k hk) w
noncomputable def pats (id : Int) (n : Nat) : List UInt8 := (List.range n).map (pat id)
theorem pats_len (id : Int) (n : Nat) : (pats id n).length = n := by simp [pats]
theorem pats_get (id : Int) (n k : Nat) (h : k < (pats id n).length) : (pats id n)[k] = pat id k := by simp [pats]
theorem pats_succ (id : Int) (n : Nat) : pats id (n + 1) = pats id n ++ [pat id n] := by simp [pats, List.range_succ]
theorem pats_set (id : Int) (k : Nat) (l : List UInt8) (hk : k < l.length) : (pats id k ++ l.drop k).set k (pat id k) = pats id (k + 1) ++ l.drop (k + 1) := by
  rw [List.set_append_right _ _ (by rw [pats_len]; exact Nat.le_refl _), pats_len, Nat.sub_self, List.drop_eq_getElem_cons hk, List.set_cons_zero, pats_succ, List.append_assoc]
  rfl
theorem byteCells_set (l : List UInt8) (k : Nat) (c : UInt8) : (Lib.byteCells l).set k (.int .u8 (c.toNat : Int)) = Lib.byteCells (l.set k c) := by simp [Lib.byteCells, List.map_set]

/-! ### pages -/
structure Pg.ok (w : World) (B : Nat) (p : Pg) : Prop where
  own : w.ownsRow B 5 1 p.b p.now.length (Lib.byteCells p.now)
  len : p.now.length ≤ 1099511627000
  idl : 0 ≤ p.id
  idh : p.id ≤ 1000000
  stl : p.st ≤ 2
  kept : p.st = 0 → w.ownsRow B 5 1 p.was p.now.length (Lib.byteCells p.now)
  full : 0 < p.st → p.now = pats p.id p.now.length
  long : p.st = 2 → w.ownsRow B 5 1 p.g (p.now.length + 64) (Lib.byteCells (p.now ++ pats (p.id + 100000) 64))
/-- The page's blocks. -/
def Pg.blk (p : Pg) (k : Nat) : Prop := p.b.ownBlock = some k ∨ (p.st = 0 ∧ p.was.ownBlock = some k) ∨ (p.st = 2 ∧ p.g.ownBlock = some k)
section
variable {w w' : World} {B K : Nat} {S S' Z : Nat → Prop} {V : Value} {nx : Int} {p q : Pg} {ps : List Pg}
theorem Pg.ok.keep (h : p.ok w B) (hk : Keep Z w w') (hz : ∀ k, p.blk k → Z k) : p.ok w' B :=
  ⟨own_keep h.own hk (fun k e => hz k (.inl e)), h.len, h.idl, h.idh, h.stl, fun s => own_keep (h.kept s) hk (fun k e => hz k (.inr (.inl ⟨s, e⟩))), h.full, fun s => own_keep (h.long s) hk (fun k e => hz k (.inr (.inr ⟨s, e⟩)))⟩
theorem Pg.ok.lt (h : p.ok w B) {k : Nat} (hk : p.blk k) : k < w.heap.size := by
  rcases hk with e | ⟨s, e⟩ | ⟨s, e⟩
  · exact (own_lt h.own e).2
  · exact (own_lt (h.kept s) e).2
  · exact (own_lt (h.long s) e).2
theorem own_ne_own {b1 b2 e1 e2 s1 s2 n1 n2 : Nat} {v1 v2 : Value} {xs1 xs2 : List Value} (h1 : w.ownsRow b1 e1 s1 v1 n1 xs1) (h2 : w.ownsRow b2 e2 s2 v2 n2 xs2) (hne : e1 ≠ e2) {k : Nat} (hk : v1.ownBlock = some k) : v2.ownBlock ≠ some k := by
  intro hk2
  rcases h1.2 with ⟨rfl, _⟩ | ⟨g, cap, cur, rfl, _, hh, _⟩
  · simp [Value.ownBlock] at hk
  · rcases h2.2 with ⟨rfl, _⟩ | ⟨g2, cap2, cur2, rfl, _, hh2, _⟩
    · simp [Value.ownBlock] at hk2
    · simp [Value.ownBlock] at hk hk2
      subst hk hk2
      rw [hh] at hh2
      injection hh2 with hh2
      injection hh2 with _ ht
      exact hne ht
theorem Pg.ok.not_blk (h : p.ok w B) {g : Nat} {t : TypeId} {cs : Array Value} (hg : Blk w g t cs) (hne : 5 ≠ t) : ¬ p.blk g := by
  rintro (e | ⟨s, e⟩ | ⟨s, e⟩)
  · exact own_ne_blk h.own hg hne e
  · exact own_ne_blk (h.kept s) hg hne e
  · exact own_ne_blk (h.long s) hg hne e
theorem Pg.ok.not_own (h : p.ok w B) {b n sz : Nat} {t : TypeId} {v : Value} {xs : List Value} (hv : w.ownsRow b t sz v n xs) (hne : t ≠ 5) {k : Nat} (hk : v.ownBlock = some k) : ¬ p.blk k := by
  rintro (e | ⟨s, e⟩ | ⟨s, e⟩)
  · exact own_ne_own hv h.own hne hk e
  · exact own_ne_own hv (h.kept s) hne hk e
  · exact own_ne_own hv (h.long s) hne hk e

/-- The book in block K; its blocks meet S. -/
structure BookIs (w : World) (B K : Nat) (S : Nat → Prop) (V : Value) (nx : Int) (ps : List Pg) : Prop where
  blk : Blk w K 43 #[V, .slice none 0 0, .int .i64 nx]
  row : w.ownsRow B 81 5 V ps.length (pcells ps)
  pages : ∀ p ∈ ps, p.ok w B
  apart : ps.Pairwise fun p q => ∀ k, p.blk k → ¬ q.blk k
  len : ps.length ≤ 96
  nlo : 0 ≤ nx
  nhi : nx ≤ (ps.length : Int)
  inK : S K
  inV : ∀ k, V.ownBlock = some k → S k
  inP : ∀ p ∈ ps, ∀ k, p.blk k → S k
def BookOk (w : World) (B K : Nat) (S : Nat → Prop) : Prop := ∃ V nx ps, BookIs w B K S V nx ps ∧ ∀ p ∈ ps, p.st ≠ 1
theorem BookIs.keep (h : BookIs w B K S V nx ps) (hk : Keep Z w w') (hz : ∀ k, S k → Z k) : BookIs w' B K S V nx ps :=
  ⟨h.blk.keep hk (hz _ h.inK), own_keep h.row hk (fun k e => hz k (h.inV k e)), fun p hp => (h.pages p hp).keep hk (fun k e => hz k (h.inP p hp k e)), h.apart, h.len, h.nlo, h.nhi, h.inK, h.inV, h.inP⟩
theorem BookIs.weaken (h : BookIs w B K S V nx ps) (hs : ∀ k, S k → S' k) : BookIs w B K S' V nx ps :=
  ⟨h.blk, h.row, h.pages, h.apart, h.len, h.nlo, h.nhi, hs _ h.inK, fun k e => hs k (h.inV k e), fun p hp k e => hs k (h.inP p hp k e)⟩
theorem BookOk.keep (h : BookOk w B K S) (hk : Keep Z w w') (hz : ∀ k, S k → Z k) : BookOk w' B K S := by
  obtain ⟨V, nx, ps, h, hst⟩ := h
  exact ⟨V, nx, ps, h.keep hk hz, hst⟩
theorem BookOk.weaken (h : BookOk w B K S) (hs : ∀ k, S k → S' k) : BookOk w B K S' := by
  obtain ⟨V, nx, ps, h, hst⟩ := h
  exact ⟨V, nx, ps, h.weaken hs, hst⟩
theorem pair_at {α : Type} {R : α → α → Prop} (hsym : ∀ a b, R a b → R b a) {l : List α} (h : l.Pairwise R) {i j : Nat} (hi : i < l.length) (hj : j < l.length) (hij : i ≠ j) : R l[i] l[j] := by
  rw [List.pairwise_iff_getElem] at h
  rcases Nat.lt_or_ge i j with h1 | h1
  · exact h i j hi hj h1
  · exact hsym _ _ (h j i hj hi (by omega))
theorem apart_sym (p q : Pg) (h : ∀ k, p.blk k → ¬ q.blk k) : ∀ k, q.blk k → ¬ p.blk k := fun k hq hp => h k hp hq
/-- One page has turned. -/
theorem BookIs.turn (h : BookIs w B K S V nx ps) {i : Nat} (hi : i < ps.length) (hq : q.ok w' B) (hrow : w'.ownsRow B 81 5 V ps.length (pcells (ps.set i q)))
    (hk : Keep (fun k => V.ownBlock ≠ some k ∧ ¬ ps[i].blk k) w w') (hqb : ∀ k, q.blk k → ps[i].blk k ∨ w.heap.size ≤ k) (hs : ∀ k, S k → S' k) (hqs : ∀ k, q.blk k → S' k) : BookIs w' B K S' V nx (ps.set i q) := by
  have hVp : ∀ p ∈ ps, ∀ k, p.blk k → V.ownBlock ≠ some k := fun p hp k e hv => (h.pages p hp).not_own h.row (by decide) hv e
  have hget : ∀ j (hj : j < (ps.set i q).length), (j = i ∧ (ps.set i q)[j] = q) ∨ (j ≠ i ∧ ∃ hj' : j < ps.length, (ps.set i q)[j] = ps[j]) := by
    intro j hj
    rw [List.length_set] at hj
    by_cases e : j = i
    · subst e; exact .inl ⟨rfl, by simp⟩
    · exact .inr ⟨e, hj, by rw [List.getElem_set_ne (fun h => e h.symm)]⟩
  refine ⟨h.blk.keep hk ⟨own_ne_blk h.row h.blk (by decide), fun e => (h.pages _ (List.getElem_mem hi)).not_blk h.blk (by decide) e⟩, by simpa using hrow, ?_, ?_, by simpa using h.len, h.nlo, by simpa using h.nhi, hs _ h.inK, fun k e => hs k (h.inV k e), ?_⟩
  · intro p hp
    obtain ⟨j, hj, rfl⟩ := List.getElem_of_mem hp
    rcases hget j hj with ⟨_, e⟩ | ⟨hne, hj', e⟩
    · rw [e]; exact hq
    · rw [e]
      exact (h.pages _ (List.getElem_mem hj')).keep hk (fun k hb => ⟨hVp _ (List.getElem_mem hj') k hb, pair_at apart_sym h.apart hj' hi hne k hb⟩)
  · rw [List.pairwise_iff_getElem]
    intro a b ha hb hab k h1 h2
    rcases hget a ha with ⟨ea, e1⟩ | ⟨na, ha', e1⟩ <;> rcases hget b hb with ⟨eb, e2⟩ | ⟨nb, hb', e2⟩
    · omega
    · rw [e1] at h1
      rw [e2] at h2
      rcases hqb k h1 with h3 | h3
      · exact pair_at apart_sym h.apart hi hb' (fun e => nb e.symm) k h3 h2
      · have := (h.pages _ (List.getElem_mem hb')).lt h2; omega
    · rw [e1] at h1
      rw [e2] at h2
      rcases hqb k h2 with h3 | h3
      · exact pair_at apart_sym h.apart ha' hi na k h1 h3
      · have := (h.pages _ (List.getElem_mem ha')).lt h1; omega
    · rw [e1] at h1
      rw [e2] at h2
      exact pair_at apart_sym h.apart ha' hb' (by omega) k h1 h2
  · intro p hp k hb
    obtain ⟨j, hj, rfl⟩ := List.getElem_of_mem hp
    rcases hget j hj with ⟨_, e⟩ | ⟨hne, hj', e⟩
    · rw [e] at hb; exact hqs k hb
    · rw [e] at hb; exact hs k (h.inP _ (List.getElem_mem hj') k hb)
/-- A page has come behind the others: the row has been made longer, the number raised. -/
theorem BookIs.push {V' : Value} (h : BookIs w B K S V nx ps) (hq : q.ok w' B) (hblk : Blk w' K 43 #[V', .slice none 0 0, .int .i64 (nx + 1)]) (hlen : ps.length < 96)
    (hrow : w'.ownsRow B 81 5 V' (ps.length + 1) (pcells (ps ++ [q])))
    (hk : Keep (fun k => k ≠ K ∧ V.ownBlock ≠ some k ∧ ¬ q.blk k) w w') (hqa : ∀ p ∈ ps, ∀ k, p.blk k → ¬ q.blk k) (hs : ∀ k, S k → S' k) (hqs : ∀ k, q.blk k → S' k) (hV : ∀ k, V'.ownBlock = some k → S' k) : BookIs w' B K S' V' (nx + 1) (ps ++ [q]) := by
  have hVp : ∀ p ∈ ps, ∀ k, p.blk k → V.ownBlock ≠ some k := fun p hp k e hv => (h.pages p hp).not_own h.row (by decide) hv e
  refine ⟨hblk, by simpa using hrow, ?_, ?_, by simp; omega, by have := h.nlo; omega, by have := h.nhi; simp; omega, hs _ h.inK, hV, ?_⟩
  · intro p hp
    rcases List.mem_append.1 hp with hp | hp
    · exact (h.pages p hp).keep hk (fun k e => ⟨fun e2 => (h.pages p hp).not_blk h.blk (by decide) (e2 ▸ e), hVp p hp k e, hqa p hp k e⟩)
    · obtain rfl : p = q := by simpa using hp
      exact hq
  · rw [List.pairwise_append]
    refine ⟨h.apart, by simp, fun p hp q' hq' => ?_⟩
    obtain rfl : q' = q := by simpa using hq'
    exact hqa p hp
  · intro p hp k e
    rcases List.mem_append.1 hp with hp | hp
    · exact hs k (h.inP p hp k e)
    · obtain rfl : p = q := by simpa using hp
      exact hqs k e
end
end Go.Proofs.YtkgbhanpenpkmaaDoor
