/-
  MERGED: DLock DOps Splice
-/
import Derived.Test.YtioinjcdkmiafaaDoorYD2
import Derived.Test.YtioinjcdkmiafaaDoorYC9
import Derived.Test.YtioinjcdkmiafaaDoorYA3
import Derived.Test.YtioinjcdkmiafaaDoorYA5
namespace Go.Proofs.YtioinjcdkmiafaaDoor
set_option linter.unusedVariables false
set_option linter.unusedSimpArgs false
open Go.RowKit

theorem own_ne_own2 {w : World} {b1 b2 e1 e2 s1 s2 n1 n2 : Nat} {v1 v2 : Value} {xs1 xs2 : List Value} (h1 : w.ownsRow b1 e1 s1 v1 n1 xs1) (h2 : w.ownsRow b2 e2 s2 v2 n2 xs2) (hne : e1 ≠ e2) {k : Nat} (hk : v1.ownBlock = some k) : v2.ownBlock ≠ some k := by
  intro hk2
  rcases h1.2 with ⟨rfl, _⟩ | ⟨g, cap, cur, rfl, _, hh, _⟩
  · simp [Value.ownBlock] at hk
  · rcases h2.2 with ⟨rfl, _⟩ | ⟨g2, cap2, cur2, rfl, _, hh2, _⟩
    · simp [Value.ownBlock] at hk2
    · simp [Value.ownBlock] at hk hk2
      subst hk hk2
      rw [hh] at hh2
      injection hh2 with hh2
      injection hh2 with _ ht
      exact hne ht
section
variable {B : Nat} {F : Nat → Prop} {w w2 w3 : World} {d : Nat} {pv hv : Value} {hs : List DLk} {s : StD}
theorem DAt.tight (h : DAt B F w d pv hv hs s) : DAt B (fun k => F k ∧ k < w.heap.size) w d pv hv hs s :=
  ⟨h.blk, h.pr, h.lk, h.ds, h.qs, h.ap, ⟨h.fd, h.blk.lt⟩, fun k hk => ⟨h.fp k hk, (own_lt h.pr hk).2⟩, fun k hk => ⟨h.fh k hk, (own_lt h.lk hk).2⟩, fun x hx k hk => ⟨h.fq x hx k hk, (own_lt (h.qs x hx) hk).2⟩⟩
theorem DAt.widen {F' : Nat → Prop} (h : DAt B F w d pv hv hs s) (hF : ∀ k, F k → F' k) : DAt B F' w d pv hv hs s :=
  ⟨h.blk, h.pr, h.lk, h.ds, h.qs, h.ap, hF _ h.fd, fun k hk => hF _ (h.fp k hk), fun k hk => hF _ (h.fh k hk), fun x hx k hk => hF _ (h.fq x hx k hk)⟩
theorem DAt.nd (h : DAt B F w d pv hv hs s) : hv.ownBlock ≠ some d := own_ne_blk h.lk h.blk (by decide)
theorem DAt.nq (h : DAt B F w d pv hv hs s) {x : DLk} (hx : x ∈ hs) : x.q.ownBlock ≠ some d := own_ne_blk (h.qs x hx) h.blk (by decide)
theorem DAt.ngq (h : DAt B F w d pv hv hs s) {x : DLk} (hx : x ∈ hs) {g : Nat} (hg : hv.ownBlock = some g) : x.q.ownBlock ≠ some g := own_ne_own2 h.lk (h.qs x hx) (by decide) hg
theorem DAt.ngp (h : DAt B F w d pv hv hs s) {g : Nat} (hg : hv.ownBlock = some g) : pv.ownBlock ≠ some g := own_ne_own2 h.lk h.pr (by decide) hg
theorem DAt.npq (h : DAt B F w d pv hv hs s) {x : DLk} (hx : x ∈ hs) {g : Nat} (hg : x.q.ownBlock = some g) : pv.ownBlock ≠ some g := own_ne_own2 (h.qs x hx) h.pr (by decide) hg
theorem DAt.apart (h : DAt B F w d pv hv hs s) {i j : Nat} (hi : i < hs.length) (hj : j < hs.length) (hij : i ≠ j) {k : Nat} (hk : hs[i].q.ownBlock = some k) : hs[j].q.ownBlock ≠ some k := by
  have hp := List.pairwise_iff_getElem.1 h.ap
  rcases Nat.lt_or_ge i j with hlt | hge
  · exact hp i j hi hj hlt k hk
  · intro h2
    exact hp j i hj hi (by omega) k h2 hk
/-- One lock is written over, in its place. -/
theorem DAt.setLock (h : DAt B F w d pv hv hs s) {i : Nat} (hi : i < hs.length) (x : DLk) {g : Nat} (hg : hv.ownBlock = some g) (hk : Keep (fun k => k ≠ g ∧ hs[i].q.ownBlock ≠ some k) w w3)
    (hl : w3.ownsRow B 111 4 hv s.locks.length (rcells DLk.cells (hs.set i x))) (hq : w3.ownsRow B 3 1 x.q x.d.queue.length (ics x.d.queue))
    (hn : ∀ k, x.q.ownBlock = some k → hs[i].q.ownBlock = some k ∨ w.heap.size ≤ k) :
    DAt B (fun k => F k ∨ x.q.ownBlock = some k) w3 d pv hv (hs.set i x) { s with locks := s.locks.set i x.d } := by
  have hmi : hs[i] ∈ hs := List.getElem_mem hi
  have hz : ∀ y ∈ hs.set i x, y = x ∨ ∃ (j : Nat) (hj : j < hs.length), i ≠ j ∧ y = hs[j] := fun y hy => by
    obtain ⟨j, hj, rfl⟩ := List.getElem_of_mem hy
    rw [List.length_set] at hj
    by_cases e : i = j
    · subst e
      exact .inl (by rw [List.getElem_set_self])
    · exact .inr ⟨j, hj, e, by rw [List.getElem_set_ne e]⟩
  refine ⟨h.blk.keep hk ⟨fun e => h.nd (e ▸ hg), h.nq hmi⟩, own_keep h.pr hk fun k hk => ⟨fun e => h.ngp hg (e ▸ hk), fun e => h.npq hmi e hk⟩, by rw [List.length_set]; exact hl, by rw [List.map_set, h.ds], fun y hy => ?_, ?_, .inl h.fd, fun k hk => .inl (h.fp k hk), fun k hk => .inl (h.fh k hk), fun y hy k hk => ?_⟩
  · rcases hz y hy with rfl | ⟨j, hj, hij, rfl⟩
    · exact hq
    · exact own_keep (h.qs _ (List.getElem_mem hj)) hk fun k hk => ⟨fun e => h.ngq (List.getElem_mem hj) hg (e ▸ hk), fun e => h.apart hi hj hij e hk⟩
  · refine List.pairwise_iff_getElem.2 fun a b ha hb hab k hka hkb => ?_
    rw [List.length_set] at ha hb
    rw [List.getElem_set] at hka hkb
    by_cases ea : i = a
    · subst ea
      have eb : i ≠ b := by omega
      rw [if_pos rfl] at hka
      rw [if_neg eb] at hkb
      rcases hn k hka with h1 | h1
      · exact h.apart hi hb eb h1 hkb
      · have := (own_lt (h.qs _ (List.getElem_mem hb)) hkb).2
        omega
    · rw [if_neg ea] at hka
      by_cases eb : i = b
      · subst eb
        rw [if_pos rfl] at hkb
        rcases hn k hkb with h1 | h1
        · exact h.apart hi ha ea h1 hka
        · have := (own_lt (h.qs _ (List.getElem_mem ha)) hka).2
          omega
      · rw [if_neg eb] at hkb
        exact h.apart ha hb (by omega) hka hkb
  · rcases hz y hy with rfl | ⟨j, hj, hij, rfl⟩
    · exact .inr hk
    · exact .inl (h.fq _ (List.getElem_mem hj) k hk)
/-- A lock's queue alone is stored. -/
theorem lock_q_cells {i : Nat} (hi : i < hs.length) (q : List Int) (v : Value) : (rcells DLk.cells hs).set (i * 4 + 3) v = rcells DLk.cells (hs.set i ⟨{ hs[i].d with queue := q }, v⟩) :=
  rcells_set dlk_four hs i hi 3 v _ (by omega) rfl
theorem DAt.setQ (h : DAt B F w d pv hv hs s) {i : Nat} (hi : i < hs.length) {g : Nat} (hg : hv.ownBlock = some g) (hk : Keep (fun k => hs[i].q.ownBlock ≠ some k) w w2) {q : List Int} {v : Value}
    (hq : w2.ownsRow B 3 1 v q.length (ics q)) (hn : ∀ k, v.ownBlock = some k → hs[i].q.ownBlock = some k ∨ w.heap.size ≤ k) :
    DAt B (fun k => F k ∨ v.ownBlock = some k) (w2.setCell ⟨g, i * 4 + 3, none⟩ v) d pv hv (hs.set i ⟨{ hs[i].d with queue := q }, v⟩) { s with locks := s.locks.set i { hs[i].d with queue := q } } := by
  have hl := own_keep h.lk hk fun k hk e => h.ngq (List.getElem_mem hi) hk e
  have hlen := h.hlen
  have hs2 := own_set hl hg (i := i * 4 + 3) (by omega) v
  rw [lock_q_cells hi q v] at hs2
  refine h.setLock hi ⟨{ hs[i].d with queue := q }, v⟩ hg ((hk.weaken fun k _ h => h.2).setCell (fun _ h => h.1 rfl) _) hs2 (own_far hq (p := ⟨g, i * 4 + 3, none⟩) (fun e => ?_) _) hn
  exact own_ne_own2 hl hq (by decide) hg e
/-- A lock is stored whole. -/
theorem lock_cells4 {i : Nat} (hi : i < hs.length) (x : DLk) : ((((rcells DLk.cells hs).set (i * 4) (str x.d.name)).set (i * 4 + 1) (.int .i64 x.d.holder)).set (i * 4 + 2) (.int .i64 x.d.token)).set (i * 4 + 3) x.q = rcells DLk.cells (hs.set i x) := by
  have h0 := rcells_set dlk_four hs i hi 0 (str x.d.name) ⟨⟨x.d.name, hs[i].d.holder, hs[i].d.token, hs[i].d.queue⟩, hs[i].q⟩ (by omega) rfl
  rw [Nat.add_zero] at h0
  have h1 := rcells_set dlk_four (hs.set i ⟨⟨x.d.name, hs[i].d.holder, hs[i].d.token, hs[i].d.queue⟩, hs[i].q⟩) i (by simpa using hi) 1 (.int .i64 x.d.holder) ⟨⟨x.d.name, x.d.holder, hs[i].d.token, hs[i].d.queue⟩, hs[i].q⟩ (by omega) (by rw [List.getElem_set_self]; rfl)
  rw [List.set_set] at h1
  have h2 := rcells_set dlk_four (hs.set i ⟨⟨x.d.name, x.d.holder, hs[i].d.token, hs[i].d.queue⟩, hs[i].q⟩) i (by simpa using hi) 2 (.int .i64 x.d.token) ⟨⟨x.d.name, x.d.holder, x.d.token, hs[i].d.queue⟩, hs[i].q⟩ (by omega) (by rw [List.getElem_set_self]; rfl)
  rw [List.set_set] at h2
  have h3 := rcells_set dlk_four (hs.set i ⟨⟨x.d.name, x.d.holder, x.d.token, hs[i].d.queue⟩, hs[i].q⟩) i (by simpa using hi) 3 x.q x (by omega) (by rw [List.getElem_set_self]; rfl)
  rw [List.set_set] at h3
  rw [h0, h1, h2, h3]
theorem DAt.setLock4 (h : DAt B F w d pv hv hs s) {i : Nat} (hi : i < hs.length) (x : DLk) {g : Nat} (hg : hv.ownBlock = some g) (hk : Fresh w w2) (hq : w2.ownsRow B 3 1 x.q x.d.queue.length (ics x.d.queue))
    (hn : ∀ k, x.q.ownBlock = some k → hs[i].q.ownBlock = some k ∨ w.heap.size ≤ k) :
    DAt B (fun k => F k ∨ x.q.ownBlock = some k) ((((w2.setCell ⟨g, i * 4, none⟩ (str x.d.name)).setCell ⟨g, i * 4 + 1, none⟩ (.int .i64 x.d.holder)).setCell ⟨g, i * 4 + 2, none⟩ (.int .i64 x.d.token)).setCell ⟨g, i * 4 + 3, none⟩ x.q) d pv hv (hs.set i x) { s with locks := s.locks.set i x.d } := by
  have hl := own_keep h.lk hk fun _ _ => trivial
  have hlen := h.hlen
  have hs2 := own_set (own_set (own_set (own_set hl hg (i := i * 4) (by omega) (str x.d.name)) hg (i := i * 4 + 1) (by omega) (.int .i64 x.d.holder)) hg (i := i * 4 + 2) (by omega) (.int .i64 x.d.token)) hg (i := i * 4 + 3) (by omega) x.q
  rw [lock_cells4 hi x] at hs2
  have hne : x.q.ownBlock ≠ some g := fun e => own_ne_own2 hl hq (by decide) hg e
  refine h.setLock hi x hg (((((hk.weaken fun _ _ _ => trivial).setCell (fun _ h => h.1 rfl) _).setCell (fun _ h => h.1 rfl) _).setCell (fun _ h => h.1 rfl) _).setCell (fun _ h => h.1 rfl) _) hs2 ?_ hn
  exact own_far (own_far (own_far (own_far hq (p := ⟨g, i * 4, none⟩) hne _) (p := ⟨g, i * 4 + 1, none⟩) hne _) (p := ⟨g, i * 4 + 2, none⟩) hne _) (p := ⟨g, i * 4 + 3, none⟩) hne _
end
/-- The machine's blocks, and no others. -/
def DFoot (d : Nat) (pv hv : Value) (hs : List DLk) (k : Nat) : Prop := k = d ∨ pv.ownBlock = some k ∨ hv.ownBlock = some k ∨ ∃ x ∈ hs, x.q.ownBlock = some k
section
variable {B : Nat} {F : Nat → Prop} {w : World} {d : Nat} {pv hv : Value} {hs : List DLk} {s : StD}
theorem DAt.min (h : DAt B F w d pv hv hs s) : DAt B (DFoot d pv hv hs) w d pv hv hs s :=
  ⟨h.blk, h.pr, h.lk, h.ds, h.qs, h.ap, .inl rfl, fun k hk => .inr (.inl hk), fun k hk => .inr (.inr (.inl hk)), fun x hx k hk => .inr (.inr (.inr ⟨x, hx, hk⟩))⟩
theorem DAt.footF (h : DAt B F w d pv hv hs s) {k : Nat} (hk : DFoot d pv hv hs k) : F k := by
  rcases hk with rfl | hk | hk | ⟨x, hx, hk⟩
  · exact h.fd
  · exact h.fp k hk
  · exact h.fh k hk
  · exact h.fq x hx k hk
theorem DAt.footL (h : DAt B F w d pv hv hs s) {k : Nat} (hk : DFoot d pv hv hs k) : k < w.heap.size := by
  rcases hk with rfl | hk | hk | ⟨x, hx, hk⟩
  · exact h.blk.lt
  · exact (own_lt h.pr hk).2
  · exact (own_lt h.lk hk).2
  · exact (own_lt (h.qs x hx) hk).2
theorem DAt.footN (h : DAt B F w d pv hv hs s) {g : Nat} {t : TypeId} {cs : Array Value} (hb : Blk w g t cs) (h1 : 107 ≠ t) (h2 : 109 ≠ t) (h3 : 111 ≠ t) (h4 : 3 ≠ t) : ¬ DFoot d pv hv hs g := by
  rintro (rfl | hk | hk | ⟨x, hx, hk⟩)
  · exact h.blk.ne hb h1 rfl
  · exact own_ne_blk h.pr hb h2 hk
  · exact own_ne_blk h.lk hb h3 hk
  · exact own_ne_blk (h.qs x hx) hb h4 hk
end
/-- The machine d has gone on to s2. -/
def DStep (B : Nat) (F : Nat → Prop) (w : World) (d : Nat) (s2 : StD) (w2 : World) : Prop :=
  (∃ pv hv hs F2, DAt B F2 w2 d pv hv hs s2 ∧ ∀ j, F2 j → F j ∨ w.heap.size ≤ j) ∧ Keep (fun j => ¬ F j) w w2
section
variable {B : Nat} {F F1 : Nat → Prop} {w w1 w2 : World} {d : Nat} {pv hv : Value} {hs : List DLk} {s s2 : StD}
theorem DAt.stay (h : DAt B F w d pv hv hs s) (hf : Fresh w w2) : DStep B F w d s w2 := ⟨⟨pv, hv, hs, F, h.fresh hf, fun _ h => .inl h⟩, hf.weaken fun _ _ _ => trivial⟩
theorem DStep.next (h : DStep B F1 w1 d s2 w2) (hF : ∀ j, F1 j → F j ∨ w.heap.size ≤ j) (hk : Keep (fun j => ¬ F j) w w1) : DStep B F w d s2 w2 := by
  obtain ⟨⟨pv, hv, hs, F2, hd, hF2⟩, hk2⟩ := h
  have := hk.size
  refine ⟨⟨pv, hv, hs, F2, hd, fun j hj => (hF2 j hj).elim (fun h => hF j h) fun h => .inr (by omega)⟩, hk.comp hk2 (fun _ _ h => h) fun j hj h hF1 => (hF j hF1).elim h (by omega)⟩
theorem DStep.fresh (h : DStep B F w d s2 w1) (hf : Fresh w1 w2) : DStep B F w d s2 w2 := by
  obtain ⟨⟨pv, hv, hs, F2, hd, hF2⟩, hk2⟩ := h
  exact ⟨⟨pv, hv, hs, F2, hd.fresh hf, hF2⟩, hk2.comp hf (fun _ _ h => h) fun _ _ _ => trivial⟩
end
end Go.Proofs.YtioinjcdkmiafaaDoor
namespace Go.Proofs.YtioinjcdkmiafaaDoor
set_option linter.unusedVariables false
set_option linter.unusedSimpArgs false
open Go.RowKit

theorem nDigits_small' : ∀ (k u : Nat), u < 10 ^ (k + 1) → Lib.nDigits u ≤ k + 1
  | 0, u, h => by rw [Lib.nDigits_small (by simpa using h)]; omega
  | k + 1, u, h => by
    by_cases h1 : u < 10
    · rw [Lib.nDigits_small h1]; omega
    · rw [Lib.nDigits_big h1]
      have := nDigits_small' k (u / 10) (by rw [Nat.pow_succ] at h; omega)
      omega
theorem nDigits_iff (k u : Nat) : Lib.nDigits u ≤ k + 1 ↔ u < 10 ^ (k + 1) :=
  ⟨fun h => Nat.lt_of_lt_of_le (Lib.lt_pow_nDigits u) (Nat.pow_le_pow_right (by decide) h), nDigits_small' k u⟩
theorem itoa_long (n : Int) : 8 < (Lib.itoa n).length ↔ (n < -9999999 ∨ 99999999 < n) := by
  by_cases h : n < 0
  · obtain ⟨u, rfl, hu⟩ : ∃ u : Nat, n = -(u : Int) ∧ 0 < u := ⟨n.natAbs, by omega, by omega⟩
    rw [itoa_neg' u hu, List.length_cons, Lib.decDigits_length]
    have := nDigits_iff 6 u
    have e : (10 : Nat) ^ (6 + 1) = 10000000 := by decide
    rw [e] at this
    omega
  · obtain ⟨u, rfl⟩ : ∃ u : Nat, n = (u : Int) := ⟨n.toNat, by omega⟩
    rw [itoa_pos u, Lib.decDigits_length]
    have := nDigits_iff 7 u
    have e : (10 : Nat) ^ (7 + 1) = 100000000 := by decide
    rw [e] at this
    omega
section
variable {B : Nat} {F : Nat → Prop} {w w2 wx : World} {d : Nat} {pv hv : Value} {hs : List DLk} {s : StD}
/-- Something else was written. -/
theorem DAt.other (h : DAt B F w d pv hv hs s) {g : Nat} {t : TypeId} {cs : Array Value} (hb : Blk w g t cs) (h1 : 107 ≠ t) (h2 : 109 ≠ t) (h3 : 111 ≠ t) (h4 : 3 ≠ t) (hk : Keep (fun k => k ≠ g) w w2) : DAt B F w2 d pv hv hs s :=
  ⟨h.blk.keep hk (h.blk.ne hb h1), own_keep h.pr hk fun k hk e => own_ne_blk h.pr hb h2 (e ▸ hk), own_keep h.lk hk fun k hk e => own_ne_blk h.lk hb h3 (e ▸ hk), h.ds, fun x hx => own_keep (h.qs x hx) hk fun k hk e => own_ne_blk (h.qs x hx) hb h4 (e ▸ hk), h.ap, h.fd, h.fp, h.fh, h.fq⟩
theorem DAt.stay' (h : DAt B F w2 d pv hv hs s) (hf : Fresh w w2) : DStep B F w d s w2 := ⟨⟨pv, hv, hs, F, h, fun _ h => .inl h⟩, hf.weaken fun _ _ _ => trivial⟩
theorem DStep.other (h : DStep B F w d s wx) {g : Nat} {t : TypeId} {cs : Array Value} (hb : Blk wx g t cs) (h1 : 107 ≠ t) (h2 : 109 ≠ t) (h3 : 111 ≠ t) (h4 : 3 ≠ t) (hg : w.heap.size ≤ g) (hk : Keep (fun k => k ≠ g) wx w2) : DStep B F w d s w2 := by
  obtain ⟨⟨pv, hv, hs, F2, hd, hF⟩, hk2⟩ := h
  exact ⟨⟨pv, hv, hs, F2, hd.other hb h1 h2 h3 h4 hk, hF⟩, hk2.comp hk (fun _ _ h => h) fun j hj _ e => by omega⟩
end
/-- What an operation of the document's machine leaves. -/
def DOp (B : Nat) (F : Nat → Prop) (w : World) (d : Nat) (x : ResD × StD) (e : Ending) (w' : World) : Prop := e = .returned (resV x.1) ∧ DStep B F w d x.2 w'
theorem dop_ret {fn : Func} (hfn : fn.results = #[.cell 4 90]) {a : Act} {g : Nat} (ha : a.tmps.getD 4 undef = .pointer (some ⟨g, 0, none⟩)) (hd : a.defers = []) {B : Nat} {F : Nat → Prop} {w wx : World} {d : Nat} {R : ResD} {s2 : StD} {R0 : MRes}
    (hm : DStep B F w d s2 wx) (hb : Blk wx g 90 (resA R0)) (hg : w.heap.size ≤ g) :
    bodyPost Tryd.prog fn (DOp B F w d (R, s2)) Exit.ret a (resStored wx g R) :=
  bodyPost_ret (results_one hfn _ _ g 90 (resA R) _ ha (res_blk hb R) Tryd.underlying90 rfl (by kernel_rfl)) hd ⟨rfl, hm.other hb (by decide) (by decide) (by decide) (by decide) hg (res_keep (Keep.refl _ wx) (fun _ h => h rfl) _)⟩
/-- The number that the document reads, where it is one. -/
theorem rnum_numb {v : Txt} (h : (numb v).2 = true) : rnum v = numb v := by
  rw [rnum_eq, h, if_pos rfl]
  exact Prod.ext rfl h.symm
theorem valid_num {c i r o : Int} {k v d : Txt} (h : validB c i r o k v d = true) (ho : o = 5 ∨ o = 8 ∨ o = 9) : (numb v).2 = true := by
  obtain ⟨-, -, -, -, hf⟩ := valid_ok h
  rcases ho with rfl | rfl | rfl
  · have e : shapeTab.getD (5 : Int).toNat 0 = 9 := by decide
    have b2 : hasB 9 2 = false := by decide
    have b8 : hasB 9 8 = true := by decide
    rw [e] at hf
    unfold fitsB at hf
    rw [b2, b8] at hf
    split at hf
    · cases hf
    · split at hf
      · cases hf
      · simpa using hf
  · have e : shapeTab.getD (8 : Int).toNat 0 = 17 := by decide
    have b2 : hasB 17 2 = false := by decide
    have b8 : hasB 17 8 = false := by decide
    have b16 : hasB 17 16 = true := by decide
    rw [e] at hf
    unfold fitsB at hf
    rw [b2, b8, b16] at hf
    split at hf
    · cases hf
    · split at hf
      · cases hf
      · simp at hf
        exact hf.1
  · have e : shapeTab.getD (9 : Int).toNat 0 = 32 := by decide
    have b2 : hasB 32 2 = false := by decide
    have b8 : hasB 32 8 = false := by decide
    have b16 : hasB 32 16 = false := by decide
    have b32 : hasB 32 32 = true := by decide
    rw [e] at hf
    unfold fitsB at hf
    rw [b2, b8, b16, b32] at hf
    split at hf
    · cases hf
    · split at hf
      · cases hf
      · simp at hf
        exact hf.1
end Go.Proofs.YtioinjcdkmiafaaDoor
namespace Go.Proofs.YtioinjcdkmiafaaDoor
set_option linter.unusedVariables false
set_option linter.unusedSimpArgs false
open Go.RowKit

/-- One element among many is written over. -/
theorem rcells_splice {α : Type} {f : α → List Value} {k : Nat} (hf : ∀ a, (f a).length = k) : ∀ (ps : List α) (q : Nat) (hq : q < ps.length) (x : α), (rcells f ps).take (q * k) ++ f x ++ (rcells f ps).drop (q * k + (f x).length) = rcells f (ps.set q x)
  | p :: ps, 0, _, x => by
    rw [rcells_cons, List.set_cons_zero, rcells_cons, hf]
    simp only [Nat.zero_mul, List.take_zero, List.nil_append, Nat.zero_add]
    rw [List.drop_append_of_le_length (by rw [hf]; exact Nat.le_refl _), List.drop_of_length_le (by rw [hf]; exact Nat.le_refl _), List.nil_append]
  | p :: ps, q + 1, hq, x => by
    have ih := rcells_splice hf ps q (by simpa using hq) x
    have e1 : (q + 1) * k = (f p).length + q * k := by rw [hf, Nat.add_mul]; omega
    rw [rcells_cons, List.set_cons_succ, rcells_cons, e1, List.take_length_add_append, Nat.add_assoc, List.drop_length_add_append, ← ih]
    simp only [List.append_assoc]
theorem Blk.splice {α : Type} {f : α → List Value} {k : Nat} (hf : ∀ a, (f a).length = k) {w : World} {g : Nat} {t : TypeId} {ps : List α} (h : Blk w g t (rcells f ps).toArray) {q : Nat} (hq : q < ps.length) (x : α) : Blk (w.setCells g (q * k) (f x)) g t (rcells f (ps.set q x)).toArray := by
  have hl : q * k + (f x).length ≤ (rcells f ps).toArray.size := by
    rw [List.size_toArray, rcells_len hf, hf]
    have := Nat.mul_le_mul_right k (show q + 1 ≤ ps.length from hq)
    rw [Nat.add_mul] at this
    omega
  obtain ⟨cs', h1, h2⟩ := Blk.setCells (f x) (q * k) w _ h hl
  have : cs' = (rcells f (ps.set q x)).toArray := by
    apply Array.ext'
    rw [h2, ← rcells_splice hf ps q hq x]
  rwa [this] at h1
theorem Blk.thereAt {α : Type} {f : α → List Value} {k : Nat} (hf : ∀ a, (f a).length = k) {w : World} {g : Nat} {t : TypeId} {ps : List α} (h : Blk w g t (rcells f ps).toArray) {q : Nat} (hq : q < ps.length) : w.there g (q * k) k := fun j hj => by
  have h1 := h.there (q * k + j) (by
    rw [List.size_toArray, rcells_len hf]
    have := Nat.mul_le_mul_right k (show q + 1 ≤ ps.length from hq)
    rw [Nat.add_mul] at this
    omega)
  simpa using h1
theorem Blk.elem {α : Type} {f : α → List Value} {k : Nat} (hf : ∀ a, (f a).length = k) {w : World} {g : Nat} {t : TypeId} {ps : List α} (h : Blk w g t (rcells f ps).toArray) {q : Nat} (hq : q < ps.length) (j : Nat) (hj : j < k) : w.cell? ⟨g, q * k + j, none⟩ = (f ps[q])[j]? := by
  rw [h.cell, List.getElem?_toArray, rcells_get hf ps q hq j hj]
end Go.Proofs.YtioinjcdkmiafaaDoor
