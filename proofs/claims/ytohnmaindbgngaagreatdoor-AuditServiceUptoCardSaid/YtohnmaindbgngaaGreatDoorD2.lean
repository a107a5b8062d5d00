/-
  MERGED: DPassP DLock DPass
-/
import Derived.Test.YtohnmaindbgngaaGreatDoorQ1
import Derived.Test.YtohnmaindbgngaaGreatDoorD1
import Derived.Deep.RegionHeld3
import Derived.Deep.DeepCutAuto
import Derived.Deep.CutBlock
namespace Go.Proofs.YtohnmaindbgngaaGreatDoor
set_option linter.unusedVariables false
set_option linter.unusedSimpArgs false

section
variable {α : Type} {key : α → Txt}
theorem rise_idx {l : List α} (hr : Rise (l.map key)) {i j : Nat} (hi : i < l.length) (hj : j < l.length) (h : key l[i] = key l[j]) : i = j := by
  have hp := List.pairwise_iff_getElem.1 hr
  rcases Nat.lt_trichotomy i j with hlt | he | hgt
  · have h1 := before_ne (hp i j (by simpa using hi) (by simpa using hj) hlt)
    simp only [List.getElem_map] at h1
    exact absurd h h1
  · exact he
  · have h1 := before_ne (hp j i (by simpa using hj) (by simpa using hi) hgt)
    simp only [List.getElem_map] at h1
    exact absurd h.symm h1
theorem setK_at {l : List α} (hr : Rise (l.map key)) {i : Nat} (hi : i < l.length) {x : α} (hx : key x = key l[i]) : setK key x l = l.set i x := by
  refine List.ext_getElem (by rw [setK_len, List.length_set]) fun n h1 h2 => ?_
  have hn : n < l.length := by rwa [setK_len] at h1
  have e0 : (setK key x l)[n] = if key l[n] == key x then x else l[n] := by simp [setK]
  rw [e0, List.getElem_set]
  by_cases e : i = n
  · subst e
    rw [if_pos rfl, if_pos (by rw [hx]; simp)]
  · rw [if_neg e, if_neg]
    intro h
    have h3 : key l[n] = key x := by simpa using h
    exact e (rise_idx hr hi hn (by rw [h3, hx]))
theorem delK_at {l : List α} (hr : Rise (l.map key)) {i : Nat} (hi : i < l.length) : delK key (key l[i]) l = l.eraseIdx i := by
  rw [List.eraseIdx_eq_take_drop_succ]
  unfold delK
  have e : l = l.take i ++ l[i] :: l.drop (i + 1) := by rw [← List.drop_eq_getElem_cons hi, List.take_append_drop]
  have h1 : (l.take i).filter (fun x => !(key x == key l[i])) = l.take i := List.filter_eq_self.2 fun x hx => by
    obtain ⟨n, hn, rfl⟩ := List.getElem_of_mem hx
    have hni : n < i := by rw [List.length_take] at hn; omega
    rw [List.getElem_take]
    have : key l[n] ≠ key l[i] := fun e => by have := rise_idx hr (by omega) hi e; omega
    simpa using this
  have h2 : (l.drop (i + 1)).filter (fun x => !(key x == key l[i])) = l.drop (i + 1) := List.filter_eq_self.2 fun x hx => by
    obtain ⟨n, hn, rfl⟩ := List.getElem_of_mem hx
    rw [List.length_drop] at hn
    rw [List.getElem_drop]
    have : key l[i + 1 + n] ≠ key l[i] := fun e => by have := rise_idx hr (by omega) hi e; omega
    simpa using this
  obtain ⟨k, hk⟩ : ∃ k, k = key l[i] := ⟨_, rfl⟩
  rw [← hk] at h1 h2 ⊢
  have h3 : l.filter (fun x => !(key x == k)) = (l.take i ++ l[i] :: l.drop (i + 1)).filter (fun x => !(key x == k)) := congrArg _ e
  rw [h3, List.filter_append, List.filter_cons, h1, h2, if_neg (by simp [hk])]
theorem erase_skip {l : List α} {i : Nat} (hi : i < l.length) : (l.take (i + 1)).eraseIdx i = (l.take i).eraseIdx i := by
  rw [List.eraseIdx_of_length_le (l := l.take i) (by rw [List.length_take]; omega), List.take_succ_eq_append_getElem hi, List.eraseIdx_append_of_length_le (by rw [List.length_take]; omega)]
  rw [List.length_take, Nat.min_eq_left (by omega), Nat.sub_self]
  simp
theorem erase_step {l : List α} {i j : Nat} (hj : j < l.length) (h : j ≠ i) : (l.take (j + 1)).eraseIdx i = (l.take j).eraseIdx i ++ [l[j]] := by
  rw [List.take_succ_eq_append_getElem hj]
  by_cases hij : i < j
  · rw [List.eraseIdx_append_of_lt_length (by rw [List.length_take]; omega)]
  · rw [List.eraseIdx_of_length_le (l := l.take j) (by rw [List.length_take]; omega), List.eraseIdx_of_length_le (by rw [List.length_append, List.length_take]; simp; omega)]
end
/-- What a passing on makes of the lock at a place. -/
theorem pass_at {s : StD} (hr : Rise (s.locks.map LockD.name)) {i : Nat} (hi : i < s.locks.length) :
    passD s.locks[i].name s = match s.locks[i].queue with
      | [] => (0, { s with locks := s.locks.eraseIdx i })
      | c :: q => if 99999999 ≤ s.tok then (0, { s with locks := s.locks.eraseIdx i }) else (s.tok + 1, { s with locks := s.locks.set i ⟨s.locks[i].name, c, s.tok + 1, q⟩, tok := s.tok + 1 }) := by
  have hf : lfind s.locks[i].name s.locks = some s.locks[i] := findK_of hr (List.getElem_mem hi) rfl
  unfold passD
  rw [hf]
  simp only
  rw [delK_at hr hi]
  cases s.locks[i].queue with
  | nil => rfl
  | cons c q =>
    simp only
    rw [setK_at (key := LockD.name) hr hi (x := ⟨s.locks[i].name, c, s.tok + 1, q⟩) rfl]
end Go.Proofs.YtohnmaindbgngaaGreatDoor
namespace Go.Proofs.YtohnmaindbgngaaGreatDoor
set_option linter.unusedVariables false
set_option linter.unusedSimpArgs false
open Go.RowKit

theorem own_ne_own2 {w : World} {b1 b2 e1 e2 s1 s2 n1 n2 : Nat} {v1 v2 : Value} {xs1 xs2 : List Value} (h1 : w.ownsRow b1 e1 s1 v1 n1 xs1) (h2 : w.ownsRow b2 e2 s2 v2 n2 xs2) (hne : e1 ≠ e2) {k : Nat} (hk : v1.ownBlock = some k) : v2.ownBlock ≠ some k := by
  intro hk2
  rcases h1.2 with ⟨rfl, _⟩ | ⟨g, cap, cur, rfl, _, hh, _⟩
  · simp [Value.ownBlock] at hk
  · rcases h2.2 with ⟨rfl, _⟩ | ⟨g2, cap2, cur2, rfl, _, hh2, _⟩
    · simp [Value.ownBlock] at hk2
    · simp [Value.ownBlock] at hk hk2
      subst hk hk2
      rw [hh] at hh2
      injection hh2 with hh2
      injection hh2 with _ ht
      exact hne ht
section
variable {B : Nat} {F : Nat → Prop} {w w2 w3 : World} {d : Nat} {pv hv : Value} {hs : List DLk} {s : StD}
theorem DAt.tight (h : DAt B F w d pv hv hs s) : DAt B (fun k => F k ∧ k < w.heap.size) w d pv hv hs s :=
  ⟨h.blk, h.pr, h.lk, h.ds, h.qs, h.ap, ⟨h.fd, h.blk.lt⟩, fun k hk => ⟨h.fp k hk, (own_lt h.pr hk).2⟩, fun k hk => ⟨h.fh k hk, (own_lt h.lk hk).2⟩, fun x hx k hk => ⟨h.fq x hx k hk, (own_lt (h.qs x hx) hk).2⟩⟩
theorem DAt.widen {F' : Nat → Prop} (h : DAt B F w d pv hv hs s) (hF : ∀ k, F k → F' k) : DAt B F' w d pv hv hs s :=
  ⟨h.blk, h.pr, h.lk, h.ds, h.qs, h.ap, hF _ h.fd, fun k hk => hF _ (h.fp k hk), fun k hk => hF _ (h.fh k hk), fun x hx k hk => hF _ (h.fq x hx k hk)⟩
theorem DAt.nd (h : DAt B F w d pv hv hs s) : hv.ownBlock ≠ some d := own_ne_blk h.lk h.blk (by decide)
theorem DAt.nq (h : DAt B F w d pv hv hs s) {x : DLk} (hx : x ∈ hs) : x.q.ownBlock ≠ some d := own_ne_blk (h.qs x hx) h.blk (by decide)
theorem DAt.ngq (h : DAt B F w d pv hv hs s) {x : DLk} (hx : x ∈ hs) {g : Nat} (hg : hv.ownBlock = some g) : x.q.ownBlock ≠ some g := own_ne_own2 h.lk (h.qs x hx) (by decide) hg
theorem DAt.ngp (h : DAt B F w d pv hv hs s) {g : Nat} (hg : hv.ownBlock = some g) : pv.ownBlock ≠ some g := own_ne_own2 h.lk h.pr (by decide) hg
theorem DAt.npq (h : DAt B F w d pv hv hs s) {x : DLk} (hx : x ∈ hs) {g : Nat} (hg : x.q.ownBlock = some g) : pv.ownBlock ≠ some g := own_ne_own2 (h.qs x hx) h.pr (by decide) hg
theorem DAt.apart (h : DAt B F w d pv hv hs s) {i j : Nat} (hi : i < hs.length) (hj : j < hs.length) (hij : i ≠ j) {k : Nat} (hk : hs[i].q.ownBlock = some k) : hs[j].q.ownBlock ≠ some k := by
  have hp := List.pairwise_iff_getElem.1 h.ap
  rcases Nat.lt_or_ge i j with hlt | hge
  · exact hp i j hi hj hlt k hk
  · intro h2
    exact hp j i hj hi (by omega) k h2 hk
/-- One lock is written over, in its place. -/
theorem DAt.setLock (h : DAt B F w d pv hv hs s) {i : Nat} (hi : i < hs.length) (x : DLk) {g : Nat} (hg : hv.ownBlock = some g) (hk : Keep (fun k => k ≠ g ∧ hs[i].q.ownBlock ≠ some k) w w3)
    (hl : w3.ownsRow B 206 4 hv s.locks.length (rcells DLk.cells (hs.set i x))) (hq : w3.ownsRow B 3 1 x.q x.d.queue.length (ics x.d.queue))
    (hn : ∀ k, x.q.ownBlock = some k → hs[i].q.ownBlock = some k ∨ w.heap.size ≤ k) :
    DAt B (fun k => F k ∨ x.q.ownBlock = some k) w3 d pv hv (hs.set i x) { s with locks := s.locks.set i x.d } := by
  have hmi : hs[i] ∈ hs := List.getElem_mem hi
  have hz : ∀ y ∈ hs.set i x, y = x ∨ ∃ (j : Nat) (hj : j < hs.length), i ≠ j ∧ y = hs[j] := fun y hy => by
    obtain ⟨j, hj, rfl⟩ := List.getElem_of_mem hy
    rw [List.length_set] at hj
    by_cases e : i = j
    · subst e
      exact .inl (by rw [List.getElem_set_self])
    · exact .inr ⟨j, hj, e, by rw [List.getElem_set_ne e]⟩
  refine ⟨h.blk.keep hk ⟨fun e => h.nd (e ▸ hg), h.nq hmi⟩, own_keep h.pr hk fun k hk => ⟨fun e => h.ngp hg (e ▸ hk), fun e => h.npq hmi e hk⟩, by rw [List.length_set]; exact hl, by rw [List.map_set, h.ds], fun y hy => ?_, ?_, .inl h.fd, fun k hk => .inl (h.fp k hk), fun k hk => .inl (h.fh k hk), fun y hy k hk => ?_⟩
  · rcases hz y hy with rfl | ⟨j, hj, hij, rfl⟩
    · exact hq
    · exact own_keep (h.qs _ (List.getElem_mem hj)) hk fun k hk => ⟨fun e => h.ngq (List.getElem_mem hj) hg (e ▸ hk), fun e => h.apart hi hj hij e hk⟩
  · refine List.pairwise_iff_getElem.2 fun a b ha hb hab k hka hkb => ?_
    rw [List.length_set] at ha hb
    rw [List.getElem_set] at hka hkb
    by_cases ea : i = a
    · subst ea
      have eb : i ≠ b := by omega
      rw [if_pos rfl] at hka
      rw [if_neg eb] at hkb
      rcases hn k hka with h1 | h1
      · exact h.apart hi hb eb h1 hkb
      · have := (own_lt (h.qs _ (List.getElem_mem hb)) hkb).2
        omega
    · rw [if_neg ea] at hka
      by_cases eb : i = b
      · subst eb
        rw [if_pos rfl] at hkb
        rcases hn k hkb with h1 | h1
        · exact h.apart hi ha ea h1 hka
        · have := (own_lt (h.qs _ (List.getElem_mem ha)) hka).2
          omega
      · rw [if_neg eb] at hkb
        exact h.apart ha hb (by omega) hka hkb
  · rcases hz y hy with rfl | ⟨j, hj, hij, rfl⟩
    · exact .inr hk
    · exact .inl (h.fq _ (List.getElem_mem hj) k hk)
/-- A lock's queue alone is stored. -/
theorem lock_q_cells {i : Nat} (hi : i < hs.length) (q : List Int) (v : Value) : (rcells DLk.cells hs).set (i * 4 + 3) v = rcells DLk.cells (hs.set i ⟨{ hs[i].d with queue := q }, v⟩) :=
  rcells_set dlk_four hs i hi 3 v _ (by omega) rfl
theorem DAt.setQ (h : DAt B F w d pv hv hs s) {i : Nat} (hi : i < hs.length) {g : Nat} (hg : hv.ownBlock = some g) (hk : Keep (fun k => hs[i].q.ownBlock ≠ some k) w w2) {q : List Int} {v : Value}
    (hq : w2.ownsRow B 3 1 v q.length (ics q)) (hn : ∀ k, v.ownBlock = some k → hs[i].q.ownBlock = some k ∨ w.heap.size ≤ k) :
    DAt B (fun k => F k ∨ v.ownBlock = some k) (w2.setCell ⟨g, i * 4 + 3, none⟩ v) d pv hv (hs.set i ⟨{ hs[i].d with queue := q }, v⟩) { s with locks := s.locks.set i { hs[i].d with queue := q } } := by
  have hl := own_keep h.lk hk fun k hk e => h.ngq (List.getElem_mem hi) hk e
  have hlen := h.hlen
  have hs2 := own_set hl hg (i := i * 4 + 3) (by omega) v
  rw [lock_q_cells hi q v] at hs2
  refine h.setLock hi ⟨{ hs[i].d with queue := q }, v⟩ hg ((hk.weaken fun k _ h => h.2).setCell (fun _ h => h.1 rfl) _) hs2 (own_far hq (p := ⟨g, i * 4 + 3, none⟩) (fun e => ?_) _) hn
  exact own_ne_own2 hl hq (by decide) hg e
/-- A lock is stored whole. -/
theorem lock_cells4 {i : Nat} (hi : i < hs.length) (x : DLk) : ((((rcells DLk.cells hs).set (i * 4) (str x.d.name)).set (i * 4 + 1) (.int .i64 x.d.holder)).set (i * 4 + 2) (.int .i64 x.d.token)).set (i * 4 + 3) x.q = rcells DLk.cells (hs.set i x) := by
  have h0 := rcells_set dlk_four hs i hi 0 (str x.d.name) ⟨⟨x.d.name, hs[i].d.holder, hs[i].d.token, hs[i].d.queue⟩, hs[i].q⟩ (by omega) rfl
  rw [Nat.add_zero] at h0
  have h1 := rcells_set dlk_four (hs.set i ⟨⟨x.d.name, hs[i].d.holder, hs[i].d.token, hs[i].d.queue⟩, hs[i].q⟩) i (by simpa using hi) 1 (.int .i64 x.d.holder) ⟨⟨x.d.name, x.d.holder, hs[i].d.token, hs[i].d.queue⟩, hs[i].q⟩ (by omega) (by rw [List.getElem_set_self]; rfl)
  rw [List.set_set] at h1
  have h2 := rcells_set dlk_four (hs.set i ⟨⟨x.d.name, x.d.holder, hs[i].d.token, hs[i].d.queue⟩, hs[i].q⟩) i (by simpa using hi) 2 (.int .i64 x.d.token) ⟨⟨x.d.name, x.d.holder, x.d.token, hs[i].d.queue⟩, hs[i].q⟩ (by omega) (by rw [List.getElem_set_self]; rfl)
  rw [List.set_set] at h2
  have h3 := rcells_set dlk_four (hs.set i ⟨⟨x.d.name, x.d.holder, x.d.token, hs[i].d.queue⟩, hs[i].q⟩) i (by simpa using hi) 3 x.q x (by omega) (by rw [List.getElem_set_self]; rfl)
  rw [List.set_set] at h3
  rw [h0, h1, h2, h3]
theorem DAt.setLock4 (h : DAt B F w d pv hv hs s) {i : Nat} (hi : i < hs.length) (x : DLk) {g : Nat} (hg : hv.ownBlock = some g) (hk : Fresh w w2) (hq : w2.ownsRow B 3 1 x.q x.d.queue.length (ics x.d.queue))
    (hn : ∀ k, x.q.ownBlock = some k → hs[i].q.ownBlock = some k ∨ w.heap.size ≤ k) :
    DAt B (fun k => F k ∨ x.q.ownBlock = some k) ((((w2.setCell ⟨g, i * 4, none⟩ (str x.d.name)).setCell ⟨g, i * 4 + 1, none⟩ (.int .i64 x.d.holder)).setCell ⟨g, i * 4 + 2, none⟩ (.int .i64 x.d.token)).setCell ⟨g, i * 4 + 3, none⟩ x.q) d pv hv (hs.set i x) { s with locks := s.locks.set i x.d } := by
  have hl := own_keep h.lk hk fun _ _ => trivial
  have hlen := h.hlen
  have hs2 := own_set (own_set (own_set (own_set hl hg (i := i * 4) (by omega) (str x.d.name)) hg (i := i * 4 + 1) (by omega) (.int .i64 x.d.holder)) hg (i := i * 4 + 2) (by omega) (.int .i64 x.d.token)) hg (i := i * 4 + 3) (by omega) x.q
  rw [lock_cells4 hi x] at hs2
  have hne : x.q.ownBlock ≠ some g := fun e => own_ne_own2 hl hq (by decide) hg e
  refine h.setLock hi x hg (((((hk.weaken fun _ _ _ => trivial).setCell (fun _ h => h.1 rfl) _).setCell (fun _ h => h.1 rfl) _).setCell (fun _ h => h.1 rfl) _).setCell (fun _ h => h.1 rfl) _) hs2 ?_ hn
  exact own_far (own_far (own_far (own_far hq (p := ⟨g, i * 4, none⟩) hne _) (p := ⟨g, i * 4 + 1, none⟩) hne _) (p := ⟨g, i * 4 + 2, none⟩) hne _) (p := ⟨g, i * 4 + 3, none⟩) hne _
end
/-- The machine's blocks, and no others. -/
def DFoot (d : Nat) (pv hv : Value) (hs : List DLk) (k : Nat) : Prop := k = d ∨ pv.ownBlock = some k ∨ hv.ownBlock = some k ∨ ∃ x ∈ hs, x.q.ownBlock = some k
section
variable {B : Nat} {F : Nat → Prop} {w : World} {d : Nat} {pv hv : Value} {hs : List DLk} {s : StD}
theorem DAt.min (h : DAt B F w d pv hv hs s) : DAt B (DFoot d pv hv hs) w d pv hv hs s :=
  ⟨h.blk, h.pr, h.lk, h.ds, h.qs, h.ap, .inl rfl, fun k hk => .inr (.inl hk), fun k hk => .inr (.inr (.inl hk)), fun x hx k hk => .inr (.inr (.inr ⟨x, hx, hk⟩))⟩
theorem DAt.footF (h : DAt B F w d pv hv hs s) {k : Nat} (hk : DFoot d pv hv hs k) : F k := by
  rcases hk with rfl | hk | hk | ⟨x, hx, hk⟩
  · exact h.fd
  · exact h.fp k hk
  · exact h.fh k hk
  · exact h.fq x hx k hk
theorem DAt.footL (h : DAt B F w d pv hv hs s) {k : Nat} (hk : DFoot d pv hv hs k) : k < w.heap.size := by
  rcases hk with rfl | hk | hk | ⟨x, hx, hk⟩
  · exact h.blk.lt
  · exact (own_lt h.pr hk).2
  · exact (own_lt h.lk hk).2
  · exact (own_lt (h.qs x hx) hk).2
theorem DAt.footN (h : DAt B F w d pv hv hs s) {g : Nat} {t : TypeId} {cs : Array Value} (hb : Blk w g t cs) (h1 : 192 ≠ t) (h2 : 222 ≠ t) (h3 : 206 ≠ t) (h4 : 3 ≠ t) : ¬ DFoot d pv hv hs g := by
  rintro (rfl | hk | hk | ⟨x, hx, hk⟩)
  · exact h.blk.ne hb h1 rfl
  · exact own_ne_blk h.pr hb h2 hk
  · exact own_ne_blk h.lk hb h3 hk
  · exact own_ne_blk (h.qs x hx) hb h4 hk
end
/-- The machine d has gone on to s2. -/
def DStep (B : Nat) (F : Nat → Prop) (w : World) (d : Nat) (s2 : StD) (w2 : World) : Prop :=
  (∃ pv hv hs F2, DAt B F2 w2 d pv hv hs s2 ∧ ∀ j, F2 j → F j ∨ w.heap.size ≤ j) ∧ Keep (fun j => ¬ F j) w w2
section
variable {B : Nat} {F F1 : Nat → Prop} {w w1 w2 : World} {d : Nat} {pv hv : Value} {hs : List DLk} {s s2 : StD}
theorem DAt.stay (h : DAt B F w d pv hv hs s) (hf : Fresh w w2) : DStep B F w d s w2 := ⟨⟨pv, hv, hs, F, h.fresh hf, fun _ h => .inl h⟩, hf.weaken fun _ _ _ => trivial⟩
theorem DStep.next (h : DStep B F1 w1 d s2 w2) (hF : ∀ j, F1 j → F j ∨ w.heap.size ≤ j) (hk : Keep (fun j => ¬ F j) w w1) : DStep B F w d s2 w2 := by
  obtain ⟨⟨pv, hv, hs, F2, hd, hF2⟩, hk2⟩ := h
  have := hk.size
  refine ⟨⟨pv, hv, hs, F2, hd, fun j hj => (hF2 j hj).elim (fun h => hF j h) fun h => .inr (by omega)⟩, hk.comp hk2 (fun _ _ h => h) fun j hj h hF1 => (hF j hF1).elim h (by omega)⟩
theorem DStep.fresh (h : DStep B F w d s2 w1) (hf : Fresh w1 w2) : DStep B F w d s2 w2 := by
  obtain ⟨⟨pv, hv, hs, F2, hd, hF2⟩, hk2⟩ := h
  exact ⟨⟨pv, hv, hs, F2, hd.fresh hf, hF2⟩, hk2.comp hf (fun _ _ h => h) fun _ _ _ => trivial⟩
end
end Go.Proofs.YtohnmaindbgngaaGreatDoor
namespace Go.Proofs.YtohnmaindbgngaaGreatDoor
set_option linter.unusedVariables false
set_option linter.unusedSimpArgs false
open Go.RowKit

theorem pair_erase {α : Type} {R : α → α → Prop} {l : List α} (h : l.Pairwise R) (i : Nat) : (l.eraseIdx i).Pairwise R := h.sublist (List.eraseIdx_sublist l i)
theorem map_erase {α β : Type} (f : α → β) (l : List α) (i : Nat) : (l.eraseIdx i).map f = (l.map f).eraseIdx i := by
  rw [List.eraseIdx_eq_take_drop_succ, List.eraseIdx_eq_take_drop_succ, List.map_append, List.map_take, List.map_drop]
/-- What 'passed' leaves. -/
def PassPost (B : Nat) (F : Nat → Prop) (w : World) (d : Nat) (pv : Value) (P : Int × StD) (e : Ending) (w' : World) : Prop :=
  e = .returned (.int .i64 P.1) ∧ (∃ hv' hs' F', DAt B F' w' d pv hv' hs' P.2 ∧ ∀ j, F' j → F j ∨ w.heap.size ≤ j) ∧ Keep (fun j => ¬ F j) w w'
set_option maxRecDepth 20000 in
set_option maxHeartbeats 1000000 in
theorem passed_any {B : Nat} {F : Nat → Prop} {w : World} {d : Nat} {pv hv : Value} {hs : List DLk} {s : StD} (h : DAt B F w d pv hv hs s) (hi : LInv s.locks s.tok) {i : Nat} (hl : i < s.locks.length) (hB : B ≤ w.heap.size) :
    Calls Tryz.prog 128 #[.pointer (some ⟨d, 0, none⟩), .int .i64 (i : Int)] w (PassPost B F w d pv (passD s.locks[i].name s)) := by
  have hn := hi.len
  have hpa := pass_at hi.rise hl
  obtain ⟨P, hP⟩ : ∃ P, P = passD s.locks[i].name s := ⟨_, rfl⟩
  rw [← hP] at hpa ⊢
  clear hP
  obtain ⟨n, hnn⟩ : ∃ n, n = s.locks.length := ⟨_, rfl⟩
  obtain ⟨tk, htk⟩ : ∃ t, t = s.tok := ⟨_, rfl⟩
  have hlen := h.hlen
  have hih : i < hs.length := by omega
  have hdi : hs[i].d = s.locks[i] := by
    have h2 := h.ds
    have h3 : (hs.map DLk.d)[i]'(by simpa using hih) = hs[i].d := by simp
    rw [← h3]
    exact List.getElem_of_eq h2 _
  rw [← hdi] at hpa
  have hlk := h.lk
  rw [← hnn] at hlk hl hn hlen
  obtain ⟨g, cc, rfl, hbg, hgl⟩ := own_form hlk (by omega)
  have hrd : Rd w (fun k => k = g) 4 (some ⟨g, 0, none⟩) n (rcells DLk.cells hs) := Blk.rdOwn hlk
  have hone := h.one (List.getElem_mem hih)
  have hown := h.qs _ (List.getElem_mem hih)
  obtain ⟨x, hx⟩ : ∃ x, x = hs[i] := ⟨_, rfl⟩
  have hqi := queue_len (hi.each _ (List.getElem_mem (by rw [← hnn]; exact hl))).nd (hi.each _ (List.getElem_mem (by rw [← hnn]; exact hl))).q
  rw [← hdi] at hqi
  rw [← hx] at hone hown hpa hqi
  obtain ⟨_, b0, o0, e0, -, c0, c1, c2, c3⟩ := hrd.lockE hl
  injection e0 with e0
  injection e0 with e0 e00
  subst e0 e00
  rw [← hx] at c0 c1 c2 c3
  obtain ⟨⟨nm, ho, t0, q⟩, qv⟩ := x
  simp only at hone hown c0 c1 c2 c3 hpa hqi
  rw [Nat.zero_add] at c0 c1 c2 c3
  obtain ⟨Aq, cq, rfl, hcq, hrq, -⟩ := own_rdc hown
  obtain ⟨nq, hnq⟩ : ∃ nq, nq = q.length := ⟨_, rfl⟩
  rw [← hnq] at hcq hrq hqi c3
  have x1 := h.three.2.1
  have x2 := h.three.2.2
  rw [← htk] at x2 hpa
  have ld := h.blk.lt
  have hii : (i : Int) < (n : Int) := by omega
  have htk0 := hi.tok0
  have htk1 := hi.tok1
  rw [← htk] at htk0 htk1
  have HA := Lib.hid (And.intro h (And.intro hi (And.intro hlk (And.intro hrd (And.intro hrq (And.intro hx (And.intro hpa (And.intro hB (And.intro hlen (And.intro htk (And.intro hnn (And.intro hnq hown))))))))))))
  have HRow := Lib.hid (And.intro c0 (And.intro c1 (And.intro c2 c3)))
  clear h hi hlk hrd hrq hx hpa hB hdi htk hnn hnq hown hlen hone
  go_enter Tryz.func128, Tryz.ntmps128
  go_wp2_with (refine wpList_store_new rfl (.tmp 5) (.tmp 16) rfl _ #[str nm, .int .i64 ho, .int .i64 t0, .slice Aq nq cq] _ rfl rfl rfl (by kernel_rfl) (lockA_one _ _ _ _ rfl) ?_)
  intro w1 hb1 hf1 hs1
  obtain ⟨g5, hg5⟩ : ∃ g, g = w.heap.size := ⟨_, rfl⟩
  rw [← hg5] at hb1 ⊢
  have k0 := hb1.cell 0; have k3 := hb1.cell 3
  simp at k0 k3
  have l5 := hb1.lt
  have x1 := hf1.cellAt x1 trivial
  have x2 := hf1.cellAt x2 trivial
  have ld := Nat.lt_of_lt_of_le ld hf1.size
  have H1 := Lib.hid (And.intro hf1 (And.intro hb1 hg5))
  clear hb1 hf1 hs1 hg5 c0 c1 c2 c3
  have hcs : nq = 0 ∨ (0 < nq ∧ 99999999 ≤ tk) ∨ (0 < nq ∧ tk < 99999999) := by omega
  rcases hcs with hq | ⟨hq, ht⟩ | ⟨hq, ht⟩
  · subst hq
    have HP : Hid (P = (0, { s with locks := s.locks.eraseIdx i })) := Lib.hid (by
      have h1 := HA.out.2.2.2.2.2.2.1
      have h2 := HA.out.2.2.2.2.2.2.2.2.2.2.2.1
      rw [h1]
      have h3 : tk = s.tok := HA.out.2.2.2.2.2.2.2.2.2.1
      obtain rfl : q = [] := List.eq_nil_of_length_eq_zero h2.symm
      simp only
      rw [h3])
    go_wp2_with fail
    go_loopw [8, 9] (fun v8 iv wr => ∃ j : Nat, j ≤ n ∧ iv = .int .i64 (j : Int) ∧ Hid (wr.ownsRow w1.heap.size 206 4 v8 ((hs.take j).eraseIdx i).length (rcells DLk.cells ((hs.take j).eraseIdx i)) ∧ Fresh w1 wr)) (fun _ i _ => n - (intOf i).toNat)
    case atStart => exact ⟨0, by omega, rfl, Lib.hid ⟨by exact World.ownsRow_nil _ _ _ _, Keep.refl _ _⟩⟩
    case round =>
      rename World => wr
      obtain ⟨j, hj, rfl, HR⟩ := hrel
      have hfr := H1.out.1.then HR.out.2
      have x1 := HR.out.2.cellAt x1 trivial
      have ldr := Nat.lt_of_lt_of_le ld HR.out.2.size
      by_cases hlt : j < n
      · obtain ⟨hjl, b8, o8, e8, -, d0, d1, d2, d3⟩ := HA.out.2.2.2.1.lockE hlt
        injection e8 with e8
        injection e8 with e8 e80
        subst e8 e80
        rw [Nat.zero_add] at d0 d1 d2 d3
        have hone := HA.out.1.one (List.getElem_mem hjl)
        obtain ⟨y, hy⟩ : ∃ y, y = hs[j] := ⟨_, rfl⟩
        rw [← hy] at d0 d1 d2 d3 hone
        obtain ⟨⟨en, eh, et, eqq⟩, eq⟩ := y
        simp only at d0 d1 d2 d3 hone
        have d0 := hfr.cellAt d0 trivial
        have d1 := hfr.cellAt d1 trivial
        have d2 := hfr.cellAt d2 trivial
        have d3 := hfr.cellAt d3 trivial
        have lg := lt_of_cell d0
        have hji : (j : Int) < (n : Int) := by omega
        by_cases hij : j = i
        · subst hij
          have HT : Hid ((hs.take (j + 1)).eraseIdx j = (hs.take j).eraseIdx j) := Lib.hid (erase_skip hjl)
          clear hy hjl hone hfr
          go_wp2_with fail
          exact ⟨⟨j + 1, by omega, by simp, Lib.hid ⟨by rw [HT.out]; exact HR.out.1, HR.out.2⟩⟩, by simp only [intOf]; omega⟩
        · have HT : Hid ((hs.take (j + 1)).eraseIdx i = (hs.take j).eraseIdx i ++ [⟨⟨en, eh, et, eqq⟩, eq⟩]) := Lib.hid (by rw [erase_step hjl hij, ← hy])
          have HLn : Hid (((hs.take j).eraseIdx i).length ≤ 100) := Lib.hid (by
            have := List.length_eraseIdx_le (hs.take j) i
            have := List.length_take_le j hs
            omega)
          have hb : (!((j : Int) == (i : Int))) = true := by simp; omega
          clear hy hjl hfr
          go_wp2_with (at_builtin; refine wpList_appB etLock rfl (.tmp 84) (.tmp 92) rfl #[str en, .int .i64 eh, .int .i64 et, eq] 206 rfl (lockL_one _ _ _ _ hone) w1.heap.size _ _ _ wr.heap.size rfl rfl rfl HR.out.1 (by have := HLn.out; omega) HR.out.2.size ?_)
          intro v5 w5 ho5 hk5 hn5
          have H5 : Hid (w5.ownsRow w1.heap.size 206 4 v5 ((hs.take (j + 1)).eraseIdx i).length (rcells DLk.cells ((hs.take (j + 1)).eraseIdx i)) ∧ Fresh w1 w5) := Lib.hid ⟨by
            rw [HT.out]
            simpa [rcells_append, rcells_cons, rcells_nil, DLk.cells] using ho5, HR.out.2.comp hk5 (fun _ _ h => h) (fun i hi _ e => by have := (own_lt HR.out.1 e).1; omega)⟩
          clear ho5 hk5 hn5
          go_wp2_with fail
          exact ⟨⟨j + 1, by omega, by simp, H5⟩, by simp only [intOf]; omega⟩
      · obtain rfl : n = j := by omega
        have hall : hs.take n = hs := List.take_of_length_le (by rw [HA.out.2.2.2.2.2.2.2.2.1]; exact Nat.le_refl _)
        have ho := HR.out.1
        rw [hall] at ho
        have hd : (hs.eraseIdx i).map DLk.d = s.locks.eraseIdx i := by rw [map_erase, HA.out.1.ds]
        have hle : (hs.eraseIdx i).length = (s.locks.eraseIdx i).length := by rw [← hd, List.length_map]
        rw [hle] at ho
        have hsub : ∀ y ∈ hs.eraseIdx i, y ∈ hs := fun y hy => (List.eraseIdx_sublist hs i).subset hy
        have hD := HA.out.1.setLocks hfr (Nat.le_trans HA.out.2.2.2.2.2.2.2.1 H1.out.1.size) ho hd (fun y hy => own_keep (HA.out.1.qs y (hsub y hy)) hfr fun _ _ => trivial) (pair_erase HA.out.1.ap i)
        obtain ⟨A5, c5, rfl, -⟩ := own_rd ho
        have z1 := (HA.out.1.fresh hfr).blk.frozen 1
        have hpost : PassPost B F w d pv (0, { s with locks := s.locks.eraseIdx i }) (.returned (.int .i64 0)) (wr.setCell ⟨d, 1, none⟩ (.slice A5 (s.locks.eraseIdx i).length c5)) := ⟨rfl, ⟨_, _, _, hD, fun j hj => by
          rcases hj with hj | hj | ⟨y, hy, hj⟩
          · exact .inl hj
          · exact .inr (Nat.le_trans H1.out.1.size (own_lt ho hj).1)
          · exact .inl (HA.out.1.fq y (hsub y hy) j hj)⟩, (hfr.weaken fun _ _ _ => trivial).setCell (fun _ h => h HA.out.1.fd) _⟩
        have HPo := Lib.hid hpost
        clear hall ho hd hle hsub hD hpost hfr
        go_wp2_with fail
        go_ret
        rw [HP.out]
        exact HPo.out
  · have hqi2 : (0 : Int) < (nq : Int) := by omega
    have HP : Hid (P = (0, { s with locks := s.locks.eraseIdx i })) := Lib.hid (by
      have h1 := HA.out.2.2.2.2.2.2.1
      have h2 := HA.out.2.2.2.2.2.2.2.2.2.2.2.1
      rw [h1]
      obtain ⟨qc, qs, rfl⟩ : ∃ a b, q = a :: b := by
        cases q
        · simp at h2; omega
        · exact ⟨_, _, rfl⟩
      have h3 : tk = s.tok := HA.out.2.2.2.2.2.2.2.2.2.1
      simp only
      rw [if_pos ht, h3])
    go_wp2_with fail
    go_loopw [8, 9] (fun v8 iv wr => ∃ j : Nat, j ≤ n ∧ iv = .int .i64 (j : Int) ∧ Hid (wr.ownsRow w1.heap.size 206 4 v8 ((hs.take j).eraseIdx i).length (rcells DLk.cells ((hs.take j).eraseIdx i)) ∧ Fresh w1 wr)) (fun _ i _ => n - (intOf i).toNat)
    case atStart => exact ⟨0, by omega, rfl, Lib.hid ⟨by exact World.ownsRow_nil _ _ _ _, Keep.refl _ _⟩⟩
    case round =>
      rename World => wr
      obtain ⟨j, hj, rfl, HR⟩ := hrel
      have hfr := H1.out.1.then HR.out.2
      have x1 := HR.out.2.cellAt x1 trivial
      have ldr := Nat.lt_of_lt_of_le ld HR.out.2.size
      by_cases hlt : j < n
      · obtain ⟨hjl, b8, o8, e8, -, d0, d1, d2, d3⟩ := HA.out.2.2.2.1.lockE hlt
        injection e8 with e8
        injection e8 with e8 e80
        subst e8 e80
        rw [Nat.zero_add] at d0 d1 d2 d3
        have hone := HA.out.1.one (List.getElem_mem hjl)
        obtain ⟨y, hy⟩ : ∃ y, y = hs[j] := ⟨_, rfl⟩
        rw [← hy] at d0 d1 d2 d3 hone
        obtain ⟨⟨en, eh, et, eqq⟩, eq⟩ := y
        simp only at d0 d1 d2 d3 hone
        have d0 := hfr.cellAt d0 trivial
        have d1 := hfr.cellAt d1 trivial
        have d2 := hfr.cellAt d2 trivial
        have d3 := hfr.cellAt d3 trivial
        have lg := lt_of_cell d0
        have hji : (j : Int) < (n : Int) := by omega
        by_cases hij : j = i
        · subst hij
          have HT : Hid ((hs.take (j + 1)).eraseIdx j = (hs.take j).eraseIdx j) := Lib.hid (erase_skip hjl)
          clear hy hjl hone hfr
          go_wp2_with fail
          exact ⟨⟨j + 1, by omega, by simp, Lib.hid ⟨by rw [HT.out]; exact HR.out.1, HR.out.2⟩⟩, by simp only [intOf]; omega⟩
        · have HT : Hid ((hs.take (j + 1)).eraseIdx i = (hs.take j).eraseIdx i ++ [⟨⟨en, eh, et, eqq⟩, eq⟩]) := Lib.hid (by rw [erase_step hjl hij, ← hy])
          have HLn : Hid (((hs.take j).eraseIdx i).length ≤ 100) := Lib.hid (by
            have := List.length_eraseIdx_le (hs.take j) i
            have := List.length_take_le j hs
            omega)
          have hb : (!((j : Int) == (i : Int))) = true := by simp; omega
          clear hy hjl hfr
          go_wp2_with (at_builtin; refine wpList_appB etLock rfl (.tmp 84) (.tmp 92) rfl #[str en, .int .i64 eh, .int .i64 et, eq] 206 rfl (lockL_one _ _ _ _ hone) w1.heap.size _ _ _ wr.heap.size rfl rfl rfl HR.out.1 (by have := HLn.out; omega) HR.out.2.size ?_)
          intro v5 w5 ho5 hk5 hn5
          have H5 : Hid (w5.ownsRow w1.heap.size 206 4 v5 ((hs.take (j + 1)).eraseIdx i).length (rcells DLk.cells ((hs.take (j + 1)).eraseIdx i)) ∧ Fresh w1 w5) := Lib.hid ⟨by
            rw [HT.out]
            simpa [rcells_append, rcells_cons, rcells_nil, DLk.cells] using ho5, HR.out.2.comp hk5 (fun _ _ h => h) (fun i hi _ e => by have := (own_lt HR.out.1 e).1; omega)⟩
          clear ho5 hk5 hn5
          go_wp2_with fail
          exact ⟨⟨j + 1, by omega, by simp, H5⟩, by simp only [intOf]; omega⟩
      · obtain rfl : n = j := by omega
        have hall : hs.take n = hs := List.take_of_length_le (by rw [HA.out.2.2.2.2.2.2.2.2.1]; exact Nat.le_refl _)
        have ho := HR.out.1
        rw [hall] at ho
        have hd : (hs.eraseIdx i).map DLk.d = s.locks.eraseIdx i := by rw [map_erase, HA.out.1.ds]
        have hle : (hs.eraseIdx i).length = (s.locks.eraseIdx i).length := by rw [← hd, List.length_map]
        rw [hle] at ho
        have hsub : ∀ y ∈ hs.eraseIdx i, y ∈ hs := fun y hy => (List.eraseIdx_sublist hs i).subset hy
        have hD := HA.out.1.setLocks hfr (Nat.le_trans HA.out.2.2.2.2.2.2.2.1 H1.out.1.size) ho hd (fun y hy => own_keep (HA.out.1.qs y (hsub y hy)) hfr fun _ _ => trivial) (pair_erase HA.out.1.ap i)
        obtain ⟨A5, c5, rfl, -⟩ := own_rd ho
        have z1 := (HA.out.1.fresh hfr).blk.frozen 1
        have hpost : PassPost B F w d pv (0, { s with locks := s.locks.eraseIdx i }) (.returned (.int .i64 0)) (wr.setCell ⟨d, 1, none⟩ (.slice A5 (s.locks.eraseIdx i).length c5)) := ⟨rfl, ⟨_, _, _, hD, fun j hj => by
          rcases hj with hj | hj | ⟨y, hy, hj⟩
          · exact .inl hj
          · exact .inr (Nat.le_trans H1.out.1.size (own_lt ho hj).1)
          · exact .inl (HA.out.1.fq y (hsub y hy) j hj)⟩, (hfr.weaken fun _ _ _ => trivial).setCell (fun _ h => h HA.out.1.fd) _⟩
        have HPo := Lib.hid hpost
        clear hall ho hd hle hsub hD hpost hfr
        go_wp2_with fail
        go_ret
        rw [HP.out]
        exact HPo.out
  · have hqi2 : (0 : Int) < (nq : Int) := by omega
    have ht0 : tk < 99999999 := ht
    obtain ⟨qc, qs, rfl⟩ : ∃ a b, q = a :: b := by
      have h2 := HA.out.2.2.2.2.2.2.2.2.2.2.2.1
      cases q
      · simp at h2; omega
      · exact ⟨_, _, rfl⟩
    have HP : Hid (P = (tk + 1, { s with locks := s.locks.set i ⟨nm, qc, tk + 1, qs⟩, tok := tk + 1 })) := Lib.hid (by
      have h1 := HA.out.2.2.2.2.2.2.1
      rw [h1]
      have h3 : tk = s.tok := HA.out.2.2.2.2.2.2.2.2.2.1
      simp only
      rw [if_neg (by omega), h3])
    have HNq : Hid (nq = qs.length + 1) := Lib.hid (by have h2 := HA.out.2.2.2.2.2.2.2.2.2.2.2.1; simpa using h2)
    have hqd : (Value.slice Aq nq cq).ownBlock ≠ some d := by
      have h1 := own_ne_blk HA.out.2.2.2.2.2.2.2.2.2.2.2.2 HA.out.1.blk (by decide)
      rwa [← HA.out.2.2.2.2.2.2.2.2.2.2.2.1] at h1
    have hqg : (Value.slice Aq nq cq).ownBlock ≠ some g := by
      have h1 := own_ne_own2 (k := g) HA.out.2.2.1 HA.out.2.2.2.2.2.2.2.2.2.2.2.2 (by decide) (by simp [Value.ownBlock])
      rwa [← HA.out.2.2.2.2.2.2.2.2.2.2.2.1] at h1
    have HQG := Lib.hid hqg
    have HQR := Lib.hid (fun (w' : World) (hk : Keep (fun k => k ≠ d) w w') => HA.out.2.2.2.2.1.keep (hk.weaken fun k _ (h : (Value.slice Aq nq cq).ownBlock = some k) e => hqd (e ▸ h)))
    clear hqd hqg
    have hT := (HA.out.1.fresh H1.out.1).setTok (tk + 1)
    have z2 := (HA.out.1.fresh H1.out.1).blk.frozen 2
    have hgd := H1.out.2.1.ne (HA.out.1.fresh H1.out.1).blk (by decide)
    obtain ⟨w2, hw2⟩ : ∃ w2, w2 = w1.setCell ⟨d, 2, none⟩ (.int .i64 (tk + 1)) := ⟨_, rfl⟩
    rw [← hw2] at hT
    have hk2 : Keep (fun j => j ≠ d) w w2 := by rw [hw2]; exact (H1.out.1.weaken fun _ _ _ => trivial).setCell (fun _ h => h rfl) _
    have hb2 : Blk w2 g5 206 #[str nm, .int .i64 ho, .int .i64 t0, .slice Aq nq cq] := by rw [hw2]; exact H1.out.2.1.far hgd _
    have hs2 : w2.heap.size = w1.heap.size := by rw [hw2]; simp [World.setCell]
    have H2 := Lib.hid (And.intro hT (And.intro hk2 (And.intro hb2 hs2)))
    clear hT hk2 hb2 hs2 hgd
    go_upto_region 4 with (fail)
    rw [← hw2]
    clear hw2 x1 x2 z2 k0 k3 l5 ld
    have k0 := H2.out.2.2.1.cell 0; have k3 := H2.out.2.2.1.cell 3
    simp at k0 k3
    have l5 := H2.out.2.2.1.lt
    have x1 := H2.out.1.three.2.1
    have x2 := H2.out.1.three.2.2
    simp only at x2
    have ld := H2.out.1.blk.lt
    go_wp2_with fail
    go_loopw [6, 7] (fun v6 iv wr => ∃ j : Nat, 1 ≤ j ∧ j ≤ nq ∧ iv = .int .i64 (j : Int) ∧ Hid (wr.ownsRow w2.heap.size 3 1 v6 (qs.take (j - 1)).length (ics (qs.take (j - 1))) ∧ Fresh w2 wr)) (fun _ i _ => nq - (intOf i).toNat)
    case atStart => exact ⟨1, by omega, by omega, rfl, Lib.hid ⟨by exact World.ownsRow_nil _ _ _ _, Keep.refl _ _⟩⟩
    case round =>
      rename World => wr
      obtain ⟨j, hj1, hj, rfl, HR⟩ := hrel
      have hb5 := H2.out.2.2.1.keep HR.out.2 trivial
      have k0 := hb5.cell 0; have k3 := hb5.cell 3
      simp at k0 k3
      have l5 := hb5.lt
      have hdr := H2.out.1.fresh HR.out.2
      have x1 := hdr.three.2.1
      have x2 := hdr.three.2.2
      simp only at x2
      have ld := hdr.blk.lt
      by_cases hlt : j < nq
      · have hrq := HQR.out wr (H2.out.2.1.comp HR.out.2 (fun _ _ h => h) fun _ _ _ => trivial)
        obtain ⟨b, o, rfl, -, hlk, e1⟩ := hrq.intAt hlt
        obtain ⟨y, hy⟩ : ∃ y, y = (qc :: qs)[j] := ⟨_, rfl⟩
        rw [← hy] at e1
        have HT : Hid (qs.take (j + 1 - 1) = qs.take (j - 1) ++ [y]) := Lib.hid (by
          obtain ⟨m, rfl⟩ : ∃ m, j = m + 1 := ⟨j - 1, by omega⟩
          have hm : m < qs.length := by have := HNq.out; omega
          have e : y = qs[m] := by rw [hy]; rfl
          rw [Nat.add_sub_cancel, Nat.add_sub_cancel, List.take_succ_eq_append_getElem hm, e])
        have HLn : Hid ((qs.take (j - 1)).length ≤ 100) := Lib.hid (by
          have := List.length_take_le (j - 1) qs
          have := HNq.out
          have := List.length_take_le' (j - 1) qs
          omega)
        have hji : (j : Int) < (nq : Int) := by omega
        have lbq := lt_of_cell e1
        clear hy hlk hrq hb5 hdr
        go_wp2_with (at_builtin; refine wpList_app1 etInt2 rfl (.tmp 42) (.tmp 48) rfl (.int .i64 y) _ rfl w2.heap.size _ _ _ rfl rfl HR.out.1 (by have := HLn.out; omega) HR.out.2.size ?_)
        intro v5 w5 ho5 hk5 hn5
        have H5 := Lib.hid (And.intro ho5 hk5)
        clear ho5 hk5 hn5
        go_wp2_with fail
        refine ⟨⟨j + 1, by omega, by omega, by simp, Lib.hid ⟨?_, HR.out.2.comp H5.out.2 (fun _ _ h => h) (fun i hi _ e => by have := (own_lt HR.out.1 e).1; omega)⟩⟩, by simp only [intOf]; omega⟩
        rw [HT.out]
        have h1 := H5.out.1
        simpa [ics] using h1
      · obtain rfl : nq = j := by omega
        have ho6 := HR.out.1
        have hall : qs.take (nq - 1) = qs := List.take_of_length_le (by have := HNq.out; omega)
        rw [hall] at ho6
        obtain ⟨A6, c6, rfl, -⟩ := own_rd ho6
        have hrq := HQR.out wr (H2.out.2.1.comp HR.out.2 (fun _ _ h => h) fun _ _ _ => trivial)
        obtain ⟨b, o, rfl, hzb, hlk, e1⟩ := hrq.intAt (k := 0) (by omega)
        rw [Nat.add_zero] at e1
        have e1 : wr.cell? ⟨b, o, none⟩ = some (.int .i64 qc) := e1
        have hlr := hdr.lk
        have hih : i < hs.length := by have := HA.out.2.2.2.2.2.2.2.2.1; omega
        obtain ⟨_, b0, o0, e0, -, c0, c1, c2, c3⟩ := (Blk.rdOwn (by rw [← HA.out.2.2.2.2.2.2.2.2.2.2.1] at hlr; exact hlr)).lockE hl
        injection e0 with e0
        injection e0 with e0 e00
        subst e0 e00
        rw [Nat.zero_add] at c0 c1 c2 c3
        have f0 := own_frozen hlr (g := g) (i * 4) (by simp [Value.ownBlock])
        have f1 := own_frozen hlr (g := g) (i * 4 + 1) (by simp [Value.ownBlock])
        have f2 := own_frozen hlr (g := g) (i * 4 + 2) (by simp [Value.ownBlock])
        have f3 := own_frozen hlr (g := g) (i * 4 + 3) (by simp [Value.ownBlock])
        have lg := lt_of_cell c0
        have ngd : d ≠ g := fun e => hdr.nd (by simp [Value.ownBlock, e])
        have ng5 : g5 ≠ g := by have := H1.out.2.2; omega
        have hbg : b ≠ g := fun e => HQG.out (e ▸ hzb)
        have HS : Hid (∀ w', Keep (fun k => k ≠ g) wr w' → w'.cell? ⟨d, 1, none⟩ = some (.slice (some ⟨g, 0, none⟩) n cc) ∧ w'.cell? ⟨d, 2, none⟩ = some (.int .i64 (tk + 1)) ∧ w'.cell? ⟨g5, 0, none⟩ = some (str nm) ∧ w'.cell? ⟨g5, 3, none⟩ = some (.slice (some ⟨b, o, none⟩) nq cq) ∧ w'.cell? ⟨b, o, none⟩ = some (.int .i64 qc)) := Lib.hid fun w' hk => ⟨hk.cellAt x1 ngd, hk.cellAt x2 ngd, hk.cellAt k0 ng5, hk.cellAt k3 ng5, hk.cellAt e1 hbg⟩
        have hwB : B ≤ w2.heap.size := by have := HA.out.2.2.2.2.2.2.2.1; have := H2.out.2.1.size; omega
        have hD := H2.out.1.setLock4 hih ⟨⟨nm, qc, tk + 1, qs⟩, .slice A6 qs.length c6⟩ (g := g) (by simp [Value.ownBlock]) (w2 := wr.drew) HR.out.2.drew (own_base (own_keep ho6 ((Keep.refl (fun _ => True) wr).drew) fun _ _ => trivial) hwB) (fun k hk => .inr (own_lt ho6 hk).1)
        have hgF := HA.out.1.fh g (by simp [Value.ownBlock])
        have hkF : Keep (fun j => ¬ F j) w ((((wr.drew.setCell ⟨g, i * 4, none⟩ (str nm)).setCell ⟨g, i * 4 + 1, none⟩ (.int .i64 qc)).setCell ⟨g, i * 4 + 2, none⟩ (.int .i64 (tk + 1))).setCell ⟨g, i * 4 + 3, none⟩ (.slice A6 qs.length c6)) :=
          (((((H2.out.2.1.comp HR.out.2.drew (Y := fun j => ¬ F j) (fun k _ h e => h (e ▸ HA.out.1.fd)) fun _ _ _ => trivial).setCell (fun _ h => h hgF) _).setCell (fun _ h => h hgF) _).setCell (fun _ h => h hgF) _).setCell (fun _ h => h hgF) _)
        have HF6 : Hid (∀ k, (Value.slice A6 qs.length c6).ownBlock = some k → w.heap.size ≤ k) := Lib.hid fun k hk => by have := (own_lt ho6 hk).1; have := H2.out.2.1.size; omega
        have HD := Lib.hid (And.intro hD hkF)
        clear hD hkF hgF hwB hrq ho6 hall hlr hb5 hdr
        go_upto_region 9 with (fail)
        go_cut [] (fun wz => Hid (DAt B (fun k => F k ∨ (Value.slice A6 qs.length c6).ownBlock = some k) wz d pv (.slice (some ⟨g, 0, none⟩) n cc) (hs.set i ⟨⟨nm, qc, tk + 1, qs⟩, .slice A6 qs.length c6⟩) { s with locks := s.locks.set i ⟨nm, qc, tk + 1, qs⟩, tok := tk + 1 } ∧ Keep (fun j => ¬ F j) w wz))
        case first =>
          go_region_held3 (fun w' => w'.cell? ⟨d, 1, none⟩ = some (.slice (some ⟨g, 0, none⟩) n cc) ∧ w'.cell? ⟨d, 2, none⟩ = some (.int .i64 (tk + 1)) ∧ w'.cell? ⟨g5, 0, none⟩ = some (str nm) ∧ w'.cell? ⟨g5, 3, none⟩ = some (.slice (some ⟨b, o, none⟩) nq cq) ∧ w'.cell? ⟨b, o, none⟩ = some (.int .i64 qc))
            (first | exact HS.out _ ((Keep.refl _ wr).drew) | exact HS.out _ ((((((Keep.refl _ wr).drew).setCell (fun _ h => h rfl) _).setCell (fun _ h => h rfl) _).setCell (fun _ h => h rfl) _).setCell (fun _ h => h rfl) _))
            (fail)
          all_goals
            go_wp2_with fail
            go_meet
            exact HD
        case rest =>
        rename World => wz
        have x2 := hcut.out.1.three.2.2
        simp only at x2
        have ldz := hcut.out.1.blk.lt
        go_wp2_with fail
        go_ret
        rw [HP.out]
        exact ⟨rfl, ⟨_, _, _, hcut.out.1, fun j hj => hj.imp id (HF6.out j)⟩, hcut.out.2⟩
end Go.Proofs.YtohnmaindbgngaaGreatDoor
