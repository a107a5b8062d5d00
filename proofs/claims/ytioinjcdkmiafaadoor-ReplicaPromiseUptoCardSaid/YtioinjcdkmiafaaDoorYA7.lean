/-
  MERGED: MacD DBase Bytes
-/
import Derived.Test.YtioinjcdkmiafaaDoorYA6
import Derived.Test.YtioinjcdkmiafaaDoorYA3
import Derived.Test.YtioinjcdkmiafaaDoorYA5
import Derived.Test.YtioinjcdkmiafaaDoorYA4
import Derived.Test.YtioinjcdkmiafaaDoorYA1
namespace Go.Proofs.YtioinjcdkmiafaaDoor
set_option linter.unusedVariables false
set_option linter.unusedSimpArgs false

structure ResD where
  code : Int
  val : Txt
  n : Int
deriving DecidableEq
structure SesD where
  inc : Int
  req : Int
  last : ResD
deriving DecidableEq
structure LockD where
  name : Txt
  holder : Int
  token : Int
  queue : List Int
deriving DecidableEq
structure StD where
  pairs : List (Txt × Txt)
  locks : List LockD
  tok : Int
  ss : List SesD
deriving DecidableEq
def noSes : SesD := ⟨0, 0, ⟨0, [], 0⟩⟩
def newD : StD := ⟨[], [], 0, List.replicate 16 noSes⟩
abbrev pfindD (k : Txt) (ps : List (Txt × Txt)) : Option (Txt × Txt) := findK Prod.fst k ps
abbrev lfind (k : Txt) (ls : List LockD) : Option LockD := findK LockD.name k ls
def pputD (k v : Txt) (ps : List (Txt × Txt)) : List (Txt × Txt) := match pfindD k ps with
  | some _ => setK Prod.fst (k, v) ps
  | none => insK Prod.fst (k, v) ps
/-- The lock is passed on: the new token; 0: it is gone. -/
def passD (k : Txt) (s : StD) : Int × StD := match lfind k s.locks with
  | none => (0, s)
  | some l => match l.queue with
    | [] => (0, { s with locks := delK LockD.name k s.locks })
    | c :: q => if 99999999 ≤ s.tok then (0, { s with locks := delK LockD.name k s.locks }) else (s.tok + 1, { s with locks := setK LockD.name ⟨k, c, s.tok + 1, q⟩ s.locks, tok := s.tok + 1 })
def leaveL (c : Int) (l : LockD) : LockD := { l with queue := l.queue.filter fun q => !(q == c) }
def passAll (ns : List Txt) (s : StD) : StD := ns.foldl (fun s k => (passD k s).2) s
def heldBy (c : Int) (ls : List LockD) : List Txt := (ls.filter fun l => l.holder == c).map LockD.name
def letsD (c : Int) (s : StD) : Int × StD := (((heldBy c s.locks).length : Int), passAll (heldBy c s.locks) { s with locks := s.locks.map (leaveL c) })
section
variable (num : Txt → Int × Bool) (ita : Int → Txt)
def onKeyD (o : Int) (k v d : Txt) (s : StD) : ResD × StD := match pfindD k s.pairs with
  | none => if o = 1 ∨ o = 5 then (if 16 ≤ s.pairs.length then (⟨4, [], 0⟩, s) else (⟨1, if o = 5 then v else [], 0⟩, { s with pairs := pputD k v s.pairs })) else (⟨2, [], 0⟩, s)
  | some (_, u) =>
    if o = 1 then (⟨1, u, 1⟩, { s with pairs := pputD k v s.pairs })
    else if o = 3 then (if u = d then (⟨1, u, 1⟩, { s with pairs := pputD k v s.pairs }) else (⟨3, u, 1⟩, s))
    else if o = 4 then (⟨1, u, 1⟩, { s with pairs := delK Prod.fst k s.pairs })
    else if o = 5 then (if (num u).2 = false then (⟨5, u, 1⟩, s) else if 8 < (ita ((num u).1 + (num v).1)).length then (⟨6, u, 1⟩, s) else (⟨1, ita ((num u).1 + (num v).1), 1⟩, { s with pairs := pputD k (ita ((num u).1 + (num v).1)) s.pairs }))
    else (⟨1, u, 1⟩, s)
def onLockD (c o : Int) (k v : Txt) (s : StD) : ResD × StD := match lfind k s.locks with
  | none => if o = 6 then (if 8 ≤ s.locks.length then (⟨4, [], 0⟩, s) else if 99999999 ≤ s.tok then (⟨11, [], 0⟩, s) else (⟨1, [], s.tok + 1⟩, { s with locks := insK LockD.name ⟨k, c, s.tok + 1, []⟩ s.locks, tok := s.tok + 1 })) else (⟨2, [], 0⟩, s)
  | some l =>
    if o = 6 then (if l.holder = c then (⟨1, [], l.token⟩, s) else if c ∈ l.queue then (⟨7, [], (l.queue.idxOf c : Int) + 1⟩, s) else (⟨7, [], (l.queue.length : Int) + 1⟩, { s with locks := setK LockD.name { l with queue := l.queue ++ [c] } s.locks }))
    else if o = 7 then (if l.holder = c then (⟨1, [], (passD k s).1⟩, (passD k s).2) else if c ∈ l.queue then (⟨8, [], 0⟩, { s with locks := setK LockD.name (leaveL c l) s.locks }) else (⟨2, [], 0⟩, s))
    else if (num v).1 = l.token then (⟨1, [], l.token⟩, s) else (⟨9, [], l.token⟩, s)
def endD (v : Txt) (s : StD) : ResD × StD := if (s.ss.getD (num v).1.toNat noSes).inc = 0 then (⟨2, [], 0⟩, s) else (⟨1, [], (letsD (num v).1 s).1⟩, (letsD (num v).1 s).2)
def doesD (c o : Int) (k v d : Txt) (s : StD) : ResD × StD := if o ≤ 5 then onKeyD num ita o k v d s else if o ≤ 8 then onLockD num c o k v s else endD num v s
/-- A valid command, done. -/
def applyV (c i r o : Int) (k v d : Txt) (s : StD) : ResD × StD :=
  let z := s.ss.getD c.toNat noSes
  if z.inc > i ∨ (z.inc = i ∧ z.req > r) then (⟨9, [], 0⟩, s)
  else if z.inc = i ∧ z.req = r then (z.last, s)
  else
    let s1 := if 0 < z.inc ∧ z.inc < i then (letsD c s).2 else s
    let x := doesD num ita c o k v d s1
    (x.1, { x.2 with ss := x.2.ss.set c.toNat ⟨i, r, x.1⟩ })
end

/-! ### what holds throughout -/
structure LOk (tok : Int) (l : LockD) : Prop where
  n1 : 1 ≤ l.name.length
  n8 : l.name.length ≤ 8
  h0 : 0 ≤ l.holder
  h1 : l.holder < 16
  t0 : 1 ≤ l.token
  t1 : l.token ≤ tok
  nd : l.queue.Nodup
  q : ∀ c ∈ l.queue, 0 ≤ c ∧ c < 16
  hq : l.holder ∉ l.queue
structure LInv (ls : List LockD) (tok : Int) : Prop where
  rise : Rise (ls.map LockD.name)
  each : ∀ l ∈ ls, LOk tok l
  apart : ls.Pairwise fun a b => a.token ≠ b.token
  len : ls.length ≤ 8
  tok0 : 0 ≤ tok
  tok1 : tok ≤ 99999999
theorem LOk.more {t t' : Int} {l : LockD} (h : LOk t l) (ht : t ≤ t') : LOk t' l := ⟨h.n1, h.n8, h.h0, h.h1, h.t0, by have := h.t1; omega, h.nd, h.q, h.hq⟩
theorem LInv.sub {ls ms : List LockD} {tok : Int} (h : LInv ls tok) (hs : List.Sublist ms ls) : LInv ms tok :=
  ⟨List.Pairwise.sublist (List.Sublist.map _ hs) h.rise, fun l hl => h.each l (hs.subset hl), h.apart.sublist hs, Nat.le_trans hs.length_le h.len, h.tok0, h.tok1⟩
/-- Each lock is turned, but for its name and its token. -/
theorem LInv.map {ls : List LockD} {tok : Int} (h : LInv ls tok) (f : LockD → LockD) (hn : ∀ l, (f l).name = l.name) (ht : ∀ l, (f l).token = l.token) (ho : ∀ l ∈ ls, LOk tok (f l)) : LInv (ls.map f) tok := by
  refine ⟨?_, fun l hl => ?_, ?_, by simpa using h.len, h.tok0, h.tok1⟩
  · rw [List.map_map]
    have : (ls.map (LockD.name ∘ f)) = ls.map LockD.name := List.map_congr_left fun l _ => hn l
    rw [this]
    exact h.rise
  · obtain ⟨m, hm, rfl⟩ := List.mem_map.1 hl
    exact ho m hm
  · rw [List.pairwise_map]
    exact h.apart.imp fun hab => by rwa [ht, ht]
theorem LInv.set {ls : List LockD} {tok tok' : Int} (h : LInv ls tok) (x : LockD) (hx : LOk tok' x) (ht : tok ≤ tok') (h1 : tok' ≤ 99999999) (hd : ∀ l ∈ ls, l.name ≠ x.name → l.token ≠ x.token) : LInv (setK LockD.name x ls) tok' := by
  refine ⟨by rw [setK_keys]; exact h.rise, fun l hl => ?_, ?_, by rw [setK_len]; exact h.len, by have := h.tok0; omega, h1⟩
  · rcases setK_mem hl with rfl | ⟨h2, _⟩
    · exact hx
    · exact (h.each l h2).more ht
  · unfold setK
    rw [List.pairwise_map]
    have hr : ls.Pairwise fun a b => a.name ≠ b.name := by
      have := h.rise
      unfold Rise at this
      rw [List.pairwise_map] at this
      exact this.imp before_ne
    refine (h.apart.and hr).imp_of_mem ?_
    intro a b ha hb hab
    obtain ⟨h3, h4⟩ := hab
    by_cases e1 : a.name = x.name
    · have e2 : b.name ≠ x.name := fun e => h4 (e1.trans e.symm)
      simp only [e1, beq_self_eq_true, if_true, beq_iff_eq, e2, if_false]
      exact (hd b hb e2).symm
    · by_cases e2 : b.name = x.name
      · simp only [e2, beq_self_eq_true, if_true, beq_iff_eq, e1, if_false]
        exact hd a ha e1
      · simp only [beq_iff_eq, e1, e2, if_false]
        exact h3
theorem LInv.ins {ls : List LockD} {tok : Int} (h : LInv ls tok) (x : LockD) (hx : LOk (tok + 1) x) (hxt : x.token = tok + 1) (hn : ∀ l ∈ ls, l.name ≠ x.name) (hl : ls.length < 8) (ht : tok < 99999999) : LInv (insK LockD.name x ls) (tok + 1) := by
  refine ⟨insK_rise h.rise hn, fun l hl => ?_, ?_, by rw [insK_len]; omega, by have := h.tok0; omega, by omega⟩
  · rcases insK_mem.1 hl with rfl | h2
    · exact hx
    · exact (h.each l h2).more (by omega)
  · have hold : ∀ l ∈ ls, l.token ≠ x.token := fun l hl => by have := (h.each l hl).t1; omega
    have gen : ∀ ms : List LockD, (∀ l ∈ ms, l.token ≠ x.token) → ms.Pairwise (fun a b => a.token ≠ b.token) → (insK LockD.name x ms).Pairwise fun a b => a.token ≠ b.token := by
      intro ms
      induction ms with
      | nil => intro _ _; simp [insK]
      | cons y r ih =>
        intro h1 h2
        obtain ⟨c1, c2⟩ := List.pairwise_cons.1 h2
        unfold insK
        split
        · exact List.pairwise_cons.2 ⟨fun z hz => (h1 z hz).symm, h2⟩
        · refine List.pairwise_cons.2 ⟨fun z hz => ?_, ih (fun l hl => h1 l (by simp [hl])) c2⟩
          rcases insK_mem.1 hz with rfl | hz
          · exact h1 y (by simp)
          · exact c1 z hz
    exact gen ls hold h.apart
theorem leave_ok {tok c : Int} {l : LockD} (h : LOk tok l) : LOk tok (leaveL c l) :=
  ⟨h.n1, h.n8, h.h0, h.h1, h.t0, h.t1, h.nd.filter _, fun x hx => h.q x (List.mem_filter.1 hx).1, fun hm => h.hq (List.mem_filter.1 hm).1⟩
theorem LInv.leave {ls : List LockD} {tok : Int} (h : LInv ls tok) (c : Int) : LInv (ls.map (leaveL c)) tok := h.map _ (fun _ => rfl) (fun _ => rfl) fun l hl => leave_ok (h.each l hl)
theorem LInv.pass {s : StD} (h : LInv s.locks s.tok) (k : Txt) : LInv (passD k s).2.locks (passD k s).2.tok := by
  unfold passD
  cases hf : lfind k s.locks with
  | none => exact h
  | some l =>
    obtain ⟨hn, hm⟩ := findK_some hf
    have hl := h.each l hm
    simp only
    cases hq : l.queue with
    | nil => exact h.sub List.filter_sublist
    | cons c q =>
      simp only
      split
      · exact h.sub List.filter_sublist
      · rename_i ht
        have hnd := hl.nd
        rw [hq] at hnd
        have hc := hl.q c (by rw [hq]; simp)
        refine h.set ⟨k, c, s.tok + 1, q⟩ ⟨by show 1 ≤ k.length; rw [← hn]; exact hl.n1, by show k.length ≤ 8; rw [← hn]; exact hl.n8, hc.1, hc.2, by have := h.tok0; show 1 ≤ s.tok + 1; omega, Int.le_refl _, (List.nodup_cons.1 hnd).2, fun x hx => hl.q x (by rw [hq]; simp [hx]), (List.nodup_cons.1 hnd).1⟩ (show s.tok ≤ s.tok + 1 by omega) (show s.tok + 1 ≤ 99999999 by omega) (fun m hm2 _ => ?_)
        have := (h.each m hm2).t1
        show m.token ≠ s.tok + 1
        omega
theorem LInv.passAll {s : StD} (h : LInv s.locks s.tok) (ns : List Txt) : LInv (passAll ns s).locks (passAll ns s).tok := by
  unfold Go.Proofs.YtioinjcdkmiafaaDoor.passAll
  induction ns generalizing s with
  | nil => exact h
  | cons k r ih => exact ih (h.pass k)
/-- Who holds or waits. -/
def who (ls : List LockD) (c : Int) : Prop := ∃ l ∈ ls, c = l.holder ∨ c ∈ l.queue
theorem who_sub {ls ms : List LockD} (h : ∀ l ∈ ms, l ∈ ls) {c : Int} (hc : who ms c) : who ls c := by
  obtain ⟨l, hl, hh⟩ := hc
  exact ⟨l, h l hl, hh⟩
theorem who_pass {s : StD} {k : Txt} {c : Int} (h : who (passD k s).2.locks c) : who s.locks c := by
  unfold passD at h
  cases hf : lfind k s.locks with
  | none => rw [hf] at h; exact h
  | some l =>
    rw [hf] at h
    simp only at h
    obtain ⟨hn, hm⟩ := findK_some hf
    cases hq : l.queue with
    | nil => rw [hq] at h; exact who_sub (fun m hm => (delK_mem.1 hm).1) h
    | cons d q =>
      rw [hq] at h
      simp only at h
      split at h
      · exact who_sub (fun m hm => (delK_mem.1 hm).1) h
      · obtain ⟨m, hm2, hh⟩ := h
        rcases setK_mem hm2 with rfl | ⟨h3, _⟩
        · rcases hh with rfl | hh
          · exact ⟨l, hm, .inr (by rw [hq]; simp)⟩
          · exact ⟨l, hm, .inr (by rw [hq]; simp at hh ⊢; exact .inr hh)⟩
        · exact ⟨m, h3, hh⟩
theorem who_passAll {c : Int} : ∀ (ns : List Txt) {s : StD}, who (passAll ns s).locks c → who s.locks c
  | [], _, h => h
  | k :: r, s, h => who_pass (who_passAll r h)
theorem who_leave {ls : List LockD} {c d : Int} (h : who (ls.map (leaveL d)) c) : who ls c := by
  obtain ⟨m, hm, hh⟩ := h
  obtain ⟨l, hl, rfl⟩ := List.mem_map.1 hm
  rcases hh with rfl | hh
  · exact ⟨l, hl, .inl rfl⟩
  · exact ⟨l, hl, .inr (List.mem_filter.1 hh).1⟩
theorem who_lets {s : StD} {c d : Int} (h : who (letsD d s).2.locks c) : who s.locks c := who_leave (who_passAll _ h)
theorem pass_rest (k : Txt) (s : StD) : (passD k s).2.pairs = s.pairs ∧ (passD k s).2.ss = s.ss := by
  unfold passD
  split
  · exact ⟨rfl, rfl⟩
  · split
    · exact ⟨rfl, rfl⟩
    · split <;> exact ⟨rfl, rfl⟩
theorem passAll_rest : ∀ (ns : List Txt) (s : StD), (passAll ns s).pairs = s.pairs ∧ (passAll ns s).ss = s.ss
  | [], _ => ⟨rfl, rfl⟩
  | k :: r, s => by
    have h := passAll_rest r (passD k s).2
    have h2 := pass_rest k s
    exact ⟨h.1.trans h2.1, h.2.trans h2.2⟩
theorem lets_rest (c : Int) (s : StD) : (letsD c s).2.pairs = s.pairs ∧ (letsD c s).2.ss = s.ss := passAll_rest _ _
theorem LInv.lets {s : StD} (h : LInv s.locks s.tok) (c : Int) : LInv (letsD c s).2.locks (letsD c s).2.tok := LInv.passAll (s := { s with locks := s.locks.map (leaveL c) }) (h.leave c) _
/-- A lock that is found stays found while others are passed on. -/
theorem pass_other {s : StD} {k k' : Txt} (hne : k' ≠ k) : lfind k' (passD k s).2.locks = lfind k' s.locks := by
  unfold passD
  cases hf : lfind k s.locks with
  | none => rfl
  | some l =>
    obtain ⟨hn, hm⟩ := findK_some hf
    simp only
    have hdel : lfind k' (delK LockD.name k s.locks) = lfind k' s.locks := by
      show findK LockD.name k' (delK LockD.name k s.locks) = _
      rw [findK_del, if_neg hne]
    cases hq : l.queue with
    | nil => exact hdel
    | cons c q =>
      simp only
      split
      · exact hdel
      · show findK LockD.name k' (setK LockD.name _ s.locks) = _
        rw [findK_set ⟨l, hm, hn⟩, if_neg (fun e => hne e.symm)]

structure ResOk (r : ResD) : Prop where
  c0 : 1 ≤ r.code
  c1 : r.code ≤ 11
  c10 : r.code ≠ 10
  v : r.val.length ≤ 8
  n0 : 0 ≤ r.n
  n1 : r.n ≤ 99999999
structure SesOk (x : SesD) : Prop where
  i0 : 1 ≤ x.inc
  i1 : x.inc ≤ 4611686018427387904
  r0 : 1 ≤ x.req
  r1 : x.req ≤ 4611686018427387904
  last : ResOk x.last
structure PInv (ps : List (Txt × Txt)) : Prop where
  rise : Rise (ps.map Prod.fst)
  each : ∀ p ∈ ps, 1 ≤ p.1.length ∧ p.1.length ≤ 8 ∧ p.2.length ≤ 8
  len : ps.length ≤ 16
structure Inv (s : StD) : Prop where
  lk : LInv s.locks s.tok
  pr : PInv s.pairs
  s16 : s.ss.length = 16
  ses : ∀ x ∈ s.ss, x = noSes ∨ SesOk x
  link : ∀ c, who s.locks c → 0 < (s.ss.getD c.toNat noSes).inc
theorem inv_new : Inv newD :=
  ⟨⟨by simp [newD, Rise], by simp [newD], by simp [newD], by simp [newD], by simp [newD], by simp [newD]⟩, ⟨by simp [newD, Rise], by simp [newD], by simp [newD]⟩, by simp [newD], fun x hx => .inl (List.eq_of_mem_replicate hx), fun c hc => by
    obtain ⟨l, hl, _⟩ := hc
    simp [newD] at hl⟩
theorem PInv.put {ps : List (Txt × Txt)} (h : PInv ps) {k v : Txt} (hk : 1 ≤ k.length ∧ k.length ≤ 8) (hv : v.length ≤ 8) (hl : pfindD k ps = none → ps.length < 16) : PInv (pputD k v ps) := by
  unfold pputD
  cases hf : pfindD k ps with
  | some x =>
    refine ⟨by rw [setK_keys]; exact h.rise, fun p hp => ?_, by rw [setK_len]; exact h.len⟩
    rcases setK_mem hp with rfl | ⟨h2, _⟩
    · exact ⟨hk.1, hk.2, hv⟩
    · exact h.each p h2
  | none =>
    refine ⟨insK_rise h.rise (findK_none hf), fun p hp => ?_, by rw [insK_len]; have := hl hf; omega⟩
    rcases insK_mem.1 hp with rfl | h2
    · exact ⟨hk.1, hk.2, hv⟩
    · exact h.each p h2
theorem PInv.del {ps : List (Txt × Txt)} (h : PInv ps) (k : Txt) : PInv (delK Prod.fst k ps) := ⟨delK_rise h.rise, fun p hp => h.each p (delK_mem.1 hp).1, Nat.le_trans (delK_len _ _) h.len⟩
theorem nodup_lt : ∀ (n : Nat) (l : List Int), l.Nodup → (∀ c ∈ l, 0 ≤ c ∧ c < (n : Int)) → l.length ≤ n
  | 0, [], _, _ => Nat.le_refl _
  | 0, c :: r, _, h => by have := h c (by simp); omega
  | n + 1, l, hn, h => by
    have h1 := nodup_lt n (l.erase (n : Int)) (hn.erase _) (fun c hc => by
      have h2 := (hn.mem_erase_iff).1 hc
      have := h c h2.2
      have := h2.1
      omega)
    rw [List.length_erase] at h1
    split at h1 <;> omega
theorem queue_len {q : List Int} (hn : q.Nodup) (hb : ∀ c ∈ q, 0 ≤ c ∧ c < 16) : q.length ≤ 16 := nodup_lt 16 q hn hb
end Go.Proofs.YtioinjcdkmiafaaDoor
namespace Go.Proofs.YtioinjcdkmiafaaDoor
set_option linter.unusedVariables false
set_option linter.unusedSimpArgs false
open Go.RowKit

theorem int_info2 : (Tryd.prog.info? 3).map (fun i => (i.zero, i.size, i.bytes)) = some (some (.int .i64 0), 1, 8) := by kernel_rfl
theorem etInt2 : ET Tryd.prog 39 3 1 8 (.int .i64 0) := ⟨Tryd.underlying39, int_info2, rfl, by decide, by decide⟩
def pairC (p : Txt × Txt) : List Value := [str p.1, str p.2]
theorem pair_two (p : Txt × Txt) : (pairC p).length = 2 := rfl
abbrev pcells (ps : List (Txt × Txt)) : List Value := rcells pairC ps
theorem pair_info : (Tryd.prog.info? 109).map (fun i => (i.zero, i.size, i.bytes)) = some (some (.agg #[str [], str []]), 2, 32) := by kernel_rfl
theorem etPair : ET Tryd.prog 101 109 2 32 (.agg #[str [], str []]) := ⟨Tryd.underlying101, pair_info, rfl, by decide, by decide⟩
theorem pair_one (a b : Txt) : ∀ u ∈ (#[str a, str b] : Array Value).toList, u.oneCell' = true := by
  intro u hu
  simp only [List.mem_cons, List.not_mem_nil, or_false] at hu
  rcases hu with rfl | rfl <;> rfl
/-- A call that made blocks only, and a new variable behind it: all from one world. -/
theorem Fresh.then {a b c : World} (h : Fresh a b) (k : Fresh b c) : Fresh a c := h.comp k (fun _ _ h => h) (fun _ _ _ => trivial)

/-- An owned slice, read, with its room. -/
theorem own_rdc {w : World} {base e size n : Nat} {v : Value} {xs : List Value} (h : w.ownsRow base e size v n xs) : ∃ A c, v = .slice A n c ∧ n ≤ c ∧ Rd w (fun k => v.ownBlock = some k) size A n xs ∧ (n = 0 → c = 0 ∨ A ≠ none) := by
  obtain ⟨A, c, rfl, h1, h2⟩ := own_rd h
  refine ⟨A, c, rfl, ?_, h1, h2⟩
  rcases h.2 with ⟨e1, rfl⟩ | ⟨g, cap, cur, e1, hb, hh, hn, _⟩
  · exact Nat.zero_le _
  · injection e1 with e1 e2 e3
    rw [e3]
    exact hn
def lessD (q : List Int) (c : Int) : List Int := q.filter fun y => !(y == c)
theorem Rd.intAt {w : World} {Z : Nat → Prop} {A : Option Addr} {n k : Nat} {l : List Int} (h : Rd w Z 1 A n (ics l)) (hk : k < n) :
    ∃ b o, A = some ⟨b, o, none⟩ ∧ Z b ∧ ∃ (hl : k < l.length), w.cell? ⟨b, o + k, none⟩ = some (.int .i64 l[k]) := by
  obtain ⟨b, o, hA, hz, hl, hc⟩ := h.at1 hk
  have hl2 : k < l.length := by simpa [ics] using hl
  exact ⟨b, o, hA, hz, hl2, by rw [hc]; simp [ics]⟩
theorem less_le (q : List Int) (x : Int) : (lessD q x).length ≤ q.length := List.length_filter_le _ _
theorem less_snoc (q : List Int) (x y : Int) : lessD (q ++ [y]) x = lessD q x ++ (if y = x then [] else [y]) := by
  unfold lessD
  rw [List.filter_append]
  by_cases h : y = x <;> simp [h]
/-- The k-th byte of a slice, for the walk. -/
theorem Rd.byte {w : World} {Z : Nat → Prop} {A : Option Addr} {n k : Nat} {bs : List UInt8} (h : Rd w Z 1 A n (Lib.byteCells bs)) (hk : k < n) :
    ∃ b o x, A = some ⟨b, o, none⟩ ∧ Z b ∧ ∃ (hl : k < bs.length), x = (bs[k].toNat : Int) ∧ w.cell? ⟨b, o + k, none⟩ = some (.int .u8 x) := by
  obtain ⟨b, o, hA, hz, hl, hc⟩ := h.at1 hk
  have hl2 : k < bs.length := by simpa [Lib.byteCells] using hl
  exact ⟨b, o, _, hA, hz, hl2, rfl, by rw [hc]; simp [Lib.byteCells]⟩
theorem less_before : ∀ a b : Txt, Op.bytesLess a b = bytesBefore a b
  | [], [] => rfl
  | [], _ :: _ => rfl
  | _ :: _, [] => rfl
  | a :: r, b :: s => by
    show (a < b || (a == b && Op.bytesLess r s)) = (a < b || (a == b && bytesBefore r s))
    rw [less_before r s]
end Go.Proofs.YtioinjcdkmiafaaDoor
namespace Go.Proofs.YtioinjcdkmiafaaDoor
set_option linter.unusedVariables false
set_option linter.unusedSimpArgs false
open Go.RowKit

set_option maxHeartbeats 400000 in
theorem copied_any (Z : Nat → Prop) (A : Option Addr) (n c : Nat) (bs : List UInt8) (w : World) (hb : Rd w Z 1 A n (Lib.byteCells bs)) (hn : n ≤ 1099511627770) (hnil : n = 0 → c = 0 ∨ A ≠ none) :
    Calls Tryd.prog 27 #[.slice A n c] w fun e w' => (∃ u, e = .returned u ∧ w'.ownsRow w.heap.size 5 1 u n (Lib.byteCells bs)) ∧ Fresh w w' := by
  have HB := Lib.hid hb
  have HN := Lib.hid (And.intro hn hnil)
  clear hb hn hnil
  go_enter Tryd.func27, Tryd.ntmps27
  have hown : (w.alloc (.cells #[] 5)).ownsRow w.heap.size 5 1 (.slice (some ⟨w.heap.size, 0, none⟩) 0 0) 0 [] :=
    ⟨rfl, .inr ⟨w.heap.size, 0, #[], rfl, Nat.le_refl _, heap_alloc_new w _, Nat.le_refl _, by simp only [maxLen]; omega, rfl, rfl⟩⟩
  have HO := Lib.hid hown
  clear hown
  go_wp2_with (at_builtin; refine wpList_app etU8 rfl (.tmp 3) (.tmp 4) rfl w.heap.size _ _ _ rfl HO.out Z A n c _ rfl (HB.out.keep (((Keep.refl Z w).alloc _))) HN.out.2 (bcs_one _) (by have := HN.out.1; omega) (by simp) ?_)
  intro v' w' ho hk hnx
  have HX := Lib.hid (And.intro ho hk)
  clear ho hk hnx
  go_wp2
  go_ret
  refine ⟨⟨_, rfl, ?_⟩, ?_⟩
  · have := HX.out.1
    simpa using this
  · exact ((Keep.refl _ w).alloc _).comp HX.out.2 (fun _ _ h => h) (fun i hi _ => by simp [Value.ownBlock]; omega)

theorem take_eq_step {l m : List UInt8} {k : Nat} (h : l.take k = m.take k) (hl : k < l.length) (hm : k < m.length) (he : l[k] = m[k]) : l.take (k + 1) = m.take (k + 1) := by
  rw [List.take_succ_eq_append_getElem hl, List.take_succ_eq_append_getElem hm, h, he]
theorem toNat_inj {a b : UInt8} (h : (a.toNat : Int) = (b.toNat : Int)) : a = b := UInt8.toNat_inj.1 (by omega)

end Go.Proofs.YtioinjcdkmiafaaDoor
