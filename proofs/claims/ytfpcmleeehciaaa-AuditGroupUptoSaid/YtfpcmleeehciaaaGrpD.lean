/-
  THE RULES OF THE GROUP AS DATA: what audit.Group carries along, the rule that a mark breaks, and the next state. No condition.
-/
import Derived.Test.YtfpcmleeehciaaaHistPlain
namespace Go.Proofs.Ytfpcmleeehciaaa
set_option linter.unusedVariables false
set_option linter.unusedSimpArgs false

abbrev V4 := Int × Int × Int × Int
abbrev Who := Int × Int
def nov : V4 := (0, 0, 0, 0)
def MarkD.id (m : MarkD) : V4 := (m.e1, m.e2, m.e3, m.e4)
def MarkD.who (m : MarkD) : Who := (m.node, m.inc)
/-- An install. -/
structure EntD where
  w : Who
  frm : V4
  tr : List Int
  done : Nat
deriving DecidableEq
/-- A delivered message. -/
structure TolD where
  pos : Int
  sender : Int
  seq : Int
  body : List UInt8
deriving DecidableEq
/-- What an incarnation is at. -/
structure LifeD where
  halted : Bool
  blocked : Bool
  id : V4
  mem : List MemD
  acc : Nat
  safe : Int
  own : Nat
  lastPos : Int
  frm : Int → Nat
/-- What the marks so far have told. -/
structure GrpD where
  at_ : Int
  clock : Nat
  up : Int → Int
  last : Int → Int
  lives : Who → Option LifeD
  inst : V4 → List EntD
  mem : V4 → List MemD
  sent : V4 × Who × Int → Option (List UInt8)
  order : V4 → List TolD
  count : V4 × Who → Nat
def upd {α β : Type} [DecidableEq α] (f : α → β) (a : α) (b : β) : α → β := fun x => if x = a then b else f x
@[simp] theorem upd_self {α β : Type} [DecidableEq α] (f : α → β) (a : α) (b : β) : upd f a b a = b := by simp [upd]
theorem upd_ne {α β : Type} [DecidableEq α] (f : α → β) {a x : α} (b : β) (h : x ≠ a) : upd f a b x = f x := by simp [upd, h]
def life0 : LifeD := ⟨false, true, nov, [], 0, 0, 0, 0, fun _ => 0⟩
def grp0 : GrpD := ⟨0, 0, fun _ => 0, fun _ => 0, fun _ => none, fun _ => [], fun _ => [], fun _ => none, fun _ => [], fun _ => 0⟩
/-- The life of an incarnation, or one that says nothing. -/
def GrpD.life (s : GrpD) (w : Who) : LifeD := (s.lives w).getD life0

/-- Rule 1. -/
def mayB (s : GrpD) (m : MarkD) : Bool :=
  if m.at_ < 0 ∨ m.at_ < s.at_ ∨ m.kind < 1 ∨ 16 < m.kind then false
  else if m.kind = 15 then decide (m.node = 0 ∧ m.inc = 0 ∧ m.n = (s.clock : Int) + 1)
  else if m.node < 0 ∨ 16 ≤ m.node then false
  else if m.kind = 1 then decide (s.up m.node = 0 ∧ s.last m.node < m.inc)
  else if s.up m.node = 0 ∨ m.inc ≠ s.up m.node then false
  else decide (m.kind = 2) || !(s.life m.who).halted
/-- Do they rise strictly? -/
def risB : List Int → Bool
  | a :: b :: r => decide (a < b) && risB (b :: r)
  | _ => true
def fitB (x : MemD) : Bool := decide (0 ≤ x.p ∧ x.p < 16 ∧ 0 < x.i ∧ 0 < x.c)
/-- Rule 2. -/
def wellB (w : Who) (before : Int) (m : MarkD) : Bool :=
  if m.mem = [] ∨ 16 < m.mem.length ∨ m.mem.all fitB = false ∨ risB (m.mem.map (·.p)) = false then false
  else m.mem.any (fun x => decide (x.p = w.1) && decide (x.i = w.2)) && (decide (m.id = (m.e1, (m.mem.headD ⟨0, 0, 0⟩).p, (m.mem.headD ⟨0, 0, 0⟩).i, (m.mem.headD ⟨0, 0, 0⟩).c)) && decide (before < m.e1))
def memB (l : List MemD) (p : Int) : Bool := l.any fun x => decide (x.p = p)
/-- What an earlier install says to rule 4. -/
def bothB (w : Who) (frm : V4) (tr : List Int) (e : EntD) : Bool :=
  (tr.contains e.w.1 == (decide (frm ≠ nov) && decide (e.frm = frm))) && (e.tr.contains w.1 == (decide (frm ≠ nov) && decide (e.frm = frm)))
/-- Rule 4. -/
def togB (s : GrpD) (w : Who) (frm : V4) (m : MarkD) : Bool :=
  if m.tr.all (memB m.mem) = false ∨ risB m.tr = false ∨ m.tr.contains w.1 = false then false
  else if frm = nov ∧ m.tr.length ≠ 1 then false
  else (s.inst m.id).all (bothB w frm m.tr)
/-- What an earlier install says to rule 9. -/
def alikeB (frm : V4) (done : Nat) (e : EntD) : Bool := decide (frm = nov) || (decide (e.frm ≠ frm) || decide (e.done = done))
/-- Rules 2, 3, 4, 5, 9, 11. -/
def instR (s : GrpD) (m : MarkD) : Int :=
  let v := s.life m.who
  if wellB m.who v.id.1 m = false then 2
  else if ((s.inst m.id) ≠ [] ∧ s.mem m.id ≠ m.mem) ∨ (s.inst m.id).any (fun e => decide (e.w = m.who)) = true then 3
  else if togB s m.who v.id m = false then 4
  else if v.blocked = false then 5
  else if (s.inst m.id).all (alikeB v.id (s.count (v.id, m.who))) = false then 9
  else if m.n ≠ (v.acc : Int) - (v.own : Int) then 11
  else 0
/-- Rule 6. -/
def sendR (s : GrpD) (m : MarkD) : Int :=
  let v := s.life m.who
  if v.blocked = true ∨ m.id ≠ v.id ∨ m.seq ≠ (v.acc : Int) + 1 then 6 else 0
def memI (l : List MemD) (p : Int) : Nat := l.findIdx fun x => decide (x.p = p)
def MarkD.told (m : MarkD) : TolD := ⟨m.pos, m.sender, m.seq, m.body⟩
/-- Rules 7 and 8. -/
def delR (s : GrpD) (m : MarkD) : Int :=
  let v := s.life m.who
  if v.id = nov ∨ m.id ≠ v.id ∨ ¬ memI v.mem m.sender < v.mem.length ∨ m.pos ≤ v.lastPos ∨ m.seq ≠ (v.frm m.sender : Int) + 1 then 7
  else if s.sent (m.id, (m.sender, (v.mem.getD (memI v.mem m.sender) ⟨0, 0, 0⟩).i), m.seq) ≠ some m.body then 7
  else if s.count (m.id, m.who) < (s.order m.id).length ∧ (s.order m.id)[s.count (m.id, m.who)]? ≠ some m.told then 8
  else 0
/-- What sort.Search answers. -/
def seekF (f : Nat → Bool) (i j : Nat) : Nat :=
  if h : i < j then
    if f ((i + j) / 2) = false then seekF f ((i + j) / 2 + 1) j else seekF f i ((i + j) / 2)
  else i
termination_by j - i
decreasing_by all_goals omega
def belowD (l : List TolD) (pos : Int) : Nat := seekF (fun i => decide (pos < (l.getD i ⟨0, 0, 0, []⟩).pos)) 0 l.length
/-- Rule 10. -/
def safR (s : GrpD) (m : MarkD) : Int :=
  let v := s.life m.who
  if v.id = nov ∨ m.id ≠ v.id ∨ v.blocked = true ∨ m.pos ≤ v.safe then 10
  else if v.mem.all (fun x => (s.inst m.id).any (fun e => decide (e.w = (x.p, x.i))) && decide (min (s.count (m.id, (x.p, x.i))) (belowD (s.order m.id) m.pos) = min (s.count (m.id, m.who)) (belowD (s.order m.id) m.pos))) = false then 10
  else 0
/-- The lowest rule that a mark breaks, or 0. -/
def ruleG (s : GrpD) (m : MarkD) : Int :=
  if mayB s m = false then 1
  else if m.kind = 7 then instR s m
  else if m.kind = 6 then (if (s.life m.who).blocked = true then 5 else 0)
  else if m.kind = 4 then sendR s m
  else if m.kind = 8 then delR s m
  else if m.kind = 9 then safR s m
  else 0
/-- The state behind a mark that breaks none. -/
def nextG (s : GrpD) (m : MarkD) : GrpD :=
  let s := { s with at_ := m.at_ }
  let w := m.who
  let v := s.life w
  if m.kind = 15 then { s with clock := s.clock + 1 }
  else if m.kind = 1 then { s with up := upd s.up m.node m.inc, last := upd s.last m.node m.inc, lives := upd s.lives w (some life0) }
  else if m.kind = 2 then { s with up := upd s.up m.node 0 }
  else if m.kind = 3 then { s with lives := upd s.lives w (some { v with halted := true }) }
  else if m.kind = 7 then
    { s with mem := upd s.mem m.id m.mem, inst := upd s.inst m.id (s.inst m.id ++ [⟨w, v.id, m.tr, s.count (v.id, w)⟩]), lives := upd s.lives w (some ⟨false, false, m.id, m.mem, 0, 0, 0, 0, fun _ => 0⟩) }
  else if m.kind = 6 then { s with lives := upd s.lives w (some { v with blocked := true }) }
  else if m.kind = 4 then { s with lives := upd s.lives w (some { v with acc := v.acc + 1 }), sent := upd s.sent (m.id, w, m.seq) (some m.body) }
  else if m.kind = 8 then
    { s with order := (if s.count (m.id, w) = (s.order m.id).length then upd s.order m.id (s.order m.id ++ [m.told]) else s.order), count := upd s.count (m.id, w) (s.count (m.id, w) + 1),
             lives := upd s.lives w (some { v with frm := upd v.frm m.sender (v.frm m.sender + 1), lastPos := m.pos, own := (if m.sender = w.1 then v.own + 1 else v.own) }) }
  else if m.kind = 9 then { s with lives := upd s.lives w (some { v with safe := m.pos }) }
  else s
/-- Behind some marks. -/
def stG (ms : List MarkD) : GrpD := ms.foldl nextG grp0
/-- The verdict: the rule and the place. -/
def findG (s : GrpD) : Nat → List MarkD → Int × Int
  | _, [] => (0, 0)
  | k, m :: r => if ruleG s m ≠ 0 then (ruleG s m, (k : Int)) else findG (nextG s m) (k + 1) r
def groupG (ms : List MarkD) : Int × Int := findG grp0 0 ms

/-! ### P17.6: a mark at the end, a trace cut off -/
theorem findG_hit {s : GrpD} {m : MarkD} (k : Nat) (r : List MarkD) (h : ruleG s m ≠ 0) : findG s k (m :: r) = (ruleG s m, (k : Int)) := by
  unfold findG
  exact if_pos h
theorem findG_miss {s : GrpD} {m : MarkD} (k : Nat) (r : List MarkD) (h : ruleG s m = 0) : findG s k (m :: r) = findG (nextG s m) (k + 1) r := by
  conv => lhs; unfold findG
  exact if_neg (fun e => e h)
theorem findG_snoc_bad (bad : MarkD) (hb : ∀ s, ruleG s bad = 1) : ∀ (s : GrpD) (k : Nat) (ms : List MarkD), findG s k (ms ++ [bad]) = if (findG s k ms).1 = 0 then (1, (k : Int) + (ms.length : Int)) else findG s k ms
  | s, k, [] => by
    rw [List.nil_append, findG_hit k [] (by rw [hb]; decide), hb]
    simp [findG]
  | s, k, m :: r => by
    rw [List.cons_append]
    by_cases h : ruleG s m = 0
    · rw [findG_miss k _ h, findG_miss k _ h, findG_snoc_bad bad hb (nextG s m) (k + 1) r]
      have e : ((k + 1 : Nat) : Int) + (r.length : Int) = (k : Int) + ((m :: r).length : Int) := by simp only [List.length_cons]; omega
      rw [e]
    · rw [findG_hit k _ h, findG_hit k _ h]
      simp [h]
theorem findG_at : ∀ (s : GrpD) (k : Nat) (ms : List MarkD), (findG s k ms).1 ≠ 0 → (k : Int) ≤ (findG s k ms).2 ∧ (findG s k ms).2 < (k : Int) + (ms.length : Int)
  | s, k, [], h => absurd rfl h
  | s, k, m :: r, h => by
    by_cases h1 : ruleG s m = 0
    · rw [findG_miss k _ h1] at h ⊢
      have := findG_at (nextG s m) (k + 1) r h
      simp only [List.length_cons]
      omega
    · rw [findG_hit k _ h1]
      simp only [List.length_cons]
      omega
theorem findG_none : ∀ (s : GrpD) (k : Nat) (ms : List MarkD), (findG s k ms).1 = 0 → findG s k ms = (0, 0)
  | s, k, [], _ => rfl
  | s, k, m :: r, h => by
    by_cases h1 : ruleG s m = 0
    · rw [findG_miss k _ h1] at h ⊢
      exact findG_none (nextG s m) (k + 1) r h
    · rw [findG_hit k _ h1] at h; exact absurd h h1
theorem findG_take : ∀ (s : GrpD) (k : Nat) (ms : List MarkD) (j : Nat), findG s k (ms.take j) = if (findG s k ms).1 ≠ 0 ∧ (findG s k ms).2 < (k : Int) + (j : Int) then findG s k ms else (0, 0)
  | s, k, [], j => by simp [findG]
  | s, k, m :: r, 0 => by
    rw [List.take_zero, if_neg]
    · rfl
    · rintro ⟨h2, h3⟩
      have := (findG_at s k (m :: r) h2).1
      omega
  | s, k, m :: r, j + 1 => by
    rw [List.take_succ_cons]
    by_cases h1 : ruleG s m = 0
    · rw [findG_miss k _ h1, findG_miss k _ h1, findG_take (nextG s m) (k + 1) r j]
      have e : ((k + 1 : Nat) : Int) + (j : Int) = (k : Int) + ((j + 1 : Nat) : Int) := by omega
      rw [e]
    · rw [findG_hit k _ h1, findG_hit k _ h1, if_pos ⟨h1, by omega⟩]
theorem bad_rule (s : GrpD) (m : MarkD) (h : m.at_ < 0) : ruleG s m = 1 := by
  have e : mayB s m = false := by unfold mayB; exact if_pos (Or.inl h)
  unfold ruleG
  exact if_pos e
/-- Counts stay below the number of marks. -/
structure BdG (s : GrpD) (k : Nat) : Prop where
  clock : s.clock ≤ k
  count : ∀ x, s.count x ≤ k
  life : ∀ w v, s.lives w = some v → v.acc ≤ k ∧ v.own ≤ k ∧ ∀ q, v.frm q ≤ k
  up : ∀ p, s.up p ≠ 0 → (s.lives (p, s.up p)).isSome = true
  inst : ∀ i, (s.inst i).length ≤ k
  order : ∀ i, (s.order i).length ≤ k
  done : ∀ i, ∀ e ∈ s.inst i, e.done ≤ k
theorem bd0 : BdG grp0 0 := ⟨Nat.le_refl _, fun _ => Nat.le_refl _, fun _ _ h => by simp [grp0] at h, fun p h => absurd rfl h, fun _ => Nat.le_refl _, fun _ => Nat.le_refl _, fun _ e h => by simp [grp0] at h⟩
theorem may_life {s : GrpD} {k : Nat} {m : MarkD} (h : BdG s k) (hm : mayB s m = true) (h15 : m.kind ≠ 15) (h1 : m.kind ≠ 1) : ∃ v, s.lives m.who = some v ∧ m.inc = s.up m.node ∧ s.up m.node ≠ 0 := by
  unfold mayB at hm
  by_cases g1 : m.at_ < 0 ∨ m.at_ < s.at_ ∨ m.kind < 1 ∨ 16 < m.kind
  · rw [if_pos g1] at hm; cases hm
  · rw [if_neg g1, if_neg h15] at hm
    by_cases g2 : m.node < 0 ∨ 16 ≤ m.node
    · rw [if_pos g2] at hm; cases hm
    · rw [if_neg g2, if_neg h1] at hm
      by_cases h3 : s.up m.node = 0 ∨ m.inc ≠ s.up m.node
      · rw [if_pos h3] at hm; cases hm
      · clear hm
        have h4 : s.up m.node ≠ 0 := fun e => h3 (.inl e)
        have h5 : m.inc = s.up m.node := Classical.not_not.1 fun e => h3 (.inr e)
        have := h.up m.node h4
        rw [← h5] at this
        obtain ⟨v, hv⟩ := Option.isSome_iff_exists.1 this
        exact ⟨v, hv, h5, h4⟩
theorem upd_some {α β : Type} [DecidableEq α] {f : α → Option β} {a x : α} {b : β} (h : (f x).isSome = true) : (upd f a (some b) x).isSome = true := by
  unfold upd
  split
  · rfl
  · exact h
theorem life_of {s : GrpD} {w : Who} {v : LifeD} (h : s.lives w = some v) : s.life w = v := by simp [GrpD.life, h]
theorem BdG.mono {s : GrpD} {k j : Nat} (h : BdG s k) (hj : k ≤ j) : BdG s j :=
  ⟨Nat.le_trans h.clock hj, fun x => Nat.le_trans (h.count x) hj, fun w v hv => ⟨Nat.le_trans (h.life w v hv).1 hj, Nat.le_trans (h.life w v hv).2.1 hj, fun q => Nat.le_trans ((h.life w v hv).2.2 q) hj⟩, h.up,
   fun i => Nat.le_trans (h.inst i) hj, fun i => Nat.le_trans (h.order i) hj, fun i e he => Nat.le_trans (h.done i e he) hj⟩
/-- .. with another life put in. -/
theorem BdG.live {s : GrpD} {k : Nat} (h : BdG s k) (w : Who) (v : LifeD) (hv : v.acc ≤ k ∧ v.own ≤ k ∧ ∀ q, v.frm q ≤ k) : BdG { s with lives := upd s.lives w (some v) } k :=
  ⟨h.clock, h.count, fun w' v' h' => by
    by_cases e : w' = w
    · subst e; simp at h'; subst h'; exact hv
    · simp only [upd_ne _ _ e] at h'; exact h.life w' v' h', fun p hp => upd_some (h.up p hp), h.inst, h.order, h.done⟩
theorem BdG.life' {s : GrpD} {k : Nat} (h : BdG s k) (w : Who) : (s.life w).acc ≤ k ∧ (s.life w).own ≤ k ∧ ∀ q, (s.life w).frm q ≤ k := by
  unfold GrpD.life
  cases hl : s.lives w with
  | none => exact ⟨Nat.zero_le _, Nat.zero_le _, fun _ => Nat.zero_le _⟩
  | some v => exact h.life w v hl
theorem BdG.next {s : GrpD} {k : Nat} {m : MarkD} (h : BdG s k) : BdG (nextG s m) (k + 1) := by
  have h1 : BdG { s with at_ := m.at_ } (k + 1) := ⟨Nat.le_succ_of_le h.clock, (h.mono (Nat.le_succ k)).count, (h.mono (Nat.le_succ k)).life, h.up, (h.mono (Nat.le_succ k)).inst, (h.mono (Nat.le_succ k)).order, (h.mono (Nat.le_succ k)).done⟩
  have hl := h.life' m.who
  have hl1 := h1.life' m.who
  unfold nextG
  simp only
  split
  · exact ⟨Nat.succ_le_succ h.clock, h1.count, h1.life, h1.up, h1.inst, h1.order, h1.done⟩
  split
  · have h2 := h1.live m.who life0 ⟨Nat.zero_le _, Nat.zero_le _, fun _ => Nat.zero_le _⟩
    refine ⟨h2.clock, h2.count, h2.life, fun p hp => ?_, h2.inst, h2.order, h2.done⟩
    simp only at hp ⊢
    by_cases e : p = m.node
    · subst e
      simp only [upd_self]
      have : (m.node, m.inc) = m.who := rfl
      rw [this, upd_self]
      rfl
    · rw [upd_ne _ _ e] at hp ⊢
      exact upd_some (h1.up p hp)
  split
  · refine ⟨h1.clock, h1.count, h1.life, fun p hp => ?_, h1.inst, h1.order, h1.done⟩
    simp only at hp ⊢
    by_cases e : p = m.node
    · subst e; simp at hp
    · rw [upd_ne _ _ e] at hp ⊢
      exact h1.up p hp
  split
  · exact h1.live m.who _ hl1
  split
  · have h2 := h1.live m.who ⟨false, false, m.id, m.mem, 0, 0, 0, 0, fun _ => 0⟩ ⟨Nat.zero_le _, Nat.zero_le _, fun _ => Nat.zero_le _⟩
    refine ⟨h2.clock, h2.count, h2.life, h2.up, fun i => ?_, h2.order, fun i e he => ?_⟩
    · simp only
      by_cases e : i = m.id
      · subst e; rw [upd_self, List.length_append]; have := h.inst m.id; simp; omega
      · rw [upd_ne _ _ e]; exact h1.inst i
    · simp only at he
      by_cases e2 : i = m.id
      · subst e2
        rw [upd_self, List.mem_append, List.mem_singleton] at he
        rcases he with he | rfl
        · exact h1.done _ e he
        · exact h1.count _
      · rw [upd_ne _ _ e2] at he; exact h1.done i e he
  split
  · exact h1.live m.who _ hl1
  split
  · have h2 := h1.live m.who { s.life m.who with acc := (s.life m.who).acc + 1 } ⟨Nat.succ_le_succ hl.1, hl1.2.1, hl1.2.2⟩
    exact ⟨h2.clock, h2.count, h2.life, h2.up, h2.inst, h2.order, h2.done⟩
  split
  · have h2 := h1.live m.who { s.life m.who with frm := upd (s.life m.who).frm m.sender ((s.life m.who).frm m.sender + 1), lastPos := m.pos, own := (if m.sender = m.who.1 then (s.life m.who).own + 1 else (s.life m.who).own) } ⟨hl1.1, by
      simp only
      split
      · exact Nat.succ_le_succ hl.2.1
      · exact hl1.2.1, fun q => by
      simp only
      by_cases e : q = m.sender
      · subst e; rw [upd_self]; exact Nat.succ_le_succ (hl.2.2 _)
      · rw [upd_ne _ _ e]; exact hl1.2.2 q⟩
    refine ⟨h2.clock, fun x => ?_, h2.life, h2.up, h2.inst, fun i => ?_, h2.done⟩
    · simp only
      by_cases e : x = (m.id, m.who)
      · subst e; rw [upd_self]; exact Nat.succ_le_succ (h.count _)
      · rw [upd_ne _ _ e]; exact h1.count x
    · simp only
      split
      · by_cases e : i = m.id
        · subst e; rw [upd_self, List.length_append]; have := h.order m.id; simp; omega
        · rw [upd_ne _ _ e]; exact h1.order i
      · exact h1.order i
  split
  · exact h1.live m.who _ hl1
  · exact h1
end Go.Proofs.Ytfpcmleeehciaaa
