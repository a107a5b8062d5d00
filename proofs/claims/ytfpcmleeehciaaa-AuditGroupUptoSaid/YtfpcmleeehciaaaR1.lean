/-
  MERGED: RefD RefInv RefStep RefStep2
-/
import Derived.Test.YtfpcmleeehciaaaGrpD
namespace Go.Proofs.Ytfpcmleeehciaaa
set_option linter.unusedVariables false
set_option linter.unusedSimpArgs false

/-- How an incarnation stands. -/
structure StanD where
  halted : Bool
  blocked : Bool
  id : V4
  prev : V4
  mem : List MemD
  acc : Nat
  del : Nat
  own : Nat
  lastPos : Int
  safe : Int
def stan0 : StanD := ⟨false, true, nov, nov, [], 0, 0, 0, 0, 0⟩
/-- Behind one more mark. -/
def stanS (x : Who) (s : StanD) (m : MarkD) : StanD :=
  if m.who ≠ x ∨ m.kind = 15 then s
  else if m.kind = 1 then stan0
  else if m.kind = 3 then { s with halted := true }
  else if m.kind = 6 then { s with blocked := true }
  else if m.kind = 7 then ⟨s.halted, false, m.id, s.id, m.mem, 0, 0, 0, 0, 0⟩
  else if m.kind = 4 then { s with acc := s.acc + 1 }
  else if m.kind = 8 then { s with del := s.del + 1, lastPos := m.pos, own := if m.sender = x.1 then s.own + 1 else s.own }
  else if m.kind = 9 then { s with safe := m.pos }
  else s
def stanD (x : Who) (l : List MarkD) : StanD := l.foldl (stanS x) stan0
theorem stanD_snoc (x : Who) (l : List MarkD) (m : MarkD) : stanD x (l ++ [m]) = stanS x (stanD x l) m := by simp [stanD, List.foldl_append]
/-- Is the pid up, and its last incarnation. -/
def presS (p : Int) (a : Bool × Int) (m : MarkD) : Bool × Int :=
  if m.node ≠ p then a
  else if m.kind = 1 then (true, m.inc)
  else if m.kind = 2 then (false, a.2)
  else a
def presD (p : Int) (l : List MarkD) : Bool × Int := l.foldl (presS p) (false, 0)
theorem presD_snoc (p : Int) (l : List MarkD) (m : MarkD) : presD p (l ++ [m]) = presS p (presD p l) m := by simp [presD, List.foldl_append]
def roundS (n : Int) (m : MarkD) : Int := if m.kind = 15 then m.n else n
def roundD (l : List MarkD) : Int := l.foldl roundS 0
theorem roundD_snoc (l : List MarkD) (m : MarkD) : roundD (l ++ [m]) = roundS (roundD l) m := by simp [roundD, List.foldl_append]
def lastAt (l : List MarkD) (m : MarkD) : Bool := match l.getLast? with
  | some y => decide (m.at_ < y.at_)
  | none => false
def rule1D (l : List MarkD) (m : MarkD) : Bool :=
  if m.at_ < 0 ∨ lastAt l m = true ∨ m.kind < 1 ∨ 16 < m.kind then false
  else if m.kind = 15 then decide (m.node = 0 ∧ m.inc = 0 ∧ m.n = roundD l + 1)
  else if m.node < 0 ∨ 16 ≤ m.node then false
  else if m.kind = 1 then !(presD m.node l).1 && decide ((presD m.node l).2 < m.inc)
  else if (presD m.node l).1 = false ∨ m.inc ≠ (presD m.node l).2 then false
  else decide (m.kind = 2) || !(stanD m.who l).halted
def headM (l : List MemD) : MemD := l.headD ⟨0, 0, 0⟩
def rule2D (s : StanD) (m : MarkD) : Bool :=
  if m.mem = [] ∨ 16 < m.mem.length then false
  else if (m.mem.all fitB && risB (m.mem.map (·.p))) = false then false
  else if ¬ memI m.mem m.node < m.mem.length ∨ (m.mem.getD (memI m.mem m.node) ⟨0, 0, 0⟩).i ≠ m.inc then false
  else decide (s.id.1 < m.e1 ∧ m.e2 = (headM m.mem).p ∧ m.e3 = (headM m.mem).i ∧ m.e4 = (headM m.mem).c)
/-- Is it an install of this view? -/
def isInst (i : V4) (y : MarkD) : Bool := decide (y.kind = 7) && decide (y.id = i)
def rule3D (l : List MarkD) (m : MarkD) : Bool := l.all fun y => !isInst m.id y || (decide (y.mem = m.mem) && !decide (y.who = m.who))
/-- The k-th mark as an install of the view: by whom, out of which view, with whom, behind how many deliveries. -/
def entK (l : List MarkD) (i : V4) (k : Nat) : Option EntD := match l[k]? with
  | some y => if isInst i y = true then some ⟨y.who, (stanD y.who (l.take k)).id, y.tr, (stanD y.who (l.take k)).del⟩ else none
  | none => none
def instD (l : List MarkD) (i : V4) : List EntD := (List.range l.length).filterMap (entK l i)
def rule4D (l : List MarkD) (s : StanD) (m : MarkD) : Bool :=
  if m.tr.all (memB m.mem) = false ∨ risB m.tr = false then false
  else if m.tr.contains m.node = false ∨ (s.id = nov ∧ m.tr.length ≠ 1) then false
  else (instD l m.id).all (bothB m.who s.id m.tr)
def isSend (x : Who) (i : V4) (q : Int) (b : List UInt8) (y : MarkD) : Bool := decide (y.kind = 4) && (decide (y.who = x) && (decide (y.id = i) && (decide (y.seq = q) && decide (y.body = b))))
def isDel (x : Who) (i : V4) (y : MarkD) : Bool := decide (y.kind = 8) && (decide (y.who = x) && decide (y.id = i))
def delS (l : List MarkD) (x : Who) (i : V4) (snd : Int) : Nat := l.countP fun y => isDel x i y && decide (y.sender = snd)
def delC (l : List MarkD) (x : Who) (i : V4) : Nat := l.countP (isDel x i)
def rule7D (l : List MarkD) (s : StanD) (m : MarkD) : Bool :=
  if s.id = nov ∨ m.id ≠ s.id ∨ ¬ memI s.mem m.sender < s.mem.length ∨ m.pos ≤ s.lastPos then false
  else l.any (isSend (m.sender, (s.mem.getD (memI s.mem m.sender) ⟨0, 0, 0⟩).i) m.id m.seq m.body) && decide (m.seq = (delS l m.who m.id m.sender : Int) + 1)
/-- What the k-th mark says to rule 8. -/
def eightK (l : List MarkD) (s : StanD) (m : MarkD) (k : Nat) : Bool := match l[k]? with
  | some y => !(decide (y.kind = 8) && decide (y.id = m.id)) || (!(decide (delC (l.take (k + 1)) y.who m.id = s.del + 1) && !decide (y.who = m.who)) || decide (y.told = m.told))
  | none => true
def rule8D (l : List MarkD) (s : StanD) (m : MarkD) : Bool := (List.range l.length).all (eightK l s m)
def rule9D (l : List MarkD) (s : StanD) (m : MarkD) : Bool := decide (s.id = nov) || (instD l m.id).all fun e => !(decide (e.frm = s.id) && !decide (e.done = s.del))
def inView (l : List MarkD) (i : V4) (x : Who) : Bool := l.any fun y => decide (y.who = x) && isInst i y
def upToN (l : List MarkD) (i : V4) (pos : Int) (x : Who) : Nat := l.countP fun y => isDel x i y && decide (y.pos ≤ pos)
def rule10D (l : List MarkD) (s : StanD) (m : MarkD) : Bool :=
  if s.id = nov ∨ m.id ≠ s.id ∨ s.blocked = true ∨ m.pos ≤ s.safe then false
  else s.mem.all fun x => inView l m.id (x.p, x.i) && decide (upToN l m.id m.pos (x.p, x.i) = upToN l m.id m.pos m.who)
def installsD (l : List MarkD) (s : StanD) (m : MarkD) : Int :=
  if rule2D s m = false then 2
  else if rule3D l m = false then 3
  else if rule4D l s m = false then 4
  else if s.blocked = false then 5
  else if rule9D l s m = false then 9
  else if m.n ≠ (s.acc : Int) - (s.own : Int) then 11
  else 0
/-- The lowest rule that the mark behind l breaks, or 0. -/
def brokenD (l : List MarkD) (m : MarkD) : Int :=
  if rule1D l m = false then 1
  else if m.kind = 7 then installsD l (stanD m.who l) m
  else if m.kind = 6 then (if (stanD m.who l).blocked = true then 5 else 0)
  else if m.kind = 4 then (if (stanD m.who l).blocked = true ∨ m.id ≠ (stanD m.who l).id ∨ m.seq ≠ ((stanD m.who l).acc : Int) + 1 then 6 else 0)
  else if m.kind = 8 then (if rule7D l (stanD m.who l) m = false then 7 else if rule8D l (stanD m.who l) m = false then 8 else 0)
  else if m.kind = 9 then (if rule10D l (stanD m.who l) m = false then 10 else 0)
  else 0
def findR (pre : List MarkD) : List MarkD → Int × Int
  | [] => (0, 0)
  | m :: r => if brokenD pre m ≠ 0 then (brokenD pre m, (pre.length : Int)) else findR (pre ++ [m]) r

/-! ### one more mark -/
theorem delC_snoc (l : List MarkD) (m : MarkD) (x : Who) (i : V4) : delC (l ++ [m]) x i = delC l x i + (if isDel x i m = true then 1 else 0) := by
  unfold delC
  rw [List.countP_append, List.countP_singleton]
theorem delS_snoc (l : List MarkD) (m : MarkD) (x : Who) (i : V4) (q : Int) : delS (l ++ [m]) x i q = delS l x i q + (if (isDel x i m && decide (m.sender = q)) = true then 1 else 0) := by
  unfold delS
  rw [List.countP_append, List.countP_singleton]
theorem entK_left (l : List MarkD) (m : MarkD) (i : V4) {k : Nat} (h : k < l.length) : entK (l ++ [m]) i k = entK l i k := by
  unfold entK
  rw [List.getElem?_append_left h, List.take_append_of_le_length (Nat.le_of_lt h)]
theorem entK_last (l : List MarkD) (m : MarkD) (i : V4) : entK (l ++ [m]) i l.length = if isInst i m = true then some ⟨m.who, (stanD m.who l).id, m.tr, (stanD m.who l).del⟩ else none := by
  unfold entK
  rw [List.getElem?_append_right (Nat.le_refl _), Nat.sub_self, List.take_left]
  rfl
theorem fm_congr {α β : Type} {f g : α → Option β} : ∀ {l : List α}, (∀ a ∈ l, f a = g a) → l.filterMap f = l.filterMap g
  | [], _ => rfl
  | a :: r, h => by
    rw [List.filterMap_cons, List.filterMap_cons, h a (by simp), fm_congr (fun b hb => h b (by simp [hb]))]
theorem instD_snoc (l : List MarkD) (m : MarkD) (i : V4) : instD (l ++ [m]) i = instD l i ++ (if isInst i m = true then [⟨m.who, (stanD m.who l).id, m.tr, (stanD m.who l).del⟩] else []) := by
  unfold instD
  rw [List.length_append, List.length_singleton, List.range_succ, List.filterMap_append]
  congr 1
  · exact fm_congr fun k hk => entK_left l m i (List.mem_range.1 hk)
  · rw [List.filterMap_cons, entK_last]
    by_cases h : isInst i m = true
    · simp [h]
    · simp [h]
theorem instD_who (l : List MarkD) (i : V4) (x : Who) : (instD l i).any (fun e => decide (e.w = x)) = inView l i x := by
  suffices h : ∀ (n : Nat) (l : List MarkD), l.length = n → (instD l i).any (fun e => decide (e.w = x)) = inView l i x from h _ l rfl
  intro n
  induction n with
  | zero =>
    intro l hl
    obtain rfl := List.length_eq_zero_iff.1 hl
    rfl
  | succ n ih =>
    intro l hl
    rcases List.eq_nil_or_concat l with rfl | ⟨r, m, rfl⟩
    · cases hl
    · rw [List.concat_eq_append] at hl ⊢
      rw [instD_snoc, List.any_append, ih r (by simpa using hl)]
      unfold inView
      rw [List.any_append]
      congr 1
      by_cases h : isInst i m = true
      · simp [h]
      · simp [h]
end Go.Proofs.Ytfpcmleeehciaaa
namespace Go.Proofs.Ytfpcmleeehciaaa
set_option linter.unusedVariables false
set_option linter.unusedSimpArgs false

structure LR (v : LifeD) (s : StanD) : Prop where
  halted : v.halted = s.halted
  blocked : v.blocked = s.blocked
  id : v.id = s.id
  mem : v.mem = s.mem
  acc : v.acc = s.acc
  own : v.own = s.own
  lastPos : v.lastPos = s.lastPos
  safe : v.safe = s.safe
/-- An incarnation's deliveries in a view. -/
def dlvD (l : List MarkD) (x : Who) (i : V4) : List TolD := (l.filter (isDel x i)).map MarkD.told
theorem dlv_len (l : List MarkD) (x : Who) (i : V4) : (dlvD l x i).length = delC l x i := by
  unfold dlvD delC
  rw [List.length_map, List.countP_eq_length_filter]
theorem dlv_snoc (l : List MarkD) (m : MarkD) (x : Who) (i : V4) : dlvD (l ++ [m]) x i = dlvD l x i ++ (if isDel x i m = true then [m.told] else []) := by
  unfold dlvD
  rw [List.filter_append, List.map_append]
  congr 1
  by_cases h : isDel x i m = true
  · simp [h]
  · simp [h]
structure RInv (l : List MarkD) (s : GrpD) : Prop where
  at_ : ∀ y, l.getLast? = some y → s.at_ = y.at_
  at0 : l = [] → s.at_ = 0
  clock : roundD l = (s.clock : Int)
  pres : ∀ p, presD p l = (decide (s.up p ≠ 0), s.last p)
  upl : ∀ p, s.up p ≠ 0 → s.up p = s.last p
  last0 : ∀ p, 0 ≤ s.last p
  life : ∀ x, LR (s.life x) (stanD x l)
  ep : ∀ x, 0 ≤ (s.life x).id.1
  unb : ∀ x, (s.life x).blocked = false → (s.life x).id ≠ nov
  frm : ∀ x q, (s.life x).id ≠ nov → (s.life x).frm q = delS l x (s.life x).id q
  here : ∀ y ∈ l, y.kind = 8 ∨ y.kind = 4 → inView l y.id y.who = true ∧ y.id ≠ nov
  view : ∀ x, (s.life x).id ≠ nov → inView l (s.life x).id x = true
  count : ∀ i x, s.count (i, x) = delC l x i
  del : ∀ x, (stanD x l).del = delC l x (stanD x l).id
  inst : ∀ i, s.inst i = instD l i
  mem : ∀ y ∈ l, y.kind = 7 → s.mem y.id = y.mem
  sent : ∀ i x q b, s.sent (i, x, q) = some b ↔ l.any (isSend x i q b) = true
  acc : ∀ y ∈ l, y.kind = 4 → y.id = (s.life y.who).id → y.seq ≤ ((s.life y.who).acc : Int)
  order : ∀ i x, dlvD l x i = (s.order i).take (delC l x i)
  cover : ∀ i j, j < (s.order i).length → ∃ x, j < delC l x i
  rise : ∀ i, (s.order i).Pairwise fun a b => a.pos < b.pos
  lastPos : ∀ x t, (s.life x).id ≠ nov → (dlvD l x (s.life x).id).getLast? = some t → (s.life x).lastPos = t.pos
theorem rinv0 : RInv [] grp0 where
  at_ := fun y h => by cases h
  at0 := fun _ => rfl
  clock := rfl
  pres := fun p => rfl
  upl := fun p h => absurd rfl h
  last0 := fun p => Int.le_refl _
  life := fun x => ⟨rfl, rfl, rfl, rfl, rfl, rfl, rfl, rfl⟩
  ep := fun x => Int.le_refl _
  unb := fun x h => by cases h
  frm := fun x q h => absurd rfl h
  here := fun y h => by cases h
  view := fun x h => absurd rfl h
  count := fun i x => rfl
  del := fun x => rfl
  inst := fun i => rfl
  mem := fun y h => by cases h
  sent := fun i x q b => ⟨(fun h => by cases h), (fun h => by cases h)⟩
  acc := fun y h => by cases h
  order := fun i x => rfl
  cover := fun i j h => by cases h
  rise := fun i => List.Pairwise.nil
  lastPos := fun x t h => absurd rfl h
theorem risB_pair : ∀ {l : List Int}, risB l = true → l.Pairwise (· < ·)
  | [], _ => List.Pairwise.nil
  | [a], _ => by simp
  | a :: b :: r, hb => by
    unfold risB at hb
    simp only [Bool.and_eq_true, decide_eq_true_eq] at hb
    have ih := risB_pair hb.2
    refine List.pairwise_cons.2 ⟨fun x hx => ?_, ih⟩
    rcases List.mem_cons.1 hx with rfl | hx
    · exact hb.1
    · have := (List.pairwise_cons.1 ih).1 x hx
      omega
theorem rise_any {ms : List MemD} (hr : risB (ms.map (·.p)) = true) (a b : Int) : ms.any (fun x => decide (x.p = a) && decide (x.i = b)) = decide (memI ms a < ms.length ∧ (ms.getD (memI ms a) ⟨0, 0, 0⟩).i = b) := by
  have hp := risB_pair hr
  clear hr
  induction ms with
  | nil => rfl
  | cons x r ih =>
    rw [List.map_cons] at hp
    obtain ⟨h1, h2⟩ := List.pairwise_cons.1 hp
    rw [List.any_cons, ih h2]
    unfold memI
    rw [List.findIdx_cons]
    by_cases e : x.p = a
    · have h3 : ¬ List.findIdx (fun x => decide (x.p = a)) r < r.length := fun h3 => by
        have h4 := List.findIdx_getElem (w := h3)
        have h5 := h1 _ (List.mem_map_of_mem (List.getElem_mem h3))
        simp only [decide_eq_true_eq] at h4
        omega
      simp [e, h3]
    · simp [e]
section
variable {l : List MarkD} {s : GrpD} (h : RInv l s)
include h
theorem RInv.order_le (i : V4) (x : Who) : delC l x i ≤ (s.order i).length := by
  have h1 := dlv_len l x i
  rw [h.order i x, List.length_take] at h1
  omega
theorem RInv.may (m : MarkD) : mayB s m = rule1D l m := by
  have hc : (m.at_ < 0 ∨ m.at_ < s.at_ ∨ m.kind < 1 ∨ 16 < m.kind) ↔ (m.at_ < 0 ∨ lastAt l m = true ∨ m.kind < 1 ∨ 16 < m.kind) := by
    unfold lastAt
    cases hl : l.getLast? with
    | none =>
      have := h.at0 (List.getLast?_eq_none_iff.1 hl)
      simp only [this]
      constructor
      · rintro (a | a | a) <;> simp_all
      · rintro (a | a | a) <;> simp_all
    | some y =>
      have := h.at_ y hl
      simp [this]
  have hp := h.pres m.node
  unfold mayB rule1D
  by_cases c1 : m.at_ < 0 ∨ m.at_ < s.at_ ∨ m.kind < 1 ∨ 16 < m.kind
  · rw [if_pos c1, if_pos (hc.1 c1)]
  · rw [if_neg c1, if_neg (fun a => c1 (hc.2 a)), h.clock, hp]
    by_cases c2 : m.kind = 15
    · rw [if_pos c2, if_pos c2]
    · rw [if_neg c2, if_neg c2]
      by_cases c3 : m.node < 0 ∨ 16 ≤ m.node
      · rw [if_pos c3, if_pos c3]
      · rw [if_neg c3, if_neg c3]
        by_cases c4 : m.kind = 1
        · rw [if_pos c4, if_pos c4]
          by_cases u : s.up m.node = 0 <;> simp [u]
        · rw [if_neg c4, if_neg c4, (h.life m.who).halted]
          have hu := h.upl m.node
          by_cases u : s.up m.node = 0
          · simp [u]
          · simp [u, hu u]
theorem RInv.well (m : MarkD) : wellB m.who (s.life m.who).id.1 m = rule2D (stanD m.who l) m := by
  unfold wellB rule2D
  rw [(h.life m.who).id]
  by_cases c1 : m.mem = [] ∨ 16 < m.mem.length
  · rw [if_pos c1, if_pos (by rcases c1 with c1 | c1; exact .inl c1; exact .inr (.inl c1))]
  · rw [if_neg c1]
    by_cases c2 : (m.mem.all fitB && risB (m.mem.map (·.p))) = false
    · rw [if_pos c2, if_pos]
      rw [Bool.and_eq_false_iff] at c2
      exact .inr (.inr c2)
    · rw [if_neg c2]
      have c3 : m.mem.all fitB = true ∧ risB (m.mem.map (·.p)) = true := by simpa using c2
      rw [if_neg (by rintro (a | a | a | a); exact c1 (.inl a); exact c1 (.inr a); rw [c3.1] at a; cases a; rw [c3.2] at a; cases a), rise_any c3.2]
      show (decide (memI m.mem m.node < m.mem.length ∧ (m.mem.getD (memI m.mem m.node) ⟨0, 0, 0⟩).i = m.inc) && _) = _
      by_cases c4 : memI m.mem m.node < m.mem.length ∧ (m.mem.getD (memI m.mem m.node) ⟨0, 0, 0⟩).i = m.inc
      · rw [if_neg (by rintro (a | a); exact a c4.1; exact a c4.2), decide_eq_true c4]
        unfold headM MarkD.id
        by_cases e1 : (stanD m.who l).id.1 < m.e1
        · simp [e1]
        · simp [e1]
      · rw [if_pos (by by_cases a : memI m.mem m.node < m.mem.length; exact .inr fun b => c4 ⟨a, b⟩; exact .inl a), decide_eq_false c4]
        rfl
theorem inst_ne (i : V4) : s.inst i ≠ [] ↔ ∃ y ∈ l, isInst i y = true := by
  rw [h.inst]
  unfold instD
  constructor
  · intro hn
    obtain ⟨e, he⟩ := List.exists_mem_of_ne_nil _ hn
    obtain ⟨k, hk, hk2⟩ := List.mem_filterMap.1 he
    unfold entK at hk2
    rw [List.getElem?_eq_getElem (List.mem_range.1 hk)] at hk2
    simp only at hk2
    split at hk2
    · rename_i hi
      exact ⟨_, List.getElem_mem _, hi⟩
    · cases hk2
  · rintro ⟨y, hy, hi⟩ hn
    obtain ⟨k, hk, rfl⟩ := List.mem_iff_getElem.1 hy
    have : (entK l i k).isSome = true := by
      unfold entK
      rw [List.getElem?_eq_getElem hk]
      simp [hi]
    obtain ⟨e, he⟩ := Option.isSome_iff_exists.1 this
    have h2 : e ∈ (List.range l.length).filterMap (entK l i) := List.mem_filterMap.2 ⟨k, List.mem_range.2 hk, he⟩
    rw [hn] at h2
    cases h2
theorem RInv.three (m : MarkD) : (((s.inst m.id) ≠ [] ∧ s.mem m.id ≠ m.mem) ∨ (s.inst m.id).any (fun e => decide (e.w = m.who)) = true) ↔ rule3D l m = false := by
  rw [h.inst, instD_who]
  unfold rule3D
  rw [List.all_eq_false]
  constructor
  · rintro (⟨h1, h2⟩ | h1)
    · rw [← h.inst] at h1
      obtain ⟨y, hy, hi⟩ := (inst_ne h m.id).1 h1
      refine ⟨y, hy, ?_⟩
      have hi' := hi
      unfold isInst at hi'
      simp only [Bool.and_eq_true, decide_eq_true_eq] at hi'
      have := h.mem y hy hi'.1
      rw [hi'.2] at this
      simp only [hi, Bool.not_true, Bool.false_or]
      rw [decide_eq_false (fun e : y.mem = m.mem => h2 (this.trans e))]
      simp
    · unfold inView at h1
      obtain ⟨y, hy, h2⟩ := List.any_eq_true.1 h1
      simp only [Bool.and_eq_true, decide_eq_true_eq] at h2
      exact ⟨y, hy, by simp [h2.2, h2.1]⟩
  · rintro ⟨y, hy, h1⟩
    have h2 : isInst m.id y = true := by
      cases e : isInst m.id y
      · rw [e] at h1; simp at h1
      · rfl
    rw [h2] at h1
    have hi' := h2
    unfold isInst at hi'
    simp only [Bool.and_eq_true, decide_eq_true_eq] at hi'
    have hm := h.mem y hy hi'.1
    rw [hi'.2] at hm
    by_cases e : y.mem = m.mem
    · right
      unfold inView
      refine List.any_eq_true.2 ⟨y, hy, ?_⟩
      have : decide (y.who = m.who) = true := by
        cases ew : decide (y.who = m.who)
        · rw [ew] at h1; simp [e] at h1
        · rfl
      rw [this, h2]; rfl
    · left
      rw [← h.inst]
      exact ⟨(inst_ne h m.id).2 ⟨y, hy, h2⟩, fun e2 => e (hm.symm.trans e2)⟩
theorem RInv.four (m : MarkD) : togB s m.who (s.life m.who).id m = rule4D l (stanD m.who l) m := by
  unfold togB rule4D
  rw [(h.life m.who).id, h.inst]
  show (if m.tr.all (memB m.mem) = false ∨ risB m.tr = false ∨ m.tr.contains m.node = false then false else _) = _
  by_cases c1 : m.tr.all (memB m.mem) = false ∨ risB m.tr = false
  · rw [if_pos c1, if_pos (by rcases c1 with a | a; exact .inl a; exact .inr (.inl a))]
  · rw [if_neg c1]
    by_cases c2 : m.tr.contains m.node = false
    · rw [if_pos (.inr (.inr c2)), if_pos (.inl c2)]
    · rw [if_neg (by rintro (a | a | a); exact c1 (.inl a); exact c1 (.inr a); exact c2 a)]
      by_cases c3 : (stanD m.who l).id = nov ∧ m.tr.length ≠ 1
      · rw [if_pos c3, if_pos (.inr c3)]
      · rw [if_neg c3, if_neg (by rintro (a | a); exact c2 a; exact c3 a)]
theorem RInv.nine (m : MarkD) : (s.inst m.id).all (alikeB (s.life m.who).id (s.count ((s.life m.who).id, m.who))) = rule9D l (stanD m.who l) m := by
  unfold rule9D
  rw [h.inst, (h.life m.who).id, h.count, ← h.del m.who]
  by_cases c : (stanD m.who l).id = nov
  · rw [decide_eq_true c, Bool.true_or, List.all_eq_true]
    intro e _
    simp [alikeB, c]
  · rw [decide_eq_false c, Bool.false_or]
    congr 1
    funext e
    unfold alikeB
    rw [decide_eq_false c, Bool.false_or]
    by_cases e1 : e.frm = (stanD m.who l).id <;> simp [e1]
theorem RInv.instR_eq (m : MarkD) : instR s m = installsD l (stanD m.who l) m := by
  unfold instR installsD
  simp only
  rw [h.well m, h.four m, h.nine m, (h.life m.who).blocked, (h.life m.who).acc, (h.life m.who).own]
  by_cases c1 : rule2D (stanD m.who l) m = false
  · rw [if_pos c1, if_pos c1]
  · rw [if_neg c1, if_neg c1]
    by_cases c2 : rule3D l m = false
    · rw [if_pos ((h.three m).2 c2), if_pos c2]
    · rw [if_neg (fun a => c2 ((h.three m).1 a)), if_neg c2]
end
/-! ### one order -/
theorem dlv_append (a b : List MarkD) (x : Who) (i : V4) : dlvD (a ++ b) x i = dlvD a x i ++ dlvD b x i := by
  unfold dlvD
  rw [List.filter_append, List.map_append]
theorem dlv_at (l : List MarkD) (x : Who) (i : V4) (k : Nat) (hk : k < l.length) (hd : isDel x i l[k] = true) (d : Nat) (hc : delC (l.take (k + 1)) x i = d + 1) : (dlvD l x i)[d]? = some l[k].told := by
  have e : l = l.take k ++ [l[k]] ++ l.drop (k + 1) := by rw [← List.take_succ_eq_append_getElem hk, List.take_append_drop]
  have e1 : dlvD l x i = dlvD (l.take k) x i ++ [l[k].told] ++ dlvD (l.drop (k + 1)) x i := by
    conv => lhs; rw [e]
    rw [dlv_append, dlv_snoc, if_pos hd]
  rw [List.take_succ_eq_append_getElem hk, delC_snoc, if_pos hd] at hc
  have e2 : (dlvD (l.take k) x i).length = d := by rw [dlv_len]; omega
  rw [e1, List.append_assoc, List.getElem?_append_right (by omega), e2, Nat.sub_self]
  rfl
theorem dlv_ex (x : Who) (i : V4) : ∀ (n : Nat) (l : List MarkD), l.length = n → ∀ j, j < delC l x i → ∃ k, ∃ hk : k < l.length, isDel x i l[k] = true ∧ delC (l.take (k + 1)) x i = j + 1 := by
  intro n
  induction n with
  | zero =>
    intro l hl j hj
    obtain rfl := List.length_eq_zero_iff.1 hl
    cases hj
  | succ n ih =>
    intro l hl j hj
    rcases List.eq_nil_or_concat l with rfl | ⟨r, m, rfl⟩
    · cases hl
    · rw [List.concat_eq_append] at hl hj ⊢
      have hr : r.length = n := by simpa using hl
      by_cases h1 : j < delC r x i
      · obtain ⟨k, hk, hd, hc⟩ := ih r hr j h1
        refine ⟨k, by rw [List.length_append]; omega, ?_, ?_⟩
        · rw [List.getElem_append_left hk]; exact hd
        · rw [List.take_append_of_le_length (by omega)]; exact hc
      · rw [delC_snoc] at hj
        by_cases hd : isDel x i m = true
        · rw [if_pos hd] at hj
          refine ⟨r.length, by simp, ?_, ?_⟩
          · rw [List.getElem_append_right (Nat.le_refl _)]
            simpa using hd
          · rw [List.take_of_length_le (by simp), delC_snoc, if_pos hd]
            omega
        · rw [if_neg hd] at hj
          omega
/-! ### what sort.Search answers -/
theorem seekF_spec (f : Nat → Bool) (c : Nat) : ∀ (d i j : Nat), j - i = d → i ≤ c → c ≤ j → (∀ k, i ≤ k → k < j → (f k = true ↔ c ≤ k)) → seekF f i j = c := by
  intro d
  induction d using Nat.strongRecOn with
  | _ d ih =>
    intro i j hd hi hj hf
    unfold seekF
    by_cases h : i < j
    · rw [dif_pos h]
      have hm := hf ((i + j) / 2) (by omega) (by omega)
      by_cases e : f ((i + j) / 2) = false
      · rw [if_pos e]
        have : ¬ c ≤ (i + j) / 2 := fun a => by rw [hm.2 a] at e; cases e
        exact ih _ (by omega) _ _ rfl (by omega) hj (fun k h1 h2 => hf k (by omega) h2)
      · rw [if_neg e]
        have : c ≤ (i + j) / 2 := hm.1 (by simpa using e)
        exact ih _ (by omega) _ _ rfl hi this (fun k h1 h2 => hf k h1 (by omega))
    · rw [dif_neg h]
      omega
theorem rise_count {L : List TolD} (hr : L.Pairwise fun a b => a.pos < b.pos) (p : Int) : ∀ k (hk : k < L.length), (p < L[k].pos ↔ L.countP (fun t => decide (t.pos ≤ p)) ≤ k) := by
  induction L with
  | nil => intro k hk; cases hk
  | cons a r ih =>
    obtain ⟨h1, h2⟩ := List.pairwise_cons.1 hr
    have ih := ih h2
    intro k hk
    rw [List.countP_cons]
    have hz : p < a.pos → r.countP (fun t => decide (t.pos ≤ p)) = 0 := fun hp => List.countP_eq_zero.2 fun t ht => by
      have := h1 t ht
      simp; omega
    cases k with
    | zero =>
      simp only [List.getElem_cons_zero]
      by_cases hp : p < a.pos
      · rw [hz hp]
        simp [hp]
      · have : decide (a.pos ≤ p) = true := decide_eq_true (by omega)
        simp [this, hp]
    | succ k =>
      simp only [List.getElem_cons_succ]
      have hk' : k < r.length := by simpa using hk
      by_cases hp : p < a.pos
      · have h3 := h1 _ (List.getElem_mem hk')
        rw [hz hp]
        have : decide (a.pos ≤ p) = false := decide_eq_false (by omega)
        simp [this]
        omega
      · have : decide (a.pos ≤ p) = true := decide_eq_true (by omega)
        rw [ih k hk', this]
        simp
theorem rise_take {L : List TolD} (hr : L.Pairwise fun a b => a.pos < b.pos) (p : Int) (c : Nat) (hc : c ≤ L.length) : (L.take c).countP (fun t => decide (t.pos ≤ p)) = min c (L.countP fun t => decide (t.pos ≤ p)) := by
  induction L generalizing c with
  | nil => simp at hc; subst hc; simp
  | cons a r ih =>
    obtain ⟨h1, h2⟩ := List.pairwise_cons.1 hr
    cases c with
    | zero => simp
    | succ c =>
      rw [List.take_succ_cons, List.countP_cons, List.countP_cons, ih h2 c (by simpa using hc)]
      by_cases hp : a.pos ≤ p
      · simp [hp]
        try omega
      · have hz : r.countP (fun t => decide (t.pos ≤ p)) = 0 := List.countP_eq_zero.2 fun t ht => by
          have := h1 t ht
          simp; omega
        rw [hz]
        simp [hp]
theorem below_eq {L : List TolD} (hr : L.Pairwise fun a b => a.pos < b.pos) (p : Int) : belowD L p = L.countP fun t => decide (t.pos ≤ p) := by
  unfold belowD
  refine seekF_spec _ _ _ _ _ rfl (Nat.zero_le _) List.countP_le_length fun k _ hk => ?_
  rw [← rise_count hr p k hk, List.getD_eq_getElem?_getD, List.getElem?_eq_getElem hk]
  simp
section
variable {l : List MarkD} {s : GrpD} (h : RInv l s)
include h
theorem RInv.upTo (i : V4) (pos : Int) (x : Who) : upToN l i pos x = min (s.count (i, x)) (belowD (s.order i) pos) := by
  have e : upToN l i pos x = (dlvD l x i).countP fun t => decide (t.pos ≤ pos) := by
    unfold upToN dlvD
    rw [List.countP_map, List.countP_filter]
    congr 1
    funext y
    rw [Bool.and_comm]
    rfl
  rw [e, h.order i x, rise_take (h.rise i) pos _ (h.order_le i x), below_eq (h.rise i), h.count]
theorem RInv.ten (m : MarkD) : safR s m = if rule10D l (stanD m.who l) m = false then 10 else 0 := by
  unfold safR rule10D
  simp only
  rw [(h.life m.who).id, (h.life m.who).blocked, (h.life m.who).safe, (h.life m.who).mem]
  by_cases c : (stanD m.who l).id = nov ∨ m.id ≠ (stanD m.who l).id ∨ (stanD m.who l).blocked = true ∨ m.pos ≤ (stanD m.who l).safe
  · rw [if_pos c, if_pos c]; rfl
  · rw [if_neg c, if_neg c]
    have e : (fun x : MemD => (s.inst m.id).any (fun e => decide (e.w = (x.p, x.i))) && decide (min (s.count (m.id, (x.p, x.i))) (belowD (s.order m.id) m.pos) = min (s.count (m.id, m.who)) (belowD (s.order m.id) m.pos))) = fun x => inView l m.id (x.p, x.i) && decide (upToN l m.id m.pos (x.p, x.i) = upToN l m.id m.pos m.who) := by
      funext x
      rw [h.inst, instD_who, h.upTo, h.upTo]
    rw [e]
theorem RInv.eight (m : MarkD) (hid : (s.life m.who).id = m.id) : (s.count (m.id, m.who) < (s.order m.id).length ∧ (s.order m.id)[s.count (m.id, m.who)]? ≠ some m.told) ↔ rule8D l (stanD m.who l) m = false := by
  have hd : (stanD m.who l).del = delC l m.who m.id := by rw [h.del, ← (h.life m.who).id, hid]
  rw [h.count]
  unfold rule8D
  rw [List.all_eq_false]
  constructor
  · rintro ⟨h1, h2⟩
    obtain ⟨x, hx⟩ := h.cover _ _ h1
    have hne : x ≠ m.who := fun e => by rw [e] at hx; omega
    obtain ⟨k, hk, hk2, hk3⟩ := dlv_ex x m.id _ l rfl _ hx
    refine ⟨k, List.mem_range.2 hk, ?_⟩
    have h3 := dlv_at l x m.id k hk hk2 _ hk3
    rw [h.order, List.getElem?_take, if_pos hx] at h3
    have hk2' := hk2
    unfold isDel at hk2'
    simp only [Bool.and_eq_true, decide_eq_true_eq] at hk2'
    obtain ⟨q1, q2, q3⟩ := hk2'
    unfold eightK
    rw [List.getElem?_eq_getElem hk]
    simp only
    have h4 : l[k].told ≠ m.told := fun e => by rw [e] at h3; exact h2 h3
    rw [q2, decide_eq_true q1, decide_eq_true q3, hd, hk3, decide_eq_true rfl, decide_eq_false hne, decide_eq_false h4]
    decide
  · rintro ⟨k, hk, h1⟩
    have hk := List.mem_range.1 hk
    unfold eightK at h1
    rw [List.getElem?_eq_getElem hk] at h1
    simp only [Bool.not_eq_true, Bool.or_eq_false_iff, Bool.not_eq_false', Bool.and_eq_true, decide_eq_true_eq, Bool.not_eq_true', decide_eq_false_iff_not] at h1
    obtain ⟨⟨q1, q2⟩, ⟨q3, q4⟩, q5⟩ := h1
    rw [hd] at q3
    have hdel : isDel l[k].who m.id l[k] = true := by unfold isDel; simp [q1, q2]
    have h3 := dlv_at l l[k].who m.id k hk hdel _ q3
    have hlt : delC l m.who m.id < (dlvD l l[k].who m.id).length := by
      rcases Nat.lt_or_ge (delC l m.who m.id) (dlvD l l[k].who m.id).length with a | a
      · exact a
      · rw [List.getElem?_eq_none a] at h3; cases h3
    rw [dlv_len] at hlt
    rw [h.order, List.getElem?_take, if_pos hlt] at h3
    have := h.order_le m.id l[k].who
    refine ⟨by omega, ?_⟩
    rw [h3]
    exact fun e => q5 (Option.some.inj e)
theorem RInv.del_eq (m : MarkD) : delR s m = if rule7D l (stanD m.who l) m = false then 7 else if rule8D l (stanD m.who l) m = false then 8 else 0 := by
  unfold delR rule7D
  simp only
  have hf := h.frm m.who m.sender
  have h8 := h.eight m
  rw [(h.life m.who).id] at hf h8 ⊢
  rw [(h.life m.who).mem, (h.life m.who).lastPos]
  by_cases c : (stanD m.who l).id = nov ∨ m.id ≠ (stanD m.who l).id ∨ ¬ memI (stanD m.who l).mem m.sender < (stanD m.who l).mem.length ∨ m.pos ≤ (stanD m.who l).lastPos
  · rw [if_pos c, if_pos]
    · rfl
    · rcases c with a | a | a | a
      · exact .inl a
      · exact .inr (.inl a)
      · exact .inr (.inr (.inl a))
      · exact .inr (.inr (.inr (.inl a)))
  · have n1 : (stanD m.who l).id ≠ nov := fun a => c (.inl a)
    have n2 : (stanD m.who l).id = m.id := Classical.not_not.1 fun a => c (.inr (.inl fun b => a b.symm))
    rw [n2] at hf h8 n1
    have hf := hf n1
    have h8 := h8 rfl
    rw [if_neg c, hf]
    have hs := h.sent m.id (m.sender, ((stanD m.who l).mem.getD (memI (stanD m.who l).mem m.sender) ⟨0, 0, 0⟩).i) m.seq m.body
    by_cases c2 : m.seq ≠ (delS l m.who m.id m.sender : Int) + 1
    · rw [if_pos (.inr (.inr (.inr (.inr c2)))), decide_eq_false c2, Bool.and_false]; rfl
    · rw [if_neg (by rintro (a | a | a | a | a); exact c (.inl a); exact c (.inr (.inl a)); exact c (.inr (.inr (.inl a))); exact c (.inr (.inr (.inr a))); exact c2 a), decide_eq_true (Classical.not_not.1 c2), Bool.and_true]
      by_cases c3 : s.sent (m.id, (m.sender, ((stanD m.who l).mem.getD (memI (stanD m.who l).mem m.sender) ⟨0, 0, 0⟩).i), m.seq) = some m.body
      · rw [hs.1 c3, if_neg (fun a => a c3), if_neg (show ¬ (true = false) by decide)]
        by_cases c4 : rule8D l (stanD m.who l) m = false
        · rw [if_pos (h8.2 c4), if_pos c4]
        · rw [if_neg (fun a => c4 (h8.1 a)), if_neg c4]
      · rw [if_pos c3, if_pos]
        rw [Bool.eq_false_iff]
        exact fun a => c3 (hs.2 a)
/-- The same rule. -/
theorem RInv.rule (m : MarkD) : ruleG s m = brokenD l m := by
  unfold ruleG brokenD sendR
  simp only
  rw [h.may m, h.instR_eq m, h.del_eq m, h.ten m, (h.life m.who).blocked, (h.life m.who).id, (h.life m.who).acc]
end
end Go.Proofs.Ytfpcmleeehciaaa
namespace Go.Proofs.Ytfpcmleeehciaaa
set_option linter.unusedVariables false
set_option linter.unusedSimpArgs false

theorem isDel_no {m : MarkD} (h : m.kind ≠ 8) (x : Who) (i : V4) : isDel x i m = false := by unfold isDel; rw [decide_eq_false h]; rfl
theorem isSend_no {m : MarkD} (h : m.kind ≠ 4) (x : Who) (i : V4) (q : Int) (b : List UInt8) : isSend x i q b m = false := by unfold isSend; rw [decide_eq_false h]; rfl
theorem isInst_no {m : MarkD} (h : m.kind ≠ 7) (i : V4) : isInst i m = false := by unfold isInst; rw [decide_eq_false h]; rfl
theorem isDel_iff {m : MarkD} {x : Who} {i : V4} : isDel x i m = true ↔ m.kind = 8 ∧ m.who = x ∧ m.id = i := by unfold isDel; simp
theorem inView_snoc (l : List MarkD) (m : MarkD) (i : V4) (x : Who) : inView (l ++ [m]) i x = (inView l i x || (decide (m.who = x) && isInst i m)) := by
  unfold inView
  rw [List.any_append]
  simp
theorem inView_mono {l : List MarkD} {i : V4} {x : Who} (h : inView l i x = true) (m : MarkD) : inView (l ++ [m]) i x = true := by rw [inView_snoc, h]; rfl
theorem life_upd (s : GrpD) (w : Who) (v : LifeD) (x : Who) : GrpD.life { s with lives := upd s.lives w (some v) } x = if x = w then v else s.life x := by
  unfold GrpD.life upd
  simp only
  split
  · rfl
  · rfl
theorem delC_none {l : List MarkD} {s : GrpD} (h : RInv l s) {x : Who} {i : V4} (hi : inView l i x = false ∨ i = nov) : delC l x i = 0 := by
  unfold delC
  refine List.countP_eq_zero.2 fun y hy hd => ?_
  obtain ⟨h1, h2, h3⟩ := isDel_iff.1 hd
  obtain ⟨g1, g2⟩ := h.here y hy (.inl h1)
  rw [h2, h3] at g1
  rcases hi with hi | hi
  · rw [hi] at g1; cases g1
  · rw [h3] at g2; exact g2 hi
theorem delS_none {l : List MarkD} {x : Who} {i : V4} (h : delC l x i = 0) (q : Int) : delS l x i q = 0 := by
  unfold delC at h
  unfold delS
  rw [List.countP_eq_zero] at h ⊢
  intro y hy hd
  simp only [Bool.and_eq_true] at hd
  exact h y hy hd.1
structure Calm (v v' : LifeD) (t t' : StanD) : Prop where
  or : (v'.id = v.id ∧ v'.frm = v.frm ∧ v'.acc = v.acc ∧ v'.lastPos = v.lastPos ∧ (v'.blocked = false → v.blocked = false) ∧ t'.id = t.id ∧ t'.del = t.del) ∨ (v'.id = nov ∧ v'.blocked = true ∧ t'.id = nov ∧ t'.del = 0)
theorem RInv.quiet {l : List MarkD} {s : GrpD} (h : RInv l s) {m : MarkD} (h4 : m.kind ≠ 4) (h7 : m.kind ≠ 7) (h8 : m.kind ≠ 8) {s' : GrpD} (hat : s'.at_ = m.at_) (hcl : roundD (l ++ [m]) = (s'.clock : Int)) (hpres : ∀ p, presD p (l ++ [m]) = (decide (s'.up p ≠ 0), s'.last p))
    (hupl : ∀ p, s'.up p ≠ 0 → s'.up p = s'.last p) (hl0 : ∀ p, 0 ≤ s'.last p) (hinst : s'.inst = s.inst) (hmem : s'.mem = s.mem) (hsent : s'.sent = s.sent) (horder : s'.order = s.order) (hcount : s'.count = s.count) (hLR : ∀ x, LR (s'.life x) (stanD x (l ++ [m])))
    (hcalm : ∀ x, Calm (s.life x) (s'.life x) (stanD x l) (stanD x (l ++ [m]))) : RInv (l ++ [m]) s' := by
  have eC : ∀ x i, delC (l ++ [m]) x i = delC l x i := fun x i => by rw [delC_snoc, isDel_no h8]; simp
  have eS : ∀ x i q, delS (l ++ [m]) x i q = delS l x i q := fun x i q => by rw [delS_snoc, isDel_no h8]; simp
  have eD : ∀ x i, dlvD (l ++ [m]) x i = dlvD l x i := fun x i => by rw [dlv_snoc, isDel_no h8]; simp
  have eV : ∀ i x, inView (l ++ [m]) i x = inView l i x := fun i x => by rw [inView_snoc, isInst_no h7]; simp
  have mem : ∀ {p : MarkD → Prop}, (∀ y ∈ l, p y) → p m → ∀ y ∈ l ++ [m], p y := fun h1 h2 y hy => by
    rcases List.mem_append.1 hy with h3 | h3
    · exact h1 y h3
    · simp at h3; subst h3; exact h2
  exact {
    at_ := fun y hy => by rw [List.getLast?_concat] at hy; rw [hat, ← Option.some.inj hy]
    at0 := fun e => by simp at e
    clock := hcl
    pres := hpres
    upl := hupl
    last0 := hl0
    life := hLR
    ep := fun x => by
      rcases (hcalm x).or with c | c
      · rw [c.1]; exact h.ep x
      · rw [c.1]; exact Int.le_refl _
    unb := fun x hb => by
      rcases (hcalm x).or with c | c
      · rw [c.1]; exact h.unb x (c.2.2.2.2.1 hb)
      · rw [c.2.1] at hb; cases hb
    frm := fun x q hn => by
      rcases (hcalm x).or with c | c
      · rw [c.1] at hn ⊢; rw [c.2.1, eS]; exact h.frm x q hn
      · exact absurd c.1 hn
    here := mem (fun y hy hk => by rw [eV]; exact h.here y hy hk) (fun hk => by rcases hk with hk | hk; exact absurd hk h8; exact absurd hk h4)
    view := fun x hn => by
      rcases (hcalm x).or with c | c
      · rw [c.1] at hn ⊢; rw [eV]; exact h.view x hn
      · exact absurd c.1 hn
    count := fun i x => by rw [hcount, eC]; exact h.count i x
    del := fun x => by
      rcases (hcalm x).or with c | c
      · rw [c.2.2.2.2.2.2, c.2.2.2.2.2.1, eC]; exact h.del x
      · rw [c.2.2.2, c.2.2.1, eC, delC_none h (.inr rfl)]
    inst := fun i => by rw [hinst, instD_snoc, isInst_no h7, h.inst]; simp
    mem := mem (fun y hy hk => by rw [hmem]; exact h.mem y hy hk) (fun hk => absurd hk h7)
    sent := fun i x q b => by rw [hsent, List.any_append, h.sent]; simp [isSend_no h4]
    acc := mem (fun y hy hk hi => by
      rcases (hcalm y.who).or with c | c
      · rw [c.1] at hi; rw [c.2.2.1]; exact h.acc y hy hk hi
      · exact absurd (hi.trans c.1) (h.here y hy (.inr hk)).2) (fun hk => absurd hk h4)
    order := fun i x => by rw [eD, eC, horder]; exact h.order i x
    cover := fun i j hj => by rw [horder] at hj; obtain ⟨x, hx⟩ := h.cover i j hj; exact ⟨x, by rw [eC]; exact hx⟩
    rise := fun i => by rw [horder]; exact h.rise i
    lastPos := fun x t hn ht => by
      rcases (hcalm x).or with c | c
      · rw [c.1] at hn ht; rw [eD] at ht; rw [c.2.2.2.1]; exact h.lastPos x t hn ht
      · exact absurd c.1 hn }

/-- What the first rule gives. -/
theorem may_round {s : GrpD} {m : MarkD} (h : mayB s m = true) (hk : m.kind = 15) : m.node = 0 ∧ m.inc = 0 ∧ m.n = (s.clock : Int) + 1 := by
  unfold mayB at h
  by_cases c : m.at_ < 0 ∨ m.at_ < s.at_ ∨ m.kind < 1 ∨ 16 < m.kind
  · rw [if_pos c] at h; cases h
  · rw [if_neg c, if_pos hk] at h
    exact of_decide_eq_true h
theorem may_boot {s : GrpD} {m : MarkD} (h : mayB s m = true) (hk : m.kind = 1) : s.up m.node = 0 ∧ s.last m.node < m.inc := by
  unfold mayB at h
  by_cases c : m.at_ < 0 ∨ m.at_ < s.at_ ∨ m.kind < 1 ∨ 16 < m.kind
  · rw [if_pos c] at h; cases h
  · rw [if_neg c, if_neg (by omega)] at h
    by_cases c2 : m.node < 0 ∨ 16 ≤ m.node
    · rw [if_pos c2] at h; cases h
    · rw [if_neg c2, if_pos hk] at h
      exact of_decide_eq_true h
theorem may_other {s : GrpD} {m : MarkD} (h : mayB s m = true) (h15 : m.kind ≠ 15) (h1 : m.kind ≠ 1) : s.up m.node ≠ 0 ∧ m.inc = s.up m.node ∧ (m.kind ≠ 2 → (s.life m.who).halted = false) := by
  unfold mayB at h
  by_cases c : m.at_ < 0 ∨ m.at_ < s.at_ ∨ m.kind < 1 ∨ 16 < m.kind
  · rw [if_pos c] at h; cases h
  · rw [if_neg c, if_neg h15] at h
    by_cases c2 : m.node < 0 ∨ 16 ≤ m.node
    · rw [if_pos c2] at h; cases h
    · rw [if_neg c2, if_neg h1] at h
      by_cases c3 : s.up m.node = 0 ∨ m.inc ≠ s.up m.node
      · rw [if_pos c3] at h; cases h
      · rw [if_neg c3] at h
        refine ⟨fun a => c3 (.inl a), Classical.not_not.1 fun a => c3 (.inr a), fun h2 => ?_⟩
        rw [decide_eq_false h2] at h
        simpa using h
theorem LR.stay {l : List MarkD} {s : GrpD} (h : RInv l s) {m : MarkD} (hk : m.kind = 15 ∨ (m.kind ≠ 1 ∧ m.kind ≠ 3 ∧ m.kind ≠ 6 ∧ m.kind ≠ 7 ∧ m.kind ≠ 4 ∧ m.kind ≠ 8 ∧ m.kind ≠ 9)) (x : Who) : stanD x (l ++ [m]) = stanD x l := by
  rw [stanD_snoc]
  unfold stanS
  rcases hk with hk | ⟨a, b, c, d, e, f, g⟩
  · rw [if_pos (.inr hk)]
  · rw [if_neg a, if_neg b, if_neg c, if_neg d, if_neg e, if_neg f, if_neg g]
    split <;> rfl
theorem stan_other (l : List MarkD) {m : MarkD} {x : Who} (h : m.who ≠ x) : stanD x (l ++ [m]) = stanD x l := by
  rw [stanD_snoc]
  unfold stanS
  rw [if_pos (.inl h)]
theorem pres_other (l : List MarkD) {m : MarkD} (h1 : m.kind ≠ 1) (h2 : m.kind ≠ 2) (p : Int) : presD p (l ++ [m]) = presD p l := by
  rw [presD_snoc]
  unfold presS
  rw [if_neg h1, if_neg h2]
  split <;> rfl
theorem round_other (l : List MarkD) {m : MarkD} (h : m.kind ≠ 15) : roundD (l ++ [m]) = roundD l := by
  rw [roundD_snoc]
  unfold roundS
  rw [if_neg h]
section
variable {l : List MarkD} {s : GrpD} (h : RInv l s) {m : MarkD}
include h
theorem RInv.next15 (hm : mayB s m = true) (hk : m.kind = 15) : RInv (l ++ [m]) (nextG s m) := by
  have e : nextG s m = { s with at_ := m.at_, clock := s.clock + 1 } := by unfold nextG; simp only [hk, if_true]
  rw [e]
  have hl : ∀ x, GrpD.life { s with at_ := m.at_, clock := s.clock + 1 } x = s.life x := fun x => rfl
  have hs := LR.stay h (m := m) (.inl hk)
  refine h.quiet (by omega) (by omega) (by omega) rfl ?_ (fun p => ?_) h.upl h.last0 rfl rfl rfl rfl rfl (fun x => ?_) (fun x => ⟨.inl ?_⟩)
  · rw [roundD_snoc]
    unfold roundS
    rw [if_pos hk, (may_round hm hk).2.2]
    simp
  · rw [pres_other l (by omega) (by omega)]; exact h.pres p
  · rw [hl, hs]; exact h.life x
  · rw [hl, hs]; exact ⟨rfl, rfl, rfl, rfl, id, rfl, rfl⟩
theorem RInv.next1 (hm : mayB s m = true) (hk : m.kind = 1) : RInv (l ++ [m]) (nextG s m) := by
  have e : nextG s m = { s with at_ := m.at_, up := upd s.up m.node m.inc, last := upd s.last m.node m.inc, lives := upd s.lives m.who (some life0) } := by unfold nextG; simp [hk]
  rw [e]
  have hb := may_boot hm hk
  have hl0 := h.last0 m.node
  have hl : ∀ x, GrpD.life { s with at_ := m.at_, up := upd s.up m.node m.inc, last := upd s.last m.node m.inc, lives := upd s.lives m.who (some life0) } x = if x = m.who then life0 else s.life x := fun x => life_upd s m.who life0 x
  have hw : stanD m.who (l ++ [m]) = stan0 := by
    rw [stanD_snoc]
    unfold stanS
    rw [if_neg (by rintro (a | a); exact a rfl; omega), if_pos hk]
  refine h.quiet (by omega) (by omega) (by omega) rfl ?_ (fun p => ?_) (fun p hp => ?_) (fun p => ?_) rfl rfl rfl rfl rfl (fun x => ?_) (fun x => ⟨?_⟩)
  · rw [round_other l (by omega)]; exact h.clock
  · rw [presD_snoc]
    unfold presS
    by_cases ep : m.node = p
    · subst ep
      rw [if_neg (fun a => a rfl), if_pos hk]
      simp only [upd_self]
      rw [decide_eq_true (by omega)]
    · rw [if_pos ep]
      simp only [upd_ne _ _ (fun a => ep a.symm)]
      exact h.pres p
  · simp only at hp ⊢
    by_cases ep : p = m.node
    · subst ep; simp
    · rw [upd_ne _ _ ep] at hp ⊢; rw [upd_ne _ _ ep]; exact h.upl p hp
  · simp only
    by_cases ep : p = m.node
    · subst ep; simp; omega
    · rw [upd_ne _ _ ep]; exact h.last0 p
  · rw [hl]
    by_cases ex : x = m.who
    · subst ex
      rw [if_pos rfl, hw]
      exact ⟨rfl, rfl, rfl, rfl, rfl, rfl, rfl, rfl⟩
    · rw [if_neg ex, stan_other l (fun a => ex a.symm)]
      exact h.life x
  · rw [hl]
    by_cases ex : x = m.who
    · subst ex
      rw [if_pos rfl, hw]
      exact .inr ⟨rfl, rfl, rfl, rfl⟩
    · rw [if_neg ex, stan_other l (fun a => ex a.symm)]
      exact .inl ⟨rfl, rfl, rfl, rfl, id, rfl, rfl⟩
theorem RInv.next2 (hk : m.kind = 2) : RInv (l ++ [m]) (nextG s m) := by
  have e : nextG s m = { s with at_ := m.at_, up := upd s.up m.node 0 } := by unfold nextG; simp [hk]
  rw [e]
  have hl : ∀ x, GrpD.life { s with at_ := m.at_, up := upd s.up m.node 0 } x = s.life x := fun x => rfl
  have hs := LR.stay h (m := m) (.inr (by omega))
  refine h.quiet (by omega) (by omega) (by omega) rfl ?_ (fun p => ?_) (fun p hp => ?_) h.last0 rfl rfl rfl rfl rfl (fun x => ?_) (fun x => ⟨.inl ?_⟩)
  · rw [round_other l (by omega)]; exact h.clock
  · rw [presD_snoc]
    unfold presS
    by_cases ep : m.node = p
    · subst ep
      rw [if_neg (fun a => a rfl), if_neg (by omega), if_pos hk, h.pres]
      simp
    · rw [if_pos ep]
      simp only [upd_ne _ _ (fun a => ep a.symm)]
      exact h.pres p
  · simp only at hp ⊢
    by_cases ep : p = m.node
    · subst ep; simp at hp
    · rw [upd_ne _ _ ep] at hp ⊢; exact h.upl p hp
  · rw [hl, hs]; exact h.life x
  · rw [hl, hs]; exact ⟨rfl, rfl, rfl, rfl, id, rfl, rfl⟩
/-- Kinds that turn one life's own words alone. -/
theorem RInv.nextOwn (hk : m.kind = 3 ∨ m.kind = 6 ∨ m.kind = 9) {v : LifeD} (e : nextG s m = { s with at_ := m.at_, lives := upd s.lives m.who (some v) }) (hv : LR v (stanS m.who (stanD m.who l) m)) (hc : v.id = (s.life m.who).id ∧ v.frm = (s.life m.who).frm ∧ v.acc = (s.life m.who).acc ∧ v.lastPos = (s.life m.who).lastPos ∧ (v.blocked = false → (s.life m.who).blocked = false))
    (ht : (stanS m.who (stanD m.who l) m).id = (stanD m.who l).id ∧ (stanS m.who (stanD m.who l) m).del = (stanD m.who l).del) : RInv (l ++ [m]) (nextG s m) := by
  rw [e]
  have hl : ∀ x, GrpD.life { s with at_ := m.at_, lives := upd s.lives m.who (some v) } x = if x = m.who then v else s.life x := fun x => life_upd s m.who v x
  refine h.quiet (by omega) (by omega) (by omega) rfl ?_ (fun p => ?_) h.upl h.last0 rfl rfl rfl rfl rfl (fun x => ?_) (fun x => ⟨.inl ?_⟩)
  · rw [round_other l (by omega)]; exact h.clock
  · rw [pres_other l (by omega) (by omega)]; exact h.pres p
  · rw [hl]
    by_cases ex : x = m.who
    · subst ex; rw [if_pos rfl, stanD_snoc]; exact hv
    · rw [if_neg ex, stan_other l (fun a => ex a.symm)]; exact h.life x
  · rw [hl]
    by_cases ex : x = m.who
    · subst ex; rw [if_pos rfl, stanD_snoc]; exact ⟨hc.1, hc.2.1, hc.2.2.1, hc.2.2.2.1, hc.2.2.2.2, ht.1, ht.2⟩
    · rw [if_neg ex, stan_other l (fun a => ex a.symm)]; exact ⟨rfl, rfl, rfl, rfl, id, rfl, rfl⟩
theorem RInv.next3 (hk : m.kind = 3) : RInv (l ++ [m]) (nextG s m) := by
  have e2 : stanS m.who (stanD m.who l) m = { stanD m.who l with halted := true } := by
    unfold stanS
    rw [if_neg (by rintro (a | a); exact a rfl; omega), if_neg (by omega), if_pos hk]
  have L := h.life m.who
  refine h.nextOwn (.inl hk) (v := { s.life m.who with halted := true }) (by unfold nextG; simp [hk]; rfl) ?_ ⟨rfl, rfl, rfl, rfl, id⟩ ?_
  · rw [e2]; exact ⟨rfl, L.blocked, L.id, L.mem, L.acc, L.own, L.lastPos, L.safe⟩
  · rw [e2]; exact ⟨rfl, rfl⟩
theorem RInv.next6 (hk : m.kind = 6) : RInv (l ++ [m]) (nextG s m) := by
  have e2 : stanS m.who (stanD m.who l) m = { stanD m.who l with blocked := true } := by
    unfold stanS
    rw [if_neg (by rintro (a | a); exact a rfl; omega), if_neg (by omega), if_neg (by omega), if_pos hk]
  have L := h.life m.who
  refine h.nextOwn (.inr (.inl hk)) (v := { s.life m.who with blocked := true }) (by unfold nextG; simp [hk]; rfl) ?_ ⟨rfl, rfl, rfl, rfl, fun a => by cases a⟩ ?_
  · rw [e2]; exact ⟨L.halted, rfl, L.id, L.mem, L.acc, L.own, L.lastPos, L.safe⟩
  · rw [e2]; exact ⟨rfl, rfl⟩
theorem RInv.next9 (hk : m.kind = 9) : RInv (l ++ [m]) (nextG s m) := by
  have e2 : stanS m.who (stanD m.who l) m = { stanD m.who l with safe := m.pos } := by
    unfold stanS
    rw [if_neg (by rintro (a | a); exact a rfl; omega), if_neg (by omega), if_neg (by omega), if_neg (by omega), if_neg (by omega), if_neg (by omega), if_neg (by omega), if_pos hk]
  have L := h.life m.who
  refine h.nextOwn (.inr (.inr hk)) (v := { s.life m.who with safe := m.pos }) (by unfold nextG; simp [hk]; rfl) ?_ ⟨rfl, rfl, rfl, rfl, id⟩ ?_
  · rw [e2]; exact ⟨L.halted, L.blocked, L.id, L.mem, L.acc, L.own, L.lastPos, rfl⟩
  · rw [e2]; exact ⟨rfl, rfl⟩
theorem RInv.nextRest (h15 : m.kind ≠ 15) (h1 : m.kind ≠ 1) (h2 : m.kind ≠ 2) (h3 : m.kind ≠ 3) (h7 : m.kind ≠ 7) (h6 : m.kind ≠ 6) (h4 : m.kind ≠ 4) (h8 : m.kind ≠ 8) (h9 : m.kind ≠ 9) : RInv (l ++ [m]) (nextG s m) := by
  have e : nextG s m = { s with at_ := m.at_ } := by unfold nextG; simp [h15, h1, h2, h3, h7, h6, h4, h8, h9]
  rw [e]
  have hl : ∀ x, GrpD.life { s with at_ := m.at_ } x = s.life x := fun x => rfl
  have hs := LR.stay h (m := m) (.inr ⟨h1, h3, h6, h7, h4, h8, h9⟩)
  refine h.quiet h4 h7 h8 rfl ?_ (fun p => ?_) h.upl h.last0 rfl rfl rfl rfl rfl (fun x => ?_) (fun x => ⟨.inl ?_⟩)
  · rw [round_other l h15]; exact h.clock
  · rw [pres_other l h1 h2]; exact h.pres p
  · rw [hl, hs]; exact h.life x
  · rw [hl, hs]; exact ⟨rfl, rfl, rfl, rfl, id, rfl, rfl⟩
end
end Go.Proofs.Ytfpcmleeehciaaa
namespace Go.Proofs.Ytfpcmleeehciaaa
set_option linter.unusedVariables false
set_option linter.unusedSimpArgs false

theorem all_snocM {l : List MarkD} {m : MarkD} {p : MarkD → Prop} (h1 : ∀ y ∈ l, p y) (h2 : p m) : ∀ y ∈ l ++ [m], p y := fun y hy => by
  rcases List.mem_append.1 hy with h3 | h3
  · exact h1 y h3
  · simp at h3; subst h3; exact h2
theorem isSend_iff {m : MarkD} {x : Who} {i : V4} {q : Int} {b : List UInt8} : isSend x i q b m = true ↔ m.kind = 4 ∧ m.who = x ∧ m.id = i ∧ m.seq = q ∧ m.body = b := by unfold isSend; simp
theorem pair_last {L : List TolD} (hr : L.Pairwise fun a b => a.pos < b.pos) {t : TolD} (ht : L.getLast? = some t) : ∀ a ∈ L, a.pos ≤ t.pos := by
  intro a ha
  obtain ⟨k, hk, rfl⟩ := List.mem_iff_getElem.1 ha
  rw [List.getLast?_eq_getElem?] at ht
  have hk2 : L.length - 1 < L.length := by omega
  rw [List.getElem?_eq_getElem hk2] at ht
  have := Option.some.inj ht
  subst this
  rcases Nat.lt_or_ge k (L.length - 1) with h1 | h1
  · exact Int.le_of_lt (List.pairwise_iff_getElem.1 hr k _ hk hk2 h1)
  · have : k = L.length - 1 := by omega
    subst this
    exact Int.le_refl _
section
variable {l : List MarkD} {s : GrpD} (h : RInv l s) {m : MarkD}
include h
theorem RInv.next4 (hk : m.kind = 4) (hb : (s.life m.who).blocked = false) (hi : m.id = (s.life m.who).id) (hq : m.seq = ((s.life m.who).acc : Int) + 1) : RInv (l ++ [m]) (nextG s m) := by
  have e : nextG s m = { s with at_ := m.at_, lives := upd s.lives m.who (some { s.life m.who with acc := (s.life m.who).acc + 1 }), sent := upd s.sent (m.id, m.who, m.seq) (some m.body) } := by unfold nextG; simp [hk]; rfl
  rw [e]
  have hl : ∀ x, GrpD.life { s with at_ := m.at_, lives := upd s.lives m.who (some { s.life m.who with acc := (s.life m.who).acc + 1 }), sent := upd s.sent (m.id, m.who, m.seq) (some m.body) } x = if x = m.who then { s.life m.who with acc := (s.life m.who).acc + 1 } else s.life x := fun x => life_upd s m.who _ x
  have e2 : stanS m.who (stanD m.who l) m = { stanD m.who l with acc := (stanD m.who l).acc + 1 } := by
    unfold stanS
    rw [if_neg (by rintro (a | a); exact a rfl; omega), if_neg (by omega), if_neg (by omega), if_neg (by omega), if_neg (by omega), if_pos hk]
  have hn := h.unb m.who hb
  have hv := h.view m.who hn
  have eC : ∀ x i, delC (l ++ [m]) x i = delC l x i := fun x i => by rw [delC_snoc, isDel_no (by omega)]; simp
  have eS : ∀ x i q, delS (l ++ [m]) x i q = delS l x i q := fun x i q => by rw [delS_snoc, isDel_no (by omega)]; simp
  have eD : ∀ x i, dlvD (l ++ [m]) x i = dlvD l x i := fun x i => by rw [dlv_snoc, isDel_no (by omega)]; simp
  have eV : ∀ i x, inView (l ++ [m]) i x = inView l i x := fun i x => by rw [inView_snoc, isInst_no (by omega)]; simp
  have hid : ∀ x, (GrpD.life { s with at_ := m.at_, lives := upd s.lives m.who (some { s.life m.who with acc := (s.life m.who).acc + 1 }), sent := upd s.sent (m.id, m.who, m.seq) (some m.body) } x).id = (s.life x).id := fun x => by
    rw [hl]; split
    · rename_i ex; rw [ex]
    · rfl
  have L := h.life m.who
  exact {
    at_ := fun y hy => by rw [List.getLast?_concat] at hy; rw [← Option.some.inj hy]
    at0 := fun e => by simp at e
    clock := by rw [round_other l (by omega)]; exact h.clock
    pres := fun p => by rw [pres_other l (by omega) (by omega)]; exact h.pres p
    upl := h.upl
    last0 := h.last0
    life := fun x => by
      rw [hl]
      by_cases ex : x = m.who
      · subst ex
        rw [if_pos rfl, stanD_snoc, e2]
        exact ⟨L.halted, L.blocked, L.id, L.mem, by show _ + 1 = _ + 1; rw [L.acc], L.own, L.lastPos, L.safe⟩
      · rw [if_neg ex, stan_other l (fun a => ex a.symm)]; exact h.life x
    ep := fun x => by rw [hid]; exact h.ep x
    unb := fun x hx => by
      rw [hid]
      rw [hl] at hx
      by_cases ex : x = m.who
      · subst ex; exact hn
      · rw [if_neg ex] at hx; exact h.unb x hx
    frm := fun x q hx => by
      rw [hid] at hx ⊢
      rw [hl, eS]
      by_cases ex : x = m.who
      · subst ex; rw [if_pos rfl]; exact h.frm _ q hx
      · rw [if_neg ex]; exact h.frm x q hx
    here := all_snocM (fun y hy hk => by rw [eV]; exact h.here y hy hk) (fun _ => by rw [eV, hi]; exact ⟨hv, hn⟩)
    view := fun x hx => by rw [hid] at hx ⊢; rw [eV]; exact h.view x hx
    count := fun i x => by rw [eC]; exact h.count i x
    del := fun x => by
      by_cases ex : x = m.who
      · subst ex; rw [stanD_snoc, e2, eC]; exact h.del _
      · rw [stan_other l (fun a => ex a.symm), eC]; exact h.del x
    inst := fun i => by rw [instD_snoc, isInst_no (by omega)]; simp; exact h.inst i
    mem := all_snocM (fun y hy hk => h.mem y hy hk) (fun hk2 => by omega)
    sent := fun i x q b => by
      rw [List.any_append]
      by_cases ek : (i, x, q) = (m.id, m.who, m.seq)
      · injection ek with e1 e3
        injection e3 with e3 e4
        subst e1 e3 e4
        have hno : l.any (isSend m.who m.id m.seq b) = false := by
          rw [Bool.eq_false_iff]
          intro a
          obtain ⟨y, hy, hs⟩ := List.any_eq_true.1 a
          obtain ⟨q1, q2, q3, q4, q5⟩ := isSend_iff.1 hs
          have := h.acc y hy q1 (by rw [q2, q3]; exact hi)
          rw [q2, q4, hq] at this
          omega
        simp only [upd_self]
        rw [hno, Bool.false_or, List.any_cons, List.any_nil, Bool.or_false, isSend_iff]
        constructor
        · intro a; exact ⟨hk, rfl, rfl, rfl, Option.some.inj a⟩
        · rintro ⟨_, _, _, _, rfl⟩; rfl
      · simp only [upd_ne _ _ ek]
        have : isSend x i q b m = false := by
          rw [Bool.eq_false_iff]
          intro a
          obtain ⟨_, q2, q3, q4, _⟩ := isSend_iff.1 a
          exact ek (by rw [q2, q3, q4])
        rw [List.any_cons, List.any_nil, this]
        simp only [Bool.or_false]
        exact h.sent i x q b
    acc := all_snocM (fun y hy hk hi2 => by
      rw [hid] at hi2
      have := h.acc y hy hk hi2
      rw [hl]
      by_cases ex : y.who = m.who
      · rw [if_pos ex]
        rw [ex] at this
        simp only
        omega
      · rw [if_neg ex]; exact this) (fun _ _ => by
      rw [hl, if_pos rfl, hq]
      simp only
      omega)
    order := fun i x => by rw [eD, eC]; exact h.order i x
    cover := fun i j hj => by obtain ⟨x, hx⟩ := h.cover i j hj; exact ⟨x, by rw [eC]; exact hx⟩
    rise := h.rise
    lastPos := fun x t hx ht => by
      rw [hid] at hx ht
      rw [eD] at ht
      rw [hl]
      by_cases ex : x = m.who
      · subst ex; rw [if_pos rfl]; exact h.lastPos _ t hx ht
      · rw [if_neg ex]; exact h.lastPos x t hx ht }
theorem RInv.next7 (hk : m.kind = 7) (hh : (s.life m.who).halted = false) (hep : (s.life m.who).id.1 < m.e1) (hnv : inView l m.id m.who = false) (hmm : s.inst m.id ≠ [] → s.mem m.id = m.mem) : RInv (l ++ [m]) (nextG s m) := by
  have e : nextG s m = { s with at_ := m.at_, mem := upd s.mem m.id m.mem, inst := upd s.inst m.id (s.inst m.id ++ [⟨m.who, (s.life m.who).id, m.tr, s.count ((s.life m.who).id, m.who)⟩]), lives := upd s.lives m.who (some ⟨false, false, m.id, m.mem, 0, 0, 0, 0, fun _ => 0⟩) } := by unfold nextG; simp [hk]; rfl
  rw [e]
  have hl : ∀ x, GrpD.life { s with at_ := m.at_, mem := upd s.mem m.id m.mem, inst := upd s.inst m.id (s.inst m.id ++ [⟨m.who, (s.life m.who).id, m.tr, s.count ((s.life m.who).id, m.who)⟩]), lives := upd s.lives m.who (some ⟨false, false, m.id, m.mem, 0, 0, 0, 0, fun _ => 0⟩) } x = if x = m.who then ⟨false, false, m.id, m.mem, 0, 0, 0, 0, fun _ => 0⟩ else s.life x := fun x => life_upd s m.who _ x
  have e2 : stanS m.who (stanD m.who l) m = ⟨(stanD m.who l).halted, false, m.id, (stanD m.who l).id, m.mem, 0, 0, 0, 0, 0⟩ := by
    unfold stanS
    rw [if_neg (by rintro (a | a); exact a rfl; omega), if_neg (by omega), if_neg (by omega), if_neg (by omega), if_pos hk]
  have hn : m.id ≠ nov := fun a => by
    have h1 := h.ep m.who
    have h2 : m.e1 = 0 := congrArg (·.1) a
    omega
  have hz := delC_none h (.inl hnv)
  have eC : ∀ x i, delC (l ++ [m]) x i = delC l x i := fun x i => by rw [delC_snoc, isDel_no (by omega)]; simp
  have eS : ∀ x i q, delS (l ++ [m]) x i q = delS l x i q := fun x i q => by rw [delS_snoc, isDel_no (by omega)]; simp
  have eD : ∀ x i, dlvD (l ++ [m]) x i = dlvD l x i := fun x i => by rw [dlv_snoc, isDel_no (by omega)]; simp
  have L := h.life m.who
  exact {
    at_ := fun y hy => by rw [List.getLast?_concat] at hy; rw [← Option.some.inj hy]
    at0 := fun e => by simp at e
    clock := by rw [round_other l (by omega)]; exact h.clock
    pres := fun p => by rw [pres_other l (by omega) (by omega)]; exact h.pres p
    upl := h.upl
    last0 := h.last0
    life := fun x => by
      rw [hl]
      by_cases ex : x = m.who
      · subst ex
        rw [if_pos rfl, stanD_snoc, e2]
        exact ⟨by rw [← L.halted, hh], rfl, rfl, rfl, rfl, rfl, rfl, rfl⟩
      · rw [if_neg ex, stan_other l (fun a => ex a.symm)]; exact h.life x
    ep := fun x => by
      rw [hl]
      split
      · have := h.ep m.who
        show 0 ≤ m.e1
        omega
      · exact h.ep x
    unb := fun x hx => by
      rw [hl] at hx ⊢
      by_cases ex : x = m.who
      · rw [if_pos ex]; exact hn
      · rw [if_neg ex] at hx ⊢; exact h.unb x hx
    frm := fun x q hx => by
      rw [hl] at hx ⊢
      rw [eS]
      by_cases ex : x = m.who
      · subst ex; simp only [if_true]; exact (delS_none hz q).symm
      · rw [if_neg ex] at hx ⊢; exact h.frm x q hx
    here := all_snocM (fun y hy hk => ⟨inView_mono (h.here y hy hk).1 m, (h.here y hy hk).2⟩) (fun hk2 => by omega)
    view := fun x hx => by
      rw [hl] at hx ⊢
      by_cases ex : x = m.who
      · subst ex
        simp only [if_true]
        rw [inView_snoc]
        have : isInst m.id m = true := by unfold isInst; simp [hk]
        simp [this]
      · rw [if_neg ex] at hx ⊢; exact inView_mono (h.view x hx) m
    count := fun i x => by rw [eC]; exact h.count i x
    del := fun x => by
      by_cases ex : x = m.who
      · subst ex; rw [stanD_snoc, e2, eC]; exact hz.symm
      · rw [stan_other l (fun a => ex a.symm), eC]; exact h.del x
    inst := fun i => by
      rw [instD_snoc]
      by_cases ei : i = m.id
      · subst ei
        have : isInst m.id m = true := by unfold isInst; simp [hk]
        simp only [upd_self]
        rw [if_pos this, h.inst, L.id, h.count, ← h.del]
      · have : isInst i m = false := by unfold isInst; rw [decide_eq_false (fun a : m.id = i => ei a.symm)]; simp
        simp only [upd_ne _ _ ei]
        rw [this, h.inst]
        simp
    mem := all_snocM (fun y hy hk2 => by
      by_cases ei : y.id = m.id
      · simp only
        rw [ei, upd_self]
        have h1 := h.mem y hy hk2
        rw [ei] at h1
        rw [← h1]
        exact (hmm ((inst_ne h m.id).2 ⟨y, hy, by unfold isInst; simp [hk2, ei]⟩)).symm
      · simp only
        rw [upd_ne _ _ ei]
        exact h.mem y hy hk2) (fun _ => by simp)
    sent := fun i x q b => by rw [List.any_append]; simp [isSend_no (show m.kind ≠ 4 by omega)]; exact (h.sent i x q b).trans (by simp)
    acc := all_snocM (fun y hy hk2 hi2 => by
      rw [hl] at hi2 ⊢
      by_cases ex : y.who = m.who
      · rw [if_pos ex] at hi2
        have := (h.here y hy (.inr hk2)).1
        rw [ex, hi2] at this
        simp only at this
        rw [hnv] at this
        cases this
      · rw [if_neg ex] at hi2 ⊢; exact h.acc y hy hk2 hi2) (fun hk2 => by omega)
    order := fun i x => by rw [eD, eC]; exact h.order i x
    cover := fun i j hj => by obtain ⟨x, hx⟩ := h.cover i j hj; exact ⟨x, by rw [eC]; exact hx⟩
    rise := h.rise
    lastPos := fun x t hx ht => by
      rw [hl] at hx ht ⊢
      rw [eD] at ht
      by_cases ex : x = m.who
      · subst ex
        simp only [if_true] at ht
        have h0 : dlvD l m.who m.id = [] := List.length_eq_zero_iff.1 (by rw [dlv_len]; exact hz)
        rw [h0] at ht
        cases ht
      · rw [if_neg ex] at hx ht ⊢; exact h.lastPos x t hx ht }
theorem RInv.next8 (hk : m.kind = 8) (hn : (s.life m.who).id ≠ nov) (hi : m.id = (s.life m.who).id) (hp : (s.life m.who).lastPos < m.pos) (h8 : ¬ (s.count (m.id, m.who) < (s.order m.id).length ∧ (s.order m.id)[s.count (m.id, m.who)]? ≠ some m.told)) : RInv (l ++ [m]) (nextG s m) := by
  obtain ⟨O, hO⟩ : ∃ O, O = (if s.count (m.id, m.who) = (s.order m.id).length then upd s.order m.id (s.order m.id ++ [m.told]) else s.order) := ⟨_, rfl⟩
  obtain ⟨V, hV⟩ : ∃ V : LifeD, V = { s.life m.who with frm := upd (s.life m.who).frm m.sender ((s.life m.who).frm m.sender + 1), lastPos := m.pos, own := if m.sender = m.who.1 then (s.life m.who).own + 1 else (s.life m.who).own } := ⟨_, rfl⟩
  have e : nextG s m = { s with at_ := m.at_, order := O, count := upd s.count (m.id, m.who) (s.count (m.id, m.who) + 1), lives := upd s.lives m.who (some V) } := by rw [hO, hV]; unfold nextG; simp [hk]; rfl
  rw [e]
  have hl : ∀ x, GrpD.life { s with at_ := m.at_, order := O, count := upd s.count (m.id, m.who) (s.count (m.id, m.who) + 1), lives := upd s.lives m.who (some V) } x = if x = m.who then V else s.life x := fun x => life_upd s m.who _ x
  have e2 : stanS m.who (stanD m.who l) m = { stanD m.who l with del := (stanD m.who l).del + 1, lastPos := m.pos, own := if m.sender = m.who.1 then (stanD m.who l).own + 1 else (stanD m.who l).own } := by
    unfold stanS
    rw [if_neg (by rintro (a | a); exact a rfl; omega), if_neg (by omega), if_neg (by omega), if_neg (by omega), if_neg (by omega), if_neg (by omega), if_pos hk]
  have L := h.life m.who
  have hVid : V.id = m.id := by rw [hV, hi]
  have hd : isDel m.who m.id m = true := isDel_iff.2 ⟨hk, rfl, rfl⟩
  have hdn : ∀ x i, ¬ (x = m.who ∧ i = m.id) → isDel x i m = false := fun x i a => by
    rw [Bool.eq_false_iff]
    intro b
    obtain ⟨_, q1, q2⟩ := isDel_iff.1 b
    exact a ⟨q1.symm, q2.symm⟩
  have eC : ∀ x i, ¬ (x = m.who ∧ i = m.id) → delC (l ++ [m]) x i = delC l x i := fun x i a => by rw [delC_snoc, hdn x i a]; simp
  have eCs : delC (l ++ [m]) m.who m.id = delC l m.who m.id + 1 := by rw [delC_snoc, if_pos hd]
  have eD : ∀ x i, ¬ (x = m.who ∧ i = m.id) → dlvD (l ++ [m]) x i = dlvD l x i := fun x i a => by rw [dlv_snoc, hdn x i a]; simp
  have eDs : dlvD (l ++ [m]) m.who m.id = dlvD l m.who m.id ++ [m.told] := by rw [dlv_snoc, if_pos hd]
  have eV : ∀ i x, inView (l ++ [m]) i x = inView l i x := fun i x => by rw [inView_snoc, isInst_no (by omega)]; simp
  have hcn := h.count m.id m.who
  have hle := h.order_le m.id m.who
  have hid : ∀ x, (GrpD.life { s with at_ := m.at_, order := O, count := upd s.count (m.id, m.who) (s.count (m.id, m.who) + 1), lives := upd s.lives m.who (some V) } x).id = (s.life x).id := fun x => by
    rw [hl]; split
    · rename_i ex; rw [ex, hVid, hi]
    · rfl
  have hOo : ∀ i, i ≠ m.id → O i = s.order i := fun i a => by
    rw [hO]
    split
    · exact upd_ne _ _ a
    · rfl
  have hOm : (s.count (m.id, m.who) = (s.order m.id).length ∧ O m.id = s.order m.id ++ [m.told]) ∨ (s.count (m.id, m.who) < (s.order m.id).length ∧ O m.id = s.order m.id ∧ (s.order m.id)[s.count (m.id, m.who)]? = some m.told) := by
    rw [hO]
    by_cases c : s.count (m.id, m.who) = (s.order m.id).length
    · rw [if_pos c]; exact .inl ⟨c, upd_self _ _ _⟩
    · have c2 : s.count (m.id, m.who) < (s.order m.id).length := by omega
      rw [if_neg c]
      exact .inr ⟨c2, rfl, Classical.not_not.1 fun a => h8 ⟨c2, a⟩⟩
  exact {
    at_ := fun y hy => by rw [List.getLast?_concat] at hy; rw [← Option.some.inj hy]
    at0 := fun e => by simp at e
    clock := by rw [round_other l (by omega)]; exact h.clock
    pres := fun p => by rw [pres_other l (by omega) (by omega)]; exact h.pres p
    upl := h.upl
    last0 := h.last0
    life := fun x => by
      rw [hl]
      by_cases ex : x = m.who
      · subst ex
        rw [if_pos rfl, stanD_snoc, e2, hV]
        exact ⟨L.halted, L.blocked, L.id, L.mem, L.acc, by show (if _ then _ else _) = (if _ then _ else _); rw [L.own], rfl, L.safe⟩
      · rw [if_neg ex, stan_other l (fun a => ex a.symm)]; exact h.life x
    ep := fun x => by rw [hid]; exact h.ep x
    unb := fun x hx => by
      rw [hid]
      rw [hl] at hx
      by_cases ex : x = m.who
      · subst ex; exact hn
      · rw [if_neg ex] at hx; exact h.unb x hx
    frm := fun x q hx => by
      rw [hid] at hx ⊢
      rw [hl, delS_snoc]
      by_cases ex : x = m.who
      · subst ex
        rw [if_pos rfl, ← hi, hd, hV]
        have hf := h.frm m.who q hn
        rw [← hi] at hf
        simp only [Bool.true_and, decide_eq_true_eq]
        by_cases eq : q = m.sender
        · subst eq
          rw [upd_self, hf]
          simp
        · rw [upd_ne _ _ eq, hf, if_neg (fun a => eq a.symm)]
          rfl
      · rw [if_neg ex, hdn x _ (fun a => ex a.1)]
        simp only [Bool.false_and]
        exact h.frm x q hx
    here := all_snocM (fun y hy hk => by rw [eV]; exact h.here y hy hk) (fun _ => by rw [eV, hi]; exact ⟨h.view _ hn, hn⟩)
    view := fun x hx => by rw [hid] at hx ⊢; rw [eV]; exact h.view x hx
    count := fun i x => by
      by_cases a : x = m.who ∧ i = m.id
      · obtain ⟨rfl, rfl⟩ := a
        rw [eCs]
        simp only [upd_self]
        rw [hcn]
      · rw [eC x i a]
        have : ((i, x) : V4 × Who) ≠ (m.id, m.who) := fun b => by injection b with b1 b2; exact a ⟨b2, b1⟩
        simp only [upd_ne _ _ this]
        exact h.count i x
    del := fun x => by
      by_cases ex : x = m.who
      · subst ex
        have hid2 : (stanD m.who l).id = m.id := by rw [← L.id, hi]
        rw [stanD_snoc, e2]
        show (stanD m.who l).del + 1 = delC (l ++ [m]) m.who (stanD m.who l).id
        rw [hid2, eCs, h.del, hid2]
      · rw [stan_other l (fun a => ex a.symm), eC x _ (fun a => ex a.1)]; exact h.del x
    inst := fun i => by rw [instD_snoc, isInst_no (by omega)]; simp; exact h.inst i
    mem := all_snocM (fun y hy hk => h.mem y hy hk) (fun hk2 => by omega)
    sent := fun i x q b => by rw [List.any_append]; simp [isSend_no (show m.kind ≠ 4 by omega)]; exact (h.sent i x q b).trans (by simp)
    acc := all_snocM (fun y hy hk2 hi2 => by
      rw [hid] at hi2
      have := h.acc y hy hk2 hi2
      rw [hl]
      by_cases ex : y.who = m.who
      · rw [if_pos ex, hV]; rw [ex] at this; exact this
      · rw [if_neg ex]; exact this) (fun hk2 => by omega)
    order := fun i x => by
      by_cases a : x = m.who ∧ i = m.id
      · obtain ⟨rfl, rfl⟩ := a
        rw [eDs, eCs, h.order]
        simp only
        rcases hOm with ⟨c1, c2⟩ | ⟨c1, c2, c3⟩
        · rw [c2, ← hcn, c1, List.take_of_length_le (Nat.le_refl _), List.take_of_length_le (by simp)]
        · rw [c2, ← hcn]
          have hlt := c1
          rw [List.getElem?_eq_getElem hlt] at c3
          rw [List.take_succ_eq_append_getElem hlt, Option.some.inj c3]
      · rw [eD x i a, eC x i a, h.order]
        simp only
        by_cases ei : i = m.id
        · subst ei
          have := h.order_le m.id x
          rcases hOm with ⟨c1, c2⟩ | ⟨c1, c2, c3⟩
          · rw [c2, List.take_append_of_le_length this]
          · rw [c2]
        · rw [hOo i ei]
    cover := fun i j hj => by
      simp only at hj
      by_cases ei : i = m.id
      · subst ei
        rcases hOm with ⟨c1, c2⟩ | ⟨c1, c2, c3⟩
        · rw [c2, List.length_append, List.length_singleton] at hj
          by_cases hjl : j < (s.order m.id).length
          · obtain ⟨x, hx⟩ := h.cover _ _ hjl
            refine ⟨x, ?_⟩
            rw [delC_snoc]; omega
          · exact ⟨m.who, by rw [eCs]; omega⟩
        · rw [c2] at hj
          obtain ⟨x, hx⟩ := h.cover _ _ hj
          refine ⟨x, ?_⟩
          rw [delC_snoc]; omega
      · rw [hOo i ei] at hj
        obtain ⟨x, hx⟩ := h.cover _ _ hj
        refine ⟨x, ?_⟩
        rw [delC_snoc]; omega
    rise := fun i => by
      simp only
      by_cases ei : i = m.id
      · subst ei
        rcases hOm with ⟨c1, c2⟩ | ⟨c1, c2, c3⟩
        · rw [c2]
          refine List.pairwise_append.2 ⟨h.rise _, List.pairwise_singleton _ _, fun a ha b hb => ?_⟩
          simp at hb
          subst hb
          have hall : dlvD l m.who m.id = s.order m.id := by rw [h.order, ← hcn, c1, List.take_of_length_le (Nat.le_refl _)]
          cases hlast : (s.order m.id).getLast? with
          | none =>
            rw [List.getLast?_eq_none_iff] at hlast
            rw [hlast] at ha
            cases ha
          | some t =>
            have h1 := pair_last (h.rise m.id) hlast a ha
            have h2 := h.lastPos m.who t hn (by rw [← hi, hall]; exact hlast)
            show a.pos < m.pos
            omega
        · rw [c2]; exact h.rise _
      · rw [hOo i ei]; exact h.rise i
    lastPos := fun x t hx ht => by
      rw [hid] at hx ht
      rw [hl]
      by_cases ex : x = m.who
      · subst ex
        rw [← hi, eDs, List.getLast?_concat] at ht
        rw [if_pos rfl, ← Option.some.inj ht, hV]
        rfl
      · rw [eD x _ (fun a => ex a.1)] at ht
        rw [if_neg ex]; exact h.lastPos x t hx ht }
/-- The relation stands behind a mark that breaks no rule. -/
theorem RInv.next (m : MarkD) (hr : ruleG s m = 0) : RInv (l ++ [m]) (nextG s m) := by
  unfold ruleG at hr
  by_cases hmay : mayB s m = false
  · rw [if_pos hmay] at hr; cases hr
  · rw [if_neg hmay] at hr
    have hm : mayB s m = true := by simpa using hmay
    by_cases k15 : m.kind = 15
    · exact h.next15 hm k15
    by_cases k1 : m.kind = 1
    · exact h.next1 hm k1
    by_cases k2 : m.kind = 2
    · exact h.next2 k2
    by_cases k3 : m.kind = 3
    · exact h.next3 k3
    by_cases k7 : m.kind = 7
    · rw [if_pos k7] at hr
      have hh := (may_other hm k15 k1).2.2 k2
      unfold instR at hr
      simp only at hr
      by_cases c2 : wellB m.who (s.life m.who).id.1 m = false
      · rw [if_pos c2] at hr; cases hr
      rw [if_neg c2] at hr
      by_cases c3 : ((s.inst m.id) ≠ [] ∧ s.mem m.id ≠ m.mem) ∨ (s.inst m.id).any (fun e => decide (e.w = m.who)) = true
      · rw [if_pos c3] at hr; cases hr
      refine h.next7 k7 hh ?_ ?_ (fun a => Classical.not_not.1 fun b => c3 (.inl ⟨a, b⟩))
      · have c2' : wellB m.who (s.life m.who).id.1 m = true := by simpa using c2
        unfold wellB at c2'
        by_cases d : m.mem = [] ∨ 16 < m.mem.length ∨ m.mem.all fitB = false ∨ risB (m.mem.map (·.p)) = false
        · rw [if_pos d] at c2'; cases c2'
        · rw [if_neg d] at c2'
          simp only [Bool.and_eq_true, decide_eq_true_eq] at c2'
          exact c2'.2.2
      · rw [← instD_who, ← h.inst, Bool.eq_false_iff]
        exact fun a => c3 (.inr a)
    rw [if_neg k7] at hr
    by_cases k6 : m.kind = 6
    · exact h.next6 k6
    rw [if_neg k6] at hr
    by_cases k4 : m.kind = 4
    · rw [if_pos k4] at hr
      unfold sendR at hr
      simp only at hr
      by_cases c : (s.life m.who).blocked = true ∨ m.id ≠ (s.life m.who).id ∨ m.seq ≠ ((s.life m.who).acc : Int) + 1
      · rw [if_pos c] at hr; cases hr
      · exact h.next4 k4 (by cases hb : (s.life m.who).blocked; rfl; exact absurd (.inl hb) c) (Classical.not_not.1 fun a => c (.inr (.inl a))) (Classical.not_not.1 fun a => c (.inr (.inr a)))
    rw [if_neg k4] at hr
    by_cases k8 : m.kind = 8
    · rw [if_pos k8] at hr
      unfold delR at hr
      simp only at hr
      by_cases c : (s.life m.who).id = nov ∨ m.id ≠ (s.life m.who).id ∨ ¬ memI (s.life m.who).mem m.sender < (s.life m.who).mem.length ∨ m.pos ≤ (s.life m.who).lastPos ∨ m.seq ≠ ((s.life m.who).frm m.sender : Int) + 1
      · rw [if_pos c] at hr; cases hr
      rw [if_neg c] at hr
      split at hr
      · cases hr
      split at hr
      · cases hr
      rename_i h8
      exact h.next8 k8 (fun a => c (.inl a)) (Classical.not_not.1 fun a => c (.inr (.inl a))) (by
        have : ¬ m.pos ≤ (s.life m.who).lastPos := fun a => c (.inr (.inr (.inr (.inl a))))
        omega) h8
    by_cases k9 : m.kind = 9
    · exact h.next9 k9
    exact h.nextRest k15 k1 k2 k3 k7 k6 k4 k8 k9
end
theorem findG_findR : ∀ (ms : List MarkD) {l : List MarkD} {s : GrpD} (h : RInv l s), findG s l.length ms = findR l ms
  | [], _, _, _ => rfl
  | m :: r, l, s, h => by
    unfold findR
    by_cases c : ruleG s m = 0
    · rw [findG_miss _ _ c, ← h.rule m, if_neg (fun a => a c)]
      have := findG_findR r (h.next m c)
      rw [List.length_append, List.length_singleton] at this
      exact this
    · rw [findG_hit _ _ c, ← h.rule m, if_pos c]
/-- The two verdicts are one. -/
theorem group_same (ms : List MarkD) : groupG ms = findR [] ms := findG_findR ms rinv0
/-- As long as no mark ahead breaks a rule, the rounds are as many as their number says. -/
theorem RInv.all : ∀ (ms : List MarkD) (k : Nat), k ≤ ms.length → (∀ j (hj : j < k), ∀ (hl : j < ms.length), brokenD (ms.take j) ms[j] = 0) → RInv (ms.take k) (stG (ms.take k))
  | ms, 0, _, _ => by simp [stG]; exact rinv0
  | ms, k + 1, hk, hb => by
    have ih := RInv.all ms k (by omega) (fun j hj hl => hb j (by omega) hl)
    have hl : k < ms.length := by omega
    rw [List.take_succ_eq_append_getElem hl]
    have e : stG (ms.take k ++ [ms[k]]) = nextG (stG (ms.take k)) ms[k] := by unfold stG; rw [List.foldl_append]; rfl
    rw [e]
    exact ih.next _ (by rw [ih.rule]; exact hb k (by omega) hl)
end Go.Proofs.Ytfpcmleeehciaaa
