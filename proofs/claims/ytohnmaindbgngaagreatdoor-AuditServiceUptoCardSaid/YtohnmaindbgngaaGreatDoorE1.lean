/-
  MERGED: MksW RSrvD RPart
-/
import Derived.Test.YtohnmaindbgngaaGreatDoorQF
import Derived.Test.YtohnmaindbgngaaGreatDoorQ1
import Derived.Test.YtohnmaindbgngaaGreatDoorS1
import Derived.Test.YtohnmaindbgngaaGreatDoorQH
import Derived.Test.YtohnmaindbgngaaGreatDoorQU
import Derived.Test.YtohnmaindbgngaaGreatDoorQQ
namespace Go.Proofs.YtohnmaindbgngaaGreatDoor
set_option linter.unusedVariables false
set_option linter.unusedSimpArgs false
open Go.RowKit

def mineD (m : MarkD) (x : Who) : Bool := decide (m.who = x) && decide (m.kind ≠ 15)
set_option maxRecDepth 20000 in
theorem mine_any (x : MkV) (p i : Int) (w : World) : Calls Tryz.prog 59 #[.agg x.cells.toArray, .int .i64 p, .int .i64 i] w fun e w' => e = .returned (.bool (mineD x.d (p, i))) ∧ Fresh w w' := by
  obtain ⟨r, hr⟩ : ∃ r, r = mineD x.d (p, i) := ⟨_, rfl⟩
  rw [← hr]
  go_enter Tryz.func59, Tryz.ntmps59
  go_upto_region 1 with (fail)
  obtain ⟨w1, hw1⟩ : ∃ w1, w1 = w.alloc (.cells x.cells.toArray 51) := ⟨_, rfl⟩
  obtain ⟨b, hb⟩ : ∃ b, b = w.heap.size := ⟨_, rfl⟩
  rw [← hw1, ← hb]
  have hf1 : Fresh w w1 := hw1 ▸ (Keep.refl _ w).alloc _
  have hm : MkB w1 b x := by rw [hw1, hb]; exact MkB.new w x
  have c1 := hm.kind; have c2 := hm.node; have c3 := hm.inc
  have lb := hm.blk.lt
  obtain ⟨zk, hzk⟩ : ∃ z, z = x.d.kind := ⟨_, rfl⟩
  obtain ⟨zn, hzn⟩ : ∃ z, z = x.d.node := ⟨_, rfl⟩
  obtain ⟨zi, hzi⟩ : ∃ z, z = x.d.inc := ⟨_, rfl⟩
  rw [← hzk] at c1; rw [← hzn] at c2; rw [← hzi] at c3
  have hr2 : r = (decide (zn = p) && (decide (zi = i) && decide (zk ≠ 15))) := by
    rw [hr, hzn, hzi, hzk]
    unfold mineD
    have : decide (x.d.who = (p, i)) = (decide (x.d.node = p) && decide (x.d.inc = i)) := by
      rw [← Bool.decide_and]
      apply decide_eq_decide.2
      exact ⟨fun e => by injection e with e1 e2; exact ⟨e1, e2⟩, fun ⟨e1, e2⟩ => Prod.ext e1 e2⟩
    rw [this, Bool.and_assoc]
  have H := Lib.hid (And.intro hf1 hr2)
  clear hw1 hb hf1 hm hzk hzn hzi hr hr2
  by_cases h1 : zn = p
  · subst h1
    by_cases h2 : zi = i
    · subst h2
      by_cases h3 : zk = 15
      · subst h3
        obtain rfl : r = false := by rw [H.out.2]; simp
        go_wp2_with fail
        go_ret
        exact ⟨rfl, H.out.1⟩
      · have b3 : (zk != 15) = true := by simpa using h3
        obtain rfl : r = true := by rw [H.out.2]; simp [h3]
        clear h3
        go_wp2_with fail
        go_ret
        exact ⟨rfl, H.out.1⟩
    · have b2 : (zi == i) = false := by simpa using h2
      obtain rfl : r = false := by rw [H.out.2]; simp [h2]
      clear h2
      go_wp2_with fail
      go_ret
      exact ⟨rfl, H.out.1⟩
  · have b1 : (zn == p) = false := by simpa using h1
    obtain rfl : r = false := by rw [H.out.2]; simp [h1]
    clear h1
    go_wp2_with fail
    go_ret
    exact ⟨rfl, H.out.1⟩

/-- The k-th mark's words. -/
theorem Mks.ints {w : World} {Z : Nat → Prop} {A : Option Addr} {n : Nat} {hs : List MkV} (h : Mks w Z A n hs) {k : Nat} (hk : k < n) :
    ∃ b o x, A = some ⟨b, o, none⟩ ∧ (∃ hl : k < hs.length, x = hs[k]) ∧ w.rangeAt b (o + k * 26) x.cells := by
  obtain ⟨b, o, rfl, -, hl, hr⟩ := h.at1 hk
  exact ⟨b, o, hs[k], rfl, ⟨hl, rfl⟩, hr⟩
theorem dsOf_snoc {hs : List MkV} {k : Nat} {x : MkV} (h : ∃ hl : k < hs.length, x = hs[k]) : dsOf (hs.take (k + 1)) = dsOf (hs.take k) ++ [x.d] := by
  obtain ⟨hl, rfl⟩ := h
  exact dsOf_take hl
theorem dsOf_all {hs : List MkV} {n : Nat} (h : hs.length = n) : hs.take n = hs := List.take_of_length_le (by rw [h]; exact Nat.le_refl _)

theorem Rd.existing {w : World} {Z : Nat → Prop} {size n : Nat} {A : Option Addr} {xs : List Value} (h : Rd w Z size A n xs) (hs : 0 < size) : Rd w (fun j => j < w.heap.size) size A n xs := by
  refine ⟨h.1, fun hn => ?_⟩
  obtain ⟨b, o, e, hz, hc⟩ := h.2 hn
  refine ⟨b, o, e, ?_, hc⟩
  have hl : 0 < xs.length := by rw [h.1]; exact Nat.mul_pos hn hs
  exact lt_of_cell (hc 0 _ (List.getElem?_eq_getElem hl))
/-- The contract of audit.Group: marks that read, with lists that read. -/
theorem MkOk.existing {w : World} {x : MkV} (h : MkOk w (fun _ => True) x) : MkOk w (fun j => j < w.heap.size) x := by
  have key : ∀ {s n : Nat} {v : Value} {xs : List Value}, 0 < s → SlOk w (fun _ => True) s n v xs → SlOk w (fun j => j < w.heap.size) s n v xs := fun hs h => by
    obtain ⟨A, c, e, h1, h2, h3⟩ := h
    exact ⟨A, c, e, h1, h2, h3.existing hs⟩
  exact ⟨key (by decide) h.m, key (by decide) h.t, key (by decide) h.b⟩
theorem blk_whole {w : World} {b : Nat} {t : TypeId} {cs cs' : Array Value} (h : Blk w b t cs) (hs : cs.size = cs'.size) : Blk (w.setCells b 0 cs'.toList) b t cs' := by
  obtain ⟨ds, h1, h2⟩ := Blk.setCells cs'.toList 0 _ _ h (by simp [hs])
  have e : ds = cs' := by
    apply Array.ext'
    rw [h2]
    simp [hs]
  rw [e] at h1
  exact h1
section
variable {hs : List MkV} {k : Nat} {x : MkV} (hx : ∃ hl : k < hs.length, x = hs[k])
include hx
theorem ds_all_snoc (f : MarkD → Bool) : (dsOf (hs.take (k + 1))).all f = ((dsOf (hs.take k)).all f && f x.d) := by rw [dsOf_snoc hx, List.all_append]; simp
theorem ds_all_false (f : MarkD → Bool) (h : f x.d = false) : (dsOf hs).all f = false := by
  obtain ⟨hl, rfl⟩ := hx
  rw [List.all_eq_false]
  exact ⟨_, List.mem_map_of_mem (List.getElem_mem hl), by rw [h]; decide⟩
end
/-- The k-th of them. -/
structure At (w : World) (b o : Nat) (hs : List MkV) (k : Nat) (x : MkV) : Prop where
  at_ : ∃ hl : k < hs.length, x = hs[k]
  rng : w.rangeAt b (o + k * 26) x.cells
  ok : MkOk w (fun _ => True) x
  one : MkOne x
  fit : MkFit x.d
section
variable {w : World} {b o : Nat} {hs : List MkV} {k : Nat} {x : MkV} (h : At w b o hs k x)
include h
end
end Go.Proofs.YtohnmaindbgngaaGreatDoor
namespace Go.Proofs.YtohnmaindbgngaaGreatDoor
set_option linter.unusedVariables false
set_option linter.unusedSimpArgs false

/-- An incarnation's part in the service, behind some marks. -/
structure RPart where
  id : V4
  mem : List MemD
  viewed : Bool
  adopted : Bool
  asked : Nat
  waits : Bool
  cmd : CmdD
  last : Int
  since : Bool
def rpart0 : RPart := ⟨nov, [], false, false, 0, false, cmd0, 0, false⟩
def rpartS (x : Who) (p : RPart) (m : MarkD) : RPart :=
  if m.who ≠ x ∨ m.kind = 15 then p
  else if m.kind = 1 then rpart0
  else if m.kind = 7 then { p with id := m.id, mem := m.mem, viewed := true, adopted := false }
  else if m.kind = 10 then { p with adopted := true, since := true }
  else if m.kind = 11 then { p with asked := p.asked + 1, waits := true, cmd := m.cmd }
  else if m.kind = 12 then { p with last := m.n, since := false }
  else if m.kind = 13 then { p with waits := false }
  else p
def rpartD (x : Who) (l : List MarkD) : RPart := l.foldl (rpartS x) rpart0
theorem rpartD_snoc (x : Who) (l : List MarkD) (m : MarkD) : rpartD x (l ++ [m]) = rpartS x (rpartD x l) m := by
  unfold rpartD
  rw [List.foldl_append]
  rfl
/-- The first mark that tells of an index. -/
def hmark (ds : List MarkD) (n : Int) : Option MarkD := ds.find? fun d => d.kind == 12 && d.n == n
theorem hfind_mark (ds : List MarkD) (n : Int) : hfind ds n = (hmark ds n).map MarkD.cmd := rfl
theorem hmark_some {ds : List MarkD} {n : Int} {x : MarkD} (h : hmark ds n = some x) : x ∈ ds ∧ x.kind = 12 ∧ x.n = n := by
  unfold hmark at h
  have h1 := List.mem_of_find?_eq_some h
  have h2 := List.find?_some h
  simp at h2
  exact ⟨h1, h2.1, h2.2⟩
theorem hmark_none {ds : List MarkD} {n : Int} (h : hmark ds n = none) {x : MarkD} (hx : x ∈ ds) (hk : x.kind = 12) : x.n ≠ n := by
  unfold hmark at h
  rw [List.find?_eq_none] at h
  have := h x hx
  simp [hk] at this
  exact this
theorem hmark_snoc (ds : List MarkD) (m : MarkD) (n : Int) : hmark (ds ++ [m]) n = match hmark ds n with | some c => some c | none => if m.kind = 12 ∧ m.n = n then some m else none := by
  unfold hmark
  rw [List.find?_append]
  cases hf : ds.find? (fun d => d.kind == 12 && d.n == n) with
  | some x => rfl
  | none =>
    simp only [Option.none_or]
    by_cases hc : m.kind = 12 ∧ m.n = n
    · rw [if_pos hc, List.find?_cons_of_pos (by simp [hc])]
    · rw [if_neg hc, List.find?_cons_of_neg (by simpa using hc)]
      rfl
theorem hist_ex (ds : List MarkD) : ∀ (f : Nat) (cs : List CmdD), (∀ (i : Nat) (h : i < cs.length), hfind ds ((i : Int) + 1) = some cs[i]) → ds.length ≤ cs.length + f → ∃ cs', IsHist ds cs'
  | f, cs, h, hl => by
    cases hn : hfind ds ((cs.length : Int) + 1) with
    | none => exact ⟨cs, h, hn⟩
    | some d =>
      have h2 := hist_more h hn
      match f with
      | 0 =>
        have := hfind_many (cs.length + 1) ds (fun i hi => by
          rcases Nat.lt_succ_iff_lt_or_eq.1 hi with h1 | rfl
          · rw [h i h1]; rfl
          · rw [hn]; rfl)
        omega
      | f + 1 => exact hist_ex ds f (cs ++ [d]) h2 (by simp; omega)
noncomputable def histD (ds : List MarkD) : List CmdD := Classical.choose (hist_ex ds ds.length [] (fun i h => by cases h) (by simp))
theorem histD_is (ds : List MarkD) : IsHist ds (histD ds) := Classical.choose_spec (hist_ex ds ds.length [] (fun i h => by cases h) (by simp))
theorem histD_eq {ds : List MarkD} {cs : List CmdD} (h : IsHist ds cs) : cs = histD ds := by
  have hl : cs.length = (histD ds).length := Nat.le_antisymm (h.le (histD_is ds)) ((histD_is ds).le h)
  refine List.ext_getElem hl fun i h1 h2 => ?_
  have e1 := h.1 i h1
  rw [(histD_is ds).1 i h2] at e1
  exact (Option.some.inj e1).symm
/-- The result that is told for an index. -/
def hres (ds : List MarkD) (n : Int) : Option ResD := (hmark ds n).map MarkD.res
def raskedB (l : List MarkD) (c : CmdD) : Bool := l.any fun x => decide (x.kind = 11) && decide (x.cmd = c)
def rrule25 (l : List MarkD) (m : MarkD) : Bool := raskedB l m.cmd && l.all fun x => !(decide (x.kind = 12) && decide (x.n ≠ m.n) && decide (x.cmd.req = m.cmd.req))
noncomputable def rrule27 (l : List MarkD) (m : MarkD) : Bool := (List.range (histD (l ++ [m])).length).all fun i => decide (i < (histD l).length) || decide ((runRs newD (histD (l ++ [m])))[i]? = hres (l ++ [m]) ((i : Int) + 1))
def rbad23 (p : RPart) (m : MarkD) : Bool := decide (m.n < 1) || decide (4611686018427387904 < m.n) || decide (m.n ≤ p.last) || (decide (0 < p.last) && !p.since && decide (m.n ≠ p.last + 1))
noncomputable def rapplies (l : List MarkD) (m : MarkD) : Int :=
  if rbad23 (rpartD m.who l) m then 23 else match hmark l m.n with
  | some x => if x.cmd ≠ m.cmd ∨ x.res ≠ m.res then 24 else 0
  | none => if rrule25 l m = false then 25 else if rrule27 l m = false then 27 else 0
def rplace (l : List MarkD) (c : CmdD) : Option MarkD := l.find? fun x => decide (x.kind = 12) && decide (x.cmd = c)
noncomputable def rreplies (l : List MarkD) (m : MarkD) : Int :=
  if (rpartD m.who l).waits = false ∨ (rpartD m.who l).cmd ≠ m.cmd then 28 else match rplace l m.cmd with
  | none => 28
  | some x => if x.res ≠ m.res then 28 else if ((histD l).length : Int) < x.n then 29 else 0
/-- An index beyond n was done by who stood in a view of an epoch below e. -/
def rlost (l : List MarkD) (e n : Int) : Bool := (List.range l.length).any fun i => match l[i]? with
  | none => false
  | some x => decide (x.kind = 12) && decide (n < x.n) && (rpartD x.who (l.take i)).viewed && decide ((rpartD x.who (l.take i)).id.1 < e)
def radopt (vs : List Int) (p : RPart) (m : MarkD) : Bool := !p.viewed || decide (m.id ≠ p.id) || !quorB vs (p.mem.map MemD.p) || p.adopted || decide (m.pos < 0) || decide (m.n < m.pos)
def rtakes (p : RPart) (m : MarkD) : Bool := p.adopted && !p.waits && m.cmd.valid && decide (m.cmd.c = m.node) && decide (m.cmd.i = m.inc) && decide (m.cmd.r = (p.asked : Int) + 1)
noncomputable def rserves (vs : List Int) (l : List MarkD) (m : MarkD) : Int :=
  if m.kind = 10 then (if radopt vs (rpartD m.who l) m then 21 else if rlost l m.e1 m.n then 26 else 0)
  else if m.kind = 11 then (if rtakes (rpartD m.who l) m then 0 else 22)
  else if m.kind = 12 then rapplies l m
  else if m.kind = 13 then rreplies l m
  else 0
noncomputable def findRS (vs : List Int) : List MarkD → List MarkD → Int × Int
  | _, [] => (0, 0)
  | l, m :: r => if rserves vs l m = 0 then findRS vs (l ++ [m]) r else (rserves vs l m, (l.length : Int))
noncomputable def rserviceD (vs : List Int) (ms : List MarkD) : (Int × Int) × Int :=
  if ballotB vs = false then ((0, 0), 110) else if ms.all (fun m => decide (0 ≤ m.node) && decide (m.node < (vs.length : Int))) = false then ((0, 0), 1) else (findRS vs [] ms, 0)
end Go.Proofs.YtohnmaindbgngaaGreatDoor
namespace Go.Proofs.YtohnmaindbgngaaGreatDoor
set_option linter.unusedVariables false
set_option linter.unusedSimpArgs false
open Go.RowKit

def rpartV (s : RPart) (vm : Value) : Array Value := #[.int .i64 s.id.1, .int .i64 s.id.2.1, .int .i64 s.id.2.2.1, .int .i64 s.id.2.2.2, vm, .bool s.viewed, .bool s.adopted, .int .i64 (s.asked : Int), .bool s.waits, .int .i64 s.cmd.c, .int .i64 s.cmd.i, .int .i64 s.cmd.r, .int .i64 s.cmd.o, tx s.cmd.k, tx s.cmd.v, tx s.cmd.d, .int .i64 s.last, .bool s.since]
theorem rpart_le (x : Who) (l : List MarkD) : (rpartD x l).asked ≤ l.length := by
  suffices h : ∀ (n : Nat) (l : List MarkD), l.length = n → (rpartD x l).asked ≤ n from h _ l rfl
  intro n
  induction n with
  | zero =>
    intro l hl
    obtain rfl := List.length_eq_zero_iff.1 hl
    exact Nat.le_refl _
  | succ n ih =>
    intro l hl
    rcases List.eq_nil_or_concat l with rfl | ⟨r, m, rfl⟩
    · cases hl
    · rw [List.concat_eq_append] at hl ⊢
      have h1 := ih r (by simpa using hl)
      rw [rpartD_snoc]
      unfold rpartS
      split
      · omega
      split
      · exact Nat.zero_le _
      split
      · show (rpartD x r).asked ≤ _; omega
      split
      · show (rpartD x r).asked ≤ _; omega
      split
      · show (rpartD x r).asked + 1 ≤ _; omega
      split
      · show (rpartD x r).asked ≤ _; omega
      split
      · show (rpartD x r).asked ≤ _; omega
      · omega
/-- What a part's variable holds behind k marks. -/
structure PartI (w wr : World) (b7 b6 : Nat) (s : RPart) (vm : Value) : Prop where
  blk : Blk wr b7 106 (rpartV s vm)
  res : Blk wr b6 106 (rpartV rpart0 (.slice none 0 0))
  mem : SlOk wr (fun j => j < w.heap.size) 3 s.mem.length vm (rcells MemD.cells s.mem)
  le : s.mem.length ≤ 1048576
  fresh : Fresh w wr
theorem PartI.put {w wr w' : World} {b7 b6 : Nat} {s s' : RPart} {vm vm' : Value} (h : PartI w wr b7 b6 s vm) (hk : Keep (fun j => j ≠ b7) wr w') (h7 : w.heap.size ≤ b7) (h6 : b6 ≠ b7) (hb : Blk w' b7 106 (rpartV s' vm')) (hm : SlOk wr (fun j => j < w.heap.size) 3 s'.mem.length vm' (rcells MemD.cells s'.mem)) (hl : s'.mem.length ≤ 1048576) : PartI w w' b7 b6 s' vm' :=
  ⟨hb, h.res.keep hk h6, SlOk.weaken (Z := fun j => j < w.heap.size ∧ j ≠ b7) (by
    exact (hm.weaken fun j hj => ⟨hj, fun e => by omega⟩).keep (hk.weaken fun j _ h => h.2)) (fun j h => h.1), hl, h.fresh.comp hk (fun _ _ h => h) (fun i hi _ e => by omega)⟩
theorem PartI.more {w wr w' : World} {b7 b6 : Nat} {s : RPart} {vm : Value} (h : PartI w wr b7 b6 s vm) (hk : Fresh wr w') : PartI w w' b7 b6 s vm :=
  ⟨h.blk.keep hk trivial, h.res.keep hk trivial, h.mem.keep (hk.weaken fun _ _ _ => trivial), h.le, h.fresh.trans hk⟩
theorem rpart_one (s : RPart) (vm : Value) (h : vm.oneCell' = true) : (rpartV s vm).all (·.oneCell') = true := by
  have e1 : ∀ b, (Value.bool b).oneCell' = true := fun _ => rfl
  have e2 : ∀ z, (Value.int .i64 z).oneCell' = true := fun _ => rfl
  have e3 : ∀ l, (tx l).oneCell' = true := fun _ => rfl
  simp [rpartV, e1, e2, e3, h]
theorem ints4_one (a b c d : Int) : (#[.int .i64 a, .int .i64 b, .int .i64 c, .int .i64 d] : Array Value).all (·.oneCell') = true := by simp [Value.oneCell']
theorem cmdA_one (x : CmdD) : x.cells.toArray.all (·.oneCell') = true := Array.all_eq_true_iff_forall_mem.2 fun u hu => cmd_one x u (by simpa using hu)
theorem rpart_cmd {w : World} {b : Nat} {s : RPart} {vm : Value} (h : Blk w b 106 (rpartV s vm)) (c : CmdD) : Blk (w.setCells b 9 c.cells) b 106 (rpartV { s with cmd := c } vm) := by
  obtain ⟨ds, h1, h2⟩ := Blk.setCells c.cells 9 _ _ h (by rw [cmd_seven]; exact Nat.le_of_ble_eq_true rfl)
  have e : ds = rpartV { s with cmd := c } vm := by
    apply Array.ext'
    rw [h2, cmd_seven]
    rfl
  rw [e] at h1
  exact h1
theorem rpart_do {w : World} {b : Nat} {s : RPart} {vm : Value} (h : Blk w b 106 (rpartV s vm)) : Blk ((w.setCell ⟨b, 7, none⟩ (.int .i64 ((s.asked : Int) + 1))).setCell ⟨b, 8, none⟩ (.bool true)) b 106 (rpartV { s with asked := s.asked + 1, waits := true } vm) := by
  have h1 := (h.set 7 (.int .i64 ((s.asked : Int) + 1))).set 8 (.bool true)
  have e : ((rpartV s vm).setIfInBounds 7 (.int .i64 ((s.asked : Int) + 1))).setIfInBounds 8 (.bool true) = rpartV { s with asked := s.asked + 1, waits := true } vm := by
    simp [rpartV]
  rw [e] at h1
  exact h1
theorem there_sub {w : World} {g o n : Nat} (h : w.there g 0 n) (m : Nat) (hm : o + m ≤ n) : w.there g o m := fun j hj => by
  have := h (o + j) (by omega)
  rwa [Nat.zero_add] at this

set_option maxRecDepth 20000 in
set_option maxHeartbeats 4000000 in
theorem rpart_any (A : Option Addr) (n c : Nat) (hs : List MkV) (p i : Int) (w : World) (h : Mks w (fun _ => True) A n hs) (hok : ∀ x ∈ hs, MkOk w (fun _ => True) x) :
    Calls Tryz.prog 32 #[.slice A n c, .int .i64 p, .int .i64 i] w fun e w' =>
      (∃ vm, e = .returned (.agg (rpartV (rpartD (p, i) (dsOf hs)) vm)) ∧ SlOk w' (fun j => j < w.heap.size) 3 (rpartD (p, i) (dsOf hs)).mem.length vm (rcells MemD.cells (rpartD (p, i) (dsOf hs)).mem) ∧ (rpartD (p, i) (dsOf hs)).mem.length ≤ 1048576) ∧ Fresh w w' := by
  have HM := Lib.hid (And.intro h (show ∀ x ∈ hs, MkOk w (fun j => j < w.heap.size) x from fun x hx => (hok x hx).existing))
  have hle := h.le
  clear h hok
  obtain ⟨R, hR⟩ : ∃ R, R = rpartD (p, i) (dsOf hs) := ⟨_, rfl⟩
  rw [← hR]
  have HR := Lib.hid hR
  clear hR
  go_enter Tryz.func32, Tryz.ntmps32
  go_upto_region 2 with (fail)
  obtain ⟨b6, hb6⟩ : ∃ b, b = w.heap.size := ⟨_, rfl⟩
  obtain ⟨b7, hb7⟩ : ∃ b, b = w.heap.size + 1 := ⟨_, rfl⟩
  have h0 : PartI w ((w.alloc (.cells (rpartV rpart0 (.slice none 0 0)) 106)).alloc (.cells (rpartV rpart0 (.slice none 0 0)) 106)) b7 b6 rpart0 (.slice none 0 0) := by
    refine ⟨?_, ?_, ⟨none, 0, rfl, Nat.le_refl _, fun _ => .inl rfl, Rd.nil _ _ _ _⟩, Nat.zero_le _, ((Keep.refl _ w).alloc _).alloc _⟩
    · have := Blk.new (w.alloc (.cells (rpartV rpart0 (.slice none 0 0)) 106)) 106 (rpartV rpart0 (.slice none 0 0))
      have e : (w.alloc (.cells (rpartV rpart0 (.slice none 0 0)) 106)).heap.size = w.heap.size + 1 := Array.size_push _
      rw [e, ← hb7] at this
      exact this
    · rw [hb6]
      exact (Blk.new w _ _).alloc _
  rw [← hb7, ← hb6]
  generalize hw1 : World.alloc (World.alloc w _) _ = w1
  have H0 : Hid (PartI w w1 b7 b6 rpart0 (.slice none 0 0)) := Lib.hid (hw1 ▸ h0)
  have HB := Lib.hid (And.intro hb6 hb7)
  clear h0 hw1 hb6 hb7
  go_wp2_with fail
  go_loopw [8] (fun iv wr => ∃ k : Nat, k ≤ n ∧ iv = .int .i64 (k : Int) ∧ Hid (∃ s vm, s = rpartD (p, i) (dsOf (hs.take k)) ∧ PartI w wr b7 b6 s vm)) (fun i _ => n - (intOf i).toNat)
  case atStart => exact ⟨0, Nat.zero_le _, rfl, Lib.hid ⟨rpart0, _, rfl, H0.out⟩⟩
  case round =>
    rename World => wr
    obtain ⟨k, hk, rfl, HW⟩ := hrel
    by_cases hlt : k < n
    · obtain ⟨s, vm, hs0, hI⟩ := HW.out
      obtain ⟨b, o, x, rfl, hx, hr⟩ := (HM.out.1.keep hI.fresh).ints hlt
      have hone : MkOne x := by obtain ⟨hl, rfl⟩ := hx; exact HM.out.1.one _ (List.getElem_mem hl)
      have hxo : MkOk wr (fun j => j < w.heap.size) x := by
        obtain ⟨hl, rfl⟩ := hx
        exact (HM.out.2 _ (List.getElem_mem hl)).keep (hI.fresh.weaken fun _ _ _ => trivial)
      have hxf : x.d.mem.length ≤ 1048576 := by obtain ⟨hl, rfl⟩ := hx; exact (HM.out.1.fit _ (List.getElem_mem hl)).m
      have hS : rpartD (p, i) (dsOf (hs.take (k + 1))) = rpartS (p, i) s x.d := by rw [dsOf_snoc hx, rpartD_snoc, hs0]
      have hle2 := rpart_le (p, i) (dsOf (hs.take k))
      rw [← hs0, dsOf_len2, List.length_take] at hle2
      have HR1 := Lib.hid (And.intro hr (And.intro hone (And.intro hS (And.intro hI (And.intro hxo hxf)))))
      have HLe : Hid (s.asked ≤ 1048576) := Lib.hid (by omega)
      clear hr hone hS hI hx hs0 hxo hxf hle2
      go_wp2_with (first | (refine wpList_load_mid rfl 51 _ rfl b (o + k * 26) rfl x.cells _ HR1.out.1 Tryz.underlying51 rfl (by kernel_rfl) ?_) | (refine wpList_store_new rfl (.tmp 9) (.tmp 20) rfl _ x.cells.toArray _ rfl rfl rfl (by kernel_rfl) (Array.all_eq_true_iff_forall_mem.2 fun u hu => mk_one HR1.out.2.1 u (by simpa using hu)) ?_))
      intro w1 hb1 hf1 hs1
      obtain ⟨c9, hc9⟩ : ∃ b, b = wr.heap.size := ⟨_, rfl⟩
      rw [← hc9] at hb1 ⊢
      have HRm := Lib.hid (MkB.mk hb1 : MkB w1 c9 x).range00
      have HC := Lib.hid (mine_any x p i w1)
      have H1 := Lib.hid (And.intro (HR1.out.2.2.2.1.more hf1) (And.intro (MkB.mk hb1 : MkB w1 c9 x) (And.intro (HR1.out.2.2.2.2.1.keep (hf1.weaken fun _ _ _ => trivial)) hc9)))
      have lm := hb1.lt
      clear hb1 hf1 hs1 hc9
      go_wp2_with (refine wpList_load_mid rfl 51 _ rfl c9 0 rfl x.cells _ HRm.out Tryz.underlying51 rfl (by kernel_rfl) ?_)
      obtain ⟨q, hq⟩ : ∃ q, q = mineD x.d (p, i) := ⟨_, rfl⟩
      rw [← hq] at HC
      have HQ := Lib.hid hq
      clear hq lm HRm
      refine Calls.mono HC.out ?_
      rintro e w2 ⟨rfl, hf2⟩
      have H2 := Lib.hid (And.intro (H1.out.1.more hf2) (And.intro (MkB.mk (H1.out.2.1.blk.keep hf2 trivial) : MkB w2 c9 x) (And.intro (H1.out.2.2.1.keep (hf2.weaken fun _ _ _ => trivial)) (show c9 ≠ b7 by rw [H1.out.2.2.2]; have := HR1.out.2.2.2.1.blk.lt; omega))))
      clear hf2 HC H1
      cases q
      · have e : rpartS (p, i) s x.d = s := by
          have hq := HQ.out
          unfold rpartS
          rw [if_pos]
          unfold mineD at hq
          by_cases a : x.d.who = (p, i)
          · right
            simpa [a] using hq
          · exact .inl a
        have HE := Lib.hid e
        clear e
        go_wp2_with fail
        exact ⟨⟨k + 1, by omega, by simp, Lib.hid ⟨s, vm, by rw [HR1.out.2.2.1, HE.out], H2.out.1⟩⟩, by simp [intOf]; omega⟩
      · have hm1 : x.d.who = (p, i) ∧ x.d.kind ≠ 15 := by
          have hq := HQ.out
          unfold mineD at hq
          simpa using hq.symm
        have e : rpartS (p, i) s x.d = if x.d.kind = 1 then rpart0 else if x.d.kind = 7 then { s with id := x.d.id, mem := x.d.mem, viewed := true, adopted := false } else if x.d.kind = 10 then { s with adopted := true, since := true } else if x.d.kind = 11 then { s with asked := s.asked + 1, waits := true, cmd := x.d.cmd } else if x.d.kind = 12 then { s with last := x.d.n, since := false } else if x.d.kind = 13 then { s with waits := false } else s := by
          conv => lhs; unfold rpartS
          rw [if_neg (by rintro (a | a); exact a hm1.1; exact hm1.2 a)]
        have HE := Lib.hid e
        clear e hm1
        have c1 := H2.out.2.1.kind
        have lm := H2.out.2.1.blk.lt
        have l7 := H2.out.1.blk.lt
        obtain ⟨zk, hzk⟩ : ∃ z, z = x.d.kind := ⟨_, rfl⟩
        rw [← hzk] at c1
        rw [← hzk] at HE
        have HZK := Lib.hid hzk
        clear hzk
        have fin : ∀ (w' : World) (s' : RPart) (vm' : Value), Keep (fun j => j ≠ b7) w2 w' → Blk w' b7 106 (rpartV s' vm') → SlOk w2 (fun j => j < w.heap.size) 3 s'.mem.length vm' (rcells MemD.cells s'.mem) → s'.mem.length ≤ 1048576 → rpartS (p, i) s x.d = s' → Hid (∃ s vm, s = rpartD (p, i) (dsOf (hs.take (k + 1))) ∧ PartI w w' b7 b6 s vm) := fun w' s' vm' hk hb hm hl he =>
          Lib.hid ⟨s', vm', by rw [HR1.out.2.2.1, he], H2.out.1.put hk (by rw [HB.out.2]; omega) (by rw [HB.out.1, HB.out.2]; omega) hb hm hl⟩
        have HFin := Lib.hid fin
        clear fin
        by_cases k1 : zk = 1
        · subst k1
          have HTh := Lib.hid H2.out.1.blk.there
          go_wp2_with (refine wpList_store_to rfl 106 (.tmp 7) (.tmp 30) rfl b7 0 (rpartV rpart0 (.slice none 0 0)) rfl rfl HTh.out (by kernel_rfl) (rpart_one _ _ rfl) ?_)
          intro w5 hw5
          have HN := Lib.hid (HFin.out w5 rpart0 (.slice none 0 0) (by rw [hw5.out]; exact Keep.setCells _ _ _ (Keep.refl _ _) (fun _ e => e rfl)) (by rw [hw5.out]; exact blk_whole H2.out.1.blk rfl) ⟨none, 0, rfl, Nat.le_refl _, fun _ => .inl rfl, Rd.nil _ _ _ _⟩ (Nat.zero_le _) (by rw [HE.out]; rfl))
          clear hw5 HTh
          go_wp2_with fail
          exact ⟨⟨k + 1, by omega, by simp, HN.out⟩, by simp [intOf]; omega⟩
        have b1 : (zk == 1) = false := by simpa using k1
        by_cases k7 : zk = 7
        · subst k7
          have m4 := H2.out.2.1.e1; have m5 := H2.out.2.1.e2; have m6 := H2.out.2.1.e3; have m7 := H2.out.2.1.e4; have m8 := H2.out.2.1.vm
          have HTh : Hid (w2.there b7 0 4) := Lib.hid (there_sub (n := 18) H2.out.1.blk.there 4 (by omega))
          obtain ⟨Av, cv, hvx, -⟩ := H2.out.2.2.1.m
          rw [hvx] at m8
          have HVX := Lib.hid hvx.symm
          have hne := H2.out.2.2.2
          clear hvx
          go_wp2_with (refine wpList_store_to rfl 45 (.tmp 35) (.tmp 34) rfl b7 0 #[.int .i64 x.d.e1, .int .i64 x.d.e2, .int .i64 x.d.e3, .int .i64 x.d.e4] rfl rfl HTh.out (by kernel_rfl) (ints4_one _ _ _ _) ?_)
          intro w5 hw5
          have hk5 : Keep (fun j => j ≠ b7) w2 w5 := by rw [hw5.out]; exact Keep.setCells _ _ _ (Keep.refl _ _) (fun _ e => e rfl)
          have hb5 : Blk w5 b7 106 (rpartV { s with id := x.d.id } vm) := by
            rw [hw5.out]
            exact (((H2.out.1.blk.set 0 (.int .i64 x.d.e1)).set 1 (.int .i64 x.d.e2)).set 2 (.int .i64 x.d.e3)).set 3 (.int .i64 x.d.e4)
          have H5 := Lib.hid (And.intro hk5 hb5)
          have m8 := hk5.cellAt m8 hne
          have lm := (H2.out.2.1.blk.keep hk5 hne).lt
          have l7 := hb5.lt
          have e0 := hb5.frozen 4; have e1 := hb5.frozen 5; have e2 := hb5.frozen 6
          have l4 : w5.cell? ⟨b7, 4, none⟩ = some vm := hb5.cell 4
          have l5 : w5.cell? ⟨b7, 5, none⟩ = some (.bool s.viewed) := hb5.cell 5
          have l6 : w5.cell? ⟨b7, 6, none⟩ = some (.bool s.adopted) := hb5.cell 6
          clear hw5 HTh m4 m5 m6 m7 hk5 hb5
          go_wp2_with fail
          refine ⟨⟨k + 1, by omega, by simp, HFin.out _ { s with id := x.d.id, mem := x.d.mem, viewed := true, adopted := false } (.slice Av x.d.mem.length cv) (((H5.out.1.setCell (fun _ e => e rfl) _).setCell (fun _ e => e rfl) _).setCell (fun _ e => e rfl) _) (((H5.out.2.set 4 (.slice Av x.d.mem.length cv)).set 5 (.bool true)).set 6 (.bool false)) (by rw [HVX.out]; exact H2.out.2.2.1.m) HR1.out.2.2.2.2.2 (by rw [HE.out]; rfl)⟩, by simp [intOf]; omega⟩
        have b7' : (zk == 7) = false := by simpa using k7
        by_cases k10 : zk = 10
        · subst k10
          have e0 := H2.out.1.blk.frozen 6; have e1 := H2.out.1.blk.frozen 17
          have l0 : w2.cell? ⟨b7, 6, none⟩ = some (.bool s.adopted) := H2.out.1.blk.cell 6
          have l1 : w2.cell? ⟨b7, 17, none⟩ = some (.bool s.since) := H2.out.1.blk.cell 17
          go_wp2_with fail
          refine ⟨⟨k + 1, by omega, by simp, HFin.out _ { s with adopted := true, since := true } vm (((Keep.refl _ _).setCell (fun _ e => e rfl) _).setCell (fun _ e => e rfl) _) ((H2.out.1.blk.set 6 (.bool true)).set 17 (.bool true)) H2.out.1.mem H2.out.1.le (by rw [HE.out]; rfl)⟩, by simp [intOf]; omega⟩
        have b10 : (zk == 10) = false := by simpa using k10
        by_cases k11 : zk = 11
        · subst k11
          have e0 := H2.out.1.blk.frozen 7; have e1 := H2.out.1.blk.frozen 8
          have l0 : w2.cell? ⟨b7, 7, none⟩ = some (.int .i64 (s.asked : Int)) := H2.out.1.blk.cell 7
          have l1 : w2.cell? ⟨b7, 8, none⟩ = some (.bool s.waits) := H2.out.1.blk.cell 8
          have wa : IntKind.i64.wrap ((s.asked : Int) + 1) = (s.asked : Int) + 1 := by have := HLe.out; rw [IntWalk.i64_in _ (by omega)]
          have q0 := H2.out.2.1.cc; have q1 := H2.out.2.1.ci; have q2 := H2.out.2.1.cr; have q3 := H2.out.2.1.co; have q4 := H2.out.2.1.ck; have q5 := H2.out.2.1.cv; have q6 := H2.out.2.1.cd
          have hne := H2.out.2.2.2
          have HTh : Hid (∀ w', Keep (fun j => j ≠ b7) w2 w' → True) := Lib.hid fun _ _ => trivial
          have HTc : Hid (∀ a b : Value, ((w2.setCell ⟨b7, 7, none⟩ a).setCell ⟨b7, 8, none⟩ b).there b7 9 7) := Lib.hid fun a b => there_sub (n := 18) ((H2.out.1.blk.set 7 a).set 8 b).there 7 (by omega)
          clear HTh
          go_wp2_with (refine wpList_store_to rfl 43 (.tmp 54) (.tmp 53) rfl b7 9 x.d.cmd.cells.toArray rfl rfl (HTc.out _ _) (by kernel_rfl) (cmdA_one _) ?_)
          intro w5 hw5
          have HN := Lib.hid (HFin.out w5 { s with asked := s.asked + 1, waits := true, cmd := x.d.cmd } vm (by rw [hw5.out]; exact Keep.setCells _ _ _ (((Keep.refl _ _).setCell (fun _ e => e rfl) _).setCell (fun _ e => e rfl) _) (fun _ e => e rfl)) (by
            rw [hw5.out]
            exact rpart_cmd (rpart_do H2.out.1.blk) x.d.cmd) H2.out.1.mem H2.out.1.le (by rw [HE.out]; rfl))
          clear hw5 HTc q0 q1 q2 q3 q4 q5 q6 e0 e1 l0 l1
          go_wp2_with fail
          exact ⟨⟨k + 1, by omega, by simp, HN.out⟩, by simp [intOf]; omega⟩
        have b11 : (zk == 11) = false := by simpa using k11
        by_cases k12 : zk = 12
        · subst k12
          have e0 := H2.out.1.blk.frozen 16; have e1 := H2.out.1.blk.frozen 17
          have l0 : w2.cell? ⟨b7, 16, none⟩ = some (.int .i64 s.last) := H2.out.1.blk.cell 16
          have l1 : w2.cell? ⟨b7, 17, none⟩ = some (.bool s.since) := H2.out.1.blk.cell 17
          have m13 := H2.out.2.1.n
          have hne := H2.out.2.2.2
          go_wp2_with fail
          refine ⟨⟨k + 1, by omega, by simp, HFin.out _ { s with last := x.d.n, since := false } vm (((Keep.refl _ _).setCell (fun _ e => e rfl) _).setCell (fun _ e => e rfl) _) ((H2.out.1.blk.set 16 (.int .i64 x.d.n)).set 17 (.bool false)) H2.out.1.mem H2.out.1.le (by rw [HE.out]; rfl)⟩, by simp [intOf]; omega⟩
        have b12 : (zk == 12) = false := by simpa using k12
        by_cases k13 : zk = 13
        · subst k13
          have e0 := H2.out.1.blk.frozen 8
          have l0 : w2.cell? ⟨b7, 8, none⟩ = some (.bool s.waits) := H2.out.1.blk.cell 8
          go_wp2_with fail
          refine ⟨⟨k + 1, by omega, by simp, HFin.out _ { s with waits := false } vm ((Keep.refl _ _).setCell (fun _ e => e rfl) _) (H2.out.1.blk.set 8 (.bool false)) H2.out.1.mem H2.out.1.le (by rw [HE.out]; rfl)⟩, by simp [intOf]; omega⟩
        have b13 : (zk == 13) = false := by simpa using k13
        go_wp2_with fail
        exact ⟨⟨k + 1, by omega, by simp, HFin.out w2 s vm (Keep.refl _ _) H2.out.1.blk H2.out.1.mem H2.out.1.le (by rw [HE.out, if_neg k1, if_neg k7, if_neg k10, if_neg k11, if_neg k12, if_neg k13])⟩, by simp [intOf]; omega⟩
    · obtain rfl : k = n := by omega
      obtain ⟨s, vm, hs0, hI⟩ := HW.out
      have e : R = s := by rw [HR.out, hs0, dsOf_all HM.out.1.len]
      subst e
      have HI := Lib.hid hI
      have hvo : vm.oneCell' = true := by obtain ⟨_, _, rfl, _⟩ := hI.mem; rfl
      obtain ⟨L, hL⟩ : ∃ L, L = (rpartV R vm).toList := ⟨_, rfl⟩
      have hrg : wr.rangeAt b7 0 L := by rw [hL]; exact hI.blk.range
      have hla : L.toArray = rpartV R vm := by rw [hL]
      have HL := Lib.hid (And.intro hrg (And.intro hla (And.intro (show L.toArray.all (·.oneCell') = true by rw [hla]; exact rpart_one _ _ hvo) (show L.toArray.size = 18 by rw [hla]; rfl))))
      have HTh : Hid (wr.there b6 0 L.toArray.size) := Lib.hid (by rw [HL.out.2.2.2]; exact hI.res.there)
      have hlen : L.length = 18 := by rw [hL]; rfl
      have l6 := hI.res.lt; have l7 := hI.blk.lt
      clear hs0 hI HW HR hvo hL hrg hla
      go_wp2_with (first | (refine wpList_load_mid rfl 106 _ rfl b7 0 rfl L _ HL.out.1 Tryz.underlying106 rfl (by rw [hlen]; kernel_rfl) ?_) | (refine wpList_store_to rfl 106 (.tmp 6) (.tmp 64) rfl b6 0 L.toArray rfl rfl HTh.out (by rw [HL.out.2.2.2]; kernel_rfl) HL.out.2.2.1 ?_))
      intro w5 hw5
      have hk5 : Keep (fun j => j ≠ b6) wr w5 := by rw [hw5.out]; exact Keep.setCells _ _ _ (Keep.refl _ _) (fun _ e => e rfl)
      have hb5 : Blk w5 b6 106 (rpartV R vm) := by
        have e := congrArg Array.toList HL.out.2.1
        rw [List.toList_toArray] at e
        rw [hw5.out, e]
        exact blk_whole HI.out.res rfl
      have H5 := Lib.hid (And.intro hk5 hb5)
      clear hk5 hb5 hw5
      go_wp2_with fail
      refine bodyPost_ret (results_v2 rfl _ _ b6 106 (rpartV R vm) _ rfl H5.out.2 Tryz.underlying106 rfl (by kernel_rfl)) rfl ?_
      refine ⟨⟨vm, rfl, (HI.out.mem.weaken (fun j hj => And.intro hj (show j ≠ b6 by rw [HB.out.1]; omega)) |>.keep (H5.out.1.weaken fun j _ h => h.2)).weaken (fun _ h => h.1), HI.out.le⟩, HI.out.fresh.comp H5.out.1 (fun _ _ h => h) (fun j hj _ => by rw [HB.out.1]; omega)⟩
end Go.Proofs.YtohnmaindbgngaaGreatDoor
