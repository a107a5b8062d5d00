/-
  MERGED: SrvD SrvLaw Kmap Kent Kent2
-/
import Derived.Test.YtohnmaindbgngaaGreatDoorQ1
import Derived.Test.YtohnmaindbgngaaGreatDoorQB
import Derived.Maps.OwnSet
import Derived.Maps.RangeWalk
import Derived.WideKeyEntry
namespace Go.Proofs.YtohnmaindbgngaaGreatDoor
set_option linter.unusedVariables false
set_option linter.unusedSimpArgs false

/-! ### the state -/
structure PartD where
  id : V4
  viewed : Bool
  quorate : Bool
  adopted : Bool
  since : Bool
  asks : Nat
  last : Int
  waits : Bool
  pending : CmdD
deriving DecidableEq
def cmd0 : CmdD := ⟨0, 0, 0, 0, [], [], []⟩
def part0 : PartD := ⟨nov, false, false, false, false, 0, 0, false, cmd0⟩
def MarkD.res (m : MarkD) : ResD := ⟨m.rc, m.rv, m.rn⟩
abbrev Req := Int × Int × Int
def CmdD.req (c : CmdD) : Req := (c.c, c.i, c.r)
structure SrvD where
  parts : Who → Option PartD
  entries : Int → Option (CmdD × ResD)
  cnt : Nat
  index : Req → Option Int
  asked : CmdD → Nat
  place : CmdD → Option Int
  furthest : Int → Option Int
  grown : Nat
  mach : StD
def srv0 : SrvD := ⟨fun _ => none, fun _ => none, 0, fun _ => none, fun _ => 0, fun _ => none, fun _ => none, 0, newD⟩
def CmdD.apply (c : CmdD) (s : StD) : ResD × StD := applyD c.c c.i c.r c.o c.k c.v c.d s
def CmdD.valid (c : CmdD) : Bool := validB c.c c.i c.r c.o c.k c.v c.d
def SrvD.part (s : SrvD) (m : MarkD) : PartD := if m.kind = 1 then part0 else (s.parts m.who).getD part0
def SrvD.setPart (s : SrvD) (w : Who) (p : PartD) : SrvD := { s with parts := upd s.parts w (some p) }
def enterD (vs : List Int) (m : MarkD) (p : PartD) : PartD := { p with id := m.id, quorate := quorB vs (m.mem.map MemD.p), viewed := true, adopted := false }
def adoptBad (p : PartD) (m : MarkD) : Bool := !p.viewed || decide (m.id ≠ p.id) || !p.quorate || p.adopted || decide (m.pos < 0) || decide (m.n < m.pos)
open Classical in
/-- An index was done in a view of a lower epoch. -/
noncomputable def behind (f : Int → Option Int) (e n : Int) : Bool := decide (∃ x y, f x = some y ∧ x < e ∧ n < y)
def doBad (p : PartD) (m : MarkD) : Bool := !p.adopted || p.waits || !m.cmd.valid || decide (m.cmd.c ≠ m.node) || decide (m.cmd.i ≠ m.inc) || decide (m.cmd.r ≠ (p.asks : Int) + 1)
def applyBad (p : PartD) (m : MarkD) : Bool := decide (m.n < 1) || decide (4611686018427387904 < m.n) || decide (m.n ≤ p.last) || (decide (0 < p.last) && !p.since && decide (m.n ≠ p.last + 1))
/-- The machine does what stands next. -/
def growD (en : Int → Option (CmdD × ResD)) : Nat → Nat → StD → Int × Nat × StD
  | 0, g, st => (0, g, st)
  | f + 1, g, st => match en ((g : Int) + 1) with
    | none => (0, g, st)
    | some (c, r) => if (c.apply st).1 = r then growD en f (g + 1) (c.apply st).2 else (27, g + 1, (c.apply st).2)
def joinN (s : SrvD) (m : MarkD) : SrvD := { s with entries := upd s.entries m.n (some (m.cmd, m.res)), cnt := s.cnt + 1, index := upd s.index m.cmd.req (some m.n), place := upd s.place m.cmd (some m.n) }
def joinG (s : SrvD) (m : MarkD) : Int × Nat × StD := growD (joinN s m).entries ((joinN s m).cnt + 1) s.grown s.mach
def joinS (s : SrvD) (m : MarkD) : Int × SrvD :=
  if s.asked m.cmd = 0 ∨ (s.index m.cmd.req).isSome = true then (25, s)
  else ((joinG s m).1, { joinN s m with grown := (joinG s m).2.1, mach := (joinG s m).2.2 })
def doneS (s : SrvD) (m : MarkD) (p : PartD) : SrvD :=
  let s1 := s.setPart m.who { p with last := m.n, since := false }
  if p.viewed then { s1 with furthest := upd s.furthest p.id.1 (some (max ((s.furthest p.id.1).getD 0) m.n)) } else s1
def applyS (s : SrvD) (m : MarkD) (p : PartD) : Int × SrvD :=
  if applyBad p m then (23, s) else match s.entries m.n with
  | some x => if x = (m.cmd, m.res) then (0, doneS s m p) else (24, s)
  | none => if (joinS s m).1 = 0 then (0, doneS (joinS s m).2 m p) else ((joinS s m).1, s)
def doS (s : SrvD) (m : MarkD) (p : PartD) : Int × SrvD :=
  if doBad p m then (22, s) else (0, { s.setPart m.who { p with asks := p.asks + 1, waits := true, pending := m.cmd } with asked := upd s.asked m.cmd (s.asked m.cmd + 1) })
def SrvD.resAt (s : SrvD) (n : Int) : ResD := ((s.entries n).map Prod.snd).getD ⟨0, [], 0⟩
def replyS (s : SrvD) (m : MarkD) (p : PartD) : Int × SrvD :=
  if p.waits = false ∨ p.pending ≠ m.cmd then (28, s) else match s.place m.cmd with
  | none => (28, s)
  | some n => if s.resAt n ≠ m.res then (28, s) else if (s.grown : Int) < n then (29, s) else (0, s.setPart m.who { p with waits := false })
/-- What a mark does: the rule that it breaks (0: none) and the next state. -/
noncomputable def serveS (vs : List Int) (s0 : SrvD) (m : MarkD) : Int × SrvD :=
  if m.kind = 15 then (0, s0) else
  let p := s0.part m
  let s := s0.setPart m.who p
  if m.kind = 7 then (0, s.setPart m.who (enterD vs m p))
  else if m.kind = 10 then (if adoptBad p m then (21, s) else if behind s.furthest m.e1 m.n then (26, s) else (0, s.setPart m.who { p with adopted := true, since := true }))
  else if m.kind = 11 then doS s m p
  else if m.kind = 12 then applyS s m p
  else if m.kind = 13 then replyS s m p
  else (0, s)
noncomputable def stS (vs : List Int) (ms : List MarkD) : SrvD := ms.foldl (fun s m => (serveS vs s m).2) srv0
noncomputable def findS (vs : List Int) (s : SrvD) (i : Nat) : List MarkD → Int × Int
  | [] => (0, 0)
  | m :: r => if (serveS vs s m).1 = 0 then findS vs (serveS vs s m).2 (i + 1) r else ((serveS vs s m).1, (i : Int))
noncomputable def servD (vs : List Int) (ms : List MarkD) : Int × Int := findS vs srv0 0 ms
/-- What audit.Service answers: verdict and error. -/
noncomputable def serviceD (vs : List Int) (ms : List MarkD) : (Int × Int) × Int :=
  if ballotB vs = false then ((0, 0), 110) else if ms.all (fun m => decide (0 ≤ m.node) && decide (m.node < (vs.length : Int))) = false then ((0, 0), 1) else (servD vs ms, 0)
end Go.Proofs.YtohnmaindbgngaaGreatDoor
namespace Go.Proofs.YtohnmaindbgngaaGreatDoor
set_option linter.unusedVariables false
set_option linter.unusedSimpArgs false

theorem findS_hit {vs : List Int} {s : SrvD} {m : MarkD} (k : Nat) (r : List MarkD) (h : (serveS vs s m).1 ≠ 0) : findS vs s k (m :: r) = ((serveS vs s m).1, (k : Int)) := by
  unfold findS
  exact if_neg h
theorem findS_miss {vs : List Int} {s : SrvD} {m : MarkD} (k : Nat) (r : List MarkD) (h : (serveS vs s m).1 = 0) : findS vs s k (m :: r) = findS vs (serveS vs s m).2 (k + 1) r := by
  conv => lhs; unfold findS
  exact if_pos h
/-! ### bounds -/
structure BdP (w : Who) (k : Nat) (p : PartD) : Prop where
  asks : p.asks ≤ k
  lo : 0 ≤ p.last
  hi : p.last ≤ 4611686018427387904
  own : p.waits = true → p.pending.c = w.1
structure BdS (s : SrvD) (k : Nat) : Prop where
  part : ∀ w p, s.parts w = some p → BdP w k p
  asked : ∀ c, s.asked c ≤ k
  cnt : s.cnt ≤ k
  fur : ∀ x y, s.furthest x = some y → 0 ≤ y ∧ y ≤ 4611686018427387904
  grown : ∀ i : Nat, i < s.grown → (s.entries ((i : Int) + 1)).isSome = true
  keys : ∃ L : List Int, L.length ≤ s.cnt ∧ ∀ n, (s.entries n).isSome = true → n ∈ L
theorem rise_many : ∀ (g : Nat) (L : List Int), (∀ i : Nat, i < g → ((i : Int) + 1) ∈ L) → g ≤ L.length
  | 0, L, _ => Nat.zero_le _
  | g + 1, L, h => by
    have hg := h g (Nat.lt_succ_self g)
    have h1 := rise_many g (L.filter fun n => n != ((g : Int) + 1)) (fun i hi => by
      rw [List.mem_filter]
      exact ⟨h i (by omega), by simp; omega⟩)
    have h2 : (L.filter fun n => n != ((g : Int) + 1)).length < L.length := by
      refine Nat.lt_of_le_of_ne (List.length_filter_le _ _) fun e => ?_
      have := List.length_filter_eq_length_iff.1 e _ hg
      simp at this
    omega
theorem bdp0 (w : Who) (k : Nat) : BdP w k part0 := ⟨Nat.zero_le _, by decide, by decide, fun h => by cases h⟩
theorem bds0 : BdS srv0 0 := ⟨fun _ _ h => (by cases h), fun _ => Nat.le_refl _, Nat.le_refl _, fun _ _ h => (by cases h), fun i h => absurd h (Nat.not_lt_zero i), ⟨[], Nat.le_refl _, fun n h => by cases h⟩⟩
theorem BdP.mono {w : Who} {k k' : Nat} {p : PartD} (h : BdP w k p) (hk : k ≤ k') : BdP w k' p := ⟨Nat.le_trans h.asks hk, h.lo, h.hi, h.own⟩
theorem BdS.grow {s : SrvD} {k k' : Nat} (h : BdS s k) (hk : k ≤ k') : BdS s k' := ⟨fun w p hp => (h.part w p hp).mono hk, fun c => Nat.le_trans (h.asked c) hk, Nat.le_trans h.cnt hk, h.fur, h.grown, h.keys⟩
theorem BdS.setPart {s : SrvD} {k : Nat} (h : BdS s k) {w : Who} {p : PartD} (hp : BdP w k p) : BdS (s.setPart w p) k :=
  ⟨fun w' p' h' => by
    by_cases e : w' = w
    · subst e
      simp [SrvD.setPart] at h'
      subst h'
      exact hp
    · simp only [SrvD.setPart, upd_ne _ _ e] at h'
      exact h.part w' p' h', h.asked, h.cnt, h.fur, h.grown, h.keys⟩
theorem BdS.bdp {s : SrvD} {k : Nat} (h : BdS s k) (m : MarkD) : BdP m.who k (s.part m) := by
  unfold SrvD.part
  split
  · exact bdp0 _ _
  · cases hl : s.parts m.who with
    | none => exact bdp0 _ _
    | some v => exact h.part _ v hl
theorem growD_some {en : Int → Option (CmdD × ResD)} : ∀ (f g : Nat) (st : StD), (∀ i : Nat, i < g → (en ((i : Int) + 1)).isSome = true) → ∀ i : Nat, i < (growD en f g st).2.1 → (en ((i : Int) + 1)).isSome = true
  | 0, g, st, h => h
  | f + 1, g, st, h => by
    unfold growD
    cases he : en ((g : Int) + 1) with
    | none => exact h
    | some x =>
      obtain ⟨c, r⟩ := x
      have h1 : ∀ i : Nat, i < g + 1 → (en ((i : Int) + 1)).isSome = true := fun i hi => by
        rcases Nat.lt_succ_iff_lt_or_eq.1 hi with h2 | rfl
        · exact h i h2
        · rw [he]; rfl
      simp only
      split
      · exact growD_some f (g + 1) _ h1
      · exact h1
theorem BdS.doneS {s : SrvD} {k : Nat} (h : BdS s k) {m : MarkD} {p : PartD} (hp : BdP m.who k p) (h1 : 1 ≤ m.n) (h2 : m.n ≤ 4611686018427387904) : BdS (doneS s m p) k := by
  have h3 : BdS (s.setPart m.who { p with last := m.n, since := false }) k := h.setPart ⟨hp.asks, by simp only; omega, h2, hp.own⟩
  unfold Go.Proofs.YtohnmaindbgngaaGreatDoor.doneS
  simp only
  split
  · refine ⟨h3.part, h3.asked, h3.cnt, fun x y hxy => ?_, h3.grown, h3.keys⟩
    simp only at hxy
    by_cases e : x = p.id.1
    · subst e
      rw [upd_self] at hxy
      obtain rfl := Option.some.inj hxy
      cases hf : s.furthest p.id.1 with
      | none => simp; omega
      | some z =>
        have := h.fur _ z hf
        simp
        omega
    · rw [upd_ne _ _ e] at hxy
      exact h.fur x y hxy
  · exact h3
theorem joinN_keys {s : SrvD} {k : Nat} (h : BdS s k) (m : MarkD) : (∃ L : List Int, L.length ≤ (joinN s m).cnt ∧ ∀ n, ((joinN s m).entries n).isSome = true → n ∈ L) ∧ ∀ g : Nat, (∀ i : Nat, i < g → ((joinN s m).entries ((i : Int) + 1)).isSome = true) → g ≤ (joinN s m).cnt := by
  obtain ⟨L, h1, h2⟩ := h.keys
  have h3 : ∀ n, ((joinN s m).entries n).isSome = true → n ∈ m.n :: L := fun n hn => by
    by_cases e : n = m.n
    · subst e; exact List.mem_cons_self
    · refine List.mem_cons_of_mem _ (h2 n ?_)
      have : (joinN s m).entries n = s.entries n := upd_ne _ _ e
      rw [← this]; exact hn
  have h4 : (m.n :: L).length ≤ (joinN s m).cnt := Nat.succ_le_succ h1
  exact ⟨⟨m.n :: L, h4, h3⟩, fun g hg => Nat.le_trans (rise_many g _ fun i hi => h3 _ (hg i hi)) h4⟩
theorem BdS.joinS {s : SrvD} {k : Nat} (h : BdS s k) (m : MarkD) (h0 : (joinS s m).1 = 0) : BdS (joinS s m).2 (k + 1) := by
  unfold Go.Proofs.YtohnmaindbgngaaGreatDoor.joinS at h0 ⊢
  split
  · rename_i hc
    rw [if_pos hc] at h0
    cases h0
  · refine ⟨fun w p hp => (h.part w p hp).mono (Nat.le_succ k), fun c => Nat.le_succ_of_le (h.asked c), Nat.succ_le_succ h.cnt, h.fur, ?_, (joinN_keys h m).1⟩
    refine growD_some _ _ _ fun i hi => ?_
    by_cases e : ((i : Int) + 1) = m.n
    · show (upd s.entries m.n _ ((i : Int) + 1)).isSome = true
      rw [e, upd_self]
      rfl
    · show (upd s.entries m.n _ ((i : Int) + 1)).isSome = true
      rw [upd_ne _ _ e]
      exact h.grown i hi
theorem applyBad_n {p : PartD} {m : MarkD} (h : applyBad p m = false) : 1 ≤ m.n ∧ m.n ≤ 4611686018427387904 ∧ p.last < m.n := by
  unfold applyBad at h
  simp only [Bool.or_eq_false_iff, decide_eq_false_iff_not] at h
  omega
theorem BdS.next {vs : List Int} {s : SrvD} {k : Nat} {m : MarkD} (h : BdS s k) (h0 : (serveS vs s m).1 = 0) : BdS (serveS vs s m).2 (k + 1) := by
  have hp := h.bdp m
  have h1 := h.setPart hp
  have hk := Nat.le_succ k
  unfold serveS at h0 ⊢
  simp only at h0 ⊢
  split
  · exact h.grow hk
  rename_i n15
  rw [if_neg n15] at h0
  split
  · exact (h1.setPart (p := enterD vs m (s.part m)) ⟨hp.asks, hp.lo, hp.hi, hp.own⟩).grow hk
  rename_i n7
  rw [if_neg n7] at h0
  split
  · rename_i n10
    rw [if_pos n10] at h0
    split
    · exact h1.grow hk
    split
    · exact h1.grow hk
    · exact (h1.setPart (p := { s.part m with adopted := true, since := true }) ⟨hp.asks, hp.lo, hp.hi, hp.own⟩).grow hk
  rename_i n10
  rw [if_neg n10] at h0
  split
  · rename_i n11
    rw [if_pos n11] at h0
    unfold doS at h0 ⊢
    split
    · exact h1.grow hk
    · rename_i hb
      simp only [doBad, Bool.not_eq_true, Bool.or_eq_false_iff, decide_eq_false_iff_not, Decidable.not_not] at hb
      have h2 : BdS (((s.setPart m.who (s.part m))).setPart m.who { s.part m with asks := (s.part m).asks + 1, waits := true, pending := m.cmd }) (k + 1) :=
        (h1.grow hk).setPart ⟨Nat.succ_le_succ hp.asks, hp.lo, hp.hi, fun _ => hb.1.1.2⟩
      refine ⟨h2.part, fun c => ?_, h2.cnt, h2.fur, h2.grown, h2.keys⟩
      simp only
      by_cases e : c = m.cmd
      · subst e; rw [upd_self]; exact Nat.succ_le_succ (h1.asked _)
      · rw [upd_ne _ _ e]; exact Nat.le_succ_of_le (h1.asked c)
  rename_i n11
  rw [if_neg n11] at h0
  split
  · rename_i n12
    rw [if_pos n12] at h0
    unfold applyS at h0 ⊢
    split
    · exact h1.grow hk
    · rename_i hb
      rw [if_neg hb] at h0
      obtain ⟨b1, b2, b3⟩ := applyBad_n (by simpa using hb)
      cases he : (s.setPart m.who (s.part m)).entries m.n with
      | some x =>
        rw [he] at h0
        simp only at h0 ⊢
        split
        · exact (h1.doneS hp b1 b2).grow hk
        · exact h1.grow hk
      | none =>
        rw [he] at h0
        simp only at h0 ⊢
        split
        · rename_i hj
          exact (h1.joinS m hj).doneS (hp.mono hk) b1 b2
        · exact h1.grow hk
  rename_i n12
  rw [if_neg n12] at h0
  split
  · unfold replyS
    split
    · exact h1.grow hk
    · split
      · exact h1.grow hk
      · split
        · exact h1.grow hk
        · split
          · exact h1.grow hk
          · exact (h1.setPart (p := { s.part m with waits := false }) ⟨hp.asks, hp.lo, hp.hi, fun e => by cases e⟩).grow hk
  · exact h1.grow hk

/-! ### P17.6 -/
end Go.Proofs.YtohnmaindbgngaaGreatDoor
namespace Go.Proofs.YtohnmaindbgngaaGreatDoor
set_option linter.unusedVariables false
set_option linter.unusedSimpArgs false
open Go.RowKit
open Go.Maps (Keyed)

abbrev Ke := Lit × Value
/-- Every element reads as itself. -/
def Kr (v : Value) : Option (DataW Value × List MemPlace) := some (.held v, [])
def kEnt (p : Ke) : Lit × DataW Value := (p.1, .held p.2)
def kD (ps : List Ke) : DataW Value := .map (ps.map kEnt)
/-- Block b is a map that holds just these. -/
def KMap (P : Program) (k : TypeId) (w : World) (b : Nat) (ps : List Ke) : Prop := w.ownsMap P k Kr b ps.length (kD ps)
def kfind (k : Lit) (ps : List Ke) : Option Value := (ps.find? fun p => p.1.sameKey k).map (·.2)
def kins (x : Ke) : List Ke → List Ke
  | [] => [x]
  | y :: r => if x.1.before y.1 then x :: y :: r else y :: kins x r
def kdel (k : Lit) (ps : List Ke) : List Ke := ps.filter fun p => !(p.1.sameKey k)
def kput (k : Lit) (v : Value) (ps : List Ke) : List Ke := kins (k, v) (kdel k ps)

theorem kD_insert (x : Ke) : ∀ ps : List Ke, DataW.insert (kEnt x) (ps.map kEnt) = (kins x ps).map kEnt
  | [] => rfl
  | y :: r => by
    simp only [List.map_cons, DataW.insert, kins]
    have e : (kEnt x).1.before (kEnt y).1 = x.1.before y.1 := rfl
    rw [e]
    split
    · rfl
    · rw [kD_insert x r]; rfl
theorem kD_filter (k : Lit) (ps : List Ke) : (ps.map kEnt).filter (fun p => !p.1.sameKey k) = (kdel k ps).map kEnt := by
  unfold kdel
  rw [List.filter_map]
  rfl
theorem kD_put (k : Lit) (v : Value) (ps : List Ke) : (kD ps).put k (.held v) = kD (kput k v ps) := by
  unfold kD DataW.put
  simp only
  rw [kD_filter]
  exact congrArg DataW.map (kD_insert (k, v) _)
theorem kD_has (k : Lit) (ps : List Ke) : Maps.has (kD ps) k = (kfind k ps).isSome := by
  unfold kD Maps.has kfind
  simp only
  induction ps with
  | nil => rfl
  | cons p ps ih =>
    simp only [List.map_cons, List.any_cons, List.find?_cons]
    rw [ih]
    have e : (kEnt p).1.sameKey k = p.1.sameKey k := rfl
    rw [e]
    cases h : p.1.sameKey k <;> simp
theorem kD_at (k : Lit) (z : Value) (ps : List Ke) : (kD ps).atKey k (.held z) = .held ((kfind k ps).getD z) := by
  unfold kD DataW.atKey kfind
  simp only
  induction ps with
  | nil => rfl
  | cons p ps ih =>
    simp only [List.map_cons, List.find?_cons]
    have e : (kEnt p).1.sameKey k = p.1.sameKey k := rfl
    rw [e]
    cases h : p.1.sameKey k
    · exact ih
    · rfl
theorem kD_size (ps : List Ke) : Maps.size (kD ps) = ps.length := by simp [kD, Maps.size]
theorem kins_len (x : Ke) : ∀ ps : List Ke, (kins x ps).length = ps.length + 1
  | [] => rfl
  | y :: r => by
    unfold kins
    split
    · rfl
    · simp [kins_len x r]
theorem kdel_len (k : Lit) (ps : List Ke) : (kdel k ps).length ≤ ps.length := List.length_filter_le _ _
theorem kput_len (k : Lit) (v : Value) (ps : List Ke) : (kput k v ps).length ≤ ps.length + 1 := by
  unfold kput
  rw [kins_len]
  have := kdel_len k ps
  omega
theorem same_eq {a b : Lit} (h : a.sameKey b = true) : a = b := by
  cases a <;> cases b <;> simp [Lit.sameKey] at h <;> simp_all
theorem kins_find (x : Ke) (p : Ke → Bool) : ∀ ps : List Ke, (∀ y ∈ ps, ¬ (p x = true ∧ p y = true)) → (kins x ps).find? p = if p x then some x else ps.find? p
  | [], _ => by simp [kins, List.find?_cons]; cases p x <;> rfl
  | y :: r, h => by
    unfold kins
    have hr := kins_find x p r (fun z hz => h z (by simp [hz]))
    have hy := h y (by simp)
    split
    · simp only [List.find?_cons]
      cases p x <;> rfl
    · simp only [List.find?_cons, hr]
      cases hx : p x <;> cases hy' : p y <;> simp_all
/-- What is found behind a store. -/
theorem kfind_put (k k' : Lit) (v : Value) (ps : List Ke) : kfind k' (kput k v ps) = if k.sameKey k' = true then some v else kfind k' ps := by
  unfold kfind kput
  rw [kins_find]
  · by_cases h : k.sameKey k' = true
    · simp [h]
    · simp only [h, if_false, Bool.false_eq_true]
      congr 1
      unfold kdel
      induction ps with
      | nil => rfl
      | cons p ps ih =>
        simp only [List.filter_cons]
        cases h1 : p.1.sameKey k
        · simp only [Bool.not_false, if_true, List.find?_cons]
          rw [ih]
        · simp only [Bool.not_true, Bool.false_eq_true, if_false]
          rw [ih, List.find?_cons]
          have e := same_eq h1
          cases h2 : p.1.sameKey k'
          · rfl
          · rw [e] at h2
            exact absurd h2 h
  · rintro y hy ⟨h1, h2⟩
    have e := same_eq h1
    simp only at e
    subst e
    simp [kdel, h2] at hy

section
variable {P : Program} {k : TypeId} {w w' : World} {b : Nat} {ps : List Ke}
theorem KMap.of {n : Nat} {D : DataW Value} (h : w.ownsMap P k Kr b n D) (hD : D = kD ps) : KMap P k w b ps := by
  subst hD
  obtain ⟨es, clock, hb, F, _, hD⟩ := h
  refine ⟨es, clock, hb, F, ?_, hD⟩
  have h1 := congrArg Maps.size hD
  rw [kD_size] at h1
  simp [Maps.size, length_sorted] at h1
  omega
theorem KMap.made (w : World) (P : Program) (k : TypeId) : KMap P k (w.alloc (.map #[] 0)) w.heap.size [] := World.ownsMap_made w P k Kr
theorem KMap.lt (h : KMap P k w b ps) : b < w.heap.size := World.ownsMap.lt h
theorem KMap.blk (h : KMap P k w b ps) (hb : w'.heap[b]? = w.heap[b]?) : KMap P k w' b ps := by
  obtain ⟨es, clock, hh, F, hs, hD⟩ := h
  exact ⟨es, clock, hb.trans hh, F, hs, hD⟩
theorem KMap.keep {Z : Nat → Prop} (h : KMap P k w b ps) (hk : Keep Z w w') (hz : Z b) : KMap P k w' b ps := h.blk (hk.block b h.lt hz)
theorem KMap.look_ok {t e : TypeId} (h : KMap P k w b ps) (K : Keyed P k) (ht : P.underlying t = some (.map k e)) {z : Value} (hz : (zeroValue e).run P w = .ok z w) {x : Value} {l : Lit} (hx : keyOf P k x = some l) :
    (Instr.lookup t (.map (some b)) x true).run P w = .ok (.tuple #[(kfind l ps).getD z, .bool (kfind l ps).isSome]) w := by
  obtain ⟨v, qs, hrun, hv⟩ := World.ownsMap.look_ok h K ht hz (zd := .held z) (zp := []) rfl hx
  rw [kD_has] at hrun
  rw [kD_at] at hv
  unfold Kr at hv
  injection hv with hv
  injection hv with hv _
  injection hv with hv
  rw [hrun, hv]
theorem KMap.look {t e : TypeId} (h : KMap P k w b ps) (K : Keyed P k) (ht : P.underlying t = some (.map k e)) {z : Value} (hz : (zeroValue e).run P w = .ok z w) {x : Value} {l : Lit} (hx : keyOf P k x = some l) :
    (Instr.lookup t (.map (some b)) x false).run P w = .ok ((kfind l ps).getD z) w := by
  obtain ⟨v, qs, hrun, hv⟩ := World.ownsMap.lookup h K ht hz (zd := .held z) (zp := []) rfl hx
  rw [kD_at] at hv
  unfold Kr at hv
  injection hv with hv
  injection hv with hv _
  injection hv with hv
  rw [hrun, hv]
theorem Keep.of_kturned (h : w.mapTurned w' b) : Keep (fun i => i ≠ b) w w' := (Keep.of_grown h.grown).weaken fun i _ hi e => hi (by injection e with e; exact e.symm)
theorem KMap.store {t e : TypeId} (h : KMap P k w b ps) (K : Keyed P k) (ht : P.underlying t = some (.map k e)) (hn : ps.length < maxLen) {x : Value} {l : Lit} (hx : keyOf P k x = some l) (v : Value) :
    ∃ w', (Instr.mapUpdate t (.map (some b)) x v).run P w = .ok () w' ∧ KMap P k w' b (kput l v ps) ∧ Keep (fun i => i ≠ b) w w' := by
  obtain ⟨w', hrun, ho, ht'⟩ := World.ownsMap.store h K ht hn hx (val := v) (d := .held v) (ps := []) rfl
  exact ⟨w', hrun, KMap.of ho (kD_put l v ps), Keep.of_kturned ht'⟩
end
end Go.Proofs.YtohnmaindbgngaaGreatDoor
namespace Go.Proofs.YtohnmaindbgngaaGreatDoor
set_option linter.unusedVariables false
set_option linter.unusedSimpArgs false
open Go.RowKit
open Go.Maps (Keyed)
open Go.ChangeMaps (setBlock)

/-- What the entry's maker hands to its writer. -/
structure Entry (P : Program) (k t : TypeId) (b : Nat) (ps : List Ke) (l : Lit) (z : Value) (st : Value) (w w1 : World) : Prop where
  keep : Keep (fun i => i ≠ b) w w1
  map : ∃ ps1, KMap P k w1 b ps1 ∧ (∀ l', (kfind l' ps1).getD z = (kfind l' ps).getD z) ∧ ps1.length ≤ ps.length + 1
  put : ∀ w2 v, w2.heap[b]? = w1.heap[b]? → ∃ w3, (Instr.entryStore t (.map (some b)) st v).run P w2 = .ok () w3 ∧ KMap P k w3 b (kput l v ps) ∧ Keep (fun i => i ≠ b) w2 w3
theorem setBlock_keep {w : World} {b : Nat} {es es' : Array MapEntry} {c c' : Nat} (hb : w.heap[b]? = some (.map es c)) : Keep (fun i => i ≠ b) w (setBlock w b (.map es' c')) :=
  ⟨rfl, rfl, rfl, by simp [setBlock], fun i _ hi => Go.ChangeMaps.heap_setBlock_other hb _ hi⟩
theorem kmap_same {P : Program} {k : TypeId} {w w' : World} {b : Nat} {ps : List Ke} {o : Obj} (h : KMap P k w b ps) (h1 : w.heap[b]? = some o) (h2 : w'.heap[b]? = some o) : KMap P k w' b ps := h.blk (h2.trans h1.symm)
section
variable {P : Program} {k t e : TypeId} {w : World} {b : Nat} {ps : List Ke}
theorem KMap.entry (h : KMap P k w b ps) (K : Keyed P k) (ht : P.underlying t = some (.map k e)) (hn : ps.length < maxLen) {z : Value} (hz : ∀ u : World, (zeroValue e).run P u = .ok z u) {x : Value} {l : Lit} (hx : keyOf P k x = some l) :
    ∃ (st : Value) (w1 : World), (Instr.mapEntry t (.map (some b)) x).run P w = .ok (.tuple #[(kfind l ps).getD z, st]) w1 ∧ Entry P k t b ps l z st w w1 := by
  have hlook := h.look K ht (hz w) hx
  have hst := fun v => h.store K ht hn hx v
  obtain ⟨es, clock, hb, F, hsz, hD⟩ := h
  obtain ⟨s1, s2, _⟩ := F.stamped
  have hfit := F
  rcases K.find w hx es.toList F.keys with ⟨h1, h2⟩ | ⟨j, e0, h1, h2, h3⟩
  · have hzv : (kfind l ps).getD z = z := by
      have hl : (Instr.lookup t (.map (some b)) x false).run P w = .ok z w := by
        simp [Instr.lookup, run_underlying ht, MapKept.run_getObj_map hb, K.check w es.isEmpty hx, h1, hz, Result.andThen]
      rw [hlook] at hl
      injection hl
    have hup : ∀ v, (Instr.mapUpdate t (.map (some b)) x v).run P w = .ok () (setBlock w b (.map (es.push ⟨x, v, clock⟩) (clock + 1))) := fun v => by
      simp [Instr.mapUpdate, run_underlying ht, MapKept.run_getObj_map hb, K.check w false hx, h1, MapKept.run_setObj_map _ hb, Result.andThen, setBlock]
    have hkm : ∀ v, KMap P k (setBlock w b (.map (es.push ⟨x, v, clock⟩) (clock + 1))) b (kput l v ps) := fun v => by
      obtain ⟨w', r1, r2, _⟩ := hst v
      rw [hup v] at r1
      injection r1 with _ r1
      rw [r1]
      exact r2
    refine ⟨goInt clock, setBlock w b (.map (es.push ⟨x, z, clock⟩) (clock + 1)), ?_, setBlock_keep hb, ⟨_, hkm z, fun l' => ?_, kput_len l z ps⟩, fun w2 v hw2 => ?_⟩
    · rw [hzv]
      simp [Instr.mapEntry, run_underlying ht, MapKept.run_getObj_map hb, K.check w false hx, h1, hz, MapKept.run_setObj_map _ hb, Result.andThen, setBlock]
    · rw [kfind_put]
      split
      · rename_i hs
        have := same_eq hs
        subst this
        rw [hzv]; rfl
      · rfl
    · rw [Go.ChangeMaps.heap_setBlock_same hb] at hw2
      have hidx : (es.push ⟨x, z, clock⟩).findIdx? (fun e => ((e.born : Nat) : Int) == ((clock : Nat) : Int)) = some es.size := by
        rw [WideElems.findIdx_arr]
        exact WideElems.findIdx_born (l := (es.push ⟨x, z, clock⟩).toList) (j := es.size) (e0 := ⟨x, z, clock⟩) (by
          rw [Array.toList_push, List.map_append]
          refine List.nodup_append.2 ⟨s2, by simp, fun a ha c hc e1 => ?_⟩
          simp only [List.map_cons, List.map_nil, List.mem_singleton] at hc
          obtain ⟨y, hy, rfl⟩ := List.mem_map.1 ha
          have := s1 y hy
          omega) (by simp)
      have hmod : (es.push ⟨x, z, clock⟩).modify es.size (fun e => { e with val := v }) = es.push ⟨x, v, clock⟩ := by
        apply Array.ext'
        rw [Array.toList_modify, Array.toList_push, Array.toList_push, ← Array.length_toList, WideElems.modify_last]
      refine ⟨setBlock w2 b (.map (es.push ⟨x, v, clock⟩) (clock + 1)), ?_, ?_, setBlock_keep hw2⟩
      · simp [Instr.entryStore, MapKept.run_getObj_map hw2, asInt, asIntOf, goInt, hidx, hmod, MapKept.run_setObj_map _ hw2, Result.andThen, setBlock]
      · exact kmap_same (hkm v) (Go.ChangeMaps.heap_setBlock_same hb _) (Go.ChangeMaps.heap_setBlock_same hw2 _)
  · have hj : es[j]? = some e0 := by simpa using h2
    have hsame : es.modify j (fun e => { e with key := x }) = es := by
      apply Array.ext'
      rw [Array.toList_modify, Go.ChangeMaps.modify_eq_set _ _ _ _ h2]
      have : ({ e0 with key := x } : MapEntry) = e0 := by rw [← h3]
      rw [this]
      exact WideElems.set_self _ _ _ h2
    have hzv : (kfind l ps).getD z = e0.val := by
      have hl : (Instr.lookup t (.map (some b)) x false).run P w = .ok e0.val w := by
        simp [Instr.lookup, run_underlying ht, MapKept.run_getObj_map hb, K.check w es.isEmpty hx, h1, Result.andThen]
      rw [hlook] at hl
      injection hl
    have hup : ∀ v, (Instr.mapUpdate t (.map (some b)) x v).run P w = .ok () (setBlock w b (.map (es.modify j (fun e' => { e' with key := x, val := v })) clock)) := fun v => by
      simp [Instr.mapUpdate, run_underlying ht, MapKept.run_getObj_map hb, K.check w false hx, h1, hj, h3, K.stays w hx, MapKept.run_setObj_map _ hb, Result.andThen, setBlock]
    have hkm : ∀ v, KMap P k (setBlock w b (.map (es.modify j (fun e' => { e' with key := x, val := v })) clock)) b (kput l v ps) := fun v => by
      obtain ⟨w', r1, r2, _⟩ := hst v
      rw [hup v] at r1
      injection r1 with _ r1
      rw [r1]
      exact r2
    have hk0 : KMap P k w b ps := ⟨es, clock, hb, hfit, hsz, hD⟩
    refine ⟨goInt e0.born, setBlock w b (.map es clock), ?_, setBlock_keep hb, ⟨ps, kmap_same hk0 hb (Go.ChangeMaps.heap_setBlock_same hb _), fun _ => rfl, Nat.le_succ _⟩, fun w2 v hw2 => ?_⟩
    · rw [hzv]
      simp [Instr.mapEntry, run_underlying ht, MapKept.run_getObj_map hb, K.check w false hx, h1, hj, h3, K.stays w hx, hsame, MapKept.run_setObj_map _ hb, Result.andThen, setBlock]
    · rw [Go.ChangeMaps.heap_setBlock_same hb] at hw2
      have hidx : es.findIdx? (fun e => ((e.born : Nat) : Int) == ((e0.born : Nat) : Int)) = some j := by
        rw [WideElems.findIdx_arr]
        exact WideElems.findIdx_born s2 h2
      have hmod : es.modify j (fun e => { e with val := v }) = es.modify j (fun e' => { e' with key := x, val := v }) := by
        apply Array.ext'
        rw [Array.toList_modify, Array.toList_modify, Go.ChangeMaps.modify_eq_set _ _ _ _ h2, Go.ChangeMaps.modify_eq_set _ _ _ _ h2, ← h3]
      refine ⟨setBlock w2 b (.map (es.modify j (fun e' => { e' with key := x, val := v })) clock), ?_, ?_, setBlock_keep hw2⟩
      · simp [Instr.entryStore, MapKept.run_getObj_map hw2, asInt, asIntOf, goInt, hidx, hmod, MapKept.run_setObj_map _ hw2, Result.andThen, setBlock]
      · exact kmap_same (hkm v) (Go.ChangeMaps.heap_setBlock_same hb _) (Go.ChangeMaps.heap_setBlock_same hw2 _)
end
end Go.Proofs.YtohnmaindbgngaaGreatDoor
namespace Go.Proofs.YtohnmaindbgngaaGreatDoor
set_option linter.unusedVariables false
set_option linter.unusedSimpArgs false
open Go.RowKit
open Go.Maps (Keyed)
open Go.ChangeMaps (setBlock)

section
variable {P : Program} {k t e : TypeId} {w : World} {b : Nat} {ps : List Ke}
end
section
variable {w : World} {a b : Nat} (h : a ≠ b) (ha : a < w.heap.size) (hb : b < w.heap.size) (x1 x2 y1 y2 : Obj)
include h
omit h in
omit h in
end
end Go.Proofs.YtohnmaindbgngaaGreatDoor
