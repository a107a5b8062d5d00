/-
  MERGED: RSrv RSrv2
-/
import Derived.Test.YtohnmaindbgngaaGreatDoorE1
namespace Go.Proofs.YtohnmaindbgngaaGreatDoor
set_option linter.unusedVariables false
set_option linter.unusedSimpArgs false

/-- An incarnation's part, carried along and reckoned anew. -/
structure RelP (vs : List Int) (p : PartD) (q : RPart) : Prop where
  id : p.id = q.id
  viewed : p.viewed = q.viewed
  quor : p.viewed = true → p.quorate = quorB vs (q.mem.map MemD.p)
  adopted : p.adopted = q.adopted
  asks : p.asks = q.asked
  waits : p.waits = q.waits
  cmd : p.pending = q.cmd
  last : p.last = q.last
  since : p.since = q.since
theorem relp0 (vs : List Int) : RelP vs part0 rpart0 := ⟨rfl, rfl, fun h => (by cases h), rfl, rfl, rfl, rfl, rfl, rfl⟩
/-- What is carried along, behind marks that broke nothing. -/
structure SRel (vs : List Int) (s : SrvD) (l : List MarkD) : Prop where
  part : ∀ w, RelP vs ((s.parts w).getD part0) (rpartD w l)
  ent : ∀ n, s.entries n = (hmark l n).map fun x => (x.cmd, x.res)
  alike : ∀ x ∈ l, x.kind = 12 → s.entries x.n = some (x.cmd, x.res)
  idx : ∀ r, (s.index r).isSome = true ↔ ∃ x ∈ l, x.kind = 12 ∧ x.cmd.req = r
  asked : ∀ c, s.asked c = 0 ↔ raskedB l c = false
  plc : ∀ x ∈ l, x.kind = 12 → s.place x.cmd = some x.n
  unp : ∀ c n, s.place c = some n → ∃ x ∈ l, x.kind = 12 ∧ x.cmd = c
  fur : ∀ x y, s.furthest x = some y → ∃ (i : Nat) (h : i < l.length), l[i].kind = 12 ∧ (rpartD l[i].who (l.take i)).viewed = true ∧ (rpartD l[i].who (l.take i)).id.1 = x ∧ l[i].n = y
  fup : ∀ (i : Nat) (h : i < l.length), l[i].kind = 12 → (rpartD l[i].who (l.take i)).viewed = true → ∃ y, s.furthest (rpartD l[i].who (l.take i)).id.1 = some y ∧ l[i].n ≤ y
  pos : ∀ x ∈ l, x.kind = 12 → 1 ≤ x.n
  grown : s.grown = (histD l).length
  mach : s.mach = runSt newD (histD l)
theorem histD_nil : histD [] = [] := (histD_eq (ds := []) (cs := []) ⟨fun i h => (by cases h), rfl⟩).symm
theorem srel0 (vs : List Int) : SRel vs srv0 [] :=
  ⟨fun w => relp0 vs, fun n => rfl, fun x hx => (by cases hx), fun r => ⟨(fun h => by cases h), (fun h => by obtain ⟨x, hx, _⟩ := h; cases hx)⟩, fun c => ⟨fun _ => rfl, fun _ => rfl⟩, fun x hx => (by cases hx), fun c n h => (by cases h), fun x y h => (by cases h), fun i h => absurd h (Nat.not_lt_zero i), fun x hx => (by cases hx), by rw [histD_nil]; rfl, by rw [histD_nil]; rfl⟩

/-! ### marks that tell of no index -/
theorem hmark_other {l : List MarkD} {m : MarkD} (hk : m.kind ≠ 12) (n : Int) : hmark (l ++ [m]) n = hmark l n := by
  rw [hmark_snoc, if_neg (fun h => hk h.1)]
  cases hmark l n <;> rfl
theorem ishist_cong {a b : List MarkD} (h : ∀ n, hfind a n = hfind b n) {cs : List CmdD} (hc : IsHist a cs) : IsHist b cs := ⟨fun i hi => by rw [← h]; exact hc.1 i hi, by rw [← h]; exact hc.2⟩
theorem histD_same {l : List MarkD} {m : MarkD} (h : ∀ n, hmark (l ++ [m]) n = hmark l n) : histD (l ++ [m]) = histD l :=
  (histD_eq (ishist_cong (fun n => by rw [hfind_mark, hfind_mark, h]) (histD_is l))).symm
theorem mem_snocR {l : List MarkD} {m x : MarkD} (hx : x ∈ l ++ [m]) : x ∈ l ∨ x = m := by
  rcases List.mem_append.1 hx with h | h
  · exact .inl h
  · exact .inr (by simpa using h)
theorem rasked_snoc (l : List MarkD) (m : MarkD) (c : CmdD) : raskedB (l ++ [m]) c = (raskedB l c || (decide (m.kind = 11) && decide (m.cmd = c))) := by
  unfold raskedB
  rw [List.any_append]
  simp
section
variable {l : List MarkD} {m : MarkD}
theorem take_snoc_lt {i : Nat} (h : i < l.length) : (l ++ [m]).take i = l.take i := by
  rw [List.take_append_of_le_length (by omega)]
theorem get_snoc_lt {i : Nat} (h : i < l.length) : (l ++ [m])[i]'(by simp; omega) = l[i] := List.getElem_append_left h
end
/-- A mark that is no MarkApply: the log's part of what is carried stays. -/
theorem SRel.still {vs : List Int} {s s' : SrvD} {l : List MarkD} {m : MarkD} (h : SRel vs s l) (hk : m.kind ≠ 12) (he : s'.entries = s.entries) (hi : s'.index = s.index) (hp : s'.place = s.place) (hf : s'.furthest = s.furthest) (hg : s'.grown = s.grown) (hm : s'.mach = s.mach)
    (ha : ∀ c, s'.asked c = 0 ↔ raskedB (l ++ [m]) c = false) (hq : ∀ w, RelP vs ((s'.parts w).getD part0) (rpartD w (l ++ [m]))) : SRel vs s' (l ++ [m]) := by
  have hh := histD_same (m := m) (fun n => hmark_other (l := l) hk n)
  have old : ∀ x ∈ l ++ [m], x.kind = 12 → x ∈ l := fun x hx h12 => by
    rcases mem_snocR hx with h1 | rfl
    · exact h1
    · exact absurd h12 hk
  refine ⟨hq, fun n => by rw [he, hmark_other hk]; exact h.ent n, fun x hx h12 => by rw [he]; exact h.alike x (old x hx h12) h12, fun r => ?_, ha, fun x hx h12 => by rw [hp]; exact h.plc x (old x hx h12) h12, fun c n hc => ?_, fun x y hxy => ?_, fun i hi h12 hv => ?_, fun x hx h12 => h.pos x (old x hx h12) h12, by rw [hg, hh]; exact h.grown, by rw [hm, hh]; exact h.mach⟩
  · rw [hi, h.idx r]
    constructor
    · rintro ⟨x, hx, h1, h2⟩
      exact ⟨x, List.mem_append_left _ hx, h1, h2⟩
    · rintro ⟨x, hx, h1, h2⟩
      exact ⟨x, old x hx h1, h1, h2⟩
  · obtain ⟨x, hx, h1, h2⟩ := h.unp c n (hp ▸ hc)
    exact ⟨x, List.mem_append_left _ hx, h1, h2⟩
  · obtain ⟨i, hi, h1, h2, h3, h4⟩ := h.fur x y (hf ▸ hxy)
    refine ⟨i, by simp; omega, ?_⟩
    rw [get_snoc_lt hi, take_snoc_lt hi]
    exact ⟨h1, h2, h3, h4⟩
  · rcases Nat.lt_or_ge i l.length with h1 | h1
    · simp only [get_snoc_lt h1, take_snoc_lt h1] at h12 hv ⊢
      rw [hf]
      exact h.fup i h1 h12 hv
    · have e : i = l.length := by simp at hi; omega
      subst e
      simp at h12
      exact absurd h12 hk
/-- The parts behind a mark. -/
theorem parts_next {vs : List Int} {f f' : Who → Option PartD} {l : List MarkD} {m : MarkD} (h : ∀ w, RelP vs ((f w).getD part0) (rpartD w l)) (hn : m.kind ≠ 15) (ho : ∀ w, w ≠ m.who → f' w = f w) (hm : RelP vs ((f' m.who).getD part0) (rpartS m.who (rpartD m.who l) m)) : ∀ w, RelP vs ((f' w).getD part0) (rpartD w (l ++ [m])) := fun w => by
  rw [rpartD_snoc]
  by_cases e : w = m.who
  · subst e; exact hm
  · rw [ho w e]
    unfold rpartS
    rw [if_pos (.inl (Ne.symm e))]
    exact h w
theorem part_of {vs : List Int} {s : SrvD} {l : List MarkD} (h : SRel vs s l) (m : MarkD) (h1 : m.kind ≠ 1) : s.part m = (s.parts m.who).getD part0 := by
  unfold SrvD.part
  rw [if_neg h1]
theorem setPart_self (s : SrvD) (w : Who) (p : PartD) : (s.setPart w p).parts w = some p := upd_self _ _ _
theorem setPart_ne (s : SrvD) (p : PartD) {w w' : Who} (h : w' ≠ w) : (s.setPart w p).parts w' = s.parts w' := upd_ne _ _ h

/-! ### MarkAdopt -/
open Classical in
theorem behind_ex (f : Int → Option Int) (e n : Int) : behind f e n = true ↔ ∃ x y, f x = some y ∧ x < e ∧ n < y := by
  unfold behind
  exact decide_eq_true_iff
theorem behind_lost {vs : List Int} {s : SrvD} {l : List MarkD} (h : SRel vs s l) (e n : Int) : behind s.furthest e n = rlost l e n := by
  have key : (∃ x y, s.furthest x = some y ∧ x < e ∧ n < y) ↔ rlost l e n = true := by
    unfold rlost
    rw [List.any_eq_true]
    constructor
    · rintro ⟨x, y, h1, h2, h3⟩
      obtain ⟨i, hi, g1, g2, g3, g4⟩ := h.fur x y h1
      refine ⟨i, List.mem_range.2 hi, ?_⟩
      rw [List.getElem?_eq_getElem hi]
      simp [g1, g2, g3, g4, h2, h3]
    · rintro ⟨i, hi, h1⟩
      have hi := List.mem_range.1 hi
      rw [List.getElem?_eq_getElem hi] at h1
      simp only [Bool.and_eq_true, decide_eq_true_eq] at h1
      obtain ⟨⟨⟨g1, g2⟩, g3⟩, g4⟩ := h1
      obtain ⟨y, h2, h3⟩ := h.fup i hi g1 g3
      exact ⟨_, y, h2, g4, by omega⟩
  rw [Bool.eq_iff_iff, behind_ex]
  exact key
/-! ### growing -/
theorem growD_all {en : Int → Option (CmdD × ResD)} {hs : List CmdD} (h1 : ∀ (i : Nat) (h : i < hs.length), (en ((i : Int) + 1)).map Prod.fst = some hs[i]) (h2 : en ((hs.length : Int) + 1) = none) : ∀ (f g : Nat) (st : StD), g ≤ hs.length → hs.length < f + g → st = runSt newD (hs.take g) →
    (growD en f g st).1 = (if (List.range hs.length).all (fun i => decide (i < g) || decide ((runRs newD hs)[i]? = (en ((i : Int) + 1)).map Prod.snd)) then 0 else 27) ∧ ((growD en f g st).1 = 0 → (growD en f g st).2 = (hs.length, runSt newD hs))
  | 0, g, st, hg, hf, hst => by omega
  | f + 1, g, st, hg, hf, hst => by
    unfold growD
    rcases Nat.lt_or_ge g hs.length with hlt | hge
    · have e1 := h1 g hlt
      cases he : en ((g : Int) + 1) with
      | none => rw [he] at e1; cases e1
      | some x =>
        obtain ⟨c, r⟩ := x
        rw [he] at e1
        have hc : c = hs[g] := Option.some.inj e1
        have htk : hs.take (g + 1) = hs.take g ++ [c] := by rw [hc]; exact List.take_succ_eq_append_getElem hlt
        have hrun : (runRs newD hs)[g]? = some (c.apply st).1 := by
          have h3 : hs = hs.take (g + 1) ++ hs.drop (g + 1) := (List.take_append_drop _ _).symm
          have h4 : ∀ (l r : List CmdD) (s0 : StD), runRs s0 (l ++ r) = runRs s0 l ++ runRs (runSt s0 l) r := fun l => by
            induction l with
            | nil => exact fun r s0 => rfl
            | cons a l ih => exact fun r s0 => congrArg (List.cons _) (ih r _)
          rw [h3, h4, htk, runRs_snoc, ← hst]
          rw [List.getElem?_append_left (by simp [runRs_len]; omega), List.getElem?_append_right (by simp [runRs_len]; omega)]
          simp [runRs_len]
          rw [Nat.min_eq_left (by omega)]
          simp
        simp only
        by_cases hq : (c.apply st).1 = r
        · rw [if_pos hq]
          obtain ⟨k1, k2⟩ := growD_all h1 h2 f (g + 1) (c.apply st).2 hlt (by omega) (by rw [htk, runSt_snoc, ← hst])
          refine ⟨?_, k2⟩
          rw [k1]
          congr 1
          refine congrArg (· = true) ?_
          rw [Bool.eq_iff_iff, List.all_eq_true, List.all_eq_true]
          constructor
          · intro ha i hi
            have := ha i hi
            simp only [Bool.or_eq_true, decide_eq_true_eq] at this ⊢
            rcases this with h3 | h3
            · rcases Nat.lt_succ_iff_lt_or_eq.1 h3 with h4 | rfl
              · exact .inl h4
              · right
                rw [hrun, he, hq]
                rfl
            · exact .inr h3
          · intro ha i hi
            have := ha i hi
            simp only [Bool.or_eq_true, decide_eq_true_eq] at this ⊢
            rcases this with h3 | h3
            · exact .inl (by omega)
            · exact .inr h3
        · rw [if_neg hq, if_neg]
          · exact ⟨rfl, fun h => by cases h⟩
          · intro ha
            rw [List.all_eq_true] at ha
            have := ha g (List.mem_range.2 hlt)
            simp only [Bool.or_eq_true, decide_eq_true_eq, Nat.lt_irrefl, false_or] at this
            rw [hrun, he] at this
            exact hq (Option.some.inj this)
    · have e : g = hs.length := by omega
      subst e
      rw [h2]
      simp only
      rw [if_pos]
      · refine ⟨rfl, fun _ => by rw [hst, List.take_length]⟩
      · rw [List.all_eq_true]
        intro i hi
        have := List.mem_range.1 hi
        simp [this]
end Go.Proofs.YtohnmaindbgngaaGreatDoor
namespace Go.Proofs.YtohnmaindbgngaaGreatDoor
set_option linter.unusedVariables false
set_option linter.unusedSimpArgs false

/-- The log's part. -/
structure LogR (s : SrvD) (l : List MarkD) : Prop where
  ent : ∀ n, s.entries n = (hmark l n).map fun x => (x.cmd, x.res)
  alike : ∀ x ∈ l, x.kind = 12 → s.entries x.n = some (x.cmd, x.res)
  idx : ∀ r, (s.index r).isSome = true ↔ ∃ x ∈ l, x.kind = 12 ∧ x.cmd.req = r
  plc : ∀ x ∈ l, x.kind = 12 → s.place x.cmd = some x.n
  unp : ∀ c n, s.place c = some n → ∃ x ∈ l, x.kind = 12 ∧ x.cmd = c
  pos : ∀ x ∈ l, x.kind = 12 → 1 ≤ x.n
  grown : s.grown = (histD l).length
  mach : s.mach = runSt newD (histD l)
theorem SRel.log {vs : List Int} {s : SrvD} {l : List MarkD} (h : SRel vs s l) : LogR s l := ⟨h.ent, h.alike, h.idx, h.plc, h.unp, h.pos, h.grown, h.mach⟩
/-- A mark of an index that is known, told alike. -/
theorem LogR.known {s : SrvD} {l : List MarkD} {m x : MarkD} (h : LogR s l) (hk : m.kind = 12) (hx : hmark l m.n = some x) (he : (x.cmd, x.res) = (m.cmd, m.res)) : LogR s (l ++ [m]) := by
  obtain ⟨x1, x2, x3⟩ := hmark_some hx
  have hcm : x.cmd = m.cmd := congrArg Prod.fst he
  have hs : ∀ n, hmark (l ++ [m]) n = hmark l n := fun n => by
    rw [hmark_snoc]
    cases hm : hmark l n with
    | some y => rfl
    | none =>
      rw [if_neg (fun e => by rw [← e.2, hx] at hm; cases hm)]
  have hh := histD_same hs
  refine ⟨fun n => by rw [hs]; exact h.ent n, fun y hy h12 => ?_, fun r => ?_, fun y hy h12 => ?_, fun c n hc => ?_, fun y hy h12 => ?_, by rw [hh]; exact h.grown, by rw [hh]; exact h.mach⟩
  · rcases mem_snocR hy with h1 | rfl
    · exact h.alike y h1 h12
    · rw [h.ent, hx]
      exact congrArg some he
  · rw [h.idx r]
    constructor
    · rintro ⟨y, hy, h1, h2⟩
      exact ⟨y, List.mem_append_left _ hy, h1, h2⟩
    · rintro ⟨y, hy, h1, h2⟩
      rcases mem_snocR hy with h3 | rfl
      · exact ⟨y, h3, h1, h2⟩
      · exact ⟨x, x1, x2, by rw [hcm]; exact h2⟩
  · rcases mem_snocR hy with h1 | rfl
    · exact h.plc y h1 h12
    · rw [← hcm, h.plc x x1 x2, x3]
  · obtain ⟨y, hy, h1, h2⟩ := h.unp c n hc
    exact ⟨y, List.mem_append_left _ hy, h1, h2⟩
  · rcases mem_snocR hy with h1 | rfl
    · exact h.pos y h1 h12
    · rw [← x3]
      exact h.pos x x1 x2
/-- What growth needs: entries behind a mark of a new index. -/
theorem join_ent {s : SrvD} {l : List MarkD} {m : MarkD} (h : LogR s l) (hk : m.kind = 12) (hx : hmark l m.n = none) (n : Int) : (joinN s m).entries n = (hmark (l ++ [m]) n).map fun x => (x.cmd, x.res) := by
  show upd s.entries m.n (some (m.cmd, m.res)) n = _
  rw [hmark_snoc]
  by_cases e : n = m.n
  · subst e
    rw [upd_self, hx]
    simp [hk]
  · rw [upd_ne _ _ e, h.ent]
    cases hmark l n with
    | some y => rfl
    | none => simp [hk, Ne.symm e]
theorem hist_pre {l : List MarkD} (m : MarkD) : (histD l).length ≤ (histD (l ++ [m])).length ∧ (histD (l ++ [m])).take (histD l).length = histD l := by
  have h1 := histD_is l
  have h2 := histD_is (l ++ [m])
  have up : ∀ n c, hfind l n = some c → hfind (l ++ [m]) n = some c := fun n c h => hfind_appS [m] h
  have hle : (histD l).length ≤ (histD (l ++ [m])).length := by
    rcases Nat.lt_or_ge (histD (l ++ [m])).length (histD l).length with h | h
    · have := up _ _ (h1.1 _ h)
      rw [h2.2] at this
      cases this
    · exact h
  refine ⟨hle, List.ext_getElem (by simp; omega) fun i i1 i2 => ?_⟩
  rw [List.getElem_take]
  have e1 := up _ _ (h1.1 i i2)
  rw [h2.1 i (by omega)] at e1
  exact Option.some.inj e1
theorem join_grow {s : SrvD} {k : Nat} {l : List MarkD} {m : MarkD} (h : LogR s l) (hb : BdS s k) (hk : m.kind = 12) (hx : hmark l m.n = none) :
    (joinG s m).1 = (if rrule27 l m = true then 0 else 27) ∧ ((joinG s m).1 = 0 → (joinG s m).2 = ((histD (l ++ [m])).length, runSt newD (histD (l ++ [m])))) := by
  have hen := join_ent h hk hx
  have h2 := histD_is (l ++ [m])
  obtain ⟨p1, p2⟩ := hist_pre (l := l) m
  have g1 : ∀ (i : Nat) (hi : i < (histD (l ++ [m])).length), ((joinN s m).entries ((i : Int) + 1)).map Prod.fst = some (histD (l ++ [m]))[i] := fun i hi => by
    rw [hen, ← h2.1 i hi, hfind_mark, Option.map_map]
    rfl
  have g2 : (joinN s m).entries (((histD (l ++ [m])).length : Int) + 1) = none := by
    have := h2.2
    rw [hfind_mark] at this
    rw [hen]
    cases hm : hmark (l ++ [m]) (((histD (l ++ [m])).length : Int) + 1) with
    | none => rfl
    | some y => rw [hm] at this; cases this
  have hf := (joinN_keys hb m).2 (histD (l ++ [m])).length (fun i hi => by
    have := g1 i hi
    cases he : (joinN s m).entries ((i : Int) + 1) with
    | none => rw [he] at this; cases this
    | some y => rfl)
  have := growD_all g1 g2 ((joinN s m).cnt + 1) s.grown s.mach (by rw [h.grown]; exact p1) (by omega) (by rw [h.mach, h.grown, p2])
  refine ⟨?_, this.2⟩
  rw [show (joinG s m).1 = _ from this.1]
  congr 1
  refine congrArg (· = true) ?_
  unfold rrule27
  rw [Bool.eq_iff_iff, List.all_eq_true, List.all_eq_true]
  have e : ∀ i : Nat, ((joinN s m).entries ((i : Int) + 1)).map Prod.snd = hres (l ++ [m]) ((i : Int) + 1) := fun i => by
    rw [hen, Option.map_map]
    rfl
  constructor <;> intro ha i hi <;> have := ha i hi <;> simp only [h.grown, e] at this ⊢ <;> exact this
theorem LogR.join {s : SrvD} {k : Nat} {l : List MarkD} {m : MarkD} (h : LogR s l) (hb : BdS s k) (hk : m.kind = 12) (h1 : 1 ≤ m.n) (hx : hmark l m.n = none) (h0 : (joinS s m).1 = 0) : LogR (joinS s m).2 (l ++ [m]) := by
  unfold joinS at h0 ⊢
  split
  · rename_i hc
    rw [if_pos hc] at h0
    cases h0
  rename_i hc
  rw [if_neg hc] at h0
  have hg := (join_grow h hb hk hx).2 h0
  have hni : ¬ ∃ x ∈ l, x.kind = 12 ∧ x.cmd.req = m.cmd.req := fun he => hc (.inr ((h.idx _).2 he))
  refine ⟨join_ent h hk hx, fun y hy h12 => ?_, fun r => ?_, fun y hy h12 => ?_, fun c n hc2 => ?_, fun y hy h12 => ?_, congrArg Prod.fst hg, congrArg Prod.snd hg⟩
  · show upd s.entries m.n (some (m.cmd, m.res)) y.n = _
    rcases mem_snocR hy with h3 | rfl
    · rw [upd_ne _ _ (hmark_none hx h3 h12)]
      exact h.alike y h3 h12
    · rw [upd_self]
  · show (upd s.index m.cmd.req (some m.n) r).isSome = true ↔ _
    by_cases e : r = m.cmd.req
    · subst e
      rw [upd_self]
      exact ⟨fun _ => ⟨m, by simp, hk, rfl⟩, fun _ => rfl⟩
    · rw [upd_ne _ _ e, h.idx r]
      constructor
      · rintro ⟨y, hy, g1, g2⟩
        exact ⟨y, List.mem_append_left _ hy, g1, g2⟩
      · rintro ⟨y, hy, g1, g2⟩
        rcases mem_snocR hy with h3 | rfl
        · exact ⟨y, h3, g1, g2⟩
        · exact absurd g2.symm e
  · show upd s.place m.cmd (some m.n) y.cmd = _
    rcases mem_snocR hy with h3 | rfl
    · rw [upd_ne _ _ (fun e => hni ⟨y, h3, h12, by rw [e]⟩)]
      exact h.plc y h3 h12
    · rw [upd_self]
  · have hc2 : upd s.place m.cmd (some m.n) c = some n := hc2
    by_cases e : c = m.cmd
    · exact ⟨m, by simp, hk, e.symm⟩
    · rw [upd_ne _ _ e] at hc2
      obtain ⟨y, hy, g1, g2⟩ := h.unp c n hc2
      exact ⟨y, List.mem_append_left _ hy, g1, g2⟩
  · rcases mem_snocR hy with h3 | rfl
    · exact h.pos y h3 h12
    · exact h1
/-- A MarkApply that passes. -/
theorem done_rel {vs : List Int} {s s1 : SrvD} {l : List MarkD} {m : MarkD} {p : PartD} (h : SRel vs s l) (hL : LogR s1 (l ++ [m])) (e1 : s1.parts = s.parts) (e2 : s1.asked = s.asked) (e3 : s1.furthest = s.furthest) (hk : m.kind = 12) (hp : RelP vs p (rpartD m.who l)) (h1 : 1 ≤ m.n) : SRel vs (doneS s1 m p) (l ++ [m]) := by
  have hparts : ∀ w, RelP vs (((s1.setPart m.who { p with last := m.n, since := false }).parts w).getD part0) (rpartD w (l ++ [m])) := by
    refine parts_next h.part (by omega) (fun w hw => by rw [setPart_ne _ _ hw, e1]) ?_
    rw [setPart_self]
    unfold rpartS
    rw [if_neg (by rintro (a | a); exact a rfl; omega), if_neg (by omega), if_neg (by omega), if_neg (by omega), if_neg (by omega), if_pos hk]
    exact ⟨hp.id, hp.viewed, hp.quor, hp.adopted, hp.asks, hp.waits, hp.cmd, rfl, rfl⟩
  have hask : ∀ c, s1.asked c = 0 ↔ raskedB (l ++ [m]) c = false := fun c => by
    rw [rasked_snoc, e2, h.asked c]
    simp [hk]
  have hlast : ∀ (hi : l.length < (l ++ [m]).length), (l ++ [m])[l.length] = m ∧ (l ++ [m]).take l.length = l := fun hi => ⟨by simp, by simp⟩
  have hll : l.length < (l ++ [m]).length := by simp
  have oldf : ∀ x y, s.furthest x = some y → ∃ (i : Nat) (h : i < (l ++ [m]).length), (l ++ [m])[i].kind = 12 ∧ (rpartD (l ++ [m])[i].who ((l ++ [m]).take i)).viewed = true ∧ (rpartD (l ++ [m])[i].who ((l ++ [m]).take i)).id.1 = x ∧ (l ++ [m])[i].n = y := fun x y hxy => by
    obtain ⟨i, hi, g1, g2, g3, g4⟩ := h.fur x y hxy
    refine ⟨i, by simp; omega, ?_⟩
    rw [get_snoc_lt hi, take_snoc_lt hi]
    exact ⟨g1, g2, g3, g4⟩
  unfold doneS
  simp only
  split
  · rename_i hv
    refine ⟨hparts, hL.ent, hL.alike, hL.idx, hask, hL.plc, hL.unp, fun x y hxy => ?_, fun i hi h12 hvi => ?_, hL.pos, hL.grown, hL.mach⟩
    · have hxy : upd s1.furthest p.id.1 (some (max ((s1.furthest p.id.1).getD 0) m.n)) x = some y := hxy
      rw [e3] at hxy
      by_cases e : x = p.id.1
      · subst e
        rw [upd_self] at hxy
        have hy := Option.some.inj hxy
        by_cases hm : y = m.n
        · refine ⟨l.length, hll, ?_⟩
          obtain ⟨a1, a2⟩ := hlast hll
          simp only [a1, a2]
          exact ⟨hk, by rw [← hp.viewed]; exact hv, by rw [← hp.id], hm.symm⟩
        · cases hf : s.furthest p.id.1 with
          | none => rw [hf] at hy; simp at hy; omega
          | some z =>
            rw [hf] at hy
            simp at hy
            have : y = z := by omega
            subst this
            exact oldf _ _ hf
      · rw [upd_ne _ _ e] at hxy
        exact oldf x y hxy
    · show ∃ y, upd s1.furthest p.id.1 (some (max ((s1.furthest p.id.1).getD 0) m.n)) _ = some y ∧ _
      rw [e3]
      rcases Nat.lt_or_ge i l.length with g1 | g1
      · simp only [get_snoc_lt g1, take_snoc_lt g1] at h12 hvi ⊢
        obtain ⟨y, g2, g3⟩ := h.fup i g1 h12 hvi
        by_cases e : (rpartD l[i].who (l.take i)).id.1 = p.id.1
        · rw [e, upd_self]
          rw [e] at g2
          refine ⟨_, rfl, ?_⟩
          rw [g2]
          simp
          omega
        · rw [upd_ne _ _ e]
          exact ⟨y, g2, g3⟩
      · have e : i = l.length := by simp at hi; omega
        subst e
        obtain ⟨a1, a2⟩ := hlast hi
        simp only [a1, a2]
        rw [← hp.id, upd_self]
        exact ⟨_, rfl, by omega⟩
  · rename_i hv
    refine ⟨hparts, hL.ent, hL.alike, hL.idx, hask, hL.plc, hL.unp, fun x y hxy => oldf x y (e3 ▸ hxy), fun i hi h12 hvi => ?_, hL.pos, hL.grown, hL.mach⟩
    show ∃ y, s1.furthest _ = some y ∧ _
    rw [e3]
    rcases Nat.lt_or_ge i l.length with g1 | g1
    · simp only [get_snoc_lt g1, take_snoc_lt g1] at h12 hvi ⊢
      exact h.fup i g1 h12 hvi
    · have e : i = l.length := by simp at hi; omega
      subst e
      obtain ⟨a1, a2⟩ := hlast hi
      simp only [a1, a2] at hvi
      rw [← hp.viewed] at hvi
      exact absurd hvi hv
/-- The mark's own part, written back. -/
theorem SRel.own {vs : List Int} {s : SrvD} {l : List MarkD} (h : SRel vs s l) {m : MarkD} (h1 : m.kind ≠ 1) : SRel vs (s.setPart m.who (s.part m)) l ∧ RelP vs (s.part m) (rpartD m.who l) := by
  have hp : RelP vs (s.part m) (rpartD m.who l) := by rw [part_of h m h1]; exact h.part m.who
  refine ⟨⟨fun w => ?_, h.ent, h.alike, h.idx, h.asked, h.plc, h.unp, h.fur, h.fup, h.pos, h.grown, h.mach⟩, hp⟩
  by_cases e : w = m.who
  · subst e; rw [setPart_self]; exact hp
  · rw [setPart_ne _ _ e]; exact h.part w
theorem apply_same {vs : List Int} {s : SrvD} {k : Nat} {l : List MarkD} {m : MarkD} {p : PartD} (h : SRel vs s l) (hb : BdS s k) (hp : RelP vs p (rpartD m.who l)) (hk : m.kind = 12) :
    (applyS s m p).1 = rapplies l m ∧ ((applyS s m p).1 = 0 → SRel vs (applyS s m p).2 (l ++ [m])) := by
  have e23 : applyBad p m = rbad23 (rpartD m.who l) m := by
    unfold applyBad rbad23
    rw [hp.last, hp.since]
  unfold applyS rapplies
  rw [e23]
  by_cases hbad : rbad23 (rpartD m.who l) m = true
  · rw [if_pos hbad, if_pos hbad]
    exact ⟨rfl, fun h0 => by cases h0⟩
  · rw [if_neg hbad, if_neg hbad]
    obtain ⟨b1, -, -⟩ := applyBad_n (p := p) (m := m) (by rw [e23]; simpa using hbad)
    rw [h.ent]
    cases hx : hmark l m.n with
    | some x =>
      simp only [Option.map_some]
      by_cases he : (x.cmd, x.res) = (m.cmd, m.res)
      · rw [if_pos he, if_neg (by
          injection he with a1 a2
          rintro (a | a)
          · exact a a1
          · exact a a2)]
        exact ⟨rfl, fun _ => done_rel h (h.log.known hk hx he) rfl rfl rfl hk hp b1⟩
      · rw [if_neg he, if_pos (by
          by_cases a : x.cmd = m.cmd
          · right
            intro a2
            exact he (by rw [a, a2])
          · exact .inl a)]
        exact ⟨rfl, fun h0 => by cases h0⟩
    | none =>
      simp only [Option.map_none]
      have h25 : (s.asked m.cmd = 0 ∨ (s.index m.cmd.req).isSome = true) ↔ rrule25 l m = false := by
        unfold rrule25
        rw [h.asked, h.idx, Bool.and_eq_false_iff]
        refine or_congr Iff.rfl ?_
        rw [List.all_eq_false]
        constructor
        · rintro ⟨x, hx1, g1, g2⟩
          exact ⟨x, hx1, by simp [g1, g2, hmark_none hx hx1 g1]⟩
        · rintro ⟨x, hx1, g1⟩
          simp only [Bool.not_eq_true', Bool.not_eq_false', Bool.and_eq_true, decide_eq_true_eq, Bool.not_not, Bool.not_eq_true, Bool.not_eq_false] at g1
          exact ⟨x, hx1, g1.1.1, g1.2⟩
      by_cases hc : s.asked m.cmd = 0 ∨ (s.index m.cmd.req).isSome = true
      · have e : joinS s m = (25, s) := by unfold joinS; rw [if_pos hc]
        rw [e, if_pos (h25.1 hc)]
        simp only
        rw [if_neg (by decide)]
        exact ⟨rfl, fun h0 => by cases h0⟩
      · have e : joinS s m = ((joinG s m).1, { joinN s m with grown := (joinG s m).2.1, mach := (joinG s m).2.2 }) := by unfold joinS; rw [if_neg hc]
        have e1 : (joinS s m).1 = (joinG s m).1 := by rw [e]
        rw [if_neg (fun h => hc (h25.2 h))]
        obtain ⟨g1, g2⟩ := join_grow h.log hb hk hx
        by_cases h27 : rrule27 l m = true
        · rw [if_pos h27] at g1
          have h0 : (joinS s m).1 = 0 := e1.trans g1
          rw [if_pos h0, if_neg (by rw [h27]; decide)]
          refine ⟨rfl, fun _ => done_rel h (h.log.join hb hk b1 hx h0) ?_ ?_ ?_ hk hp b1⟩
          · rw [e]; rfl
          · rw [e]; rfl
          · rw [e]; rfl
        · rw [if_neg h27] at g1
          have h0 : (joinS s m).1 = 27 := e1.trans g1
          rw [if_neg (by rw [h0]; decide), if_pos (by simpa using h27)]
          exact ⟨h0, fun hz => by rw [h0] at hz; cases hz⟩
theorem rplace_none {l : List MarkD} {c : CmdD} (h : rplace l c = none) {x : MarkD} (hx : x ∈ l) (hk : x.kind = 12) : x.cmd ≠ c := by
  unfold rplace at h
  rw [List.find?_eq_none] at h
  have := h x hx
  simpa [hk] using this
theorem rplace_some {l : List MarkD} {c : CmdD} {x : MarkD} (h : rplace l c = some x) : x ∈ l ∧ x.kind = 12 ∧ x.cmd = c := by
  unfold rplace at h
  have h1 := List.mem_of_find?_eq_some h
  have h2 := List.find?_some h
  simp at h2
  exact ⟨h1, h2.1, h2.2⟩
theorem SRel.next {vs : List Int} {s : SrvD} {k : Nat} {l : List MarkD} {m : MarkD} (h : SRel vs s l) (hb : BdS s k) : (serveS vs s m).1 = rserves vs l m ∧ ((serveS vs s m).1 = 0 → SRel vs (serveS vs s m).2 (l ++ [m])) := by
  have hask : m.kind ≠ 11 → ∀ c, s.asked c = 0 ↔ raskedB (l ++ [m]) c = false := fun hk c => by
    rw [rasked_snoc, h.asked c]
    simp [hk]
  unfold serveS rserves
  by_cases k15 : m.kind = 15
  · rw [if_pos k15, if_neg (by omega), if_neg (by omega), if_neg (by omega), if_neg (by omega)]
    refine ⟨rfl, fun _ => h.still (by omega) rfl rfl rfl rfl rfl rfl (hask (by omega)) fun w => ?_⟩
    rw [rpartD_snoc]
    unfold rpartS
    rw [if_pos (.inr k15)]
    exact h.part w
  rw [if_neg k15]
  simp only
  by_cases k1 : m.kind = 1
  · rw [if_neg (by omega), if_neg (by omega), if_neg (by omega), if_neg (by omega), if_neg (by omega), if_neg (by omega), if_neg (by omega), if_neg (by omega), if_neg (by omega)]
    refine ⟨rfl, fun _ => h.still (by omega) rfl rfl rfl rfl rfl rfl (hask (by omega)) (parts_next h.part k15 (fun w hw => setPart_ne _ _ hw) ?_)⟩
    have hp0 : s.part m = part0 := by unfold SrvD.part; rw [if_pos k1]
    rw [setPart_self, hp0]
    unfold rpartS
    rw [if_neg (by rintro (a | a); exact a rfl; exact k15 a), if_pos k1]
    exact relp0 vs
  obtain ⟨h1, hp⟩ := h.own k1
  have hb1 : BdS (s.setPart m.who (s.part m)) k := hb.setPart (hb.bdp m)
  obtain ⟨p, hpe⟩ : ∃ p, p = s.part m := ⟨_, rfl⟩
  rw [← hpe] at h1 hp hb1 ⊢
  have hrs : ∀ (q' : RPart), (m.kind = 7 → q' = { rpartD m.who l with id := m.id, mem := m.mem, viewed := true, adopted := false }) → (m.kind = 10 → q' = { rpartD m.who l with adopted := true, since := true }) → (m.kind = 11 → q' = { rpartD m.who l with asked := (rpartD m.who l).asked + 1, waits := true, cmd := m.cmd }) → (m.kind = 13 → q' = { rpartD m.who l with waits := false }) → (m.kind ≠ 7 → m.kind ≠ 10 → m.kind ≠ 11 → m.kind ≠ 13 → q' = rpartD m.who l) → m.kind ≠ 12 → rpartS m.who (rpartD m.who l) m = q' := fun q' g7 g10 g11 g13 g0 g12 => by
    unfold rpartS
    rw [if_neg (by rintro (a | a); exact a rfl; exact k15 a), if_neg k1]
    split
    · rename_i e; exact (g7 e).symm
    split
    · rename_i e; exact (g10 e).symm
    split
    · rename_i e; exact (g11 e).symm
    split
    · rename_i e; exact (g13 e).symm
    · rename_i a b c d; exact (g0 a b c d).symm
  by_cases k7 : m.kind = 7
  · rw [if_pos k7, if_neg (by omega), if_neg (by omega), if_neg (by omega), if_neg (by omega)]
    refine ⟨rfl, fun _ => h1.still (by omega) rfl rfl rfl rfl rfl rfl (hask (by omega)) (parts_next h1.part k15 (fun w hw => setPart_ne _ _ hw) ?_)⟩
    rw [setPart_self, hrs { rpartD m.who l with id := m.id, mem := m.mem, viewed := true, adopted := false } (fun _ => rfl) (by omega) (by omega) (by omega) (fun a => absurd k7 a) (by omega)]
    exact ⟨rfl, rfl, fun _ => rfl, rfl, hp.asks, hp.waits, hp.cmd, hp.last, hp.since⟩
  rw [if_neg k7]
  by_cases k10 : m.kind = 10
  · rw [if_pos k10, if_pos k10]
    have e21 : adoptBad p m = radopt vs (rpartD m.who l) m := by
      unfold adoptBad radopt
      rw [hp.id, hp.adopted, ← hp.viewed]
      cases hv : p.viewed with
      | false => simp
      | true => rw [hp.quor hv]
    rw [e21, behind_lost h1]
    by_cases c21 : radopt vs (rpartD m.who l) m = true
    · rw [if_pos c21, if_pos c21]
      exact ⟨rfl, fun h0 => by cases h0⟩
    rw [if_neg c21, if_neg c21]
    by_cases c26 : rlost l m.e1 m.n = true
    · rw [if_pos c26, if_pos c26]
      exact ⟨rfl, fun h0 => by cases h0⟩
    rw [if_neg c26, if_neg c26]
    refine ⟨rfl, fun _ => h1.still (by omega) rfl rfl rfl rfl rfl rfl (hask (by omega)) (parts_next h1.part k15 (fun w hw => setPart_ne _ _ hw) ?_)⟩
    rw [setPart_self, hrs { rpartD m.who l with adopted := true, since := true } (by omega) (fun _ => rfl) (by omega) (by omega) (fun _ a => absurd k10 a) (by omega)]
    exact ⟨hp.id, hp.viewed, hp.quor, rfl, hp.asks, hp.waits, hp.cmd, hp.last, rfl⟩
  rw [if_neg k10, if_neg k10]
  by_cases k11 : m.kind = 11
  · rw [if_pos k11, if_pos k11]
    have e22 : doBad p m = !rtakes (rpartD m.who l) m := by
      unfold doBad rtakes
      rw [hp.adopted, hp.waits, hp.asks]
      simp [Bool.not_and]
    unfold doS
    rw [e22]
    cases ht : rtakes (rpartD m.who l) m with
    | false =>
      rw [if_pos (by decide), if_neg (by decide)]
      exact ⟨rfl, fun h0 => by cases h0⟩
    | true =>
      rw [if_neg (by decide), if_pos rfl]
      refine ⟨rfl, fun _ => h1.still (by omega) rfl rfl rfl rfl rfl rfl (fun c => ?_) (parts_next h1.part k15 (fun w hw => setPart_ne _ _ hw) ?_)⟩
      · show upd s.asked m.cmd (s.asked m.cmd + 1) c = 0 ↔ _
        rw [rasked_snoc]
        by_cases e : c = m.cmd
        · subst e
          rw [upd_self]
          simp [k11]
        · rw [upd_ne _ _ e, h.asked c]
          simp [Ne.symm e]
      · show RelP vs (((s.setPart m.who p).setPart m.who _).parts m.who |>.getD part0) _
        rw [setPart_self, hrs { rpartD m.who l with asked := (rpartD m.who l).asked + 1, waits := true, cmd := m.cmd } (by omega) (by omega) (fun _ => rfl) (by omega) (fun _ _ a => absurd k11 a) (by omega)]
        exact ⟨hp.id, hp.viewed, hp.quor, hp.adopted, congrArg (· + 1) hp.asks, rfl, rfl, hp.last, hp.since⟩
  rw [if_neg k11, if_neg k11]
  by_cases k12 : m.kind = 12
  · rw [if_pos k12, if_pos k12]
    exact apply_same h1 hb1 hp k12
  rw [if_neg k12, if_neg k12]
  by_cases k13 : m.kind = 13
  · rw [if_pos k13, if_pos k13]
    unfold replyS rreplies
    rw [hp.waits, hp.cmd]
    by_cases cw : (rpartD m.who l).waits = false ∨ (rpartD m.who l).cmd ≠ m.cmd
    · rw [if_pos cw, if_pos cw]
      exact ⟨rfl, fun h0 => by cases h0⟩
    rw [if_neg cw, if_neg cw]
    cases hx : rplace l m.cmd with
    | none =>
      cases hq : (s.setPart m.who p).place m.cmd with
      | none => exact ⟨rfl, fun h0 => by cases h0⟩
      | some n =>
        obtain ⟨x, x1, x2, x3⟩ := h1.unp _ _ hq
        exact absurd x3 (rplace_none hx x1 x2)
    | some x =>
      obtain ⟨x1, x2, x3⟩ := rplace_some hx
      have hq := h1.plc x x1 x2
      rw [x3] at hq
      have hr : (s.setPart m.who p).resAt x.n = x.res := by
        unfold SrvD.resAt
        rw [h1.alike x x1 x2]
        rfl
      rw [hq]
      simp only
      rw [hr, h1.grown]
      by_cases cr : x.res ≠ m.res
      · rw [if_pos cr, if_pos cr]
        exact ⟨rfl, fun h0 => by cases h0⟩
      rw [if_neg cr, if_neg cr]
      by_cases cg : ((histD l).length : Int) < x.n
      · rw [if_pos cg, if_pos cg]
        exact ⟨rfl, fun h0 => by cases h0⟩
      rw [if_neg cg, if_neg cg]
      refine ⟨rfl, fun _ => h1.still (by omega) rfl rfl rfl rfl rfl rfl (hask (by omega)) (parts_next h1.part k15 (fun w hw => setPart_ne _ _ hw) ?_)⟩
      rw [setPart_self, hrs { rpartD m.who l with waits := false } (by omega) (by omega) (by omega) (fun _ => rfl) (fun _ _ _ a => absurd k13 a) (by omega)]
      exact ⟨hp.id, hp.viewed, hp.quor, hp.adopted, hp.asks, rfl, rfl, hp.last, hp.since⟩
  rw [if_neg k13, if_neg k13]
  refine ⟨rfl, fun _ => h1.still k12 rfl rfl rfl rfl rfl rfl (hask k11) (parts_next h1.part k15 (fun w hw => rfl) ?_)⟩
  rw [setPart_self, hrs (rpartD m.who l) (fun a => absurd a k7) (fun a => absurd a k10) (fun a => absurd a k11) (fun a => absurd a k13) (fun _ _ _ _ => rfl) k12]
  exact hp
theorem findS_same {vs : List Int} : ∀ (ms : List MarkD) (s : SrvD) (k : Nat) (l : List MarkD), SRel vs s l → BdS s k → findS vs s l.length ms = findRS vs l ms
  | [], s, k, l, h, hb => rfl
  | m :: r, s, k, l, h, hb => by
    obtain ⟨h1, h2⟩ := h.next (m := m) hb
    unfold findRS
    by_cases h0 : (serveS vs s m).1 = 0
    · rw [findS_miss _ _ h0, if_pos (h1 ▸ h0)]
      have := findS_same r (serveS vs s m).2 (k + 1) (l ++ [m]) (h2 h0) (hb.next h0)
      rw [List.length_append] at this
      exact this
    · rw [findS_hit _ _ h0, if_neg (h1 ▸ h0), h1]
/-- P17.2 -/
theorem service_same (vs : List Int) (ms : List MarkD) : serviceD vs ms = rserviceD vs ms := by
  unfold serviceD rserviceD servD
  rw [← findS_same (vs := vs) ms srv0 0 [] (srel0 vs) bds0]
  rfl
end Go.Proofs.YtohnmaindbgngaaGreatDoor
