/-
  MERGED: SrvSer SrvS
-/
import Derived.Test.YtohnmaindbgngaaGreatDoorQC
import Derived.Test.YtohnmaindbgngaaGreatDoorQX
import Derived.Test.YtohnmaindbgngaaGreatDoorQD
import Derived.Test.YtohnmaindbgngaaGreatDoorQI
namespace Go.Proofs.YtohnmaindbgngaaGreatDoor
set_option linter.unusedVariables false
set_option linter.unusedSimpArgs false

/-- The machine does these commands with these results. -/
def RunOk : StD → List (CmdD × ResD) → StD → Prop
  | st, [], st' => st = st'
  | st, (c, r) :: t, st' => (c.apply st).1 = r ∧ RunOk (c.apply st).2 t st'
theorem RunOk.snoc {c : CmdD} : ∀ (l : List (CmdD × ResD)) (st st' : StD), RunOk st l st' → RunOk st (l ++ [(c, (c.apply st').1)]) (c.apply st').2
  | [], st, st', h => by
    obtain rfl : st = st' := h
    exact ⟨rfl, rfl⟩
  | (d, r) :: t, st, st', h => ⟨h.1, RunOk.snoc t _ st' h.2⟩
/-- The results of a run. -/
def runRs : StD → List CmdD → List ResD
  | _, [] => []
  | st, c :: t => (c.apply st).1 :: runRs (c.apply st).2 t
def runSt : StD → List CmdD → StD
  | st, [] => st
  | st, c :: t => runSt (c.apply st).2 t
theorem runRs_len : ∀ (l : List CmdD) (st : StD), (runRs st l).length = l.length
  | [], _ => rfl
  | c :: t, st => congrArg Nat.succ (runRs_len t _)
theorem runRs_snoc (c : CmdD) : ∀ (l : List CmdD) (st : StD), runRs st (l ++ [c]) = runRs st l ++ [(c.apply (runSt st l)).1]
  | [], st => rfl
  | d :: t, st => congrArg (List.cons _) (runRs_snoc c t _)
theorem runSt_snoc (c : CmdD) : ∀ (l : List CmdD) (st : StD), runSt st (l ++ [c]) = (c.apply (runSt st l)).2
  | [], st => rfl
  | d :: t, st => runSt_snoc c t _
theorem runRs_app (b : List CmdD) : ∀ (l : List (CmdD × ResD)) (st st' : StD), RunOk st l st' → runRs st (l.map Prod.fst ++ b) = l.map Prod.snd ++ runRs st' b
  | [], st, st', h => by
    obtain rfl : st = st' := h
    rfl
  | (c, r) :: t, st, st', h => by
    show (c.apply st).1 :: runRs (c.apply st).2 (t.map Prod.fst ++ b) = r :: (t.map Prod.snd ++ runRs st' b)
    rw [runRs_app b t _ st' h.2, h.1]
/-- What was done so far. -/
structure SerI (s : SrvD) (ds : List MarkD) (cs : List (CmdD × ResD)) : Prop where
  ent : ∀ n, (s.entries n).map Prod.fst = hfind ds n
  pos : ∀ n x, s.entries n = some x → 1 ≤ n
  plc : ∀ c n, s.place c = some n → ∃ r, s.entries n = some (c, r)
  len : cs.length = s.grown
  sts : ∀ (i : Nat) (h : i < cs.length), s.entries ((i : Int) + 1) = some cs[i]
  run : RunOk newD cs s.mach
theorem seri0 : SerI srv0 [] [] := ⟨fun n => rfl, fun n x h => (by cases h), fun c n h => (by cases h), rfl, fun i h => absurd h (Nat.not_lt_zero i), rfl⟩
theorem SerI.same {s s' : SrvD} {ds ds' : List MarkD} {cs : List (CmdD × ResD)} (h : SerI s ds cs) (he : s'.entries = s.entries) (hp : s'.place = s.place) (hg : s'.grown = s.grown) (hm : s'.mach = s.mach) (hd : ∀ n, hfind ds' n = hfind ds n) : SerI s' ds' cs :=
  ⟨fun n => by rw [he, hd]; exact h.ent n, fun n x hx => h.pos n x (he ▸ hx), fun c n hc => by rw [he]; exact h.plc c n (hp ▸ hc), by rw [hg]; exact h.len, fun i hi => by rw [he]; exact h.sts i hi, by rw [hm]; exact h.run⟩
theorem growD_run {en : Int → Option (CmdD × ResD)} : ∀ (f g : Nat) (st : StD) (cs : List (CmdD × ResD)), cs.length = g → (∀ (i : Nat) (h : i < cs.length), en ((i : Int) + 1) = some cs[i]) → RunOk newD cs st → (growD en f g st).1 = 0 →
    ∃ cs', cs'.length = (growD en f g st).2.1 ∧ (∀ (i : Nat) (h : i < cs'.length), en ((i : Int) + 1) = some cs'[i]) ∧ RunOk newD cs' (growD en f g st).2.2 ∧ (∀ (i : Nat) (h : i < cs.length), ∃ h' : i < cs'.length, cs'[i] = cs[i])
  | 0, g, st, cs, hl, hc, hr, h0 => ⟨cs, hl, hc, hr, fun i h => ⟨h, rfl⟩⟩
  | f + 1, g, st, cs, hl, hc, hr, h0 => by
    unfold growD at h0 ⊢
    cases he : en ((g : Int) + 1) with
    | none => exact ⟨cs, hl, hc, hr, fun i h => ⟨h, rfl⟩⟩
    | some x =>
      obtain ⟨c, r⟩ := x
      rw [he] at h0
      simp only at h0 ⊢
      by_cases hq : (c.apply st).1 = r
      · rw [if_pos hq] at h0 ⊢
        subst hq
        obtain ⟨cs', h1, h2, h3, h4⟩ := growD_run f (g + 1) (c.apply st).2 (cs ++ [(c, (c.apply st).1)]) (by simp [hl]) (fun i hi => by
          rw [List.getElem_append]
          split
          · rename_i h1; exact hc i h1
          · rename_i h1
            have : i = g := by simp at hi; omega
            subst this
            rw [he]
            simp) (hr.snoc) h0
        refine ⟨cs', h1, h2, h3, fun i hi => ?_⟩
        obtain ⟨h', e⟩ := h4 i (by simp; omega)
        refine ⟨h', ?_⟩
        rw [e, List.getElem_append_left hi]
      · rw [if_neg hq] at h0
        cases h0
theorem hfind_snocS (ds : List MarkD) (m : MarkD) (n : Int) : hfind (ds ++ [m]) n = match hfind ds n with | some c => some c | none => if m.kind = 12 ∧ m.n = n then some m.cmd else none := by
  unfold hfind
  rw [List.find?_append]
  cases hf : ds.find? (fun d => d.kind == 12 && d.n == n) with
  | some x => rfl
  | none =>
    simp only [Option.none_or, Option.map_none]
    by_cases hc : m.kind = 12 ∧ m.n = n
    · rw [if_pos hc, List.find?_cons_of_pos (by simp [hc])]
      rfl
    · rw [if_neg hc, List.find?_cons_of_neg (by simpa using hc)]
      rfl
theorem hfind_appS {ds : List MarkD} {n : Int} {c : CmdD} (r : List MarkD) (h : hfind ds n = some c) : hfind (ds ++ r) n = some c := by
  unfold hfind at h ⊢
  rw [List.find?_append]
  cases hf : ds.find? (fun d => d.kind == 12 && d.n == n) with
  | some x => rw [hf] at h; exact h
  | none => rw [hf] at h; cases h
theorem hfind_other {ds : List MarkD} {m : MarkD} (hk : m.kind ≠ 12) (n : Int) : hfind (ds ++ [m]) n = hfind ds n := by
  rw [hfind_snocS, if_neg (fun h => hk h.1)]
  cases hfind ds n <;> rfl
theorem SerI.doneS {s : SrvD} {ds : List MarkD} {cs : List (CmdD × ResD)} (h : SerI s ds cs) (m : MarkD) (p : PartD) : SerI (doneS s m p) ds cs := by
  unfold Go.Proofs.YtohnmaindbgngaaGreatDoor.doneS
  simp only
  split
  · exact h.same rfl rfl rfl rfl fun _ => rfl
  · exact h.same rfl rfl rfl rfl fun _ => rfl
theorem SerI.join {s : SrvD} {ds : List MarkD} {cs : List (CmdD × ResD)} (h : SerI s ds cs) {m : MarkD} (hk : m.kind = 12) (h1 : 1 ≤ m.n) (hn : s.entries m.n = none) (h0 : (joinS s m).1 = 0) : ∃ cs', SerI (joinS s m).2 (ds ++ [m]) cs' := by
  unfold Go.Proofs.YtohnmaindbgngaaGreatDoor.joinS at h0 ⊢
  split
  · rename_i hc
    rw [if_pos hc] at h0
    cases h0
  rename_i hc
  rw [if_neg hc] at h0
  have hen : ∀ n, (joinN s m).entries n = upd s.entries m.n (some (m.cmd, m.res)) n := fun n => rfl
  have old : ∀ n x, s.entries n = some x → (joinN s m).entries n = some x := fun n x hx => by
    rw [hen, upd_ne _ _ (fun e => by rw [e, hn] at hx; cases hx)]
    exact hx
  obtain ⟨cs', c1, c2, c3, c4⟩ := growD_run ((joinN s m).cnt + 1) s.grown s.mach cs h.len (fun i hi => old _ _ (h.sts i hi)) h.run (show (growD (joinN s m).entries ((joinN s m).cnt + 1) s.grown s.mach).1 = 0 from h0)
  refine ⟨cs', fun n => ?_, fun n x hx => ?_, fun c n hc => ?_, c1, c2, c3⟩
  · show ((joinN s m).entries n).map Prod.fst = _
    rw [hfind_snocS, ← h.ent n, hen]
    by_cases e : n = m.n
    · subst e
      rw [upd_self, hn]
      simp [hk]
    · rw [upd_ne _ _ e]
      cases s.entries n with
      | some x => rfl
      | none => simp [hk, Ne.symm e]
  · by_cases e : n = m.n
    · subst e; exact h1
    · refine h.pos n x ?_
      rw [← hx]
      exact (upd_ne _ _ e).symm
  · show ∃ r, (joinN s m).entries n = some (c, r)
    have hc : upd s.place m.cmd (some m.n) c = some n := hc
    by_cases e : c = m.cmd
    · subst e
      rw [upd_self] at hc
      obtain rfl := Option.some.inj hc
      exact ⟨m.res, by rw [hen, upd_self]⟩
    · rw [upd_ne _ _ e] at hc
      obtain ⟨r, hr⟩ := h.plc c n hc
      exact ⟨r, old _ _ hr⟩
theorem SerI.next {vs : List Int} {s : SrvD} {ds : List MarkD} {cs : List (CmdD × ResD)} {m : MarkD} (h : SerI s ds cs) (h0 : (serveS vs s m).1 = 0) : ∃ cs', SerI (serveS vs s m).2 (ds ++ [m]) cs' := by
  unfold serveS at h0 ⊢
  simp only at h0 ⊢
  split
  · rename_i n15
    exact ⟨cs, h.same rfl rfl rfl rfl (hfind_other (by omega))⟩
  rename_i n15
  rw [if_neg n15] at h0
  split
  · rename_i n7
    exact ⟨cs, h.same rfl rfl rfl rfl (hfind_other (by omega))⟩
  rename_i n7
  rw [if_neg n7] at h0
  split
  · rename_i n10
    have hd : ∀ n, hfind (ds ++ [m]) n = hfind ds n := hfind_other (by omega)
    split
    · exact ⟨cs, h.same rfl rfl rfl rfl hd⟩
    split
    · exact ⟨cs, h.same rfl rfl rfl rfl hd⟩
    · exact ⟨cs, h.same rfl rfl rfl rfl hd⟩
  rename_i n10
  rw [if_neg n10] at h0
  split
  · rename_i n11
    have hd : ∀ n, hfind (ds ++ [m]) n = hfind ds n := hfind_other (by omega)
    unfold doS
    split
    · exact ⟨cs, h.same rfl rfl rfl rfl hd⟩
    · exact ⟨cs, h.same rfl rfl rfl rfl hd⟩
  rename_i n11
  rw [if_neg n11] at h0
  split
  · rename_i n12
    rw [if_pos n12] at h0
    have h1 : SerI (s.setPart m.who (s.part m)) ds cs := h.same rfl rfl rfl rfl fun _ => rfl
    unfold applyS at h0 ⊢
    split
    · rename_i hb
      rw [if_pos hb] at h0
      cases h0
    · rename_i hb
      rw [if_neg hb] at h0
      obtain ⟨b1, b2, b3⟩ := applyBad_n (by simpa using hb)
      cases he : (s.setPart m.who (s.part m)).entries m.n with
      | some x =>
        rw [he] at h0
        simp only at h0 ⊢
        split
        · rename_i hx
          refine ⟨cs, (h1.doneS m _).same rfl rfl rfl rfl fun n => ?_⟩
          rw [hfind_snocS, ← h1.ent n]
          cases hen : (s.setPart m.who (s.part m)).entries n with
          | some y => rfl
          | none => 
            rw [if_neg (fun e => by rw [← e.2, he] at hen; cases hen)]
            rfl
        · rename_i hx
          rw [if_neg hx] at h0
          cases h0
      | none =>
        rw [he] at h0
        simp only at h0 ⊢
        split
        · rename_i hj
          obtain ⟨cs', h2⟩ := h1.join n12 b1 he hj
          exact ⟨cs', h2.doneS m _⟩
        · rename_i hj
          rw [if_neg hj] at h0
          exact absurd h0 hj
  rename_i n12
  rw [if_neg n12] at h0
  split
  · have hd : ∀ n, hfind (ds ++ [m]) n = hfind ds n := hfind_other (by omega)
    unfold replyS
    split
    · exact ⟨cs, h.same rfl rfl rfl rfl hd⟩
    · split
      · exact ⟨cs, h.same rfl rfl rfl rfl hd⟩
      · split
        · exact ⟨cs, h.same rfl rfl rfl rfl hd⟩
        · split
          · exact ⟨cs, h.same rfl rfl rfl rfl hd⟩
          · exact ⟨cs, h.same rfl rfl rfl rfl hd⟩
  · exact ⟨cs, h.same rfl rfl rfl rfl (hfind_other n12)⟩
/-- A reply that passes: what waits, where it stands. -/
theorem reply_pass {vs : List Int} {s : SrvD} {m : MarkD} (hk : m.kind = 13) (h0 : (serveS vs s m).1 = 0) :
    (s.part m).waits = true ∧ (s.part m).pending = m.cmd ∧ ∃ n, s.place m.cmd = some n ∧ s.resAt n = m.res ∧ n ≤ (s.grown : Int) := by
  unfold serveS at h0
  rw [if_neg (by omega)] at h0
  simp only at h0
  rw [if_neg (by omega), if_neg (by omega), if_neg (by omega), if_neg (by omega), if_pos hk] at h0
  unfold replyS at h0
  split at h0
  · cases h0
  rename_i hw
  have hpl : (s.setPart m.who (s.part m)).place = s.place := rfl
  have hrs : (s.setPart m.who (s.part m)).resAt = s.resAt := rfl
  have hgr : (s.setPart m.who (s.part m)).grown = s.grown := rfl
  cases hp : (s.setPart m.who (s.part m)).place m.cmd with
  | none => rw [hp] at h0; cases h0
  | some n =>
    rw [hp] at h0
    simp only at h0
    split at h0
    · cases h0
    rename_i hr
    split at h0
    · cases h0
    rename_i hg
    refine ⟨by cases hx : (s.part m).waits with | true => rfl | false => exact absurd (.inl hx) hw, Classical.byContradiction fun e => hw (.inr e), n, hpl ▸ hp, ?_, by rw [hgr] at hg; omega⟩
    rw [← hrs]
    exact Classical.byContradiction hr
/-- The same reply with another result breaks rule 28. -/
theorem reply_other {vs : List Int} {s : SrvD} {m m' : MarkD} (hk : m.kind = 13) (h0 : (serveS vs s m).1 = 0) (hm : m'.kind = m.kind ∧ m'.who = m.who ∧ m'.cmd = m.cmd) (hr : m'.res ≠ m.res) : (serveS vs s m').1 = 28 := by
  obtain ⟨h1, h2, n, h3, h4, h5⟩ := reply_pass hk h0
  have hp : s.part m' = s.part m := by
    unfold SrvD.part
    rw [hm.1, hm.2.1]
  unfold serveS
  rw [if_neg (by omega)]
  simp only
  rw [if_neg (by omega), if_neg (by omega), if_neg (by omega), if_neg (by omega), if_pos (by omega), hp]
  unfold replyS
  rw [if_neg (by rw [h1, h2, hm.2.2]; simp)]
  have hpl : (s.setPart m'.who (s.part m)).place m'.cmd = some n := by rw [hm.2.2]; exact h3
  rw [hpl]
  simp only
  rw [if_pos]
  show s.resAt n ≠ m'.res
  rw [h4]
  exact Ne.symm hr
/-- The verdict of a trace without a broken mark, walked: the state behind a prefix. -/
theorem findS_pre {vs : List Int} : ∀ (ms : List MarkD) (s : SrvD) (k : Nat) (ds : List MarkD) (cs : List (CmdD × ResD)), SerI s ds cs → (findS vs s k ms).1 = 0 → ∀ (i : Nat) (h : i < ms.length),
    ∃ (st : SrvD) (cs' : List (CmdD × ResD)), SerI st (ds ++ ms.take i) cs' ∧ (serveS vs st ms[i]).1 = 0 ∧ ∀ m', findS vs s k (ms.set i m') = if (serveS vs st m').1 = 0 then findS vs s k (ms.set i m') else ((serveS vs st m').1, ((k + i : Nat) : Int))
  | [], s, k, ds, cs, h, h0, i, hi => absurd hi (Nat.not_lt_zero i)
  | m :: r, s, k, ds, cs, h, h0, 0, hi => by
    by_cases h1 : (serveS vs s m).1 = 0
    · refine ⟨s, cs, by simpa using h, h1, fun m' => ?_⟩
      split
      · rfl
      · rename_i hb
        show findS vs s k (m' :: r) = _
        rw [findS_hit k r hb]
        rfl
    · rw [findS_hit k _ h1] at h0; exact absurd h0 h1
  | m :: r, s, k, ds, cs, h, h0, i + 1, hi => by
    by_cases h1 : (serveS vs s m).1 = 0
    · rw [findS_miss k _ h1] at h0
      obtain ⟨cs1, h2⟩ := h.next h1
      obtain ⟨st, cs', h3, h4, h5⟩ := findS_pre r (serveS vs s m).2 (k + 1) (ds ++ [m]) cs1 h2 h0 i (by simpa using hi)
      refine ⟨st, cs', by simpa using h3, h4, fun m' => ?_⟩
      have h6 := h5 m'
      show findS vs s k (m :: r.set i m') = if _ then findS vs s k (m :: r.set i m') else _
      rw [findS_miss k _ h1]
      have e : k + 1 + i = k + (i + 1) := by omega
      rw [e] at h6
      exact h6
    · rw [findS_hit k _ h1] at h0; exact absurd h0 h1
/-- P17.7 -/
theorem serial {vs : List Int} {ms : List MarkD} {hs : List CmdD} (h0 : (servD vs ms).1 = 0) (hh : IsHist ms hs) (i : Nat) (hi : i < ms.length) (hk : ms[i].kind = 13) :
    (∃ (j : Nat) (hj : j < hs.length), hs[j] = ms[i].cmd ∧ (runRs newD hs)[j]? = some ms[i].res) ∧
    ∀ m' : MarkD, m'.kind = 13 → m'.who = ms[i].who → m'.cmd = ms[i].cmd → m'.res ≠ ms[i].res → servD vs (ms.set i m') = (28, (i : Int)) := by
  obtain ⟨st, cs, h1, h2, h3⟩ := findS_pre ms srv0 0 [] [] seri0 h0 i hi
  refine ⟨?_, fun m' e1 e2 e3 e4 => ?_⟩
  · obtain ⟨_, _, n, p1, p2, p3⟩ := reply_pass hk h2
    obtain ⟨r, p4⟩ := h1.plc _ n p1
    have p5 := h1.pos n _ p4
    obtain ⟨j, rfl⟩ : ∃ j : Nat, n = (j : Int) + 1 := ⟨(n - 1).toNat, by omega⟩
    have hj : j < cs.length := by rw [h1.len]; omega
    have hlen : cs.length ≤ hs.length := by
      rcases Nat.lt_or_ge hs.length cs.length with hl | hl
      · have hx := h1.ent ((hs.length : Int) + 1)
        rw [h1.sts hs.length hl] at hx
        have hy := hfind_appS (ms.drop i) hx.symm
        rw [List.nil_append, List.take_append_drop, hh.2] at hy
        cases hy
      · exact hl
    have hpre : ∀ (k : Nat) (hk : k < cs.length), hs[k]'(by omega) = cs[k].1 := fun k hk => by
      have hx := h1.ent ((k : Int) + 1)
      rw [h1.sts k hk] at hx
      have hy := hfind_appS (ms.drop i) hx.symm
      rw [List.nil_append, List.take_append_drop, hh.1 k (by omega)] at hy
      exact Option.some.inj hy
    have hspl : hs = cs.map Prod.fst ++ hs.drop cs.length := by
      refine List.ext_getElem (by simp; omega) fun k k1 k2 => ?_
      rw [List.getElem_append]
      split
      · rename_i hk
        simp only [List.length_map] at hk
        simp only [List.getElem_map]
        exact hpre k hk
      · rename_i hk
        simp only [List.length_map] at hk
        simp only [List.getElem_drop, List.length_map]
        congr 1
        omega
    have hcj : cs[j] = (ms[i].cmd, r) := by
      have := h1.sts j hj
      rw [p4] at this
      exact (Option.some.inj this).symm
    refine ⟨j, by omega, by rw [hpre j hj, hcj], ?_⟩
    rw [hspl, runRs_app _ cs newD _ h1.run, List.getElem?_append_left (by simpa using hj), List.getElem?_map, List.getElem?_eq_getElem hj, hcj]
    simp only [Option.map_some, Option.some.injEq]
    rw [← p2]
    unfold SrvD.resAt
    rw [p4]
    rfl
  · have h4 := reply_other hk h2 ⟨e1.trans hk.symm, e2, e3⟩ e4
    unfold servD
    rw [h3 m', h4, if_neg (by decide)]
    simp
end Go.Proofs.YtohnmaindbgngaaGreatDoor
namespace Go.Proofs.YtohnmaindbgngaaGreatDoor
set_option linter.unusedVariables false
set_option linter.unusedSimpArgs false
open Go.RowKit Go.Shelf

/-! ### results -/
def ResD.cellsR (r : ResD) : List Value := [.int .i64 r.code, tx r.val, .int .i64 r.n]
theorem resr_three : ∀ r : ResD, r.cellsR.length = 3 := fun _ => rfl
abbrev rscells (rs : List ResD) : List Value := rcells ResD.cellsR rs
theorem rscells_snoc (rs : List ResD) (d : ResD) : rscells rs ++ d.cellsR = rscells (rs ++ [d]) := by simp [rscells, rcells]
theorem resr_one (x : ResD) : ∀ u ∈ x.cellsR, u.oneCell' = true := by
  intro u hu
  simp only [ResD.cellsR, List.mem_cons, List.not_mem_nil, or_false] at hu
  rcases hu with rfl | rfl | rfl <;> rfl
theorem resr_info : (Tryz.prog.info? 49).map (fun i => (i.zero, i.size, i.bytes)) = some (some (.agg (ResD.cellsR ⟨0, [], 0⟩).toArray), 3, 32) := by kernel_rfl
theorem etRes : ET Tryz.prog 56 49 3 32 (.agg (ResD.cellsR ⟨0, [], 0⟩).toArray) := ⟨Tryz.underlying56, resr_info, rfl, by decide, by decide⟩
set_option maxRecDepth 20000 in
theorem eqcmdS (x y : CmdD) (w : World) : Sem.run Tryz.prog (binOp BinOp.eql 43 (.agg #[.int .i64 x.c, .int .i64 x.i, .int .i64 x.r, .int .i64 x.o, tx x.k, tx x.v, tx x.d]) (.agg #[.int .i64 y.c, .int .i64 y.i, .int .i64 y.r, .int .i64 y.o, tx y.k, tx y.v, tx y.d])) w = .ok (.bool (decide (x = y))) w := by
  by_cases h : x = y
  · subst h
    rw [decide_eq_true rfl]
    go_simp
  · rw [decide_eq_false h]
    rcases cmd_ne h with hb | ⟨e1, hb⟩ | ⟨e1, e2, hb⟩ | ⟨e1, e2, e3, hb⟩ | ⟨e1, e2, e3, e4, hb⟩ | ⟨e1, e2, e3, e4, e5, hb⟩ | ⟨e1, e2, e3, e4, e5, e6, hb⟩
    all_goals go_simp
theorem eqresS (x y : ResD) (w : World) : Sem.run Tryz.prog (binOp BinOp.eql 49 (.agg #[.int .i64 x.code, tx x.val, .int .i64 x.n]) (.agg #[.int .i64 y.code, tx y.val, .int .i64 y.n])) w = .ok (.bool (decide (x = y))) w := by
  by_cases h : x = y
  · subst h
    rw [decide_eq_true rfl]
    go_simp
  · rw [decide_eq_false h]
    rcases res_ne h with hb | ⟨e1, hb⟩ | ⟨e1, e2, hb⟩
    all_goals go_simp

/-! ### among those that were done -/
def fndS (cs : List CmdD) (rs : List ResD) (c : CmdD) (r : ResD) (j : Nat) : Bool := (List.range j).any fun i => decide (cs[i]? = some c) && decide (rs[i]? = some r)
theorem fndS_zero (cs : List CmdD) (rs : List ResD) (c : CmdD) (r : ResD) : fndS cs rs c r 0 = false := rfl
theorem fndS_succ (cs : List CmdD) (rs : List ResD) (c : CmdD) (r : ResD) (j : Nat) (h1 : j < cs.length) (h2 : j < rs.length) : fndS cs rs c r (j + 1) = (fndS cs rs c r j || (decide (cs[j] = c) && decide (rs[j] = r))) := by
  unfold fndS
  rw [List.range_succ, List.any_append]
  simp [List.getElem?_eq_getElem h1, List.getElem?_eq_getElem h2]
theorem fndS_hit {cs : List CmdD} {rs : List ResD} {c : CmdD} {r : ResD} {j : Nat} (h1 : j < cs.length) (h2 : cs[j] = c) (h3 : rs[j]? = some r) : fndS cs rs c r cs.length = true := by
  unfold fndS
  rw [List.any_eq_true]
  exact ⟨j, List.mem_range.2 h1, by simp [List.getElem?_eq_getElem h1, h2, h3]⟩
theorem wrap_next_ne (z : Int) : IntKind.i64.wrap (z + 1) ≠ z := by
  simp only [IntKind.wrap, IntKind.bits, IntKind.signed]
  simp only [Bool.true_and]
  split <;> rename_i h <;> omega
/-- What audit.Service says of the trace with another code in a reply. -/
theorem service_code {vs : List Int} {ds : List MarkD} {cs : List CmdD} {vb : Int} (hv : ((0, vb), 0) = serviceD vs ds) (hh : IsHist ds cs) (i : Nat) (hi : i < ds.length) (hk : ds[i].kind = 13) :
    fndS cs (runRs newD cs) ds[i].cmd ds[i].res cs.length = true ∧ ∀ z : Int, z ≠ ds[i].rc → serviceD vs (ds.set i { ds[i] with rc := z }) = ((28, (i : Int)), 0) := by
  obtain ⟨h1, h2, h3⟩ := serviceD_err hv.symm rfl
  obtain ⟨⟨j, hj, e1, e2⟩, h4⟩ := serial (by rw [h3]) hh i hi hk
  refine ⟨fndS_hit hj e1 e2, fun z hz => ?_⟩
  have h5 := h4 { ds[i] with rc := z } hk rfl rfl (fun e => hz (congrArg ResD.code e))
  rw [serviceD_ok h1 ?_, h5]
  rw [List.all_eq_true] at h2 ⊢
  intro y hy
  rcases List.mem_or_eq_of_mem_set hy with h | rfl
  · exact h2 y h
  · exact h2 ds[i] (List.getElem_mem hi)

/-! ### the machine that does the history -/
structure SerW (w8 wr : World) (v : Value) (k : Nat) (cs : List CmdD) (m : Nat) (F : Nat → Prop) : Prop where
  own : wr.ownsRow w8.heap.size 49 3 v k (rscells (runRs newD (cs.take k)))
  mat : MAtS w8.heap.size wr F m (runSt newD (cs.take k))
  fr : Fresh w8 wr
  ap : ∀ j, F j → v.ownBlock ≠ some j
theorem SerW.start {w8 w9 : World} {m : Nat} {F : Nat → Prop} (cs : List CmdD) (h : MAtS w8.heap.size w9 F m newD) (hf : Fresh w8 w9) : SerW w8 w9 (.slice none 0 0) 0 cs m F :=
  ⟨World.ownsRow_nil _ _ _ _, h, hf, fun j _ e => by simp [Value.ownBlock] at e⟩
theorem SerW.row {w8 wr w1 w2 : World} {v : Value} {k : Nat} {cs : List CmdD} {m : Nat} {F : Nat → Prop} (h : SerW w8 wr v k cs m F) (h1 : Keep (fun j => ¬ F j) wr w1) (h2 : Fresh w1 w2) : w2.ownsRow w8.heap.size 49 3 v k (rscells (runRs newD (cs.take k))) :=
  own_keep (own_keep h.own h1 fun j e hj => h.ap j hj e) h2 fun _ _ => trivial
theorem SerW.step {w8 wr w1 w2 w3 : World} {v v' : Value} {k : Nat} {cs : List CmdD} {m : Nat} {F F' : Nat → Prop} {d : CmdD} {R : ResD} {s' : StD} (h : SerW w8 wr v k cs m F) (hk : k < cs.length) (hd : d = cs[k]) (hR : (R, s') = d.apply (runSt newD (cs.take k)))
    (hm : MAtS w8.heap.size w1 F' m s') (hF : ∀ j, F' j → F j ∨ wr.heap.size ≤ j) (h1 : Keep (fun j => ¬ F j) wr w1) (hf1 : Fresh w8 w1) (h2 : Fresh w1 w2)
    (ho : w3.ownsRow w8.heap.size 49 3 v' (k + 1) (rscells (runRs newD (cs.take k)) ++ R.cellsR)) (h3 : Keep (fun j => v.ownBlock ≠ some j) w2 w3) (hn : Next w2.heap.size v v') : SerW w8 w3 v' (k + 1) cs m F' := by
  have ht : cs.take (k + 1) = cs.take k ++ [d] := by rw [hd]; exact List.take_succ_eq_append_getElem hk
  have hap : ∀ j, F' j → v.ownBlock ≠ some j := fun j hj e => by
    rcases hF j hj with h4 | h4
    · exact h.ap j h4 e
    · have := (own_lt h.own e).2; omega
  refine ⟨?_, ?_, ?_, fun j hj e => ?_⟩
  · rw [ht, runRs_snoc, ← hR, ← rscells_snoc]
    exact ho
  · rw [ht, runSt_snoc, ← hR]
    exact (hm.fresh h2).keep h3 hap
  · exact (hf1.trans h2).comp h3 (fun _ _ h => h) (fun j hj _ e => by have := (own_lt h.own e).1; omega)
  · rcases hn with hn | ⟨g, hg, hl⟩
    · exact hap j hj (hn ▸ e)
    · rw [hg] at e
      injection e with e
      have := hm.hi j hj
      have := h2.size
      omega

/-! ### a copy with another code -/
theorem CopsS.code {w : World} {B B' g cp n : Nat} {ds : List MarkD} {ks : List MkV} (h : CopsS w B (.slice (some ⟨g, 0, none⟩) n cp) n ds ks) (hr : ∀ x ∈ ks, CRow w B' x) {i : Nat} (hi : i < n) (hd : i < ds.length) (z : Int) :
    ∃ ks', CopsS (w.setCell ⟨g, i * 26 + 22, none⟩ (.int .i64 z)) B (.slice (some ⟨g, 0, none⟩) n cp) n (ds.set i { ds[i] with rc := z }) ks' := by
  have hk : i < ks.length := by rw [h.len]; exact hi
  have hx : ks[i] ∈ ks := List.getElem_mem hk
  have hK : Keep (fun k => (Value.slice (some ⟨g, 0, none⟩) n cp).ownBlock ≠ some k) w (w.setCell ⟨g, i * 26 + 22, none⟩ (.int .i64 z)) := (Keep.refl _ w).setCell (fun _ h => h rfl) _
  have hR : ∀ x ∈ ks, MkOk (w.setCell ⟨g, i * 26 + 22, none⟩ (.int .i64 z)) (fun _ => True) x := fun x hx => (crow_appS h.own hK (hr x hx)).ok
  have key : ∀ {p : MkV → Prop}, (∀ x ∈ ks, p x) → p ⟨{ ks[i].d with rc := z }, ks[i].vm, ks[i].vt, ks[i].vb⟩ → ∀ x ∈ ks.set i ⟨{ ks[i].d with rc := z }, ks[i].vm, ks[i].vt, ks[i].vb⟩, p x := fun h1 h2 x hx => by
    rcases List.mem_or_eq_of_mem_set hx with h3 | rfl
    · exact h1 x h3
    · exact h2
  have o := h.one _ hx
  have r := hR _ hx
  have f := h.fit _ hx
  have t := h.ints _ hx
  have c := h.cmds _ hx
  refine ⟨ks.set i ⟨{ ks[i].d with rc := z }, ks[i].vm, ks[i].vt, ks[i].vb⟩, ?_, by rw [List.length_set]; exact h.len, h.le, ?_, key h.one ⟨o.1, o.2.1, o.2.2⟩, key hR ⟨r.m, r.t, r.b⟩, key h.fit ⟨f.m, f.t, f.b, f.nl, f.nh⟩, key h.ints ⟨t.node, t.inc, t.e1, t.e2, t.e3, t.e4, t.sender, t.seq, t.mem⟩, key h.cmds c⟩
  · have h1 := own_set h.own (g := g) (i := i * 26 + 22) rfl (by omega) (.int .i64 z)
    have h2 := rcells_set mk_len ks i hk 22 (.int .i64 z) ⟨{ ks[i].d with rc := z }, ks[i].vm, ks[i].vt, ks[i].vb⟩ (by omega) rfl
    rw [show (mcells ks).set (i * 26 + 22) (.int .i64 z) = mcells (ks.set i ⟨{ ks[i].d with rc := z }, ks[i].vm, ks[i].vt, ks[i].vb⟩) from h2] at h1
    exact h1
  · have e : ds[i] = ks[i].d := by
      have := h.same
      subst this
      simp [dsOf]
    rw [e, ← h.same]
    unfold dsOf
    rw [List.map_set]
/-- Cells of a mark. -/
theorem mk_cells_at {w : World} {b o : Nat} {x : MkV} (h : w.rangeAt b o x.cells) :
    (w.cell? ⟨b, o + 1, none⟩ = some (.int .i64 x.d.kind)) ∧ (w.cell? ⟨b, o + 22, none⟩ = some (.int .i64 x.d.rc) ∧ w.cell? ⟨b, o + 23, none⟩ = some (tx x.d.rv) ∧ w.cell? ⟨b, o + 24, none⟩ = some (.int .i64 x.d.rn)) ∧
    (w.cell? ⟨b, o + 15, none⟩ = some (.int .i64 x.d.cmd.c) ∧ w.cell? ⟨b, o + 16, none⟩ = some (.int .i64 x.d.cmd.i) ∧ w.cell? ⟨b, o + 17, none⟩ = some (.int .i64 x.d.cmd.r) ∧ w.cell? ⟨b, o + 18, none⟩ = some (.int .i64 x.d.cmd.o) ∧ w.cell? ⟨b, o + 19, none⟩ = some (tx x.d.cmd.k) ∧ w.cell? ⟨b, o + 20, none⟩ = some (tx x.d.cmd.v) ∧ w.cell? ⟨b, o + 21, none⟩ = some (tx x.d.cmd.d)) :=
  ⟨h 1 _ rfl, ⟨h 22 _ rfl, h 23 _ rfl, h 24 _ rfl⟩, h 15 _ rfl, h 16 _ rfl, h 17 _ rfl, h 18 _ rfl, h 19 _ rfl, h 20 _ rfl, h 21 _ rfl⟩
theorem cmd_cells_at {w : World} {b o : Nat} {x : CmdD} (h : w.rangeAt b o x.cells) :
    w.cell? ⟨b, o, none⟩ = some (.int .i64 x.c) ∧ w.cell? ⟨b, o + 1, none⟩ = some (.int .i64 x.i) ∧ w.cell? ⟨b, o + 2, none⟩ = some (.int .i64 x.r) ∧ w.cell? ⟨b, o + 3, none⟩ = some (.int .i64 x.o) ∧ w.cell? ⟨b, o + 4, none⟩ = some (tx x.k) ∧ w.cell? ⟨b, o + 5, none⟩ = some (tx x.v) ∧ w.cell? ⟨b, o + 6, none⟩ = some (tx x.d) :=
  ⟨h 0 _ rfl, h 1 _ rfl, h 2 _ rfl, h 3 _ rfl, h 4 _ rfl, h 5 _ rfl, h 6 _ rfl⟩
theorem res_cells_at {w : World} {b o : Nat} {x : ResD} (h : w.rangeAt b o x.cellsR) : w.cell? ⟨b, o, none⟩ = some (.int .i64 x.code) ∧ w.cell? ⟨b, o + 1, none⟩ = some (tx x.val) ∧ w.cell? ⟨b, o + 2, none⟩ = some (.int .i64 x.n) :=
  ⟨h 0 _ rfl, h 1 _ rfl, h 2 _ rfl⟩
theorem range_lt {w : World} {b o : Nat} {v : Value} {cs : List Value} (h : w.rangeAt b o (v :: cs)) : b < w.heap.size := lt_of_cell (h 0 _ rfl)
end Go.Proofs.YtohnmaindbgngaaGreatDoor
