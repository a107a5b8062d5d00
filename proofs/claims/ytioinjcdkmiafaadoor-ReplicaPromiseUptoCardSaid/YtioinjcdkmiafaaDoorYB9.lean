/-
  MERGED: RLocks
-/
import Derived.Test.YtioinjcdkmiafaaDoorYB7
import Derived.Test.YtioinjcdkmiafaaDoorYB8
import Derived.Deep.RegionHeld3
import Derived.RegionCalls
namespace Go.Proofs.YtioinjcdkmiafaaDoor
set_option linter.unusedVariables false
set_option linter.unusedSimpArgs false
open Go.RowKit
open Go.Maps (Keyed)

/-! ### a map that counts -/
theorem kint : Maps.Keyed Tryd.prog 3 := Maps.int_keyed Tryd.underlying3
theorem kkey {z : Int} (h1 : -9223372036854775808 ≤ z) (h2 : z < 9223372036854775808) : keyOf Tryd.prog 3 (.int .i64 z) = some (.int .i64 z) := Maps.keyOf_int_mk Tryd.underlying3 (by simp [Lit.wf, IntKind.min, IntKind.max, IntKind.signed, IntKind.bits]; omega)
structure Cnt (w : World) (b : Nat) (seen : List Int) : Prop where
  ex : ∃ ps, KMap Tryd.prog 3 w b ps ∧ ps.length ≤ seen.length ∧ ∀ c, kfind (.int .i64 c) ps = if c ∈ seen then some (.int .i64 (seen.count c : Int)) else none
theorem Cnt.made (w : World) : Cnt (w.alloc (.map #[] 0)) w.heap.size [] := ⟨[], KMap.made w _ _, by simp, fun c => by simp [kfind]⟩
theorem Cnt.keep {Z : Nat → Prop} {w w' : World} {b : Nat} {seen : List Int} (h : Cnt w b seen) (hk : Keep Z w w') (hz : Z b) : Cnt w' b seen := by
  obtain ⟨ps, h1, h2, h3⟩ := h.ex
  exact ⟨ps, h1.keep hk hz, h2, h3⟩
theorem Cnt.lt {w : World} {b : Nat} {seen : List Int} (h : Cnt w b seen) : b < w.heap.size := by
  obtain ⟨ps, h1, -, -⟩ := h.ex
  exact h1.lt
theorem Cnt.ne_blk {w : World} {b g : Nat} {t : TypeId} {cs : Array Value} {seen : List Int} (h : Cnt w b seen) (hg : Blk w g t cs) : b ≠ g := by
  obtain ⟨ps, h1, -, -⟩ := h.ex
  exact h1.ne_blk hg
theorem run_zero_int (w : World) : (zeroValue 3).run Tryd.prog w = .ok (.int .i64 0) w := by kernel_rfl
theorem Cnt.look {w : World} {b : Nat} {seen : List Int} (h : Cnt w b seen) {c : Int} (h1 : -9223372036854775808 ≤ c) (h2 : c < 9223372036854775808) :
    (Instr.lookup 114 (.map (some b)) (.int .i64 c) false).run Tryd.prog w = .ok (.int .i64 (seen.count c : Int)) w := by
  obtain ⟨ps, hm, -, hf⟩ := h.ex
  have h3 := hm.look kint Tryd.underlying114 (run_zero_int w) (kkey h1 h2)
  rw [hf c] at h3
  by_cases hc : c ∈ seen
  · rw [if_pos hc] at h3
    exact h3
  · rw [if_neg hc] at h3
    rw [List.count_eq_zero_of_not_mem hc]
    exact h3
/-- .. and counts one more. -/
theorem Cnt.up {w' : World} {b : Nat} {seen : List Int} {ps : List Ke} {c : Int} (hl : ps.length ≤ seen.length) (hf : ∀ c, kfind (.int .i64 c) ps = if c ∈ seen then some (.int .i64 (seen.count c : Int)) else none)
    (h : KMap Tryd.prog 3 w' b (kput (.int .i64 c) (.int .i64 ((seen.count c : Int) + 1)) ps)) : Cnt w' b (c :: seen) := by
  refine ⟨_, h, Nat.le_trans (kput_len _ _ _) (by simp; omega), fun d => ?_⟩
  rw [kfind_put]
  by_cases hd : c = d
  · subst hd
    have e : (Lit.int .i64 c).sameKey (Lit.int .i64 c) = true := by simp [Lit.sameKey]
    rw [if_pos e, if_pos (by simp), List.count_cons_self]
    simp
  · have e : ¬ (Lit.int .i64 c).sameKey (Lit.int .i64 d) = true := by simp [Lit.sameKey]; exact hd
    rw [if_neg e, hf d]
    have e2 : (d ∈ c :: seen) ↔ d ∈ seen := by simp; exact fun h => absurd h.symm hd
    by_cases hs : d ∈ seen
    · rw [if_pos hs, if_pos (e2.2 hs), List.count_cons_of_ne hd]
    · rw [if_neg hs, if_neg (fun h => hs (e2.1 h))]

/-! ### plain -/
def rdCl (bs : Txt) (p : Nat) (bad : Bool) : Int × Nat × Bool := (((rCount bs p bad 15).1 : Int), (rCount bs p bad 15).2)
def qchk (seen : List Int) (c : Int) : Bool := !decide (c ∈ seen)
def qnxt (seen : List Int) (c : Int) : List Int := c :: seen
abbrev rQueue (bs : Txt) (h : Nat) (p : Nat) (bad : Bool) : List Int × Nat × Bool := runF (rdCl bs) qchk qnxt (rCount bs p bad 15).1 (rCount bs p bad 15).2.1 (rCount bs p bad 15).2.2 [(h : Int)]
def rdLock (bs : Txt) (tok : Int) (p : Nat) (bad : Bool) : LockD × Nat × Bool :=
  let a := rText bs p bad 8
  let h := rCount bs a.2.1 a.2.2 15
  let t := rCount bs h.2.1 h.2.2 tok
  let r := rQueue bs h.1 t.2.1 t.2.2
  (⟨a.1, (h.1 : Int), (t.1 : Int), r.1⟩, r.2)
def lchk (s : Txt × List Int) (x : LockD) : Bool := bytesBefore s.1 x.name && !decide (x.token = 0) && !decide (x.token ∈ s.2)
def lnxt (s : Txt × List Int) (x : LockD) : Txt × List Int := (x.name, x.token :: s.2)
abbrev rLocks (bs : Txt) (tok : Int) (p : Nat) (bad : Bool) : List LockD × Nat × Bool := runF (rdLock bs tok) lchk lnxt (rCount bs p bad 8).1 (rCount bs p bad 8).2.1 (rCount bs p bad 8).2.2 ([], [])
def lput (x : LockD) (ls : List LockD) : List LockD := match lfind x.name ls with
  | some _ => setK LockD.name x ls
  | none => insK LockD.name x ls
theorem lput_rise {x : LockD} {ls : List LockD} (h : Rise (ls.map LockD.name)) : Rise ((lput x ls).map LockD.name) := by
  unfold lput
  cases hf : lfind x.name ls with
  | some y => simp only; rw [setK_keys]; exact h
  | none => exact insK_rise h (findK_none hf)
theorem lput_len (x : LockD) (ls : List LockD) : (lput x ls).length ≤ ls.length + 1 := by
  unfold lput
  split
  · rw [setK_len]; omega
  · rw [insK_len]; exact Nat.le_refl _
theorem lput_mem {x y : LockD} {ls : List LockD} (h : y ∈ lput x ls) : y = x ∨ y ∈ ls := by
  unfold lput at h
  split at h
  · exact (setK_mem h).imp id fun h => h.1
  · exact insK_mem.1 h
theorem lput_last {x : LockD} {ls : List LockD} (h : ∀ y ∈ ls, bytesBefore y.name x.name = true) : lput x ls = ls ++ [x] := by
  have hn : lfind x.name ls = none := by
    cases hf : lfind x.name ls with
    | none => rfl
    | some y =>
      obtain ⟨e, hy⟩ := findK_some hf
      exact absurd e (before_ne (h y hy))
  unfold lput
  rw [hn]
  clear hn
  induction ls with
  | nil => rfl
  | cons y r ih =>
    have h1 := before_asymm (h y (by simp))
    simp only at ih ⊢
    rw [insK, if_neg (by simp [h1]), ih fun z hz => h z (by simp [hz])]
    rfl
/-- A lock is put into the map, over an elder of its name if there is one. -/
theorem Lks.put {S S' : Nat → Prop} {w w' : World} {bl : Nat} {ms : List LkM} {ls : List LockD} (h : Lks S w bl ms ls) (hr : Rise (ls.map LockD.name)) (x : LkM) (hm : MapIs Tryd.prog 9 w' bl (mput x.d.name (.pointer (some ⟨x.h, 0, none⟩)) (ms.map LkM.kv))) {Z : Nat → Prop} (hk : Keep Z w w') (hz : ∀ j, S j → j ≠ bl → Z j) (hx : LkIs S' w' x) (hs : ∀ j, S j → S' j)
    (hh : w.heap.size ≤ x.h) (hv : ∀ k, x.v.ownBlock = some k → w.heap.size ≤ k) : ∃ ms', Lks S' w' bl ms' (lput x.d ls) := by
  have hrk : Rise (ms.map LkM.key) := by rw [h.keys]; exact hr
  replace hm : MapIs Tryd.prog 9 w' bl (mput (LkM.key x) (LkM.kv x).2 (ms.map LkM.kv)) := hm
  have hold : ∀ y ∈ ms, LkIs S' w' y := fun y hy => by
    have h1 := h.each y hy
    refine (h1.keep hk (hz _ h1.sh ?_) fun k hk2 => hz _ (h1.sv k hk2) ?_).widen hs
    · exact fun e => h.map.ne_blk h1.blk e.symm
    · rintro rfl
      exact h.map.ne_own h1.row hk2
  have hap : ∀ y ∈ ms, LApart y x := fun y hy => by
    have h1 := h.each y hy
    refine ⟨fun e => by have := h1.lt; omega, fun k hk2 e => by have := h1.vlt hk2; have := hv k e; omega⟩
  cases hf : lfind x.d.name ls with
  | none =>
    have hn : ∀ y ∈ ms, LkM.key y ≠ LkM.key x := fun y hy e => by
      have h1 := findK_none hf y.d (by rw [← h.data]; exact List.mem_map.2 ⟨y, hy, rfl⟩)
      exact h1 e
    have e : lput x.d ls = insK LockD.name x.d ls := by unfold lput; rw [hf]
    rw [e]
    refine ⟨insK LkM.key x ms, ?_, fun y hy => ?_, ?_, by rw [insK_data, h.data], hs _ h.sb⟩
    · rw [mput_new (key := LkM.key) (f := LkM.kv) (fun _ => rfl) x ms hn] at hm
      exact hm
    · rcases insK_mem.1 hy with rfl | hy
      · exact hx
      · exact hold y hy
    · have gen : ∀ l : List LkM, l.Pairwise LApart → (∀ y ∈ l, LApart y x) → (insK LkM.key x l).Pairwise LApart := by
        intro l
        induction l with
        | nil => intro _ _; simp [insK]
        | cons y r ih =>
          intro h1 h2
          obtain ⟨a1, a2⟩ := List.pairwise_cons.1 h1
          unfold insK
          split
          · exact List.pairwise_cons.2 ⟨fun z hz => (h2 z hz).symm, h1⟩
          · refine List.pairwise_cons.2 ⟨fun z hz => ?_, ih a2 fun z hz => h2 z (by simp [hz])⟩
            rcases insK_mem.1 hz with rfl | hz
            · exact h2 y (by simp)
            · exact a1 z hz
      exact gen ms h.apart hap
  | some l =>
    obtain ⟨y0, hy0, hd0, hk0, -⟩ := h.find hf
    have e : lput x.d ls = setK LockD.name x.d ls := by unfold lput; rw [hf]
    rw [e]
    refine ⟨setK LkM.key x ms, ?_, fun y hy => ?_, ?_, by rw [setK_data, h.data], hs _ h.sb⟩
    · rw [mput_old (key := LkM.key) (f := LkM.kv) (fun _ => rfl) x ms hrk ⟨y0, hy0, hk0⟩] at hm
      exact hm
    · rcases setK_mem hy with rfl | ⟨hy, -⟩
      · exact hx
      · exact hold y hy
    · unfold setK
      rw [List.pairwise_map]
      have hne : ms.Pairwise fun a b => LkM.key a ≠ LkM.key b := by
        have h1 := hrk.nodup
        rw [List.nodup_iff_pairwise_ne, List.pairwise_map] at h1
        exact h1
      refine (h.apart.and hne).imp_of_mem ?_
      intro a b ha hb hab
      obtain ⟨h3, h4⟩ := hab
      by_cases e1 : LkM.key a = LkM.key x
      · have e2 : LkM.key b ≠ LkM.key x := fun e => h4 (e1.trans e.symm)
        simp only [e1, beq_self_eq_true, if_true, beq_iff_eq, e2, if_false]
        exact (hap b hb).symm
      · by_cases e2 : LkM.key b = LkM.key x
        · simp only [e2, beq_self_eq_true, if_true, beq_iff_eq, e1, if_false]
          exact hap a ha
        · simp only [beq_iff_eq, e1, e2, if_false]
          exact h3

/-! ### the walk -/
theorem kmap_ne_own {P : Program} {k : TypeId} {w : World} {b base e n : Nat} {ps : List Ke} {v : Value} {xs : List Value} (h : KMap P k w b ps) (ho : OwnAt w base e v n xs) : v.ownBlock ≠ some b := by
  rcases ho.2 with ⟨rfl, _⟩ | ⟨g, o, cap, cur, rfl, _, hh, _⟩
  · simp [Value.ownBlock]
  · intro he
    have : g = b := by simpa [Value.ownBlock] using he
    subst this
    exact h.ne_blk (g := g) (t := e) hh rfl
/-- Within the queue's loop. -/
structure RQAt (bs : Txt) (RQ : List Int × Nat × Bool) (cntq j : Nat) (i2 i3 : Int) (g hb th base : Nat) (A : Option Addr) (n c : Nat) (wG wx : World) (v : Value) (pj : Nat) (badj : Bool) (qs seen : List Int) : Prop where
  eq : RQ = (qs ++ (runF (rdCl bs) qchk qnxt (cntq - j) pj badj seen).1, (runF (rdCl bs) qchk qnxt (cntq - j) pj badj seen).2)
  rd : Rdr wx g A n c pj badj
  pn : pj ≤ n
  blk : Blk wx hb 117 #[.int .i64 i2, .int .i64 i3, v]
  row : wx.ownsRow base 3 1 v qs.length (ics qs)
  cn : Cnt wx th seen
  slen : seen.length = j + 1
  qlen : qs.length = j
  safe : ∀ c ∈ qs, 0 ≤ c ∧ c < 16
  keep : Keep (fun i => i ≠ g ∧ i ≠ hb ∧ i ≠ th) wG wx
theorem rq_step {bs : Txt} {RQ : List Int × Nat × Bool} {cntq j : Nat} {i2 i3 : Int} {g hb th base : Nat} {A : Option Addr} {n c : Nat} {wG wx w2 : World} {v v2 : Value} {pj : Nat} {badj : Bool} {qs seen : List Int} {q5 : Nat × Nat × Bool} {i5 : Int} {bad2 : Bool}
    (h : RQAt bs RQ cntq j i2 i3 g hb th base A n c wG wx v pj badj qs seen) (hj : j < cntq) (h5 : q5 = rCount bs pj badj 15) (hi : i5 = (q5.1 : Int)) (hm : (q5.1 : Int) ≤ 15) (hbad : bad2 = (q5.2.2 || decide (i5 ∈ seen))) (hg : Rdr w2 g A n c q5.2.1 bad2) (hp : q5.2.1 ≤ n)
    (hblk : Blk w2 hb 117 #[.int .i64 i2, .int .i64 i3, v2]) (hrow : w2.ownsRow base 3 1 v2 (qs.length + 1) (ics qs ++ [.int .i64 i5])) (hcn : Cnt w2 th (i5 :: seen)) (hk : Keep (fun i => i ≠ g ∧ i ≠ hb ∧ i ≠ th) wG w2) : RQAt bs RQ cntq (j + 1) i2 i3 g hb th base A n c wG w2 v2 q5.2.1 bad2 (qs ++ [i5]) (i5 :: seen) := by
  have hr : rdCl bs pj badj = (i5, q5.2) := by unfold rdCl; rw [← h5, hi]
  refine ⟨?_, hg, hp, hblk, by simpa [ics] using hrow, hcn, by simp [h.slen], by simp [h.qlen], fun d hd => ?_, hk⟩
  · rw [h.eq, show cntq - j = (cntq - (j + 1)) + 1 by omega, runF_succ, hr]
    have e : bad2 = (q5.2.2 || !qchk seen i5) := by rw [hbad]; unfold qchk; simp
    simp only [qnxt, ← e, List.append_assoc, List.singleton_append]
  · rcases List.mem_append.1 hd with hd | hd
    · exact h.safe d hd
    · simp only [List.mem_cons, List.not_mem_nil, or_false] at hd
      rw [hd]
      omega
structure RLAt (bs : Txt) (tok : Int) (R : List LockD × Nat × Bool) (cnt k : Nat) (last : Txt) (S : Nat → Prop) (g bl tb : Nat) (A : Option Addr) (n c : Nat) (w wr : World) (pk : Nat) (badk : Bool) (pre ls : List LockD) (seen : List Int) : Prop where
  eq : R = (pre ++ (runF (rdLock bs tok) lchk lnxt (cnt - k) pk badk (last, seen)).1, (runF (rdLock bs tok) lchk lnxt (cnt - k) pk badk (last, seen)).2)
  rd : Rdr wr g A n c pk badk
  pn : pk ≤ n
  lk : ∃ ms, Lks S wr bl ms ls
  tk : Cnt wr tb seen
  rise : Rise (ls.map LockD.name)
  len : ls.length ≤ k
  slen : seen.length ≤ k
  safe : ∀ l ∈ ls, (0 ≤ l.holder ∧ l.holder < 16) ∧ ∀ c ∈ l.queue, 0 ≤ c ∧ c < 16
  qlen : ∀ l ∈ ls, l.queue.length ≤ 15
  ok : badk = false → ls = pre ∧ ∀ y ∈ pre, y.name = last ∨ bytesBefore y.name last = true
  keep : Keep (fun j => j ≠ g ∧ j ≠ bl) w wr

theorem rCount_stick {bs : Txt} {p : Nat} {bad : Bool} {most : Int} (h : (rCount bs p bad most).2.2 = false) : bad = false := by
  cases bad with
  | false => rfl
  | true =>
    unfold rCount at h
    rw [if_pos (.inl rfl)] at h
    cases h
theorem rText_stick {bs : Txt} {p : Nat} {bad : Bool} {most : Int} (h : (rText bs p bad most).2.2 = false) : bad = false := by
  unfold rText at h
  split at h
  · cases h
  · rename_i h1
    refine rCount_stick (bs := bs) (p := p) (most := most) ?_
    rcases hh : (rCount bs p bad most).2.2 with _ | _
    · rfl
    · exact absurd (.inl hh) h1
theorem rQueue_stick {bs : Txt} {h p : Nat} {bad : Bool} (hf : (rQueue bs h p bad).2.2 = false) : bad = false := by
  rcases hb : (rCount bs p bad 15).2.2 with _ | _
  · exact rCount_stick hb
  · unfold rQueue at hf
    rw [hb] at hf
    have h1 := runF_bad (rd := rdCl bs) (chk := qchk) (nxt := qnxt) (fun p => by
      rcases hx : (rdCl bs p true).2.2 with _ | _
      · exact absurd (rCount_stick (bs := bs) (p := p) (most := 15) hx) (by simp)
      · rfl) (rCount bs p bad 15).1 (rCount bs p bad 15).2.1 [(h : Int)]
    rw [h1] at hf
    cases hf
theorem rdLock_stick {bs : Txt} {tok : Int} {p : Nat} {bad : Bool} (h : (rdLock bs tok p bad).2.2 = false) : bad = false :=
  rText_stick (rCount_stick (rCount_stick (rQueue_stick h)))
/-- One lock more. -/
theorem rl_step {bs : Txt} {tok : Int} {R : List LockD × Nat × Bool} {cnt k : Nat} {last : Txt} {S : Nat → Prop} {g bl tb : Nat} {A : Option Addr} {n c : Nat} {w wr w2 : World} {pk : Nat} {badk : Bool} {pre ls : List LockD} {seen : List Int}
    (h : RLAt bs tok R cnt k last S g bl tb A n c w wr pk badk pre ls seen) (hk : k < cnt) (x : LockD) {pj : Nat} {badj bad2 : Bool} (hx : rdLock bs tok pk badk = (x, pj, badj)) (hb : bad2 = (badj || !lchk (last, seen) x)) (hg : Rdr w2 g A n c pj bad2) (hp : pj ≤ n) (hl : ∃ ms, Lks S w2 bl ms (lput x ls))
    (ht : Cnt w2 tb (x.token :: seen)) (hs : (0 ≤ x.holder ∧ x.holder < 16) ∧ ∀ c ∈ x.queue, 0 ≤ c ∧ c < 16) (hql : x.queue.length ≤ 15) (hkw : Keep (fun j => j ≠ g ∧ j ≠ bl) w w2) :
    RLAt bs tok R cnt (k + 1) x.name S g bl tb A n c w w2 pj bad2 (pre ++ [x]) (lput x ls) (x.token :: seen) := by
  refine ⟨?_, hg, hp, hl, ht, lput_rise h.rise, Nat.le_trans (lput_len x ls) (by have := h.len; omega), by have := h.slen; simp; omega, fun l hm => ?_, fun l hm => ?_, fun hf => ?_, hkw⟩
  · rw [h.eq, show cnt - k = (cnt - (k + 1)) + 1 by omega, runF_succ, hx]
    simp only [← hb, lnxt, List.append_assoc, List.singleton_append]
  · rcases lput_mem hm with rfl | hm
    · exact hs
    · exact h.safe l hm
  · rcases lput_mem hm with rfl | hm
    · exact hql
    · exact h.qlen l hm
  · rw [hb, Bool.or_eq_false_iff] at hf
    have hbk : badk = false := rdLock_stick (bs := bs) (tok := tok) (p := pk) (by rw [hx]; exact hf.1)
    have hc : lchk (last, seen) x = true := by simpa using hf.2
    unfold lchk at hc
    rw [Bool.and_eq_true, Bool.and_eq_true] at hc
    have hlt := hc.1.1
    simp only at hlt
    obtain ⟨e3, h4⟩ := h.ok hbk
    have hall : ∀ y ∈ pre, bytesBefore y.name x.name = true := fun y hy => by
      rcases h4 y hy with e | e
      · rw [e]; exact hlt
      · exact before_trans e hlt
    refine ⟨by rw [e3]; exact lput_last hall, fun y hy => ?_⟩
    rcases List.mem_append.1 hy with hy | hy
    · exact .inr (hall y hy)
    · simp only [List.mem_cons, List.not_mem_nil, or_false] at hy
      rw [hy]
      exact .inl rfl
def RLPost (R : List LockD × Nat × Bool) (g bl : Nat) (A : Option Addr) (n c : Nat) (w : World) (e : Ending) (w' : World) : Prop :=
  e = .returned (.tuple #[]) ∧ (∃ (S : Nat → Prop) (ms : List LkM) (ls : List LockD), Lks S w' bl ms ls ∧ (∀ j, S j → j = bl ∨ w.heap.size ≤ j) ∧ Rise (ls.map LockD.name) ∧ ls.length ≤ 8 ∧ (∀ l ∈ ls, (0 ≤ l.holder ∧ l.holder < 16) ∧ ∀ c ∈ l.queue, 0 ≤ c ∧ c < 16) ∧ (∀ l ∈ ls, l.queue.length ≤ 15) ∧ (R.2.2 = false → ls = R.1)) ∧
    Rdr w' g A n c R.2.1 R.2.2 ∧ R.2.1 ≤ n ∧ Keep (fun j => j ≠ g ∧ j ≠ bl) w w'

set_option maxRecDepth 20000 in
set_option maxHeartbeats 4000000 in
theorem rlocks_any (m g bl : Nat) (tok : Int) (Z : Nat → Prop) (A : Option Addr) (n c : Nat) (bs : Txt) (p : Nat) (bad : Bool) (w : World) (h1 : w.cell? ⟨m, 1, none⟩ = some (.map (some bl))) (h2 : w.cell? ⟨m, 2, none⟩ = some (.int .i64 tok)) (ht0 : 0 ≤ tok) (ht1 : tok ≤ 99999999) (hmg : m ≠ g) (hmb : m ≠ bl) (hmp : MapIs Tryd.prog 9 w bl []) (hg : Rdr w g A n c p bad) (hz : ∀ k, Z k → k ≠ g ∧ k ≠ bl) (hp : p ≤ n) (hnc : n ≤ c) (hb : Rd w Z 1 A n (Lib.byteCells bs)) (hn : n ≤ 1099511627770) :
    Calls Tryd.prog 37 #[.pointer (some ⟨m, 0, none⟩), .pointer (some ⟨g, 0, none⟩)] w (RLPost (rLocks bs tok p bad) g bl A n c w) := by
  have hlen : bs.length = n := by simpa [Lib.byteCells] using hb.1
  obtain ⟨R, hR⟩ : ∃ R, R = rLocks bs tok p bad := ⟨_, rfl⟩
  rw [← hR]
  have hbg : bl ≠ g := hmp.ne_blk hg
  have hmm := @run_makeMap Tryd.prog
  obtain ⟨W, hW⟩ : ∃ W, W = w.alloc (.map #[] 0) := ⟨_, rfl⟩
  obtain ⟨tb, htb⟩ : ∃ tb, tb = w.heap.size := ⟨_, rfl⟩
  have hf : Fresh w W := hW ▸ (Keep.refl _ w).alloc _
  have hcn : Cnt W tb [] := by rw [hW, htb]; exact Cnt.made w
  have hgW := hg.keep hf trivial
  have HC := Lib.hid (rcount_any g Z A n c bs p bad 8 W hgW hp (hb.keep (hf.weaken fun _ _ _ => trivial)) hn)
  have hle := rCount_le bs p bad 8 (by omega)
  have hmost := rCount_most bs p bad (most := 8) (by omega)
  unfold rLocks at hR
  generalize rCount bs p bad 8 = q at HC hR hle hmost
  obtain ⟨cnt, p1, bad1⟩ := q
  simp only at HC hR hle hmost
  have hmlw := lt_of_cell h1
  have hblw := hmp.lt
  have hglw := hg.lt
  have H0 := Lib.hid (And.intro h1 h2)
  have HB := Lib.hid (And.intro hb (And.intro hz (And.intro hmp (And.intro hR (And.intro hlen (And.intro hf (And.intro hcn htb)))))))
  have hml := Nat.lt_of_lt_of_le hmlw hf.size
  clear hb hz hmp hR hg hlen h1 h2 hcn hgW
  go_enter Tryd.func37, Tryd.ntmps37
  go_upto_region 2 with (fail)
  simp only [← htb]
  rw [← hW]
  clear hW htb hmm hf
  go_wp2_with fail
  refine Calls.mono HC.out ?_
  rintro e w1 ⟨rfl, hg1, hk1⟩
  have H1 := Lib.hid (And.intro hg1 hk1)
  have hml1 := Nat.lt_of_lt_of_le hml hk1.size
  clear hg1 hk1 HC hml
  obtain ⟨S, hS⟩ : ∃ S : Nat → Prop, S = fun j => j = bl ∨ (w.heap.size ≤ j ∧ j ≠ tb) := ⟨_, rfl⟩
  have htbw : tb = w.heap.size := HB.out.2.2.2.2.2.2.2
  have hSg : ∀ j, S j → j ≠ g ∧ j ≠ tb := fun j hj => by
    rw [hS] at hj
    rcases hj with rfl | h
    · exact ⟨hbg, by omega⟩
    · exact ⟨by omega, h.2⟩
  have HS := Lib.hid (And.intro hS (And.intro hSg htbw))
  clear hS hSg htbw
  go_wp2_with fail
  go_loopw [4, 13] (fun l i wr => ∃ (k : Nat) (last : Txt), k ≤ cnt ∧ i = .int .i64 (k : Int) ∧ l = str last ∧ Hid (∃ pk badk pre ls seen, RLAt bs tok R cnt k last S g bl tb A n c w wr pk badk pre ls seen)) (fun _ i _ => cnt - (intOf i).toNat)
  case atStart =>
    obtain ⟨hb, hz, hmp, hR, hlen, hf, hcn, htb⟩ := HB.out
    obtain ⟨hg1, hk1⟩ := H1.out
    refine ⟨0, [], by omega, rfl, rfl, Lib.hid ⟨p1, bad1, [], [], [], ⟨by rw [hR]; rfl, hg1, by omega, ⟨[], ?_⟩, hcn.keep hk1 (by omega), by simp [Rise], by simp, by simp, by simp, by simp, fun _ => ⟨rfl, by simp⟩, hf.comp hk1 (fun _ _ _ => trivial) (fun _ _ h => h.1)⟩⟩⟩
    exact ⟨(hmp.keep hf trivial).keep hk1 hbg, (fun x hx => by cases hx), List.Pairwise.nil, rfl, by rw [HS.out.1]; exact .inl rfl⟩
  case round =>
    rename World => wr
    obtain ⟨k, last, hk, rfl, rfl, HR⟩ := hrel
    obtain ⟨pk, badk, pre, ls, seen, hat⟩ := HR.out
    have HA := Lib.hid hat
    clear hat HR
    by_cases hlt : k < cnt
    · have hbw := HB.out.1.keep (HA.out.keep.weaken fun j _ h => HB.out.2.1 j h)
      have HT1 := Lib.hid (rtext_any g Z A n c bs pk badk 8 wr HA.out.rd (fun j h => (HB.out.2.1 j h).1) HA.out.pn hnc hbw hn)
      have hl1 := rText_le bs pk badk 8 (by have := HB.out.2.2.2.2.1; have := HA.out.pn; omega)
      have hn1 := rText_len bs pk badk (most := 8) (by omega)
      obtain ⟨q1, hq1⟩ : ∃ q1, q1 = rText bs pk badk 8 := ⟨_, rfl⟩
      rw [← hq1] at HT1 hl1 hn1
      have HQ1 := Lib.hid hq1
      clear hq1 hbw
      go_wp2_with fail
      refine Calls.mono HT1.out ?_
      rintro e wA ⟨rfl, hgA, hkA⟩
      have hkWA : Keep (fun j => j ≠ g ∧ j ≠ bl) w wA := HA.out.keep.comp hkA (fun _ _ h => h) (fun _ _ h => h.1)
      have x2 := hkWA.cellAt H0.out.2 ⟨hmg, hmb⟩
      have hbwA : ∀ wx, Keep (fun j => j ≠ g) wA wx → Rd wx Z 1 A n (Lib.byteCells bs) := fun wx hk => HB.out.1.keep ((hkWA.weaken fun j _ h => HB.out.2.1 j h).comp hk (fun _ _ h => h) (fun j _ h => (HB.out.2.1 j h).1))
      have hlq : q1.2.1 ≤ n := by have := HB.out.2.2.2.2.1; omega
      have HC1 := Lib.hid (rcount_any g Z A n c bs q1.2.1 q1.2.2 15 (World.drew wA) (hgA.keep (Z := fun _ => True) ((Keep.refl _ wA).drew) trivial) hlq (hbwA _ ((Keep.refl _ wA).drew)) hn)
      have hl2 := rCount_le bs q1.2.1 q1.2.2 15 (by have := HB.out.2.2.2.2.1; omega)
      have hm2 := rCount_most bs q1.2.1 q1.2.2 (most := 15) (by omega)
      obtain ⟨q2, hq2⟩ : ∃ q2, q2 = rCount bs q1.2.1 q1.2.2 15 := ⟨_, rfl⟩
      rw [← hq2] at HC1 hl2 hm2
      have hlq2 : q2.2.1 ≤ n := by have := HB.out.2.2.2.2.1; omega
      have HC2 := Lib.hid (fun wB (hgB : Rdr wB g A n c q2.2.1 q2.2.2) (hkB : Keep (fun j => j ≠ g) (World.drew wA) wB) => rcount_any g Z A n c bs q2.2.1 q2.2.2 tok wB hgB hlq2 (hbwA _ (((Keep.refl _ wA).drew).trans hkB)) hn)
      have hl3 := rCount_le bs q2.2.1 q2.2.2 tok (by have := HB.out.2.2.2.2.1; omega)
      have hm3 := rCount_most bs q2.2.1 q2.2.2 (most := tok) ht0
      obtain ⟨q3, hq3⟩ : ∃ q3, q3 = rCount bs q2.2.1 q2.2.2 tok := ⟨_, rfl⟩
      rw [← hq3] at HC2 hl3 hm3
      have HX2 := Lib.hid (fun wx (hk : Keep (fun j => j ≠ g) wA wx) => hk.cellAt x2 hmg)
      have HQ := Lib.hid (And.intro hq2 (And.intro hq3 (And.intro hkA hkWA)))
      have hmlA := lt_of_cell x2
      clear hq2 hq3 hkWA hbwA hgA hkA HT1
      go_upto_region 5 with (fail)
      go_region_held3 (fun w' => w'.cell? ⟨m, 2, none⟩ = some (.int .i64 tok))
        (first | exact HX2.out _ ((Keep.refl _ wA).drew) | exact HX2.out _ (((Keep.refl _ wA).drew).trans hkB) | exact HX2.out _ ((((Keep.refl _ wA).drew).trans hkB).trans hkC) | exact HX2.out _ (((((Keep.refl _ wA).drew).trans hkB).trans hkC).alloc _))
        (first
          | (go_at_call 35; have hcc := HC1.out; (with_reducible refine Calls.mono hcc ?_); clear hcc; rintro e wB ⟨rfl, hgB, hkB⟩)
          | (go_at_call 35; have hcc := HC2.out _ hgB hkB; (with_reducible refine Calls.mono hcc ?_); clear hcc; rintro e wC ⟨rfl, hgC, hkC⟩))
      obtain ⟨hb, hhb⟩ : ∃ hb, hb = wC.heap.size := ⟨_, rfl⟩
      obtain ⟨wD, hwD⟩ : ∃ wD, wD = wC.alloc (.cells #[.int .i64 (q2.1 : Int), .int .i64 (q3.1 : Int), .slice none 0 0] 117) := ⟨_, rfl⟩
      rw [← hhb, ← hwD]
      have hkCD : Fresh wC wD := hwD ▸ (Keep.refl _ wC).alloc _
      have hkAD : Keep (fun j => j ≠ g) wA wD := ((((Keep.refl _ wA).drew).trans hkB).trans hkC).comp hkCD (fun _ _ h => h) (fun _ _ _ => trivial)
      have hblk : Blk wD hb 117 #[.int .i64 (q2.1 : Int), .int .i64 (q3.1 : Int), .slice none 0 0] := by rw [hwD, hhb]; exact Blk.new _ _ _
      have hgD := hgC.keep hkCD trivial
      have hkrD : Keep (fun j => j ≠ g) wr wD := HQ.out.2.2.1.trans hkAD
      have htbg : tb ≠ g := by have := HS.out.2.2; omega
      have hcD := HA.out.tk.keep hkrD htbg
      have htbD := hcD.lt
      obtain ⟨pst, hkm, hpl, hpf⟩ := hcD.ex
      have hsl := HA.out.slen
      obtain ⟨sc, hsc⟩ : ∃ sc, sc = seen.count ((q3.1 : Nat) : Int) := ⟨_, rfl⟩
      have hsc8 : sc ≤ 8 := by rw [hsc]; have := List.count_le_length (a := ((q3.1 : Nat) : Int)) (l := seen); omega
      have hlk := hcD.look (c := ((q3.1 : Nat) : Int)) (by omega) (by omega)
      rw [← hsc] at hlk
      have y0 := hblk.cell 0
      have y1 := hblk.cell 1
      simp at y0 y1
      have hbl' := hblk.lt
      have hbD : wr.heap.size ≤ hb := by rw [hhb]; exact Nat.le_trans HQ.out.2.2.1.size ((((Keep.refl _ wA).drew).trans hkB).trans hkC).size
      have hhtb : hb ≠ tb := by have := HA.out.tk.lt; omega
      obtain ⟨i2, hi2⟩ : ∃ i : Int, i = (q2.1 : Int) := ⟨_, rfl⟩
      obtain ⟨i3, hi3⟩ : ∃ i : Int, i = (q3.1 : Int) := ⟨_, rfl⟩
      rw [← hi2] at y0
      rw [← hi3] at y1 hlk
      rw [← hi2, ← hi3]
      have b20 : 0 ≤ i2 := by omega
      have b21 : i2 ≤ 15 := by omega
      have b30 : 0 ≤ i3 := by omega
      have b31 : i3 ≤ 99999999 := by omega
      have HD := Lib.hid (And.intro hkrD (And.intro hblk (And.intro hgD (And.intro hkm (And.intro hpl (And.intro hpf (And.intro hsc (And.intro hi2 (And.intro hi3 (And.intro hhb hbD))))))))))
      clear hwD hkCD hkAD hblk hgD hkrD hcD hkm hpl hpf hsc hi2 hi3 hhb hgB hkB hgC hkC HC1 HC2 HX2 x2 hsl
      go_upto_region 6 with (fail)
      go_wp2_with (at_mapUpdate; refine wpList_kstore rfl (.tmp 27) (.tmp 31) (.tmp 33) rfl kint Tryd.underlying114 rfl HD.out.2.2.2.1 (by have := HD.out.2.2.2.2.1; have := HA.out.slen; simp only [maxLen]; omega) (kkey (z := i3) (by omega) (by omega)) rfl (.int .i64 ((sc : Int) + 1)) rfl ?_)
      intro wE hcE hkE
      have hcE' : Cnt wE tb (i3 :: seen) := by
        refine Cnt.up HD.out.2.2.2.2.1 HD.out.2.2.2.2.2.1 ?_
        rw [HD.out.2.2.2.2.2.2.2.2.1, ← HD.out.2.2.2.2.2.2.1, ← HD.out.2.2.2.2.2.2.2.2.1]
        exact hcE
      have z0 := hkE.cellAt y0 hhtb
      have z1 := hkE.cellAt y1 hhtb
      have hbE := Nat.lt_of_lt_of_le hbl' hkE.size
      have HE := Lib.hid (And.intro hcE' hkE)
      have hmm := @run_makeMap Tryd.prog
      obtain ⟨th, hth⟩ : ∃ th, th = wE.heap.size := ⟨_, rfl⟩
      obtain ⟨wF, hwF⟩ : ∃ wF, wF = wE.alloc (.map #[] 0) := ⟨_, rfl⟩
      have hfF : Fresh wE wF := hwF ▸ (Keep.refl _ wE).alloc _
      have hcF : Cnt wF th [] := by rw [hwF, hth]; exact Cnt.made wE
      obtain ⟨psf, hkf, hlf, hff⟩ := hcF.ex
      obtain ⟨wG, hins, hkG, hkFG⟩ := hkf.store kint Tryd.underlying114 (by have h0 : psf.length = 0 := (by simpa using hlf); rw [h0]; decide) (kkey (z := i2) (by omega) (by omega)) (.int .i64 1)
      have hcG : Cnt wG th [i2] := Cnt.up hlf hff (by simpa using hkG)
      have w0 := hfF.cellAt z0 trivial
      rw [hwF] at hins w0
      rw [hth] at hins
      have HG := Lib.hid (And.intro hcG (And.intro hkFG (And.intro hfF hth)))
      clear hcE hcE' hkE hcF hkf hlf hff hkG hkFG hcG hfF y0 y1 hlk hbl' hth
      go_upto_region 8 with (fail)
      rw [← HG.out.2.2.2]
      have htbg := htbg
      have hmlG : g < wG.heap.size := by have := HE.out.2.size; have := HG.out.2.2.1.size; have := HG.out.2.1.size; have := HD.out.2.2.1.lt; omega
      have hgth : g ≠ th := by rw [HG.out.2.2.2]; have := HE.out.2.size; have := HD.out.2.2.1.lt; omega
      have hhth : hb ≠ th := by rw [HG.out.2.2.2]; have := HE.out.2.size; have := HD.out.2.1.lt; omega
      have hthtb : th ≠ tb := by rw [HG.out.2.2.2]; have := HE.out.1.lt; omega
      have hghb : g ≠ hb := fun e => Blk.ne HD.out.2.2.1 HD.out.2.1 (by decide) e
      have hkDG : Keep (fun j => j ≠ tb) wD wG := (HE.out.2.comp HG.out.2.2.1 (fun _ _ h => h) (fun _ _ _ => trivial)).comp HG.out.2.1 (fun _ _ h => h) (fun j hj _ e => by rw [HG.out.2.2.2] at e; have := HE.out.2.size; omega)
      have hgG := HD.out.2.2.1.keep hkDG (fun e => htbg e.symm)
      have hblkG := HD.out.2.1.keep hkDG hhtb
      have hkWG : Keep (fun j => j ≠ g ∧ j ≠ tb) wr wG := HD.out.1.comp hkDG (fun _ _ h => h.1) (fun _ _ h => h.2)
      have hkwG : Keep (fun j => j ≠ g ∧ j ≠ bl) w wG := HA.out.keep.comp hkWG (fun _ _ h => h) (fun j hj h => ⟨h.1, by have := HS.out.2.2; omega⟩)
      have hlq3 : q3.2.1 ≤ n := by have := HB.out.2.2.2.2.1; omega
      have hbwG : Rd wG Z 1 A n (Lib.byteCells bs) := HB.out.1.keep (hkwG.weaken fun j _ h => HB.out.2.1 j h)
      have HC4 := Lib.hid (rcount_any g Z A n c bs q3.2.1 q3.2.2 15 wG hgG hlq3 hbwG hn)
      have hl4 := rCount_le bs q3.2.1 q3.2.2 15 (by have := HB.out.2.2.2.2.1; omega)
      have hm4 := rCount_most bs q3.2.1 q3.2.2 (most := 15) (by omega)
      obtain ⟨q4, hq4⟩ : ∃ q4, q4 = rCount bs q3.2.1 q3.2.2 15 := ⟨_, rfl⟩
      rw [← hq4] at HC4 hl4 hm4
      obtain ⟨RQ, hRQ⟩ : ∃ RQ, RQ = rQueue bs q2.1 q3.2.1 q3.2.2 := ⟨_, rfl⟩
      have hRQ2 := hRQ
      unfold rQueue at hRQ2
      rw [← hq4] at hRQ2
      have HG2 := Lib.hid (And.intro hblkG (And.intro hkWG (And.intro hkwG (And.intro hq4 (And.intro hRQ hRQ2)))))
      clear hkDG hgG hblkG hkWG hkwG hbwG hq4 hRQ hRQ2 hins w0 z0 z1 hmm hwF hbE
      go_wp2_with fail
      refine Calls.mono HC4.out ?_
      rintro e wH ⟨rfl, hgH, hkH⟩
      have hblkH := HG2.out.1.keep hkH hghb.symm
      have hcH := HG.out.1.keep hkH hgth.symm
      have HH := Lib.hid (And.intro hgH (And.intro hkH (And.intro hblkH hcH)))
      have hglH := hgH.lt
      have hbH := hblkH.lt
      clear hgH hkH hblkH hcH HC4
      go_wp2_with fail
      go_loopw [42] (fun i wx => ∃ (j : Nat), j ≤ q4.1 ∧ i = .int .i64 (j : Int) ∧ Hid (∃ v pj badj qs seenq, RQAt bs RQ q4.1 j i2 i3 g hb th wH.heap.size A n c wH wx v pj badj qs seenq)) (fun i _ => q4.1 - (intOf i).toNat)
      case atStart =>
        refine ⟨0, by omega, rfl, Lib.hid ⟨_, q4.2.1, q4.2.2, [], [i2], ⟨?_, HH.out.1, by have := HB.out.2.2.2.2.1; omega, by have h := HH.out.2.2.1; rw [← HD.out.2.2.2.2.2.2.2.1, ← HD.out.2.2.2.2.2.2.2.2.1] at h; exact h, by exact World.ownsRow_nil _ _ _ _, HH.out.2.2.2, rfl, rfl, by simp, Keep.refl _ _⟩⟩⟩
        rw [HG2.out.2.2.2.2.2, HD.out.2.2.2.2.2.2.2.1]
        rfl
      case round =>
        rename World => wx
        obtain ⟨j, hj, rfl, HRQ⟩ := hrel
        obtain ⟨v, pj, badj, qs, seenq, hqa⟩ := HRQ.out
        have HQA := Lib.hid hqa
        clear hqa HRQ
        by_cases hjl : j < q4.1
        · have hkwx : Keep (fun j => j ≠ g ∧ j ≠ bl) w wx := (HG2.out.2.2.1.comp HH.out.2.1 (fun _ _ h => h) (fun _ _ h => h.1)).comp HQA.out.keep (fun _ _ h => h) (fun i hi h => ⟨h.1, by have := HD.out.2.2.2.2.2.2.2.2.2.2; have := HA.out.keep.size; omega, by have := HG.out.2.2.2; have := HD.out.2.1.lt; have := HE.out.2.size; have := HD.out.2.2.2.2.2.2.2.2.2.2; have := HA.out.keep.size; omega⟩)
          have hbwx := HB.out.1.keep (hkwx.weaken fun i _ h => HB.out.2.1 i h)
          have HC5 := Lib.hid (rcount_any g Z A n c bs pj badj 15 wx HQA.out.rd HQA.out.pn hbwx hn)
          have hl5 := rCount_le bs pj badj 15 (by have := HB.out.2.2.2.2.1; have := HQA.out.pn; omega)
          have hm5 := rCount_most bs pj badj (most := 15) (by omega)
          obtain ⟨q5, hq5⟩ : ∃ q5, q5 = rCount bs pj badj 15 := ⟨_, rfl⟩
          rw [← hq5] at HC5 hl5 hm5
          have HQ5 := Lib.hid hq5
          clear hq5 hkwx hbwx
          go_wp2_with fail
          refine Calls.mono HC5.out ?_
          rintro e wy ⟨rfl, hgy, hky⟩
          have hcy := HQA.out.cn.keep hky hgth.symm
          have hby := HQA.out.blk.keep hky hghb.symm
          have hoy : wy.ownsRow wH.heap.size 3 1 v qs.length (ics qs) := own_keep HQA.out.row hky fun i hi e => own_ne_blk HQA.out.row HQA.out.rd (by decide) (by rw [← e]; exact hi)
          obtain ⟨psq, hkq, hplq, hpfq⟩ := hcy.ex
          obtain ⟨i5, hi5⟩ : ∃ i : Int, i = (q5.1 : Int) := ⟨_, rfl⟩
          have b50 : 0 ≤ i5 := by omega
          have b51 : i5 ≤ 15 := by omega
          rw [← hi5]
          have hlk := hcy.look (c := i5) (by omega) (by omega)
          obtain ⟨sq, hsq⟩ : ∃ sq, sq = seenq.count i5 := ⟨_, rfl⟩
          rw [← hsq] at hlk
          have hsq16 : sq ≤ 16 := by rw [hsq]; have := List.count_le_length (a := i5) (l := seenq); have := HQA.out.slen; omega
          have hslq := HQA.out.slen
          have HY := Lib.hid (And.intro hgy (And.intro hky (And.intro hby (And.intro hoy (And.intro hkq (And.intro hplq (And.intro hpfq (And.intro hi5 hsq))))))))
          have hgly := hgy.lt
          have hbly := hby.lt
          clear hgy hky hcy hby hoy hkq hplq hpfq hi5 hsq HC5
          go_wp2_with (at_mapUpdate; refine wpList_kstore rfl (.tmp 46) (.tmp 47) (.tmp 49) rfl kint Tryd.underlying114 rfl HY.out.2.2.2.2.1 (by have := HY.out.2.2.2.2.2.1; simp only [maxLen]; omega) (kkey (z := i5) (by omega) (by omega)) rfl (.int .i64 ((sq : Int) + 1)) rfl ?_)
          intro wz hcz hkz
          have hcz' : Cnt wz th (i5 :: seenq) := by
            refine Cnt.up HY.out.2.2.2.2.2.1 HY.out.2.2.2.2.2.2.1 ?_
            rw [← HY.out.2.2.2.2.2.2.2.2]
            exact hcz
          have hbz := HY.out.2.2.1.keep hkz hhth
          have y2 := hbz.cell 2
          simp at y2
          have hblz := hbz.lt
          have hoz : wz.ownsRow wH.heap.size 3 1 v qs.length (ics qs) := own_keep HY.out.2.2.2.1 hkz fun i hi e => by
            obtain ⟨ps2, hk2, -, -⟩ := HQA.out.cn.ex
            exact kmap_ne_own hk2 (OwnAt.of_own HQA.out.row) (by rw [← e]; exact hi)
          have hq4b : q4.1 ≤ 15 := by omega
          have HZ := Lib.hid (And.intro hcz' (And.intro hkz (And.intro hbz hoz)))
          have hqlen : qs.length ≤ 15 := by have := HQA.out.qlen; omega
          have hbase : wH.heap.size ≤ wz.heap.size := by have := HQA.out.keep.size; have := HY.out.2.1.size; have := HZ.out.2.1.size; omega
          clear hcz hcz' hkz hbz hoz hlk
          go_wp2_with (at_builtin; refine wpList_app1 etInt2 rfl (.tmp 54) (.tmp 56) rfl (.int .i64 i5) _ rfl wH.heap.size _ qs.length (ics qs) rfl rfl HZ.out.2.2.2 (by omega) hbase ?_)
          intro v2 wu hou hku hnu
          have hvh : v.ownBlock ≠ some hb := own_ne_blk HZ.out.2.2.2 HZ.out.2.2.1 (by decide)
          have hvg : v.ownBlock ≠ some g := own_ne_blk HQA.out.row HQA.out.rd (by decide)
          have hvt : v.ownBlock ≠ some th := by obtain ⟨ps2, hk2, -, -⟩ := HQA.out.cn.ex; exact kmap_ne_own hk2 (OwnAt.of_own HQA.out.row)
          have hbu := HZ.out.2.2.1.keep hku hvh
          have hsz : th < wz.heap.size := HZ.out.1.lt
          obtain ⟨Au, cu, hv2, -⟩ := own_rd hou
          have u2 := hbu.cell 2
          simp at u2
          have uf := hbu.frozen 2
          have ul := hbu.lt
          have hgu := (HY.out.1.keep HZ.out.2.1 hgth).keep hku hvg
          have hcu := HZ.out.1.keep hku hvt
          have hv2h : v2.ownBlock ≠ some hb := by
            rcases hnu with e | ⟨b, hb2, hle⟩
            · rw [e]; exact hvh
            · rw [hb2]; intro e; injection e with e; have := HZ.out.2.2.1.lt; omega
          subst hv2
          have HU := Lib.hid (And.intro hou (And.intro hku (And.intro hbu (And.intro hgu (And.intro hcu (And.intro hnu hv2h))))))
          clear hou hku hnu hvh hvg hvt hbu hgu hcu hv2h y2
          go_upto_region 13 with (fail)
          obtain ⟨V2, hV2⟩ : ∃ V, V = Value.slice Au (qs.length + 1) cu := ⟨_, rfl⟩
          have hbt : Blk (wu.setCell ⟨hb, 2, none⟩ V2) hb 117 #[.int .i64 i2, .int .i64 i3, V2] := HU.out.2.2.1.set 2 V2
          have hkt : Keep (fun i => i ≠ hb) wu (wu.setCell ⟨hb, 2, none⟩ V2) := (Keep.refl _ wu).setCell (fun _ h => h rfl) _
          have hot : (wu.setCell ⟨hb, 2, none⟩ V2).ownsRow wH.heap.size 3 1 V2 (qs.length + 1) (ics qs ++ [.int .i64 i5]) := by
            have h1 := own_far HU.out.1 (p := ⟨hb, 2, none⟩) HU.out.2.2.2.2.2.2 V2
            rw [hV2] at h1 ⊢
            exact h1
          rw [← hV2]
          generalize hwt : World.setCell wu ⟨hb, 2, none⟩ V2 = wt at hbt hkt hot ⊢
          have hgt := HU.out.2.2.2.1.keep hkt hghb
          have hct := HU.out.2.2.2.2.1.keep hkt hhth.symm
          have hlk2 := hct.look (c := i5) (by omega) (by omega)
          rw [List.count_cons_self, ← HY.out.2.2.2.2.2.2.2.2] at hlk2
          have hgtl := hgt.lt
          have g2 := hgt.cell 2
          simp at g2
          have gf := hgt.frozen 2
          have hkGt : Keep (fun i => i ≠ g ∧ i ≠ hb ∧ i ≠ th) wH wt := (((HQA.out.keep.comp HY.out.2.1 (fun _ _ h => h) (fun _ _ h => h.1)).comp HZ.out.2.1 (fun _ _ h => h) (fun _ _ h => h.2.2)).comp HU.out.2.1 (fun _ _ h => h) (fun i hi h e => by
            have h1 := (own_lt HQA.out.row e).1
            omega)).comp hkt (fun _ _ h => h) (fun _ _ h => h.2.1)
          have HT := Lib.hid (And.intro hbt (And.intro hot (And.intro hgt (And.intro hct hkGt))))
          have hstep : Hid (∀ w2 bad2, Keep (fun i => i ≠ g) wt w2 → bad2 = (q5.2.2 || decide (i5 ∈ seenq)) → Rdr w2 g A n c q5.2.1 bad2 → Hid (∃ v pj badj qs seenq, RQAt bs RQ q4.1 (j + 1) i2 i3 g hb th wH.heap.size A n c wH w2 v pj badj qs seenq)) := Lib.hid fun w2 bad2 hk2 hb2 hg2 => by
            obtain ⟨hbt, hot, hgt, hct, hkGt⟩ := HT.out
            refine Lib.hid ⟨V2, _, _, _, _, rq_step HQA.out hjl HQ5.out HY.out.2.2.2.2.2.2.2.1 hm5 hb2 hg2 (by have := HB.out.2.2.2.2.1; omega) (hbt.keep hk2 hghb.symm) (own_keep hot hk2 fun i hi e => own_ne_blk hot hgt (by decide) (by rw [← e]; exact hi)) (hct.keep hk2 hgth.symm) (hkGt.comp hk2 (fun _ _ h => h) (fun _ _ h => h.1))⟩
          have hmem : (0 < sq) ↔ i5 ∈ seenq := by rw [HY.out.2.2.2.2.2.2.2.2]; exact List.count_pos_iff
          have HM := Lib.hid hmem
          clear hbt hot hgt hct hkGt hkt hmem hV2 u2 uf
          by_cases hdup : 0 < sq
          · have e1 : decide (1 < (sq : Int) + 1) = true := by simp; omega
            have hg3 : Rdr (wt.setCell ⟨g, 2, none⟩ (.bool true)) g A n c q5.2.1 true := HT.out.2.2.1.set 2 (.bool true)
            have HR3 := Lib.hid hg3
            clear hg3
            go_wp2_with fail
            exact ⟨⟨j + 1, by omega, by simp, hstep.out _ true ((Keep.refl _ wt).setCell (fun _ h => h rfl) _) (by simp [HM.out.1 hdup]) HR3.out⟩, by simp only [intOf]; omega⟩
          · have e1 : decide (1 < (sq : Int) + 1) = false := by simp; omega
            go_wp2_with fail
            exact ⟨⟨j + 1, by omega, by simp, hstep.out _ q5.2.2 (Keep.refl _ wt) (by have : i5 ∉ seenq := fun h => hdup (HM.out.2 h); simp [this]) HT.out.2.2.1⟩, by simp only [intOf]; omega⟩
        · obtain rfl : j = q4.1 := by omega
          have hkHx := HQA.out.keep
          have hkwx : Keep (fun j => j ≠ g ∧ j ≠ bl) w wx := (HG2.out.2.2.1.comp HH.out.2.1 (fun _ _ h => h) (fun _ _ h => h.1)).comp hkHx (fun _ _ h => h) (fun i hi h => ⟨h.1, by have := HD.out.2.2.2.2.2.2.2.2.2.2; have := HA.out.keep.size; omega, by have := HG.out.2.2.2; have := HD.out.2.1.lt; have := HE.out.2.size; have := HD.out.2.2.2.2.2.2.2.2.2.2; have := HA.out.keep.size; omega⟩)
          have hkEx : Keep (fun i => i ≠ g ∧ i ≠ hb ∧ i ≠ th) wE wx := (((HG.out.2.2.1.comp HG.out.2.1 (fun _ _ _ => trivial) (fun _ _ h => h.2.2)).comp HH.out.2.1 (fun _ _ h => h) (fun _ _ h => h.1))).comp hkHx (fun _ _ h => h) (fun _ _ h => h)
          have hct := HE.out.1.keep hkEx ⟨htbg, hhtb.symm, hthtb.symm⟩
          have hlk := hct.look (c := i3) (by omega) (by omega)
          rw [List.count_cons_self, HD.out.2.2.2.2.2.2.2.2.1, ← HD.out.2.2.2.2.2.2.1, ← HD.out.2.2.2.2.2.2.2.2.1] at hlk
          have x1 := hkwx.cellAt H0.out.1 ⟨hmg, hmb⟩
          have hmlx := lt_of_cell x1
          have y1 := HQA.out.blk.cell 1
          simp at y1
          have hbx := HQA.out.blk.lt
          have g2 := HQA.out.rd.cell 2
          simp at g2
          have gf := HQA.out.rd.frozen 2
          have hgx := HQA.out.rd.lt
          obtain ⟨msx, hlsr⟩ := HA.out.lk
          have hkrx : Keep (fun j => j ≠ g ∧ j ≠ tb) wr wx := (HG2.out.2.1.comp HH.out.2.1 (fun _ _ h => h) (fun _ _ h => h.1)).comp hkHx (fun _ _ h => h) (fun i hi h => ⟨h.1, by have := HD.out.2.2.2.2.2.2.2.2.2.2; omega, by have := HG.out.2.2.2; have := HD.out.2.1.lt; have := HE.out.2.size; have := HD.out.2.2.2.2.2.2.2.2.2.2; omega⟩)
          have hmx : MapIs Tryd.prog 9 wx bl (msx.map LkM.kv) := hlsr.map.keep hkrx (HS.out.2.1 _ hlsr.sb)
          have hmlen : (msx.map LkM.kv).length ≤ 8 := by rw [hlsr.len]; have := HA.out.len; omega
          have hhbl : hb ≠ bl := by have := HD.out.2.2.2.2.2.2.2.2.2.2; have := HA.out.keep.size; omega
          have hrd : rdLock bs tok pk badk = (⟨q1.1, i2, i3, qs⟩, pj, badj) := by
            have e := HQA.out.eq
            rw [Nat.sub_self] at e
            have e' : RQ = (qs, pj, badj) := by rw [e]; simp [runF]
            have e2 := HG2.out.2.2.2.2.1
            rw [e'] at e2
            unfold rdLock
            simp only [← HQ1.out, ← HQ.out.1, ← HQ.out.2.1, ← e2, ← HD.out.2.2.2.2.2.2.2.1, ← HD.out.2.2.2.2.2.2.2.2.1]
          have HFin : Hid (∀ w2 w3 bad2, Keep (fun i => i ≠ g) wx w2 → Rdr w2 g A n c pj bad2 → bad2 = (badj || !lchk (last, seen) ⟨q1.1, i2, i3, qs⟩) → MapIs Tryd.prog 9 w3 bl (mput q1.1 (.pointer (some ⟨hb, 0, none⟩)) (msx.map LkM.kv)) → Keep (fun i => i ≠ bl) w2 w3 →
              Hid (∃ pk badk pre ls seen, RLAt bs tok R cnt (k + 1) q1.1 S g bl tb A n c w w3 pk badk pre ls seen)) := Lib.hid fun w2 w3 bad2 hk2 hg2 hb2 hm3 hk3 => by
            have hz1 := HD.out.2.2.2.2.2.2.2.2.2.2
            have hz2 := HA.out.keep.size
            have hz3 := HG2.out.2.1.size
            have hz4 := HH.out.2.1.size
            have htbw := HS.out.2.2
            have htl := HA.out.tk.lt
            have hk23 : Keep (fun j => j ≠ g ∧ j ≠ bl) wx w3 := hk2.comp hk3 (fun _ _ h => h.1) (fun _ _ h => h.2)
            have hkr3 : Keep (fun j => j ≠ g ∧ j ≠ tb ∧ j ≠ bl) wr w3 := hkrx.comp hk23 (fun _ _ h => ⟨h.1, h.2.1⟩) (fun _ _ h => ⟨h.1, h.2.2⟩)
            have hvlo : ∀ k, v.ownBlock = some k → wH.heap.size ≤ k := fun k hk => (own_lt HQA.out.row hk).1
            have hb3 := HQA.out.blk.keep hk23 ⟨hghb.symm, hhbl⟩
            have hr3 := own_keep HQA.out.row hk23 fun i hi => by have := hvlo i hi; exact ⟨by omega, by omega⟩
            have hlk3 : LkIs S w3 ⟨⟨q1.1, i2, i3, qs⟩, hb, v⟩ := ⟨hb3, (OwnAt.of_own hr3).lower (Nat.zero_le _), by rw [HS.out.1]; exact .inr ⟨show w.heap.size ≤ hb by omega, hhtb⟩, fun i hi => by rw [HS.out.1]; have := hvlo i hi; exact .inr ⟨show w.heap.size ≤ i by omega, show i ≠ tb by omega⟩⟩
            have hput := Lks.put hlsr HA.out.rise ⟨⟨q1.1, i2, i3, qs⟩, hb, v⟩ hm3 hkr3 (fun j hj hne => ⟨(HS.out.2.1 j hj).1, (HS.out.2.1 j hj).2, hne⟩) hlk3 (fun _ h => h) hz1 (fun i hi => by have := hvlo i hi; omega)
            refine Lib.hid ⟨_, _, _, _, _, rl_step HA.out hlt ⟨q1.1, i2, i3, qs⟩ hrd hb2 (hg2.keep hk3 (fun e => hbg e.symm)) HQA.out.pn hput (hct.keep hk23 ⟨htbg, by omega⟩) ⟨by simp only; omega, HQA.out.safe⟩ (by simp only; have := HQA.out.qlen; omega) (hkwx.comp hk23 (fun _ _ h => h) (fun _ _ h => h))⟩
          have HMX := Lib.hid (And.intro hmx hmlen)
          have hsc : (0 < sc) ↔ i3 ∈ seen := by
            rw [HD.out.2.2.2.2.2.2.1, ← HD.out.2.2.2.2.2.2.2.2.1]
            exact List.count_pos_iff
          have HSC := Lib.hid hsc
          have HGX := Lib.hid HQA.out.rd
          have hks : Keep (fun j => j ≠ g) wx (wx.setCell ⟨g, 2, none⟩ (.bool true)) := (Keep.refl _ wx).setCell (fun _ h => h rfl) _
          have HKS := Lib.hid hks
          have hgs : Rdr (wx.setCell ⟨g, 2, none⟩ (.bool true)) g A n c pj true := HQA.out.rd.set 2 (.bool true)
          have HGS := Lib.hid hgs
          have xs1 := hks.cellAt x1 hmg
          have xs2 := lt_of_cell xs1
          clear hkHx hkwx hkEx hct hlsr hkrx hmx hmlen hrd hsc hks hgs xs1 xs2
          by_cases hbad : bytesBefore last q1.1 = true ∧ i3 ≠ 0 ∧ ¬ 0 < sc
          · obtain ⟨hA, hB0, hC0⟩ := hbad
            have hc0 : Op.bytesLess q1.1 last = false := by rw [less_before]; exact before_asymm hA
            have hc1 : (q1.1 == last) = false := by have := before_ne hA; simp; exact fun e => this e.symm
            have hc2 : (i3 == 0) = false := by simpa using hB0
            have hc3 : decide (1 < (sc : Int) + 1) = false := by simp; omega
            have HCH := Lib.hid (show lchk (last, seen) ⟨q1.1, i2, i3, qs⟩ = true by
              unfold lchk
              have : i3 ∉ seen := fun h => hC0 (HSC.out.2 h)
              simp [hA, hB0, this])
            clear hA hB0 hC0
            go_wp2_with (at_mapUpdate; refine wpList_mstore rfl (.tmp 93) (.tmp 94) (.tmp 95) rfl Tryd.underlying9 Tryd.underlying88 rfl HMX.out.1 (by have := HMX.out.2; simp only [maxLen]; omega) (l := q1.1) (by simp only [maxLen]; omega) rfl (.pointer (some ⟨hb, 0, none⟩)) rfl ?_)
            intro w3 hm3 hk3
            have H3 := Lib.hid (HFin.out wx w3 badj (Keep.refl _ _) HGX.out (by rw [HCH.out]; simp) hm3 hk3)
            clear hm3 hk3
            go_wp2_with fail
            exact ⟨⟨k + 1, q1.1, by omega, by simp, rfl, H3.out⟩, by simp only [intOf]; omega⟩
          · have HCH : Hid (lchk (last, seen) ⟨q1.1, i2, i3, qs⟩ = false) := Lib.hid (by
              rcases hh : lchk (last, seen) ⟨q1.1, i2, i3, qs⟩ with _ | _
              · rfl
              · exfalso
                refine hbad ?_
                unfold lchk at hh
                simp at hh
                exact ⟨hh.1.1, hh.1.2, fun h => hh.2 (HSC.out.1 h)⟩)
            have hcase : (Op.bytesLess q1.1 last = true ∨ (q1.1 == last) = true) ∨ ((Op.bytesLess q1.1 last = false ∧ (q1.1 == last) = false) ∧ ((i3 == 0) = true ∨ ((i3 == 0) = false ∧ decide (1 < (sc : Int) + 1) = true))) := by
              by_cases hA : bytesBefore last q1.1 = true
              · right
                refine ⟨⟨by rw [less_before]; exact before_asymm hA, by have := before_ne hA; simp; exact fun e => this e.symm⟩, ?_⟩
                by_cases hB0 : i3 = 0
                · exact .inl (by simpa using hB0)
                · right
                  refine ⟨by simpa using hB0, ?_⟩
                  have : 0 < sc := Classical.byContradiction fun h => hbad ⟨hA, hB0, h⟩
                  simp
                  omega
              · left
                rw [less_before]
                by_cases he : q1.1 = last
                · exact .inr (by simpa using he)
                · exact .inl (before_not (by simpa using hA) (fun e => he e.symm))
            clear hbad
            rcases hcase with (hc0 | hc0) | ⟨⟨hc0, hc1⟩, hc2 | ⟨hc2, hc3⟩⟩
            all_goals
              go_wp2_with (at_mapUpdate; refine wpList_mstore rfl (.tmp 93) (.tmp 94) (.tmp 95) rfl Tryd.underlying9 Tryd.underlying88 rfl (HMX.out.1.keep HKS.out hbg) (by have := HMX.out.2; simp only [maxLen]; omega) (l := q1.1) (by simp only [maxLen]; omega) rfl (.pointer (some ⟨hb, 0, none⟩)) rfl ?_)
              intro w3 hm3 hk3
              have H3 := Lib.hid (HFin.out _ w3 true HKS.out HGS.out (by rw [HCH.out]; simp) hm3 hk3)
              clear hm3 hk3
              go_wp2_with fail
              exact ⟨⟨k + 1, q1.1, by omega, by simp, rfl, H3.out⟩, by simp only [intOf]; omega⟩
    · obtain rfl : k = cnt := by omega
      go_wp2_with fail
      go_end0
      have hat := HA.out
      have e := hat.eq
      rw [Nat.sub_self] at e
      have e' : R = (pre, pk, badk) := by rw [e]; simp [runF]
      obtain ⟨ms, hl⟩ := hat.lk
      refine ⟨rfl, ⟨S, ms, ls, hl, fun j hj => ?_, hat.rise, by have := hat.len; omega, hat.safe, hat.qlen, fun hf => ?_⟩, by rw [e']; exact hat.rd, by rw [e']; exact hat.pn, hat.keep⟩
      · rw [HS.out.1] at hj
        exact hj.imp id fun h => h.1
      · rw [e'] at hf ⊢
        exact (hat.ok hf).1
end Go.Proofs.YtioinjcdkmiafaaDoor
