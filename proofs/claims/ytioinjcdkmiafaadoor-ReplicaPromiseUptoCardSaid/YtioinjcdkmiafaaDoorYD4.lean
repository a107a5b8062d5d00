/-
  MERGED: DRead
-/
import Derived.Test.YtioinjcdkmiafaaDoorYA9
import Derived.Test.YtioinjcdkmiafaaDoorYD1
import Derived.Test.YtioinjcdkmiafaaDoorYD3
namespace Go.Proofs.YtioinjcdkmiafaaDoor
set_option linter.unusedVariables false
set_option linter.unusedSimpArgs false
open Go.RowKit

set_option maxRecDepth 20000 in
set_option maxHeartbeats 800000 in
theorem readBytL_any (g : Nat) (Z : Nat → Prop) (A : Option Addr) (n c : Nat) (bs : List UInt8) (p : Nat) (er lo hi : Int) (w : World) (hg : RRd w g A n c p er) (hz : ∀ k, Z k → k ≠ g) (hp : p ≤ n) (hnc : n ≤ c) (hnil : n = 0 → c = 0 ∨ A ≠ none) (hb : Rd w Z 1 A n (Lib.byteCells bs)) (hn : n ≤ 1099511627770) (hh0 : 0 ≤ hi) (hhi : hi ≤ 1048576) :
    Calls Tryd.prog 17 #[.pointer (some ⟨g, 0, none⟩), .int .i64 lo, .int .i64 hi] w fun e w' => BytPost g A n c w (nBytL bs p er lo hi) e w' := by
  have hlen : bs.length = n := by simpa [Lib.byteCells] using hb.1
  have hC := readNum_any g Z A n c bs p er lo hi w hg hp hb hn
  have hle := nNum_le bs p er lo hi (by omega)
  have hglt := hg.lt
  have hval := nNum_val bs p er lo hi hh0
  obtain ⟨r, hr⟩ : ∃ r, r = nNum bs p er lo hi := ⟨_, rfl⟩
  obtain ⟨t, ht⟩ : ∃ t, t = nBytL bs p er lo hi := ⟨_, rfl⟩
  rw [← ht]
  unfold nBytL at ht
  rw [← hr] at hC hle ht hval
  clear hr
  obtain ⟨rv, rp, re⟩ := r
  dsimp only at hC hle ht hval
  have hrv : (rv : Int) ≤ 1048576 := by omega
  have hrp : (rp : Int) ≤ 1099511627770 := by omega
  clear hval
  have HC := Lib.hid hC
  have HN := Lib.hid (And.intro hlen (And.intro hle (And.intro hz (And.intro hnc hnil))))
  have HB := Lib.hid hb
  clear hC hz hg hb hnil
  go_enter Tryd.func17, Tryd.ntmps17
  go_wp2_with fail
  refine HC.out.mono ?_
  rintro e w1 ⟨rfl, hg1, hk1⟩
  have hb1 := HB.out.keep (hk1.weaken (fun k _ hk => HN.out.2.2.1 k hk))
  have c0 := hg1.cell 0
  have c1 := hg1.cell 1
  have c2 := hg1.cell 2
  have f1 := hg1.frozen 1
  have f2 := hg1.frozen 2
  have hgl := hg1.lt
  simp at c0 c1 c2
  have HG := Lib.hid (And.intro hg1 (And.intro hk1 hb1))
  clear hg1 hk1 hb1
  by_cases he : re = 0
  · subst he
    rw [if_neg (by simp)] at ht
    by_cases hbig : (n : Int) < (rp : Int) + (rv : Int)
    · rw [if_pos (by omega)] at ht
      subst ht
      clear hlen hle
      go_wp2_with fail
      go_quiet (fail)
      go_wp2_with fail
      go_ret
      exact ⟨⟨_, rfl, World.ownsRow_nil _ _ _ _⟩, HG.out.1.err _ 10, HG.out.2.1.comp (keep_step g 2 _ w1 _) (fun _ _ h => h) (fun _ _ h => h)⟩
    · rw [if_neg (by omega)] at ht
      subst ht
      have hpv : rp + rv ≤ n := by omega
      have hpc : rp ≤ c := by omega
      clear hlen hle
      go_wp2_with fail
      go_quiet (fail)
      go_wp2_with fail
      obtain ⟨W, hW⟩ : ∃ W, W = w1.drewN nq := ⟨_, rfl⟩
      rw [← hW]
      have y0 : W.cell? ⟨g, 0, none⟩ = some (.slice A n c) := by rw [hW]; exact c0
      have y1 : W.cell? ⟨g, 1, none⟩ = some (.int .i64 (rp : Int)) := by rw [hW]; exact c1
      have HG2 := Lib.hid (show RRd W g A n c rp 0 ∧ Keep (fun k => k ≠ g) w W ∧ Rd W Z 1 A n (Lib.byteCells bs) from ⟨by rw [hW]; exact HG.out.1.drewN nq, by rw [hW]; exact HG.out.2.1.drewN nq, by rw [hW]; exact HG.out.2.2⟩)
      clear hW HG c0 c1 c2 f1 f2 hgl HC
      refine wp_region_still_tail 14 (by kernel_rfl) (by kernel_rfl) ?_
      simp only [List.take_succ_cons, List.take_zero, List.drop_succ_cons, List.drop_zero]
      repeat still_step
      refine wpStill_nil ?_
      change wpList _ _ _ _ _ W.drew
      rw [show IntKind.i64.wrap ((rp : Int) + (rv : Int)) = (rp : Int) + (rv : Int) by rw [IntKind.wrap_i64]; omega]
      have hcut := (show Rd W.drew Z 1 A n (Lib.byteCells bs) from HG2.out.2.2).cut1 hpv hnc
      rw [byteCells_cut] at hcut
      have hl2 : ((bs.drop rp).take rv).length = rv := by have := HN.out.1; simp; omega
      have hCC : (c = rp → Calls Tryd.prog 27 #[.slice A rv 0] W.drew fun e w' => (∃ u, e = .returned u ∧ w'.ownsRow W.drew.heap.size 5 1 u rv (Lib.byteCells ((bs.drop rp).take rv))) ∧ Fresh W.drew w') ∧
          (c ≠ rp → Calls Tryd.prog 27 #[.slice (Option.map (fun x => x.add rp) A) rv (c - rp)] W.drew fun e w' => (∃ u, e = .returned u ∧ w'.ownsRow W.drew.heap.size 5 1 u rv (Lib.byteCells ((bs.drop rp).take rv))) ∧ Fresh W.drew w') := by
        refine ⟨fun hc => ?_, fun hc => ?_⟩
        · rw [if_pos hc] at hcut
          exact copied_any Z A rv 0 _ W.drew hcut (by omega) (fun _ => .inl rfl)
        · rw [if_neg hc] at hcut
          refine copied_any Z _ rv (c - rp) _ W.drew hcut (by omega) (fun h0 => ?_)
          rcases A with _ | a
          · rcases Nat.eq_zero_or_pos n with h1 | h1
            · rcases HN.out.2.2.2.2 h1 with h2 | h2
              · omega
              · exact absurd rfl h2
            · obtain ⟨_, _, h3, _⟩ := HG2.out.2.2.2 h1
              cases h3
          · exact .inr (by simp)
      replace hCC := Lib.hid hCC
      have HL2 := Lib.hid hl2
      clear hcut hl2
      by_cases hcr : c = rp
      · go_wp2_with fail
        refine (hCC.out.1 hcr).mono ?_
        rintro e w2 ⟨⟨u, rfl, ho⟩, hf⟩
        have hg2 := Blk.keep (show Blk W.drew g _ _ from HG2.out.1) hf trivial
        have z1 := hg2.cell 1
        have zf := hg2.frozen 1
        have zl := hg2.lt
        simp at z1
        have hneq : u.ownBlock ≠ some g := fun e => by have h1 := (own_lt ho e).1; have h2 := HG2.out.1.lt; simp at h1; omega
        have HU := Lib.hid (And.intro ho (And.intro (show Fresh W w2 from (Keep.refl _ W).drew.trans hf) (And.intro hg2 hneq)))
        clear ho hf hg2 hneq
        go_wp2_with fail
        go_ret
        obtain ⟨ho, hf, hg2, hneq⟩ := HU.out
        have hkk : Keep (fun k => k ≠ g) w w2 := HG2.out.2.1.comp hf (fun _ _ h => h) (fun _ _ _ => trivial)
        refine ⟨⟨u, rfl, ?_⟩, ?_, hkk.setCell (fun _ h => h rfl) _⟩
        · have h1 := own_far (own_base ho (base' := w.heap.size) (by have := HG2.out.2.1.size; simp; omega)) (p := ⟨g, 1, none⟩) hneq (.int .i64 ((rp : Int) + (rv : Int)))
          show World.ownsRow _ _ _ _ _ ((bs.drop rp).take rv).length _
          rw [HL2.out]
          exact h1
        · have h1 := hg2.set 1 (.int .i64 ((rp : Int) + (rv : Int)))
          simpa [RRd] using h1
      · go_wp2_with fail
        refine (hCC.out.2 hcr).mono ?_
        rintro e w2 ⟨⟨u, rfl, ho⟩, hf⟩
        have hg2 := Blk.keep (show Blk W.drew g _ _ from HG2.out.1) hf trivial
        have z1 := hg2.cell 1
        have zf := hg2.frozen 1
        have zl := hg2.lt
        simp at z1
        have hneq : u.ownBlock ≠ some g := fun e => by have h1 := (own_lt ho e).1; have h2 := HG2.out.1.lt; simp at h1; omega
        have HU := Lib.hid (And.intro ho (And.intro (show Fresh W w2 from (Keep.refl _ W).drew.trans hf) (And.intro hg2 hneq)))
        clear ho hf hg2 hneq
        go_wp2_with fail
        go_ret
        obtain ⟨ho, hf, hg2, hneq⟩ := HU.out
        have hkk : Keep (fun k => k ≠ g) w w2 := HG2.out.2.1.comp hf (fun _ _ h => h) (fun _ _ _ => trivial)
        refine ⟨⟨u, rfl, ?_⟩, ?_, hkk.setCell (fun _ h => h rfl) _⟩
        · have h1 := own_far (own_base ho (base' := w.heap.size) (by have := HG2.out.2.1.size; simp; omega)) (p := ⟨g, 1, none⟩) hneq (.int .i64 ((rp : Int) + (rv : Int)))
          show World.ownsRow _ _ _ _ _ ((bs.drop rp).take rv).length _
          rw [HL2.out]
          exact h1
        · have h1 := hg2.set 1 (.int .i64 ((rp : Int) + (rv : Int)))
          simpa [RRd] using h1
  · rw [if_pos he] at ht
    subst ht
    clear hlen hle
    go_wp2_with fail
    go_ret
    exact ⟨⟨_, rfl, World.ownsRow_nil _ _ _ _⟩, HG.out.1, HG.out.2.1⟩


/-! ### a machine that is being read -/
def askR (x : Bool × SesD) : List Value := [.bool x.1, .int .i64 x.2.inc, .int .i64 x.2.req, .int .i64 x.2.last.code, str x.2.last.val, .int .i64 x.2.last.n]
theorem askR_six : ∀ x, (askR x).length = 6 := fun _ => rfl
def rcl (pv hv : Value) (tok : Int) (az : List (Bool × SesD)) : List Value := pv :: hv :: .int .i64 tok :: rcells askR az
structure DRw (B : Nat) (w : World) (d : Nat) (pv hv : Value) (ps : List (Txt × Txt)) (hs : List DLk) (tok : Int) (az : List (Bool × SesD)) : Prop where
  blk : Blk w d 107 (rcl pv hv tok az).toArray
  bd : B ≤ d
  pr : w.ownsRow B 109 2 pv ps.length (pcells ps)
  lk : w.ownsRow B 111 4 hv hs.length (rcells DLk.cells hs)
  qs : ∀ x ∈ hs, w.ownsRow B 3 1 x.q x.d.queue.length (ics x.d.queue)
  ap : hs.Pairwise fun a b => ∀ k, a.q.ownBlock = some k → b.q.ownBlock ≠ some k
  s16 : az.length = 16
section
variable {B : Nat} {w w' w2 : World} {d : Nat} {pv hv v : Value} {ps : List (Txt × Txt)} {hs : List DLk} {tok : Int} {az : List (Bool × SesD)}
theorem DRw.keep {Z : Nat → Prop} (h : DRw B w d pv hv ps hs tok az) (hk : Keep Z w w') (hz : ∀ k, B ≤ k → Z k) : DRw B w' d pv hv ps hs tok az :=
  ⟨h.blk.keep hk (hz d h.bd), h.bd, own_keep h.pr hk fun k hk => hz k (own_lt h.pr hk).1, own_keep h.lk hk fun k hk => hz k (own_lt h.lk hk).1, fun x hx => own_keep (h.qs x hx) hk fun k hk => hz k (own_lt (h.qs x hx) hk).1, h.ap, h.s16⟩
theorem DRw.fresh (h : DRw B w d pv hv ps hs tok az) (hk : Fresh w w') : DRw B w' d pv hv ps hs tok az := h.keep hk fun _ _ => trivial
theorem DRw.three (h : DRw B w d pv hv ps hs tok az) : w.cell? ⟨d, 0, none⟩ = some pv ∧ w.cell? ⟨d, 1, none⟩ = some hv ∧ w.cell? ⟨d, 2, none⟩ = some (.int .i64 tok) ∧ w.frozen? ⟨d, 0, none⟩ = false ∧ w.frozen? ⟨d, 1, none⟩ = false ∧ w.frozen? ⟨d, 2, none⟩ = false ∧ d < w.heap.size := ⟨h.blk.cell 0, h.blk.cell 1, h.blk.cell 2, h.blk.frozen 0, h.blk.frozen 1, h.blk.frozen 2, h.blk.lt⟩
/-- Something else was written. -/
theorem DRw.other (h : DRw B w d pv hv ps hs tok az) {g : Nat} {t : TypeId} {cs : Array Value} (hb : Blk w g t cs) (h1 : 107 ≠ t) (h2 : 109 ≠ t) (h3 : 111 ≠ t) (h4 : 3 ≠ t) (hk : Keep (fun k => k ≠ g) w w2) : DRw B w2 d pv hv ps hs tok az :=
  ⟨h.blk.keep hk (h.blk.ne hb h1), h.bd, own_keep h.pr hk fun k hk e => own_ne_blk h.pr hb h2 (e ▸ hk), own_keep h.lk hk fun k hk e => own_ne_blk h.lk hb h3 (e ▸ hk), fun x hx => own_keep (h.qs x hx) hk fun k hk e => own_ne_blk (h.qs x hx) hb h4 (e ▸ hk), h.ap, h.s16⟩
theorem DRw.setTok (h : DRw B w d pv hv ps hs tok az) (t : Int) : DRw B (w.setCell ⟨d, 2, none⟩ (.int .i64 t)) d pv hv ps hs t az := by
  refine ⟨?_, h.bd, own_far h.pr (p := ⟨d, 2, none⟩) (own_ne_blk h.pr h.blk (by decide)) _, own_far h.lk (p := ⟨d, 2, none⟩) (own_ne_blk h.lk h.blk (by decide)) _, fun x hx => own_far (h.qs x hx) (p := ⟨d, 2, none⟩) (own_ne_blk (h.qs x hx) h.blk (by decide)) _, h.ap, h.s16⟩
  have := h.blk.set 2 (.int .i64 t)
  simpa [rcl] using this
theorem DRw.addPair (h : DRw B w d pv hv ps hs tok az) {x : Txt × Txt} (ho : w2.ownsRow B 109 2 v (ps.length + 1) (pcells ps ++ pairC x)) (hk : Keep (fun k => pv.ownBlock ≠ some k) w w2) :
    DRw B (w2.setCell ⟨d, 0, none⟩ v) d v hv (ps ++ [x]) hs tok az := by
  have hb := h.blk.keep hk (own_ne_blk h.pr h.blk (by decide))
  have hl := own_keep h.lk hk fun k hk e => own_ne_own2 h.pr h.lk (by decide) e hk
  have hq : ∀ x ∈ hs, w2.ownsRow B 3 1 x.q x.d.queue.length (ics x.d.queue) := fun x hx => own_keep (h.qs x hx) hk fun k hk e => own_ne_own2 h.pr (h.qs x hx) (by decide) e hk
  refine ⟨?_, h.bd, ?_, own_far hl (p := ⟨d, 0, none⟩) (own_ne_blk hl hb (by decide)) _, fun x hx => own_far (hq x hx) (p := ⟨d, 0, none⟩) (own_ne_blk (hq x hx) hb (by decide)) _, h.ap, h.s16⟩
  · have := hb.set 0 v
    simpa [rcl] using this
  · have h2 := own_far ho (p := ⟨d, 0, none⟩) (own_ne_blk ho hb (by decide)) v
    have e : pcells (ps ++ [x]) = pcells ps ++ pairC x := by simp [pcells, rcells_append, rcells_cons, rcells_nil]
    rw [e, List.length_append]
    exact h2
theorem DRw.addLock (h : DRw B w d pv hv ps hs tok az) {x : DLk} (ho : w2.ownsRow B 111 4 v (hs.length + 1) (rcells DLk.cells hs ++ DLk.cells x)) (hk : Keep (fun k => hv.ownBlock ≠ some k) w w2)
    (hq : w.ownsRow B 3 1 x.q x.d.queue.length (ics x.d.queue)) (ha : ∀ y ∈ hs, ∀ k, y.q.ownBlock = some k → x.q.ownBlock ≠ some k) :
    DRw B (w2.setCell ⟨d, 1, none⟩ v) d pv v ps (hs ++ [x]) tok az := by
  have hb := h.blk.keep hk (own_ne_blk h.lk h.blk (by decide))
  have hp := own_keep h.pr hk fun k hk e => own_ne_own2 h.lk h.pr (by decide) e hk
  have hq2 : ∀ y ∈ hs ++ [x], w2.ownsRow B 3 1 y.q y.d.queue.length (ics y.d.queue) := fun y hy => by
    rcases List.mem_append.1 hy with h1 | h1
    · exact own_keep (h.qs y h1) hk fun k hk e => own_ne_own2 h.lk (h.qs y h1) (by decide) e hk
    · rw [List.mem_singleton.1 h1]
      exact own_keep hq hk fun k hk e => own_ne_own2 h.lk hq (by decide) e hk
  refine ⟨?_, h.bd, own_far hp (p := ⟨d, 1, none⟩) (own_ne_blk hp hb (by decide)) _, ?_, fun y hy => own_far (hq2 y hy) (p := ⟨d, 1, none⟩) (own_ne_blk (hq2 y hy) hb (by decide)) _, ?_, h.s16⟩
  · have := hb.set 1 v
    simpa [rcl] using this
  · have h2 := own_far ho (p := ⟨d, 1, none⟩) (own_ne_blk ho hb (by decide)) v
    have e : rcells DLk.cells (hs ++ [x]) = rcells DLk.cells hs ++ DLk.cells x := by simp [rcells_append, rcells_cons, rcells_nil]
    rw [e, List.length_append]
    exact h2
  · rw [List.pairwise_append]
    exact ⟨h.ap, List.pairwise_singleton _ _, fun a ha' b hb' => by rw [List.mem_singleton.1 hb']; exact ha a ha'⟩
theorem DRw.ask (h : DRw B w d pv hv ps hs tok az) {q : Nat} (hq : q < 16) (j : Nat) (hj : j < 6) : w.cell? ⟨d, 3 + q * 6 + j, none⟩ = (askR (az[q]'(by rw [h.s16]; exact hq)))[j]? := by
  rw [h.blk.cell, List.getElem?_toArray, show 3 + q * 6 + j = (q * 6 + j) + 1 + 1 + 1 by omega]
  unfold rcl
  rw [List.getElem?_cons_succ, List.getElem?_cons_succ, List.getElem?_cons_succ, rcells_get askR_six az q (by rw [h.s16]; exact hq) j hj]
theorem DRw.at (h : DRw B w d pv hv ps hs tok az) {ss : List SesD} (ha : az = ss.map fun z => (decide (0 < z.inc), z)) : DAt B (DFoot d pv hv hs) w d pv hv hs ⟨ps, hs.map DLk.d, tok, ss⟩ := by
  have e : rcells askR az = rcells askC ss := by
    rw [ha]
    unfold rcells
    rw [List.flatMap_map]
    rfl
  refine ⟨?_, h.pr, by rw [List.length_map]; exact h.lk, rfl, h.qs, h.ap, .inl rfl, fun k hk => .inr (.inl hk), fun k hk => .inr (.inr (.inl hk)), fun x hx k hk => .inr (.inr (.inr ⟨x, hx, hk⟩))⟩
  have hb := h.blk
  unfold rcl at hb
  rw [e] at hb
  exact hb
end
/-! ### the reader beside it -/
/-- The reader g of the bytes 'bs' (at A) stands at p with the error e, and the machine d has been read so far. -/
structure RdAt (bs : Txt) (A : Option Addr) (n c g : Nat) (Z : Nat → Prop) (w0 w : World) (d : Nat) (pv hv : Value) (ps : List (Txt × Txt)) (hs : List DLk) (tok : Int) (az : List (Bool × SesD)) (p : Nat) (e : Int) : Prop where
  dr : DRw w0.heap.size w d pv hv ps hs tok az
  rd : RRd w g A n c p e
  le : p ≤ n
  kp : Keep (fun k => k ≠ g) w0 w
structure RdIn (bs : Txt) (A : Option Addr) (n c g : Nat) (Z : Nat → Prop) (w0 : World) : Prop where
  zg : ∀ k, Z k → k ≠ g
  hnc : n ≤ c
  nil : n = 0 → c = 0 ∨ A ≠ none
  rd : Rd w0 Z 1 A n (Lib.byteCells bs)
  hn : n ≤ 1099511627770
  lt : g < w0.heap.size
section
variable {bs : Txt} {A : Option Addr} {n c g : Nat} {Z : Nat → Prop} {w0 w w' : World} {d : Nat} {pv hv : Value} {ps : List (Txt × Txt)} {hs : List DLk} {tok : Int} {az : List (Bool × SesD)} {p : Nat} {e : Int}
theorem RdAt.step (hI : RdIn bs A n c g Z w0) (h : RdAt bs A n c g Z w0 w d pv hv ps hs tok az p e) {p' : Nat} {e' : Int} (hr : RRd w' g A n c p' e') (hl : p' ≤ n) (hk : Keep (fun k => k ≠ g) w w') : RdAt bs A n c g Z w0 w' d pv hv ps hs tok az p' e' :=
  ⟨h.dr.keep hk fun k hk e => by have := hI.lt; omega, hr, hl, h.kp.trans hk⟩
theorem RdIn.len (hI : RdIn bs A n c g Z w0) : bs.length = n := by simpa [Lib.byteCells] using hI.rd.1
def NumP (bs : Txt) (A : Option Addr) (n c g : Nat) (Z : Nat → Prop) (w0 w : World) (d : Nat) (pv hv : Value) (ps : List (Txt × Txt)) (hs : List DLk) (tok : Int) (az : List (Bool × SesD)) (p : Nat) (e lo : Int) (hi : Nat) (en : Ending) (w' : World) : Prop :=
  ∃ (v p' : Nat) (e' : Int), en = .returned (.int .i64 (v : Int)) ∧ El (fun p => oNum bs p hi) (fun v => lo ≤ (v : Int)) p e v p' e' ∧ v ≤ hi ∧ RdAt bs A n c g Z w0 w' d pv hv ps hs tok az p' e' ∧ Keep (fun k => k ≠ g) w w'
theorem RdAt.num (hI : RdIn bs A n c g Z w0) (h : RdAt bs A n c g Z w0 w d pv hv ps hs tok az p e) (lo hiI : Int) (hi : Nat) (hh : hiI = (hi : Int)) :
    Calls Tryd.prog 16 #[.pointer (some ⟨g, 0, none⟩), .int .i64 lo, .int .i64 hiI] w (NumP bs A n c g Z w0 w d pv hv ps hs tok az p e lo hi) := by
  subst hh
  refine (readNum_any g Z A n c bs p e lo (hi : Int) w h.rd h.le (hI.rd.keep (h.kp.weaken fun k _ hk => hI.zg k hk)) hI.hn).mono ?_
  rintro en w' ⟨rfl, hr, hk⟩
  have hle := nNum_le bs p e lo (hi : Int) (by rw [hI.len]; exact h.le)
  rw [hI.len] at hle
  exact ⟨_, _, _, rfl, El.num p e lo hi, by have := nNum_val bs p e lo (hi : Int) (by omega); omega, h.step hI hr hle hk, hk⟩
theorem nBytL_le (bs : Txt) (p : Nat) (e lo hi : Int) (hp : p ≤ bs.length) : (nBytL bs p e lo hi).2.1 ≤ bs.length := by
  have := nNum_le bs p e lo hi hp
  unfold nBytL
  split
  · exact this
  · split
    · exact this
    · dsimp only; omega
theorem nBytL_len (bs : Txt) (p : Nat) (e lo hi : Int) (h0 : 0 ≤ hi) : ((nBytL bs p e lo hi).1.length : Int) ≤ hi := by
  have := nNum_val bs p e lo hi h0
  unfold nBytL
  split
  · simpa using h0
  · split
    · simpa using h0
    · simp only [List.length_take, List.length_drop]; omega
def TxtP (bs : Txt) (A : Option Addr) (n c g : Nat) (Z : Nat → Prop) (w0 w : World) (d : Nat) (pv hv : Value) (ps : List (Txt × Txt)) (hs : List DLk) (tok : Int) (az : List (Bool × SesD)) (p : Nat) (e : Int) (en : Ending) (w' : World) : Prop :=
  ∃ (t : Txt) (p' : Nat) (e' : Int), en = .returned (str t) ∧ El (fun p => oTxt bs p) (fun t => 0 ≤ t.length) p e t p' e' ∧ t.length ≤ 8 ∧ RdAt bs A n c g Z w0 w' d pv hv ps hs tok az p' e' ∧ Keep (fun k => k ≠ g) w w'
theorem RdAt.txt (hI : RdIn bs A n c g Z w0) (h : RdAt bs A n c g Z w0 w d pv hv ps hs tok az p e) :
    Calls Tryd.prog 28 #[.pointer (some ⟨g, 0, none⟩), .int .i64 8] w (TxtP bs A n c g Z w0 w d pv hv ps hs tok az p e) := by
  refine (readTxt_any g Z A n c bs p e 8 w h.rd hI.zg h.le hI.hnc hI.nil (hI.rd.keep (h.kp.weaken fun k _ hk => hI.zg k hk)) hI.hn (by decide) (by decide)).mono ?_
  rintro en w' ⟨rfl, hr, hk⟩
  rw [nByt_L] at hr ⊢
  have hle := nBytL_le bs p e 0 8 (by rw [hI.len]; exact h.le)
  rw [hI.len] at hle
  exact ⟨_, _, _, rfl, El.txt p e 0, by have := nBytL_len bs p e 0 8 (by decide); omega, h.step hI hr hle hk, hk⟩
def BytP (bs : Txt) (A : Option Addr) (n c g : Nat) (Z : Nat → Prop) (w0 w : World) (d : Nat) (pv hv : Value) (ps : List (Txt × Txt)) (hs : List DLk) (tok : Int) (az : List (Bool × SesD)) (p : Nat) (e : Int) (en : Ending) (w' : World) : Prop :=
  ∃ (t : Txt) (u : Value) (p' : Nat) (e' : Int), en = .returned u ∧ w'.ownsRow w.heap.size 5 1 u t.length (Lib.byteCells t) ∧ El (fun p => oTxt bs p) (fun t => 1 ≤ t.length) p e t p' e' ∧ t.length ≤ 8 ∧ RdAt bs A n c g Z w0 w' d pv hv ps hs tok az p' e' ∧ Keep (fun k => k ≠ g) w w'
theorem RdAt.byt (hI : RdIn bs A n c g Z w0) (h : RdAt bs A n c g Z w0 w d pv hv ps hs tok az p e) :
    Calls Tryd.prog 17 #[.pointer (some ⟨g, 0, none⟩), .int .i64 1, .int .i64 8] w (BytP bs A n c g Z w0 w d pv hv ps hs tok az p e) := by
  refine (readBytL_any g Z A n c bs p e 1 8 w h.rd hI.zg h.le hI.hnc hI.nil (hI.rd.keep (h.kp.weaken fun k _ hk => hI.zg k hk)) hI.hn (by decide) (by decide)).mono ?_
  rintro en w' ⟨⟨u, rfl, ho⟩, hr, hk⟩
  have hle := nBytL_le bs p e 1 8 (by rw [hI.len]; exact h.le)
  rw [hI.len] at hle
  exact ⟨_, u, _, _, rfl, ho, El.txt p e 1, by have := nBytL_len bs p e 1 8 (by decide); omega, h.step hI hr hle hk, hk⟩
end
end Go.Proofs.YtioinjcdkmiafaaDoor
