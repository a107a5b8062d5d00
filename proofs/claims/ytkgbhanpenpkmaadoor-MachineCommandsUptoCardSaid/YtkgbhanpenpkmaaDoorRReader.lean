/-
  WALKS OF quorateref01's Reader: 'Num', 'Bytes', 'End'; of quorateref13's 'text'.
-/
import Derived.Test.YtkgbhanpenpkmaaDoorRTake
import Derived.Test.YtkgbhanpenpkmaaDoorRCodec
import Derived.Test.YtkgbhanpenpkmaaDoorRow
import Derived.Test.YtkgbhanpenpkmaaDoorCheck
import Derived.Test.YtkgbhanpenpkmaaDoorBytes
import Derived.StillTailTactics
namespace Go.Proofs.YtkgbhanpenpkmaaDoor
set_option linter.unusedVariables false
set_option linter.unusedSimpArgs false
open Go.RowKit

/-- Block g is the document's reader of the bytes at A, at place p; e: what was amiss. -/
def RRd (w : World) (g : Nat) (A : Option Addr) (n c p : Nat) (e : Int) : Prop := Blk w g 77 #[.slice A n c, .int .i64 (p : Int), .int .i64 e]
theorem RRd.err {w : World} {g : Nat} {A : Option Addr} {n c p : Nat} {e : Int} (h : RRd w g A n c p e) (k : Nat) (e' : Int) : RRd ((w.drewN k).setCell ⟨g, 2, none⟩ (.int .i64 e')) g A n c p e' := by
  simpa [RRd] using (Blk.drewN h k).set 2 (.int .i64 e')
theorem RRd.goes {w : World} {g : Nat} {A : Option Addr} {n c p : Nat} {e : Int} (h : RRd w g A n c p e) (k p' : Nat) : RRd ((w.drewN k).setCell ⟨g, 1, none⟩ (.int .i64 (p' : Int))) g A n c p' e := by
  simpa [RRd] using (Blk.drewN h k).set 1 (.int .i64 (p' : Int))
def NumPost (g : Nat) (A : Option Addr) (n c : Nat) (w : World) (r : Nat × Nat × Int) (e : Ending) (w' : World) : Prop :=
  e = .returned (.int .i64 (r.1 : Int)) ∧ RRd w' g A n c r.2.1 r.2.2 ∧ Keep (fun k => k ≠ g) w w'

set_option maxRecDepth 20000 in
set_option maxHeartbeats 400000 in
theorem readNum_any (g : Nat) (Z : Nat → Prop) (A : Option Addr) (n c : Nat) (bs : List UInt8) (p : Nat) (er lo hi : Int) (w : World) (hg : RRd w g A n c p er) (hp : p ≤ n) (hb : Rd w Z 1 A n (Lib.byteCells bs)) (hn : n ≤ 1099511627770) :
    Calls Tryd.prog 34 #[.pointer (some ⟨g, 0, none⟩), .int .i64 lo, .int .i64 hi] w fun e w' => NumPost g A n c w (nNum bs p er lo hi) e w' := by
  have c0 := hg.cell 0
  have c1 := hg.cell 1
  have c2 := hg.cell 2
  have f1 := hg.frozen 1
  have f2 := hg.frozen 2
  simp at c0 c1 c2
  obtain ⟨t, ht⟩ : ∃ t, t = nNum bs p er lo hi := ⟨_, rfl⟩
  rw [← ht]
  unfold nNum at ht
  obtain ⟨r, hr⟩ : ∃ r, r = takeB (bs.drop p) := ⟨_, rfl⟩
  have hT := fun k => rTakeInt_in Z A n c bs p (w.drewN k) hp (hb.drewN k) hn
  rw [← hr] at hT ht
  have HT := Lib.hid hT
  have HG := Lib.hid hg
  clear hT hg hr hb
  obtain ⟨rv, rl, re⟩ := r
  dsimp only at ht
  by_cases he0 : er = 0
  · subst he0
    rw [if_neg (by simp)] at ht
    by_cases he : re = 0
    · subst he
      rw [if_neg (by simp)] at ht
      by_cases hm : (rv : Int) < lo
      · rw [if_pos (.inl hm)] at ht
        subst ht
        go_enter Tryd.func34, Tryd.ntmps34
        go_wp2_with fail
        go_quiet ((go_at_call 51; exact quiet_left (HT.out _)))
        go_wp2_with fail
        go_ret
        refine ⟨rfl, ?_, ?_⟩
        · simpa [RRd] using ((Blk.drewN HG.out nq).set 1 (.int .i64 ((p + rl : Nat) : Int))).set 2 (.int .i64 16)
        · exact ((keep_step g 1 nq w _).setCell (fun _ h => h rfl) _)
      · by_cases hm2 : hi < (rv : Int)
        · rw [if_pos (.inr hm2)] at ht
          subst ht
          go_enter Tryd.func34, Tryd.ntmps34
          go_wp2_with fail
          go_quiet ((go_at_call 51; exact quiet_left (HT.out _)))
          go_wp2_with fail
          go_ret
          refine ⟨rfl, ?_, ?_⟩
          · simpa [RRd] using ((Blk.drewN HG.out nq).set 1 (.int .i64 ((p + rl : Nat) : Int))).set 2 (.int .i64 16)
          · exact ((keep_step g 1 nq w _).setCell (fun _ h => h rfl) _)
        · rw [if_neg (by omega)] at ht
          subst ht
          go_enter Tryd.func34, Tryd.ntmps34
          go_wp2_with fail
          go_quiet ((go_at_call 51; exact quiet_left (HT.out _)))
          go_wp2_with fail
          go_ret
          exact ⟨rfl, by simpa using HG.out.goes nq (p + rl), keep_step _ _ _ _ _⟩
    · rw [if_pos (by simpa using he)] at ht
      subst ht
      go_enter Tryd.func34, Tryd.ntmps34
      go_wp2_with fail
      go_quiet ((go_at_call 51; exact quiet_left (HT.out _)))
      go_wp2_with fail
      go_ret
      exact ⟨rfl, HG.out.err nq re, keep_step _ _ _ _ _⟩
  · rw [if_pos he0] at ht
    subst ht
    go_enter Tryd.func34, Tryd.ntmps34
    go_wp2_with fail
    go_ret
    exact ⟨rfl, HG.out, Keep.refl _ _⟩

theorem nNum_val (bs : List UInt8) (p : Nat) (e lo hi : Int) (h0 : 0 ≤ hi) : ((nNum bs p e lo hi).1 : Int) ≤ hi := by
  unfold nNum
  split
  · exact h0
  · split
    · exact h0
    · split
      · exact h0
      · dsimp only; omega
def BytPost (g : Nat) (A : Option Addr) (n c : Nat) (w : World) (r : List UInt8 × Nat × Int) (e : Ending) (w' : World) : Prop :=
  (∃ u, e = .returned u ∧ w'.ownsRow w.heap.size 5 1 u r.1.length (Lib.byteCells r.1)) ∧ RRd w' g A n c r.2.1 r.2.2 ∧ Keep (fun k => k ≠ g) w w'

set_option maxRecDepth 20000 in
set_option maxHeartbeats 800000 in
theorem readByt_any (g : Nat) (Z : Nat → Prop) (A : Option Addr) (n c : Nat) (bs : List UInt8) (p : Nat) (er hi : Int) (w : World) (hg : RRd w g A n c p er) (hz : ∀ k, Z k → k ≠ g) (hp : p ≤ n) (hnc : n ≤ c) (hnil : n = 0 → c = 0 ∨ A ≠ none) (hb : Rd w Z 1 A n (Lib.byteCells bs)) (hn : n ≤ 1099511627770) (hh0 : 0 ≤ hi) (hhi : hi ≤ 1048576) :
    Calls Tryd.prog 52 #[.pointer (some ⟨g, 0, none⟩), .int .i64 0, .int .i64 hi] w fun e w' => BytPost g A n c w (nByt bs p er hi) e w' := by
  have hlen : bs.length = n := by simpa [Lib.byteCells] using hb.1
  have hC := readNum_any g Z A n c bs p er 0 hi w hg hp hb hn
  have hle := nNum_le bs p er 0 hi (by omega)
  have hglt := hg.lt
  have hval := nNum_val bs p er 0 hi hh0
  obtain ⟨r, hr⟩ : ∃ r, r = nNum bs p er 0 hi := ⟨_, rfl⟩
  obtain ⟨t, ht⟩ : ∃ t, t = nByt bs p er hi := ⟨_, rfl⟩
  rw [← ht]
  unfold nByt at ht
  rw [← hr] at hC hle ht hval
  clear hr
  obtain ⟨rv, rp, re⟩ := r
  dsimp only at hC hle ht hval
  have hrv : (rv : Int) ≤ 1048576 := by omega
  have hrp : (rp : Int) ≤ 1099511627770 := by omega
  clear hval
  have HC := Lib.hid hC
  have HN := Lib.hid (And.intro hlen (And.intro hle (And.intro hz (And.intro hnc hnil))))
  have HB := Lib.hid hb
  clear hC hz hg hb hnil
  go_enter Tryd.func52, Tryd.ntmps52
  go_wp2_with fail
  refine HC.out.mono ?_
  rintro e w1 ⟨rfl, hg1, hk1⟩
  have hb1 := HB.out.keep (hk1.weaken (fun k _ hk => HN.out.2.2.1 k hk))
  have c0 := hg1.cell 0
  have c1 := hg1.cell 1
  have c2 := hg1.cell 2
  have f1 := hg1.frozen 1
  have f2 := hg1.frozen 2
  have hgl := hg1.lt
  simp at c0 c1 c2
  have HG := Lib.hid (And.intro hg1 (And.intro hk1 hb1))
  clear hg1 hk1 hb1
  by_cases he : re = 0
  · subst he
    rw [if_neg (by simp)] at ht
    by_cases hbig : (n : Int) < (rp : Int) + (rv : Int)
    · rw [if_pos (by omega)] at ht
      subst ht
      clear hlen hle
      go_wp2_with fail
      go_quiet (fail)
      go_wp2_with fail
      go_ret
      exact ⟨⟨_, rfl, World.ownsRow_nil _ _ _ _⟩, HG.out.1.err _ 10, HG.out.2.1.comp (keep_step g 2 _ w1 _) (fun _ _ h => h) (fun _ _ h => h)⟩
    · rw [if_neg (by omega)] at ht
      subst ht
      have hpv : rp + rv ≤ n := by omega
      have hpc : rp ≤ c := by omega
      clear hlen hle
      go_wp2_with fail
      go_quiet (fail)
      go_wp2_with fail
      obtain ⟨W, hW⟩ : ∃ W, W = w1.drewN nq := ⟨_, rfl⟩
      rw [← hW]
      have y0 : W.cell? ⟨g, 0, none⟩ = some (.slice A n c) := by rw [hW]; exact c0
      have y1 : W.cell? ⟨g, 1, none⟩ = some (.int .i64 (rp : Int)) := by rw [hW]; exact c1
      have HG2 := Lib.hid (show RRd W g A n c rp 0 ∧ Keep (fun k => k ≠ g) w W ∧ Rd W Z 1 A n (Lib.byteCells bs) from ⟨by rw [hW]; exact HG.out.1.drewN nq, by rw [hW]; exact HG.out.2.1.drewN nq, by rw [hW]; exact HG.out.2.2⟩)
      clear hW HG c0 c1 c2 f1 f2 hgl HC
      refine wp_region_still_tail 14 (by kernel_rfl) (by kernel_rfl) ?_
      simp only [List.take_succ_cons, List.take_zero, List.drop_succ_cons, List.drop_zero]
      repeat still_step
      refine wpStill_nil ?_
      change wpList _ _ _ _ _ W.drew
      rw [show IntKind.i64.wrap ((rp : Int) + (rv : Int)) = (rp : Int) + (rv : Int) by rw [IntKind.wrap_i64]; omega]
      have hcut := (show Rd W.drew Z 1 A n (Lib.byteCells bs) from HG2.out.2.2).cut1 hpv hnc
      rw [byteCells_cut] at hcut
      have hl2 : ((bs.drop rp).take rv).length = rv := by have := HN.out.1; simp; omega
      have hCC : (c = rp → Calls Tryd.prog 19 #[.slice A rv 0] W.drew fun e w' => (∃ u, e = .returned u ∧ w'.ownsRow W.drew.heap.size 5 1 u rv (Lib.byteCells ((bs.drop rp).take rv))) ∧ Fresh W.drew w') ∧
          (c ≠ rp → Calls Tryd.prog 19 #[.slice (Option.map (fun x => x.add rp) A) rv (c - rp)] W.drew fun e w' => (∃ u, e = .returned u ∧ w'.ownsRow W.drew.heap.size 5 1 u rv (Lib.byteCells ((bs.drop rp).take rv))) ∧ Fresh W.drew w') := by
        refine ⟨fun hc => ?_, fun hc => ?_⟩
        · rw [if_pos hc] at hcut
          exact copied_any Z A rv 0 _ W.drew hcut (by omega) (fun _ => .inl rfl)
        · rw [if_neg hc] at hcut
          refine copied_any Z _ rv (c - rp) _ W.drew hcut (by omega) (fun h0 => ?_)
          rcases A with _ | a
          · rcases Nat.eq_zero_or_pos n with h1 | h1
            · rcases HN.out.2.2.2.2 h1 with h2 | h2
              · omega
              · exact absurd rfl h2
            · obtain ⟨_, _, h3, _⟩ := HG2.out.2.2.2 h1
              cases h3
          · exact .inr (by simp)
      replace hCC := Lib.hid hCC
      have HL2 := Lib.hid hl2
      clear hcut hl2
      by_cases hcr : c = rp
      · go_wp2_with fail
        refine (hCC.out.1 hcr).mono ?_
        rintro e w2 ⟨⟨u, rfl, ho⟩, hf⟩
        have hg2 := Blk.keep (show Blk W.drew g _ _ from HG2.out.1) hf trivial
        have z1 := hg2.cell 1
        have zf := hg2.frozen 1
        have zl := hg2.lt
        simp at z1
        have hneq : u.ownBlock ≠ some g := fun e => by have h1 := (own_lt ho e).1; have h2 := HG2.out.1.lt; simp at h1; omega
        have HU := Lib.hid (And.intro ho (And.intro (show Fresh W w2 from (Keep.refl _ W).drew.trans hf) (And.intro hg2 hneq)))
        clear ho hf hg2 hneq
        go_wp2_with fail
        go_ret
        obtain ⟨ho, hf, hg2, hneq⟩ := HU.out
        have hkk : Keep (fun k => k ≠ g) w w2 := HG2.out.2.1.comp hf (fun _ _ h => h) (fun _ _ _ => trivial)
        refine ⟨⟨u, rfl, ?_⟩, ?_, hkk.setCell (fun _ h => h rfl) _⟩
        · have h1 := own_far (own_base ho (base' := w.heap.size) (by have := HG2.out.2.1.size; simp; omega)) (p := ⟨g, 1, none⟩) hneq (.int .i64 ((rp : Int) + (rv : Int)))
          show World.ownsRow _ _ _ _ _ ((bs.drop rp).take rv).length _
          rw [HL2.out]
          exact h1
        · have h1 := hg2.set 1 (.int .i64 ((rp : Int) + (rv : Int)))
          simpa [RRd] using h1
      · go_wp2_with fail
        refine (hCC.out.2 hcr).mono ?_
        rintro e w2 ⟨⟨u, rfl, ho⟩, hf⟩
        have hg2 := Blk.keep (show Blk W.drew g _ _ from HG2.out.1) hf trivial
        have z1 := hg2.cell 1
        have zf := hg2.frozen 1
        have zl := hg2.lt
        simp at z1
        have hneq : u.ownBlock ≠ some g := fun e => by have h1 := (own_lt ho e).1; have h2 := HG2.out.1.lt; simp at h1; omega
        have HU := Lib.hid (And.intro ho (And.intro (show Fresh W w2 from (Keep.refl _ W).drew.trans hf) (And.intro hg2 hneq)))
        clear ho hf hg2 hneq
        go_wp2_with fail
        go_ret
        obtain ⟨ho, hf, hg2, hneq⟩ := HU.out
        have hkk : Keep (fun k => k ≠ g) w w2 := HG2.out.2.1.comp hf (fun _ _ h => h) (fun _ _ _ => trivial)
        refine ⟨⟨u, rfl, ?_⟩, ?_, hkk.setCell (fun _ h => h rfl) _⟩
        · have h1 := own_far (own_base ho (base' := w.heap.size) (by have := HG2.out.2.1.size; simp; omega)) (p := ⟨g, 1, none⟩) hneq (.int .i64 ((rp : Int) + (rv : Int)))
          show World.ownsRow _ _ _ _ _ ((bs.drop rp).take rv).length _
          rw [HL2.out]
          exact h1
        · have h1 := hg2.set 1 (.int .i64 ((rp : Int) + (rv : Int)))
          simpa [RRd] using h1
  · rw [if_pos he] at ht
    subst ht
    clear hlen hle
    go_wp2_with fail
    go_ret
    exact ⟨⟨_, rfl, World.ownsRow_nil _ _ _ _⟩, HG.out.1, HG.out.2.1⟩

set_option maxRecDepth 20000 in
set_option maxHeartbeats 400000 in
theorem readEnd_any (g : Nat) (A : Option Addr) (n c p : Nat) (er : Int) (w : World) (hg : RRd w g A n c p er) :
    Calls Tryd.prog 36 #[.pointer (some ⟨g, 0, none⟩)] w fun e w' => e = .returned (.tuple #[]) ∧ RRd w' g A n c p (if er = 0 ∧ p ≠ n then 15 else er) ∧ Keep (fun k => k ≠ g) w w' := by
  have c0 := hg.cell 0
  have c1 := hg.cell 1
  have c2 := hg.cell 2
  have f2 := hg.frozen 2
  simp at c0 c1 c2
  obtain ⟨e2, he2⟩ : ∃ e2 : Int, e2 = (if er = 0 ∧ p ≠ n then 15 else er) := ⟨_, rfl⟩
  rw [← he2]
  have HG := Lib.hid hg
  clear hg
  by_cases he0 : er = 0
  · subst he0
    by_cases hpn : p = n
    · rw [if_neg (by simp [hpn])] at he2
      subst hpn he2
      go_enter Tryd.func36, Tryd.ntmps36
      go_wp2_with fail
      go_quiet (fail)
      go_wp2_with fail
      go_end0
      exact ⟨rfl, HG.out.drewN _, (Keep.refl _ w).drewN _⟩
    · have hpi : ¬ (p : Int) = (n : Int) := by omega
      rw [if_pos ⟨rfl, hpn⟩] at he2
      subst he2
      go_enter Tryd.func36, Tryd.ntmps36
      go_wp2_with fail
      go_quiet (fail)
      go_wp2_with fail
      go_end0
      exact ⟨rfl, HG.out.err _ 15, keep_step _ _ _ _ _⟩
  · rw [if_neg (fun h => he0 h.1)] at he2
    subst he2
    go_enter Tryd.func36, Tryd.ntmps36
    go_wp2_with fail
    go_quiet (fail)
    go_wp2_with fail
    go_end0
    exact ⟨rfl, HG.out.drewN _, (Keep.refl _ w).drewN _⟩

def TxtPost (g : Nat) (A : Option Addr) (n c : Nat) (w : World) (r : List UInt8 × Nat × Int) (e : Ending) (w' : World) : Prop :=
  e = .returned (str r.1) ∧ RRd w' g A n c r.2.1 r.2.2 ∧ Keep (fun k => k ≠ g) w w'
theorem readTxt_any (g : Nat) (Z : Nat → Prop) (A : Option Addr) (n c : Nat) (bs : List UInt8) (p : Nat) (er hi : Int) (w : World) (hg : RRd w g A n c p er) (hz : ∀ k, Z k → k ≠ g) (hp : p ≤ n) (hnc : n ≤ c) (hnil : n = 0 → c = 0 ∨ A ≠ none) (hb : Rd w Z 1 A n (Lib.byteCells bs)) (hn : n ≤ 1099511627770) (hh0 : 0 ≤ hi) (hhi : hi ≤ 1048576) :
    Calls Tryd.prog 35 #[.pointer (some ⟨g, 0, none⟩), .int .i64 hi] w fun e w' => TxtPost g A n c w (nByt bs p er hi) e w' := by
  have HC := readByt_any g Z A n c bs p er hi w hg hz hp hnc hnil hb hn hh0 hhi
  obtain ⟨r, hr⟩ : ∃ r, r = nByt bs p er hi := ⟨_, rfl⟩
  rw [← hr] at HC ⊢
  clear hr hg hz hp hnc hnil hb hn hh0 hhi
  replace HC := Lib.hid HC
  go_enter Tryd.func35, Tryd.ntmps35
  go_wp2_with fail
  refine HC.out.mono ?_
  rintro e w1 ⟨⟨u, rfl, ho⟩, hg1, hk1⟩
  obtain ⟨A1, c1, rfl, hrd, -⟩ := own_rd ho
  have hcv : (convert 24 9 (.slice A1 r.1.length c1)).run Tryd.prog w1 = .ok (str r.1) w1 := run_conv_str Tryd.underlying24 Tryd.underlying5 Tryd.underlying9 hrd c1
  have HN := Lib.hid (And.intro hg1 hk1)
  clear ho hrd hg1 hk1 HC
  obtain ⟨s, hs⟩ : ∃ s, s = str r.1 := ⟨_, rfl⟩
  rw [← hs] at hcv
  obtain ⟨m, hm⟩ : ∃ m, m = r.1.length := ⟨_, rfl⟩
  rw [← hm] at hcv ⊢
  have HS := Lib.hid hs
  obtain ⟨sv, hsv⟩ : ∃ sv : ByteArray, s = .string sv := ⟨_, hs⟩
  subst hsv
  clear hs hm
  go_wp2
  go_ret
  exact ⟨by rw [HS.out]; rfl, HN.out.1, HN.out.2⟩
end Go.Proofs.YtkgbhanpenpkmaaDoor
