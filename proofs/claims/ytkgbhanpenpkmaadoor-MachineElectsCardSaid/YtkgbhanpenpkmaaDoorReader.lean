/-
  WALKS OF machine's reader: 'count', 'text', 'sound'.
-/
import Derived.Test.YtkgbhanpenpkmaaDoorTake
namespace Go.Proofs.YtkgbhanpenpkmaaDoor
set_option linter.unusedVariables false
set_option linter.unusedSimpArgs false
open Go.RowKit
/-- Block g is a reader of the bytes at A, at place p. -/
def Rdr (w : World) (g : Nat) (A : Option Addr) (n c p : Nat) (bad : Bool) : Prop := Blk w g 70 #[.slice A n c, .int .i64 (p : Int), .bool bad]
/-- What 'count' does: the number, the place, is it amiss? -/
def rCount (bs : List UInt8) (p : Nat) (bad : Bool) (most : Int) : Nat × Nat × Bool :=
  if bad = true ∨ (takeB (bs.drop p)).2.2 ≠ 0 ∨ most < ((takeB (bs.drop p)).1 : Int) then (0, p, true) else ((takeB (bs.drop p)).1, p + (takeB (bs.drop p)).2.1, false)

theorem Rdr.spoilt {w : World} {g : Nat} {A : Option Addr} {n c p : Nat} {bad : Bool} (h : Rdr w g A n c p bad) (k : Nat) : Rdr ((w.drewN k).setCell ⟨g, 2, none⟩ (.bool true)) g A n c p true := by
  simpa [Rdr] using (Blk.drewN h k).set 2 (.bool true)
theorem Rdr.goes {w : World} {g : Nat} {A : Option Addr} {n c p : Nat} {bad : Bool} (h : Rdr w g A n c p bad) (k p' : Nat) : Rdr ((w.drewN k).setCell ⟨g, 1, none⟩ (.int .i64 (p' : Int))) g A n c p' bad := by
  simpa [Rdr] using (Blk.drewN h k).set 1 (.int .i64 (p' : Int))
theorem keep_step (g i k : Nat) (w : World) (u : Value) : Keep (fun k => k ≠ g) w ((w.drewN k).setCell ⟨g, i, none⟩ u) := ((Keep.refl _ w).drewN k).setCell (fun _ h => h rfl) u
/-- What is said behind 'count'. -/
def CountPost (g : Nat) (A : Option Addr) (n c : Nat) (w : World) (r : Nat × Nat × Bool) (e : Ending) (w' : World) : Prop :=
  e = .returned (.int .i64 (r.1 : Int)) ∧ Rdr w' g A n c r.2.1 r.2.2 ∧ Keep (fun k => k ≠ g) w w'

set_option maxHeartbeats 400000 in
theorem rcount_any (g : Nat) (Z : Nat → Prop) (A : Option Addr) (n c : Nat) (bs : List UInt8) (p : Nat) (bad : Bool) (most : Int) (w : World) (hg : Rdr w g A n c p bad) (hp : p ≤ n) (hb : Rd w Z 1 A n (Lib.byteCells bs)) (hn : n ≤ 1099511627770) :
    Calls Tryd.prog 31 #[.pointer (some ⟨g, 0, none⟩), .int .i64 most] w fun e w' => CountPost g A n c w (rCount bs p bad most) e w' := by
  have c0 := hg.cell 0
  have c1 := hg.cell 1
  have c2 := hg.cell 2
  have f1 := hg.frozen 1
  have f2 := hg.frozen 2
  simp at c0 c1 c2
  obtain ⟨r, hr⟩ : ∃ r, r = takeB (bs.drop p) := ⟨_, rfl⟩
  have hT := fun k => TakeInt_in Z A n c bs p (w.drewN k) hp (hb.drewN k) hn
  rw [← hr] at hT
  have HT := Lib.hid hT
  have HG := Lib.hid hg
  have HR := Lib.hid hr
  clear hT hg hr hb
  obtain ⟨rv, rl, re⟩ := r
  cases bad with
  | true =>
    go_enter Tryd.func31, Tryd.ntmps31
    go_wp2_with fail
    go_quiet ((go_at_call 50; exact quiet_left (HT.out _)))
    go_wp2_with fail
    all_goals
      go_ret
      refine ⟨ret_int (by simp [rCount]), ?_, keep_step _ _ _ _ _⟩
      have := HG.out.spoilt nq
      simpa [rCount] using this
  | false =>
    by_cases he : re = 0
    · subst he
      by_cases hm : most < (rv : Int)
      · go_enter Tryd.func31, Tryd.ntmps31
        go_wp2_with fail
        go_quiet ((go_at_call 50; exact quiet_left (HT.out _)))
        go_wp2_with fail
        go_ret
        have e1 : rCount bs p false most = (0, p, true) := by rw [rCount, if_pos (.inr (.inr (by rw [← HR.out]; exact hm)))]
        rw [e1]
        exact ⟨rfl, HG.out.spoilt nq, keep_step _ _ _ _ _⟩
      · go_enter Tryd.func31, Tryd.ntmps31
        go_wp2_with fail
        go_quiet ((go_at_call 50; exact quiet_left (HT.out _)))
        go_wp2_with fail
        go_ret
        have e1 : rCount bs p false most = (rv, p + rl, false) := by
          rw [rCount, ← HR.out]
          rw [if_neg (by simp; omega)]
        rw [e1]
        exact ⟨rfl, by simpa using HG.out.goes nq (p + rl), keep_step _ _ _ _ _⟩
    · go_enter Tryd.func31, Tryd.ntmps31
      go_wp2_with fail
      go_quiet ((go_at_call 50; exact quiet_left (HT.out _)))
      go_wp2_with fail
      go_ret
      have e1 : rCount bs p false most = (0, p, true) := by rw [rCount, if_pos (.inr (.inl (by rw [← HR.out]; exact he)))]
      rw [e1]
      exact ⟨rfl, HG.out.spoilt nq, keep_step _ _ _ _ _⟩

/-- What 'text' does: the text, the place, is it amiss? -/
def rText (bs : List UInt8) (p : Nat) (bad : Bool) (most : Int) : List UInt8 × Nat × Bool :=
  if (rCount bs p bad most).2.2 = true ∨ bs.length < (rCount bs p bad most).2.1 + (rCount bs p bad most).1 then ([], (rCount bs p bad most).2.1, true)
  else ((bs.drop (rCount bs p bad most).2.1).take (rCount bs p bad most).1, (rCount bs p bad most).2.1 + (rCount bs p bad most).1, false)
def TextPost (g : Nat) (A : Option Addr) (n c : Nat) (w : World) (r : List UInt8 × Nat × Bool) (e : Ending) (w' : World) : Prop :=
  e = .returned (.string ⟨r.1.toArray⟩) ∧ Rdr w' g A n c r.2.1 r.2.2 ∧ Keep (fun k => k ≠ g) w w'
theorem takeGo_le : ∀ (f : Nat) (l : List UInt8) (i v : Nat), (takeGo f l i v).2.2 = 0 → (takeGo f l i v).2.1 ≤ i + l.length := by
  intro f
  induction f with
  | zero => intro l i v h; simp [takeGo] at h
  | succ f ih =>
    intro l i v h
    cases l with
    | nil => simp [takeGo] at h
    | cons c r =>
      simp only [takeGo] at h ⊢
      split
      · rename_i hc
        rw [if_pos hc] at h
        have := ih r (i + 1) _ h
        simp only [List.length_cons]
        omega
      · rename_i hc
        rw [if_neg hc] at h
        split
        · simp
        · simp only [List.length_cons]; omega
theorem rCount_le (bs : List UInt8) (p : Nat) (bad : Bool) (most : Int) (hp : p ≤ bs.length) : (rCount bs p bad most).2.1 ≤ bs.length := by
  unfold rCount
  split
  · exact hp
  · rename_i h
    have h2 : (takeB (bs.drop p)).2.2 = 0 := by
      rcases Classical.em ((takeB (bs.drop p)).2.2 = 0) with h1 | h1
      · exact h1
      · exact absurd (.inr (.inl h1)) h
    have := takeGo_le 9 (bs.drop p) 0 0 h2
    rw [List.length_drop] at this
    show p + (takeB (bs.drop p)).2.1 ≤ _
    unfold takeB
    omega

set_option maxHeartbeats 400000 in
theorem rtext_any (g : Nat) (Z : Nat → Prop) (A : Option Addr) (n c : Nat) (bs : List UInt8) (p : Nat) (bad : Bool) (most : Int) (w : World) (hg : Rdr w g A n c p bad) (hz : ∀ k, Z k → k ≠ g) (hp : p ≤ n) (hnc : n ≤ c) (hb : Rd w Z 1 A n (Lib.byteCells bs)) (hn : n ≤ 1099511627770) :
    Calls Tryd.prog 32 #[.pointer (some ⟨g, 0, none⟩), .int .i64 most] w fun e w' => TextPost g A n c w (rText bs p bad most) e w' := by
  have hC := rcount_any g Z A n c bs p bad most w hg hp hb hn
  have hle := rCount_le bs p bad most (by have : bs.length = n := by simpa [Lib.byteCells] using hb.1
                                          omega)
  have hlen : bs.length = n := by simpa [Lib.byteCells] using hb.1
  obtain ⟨r, hr⟩ : ∃ r, r = rCount bs p bad most := ⟨_, rfl⟩
  have hT : rText bs p bad most = if r.2.2 = true ∨ bs.length < r.2.1 + r.1 then ([], r.2.1, true) else ((bs.drop r.2.1).take r.1, r.2.1 + r.1, false) := by rw [hr]; rfl
  rw [← hr] at hC hle
  obtain ⟨t, ht⟩ : ∃ t, t = rText bs p bad most := ⟨_, rfl⟩
  rw [← ht] at hT ⊢
  clear ht
  obtain ⟨rv, rp, rb⟩ := r
  dsimp only at hC hle hT
  have HC := Lib.hid hC
  have HN := Lib.hid (And.intro hlen (And.intro hle (And.intro hr hT)))
  have HB := Lib.hid hb
  clear hC hle hlen hr hT hg hb
  go_enter Tryd.func32, Tryd.ntmps32
  go_wp2_with fail
  refine HC.out.mono ?_
  rintro e w1 ⟨rfl, hg1, hk1⟩
  have hb1 := HB.out.keep (hk1.weaken (fun k _ hk => hz k hk))
  have c0 := hg1.cell 0
  have c1 := hg1.cell 1
  have c2 := hg1.cell 2
  have f1 := hg1.frozen 1
  have f2 := hg1.frozen 2
  simp at c0 c1 c2
  have HG := Lib.hid (And.intro hg1 (And.intro hk1 hb1))
  clear hg1 hk1 hb1
  cases rb with
  | true =>
    go_wp2_with fail
    go_quiet (fail)
    go_wp2_with fail
    go_ret
    obtain ⟨_, _, _, hT⟩ := HN.out
    rw [if_pos (by simp)] at hT
    rw [hT]
    exact ⟨rfl, HG.out.1.spoilt _, HG.out.2.1.comp (keep_step g 2 _ w1 _) (fun _ _ h => h) (fun _ _ h => h)⟩
  | false =>
    obtain ⟨hlen, hle, _, hT⟩ := HN.out
    have hpn : rp ≤ n := by omega
    by_cases hbig : (n : Int) - (rp : Int) < (rv : Int)
    · have hlt : bs.length < rp + rv := by omega
      rw [if_pos (.inr hlt)] at hT
      have HL := Lib.hid hT
      clear hlt hlen hle hT HN
      go_wp2_with fail
      go_quiet (fail)
      go_wp2_with fail
      go_ret
      rw [HL.out]
      exact ⟨rfl, HG.out.1.spoilt _, HG.out.2.1.comp (keep_step g 2 _ w1 _) (fun _ _ h => h) (fun _ _ h => h)⟩
    · have hlt : rp + rv ≤ n := by omega
      rw [if_neg (by rintro (h | h); exact absurd h (by decide); omega)] at hT
      have HL := Lib.hid hT
      clear hlen hle hT HN
      go_wp2_with fail
      go_quiet (fail)
      go_wp2_with fail
      have hcut : ∀ k, Sem.run Tryd.prog (convert 24 9 (.slice (if c = rp then A else Option.map (fun x => x.add rp) A) rv (c - rp))) (w1.drewN k) = .ok (.string ⟨((bs.drop rp).take rv).toArray⟩) (w1.drewN k) := fun k => by
        have h1 := (HG.out.2.2.drewN k).cut1 hlt hnc
        rw [byteCells_cut] at h1
        exact run_conv_str Tryd.underlying24 Tryd.underlying5 Tryd.underlying9 h1 (c - rp)
      go_quiet (fail)
      have HX := Lib.hid hcut
      clear hcut
      go_wp2_with fail
      go_ret
      · rename_i h
        rw [HL.out]
        rw [show TextPost g A n rp w = TextPost g A n c w by rw [h]]
        exact ⟨rfl, by simpa using HG.out.1.goes _ (rp + rv), HG.out.2.1.comp (keep_step g 1 _ w1 _) (fun _ _ h => h) (fun _ _ h => h)⟩
      · go_ret
        rw [HL.out]
        exact ⟨rfl, by simpa using HG.out.1.goes _ (rp + rv), HG.out.2.1.comp (keep_step g 1 _ w1 _) (fun _ _ h => h) (fun _ _ h => h)⟩


set_option maxHeartbeats 400000 in
theorem rsound_any (g : Nat) (A : Option Addr) (n c p : Nat) (bad : Bool) (w : World) (hg : Rdr w g A n c p bad) :
    Calls Tryd.prog 33 #[.pointer (some ⟨g, 0, none⟩)] w fun e w' => e = .returned (.bool (!bad && decide (p = n))) ∧ ∃ k, w' = w.drewN k := by
  have c0 := hg.cell 0
  have c1 := hg.cell 1
  have c2 := hg.cell 2
  simp at c0 c1 c2
  clear hg
  go_enter Tryd.func33, Tryd.ntmps33
  cases bad with
  | true =>
    go_wp2_with fail
    go_quiet (fail)
    go_wp2_with fail
    go_ret
    exact ⟨by simp, _, rfl⟩
  | false =>
    go_wp2_with fail
    go_quiet (fail)
    go_wp2_with fail
    go_ret
    exact ⟨ret_bool (by rw [Bool.eq_iff_iff]; simp; exact Int.ofNat_inj), _, rfl⟩

end Go.Proofs.YtkgbhanpenpkmaaDoor
