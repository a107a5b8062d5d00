/-
  MERGED: Take Reader
-/
import Derived.Test.YtioinjcdkmiafaaDoorYA1
namespace Go.Proofs.YtioinjcdkmiafaaDoor
set_option linter.unusedVariables false
set_option linter.unusedSimpArgs false
open Go.RowKit
/-- What TakeInt hands back. -/
def TakeRes (p : Nat) (r : Nat × Nat × Int) (e : Ending) : Prop := e = .returned (.tuple #[.int .i64 (r.1 : Int), .int .i64 (if r.2.2 = 0 then ((p + r.2.1 : Nat) : Int) else 0), .int .i64 r.2.2])

set_option maxHeartbeats 400000 in
theorem TakeInt_in (Z : Nat → Prop) (A : Option Addr) (n c : Nat) (bs : List UInt8) (p : Nat) (w : World) (hp : p ≤ n) (hb : Rd w Z 1 A n (Lib.byteCells bs)) (hn : n ≤ 1099511627770) :
    Calls Tryd.prog 21 #[.slice A n c, .int .i64 (p : Int)] w fun e w' => TakeRes p (takeB (bs.drop p)) e ∧ w = w' := by
  have HB := Lib.hid hb
  have hlen : bs.length = n := by simpa [Lib.byteCells] using hb.1
  have HN := Lib.hid hlen
  clear hlen hb
  have h0 : ¬ (p : Int) < 0 := by omega
  have h1 : ¬ (n : Int) < (p : Int) := by omega
  go_enter Tryd.func21, Tryd.ntmps21
  go_wp2
  go_loop [7, 18] (fun v i => ∃ (k : Nat) (y : Int), k ≤ 9 ∧ i = .int .i64 (k : Int) ∧ v = .int .i64 y ∧ Hid (∃ v' : Nat, y = (v' : Int) ∧ p + k ≤ n ∧ v' < 2 ^ (7 * k) ∧ takeGo (9 - k) (bs.drop (p + k)) k v' = takeB (bs.drop p))) (fun _ i => 9 - (intOf i).toNat)
  case atStart => exact ⟨0, 0, by omega, rfl, rfl, 0, rfl, by omega, by decide, rfl⟩
  case round =>
    obtain ⟨k, y, hk, rfl, rfl, HR⟩ := hrel
    obtain ⟨v', hy, hpk, hv', hgo⟩ := HR.out
    by_cases hk9 : k < 9
    · obtain ⟨f, hf⟩ : ∃ f, 9 - k = f + 1 := ⟨8 - k, by omega⟩
      rw [hf] at hgo
      by_cases hin : p + k < n
      · obtain ⟨b, o, rfl, hzb, hll, hcell⟩ := HB.out.at1 hin
        have hkb : p + k < bs.length := by rw [HN.out]; exact hin
        rw [show (Lib.byteCells bs)[p + k] = .int .u8 (bs[p + k].toNat : Int) by simp [Lib.byteCells]] at hcell
        rw [takeGo_cons f bs (p + k) k v' hkb] at hgo
        obtain ⟨ch, hch⟩ : ∃ ch : UInt8, ch = bs[p + k] := ⟨_, rfl⟩
        rw [← hch] at hcell hgo
        obtain ⟨cz, hcz⟩ : ∃ cz : Int, cz = (ch.toNat : Int) := ⟨_, rfl⟩
        have hE := take_step v' ch.toNat k hv' ch.toNat_lt hk9
        have hlt := take_lt v' ch.toNat k hv'
        have hz63 : v' + (ch.toNat % 128) * 2 ^ (7 * k) < 2 ^ 63 := Nat.lt_of_lt_of_le hlt (Nat.pow_le_pow_right (by decide) (by omega))
        obtain ⟨z, hz⟩ : ∃ z : Nat, z = v' + (ch.toNat % 128) * 2 ^ (7 * k) := ⟨_, rfl⟩
        obtain ⟨zi, hzi⟩ : ∃ zi : Int, zi = (z : Int) := ⟨_, rfl⟩
        rw [← hz] at hgo hlt hz63 hE
        rw [← hy, ← hcz, ← hzi] at hE
        rw [← hcz] at hcell
        have hc0 : 0 ≤ cz := by omega
        have hc256 : cz < 256 := by have := ch.toNat_lt; omega
        have g0 : 0 ≤ zi := by omega
        have HE := Lib.hid hE
        have HH := Lib.hid (And.intro hcz (And.intro hzi (And.intro hlt (And.intro hz63 (And.intro hgo hf)))))
        clear hzb hll hch hcz hE hlt hz63 hz hzi hgo hv' hpk hy hf HR
        go_upto_region 11 with (fail)
        rw [HE.out]
        have HV := Lib.hid HH.out
        by_cases hbig : 127 < cz
        · have hfin : ∃ v' : Nat, zi = (v' : Int) ∧ p + (k + 1) ≤ n ∧ v' < 2 ^ (7 * (k + 1)) ∧ takeGo (9 - (k + 1)) (bs.drop (p + (k + 1))) (k + 1) v' = takeB (bs.drop p) := by
            obtain ⟨hcz, hzi, hlt, _, hgo, hf⟩ := HV.out
            rw [if_pos (by omega)] at hgo
            refine ⟨z, hzi, by omega, hlt, ?_⟩
            rw [show 9 - (k + 1) = f by omega, show p + (k + 1) = p + k + 1 by omega]
            exact hgo
          have HF := Lib.hid hfin
          clear hfin HV HH HE
          go_wp2
          exact ⟨⟨k + 1, zi, by omega, congrArg _ (by omega), rfl, HF.out⟩, by simp [intOf]; omega⟩
        · by_cases hzero : cz = 0 ∧ 0 < k
          · obtain ⟨rfl, hk0⟩ := hzero
            have hfin : TakeRes p (takeB (bs.drop p)) (.returned (.tuple #[.int .i64 0, .int .i64 0, .int .i64 14])) := by
              obtain ⟨hcz, hzi, hlt, _, hgo, hf⟩ := HV.out
              rw [if_neg (by omega), if_pos (.inl ⟨by omega, hk0⟩)] at hgo
              rw [← hgo]; rfl
            have HF := Lib.hid hfin
            clear hfin HV HH HE
            go_wp2
            go_ret3
            exact ⟨HF.out, rfl⟩
          · by_cases hbz : (4611686018427387904 : Int) < zi
            · have hfin : TakeRes p (takeB (bs.drop p)) (.returned (.tuple #[.int .i64 0, .int .i64 0, .int .i64 14])) := by
                obtain ⟨hcz, hzi, hlt, _, hgo, hf⟩ := HV.out
                rw [if_neg (by omega), if_pos (.inr (by omega))] at hgo
                rw [← hgo]; rfl
              have HF := Lib.hid hfin
              clear hfin HV HH HE
              by_cases hc00 : cz = 0
              · obtain rfl : k = 0 := by omega
                subst hc00
                go_wp2
                go_ret3
                exact ⟨HF.out, rfl⟩
              · go_wp2
                go_ret3
                exact ⟨HF.out, rfl⟩
            · have hfin : TakeRes p (takeB (bs.drop p)) (.returned (.tuple #[.int .i64 zi, .int .i64 ((p : Int) + (k : Int) + 1), .int .i64 0])) := by
                obtain ⟨hcz, hzi, hlt, _, hgo, hf⟩ := HV.out
                rw [if_neg (by omega), if_neg (by omega)] at hgo
                rw [← hgo]
                unfold TakeRes
                rw [hzi]
                simp
                omega
              have HF := Lib.hid hfin
              clear hfin HV HH HE
              by_cases hc00 : cz = 0
              · obtain rfl : k = 0 := by omega
                subst hc00
                go_wp2
                go_ret3
                exact ⟨HF.out, rfl⟩
              · go_wp2
                go_ret3
                exact ⟨HF.out, rfl⟩
      · have hfin : TakeRes p (takeB (bs.drop p)) (.returned (.tuple #[.int .i64 0, .int .i64 0, .int .i64 10])) := by
          rw [takeGo_end f bs (p + k) k v' (by rw [HN.out]; omega)] at hgo
          rw [← hgo]; rfl
        have HF := Lib.hid hfin
        clear hfin hgo hf hv' hpk HR hy
        go_wp2
        go_ret3
        exact ⟨HF.out, rfl⟩
    · obtain rfl : k = 9 := by omega
      have hfin : TakeRes p (takeB (bs.drop p)) (.returned (.tuple #[.int .i64 0, .int .i64 0, .int .i64 14])) := by
        rw [← hgo]; rfl
      have HF := Lib.hid hfin
      clear hfin hgo hv' hpk HR hy
      go_wp2
      go_ret3
      exact ⟨HF.out, rfl⟩
end Go.Proofs.YtioinjcdkmiafaaDoor
namespace Go.Proofs.YtioinjcdkmiafaaDoor
set_option linter.unusedVariables false
set_option linter.unusedSimpArgs false
open Go.RowKit
/-- Block g is a reader of the bytes at A, at place p. -/
def Rdr (w : World) (g : Nat) (A : Option Addr) (n c p : Nat) (bad : Bool) : Prop := Blk w g 85 #[.slice A n c, .int .i64 (p : Int), .bool bad]
theorem Rdr.spoilt {w : World} {g : Nat} {A : Option Addr} {n c p : Nat} {bad : Bool} (h : Rdr w g A n c p bad) (k : Nat) : Rdr ((w.drewN k).setCell ⟨g, 2, none⟩ (.bool true)) g A n c p true := by
  simpa [Rdr] using (Blk.drewN h k).set 2 (.bool true)
theorem Rdr.goes {w : World} {g : Nat} {A : Option Addr} {n c p : Nat} {bad : Bool} (h : Rdr w g A n c p bad) (k p' : Nat) : Rdr ((w.drewN k).setCell ⟨g, 1, none⟩ (.int .i64 (p' : Int))) g A n c p' bad := by
  simpa [Rdr] using (Blk.drewN h k).set 1 (.int .i64 (p' : Int))
theorem keep_step (g i k : Nat) (w : World) (u : Value) : Keep (fun k => k ≠ g) w ((w.drewN k).setCell ⟨g, i, none⟩ u) := ((Keep.refl _ w).drewN k).setCell (fun _ h => h rfl) u
/-- What is said behind 'count'. -/
def CountPost (g : Nat) (A : Option Addr) (n c : Nat) (w : World) (r : Nat × Nat × Bool) (e : Ending) (w' : World) : Prop :=
  e = .returned (.int .i64 (r.1 : Int)) ∧ Rdr w' g A n c r.2.1 r.2.2 ∧ Keep (fun k => k ≠ g) w w'

set_option maxHeartbeats 400000 in
theorem rcount_any (g : Nat) (Z : Nat → Prop) (A : Option Addr) (n c : Nat) (bs : List UInt8) (p : Nat) (bad : Bool) (most : Int) (w : World) (hg : Rdr w g A n c p bad) (hp : p ≤ n) (hb : Rd w Z 1 A n (Lib.byteCells bs)) (hn : n ≤ 1099511627770) :
    Calls Tryd.prog 35 #[.pointer (some ⟨g, 0, none⟩), .int .i64 most] w fun e w' => CountPost g A n c w (rCount bs p bad most) e w' := by
  have c0 := hg.cell 0
  have c1 := hg.cell 1
  have c2 := hg.cell 2
  have f1 := hg.frozen 1
  have f2 := hg.frozen 2
  simp at c0 c1 c2
  obtain ⟨r, hr⟩ : ∃ r, r = takeB (bs.drop p) := ⟨_, rfl⟩
  have hT := fun k => TakeInt_in Z A n c bs p (w.drewN k) hp (hb.drewN k) hn
  rw [← hr] at hT
  have HT := Lib.hid hT
  have HG := Lib.hid hg
  have HR := Lib.hid hr
  clear hT hg hr hb
  obtain ⟨rv, rl, re⟩ := r
  cases bad with
  | true =>
    go_enter Tryd.func35, Tryd.ntmps35
    go_wp2_with fail
    go_quiet ((go_at_call 21; exact quiet_left (HT.out _)))
    go_wp2_with fail
    all_goals
      go_ret
      refine ⟨ret_int (by simp [rCount]), ?_, keep_step _ _ _ _ _⟩
      have := HG.out.spoilt nq
      simpa [rCount] using this
  | false =>
    by_cases he : re = 0
    · subst he
      by_cases hm : most < (rv : Int)
      · go_enter Tryd.func35, Tryd.ntmps35
        go_wp2_with fail
        go_quiet ((go_at_call 21; exact quiet_left (HT.out _)))
        go_wp2_with fail
        go_ret
        have e1 : rCount bs p false most = (0, p, true) := by rw [rCount, if_pos (.inr (.inr (by rw [← HR.out]; exact hm)))]
        rw [e1]
        exact ⟨rfl, HG.out.spoilt nq, keep_step _ _ _ _ _⟩
      · go_enter Tryd.func35, Tryd.ntmps35
        go_wp2_with fail
        go_quiet ((go_at_call 21; exact quiet_left (HT.out _)))
        go_wp2_with fail
        go_ret
        have e1 : rCount bs p false most = (rv, p + rl, false) := by
          rw [rCount, ← HR.out]
          rw [if_neg (by simp; omega)]
        rw [e1]
        exact ⟨rfl, by simpa using HG.out.goes nq (p + rl), keep_step _ _ _ _ _⟩
    · go_enter Tryd.func35, Tryd.ntmps35
      go_wp2_with fail
      go_quiet ((go_at_call 21; exact quiet_left (HT.out _)))
      go_wp2_with fail
      go_ret
      have e1 : rCount bs p false most = (0, p, true) := by rw [rCount, if_pos (.inr (.inl (by rw [← HR.out]; exact he)))]
      rw [e1]
      exact ⟨rfl, HG.out.spoilt nq, keep_step _ _ _ _ _⟩

def TextPost (g : Nat) (A : Option Addr) (n c : Nat) (w : World) (r : List UInt8 × Nat × Bool) (e : Ending) (w' : World) : Prop :=
  e = .returned (.string ⟨r.1.toArray⟩) ∧ Rdr w' g A n c r.2.1 r.2.2 ∧ Keep (fun k => k ≠ g) w w'
set_option maxHeartbeats 400000 in
theorem rtext_any (g : Nat) (Z : Nat → Prop) (A : Option Addr) (n c : Nat) (bs : List UInt8) (p : Nat) (bad : Bool) (most : Int) (w : World) (hg : Rdr w g A n c p bad) (hz : ∀ k, Z k → k ≠ g) (hp : p ≤ n) (hnc : n ≤ c) (hb : Rd w Z 1 A n (Lib.byteCells bs)) (hn : n ≤ 1099511627770) :
    Calls Tryd.prog 45 #[.pointer (some ⟨g, 0, none⟩), .int .i64 most] w fun e w' => TextPost g A n c w (rText bs p bad most) e w' := by
  have hC := rcount_any g Z A n c bs p bad most w hg hp hb hn
  have hle := rCount_le bs p bad most (by have : bs.length = n := by simpa [Lib.byteCells] using hb.1
                                          omega)
  have hlen : bs.length = n := by simpa [Lib.byteCells] using hb.1
  obtain ⟨r, hr⟩ : ∃ r, r = rCount bs p bad most := ⟨_, rfl⟩
  have hT : rText bs p bad most = if r.2.2 = true ∨ bs.length < r.2.1 + r.1 then ([], r.2.1, true) else ((bs.drop r.2.1).take r.1, r.2.1 + r.1, false) := by rw [hr]; rfl
  rw [← hr] at hC hle
  obtain ⟨t, ht⟩ : ∃ t, t = rText bs p bad most := ⟨_, rfl⟩
  rw [← ht] at hT ⊢
  clear ht
  obtain ⟨rv, rp, rb⟩ := r
  dsimp only at hC hle hT
  have HC := Lib.hid hC
  have HN := Lib.hid (And.intro hlen (And.intro hle (And.intro hr hT)))
  have HB := Lib.hid hb
  clear hC hle hlen hr hT hg hb
  go_enter Tryd.func45, Tryd.ntmps45
  go_wp2_with fail
  refine HC.out.mono ?_
  rintro e w1 ⟨rfl, hg1, hk1⟩
  have hb1 := HB.out.keep (hk1.weaken (fun k _ hk => hz k hk))
  have c0 := hg1.cell 0
  have c1 := hg1.cell 1
  have c2 := hg1.cell 2
  have f1 := hg1.frozen 1
  have f2 := hg1.frozen 2
  simp at c0 c1 c2
  have HG := Lib.hid (And.intro hg1 (And.intro hk1 hb1))
  clear hg1 hk1 hb1
  cases rb with
  | true =>
    go_wp2_with fail
    go_quiet (fail)
    go_wp2_with fail
    go_ret
    obtain ⟨_, _, _, hT⟩ := HN.out
    rw [if_pos (by simp)] at hT
    rw [hT]
    exact ⟨rfl, HG.out.1.spoilt _, HG.out.2.1.comp (keep_step g 2 _ w1 _) (fun _ _ h => h) (fun _ _ h => h)⟩
  | false =>
    obtain ⟨hlen, hle, _, hT⟩ := HN.out
    have hpn : rp ≤ n := by omega
    by_cases hbig : (n : Int) - (rp : Int) < (rv : Int)
    · have hlt : bs.length < rp + rv := by omega
      rw [if_pos (.inr hlt)] at hT
      have HL := Lib.hid hT
      clear hlt hlen hle hT HN
      go_wp2_with fail
      go_quiet (fail)
      go_wp2_with fail
      go_ret
      rw [HL.out]
      exact ⟨rfl, HG.out.1.spoilt _, HG.out.2.1.comp (keep_step g 2 _ w1 _) (fun _ _ h => h) (fun _ _ h => h)⟩
    · have hlt : rp + rv ≤ n := by omega
      rw [if_neg (by rintro (h | h); exact absurd h (by decide); omega)] at hT
      have HL := Lib.hid hT
      clear hlen hle hT HN
      go_wp2_with fail
      go_quiet (fail)
      go_wp2_with fail
      have hcut : ∀ k, Sem.run Tryd.prog (convert 27 9 (.slice (if c = rp then A else Option.map (fun x => x.add rp) A) rv (c - rp))) (w1.drewN k) = .ok (.string ⟨((bs.drop rp).take rv).toArray⟩) (w1.drewN k) := fun k => by
        have h1 := (HG.out.2.2.drewN k).cut1 hlt hnc
        rw [byteCells_cut] at h1
        exact run_conv_str Tryd.underlying27 Tryd.underlying5 Tryd.underlying9 h1 (c - rp)
      go_quiet (fail)
      have HX := Lib.hid hcut
      clear hcut
      go_wp2_with fail
      go_ret
      · rename_i h
        rw [HL.out]
        rw [show TextPost g A n rp w = TextPost g A n c w by rw [h]]
        exact ⟨rfl, by simpa using HG.out.1.goes _ (rp + rv), HG.out.2.1.comp (keep_step g 1 _ w1 _) (fun _ _ h => h) (fun _ _ h => h)⟩
      · go_ret
        rw [HL.out]
        exact ⟨rfl, by simpa using HG.out.1.goes _ (rp + rv), HG.out.2.1.comp (keep_step g 1 _ w1 _) (fun _ _ h => h) (fun _ _ h => h)⟩


set_option maxHeartbeats 400000 in
theorem rsound_any (g : Nat) (A : Option Addr) (n c p : Nat) (bad : Bool) (w : World) (hg : Rdr w g A n c p bad) :
    Calls Tryd.prog 39 #[.pointer (some ⟨g, 0, none⟩)] w fun e w' => e = .returned (.bool (!bad && decide (p = n))) ∧ ∃ k, w' = w.drewN k := by
  have c0 := hg.cell 0
  have c1 := hg.cell 1
  have c2 := hg.cell 2
  simp at c0 c1 c2
  clear hg
  go_enter Tryd.func39, Tryd.ntmps39
  cases bad with
  | true =>
    go_wp2_with fail
    go_quiet (fail)
    go_wp2_with fail
    go_ret
    exact ⟨by simp, _, rfl⟩
  | false =>
    go_wp2_with fail
    go_quiet (fail)
    go_wp2_with fail
    go_ret
    exact ⟨ret_bool (by rw [Bool.eq_iff_iff]; simp; exact Int.ofNat_inj), _, rfl⟩

end Go.Proofs.YtioinjcdkmiafaaDoor
