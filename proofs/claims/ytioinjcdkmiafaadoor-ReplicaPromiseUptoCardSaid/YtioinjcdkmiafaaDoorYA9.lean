/-
  MERGED: RTake RReader
-/
import Derived.Test.YtioinjcdkmiafaaDoorYA2
import Derived.Test.YtioinjcdkmiafaaDoorYA1
import Derived.Test.YtioinjcdkmiafaaDoorYA3
import Derived.Test.YtioinjcdkmiafaaDoorYA4
import Derived.Test.YtioinjcdkmiafaaDoorYA7
import Derived.StillTailTactics
namespace Go.Proofs.YtioinjcdkmiafaaDoor
set_option linter.unusedVariables false
set_option linter.unusedSimpArgs false
open Go.RowKit

/-- 'v + c%128*worth'. -/
theorem rtake_step (v a k : Nat) (hv : v < 2 ^ (7 * k)) (ha : a < 256) (hk : k < 9) (wo : Int) (hw : wo = 2 ^ (7 * k)) :
    wrap64 ((v : Int) + wrap64 ((a : Int) % 128 * wo)) = ((v + (a % 128) * 2 ^ (7 * k) : Nat) : Int) := by
  have hm : a % 128 < 128 := Nat.mod_lt _ (by decide)
  have hp : 2 ^ (7 * k) ≤ 2 ^ 56 := Nat.pow_le_pow_right (by decide) (by omega)
  have hb : (a % 128) * 2 ^ (7 * k) ≤ 127 * 2 ^ 56 := Nat.mul_le_mul (by omega) hp
  have e2 : (a : Int) % 128 * wo = (((a % 128) * 2 ^ (7 * k) : Nat) : Int) := by
    rw [hw, Int.natCast_mul, Int.natCast_pow]; rfl
  rw [e2]
  have e3 : wrap64 (((a % 128) * 2 ^ (7 * k) : Nat) : Int) = (((a % 128) * 2 ^ (7 * k) : Nat) : Int) := by unfold wrap64; omega
  rw [e3]
  unfold wrap64
  omega

set_option maxRecDepth 20000 in
set_option maxHeartbeats 1000000 in
theorem rTakeInt_in (Z : Nat → Prop) (A : Option Addr) (n c : Nat) (bs : List UInt8) (p : Nat) (w : World) (hp : p ≤ n) (hb : Rd w Z 1 A n (Lib.byteCells bs)) (hn : n ≤ 1099511627770) :
    Calls Tryd.prog 26 #[.slice A n c, .int .i64 (p : Int)] w fun e w' => TakeRes p (takeB (bs.drop p)) e ∧ w = w' := by
  have HB := Lib.hid hb
  have hlen : bs.length = n := by simpa [Lib.byteCells] using hb.1
  have HN := Lib.hid hlen
  clear hlen hb
  have h0 : ¬ (p : Int) < 0 := by omega
  have h1 : ¬ (n : Int) < (p : Int) := by omega
  go_enter Tryd.func26, Tryd.ntmps26
  go_wp2
  go_loop [7, 8, 9, 10] (fun v wo i _ => ∃ (k : Nat) (y u : Int), k ≤ 9 ∧ i = .int .i64 (k : Int) ∧ v = .int .i64 y ∧ wo = .int .i64 u ∧ Hid ((∃ v' : Nat, y = (v' : Int) ∧ p + k ≤ n ∧ v' < 2 ^ (7 * k) ∧ takeGo (9 - k) (bs.drop (p + k)) k v' = takeB (bs.drop p)) ∧ (k < 9 → u = 2 ^ (7 * k)))) (fun _ _ i _ => 9 - (intOf i).toNat)
  case atStart => exact ⟨0, 0, 1, by omega, rfl, rfl, rfl, ⟨0, rfl, by omega, by decide, rfl⟩, fun _ => rfl⟩
  case round =>
    obtain ⟨k, y, u, hk, rfl, rfl, rfl, HR⟩ := hrel
    obtain ⟨⟨v', hy, hpk, hv', hgo⟩, hu0⟩ := HR.out
    by_cases hk9 : k < 9
    · have hu := hu0 hk9
      clear hu0
      obtain ⟨f, hf⟩ : ∃ f, 9 - k = f + 1 := ⟨8 - k, by omega⟩
      rw [hf] at hgo
      by_cases hin : p + k < n
      · obtain ⟨b, o, rfl, hzb, hll, hcell⟩ := HB.out.at1 hin
        have hkb : p + k < bs.length := by rw [HN.out]; exact hin
        rw [show (Lib.byteCells bs)[p + k] = .int .u8 (bs[p + k].toNat : Int) by simp [Lib.byteCells]] at hcell
        rw [takeGo_cons f bs (p + k) k v' hkb] at hgo
        obtain ⟨ch, hch⟩ : ∃ ch : UInt8, ch = bs[p + k] := ⟨_, rfl⟩
        rw [← hch] at hcell hgo
        obtain ⟨cz, hcz⟩ : ∃ cz : Int, cz = (ch.toNat : Int) := ⟨_, rfl⟩
        have hE := rtake_step v' ch.toNat k hv' ch.toNat_lt hk9 u hu
        have hlt := take_lt v' ch.toNat k hv'
        have hz63 : v' + (ch.toNat % 128) * 2 ^ (7 * k) < 2 ^ 63 := Nat.lt_of_lt_of_le hlt (Nat.pow_le_pow_right (by decide) (by omega))
        obtain ⟨z, hz⟩ : ∃ z : Nat, z = v' + (ch.toNat % 128) * 2 ^ (7 * k) := ⟨_, rfl⟩
        obtain ⟨zi, hzi⟩ : ∃ zi : Int, zi = (z : Int) := ⟨_, rfl⟩
        rw [← hz] at hgo hlt hz63 hE
        rw [← hy, ← hcz, ← hzi] at hE
        rw [← hcz] at hcell
        have hc0 : 0 ≤ cz := by omega
        have hc256 : cz < 256 := by have := ch.toNat_lt; omega
        have g0 : 0 ≤ zi := by omega
        have HE := Lib.hid hE
        have hu8 : k < 8 → wrap64 (u * 128) = 2 ^ (7 * (k + 1)) := fun h8 => by
          have hp : (2 : Nat) ^ (7 * k) ≤ 2 ^ 49 := Nat.pow_le_pow_right (by decide) (by omega)
          have e1 : u = ((2 ^ (7 * k) : Nat) : Int) := by rw [hu, Int.natCast_pow]; rfl
          have e2 : (2 : Int) ^ (7 * (k + 1)) = ((2 ^ (7 * (k + 1)) : Nat) : Int) := by rw [Int.natCast_pow]; rfl
          rw [e2, show 7 * (k + 1) = 7 * k + 7 by omega, Nat.pow_add, e1]
          unfold wrap64
          omega
        have HH := Lib.hid (And.intro hcz (And.intro hzi (And.intro hlt (And.intro hz63 (And.intro hgo (And.intro hf hu8))))))
        clear hzb hll hch hcz hE hlt hz63 hz hzi hgo hv' hpk hy hf HR hu hu8
        go_upto_region 12 with (fail)
        rw [HE.out]
        have HV := Lib.hid HH.out
        by_cases hbig : 127 < cz
        · have hfin : ∃ v' : Nat, zi = (v' : Int) ∧ p + (k + 1) ≤ n ∧ v' < 2 ^ (7 * (k + 1)) ∧ takeGo (9 - (k + 1)) (bs.drop (p + (k + 1))) (k + 1) v' = takeB (bs.drop p) := by
            obtain ⟨hcz, hzi, hlt, _, hgo, hf, _⟩ := HV.out
            rw [if_pos (by omega)] at hgo
            refine ⟨z, hzi, by omega, hlt, ?_⟩
            rw [show 9 - (k + 1) = f by omega, show p + (k + 1) = p + k + 1 by omega]
            exact hgo
          have HF := Lib.hid (And.intro hfin HV.out.2.2.2.2.2.2)
          clear hfin HV HH HE
          by_cases hk8 : k < 8
          · go_wp2
            exact ⟨⟨k + 1, zi, _, by omega, congrArg _ (by omega), rfl, rfl, HF.out.1, fun _ => HF.out.2 hk8⟩, by simp [intOf]; omega⟩
          · go_wp2
            exact ⟨⟨k + 1, zi, _, by omega, congrArg _ (by omega), rfl, rfl, HF.out.1, fun h => by omega⟩, by simp [intOf]; omega⟩
        · by_cases hzero : cz = 0 ∧ 0 < k
          · obtain ⟨rfl, hk0⟩ := hzero
            have hfin : TakeRes p (takeB (bs.drop p)) (.returned (.tuple #[.int .i64 0, .int .i64 0, .int .i64 14])) := by
              obtain ⟨hcz, hzi, hlt, _, hgo, hf, _⟩ := HV.out
              rw [if_neg (by omega), if_pos (.inl ⟨by omega, hk0⟩)] at hgo
              rw [← hgo]; rfl
            have HF := Lib.hid hfin
            clear hfin HV HH HE
            go_wp2
            go_ret3
            exact ⟨HF.out, rfl⟩
          · by_cases hbz : (4611686018427387904 : Int) < zi
            · have hfin : TakeRes p (takeB (bs.drop p)) (.returned (.tuple #[.int .i64 0, .int .i64 0, .int .i64 14])) := by
                obtain ⟨hcz, hzi, hlt, _, hgo, hf, _⟩ := HV.out
                rw [if_neg (by omega), if_pos (.inr (by omega))] at hgo
                rw [← hgo]; rfl
              have HF := Lib.hid hfin
              clear hfin HV HH HE
              by_cases hc00 : cz = 0
              · obtain rfl : k = 0 := by omega
                subst hc00
                go_wp2
                go_ret3
                exact ⟨HF.out, rfl⟩
              · go_wp2
                go_ret3
                exact ⟨HF.out, rfl⟩
            · have hfin : TakeRes p (takeB (bs.drop p)) (.returned (.tuple #[.int .i64 zi, .int .i64 ((p : Int) + (k : Int) + 1), .int .i64 0])) := by
                obtain ⟨hcz, hzi, hlt, _, hgo, hf, _⟩ := HV.out
                rw [if_neg (by omega), if_neg (by omega)] at hgo
                rw [← hgo]
                unfold TakeRes
                rw [hzi]
                simp
                omega
              have HF := Lib.hid hfin
              clear hfin HV HH HE
              by_cases hc00 : cz = 0
              · obtain rfl : k = 0 := by omega
                subst hc00
                go_wp2
                go_ret3
                exact ⟨HF.out, rfl⟩
              · go_wp2
                go_ret3
                exact ⟨HF.out, rfl⟩
      · have hfin : TakeRes p (takeB (bs.drop p)) (.returned (.tuple #[.int .i64 0, .int .i64 0, .int .i64 10])) := by
          rw [takeGo_end f bs (p + k) k v' (by rw [HN.out]; omega)] at hgo
          rw [← hgo]; rfl
        have HF := Lib.hid hfin
        clear hfin hgo hf hv' hpk HR hy hu
        go_wp2
        go_ret3
        exact ⟨HF.out, rfl⟩
    · obtain rfl : k = 9 := by omega
      have hfin : TakeRes p (takeB (bs.drop p)) (.returned (.tuple #[.int .i64 0, .int .i64 0, .int .i64 14])) := by
        rw [← hgo]; rfl
      have HF := Lib.hid hfin
      clear hfin hgo hv' hpk HR hy hu0
      go_wp2
      go_ret3
      exact ⟨HF.out, rfl⟩
end Go.Proofs.YtioinjcdkmiafaaDoor
namespace Go.Proofs.YtioinjcdkmiafaaDoor
set_option linter.unusedVariables false
set_option linter.unusedSimpArgs false
open Go.RowKit

/-- Block g is the document's reader of the bytes at A, at place p; e: what was amiss. -/
def RRd (w : World) (g : Nat) (A : Option Addr) (n c p : Nat) (e : Int) : Prop := Blk w g 53 #[.slice A n c, .int .i64 (p : Int), .int .i64 e]
theorem RRd.err {w : World} {g : Nat} {A : Option Addr} {n c p : Nat} {e : Int} (h : RRd w g A n c p e) (k : Nat) (e' : Int) : RRd ((w.drewN k).setCell ⟨g, 2, none⟩ (.int .i64 e')) g A n c p e' := by
  simpa [RRd] using (Blk.drewN h k).set 2 (.int .i64 e')
theorem RRd.goes {w : World} {g : Nat} {A : Option Addr} {n c p : Nat} {e : Int} (h : RRd w g A n c p e) (k p' : Nat) : RRd ((w.drewN k).setCell ⟨g, 1, none⟩ (.int .i64 (p' : Int))) g A n c p' e := by
  simpa [RRd] using (Blk.drewN h k).set 1 (.int .i64 (p' : Int))
def NumPost (g : Nat) (A : Option Addr) (n c : Nat) (w : World) (r : Nat × Nat × Int) (e : Ending) (w' : World) : Prop :=
  e = .returned (.int .i64 (r.1 : Int)) ∧ RRd w' g A n c r.2.1 r.2.2 ∧ Keep (fun k => k ≠ g) w w'

set_option maxRecDepth 20000 in
set_option maxHeartbeats 400000 in
theorem readNum_any (g : Nat) (Z : Nat → Prop) (A : Option Addr) (n c : Nat) (bs : List UInt8) (p : Nat) (er lo hi : Int) (w : World) (hg : RRd w g A n c p er) (hp : p ≤ n) (hb : Rd w Z 1 A n (Lib.byteCells bs)) (hn : n ≤ 1099511627770) :
    Calls Tryd.prog 16 #[.pointer (some ⟨g, 0, none⟩), .int .i64 lo, .int .i64 hi] w fun e w' => NumPost g A n c w (nNum bs p er lo hi) e w' := by
  have c0 := hg.cell 0
  have c1 := hg.cell 1
  have c2 := hg.cell 2
  have f1 := hg.frozen 1
  have f2 := hg.frozen 2
  simp at c0 c1 c2
  obtain ⟨t, ht⟩ : ∃ t, t = nNum bs p er lo hi := ⟨_, rfl⟩
  rw [← ht]
  unfold nNum at ht
  obtain ⟨r, hr⟩ : ∃ r, r = takeB (bs.drop p) := ⟨_, rfl⟩
  have hT := fun k => rTakeInt_in Z A n c bs p (w.drewN k) hp (hb.drewN k) hn
  rw [← hr] at hT ht
  have HT := Lib.hid hT
  have HG := Lib.hid hg
  clear hT hg hr hb
  obtain ⟨rv, rl, re⟩ := r
  dsimp only at ht
  by_cases he0 : er = 0
  · subst he0
    rw [if_neg (by simp)] at ht
    by_cases he : re = 0
    · subst he
      rw [if_neg (by simp)] at ht
      by_cases hm : (rv : Int) < lo
      · rw [if_pos (.inl hm)] at ht
        subst ht
        go_enter Tryd.func16, Tryd.ntmps16
        go_wp2_with fail
        go_quiet ((go_at_call 26; exact quiet_left (HT.out _)))
        go_wp2_with fail
        go_ret
        refine ⟨rfl, ?_, ?_⟩
        · simpa [RRd] using ((Blk.drewN HG.out nq).set 1 (.int .i64 ((p + rl : Nat) : Int))).set 2 (.int .i64 16)
        · exact ((keep_step g 1 nq w _).setCell (fun _ h => h rfl) _)
      · by_cases hm2 : hi < (rv : Int)
        · rw [if_pos (.inr hm2)] at ht
          subst ht
          go_enter Tryd.func16, Tryd.ntmps16
          go_wp2_with fail
          go_quiet ((go_at_call 26; exact quiet_left (HT.out _)))
          go_wp2_with fail
          go_ret
          refine ⟨rfl, ?_, ?_⟩
          · simpa [RRd] using ((Blk.drewN HG.out nq).set 1 (.int .i64 ((p + rl : Nat) : Int))).set 2 (.int .i64 16)
          · exact ((keep_step g 1 nq w _).setCell (fun _ h => h rfl) _)
        · rw [if_neg (by omega)] at ht
          subst ht
          go_enter Tryd.func16, Tryd.ntmps16
          go_wp2_with fail
          go_quiet ((go_at_call 26; exact quiet_left (HT.out _)))
          go_wp2_with fail
          go_ret
          exact ⟨rfl, by simpa using HG.out.goes nq (p + rl), keep_step _ _ _ _ _⟩
    · rw [if_pos (by simpa using he)] at ht
      subst ht
      go_enter Tryd.func16, Tryd.ntmps16
      go_wp2_with fail
      go_quiet ((go_at_call 26; exact quiet_left (HT.out _)))
      go_wp2_with fail
      go_ret
      exact ⟨rfl, HG.out.err nq re, keep_step _ _ _ _ _⟩
  · rw [if_pos he0] at ht
    subst ht
    go_enter Tryd.func16, Tryd.ntmps16
    go_wp2_with fail
    go_ret
    exact ⟨rfl, HG.out, Keep.refl _ _⟩

theorem nNum_val (bs : List UInt8) (p : Nat) (e lo hi : Int) (h0 : 0 ≤ hi) : ((nNum bs p e lo hi).1 : Int) ≤ hi := by
  unfold nNum
  split
  · exact h0
  · split
    · exact h0
    · split
      · exact h0
      · dsimp only; omega
def BytPost (g : Nat) (A : Option Addr) (n c : Nat) (w : World) (r : List UInt8 × Nat × Int) (e : Ending) (w' : World) : Prop :=
  (∃ u, e = .returned u ∧ w'.ownsRow w.heap.size 5 1 u r.1.length (Lib.byteCells r.1)) ∧ RRd w' g A n c r.2.1 r.2.2 ∧ Keep (fun k => k ≠ g) w w'

set_option maxRecDepth 20000 in
set_option maxHeartbeats 800000 in
theorem readByt_any (g : Nat) (Z : Nat → Prop) (A : Option Addr) (n c : Nat) (bs : List UInt8) (p : Nat) (er hi : Int) (w : World) (hg : RRd w g A n c p er) (hz : ∀ k, Z k → k ≠ g) (hp : p ≤ n) (hnc : n ≤ c) (hnil : n = 0 → c = 0 ∨ A ≠ none) (hb : Rd w Z 1 A n (Lib.byteCells bs)) (hn : n ≤ 1099511627770) (hh0 : 0 ≤ hi) (hhi : hi ≤ 1048576) :
    Calls Tryd.prog 17 #[.pointer (some ⟨g, 0, none⟩), .int .i64 0, .int .i64 hi] w fun e w' => BytPost g A n c w (nByt bs p er hi) e w' := by
  have hlen : bs.length = n := by simpa [Lib.byteCells] using hb.1
  have hC := readNum_any g Z A n c bs p er 0 hi w hg hp hb hn
  have hle := nNum_le bs p er 0 hi (by omega)
  have hglt := hg.lt
  have hval := nNum_val bs p er 0 hi hh0
  obtain ⟨r, hr⟩ : ∃ r, r = nNum bs p er 0 hi := ⟨_, rfl⟩
  obtain ⟨t, ht⟩ : ∃ t, t = nByt bs p er hi := ⟨_, rfl⟩
  rw [← ht]
  unfold nByt at ht
  rw [← hr] at hC hle ht hval
  clear hr
  obtain ⟨rv, rp, re⟩ := r
  dsimp only at hC hle ht hval
  have hrv : (rv : Int) ≤ 1048576 := by omega
  have hrp : (rp : Int) ≤ 1099511627770 := by omega
  clear hval
  have HC := Lib.hid hC
  have HN := Lib.hid (And.intro hlen (And.intro hle (And.intro hz (And.intro hnc hnil))))
  have HB := Lib.hid hb
  clear hC hz hg hb hnil
  go_enter Tryd.func17, Tryd.ntmps17
  go_wp2_with fail
  refine HC.out.mono ?_
  rintro e w1 ⟨rfl, hg1, hk1⟩
  have hb1 := HB.out.keep (hk1.weaken (fun k _ hk => HN.out.2.2.1 k hk))
  have c0 := hg1.cell 0
  have c1 := hg1.cell 1
  have c2 := hg1.cell 2
  have f1 := hg1.frozen 1
  have f2 := hg1.frozen 2
  have hgl := hg1.lt
  simp at c0 c1 c2
  have HG := Lib.hid (And.intro hg1 (And.intro hk1 hb1))
  clear hg1 hk1 hb1
  by_cases he : re = 0
  · subst he
    rw [if_neg (by simp)] at ht
    by_cases hbig : (n : Int) < (rp : Int) + (rv : Int)
    · rw [if_pos (by omega)] at ht
      subst ht
      clear hlen hle
      go_wp2_with fail
      go_quiet (fail)
      go_wp2_with fail
      go_ret
      exact ⟨⟨_, rfl, World.ownsRow_nil _ _ _ _⟩, HG.out.1.err _ 10, HG.out.2.1.comp (keep_step g 2 _ w1 _) (fun _ _ h => h) (fun _ _ h => h)⟩
    · rw [if_neg (by omega)] at ht
      subst ht
      have hpv : rp + rv ≤ n := by omega
      have hpc : rp ≤ c := by omega
      clear hlen hle
      go_wp2_with fail
      go_quiet (fail)
      go_wp2_with fail
      obtain ⟨W, hW⟩ : ∃ W, W = w1.drewN nq := ⟨_, rfl⟩
      rw [← hW]
      have y0 : W.cell? ⟨g, 0, none⟩ = some (.slice A n c) := by rw [hW]; exact c0
      have y1 : W.cell? ⟨g, 1, none⟩ = some (.int .i64 (rp : Int)) := by rw [hW]; exact c1
      have HG2 := Lib.hid (show RRd W g A n c rp 0 ∧ Keep (fun k => k ≠ g) w W ∧ Rd W Z 1 A n (Lib.byteCells bs) from ⟨by rw [hW]; exact HG.out.1.drewN nq, by rw [hW]; exact HG.out.2.1.drewN nq, by rw [hW]; exact HG.out.2.2⟩)
      clear hW HG c0 c1 c2 f1 f2 hgl HC
      refine wp_region_still_tail 14 (by kernel_rfl) (by kernel_rfl) ?_
      simp only [List.take_succ_cons, List.take_zero, List.drop_succ_cons, List.drop_zero]
      repeat still_step
      refine wpStill_nil ?_
      change wpList _ _ _ _ _ W.drew
      rw [show IntKind.i64.wrap ((rp : Int) + (rv : Int)) = (rp : Int) + (rv : Int) by rw [IntKind.wrap_i64]; omega]
      have hcut := (show Rd W.drew Z 1 A n (Lib.byteCells bs) from HG2.out.2.2).cut1 hpv hnc
      rw [byteCells_cut] at hcut
      have hl2 : ((bs.drop rp).take rv).length = rv := by have := HN.out.1; simp; omega
      have hCC : (c = rp → Calls Tryd.prog 27 #[.slice A rv 0] W.drew fun e w' => (∃ u, e = .returned u ∧ w'.ownsRow W.drew.heap.size 5 1 u rv (Lib.byteCells ((bs.drop rp).take rv))) ∧ Fresh W.drew w') ∧
          (c ≠ rp → Calls Tryd.prog 27 #[.slice (Option.map (fun x => x.add rp) A) rv (c - rp)] W.drew fun e w' => (∃ u, e = .returned u ∧ w'.ownsRow W.drew.heap.size 5 1 u rv (Lib.byteCells ((bs.drop rp).take rv))) ∧ Fresh W.drew w') := by
        refine ⟨fun hc => ?_, fun hc => ?_⟩
        · rw [if_pos hc] at hcut
          exact copied_any Z A rv 0 _ W.drew hcut (by omega) (fun _ => .inl rfl)
        · rw [if_neg hc] at hcut
          refine copied_any Z _ rv (c - rp) _ W.drew hcut (by omega) (fun h0 => ?_)
          rcases A with _ | a
          · rcases Nat.eq_zero_or_pos n with h1 | h1
            · rcases HN.out.2.2.2.2 h1 with h2 | h2
              · omega
              · exact absurd rfl h2
            · obtain ⟨_, _, h3, _⟩ := HG2.out.2.2.2 h1
              cases h3
          · exact .inr (by simp)
      replace hCC := Lib.hid hCC
      have HL2 := Lib.hid hl2
      clear hcut hl2
      by_cases hcr : c = rp
      · go_wp2_with fail
        refine (hCC.out.1 hcr).mono ?_
        rintro e w2 ⟨⟨u, rfl, ho⟩, hf⟩
        have hg2 := Blk.keep (show Blk W.drew g _ _ from HG2.out.1) hf trivial
        have z1 := hg2.cell 1
        have zf := hg2.frozen 1
        have zl := hg2.lt
        simp at z1
        have hneq : u.ownBlock ≠ some g := fun e => by have h1 := (own_lt ho e).1; have h2 := HG2.out.1.lt; simp at h1; omega
        have HU := Lib.hid (And.intro ho (And.intro (show Fresh W w2 from (Keep.refl _ W).drew.trans hf) (And.intro hg2 hneq)))
        clear ho hf hg2 hneq
        go_wp2_with fail
        go_ret
        obtain ⟨ho, hf, hg2, hneq⟩ := HU.out
        have hkk : Keep (fun k => k ≠ g) w w2 := HG2.out.2.1.comp hf (fun _ _ h => h) (fun _ _ _ => trivial)
        refine ⟨⟨u, rfl, ?_⟩, ?_, hkk.setCell (fun _ h => h rfl) _⟩
        · have h1 := own_far (own_base ho (base' := w.heap.size) (by have := HG2.out.2.1.size; simp; omega)) (p := ⟨g, 1, none⟩) hneq (.int .i64 ((rp : Int) + (rv : Int)))
          show World.ownsRow _ _ _ _ _ ((bs.drop rp).take rv).length _
          rw [HL2.out]
          exact h1
        · have h1 := hg2.set 1 (.int .i64 ((rp : Int) + (rv : Int)))
          simpa [RRd] using h1
      · go_wp2_with fail
        refine (hCC.out.2 hcr).mono ?_
        rintro e w2 ⟨⟨u, rfl, ho⟩, hf⟩
        have hg2 := Blk.keep (show Blk W.drew g _ _ from HG2.out.1) hf trivial
        have z1 := hg2.cell 1
        have zf := hg2.frozen 1
        have zl := hg2.lt
        simp at z1
        have hneq : u.ownBlock ≠ some g := fun e => by have h1 := (own_lt ho e).1; have h2 := HG2.out.1.lt; simp at h1; omega
        have HU := Lib.hid (And.intro ho (And.intro (show Fresh W w2 from (Keep.refl _ W).drew.trans hf) (And.intro hg2 hneq)))
        clear ho hf hg2 hneq
        go_wp2_with fail
        go_ret
        obtain ⟨ho, hf, hg2, hneq⟩ := HU.out
        have hkk : Keep (fun k => k ≠ g) w w2 := HG2.out.2.1.comp hf (fun _ _ h => h) (fun _ _ _ => trivial)
        refine ⟨⟨u, rfl, ?_⟩, ?_, hkk.setCell (fun _ h => h rfl) _⟩
        · have h1 := own_far (own_base ho (base' := w.heap.size) (by have := HG2.out.2.1.size; simp; omega)) (p := ⟨g, 1, none⟩) hneq (.int .i64 ((rp : Int) + (rv : Int)))
          show World.ownsRow _ _ _ _ _ ((bs.drop rp).take rv).length _
          rw [HL2.out]
          exact h1
        · have h1 := hg2.set 1 (.int .i64 ((rp : Int) + (rv : Int)))
          simpa [RRd] using h1
  · rw [if_pos he] at ht
    subst ht
    clear hlen hle
    go_wp2_with fail
    go_ret
    exact ⟨⟨_, rfl, World.ownsRow_nil _ _ _ _⟩, HG.out.1, HG.out.2.1⟩

set_option maxRecDepth 20000 in
set_option maxHeartbeats 400000 in
theorem readEnd_any (g : Nat) (A : Option Addr) (n c p : Nat) (er : Int) (w : World) (hg : RRd w g A n c p er) :
    Calls Tryd.prog 19 #[.pointer (some ⟨g, 0, none⟩)] w fun e w' => e = .returned (.tuple #[]) ∧ RRd w' g A n c p (if er = 0 ∧ p ≠ n then 15 else er) ∧ Keep (fun k => k ≠ g) w w' := by
  have c0 := hg.cell 0
  have c1 := hg.cell 1
  have c2 := hg.cell 2
  have f2 := hg.frozen 2
  simp at c0 c1 c2
  obtain ⟨e2, he2⟩ : ∃ e2 : Int, e2 = (if er = 0 ∧ p ≠ n then 15 else er) := ⟨_, rfl⟩
  rw [← he2]
  have HG := Lib.hid hg
  clear hg
  by_cases he0 : er = 0
  · subst he0
    by_cases hpn : p = n
    · rw [if_neg (by simp [hpn])] at he2
      subst hpn he2
      go_enter Tryd.func19, Tryd.ntmps19
      go_wp2_with fail
      go_quiet (fail)
      go_wp2_with fail
      go_end0
      exact ⟨rfl, HG.out.drewN _, (Keep.refl _ w).drewN _⟩
    · have hpi : ¬ (p : Int) = (n : Int) := by omega
      rw [if_pos ⟨rfl, hpn⟩] at he2
      subst he2
      go_enter Tryd.func19, Tryd.ntmps19
      go_wp2_with fail
      go_quiet (fail)
      go_wp2_with fail
      go_end0
      exact ⟨rfl, HG.out.err _ 15, keep_step _ _ _ _ _⟩
  · rw [if_neg (fun h => he0 h.1)] at he2
    subst he2
    go_enter Tryd.func19, Tryd.ntmps19
    go_wp2_with fail
    go_quiet (fail)
    go_wp2_with fail
    go_end0
    exact ⟨rfl, HG.out.drewN _, (Keep.refl _ w).drewN _⟩

def TxtPost (g : Nat) (A : Option Addr) (n c : Nat) (w : World) (r : List UInt8 × Nat × Int) (e : Ending) (w' : World) : Prop :=
  e = .returned (str r.1) ∧ RRd w' g A n c r.2.1 r.2.2 ∧ Keep (fun k => k ≠ g) w w'
theorem readTxt_any (g : Nat) (Z : Nat → Prop) (A : Option Addr) (n c : Nat) (bs : List UInt8) (p : Nat) (er hi : Int) (w : World) (hg : RRd w g A n c p er) (hz : ∀ k, Z k → k ≠ g) (hp : p ≤ n) (hnc : n ≤ c) (hnil : n = 0 → c = 0 ∨ A ≠ none) (hb : Rd w Z 1 A n (Lib.byteCells bs)) (hn : n ≤ 1099511627770) (hh0 : 0 ≤ hi) (hhi : hi ≤ 1048576) :
    Calls Tryd.prog 28 #[.pointer (some ⟨g, 0, none⟩), .int .i64 hi] w fun e w' => TxtPost g A n c w (nByt bs p er hi) e w' := by
  have HC := readByt_any g Z A n c bs p er hi w hg hz hp hnc hnil hb hn hh0 hhi
  obtain ⟨r, hr⟩ : ∃ r, r = nByt bs p er hi := ⟨_, rfl⟩
  rw [← hr] at HC ⊢
  clear hr hg hz hp hnc hnil hb hn hh0 hhi
  replace HC := Lib.hid HC
  go_enter Tryd.func28, Tryd.ntmps28
  go_wp2_with fail
  refine HC.out.mono ?_
  rintro e w1 ⟨⟨u, rfl, ho⟩, hg1, hk1⟩
  obtain ⟨A1, c1, rfl, hrd, -⟩ := own_rd ho
  have hcv : (convert 27 9 (.slice A1 r.1.length c1)).run Tryd.prog w1 = .ok (str r.1) w1 := run_conv_str Tryd.underlying27 Tryd.underlying5 Tryd.underlying9 hrd c1
  have HN := Lib.hid (And.intro hg1 hk1)
  clear ho hrd hg1 hk1 HC
  obtain ⟨s, hs⟩ : ∃ s, s = str r.1 := ⟨_, rfl⟩
  rw [← hs] at hcv
  obtain ⟨m, hm⟩ : ∃ m, m = r.1.length := ⟨_, rfl⟩
  rw [← hm] at hcv ⊢
  have HS := Lib.hid hs
  obtain ⟨sv, hsv⟩ : ∃ sv : ByteArray, s = .string sv := ⟨_, hs⟩
  subst hsv
  clear hs hm
  go_wp2
  go_ret
  exact ⟨by rw [HS.out]; rfl, HN.out.1, HN.out.2⟩
end Go.Proofs.YtioinjcdkmiafaaDoor
