/-
  MERGED: Rest
-/
import Derived.Test.YtioinjcdkmiafaaDoorYC2
import Derived.Test.YtioinjcdkmiafaaDoorYC3
import Derived.Test.YtioinjcdkmiafaaDoorYC4
namespace Go.Proofs.YtioinjcdkmiafaaDoor
set_option linter.unusedVariables false
set_option linter.unusedSimpArgs false
open Go.RowKit

/-- A machine just where the text tells one. -/
def RestPost (bs : Txt) (w : World) (e : Ending) (w' : World) : Prop :=
  Fresh w w' ∧ ((∃ (s : StD) (F : Nat → Prop) (m : Nat), Restored bs s ∧ e = .returned (.tuple #[.pointer (some ⟨m, 0, none⟩), .int .i64 0]) ∧ MAt w.heap.size w' F m s) ∨ ((∀ s, ¬ Restored bs s) ∧ e = .returned (.tuple #[.pointer none, .int .i64 131])))
theorem good_stick {bs : Txt} (h : (rsS bs).2.2 = false) : (rsL bs).2.2 = false ∧ (rsP bs).2.2 = false := by
  obtain ⟨s1, s2, s3⟩ := runF_ok (one := oSes bs) rdSes_ok _ _ _ _ h
  obtain ⟨t1, t2⟩ := o_of_count (hi := 16) s1
  have htok : (rsT bs).1 ≤ 99999999 := by
    have := rCount_most bs 3 false (most := 99999999) (by omega)
    show (rCount bs 3 false 99999999).1 ≤ 99999999
    omega
  obtain ⟨l1, l2, l3⟩ := runF_ok (one := oLockT bs (rsT bs).1) (rdLock_ok htok) _ _ _ _ t1
  obtain ⟨u1, u2⟩ := o_of_count (hi := 8) l1
  exact ⟨t1, u1⟩
set_option maxRecDepth 20000 in
set_option maxHeartbeats 2000000 in
theorem restore_any (Z0 : Nat → Prop) (A : Option Addr) (n c : Nat) (bs : Txt) (w : World) (hb0 : Rd w Z0 1 A n (Lib.byteCells bs)) (hn : n ≤ 1099511627770) (hnc : n ≤ c) (hT : Nib w) :
    Calls Tryd.prog 24 #[.slice A n c] w (RestPost bs w) := by
  have hlen : bs.length = n := by simpa [Lib.byteCells] using hb0.1
  have hb := hb0.old (by omega)
  obtain ⟨b, hbs⟩ : ∃ b, b = bs.take (n - 4) := ⟨_, rfl⟩
  have hf : Rd w (fun k => k < w.heap.size) 1 A (n - 4) (Lib.byteCells b) := by
    have h1 := hb.front (n - 4) (by omega)
    rw [hbs]
    simpa [Lib.byteCells, List.map_take] using h1
  have hbl : b.length = n - 4 := by rw [hbs, List.length_take]; omega
  have HS := Lib.hid (sealed_any _ A n c bs w hb0 hn hnc hT)
  have HN := Lib.hid (newm_any w)
  have HB := Lib.hid (And.intro hlen (And.intro hbs (And.intro hf hbl)))
  clear hlen hb0 hb hbs hf hT hbl
  go_enter Tryd.func24, Tryd.ntmps24
  go_wp2_with fail
  refine Calls.mono HS.out ?_
  rintro e _ ⟨⟨sl, rfl, hsl⟩, rfl⟩
  have H0 := Lib.hid hsl
  clear hsl HS
  cases sl with
  | false =>
    go_wp2_with fail
    go_ret2
    refine ⟨Keep.refl _ _, .inr ⟨fun s hs => ?_, rfl⟩⟩
    exact absurd (H0.out.2 (good_restored hs).1) (by simp)
  | true =>
    have hse := H0.out.1 rfl
    have h11 : 11 ≤ n := by have := hse.1; have := HB.out.1; omega
    have HSE := Lib.hid hse
    clear H0 hse
    go_wp2_with fail
    refine Calls.mono HN.out ?_
    rintro e w1 ⟨⟨m, bp, bl, rfl, hm, h1, h2, h3⟩, hf1⟩
    have H1 := Lib.hid (And.intro hm (And.intro hf1 (And.intro h1 (And.intro h2 h3))))
    clear hm hf1 h1 h2 h3 HN
    have hnc4 : n - 4 ≤ c := by omega
    have hn4 : n - 4 ≤ 1099511627770 := by omega
    have h3n : 3 ≤ n - 4 := by omega
    obtain ⟨T, hT⟩ : ∃ T, T = rsT b := ⟨_, rfl⟩
    have hTle : T.2.1 ≤ n - 4 := by
      have := rCount_le b 3 false 99999999 (by rw [HB.out.2.2.2]; exact h3n)
      rw [HB.out.2.2.2] at this
      rw [hT]
      exact this
    have hTm : (T.1 : Int) ≤ 99999999 := by rw [hT]; exact rCount_most b 3 false (most := 99999999) (by omega)
    have HTd := Lib.hid hT
    have hzz : ∀ W, Fresh w W → Rd W (fun k => k < w.heap.size) 1 A (n - 4) (Lib.byteCells b) := fun W hf => HB.out.2.2.1.keep (hf.weaken fun _ _ _ => trivial)
    have HZ := Lib.hid hzz
    clear hT hzz
    go_upto_region 5 with (fail)
    obtain ⟨g, hgs⟩ : ∃ g, g = w1.heap.size := ⟨_, rfl⟩
    rw [← hgs]
    have hkW1 : Fresh w1 (w1.alloc (.cells #[.slice A (n - 4) c, .int .i64 3, .bool false] 85)) := (Keep.refl (fun _ => True) w1).alloc _
    have hgW1 : Rdr (w1.alloc (.cells #[.slice A (n - 4) c, .int .i64 3, .bool false] 85)) g A (n - 4) c 3 false := Blk.newAt hgs.symm
    generalize w1.alloc (.cells #[.slice A (n - 4) c, .int .i64 3, .bool false] 85) = W1 at hkW1 hgW1 ⊢
    have hf01 : Fresh w W1 := H1.out.2.1.comp hkW1 (fun _ _ h => h) (fun _ _ _ => trivial)
    have HC := Lib.hid (rcount_any g _ A (n - 4) c b 3 false 99999999 W1 hgW1 h3n (HZ.out _ hf01) hn4)
    have hgw : w.heap.size ≤ g := by rw [hgs]; exact H1.out.2.1.size
    obtain ⟨hm, hf1, hmw, hbw, hlw⟩ := H1.out
    have hmg : m ≠ g := by have := hm.blk.lt; omega
    have hbg : bp ≠ g := by have := hm.pm.lt; omega
    obtain ⟨ms0, hl0⟩ := hm.lk
    obtain rfl : ms0 = [] := by have := hl0.data; simpa [newD] using this
    have hlg : bl ≠ g := by have := hl0.map.lt; omega
    have hmb := hm.mp
    have hml : m ≠ bl := (hl0.map.ne_blk hm.blk).symm
    have hbl := hm.ne
    have HD := Lib.hid (And.intro hmg (And.intro hbg (And.intro hlg (And.intro hmb (And.intro hml hbl)))))
    have HW := Lib.hid (And.intro hgw (And.intro hmw (And.intro hbw hlw)))
    have HM := Lib.hid (And.intro (hm.blk.keep hkW1 trivial) (And.intro (hm.pm.keep hkW1 trivial) (And.intro (hl0.map.keep hkW1 trivial) hf01)))
    clear hgs hkW1 hgW1 hf01 hgw hm hf1 hmw hbw hlw hmg hbg hl0 hlg hmb hml hbl
    go_wp2_with fail
    refine Calls.mono HC.out ?_
    rintro e w2 ⟨rfl, hg2, hk2⟩
    rw [show rCount b 3 false 99999999 = T from HTd.out.symm] at hg2 ⊢
    have hb2 := HM.out.1.keep hk2 HD.out.1
    have z2 := hb2.frozen 2
    have hm2 := hb2.lt
    have x2 : w2.cell? ⟨m, 2, none⟩ = some (.int .i64 0) := hb2.cell 2
    have H2 := Lib.hid (And.intro hg2 (And.intro hk2 hb2))
    clear hg2 hk2 hb2 HC
    go_upto_region 6 with (fail)
    have hb3 : Blk (w2.setCell ⟨m, 2, none⟩ (.int .i64 (T.1 : Int))) m 95 (mchcells bp bl (T.1 : Int) (List.replicate 16 noSes)).toArray := by
      have h := H2.out.2.2.set 2 (.int .i64 (T.1 : Int))
      exact h
    have hk23 : Keep (fun j => j ≠ m) w2 (w2.setCell ⟨m, 2, none⟩ (.int .i64 (T.1 : Int))) := (Keep.refl _ w2).setCell (fun _ h => h rfl) _
    generalize w2.setCell ⟨m, 2, none⟩ (.int .i64 (T.1 : Int)) = W3 at hb3 hk23 ⊢
    have hg3 := H2.out.1.keep hk23 (fun e => HD.out.1 e.symm)
    have hp3 := (HM.out.2.1.keep H2.out.2.1 HD.out.2.1).keep hk23 (fun e => HD.out.2.2.2.1 e.symm)
    have hl3 := (HM.out.2.2.1.keep H2.out.2.1 HD.out.2.2.1).keep hk23 (fun e => HD.out.2.2.2.2.1 e.symm)
    have hf3 : Fresh w W3 := (HM.out.2.2.2.comp H2.out.2.1 (fun _ _ h => h) (fun j hj _ => by have := HW.out.1; omega)).comp hk23 (fun _ _ h => h) (fun j hj _ => by have := HW.out.2.1; omega)
    have HP := Lib.hid (rpairs_any m g bp (fun k => k < w.heap.size) A (n - 4) c b T.2.1 T.2.2 W3 (hb3.cell 0) HD.out.1 HD.out.2.2.2.1 hp3 hg3 (fun k hk => by have := HW.out.1; have := HW.out.2.2.1; omega) hTle hnc4 (HZ.out _ hf3) hn4)
    have H3 := Lib.hid (And.intro hb3 (And.intro hl3 hf3))
    clear hb3 hk23 hg3 hp3 hl3 hf3 x2 z2 hm2
    go_wp2_with fail
    refine Calls.mono HP.out ?_
    rintro e w4 ⟨rfl, ⟨ps, hps, hpr, hpl, hpe⟩, hg4, hn44, hk4⟩
    have hb4 := H3.out.1.keep hk4 ⟨HD.out.1, HD.out.2.2.2.1⟩
    have hl4 := H3.out.2.1.keep hk4 ⟨HD.out.2.2.1, HD.out.2.2.2.2.2.symm⟩
    have hf4 : Fresh w w4 := H3.out.2.2.comp hk4 (fun _ _ h => h) (fun j hj _ => by have := HW.out.1; have := HW.out.2.2.1; omega)
    obtain ⟨P, hP⟩ : ∃ P, P = rPairs b T.2.1 T.2.2 := ⟨_, rfl⟩
    rw [← hP] at hg4 hn44 hpe
    have HL := Lib.hid (rlocks_any m g bl (T.1 : Int) (fun k => k < w.heap.size) A (n - 4) c b P.2.1 P.2.2 w4 (hb4.cell 1) (hb4.cell 2) (by omega) hTm HD.out.1 HD.out.2.2.2.2.1 hl4 hg4 (fun k hk => by have := HW.out.1; have := HW.out.2.2.2; omega) hn44 hnc4 (HZ.out _ hf4) hn4)
    have H4 := Lib.hid (And.intro hb4 (And.intro hf4 (And.intro hps (And.intro hpe hP))))
    have hm4 := hb4.lt
    have hg4l := hg4.lt
    have hp4l := hps.lt
    clear hb4 hl4 hf4 hg4 hk4 hps hpr hpe hpl hP HP
    go_wp2_with fail
    refine Calls.mono HL.out ?_
    rintro e w5 ⟨rfl, ⟨S, ms, ls, hls, hS, hlr, hl8, hlsafe, hlq, hle⟩, hg5, hn5, hk5⟩
    have hb5 := H4.out.1.keep hk5 ⟨HD.out.1, HD.out.2.2.2.2.1⟩
    have hps5 := H4.out.2.2.1.keep hk5 ⟨HD.out.2.1, HD.out.2.2.2.2.2⟩
    have hf5 : Fresh w w5 := H4.out.2.1.comp hk5 (fun _ _ h => h) (fun j hj _ => by have := HW.out.1; have := HW.out.2.2.2; omega)
    obtain ⟨L, hL⟩ : ∃ L, L = rLocks b (T.1 : Int) P.2.1 P.2.2 := ⟨_, rfl⟩
    rw [← hL] at hg5 hn5 hle
    have hSg : ∀ j, S j → j ≠ g ∧ j ≠ m := fun j hj => by
      rcases hS j hj with rfl | h
      · exact ⟨HD.out.2.2.1, HD.out.2.2.2.2.1.symm⟩
      · omega
    have hSb : ¬ S bp := fun h => by
      rcases hS bp h with e | h
      · exact HD.out.2.2.2.2.2 e
      · omega
    have hSw : ∀ j, S j → w.heap.size ≤ j := fun j hj => by
      rcases hS j hj with rfl | h
      · exact HW.out.2.2.2
      · exact Nat.le_trans H4.out.2.1.size h
    have HSS := Lib.hid (rsess_any m g bp bl (T.1 : Int) (fun k => k < w.heap.size) A (n - 4) c b L.2.1 L.2.2 w5 hb5 HD.out.1 hg5 (fun k hk => by have := HW.out.1; have := HW.out.2.1; omega) hn5 hnc4 (HZ.out _ hf5) hn4 S ls ⟨ms, hls⟩ hlr hlsafe hlq hSg)
    have H5 := Lib.hid (And.intro hps5 (And.intro hf5 (And.intro hls (And.intro hle (And.intro hL (And.intro hSg (And.intro hSb hSw)))))))
    clear hb5 hps5 hf5 hg5 hk5 hls hS hlr hl8 hlsafe hlq hle hL hSg hSb hSw HL hm4 hg4l hp4l
    go_wp2_with fail
    refine Calls.mono HSS.out ?_
    rintro e w6 ⟨rfl, hb6, hg6, hn6, hk6⟩
    obtain ⟨R, hR⟩ : ∃ R, R = rSess1 b L.2.1 L.2.2 := ⟨_, rfl⟩
    rw [← hR] at hb6 hg6 hn6
    have HO := Lib.hid (rsound_any g A (n - 4) c _ _ w6 hg6)
    have H6 := Lib.hid (And.intro hb6 (And.intro hk6 hR))
    clear hb6 hg6 hk6 hR HSS
    go_wp2_with fail
    refine Calls.mono HO.out ?_
    rintro e w7 ⟨rfl, k7, rfl⟩
    obtain ⟨hs5, hf5, hls5, hle5, hL5, hSg5, hSb5, hSw5⟩ := H5.out
    obtain ⟨hb6, hk6, hR6⟩ := H6.out
    have hP4 := H4.out.2.2.2.2
    have hpe4 := H4.out.2.2.2.1
    have eT : rsT b = T := HTd.out.symm
    have eP : rsP b = P := by unfold rsP; rw [eT]; exact hP4.symm
    have eL : rsL b = L := by unfold rsL; rw [eT, eP]; exact hL5.symm
    have eR : rsS b = R := by unfold rsS; rw [eL]; exact hR6.symm
    have hf7 : Fresh w (w6.drewN k7) := (hf5.comp hk6 (fun _ _ h => h) (fun j hj _ => by have := HW.out.1; have := HW.out.2.1; omega)).drewN k7
    have hgood : ((!(R.2.2 || sesMiss ls (ssPut R.1 (List.replicate 16 noSes))) && decide (R.2.1 = n - 4)) = true) ↔ rsGood b := by
      unfold rsGood rsSs
      rw [eR, eL]
      simp only [Bool.and_eq_true, Bool.not_eq_true', Bool.or_eq_false_iff, decide_eq_true_eq]
      constructor
      · rintro ⟨⟨h1, h2⟩, h3⟩
        have h4 := (good_stick (bs := b) (by rw [eR]; exact h1)).1
        rw [eL] at h4
        rw [hle5 h4] at h2
        exact ⟨h1, h2, by rw [h3, HB.out.2.2.2]⟩
      · rintro ⟨h1, h2, h3⟩
        have h4 := (good_stick (bs := b) (by rw [eR]; exact h1)).1
        rw [eL] at h4
        rw [hle5 h4]
        exact ⟨⟨h1, h2⟩, by rw [h3, HB.out.2.2.2]⟩
    have hbb : bs.take (bs.length - 4) = b := by rw [HB.out.1]; exact HB.out.2.1.symm
    have hout : (rsGood b → ∃ (s : StD) (F : Nat → Prop), Restored bs s ∧ MAt w.heap.size (w6.drewN k7) F m s) := fun hgd => by
      have hres := restored_good HSE.out (by rw [hbb]; exact hgd)
      rw [hbb] at hres
      obtain ⟨g1, g2⟩ := good_stick hgd.1
      rw [eL] at g1
      rw [eP] at g2
      have hst : MSt S (w6.drewN k7) m bp bl ⟨(rsP b).1, (rsL b).1, ((rsT b).1 : Int), rsSs b⟩ := by
        unfold rsSs
        rw [eP, eL, eT, eR]
        have hk67 : Keep (fun j => j ≠ g ∧ j ≠ m) w5 (w6.drewN k7) := hk6.drewN k7
        refine ⟨hb6.drewN k7, by simp [ssPut_len], ?_, ⟨ms, ?_⟩, fun h => (hSg5 m h).2 rfl, hSb5⟩
        · rw [← hpe4 g2]
          exact hs5.keep hk67 ⟨HD.out.2.1, HD.out.2.2.2.1.symm⟩
        · rw [← hle5 g1]
          exact hls5.keep hk67 hSg5
      exact ⟨_, _, hres, MAt.of hst (restored_inv hres).2 HW.out.2.1 HW.out.2.2.1 (fun j hj _ => hSw5 j hj)⟩
    have hbadd : ¬ rsGood b → ∀ s, ¬ Restored bs s := fun hng s hs => hng (by have := (good_restored hs).2; rw [hbb] at this; exact this)
    obtain ⟨q, hq⟩ : ∃ q, q = (!(R.2.2 || sesMiss ls (ssPut R.1 (List.replicate 16 noSes))) && decide (R.2.1 = n - 4)) := ⟨_, rfl⟩
    rw [← hq] at hgood ⊢
    have HF := Lib.hid (And.intro hf7 (And.intro hgood (And.intro hout hbadd)))
    clear hq hs5 hf5 hls5 hle5 hL5 hSg5 hSb5 hSw5 hb6 hk6 hR6 hP4 hpe4 eT eP eL eR hf7 hgood hbb hout hbadd
    cases q with
    | false =>
      go_wp2_with fail
      go_ret2
      exact ⟨HF.out.1, .inr ⟨HF.out.2.2.2 (fun h => by have := HF.out.2.1.2 h; cases this), rfl⟩⟩
    | true =>
      obtain ⟨s, F, h1, h2⟩ := HF.out.2.2.1 (HF.out.2.1.1 rfl)
      have HG := Lib.hid (And.intro h1 h2)
      clear h1 h2
      go_wp2_with fail
      go_ret2
      exact ⟨HF.out.1, .inl ⟨s, F, m, HG.out.1, rfl, HG.out.2⟩⟩
end Go.Proofs.YtioinjcdkmiafaaDoor
