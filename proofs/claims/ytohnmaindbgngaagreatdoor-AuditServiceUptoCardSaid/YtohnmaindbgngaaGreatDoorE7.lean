/-
  MERGED: RSvK
-/
import Derived.Test.YtohnmaindbgngaaGreatDoorE5
import Derived.Deep.RegionHeld3
import Derived.Deep.DeepCutAuto
namespace Go.Proofs.YtohnmaindbgngaaGreatDoor
set_option linter.unusedVariables false
set_option linter.unusedSimpArgs false
open Go.RowKit Go.Shelf Go.BigFrame

/-! ### kept -/
def lostB (l : List MarkD) (e n : Int) (i : Nat) : Bool := match l[i]? with
  | none => false
  | some x => decide (x.kind = 12) && decide (n < x.n) && (rpartD x.who (l.take i)).viewed && decide ((rpartD x.who (l.take i)).id.1 < e)
theorem rlost_eq (l : List MarkD) (e n : Int) : rlost l e n = (List.range l.length).any (lostB l e n) := rfl
theorem lost_snoc {l : List MarkD} {e n : Int} {k : Nat} (h : (List.range k).any (lostB l e n) = false) (hk : lostB l e n k = false) : (List.range (k + 1)).any (lostB l e n) = false := by
  rw [List.range_succ, List.any_append, h]
  simp [hk]
theorem lost_hit {l : List MarkD} {e n : Int} {k : Nat} (hk : k < l.length) (h : lostB l e n k = true) : rlost l e n = true := by
  rw [rlost_eq, List.any_eq_true]
  exact ⟨k, List.mem_range.2 hk, h⟩
theorem lostB_at {hs : List MkV} {k : Nat} {y : MkV} (hy : ∃ hl : k < hs.length, y = hs[k]) (e n : Int) : lostB (dsOf hs) e n k = (decide (y.d.kind = 12) && (decide (n < y.d.n) && ((rpartD (y.d.node, y.d.inc) (dsOf (hs.take k))).viewed && decide ((rpartD (y.d.node, y.d.inc) (dsOf (hs.take k))).id.1 < e)))) := by
  obtain ⟨hl, rfl⟩ := hy
  have e1 : (dsOf hs)[k]? = some hs[k].d := by
    unfold dsOf
    rw [List.getElem?_map, List.getElem?_eq_getElem hl]
    rfl
  have e2 : (dsOf hs).take k = dsOf (hs.take k) := by unfold dsOf; rw [List.map_take]
  unfold lostB
  rw [e1, e2]
  simp only [Bool.and_assoc]
  rfl
set_option maxRecDepth 20000 in
set_option maxHeartbeats 4000000 in
theorem rkept_any (A : Option Addr) (n c : Nat) (hs : List MkV) (x : MkV) (w : World) (h : Mks w (fun _ => True) A n hs) (hok : ∀ y ∈ hs, MkOk w (fun _ => True) y) (hnc : n ≤ c) :
    Calls Tryz.prog 34 #[.slice A n c, .agg x.cells.toArray] w fun e w' => e = .returned (.bool (!rlost (dsOf hs) x.d.e1 x.d.n)) ∧ Fresh w w' := by
  have HM := Lib.hid (And.intro h hok)
  have hle := h.le
  obtain ⟨R, hR⟩ : ∃ R, R = !rlost (dsOf hs) x.d.e1 x.d.n := ⟨_, rfl⟩
  rw [← hR]
  have HR := Lib.hid hR
  clear h hok hR
  go_enter Tryz.func34, Tryz.ntmps34
  go_upto_region 1 with (fail)
  obtain ⟨b3, hb3⟩ : ∃ b, b = w.heap.size := ⟨_, rfl⟩
  obtain ⟨w1, hw1⟩ : ∃ w1, w1 = w.alloc (.cells x.cells.toArray 51) := ⟨_, rfl⟩
  rw [← hb3, ← hw1]
  have hf1 : Fresh w w1 := hw1 ▸ (Keep.refl _ w).alloc _
  have hm1 : MkB w1 b3 x := by rw [hw1, hb3]; exact MkB.new w x
  have H1 := Lib.hid (And.intro hm1 hf1)
  obtain ⟨xe, hxe⟩ : ∃ z, z = x.d.e1 := ⟨_, rfl⟩
  obtain ⟨xn, hxn⟩ : ∃ z, z = x.d.n := ⟨_, rfl⟩
  rw [← hxe, ← hxn] at HR
  have HX := Lib.hid (And.intro hxe hxn)
  clear hf1 hm1 hw1 hb3 hxe hxn
  go_wp2_with fail
  go_loopw [5] (fun iv wr => ∃ k : Nat, k ≤ n ∧ iv = .int .i64 (k : Int) ∧ Hid (Fresh w1 wr ∧ (List.range k).any (lostB (dsOf hs) xe xn) = false)) (fun i _ => n - (intOf i).toNat)
  case atStart => exact ⟨0, Nat.zero_le _, rfl, Lib.hid ⟨Keep.refl _ _, rfl⟩⟩
  case round =>
    rename World => wr
    obtain ⟨k, hk, rfl, HW⟩ := hrel
    by_cases hlt : k < n
    · have hfr := H1.out.2.trans HW.out.1
      obtain ⟨b, o, y, rfl, hy, hry⟩ := (HM.out.1.keep hfr).ints hlt
      have c1 := (mk_cells_at hry).1
      have k2 : wr.cell? ⟨b, o + k * 26 + 2, none⟩ = some (.int .i64 y.d.node) := hry 2 _ rfl
      have k3 : wr.cell? ⟨b, o + k * 26 + 3, none⟩ = some (.int .i64 y.d.inc) := hry 3 _ rfl
      have k13 : wr.cell? ⟨b, o + k * 26 + 13, none⟩ = some (.int .i64 y.d.n) := hry 13 _ rfl
      have lb := range_lt (v := .int .i64 y.d.at_) hry
      have hmb : MkB wr b3 x := ⟨H1.out.1.blk.keep HW.out.1 trivial⟩
      have x13 := hmb.n
      have lm := hmb.blk.lt
      rw [← HX.out.2] at x13
      have HB := lostB_at hy xe xn
      obtain ⟨kd, hkd⟩ : ∃ z, z = y.d.kind := ⟨_, rfl⟩
      obtain ⟨zn, hzn⟩ : ∃ z, z = y.d.n := ⟨_, rfl⟩
      rw [← hkd] at c1 HB
      rw [← hzn] at k13 HB
      obtain ⟨p, hp⟩ : ∃ p, p = rpartD (y.d.node, y.d.inc) (dsOf (hs.take k)) := ⟨_, rfl⟩
      rw [← hp] at HB
      have HBh := Lib.hid HB
      have HKl : Hid (k < (dsOf hs).length) := Lib.hid (by unfold dsOf; rw [List.length_map, HM.out.1.len]; exact hlt)
      have hki : (k : Int) < (n : Int) := by omega
      have hk0 : (0 : Int) ≤ (k : Int) := by omega
      have HP := Lib.hid (fun u (hu : Fresh wr u) => rpart_any (some ⟨b, o, none⟩) k c (hs.take k) y.d.node y.d.inc u ((((HM.out.1.keep hfr).takeS (by omega : k ≤ n))).keep hu) (fun z hz => ((HM.out.2 z (List.mem_of_mem_take hz)).keep hfr).keep hu))
      rw [← hp] at HP
      have HFr := Lib.hid hfr
      clear hry hmb HB hkd hzn hp hy hfr
      by_cases h1 : kd = 12
      rotate_left
      · have b1 : (kd != 12) = true := by simpa using h1
        have HN := Lib.hid (lost_snoc HW.out.2 (by rw [HBh.out, decide_eq_false h1]; rfl))
        clear h1
        go_wp2_with fail
        go_quiet (fail)
        go_wp2_with fail
        exact ⟨⟨k + 1, by omega, congrArg _ (by omega), Lib.hid ⟨HW.out.1.drewN _, HN.out⟩⟩, by simp [intOf]; omega⟩
      subst h1
      by_cases h2 : zn ≤ xn
      · have b2 : decide (zn ≤ xn) = true := decide_eq_true h2
        have HN := Lib.hid (lost_snoc HW.out.2 (by rw [HBh.out, decide_eq_false (by omega : ¬ xn < zn)]; rfl))
        clear h2
        go_wp2_with fail
        go_quiet (fail)
        go_wp2_with fail
        exact ⟨⟨k + 1, by omega, congrArg _ (by omega), Lib.hid ⟨HW.out.1.drewN _, HN.out⟩⟩, by simp [intOf]; omega⟩
      have b2 : decide (zn ≤ xn) = false := decide_eq_false h2
      have HBv : Hid (lostB (dsOf hs) xe xn k = (p.viewed && decide (p.id.1 < xe))) := Lib.hid (by
        rw [HBh.out, decide_eq_true (by omega : xn < zn)]
        simp)
      obtain ⟨zno, hzno⟩ : ∃ z, z = y.d.node := ⟨_, rfl⟩
      obtain ⟨zic, hzic⟩ : ∃ z, z = y.d.inc := ⟨_, rfl⟩
      rw [← hzno] at k2 HP; rw [← hzic] at k3 HP
      have HKS2 : Hid (∀ w', Fresh wr w' → (w'.cell? ⟨b, o + k * 26 + 2, none⟩ = some (.int .i64 zno) ∧ w'.cell? ⟨b, o + k * 26 + 3, none⟩ = some (.int .i64 zic))) := Lib.hid fun w' hf => ⟨hf.cellAt k2 trivial, hf.cellAt k3 trivial⟩
      have hkc : k ≤ c := by omega
      clear HBh h2 hzno hzic k2 k3
      go_upto_region 5 with (first | (go_quiet (fail)) | fail)
      clear c1 k13 x13 b2 lm lb
      generalize hwb : World.drewN wr _ = wb
      have hfb : Fresh wr wb := by rw [← hwb]; exact (Keep.refl _ wr).drewN _
      have HFb := Lib.hid hfb
      have HKS : Hid (∀ w', Fresh wb w' → (w'.cell? ⟨b, o + k * 26 + 2, none⟩ = some (.int .i64 zno) ∧ w'.cell? ⟨b, o + k * 26 + 3, none⟩ = some (.int .i64 zic))) := Lib.hid fun w' hf => HKS2.out w' (HFb.out.trans hf)
      clear hwb hfb HKS2
      -- KEPT5
      refine wp_region_held_drew (S := fun w' => w'.cell? ⟨b, o + k * 26 + 2, none⟩ = some (.int .i64 zno) ∧ w'.cell? ⟨b, o + k * 26 + 3, none⟩ = some (.int .i64 zic)) (by kernel_rfl) (HKS.out _ (Keep.refl _ wb).drew) (fun hHeld => ?_)
      refine wpAnyH_take (i := 0) (v := .slice (some ⟨b, o, none⟩) n c) rfl (by kernel_rfl) (by kernel_rfl) (by kernel_rfl) (fun _ _ _ h => h) (Or.inl ⟨by kernel_rfl, by intro w hSw; simp [go_sem, hSw]⟩) hHeld ?_
      simp only [Act.put, List.getElem_toArray, List.getElem_cons_zero, List.getElem_cons_succ, List.setIfInBounds_toArray, List.set_cons_zero, List.set_cons_succ]
      refine wpAnyH_take (i := 1) (v := .int .i64 (k : Int)) rfl (by kernel_rfl) (by kernel_rfl) (by kernel_rfl) (fun _ _ _ h => h) (Or.inl ⟨by kernel_rfl, by intro w hSw; simp [go_sem, hSw]⟩) hHeld ?_
      simp only [Act.put, List.getElem_toArray, List.getElem_cons_zero, List.getElem_cons_succ, List.setIfInBounds_toArray, List.set_cons_zero, List.set_cons_succ]
      refine wpAnyH_take (i := 2) (v := .slice (some ⟨b, o, none⟩) k c) rfl (by kernel_rfl) (by kernel_rfl) (by kernel_rfl) (fun _ _ _ h => h) (Or.inl ⟨by kernel_rfl, by intro w hSw; go_simp⟩) hHeld ?_
      simp only [Act.put, List.getElem_toArray, List.getElem_cons_zero, List.getElem_cons_succ, List.setIfInBounds_toArray, List.set_cons_zero, List.set_cons_succ]
      refine wpAnyH_take (i := 3) (v := .slice (some ⟨b, o, none⟩) n c) rfl (by kernel_rfl) (by kernel_rfl) (by kernel_rfl) (fun _ _ _ h => h) (Or.inl ⟨by kernel_rfl, by intro w hSw; simp [go_sem, hSw]⟩) hHeld ?_
      simp only [Act.put, List.getElem_toArray, List.getElem_cons_zero, List.getElem_cons_succ, List.setIfInBounds_toArray, List.set_cons_zero, List.set_cons_succ]
      refine wpAnyH_take (i := 4) (v := .int .i64 (k : Int)) rfl (by kernel_rfl) (by kernel_rfl) (by kernel_rfl) (fun _ _ _ h => h) (Or.inl ⟨by kernel_rfl, by intro w hSw; simp [go_sem, hSw]⟩) hHeld ?_
      simp only [Act.put, List.getElem_toArray, List.getElem_cons_zero, List.getElem_cons_succ, List.setIfInBounds_toArray, List.set_cons_zero, List.set_cons_succ]
      refine wpAnyH_take (i := 5) (v := .pointer (some ⟨b, o + k * 26, none⟩)) rfl (by kernel_rfl) (by kernel_rfl) (by kernel_rfl) (fun _ _ _ h => h) (Or.inl ⟨by kernel_rfl, by intro w hSw; go_simp⟩) hHeld ?_
      simp only [Act.put, List.getElem_toArray, List.getElem_cons_zero, List.getElem_cons_succ, List.setIfInBounds_toArray, List.set_cons_zero, List.set_cons_succ]
      refine wpAnyH_take (i := 6) (v := .pointer (some ⟨b, o + k * 26 + 2, none⟩)) rfl (by kernel_rfl) (by kernel_rfl) (by kernel_rfl) (fun _ _ _ h => h) (Or.inl ⟨by kernel_rfl, by intro w hSw; go_simp⟩) hHeld ?_
      simp only [Act.put, List.getElem_toArray, List.getElem_cons_zero, List.getElem_cons_succ, List.setIfInBounds_toArray, List.set_cons_zero, List.set_cons_succ]
      refine wpAnyH_take (i := 7) (v := .int .i64 zno) rfl (by kernel_rfl) (by kernel_rfl) (by kernel_rfl) (fun _ _ _ h => h) (Or.inl ⟨by kernel_rfl, by intro w hSw; simp [go_sem, hSw]⟩) hHeld ?_
      simp only [Act.put, List.getElem_toArray, List.getElem_cons_zero, List.getElem_cons_succ, List.setIfInBounds_toArray, List.set_cons_zero, List.set_cons_succ]
      refine wpAnyH_take (i := 8) (v := .slice (some ⟨b, o, none⟩) n c) rfl (by kernel_rfl) (by kernel_rfl) (by kernel_rfl) (fun _ _ _ h => h) (Or.inl ⟨by kernel_rfl, by intro w hSw; simp [go_sem, hSw]⟩) hHeld ?_
      simp only [Act.put, List.getElem_toArray, List.getElem_cons_zero, List.getElem_cons_succ, List.setIfInBounds_toArray, List.set_cons_zero, List.set_cons_succ]
      refine wpAnyH_take (i := 9) (v := .int .i64 (k : Int)) rfl (by kernel_rfl) (by kernel_rfl) (by kernel_rfl) (fun _ _ _ h => h) (Or.inl ⟨by kernel_rfl, by intro w hSw; simp [go_sem, hSw]⟩) hHeld ?_
      simp only [Act.put, List.getElem_toArray, List.getElem_cons_zero, List.getElem_cons_succ, List.setIfInBounds_toArray, List.set_cons_zero, List.set_cons_succ]
      refine wpAnyH_take (i := 10) (v := .pointer (some ⟨b, o + k * 26, none⟩)) rfl (by kernel_rfl) (by kernel_rfl) (by kernel_rfl) (fun _ _ _ h => h) (Or.inl ⟨by kernel_rfl, by intro w hSw; go_simp⟩) hHeld ?_
      simp only [Act.put, List.getElem_toArray, List.getElem_cons_zero, List.getElem_cons_succ, List.setIfInBounds_toArray, List.set_cons_zero, List.set_cons_succ]
      refine wpAnyH_take (i := 11) (v := .pointer (some ⟨b, o + k * 26 + 3, none⟩)) rfl (by kernel_rfl) (by kernel_rfl) (by kernel_rfl) (fun _ _ _ h => h) (Or.inl ⟨by kernel_rfl, by intro w hSw; go_simp⟩) hHeld ?_
      simp only [Act.put, List.getElem_toArray, List.getElem_cons_zero, List.getElem_cons_succ, List.setIfInBounds_toArray, List.set_cons_zero, List.set_cons_succ]
      refine wpAnyH_take (i := 12) (v := .int .i64 zic) rfl (by kernel_rfl) (by kernel_rfl) (by kernel_rfl) (fun _ _ _ h => h) (Or.inl ⟨by kernel_rfl, by intro w hSw; simp [go_sem, hSw]⟩) hHeld ?_
      simp only [Act.put, List.getElem_toArray, List.getElem_cons_zero, List.getElem_cons_succ, List.setIfInBounds_toArray, List.set_cons_zero, List.set_cons_succ]
      refine wpAnyH_ready (rs := [13, 14]) (by kernel_rfl) (by simp) ?_
      clear hHeld
      refine AllReadyH.cons rfl (fun K hK => ?_) (AllReadyH.cons rfl (fun K hK => ?_) AllReadyH.nil)
      · go_simp
        (with_reducible refine Calls.mono (HP.out _ (HFb.out.trans ((Keep.refl (fun _ => True) wb).drew))) ?_)
        rintro e wc ⟨⟨vm, rfl, hsl, -⟩, hf⟩
        have HV := Lib.hid hsl.one
        have HFc := Lib.hid (((Keep.refl (fun _ => True) wb).drew).trans hf)
        clear hf hsl
        go_wp2_with fail
        refine hK.out _ _ (HKS.out _ HFc.out) (fun hHeld => ?_)
        clear hK K
        try simp only [Act.put, List.getElem_toArray, List.getElem_cons_zero, List.getElem_cons_succ, List.setIfInBounds_toArray, List.set_cons_zero, List.set_cons_succ]
        refine wpAnyH_ready (rs := [14]) (by kernel_rfl) (by simp) ?_
        clear hHeld
        refine AllReadyH.cons rfl (fun K hK => ?_) AllReadyH.nil
        go_simp
        have HA := Lib.hid (And.intro (show wb.heap.size ≤ wc.heap.size from HFc.out.size) (Blk.new wc 106 (rpartV rpart0 (.slice none 0 0))))
        refine hK.out _ _ (HKS.out _ (HFc.out.alloc _)) (fun hHeld => ?_)
        clear hK K
        try simp only [Act.put, List.getElem_toArray, List.getElem_cons_zero, List.getElem_cons_succ, List.setIfInBounds_toArray, List.set_cons_zero, List.set_cons_succ]
        refine wpAnyH_ready (rs := [15]) (by kernel_rfl) (by simp) ?_
        clear hHeld
        refine AllReadyH.cons rfl (fun K hK => ?_) AllReadyH.nil
        rw [if_pos (by rfl)]
        refine wp_store_mid _ _ _ rfl wc.heap.size 0 (rpartV p vm) rfl rfl (HA.out.2.there) (by kernel_rfl) (rpart_one p vm HV.out) ?_
        have hfs : Fresh wb (World.setCells (wc.alloc (.cells (rpartV rpart0 (.slice none 0 0)) 106)) wc.heap.size 0 (rpartV p vm).toList) := Keep.setCells _ _ _ (HFc.out.alloc _) (fun h _ => absurd h (Nat.not_lt.2 HA.out.1))
        have hbs : Blk (World.setCells (wc.alloc (.cells (rpartV rpart0 (.slice none 0 0)) 106)) wc.heap.size 0 (rpartV p vm).toList) wc.heap.size 106 (rpartV p vm) := blk_whole HA.out.2 rfl
        refine hK.out _ _ (HKS.out _ hfs) (fun hHeld => ?_)
        clear hK K
        try simp only [Act.put, List.getElem_toArray, List.getElem_cons_zero, List.getElem_cons_succ, List.setIfInBounds_toArray, List.set_cons_zero, List.set_cons_succ]
        refine wpAnyH_done (by kernel_rfl) ?_ _
        clear hHeld
        generalize hwx : World.setCells _ _ 0 (rpartV p vm).toList = wx
        have HFs : Hid (Fresh wr wx) := Lib.hid (HFb.out.trans (by rw [← hwx]; exact hfs))
        have HPb : Hid (PartB wx wc.heap.size p vm) := Lib.hid ⟨by rw [← hwx]; exact hbs⟩
        clear hwx hfs hbs HV
        have hmb : MkB wx b3 x := ⟨H1.out.1.blk.keep (HW.out.1.trans HFs.out) trivial⟩
        have m4 := hmb.e1
        rw [← HX.out.1] at m4
        have lm := hmb.blk.lt
        have p0 := HPb.out.e1; have p5 := HPb.out.viewed; have lp := HPb.out.blk.lt
        obtain ⟨zv, hzv⟩ : ∃ z, z = p.viewed := ⟨_, rfl⟩
        obtain ⟨ze, hze⟩ : ∃ z, z = p.id.1 := ⟨_, rfl⟩
        rw [← hzv] at p5; rw [← hze] at p0
        have HBz : Hid (lostB (dsOf hs) xe xn k = (zv && decide (ze < xe))) := Lib.hid (by rw [HBv.out, hzv, hze])
        clear hmb hzv hze HBv HPb
        cases zv
        · have HN := Lib.hid (lost_snoc HW.out.2 (by rw [HBz.out]; rfl))
          go_wp2_with fail
          exact ⟨⟨k + 1, by omega, congrArg _ (by omega), Lib.hid ⟨HW.out.1.trans HFs.out, HN.out⟩⟩, by simp [intOf]; omega⟩
        by_cases a : ze < xe
        · have d : decide (ze < xe) = true := decide_eq_true a
          obtain rfl : R = false := by rw [HR.out, lost_hit HKl.out (by rw [HBz.out, d]; rfl)]; rfl
          clear a
          go_wp2_with fail
          go_ret
          exact ⟨rfl, H1.out.2.trans (HW.out.1.trans HFs.out)⟩
        · have d : decide (ze < xe) = false := decide_eq_false a
          have HN := Lib.hid (lost_snoc HW.out.2 (by rw [HBz.out, d]; rfl))
          clear a
          go_wp2_with fail
          exact ⟨⟨k + 1, by omega, congrArg _ (by omega), Lib.hid ⟨HW.out.1.trans HFs.out, HN.out⟩⟩, by simp [intOf]; omega⟩
      · go_simp
        refine hK.out _ _ (HKS.out _ ((Keep.refl _ wb).alloc _).drew) (fun hHeld => ?_)
        clear hK K
        obtain ⟨ba, hba⟩ : ∃ b, b = wb.heap.size := ⟨_, rfl⟩
        rw [← hba]
        generalize hwa : World.drew (World.alloc wb _) = wa
        have hfw : Fresh wb wa := by rw [← hwa]; exact ((Keep.refl _ wb).alloc _).drew
        have hbw : Blk wa ba 106 (rpartV rpart0 (.slice none 0 0)) := by rw [← hwa, hba]; exact (Blk.new _ _ _).drew
        have hlw : wb.heap.size ≤ ba := by omega
        have HFa := Lib.hid hfw
        have HA := Lib.hid (And.intro hlw hbw)
        clear hwa hba hfw hbw hlw
        try simp only [Act.put, List.getElem_toArray, List.getElem_cons_zero, List.getElem_cons_succ, List.setIfInBounds_toArray, List.set_cons_zero, List.set_cons_succ]
        refine wpAnyH_ready (rs := [13]) (by kernel_rfl) (by simp) ?_
        clear hHeld
        refine AllReadyH.cons rfl (fun K hK => ?_) AllReadyH.nil
        go_simp
        (with_reducible refine Calls.mono (HP.out _ (HFb.out.trans HFa.out)) ?_)
        rintro e wc ⟨⟨vm, rfl, hsl, -⟩, hf⟩
        have HV := Lib.hid hsl.one
        have HFc := Lib.hid (HFa.out.trans hf)
        have HB := Lib.hid (And.intro HA.out.1 (HA.out.2.keep hf trivial))
        clear hf hsl
        go_wp2_with fail
        refine hK.out _ _ (HKS.out _ HFc.out) (fun hHeld => ?_)
        clear hK K
        try simp only [Act.put, List.getElem_toArray, List.getElem_cons_zero, List.getElem_cons_succ, List.setIfInBounds_toArray, List.set_cons_zero, List.set_cons_succ]
        refine wpAnyH_ready (rs := [15]) (by kernel_rfl) (by simp) ?_
        clear hHeld
        refine AllReadyH.cons rfl (fun K hK => ?_) AllReadyH.nil
        rw [if_pos (by rfl)]
        refine wp_store_mid _ _ _ rfl ba 0 (rpartV p vm) rfl rfl (HB.out.2.there) (by kernel_rfl) (rpart_one p vm HV.out) ?_
        have hfs : Fresh wb (World.setCells wc ba 0 (rpartV p vm).toList) := Keep.setCells _ _ _ HFc.out (fun h _ => absurd h (Nat.not_lt.2 HB.out.1))
        have hbs : Blk (World.setCells wc ba 0 (rpartV p vm).toList) ba 106 (rpartV p vm) := blk_whole HB.out.2 rfl
        refine hK.out _ _ (HKS.out _ hfs) (fun hHeld => ?_)
        clear hK K
        try simp only [Act.put, List.getElem_toArray, List.getElem_cons_zero, List.getElem_cons_succ, List.setIfInBounds_toArray, List.set_cons_zero, List.set_cons_succ]
        refine wpAnyH_done (by kernel_rfl) ?_ _
        clear hHeld
        generalize hwx : World.setCells _ _ 0 (rpartV p vm).toList = wx
        have HFs : Hid (Fresh wr wx) := Lib.hid (HFb.out.trans (by rw [← hwx]; exact hfs))
        have HPb : Hid (PartB wx ba p vm) := Lib.hid ⟨by rw [← hwx]; exact hbs⟩
        clear hwx hfs hbs HV
        have hmb : MkB wx b3 x := ⟨H1.out.1.blk.keep (HW.out.1.trans HFs.out) trivial⟩
        have m4 := hmb.e1
        rw [← HX.out.1] at m4
        have lm := hmb.blk.lt
        have p0 := HPb.out.e1; have p5 := HPb.out.viewed; have lp := HPb.out.blk.lt
        obtain ⟨zv, hzv⟩ : ∃ z, z = p.viewed := ⟨_, rfl⟩
        obtain ⟨ze, hze⟩ : ∃ z, z = p.id.1 := ⟨_, rfl⟩
        rw [← hzv] at p5; rw [← hze] at p0
        have HBz : Hid (lostB (dsOf hs) xe xn k = (zv && decide (ze < xe))) := Lib.hid (by rw [HBv.out, hzv, hze])
        clear hmb hzv hze HBv HPb
        cases zv
        · have HN := Lib.hid (lost_snoc HW.out.2 (by rw [HBz.out]; rfl))
          go_wp2_with fail
          exact ⟨⟨k + 1, by omega, congrArg _ (by omega), Lib.hid ⟨HW.out.1.trans HFs.out, HN.out⟩⟩, by simp [intOf]; omega⟩
        by_cases a : ze < xe
        · have d : decide (ze < xe) = true := decide_eq_true a
          obtain rfl : R = false := by rw [HR.out, lost_hit HKl.out (by rw [HBz.out, d]; rfl)]; rfl
          clear a
          go_wp2_with fail
          go_ret
          exact ⟨rfl, H1.out.2.trans (HW.out.1.trans HFs.out)⟩
        · have d : decide (ze < xe) = false := decide_eq_false a
          have HN := Lib.hid (lost_snoc HW.out.2 (by rw [HBz.out, d]; rfl))
          clear a
          go_wp2_with fail
          exact ⟨⟨k + 1, by omega, congrArg _ (by omega), Lib.hid ⟨HW.out.1.trans HFs.out, HN.out⟩⟩, by simp [intOf]; omega⟩
      -- END5
    · obtain rfl : k = n := by omega
      obtain rfl : R = true := by
        have hr := HW.out.2
        have hl : (dsOf hs).length = k := by unfold dsOf; rw [List.length_map, HM.out.1.len]
        rw [HR.out, rlost_eq, hl, hr]
        rfl
      go_wp2_with fail
      go_ret
      exact ⟨rfl, H1.out.2.trans HW.out.1⟩
end Go.Proofs.YtohnmaindbgngaaGreatDoor
