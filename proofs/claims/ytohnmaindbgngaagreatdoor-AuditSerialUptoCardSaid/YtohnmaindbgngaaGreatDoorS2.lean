/-
  MERGED: SrvSerW
-/
import Derived.Test.YtohnmaindbgngaaGreatDoorS1
import Derived.Deep.RegionHeld3
import Derived.Deep.DeepCutAuto
import Derived.Deep.CutBlock
import Derived.BigQuiet
namespace Go.Proofs.YtohnmaindbgngaaGreatDoor
set_option linter.unusedVariables false
set_option linter.unusedSimpArgs false
open Go.RowKit Go.Shelf Go.BigFrame

theorem ver_allS (a b : Int) : (#[.int .i64 a, .int .i64 b] : Array Value).all (·.oneCell') = true := by simp [Value.oneCell']
theorem mks_nilS (w : World) : Mks w (fun _ => True) none 0 [] := ⟨rfl, Rd.nil _ _ _ _, Nat.zero_le _, (fun h hh => by cases hh), (fun h hh => by cases hh)⟩
set_option maxRecDepth 20000 in
set_option maxHeartbeats 4000000 in
theorem serial_any (A A2 : Option Addr) (n c n2 c2 : Nat) (K : Int) (hs : List MkV) (vs : List Int) (W : World) (hT : Tabs W) (hm : Mks W (fun _ => True) A n hs) (hok : ∀ x ∈ hs, MkOk W (fun _ => True) x) (hi : ∀ x ∈ hs, MkInt x.d) (hcm : ∀ x ∈ hs, InC x.d.cmd) (hnc : n ≤ c) (hn : n ≤ 1048575)
    (hv : Rd W (fun _ => True) 1 A2 n2 (ics vs)) (hlv : vs.length = n2) (hn2 : n2 ≤ 1048576) (hnl : n2 = 0 → c2 = 0 ∨ A2 ≠ none) :
    Calls Tryz.prog 5 #[.agg #[.slice A n c, .slice A2 n2 c2, .int .i64 K]] W fun e w' => e = .returned (.bool true) ∧ Fresh W w' := by
  have H := Lib.hid (And.intro hm (And.intro hok (And.intro hi (And.intro hnc hcm))))
  have HT := Lib.hid hT
  have HVo : Hid (∀ w', Fresh W w' → Rd w' (fun _ => True) 1 A2 n2 (ics vs)) := Lib.hid fun w' hf => hv.keep hf
  have HNl := Lib.hid hnl
  have HCA := Lib.hid (fun w' (hf : Fresh W w') => copied_rows _ A n c hs w' (hm.keep hf) (fun x hx => (hok x hx).keep hf))
  have hml := hm.len
  have HML := Lib.hid hml
  clear hm hok hi hT hv hcm hml hnl
  go_enter Tryz.func5, Tryz.ntmps5
  go_upto_region 1 with (fail)
  obtain ⟨bx, hbx⟩ : ∃ b, b = W.heap.size := ⟨_, rfl⟩
  rw [← hbx]
  generalize hw1 : World.alloc W _ = wb
  have hf1 : Fresh W wb := hw1 ▸ (Keep.refl _ W).alloc _
  have hb1 : Blk wb bx 25 #[.slice A n c, .slice A2 n2 c2, .int .i64 K] := by rw [← hw1, hbx]; exact Blk.new W _ _
  have H1 := Lib.hid hf1
  have HX := Lib.hid hb1
  have HKS : Hid (∀ w', Fresh wb w' → (w'.cell? ⟨bx, 0, none⟩ = some (.slice A n c) ∧ w'.cell? ⟨bx, 1, none⟩ = some (.slice A2 n2 c2))) := Lib.hid fun w' hf => ⟨(HX.out.keep hf trivial).cell 0, (HX.out.keep hf trivial).cell 1⟩
  clear hbx hw1 hf1 hb1
  obtain ⟨R, hR⟩ : ∃ R, R = serviceD vs (dsOf hs) := ⟨_, rfl⟩
  obtain ⟨⟨va, vb⟩, ve⟩ := R
  have HR := Lib.hid hR
  clear hR
  go_cut [3, 4] (fun s4 s5 wz => ∃ b4 : Nat, s4 = .pointer (some ⟨b4, 0, none⟩) ∧ s5 = .int .i64 ve ∧ Hid (Fresh wb wz ∧ Blk wz b4 29 #[.int .i64 va, .int .i64 vb] ∧ wb.heap.size ≤ b4))
  case first =>
    have HSv : Hid (∀ (w' : World) (B1 B2 : Nat) (v v2 : Value) {ks : List MkV}, Fresh W w' → CopsS w' B1 v n (dsOf hs) ks → w'.ownsRow B2 3 1 v2 n2 (ics vs) → Calls Tryz.prog 7 #[v, v2] w' fun e w'' => e = .returned (.tuple #[.agg #[.int .i64 va, .int .i64 vb], .int .i64 ve]) ∧ Fresh w' w'') := Lib.hid (fun w' B1 B2 v v2 ks hf hc ho => by
      have := hc.service (HT.out.fresh hf) ho hlv hn2
      rw [← HR.out] at this
      exact this)
    -- [[
    refine wp_region_held_drew (S := fun w' => w'.cell? ⟨bx, 0, none⟩ = some (.slice A n c) ∧ w'.cell? ⟨bx, 1, none⟩ = some (.slice A2 n2 c2)) (by kernel_rfl) (HKS.out _ (Keep.refl _ wb).drew) (fun hHeld => ?_)
    refine wpAnyH_take (i := 0) (v := .pointer (some ⟨bx, 0, none⟩)) rfl (by kernel_rfl) (by kernel_rfl) (by kernel_rfl) (fun _ _ _ h => h) (Or.inl ⟨by kernel_rfl, by intro w hSw; simp [go_sem, hSw]⟩) hHeld ?_
    simp only [Act.put, List.getElem_toArray, List.getElem_cons_zero, List.getElem_cons_succ, List.setIfInBounds_toArray, List.set_cons_zero, List.set_cons_succ]
    refine wpAnyH_take (i := 1) (v := .slice A n c) rfl (by kernel_rfl) (by kernel_rfl) (by kernel_rfl) (fun _ _ _ h => h) (Or.inl ⟨by kernel_rfl, by intro w hSw; simp [go_sem, hSw]⟩) hHeld ?_
    simp only [Act.put, List.getElem_toArray, List.getElem_cons_zero, List.getElem_cons_succ, List.setIfInBounds_toArray, List.set_cons_zero, List.set_cons_succ]
    refine wpAnyH_take (i := 3) (v := .pointer (some ⟨bx, 1, none⟩)) rfl (by kernel_rfl) (by kernel_rfl) (by kernel_rfl) (fun _ _ _ h => h) (Or.inl ⟨by kernel_rfl, by intro w hSw; simp [go_sem, hSw]⟩) hHeld ?_
    simp only [Act.put, List.getElem_toArray, List.getElem_cons_zero, List.getElem_cons_succ, List.setIfInBounds_toArray, List.set_cons_zero, List.set_cons_succ]
    refine wpAnyH_take (i := 4) (v := .slice A2 n2 c2) rfl (by kernel_rfl) (by kernel_rfl) (by kernel_rfl) (fun _ _ _ h => h) (Or.inl ⟨by kernel_rfl, by intro w hSw; simp [go_sem, hSw]⟩) hHeld ?_
    simp only [Act.put, List.getElem_toArray, List.getElem_cons_zero, List.getElem_cons_succ, List.setIfInBounds_toArray, List.set_cons_zero, List.set_cons_succ]
    refine wpAnyH_ready (rs := [2, 10]) (by kernel_rfl) (by simp) ?_
    clear hHeld
    refine AllReadyH.cons rfl (fun K hK => ?_) (AllReadyH.cons rfl (fun K hK => ?_) AllReadyH.nil)
    · go_simp
      (with_reducible refine Calls.mono (HCA.out wb.drew (H1.out.trans ((Keep.refl (fun _ => True) wb).drew))) ?_)
      rintro e wc1 ⟨⟨v, ks, rfl, hc⟩, hf⟩
      have HF1 := Lib.hid ((((Keep.refl (fun _ => True) wb).drew)).trans hf)
      have HC1 := Lib.hid (CopsS.of hc HML.out H.out.1.le H.out.1.fit H.out.2.2.1 H.out.2.2.2.2)
      clear hf hc
      go_wp2_with fail
      refine hK.out _ _ (HKS.out _ HF1.out) (fun hHeld => ?_)
      clear hK K
      try simp only [Act.put, List.getElem_toArray, List.getElem_cons_zero, List.getElem_cons_succ, List.setIfInBounds_toArray, List.set_cons_zero, List.set_cons_succ]
      refine wpAnyH_ready (rs := [5, 10]) (by kernel_rfl) (by simp) ?_
      clear hHeld
      refine AllReadyH.cons rfl (fun K hK => ?_) (AllReadyH.cons rfl (fun K hK => ?_) AllReadyH.nil)
      · refine step_app etInt rfl _ _ rfl wc1.heap.size (.slice none 0 0) 0 [] rfl (World.ownsRow_nil _ _ _ _) (fun _ => True) A2 n2 c2 (ics vs) rfl (HVo.out _ (H1.out.trans HF1.out)) HNl.out (ics_one _) (by omega) (Nat.le_refl _) ?_
        intro v2 wc2 ho hk hn
        have hf : Fresh wc1 wc2 := hk.weaken fun _ _ _ => by simp [Value.ownBlock]
        try simp only [Nat.zero_add, List.nil_append] at ho
        have HF2 := Lib.hid ((HF1.out).trans hf)
        have HC2 := Lib.hid (HC1.out.fresh hf)
        have HV2 := Lib.hid ho
        clear hf ho hk hn
        refine hK.out _ _ (HKS.out _ HF2.out) (fun hHeld => ?_)
        clear hK K
        try simp only [Act.put, List.getElem_toArray, List.getElem_cons_zero, List.getElem_cons_succ, List.setIfInBounds_toArray, List.set_cons_zero, List.set_cons_succ]
        refine wpAnyH_ready (rs := [6, 10]) (by kernel_rfl) (by simp) ?_
        clear hHeld
        refine AllReadyH.cons rfl (fun K hK => ?_) (AllReadyH.cons rfl (fun K hK => ?_) AllReadyH.nil)
        · go_simp
          (with_reducible refine Calls.mono (HSv.out _ _ _ _ _ (H1.out.trans HF2.out) HC2.out HV2.out) ?_)
          rintro e wc3 ⟨rfl, hf⟩
          have HF3 := Lib.hid ((HF2.out).trans hf)
          clear hf
          go_wp2_with fail
          refine hK.out _ _ (HKS.out _ HF3.out) (fun hHeld => ?_)
          clear hK K
          try simp only [Act.put, List.getElem_toArray, List.getElem_cons_zero, List.getElem_cons_succ, List.setIfInBounds_toArray, List.set_cons_zero, List.set_cons_succ]
          refine wpAnyH_take (i := 7) (v := .tuple #[.agg #[.int .i64 va, .int .i64 vb], .int .i64 ve]) rfl (by kernel_rfl) (by kernel_rfl) (by kernel_rfl) (fun _ _ _ h => h) (Or.inl ⟨by kernel_rfl, by intro w hSw; simp [go_sem, hSw]⟩) hHeld ?_
          simp only [Act.put, List.getElem_toArray, List.getElem_cons_zero, List.getElem_cons_succ, List.setIfInBounds_toArray, List.set_cons_zero, List.set_cons_succ]
          refine wpAnyH_take (i := 8) (v := .agg #[.int .i64 va, .int .i64 vb]) rfl (by kernel_rfl) (by kernel_rfl) (by kernel_rfl) (fun _ _ _ h => h) (Or.inl ⟨by kernel_rfl, by intro w hSw; simp [go_sem, hSw]⟩) hHeld ?_
          simp only [Act.put, List.getElem_toArray, List.getElem_cons_zero, List.getElem_cons_succ, List.setIfInBounds_toArray, List.set_cons_zero, List.set_cons_succ]
          refine wpAnyH_take (i := 9) (v := .int .i64 ve) rfl (by kernel_rfl) (by kernel_rfl) (by kernel_rfl) (fun _ _ _ h => h) (Or.inl ⟨by kernel_rfl, by intro w hSw; simp [go_sem, hSw]⟩) hHeld ?_
          simp only [Act.put, List.getElem_toArray, List.getElem_cons_zero, List.getElem_cons_succ, List.setIfInBounds_toArray, List.set_cons_zero, List.set_cons_succ]
          refine wpAnyH_ready (rs := [10]) (by kernel_rfl) (by simp) ?_
          clear hHeld
          refine AllReadyH.cons rfl (fun K hK => ?_) AllReadyH.nil
          go_simp
          have HA := Lib.hid (And.intro (show wb.heap.size ≤ wc3.heap.size from (HF3.out).size) (Blk.new wc3 29 #[.int .i64 0, .int .i64 0]))
          refine hK.out _ _ (HKS.out _ ((HF3.out).alloc _)) (fun hHeld => ?_)
          clear hK K
          try simp only [Act.put, List.getElem_toArray, List.getElem_cons_zero, List.getElem_cons_succ, List.setIfInBounds_toArray, List.set_cons_zero, List.set_cons_succ]
          refine wpAnyH_ready (rs := [11]) (by kernel_rfl) (by simp) ?_
          clear hHeld
          refine AllReadyH.cons rfl (fun K hK => ?_) AllReadyH.nil
          rw [if_pos (by rfl)]
          refine wp_store_mid _ _ _ rfl wc3.heap.size 0 #[.int .i64 va, .int .i64 vb] rfl rfl (HA.out.2.there) (by kernel_rfl) (ver_allS _ _) ?_
          have hfs : Fresh wb (World.setCells (wc3.alloc (.cells #[.int .i64 0, .int .i64 0] 29)) wc3.heap.size 0 [.int .i64 va, .int .i64 vb]) := Keep.setCells _ _ _ ((HF3.out).alloc _) (fun h _ => absurd h (Nat.not_lt.2 HA.out.1))
          refine hK.out _ _ (HKS.out _ hfs) (fun hHeld => ?_)
          clear hK K
          try simp only [Act.put, List.getElem_toArray, List.getElem_cons_zero, List.getElem_cons_succ, List.setIfInBounds_toArray, List.set_cons_zero, List.set_cons_succ]
          refine wpAnyH_take (i := 12) (v := .int .i64 ve) rfl (by kernel_rfl) (by kernel_rfl) (by kernel_rfl) (fun _ _ _ h => h) (Or.inl ⟨by kernel_rfl, by intro w hSw; simp [go_sem, hSw]⟩) hHeld ?_
          simp only [Act.put, List.getElem_toArray, List.getElem_cons_zero, List.getElem_cons_succ, List.setIfInBounds_toArray, List.set_cons_zero, List.set_cons_succ]
          refine wpAnyH_done (by kernel_rfl) ?_ _
          clear hHeld
          go_wp2_with fail
          go_meet
          exact ⟨_, rfl, rfl, Lib.hid ⟨hfs, (HA.out.2.set 0 (.int .i64 va)).set 1 (.int .i64 vb), HA.out.1⟩⟩
        · go_simp
          have hfa3 : Fresh wb (wc2.alloc (.cells #[.int .i64 0, .int .i64 0] 29)) := (HF2.out).alloc _
          have hbl3 := Blk.new wc2 29 #[.int .i64 0, .int .i64 0]
          have hlo3 : wb.heap.size ≤ wc2.heap.size := (HF2.out).size
          refine hK.out _ _ (HKS.out _ ((HF2.out).alloc _)) (fun hHeld => ?_)
          clear hK K
          obtain ⟨ba, hba⟩ : ∃ b, b = wc2.heap.size := ⟨_, rfl⟩
          obtain ⟨wa3, hwa⟩ : ∃ w', w' = wc2.alloc (.cells #[.int .i64 0, .int .i64 0] 29) := ⟨_, rfl⟩
          have hfw : Fresh wb wa3 := by rw [hwa]; exact (HF2.out).alloc _
          have hbw : Blk wa3 ba 29 #[.int .i64 0, .int .i64 0] := by rw [hwa, hba]; exact Blk.new _ _ _
          have hlw : wb.heap.size ≤ ba := by have := (HF2.out).size; omega
          have HC3 := Lib.hid (HC2.out.fresh (show Fresh wc2 wa3 by rw [hwa]; exact (Keep.refl _ wc2).alloc _))
          have HV3 := Lib.hid (own_keep HV2.out (show Fresh wc2 wa3 by rw [hwa]; exact (Keep.refl _ wc2).alloc _) (fun _ _ => trivial))
          rw [← hwa, ← hba]
          have HF3 := Lib.hid hfw
          have HA3 := Lib.hid (And.intro hlw hbw)
          clear hwa hba hfw hbw hlw hfa3 hbl3 hlo3
          try simp only [Act.put, List.getElem_toArray, List.getElem_cons_zero, List.getElem_cons_succ, List.setIfInBounds_toArray, List.set_cons_zero, List.set_cons_succ]
          refine wpAnyH_ready (rs := [6]) (by kernel_rfl) (by simp) ?_
          clear hHeld
          refine AllReadyH.cons rfl (fun K hK => ?_) AllReadyH.nil
          go_simp
          (with_reducible refine Calls.mono (HSv.out _ _ _ _ _ (H1.out.trans HF3.out) HC3.out HV3.out) ?_)
          rintro e wc4 ⟨rfl, hf⟩
          have HF4 := Lib.hid ((HF3.out).trans hf)
          have HA4 := Lib.hid (And.intro HA3.out.1 (HA3.out.2.keep hf trivial))
          clear hf
          go_wp2_with fail
          refine hK.out _ _ (HKS.out _ HF4.out) (fun hHeld => ?_)
          clear hK K
          try simp only [Act.put, List.getElem_toArray, List.getElem_cons_zero, List.getElem_cons_succ, List.setIfInBounds_toArray, List.set_cons_zero, List.set_cons_succ]
          refine wpAnyH_take (i := 7) (v := .tuple #[.agg #[.int .i64 va, .int .i64 vb], .int .i64 ve]) rfl (by kernel_rfl) (by kernel_rfl) (by kernel_rfl) (fun _ _ _ h => h) (Or.inl ⟨by kernel_rfl, by intro w hSw; simp [go_sem, hSw]⟩) hHeld ?_
          simp only [Act.put, List.getElem_toArray, List.getElem_cons_zero, List.getElem_cons_succ, List.setIfInBounds_toArray, List.set_cons_zero, List.set_cons_succ]
          refine wpAnyH_take (i := 8) (v := .agg #[.int .i64 va, .int .i64 vb]) rfl (by kernel_rfl) (by kernel_rfl) (by kernel_rfl) (fun _ _ _ h => h) (Or.inl ⟨by kernel_rfl, by intro w hSw; simp [go_sem, hSw]⟩) hHeld ?_
          simp only [Act.put, List.getElem_toArray, List.getElem_cons_zero, List.getElem_cons_succ, List.setIfInBounds_toArray, List.set_cons_zero, List.set_cons_succ]
          refine wpAnyH_take (i := 9) (v := .int .i64 ve) rfl (by kernel_rfl) (by kernel_rfl) (by kernel_rfl) (fun _ _ _ h => h) (Or.inl ⟨by kernel_rfl, by intro w hSw; simp [go_sem, hSw]⟩) hHeld ?_
          simp only [Act.put, List.getElem_toArray, List.getElem_cons_zero, List.getElem_cons_succ, List.setIfInBounds_toArray, List.set_cons_zero, List.set_cons_succ]
          refine wpAnyH_ready (rs := [11]) (by kernel_rfl) (by simp) ?_
          clear hHeld
          refine AllReadyH.cons rfl (fun K hK => ?_) AllReadyH.nil
          rw [if_pos (by rfl)]
          refine wp_store_mid _ _ _ rfl ba 0 #[.int .i64 va, .int .i64 vb] rfl rfl (HA4.out.2.there) (by kernel_rfl) (ver_allS _ _) ?_
          have hfs : Fresh wb (World.setCells wc4 ba 0 [.int .i64 va, .int .i64 vb]) := Keep.setCells _ _ _ HF4.out (fun h _ => absurd h (Nat.not_lt.2 HA4.out.1))
          refine hK.out _ _ (HKS.out _ hfs) (fun hHeld => ?_)
          clear hK K
          try simp only [Act.put, List.getElem_toArray, List.getElem_cons_zero, List.getElem_cons_succ, List.setIfInBounds_toArray, List.set_cons_zero, List.set_cons_succ]
          refine wpAnyH_take (i := 12) (v := .int .i64 ve) rfl (by kernel_rfl) (by kernel_rfl) (by kernel_rfl) (fun _ _ _ h => h) (Or.inl ⟨by kernel_rfl, by intro w hSw; simp [go_sem, hSw]⟩) hHeld ?_
          simp only [Act.put, List.getElem_toArray, List.getElem_cons_zero, List.getElem_cons_succ, List.setIfInBounds_toArray, List.set_cons_zero, List.set_cons_succ]
          refine wpAnyH_done (by kernel_rfl) ?_ _
          clear hHeld
          go_wp2_with fail
          go_meet
          exact ⟨_, rfl, rfl, Lib.hid ⟨hfs, (HA4.out.2.set 0 (.int .i64 va)).set 1 (.int .i64 vb), HA4.out.1⟩⟩
      · go_simp
        have hfa2 : Fresh wb (wc1.alloc (.cells #[.int .i64 0, .int .i64 0] 29)) := (HF1.out).alloc _
        have hbl2 := Blk.new wc1 29 #[.int .i64 0, .int .i64 0]
        have hlo2 : wb.heap.size ≤ wc1.heap.size := (HF1.out).size
        refine hK.out _ _ (HKS.out _ ((HF1.out).alloc _)) (fun hHeld => ?_)
        clear hK K
        obtain ⟨ba, hba⟩ : ∃ b, b = wc1.heap.size := ⟨_, rfl⟩
        obtain ⟨wa2, hwa⟩ : ∃ w', w' = wc1.alloc (.cells #[.int .i64 0, .int .i64 0] 29) := ⟨_, rfl⟩
        have hfw : Fresh wb wa2 := by rw [hwa]; exact (HF1.out).alloc _
        have hbw : Blk wa2 ba 29 #[.int .i64 0, .int .i64 0] := by rw [hwa, hba]; exact Blk.new _ _ _
        have hlw : wb.heap.size ≤ ba := by have := (HF1.out).size; omega
        have HC2 := Lib.hid (HC1.out.fresh (show Fresh wc1 wa2 by rw [hwa]; exact (Keep.refl _ wc1).alloc _))
        rw [← hwa, ← hba]
        have HF2 := Lib.hid hfw
        have HA2 := Lib.hid (And.intro hlw hbw)
        clear hwa hba hfw hbw hlw hfa2 hbl2 hlo2
        try simp only [Act.put, List.getElem_toArray, List.getElem_cons_zero, List.getElem_cons_succ, List.setIfInBounds_toArray, List.set_cons_zero, List.set_cons_succ]
        refine wpAnyH_ready (rs := [5]) (by kernel_rfl) (by simp) ?_
        clear hHeld
        refine AllReadyH.cons rfl (fun K hK => ?_) AllReadyH.nil
        refine step_app etInt rfl _ _ rfl wa2.heap.size (.slice none 0 0) 0 [] rfl (World.ownsRow_nil _ _ _ _) (fun _ => True) A2 n2 c2 (ics vs) rfl (HVo.out _ (H1.out.trans HF2.out)) HNl.out (ics_one _) (by omega) (Nat.le_refl _) ?_
        intro v2 wc3 ho hk hn
        have hf : Fresh wa2 wc3 := hk.weaken fun _ _ _ => by simp [Value.ownBlock]
        try simp only [Nat.zero_add, List.nil_append] at ho
        have HF3 := Lib.hid ((HF2.out).trans hf)
        have HA3 := Lib.hid (And.intro HA2.out.1 (HA2.out.2.keep hf trivial))
        have HC3 := Lib.hid (HC2.out.fresh hf)
        have HV3 := Lib.hid ho
        clear hf ho hk hn
        refine hK.out _ _ (HKS.out _ HF3.out) (fun hHeld => ?_)
        clear hK K
        try simp only [Act.put, List.getElem_toArray, List.getElem_cons_zero, List.getElem_cons_succ, List.setIfInBounds_toArray, List.set_cons_zero, List.set_cons_succ]
        refine wpAnyH_ready (rs := [6]) (by kernel_rfl) (by simp) ?_
        clear hHeld
        refine AllReadyH.cons rfl (fun K hK => ?_) AllReadyH.nil
        go_simp
        (with_reducible refine Calls.mono (HSv.out _ _ _ _ _ (H1.out.trans HF3.out) HC3.out HV3.out) ?_)
        rintro e wc4 ⟨rfl, hf⟩
        have HF4 := Lib.hid ((HF3.out).trans hf)
        have HA4 := Lib.hid (And.intro HA3.out.1 (HA3.out.2.keep hf trivial))
        clear hf
        go_wp2_with fail
        refine hK.out _ _ (HKS.out _ HF4.out) (fun hHeld => ?_)
        clear hK K
        try simp only [Act.put, List.getElem_toArray, List.getElem_cons_zero, List.getElem_cons_succ, List.setIfInBounds_toArray, List.set_cons_zero, List.set_cons_succ]
        refine wpAnyH_take (i := 7) (v := .tuple #[.agg #[.int .i64 va, .int .i64 vb], .int .i64 ve]) rfl (by kernel_rfl) (by kernel_rfl) (by kernel_rfl) (fun _ _ _ h => h) (Or.inl ⟨by kernel_rfl, by intro w hSw; simp [go_sem, hSw]⟩) hHeld ?_
        simp only [Act.put, List.getElem_toArray, List.getElem_cons_zero, List.getElem_cons_succ, List.setIfInBounds_toArray, List.set_cons_zero, List.set_cons_succ]
        refine wpAnyH_take (i := 8) (v := .agg #[.int .i64 va, .int .i64 vb]) rfl (by kernel_rfl) (by kernel_rfl) (by kernel_rfl) (fun _ _ _ h => h) (Or.inl ⟨by kernel_rfl, by intro w hSw; simp [go_sem, hSw]⟩) hHeld ?_
        simp only [Act.put, List.getElem_toArray, List.getElem_cons_zero, List.getElem_cons_succ, List.setIfInBounds_toArray, List.set_cons_zero, List.set_cons_succ]
        refine wpAnyH_take (i := 9) (v := .int .i64 ve) rfl (by kernel_rfl) (by kernel_rfl) (by kernel_rfl) (fun _ _ _ h => h) (Or.inl ⟨by kernel_rfl, by intro w hSw; simp [go_sem, hSw]⟩) hHeld ?_
        simp only [Act.put, List.getElem_toArray, List.getElem_cons_zero, List.getElem_cons_succ, List.setIfInBounds_toArray, List.set_cons_zero, List.set_cons_succ]
        refine wpAnyH_ready (rs := [11]) (by kernel_rfl) (by simp) ?_
        clear hHeld
        refine AllReadyH.cons rfl (fun K hK => ?_) AllReadyH.nil
        rw [if_pos (by rfl)]
        refine wp_store_mid _ _ _ rfl ba 0 #[.int .i64 va, .int .i64 vb] rfl rfl (HA4.out.2.there) (by kernel_rfl) (ver_allS _ _) ?_
        have hfs : Fresh wb (World.setCells wc4 ba 0 [.int .i64 va, .int .i64 vb]) := Keep.setCells _ _ _ HF4.out (fun h _ => absurd h (Nat.not_lt.2 HA4.out.1))
        refine hK.out _ _ (HKS.out _ hfs) (fun hHeld => ?_)
        clear hK K
        try simp only [Act.put, List.getElem_toArray, List.getElem_cons_zero, List.getElem_cons_succ, List.setIfInBounds_toArray, List.set_cons_zero, List.set_cons_succ]
        refine wpAnyH_take (i := 12) (v := .int .i64 ve) rfl (by kernel_rfl) (by kernel_rfl) (by kernel_rfl) (fun _ _ _ h => h) (Or.inl ⟨by kernel_rfl, by intro w hSw; simp [go_sem, hSw]⟩) hHeld ?_
        simp only [Act.put, List.getElem_toArray, List.getElem_cons_zero, List.getElem_cons_succ, List.setIfInBounds_toArray, List.set_cons_zero, List.set_cons_succ]
        refine wpAnyH_done (by kernel_rfl) ?_ _
        clear hHeld
        go_wp2_with fail
        go_meet
        exact ⟨_, rfl, rfl, Lib.hid ⟨hfs, (HA4.out.2.set 0 (.int .i64 va)).set 1 (.int .i64 vb), HA4.out.1⟩⟩
    · go_simp
      have hfa1 : Fresh wb (wb.drew.alloc (.cells #[.int .i64 0, .int .i64 0] 29)) := (((Keep.refl (fun _ => True) wb).drew)).alloc _
      have hbl1 := Blk.new wb.drew 29 #[.int .i64 0, .int .i64 0]
      have hlo1 : wb.heap.size ≤ wb.drew.heap.size := (((Keep.refl (fun _ => True) wb).drew)).size
      refine hK.out _ _ (HKS.out _ ((Keep.refl _ wb).alloc _).drew) (fun hHeld => ?_)
      clear hK K
      obtain ⟨ba, hba⟩ : ∃ b, b = wb.heap.size := ⟨_, rfl⟩
      obtain ⟨wa1, hwa⟩ : ∃ w, w = (wb.alloc (.cells #[.int .i64 0, .int .i64 0] 29)).drew := ⟨_, rfl⟩
      have hfw : Fresh wb wa1 := by rw [hwa]; exact ((Keep.refl _ wb).alloc _).drew
      have hbw : Blk wa1 ba 29 #[.int .i64 0, .int .i64 0] := by rw [hwa, hba]; exact (Blk.new _ _ _).drew
      have hlw : wb.heap.size ≤ ba := by omega
      rw [← hwa, ← hba]
      have HF1 := Lib.hid hfw
      have HA1 := Lib.hid (And.intro hlw hbw)
      clear hwa hba hfw hbw hlw hfa1 hbl1 hlo1
      try simp only [Act.put, List.getElem_toArray, List.getElem_cons_zero, List.getElem_cons_succ, List.setIfInBounds_toArray, List.set_cons_zero, List.set_cons_succ]
      refine wpAnyH_ready (rs := [2]) (by kernel_rfl) (by simp) ?_
      clear hHeld
      refine AllReadyH.cons rfl (fun K hK => ?_) AllReadyH.nil
      go_simp
      (with_reducible refine Calls.mono (HCA.out wa1 (H1.out.trans HF1.out)) ?_)
      rintro e wc2 ⟨⟨v, ks, rfl, hc⟩, hf⟩
      have HF2 := Lib.hid ((HF1.out).trans hf)
      have HA2 := Lib.hid (And.intro HA1.out.1 (HA1.out.2.keep hf trivial))
      have HC2 := Lib.hid (CopsS.of hc HML.out H.out.1.le H.out.1.fit H.out.2.2.1 H.out.2.2.2.2)
      clear hf hc
      go_wp2_with fail
      refine hK.out _ _ (HKS.out _ HF2.out) (fun hHeld => ?_)
      clear hK K
      try simp only [Act.put, List.getElem_toArray, List.getElem_cons_zero, List.getElem_cons_succ, List.setIfInBounds_toArray, List.set_cons_zero, List.set_cons_succ]
      refine wpAnyH_ready (rs := [5]) (by kernel_rfl) (by simp) ?_
      clear hHeld
      refine AllReadyH.cons rfl (fun K hK => ?_) AllReadyH.nil
      refine step_app etInt rfl _ _ rfl wc2.heap.size (.slice none 0 0) 0 [] rfl (World.ownsRow_nil _ _ _ _) (fun _ => True) A2 n2 c2 (ics vs) rfl (HVo.out _ (H1.out.trans HF2.out)) HNl.out (ics_one _) (by omega) (Nat.le_refl _) ?_
      intro v2 wc3 ho hk hn
      have hf : Fresh wc2 wc3 := hk.weaken fun _ _ _ => by simp [Value.ownBlock]
      try simp only [Nat.zero_add, List.nil_append] at ho
      have HF3 := Lib.hid ((HF2.out).trans hf)
      have HA3 := Lib.hid (And.intro HA2.out.1 (HA2.out.2.keep hf trivial))
      have HC3 := Lib.hid (HC2.out.fresh hf)
      have HV3 := Lib.hid ho
      clear hf ho hk hn
      refine hK.out _ _ (HKS.out _ HF3.out) (fun hHeld => ?_)
      clear hK K
      try simp only [Act.put, List.getElem_toArray, List.getElem_cons_zero, List.getElem_cons_succ, List.setIfInBounds_toArray, List.set_cons_zero, List.set_cons_succ]
      refine wpAnyH_ready (rs := [6]) (by kernel_rfl) (by simp) ?_
      clear hHeld
      refine AllReadyH.cons rfl (fun K hK => ?_) AllReadyH.nil
      go_simp
      (with_reducible refine Calls.mono (HSv.out _ _ _ _ _ (H1.out.trans HF3.out) HC3.out HV3.out) ?_)
      rintro e wc4 ⟨rfl, hf⟩
      have HF4 := Lib.hid ((HF3.out).trans hf)
      have HA4 := Lib.hid (And.intro HA3.out.1 (HA3.out.2.keep hf trivial))
      clear hf
      go_wp2_with fail
      refine hK.out _ _ (HKS.out _ HF4.out) (fun hHeld => ?_)
      clear hK K
      try simp only [Act.put, List.getElem_toArray, List.getElem_cons_zero, List.getElem_cons_succ, List.setIfInBounds_toArray, List.set_cons_zero, List.set_cons_succ]
      refine wpAnyH_take (i := 7) (v := .tuple #[.agg #[.int .i64 va, .int .i64 vb], .int .i64 ve]) rfl (by kernel_rfl) (by kernel_rfl) (by kernel_rfl) (fun _ _ _ h => h) (Or.inl ⟨by kernel_rfl, by intro w hSw; simp [go_sem, hSw]⟩) hHeld ?_
      simp only [Act.put, List.getElem_toArray, List.getElem_cons_zero, List.getElem_cons_succ, List.setIfInBounds_toArray, List.set_cons_zero, List.set_cons_succ]
      refine wpAnyH_take (i := 8) (v := .agg #[.int .i64 va, .int .i64 vb]) rfl (by kernel_rfl) (by kernel_rfl) (by kernel_rfl) (fun _ _ _ h => h) (Or.inl ⟨by kernel_rfl, by intro w hSw; simp [go_sem, hSw]⟩) hHeld ?_
      simp only [Act.put, List.getElem_toArray, List.getElem_cons_zero, List.getElem_cons_succ, List.setIfInBounds_toArray, List.set_cons_zero, List.set_cons_succ]
      refine wpAnyH_take (i := 9) (v := .int .i64 ve) rfl (by kernel_rfl) (by kernel_rfl) (by kernel_rfl) (fun _ _ _ h => h) (Or.inl ⟨by kernel_rfl, by intro w hSw; simp [go_sem, hSw]⟩) hHeld ?_
      simp only [Act.put, List.getElem_toArray, List.getElem_cons_zero, List.getElem_cons_succ, List.setIfInBounds_toArray, List.set_cons_zero, List.set_cons_succ]
      refine wpAnyH_ready (rs := [11]) (by kernel_rfl) (by simp) ?_
      clear hHeld
      refine AllReadyH.cons rfl (fun K hK => ?_) AllReadyH.nil
      rw [if_pos (by rfl)]
      refine wp_store_mid _ _ _ rfl ba 0 #[.int .i64 va, .int .i64 vb] rfl rfl (HA4.out.2.there) (by kernel_rfl) (ver_allS _ _) ?_
      have hfs : Fresh wb (World.setCells wc4 ba 0 [.int .i64 va, .int .i64 vb]) := Keep.setCells _ _ _ HF4.out (fun h _ => absurd h (Nat.not_lt.2 HA4.out.1))
      refine hK.out _ _ (HKS.out _ hfs) (fun hHeld => ?_)
      clear hK K
      try simp only [Act.put, List.getElem_toArray, List.getElem_cons_zero, List.getElem_cons_succ, List.setIfInBounds_toArray, List.set_cons_zero, List.set_cons_succ]
      refine wpAnyH_take (i := 12) (v := .int .i64 ve) rfl (by kernel_rfl) (by kernel_rfl) (by kernel_rfl) (fun _ _ _ h => h) (Or.inl ⟨by kernel_rfl, by intro w hSw; simp [go_sem, hSw]⟩) hHeld ?_
      simp only [Act.put, List.getElem_toArray, List.getElem_cons_zero, List.getElem_cons_succ, List.setIfInBounds_toArray, List.set_cons_zero, List.set_cons_succ]
      refine wpAnyH_done (by kernel_rfl) ?_ _
      clear hHeld
      go_wp2_with fail
      go_meet
      exact ⟨_, rfl, rfl, Lib.hid ⟨hfs, (HA4.out.2.set 0 (.int .i64 va)).set 1 (.int .i64 vb), HA4.out.1⟩⟩
    -- ]]
  case rest =>
  rename World => w3
  obtain ⟨b4, rfl, rfl, hc3⟩ := hcut
  have H3 := Lib.hid (And.intro (H1.out.trans hc3.out.1) (And.intro hc3.out.1 hc3.out.2.1))
  have HS1 : Hid (∀ w', Fresh W w' → Calls Tryz.prog 7 #[.slice none 0 0, .slice (some ⟨w'.heap.size, 0, none⟩) 1 1] (w'.alloc (.cells #[.int .i64 1] 3)) fun e w'' => e = .returned (.tuple #[.agg #[.int .i64 0, .int .i64 0], .int .i64 0]) ∧ Fresh (w'.alloc (.cells #[.int .i64 1] 3)) w'') := Lib.hid fun w' hf => by
    have := serviceC_any (HT.out.fresh (hf.alloc (.cells #[.int .i64 1] 3))) none 0 0 [] (mks_nilS _) (fun x hx => by cases hx) (fun x hx => by cases hx) (fun x hx => by cases hx) (some ⟨w'.heap.size, 0, none⟩) 1 1 [1] (Rd.one_new w' (.int .i64 1) 3) rfl (by decide)
    have e : dsOf ([] : List MkV) = [] := rfl
    rw [e, service_one] at this
    exact this
  clear hc3
  go_wp2_with fail
  refine Calls.mono (HS1.out w3 H3.out.1) ?_
  rintro e w5 ⟨rfl, hf5⟩
  have hf35 : Fresh w3 w5 := ((Keep.refl _ w3).alloc _).trans hf5
  have H5 := Lib.hid (And.intro (H3.out.1.trans hf35) (And.intro (H3.out.2.1.trans hf35) (H3.out.2.2.keep hf35 trivial)))
  clear hf35 hf5 HS1 H3
  go_upto_region 5 with (fail)
  generalize hw6 : World.alloc w5 _ = w6
  have hf6 : Fresh w5 w6 := hw6 ▸ (Keep.refl _ w5).alloc _
  have H6 := Lib.hid (And.intro (H5.out.1.trans hf6) (And.intro (H5.out.2.1.trans hf6) (H5.out.2.2.keep hf6 trivial)))
  clear hw6 hf6 H5
  have a0 := H6.out.2.2.cell 0; have a1 := H6.out.2.2.cell 1; have la := H6.out.2.2.lt
  simp at a0 a1
  by_cases hve : ve = 0
  rotate_left
  · have hvb : (ve != 0) = true := by simpa using hve
    clear hve
    go_wp2_with fail
    go_ret
    exact ⟨rfl, H6.out.1⟩
  subst hve
  by_cases hva : va = 0
  rotate_left
  · have hvb : (va != 0) = true := by simpa using hva
    clear hva
    go_wp2_with fail
    go_ret
    exact ⟨rfl, H6.out.1⟩
  subst hva
  have HC := Lib.hid (HCA.out w6 H6.out.1)
  have x0 := (HKS.out w6 H6.out.2.1).1
  have lx : bx < w6.heap.size := Nat.lt_of_lt_of_le HX.out.lt H6.out.2.1.size
  go_wp2_with fail
  refine Calls.mono HC.out ?_
  rintro e w7 ⟨⟨v7, ks7, rfl, hc7⟩, hf7⟩
  have hC7 := CopsS.of hc7 HML.out H.out.1.le H.out.1.fit H.out.2.2.1 H.out.2.2.2.2
  obtain ⟨A7, c7, rfl, hr7, -⟩ := own_rd hC7.own
  have HH := Lib.hid (ahist_any (fun _ => True) A7 n c7 ks7 w7 ⟨hC7.len, hr7.weaken fun _ _ => trivial, hC7.le, hC7.fit, hC7.one⟩)
  have HSame := Lib.hid hC7.same
  have H7 := Lib.hid (And.intro (H6.out.1.trans hf7) (H6.out.2.1.trans hf7))
  clear hc7 hf7 hC7 hr7 HC x0 lx a0 a1 la
  go_wp2_with fail
  refine Calls.mono HH.out ?_
  rintro e w8 ⟨⟨v8, cs, rfl, hist, hle, ho8⟩, hf8⟩
  rw [HSame.out] at hist
  have HSer := Lib.hid (service_code HR.out hist)
  obtain ⟨A8, c8, rfl, hr8, -⟩ := own_rd ho8
  have HH8 : Hid (Rd w8 (fun _ => True) 7 A8 cs.length (ccells cs)) := Lib.hid (hr8.weaken fun _ _ => trivial)
  have HNw := Lib.hid (mats_new w8)
  have H8 := Lib.hid (And.intro (H7.out.1.trans hf8) (H7.out.2.trans hf8))
  clear hist ho8 hr8 hf8 HH HSame H7
  go_wp2_with fail
  refine Calls.mono HNw.out ?_
  rintro e w9 ⟨⟨m, F, rfl, hm9⟩, hf9⟩
  have HW9 := Lib.hid (SerW.start cs hm9 hf9)
  clear hm9 hf9 HNw
  go_wp2_with fail
  go_loopw [9, 10] (fun rv iv wr => ∃ k : Nat, k ≤ cs.length ∧ iv = .int .i64 (k : Int) ∧ Hid (∃ F, SerW w8 wr rv k cs m F)) (fun _ i _ => cs.length - (intOf i).toNat)
  case atStart => exact ⟨0, Nat.zero_le _, rfl, Lib.hid ⟨F, HW9.out⟩⟩
  case round =>
    rename World => wr
    rename_i rv iv
    obtain ⟨k, hk, rfl, HW⟩ := hrel
    by_cases hlt : k < cs.length
    · -- [[
      obtain ⟨F1, hW⟩ := HW.out
      obtain ⟨b8, o8, rfl, -, hr⟩ := Rd.range cmd_seven (HH8.out.keep hW.fr) hlt hlt
      obtain ⟨d, hd⟩ : ∃ d, d = cs[k] := ⟨_, rfl⟩
      rw [← hd] at hr
      obtain ⟨R, hR⟩ : ∃ R, R = d.apply (runSt newD (cs.take k)) := ⟨_, rfl⟩
      obtain ⟨⟨rc, rn', rn⟩, st'⟩ := R
      have hA := mats_apply (HT.out.fresh H8.out.1) hW.fr hW.mat d.c d.i d.r d.o d.k d.v d.d
      have hR2 : applyD d.c d.i d.r d.o d.k d.v d.d (runSt newD (cs.take k)) = (⟨rc, rn', rn⟩, st') := hR.symm
      rw [hR2] at hA
      have HA := Lib.hid hA
      have HCm := Lib.hid hr
      have HD := Lib.hid (And.intro hd hR)
      have HW1 := Lib.hid hW
      clear hW hr hd hR hR2 hA HW
      go_wp2_with (refine wpList_load_mid rfl 43 _ rfl b8 (o8 + k * 7) rfl d.cells _ HCm.out Tryz.underlying43 rfl (by kernel_rfl) ?_)
      refine Calls.mono HA.out ?_
      rintro e w1 ⟨rfl, ⟨F2, hm1, hF2⟩, hk1, hf1⟩
      have HM1 := Lib.hid (And.intro hm1 (And.intro hF2 (And.intro hk1 hf1)))
      clear hm1 hF2 hk1 hf1 HA HCm
      go_wp2_with (refine wpList_store_new rfl (.tmp 11) (.tmp 58) rfl _ (ResD.cellsR ⟨rc, rn', rn⟩).toArray _ rfl rfl rfl (by kernel_rfl) (Array.all_eq_true_iff_forall_mem.2 fun u hu => resr_one _ u (by simpa using hu)) ?_)
      intro w2 hb2 hf2 hs2
      have r0 := hb2.cell 0; have r1 := hb2.cell 1; have r2 := hb2.cell 2; have lr := hb2.lt
      simp [ResD.cellsR] at r0 r1 r2
      have HO := Lib.hid (HW1.out.row HM1.out.2.2.1 hf2)
      have HF2 := Lib.hid hf2
      have HB2 : Hid (w8.heap.size ≤ w2.heap.size) := Lib.hid (HM1.out.2.2.2.trans hf2).size
      clear hb2 hf2 hs2
      go_wp2_with (at_builtin; refine wpList_appK etRes rfl (.tmp 59) (.tmp 61) rfl (ResD.cellsR ⟨rc, rn', rn⟩).toArray _ rfl (resr_one _) w8.heap.size _ k _ rfl rfl HO.out (by omega) HB2.out ?_)
      intro v3 w3' ho3 hk3 hn3
      have HN := Lib.hid (HW1.out.step hlt HD.out.1 HD.out.2 HM1.out.1 HM1.out.2.1 HM1.out.2.2.1 HM1.out.2.2.2 HF2.out ho3 hk3 hn3)
      clear ho3 hk3 hn3 HO HF2 HB2 HM1 HD HW1 r0 r1 r2 lr
      go_wp2_with fail
      exact ⟨⟨k + 1, by omega, congrArg _ (by omega), Lib.hid ⟨F2, HN.out⟩⟩, by simp [intOf]; omega⟩
      -- ]]
    · obtain rfl : k = cs.length := by omega
      obtain ⟨F1, hW⟩ := HW.out
      obtain ⟨A9, c9, rfl, hr9, -⟩ := own_rd hW.own
      rw [List.take_length] at hr9
      obtain ⟨rs, hrs⟩ : ∃ rs, rs = runRs newD cs := ⟨_, rfl⟩
      have hrl : rs.length = cs.length := by rw [hrs]; exact runRs_len _ _
      rw [← hrs] at hr9 HSer
      have HR9 : Hid (Rd wr (fun _ => True) 3 A9 cs.length (rscells rs)) := Lib.hid (hr9.weaken fun _ _ => trivial)
      have HH9 := Lib.hid (HH8.out.keep hW.fr)
      have H9 := Lib.hid (And.intro (H8.out.1.trans hW.fr) (H8.out.2.trans hW.fr))
      clear hW hr9 hrs HW HH8 H8 hlt
      go_wp2_with fail
      go_loopw [12] (fun iv wz => ∃ i : Nat, i ≤ n ∧ iv = .int .i64 (i : Int) ∧ Hid (Fresh wr wz)) (fun i _ => n - (intOf i).toNat)
      case atStart => exact ⟨0, Nat.zero_le _, rfl, Lib.hid (Keep.refl _ _)⟩
      case round =>
        rename World => wz
        rename_i iv
        obtain ⟨i, hin, rfl, HZ⟩ := hrel
        have x0 := (HKS.out wz (H9.out.2.trans HZ.out)).1
        have lx : bx < wz.heap.size := Nat.lt_of_lt_of_le HX.out.lt (H9.out.2.trans HZ.out).size
        by_cases hlt : i < n
        rotate_left
        · obtain rfl : i = n := by omega
          go_wp2_with fail
          go_ret
          exact ⟨rfl, H9.out.1.trans HZ.out⟩
        obtain ⟨b, o, rfl, -, hl, hr⟩ := H.out.1.at1 hlt
        replace hr := rangeAt_keep hr (H9.out.1.trans HZ.out) trivial
        obtain ⟨x, hx⟩ : ∃ x, x = hs[i] := ⟨_, rfl⟩
        rw [← hx] at hr
        have lb := range_lt (v := .int .i64 x.d.at_) hr
        have ck := (mk_cells_at hr).1
        have HRx := Lib.hid hr
        have hdl : i < (dsOf hs).length := by unfold dsOf; rw [List.length_map, HML.out]; exact hlt
        have hdx : (dsOf hs)[i] = x.d := by rw [hx]; simp [dsOf]
        have HDx : Hid (∃ h : i < (dsOf hs).length, (dsOf hs)[i] = x.d) := Lib.hid ⟨hdl, hdx⟩
        have HSx : Hid (x.d.kind = 13 → fndS cs rs x.d.cmd x.d.res cs.length = true ∧ ∀ z : Int, z ≠ x.d.rc → serviceD vs ((dsOf hs).set i { x.d with rc := z }) = ((28, (i : Int)), 0)) := Lib.hid fun hkd => by
          have := HSer.out i hdl (by rw [hdx]; exact hkd)
          rw [hdx] at this
          exact this
        clear hr hx hl hdl hdx
        by_cases h13 : x.d.kind = 13
        rotate_left
        · have hkb : (x.d.kind != 13) = true := by simpa using h13
          go_wp2_with fail
          exact ⟨⟨i + 1, by omega, congrArg _ (by omega), HZ⟩, by simp [intOf]; omega⟩
        obtain ⟨hfnd, hoth⟩ := HSx.out h13
        have HO := Lib.hid (And.intro hfnd hoth)
        rw [h13] at ck
        clear hfnd hoth HSx h13
        go_wp2_with fail
        go_loopw [13, 14] (fun fv jv wy => ∃ j : Nat, j ≤ cs.length ∧ fv = .bool (fndS cs rs x.d.cmd x.d.res j) ∧ jv = .int .i64 (j : Int) ∧ Hid (Fresh wz wy)) (fun _ j _ => cs.length - (intOf j).toNat)
        case atStart => exact ⟨0, Nat.zero_le _, rfl, rfl, Lib.hid (Keep.refl _ _)⟩
        case round =>
          rename World => wy
          rename_i fv jv
          obtain ⟨j, hj, rfl, rfl, HY⟩ := hrel
          clear x0 lx lb ck
          by_cases hjl : j < cs.length
          · -- [[
            have hfz := (H9.out.1.trans HZ.out).trans HY.out
            have hfy := HZ.out.trans HY.out
            obtain ⟨b8, o8, rfl, -, hr8⟩ := Rd.range cmd_seven (HH9.out.keep hfy) hjl hjl
            have hjr : j < rs.length := by omega
            obtain ⟨b9, o9, rfl, -, hr9⟩ := Rd.range resr_three (HR9.out.keep hfy) hjr hjl
            have hs1 := fndS_succ cs rs x.d.cmd x.d.res j hjl hjr
            obtain ⟨d, hd⟩ : ∃ d, d = cs[j] := ⟨_, rfl⟩
            obtain ⟨r, hr⟩ : ∃ r, r = rs[j] := ⟨_, rfl⟩
            rw [← hd] at hr8 hs1
            rw [← hr] at hr9 hs1
            have hrx := rangeAt_keep HRx.out HY.out trivial
            obtain ⟨-, ⟨m1, m2, m3⟩, m4, m5, m6, m7, m8, m9, m10⟩ := mk_cells_at hrx
            obtain ⟨c1, c2, c3, c4, c5, c6, c7'⟩ := cmd_cells_at hr8
            obtain ⟨r1, r2, r3⟩ := res_cells_at hr9
            have l8 := range_lt (v := .int .i64 d.c) hr8
            have l9 := range_lt (v := .int .i64 r.code) hr9
            have lb := range_lt (v := .int .i64 x.d.at_) hrx
            have x0 := (HKS.out wy (H9.out.2.trans hfy)).1
            have lx : bx < wy.heap.size := Nat.lt_of_lt_of_le HX.out.lt (H9.out.2.trans hfy).size
            have Q1 := fun w => eqcmdS d x.d.cmd w
            have Q2 := fun w => eqresS r x.d.res w
            simp only [MarkD.res] at Q2
            obtain ⟨p1, hp1⟩ : ∃ b, b = decide (d = x.d.cmd) := ⟨_, rfl⟩
            obtain ⟨p2, hp2⟩ : ∃ b, b = decide (r = x.d.res) := ⟨_, rfl⟩
            simp only [MarkD.res] at hp2
            rw [← hp1] at Q1
            rw [← hp2] at Q2
            obtain ⟨f1, hf1⟩ : ∃ b, b = fndS cs rs x.d.cmd x.d.res j := ⟨_, rfl⟩
            have hs2 : fndS cs rs x.d.cmd x.d.res (j + 1) = (f1 || (p1 && p2)) := by rw [hs1, hf1, hp1, hp2]; rfl
            rw [← hf1]
            have HS2 := Lib.hid hs2
            clear hs1 hs2 hf1 hp1 hp2 hd hr hr8 hr9 hrx hjr hfz hfy
            have hji : (j : Int) < (cs.length : Int) := by omega
            have hii : (i : Int) < (n : Int) := by omega
            have hj0 : (0 : Int) ≤ (j : Int) := by omega
            have hi0 : (0 : Int) ≤ (i : Int) := by omega
            go_wp2_with fail
            cases f1
            · cases p1
              · go_quiet (fail)
                go_wp2_with fail
                exact ⟨⟨j + 1, by omega, by rw [HS2.out]; rfl, congrArg _ (by omega), Lib.hid (HY.out.drewN _)⟩, by simp [intOf]; omega⟩
              · go_quiet (fail)
                go_wp2_with fail
                exact ⟨⟨j + 1, by omega, by rw [HS2.out]; rfl, congrArg _ (by omega), Lib.hid (HY.out.drewN _)⟩, by simp [intOf]; omega⟩
            · go_quiet (fail)
              go_wp2_with fail
              exact ⟨⟨j + 1, by omega, by rw [HS2.out]; rfl, congrArg _ (by omega), Lib.hid (HY.out.drewN _)⟩, by simp [intOf]; omega⟩
            -- ]]
          · obtain rfl : j = cs.length := by omega
            have hft := HO.out.1
            rw [hft]
            have hfz := (H9.out.1.trans HZ.out).trans HY.out
            have hfx := (H9.out.2.trans HZ.out).trans HY.out
            have HC := Lib.hid (HCA.out wy hfz)
            have x0 := (HKS.out wy hfx).1
            have lx : bx < wy.heap.size := Nat.lt_of_lt_of_le HX.out.lt hfx.size
            have HFy := Lib.hid (And.intro hfz hfx)
            clear hft hfz hfx hjl
            go_wp2_with fail
            refine Calls.mono HC.out ?_
            rintro e w10 ⟨⟨v10, ks, rfl, hc10⟩, hf10⟩
            have hC10 := CopsS.of hc10 HML.out H.out.1.le H.out.1.fit H.out.2.2.1 H.out.2.2.2.2
            obtain ⟨g, cg, rfl, hg1, hg2⟩ := own_form hC10.own (by omega)
            have q22 : w10.cell? ⟨g, i * 26 + 22, none⟩ = some (.int .i64 x.d.rc) := by
              have hki : i < ks.length := by rw [hC10.len]; exact hlt
              refine own_cell hC10.own rfl ?_
              rw [rcells_get mk_len ks i hki 22 (by omega)]
              have e : ks[i].d = x.d := by
                obtain ⟨h1, h2⟩ := HDx.out
                rw [← h2]
                have hsm := hC10.same
                simp only [← hsm]
                simp [dsOf]
              rw [← e]
              rfl
            have q22f : w10.frozen? ⟨g, i * 26 + 22, none⟩ = false := own_frozen hC10.own _ rfl
            obtain ⟨z, hz⟩ : ∃ z, z = IntKind.i64.wrap (x.d.rc + 1) := ⟨_, rfl⟩
            have hzz : IntKind.i64.wrap (x.d.rc + 1) = z := hz.symm
            have HZc := Lib.hid (HO.out.2 z (by rw [hz]; exact wrap_next_ne _))
            have hCo := hC10.code (fun x hx => hc10.rows x hx) hlt HDx.out.1 z
            obtain ⟨hdl, hdx⟩ := HDx.out
            rw [hdx] at hCo
            have HCo := Lib.hid hCo
            have HF10 := Lib.hid (And.intro (HFy.out.1.trans hf10) (HFy.out.2.trans hf10))
            have HG := Lib.hid (And.intro hg1 hf10)
            have hii : (i : Int) < (n : Int) := by omega
            have hi0 : (0 : Int) ≤ (i : Int) := by omega
            clear hc10 hC10 hf10 hz HC x0 lx hCo hdl hdx
            go_upto_region 28 with (fail)
            generalize hw11 : World.setCell w10 _ _ = w11
            have hk11 : Keep (fun j => j ≠ g) w10 w11 := hw11 ▸ (Keep.refl (fun j => j ≠ g) w10).setCell (fun _ h => h rfl) _
            have hgW := H9.out.1.size; have hgB := H9.out.2.size; have hgz := HZ.out.size; have hgy := HY.out.size
            have HF11 := Lib.hid (And.intro (HF10.out.1.comp hk11 (fun _ _ h => h) (fun j hj _ e => by subst e; have := HG.out.1; omega)) (And.intro (HF10.out.2.comp hk11 (fun _ _ h => h) (fun j hj _ e => by subst e; have := HG.out.1; omega)) ((HG.out.2.comp hk11 (fun _ _ h => h) (fun j hj _ e => by subst e; have := HG.out.1; omega) : Fresh wy w11))))
            obtain ⟨ks', hC11⟩ := HCo.out
            rw [hw11] at hC11
            have HC11 := Lib.hid hC11
            have x1 := (HKS.out w11 HF11.out.2.1).2
            have lx : bx < w11.heap.size := Nat.lt_of_lt_of_le HX.out.lt HF11.out.2.1.size
            clear hw11 hk11 hgW hgB hgz hgy hC11 HCo HF10 HG q22 q22f hzz
            go_wp2_with (at_builtin; refine wpList_app etInt rfl _ _ rfl w11.heap.size _ 0 [] rfl (World.ownsRow_nil _ _ _ _) (fun _ => True) A2 n2 c2 _ rfl (HVo.out _ HF11.out.1) HNl.out (ics_one _) (by omega) (Nat.le_refl _) ?_)
            intro v12 w12 ho12 hk12 hn12
            have hf12 : Fresh w11 w12 := hk12.weaken fun _ _ _ => by simp [Value.ownBlock]
            try simp only [Nat.zero_add, List.nil_append] at ho12
            have hV := (HC11.out.fresh hf12).service (HT.out.fresh (HF11.out.1.trans hf12)) ho12 hlv hn2
            rw [HZc.out] at hV
            have HV := Lib.hid hV
            have HF12 := Lib.hid (And.intro (HF11.out.1.trans hf12) (And.intro (HF11.out.2.1.trans hf12) (HF11.out.2.2.trans hf12)))
            clear ho12 hk12 hn12 hf12 hV HF11 HC11 x1 lx
            go_wp2_with fail
            refine Calls.mono HV.out ?_
            rintro e w13 ⟨rfl, hf13⟩
            have HF13 := Lib.hid (HF12.out.2.2.trans hf13)
            clear hf13 HV HF12
            go_upto_region 29 with (fail)
            generalize hw14 : World.alloc w13 _ = w14
            have hf14 : Fresh w13 w14 := hw14 ▸ (Keep.refl _ w13).alloc _
            have hb14 : Blk w14 w13.heap.size 29 #[.int .i64 28, .int .i64 (i : Int)] := hw14 ▸ Blk.new w13 _ _
            have u0 := hb14.cell 0; have u1 := hb14.cell 1; have lu := hb14.lt
            simp at u0 u1
            have HF14 := Lib.hid (HZ.out.trans (HY.out.trans (HF13.out.trans hf14)))
            have Q1 : ∀ w, Sem.run Tryz.prog (binOp BinOp.neq 29 (.agg #[.int .i64 28, .int .i64 (i : Int)]) (.agg #[.int .i64 28, .int .i64 (i : Int)])) w = .ok (.bool false) w := fun w => by
              have := neverS (28, (i : Int)) (28, (i : Int)) w
              rw [decide_eq_false (by simp)] at this
              exact this
            clear hw14 hf14 hb14 HF13
            go_wp2_with fail
            exact ⟨⟨i + 1, by omega, congrArg _ (by omega), HF14⟩, by simp [intOf]; omega⟩
end Go.Proofs.YtohnmaindbgngaaGreatDoor
