/-
  MERGED: SrvFirst
-/
import Derived.Test.YtohnmaindbgngaaGreatDoorQX
import Derived.Deep.RegionHeld3
import Derived.Deep.DeepCutAuto
import Derived.Deep.CutBlock
namespace Go.Proofs.YtohnmaindbgngaaGreatDoor
set_option linter.unusedVariables false
set_option linter.unusedSimpArgs false
open Go.RowKit Go.Shelf Go.BigFrame

theorem ver_all (a b : Int) : (#[.int .i64 a, .int .i64 b] : Array Value).all (·.oneCell') = true := by simp [Value.oneCell']
theorem mks_nil (w : World) : Mks w (fun _ => True) none 0 [] := ⟨rfl, Rd.nil _ _ _ _, Nat.zero_le _, (fun h hh => by cases hh), (fun h hh => by cases hh)⟩
set_option maxRecDepth 20000 in
set_option maxHeartbeats 4000000 in
theorem servicefirst_any (A A2 : Option Addr) (n c n2 c2 : Nat) (K : Int) (hs : List MkV) (vs : List Int) (W : World) (hT : Tabs W) (hm : Mks W (fun _ => True) A n hs) (hok : ∀ x ∈ hs, MkOk W (fun _ => True) x) (hi : ∀ x ∈ hs, MkInt x.d) (hcm : ∀ x ∈ hs, InC x.d.cmd) (hnc : n ≤ c) (hn : n ≤ 1048575)
    (hv : Rd W (fun _ => True) 1 A2 n2 (ics vs)) (hlv : vs.length = n2) (hn2 : n2 ≤ 1048576) (hnl : n2 = 0 → c2 = 0 ∨ A2 ≠ none) :
    Calls Tryz.prog 4 #[.agg #[.slice A n c, .slice A2 n2 c2, .int .i64 K]] W fun e w' => e = .returned (.bool true) ∧ Fresh W w' := by
  have H := Lib.hid (And.intro hm (And.intro hok (And.intro hi (And.intro hnc hcm))))
  have HT := Lib.hid hT
  have HVo : Hid (∀ w', Fresh W w' → Rd w' (fun _ => True) 1 A2 n2 (ics vs)) := Lib.hid fun w' hf => hv.keep hf
  have HNl := Lib.hid hnl
  have HCA := Lib.hid (fun w' (hf : Fresh W w') => copied_rows _ A n c hs w' (hm.keep hf) (fun x hx => (hok x hx).keep hf))
  have hml := hm.len
  have HML := Lib.hid hml
  clear hm hok hi hT hv hcm hml hnl
  go_enter Tryz.func4, Tryz.ntmps4
  go_upto_region 1 with (fail)
  obtain ⟨bx, hbx⟩ : ∃ b, b = W.heap.size := ⟨_, rfl⟩
  rw [← hbx]
  generalize hw1 : World.alloc W _ = wb
  have hf1 : Fresh W wb := hw1 ▸ (Keep.refl _ W).alloc _
  have hb1 : Blk wb bx 25 #[.slice A n c, .slice A2 n2 c2, .int .i64 K] := by rw [← hw1, hbx]; exact Blk.new W _ _
  have H1 := Lib.hid hf1
  have HX := Lib.hid hb1
  have HKS : Hid (∀ w', Fresh wb w' → (w'.cell? ⟨bx, 0, none⟩ = some (.slice A n c) ∧ w'.cell? ⟨bx, 1, none⟩ = some (.slice A2 n2 c2))) := Lib.hid fun w' hf => ⟨(HX.out.keep hf trivial).cell 0, (HX.out.keep hf trivial).cell 1⟩
  have x2 := hb1.cell 2; have lx := hb1.lt
  simp at x2
  clear hbx hw1 hf1 hb1
  obtain ⟨R, hR⟩ : ∃ R, R = serviceD vs (dsOf hs) := ⟨_, rfl⟩
  obtain ⟨⟨va, vb⟩, ve⟩ := R
  have HR := Lib.hid hR
  clear hR
  go_upto_region 2 with (fail)
  clear x2 lx
  go_cut [4, 5] (fun s4 s5 wz => ∃ b4 : Nat, s4 = .pointer (some ⟨b4, 0, none⟩) ∧ s5 = .int .i64 ve ∧ Hid (Fresh wb wz ∧ Blk wz b4 29 #[.int .i64 va, .int .i64 vb] ∧ wb.heap.size ≤ b4))
  case first =>
    have HSv : Hid (∀ (w' : World) (B1 B2 : Nat) (v v2 : Value) {ks : List MkV}, Fresh W w' → CopsS w' B1 v n (dsOf hs) ks → w'.ownsRow B2 3 1 v2 n2 (ics vs) → Calls Tryz.prog 7 #[v, v2] w' fun e w'' => e = .returned (.tuple #[.agg #[.int .i64 va, .int .i64 vb], .int .i64 ve]) ∧ Fresh w' w'') := Lib.hid (fun w' B1 B2 v v2 ks hf hc ho => by
      have := hc.service (HT.out.fresh hf) ho hlv hn2
      rw [← HR.out] at this
      exact this)
    refine wp_region_held_drew (S := fun w' => w'.cell? ⟨bx, 0, none⟩ = some (.slice A n c) ∧ w'.cell? ⟨bx, 1, none⟩ = some (.slice A2 n2 c2)) (by kernel_rfl) (HKS.out _ (Keep.refl _ wb).drew) (fun hHeld => ?_)
    refine wpAnyH_take (i := 0) (v := .pointer (some ⟨bx, 0, none⟩)) rfl (by kernel_rfl) (by kernel_rfl) (by kernel_rfl) (fun _ _ _ h => h) (Or.inl ⟨by kernel_rfl, by intro w hSw; simp [go_sem, hSw]⟩) hHeld ?_
    simp only [Act.put, List.getElem_toArray, List.getElem_cons_zero, List.getElem_cons_succ, List.setIfInBounds_toArray, List.set_cons_zero, List.set_cons_succ]
    refine wpAnyH_take (i := 1) (v := .slice A n c) rfl (by kernel_rfl) (by kernel_rfl) (by kernel_rfl) (fun _ _ _ h => h) (Or.inl ⟨by kernel_rfl, by intro w hSw; simp [go_sem, hSw]⟩) hHeld ?_
    simp only [Act.put, List.getElem_toArray, List.getElem_cons_zero, List.getElem_cons_succ, List.setIfInBounds_toArray, List.set_cons_zero, List.set_cons_succ]
    refine wpAnyH_take (i := 3) (v := .pointer (some ⟨bx, 1, none⟩)) rfl (by kernel_rfl) (by kernel_rfl) (by kernel_rfl) (fun _ _ _ h => h) (Or.inl ⟨by kernel_rfl, by intro w hSw; simp [go_sem, hSw]⟩) hHeld ?_
    simp only [Act.put, List.getElem_toArray, List.getElem_cons_zero, List.getElem_cons_succ, List.setIfInBounds_toArray, List.set_cons_zero, List.set_cons_succ]
    refine wpAnyH_take (i := 4) (v := .slice A2 n2 c2) rfl (by kernel_rfl) (by kernel_rfl) (by kernel_rfl) (fun _ _ _ h => h) (Or.inl ⟨by kernel_rfl, by intro w hSw; simp [go_sem, hSw]⟩) hHeld ?_
    simp only [Act.put, List.getElem_toArray, List.getElem_cons_zero, List.getElem_cons_succ, List.setIfInBounds_toArray, List.set_cons_zero, List.set_cons_succ]
    refine wpAnyH_ready (rs := [2, 10]) (by kernel_rfl) (by simp) ?_
    clear hHeld
    refine AllReadyH.cons rfl (fun K hK => ?_) (AllReadyH.cons rfl (fun K hK => ?_) AllReadyH.nil)
    · go_simp
      (with_reducible refine Calls.mono (HCA.out wb.drew (H1.out.trans ((Keep.refl (fun _ => True) wb).drew))) ?_)
      rintro e wc1 ⟨⟨v, ks, rfl, hc⟩, hf⟩
      have HF1 := Lib.hid ((((Keep.refl (fun _ => True) wb).drew)).trans hf)
      have HC1 := Lib.hid (CopsS.of hc HML.out H.out.1.le H.out.1.fit H.out.2.2.1 H.out.2.2.2.2)
      clear hf hc
      go_wp2_with fail
      refine hK.out _ _ (HKS.out _ HF1.out) (fun hHeld => ?_)
      clear hK K
      try simp only [Act.put, List.getElem_toArray, List.getElem_cons_zero, List.getElem_cons_succ, List.setIfInBounds_toArray, List.set_cons_zero, List.set_cons_succ]
      refine wpAnyH_ready (rs := [5, 10]) (by kernel_rfl) (by simp) ?_
      clear hHeld
      refine AllReadyH.cons rfl (fun K hK => ?_) (AllReadyH.cons rfl (fun K hK => ?_) AllReadyH.nil)
      · refine step_app etInt rfl _ _ rfl wc1.heap.size (.slice none 0 0) 0 [] rfl (World.ownsRow_nil _ _ _ _) (fun _ => True) A2 n2 c2 (ics vs) rfl (HVo.out _ (H1.out.trans HF1.out)) HNl.out (ics_one _) (by omega) (Nat.le_refl _) ?_
        intro v2 wc2 ho hk hn
        have hf : Fresh wc1 wc2 := hk.weaken fun _ _ _ => by simp [Value.ownBlock]
        try simp only [Nat.zero_add, List.nil_append] at ho
        have HF2 := Lib.hid ((HF1.out).trans hf)
        have HC2 := Lib.hid (HC1.out.fresh hf)
        have HV2 := Lib.hid ho
        clear hf ho hk hn
        refine hK.out _ _ (HKS.out _ HF2.out) (fun hHeld => ?_)
        clear hK K
        try simp only [Act.put, List.getElem_toArray, List.getElem_cons_zero, List.getElem_cons_succ, List.setIfInBounds_toArray, List.set_cons_zero, List.set_cons_succ]
        refine wpAnyH_ready (rs := [6, 10]) (by kernel_rfl) (by simp) ?_
        clear hHeld
        refine AllReadyH.cons rfl (fun K hK => ?_) (AllReadyH.cons rfl (fun K hK => ?_) AllReadyH.nil)
        · go_simp
          (with_reducible refine Calls.mono (HSv.out _ _ _ _ _ (H1.out.trans HF2.out) HC2.out HV2.out) ?_)
          rintro e wc3 ⟨rfl, hf⟩
          have HF3 := Lib.hid ((HF2.out).trans hf)
          clear hf
          go_wp2_with fail
          refine hK.out _ _ (HKS.out _ HF3.out) (fun hHeld => ?_)
          clear hK K
          try simp only [Act.put, List.getElem_toArray, List.getElem_cons_zero, List.getElem_cons_succ, List.setIfInBounds_toArray, List.set_cons_zero, List.set_cons_succ]
          refine wpAnyH_take (i := 7) (v := .tuple #[.agg #[.int .i64 va, .int .i64 vb], .int .i64 ve]) rfl (by kernel_rfl) (by kernel_rfl) (by kernel_rfl) (fun _ _ _ h => h) (Or.inl ⟨by kernel_rfl, by intro w hSw; simp [go_sem, hSw]⟩) hHeld ?_
          simp only [Act.put, List.getElem_toArray, List.getElem_cons_zero, List.getElem_cons_succ, List.setIfInBounds_toArray, List.set_cons_zero, List.set_cons_succ]
          refine wpAnyH_take (i := 8) (v := .agg #[.int .i64 va, .int .i64 vb]) rfl (by kernel_rfl) (by kernel_rfl) (by kernel_rfl) (fun _ _ _ h => h) (Or.inl ⟨by kernel_rfl, by intro w hSw; simp [go_sem, hSw]⟩) hHeld ?_
          simp only [Act.put, List.getElem_toArray, List.getElem_cons_zero, List.getElem_cons_succ, List.setIfInBounds_toArray, List.set_cons_zero, List.set_cons_succ]
          refine wpAnyH_take (i := 9) (v := .int .i64 ve) rfl (by kernel_rfl) (by kernel_rfl) (by kernel_rfl) (fun _ _ _ h => h) (Or.inl ⟨by kernel_rfl, by intro w hSw; simp [go_sem, hSw]⟩) hHeld ?_
          simp only [Act.put, List.getElem_toArray, List.getElem_cons_zero, List.getElem_cons_succ, List.setIfInBounds_toArray, List.set_cons_zero, List.set_cons_succ]
          refine wpAnyH_ready (rs := [10]) (by kernel_rfl) (by simp) ?_
          clear hHeld
          refine AllReadyH.cons rfl (fun K hK => ?_) AllReadyH.nil
          go_simp
          have HA := Lib.hid (And.intro (show wb.heap.size ≤ wc3.heap.size from (HF3.out).size) (Blk.new wc3 29 #[.int .i64 0, .int .i64 0]))
          refine hK.out _ _ (HKS.out _ ((HF3.out).alloc _)) (fun hHeld => ?_)
          clear hK K
          try simp only [Act.put, List.getElem_toArray, List.getElem_cons_zero, List.getElem_cons_succ, List.setIfInBounds_toArray, List.set_cons_zero, List.set_cons_succ]
          refine wpAnyH_ready (rs := [11]) (by kernel_rfl) (by simp) ?_
          clear hHeld
          refine AllReadyH.cons rfl (fun K hK => ?_) AllReadyH.nil
          rw [if_pos (by rfl)]
          refine wp_store_mid _ _ _ rfl wc3.heap.size 0 #[.int .i64 va, .int .i64 vb] rfl rfl (HA.out.2.there) (by kernel_rfl) (ver_all _ _) ?_
          have hfs : Fresh wb (World.setCells (wc3.alloc (.cells #[.int .i64 0, .int .i64 0] 29)) wc3.heap.size 0 [.int .i64 va, .int .i64 vb]) := Keep.setCells _ _ _ ((HF3.out).alloc _) (fun h _ => absurd h (Nat.not_lt.2 HA.out.1))
          refine hK.out _ _ (HKS.out _ hfs) (fun hHeld => ?_)
          clear hK K
          try simp only [Act.put, List.getElem_toArray, List.getElem_cons_zero, List.getElem_cons_succ, List.setIfInBounds_toArray, List.set_cons_zero, List.set_cons_succ]
          refine wpAnyH_take (i := 12) (v := .int .i64 ve) rfl (by kernel_rfl) (by kernel_rfl) (by kernel_rfl) (fun _ _ _ h => h) (Or.inl ⟨by kernel_rfl, by intro w hSw; simp [go_sem, hSw]⟩) hHeld ?_
          simp only [Act.put, List.getElem_toArray, List.getElem_cons_zero, List.getElem_cons_succ, List.setIfInBounds_toArray, List.set_cons_zero, List.set_cons_succ]
          refine wpAnyH_done (by kernel_rfl) ?_ _
          clear hHeld
          go_wp2_with fail
          go_meet
          exact ⟨_, rfl, rfl, Lib.hid ⟨hfs, (HA.out.2.set 0 (.int .i64 va)).set 1 (.int .i64 vb), HA.out.1⟩⟩
        · go_simp
          have hfa3 : Fresh wb (wc2.alloc (.cells #[.int .i64 0, .int .i64 0] 29)) := (HF2.out).alloc _
          have hbl3 := Blk.new wc2 29 #[.int .i64 0, .int .i64 0]
          have hlo3 : wb.heap.size ≤ wc2.heap.size := (HF2.out).size
          refine hK.out _ _ (HKS.out _ ((HF2.out).alloc _)) (fun hHeld => ?_)
          clear hK K
          obtain ⟨ba, hba⟩ : ∃ b, b = wc2.heap.size := ⟨_, rfl⟩
          obtain ⟨wa3, hwa⟩ : ∃ w', w' = wc2.alloc (.cells #[.int .i64 0, .int .i64 0] 29) := ⟨_, rfl⟩
          have hfw : Fresh wb wa3 := by rw [hwa]; exact (HF2.out).alloc _
          have hbw : Blk wa3 ba 29 #[.int .i64 0, .int .i64 0] := by rw [hwa, hba]; exact Blk.new _ _ _
          have hlw : wb.heap.size ≤ ba := by have := (HF2.out).size; omega
          have HC3 := Lib.hid (HC2.out.fresh (show Fresh wc2 wa3 by rw [hwa]; exact (Keep.refl _ wc2).alloc _))
          have HV3 := Lib.hid (own_keep HV2.out (show Fresh wc2 wa3 by rw [hwa]; exact (Keep.refl _ wc2).alloc _) (fun _ _ => trivial))
          rw [← hwa, ← hba]
          have HF3 := Lib.hid hfw
          have HA3 := Lib.hid (And.intro hlw hbw)
          clear hwa hba hfw hbw hlw hfa3 hbl3 hlo3
          try simp only [Act.put, List.getElem_toArray, List.getElem_cons_zero, List.getElem_cons_succ, List.setIfInBounds_toArray, List.set_cons_zero, List.set_cons_succ]
          refine wpAnyH_ready (rs := [6]) (by kernel_rfl) (by simp) ?_
          clear hHeld
          refine AllReadyH.cons rfl (fun K hK => ?_) AllReadyH.nil
          go_simp
          (with_reducible refine Calls.mono (HSv.out _ _ _ _ _ (H1.out.trans HF3.out) HC3.out HV3.out) ?_)
          rintro e wc4 ⟨rfl, hf⟩
          have HF4 := Lib.hid ((HF3.out).trans hf)
          have HA4 := Lib.hid (And.intro HA3.out.1 (HA3.out.2.keep hf trivial))
          clear hf
          go_wp2_with fail
          refine hK.out _ _ (HKS.out _ HF4.out) (fun hHeld => ?_)
          clear hK K
          try simp only [Act.put, List.getElem_toArray, List.getElem_cons_zero, List.getElem_cons_succ, List.setIfInBounds_toArray, List.set_cons_zero, List.set_cons_succ]
          refine wpAnyH_take (i := 7) (v := .tuple #[.agg #[.int .i64 va, .int .i64 vb], .int .i64 ve]) rfl (by kernel_rfl) (by kernel_rfl) (by kernel_rfl) (fun _ _ _ h => h) (Or.inl ⟨by kernel_rfl, by intro w hSw; simp [go_sem, hSw]⟩) hHeld ?_
          simp only [Act.put, List.getElem_toArray, List.getElem_cons_zero, List.getElem_cons_succ, List.setIfInBounds_toArray, List.set_cons_zero, List.set_cons_succ]
          refine wpAnyH_take (i := 8) (v := .agg #[.int .i64 va, .int .i64 vb]) rfl (by kernel_rfl) (by kernel_rfl) (by kernel_rfl) (fun _ _ _ h => h) (Or.inl ⟨by kernel_rfl, by intro w hSw; simp [go_sem, hSw]⟩) hHeld ?_
          simp only [Act.put, List.getElem_toArray, List.getElem_cons_zero, List.getElem_cons_succ, List.setIfInBounds_toArray, List.set_cons_zero, List.set_cons_succ]
          refine wpAnyH_take (i := 9) (v := .int .i64 ve) rfl (by kernel_rfl) (by kernel_rfl) (by kernel_rfl) (fun _ _ _ h => h) (Or.inl ⟨by kernel_rfl, by intro w hSw; simp [go_sem, hSw]⟩) hHeld ?_
          simp only [Act.put, List.getElem_toArray, List.getElem_cons_zero, List.getElem_cons_succ, List.setIfInBounds_toArray, List.set_cons_zero, List.set_cons_succ]
          refine wpAnyH_ready (rs := [11]) (by kernel_rfl) (by simp) ?_
          clear hHeld
          refine AllReadyH.cons rfl (fun K hK => ?_) AllReadyH.nil
          rw [if_pos (by rfl)]
          refine wp_store_mid _ _ _ rfl ba 0 #[.int .i64 va, .int .i64 vb] rfl rfl (HA4.out.2.there) (by kernel_rfl) (ver_all _ _) ?_
          have hfs : Fresh wb (World.setCells wc4 ba 0 [.int .i64 va, .int .i64 vb]) := Keep.setCells _ _ _ HF4.out (fun h _ => absurd h (Nat.not_lt.2 HA4.out.1))
          refine hK.out _ _ (HKS.out _ hfs) (fun hHeld => ?_)
          clear hK K
          try simp only [Act.put, List.getElem_toArray, List.getElem_cons_zero, List.getElem_cons_succ, List.setIfInBounds_toArray, List.set_cons_zero, List.set_cons_succ]
          refine wpAnyH_take (i := 12) (v := .int .i64 ve) rfl (by kernel_rfl) (by kernel_rfl) (by kernel_rfl) (fun _ _ _ h => h) (Or.inl ⟨by kernel_rfl, by intro w hSw; simp [go_sem, hSw]⟩) hHeld ?_
          simp only [Act.put, List.getElem_toArray, List.getElem_cons_zero, List.getElem_cons_succ, List.setIfInBounds_toArray, List.set_cons_zero, List.set_cons_succ]
          refine wpAnyH_done (by kernel_rfl) ?_ _
          clear hHeld
          go_wp2_with fail
          go_meet
          exact ⟨_, rfl, rfl, Lib.hid ⟨hfs, (HA4.out.2.set 0 (.int .i64 va)).set 1 (.int .i64 vb), HA4.out.1⟩⟩
      · go_simp
        have hfa2 : Fresh wb (wc1.alloc (.cells #[.int .i64 0, .int .i64 0] 29)) := (HF1.out).alloc _
        have hbl2 := Blk.new wc1 29 #[.int .i64 0, .int .i64 0]
        have hlo2 : wb.heap.size ≤ wc1.heap.size := (HF1.out).size
        refine hK.out _ _ (HKS.out _ ((HF1.out).alloc _)) (fun hHeld => ?_)
        clear hK K
        obtain ⟨ba, hba⟩ : ∃ b, b = wc1.heap.size := ⟨_, rfl⟩
        obtain ⟨wa2, hwa⟩ : ∃ w', w' = wc1.alloc (.cells #[.int .i64 0, .int .i64 0] 29) := ⟨_, rfl⟩
        have hfw : Fresh wb wa2 := by rw [hwa]; exact (HF1.out).alloc _
        have hbw : Blk wa2 ba 29 #[.int .i64 0, .int .i64 0] := by rw [hwa, hba]; exact Blk.new _ _ _
        have hlw : wb.heap.size ≤ ba := by have := (HF1.out).size; omega
        have HC2 := Lib.hid (HC1.out.fresh (show Fresh wc1 wa2 by rw [hwa]; exact (Keep.refl _ wc1).alloc _))
        rw [← hwa, ← hba]
        have HF2 := Lib.hid hfw
        have HA2 := Lib.hid (And.intro hlw hbw)
        clear hwa hba hfw hbw hlw hfa2 hbl2 hlo2
        try simp only [Act.put, List.getElem_toArray, List.getElem_cons_zero, List.getElem_cons_succ, List.setIfInBounds_toArray, List.set_cons_zero, List.set_cons_succ]
        refine wpAnyH_ready (rs := [5]) (by kernel_rfl) (by simp) ?_
        clear hHeld
        refine AllReadyH.cons rfl (fun K hK => ?_) AllReadyH.nil
        refine step_app etInt rfl _ _ rfl wa2.heap.size (.slice none 0 0) 0 [] rfl (World.ownsRow_nil _ _ _ _) (fun _ => True) A2 n2 c2 (ics vs) rfl (HVo.out _ (H1.out.trans HF2.out)) HNl.out (ics_one _) (by omega) (Nat.le_refl _) ?_
        intro v2 wc3 ho hk hn
        have hf : Fresh wa2 wc3 := hk.weaken fun _ _ _ => by simp [Value.ownBlock]
        try simp only [Nat.zero_add, List.nil_append] at ho
        have HF3 := Lib.hid ((HF2.out).trans hf)
        have HA3 := Lib.hid (And.intro HA2.out.1 (HA2.out.2.keep hf trivial))
        have HC3 := Lib.hid (HC2.out.fresh hf)
        have HV3 := Lib.hid ho
        clear hf ho hk hn
        refine hK.out _ _ (HKS.out _ HF3.out) (fun hHeld => ?_)
        clear hK K
        try simp only [Act.put, List.getElem_toArray, List.getElem_cons_zero, List.getElem_cons_succ, List.setIfInBounds_toArray, List.set_cons_zero, List.set_cons_succ]
        refine wpAnyH_ready (rs := [6]) (by kernel_rfl) (by simp) ?_
        clear hHeld
        refine AllReadyH.cons rfl (fun K hK => ?_) AllReadyH.nil
        go_simp
        (with_reducible refine Calls.mono (HSv.out _ _ _ _ _ (H1.out.trans HF3.out) HC3.out HV3.out) ?_)
        rintro e wc4 ⟨rfl, hf⟩
        have HF4 := Lib.hid ((HF3.out).trans hf)
        have HA4 := Lib.hid (And.intro HA3.out.1 (HA3.out.2.keep hf trivial))
        clear hf
        go_wp2_with fail
        refine hK.out _ _ (HKS.out _ HF4.out) (fun hHeld => ?_)
        clear hK K
        try simp only [Act.put, List.getElem_toArray, List.getElem_cons_zero, List.getElem_cons_succ, List.setIfInBounds_toArray, List.set_cons_zero, List.set_cons_succ]
        refine wpAnyH_take (i := 7) (v := .tuple #[.agg #[.int .i64 va, .int .i64 vb], .int .i64 ve]) rfl (by kernel_rfl) (by kernel_rfl) (by kernel_rfl) (fun _ _ _ h => h) (Or.inl ⟨by kernel_rfl, by intro w hSw; simp [go_sem, hSw]⟩) hHeld ?_
        simp only [Act.put, List.getElem_toArray, List.getElem_cons_zero, List.getElem_cons_succ, List.setIfInBounds_toArray, List.set_cons_zero, List.set_cons_succ]
        refine wpAnyH_take (i := 8) (v := .agg #[.int .i64 va, .int .i64 vb]) rfl (by kernel_rfl) (by kernel_rfl) (by kernel_rfl) (fun _ _ _ h => h) (Or.inl ⟨by kernel_rfl, by intro w hSw; simp [go_sem, hSw]⟩) hHeld ?_
        simp only [Act.put, List.getElem_toArray, List.getElem_cons_zero, List.getElem_cons_succ, List.setIfInBounds_toArray, List.set_cons_zero, List.set_cons_succ]
        refine wpAnyH_take (i := 9) (v := .int .i64 ve) rfl (by kernel_rfl) (by kernel_rfl) (by kernel_rfl) (fun _ _ _ h => h) (Or.inl ⟨by kernel_rfl, by intro w hSw; simp [go_sem, hSw]⟩) hHeld ?_
        simp only [Act.put, List.getElem_toArray, List.getElem_cons_zero, List.getElem_cons_succ, List.setIfInBounds_toArray, List.set_cons_zero, List.set_cons_succ]
        refine wpAnyH_ready (rs := [11]) (by kernel_rfl) (by simp) ?_
        clear hHeld
        refine AllReadyH.cons rfl (fun K hK => ?_) AllReadyH.nil
        rw [if_pos (by rfl)]
        refine wp_store_mid _ _ _ rfl ba 0 #[.int .i64 va, .int .i64 vb] rfl rfl (HA4.out.2.there) (by kernel_rfl) (ver_all _ _) ?_
        have hfs : Fresh wb (World.setCells wc4 ba 0 [.int .i64 va, .int .i64 vb]) := Keep.setCells _ _ _ HF4.out (fun h _ => absurd h (Nat.not_lt.2 HA4.out.1))
        refine hK.out _ _ (HKS.out _ hfs) (fun hHeld => ?_)
        clear hK K
        try simp only [Act.put, List.getElem_toArray, List.getElem_cons_zero, List.getElem_cons_succ, List.setIfInBounds_toArray, List.set_cons_zero, List.set_cons_succ]
        refine wpAnyH_take (i := 12) (v := .int .i64 ve) rfl (by kernel_rfl) (by kernel_rfl) (by kernel_rfl) (fun _ _ _ h => h) (Or.inl ⟨by kernel_rfl, by intro w hSw; simp [go_sem, hSw]⟩) hHeld ?_
        simp only [Act.put, List.getElem_toArray, List.getElem_cons_zero, List.getElem_cons_succ, List.setIfInBounds_toArray, List.set_cons_zero, List.set_cons_succ]
        refine wpAnyH_done (by kernel_rfl) ?_ _
        clear hHeld
        go_wp2_with fail
        go_meet
        exact ⟨_, rfl, rfl, Lib.hid ⟨hfs, (HA4.out.2.set 0 (.int .i64 va)).set 1 (.int .i64 vb), HA4.out.1⟩⟩
    · go_simp
      have hfa1 : Fresh wb (wb.drew.alloc (.cells #[.int .i64 0, .int .i64 0] 29)) := (((Keep.refl (fun _ => True) wb).drew)).alloc _
      have hbl1 := Blk.new wb.drew 29 #[.int .i64 0, .int .i64 0]
      have hlo1 : wb.heap.size ≤ wb.drew.heap.size := (((Keep.refl (fun _ => True) wb).drew)).size
      refine hK.out _ _ (HKS.out _ ((Keep.refl _ wb).alloc _).drew) (fun hHeld => ?_)
      clear hK K
      obtain ⟨ba, hba⟩ : ∃ b, b = wb.heap.size := ⟨_, rfl⟩
      obtain ⟨wa1, hwa⟩ : ∃ w, w = (wb.alloc (.cells #[.int .i64 0, .int .i64 0] 29)).drew := ⟨_, rfl⟩
      have hfw : Fresh wb wa1 := by rw [hwa]; exact ((Keep.refl _ wb).alloc _).drew
      have hbw : Blk wa1 ba 29 #[.int .i64 0, .int .i64 0] := by rw [hwa, hba]; exact (Blk.new _ _ _).drew
      have hlw : wb.heap.size ≤ ba := by omega
      rw [← hwa, ← hba]
      have HF1 := Lib.hid hfw
      have HA1 := Lib.hid (And.intro hlw hbw)
      clear hwa hba hfw hbw hlw hfa1 hbl1 hlo1
      try simp only [Act.put, List.getElem_toArray, List.getElem_cons_zero, List.getElem_cons_succ, List.setIfInBounds_toArray, List.set_cons_zero, List.set_cons_succ]
      refine wpAnyH_ready (rs := [2]) (by kernel_rfl) (by simp) ?_
      clear hHeld
      refine AllReadyH.cons rfl (fun K hK => ?_) AllReadyH.nil
      go_simp
      (with_reducible refine Calls.mono (HCA.out wa1 (H1.out.trans HF1.out)) ?_)
      rintro e wc2 ⟨⟨v, ks, rfl, hc⟩, hf⟩
      have HF2 := Lib.hid ((HF1.out).trans hf)
      have HA2 := Lib.hid (And.intro HA1.out.1 (HA1.out.2.keep hf trivial))
      have HC2 := Lib.hid (CopsS.of hc HML.out H.out.1.le H.out.1.fit H.out.2.2.1 H.out.2.2.2.2)
      clear hf hc
      go_wp2_with fail
      refine hK.out _ _ (HKS.out _ HF2.out) (fun hHeld => ?_)
      clear hK K
      try simp only [Act.put, List.getElem_toArray, List.getElem_cons_zero, List.getElem_cons_succ, List.setIfInBounds_toArray, List.set_cons_zero, List.set_cons_succ]
      refine wpAnyH_ready (rs := [5]) (by kernel_rfl) (by simp) ?_
      clear hHeld
      refine AllReadyH.cons rfl (fun K hK => ?_) AllReadyH.nil
      refine step_app etInt rfl _ _ rfl wc2.heap.size (.slice none 0 0) 0 [] rfl (World.ownsRow_nil _ _ _ _) (fun _ => True) A2 n2 c2 (ics vs) rfl (HVo.out _ (H1.out.trans HF2.out)) HNl.out (ics_one _) (by omega) (Nat.le_refl _) ?_
      intro v2 wc3 ho hk hn
      have hf : Fresh wc2 wc3 := hk.weaken fun _ _ _ => by simp [Value.ownBlock]
      try simp only [Nat.zero_add, List.nil_append] at ho
      have HF3 := Lib.hid ((HF2.out).trans hf)
      have HA3 := Lib.hid (And.intro HA2.out.1 (HA2.out.2.keep hf trivial))
      have HC3 := Lib.hid (HC2.out.fresh hf)
      have HV3 := Lib.hid ho
      clear hf ho hk hn
      refine hK.out _ _ (HKS.out _ HF3.out) (fun hHeld => ?_)
      clear hK K
      try simp only [Act.put, List.getElem_toArray, List.getElem_cons_zero, List.getElem_cons_succ, List.setIfInBounds_toArray, List.set_cons_zero, List.set_cons_succ]
      refine wpAnyH_ready (rs := [6]) (by kernel_rfl) (by simp) ?_
      clear hHeld
      refine AllReadyH.cons rfl (fun K hK => ?_) AllReadyH.nil
      go_simp
      (with_reducible refine Calls.mono (HSv.out _ _ _ _ _ (H1.out.trans HF3.out) HC3.out HV3.out) ?_)
      rintro e wc4 ⟨rfl, hf⟩
      have HF4 := Lib.hid ((HF3.out).trans hf)
      have HA4 := Lib.hid (And.intro HA3.out.1 (HA3.out.2.keep hf trivial))
      clear hf
      go_wp2_with fail
      refine hK.out _ _ (HKS.out _ HF4.out) (fun hHeld => ?_)
      clear hK K
      try simp only [Act.put, List.getElem_toArray, List.getElem_cons_zero, List.getElem_cons_succ, List.setIfInBounds_toArray, List.set_cons_zero, List.set_cons_succ]
      refine wpAnyH_take (i := 7) (v := .tuple #[.agg #[.int .i64 va, .int .i64 vb], .int .i64 ve]) rfl (by kernel_rfl) (by kernel_rfl) (by kernel_rfl) (fun _ _ _ h => h) (Or.inl ⟨by kernel_rfl, by intro w hSw; simp [go_sem, hSw]⟩) hHeld ?_
      simp only [Act.put, List.getElem_toArray, List.getElem_cons_zero, List.getElem_cons_succ, List.setIfInBounds_toArray, List.set_cons_zero, List.set_cons_succ]
      refine wpAnyH_take (i := 8) (v := .agg #[.int .i64 va, .int .i64 vb]) rfl (by kernel_rfl) (by kernel_rfl) (by kernel_rfl) (fun _ _ _ h => h) (Or.inl ⟨by kernel_rfl, by intro w hSw; simp [go_sem, hSw]⟩) hHeld ?_
      simp only [Act.put, List.getElem_toArray, List.getElem_cons_zero, List.getElem_cons_succ, List.setIfInBounds_toArray, List.set_cons_zero, List.set_cons_succ]
      refine wpAnyH_take (i := 9) (v := .int .i64 ve) rfl (by kernel_rfl) (by kernel_rfl) (by kernel_rfl) (fun _ _ _ h => h) (Or.inl ⟨by kernel_rfl, by intro w hSw; simp [go_sem, hSw]⟩) hHeld ?_
      simp only [Act.put, List.getElem_toArray, List.getElem_cons_zero, List.getElem_cons_succ, List.setIfInBounds_toArray, List.set_cons_zero, List.set_cons_succ]
      refine wpAnyH_ready (rs := [11]) (by kernel_rfl) (by simp) ?_
      clear hHeld
      refine AllReadyH.cons rfl (fun K hK => ?_) AllReadyH.nil
      rw [if_pos (by rfl)]
      refine wp_store_mid _ _ _ rfl ba 0 #[.int .i64 va, .int .i64 vb] rfl rfl (HA4.out.2.there) (by kernel_rfl) (ver_all _ _) ?_
      have hfs : Fresh wb (World.setCells wc4 ba 0 [.int .i64 va, .int .i64 vb]) := Keep.setCells _ _ _ HF4.out (fun h _ => absurd h (Nat.not_lt.2 HA4.out.1))
      refine hK.out _ _ (HKS.out _ hfs) (fun hHeld => ?_)
      clear hK K
      try simp only [Act.put, List.getElem_toArray, List.getElem_cons_zero, List.getElem_cons_succ, List.setIfInBounds_toArray, List.set_cons_zero, List.set_cons_succ]
      refine wpAnyH_take (i := 12) (v := .int .i64 ve) rfl (by kernel_rfl) (by kernel_rfl) (by kernel_rfl) (fun _ _ _ h => h) (Or.inl ⟨by kernel_rfl, by intro w hSw; simp [go_sem, hSw]⟩) hHeld ?_
      simp only [Act.put, List.getElem_toArray, List.getElem_cons_zero, List.getElem_cons_succ, List.setIfInBounds_toArray, List.set_cons_zero, List.set_cons_succ]
      refine wpAnyH_done (by kernel_rfl) ?_ _
      clear hHeld
      go_wp2_with fail
      go_meet
      exact ⟨_, rfl, rfl, Lib.hid ⟨hfs, (HA4.out.2.set 0 (.int .i64 va)).set 1 (.int .i64 vb), HA4.out.1⟩⟩
  case rest =>
  rename World => w3
  obtain ⟨b4, rfl, rfl, hc3⟩ := hcut
  have H3 := Lib.hid (And.intro (H1.out.trans hc3.out.1) (And.intro hc3.out.1 hc3.out.2.1))
  have HS1 : Hid (∀ w', Fresh W w' → Calls Tryz.prog 7 #[.slice none 0 0, .slice (some ⟨w'.heap.size, 0, none⟩) 1 1] (w'.alloc (.cells #[.int .i64 1] 3)) fun e w'' => e = .returned (.tuple #[.agg #[.int .i64 0, .int .i64 0], .int .i64 0]) ∧ Fresh (w'.alloc (.cells #[.int .i64 1] 3)) w'') := Lib.hid fun w' hf => by
    have := serviceC_any (HT.out.fresh (hf.alloc (.cells #[.int .i64 1] 3))) none 0 0 [] (mks_nil _) (fun x hx => by cases hx) (fun x hx => by cases hx) (fun x hx => by cases hx) (some ⟨w'.heap.size, 0, none⟩) 1 1 [1] (Rd.one_new w' (.int .i64 1) 3) rfl (by decide)
    have e : dsOf ([] : List MkV) = [] := rfl
    rw [e, service_one] at this
    exact this
  have x0 := (HKS.out w3 H3.out.2.1).1
  have x1 := (HKS.out w3 H3.out.2.1).2
  have lx : bx < w3.heap.size := Nat.lt_of_lt_of_le HX.out.lt H3.out.2.1.size
  clear hc3
  by_cases hve : ve = 0
  rotate_left
  · have hvb : (ve != 0) = true := by simpa using hve
    have hvc : (ve == 0) = false := by simpa using hve
    clear hve
    go_wp2_with fail
    refine Calls.mono (HS1.out w3 H3.out.1) ?_
    rintro e w5 ⟨rfl, hf5⟩
    have HF5 := Lib.hid ((H3.out.1.alloc _).trans hf5)
    clear hf5 HS1
    go_wp2_with fail
    go_ret
    exact ⟨rfl, HF5.out.alloc _⟩
  subst hve
  by_cases hK : K < 0 ∨ (n : Int) < K
  · rcases hK with h | h
    · have d1 : decide (K < 0) = true := decide_eq_true h
      clear h
      go_wp2_with fail
      refine Calls.mono (HS1.out w3 H3.out.1) ?_
      rintro e w5 ⟨rfl, hf5⟩
      have HF5 := Lib.hid ((H3.out.1.alloc _).trans hf5)
      clear hf5 HS1
      go_wp2_with fail
      go_ret
      exact ⟨rfl, HF5.out.alloc _⟩
    · have d1 : decide (K < 0) = false := decide_eq_false (by omega)
      have d2 : decide ((n : Int) < K) = true := decide_eq_true h
      clear h
      go_wp2_with fail
      refine Calls.mono (HS1.out w3 H3.out.1) ?_
      rintro e w5 ⟨rfl, hf5⟩
      have HF5 := Lib.hid ((H3.out.1.alloc _).trans hf5)
      clear hf5 HS1
      go_wp2_with fail
      go_ret
      exact ⟨rfl, HF5.out.alloc _⟩
  obtain ⟨k, rfl⟩ : ∃ k : Nat, K = (k : Int) := ⟨K.toNat, by omega⟩
  have hkn' : k ≤ n := by omega
  have hkc : ¬ c < k := by omega
  have d1 : decide ((k : Int) < 0) = false := decide_eq_false (by omega)
  have d2 : decide ((n : Int) < (k : Int)) = false := decide_eq_false (by omega)
  obtain ⟨ua, ub, wa, wb', hu, hw, hcs⟩ := service_three (k := k) HR.out.symm (show (dsOf hs).length = n by unfold dsOf; rw [List.length_map]; exact HML.out)
  have HU := Lib.hid (And.intro hu (And.intro hw hcs))
  clear hK hu hw hcs HS1
  -- the bad mark
  have HC := Lib.hid (HCA.out w3 H3.out.1)
  go_upto_region 6 with (fail)
  go_wp2_with fail
  refine Calls.mono HC.out ?_
  rintro e w5 ⟨⟨v5, ks5, rfl, hc5⟩, hf5⟩
  have H5 := Lib.hid (And.intro (H3.out.1.trans hf5) (And.intro (H3.out.2.2.keep hf5 trivial) (And.intro (CopsS.of hc5 HML.out H.out.1.le H.out.1.fit H.out.2.2.1 H.out.2.2.2.2) (H3.out.2.1.trans hf5))))
  have HSz : Hid (w3.heap.size ≤ w5.heap.size) := Lib.hid hf5.size
  have HRows := Lib.hid (fun x hx => hc5.rows x hx)
  have x0 := hf5.cellAt x0 trivial
  have x1 := hf5.cellAt x1 trivial
  have lx : bx < w5.heap.size := Nat.lt_of_lt_of_le lx hf5.size
  have HBd : Hid (∀ u ∈ badQ.cells.toArray.toList, u.oneCell' = true) := Lib.hid (fun u hu => mk_one ⟨rfl, rfl, rfl⟩ u (by simpa using hu))
  clear hc5 hf5 HC
  go_wp2_with (at_builtin; refine wpList_appB etMark rfl (.tmp 46) (.tmp 49) rfl badQ.cells.toArray 51 rfl HBd.out w3.heap.size _ n (mcells ks5) w5.heap.size rfl rfl rfl H5.out.2.2.1.own (by omega) HSz.out ?_)
  intro v6 w6 ho6 hk6 hn6
  have ho5 := H5.out.2.2.1.own
  have hne : ∀ j, j < w3.heap.size → v5.ownBlock ≠ some j := fun j hj e => by have := (own_lt ho5 e).1; omega
  have h46 := H3.out.1.size
  have hf6 : Fresh W w6 := H5.out.1.comp hk6 (fun _ _ h => h) (fun j hj _ => hne j (by omega))
  have hfb6 : Fresh wb w6 := H5.out.2.2.2.comp hk6 (fun _ _ h => h) (fun j hj _ => hne j (Nat.lt_of_lt_of_le hj H3.out.2.1.size))
  have hC6 := H5.out.2.2.1.bad hn ho6 (fun x hx => (crow_appS ho5 hk6 (HRows.out x hx)).ok)
  have l4 := H3.out.2.2.lt
  have hB6 := H5.out.2.1.keep hk6 (hne _ l4)
  have x0 := hk6.cellAt x0 (hne _ (Nat.lt_of_lt_of_le HX.out.lt H3.out.2.1.size))
  have x1 := hk6.cellAt x1 (hne _ (Nat.lt_of_lt_of_le HX.out.lt H3.out.2.1.size))
  have lx : bx < w6.heap.size := Nat.lt_of_lt_of_le lx hk6.size
  have H6 := Lib.hid (And.intro hf6 (And.intro hfb6 (And.intro hB6 hC6)))
  clear ho6 hk6 hn6 ho5 hne h46 hf6 hfb6 hC6 l4 hB6 HRows HSz H5
  go_wp2_with (at_builtin; refine wpList_app etInt rfl _ _ rfl w6.heap.size _ 0 [] rfl (World.ownsRow_nil _ _ _ _) (fun _ => True) A2 n2 c2 _ rfl (HVo.out _ H6.out.1) HNl.out (ics_one _) (by omega) (Nat.le_refl _) ?_)
  intro v7 w7 ho7 hk7 hn7
  have hf7 : Fresh w6 w7 := hk7.weaken fun _ _ _ => by simp [Value.ownBlock]
  try simp only [Nat.zero_add, List.nil_append] at ho7
  have hC7 := H6.out.2.2.2.fresh hf7
  have hV7 := hC7.service (HT.out.fresh (H6.out.1.trans hf7)) ho7 hlv hn2
  rw [HU.out.1] at hV7
  have HV7 := Lib.hid hV7
  have H7 := Lib.hid (And.intro (H6.out.1.trans hf7) (And.intro (H6.out.2.1.trans hf7) (H6.out.2.2.1.keep hf7 trivial)))
  clear ho7 hk7 hn7 hf7 hC7 hV7 H6
  go_wp2_with fail
  refine Calls.mono HV7.out ?_
  rintro e w8 ⟨rfl, hf8⟩
  have H8 := Lib.hid (And.intro (H7.out.1.trans hf8) (And.intro (H7.out.2.1.trans hf8) (H7.out.2.2.keep hf8 trivial)))
  clear hf8 HV7 H7 x0 x1 lx
  go_upto_region 8 with (fail)
  obtain ⟨b9, hb9⟩ : ∃ b, b = w8.heap.size := ⟨_, rfl⟩
  rw [← hb9]
  generalize hw9 : World.alloc w8 _ = w9
  have hf9 : Fresh w8 w9 := hw9 ▸ (Keep.refl _ w8).alloc _
  have hB9 : Blk w9 b9 29 #[.int .i64 ua, .int .i64 ub] := by rw [← hw9, hb9]; exact Blk.new w8 _ _
  have H9 := Lib.hid (And.intro (H8.out.1.trans hf9) (And.intro (H8.out.2.1.trans hf9) (And.intro (H8.out.2.2.keep hf9 trivial) hB9)))
  clear hb9 hw9 hf9 hB9 H8
  have x0 := (HKS.out w9 H9.out.2.1).1
  have lx : bx < w9.heap.size := Nat.lt_of_lt_of_le HX.out.lt H9.out.2.1.size
  have Q1 := fun w => neverS (ua, ub) (28, (n : Int)) w
  have Q2 := fun w => neverS (ua, ub) (va, vb) w
  have Q3 := fun w => eqverS (wa, wb') (va, vb) w
  have Q4 := fun w => eqverS (wa, wb') (0, 0) w
  simp only at Q1 Q2 Q3 Q4
  obtain ⟨p1, hp1⟩ : ∃ b, b = decide (((ua, ub) : V2S) ≠ (28, (n : Int))) := ⟨_, rfl⟩
  obtain ⟨p2, hp2⟩ : ∃ b, b = decide (((ua, ub) : V2S) ≠ (va, vb)) := ⟨_, rfl⟩
  obtain ⟨p3, hp3⟩ : ∃ b, b = decide (((wa, wb') : V2S) = (va, vb)) := ⟨_, rfl⟩
  obtain ⟨p4, hp4⟩ : ∃ b, b = decide (((wa, wb') : V2S) = (0, 0)) := ⟨_, rfl⟩
  rw [← hp1] at Q1; rw [← hp2] at Q2; rw [← hp3] at Q3; rw [← hp4] at Q4
  have HP := Lib.hid (And.intro hp1 (And.intro hp2 (And.intro hp3 hp4)))
  clear hp1 hp2 hp3 hp4
  obtain ⟨zb, hzb⟩ : ∃ b, b = (va == 0) := ⟨_, rfl⟩
  have hcase : (zb = true ∧ p1 = false ∧ p4 = true) ∨ (zb = false ∧ p2 = false ∧ vb < (k : Int) ∧ p3 = true) ∨ (zb = false ∧ p2 = false ∧ ¬ vb < (k : Int) ∧ p4 = true) := by
    obtain ⟨q1, q2, q3, q4⟩ := HP.out
    rw [hzb, q1, q2, q3, q4]
    rcases HU.out.2.2 with ⟨h1, h2, h3, h4, h5, h6⟩ | ⟨h1, h2, h3, h4, h5, h6⟩ | ⟨h1, h2, h3, h4, h5, h6⟩
    · exact .inl ⟨by simp [h1], by simp [h3, h4], by simp [h5, h6]⟩
    · exact .inr (.inl ⟨by simp [h1], by simp [h2, h3], h4, by simp [h5, h6]⟩)
    · exact .inr (.inr ⟨by simp [h1], by simp [h2, h3], by omega, by simp [h5, h6]⟩)
  have HCase := Lib.hid hcase
  have hzn : (va != 0) = !zb := by rw [hzb]; rfl
  have hzs : (va == 0) = zb := hzb.symm
  clear HP hcase hzb
  have HKT : Hid (∀ w', Fresh w9 w' → (w'.cell? ⟨bx, 0, none⟩ = some (.slice A n c) ∧ w'.cell? ⟨bx, 1, none⟩ = some (.slice A2 n2 c2))) := Lib.hid fun w' hf => HKS.out w' (H9.out.2.1.trans hf)
  have H9f := Lib.hid H9.out.1
  have HCT := Lib.hid (fun w' (hf : Fresh W w') => copied_rows _ A k c (hs.take k) w' ((H.out.1.keep hf).takeS hkn') (fun x hx => (H.out.2.1 x (List.mem_of_mem_take hx)).keep hf))
  have HTk : Hid ((hs.take k).length = k ∧ k ≤ 1048576 ∧ (∀ x ∈ hs.take k, MkFit x.d) ∧ (∀ x ∈ hs.take k, MkInt x.d) ∧ (∀ x ∈ hs.take k, InC x.d.cmd) ∧ dsOf (hs.take k) = (dsOf hs).take k) := Lib.hid
    ⟨(H.out.1.takeS hkn').len, by omega, (H.out.1.takeS hkn').fit, (fun x hx => H.out.2.2.1 x (List.mem_of_mem_take hx)), (fun x hx => H.out.2.2.2.2 x (List.mem_of_mem_take hx)), List.map_take⟩
  have HSw : Hid (∀ (w' : World) (B1 B2 : Nat) (v v2 : Value) {ks : List MkV}, Fresh W w' → CopsS w' B1 v k (dsOf (hs.take k)) ks → w'.ownsRow B2 3 1 v2 n2 (ics vs) → Calls Tryz.prog 7 #[v, v2] w' fun e w'' => e = .returned (.tuple #[.agg #[.int .i64 wa, .int .i64 wb'], .int .i64 0]) ∧ Fresh w' w'') := Lib.hid (fun w' B1 B2 v v2 ks hf hc ho => by
    have := hc.service (HT.out.fresh hf) ho hlv hn2
    rw [HTk.out.2.2.2.2.2, HU.out.2.1] at this
    exact this)
  have a0 := H9.out.2.2.1.cell 0; have a1 := H9.out.2.2.1.cell 1; have la := H9.out.2.2.1.lt
  have u0 := H9.out.2.2.2.cell 0; have u1 := H9.out.2.2.2.cell 1; have lu := H9.out.2.2.2.lt
  simp at a0 a1 u0 u1
  rcases HCase.out with ⟨rfl, rfl, rfl⟩ | ⟨rfl, rfl, hvk, rfl⟩ | ⟨rfl, rfl, hvk, rfl⟩
  · obtain rfl : va = 0 := by simpa using hzs
    clear HCase hzn hzs Q2 Q3
    go_upto_region 10 with (fail)
    clear a0 a1 u0 u1 la lu x0 lx
    go_cut [11, 10] (fun s11 s10 wz => ∃ b11 : Nat, s11 = .pointer (some ⟨b11, 0, none⟩) ∧ s10 = .int .i64 0 ∧ Hid (Fresh w9 wz ∧ Blk wz b11 29 #[.int .i64 wa, .int .i64 wb'] ∧ w9.heap.size ≤ b11))
    case first =>
      refine wp_region_held_drew (S := fun w' => w'.cell? ⟨bx, 0, none⟩ = some (.slice A n c) ∧ w'.cell? ⟨bx, 1, none⟩ = some (.slice A2 n2 c2)) (by kernel_rfl) (HKT.out _ (Keep.refl _ w9).drew) (fun hHeld => ?_)
      refine wpAnyH_take (i := 0) (v := .pointer (some ⟨bx, 0, none⟩)) rfl (by kernel_rfl) (by kernel_rfl) (by kernel_rfl) (fun _ _ _ h => h) (Or.inl ⟨by kernel_rfl, by intro w hSw; simp [go_sem, hSw]⟩) hHeld ?_
      simp only [Act.put, List.getElem_toArray, List.getElem_cons_zero, List.getElem_cons_succ, List.setIfInBounds_toArray, List.set_cons_zero, List.set_cons_succ]
      refine wpAnyH_take (i := 1) (v := .slice A n c) rfl (by kernel_rfl) (by kernel_rfl) (by kernel_rfl) (fun _ _ _ h => h) (Or.inl ⟨by kernel_rfl, by intro w hSw; simp [go_sem, hSw]⟩) hHeld ?_
      simp only [Act.put, List.getElem_toArray, List.getElem_cons_zero, List.getElem_cons_succ, List.setIfInBounds_toArray, List.set_cons_zero, List.set_cons_succ]
      refine wpAnyH_take (i := 2) (v := .int .i64 (k : Int)) rfl (by kernel_rfl) (by kernel_rfl) (by kernel_rfl) (fun _ _ _ h => h) (Or.inl ⟨by kernel_rfl, by intro w hSw; simp [go_sem, hSw]⟩) hHeld ?_
      simp only [Act.put, List.getElem_toArray, List.getElem_cons_zero, List.getElem_cons_succ, List.setIfInBounds_toArray, List.set_cons_zero, List.set_cons_succ]
      refine wpAnyH_take (i := 3) (v := .slice A k c) rfl (by kernel_rfl) (by kernel_rfl) (by kernel_rfl) (fun _ _ _ h => h) (Or.inl ⟨by kernel_rfl, by intro w hSw; go_simp⟩) hHeld ?_
      simp only [Act.put, List.getElem_toArray, List.getElem_cons_zero, List.getElem_cons_succ, List.setIfInBounds_toArray, List.set_cons_zero, List.set_cons_succ]
      refine wpAnyH_take (i := 5) (v := .pointer (some ⟨bx, 1, none⟩)) rfl (by kernel_rfl) (by kernel_rfl) (by kernel_rfl) (fun _ _ _ h => h) (Or.inl ⟨by kernel_rfl, by intro w hSw; simp [go_sem, hSw]⟩) hHeld ?_
      simp only [Act.put, List.getElem_toArray, List.getElem_cons_zero, List.getElem_cons_succ, List.setIfInBounds_toArray, List.set_cons_zero, List.set_cons_succ]
      refine wpAnyH_take (i := 6) (v := .slice A2 n2 c2) rfl (by kernel_rfl) (by kernel_rfl) (by kernel_rfl) (fun _ _ _ h => h) (Or.inl ⟨by kernel_rfl, by intro w hSw; simp [go_sem, hSw]⟩) hHeld ?_
      simp only [Act.put, List.getElem_toArray, List.getElem_cons_zero, List.getElem_cons_succ, List.setIfInBounds_toArray, List.set_cons_zero, List.set_cons_succ]
      refine wpAnyH_ready (rs := [4, 12]) (by kernel_rfl) (by simp) ?_
      clear hHeld
      refine AllReadyH.cons rfl (fun K hK => ?_) (AllReadyH.cons rfl (fun K hK => ?_) AllReadyH.nil)
      · go_simp
        (with_reducible refine Calls.mono (HCT.out w9.drew (H9f.out.trans ((Keep.refl (fun _ => True) w9).drew))) ?_)
        rintro e wc1 ⟨⟨v, ks, rfl, hc⟩, hf⟩
        have HF1 := Lib.hid ((((Keep.refl (fun _ => True) w9).drew)).trans hf)
        have HC1 := Lib.hid (CopsS.of hc HTk.out.1 HTk.out.2.1 HTk.out.2.2.1 HTk.out.2.2.2.1 HTk.out.2.2.2.2.1)
        clear hf hc
        go_wp2_with fail
        refine hK.out _ _ (HKT.out _ HF1.out) (fun hHeld => ?_)
        clear hK K
        try simp only [Act.put, List.getElem_toArray, List.getElem_cons_zero, List.getElem_cons_succ, List.setIfInBounds_toArray, List.set_cons_zero, List.set_cons_succ]
        refine wpAnyH_ready (rs := [7, 12]) (by kernel_rfl) (by simp) ?_
        clear hHeld
        refine AllReadyH.cons rfl (fun K hK => ?_) (AllReadyH.cons rfl (fun K hK => ?_) AllReadyH.nil)
        · refine step_app etInt rfl _ _ rfl wc1.heap.size (.slice none 0 0) 0 [] rfl (World.ownsRow_nil _ _ _ _) (fun _ => True) A2 n2 c2 (ics vs) rfl (HVo.out _ (H9f.out.trans HF1.out)) HNl.out (ics_one _) (by omega) (Nat.le_refl _) ?_
          intro v2 wc2 ho hk hn
          have hf : Fresh wc1 wc2 := hk.weaken fun _ _ _ => by simp [Value.ownBlock]
          try simp only [Nat.zero_add, List.nil_append] at ho
          have HF2 := Lib.hid ((HF1.out).trans hf)
          have HC2 := Lib.hid (HC1.out.fresh hf)
          have HV2 := Lib.hid ho
          clear hf ho hk hn
          refine hK.out _ _ (HKT.out _ HF2.out) (fun hHeld => ?_)
          clear hK K
          try simp only [Act.put, List.getElem_toArray, List.getElem_cons_zero, List.getElem_cons_succ, List.setIfInBounds_toArray, List.set_cons_zero, List.set_cons_succ]
          refine wpAnyH_ready (rs := [8, 12]) (by kernel_rfl) (by simp) ?_
          clear hHeld
          refine AllReadyH.cons rfl (fun K hK => ?_) (AllReadyH.cons rfl (fun K hK => ?_) AllReadyH.nil)
          · go_simp
            (with_reducible refine Calls.mono (HSw.out _ _ _ _ _ (H9f.out.trans HF2.out) HC2.out HV2.out) ?_)
            rintro e wc3 ⟨rfl, hf⟩
            have HF3 := Lib.hid ((HF2.out).trans hf)
            clear hf
            go_wp2_with fail
            refine hK.out _ _ (HKT.out _ HF3.out) (fun hHeld => ?_)
            clear hK K
            try simp only [Act.put, List.getElem_toArray, List.getElem_cons_zero, List.getElem_cons_succ, List.setIfInBounds_toArray, List.set_cons_zero, List.set_cons_succ]
            refine wpAnyH_take (i := 9) (v := .tuple #[.agg #[.int .i64 wa, .int .i64 wb'], .int .i64 0]) rfl (by kernel_rfl) (by kernel_rfl) (by kernel_rfl) (fun _ _ _ h => h) (Or.inl ⟨by kernel_rfl, by intro w hSw; simp [go_sem, hSw]⟩) hHeld ?_
            simp only [Act.put, List.getElem_toArray, List.getElem_cons_zero, List.getElem_cons_succ, List.setIfInBounds_toArray, List.set_cons_zero, List.set_cons_succ]
            refine wpAnyH_take (i := 10) (v := .agg #[.int .i64 wa, .int .i64 wb']) rfl (by kernel_rfl) (by kernel_rfl) (by kernel_rfl) (fun _ _ _ h => h) (Or.inl ⟨by kernel_rfl, by intro w hSw; simp [go_sem, hSw]⟩) hHeld ?_
            simp only [Act.put, List.getElem_toArray, List.getElem_cons_zero, List.getElem_cons_succ, List.setIfInBounds_toArray, List.set_cons_zero, List.set_cons_succ]
            refine wpAnyH_take (i := 11) (v := .int .i64 0) rfl (by kernel_rfl) (by kernel_rfl) (by kernel_rfl) (fun _ _ _ h => h) (Or.inl ⟨by kernel_rfl, by intro w hSw; simp [go_sem, hSw]⟩) hHeld ?_
            simp only [Act.put, List.getElem_toArray, List.getElem_cons_zero, List.getElem_cons_succ, List.setIfInBounds_toArray, List.set_cons_zero, List.set_cons_succ]
            refine wpAnyH_ready (rs := [12]) (by kernel_rfl) (by simp) ?_
            clear hHeld
            refine AllReadyH.cons rfl (fun K hK => ?_) AllReadyH.nil
            go_simp
            have HA := Lib.hid (And.intro (show w9.heap.size ≤ wc3.heap.size from (HF3.out).size) (Blk.new wc3 29 #[.int .i64 0, .int .i64 0]))
            refine hK.out _ _ (HKT.out _ ((HF3.out).alloc _)) (fun hHeld => ?_)
            clear hK K
            try simp only [Act.put, List.getElem_toArray, List.getElem_cons_zero, List.getElem_cons_succ, List.setIfInBounds_toArray, List.set_cons_zero, List.set_cons_succ]
            refine wpAnyH_ready (rs := [13]) (by kernel_rfl) (by simp) ?_
            clear hHeld
            refine AllReadyH.cons rfl (fun K hK => ?_) AllReadyH.nil
            rw [if_pos (by rfl)]
            refine wp_store_mid _ _ _ rfl wc3.heap.size 0 #[.int .i64 wa, .int .i64 wb'] rfl rfl (HA.out.2.there) (by kernel_rfl) (ver_all _ _) ?_
            have hfs : Fresh w9 (World.setCells (wc3.alloc (.cells #[.int .i64 0, .int .i64 0] 29)) wc3.heap.size 0 [.int .i64 wa, .int .i64 wb']) := Keep.setCells _ _ _ ((HF3.out).alloc _) (fun h _ => absurd h (Nat.not_lt.2 HA.out.1))
            refine hK.out _ _ (HKT.out _ hfs) (fun hHeld => ?_)
            clear hK K
            try simp only [Act.put, List.getElem_toArray, List.getElem_cons_zero, List.getElem_cons_succ, List.setIfInBounds_toArray, List.set_cons_zero, List.set_cons_succ]
            refine wpAnyH_take (i := 14) (v := .int .i64 0) rfl (by kernel_rfl) (by kernel_rfl) (by kernel_rfl) (fun _ _ _ h => h) (Or.inl ⟨by kernel_rfl, by intro w hSw; simp [go_sem, hSw]⟩) hHeld ?_
            simp only [Act.put, List.getElem_toArray, List.getElem_cons_zero, List.getElem_cons_succ, List.setIfInBounds_toArray, List.set_cons_zero, List.set_cons_succ]
            refine wpAnyH_done (by kernel_rfl) ?_ _
            clear hHeld
            go_wp2_with fail
            go_meet
            exact ⟨_, rfl, rfl, Lib.hid ⟨hfs, (HA.out.2.set 0 (.int .i64 wa)).set 1 (.int .i64 wb'), HA.out.1⟩⟩
          · go_simp
            have hfa3 : Fresh w9 (wc2.alloc (.cells #[.int .i64 0, .int .i64 0] 29)) := (HF2.out).alloc _
            have hbl3 := Blk.new wc2 29 #[.int .i64 0, .int .i64 0]
            have hlo3 : w9.heap.size ≤ wc2.heap.size := (HF2.out).size
            refine hK.out _ _ (HKT.out _ ((HF2.out).alloc _)) (fun hHeld => ?_)
            clear hK K
            obtain ⟨ba, hba⟩ : ∃ b, b = wc2.heap.size := ⟨_, rfl⟩
            obtain ⟨wa3, hwa⟩ : ∃ w', w' = wc2.alloc (.cells #[.int .i64 0, .int .i64 0] 29) := ⟨_, rfl⟩
            have hfw : Fresh w9 wa3 := by rw [hwa]; exact (HF2.out).alloc _
            have hbw : Blk wa3 ba 29 #[.int .i64 0, .int .i64 0] := by rw [hwa, hba]; exact Blk.new _ _ _
            have hlw : w9.heap.size ≤ ba := by have := (HF2.out).size; omega
            have HC3 := Lib.hid (HC2.out.fresh (show Fresh wc2 wa3 by rw [hwa]; exact (Keep.refl _ wc2).alloc _))
            have HV3 := Lib.hid (own_keep HV2.out (show Fresh wc2 wa3 by rw [hwa]; exact (Keep.refl _ wc2).alloc _) (fun _ _ => trivial))
            rw [← hwa, ← hba]
            have HF3 := Lib.hid hfw
            have HA3 := Lib.hid (And.intro hlw hbw)
            clear hwa hba hfw hbw hlw hfa3 hbl3 hlo3
            try simp only [Act.put, List.getElem_toArray, List.getElem_cons_zero, List.getElem_cons_succ, List.setIfInBounds_toArray, List.set_cons_zero, List.set_cons_succ]
            refine wpAnyH_ready (rs := [8]) (by kernel_rfl) (by simp) ?_
            clear hHeld
            refine AllReadyH.cons rfl (fun K hK => ?_) AllReadyH.nil
            go_simp
            (with_reducible refine Calls.mono (HSw.out _ _ _ _ _ (H9f.out.trans HF3.out) HC3.out HV3.out) ?_)
            rintro e wc4 ⟨rfl, hf⟩
            have HF4 := Lib.hid ((HF3.out).trans hf)
            have HA4 := Lib.hid (And.intro HA3.out.1 (HA3.out.2.keep hf trivial))
            clear hf
            go_wp2_with fail
            refine hK.out _ _ (HKT.out _ HF4.out) (fun hHeld => ?_)
            clear hK K
            try simp only [Act.put, List.getElem_toArray, List.getElem_cons_zero, List.getElem_cons_succ, List.setIfInBounds_toArray, List.set_cons_zero, List.set_cons_succ]
            refine wpAnyH_take (i := 9) (v := .tuple #[.agg #[.int .i64 wa, .int .i64 wb'], .int .i64 0]) rfl (by kernel_rfl) (by kernel_rfl) (by kernel_rfl) (fun _ _ _ h => h) (Or.inl ⟨by kernel_rfl, by intro w hSw; simp [go_sem, hSw]⟩) hHeld ?_
            simp only [Act.put, List.getElem_toArray, List.getElem_cons_zero, List.getElem_cons_succ, List.setIfInBounds_toArray, List.set_cons_zero, List.set_cons_succ]
            refine wpAnyH_take (i := 10) (v := .agg #[.int .i64 wa, .int .i64 wb']) rfl (by kernel_rfl) (by kernel_rfl) (by kernel_rfl) (fun _ _ _ h => h) (Or.inl ⟨by kernel_rfl, by intro w hSw; simp [go_sem, hSw]⟩) hHeld ?_
            simp only [Act.put, List.getElem_toArray, List.getElem_cons_zero, List.getElem_cons_succ, List.setIfInBounds_toArray, List.set_cons_zero, List.set_cons_succ]
            refine wpAnyH_take (i := 11) (v := .int .i64 0) rfl (by kernel_rfl) (by kernel_rfl) (by kernel_rfl) (fun _ _ _ h => h) (Or.inl ⟨by kernel_rfl, by intro w hSw; simp [go_sem, hSw]⟩) hHeld ?_
            simp only [Act.put, List.getElem_toArray, List.getElem_cons_zero, List.getElem_cons_succ, List.setIfInBounds_toArray, List.set_cons_zero, List.set_cons_succ]
            refine wpAnyH_ready (rs := [13]) (by kernel_rfl) (by simp) ?_
            clear hHeld
            refine AllReadyH.cons rfl (fun K hK => ?_) AllReadyH.nil
            rw [if_pos (by rfl)]
            refine wp_store_mid _ _ _ rfl ba 0 #[.int .i64 wa, .int .i64 wb'] rfl rfl (HA4.out.2.there) (by kernel_rfl) (ver_all _ _) ?_
            have hfs : Fresh w9 (World.setCells wc4 ba 0 [.int .i64 wa, .int .i64 wb']) := Keep.setCells _ _ _ HF4.out (fun h _ => absurd h (Nat.not_lt.2 HA4.out.1))
            refine hK.out _ _ (HKT.out _ hfs) (fun hHeld => ?_)
            clear hK K
            try simp only [Act.put, List.getElem_toArray, List.getElem_cons_zero, List.getElem_cons_succ, List.setIfInBounds_toArray, List.set_cons_zero, List.set_cons_succ]
            refine wpAnyH_take (i := 14) (v := .int .i64 0) rfl (by kernel_rfl) (by kernel_rfl) (by kernel_rfl) (fun _ _ _ h => h) (Or.inl ⟨by kernel_rfl, by intro w hSw; simp [go_sem, hSw]⟩) hHeld ?_
            simp only [Act.put, List.getElem_toArray, List.getElem_cons_zero, List.getElem_cons_succ, List.setIfInBounds_toArray, List.set_cons_zero, List.set_cons_succ]
            refine wpAnyH_done (by kernel_rfl) ?_ _
            clear hHeld
            go_wp2_with fail
            go_meet
            exact ⟨_, rfl, rfl, Lib.hid ⟨hfs, (HA4.out.2.set 0 (.int .i64 wa)).set 1 (.int .i64 wb'), HA4.out.1⟩⟩
        · go_simp
          have hfa2 : Fresh w9 (wc1.alloc (.cells #[.int .i64 0, .int .i64 0] 29)) := (HF1.out).alloc _
          have hbl2 := Blk.new wc1 29 #[.int .i64 0, .int .i64 0]
          have hlo2 : w9.heap.size ≤ wc1.heap.size := (HF1.out).size
          refine hK.out _ _ (HKT.out _ ((HF1.out).alloc _)) (fun hHeld => ?_)
          clear hK K
          obtain ⟨ba, hba⟩ : ∃ b, b = wc1.heap.size := ⟨_, rfl⟩
          obtain ⟨wa2, hwa⟩ : ∃ w', w' = wc1.alloc (.cells #[.int .i64 0, .int .i64 0] 29) := ⟨_, rfl⟩
          have hfw : Fresh w9 wa2 := by rw [hwa]; exact (HF1.out).alloc _
          have hbw : Blk wa2 ba 29 #[.int .i64 0, .int .i64 0] := by rw [hwa, hba]; exact Blk.new _ _ _
          have hlw : w9.heap.size ≤ ba := by have := (HF1.out).size; omega
          have HC2 := Lib.hid (HC1.out.fresh (show Fresh wc1 wa2 by rw [hwa]; exact (Keep.refl _ wc1).alloc _))
          rw [← hwa, ← hba]
          have HF2 := Lib.hid hfw
          have HA2 := Lib.hid (And.intro hlw hbw)
          clear hwa hba hfw hbw hlw hfa2 hbl2 hlo2
          try simp only [Act.put, List.getElem_toArray, List.getElem_cons_zero, List.getElem_cons_succ, List.setIfInBounds_toArray, List.set_cons_zero, List.set_cons_succ]
          refine wpAnyH_ready (rs := [7]) (by kernel_rfl) (by simp) ?_
          clear hHeld
          refine AllReadyH.cons rfl (fun K hK => ?_) AllReadyH.nil
          refine step_app etInt rfl _ _ rfl wa2.heap.size (.slice none 0 0) 0 [] rfl (World.ownsRow_nil _ _ _ _) (fun _ => True) A2 n2 c2 (ics vs) rfl (HVo.out _ (H9f.out.trans HF2.out)) HNl.out (ics_one _) (by omega) (Nat.le_refl _) ?_
          intro v2 wc3 ho hk hn
          have hf : Fresh wa2 wc3 := hk.weaken fun _ _ _ => by simp [Value.ownBlock]
          try simp only [Nat.zero_add, List.nil_append] at ho
          have HF3 := Lib.hid ((HF2.out).trans hf)
          have HA3 := Lib.hid (And.intro HA2.out.1 (HA2.out.2.keep hf trivial))
          have HC3 := Lib.hid (HC2.out.fresh hf)
          have HV3 := Lib.hid ho
          clear hf ho hk hn
          refine hK.out _ _ (HKT.out _ HF3.out) (fun hHeld => ?_)
          clear hK K
          try simp only [Act.put, List.getElem_toArray, List.getElem_cons_zero, List.getElem_cons_succ, List.setIfInBounds_toArray, List.set_cons_zero, List.set_cons_succ]
          refine wpAnyH_ready (rs := [8]) (by kernel_rfl) (by simp) ?_
          clear hHeld
          refine AllReadyH.cons rfl (fun K hK => ?_) AllReadyH.nil
          go_simp
          (with_reducible refine Calls.mono (HSw.out _ _ _ _ _ (H9f.out.trans HF3.out) HC3.out HV3.out) ?_)
          rintro e wc4 ⟨rfl, hf⟩
          have HF4 := Lib.hid ((HF3.out).trans hf)
          have HA4 := Lib.hid (And.intro HA3.out.1 (HA3.out.2.keep hf trivial))
          clear hf
          go_wp2_with fail
          refine hK.out _ _ (HKT.out _ HF4.out) (fun hHeld => ?_)
          clear hK K
          try simp only [Act.put, List.getElem_toArray, List.getElem_cons_zero, List.getElem_cons_succ, List.setIfInBounds_toArray, List.set_cons_zero, List.set_cons_succ]
          refine wpAnyH_take (i := 9) (v := .tuple #[.agg #[.int .i64 wa, .int .i64 wb'], .int .i64 0]) rfl (by kernel_rfl) (by kernel_rfl) (by kernel_rfl) (fun _ _ _ h => h) (Or.inl ⟨by kernel_rfl, by intro w hSw; simp [go_sem, hSw]⟩) hHeld ?_
          simp only [Act.put, List.getElem_toArray, List.getElem_cons_zero, List.getElem_cons_succ, List.setIfInBounds_toArray, List.set_cons_zero, List.set_cons_succ]
          refine wpAnyH_take (i := 10) (v := .agg #[.int .i64 wa, .int .i64 wb']) rfl (by kernel_rfl) (by kernel_rfl) (by kernel_rfl) (fun _ _ _ h => h) (Or.inl ⟨by kernel_rfl, by intro w hSw; simp [go_sem, hSw]⟩) hHeld ?_
          simp only [Act.put, List.getElem_toArray, List.getElem_cons_zero, List.getElem_cons_succ, List.setIfInBounds_toArray, List.set_cons_zero, List.set_cons_succ]
          refine wpAnyH_take (i := 11) (v := .int .i64 0) rfl (by kernel_rfl) (by kernel_rfl) (by kernel_rfl) (fun _ _ _ h => h) (Or.inl ⟨by kernel_rfl, by intro w hSw; simp [go_sem, hSw]⟩) hHeld ?_
          simp only [Act.put, List.getElem_toArray, List.getElem_cons_zero, List.getElem_cons_succ, List.setIfInBounds_toArray, List.set_cons_zero, List.set_cons_succ]
          refine wpAnyH_ready (rs := [13]) (by kernel_rfl) (by simp) ?_
          clear hHeld
          refine AllReadyH.cons rfl (fun K hK => ?_) AllReadyH.nil
          rw [if_pos (by rfl)]
          refine wp_store_mid _ _ _ rfl ba 0 #[.int .i64 wa, .int .i64 wb'] rfl rfl (HA4.out.2.there) (by kernel_rfl) (ver_all _ _) ?_
          have hfs : Fresh w9 (World.setCells wc4 ba 0 [.int .i64 wa, .int .i64 wb']) := Keep.setCells _ _ _ HF4.out (fun h _ => absurd h (Nat.not_lt.2 HA4.out.1))
          refine hK.out _ _ (HKT.out _ hfs) (fun hHeld => ?_)
          clear hK K
          try simp only [Act.put, List.getElem_toArray, List.getElem_cons_zero, List.getElem_cons_succ, List.setIfInBounds_toArray, List.set_cons_zero, List.set_cons_succ]
          refine wpAnyH_take (i := 14) (v := .int .i64 0) rfl (by kernel_rfl) (by kernel_rfl) (by kernel_rfl) (fun _ _ _ h => h) (Or.inl ⟨by kernel_rfl, by intro w hSw; simp [go_sem, hSw]⟩) hHeld ?_
          simp only [Act.put, List.getElem_toArray, List.getElem_cons_zero, List.getElem_cons_succ, List.setIfInBounds_toArray, List.set_cons_zero, List.set_cons_succ]
          refine wpAnyH_done (by kernel_rfl) ?_ _
          clear hHeld
          go_wp2_with fail
          go_meet
          exact ⟨_, rfl, rfl, Lib.hid ⟨hfs, (HA4.out.2.set 0 (.int .i64 wa)).set 1 (.int .i64 wb'), HA4.out.1⟩⟩
      · go_simp
        have hfa1 : Fresh w9 (w9.drew.alloc (.cells #[.int .i64 0, .int .i64 0] 29)) := (((Keep.refl (fun _ => True) w9).drew)).alloc _
        have hbl1 := Blk.new w9.drew 29 #[.int .i64 0, .int .i64 0]
        have hlo1 : w9.heap.size ≤ w9.drew.heap.size := (((Keep.refl (fun _ => True) w9).drew)).size
        refine hK.out _ _ (HKT.out _ ((Keep.refl _ w9).alloc _).drew) (fun hHeld => ?_)
        clear hK K
        obtain ⟨ba, hba⟩ : ∃ b, b = w9.heap.size := ⟨_, rfl⟩
        obtain ⟨wa1, hwa⟩ : ∃ w, w = (w9.alloc (.cells #[.int .i64 0, .int .i64 0] 29)).drew := ⟨_, rfl⟩
        have hfw : Fresh w9 wa1 := by rw [hwa]; exact ((Keep.refl _ w9).alloc _).drew
        have hbw : Blk wa1 ba 29 #[.int .i64 0, .int .i64 0] := by rw [hwa, hba]; exact (Blk.new _ _ _).drew
        have hlw : w9.heap.size ≤ ba := by omega
        rw [← hwa, ← hba]
        have HF1 := Lib.hid hfw
        have HA1 := Lib.hid (And.intro hlw hbw)
        clear hwa hba hfw hbw hlw hfa1 hbl1 hlo1
        try simp only [Act.put, List.getElem_toArray, List.getElem_cons_zero, List.getElem_cons_succ, List.setIfInBounds_toArray, List.set_cons_zero, List.set_cons_succ]
        refine wpAnyH_ready (rs := [4]) (by kernel_rfl) (by simp) ?_
        clear hHeld
        refine AllReadyH.cons rfl (fun K hK => ?_) AllReadyH.nil
        go_simp
        (with_reducible refine Calls.mono (HCT.out wa1 (H9f.out.trans HF1.out)) ?_)
        rintro e wc2 ⟨⟨v, ks, rfl, hc⟩, hf⟩
        have HF2 := Lib.hid ((HF1.out).trans hf)
        have HA2 := Lib.hid (And.intro HA1.out.1 (HA1.out.2.keep hf trivial))
        have HC2 := Lib.hid (CopsS.of hc HTk.out.1 HTk.out.2.1 HTk.out.2.2.1 HTk.out.2.2.2.1 HTk.out.2.2.2.2.1)
        clear hf hc
        go_wp2_with fail
        refine hK.out _ _ (HKT.out _ HF2.out) (fun hHeld => ?_)
        clear hK K
        try simp only [Act.put, List.getElem_toArray, List.getElem_cons_zero, List.getElem_cons_succ, List.setIfInBounds_toArray, List.set_cons_zero, List.set_cons_succ]
        refine wpAnyH_ready (rs := [7]) (by kernel_rfl) (by simp) ?_
        clear hHeld
        refine AllReadyH.cons rfl (fun K hK => ?_) AllReadyH.nil
        refine step_app etInt rfl _ _ rfl wc2.heap.size (.slice none 0 0) 0 [] rfl (World.ownsRow_nil _ _ _ _) (fun _ => True) A2 n2 c2 (ics vs) rfl (HVo.out _ (H9f.out.trans HF2.out)) HNl.out (ics_one _) (by omega) (Nat.le_refl _) ?_
        intro v2 wc3 ho hk hn
        have hf : Fresh wc2 wc3 := hk.weaken fun _ _ _ => by simp [Value.ownBlock]
        try simp only [Nat.zero_add, List.nil_append] at ho
        have HF3 := Lib.hid ((HF2.out).trans hf)
        have HA3 := Lib.hid (And.intro HA2.out.1 (HA2.out.2.keep hf trivial))
        have HC3 := Lib.hid (HC2.out.fresh hf)
        have HV3 := Lib.hid ho
        clear hf ho hk hn
        refine hK.out _ _ (HKT.out _ HF3.out) (fun hHeld => ?_)
        clear hK K
        try simp only [Act.put, List.getElem_toArray, List.getElem_cons_zero, List.getElem_cons_succ, List.setIfInBounds_toArray, List.set_cons_zero, List.set_cons_succ]
        refine wpAnyH_ready (rs := [8]) (by kernel_rfl) (by simp) ?_
        clear hHeld
        refine AllReadyH.cons rfl (fun K hK => ?_) AllReadyH.nil
        go_simp
        (with_reducible refine Calls.mono (HSw.out _ _ _ _ _ (H9f.out.trans HF3.out) HC3.out HV3.out) ?_)
        rintro e wc4 ⟨rfl, hf⟩
        have HF4 := Lib.hid ((HF3.out).trans hf)
        have HA4 := Lib.hid (And.intro HA3.out.1 (HA3.out.2.keep hf trivial))
        clear hf
        go_wp2_with fail
        refine hK.out _ _ (HKT.out _ HF4.out) (fun hHeld => ?_)
        clear hK K
        try simp only [Act.put, List.getElem_toArray, List.getElem_cons_zero, List.getElem_cons_succ, List.setIfInBounds_toArray, List.set_cons_zero, List.set_cons_succ]
        refine wpAnyH_take (i := 9) (v := .tuple #[.agg #[.int .i64 wa, .int .i64 wb'], .int .i64 0]) rfl (by kernel_rfl) (by kernel_rfl) (by kernel_rfl) (fun _ _ _ h => h) (Or.inl ⟨by kernel_rfl, by intro w hSw; simp [go_sem, hSw]⟩) hHeld ?_
        simp only [Act.put, List.getElem_toArray, List.getElem_cons_zero, List.getElem_cons_succ, List.setIfInBounds_toArray, List.set_cons_zero, List.set_cons_succ]
        refine wpAnyH_take (i := 10) (v := .agg #[.int .i64 wa, .int .i64 wb']) rfl (by kernel_rfl) (by kernel_rfl) (by kernel_rfl) (fun _ _ _ h => h) (Or.inl ⟨by kernel_rfl, by intro w hSw; simp [go_sem, hSw]⟩) hHeld ?_
        simp only [Act.put, List.getElem_toArray, List.getElem_cons_zero, List.getElem_cons_succ, List.setIfInBounds_toArray, List.set_cons_zero, List.set_cons_succ]
        refine wpAnyH_take (i := 11) (v := .int .i64 0) rfl (by kernel_rfl) (by kernel_rfl) (by kernel_rfl) (fun _ _ _ h => h) (Or.inl ⟨by kernel_rfl, by intro w hSw; simp [go_sem, hSw]⟩) hHeld ?_
        simp only [Act.put, List.getElem_toArray, List.getElem_cons_zero, List.getElem_cons_succ, List.setIfInBounds_toArray, List.set_cons_zero, List.set_cons_succ]
        refine wpAnyH_ready (rs := [13]) (by kernel_rfl) (by simp) ?_
        clear hHeld
        refine AllReadyH.cons rfl (fun K hK => ?_) AllReadyH.nil
        rw [if_pos (by rfl)]
        refine wp_store_mid _ _ _ rfl ba 0 #[.int .i64 wa, .int .i64 wb'] rfl rfl (HA4.out.2.there) (by kernel_rfl) (ver_all _ _) ?_
        have hfs : Fresh w9 (World.setCells wc4 ba 0 [.int .i64 wa, .int .i64 wb']) := Keep.setCells _ _ _ HF4.out (fun h _ => absurd h (Nat.not_lt.2 HA4.out.1))
        refine hK.out _ _ (HKT.out _ hfs) (fun hHeld => ?_)
        clear hK K
        try simp only [Act.put, List.getElem_toArray, List.getElem_cons_zero, List.getElem_cons_succ, List.setIfInBounds_toArray, List.set_cons_zero, List.set_cons_succ]
        refine wpAnyH_take (i := 14) (v := .int .i64 0) rfl (by kernel_rfl) (by kernel_rfl) (by kernel_rfl) (fun _ _ _ h => h) (Or.inl ⟨by kernel_rfl, by intro w hSw; simp [go_sem, hSw]⟩) hHeld ?_
        simp only [Act.put, List.getElem_toArray, List.getElem_cons_zero, List.getElem_cons_succ, List.setIfInBounds_toArray, List.set_cons_zero, List.set_cons_succ]
        refine wpAnyH_done (by kernel_rfl) ?_ _
        clear hHeld
        go_wp2_with fail
        go_meet
        exact ⟨_, rfl, rfl, Lib.hid ⟨hfs, (HA4.out.2.set 0 (.int .i64 wa)).set 1 (.int .i64 wb'), HA4.out.1⟩⟩
    case rest =>
    rename World => w10
    obtain ⟨b11, rfl, rfl, hc10⟩ := hcut
    have hb4 := H9.out.2.2.1.keep hc10.out.1 trivial
    have a0 := hb4.cell 0; have a1 := hb4.cell 1; have la := hb4.lt
    have q0 := hc10.out.2.1.cell 0; have q1 := hc10.out.2.1.cell 1; have lq := hc10.out.2.1.lt
    simp at a0 a1 q0 q1
    have H10 := Lib.hid (H9.out.1.trans hc10.out.1)
    clear hb4 hc10
    go_wp2_with fail
    go_ret
    exact ⟨rfl, H10.out⟩
  · have hzn2 : (va != 0) = true := hzn
    have d3 : decide (vb < (k : Int)) = true := decide_eq_true hvk
    clear HCase hzn Q4 hvk
    go_upto_region 10 with (fail)
    clear a0 a1 u0 u1 la lu x0 lx
    go_cut [11, 10] (fun s11 s10 wz => ∃ b11 : Nat, s11 = .pointer (some ⟨b11, 0, none⟩) ∧ s10 = .int .i64 0 ∧ Hid (Fresh w9 wz ∧ Blk wz b11 29 #[.int .i64 wa, .int .i64 wb'] ∧ w9.heap.size ≤ b11))
    case first =>
      refine wp_region_held_drew (S := fun w' => w'.cell? ⟨bx, 0, none⟩ = some (.slice A n c) ∧ w'.cell? ⟨bx, 1, none⟩ = some (.slice A2 n2 c2)) (by kernel_rfl) (HKT.out _ (Keep.refl _ w9).drew) (fun hHeld => ?_)
      refine wpAnyH_take (i := 0) (v := .pointer (some ⟨bx, 0, none⟩)) rfl (by kernel_rfl) (by kernel_rfl) (by kernel_rfl) (fun _ _ _ h => h) (Or.inl ⟨by kernel_rfl, by intro w hSw; simp [go_sem, hSw]⟩) hHeld ?_
      simp only [Act.put, List.getElem_toArray, List.getElem_cons_zero, List.getElem_cons_succ, List.setIfInBounds_toArray, List.set_cons_zero, List.set_cons_succ]
      refine wpAnyH_take (i := 1) (v := .slice A n c) rfl (by kernel_rfl) (by kernel_rfl) (by kernel_rfl) (fun _ _ _ h => h) (Or.inl ⟨by kernel_rfl, by intro w hSw; simp [go_sem, hSw]⟩) hHeld ?_
      simp only [Act.put, List.getElem_toArray, List.getElem_cons_zero, List.getElem_cons_succ, List.setIfInBounds_toArray, List.set_cons_zero, List.set_cons_succ]
      refine wpAnyH_take (i := 2) (v := .int .i64 (k : Int)) rfl (by kernel_rfl) (by kernel_rfl) (by kernel_rfl) (fun _ _ _ h => h) (Or.inl ⟨by kernel_rfl, by intro w hSw; simp [go_sem, hSw]⟩) hHeld ?_
      simp only [Act.put, List.getElem_toArray, List.getElem_cons_zero, List.getElem_cons_succ, List.setIfInBounds_toArray, List.set_cons_zero, List.set_cons_succ]
      refine wpAnyH_take (i := 3) (v := .slice A k c) rfl (by kernel_rfl) (by kernel_rfl) (by kernel_rfl) (fun _ _ _ h => h) (Or.inl ⟨by kernel_rfl, by intro w hSw; go_simp⟩) hHeld ?_
      simp only [Act.put, List.getElem_toArray, List.getElem_cons_zero, List.getElem_cons_succ, List.setIfInBounds_toArray, List.set_cons_zero, List.set_cons_succ]
      refine wpAnyH_take (i := 5) (v := .pointer (some ⟨bx, 1, none⟩)) rfl (by kernel_rfl) (by kernel_rfl) (by kernel_rfl) (fun _ _ _ h => h) (Or.inl ⟨by kernel_rfl, by intro w hSw; simp [go_sem, hSw]⟩) hHeld ?_
      simp only [Act.put, List.getElem_toArray, List.getElem_cons_zero, List.getElem_cons_succ, List.setIfInBounds_toArray, List.set_cons_zero, List.set_cons_succ]
      refine wpAnyH_take (i := 6) (v := .slice A2 n2 c2) rfl (by kernel_rfl) (by kernel_rfl) (by kernel_rfl) (fun _ _ _ h => h) (Or.inl ⟨by kernel_rfl, by intro w hSw; simp [go_sem, hSw]⟩) hHeld ?_
      simp only [Act.put, List.getElem_toArray, List.getElem_cons_zero, List.getElem_cons_succ, List.setIfInBounds_toArray, List.set_cons_zero, List.set_cons_succ]
      refine wpAnyH_ready (rs := [4, 12]) (by kernel_rfl) (by simp) ?_
      clear hHeld
      refine AllReadyH.cons rfl (fun K hK => ?_) (AllReadyH.cons rfl (fun K hK => ?_) AllReadyH.nil)
      · go_simp
        (with_reducible refine Calls.mono (HCT.out w9.drew (H9f.out.trans ((Keep.refl (fun _ => True) w9).drew))) ?_)
        rintro e wc1 ⟨⟨v, ks, rfl, hc⟩, hf⟩
        have HF1 := Lib.hid ((((Keep.refl (fun _ => True) w9).drew)).trans hf)
        have HC1 := Lib.hid (CopsS.of hc HTk.out.1 HTk.out.2.1 HTk.out.2.2.1 HTk.out.2.2.2.1 HTk.out.2.2.2.2.1)
        clear hf hc
        go_wp2_with fail
        refine hK.out _ _ (HKT.out _ HF1.out) (fun hHeld => ?_)
        clear hK K
        try simp only [Act.put, List.getElem_toArray, List.getElem_cons_zero, List.getElem_cons_succ, List.setIfInBounds_toArray, List.set_cons_zero, List.set_cons_succ]
        refine wpAnyH_ready (rs := [7, 12]) (by kernel_rfl) (by simp) ?_
        clear hHeld
        refine AllReadyH.cons rfl (fun K hK => ?_) (AllReadyH.cons rfl (fun K hK => ?_) AllReadyH.nil)
        · refine step_app etInt rfl _ _ rfl wc1.heap.size (.slice none 0 0) 0 [] rfl (World.ownsRow_nil _ _ _ _) (fun _ => True) A2 n2 c2 (ics vs) rfl (HVo.out _ (H9f.out.trans HF1.out)) HNl.out (ics_one _) (by omega) (Nat.le_refl _) ?_
          intro v2 wc2 ho hk hn
          have hf : Fresh wc1 wc2 := hk.weaken fun _ _ _ => by simp [Value.ownBlock]
          try simp only [Nat.zero_add, List.nil_append] at ho
          have HF2 := Lib.hid ((HF1.out).trans hf)
          have HC2 := Lib.hid (HC1.out.fresh hf)
          have HV2 := Lib.hid ho
          clear hf ho hk hn
          refine hK.out _ _ (HKT.out _ HF2.out) (fun hHeld => ?_)
          clear hK K
          try simp only [Act.put, List.getElem_toArray, List.getElem_cons_zero, List.getElem_cons_succ, List.setIfInBounds_toArray, List.set_cons_zero, List.set_cons_succ]
          refine wpAnyH_ready (rs := [8, 12]) (by kernel_rfl) (by simp) ?_
          clear hHeld
          refine AllReadyH.cons rfl (fun K hK => ?_) (AllReadyH.cons rfl (fun K hK => ?_) AllReadyH.nil)
          · go_simp
            (with_reducible refine Calls.mono (HSw.out _ _ _ _ _ (H9f.out.trans HF2.out) HC2.out HV2.out) ?_)
            rintro e wc3 ⟨rfl, hf⟩
            have HF3 := Lib.hid ((HF2.out).trans hf)
            clear hf
            go_wp2_with fail
            refine hK.out _ _ (HKT.out _ HF3.out) (fun hHeld => ?_)
            clear hK K
            try simp only [Act.put, List.getElem_toArray, List.getElem_cons_zero, List.getElem_cons_succ, List.setIfInBounds_toArray, List.set_cons_zero, List.set_cons_succ]
            refine wpAnyH_take (i := 9) (v := .tuple #[.agg #[.int .i64 wa, .int .i64 wb'], .int .i64 0]) rfl (by kernel_rfl) (by kernel_rfl) (by kernel_rfl) (fun _ _ _ h => h) (Or.inl ⟨by kernel_rfl, by intro w hSw; simp [go_sem, hSw]⟩) hHeld ?_
            simp only [Act.put, List.getElem_toArray, List.getElem_cons_zero, List.getElem_cons_succ, List.setIfInBounds_toArray, List.set_cons_zero, List.set_cons_succ]
            refine wpAnyH_take (i := 10) (v := .agg #[.int .i64 wa, .int .i64 wb']) rfl (by kernel_rfl) (by kernel_rfl) (by kernel_rfl) (fun _ _ _ h => h) (Or.inl ⟨by kernel_rfl, by intro w hSw; simp [go_sem, hSw]⟩) hHeld ?_
            simp only [Act.put, List.getElem_toArray, List.getElem_cons_zero, List.getElem_cons_succ, List.setIfInBounds_toArray, List.set_cons_zero, List.set_cons_succ]
            refine wpAnyH_take (i := 11) (v := .int .i64 0) rfl (by kernel_rfl) (by kernel_rfl) (by kernel_rfl) (fun _ _ _ h => h) (Or.inl ⟨by kernel_rfl, by intro w hSw; simp [go_sem, hSw]⟩) hHeld ?_
            simp only [Act.put, List.getElem_toArray, List.getElem_cons_zero, List.getElem_cons_succ, List.setIfInBounds_toArray, List.set_cons_zero, List.set_cons_succ]
            refine wpAnyH_ready (rs := [12]) (by kernel_rfl) (by simp) ?_
            clear hHeld
            refine AllReadyH.cons rfl (fun K hK => ?_) AllReadyH.nil
            go_simp
            have HA := Lib.hid (And.intro (show w9.heap.size ≤ wc3.heap.size from (HF3.out).size) (Blk.new wc3 29 #[.int .i64 0, .int .i64 0]))
            refine hK.out _ _ (HKT.out _ ((HF3.out).alloc _)) (fun hHeld => ?_)
            clear hK K
            try simp only [Act.put, List.getElem_toArray, List.getElem_cons_zero, List.getElem_cons_succ, List.setIfInBounds_toArray, List.set_cons_zero, List.set_cons_succ]
            refine wpAnyH_ready (rs := [13]) (by kernel_rfl) (by simp) ?_
            clear hHeld
            refine AllReadyH.cons rfl (fun K hK => ?_) AllReadyH.nil
            rw [if_pos (by rfl)]
            refine wp_store_mid _ _ _ rfl wc3.heap.size 0 #[.int .i64 wa, .int .i64 wb'] rfl rfl (HA.out.2.there) (by kernel_rfl) (ver_all _ _) ?_
            have hfs : Fresh w9 (World.setCells (wc3.alloc (.cells #[.int .i64 0, .int .i64 0] 29)) wc3.heap.size 0 [.int .i64 wa, .int .i64 wb']) := Keep.setCells _ _ _ ((HF3.out).alloc _) (fun h _ => absurd h (Nat.not_lt.2 HA.out.1))
            refine hK.out _ _ (HKT.out _ hfs) (fun hHeld => ?_)
            clear hK K
            try simp only [Act.put, List.getElem_toArray, List.getElem_cons_zero, List.getElem_cons_succ, List.setIfInBounds_toArray, List.set_cons_zero, List.set_cons_succ]
            refine wpAnyH_take (i := 14) (v := .int .i64 0) rfl (by kernel_rfl) (by kernel_rfl) (by kernel_rfl) (fun _ _ _ h => h) (Or.inl ⟨by kernel_rfl, by intro w hSw; simp [go_sem, hSw]⟩) hHeld ?_
            simp only [Act.put, List.getElem_toArray, List.getElem_cons_zero, List.getElem_cons_succ, List.setIfInBounds_toArray, List.set_cons_zero, List.set_cons_succ]
            refine wpAnyH_done (by kernel_rfl) ?_ _
            clear hHeld
            go_wp2_with fail
            go_meet
            exact ⟨_, rfl, rfl, Lib.hid ⟨hfs, (HA.out.2.set 0 (.int .i64 wa)).set 1 (.int .i64 wb'), HA.out.1⟩⟩
          · go_simp
            have hfa3 : Fresh w9 (wc2.alloc (.cells #[.int .i64 0, .int .i64 0] 29)) := (HF2.out).alloc _
            have hbl3 := Blk.new wc2 29 #[.int .i64 0, .int .i64 0]
            have hlo3 : w9.heap.size ≤ wc2.heap.size := (HF2.out).size
            refine hK.out _ _ (HKT.out _ ((HF2.out).alloc _)) (fun hHeld => ?_)
            clear hK K
            obtain ⟨ba, hba⟩ : ∃ b, b = wc2.heap.size := ⟨_, rfl⟩
            obtain ⟨wa3, hwa⟩ : ∃ w', w' = wc2.alloc (.cells #[.int .i64 0, .int .i64 0] 29) := ⟨_, rfl⟩
            have hfw : Fresh w9 wa3 := by rw [hwa]; exact (HF2.out).alloc _
            have hbw : Blk wa3 ba 29 #[.int .i64 0, .int .i64 0] := by rw [hwa, hba]; exact Blk.new _ _ _
            have hlw : w9.heap.size ≤ ba := by have := (HF2.out).size; omega
            have HC3 := Lib.hid (HC2.out.fresh (show Fresh wc2 wa3 by rw [hwa]; exact (Keep.refl _ wc2).alloc _))
            have HV3 := Lib.hid (own_keep HV2.out (show Fresh wc2 wa3 by rw [hwa]; exact (Keep.refl _ wc2).alloc _) (fun _ _ => trivial))
            rw [← hwa, ← hba]
            have HF3 := Lib.hid hfw
            have HA3 := Lib.hid (And.intro hlw hbw)
            clear hwa hba hfw hbw hlw hfa3 hbl3 hlo3
            try simp only [Act.put, List.getElem_toArray, List.getElem_cons_zero, List.getElem_cons_succ, List.setIfInBounds_toArray, List.set_cons_zero, List.set_cons_succ]
            refine wpAnyH_ready (rs := [8]) (by kernel_rfl) (by simp) ?_
            clear hHeld
            refine AllReadyH.cons rfl (fun K hK => ?_) AllReadyH.nil
            go_simp
            (with_reducible refine Calls.mono (HSw.out _ _ _ _ _ (H9f.out.trans HF3.out) HC3.out HV3.out) ?_)
            rintro e wc4 ⟨rfl, hf⟩
            have HF4 := Lib.hid ((HF3.out).trans hf)
            have HA4 := Lib.hid (And.intro HA3.out.1 (HA3.out.2.keep hf trivial))
            clear hf
            go_wp2_with fail
            refine hK.out _ _ (HKT.out _ HF4.out) (fun hHeld => ?_)
            clear hK K
            try simp only [Act.put, List.getElem_toArray, List.getElem_cons_zero, List.getElem_cons_succ, List.setIfInBounds_toArray, List.set_cons_zero, List.set_cons_succ]
            refine wpAnyH_take (i := 9) (v := .tuple #[.agg #[.int .i64 wa, .int .i64 wb'], .int .i64 0]) rfl (by kernel_rfl) (by kernel_rfl) (by kernel_rfl) (fun _ _ _ h => h) (Or.inl ⟨by kernel_rfl, by intro w hSw; simp [go_sem, hSw]⟩) hHeld ?_
            simp only [Act.put, List.getElem_toArray, List.getElem_cons_zero, List.getElem_cons_succ, List.setIfInBounds_toArray, List.set_cons_zero, List.set_cons_succ]
            refine wpAnyH_take (i := 10) (v := .agg #[.int .i64 wa, .int .i64 wb']) rfl (by kernel_rfl) (by kernel_rfl) (by kernel_rfl) (fun _ _ _ h => h) (Or.inl ⟨by kernel_rfl, by intro w hSw; simp [go_sem, hSw]⟩) hHeld ?_
            simp only [Act.put, List.getElem_toArray, List.getElem_cons_zero, List.getElem_cons_succ, List.setIfInBounds_toArray, List.set_cons_zero, List.set_cons_succ]
            refine wpAnyH_take (i := 11) (v := .int .i64 0) rfl (by kernel_rfl) (by kernel_rfl) (by kernel_rfl) (fun _ _ _ h => h) (Or.inl ⟨by kernel_rfl, by intro w hSw; simp [go_sem, hSw]⟩) hHeld ?_
            simp only [Act.put, List.getElem_toArray, List.getElem_cons_zero, List.getElem_cons_succ, List.setIfInBounds_toArray, List.set_cons_zero, List.set_cons_succ]
            refine wpAnyH_ready (rs := [13]) (by kernel_rfl) (by simp) ?_
            clear hHeld
            refine AllReadyH.cons rfl (fun K hK => ?_) AllReadyH.nil
            rw [if_pos (by rfl)]
            refine wp_store_mid _ _ _ rfl ba 0 #[.int .i64 wa, .int .i64 wb'] rfl rfl (HA4.out.2.there) (by kernel_rfl) (ver_all _ _) ?_
            have hfs : Fresh w9 (World.setCells wc4 ba 0 [.int .i64 wa, .int .i64 wb']) := Keep.setCells _ _ _ HF4.out (fun h _ => absurd h (Nat.not_lt.2 HA4.out.1))
            refine hK.out _ _ (HKT.out _ hfs) (fun hHeld => ?_)
            clear hK K
            try simp only [Act.put, List.getElem_toArray, List.getElem_cons_zero, List.getElem_cons_succ, List.setIfInBounds_toArray, List.set_cons_zero, List.set_cons_succ]
            refine wpAnyH_take (i := 14) (v := .int .i64 0) rfl (by kernel_rfl) (by kernel_rfl) (by kernel_rfl) (fun _ _ _ h => h) (Or.inl ⟨by kernel_rfl, by intro w hSw; simp [go_sem, hSw]⟩) hHeld ?_
            simp only [Act.put, List.getElem_toArray, List.getElem_cons_zero, List.getElem_cons_succ, List.setIfInBounds_toArray, List.set_cons_zero, List.set_cons_succ]
            refine wpAnyH_done (by kernel_rfl) ?_ _
            clear hHeld
            go_wp2_with fail
            go_meet
            exact ⟨_, rfl, rfl, Lib.hid ⟨hfs, (HA4.out.2.set 0 (.int .i64 wa)).set 1 (.int .i64 wb'), HA4.out.1⟩⟩
        · go_simp
          have hfa2 : Fresh w9 (wc1.alloc (.cells #[.int .i64 0, .int .i64 0] 29)) := (HF1.out).alloc _
          have hbl2 := Blk.new wc1 29 #[.int .i64 0, .int .i64 0]
          have hlo2 : w9.heap.size ≤ wc1.heap.size := (HF1.out).size
          refine hK.out _ _ (HKT.out _ ((HF1.out).alloc _)) (fun hHeld => ?_)
          clear hK K
          obtain ⟨ba, hba⟩ : ∃ b, b = wc1.heap.size := ⟨_, rfl⟩
          obtain ⟨wa2, hwa⟩ : ∃ w', w' = wc1.alloc (.cells #[.int .i64 0, .int .i64 0] 29) := ⟨_, rfl⟩
          have hfw : Fresh w9 wa2 := by rw [hwa]; exact (HF1.out).alloc _
          have hbw : Blk wa2 ba 29 #[.int .i64 0, .int .i64 0] := by rw [hwa, hba]; exact Blk.new _ _ _
          have hlw : w9.heap.size ≤ ba := by have := (HF1.out).size; omega
          have HC2 := Lib.hid (HC1.out.fresh (show Fresh wc1 wa2 by rw [hwa]; exact (Keep.refl _ wc1).alloc _))
          rw [← hwa, ← hba]
          have HF2 := Lib.hid hfw
          have HA2 := Lib.hid (And.intro hlw hbw)
          clear hwa hba hfw hbw hlw hfa2 hbl2 hlo2
          try simp only [Act.put, List.getElem_toArray, List.getElem_cons_zero, List.getElem_cons_succ, List.setIfInBounds_toArray, List.set_cons_zero, List.set_cons_succ]
          refine wpAnyH_ready (rs := [7]) (by kernel_rfl) (by simp) ?_
          clear hHeld
          refine AllReadyH.cons rfl (fun K hK => ?_) AllReadyH.nil
          refine step_app etInt rfl _ _ rfl wa2.heap.size (.slice none 0 0) 0 [] rfl (World.ownsRow_nil _ _ _ _) (fun _ => True) A2 n2 c2 (ics vs) rfl (HVo.out _ (H9f.out.trans HF2.out)) HNl.out (ics_one _) (by omega) (Nat.le_refl _) ?_
          intro v2 wc3 ho hk hn
          have hf : Fresh wa2 wc3 := hk.weaken fun _ _ _ => by simp [Value.ownBlock]
          try simp only [Nat.zero_add, List.nil_append] at ho
          have HF3 := Lib.hid ((HF2.out).trans hf)
          have HA3 := Lib.hid (And.intro HA2.out.1 (HA2.out.2.keep hf trivial))
          have HC3 := Lib.hid (HC2.out.fresh hf)
          have HV3 := Lib.hid ho
          clear hf ho hk hn
          refine hK.out _ _ (HKT.out _ HF3.out) (fun hHeld => ?_)
          clear hK K
          try simp only [Act.put, List.getElem_toArray, List.getElem_cons_zero, List.getElem_cons_succ, List.setIfInBounds_toArray, List.set_cons_zero, List.set_cons_succ]
          refine wpAnyH_ready (rs := [8]) (by kernel_rfl) (by simp) ?_
          clear hHeld
          refine AllReadyH.cons rfl (fun K hK => ?_) AllReadyH.nil
          go_simp
          (with_reducible refine Calls.mono (HSw.out _ _ _ _ _ (H9f.out.trans HF3.out) HC3.out HV3.out) ?_)
          rintro e wc4 ⟨rfl, hf⟩
          have HF4 := Lib.hid ((HF3.out).trans hf)
          have HA4 := Lib.hid (And.intro HA3.out.1 (HA3.out.2.keep hf trivial))
          clear hf
          go_wp2_with fail
          refine hK.out _ _ (HKT.out _ HF4.out) (fun hHeld => ?_)
          clear hK K
          try simp only [Act.put, List.getElem_toArray, List.getElem_cons_zero, List.getElem_cons_succ, List.setIfInBounds_toArray, List.set_cons_zero, List.set_cons_succ]
          refine wpAnyH_take (i := 9) (v := .tuple #[.agg #[.int .i64 wa, .int .i64 wb'], .int .i64 0]) rfl (by kernel_rfl) (by kernel_rfl) (by kernel_rfl) (fun _ _ _ h => h) (Or.inl ⟨by kernel_rfl, by intro w hSw; simp [go_sem, hSw]⟩) hHeld ?_
          simp only [Act.put, List.getElem_toArray, List.getElem_cons_zero, List.getElem_cons_succ, List.setIfInBounds_toArray, List.set_cons_zero, List.set_cons_succ]
          refine wpAnyH_take (i := 10) (v := .agg #[.int .i64 wa, .int .i64 wb']) rfl (by kernel_rfl) (by kernel_rfl) (by kernel_rfl) (fun _ _ _ h => h) (Or.inl ⟨by kernel_rfl, by intro w hSw; simp [go_sem, hSw]⟩) hHeld ?_
          simp only [Act.put, List.getElem_toArray, List.getElem_cons_zero, List.getElem_cons_succ, List.setIfInBounds_toArray, List.set_cons_zero, List.set_cons_succ]
          refine wpAnyH_take (i := 11) (v := .int .i64 0) rfl (by kernel_rfl) (by kernel_rfl) (by kernel_rfl) (fun _ _ _ h => h) (Or.inl ⟨by kernel_rfl, by intro w hSw; simp [go_sem, hSw]⟩) hHeld ?_
          simp only [Act.put, List.getElem_toArray, List.getElem_cons_zero, List.getElem_cons_succ, List.setIfInBounds_toArray, List.set_cons_zero, List.set_cons_succ]
          refine wpAnyH_ready (rs := [13]) (by kernel_rfl) (by simp) ?_
          clear hHeld
          refine AllReadyH.cons rfl (fun K hK => ?_) AllReadyH.nil
          rw [if_pos (by rfl)]
          refine wp_store_mid _ _ _ rfl ba 0 #[.int .i64 wa, .int .i64 wb'] rfl rfl (HA4.out.2.there) (by kernel_rfl) (ver_all _ _) ?_
          have hfs : Fresh w9 (World.setCells wc4 ba 0 [.int .i64 wa, .int .i64 wb']) := Keep.setCells _ _ _ HF4.out (fun h _ => absurd h (Nat.not_lt.2 HA4.out.1))
          refine hK.out _ _ (HKT.out _ hfs) (fun hHeld => ?_)
          clear hK K
          try simp only [Act.put, List.getElem_toArray, List.getElem_cons_zero, List.getElem_cons_succ, List.setIfInBounds_toArray, List.set_cons_zero, List.set_cons_succ]
          refine wpAnyH_take (i := 14) (v := .int .i64 0) rfl (by kernel_rfl) (by kernel_rfl) (by kernel_rfl) (fun _ _ _ h => h) (Or.inl ⟨by kernel_rfl, by intro w hSw; simp [go_sem, hSw]⟩) hHeld ?_
          simp only [Act.put, List.getElem_toArray, List.getElem_cons_zero, List.getElem_cons_succ, List.setIfInBounds_toArray, List.set_cons_zero, List.set_cons_succ]
          refine wpAnyH_done (by kernel_rfl) ?_ _
          clear hHeld
          go_wp2_with fail
          go_meet
          exact ⟨_, rfl, rfl, Lib.hid ⟨hfs, (HA4.out.2.set 0 (.int .i64 wa)).set 1 (.int .i64 wb'), HA4.out.1⟩⟩
      · go_simp
        have hfa1 : Fresh w9 (w9.drew.alloc (.cells #[.int .i64 0, .int .i64 0] 29)) := (((Keep.refl (fun _ => True) w9).drew)).alloc _
        have hbl1 := Blk.new w9.drew 29 #[.int .i64 0, .int .i64 0]
        have hlo1 : w9.heap.size ≤ w9.drew.heap.size := (((Keep.refl (fun _ => True) w9).drew)).size
        refine hK.out _ _ (HKT.out _ ((Keep.refl _ w9).alloc _).drew) (fun hHeld => ?_)
        clear hK K
        obtain ⟨ba, hba⟩ : ∃ b, b = w9.heap.size := ⟨_, rfl⟩
        obtain ⟨wa1, hwa⟩ : ∃ w, w = (w9.alloc (.cells #[.int .i64 0, .int .i64 0] 29)).drew := ⟨_, rfl⟩
        have hfw : Fresh w9 wa1 := by rw [hwa]; exact ((Keep.refl _ w9).alloc _).drew
        have hbw : Blk wa1 ba 29 #[.int .i64 0, .int .i64 0] := by rw [hwa, hba]; exact (Blk.new _ _ _).drew
        have hlw : w9.heap.size ≤ ba := by omega
        rw [← hwa, ← hba]
        have HF1 := Lib.hid hfw
        have HA1 := Lib.hid (And.intro hlw hbw)
        clear hwa hba hfw hbw hlw hfa1 hbl1 hlo1
        try simp only [Act.put, List.getElem_toArray, List.getElem_cons_zero, List.getElem_cons_succ, List.setIfInBounds_toArray, List.set_cons_zero, List.set_cons_succ]
        refine wpAnyH_ready (rs := [4]) (by kernel_rfl) (by simp) ?_
        clear hHeld
        refine AllReadyH.cons rfl (fun K hK => ?_) AllReadyH.nil
        go_simp
        (with_reducible refine Calls.mono (HCT.out wa1 (H9f.out.trans HF1.out)) ?_)
        rintro e wc2 ⟨⟨v, ks, rfl, hc⟩, hf⟩
        have HF2 := Lib.hid ((HF1.out).trans hf)
        have HA2 := Lib.hid (And.intro HA1.out.1 (HA1.out.2.keep hf trivial))
        have HC2 := Lib.hid (CopsS.of hc HTk.out.1 HTk.out.2.1 HTk.out.2.2.1 HTk.out.2.2.2.1 HTk.out.2.2.2.2.1)
        clear hf hc
        go_wp2_with fail
        refine hK.out _ _ (HKT.out _ HF2.out) (fun hHeld => ?_)
        clear hK K
        try simp only [Act.put, List.getElem_toArray, List.getElem_cons_zero, List.getElem_cons_succ, List.setIfInBounds_toArray, List.set_cons_zero, List.set_cons_succ]
        refine wpAnyH_ready (rs := [7]) (by kernel_rfl) (by simp) ?_
        clear hHeld
        refine AllReadyH.cons rfl (fun K hK => ?_) AllReadyH.nil
        refine step_app etInt rfl _ _ rfl wc2.heap.size (.slice none 0 0) 0 [] rfl (World.ownsRow_nil _ _ _ _) (fun _ => True) A2 n2 c2 (ics vs) rfl (HVo.out _ (H9f.out.trans HF2.out)) HNl.out (ics_one _) (by omega) (Nat.le_refl _) ?_
        intro v2 wc3 ho hk hn
        have hf : Fresh wc2 wc3 := hk.weaken fun _ _ _ => by simp [Value.ownBlock]
        try simp only [Nat.zero_add, List.nil_append] at ho
        have HF3 := Lib.hid ((HF2.out).trans hf)
        have HA3 := Lib.hid (And.intro HA2.out.1 (HA2.out.2.keep hf trivial))
        have HC3 := Lib.hid (HC2.out.fresh hf)
        have HV3 := Lib.hid ho
        clear hf ho hk hn
        refine hK.out _ _ (HKT.out _ HF3.out) (fun hHeld => ?_)
        clear hK K
        try simp only [Act.put, List.getElem_toArray, List.getElem_cons_zero, List.getElem_cons_succ, List.setIfInBounds_toArray, List.set_cons_zero, List.set_cons_succ]
        refine wpAnyH_ready (rs := [8]) (by kernel_rfl) (by simp) ?_
        clear hHeld
        refine AllReadyH.cons rfl (fun K hK => ?_) AllReadyH.nil
        go_simp
        (with_reducible refine Calls.mono (HSw.out _ _ _ _ _ (H9f.out.trans HF3.out) HC3.out HV3.out) ?_)
        rintro e wc4 ⟨rfl, hf⟩
        have HF4 := Lib.hid ((HF3.out).trans hf)
        have HA4 := Lib.hid (And.intro HA3.out.1 (HA3.out.2.keep hf trivial))
        clear hf
        go_wp2_with fail
        refine hK.out _ _ (HKT.out _ HF4.out) (fun hHeld => ?_)
        clear hK K
        try simp only [Act.put, List.getElem_toArray, List.getElem_cons_zero, List.getElem_cons_succ, List.setIfInBounds_toArray, List.set_cons_zero, List.set_cons_succ]
        refine wpAnyH_take (i := 9) (v := .tuple #[.agg #[.int .i64 wa, .int .i64 wb'], .int .i64 0]) rfl (by kernel_rfl) (by kernel_rfl) (by kernel_rfl) (fun _ _ _ h => h) (Or.inl ⟨by kernel_rfl, by intro w hSw; simp [go_sem, hSw]⟩) hHeld ?_
        simp only [Act.put, List.getElem_toArray, List.getElem_cons_zero, List.getElem_cons_succ, List.setIfInBounds_toArray, List.set_cons_zero, List.set_cons_succ]
        refine wpAnyH_take (i := 10) (v := .agg #[.int .i64 wa, .int .i64 wb']) rfl (by kernel_rfl) (by kernel_rfl) (by kernel_rfl) (fun _ _ _ h => h) (Or.inl ⟨by kernel_rfl, by intro w hSw; simp [go_sem, hSw]⟩) hHeld ?_
        simp only [Act.put, List.getElem_toArray, List.getElem_cons_zero, List.getElem_cons_succ, List.setIfInBounds_toArray, List.set_cons_zero, List.set_cons_succ]
        refine wpAnyH_take (i := 11) (v := .int .i64 0) rfl (by kernel_rfl) (by kernel_rfl) (by kernel_rfl) (fun _ _ _ h => h) (Or.inl ⟨by kernel_rfl, by intro w hSw; simp [go_sem, hSw]⟩) hHeld ?_
        simp only [Act.put, List.getElem_toArray, List.getElem_cons_zero, List.getElem_cons_succ, List.setIfInBounds_toArray, List.set_cons_zero, List.set_cons_succ]
        refine wpAnyH_ready (rs := [13]) (by kernel_rfl) (by simp) ?_
        clear hHeld
        refine AllReadyH.cons rfl (fun K hK => ?_) AllReadyH.nil
        rw [if_pos (by rfl)]
        refine wp_store_mid _ _ _ rfl ba 0 #[.int .i64 wa, .int .i64 wb'] rfl rfl (HA4.out.2.there) (by kernel_rfl) (ver_all _ _) ?_
        have hfs : Fresh w9 (World.setCells wc4 ba 0 [.int .i64 wa, .int .i64 wb']) := Keep.setCells _ _ _ HF4.out (fun h _ => absurd h (Nat.not_lt.2 HA4.out.1))
        refine hK.out _ _ (HKT.out _ hfs) (fun hHeld => ?_)
        clear hK K
        try simp only [Act.put, List.getElem_toArray, List.getElem_cons_zero, List.getElem_cons_succ, List.setIfInBounds_toArray, List.set_cons_zero, List.set_cons_succ]
        refine wpAnyH_take (i := 14) (v := .int .i64 0) rfl (by kernel_rfl) (by kernel_rfl) (by kernel_rfl) (fun _ _ _ h => h) (Or.inl ⟨by kernel_rfl, by intro w hSw; simp [go_sem, hSw]⟩) hHeld ?_
        simp only [Act.put, List.getElem_toArray, List.getElem_cons_zero, List.getElem_cons_succ, List.setIfInBounds_toArray, List.set_cons_zero, List.set_cons_succ]
        refine wpAnyH_done (by kernel_rfl) ?_ _
        clear hHeld
        go_wp2_with fail
        go_meet
        exact ⟨_, rfl, rfl, Lib.hid ⟨hfs, (HA4.out.2.set 0 (.int .i64 wa)).set 1 (.int .i64 wb'), HA4.out.1⟩⟩
    case rest =>
    rename World => w10
    obtain ⟨b11, rfl, rfl, hc10⟩ := hcut
    have hb4 := H9.out.2.2.1.keep hc10.out.1 trivial
    have a0 := hb4.cell 0; have a1 := hb4.cell 1; have la := hb4.lt
    have q0 := hc10.out.2.1.cell 0; have q1 := hc10.out.2.1.cell 1; have lq := hc10.out.2.1.lt
    simp at a0 a1 q0 q1
    have H10 := Lib.hid (H9.out.1.trans hc10.out.1)
    clear hb4 hc10
    go_wp2_with fail
    go_ret
    exact ⟨rfl, H10.out⟩
  · have hzn2 : (va != 0) = true := hzn
    have d3 : decide (vb < (k : Int)) = false := decide_eq_false hvk
    clear HCase hzn Q3 hvk
    go_upto_region 10 with (fail)
    clear a0 a1 u0 u1 la lu x0 lx
    go_cut [11, 10] (fun s11 s10 wz => ∃ b11 : Nat, s11 = .pointer (some ⟨b11, 0, none⟩) ∧ s10 = .int .i64 0 ∧ Hid (Fresh w9 wz ∧ Blk wz b11 29 #[.int .i64 wa, .int .i64 wb'] ∧ w9.heap.size ≤ b11))
    case first =>
      refine wp_region_held_drew (S := fun w' => w'.cell? ⟨bx, 0, none⟩ = some (.slice A n c) ∧ w'.cell? ⟨bx, 1, none⟩ = some (.slice A2 n2 c2)) (by kernel_rfl) (HKT.out _ (Keep.refl _ w9).drew) (fun hHeld => ?_)
      refine wpAnyH_take (i := 0) (v := .pointer (some ⟨bx, 0, none⟩)) rfl (by kernel_rfl) (by kernel_rfl) (by kernel_rfl) (fun _ _ _ h => h) (Or.inl ⟨by kernel_rfl, by intro w hSw; simp [go_sem, hSw]⟩) hHeld ?_
      simp only [Act.put, List.getElem_toArray, List.getElem_cons_zero, List.getElem_cons_succ, List.setIfInBounds_toArray, List.set_cons_zero, List.set_cons_succ]
      refine wpAnyH_take (i := 1) (v := .slice A n c) rfl (by kernel_rfl) (by kernel_rfl) (by kernel_rfl) (fun _ _ _ h => h) (Or.inl ⟨by kernel_rfl, by intro w hSw; simp [go_sem, hSw]⟩) hHeld ?_
      simp only [Act.put, List.getElem_toArray, List.getElem_cons_zero, List.getElem_cons_succ, List.setIfInBounds_toArray, List.set_cons_zero, List.set_cons_succ]
      refine wpAnyH_take (i := 2) (v := .int .i64 (k : Int)) rfl (by kernel_rfl) (by kernel_rfl) (by kernel_rfl) (fun _ _ _ h => h) (Or.inl ⟨by kernel_rfl, by intro w hSw; simp [go_sem, hSw]⟩) hHeld ?_
      simp only [Act.put, List.getElem_toArray, List.getElem_cons_zero, List.getElem_cons_succ, List.setIfInBounds_toArray, List.set_cons_zero, List.set_cons_succ]
      refine wpAnyH_take (i := 3) (v := .slice A k c) rfl (by kernel_rfl) (by kernel_rfl) (by kernel_rfl) (fun _ _ _ h => h) (Or.inl ⟨by kernel_rfl, by intro w hSw; go_simp⟩) hHeld ?_
      simp only [Act.put, List.getElem_toArray, List.getElem_cons_zero, List.getElem_cons_succ, List.setIfInBounds_toArray, List.set_cons_zero, List.set_cons_succ]
      refine wpAnyH_take (i := 5) (v := .pointer (some ⟨bx, 1, none⟩)) rfl (by kernel_rfl) (by kernel_rfl) (by kernel_rfl) (fun _ _ _ h => h) (Or.inl ⟨by kernel_rfl, by intro w hSw; simp [go_sem, hSw]⟩) hHeld ?_
      simp only [Act.put, List.getElem_toArray, List.getElem_cons_zero, List.getElem_cons_succ, List.setIfInBounds_toArray, List.set_cons_zero, List.set_cons_succ]
      refine wpAnyH_take (i := 6) (v := .slice A2 n2 c2) rfl (by kernel_rfl) (by kernel_rfl) (by kernel_rfl) (fun _ _ _ h => h) (Or.inl ⟨by kernel_rfl, by intro w hSw; simp [go_sem, hSw]⟩) hHeld ?_
      simp only [Act.put, List.getElem_toArray, List.getElem_cons_zero, List.getElem_cons_succ, List.setIfInBounds_toArray, List.set_cons_zero, List.set_cons_succ]
      refine wpAnyH_ready (rs := [4, 12]) (by kernel_rfl) (by simp) ?_
      clear hHeld
      refine AllReadyH.cons rfl (fun K hK => ?_) (AllReadyH.cons rfl (fun K hK => ?_) AllReadyH.nil)
      · go_simp
        (with_reducible refine Calls.mono (HCT.out w9.drew (H9f.out.trans ((Keep.refl (fun _ => True) w9).drew))) ?_)
        rintro e wc1 ⟨⟨v, ks, rfl, hc⟩, hf⟩
        have HF1 := Lib.hid ((((Keep.refl (fun _ => True) w9).drew)).trans hf)
        have HC1 := Lib.hid (CopsS.of hc HTk.out.1 HTk.out.2.1 HTk.out.2.2.1 HTk.out.2.2.2.1 HTk.out.2.2.2.2.1)
        clear hf hc
        go_wp2_with fail
        refine hK.out _ _ (HKT.out _ HF1.out) (fun hHeld => ?_)
        clear hK K
        try simp only [Act.put, List.getElem_toArray, List.getElem_cons_zero, List.getElem_cons_succ, List.setIfInBounds_toArray, List.set_cons_zero, List.set_cons_succ]
        refine wpAnyH_ready (rs := [7, 12]) (by kernel_rfl) (by simp) ?_
        clear hHeld
        refine AllReadyH.cons rfl (fun K hK => ?_) (AllReadyH.cons rfl (fun K hK => ?_) AllReadyH.nil)
        · refine step_app etInt rfl _ _ rfl wc1.heap.size (.slice none 0 0) 0 [] rfl (World.ownsRow_nil _ _ _ _) (fun _ => True) A2 n2 c2 (ics vs) rfl (HVo.out _ (H9f.out.trans HF1.out)) HNl.out (ics_one _) (by omega) (Nat.le_refl _) ?_
          intro v2 wc2 ho hk hn
          have hf : Fresh wc1 wc2 := hk.weaken fun _ _ _ => by simp [Value.ownBlock]
          try simp only [Nat.zero_add, List.nil_append] at ho
          have HF2 := Lib.hid ((HF1.out).trans hf)
          have HC2 := Lib.hid (HC1.out.fresh hf)
          have HV2 := Lib.hid ho
          clear hf ho hk hn
          refine hK.out _ _ (HKT.out _ HF2.out) (fun hHeld => ?_)
          clear hK K
          try simp only [Act.put, List.getElem_toArray, List.getElem_cons_zero, List.getElem_cons_succ, List.setIfInBounds_toArray, List.set_cons_zero, List.set_cons_succ]
          refine wpAnyH_ready (rs := [8, 12]) (by kernel_rfl) (by simp) ?_
          clear hHeld
          refine AllReadyH.cons rfl (fun K hK => ?_) (AllReadyH.cons rfl (fun K hK => ?_) AllReadyH.nil)
          · go_simp
            (with_reducible refine Calls.mono (HSw.out _ _ _ _ _ (H9f.out.trans HF2.out) HC2.out HV2.out) ?_)
            rintro e wc3 ⟨rfl, hf⟩
            have HF3 := Lib.hid ((HF2.out).trans hf)
            clear hf
            go_wp2_with fail
            refine hK.out _ _ (HKT.out _ HF3.out) (fun hHeld => ?_)
            clear hK K
            try simp only [Act.put, List.getElem_toArray, List.getElem_cons_zero, List.getElem_cons_succ, List.setIfInBounds_toArray, List.set_cons_zero, List.set_cons_succ]
            refine wpAnyH_take (i := 9) (v := .tuple #[.agg #[.int .i64 wa, .int .i64 wb'], .int .i64 0]) rfl (by kernel_rfl) (by kernel_rfl) (by kernel_rfl) (fun _ _ _ h => h) (Or.inl ⟨by kernel_rfl, by intro w hSw; simp [go_sem, hSw]⟩) hHeld ?_
            simp only [Act.put, List.getElem_toArray, List.getElem_cons_zero, List.getElem_cons_succ, List.setIfInBounds_toArray, List.set_cons_zero, List.set_cons_succ]
            refine wpAnyH_take (i := 10) (v := .agg #[.int .i64 wa, .int .i64 wb']) rfl (by kernel_rfl) (by kernel_rfl) (by kernel_rfl) (fun _ _ _ h => h) (Or.inl ⟨by kernel_rfl, by intro w hSw; simp [go_sem, hSw]⟩) hHeld ?_
            simp only [Act.put, List.getElem_toArray, List.getElem_cons_zero, List.getElem_cons_succ, List.setIfInBounds_toArray, List.set_cons_zero, List.set_cons_succ]
            refine wpAnyH_take (i := 11) (v := .int .i64 0) rfl (by kernel_rfl) (by kernel_rfl) (by kernel_rfl) (fun _ _ _ h => h) (Or.inl ⟨by kernel_rfl, by intro w hSw; simp [go_sem, hSw]⟩) hHeld ?_
            simp only [Act.put, List.getElem_toArray, List.getElem_cons_zero, List.getElem_cons_succ, List.setIfInBounds_toArray, List.set_cons_zero, List.set_cons_succ]
            refine wpAnyH_ready (rs := [12]) (by kernel_rfl) (by simp) ?_
            clear hHeld
            refine AllReadyH.cons rfl (fun K hK => ?_) AllReadyH.nil
            go_simp
            have HA := Lib.hid (And.intro (show w9.heap.size ≤ wc3.heap.size from (HF3.out).size) (Blk.new wc3 29 #[.int .i64 0, .int .i64 0]))
            refine hK.out _ _ (HKT.out _ ((HF3.out).alloc _)) (fun hHeld => ?_)
            clear hK K
            try simp only [Act.put, List.getElem_toArray, List.getElem_cons_zero, List.getElem_cons_succ, List.setIfInBounds_toArray, List.set_cons_zero, List.set_cons_succ]
            refine wpAnyH_ready (rs := [13]) (by kernel_rfl) (by simp) ?_
            clear hHeld
            refine AllReadyH.cons rfl (fun K hK => ?_) AllReadyH.nil
            rw [if_pos (by rfl)]
            refine wp_store_mid _ _ _ rfl wc3.heap.size 0 #[.int .i64 wa, .int .i64 wb'] rfl rfl (HA.out.2.there) (by kernel_rfl) (ver_all _ _) ?_
            have hfs : Fresh w9 (World.setCells (wc3.alloc (.cells #[.int .i64 0, .int .i64 0] 29)) wc3.heap.size 0 [.int .i64 wa, .int .i64 wb']) := Keep.setCells _ _ _ ((HF3.out).alloc _) (fun h _ => absurd h (Nat.not_lt.2 HA.out.1))
            refine hK.out _ _ (HKT.out _ hfs) (fun hHeld => ?_)
            clear hK K
            try simp only [Act.put, List.getElem_toArray, List.getElem_cons_zero, List.getElem_cons_succ, List.setIfInBounds_toArray, List.set_cons_zero, List.set_cons_succ]
            refine wpAnyH_take (i := 14) (v := .int .i64 0) rfl (by kernel_rfl) (by kernel_rfl) (by kernel_rfl) (fun _ _ _ h => h) (Or.inl ⟨by kernel_rfl, by intro w hSw; simp [go_sem, hSw]⟩) hHeld ?_
            simp only [Act.put, List.getElem_toArray, List.getElem_cons_zero, List.getElem_cons_succ, List.setIfInBounds_toArray, List.set_cons_zero, List.set_cons_succ]
            refine wpAnyH_done (by kernel_rfl) ?_ _
            clear hHeld
            go_wp2_with fail
            go_meet
            exact ⟨_, rfl, rfl, Lib.hid ⟨hfs, (HA.out.2.set 0 (.int .i64 wa)).set 1 (.int .i64 wb'), HA.out.1⟩⟩
          · go_simp
            have hfa3 : Fresh w9 (wc2.alloc (.cells #[.int .i64 0, .int .i64 0] 29)) := (HF2.out).alloc _
            have hbl3 := Blk.new wc2 29 #[.int .i64 0, .int .i64 0]
            have hlo3 : w9.heap.size ≤ wc2.heap.size := (HF2.out).size
            refine hK.out _ _ (HKT.out _ ((HF2.out).alloc _)) (fun hHeld => ?_)
            clear hK K
            obtain ⟨ba, hba⟩ : ∃ b, b = wc2.heap.size := ⟨_, rfl⟩
            obtain ⟨wa3, hwa⟩ : ∃ w', w' = wc2.alloc (.cells #[.int .i64 0, .int .i64 0] 29) := ⟨_, rfl⟩
            have hfw : Fresh w9 wa3 := by rw [hwa]; exact (HF2.out).alloc _
            have hbw : Blk wa3 ba 29 #[.int .i64 0, .int .i64 0] := by rw [hwa, hba]; exact Blk.new _ _ _
            have hlw : w9.heap.size ≤ ba := by have := (HF2.out).size; omega
            have HC3 := Lib.hid (HC2.out.fresh (show Fresh wc2 wa3 by rw [hwa]; exact (Keep.refl _ wc2).alloc _))
            have HV3 := Lib.hid (own_keep HV2.out (show Fresh wc2 wa3 by rw [hwa]; exact (Keep.refl _ wc2).alloc _) (fun _ _ => trivial))
            rw [← hwa, ← hba]
            have HF3 := Lib.hid hfw
            have HA3 := Lib.hid (And.intro hlw hbw)
            clear hwa hba hfw hbw hlw hfa3 hbl3 hlo3
            try simp only [Act.put, List.getElem_toArray, List.getElem_cons_zero, List.getElem_cons_succ, List.setIfInBounds_toArray, List.set_cons_zero, List.set_cons_succ]
            refine wpAnyH_ready (rs := [8]) (by kernel_rfl) (by simp) ?_
            clear hHeld
            refine AllReadyH.cons rfl (fun K hK => ?_) AllReadyH.nil
            go_simp
            (with_reducible refine Calls.mono (HSw.out _ _ _ _ _ (H9f.out.trans HF3.out) HC3.out HV3.out) ?_)
            rintro e wc4 ⟨rfl, hf⟩
            have HF4 := Lib.hid ((HF3.out).trans hf)
            have HA4 := Lib.hid (And.intro HA3.out.1 (HA3.out.2.keep hf trivial))
            clear hf
            go_wp2_with fail
            refine hK.out _ _ (HKT.out _ HF4.out) (fun hHeld => ?_)
            clear hK K
            try simp only [Act.put, List.getElem_toArray, List.getElem_cons_zero, List.getElem_cons_succ, List.setIfInBounds_toArray, List.set_cons_zero, List.set_cons_succ]
            refine wpAnyH_take (i := 9) (v := .tuple #[.agg #[.int .i64 wa, .int .i64 wb'], .int .i64 0]) rfl (by kernel_rfl) (by kernel_rfl) (by kernel_rfl) (fun _ _ _ h => h) (Or.inl ⟨by kernel_rfl, by intro w hSw; simp [go_sem, hSw]⟩) hHeld ?_
            simp only [Act.put, List.getElem_toArray, List.getElem_cons_zero, List.getElem_cons_succ, List.setIfInBounds_toArray, List.set_cons_zero, List.set_cons_succ]
            refine wpAnyH_take (i := 10) (v := .agg #[.int .i64 wa, .int .i64 wb']) rfl (by kernel_rfl) (by kernel_rfl) (by kernel_rfl) (fun _ _ _ h => h) (Or.inl ⟨by kernel_rfl, by intro w hSw; simp [go_sem, hSw]⟩) hHeld ?_
            simp only [Act.put, List.getElem_toArray, List.getElem_cons_zero, List.getElem_cons_succ, List.setIfInBounds_toArray, List.set_cons_zero, List.set_cons_succ]
            refine wpAnyH_take (i := 11) (v := .int .i64 0) rfl (by kernel_rfl) (by kernel_rfl) (by kernel_rfl) (fun _ _ _ h => h) (Or.inl ⟨by kernel_rfl, by intro w hSw; simp [go_sem, hSw]⟩) hHeld ?_
            simp only [Act.put, List.getElem_toArray, List.getElem_cons_zero, List.getElem_cons_succ, List.setIfInBounds_toArray, List.set_cons_zero, List.set_cons_succ]
            refine wpAnyH_ready (rs := [13]) (by kernel_rfl) (by simp) ?_
            clear hHeld
            refine AllReadyH.cons rfl (fun K hK => ?_) AllReadyH.nil
            rw [if_pos (by rfl)]
            refine wp_store_mid _ _ _ rfl ba 0 #[.int .i64 wa, .int .i64 wb'] rfl rfl (HA4.out.2.there) (by kernel_rfl) (ver_all _ _) ?_
            have hfs : Fresh w9 (World.setCells wc4 ba 0 [.int .i64 wa, .int .i64 wb']) := Keep.setCells _ _ _ HF4.out (fun h _ => absurd h (Nat.not_lt.2 HA4.out.1))
            refine hK.out _ _ (HKT.out _ hfs) (fun hHeld => ?_)
            clear hK K
            try simp only [Act.put, List.getElem_toArray, List.getElem_cons_zero, List.getElem_cons_succ, List.setIfInBounds_toArray, List.set_cons_zero, List.set_cons_succ]
            refine wpAnyH_take (i := 14) (v := .int .i64 0) rfl (by kernel_rfl) (by kernel_rfl) (by kernel_rfl) (fun _ _ _ h => h) (Or.inl ⟨by kernel_rfl, by intro w hSw; simp [go_sem, hSw]⟩) hHeld ?_
            simp only [Act.put, List.getElem_toArray, List.getElem_cons_zero, List.getElem_cons_succ, List.setIfInBounds_toArray, List.set_cons_zero, List.set_cons_succ]
            refine wpAnyH_done (by kernel_rfl) ?_ _
            clear hHeld
            go_wp2_with fail
            go_meet
            exact ⟨_, rfl, rfl, Lib.hid ⟨hfs, (HA4.out.2.set 0 (.int .i64 wa)).set 1 (.int .i64 wb'), HA4.out.1⟩⟩
        · go_simp
          have hfa2 : Fresh w9 (wc1.alloc (.cells #[.int .i64 0, .int .i64 0] 29)) := (HF1.out).alloc _
          have hbl2 := Blk.new wc1 29 #[.int .i64 0, .int .i64 0]
          have hlo2 : w9.heap.size ≤ wc1.heap.size := (HF1.out).size
          refine hK.out _ _ (HKT.out _ ((HF1.out).alloc _)) (fun hHeld => ?_)
          clear hK K
          obtain ⟨ba, hba⟩ : ∃ b, b = wc1.heap.size := ⟨_, rfl⟩
          obtain ⟨wa2, hwa⟩ : ∃ w', w' = wc1.alloc (.cells #[.int .i64 0, .int .i64 0] 29) := ⟨_, rfl⟩
          have hfw : Fresh w9 wa2 := by rw [hwa]; exact (HF1.out).alloc _
          have hbw : Blk wa2 ba 29 #[.int .i64 0, .int .i64 0] := by rw [hwa, hba]; exact Blk.new _ _ _
          have hlw : w9.heap.size ≤ ba := by have := (HF1.out).size; omega
          have HC2 := Lib.hid (HC1.out.fresh (show Fresh wc1 wa2 by rw [hwa]; exact (Keep.refl _ wc1).alloc _))
          rw [← hwa, ← hba]
          have HF2 := Lib.hid hfw
          have HA2 := Lib.hid (And.intro hlw hbw)
          clear hwa hba hfw hbw hlw hfa2 hbl2 hlo2
          try simp only [Act.put, List.getElem_toArray, List.getElem_cons_zero, List.getElem_cons_succ, List.setIfInBounds_toArray, List.set_cons_zero, List.set_cons_succ]
          refine wpAnyH_ready (rs := [7]) (by kernel_rfl) (by simp) ?_
          clear hHeld
          refine AllReadyH.cons rfl (fun K hK => ?_) AllReadyH.nil
          refine step_app etInt rfl _ _ rfl wa2.heap.size (.slice none 0 0) 0 [] rfl (World.ownsRow_nil _ _ _ _) (fun _ => True) A2 n2 c2 (ics vs) rfl (HVo.out _ (H9f.out.trans HF2.out)) HNl.out (ics_one _) (by omega) (Nat.le_refl _) ?_
          intro v2 wc3 ho hk hn
          have hf : Fresh wa2 wc3 := hk.weaken fun _ _ _ => by simp [Value.ownBlock]
          try simp only [Nat.zero_add, List.nil_append] at ho
          have HF3 := Lib.hid ((HF2.out).trans hf)
          have HA3 := Lib.hid (And.intro HA2.out.1 (HA2.out.2.keep hf trivial))
          have HC3 := Lib.hid (HC2.out.fresh hf)
          have HV3 := Lib.hid ho
          clear hf ho hk hn
          refine hK.out _ _ (HKT.out _ HF3.out) (fun hHeld => ?_)
          clear hK K
          try simp only [Act.put, List.getElem_toArray, List.getElem_cons_zero, List.getElem_cons_succ, List.setIfInBounds_toArray, List.set_cons_zero, List.set_cons_succ]
          refine wpAnyH_ready (rs := [8]) (by kernel_rfl) (by simp) ?_
          clear hHeld
          refine AllReadyH.cons rfl (fun K hK => ?_) AllReadyH.nil
          go_simp
          (with_reducible refine Calls.mono (HSw.out _ _ _ _ _ (H9f.out.trans HF3.out) HC3.out HV3.out) ?_)
          rintro e wc4 ⟨rfl, hf⟩
          have HF4 := Lib.hid ((HF3.out).trans hf)
          have HA4 := Lib.hid (And.intro HA3.out.1 (HA3.out.2.keep hf trivial))
          clear hf
          go_wp2_with fail
          refine hK.out _ _ (HKT.out _ HF4.out) (fun hHeld => ?_)
          clear hK K
          try simp only [Act.put, List.getElem_toArray, List.getElem_cons_zero, List.getElem_cons_succ, List.setIfInBounds_toArray, List.set_cons_zero, List.set_cons_succ]
          refine wpAnyH_take (i := 9) (v := .tuple #[.agg #[.int .i64 wa, .int .i64 wb'], .int .i64 0]) rfl (by kernel_rfl) (by kernel_rfl) (by kernel_rfl) (fun _ _ _ h => h) (Or.inl ⟨by kernel_rfl, by intro w hSw; simp [go_sem, hSw]⟩) hHeld ?_
          simp only [Act.put, List.getElem_toArray, List.getElem_cons_zero, List.getElem_cons_succ, List.setIfInBounds_toArray, List.set_cons_zero, List.set_cons_succ]
          refine wpAnyH_take (i := 10) (v := .agg #[.int .i64 wa, .int .i64 wb']) rfl (by kernel_rfl) (by kernel_rfl) (by kernel_rfl) (fun _ _ _ h => h) (Or.inl ⟨by kernel_rfl, by intro w hSw; simp [go_sem, hSw]⟩) hHeld ?_
          simp only [Act.put, List.getElem_toArray, List.getElem_cons_zero, List.getElem_cons_succ, List.setIfInBounds_toArray, List.set_cons_zero, List.set_cons_succ]
          refine wpAnyH_take (i := 11) (v := .int .i64 0) rfl (by kernel_rfl) (by kernel_rfl) (by kernel_rfl) (fun _ _ _ h => h) (Or.inl ⟨by kernel_rfl, by intro w hSw; simp [go_sem, hSw]⟩) hHeld ?_
          simp only [Act.put, List.getElem_toArray, List.getElem_cons_zero, List.getElem_cons_succ, List.setIfInBounds_toArray, List.set_cons_zero, List.set_cons_succ]
          refine wpAnyH_ready (rs := [13]) (by kernel_rfl) (by simp) ?_
          clear hHeld
          refine AllReadyH.cons rfl (fun K hK => ?_) AllReadyH.nil
          rw [if_pos (by rfl)]
          refine wp_store_mid _ _ _ rfl ba 0 #[.int .i64 wa, .int .i64 wb'] rfl rfl (HA4.out.2.there) (by kernel_rfl) (ver_all _ _) ?_
          have hfs : Fresh w9 (World.setCells wc4 ba 0 [.int .i64 wa, .int .i64 wb']) := Keep.setCells _ _ _ HF4.out (fun h _ => absurd h (Nat.not_lt.2 HA4.out.1))
          refine hK.out _ _ (HKT.out _ hfs) (fun hHeld => ?_)
          clear hK K
          try simp only [Act.put, List.getElem_toArray, List.getElem_cons_zero, List.getElem_cons_succ, List.setIfInBounds_toArray, List.set_cons_zero, List.set_cons_succ]
          refine wpAnyH_take (i := 14) (v := .int .i64 0) rfl (by kernel_rfl) (by kernel_rfl) (by kernel_rfl) (fun _ _ _ h => h) (Or.inl ⟨by kernel_rfl, by intro w hSw; simp [go_sem, hSw]⟩) hHeld ?_
          simp only [Act.put, List.getElem_toArray, List.getElem_cons_zero, List.getElem_cons_succ, List.setIfInBounds_toArray, List.set_cons_zero, List.set_cons_succ]
          refine wpAnyH_done (by kernel_rfl) ?_ _
          clear hHeld
          go_wp2_with fail
          go_meet
          exact ⟨_, rfl, rfl, Lib.hid ⟨hfs, (HA4.out.2.set 0 (.int .i64 wa)).set 1 (.int .i64 wb'), HA4.out.1⟩⟩
      · go_simp
        have hfa1 : Fresh w9 (w9.drew.alloc (.cells #[.int .i64 0, .int .i64 0] 29)) := (((Keep.refl (fun _ => True) w9).drew)).alloc _
        have hbl1 := Blk.new w9.drew 29 #[.int .i64 0, .int .i64 0]
        have hlo1 : w9.heap.size ≤ w9.drew.heap.size := (((Keep.refl (fun _ => True) w9).drew)).size
        refine hK.out _ _ (HKT.out _ ((Keep.refl _ w9).alloc _).drew) (fun hHeld => ?_)
        clear hK K
        obtain ⟨ba, hba⟩ : ∃ b, b = w9.heap.size := ⟨_, rfl⟩
        obtain ⟨wa1, hwa⟩ : ∃ w, w = (w9.alloc (.cells #[.int .i64 0, .int .i64 0] 29)).drew := ⟨_, rfl⟩
        have hfw : Fresh w9 wa1 := by rw [hwa]; exact ((Keep.refl _ w9).alloc _).drew
        have hbw : Blk wa1 ba 29 #[.int .i64 0, .int .i64 0] := by rw [hwa, hba]; exact (Blk.new _ _ _).drew
        have hlw : w9.heap.size ≤ ba := by omega
        rw [← hwa, ← hba]
        have HF1 := Lib.hid hfw
        have HA1 := Lib.hid (And.intro hlw hbw)
        clear hwa hba hfw hbw hlw hfa1 hbl1 hlo1
        try simp only [Act.put, List.getElem_toArray, List.getElem_cons_zero, List.getElem_cons_succ, List.setIfInBounds_toArray, List.set_cons_zero, List.set_cons_succ]
        refine wpAnyH_ready (rs := [4]) (by kernel_rfl) (by simp) ?_
        clear hHeld
        refine AllReadyH.cons rfl (fun K hK => ?_) AllReadyH.nil
        go_simp
        (with_reducible refine Calls.mono (HCT.out wa1 (H9f.out.trans HF1.out)) ?_)
        rintro e wc2 ⟨⟨v, ks, rfl, hc⟩, hf⟩
        have HF2 := Lib.hid ((HF1.out).trans hf)
        have HA2 := Lib.hid (And.intro HA1.out.1 (HA1.out.2.keep hf trivial))
        have HC2 := Lib.hid (CopsS.of hc HTk.out.1 HTk.out.2.1 HTk.out.2.2.1 HTk.out.2.2.2.1 HTk.out.2.2.2.2.1)
        clear hf hc
        go_wp2_with fail
        refine hK.out _ _ (HKT.out _ HF2.out) (fun hHeld => ?_)
        clear hK K
        try simp only [Act.put, List.getElem_toArray, List.getElem_cons_zero, List.getElem_cons_succ, List.setIfInBounds_toArray, List.set_cons_zero, List.set_cons_succ]
        refine wpAnyH_ready (rs := [7]) (by kernel_rfl) (by simp) ?_
        clear hHeld
        refine AllReadyH.cons rfl (fun K hK => ?_) AllReadyH.nil
        refine step_app etInt rfl _ _ rfl wc2.heap.size (.slice none 0 0) 0 [] rfl (World.ownsRow_nil _ _ _ _) (fun _ => True) A2 n2 c2 (ics vs) rfl (HVo.out _ (H9f.out.trans HF2.out)) HNl.out (ics_one _) (by omega) (Nat.le_refl _) ?_
        intro v2 wc3 ho hk hn
        have hf : Fresh wc2 wc3 := hk.weaken fun _ _ _ => by simp [Value.ownBlock]
        try simp only [Nat.zero_add, List.nil_append] at ho
        have HF3 := Lib.hid ((HF2.out).trans hf)
        have HA3 := Lib.hid (And.intro HA2.out.1 (HA2.out.2.keep hf trivial))
        have HC3 := Lib.hid (HC2.out.fresh hf)
        have HV3 := Lib.hid ho
        clear hf ho hk hn
        refine hK.out _ _ (HKT.out _ HF3.out) (fun hHeld => ?_)
        clear hK K
        try simp only [Act.put, List.getElem_toArray, List.getElem_cons_zero, List.getElem_cons_succ, List.setIfInBounds_toArray, List.set_cons_zero, List.set_cons_succ]
        refine wpAnyH_ready (rs := [8]) (by kernel_rfl) (by simp) ?_
        clear hHeld
        refine AllReadyH.cons rfl (fun K hK => ?_) AllReadyH.nil
        go_simp
        (with_reducible refine Calls.mono (HSw.out _ _ _ _ _ (H9f.out.trans HF3.out) HC3.out HV3.out) ?_)
        rintro e wc4 ⟨rfl, hf⟩
        have HF4 := Lib.hid ((HF3.out).trans hf)
        have HA4 := Lib.hid (And.intro HA3.out.1 (HA3.out.2.keep hf trivial))
        clear hf
        go_wp2_with fail
        refine hK.out _ _ (HKT.out _ HF4.out) (fun hHeld => ?_)
        clear hK K
        try simp only [Act.put, List.getElem_toArray, List.getElem_cons_zero, List.getElem_cons_succ, List.setIfInBounds_toArray, List.set_cons_zero, List.set_cons_succ]
        refine wpAnyH_take (i := 9) (v := .tuple #[.agg #[.int .i64 wa, .int .i64 wb'], .int .i64 0]) rfl (by kernel_rfl) (by kernel_rfl) (by kernel_rfl) (fun _ _ _ h => h) (Or.inl ⟨by kernel_rfl, by intro w hSw; simp [go_sem, hSw]⟩) hHeld ?_
        simp only [Act.put, List.getElem_toArray, List.getElem_cons_zero, List.getElem_cons_succ, List.setIfInBounds_toArray, List.set_cons_zero, List.set_cons_succ]
        refine wpAnyH_take (i := 10) (v := .agg #[.int .i64 wa, .int .i64 wb']) rfl (by kernel_rfl) (by kernel_rfl) (by kernel_rfl) (fun _ _ _ h => h) (Or.inl ⟨by kernel_rfl, by intro w hSw; simp [go_sem, hSw]⟩) hHeld ?_
        simp only [Act.put, List.getElem_toArray, List.getElem_cons_zero, List.getElem_cons_succ, List.setIfInBounds_toArray, List.set_cons_zero, List.set_cons_succ]
        refine wpAnyH_take (i := 11) (v := .int .i64 0) rfl (by kernel_rfl) (by kernel_rfl) (by kernel_rfl) (fun _ _ _ h => h) (Or.inl ⟨by kernel_rfl, by intro w hSw; simp [go_sem, hSw]⟩) hHeld ?_
        simp only [Act.put, List.getElem_toArray, List.getElem_cons_zero, List.getElem_cons_succ, List.setIfInBounds_toArray, List.set_cons_zero, List.set_cons_succ]
        refine wpAnyH_ready (rs := [13]) (by kernel_rfl) (by simp) ?_
        clear hHeld
        refine AllReadyH.cons rfl (fun K hK => ?_) AllReadyH.nil
        rw [if_pos (by rfl)]
        refine wp_store_mid _ _ _ rfl ba 0 #[.int .i64 wa, .int .i64 wb'] rfl rfl (HA4.out.2.there) (by kernel_rfl) (ver_all _ _) ?_
        have hfs : Fresh w9 (World.setCells wc4 ba 0 [.int .i64 wa, .int .i64 wb']) := Keep.setCells _ _ _ HF4.out (fun h _ => absurd h (Nat.not_lt.2 HA4.out.1))
        refine hK.out _ _ (HKT.out _ hfs) (fun hHeld => ?_)
        clear hK K
        try simp only [Act.put, List.getElem_toArray, List.getElem_cons_zero, List.getElem_cons_succ, List.setIfInBounds_toArray, List.set_cons_zero, List.set_cons_succ]
        refine wpAnyH_take (i := 14) (v := .int .i64 0) rfl (by kernel_rfl) (by kernel_rfl) (by kernel_rfl) (fun _ _ _ h => h) (Or.inl ⟨by kernel_rfl, by intro w hSw; simp [go_sem, hSw]⟩) hHeld ?_
        simp only [Act.put, List.getElem_toArray, List.getElem_cons_zero, List.getElem_cons_succ, List.setIfInBounds_toArray, List.set_cons_zero, List.set_cons_succ]
        refine wpAnyH_done (by kernel_rfl) ?_ _
        clear hHeld
        go_wp2_with fail
        go_meet
        exact ⟨_, rfl, rfl, Lib.hid ⟨hfs, (HA4.out.2.set 0 (.int .i64 wa)).set 1 (.int .i64 wb'), HA4.out.1⟩⟩
    case rest =>
    rename World => w10
    obtain ⟨b11, rfl, rfl, hc10⟩ := hcut
    have hb4 := H9.out.2.2.1.keep hc10.out.1 trivial
    have a0 := hb4.cell 0; have a1 := hb4.cell 1; have la := hb4.lt
    have q0 := hc10.out.2.1.cell 0; have q1 := hc10.out.2.1.cell 1; have lq := hc10.out.2.1.lt
    simp at a0 a1 q0 q1
    have H10 := Lib.hid (H9.out.1.trans hc10.out.1)
    clear hb4 hc10
    go_wp2_with fail
    go_ret
    exact ⟨rfl, H10.out⟩
end Go.Proofs.YtohnmaindbgngaaGreatDoor
