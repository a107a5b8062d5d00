/-
  MERGED: AudSrv AudSrvLaw
-/
import Derived.Test.YtohnmaindbgngaaGreatDoorE8
import Derived.Test.YtohnmaindbgngaaGreatDoorE2
import Derived.Test.YtohnmaindbgngaaGreatDoorL1
import Derived.Test.YtohnmaindbgngaaGreatDoorL3
import Derived.Test.YtohnmaindbgngaaGreatDoorL2
import Derived.Deep.RegionHeld3
import Derived.Deep.DeepCutAuto
import Derived.Test.YtohnmaindbgngaaGreatDoorQZ
import Derived.Test.YtohnmaindbgngaaGreatDoorCards
import Derived.Test.YtohnmaindbgngaaGreatDoorTie
import Derived.Stop.LaidErr
import Derived.OpenShut
import Derived.Deep.DeepHandedRow
import Derived.Deep.DeepLaidRun
namespace Go.Proofs.YtohnmaindbgngaaGreatDoor
set_option linter.unusedVariables false
set_option linter.unusedSimpArgs false
open Go.RowKit Go.Shelf Go.BigFrame

def padV (k : Nat) : List Int := (List.range k).map fun j : Nat => -7 - (j : Int)
theorem padV_len (k : Nat) : (padV k).length = k := by unfold padV; simp
theorem padV_succ (k : Nat) : padV (k + 1) = padV k ++ [-7 - (k : Int)] := by unfold padV; rw [List.range_succ, List.map_append]; rfl
theorem padV_at {k i : Nat} (h : i < k) : (padV k)[i]? = some (-7 - (i : Int)) := by
  unfold padV
  rw [List.getElem?_map, List.getElem?_range h]
  rfl
theorem ics_app (a b : List Int) : ics (a ++ b) = ics a ++ ics b := by simp [ics]
theorem ver2_all (a b : Int) : (#[.int .i64 a, .int .i64 b] : Array Value).all (·.oneCell') = true := by simp [Value.oneCell']
/-- The votes with 64 more behind them. -/
structure VotI (wv wr : World) (v : Value) (vs : List Int) (k : Nat) : Prop where
  own : wr.ownsRow wv.heap.size 3 1 v (vs.length + k) (ics (vs ++ padV k))
  fr : Fresh wv wr
theorem vot_rd {w : World} {B n2 cV : Nat} {AV : Option Addr} {vs : List Int} (h : w.ownsRow B 3 1 (.slice AV (vs.length + 64) cV) (vs.length + 64) (ics (vs ++ padV 64))) (hn : vs.length = n2) : Rd w (fun _ => True) 1 AV n2 (ics vs) := by
  have h1 := (own_rdT h).take26S (k := n2) (by omega)
  rw [ics_app, List.take_append_of_le_length (by simp [ics]; omega), List.take_of_length_le (by simp [ics]; omega)] at h1
  exact h1
theorem int_of_ds2 {hs ks : List MkV} (h : dsOf ks = dsOf hs) (hi : ∀ x ∈ hs, MkInt x.d) : ∀ x ∈ ks, MkInt x.d := fun x hx => by
  obtain ⟨y, hy, e⟩ := dsOf_memS h hx
  rw [← e]; exact hi y hy
theorem cmd_of_ds2 {hs ks : List MkV} (h : dsOf ks = dsOf hs) (hi : ∀ x ∈ hs, InC x.d.cmd) : ∀ x ∈ ks, InC x.d.cmd := fun x hx => by
  obtain ⟨y, hy, e⟩ := dsOf_memS h hx
  rw [← e]; exact hi y hy

set_option maxRecDepth 20000 in
set_option maxHeartbeats 8000000 in
theorem audsrv_any (A A2 : Option Addr) (n c n2 c2 : Nat) (K : Int) (hs : List MkV) (vs : List Int) (W : World) (hT : Tabs W) (hm : Mks W (fun _ => True) A n hs) (hok : ∀ x ∈ hs, MkOk W (fun _ => True) x) (hi : ∀ x ∈ hs, MkInt x.d) (hcm : ∀ x ∈ hs, InC x.d.cmd) (hnc : n ≤ c) (hn : n ≤ 1048575)
    (hv : Rd W (fun _ => True) 1 A2 n2 (ics vs)) (hlv : vs.length = n2) (hn2 : n2 ≤ 1048576) (hnl : n2 = 0 → c2 = 0 ∨ A2 ≠ none) :
    Calls Tryz.prog 3 #[.agg #[.slice A n c, .slice A2 n2 c2, .int .i64 K]] W fun e w' => e = .returned (.bool true) ∧ Fresh W w' := by
  have H := Lib.hid (And.intro hm (And.intro hok (And.intro hi (And.intro hcm (And.intro hv hlv)))))
  have HT := Lib.hid hT
  have hle := hm.le
  obtain ⟨⟨⟨ra, rb⟩, re⟩, hR⟩ : ∃ R, R = serviceD vs (dsOf hs) := ⟨_, rfl⟩
  have HR := Lib.hid hR
  have HLo := Lib.hid (fun w' (hf : Fresh W w') => loosely_any (fun _ => True) A n c hs w' (hm.keep hf) (fun x hx => (hok x hx).keep hf))
  have HSv := Lib.hid (fun w' (hf : Fresh W w') => rservice_any (hT.fresh hf) A n c hs (hm.keep hf) (fun x hx => (hok x hx).keep hf) hnc A2 n2 c2 vs (hv.keep hf) hlv hn2)
  rw [← service_same, ← hR] at HSv
  clear hT hm hok hi hcm hv hR hlv
  go_enter Tryz.func3, Tryz.ntmps3
  go_upto_region 1 with (fail)
  obtain ⟨bx, hbx⟩ : ∃ b, b = W.heap.size := ⟨_, rfl⟩
  rw [← hbx]
  generalize hw1 : World.alloc W _ = w1
  have hf1 : Fresh W w1 := hw1 ▸ (Keep.refl _ W).alloc _
  have hb1 : Blk w1 bx 25 #[.slice A n c, .slice A2 n2 c2, .int .i64 K] := by rw [← hw1, hbx]; exact Blk.new W _ _
  have H1 := Lib.hid (And.intro hf1 hb1)
  have x0 := hb1.cell 0; have lx := hb1.lt
  simp at x0
  have HL := Lib.hid (HLo.out w1 hf1)
  clear hbx hw1 hf1 hb1 HLo
  go_wp2_with fail
  refine Calls.mono HL.out ?_
  rintro e w2 ⟨⟨X, ps, vL, vM, vT, vB, rfl, hX⟩, hf2⟩
  obtain ⟨AL, cL, rfl, hm2, hok2⟩ := hX.mks H.out.1.len hle H.out.1.fit
  have hds := hX.all H.out.1.len
  have HMk := Lib.hid (And.intro hm2 (And.intro hok2 (And.intro hds (And.intro (int_of_ds2 hds H.out.2.2.1) (cmd_of_ds2 hds H.out.2.2.2.1)))))
  have H2 := Lib.hid (And.intro hX (And.intro (H1.out.1.trans hf2) (H1.out.2.keep hf2 trivial)))
  have HS1 := Lib.hid H1.out.1.size
  have x1 := H2.out.2.2.cell 1; have lx := H2.out.2.2.lt
  simp at x1
  have HV2 := Lib.hid (H.out.2.2.2.2.1.keep H2.out.2.1)
  clear hX hf2 x0 HL H1 hm2 hok2 hds
  go_wp2_with (at_builtin; refine wpList_app etInt rfl _ _ rfl w2.heap.size _ 0 [] rfl (World.ownsRow_nil _ _ _ _) (fun _ => True) A2 n2 c2 _ rfl HV2.out hnl (ics_one _) (by omega) (Nat.le_refl _) ?_)
  intro v3 w3 ho3 hk3 hn3
  have h3 : VotI w2 w3 v3 vs 0 := ⟨by
    try simp only [Nat.zero_add, List.nil_append] at ho3
    rw [H.out.2.2.2.2.2]
    simpa [padV] using ho3, hk3.weaken fun _ _ _ => by simp [Value.ownBlock]⟩
  have H3 := Lib.hid h3
  clear ho3 hk3 hn3 h3 x1 lx HV2
  go_wp2_with fail
  go_loopw [4, 5] (fun v i wr => ∃ k : Nat, k ≤ 64 ∧ i = .int .i64 (k : Int) ∧ Hid (VotI w2 wr v vs k)) (fun _ i _ => 64 - (intOf i).toNat)
  case atStart => exact ⟨0, by omega, rfl, H3⟩
  case round =>
    rename World => wb
    obtain ⟨k, hk, rfl, HW⟩ := hrel
    by_cases hlt : k < 64
    · have hki : (k : Int) < 64 := by omega
      have wr7 : IntKind.i64.wrap (-7 - (k : Int)) = -7 - (k : Int) := by rw [IntWalk.i64_in _ (by omega)]
      go_wp2_with (at_builtin; refine wpList_app1 etInt rfl (.tmp 26) (.tmp 29) rfl (.int .i64 (-7 - (k : Int))) _ rfl w2.heap.size _ _ _ rfl rfl HW.out.own (by have := H.out.2.2.2.2.2; omega) HW.out.fr.size ?_)
      intro v4 w4 ho4 hk4 hn4
      have h4 : VotI w2 w4 v4 vs (k + 1) := ⟨by
        rw [padV_succ, ← List.append_assoc, ics_app]
        exact ho4, HW.out.fr.comp hk4 (fun _ _ h => h) (fun i hi _ e => by have := (own_lt HW.out.own e).1; omega)⟩
      have H4 := Lib.hid h4
      clear ho4 hk4 hn4 h4
      go_wp2_with fail
      exact ⟨⟨k + 1, by omega, by simp, H4⟩, by simp [intOf]; omega⟩
    · obtain rfl : k = 64 := by omega
      have hki : ¬ (64 : Int) < 64 := by omega
      obtain ⟨AV, cV, rfl, hrV, -⟩ := own_rd HW.out.own
      have hcapV := own_cap HW.out.own
      have hrV2 : Rd wb (fun _ => True) 1 AV n2 (ics vs) := by
        have h1 := (hrV.weaken (Z' := fun _ => True) fun _ _ => trivial).take26S (k := n2) (by have := H.out.2.2.2.2.2; omega)
        rw [ics_app, List.take_append_of_le_length (by have := H.out.2.2.2.2.2; simp [ics]; omega), List.take_of_length_le (by have := H.out.2.2.2.2.2; simp [ics]; omega)] at h1
        exact h1
      have hnv : vs.length = n2 := H.out.2.2.2.2.2
      have hcv2 : n2 ≤ cV := by omega
      have HO := Lib.hid (And.intro HW.out.own (And.intro (hrV.weaken (Z' := fun _ => True) fun _ _ => trivial) hrV2))
      have HF := Lib.hid HW.out.fr
      have HVL := Lib.hid hnv
      have HKS : Hid (∀ w', Fresh wb w' → (w'.cell? ⟨X, 0, none⟩ = some (.slice AL n cL) ∧ w'.cell? ⟨bx, 1, none⟩ = some (.slice A2 n2 c2))) := Lib.hid fun w' hf => ⟨(H2.out.1.keep (HF.out.trans hf)).blk.cell 0, (H2.out.2.2.keep (HF.out.trans hf) trivial).cell 1⟩
      have HC : Hid (∀ w', Fresh wb w' → Calls Tryz.prog 7 #[.slice AL n cL, .slice AV n2 cV] w' fun e w'' => e = .returned (.tuple #[.agg #[.int .i64 ra, .int .i64 rb], .int .i64 re]) ∧ Fresh w' w'') := Lib.hid fun w' hf => by
        have h1 := serviceC_any (w := w') (HT.out.fresh (H2.out.2.1.trans (HF.out.trans hf))) AL n cL (ps.map LMk.x) (HMk.out.1.keep (HF.out.trans hf)) (fun x hx => (HMk.out.2.1 x hx).keep (HF.out.trans hf)) HMk.out.2.2.2.1 HMk.out.2.2.2.2 AV n2 cV vs (HO.out.2.2.keep hf) HVL.out hn2
        rw [HMk.out.2.2.1, ← HR.out] at h1
        exact h1
      rw [hnv]
      clear hrV hrV2 HW hlt hnv
      go_upto_region 7 with (fail)
      go_cut [6, 7] (fun s6 s7 wz => ∃ b6 : Nat, s6 = .pointer (some ⟨b6, 0, none⟩) ∧ s7 = .int .i64 re ∧ Hid (Fresh wb wz ∧ Blk wz b6 29 #[.int .i64 ra, .int .i64 rb] ∧ wb.heap.size ≤ b6))
      case first =>
        refine wp_region_held_drew (S := fun w' => w'.cell? ⟨X, 0, none⟩ = some (.slice AL n cL) ∧ w'.cell? ⟨bx, 1, none⟩ = some (.slice A2 n2 c2)) (by kernel_rfl) (HKS.out _ (Keep.refl _ wb).drew) (fun hHeld => ?_)
        refine wpAnyH_take (i := 0) (v := .pointer (some ⟨X, 0, none⟩)) rfl (by kernel_rfl) (by kernel_rfl) (by kernel_rfl) (fun _ _ _ h => h) (Or.inl ⟨by kernel_rfl, by intro w hSw; simp [go_sem, hSw]⟩) hHeld ?_
        simp only [Act.put, List.getElem_toArray, List.getElem_cons_zero, List.getElem_cons_succ, List.setIfInBounds_toArray, List.set_cons_zero, List.set_cons_succ]
        refine wpAnyH_take (i := 1) (v := .pointer (some ⟨X, 0, none⟩)) rfl (by kernel_rfl) (by kernel_rfl) (by kernel_rfl) (fun _ _ _ h => h) (Or.inl ⟨by kernel_rfl, by intro w hSw; go_simp⟩) hHeld ?_
        simp only [Act.put, List.getElem_toArray, List.getElem_cons_zero, List.getElem_cons_succ, List.setIfInBounds_toArray, List.set_cons_zero, List.set_cons_succ]
        refine wpAnyH_take (i := 2) (v := .pointer (some ⟨X, 0, none⟩)) rfl (by kernel_rfl) (by kernel_rfl) (by kernel_rfl) (fun _ _ _ h => h) (Or.inl ⟨by kernel_rfl, by intro w hSw; go_simp⟩) hHeld ?_
        simp only [Act.put, List.getElem_toArray, List.getElem_cons_zero, List.getElem_cons_succ, List.setIfInBounds_toArray, List.set_cons_zero, List.set_cons_succ]
        refine wpAnyH_take (i := 3) (v := .slice AL n cL) rfl (by kernel_rfl) (by kernel_rfl) (by kernel_rfl) (fun _ _ _ h => h) (Or.inl ⟨by kernel_rfl, by intro w hSw; simp [go_sem, hSw]⟩) hHeld ?_
        simp only [Act.put, List.getElem_toArray, List.getElem_cons_zero, List.getElem_cons_succ, List.setIfInBounds_toArray, List.set_cons_zero, List.set_cons_succ]
        refine wpAnyH_take (i := 4) (v := .slice AV (n2 + 64) cV) rfl (by kernel_rfl) (by kernel_rfl) (by kernel_rfl) (fun _ _ _ h => h) (Or.inl ⟨by kernel_rfl, by intro w hSw; simp [go_sem, hSw]⟩) hHeld ?_
        simp only [Act.put, List.getElem_toArray, List.getElem_cons_zero, List.getElem_cons_succ, List.setIfInBounds_toArray, List.set_cons_zero, List.set_cons_succ]
        refine wpAnyH_take (i := 5) (v := .pointer (some ⟨bx, 1, none⟩)) rfl (by kernel_rfl) (by kernel_rfl) (by kernel_rfl) (fun _ _ _ h => h) (Or.inl ⟨by kernel_rfl, by intro w hSw; go_simp⟩) hHeld ?_
        simp only [Act.put, List.getElem_toArray, List.getElem_cons_zero, List.getElem_cons_succ, List.setIfInBounds_toArray, List.set_cons_zero, List.set_cons_succ]
        refine wpAnyH_take (i := 6) (v := .slice A2 n2 c2) rfl (by kernel_rfl) (by kernel_rfl) (by kernel_rfl) (fun _ _ _ h => h) (Or.inl ⟨by kernel_rfl, by intro w hSw; simp [go_sem, hSw]⟩) hHeld ?_
        simp only [Act.put, List.getElem_toArray, List.getElem_cons_zero, List.getElem_cons_succ, List.setIfInBounds_toArray, List.set_cons_zero, List.set_cons_succ]
        refine wpAnyH_take (i := 7) (v := .int .i64 (n2 : Int)) rfl (by kernel_rfl) (by kernel_rfl) (by kernel_rfl) (fun _ _ _ h => h) (Or.inl ⟨by kernel_rfl, by intro w hSw; go_simp⟩) hHeld ?_
        simp only [Act.put, List.getElem_toArray, List.getElem_cons_zero, List.getElem_cons_succ, List.setIfInBounds_toArray, List.set_cons_zero, List.set_cons_succ]
        refine wpAnyH_take (i := 8) (v := .slice AV n2 cV) rfl (by kernel_rfl) (by kernel_rfl) (by kernel_rfl) (fun _ _ _ h => h) (Or.inl ⟨by kernel_rfl, by intro w hSw; go_simp⟩) hHeld ?_
        simp only [Act.put, List.getElem_toArray, List.getElem_cons_zero, List.getElem_cons_succ, List.setIfInBounds_toArray, List.set_cons_zero, List.set_cons_succ]
        refine wpAnyH_ready (rs := [9, 13]) (by kernel_rfl) (by simp) ?_
        clear hHeld
        refine AllReadyH.cons rfl (fun K hK => ?_) (AllReadyH.cons rfl (fun K hK => ?_) AllReadyH.nil)
        · go_simp
          (with_reducible refine Calls.mono (HC.out _ ((Keep.refl (fun _ => True) wb).drew)) ?_)
          rintro e wc ⟨rfl, hf⟩
          have HFc := Lib.hid (((Keep.refl (fun _ => True) wb).drew).trans hf)
          clear hf
          go_wp2_with fail
          refine hK.out _ _ (HKS.out _ HFc.out) (fun hHeld => ?_)
          clear hK K
          try simp only [Act.put, List.getElem_toArray, List.getElem_cons_zero, List.getElem_cons_succ, List.setIfInBounds_toArray, List.set_cons_zero, List.set_cons_succ]
          refine wpAnyH_take (i := 10) (v := .tuple #[.agg #[.int .i64 ra, .int .i64 rb], .int .i64 re]) rfl (by kernel_rfl) (by kernel_rfl) (by kernel_rfl) (fun _ _ _ h => h) (Or.inl ⟨by kernel_rfl, by intro w hSw; simp [go_sem, hSw]⟩) hHeld ?_
          simp only [Act.put, List.getElem_toArray, List.getElem_cons_zero, List.getElem_cons_succ, List.setIfInBounds_toArray, List.set_cons_zero, List.set_cons_succ]
          refine wpAnyH_take (i := 11) (v := .agg #[.int .i64 ra, .int .i64 rb]) rfl (by kernel_rfl) (by kernel_rfl) (by kernel_rfl) (fun _ _ _ h => h) (Or.inl ⟨by kernel_rfl, by intro w hSw; simp [go_sem, hSw]⟩) hHeld ?_
          simp only [Act.put, List.getElem_toArray, List.getElem_cons_zero, List.getElem_cons_succ, List.setIfInBounds_toArray, List.set_cons_zero, List.set_cons_succ]
          refine wpAnyH_take (i := 12) (v := .int .i64 re) rfl (by kernel_rfl) (by kernel_rfl) (by kernel_rfl) (fun _ _ _ h => h) (Or.inl ⟨by kernel_rfl, by intro w hSw; simp [go_sem, hSw]⟩) hHeld ?_
          simp only [Act.put, List.getElem_toArray, List.getElem_cons_zero, List.getElem_cons_succ, List.setIfInBounds_toArray, List.set_cons_zero, List.set_cons_succ]
          refine wpAnyH_ready (rs := [13]) (by kernel_rfl) (by simp) ?_
          clear hHeld
          refine AllReadyH.cons rfl (fun K hK => ?_) AllReadyH.nil
          go_simp
          have HA := Lib.hid (And.intro (show wb.heap.size ≤ wc.heap.size from HFc.out.size) (Blk.new wc 29 #[.int .i64 0, .int .i64 0]))
          refine hK.out _ _ (HKS.out _ (HFc.out.alloc _)) (fun hHeld => ?_)
          clear hK K
          try simp only [Act.put, List.getElem_toArray, List.getElem_cons_zero, List.getElem_cons_succ, List.setIfInBounds_toArray, List.set_cons_zero, List.set_cons_succ]
          refine wpAnyH_ready (rs := [14]) (by kernel_rfl) (by simp) ?_
          clear hHeld
          refine AllReadyH.cons rfl (fun K hK => ?_) AllReadyH.nil
          rw [if_pos (by rfl)]
          refine wp_store_mid _ _ _ rfl wc.heap.size 0 #[.int .i64 ra, .int .i64 rb] rfl rfl (HA.out.2.there) (by kernel_rfl) (ver2_all _ _) ?_
          have hfs : Fresh wb (World.setCells (wc.alloc (.cells #[.int .i64 0, .int .i64 0] 29)) wc.heap.size 0 [.int .i64 ra, .int .i64 rb]) := Keep.setCells _ _ _ (HFc.out.alloc _) (fun h _ => absurd h (Nat.not_lt.2 HA.out.1))
          refine hK.out _ _ (HKS.out _ hfs) (fun hHeld => ?_)
          clear hK K
          try simp only [Act.put, List.getElem_toArray, List.getElem_cons_zero, List.getElem_cons_succ, List.setIfInBounds_toArray, List.set_cons_zero, List.set_cons_succ]
          refine wpAnyH_take (i := 15) (v := .int .i64 re) rfl (by kernel_rfl) (by kernel_rfl) (by kernel_rfl) (fun _ _ _ h => h) (Or.inl ⟨by kernel_rfl, by intro w hSw; simp [go_sem, hSw]⟩) hHeld ?_
          simp only [Act.put, List.getElem_toArray, List.getElem_cons_zero, List.getElem_cons_succ, List.setIfInBounds_toArray, List.set_cons_zero, List.set_cons_succ]
          refine wpAnyH_done (by kernel_rfl) ?_ _
          clear hHeld
          go_wp2_with fail
          go_meet
          exact ⟨_, rfl, rfl, Lib.hid ⟨hfs, (HA.out.2.set 0 (.int .i64 ra)).set 1 (.int .i64 rb), HA.out.1⟩⟩
        · go_simp
          refine hK.out _ _ (HKS.out _ ((Keep.refl _ wb).alloc _).drew) (fun hHeld => ?_)
          clear hK K
          obtain ⟨ba, hba⟩ : ∃ b, b = wb.heap.size := ⟨_, rfl⟩
          rw [← hba]
          generalize hwa : World.drew (World.alloc wb _) = wa
          have hfw : Fresh wb wa := by rw [← hwa]; exact ((Keep.refl _ wb).alloc _).drew
          have hbw : Blk wa ba 29 #[.int .i64 0, .int .i64 0] := by rw [← hwa, hba]; exact (Blk.new _ _ _).drew
          have hlw : wb.heap.size ≤ ba := by omega
          have HFa := Lib.hid hfw
          have HA := Lib.hid (And.intro hlw hbw)
          clear hwa hba hfw hbw hlw
          try simp only [Act.put, List.getElem_toArray, List.getElem_cons_zero, List.getElem_cons_succ, List.setIfInBounds_toArray, List.set_cons_zero, List.set_cons_succ]
          refine wpAnyH_ready (rs := [9]) (by kernel_rfl) (by simp) ?_
          clear hHeld
          refine AllReadyH.cons rfl (fun K hK => ?_) AllReadyH.nil
          go_simp
          (with_reducible refine Calls.mono (HC.out _ HFa.out) ?_)
          rintro e wc ⟨rfl, hf⟩
          have HFc := Lib.hid (HFa.out.trans hf)
          have HB := Lib.hid (And.intro HA.out.1 (HA.out.2.keep hf trivial))
          clear hf
          go_wp2_with fail
          refine hK.out _ _ (HKS.out _ HFc.out) (fun hHeld => ?_)
          clear hK K
          try simp only [Act.put, List.getElem_toArray, List.getElem_cons_zero, List.getElem_cons_succ, List.setIfInBounds_toArray, List.set_cons_zero, List.set_cons_succ]
          refine wpAnyH_take (i := 10) (v := .tuple #[.agg #[.int .i64 ra, .int .i64 rb], .int .i64 re]) rfl (by kernel_rfl) (by kernel_rfl) (by kernel_rfl) (fun _ _ _ h => h) (Or.inl ⟨by kernel_rfl, by intro w hSw; simp [go_sem, hSw]⟩) hHeld ?_
          simp only [Act.put, List.getElem_toArray, List.getElem_cons_zero, List.getElem_cons_succ, List.setIfInBounds_toArray, List.set_cons_zero, List.set_cons_succ]
          refine wpAnyH_take (i := 11) (v := .agg #[.int .i64 ra, .int .i64 rb]) rfl (by kernel_rfl) (by kernel_rfl) (by kernel_rfl) (fun _ _ _ h => h) (Or.inl ⟨by kernel_rfl, by intro w hSw; simp [go_sem, hSw]⟩) hHeld ?_
          simp only [Act.put, List.getElem_toArray, List.getElem_cons_zero, List.getElem_cons_succ, List.setIfInBounds_toArray, List.set_cons_zero, List.set_cons_succ]
          refine wpAnyH_take (i := 12) (v := .int .i64 re) rfl (by kernel_rfl) (by kernel_rfl) (by kernel_rfl) (fun _ _ _ h => h) (Or.inl ⟨by kernel_rfl, by intro w hSw; simp [go_sem, hSw]⟩) hHeld ?_
          simp only [Act.put, List.getElem_toArray, List.getElem_cons_zero, List.getElem_cons_succ, List.setIfInBounds_toArray, List.set_cons_zero, List.set_cons_succ]
          refine wpAnyH_ready (rs := [14]) (by kernel_rfl) (by simp) ?_
          clear hHeld
          refine AllReadyH.cons rfl (fun K hK => ?_) AllReadyH.nil
          rw [if_pos (by rfl)]
          refine wp_store_mid _ _ _ rfl ba 0 #[.int .i64 ra, .int .i64 rb] rfl rfl (HB.out.2.there) (by kernel_rfl) (ver2_all _ _) ?_
          have hfs : Fresh wb (World.setCells wc ba 0 [.int .i64 ra, .int .i64 rb]) := Keep.setCells _ _ _ HFc.out (fun h _ => absurd h (Nat.not_lt.2 HB.out.1))
          refine hK.out _ _ (HKS.out _ hfs) (fun hHeld => ?_)
          clear hK K
          try simp only [Act.put, List.getElem_toArray, List.getElem_cons_zero, List.getElem_cons_succ, List.setIfInBounds_toArray, List.set_cons_zero, List.set_cons_succ]
          refine wpAnyH_take (i := 15) (v := .int .i64 re) rfl (by kernel_rfl) (by kernel_rfl) (by kernel_rfl) (fun _ _ _ h => h) (Or.inl ⟨by kernel_rfl, by intro w hSw; simp [go_sem, hSw]⟩) hHeld ?_
          simp only [Act.put, List.getElem_toArray, List.getElem_cons_zero, List.getElem_cons_succ, List.setIfInBounds_toArray, List.set_cons_zero, List.set_cons_succ]
          refine wpAnyH_done (by kernel_rfl) ?_ _
          clear hHeld
          go_wp2_with fail
          go_meet
          exact ⟨_, rfl, rfl, Lib.hid ⟨hfs, (HB.out.2.set 0 (.int .i64 ra)).set 1 (.int .i64 rb), HB.out.1⟩⟩

      case rest =>
      rename World => w6
      obtain ⟨b6, rfl, rfl, h6⟩ := hcut
      have x0 := ((H2.out.2.2.keep (HF.out.trans h6.out.1) trivial)).cell 0
      have x1 := (HKS.out w6 h6.out.1).2
      have lx := ((H2.out.2.2.keep (HF.out.trans h6.out.1) trivial)).lt
      simp at x0
      have HG := Lib.hid (HSv.out w6 (H2.out.2.1.trans (HF.out.trans h6.out.1)))
      clear hki
      go_wp2_with fail
      refine Calls.mono HG.out ?_
      rintro e w7 ⟨rfl, hf7⟩
      have H7 := Lib.hid (And.intro (h6.out.1.trans hf7) (h6.out.2.1.keep hf7 trivial))
      have HL6 := Lib.hid h6.out.2.2
      clear hf7 HG x0 x1 lx h6
      go_upto_region 9 with (fail)
      obtain ⟨b8, hb8⟩ : ∃ b, b = w7.heap.size := ⟨_, rfl⟩
      rw [← hb8]
      generalize hw8 : World.alloc w7 _ = w8
      have hf8 : Fresh w7 w8 := hw8 ▸ (Keep.refl _ w7).alloc _
      have hB8 : Blk w8 b8 29 #[.int .i64 ra, .int .i64 rb] := by rw [← hw8, hb8]; exact Blk.new w7 _ _
      have hfb8 := H7.out.1.trans hf8
      have hf28 := HF.out.trans hfb8
      have hFW := H2.out.2.1.trans hf28
      have hbx := H2.out.2.2.keep hf28 trivial
      have x0 := hbx.cell 0; have lx := hbx.lt
      simp at x0
      have HK := Lib.hid (kept_any (fun _ => True) A n c hs _ w8 X ps _ vM vT vB (H.out.1.keep hFW) (fun x hx => (H.out.2.1 x hx).keep hFW) (H2.out.1.keep hf28))
      have H8 := Lib.hid (And.intro hfb8 (And.intro (H7.out.2.keep hf8 trivial) hB8))
      clear hb8 hw8 hf8 hB8 hfb8 hf28 hFW hbx H7
      go_wp2_with fail
      refine Calls.mono HK.out ?_
      rintro e w9 ⟨rfl, hf9⟩
      have H9 := Lib.hid (And.intro (H8.out.1.trans hf9) (And.intro (H8.out.2.1.keep hf9 trivial) (H8.out.2.2.keep hf9 trivial)))
      clear hf9 HK H8 x0 lx
      go_wp2_with fail
      go_loopw [10, 11] (fun kv iv wr => ∃ i : Nat, i ≤ n2 + 64 ∧ kv = .bool true ∧ iv = .int .i64 (i : Int) ∧ Hid (Fresh w9 wr)) (fun _ i _ => n2 + 64 - (intOf i).toNat)
      case atStart => exact ⟨0, Nat.zero_le _, rfl, rfl, Lib.hid (Keep.refl _ _)⟩
      case round =>
        rename World => wr
        obtain ⟨i, hi, rfl, rfl, HI⟩ := hrel
        have hbr := H9.out.1.trans HI.out
        have x1 := (HKS.out wr hbr).2
        have lx := (H2.out.2.2.keep (HF.out.trans hbr) trivial).lt
        by_cases hlt : i < n2 + 64
        · obtain ⟨g4, o4, hAV, -, hl4, q4⟩ := (HO.out.2.1.keep hbr).at1 (show i < vs.length + 64 by have := HVL.out; omega)
          subst hAV
          have hi0 : (0 : Int) ≤ (i : Int) := by omega
          have hiv : (i : Int) < ((n2 + 64 : Nat) : Int) := by omega
          by_cases hi2 : i < n2
          · obtain ⟨g2, o2, hA2, -, hl2, q2⟩ := (H.out.2.2.2.2.1.keep (H2.out.2.1.trans (HF.out.trans hbr))).at1 hi2
            subst hA2
            have hil : i < vs.length := by have := HVL.out; omega
            obtain ⟨z, hz⟩ : ∃ z, z = vs[i] := ⟨_, rfl⟩
            have k2 : wr.cell? ⟨g2, o2 + i, none⟩ = some (.int .i64 z) := by rw [q2, hz]; simp [ics]
            have k4 : wr.cell? ⟨g4, o4 + i, none⟩ = some (.int .i64 z) := by
              have h1 : (ics (vs ++ padV 64))[i]? = some (.int .i64 z) := by
                unfold ics
                rw [List.getElem?_map, List.getElem?_append_left hil, List.getElem?_eq_getElem hil, hz]
                rfl
              rw [q4, ← h1, List.getElem?_eq_getElem]
            have hi3 : (i : Int) < (n2 : Int) := by omega
            have l2 := lt_of_cell k2
            have l4 := lt_of_cell k4
            clear q2 q4 hl2 hl4 hz hbr
            go_wp2_with fail
            go_quiet (fail)
            go_wp2_with fail
            exact ⟨⟨i + 1, by omega, rfl, congrArg _ (by omega), Lib.hid (HI.out.drewN _)⟩, by simp [intOf]; omega⟩
          · have k4 : wr.cell? ⟨g4, o4 + i, none⟩ = some (.int .i64 (-7 - ((i : Int) - (n2 : Int)))) := by
              have hil : vs.length ≤ i := by have := HVL.out; omega
              have h1 : (ics (vs ++ padV 64))[i]? = some (.int .i64 (-7 - ((i : Int) - (n2 : Int)))) := by
                unfold ics
                rw [List.getElem?_map, List.getElem?_append_right hil, padV_at (by have := HVL.out; omega), HVL.out]
                simp only [Option.map_some]
                congr 2
                omega
              rw [q4, ← h1, List.getElem?_eq_getElem]
            have hi3 : ¬ (i : Int) < (n2 : Int) := by omega
            have wa : IntKind.i64.wrap ((i : Int) - (n2 : Int)) = (i : Int) - (n2 : Int) := by rw [IntWalk.i64_in _ (by omega)]
            have wb7 : IntKind.i64.wrap (-7 - ((i : Int) - (n2 : Int))) = -7 - ((i : Int) - (n2 : Int)) := by rw [IntWalk.i64_in _ (by omega)]
            have l4 := lt_of_cell k4
            clear q4 hl4 hbr
            go_wp2_with fail
            go_quiet (fail)
            go_wp2_with fail
            exact ⟨⟨i + 1, by omega, rfl, congrArg _ (by omega), Lib.hid (HI.out.drewN _)⟩, by simp [intOf]; omega⟩
        · obtain rfl : i = n2 + 64 := by omega
          have hf2r := HF.out.trans hbr
          have hX9 := H2.out.1.keep hf2r
          have cX : wr.cell? ⟨X, 0, none⟩ = some (.slice AL n cL) := hX9.blk.cell 0
          have lX := hX9.blk.lt
          have HTu := Lib.hid (turned3_any _ (.slice AL n cL) n (ps.map LMk.x) wr hle (by simp [hX9.len]) hX9.L HMk.out.1.fit HMk.out.1.one HMk.out.2.2.2.1 HMk.out.2.2.2.2)
          have HXr := Lib.hid hX9
          clear hlt hf2r hX9 hbr
          go_wp2_with fail
          refine Calls.mono HTu.out ?_
          rintro e wt ⟨rfl, ⟨ks, hlk, hok, hfk, h1k, hik, hck, hrk⟩, hkt⟩
          have hbr := H9.out.1.trans HI.out
          have hS8 : Soft wr wt := Soft.own HXr.out.L (by decide) hkt
          have hmt : Mks wt (fun _ => True) AL n ks := ⟨hlk, own_rdT hok, hle, hfk, h1k⟩
          have hokt := hrk wt (fun x hx => by
            obtain ⟨p, hp, rfl⟩ := List.mem_map.1 hx
            exact ((HXr.out.rows p hp).soft hS8).ok)
          have hcap : n ≤ cL := own_cap hok
          have hXt := HXr.out.blk.keep hkt (own_ne_blk HXr.out.L HXr.out.blk (by decide))
          have hv6 := (H9.out.2.1.keep HI.out trivial).keep hkt (own_ne_blk HXr.out.L (H9.out.2.1.keep HI.out trivial) (by decide))
          have hv8 := (H9.out.2.2.keep HI.out trivial).keep hkt (own_ne_blk HXr.out.L (H9.out.2.2.keep HI.out trivial) (by decide))
          have hbx := (H2.out.2.2.keep (HF.out.trans hbr) trivial).keep hkt (own_ne_blk HXr.out.L (H2.out.2.2.keep (HF.out.trans hbr) trivial) (by decide))
          have hoV := own_keep (own_keep HO.out.1 hbr (fun _ _ => trivial)) hkt (fun j hj e => by
            have h1 := (own_lt (own_keep HO.out.1 hbr (fun _ _ => trivial)) hj).1
            have h2 := (own_lt H2.out.1.L e).2
            omega)
          have hFt : Fresh W wt := (H2.out.2.1.trans (HF.out.trans hbr)).comp hkt (fun _ _ h => h) (fun j hj _ e => by
            have h1 := (own_lt HXr.out.L e).1
            have h3 := HS1.out
            omega)
          obtain ⟨⟨⟨ta, tb⟩, te⟩, hR2⟩ : ∃ R, R = serviceD vs (dsOf ks) := ⟨_, rfl⟩
          have HKt : Hid (∀ w', Fresh wt w' → (w'.cell? ⟨X, 0, none⟩ = some (.slice AL n cL) ∧ w'.cell? ⟨bx, 1, none⟩ = some (.slice A2 n2 c2))) := Lib.hid fun w' hf => ⟨(hXt.keep hf trivial).cell 0, (hbx.keep hf trivial).cell 1⟩
          have HCt : Hid (∀ w', Fresh wt w' → Calls Tryz.prog 7 #[.slice AL n cL, .slice AV n2 cV] w' fun e w'' => e = .returned (.tuple #[.agg #[.int .i64 ta, .int .i64 tb], .int .i64 te]) ∧ Fresh w' w'') := Lib.hid fun w' hf => by
            have h1 := serviceC_any (w := w') (HT.out.fresh (hFt.trans hf)) AL n cL ks (hmt.keep hf) (fun x hx => (hokt x hx).keep hf) hik hck AV n2 cV vs ((vot_rd hoV HVL.out).keep hf) HVL.out hn2
            rw [← hR2] at h1
            exact h1
          have HCv : Hid (∀ w', Fresh wt w' → Calls Tryz.prog 8 #[.slice AL n cL, .slice A2 n2 c2] w' fun e w'' => e = .returned (.tuple #[.agg #[.int .i64 ta, .int .i64 tb], .int .i64 te]) ∧ Fresh w' w'') := Lib.hid fun w' hf => by
            have h1 := rservice_any (w := w') (HT.out.fresh (hFt.trans hf)) AL n cL ks (hmt.keep hf) (fun x hx => (hokt x hx).keep hf) hcap A2 n2 c2 vs (H.out.2.2.2.2.1.keep (hFt.trans hf)) HVL.out hn2
            rw [← service_same, ← hR2] at h1
            exact h1
          have HB := Lib.hid (And.intro hv6 (And.intro hv8 hFt))
          clear hlk hok hfk h1k hik hck hrk hkt hbr hS8 hmt hokt hcap hXt hv6 hv8 hbx hoV hFt hR2 HTu cX lX x1 lx HC HKS HO HXr H9 HI HMk
          go_upto_region 17 with (fail)
          go_cut [12, 13] (fun s12 s13 wz => ∃ bt : Nat, s12 = .pointer (some ⟨bt, 0, none⟩) ∧ s13 = .int .i64 te ∧ Hid (Fresh wt wz ∧ Blk wz bt 29 #[.int .i64 ta, .int .i64 tb] ∧ wt.heap.size ≤ bt))
          case first =>
            refine wp_region_held_drew (S := fun w' => w'.cell? ⟨X, 0, none⟩ = some (.slice AL n cL) ∧ w'.cell? ⟨bx, 1, none⟩ = some (.slice A2 n2 c2)) (by kernel_rfl) (HKt.out _ (Keep.refl _ wt).drew) (fun hHeld => ?_)
            refine wpAnyH_take (i := 0) (v := .pointer (some ⟨X, 0, none⟩)) rfl (by kernel_rfl) (by kernel_rfl) (by kernel_rfl) (fun _ _ _ h => h) (Or.inl ⟨by kernel_rfl, by intro w hSw; simp [go_sem, hSw]⟩) hHeld ?_
            simp only [Act.put, List.getElem_toArray, List.getElem_cons_zero, List.getElem_cons_succ, List.setIfInBounds_toArray, List.set_cons_zero, List.set_cons_succ]
            refine wpAnyH_take (i := 1) (v := .pointer (some ⟨X, 0, none⟩)) rfl (by kernel_rfl) (by kernel_rfl) (by kernel_rfl) (fun _ _ _ h => h) (Or.inl ⟨by kernel_rfl, by intro w hSw; go_simp⟩) hHeld ?_
            simp only [Act.put, List.getElem_toArray, List.getElem_cons_zero, List.getElem_cons_succ, List.setIfInBounds_toArray, List.set_cons_zero, List.set_cons_succ]
            refine wpAnyH_take (i := 2) (v := .pointer (some ⟨X, 0, none⟩)) rfl (by kernel_rfl) (by kernel_rfl) (by kernel_rfl) (fun _ _ _ h => h) (Or.inl ⟨by kernel_rfl, by intro w hSw; go_simp⟩) hHeld ?_
            simp only [Act.put, List.getElem_toArray, List.getElem_cons_zero, List.getElem_cons_succ, List.setIfInBounds_toArray, List.set_cons_zero, List.set_cons_succ]
            refine wpAnyH_take (i := 3) (v := .slice AL n cL) rfl (by kernel_rfl) (by kernel_rfl) (by kernel_rfl) (fun _ _ _ h => h) (Or.inl ⟨by kernel_rfl, by intro w hSw; simp [go_sem, hSw]⟩) hHeld ?_
            simp only [Act.put, List.getElem_toArray, List.getElem_cons_zero, List.getElem_cons_succ, List.setIfInBounds_toArray, List.set_cons_zero, List.set_cons_succ]
            refine wpAnyH_take (i := 4) (v := .slice AV (n2 + 64) cV) rfl (by kernel_rfl) (by kernel_rfl) (by kernel_rfl) (fun _ _ _ h => h) (Or.inl ⟨by kernel_rfl, by intro w hSw; simp [go_sem, hSw]⟩) hHeld ?_
            simp only [Act.put, List.getElem_toArray, List.getElem_cons_zero, List.getElem_cons_succ, List.setIfInBounds_toArray, List.set_cons_zero, List.set_cons_succ]
            refine wpAnyH_take (i := 5) (v := .pointer (some ⟨bx, 1, none⟩)) rfl (by kernel_rfl) (by kernel_rfl) (by kernel_rfl) (fun _ _ _ h => h) (Or.inl ⟨by kernel_rfl, by intro w hSw; go_simp⟩) hHeld ?_
            simp only [Act.put, List.getElem_toArray, List.getElem_cons_zero, List.getElem_cons_succ, List.setIfInBounds_toArray, List.set_cons_zero, List.set_cons_succ]
            refine wpAnyH_take (i := 6) (v := .slice A2 n2 c2) rfl (by kernel_rfl) (by kernel_rfl) (by kernel_rfl) (fun _ _ _ h => h) (Or.inl ⟨by kernel_rfl, by intro w hSw; simp [go_sem, hSw]⟩) hHeld ?_
            simp only [Act.put, List.getElem_toArray, List.getElem_cons_zero, List.getElem_cons_succ, List.setIfInBounds_toArray, List.set_cons_zero, List.set_cons_succ]
            refine wpAnyH_take (i := 7) (v := .int .i64 (n2 : Int)) rfl (by kernel_rfl) (by kernel_rfl) (by kernel_rfl) (fun _ _ _ h => h) (Or.inl ⟨by kernel_rfl, by intro w hSw; go_simp⟩) hHeld ?_
            simp only [Act.put, List.getElem_toArray, List.getElem_cons_zero, List.getElem_cons_succ, List.setIfInBounds_toArray, List.set_cons_zero, List.set_cons_succ]
            refine wpAnyH_take (i := 8) (v := .slice AV n2 cV) rfl (by kernel_rfl) (by kernel_rfl) (by kernel_rfl) (fun _ _ _ h => h) (Or.inl ⟨by kernel_rfl, by intro w hSw; go_simp⟩) hHeld ?_
            simp only [Act.put, List.getElem_toArray, List.getElem_cons_zero, List.getElem_cons_succ, List.setIfInBounds_toArray, List.set_cons_zero, List.set_cons_succ]
            refine wpAnyH_ready (rs := [9, 13]) (by kernel_rfl) (by simp) ?_
            clear hHeld
            refine AllReadyH.cons rfl (fun K hK => ?_) (AllReadyH.cons rfl (fun K hK => ?_) AllReadyH.nil)
            · go_simp
              (with_reducible refine Calls.mono (HCt.out _ ((Keep.refl (fun _ => True) wt).drew)) ?_)
              rintro e wc ⟨rfl, hf⟩
              have HFc := Lib.hid (((Keep.refl (fun _ => True) wt).drew).trans hf)
              clear hf
              go_wp2_with fail
              refine hK.out _ _ (HKt.out _ HFc.out) (fun hHeld => ?_)
              clear hK K
              try simp only [Act.put, List.getElem_toArray, List.getElem_cons_zero, List.getElem_cons_succ, List.setIfInBounds_toArray, List.set_cons_zero, List.set_cons_succ]
              refine wpAnyH_take (i := 10) (v := .tuple #[.agg #[.int .i64 ta, .int .i64 tb], .int .i64 te]) rfl (by kernel_rfl) (by kernel_rfl) (by kernel_rfl) (fun _ _ _ h => h) (Or.inl ⟨by kernel_rfl, by intro w hSw; simp [go_sem, hSw]⟩) hHeld ?_
              simp only [Act.put, List.getElem_toArray, List.getElem_cons_zero, List.getElem_cons_succ, List.setIfInBounds_toArray, List.set_cons_zero, List.set_cons_succ]
              refine wpAnyH_take (i := 11) (v := .agg #[.int .i64 ta, .int .i64 tb]) rfl (by kernel_rfl) (by kernel_rfl) (by kernel_rfl) (fun _ _ _ h => h) (Or.inl ⟨by kernel_rfl, by intro w hSw; simp [go_sem, hSw]⟩) hHeld ?_
              simp only [Act.put, List.getElem_toArray, List.getElem_cons_zero, List.getElem_cons_succ, List.setIfInBounds_toArray, List.set_cons_zero, List.set_cons_succ]
              refine wpAnyH_take (i := 12) (v := .int .i64 te) rfl (by kernel_rfl) (by kernel_rfl) (by kernel_rfl) (fun _ _ _ h => h) (Or.inl ⟨by kernel_rfl, by intro w hSw; simp [go_sem, hSw]⟩) hHeld ?_
              simp only [Act.put, List.getElem_toArray, List.getElem_cons_zero, List.getElem_cons_succ, List.setIfInBounds_toArray, List.set_cons_zero, List.set_cons_succ]
              refine wpAnyH_ready (rs := [13]) (by kernel_rfl) (by simp) ?_
              clear hHeld
              refine AllReadyH.cons rfl (fun K hK => ?_) AllReadyH.nil
              go_simp
              have HA := Lib.hid (And.intro (show wt.heap.size ≤ wc.heap.size from HFc.out.size) (Blk.new wc 29 #[.int .i64 0, .int .i64 0]))
              refine hK.out _ _ (HKt.out _ (HFc.out.alloc _)) (fun hHeld => ?_)
              clear hK K
              try simp only [Act.put, List.getElem_toArray, List.getElem_cons_zero, List.getElem_cons_succ, List.setIfInBounds_toArray, List.set_cons_zero, List.set_cons_succ]
              refine wpAnyH_ready (rs := [14]) (by kernel_rfl) (by simp) ?_
              clear hHeld
              refine AllReadyH.cons rfl (fun K hK => ?_) AllReadyH.nil
              rw [if_pos (by rfl)]
              refine wp_store_mid _ _ _ rfl wc.heap.size 0 #[.int .i64 ta, .int .i64 tb] rfl rfl (HA.out.2.there) (by kernel_rfl) (ver2_all _ _) ?_
              have hfs : Fresh wt (World.setCells (wc.alloc (.cells #[.int .i64 0, .int .i64 0] 29)) wc.heap.size 0 [.int .i64 ta, .int .i64 tb]) := Keep.setCells _ _ _ (HFc.out.alloc _) (fun h _ => absurd h (Nat.not_lt.2 HA.out.1))
              refine hK.out _ _ (HKt.out _ hfs) (fun hHeld => ?_)
              clear hK K
              try simp only [Act.put, List.getElem_toArray, List.getElem_cons_zero, List.getElem_cons_succ, List.setIfInBounds_toArray, List.set_cons_zero, List.set_cons_succ]
              refine wpAnyH_take (i := 15) (v := .int .i64 te) rfl (by kernel_rfl) (by kernel_rfl) (by kernel_rfl) (fun _ _ _ h => h) (Or.inl ⟨by kernel_rfl, by intro w hSw; simp [go_sem, hSw]⟩) hHeld ?_
              simp only [Act.put, List.getElem_toArray, List.getElem_cons_zero, List.getElem_cons_succ, List.setIfInBounds_toArray, List.set_cons_zero, List.set_cons_succ]
              refine wpAnyH_done (by kernel_rfl) ?_ _
              clear hHeld
              go_wp2_with fail
              go_meet
              exact ⟨_, rfl, rfl, Lib.hid ⟨hfs, (HA.out.2.set 0 (.int .i64 ta)).set 1 (.int .i64 tb), HA.out.1⟩⟩
            · go_simp
              refine hK.out _ _ (HKt.out _ ((Keep.refl _ wt).alloc _).drew) (fun hHeld => ?_)
              clear hK K
              obtain ⟨ba, hba⟩ : ∃ b, b = wt.heap.size := ⟨_, rfl⟩
              rw [← hba]
              generalize hwa : World.drew (World.alloc wt _) = wa
              have hfw : Fresh wt wa := by rw [← hwa]; exact ((Keep.refl _ wt).alloc _).drew
              have hbw : Blk wa ba 29 #[.int .i64 0, .int .i64 0] := by rw [← hwa, hba]; exact (Blk.new _ _ _).drew
              have hlw : wt.heap.size ≤ ba := by omega
              have HFa := Lib.hid hfw
              have HA := Lib.hid (And.intro hlw hbw)
              clear hwa hba hfw hbw hlw
              try simp only [Act.put, List.getElem_toArray, List.getElem_cons_zero, List.getElem_cons_succ, List.setIfInBounds_toArray, List.set_cons_zero, List.set_cons_succ]
              refine wpAnyH_ready (rs := [9]) (by kernel_rfl) (by simp) ?_
              clear hHeld
              refine AllReadyH.cons rfl (fun K hK => ?_) AllReadyH.nil
              go_simp
              (with_reducible refine Calls.mono (HCt.out _ HFa.out) ?_)
              rintro e wc ⟨rfl, hf⟩
              have HFc := Lib.hid (HFa.out.trans hf)
              have HB := Lib.hid (And.intro HA.out.1 (HA.out.2.keep hf trivial))
              clear hf
              go_wp2_with fail
              refine hK.out _ _ (HKt.out _ HFc.out) (fun hHeld => ?_)
              clear hK K
              try simp only [Act.put, List.getElem_toArray, List.getElem_cons_zero, List.getElem_cons_succ, List.setIfInBounds_toArray, List.set_cons_zero, List.set_cons_succ]
              refine wpAnyH_take (i := 10) (v := .tuple #[.agg #[.int .i64 ta, .int .i64 tb], .int .i64 te]) rfl (by kernel_rfl) (by kernel_rfl) (by kernel_rfl) (fun _ _ _ h => h) (Or.inl ⟨by kernel_rfl, by intro w hSw; simp [go_sem, hSw]⟩) hHeld ?_
              simp only [Act.put, List.getElem_toArray, List.getElem_cons_zero, List.getElem_cons_succ, List.setIfInBounds_toArray, List.set_cons_zero, List.set_cons_succ]
              refine wpAnyH_take (i := 11) (v := .agg #[.int .i64 ta, .int .i64 tb]) rfl (by kernel_rfl) (by kernel_rfl) (by kernel_rfl) (fun _ _ _ h => h) (Or.inl ⟨by kernel_rfl, by intro w hSw; simp [go_sem, hSw]⟩) hHeld ?_
              simp only [Act.put, List.getElem_toArray, List.getElem_cons_zero, List.getElem_cons_succ, List.setIfInBounds_toArray, List.set_cons_zero, List.set_cons_succ]
              refine wpAnyH_take (i := 12) (v := .int .i64 te) rfl (by kernel_rfl) (by kernel_rfl) (by kernel_rfl) (fun _ _ _ h => h) (Or.inl ⟨by kernel_rfl, by intro w hSw; simp [go_sem, hSw]⟩) hHeld ?_
              simp only [Act.put, List.getElem_toArray, List.getElem_cons_zero, List.getElem_cons_succ, List.setIfInBounds_toArray, List.set_cons_zero, List.set_cons_succ]
              refine wpAnyH_ready (rs := [14]) (by kernel_rfl) (by simp) ?_
              clear hHeld
              refine AllReadyH.cons rfl (fun K hK => ?_) AllReadyH.nil
              rw [if_pos (by rfl)]
              refine wp_store_mid _ _ _ rfl ba 0 #[.int .i64 ta, .int .i64 tb] rfl rfl (HB.out.2.there) (by kernel_rfl) (ver2_all _ _) ?_
              have hfs : Fresh wt (World.setCells wc ba 0 [.int .i64 ta, .int .i64 tb]) := Keep.setCells _ _ _ HFc.out (fun h _ => absurd h (Nat.not_lt.2 HB.out.1))
              refine hK.out _ _ (HKt.out _ hfs) (fun hHeld => ?_)
              clear hK K
              try simp only [Act.put, List.getElem_toArray, List.getElem_cons_zero, List.getElem_cons_succ, List.setIfInBounds_toArray, List.set_cons_zero, List.set_cons_succ]
              refine wpAnyH_take (i := 15) (v := .int .i64 te) rfl (by kernel_rfl) (by kernel_rfl) (by kernel_rfl) (fun _ _ _ h => h) (Or.inl ⟨by kernel_rfl, by intro w hSw; simp [go_sem, hSw]⟩) hHeld ?_
              simp only [Act.put, List.getElem_toArray, List.getElem_cons_zero, List.getElem_cons_succ, List.setIfInBounds_toArray, List.set_cons_zero, List.set_cons_succ]
              refine wpAnyH_done (by kernel_rfl) ?_ _
              clear hHeld
              go_wp2_with fail
              go_meet
              exact ⟨_, rfl, rfl, Lib.hid ⟨hfs, (HB.out.2.set 0 (.int .i64 ta)).set 1 (.int .i64 tb), HB.out.1⟩⟩

          case rest =>
          rename World => wu
          obtain ⟨b12, rfl, rfl, h12⟩ := hcut
          have HKu : Hid (∀ w', Fresh wu w' → (w'.cell? ⟨X, 0, none⟩ = some (.slice AL n cL) ∧ w'.cell? ⟨bx, 1, none⟩ = some (.slice A2 n2 c2))) := Lib.hid fun w' hf => HKt.out w' (h12.out.1.trans hf)
          have HCu : Hid (∀ w', Fresh wu w' → Calls Tryz.prog 8 #[.slice AL n cL, .slice A2 n2 c2] w' fun e w'' => e = .returned (.tuple #[.agg #[.int .i64 ta, .int .i64 tb], .int .i64 te]) ∧ Fresh w' w'') := Lib.hid fun w' hf => HCv.out w' (h12.out.1.trans hf)
          go_upto_region 18 with (fail)
          go_cut [14, 15] (fun s14 s15 wz => ∃ bt : Nat, s14 = .pointer (some ⟨bt, 0, none⟩) ∧ s15 = .int .i64 te ∧ Hid (Fresh wu wz ∧ Blk wz bt 29 #[.int .i64 ta, .int .i64 tb] ∧ wu.heap.size ≤ bt))
          case first =>
            refine wp_region_held_drew (S := fun w' => w'.cell? ⟨X, 0, none⟩ = some (.slice AL n cL) ∧ w'.cell? ⟨bx, 1, none⟩ = some (.slice A2 n2 c2)) (by kernel_rfl) (HKu.out _ (Keep.refl _ wu).drew) (fun hHeld => ?_)
            refine wpAnyH_take (i := 0) (v := .pointer (some ⟨X, 0, none⟩)) rfl (by kernel_rfl) (by kernel_rfl) (by kernel_rfl) (fun _ _ _ h => h) (Or.inl ⟨by kernel_rfl, by intro w hSw; simp [go_sem, hSw]⟩) hHeld ?_
            simp only [Act.put, List.getElem_toArray, List.getElem_cons_zero, List.getElem_cons_succ, List.setIfInBounds_toArray, List.set_cons_zero, List.set_cons_succ]
            refine wpAnyH_take (i := 1) (v := .pointer (some ⟨X, 0, none⟩)) rfl (by kernel_rfl) (by kernel_rfl) (by kernel_rfl) (fun _ _ _ h => h) (Or.inl ⟨by kernel_rfl, by intro w hSw; go_simp⟩) hHeld ?_
            simp only [Act.put, List.getElem_toArray, List.getElem_cons_zero, List.getElem_cons_succ, List.setIfInBounds_toArray, List.set_cons_zero, List.set_cons_succ]
            refine wpAnyH_take (i := 2) (v := .pointer (some ⟨X, 0, none⟩)) rfl (by kernel_rfl) (by kernel_rfl) (by kernel_rfl) (fun _ _ _ h => h) (Or.inl ⟨by kernel_rfl, by intro w hSw; go_simp⟩) hHeld ?_
            simp only [Act.put, List.getElem_toArray, List.getElem_cons_zero, List.getElem_cons_succ, List.setIfInBounds_toArray, List.set_cons_zero, List.set_cons_succ]
            refine wpAnyH_take (i := 3) (v := .slice AL n cL) rfl (by kernel_rfl) (by kernel_rfl) (by kernel_rfl) (fun _ _ _ h => h) (Or.inl ⟨by kernel_rfl, by intro w hSw; simp [go_sem, hSw]⟩) hHeld ?_
            simp only [Act.put, List.getElem_toArray, List.getElem_cons_zero, List.getElem_cons_succ, List.setIfInBounds_toArray, List.set_cons_zero, List.set_cons_succ]
            refine wpAnyH_take (i := 4) (v := .pointer (some ⟨bx, 1, none⟩)) rfl (by kernel_rfl) (by kernel_rfl) (by kernel_rfl) (fun _ _ _ h => h) (Or.inl ⟨by kernel_rfl, by intro w hSw; go_simp⟩) hHeld ?_
            simp only [Act.put, List.getElem_toArray, List.getElem_cons_zero, List.getElem_cons_succ, List.setIfInBounds_toArray, List.set_cons_zero, List.set_cons_succ]
            refine wpAnyH_take (i := 5) (v := .slice A2 n2 c2) rfl (by kernel_rfl) (by kernel_rfl) (by kernel_rfl) (fun _ _ _ h => h) (Or.inl ⟨by kernel_rfl, by intro w hSw; simp [go_sem, hSw]⟩) hHeld ?_
            simp only [Act.put, List.getElem_toArray, List.getElem_cons_zero, List.getElem_cons_succ, List.setIfInBounds_toArray, List.set_cons_zero, List.set_cons_succ]
            refine wpAnyH_ready (rs := [6, 10]) (by kernel_rfl) (by simp) ?_
            clear hHeld
            refine AllReadyH.cons rfl (fun K hK => ?_) (AllReadyH.cons rfl (fun K hK => ?_) AllReadyH.nil)
            · go_simp
              (with_reducible refine Calls.mono (HCu.out _ ((Keep.refl (fun _ => True) wu).drew)) ?_)
              rintro e wc ⟨rfl, hf⟩
              have HFc := Lib.hid (((Keep.refl (fun _ => True) wu).drew).trans hf)
              clear hf
              go_wp2_with fail
              refine hK.out _ _ (HKu.out _ HFc.out) (fun hHeld => ?_)
              clear hK K
              try simp only [Act.put, List.getElem_toArray, List.getElem_cons_zero, List.getElem_cons_succ, List.setIfInBounds_toArray, List.set_cons_zero, List.set_cons_succ]
              refine wpAnyH_take (i := 7) (v := .tuple #[.agg #[.int .i64 ta, .int .i64 tb], .int .i64 te]) rfl (by kernel_rfl) (by kernel_rfl) (by kernel_rfl) (fun _ _ _ h => h) (Or.inl ⟨by kernel_rfl, by intro w hSw; simp [go_sem, hSw]⟩) hHeld ?_
              simp only [Act.put, List.getElem_toArray, List.getElem_cons_zero, List.getElem_cons_succ, List.setIfInBounds_toArray, List.set_cons_zero, List.set_cons_succ]
              refine wpAnyH_take (i := 8) (v := .agg #[.int .i64 ta, .int .i64 tb]) rfl (by kernel_rfl) (by kernel_rfl) (by kernel_rfl) (fun _ _ _ h => h) (Or.inl ⟨by kernel_rfl, by intro w hSw; simp [go_sem, hSw]⟩) hHeld ?_
              simp only [Act.put, List.getElem_toArray, List.getElem_cons_zero, List.getElem_cons_succ, List.setIfInBounds_toArray, List.set_cons_zero, List.set_cons_succ]
              refine wpAnyH_take (i := 9) (v := .int .i64 te) rfl (by kernel_rfl) (by kernel_rfl) (by kernel_rfl) (fun _ _ _ h => h) (Or.inl ⟨by kernel_rfl, by intro w hSw; simp [go_sem, hSw]⟩) hHeld ?_
              simp only [Act.put, List.getElem_toArray, List.getElem_cons_zero, List.getElem_cons_succ, List.setIfInBounds_toArray, List.set_cons_zero, List.set_cons_succ]
              refine wpAnyH_ready (rs := [10]) (by kernel_rfl) (by simp) ?_
              clear hHeld
              refine AllReadyH.cons rfl (fun K hK => ?_) AllReadyH.nil
              go_simp
              have HA := Lib.hid (And.intro (show wu.heap.size ≤ wc.heap.size from HFc.out.size) (Blk.new wc 29 #[.int .i64 0, .int .i64 0]))
              refine hK.out _ _ (HKu.out _ (HFc.out.alloc _)) (fun hHeld => ?_)
              clear hK K
              try simp only [Act.put, List.getElem_toArray, List.getElem_cons_zero, List.getElem_cons_succ, List.setIfInBounds_toArray, List.set_cons_zero, List.set_cons_succ]
              refine wpAnyH_ready (rs := [11]) (by kernel_rfl) (by simp) ?_
              clear hHeld
              refine AllReadyH.cons rfl (fun K hK => ?_) AllReadyH.nil
              rw [if_pos (by rfl)]
              refine wp_store_mid _ _ _ rfl wc.heap.size 0 #[.int .i64 ta, .int .i64 tb] rfl rfl (HA.out.2.there) (by kernel_rfl) (ver2_all _ _) ?_
              have hfs : Fresh wu (World.setCells (wc.alloc (.cells #[.int .i64 0, .int .i64 0] 29)) wc.heap.size 0 [.int .i64 ta, .int .i64 tb]) := Keep.setCells _ _ _ (HFc.out.alloc _) (fun h _ => absurd h (Nat.not_lt.2 HA.out.1))
              refine hK.out _ _ (HKu.out _ hfs) (fun hHeld => ?_)
              clear hK K
              try simp only [Act.put, List.getElem_toArray, List.getElem_cons_zero, List.getElem_cons_succ, List.setIfInBounds_toArray, List.set_cons_zero, List.set_cons_succ]
              refine wpAnyH_take (i := 12) (v := .int .i64 te) rfl (by kernel_rfl) (by kernel_rfl) (by kernel_rfl) (fun _ _ _ h => h) (Or.inl ⟨by kernel_rfl, by intro w hSw; simp [go_sem, hSw]⟩) hHeld ?_
              simp only [Act.put, List.getElem_toArray, List.getElem_cons_zero, List.getElem_cons_succ, List.setIfInBounds_toArray, List.set_cons_zero, List.set_cons_succ]
              refine wpAnyH_done (by kernel_rfl) ?_ _
              clear hHeld
              go_wp2_with fail
              go_meet
              exact ⟨_, rfl, rfl, Lib.hid ⟨hfs, (HA.out.2.set 0 (.int .i64 ta)).set 1 (.int .i64 tb), HA.out.1⟩⟩
            · go_simp
              refine hK.out _ _ (HKu.out _ ((Keep.refl _ wu).alloc _).drew) (fun hHeld => ?_)
              clear hK K
              obtain ⟨ba, hba⟩ : ∃ b, b = wu.heap.size := ⟨_, rfl⟩
              rw [← hba]
              generalize hwa : World.drew (World.alloc wu _) = wa
              have hfw : Fresh wu wa := by rw [← hwa]; exact ((Keep.refl _ wu).alloc _).drew
              have hbw : Blk wa ba 29 #[.int .i64 0, .int .i64 0] := by rw [← hwa, hba]; exact (Blk.new _ _ _).drew
              have hlw : wu.heap.size ≤ ba := by omega
              have HFa := Lib.hid hfw
              have HA := Lib.hid (And.intro hlw hbw)
              clear hwa hba hfw hbw hlw
              try simp only [Act.put, List.getElem_toArray, List.getElem_cons_zero, List.getElem_cons_succ, List.setIfInBounds_toArray, List.set_cons_zero, List.set_cons_succ]
              refine wpAnyH_ready (rs := [6]) (by kernel_rfl) (by simp) ?_
              clear hHeld
              refine AllReadyH.cons rfl (fun K hK => ?_) AllReadyH.nil
              go_simp
              (with_reducible refine Calls.mono (HCu.out _ HFa.out) ?_)
              rintro e wc ⟨rfl, hf⟩
              have HFc := Lib.hid (HFa.out.trans hf)
              have HB := Lib.hid (And.intro HA.out.1 (HA.out.2.keep hf trivial))
              clear hf
              go_wp2_with fail
              refine hK.out _ _ (HKu.out _ HFc.out) (fun hHeld => ?_)
              clear hK K
              try simp only [Act.put, List.getElem_toArray, List.getElem_cons_zero, List.getElem_cons_succ, List.setIfInBounds_toArray, List.set_cons_zero, List.set_cons_succ]
              refine wpAnyH_take (i := 7) (v := .tuple #[.agg #[.int .i64 ta, .int .i64 tb], .int .i64 te]) rfl (by kernel_rfl) (by kernel_rfl) (by kernel_rfl) (fun _ _ _ h => h) (Or.inl ⟨by kernel_rfl, by intro w hSw; simp [go_sem, hSw]⟩) hHeld ?_
              simp only [Act.put, List.getElem_toArray, List.getElem_cons_zero, List.getElem_cons_succ, List.setIfInBounds_toArray, List.set_cons_zero, List.set_cons_succ]
              refine wpAnyH_take (i := 8) (v := .agg #[.int .i64 ta, .int .i64 tb]) rfl (by kernel_rfl) (by kernel_rfl) (by kernel_rfl) (fun _ _ _ h => h) (Or.inl ⟨by kernel_rfl, by intro w hSw; simp [go_sem, hSw]⟩) hHeld ?_
              simp only [Act.put, List.getElem_toArray, List.getElem_cons_zero, List.getElem_cons_succ, List.setIfInBounds_toArray, List.set_cons_zero, List.set_cons_succ]
              refine wpAnyH_take (i := 9) (v := .int .i64 te) rfl (by kernel_rfl) (by kernel_rfl) (by kernel_rfl) (fun _ _ _ h => h) (Or.inl ⟨by kernel_rfl, by intro w hSw; simp [go_sem, hSw]⟩) hHeld ?_
              simp only [Act.put, List.getElem_toArray, List.getElem_cons_zero, List.getElem_cons_succ, List.setIfInBounds_toArray, List.set_cons_zero, List.set_cons_succ]
              refine wpAnyH_ready (rs := [11]) (by kernel_rfl) (by simp) ?_
              clear hHeld
              refine AllReadyH.cons rfl (fun K hK => ?_) AllReadyH.nil
              rw [if_pos (by rfl)]
              refine wp_store_mid _ _ _ rfl ba 0 #[.int .i64 ta, .int .i64 tb] rfl rfl (HB.out.2.there) (by kernel_rfl) (ver2_all _ _) ?_
              have hfs : Fresh wu (World.setCells wc ba 0 [.int .i64 ta, .int .i64 tb]) := Keep.setCells _ _ _ HFc.out (fun h _ => absurd h (Nat.not_lt.2 HB.out.1))
              refine hK.out _ _ (HKu.out _ hfs) (fun hHeld => ?_)
              clear hK K
              try simp only [Act.put, List.getElem_toArray, List.getElem_cons_zero, List.getElem_cons_succ, List.setIfInBounds_toArray, List.set_cons_zero, List.set_cons_succ]
              refine wpAnyH_take (i := 12) (v := .int .i64 te) rfl (by kernel_rfl) (by kernel_rfl) (by kernel_rfl) (fun _ _ _ h => h) (Or.inl ⟨by kernel_rfl, by intro w hSw; simp [go_sem, hSw]⟩) hHeld ?_
              simp only [Act.put, List.getElem_toArray, List.getElem_cons_zero, List.getElem_cons_succ, List.setIfInBounds_toArray, List.set_cons_zero, List.set_cons_succ]
              refine wpAnyH_done (by kernel_rfl) ?_ _
              clear hHeld
              go_wp2_with fail
              go_meet
              exact ⟨_, rfl, rfl, Lib.hid ⟨hfs, (HB.out.2.set 0 (.int .i64 ta)).set 1 (.int .i64 tb), HB.out.1⟩⟩

          case rest =>
          rename World => wy
          obtain ⟨b14, rfl, rfl, h14⟩ := hcut
          have hy := h12.out.1.trans h14.out.1
          have hb6 := HB.out.1.keep hy trivial
          have hb8 := HB.out.2.1.keep hy trivial
          have hb12 := h12.out.2.1.keep h14.out.1 trivial
          have hb14 := h14.out.2.1
          have a0 := hb6.cell 0; have a1 := hb6.cell 1; have la := hb6.lt
          have c0 := hb8.cell 0; have c1 := hb8.cell 1; have lc := hb8.lt
          have d0 := hb12.cell 0; have d1 := hb12.cell 1; have ld := hb12.lt
          have e0 := hb14.cell 0; have e1 := hb14.cell 1; have le := hb14.lt
          simp at a0 a1 c0 c1 d0 d1 e0 e1
          have HEnd := Lib.hid (HB.out.2.2.trans hy)
          clear hy hb6 hb8 hb12 hb14 h12 h14 HB HCu HKu HCv HCt HKt
          go_wp2_with fail
          go_ret
          exact ⟨rfl, HEnd.out⟩
end Go.Proofs.YtohnmaindbgngaaGreatDoor
namespace Go.Proofs.YtohnmaindbgngaaGreatDoor.auditService
set_option linter.unusedVariables false
set_option linter.unusedSimpArgs false
open Go.ChangeShapes Go.WideShapes Go.ChangeAt Go.RowKit

theorem own : ownKnob Tryz.prog.godebug = none := by kernel_rfl
theorem gPowT : (Tryz.prog.globals[3]?).map (·.type) = some 231 := by kernel_rfl
theorem gShpT : (Tryz.prog.globals[0]?).map (·.type) = some 150 := by kernel_rfl
theorem gSynT : (Tryz.prog.globals[1]?).map (·.type) = some 180 := by kernel_rfl
theorem starErr : "*" ++ "errors.errorString" = "*errors.errorString" := by decide
theorem rowErr (u : TypeId) (h : Tryz.prog.typeName? 3 u = some "*errors.errorString") : u = 235 :=
  typeName_ptr_named (nm := "errors.errorString") (by rw [starErr]; kernel_rfl) (by kernel_rfl) (by decide) u (by rw [starErr]; exact h)

theorem tabs_of_laid {W : World} (h : laidMetH Tryz.prog Rows.auditServiceRow.laid W) : Tabs W := by
  have h0 : laidMet Tryz.prog Rows.auditServiceRow.laid W := h
  have h2 := h0.tail.tail
  have h4 := h2.tail.tail
  have h5 := h4.tail
  obtain ⟨a, s, hs, _, _, _⟩ := laid_sentinel h4 gSyn gSynT Tryz.underlying180 rowErr Tryz.underlying235 Tryz.underlying237 rfl rfl Tryz.underlying9 (by kernel_rfl) (by kernel_rfl)
  exact ⟨Lib.tabIs_of_head (zs := Lib.pow10Tab) (rest := _) gPow gPowT Tryz.underlying231 Tryz.underlying149 (by kernel_rfl) (by kernel_rfl) h2,
    Lib.tabIs_of_head (zs := shapeTab) (rest := []) gShp gShpT Tryz.underlying150 Tryz.underlying3 (by kernel_rfl) (by kernel_rfl) h5, _, _, hs⟩

set_option maxRecDepth 100000 in
theorem contract (H : Type) (enc : TypeId × Value → H) (W : World) (base : Nat) (args : Array Value) (ds gs : List (DataW H)) (before : List MemPlace)
    (hval : ∀ (j : Nat) t v, Tryz.f3.params[j]? = some t → args[j]? = some v → Value.okWide Tryz.prog W .any base t v)
    (hW : DataW.Whole enc Tryz.prog Tryz.f3.params.toList Rows.auditServiceSpec.vars false W args.toList ds gs before) (hL : laidMetH Tryz.prog Rows.auditServiceRow.laid W) (hS : Rows.uptoSmall H (ds ++ gs) = true) :
    Calls Tryz.prog 3 args W fun e W' => ∃ v, e = .returned v ∧ Rows.auditServiceSpec.post enc Tryz.prog Tryz.f3 false true false false W args v W' := by
  have hW' := hW
  obtain ⟨p, q, hA0, hV, rfl, hfz, hnd⟩ := hW
  have hA : DataW.TrodAll enc Tryz.prog W 0 (fun _ => true) true Tryz.f3.params.toList args.toList ds p := hA0
  rw [Tryz.params3] at hA hval
  obtain ⟨v0, vs0, d0, ds0, p0, q0, hargs, rfl, rfl, h0, r0⟩ := trodAll_cons hA
  obtain ⟨rfl, rfl, rfl⟩ := trodAll_nil r0
  obtain rfl : args = #[v0] := by cases args; simp_all
  obtain ⟨rfl, rfl⟩ := trodVars_none hV
  obtain ⟨A, A2, n, c, n2, c2, K, hs, vs, rfl, hnc, hn, hm, hok, hi, hcm, hrd2, hlv, hn2, hnl⟩ := open_case (hval 0 _ v0 rfl rfl) h0 (small_one (by simpa using hS))
  refine (audsrv_any A A2 n c n2 c2 K hs vs W (tabs_of_laid hL) hm hok hi hcm hnc hn hrd2 hlv hn2 hnl).mono fun e W' ⟨he, hf⟩ => ?_
  subst he
  exact ⟨_, rfl, post_true laidOut (by kernel_rfl) rfl Tryz.underlying4 rfl hW' rfl hf.below⟩

/-! ### a world for the witness -/
abbrev rangeS : ByteArray := { data := #[118, 97, 108, 117, 101, 32, 111, 117, 116, 32, 111, 102, 32, 114, 97, 110, 103, 101] }
abbrev syntaxS : ByteArray := { data := #[105, 110, 118, 97, 108, 105, 100, 32, 115, 121, 110, 116, 97, 120] }
def litCell : DataW Unit → Value
  | .lit (.int k z) => .int k z
  | _ => undef
def tabCells : DataW Unit → Array Value
  | .agg l => (l.map litCell).toArray
  | _ => #[]
noncomputable def low : Nat := (World.holding Tryz.prog default ⟨#[], #[], []⟩).heap.size
def put (cs : Array Value) : Obj → Obj
  | .cells _ t frozen => .cells cs t frozen
  | o => o
noncomputable def laidWorld (os : Os) : World :=
  let w0 := World.holding Tryz.prog os ⟨#[.cells #[.string rangeS] 237, .cells #[.string syntaxS] 237], #[], []⟩
  { w0 with heap := (((((w0.heap.modify 4 (put (tabCells Rows.laid_math_bits_deBruijn32tab))).modify 5 (put (tabCells Rows.laid_math_bits_deBruijn64tab))).modify 3 (put (tabCells Rows.laid_internal_strconv_uint64pow10))).modify
      2 (put #[.iface 235 (.pointer (some ⟨low, 0, none⟩))])).modify 1 (put #[.iface 235 (.pointer (some ⟨low + 1, 0, none⟩))])).modify 0 (put (tabCells Rows.laid_quorate_machine_shapes)) }
abbrev zeroArgs : Array Value := #[.agg #[.slice none 0 0, .slice none 0 0, .int .i64 0]]
set_option maxRecDepth 100000 in
theorem laid_met (os : Os) : laidMet Tryz.prog Rows.auditServiceUptoRow.laid ((laidWorld os).forCall (fun _ _ => 0) ⟨#[], zeroArgs, []⟩).memory :=
  laidMet_of_run' 8 (by kernel_rfl) (by kernel_rfl)
theorem reads (os : Os) {H : Type} (enc : TypeId × Value → H) : ∃ places, DataW.whole enc Tryz.prog ((laidWorld os).forCall (fun _ _ => 0) ⟨#[], zeroArgs, []⟩).memory Tryz.f3.params.toList Rows.auditServiceSpec.vars false zeroArgs.toList 8 = some ([.agg [.nil, .nil, .lit (.int .i64 0)]], [], places) :=
  ⟨[], by kernel_rfl⟩

set_option maxRecDepth 100000 in
theorem liftedUpto (os : Os) (started : os.Started) (H : Type) (enc : TypeId × Value → H) (F : Stop.Interp) :
    ReturnsInHanded {} Tryz.checked os 3 .any ((Rows.OpenSpec.upto Rows.auditServiceSpec).preRow enc Tryz.prog Tryz.f3 Rows.auditServiceUptoRow.domain false Rows.auditServiceUptoRow.laid) (((Rows.OpenSpec.upto Rows.auditServiceSpec).at F).post enc Tryz.prog Tryz.f3 false true false false) := by
  obtain ⟨places, hx⟩ := reads os enc
  refine returnsInHanded_of_row (C := Tryz.checked) (s := Rows.OpenSpec.upto Rows.auditServiceSpec) own started (by kernel_rfl) Tryz.func3
    (witness_row_at (enc := enc) (C := Tryz.checked) false (laidWorld os) zeroArgs rfl (by kernel_rfl) (by kernel_rfl) (by kernel_rfl)
      (OpenSpec.preRow_of_cond 8 hx (by kernel_rfl) (fun k hk => by cases hk; kernel_rfl) (by kernel_rfl) (laid_met os))) ?_
  intro W base args ds gs before hval hW _ hcond _ hL _ _
  exact contract H enc W base args ds gs before hval hW hL (hcond _ rfl)

theorem saidUpto : Rows.AuditServiceUptoSaid :=
  OpenClaim.holds_of_cond 3 Tryz.f3 rfl rfl rfl rfl rfl rfl rfl ⟨rfl, rfl, rfl, rfl, rfl⟩ rfl rfl rfl rfl rfl (by kernel_rfl) Tryz.func3 (by kernel_rfl)
    (of_decide_eq_true (by kernel_rfl)) (by unfold Func.isWrapper; first | (rw [if_pos (by decide +kernel)]; kernel_rfl) | (rw [if_neg (by decide +kernel)]; exact ⟨rfl, rfl⟩))
    (fun os started H enc _ F => by rw [OpenClaim.pre_eq_preRow]; exact liftedUpto os started H enc F)

/-- No parameter wants a stand-in; the program's own looks are off. -/
theorem plain (f : FuncId) (fn : Func) (hf : Tryz.pinned.checked.prog.funcNamed "quorate/quoratelaw17.AuditService" = some f) (hfn : Tryz.pinned.checked.prog.funcs[f]? = some fn) :
    true = Tryz.pinned.checked.prog.looks [] ∧ ∀ (j : Nat) t, fn.params[j]? = some t → Tryz.pinned.checked.prog.wantsStandIn t = false := by
  obtain rfl : f = 3 := Option.some.inj ((show Tryz.prog.funcNamed "quorate/quoratelaw17.AuditService" = some 3 by kernel_rfl).symm.trans hf) |>.symm
  obtain rfl : fn = Tryz.f3 := (Option.some.inj (Tryz.func3.symm.trans hfn)).symm
  refine ⟨by kernel_rfl, fun j t ht => ?_⟩
  rw [Tryz.params3] at ht
  have hm := Array.mem_of_getElem? ht
  simp only [List.mem_toArray, List.mem_cons, List.not_mem_nil, or_false] at hm
  subst hm
  exact (show Tryz.prog.wantsStandIn 25 = false by kernel_rfl)

theorem cardUpto : Rows.AuditServiceUptoCardSaid :=
  Claim7.holds_tied_plain_at .later [] _ _ _ _ saidUpto (fun _ h => by cases h) (by kernel_rfl) (fun _ h => by cases h) auditServiceUpto_row_tie rfl ⟨rfl, rfl⟩ (by kernel_rfl) rfl plain (by kernel_rfl)
end Go.Proofs.YtohnmaindbgngaaGreatDoor.auditService
