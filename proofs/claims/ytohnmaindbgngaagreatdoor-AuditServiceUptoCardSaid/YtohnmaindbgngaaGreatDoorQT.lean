/-
  MERGED: SrvG
-/
import Derived.Test.YtohnmaindbgngaaGreatDoorQQ
import Derived.Test.YtohnmaindbgngaaGreatDoorQR
import Derived.Test.YtohnmaindbgngaaGreatDoorQS
import Derived.StillTailTactics
namespace Go.Proofs.YtohnmaindbgngaaGreatDoor
set_option linter.unusedVariables false
set_option linter.unusedSimpArgs false
open Go.RowKit Go.BigFrame

theorem view_ne2 {x y : V4} (h : x ≠ y) : (x.1 == y.1) = false ∨ (x.1 = y.1 ∧ (x.2.1 == y.2.1) = false) ∨ (x.1 = y.1 ∧ x.2.1 = y.2.1 ∧ (x.2.2.1 == y.2.2.1) = false) ∨ (x.1 = y.1 ∧ x.2.1 = y.2.1 ∧ x.2.2.1 = y.2.2.1 ∧ (x.2.2.2 == y.2.2.2) = false) := by
  by_cases e1 : x.1 = y.1
  · by_cases e2 : x.2.1 = y.2.1
    · by_cases e3 : x.2.2.1 = y.2.2.1
      · exact .inr (.inr (.inr ⟨e1, e2, e3, by simpa using fun e4 => h (Prod.ext e1 (Prod.ext e2 (Prod.ext e3 e4)))⟩))
      · exact .inr (.inr (.inl ⟨e1, e2, by simpa using e3⟩))
    · exact .inr (.inl ⟨e1, by simpa using e2⟩)
  · exact .inl (by simpa using e1)
theorem neview2 (x y : V4) (w : World) : Sem.run Tryz.prog (binOp BinOp.neq 45 (.agg #[.int .i64 x.1, .int .i64 x.2.1, .int .i64 x.2.2.1, .int .i64 x.2.2.2]) (.agg #[.int .i64 y.1, .int .i64 y.2.1, .int .i64 y.2.2.1, .int .i64 y.2.2.2])) w = .ok (.bool (decide (x ≠ y))) w := by
  by_cases h : x = y
  · subst h
    rw [decide_eq_false (by simp)]
    go_simp
  · rw [decide_eq_true h]
    rcases view_ne2 h with hb | ⟨e1, hb⟩ | ⟨e1, e2, hb⟩ | ⟨e1, e2, e3, hb⟩
    · go_simp
    · go_simp
    · go_simp
    · go_simp
theorem part_adopt {w : World} {b : Nat} {q : PartD} (h : Blk w b 102 (partV q)) : Blk ((w.setCell ⟨b, 7, none⟩ (.bool true)).setCell ⟨b, 8, none⟩ (.bool true)) b 102 (partV { q with adopted := true, since := true }) := (h.set 7 (.bool true)).set 8 (.bool true)
theorem StepS.after {W w w1 w' : World} {T T1 : Nat → STag} {F : SFix} {k k' : Nat} {vs : List Int} {X : Int × SrvD} (hT : SMore T T1) (hk : Keep (SB W T) w w1) (h : StepS W w1 w' T1 F k vs X) (hkk : k ≤ k') : StepS W w w' T F k' vs X :=
  ⟨hk.trans (h.keep.weaken fun j _ hj => hj.imp id fun e => hT.at e (by simp)), fun e => by
    obtain ⟨T2, h1, h2⟩ := h.next e
    exact ⟨T2, hT.trans h1, h2.mono hkk⟩⟩
/-- The maps' loop of rule 26. -/
structure RngA (w wr : World) (F : SFix) (r : Nat) (ps : List Ke) (left : Lit → Bool) (cnt : Nat) (f : Int → Option Int) (e n : Int) : Prop where
  rg : wr.ranges Tryz.prog 3 Kr F.u r ps.length (kD ps) left cnt
  ok : ∀ x y, I64 x → f x = some y → left (mkInt.lit x) = false → ¬ (x < e ∧ n < y)
  fresh : Fresh w wr
theorem Parts.lookN {w : World} {T : Nat → STag} {bp k : Nat} {f : Who → Option PartD} (h : Parts w T bp k f) {x : Who} (hx : InW x) (hf : f x = none) (w' : World) (hf' : Fresh w w') : (Instr.lookup 89 (.map (some bp)) (whoA x) false).run Tryz.prog w' = .ok (.pointer none) w' := by
  obtain ⟨g, h1, h2⟩ := h
  have := h1.lookF (M := mkWho) Tryz.underlying89 (fun u => Tryz.zeroValue98 u) hx w' hf'
  rw [(h2 x hx).1 hf] at this
  exact this
/-- Behind the look for the part. -/
structure SrvP (W w wt : World) (T T2 : Nat → STag) (F : SFix) (K : Nat) (vs : List Int) (s1 : SrvD) (x : MkV) (b bm bw : Nat) (p : PartD) : Prop where
  more : SMore T T2
  sm : SM W wt T2 F K vs s1
  pa : PartAt wt T2 F.p K s1.parts x.d.who b
  pp : s1.parts x.d.who = some p
  keep : Keep (SB W T) w wt
  mb : MkB wt bm x
  wb : Blk wt bw 97 #[.int .i64 x.d.node, .int .i64 x.d.inc]
theorem SrvP.then {W w wt wu : World} {T T2 : Nat → STag} {F : SFix} {K : Nat} {vs : List Int} {s1 : SrvD} {x : MkV} {b bm bw : Nat} {p : PartD} (h : SrvP W w wt T T2 F K vs s1 x b bm bw p) (hf : Fresh wt wu) : SrvP W w wu T T2 F K vs s1 x b bm bw p :=
  ⟨h.more, h.sm.then hf, h.pa.keep hf trivial (fun _ _ _ => trivial) (SMore.refl T2) (Nat.le_refl K), h.pp, h.keep.trans (hf.weaken fun _ _ _ => trivial), ⟨h.mb.blk.keep hf trivial⟩, h.wb.keep hf trivial⟩
set_option maxRecDepth 20000 in
set_option maxHeartbeats 2000000 in
theorem service_any {W w : World} {T : Nat → STag} {F : SFix} {K k : Nat} {vs : List Int} {s : SrvD} (hS : SM W w T F K vs s) (hB : BdS s k) (hV : BdW s) (hq : ballotB vs = true) (hK : K ≤ 3900000) (hk : k ≤ 1048575) (x : MkV) (hx : SIn W.heap.size w x) :
    Calls Tryz.prog 19 #[.pointer (some ⟨F.g, 0, none⟩), .agg x.cells.toArray] w fun e w' => e = .returned (.int .i64 (serveS vs s x.d).1) ∧ StepS W w w' T F (K + 3) vs (serveS vs s x.d) := by
  obtain ⟨R, hR⟩ : ∃ R, R = serveS vs s x.d := ⟨_, rfl⟩
  rw [← hR]
  obtain ⟨r, s'⟩ := R
  simp only
  have H := Lib.hid (And.intro hS (And.intro hB (And.intro hx (And.intro hV (And.intro hq hR)))))
  obtain ⟨w0, hw0⟩ : ∃ w0, w0 = w.alloc (.cells x.cells.toArray 51) := ⟨_, rfl⟩
  obtain ⟨bm, hbm⟩ : ∃ b, b = w.heap.size := ⟨_, rfl⟩
  have hf0 : Fresh w w0 := hw0 ▸ (Keep.refl _ w).alloc _
  have hmb : MkB w0 bm x := by rw [hw0, hbm]; exact MkB.new w x
  have k1 := hmb.kind; have k2 := hmb.node; have k3 := hmb.inc; have tm := hmb.blk.lt
  have H0 := Lib.hid (And.intro hf0 (And.intro hmb (show w.heap.size ≤ bm by omega)))
  obtain ⟨zk, hzk⟩ : ∃ z, z = x.d.kind := ⟨_, rfl⟩
  rw [← hzk] at k1
  have HZ := Lib.hid hzk
  clear hS hB hx hV hq hR hf0 hmb hzk
  go_enter Tryz.func19, Tryz.ntmps19
  go_upto_region 1 with (fail)
  rw [← hbm, ← hw0]
  clear hbm hw0
  by_cases c15 : zk = 15
  · subst c15
    obtain ⟨rfl, rfl⟩ : r = 0 ∧ s' = s := by
      have := H.out.2.2.2.2.2
      rw [serve_15 HZ.out.symm] at this
      exact Prod.mk.inj this
    go_wp2_with fail
    go_ret
    exact ⟨rfl, H0.out.1.weaken fun _ _ _ => trivial, fun _ => ⟨T, SMore.refl T, (H.out.1.then H0.out.1).mono (by omega)⟩⟩
  have b15 : (zk == 15) = false := by simpa using c15
  have HC15 := Lib.hid c15
  clear c15
  go_upto_region 4 with (fail)
  obtain ⟨bw, hbw⟩ : ∃ b, b = w0.heap.size := ⟨_, rfl⟩
  generalize hw2 : World.alloc w0 _ = w2
  have hf2 : Fresh w0 w2 := by rw [← hw2]; exact (Keep.refl _ w0).alloc _
  have hwb : Blk w2 bw 97 #[.int .i64 x.d.node, .int .i64 x.d.inc] := by rw [← hw2, hbw]; exact Blk.new _ _ _
  rw [← hbw]
  have H2 := Lib.hid (And.intro (H0.out.1.trans hf2) (And.intro (⟨H0.out.2.1.blk.keep hf2 trivial⟩ : MkB w2 bm x) (And.intro hwb (show w.heap.size ≤ bw by have := H0.out.1.size; omega))))
  clear hw2 hf2 hwb hbw k1 k2 k3 tm b15
  obtain ⟨pf, hpf⟩ : ∃ o, o = s.parts x.d.who := ⟨_, rfl⟩
  obtain ⟨nw, hnw⟩ : ∃ n : Bool, n = (pf.isNone || decide (zk = 1)) := ⟨_, rfl⟩
  have HN := Lib.hid (And.intro hpf hnw)
  clear hpf hnw
  go_cut [28] (fun sv wz => sv = .bool nw ∧ Hid (Fresh w2 wz))
  case first =>
      have hv := H.out.1.blk.keep H2.out.1 trivial
      have g1 : w2.cell? ⟨F.g, 1, none⟩ = some (.map (some F.p)) := hv.cell 1
      have tg := hv.lt
      have b0 := H2.out.2.2.1.cell 0; have b1 := H2.out.2.2.1.cell 1; have tw := H2.out.2.2.1.lt
      simp at b0 b1
      have k1 := H2.out.2.1.kind
      have tm := H2.out.2.1.blk.lt
      rw [← HZ.out] at k1
      clear hv
      cases pf with
      | none =>
        obtain rfl : nw = true := by rw [HN.out.2]; rfl
        have L : ∀ q, (Instr.lookup 89 (.map (some F.p)) (.agg #[.int .i64 x.d.node, .int .i64 x.d.inc]) false).run Tryz.prog (w2.drewN q) = .ok (.pointer none) (w2.drewN q) := fun q => H.out.1.parts.lookN H.out.2.2.1.ints.who HN.out.1.symm _ (H2.out.1.drewN q)
        go_quiet (fail)
        go_wp2_with fail
        go_meet
        exact ⟨rfl, Lib.hid ((Keep.refl _ w2).drewN _)⟩
      | some p0 =>
        obtain ⟨c, hc⟩ := H.out.1.parts.at' H.out.2.2.1.ints.who HN.out.1.symm
        have L : ∀ q, (Instr.lookup 89 (.map (some F.p)) (.agg #[.int .i64 x.d.node, .int .i64 x.d.inc]) false).run Tryz.prog (w2.drewN q) = .ok (.pointer (some ⟨c, 0, none⟩)) (w2.drewN q) := fun q => hc.look H.out.2.2.1.ints.who _ (H2.out.1.drewN q)
        have HNw := Lib.hid (show nw = decide (zk = 1) by rw [HN.out.2]; simp)
        clear hc
        by_cases e1 : zk = 1
        · subst e1
          obtain rfl : nw = true := by rw [HNw.out]; rfl
          go_quiet (fail)
          go_wp2_with fail
          go_meet
          exact ⟨rfl, Lib.hid ((Keep.refl _ w2).drewN _)⟩
        · have b1' : (zk == 1) = false := by simpa using e1
          obtain rfl : nw = false := by rw [HNw.out]; simpa using e1
          clear e1
          go_quiet (fail)
          go_wp2_with fail
          go_meet
          exact ⟨rfl, Lib.hid ((Keep.refl _ w2).drewN _)⟩
  case rest =>
  rename World => w3
  obtain ⟨rfl, HC3⟩ := hcut
  have H3 := Lib.hid (And.intro (H2.out.1.trans HC3.out) (And.intro (⟨H2.out.2.1.blk.keep HC3.out trivial⟩ : MkB w3 bm x) (And.intro (H2.out.2.2.1.keep HC3.out trivial) H2.out.2.2.2)))
  clear HC3 H2
  obtain ⟨p, hp⟩ : ∃ p, p = s.part x.d := ⟨_, rfl⟩
  have HP := Lib.hid hp
  clear hp
  go_upto_if 28 with (fail)
  go_cut [] (fun wz => Hid (∃ T2 b, SrvP W w wz T T2 F (K + 1) vs (s.setPart x.d.who p) x b bm bw p))
  case first =>
      cases nw
      · go_wp2_with fail
        go_meet
        refine Lib.hid ?_
        have hnw := HN.out.2.symm
        simp only [Bool.or_eq_false_iff, decide_eq_false_iff_not] at hnw
        obtain ⟨p0, hp0⟩ : ∃ p0, pf = some p0 := by
          cases pf with
          | none => cases hnw.1
          | some p0 => exact ⟨p0, rfl⟩
        have hs0 : s.parts x.d.who = some p0 := by rw [← HN.out.1, hp0]
        have hpp : p = p0 := by
          rw [HP.out]
          unfold SrvD.part
          rw [if_neg (by rw [← HZ.out]; exact hnw.2), hs0]
          rfl
        subst hpp
        rw [setPart_same hs0]
        obtain ⟨b, hb⟩ := (H.out.1.then H3.out.1).parts.at' H.out.2.2.1.ints.who hs0
        exact ⟨T, b, SMore.refl T, (H.out.1.then H3.out.1).mono (Nat.le_succ K), hb.keep (Keep.refl (fun _ => True) w3) trivial (fun _ _ _ => trivial) (SMore.refl T) (Nat.le_succ K), hs0, H3.out.1.weaken fun _ _ _ => trivial, H3.out.2.1, H3.out.2.2.1⟩
      · have hpp : p = part0 := by
          have hnw := HN.out.2.symm
          simp only [Bool.or_eq_true, decide_eq_true_eq] at hnw
          rw [HP.out]
          unfold SrvD.part
          rcases hnw with h | h
          · by_cases e : x.d.kind = 1
            · rw [if_pos e]
            · rw [if_neg e, ← HN.out.1]
              cases pf with
              | none => rfl
              | some _ => cases h
          · rw [if_pos (by rw [← HZ.out]; exact h)]
        subst hpp
        obtain ⟨ba, hba⟩ : ∃ b, b = w3.heap.size := ⟨_, rfl⟩
        have hS3 := H.out.1.then H3.out.1
        obtain ⟨wa, hwa⟩ : ∃ wa, wa = (w3.alloc (.cells (partV part0) 102)).drew := ⟨_, rfl⟩
        have hfa : Fresh w3 wa := by rw [hwa]; exact ((Keep.refl _ w3).alloc _).drew
        have hsa : w3.heap.size < wa.heap.size := by
          rw [hwa]
          have : (w3.alloc (.cells (partV part0) 102)).heap.size = w3.heap.size + 1 := Array.size_push _
          show w3.heap.size < (w3.alloc (.cells (partV part0) 102)).heap.size
          omega
        have hone := hS3.one hsa (.part x.d.who)
        have hSa := hS3.more hfa (fun _ _ => trivial) (fun _ _ => trivial) hone.1 hone.2 (Nat.le_refl K)
        have hbl : Blk wa w3.heap.size 102 (partV part0) := by rw [hwa]; exact (Blk.new _ _ _).drew
        obtain ⟨wb, hrun, hpa, hkb⟩ := hSa.parts.store (by omega) hSa.fix.p H.out.2.2.1.ints.who (b := w3.heap.size) (by unfold soneT; rw [if_pos rfl]) hbl
        have hrun2 : (Instr.mapUpdate 89 (.map (some F.p)) (.agg #[.int .i64 x.d.node, .int .i64 x.d.inc]) (.pointer (some ⟨w3.heap.size, 0, none⟩))).run Tryz.prog (w3.alloc (.cells (partV part0) 102)).drew = .ok () wb := by rw [← hwa]; exact hrun
        have hSb := hSa.with_parts hkb (fun j hj hp e => by rw [e, hSa.fix.p] at hp; exact hp rfl) (fun j hj e => by have := (hSa.low F.p (by rw [hSa.fix.p]; simp)).1; omega) (SMore.refl _) (hSa.same_low hkb.size) (Nat.le_succ K) hpa.parts
        have hlp := (H.out.1.low F.p (by rw [H.out.1.fix.p]; simp)).2
        have hkab : Keep (fun j => j ≠ F.p) w3 wb := (hfa.weaken fun _ _ _ => trivial).trans hkb
        have nbm : bm ≠ F.p := by have := H0.out.2.2; omega
        have nbw : bw ≠ F.p := by have := H3.out.2.2.2; omega
        have HEnd : Hid (∃ T2 b, SrvP W w wb T T2 F (K + 1) vs (s.setPart x.d.who part0) x b bm bw part0) := Lib.hid ⟨_, w3.heap.size, hone.1, hSb, hpa, setPart_at _ _ _, (H3.out.1.weaken fun _ _ _ => trivial : Keep (SB W T) w w3).comp hkab (fun _ _ h => h) (fun j _ hj => SB.ne H.out.1 H.out.1.fix.p (by simp) (by simp) hj), ⟨H3.out.2.1.blk.keep hkab nbm⟩, H3.out.2.2.1.keep hkab nbw⟩
        have HK5 : Hid (∀ w', Keep (fun j => j ≠ F.p) w3 w' → (w'.cell? ⟨F.g, 1, none⟩ = some (.map (some F.p)) ∧ w'.cell? ⟨bw, 0, none⟩ = some (.int .i64 x.d.node) ∧ w'.cell? ⟨bw, 1, none⟩ = some (.int .i64 x.d.inc))) := Lib.hid (fun w' hk => by
          have hv := (H.out.1.blk.keep H3.out.1 trivial).keep hk (stag_ne H.out.1.fix.g H.out.1.fix.p (by simp))
          have hb := H3.out.2.2.1.keep hk nbw
          exact ⟨hv.cell 1, hb.cell 0, hb.cell 1⟩)
        have HKab := Lib.hid hkab
        clear hba hS3 hwa hfa hsa hone hSa hbl hrun hpa hkb hSb hlp hkab nbm nbw
        go_upto_region 5 with (fail)
        refine wp_region_held_drew (S := fun w' => w'.cell? ⟨F.g, 1, none⟩ = some (.map (some F.p)) ∧ w'.cell? ⟨bw, 0, none⟩ = some (.int .i64 x.d.node) ∧ w'.cell? ⟨bw, 1, none⟩ = some (.int .i64 x.d.inc)) (by kernel_rfl) (HK5.out _ (Keep.refl _ w3).drew) (fun hHeld => ?_)
        refine wpAnyH_take (i := 0) (v := .pointer (some ⟨F.g, 0, none⟩)) rfl (by kernel_rfl) (by kernel_rfl) (by kernel_rfl) (fun _ _ _ h => h) (Or.inl ⟨by kernel_rfl, by intro w hSw; simp [go_sem, hSw]⟩) hHeld ?_
        simp only [Act.put, List.getElem_toArray, List.getElem_cons_zero, List.getElem_cons_succ, List.setIfInBounds_toArray, List.set_cons_zero, List.set_cons_succ]
        refine wpAnyH_take (i := 1) (v := .pointer (some ⟨F.g, 0, none⟩)) rfl (by kernel_rfl) (by kernel_rfl) (by kernel_rfl) (fun _ _ _ h => h) (Or.inl ⟨by kernel_rfl, by intro w hSw; simp [go_sem, hSw]⟩) hHeld ?_
        simp only [Act.put, List.getElem_toArray, List.getElem_cons_zero, List.getElem_cons_succ, List.setIfInBounds_toArray, List.set_cons_zero, List.set_cons_succ]
        refine wpAnyH_take (i := 2) (v := .pointer (some ⟨F.g, 1, none⟩)) rfl (by kernel_rfl) (by kernel_rfl) (by kernel_rfl) (fun _ _ _ h => h) (Or.inl ⟨by kernel_rfl, by intro w hSw; simp [go_sem, hSw]⟩) hHeld ?_
        simp only [Act.put, List.getElem_toArray, List.getElem_cons_zero, List.getElem_cons_succ, List.setIfInBounds_toArray, List.set_cons_zero, List.set_cons_succ]
        refine wpAnyH_take (i := 3) (v := .map (some F.p)) rfl (by kernel_rfl) (by kernel_rfl) (by kernel_rfl) (fun _ _ _ h => h) (Or.inl ⟨by kernel_rfl, by intro w hSw; simp [go_sem, hSw]⟩) hHeld ?_
        simp only [Act.put, List.getElem_toArray, List.getElem_cons_zero, List.getElem_cons_succ, List.setIfInBounds_toArray, List.set_cons_zero, List.set_cons_succ]
        refine wpAnyH_take (i := 4) (v := .agg #[.int .i64 x.d.node, .int .i64 x.d.inc]) rfl (by kernel_rfl) (by kernel_rfl) (by kernel_rfl) (fun _ _ _ h => h) (Or.inl ⟨by kernel_rfl, by intro w hSw; simp [go_sem, hSw]⟩) hHeld ?_
        simp only [Act.put, List.getElem_toArray, List.getElem_cons_zero, List.getElem_cons_succ, List.setIfInBounds_toArray, List.set_cons_zero, List.set_cons_succ]
        refine wpAnyH_take (i := 5) (v := .agg #[.int .i64 0, .int .i64 0, .int .i64 0, .int .i64 0, .slice none 0 0, .bool false, .bool false, .bool false, .bool false, .int .i64 0, .int .i64 0, .bool false, .int .i64 0, .int .i64 0, .int .i64 0, .int .i64 0, tx [], tx [], tx []]) rfl (by kernel_rfl) (by kernel_rfl) (by kernel_rfl) (fun _ _ _ h => h) (Or.inl ⟨by kernel_rfl, by intro w hSw; simp [go_sem, hSw]⟩) hHeld ?_
        simp only [Act.put, List.getElem_toArray, List.getElem_cons_zero, List.getElem_cons_succ, List.setIfInBounds_toArray, List.set_cons_zero, List.set_cons_succ]
        refine wpAnyH_ready (rs := [6]) (by kernel_rfl) (by simp) ?_
        clear hHeld
        refine AllReadyH.cons rfl (fun K hK => ?_) AllReadyH.nil
        go_simp
        refine hK.out _ _ (HK5.out _ (((Keep.refl _ w3).alloc _).drew)) (fun hHeld => ?_)
        clear hK K
        try simp only [Act.put, List.getElem_toArray, List.getElem_cons_zero, List.getElem_cons_succ, List.setIfInBounds_toArray, List.set_cons_zero, List.set_cons_succ]
        refine wpAnyH_ready (rs := [7]) (by kernel_rfl) (by simp) ?_
        clear hHeld
        refine AllReadyH.cons rfl (fun K hK => ?_) AllReadyH.nil
        rw [if_pos (by rfl)]
        refine wp_mapUpd _ _ _ _ rfl rfl rfl rfl hrun2 ?_
        refine hK.out _ _ (HK5.out _ HKab.out) (fun hHeld => ?_)
        clear hK K
        try simp only [Act.put, List.getElem_toArray, List.getElem_cons_zero, List.getElem_cons_succ, List.setIfInBounds_toArray, List.set_cons_zero, List.set_cons_succ]
        refine wpAnyH_done (by kernel_rfl) ?_ _
        clear hHeld
        go_wp2_with fail
        go_meet
        exact HEnd
  case rest =>
  rename World => w4
  obtain ⟨T2, b, hP4⟩ := hcut.out
  have HP4 := Lib.hid hP4
  clear hcut hP4 H3
  have hv := HP4.out.sm.blk
  have g1 : w4.cell? ⟨F.g, 1, none⟩ = some (.map (some F.p)) := hv.cell 1
  have tg := hv.lt
  have b0 := HP4.out.wb.cell 0; have b1 := HP4.out.wb.cell 1; have tw := HP4.out.wb.lt
  simp at b0 b1
  have L : ∀ q, (Instr.lookup 89 (.map (some F.p)) (.agg #[.int .i64 x.d.node, .int .i64 x.d.inc]) false).run Tryz.prog (w4.drewN q) = .ok (.pointer (some ⟨b, 0, none⟩)) (w4.drewN q) := fun q => HP4.out.pa.look H.out.2.2.1.ints.who _ ((Keep.refl _ w4).drewN q)
  clear hv
  go_upto_region 6 with (fail)
  go_quiet (fail)
  go_upto_region 7 with (fail)
  generalize hw5 : World.drewN w4 _ = w5
  have HP5 := Lib.hid (HP4.out.then (hw5 ▸ (Keep.refl _ w4).drewN _))
  clear hw5 L g1 tg b0 b1 tw HP4
  have k1 := HP5.out.mb.kind
  rw [← HZ.out] at k1
  have tm := HP5.out.mb.blk.lt
  have hBs : BdS (s.setPart x.d.who p) k := H.out.2.1.setPart (by rw [HP.out]; exact H.out.2.1.bdp x.d)
  have hVs : BdW (s.setPart x.d.who p) := H.out.2.2.2.1.setPart (by rw [HP.out]; exact H.out.2.2.2.1.part x.d)
  have hx5 : SIn W.heap.size w5 x := H.out.2.2.1.keep HP5.out.keep (fun j hj => .inl hj)
  have HBs := Lib.hid (And.intro hBs (And.intro hVs hx5))
  clear hBs hVs hx5
  by_cases c7 : zk = 7
  · subst c7
    obtain ⟨rfl, hs'⟩ : r = 0 ∧ s' = (s.setPart x.d.who p).setPart x.d.who (enterD vs x.d p) := by
      have := H.out.2.2.2.2.2
      rw [serve_7 HZ.out.symm, ← HP.out] at this
      exact Prod.mk.inj this
    have HS' := Lib.hid hs'
    obtain ⟨Av, cv, ev, -, -, hrv⟩ := HP5.out.sm.votes
    injection ev with ev1 ev2 ev3
    subst ev1 ev3
    have hbb := HP5.out.pa.blk HBs.out.2.2.ints.who HP5.out.pp
    have HC := Lib.hid (enter_any (fun j => T2 j = .vot) W.heap.size b p x F.va vs.length F.vc vs w5.drew hbb.2.drew (HBs.out.2.2.keep (Z := fun _ => True) ((Keep.refl _ w5).drew) (fun _ _ => trivial)) (hrv.keep ((Keep.refl _ w5).drew)) (by rw [hbb.1]; simp) rfl (by have := (ballotB_all H.out.2.2.2.2.1).2.1; omega) H.out.2.2.2.2.1)
    have HRm := Lib.hid HP5.out.mb.range00
    have g0 : w5.cell? ⟨F.g, 0, none⟩ = some (.slice F.va vs.length F.vc) := HP5.out.sm.blk.cell 0
    have tg := HP5.out.sm.blk.lt
    clear hs' hrv hbb
    go_upto_region 9 with (fail)
    refine wp_region_still_tail 6 (by kernel_rfl) (by kernel_rfl) ?_
    simp only [List.take_succ_cons, List.take_zero, List.drop_succ_cons, List.drop_zero]
    repeat (first | (refine wpStill_load_mid rfl 51 _ rfl bm 0 rfl x.cells _ HRm.out Tryz.underlying51 rfl (by kernel_rfl) ?_; simp only [Act.put, List.setIfInBounds_toArray, List.set_cons_zero, List.set_cons_succ]) | still_step)
    refine wpStill_nil ?_
    change wpList _ _ _ _ _ w5.drew
    go_wp2_with fail
    refine Calls.mono HC.out ?_
    rintro e w6 ⟨rfl, hb6, hk6⟩
    have hk56 : Keep (fun j => j ≠ b) w5 w6 := ((Keep.refl _ w5).drew).trans hk6
    have hput := HP5.out.sm.put HP5.out.pa HBs.out.2.2.ints.who HP5.out.pp hk56 hb6
    have HE : Hid (StepS W w w6 T F (K + 3) vs (0, s')) := Lib.hid ⟨HP5.out.keep.trans (hk56.weaken fun j _ hj => SB.ne HP5.out.sm (HP5.out.pa.blk HBs.out.2.2.ints.who HP5.out.pp).1 (by simp) (by simp) (hj.imp id fun e => HP5.out.more.at e (by simp))), fun _ => ⟨T2, HP5.out.more, by
      rw [HS'.out]
      exact hput.1.mono (by omega)⟩⟩
    clear hb6 hk6 hk56 hput HC
    go_wp2_with fail
    go_ret
    exact ⟨rfl, HE.out⟩
  have b7 : (zk == 7) = false := by simpa using c7
  have HC7 := Lib.hid c7
  clear c7
  by_cases c10 : zk = 10
  · subst c10
    have hR : (r, s') = if adoptBad p x.d then (21, s.setPart x.d.who p) else if behind s.furthest x.d.e1 x.d.n then (26, s.setPart x.d.who p) else (0, (s.setPart x.d.who p).setPart x.d.who { p with adopted := true, since := true }) := by
      have := H.out.2.2.2.2.2
      rw [serve_10 HZ.out.symm, ← HP.out] at this
      exact this
    have HR := Lib.hid hR
    obtain ⟨bq, hbq⟩ : ∃ bq, bq = adoptBad p x.d := ⟨_, rfl⟩
    have HBQ := Lib.hid hbq
    clear hR hbq b7
    go_upto_region 11 with (fail)
    go_cut [94] (fun sv wz => sv = .bool bq ∧ Hid (Fresh w5 wz))
    case first =>
        have hbb := HP5.out.pa.blk HBs.out.2.2.ints.who HP5.out.pp
        obtain ⟨⟨h0, h1, h2, h3, -⟩, ⟨g5, g6, g7, -⟩, -, lb⟩ := part_cells hbb.2
        have c4 := HP5.out.mb.e1; have c5 := HP5.out.mb.e2; have c6 := HP5.out.mb.e3; have c7 := HP5.out.mb.e4; have c12 := HP5.out.mb.pos; have c13 := HP5.out.mb.n
        obtain ⟨vw, hvw⟩ : ∃ v, v = p.viewed := ⟨_, rfl⟩
        obtain ⟨qu, hqu⟩ : ∃ v, v = p.quorate := ⟨_, rfl⟩
        obtain ⟨ad, had⟩ : ∃ v, v = p.adopted := ⟨_, rfl⟩
        obtain ⟨ne, hne⟩ : ∃ v, v = decide (x.d.id ≠ p.id) := ⟨_, rfl⟩
        rw [← hvw] at g5
        rw [← hqu] at g6
        rw [← had] at g7
        have NV : ∀ u, Sem.run Tryz.prog (binOp BinOp.neq 45 (.agg #[.int .i64 x.d.e1, .int .i64 x.d.e2, .int .i64 x.d.e3, .int .i64 x.d.e4]) (.agg #[.int .i64 p.id.1, .int .i64 p.id.2.1, .int .i64 p.id.2.2.1, .int .i64 p.id.2.2.2])) u = .ok (.bool ne) u := fun u => by
          have := neview2 x.d.id p.id u
          rw [← hne] at this
          exact this
        have HB2 : Hid (bq = (!vw || ne || !qu || ad || decide (x.d.pos < 0) || decide (x.d.n < x.d.pos))) := Lib.hid (by rw [HBQ.out, hvw, hne, hqu, had]; rfl)
        clear hbb hvw hqu had hne
        cases vw
        · obtain rfl : bq = true := by rw [HB2.out]; rfl
          go_quiet (fail)
          go_wp2_with fail
          go_meet
          exact ⟨rfl, Lib.hid ((Keep.refl _ w5).drewN _)⟩
        cases ne
        rotate_left
        · obtain rfl : bq = true := by rw [HB2.out]; rfl
          go_quiet (fail)
          go_wp2_with fail
          go_meet
          exact ⟨rfl, Lib.hid ((Keep.refl _ w5).drewN _)⟩
        cases qu
        · obtain rfl : bq = true := by rw [HB2.out]; rfl
          go_quiet (fail)
          go_wp2_with fail
          go_meet
          exact ⟨rfl, Lib.hid ((Keep.refl _ w5).drewN _)⟩
        cases ad
        rotate_left
        · obtain rfl : bq = true := by rw [HB2.out]; rfl
          go_quiet (fail)
          go_wp2_with fail
          go_meet
          exact ⟨rfl, Lib.hid ((Keep.refl _ w5).drewN _)⟩
        by_cases q1 : x.d.pos < 0
        · have d1 : decide (x.d.pos < 0) = true := decide_eq_true q1
          obtain rfl : bq = true := by rw [HB2.out, d1]; rfl
          clear q1
          go_quiet (fail)
          go_wp2_with fail
          go_meet
          exact ⟨rfl, Lib.hid ((Keep.refl _ w5).drewN _)⟩
        have d1 : decide (x.d.pos < 0) = false := decide_eq_false q1
        clear q1
        by_cases q2 : x.d.n < x.d.pos
        · have d2 : decide (x.d.n < x.d.pos) = true := decide_eq_true q2
          obtain rfl : bq = true := by rw [HB2.out, d1, d2]; rfl
          clear q2
          go_quiet (fail)
          go_wp2_with fail
          go_meet
          exact ⟨rfl, Lib.hid ((Keep.refl _ w5).drewN _)⟩
        · have d2 : decide (x.d.n < x.d.pos) = false := decide_eq_false q2
          obtain rfl : bq = false := by rw [HB2.out, d1, d2]; rfl
          clear q2
          go_quiet (fail)
          go_wp2_with fail
          go_meet
          exact ⟨rfl, Lib.hid ((Keep.refl _ w5).drewN _)⟩
    case rest =>
    rename World => w6
    obtain ⟨rfl, HC6⟩ := hcut
    have HP6 := Lib.hid (HP5.out.then HC6.out)
    clear HC6 k1 tm
    cases bq
    rotate_left
    · obtain ⟨rfl, rfl⟩ : r = 21 ∧ s' = s.setPart x.d.who p := by
        have := HR.out
        rw [← HBQ.out, if_pos rfl] at this
        exact Prod.mk.inj this
      go_wp2_with fail
      go_ret
      exact ⟨rfl, HP6.out.keep, fun e => by cases e⟩
    have hR2 : (r, s') = if behind s.furthest x.d.e1 x.d.n then (26, s.setPart x.d.who p) else (0, (s.setPart x.d.who p).setPart x.d.who { p with adopted := true, since := true }) := by
      have := HR.out
      rw [← HBQ.out, if_neg (by decide)] at this
      exact this
    have HR2 := Lib.hid hR2
    obtain ⟨ps, hm1, hm2, hm3⟩ := HP6.out.sm.furthest
    have HM := Lib.hid (And.intro hm1 (And.intro hm2 hm3))
    have g6 : w6.cell? ⟨F.g, 6, none⟩ = some (.map (some F.u)) := HP6.out.sm.blk.cell 6
    have tg := HP6.out.sm.blk.lt
    clear hR2 hm1 hm2 hm3
    go_wp2_with (at_range; refine wpList_range_own _ rfl (.tmp 98) 93 rfl 3 3 kint0 Tryz.underlying93 Kr F.u ps.length (kD ps) rfl HM.out.1 ?_)
    intro w7 hrg7 hg7 hs7
    have hf7 : Fresh w6 w7 := Fresh.of_below ⟨hg7.os, hg7.tape, hg7.output, hg7.size, fun k hk => hg7.block k hk (by simp)⟩
    have HR0 : Hid (RngA w6 w7 F w6.heap.size ps (Maps.has (kD ps)) (Maps.size (kD ps)) s.furthest x.d.e1 x.d.n) := Lib.hid ⟨hrg7, fun z y hz hy hl => absurd hl (by
      have h1 := HM.out.2.2 z hz
      have h2 : (s.setPart x.d.who p).furthest z = some y := hy
      rw [h2] at h1
      rw [kD_has, h1]
      simp), hf7⟩
    obtain ⟨rr, hrr⟩ : ∃ r, r = w6.heap.size := ⟨_, rfl⟩
    rw [← hrr] at HR0 ⊢
    have HRR := Lib.hid hrr
    clear hrg7 hg7 hs7 hf7 hrr g6 tg
    go_wp2_with fail
    go_loopw [] (fun wr => ∃ (left : Lit → Bool) (cnt : Nat), Hid (RngA w6 wr F rr ps left cnt s.furthest x.d.e1 x.d.n)) (fun wr => wr.rangeLeft F.u rr)
    case atStart => exact ⟨_, _, HR0⟩
    case round =>
      rename World => wr
      obtain ⟨left, cnt, HL⟩ := hrel
      go_wp2_with (at_next; refine wpList_next_ranges _ rfl (.tmp 99) rfl 3 kint0 Kr (Value.int .i64) (fun v => v) (fun key kl hk => by obtain ⟨x, hx, _⟩ := Maps.keyOf_int_inv Tryz.underlying3 hk; exact ⟨x, hx⟩) (fun v _ _ => ⟨v, rfl⟩) F.u rr ps.length (kD ps) left cnt rfl HL.out.rg ?_ ?_)
      · intro hc0 hl0
        obtain ⟨rfl, hs'⟩ : r = 0 ∧ s' = (s.setPart x.d.who p).setPart x.d.who { p with adopted := true, since := true } := by
          have hbh : behind s.furthest x.d.e1 x.d.n = false := by
            rw [Bool.eq_false_iff]
            intro hb
            obtain ⟨z, y, h1, h2, h3⟩ := behind_iff.1 hb
            exact HL.out.ok z y (H.out.2.2.2.1.fur z y h1) h1 (hl0 _) ⟨h2, h3⟩
          have := HR2.out
          rw [hbh, if_neg (by decide)] at this
          exact Prod.mk.inj this
        have HS' := Lib.hid hs'
        have HP7 := Lib.hid (HP6.out.then HL.out.fresh)
        have hbb := HP7.out.pa.blk HBs.out.2.2.ints.who HP7.out.pp
        obtain ⟨-, ⟨-, -, g7, g8⟩, -, lb⟩ := part_cells hbb.2
        have f7 := hbb.2.frozen 7; have f8 := hbb.2.frozen 8
        clear hc0 hl0 hs' hbb
        go_wp2_with fail
        go_ret
        have hk : Keep (fun j => j ≠ b) wr ((wr.setCell ⟨b, 7, none⟩ (.bool true)).setCell ⟨b, 8, none⟩ (.bool true)) := keep_in (keep_in (Keep.refl _ wr) _ _) _ _
        have hput := HP7.out.sm.put HP7.out.pa HBs.out.2.2.ints.who HP7.out.pp hk (part_adopt (HP7.out.pa.blk HBs.out.2.2.ints.who HP7.out.pp).2)
        refine ⟨rfl, HP7.out.keep.trans (hk.weaken fun j _ hj => SB.ne HP7.out.sm (HP7.out.pa.blk HBs.out.2.2.ints.who HP7.out.pp).1 (by simp) (by simp) (hj.imp id fun e => HP7.out.more.at e (by simp))), fun _ => ⟨T2, HP7.out.more, ?_⟩⟩
        rw [HS'.out]
        exact hput.1.mono (by omega)
      · intro z cv kl y pl w8 cnt1 hkey hlx hRy hat hrg8 hlt8 hg8 hs8 hen8
        obtain ⟨z', ez, rfl, hzw⟩ := Maps.keyOf_int_inv Tryz.underlying3 hkey
        cases ez
        have hzi : I64 z := by
          simp [Lit.wf, IntKind.min, IntKind.max, IntKind.signed, IntKind.bits] at hzw
          exact ⟨by omega, by omega⟩
        have hlit : mkInt.lit z = .int .i64 z := by
          have h1 := ikey hzi
          have h2 := keyL_of (mkInt.key z hzi)
          have h3 : keyOf Tryz.prog mkInt.k (mkInt.enc z) = some (.int .i64 z) := h1
          rw [h3] at h2
          exact (Option.some.inj h2).symm
        obtain ⟨yv, hyv, hcv⟩ : ∃ yv : Int, s.furthest z = some yv ∧ cv = .int .i64 yv := by
          have h1 := HM.out.2.2 z hzi
          have h2 := hat (.held cv)
          rw [kD_at, ← hlit] at h2
          have h3 := has_of_at hat
          rw [kD_has, ← hlit] at h3
          have h4 : (s.setPart x.d.who p).furthest z = s.furthest z := rfl
          rw [h4] at h1
          rw [h1] at h2 h3
          unfold Kr at hRy
          obtain ⟨rfl, rfl⟩ := Prod.mk.inj (Option.some.inj hRy)
          cases hf : s.furthest z with
          | none => rw [hf] at h3; cases h3
          | some yv =>
            rw [hf] at h2
            refine ⟨yv, rfl, ?_⟩
            injection h2 with h2
            exact h2.symm
        subst hcv
        have hk8 : Keep (fun k => some rr ≠ some k) wr w8 := Keep.of_grown hg8
        have hf8 : Fresh w6 w8 := HL.out.fresh.comp hk8 (fun _ _ h => h) (fun j hj _ e => by injection e with e; have := HRR.out; omega)
        have HP8 := Lib.hid (HP6.out.then hf8)
        have c4 := HP8.out.mb.e1; have c13 := HP8.out.mb.n; have tm := HP8.out.mb.blk.lt
        have HG := Lib.hid (And.intro hlx (And.intro hrg8 (And.intro hlt8 (And.intro hyv (And.intro hf8 (And.intro hlit hzi))))))
        clear hkey hlx hRy hat hrg8 hlt8 hg8 hs8 hk8 hf8 hyv hlit hzi hzw
        have HNx : Hid (¬ (z < x.d.e1 ∧ x.d.n < yv) → RngA w6 w8 F rr ps (fun q => left q && !q.sameKey (.int .i64 z)) cnt1 s.furthest x.d.e1 x.d.n) := Lib.hid fun hno => ⟨HG.out.2.1, fun z2 y2 hz2 hy2 hl2 => by
          by_cases e : z2 = z
          · subst e
            rw [HG.out.2.2.2.1] at hy2
            obtain rfl := Option.some.inj hy2
            exact hno
          · refine HL.out.ok z2 y2 hz2 hy2 ?_
            have hs2 : (mkInt.lit z2).sameKey (.int .i64 z) = false := by
              rw [Bool.eq_false_iff]
              intro hs
              have h1 := same_eq hs
              rw [← HG.out.2.2.2.2.2.1] at h1
              have h2 := keyL_of (mkInt.key z2 hz2)
              have h3 := keyL_of (mkInt.key z HG.out.2.2.2.2.2.2)
              have h4 : keyL Tryz.prog mkInt.k mkInt.enc z2 = keyL Tryz.prog mkInt.k mkInt.enc z := h1
              rw [h4] at h2
              have h5 := mkInt.K.inj h2 h3
              exact e (mkInt.inj _ _ h5)
            rw [hs2] at hl2
            simpa using hl2, HG.out.2.2.2.2.1⟩
        by_cases q1 : z < x.d.e1
        · have d1 : decide (z < x.d.e1) = true := decide_eq_true q1
          by_cases q2 : x.d.n < yv
          · have d2 : decide (x.d.n < yv) = true := decide_eq_true q2
            obtain ⟨rfl, rfl⟩ : r = 26 ∧ s' = s.setPart x.d.who p := by
              have hbh : behind s.furthest x.d.e1 x.d.n = true := by
                exact behind_iff.2 ⟨z, yv, HG.out.2.2.2.1, q1, q2⟩
              have := HR2.out
              rw [hbh, if_pos rfl] at this
              exact Prod.mk.inj this
            clear q1 q2
            go_wp2_with fail
            go_ret
            exact ⟨rfl, HP8.out.keep, fun e => by cases e⟩
          · have d2 : decide (x.d.n < yv) = false := decide_eq_false q2
            have HN := Lib.hid (HNx.out fun h => q2 h.2)
            clear q1 q2
            go_wp2_with fail
            refine ⟨⟨_, _, HN⟩, ?_⟩
            rw [HN.out.rg.left_eq, HL.out.rg.left_eq]
            exact HG.out.2.2.1
        · have d1 : decide (z < x.d.e1) = false := decide_eq_false q1
          have HN := Lib.hid (HNx.out fun h => q1 h.1)
          clear q1
          go_wp2_with fail
          refine ⟨⟨_, _, HN⟩, ?_⟩
          rw [HN.out.rg.left_eq, HL.out.rg.left_eq]
          exact HG.out.2.2.1
  have b10 : (zk == 10) = false := by simpa using c10
  have HC10 := Lib.hid c10
  clear c10
  have HRm := Lib.hid HP5.out.mb.range00
  by_cases c11 : zk = 11
  · subst c11
    have hR : (r, s') = doS (s.setPart x.d.who p) x.d p := by
      have := H.out.2.2.2.2.2
      rw [serve_11 HZ.out.symm, ← HP.out] at this
      exact this
    have HC := Lib.hid (do_any HP5.out.sm HBs.out.1 (by omega) hk x HBs.out.2.2 HP5.out.pp HP5.out.pa)
    rw [← hR] at HC
    simp only at HC
    clear hR
    go_wp2_with (refine wpList_load_mid rfl 51 _ rfl bm 0 rfl x.cells _ HRm.out Tryz.underlying51 rfl (by kernel_rfl) ?_)
    refine Calls.mono HC.out ?_
    rintro e w6 ⟨rfl, hst⟩
    have HSt := Lib.hid hst
    clear hst HC
    go_wp2_with fail
    go_ret
    exact ⟨rfl, StepS.after HP5.out.more HP5.out.keep HSt.out (by omega)⟩
  have b11 : (zk == 11) = false := by simpa using c11
  have HC11 := Lib.hid c11
  clear c11
  by_cases c12 : zk = 12
  · subst c12
    have hR : (r, s') = applyS (s.setPart x.d.who p) x.d p := by
      have := H.out.2.2.2.2.2
      rw [serve_12 HZ.out.symm, ← HP.out] at this
      exact this
    have HC := Lib.hid (apply_any HP5.out.sm HBs.out.1 (by omega) hk x HBs.out.2.2 HP5.out.pp HP5.out.pa (HBs.out.2.1.id _ _ HP5.out.pp))
    rw [← hR] at HC
    simp only at HC
    clear hR
    go_wp2_with (refine wpList_load_mid rfl 51 _ rfl bm 0 rfl x.cells _ HRm.out Tryz.underlying51 rfl (by kernel_rfl) ?_)
    refine Calls.mono HC.out ?_
    rintro e w6 ⟨rfl, hst⟩
    have HSt := Lib.hid hst
    clear hst HC
    go_wp2_with fail
    go_ret
    exact ⟨rfl, StepS.after HP5.out.more HP5.out.keep HSt.out (by omega)⟩
  have b12 : (zk == 12) = false := by simpa using c12
  have HC12 := Lib.hid c12
  clear c12
  by_cases c13 : zk = 13
  · subst c13
    have hR : (r, s') = replyS (s.setPart x.d.who p) x.d p := by
      have := H.out.2.2.2.2.2
      rw [serve_13 HZ.out.symm, ← HP.out] at this
      exact this
    have HC := Lib.hid (reply_any HP5.out.sm HBs.out.1 (by omega) hk HBs.out.2.1.plc x HBs.out.2.2 HP5.out.pp HP5.out.pa)
    rw [← hR] at HC
    simp only at HC
    clear hR
    go_wp2_with (refine wpList_load_mid rfl 51 _ rfl bm 0 rfl x.cells _ HRm.out Tryz.underlying51 rfl (by kernel_rfl) ?_)
    refine Calls.mono HC.out ?_
    rintro e w6 ⟨rfl, hst⟩
    have HSt := Lib.hid hst
    clear hst HC
    go_wp2_with fail
    go_ret
    exact ⟨rfl, StepS.after HP5.out.more HP5.out.keep HSt.out (by omega)⟩
  have b13 : (zk == 13) = false := by simpa using c13
  have HC13 := Lib.hid c13
  clear c13
  obtain ⟨rfl, hs'⟩ : r = 0 ∧ s' = s.setPart x.d.who p := by
    have := H.out.2.2.2.2.2
    rw [serve_no (by rw [← HZ.out]; exact HC15.out) (by rw [← HZ.out]; exact HC7.out) (by rw [← HZ.out]; exact HC10.out) (by rw [← HZ.out]; exact HC11.out) (by rw [← HZ.out]; exact HC12.out) (by rw [← HZ.out]; exact HC13.out), ← HP.out] at this
    exact Prod.mk.inj this
  have HS' := Lib.hid hs'
  clear hs'
  go_wp2_with fail
  go_ret
  refine ⟨rfl, HP5.out.keep, fun _ => ⟨T2, HP5.out.more, ?_⟩⟩
  rw [HS'.out]
  exact HP5.out.sm.mono (by omega)
end Go.Proofs.YtohnmaindbgngaaGreatDoor
