/-
  MERGED: SrvB
-/
import Derived.Test.YtohnmaindbgngaaGreatDoorQF
import Derived.Test.YtohnmaindbgngaaGreatDoorQK
import Derived.Test.YtohnmaindbgngaaGreatDoorQL
import Derived.Lib.QuietBelow
import Derived.BigQuiet
import Derived.Deep.RegionHeld3
import Derived.Deep.DeepCutAuto
import Derived.Deep.CutBlock
namespace Go.Proofs.YtohnmaindbgngaaGreatDoor
set_option linter.unusedVariables false
set_option linter.unusedSimpArgs false
open Go.RowKit Go.BigFrame

theorem fresh_rg (w : World) (d : Nat) (os : Array Obj) : Fresh w (Go.Sort.grow (redrawn w d) os) := Fresh.of_below (below_regrown w d os)
theorem part_there {w : World} {b : Nat} {q : PartD} (h : Blk w b 102 (partV q)) : w.there b 12 7 := fun j hj => by
  have := h.there (12 + j) (by simp [partV]; omega)
  rw [Nat.zero_add] at this
  exact this
theorem part_pend {w : World} {b : Nat} {q : PartD} (h : Blk w b 102 (partV q)) (c : CmdD) : Blk (w.setCells b 12 c.cells.toArray.toList) b 102 (partV { q with pending := c }) := by
  obtain ⟨cs', h1, h2⟩ := Blk.setCells c.cells.toArray.toList 12 _ _ h (by simp [partV, CmdD.cells])
  have e : cs' = partV { q with pending := c } := by
    apply Array.ext'
    rw [h2]
    simp [partV, CmdD.cells]
  rw [e] at h1
  exact h1
theorem cmd_all (c : CmdD) : c.cells.toArray.all (·.oneCell') = true := Array.all_eq_true_iff_forall_mem.2 fun u hu => cmd_one c u (by simpa using hu)
theorem part_wait {w : World} {b : Nat} {q : PartD} (h : Blk w b 102 (partV q)) (u : Bool) : Blk (w.setCell ⟨b, 11, none⟩ (.bool u)) b 102 (partV { q with waits := u }) := h.set 11 (.bool u)
theorem keep_in {a w : World} {b : Nat} (h : Keep (fun j => j ≠ b) a w) (o : Nat) (u : Value) : Keep (fun j => j ≠ b) a (w.setCell ⟨b, o, none⟩ u) := h.setCell (fun _ h => h rfl) u
/-- A mark and its command in variables. -/
structure SBox (w w1 : World) (bm bc : Nat) (x : MkV) : Prop where
  fresh : Fresh w w1
  mb : MkB w1 bm x
  cb : Blk w1 bc 43 #[.int .i64 x.d.cmd.c, .int .i64 x.d.cmd.i, .int .i64 x.d.cmd.r, .int .i64 x.d.cmd.o, tx x.d.cmd.k, tx x.d.cmd.v, tx x.d.cmd.d]
  lm : w.heap.size ≤ bm
  lc : w.heap.size ≤ bc
theorem SBox.then {w w1 w2 : World} {bm bc : Nat} {x : MkV} (h : SBox w w1 bm bc x) (hf : Fresh w1 w2) : SBox w w2 bm bc x := ⟨h.fresh.trans hf, ⟨h.mb.blk.keep hf trivial⟩, h.cb.keep hf trivial, h.lm, h.lc⟩
set_option maxRecDepth 20000 in
set_option maxHeartbeats 4000000 in
theorem do_any {W w : World} {T : Nat → STag} {F : SFix} {K k : Nat} {vs : List Int} {s : SrvD} (hS : SM W w T F K vs s) (hB : BdS s k) (hK : K ≤ 4000000) (hk : k ≤ 1048575) (x : MkV) (hx : SIn W.heap.size w x) {b : Nat} {p : PartD} (hp : s.parts x.d.who = some p) (ha : PartAt w T F.p K s.parts x.d.who b) :
    Calls Tryz.prog 29 #[.pointer (some ⟨F.g, 0, none⟩), .pointer (some ⟨b, 0, none⟩), .agg x.cells.toArray] w fun e w' => e = .returned (.int .i64 (doS s x.d p).1) ∧ StepS W w w' T F (K + 1) vs (doS s x.d p) := by
  obtain ⟨R, hR⟩ : ∃ R, R = doS s x.d p := ⟨_, rfl⟩
  rw [← hR]
  obtain ⟨r, s'⟩ := R
  simp only
  have hpb := (ha.blk hx.ints.who hp).2
  have H := Lib.hid (And.intro hS (And.intro hB (And.intro hx (And.intro hp (And.intro ha (And.intro hpb hR))))))
  obtain ⟨w1, hw1⟩ : ∃ w1, w1 = (w.alloc (.cells x.cells.toArray 51)).alloc (.cells #[.int .i64 x.d.cmd.c, .int .i64 x.d.cmd.i, .int .i64 x.d.cmd.r, .int .i64 x.d.cmd.o, tx x.d.cmd.k, tx x.d.cmd.v, tx x.d.cmd.d] 43) := ⟨_, rfl⟩
  obtain ⟨bm, hbm⟩ : ∃ b, b = w.heap.size := ⟨_, rfl⟩
  obtain ⟨bc, hbc⟩ : ∃ b, b = w.heap.size + 1 := ⟨_, rfl⟩
  have hbox : SBox w w1 bm bc x := by
    refine ⟨by rw [hw1]; exact ((Keep.refl _ w).alloc _).alloc _, ?_, ?_, by omega, by omega⟩
    · rw [hw1, hbm]; exact ⟨(MkB.new w x).blk.alloc _⟩
    · rw [hw1, hbc]; exact Blk.newAt (by simp)
  have hTw : Tabs w1 := hS.tabs.fresh (hS.fresh.trans hbox.fresh)
  have hak := (hB.part _ _ hp).asks
  clear hS hB hx hp ha hpb hR
  have HBox := Lib.hid hbox
  obtain ⟨w0, hw0⟩ : ∃ w0, w0 = w.alloc (.cells x.cells.toArray 51) := ⟨_, rfl⟩
  have hmb0 : MkB w0 bm x := by rw [hw0, hbm]; exact MkB.new w x
  have hsz0 : bc = w0.heap.size := by rw [hw0, hbc]; exact (Array.size_push _).symm
  have k15 := hmb0.cc; have k16 := hmb0.ci; have k17 := hmb0.cr; have k18 := hmb0.co; have k19 := hmb0.ck; have k20 := hmb0.cv; have k21 := hmb0.cd; have tm0 := hmb0.blk.lt
  clear hbox hmb0
  go_enter Tryz.func29, Tryz.ntmps29
  go_upto_region 1 with (fail)
  rw [← hw0, ← hbm]
  rw [← hw0] at hw1
  have HW1 := Lib.hid (And.intro hw1 hsz0)
  clear hw0 hw1 hbm hbc hsz0
  go_upto_region 2 with (fail)
  rw [← HW1.out.1, ← HW1.out.2]
  clear HW1 k15 k16 k17 k18 k19 k20 k21 tm0
  obtain ⟨bq, hbq⟩ : ∃ bq, bq = doBad p x.d := ⟨_, rfl⟩
  have HBad := Lib.hid hbq
  clear hbq
  go_cut [49] (fun sv wz => sv = .bool bq ∧ Hid (Fresh w1 wz))
  case first =>
    as_aux_lemma =>
      obtain ⟨vb, hvb⟩ : ∃ vb, vb = x.d.cmd.valid := ⟨_, rfl⟩
      obtain ⟨ad, had⟩ : ∃ ad, ad = p.adopted := ⟨_, rfl⟩
      obtain ⟨wt, hwt⟩ : ∃ wt, wt = p.waits := ⟨_, rfl⟩
      have HBQ : Hid (bq = (!ad || wt || !vb || decide (x.d.cmd.c ≠ x.d.node) || decide (x.d.cmd.i ≠ x.d.inc) || decide (x.d.cmd.r ≠ (p.asks : Int) + 1))) := Lib.hid (by rw [HBad.out, had, hwt, hvb]; rfl)
      have HCk := Lib.hid (fun (q : Nat) (os : Array Obj) => Calls.regrown_of (w := w1) (d := q) (os := os) ((check_any x.d.cmd.c x.d.cmd.i x.d.cmd.r x.d.cmd.o x.d.cmd.k x.d.cmd.v x.d.cmd.d _ (hTw.fresh (fresh_rg w1 q os))).mono fun _ _ ⟨he, hf⟩ => ⟨he, hf.below⟩))
      have hvb2 : validB x.d.cmd.c x.d.cmd.i x.d.cmd.r x.d.cmd.o x.d.cmd.k x.d.cmd.v x.d.cmd.d = vb := hvb.symm
      rw [hvb2] at HCk
      have hpb1 := H.out.2.2.2.2.2.1.keep HBox.out.fresh trivial
      obtain ⟨-, ⟨-, -, g7, -⟩, ⟨g9, -, g11⟩, lb⟩ := part_cells hpb1
      rw [← had] at g7
      rw [← hwt] at g11
      have s7 := cell_regrown g7; have s9 := cell_regrown g9; have s11 := cell_regrown g11
      have s2 := cell_regrown HBox.out.mb.node; have s3 := cell_regrown HBox.out.mb.inc
      have m0 := HBox.out.cb.cell 0; have m1 := HBox.out.cb.cell 1; have m2 := HBox.out.cb.cell 2; have m3 := HBox.out.cb.cell 3; have m4 := HBox.out.cb.cell 4; have m5 := HBox.out.cb.cell 5; have m6 := HBox.out.cb.cell 6
      simp at m0 m1 m2 m3 m4 m5 m6
      have t0 := cell_regrown m0; have t1 := cell_regrown m1; have t2 := cell_regrown m2; have t3 := cell_regrown m3; have t4 := cell_regrown m4; have t5 := cell_regrown m5; have t6 := cell_regrown m6
      have lc := HBox.out.cb.lt; have lm := HBox.out.mb.blk.lt
      have wq : IntKind.i64.wrap ((p.asks : Int) + 1) = (p.asks : Int) + 1 := by rw [IntWalk.i64_in _ (by omega)]
      clear hvb had hwt hvb2 hpb1 g7 g9 g11 m0 m1 m2 m3 m4 m5 m6 hTw
      cases ad
      · have hbq2 : bq = true := by rw [HBQ.out]; rfl
        subst hbq2
        refine wp_region_quiet_below (by kernel_rfl) (by kernel_rfl) ?_
        repeat (go_big_quiet_step (exact HCk.out _ _))
        refine wpQuiet_nil ?_
        intro _ hw'
        obtain ⟨⟨dq, osq⟩, hw''⟩ := hw'
        subst hw''
        have hf2 := fresh_rg w1 dq osq
        go_wp2_with fail
        go_meet
        exact ⟨rfl, Lib.hid hf2⟩
      cases wt
      rotate_left
      · have hbq2 : bq = true := by rw [HBQ.out]; rfl
        subst hbq2
        refine wp_region_quiet_below (by kernel_rfl) (by kernel_rfl) ?_
        repeat (go_big_quiet_step (exact HCk.out _ _))
        refine wpQuiet_nil ?_
        intro _ hw'
        obtain ⟨⟨dq, osq⟩, hw''⟩ := hw'
        subst hw''
        have hf2 := fresh_rg w1 dq osq
        go_wp2_with fail
        go_meet
        exact ⟨rfl, Lib.hid hf2⟩
      cases vb
      · have hbq2 : bq = true := by rw [HBQ.out]; rfl
        subst hbq2
        refine wp_region_quiet_below (by kernel_rfl) (by kernel_rfl) ?_
        repeat (go_big_quiet_step (exact HCk.out _ _))
        refine wpQuiet_nil ?_
        intro _ hw'
        obtain ⟨⟨dq, osq⟩, hw''⟩ := hw'
        subst hw''
        have hf2 := fresh_rg w1 dq osq
        go_wp2_with fail
        go_meet
        exact ⟨rfl, Lib.hid hf2⟩
      by_cases q1 : x.d.cmd.c = x.d.node
      rotate_left
      · have e1a : (x.d.cmd.c != x.d.node) = true := by simpa using q1
        have e1b : (x.d.cmd.c == x.d.node) = false := by simpa using q1
        have hbq2 : bq = true := by rw [HBQ.out]; simp [q1]
        subst hbq2
        clear q1
        refine wp_region_quiet_below (by kernel_rfl) (by kernel_rfl) ?_
        repeat (go_big_quiet_step (exact HCk.out _ _))
        refine wpQuiet_nil ?_
        intro _ hw'
        obtain ⟨⟨dq, osq⟩, hw''⟩ := hw'
        subst hw''
        have hf2 := fresh_rg w1 dq osq
        go_wp2_with fail
        go_meet
        exact ⟨rfl, Lib.hid hf2⟩
      have e1a : (x.d.cmd.c != x.d.node) = false := by simpa using q1
      have e1b : (x.d.cmd.c == x.d.node) = true := by simpa using q1
      have Q1 := Lib.hid q1
      clear q1
      by_cases q2 : x.d.cmd.i = x.d.inc
      rotate_left
      · have e2a : (x.d.cmd.i != x.d.inc) = true := by simpa using q2
        have e2b : (x.d.cmd.i == x.d.inc) = false := by simpa using q2
        have hbq2 : bq = true := by rw [HBQ.out]; simp [q2]
        subst hbq2
        clear q2
        refine wp_region_quiet_below (by kernel_rfl) (by kernel_rfl) ?_
        repeat (go_big_quiet_step (exact HCk.out _ _))
        refine wpQuiet_nil ?_
        intro _ hw'
        obtain ⟨⟨dq, osq⟩, hw''⟩ := hw'
        subst hw''
        have hf2 := fresh_rg w1 dq osq
        go_wp2_with fail
        go_meet
        exact ⟨rfl, Lib.hid hf2⟩
      have e2a : (x.d.cmd.i != x.d.inc) = false := by simpa using q2
      have e2b : (x.d.cmd.i == x.d.inc) = true := by simpa using q2
      have Q2 := Lib.hid q2
      clear q2
      by_cases q3 : x.d.cmd.r = (p.asks : Int) + 1
      rotate_left
      · have e3a : (x.d.cmd.r != (p.asks : Int) + 1) = true := by simpa using q3
        have e3b : (x.d.cmd.r == (p.asks : Int) + 1) = false := by simpa using q3
        have hbq2 : bq = true := by rw [HBQ.out]; simp [q3]
        subst hbq2
        clear q3
        refine wp_region_quiet_below (by kernel_rfl) (by kernel_rfl) ?_
        repeat (go_big_quiet_step (exact HCk.out _ _))
        refine wpQuiet_nil ?_
        intro _ hw'
        obtain ⟨⟨dq, osq⟩, hw''⟩ := hw'
        subst hw''
        have hf2 := fresh_rg w1 dq osq
        go_wp2_with fail
        go_meet
        exact ⟨rfl, Lib.hid hf2⟩
      have e3a : (x.d.cmd.r != (p.asks : Int) + 1) = false := by simpa using q3
      have e3b : (x.d.cmd.r == (p.asks : Int) + 1) = true := by simpa using q3
      have hbq2 : bq = false := by rw [HBQ.out]; simp [Q1.out, Q2.out, q3]
      subst hbq2
      clear q3
      refine wp_region_quiet_below (by kernel_rfl) (by kernel_rfl) ?_
      repeat (go_big_quiet_step (exact HCk.out _ _))
      refine wpQuiet_nil ?_
      intro _ hw'
      obtain ⟨⟨dq, osq⟩, hw''⟩ := hw'
      subst hw''
      have hf2 := fresh_rg w1 dq osq
      go_wp2_with fail
      go_meet
      exact ⟨rfl, Lib.hid hf2⟩
  case rest =>
  rename World => w2
  obtain ⟨rfl, HC2⟩ := hcut
  cases bq
  rotate_left
  · obtain ⟨rfl, rfl⟩ : r = 22 ∧ s' = s := by
      have := H.out.2.2.2.2.2.2
      unfold doS at this
      rw [← HBad.out, if_pos rfl] at this
      exact Prod.mk.inj this
    go_wp2_with fail
    go_ret
    exact ⟨rfl, StepS.bad (HBox.out.fresh.trans HC2.out) (by simp)⟩
  · have hR0 : r = 0 ∧ s' = { s.setPart x.d.who { p with asks := p.asks + 1, waits := true, pending := x.d.cmd } with asked := upd s.asked x.d.cmd (s.asked x.d.cmd + 1) } := by
      have := H.out.2.2.2.2.2.2
      unfold doS at this
      rw [← HBad.out, if_neg (by decide)] at this
      exact Prod.mk.inj this
    obtain ⟨rfl, hs'⟩ := hR0
    have HS' := Lib.hid hs'
    have hB2 := HBox.out.then HC2.out
    have hpb2 := H.out.2.2.2.2.2.1.keep hB2.fresh trivial
    obtain ⟨-, -, ⟨g9, -, -⟩, lb⟩ := part_cells hpb2
    have f9 := hpb2.frozen 9
    have wq : IntKind.i64.wrap ((p.asks : Int) + 1) = (p.asks : Int) + 1 := by rw [IntWalk.i64_in _ (by omega)]
    have HB2 := Lib.hid (And.intro hB2 hpb2)
    clear hB2 hpb2 hs' HC2 HBox HBad hTw
    go_upto_region 5 with (fail)
    generalize hw3 : World.setCell _ _ _ = w3
    have hk3 : Keep (fun j => j ≠ b) w w3 := by rw [← hw3]; exact (HB2.out.1.fresh.weaken fun _ _ _ => trivial : Keep (fun j => j ≠ b) w w2).setCell (fun _ h => h rfl) _
    have hb3 : Blk w3 b 102 (partV { p with asks := p.asks + 1 }) := by
      rw [← hw3]
      exact HB2.out.2.set 9 (.int .i64 ((p.asks : Int) + 1))
    have hbw : b < w.heap.size := H.out.2.2.2.2.2.1.lt
    have nbc : bc ≠ b := by have := HB2.out.1.lc; omega
    have hc3 : Blk w3 bc 43 #[.int .i64 x.d.cmd.c, .int .i64 x.d.cmd.i, .int .i64 x.d.cmd.r, .int .i64 x.d.cmd.o, tx x.d.cmd.k, tx x.d.cmd.v, tx x.d.cmd.d] := by
      rw [← hw3]
      exact HB2.out.1.cb.keep ((Keep.refl (fun j => j ≠ b) w2).setCell (fun _ h => h rfl) _) nbc
    have H3 := Lib.hid (And.intro hk3 (And.intro hb3 (And.intro hc3 nbc)))
    clear hw3 hk3 hb3 hbw hc3 nbc g9 f9 wq lb
    go_cut [] (fun wz => Hid (Blk wz b 102 (partV { p with asks := p.asks + 1, waits := true, pending := x.d.cmd }) ∧ Keep (fun j => j ≠ b) w3 wz))
    case first =>
      as_aux_lemma =>
        have HK : Hid (∀ w', Keep (fun j => j ≠ b) w3 w' → (w'.cell? ⟨bc, 0, none⟩ = some (.int .i64 x.d.cmd.c) ∧ w'.cell? ⟨bc, 1, none⟩ = some (.int .i64 x.d.cmd.i) ∧ w'.cell? ⟨bc, 2, none⟩ = some (.int .i64 x.d.cmd.r) ∧ w'.cell? ⟨bc, 3, none⟩ = some (.int .i64 x.d.cmd.o) ∧ w'.cell? ⟨bc, 4, none⟩ = some (tx x.d.cmd.k) ∧ w'.cell? ⟨bc, 5, none⟩ = some (tx x.d.cmd.v) ∧ w'.cell? ⟨bc, 6, none⟩ = some (tx x.d.cmd.d))) := Lib.hid (fun w' hk => by
          have hc := H3.out.2.2.1.keep hk H3.out.2.2.2
          exact ⟨hc.cell 0, hc.cell 1, hc.cell 2, hc.cell 3, hc.cell 4, hc.cell 5, hc.cell 6⟩)
        have g11 := H3.out.2.1.cell 11; have g12 := H3.out.2.1.cell 12; have g13 := H3.out.2.1.cell 13; have g14 := H3.out.2.1.cell 14; have g15 := H3.out.2.1.cell 15; have g16 := H3.out.2.1.cell 16; have g17 := H3.out.2.1.cell 17; have g18 := H3.out.2.1.cell 18
        have f11 := H3.out.2.1.frozen 11; have f12 := H3.out.2.1.frozen 12; have f13 := H3.out.2.1.frozen 13; have f14 := H3.out.2.1.frozen 14; have f15 := H3.out.2.1.frozen 15; have f16 := H3.out.2.1.frozen 16; have f17 := H3.out.2.1.frozen 17; have f18 := H3.out.2.1.frozen 18
        have lb := H3.out.2.1.lt; have lc := H3.out.2.2.1.lt
        obtain ⟨c0, c1, c2, c3, c4, c5, c6⟩ := HK.out w3 (Keep.refl _ w3)
        have nb1 := H3.out.2.2.2
        have nb2 : b ≠ bc := fun e => nb1 e.symm
        simp [partV] at g11 g12 g13 g14 g15 g16 g17 g18
        refine wp_region_held_drew (S := fun w' => w'.cell? ⟨bc, 0, none⟩ = some (.int .i64 x.d.cmd.c) ∧ w'.cell? ⟨bc, 1, none⟩ = some (.int .i64 x.d.cmd.i) ∧ w'.cell? ⟨bc, 2, none⟩ = some (.int .i64 x.d.cmd.r) ∧ w'.cell? ⟨bc, 3, none⟩ = some (.int .i64 x.d.cmd.o) ∧ w'.cell? ⟨bc, 4, none⟩ = some (tx x.d.cmd.k) ∧ w'.cell? ⟨bc, 5, none⟩ = some (tx x.d.cmd.v) ∧ w'.cell? ⟨bc, 6, none⟩ = some (tx x.d.cmd.d)) (by kernel_rfl) (HK.out _ (Keep.refl _ w3).drew) (fun hHeld => ?_)
        refine wpAnyH_take (i := 0) (v := .pointer (some ⟨b, 0, none⟩)) rfl (by kernel_rfl) (by kernel_rfl) (by kernel_rfl) (fun _ _ _ h => h) (Or.inl ⟨by kernel_rfl, by intro w hSw; simp [go_sem, hSw]⟩) hHeld ?_
        simp only [Act.put, List.getElem_toArray, List.getElem_cons_zero, List.getElem_cons_succ, List.setIfInBounds_toArray, List.set_cons_zero, List.set_cons_succ]
        refine wpAnyH_take (i := 1) (v := .pointer (some ⟨b, 0, none⟩)) rfl (by kernel_rfl) (by kernel_rfl) (by kernel_rfl) (fun _ _ _ h => h) (Or.inl ⟨by kernel_rfl, by intro w hSw; simp [go_sem, hSw]⟩) hHeld ?_
        simp only [Act.put, List.getElem_toArray, List.getElem_cons_zero, List.getElem_cons_succ, List.setIfInBounds_toArray, List.set_cons_zero, List.set_cons_succ]
        refine wpAnyH_take (i := 2) (v := .agg #[.int .i64 x.d.cmd.c, .int .i64 x.d.cmd.i, .int .i64 x.d.cmd.r, .int .i64 x.d.cmd.o, tx x.d.cmd.k, tx x.d.cmd.v, tx x.d.cmd.d]) rfl (by kernel_rfl) (by kernel_rfl) (by kernel_rfl) (fun _ _ _ h => h) (Or.inl ⟨by kernel_rfl, by intro w hSw; simp [go_sem, hSw]⟩) hHeld ?_
        simp only [Act.put, List.getElem_toArray, List.getElem_cons_zero, List.getElem_cons_succ, List.setIfInBounds_toArray, List.set_cons_zero, List.set_cons_succ]
        refine wpAnyH_take (i := 3) (v := .pointer (some ⟨b, 0, none⟩)) rfl (by kernel_rfl) (by kernel_rfl) (by kernel_rfl) (fun _ _ _ h => h) (Or.inl ⟨by kernel_rfl, by intro w hSw; simp [go_sem, hSw]⟩) hHeld ?_
        simp only [Act.put, List.getElem_toArray, List.getElem_cons_zero, List.getElem_cons_succ, List.setIfInBounds_toArray, List.set_cons_zero, List.set_cons_succ]
        refine wpAnyH_take (i := 4) (v := .pointer (some ⟨b, 11, none⟩)) rfl (by kernel_rfl) (by kernel_rfl) (by kernel_rfl) (fun _ _ _ h => h) (Or.inl ⟨by kernel_rfl, by intro w hSw; simp [go_sem, hSw]⟩) hHeld ?_
        simp only [Act.put, List.getElem_toArray, List.getElem_cons_zero, List.getElem_cons_succ, List.setIfInBounds_toArray, List.set_cons_zero, List.set_cons_succ]
        refine wpAnyH_ready (rs := [5]) (by kernel_rfl) (by simp) ?_
        clear hHeld
        refine AllReadyH.cons rfl (fun K hK => ?_) AllReadyH.nil
        go_simp
        refine hK.out _ _ (HK.out _ (by repeat (first | with_reducible refine keep_in ?_ _ _ | with_reducible refine Keep.drew ?_ | with_reducible exact Keep.refl _ _))) (fun hHeld => ?_)
        clear hK K
        try simp only [Act.put, List.getElem_toArray, List.getElem_cons_zero, List.getElem_cons_succ, List.setIfInBounds_toArray, List.set_cons_zero, List.set_cons_succ]
        refine wpAnyH_take (i := 6) (v := .pointer (some ⟨b, 0, none⟩)) rfl (by kernel_rfl) (by kernel_rfl) (by kernel_rfl) (fun _ _ _ h => h) (Or.inl ⟨by kernel_rfl, by intro w hSw; simp [go_sem, hSw]⟩) hHeld ?_
        simp only [Act.put, List.getElem_toArray, List.getElem_cons_zero, List.getElem_cons_succ, List.setIfInBounds_toArray, List.set_cons_zero, List.set_cons_succ]
        refine wpAnyH_take (i := 7) (v := .pointer (some ⟨b, 12, none⟩)) rfl (by kernel_rfl) (by kernel_rfl) (by kernel_rfl) (fun _ _ _ h => h) (Or.inl ⟨by kernel_rfl, by intro w hSw; simp [go_sem, hSw]⟩) hHeld ?_
        simp only [Act.put, List.getElem_toArray, List.getElem_cons_zero, List.getElem_cons_succ, List.setIfInBounds_toArray, List.set_cons_zero, List.set_cons_succ]
        refine wpAnyH_ready (rs := [8]) (by kernel_rfl) (by simp) ?_
        clear hHeld
        refine AllReadyH.cons rfl (fun K hK => ?_) AllReadyH.nil
        rw [if_pos (by rfl)]
        refine wp_store_mid _ _ _ rfl b 12 x.d.cmd.cells.toArray rfl rfl (part_there (part_wait H3.out.2.1 true).drew) (by kernel_rfl) (cmd_all _) ?_
        refine hK.out _ _ (HK.out _ (Keep.setCells _ _ _ (keep_in (Keep.refl _ w3) _ _).drew (fun _ e => e rfl))) (fun hH => ?_)
        clear hK K hH
        refine wpAnyH_done (by kernel_rfl) ?_ _
        go_wp2_with fail
        go_meet
        exact Lib.hid ⟨part_pend (part_wait H3.out.2.1 true).drew x.d.cmd, Keep.setCells _ _ _ (keep_in (Keep.refl _ w3) _ _).drew (fun _ e => e rfl)⟩
    case rest =>
    rename World => w4
    have hk4 : Keep (fun j => j ≠ b) w w4 := H3.out.1.trans hcut.out.2
    obtain ⟨hS4, ha4⟩ := H.out.1.put H.out.2.2.2.2.1 H.out.2.2.1.ints.who H.out.2.2.2.1 hk4 hcut.out.1
    have hc4 := H3.out.2.2.1.keep hcut.out.2 H3.out.2.2.2
    have H4 := Lib.hid (And.intro hS4 (And.intro hk4 hc4))
    have hxc := H.out.2.2.1.cmd
    have nga : F.g ≠ F.a := stag_ne H.out.1.fix.g H.out.1.fix.a (by simp)
    have nca : bc ≠ F.a := by have := (H.out.1.low F.a (by rw [H.out.1.fix.a]; simp)).2; have := HB2.out.1.lc; omega
    have HK : Hid (∀ w', Keep (fun j => j ≠ F.a) w4 w' → (w'.cell? ⟨F.g, 4, none⟩ = some (.map (some F.a)) ∧ w'.cell? ⟨bc, 0, none⟩ = some (.int .i64 x.d.cmd.c) ∧ w'.cell? ⟨bc, 1, none⟩ = some (.int .i64 x.d.cmd.i) ∧ w'.cell? ⟨bc, 2, none⟩ = some (.int .i64 x.d.cmd.r) ∧ w'.cell? ⟨bc, 3, none⟩ = some (.int .i64 x.d.cmd.o) ∧ w'.cell? ⟨bc, 4, none⟩ = some (tx x.d.cmd.k) ∧ w'.cell? ⟨bc, 5, none⟩ = some (tx x.d.cmd.v) ∧ w'.cell? ⟨bc, 6, none⟩ = some (tx x.d.cmd.d))) := Lib.hid (fun w' hk => by
      have hc := H4.out.2.2.keep hk nca
      exact ⟨hk.cellAt (H4.out.1.blk.cell 4) nga, hc.cell 0, hc.cell 1, hc.cell 2, hc.cell 3, hc.cell 4, hc.cell 5, hc.cell 6⟩)
    obtain ⟨na, hna⟩ : ∃ n, n = s.asked x.d.cmd := ⟨_, rfl⟩
    have hnak : na ≤ k := by rw [hna]; exact H.out.2.1.asked _
    obtain ⟨st, wE, hrunE, hkE, hLE, hput⟩ := (H4.out.1.then ((Keep.refl (fun _ => True) w4).drew)).asked.entry (by omega) hxc
    have hL0 := H4.out.1.asked.lookF hxc
    have e0 : (s.setPart x.d.who { p with asks := p.asks + 1, waits := true, pending := x.d.cmd }).asked x.d.cmd = na := hna.symm
    rw [e0] at hrunE hL0
    simp only [e0] at hLE
    simp only [cmdK] at hrunE hLE hL0
    have L1 := hL0 _ (Keep.refl _ w4).drew
    have L2 := hLE _ (Keep.refl _ wE)
    have L3 := hLE _ (Keep.refl _ wE).drew
    obtain ⟨w5, hrun5, hA5, hk5⟩ := hput wE (na + 1) rfl
    have ec : ((na + 1 : Nat) : Int) = (na : Int) + 1 := by omega
    rw [ec] at hrun5
    have hkE' : Keep (fun j => j ≠ F.a) w4 wE := ((Keep.refl _ w4).drew).trans hkE
    have hk55 : Keep (fun j => j ≠ F.a) w4 w5 := hkE'.trans hk5
    have HA5 := Lib.hid hA5
    have wc : IntKind.i64.wrap ((na : Int) + 1) = (na : Int) + 1 := by rw [IntWalk.i64_in _ (by omega)]
    have HNA := Lib.hid hna
    have HKe : Hid (Keep (SB W T) w w5) := Lib.hid ((H4.out.2.1.weaken fun j _ hj => SB.ne H.out.1 (H.out.2.2.2.2.1.blk H.out.2.2.1.ints.who H.out.2.2.2.1).1 (by simp) (by simp) hj).comp hk55 (fun _ _ h => h) (fun j _ hj => SB.ne H.out.1 H.out.1.fix.a (by simp) (by simp) hj))
    have HSM : Hid (SM W w5 T F (K + 1) vs s') := Lib.hid (by
      rw [HS'.out]
      have hA := HA5.out
      rw [HNA.out] at hA
      exact H4.out.1.with_asked hk55 (fun j hj hp e => by rw [e, H4.out.1.fix.a] at hp; exact hp rfl) (fun j hj e => by have := (H4.out.1.low F.a (by rw [H4.out.1.fix.a]; simp)).1; omega) (SMore.refl T) (H4.out.1.same_low hk55.size) (Nat.le_succ K) hA)
    go_upto_region 6 with (fail)
    clear hk4 hS4 ha4 hc4 nga nca hkE hLE hL0 hput ec hA5 hk5 e0 hcut hxc hna
    go_region_held3 (fun w' => w'.cell? ⟨F.g, 4, none⟩ = some (.map (some F.a)) ∧ w'.cell? ⟨bc, 0, none⟩ = some (.int .i64 x.d.cmd.c) ∧ w'.cell? ⟨bc, 1, none⟩ = some (.int .i64 x.d.cmd.i) ∧ w'.cell? ⟨bc, 2, none⟩ = some (.int .i64 x.d.cmd.r) ∧ w'.cell? ⟨bc, 3, none⟩ = some (.int .i64 x.d.cmd.o) ∧ w'.cell? ⟨bc, 4, none⟩ = some (tx x.d.cmd.k) ∧ w'.cell? ⟨bc, 5, none⟩ = some (tx x.d.cmd.v) ∧ w'.cell? ⟨bc, 6, none⟩ = some (tx x.d.cmd.d))
      (first | exact HK.out _ ((Keep.refl _ w4).drew) | exact HK.out _ hkE' | exact HK.out _ hkE'.drew | exact HK.out _ hk55) (fail)
    all_goals go_wp2_with fail
    all_goals go_ret
    all_goals exact ⟨rfl, HKe.out, fun _ => ⟨T, SMore.refl T, HSM.out⟩⟩
end Go.Proofs.YtohnmaindbgngaaGreatDoor
