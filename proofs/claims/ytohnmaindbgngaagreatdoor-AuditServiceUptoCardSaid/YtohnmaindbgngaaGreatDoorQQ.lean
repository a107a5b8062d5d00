/-
  MERGED: SrvF
-/
import Derived.Test.YtohnmaindbgngaaGreatDoorQP
namespace Go.Proofs.YtohnmaindbgngaaGreatDoor
set_option linter.unusedVariables false
set_option linter.unusedSimpArgs false
open Go.RowKit Go.BigFrame

set_option maxRecDepth 20000 in
theorem neent (x y : CmdD × ResD) (w : World) : Sem.run Tryz.prog (binOp BinOp.neq 130 (.agg #[.int .i64 x.1.c, .int .i64 x.1.i, .int .i64 x.1.r, .int .i64 x.1.o, tx x.1.k, tx x.1.v, tx x.1.d, .int .i64 x.2.code, tx x.2.val, .int .i64 x.2.n]) (.agg #[.int .i64 y.1.c, .int .i64 y.1.i, .int .i64 y.1.r, .int .i64 y.1.o, tx y.1.k, tx y.1.v, tx y.1.d, .int .i64 y.2.code, tx y.2.val, .int .i64 y.2.n])) w = .ok (.bool (decide (x ≠ y))) w := by
  by_cases h : x = y
  · subst h
    rw [decide_eq_false (by simp)]
    go_simp
  · rw [decide_eq_true h]
    by_cases hc : x.1 = y.1
    · have hr : x.2 ≠ y.2 := fun e => h (Prod.ext hc e)
      rw [hc]
      rcases res_ne hr with hb | ⟨e1, hb⟩ | ⟨e1, e2, hb⟩
      all_goals go_simp
    · rcases cmd_ne hc with hb | ⟨e1, hb⟩ | ⟨e1, e2, hb⟩ | ⟨e1, e2, e3, hb⟩ | ⟨e1, e2, e3, e4, hb⟩ | ⟨e1, e2, e3, e4, e5, hb⟩ | ⟨e1, e2, e3, e4, e5, e6, hb⟩
      all_goals go_simp
theorem joinS_parts {s : SrvD} {m : MarkD} (h : (joinS s m).1 = 0) : (joinS s m).2.parts = s.parts := by
  unfold joinS at h ⊢
  split
  · rfl
  · rfl
theorem part_last {w : World} {b : Nat} {q : PartD} (h : Blk w b 102 (partV q)) (z : Int) : Blk (w.setCell ⟨b, 10, none⟩ (.int .i64 z)) b 102 (partV { q with last := z }) := h.set 10 (.int .i64 z)
theorem part_since {w : World} {b : Nat} {q : PartD} (h : Blk w b 102 (partV q)) (u : Bool) : Blk (w.setCell ⟨b, 8, none⟩ (.bool u)) b 102 (partV { q with since := u }) := h.set 8 (.bool u)
theorem SM.untagged {W w : World} {T : Nat → STag} {F : SFix} {K : Nat} {vs : List Int} {s : SrvD} (h : SM W w T F K vs s) {j : Nat} (hj : w.heap.size ≤ j) : T j = .other := by
  by_cases e : T j = .other
  · exact e
  · have := (h.low j e).2
    omega
theorem MkB.range00 {w : World} {bm : Nat} {x : MkV} (h : MkB w bm x) : w.rangeAt bm 0 x.cells := by
  have := h.blk.range
  simpa using this
theorem doneS_f {s : SrvD} {m : MarkD} {p : PartD} (h : p.viewed = false) : doneS s m p = s.setPart m.who { p with last := m.n, since := false } := by
  unfold doneS
  simp [h]
theorem doneS_t {s : SrvD} {m : MarkD} {p : PartD} (h : p.viewed = true) : doneS s m p = { s.setPart m.who { p with last := m.n, since := false } with furthest := upd s.furthest p.id.1 (some (max ((s.furthest p.id.1).getD 0) m.n)) } := by
  unfold doneS
  simp [h]
/-- Ahead of apply's end. -/
structure AppT (W w wt : World) (T T2 : Nat → STag) (F : SFix) (K : Nat) (vs : List Int) (s2 : SrvD) (x : MkV) (b bm : Nat) (p : PartD) (R : Int × SrvD) : Prop where
  more : SMore T T2
  sm : SM W wt T2 F K vs s2
  pa : PartAt wt T2 F.p K s2.parts x.d.who b
  pp : s2.parts x.d.who = some p
  keep : Keep (JB W T) w wt
  mb : MkB wt bm x
  eq : R = (0, doneS s2 x.d p)
set_option maxRecDepth 20000 in
set_option maxHeartbeats 2000000 in
theorem apply_any {W w : World} {T : Nat → STag} {F : SFix} {K k : Nat} {vs : List Int} {s : SrvD} (hS : SM W w T F K vs s) (hB : BdS s k) (hK : K ≤ 4000000) (hk : k ≤ 1048575) (x : MkV) (hx : SIn W.heap.size w x) {b : Nat} {p : PartD} (hp : s.parts x.d.who = some p) (ha : PartAt w T F.p K s.parts x.d.who b) (hid : I64 p.id.1) :
    Calls Tryz.prog 30 #[.pointer (some ⟨F.g, 0, none⟩), .pointer (some ⟨b, 0, none⟩), .agg x.cells.toArray] w fun e w' => e = .returned (.int .i64 (applyS s x.d p).1) ∧ StepS W w w' T F (K + 2) vs (applyS s x.d p) := by
  obtain ⟨R, hR⟩ : ∃ R, R = applyS s x.d p := ⟨_, rfl⟩
  rw [← hR]
  obtain ⟨r, s'⟩ := R
  simp only
  have hpb := (ha.blk hx.ints.who hp).2
  have hpd := hB.part _ _ hp
  have H := Lib.hid (And.intro hS (And.intro hB (And.intro hx (And.intro hp (And.intro ha (And.intro hpb (And.intro hR hid)))))))
  obtain ⟨w1, hw1⟩ : ∃ w1, w1 = w.alloc (.cells x.cells.toArray 51) := ⟨_, rfl⟩
  obtain ⟨bm, hbm⟩ : ∃ b, b = w.heap.size := ⟨_, rfl⟩
  have hf1 : Fresh w w1 := hw1 ▸ (Keep.refl _ w).alloc _
  have hmb : MkB w1 bm x := by rw [hw1, hbm]; exact MkB.new w x
  have H1 := Lib.hid (And.intro hf1 (And.intro hmb (show w.heap.size ≤ bm by omega)))
  have hlo := hpd.lo
  have hhi := hpd.hi
  clear hS hB hx hp ha hpb hR hpd hf1 hmb hid
  go_enter Tryz.func30, Tryz.ntmps30
  go_upto_region 1 with (fail)
  rw [← hbm, ← hw1]
  clear hbm hw1
  obtain ⟨bq, hbq⟩ : ∃ bq, bq = applyBad p x.d := ⟨_, rfl⟩
  have HBQ := Lib.hid hbq
  clear hbq
  go_cut [51] (fun sv wz => sv = .bool bq ∧ Hid (Fresh w1 wz))
  case first =>
      have k13 := H1.out.2.1.n
      have tm := H1.out.2.1.blk.lt
      obtain ⟨-, ⟨-, -, -, g8⟩, ⟨-, g10, -⟩, lb⟩ := part_cells (H.out.2.2.2.2.2.1.keep H1.out.1 trivial)
      obtain ⟨sn, hsn⟩ : ∃ t, t = p.since := ⟨_, rfl⟩
      rw [← hsn] at g8
      obtain ⟨nn, hnn⟩ : ∃ z, z = x.d.n := ⟨_, rfl⟩
      obtain ⟨la, hla⟩ : ∃ z, z = p.last := ⟨_, rfl⟩
      rw [← hnn] at k13
      rw [← hla] at g10 hlo hhi
      have HB2 : Hid (bq = (decide (nn < 1) || decide (4611686018427387904 < nn) || decide (nn ≤ la) || (decide (0 < la) && !sn && decide (nn ≠ la + 1)))) := Lib.hid (by rw [HBQ.out, hnn, hla, hsn]; rfl)
      have wl : IntKind.i64.wrap (la + 1) = la + 1 := by rw [IntWalk.i64_in _ (by omega)]
      clear hsn hnn hla
      by_cases c1 : nn < 1
      · have d1 : decide (nn < 1) = true := decide_eq_true c1
        obtain rfl : bq = true := by rw [HB2.out, d1]; rfl
        clear c1
        go_quiet (fail)
        go_wp2_with fail
        go_meet
        exact ⟨rfl, Lib.hid ((Keep.refl _ w1).drewN _)⟩
      have d1 : decide (nn < 1) = false := decide_eq_false c1
      by_cases c2 : 4611686018427387904 < nn
      · have d2 : decide (4611686018427387904 < nn) = true := decide_eq_true c2
        obtain rfl : bq = true := by rw [HB2.out, d1, d2]; rfl
        clear c1 c2
        go_quiet (fail)
        go_wp2_with fail
        go_meet
        exact ⟨rfl, Lib.hid ((Keep.refl _ w1).drewN _)⟩
      have d2 : decide (4611686018427387904 < nn) = false := decide_eq_false c2
      by_cases c3 : nn ≤ la
      · have d3 : decide (nn ≤ la) = true := decide_eq_true c3
        obtain rfl : bq = true := by rw [HB2.out, d1, d2, d3]; rfl
        clear c1 c2 c3
        go_quiet (fail)
        go_wp2_with fail
        go_meet
        exact ⟨rfl, Lib.hid ((Keep.refl _ w1).drewN _)⟩
      have d3 : decide (nn ≤ la) = false := decide_eq_false c3
      clear c1 c2 c3
      by_cases c4 : 0 < la
      rotate_left
      · have d4 : decide (0 < la) = false := decide_eq_false c4
        obtain rfl : bq = false := by rw [HB2.out, d1, d2, d3, d4]; rfl
        clear c4
        go_quiet (fail)
        go_wp2_with fail
        go_meet
        exact ⟨rfl, Lib.hid ((Keep.refl _ w1).drewN _)⟩
      have d4 : decide (0 < la) = true := decide_eq_true c4
      clear c4
      cases sn
      rotate_left
      · obtain rfl : bq = false := by rw [HB2.out, d1, d2, d3, d4]; rfl
        go_quiet (fail)
        go_wp2_with fail
        go_meet
        exact ⟨rfl, Lib.hid ((Keep.refl _ w1).drewN _)⟩
      by_cases c5 : nn = la + 1
      · have d5 : (nn != la + 1) = false := by simpa using c5
        have d6 : (nn == la + 1) = true := by simpa using c5
        obtain rfl : bq = false := by rw [HB2.out, d1, d2, d3, d4, decide_eq_false (by simpa using c5)]; rfl
        clear c5
        go_quiet (fail)
        go_wp2_with fail
        go_meet
        exact ⟨rfl, Lib.hid ((Keep.refl _ w1).drewN _)⟩
      · have d5 : (nn != la + 1) = true := by simpa using c5
        have d6 : (nn == la + 1) = false := by simpa using c5
        obtain rfl : bq = true := by rw [HB2.out, d1, d2, d3, d4, decide_eq_true c5]; rfl
        clear c5
        go_quiet (fail)
        go_wp2_with fail
        go_meet
        exact ⟨rfl, Lib.hid ((Keep.refl _ w1).drewN _)⟩
  case rest =>
  rename World => w2
  obtain ⟨rfl, HC2⟩ := hcut
  have H2 := Lib.hid (And.intro (H1.out.1.trans HC2.out) (⟨H1.out.2.1.blk.keep HC2.out trivial⟩ : MkB w2 bm x))
  clear HC2 hlo hhi
  cases bq
  rotate_left
  · obtain ⟨rfl, rfl⟩ : r = 23 ∧ s' = s := by
      have := H.out.2.2.2.2.2.2.1
      unfold applyS at this
      rw [← HBQ.out, if_pos rfl] at this
      exact Prod.mk.inj this
    go_wp2_with fail
    go_ret
    exact ⟨rfl, StepS.bad H2.out.1 (by simp)⟩
  have HBn := Lib.hid (applyBad_n HBQ.out.symm)
  have hR1 : (r, s') = match s.entries x.d.n with
      | some y => if y = (x.d.cmd, x.d.res) then (0, doneS s x.d p) else (24, s)
      | none => if (joinS s x.d).1 = 0 then (0, doneS (joinS s x.d).2 x.d p) else ((joinS s x.d).1, s) := by
    have := H.out.2.2.2.2.2.2.1
    unfold applyS at this
    rw [← HBQ.out, if_neg (by decide)] at this
    exact this
  obtain ⟨en, hen⟩ : ∃ e, e = s.entries x.d.n := ⟨_, rfl⟩
  rw [← hen] at hR1
  obtain ⟨th, hth⟩ : ∃ t, t = en.isSome := ⟨_, rfl⟩
  obtain ⟨⟨ec, er⟩, hee⟩ : ∃ e, e = entOr en := ⟨_, rfl⟩
  have HK3 : Hid (∀ w', Fresh w2 w' → (w'.cell? ⟨F.g, 2, none⟩ = some (.map (some F.e)) ∧ w'.cell? ⟨bm, 13, none⟩ = some (.int .i64 x.d.n) ∧ (Instr.lookup 90 (.map (some F.e)) (.int .i64 x.d.n) true).run Tryz.prog w' = .ok (.tuple #[.agg #[.int .i64 ec.c, .int .i64 ec.i, .int .i64 ec.r, .int .i64 ec.o, tx ec.k, tx ec.v, tx ec.d, .int .i64 er.code, tx er.val, .int .i64 er.n], .bool th]) w')) := Lib.hid fun w' hf => by
    have hv := H.out.1.blk.keep (H2.out.1.trans hf) trivial
    refine ⟨hv.cell 2, (⟨H2.out.2.blk.keep hf trivial⟩ : MkB w' bm x).n, ?_⟩
    have := H.out.1.entries.lookOk (M := mkInt) Tryz.underlying90 ent_zero H.out.2.2.1.n w' (H2.out.1.trans hf)
    rw [← hen, ent_val, ← hee, ← hth] at this
    exact this
  have hbn : Blk (w2.alloc (.cells #[.int .i64 0, .int .i64 0, .int .i64 0, .int .i64 0, tx [], tx [], tx [], .int .i64 0, tx [], .int .i64 0] 130)) w2.heap.size 130 #[.int .i64 0, .int .i64 0, .int .i64 0, .int .i64 0, tx [], tx [], tx [], .int .i64 0, tx [], .int .i64 0] := Blk.new _ _ _
  have HBe := Lib.hid hbn
  have HEn := Lib.hid (And.intro hen (And.intro hth (And.intro hee hR1)))
  clear hbn hen hth hee hR1
  go_upto_region 3 with (fail)
  refine wp_region_held_drew (S := fun w' => w'.cell? ⟨F.g, 2, none⟩ = some (.map (some F.e)) ∧ w'.cell? ⟨bm, 13, none⟩ = some (.int .i64 x.d.n) ∧ (Instr.lookup 90 (.map (some F.e)) (.int .i64 x.d.n) true).run Tryz.prog w' = .ok (.tuple #[.agg #[.int .i64 ec.c, .int .i64 ec.i, .int .i64 ec.r, .int .i64 ec.o, tx ec.k, tx ec.v, tx ec.d, .int .i64 er.code, tx er.val, .int .i64 er.n], .bool th]) w') (by kernel_rfl) (HK3.out _ (Keep.refl _ w2).drew) (fun hHeld => ?_)
  refine wpAnyH_take (i := 0) (v := .pointer (some ⟨F.g, 0, none⟩)) rfl (by kernel_rfl) (by kernel_rfl) (by kernel_rfl) (fun _ _ _ h => h) (Or.inl ⟨by kernel_rfl, by intro w hSw; simp [go_sem, hSw]⟩) hHeld ?_
  simp only [Act.put, List.getElem_toArray, List.getElem_cons_zero, List.getElem_cons_succ, List.setIfInBounds_toArray, List.set_cons_zero, List.set_cons_succ]
  refine wpAnyH_take (i := 1) (v := .pointer (some ⟨F.g, 0, none⟩)) rfl (by kernel_rfl) (by kernel_rfl) (by kernel_rfl) (fun _ _ _ h => h) (Or.inl ⟨by kernel_rfl, by intro w hSw; simp [go_sem, hSw]⟩) hHeld ?_
  simp only [Act.put, List.getElem_toArray, List.getElem_cons_zero, List.getElem_cons_succ, List.setIfInBounds_toArray, List.set_cons_zero, List.set_cons_succ]
  refine wpAnyH_take (i := 2) (v := .pointer (some ⟨F.g, 2, none⟩)) rfl (by kernel_rfl) (by kernel_rfl) (by kernel_rfl) (fun _ _ _ h => h) (Or.inl ⟨by kernel_rfl, by intro w hSw; simp [go_sem, hSw]⟩) hHeld ?_
  simp only [Act.put, List.getElem_toArray, List.getElem_cons_zero, List.getElem_cons_succ, List.setIfInBounds_toArray, List.set_cons_zero, List.set_cons_succ]
  refine wpAnyH_take (i := 3) (v := .map (some F.e)) rfl (by kernel_rfl) (by kernel_rfl) (by kernel_rfl) (fun _ _ _ h => h) (Or.inl ⟨by kernel_rfl, by intro w hSw; simp [go_sem, hSw]⟩) hHeld ?_
  simp only [Act.put, List.getElem_toArray, List.getElem_cons_zero, List.getElem_cons_succ, List.setIfInBounds_toArray, List.set_cons_zero, List.set_cons_succ]
  refine wpAnyH_take (i := 4) (v := .pointer (some ⟨bm, 13, none⟩)) rfl (by kernel_rfl) (by kernel_rfl) (by kernel_rfl) (fun _ _ _ h => h) (Or.inl ⟨by kernel_rfl, by intro w hSw; simp [go_sem, hSw]⟩) hHeld ?_
  simp only [Act.put, List.getElem_toArray, List.getElem_cons_zero, List.getElem_cons_succ, List.setIfInBounds_toArray, List.set_cons_zero, List.set_cons_succ]
  refine wpAnyH_take (i := 5) (v := .int .i64 x.d.n) rfl (by kernel_rfl) (by kernel_rfl) (by kernel_rfl) (fun _ _ _ h => h) (Or.inl ⟨by kernel_rfl, by intro w hSw; simp [go_sem, hSw]⟩) hHeld ?_
  simp only [Act.put, List.getElem_toArray, List.getElem_cons_zero, List.getElem_cons_succ, List.setIfInBounds_toArray, List.set_cons_zero, List.set_cons_succ]
  refine wpAnyH_take (i := 6) (v := .tuple #[.agg #[.int .i64 ec.c, .int .i64 ec.i, .int .i64 ec.r, .int .i64 ec.o, tx ec.k, tx ec.v, tx ec.d, .int .i64 er.code, tx er.val, .int .i64 er.n], .bool th]) rfl (by kernel_rfl) (by kernel_rfl) (by kernel_rfl) (fun _ _ _ h => h) (Or.inl ⟨by kernel_rfl, by intro w hSw; simp [go_sem, hSw]⟩) hHeld ?_
  simp only [Act.put, List.getElem_toArray, List.getElem_cons_zero, List.getElem_cons_succ, List.setIfInBounds_toArray, List.set_cons_zero, List.set_cons_succ]
  refine wpAnyH_take (i := 7) (v := .tuple #[.agg #[.int .i64 ec.c, .int .i64 ec.i, .int .i64 ec.r, .int .i64 ec.o, tx ec.k, tx ec.v, tx ec.d, .int .i64 er.code, tx er.val, .int .i64 er.n], .bool th]) rfl (by kernel_rfl) (by kernel_rfl) (by kernel_rfl) (fun _ _ _ h => h) (Or.inl ⟨by kernel_rfl, by intro w hSw; simp [go_sem, hSw]⟩) hHeld ?_
  simp only [Act.put, List.getElem_toArray, List.getElem_cons_zero, List.getElem_cons_succ, List.setIfInBounds_toArray, List.set_cons_zero, List.set_cons_succ]
  refine wpAnyH_take (i := 8) (v := .agg #[.int .i64 ec.c, .int .i64 ec.i, .int .i64 ec.r, .int .i64 ec.o, tx ec.k, tx ec.v, tx ec.d, .int .i64 er.code, tx er.val, .int .i64 er.n]) rfl (by kernel_rfl) (by kernel_rfl) (by kernel_rfl) (fun _ _ _ h => h) (Or.inl ⟨by kernel_rfl, by intro w hSw; simp [go_sem, hSw]⟩) hHeld ?_
  simp only [Act.put, List.getElem_toArray, List.getElem_cons_zero, List.getElem_cons_succ, List.setIfInBounds_toArray, List.set_cons_zero, List.set_cons_succ]
  refine wpAnyH_take (i := 9) (v := .bool th) rfl (by kernel_rfl) (by kernel_rfl) (by kernel_rfl) (fun _ _ _ h => h) (Or.inl ⟨by kernel_rfl, by intro w hSw; simp [go_sem, hSw]⟩) hHeld ?_
  simp only [Act.put, List.getElem_toArray, List.getElem_cons_zero, List.getElem_cons_succ, List.setIfInBounds_toArray, List.set_cons_zero, List.set_cons_succ]
  refine wpAnyH_ready (rs := [10]) (by kernel_rfl) (by simp) ?_
  clear hHeld
  refine AllReadyH.cons rfl (fun K hK => ?_) AllReadyH.nil
  go_simp
  refine hK.out _ _ (HK3.out _ (((Keep.refl _ w2).alloc _).drew)) (fun hHeld => ?_)
  clear hK K
  try simp only [Act.put, List.getElem_toArray, List.getElem_cons_zero, List.getElem_cons_succ, List.setIfInBounds_toArray, List.set_cons_zero, List.set_cons_succ]
  refine wpAnyH_ready (rs := [11]) (by kernel_rfl) (by simp) ?_
  clear hHeld
  refine AllReadyH.cons rfl (fun K hK => ?_) AllReadyH.nil
  rw [if_pos (by rfl)]
  refine wp_store_mid _ _ _ rfl w2.heap.size 0 (entL (ec, er)).toArray rfl rfl (HBe.out.drew.there) (by kernel_rfl) (ent_all (ec, er)) ?_
  refine hK.out _ _ (HK3.out _ (Keep.setCells _ _ _ ((Keep.refl _ w2).alloc _).drew (fun h _ => absurd h (Nat.lt_irrefl _)))) (fun hHeld => ?_)
  clear hK K
  try simp only [Act.put, List.getElem_toArray, List.getElem_cons_zero, List.getElem_cons_succ, List.setIfInBounds_toArray, List.set_cons_zero, List.set_cons_succ]
  refine wpAnyH_take (i := 12) (v := .bool th) rfl (by kernel_rfl) (by kernel_rfl) (by kernel_rfl) (fun _ _ _ h => h) (Or.inl ⟨by kernel_rfl, by intro w hSw; simp [go_sem, hSw]⟩) hHeld ?_
  simp only [Act.put, List.getElem_toArray, List.getElem_cons_zero, List.getElem_cons_succ, List.setIfInBounds_toArray, List.set_cons_zero, List.set_cons_succ]
  refine wpAnyH_done (by kernel_rfl) ?_ _
  clear hHeld
  obtain ⟨be, hbe⟩ : ∃ b, b = w2.heap.size := ⟨_, rfl⟩
  generalize hw9 : World.setCells _ _ _ _ = w9
  have hf9 : Fresh w2 w9 := by
    rw [← hw9]
    exact Keep.setCells _ _ _ ((Keep.refl _ w2).alloc _).drew (fun h _ => absurd h (Nat.lt_irrefl _))
  have hb9 : Blk w9 be 130 (entL (ec, er)).toArray := by
    rw [hbe, ← hw9]
    obtain ⟨cs', h1, h2⟩ := Blk.setCells (entL (ec, er)) 0 _ _ HBe.out.drew (by simp [entL])
    have e : cs' = (entL (ec, er)).toArray := by
      apply Array.ext'
      rw [h2]
      simp [entL]
    rw [e] at h1
    exact h1
  rw [← hbe]
  have H9 := Lib.hid (And.intro (H2.out.1.trans hf9) (And.intro hb9 (⟨H2.out.2.blk.keep hf9 trivial⟩ : MkB w9 bm x)))
  clear hw9 hf9 hb9 hbe HBe HK3
  cases th
  · -- nothing stands there yet
    have hR2 : (r, s') = if (joinS s x.d).1 = 0 then (0, doneS (joinS s x.d).2 x.d p) else ((joinS s x.d).1, s) := by
      obtain ⟨-, h1, -, h2⟩ := HEn.out
      cases en with
      | none => exact h2
      | some _ => cases h1
    have HJ := Lib.hid (join_any (H.out.1.then H9.out.1) H.out.2.1 hK hk x (H.out.2.2.1.keep (Z := fun _ => True) H9.out.1 (fun _ _ => trivial)))
    obtain ⟨JR, hJR⟩ : ∃ j, j = joinS s x.d := ⟨_, rfl⟩
    rw [← hJR] at hR2 HJ
    obtain ⟨jr, s2⟩ := JR
    simp only at hR2 HJ
    have HR2 := Lib.hid (And.intro hR2 hJR)
    have HRm := Lib.hid H9.out.2.2.range00
    have tm := H9.out.2.2.blk.lt
    clear hR2 hJR
    go_wp2_with (refine wpList_load_mid rfl 51 _ rfl bm 0 rfl x.cells _ HRm.out Tryz.underlying51 rfl (by kernel_rfl) ?_)
    refine Calls.mono HJ.out ?_
    rintro e wt ⟨rfl, hst⟩
    have HSt := Lib.hid hst
    clear hst HJ HRm tm
    by_cases hz : jr = 0
    rotate_left
    · obtain ⟨rfl, rfl⟩ : r = jr ∧ s' = s := by
        have := HR2.out.1
        rw [if_neg hz] at this
        exact Prod.mk.inj this
      have hzb : (r != 0) = true := by simpa using hz
      have hzc : (r == 0) = false := by simpa using hz
      have HZ := Lib.hid hz
      clear hz
      go_wp2_with fail
      go_ret
      exact ⟨rfl, ((H9.out.1.weaken fun _ _ _ => trivial).trans HSt.out.keep).weaken fun j _ hj => .inl hj, fun e => absurd e HZ.out⟩
    · subst hz
      obtain ⟨T2, hT2, hS2⟩ := HSt.out.next rfl
      have HT : Hid (AppT W w wt T T2 F (K + 1) vs s2 x b bm p (r, s')) := Lib.hid (by
        have hkj : Keep (JB W T) w wt := (H9.out.1.weaken fun _ _ _ => trivial).trans HSt.out.keep
        have hps : s2.parts = s.parts := by
          have h1 := HR2.out.2
          have h2 := joinS_parts (s := s) (m := x.d) (by rw [← h1])
          rw [← h1] at h2
          exact h2
        refine ⟨hT2, hS2, ?_, by rw [hps]; exact H.out.2.2.2.1, hkj, ?_, ?_⟩
        · rw [hps]
          exact H.out.2.2.2.2.1.keep hkj (.inr (.inl (by rw [H.out.1.fix.p]; rfl))) (fun j y hj => .inr (.inl (by rw [hj]; rfl))) hT2 (Nat.le_succ K)
        · exact ⟨H9.out.2.2.blk.keep HSt.out.keep (.inr (.inr (H.out.1.untagged H1.out.2.2)))⟩
        · have := HR2.out.1
          rw [if_pos rfl] at this
          exact this)
      clear hT2 hS2
      have hbt := HT.out.pa.blk H.out.2.2.1.ints.who HT.out.pp
      obtain ⟨-, ⟨g5, -, -, g8⟩, ⟨-, g10, -⟩, lb⟩ := part_cells hbt.2
      have f8 := hbt.2.frozen 8
      have f10 := hbt.2.frozen 10
      have k13 := HT.out.mb.n
      have tm := HT.out.mb.blk.lt
      clear hbt
      go_upto_region 11 with (fail)
      generalize hwu : World.setCell _ _ _ = wu
      have hku : Keep (fun j => j ≠ b) wt wu := by rw [← hwu]; exact keep_in (keep_in (Keep.refl _ wt) _ _) _ _
      have hbu : Blk wu b 102 (partV { p with last := x.d.n, since := false }) := by
        rw [← hwu]
        exact part_since (part_last (HT.out.pa.blk H.out.2.2.1.ints.who HT.out.pp).2 x.d.n) false
      have hput := HT.out.sm.put HT.out.pa H.out.2.2.1.ints.who HT.out.pp hku hbu
      have nbm : bm ≠ b := by have := H1.out.2.2; have := H.out.2.2.2.2.2.1.lt; omega
      have hmu : MkB wu bm x := ⟨HT.out.mb.blk.keep hku nbm⟩
      have HKu : Hid (Keep (SB W T) w wu) := Lib.hid ((HT.out.keep.weaken fun j _ hj => .inl hj).comp hku (fun _ _ h => h) (fun j _ hj => SB.ne H.out.1 (H.out.2.2.2.2.1.blk H.out.2.2.1.ints.who H.out.2.2.2.1).1 (by simp) (by simp) hj))
      have HU := Lib.hid (And.intro hput.1 (And.intro hbu hmu))
      obtain ⟨vw, hvw⟩ : ∃ v, v = p.viewed := ⟨_, rfl⟩
      obtain ⟨⟨h0, -, -, -, -⟩, ⟨g5, -, -, -⟩, -, lb⟩ := part_cells hbu
      rw [← hvw] at g5
      have HVw := Lib.hid hvw
      clear hwu hku hbu hput nbm hmu g8 g10 f8 f10 k13 tm hvw
      cases vw
      · obtain ⟨rfl, hs'⟩ : r = 0 ∧ s' = s2.setPart x.d.who { p with last := x.d.n, since := false } := by
          have := HT.out.eq
          rw [doneS_f HVw.out.symm] at this
          exact Prod.mk.inj this
        have HS' := Lib.hid hs'
        clear hs'
        go_wp2_with fail
        go_ret
        refine ⟨rfl, HKu.out, fun _ => ⟨T2, HT.out.more, ?_⟩⟩
        rw [HS'.out]
        exact HU.out.1.mono (Nat.le_succ _)
      · obtain ⟨rfl, hs'⟩ : r = 0 ∧ s' = { s2.setPart x.d.who { p with last := x.d.n, since := false } with furthest := upd s2.furthest p.id.1 (some (max ((s2.furthest p.id.1).getD 0) x.d.n)) } := by
          have := HT.out.eq
          rw [doneS_t HVw.out.symm] at this
          exact Prod.mk.inj this
        have HS' := Lib.hid hs'
        obtain ⟨ov, hov⟩ : ∃ v, v = (s2.furthest p.id.1).getD 0 := ⟨_, rfl⟩
        have nug : F.g ≠ F.u := stag_ne HU.out.1.fix.g HU.out.1.fix.u (by simp)
        have nmu : bm ≠ F.u := by have := (H.out.1.low F.u (by rw [H.out.1.fix.u]; simp)).2; have := H1.out.2.2; omega
        have HL13 : Hid (∀ w', Fresh wu w' → (Instr.lookup 93 (.map (some F.u)) (.int .i64 p.id.1) false).run Tryz.prog w' = .ok (.int .i64 ov) w') := Lib.hid fun w' hf => by
          have := HU.out.1.furthest.lookF (M := mkInt) Tryz.underlying93 (fun u => Tryz.zeroValue3 u) H.out.2.2.2.2.2.2.2 w' hf
          rw [plc_val] at this
          rw [hov]
          exact this
        have HK13 : Hid (∀ w', Fresh wu w' → (w'.cell? ⟨F.g, 6, none⟩ = some (.map (some F.u)) ∧ w'.cell? ⟨bm, 13, none⟩ = some (.int .i64 x.d.n))) := Lib.hid fun w' hf => by
          exact ⟨(HU.out.1.blk.keep hf trivial).cell 6, (⟨HU.out.2.2.blk.keep hf trivial⟩ : MkB w' bm x).n⟩
        obtain ⟨wv, hrun, hFv, hkv⟩ := (HU.out.1.furthest.keep ((Keep.refl (fun _ => True) wu).drew) trivial).store (M := mkInt) Tryz.underlying93 (by omega) (x := p.id.1) H.out.2.2.2.2.2.2.2 (max ov x.d.n)
        have hrun2 : (Instr.mapUpdate 93 (.map (some F.u)) (.int .i64 p.id.1) (.int .i64 (max ov x.d.n))).run Tryz.prog wu.drew = .ok () wv := hrun
        have hkuv : Keep (fun j => j ≠ F.u) wu wv := ((Keep.refl _ wu).drew).trans hkv
        have HEnd : Hid (StepS W w wv T F (K + 2) vs (0, s')) := Lib.hid ⟨HKu.out.comp hkuv (fun _ _ h => h) (fun j _ hj => SB.ne H.out.1 H.out.1.fix.u (by simp) (by simp) hj), fun _ => ⟨T2, HT.out.more, by
          rw [HS'.out, ← hov]
          exact HU.out.1.with_furthest hkuv (fun j hj hp e => by rw [e, HU.out.1.fix.u] at hp; exact hp rfl) (fun j hj e => by have := (HU.out.1.low F.u (by rw [HU.out.1.fix.u]; simp)).1; omega) (SMore.refl T2) (HU.out.1.same_low hkuv.size) (Nat.le_succ _) hFv⟩⟩
        have HK14 : Hid (wv.cell? ⟨F.g, 6, none⟩ = some (.map (some F.u)) ∧ wv.cell? ⟨bm, 13, none⟩ = some (.int .i64 x.d.n)) := Lib.hid (by
          have hv := HU.out.1.blk.keep hkuv nug
          exact ⟨hv.cell 6, (⟨HU.out.2.2.blk.keep hkuv nmu⟩ : MkB wv bm x).n⟩)
        clear hs' hov nug nmu hrun hFv hkv
        go_upto_region 13 with (fail)
        refine wp_region_held_drew (S := fun w' => w'.cell? ⟨F.g, 6, none⟩ = some (.map (some F.u)) ∧ w'.cell? ⟨bm, 13, none⟩ = some (.int .i64 x.d.n)) (by kernel_rfl) (HK13.out _ (Keep.refl _ wu).drew) (fun hHeld => ?_)
        refine wpAnyH_take (i := 0) (v := .pointer (some ⟨F.g, 0, none⟩)) rfl (by kernel_rfl) (by kernel_rfl) (by kernel_rfl) (fun _ _ _ h => h) (Or.inl ⟨by kernel_rfl, by intro w hSw; simp [go_sem, hSw]⟩) hHeld ?_
        simp only [Act.put, List.getElem_toArray, List.getElem_cons_zero, List.getElem_cons_succ, List.setIfInBounds_toArray, List.set_cons_zero, List.set_cons_succ]
        refine wpAnyH_take (i := 1) (v := .pointer (some ⟨F.g, 0, none⟩)) rfl (by kernel_rfl) (by kernel_rfl) (by kernel_rfl) (fun _ _ _ h => h) (Or.inl ⟨by kernel_rfl, by intro w hSw; simp [go_sem, hSw]⟩) hHeld ?_
        simp only [Act.put, List.getElem_toArray, List.getElem_cons_zero, List.getElem_cons_succ, List.setIfInBounds_toArray, List.set_cons_zero, List.set_cons_succ]
        refine wpAnyH_take (i := 2) (v := .pointer (some ⟨F.g, 6, none⟩)) rfl (by kernel_rfl) (by kernel_rfl) (by kernel_rfl) (fun _ _ _ h => h) (Or.inl ⟨by kernel_rfl, by intro w hSw; simp [go_sem, hSw]⟩) hHeld ?_
        simp only [Act.put, List.getElem_toArray, List.getElem_cons_zero, List.getElem_cons_succ, List.setIfInBounds_toArray, List.set_cons_zero, List.set_cons_succ]
        refine wpAnyH_take (i := 3) (v := .map (some F.u)) rfl (by kernel_rfl) (by kernel_rfl) (by kernel_rfl) (fun _ _ _ h => h) (Or.inl ⟨by kernel_rfl, by intro w hSw; simp [go_sem, hSw]⟩) hHeld ?_
        simp only [Act.put, List.getElem_toArray, List.getElem_cons_zero, List.getElem_cons_succ, List.setIfInBounds_toArray, List.set_cons_zero, List.set_cons_succ]
        refine wpAnyH_take (i := 4) (v := .int .i64 p.id.1) rfl (by kernel_rfl) (by kernel_rfl) (by kernel_rfl) (fun _ _ _ h => h) (Or.inl ⟨by kernel_rfl, by intro w hSw; simp [go_sem, hSw]⟩) hHeld ?_
        simp only [Act.put, List.getElem_toArray, List.getElem_cons_zero, List.getElem_cons_succ, List.setIfInBounds_toArray, List.set_cons_zero, List.set_cons_succ]
        refine wpAnyH_take (i := 5) (v := .pointer (some ⟨F.g, 0, none⟩)) rfl (by kernel_rfl) (by kernel_rfl) (by kernel_rfl) (fun _ _ _ h => h) (Or.inl ⟨by kernel_rfl, by intro w hSw; simp [go_sem, hSw]⟩) hHeld ?_
        simp only [Act.put, List.getElem_toArray, List.getElem_cons_zero, List.getElem_cons_succ, List.setIfInBounds_toArray, List.set_cons_zero, List.set_cons_succ]
        refine wpAnyH_take (i := 6) (v := .pointer (some ⟨F.g, 0, none⟩)) rfl (by kernel_rfl) (by kernel_rfl) (by kernel_rfl) (fun _ _ _ h => h) (Or.inl ⟨by kernel_rfl, by intro w hSw; simp [go_sem, hSw]⟩) hHeld ?_
        simp only [Act.put, List.getElem_toArray, List.getElem_cons_zero, List.getElem_cons_succ, List.setIfInBounds_toArray, List.set_cons_zero, List.set_cons_succ]
        refine wpAnyH_take (i := 7) (v := .pointer (some ⟨F.g, 6, none⟩)) rfl (by kernel_rfl) (by kernel_rfl) (by kernel_rfl) (fun _ _ _ h => h) (Or.inl ⟨by kernel_rfl, by intro w hSw; simp [go_sem, hSw]⟩) hHeld ?_
        simp only [Act.put, List.getElem_toArray, List.getElem_cons_zero, List.getElem_cons_succ, List.setIfInBounds_toArray, List.set_cons_zero, List.set_cons_succ]
        refine wpAnyH_take (i := 8) (v := .map (some F.u)) rfl (by kernel_rfl) (by kernel_rfl) (by kernel_rfl) (fun _ _ _ h => h) (Or.inl ⟨by kernel_rfl, by intro w hSw; simp [go_sem, hSw]⟩) hHeld ?_
        simp only [Act.put, List.getElem_toArray, List.getElem_cons_zero, List.getElem_cons_succ, List.setIfInBounds_toArray, List.set_cons_zero, List.set_cons_succ]
        refine wpAnyH_take (i := 9) (v := .int .i64 p.id.1) rfl (by kernel_rfl) (by kernel_rfl) (by kernel_rfl) (fun _ _ _ h => h) (Or.inl ⟨by kernel_rfl, by intro w hSw; simp [go_sem, hSw]⟩) hHeld ?_
        simp only [Act.put, List.getElem_toArray, List.getElem_cons_zero, List.getElem_cons_succ, List.setIfInBounds_toArray, List.set_cons_zero, List.set_cons_succ]
        refine wpAnyH_take (i := 11) (v := .pointer (some ⟨bm, 13, none⟩)) rfl (by kernel_rfl) (by kernel_rfl) (by kernel_rfl) (fun _ _ _ h => h) (Or.inl ⟨by kernel_rfl, by intro w hSw; simp [go_sem, hSw]⟩) hHeld ?_
        simp only [Act.put, List.getElem_toArray, List.getElem_cons_zero, List.getElem_cons_succ, List.setIfInBounds_toArray, List.set_cons_zero, List.set_cons_succ]
        refine wpAnyH_take (i := 12) (v := .int .i64 x.d.n) rfl (by kernel_rfl) (by kernel_rfl) (by kernel_rfl) (fun _ _ _ h => h) (Or.inl ⟨by kernel_rfl, by intro w hSw; simp [go_sem, hSw]⟩) hHeld ?_
        simp only [Act.put, List.getElem_toArray, List.getElem_cons_zero, List.getElem_cons_succ, List.setIfInBounds_toArray, List.set_cons_zero, List.set_cons_succ]
        have L10 := HL13.out _ (Keep.refl _ wu).drew
        refine wpAnyH_ready (rs := [10]) (by kernel_rfl) (by simp) ?_
        clear hHeld
        refine AllReadyH.cons rfl (fun K hK => ?_) AllReadyH.nil
        go_simp
        refine hK.out _ _ (HK13.out _ (Keep.refl _ wu).drew) (fun hHeld => ?_)
        clear hK K
        try simp only [Act.put, List.getElem_toArray, List.getElem_cons_zero, List.getElem_cons_succ, List.setIfInBounds_toArray, List.set_cons_zero, List.set_cons_succ]
        refine wpAnyH_ready (rs := [13]) (by kernel_rfl) (by simp) ?_
        clear hHeld
        refine AllReadyH.cons rfl (fun K hK => ?_) AllReadyH.nil
        go_simp
        refine hK.out _ _ (HK13.out _ (Keep.refl _ wu).drew) (fun hHeld => ?_)
        clear hK K
        try simp only [Act.put, List.getElem_toArray, List.getElem_cons_zero, List.getElem_cons_succ, List.setIfInBounds_toArray, List.set_cons_zero, List.set_cons_succ]
        refine wpAnyH_ready (rs := [14]) (by kernel_rfl) (by simp) ?_
        clear hHeld
        refine AllReadyH.cons rfl (fun K hK => ?_) AllReadyH.nil
        rw [if_pos (by rfl)]
        refine wp_mapUpd _ _ _ _ rfl rfl rfl rfl hrun2 ?_
        refine hK.out _ _ (HK14.out) (fun hHeld => ?_)
        clear hK K
        try simp only [Act.put, List.getElem_toArray, List.getElem_cons_zero, List.getElem_cons_succ, List.setIfInBounds_toArray, List.set_cons_zero, List.set_cons_succ]
        refine wpAnyH_done (by kernel_rfl) ?_ _
        clear hHeld
        go_wp2_with fail
        go_ret
        exact ⟨rfl, HEnd.out⟩
      
  · -- an entry stands there
    have hR2 : (r, s') = if (ec, er) = (x.d.cmd, x.d.res) then (0, doneS s x.d p) else (24, s) := by
      obtain ⟨-, h1, h2, h3⟩ := HEn.out
      cases en with
      | none => cases h1
      | some y =>
        have : (ec, er) = y := h2
        rw [this]
        exact h3
    obtain ⟨q, hq⟩ : ∃ q, q = decide ((ec, er) ≠ (x.d.cmd, x.d.res)) := ⟨_, rfl⟩
    have NE : ∀ u, Sem.run Tryz.prog (binOp BinOp.neq 130 (.agg #[.int .i64 ec.c, .int .i64 ec.i, .int .i64 ec.r, .int .i64 ec.o, tx ec.k, tx ec.v, tx ec.d, .int .i64 er.code, tx er.val, .int .i64 er.n]) (.agg #[.int .i64 x.d.cmd.c, .int .i64 x.d.cmd.i, .int .i64 x.d.cmd.r, .int .i64 x.d.cmd.o, tx x.d.cmd.k, tx x.d.cmd.v, tx x.d.cmd.d, .int .i64 x.d.rc, tx x.d.rv, .int .i64 x.d.rn])) u = .ok (.bool q) u := fun u => by
      have := neent (ec, er) (x.d.cmd, x.d.res) u
      rw [← hq] at this
      exact this
    have HR2 := Lib.hid (And.intro hR2 hq)
    have e0 := H9.out.2.1.cell 0; have e1 := H9.out.2.1.cell 1; have e2 := H9.out.2.1.cell 2; have e3 := H9.out.2.1.cell 3; have e4 := H9.out.2.1.cell 4; have e5 := H9.out.2.1.cell 5; have e6 := H9.out.2.1.cell 6; have e7 := H9.out.2.1.cell 7; have e8 := H9.out.2.1.cell 8; have e9 := H9.out.2.1.cell 9
    simp [entL] at e0 e1 e2 e3 e4 e5 e6 e7 e8 e9
    have te := H9.out.2.1.lt
    have k15 := H9.out.2.2.cc; have k16 := H9.out.2.2.ci; have k17 := H9.out.2.2.cr; have k18 := H9.out.2.2.co; have k19 := H9.out.2.2.ck; have k20 := H9.out.2.2.cv; have k21 := H9.out.2.2.cd; have tm := H9.out.2.2.blk.lt
    have k22 := H9.out.2.2.rc; have k23 := H9.out.2.2.rv; have k24 := H9.out.2.2.rn
    clear hR2 hq
    cases q
    rotate_left
    · obtain ⟨rfl, rfl⟩ : r = 24 ∧ s' = s := by
        have h1 := HR2.out.1
        rw [if_neg (of_decide_eq_true HR2.out.2.symm)] at h1
        exact Prod.mk.inj h1
      go_wp2_with fail
      go_ret
      exact ⟨rfl, StepS.bad H9.out.1 (by simp)⟩
    · obtain ⟨wt, hwt⟩ : ∃ wt, wt = w9 := ⟨_, rfl⟩
      have HT : Hid (AppT W w w9 T T F (K + 1) vs s x b bm p (r, s')) := Lib.hid (by
        have h1 := HR2.out.1
        have h2 := of_decide_eq_false HR2.out.2.symm
        rw [if_pos (Decidable.not_not.1 h2)] at h1
        exact ⟨SMore.refl T, (H.out.1.then H9.out.1).mono (Nat.le_succ K), H.out.2.2.2.2.1.keep H9.out.1 trivial (fun _ _ _ => trivial) (SMore.refl T) (Nat.le_succ K), H.out.2.2.2.1, H9.out.1.weaken fun _ _ _ => trivial, H9.out.2.2, h1⟩)
      subst hwt
      go_upto_region 10 with (fail)
      clear NE e0 e1 e2 e3 e4 e5 e6 e7 e8 e9 te k15 k16 k17 k18 k19 k20 k21 k22 k23 k24 tm
      have hbt := HT.out.pa.blk H.out.2.2.1.ints.who HT.out.pp
      obtain ⟨-, ⟨g5, -, -, g8⟩, ⟨-, g10, -⟩, lb⟩ := part_cells hbt.2
      have f8 := hbt.2.frozen 8
      have f10 := hbt.2.frozen 10
      have k13 := HT.out.mb.n
      have tm := HT.out.mb.blk.lt
      clear hbt
      go_upto_region 11 with (fail)
      generalize hwu : World.setCell _ _ _ = wu
      have hku : Keep (fun j => j ≠ b) wt wu := by rw [← hwu]; exact keep_in (keep_in (Keep.refl _ wt) _ _) _ _
      have hbu : Blk wu b 102 (partV { p with last := x.d.n, since := false }) := by
        rw [← hwu]
        exact part_since (part_last (HT.out.pa.blk H.out.2.2.1.ints.who HT.out.pp).2 x.d.n) false
      have hput := HT.out.sm.put HT.out.pa H.out.2.2.1.ints.who HT.out.pp hku hbu
      have nbm : bm ≠ b := by have := H1.out.2.2; have := H.out.2.2.2.2.2.1.lt; omega
      have hmu : MkB wu bm x := ⟨HT.out.mb.blk.keep hku nbm⟩
      have HKu : Hid (Keep (SB W T) w wu) := Lib.hid ((HT.out.keep.weaken fun j _ hj => .inl hj).comp hku (fun _ _ h => h) (fun j _ hj => SB.ne H.out.1 (H.out.2.2.2.2.1.blk H.out.2.2.1.ints.who H.out.2.2.2.1).1 (by simp) (by simp) hj))
      have HU := Lib.hid (And.intro hput.1 (And.intro hbu hmu))
      obtain ⟨vw, hvw⟩ : ∃ v, v = p.viewed := ⟨_, rfl⟩
      obtain ⟨⟨h0, -, -, -, -⟩, ⟨g5, -, -, -⟩, -, lb⟩ := part_cells hbu
      rw [← hvw] at g5
      have HVw := Lib.hid hvw
      clear hwu hku hbu hput nbm hmu g8 g10 f8 f10 k13 tm hvw
      cases vw
      · obtain ⟨rfl, hs'⟩ : r = 0 ∧ s' = s.setPart x.d.who { p with last := x.d.n, since := false } := by
          have := HT.out.eq
          rw [doneS_f HVw.out.symm] at this
          exact Prod.mk.inj this
        have HS' := Lib.hid hs'
        clear hs'
        go_wp2_with fail
        go_ret
        refine ⟨rfl, HKu.out, fun _ => ⟨T, HT.out.more, ?_⟩⟩
        rw [HS'.out]
        exact HU.out.1.mono (Nat.le_succ _)
      · obtain ⟨rfl, hs'⟩ : r = 0 ∧ s' = { s.setPart x.d.who { p with last := x.d.n, since := false } with furthest := upd s.furthest p.id.1 (some (max ((s.furthest p.id.1).getD 0) x.d.n)) } := by
          have := HT.out.eq
          rw [doneS_t HVw.out.symm] at this
          exact Prod.mk.inj this
        have HS' := Lib.hid hs'
        obtain ⟨ov, hov⟩ : ∃ v, v = (s.furthest p.id.1).getD 0 := ⟨_, rfl⟩
        have nug : F.g ≠ F.u := stag_ne HU.out.1.fix.g HU.out.1.fix.u (by simp)
        have nmu : bm ≠ F.u := by have := (H.out.1.low F.u (by rw [H.out.1.fix.u]; simp)).2; have := H1.out.2.2; omega
        have HL13 : Hid (∀ w', Fresh wu w' → (Instr.lookup 93 (.map (some F.u)) (.int .i64 p.id.1) false).run Tryz.prog w' = .ok (.int .i64 ov) w') := Lib.hid fun w' hf => by
          have := HU.out.1.furthest.lookF (M := mkInt) Tryz.underlying93 (fun u => Tryz.zeroValue3 u) H.out.2.2.2.2.2.2.2 w' hf
          rw [plc_val] at this
          rw [hov]
          exact this
        have HK13 : Hid (∀ w', Fresh wu w' → (w'.cell? ⟨F.g, 6, none⟩ = some (.map (some F.u)) ∧ w'.cell? ⟨bm, 13, none⟩ = some (.int .i64 x.d.n))) := Lib.hid fun w' hf => by
          exact ⟨(HU.out.1.blk.keep hf trivial).cell 6, (⟨HU.out.2.2.blk.keep hf trivial⟩ : MkB w' bm x).n⟩
        obtain ⟨wv, hrun, hFv, hkv⟩ := (HU.out.1.furthest.keep ((Keep.refl (fun _ => True) wu).drew) trivial).store (M := mkInt) Tryz.underlying93 (by omega) (x := p.id.1) H.out.2.2.2.2.2.2.2 (max ov x.d.n)
        have hrun2 : (Instr.mapUpdate 93 (.map (some F.u)) (.int .i64 p.id.1) (.int .i64 (max ov x.d.n))).run Tryz.prog wu.drew = .ok () wv := hrun
        have hkuv : Keep (fun j => j ≠ F.u) wu wv := ((Keep.refl _ wu).drew).trans hkv
        have HEnd : Hid (StepS W w wv T F (K + 2) vs (0, s')) := Lib.hid ⟨HKu.out.comp hkuv (fun _ _ h => h) (fun j _ hj => SB.ne H.out.1 H.out.1.fix.u (by simp) (by simp) hj), fun _ => ⟨T, HT.out.more, by
          rw [HS'.out, ← hov]
          exact HU.out.1.with_furthest hkuv (fun j hj hp e => by rw [e, HU.out.1.fix.u] at hp; exact hp rfl) (fun j hj e => by have := (HU.out.1.low F.u (by rw [HU.out.1.fix.u]; simp)).1; omega) (SMore.refl T) (HU.out.1.same_low hkuv.size) (Nat.le_succ _) hFv⟩⟩
        have HK14 : Hid (wv.cell? ⟨F.g, 6, none⟩ = some (.map (some F.u)) ∧ wv.cell? ⟨bm, 13, none⟩ = some (.int .i64 x.d.n)) := Lib.hid (by
          have hv := HU.out.1.blk.keep hkuv nug
          exact ⟨hv.cell 6, (⟨HU.out.2.2.blk.keep hkuv nmu⟩ : MkB wv bm x).n⟩)
        clear hs' hov nug nmu hrun hFv hkv
        go_upto_region 13 with (fail)
        refine wp_region_held_drew (S := fun w' => w'.cell? ⟨F.g, 6, none⟩ = some (.map (some F.u)) ∧ w'.cell? ⟨bm, 13, none⟩ = some (.int .i64 x.d.n)) (by kernel_rfl) (HK13.out _ (Keep.refl _ wu).drew) (fun hHeld => ?_)
        refine wpAnyH_take (i := 0) (v := .pointer (some ⟨F.g, 0, none⟩)) rfl (by kernel_rfl) (by kernel_rfl) (by kernel_rfl) (fun _ _ _ h => h) (Or.inl ⟨by kernel_rfl, by intro w hSw; simp [go_sem, hSw]⟩) hHeld ?_
        simp only [Act.put, List.getElem_toArray, List.getElem_cons_zero, List.getElem_cons_succ, List.setIfInBounds_toArray, List.set_cons_zero, List.set_cons_succ]
        refine wpAnyH_take (i := 1) (v := .pointer (some ⟨F.g, 0, none⟩)) rfl (by kernel_rfl) (by kernel_rfl) (by kernel_rfl) (fun _ _ _ h => h) (Or.inl ⟨by kernel_rfl, by intro w hSw; simp [go_sem, hSw]⟩) hHeld ?_
        simp only [Act.put, List.getElem_toArray, List.getElem_cons_zero, List.getElem_cons_succ, List.setIfInBounds_toArray, List.set_cons_zero, List.set_cons_succ]
        refine wpAnyH_take (i := 2) (v := .pointer (some ⟨F.g, 6, none⟩)) rfl (by kernel_rfl) (by kernel_rfl) (by kernel_rfl) (fun _ _ _ h => h) (Or.inl ⟨by kernel_rfl, by intro w hSw; simp [go_sem, hSw]⟩) hHeld ?_
        simp only [Act.put, List.getElem_toArray, List.getElem_cons_zero, List.getElem_cons_succ, List.setIfInBounds_toArray, List.set_cons_zero, List.set_cons_succ]
        refine wpAnyH_take (i := 3) (v := .map (some F.u)) rfl (by kernel_rfl) (by kernel_rfl) (by kernel_rfl) (fun _ _ _ h => h) (Or.inl ⟨by kernel_rfl, by intro w hSw; simp [go_sem, hSw]⟩) hHeld ?_
        simp only [Act.put, List.getElem_toArray, List.getElem_cons_zero, List.getElem_cons_succ, List.setIfInBounds_toArray, List.set_cons_zero, List.set_cons_succ]
        refine wpAnyH_take (i := 4) (v := .int .i64 p.id.1) rfl (by kernel_rfl) (by kernel_rfl) (by kernel_rfl) (fun _ _ _ h => h) (Or.inl ⟨by kernel_rfl, by intro w hSw; simp [go_sem, hSw]⟩) hHeld ?_
        simp only [Act.put, List.getElem_toArray, List.getElem_cons_zero, List.getElem_cons_succ, List.setIfInBounds_toArray, List.set_cons_zero, List.set_cons_succ]
        refine wpAnyH_take (i := 5) (v := .pointer (some ⟨F.g, 0, none⟩)) rfl (by kernel_rfl) (by kernel_rfl) (by kernel_rfl) (fun _ _ _ h => h) (Or.inl ⟨by kernel_rfl, by intro w hSw; simp [go_sem, hSw]⟩) hHeld ?_
        simp only [Act.put, List.getElem_toArray, List.getElem_cons_zero, List.getElem_cons_succ, List.setIfInBounds_toArray, List.set_cons_zero, List.set_cons_succ]
        refine wpAnyH_take (i := 6) (v := .pointer (some ⟨F.g, 0, none⟩)) rfl (by kernel_rfl) (by kernel_rfl) (by kernel_rfl) (fun _ _ _ h => h) (Or.inl ⟨by kernel_rfl, by intro w hSw; simp [go_sem, hSw]⟩) hHeld ?_
        simp only [Act.put, List.getElem_toArray, List.getElem_cons_zero, List.getElem_cons_succ, List.setIfInBounds_toArray, List.set_cons_zero, List.set_cons_succ]
        refine wpAnyH_take (i := 7) (v := .pointer (some ⟨F.g, 6, none⟩)) rfl (by kernel_rfl) (by kernel_rfl) (by kernel_rfl) (fun _ _ _ h => h) (Or.inl ⟨by kernel_rfl, by intro w hSw; simp [go_sem, hSw]⟩) hHeld ?_
        simp only [Act.put, List.getElem_toArray, List.getElem_cons_zero, List.getElem_cons_succ, List.setIfInBounds_toArray, List.set_cons_zero, List.set_cons_succ]
        refine wpAnyH_take (i := 8) (v := .map (some F.u)) rfl (by kernel_rfl) (by kernel_rfl) (by kernel_rfl) (fun _ _ _ h => h) (Or.inl ⟨by kernel_rfl, by intro w hSw; simp [go_sem, hSw]⟩) hHeld ?_
        simp only [Act.put, List.getElem_toArray, List.getElem_cons_zero, List.getElem_cons_succ, List.setIfInBounds_toArray, List.set_cons_zero, List.set_cons_succ]
        refine wpAnyH_take (i := 9) (v := .int .i64 p.id.1) rfl (by kernel_rfl) (by kernel_rfl) (by kernel_rfl) (fun _ _ _ h => h) (Or.inl ⟨by kernel_rfl, by intro w hSw; simp [go_sem, hSw]⟩) hHeld ?_
        simp only [Act.put, List.getElem_toArray, List.getElem_cons_zero, List.getElem_cons_succ, List.setIfInBounds_toArray, List.set_cons_zero, List.set_cons_succ]
        refine wpAnyH_take (i := 11) (v := .pointer (some ⟨bm, 13, none⟩)) rfl (by kernel_rfl) (by kernel_rfl) (by kernel_rfl) (fun _ _ _ h => h) (Or.inl ⟨by kernel_rfl, by intro w hSw; simp [go_sem, hSw]⟩) hHeld ?_
        simp only [Act.put, List.getElem_toArray, List.getElem_cons_zero, List.getElem_cons_succ, List.setIfInBounds_toArray, List.set_cons_zero, List.set_cons_succ]
        refine wpAnyH_take (i := 12) (v := .int .i64 x.d.n) rfl (by kernel_rfl) (by kernel_rfl) (by kernel_rfl) (fun _ _ _ h => h) (Or.inl ⟨by kernel_rfl, by intro w hSw; simp [go_sem, hSw]⟩) hHeld ?_
        simp only [Act.put, List.getElem_toArray, List.getElem_cons_zero, List.getElem_cons_succ, List.setIfInBounds_toArray, List.set_cons_zero, List.set_cons_succ]
        have L10 := HL13.out _ (Keep.refl _ wu).drew
        refine wpAnyH_ready (rs := [10]) (by kernel_rfl) (by simp) ?_
        clear hHeld
        refine AllReadyH.cons rfl (fun K hK => ?_) AllReadyH.nil
        go_simp
        refine hK.out _ _ (HK13.out _ (Keep.refl _ wu).drew) (fun hHeld => ?_)
        clear hK K
        try simp only [Act.put, List.getElem_toArray, List.getElem_cons_zero, List.getElem_cons_succ, List.setIfInBounds_toArray, List.set_cons_zero, List.set_cons_succ]
        refine wpAnyH_ready (rs := [13]) (by kernel_rfl) (by simp) ?_
        clear hHeld
        refine AllReadyH.cons rfl (fun K hK => ?_) AllReadyH.nil
        go_simp
        refine hK.out _ _ (HK13.out _ (Keep.refl _ wu).drew) (fun hHeld => ?_)
        clear hK K
        try simp only [Act.put, List.getElem_toArray, List.getElem_cons_zero, List.getElem_cons_succ, List.setIfInBounds_toArray, List.set_cons_zero, List.set_cons_succ]
        refine wpAnyH_ready (rs := [14]) (by kernel_rfl) (by simp) ?_
        clear hHeld
        refine AllReadyH.cons rfl (fun K hK => ?_) AllReadyH.nil
        rw [if_pos (by rfl)]
        refine wp_mapUpd _ _ _ _ rfl rfl rfl rfl hrun2 ?_
        refine hK.out _ _ (HK14.out) (fun hHeld => ?_)
        clear hK K
        try simp only [Act.put, List.getElem_toArray, List.getElem_cons_zero, List.getElem_cons_succ, List.setIfInBounds_toArray, List.set_cons_zero, List.set_cons_succ]
        refine wpAnyH_done (by kernel_rfl) ?_ _
        clear hHeld
        go_wp2_with fail
        go_ret
        exact ⟨rfl, HEnd.out⟩
      
end Go.Proofs.YtohnmaindbgngaaGreatDoor
