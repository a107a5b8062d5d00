/-
  MERGED: SrvC
-/
import Derived.Test.YtohnmaindbgngaaGreatDoorQN
namespace Go.Proofs.YtohnmaindbgngaaGreatDoor
set_option linter.unusedVariables false
set_option linter.unusedSimpArgs false
open Go.RowKit Go.BigFrame

theorem replyS_ok {s : SrvD} {m : MarkD} {p : PartD} {n : Int} (h1 : p.waits = true) (h2 : p.pending = m.cmd) (h3 : s.place m.cmd = some n) (h4 : s.resAt n = m.res) (h5 : ¬ (s.grown : Int) < n) : replyS s m p = (0, s.setPart m.who { p with waits := false }) := by
  unfold replyS
  rw [if_neg (by rw [h1, h2]; simp), h3]
  simp only
  rw [if_neg (by rw [h4]; simp), if_neg h5]
theorem replyS_29 {s : SrvD} {m : MarkD} {p : PartD} {n : Int} (h1 : p.waits = true) (h2 : p.pending = m.cmd) (h3 : s.place m.cmd = some n) (h4 : s.resAt n = m.res) (h5 : (s.grown : Int) < n) : replyS s m p = (29, s) := by
  unfold replyS
  rw [if_neg (by rw [h1, h2]; simp), h3]
  simp only
  rw [if_neg (by rw [h4]; simp), if_pos h5]
theorem replyS_28 {s : SrvD} {m : MarkD} {p : PartD} (h : p.waits = false ∨ p.pending ≠ m.cmd ∨ s.place m.cmd = none ∨ ∃ n, s.place m.cmd = some n ∧ s.resAt n ≠ m.res) : replyS s m p = (28, s) := by
  unfold replyS
  by_cases h0 : p.waits = false ∨ p.pending ≠ m.cmd
  · rw [if_pos h0]
  · rw [if_neg h0]
    rcases h with h | h | h | ⟨n, h, h'⟩
    · exact absurd (.inl h) h0
    · exact absurd (.inr h) h0
    · rw [h]
    · rw [h]
      simp only
      rw [if_pos h']
set_option maxRecDepth 20000 in
set_option maxHeartbeats 4000000 in
theorem reply_any {W w : World} {T : Nat → STag} {F : SFix} {K k : Nat} {vs : List Int} {s : SrvD} (hS : SM W w T F K vs s) (hB : BdS s k) (hK : K ≤ 4000000) (hk : k ≤ 1048575) (hpl : ∀ c n, s.place c = some n → I64 n) (x : MkV) (hx : SIn W.heap.size w x) {b : Nat} {p : PartD} (hp : s.parts x.d.who = some p) (ha : PartAt w T F.p K s.parts x.d.who b) :
    Calls Tryz.prog 31 #[.pointer (some ⟨F.g, 0, none⟩), .pointer (some ⟨b, 0, none⟩), .agg x.cells.toArray] w fun e w' => e = .returned (.int .i64 (replyS s x.d p).1) ∧ StepS W w w' T F (K + 1) vs (replyS s x.d p) := by
  obtain ⟨R, hR⟩ : ∃ R, R = replyS s x.d p := ⟨_, rfl⟩
  rw [← hR]
  obtain ⟨r, s'⟩ := R
  simp only
  have hpb := (ha.blk hx.ints.who hp).2
  have H := Lib.hid (And.intro hS (And.intro hB (And.intro hx (And.intro hp (And.intro ha (And.intro hpb hR))))))
  obtain ⟨w1, hw1⟩ : ∃ w1, w1 = w.alloc (.cells x.cells.toArray 51) := ⟨_, rfl⟩
  obtain ⟨bm, hbm⟩ : ∃ b, b = w.heap.size := ⟨_, rfl⟩
  have hf1 : Fresh w w1 := hw1 ▸ (Keep.refl _ w).alloc _
  have hmb : MkB w1 bm x := by rw [hw1, hbm]; exact MkB.new w x
  obtain ⟨pn, hpn⟩ : ∃ o, o = s.place x.d.cmd := ⟨_, rfl⟩
  obtain ⟨dn, hdn⟩ : ∃ d, d = pn.isSome := ⟨_, rfl⟩
  obtain ⟨pz, hpz⟩ : ∃ z, z = pn.getD 0 := ⟨_, rfl⟩
  have hzi : I64 pz := by
    rw [hpz]
    cases h : pn with
    | none => exact ⟨by decide, by decide⟩
    | some n => exact hpl _ _ (hpn.symm.trans h)
  have LP : ∀ q, (Instr.lookup 92 (.map (some F.c)) (.agg #[.int .i64 x.d.cmd.c, .int .i64 x.d.cmd.i, .int .i64 x.d.cmd.r, .int .i64 x.d.cmd.o, tx x.d.cmd.k, tx x.d.cmd.v, tx x.d.cmd.d]) true).run Tryz.prog (w1.drewN q) = .ok (.tuple #[.int .i64 pz, .bool dn]) (w1.drewN q) := fun q => by
    have := hS.place.lookOk (M := mkCmd) Tryz.underlying92 (fun u => Tryz.zeroValue3 u) hx.cmd (w1.drewN q) (hf1.drewN q)
    rw [← hpn, plc_val, ← hpz, ← hdn] at this
    exact this
  obtain ⟨⟨ec, er⟩, hee⟩ : ∃ e, e = entOr (s.entries pz) := ⟨_, rfl⟩
  have her : er = s.resAt pz := by rw [← ent_res, ← hee]
  have LE : ∀ w', Fresh w w' → (Instr.lookup 90 (.map (some F.e)) (.int .i64 pz) false).run Tryz.prog w' = .ok (.agg #[.int .i64 ec.c, .int .i64 ec.i, .int .i64 ec.r, .int .i64 ec.o, tx ec.k, tx ec.v, tx ec.d, .int .i64 er.code, tx er.val, .int .i64 er.n]) w' := fun w' hf => by
    have := hS.entries.lookF (M := mkInt) Tryz.underlying90 ent_zero hzi w' hf
    rw [ent_val, ← hee] at this
    exact this
  have hsb := hS.blk.keep hf1 trivial
  have g5 : w1.cell? ⟨F.g, 5, none⟩ = some (.map (some F.c)) := hsb.cell 5
  have tg := hsb.lt
  have k15 := hmb.cc; have k16 := hmb.ci; have k17 := hmb.cr; have k18 := hmb.co; have k19 := hmb.ck; have k20 := hmb.cv; have k21 := hmb.cd; have tm := hmb.blk.lt
  have H1 := Lib.hid (And.intro hf1 (And.intro hmb (And.intro (show w.heap.size ≤ bm by omega) (And.intro her (And.intro hpn (And.intro hdn hpz))))))
  have HLE := Lib.hid LE
  clear hS hB hx hp ha hpb hR hpl hf1 hmb hzi her hee hsb hpn hdn hpz LE
  go_enter Tryz.func31, Tryz.ntmps31
  go_upto_region 1 with (fail)
  rw [← hbm, ← hw1]
  clear hbm hw1
  go_quiet (fail)
  go_upto_region 2 with (fail)
  generalize hw2 : World.drewN w1 _ = w2
  have hf2 : Fresh w1 w2 := hw2 ▸ (Keep.refl _ w1).drewN _
  have H2 := Lib.hid hf2
  clear hw2 hf2 LP g5 tg k15 k16 k17 k18 k19 k20 k21 tm
  obtain ⟨bq, hbq⟩ : ∃ bq : Bool, bq = (!p.waits || decide (p.pending ≠ x.d.cmd) || !dn || decide (s.resAt pz ≠ x.d.res)) := ⟨_, rfl⟩
  have HBQ := Lib.hid hbq
  clear hbq
  go_cut [48] (fun sv wz => sv = .bool bq ∧ Hid (Fresh w2 wz))
  case first =>
    as_aux_lemma =>
      have hpb2 := H.out.2.2.2.2.2.1.keep (H1.out.1.trans H2.out) trivial
      have mb2 : MkB w2 bm x := ⟨H1.out.2.1.blk.keep H2.out trivial⟩
      have hsb := H.out.1.blk.keep (H1.out.1.trans H2.out) trivial
      have g2 : w2.cell? ⟨F.g, 2, none⟩ = some (.map (some F.e)) := hsb.cell 2
      have tg := hsb.lt
      obtain ⟨-, -, ⟨-, -, g11⟩, lb⟩ := part_cells hpb2
      have g12 := hpb2.cell 12; have g13 := hpb2.cell 13; have g14 := hpb2.cell 14; have g15 := hpb2.cell 15; have g16 := hpb2.cell 16; have g17 := hpb2.cell 17; have g18 := hpb2.cell 18
      simp [partV] at g12 g13 g14 g15 g16 g17 g18
      have k15 := mb2.cc; have k16 := mb2.ci; have k17 := mb2.cr; have k18 := mb2.co; have k19 := mb2.ck; have k20 := mb2.cv; have k21 := mb2.cd; have tm := mb2.blk.lt
      have k22 := mb2.rc; have k23 := mb2.rv; have k24 := mb2.rn
      have LE : ∀ q, (Instr.lookup 90 (.map (some F.e)) (.int .i64 pz) false).run Tryz.prog (w2.drewN q) = .ok (.agg #[.int .i64 ec.c, .int .i64 ec.i, .int .i64 ec.r, .int .i64 ec.o, tx ec.k, tx ec.v, tx ec.d, .int .i64 er.code, tx er.val, .int .i64 er.n]) (w2.drewN q) := fun q => HLE.out _ ((H1.out.1.trans H2.out).drewN q)
      have NC := fun u => necmd p.pending x.d.cmd u
      obtain ⟨re, hre⟩ : ∃ re, re = decide (er ≠ x.d.res) := ⟨_, rfl⟩
      have NR : ∀ u, Sem.run Tryz.prog (binOp BinOp.neq 49 (.agg #[.int .i64 er.code, tx er.val, .int .i64 er.n]) (.agg #[.int .i64 x.d.rc, tx x.d.rv, .int .i64 x.d.rn])) u = .ok (.bool re) u := fun u => by
        have := neres er x.d.res u
        rw [← hre] at this
        exact this
      have NF : ∀ u, (Instr.field 130 (.agg #[.int .i64 ec.c, .int .i64 ec.i, .int .i64 ec.r, .int .i64 ec.o, tx ec.k, tx ec.v, tx ec.d, .int .i64 er.code, tx er.val, .int .i64 er.n]) 1).run Tryz.prog u = .ok (.agg #[.int .i64 er.code, tx er.val, .int .i64 er.n]) u := fun u => by rfl
      obtain ⟨wt, hwt⟩ : ∃ wt, wt = p.waits := ⟨_, rfl⟩
      obtain ⟨pe, hpe⟩ : ∃ pe, pe = decide (p.pending ≠ x.d.cmd) := ⟨_, rfl⟩
      have HB2 : Hid (bq = (!wt || pe || !dn || re)) := Lib.hid (by rw [HBQ.out, hwt, hpe, hre, H1.out.2.2.2.1])
      rw [← hwt] at g11
      rw [← hpe] at NC
      clear hpb2 mb2 hsb hwt hpe hre HBQ
      cases wt
      · obtain rfl : bq = true := by rw [HB2.out]; rfl
        go_quiet (fail)
        go_wp2_with fail
        go_meet
        exact ⟨rfl, Lib.hid ((Keep.refl _ w2).drewN _)⟩
      cases pe
      rotate_left
      · obtain rfl : bq = true := by rw [HB2.out]; rfl
        go_quiet (fail)
        go_wp2_with fail
        go_meet
        exact ⟨rfl, Lib.hid ((Keep.refl _ w2).drewN _)⟩
      cases dn
      · obtain rfl : bq = true := by rw [HB2.out]; rfl
        go_quiet (fail)
        go_wp2_with fail
        go_meet
        exact ⟨rfl, Lib.hid ((Keep.refl _ w2).drewN _)⟩
      cases re
      · obtain rfl : bq = false := by rw [HB2.out]; rfl
        go_quiet (fail)
        go_wp2_with fail
        go_meet
        exact ⟨rfl, Lib.hid ((Keep.refl _ w2).drewN _)⟩
      · obtain rfl : bq = true := by rw [HB2.out]; rfl
        go_quiet (fail)
        go_wp2_with fail
        go_meet
        exact ⟨rfl, Lib.hid ((Keep.refl _ w2).drewN _)⟩
  case rest =>
  rename World => w3
  obtain ⟨rfl, HC3⟩ := hcut
  have H3 := Lib.hid ((H1.out.1.trans H2.out).trans HC3.out)
  clear HC3 H2
  cases bq
  rotate_left
  · have e : replyS s x.d p = (28, s) := by
      refine replyS_28 ?_
      have h := HBQ.out.symm
      simp only [Bool.or_eq_true, Bool.not_eq_true', decide_eq_true_eq] at h
      obtain ⟨-, -, -, -, hpn, hdn, hpz⟩ := H1.out
      rcases h with ((h | h) | h) | h
      · exact .inl h
      · exact .inr (.inl h)
      · rw [hdn] at h
        have : pn = none := by cases pn with
          | none => rfl
          | some _ => cases h
        exact .inr (.inr (.inl (by rw [← hpn, this])))
      · cases hq : pn with
        | none => exact .inr (.inr (.inl (by rw [← hpn, hq])))
        | some n =>
          refine .inr (.inr (.inr ⟨n, by rw [← hpn, hq], ?_⟩))
          rw [hq] at hpz
          have : pz = n := hpz
          rw [← this]
          exact h
    obtain ⟨rfl, rfl⟩ : r = 28 ∧ s' = s := by
      have := H.out.2.2.2.2.2.2
      rw [e] at this
      exact Prod.mk.inj this
    go_wp2_with fail
    go_ret
    exact ⟨rfl, StepS.bad H3.out (by simp)⟩
  · have hq : p.waits = true ∧ p.pending = x.d.cmd ∧ s.place x.d.cmd = some pz ∧ s.resAt pz = x.d.res := by
      have h := HBQ.out.symm
      simp only [Bool.or_eq_false_iff, Bool.not_eq_false', decide_eq_false_iff_not, Decidable.not_not] at h
      obtain ⟨-, -, -, -, hpn, hdn, hpz⟩ := H1.out
      refine ⟨h.1.1.1, h.1.1.2, ?_, h.2⟩
      rw [← hpn, hpz]
      have h2 := h.1.2
      rw [hdn] at h2
      cases pn with
      | none => cases h2
      | some n => rfl
    have HQ := Lib.hid hq
    have hsb := H.out.1.blk.keep H3.out trivial
    have g7 : w3.cell? ⟨F.g, 7, none⟩ = some (.int .i64 (s.grown : Int)) := hsb.cell 7
    have tg := hsb.lt
    have hpb3 := H.out.2.2.2.2.2.1.keep H3.out trivial
    obtain ⟨-, -, ⟨-, -, g11⟩, lb⟩ := part_cells hpb3
    have f11 := hpb3.frozen 11
    have HP3 := Lib.hid hpb3
    obtain ⟨gn, hgn⟩ : ∃ z, z = s.grown := ⟨_, rfl⟩
    rw [← hgn] at g7
    have HGN := Lib.hid hgn
    clear hq hsb hpb3 hgn
    by_cases h29 : (gn : Int) < pz
    · obtain ⟨rfl, rfl⟩ : r = 29 ∧ s' = s := by
        have := H.out.2.2.2.2.2.2
        rw [replyS_29 HQ.out.1 HQ.out.2.1 HQ.out.2.2.1 HQ.out.2.2.2 (by rw [← HGN.out]; exact h29)] at this
        exact Prod.mk.inj this
      go_wp2_with fail
      go_ret
      exact ⟨rfl, StepS.bad H3.out (by simp)⟩
    · have hr0 : r = 0 ∧ s' = s.setPart x.d.who { p with waits := false } := by
        have := H.out.2.2.2.2.2.2
        rw [replyS_ok HQ.out.1 HQ.out.2.1 HQ.out.2.2.1 HQ.out.2.2.2 (by rw [← HGN.out]; exact h29)] at this
        exact Prod.mk.inj this
      obtain ⟨rfl, hs'⟩ := hr0
      have HS' := Lib.hid hs'
      clear hs'
      go_wp2_with fail
      go_ret
      have hk : Keep (fun j => j ≠ b) w (w3.setCell ⟨b, 11, none⟩ (.bool false)) := keep_in (H3.out.weaken fun _ _ _ => trivial) _ _
      have hput := H.out.1.put H.out.2.2.2.2.1 H.out.2.2.1.ints.who H.out.2.2.2.1 hk (part_wait HP3.out false)
      refine ⟨rfl, hk.weaken fun j _ hj => SB.ne H.out.1 (H.out.2.2.2.2.1.blk H.out.2.2.1.ints.who H.out.2.2.2.1).1 (by simp) (by simp) hj, fun _ => ⟨T, SMore.refl T, ?_⟩⟩
      rw [HS'.out]
      exact hput.1.mono (Nat.le_succ K)
end Go.Proofs.YtohnmaindbgngaaGreatDoor
