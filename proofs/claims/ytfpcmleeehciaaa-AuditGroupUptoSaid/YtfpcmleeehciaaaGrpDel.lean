/-
  WALK OF deliver: RULES 7 AND 8.
-/
import Derived.Test.YtfpcmleeehciaaaGrpDelX
namespace Go.Proofs.Ytfpcmleeehciaaa
set_option linter.unusedVariables false
set_option linter.unusedSimpArgs false
open Go.RowKit Go.Shelf

set_option maxRecDepth 20000 in
set_option maxHeartbeats 8000000 in
theorem deliver_any {w : World} {B : Nat} {T : Nat → Tag} {F : Fix} {K k : Nat} {s : GrpD} (hG : GM w B T F K s) (hB : BdG s k) (hK : K ≤ 4000000) (hk : k ≤ 1048575) (x : MkV) (hx : MkIn w B x) {v : LifeD} (hv : s.lives x.d.who = some v) (b : Nat)
    (hp : (Instr.lookup 68 (.map (some F.v)) (whoA x.d.who) false).run Try.prog w = .ok (.pointer (some ⟨b, 0, none⟩)) w) :
    Calls Try.prog 25 #[.pointer (some ⟨F.g, 0, none⟩), whoA x.d.who, .pointer (some ⟨b, 0, none⟩), .agg x.cells.toArray] w fun e w' =>
      e = .returned (.int .i64 (delR s x.d)) ∧ StepP T w w' B F K (delR s x.d) (delN s x.d) := by
  obtain ⟨b', f, A, c, hm, LK, hset⟩ := hG.lives.open hx.ints.who hv
  obtain rfl : b' = b := by
    have h1 := LK w (Keep.refl _ w)
    rw [hp] at h1
    injection h1 with h1
    injection h1 with h1
    injection h1 with h1
    injection h1 with h1
    exact h1.symm
  have hlife := life_of hv
  obtain ⟨lo, hlo⟩ : ∃ l, l = s.order x.d.id := ⟨_, rfl⟩
  obtain ⟨Ao, co, hrow, LO, hEnt⟩ := hG.ord (by omega) hx.ints.id hlo
  obtain ⟨r, hr0⟩ : ∃ r, r = delR s x.d := ⟨_, rfl⟩
  rw [← hr0]
  obtain ⟨cn, hcn⟩ : ∃ n, n = s.count (x.d.id, x.d.who) := ⟨_, rfl⟩
  obtain ⟨mi, hmi⟩ : ∃ n, n = memI v.mem x.d.sender := ⟨_, rfl⟩
  have hR : r = (if v.id = nov ∨ x.d.id ≠ v.id ∨ ¬ mi < v.mem.length ∨ x.d.pos ≤ v.lastPos ∨ x.d.seq ≠ (v.frm x.d.sender : Int) + 1 then 7 else if s.sent (x.d.id, (x.d.sender, (v.mem.getD mi ⟨0, 0, 0⟩).i), x.d.seq) ≠ some x.d.body then 7 else if cn < lo.length ∧ lo[cn]? ≠ some x.d.told then 8 else 0) := by
    rw [hr0, hcn, hlo, hmi]
    unfold delR
    rw [hlife]
  have hN : delN s x.d = { s with order := (if cn = lo.length then upd s.order x.d.id (lo ++ [x.d.told]) else s.order), count := upd s.count (x.d.id, x.d.who) (cn + 1), lives := upd s.lives x.d.who (some { v with frm := upd v.frm x.d.sender (v.frm x.d.sender + 1), lastPos := x.d.pos, own := (if x.d.sender = x.d.who.1 then v.own + 1 else v.own) }) } := by
    unfold delN; rw [hlife, hcn, hlo]
  have hbnd := hB.life _ _ hv
  have hbc : cn ≤ k := hcn ▸ hB.count _
  have hbl : lo.length ≤ k := hlo ▸ hB.order _
  have hbf := hbnd.2.2 x.d.sender
  have H := Lib.hid (And.intro hG (And.intro hx (And.intro hm (And.intro hset (And.intro hR (And.intro hN (And.intro hcn hlo)))))))
  have HV := Lib.hid (And.intro hrow (And.intro LO hEnt))
  have HMI := Lib.hid hmi
  clear hG hx hm hset hR hN hr0 hlife LK hp hv hcn hrow LO hEnt hB hmi hlo
  unfold whoA
  have e47 : Enters Try.prog 47 := enters_of Try.func47 (by kernel_rfl) rfl
  obtain ⟨Am, cm, hvm, hmnc, hmnil, hrm⟩ := H.out.2.2.1.mem
  injection hvm with hm1 hm2 hm3
  subst hm1 hm3
  have hfW : Fresh w ((w.alloc (.cells #[.int .i64 x.d.who.1, .int .i64 x.d.who.2] 78)).alloc (.cells x.cells.toArray 50)) := ((Keep.refl _ w).alloc _).alloc _
  obtain ⟨w1, hw1⟩ : ∃ w1, w1 = (w.alloc (.cells #[.int .i64 x.d.who.1, .int .i64 x.d.who.2] 78)).alloc (.cells x.cells.toArray 50) := ⟨_, rfl⟩
  obtain ⟨bm, hbm⟩ : ∃ b, b = w.heap.size + 1 := ⟨_, rfl⟩
  obtain ⟨bu, hbu⟩ : ∃ b, b = w.heap.size := ⟨_, rfl⟩
  have hf1 : Fresh w w1 := hw1 ▸ ((Keep.refl _ w).alloc _).alloc _
  have hwb : Blk w1 bu 78 #[.int .i64 x.d.who.1, .int .i64 x.d.who.2] := by rw [hw1, hbu]; exact (Blk.new w _ _).alloc _
  have hmb : MkB w1 bm x := by
    have := MkB.new (w.alloc (.cells #[.int .i64 x.d.who.1, .int .i64 x.d.who.2] 78)) x
    rw [hw1, hbm]
    simpa using this
  have HI := idx_mem e47 (cap := #[.pointer (some ⟨bm, 0, none⟩)]) (fun y => decide (y.p = x.d.sender)) _ A v.mem.length c v.mem w1 (hrm.keep (hf1.weaken fun _ _ _ => trivial)) rfl H.out.2.2.1.le (sender_pred x.d.sender bm v.mem w1 hmb.sender)
  obtain ⟨ix, hix⟩ : ∃ z, z = idxZ (fun y : MemD => decide (y.p = x.d.sender)) v.mem := ⟨_, rfl⟩
  rw [← hix] at HI
  have hixv : ix = if mi < v.mem.length then (mi : Int) else -1 := by rw [hix, HMI.out]; rfl
  have l6 : w1.cell? ⟨b', 6, none⟩ = some (.slice A v.mem.length c) := (H.out.2.2.1.blk.keep hf1 trivial).cell 6
  have hE0 := Lib.hid (And.intro hw1 (And.intro hbm hbu))
  have HI2 := Lib.hid HI
  have HZ := Lib.hid (And.intro (show w.heap.size ≤ bu by omega) (And.intro (show w.heap.size ≤ bm by omega) (show bu ≠ bm by omega)))
  have H1 := Lib.hid (Box2.mk hf1 hwb hmb)
  have HIX := Lib.hid hixv
  have HL6 := Lib.hid l6
  clear hw1 hbm hbu hf1 hwb hmb HI hix hixv l6 hfW hrm hmnc hmnil hm2 e47
  go_enter Try.func25, Try.ntmps25
  go_upto_region 1 with (fail)
  have hE1 := hE0.out
  rw [← hE1.1, ← hE1.2.1, ← hE1.2.2]
  have l6 := HL6.out
  have lb := lt_of_cell l6
  have lm := H1.out.mb.blk.lt
  clear hE0 hE1 HL6
  go_wp2_with fail
  refine Calls.mono HI2.out ?_
  rintro e w2 ⟨rfl, hf2⟩
  have H2 := Lib.hid (H1.out.next hf2)
  clear hf2 HI2 H1 l6 lb lm
  go_wp2_with fail
  -- rule 7, the first half
  have hlb := H.out.2.2.1.blk.keep H2.out.fresh trivial
  have l2 : w2.cell? ⟨b', 2, none⟩ = some (.int .i64 v.id.1) := hlb.cell 2
  have l3 : w2.cell? ⟨b', 3, none⟩ = some (.int .i64 v.id.2.1) := hlb.cell 3
  have l4 : w2.cell? ⟨b', 4, none⟩ = some (.int .i64 v.id.2.2.1) := hlb.cell 4
  have l5 : w2.cell? ⟨b', 5, none⟩ = some (.int .i64 v.id.2.2.2) := hlb.cell 5
  have l10 : w2.cell? ⟨b', 10, none⟩ = some (.int .i64 v.lastPos) := hlb.cell 10
  have l11 : w2.cell? ⟨b', 11, none⟩ = some (.map (some f)) := hlb.cell 11
  have c4 := H2.out.mb.e1; have c5 := H2.out.mb.e2; have c6 := H2.out.mb.e3; have c7 := H2.out.mb.e4
  have c10 := H2.out.mb.sender; have c11 := H2.out.mb.seq; have c12 := H2.out.mb.pos
  have lb := hlb.lt; have lm := H2.out.mb.blk.lt
  have LF : ∀ q, (Instr.lookup 67 (.map (some f)) (.int .i64 x.d.sender) false).run Try.prog (w2.drewN q) = .ok (.int .i64 (v.frm x.d.sender : Int)) (w2.drewN q) := fun q => H.out.2.2.1.frm.lookF H.out.2.1.ints.sender _ (H2.out.fresh.drewN q)
  have Q1 := fun w => eqview v.id nov w
  obtain ⟨d1, hd1⟩ : ∃ d, d = decide (v.id = nov) := ⟨_, rfl⟩
  rw [← hd1] at Q1
  simp only [nov] at Q1
  have Q2 := fun w => neview x.d.id v.id w
  obtain ⟨d2, hd2⟩ : ∃ d, d = decide (x.d.id ≠ v.id) := ⟨_, rfl⟩
  rw [← hd2] at Q2
  simp only [MarkD.id] at Q2
  have HD := Lib.hid (And.intro hd1 hd2)
  obtain ⟨fr, hfr⟩ : ∃ n, n = v.frm x.d.sender := ⟨_, rfl⟩
  rw [← hfr] at LF hbf
  have HFr := Lib.hid hfr
  have wfr : IntKind.i64.wrap ((fr : Int) + 1) = (fr : Int) + 1 := by rw [IntWalk.i64_in _ (by omega)]
  obtain ⟨d7, hd7⟩ : ∃ d : Bool, d = decide (v.id = nov ∨ x.d.id ≠ v.id ∨ ¬ mi < v.mem.length ∨ x.d.pos ≤ v.lastPos ∨ x.d.seq ≠ (fr : Int) + 1) := ⟨_, rfl⟩
  have HD7 : Hid ((d7 = true) ↔ (v.id = nov ∨ x.d.id ≠ v.id ∨ ¬ mi < v.mem.length ∨ x.d.pos ≤ v.lastPos ∨ x.d.seq ≠ (fr : Int) + 1)) := Lib.hid (by rw [hd7]; simp only [decide_eq_true_iff])
  clear hlb hd1 hd2 hfr hd7
  go_cut [64] (fun s64 wx => s64 = .bool d7 ∧ Hid (Fresh w2 wx))
  case first =>
    as_aux_lemma =>
      cases d1
      rotate_left
      · have E7 : d7 = true := HD7.out.2 (.inl (of_decide_eq_true HD.out.1.symm))
        have HE7 := Lib.hid E7
        clear E7
        go_quiet (fail)
        go_wp2_with fail
        go_meet
        exact ⟨congrArg Value.bool HE7.out.symm, Lib.hid ((Keep.refl _ w2).drewN _)⟩
      · cases d2
        rotate_left
        · have E7 : d7 = true := HD7.out.2 (.inr (.inl (of_decide_eq_true HD.out.2.symm)))
          have HE7 := Lib.hid E7
          clear E7
          go_quiet (fail)
          go_wp2_with fail
          go_meet
          exact ⟨congrArg Value.bool HE7.out.symm, Lib.hid ((Keep.refl _ w2).drewN _)⟩
        · by_cases h1 : mi < v.mem.length
          rotate_left
          · obtain rfl : ix = -1 := by rw [HIX.out, if_neg h1]
            have E7 : d7 = true := HD7.out.2 (.inr (.inr (.inl h1)))
            have HE7 := Lib.hid E7
            clear E7
            go_quiet (fail)
            go_wp2_with fail
            go_meet
            exact ⟨congrArg Value.bool HE7.out.symm, Lib.hid ((Keep.refl _ w2).drewN _)⟩
          · obtain rfl : ix = (mi : Int) := by rw [HIX.out, if_pos h1]
            by_cases h2 : x.d.pos ≤ v.lastPos
            · have E7 : d7 = true := HD7.out.2 (.inr (.inr (.inr (.inl h2))))
              have hm0 : decide ((mi : Int) < 0) = false := by simp
              have hm1 : ¬ ((mi : Int) < 0) := by omega
              have HE7 := Lib.hid E7
              clear E7
              obtain ⟨zp, hzp⟩ : ∃ z, z = x.d.pos := ⟨_, rfl⟩
              obtain ⟨zl, hzl⟩ : ∃ z, z = v.lastPos := ⟨_, rfl⟩
              rw [← hzp] at c12 h2
              rw [← hzl] at l10 h2
              clear LF wfr c11 l11 hbf HFr h1 hzp hzl
              go_quiet (fail)
              go_wp2_with fail
              go_meet
              exact ⟨congrArg Value.bool HE7.out.symm, Lib.hid ((Keep.refl _ w2).drewN _)⟩
            · have h2d : decide (x.d.pos ≤ v.lastPos) = false := decide_eq_false h2
              by_cases h3 : x.d.seq = (fr : Int) + 1
              rotate_left
              · have hb : (x.d.seq != (fr : Int) + 1) = true := by simpa using h3
                have hb2 : (x.d.seq == (fr : Int) + 1) = false := by simpa using h3
                have E7 : d7 = true := HD7.out.2 (.inr (.inr (.inr (.inr h3))))
                have HE7 := Lib.hid E7
                clear E7
                go_quiet (fail)
                go_wp2_with fail
                go_meet
                exact ⟨congrArg Value.bool HE7.out.symm, Lib.hid ((Keep.refl _ w2).drewN _)⟩
              · have hb : (x.d.seq != (fr : Int) + 1) = false := by simpa using h3
                have hb2 : (x.d.seq == (fr : Int) + 1) = true := by simpa using h3
                have E7 : d7 = false := by
                  cases hd : d7
                  · rfl
                  · exfalso
                    rcases HD7.out.1 hd with h | h | h | h | h
                    · have := HD.out.1; rw [decide_eq_true h] at this; cases this
                    · have := HD.out.2; rw [decide_eq_true h] at this; cases this
                    · exact h h1
                    · exact h2 h
                    · exact h h3
                have HE7 := Lib.hid E7
                clear E7 h3
                go_quiet (fail)
                go_wp2_with fail
                go_meet
                exact ⟨congrArg Value.bool HE7.out.symm, Lib.hid ((Keep.refl _ w2).drewN _)⟩
  case rest =>
  rename World => w3
  obtain ⟨rfl, HC3⟩ := hcut
  have H3 := Lib.hid (H2.out.next HC3.out)
  clear HC3 l2 l3 l4 l5 l10 l11 c4 c5 c6 c7 c10 c11 c12 lb lm LF Q1 Q2 HD wfr H2
  cases d7
  rotate_left
  · obtain rfl : r = 7 := by rw [H.out.2.2.2.2.1, ← HFr.out, if_pos (HD7.out.1 rfl)]
    go_wp2_with fail
    go_ret
    exact ⟨rfl, StepP.bad H3.out.fresh (by decide)⟩
  · have hno : ¬ (v.id = nov ∨ x.d.id ≠ v.id ∨ ¬ mi < v.mem.length ∨ x.d.pos ≤ v.lastPos ∨ x.d.seq ≠ (fr : Int) + 1) := fun h => by have := HD7.out.2 h; cases this
    have hmil : mi < v.mem.length := Classical.not_not.1 fun h => hno (.inr (.inr (.inl h)))
    obtain rfl : ix = (mi : Int) := by rw [HIX.out, if_pos hmil]
    have hR1 := H.out.2.2.2.2.1
    rw [← HFr.out, if_neg hno] at hR1
    have HRa := Lib.hid hR1
    clear hR1 hno HD7 HIX
    -- rule 7, the message
    obtain ⟨Am, cm, hvm, hmnc, hmnil, hrm⟩ := H.out.2.2.1.mem
    injection hvm with hm1 hm2 hm3
    subst hm1 hm3
    obtain ⟨b1, o1, rfl, hz1, hrg⟩ := Rd.range mem_three (hrm.keep (H3.out.fresh.weaken fun _ _ _ => trivial)) hmil hmil
    have hgd : v.mem.getD mi ⟨0, 0, 0⟩ = v.mem[mi] := by rw [List.getD_eq_getElem?_getD, List.getElem?_eq_getElem hmil]; rfl
    rw [hgd] at HRa
    obtain ⟨si, hsi⟩ : ∃ z, z = v.mem[mi].i := ⟨_, rfl⟩
    have cm1 : w3.cell? ⟨b1, o1 + mi * 3 + 1, none⟩ = some (.int .i64 v.mem[mi].i) := hrg 1 _ rfl
    have hII := (H.out.2.2.1.ints _ (List.getElem_mem hmil)).2
    rw [← hsi] at HRa cm1 hII
    have hLS := H.out.1.sent.lookF (x := (x.d.id, (x.d.sender, si), x.d.seq)) H.out.2.1.ints.id ⟨H.out.2.1.ints.sender, hII⟩ H.out.2.1.ints.seq
    obtain ⟨ob, hob⟩ : ∃ o, o = s.sent (x.d.id, (x.d.sender, si), x.d.seq) := ⟨_, rfl⟩
    rw [← hob] at hLS HRa
    have l6 : w3.cell? ⟨b', 6, none⟩ = some (.slice (some ⟨b1, o1, none⟩) v.mem.length c) := (H.out.2.2.1.blk.keep H3.out.fresh trivial).cell 6
    have g7 : w3.cell? ⟨F.g, 7, none⟩ = some (.map (some F.s)) := (H.out.1.fresh H3.out.fresh).blk.cell 7
    have c4 := H3.out.mb.e1; have c5 := H3.out.mb.e2; have c6 := H3.out.mb.e3; have c7 := H3.out.mb.e4
    have c10 := H3.out.mb.sender; have c11 := H3.out.mb.seq
    have lb := lt_of_cell l6; have lm := H3.out.mb.blk.lt; have lg := lt_of_cell g7
    have hmz : (mi : Int) < (v.mem.length : Int) := by omega
    simp only [msgA, MarkD.id] at hLS
    clear hmnc hmnil hrm hm2 hz1 hrg hgd hsi hII hob
    cases ob with
    | none =>
      obtain rfl : r = 7 := by rw [HRa.out, if_pos (by simp)]
      have LS : ∀ q, (Instr.lookup 71 (.map (some F.s)) (.agg #[.int .i64 x.d.e1, .int .i64 x.d.e2, .int .i64 x.d.e3, .int .i64 x.d.e4, .int .i64 x.d.sender, .int .i64 si, .int .i64 x.d.seq]) true).run Try.prog (w3.drewN q) = .ok (.tuple #[.slice none 0 0, .bool false]) (w3.drewN q) := fun q => hLS.1 rfl _ (H3.out.fresh.drewN q)
      clear hLS hmil
      go_wp2_with fail
      go_quiet (fail)
      go_wp2_with fail
      go_ret
      exact ⟨rfl, StepP.bad (H3.out.fresh.drewN _) (by decide)⟩
    | some sb =>
      obtain ⟨As, cs, hsl, hsbl, hsbF⟩ := hLS.2 sb rfl
      have LS : ∀ q, (Instr.lookup 71 (.map (some F.s)) (.agg #[.int .i64 x.d.e1, .int .i64 x.d.e2, .int .i64 x.d.e3, .int .i64 x.d.e4, .int .i64 x.d.sender, .int .i64 si, .int .i64 x.d.seq]) true).run Try.prog (w3.drewN q) = .ok (.tuple #[.slice As sb.length cs, .bool true]) (w3.drewN q) := fun q => hsbF _ (H3.out.fresh.drewN q)
      have HSL := Lib.hid (And.intro hsl hsbl)
      clear hLS hsl hsbl hsbF
      go_wp2_with fail
      go_quiet (fail)
      rename_i q3
      clear LS l6 g7 c4 c5 c6 c7 c10 c11 cm1 lb lm lg
      generalize hw4 : World.drewN w3 _ = w4
      have hf4 : Fresh w3 w4 := hw4 ▸ (Keep.refl _ w3).drewN _
      have H4 := Lib.hid (H3.out.next hf4)
      clear hw4 hf4 H3
      obtain ⟨Ax, cx, hvb, hxnc, hxnil, hrx⟩ := H.out.2.1.ok.b
      have c14 : w4.cell? ⟨bm, 14, none⟩ = some (.slice Ax x.d.body.length cx) := H4.out.mb.vb.trans (congrArg some hvb)
      have lm := H4.out.mb.blk.lt
      obtain ⟨A8, c8, hvs, hsnc, hsnil, hrs⟩ := HSL.out.1
      injection hvs with hs1 hs2 hs3
      subst hs1 hs3
      have HE := Lib.hid (equal_byte _ _ As Ax sb.length cs x.d.body.length cx sb x.d.body w4 (hrs.keep (H4.out.fresh.weaken fun _ _ _ => trivial)) (hrx.keep (H4.out.fresh.weaken fun _ _ _ => trivial)) rfl rfl HSL.out.2 H.out.2.1.b)
      clear hvb hxnc hxnil hrx hsnc hsnil hrs hs2
      obtain ⟨d8, hd8⟩ : ∃ d, d = decide (sb = x.d.body) := ⟨_, rfl⟩
      rw [← hd8] at HE
      have HD8 := Lib.hid hd8
      clear hd8
      go_wp2_with fail
      refine Calls.mono HE.out ?_
      rintro e w5 ⟨rfl, hf5⟩
      have H5 := Lib.hid (H4.out.next hf5)
      clear hf5 HE H4 c14 lm
      cases d8
      · obtain rfl : r = 7 := by
          rw [HRa.out, if_pos]
          intro h
          have h := Option.some.inj h
          have h2 := HD8.out
          rw [decide_eq_true h] at h2
          cases h2
        go_wp2_with fail
        go_ret
        exact ⟨rfl, StepP.bad H5.out.fresh (by decide)⟩
      · have hbody : sb = x.d.body := of_decide_eq_true HD8.out.symm
        have hR2 := HRa.out
        rw [if_neg (by rw [hbody]; simp)] at hR2
        have HR2 := Lib.hid hR2
        clear hR2 HRa hbody HD8
        obtain ⟨Ax, cx, hvb, hxnc, hxnil, hrx⟩ := H.out.2.1.ok.b
        have c14 : w5.cell? ⟨bm, 14, none⟩ = some (.slice Ax x.d.body.length cx) := H5.out.mb.vb.trans (congrArg some hvb)
        have c10 := H5.out.mb.sender; have c11 := H5.out.mb.seq; have c12 := H5.out.mb.pos
        have lm := H5.out.mb.blk.lt
        have hcv : (convert 43 9 (.slice Ax x.d.body.length cx)).run Try.prog w5 = .ok (tx x.d.body) w5 := run_conv_str Try.underlying43 Try.underlying5 Try.underlying9 (hrx.keep (H5.out.fresh.weaken fun _ _ _ => trivial)) cx
        have c4 := H5.out.mb.e1; have c5 := H5.out.mb.e2; have c6 := H5.out.mb.e3; have c7 := H5.out.mb.e4
        have u0 := H5.out.wb.cell 0; have u1 := H5.out.wb.cell 1
        simp at u0 u1
        have lu := H5.out.wb.lt
        clear hvb hxnc hxnil hrx
        go_wp2_with fail
        obtain ⟨bt, hbt⟩ : ∃ b, b = w5.heap.size := ⟨_, rfl⟩
        obtain ⟨bp, hbp⟩ : ∃ b, b = w5.heap.size + 1 := ⟨_, rfl⟩
        rw [← hbp, ← hbt]
        generalize hw8 : World.alloc _ _ = w8
        have hf8 : Fresh w5 w8 := hw8 ▸ ((Keep.refl _ w5).alloc _).alloc _
        have htb : Blk w8 bt 115 #[.int .i64 x.d.pos, .int .i64 x.d.sender, .int .i64 x.d.seq, tx x.d.body] := by rw [← hw8, hbt]; exact (Blk.new w5 _ _).alloc _
        have hpb : Blk w8 bp 104 #[.int .i64 x.d.e1, .int .i64 x.d.e2, .int .i64 x.d.e3, .int .i64 x.d.e4, .int .i64 x.d.who.1, .int .i64 x.d.who.2] := by
          have := Blk.new (w5.alloc (.cells #[.int .i64 x.d.pos, .int .i64 x.d.sender, .int .i64 x.d.seq, tx x.d.body] 115)) 104 #[.int .i64 x.d.e1, .int .i64 x.d.e2, .int .i64 x.d.e3, .int .i64 x.d.e4, .int .i64 x.d.who.1, .int .i64 x.d.who.2]
          rw [← hw8, hbp]
          simpa using this
        have HZ2 := Lib.hid (And.intro (show w.heap.size ≤ bt by rw [hbt]; exact H5.out.fresh.size) (show w.heap.size ≤ bp by rw [hbp]; exact Nat.le_succ_of_le H5.out.fresh.size))
        have H8 := Lib.hid (And.intro (H5.out.next hf8) (And.intro htb hpb))
        clear hw8 hf8 htb hpb hbt hbp c4 c5 c6 c7 c10 c11 c12 c14 u0 u1 lu lm hcv H5 HSL
        -- where he stands
        have LC : ∀ q, (Instr.lookup 73 (.map (some F.c)) (.agg #[.int .i64 x.d.e1, .int .i64 x.d.e2, .int .i64 x.d.e3, .int .i64 x.d.e4, .int .i64 x.d.who.1, .int .i64 x.d.who.2]) false).run Try.prog (w8.drewN q) = .ok (.int .i64 (cn : Int)) (w8.drewN q) := fun q => by
          have := H.out.1.count.lookF (x := (x.d.id, x.d.who)) H.out.2.1.ints.id H.out.2.1.ints.who _ (H8.out.1.fresh.drewN q)
          rw [← H.out.2.2.2.2.2.2.1] at this
          exact this
        have g9 : w8.cell? ⟨F.g, 9, none⟩ = some (.map (some F.c)) := (H.out.1.fresh H8.out.1.fresh).blk.cell 9
        have p0 : w8.cell? ⟨bp, 0, none⟩ = some (.int .i64 x.d.e1) := H8.out.2.2.cell 0
        have p1 : w8.cell? ⟨bp, 1, none⟩ = some (.int .i64 x.d.e2) := H8.out.2.2.cell 1
        have p2 : w8.cell? ⟨bp, 2, none⟩ = some (.int .i64 x.d.e3) := H8.out.2.2.cell 2
        have p3 : w8.cell? ⟨bp, 3, none⟩ = some (.int .i64 x.d.e4) := H8.out.2.2.cell 3
        have p4 : w8.cell? ⟨bp, 4, none⟩ = some (.int .i64 x.d.who.1) := H8.out.2.2.cell 4
        have p5 : w8.cell? ⟨bp, 5, none⟩ = some (.int .i64 x.d.who.2) := H8.out.2.2.cell 5
        have lp := H8.out.2.2.lt; have lg := lt_of_cell g9
        go_quiet (fail)
        rename_i q9
        clear LC g9 p0 p1 p2 p3 p4 p5 lp lg
        go_wp2_with fail
        generalize hw9 : World.drewN w8 _ = w9
        have hf9 : Fresh w8 w9 := hw9 ▸ (Keep.refl _ w8).drewN _
        have H9 := Lib.hid (And.intro (H8.out.1.next hf9) (And.intro (H8.out.2.1.keep hf9 trivial) (H8.out.2.2.keep hf9 trivial)))
        clear hw9 hf9 H8
        -- rule 8
        have LO : ∀ q, (Instr.lookup 72 (.map (some F.o)) (.agg #[.int .i64 x.d.e1, .int .i64 x.d.e2, .int .i64 x.d.e3, .int .i64 x.d.e4]) false).run Try.prog (w9.drewN q) = .ok (.slice Ao lo.length co) (w9.drewN q) := fun q => HV.out.2.1 _ (H9.out.1.fresh.drewN q)
        have g8 : w9.cell? ⟨F.g, 8, none⟩ = some (.map (some F.o)) := (H.out.1.fresh H9.out.1.fresh).blk.cell 8
        have c4 := H9.out.1.mb.e1; have c5 := H9.out.1.mb.e2; have c6 := H9.out.1.mb.e3; have c7 := H9.out.1.mb.e4
        have t0 : w9.cell? ⟨bt, 0, none⟩ = some (.int .i64 x.d.pos) := H9.out.2.1.cell 0
        have t1 : w9.cell? ⟨bt, 1, none⟩ = some (.int .i64 x.d.sender) := H9.out.2.1.cell 1
        have t2 : w9.cell? ⟨bt, 2, none⟩ = some (.int .i64 x.d.seq) := H9.out.2.1.cell 2
        have t3 : w9.cell? ⟨bt, 3, none⟩ = some (tx x.d.body) := H9.out.2.1.cell 3
        have lt := H9.out.2.1.lt; have lm := H9.out.1.mb.blk.lt; have lg := lt_of_cell g8
        obtain ⟨d10, hd10⟩ : ∃ d : Bool, d = decide (cn < lo.length ∧ lo[cn]? ≠ some x.d.told) := ⟨_, rfl⟩
        have HD10 : Hid ((d10 = true) ↔ (cn < lo.length ∧ lo[cn]? ≠ some x.d.told)) := Lib.hid (by rw [hd10]; simp only [decide_eq_true_iff])
        clear hd10
        go_cut [143] (fun s143 wx => s143 = .bool d10 ∧ Hid (Fresh w9 wx))
        case first =>
          as_aux_lemma =>
            by_cases h1 : cn < lo.length
            · obtain ⟨A2, c2, hA2, hrd2, -⟩ := own_rd HV.out.1.1
              injection hA2 with ha1 ha2 ha3
              subst ha1
              obtain ⟨b2, o2, rfl, hz2, hrg⟩ := Rd.range tol_four (hrd2.keep (H9.out.1.fresh.weaken fun _ _ _ => trivial)) h1 h1
              obtain ⟨y, hy⟩ : ∃ y, y = lo[cn] := ⟨_, rfl⟩
              rw [← hy] at hrg
              have y0 : w9.cell? ⟨b2, o2 + cn * 4, none⟩ = some (.int .i64 y.pos) := hrg 0 _ rfl
              have y1 : w9.cell? ⟨b2, o2 + cn * 4 + 1, none⟩ = some (.int .i64 y.sender) := hrg 1 _ rfl
              have y2 : w9.cell? ⟨b2, o2 + cn * 4 + 2, none⟩ = some (.int .i64 y.seq) := hrg 2 _ rfl
              have y3 : w9.cell? ⟨b2, o2 + cn * 4 + 3, none⟩ = some (tx y.body) := hrg 3 _ rfl
              have Q := fun w => netol y x.d.told w
              obtain ⟨d9, hd9⟩ : ∃ d, d = decide (y ≠ x.d.told) := ⟨_, rfl⟩
              rw [← hd9] at Q
              simp only [MarkD.told] at Q
              have E10 : d10 = d9 := by
                rw [Bool.eq_iff_iff, HD10.out, hd9, decide_eq_true_iff, hy, List.getElem?_eq_getElem h1]
                exact ⟨fun h e => h.2 (congrArg some e), fun h => ⟨h1, fun e => h (Option.some.inj e)⟩⟩
              have HE10 := Lib.hid E10
              have h1d : decide (cn < lo.length) = true := decide_eq_true h1
              have h1e : decide ((cn : Int) < (lo.length : Int)) = true := decide_eq_true (by omega)
              have h1z : (cn : Int) < (lo.length : Int) := by omega
              clear hrd2 ha2 ha3 hz2 hrg hy hd9 E10
              go_quiet (fail)
              go_wp2_with fail
              go_meet
              exact ⟨congrArg Value.bool HE10.out.symm, Lib.hid ((Keep.refl _ w9).drewN _)⟩
            · have h1d : decide (cn < lo.length) = false := decide_eq_false h1
              have h1e : decide ((cn : Int) < (lo.length : Int)) = false := decide_eq_false (by omega)
              have E10 : d10 = false := by
                cases hd : d10
                · rfl
                · exact absurd (HD10.out.1 hd).1 h1
              have HE10 := Lib.hid E10
              clear E10 t0 t1 t2 t3
              go_quiet (fail)
              go_wp2_with fail
              go_meet
              exact ⟨congrArg Value.bool HE10.out.symm, Lib.hid ((Keep.refl _ w9).drewN _)⟩
        case rest =>
        rename World => w10
        obtain ⟨rfl, HC10⟩ := hcut
        have H10 := Lib.hid (And.intro (H9.out.1.next HC10.out) (And.intro (H9.out.2.1.keep HC10.out trivial) (H9.out.2.2.keep HC10.out trivial)))
        clear HC10 LO g8 c4 c5 c6 c7 t0 t1 t2 t3 lt lm lg H9
        cases d10
        rotate_left
        · obtain rfl : r = 8 := by rw [HR2.out, if_pos (HD10.out.1 rfl)]
          go_wp2_with fail
          go_ret
          exact ⟨rfl, StepP.bad H10.out.1.fresh (by decide)⟩
        · obtain rfl : r = 0 := by rw [HR2.out, if_neg (fun h => by have := HD10.out.2 h; cases this)]
          clear HD10 HR2
          go_wp2_with fail
          -- the order grows
          have LO : ∀ q, (Instr.lookup 72 (.map (some F.o)) (.agg #[.int .i64 x.d.e1, .int .i64 x.d.e2, .int .i64 x.d.e3, .int .i64 x.d.e4]) false).run Try.prog (w10.drewN q) = .ok (.slice Ao lo.length co) (w10.drewN q) := fun q => HV.out.2.1 _ (H10.out.1.fresh.drewN q)
          have g8 : w10.cell? ⟨F.g, 8, none⟩ = some (.map (some F.o)) := (H.out.1.fresh H10.out.1.fresh).blk.cell 8
          have c4 := H10.out.1.mb.e1; have c5 := H10.out.1.mb.e2; have c6 := H10.out.1.mb.e3; have c7 := H10.out.1.mb.e4
          have lm := H10.out.1.mb.blk.lt; have lg := lt_of_cell g8
          obtain ⟨dq, hdq⟩ : ∃ d : Bool, d = decide (cn = lo.length) := ⟨_, rfl⟩
          have HDq : Hid ((dq = true) ↔ cn = lo.length) := Lib.hid (by rw [hdq]; simp only [decide_eq_true_iff])
          clear hdq
          go_cut [153] (fun s153 wx => s153 = .bool dq ∧ Hid (Fresh w10 wx))
          case first =>
            as_aux_lemma =>
              by_cases h1 : cn = lo.length
              · have E : dq = true := HDq.out.2 h1
                have HE := Lib.hid E
                clear E
                subst h1
                go_quiet (fail)
                go_wp2_with fail
                go_meet
                refine ⟨congrArg Value.bool (HE.out.trans ?_).symm, Lib.hid ((Keep.refl _ w10).drewN _)⟩
                simp
              · have h1d : ((cn : Int) == (lo.length : Int)) = false := beq_false_of_ne (by omega)
                have E : dq = false := by
                  cases hd : dq
                  · rfl
                  · exact absurd (HDq.out.1 hd) h1
                have HE := Lib.hid E
                clear E h1
                go_quiet (fail)
                go_wp2_with fail
                go_meet
                exact ⟨congrArg Value.bool HE.out.symm, Lib.hid ((Keep.refl _ w10).drewN _)⟩
          case rest =>
          rename World => w12
          obtain ⟨rfl, HC12⟩ := hcut
          have H12 := Lib.hid (And.intro (H10.out.1.next HC12.out) (And.intro (H10.out.2.1.keep HC12.out trivial) (H10.out.2.2.keep HC12.out trivial)))
          clear HC12 LO g8 c4 c5 c6 c7 lm lg H10
          go_upto_if 153 with (fail)
          go_cut [8] (fun s8 w13 => s8 = .int .i64 0 ∧ Hid (∃ T2, More T T2 ∧ GM w13 B T2 F (K + 1) { s with order := (if cn = lo.length then upd s.order x.d.id (lo ++ [x.d.told]) else s.order) } ∧ Keep (fun j => (Value.slice Ao lo.length co).ownBlock ≠ some j ∧ j ≠ F.o) w12 w13))
          case first =>
            as_aux_lemma =>
              cases dq
              · go_wp2_with fail
                go_meet
                refine ⟨rfl, Lib.hid ⟨T, More.refl T, ?_, Keep.refl _ w12⟩⟩
                rw [if_neg (fun h => by have := HDq.out.2 h; cases this)]
                exact (H.out.1.fresh H12.out.1.fresh).mono (Nat.le_succ K)
              · have hq : cn = lo.length := HDq.out.1 rfl
                have z1 : (Value.slice Ao lo.length co).ownBlock ≠ some F.g ∧ F.g ≠ F.o := ⟨(fun e => by have := HV.out.1.2 _ e; rw [H.out.1.fix.g] at this; cases this), tag_ne H.out.1.fix.g H.out.1.fix.o (by simp)⟩
                have lFo : F.o < w.heap.size := (H.out.1.low F.o (by rw [H.out.1.fix.o]; simp)).2
                have z2 : (Value.slice Ao lo.length co).ownBlock ≠ some bm ∧ bm ≠ F.o := ⟨(fun e => by have := (own_lt HV.out.1.1 e).2; have := HZ.out.2.1; omega), by have := HZ.out.2.1; omega⟩
                have z3 : (Value.slice Ao lo.length co).ownBlock ≠ some bt ∧ bt ≠ F.o := ⟨(fun e => by have := (own_lt HV.out.1.1 e).2; have := HZ2.out.1; omega), by have := HZ2.out.1; omega⟩
                have hro : (Value.slice Ao lo.length co).ownBlock ≠ some F.o := fun e => by have := HV.out.1.2 _ e; rw [H.out.1.fix.o] at this; cases this
                have HK : Hid (∀ w', Keep (fun j => (Value.slice Ao lo.length co).ownBlock ≠ some j ∧ j ≠ F.o) w12 w' → (Keep (fun j => (Value.slice Ao lo.length co).ownBlock ≠ some j ∧ j ≠ F.o) w12 w' ∧ w'.cell? ⟨F.g, 8, none⟩ = some (.map (some F.o)) ∧ w'.cell? ⟨bm, 4, none⟩ = some (.int .i64 x.d.e1) ∧ w'.cell? ⟨bm, 5, none⟩ = some (.int .i64 x.d.e2) ∧ w'.cell? ⟨bm, 6, none⟩ = some (.int .i64 x.d.e3) ∧ w'.cell? ⟨bm, 7, none⟩ = some (.int .i64 x.d.e4) ∧ w'.cell? ⟨bt, 0, none⟩ = some (.int .i64 x.d.pos) ∧ w'.cell? ⟨bt, 1, none⟩ = some (.int .i64 x.d.sender) ∧ w'.cell? ⟨bt, 2, none⟩ = some (.int .i64 x.d.seq) ∧ w'.cell? ⟨bt, 3, none⟩ = some (tx x.d.body))) := Lib.hid (fun w' hk =>
                  ⟨hk, hk.cellAt ((H.out.1.fresh H12.out.1.fresh).blk.cell 8) z1, hk.cellAt H12.out.1.mb.e1 z2, hk.cellAt H12.out.1.mb.e2 z2, hk.cellAt H12.out.1.mb.e3 z2, hk.cellAt H12.out.1.mb.e4 z2, hk.cellAt (H12.out.2.1.cell 0) z3, hk.cellAt (H12.out.2.1.cell 1) z3, hk.cellAt (H12.out.2.1.cell 2) z3, hk.cellAt (H12.out.2.1.cell 3) z3⟩)
                have hfA : Fresh w w12.drew := H12.out.1.fresh.drew
                have hfC : Fresh w ((w12.alloc (.cells #[.int .i64 x.d.pos, .int .i64 x.d.sender, .int .i64 x.d.seq, tx x.d.body] 115)).drew) := (H12.out.1.fresh.alloc _).drew
                obtain ⟨stA, wEA, runA, keA, finA⟩ := HV.out.2.2 _ hfA
                obtain ⟨stC, wEC, runC, keC, finC⟩ := HV.out.2.2 _ hfC
                have kwA : Keep (fun j => j ≠ F.o) w wEA := (hfA.weaken fun _ _ _ => trivial).trans keA
                have kwC : Keep (fun j => j ≠ F.o) w wEC := (hfC.weaken fun _ _ _ => trivial).trans keC
                have HFin := Lib.hid (And.intro finA finC)
                have HKs := Lib.hid (And.intro kwA kwC)
                have hkA : Keep (fun j => (Value.slice Ao lo.length co).ownBlock ≠ some j ∧ j ≠ F.o) w12 wEA := ((Keep.refl _ w12).drew).trans (keA.weaken (fun j _ h => h.2))
                have hkC : Keep (fun j => (Value.slice Ao lo.length co).ownBlock ≠ some j ∧ j ≠ F.o) w12 wEC := (((Keep.refl _ w12).alloc _).drew).trans (keC.weaken (fun j _ h => h.2))
                have HNB : Hid (Blk wEC w12.heap.size 115 #[.int .i64 x.d.pos, .int .i64 x.d.sender, .int .i64 x.d.seq, tx x.d.body]) := Lib.hid ((Blk.new w12 _ _).keep (((Keep.refl (fun j => j ≠ F.o) _).drew).trans keC) (by have := H12.out.1.fresh.size; omega))
                have HOA : Hid (∀ o, (wEA.alloc o).ownsRow B 115 4 (.slice Ao lo.length co) lo.length (rcells TolD.cells lo)) := Lib.hid (fun o => own_keep HV.out.1.1 (HKs.out.1.alloc o) (fun j hj e => hro (e ▸ hj)))
                have HOC : Hid (wEC.ownsRow B 115 4 (.slice Ao lo.length co) lo.length (rcells TolD.cells lo)) := Lib.hid (own_keep HV.out.1.1 HKs.out.2 (fun j hj e => hro (e ▸ hj)))
                have HBA : Hid (∀ o, B ≤ (wEA.alloc o).heap.size) := Lib.hid (fun o => Nat.le_trans H.out.1.base (HKs.out.1.alloc o).size)
                have HBC : Hid (B ≤ wEC.heap.size) := Lib.hid (Nat.le_trans H.out.1.base HKs.out.2.size)
                have hbytes : (lo.length + 1) * 40 ≤ 140737488355328 := by omega
                have HQ := Lib.hid hq
                simp only [viewA, MarkD.id] at runA runC
                clear hq z1 lFo z2 z3 hfA hfC keA keC finA finC kwA kwC
                go_wp2_with fail
                go_region_held3 (fun w' => Keep (fun j => (Value.slice Ao lo.length co).ownBlock ≠ some j ∧ j ≠ F.o) w12 w' ∧ w'.cell? ⟨F.g, 8, none⟩ = some (.map (some F.o)) ∧ w'.cell? ⟨bm, 4, none⟩ = some (.int .i64 x.d.e1) ∧ w'.cell? ⟨bm, 5, none⟩ = some (.int .i64 x.d.e2) ∧ w'.cell? ⟨bm, 6, none⟩ = some (.int .i64 x.d.e3) ∧ w'.cell? ⟨bm, 7, none⟩ = some (.int .i64 x.d.e4) ∧ w'.cell? ⟨bt, 0, none⟩ = some (.int .i64 x.d.pos) ∧ w'.cell? ⟨bt, 1, none⟩ = some (.int .i64 x.d.sender) ∧ w'.cell? ⟨bt, 2, none⟩ = some (.int .i64 x.d.seq) ∧ w'.cell? ⟨bt, 3, none⟩ = some (tx x.d.body))
                  (first | exact HK.out _ ((Keep.refl _ w12).drew) | exact HK.out _ (((Keep.refl _ w12).alloc _).drew) | exact HK.out _ (((Keep.refl _ w12).drew).alloc _) | exact HK.out _ hkA | exact HK.out _ hkC | exact HK.out _ (hkA.alloc _) | exact HK.out _ hk13 | exact HK.out _ hk14)
                  (first
                    | (refine step_app etTol rfl (.tmp 160) (.tmp 162) rfl B (.slice Ao lo.length co) lo.length (rcells TolD.cells lo) rfl HOC.out (fun _ => True) (some ⟨w12.heap.size, 0, none⟩) 1 1 (TolD.cells x.d.told) rfl ((Rd.one_of HNB.out rfl).weaken fun _ _ => trivial) (fun h => Nat.noConfusion h) (tol_one _) hbytes HBC.out ?_
                       intro v13 w13 ho13 hkb hn13
                       obtain ⟨-, w14, hrun, hkw14, hks, hfin⟩ := HFin.out.2 _ _ _ x.d.told (Keep.refl _ _) ho13 hkb hn13
                       have hk13 := hkC.trans (hkb.weaken (fun j _ h => h.1))
                       have hk14 := hk13.trans (hks.weaken (fun j _ h => h.2))
                       have HF := Lib.hid (And.intro hfin hkw14)
                       clear hkw14 hks
                       obtain ⟨A13, c13, rfl, -, -⟩ := own_rd ho13
                       clear ho13 hkb hn13 hfin)
                    | (refine step_app etTol rfl (.tmp 160) (.tmp 162) rfl B (.slice Ao lo.length co) lo.length (rcells TolD.cells lo) rfl (HOA.out _) (fun _ => True) (some ⟨wEA.heap.size, 0, none⟩) 1 1 (TolD.cells x.d.told) rfl ((Rd.one_of (Blk.new wEA 115 #[.int .i64 x.d.pos, .int .i64 x.d.sender, .int .i64 x.d.seq, tx x.d.body]) rfl).weaken fun _ _ => trivial) (fun h => Nat.noConfusion h) (tol_one _) hbytes (HBA.out _) ?_
                       intro v13 w13 ho13 hkb hn13
                       obtain ⟨-, w14, hrun, hkw14, hks, hfin⟩ := HFin.out.1 _ _ _ x.d.told ((Keep.refl _ _).alloc _) ho13 hkb hn13
                       have hk13 := (hkA.alloc _).trans (hkb.weaken (fun j _ h => h.1))
                       have hk14 := hk13.trans (hks.weaken (fun j _ h => h.2))
                       have HF := Lib.hid (And.intro hfin hkw14)
                       clear hkw14 hks
                       obtain ⟨A13, c13, rfl, -, -⟩ := own_rd ho13
                       clear ho13 hkb hn13 hfin))
                all_goals go_wp2_with fail
                all_goals go_meet
                all_goals obtain ⟨T2, hT2, hG2⟩ := HF.out.1
                all_goals refine ⟨rfl, Lib.hid ⟨T2, hT2, ?_, hk14⟩⟩
                all_goals rw [if_pos HQ.out]
                all_goals exact hG2
          case rest =>
          rename World => w13
          obtain ⟨rfl, HC13⟩ := hcut
          obtain ⟨T2, hT2, hG13, hk13⟩ := HC13.out
          have lFo : F.o < w.heap.size := (H.out.1.low F.o (by rw [H.out.1.fix.o]; simp)).2
          have hrl : ∀ j, (Value.slice Ao lo.length co).ownBlock = some j → j < w.heap.size := fun j hj => (own_lt HV.out.1.1 hj).2
          have zz : ∀ b, w.heap.size ≤ b → ((Value.slice Ao lo.length co).ownBlock ≠ some b ∧ b ≠ F.o) := fun b hb => ⟨fun e => by have := hrl _ e; omega, by omega⟩
          have hw13 : Keep (fun j => (Value.slice Ao lo.length co).ownBlock ≠ some j ∧ j ≠ F.o) w w13 := (H12.out.1.fresh.weaken fun _ _ _ => trivial).trans hk13
          have mb13 : MkB w13 bm x := ⟨H12.out.1.mb.blk.keep hk13 (zz _ HZ.out.2.1)⟩
          have wb13 := H12.out.1.wb.keep hk13 (zz _ HZ.out.1)
          have pb13 := H12.out.2.2.keep hk13 (zz _ HZ2.out.2)
          have hlm13 : LifeM w13 T2 x.d.who b' f (K + 1) v (some ⟨b1, o1, none⟩) c := H.out.2.2.1.keep hw13 (fun j hj => by
            have key : ∀ t : Tag, T j = t → t.part ≠ .ord → ((Value.slice Ao lo.length co).ownBlock ≠ some j ∧ j ≠ F.o) := fun t ht h1 =>
              ⟨fun e => by have := HV.out.1.2 _ e; rw [ht] at this; subst this; exact h1 rfl, fun e => by subst e; rw [H.out.1.fix.o] at ht; subst ht; exact h1 rfl⟩
            rcases hj with hj | hj | hj
            · exact key _ hj (by simp [Tag.part])
            · exact key _ hj (by simp [Tag.part])
            · exact key _ hj (by simp [Tag.part])) hT2 (Nat.le_succ K)
          have H13 := Lib.hid (And.intro hG13 (And.intro hw13 (And.intro mb13 (And.intro wb13 (And.intro pb13 (And.intro hlm13 hT2))))))
          clear HC13 hG13 hk13 lFo hrl zz hw13 mb13 wb13 pb13 hlm13 H12 HDq hT2
          -- the count grows
          go_wp2_with fail
          go_cut [8] (fun s8 w14 => s8 = .int .i64 0 ∧ Hid (GM w14 B T2 F (K + 2) { s with order := (if cn = lo.length then upd s.order x.d.id (lo ++ [x.d.told]) else s.order), count := upd s.count (x.d.id, x.d.who) (cn + 1) } ∧ Keep (fun j => j ≠ F.c) w13 w14))
          case first =>
            as_aux_lemma =>
              have lFc : F.c < w.heap.size := (H.out.1.low F.c (by rw [H.out.1.fix.c]; simp)).2
              have z1 : F.g ≠ F.c := tag_ne H.out.1.fix.g H.out.1.fix.c (by simp)
              have z2 : bp ≠ F.c := by have := HZ2.out.2; omega
              have HK : Hid (∀ w', Keep (fun j => j ≠ F.c) w13 w' → (Keep (fun j => j ≠ F.c) w13 w' ∧ w'.cell? ⟨F.g, 9, none⟩ = some (.map (some F.c)) ∧ w'.cell? ⟨bp, 0, none⟩ = some (.int .i64 x.d.e1) ∧ w'.cell? ⟨bp, 1, none⟩ = some (.int .i64 x.d.e2) ∧ w'.cell? ⟨bp, 2, none⟩ = some (.int .i64 x.d.e3) ∧ w'.cell? ⟨bp, 3, none⟩ = some (.int .i64 x.d.e4) ∧ w'.cell? ⟨bp, 4, none⟩ = some (.int .i64 x.d.who.1) ∧ w'.cell? ⟨bp, 5, none⟩ = some (.int .i64 x.d.who.2))) := Lib.hid (fun w' hk =>
                ⟨hk, hk.cellAt (H13.out.1.blk.cell 9) z1, hk.cellAt (H13.out.2.2.2.2.1.cell 0) z2, hk.cellAt (H13.out.2.2.2.2.1.cell 1) z2, hk.cellAt (H13.out.2.2.2.2.1.cell 2) z2, hk.cellAt (H13.out.2.2.2.2.1.cell 3) z2, hk.cellAt (H13.out.2.2.2.2.1.cell 4) z2, hk.cellAt (H13.out.2.2.2.2.1.cell 5) z2⟩)
              have hC := (H13.out.1.fresh ((Keep.refl (fun _ => True) w13).drew)).count
              obtain ⟨st, wE, hrunE, hkE, hLE, hput⟩ := hC.entry (by omega) (x := (x.d.id, x.d.who)) H.out.2.1.ints.id H.out.2.1.ints.who
              have hL0 := (H13.out.1.count).lookF (x := (x.d.id, x.d.who)) H.out.2.1.ints.id H.out.2.1.ints.who
              have hcn : s.count (x.d.id, x.d.who) = cn := H.out.2.2.2.2.2.2.1.symm
              simp only [hcn] at hrunE hLE hL0
              simp only [spotA, MarkD.id] at hrunE hLE hL0
              have L1 : (Instr.lookup 73 (.map (some F.c)) (.agg #[.int .i64 x.d.e1, .int .i64 x.d.e2, .int .i64 x.d.e3, .int .i64 x.d.e4, .int .i64 x.d.who.1, .int .i64 x.d.who.2]) false).run Try.prog w13.drew = .ok (.int .i64 (cn : Int)) w13.drew := hL0 _ (Keep.refl _ w13).drew
              have L2 : (Instr.lookup 73 (.map (some F.c)) (.agg #[.int .i64 x.d.e1, .int .i64 x.d.e2, .int .i64 x.d.e3, .int .i64 x.d.e4, .int .i64 x.d.who.1, .int .i64 x.d.who.2]) false).run Try.prog wE = .ok (.int .i64 (cn : Int)) wE := hLE _ (Keep.refl _ wE)
              have L3 : (Instr.lookup 73 (.map (some F.c)) (.agg #[.int .i64 x.d.e1, .int .i64 x.d.e2, .int .i64 x.d.e3, .int .i64 x.d.e4, .int .i64 x.d.who.1, .int .i64 x.d.who.2]) false).run Try.prog wE.drew = .ok (.int .i64 (cn : Int)) wE.drew := hLE _ (Keep.refl _ wE).drew
              obtain ⟨w3, hrun3, hC3, hk3⟩ := hput wE (cn + 1) rfl
              have ec : ((cn + 1 : Nat) : Int) = (cn : Int) + 1 := by omega
              rw [ec] at hrun3
              have hkE' : Keep (fun j => j ≠ F.c) w13 wE := ((Keep.refl _ w13).drew).trans hkE
              have hk33 : Keep (fun j => j ≠ F.c) w13 w3 := hkE'.trans hk3
              have HC3 := Lib.hid hC3
              have wc : IntKind.i64.wrap ((cn : Int) + 1) = (cn : Int) + 1 := by rw [IntWalk.i64_in _ (by omega)]
              clear lFc z1 z2 hC hkE hLE hL0 hput ec hC3 hk3 hcn
              go_region_held3 (fun w' => Keep (fun j => j ≠ F.c) w13 w' ∧ w'.cell? ⟨F.g, 9, none⟩ = some (.map (some F.c)) ∧ w'.cell? ⟨bp, 0, none⟩ = some (.int .i64 x.d.e1) ∧ w'.cell? ⟨bp, 1, none⟩ = some (.int .i64 x.d.e2) ∧ w'.cell? ⟨bp, 2, none⟩ = some (.int .i64 x.d.e3) ∧ w'.cell? ⟨bp, 3, none⟩ = some (.int .i64 x.d.e4) ∧ w'.cell? ⟨bp, 4, none⟩ = some (.int .i64 x.d.who.1) ∧ w'.cell? ⟨bp, 5, none⟩ = some (.int .i64 x.d.who.2))
                (first | exact HK.out _ ((Keep.refl _ w13).drew) | exact HK.out _ hkE' | exact HK.out _ hkE'.drew | exact HK.out _ hk33) (fail)
              all_goals go_wp2_with fail
              all_goals go_meet
              all_goals exact ⟨rfl, Lib.hid ⟨H13.out.1.with_count hk33 (fun j hj hp e => by rw [e, (H13.out.1.fix.c : _ = _)] at hp; exact hp rfl) (More.refl _) (same_low H13.out.1 hk33.size) (Nat.le_succ _) HC3.out, hk33⟩⟩
          case rest =>
          rename World => w14
          obtain ⟨rfl, HC14⟩ := hcut
          obtain ⟨hG14, hk14⟩ := HC14.out
          have lFc : F.c < w.heap.size := (H.out.1.low F.c (by rw [H.out.1.fix.c]; simp)).2
          have hlm := H13.out.2.2.2.2.2.1
          have nfc : f ≠ F.c := tag_ne H.out.2.2.1.tf H.out.1.fix.c (by simp)
          have nbc : b' ≠ F.c := tag_ne H.out.2.2.1.tb H.out.1.fix.c (by simp)
          have mb14 : MkB w14 bm x := ⟨H13.out.2.2.1.blk.keep hk14 (by have := HZ.out.2.1; omega)⟩
          have wb14 := H13.out.2.2.2.1.keep hk14 (by have := HZ.out.1; omega)
          have hlm14 : LifeM w14 T2 x.d.who b' f (K + 2) v (some ⟨b1, o1, none⟩) c := hlm.keep hk14 (fun j hj => by
            rcases hj with hj | hj | hj
            · exact tag_ne hj hG14.fix.c (by simp)
            · exact tag_ne hj hG14.fix.c (by simp)
            · exact tag_ne hj hG14.fix.c (by simp)) (More.refl T2) (Nat.le_succ _)
          have H14 := Lib.hid (And.intro hG14 (And.intro hk14 (And.intro mb14 (And.intro wb14 hlm14))))
          clear HC14 hG14 hk14 lFc hlm nfc nbc mb14 wb14 hlm14
          -- what he has of the sender
          go_wp2_with fail
          go_cut [8] (fun s8 w15 => s8 = .int .i64 0 ∧ Hid (IntMap w15 f (K + 3) (upd (fun z => (v.frm z : Int)) x.d.sender ((fr : Int) + 1)) ∧ Keep (fun j => j ≠ f) w14 w15))
          case first =>
            as_aux_lemma =>
              have z1 : b' ≠ f := tag_ne H.out.2.2.1.tb H.out.2.2.1.tf (by simp)
              have lf : f < w.heap.size := (H.out.1.low f (by rw [H.out.2.2.1.tf]; simp)).2
              have z2 : bm ≠ f := by have := HZ.out.2.1; omega
              have HK : Hid (∀ w', Keep (fun j => j ≠ f) w14 w' → (Keep (fun j => j ≠ f) w14 w' ∧ w'.cell? ⟨b', 11, none⟩ = some (.map (some f)) ∧ w'.cell? ⟨bm, 10, none⟩ = some (.int .i64 x.d.sender))) := Lib.hid (fun w' hk => ⟨hk, hk.cellAt (H14.out.2.2.2.2.blk.cell 11) z1, hk.cellAt H14.out.2.2.1.sender z2⟩)
              have LF : ∀ q, (Instr.lookup 67 (.map (some f)) (.int .i64 x.d.sender) false).run Try.prog (w14.drewN q) = .ok (.int .i64 (fr : Int)) (w14.drewN q) := fun q => by
                have := H14.out.2.2.2.2.frm.lookF H.out.2.1.ints.sender _ ((Keep.refl _ w14).drewN q)
                rw [← HFr.out] at this
                exact this
              have LF1 : (Instr.lookup 67 (.map (some f)) (.int .i64 x.d.sender) false).run Try.prog w14.drew = .ok (.int .i64 (fr : Int)) w14.drew := by
                have := H14.out.2.2.2.2.frm.lookF H.out.2.1.ints.sender _ ((Keep.refl _ w14).drew)
                rw [← HFr.out] at this
                exact this
              have wfr : IntKind.i64.wrap ((fr : Int) + 1) = (fr : Int) + 1 := by rw [IntWalk.i64_in _ (by omega)]
              obtain ⟨w15, hrun, hI, hk⟩ := (H14.out.2.2.2.2.frm.keep ((Keep.refl (fun _ => True) w14).drew) trivial).store (by omega) H.out.2.1.ints.sender ((fr : Int) + 1)
              have hk15 : Keep (fun j => j ≠ f) w14 w15 := ((Keep.refl _ w14).drew).trans hk
              have HI := Lib.hid hI
              clear z1 lf z2 hI hk
              go_region_held3 (fun w' => Keep (fun j => j ≠ f) w14 w' ∧ w'.cell? ⟨b', 11, none⟩ = some (.map (some f)) ∧ w'.cell? ⟨bm, 10, none⟩ = some (.int .i64 x.d.sender))
                (first | exact HK.out _ ((Keep.refl _ w14).drew) | exact HK.out _ hk15) (fail)
              all_goals go_wp2_with fail
              all_goals go_meet
              all_goals exact ⟨rfl, Lib.hid ⟨HI.out, hk15⟩⟩
          case rest =>
          rename World => w15
          obtain ⟨rfl, HC15⟩ := hcut
          have hfin : ∀ (wE : World) (ow : Nat), ow = (if x.d.sender = x.d.who.1 then v.own + 1 else v.own) → Keep (fun j => j ≠ b') w15 wE → Blk wE b' 83 (lifeV { v with frm := upd v.frm x.d.sender (fr + 1), lastPos := x.d.pos, own := ow } (some ⟨b1, o1, none⟩) c f) → StepP T w wE B F K 0 (delN s x.d) := fun wE ow how hkE hbE =>
            del_end (v' := { v with frm := upd v.frm x.d.sender (fr + 1), lastPos := x.d.pos, own := ow }) (ord := (if cn = lo.length then upd s.order x.d.id (lo ++ [x.d.told]) else s.order)) (cnt := upd s.count (x.d.id, x.d.who) (cn + 1)) H.out.1 H.out.2.2.1 H.out.2.2.2.1 HV.out.1 H13.out.2.1 H13.out.2.2.2.2.2.2 H14.out.1 H14.out.2.1 H14.out.2.2.2.2 HC15.out.1 HC15.out.2 hkE ⟨rfl, rfl, rfl⟩ hbE (by rw [H.out.2.2.2.2.2.1, ← HFr.out, how])
          have HFin := Lib.hid hfin
          have nbf : b' ≠ f := tag_ne H.out.2.2.1.tb H.out.2.2.1.tf (by simp)
          have lf : f < w.heap.size := (H.out.1.low f (by rw [H.out.2.2.1.tf]; simp)).2
          have hlb15 := H14.out.2.2.2.2.blk.keep HC15.out.2 nbf
          have mb15 : MkB w15 bm x := ⟨H14.out.2.2.1.blk.keep HC15.out.2 (by have := HZ.out.2.1; omega)⟩
          have wb15 := H14.out.2.2.2.1.keep HC15.out.2 (by have := HZ.out.1; omega)
          have lb : b' < w.heap.size := H.out.2.2.1.blk.lt
          have n1 : bm ≠ b' := by have := HZ.out.2.1; omega
          have n2 : bu ≠ b' := by have := HZ.out.1; omega
          have H15 := Lib.hid (And.intro hlb15 (And.intro mb15 (And.intro wb15 (And.intro n1 n2))))
          have e10 := hlb15.frozen 10
          have c12 := mb15.pos
          have tb := hlb15.lt; have tm := mb15.blk.lt
          have l10 : w15.cell? ⟨b', 10, none⟩ = some (.int .i64 v.lastPos) := hlb15.cell 10
          clear HC15 hfin nbf lf hlb15 mb15 wb15 lb n1 n2 H14 H13
          go_upto_region 17 with (fail)
          generalize hw16 : World.setCell _ _ _ = w16
          have hk16 : Keep (fun j => j ≠ b') w15 w16 := hw16 ▸ (Keep.refl _ w15).setCell (fun _ h => h rfl) _
          have hb16 : Blk w16 b' 83 (lifeV { v with frm := upd v.frm x.d.sender (fr + 1), lastPos := x.d.pos } (some ⟨b1, o1, none⟩) c f) := by
            rw [← hw16]
            exact H15.out.1.set 10 (.int .i64 x.d.pos)
          have e9 := hb16.frozen 9
          have l9 : w16.cell? ⟨b', 9, none⟩ = some (.int .i64 (v.own : Int)) := hb16.cell 9
          have c10 : w16.cell? ⟨bm, 10, none⟩ = some (.int .i64 x.d.sender) := hk16.cellAt H15.out.2.1.sender H15.out.2.2.2.1
          have u0 : w16.cell? ⟨bu, 0, none⟩ = some (.int .i64 x.d.who.1) := hk16.cellAt (H15.out.2.2.1.cell 0) H15.out.2.2.2.2
          have tb16 := hb16.lt; have tm16 := lt_of_cell c10; have tu16 := lt_of_cell u0
          have HB16 := Lib.hid (And.intro hk16 hb16)
          have wo : IntKind.i64.wrap ((v.own : Int) + 1) = (v.own : Int) + 1 := by rw [IntWalk.i64_in _ (by omega)]
          clear hw16 hk16 hb16 e10 c12 tb tm l10 H15
          by_cases hs : x.d.sender = x.d.who.1
          · have HS := Lib.hid hs
            have hsb : (x.d.sender == x.d.who.1) = true := by simpa using hs
            clear hs
            go_wp2_with fail
            go_ret
            refine ⟨rfl, HFin.out _ (v.own + 1) (by rw [if_pos HS.out]) (HB16.out.1.setCell (fun _ h => h rfl) _) ?_⟩
            exact HB16.out.2.set 9 (.int .i64 ((v.own : Int) + 1))
          · have HS := Lib.hid hs
            have hsb : (x.d.sender == x.d.who.1) = false := by simpa using hs
            clear hs
            go_wp2_with fail
            go_ret
            exact ⟨rfl, HFin.out _ v.own (by rw [if_neg HS.out]) HB16.out.1 HB16.out.2⟩
end Go.Proofs.Ytfpcmleeehciaaa
