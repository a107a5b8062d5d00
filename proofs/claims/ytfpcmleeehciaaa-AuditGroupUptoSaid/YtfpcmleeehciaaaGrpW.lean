/-
  WALKS OF wellFormed AND together: RULES 2 AND 4.
-/
import Derived.Test.YtfpcmleeehciaaaGrpE
namespace Go.Proofs.Ytfpcmleeehciaaa
set_option linter.unusedVariables false
set_option linter.unusedSimpArgs false
open Go.RowKit Go.Shelf

set_option maxRecDepth 20000 in
set_option maxHeartbeats 2000000 in
theorem well_any (u : Who) (before : Int) (x : MkV) (Z : Nat → Prop) (w : World) (hok : MkOk w Z x) (hl : x.d.mem.length ≤ 1048576) :
    Calls Try.prog 36 #[whoA u, .int .i64 before, .agg x.cells.toArray] w fun e w' => e = .returned (.bool (wellB u before x.d)) ∧ Fresh w w' := by
  obtain ⟨A, c, hvm, -, -, hr⟩ := hok.m
  obtain ⟨ms, hms⟩ : ∃ l, l = x.d.mem := ⟨_, rfl⟩
  rw [← hms] at hvm hr hl
  obtain ⟨r, hr0⟩ : ∃ r, r = wellB u before x.d := ⟨_, rfl⟩
  rw [← hr0]
  have ef : Enters Try.prog 74 := enters_of Try.func74 (by kernel_rfl) rfl
  have ew : Enters Try.prog 78 := enters_of Try.func78 (by kernel_rfl) rfl
  have hR : r = (if ms = [] ∨ 16 < ms.length ∨ ms.all fitB = false ∨ risB (ms.map (·.p)) = false then false else ms.any (isWho u) && (decide (x.d.id = (x.d.e1, (ms.headD ⟨0, 0, 0⟩).p, (ms.headD ⟨0, 0, 0⟩).i, (ms.headD ⟨0, 0, 0⟩).c)) && decide (before < x.d.e1))) := by
    rw [hr0, hms]; rfl
  have HE := Lib.hid (fun w' (hf : Fresh w w') => every_mem ef fitB Z A ms.length c ms w' (hr.keep (hf.weaken fun _ _ _ => trivial)) rfl hl (fits_pred ms w'))
  have HS := Lib.hid (fun w' (hf : Fresh w w') => rising_mem Z A ms.length c ms w' (hr.keep (hf.weaken fun _ _ _ => trivial)) rfl hl)
  have HW := Lib.hid (fun w' b (hf : Fresh w w') (hb : Blk w' b 78 #[.int .i64 u.1, .int .i64 u.2]) => cont_mem ew (isWho u) Z A ms.length c ms w' (hr.keep (hf.weaken fun _ _ _ => trivial)) rfl hl (iswho_pred u b ms w' hb))
  have H := Lib.hid (And.intro hr (And.intro hvm hR))
  clear hr0 hR hok hms hvm ef ew hr
  unfold whoA
  go_enter Try.func36, Try.ntmps36
  go_upto_region 2 with (fail)
  obtain ⟨w1, hw1⟩ : ∃ w1, w1 = (w.alloc (.cells #[.int .i64 u.1, .int .i64 u.2] 78)).alloc (.cells x.cells.toArray 50) := ⟨_, rfl⟩
  obtain ⟨bm, hbm⟩ : ∃ b, b = w.heap.size + 1 := ⟨_, rfl⟩
  obtain ⟨bu, hbu⟩ : ∃ b, b = w.heap.size := ⟨_, rfl⟩
  rw [← hw1, ← hbm, ← hbu]
  have hf1 : Fresh w w1 := hw1 ▸ ((Keep.refl _ w).alloc _).alloc _
  have hwb : Blk w1 bu 78 #[.int .i64 u.1, .int .i64 u.2] := by rw [hw1, hbu]; exact (Blk.new w _ _).alloc _
  have hmb : MkB w1 bm x := by
    have := MkB.new (w.alloc (.cells #[.int .i64 u.1, .int .i64 u.2] 78)) x
    rw [hw1, hbm]
    simpa using this
  have c8 : w1.cell? ⟨bm, 8, none⟩ = some (.slice A ms.length c) := hmb.vm.trans (congrArg some H.out.2.1)
  have lm := hmb.blk.lt
  have H1 := Lib.hid (And.intro hf1 (And.intro hwb hmb))
  clear hw1 hbm hbu hf1 hwb hmb
  by_cases h0 : ms = []
  · have hr := H.out.2.2
    rw [if_pos (.inl h0)] at hr
    subst hr
    have b0 : ((ms.length : Int) == 0) = true := by rw [h0]; rfl
    go_wp2_with fail
    go_ret
    exact ⟨rfl, H1.out.1⟩
  · have b0 : ((ms.length : Int) == 0) = false := by
      have : ms.length ≠ 0 := fun e => h0 (List.eq_nil_of_length_eq_zero e)
      simp; omega
    by_cases h16 : 16 < ms.length
    · have hr := H.out.2.2
      rw [if_pos (.inr (.inl h16))] at hr
      subst hr
      go_wp2_with fail
      go_ret
      exact ⟨rfl, H1.out.1⟩
    · go_wp2_with fail
      refine Calls.mono (HE.out _ H1.out.1) ?_
      rintro e w2 ⟨rfl, hf2⟩
      obtain ⟨d1, hd1⟩ : ∃ d, d = ms.all fitB := ⟨_, rfl⟩
      rw [← hd1]
      have D1 := Lib.hid hd1
      have c8 := hf2.cellAt c8 trivial
      have lm := Nat.lt_of_lt_of_le lm hf2.size
      have H2 := Lib.hid (H1.out.1.trans hf2)
      have H3 := Lib.hid (And.intro (H1.out.2.1.keep hf2 trivial) (H1.out.2.2.blk.keep hf2 trivial))
      clear hd1 hf2 HE
      cases d1
      · obtain rfl : r = false := by rw [H.out.2.2, if_pos (.inr (.inr (.inl D1.out.symm)))]
        go_wp2_with fail
        go_ret
        exact ⟨rfl, H2.out⟩
      · go_wp2_with fail
        refine Calls.mono (HS.out _ H2.out) ?_
        rintro e w3 ⟨rfl, hf3⟩
        obtain ⟨d2, hd2⟩ : ∃ d, d = risB (ms.map (·.p)) := ⟨_, rfl⟩
        rw [← hd2]
        have D2 := Lib.hid hd2
        have c8 := hf3.cellAt c8 trivial
        have lm := Nat.lt_of_lt_of_le lm hf3.size
        have H4 := Lib.hid (H2.out.trans hf3)
        have H5 := Lib.hid (And.intro (H3.out.1.keep hf3 trivial) (H3.out.2.keep hf3 trivial))
        clear hd2 hf3 HS H2 H3
        cases d2
        · obtain rfl : r = false := by rw [H.out.2.2, if_pos (.inr (.inr (.inr D2.out.symm)))]
          go_wp2_with fail
          go_ret
          exact ⟨rfl, H4.out⟩
        · have hr := H.out.2.2
          rw [if_neg (by rintro (h | h | h | h); exact h0 h; exact h16 h; rw [← D1.out] at h; cases h; rw [← D2.out] at h; cases h)] at hr
          have HR := Lib.hid hr
          clear hr
          go_wp2_with fail
          refine Calls.mono (HW.out _ bu H4.out H5.out.1) ?_
          rintro e w4 ⟨rfl, hf4⟩
          obtain ⟨d3, hd3⟩ : ∃ d, d = ms.any (isWho u) := ⟨_, rfl⟩
          rw [← hd3]
          have D3 := Lib.hid hd3
          have hlen : 0 < ms.length := by
            rcases Nat.eq_zero_or_pos ms.length with e | e
            · exact absurd (List.eq_nil_of_length_eq_zero e) h0
            · exact e
          have hfw := H4.out.trans hf4
          obtain ⟨b, o, rfl, hz, hrg⟩ := Rd.range mem_three (H.out.1.keep (hfw.weaken fun _ _ _ => trivial)) hlen hlen
          obtain ⟨y, hy⟩ : ∃ y, y = ms[0] := ⟨_, rfl⟩
          rw [← hy, Nat.zero_mul, Nat.add_zero] at hrg
          have hh : ms.headD ⟨0, 0, 0⟩ = y := by rw [hy]; cases ms with | nil => exact absurd rfl h0 | cons a r => rfl
          have m0 : w4.cell? ⟨b, o, none⟩ = some (.int .i64 y.p) := hrg 0 _ rfl
          have m1 : w4.cell? ⟨b, o + 1, none⟩ = some (.int .i64 y.i) := hrg 1 _ rfl
          have m2 : w4.cell? ⟨b, o + 2, none⟩ = some (.int .i64 y.c) := hrg 2 _ rfl
          have hmb : MkB w4 bm x := ⟨H5.out.2.keep hf4 trivial⟩
          have c8 := hf4.cellAt c8 trivial
          have c4 := hmb.e1; have c5 := hmb.e2; have c6 := hmb.e3; have c7 := hmb.e4
          have lm := Nat.lt_of_lt_of_le lm hf4.size
          have Q := fun w => eqview x.d.id (x.d.e1, y.p, y.i, y.c) w
          obtain ⟨d4, hd4⟩ : ∃ d, d = decide (x.d.id = (x.d.e1, y.p, y.i, y.c)) := ⟨_, rfl⟩
          rw [← hd4] at Q
          simp only [MarkD.id] at Q
          have HR2 : Hid (r = (d3 && (d4 && decide (before < x.d.e1)))) := Lib.hid (by rw [HR.out, hh, hd3, hd4])
          have hlen2 : 0 < (ms.length : Int) := by omega
          have HF := Lib.hid hfw
          clear hd3 hd4 hf4 hfw hrg hy hh hmb hz HW H4 H5 HR D1 D2 D3 h0
          cases d3
          · go_wp2_with fail
            go_ret
            exact ⟨ret_bool (by rw [HR2.out]; rfl), HF.out.alloc _⟩
          · cases d4
            · go_wp2_with fail
              go_ret
              exact ⟨ret_bool (by rw [HR2.out]; rfl), HF.out.alloc _⟩
            · by_cases hb : before < x.d.e1
              · go_wp2_with fail
                go_ret
                exact ⟨ret_bool (by rw [HR2.out, decide_eq_true hb]; rfl), HF.out.alloc _⟩
              · have hbd : decide (before < x.d.e1) = false := decide_eq_false hb
                go_wp2_with fail
                go_ret
                exact ⟨ret_bool (by rw [HR2.out, hbd]; rfl), HF.out.alloc _⟩

set_option maxRecDepth 20000 in
set_option maxHeartbeats 2000000 in
theorem tog_any {w : World} {B : Nat} {T : Nat → Tag} {F : Fix} {K k : Nat} {s : GrpD} (hG : GM w B T F K s) (hB : BdG s k) (hk : k ≤ 1048576) (u : Who) (frm : V4) (x : MkV) (hx : MkInt x.d) (Z : Nat → Prop) (hok : MkOk w Z x) (hl : x.d.mem.length ≤ 1048576) (htl : x.d.tr.length ≤ 1048576) :
    Calls Try.prog 40 #[.pointer (some ⟨F.g, 0, none⟩), whoA u, viewA frm, .agg x.cells.toArray] w fun e w' => e = .returned (.bool (togB s u frm x.d)) ∧ Fresh w w' := by
  obtain ⟨A, c, hvm, -, -, hr⟩ := hok.m
  obtain ⟨At, ct, hvt, -, -, hrt⟩ := hok.t
  obtain ⟨ms, hms⟩ : ∃ l, l = x.d.mem := ⟨_, rfl⟩
  obtain ⟨tr, htr⟩ : ∃ l, l = x.d.tr := ⟨_, rfl⟩
  rw [← hms] at hvm hr hl
  rw [← htr] at hvt hrt htl
  obtain ⟨vs, Ai, ci, hvs, hrow, hsl, LI⟩ := hG.inst.lookF hx.id
  have hvl : vs.length ≤ 1048576 := by
    have := hB.inst x.d.id
    rw [← hvs, List.length_map] at this
    omega
  obtain ⟨Ar, cr, hvr, hrr, -⟩ := own_rd hrow.1
  injection hvr with hv1 hv2 hv3
  subst hv1 hv3
  have ep : Enters Try.prog 80 := enters_of Try.func80 (by kernel_rfl) rfl
  have eb : Enters Try.prog 86 := enters_of Try.func86 (by kernel_rfl) rfl
  obtain ⟨r, hr0⟩ : ∃ r, r = togB s u frm x.d := ⟨_, rfl⟩
  rw [← hr0]
  have hR : r = (if tr.all (memB ms) = false ∨ risB tr = false ∨ tr.contains u.1 = false then false else if frm = nov ∧ tr.length ≠ 1 then false else vs.all (fun v => bothB u frm tr v.d)) := by
    rw [hr0, hms, htr]
    unfold togB
    rw [← hvs, List.all_map]
    rfl
  have HE := Lib.hid (fun w' b (hf : Fresh w w') (hb : w'.cell? ⟨b, 8, none⟩ = some (.slice A ms.length c)) => every_int ep (memB ms) Z At tr.length ct tr w' (hrt.keep (hf.weaken fun _ _ _ => trivial)) rfl htl (member_pred b A c ms Z tr w' hb (hr.keep (hf.weaken fun _ _ _ => trivial)) hl))
  have HS := Lib.hid (fun w' (hf : Fresh w w') => rising_int Z At tr.length ct tr w' (hrt.keep (hf.weaken fun _ _ _ => trivial)) rfl htl)
  have HI := Lib.hid (fun w' (hf : Fresh w w') => has_int Z At tr.length ct tr u.1 w' (hrt.keep (hf.weaken fun _ _ _ => trivial)) rfl htl)
  have HB := Lib.hid (fun w' b1 b2 b3 b4 (hf : Fresh w w') (h1 : Blk w' b1 41 #[.int .i64 frm.1, .int .i64 frm.2.1, .int .i64 frm.2.2.1, .int .i64 frm.2.2.2]) (h2 : Blk w' b2 41 #[.int .i64 0, .int .i64 0, .int .i64 0, .int .i64 0]) (h3 : w'.cell? ⟨b3, 9, none⟩ = some (.slice At tr.length ct)) (h4 : w'.cell? ⟨b4, 0, none⟩ = some (.int .i64 u.1)) =>
    every_ent eb (cap := #[.pointer (some ⟨b1, 0, none⟩), .pointer (some ⟨b2, 0, none⟩), .pointer (some ⟨b3, 0, none⟩), .pointer (some ⟨b4, 0, none⟩)]) (fun v => bothB u frm tr v.d) _ Ai vs.length ci vs w' (hrr.keep (hf.weaken fun _ _ _ => trivial)) rfl hvl (fun W v hv hfv => by
      obtain ⟨Av, cv, hvv, -, -, hrv⟩ := (hsl v hv).1
      injection hvv with e1 _ e3
      subst e1 e3
      have := both_any frm tr u b1 b2 b3 b4 At ct Z _ v W (h1.keep hfv trivial) (h2.keep hfv trivial) (hfv.cellAt h3 trivial) (hfv.cellAt h4 trivial) (hrt.keep ((hf.trans hfv).weaken fun _ _ _ => trivial)) htl (hrv.keep ((hf.trans hfv).weaken fun _ _ _ => trivial)) (hsl v hv).2
      simpa using this))
  have H := Lib.hid (And.intro hvm (And.intro hvt (And.intro hR (And.intro LI hG.blk))))
  clear hr0 hR hok hvm hvt ep eb hr hrt hrr hG hB hvs hrow hsl LI hv2 hms htr
  unfold whoA viewA
  go_enter Try.func40, Try.ntmps40
  go_upto_region 3 with (fail)
  obtain ⟨w1, hw1⟩ : ∃ w1, w1 = (((w.alloc (.cells #[.int .i64 u.1, .int .i64 u.2] 78)).alloc (.cells #[.int .i64 frm.1, .int .i64 frm.2.1, .int .i64 frm.2.2.1, .int .i64 frm.2.2.2] 41)).alloc (.cells x.cells.toArray 50)).alloc (.cells #[.int .i64 0, .int .i64 0, .int .i64 0, .int .i64 0] 41) := ⟨_, rfl⟩
  obtain ⟨b10, hb10⟩ : ∃ b, b = w.heap.size + 1 + 1 + 1 := ⟨_, rfl⟩
  obtain ⟨b7, hb7⟩ : ∃ b, b = w.heap.size + 1 + 1 := ⟨_, rfl⟩
  obtain ⟨b6, hb6⟩ : ∃ b, b = w.heap.size + 1 := ⟨_, rfl⟩
  obtain ⟨b5, hb5⟩ : ∃ b, b = w.heap.size := ⟨_, rfl⟩
  rw [← hw1, ← hb10, ← hb7, ← hb6, ← hb5]
  have hf1 : Fresh w w1 := hw1 ▸ ((((Keep.refl _ w).alloc _).alloc _).alloc _).alloc _
  have k5 : Blk w1 b5 78 #[.int .i64 u.1, .int .i64 u.2] := by rw [hw1, hb5]; exact (((Blk.new w _ _).alloc _).alloc _).alloc _
  have k6 : Blk w1 b6 41 #[.int .i64 frm.1, .int .i64 frm.2.1, .int .i64 frm.2.2.1, .int .i64 frm.2.2.2] := by
    rw [hw1, hb6]
    have := ((Blk.new (w.alloc (.cells #[.int .i64 u.1, .int .i64 u.2] 78)) 41 #[.int .i64 frm.1, .int .i64 frm.2.1, .int .i64 frm.2.2.1, .int .i64 frm.2.2.2]).alloc (.cells x.cells.toArray 50)).alloc (.cells #[.int .i64 0, .int .i64 0, .int .i64 0, .int .i64 0] 41)
    simpa using this
  have k7 : MkB w1 b7 x := by
    rw [hw1, hb7]
    have := (Blk.new ((w.alloc (.cells #[.int .i64 u.1, .int .i64 u.2] 78)).alloc (.cells #[.int .i64 frm.1, .int .i64 frm.2.1, .int .i64 frm.2.2.1, .int .i64 frm.2.2.2] 41)) 50 x.cells.toArray).alloc (.cells #[.int .i64 0, .int .i64 0, .int .i64 0, .int .i64 0] 41)
    exact ⟨by simpa using this⟩
  have k10 : Blk w1 b10 41 #[.int .i64 0, .int .i64 0, .int .i64 0, .int .i64 0] := by
    rw [hw1, hb10]
    have := Blk.new (((w.alloc (.cells #[.int .i64 u.1, .int .i64 u.2] 78)).alloc (.cells #[.int .i64 frm.1, .int .i64 frm.2.1, .int .i64 frm.2.2.1, .int .i64 frm.2.2.2] 41)).alloc (.cells x.cells.toArray 50)) 41 #[.int .i64 0, .int .i64 0, .int .i64 0, .int .i64 0]
    simpa using this
  have c9 : w1.cell? ⟨b7, 9, none⟩ = some (.slice At tr.length ct) := k7.vt.trans (congrArg some H.out.2.1)
  have c8 : w1.cell? ⟨b7, 8, none⟩ = some (.slice A ms.length c) := k7.vm.trans (congrArg some H.out.1)
  have u0 : w1.cell? ⟨b5, 0, none⟩ = some (.int .i64 u.1) := k5.cell 0
  have l7 := k7.blk.lt
  have l5 := k5.lt
  have H1 := Lib.hid (And.intro hf1 (And.intro k6 (And.intro k7 k10)))
  have HE := Lib.hid (HE.out w1 b7 hf1 c8)
  clear hw1 hb10 hb7 hb6 hb5 hf1 k5 k6 k7 k10 c8
  go_wp2_with fail
  refine Calls.mono HE.out ?_
  rintro e w2 ⟨rfl, hf2⟩
  obtain ⟨d1, hd1⟩ : ∃ d, d = tr.all (memB ms) := ⟨_, rfl⟩
  rw [← hd1]
  have D1 := Lib.hid hd1
  have c9 := hf2.cellAt c9 trivial
  have u0 := hf2.cellAt u0 trivial
  have l7 := Nat.lt_of_lt_of_le l7 hf2.size
  have l5 := Nat.lt_of_lt_of_le l5 hf2.size
  have H2 := Lib.hid (And.intro (H1.out.1.trans hf2) (And.intro (H1.out.2.1.keep hf2 trivial) (And.intro (H1.out.2.2.1.blk.keep hf2 trivial) (H1.out.2.2.2.keep hf2 trivial))))
  clear hd1 hf2 HE H1
  cases d1
  · obtain rfl : r = false := by rw [H.out.2.2.1, if_pos (.inl D1.out.symm)]
    go_wp2_with fail
    go_ret
    exact ⟨rfl, H2.out.1⟩
  · go_wp2_with fail
    refine Calls.mono (HS.out _ H2.out.1) ?_
    rintro e w3 ⟨rfl, hf3⟩
    obtain ⟨d2, hd2⟩ : ∃ d, d = risB tr := ⟨_, rfl⟩
    rw [← hd2]
    have D2 := Lib.hid hd2
    have c9 := hf3.cellAt c9 trivial
    have u0 := hf3.cellAt u0 trivial
    have l7 := Nat.lt_of_lt_of_le l7 hf3.size
    have l5 := Nat.lt_of_lt_of_le l5 hf3.size
    have H3 := Lib.hid (And.intro (H2.out.1.trans hf3) (And.intro (H2.out.2.1.keep hf3 trivial) (And.intro (H2.out.2.2.1.keep hf3 trivial) (H2.out.2.2.2.keep hf3 trivial))))
    clear hd2 hf3 HS H2
    cases d2
    · obtain rfl : r = false := by rw [H.out.2.2.1, if_pos (.inr (.inl D2.out.symm))]
      go_wp2_with fail
      go_ret
      exact ⟨rfl, H3.out.1⟩
    · go_wp2_with fail
      refine Calls.mono (HI.out _ H3.out.1) ?_
      rintro e _ ⟨rfl, rfl⟩
      obtain ⟨d3, hd3⟩ : ∃ d, d = tr.contains u.1 := ⟨_, rfl⟩
      rw [← hd3]
      have D3 := Lib.hid hd3
      clear hd3 HI
      cases d3
      · obtain rfl : r = false := by rw [H.out.2.2.1, if_pos (.inr (.inr D3.out.symm))]
        go_wp2_with fail
        go_ret
        exact ⟨rfl, H3.out.1⟩
      · have hr := H.out.2.2.1
        rw [if_neg (by rintro (h | h | h); rw [← D1.out] at h; cases h; rw [← D2.out] at h; cases h; rw [← D3.out] at h; cases h)] at hr
        have f0 := H3.out.2.1.cell 0; have f1 := H3.out.2.1.cell 1; have f2 := H3.out.2.1.cell 2; have f3 := H3.out.2.1.cell 3
        have n0 := H3.out.2.2.2.cell 0; have n1 := H3.out.2.2.2.cell 1; have n2 := H3.out.2.2.2.cell 2; have n3 := H3.out.2.2.2.cell 3
        simp at f0 f1 f2 f3 n0 n1 n2 n3
        have l6 := H3.out.2.1.lt
        have l10 := H3.out.2.2.2.lt
        have Q := fun w => eqview frm nov w
        obtain ⟨d4, hd4⟩ : ∃ d, d = decide (frm = nov) := ⟨_, rfl⟩
        rw [← hd4] at Q
        simp only [nov] at Q
        by_cases hbad : frm = nov ∧ tr.length ≠ 1
        · rw [if_pos hbad] at hr
          subst hr
          obtain rfl : d4 = true := by rw [hd4]; exact decide_eq_true hbad.1
          have hb : ((tr.length : Int) == 1) = false := by have := hbad.2; simp; omega
          clear hd4 hbad
          go_wp2_with fail
          go_ret
          exact ⟨rfl, H3.out.1⟩
        · rw [if_neg hbad] at hr
          have HR := Lib.hid hr
          have hb2 : Hid (d4 = true → ((tr.length : Int) == 1) = true) := Lib.hid (fun e => by
            have h1 : frm = nov := by rw [hd4] at e; exact of_decide_eq_true e
            have : tr.length = 1 := Classical.not_not.1 fun h => hbad ⟨h1, h⟩
            simp; omega)
          clear hr hd4 hbad
          have g5 : w3.cell? ⟨F.g, 5, none⟩ = some (.map (some F.i)) := H3.out.1.cellAt (H.out.2.2.2.2.cell 5) trivial
          have hm : MkB w3 b7 x := ⟨H3.out.2.2.1⟩
          have k4 := cell_regrown hm.e1; have k5 := cell_regrown hm.e2; have k6 := cell_regrown hm.e3; have k7 := cell_regrown hm.e4
          have kg5 := cell_regrown g5
          have KL : ∀ (q : Nat) (os : Array Obj), (Instr.lookup 69 (.map (some F.i)) (.agg #[.int .i64 x.d.e1, .int .i64 x.d.e2, .int .i64 x.d.e3, .int .i64 x.d.e4]) false).run Try.prog («Sort».grow (redrawn w3 q) os) = .ok (.slice Ai vs.length ci) («Sort».grow (redrawn w3 q) os) := fun q os => H.out.2.2.2.1 _ (H3.out.1.trans (Fresh.of_below (below_regrown w3 q os)))
          have HC := Lib.hid (fun (q : Nat) (os : Array Obj) => Calls.regrown_of (w := w3) (d := q) (os := os) ((HB.out _ b6 b10 b7 b5 (H3.out.1.trans (Fresh.of_below (below_regrown w3 q os))) (H3.out.2.1.keep (Fresh.of_below (below_regrown w3 q os)) trivial) (H3.out.2.2.2.keep (Fresh.of_below (below_regrown w3 q os)) trivial) ((Fresh.of_below (below_regrown w3 q os)).cellAt c9 trivial) ((Fresh.of_below (below_regrown w3 q os)).cellAt u0 trivial)).mono fun _ _ ⟨he, hf⟩ => ⟨he, hf.below⟩))
          have lg := lt_of_cell g5
          have H4 := Lib.hid H3.out.1
          clear hm g5 H3 HB
          cases d4
          · go_wp2_with fail
            clear Q f0 f1 f2 f3 n0 n1 n2 n3 c9 u0 hb2
            refine wp_region_quiet_below (by kernel_rfl) (by kernel_rfl) ?_
            repeat (go_big_quiet_step (first | exact HC.out _ _))
            refine wpQuiet_nil ?_
            intro _ hw'
            obtain ⟨⟨dq, osq⟩, hw''⟩ := hw'
            subst hw''
            go_wp2_with fail
            go_ret
            exact ⟨ret_bool HR.out.symm, H4.out.trans (Fresh.of_below (below_regrown w3 dq osq))⟩
          · have hb3 := hb2.out rfl
            go_wp2_with fail
            clear Q f0 f1 f2 f3 n0 n1 n2 n3 c9 u0 hb2 hb3
            refine wp_region_quiet_below (by kernel_rfl) (by kernel_rfl) ?_
            repeat (go_big_quiet_step (first | exact HC.out _ _))
            refine wpQuiet_nil ?_
            intro _ hw'
            obtain ⟨⟨dq, osq⟩, hw''⟩ := hw'
            subst hw''
            go_wp2_with fail
            go_ret
            exact ⟨ret_bool HR.out.symm, H4.out.trans (Fresh.of_below (below_regrown w3 dq osq))⟩
end Go.Proofs.Ytfpcmleeehciaaa
