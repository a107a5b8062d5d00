/-
  MERGED: RefW5 RefW6
-/
import Derived.Test.YtfpcmleeehciaaaR3
namespace Go.Proofs.Ytfpcmleeehciaaa
set_option linter.unusedVariables false
set_option linter.unusedSimpArgs false
open Go.RowKit Go.Shelf

theorem risB_of : ∀ {l : List Int}, (∀ j (hj : j + 1 < l.length), l[j] < l[j + 1]) → risB l = true
  | [], _ => rfl
  | [a], _ => rfl
  | a :: b :: r, h => by
    unfold risB
    rw [decide_eq_true (show a < b from h 0 (by simp)), Bool.true_and]
    exact risB_of fun j hj => h (j + 1) (by simpa using hj)
set_option maxRecDepth 20000 in
set_option maxHeartbeats 4000000 in
theorem rule4_any (A : Option Addr) (n c : Nat) (hs : List MkV) (s : StanD) (vm : Value) (x : MkV) (w : World) (h : MksA w A n hs) (hx : MkA w x) (hv : vm.oneCell' = true) (hnc : n ≤ c) :
    Calls Try.prog 58 #[.slice A n c, .agg (stanV s vm), .agg x.cells.toArray] w fun e w' => e = .returned (.bool (rule4D (dsOf hs) s x.d)) ∧ Fresh w w' := by
  have HM := Lib.hid (And.intro h (And.intro hx hv))
  have hle := h.m.le
  clear h hx
  obtain ⟨R, hR⟩ : ∃ R, R = rule4D (dsOf hs) s x.d := ⟨_, rfl⟩
  rw [← hR]
  have HR := Lib.hid hR
  clear hR hv
  go_enter Try.func58, Try.ntmps58
  go_upto_region 1 with (fail)
  obtain ⟨w1, hw1⟩ : ∃ w1, w1 = (w.alloc (.cells (stanV s vm) 87)).alloc (.cells x.cells.toArray 50) := ⟨_, rfl⟩
  obtain ⟨b5, hb5⟩ : ∃ b, b = w.heap.size + 1 := ⟨_, rfl⟩
  obtain ⟨b4, hb4⟩ : ∃ b, b = w.heap.size := ⟨_, rfl⟩
  rw [← hw1, ← hb5, ← hb4]
  have h2 := two_boxes w s vm x
  rw [← hw1, ← hb5, ← hb4] at h2
  have H1 := Lib.hid h2
  clear h2 hw1 hb5 hb4
  go_upto_region 2 with (fail)
  obtain ⟨b7, hb7⟩ : ∃ b, b = w1.heap.size := ⟨_, rfl⟩
  rw [← hb7]
  generalize hw2 : World.alloc w1 _ = w2
  have hf2 : Fresh w1 w2 := hw2 ▸ (Keep.refl _ w1).alloc _
  have hn2 : Blk w2 b7 41 #[.int .i64 0, .int .i64 0, .int .i64 0, .int .i64 0] := by rw [← hw2, hb7]; exact Blk.new w1 _ _
  have H2 := Lib.hid (And.intro (H1.out.1.fresh hf2) (And.intro (MkB.mk (H1.out.2.1.blk.keep hf2 trivial) : MkB w2 b5 x) (And.intro hn2 (H1.out.2.2.trans hf2))))
  clear hb7 hw2 hf2 hn2 H1
  obtain ⟨At, ct, hvt, hnt, -, hrt⟩ := (HM.out.2.1.fresh H2.out.2.2.2).ok.t
  obtain ⟨Am, cm, hvm, hnm, -, hrm⟩ := (HM.out.2.1.fresh H2.out.2.2.2).ok.m
  have HLs := Lib.hid (And.intro hvt (And.intro hrt (And.intro hvm hrm)))
  have hft := HM.out.2.1.fit.t
  have hfm := HM.out.2.1.fit.m
  clear hvt hrt hvm hrm hnt hnm
  go_wp2_with fail
  go_loopw [8] (fun kv wr => ∃ k : Nat, k ≤ x.d.tr.length ∧ kv = .int .i64 (k : Int) ∧ Hid (Fresh w2 wr ∧ (x.d.tr.take k).all (memB x.d.mem) = true ∧ ∀ j (hj : j + 1 < x.d.tr.length), j + 1 < k → x.d.tr[j] < x.d.tr[j + 1])) (fun i _ => x.d.tr.length - (intOf i).toNat)
  case atStart => exact ⟨0, Nat.zero_le _, rfl, Lib.hid ⟨Keep.refl _ _, rfl, fun j _ h => by omega⟩⟩
  case round =>
    rename World => wr
    obtain ⟨k, hk, rfl, HW⟩ := hrel
    have hmb : MkB wr b5 x := ⟨H2.out.2.1.blk.keep HW.out.1 trivial⟩
    have m8 := hmb.vm.trans (congrArg some HLs.out.2.2.1); have m9 := hmb.vt.trans (congrArg some HLs.out.1)
    have m2 := hmb.node
    have lm := hmb.blk.lt
    clear hmb
    by_cases hlt : k < x.d.tr.length
    · obtain ⟨bt, ot, rfl, -, hl1, hct⟩ := (HLs.out.2.1.keep (HW.out.1.weaken fun _ _ _ => trivial)).at1 hlt
      obtain ⟨tk, htk⟩ : ∃ z, z = x.d.tr[k] := ⟨_, rfl⟩
      have t0 : wr.cell? ⟨bt, ot + k, none⟩ = some (.int .i64 tk) := by rw [hct, htk]; simp [ics]
      have HAm := Lib.hid (fun w' (hf : Fresh wr w') => among_any _ Am _ cm x.d.mem tk w' (HLs.out.2.2.2.keep ((HW.out.1.trans hf).weaken fun _ _ _ => trivial)) rfl hfm)
      obtain ⟨iz, hiz⟩ : ∃ z, z = idxZ (fun y : MemD => decide (y.p = tk)) x.d.mem := ⟨_, rfl⟩
      rw [← hiz] at HAm
      have hmb : memB x.d.mem tk = decide (0 ≤ iz) := by rw [hiz, idx_any]; rfl
      have hall : (x.d.tr.take (k + 1)).all (memB x.d.mem) = decide (0 ≤ iz) := by
        rw [List.take_succ_eq_append_getElem hlt, List.all_append, HW.out.2.1, ← hmb, htk]
        simp
      have HK := Lib.hid (And.intro hall (And.intro htk hmb))
      have HF := Lib.hid HW.out.1
      have hprev : k = 0 ∨ ∃ (j : Nat) (tj : Int), k = j + 1 ∧ wr.cell? ⟨bt, ot + j, none⟩ = some (.int .i64 tj) ∧ Hid (∃ hj : j < x.d.tr.length, tj = x.d.tr[j]) := by
        rcases Nat.eq_zero_or_pos k with h0 | h0
        · exact .inl h0
        · obtain ⟨j, rfl⟩ : ∃ j, k = j + 1 := ⟨k - 1, by omega⟩
          have hj : j < x.d.tr.length := by omega
          obtain ⟨bt', ot', e, -, hl1', hct'⟩ := (HLs.out.2.1.keep (HW.out.1.weaken fun _ _ _ => trivial)).at1 hj
          injection e with e
          injection e with e1 e2
          subst e1 e2
          exact .inr ⟨j, x.d.tr[j], rfl, by rw [hct']; simp [ics], Lib.hid ⟨hj, rfl⟩⟩
      have HP := Lib.hid hprev
      have HW3 := Lib.hid HW.out.2.2
      clear hct hl1 htk hiz hmb hall HW hprev
      go_upto_region 5 with (fail)
      refine wp_region_still_tail 7 (by kernel_rfl) (by kernel_rfl) ?_
      simp only [List.take_succ_cons, List.take_zero, List.drop_succ_cons, List.drop_zero]
      repeat still_step
      refine wpStill_nil ?_
      change wpList _ _ _ _ _ wr.drew
      go_wp2_with fail
      refine Calls.mono (HAm.out _ ((Keep.refl _ wr).drew)) ?_
      rintro e w4 ⟨rfl, rfl⟩
      go_wp2_with fail
      go_upto_region 6 with (fail)
      generalize hw4 : World.drew wr = w4
      have hf4 : Fresh wr w4 := hw4 ▸ (Keep.refl _ wr).drew
      have m9 := hf4.cellAt m9 trivial; have t0 := hf4.cellAt t0 trivial
      have lm4 : b5 < w4.heap.size := Nat.lt_of_lt_of_le lm hf4.size
      have H4 := Lib.hid hf4
      clear hw4 m8 m2 HAm
      by_cases hi : iz < 0
      · obtain rfl : R = false := by
          rw [HR.out]
          unfold rule4D
          refine if_pos (.inl (List.all_eq_false.2 ⟨_, List.getElem_mem hlt, ?_⟩))
          rw [← HK.out.2.1, HK.out.2.2, decide_eq_false (by omega)]
          simp
        clear hf4
        go_quiet (fail)
        go_wp2_with fail
        go_ret
        exact ⟨rfl, ((H2.out.2.2.2.trans HF.out).trans H4.out).drewN _⟩
      · rcases HP.out with rfl | ⟨j, tj, rfl, tj0, HJ⟩
        · have hbi : decide (iz < 0) = false := decide_eq_false hi
          have HI0 := Lib.hid hi
          clear hf4
          go_quiet (fail)
          go_wp2_with fail
          refine ⟨⟨0 + 1, by omega, by simp, Lib.hid ⟨(HF.out.trans H4.out).drewN _, by rw [HK.out.1, decide_eq_true (by have := HI0.out; omega)], fun j _ h => by omega⟩⟩, by simp [intOf]; omega⟩
        · have tj0 := hf4.cellAt tj0 trivial
          have hbi : decide (iz < 0) = false := decide_eq_false hi
          have HI0 := Lib.hid hi
          have hjl : j < x.d.tr.length := by omega
          have wj : IntKind.i64.wrap (((j + 1 : Nat) : Int) - 1) = (j : Int) := by rw [IntWalk.i64_in _ (by omega)]; try omega
          have wj2 : IntKind.i64.wrap (((j : Int) + 1) - 1) = (j : Int) := by rw [IntWalk.i64_in _ (by omega)]; try omega
          have hj0 : (0 : Int) < (j : Int) + 1 := by omega
          by_cases hle2 : tk ≤ tj
          · obtain rfl : R = false := by
              rw [HR.out]
              unfold rule4D
              refine if_pos (.inr (Bool.eq_false_iff.2 fun a => ?_))
              have hp := risB_pair a
              obtain ⟨hj, e⟩ := HJ.out
              have := List.pairwise_iff_getElem.1 hp j (j + 1) hj hlt (by omega)
              rw [← e, ← HK.out.2.1] at this
              omega
            clear hf4
            go_quiet (fail)
            go_wp2_with fail
            go_ret
            exact ⟨rfl, ((H2.out.2.2.2.trans HF.out).trans H4.out).drewN _⟩
          · have HL2 := Lib.hid hle2
            clear hf4
            go_quiet (fail)
            go_wp2_with fail
            refine ⟨⟨j + 1 + 1, by omega, by simp, Lib.hid ⟨(HF.out.trans H4.out).drewN _, by rw [HK.out.1, decide_eq_true (by have := HI0.out; omega)], fun i hi h => ?_⟩⟩, by simp [intOf]; omega⟩
            rcases Nat.lt_succ_iff_lt_or_eq.1 (show i < j + 1 by omega) with h1 | h1
            · exact HW3.out i hi (by omega)
            · subst h1
              obtain ⟨hj, e⟩ := HJ.out
              have := HL2.out
              rw [← e, ← HK.out.2.1]
              omega
    · obtain rfl : k = x.d.tr.length := by omega
      have hal : x.d.tr.all (memB x.d.mem) = true := by have := HW.out.2.1; rwa [List.take_of_length_le (Nat.le_refl _)] at this
      have hri : risB x.d.tr = true := risB_of fun j hj => HW.out.2.2 j hj (by omega)
      have HR1 : Hid (R = if x.d.tr.contains x.d.node = false ∨ (s.id = nov ∧ x.d.tr.length ≠ 1) then false else (instD (dsOf hs) x.d.id).all (bothB x.d.who s.id x.d.tr)) := Lib.hid (by
        rw [HR.out]
        unfold rule4D
        rw [if_neg (by rintro (a | a); rw [hal] at a; cases a; rw [hri] at a; cases a)])
      have hHo := fun (w' : World) (hf : Fresh wr w') => holds_any _ At _ ct x.d.tr x.d.node w' (HLs.out.2.1.keep ((HW.out.1.trans hf).weaken fun _ _ _ => trivial)) rfl hft
      obtain ⟨q, hq⟩ : ∃ q, q = x.d.tr.contains x.d.node := ⟨_, rfl⟩
      rw [← hq] at hHo HR1
      have HHo := Lib.hid hHo
      have HF := Lib.hid HW.out.1
      have hsb := H2.out.1.fresh HW.out.1
      have s1 := hsb.i1; have s2 := hsb.i2; have s3 := hsb.i3; have s4 := hsb.i4; have ls := hsb.blk.lt
      have hn6 := H2.out.2.2.1.keep HW.out.1 trivial
      have n0 := hn6.cell 0; have n1 := hn6.cell 1; have n2 := hn6.cell 2; have n3 := hn6.cell 3; have ln := hn6.lt
      simp at n0 n1 n2 n3
      have Q := fun w => eqview s.id nov w
      obtain ⟨zn, hzn⟩ : ∃ q, q = decide (s.id = nov) := ⟨_, rfl⟩
      rw [← hzn] at Q
      simp only [nov] at Q
      have HZ := Lib.hid hzn
      clear hal hri hq hHo hsb hn6 hzn m8
      go_wp2_with fail
      refine Calls.mono (HHo.out _ (Keep.refl _ _)) ?_
      rintro e w4 ⟨rfl, rfl⟩
      cases q
      · obtain rfl : R = false := by rw [HR1.out, if_pos (.inl rfl)]
        go_wp2_with fail
        go_ret
        exact ⟨rfl, H2.out.2.2.2.trans HF.out⟩
      · have hbr : (zn = true ∧ x.d.tr.length ≠ 1) ∨ ¬ (zn = true ∧ x.d.tr.length ≠ 1) := Classical.em _
        by_cases hbr : zn = true ∧ x.d.tr.length ≠ 1
        · obtain ⟨rfl, h1⟩ := hbr
          obtain rfl : R = false := by rw [HR1.out, if_pos (.inr ⟨of_decide_eq_true HZ.out.symm, h1⟩)]
          have hb1 : ((x.d.tr.length : Int) != 1) = true := by simpa using (show ¬ (x.d.tr.length : Int) = 1 by omega)
          go_wp2_with fail
          go_ret
          exact ⟨rfl, H2.out.2.2.2.trans HF.out⟩
        · have HR2 : Hid (R = (instD (dsOf hs) x.d.id).all (bothB x.d.who s.id x.d.tr)) := Lib.hid (by
            rw [HR1.out, if_neg]
            rintro (a | ⟨a, b⟩)
            · cases a
            · exact hbr ⟨by rw [HZ.out]; exact decide_eq_true a, b⟩)
          go_upto_region 9 with (fail)
          go_cut [70] (fun s70 wb => s70 = .bool false ∧ wb = wr)
          case first =>
            cases zn
            · go_wp2_with fail
              go_meet
              exact ⟨rfl, rfl⟩
            · have h1 : x.d.tr.length = 1 := Classical.not_not.1 fun a => hbr ⟨rfl, a⟩
              have hb1 : ((x.d.tr.length : Int) != 1) = false := by rw [h1]; decide
              clear h1
              go_wp2_with fail
              go_meet
              exact ⟨rfl, rfl⟩
          case rest =>
          obtain ⟨rfl, rfl⟩ := hcut
          rename World => w3
          have H3 := Lib.hid (And.intro (H2.out.1.fresh HF.out) (And.intro (MkB.mk (H2.out.2.1.blk.keep HF.out trivial) : MkB w3 b5 x) (And.intro (H2.out.2.2.1.keep HF.out trivial) (H2.out.2.2.2.trans HF.out))))
          have HL3 := Lib.hid (And.intro HLs.out.1 (And.intro (HLs.out.2.1.keep (HF.out.weaken fun _ _ _ => trivial)) HLs.out.2.2.1))
          clear HW Q s1 s2 s3 s4 ls n0 n1 n2 n3 ln m9 m2 lm HR HR1 HHo hbr HZ H2 HLs HF
          go_wp2_with fail
          go_loopw [11] (fun kv wr => ∃ k : Nat, k ≤ n ∧ kv = .int .i64 (k : Int) ∧ Hid (Fresh w3 wr ∧ (instD (dsOf (hs.take k)) x.d.id).all (bothB x.d.who s.id x.d.tr) = true)) (fun i _ => n - (intOf i).toNat)
          case atStart => exact ⟨0, Nat.zero_le _, rfl, Lib.hid ⟨Keep.refl _ _, rfl⟩⟩
          case round =>
            rename World => wr
            obtain ⟨k, hk, rfl, HW⟩ := hrel
            by_cases hlt : k < n
            · have hMr := HM.out.1.fresh (H3.out.2.2.2.trans HW.out.1)
              obtain ⟨b, o, y, rfl, hat⟩ := hMr.at1 hlt
              have HA := Lib.hid hat
              have hmb : MkB wr b5 x := ⟨H3.out.2.1.blk.keep HW.out.1 trivial⟩
              have hsb := H3.out.1.fresh HW.out.1
              have c1 := hat.kind; have c2 := hat.node; have c3 := hat.inc; have c4 := hat.e1; have c5 := hat.e2; have c6 := hat.e3; have c7 := hat.e4
              have m4 := hmb.e1; have m5 := hmb.e2; have m6 := hmb.e3; have m7 := hmb.e4
              have lm := hmb.blk.lt
              obtain ⟨U, hU⟩ : ∃ U, U = stanD (y.d.node, y.d.inc) (dsOf (hs.take k)) := ⟨_, rfl⟩
              have HU := Lib.hid hU
              have HSt := Lib.hid (fun w' (hf : Fresh wr w') => hU ▸ stand_any (some ⟨b, o, none⟩) k c (hs.take k) y.d.node y.d.inc w' ((hMr.fresh hf).take hk).m ((hMr.fresh hf).take hk).ok)
              have hkc : k ≤ c := by omega
              clear hU
              have Q := fun w => neview y.d.id x.d.id w
              obtain ⟨r, hr⟩ : ∃ r, r = decide (y.d.id ≠ x.d.id) := ⟨_, rfl⟩
              rw [← hr] at Q
              simp only [MarkD.id] at Q
              obtain ⟨zk, hzk⟩ : ∃ z, z = y.d.kind := ⟨_, rfl⟩
              rw [← hzk] at c1
              have hii : isInst x.d.id y.d = (decide (zk = 7) && !r) := by
                unfold isInst
                rw [hzk, hr]
                simp
              have HI := Lib.hid hii
              have HS0 := Lib.hid (And.intro HW.out.2 hsb)
              have HF0 := Lib.hid HW.out.1
              clear hat hmb hr hzk hii HW hMr hsb
              by_cases k7 : zk = 7
              · subst k7
                cases r
                · go_wp2_with fail
                  go_quiet (fail)
                  rename_i nq
                  go_upto_region 15 with (fail)
                  generalize hw4 : World.drewN wr nq = w4
                  have hf40 : Fresh wr w4 := hw4 ▸ (Keep.refl _ wr).drewN nq
                  clear hw4
                  have HKS : Hid (∀ w', Fresh wr w' → (w'.cell? ⟨b, o + k * 26 + 2, none⟩ = some (.int .i64 y.d.node) ∧ w'.cell? ⟨b, o + k * 26 + 3, none⟩ = some (.int .i64 y.d.inc))) := Lib.hid (fun w' hf => ⟨hf.cellAt c2 trivial, hf.cellAt c3 trivial⟩)
                  have HF4 := Lib.hid hf40
                  have HSz := Lib.hid hf40.size
                  go_cut [12] (fun s9 wb => ∃ b9 : Nat, s9 = .pointer (some ⟨b9, 0, none⟩) ∧ Hid (Fresh wr wb ∧ ∃ vu, StB wb b9 U vu))
                  case first =>
                    clear c1 c2 c3 c4 c5 c6 c7 m4 m5 m6 m7 lm Q hf40
                    refine wp_region_held_drew (S := fun w' => w'.cell? ⟨b, o + k * 26 + 2, none⟩ = some (.int .i64 y.d.node) ∧ w'.cell? ⟨b, o + k * 26 + 3, none⟩ = some (.int .i64 y.d.inc)) (by kernel_rfl) (HKS.out _ HF4.out.drew) (fun hHeld => ?_)
                    refine wpAnyH_take (i := 0) (v := .slice (some ⟨b, o, none⟩) n c) rfl (by kernel_rfl) (by kernel_rfl) (by kernel_rfl) (fun _ _ _ h => h) (Or.inl ⟨by rfl, by intro w hSw; go_simp⟩) hHeld ?_
                    simp only [Act.put, List.setIfInBounds_toArray, List.set_cons_zero, List.set_cons_succ]
                    refine wpAnyH_take (i := 1) (v := .int .i64 (k : Int)) rfl (by kernel_rfl) (by kernel_rfl) (by kernel_rfl) (fun _ _ _ h => h) (Or.inl ⟨by rfl, by intro w hSw; go_simp⟩) hHeld ?_
                    simp only [Act.put, List.setIfInBounds_toArray, List.set_cons_zero, List.set_cons_succ]
                    refine wpAnyH_take (i := 2) (v := .slice (some ⟨b, o, none⟩) k c) rfl (by kernel_rfl) (by kernel_rfl) (by kernel_rfl) (fun _ _ _ h => h) (Or.inl ⟨by rfl, by intro w hSw; go_simp⟩) hHeld ?_
                    simp only [Act.put, List.setIfInBounds_toArray, List.set_cons_zero, List.set_cons_succ]
                    refine wpAnyH_take (i := 3) (v := .slice (some ⟨b, o, none⟩) n c) rfl (by kernel_rfl) (by kernel_rfl) (by kernel_rfl) (fun _ _ _ h => h) (Or.inl ⟨by rfl, by intro w hSw; go_simp⟩) hHeld ?_
                    simp only [Act.put, List.setIfInBounds_toArray, List.set_cons_zero, List.set_cons_succ]
                    refine wpAnyH_take (i := 4) (v := .int .i64 (k : Int)) rfl (by kernel_rfl) (by kernel_rfl) (by kernel_rfl) (fun _ _ _ h => h) (Or.inl ⟨by rfl, by intro w hSw; go_simp⟩) hHeld ?_
                    simp only [Act.put, List.setIfInBounds_toArray, List.set_cons_zero, List.set_cons_succ]
                    refine wpAnyH_take (i := 5) (v := .pointer (some ⟨b, o + k * 26, none⟩)) rfl (by kernel_rfl) (by kernel_rfl) (by kernel_rfl) (fun _ _ _ h => h) (Or.inl ⟨by rfl, by intro w hSw; go_simp⟩) hHeld ?_
                    simp only [Act.put, List.setIfInBounds_toArray, List.set_cons_zero, List.set_cons_succ]
                    refine wpAnyH_take (i := 6) (v := .pointer (some ⟨b, o + k * 26 + 2, none⟩)) rfl (by kernel_rfl) (by kernel_rfl) (by kernel_rfl) (fun _ _ _ h => h) (Or.inl ⟨by rfl, by intro w hSw; go_simp⟩) hHeld ?_
                    simp only [Act.put, List.setIfInBounds_toArray, List.set_cons_zero, List.set_cons_succ]
                    refine wpAnyH_take (i := 7) (v := .int .i64 y.d.node) rfl (by kernel_rfl) (by kernel_rfl) (by kernel_rfl) (fun _ _ _ h => h) (Or.inl ⟨by rfl, by intro w hSw; go_simp⟩) hHeld ?_
                    simp only [Act.put, List.setIfInBounds_toArray, List.set_cons_zero, List.set_cons_succ]
                    refine wpAnyH_take (i := 8) (v := .slice (some ⟨b, o, none⟩) n c) rfl (by kernel_rfl) (by kernel_rfl) (by kernel_rfl) (fun _ _ _ h => h) (Or.inl ⟨by rfl, by intro w hSw; go_simp⟩) hHeld ?_
                    simp only [Act.put, List.setIfInBounds_toArray, List.set_cons_zero, List.set_cons_succ]
                    refine wpAnyH_take (i := 9) (v := .int .i64 (k : Int)) rfl (by kernel_rfl) (by kernel_rfl) (by kernel_rfl) (fun _ _ _ h => h) (Or.inl ⟨by rfl, by intro w hSw; go_simp⟩) hHeld ?_
                    simp only [Act.put, List.setIfInBounds_toArray, List.set_cons_zero, List.set_cons_succ]
                    refine wpAnyH_take (i := 10) (v := .pointer (some ⟨b, o + k * 26, none⟩)) rfl (by kernel_rfl) (by kernel_rfl) (by kernel_rfl) (fun _ _ _ h => h) (Or.inl ⟨by rfl, by intro w hSw; go_simp⟩) hHeld ?_
                    simp only [Act.put, List.setIfInBounds_toArray, List.set_cons_zero, List.set_cons_succ]
                    refine wpAnyH_take (i := 11) (v := .pointer (some ⟨b, o + k * 26 + 3, none⟩)) rfl (by kernel_rfl) (by kernel_rfl) (by kernel_rfl) (fun _ _ _ h => h) (Or.inl ⟨by rfl, by intro w hSw; go_simp⟩) hHeld ?_
                    simp only [Act.put, List.setIfInBounds_toArray, List.set_cons_zero, List.set_cons_succ]
                    refine wpAnyH_take (i := 12) (v := .int .i64 y.d.inc) rfl (by kernel_rfl) (by kernel_rfl) (by kernel_rfl) (fun _ _ _ h => h) (Or.inl ⟨by rfl, by intro w hSw; go_simp⟩) hHeld ?_
                    simp only [Act.put, List.setIfInBounds_toArray, List.set_cons_zero, List.set_cons_succ]
                    refine wpAnyH_ready (rs := [13, 14]) (by kernel_rfl) (by simp) ?_
                    refine AllReadyH.cons rfl (fun K hK => ?_) (AllReadyH.cons rfl (fun K hK => ?_) AllReadyH.nil)
                    · go_simp
                      (with_reducible refine Calls.mono (HSt.out _ HF4.out.drew) ?_)
                      rintro e wa ⟨⟨vu, rfl, hvu, -⟩, hfa0⟩
                      have HVo : Hid (vu.oneCell' = true) := Lib.hid (by obtain ⟨_, _, rfl, _⟩ := hvu; rfl)
                      clear hvu
                      have hfa : Fresh wr wa := HF4.out.drew.trans hfa0
                      clear hfa0
                      go_wp2_with fail
                      refine hK.out _ _ (HKS.out _ hfa) (fun hHeld => ?_)
                      clear hK K
                      try simp only [Act.put, List.setIfInBounds_toArray, List.set_cons_zero, List.set_cons_succ]
                      refine wpAnyH_ready (rs := [14]) (by kernel_rfl) (by simp) ?_
                      refine AllReadyH.cons rfl (fun K hK => ?_) AllReadyH.nil
                      go_simp
                      refine hK.out _ _ (HKS.out _ (hfa.alloc _)) (fun hHeld => ?_)
                      clear hK K
                      try simp only [Act.put, List.setIfInBounds_toArray, List.set_cons_zero, List.set_cons_succ]
                      have hz : Blk (wa.alloc (.cells (stanV ⟨false, false, nov, nov, [], 0, 0, 0, 0, 0⟩ (.slice none 0 0)) 87)) wa.heap.size 87 (stanV ⟨false, false, nov, nov, [], 0, 0, 0, 0, 0⟩ (.slice none 0 0)) := Blk.new _ _ _
                      have hsz := hfa.size
                      refine wpAnyH_ready (rs := [15]) (by kernel_rfl) (by simp) ?_
                      refine AllReadyH.cons rfl (fun K hK => ?_) AllReadyH.nil
                      rw [if_pos (by rfl)]
                      refine wp_store_mid _ _ _ rfl wa.heap.size 0 (stanV U vu) rfl rfl hz.there (by kernel_rfl) (stan_one _ _ HVo.out) ?_
                      have hfs : Fresh wr (World.setCells (wa.alloc (.cells (stanV ⟨false, false, nov, nov, [], 0, 0, 0, 0, 0⟩ (.slice none 0 0)) 87)) wa.heap.size 0 (stanV U vu).toList) := Keep.setCells _ _ _ (hfa.alloc _) (fun h _ => by have := hsz; omega)
                      refine hK.out _ _ (HKS.out _ hfs) (fun hHeld => ?_)
                      clear hK K
                      try simp only [Act.put, List.setIfInBounds_toArray, List.set_cons_zero, List.set_cons_succ]
                      refine wpAnyH_done (by kernel_rfl) ?_ _
                      go_wp2_with fail
                      go_meet
                      exact ⟨_, rfl, Lib.hid ⟨hfs, vu, ⟨blk_whole hz rfl⟩⟩⟩
                    · go_simp
                      refine hK.out _ _ (HKS.out _ ((HF4.out.alloc _).drew)) (fun hHeld => ?_)
                      clear hK K
                      try simp only [Act.put, List.setIfInBounds_toArray, List.set_cons_zero, List.set_cons_succ]
                      refine wpAnyH_ready (rs := [13]) (by kernel_rfl) (by simp) ?_
                      refine AllReadyH.cons rfl (fun K hK => ?_) AllReadyH.nil
                      go_simp
                      (with_reducible refine Calls.mono (HSt.out _ ((HF4.out.alloc _).drew)) ?_)
                      rintro e wa ⟨⟨vu, rfl, hvu, -⟩, hfa0⟩
                      have HVo : Hid (vu.oneCell' = true) := Lib.hid (by obtain ⟨_, _, rfl, _⟩ := hvu; rfl)
                      clear hvu
                      have hfa : Fresh wr wa := (HF4.out.alloc _).drew.trans hfa0
                      have hz : Blk wa w4.heap.size 87 (stanV ⟨false, false, nov, nov, [], 0, 0, 0, 0, 0⟩ (.slice none 0 0)) := Blk.keep (Blk.drew (Blk.new w4 87 (stanV ⟨false, false, nov, nov, [], 0, 0, 0, 0, 0⟩ (.slice none 0 0)))) hfa0 trivial
                      have hsz := HF4.out.size
                      clear hfa0
                      go_wp2_with fail
                      refine hK.out _ _ (HKS.out _ hfa) (fun hHeld => ?_)
                      clear hK K
                      try simp only [Act.put, List.setIfInBounds_toArray, List.set_cons_zero, List.set_cons_succ]
                      refine wpAnyH_ready (rs := [15]) (by kernel_rfl) (by simp) ?_
                      refine AllReadyH.cons rfl (fun K hK => ?_) AllReadyH.nil
                      rw [if_pos (by rfl)]
                      refine wp_store_mid _ _ _ rfl w4.heap.size 0 (stanV U vu) rfl rfl hz.there (by kernel_rfl) (stan_one _ _ HVo.out) ?_
                      have hfs : Fresh wr (World.setCells wa w4.heap.size 0 (stanV U vu).toList) := Keep.setCells _ _ _ hfa (fun h _ => by have := hsz; omega)
                      refine hK.out _ _ (HKS.out _ hfs) (fun hHeld => ?_)
                      clear hK K
                      try simp only [Act.put, List.setIfInBounds_toArray, List.set_cons_zero, List.set_cons_succ]
                      refine wpAnyH_done (by kernel_rfl) ?_ _
                      go_wp2_with fail
                      go_meet
                      exact ⟨_, rfl, Lib.hid ⟨hfs, vu, ⟨blk_whole hz rfl⟩⟩⟩
                  case rest =>
                  rename World => w6
                  obtain ⟨b9, rfl, HC6⟩ := hcut
                  obtain ⟨hf06, vu, hu6⟩ := HC6.out
                  have hs06 := HS0.out.2.fresh hf06
                  have u1 := hu6.i1; have u2 := hu6.i2; have u3 := hu6.i3; have u4 := hu6.i4; have lu := hu6.blk.lt
                  have s1 := hs06.i1; have s2 := hs06.i2; have s3 := hs06.i3; have s4 := hs06.i4; have ls := hs06.blk.lt
                  have hn6 := H3.out.2.2.1.keep (HF0.out.trans hf06) trivial
                  have n0 := hn6.cell 0; have n1 := hn6.cell 1; have n2 := hn6.cell 2; have n3 := hn6.cell 3; have ln := hn6.lt
                  simp at n0 n1 n2 n3
                  have hmb6 : MkB w6 b5 x := ⟨H3.out.2.1.blk.keep (HF0.out.trans hf06) trivial⟩
                  have m9 := hmb6.vt.trans (congrArg some HL3.out.1)
                  have m2 := hmb6.node
                  have lm6 := hmb6.blk.lt
                  have c2 := hf06.cellAt c2 trivial
                  obtain ⟨Ay, cy, hvy, -, -, hry⟩ := HA.out.ok.t
                  have c9 := hf06.cellAt (HA.out.vt.trans (congrArg some hvy)) trivial
                  have hH1 := fun (w' : World) (hf : Fresh w6 w') => holds_any _ At _ ct x.d.tr y.d.node w' (HL3.out.2.1.keep (((HF0.out.trans hf06).trans hf).weaken fun _ _ _ => trivial)) rfl hft
                  have hH2 := fun (w' : World) (hf : Fresh w6 w') => holds_any _ Ay _ cy y.d.tr x.d.node w' (hry.keep ((hf06.trans hf).weaken fun _ _ _ => trivial)) rfl HA.out.fit.t
                  obtain ⟨qa, hqa⟩ : ∃ q, q = x.d.tr.contains y.d.node := ⟨_, rfl⟩
                  obtain ⟨qb, hqb⟩ : ∃ q, q = y.d.tr.contains x.d.node := ⟨_, rfl⟩
                  rw [← hqa] at hH1
                  rw [← hqb] at hH2
                  have HH := Lib.hid (And.intro hH1 hH2)
                  have H6 := Lib.hid hf06
                  have Q1 := fun w => neview s.id nov w
                  obtain ⟨zn, hzn⟩ : ∃ q, q = decide (s.id ≠ nov) := ⟨_, rfl⟩
                  rw [← hzn] at Q1
                  simp only [nov] at Q1
                  have Q2 := fun w => eqview U.id s.id w
                  obtain ⟨e1, he1⟩ : ∃ q, q = decide (U.id = s.id) := ⟨_, rfl⟩
                  rw [← he1] at Q2
                  have hg : bothB x.d.who s.id x.d.tr ⟨y.d.who, (stanD y.d.who (dsOf (hs.take k))).id, y.d.tr, (stanD y.d.who (dsOf (hs.take k))).del⟩ = ((qa == (zn && e1)) && (qb == (zn && e1))) := by
                    unfold bothB
                    rw [show stanD y.d.who (dsOf (hs.take k)) = U from HU.out.symm, he1, hzn, hqa, hqb]
                    rfl
                  have HG := Lib.hid hg
                  have good : ∀ w', Fresh w6 w' → ((qa == (zn && e1)) && (qb == (zn && e1))) = true → Hid (Fresh w3 w' ∧ (instD (dsOf (hs.take (k + 1))) x.d.id).all (bothB x.d.who s.id x.d.tr) = true) := fun w' hf hb => Lib.hid ⟨(HF0.out.trans H6.out).trans hf, by rw [inst_all_snoc HA.out.at_, HS0.out.1, HI.out, HG.out, hb]; rfl⟩
                  have HGood := Lib.hid good
                  have bad : ((qa == (zn && e1)) && (qb == (zn && e1))) = false → R = false := fun hb => by rw [HR2.out]; exact inst_all_false HA.out.at_ _ _ (by rw [HI.out]; rfl) (by rw [HG.out, hb])
                  have HBad := Lib.hid bad
                  clear hf06 hu6 hs06 HC6 c1 c3 c4 c5 c6 c7 m4 m5 m6 m7 lm Q HSt hf40 HKS HF4 HSz hn6 hmb6 hvy hry hH1 hH2 hqa hqb hzn he1 hg good bad
                  go_upto_region 16 with (fail)
                  go_cut [13] (fun s13 wb => s13 = .bool (zn && e1) ∧ wb = w6)
                  case first =>
                    cases zn
                    · go_wp2_with fail
                      go_meet
                      exact ⟨rfl, rfl⟩
                    · go_wp2_with fail
                      go_meet
                      exact ⟨rfl, rfl⟩
                  case rest =>
                  obtain ⟨rfl, rfl⟩ := hcut
                  obtain ⟨wt, hwt⟩ : ∃ q, q = (zn && e1) := ⟨_, rfl⟩
                  rw [← hwt] at HGood HBad ⊢
                  clear hwt Q1 Q2 n0 n1 n2 n3 ln s1 s2 s3 s4 ls u1 u2 u3 u4 lu
                  go_upto_region 17 with (fail)
                  refine wp_region_still_tail 7 (by kernel_rfl) (by kernel_rfl) ?_
                  simp only [List.take_succ_cons, List.take_zero, List.drop_succ_cons, List.drop_zero]
                  repeat still_step
                  refine wpStill_nil ?_
                  change wpList _ _ _ _ _ (World.drew _)
                  go_wp2_with fail
                  refine Calls.mono (HH.out.1 _ ((Keep.refl _ _).drew)) ?_
                  rintro e _ ⟨rfl, rfl⟩
                  go_wp2_with fail
                  go_upto_region 18 with (fail)
                  generalize hw7 : World.drew _ = w7
                  have hf7 : Fresh _ w7 := hw7 ▸ (Keep.refl (fun _ => True) _).drew
                  have c9 := hf7.cellAt c9 trivial; have m2 := hf7.cellAt m2 trivial
                  have lm7 : b5 < w7.heap.size := Nat.lt_of_lt_of_le lm6 hf7.size
                  have HF7 := Lib.hid hf7
                  clear hw7 hf7
                  refine wp_region_still_tail 7 (by kernel_rfl) (by kernel_rfl) ?_
                  simp only [List.take_succ_cons, List.take_zero, List.drop_succ_cons, List.drop_zero]
                  repeat still_step
                  refine wpStill_nil ?_
                  change wpList _ _ _ _ _ w7.drew
                  go_wp2_with fail
                  refine Calls.mono (HH.out.2 _ (HF7.out.drew)) ?_
                  rintro e _ ⟨rfl, rfl⟩
                  have hend : ((qa == wt) && (qb == wt)) = true ∨ ((qa == wt) && (qb == wt)) = false := by cases ((qa == wt) && (qb == wt)); exact .inr rfl; exact .inl rfl
                  have HEnd := Lib.hid hend
                  clear hend
                  cases qa <;> cases qb <;> cases wt
                  all_goals first
                    | (obtain rfl : R = false := HBad.out rfl
                       go_wp2_with fail
                       go_ret
                       exact ⟨rfl, (H3.out.2.2.2.trans (HF0.out.trans H6.out)).trans (HF7.out.drew)⟩)
                    | (have HE := Lib.hid (fun w' hf => HGood.out w' hf rfl)
                       go_wp2_with fail
                       exact ⟨⟨k + 1, by omega, by simp, HE.out _ (HF7.out.drew)⟩, by simp [intOf]; omega⟩)
                · have HE := Lib.hid (fun w' (hf : Fresh wr w') => And.intro (HF0.out.trans hf) (show (instD (dsOf (hs.take (k + 1))) x.d.id).all (bothB x.d.who s.id x.d.tr) = true by rw [inst_all_snoc HA.out.at_, HS0.out.1, HI.out]; simp))
                  go_wp2_with fail
                  go_quiet (fail)
                  go_wp2_with fail
                  exact ⟨⟨k + 1, by omega, by simp, Lib.hid (HE.out _ ((Keep.refl _ _).drewN _))⟩, by simp [intOf]; omega⟩
              · have b7 : (zk != 7) = true := by simpa using k7
                have HE := Lib.hid (fun w' (hf : Fresh wr w') => And.intro (HF0.out.trans hf) (show (instD (dsOf (hs.take (k + 1))) x.d.id).all (bothB x.d.who s.id x.d.tr) = true by rw [inst_all_snoc HA.out.at_, HS0.out.1, HI.out]; simp [k7]))
                go_wp2_with fail
                go_quiet (fail)
                go_wp2_with fail
                exact ⟨⟨k + 1, by omega, by simp, Lib.hid (HE.out _ ((Keep.refl _ _).drewN _))⟩, by simp [intOf]; omega⟩
            · obtain rfl : k = n := by omega
              obtain rfl : R = true := by rw [HR2.out, ← HW.out.2, dsOf_all HM.out.1.m.len]
              have HF := Lib.hid HW.out.1
              clear HW HR2
              go_wp2_with fail
              go_ret
              exact ⟨rfl, H3.out.2.2.2.trans HF.out⟩

end Go.Proofs.Ytfpcmleeehciaaa
namespace Go.Proofs.Ytfpcmleeehciaaa
set_option linter.unusedVariables false
set_option linter.unusedSimpArgs false
open Go.RowKit Go.Shelf

theorem headM_at {l : List MemD} (h : 0 < l.length) : headM l = l[0] := by
  cases l with
  | nil => cases h
  | cons a r => rfl
theorem risB_of2 : ∀ {l : List Int}, (∀ j (hj : j + 1 < l.length), l[j] < l[j + 1]) → risB l = true
  | [], _ => rfl
  | [a], _ => rfl
  | a :: b :: r, h => by
    unfold risB
    rw [decide_eq_true (show a < b from h 0 (by simp)), Bool.true_and]
    exact risB_of2 fun j hj => h (j + 1) (by simpa using hj)
set_option maxRecDepth 20000 in
set_option maxHeartbeats 4000000 in
theorem rule2_any (s : StanD) (vm : Value) (x : MkV) (w : World) (hx : MkA w x) :
    Calls Try.prog 56 #[.agg (stanV s vm), .agg x.cells.toArray] w fun e w' => e = .returned (.bool (rule2D s x.d)) ∧ Fresh w w' := by
  have HM := Lib.hid hx
  clear hx
  obtain ⟨R, hR⟩ : ∃ R, R = rule2D s x.d := ⟨_, rfl⟩
  rw [← hR]
  have HR := Lib.hid hR
  clear hR
  go_enter Try.func56, Try.ntmps56
  go_upto_region 1 with (fail)
  obtain ⟨w1, hw1⟩ : ∃ w1, w1 = (w.alloc (.cells (stanV s vm) 87)).alloc (.cells x.cells.toArray 50) := ⟨_, rfl⟩
  obtain ⟨b3, hb3⟩ : ∃ b, b = w.heap.size + 1 := ⟨_, rfl⟩
  obtain ⟨b2, hb2⟩ : ∃ b, b = w.heap.size := ⟨_, rfl⟩
  rw [← hw1, ← hb3, ← hb2]
  have h2 := two_boxes w s vm x
  rw [← hw1, ← hb3, ← hb2] at h2
  have H1 := Lib.hid h2
  clear h2 hw1 hb3 hb2
  obtain ⟨Am, cm, hvm, -, -, hrm⟩ := (HM.out.fresh H1.out.2.2).ok.m
  have HLs := Lib.hid (And.intro hvm hrm)
  have hfm := HM.out.fit.m
  have m8 := H1.out.2.1.vm.trans (congrArg some hvm)
  have lm := H1.out.2.1.blk.lt
  obtain ⟨N, hN⟩ : ∃ N, N = x.d.mem.length := ⟨_, rfl⟩
  rw [← hN] at m8 hfm
  have HN := Lib.hid hN
  clear hvm hrm hN
  have hcs : N = 0 ∨ (¬ N = 0 ∧ 16 < N) ∨ (¬ N = 0 ∧ ¬ 16 < N) := by omega
  rcases hcs with h0 | ⟨h0, h16⟩ | ⟨h0, h16⟩
  · subst h0
    obtain rfl : R = false := by
      rw [HR.out]
      unfold rule2D
      exact if_pos (.inl (List.length_eq_zero_iff.1 HN.out.symm))
    go_wp2_with fail
    go_ret
    exact ⟨rfl, H1.out.2.2⟩
  · obtain rfl : R = false := by
      rw [HR.out]
      unfold rule2D
      exact if_pos (.inr (by rw [← HN.out]; exact h16))
    have q1 : ¬ ((N : Int) < 1) := by omega
    have q2 : (16 : Int) < (N : Int) := by omega
    go_wp2_with fail
    go_ret
    exact ⟨rfl, H1.out.2.2⟩
  · have q1 : ¬ ((N : Int) < 1) := by omega
    have q2 : ¬ ((16 : Int) < (N : Int)) := by omega
    have HR1 : Hid (R = if (x.d.mem.all fitB && risB (x.d.mem.map (·.p))) = false then false else if ¬ memI x.d.mem x.d.node < x.d.mem.length ∨ (x.d.mem.getD (memI x.d.mem x.d.node) ⟨0, 0, 0⟩).i ≠ x.d.inc then false else decide (s.id.1 < x.d.e1 ∧ x.d.e2 = (headM x.d.mem).p ∧ x.d.e3 = (headM x.d.mem).i ∧ x.d.e4 = (headM x.d.mem).c)) := Lib.hid (by
      rw [HR.out]
      unfold rule2D
      refine if_neg ?_
      rintro (a | a)
      · rw [a] at HN; exact h0 HN.out
      · rw [← HN.out] at a; exact h16 a)
    clear HR
    go_wp2_with fail
    have Hh0 := Lib.hid (And.intro h0 h16)
    clear q1 q2 h0 h16 m8 lm
    go_loopw [5] (fun kv wr => ∃ k : Nat, k ≤ N ∧ kv = .int .i64 (k : Int) ∧ Hid (Fresh w1 wr ∧ (x.d.mem.take k).all fitB = true ∧ ∀ j (hj : j + 1 < x.d.mem.length), j + 1 < k → x.d.mem[j].p < x.d.mem[j + 1].p)) (fun i _ => N - (intOf i).toNat)
    case atStart => exact ⟨0, Nat.zero_le _, rfl, Lib.hid ⟨Keep.refl _ _, rfl, fun j _ h => by omega⟩⟩
    case round =>
      rename World => wr
      obtain ⟨k, hk, rfl, HW⟩ := hrel
      have hmb : MkB wr b3 x := ⟨H1.out.2.1.blk.keep HW.out.1 trivial⟩
      have m8 := hmb.vm.trans (congrArg some HLs.out.1)
      rw [← HN.out] at m8
      have m2 := hmb.node; have m3 := hmb.inc
      have lm := hmb.blk.lt
      by_cases hlt : k < N
      · have hkl : k < x.d.mem.length := by rw [← HN.out]; exact hlt
        obtain ⟨b, o, rfl, -, hr⟩ := Rd.range mem_three (HLs.out.2.keep (HW.out.1.weaken fun _ _ _ => trivial)) hkl hkl
        obtain ⟨y, hy⟩ : ∃ y, y = x.d.mem[k] := ⟨_, rfl⟩
        rw [← hy] at hr
        obtain ⟨yp, hyp⟩ : ∃ z, z = y.p := ⟨_, rfl⟩
        obtain ⟨yi, hyi⟩ : ∃ z, z = y.i := ⟨_, rfl⟩
        obtain ⟨yc, hyc⟩ : ∃ z, z = y.c := ⟨_, rfl⟩
        have c0 : wr.cell? ⟨b, o + k * 3, none⟩ = some (.int .i64 yp) := hyp ▸ hr 0 _ rfl
        have c1 : wr.cell? ⟨b, o + k * 3 + 1, none⟩ = some (.int .i64 yi) := hyi ▸ hr 1 _ rfl
        have c2 : wr.cell? ⟨b, o + k * 3 + 2, none⟩ = some (.int .i64 yc) := hyc ▸ hr 2 _ rfl
        have hprev : k = 0 ∨ ∃ (j : Nat) (tj : Int), k = j + 1 ∧ wr.cell? ⟨b, o + j * 3, none⟩ = some (.int .i64 tj) ∧ Hid (∃ hj : j < x.d.mem.length, tj = x.d.mem[j].p) := by
          rcases Nat.eq_zero_or_pos k with h0 | h0
          · exact .inl h0
          · obtain ⟨j, rfl⟩ : ∃ j, k = j + 1 := ⟨k - 1, by omega⟩
            have hj : j < x.d.mem.length := by omega
            obtain ⟨b', o', e, -, hr'⟩ := Rd.range mem_three (HLs.out.2.keep (HW.out.1.weaken fun _ _ _ => trivial)) hj hj
            injection e with e
            injection e with e1 e2
            subst e1 e2
            exact .inr ⟨j, x.d.mem[j].p, rfl, hr' 0 _ rfl, Lib.hid ⟨hj, rfl⟩⟩
        have hfit : fitB y = decide (0 ≤ yp ∧ yp < 16 ∧ 0 < yi ∧ 0 < yc) := by rw [hyp, hyi, hyc]; rfl
        have hall : (x.d.mem.take (k + 1)).all fitB = fitB y := by
          rw [List.take_succ_eq_append_getElem hkl, List.all_append, HW.out.2.1, hy]
          simp
        have bad1 : fitB y = false → R = false := fun hb => by
          rw [HR1.out]
          refine if_pos ?_
          have : x.d.mem.all fitB = false := List.all_eq_false.2 ⟨_, List.getElem_mem hkl, by rw [← hy, hb]; decide⟩
          rw [this]; rfl
        have bad2 : (∃ j, ∃ hj : j < x.d.mem.length, k = j + 1 ∧ yp ≤ x.d.mem[j].p) → R = false := fun ⟨j, hj, hkj, hb⟩ => by
          rw [HR1.out]
          refine if_pos ?_
          have : risB (x.d.mem.map (·.p)) = false := Bool.eq_false_iff.2 fun a => by
            have hp := risB_pair a
            subst hkj
            have := List.pairwise_iff_getElem.1 hp j (j + 1) (by simpa using hj) (by simpa using hkl) (by omega)
            simp only [List.getElem_map] at this
            rw [← hy, ← hyp] at this
            omega
          rw [this, Bool.and_false]
        have HK := Lib.hid (And.intro hfit (And.intro hall (And.intro bad1 bad2)))
        have HF := Lib.hid HW.out.1
        have HP := Lib.hid hprev
        have HYP := Lib.hid (show ∃ hl : k < x.d.mem.length, yp = x.d.mem[k].p from ⟨hkl, by rw [hyp, hy]⟩)
        have HW3 := Lib.hid HW.out.2.2
        clear hr hy hyp hyi hyc hfit hall bad1 bad2 hprev HW hmb m2 m3 hkl
        have hcs : yp < 0 ∨ (¬ yp < 0 ∧ 16 ≤ yp) ∨ (¬ yp < 0 ∧ ¬ 16 ≤ yp ∧ yi < 1) ∨ (¬ yp < 0 ∧ ¬ 16 ≤ yp ∧ ¬ yi < 1 ∧ yc < 1) ∨ (¬ yp < 0 ∧ ¬ 16 ≤ yp ∧ ¬ yi < 1 ∧ ¬ yc < 1) := by omega
        go_upto_region 7 with (fail)
        obtain ⟨b6, hb6⟩ : ∃ b, b = wr.heap.size := ⟨_, rfl⟩
        rw [← hb6]
        generalize hw4 : World.alloc wr _ = w4
        have hf4 : Fresh wr w4 := hw4 ▸ (Keep.refl _ wr).alloc _
        have hb4 : Blk w4 b6 55 #[.int .i64 yp, .int .i64 yi, .int .i64 yc] := by rw [← hw4, hb6]; exact Blk.new wr _ _
        have d0 := hb4.cell 0; have d1 := hb4.cell 1; have d2 := hb4.cell 2; have l6 := hb4.lt
        simp at d0 d1 d2
        have m8 := hf4.cellAt m8 trivial
        have lm4 : b3 < w4.heap.size := Nat.lt_of_lt_of_le lm hf4.size
        have HF4 := Lib.hid hf4
        clear hb6 hw4 hb4 c0 c1 c2
        rcases hcs with h | ⟨n1, h⟩ | ⟨n1, n2, h⟩ | ⟨n1, n2, n3, h⟩ | ⟨n1, n2, n3, n4⟩
        iterate 4
          · obtain rfl : R = false := HK.out.2.2.1 (by rw [HK.out.1]; exact decide_eq_false (by omega))
            clear hf4
            go_quiet (fail)
            go_wp2_with fail
            go_ret
            exact ⟨rfl, ((H1.out.2.2.trans HF.out).trans HF4.out).drewN _⟩
        have HY := Lib.hid (show fitB y = true by rw [HK.out.1]; exact decide_eq_true ⟨by omega, by omega, by omega, by omega⟩)
        rcases HP.out with rfl | ⟨j, tj, rfl, tj0, HJ⟩
        · clear hf4
          go_quiet (fail)
          go_wp2_with fail
          exact ⟨⟨0 + 1, by omega, by simp, Lib.hid ⟨(HF.out.trans HF4.out).drewN _, by rw [HK.out.2.1, HY.out], fun j _ h => by omega⟩⟩, by simp [intOf]; omega⟩
        · have tj0 := hf4.cellAt tj0 trivial
          have hjl : j < N := by omega
          have wj : IntKind.i64.wrap (((j + 1 : Nat) : Int) - 1) = (j : Int) := by rw [IntWalk.i64_in _ (by omega)]; try omega
          have wj2 : IntKind.i64.wrap (((j : Int) + 1) - 1) = (j : Int) := by rw [IntWalk.i64_in _ (by omega)]; try omega
          have hj0 : (0 : Int) < (j : Int) + 1 := by omega
          by_cases hle2 : yp ≤ tj
          · obtain rfl : R = false := HK.out.2.2.2 (by
              obtain ⟨hj, e⟩ := HJ.out
              exact ⟨j, hj, rfl, by rw [← e]; exact hle2⟩)
            clear hf4
            go_quiet (fail)
            go_wp2_with fail
            go_ret
            exact ⟨rfl, ((H1.out.2.2.trans HF.out).trans HF4.out).drewN _⟩
          · have HL2 := Lib.hid hle2
            clear hf4
            go_quiet (fail)
            go_wp2_with fail
            refine ⟨⟨j + 1 + 1, by omega, by simp, Lib.hid ⟨(HF.out.trans HF4.out).drewN _, by rw [HK.out.2.1, HY.out], fun i hi h => ?_⟩⟩, by simp [intOf]; omega⟩
            rcases Nat.lt_succ_iff_lt_or_eq.1 (show i < j + 1 by omega) with h1 | h1
            · exact HW3.out i hi (by omega)
            · subst h1
              obtain ⟨hj, e⟩ := HJ.out
              obtain ⟨hl, e2⟩ := HYP.out
              have := HL2.out
              rw [← e, ← e2]
              omega
      · obtain rfl : k = N := by omega
        have hal : x.d.mem.all fitB = true := by have := HW.out.2.1; rwa [HN.out, List.take_of_length_le (Nat.le_refl _)] at this
        have hri : risB (x.d.mem.map (·.p)) = true := risB_of2 fun j hj => by
          simp only [List.getElem_map]
          have hj' : j + 1 < x.d.mem.length := by simpa using hj
          exact HW.out.2.2 j hj' (by rw [HN.out]; exact hj')
        obtain ⟨xn, hxn⟩ : ∃ z, z = x.d.node := ⟨_, rfl⟩
        obtain ⟨xi, hxi⟩ : ∃ z, z = x.d.inc := ⟨_, rfl⟩
        rw [← hxn] at m2; rw [← hxi] at m3
        have HR2 : Hid (R = if ¬ memI x.d.mem xn < x.d.mem.length ∨ (x.d.mem.getD (memI x.d.mem xn) ⟨0, 0, 0⟩).i ≠ xi then false else decide (s.id.1 < x.d.e1 ∧ x.d.e2 = (headM x.d.mem).p ∧ x.d.e3 = (headM x.d.mem).i ∧ x.d.e4 = (headM x.d.mem).c)) := Lib.hid (by
          rw [HR1.out, hxn, hxi, hal, hri]
          rfl)
        have HAm := Lib.hid (among_any _ Am k cm x.d.mem xn wr (HN.out ▸ HLs.out.2.keep (HW.out.1.weaken fun _ _ _ => trivial)) HN.out.symm hfm)
        have HF := Lib.hid HW.out.1
        have hrd := HLs.out.2.keep (HW.out.1.weaken fun _ _ _ => trivial)
        have HRd := Lib.hid hrd
        have m4 := hmb.e1; have m5 := hmb.e2; have m6 := hmb.e3; have m7 := hmb.e4
        have hsb := H1.out.1.fresh HW.out.1
        have s1 := hsb.i1; have ls := hsb.blk.lt
        clear hal hri hxn hxi HR1 HW hmb hrd hsb
        go_wp2_with fail
        refine Calls.mono HAm.out ?_
        rintro e w4 ⟨rfl, rfl⟩
        clear HAm
        by_cases hq : memI x.d.mem xn < x.d.mem.length
        · obtain ⟨q, hqd⟩ : ∃ q, q = memI x.d.mem xn := ⟨_, rfl⟩
          have hiz : idxZ (fun y : MemD => decide (y.p = xn)) x.d.mem = (q : Int) := by
            unfold idxZ
            rw [hqd]
            exact if_pos hq
          rw [hiz]
          rw [← hqd] at hq HR2
          obtain ⟨b, o, rfl, -, hr⟩ := Rd.range mem_three HRd.out hq hq
          have h0k : 0 < x.d.mem.length := by omega
          obtain ⟨b', o', e, -, hr0⟩ := Rd.range mem_three HRd.out h0k h0k
          injection e with e
          injection e with e1 e2
          subst e1 e2
          obtain ⟨y, hy⟩ : ∃ y, y = x.d.mem[q] := ⟨_, rfl⟩
          rw [← hy] at hr
          have hgy : x.d.mem.getD q ⟨0, 0, 0⟩ = y := by rw [hy, List.getD_eq_getElem?_getD, List.getElem?_eq_getElem hq]; rfl
          rw [hgy] at HR2
          obtain ⟨f0, hf0⟩ : ∃ y, y = x.d.mem[0] := ⟨_, rfl⟩
          have hhd : headM x.d.mem = f0 := by rw [hf0]; exact headM_at h0k
          rw [hhd] at HR2
          rw [← hf0] at hr0
          obtain ⟨yi, hyi⟩ : ∃ z, z = y.i := ⟨_, rfl⟩
          have c1 : wr.cell? ⟨b, o + q * 3 + 1, none⟩ = some (.int .i64 yi) := hyi ▸ hr 1 _ rfl
          have g0 : wr.cell? ⟨b, o, none⟩ = some (.int .i64 f0.p) := by simpa using hr0 0 _ rfl
          have g1 : wr.cell? ⟨b, o + 1, none⟩ = some (.int .i64 f0.i) := by simpa using hr0 1 _ rfl
          have g2 : wr.cell? ⟨b, o + 2, none⟩ = some (.int .i64 f0.c) := by simpa using hr0 2 _ rfl
          rw [← hyi] at HR2
          have hqk : q < k := by rw [HN.out]; exact hq
          have hk0 : 0 < k := by omega
          have hnq : ¬ ((q : Int) < 0) := by omega
          clear hr hr0 hy hgy hf0 hhd hyi hq hqd hiz h0k
          by_cases hi : yi = xi
          · subst hi
            have HR3 : Hid (R = decide (s.id.1 < x.d.e1 ∧ x.d.e2 = f0.p ∧ x.d.e3 = f0.i ∧ x.d.e4 = f0.c)) := Lib.hid (by
              rw [HR2.out, if_neg]
              rintro (a | a)
              · exact a (by rw [← HN.out]; exact hqk)
              · exact a rfl)
            clear HR2
            obtain ⟨z1, hz1⟩ : ∃ z, z = s.id.1 := ⟨_, rfl⟩
            obtain ⟨y1, hy1⟩ : ∃ z, z = x.d.e1 := ⟨_, rfl⟩
            obtain ⟨y2, hy2⟩ : ∃ z, z = x.d.e2 := ⟨_, rfl⟩
            obtain ⟨y3, hy3⟩ : ∃ z, z = x.d.e3 := ⟨_, rfl⟩
            obtain ⟨y4, hy4⟩ : ∃ z, z = x.d.e4 := ⟨_, rfl⟩
            obtain ⟨fp, hfp⟩ : ∃ z, z = f0.p := ⟨_, rfl⟩
            obtain ⟨fi, hfi⟩ : ∃ z, z = f0.i := ⟨_, rfl⟩
            obtain ⟨fc, hfc⟩ : ∃ z, z = f0.c := ⟨_, rfl⟩
            rw [← hz1] at s1; rw [← hy1] at m4; rw [← hy2] at m5; rw [← hy3] at m6; rw [← hy4] at m7; rw [← hfp] at g0; rw [← hfi] at g1; rw [← hfc] at g2
            rw [← hz1, ← hy1, ← hy2, ← hy3, ← hy4, ← hfp, ← hfi, ← hfc] at HR3
            clear hz1 hy1 hy2 hy3 hy4 hfp hfi hfc
            have hk0i : (0 : Int) < (k : Int) := by omega
            go_upto_region 10 with (fail)
            go_quiet (fail)
            rename_i nq
            go_upto_region 12 with (fail)
            generalize hw5 : World.drewN wr nq = w5
            have hf5 : Fresh wr w5 := hw5 ▸ (Keep.refl _ wr).drewN nq
            have m8 := hf5.cellAt m8 trivial; have g0 := hf5.cellAt g0 trivial; have g1 := hf5.cellAt g1 trivial; have g2 := hf5.cellAt g2 trivial
            have m4 := hf5.cellAt m4 trivial; have m5 := hf5.cellAt m5 trivial; have m6 := hf5.cellAt m6 trivial; have m7 := hf5.cellAt m7 trivial; have s1 := hf5.cellAt s1 trivial
            have lm : b3 < w5.heap.size := Nat.lt_of_lt_of_le lm hf5.size
            have ls : b2 < w5.heap.size := Nat.lt_of_lt_of_le ls hf5.size
            have HF5 := Lib.hid hf5
            clear hw5 hf5
            by_cases d1 : z1 < y1
            · by_cases d2 : y2 = fp
              · subst d2
                by_cases d3 : y3 = fi
                · subst d3
                  by_cases d4 : y4 = fc
                  · subst d4
                    obtain rfl : R = true := by rw [HR3.out]; exact decide_eq_true ⟨d1, rfl, rfl, rfl⟩
                    go_wp2_with fail
                    go_ret
                    exact ⟨rfl, ((H1.out.2.2.trans HF.out).trans HF5.out).alloc _⟩
                  · have b4 : (y4 == fc) = false := by simpa using d4
                    obtain rfl : R = false := by rw [HR3.out]; exact decide_eq_false (by rintro ⟨_, _, _, h⟩; exact d4 h)
                    clear d4
                    go_wp2_with fail
                    go_ret
                    exact ⟨rfl, ((H1.out.2.2.trans HF.out).trans HF5.out).alloc _⟩
                · have b3' : (y3 == fi) = false := by simpa using d3
                  obtain rfl : R = false := by rw [HR3.out]; exact decide_eq_false (by rintro ⟨_, _, h, _⟩; exact d3 h)
                  clear d3
                  go_wp2_with fail
                  go_ret
                  exact ⟨rfl, ((H1.out.2.2.trans HF.out).trans HF5.out).alloc _⟩
              · have b2' : (y2 == fp) = false := by simpa using d2
                obtain rfl : R = false := by rw [HR3.out]; exact decide_eq_false (by rintro ⟨_, h, _, _⟩; exact d2 h)
                clear d2
                go_wp2_with fail
                go_ret
                exact ⟨rfl, ((H1.out.2.2.trans HF.out).trans HF5.out).alloc _⟩
            · obtain rfl : R = false := by rw [HR3.out]; exact decide_eq_false (by rintro ⟨h, _, _, _⟩; exact d1 h)
              go_wp2_with fail
              go_ret
              exact ⟨rfl, ((H1.out.2.2.trans HF.out).trans HF5.out).alloc _⟩
          · have hbi : (yi != xi) = true := by simpa using hi
            obtain rfl : R = false := by
              rw [HR2.out]
              exact if_pos (.inr hi)
            go_wp2_with fail
            go_quiet (fail)
            go_wp2_with fail
            go_ret
            exact ⟨rfl, (H1.out.2.2.trans HF.out).drewN _⟩
        · have hiz : idxZ (fun y : MemD => decide (y.p = xn)) x.d.mem = -1 := by
            unfold idxZ
            exact if_neg hq
          obtain rfl : R = false := by
            rw [HR2.out]
            exact if_pos (.inl hq)
          rw [hiz]
          go_wp2_with fail
          go_quiet (fail)
          go_wp2_with fail
          go_ret
          exact ⟨rfl, (H1.out.2.2.trans HF.out).drewN _⟩
end Go.Proofs.Ytfpcmleeehciaaa
