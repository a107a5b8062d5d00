/-
  MERGED: RSvB RSvC RSvD
-/
import Derived.Test.YtohnmaindbgngaaGreatDoorE3
import Derived.Test.YtohnmaindbgngaaGreatDoorD6
import Derived.Test.YtohnmaindbgngaaGreatDoorQX
namespace Go.Proofs.YtohnmaindbgngaaGreatDoor
set_option linter.unusedVariables false
set_option linter.unusedSimpArgs false
open Go.RowKit Go.Shelf

/-! ### the document's machine and its footprint -/
structure DatS (B : Nat) (w : World) (F : Nat → Prop) (d : Nat) (s : StD) : Prop where
  ex : ∃ pv hv hs, DAt B F w d pv hv hs s
  lo : ∀ j, F j → B ≤ j
  hi : ∀ j, F j → j < w.heap.size
  inv : Inv s
theorem DatS.fresh {B : Nat} {w w' : World} {F : Nat → Prop} {d : Nat} {s : StD} (h : DatS B w F d s) (hk : Fresh w w') : DatS B w' F d s := by
  obtain ⟨pv, hv, hs, hd⟩ := h.ex
  exact ⟨⟨pv, hv, hs, hd.fresh hk⟩, h.lo, fun j hj => Nat.lt_of_lt_of_le (h.hi j hj) hk.size, h.inv⟩
theorem dat_new (w : World) : Calls Tryz.prog 96 #[] w fun e w' => (∃ d F, e = .returned (.pointer (some ⟨d, 0, none⟩)) ∧ DatS w.heap.size w' F d newD) ∧ Fresh w w' := by
  refine (dnew_any w).mono ?_
  rintro e w' ⟨⟨d, rfl, hd, h1, h2⟩, hf⟩
  exact ⟨⟨d, _, rfl, ⟨⟨_, _, _, hd⟩, fun j hj => by rw [hj]; exact h1, fun j hj => by rw [hj]; exact h2, inv_new⟩⟩, hf⟩
theorem dat_apply {W w : World} (hT : Tabs W) (hf : Fresh W w) {F : Nat → Prop} {d : Nat} {s : StD} (h : DatS W.heap.size w F d s) (c i r o : Int) (k v ol : Txt) :
    Calls Tryz.prog 97 #[.pointer (some ⟨d, 0, none⟩), cmdV c i r o k v ol] w fun e w' =>
      e = .returned (resV (applyD c i r o k v ol s).1) ∧ (∃ F' : Nat → Prop, DatS W.heap.size w' F' d (applyD c i r o k v ol s).2) ∧ Fresh W w' := by
  obtain ⟨pv, hv, hs, hd⟩ := h.ex
  have key : ∀ w', Keep (fun j => ¬ F j) w w' → Fresh W w' := fun w' hk => hf.comp hk (fun _ _ _ => trivial) (fun j hj _ e => by have := h.lo j e; omega)
  refine (dappl_any hd h.inv h.hi hf.size (fun w' hk => hT.fresh (key w' hk)) c i r o k v ol).mono ?_
  rintro e w' ⟨he, ⟨pv', hv', hs', F2, hd2, hF2⟩, hk⟩
  refine ⟨he, ⟨_, ⟨⟨pv', hv', hs', hd2.tight⟩, fun j hj => ?_, fun j hj => hj.2, applyD_invS h.inv⟩⟩, key w' hk⟩
  rcases hF2 j hj.1 with h1 | h1
  · exact h.lo j h1
  · exact Nat.le_trans hf.size h1

/-! ### the plain side of rule 27 -/
noncomputable def ok27 (l : List MarkD) (m : MarkD) (i : Nat) : Bool := decide (i < (histD l).length) || decide ((runRs newD (histD (l ++ [m])))[i]? = hres (l ++ [m]) ((i : Int) + 1))
theorem rrule27_eq (l : List MarkD) (m : MarkD) : rrule27 l m = (List.range (histD (l ++ [m])).length).all (ok27 l m) := rfl
theorem ok27_snoc {l : List MarkD} {m : MarkD} {i : Nat} (h : (List.range i).all (ok27 l m) = true) (hi : ok27 l m i = true) : (List.range (i + 1)).all (ok27 l m) = true := by
  rw [List.range_succ, List.all_append, h]
  simp [hi]
theorem ok27_not {l : List MarkD} {m : MarkD} {i n : Nat} (hn : i < n) (hi : ok27 l m i = false) : (List.range n).all (ok27 l m) = false := by
  rw [List.all_eq_false]
  exact ⟨i, List.mem_range.2 hn, by rw [hi]; decide⟩
theorem ok27_same {l : List MarkD} {m : MarkD} (h : (histD (l ++ [m])).length = (histD l).length) : rrule27 l m = true := by
  rw [rrule27_eq, List.all_eq_true]
  intro i hi
  have := List.mem_range.1 hi
  unfold ok27
  rw [decide_eq_true (by omega), Bool.true_or]
/-- What a place of the history says. -/
theorem hist_mark {ds : List MarkD} {i : Nat} (hi : i < (histD ds).length) : ∃ y, hmark ds ((i : Int) + 1) = some y ∧ y.cmd = (histD ds)[i] := by
  have h1 := (histD_is ds).1 i hi
  rw [hfind_mark] at h1
  cases hm : hmark ds ((i : Int) + 1) with
  | none => rw [hm] at h1; cases h1
  | some y =>
    rw [hm] at h1
    exact ⟨y, rfl, Option.some.inj h1⟩
theorem runRs_at (cs : List CmdD) {i : Nat} (hi : i < cs.length) : (runRs newD cs)[i]? = some (cs[i].apply (runSt newD (cs.take i))).1 := by
  have h1 : ∀ (cs : List CmdD) (st : StD) (i : Nat) (hi : i < cs.length), (runRs st cs)[i]? = some (cs[i].apply (runSt st (cs.take i))).1 := by
    intro cs
    induction cs with
    | nil => intro st i hi; cases hi
    | cons c t ih =>
      intro st i hi
      cases i with
      | zero => rfl
      | succ i => exact ih (c.apply st).2 i (by simpa using hi)
  exact h1 cs newD i hi
theorem Mks.pre {w : World} {A : Option Addr} {m : Nat} {hs : List MkV} {x : MkV} (h : Mks w (fun _ => True) A (m + 1) (hs ++ [x])) : Mks w (fun _ => True) A m hs := by
  have hl : hs.length = m := by have := h.len; simpa using this
  have h1 := h.takeS (k := m) (by omega)
  rwa [List.take_append_of_le_length (by omega), List.take_of_length_le (by omega)] at h1
theorem dsOf_app (hs : List MkV) (x : MkV) : dsOf (hs ++ [x]) = dsOf hs ++ [x.d] := by unfold dsOf; rw [List.map_append]; rfl

set_option maxRecDepth 20000 in
set_option maxHeartbeats 4000000 in
theorem rule27_any (A : Option Addr) (m c : Nat) (hs : List MkV) (x : MkV) (w : World) (hT : Tabs w) (h : Mks w (fun _ => True) A (m + 1) (hs ++ [x])) (hnc : m + 1 ≤ c) :
    Calls Tryz.prog 64 #[.slice A (m + 1) c] w fun e w' => e = .returned (.bool (rrule27 (dsOf hs) x.d)) ∧ Fresh w w' := by
  have HM := Lib.hid h
  have HT := Lib.hid hT
  have hle := h.le
  have HH1 := Lib.hid (rhist_any (fun _ => True) A m c hs w h.pre)
  have HH2 := Lib.hid (fun w' (hf : Fresh w w') => rhist_any (fun _ => True) A (m + 1) c (hs ++ [x]) w' (h.keep hf))
  rw [dsOf_app] at HH2
  obtain ⟨l, hl⟩ : ∃ l, l = dsOf hs := ⟨_, rfl⟩
  have HD : Hid (dsOf (hs ++ [x]) = l ++ [x.d]) := Lib.hid (by rw [dsOf_app, hl])
  rw [← hl] at HH1 HH2 ⊢
  obtain ⟨R, hR⟩ : ∃ R, R = rrule27 l x.d := ⟨_, rfl⟩
  rw [← hR]
  have HR := Lib.hid hR
  clear h hT hR hl
  go_enter Tryz.func64, Tryz.ntmps64
  go_wp2_with fail
  refine Calls.mono HH1.out ?_
  rintro e w1 ⟨⟨v1, cs1, rfl, hi1, hl1, ho1⟩, hf1⟩
  obtain ⟨A1, c1, rfl, -, -⟩ := own_rd ho1
  have HE1 := Lib.hid (histD_eq hi1)
  have HC2 := Lib.hid (HH2.out w1 hf1)
  have HF1 := Lib.hid hf1
  clear hi1 ho1 hf1 HH1 HH2
  go_wp2_with fail
  refine Calls.mono HC2.out ?_
  rintro e w2 ⟨⟨v2, cs2, rfl, hi2, hl2, ho2⟩, hf2⟩
  obtain ⟨A2, c2, rfl, -, -⟩ := own_rd ho2
  have HE2 := Lib.hid (histD_eq hi2)
  have HF2 := Lib.hid (HF1.out.trans hf2)
  clear hi2 ho2 hf2 HC2 HF1
  by_cases hEq : cs2.length = cs1.length
  · have b1 : ((cs2.length : Int) == (cs1.length : Int)) = true := by rw [hEq]; simp
    obtain rfl : R = true := by rw [HR.out]; exact ok27_same (by rw [← HE2.out, ← HE1.out, hEq])
    clear hEq
    go_wp2_with fail
    go_ret
    exact ⟨rfl, HF2.out⟩
  have b1 : ((cs2.length : Int) == (cs1.length : Int)) = false := by
    rw [beq_eq_false_iff_ne]
    exact fun e => hEq (by omega)
  have HNw := Lib.hid (dat_new w2)
  clear hEq
  go_wp2_with fail
  refine Calls.mono HNw.out ?_
  rintro e w3 ⟨⟨d, F0, rfl, hd3⟩, hf3⟩
  have HW3 := Lib.hid (And.intro hd3 hf3)
  clear hd3 hf3 HNw b1
  go_wp2_with fail
  go_loopw [6] (fun iv wr => ∃ i : Nat, i ≤ cs2.length ∧ iv = .int .i64 ((i : Int) + 1) ∧ Hid ((∃ F, DatS w2.heap.size wr F d (runSt newD (cs2.take i))) ∧ Fresh w2 wr ∧ (List.range i).all (ok27 l x.d) = true)) (fun i _ => cs2.length + 1 - (intOf i).toNat)
  case atStart => exact ⟨0, Nat.zero_le _, rfl, Lib.hid ⟨⟨F0, HW3.out.1⟩, HW3.out.2, rfl⟩⟩
  case round =>
    rename World => wr
    obtain ⟨i, hi, rfl, HW⟩ := hrel
    by_cases hlt : i < cs2.length
    · have hmk : ∃ y, hmark (l ++ [x.d]) ((i : Int) + 1) = some y ∧ y.cmd = cs2[i] := by
        obtain ⟨y, hy, he⟩ := hist_mark (ds := l ++ [x.d]) (i := i) (by rw [← HE2.out]; exact hlt)
        refine ⟨y, hy, ?_⟩
        rw [he]
        have := HE2.out
        subst this
        rfl
      have HMk := Lib.hid hmk
      have HC := Lib.hid (rfirst_any (fun _ => True) A (m + 1) c (hs ++ [x]) ((i : Int) + 1) wr (HM.out.keep (HF2.out.trans HW.out.2.1)))
      clear hmk
      go_wp2_with fail
      refine Calls.mono HC.out ?_
      rintro e _ ⟨⟨r, rfl, hr⟩, rfl⟩
      clear HC
      rw [HD.out] at hr
      obtain ⟨y0, hy0, hyc⟩ := HMk.out
      rcases hr with ⟨-, hn⟩ | ⟨k, hk, rfl, hk1⟩
      · rw [hn] at hy0
        cases hy0
      have hkn : k < m + 1 := by rw [← HM.out.len]; exact hk
      obtain ⟨b, o, y, hA, ⟨hyl, hyy⟩, hry0⟩ := HM.out.ints hkn
      subst hA
      have hry := rangeAt_keep hry0 (HF2.out.trans HW.out.2.1) trivial
      have hyd : y0 = y.d := by
        rw [hk1] at hy0
        rw [hyy]
        exact (Option.some.inj hy0).symm
      obtain ⟨⟨F1, hdat⟩, hf2r, hok⟩ := HW.out
      obtain ⟨cd, hcd⟩ : ∃ cd, cd = y.d.cmd := ⟨_, rfl⟩
      obtain ⟨RR, hRR⟩ : ∃ R, R = cd.apply (runSt newD (cs2.take i)) := ⟨_, rfl⟩
      obtain ⟨⟨rc, rv, rn⟩, st'⟩ := RR
      have hA := dat_apply (HT.out.fresh HF2.out) hf2r hdat cd.c cd.i cd.r cd.o cd.k cd.v cd.d
      have hR2 : applyD cd.c cd.i cd.r cd.o cd.k cd.v cd.d (runSt newD (cs2.take i)) = (⟨rc, rv, rn⟩, st') := hRR.symm
      rw [hR2] at hA
      have HA := Lib.hid hA
      have HCm : Hid (wr.rangeAt b (o + k * 26 + 15) cd.cells) := Lib.hid (by rw [hcd]; exact range_cmd hry)
      have HRy := Lib.hid hry0
      have hcs : cd = cs2[i] := by rw [hcd, ← hyd, hyc]
      have HSt : Hid (runSt newD (cs2.take (i + 1)) = st') := Lib.hid (by
        rw [List.take_succ_eq_append_getElem hlt, runSt_snoc, ← hcs, ← hRR])
      have HOk : Hid (ok27 l x.d i = (decide (i < cs1.length) || decide ((⟨rc, rv, rn⟩ : ResD) = y.d.res))) := Lib.hid (by
        unfold ok27 hres
        rw [← HE1.out, ← HE2.out, runRs_at cs2 hlt, ← hcs, ← hRR, hy0, hyd]
        simp)
      have HLast := Lib.hid hok
      have l7 := cmd_seven cd
      have hkm : (k : Int) < ((m + 1 : Nat) : Int) := by omega
      clear hk1 hy0 hyc hyd hyy hyl hdat hf2r hok hcd hRR hR2 hA hcs hry hry0 HMk hk
      go_wp2_with (refine wpList_load_mid rfl 43 _ rfl b (o + k * 26 + 15) rfl cd.cells _ HCm.out Tryz.underlying43 rfl (by kernel_rfl) ?_)
      refine Calls.mono HA.out ?_
      rintro e w4 ⟨rfl, ⟨F2, hd4⟩, hf4⟩
      have H4 := Lib.hid (And.intro hd4 hf4)
      clear hd4 hf4 HA HCm
      go_wp2_with (refine wpList_store_new rfl (.tmp 8) (.tmp 37) rfl _ (ResD.cellsR ⟨rc, rv, rn⟩).toArray _ rfl rfl rfl (by kernel_rfl) (Array.all_eq_true_iff_forall_mem.2 fun u hu => resr_one _ u (by simpa using hu)) ?_)
      intro w5 hb5 hf5 hs5
      obtain ⟨c8, hc8⟩ : ∃ b, b = w4.heap.size := ⟨_, rfl⟩
      rw [← hc8] at hb5 ⊢
      have r0 := hb5.cell 0; have r1 := hb5.cell 1; have r2 := hb5.cell 2; have lr := hb5.lt
      simp [ResD.cellsR] at r0 r1 r2
      have hr5 := rangeAt_keep HRy.out (HF2.out.trans (H4.out.2.trans hf5)) trivial
      obtain ⟨-, ⟨m1, m2, m3⟩, -⟩ := mk_cells_at hr5
      have lb := range_lt (v := .int .i64 y.d.at_) hr5
      have Q1 := fun u => neres ⟨rc, rv, rn⟩ y.d.res u
      obtain ⟨p1, hp1⟩ : ∃ p, p = decide ((⟨rc, rv, rn⟩ : ResD) ≠ y.d.res) := ⟨_, rfl⟩
      rw [← hp1] at Q1
      have HOk2 : Hid (ok27 l x.d i = (decide (i < cs1.length) || !p1)) := Lib.hid (by rw [HOk.out, hp1]; simp)
      simp only [MarkD.res] at Q1
      have HF5 := Lib.hid (And.intro (H4.out.2.trans hf5) (show ∃ F, DatS w2.heap.size w5 F d st' from ⟨F2, H4.out.1.fresh hf5⟩))
      have hk0 : (0 : Int) ≤ (k : Int) := by omega
      clear hb5 hf5 hs5 hc8 hr5 hp1 HOk H4 HRy HW
      have hnext : Hid (ok27 l x.d i = true → (∃ F, DatS w2.heap.size w5 F d (runSt newD (cs2.take (i + 1)))) ∧ Fresh w2 w5 ∧ (List.range (i + 1)).all (ok27 l x.d) = true) := Lib.hid fun e => ⟨by rw [HSt.out]; exact HF5.out.2, HF5.out.1, ok27_snoc HLast.out e⟩
      by_cases hw : cs1.length < i + 1
      · have g : decide ((cs1.length : Int) < (i : Int) + 1) = true := decide_eq_true (by omega)
        have g2 : decide (i < cs1.length) = false := decide_eq_false (by omega)
        rw [g2, Bool.false_or] at HOk2
        cases p1
        · have HN := Lib.hid (hnext.out HOk2.out)
          clear hw g2 hnext
          go_wp2_with fail
          go_quiet (fail)
          go_wp2_with fail
          exact ⟨⟨i + 1, by omega, congrArg _ (by omega), Lib.hid ⟨⟨_, HN.out.1.choose_spec.fresh ((Keep.refl _ _).drewN _)⟩, HN.out.2.1.drewN _, HN.out.2.2⟩⟩, by simp [intOf]; omega⟩
        · obtain rfl : R = false := by rw [HR.out, rrule27_eq, ← HE2.out]; exact ok27_not hlt HOk2.out
          clear hw g2 hnext
          go_wp2_with fail
          go_quiet (fail)
          go_wp2_with fail
          go_ret
          exact ⟨rfl, (HF2.out.trans HF5.out.1).drewN _⟩
      · have g : decide ((cs1.length : Int) < (i : Int) + 1) = false := decide_eq_false (by omega)
        have HN := Lib.hid (hnext.out (by rw [HOk2.out, decide_eq_true (by omega), Bool.true_or]))
        clear hw hnext
        go_wp2_with fail
        go_quiet (fail)
        go_wp2_with fail
        exact ⟨⟨i + 1, by omega, congrArg _ (by omega), Lib.hid ⟨⟨_, HN.out.1.choose_spec.fresh ((Keep.refl _ _).drewN _)⟩, HN.out.2.1.drewN _, HN.out.2.2⟩⟩, by simp [intOf]; omega⟩
    · obtain rfl : i = cs2.length := by omega
      obtain rfl : R = true := by rw [HR.out, rrule27_eq, ← HE2.out]; exact HW.out.2.2
      go_wp2_with fail
      go_ret
      exact ⟨rfl, HF2.out.trans HW.out.2.1⟩
end Go.Proofs.YtohnmaindbgngaaGreatDoor
namespace Go.Proofs.YtohnmaindbgngaaGreatDoor
set_option linter.unusedVariables false
set_option linter.unusedSimpArgs false
open Go.RowKit Go.Shelf

/-- A part in a variable. -/
structure PartB (w : World) (b : Nat) (p : RPart) (vm : Value) : Prop where
  blk : Blk w b 106 (rpartV p vm)
theorem PartB.fresh {w w' : World} {b : Nat} {p : RPart} {vm : Value} (h : PartB w b p vm) (hk : Fresh w w') : PartB w' b p vm := ⟨h.blk.keep hk trivial⟩
section
variable {w : World} {b : Nat} {p : RPart} {vm : Value} (h : PartB w b p vm)
include h
theorem PartB.e1 : w.cell? ⟨b, 0, none⟩ = some (.int .i64 p.id.1) := h.blk.cell 0
theorem PartB.e2 : w.cell? ⟨b, 1, none⟩ = some (.int .i64 p.id.2.1) := h.blk.cell 1
theorem PartB.e3 : w.cell? ⟨b, 2, none⟩ = some (.int .i64 p.id.2.2.1) := h.blk.cell 2
theorem PartB.e4 : w.cell? ⟨b, 3, none⟩ = some (.int .i64 p.id.2.2.2) := h.blk.cell 3
theorem PartB.mem : w.cell? ⟨b, 4, none⟩ = some vm := h.blk.cell 4
theorem PartB.viewed : w.cell? ⟨b, 5, none⟩ = some (.bool p.viewed) := h.blk.cell 5
theorem PartB.adopted : w.cell? ⟨b, 6, none⟩ = some (.bool p.adopted) := h.blk.cell 6
theorem PartB.asked : w.cell? ⟨b, 7, none⟩ = some (.int .i64 (p.asked : Int)) := h.blk.cell 7
theorem PartB.waits : w.cell? ⟨b, 8, none⟩ = some (.bool p.waits) := h.blk.cell 8
theorem PartB.cc : w.cell? ⟨b, 9, none⟩ = some (.int .i64 p.cmd.c) := h.blk.cell 9
theorem PartB.ci : w.cell? ⟨b, 10, none⟩ = some (.int .i64 p.cmd.i) := h.blk.cell 10
theorem PartB.cr : w.cell? ⟨b, 11, none⟩ = some (.int .i64 p.cmd.r) := h.blk.cell 11
theorem PartB.co : w.cell? ⟨b, 12, none⟩ = some (.int .i64 p.cmd.o) := h.blk.cell 12
theorem PartB.ck : w.cell? ⟨b, 13, none⟩ = some (tx p.cmd.k) := h.blk.cell 13
theorem PartB.cv : w.cell? ⟨b, 14, none⟩ = some (tx p.cmd.v) := h.blk.cell 14
theorem PartB.cd : w.cell? ⟨b, 15, none⟩ = some (tx p.cmd.d) := h.blk.cell 15
theorem PartB.last : w.cell? ⟨b, 16, none⟩ = some (.int .i64 p.last) := h.blk.cell 16
theorem PartB.since : w.cell? ⟨b, 17, none⟩ = some (.bool p.since) := h.blk.cell 17
end
theorem SlOk.one {w : World} {Z : Nat → Prop} {s n : Nat} {v : Value} {xs : List Value} (h : SlOk w Z s n v xs) : v.oneCell' = true := by
  obtain ⟨_, _, rfl, _⟩ := h
  rfl
theorem last_mark {hs : List MkV} {x y : MkV} {m : Nat} (hl : hs.length = m) (h : ∃ hl : m < (hs ++ [x]).length, y = (hs ++ [x])[m]) : y = x := by
  obtain ⟨h1, rfl⟩ := h
  subst hl
  simp
/-- The guard of rule 23. -/
theorem rbad23_eq (p : RPart) (m : MarkD) : rbad23 p m = (decide (m.n < 1) || (decide (4611686018427387904 < m.n) || (decide (m.n ≤ p.last) || (decide (0 < p.last) && (!p.since && decide (m.n ≠ p.last + 1)))))) := by
  unfold rbad23
  simp only [Bool.or_assoc, Bool.and_assoc]

set_option maxRecDepth 20000 in
set_option maxHeartbeats 4000000 in
theorem applies_any (A : Option Addr) (m c : Nat) (hs : List MkV) (x : MkV) (w : World) (hT : Tabs w) (h : Mks w (fun _ => True) A (m + 1) (hs ++ [x])) (hok : ∀ y ∈ hs ++ [x], MkOk w (fun _ => True) y) (hnc : m + 1 ≤ c) :
    Calls Tryz.prog 36 #[.slice A (m + 1) c] w fun e w' => e = .returned (.int .i64 (rapplies (dsOf hs) x.d)) ∧ Fresh w w' := by
  have HM := Lib.hid (And.intro h (And.intro h.pre hok))
  have HT := Lib.hid hT
  have hle := h.le
  have hlen : hs.length = m := h.pre.len
  obtain ⟨l, hl⟩ : ∃ l, l = dsOf hs := ⟨_, rfl⟩
  obtain ⟨R, hR⟩ : ∃ R, R = rapplies l x.d := ⟨_, rfl⟩
  rw [← hl, ← hR]
  have HR := Lib.hid hR
  obtain ⟨b, o, y, hA, hyy, hry⟩ := h.ints (k := m) (by omega)
  have hyx := last_mark hlen hyy
  rw [hyx] at hry
  subst hA
  have HRy := Lib.hid hry
  have HOne := Lib.hid (h.one x (by simp))
  have hmi : (m : Int) < ((m + 1 : Nat) : Int) := by omega
  have HLen := Lib.hid (And.intro hlen hl)
  clear h hok hT hR hyy hyx hry hlen hl y
  go_enter Tryz.func36, Tryz.ntmps36
  go_wp2_with (first | (refine wpList_load_mid rfl 51 _ rfl b (o + m * 26) rfl x.cells _ HRy.out Tryz.underlying51 rfl (by kernel_rfl) ?_) | (refine wpList_store_new rfl (.tmp 3) (.tmp 13) rfl _ x.cells.toArray _ rfl rfl rfl (by kernel_rfl) (Array.all_eq_true_iff_forall_mem.2 fun u hu => mk_one HOne.out u (by simpa using hu)) ?_))
  intro w1 hb1 hf1 hs1
  obtain ⟨c3, hc3⟩ : ∃ b, b = w.heap.size := ⟨_, rfl⟩
  rw [← hc3] at hb1 ⊢
  have H1 := Lib.hid (And.intro (MkB.mk hb1 : MkB w1 c3 x) hf1)
  have HP := Lib.hid (rpart_any (some ⟨b, o, none⟩) m c hs x.d.node x.d.inc w1 (HM.out.2.1.keep hf1) (fun y hy => (HM.out.2.2 y (List.mem_append_left _ hy)).keep hf1))
  rw [← HLen.out.2] at HP
  obtain ⟨p, hp⟩ : ∃ p, p = rpartD (x.d.node, x.d.inc) l := ⟨_, rfl⟩
  rw [← hp] at HP
  have HPd := Lib.hid hp
  have m2 := H1.out.1.node; have m3 := H1.out.1.inc; have lm := H1.out.1.blk.lt
  clear hb1 hf1 hs1 hc3 hp
  go_wp2_with fail
  refine Calls.mono HP.out ?_
  rintro e w2 ⟨⟨vm, rfl, hsl, hml⟩, hf2⟩
  have HV := Lib.hid hsl.one
  have H2 := Lib.hid (And.intro (MkB.mk (H1.out.1.blk.keep hf2 trivial) : MkB w2 c3 x) (H1.out.2.trans hf2))
  clear hsl hml hf2 HP H1 m2 m3 lm
  go_wp2_with (refine wpList_store_new rfl (.tmp 5) (.tmp 24) rfl _ (rpartV p vm) _ rfl rfl rfl (by kernel_rfl) (rpart_one p vm HV.out) ?_)
  intro w3 hb3 hf3 hs3
  obtain ⟨c5, hc5⟩ : ∃ b, b = w2.heap.size := ⟨_, rfl⟩
  rw [← hc5] at hb3 ⊢
  have H3 := Lib.hid (And.intro (MkB.mk (H2.out.1.blk.keep hf3 trivial) : MkB w3 c3 x) (And.intro (PartB.mk hb3 : PartB w3 c5 p vm) (H2.out.2.trans hf3)))
  have HB5 : Hid (c3 ≠ c5) := Lib.hid (by have := H2.out.1.blk.lt; omega)
  clear hb3 hf3 hs3 hc5 H2 HV
  have m13 := H3.out.1.n; have lm := H3.out.1.blk.lt; have p16 := H3.out.2.1.last; have p17 := H3.out.2.1.since; have lp := H3.out.2.1.blk.lt
  obtain ⟨zn, hzn⟩ : ∃ z, z = x.d.n := ⟨_, rfl⟩
  obtain ⟨zl, hzl⟩ : ∃ z, z = p.last := ⟨_, rfl⟩
  obtain ⟨zs, hzs⟩ : ∃ z, z = p.since := ⟨_, rfl⟩
  obtain ⟨q, hq⟩ : ∃ q, q = rbad23 p x.d := ⟨_, rfl⟩
  have HQ : Hid (q = (decide (zn < 1) || (decide (4611686018427387904 < zn) || (decide (zn ≤ zl) || (decide (0 < zl) && (!zs && decide (zn ≠ zl + 1))))))) := Lib.hid (by rw [hq, rbad23_eq, hzn, hzl, hzs])
  have HRest : Hid (R = if q = true then 23 else match hmark l zn with
      | some y => if y.cmd ≠ x.d.cmd ∨ y.res ≠ x.d.res then 24 else 0
      | none => if rrule25 l x.d = false then 25 else if rrule27 l x.d = false then 27 else 0) := Lib.hid (by
    rw [HR.out, hq, HPd.out, hzn]
    rfl)
  rw [← hzn] at m13; rw [← hzl] at p16; rw [← hzs] at p17
  have HZn := Lib.hid hzn
  clear hzn hzl hzs hq HR HPd
  go_upto_region 4 with (fail)
  go_cut [57] (fun s57 wx => s57 = .bool q ∧ wx = w3)
  case first =>
    by_cases a1 : zn < 1
    · have d1 : decide (zn < 1) = true := decide_eq_true a1
      have e : q = true := by rw [HQ.out, d1]; rfl
      go_wp2_with fail
      go_meet
      exact ⟨by rw [e], rfl⟩
    have d1 : decide (zn < 1) = false := decide_eq_false a1
    by_cases a2 : 4611686018427387904 < zn
    · have d2 : decide (4611686018427387904 < zn) = true := decide_eq_true a2
      have e : q = true := by rw [HQ.out, d1, d2]; rfl
      go_wp2_with fail
      go_meet
      exact ⟨by rw [e], rfl⟩
    have d2 : decide (4611686018427387904 < zn) = false := decide_eq_false a2
    by_cases a3 : zn ≤ zl
    · have d3 : decide (zn ≤ zl) = true := decide_eq_true a3
      have e : q = true := by rw [HQ.out, d1, d2, d3]; rfl
      go_wp2_with fail
      go_meet
      exact ⟨by rw [e], rfl⟩
    have d3 : decide (zn ≤ zl) = false := decide_eq_false a3
    by_cases a4 : 0 < zl
    rotate_left
    · have d4 : decide (0 < zl) = false := decide_eq_false a4
      have e : q = false := by rw [HQ.out, d1, d2, d3, d4]; rfl
      go_wp2_with fail
      go_meet
      exact ⟨by rw [e], rfl⟩
    have d4 : decide (0 < zl) = true := decide_eq_true a4
    cases zs
    rotate_left
    · have e : q = false := by rw [HQ.out, d1, d2, d3, d4]; rfl
      go_wp2_with fail
      go_meet
      exact ⟨by rw [e], rfl⟩
    have wr : IntKind.i64.wrap (zl + 1) = zl + 1 := by rw [IntWalk.i64_in _ (by omega)]
    by_cases a5 : zn = zl + 1
    · have d5 : (zn != zl + 1) = false := by simpa using a5
      have e : q = false := by rw [HQ.out, d1, d2, d3, d4, decide_eq_false (fun h : zn ≠ zl + 1 => h a5)]; rfl
      clear a5
      go_wp2_with fail
      go_meet
      exact ⟨by rw [e], rfl⟩
    · have d5 : (zn != zl + 1) = true := by simpa using a5
      have e : q = true := by rw [HQ.out, d1, d2, d3, d4, decide_eq_true a5]; rfl
      clear a5
      go_wp2_with fail
      go_meet
      exact ⟨by rw [e], rfl⟩
  case rest =>
  rename World => wx
  obtain ⟨rfl, hw⟩ := hcut
  obtain rfl : w3 = wx := hw.symm
  cases q
  rotate_left
  · obtain rfl : R = 23 := HRest.out
    go_wp2_with fail
    go_ret
    exact ⟨rfl, H3.out.2.2⟩
  have HF := Lib.hid (rfirst_any (fun _ => True) (some ⟨b, o, none⟩) m c hs zn w3 (HM.out.2.1.keep H3.out.2.2))
  rw [← HLen.out.2] at HF
  clear p16 p17
  go_wp2_with fail
  refine Calls.mono HF.out ?_
  rintro e _ ⟨⟨r, rfl, hr⟩, rfl⟩
  clear HF
  rcases hr with ⟨rfl, hn⟩ | ⟨k, hk, rfl, hk1⟩
  · have HRest2 : Hid (R = if rrule25 l x.d = false then 25 else if rrule27 l x.d = false then 27 else 0) := Lib.hid (by
      rw [HRest.out, hn]
      rfl)
    have HC := Lib.hid (rule25_any (some ⟨b, o, none⟩) m c hs x w3 (HM.out.2.1.keep H3.out.2.2))
    rw [← HLen.out.2] at HC
    have HRm := Lib.hid H3.out.1.range00
    obtain ⟨q5, hq5⟩ : ∃ q, q = rrule25 l x.d := ⟨_, rfl⟩
    rw [← hq5] at HC HRest2
    clear hn HRest hq5
    go_wp2_with (refine wpList_load_mid rfl 51 _ rfl c3 0 rfl x.cells _ HRm.out Tryz.underlying51 rfl (by kernel_rfl) ?_)
    refine Calls.mono HC.out ?_
    rintro e w5 ⟨rfl, hf5⟩
    have H5 := Lib.hid (H3.out.2.2.trans hf5)
    clear HC HRm hf5 m13 lm lp H3
    cases q5
    · obtain rfl : R = 25 := HRest2.out
      go_wp2_with fail
      go_ret
      exact ⟨rfl, H5.out⟩
    have HC7 := Lib.hid (rule27_any (some ⟨b, o, none⟩) m c hs x w5 (HT.out.fresh H5.out) (HM.out.1.keep H5.out) hnc)
    rw [← HLen.out.2] at HC7
    obtain ⟨q7, hq7⟩ : ∃ q, q = rrule27 l x.d := ⟨_, rfl⟩
    rw [← hq7] at HC7 HRest2
    clear hq7
    go_wp2_with fail
    refine Calls.mono HC7.out ?_
    rintro e w7 ⟨rfl, hf7⟩
    have H7 := Lib.hid (H5.out.trans hf7)
    clear HC7 hf7
    cases q7
    · obtain rfl : R = 27 := HRest2.out
      go_wp2_with fail
      go_ret
      exact ⟨rfl, H7.out⟩
    · obtain rfl : R = 0 := HRest2.out
      go_wp2_with fail
      go_ret
      exact ⟨rfl, H7.out⟩
  · have hkm : k < m := by rw [← HLen.out.1]; exact hk
    obtain ⟨b2, o2, y, hA2, ⟨hyl, hyy⟩, hry⟩ := (HM.out.2.1.keep H3.out.2.2).ints hkm
    injection hA2 with hA2
    injection hA2 with hA3 hA4
    subst hA3 hA4
    rw [← hyy] at hk1
    have HRest2 : Hid (R = if y.d.cmd ≠ x.d.cmd ∨ y.d.res ≠ x.d.res then 24 else 0) := Lib.hid (by
      rw [HRest.out, hk1]
      rfl)
    obtain ⟨-, ⟨n1, n2, n3⟩, n4, n5, n6, n7, n8, n9, n10⟩ := mk_cells_at hry
    have lb := range_lt (v := .int .i64 y.d.at_) hry
    have x1 := H3.out.1.cc; have x2 := H3.out.1.ci; have x3 := H3.out.1.cr; have x4 := H3.out.1.co; have x5 := H3.out.1.ck; have x6 := H3.out.1.cv; have x7 := H3.out.1.cd
    have x8 := H3.out.1.rc; have x9 := H3.out.1.rv; have xa := H3.out.1.rn
    have Q1 := fun u => necmd y.d.cmd x.d.cmd u
    have Q2 := fun u => neres y.d.res x.d.res u
    obtain ⟨p1, hp1⟩ : ∃ p, p = decide (y.d.cmd ≠ x.d.cmd) := ⟨_, rfl⟩
    obtain ⟨p2, hp2⟩ : ∃ p, p = decide (y.d.res ≠ x.d.res) := ⟨_, rfl⟩
    rw [← hp1] at Q1
    rw [← hp2] at Q2
    simp only [MarkD.res] at Q2
    have HRest3 : Hid (R = if p1 = true ∨ p2 = true then 24 else 0) := Lib.hid (by rw [HRest2.out, hp1, hp2]; simp only [decide_eq_true_eq])
    have hki : (k : Int) < (m : Int) := by omega
    have hk0 : (0 : Int) ≤ (k : Int) := by omega
    have HFr := Lib.hid H3.out.2.2
    clear hk1 hyl hyy hry hp1 hp2 HRest HRest2 hk m13 lp H3
    go_wp2_with fail
    cases p1
    · cases p2
      · obtain rfl : R = 0 := HRest3.out
        go_quiet (fail)
        go_wp2_with fail
        go_ret
        exact ⟨rfl, HFr.out.drewN _⟩
      · obtain rfl : R = 24 := HRest3.out
        go_quiet (fail)
        go_wp2_with fail
        go_ret
        exact ⟨rfl, HFr.out.drewN _⟩
    · obtain rfl : R = 24 := by rw [HRest3.out]; exact if_pos (.inl rfl)
      go_quiet (fail)
      go_wp2_with fail
      go_ret
      exact ⟨rfl, HFr.out.drewN _⟩
end Go.Proofs.YtohnmaindbgngaaGreatDoor
namespace Go.Proofs.YtohnmaindbgngaaGreatDoor
set_option linter.unusedVariables false
set_option linter.unusedSimpArgs false
open Go.RowKit Go.Shelf

/-! ### replies -/
theorem rplace_snoc (l : List MarkD) (m : MarkD) (c : CmdD) (h : rplace l c = none) : rplace (l ++ [m]) c = if (decide (m.kind = 12) && decide (m.cmd = c)) = true then some m else none := by
  unfold rplace at h ⊢
  rw [List.find?_append, h, Option.none_or]
  by_cases hc : (decide (m.kind = 12) && decide (m.cmd = c)) = true
  · rw [if_pos hc]
    simp only [List.find?, hc]
  · rw [if_neg hc]
    rw [Bool.not_eq_true] at hc
    simp only [List.find?, hc]
theorem rplace_more {l r : List MarkD} {c : CmdD} {x : MarkD} (h : rplace l c = some x) : rplace (l ++ r) c = some x := by
  unfold rplace at h ⊢
  rw [List.find?_append, h]
  rfl
theorem rreplies_eq (l : List MarkD) (m : MarkD) : rreplies l m = if (!(rpartD m.who l).waits || decide ((rpartD m.who l).cmd ≠ m.cmd)) = true then 28 else match rplace l m.cmd with
    | none => 28
    | some x => if decide (x.res ≠ m.res) = true then 28 else if ((histD l).length : Int) < x.n then 29 else 0 := by
  unfold rreplies
  by_cases a : (rpartD m.who l).waits = false ∨ (rpartD m.who l).cmd ≠ m.cmd
  · rw [if_pos a, if_pos (by simpa using a)]
  · rw [if_neg a, if_neg (by simpa using a)]
    cases rplace l m.cmd <;> simp
set_option maxRecDepth 20000 in
set_option maxHeartbeats 4000000 in
theorem replies_any (A : Option Addr) (n c : Nat) (hs : List MkV) (x : MkV) (w : World) (h : Mks w (fun _ => True) A n hs) (hok : ∀ y ∈ hs, MkOk w (fun _ => True) y) :
    Calls Tryz.prog 37 #[.slice A n c, .agg x.cells.toArray] w fun e w' => e = .returned (.int .i64 (rreplies (dsOf hs) x.d)) ∧ Fresh w w' := by
  have HM := Lib.hid (And.intro h hok)
  have hle := h.le
  obtain ⟨l, hl⟩ : ∃ l, l = dsOf hs := ⟨_, rfl⟩
  obtain ⟨R, hR⟩ : ∃ R, R = rreplies l x.d := ⟨_, rfl⟩
  rw [← hl, ← hR]
  have HR := Lib.hid hR
  have HL := Lib.hid hl
  clear h hok hR hl
  go_enter Tryz.func37, Tryz.ntmps37
  go_upto_region 1 with (fail)
  obtain ⟨b3, hb3⟩ : ∃ b, b = w.heap.size := ⟨_, rfl⟩
  obtain ⟨w1, hw1⟩ : ∃ w1, w1 = w.alloc (.cells x.cells.toArray 51) := ⟨_, rfl⟩
  rw [← hb3, ← hw1]
  have hf1 : Fresh w w1 := hw1 ▸ (Keep.refl _ w).alloc _
  have hm1 : MkB w1 b3 x := by rw [hw1, hb3]; exact MkB.new w x
  have H1 := Lib.hid (And.intro hm1 hf1)
  have HP := Lib.hid (rpart_any A n c hs x.d.node x.d.inc w1 (HM.out.1.keep hf1) (fun y hy => (HM.out.2 y hy).keep hf1))
  rw [← HL.out] at HP
  obtain ⟨p, hp⟩ : ∃ p, p = rpartD (x.d.node, x.d.inc) l := ⟨_, rfl⟩
  rw [← hp] at HP
  have HPd := Lib.hid hp
  have m2 := H1.out.1.node; have m3 := H1.out.1.inc; have lm := H1.out.1.blk.lt
  clear hf1 hm1 hw1 hb3 hp
  go_wp2_with fail
  refine Calls.mono HP.out ?_
  rintro e w2 ⟨⟨vm, rfl, hsl, hml⟩, hf2⟩
  have HV := Lib.hid hsl.one
  have H2 := Lib.hid (And.intro (MkB.mk (H1.out.1.blk.keep hf2 trivial) : MkB w2 b3 x) (H1.out.2.trans hf2))
  clear hsl hml hf2 HP H1 m2 m3 lm
  go_wp2_with (refine wpList_store_new rfl (.tmp 5) (.tmp 13) rfl _ (rpartV p vm) _ rfl rfl rfl (by kernel_rfl) (rpart_one p vm HV.out) ?_)
  intro w3 hb5 hf3 hs3
  obtain ⟨c5, hc5⟩ : ∃ b, b = w2.heap.size := ⟨_, rfl⟩
  rw [← hc5] at hb5 ⊢
  have H3 := Lib.hid (And.intro (MkB.mk (H2.out.1.blk.keep hf3 trivial) : MkB w3 b3 x) (And.intro (PartB.mk hb5 : PartB w3 c5 p vm) (H2.out.2.trans hf3)))
  clear hb5 hf3 hs3 hc5 H2 HV
  have x1 := H3.out.1.cc; have x2 := H3.out.1.ci; have x3 := H3.out.1.cr; have x4 := H3.out.1.co; have x5 := H3.out.1.ck; have x6 := H3.out.1.cv; have x7 := H3.out.1.cd
  have lm := H3.out.1.blk.lt
  have p8 := H3.out.2.1.waits; have p9 := H3.out.2.1.cc; have pa := H3.out.2.1.ci; have pb := H3.out.2.1.cr; have pc := H3.out.2.1.co; have pd := H3.out.2.1.ck; have pe := H3.out.2.1.cv; have pf := H3.out.2.1.cd
  have lp := H3.out.2.1.blk.lt
  have Q1 := fun u => necmd p.cmd x.d.cmd u
  obtain ⟨p1, hp1⟩ : ∃ q, q = decide (p.cmd ≠ x.d.cmd) := ⟨_, rfl⟩
  rw [← hp1] at Q1
  obtain ⟨zw, hzw⟩ : ∃ q, q = p.waits := ⟨_, rfl⟩
  rw [← hzw] at p8
  have HRest : Hid (R = if (!zw || p1) = true then 28 else match rplace l x.d.cmd with
    | none => 28
    | some y => if decide (y.res ≠ x.d.res) = true then 28 else if ((histD l).length : Int) < y.n then 29 else 0) := Lib.hid (by
    rw [HR.out, rreplies_eq, hzw, hp1, HPd.out]
    rfl)
  clear hp1 hzw HPd HR
  cases zw
  · obtain rfl : R = 28 := HRest.out
    go_wp2_with fail
    go_ret
    exact ⟨rfl, H3.out.2.2⟩
  cases p1
  rotate_left
  · obtain rfl : R = 28 := HRest.out
    go_wp2_with fail
    go_ret
    exact ⟨rfl, H3.out.2.2⟩
  have HRest2 : Hid (R = match rplace l x.d.cmd with
    | none => 28
    | some y => if decide (y.res ≠ x.d.res) = true then 28 else if ((histD l).length : Int) < y.n then 29 else 0) := Lib.hid HRest.out
  clear HRest
  go_wp2_with fail
  clear p8 p9 pa pb pc pd pe pf lp Q1 x1 x2 x3 x4 x5 x6 x7 lm
  go_loopw [6] (fun iv wr => ∃ k : Nat, k ≤ n ∧ iv = .int .i64 (k : Int) ∧ Hid (Fresh w3 wr ∧ rplace (dsOf (hs.take k)) x.d.cmd = none)) (fun i _ => n - (intOf i).toNat)
  case atStart => exact ⟨0, Nat.zero_le _, rfl, Lib.hid ⟨Keep.refl _ _, rfl⟩⟩
  case round =>
    rename World => wr
    obtain ⟨k, hk, rfl, HW⟩ := hrel
    by_cases hlt : k < n
    · obtain ⟨b, o, y, rfl, hy, hry⟩ := (HM.out.1.keep (H3.out.2.2.trans HW.out.1)).ints hlt
      obtain ⟨c1, ⟨n1, n2, n3⟩, n4, n5, n6, n7, n8, n9, n10⟩ := mk_cells_at hry
      have k13 : wr.cell? ⟨b, o + k * 26 + 13, none⟩ = some (.int .i64 y.d.n) := hry 13 _ rfl
      have lb := range_lt (v := .int .i64 y.d.at_) hry
      have hmb : MkB wr b3 x := ⟨H3.out.1.blk.keep HW.out.1 trivial⟩
      have x1 := hmb.cc; have x2 := hmb.ci; have x3 := hmb.cr; have x4 := hmb.co; have x5 := hmb.ck; have x6 := hmb.cv; have x7 := hmb.cd
      have x8 := hmb.rc; have x9 := hmb.rv; have xa := hmb.rn
      have lm := hmb.blk.lt
      have HS : Hid (rplace (dsOf (hs.take (k + 1))) x.d.cmd = if (decide (y.d.kind = 12) && decide (y.d.cmd = x.d.cmd)) = true then some y.d else none) := Lib.hid (by
        rw [dsOf_snoc hy, rplace_snoc _ _ _ HW.out.2])
      have Q1 := fun u => eqcmdS y.d.cmd x.d.cmd u
      have Q2 := fun u => neres y.d.res x.d.res u
      obtain ⟨p1, hp1⟩ : ∃ b, b = decide (y.d.cmd = x.d.cmd) := ⟨_, rfl⟩
      obtain ⟨p2, hp2⟩ : ∃ b, b = decide (y.d.res ≠ x.d.res) := ⟨_, rfl⟩
      rw [← hp1] at Q1 HS
      rw [← hp2] at Q2
      have HP2 := Lib.hid hp2
      simp only [MarkD.res] at Q2
      obtain ⟨kd, hkd⟩ : ∃ z, z = y.d.kind := ⟨_, rfl⟩
      rw [← hkd] at c1 HS
      obtain ⟨zn, hzn⟩ : ∃ z, z = y.d.n := ⟨_, rfl⟩
      rw [← hzn] at k13
      have HZn := Lib.hid hzn
      have hki : (k : Int) < (n : Int) := by omega
      have hk0 : (0 : Int) ≤ (k : Int) := by omega
      have HFr := Lib.hid (H3.out.2.2.trans HW.out.1)
      clear hry hmb hp1 hp2 hkd hy hzn
      by_cases h1 : kd = 12
      rotate_left
      · have b1 : (kd == 12) = false := by simpa using h1
        rw [decide_eq_false h1] at HS
        clear h1
        go_wp2_with fail
        go_quiet (fail)
        go_wp2_with fail
        exact ⟨⟨k + 1, by omega, congrArg _ (by omega), Lib.hid ⟨HW.out.1.drewN _, HS.out⟩⟩, by simp [intOf]; omega⟩
      subst h1
      cases p1
      · go_wp2_with fail
        go_quiet (fail)
        go_wp2_with fail
        exact ⟨⟨k + 1, by omega, congrArg _ (by omega), Lib.hid ⟨HW.out.1.drewN _, HS.out⟩⟩, by simp [intOf]; omega⟩
      have HPl : Hid (rplace l x.d.cmd = some y.d) := Lib.hid (by
        rw [HL.out, dsOf_pre hs (k + 1)]
        exact rplace_more HS.out)
      have HRest3 : Hid (R = if p2 = true then 28 else if ((histD l).length : Int) < zn then 29 else 0) := Lib.hid (by
        rw [HRest2.out, HPl.out, HP2.out, HZn.out])
      have HH := Lib.hid (fun u (hu : Fresh w u) => rhist_any (fun _ => True) (some ⟨b, o, none⟩) n c hs u (HM.out.1.keep hu))
      rw [← HL.out] at HH
      clear HS HPl HRest2 HP2 HZn
      go_wp2_with fail
      go_quiet (fail)
      go_wp2_with fail
      cases p2
      rotate_left
      · obtain rfl : R = 28 := HRest3.out
        go_quiet (fail)
        go_wp2_with fail
        go_ret
        exact ⟨rfl, HFr.out.drewN _⟩
      go_quiet (fail)
      go_wp2_with fail
      refine Calls.mono (HH.out _ (HFr.out.drewN _)) ?_
      rintro e w5 ⟨⟨v5, cs, rfl, hist, hcl, ho5⟩, hf5⟩
      obtain ⟨A5, q5, rfl, -, -⟩ := own_rd ho5
      have HE := Lib.hid (histD_eq hist)
      have k5 : w5.cell? ⟨b, o + k * 26 + 13, none⟩ = some (.int .i64 zn) := hf5.cellAt k13 trivial
      have lb5 : b < w5.heap.size := Nat.lt_of_lt_of_le lb hf5.size
      have HF5 := Lib.hid ((HFr.out.drewN _).trans hf5)
      clear hist ho5 hf5 HH c1 n1 n2 n3 n4 n5 n6 n7 n8 n9 n10 k13 lb x1 x2 x3 x4 x5 x6 x7 x8 x9 xa lm Q1 Q2
      by_cases a : (cs.length : Int) < zn
      · have d : decide ((cs.length : Int) < zn) = true := decide_eq_true a
        obtain rfl : R = 29 := by rw [HRest3.out, ← HE.out, if_neg (by decide), if_pos a]
        clear a
        go_wp2_with fail
        go_ret
        exact ⟨rfl, HF5.out⟩
      · have d : decide ((cs.length : Int) < zn) = false := decide_eq_false a
        obtain rfl : R = 0 := by rw [HRest3.out, ← HE.out, if_neg (by decide), if_neg a]
        clear a
        go_wp2_with fail
        go_ret
        exact ⟨rfl, HF5.out⟩
    · obtain rfl : k = n := by omega
      obtain rfl : R = 28 := by
        have hr := HW.out.2
        rw [dsOf_all HM.out.1.len, ← HL.out] at hr
        rw [HRest2.out, hr]
      go_wp2_with fail
      go_ret
      exact ⟨rfl, H3.out.2.2.trans HW.out.1⟩

/-! ### takes -/
theorem rtakes_eq (p : RPart) (m : MarkD) : rtakes p m = (p.adopted && (!p.waits && (m.cmd.valid && (decide (m.cmd.c = m.node) && (decide (m.cmd.i = m.inc) && decide (m.cmd.r = (p.asked : Int) + 1)))))) := by
  unfold rtakes
  simp only [Bool.and_assoc]
set_option maxRecDepth 20000 in
set_option maxHeartbeats 4000000 in
theorem takes_any (A : Option Addr) (n c : Nat) (hs : List MkV) (x : MkV) (w : World) (h : Mks w (fun _ => True) A n hs) (hok : ∀ y ∈ hs, MkOk w (fun _ => True) y) :
    Calls Tryz.prog 35 #[.slice A n c, .agg x.cells.toArray] w fun e w' => e = .returned (.bool (rtakes (rpartD x.d.who (dsOf hs)) x.d)) ∧ Fresh w w' := by
  have HM := Lib.hid (And.intro h hok)
  have hle := h.le
  obtain ⟨p, hp⟩ : ∃ p, p = rpartD (x.d.node, x.d.inc) (dsOf hs) := ⟨_, rfl⟩
  have hpl : p.asked ≤ 1048576 := by
    rw [hp]
    refine Nat.le_trans (rpart_le _ _) ?_
    unfold dsOf
    rw [List.length_map, h.len]
    exact hle
  obtain ⟨R, hR⟩ : ∃ R, R = rtakes p x.d := ⟨_, rfl⟩
  rw [show rtakes (rpartD x.d.who (dsOf hs)) x.d = R by rw [hR, hp]; rfl]
  have HR : Hid (R = (p.adopted && (!p.waits && (x.d.cmd.valid && (decide (x.d.cmd.c = x.d.node) && (decide (x.d.cmd.i = x.d.inc) && decide (x.d.cmd.r = (p.asked : Int) + 1))))))) := Lib.hid (by rw [hR, rtakes_eq])
  have HPd := Lib.hid hp
  clear h hok hR hp
  go_enter Tryz.func35, Tryz.ntmps35
  go_upto_region 1 with (fail)
  obtain ⟨b3, hb3⟩ : ∃ b, b = w.heap.size := ⟨_, rfl⟩
  obtain ⟨w1, hw1⟩ : ∃ w1, w1 = w.alloc (.cells x.cells.toArray 51) := ⟨_, rfl⟩
  rw [← hb3, ← hw1]
  have hf1 : Fresh w w1 := hw1 ▸ (Keep.refl _ w).alloc _
  have hm1 : MkB w1 b3 x := by rw [hw1, hb3]; exact MkB.new w x
  have H1 := Lib.hid (And.intro hm1 hf1)
  have HP := Lib.hid (rpart_any A n c hs x.d.node x.d.inc w1 (HM.out.1.keep hf1) (fun y hy => (HM.out.2 y hy).keep hf1))
  rw [← HPd.out] at HP
  have m2 := H1.out.1.node; have m3 := H1.out.1.inc; have lm := H1.out.1.blk.lt
  clear hf1 hm1 hw1 hb3
  go_wp2_with fail
  refine Calls.mono HP.out ?_
  rintro e w2 ⟨⟨vm, rfl, hsl, hml⟩, hf2⟩
  have HV := Lib.hid hsl.one
  have H2 := Lib.hid (And.intro (MkB.mk (H1.out.1.blk.keep hf2 trivial) : MkB w2 b3 x) (H1.out.2.trans hf2))
  clear hsl hml hf2 HP H1 m2 m3 lm
  go_wp2_with (refine wpList_store_new rfl (.tmp 5) (.tmp 12) rfl _ (rpartV p vm) _ rfl rfl rfl (by kernel_rfl) (rpart_one p vm HV.out) ?_)
  intro w3 hb5 hf3 hs3
  obtain ⟨c5, hc5⟩ : ∃ b, b = w2.heap.size := ⟨_, rfl⟩
  rw [← hc5] at hb5 ⊢
  have H3 := Lib.hid (And.intro (MkB.mk (H2.out.1.blk.keep hf3 trivial) : MkB w3 b3 x) (And.intro (PartB.mk hb5 : PartB w3 c5 p vm) (H2.out.2.trans hf3)))
  clear hb5 hf3 hs3 hc5 H2 HV
  have HCm : Hid (w3.rangeAt b3 15 x.d.cmd.cells) := Lib.hid (by
    have := H3.out.1.range00
    have h2 := range_cmd (b := b3) (o := 0) (by simpa using this)
    simpa using h2)
  have hl7 := cmd_seven x.d.cmd
  have HCk := Lib.hid (rcheck_any x.d.cmd.c x.d.cmd.i x.d.cmd.r x.d.cmd.o x.d.cmd.k x.d.cmd.v x.d.cmd.d w3)
  obtain ⟨bv, hbv⟩ : ∃ q, q = validB x.d.cmd.c x.d.cmd.i x.d.cmd.r x.d.cmd.o x.d.cmd.k x.d.cmd.v x.d.cmd.d := ⟨_, rfl⟩
  rw [← hbv] at HCk
  obtain ⟨zq, hzq⟩ : ∃ z : Int, z = if bv = true then 0 else 130 := ⟨_, rfl⟩
  rw [← hzq] at HCk
  have bq : (zq == 0) = bv := by rw [hzq]; cases bv <;> rfl
  rw [show x.d.cmd.valid = bv from hbv.symm] at HR
  have lm := H3.out.1.blk.lt
  clear hbv hzq
  go_wp2_with (refine wpList_load_mid rfl 43 _ rfl b3 15 rfl x.d.cmd.cells _ HCm.out Tryz.underlying43 rfl (by kernel_rfl) ?_)
  refine Calls.mono HCk.out ?_
  rintro e w4 ⟨rfl, hf4⟩
  have H4 := Lib.hid (And.intro (MkB.mk (H3.out.1.blk.keep hf4 trivial) : MkB w4 b3 x) (And.intro (H3.out.2.1.fresh hf4) (H3.out.2.2.trans hf4)))
  clear hf4 H3 HCk HCm lm hl7
  have m2 := H4.out.1.node; have m3 := H4.out.1.inc
  have x1 := H4.out.1.cc; have x2 := H4.out.1.ci; have x3 := H4.out.1.cr; have lm := H4.out.1.blk.lt
  have p6 := H4.out.2.1.adopted; have p7 := H4.out.2.1.asked; have p8 := H4.out.2.1.waits; have lp := H4.out.2.1.blk.lt
  obtain ⟨xn, hxn⟩ : ∃ z, z = x.d.node := ⟨_, rfl⟩
  obtain ⟨xi, hxi⟩ : ∃ z, z = x.d.inc := ⟨_, rfl⟩
  obtain ⟨yc, hyc⟩ : ∃ z, z = x.d.cmd.c := ⟨_, rfl⟩
  obtain ⟨yi, hyi⟩ : ∃ z, z = x.d.cmd.i := ⟨_, rfl⟩
  obtain ⟨yr, hyr⟩ : ∃ z, z = x.d.cmd.r := ⟨_, rfl⟩
  obtain ⟨za, hza⟩ : ∃ z, z = p.adopted := ⟨_, rfl⟩
  obtain ⟨zw, hzw⟩ : ∃ z, z = p.waits := ⟨_, rfl⟩
  obtain ⟨zk, hzk⟩ : ∃ z, z = p.asked := ⟨_, rfl⟩
  rw [← hxn] at m2; rw [← hxi] at m3; rw [← hyc] at x1; rw [← hyi] at x2; rw [← hyr] at x3
  rw [← hza] at p6; rw [← hzk] at p7 hpl; rw [← hzw] at p8
  rw [← hxn, ← hxi, ← hyc, ← hyi, ← hyr, ← hza, ← hzw, ← hzk] at HR
  have wr : IntKind.i64.wrap ((zk : Int) + 1) = (zk : Int) + 1 := by rw [IntWalk.i64_in _ (by omega)]
  have HF := Lib.hid H4.out.2.2
  clear hxn hxi hyc hyi hyr hza hzw hzk H4 HPd
  cases za
  · obtain rfl : R = false := HR.out
    go_wp2_with fail
    go_ret
    exact ⟨rfl, HF.out⟩
  cases zw
  rotate_left
  · obtain rfl : R = false := HR.out
    go_wp2_with fail
    go_ret
    exact ⟨rfl, HF.out⟩
  cases bv
  · obtain rfl : R = false := HR.out
    go_wp2_with fail
    go_ret
    exact ⟨rfl, HF.out⟩
  by_cases a1 : yc = xn
  rotate_left
  · have d1 : (yc == xn) = false := by simpa using a1
    obtain rfl : R = false := by rw [HR.out, decide_eq_false a1]; rfl
    clear a1
    go_wp2_with fail
    go_ret
    exact ⟨rfl, HF.out⟩
  have d1 : (yc == xn) = true := by simpa using a1
  by_cases a2 : yi = xi
  rotate_left
  · have d2 : (yi == xi) = false := by simpa using a2
    obtain rfl : R = false := by rw [HR.out, decide_eq_false a2, decide_eq_true a1]; rfl
    clear a1 a2
    go_wp2_with fail
    go_ret
    exact ⟨rfl, HF.out⟩
  have d2 : (yi == xi) = true := by simpa using a2
  by_cases a3 : yr = (zk : Int) + 1
  rotate_left
  · have d3 : (yr == (zk : Int) + 1) = false := by simpa using a3
    obtain rfl : R = false := by rw [HR.out, decide_eq_false a3, decide_eq_true a1, decide_eq_true a2]; rfl
    clear a1 a2 a3
    go_wp2_with fail
    go_ret
    exact ⟨rfl, HF.out⟩
  have d3 : (yr == (zk : Int) + 1) = true := by simpa using a3
  obtain rfl : R = true := by rw [HR.out, decide_eq_true a3, decide_eq_true a1, decide_eq_true a2]; rfl
  clear a1 a2 a3
  go_wp2_with fail
  go_ret
  exact ⟨rfl, HF.out⟩
end Go.Proofs.YtohnmaindbgngaaGreatDoor
