/-
  MERGED: RefW7 RefWB
-/
import Derived.Test.YtfpcmleeehciaaaR3
namespace Go.Proofs.Ytfpcmleeehciaaa
set_option linter.unusedVariables false
set_option linter.unusedSimpArgs false
open Go.RowKit Go.Shelf

/-- A stand that is handed over: its members read. -/
structure StA (w : World) (s : StanD) (vm : Value) : Prop where
  mem : SlOk w (fun _ => True) 3 s.mem.length vm (rcells MemD.cells s.mem)
  le : s.mem.length ≤ 1048576
theorem StA.fresh {w w' : World} {s : StanD} {vm : Value} (h : StA w s vm) (hk : Fresh w w') : StA w' s vm := ⟨h.mem.keep hk, h.le⟩
theorem StA.one {w : World} {s : StanD} {vm : Value} (h : StA w s vm) : vm.oneCell' = true := by
  obtain ⟨_, _, rfl, _⟩ := h.mem
  rfl
theorem upTo_le (hs : List MkV) (i : V4) (pos : Int) (x : Who) : upToN (dsOf hs) i pos x ≤ hs.length := by
  have h1 := List.countP_le_length (p := fun y => isDel x i y && decide (y.pos ≤ pos)) (l := dsOf hs)
  rw [dsOf_len] at h1
  exact h1
set_option maxRecDepth 20000 in
set_option maxHeartbeats 4000000 in
theorem rule10_any (A : Option Addr) (n c : Nat) (hs : List MkV) (s : StanD) (vm : Value) (x : MkV) (w : World) (h : MksA w A n hs) (hx : MkA w x) (hv : StA w s vm) :
    Calls Try.prog 32 #[.slice A n c, .agg (stanV s vm), .agg x.cells.toArray] w fun e w' => e = .returned (.bool (rule10D (dsOf hs) s x.d)) ∧ Fresh w w' := by
  have HM := Lib.hid (And.intro h (And.intro hx hv))
  have hle := h.m.le
  have hml := hv.le
  clear h hx hv
  obtain ⟨R, hR⟩ : ∃ R, R = rule10D (dsOf hs) s x.d := ⟨_, rfl⟩
  rw [← hR]
  have HR := Lib.hid hR
  clear hR
  go_enter Try.func32, Try.ntmps32
  go_upto_region 1 with (fail)
  obtain ⟨w1, hw1⟩ : ∃ w1, w1 = (w.alloc (.cells (stanV s vm) 87)).alloc (.cells x.cells.toArray 50) := ⟨_, rfl⟩
  obtain ⟨b5, hb5⟩ : ∃ b, b = w.heap.size + 1 := ⟨_, rfl⟩
  obtain ⟨b4, hb4⟩ : ∃ b, b = w.heap.size := ⟨_, rfl⟩
  rw [← hw1, ← hb5, ← hb4]
  have h2 := two_boxes w s vm x
  rw [← hw1, ← hb5, ← hb4] at h2
  have H1 := Lib.hid h2
  clear h2 hw1 hb5 hb4
  go_upto_region 2 with (fail)
  obtain ⟨b7, hb7⟩ : ∃ b, b = w1.heap.size := ⟨_, rfl⟩
  rw [← hb7]
  generalize hw2 : World.alloc w1 _ = w2
  have hf2 : Fresh w1 w2 := hw2 ▸ (Keep.refl _ w1).alloc _
  have hn2 : Blk w2 b7 41 #[.int .i64 0, .int .i64 0, .int .i64 0, .int .i64 0] := by rw [← hw2, hb7]; exact Blk.new w1 _ _
  have H2 := Lib.hid (And.intro (H1.out.1.fresh hf2) (And.intro (MkB.mk (H1.out.2.1.blk.keep hf2 trivial) : MkB w2 b5 x) (And.intro hn2 (H1.out.2.2.trans hf2))))
  clear hb7 hw2 hf2 hn2 H1
  have s1 := H2.out.1.i1; have s2 := H2.out.1.i2; have s3 := H2.out.1.i3; have s4 := H2.out.1.i4; have sb := H2.out.1.blocked; have s15 := H2.out.1.safe; have ls := H2.out.1.blk.lt
  have n0 := H2.out.2.2.1.cell 0; have n1 := H2.out.2.2.1.cell 1; have n2 := H2.out.2.2.1.cell 2; have n3 := H2.out.2.2.1.cell 3; have ln := H2.out.2.2.1.lt
  simp at n0 n1 n2 n3
  have m4 := H2.out.2.1.e1; have m5 := H2.out.2.1.e2; have m6 := H2.out.2.1.e3; have m7 := H2.out.2.1.e4; have m12 := H2.out.2.1.pos; have m2 := H2.out.2.1.node; have m3 := H2.out.2.1.inc
  have lm := H2.out.2.1.blk.lt
  have Q1 := fun w => eqview s.id nov w
  obtain ⟨z1, hz1⟩ : ∃ q, q = decide (s.id = nov) := ⟨_, rfl⟩
  rw [← hz1] at Q1
  simp only [nov] at Q1
  have Q2 := fun w => neview x.d.id s.id w
  obtain ⟨z2, hz2⟩ : ∃ q, q = decide (x.d.id ≠ s.id) := ⟨_, rfl⟩
  rw [← hz2] at Q2
  simp only [MarkD.id] at Q2
  obtain ⟨zb, hzb⟩ : ∃ q, q = s.blocked := ⟨_, rfl⟩
  rw [← hzb] at sb
  obtain ⟨zp, hzp⟩ : ∃ q, q = x.d.pos := ⟨_, rfl⟩
  rw [← hzp] at m12
  obtain ⟨zs, hzs⟩ : ∃ q, q = s.safe := ⟨_, rfl⟩
  rw [← hzs] at s15
  have HE := Lib.hid (And.intro hz1 (And.intro hz2 (And.intro hzb (And.intro hzp hzs))))
  have bad : (z1 = true ∨ z2 = true ∨ zb = true ∨ zp ≤ zs) → R = false := fun a => by
    rw [HR.out]
    unfold rule10D
    refine if_pos ?_
    rcases a with a | a | a | a
    · exact .inl (by rw [a] at hz1; exact of_decide_eq_true hz1.symm)
    · exact .inr (.inl (by rw [a] at hz2; exact of_decide_eq_true hz2.symm))
    · exact .inr (.inr (.inl (by rw [← hzb, a])))
    · exact .inr (.inr (.inr (by rw [← hzp, ← hzs]; exact a)))
  have HBad := Lib.hid bad
  clear hz1 hz2 hzb hzp hzs bad
  cases z1
  rotate_left
  · obtain rfl : R = false := HBad.out (.inl rfl)
    go_wp2_with fail
    go_ret
    exact ⟨rfl, H2.out.2.2.2⟩
  cases z2
  rotate_left
  · obtain rfl : R = false := HBad.out (.inr (.inl rfl))
    go_wp2_with fail
    go_ret
    exact ⟨rfl, H2.out.2.2.2⟩
  cases zb
  rotate_left
  · obtain rfl : R = false := HBad.out (.inr (.inr (.inl rfl)))
    go_wp2_with fail
    go_ret
    exact ⟨rfl, H2.out.2.2.2⟩
  by_cases hp : zp ≤ zs
  · obtain rfl : R = false := HBad.out (.inr (.inr (.inr hp)))
    go_wp2_with fail
    go_ret
    exact ⟨rfl, H2.out.2.2.2⟩
  have HR2 : Hid (R = s.mem.all fun y => inView (dsOf hs) x.d.id (y.p, y.i) && decide (upToN (dsOf hs) x.d.id zp (y.p, y.i) = upToN (dsOf hs) x.d.id zp x.d.who)) := Lib.hid (by
    obtain ⟨a1, a2, a3, a4, a5⟩ := HE.out
    rw [HR.out]
    unfold rule10D
    rw [if_neg, a4]
    rintro (a | a | a | a)
    · rw [decide_eq_true a] at a1; cases a1
    · rw [decide_eq_true a] at a2; cases a2
    · rw [a] at a3; cases a3
    · rw [← a4, ← a5] at a; exact hp a)
  have hMr := HM.out.1.fresh H2.out.2.2.2
  have HUp := Lib.hid (fun (p i : Int) w' (hf : Fresh w2 w') => upto_any A n c hs x.d.id zp p i w' (hMr.fresh hf))
  have HU0 := Lib.hid (upto_any A n c hs x.d.id zp x.d.node x.d.inc w2 hMr)
  obtain ⟨want, hwant⟩ : ∃ z, z = upToN (dsOf hs) x.d.id zp x.d.who := ⟨_, rfl⟩
  have hwle : want ≤ 1048576 := by rw [hwant]; have := upTo_le hs x.d.id zp x.d.who; rw [HM.out.1.m.len] at this; omega
  have HU1 : Hid (Calls Try.prog 62 #[.slice A n c, .agg #[.int .i64 x.d.e1, .int .i64 x.d.e2, .int .i64 x.d.e3, .int .i64 x.d.e4], .int .i64 zp, .int .i64 x.d.node, .int .i64 x.d.inc] w2 fun e w' => (∃ b, e = .returned (.tuple #[.bool b, .int .i64 (want : Int)])) ∧ Fresh w2 w') := Lib.hid (HU0.out.mono fun e w' ⟨h1, h2⟩ => ⟨⟨inView (dsOf hs) x.d.id (x.d.node, x.d.inc), by rw [h1, hwant]; rfl⟩, h2⟩)
  have HW0 := Lib.hid hwant
  have HZP : Hid (zp = x.d.pos) := Lib.hid HE.out.2.2.2.1
  clear hMr HU0 hwant HR HBad HE
  go_wp2_with fail
  refine Calls.mono HU1.out ?_
  rintro e w3 ⟨⟨vb0, rfl⟩, hf3⟩
  have H3 := Lib.hid (And.intro (H2.out.1.fresh hf3) (And.intro (MkB.mk (H2.out.2.1.blk.keep hf3 trivial) : MkB w3 b5 x) (And.intro (H2.out.2.2.2.trans hf3) hf3)))
  obtain ⟨Am, cm, rfl, -, -, hrm⟩ := (HM.out.2.2.fresh H3.out.2.2.1).mem
  have HRm := Lib.hid hrm
  clear hf3 HU1 Q1 Q2 s1 s2 s3 s4 sb s15 ls n0 n1 n2 n3 ln m4 m5 m6 m7 m12 m2 m3 lm hp hrm
  go_wp2_with fail
  go_loopw [10] (fun kv wr => ∃ k : Nat, k ≤ s.mem.length ∧ kv = .int .i64 (k : Int) ∧ Hid (Fresh w3 wr ∧ (s.mem.take k).all (fun y => inView (dsOf hs) x.d.id (y.p, y.i) && decide (upToN (dsOf hs) x.d.id zp (y.p, y.i) = upToN (dsOf hs) x.d.id zp x.d.who)) = true)) (fun i _ => s.mem.length - (intOf i).toNat)
  case atStart => exact ⟨0, Nat.zero_le _, rfl, Lib.hid ⟨Keep.refl _ _, rfl⟩⟩
  case round =>
    rename World => wr
    obtain ⟨k, hk, rfl, HW⟩ := hrel
    have hsb := H3.out.1.fresh HW.out.1
    have s10 := hsb.mem
    have ls := hsb.blk.lt
    by_cases hlt : k < s.mem.length
    · obtain ⟨b, o, rfl, -, hr⟩ := Rd.range mem_three (HRm.out.keep (HW.out.1.weaken fun _ _ _ => trivial)) hlt hlt
      obtain ⟨y, hy⟩ : ∃ y, y = s.mem[k] := ⟨_, rfl⟩
      rw [← hy] at hr
      obtain ⟨yp, hyp⟩ : ∃ z, z = y.p := ⟨_, rfl⟩
      obtain ⟨yi, hyi⟩ : ∃ z, z = y.i := ⟨_, rfl⟩
      have c0 : wr.cell? ⟨b, o + k * 3, none⟩ = some (.int .i64 yp) := hyp ▸ hr 0 _ rfl
      have c1 : wr.cell? ⟨b, o + k * 3 + 1, none⟩ = some (.int .i64 yi) := hyi ▸ hr 1 _ rfl
      have hmb : MkB wr b5 x := ⟨H3.out.2.1.blk.keep HW.out.1 trivial⟩
      have m4 := hmb.e1; have m5 := hmb.e2; have m6 := hmb.e3; have m7 := hmb.e4; have m12 : wr.cell? ⟨b5, 12, none⟩ = some (.int .i64 x.d.pos) := hmb.pos
      have lm := hmb.blk.lt
      obtain ⟨V, hV⟩ : ∃ v, v = inView (dsOf hs) x.d.id (yp, yi) := ⟨_, rfl⟩
      obtain ⟨M, hM⟩ : ∃ v, v = upToN (dsOf hs) x.d.id zp (yp, yi) := ⟨_, rfl⟩
      have hMl : M ≤ 1048576 := by rw [hM]; have := upTo_le hs x.d.id zp (yp, yi); rw [HM.out.1.m.len] at this; omega
      have hU := fun w' (hf : Fresh wr w') => HUp.out yp yi w' ((H3.out.2.2.2.trans HW.out.1).trans hf)
      rw [← hV, ← hM] at hU
      have HUq : Hid (∀ w', Fresh wr w' → Calls Try.prog 62 #[.slice A n c, .agg #[.int .i64 x.d.e1, .int .i64 x.d.e2, .int .i64 x.d.e3, .int .i64 x.d.e4], .int .i64 x.d.pos, .int .i64 yp, .int .i64 yi] w' fun e w'' => e = .returned (.tuple #[.bool V, .int .i64 (M : Int)]) ∧ Fresh w' w'') := Lib.hid (by rw [← HZP.out]; exact hU)
      have hg : (inView (dsOf hs) x.d.id (y.p, y.i) && decide (upToN (dsOf hs) x.d.id zp (y.p, y.i) = upToN (dsOf hs) x.d.id zp x.d.who)) = (V && decide (M = want)) := by rw [← hyp, ← hyi, ← hV, ← hM, ← HW0.out]
      have hall : (s.mem.take (k + 1)).all (fun y => inView (dsOf hs) x.d.id (y.p, y.i) && decide (upToN (dsOf hs) x.d.id zp (y.p, y.i) = upToN (dsOf hs) x.d.id zp x.d.who)) = (V && decide (M = want)) := by
        rw [List.take_succ_eq_append_getElem hlt, List.all_append, HW.out.2, Bool.true_and, ← hg, hy]
        simp
      have bad : (V && decide (M = want)) = false → R = false := fun hb => by
        rw [HR2.out]
        exact List.all_eq_false.2 ⟨_, List.getElem_mem hlt, by rw [← hy, hg, hb]; decide⟩
      have HK := Lib.hid (And.intro hall bad)
      have HF := Lib.hid HW.out.1
      have HKS : Hid (∀ w', Fresh wr w' → (w'.cell? ⟨b, o + k * 3, none⟩ = some (.int .i64 yp) ∧ w'.cell? ⟨b, o + k * 3 + 1, none⟩ = some (.int .i64 yi) ∧ w'.cell? ⟨b5, 4, none⟩ = some (.int .i64 x.d.e1) ∧ w'.cell? ⟨b5, 5, none⟩ = some (.int .i64 x.d.e2) ∧ w'.cell? ⟨b5, 6, none⟩ = some (.int .i64 x.d.e3) ∧ w'.cell? ⟨b5, 7, none⟩ = some (.int .i64 x.d.e4) ∧ w'.cell? ⟨b5, 12, none⟩ = some (.int .i64 x.d.pos) ∧ w'.cell? ⟨b4, 10, none⟩ = some (.slice (some ⟨b, o, none⟩) s.mem.length cm))) := Lib.hid (fun w' hf => ⟨hf.cellAt c0 trivial, hf.cellAt c1 trivial, hf.cellAt m4 trivial, hf.cellAt m5 trivial, hf.cellAt m6 trivial, hf.cellAt m7 trivial, hf.cellAt m12 trivial, hf.cellAt s10 trivial⟩)
      clear hr hy hyp hyi hV hM hU hg hall bad HW hmb hsb m4 m5 m6 m7 m12 c0 c1
      go_upto_region 8 with (fail)
      go_cut [11, 12] (fun s11 s12 wb => s11 = .bool V ∧ s12 = .int .i64 (M : Int) ∧ Hid (Fresh wr wb))
      case first =>
        go_region_held3 (fun w' => w'.cell? ⟨b, o + k * 3, none⟩ = some (.int .i64 yp) ∧ w'.cell? ⟨b, o + k * 3 + 1, none⟩ = some (.int .i64 yi) ∧ w'.cell? ⟨b5, 4, none⟩ = some (.int .i64 x.d.e1) ∧ w'.cell? ⟨b5, 5, none⟩ = some (.int .i64 x.d.e2) ∧ w'.cell? ⟨b5, 6, none⟩ = some (.int .i64 x.d.e3) ∧ w'.cell? ⟨b5, 7, none⟩ = some (.int .i64 x.d.e4) ∧ w'.cell? ⟨b5, 12, none⟩ = some (.int .i64 x.d.pos) ∧ w'.cell? ⟨b4, 10, none⟩ = some (.slice (some ⟨b, o, none⟩) s.mem.length cm))
          (first | exact HKS.out _ ((Keep.refl _ wr).drew) | exact HKS.out _ hfa)
          ((go_at_call 62; (with_reducible refine Calls.mono (HUq.out _ ((Keep.refl _ wr).drew)) ?_); rintro e wa ⟨rfl, hfa0⟩; have hfa : Fresh wr wa := ((Keep.refl _ wr).drew).trans hfa0; clear hfa0))
        all_goals go_wp2_with fail
        all_goals go_meet
        all_goals exact ⟨rfl, rfl, Lib.hid hfa⟩
      case rest =>
      rename World => w5
      obtain ⟨rfl, rfl, HF5⟩ := hcut
      clear lm ls s10
      cases V
      · obtain rfl : R = false := HK.out.2 rfl
        go_wp2_with fail
        go_ret
        exact ⟨rfl, (H3.out.2.2.1.trans HF.out).trans HF5.out⟩
      · by_cases hmw : M = want
        · subst hmw
          go_wp2_with fail
          exact ⟨⟨k + 1, by omega, by simp, Lib.hid ⟨HF.out.trans HF5.out, by rw [HK.out.1]; simp⟩⟩, by simp [intOf]; omega⟩
        · have hb : ((M : Int) != (want : Int)) = true := by simpa using (show ¬ (M : Int) = (want : Int) by omega)
          obtain rfl : R = false := HK.out.2 (by simp [hmw])
          clear hmw
          go_wp2_with fail
          go_ret
          exact ⟨rfl, (H3.out.2.2.1.trans HF.out).trans HF5.out⟩
    · obtain rfl : k = s.mem.length := by omega
      obtain rfl : R = true := by rw [HR2.out, ← HW.out.2, List.take_of_length_le (Nat.le_refl _)]
      have HF := Lib.hid HW.out.1
      clear HW HR2 hsb
      go_wp2_with fail
      go_ret
      exact ⟨rfl, H3.out.2.2.1.trans HF.out⟩
end Go.Proofs.Ytfpcmleeehciaaa
namespace Go.Proofs.Ytfpcmleeehciaaa
set_option linter.unusedVariables false
set_option linter.unusedSimpArgs false
open Go.RowKit Go.Shelf

theorem send_parts (p i q : Int) (id : V4) (b : List UInt8) (y : MarkD) : isSend (p, i) id q b y = (decide (y.kind = 4) && (decide (y.node = p) && (decide (y.inc = i) && (decide (y.id = id) && (decide (y.seq = q) && decide (y.body = b)))))) := by
  unfold isSend
  have e : decide (y.who = (p, i)) = (decide (y.node = p) && decide (y.inc = i)) := by
    rw [← Bool.decide_and]
    apply decide_eq_decide.2
    exact ⟨fun e => by injection e with e1 e2; exact ⟨e1, e2⟩, fun ⟨e1, e2⟩ => Prod.ext e1 e2⟩
  rw [e, Bool.and_assoc]
theorem dels_parts (p i s : Int) (id : V4) (y : MarkD) : (isDel (p, i) id y && decide (y.sender = s)) = (decide (y.kind = 8) && (decide (y.node = p) && (decide (y.inc = i) && (decide (y.id = id) && decide (y.sender = s))))) := by
  unfold isDel
  have e : decide (y.who = (p, i)) = (decide (y.node = p) && decide (y.inc = i)) := by
    rw [← Bool.decide_and]
    apply decide_eq_decide.2
    exact ⟨fun e => by injection e with e1 e2; exact ⟨e1, e2⟩, fun ⟨e1, e2⟩ => Prod.ext e1 e2⟩
  rw [e]
  simp only [Bool.and_assoc]

set_option maxRecDepth 20000 in
set_option maxHeartbeats 4000000 in
theorem rule7_any (A : Option Addr) (n c : Nat) (hs : List MkV) (s : StanD) (vm : Value) (x : MkV) (w : World) (h : MksA w A n hs) (hx : MkA w x) (hv : StA w s vm) :
    Calls Try.prog 30 #[.slice A n c, .agg (stanV s vm), .agg x.cells.toArray] w fun e w' => e = .returned (.bool (rule7D (dsOf hs) s x.d)) ∧ Fresh w w' := by
  have HM := Lib.hid (And.intro h (And.intro hx hv))
  have hle := h.m.le
  have hml := hv.le
  clear h hx hv
  obtain ⟨R, hR⟩ : ∃ R, R = rule7D (dsOf hs) s x.d := ⟨_, rfl⟩
  rw [← hR]
  have HR := Lib.hid hR
  clear hR
  go_enter Try.func30, Try.ntmps30
  go_upto_region 1 with (fail)
  obtain ⟨w1, hw1⟩ : ∃ w1, w1 = (w.alloc (.cells (stanV s vm) 87)).alloc (.cells x.cells.toArray 50) := ⟨_, rfl⟩
  obtain ⟨b5, hb5⟩ : ∃ b, b = w.heap.size + 1 := ⟨_, rfl⟩
  obtain ⟨b4, hb4⟩ : ∃ b, b = w.heap.size := ⟨_, rfl⟩
  rw [← hw1, ← hb5, ← hb4]
  have h2 := two_boxes w s vm x
  rw [← hw1, ← hb5, ← hb4] at h2
  have H1 := Lib.hid h2
  clear h2 hw1 hb5 hb4
  go_upto_region 2 with (fail)
  obtain ⟨b7, hb7⟩ : ∃ b, b = w1.heap.size := ⟨_, rfl⟩
  rw [← hb7]
  generalize hw2 : World.alloc w1 _ = w2
  have hf2 : Fresh w1 w2 := hw2 ▸ (Keep.refl _ w1).alloc _
  have hn2 : Blk w2 b7 41 #[.int .i64 0, .int .i64 0, .int .i64 0, .int .i64 0] := by rw [← hw2, hb7]; exact Blk.new w1 _ _
  have H2 := Lib.hid (And.intro (H1.out.1.fresh hf2) (And.intro (MkB.mk (H1.out.2.1.blk.keep hf2 trivial) : MkB w2 b5 x) (And.intro hn2 (H1.out.2.2.trans hf2))))
  clear hb7 hw2 hf2 hn2 H1
  obtain ⟨Am, cm, hvm, -, -, hrm⟩ := (HM.out.2.2.fresh H2.out.2.2.2).mem
  have HRm := Lib.hid hrm
  have s10 := H2.out.1.mem
  rw [hvm] at s10
  have s1 := H2.out.1.i1; have s2 := H2.out.1.i2; have s3 := H2.out.1.i3; have s4 := H2.out.1.i4; have s14 := H2.out.1.lastPos; have ls := H2.out.1.blk.lt
  have n0 := H2.out.2.2.1.cell 0; have n1 := H2.out.2.2.1.cell 1; have n2 := H2.out.2.2.1.cell 2; have n3 := H2.out.2.2.1.cell 3; have ln := H2.out.2.2.1.lt
  simp at n0 n1 n2 n3
  have m4 := H2.out.2.1.e1; have m5 := H2.out.2.1.e2; have m6 := H2.out.2.1.e3; have m7 := H2.out.2.1.e4; have m12 := H2.out.2.1.pos; have m10 := H2.out.2.1.sender
  have lm := H2.out.2.1.blk.lt
  have Q1 := fun w => eqview s.id nov w
  obtain ⟨z1, hz1⟩ : ∃ q, q = decide (s.id = nov) := ⟨_, rfl⟩
  rw [← hz1] at Q1
  simp only [nov] at Q1
  have Q2 := fun w => neview x.d.id s.id w
  obtain ⟨z2, hz2⟩ : ∃ q, q = decide (x.d.id ≠ s.id) := ⟨_, rfl⟩
  rw [← hz2] at Q2
  simp only [MarkD.id] at Q2
  obtain ⟨zp, hzp⟩ : ∃ q, q = x.d.pos := ⟨_, rfl⟩
  rw [← hzp] at m12
  obtain ⟨zs, hzs⟩ : ∃ q, q = s.lastPos := ⟨_, rfl⟩
  rw [← hzs] at s14
  have HC0 := Lib.hid (among_any _ Am s.mem.length cm s.mem x.d.sender w2 hrm rfl hml)
  obtain ⟨kz, hkz⟩ : ∃ z, z = idxZ (fun x_1 : MemD => decide (x_1.p = x.d.sender)) s.mem := ⟨_, rfl⟩
  rw [← hkz] at HC0
  have hkz2 : kz < 0 ∨ (kz = (memI s.mem x.d.sender : Int) ∧ memI s.mem x.d.sender < s.mem.length) := by
    rw [hkz]
    unfold idxZ memI
    by_cases a : List.findIdx (fun x_1 : MemD => decide (x_1.p = x.d.sender)) s.mem < s.mem.length
    · rw [if_pos a]; exact .inr ⟨rfl, a⟩
    · rw [if_neg a]; exact .inl (by decide)
  have hkz3 : kz < 0 → ¬ memI s.mem x.d.sender < s.mem.length := by
    intro a b
    rw [hkz] at a
    unfold idxZ memI at *
    rw [if_pos b] at a
    omega
  have HE := Lib.hid (And.intro hz1 (And.intro hz2 (And.intro hzp hzs)))
  have bad : (z1 = true ∨ z2 = true ∨ kz < 0 ∨ zp ≤ zs) → R = false := fun a => by
    rw [HR.out]
    unfold rule7D
    refine if_pos ?_
    rcases a with a | a | a | a
    · exact .inl (by rw [a] at hz1; exact of_decide_eq_true hz1.symm)
    · exact .inr (.inl (by rw [a] at hz2; exact of_decide_eq_true hz2.symm))
    · exact .inr (.inr (.inl (hkz3 a)))
    · exact .inr (.inr (.inr (by rw [← hzp, ← hzs]; exact a)))
  have HBad := Lib.hid bad
  have HK2 := Lib.hid hkz2
  clear hz1 hz2 hzp hzs bad hkz hkz2 hkz3 hvm hrm
  go_upto_region 3 with (fail)
  refine Calls.mono HC0.out ?_
  rintro e w3 ⟨rfl, rfl⟩
  clear HC0
  cases z1
  rotate_left
  · obtain rfl : R = false := HBad.out (.inl rfl)
    go_wp2_with fail
    go_ret
    exact ⟨rfl, H2.out.2.2.2⟩
  cases z2
  rotate_left
  · obtain rfl : R = false := HBad.out (.inr (.inl rfl))
    go_wp2_with fail
    go_ret
    exact ⟨rfl, H2.out.2.2.2⟩
  by_cases hk0 : kz < 0
  · obtain rfl : R = false := HBad.out (.inr (.inr (.inl hk0)))
    go_wp2_with fail
    go_ret
    exact ⟨rfl, H2.out.2.2.2⟩
  by_cases hp : zp ≤ zs
  · obtain rfl : R = false := HBad.out (.inr (.inr (.inr hp)))
    go_wp2_with fail
    go_ret
    exact ⟨rfl, H2.out.2.2.2⟩
  obtain ⟨jm, hjm⟩ : ∃ j, j = memI s.mem x.d.sender := ⟨_, rfl⟩
  have hj0 : kz = (jm : Int) ∧ jm < s.mem.length := by
    rcases HK2.out with a | a
    · exact absurd a hk0
    · rw [hjm]; exact a
  obtain ⟨rfl, hjl⟩ := hj0
  obtain ⟨mi, hmi⟩ : ∃ z, z = s.mem[jm].i := ⟨_, rfl⟩
  have hmi2 : (s.mem.getD (memI s.mem x.d.sender) ⟨0, 0, 0⟩).i = mi := by
    rw [← hjm, hmi, List.getD_eq_getElem?_getD, List.getElem?_eq_getElem hjl]
    rfl
  have HR2 : Hid (R = ((dsOf hs).any (isSend (x.d.sender, mi) x.d.id x.d.seq x.d.body) && decide (x.d.seq = (delS (dsOf hs) x.d.who x.d.id x.d.sender : Int) + 1))) := Lib.hid (by
    obtain ⟨a1, a2, a4, a5⟩ := HE.out
    rw [HR.out]
    unfold rule7D
    rw [if_neg, hmi2]
    rintro (a | a | a | a)
    · rw [decide_eq_true a] at a1; cases a1
    · rw [decide_eq_true a] at a2; cases a2
    · rw [← hjm] at a; exact a hjl
    · rw [← a4, ← a5] at a; exact hp a)
  obtain ⟨bm, om, rfl, -, hrr⟩ := Rd.range mem_three HRm.out hjl hjl
  have hmc : w2.cell? ⟨bm, om + jm * 3 + 1, none⟩ = some (.int .i64 mi) := hmi ▸ hrr 1 _ rfl
  have HS := Lib.hid (And.intro s10 hmc)
  clear s10 m10 hjm hmi hmi2 hrr hmc HRm HK2 HBad HE HR
  go_wp2_with fail
  clear Q1 Q2 s1 s2 s3 s4 s14 ls n0 n1 n2 n3 ln m4 m5 m6 m7 m12 lm hk0 hp
  go_loopw [9, 10, 11] (fun fv nv iv wr => ∃ (k : Nat) (u : Bool) (z : Nat), k ≤ n ∧ fv = .bool u ∧ nv = .int .i64 (z : Int) ∧ iv = .int .i64 (k : Int) ∧ Hid (Fresh w2 wr ∧ u = (dsOf (hs.take k)).any (isSend (x.d.sender, mi) x.d.id x.d.seq x.d.body) ∧ z = delS (dsOf (hs.take k)) x.d.who x.d.id x.d.sender)) (fun _ _ i _ => n - (intOf i).toNat)
  case atStart => exact ⟨0, false, 0, Nat.zero_le _, rfl, rfl, rfl, Lib.hid ⟨Keep.refl _ _, rfl, rfl⟩⟩
  case round =>
    rename World => wr
    obtain ⟨k, u, z, hk, rfl, rfl, rfl, HW⟩ := hrel
    by_cases hlt : k < n
    · obtain ⟨b, o, y, rfl, hat⟩ := (HM.out.1.fresh (H2.out.2.2.2.trans HW.out.1)).at1 hlt
      have hz : z ≤ 1048576 := by rw [HW.out.2.2]; have := ds_count_le hs k fun y => isDel x.d.who x.d.id y && decide (y.sender = x.d.sender); unfold delS; omega
      have HA := Lib.hid hat
      clear hat
      go_wp2_with (first | (refine wpList_load_mid rfl 50 _ rfl b (o + k * 26) rfl y.cells _ HA.out.rng Try.underlying50 rfl (by kernel_rfl) ?_) | (refine wpList_store_new rfl (.tmp 12) (.tmp 50) rfl _ y.cells.toArray _ rfl rfl rfl (by kernel_rfl) (Array.all_eq_true_iff_forall_mem.2 fun u hu => mk_one HA.out.one u (by simpa using hu)) ?_))
      intro w4 hb4 hf4 hs4
      obtain ⟨c9, hc9⟩ : ∃ b, b = wr.heap.size := ⟨_, rfl⟩
      rw [← hc9] at hb4 ⊢
      have hF := HW.out.1.trans hf4
      have H4 := Lib.hid (And.intro (MkB.mk hb4 : MkB w4 c9 y) (And.intro (MkB.mk (H2.out.2.1.blk.keep hF trivial) : MkB w4 b5 x) (And.intro (H2.out.1.fresh hF) hF)))
      have hok : MkOk w4 (fun _ => True) y := by
        obtain ⟨hl, rfl⟩ := HA.out.at_
        exact (HM.out.1.fresh (H2.out.2.2.2.trans hF)).ok _ (List.getElem_mem hl)
      obtain ⟨Ay, cy, hvy, -, -, hry⟩ := hok.b
      obtain ⟨Ax, cx, hvx, -, -, hrx⟩ := (HM.out.2.1.fresh (H2.out.2.2.2.trans hF)).ok.b
      have y14 := H4.out.1.vb.trans (congrArg some hvy)
      have x14 := H4.out.2.1.vb.trans (congrArg some hvx)
      have cvy : ∀ q, (convert 43 9 (.slice Ay y.d.body.length cy)).run Try.prog (w4.drewN q) = .ok (tx y.d.body) (w4.drewN q) := fun q => run_conv_str Try.underlying43 Try.underlying5 Try.underlying9 (hry.drewN q) cy
      have cvx : ∀ q, (convert 43 9 (.slice Ax x.d.body.length cx)).run Try.prog (w4.drewN q) = .ok (tx x.d.body) (w4.drewN q) := fun q => run_conv_str Try.underlying43 Try.underlying5 Try.underlying9 (hrx.drewN q) cx
      have y1 := H4.out.1.kind; have y2 := H4.out.1.node; have y3 := H4.out.1.inc; have y4 := H4.out.1.e1; have y5 := H4.out.1.e2; have y6 := H4.out.1.e3; have y7 := H4.out.1.e4; have y10 := H4.out.1.sender; have y11 := H4.out.1.seq
      have x2 := H4.out.2.1.node; have x3 := H4.out.2.1.inc; have x4 := H4.out.2.1.e1; have x5 := H4.out.2.1.e2; have x6 := H4.out.2.1.e3; have x7 := H4.out.2.1.e4; have x10 := H4.out.2.1.sender; have x11 := H4.out.2.1.seq
      have s10 : w4.cell? ⟨b4, 10, none⟩ = some (.slice (some ⟨bm, om, none⟩) s.mem.length cm) := hF.cellAt HS.out.1 trivial
      have c1 : w4.cell? ⟨bm, om + jm * 3 + 1, none⟩ = some (.int .i64 mi) := hF.cellAt HS.out.2 trivial
      have ly := H4.out.1.blk.lt; have lx := H4.out.2.1.blk.lt; have ls := H4.out.2.2.1.blk.lt
      have Q := fun w => eqview y.d.id x.d.id w
      obtain ⟨r, hr⟩ : ∃ r, r = decide (y.d.id = x.d.id) := ⟨_, rfl⟩
      rw [← hr] at Q
      simp only [MarkD.id] at Q
      obtain ⟨tb, htb⟩ : ∃ q, q = decide (y.d.body = x.d.body) := ⟨_, rfl⟩
      have BQ : Hid ((y.d.body == x.d.body) = tb) := Lib.hid (by rw [htb]; by_cases a : y.d.body = x.d.body <;> simp [a])
      obtain ⟨zk, hzk⟩ : ∃ z, z = y.d.kind := ⟨_, rfl⟩
      obtain ⟨yn, hyn⟩ : ∃ z, z = y.d.node := ⟨_, rfl⟩
      obtain ⟨yi, hyi⟩ : ∃ z, z = y.d.inc := ⟨_, rfl⟩
      obtain ⟨ys, hys⟩ : ∃ z, z = y.d.sender := ⟨_, rfl⟩
      obtain ⟨yq, hyq⟩ : ∃ z, z = y.d.seq := ⟨_, rfl⟩
      obtain ⟨xn, hxn⟩ : ∃ z, z = x.d.node := ⟨_, rfl⟩
      obtain ⟨xi, hxi⟩ : ∃ z, z = x.d.inc := ⟨_, rfl⟩
      obtain ⟨xs, hxs⟩ : ∃ z, z = x.d.sender := ⟨_, rfl⟩
      obtain ⟨xq, hxq⟩ : ∃ z, z = x.d.seq := ⟨_, rfl⟩
      have g1 : isSend (x.d.sender, mi) x.d.id x.d.seq x.d.body y.d = (decide (zk = 4) && (decide (yn = xs) && (decide (yi = mi) && (r && (decide (yq = xq) && tb))))) := by
        rw [send_parts, hr, htb, hzk, hyn, hyi, hyq, hxs, hxq]
      have g2 : (isDel x.d.who x.d.id y.d && decide (y.d.sender = x.d.sender)) = (decide (zk = 8) && (decide (yn = xn) && (decide (yi = xi) && (r && decide (ys = xs))))) := by
        rw [hr, hzk, hyn, hyi, hys, hxs, hxn, hxi]
        exact dels_parts _ _ _ _ _
      have h1 : (dsOf (hs.take (k + 1))).any (isSend (x.d.sender, mi) x.d.id x.d.seq x.d.body) = (u || (decide (zk = 4) && (decide (yn = xs) && (decide (yi = mi) && (r && (decide (yq = xq) && tb)))))) := by
        rw [ds_any_snoc HA.out.at_, HW.out.2.1, g1]
      have h2 : delS (dsOf (hs.take (k + 1))) x.d.who x.d.id x.d.sender = z + (if (decide (zk = 8) && (decide (yn = xn) && (decide (yi = xi) && (r && decide (ys = xs))))) = true then 1 else 0) := by
        unfold delS
        rw [ds_count_snoc HA.out.at_, g2, HW.out.2.2]
        rfl
      obtain ⟨q1, hq1⟩ : ∃ q, q = (decide (zk = 4) && (decide (yn = xs) && (decide (yi = mi) && (r && (decide (yq = xq) && tb))))) := ⟨_, rfl⟩
      obtain ⟨q2, hq2⟩ : ∃ q, q = (decide (zk = 8) && (decide (yn = xn) && (decide (yi = xi) && (r && decide (ys = xs))))) := ⟨_, rfl⟩
      rw [← hq1] at h1
      rw [← hq2] at h2
      have HN := Lib.hid (And.intro h1 h2)
      have HQ1 := Lib.hid hq1
      have HQ2 := Lib.hid hq2
      have HF := Lib.hid hF
      rw [← hzk] at y1; rw [← hyn] at y2; rw [← hyi] at y3; rw [← hys] at y10; rw [← hyq] at y11
      rw [← hxn] at x2; rw [← hxi] at x3; rw [← hxs] at x10; rw [← hxq] at x11
      clear hb4 hf4 hs4 hc9 hF hok hvy hry hvx hrx hr htb hzk hyn hyi hys hyq hxn hxi hxs hxq g1 g2 h1 h2 hq1 hq2 HW HA
      go_upto_region 11 with (fail)
      go_cut [94] (fun s94 wb => s94 = .bool q1 ∧ ∃ d, wb = w4.drewN d)
      case first =>
        by_cases a1 : zk = 4
        · subst a1
          by_cases a2 : yn = xs
          · subst a2
            by_cases a3 : yi = mi
            · subst a3
              cases r
              · go_quiet (fail)
                go_wp2_with fail
                go_meet
                exact ⟨by rw [HQ1.out]; simp, _, rfl⟩
              · by_cases a5 : yq = xq
                · subst a5
                  have bq : (y.d.body == x.d.body) = tb := BQ.out
                  go_quiet (fail)
                  go_wp2_with fail
                  go_meet
                  exact ⟨by rw [HQ1.out]; simp, _, rfl⟩
                · have b5 : (yq == xq) = false := by simpa using a5
                  have HA5 := Lib.hid (decide_eq_false a5)
                  clear a5
                  go_quiet (fail)
                  go_wp2_with fail
                  go_meet
                  exact ⟨by rw [HQ1.out, HA5.out]; simp, _, rfl⟩
            · have b3 : (yi == mi) = false := by simpa using a3
              have HA3 := Lib.hid (decide_eq_false a3)
              clear a3
              go_quiet (fail)
              go_wp2_with fail
              go_meet
              exact ⟨by rw [HQ1.out, HA3.out]; simp, _, rfl⟩
          · have b2 : (yn == xs) = false := by simpa using a2
            have HA2 := Lib.hid (decide_eq_false a2)
            clear a2
            go_quiet (fail)
            go_wp2_with fail
            go_meet
            exact ⟨by rw [HQ1.out, HA2.out]; simp, _, rfl⟩
        · have b1 : (zk == 4) = false := by simpa using a1
          have HA1 := Lib.hid (decide_eq_false a1)
          clear a1
          go_quiet (fail)
          go_wp2_with fail
          go_meet
          exact ⟨by rw [HQ1.out, HA1.out]; simp, _, rfl⟩
      case rest =>
      obtain ⟨rfl, d4, rfl⟩ := hcut
      clear cvy cvx y14 x14 y11 x11 s10 c1 BQ HQ1 ls
      go_upto_if 94 with (fail)
      go_cut [9] (fun s9 wb => s9 = .bool (u || q1) ∧ wb = w4.drewN d4)
      case first =>
        cases q1
        · go_wp2_with fail
          go_meet
          exact ⟨by simp, rfl⟩
        · go_wp2_with fail
          go_meet
          exact ⟨by simp, rfl⟩
      case rest =>
      obtain ⟨rfl, rfl⟩ := hcut
      obtain ⟨u2, hu2⟩ : ∃ q, q = (u || q1) := ⟨_, rfl⟩
      rw [← hu2] at HN ⊢
      clear hu2
      go_upto_region 13 with (fail)
      go_cut [125] (fun s125 wb => s125 = .bool q2 ∧ wb = w4.drewN d4)
      case first =>
        by_cases a1 : zk = 8
        · subst a1
          by_cases a2 : yn = xn
          · subst a2
            by_cases a3 : yi = xi
            · subst a3
              cases r
              · go_wp2_with fail
                go_meet
                exact ⟨by rw [HQ2.out]; simp, rfl⟩
              · by_cases a5 : ys = xs
                · subst a5
                  go_wp2_with fail
                  go_meet
                  exact ⟨by rw [HQ2.out]; simp, rfl⟩
                · have b5 : (ys == xs) = false := by simpa using a5
                  have HA5 := Lib.hid (decide_eq_false a5)
                  clear a5
                  go_wp2_with fail
                  go_meet
                  exact ⟨by rw [HQ2.out, HA5.out]; simp, rfl⟩
            · have b3 : (yi == xi) = false := by simpa using a3
              have HA3 := Lib.hid (decide_eq_false a3)
              clear a3
              go_wp2_with fail
              go_meet
              exact ⟨by rw [HQ2.out, HA3.out]; simp, rfl⟩
          · have b2 : (yn == xn) = false := by simpa using a2
            have HA2 := Lib.hid (decide_eq_false a2)
            clear a2
            go_wp2_with fail
            go_meet
            exact ⟨by rw [HQ2.out, HA2.out]; simp, rfl⟩
        · have b1 : (zk == 8) = false := by simpa using a1
          have HA1 := Lib.hid (decide_eq_false a1)
          clear a1
          go_wp2_with fail
          go_meet
          exact ⟨by rw [HQ2.out, HA1.out]; simp, rfl⟩
      case rest =>
      obtain ⟨rfl, rfl⟩ := hcut
      clear HQ2 y1 y2 y3 y4 y5 y6 y7 y10 x2 x3 x4 x5 x6 x7 x10 ly lx Q
      cases q2
      · go_wp2_with fail
        exact ⟨⟨k + 1, u2, z, by omega, rfl, rfl, by simp, Lib.hid ⟨HF.out.drewN _, HN.out.1.symm, by rw [HN.out.2]; rfl⟩⟩, by simp [intOf]; omega⟩
      · go_wp2_with fail
        exact ⟨⟨k + 1, u2, z + 1, by omega, rfl, by simp, by simp, Lib.hid ⟨HF.out.drewN _, HN.out.1.symm, by rw [HN.out.2]; rfl⟩⟩, by simp [intOf]; omega⟩
    · obtain rfl : k = n := by omega
      have hz : z ≤ 1048576 := by rw [HW.out.2.2]; have := ds_count_le hs k fun y => isDel x.d.who x.d.id y && decide (y.sender = x.d.sender); unfold delS; omega
      have x11 : wr.cell? ⟨b5, 11, none⟩ = some (.int .i64 x.d.seq) := (MkB.mk (H2.out.2.1.blk.keep HW.out.1 trivial) : MkB wr b5 x).seq
      have lx := (MkB.mk (H2.out.2.1.blk.keep HW.out.1 trivial) : MkB wr b5 x).blk.lt
      have hn : hs.length = k := HM.out.1.m.len
      have hR : R = (u && decide (x.d.seq = (z : Int) + 1)) := by
        rw [HR2.out, HW.out.2.1, HW.out.2.2, List.take_of_length_le (by omega)]
      have HR3 := Lib.hid hR
      have HF := Lib.hid HW.out.1
      obtain ⟨xq, hxq⟩ : ∃ z, z = x.d.seq := ⟨_, rfl⟩
      rw [← hxq] at x11
      have HXq := Lib.hid hxq
      clear HW HR2 hR hxq
      cases u
      · obtain rfl : R = false := by rw [HR3.out]; rfl
        go_wp2_with fail
        go_ret
        exact ⟨rfl, H2.out.2.2.2.trans HF.out⟩
      · by_cases a : xq = (z : Int) + 1
        · obtain rfl : R = true := by rw [HR3.out, ← HXq.out, decide_eq_true a]; rfl
          subst a
          go_wp2_with fail
          go_ret
          exact ⟨rfl, H2.out.2.2.2.trans HF.out⟩
        · obtain rfl : R = false := by rw [HR3.out, ← HXq.out, decide_eq_false a]; rfl
          have b1 : (xq == (z : Int) + 1) = false := by simpa using a
          clear a
          go_wp2_with fail
          go_ret
          exact ⟨rfl, H2.out.2.2.2.trans HF.out⟩
end Go.Proofs.Ytfpcmleeehciaaa
