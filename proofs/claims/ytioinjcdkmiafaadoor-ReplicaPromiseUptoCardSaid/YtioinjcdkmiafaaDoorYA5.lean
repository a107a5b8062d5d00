/-
  MERGED: Decode Cells
-/
import Derived.Test.YtioinjcdkmiafaaDoorYA4
import Derived.Test.YtioinjcdkmiafaaDoorYA2
import Derived.Test.YtioinjcdkmiafaaDoorYA3
import Derived.Deep.MidRow
namespace Go.Proofs.YtioinjcdkmiafaaDoor
set_option linter.unusedVariables false
set_option linter.unusedSimpArgs false
open Go.RowKit

/-- Behind j of the four counts: the last one, the place, is it amiss? -/
def cst (bs : List UInt8) : Nat → Nat × Nat × Bool
  | 0 => (0, 0, false)
  | j + 1 => rCount bs (cst bs j).2.1 (cst bs j).2.2 4611686018427387904
/-- Behind j of the three texts. -/
def tst (bs : List UInt8) : Nat → List UInt8 × Nat × Bool
  | 0 => ([], (cst bs 4).2.1, (cst bs 4).2.2)
  | j + 1 => rText bs (tst bs j).2.1 (tst bs j).2.2 8
theorem cst_le (bs : List UInt8) (j : Nat) : (cst bs j).2.1 ≤ bs.length := by
  induction j with
  | zero => simp [cst]
  | succ j ih => exact rCount_le bs _ _ _ ih
theorem tst_le (bs : List UInt8) (j : Nat) : (tst bs j).2.1 ≤ bs.length := by
  induction j with
  | zero => exact cst_le bs 4
  | succ j ih => exact rText_le bs _ _ _ ih
/-- What is decoded, if all is well. -/
abbrev decV (bs : List UInt8) : Value := cmdV ((cst bs 1).1 : Int) ((cst bs 2).1 : Int) ((cst bs 3).1 : Int) ((cst bs 4).1 : Int) (tst bs 1).1 (tst bs 2).1 (tst bs 3).1
def soundB (bs : List UInt8) : Bool := !(tst bs 3).2.2 && decide ((tst bs 3).2.1 = bs.length)
def decOk (bs : List UInt8) : Bool := soundB bs && validB ((cst bs 1).1 : Int) ((cst bs 2).1 : Int) ((cst bs 3).1 : Int) ((cst bs 4).1 : Int) (tst bs 1).1 (tst bs 2).1 (tst bs 3).1
def DecPost (bs : List UInt8) (w : World) (e : Ending) (w' : World) : Prop :=
  (e = if decOk bs = true then .returned (.tuple #[decV bs, .int .i64 0]) else .returned (.tuple #[cmdV 0 0 0 0 [] [] [], .int .i64 130])) ∧ Fresh w w'
/-- The command's cells behind k rounds. -/
def dccells (bs : List UInt8) (k : Nat) : Array Value :=
  #[.int .i64 (if 0 < k then ((cst bs 1).1 : Int) else 0), .int .i64 (if 1 < k then ((cst bs 2).1 : Int) else 0), .int .i64 (if 2 < k then ((cst bs 3).1 : Int) else 0), .int .i64 (if 3 < k then ((cst bs 4).1 : Int) else 0), str [], str [], str []]

theorem dccells_set (bs : List UInt8) (k : Nat) (hk : k < 4) : (dccells bs k).setIfInBounds k (.int .i64 ((cst bs (k + 1)).1 : Int)) = dccells bs (k + 1) := by
  have hck : k = 0 ∨ k = 1 ∨ k = 2 ∨ k = 3 := by omega
  rcases hck with rfl | rfl | rfl | rfl <;> simp [dccells]
/-- Behind k rounds of the loop. -/
def DRel (A : Option Addr) (n c R : Nat) (bs : List UInt8) (w : World) (k : Nat) (wr : World) : Prop :=
  Rdr wr (R + 1) A n c (cst bs k).2.1 (cst bs k).2.2 ∧ Blk wr (R + 1 + 1) 57 (dccells bs k) ∧ Blk wr (R + 1 + 1 + 1) 118 #[.pointer (some ⟨R + 1 + 1, 0, none⟩), .pointer (some ⟨R + 1 + 1, 1, none⟩), .pointer (some ⟨R + 1 + 1, 2, none⟩), .pointer (some ⟨R + 1 + 1, 3, none⟩)] ∧ Blk wr R 57 #[.int .i64 0, .int .i64 0, .int .i64 0, .int .i64 0, str [], str [], str []] ∧ Fresh w wr

set_option maxHeartbeats 4000000 in
theorem decode_any (Z : Nat → Prop) (A : Option Addr) (n c : Nat) (bs : List UInt8) (w : World) (hT : Tabs w) (hb : Rd w Z 1 A n (Lib.byteCells bs)) (hnc : n ≤ c) (hn : n ≤ 1099511627770) :
    Calls Tryd.prog 40 #[.slice A n c] w fun e w' => DecPost bs w e w' := by
  have hlen : bs.length = n := by simpa [Lib.byteCells] using hb.1
  have hb := hb.old (by decide)
  have HA := Lib.hid (And.intro hT (And.intro hb (And.intro hlen (And.intro hnc hn))))
  clear hT hb hlen
  go_enter Tryd.func40, Tryd.ntmps40
  go_wp2_with fail
  obtain ⟨R, hR⟩ : ∃ R, R = w.heap.size := ⟨_, rfl⟩
  obtain ⟨w4, hw4⟩ : ∃ w4, w4 = (((w.alloc (.cells #[.int .i64 0, .int .i64 0, .int .i64 0, .int .i64 0, str [], str [], str []] 57)).alloc (.cells #[.slice A n c, .int .i64 0, .bool false] 85)).alloc
    (.cells #[.int .i64 0, .int .i64 0, .int .i64 0, .int .i64 0, str [], str [], str []] 57)).alloc (.cells #[.pointer (some ⟨R + 1 + 1, 0, none⟩), .pointer (some ⟨R + 1 + 1, 1, none⟩), .pointer (some ⟨R + 1 + 1, 2, none⟩), .pointer (some ⟨R + 1 + 1, 3, none⟩)] 118) := ⟨_, rfl⟩
  simp only [← hR]
  rw [← hw4]
  have hb1 : Blk w4 R 57 #[.int .i64 0, .int .i64 0, .int .i64 0, .int .i64 0, str [], str [], str []] := by
    rw [hw4, hR]; exact (((Blk.new _ _ _).alloc _).alloc _).alloc _
  have hb2 : Blk w4 (R + 1) 85 #[.slice A n c, .int .i64 0, .bool false] := by
    rw [hw4]; exact ((Blk.newAt (by simp [hR])).alloc _).alloc _
  have hb3 : Blk w4 (R + 1 + 1) 57 (dccells bs 0) := by
    rw [hw4]; exact (Blk.newAt (by simp [hR])).alloc _
  have hb4 : Blk w4 (R + 1 + 1 + 1) 118 #[.pointer (some ⟨R + 1 + 1, 0, none⟩), .pointer (some ⟨R + 1 + 1, 1, none⟩), .pointer (some ⟨R + 1 + 1, 2, none⟩), .pointer (some ⟨R + 1 + 1, 3, none⟩)] := by
    rw [hw4]; exact Blk.newAt (by simp [hR])
  have hk4 : Fresh w w4 := hw4 ▸ ((((Keep.refl _ w).alloc _).alloc _).alloc _).alloc _
  have HS := Lib.hid (And.intro hb1 (And.intro hb2 (And.intro hb3 (And.intro hb4 hk4))))
  have HR := Lib.hid hR
  clear hb1 hb2 hb3 hb4 hk4 hw4 hR hb hnc hn
  go_loopw [17] (fun i wr => ∃ (k : Nat), k ≤ 4 ∧ i = .int .i64 (k : Int) ∧ Hid (DRel A n c R bs w k wr)) (fun i _ => 4 - (intOf i).toNat)
  case atStart => exact ⟨0, by omega, rfl, HS.out.2.1, HS.out.2.2.1, HS.out.2.2.2.1, HS.out.1, HS.out.2.2.2.2⟩
  case round =>
    obtain ⟨k, hk, rfl, HW⟩ := hrel
    by_cases hlt : k < 4
    · have HC : Calls Tryd.prog 35 #[.pointer (some ⟨R + 1, 0, none⟩), .int .i64 4611686018427387904] wr fun e w' => CountPost (R + 1) A n c wr (cst bs (k + 1)) e w' := by
        obtain ⟨hr, hd, hl, hz, hf⟩ := HW.out
        obtain ⟨hT, hb, hlen, hnc, hn⟩ := HA.out
        have hle := cst_le bs k
        exact rcount_any (R + 1) _ A n c bs (cst bs k).2.1 (cst bs k).2.2 4611686018427387904 wr hr (by omega) (hb.keep (hf.weaken (fun _ _ _ => trivial))) hn
      replace HC := Lib.hid HC
      obtain ⟨q, hq⟩ : ∃ q, q = cst bs (k + 1) := ⟨_, rfl⟩
      rw [← hq] at HC
      have HQ := Lib.hid hq
      clear hq
      have hfin : ∀ w1, Rdr w1 (R + 1) A n c q.2.1 q.2.2 → Keep (fun i => i ≠ R + 1) wr w1 → DRel A n c R bs w (k + 1) (w1.setCell ⟨R + 1 + 1, k, none⟩ (.int .i64 (q.1 : Int))) := by
        intro w1 hr1 hk1
        obtain ⟨hr, hd, hl, hz, hf⟩ := HW.out
        have hR := HR.out
        have hf1 : Fresh w w1 := hf.comp hk1 (fun _ _ h => h) (fun i hi _ => by omega)
        refine ⟨?_, ?_, (hl.keep hk1 (by omega)).far (by simp) _, (hz.keep hk1 (by omega)).far (by simp; omega) _, hf1.setCell (fun h => ?_) _⟩
        · rw [← HQ.out]; exact Blk.far hr1 (by simp) _
        · rw [← dccells_set bs k hlt, ← HQ.out]; exact (hd.keep hk1 (by omega)).set k _
        · simp at h; omega
      have HFIN := Lib.hid hfin
      clear hfin
      have hck : k = 0 ∨ k = 1 ∨ k = 2 ∨ k = 3 := by omega
      rcases hck with rfl | rfl | rfl | rfl
      all_goals
        obtain ⟨hr, hd, hl, hz, hf⟩ := HW.out
        have l0 := hl.cell 0
        have l1 := hl.cell 1
        have l2 := hl.cell 2
        have l3 := hl.cell 3
        have hdlt := hd.lt
        simp at l0 l1 l2 l3
        clear hr hd hl hz hf
        go_wp2_with fail
        refine HC.out.mono ?_
        rintro e w1 ⟨rfl, hr1, hk1⟩
        obtain ⟨hr, hd, hl, hz, hf⟩ := HW.out
        have hd1 := hd.keep hk1 (by omega)
        have hl1 := hl.keep hk1 (by omega)
        have hz1 := hz.keep hk1 (by omega)
        have d0 := hd1.cell 0
        have d1 := hd1.cell 1
        have d2 := hd1.cell 2
        have d3 := hd1.cell 3
        simp [dccells] at d0 d1 d2 d3
        have f0 := hd1.frozen 0
        have f1 := hd1.frozen 1
        have f2 := hd1.frozen 2
        have f3 := hd1.frozen 3
        have HX := Lib.hid (HFIN.out w1 hr1 hk1)
        clear hr hd hl hz hf hr1 hk1 hd1 hl1 hz1 l0 l1 l2 l3
        go_wp2_with fail
        refine ⟨⟨_, ?_, ?_, HX.out⟩, by simp [intOf]⟩
        · omega
        · rfl
    · obtain rfl : k = 4 := by omega
      have ht : ∀ (j : Nat) (w0 : World), Rdr w0 (R + 1) A n c (tst bs j).2.1 (tst bs j).2.2 → Fresh w w0 → Calls Tryd.prog 45 #[.pointer (some ⟨R + 1, 0, none⟩), .int .i64 8] w0 fun e w' => TextPost (R + 1) A n c w0 (tst bs (j + 1)) e w' := by
        intro j w0 hr hf
        obtain ⟨hT, hb, hlen, hnc, hn⟩ := HA.out
        have hR := HR.out
        have hle := tst_le bs j
        exact rtext_any (R + 1) _ A n c bs (tst bs j).2.1 (tst bs j).2.2 8 w0 hr (fun i hi => by omega) (by omega) hnc (hb.keep (hf.weaken (fun _ _ _ => trivial))) hn
      have HT3 := Lib.hid ht
      clear ht
      obtain ⟨q1, hq1⟩ : ∃ q, q = tst bs 1 := ⟨_, rfl⟩
      obtain ⟨q2, hq2⟩ : ∃ q, q = tst bs 2 := ⟨_, rfl⟩
      obtain ⟨q3, hq3⟩ : ∃ q, q = tst bs 3 := ⟨_, rfl⟩
      have HQ := Lib.hid (And.intro hq1 (And.intro hq2 hq3))
      have C0 := Lib.hid (HT3.out 0 wr HW.out.1 HW.out.2.2.2.2)
      rw [← hq1] at C0
      clear hq1 hq2 hq3 hlt hk
      go_wp2_with fail
      refine C0.out.mono ?_
      rintro e w1 ⟨rfl, hr1, hk1⟩
      have hf1 : Fresh w w1 := HW.out.2.2.2.2.comp hk1 (fun _ _ h => h) (fun i hi _ => by have := HR.out; omega)
      have HX1 := Lib.hid (And.intro hr1 (And.intro hk1 hf1))
      have C1 := Lib.hid (HT3.out 1 w1 (by rw [← HQ.out.1]; exact hr1) hf1)
      rw [← HQ.out.2.1] at C1
      clear hr1 hk1 hf1 C0
      go_wp2_with fail
      refine C1.out.mono ?_
      rintro e w2 ⟨rfl, hr2, hk2⟩
      have hf2 : Fresh w w2 := HX1.out.2.2.comp hk2 (fun _ _ h => h) (fun i hi _ => by have := HR.out; omega)
      have HX2 := Lib.hid (And.intro hr2 (And.intro hk2 hf2))
      have C2 := Lib.hid (HT3.out 2 w2 (by rw [← HQ.out.2.1]; exact hr2) hf2)
      rw [← HQ.out.2.2] at C2
      clear hr2 hk2 hf2 C1
      go_wp2_with fail
      refine C2.out.mono ?_
      rintro e w3 ⟨rfl, hr3, hk3⟩
      have hf3 : Fresh w w3 := HX2.out.2.2.comp hk3 (fun _ _ h => h) (fun i hi _ => by have := HR.out; omega)
      have hkk := (HX1.out.2.1.trans HX2.out.2.1).trans hk3
      obtain ⟨hr, hd, hl, hz, hf⟩ := HW.out
      have hd3 := hd.keep hkk (by omega)
      have hz3 := hz.keep hkk (by omega)
      have d0 := hd3.cell 0
      have d1 := hd3.cell 1
      have d2 := hd3.cell 2
      have d3 := hd3.cell 3
      have d4 := hd3.cell 4
      have d5 := hd3.cell 5
      have d6 := hd3.cell 6
      simp [dccells] at d0 d1 d2 d3 d4 d5 d6
      have f4 := hd3.frozen 4
      have f5 := hd3.frozen 5
      have f6 := hd3.frozen 6
      have HX3 := Lib.hid (And.intro hr3 (And.intro hd3 (And.intro hz3 hf3)))
      clear hr hd hl hz hf hr3 hk3 hd3 hz3 hkk hf3 C2
      go_wp2_with fail
      obtain ⟨W, hW⟩ : ∃ W, W = ((w3.setCell ⟨R + 1 + 1, 4, none⟩ (str q1.1)).setCell ⟨R + 1 + 1, 5, none⟩ (str q2.1)).setCell ⟨R + 1 + 1, 6, none⟩ (str q3.1) := ⟨_, rfl⟩
      rw [← hW]
      obtain ⟨hr3, hd3, hz3, hf3⟩ := HX3.out
      have hR := HR.out
      have hrW : Rdr W (R + 1) A n c q3.2.1 q3.2.2 := by rw [hW]; exact ((Blk.far hr3 (by simp) _).far (by simp) _).far (by simp) _
      have hzW : Blk W R 57 #[.int .i64 0, .int .i64 0, .int .i64 0, .int .i64 0, str [], str [], str []] := by rw [hW]; exact ((hz3.far (by simp; omega) _).far (by simp; omega) _).far (by simp; omega) _
      have hdW : Blk W (R + 1 + 1) 57 #[.int .i64 ((cst bs 1).1 : Int), .int .i64 ((cst bs 2).1 : Int), .int .i64 ((cst bs 3).1 : Int), .int .i64 ((cst bs 4).1 : Int), str q1.1, str q2.1, str q3.1] := by
        rw [hW]; exact ((hd3.set 4 _).set 5 _).set 6 _
      have hfW : Fresh w W := by rw [hW]; exact ((hf3.setCell (fun h => by simp at h; omega) _).setCell (fun h => by simp at h; omega) _).setCell (fun h => by simp at h; omega) _
      have CS := Lib.hid (rsound_any (R + 1) A n c q3.2.1 q3.2.2 W hrW)
      have HZ := Lib.hid (And.intro hzW (And.intro hdW hfW))
      clear hr3 hd3 hz3 hf3 hrW hzW hdW hfW hR hW d0 d1 d2 d3 d4 d5 d6 f4 f5 f6
      refine CS.out.mono ?_
      rintro e _ ⟨rfl, dk, rfl⟩
      obtain ⟨sb, hsb⟩ : ∃ sb, sb = (!q3.2.2 && decide (q3.2.1 = n)) := ⟨_, rfl⟩
      rw [← hsb]
      have HSB := Lib.hid hsb
      clear hsb CS
      obtain ⟨hzW, hdW, hfW⟩ := HZ.out
      have d0 := (hdW.drewN dk).cell 0
      have d1 := (hdW.drewN dk).cell 1
      have d2 := (hdW.drewN dk).cell 2
      have d3 := (hdW.drewN dk).cell 3
      have d4 := (hdW.drewN dk).cell 4
      have d5 := (hdW.drewN dk).cell 5
      have d6 := (hdW.drewN dk).cell 6
      simp at d0 d1 d2 d3 d4 d5 d6
      clear hzW hdW hfW
      have HSO := Lib.hid (show soundB bs = sb by rw [HSB.out]; unfold soundB; rw [← HQ.out.2.2, HA.out.2.2.1])
      cases sb with
      | false =>
        obtain ⟨hzW, hdW, hfW⟩ := HZ.out
        have z0 := (hzW.drewN dk).cell 0
        have z1 := (hzW.drewN dk).cell 1
        have z2 := (hzW.drewN dk).cell 2
        have z3 := (hzW.drewN dk).cell 3
        have z4 := (hzW.drewN dk).cell 4
        have z5 := (hzW.drewN dk).cell 5
        have z6 := (hzW.drewN dk).cell 6
        have y0 := (hzW.drewN dk).frozen 0
        have y1 := (hzW.drewN dk).frozen 1
        have y2 := (hzW.drewN dk).frozen 2
        have y3 := (hzW.drewN dk).frozen 3
        have y4 := (hzW.drewN dk).frozen 4
        have y5 := (hzW.drewN dk).frozen 5
        have y6 := (hzW.drewN dk).frozen 6
        simp at z0 z1 z2 z3 z4 z5 z6 y0 y1 y2 y3 y4 y5 y6
        clear hzW hdW hfW
        go_wp2_with fail
        obtain ⟨hzW, hdW, hfW⟩ := HZ.out
        have hR := HR.out
        refine bodyPost_ret (results_blk rfl _ _ R 57 #[.int .i64 0, .int .i64 0, .int .i64 0, .int .i64 0, str [], str [], str []] _ (.int .i64 130) rfl (((((((hzW.drewN dk).set 0 _).set 1 _).set 2 _).set 3 _).set 4 _).set 5 _ |>.set 6 _) Tryd.underlying57 rfl (by kernel_rfl) rfl) rfl ?_
        refine ⟨?_, ?_⟩
        · rw [if_neg (by rw [decOk, HSO.out]; simp)]
        · exact (((((((hfW.drewN dk).setCell (fun h => by simp at h; omega) _).setCell (fun h => by simp at h; omega) _).setCell (fun h => by simp at h; omega) _).setCell (fun h => by simp at h; omega) _).setCell (fun h => by simp at h; omega) _).setCell (fun h => by simp at h; omega) _).setCell (fun h => by simp at h; omega) _
      | true =>
        have CV := Lib.hid (valid_any ((cst bs 1).1 : Int) ((cst bs 2).1 : Int) ((cst bs 3).1 : Int) ((cst bs 4).1 : Int) q1.1 q2.1 q3.1 (W.drewN dk) (HA.out.1.fresh (HZ.out.2.2.drewN dk)))
        obtain ⟨vb, hvb⟩ : ∃ vb, vb = validB ((cst bs 1).1 : Int) ((cst bs 2).1 : Int) ((cst bs 3).1 : Int) ((cst bs 4).1 : Int) q1.1 q2.1 q3.1 := ⟨_, rfl⟩
        rw [← hvb] at CV
        have HO := Lib.hid (show decOk bs = vb by rw [decOk, HSO.out, Bool.true_and, hvb, HQ.out.1, HQ.out.2.1, HQ.out.2.2])
        clear hvb
        go_wp2_with fail
        refine CV.out.mono ?_
        rintro e w5 ⟨rfl, hk5⟩
        obtain ⟨hzW, hdW, hfW⟩ := HZ.out
        have hz5 := (hzW.drewN dk).keep hk5 trivial
        have hd5 := (hdW.drewN dk).keep hk5 trivial
        have d0 := hd5.cell 0
        have d1 := hd5.cell 1
        have d2 := hd5.cell 2
        have d3 := hd5.cell 3
        have d4 := hd5.cell 4
        have d5 := hd5.cell 5
        have d6 := hd5.cell 6
        have z0 := hz5.cell 0
        have z1 := hz5.cell 1
        have z2 := hz5.cell 2
        have z3 := hz5.cell 3
        have z4 := hz5.cell 4
        have z5 := hz5.cell 5
        have z6 := hz5.cell 6
        have y0 := hz5.frozen 0
        have y1 := hz5.frozen 1
        have y2 := hz5.frozen 2
        have y3 := hz5.frozen 3
        have y4 := hz5.frozen 4
        have y5 := hz5.frozen 5
        have y6 := hz5.frozen 6
        simp at d0 d1 d2 d3 d4 d5 d6 z0 z1 z2 z3 z4 z5 z6 y0 y1 y2 y3 y4 y5 y6
        have HY := Lib.hid (And.intro hz5 ((hfW.drewN dk).trans hk5))
        clear hzW hdW hfW hz5 hd5 hk5 CV
        cases vb with
        | false =>
          go_wp2_with fail
          obtain ⟨hzW, hfW⟩ := HY.out
          have hR := HR.out
          refine bodyPost_ret (results_blk rfl _ _ R 57 #[.int .i64 0, .int .i64 0, .int .i64 0, .int .i64 0, str [], str [], str []] _ (.int .i64 130) rfl (((((((hzW).set 0 _).set 1 _).set 2 _).set 3 _).set 4 _).set 5 _ |>.set 6 _) Tryd.underlying57 rfl (by kernel_rfl) rfl) rfl ?_
          refine ⟨?_, ?_⟩
          · rw [if_neg (by rw [HO.out]; simp)]
          · exact (((((((hfW).setCell (fun h => by simp at h; omega) _).setCell (fun h => by simp at h; omega) _).setCell (fun h => by simp at h; omega) _).setCell (fun h => by simp at h; omega) _).setCell (fun h => by simp at h; omega) _).setCell (fun h => by simp at h; omega) _).setCell (fun h => by simp at h; omega) _
        | true =>
          go_wp2_with fail
          obtain ⟨hzW, hfW⟩ := HY.out
          have hR := HR.out
          refine bodyPost_ret (results_blk rfl _ _ R 57 #[.int .i64 ((cst bs 1).1 : Int), .int .i64 ((cst bs 2).1 : Int), .int .i64 ((cst bs 3).1 : Int), .int .i64 ((cst bs 4).1 : Int), str q1.1, str q2.1, str q3.1] _ (.int .i64 0) rfl (((((((hzW).set 0 _).set 1 _).set 2 _).set 3 _).set 4 _).set 5 _ |>.set 6 _) Tryd.underlying57 rfl (by kernel_rfl) rfl) rfl ?_
          refine ⟨?_, ?_⟩
          · rw [if_pos HO.out, HQ.out.1, HQ.out.2.1, HQ.out.2.2]
          · exact (((((((hfW).setCell (fun h => by simp at h; omega) _).setCell (fun h => by simp at h; omega) _).setCell (fun h => by simp at h; omega) _).setCell (fun h => by simp at h; omega) _).setCell (fun h => by simp at h; omega) _).setCell (fun h => by simp at h; omega) _).setCell (fun h => by simp at h; omega) _
end Go.Proofs.YtioinjcdkmiafaaDoor
namespace Go.Proofs.YtioinjcdkmiafaaDoor
set_option linter.unusedVariables false
set_option linter.unusedSimpArgs false
open Go.RowKit

theorem Blk.there {w : World} {g : Nat} {t : TypeId} {cs : Array Value} (h : Blk w g t cs) : w.there g 0 cs.size := fun j hj => by
  rw [h.cell (0 + j), Nat.zero_add]
  exact ⟨by simp [hj], h.frozen _⟩
theorem Blk.setCells {g : Nat} {t : TypeId} : ∀ (vs : List Value) (o : Nat) (w : World) (cs : Array Value), Blk w g t cs → o + vs.length ≤ cs.size → ∃ cs' : Array Value, Blk (w.setCells g o vs) g t cs' ∧ cs'.toList = cs.toList.take o ++ vs ++ cs.toList.drop (o + vs.length)
  | [], o, w, cs, h, _ => ⟨cs, h, by simp⟩
  | v :: r, o, w, cs, h, hl => by
    have hl' : o + (r.length + 1) ≤ cs.size := by simpa using hl
    obtain ⟨cs', h1, h2⟩ := Blk.setCells r (o + 1) _ _ (h.set o v) (by simp; omega)
    refine ⟨cs', h1, ?_⟩
    rw [h2, Array.toList_setIfInBounds]
    have ho : o < cs.toList.length := by simp; omega
    have e1 : (cs.toList.set o v).take (o + 1) = cs.toList.take o ++ [v] := by
      rw [List.take_succ_eq_append_getElem (by simpa using ho), List.take_set_of_le (Nat.le_refl _)]
      simp
    have e2 : (cs.toList.set o v).drop (o + 1 + r.length) = cs.toList.drop (o + (v :: r).length) := by
      rw [List.drop_set_of_lt (by omega)]
      congr 1
      simp
      omega
    rw [e1, e2]
    simp
theorem Keep.setCells {Z : Nat → Prop} {a : World} {g : Nat} : ∀ (vs : List Value) (o : Nat) (w : World), Keep Z a w → (g < a.heap.size → ¬ Z g) → Keep Z a (w.setCells g o vs)
  | [], _, _, h, _ => h
  | v :: r, o, w, h, hg => Keep.setCells r (o + 1) _ (h.setCell hg v) hg
theorem size_setCells {g : Nat} : ∀ (vs : List Value) (o : Nat) (w : World), (w.setCells g o vs).heap.size = w.heap.size
  | [], _, _ => rfl
  | v :: r, o, w => by
    rw [World.setCells, size_setCells r (o + 1)]
    simp [World.setCell]
theorem Blk.whole {w : World} {g : Nat} {t : TypeId} {cs0 cells : Array Value} (h : Blk w g t cs0) (hs : cs0.size = cells.size) : Blk (w.setCells g 0 cells.toList) g t cells := by
  obtain ⟨cs', h1, h2⟩ := Blk.setCells cells.toList 0 w cs0 h (by simp [hs])
  have : cs' = cells := by
    apply Array.ext'
    rw [h2]
    simp [hs]
  rwa [this] at h1
theorem wpList_store_new {P : Program} {w : World} {T : TypeId} {ops : Array Oper} {rest : List Oper} {o : Oper} {a : Act} {Q : Exit → Act → World → Prop} (hgd : o.guard = none) (x y : Operand) (ho : o.op = .store T x y) (cs0 cells : Array Value) (te : TypeId)
    (hx : a.eval x = .pointer (some ⟨w.heap.size, 0, none⟩)) (hy : a.eval y = .agg cells) (hsz : cs0.size = cells.size) (hi : (P.info? T).map (·.size) = some cells.size) (h1 : cells.all (·.oneCell') = true)
    (h : ∀ w', Blk w' w.heap.size te cells → Fresh w w' → w'.heap.size = w.heap.size + 1 → wpList P ops Q rest (a.put o.dst undef) w') :
    wpList P ops Q (o :: rest) a (w.alloc (.cells cs0 te)) := by
  have hb := Blk.new w te cs0
  have ht := hb.there
  rw [hsz] at ht
  refine wpList_store_mid hgd T x y ho w.heap.size 0 cells hx hy ht hi h1 (h _ (hb.whole hsz) ?_ ?_)
  · exact Keep.setCells _ _ _ ((Keep.refl _ w).alloc _) (fun h => absurd h (Nat.lt_irrefl _))
  · rw [size_setCells]
    simp

/-- A store of several cells, the world behind it a letter. -/
theorem wpList_store_to {P : Program} {ops : Array Oper} {rest : List Oper} {op : Oper} {a : Act} {w : World} {Q : Exit → Act → World → Prop} (hgd : op.guard = none) (ty : TypeId) (x y : Operand) (ho : op.op = .store ty x y)
    (b o : Nat) (cells : Array Value) (hx : a.eval x = .pointer (some ⟨b, o, none⟩)) (hy : a.eval y = .agg cells)
    (ht : w.there b o cells.size) (hi : (P.info? ty).map (·.size) = some cells.size) (h1 : cells.all (·.oneCell') = true)
    (h : ∀ w', Hid (w' = w.setCells b o cells.toList) → wpList P ops Q rest (a.put op.dst undef) w') : wpList P ops Q (op :: rest) a w :=
  wpList_store_mid hgd ty x y ho b o cells hx hy ht hi h1 (h _ (Lib.hid rfl))
/-- What 'buildSlice' makes of an element of many cells. -/
theorem fold_zip_at : ∀ (l : List Value) (o : Nat) (zs : Array Value), o + l.length ≤ zs.size → ((l.zipIdx o).foldl (fun cs x => cs.setIfInBounds x.snd x.fst) zs).toList = zs.toList.take o ++ l ++ zs.toList.drop (o + l.length)
  | [], o, zs, _ => by simp
  | v :: r, o, zs, hl => by
    have hl' : o + (r.length + 1) ≤ zs.size := by simpa using hl
    rw [List.zipIdx_cons, List.foldl_cons, fold_zip_at r (o + 1) _ (by simp; omega), Array.toList_setIfInBounds]
    have ho : o < zs.toList.length := by simp; omega
    have e1 : (zs.toList.set o v).take (o + 1) = zs.toList.take o ++ [v] := by
      rw [List.take_succ_eq_append_getElem (by simpa using ho), List.take_set_of_le (Nat.le_refl _)]
      simp
    have e2 : (zs.toList.set o v).drop (o + 1 + r.length) = zs.toList.drop (o + (v :: r).length) := by
      rw [List.drop_set_of_lt (by omega)]
      congr 1
      simp
      omega
    rw [e1, e2]
    simp
theorem fold_zip (l : List Value) (zs : Array Value) (h : zs.size = l.length) : l.zipIdx.foldl (fun cs x => cs.setIfInBounds x.snd x.fst) zs = l.toArray := by
  apply Array.ext'
  rw [fold_zip_at l 0 zs (by omega)]
  simp [← h]
end Go.Proofs.YtioinjcdkmiafaaDoor
