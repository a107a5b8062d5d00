/-
  MERGED: RCheck RDecode
-/
import Derived.Test.YtioinjcdkmiafaaDoorYC9
import Derived.Test.YtioinjcdkmiafaaDoorYA4
import Derived.Test.YtioinjcdkmiafaaDoorYA9
import Derived.Test.YtioinjcdkmiafaaDoorYC8
namespace Go.Proofs.YtioinjcdkmiafaaDoor
set_option linter.unusedVariables false
set_option linter.unusedSimpArgs false
open Go.RowKit

/-- The document's words for a command's texts, by the operation. -/
def rfits (o : Int) (k v d : List UInt8) : Bool :=
  (if o = 9 then k == [] else keyB k) &&
  (if o = 1 ∨ o = 3 then valB v else if o = 5 then (numb v).2 else if o = 8 then (numb v).2 && decide (0 < (numb v).1) else if o = 9 then (numb v).2 && (decide (0 ≤ (numb v).1) && decide ((numb v).1 < 16)) else v == []) &&
  (if o = 3 then valB d else d == [])
theorem rfits_eq (on : Nat) (k v d : List UInt8) (h1 : 1 ≤ on) (h9 : on ≤ 9) : fitsB (shapeTab.getD on 0) k v d = rfits (on : Int) k v d := by
  have hk : keyB [] = false := rfl
  have hd : valB [] = true := rfl
  have hc : on = 1 ∨ on = 2 ∨ on = 3 ∨ on = 4 ∨ on = 5 ∨ on = 6 ∨ on = 7 ∨ on = 8 ∨ on = 9 := by omega
  rcases hc with rfl | rfl | rfl | rfl | rfl | rfl | rfl | rfl | rfl
  · unfold fitsB rfits
    rw [show hasB (shapeTab.getD 1 0) 1 = true by decide, show hasB (shapeTab.getD 1 0) 4 = false by decide, show hasB (shapeTab.getD 1 0) 2 = true by decide]
    cases keyB k <;> cases d <;> simp [hd]
  · unfold fitsB rfits
    rw [show hasB (shapeTab.getD 2 0) 1 = true by decide, show hasB (shapeTab.getD 2 0) 4 = false by decide, show hasB (shapeTab.getD 2 0) 2 = false by decide, show hasB (shapeTab.getD 2 0) 8 = false by decide, show hasB (shapeTab.getD 2 0) 16 = false by decide, show hasB (shapeTab.getD 2 0) 32 = false by decide]
    cases keyB k <;> cases d <;> simp [hd]
  · unfold fitsB rfits
    rw [show hasB (shapeTab.getD 3 0) 1 = true by decide, show hasB (shapeTab.getD 3 0) 4 = true by decide, show hasB (shapeTab.getD 3 0) 2 = true by decide]
    cases keyB k <;> cases hv : valB d <;> simp [hd]
  · unfold fitsB rfits
    rw [show hasB (shapeTab.getD 4 0) 1 = true by decide, show hasB (shapeTab.getD 4 0) 4 = false by decide, show hasB (shapeTab.getD 4 0) 2 = false by decide, show hasB (shapeTab.getD 4 0) 8 = false by decide, show hasB (shapeTab.getD 4 0) 16 = false by decide, show hasB (shapeTab.getD 4 0) 32 = false by decide]
    cases keyB k <;> cases d <;> simp [hd]
  · unfold fitsB rfits
    rw [show hasB (shapeTab.getD 5 0) 1 = true by decide, show hasB (shapeTab.getD 5 0) 4 = false by decide, show hasB (shapeTab.getD 5 0) 2 = false by decide, show hasB (shapeTab.getD 5 0) 8 = true by decide]
    cases keyB k <;> cases d <;> simp [hd]
  · unfold fitsB rfits
    rw [show hasB (shapeTab.getD 6 0) 1 = true by decide, show hasB (shapeTab.getD 6 0) 4 = false by decide, show hasB (shapeTab.getD 6 0) 2 = false by decide, show hasB (shapeTab.getD 6 0) 8 = false by decide, show hasB (shapeTab.getD 6 0) 16 = false by decide, show hasB (shapeTab.getD 6 0) 32 = false by decide]
    cases keyB k <;> cases d <;> simp [hd]
  · unfold fitsB rfits
    rw [show hasB (shapeTab.getD 7 0) 1 = true by decide, show hasB (shapeTab.getD 7 0) 4 = false by decide, show hasB (shapeTab.getD 7 0) 2 = false by decide, show hasB (shapeTab.getD 7 0) 8 = false by decide, show hasB (shapeTab.getD 7 0) 16 = false by decide, show hasB (shapeTab.getD 7 0) 32 = false by decide]
    cases keyB k <;> cases d <;> simp [hd]
  · unfold fitsB rfits
    rw [show hasB (shapeTab.getD 8 0) 1 = true by decide, show hasB (shapeTab.getD 8 0) 4 = false by decide, show hasB (shapeTab.getD 8 0) 2 = false by decide, show hasB (shapeTab.getD 8 0) 8 = false by decide, show hasB (shapeTab.getD 8 0) 16 = true by decide]
    cases keyB k <;> cases d <;> simp [hd]
  · unfold fitsB rfits
    rw [show hasB (shapeTab.getD 9 0) 1 = false by decide, show hasB (shapeTab.getD 9 0) 4 = false by decide, show hasB (shapeTab.getD 9 0) 2 = false by decide, show hasB (shapeTab.getD 9 0) 8 = false by decide, show hasB (shapeTab.getD 9 0) 16 = false by decide, show hasB (shapeTab.getD 9 0) 32 = true by decide]
    cases k <;> cases d <;> simp [hd, hk]
    all_goals cases hkk : keyB (_ :: _) <;> simp

set_option maxRecDepth 20000 in
set_option maxHeartbeats 8000000 in
theorem rcheck_any (c i r o : Int) (k v d : List UInt8) (w : World) :
    Calls Tryd.prog 29 #[cmdV c i r o k v d] w fun e w' => e = .returned (.int .i64 (if validB c i r o k v d = true then 0 else 130)) ∧ Fresh w w' := by
  obtain ⟨t, ht⟩ : ∃ t, t = validB c i r o k v d := ⟨_, rfl⟩
  rw [← ht]
  obtain ⟨q, hq⟩ : ∃ q : Int, q = (if t = true then 0 else 130) := ⟨_, rfl⟩
  rw [← hq]
  replace hq := Lib.hid hq
  by_cases hr : (0 ≤ c ∧ c < 16) ∧ (1 ≤ i ∧ i ≤ 4611686018427387904) ∧ (1 ≤ r ∧ r ≤ 4611686018427387904) ∧ (1 ≤ o ∧ o ≤ 9)
  · have HT : t = rfits o k v d := by
      obtain ⟨h1, h2, h3, h4⟩ := hr
      rw [ht]
      unfold validB
      rw [if_neg (by omega), if_neg (by omega), if_neg (by simp [countB]; omega), if_neg (by simp [countB]; omega), if_neg (by omega), if_neg (by omega)]
      have := rfits_eq o.toNat k v d (by omega) (by omega)
      rw [this, show ((o.toNat : Nat) : Int) = o by omega]
    obtain ⟨⟨a1, a2⟩, ⟨a3, a4⟩, ⟨a5, a6⟩, ⟨a7, a8⟩⟩ := hr
    replace HT := Lib.hid HT
    clear ht
    have HN := Lib.hid (rnumber_any v)
    rw [rnum_eq] at HN
    obtain ⟨nz, hnz⟩ : ∃ nz : Int, nz = if (numb v).2 = true then (numb v).1 else 0 := ⟨_, rfl⟩
    obtain ⟨nb, hnb⟩ : ∃ nb : Bool, nb = (numb v).2 := ⟨_, rfl⟩
    rw [← hnz, ← hnb] at HN
    have HZ := Lib.hid (And.intro hnz hnb)
    clear hnz hnb
    dsimp only at HN
    have hoc : o = 1 ∨ o = 2 ∨ o = 3 ∨ o = 4 ∨ o = 5 ∨ o = 6 ∨ o = 7 ∨ o = 8 ∨ o = 9 := by omega
    clear a7 a8
    rcases hoc with rfl | rfl | rfl | rfl | rfl | rfl | rfl | rfl | rfl
    all_goals
      go_enter Tryd.func29, Tryd.ntmps29
      go_wp2_with fail
      all_goals
        refine (HN.out _).mono ?_
        rintro e _ ⟨rfl, rfl⟩
        go_wp2_with fail
        all_goals
          go_ret
          refine ⟨ret_int ?_, (Keep.refl _ w).alloc _⟩
          rw [hq.out, HT.out]
          obtain ⟨hz1, hz2⟩ := HZ.out
          first
            | (simp_all [rfits, keyB, valB]; done)
            | (simp_all [rfits, keyB, valB]; omega)
  · have HT : t = false := by
      cases t with
      | false => rfl
      | true =>
        obtain ⟨h1, h2, h3, h4, _⟩ := valid_ok ht.symm
        exact absurd ⟨h1, h2, h3, by omega⟩ hr
    have hq130 : q = 130 := by rw [hq.out, HT]; rfl
    clear ht HT hq
    replace hq130 := Lib.hid hq130
    have hor : (c < 0) ∨ (0 ≤ c ∧ 16 ≤ c) ∨ (0 ≤ c ∧ c < 16 ∧ i < 1) ∨ (0 ≤ c ∧ c < 16 ∧ 1 ≤ i ∧ 4611686018427387904 < i) ∨ (0 ≤ c ∧ c < 16 ∧ 1 ≤ i ∧ i ≤ 4611686018427387904 ∧ r < 1) ∨ (0 ≤ c ∧ c < 16 ∧ 1 ≤ i ∧ i ≤ 4611686018427387904 ∧ 1 ≤ r ∧ 4611686018427387904 < r)
      ∨ (0 ≤ c ∧ c < 16 ∧ 1 ≤ i ∧ i ≤ 4611686018427387904 ∧ 1 ≤ r ∧ r ≤ 4611686018427387904 ∧ o < 1) ∨ (0 ≤ c ∧ c < 16 ∧ 1 ≤ i ∧ i ≤ 4611686018427387904 ∧ 1 ≤ r ∧ r ≤ 4611686018427387904 ∧ 1 ≤ o ∧ 9 < o) := by omega
    clear hr
    rcases hor with b1 | ⟨b1, b2⟩ | ⟨b1, b2, b3⟩ | ⟨b1, b2, b3, b4⟩ | ⟨b1, b2, b3, b4, b5⟩ | ⟨b1, b2, b3, b4, b5, b6⟩ | ⟨b1, b2, b3, b4, b5, b6, b7⟩ | ⟨b1, b2, b3, b4, b5, b6, b7, b8⟩
    all_goals
      go_enter Tryd.func29, Tryd.ntmps29
      go_wp2_with fail
      go_ret
      exact ⟨ret_int hq130.out.symm, (Keep.refl _ w).alloc _⟩
end Go.Proofs.YtioinjcdkmiafaaDoor
namespace Go.Proofs.YtioinjcdkmiafaaDoor
set_option linter.unusedVariables false
set_option linter.unusedSimpArgs false
open Go.RowKit

/-- Between two readings: the reader, the command so far, the result's cell. -/
def NRel (A : Option Addr) (n c R : Nat) (w : World) (p : Nat) (e : Int) (cs : Array Value) (wr : World) : Prop :=
  RRd wr (R + 1) A n c p e ∧ Blk wr (R + 1 + 1) 57 cs ∧ Blk wr R 57 #[.int .i64 0, .int .i64 0, .int .i64 0, .int .i64 0, str [], str [], str []] ∧ Fresh w wr
theorem NRel.step {A : Option Addr} {n c R p p' : Nat} {e e' : Int} {cs : Array Value} {w wr w' : World} (h : NRel A n c R w p e cs wr) (hR : R = w.heap.size) (hr : RRd w' (R + 1) A n c p' e') (hk : Keep (fun i => i ≠ R + 1) wr w') (k : Nat) (u : Value) :
    NRel A n c R w p' e' (cs.setIfInBounds k u) (w'.setCell ⟨R + 1 + 1, k, none⟩ u) := by
  obtain ⟨h1, h2, h3, h4⟩ := h
  exact ⟨Blk.far hr (by simp) _, (h2.keep hk (by omega)).set k u, (h3.keep hk (by omega)).far (by simp; omega) _, (h4.comp hk (fun _ _ h => h) (fun i hi _ => by omega)).setCell (fun h => by simp at h; omega) _⟩

set_option maxRecDepth 20000 in
set_option maxHeartbeats 4000000 in
theorem rdecode_any (Z : Nat → Prop) (A : Option Addr) (n c : Nat) (bs : List UInt8) (w : World) (hb : Rd w Z 1 A n (Lib.byteCells bs)) (hnc : n ≤ c) (hnil : n = 0 → c = 0 ∨ A ≠ none) (hn : n ≤ 1099511627770) :
    Calls Tryd.prog 18 #[.slice A n c] w fun e w' => DecPost bs w e w' := by
  have hlen : bs.length = n := by simpa [Lib.byteCells] using hb.1
  replace hb := hb.old (by decide)
  obtain ⟨R, hR⟩ : ∃ R, R = w.heap.size := ⟨_, rfl⟩
  have HA := Lib.hid (And.intro hb (And.intro hlen (And.intro hnc (And.intro hnil (And.intro hn hR)))))
  obtain ⟨w3, hw3⟩ : ∃ w3, w3 = ((w.alloc (.cells #[.int .i64 0, .int .i64 0, .int .i64 0, .int .i64 0, str [], str [], str []] 57)).alloc (.cells #[.slice A n c, .int .i64 0, .int .i64 0] 53)).alloc (.cells #[.int .i64 0, .int .i64 0, .int .i64 0, .int .i64 0, str [], str [], str []] 57) := ⟨_, rfl⟩
  have HX0 : Hid (NRel A n c R w 0 0 #[.int .i64 0, .int .i64 0, .int .i64 0, .int .i64 0, str [], str [], str []] w3) := by
    refine ⟨?_, ?_, ?_, ?_⟩
    · rw [hw3]; exact (Blk.newAt (by simp [hR])).alloc _
    · rw [hw3]; exact Blk.newAt (by simp [hR])
    · rw [hw3, hR]; exact ((Blk.new _ _ _).alloc _).alloc _
    · rw [hw3]; exact (((Keep.refl _ w).alloc _).alloc _).alloc _
  have HN : Hid (∀ (j : Nat) (cs : Array Value) (wr : World), NRel A n c R w (nst bs j).2.1 (nst bs j).2.2 cs wr → Calls Tryd.prog 16 #[.pointer (some ⟨R + 1, 0, none⟩), .int .i64 (nlo j), .int .i64 (nhi j)] wr fun e w' => NumPost (R + 1) A n c wr (nst bs (j + 1)) e w') := by
    intro j cs wr h
    have hle := nst_le bs j
    exact readNum_any (R + 1) _ A n c bs _ _ _ _ wr h.1 (by omega) (hb.keep (h.2.2.2.weaken (fun _ _ _ => trivial))) hn
  have HT : Hid (∀ (j : Nat) (cs : Array Value) (wr : World), NRel A n c R w (ntt bs j).2.1 (ntt bs j).2.2 cs wr → Calls Tryd.prog 28 #[.pointer (some ⟨R + 1, 0, none⟩), .int .i64 8] wr fun e w' => TxtPost (R + 1) A n c wr (ntt bs (j + 1)) e w') := by
    intro j cs wr h
    have hle := ntt_le bs j
    exact readTxt_any (R + 1) _ A n c bs _ _ 8 wr h.1 (fun i hi => by omega) (by omega) hnc hnil (hb.keep (h.2.2.2.weaken (fun _ _ _ => trivial))) hn (by omega) (by omega)
  clear hb hnc hn hnil hlen
  obtain ⟨q1, hq1⟩ : ∃ q, q = nst bs 1 := ⟨_, rfl⟩
  obtain ⟨q2, hq2⟩ : ∃ q, q = nst bs 2 := ⟨_, rfl⟩
  obtain ⟨q3, hq3⟩ : ∃ q, q = nst bs 3 := ⟨_, rfl⟩
  obtain ⟨q4, hq4⟩ : ∃ q, q = nst bs 4 := ⟨_, rfl⟩
  obtain ⟨t1, ht1⟩ : ∃ q, q = ntt bs 1 := ⟨_, rfl⟩
  obtain ⟨t2, ht2⟩ : ∃ q, q = ntt bs 2 := ⟨_, rfl⟩
  obtain ⟨t3, ht3⟩ : ∃ q, q = ntt bs 3 := ⟨_, rfl⟩
  have HQ := Lib.hid (And.intro hq1 (And.intro hq2 (And.intro hq3 (And.intro hq4 (And.intro ht1 (And.intro ht2 ht3))))))
  have HC0 := HN.out 0 _ _ HX0.out
  rw [← hq1] at HC0
  replace HC0 := Lib.hid HC0
  clear hq1 hq2 hq3 hq4 ht1 ht2 ht3
  go_enter Tryd.func18, Tryd.ntmps18
  go_wp2_with fail
  simp only [← hR]
  rw [← hw3]
  clear hw3 hR
  refine HC0.out.mono ?_
  rintro e v0 ⟨rfl, hr0, hk0⟩
  have hd := HX0.out.2.1.keep hk0 (by omega)
  have d := hd.cell 0
  have f := hd.frozen 0
  simp at d
  have hdl := hd.lt
  obtain ⟨W1, hW1⟩ : ∃ W, W = v0.setCell ⟨R + 1 + 1, 0, none⟩ (.int .i64 (q1.1 : Int)) := ⟨_, rfl⟩
  have HX1 := HX0.out.step (HA.out.2.2.2.2.2) hr0 hk0 0 (.int .i64 (q1.1 : Int))
  rw [← hW1] at HX1
  simp only [List.setIfInBounds_toArray, List.set_cons_zero, List.set_cons_succ] at HX1
  replace HX1 := Lib.hid HX1
  have HC1 := HN.out 1 _ _ (by have h := HX1.out; rw [HQ.out.1] at h; exact h)
  rw [← HQ.out.2.1] at HC1
  replace HC1 := Lib.hid HC1
  clear hr0 hk0 hd HC0
  go_wp2_with fail
  rw [← hW1]
  clear hW1 d f hdl HX0
  refine HC1.out.mono ?_
  rintro e v1 ⟨rfl, hr1, hk1⟩
  have hd := HX1.out.2.1.keep hk1 (by omega)
  have d := hd.cell 1
  have f := hd.frozen 1
  simp at d
  have hdl := hd.lt
  obtain ⟨W2, hW2⟩ : ∃ W, W = v1.setCell ⟨R + 1 + 1, 1, none⟩ (.int .i64 (q2.1 : Int)) := ⟨_, rfl⟩
  have HX2 := HX1.out.step (HA.out.2.2.2.2.2) hr1 hk1 1 (.int .i64 (q2.1 : Int))
  rw [← hW2] at HX2
  simp only [List.setIfInBounds_toArray, List.set_cons_zero, List.set_cons_succ] at HX2
  replace HX2 := Lib.hid HX2
  have HC2 := HN.out 2 _ _ (by have h := HX2.out; rw [HQ.out.2.1] at h; exact h)
  rw [← HQ.out.2.2.1] at HC2
  replace HC2 := Lib.hid HC2
  clear hr1 hk1 hd HC1
  go_wp2_with fail
  rw [← hW2]
  clear hW2 d f hdl HX1
  refine HC2.out.mono ?_
  rintro e v2 ⟨rfl, hr2, hk2⟩
  have hd := HX2.out.2.1.keep hk2 (by omega)
  have d := hd.cell 2
  have f := hd.frozen 2
  simp at d
  have hdl := hd.lt
  obtain ⟨W3, hW3⟩ : ∃ W, W = v2.setCell ⟨R + 1 + 1, 2, none⟩ (.int .i64 (q3.1 : Int)) := ⟨_, rfl⟩
  have HX3 := HX2.out.step (HA.out.2.2.2.2.2) hr2 hk2 2 (.int .i64 (q3.1 : Int))
  rw [← hW3] at HX3
  simp only [List.setIfInBounds_toArray, List.set_cons_zero, List.set_cons_succ] at HX3
  replace HX3 := Lib.hid HX3
  have HC3 := HN.out 3 _ _ (by have h := HX3.out; rw [HQ.out.2.2.1] at h; exact h)
  rw [← HQ.out.2.2.2.1] at HC3
  replace HC3 := Lib.hid HC3
  clear hr2 hk2 hd HC2
  go_wp2_with fail
  rw [← hW3]
  clear hW3 d f hdl HX2
  refine HC3.out.mono ?_
  rintro e v3 ⟨rfl, hr3, hk3⟩
  have hd := HX3.out.2.1.keep hk3 (by omega)
  have d := hd.cell 3
  have f := hd.frozen 3
  simp at d
  have hdl := hd.lt
  obtain ⟨W4, hW4⟩ : ∃ W, W = v3.setCell ⟨R + 1 + 1, 3, none⟩ (.int .i64 (q4.1 : Int)) := ⟨_, rfl⟩
  have HX4 := HX3.out.step (HA.out.2.2.2.2.2) hr3 hk3 3 (.int .i64 (q4.1 : Int))
  rw [← hW4] at HX4
  simp only [List.setIfInBounds_toArray, List.set_cons_zero, List.set_cons_succ] at HX4
  replace HX4 := Lib.hid HX4
  have HC4 := HT.out 0 _ _ (by have h := HX4.out; rw [HQ.out.2.2.2.1] at h; exact h)
  rw [← HQ.out.2.2.2.2.1] at HC4
  replace HC4 := Lib.hid HC4
  clear hr3 hk3 hd HC3
  go_wp2_with fail
  rw [← hW4]
  clear hW4 d f hdl HX3
  refine HC4.out.mono ?_
  rintro e v4 ⟨rfl, hr4, hk4⟩
  have hd := HX4.out.2.1.keep hk4 (by omega)
  have d := hd.cell 4
  have f := hd.frozen 4
  simp at d
  have hdl := hd.lt
  obtain ⟨W5, hW5⟩ : ∃ W, W = v4.setCell ⟨R + 1 + 1, 4, none⟩ (str t1.1) := ⟨_, rfl⟩
  have HX5 := HX4.out.step (HA.out.2.2.2.2.2) hr4 hk4 4 (str t1.1)
  rw [← hW5] at HX5
  simp only [List.setIfInBounds_toArray, List.set_cons_zero, List.set_cons_succ] at HX5
  replace HX5 := Lib.hid HX5
  have HC5 := HT.out 1 _ _ (by have h := HX5.out; rw [HQ.out.2.2.2.2.1] at h; exact h)
  rw [← HQ.out.2.2.2.2.2.1] at HC5
  replace HC5 := Lib.hid HC5
  clear hr4 hk4 hd HC4
  go_wp2_with fail
  rw [← hW5]
  clear hW5 d f hdl HX4
  refine HC5.out.mono ?_
  rintro e v5 ⟨rfl, hr5, hk5⟩
  have hd := HX5.out.2.1.keep hk5 (by omega)
  have d := hd.cell 5
  have f := hd.frozen 5
  simp at d
  have hdl := hd.lt
  obtain ⟨W6, hW6⟩ : ∃ W, W = v5.setCell ⟨R + 1 + 1, 5, none⟩ (str t2.1) := ⟨_, rfl⟩
  have HX6 := HX5.out.step (HA.out.2.2.2.2.2) hr5 hk5 5 (str t2.1)
  rw [← hW6] at HX6
  simp only [List.setIfInBounds_toArray, List.set_cons_zero, List.set_cons_succ] at HX6
  replace HX6 := Lib.hid HX6
  have HC6 := HT.out 2 _ _ (by have h := HX6.out; rw [HQ.out.2.2.2.2.2.1] at h; exact h)
  rw [← HQ.out.2.2.2.2.2.2] at HC6
  replace HC6 := Lib.hid HC6
  clear hr5 hk5 hd HC5
  go_wp2_with fail
  rw [← hW6]
  clear hW6 d f hdl HX5
  refine HC6.out.mono ?_
  rintro e v6 ⟨rfl, hr6, hk6⟩
  have hd := HX6.out.2.1.keep hk6 (by omega)
  have d := hd.cell 6
  have f := hd.frozen 6
  simp at d
  have hdl := hd.lt
  obtain ⟨W7, hW7⟩ : ∃ W, W = v6.setCell ⟨R + 1 + 1, 6, none⟩ (str t3.1) := ⟨_, rfl⟩
  have HX7 := HX6.out.step (HA.out.2.2.2.2.2) hr6 hk6 6 (str t3.1)
  rw [← hW7] at HX7
  simp only [List.setIfInBounds_toArray, List.set_cons_zero, List.set_cons_succ] at HX7
  replace HX7 := Lib.hid HX7
  have HC7 := Lib.hid (readEnd_any (R + 1) A n c t3.2.1 t3.2.2 W7 HX7.out.1)
  clear hr6 hk6 hd HC6
  go_wp2_with fail
  rw [← hW7]
  clear hW7 d f hdl HX6
  refine HC7.out.mono ?_
  rintro e w8 ⟨rfl, hr8, hk8⟩
  obtain ⟨e8, he8⟩ : ∃ e8 : Int, e8 = (if t3.2.2 = 0 ∧ t3.2.1 ≠ n then 15 else t3.2.2) := ⟨_, rfl⟩
  rw [← he8] at hr8
  obtain ⟨-, hd7, hz7, hf7⟩ := HX7.out
  have hR := HA.out.2.2.2.2.2
  have hd8 := hd7.keep hk8 (by omega)
  have hz8 := hz7.keep hk8 (by omega)
  have hf8 : Fresh w w8 := hf7.comp hk8 (fun _ _ h => h) (fun i hi _ => by omega)
  have HSO : Hid (nsound bs = decide (e8 = 0)) := by
    show nsound bs = decide (e8 = 0)
    rw [he8]
    unfold nsound
    rw [← HQ.out.2.2.2.2.2.2, HA.out.2.1]
    by_cases h1 : t3.2.2 = 0
    · by_cases h2 : t3.2.1 = n
      · rw [if_neg (fun h => h.2 h2)]; simp [h1, h2]
      · rw [if_pos ⟨h1, h2⟩]; simp [h1, h2]
    · rw [if_neg (fun h => h1 h.1)]; simp [h1]
  have HOK : Hid (decOk bs = (decide (e8 = 0) && validB (q1.1 : Int) (q2.1 : Int) (q3.1 : Int) (q4.1 : Int) t1.1 t2.1 t3.1)) := by
    show decOk bs = _
    rw [← nOk_eq, nOk, HSO.out, HQ.out.1, HQ.out.2.1, HQ.out.2.2.1, HQ.out.2.2.2.1, HQ.out.2.2.2.2.1, HQ.out.2.2.2.2.2.1, HQ.out.2.2.2.2.2.2]
  have e2 := hr8.cell 2
  have el := hr8.lt
  simp at e2
  have HZ := Lib.hid (And.intro hz8 (And.intro hd8 hf8))
  clear hr8 hk8 hd7 hz7 hf7 hd8 hz8 hf8 he8 hR HC7 HX7
  by_cases he0 : e8 = 0
  · subst he0
    obtain ⟨hz8, hd8, hf8⟩ := HZ.out
    have CV := Lib.hid (rcheck_any (q1.1 : Int) (q2.1 : Int) (q3.1 : Int) (q4.1 : Int) t1.1 t2.1 t3.1 w8)
    obtain ⟨vb, hvb⟩ : ∃ vb, vb = validB (q1.1 : Int) (q2.1 : Int) (q3.1 : Int) (q4.1 : Int) t1.1 t2.1 t3.1 := ⟨_, rfl⟩
    rw [← hvb] at CV HOK
    clear hvb
    have d0 := hd8.cell 0
    have d1 := hd8.cell 1
    have d2 := hd8.cell 2
    have d3 := hd8.cell 3
    have d4 := hd8.cell 4
    have d5 := hd8.cell 5
    have d6 := hd8.cell 6
    simp at d0 d1 d2 d3 d4 d5 d6
    clear hz8 hd8 hf8
    go_wp2_with fail
    refine CV.out.mono ?_
    rintro e w9 ⟨rfl, hk9⟩
    obtain ⟨hz8, hd8, hf8⟩ := HZ.out
    have hz9 := hz8.keep hk9 trivial
    have hd9 := hd8.keep hk9 trivial
    clear d0 d1 d2 d3 d4 d5 d6
    have d0 := hd9.cell 0
    have z0 := hz9.cell 0
    have y0 := hz9.frozen 0
    have d1 := hd9.cell 1
    have z1 := hz9.cell 1
    have y1 := hz9.frozen 1
    have d2 := hd9.cell 2
    have z2 := hz9.cell 2
    have y2 := hz9.frozen 2
    have d3 := hd9.cell 3
    have z3 := hz9.cell 3
    have y3 := hz9.frozen 3
    have d4 := hd9.cell 4
    have z4 := hz9.cell 4
    have y4 := hz9.frozen 4
    have d5 := hd9.cell 5
    have z5 := hz9.cell 5
    have y5 := hz9.frozen 5
    have d6 := hd9.cell 6
    have z6 := hz9.cell 6
    have y6 := hz9.frozen 6
    simp at d0 d1 d2 d3 d4 d5 d6 z0 z1 z2 z3 z4 z5 z6 y0 y1 y2 y3 y4 y5 y6
    have hzl := hz9.lt
    have hdl := hd9.lt
    have HY := Lib.hid (And.intro hz9 (hf8.trans hk9))
    clear hz8 hd8 hf8 hz9 hd9 hk9 CV e2
    cases vb with
    | false =>
      go_wp2_with fail
      obtain ⟨hzW, hfW⟩ := HY.out
      have hR := HA.out.2.2.2.2.2
      refine bodyPost_ret (results_blk rfl _ _ R 57 #[.int .i64 0, .int .i64 0, .int .i64 0, .int .i64 0, str [], str [], str []] _ (.int .i64 130) rfl (((((((hzW).set 0 _).set 1 _).set 2 _).set 3 _).set 4 _).set 5 _ |>.set 6 _) Tryd.underlying57 rfl (by kernel_rfl) rfl) rfl ?_
      refine ⟨?_, ?_⟩
      · rw [if_neg (by rw [HOK.out]; simp)]
      · exact (((((((hfW).setCell (fun h => by simp at h; omega) _).setCell (fun h => by simp at h; omega) _).setCell (fun h => by simp at h; omega) _).setCell (fun h => by simp at h; omega) _).setCell (fun h => by simp at h; omega) _).setCell (fun h => by simp at h; omega) _).setCell (fun h => by simp at h; omega) _
    | true =>
      go_wp2_with fail
      obtain ⟨hzW, hfW⟩ := HY.out
      have hR := HA.out.2.2.2.2.2
      refine bodyPost_ret (results_blk rfl _ _ R 57 #[.int .i64 (q1.1 : Int), .int .i64 (q2.1 : Int), .int .i64 (q3.1 : Int), .int .i64 (q4.1 : Int), str t1.1, str t2.1, str t3.1] _ (.int .i64 0) rfl (((((((hzW).set 0 _).set 1 _).set 2 _).set 3 _).set 4 _).set 5 _ |>.set 6 _) Tryd.underlying57 rfl (by kernel_rfl) rfl) rfl ?_
      refine ⟨?_, ?_⟩
      · have hok : decOk bs = true := by rw [HOK.out]; simp
        rw [if_pos hok, ← nV_eq hok, HQ.out.1, HQ.out.2.1, HQ.out.2.2.1, HQ.out.2.2.2.1, HQ.out.2.2.2.2.1, HQ.out.2.2.2.2.2.1, HQ.out.2.2.2.2.2.2]
      · exact (((((((hfW).setCell (fun h => by simp at h; omega) _).setCell (fun h => by simp at h; omega) _).setCell (fun h => by simp at h; omega) _).setCell (fun h => by simp at h; omega) _).setCell (fun h => by simp at h; omega) _).setCell (fun h => by simp at h; omega) _).setCell (fun h => by simp at h; omega) _
  · obtain ⟨hz8, hd8, hf8⟩ := HZ.out
    have z0 := hz8.cell 0
    have y0 := hz8.frozen 0
    have z1 := hz8.cell 1
    have y1 := hz8.frozen 1
    have z2 := hz8.cell 2
    have y2 := hz8.frozen 2
    have z3 := hz8.cell 3
    have y3 := hz8.frozen 3
    have z4 := hz8.cell 4
    have y4 := hz8.frozen 4
    have z5 := hz8.cell 5
    have y5 := hz8.frozen 5
    have z6 := hz8.cell 6
    have y6 := hz8.frozen 6
    simp at z0 z1 z2 z3 z4 z5 z6 y0 y1 y2 y3 y4 y5 y6
    have hzl := hz8.lt
    clear hz8 hd8 hf8
    go_wp2_with fail
    obtain ⟨hzW, hdW, hfW⟩ := HZ.out
    have hR := HA.out.2.2.2.2.2
    refine bodyPost_ret (results_blk rfl _ _ R 57 #[.int .i64 0, .int .i64 0, .int .i64 0, .int .i64 0, str [], str [], str []] _ (.int .i64 130) rfl (((((((hzW).set 0 _).set 1 _).set 2 _).set 3 _).set 4 _).set 5 _ |>.set 6 _) Tryd.underlying57 rfl (by kernel_rfl) rfl) rfl ?_
    refine ⟨?_, ?_⟩
    · rw [if_neg (by rw [HOK.out]; simp [he0])]
    · exact (((((((hfW).setCell (fun h => by simp at h; omega) _).setCell (fun h => by simp at h; omega) _).setCell (fun h => by simp at h; omega) _).setCell (fun h => by simp at h; omega) _).setCell (fun h => by simp at h; omega) _).setCell (fun h => by simp at h; omega) _).setCell (fun h => by simp at h; omega) _
end Go.Proofs.YtioinjcdkmiafaaDoor
