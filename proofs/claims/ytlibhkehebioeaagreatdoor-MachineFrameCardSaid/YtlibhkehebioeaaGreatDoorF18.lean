/-
  MERGED: RCheck RowG FrameP FrameM
-/
import Derived.Test.YtlibhkehebioeaaGreatDoorF17
import Derived.Test.YtlibhkehebioeaaGreatDoorF5
import Derived.Test.YtlibhkehebioeaaGreatDoorF16
namespace Go.Proofs.YtlibhkehebioeaaGreatDoor
set_option linter.unusedVariables false
set_option linter.unusedSimpArgs false
open Go.RowKit

/-- The document's words for a command's texts, by the operation. -/
def rfits (o : Int) (k v d : List UInt8) : Bool :=
  (if o = 9 then k == [] else keyB k) &&
  (if o = 1 ∨ o = 3 then valB v else if o = 5 then (numb v).2 else if o = 8 then (numb v).2 && decide (0 < (numb v).1) else if o = 9 then (numb v).2 && (decide (0 ≤ (numb v).1) && decide ((numb v).1 < 16)) else v == []) &&
  (if o = 3 then valB d else d == [])
theorem rfits_eq (on : Nat) (k v d : List UInt8) (h1 : 1 ≤ on) (h9 : on ≤ 9) : fitsB (shapeTab.getD on 0) k v d = rfits (on : Int) k v d := by
  have hk : keyB [] = false := rfl
  have hd : valB [] = true := rfl
  have hc : on = 1 ∨ on = 2 ∨ on = 3 ∨ on = 4 ∨ on = 5 ∨ on = 6 ∨ on = 7 ∨ on = 8 ∨ on = 9 := by omega
  rcases hc with rfl | rfl | rfl | rfl | rfl | rfl | rfl | rfl | rfl
  · unfold fitsB rfits
    rw [show hasB (shapeTab.getD 1 0) 1 = true by decide, show hasB (shapeTab.getD 1 0) 4 = false by decide, show hasB (shapeTab.getD 1 0) 2 = true by decide]
    cases keyB k <;> cases d <;> simp [hd]
  · unfold fitsB rfits
    rw [show hasB (shapeTab.getD 2 0) 1 = true by decide, show hasB (shapeTab.getD 2 0) 4 = false by decide, show hasB (shapeTab.getD 2 0) 2 = false by decide, show hasB (shapeTab.getD 2 0) 8 = false by decide, show hasB (shapeTab.getD 2 0) 16 = false by decide, show hasB (shapeTab.getD 2 0) 32 = false by decide]
    cases keyB k <;> cases d <;> simp [hd]
  · unfold fitsB rfits
    rw [show hasB (shapeTab.getD 3 0) 1 = true by decide, show hasB (shapeTab.getD 3 0) 4 = true by decide, show hasB (shapeTab.getD 3 0) 2 = true by decide]
    cases keyB k <;> cases hv : valB d <;> simp [hd]
  · unfold fitsB rfits
    rw [show hasB (shapeTab.getD 4 0) 1 = true by decide, show hasB (shapeTab.getD 4 0) 4 = false by decide, show hasB (shapeTab.getD 4 0) 2 = false by decide, show hasB (shapeTab.getD 4 0) 8 = false by decide, show hasB (shapeTab.getD 4 0) 16 = false by decide, show hasB (shapeTab.getD 4 0) 32 = false by decide]
    cases keyB k <;> cases d <;> simp [hd]
  · unfold fitsB rfits
    rw [show hasB (shapeTab.getD 5 0) 1 = true by decide, show hasB (shapeTab.getD 5 0) 4 = false by decide, show hasB (shapeTab.getD 5 0) 2 = false by decide, show hasB (shapeTab.getD 5 0) 8 = true by decide]
    cases keyB k <;> cases d <;> simp [hd]
  · unfold fitsB rfits
    rw [show hasB (shapeTab.getD 6 0) 1 = true by decide, show hasB (shapeTab.getD 6 0) 4 = false by decide, show hasB (shapeTab.getD 6 0) 2 = false by decide, show hasB (shapeTab.getD 6 0) 8 = false by decide, show hasB (shapeTab.getD 6 0) 16 = false by decide, show hasB (shapeTab.getD 6 0) 32 = false by decide]
    cases keyB k <;> cases d <;> simp [hd]
  · unfold fitsB rfits
    rw [show hasB (shapeTab.getD 7 0) 1 = true by decide, show hasB (shapeTab.getD 7 0) 4 = false by decide, show hasB (shapeTab.getD 7 0) 2 = false by decide, show hasB (shapeTab.getD 7 0) 8 = false by decide, show hasB (shapeTab.getD 7 0) 16 = false by decide, show hasB (shapeTab.getD 7 0) 32 = false by decide]
    cases keyB k <;> cases d <;> simp [hd]
  · unfold fitsB rfits
    rw [show hasB (shapeTab.getD 8 0) 1 = true by decide, show hasB (shapeTab.getD 8 0) 4 = false by decide, show hasB (shapeTab.getD 8 0) 2 = false by decide, show hasB (shapeTab.getD 8 0) 8 = false by decide, show hasB (shapeTab.getD 8 0) 16 = true by decide]
    cases keyB k <;> cases d <;> simp [hd]
  · unfold fitsB rfits
    rw [show hasB (shapeTab.getD 9 0) 1 = false by decide, show hasB (shapeTab.getD 9 0) 4 = false by decide, show hasB (shapeTab.getD 9 0) 2 = false by decide, show hasB (shapeTab.getD 9 0) 8 = false by decide, show hasB (shapeTab.getD 9 0) 16 = false by decide, show hasB (shapeTab.getD 9 0) 32 = true by decide]
    cases k <;> cases d <;> simp [hd, hk]
    all_goals cases hkk : keyB (_ :: _) <;> simp

set_option maxRecDepth 20000 in
set_option maxHeartbeats 8000000 in
theorem rcheck_any (c i r o : Int) (k v d : List UInt8) (w : World) :
    Calls Tryz.prog 18 #[cmdV c i r o k v d] w fun e w' => e = .returned (.int .i64 (if validB c i r o k v d = true then 0 else 130)) ∧ Fresh w w' := by
  obtain ⟨t, ht⟩ : ∃ t, t = validB c i r o k v d := ⟨_, rfl⟩
  rw [← ht]
  obtain ⟨q, hq⟩ : ∃ q : Int, q = (if t = true then 0 else 130) := ⟨_, rfl⟩
  rw [← hq]
  replace hq := Lib.hid hq
  by_cases hr : (0 ≤ c ∧ c < 16) ∧ (1 ≤ i ∧ i ≤ 4611686018427387904) ∧ (1 ≤ r ∧ r ≤ 4611686018427387904) ∧ (1 ≤ o ∧ o ≤ 9)
  · have HT : t = rfits o k v d := by
      obtain ⟨h1, h2, h3, h4⟩ := hr
      rw [ht]
      unfold validB
      rw [if_neg (by omega), if_neg (by omega), if_neg (by simp [countB]; omega), if_neg (by simp [countB]; omega), if_neg (by omega), if_neg (by omega)]
      have := rfits_eq o.toNat k v d (by omega) (by omega)
      rw [this, show ((o.toNat : Nat) : Int) = o by omega]
    obtain ⟨⟨a1, a2⟩, ⟨a3, a4⟩, ⟨a5, a6⟩, ⟨a7, a8⟩⟩ := hr
    replace HT := Lib.hid HT
    clear ht
    have HN := Lib.hid (rnumber_any v)
    rw [rnum_eq] at HN
    obtain ⟨nz, hnz⟩ : ∃ nz : Int, nz = if (numb v).2 = true then (numb v).1 else 0 := ⟨_, rfl⟩
    obtain ⟨nb, hnb⟩ : ∃ nb : Bool, nb = (numb v).2 := ⟨_, rfl⟩
    rw [← hnz, ← hnb] at HN
    have HZ := Lib.hid (And.intro hnz hnb)
    clear hnz hnb
    dsimp only at HN
    have hoc : o = 1 ∨ o = 2 ∨ o = 3 ∨ o = 4 ∨ o = 5 ∨ o = 6 ∨ o = 7 ∨ o = 8 ∨ o = 9 := by omega
    clear a7 a8
    rcases hoc with rfl | rfl | rfl | rfl | rfl | rfl | rfl | rfl | rfl
    all_goals
      go_enter Tryz.func18, Tryz.ntmps18
      go_wp2_with fail
      all_goals
        refine (HN.out _).mono ?_
        rintro e _ ⟨rfl, rfl⟩
        go_wp2_with fail
        all_goals
          go_ret
          refine ⟨ret_int ?_, (Keep.refl _ w).alloc _⟩
          rw [hq.out, HT.out]
          obtain ⟨hz1, hz2⟩ := HZ.out
          first
            | (simp_all [rfits, keyB, valB]; done)
            | (simp_all [rfits, keyB, valB]; omega)
  · have HT : t = false := by
      cases t with
      | false => rfl
      | true =>
        obtain ⟨h1, h2, h3, h4, _⟩ := valid_ok ht.symm
        exact absurd ⟨h1, h2, h3, by omega⟩ hr
    have hq130 : q = 130 := by rw [hq.out, HT]; rfl
    clear ht HT hq
    replace hq130 := Lib.hid hq130
    have hor : (c < 0) ∨ (0 ≤ c ∧ 16 ≤ c) ∨ (0 ≤ c ∧ c < 16 ∧ i < 1) ∨ (0 ≤ c ∧ c < 16 ∧ 1 ≤ i ∧ 4611686018427387904 < i) ∨ (0 ≤ c ∧ c < 16 ∧ 1 ≤ i ∧ i ≤ 4611686018427387904 ∧ r < 1) ∨ (0 ≤ c ∧ c < 16 ∧ 1 ≤ i ∧ i ≤ 4611686018427387904 ∧ 1 ≤ r ∧ 4611686018427387904 < r)
      ∨ (0 ≤ c ∧ c < 16 ∧ 1 ≤ i ∧ i ≤ 4611686018427387904 ∧ 1 ≤ r ∧ r ≤ 4611686018427387904 ∧ o < 1) ∨ (0 ≤ c ∧ c < 16 ∧ 1 ≤ i ∧ i ≤ 4611686018427387904 ∧ 1 ≤ r ∧ r ≤ 4611686018427387904 ∧ 1 ≤ o ∧ 9 < o) := by omega
    clear hr
    rcases hor with b1 | ⟨b1, b2⟩ | ⟨b1, b2, b3⟩ | ⟨b1, b2, b3, b4⟩ | ⟨b1, b2, b3, b4, b5⟩ | ⟨b1, b2, b3, b4, b5, b6⟩ | ⟨b1, b2, b3, b4, b5, b6, b7⟩ | ⟨b1, b2, b3, b4, b5, b6, b7, b8⟩
    all_goals
      go_enter Tryz.func18, Tryz.ntmps18
      go_wp2_with fail
      go_ret
      exact ⟨ret_int hq130.out.symm, (Keep.refl _ w).alloc _⟩
end Go.Proofs.YtlibhkehebioeaaGreatDoor
namespace Go.Proofs.YtlibhkehebioeaaGreatDoor
set_option linter.unusedVariables false
set_option linter.unusedSimpArgs false
open Go.RowKit

/-- A row's queue reads, from a block that meets Z. -/
def RQ (w : World) (Z : Nat → Prop) (r : RowD) (q : Value) : Prop := ∃ A c, q = .slice A r.queue.length c ∧ r.queue.length ≤ c ∧ Rd w Z 1 A r.queue.length (ics r.queue)
section
variable {w w' : World} {Z Z' : Nat → Prop} {r s : RowD} {q : Value}
theorem RQ.keep (h : RQ w Z r q) (hk : Keep Z w w') : RQ w' Z r q := by
  obtain ⟨A, c, h1, h2, h3⟩ := h
  exact ⟨A, c, h1, h2, h3.keep hk⟩
theorem RQ.fresh (h : RQ w Z r q) (hk : Fresh w w') : RQ w' Z r q := h.keep (hk.weaken fun _ _ _ => trivial)
theorem RQ.weaken (h : RQ w Z r q) (hz : ∀ k, Z k → Z' k) : RQ w Z' r q := by
  obtain ⟨A, c, h1, h2, h3⟩ := h
  exact ⟨A, c, h1, h2, h3.weaken hz⟩
theorem RQ.old (h : RQ w Z r q) : RQ w (fun k => Z k ∧ k < w.heap.size) r q := by
  obtain ⟨A, c, h1, h2, h3⟩ := h
  refine ⟨A, c, h1, h2, h3.1, fun hn => ?_⟩
  obtain ⟨b, o, e, hz, hc⟩ := h3.2 hn
  exact ⟨b, o, e, ⟨hz, lt_of_cell (hc 0 _ (List.getElem?_eq_getElem (by rw [h3.1]; omega)))⟩, hc⟩
theorem RQ.one (h : RQ w Z r q) : q.oneCell' = true := by
  obtain ⟨A, c, rfl, -⟩ := h
  rfl
theorem RQ.of_own {base : Nat} (h : w.ownsRow base 3 1 q r.queue.length (ics r.queue)) : RQ w (fun k => q.ownBlock = some k) r q := by
  obtain ⟨A, c, h1, h2, h3, -⟩ := own_rdc h
  exact ⟨A, c, h1, h2, h3⟩
theorem RQ.like (h : RQ w Z r q) (he : s.queue = r.queue) : RQ w Z s q := by
  unfold RQ
  rw [he]
  exact h
theorem RQ.nil (w : World) (Z : Nat → Prop) {r : RowD} (h : r.queue = []) : RQ w Z r (.slice none 0 0) := by
  unfold RQ
  rw [h]
  exact ⟨none, 0, rfl, Nat.le_refl _, Rd.nil _ _ _ _⟩
theorem vals_one (h : RQ w Z r q) : (r.vals q).all (·.oneCell') = true := by
  exact rowA_one _ _ _ _ h.one
end
abbrev noRowA : Array Value := #[.bool false, .int .i64 0, .int .i64 0, .slice none 0 0]

/-! ### names -/
theorem names_any (w : World) : Calls Tryz.prog 22 #[] w fun e w' => (∃ g, e = .returned (.slice (some ⟨g, 0, none⟩) 3 3) ∧ Blk w' g 9 #[str [97], str [98], str [99]]) ∧ Fresh w w' := by
  go_enter Tryz.func22, Tryz.ntmps22
  go_wp2_with fail
  go_ret
  exact ⟨⟨_, rfl, Blk.new _ _ _⟩, (Keep.refl _ w).alloc _⟩

/-! ### passes -/
theorem rd_tail {w : World} {Z : Nat → Prop} {b o n c : Nat} {x : Int} {xs : List Int} (h : Rd w Z 1 (some ⟨b, o, none⟩) n (ics (x :: xs))) (hn : n = xs.length + 1) (hnc : n ≤ c) :
    Rd w Z 1 (if c = 1 then some ⟨b, o, none⟩ else some ⟨b, o + 1, none⟩) (n - 1) (ics xs) := by
  refine ⟨by simp [ics]; omega, fun hm => ?_⟩
  obtain ⟨b', o', e, hz, hc⟩ := h.2 (by omega)
  injection e with e
  injection e with e1 e2
  subst e1 e2
  rw [if_neg (by omega)]
  exact ⟨b, o + 1, rfl, hz, fun j u hu => by
      have := hc (j + 1) u (by simpa [ics] using hu)
      rwa [show o + (j + 1) = o + 1 + j by omega] at this⟩
set_option maxRecDepth 20000 in
theorem passes_any (Z : Nat → Prop) (r : RowD) (q : Value) (w : World) (h : RQ w Z r q) (hl : r.queue.length ≤ 1000000) :
    Calls Tryz.prog 47 #[.agg (r.vals q)] w fun e w' => (∃ q', e = .returned (.agg (r.passes.vals q')) ∧ RQ w' Z r.passes q') ∧ Fresh w w' := by
  obtain ⟨rh, rc, rt, rq⟩ := r
  obtain ⟨A, c, rfl, hc, hr⟩ := h.old
  clear h
  simp only at hl hc hr
  show Calls Tryz.prog 47 #[.agg #[.bool rh, .int .i64 rc, .int .i64 rt, .slice A rq.length c]] w _
  obtain ⟨g1, e1⟩ : ∃ g, g = w.heap.size := ⟨_, rfl⟩
  obtain ⟨g2, e2⟩ : ∃ g, g = w.heap.size + 1 := ⟨_, rfl⟩
  obtain ⟨n, hn⟩ : ∃ n, n = rq.length := ⟨_, rfl⟩
  have hn' : rq.length = n := hn.symm
  rw [hn'] at hl hc hr ⊢
  have HN0 := Lib.hid hn
  clear hn' hn
  go_enter Tryz.func47, Tryz.ntmps47
  go_upto_region 1 with (fail)
  rw [← e2, ← e1]
  generalize hW : World.alloc (World.alloc w _) _ = W
  have hf : Fresh w W := by rw [← hW]; exact ((Keep.refl _ w).alloc _).alloc _
  have hb1 : Blk W g1 47 #[.bool rh, .int .i64 rc, .int .i64 rt, .slice A n c] := by rw [← hW, e1]; exact (Blk.new _ _ _).alloc _
  have hb2 : Blk W g2 47 noRowA := by rw [← hW, e2]; exact Blk.newAt (by simp)
  have hrW := hr.keep (hf.weaken fun _ _ _ => trivial)
  have H2 : Hid (w.heap.size ≤ g2) := Lib.hid (by omega)
  have k3 := hb1.cell 3
  simp at k3
  have l1 := hb1.lt
  have l2 := hb2.lt
  have y0 := hb2.cell 0; have y1 := hb2.cell 1; have y2 := hb2.cell 2; have y3 := hb2.cell 3
  simp at y0 y1 y2 y3
  have z0 := hb2.frozen 0; have z1 := hb2.frozen 1; have z2 := hb2.frozen 2; have z3 := hb2.frozen 3
  have hgt : ∀ k, (Z k ∧ k < w.heap.size) → k ≠ g2 := fun k hk e => by omega
  have HB := Lib.hid (And.intro hf (And.intro hb2 (And.intro HN0.out hgt)))
  clear hf hb1 hb2 e1 e2 hW hr hgt HN0
  rcases rq with _ | ⟨x, xs⟩
  · obtain rfl : n = 0 := HB.out.2.2.1
    clear hrW hl
    go_wp2_with fail
    refine bodyPost_ret (results_one rfl _ _ g2 47 noRowA _ rfl ((((HB.out.2.1.set 0 _).set 1 _).set 2 _).set 3 _) Tryz.underlying47 rfl (by kernel_rfl)) rfl ?_
    exact ⟨⟨_, rfl, RQ.nil _ _ rfl⟩, (((HB.out.1.setCell (fun h _ => by have := H2.out; simp at h; omega) _).setCell (fun h _ => by have := H2.out; simp at h; omega) _).setCell (fun h _ => by have := H2.out; simp at h; omega) _).setCell (fun h _ => by have := H2.out; simp at h; omega) _⟩
  · have hn1 : n = xs.length + 1 := HB.out.2.2.1
    obtain ⟨b, o, rfl, hzb, hcell⟩ := hrW.2 (by omega)
    have x0 := hcell 0 _ rfl
    rw [Nat.add_zero] at x0
    have lb := lt_of_cell x0
    have hne : ¬ (n : Int) = 0 := by omega
    have hn1i : (1 : Int) ≤ (n : Int) := by omega
    have hcn : (n : Int) ≤ (c : Int) := by omega
    have HR := Lib.hid (And.intro hrW (And.intro hn1 (And.intro hc hzb)))
    clear hrW hcell hn1 hc hzb
    go_wp2_with fail
    go_region
    obtain ⟨V, hV⟩ : ∃ V, V = Value.slice (if c = 1 then some ⟨b, o, none⟩ else some ⟨b, o + 1, none⟩) (n - 1) (c - 1) := ⟨_, rfl⟩
    rw [← hV]
    have hbF := ((((HB.out.2.1.set 0 (.bool true)).set 1 (.int .i64 x)).set 2 (.int .i64 (-1))).set 3 V).drew
    have hfF := ((((HB.out.1.setCell (p := ⟨g2, 0, none⟩) (fun h _ => by have := H2.out; simp at h; omega) (.bool true)).setCell (p := ⟨g2, 1, none⟩) (fun h _ => by have := H2.out; simp at h; omega) (.int .i64 x)).setCell (p := ⟨g2, 2, none⟩) (fun h _ => by have := H2.out; simp at h; omega) (.int .i64 (-1))).setCell (p := ⟨g2, 3, none⟩) (fun h _ => by have := H2.out; simp at h; omega) V).drew
    have hkF := ((((Keep.refl (fun j => j ≠ g2) W).setCell (p := ⟨g2, 0, none⟩) (fun _ h => h rfl) (.bool true)).setCell (p := ⟨g2, 1, none⟩) (fun _ h => h rfl) (.int .i64 x)).setCell (p := ⟨g2, 2, none⟩) (fun _ h => h rfl) (.int .i64 (-1))).setCell (p := ⟨g2, 3, none⟩) (fun _ h => h rfl) V |>.drew
    generalize World.drew _ = W2 at hbF hfF hkF ⊢
    have hrd := (rd_tail (HR.out.1.keep (hkF.weaken fun j _ hj => HB.out.2.2.2 j hj)) HR.out.2.1 HR.out.2.2.1).weaken (Z' := Z) fun _ h => h.1
    have hRQ : RQ W2 Z ⟨true, x, -1, xs⟩ V := ⟨_, c - 1, by rw [hV]; congr 1; exact (by have := HR.out.2.1; omega : n - 1 = xs.length), by have := HR.out.2.1; have := HR.out.2.2.1; show xs.length ≤ c - 1; omega, by have := HR.out.2.1; rw [show xs.length = n - 1 by omega]; exact hrd⟩
    have HF := Lib.hid (And.intro hbF (And.intro hfF hRQ))
    clear hV hbF hfF hkF hrd hRQ k3 x0 y0 y1 y2 y3 z0 z1 z2 z3 hne hn1i hcn
    go_wp2_with fail
    refine bodyPost_ret (results_one rfl _ _ g2 47 #[.bool true, .int .i64 x, .int .i64 (-1), V] _ rfl HF.out.1 Tryz.underlying47 rfl (by kernel_rfl)) rfl ?_
    exact ⟨⟨V, rfl, HF.out.2.2⟩, HF.out.2.1⟩
/-! ### leaves -/
set_option maxRecDepth 20000 in
theorem leaves_any (Z : Nat → Prop) (r : RowD) (q : Value) (c : Int) (w : World) (h : RQ w Z r q) (hl : r.queue.length ≤ 1000000) :
    Calls Tryz.prog 46 #[.agg (r.vals q), .int .i64 c] w fun e w' => (∃ q', e = .returned (.agg ((r.leaves c).vals q')) ∧ RQ w' (fun k => w.heap.size ≤ k) (r.leaves c) q') ∧ Fresh w w' := by
  obtain ⟨rh, rc, rt, rq⟩ := r
  obtain ⟨A, cc, rfl, hc, hr⟩ := h
  simp only at hl hc hr
  obtain ⟨L, hL⟩ : ∃ L, L = RowD.leaves ⟨rh, rc, rt, rq⟩ c := ⟨_, rfl⟩
  rw [← hL]
  have HLL := Lib.hid hL
  clear hL
  show Calls Tryz.prog 46 #[.agg #[.bool rh, .int .i64 rc, .int .i64 rt, .slice A rq.length cc], .int .i64 c] w _
  obtain ⟨g2, e2⟩ : ∃ g, g = w.heap.size := ⟨_, rfl⟩
  obtain ⟨g4, e4⟩ : ∃ g, g = w.heap.size + 1 := ⟨_, rfl⟩
  obtain ⟨n, hn⟩ : ∃ n, n = rq.length := ⟨_, rfl⟩
  have hn' : rq.length = n := hn.symm
  rw [hn'] at hl hc hr ⊢
  have HN0 := Lib.hid hn
  clear hn' hn
  go_enter Tryz.func46, Tryz.ntmps46
  go_upto_region 1 with (fail)
  rw [← e4, ← e2]
  generalize hW : World.alloc (World.alloc w _) _ = W
  have hf : Fresh w W := by rw [← hW]; exact ((Keep.refl _ w).alloc _).alloc _
  have hb2 : Blk W g2 47 #[.bool rh, .int .i64 rc, .int .i64 rt, .slice A n cc] := by rw [← hW, e2]; exact (Blk.new _ _ _).alloc _
  have hb4 : Blk W g4 47 noRowA := by rw [← hW, e4]; exact Blk.newAt (by simp)
  have HL := Lib.hid (less_any _ A n cc rq c W (hr.keep (hf.weaken fun _ _ _ => trivial)) hl)
  have H2 : Hid (w.heap.size ≤ g2) := Lib.hid (by omega)
  have H4 : Hid (w.heap.size ≤ g4) := Lib.hid (by omega)
  have H24 : Hid (g2 ≠ g4) := Lib.hid (by omega)
  have k3 := hb2.cell 3
  simp at k3
  have l2 := hb2.lt
  have HB := Lib.hid (And.intro hf (And.intro hb2 (And.intro hb4 HN0.out)))
  clear hf hb2 hb4 e2 e4 hW hr HN0
  go_wp2_with fail
  refine Calls.mono HL.out ?_
  rintro e w1 ⟨⟨v, rfl, hv⟩, hf1⟩
  obtain ⟨n1, hn1⟩ : ∃ n1, n1 = (lessD rq c).length := ⟨_, rfl⟩
  rw [← hn1] at hv
  obtain ⟨A1, c1, rfl, hc1, hr1, -⟩ := own_rdc hv
  have hle : n1 ≤ n := by rw [hn1, HB.out.2.2.2]; exact less_le rq c
  have hb2 := HB.out.2.1.keep hf1 trivial
  have hb4 := HB.out.2.2.1.keep hf1 trivial
  have k3' := hb2.cell 3
  simp at k3'
  have z3 := hb2.frozen 3
  have l2' := hb2.lt
  have hb2' : Blk (w1.setCell ⟨g2, 3, none⟩ (.slice A1 n1 c1)) g2 47 #[.bool rh, .int .i64 rc, .int .i64 rt, .slice A1 n1 c1] := hb2.set 3 (.slice A1 n1 c1)
  have hb4' : Blk (w1.setCell ⟨g2, 3, none⟩ (.slice A1 n1 c1)) g4 47 noRowA := hb4.far (p := ⟨g2, 3, none⟩) (fun e => H24.out e.symm) _
  have hv' := own_base (own_far hv (p := ⟨g2, 3, none⟩) (own_ne_blk hv hb2 (by decide)) (.slice A1 n1 c1)) HB.out.1.size
  have hf' : Fresh w (w1.setCell ⟨g2, 3, none⟩ (.slice A1 n1 c1)) := (HB.out.1.then hf1).setCell (fun h _ => by have := H2.out; simp at h; omega) _
  have HN := Lib.hid (And.intro hn1 (And.intro hle hl))
  have HP := Lib.hid (And.intro hb2' (And.intro hb4' (And.intro hv' hf')))
  clear k3 l2 hv hf1 hc1 hr1 hb2 hb4 hb2' hb4' hv' hf' hn1 hle hl HL HB
  go_upto_region 2 with (fail)
  generalize World.setCell w1 ⟨g2, 3, none⟩ (.slice A1 n1 c1) = w2 at HP ⊢
  have HRQ : Hid (RQ w2 (fun k => w.heap.size ≤ k ∧ k ≠ g4) ⟨rh, rc, rt, lessD rq c⟩ (.slice A1 n1 c1)) := Lib.hid ((RQ.of_own (r := ⟨rh, rc, rt, lessD rq c⟩) (by have := HP.out.2.2.1; rw [HN.out.1] at this ⊢; exact this)).weaken fun k hk => ⟨(own_lt HP.out.2.2.1 hk).1, fun e => own_ne_blk HP.out.2.2.1 HP.out.2.1 (by decide) (e ▸ hk)⟩)
  have k0 := HP.out.1.cell 0; have k1 := HP.out.1.cell 1; have k2 := HP.out.1.cell 2; have k3 := HP.out.1.cell 3
  simp at k0 k1 k2 k3
  have l2 := HP.out.1.lt
  have HT4 := Lib.hid HP.out.2.1.there
  clear k3' z3 l2'
  by_cases hcs : rh = false ∨ rc ≠ c
  · obtain rfl : L = ⟨rh, rc, rt, lessD rq c⟩ := by rw [HLL.out]; unfold RowD.leaves; rw [if_pos hcs]
    clear HLL
    have hcs2 : rh = false ∨ (rh = true ∧ rc ≠ c) := by
      cases rh
      · exact .inl rfl
      · exact .inr ⟨rfl, hcs.resolve_left (by simp)⟩
    clear hcs
    rcases hcs2 with rfl | ⟨rfl, hne⟩
    · go_wp2_with (refine wpList_store_to rfl 47 (.tmp 4) (.tmp 19) rfl g4 0 #[.bool false, .int .i64 rc, .int .i64 rt, .slice A1 n1 c1] rfl rfl HT4.out (by kernel_rfl) (rowA_one _ _ _ _ rfl) ?_)
      intro w3 hw3
      have hb3 := Blk.whole HP.out.2.1 (cells := #[.bool false, .int .i64 rc, .int .i64 rt, .slice A1 n1 c1]) rfl
      rw [← hw3.out] at hb3
      have hf3 : Fresh w w3 := by rw [hw3.out]; exact Keep.setCells _ _ _ HP.out.2.2.2 (fun h _ => by have := H4.out; omega)
      have hk3 : Keep (fun j => j ≠ g4) w2 w3 := by rw [hw3.out]; exact Keep.setCells _ _ _ (Keep.refl _ w2) (fun _ e => e rfl)
      have hq3 := (HRQ.out.keep (hk3.weaken fun _ _ h => h.2)).weaken (Z' := fun k => w.heap.size ≤ k) fun _ h => h.1
      have H3 := Lib.hid (And.intro hb3 (And.intro hf3 hq3))
      clear k0 k1 k2 k3 l2 hw3 hb3 hf3 hk3 hq3 HT4
      go_wp2_with fail
      refine bodyPost_ret (results_one rfl _ _ g4 47 #[.bool false, .int .i64 rc, .int .i64 rt, .slice A1 n1 c1] _ rfl H3.out.1 Tryz.underlying47 rfl (by kernel_rfl)) rfl ?_
      exact ⟨⟨_, rfl, H3.out.2.2⟩, H3.out.2.1⟩
    · go_wp2_with (refine wpList_store_to rfl 47 (.tmp 4) (.tmp 19) rfl g4 0 #[.bool true, .int .i64 rc, .int .i64 rt, .slice A1 n1 c1] rfl rfl HT4.out (by kernel_rfl) (rowA_one _ _ _ _ rfl) ?_)
      intro w3 hw3
      have hb3 := Blk.whole HP.out.2.1 (cells := #[.bool true, .int .i64 rc, .int .i64 rt, .slice A1 n1 c1]) rfl
      rw [← hw3.out] at hb3
      have hf3 : Fresh w w3 := by rw [hw3.out]; exact Keep.setCells _ _ _ HP.out.2.2.2 (fun h _ => by have := H4.out; omega)
      have hk3 : Keep (fun j => j ≠ g4) w2 w3 := by rw [hw3.out]; exact Keep.setCells _ _ _ (Keep.refl _ w2) (fun _ e => e rfl)
      have hq3 := (HRQ.out.keep (hk3.weaken fun _ _ h => h.2)).weaken (Z' := fun k => w.heap.size ≤ k) fun _ h => h.1
      have H3 := Lib.hid (And.intro hb3 (And.intro hf3 hq3))
      clear k0 k1 k2 k3 l2 hw3 hb3 hf3 hk3 hq3 HT4
      go_wp2_with fail
      refine bodyPost_ret (results_one rfl _ _ g4 47 #[.bool true, .int .i64 rc, .int .i64 rt, .slice A1 n1 c1] _ rfl H3.out.1 Tryz.underlying47 rfl (by kernel_rfl)) rfl ?_
      exact ⟨⟨_, rfl, H3.out.2.2⟩, H3.out.2.1⟩
  · obtain ⟨rfl, rfl⟩ : rh = true ∧ rc = c := by
      cases rh
      · exact absurd (.inl rfl) hcs
      · exact ⟨rfl, Classical.not_not.1 fun h => hcs (.inr h)⟩
    have hL2 : L = RowD.passes ⟨true, rc, rt, lessD rq rc⟩ := by rw [HLL.out]; unfold RowD.leaves; rw [if_neg hcs]
    have hps := passes_any _ ⟨true, rc, rt, lessD rq rc⟩ (.slice A1 n1 c1) w2 HRQ.out (by have := HN.out.2; rw [← HN.out.1]; omega)
    rw [← hL2] at hps
    clear HLL hL2
    obtain ⟨ph, pc, pt, pq⟩ := L
    simp only [RowD.vals] at hps
    have hv0 : (⟨true, rc, rt, lessD rq rc⟩ : RowD).vals (.slice A1 n1 c1) = #[.bool true, .int .i64 rc, .int .i64 rt, .slice A1 n1 c1] := rfl
    have HPS := Lib.hid hps
    clear hcs hps hv0
    go_wp2_with fail
    refine Calls.mono HPS.out ?_
    rintro e w3 ⟨⟨q', rfl, hq'⟩, hf3⟩
    have hb4 := HP.out.2.1.keep hf3 trivial
    have HT3 := Lib.hid hb4.there
    have hone := hq'.one
    have H3 := Lib.hid (And.intro hq' (And.intro (HP.out.2.2.2.then hf3) hb4))
    clear hq' hf3 hb4 HPS HT4 k0 k1 k2 k3 l2
    go_wp2_with (refine wpList_store_to rfl 47 (.tmp 4) (.tmp 21) rfl g4 0 #[.bool ph, .int .i64 pc, .int .i64 pt, q'] rfl rfl HT3.out (by kernel_rfl) (rowA_one _ _ _ _ hone) ?_)
    intro w4 hw4
    have hb4 := Blk.whole H3.out.2.2 (cells := #[.bool ph, .int .i64 pc, .int .i64 pt, q']) rfl
    rw [← hw4.out] at hb4
    have hf4 : Fresh w w4 := by rw [hw4.out]; exact Keep.setCells _ _ _ H3.out.2.1 (fun h _ => by have := H4.out; omega)
    have hk4 : Keep (fun j => j ≠ g4) w3 w4 := by rw [hw4.out]; exact Keep.setCells _ _ _ (Keep.refl _ w3) (fun _ e => e rfl)
    have hq4 := (H3.out.1.keep (hk4.weaken fun _ _ h => h.2)).weaken (Z' := fun k => w.heap.size ≤ k) fun _ h => h.1
    have H5 := Lib.hid (And.intro hb4 (And.intro hf4 hq4))
    clear hw4 hb4 hf4 hk4 hq4 HT3
    go_wp2_with fail
    refine bodyPost_ret (results_one rfl _ _ g4 47 #[.bool ph, .int .i64 pc, .int .i64 pt, q'] _ rfl H5.out.1 Tryz.underlying47 rfl (by kernel_rfl)) rfl ?_
    exact ⟨⟨_, rfl, H5.out.2.2⟩, H5.out.2.1⟩
end Go.Proofs.YtlibhkehebioeaaGreatDoor
namespace Go.Proofs.YtlibhkehebioeaaGreatDoor
set_option linter.unusedVariables false
set_option linter.unusedSimpArgs false

theorem pput_find (k k' v : Txt) (ps : List (Txt × Txt)) : pfindD k' (pputD k v ps) = if k = k' then some (k, v) else pfindD k' ps := by
  unfold pputD
  cases hf : pfindD k ps with
  | some x =>
    obtain ⟨h1, h2⟩ := findK_some hf
    exact findK_set (key := Prod.fst) (x := (k, v)) ⟨x, h2, h1⟩
  | none => exact findK_ins (key := Prod.fst) (x := (k, v)) (findK_none hf)
theorem pput_size (k v : Txt) (ps : List (Txt × Txt)) : ps.length ≤ (pputD k v ps).length ∧ (pputD k v ps).length ≤ ps.length + 1 := by
  unfold pputD
  cases hf : pfindD k ps with
  | some x => simp only; rw [setK_len]; omega
  | none => simp only; rw [insK_len]; omega
theorem del_size {α : Type} {key : α → Txt} (k : Txt) : ∀ (l : List α), Rise (l.map key) → l.length ≤ (delK key k l).length + 1
  | [], _ => by simp
  | y :: r, h => by
    obtain ⟨h1, h2⟩ := List.pairwise_cons.1 h
    by_cases hy : key y = k
    · have : delK key k (y :: r) = r := by
        unfold delK
        rw [List.filter_cons]
        rw [if_neg (by simp [hy])]
        refine List.filter_eq_self.2 fun x hx => ?_
        have := before_ne (h1 (key x) (List.mem_map_of_mem hx))
        simp
        exact fun e => this (hy.trans e.symm)
      rw [this]
      simp
    · have : delK key k (y :: r) = y :: delK key k r := by
        unfold delK
        rw [List.filter_cons, if_pos (by simp [hy])]
      rw [this]
      have := del_size (key := key) k r h2
      simp only [List.length_cons]
      omega
section
variable {s : StD} {num : Txt → Int × Bool} {ita : Int → Txt} {c i r o : Int} {k v d : Txt}
/-- What became of the pairs. -/
structure PFrame (o : Int) (k : Txt) (ps qs : List (Txt × Txt)) : Prop where
  find : ∀ k', k' ≠ k ∨ 6 ≤ o ∨ o = 2 → pfindD k' qs = pfindD k' ps
  up : qs.length ≤ ps.length + 1
  down : ps.length ≤ qs.length + 1
theorem PFrame.refl (o : Int) (k : Txt) (ps : List (Txt × Txt)) : PFrame o k ps ps := ⟨fun _ _ => rfl, by omega, by omega⟩
theorem PFrame.put {o : Int} {k v : Txt} {ps : List (Txt × Txt)} (h : o ≤ 5) (h2 : o ≠ 2) : PFrame o k ps (pputD k v ps) :=
  ⟨fun k' hk => by rw [pput_find, if_neg (by rcases hk with hk | hk | hk; exact fun e => hk e.symm; omega; exact absurd hk h2)], (pput_size k v ps).2, by have := (pput_size k v ps).1; omega⟩
theorem onKey_frame (hp : PInv s.pairs) (ho : o ≤ 5) : PFrame o k s.pairs (onKeyD num ita o k v d s).2.pairs ∧ (onKeyD num ita o k v d s).2.locks = s.locks := by
  unfold onKeyD
  split
  · split
    · rename_i h
      split
      · exact ⟨.refl _ _ _, rfl⟩
      · exact ⟨.put ho (by omega), rfl⟩
    · exact ⟨.refl _ _ _, rfl⟩
  · split
    · exact ⟨.put ho (by omega), rfl⟩
    · split
      · split
        · exact ⟨.put ho (by omega), rfl⟩
        · exact ⟨.refl _ _ _, rfl⟩
      · split
        · refine ⟨⟨fun k' hk => ?_, Nat.le_trans (delK_len _ _) (Nat.le_succ _), del_size k _ hp.rise⟩, rfl⟩
          show findK Prod.fst k' (delK Prod.fst k s.pairs) = findK Prod.fst k' s.pairs
          rw [findK_del, if_neg]
          rcases hk with hk | hk | hk
          · exact hk
          · omega
          · omega
        · split
          · split
            · exact ⟨.refl _ _ _, rfl⟩
            · split
              · exact ⟨.refl _ _ _, rfl⟩
              · exact ⟨.put ho (by omega), rfl⟩
          · exact ⟨.refl _ _ _, rfl⟩
theorem onLock_pairs : (onLockD num c o k v s).2.pairs = s.pairs := by
  unfold onLockD
  split
  · repeat' split
    all_goals rfl
  · repeat' split
    all_goals first | rfl | exact (pass_rest _ _).1
theorem end_pairs : (endD num v s).2.pairs = s.pairs := by
  unfold endD
  split
  · rfl
  · exact (lets_rest _ _).1
theorem does_frame (hp : PInv s.pairs) : PFrame o k s.pairs (doesD num ita c o k v d s).2.pairs ∧ (o ≤ 5 → (doesD num ita c o k v d s).2.locks = s.locks) := by
  unfold doesD
  split
  · rename_i h
    exact ⟨(onKey_frame hp h).1, fun _ => (onKey_frame hp h).2⟩
  · split
    · rw [onLock_pairs]
      exact ⟨.refl _ _ _, fun h => by omega⟩
    · rw [end_pairs]
      exact ⟨.refl _ _ _, fun h => by omega⟩
theorem apply_frame (hi : Inv s) : PFrame o k s.pairs (applyD c i r o k v d s).2.pairs ∧ (o ≤ 5 → ((sessD c s).2 = true → i ≤ (sessD c s).1.inc) → (applyD c i r o k v d s).2.locks = s.locks) := by
  unfold applyD
  split
  · rename_i hv
    have hV := vcmd_of hv
    unfold applyV
    simp only
    split
    · exact ⟨.refl _ _ _, fun _ _ => rfl⟩
    · split
      · exact ⟨.refl _ _ _, fun _ _ => rfl⟩
      · split
        · rename_i hz
          have h1 : (letsD c s).2.pairs = s.pairs := (lets_rest c s).1
          have h2 := does_frame (num := numb) (ita := Lib.itoa) (c := c) (o := o) (k := k) (v := v) (d := d) (s := (letsD c s).2) (by rw [h1]; exact hi.pr)
          refine ⟨by have := h2.1; rw [h1] at this; exact this, fun _ hs => ?_⟩
          exfalso
          unfold sessD at hs
          rw [if_neg (by have := hV.c0; have := hV.c1; omega)] at hs
          have := hs rfl
          simp only at this
          omega
        · have h2 := does_frame (num := numb) (ita := Lib.itoa) (c := c) (o := o) (k := k) (v := v) (d := d) (s := s) hi.pr
          exact ⟨h2.1, fun ho _ => h2.2 ho⟩
  · exact ⟨.refl _ _ _, fun _ _ => rfl⟩
end
end Go.Proofs.YtlibhkehebioeaaGreatDoor
namespace Go.Proofs.YtlibhkehebioeaaGreatDoor
set_option linter.unusedVariables false
set_option linter.unusedSimpArgs false
open Go.RowKit

/-- A row and its queue's slice. -/
structure RwV where
  r : RowD
  q : Value
def RwV.cells (x : RwV) : List Value := [.bool x.r.held, .int .i64 x.r.client, .int .i64 x.r.token, x.q]
theorem rw_four : ∀ x : RwV, x.cells.length = 4 := fun _ => rfl
theorem row_info : (Tryz.prog.info? 47).map (fun i => (i.zero, i.size, i.bytes)) = some (some (.agg noRowA), 4, 48) := by kernel_rfl
theorem etRow : ET Tryz.prog 67 47 4 48 (.agg noRowA) := ⟨Tryz.underlying67, row_info, rfl, by decide, by decide⟩
/-- The rows of some locks, read from blocks that were made behind N. -/
structure RwIs (w : World) (N : Nat) (xs : List RwV) (rs : List RowD) : Prop where
  eq : xs.map RwV.r = rs
  each : ∀ x ∈ xs, w.ownsRow N 3 1 x.q x.r.queue.length (ics x.r.queue)
theorem RwIs.keep {w w' : World} {N : Nat} {xs : List RwV} {rs : List RowD} {Z : Nat → Prop} (h : RwIs w N xs rs) (hk : Keep Z w w') (hz : ∀ x ∈ xs, ∀ k, x.q.ownBlock = some k → Z k) : RwIs w' N xs rs :=
  ⟨h.eq, fun x hx => own_keep (h.each x hx) hk (hz x hx)⟩
theorem RwIs.fresh {w w' : World} {N : Nat} {xs : List RwV} {rs : List RowD} (h : RwIs w N xs rs) (hk : Fresh w w') : RwIs w' N xs rs := h.keep hk fun _ _ _ _ => trivial
theorem RwIs.app {w : World} {N : Nat} {xs : List RwV} {rs : List RowD} (h : RwIs w N xs rs) {r : RowD} {q : Value} (hq : w.ownsRow N 3 1 q r.queue.length (ics r.queue)) : RwIs w N (xs ++ [⟨r, q⟩]) (rs ++ [r]) :=
  ⟨by rw [List.map_append, h.eq]; rfl, fun x hx => by
    rcases List.mem_append.1 hx with h1 | h1
    · exact h.each x h1
    · simp at h1
      subst h1
      exact hq⟩
theorem pairs_get {s : StD} (h : PInv s.pairs) {j : Nat} (hj : j < s.pairs.length) : pfindD s.pairs[j].1 s.pairs = some s.pairs[j] := findK_of h.rise (List.getElem_mem hj) rfl
theorem pfind_of {k : Txt} {ps : List (Txt × Txt)} {x : Txt × Txt} (h : pfindD k ps = some x) : pfind k ps = some x.2 := by
  have h1 : ps.find? (fun p => p.1 == k) = some x := h
  unfold pfind
  rw [h1]
  rfl
theorem Rd.pairAt {w : World} {Z : Nat → Prop} {A : Option Addr} {n k : Nat} {ps : List (Txt × Txt)} (h : Rd w Z 2 A n (pcells ps)) (hk : k < n) :
    ∃ (hl : k < ps.length) (b o : Nat), A = some ⟨b, o, none⟩ ∧ Z b ∧ w.cell? ⟨b, o + k * 2, none⟩ = some (str ps[k].1) ∧ w.cell? ⟨b, o + k * 2 + 1, none⟩ = some (str ps[k].2) := by
  have hl : k < ps.length := by
    have := h.1
    rw [rcells_len (f := pairC) (c := 2) (fun _ => rfl)] at this
    omega
  obtain ⟨b, o, hA, hz, hc⟩ := h.2 (by omega)
  have hg : ∀ j u, j < 2 → (pairC ps[k])[j]? = some u → w.cell? ⟨b, o + k * 2 + j, none⟩ = some u := fun j u hj hu => by
    have := hc (k * 2 + j) u (by rw [rcells_get (f := pairC) (c := 2) (fun _ => rfl) ps k hl j hj]; exact hu)
    rwa [← Nat.add_assoc] at this
  exact ⟨hl, b, o, hA, hz, hg 0 _ (by omega) rfl, hg 1 _ (by omega) rfl⟩
theorem Rd.rowAt {w : World} {Z : Nat → Prop} {A : Option Addr} {n k : Nat} {xs : List RwV} (h : Rd w Z 4 A n (rcells RwV.cells xs)) (hk : k < n) :
    ∃ (hl : k < xs.length) (b o : Nat), A = some ⟨b, o, none⟩ ∧ Z b ∧ w.cell? ⟨b, o + k * 4, none⟩ = some (.bool xs[k].r.held) ∧ w.cell? ⟨b, o + k * 4 + 1, none⟩ = some (.int .i64 xs[k].r.client) ∧ w.cell? ⟨b, o + k * 4 + 2, none⟩ = some (.int .i64 xs[k].r.token) ∧ w.cell? ⟨b, o + k * 4 + 3, none⟩ = some xs[k].q := by
  have hl : k < xs.length := by
    have := h.1
    rw [rcells_len rw_four] at this
    omega
  obtain ⟨b, o, hA, hz, hc⟩ := h.2 (by omega)
  have hg : ∀ j u, j < 4 → (xs[k].cells)[j]? = some u → w.cell? ⟨b, o + k * 4 + j, none⟩ = some u := fun j u hj hu => by
    have := hc (k * 4 + j) u (by rw [rcells_get rw_four xs k hl j hj]; exact hu)
    rwa [← Nat.add_assoc] at this
  exact ⟨hl, b, o, hA, hz, hg 0 _ (by omega) rfl, hg 1 _ (by omega) rfl, hg 2 _ (by omega) rfl, hg 3 _ (by omega) rfl⟩
theorem quiet_any {P : Program} {f : FuncId} {args : Array Value} {w : World} {n : Nat} {v : Value}
    (h : Calls P f args (w.drewN n) fun e w' => e = .returned v ∧ ∃ k, w' = (w.drewN n).drewN k) : Calls P f args (w.drewN n) fun e w'' => e = .returned v ∧ ∃ m, w'' = w.drewN m :=
  h.mono fun _ _ ⟨he, k, hk⟩ => ⟨he, n + k, hk.trans (World.drewN_drewN _ _ _)⟩
theorem row_len {k : Txt} {s : StD} (h : LInv s.locks s.tok) : (rowD k s).queue.length ≤ 1000 := by
  have h1 := wait_len (k := k) h
  have h2 := (row_wait k s).1
  rw [← h2, List.length_map]
  omega
theorem rowL_one (a : Bool) (i j : Int) (q : Value) (h : q.oneCell' = true) : ∀ u ∈ (#[.bool a, .int .i64 i, .int .i64 j, q] : Array Value).toList, u.oneCell' = true := by
  intro u hu
  simp only [List.mem_cons, List.not_mem_nil, or_false] at hu
  rcases hu with rfl | rfl | rfl | rfl
  · rfl
  · rfl
  · rfl
  · exact h
theorem cmd_one (x : CmD) : x.cells.toArray.all (·.oneCell') = true := by simp [CmD.cells, Value.oneCell']
theorem Blk.cmd1 {w : World} {g : Nat} {t : TypeId} {x : CmD} (h : Blk w g t x.cells.toArray) : CmAt w g 0 x := ⟨h.cell 0, h.cell 1, h.cell 2, h.cell 3, h.cell 4, h.cell 5, h.cell 6⟩
set_option maxRecDepth 20000 in
set_option maxHeartbeats 4000000 in
theorem mframe_any (A : Option Addr) (n c : Nat) (cs : List CmD) (W : World) (hT : TabsN W) (hb : Rd W (fun _ => True) 7 A n (rcells CmD.cells cs)) :
    Calls Tryz.prog 12 #[.slice A n c] W fun e w' => e = .returned (.bool true) ∧ Fresh W w' := by
  have HT := Lib.hid hT
  have HN := Lib.hid (mat_new W)
  have HB := Lib.hid (hb.old (by omega))
  clear hT hb
  go_enter Tryz.func12, Tryz.ntmps12
  go_wp2_with fail
  refine Calls.mono HN.out ?_
  rintro e w1 ⟨⟨m, F, rfl, hm⟩, hf1⟩
  have HF := Lib.hid (first_any (HT.out.fresh hf1))
  have H1 := Lib.hid (And.intro hm hf1)
  clear hm hf1 HN
  go_wp2_with fail
  refine Calls.mono HF.out ?_
  rintro e w2 ⟨rfl, hf2⟩
  have H2 := Lib.hid (And.intro (H1.out.1.fresh hf2) (H1.out.2.then hf2))
  clear hf2 HF H1
  go_wp2_with fail
  go_loopw [4] (fun iv wr => ∃ k : Nat, k ≤ 100 ∧ iv = .int .i64 (k : Int) ∧ Hid (∃ F s, MAt W.heap.size wr F m s ∧ Fresh W wr)) (fun i _ => 100 - (intOf i).toNat)
  case atStart => exact ⟨0, by omega, rfl, Lib.hid ⟨_, _, H2.out.1, H2.out.2⟩⟩
  case round =>
    rename World => wr
    obtain ⟨k, hk, rfl, HW⟩ := hrel
    by_cases hlt : k < n ∧ k < 100
    · obtain ⟨l1, l2⟩ := hlt
      obtain ⟨F0, s, hm, hf⟩ := HW.out
      obtain ⟨hl, b7, o7, rfl, hz7, hb7, hcm⟩ := (HB.out.keep (hf.weaken fun _ _ _ => trivial)).cmd l1
      obtain ⟨x, hx⟩ : ∃ x, x = cs[k] := ⟨_, rfl⟩
      rw [← hx] at hcm
      have HA := Lib.hid (And.intro hm hf)
      obtain ⟨xc, xi, xr, xo, xk, xv, xd⟩ := x
      obtain ⟨c0, c1, c2, c3, c4, c5, c6⟩ := hcm
      simp only at c0 c1 c2 c3 c4 c5 c6
      clear hm hf HW hl hz7 hx
      go_wp2_with (refine wpList_store_new rfl (.tmp 5) (.tmp 38) rfl _ (CmD.cells ⟨xc, xi, xr, xo, xk, xv, xd⟩).toArray _ rfl rfl rfl (by kernel_rfl) (cmd_one _) ?_)
      intro w3 hb3 hf3 hs3
      obtain ⟨c7, hc7⟩ : ∃ c7, c7 = wr.heap.size := ⟨_, rfl⟩
      rw [← hc7] at hb3 ⊢
      have HP := Lib.hid (mat_pairs (HA.out.1.fresh hf3))
      have H3 := Lib.hid (And.intro hf3 (And.intro hb3 hc7))
      clear c0 c1 c2 c3 c4 c5 c6 hb3 hf3 hs3 hc7 hb7
      go_wp2_with fail
      refine Calls.mono HP.out ?_
      rintro e w4 ⟨⟨v6, rfl, hv6⟩, hf4⟩
      have hnp := HA.out.1.inv.pr.len
      obtain ⟨np, hnpe⟩ : ∃ np, np = s.pairs.length := ⟨_, rfl⟩
      rw [← hnpe] at hv6 hnp
      obtain ⟨A6, q6, rfl, -⟩ := own_rd hv6
      have hlk := mat_locks (HA.out.1.fresh (H3.out.1.then hf4))
      have hnl := HA.out.1.inv.lk.len
      obtain ⟨nl, hnle⟩ : ∃ nl, nl = s.locks.length := ⟨_, rfl⟩
      rw [← hnle] at hlk hnl
      have HLk := Lib.hid hlk
      have H4 := Lib.hid (And.intro (H3.out.1.then hf4) (And.intro (H3.out.2.1.keep hf4 trivial) (And.intro (own_base hv6 H3.out.1.size) (And.intro hnpe (And.intro hnle H3.out.2.2)))))
      clear hv6 hf4 hlk hnpe hnle HP H3
      go_wp2_with fail
      refine Calls.mono HLk.out ?_
      rintro e w5 ⟨⟨v7, rfl, hv7⟩, hf5⟩
      obtain ⟨A7, q7, rfl, -⟩ := own_rd hv7
      have H5 := Lib.hid (And.intro (H4.out.1.then hf5) (And.intro (H4.out.2.1.keep hf5 trivial) (And.intro (own_keep H4.out.2.2.1 hf5 fun _ _ => trivial) (And.intro (own_base hv7 H4.out.1.size) H4.out.2.2.2))))
      clear hv7 hf5 HLk H4
      go_wp2_with fail
      go_loopw [8, 9] (fun v8 jv wy => ∃ j : Nat, j ≤ nl ∧ jv = .int .i64 (j : Int) ∧ Hid (∃ xs, wy.ownsRow w5.heap.size 47 4 v8 j (rcells RwV.cells xs) ∧ RwIs wy w5.heap.size xs (((s.locks.map LockD.name).take j).map fun nm => rowD nm s) ∧ Fresh w5 wy)) (fun _ j _ => nl - (intOf j).toNat)
      case atStart => exact ⟨0, by omega, rfl, Lib.hid ⟨[], by exact World.ownsRow_nil _ _ _ _, ⟨rfl, fun x hx => by cases hx⟩, Keep.refl _ _⟩⟩
      case round =>
        rename World => wy
        obtain ⟨j, hj, rfl, HX⟩ := hrel
        by_cases hjl : j < nl
        · skip
          -- [[
          obtain ⟨xs, ho8, hrw, hfy⟩ := HX.out
          have hfy0 := H5.out.1.then hfy
          obtain ⟨A7', q7', e7, hrd7, -⟩ := own_rd (own_keep H5.out.2.2.2.1 hfy fun _ _ => trivial)
          injection e7 with e7 _ ec
          subst e7 ec
          obtain ⟨b8, o8, rfl, -, hjn, hcn⟩ := hrd7.strAt hjl
          obtain ⟨nm, hnm⟩ : ∃ nm, nm = (s.locks.map LockD.name)[j] := ⟨_, rfl⟩
          rw [← hnm] at hcn
          have hnml : nm.length ≤ 8 := by
            have h1 : nm ∈ s.locks.map LockD.name := hnm ▸ List.getElem_mem hjn
            obtain ⟨l, h2, h3⟩ := List.mem_map.1 h1
            have := (HA.out.1.inv.lk.each l h2).n8
            rwa [h3] at this
          have hrow := row_any (HA.out.1.fresh hfy0) nm (by omega)
          obtain ⟨⟨rh, rc, rt, rq⟩, hR⟩ : ∃ R, R = rowD nm s := ⟨_, rfl⟩
          rw [← hR] at hrow
          have HRow := Lib.hid hrow
          have HTk : Hid (((s.locks.map LockD.name).take (j + 1)).map (fun nm => rowD nm s) = ((s.locks.map LockD.name).take j).map (fun nm => rowD nm s) ++ [⟨rh, rc, rt, rq⟩]) := Lib.hid (by rw [List.take_succ_eq_append_getElem hjn, List.map_append, ← hnm, hR]; rfl)
          have lb8 := lt_of_cell hcn
          have hji : (j : Int) < (nl : Int) := by omega
          have HY := Lib.hid (And.intro ho8 (And.intro hrw (And.intro hfy hfy0)))
          clear ho8 hrw hfy hfy0 hrd7 hnm hnml hrow hR HX hjn
          go_wp2_with fail
          refine Calls.mono HRow.out ?_
          rintro e w6 ⟨⟨q, rfl, hq⟩, hf6⟩
          have hone : q.oneCell' = true := by
            obtain ⟨_, _, rfl, -⟩ := own_rd hq
            rfl
          have ho6 := own_keep HY.out.1 hf6 fun _ _ => trivial
          have hs6 : w5.heap.size ≤ w6.heap.size := (HY.out.2.2.1.then hf6).size
          have H6 := Lib.hid (And.intro ho6 (And.intro hq (And.intro hf6 hs6)))
          clear hq hf6 ho6 hs6 hcn lb8 HRow
          go_wp2_with (at_builtin; refine wpList_appB etRow rfl (.tmp 49) (.tmp 56) rfl #[.bool rh, .int .i64 rc, .int .i64 rt, q] 47 rfl (rowL_one _ _ _ _ hone) w5.heap.size _ j (rcells RwV.cells xs) w6.heap.size rfl rfl rfl H6.out.1 (by omega) H6.out.2.2.2 ?_)
          intro v9 w9 ho9 hk9 hn9
          have H9 := Lib.hid (And.intro ho9 hk9)
          clear ho9 hk9 hn9 hone
          go_wp2_with fail
          have hq6 : w6.ownsRow w5.heap.size 3 1 q rq.length (ics rq) := own_base H6.out.2.1 HY.out.2.2.1.size
          have hap : RwIs w6 w5.heap.size (xs ++ [⟨⟨rh, rc, rt, rq⟩, q⟩]) _ := (HY.out.2.1.fresh H6.out.2.2.1).app (r := ⟨rh, rc, rt, rq⟩) hq6
          refine ⟨⟨j + 1, by omega, by simp, Lib.hid ⟨xs ++ [⟨⟨rh, rc, rt, rq⟩, q⟩], ?_, ?_, ?_⟩⟩, by simp only [intOf]; omega⟩
          · have h1 := H9.out.1
            simpa [rcells_append, rcells_cons, rcells_nil, RwV.cells] using h1
          · rw [HTk.out]
            exact hap.keep H9.out.2 fun x hx k hk => own_apart (hap.each x hx) H6.out.1 (by decide) hk
          · exact (HY.out.2.2.1.then H6.out.2.2.1).comp H9.out.2 (fun _ _ h => h) (fun i hi _ e => by have := (own_lt H6.out.1 e).1; omega)
          -- ]]
        · obtain rfl : nl = j := by omega
          obtain ⟨xs, ho8, hrw, hfy⟩ := HX.out
          rw [List.take_of_length_le (by rw [List.length_map, H5.out.2.2.2.2.2.1]; exact Nat.le_refl _)] at hrw
          obtain ⟨A8, q8, rfl, -⟩ := own_rd ho8
          have hfy0 := H5.out.1.then hfy
          have hby := H5.out.2.1.keep hfy trivial
          have hse := mat_session (HA.out.1.fresh hfy0) xc
          obtain ⟨⟨⟨zi, zr, ⟨zc, zv, zn⟩⟩, zb⟩, hZ⟩ : ∃ Z, Z = sessD xc s := ⟨_, rfl⟩
          rw [← hZ] at hse
          have HSe := Lib.hid hse
          obtain ⟨c0, c1, c2, c3, c4, c5, c6⟩ := hby.cmd1
          simp at c0 c1 c2 c3 c4 c5 c6
          have l7 := hby.lt
          have HY := Lib.hid (And.intro hfy0 (And.intro hby (And.intro (own_keep H5.out.2.2.1 hfy fun _ _ => trivial) (And.intro (own_keep H5.out.2.2.2.1 hfy fun _ _ => trivial) (And.intro (own_base ho8 H5.out.1.size) (And.intro hrw (And.intro H5.out.1.size hZ)))))))
          have HE5 := Lib.hid H5.out.2.2.2.2
          clear ho8 hrw hfy hfy0 hby hse hZ HX H5
          go_wp2_with fail
          refine Calls.mono HSe.out ?_
          rintro e w10 ⟨rfl, hf10⟩
          have H10 := Lib.hid hf10
          clear hf10 HSe
          go_wp2_with (refine wpList_store_new rfl (.tmp 10) (.tmp 63) rfl _ (sesA ⟨zi, zr, ⟨zc, zv, zn⟩⟩) _ rfl rfl rfl (by kernel_rfl) (by simp [sesA, Value.oneCell']) ?_)
          intro w11 hb11 hf11 hs11
          obtain ⟨s10, hs10⟩ : ∃ s10, s10 = w10.heap.size := ⟨_, rfl⟩
          rw [← hs10] at hb11 ⊢
          have hfy11 := H10.out.then hf11
          have hfr11 := HY.out.1.then hfy11
          have hap := mat_apply HT.out (HA.out.2.then hfr11) (HA.out.1.fresh hfr11) xc xi xr xo xk xv xd
          obtain ⟨Y, hY⟩ : ∃ Y, Y = applyD xc xi xr xo xk xv xd s := ⟨_, rfl⟩
          obtain ⟨⟨rc, rv, rn⟩, s'⟩ := Y
          rw [← hY] at hap
          have HAp := Lib.hid hap
          have hb7 := HY.out.2.1.keep hfy11 trivial
          obtain ⟨c0, c1, c2, c3, c4, c5, c6⟩ := hb7.cmd1
          simp at c0 c1 c2 c3 c4 c5 c6
          have l7 := hb7.lt
          have H11 := Lib.hid (And.intro hfr11 (And.intro hb7 (And.intro hb11 (And.intro hfy11 (And.intro hY (show wr.heap.size ≤ s10 from by have := (HY.out.1.then H10.out).size; omega))))))
          clear hb11 hf11 hs11 hs10 hfy11 hfr11 hap hY hb7 H10
          go_wp2_with fail
          refine Calls.mono HAp.out ?_
          rintro e w12 ⟨rfl, ⟨F2, hm2, hg2⟩, hk2, hf2⟩
          have hF : ∀ j, wr.heap.size ≤ j → ¬ F0 j := fun j hj e => by have := HA.out.1.hi j e; omega
          have hY := H11.out.2.2.2.2.1
          have hfm := apply_frame (c := xc) (i := xi) (r := xr) (o := xo) (k := xk) (v := xv) (d := xd) HA.out.1.inv
          rw [← hY, ← HY.out.2.2.2.2.2.2.2] at hfm
          simp only at hfm
          have H12 := Lib.hid (And.intro hm2 (And.intro hf2 (And.intro (H11.out.2.1.keep hk2 (hF _ (by rw [HE5.out.2.2]; exact Nat.le_refl _))) (And.intro (H11.out.2.2.1.keep hk2 (hF _ H11.out.2.2.2.2.2)) (And.intro (own_keep (own_keep HY.out.2.2.1 H11.out.2.2.2.1 fun _ _ => trivial) hk2 fun k hk => hF k (own_lt HY.out.2.2.1 hk).1) (And.intro (own_keep (own_keep HY.out.2.2.2.1 H11.out.2.2.2.1 fun _ _ => trivial) hk2 fun k hk => hF k (own_lt HY.out.2.2.2.1 hk).1) (And.intro (own_keep (own_keep HY.out.2.2.2.2.1 H11.out.2.2.2.1 fun _ _ => trivial) hk2 fun k hk => hF k (own_lt HY.out.2.2.2.2.1 hk).1) (And.intro ((HY.out.2.2.2.2.2.1.fresh H11.out.2.2.2.1).keep hk2 fun x hx k hk => hF k (Nat.le_trans HY.out.2.2.2.2.2.2.1 (own_lt (HY.out.2.2.2.2.2.1.each x hx) hk).1)) hfm))))))))
          clear hm2 hg2 hk2 hf2 hF hY hfm c0 c1 c2 c3 c4 c5 c6 l7 HAp H11
          go_wp2_with fail
          go_loopw [12] (fun jv wz => ∃ j d : Nat, j ≤ np ∧ jv = .int .i64 (j : Int) ∧ wz = w12.drewN d) (fun j _ => np - (intOf j).toNat)
          case atStart => exact ⟨0, 0, by omega, rfl, rfl⟩
          case round =>
            obtain ⟨j, d, hj, rfl, rfl⟩ := hrel
            by_cases hjp : j < np
            · obtain ⟨hm2, hf2, hb7, hb10, ho6, ho7, ho8, hrw, hfm⟩ := H12.out
              obtain ⟨A6', q6', e6, hrd6, -⟩ := own_rd ho6
              injection e6 with e6 _ ec
              subst e6 ec
              obtain ⟨hjx, b6, o6, rfl, -, p0, p1⟩ := hrd6.pairAt hjp
              obtain ⟨⟨kk, vv⟩, hkv⟩ : ∃ p, p = s.pairs[j] := ⟨_, rfl⟩
              have hmem : (kk, vv) ∈ s.pairs := hkv ▸ List.getElem_mem hjx
              have hkl := (HA.out.1.inv.pr.each _ hmem).2.1
              have hpg := pairs_get HA.out.1.inv.pr hjx
              rw [← hkv] at p0 p1 hpg
              simp only at p0 p1 hkl
              have l6 := lt_of_cell p0
              have hget := mat_get (hm2.fresh ((Keep.refl (fun _ => True) w12).drewN d)) kk hkl
              have k3 := hb7.cmd1.2.2.2.1
              have k4 := hb7.cmd1.2.2.2.2.1
              simp at k3 k4
              have l7 := hb7.lt
              have hji : (j : Int) < (np : Int) := by omega
              by_cases hd : kk ≠ xk ∨ 6 ≤ xo ∨ xo = 2
              · skip
                -- [[
                rw [pfind_of ((hfm.1.find kk hd).trans hpg)] at hget
                simp only [Option.getD_some, Option.isSome_some] at hget
                have HGet := Lib.hid hget
                have hd3 : kk ≠ xk ∨ (kk = xk ∧ 6 ≤ xo) ∨ (kk = xk ∧ xo < 6 ∧ xo = 2) := by
                  rcases hd with h | h | h
                  · exact .inl h
                  · by_cases e : kk = xk
                    · exact .inr (.inl ⟨e, h⟩)
                    · exact .inl e
                  · by_cases e : kk = xk
                    · exact .inr (.inr ⟨e, by omega, h⟩)
                    · exact .inl e
                clear hm2 hf2 hb7 hb10 ho6 ho7 ho8 hrw hfm hrd6 hkv hmem hkl hpg hget hd hjx
                rcases hd3 with h1 | ⟨rfl, h2⟩ | ⟨rfl, h2, rfl⟩
                · have hb : (!(kk == xk)) = true := by simpa using h1
                  clear h1
                  go_wp2_with fail
                  refine Calls.mono HGet.out ?_
                  rintro e _ ⟨rfl, rfl⟩
                  go_wp2_with fail
                  go_quiet (fail)
                  go_wp2_with fail
                  exact ⟨⟨j + 1, _, by omega, by simp, rfl⟩, by simp only [intOf]; omega⟩
                all_goals
                  go_wp2_with fail
                  refine Calls.mono HGet.out ?_
                  rintro e _ ⟨rfl, rfl⟩
                  go_wp2_with fail
                  go_quiet (fail)
                  go_wp2_with fail
                  exact ⟨⟨j + 1, _, by omega, by simp, rfl⟩, by simp only [intOf]; omega⟩
                -- ]]
              · obtain ⟨rfl, h2, h3⟩ : kk = xk ∧ xo < 6 ∧ xo ≠ 2 := ⟨Classical.not_not.1 fun h => hd (.inl h), by omega, by omega⟩
                obtain ⟨⟨gv, gb⟩, hgv⟩ : ∃ g : Txt × Bool, g = ((pfind kk s'.pairs).getD [], (pfind kk s'.pairs).isSome) := ⟨_, rfl⟩
                injection hgv with hgv hgb
                have h3b : (xo == 2) = false := by simpa using h3
                have h2b : decide (6 ≤ xo) = false := by simpa using h2
                rw [← hgv, ← hgb] at hget
                have HGet := Lib.hid hget
                clear hm2 hf2 hb7 hb10 ho6 ho7 ho8 hrw hfm hrd6 hkv hmem hkl hpg hget hd hjx hgv hgb
                go_wp2_with fail
                refine Calls.mono HGet.out ?_
                rintro e _ ⟨rfl, rfl⟩
                go_wp2_with fail
                go_quiet (fail)
                go_wp2_with fail
                exact ⟨⟨j + 1, _, by omega, by simp, rfl⟩, by simp only [intOf]; omega⟩
            · obtain rfl : np = j := by omega
              have HP2 := Lib.hid (mat_pairs (H12.out.1.fresh ((Keep.refl (fun _ => True) w12).drewN d)))
              have hnp2 := H12.out.1.inv.pr.len
              have hup := H12.out.2.2.2.2.2.2.2.2.1.up
              have hdn := H12.out.2.2.2.2.2.2.2.2.1.down
              obtain ⟨np2, hnpe2⟩ : ∃ np2, np2 = s'.pairs.length := ⟨_, rfl⟩
              rw [← hnpe2] at HP2 hnp2 hup hdn
              rw [← HE5.out.1] at hup hdn
              have i1 : (np2 : Int) ≤ (np : Int) + 1 := by omega
              have i2 : (np : Int) ≤ (np2 : Int) + 1 := by omega
              have i3 : (np2 : Int) ≤ 16 := by omega
              clear hup hdn hnpe2
              go_wp2_with fail
              refine Calls.mono HP2.out ?_
              rintro e w14 ⟨⟨v15, rfl, hv15⟩, hf14⟩
              obtain ⟨A15, q15, rfl, -⟩ := own_rd hv15
              have hf14' : Fresh w12 w14 := Fresh.then (show Fresh w12 (w12.drewN d) from (Keep.refl _ w12).drewN d) hf14
              have hb7 := H12.out.2.2.1.keep hf14' trivial
              have hb10 := H12.out.2.2.2.1.keep hf14' trivial
              have k1 := hb7.cmd1.2.1
              have k3 := hb7.cmd1.2.2.2.1
              have y0 := hb10.cell 0
              simp [sesA] at k1 k3 y0
              have l7 := hb7.lt
              have l10 := hb10.lt
              have H14 := Lib.hid hf14'
              clear hv15 hf14 hf14' hb7 hb10 HP2
              by_cases hc : xo < 6 ∧ (zb = false ∨ xi ≤ zi)
              · obtain ⟨hc6, hc2⟩ := hc
                have hlk : s'.locks = s.locks := H12.out.2.2.2.2.2.2.2.2.2 (by omega) (fun hb => by
                  rcases hc2 with h | h
                  · rw [h] at hb; cases hb
                  · exact h)
                have hl2 := mat_locks (H12.out.1.fresh H14.out)
                rw [hlk, ← HE5.out.2.1] at hl2
                have HL2 := Lib.hid hl2
                have HLK := Lib.hid hlk
                clear hlk hl2
                have hc3 : zb = false ∨ (zb = true ∧ xi ≤ zi) := by
                  rcases hc2 with h | h
                  · exact .inl h
                  · cases zb
                    · exact .inl rfl
                    · exact .inr ⟨rfl, h⟩
                clear hc2
                rcases hc3 with rfl | ⟨rfl, hc3⟩
                all_goals
                  go_wp2_with fail
                  refine Calls.mono HL2.out ?_
                  rintro e w15 ⟨⟨v16, rfl, hv16⟩, hf15⟩
                  obtain ⟨A16, q16, rfl, hrd16, -⟩ := own_rd hv16
                  have hf15' := H14.out.then hf15
                  have hsn := samenames_any _ (fun _ => True) A16 A7 nl q16 nl q7 (s.locks.map LockD.name) (s.locks.map LockD.name) w15 hrd16 (by
                    obtain ⟨A7', q7', e7, hrd7, -⟩ := own_rd (own_keep H12.out.2.2.2.2.2.1 hf15' fun _ _ => trivial)
                    injection e7 with e7 _ ec
                    subst e7 ec
                    exact hrd7.weaken fun _ _ => trivial) (by omega) (by omega)
                  have HSN := Lib.hid hsn
                  have H15 := Lib.hid hf15'
                  clear hv16 hf15 hrd16 hf15' hsn k1 k3 y0 l7 l10 HL2
                  go_wp2_with fail
                  refine Calls.mono HSN.out ?_
                  rintro e w16 ⟨he, d2, rfl⟩
                  obtain rfl : e = .returned (.bool true) := by rw [he]; simp
                  clear he HSN
                  go_wp2_with fail
                  go_loopw [16] (fun jv wz => ∃ j2 : Nat, j2 ≤ nl ∧ jv = .int .i64 (j2 : Int) ∧ Hid (Fresh w15 wz)) (fun j _ => nl - (intOf j).toNat)
                  case atStart => exact ⟨0, by omega, rfl, Lib.hid ((Keep.refl (fun _ => True) w15).drewN d2)⟩
                  case round =>
                    rename World => wz
                    obtain ⟨j2, hj2, rfl, HZ⟩ := hrel
                    by_cases hjl : j2 < nl
                    · obtain ⟨hm2, hf2, hb7, hb10, ho6, ho7, ho8, hrw, hfm⟩ := H12.out
                      have hfz := H15.out.then HZ.out
                      obtain ⟨A7', q7', e7, hrd7, -⟩ := own_rd (own_keep ho7 hfz fun _ _ => trivial)
                      injection e7 with e7 _ ec
                      subst e7 ec
                      obtain ⟨b8, o8, rfl, -, hjn, hcn⟩ := hrd7.strAt hjl
                      obtain ⟨nm, hnm⟩ : ∃ nm, nm = (s.locks.map LockD.name)[j2] := ⟨_, rfl⟩
                      rw [← hnm] at hcn
                      have hnml : nm.length ≤ 8 := by
                        have h1 : nm ∈ s.locks.map LockD.name := hnm ▸ List.getElem_mem hjn
                        obtain ⟨l, h2, h3⟩ := List.mem_map.1 h1
                        have := (HA.out.1.inv.lk.each l h2).n8
                        rwa [h3] at this
                      have hrow := row_any (hm2.fresh hfz) nm (by omega)
                      have hRe : rowD nm s' = rowD nm s := by unfold rowD; rw [HLK.out]
                      obtain ⟨⟨rh, rc2, rt, rq⟩, hR⟩ : ∃ R, R = rowD nm s := ⟨_, rfl⟩
                      have HLQ : Hid (rq.length ≤ 1000) := Lib.hid (by have := row_len (k := nm) HA.out.1.inv.lk; rw [← hR] at this; exact this)
                      rw [hRe, ← hR] at hrow
                      have HRow := Lib.hid hrow
                      obtain ⟨A8', q8', e8, hrd8, -⟩ := own_rd (own_keep ho8 hfz fun _ _ => trivial)
                      injection e8 with e8 _ ec
                      subst e8 ec
                      obtain ⟨hjx, b9, o9, rfl, -, g0, g1, g2, g3⟩ := hrd8.rowAt hjl
                      have hxr : xs[j2].r = ⟨rh, rc2, rt, rq⟩ := by
                        have h1 : (xs.map RwV.r)[j2]'(by simpa using hjx) = xs[j2].r := by simp
                        rw [← h1]
                        have h2 := hrw.eq
                        rw [List.getElem_of_eq h2]
                        simp only [List.getElem_map]
                        rw [hR, hnm]
                        simp
                      have hxq := (hrw.fresh hfz).each xs[j2] (List.getElem_mem hjx)
                      obtain ⟨qx, hqx⟩ : ∃ qx, qx = xs[j2].q := ⟨_, rfl⟩
                      rw [hxr] at g1 g2 hxq
                      rw [← hqx] at g3 hxq
                      simp only at g1 g2 hxq
                      have lb8 := lt_of_cell hcn
                      have lb9 := lt_of_cell g1
                      have hji : (j2 : Int) < (nl : Int) := by omega
                      have HG := Lib.hid (And.intro hxq (And.intro g1 (And.intro g2 g3)))
                      clear hm2 hf2 hb7 hb10 ho6 ho7 ho8 hrw hfm hrd7 hnm hnml hrow hRe hR hrd8 hxr hqx hjn g0 g1 g2 g3 hxq hfz lb9 hjx
                      go_wp2_with fail
                      refine Calls.mono HRow.out ?_
                      rintro e w17 ⟨⟨q, rfl, hq⟩, hf17⟩
                      obtain ⟨Aq, cq, rfl, hrq, -⟩ := own_rd hq
                      have H17 := Lib.hid (And.intro hrq hf17)
                      clear hq hrq hf17 hcn lb8 HRow
                      go_wp2_with (refine wpList_store_new rfl (.tmp 17) (.tmp 166) rfl _ #[.bool rh, .int .i64 rc2, .int .i64 rt, .slice Aq rq.length cq] _ rfl rfl rfl (by kernel_rfl) (rowA_one _ _ _ _ rfl) ?_)
                      intro w18 hb18 hf18 hs18
                      obtain ⟨g17, hg17⟩ : ∃ g, g = w17.heap.size := ⟨_, rfl⟩
                      rw [← hg17] at hb18 ⊢
                      have hf1718 := H17.out.2.then hf18
                      have g1 := hf1718.cellAt HG.out.2.1 trivial
                      have g2 := hf1718.cellAt HG.out.2.2.1 trivial
                      have g3 := hf1718.cellAt HG.out.2.2.2 trivial
                      have lb9 := lt_of_cell g1
                      have y1 := hb18.cell 1; have y2 := hb18.cell 2; have y3 := hb18.cell 3
                      simp at y1 y2 y3
                      have l17 := hb18.lt
                      obtain ⟨Ax, cx, rfl, hrx, -⟩ := own_rd (own_keep HG.out.1 hf1718 fun _ _ => trivial)
                      have hlq : rq.length ≤ 1000 := HLQ.out
                      have hsi : ∀ dd, Calls Tryz.prog 24 #[.slice Aq rq.length cq, .slice Ax rq.length cx] (w18.drewN dd) fun e w' => e = .returned (.bool true) ∧ ∃ k, w' = (w18.drewN dd).drewN k := fun dd => (sameints_any _ _ Aq Ax rq.length cq rq.length cx rq rq (w18.drewN dd) ((H17.out.1.keep (hf18.weaken fun _ _ _ => trivial)).drewN dd) (hrx.drewN dd) (by omega) (by omega)).mono fun _ _ ⟨he, hk⟩ => ⟨he.trans (by simp), hk⟩
                      have HSI := Lib.hid hsi
                      have H18 := Lib.hid (HZ.out.then hf1718)
                      clear hb18 hf18 hs18 hg17 hf1718 hrx hsi
                      go_wp2_with fail
                      go_quiet ((go_at_call 24; exact quiet_any (HSI.out _)))
                      go_wp2_with fail
                      exact ⟨⟨j2 + 1, by omega, by simp, Lib.hid (H18.out.then ((Keep.refl _ w18).drewN _))⟩, by simp only [intOf]; omega⟩
                    · obtain rfl : nl = j2 := by omega
                      go_wp2_with fail
                      exact ⟨⟨k + 1, by omega, by simp, Lib.hid ⟨_, _, H12.out.1.fresh (H15.out.then HZ.out), H12.out.2.1.then (H15.out.then HZ.out)⟩⟩, by simp only [intOf]; omega⟩
              · have hc2 : 6 ≤ xo ∨ (xo < 6 ∧ zb = true ∧ zi < xi) := by
                  by_cases h : xo < 6
                  · refine .inr ⟨h, ?_, ?_⟩
                    · cases zb
                      · exact absurd ⟨h, .inl rfl⟩ hc
                      · rfl
                    · by_cases h2 : xi ≤ zi
                      · exact absurd ⟨h, .inr h2⟩ hc
                      · omega
                  · exact .inl (by omega)
                clear hc
                rcases hc2 with hc2 | ⟨hc2, rfl, hc3⟩
                all_goals
                  go_wp2_with fail
                  exact ⟨⟨k + 1, by omega, by simp, Lib.hid ⟨_, _, H12.out.1.fresh H14.out, H12.out.2.1.then H14.out⟩⟩, by simp only [intOf]; omega⟩
    · obtain ⟨F0, s, hm, hf⟩ := HW.out
      have HF := Lib.hid hf
      clear hm hf HW
      have hcase : ¬ k < n ∨ (k < n ∧ ¬ k < 100) := by omega
      clear hlt
      rcases hcase with l1 | ⟨l1, l2⟩
      all_goals
        go_wp2_with fail
        go_ret
        exact ⟨rfl, HF.out⟩
end Go.Proofs.YtlibhkehebioeaaGreatDoor
