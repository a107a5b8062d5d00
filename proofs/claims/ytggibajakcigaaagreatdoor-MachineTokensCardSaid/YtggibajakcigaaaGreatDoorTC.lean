/-
  MERGED: RowG RowH TokQ FrameP FrameM Splice
-/
import Derived.Test.YtggibajakcigaaaGreatDoorTB
import Derived.Test.YtggibajakcigaaaGreatDoorRCheck
import Derived.Test.YtggibajakcigaaaGreatDoorTA
import Derived.Test.YtggibajakcigaaaGreatDoorT1
import Derived.Test.YtggibajakcigaaaGreatDoorT4
namespace Go.Proofs.YtggibajakcigaaaGreatDoor
set_option linter.unusedVariables false
set_option linter.unusedSimpArgs false
open Go.RowKit

/-- A row's queue reads, from a block that meets Z. -/
def RQ (w : World) (Z : Nat → Prop) (r : RowD) (q : Value) : Prop := ∃ A c, q = .slice A r.queue.length c ∧ r.queue.length ≤ c ∧ Rd w Z 1 A r.queue.length (ics r.queue)
section
variable {w w' : World} {Z Z' : Nat → Prop} {r s : RowD} {q : Value}
theorem RQ.keep (h : RQ w Z r q) (hk : Keep Z w w') : RQ w' Z r q := by
  obtain ⟨A, c, h1, h2, h3⟩ := h
  exact ⟨A, c, h1, h2, h3.keep hk⟩
theorem RQ.fresh (h : RQ w Z r q) (hk : Fresh w w') : RQ w' Z r q := h.keep (hk.weaken fun _ _ _ => trivial)
theorem RQ.weaken (h : RQ w Z r q) (hz : ∀ k, Z k → Z' k) : RQ w Z' r q := by
  obtain ⟨A, c, h1, h2, h3⟩ := h
  exact ⟨A, c, h1, h2, h3.weaken hz⟩
theorem RQ.old (h : RQ w Z r q) : RQ w (fun k => Z k ∧ k < w.heap.size) r q := by
  obtain ⟨A, c, h1, h2, h3⟩ := h
  refine ⟨A, c, h1, h2, h3.1, fun hn => ?_⟩
  obtain ⟨b, o, e, hz, hc⟩ := h3.2 hn
  exact ⟨b, o, e, ⟨hz, lt_of_cell (hc 0 _ (List.getElem?_eq_getElem (by rw [h3.1]; omega)))⟩, hc⟩
theorem RQ.one (h : RQ w Z r q) : q.oneCell' = true := by
  obtain ⟨A, c, rfl, -⟩ := h
  rfl
theorem RQ.of_own {base : Nat} (h : w.ownsRow base 3 1 q r.queue.length (ics r.queue)) : RQ w (fun k => q.ownBlock = some k) r q := by
  obtain ⟨A, c, h1, h2, h3, -⟩ := own_rdc h
  exact ⟨A, c, h1, h2, h3⟩
theorem RQ.like (h : RQ w Z r q) (he : s.queue = r.queue) : RQ w Z s q := by
  unfold RQ
  rw [he]
  exact h
theorem RQ.nil (w : World) (Z : Nat → Prop) {r : RowD} (h : r.queue = []) : RQ w Z r (.slice none 0 0) := by
  unfold RQ
  rw [h]
  exact ⟨none, 0, rfl, Nat.le_refl _, Rd.nil _ _ _ _⟩
theorem vals_one (h : RQ w Z r q) : (r.vals q).all (·.oneCell') = true := by
  exact rowA_one _ _ _ _ h.one
end
abbrev noRowA : Array Value := #[.bool false, .int .i64 0, .int .i64 0, .slice none 0 0]

/-! ### names -/
theorem names_any (w : World) : Calls Tryz.prog 7 #[] w fun e w' => (∃ g, e = .returned (.slice (some ⟨g, 0, none⟩) 3 3) ∧ Blk w' g 9 #[str [97], str [98], str [99]]) ∧ Fresh w w' := by
  go_enter Tryz.func7, Tryz.ntmps7
  go_wp2_with fail
  go_ret
  exact ⟨⟨_, rfl, Blk.new _ _ _⟩, (Keep.refl _ w).alloc _⟩

/-! ### passes -/
theorem rd_tail {w : World} {Z : Nat → Prop} {b o n c : Nat} {x : Int} {xs : List Int} (h : Rd w Z 1 (some ⟨b, o, none⟩) n (ics (x :: xs))) (hn : n = xs.length + 1) (hnc : n ≤ c) :
    Rd w Z 1 (if c = 1 then some ⟨b, o, none⟩ else some ⟨b, o + 1, none⟩) (n - 1) (ics xs) := by
  refine ⟨by simp [ics]; omega, fun hm => ?_⟩
  obtain ⟨b', o', e, hz, hc⟩ := h.2 (by omega)
  injection e with e
  injection e with e1 e2
  subst e1 e2
  rw [if_neg (by omega)]
  exact ⟨b, o + 1, rfl, hz, fun j u hu => by
      have := hc (j + 1) u (by simpa [ics] using hu)
      rwa [show o + (j + 1) = o + 1 + j by omega] at this⟩
set_option maxRecDepth 20000 in
theorem passes_any (Z : Nat → Prop) (r : RowD) (q : Value) (w : World) (h : RQ w Z r q) (hl : r.queue.length ≤ 1000000) :
    Calls Tryz.prog 27 #[.agg (r.vals q)] w fun e w' => (∃ q', e = .returned (.agg (r.passes.vals q')) ∧ RQ w' Z r.passes q') ∧ Fresh w w' := by
  obtain ⟨rh, rc, rt, rq⟩ := r
  obtain ⟨A, c, rfl, hc, hr⟩ := h.old
  clear h
  simp only at hl hc hr
  show Calls Tryz.prog 27 #[.agg #[.bool rh, .int .i64 rc, .int .i64 rt, .slice A rq.length c]] w _
  obtain ⟨g1, e1⟩ : ∃ g, g = w.heap.size := ⟨_, rfl⟩
  obtain ⟨g2, e2⟩ : ∃ g, g = w.heap.size + 1 := ⟨_, rfl⟩
  obtain ⟨n, hn⟩ : ∃ n, n = rq.length := ⟨_, rfl⟩
  have hn' : rq.length = n := hn.symm
  rw [hn'] at hl hc hr ⊢
  have HN0 := Lib.hid hn
  clear hn' hn
  go_enter Tryz.func27, Tryz.ntmps27
  go_upto_region 1 with (fail)
  rw [← e2, ← e1]
  generalize hW : World.alloc (World.alloc w _) _ = W
  have hf : Fresh w W := by rw [← hW]; exact ((Keep.refl _ w).alloc _).alloc _
  have hb1 : Blk W g1 30 #[.bool rh, .int .i64 rc, .int .i64 rt, .slice A n c] := by rw [← hW, e1]; exact (Blk.new _ _ _).alloc _
  have hb2 : Blk W g2 30 noRowA := by rw [← hW, e2]; exact Blk.newAt (by simp)
  have hrW := hr.keep (hf.weaken fun _ _ _ => trivial)
  have H2 : Hid (w.heap.size ≤ g2) := Lib.hid (by omega)
  have k3 := hb1.cell 3
  simp at k3
  have l1 := hb1.lt
  have l2 := hb2.lt
  have y0 := hb2.cell 0; have y1 := hb2.cell 1; have y2 := hb2.cell 2; have y3 := hb2.cell 3
  simp at y0 y1 y2 y3
  have z0 := hb2.frozen 0; have z1 := hb2.frozen 1; have z2 := hb2.frozen 2; have z3 := hb2.frozen 3
  have hgt : ∀ k, (Z k ∧ k < w.heap.size) → k ≠ g2 := fun k hk e => by omega
  have HB := Lib.hid (And.intro hf (And.intro hb2 (And.intro HN0.out hgt)))
  clear hf hb1 hb2 e1 e2 hW hr hgt HN0
  rcases rq with _ | ⟨x, xs⟩
  · obtain rfl : n = 0 := HB.out.2.2.1
    clear hrW hl
    go_wp2_with fail
    refine bodyPost_ret (results_one rfl _ _ g2 30 noRowA _ rfl ((((HB.out.2.1.set 0 _).set 1 _).set 2 _).set 3 _) Tryz.underlying30 rfl (by kernel_rfl)) rfl ?_
    exact ⟨⟨_, rfl, RQ.nil _ _ rfl⟩, (((HB.out.1.setCell (fun h _ => by have := H2.out; simp at h; omega) _).setCell (fun h _ => by have := H2.out; simp at h; omega) _).setCell (fun h _ => by have := H2.out; simp at h; omega) _).setCell (fun h _ => by have := H2.out; simp at h; omega) _⟩
  · have hn1 : n = xs.length + 1 := HB.out.2.2.1
    obtain ⟨b, o, rfl, hzb, hcell⟩ := hrW.2 (by omega)
    have x0 := hcell 0 _ rfl
    rw [Nat.add_zero] at x0
    have lb := lt_of_cell x0
    have hne : ¬ (n : Int) = 0 := by omega
    have hn1i : (1 : Int) ≤ (n : Int) := by omega
    have hcn : (n : Int) ≤ (c : Int) := by omega
    have HR := Lib.hid (And.intro hrW (And.intro hn1 (And.intro hc hzb)))
    clear hrW hcell hn1 hc hzb
    go_wp2_with fail
    go_region
    obtain ⟨V, hV⟩ : ∃ V, V = Value.slice (if c = 1 then some ⟨b, o, none⟩ else some ⟨b, o + 1, none⟩) (n - 1) (c - 1) := ⟨_, rfl⟩
    rw [← hV]
    have hbF := ((((HB.out.2.1.set 0 (.bool true)).set 1 (.int .i64 x)).set 2 (.int .i64 (-1))).set 3 V).drew
    have hfF := ((((HB.out.1.setCell (p := ⟨g2, 0, none⟩) (fun h _ => by have := H2.out; simp at h; omega) (.bool true)).setCell (p := ⟨g2, 1, none⟩) (fun h _ => by have := H2.out; simp at h; omega) (.int .i64 x)).setCell (p := ⟨g2, 2, none⟩) (fun h _ => by have := H2.out; simp at h; omega) (.int .i64 (-1))).setCell (p := ⟨g2, 3, none⟩) (fun h _ => by have := H2.out; simp at h; omega) V).drew
    have hkF := ((((Keep.refl (fun j => j ≠ g2) W).setCell (p := ⟨g2, 0, none⟩) (fun _ h => h rfl) (.bool true)).setCell (p := ⟨g2, 1, none⟩) (fun _ h => h rfl) (.int .i64 x)).setCell (p := ⟨g2, 2, none⟩) (fun _ h => h rfl) (.int .i64 (-1))).setCell (p := ⟨g2, 3, none⟩) (fun _ h => h rfl) V |>.drew
    generalize World.drew _ = W2 at hbF hfF hkF ⊢
    have hrd := (rd_tail (HR.out.1.keep (hkF.weaken fun j _ hj => HB.out.2.2.2 j hj)) HR.out.2.1 HR.out.2.2.1).weaken (Z' := Z) fun _ h => h.1
    have hRQ : RQ W2 Z ⟨true, x, -1, xs⟩ V := ⟨_, c - 1, by rw [hV]; congr 1; exact (by have := HR.out.2.1; omega : n - 1 = xs.length), by have := HR.out.2.1; have := HR.out.2.2.1; show xs.length ≤ c - 1; omega, by have := HR.out.2.1; rw [show xs.length = n - 1 by omega]; exact hrd⟩
    have HF := Lib.hid (And.intro hbF (And.intro hfF hRQ))
    clear hV hbF hfF hkF hrd hRQ k3 x0 y0 y1 y2 y3 z0 z1 z2 z3 hne hn1i hcn
    go_wp2_with fail
    refine bodyPost_ret (results_one rfl _ _ g2 30 #[.bool true, .int .i64 x, .int .i64 (-1), V] _ rfl HF.out.1 Tryz.underlying30 rfl (by kernel_rfl)) rfl ?_
    exact ⟨⟨V, rfl, HF.out.2.2⟩, HF.out.2.1⟩
/-! ### leaves -/
set_option maxRecDepth 20000 in
theorem leaves_any (Z : Nat → Prop) (r : RowD) (q : Value) (c : Int) (w : World) (h : RQ w Z r q) (hl : r.queue.length ≤ 1000000) :
    Calls Tryz.prog 26 #[.agg (r.vals q), .int .i64 c] w fun e w' => (∃ q', e = .returned (.agg ((r.leaves c).vals q')) ∧ RQ w' (fun k => w.heap.size ≤ k) (r.leaves c) q') ∧ Fresh w w' := by
  obtain ⟨rh, rc, rt, rq⟩ := r
  obtain ⟨A, cc, rfl, hc, hr⟩ := h
  simp only at hl hc hr
  obtain ⟨L, hL⟩ : ∃ L, L = RowD.leaves ⟨rh, rc, rt, rq⟩ c := ⟨_, rfl⟩
  rw [← hL]
  have HLL := Lib.hid hL
  clear hL
  show Calls Tryz.prog 26 #[.agg #[.bool rh, .int .i64 rc, .int .i64 rt, .slice A rq.length cc], .int .i64 c] w _
  obtain ⟨g2, e2⟩ : ∃ g, g = w.heap.size := ⟨_, rfl⟩
  obtain ⟨g4, e4⟩ : ∃ g, g = w.heap.size + 1 := ⟨_, rfl⟩
  obtain ⟨n, hn⟩ : ∃ n, n = rq.length := ⟨_, rfl⟩
  have hn' : rq.length = n := hn.symm
  rw [hn'] at hl hc hr ⊢
  have HN0 := Lib.hid hn
  clear hn' hn
  go_enter Tryz.func26, Tryz.ntmps26
  go_upto_region 1 with (fail)
  rw [← e4, ← e2]
  generalize hW : World.alloc (World.alloc w _) _ = W
  have hf : Fresh w W := by rw [← hW]; exact ((Keep.refl _ w).alloc _).alloc _
  have hb2 : Blk W g2 30 #[.bool rh, .int .i64 rc, .int .i64 rt, .slice A n cc] := by rw [← hW, e2]; exact (Blk.new _ _ _).alloc _
  have hb4 : Blk W g4 30 noRowA := by rw [← hW, e4]; exact Blk.newAt (by simp)
  have HL := Lib.hid (less_any _ A n cc rq c W (hr.keep (hf.weaken fun _ _ _ => trivial)) hl)
  have H2 : Hid (w.heap.size ≤ g2) := Lib.hid (by omega)
  have H4 : Hid (w.heap.size ≤ g4) := Lib.hid (by omega)
  have H24 : Hid (g2 ≠ g4) := Lib.hid (by omega)
  have k3 := hb2.cell 3
  simp at k3
  have l2 := hb2.lt
  have HB := Lib.hid (And.intro hf (And.intro hb2 (And.intro hb4 HN0.out)))
  clear hf hb2 hb4 e2 e4 hW hr HN0
  go_wp2_with fail
  refine Calls.mono HL.out ?_
  rintro e w1 ⟨⟨v, rfl, hv⟩, hf1⟩
  obtain ⟨n1, hn1⟩ : ∃ n1, n1 = (lessD rq c).length := ⟨_, rfl⟩
  rw [← hn1] at hv
  obtain ⟨A1, c1, rfl, hc1, hr1, -⟩ := own_rdc hv
  have hle : n1 ≤ n := by rw [hn1, HB.out.2.2.2]; exact less_le rq c
  have hb2 := HB.out.2.1.keep hf1 trivial
  have hb4 := HB.out.2.2.1.keep hf1 trivial
  have k3' := hb2.cell 3
  simp at k3'
  have z3 := hb2.frozen 3
  have l2' := hb2.lt
  have hb2' : Blk (w1.setCell ⟨g2, 3, none⟩ (.slice A1 n1 c1)) g2 30 #[.bool rh, .int .i64 rc, .int .i64 rt, .slice A1 n1 c1] := hb2.set 3 (.slice A1 n1 c1)
  have hb4' : Blk (w1.setCell ⟨g2, 3, none⟩ (.slice A1 n1 c1)) g4 30 noRowA := hb4.far (p := ⟨g2, 3, none⟩) (fun e => H24.out e.symm) _
  have hv' := own_base (own_far hv (p := ⟨g2, 3, none⟩) (own_ne_blk hv hb2 (by decide)) (.slice A1 n1 c1)) HB.out.1.size
  have hf' : Fresh w (w1.setCell ⟨g2, 3, none⟩ (.slice A1 n1 c1)) := (HB.out.1.then hf1).setCell (fun h _ => by have := H2.out; simp at h; omega) _
  have HN := Lib.hid (And.intro hn1 (And.intro hle hl))
  have HP := Lib.hid (And.intro hb2' (And.intro hb4' (And.intro hv' hf')))
  clear k3 l2 hv hf1 hc1 hr1 hb2 hb4 hb2' hb4' hv' hf' hn1 hle hl HL HB
  go_upto_region 2 with (fail)
  generalize World.setCell w1 ⟨g2, 3, none⟩ (.slice A1 n1 c1) = w2 at HP ⊢
  have HRQ : Hid (RQ w2 (fun k => w.heap.size ≤ k ∧ k ≠ g4) ⟨rh, rc, rt, lessD rq c⟩ (.slice A1 n1 c1)) := Lib.hid ((RQ.of_own (r := ⟨rh, rc, rt, lessD rq c⟩) (by have := HP.out.2.2.1; rw [HN.out.1] at this ⊢; exact this)).weaken fun k hk => ⟨(own_lt HP.out.2.2.1 hk).1, fun e => own_ne_blk HP.out.2.2.1 HP.out.2.1 (by decide) (e ▸ hk)⟩)
  have k0 := HP.out.1.cell 0; have k1 := HP.out.1.cell 1; have k2 := HP.out.1.cell 2; have k3 := HP.out.1.cell 3
  simp at k0 k1 k2 k3
  have l2 := HP.out.1.lt
  have HT4 := Lib.hid HP.out.2.1.there
  clear k3' z3 l2'
  by_cases hcs : rh = false ∨ rc ≠ c
  · obtain rfl : L = ⟨rh, rc, rt, lessD rq c⟩ := by rw [HLL.out]; unfold RowD.leaves; rw [if_pos hcs]
    clear HLL
    have hcs2 : rh = false ∨ (rh = true ∧ rc ≠ c) := by
      cases rh
      · exact .inl rfl
      · exact .inr ⟨rfl, hcs.resolve_left (by simp)⟩
    clear hcs
    rcases hcs2 with rfl | ⟨rfl, hne⟩
    · go_wp2_with (refine wpList_store_to rfl 30 (.tmp 4) (.tmp 19) rfl g4 0 #[.bool false, .int .i64 rc, .int .i64 rt, .slice A1 n1 c1] rfl rfl HT4.out (by kernel_rfl) (rowA_one _ _ _ _ rfl) ?_)
      intro w3 hw3
      have hb3 := Blk.whole HP.out.2.1 (cells := #[.bool false, .int .i64 rc, .int .i64 rt, .slice A1 n1 c1]) rfl
      rw [← hw3.out] at hb3
      have hf3 : Fresh w w3 := by rw [hw3.out]; exact Keep.setCells _ _ _ HP.out.2.2.2 (fun h _ => by have := H4.out; omega)
      have hk3 : Keep (fun j => j ≠ g4) w2 w3 := by rw [hw3.out]; exact Keep.setCells _ _ _ (Keep.refl _ w2) (fun _ e => e rfl)
      have hq3 := (HRQ.out.keep (hk3.weaken fun _ _ h => h.2)).weaken (Z' := fun k => w.heap.size ≤ k) fun _ h => h.1
      have H3 := Lib.hid (And.intro hb3 (And.intro hf3 hq3))
      clear k0 k1 k2 k3 l2 hw3 hb3 hf3 hk3 hq3 HT4
      go_wp2_with fail
      refine bodyPost_ret (results_one rfl _ _ g4 30 #[.bool false, .int .i64 rc, .int .i64 rt, .slice A1 n1 c1] _ rfl H3.out.1 Tryz.underlying30 rfl (by kernel_rfl)) rfl ?_
      exact ⟨⟨_, rfl, H3.out.2.2⟩, H3.out.2.1⟩
    · go_wp2_with (refine wpList_store_to rfl 30 (.tmp 4) (.tmp 19) rfl g4 0 #[.bool true, .int .i64 rc, .int .i64 rt, .slice A1 n1 c1] rfl rfl HT4.out (by kernel_rfl) (rowA_one _ _ _ _ rfl) ?_)
      intro w3 hw3
      have hb3 := Blk.whole HP.out.2.1 (cells := #[.bool true, .int .i64 rc, .int .i64 rt, .slice A1 n1 c1]) rfl
      rw [← hw3.out] at hb3
      have hf3 : Fresh w w3 := by rw [hw3.out]; exact Keep.setCells _ _ _ HP.out.2.2.2 (fun h _ => by have := H4.out; omega)
      have hk3 : Keep (fun j => j ≠ g4) w2 w3 := by rw [hw3.out]; exact Keep.setCells _ _ _ (Keep.refl _ w2) (fun _ e => e rfl)
      have hq3 := (HRQ.out.keep (hk3.weaken fun _ _ h => h.2)).weaken (Z' := fun k => w.heap.size ≤ k) fun _ h => h.1
      have H3 := Lib.hid (And.intro hb3 (And.intro hf3 hq3))
      clear k0 k1 k2 k3 l2 hw3 hb3 hf3 hk3 hq3 HT4
      go_wp2_with fail
      refine bodyPost_ret (results_one rfl _ _ g4 30 #[.bool true, .int .i64 rc, .int .i64 rt, .slice A1 n1 c1] _ rfl H3.out.1 Tryz.underlying30 rfl (by kernel_rfl)) rfl ?_
      exact ⟨⟨_, rfl, H3.out.2.2⟩, H3.out.2.1⟩
  · obtain ⟨rfl, rfl⟩ : rh = true ∧ rc = c := by
      cases rh
      · exact absurd (.inl rfl) hcs
      · exact ⟨rfl, Classical.not_not.1 fun h => hcs (.inr h)⟩
    have hL2 : L = RowD.passes ⟨true, rc, rt, lessD rq rc⟩ := by rw [HLL.out]; unfold RowD.leaves; rw [if_neg hcs]
    have hps := passes_any _ ⟨true, rc, rt, lessD rq rc⟩ (.slice A1 n1 c1) w2 HRQ.out (by have := HN.out.2; rw [← HN.out.1]; omega)
    rw [← hL2] at hps
    clear HLL hL2
    obtain ⟨ph, pc, pt, pq⟩ := L
    simp only [RowD.vals] at hps
    have hv0 : (⟨true, rc, rt, lessD rq rc⟩ : RowD).vals (.slice A1 n1 c1) = #[.bool true, .int .i64 rc, .int .i64 rt, .slice A1 n1 c1] := rfl
    have HPS := Lib.hid hps
    clear hcs hps hv0
    go_wp2_with fail
    refine Calls.mono HPS.out ?_
    rintro e w3 ⟨⟨q', rfl, hq'⟩, hf3⟩
    have hb4 := HP.out.2.1.keep hf3 trivial
    have HT3 := Lib.hid hb4.there
    have hone := hq'.one
    have H3 := Lib.hid (And.intro hq' (And.intro (HP.out.2.2.2.then hf3) hb4))
    clear hq' hf3 hb4 HPS HT4 k0 k1 k2 k3 l2
    go_wp2_with (refine wpList_store_to rfl 30 (.tmp 4) (.tmp 21) rfl g4 0 #[.bool ph, .int .i64 pc, .int .i64 pt, q'] rfl rfl HT3.out (by kernel_rfl) (rowA_one _ _ _ _ hone) ?_)
    intro w4 hw4
    have hb4 := Blk.whole H3.out.2.2 (cells := #[.bool ph, .int .i64 pc, .int .i64 pt, q']) rfl
    rw [← hw4.out] at hb4
    have hf4 : Fresh w w4 := by rw [hw4.out]; exact Keep.setCells _ _ _ H3.out.2.1 (fun h _ => by have := H4.out; omega)
    have hk4 : Keep (fun j => j ≠ g4) w3 w4 := by rw [hw4.out]; exact Keep.setCells _ _ _ (Keep.refl _ w3) (fun _ e => e rfl)
    have hq4 := (H3.out.1.keep (hk4.weaken fun _ _ h => h.2)).weaken (Z' := fun k => w.heap.size ≤ k) fun _ h => h.1
    have H5 := Lib.hid (And.intro hb4 (And.intro hf4 hq4))
    clear hw4 hb4 hf4 hk4 hq4 HT3
    go_wp2_with fail
    refine bodyPost_ret (results_one rfl _ _ g4 30 #[.bool ph, .int .i64 pc, .int .i64 pt, q'] _ rfl H5.out.1 Tryz.underlying30 rfl (by kernel_rfl)) rfl ?_
    exact ⟨⟨_, rfl, H5.out.2.2⟩, H5.out.2.1⟩
end Go.Proofs.YtggibajakcigaaaGreatDoor
namespace Go.Proofs.YtggibajakcigaaaGreatDoor
set_option linter.unusedVariables false
set_option linter.unusedSimpArgs false
open Go.RowKit

/-- The variables of 'goes' behind its first step. -/
structure GoesAt (w wx : World) (Z : Nat → Prop) (g5 g7 g9 g10 : Nat) (r : RowD) (q : Value) (c i rr o : Int) (k v d : Txt) (code n : Int) (val : Txt) : Prop where
  b5 : Blk wx g5 30 (r.vals q)
  b7 : Blk wx g7 27 #[.int .i64 c, .int .i64 i, .int .i64 rr, .int .i64 o, str k, str v, str d]
  b9 : Blk wx g9 36 #[.int .i64 code, str val, .int .i64 n]
  b10 : Blk wx g10 30 noRowA
  rq : RQ wx Z r q
  fr : Fresh w wx
theorem GoesAt.fresh {w wx wy : World} {Z : Nat → Prop} {g5 g7 g9 g10 : Nat} {r : RowD} {q : Value} {c i rr o : Int} {k v d : Txt} {code n : Int} {val : Txt} (h : GoesAt w wx Z g5 g7 g9 g10 r q c i rr o k v d code n val) (hf : Fresh wx wy) : GoesAt w wy Z g5 g7 g9 g10 r q c i rr o k v d code n val :=
  ⟨h.b5.keep hf trivial, h.b7.keep hf trivial, h.b9.keep hf trivial, h.b10.keep hf trivial, h.rq.fresh hf, h.fr.then hf⟩
/-- Another row is written into the first variable. -/
theorem GoesAt.put {w wx : World} {Z Z' : Nat → Prop} {g5 g7 g9 g10 : Nat} {r r' : RowD} {q q' : Value} {c i rr o : Int} {k v d : Txt} {code n : Int} {val : Txt} (h : GoesAt w wx Z g5 g7 g9 g10 r q c i rr o k v d code n val) (hq : RQ wx Z' r' q') (hz : ∀ k, Z' k → k ≠ g5) (h5 : w.heap.size ≤ g5) (h10 : g5 ≠ g10) :
    GoesAt w (wx.setCells g5 0 (r'.vals q').toList) Z' g5 g7 g9 g10 r' q' c i rr o k v d code n val :=
  have hk : Keep (fun j => j ≠ g5) wx (wx.setCells g5 0 (r'.vals q').toList) := Keep.setCells _ _ _ (Keep.refl _ wx) (fun _ e => e rfl)
  ⟨h.b5.whole rfl, h.b7.keep hk (h.b7.ne h.b5 (by decide)), h.b9.keep hk (h.b9.ne h.b5 (by decide)), h.b10.keep hk (fun e => h10 e.symm), hq.keep (hk.weaken fun j _ hj => hz j hj), Keep.setCells _ _ _ h.fr (fun h _ => by omega)⟩
theorem RQ.rd {w : World} {Z : Nat → Prop} {r : RowD} {A : Option Addr} {n c : Nat} (h : RQ w Z r (.slice A n c)) : n = r.queue.length ∧ Rd w Z 1 A n (ics r.queue) := by
  obtain ⟨A', c', e, hc, hr⟩ := h
  injection e with e1 e2 e3
  subst e1 e3
  rw [e2]
  exact ⟨rfl, hr⟩
/-- Another queue is written into the first variable. -/
theorem GoesAt.put3 {w wx : World} {Z Z' : Nat → Prop} {g5 g7 g9 g10 : Nat} {a : Bool} {b t : Int} {qu qu' : List Int} {q q' : Value} {c i rr o : Int} {k v d : Txt} {code n : Int} {val : Txt} (h : GoesAt w wx Z g5 g7 g9 g10 ⟨a, b, t, qu⟩ q c i rr o k v d code n val) (hq : RQ wx Z' ⟨a, b, t, qu'⟩ q') (hz : ∀ k, Z' k → k ≠ g5) (h5 : w.heap.size ≤ g5) (h10 : g5 ≠ g10) :
    GoesAt w (wx.setCell ⟨g5, 3, none⟩ q') Z' g5 g7 g9 g10 ⟨a, b, t, qu'⟩ q' c i rr o k v d code n val :=
  have hk : Keep (fun j => j ≠ g5) wx (wx.setCell ⟨g5, 3, none⟩ q') := (Keep.refl _ wx).setCell (fun _ e => e rfl) _
  ⟨h.b5.set 3 q', h.b7.keep hk (h.b7.ne h.b5 (by decide)), h.b9.keep hk (h.b9.ne h.b5 (by decide)), h.b10.keep hk (fun e => h10 e.symm), hq.keep (hk.weaken fun j _ hj => hz j hj), h.fr.setCell (fun h _ => by simp at h; omega) _⟩
/-- The result is written. -/
theorem GoesAt.ret {w wx : World} {Z Z' : Nat → Prop} {g5 g7 g9 g10 : Nat} {r r' : RowD} {q q' : Value} {c i rr o : Int} {k v d : Txt} {code n : Int} {val : Txt} (h : GoesAt w wx Z g5 g7 g9 g10 r q c i rr o k v d code n val) (hq : RQ wx Z' r' q') (hz : ∀ k, Z' k → k ≠ g10) (h10 : w.heap.size ≤ g10) :
    Blk (wx.setCells g10 0 (r'.vals q').toList) g10 30 (r'.vals q') ∧ RQ (wx.setCells g10 0 (r'.vals q').toList) Z' r' q' ∧ Fresh w (wx.setCells g10 0 (r'.vals q').toList) :=
  have hk : Keep (fun j => j ≠ g10) wx (wx.setCells g10 0 (r'.vals q').toList) := Keep.setCells _ _ _ (Keep.refl _ wx) (fun _ e => e rfl)
  ⟨h.b10.whole rfl, hq.keep (hk.weaken fun j _ hj => hz j hj), Keep.setCells _ _ _ h.fr (fun h _ => by omega)⟩

/-! ### goes -/
theorem leaves_len (r : RowD) (c : Int) : (r.leaves c).queue.length ≤ r.queue.length := by
  have h := less_le r.queue c
  unfold RowD.leaves
  split
  · exact h
  · unfold RowD.passes
    simp only
    split
    · simp
    · rename_i x xs hx
      simp only
      have : (lessD r.queue c).length = xs.length + 1 := by rw [hx]; rfl
      omega
set_option maxRecDepth 20000 in
set_option maxHeartbeats 4000000 in
theorem goes_any (Z : Nat → Prop) (r : RowD) (q : Value) (nm : Txt) (c i rr o : Int) (k v d : Txt) (anew : Bool) (code n : Int) (val : Txt) (w : World) (h : RQ w Z r q) (hl : r.queue.length ≤ 1000000) :
    Calls Tryz.prog 11 #[.agg (r.vals q), str nm, cmdV c i rr o k v d, .bool anew, resV ⟨code, val, n⟩] w fun e w' => (∃ q', e = .returned (.agg ((goesD rnum r nm c o k v anew code).vals q')) ∧ RQ w' (fun j => Z j ∨ w.heap.size ≤ j) (goesD rnum r nm c o k v anew code) q') ∧ Fresh w w' := by
  obtain ⟨g5, e5⟩ : ∃ g, g = w.heap.size := ⟨_, rfl⟩
  obtain ⟨g7, e7⟩ : ∃ g, g = w.heap.size + 1 := ⟨_, rfl⟩
  obtain ⟨g9, e9⟩ : ∃ g, g = w.heap.size + 2 := ⟨_, rfl⟩
  obtain ⟨g10, e10⟩ : ∃ g, g = w.heap.size + 3 := ⟨_, rfl⟩
  obtain ⟨r1, hr1⟩ : ∃ r1, r1 = (if anew = true then r.leaves c else r) := ⟨_, rfl⟩
  obtain ⟨G, hG⟩ : ∃ G, G = goesD rnum r nm c o k v anew code := ⟨_, rfl⟩
  have hG1 : G = if o = 9 ∧ code = 1 then r1.leaves (rnum v).1 else if k ≠ nm then r1 else r1.onKey c o code := by rw [hG, hr1]; rfl
  rw [← hG]
  have hl1 : r1.queue.length ≤ 1000000 := by
    rw [hr1]
    split
    · exact Nat.le_trans (leaves_len r c) hl
    · exact hl
  have HG := Lib.hid (And.intro hG1 hl1)
  have HR1 := Lib.hid hr1
  have hq := h.old
  obtain ⟨rh, rc, rt, rq⟩ := r
  have HL0 := Lib.hid hl
  clear hG hG1 hr1 hl1 h hl
  go_enter Tryz.func11, Tryz.ntmps11
  go_upto_region 1 with (fail)
  rw [← e10, ← e9, ← e7, ← e5]
  generalize hW : World.alloc (World.alloc (World.alloc (World.alloc w _) _) _) _ = W
  have hWs : W.heap.size = w.heap.size + 4 := by rw [← hW]; simp
  have hat : GoesAt w W (fun j => Z j ∧ j < w.heap.size ∨ w.heap.size + 4 ≤ j) g5 g7 g9 g10 ⟨rh, rc, rt, rq⟩ q c i rr o k v d code n val := by
    have hf : Fresh w W := by rw [← hW]; exact ((((Keep.refl _ w).alloc _).alloc _).alloc _).alloc _
    refine ⟨?_, ?_, ?_, ?_, (hq.fresh hf).weaken fun j hj => .inl hj, hf⟩
    · rw [← hW, e5]; exact (((Blk.new _ _ _).alloc _).alloc _).alloc _
    · rw [← hW, e7]; exact ((Blk.newAt (by simp)).alloc _).alloc _
    · rw [← hW, e9]; exact (Blk.newAt (by simp)).alloc _
    · rw [← hW, e10]; exact Blk.newAt (by simp)
  have HE10 : Hid (g10 = w.heap.size + 3) := Lib.hid e10
  have H10 : Hid (w.heap.size ≤ g10) := Lib.hid (by omega)
  have H5 : Hid (w.heap.size ≤ g5 ∧ g5 ≠ g10) := Lib.hid ⟨by omega, by omega⟩
  have hz10 : Hid (∀ j, (Z j ∧ j < w.heap.size ∨ w.heap.size + 4 ≤ j) → j ≠ g10) := Lib.hid fun j hj e => by omega
  have hz5 : Hid (∀ j, (Z j ∧ j < w.heap.size ∨ w.heap.size + 4 ≤ j) → j ≠ g5) := Lib.hid fun j hj e => by omega
  have hzz : Hid (∀ j, (Z j ∧ j < w.heap.size ∨ w.heap.size + 4 ≤ j) → (Z j ∨ w.heap.size ≤ j)) := Lib.hid fun j hj => hj.imp (fun h => h.1) (fun h => by omega)
  have HA := Lib.hid hat
  have HW := Lib.hid hWs
  clear hW hWs hat e5 e7 e9 e10 hq
  go_upto_if 14 with (fail)
  go_cut [] (fun wx => Hid (∃ q1, GoesAt w wx (fun j => Z j ∧ j < w.heap.size ∨ w.heap.size + 4 ≤ j) g5 g7 g9 g10 r1 q1 c i rr o k v d code n val))
  case first =>
    cases anew
    · obtain rfl : r1 = ⟨rh, rc, rt, rq⟩ := HR1.out
      go_wp2_with fail
      go_meet
      exact Lib.hid ⟨_, HA.out⟩
    · have hlv := leaves_any _ ⟨rh, rc, rt, rq⟩ q c W HA.out.rq HL0.out
      have hr1 := HR1.out
      rw [if_pos rfl] at hr1
      rw [← hr1] at hlv
      obtain ⟨ph, pc, pt, pq⟩ := r1
      simp only [RowD.vals] at hlv
      have k0 := HA.out.b5.cell 0; have k1 := HA.out.b5.cell 1; have k2 := HA.out.b5.cell 2; have k3 := HA.out.b5.cell 3
      have m0 := HA.out.b7.cell 0
      simp [RowD.vals] at k0 k1 k2 k3 m0
      have l5 := HA.out.b5.lt
      have l7 := HA.out.b7.lt
      have HLV := Lib.hid hlv
      clear hlv hr1
      go_wp2_with fail
      refine Calls.mono HLV.out ?_
      rintro e w1 ⟨⟨q1, rfl, hq1⟩, hf1⟩
      have hat1 := HA.out.fresh hf1
      have hone := hq1.one
      have HT5 := Lib.hid hat1.b5.there
      have H1 := Lib.hid (hat1.put (r' := ⟨ph, pc, pt, pq⟩) (hq1.weaken (Z' := fun j => Z j ∧ j < w.heap.size ∨ w.heap.size + 4 ≤ j) fun j hj => .inr (by rw [HW.out] at hj; exact hj)) hz5.out H5.out.1 H5.out.2)
      clear hq1 hf1 hat1 k0 k1 k2 k3 m0 l5 l7 HLV
      go_wp2_with (refine wpList_store_to rfl 30 (.tmp 5) (.tmp 18) rfl g5 0 #[.bool ph, .int .i64 pc, .int .i64 pt, q1] rfl rfl HT5.out (by kernel_rfl) (rowA_one _ _ _ _ hone) ?_)
      intro w2 hw2
      have H2 : Hid (GoesAt w w2 (fun j => Z j ∧ j < w.heap.size ∨ w.heap.size + 4 ≤ j) g5 g7 g9 g10 ⟨ph, pc, pt, pq⟩ q1 c i rr o k v d code n val) := Lib.hid (by rw [hw2.out]; exact H1.out)
      clear hw2 H1 hone
      go_wp2_with fail
      go_meet
      exact Lib.hid ⟨_, H2.out⟩
  case rest =>
  rename World => wx
  obtain ⟨q1, hat⟩ := hcut.out
  have hl1 := HG.out.2
  have hG1 := HG.out.1
  obtain ⟨ph, pc, pt, pq⟩ := r1
  have HA2 := Lib.hid hat
  obtain ⟨A1, c1, rfl, hc1, hr1⟩ := hat.rq
  have k0 := hat.b5.cell 0; have k1 := hat.b5.cell 1; have k2 := hat.b5.cell 2; have k3 := hat.b5.cell 3
  have m0 := hat.b7.cell 0; have m3 := hat.b7.cell 3; have m4 := hat.b7.cell 4; have m5 := hat.b7.cell 5
  have s0 := hat.b9.cell 0
  simp [RowD.vals] at k0 k1 k2 k3 m0 m3 m4 m5 s0
  have l5 := hat.b5.lt; have l7 := hat.b7.lt; have l9 := hat.b9.lt; have l10 := hat.b10.lt
  simp only at hl1 hc1 hr1 k3
  obtain ⟨pn, hpn⟩ : ∃ pn, pn = pq.length := ⟨_, rfl⟩
  rw [← hpn] at hl1 hc1 hr1 k3 HA2
  have HPN := Lib.hid hpn
  have HRd := Lib.hid hr1
  clear hcut hat HR1 HG HA hpn hr1 HL0
  have hcase : (o = 9 ∧ code = 1) ∨ ((o = 9 ∧ code ≠ 1) ∨ o ≠ 9) := by omega
  rcases hcase with ⟨rfl, rfl⟩ | hno
  · rw [if_pos ⟨rfl, rfl⟩] at hG1
    have HNum := Lib.hid (rnumber_any v wx)
    obtain ⟨x, hx⟩ : ∃ x, x = rnum v := ⟨_, rfl⟩
    rw [← hx] at hG1 HNum
    obtain ⟨x, xb⟩ := x
    have hlv := leaves_any _ ⟨ph, pc, pt, pq⟩ (.slice A1 pn c1) x wx HA2.out.rq (by rw [← HPN.out]; exact hl1)
    rw [← hG1] at hlv
    obtain ⟨yh, yc, yt, yq⟩ := G
    simp only [RowD.vals] at hlv ⊢
    have HLV := Lib.hid hlv
    clear hlv hG1 hx
    go_wp2_with fail
    refine Calls.mono HNum.out ?_
    rintro e _ ⟨rfl, rfl⟩
    go_wp2_with fail
    refine Calls.mono HLV.out ?_
    rintro e w1 ⟨⟨q1, rfl, hq1⟩, hf1⟩
    have hat1 := HA2.out.fresh hf1
    have hq2 := hq1.weaken (Z' := fun j => Z j ∧ j < w.heap.size ∨ w.heap.size + 4 ≤ j) fun j hj => .inr (by have := HA2.out.b10.lt; have := HE10.out; omega)
    have HTr := Lib.hid hat1.b10.there
    have hone := hq2.one
    have HR := Lib.hid (hat1.ret (r' := ⟨yh, yc, yt, yq⟩) hq2 hz10.out H10.out)
    clear hq1 hf1 k0 k1 k2 k3 m0 m3 m4 m5 s0 l5 l7 l9 l10 HLV HNum
    go_wp2_with (refine wpList_store_to rfl 30 (.tmp 10) (.tmp 35) rfl g10 0 #[.bool yh, .int .i64 yc, .int .i64 yt, q1] rfl rfl HTr.out (by kernel_rfl) (rowA_one _ _ _ _ hone) ?_)
    intro wz hwz
    have HR2 : Hid (Blk wz g10 30 #[.bool yh, .int .i64 yc, .int .i64 yt, q1] ∧ RQ wz (fun j => Z j ∧ j < w.heap.size ∨ w.heap.size + 4 ≤ j) ⟨yh, yc, yt, yq⟩ q1 ∧ Fresh w wz) := Lib.hid (by rw [hwz.out]; exact HR.out)
    clear hwz HR HTr hone
    go_wp2_with fail
    refine bodyPost_ret (results_one rfl _ _ g10 30 #[.bool yh, .int .i64 yc, .int .i64 yt, q1] _ rfl HR2.out.1 Tryz.underlying30 rfl (by kernel_rfl)) rfl ?_
    exact ⟨⟨q1, rfl, HR2.out.2.1.weaken hzz.out⟩, HR2.out.2.2⟩
  · have hG2 : G = if k ≠ nm then ⟨ph, pc, pt, pq⟩ else RowD.onKey ⟨ph, pc, pt, pq⟩ c o code := by rw [hG1, if_neg (by omega)]
    clear hG1
    by_cases hk : k = nm
    · subst hk
      rw [if_neg (by simp)] at hG2
      have HGK := Lib.hid hG2
      clear hG2
      obtain ⟨wt, hwt⟩ : ∃ wt : Bool, wt = decide ((lessD pq c).length < pn) := ⟨_, rfl⟩
      have HWT := Lib.hid hwt
      clear hwt
      rcases hno with ⟨rfl, hc1'⟩ | h9
      · obtain rfl : G = ⟨ph, pc, pt, pq⟩ := by rw [HGK.out]; unfold RowD.onKey; rw [if_neg (by omega), if_neg (by omega)]
        clear HGK
        have HLs := Lib.hid (fun w' (hf : Fresh wx w') => less_any _ A1 pn c1 pq c w' (HRd.out.keep (hf.weaken fun _ _ _ => trivial)) hl1)
        have h0d : Hid (Fresh wx (World.drew wx)) := Lib.hid ((Keep.refl _ wx).drew)
        have HKS : Hid (∀ w', Fresh wx w' → w'.cell? ⟨g5, 3, none⟩ = some (.slice A1 pn c1) ∧ w'.cell? ⟨g7, 0, none⟩ = some (.int .i64 c)) := Lib.hid fun w' hf => ⟨hf.cellAt k3 trivial, hf.cellAt m0 trivial⟩
        go_upto_region 8 with (fail)
        go_cut [13] (fun s13 wy => s13 = .bool wt ∧ Hid (GoesAt w wy (fun j => Z j ∧ j < w.heap.size ∨ w.heap.size + 4 ≤ j) g5 g7 g9 g10 ⟨ph, pc, pt, pq⟩ (.slice A1 pn c1) c i rr 9 k v d code n val))
        case first =>
          go_region_held3 (fun w' => w'.cell? ⟨g5, 3, none⟩ = some (.slice A1 pn c1) ∧ w'.cell? ⟨g7, 0, none⟩ = some (.int .i64 c))
            (first | exact HKS.out _ h0d.out | exact HKS.out _ (h0d.out.then hfa))
            ((go_at_call 13; (with_reducible refine Calls.mono (HLs.out _ h0d.out) ?_); rintro e wa ⟨⟨v, rfl, hv⟩, hfa⟩; obtain ⟨Aa, ca, rfl, -⟩ := own_rdc hv))
          all_goals
            go_wp2_with fail
            go_meet
            exact ⟨by rw [HWT.out], Lib.hid ((HA2.out.fresh h0d.out).fresh hfa)⟩
        case rest =>
        rename World => wy
        obtain ⟨rfl, HA3⟩ := hcut
        clear k0 k1 k2 k3 m0 m3 m4 m5 s0 l5 l7 l9 l10 HLs HKS h0d
        have k0 := HA3.out.b5.cell 0; have k1 := HA3.out.b5.cell 1; have k2 := HA3.out.b5.cell 2; have k3 := HA3.out.b5.cell 3
        have m0 := HA3.out.b7.cell 0; have m3 := HA3.out.b7.cell 3
        have s0 := HA3.out.b9.cell 0
        simp [RowD.vals] at k0 k1 k2 k3 m0 m3 s0
        have l5 := HA3.out.b5.lt; have l7 := HA3.out.b7.lt; have l9 := HA3.out.b9.lt; have l10 := HA3.out.b10.lt
        have hat1 := HA3.out
        have hq2 := hat1.rq
        have HTr := Lib.hid hat1.b10.there
        have hone := hq2.one
        have HR := Lib.hid (hat1.ret (r' := ⟨ph, pc, pt, pq⟩) hq2 hz10.out H10.out)
        go_wp2_with (refine wpList_store_to rfl 30 (.tmp 10) (.tmp 106) rfl g10 0 #[.bool ph, .int .i64 pc, .int .i64 pt, .slice A1 pn c1] rfl rfl HTr.out (by kernel_rfl) (rowA_one _ _ _ _ hone) ?_)
        intro wz hwz
        have HR2 : Hid (Blk wz g10 30 #[.bool ph, .int .i64 pc, .int .i64 pt, .slice A1 pn c1] ∧ RQ wz (fun j => Z j ∧ j < w.heap.size ∨ w.heap.size + 4 ≤ j) ⟨ph, pc, pt, pq⟩ (.slice A1 pn c1) ∧ Fresh w wz) := Lib.hid (by rw [hwz.out]; exact HR.out)
        clear hwz HR HTr hone
        go_wp2_with fail
        refine bodyPost_ret (results_one rfl _ _ g10 30 #[.bool ph, .int .i64 pc, .int .i64 pt, .slice A1 pn c1] _ rfl HR2.out.1 Tryz.underlying30 rfl (by kernel_rfl)) rfl ?_
        exact ⟨⟨(.slice A1 pn c1), rfl, HR2.out.2.1.weaken hzz.out⟩, HR2.out.2.2⟩
      · skip
        have HLs := Lib.hid (fun w' (hf : Fresh wx w') => less_any _ A1 pn c1 pq c w' (HRd.out.keep (hf.weaken fun _ _ _ => trivial)) hl1)
        have h0d : Hid (Fresh wx (World.drew wx)) := Lib.hid ((Keep.refl _ wx).drew)
        have HKS : Hid (∀ w', Fresh wx w' → w'.cell? ⟨g5, 3, none⟩ = some (.slice A1 pn c1) ∧ w'.cell? ⟨g7, 0, none⟩ = some (.int .i64 c)) := Lib.hid fun w' hf => ⟨hf.cellAt k3 trivial, hf.cellAt m0 trivial⟩
        go_upto_region 8 with (fail)
        go_cut [13] (fun s13 wy => s13 = .bool wt ∧ Hid (GoesAt w wy (fun j => Z j ∧ j < w.heap.size ∨ w.heap.size + 4 ≤ j) g5 g7 g9 g10 ⟨ph, pc, pt, pq⟩ (.slice A1 pn c1) c i rr o k v d code n val))
        case first =>
          go_region_held3 (fun w' => w'.cell? ⟨g5, 3, none⟩ = some (.slice A1 pn c1) ∧ w'.cell? ⟨g7, 0, none⟩ = some (.int .i64 c))
            (first | exact HKS.out _ h0d.out | exact HKS.out _ (h0d.out.then hfa))
            ((go_at_call 13; (with_reducible refine Calls.mono (HLs.out _ h0d.out) ?_); rintro e wa ⟨⟨v, rfl, hv⟩, hfa⟩; obtain ⟨Aa, ca, rfl, -⟩ := own_rdc hv))
          all_goals
            go_wp2_with fail
            go_meet
            exact ⟨by rw [HWT.out], Lib.hid ((HA2.out.fresh h0d.out).fresh hfa)⟩
        case rest =>
        rename World => wy
        obtain ⟨rfl, HA3⟩ := hcut
        clear k0 k1 k2 k3 m0 m3 m4 m5 s0 l5 l7 l9 l10 HLs HKS h0d
        have k0 := HA3.out.b5.cell 0; have k1 := HA3.out.b5.cell 1; have k2 := HA3.out.b5.cell 2; have k3 := HA3.out.b5.cell 3
        have m0 := HA3.out.b7.cell 0; have m3 := HA3.out.b7.cell 3
        have s0 := HA3.out.b9.cell 0
        simp [RowD.vals] at k0 k1 k2 k3 m0 m3 s0
        have l5 := HA3.out.b5.lt; have l7 := HA3.out.b7.lt; have l9 := HA3.out.b9.lt; have l10 := HA3.out.b10.lt
        have ho : o = 6 ∨ o = 7 ∨ (o ≠ 6 ∧ o ≠ 7) := by omega
        rcases ho with rfl | rfl | ⟨h6, h7⟩
        · have hG6 : G = if ph = false ∧ code = 1 then ⟨true, c, -1, []⟩ else if ph = true ∧ pc ≠ c ∧ ¬ (lessD pq c).length < pq.length then ⟨ph, pc, pt, lessD pq (-1) ++ [c]⟩ else ⟨ph, pc, pt, pq⟩ := by rw [HGK.out]; unfold RowD.onKey; rw [if_pos rfl]
          have hwt : wt = true ↔ (lessD pq c).length < pq.length := by rw [HWT.out, HPN.out]; simp
          have hc6 : (ph = false ∧ code = 1) ∨ (ph = true ∧ pc ≠ c ∧ wt = false) ∨ ((ph = false ∧ code ≠ 1) ∨ (ph = true ∧ pc = c) ∨ (ph = true ∧ pc ≠ c ∧ wt = true)) := by
            cases ph
            · by_cases h : code = 1
              · exact .inl ⟨rfl, h⟩
              · exact .inr (.inr (.inl ⟨rfl, h⟩))
            · by_cases h : pc = c
              · exact .inr (.inr (.inr (.inl ⟨rfl, h⟩)))
              · cases wt
                · exact .inr (.inl ⟨rfl, h, rfl⟩)
                · exact .inr (.inr (.inr (.inr ⟨rfl, h, rfl⟩)))
          clear HGK h9
          rcases hc6 with ⟨rfl, rfl⟩ | ⟨rfl, h2, rfl⟩ | hc6
          · rw [if_pos ⟨rfl, rfl⟩] at hG6
            subst hG6
            clear hwt
            have hat1 := HA3.out
            have hq2 : RQ wy (fun j => Z j ∧ j < w.heap.size ∨ w.heap.size + 4 ≤ j) ⟨true, c, -1, []⟩ (.slice none 0 0) := RQ.nil _ _ rfl
            have HTr := Lib.hid hat1.b10.there
            have hone := hq2.one
            have HR := Lib.hid (hat1.ret (r' := ⟨true, c, -1, []⟩) hq2 hz10.out H10.out)
            go_wp2_with (refine wpList_store_to rfl 30 (.tmp 10) (.tmp 65) rfl g10 0 #[.bool true, .int .i64 c, .int .i64 (-1), .slice none 0 0] rfl rfl HTr.out (by kernel_rfl) (rowA_one _ _ _ _ hone) ?_)
            intro wz hwz
            have HR2 : Hid (Blk wz g10 30 #[.bool true, .int .i64 c, .int .i64 (-1), .slice none 0 0] ∧ RQ wz (fun j => Z j ∧ j < w.heap.size ∨ w.heap.size + 4 ≤ j) ⟨true, c, -1, []⟩ (.slice none 0 0) ∧ Fresh w wz) := Lib.hid (by rw [hwz.out]; exact HR.out)
            clear hwz HR HTr hone
            go_wp2_with fail
            refine bodyPost_ret (results_one rfl _ _ g10 30 #[.bool true, .int .i64 c, .int .i64 (-1), .slice none 0 0] _ rfl HR2.out.1 Tryz.underlying30 rfl (by kernel_rfl)) rfl ?_
            exact ⟨⟨(.slice none 0 0), rfl, HR2.out.2.1.weaken hzz.out⟩, HR2.out.2.2⟩
          · rw [if_neg (by simp), if_pos ⟨rfl, h2, fun h => by have := hwt.2 h; cases this⟩] at hG6
            subst hG6
            clear hwt
            have HLs := Lib.hid (fun w' (hf : Fresh wy w') => less_any _ A1 pn c1 pq (-1) w' (HA3.out.rq.rd.2.keep (hf.weaken fun _ _ _ => trivial)) hl1)
            have h0d : Hid (Fresh wy (World.drew wy)) := Lib.hid ((Keep.refl _ wy).drew)
            have h0a : Hid (Fresh wy ((World.drew wy).alloc (.cells #[.int .i64 c] 3))) := Lib.hid (((Keep.refl _ wy).drew).alloc _)
            go_upto_region 14 with (fail)
            have HMK : Hid (∀ w', Fresh wy w' → w'.cell? ⟨g7, 0, none⟩ = some (.int .i64 c) ∧ w'.cell? ⟨g5, 3, none⟩ = some (.slice A1 pn c1) ∧ w'.frozen? ⟨g5, 3, none⟩ = false ∧ g5 < w'.heap.size ∧ g7 < w'.heap.size) := Lib.hid fun w' hf => ⟨hf.cellAt m0 trivial, hf.cellAt k3 trivial, (hf.frozen (p := ⟨g5, 3, none⟩) l5 trivial).trans (HA3.out.b5.frozen 3), Nat.lt_of_lt_of_le l5 hf.size, Nat.lt_of_lt_of_le l7 hf.size⟩
            obtain ⟨n2, hn2⟩ : ∃ n2, n2 = (lessD pq (-1)).length := ⟨_, rfl⟩
            rw [← hn2] at HLs
            have HN2 := Lib.hid (And.intro hn2 (show n2 ≤ 1000000 from by have := less_le pq (-1); have := HPN.out; omega))
            clear hn2
            go_region_law (first
              | (refine step_app etInt2 rfl (.tmp 81) (.tmp 84) rfl wy.heap.size (.slice A2 n2 c2) n2 _ rfl HD1.out.1 _ (some ⟨wa.heap.size, 0, none⟩) 1 _ [.int .i64 c] rfl (Rd.one_of (Blk.new _ _ _) rfl) (fun h => by cases h) (by simp [Value.oneCell']) (by have := HN2.out.2; omega) HD1.out.2.2 ?_
                 intro v4 w4 ho4 hk4 hn4
                 obtain ⟨A4, c4, rfl, -⟩ := own_rdc ho4
                 have hf4 : Fresh wy w4 := (HD1.out.2.1.then ((Keep.refl (fun _ => True) wa).alloc (.cells #[.int .i64 c] 3))).comp hk4 (fun _ _ h => h) (fun i hi _ e => by have := (own_lt HD1.out.1 e).1; omega)
                 obtain ⟨d0, d1, d2, d3, d4⟩ := HMK.out w4 hf4
                 have H4 := Lib.hid (And.intro ho4 hf4)
                 clear ho4 hk4 hn4 hf4)
              | (refine step_app etInt2 rfl (.tmp 81) (.tmp 84) rfl wy.heap.size (.slice A2 n2 c2) n2 _ rfl HD2.out.1 _ (some ⟨(World.drew wy).heap.size, 0, none⟩) 1 _ [.int .i64 c] rfl (Rd.one_of HD2.out.2.2 rfl) (fun h => by cases h) (by simp [Value.oneCell']) (by have := HN2.out.2; omega) HD2.out.2.1.size ?_
                 intro v4 w4 ho4 hk4 hn4
                 obtain ⟨A4, c4, rfl, -⟩ := own_rdc ho4
                 have hf4 : Fresh wy w4 := HD2.out.2.1.comp hk4 (fun _ _ h => h) (fun i hi _ e => by have := (own_lt HD2.out.1 e).1; omega)
                 obtain ⟨d0, d1, d2, d3, d4⟩ := HMK.out w4 hf4
                 have H4 := Lib.hid (And.intro ho4 hf4)
                 clear ho4 hk4 hn4 hf4)
              | (go_simp
                 go_at_call 13
                 refine Calls.mono (HLs.out _ h0d.out) ?_
                 rintro e wa ⟨⟨v, rfl, hv⟩, hfa⟩
                 obtain ⟨A2, c2, rfl, -⟩ := own_rdc hv
                 have hfw := h0d.out.then hfa
                 obtain ⟨a0, a1, a2, a3, a4⟩ := HMK.out wa hfw
                 have hva := own_keep (own_base hv h0d.out.size) ((Keep.refl (fun _ => True) wa).alloc (.cells #[.int .i64 c] 3)) (fun _ _ => trivial)
                 have HD1 := Lib.hid (And.intro hva (And.intro hfw (show wy.heap.size ≤ (wa.alloc (.cells #[.int .i64 c] 3)).heap.size from Nat.le_trans hfw.size ((Keep.refl (fun _ => True) wa).alloc _).size)))
                 clear hv hfa hfw hva)
              | (go_simp
                 go_at_call 13
                 refine Calls.mono (HLs.out _ h0a.out) ?_
                 rintro e wa ⟨⟨v, rfl, hv⟩, hfa⟩
                 obtain ⟨A2, c2, rfl, -⟩ := own_rdc hv
                 have hfw := h0a.out.then hfa
                 obtain ⟨a0, a1, a2, a3, a4⟩ := HMK.out wa hfw
                 have hbc : Blk wa (World.drew wy).heap.size 3 #[.int .i64 c] := (Blk.new (World.drew wy) _ _).keep hfa trivial
                 have HD2 := Lib.hid (And.intro (own_base hv h0a.out.size) (And.intro hfw hbc))
                 clear hv hfa hfw hbc))
            all_goals
              have hq4 : RQ w4 (fun j => Z j ∧ j < w.heap.size ∨ w.heap.size + 4 ≤ j) ⟨true, pc, pt, lessD pq (-1) ++ [c]⟩ (.slice A4 (n2 + 1) c4) := by
                refine (RQ.of_own (base := wy.heap.size) (r := ⟨true, pc, pt, lessD pq (-1) ++ [c]⟩) ?_).weaken fun j hj => .inr (by have := (own_lt H4.out.1 hj).1; have := HA3.out.b10.lt; have := HE10.out; omega)
                have h1 := H4.out.1
                rw [HN2.out.1] at h1 ⊢
                simpa [ics] using h1
              have HA4 := Lib.hid ((HA3.out.fresh H4.out.2).put3 hq4 hz5.out H5.out.1 H5.out.2)
              clear hq4 k0 k1 k2 k3 m0 m3 s0 l5 l7 l9 l10 HLs
              generalize World.setCell w4 ⟨g5, 3, none⟩ (.slice A4 (n2 + 1) c4) = w5 at HA4 ⊢
              clear d0 d1 d2 d3 d4
              have hat2 := HA4.out
              have hq2 := hat2.rq
              have k0 := hat2.b5.cell 0; have k1 := hat2.b5.cell 1; have k2 := hat2.b5.cell 2; have k3 := hat2.b5.cell 3
              simp [RowD.vals] at k0 k1 k2 k3
              have l5 := hat2.b5.lt; have l10 := hat2.b10.lt
              have HTr := Lib.hid hat2.b10.there
              have hone := hq2.one
              have HR := Lib.hid (hat2.ret (r' := ⟨true, pc, pt, lessD pq (-1) ++ [c]⟩) hq2 hz10.out H10.out)
              go_wp2_with (refine wpList_store_to rfl 30 (.tmp 10) (.tmp 106) rfl g10 0 #[.bool true, .int .i64 pc, .int .i64 pt, .slice A4 (n2 + 1) c4] rfl rfl HTr.out (by kernel_rfl) (rowA_one _ _ _ _ hone) ?_)
              intro wz hwz
              have HR2 : Hid (Blk wz g10 30 #[.bool true, .int .i64 pc, .int .i64 pt, .slice A4 (n2 + 1) c4] ∧ RQ wz (fun j => Z j ∧ j < w.heap.size ∨ w.heap.size + 4 ≤ j) ⟨true, pc, pt, lessD pq (-1) ++ [c]⟩ (.slice A4 (n2 + 1) c4) ∧ Fresh w wz) := Lib.hid (by rw [hwz.out]; exact HR.out)
              clear hwz HR HTr hone
              go_wp2_with fail
              refine bodyPost_ret (results_one rfl _ _ g10 30 #[.bool true, .int .i64 pc, .int .i64 pt, .slice A4 (n2 + 1) c4] _ rfl HR2.out.1 Tryz.underlying30 rfl (by kernel_rfl)) rfl ?_
              exact ⟨⟨(.slice A4 (n2 + 1) c4), rfl, HR2.out.2.1.weaken hzz.out⟩, HR2.out.2.2⟩
          · have hG7 : G = ⟨ph, pc, pt, pq⟩ := by
              rw [hG6, if_neg, if_neg]
              · rintro ⟨h1, h2, h3⟩
                rcases hc6 with h | h | h
                · rw [h.1] at h1; cases h1
                · exact h2 h.2
                · exact h3 (hwt.1 h.2.2)
              · rintro ⟨h1, h2⟩
                rcases hc6 with h | h | h
                · exact h.2 h2
                · rw [h.1] at h1; cases h1
                · rw [h.1] at h1; cases h1
            subst hG7
            clear hwt hG6
            rcases hc6 with ⟨rfl, h2⟩ | ⟨rfl, rfl⟩ | ⟨rfl, h2, rfl⟩
            · skip
              have hat1 := HA3.out
              have hq2 := hat1.rq
              have HTr := Lib.hid hat1.b10.there
              have hone := hq2.one
              have HR := Lib.hid (hat1.ret (r' := ⟨false, pc, pt, pq⟩) hq2 hz10.out H10.out)
              go_wp2_with (refine wpList_store_to rfl 30 (.tmp 10) (.tmp 106) rfl g10 0 #[.bool false, .int .i64 pc, .int .i64 pt, .slice A1 pn c1] rfl rfl HTr.out (by kernel_rfl) (rowA_one _ _ _ _ hone) ?_)
              intro wz hwz
              have HR2 : Hid (Blk wz g10 30 #[.bool false, .int .i64 pc, .int .i64 pt, .slice A1 pn c1] ∧ RQ wz (fun j => Z j ∧ j < w.heap.size ∨ w.heap.size + 4 ≤ j) ⟨false, pc, pt, pq⟩ (.slice A1 pn c1) ∧ Fresh w wz) := Lib.hid (by rw [hwz.out]; exact HR.out)
              clear hwz HR HTr hone
              go_wp2_with fail
              refine bodyPost_ret (results_one rfl _ _ g10 30 #[.bool false, .int .i64 pc, .int .i64 pt, .slice A1 pn c1] _ rfl HR2.out.1 Tryz.underlying30 rfl (by kernel_rfl)) rfl ?_
              exact ⟨⟨(.slice A1 pn c1), rfl, HR2.out.2.1.weaken hzz.out⟩, HR2.out.2.2⟩
            · skip
              have hat1 := HA3.out
              have hq2 := hat1.rq
              have HTr := Lib.hid hat1.b10.there
              have hone := hq2.one
              have HR := Lib.hid (hat1.ret (r' := ⟨true, pc, pt, pq⟩) hq2 hz10.out H10.out)
              go_wp2_with (refine wpList_store_to rfl 30 (.tmp 10) (.tmp 106) rfl g10 0 #[.bool true, .int .i64 pc, .int .i64 pt, .slice A1 pn c1] rfl rfl HTr.out (by kernel_rfl) (rowA_one _ _ _ _ hone) ?_)
              intro wz hwz
              have HR2 : Hid (Blk wz g10 30 #[.bool true, .int .i64 pc, .int .i64 pt, .slice A1 pn c1] ∧ RQ wz (fun j => Z j ∧ j < w.heap.size ∨ w.heap.size + 4 ≤ j) ⟨true, pc, pt, pq⟩ (.slice A1 pn c1) ∧ Fresh w wz) := Lib.hid (by rw [hwz.out]; exact HR.out)
              clear hwz HR HTr hone
              go_wp2_with fail
              refine bodyPost_ret (results_one rfl _ _ g10 30 #[.bool true, .int .i64 pc, .int .i64 pt, .slice A1 pn c1] _ rfl HR2.out.1 Tryz.underlying30 rfl (by kernel_rfl)) rfl ?_
              exact ⟨⟨(.slice A1 pn c1), rfl, HR2.out.2.1.weaken hzz.out⟩, HR2.out.2.2⟩
            · skip
              have hat1 := HA3.out
              have hq2 := hat1.rq
              have HTr := Lib.hid hat1.b10.there
              have hone := hq2.one
              have HR := Lib.hid (hat1.ret (r' := ⟨true, pc, pt, pq⟩) hq2 hz10.out H10.out)
              go_wp2_with (refine wpList_store_to rfl 30 (.tmp 10) (.tmp 106) rfl g10 0 #[.bool true, .int .i64 pc, .int .i64 pt, .slice A1 pn c1] rfl rfl HTr.out (by kernel_rfl) (rowA_one _ _ _ _ hone) ?_)
              intro wz hwz
              have HR2 : Hid (Blk wz g10 30 #[.bool true, .int .i64 pc, .int .i64 pt, .slice A1 pn c1] ∧ RQ wz (fun j => Z j ∧ j < w.heap.size ∨ w.heap.size + 4 ≤ j) ⟨true, pc, pt, pq⟩ (.slice A1 pn c1) ∧ Fresh w wz) := Lib.hid (by rw [hwz.out]; exact HR.out)
              clear hwz HR HTr hone
              go_wp2_with fail
              refine bodyPost_ret (results_one rfl _ _ g10 30 #[.bool true, .int .i64 pc, .int .i64 pt, .slice A1 pn c1] _ rfl HR2.out.1 Tryz.underlying30 rfl (by kernel_rfl)) rfl ?_
              exact ⟨⟨(.slice A1 pn c1), rfl, HR2.out.2.1.weaken hzz.out⟩, HR2.out.2.2⟩
        · have hG7 : G = if ph = true ∧ pc = c then RowD.passes ⟨ph, pc, pt, pq⟩ else ⟨ph, pc, pt, lessD pq c⟩ := by rw [HGK.out]; exact onKey_7 _ _ _
          clear HGK h9
          by_cases hc7 : ph = true ∧ pc = c
          · rw [if_pos hc7] at hG7
            obtain ⟨rfl, rfl⟩ := hc7
            have hps := passes_any _ ⟨true, pc, pt, pq⟩ (.slice A1 pn c1) wy HA3.out.rq (by rw [← HPN.out]; exact hl1)
            rw [← hG7] at hps
            obtain ⟨yh, yc, yt, yq⟩ := G
            simp only [RowD.vals] at hps
            have HPS := Lib.hid hps
            clear hps hG7
            go_wp2_with fail
            refine Calls.mono HPS.out ?_
            rintro e w1 ⟨⟨q1, rfl, hq1⟩, hf1⟩
            have hat1 := HA3.out.fresh hf1
            have hq2 := hq1
            have HTr := Lib.hid hat1.b10.there
            have hone := hq2.one
            have HR := Lib.hid (hat1.ret (r' := ⟨yh, yc, yt, yq⟩) hq2 hz10.out H10.out)
            clear hq1 hf1 k0 k1 k2 k3 m0 m3 s0 l5 l7 l9 l10 HPS
            go_wp2_with (refine wpList_store_to rfl 30 (.tmp 10) (.tmp 99) rfl g10 0 #[.bool yh, .int .i64 yc, .int .i64 yt, q1] rfl rfl HTr.out (by kernel_rfl) (rowA_one _ _ _ _ hone) ?_)
            intro wz hwz
            have HR2 : Hid (Blk wz g10 30 #[.bool yh, .int .i64 yc, .int .i64 yt, q1] ∧ RQ wz (fun j => Z j ∧ j < w.heap.size ∨ w.heap.size + 4 ≤ j) ⟨yh, yc, yt, yq⟩ q1 ∧ Fresh w wz) := Lib.hid (by rw [hwz.out]; exact HR.out)
            clear hwz HR HTr hone
            go_wp2_with fail
            refine bodyPost_ret (results_one rfl _ _ g10 30 #[.bool yh, .int .i64 yc, .int .i64 yt, q1] _ rfl HR2.out.1 Tryz.underlying30 rfl (by kernel_rfl)) rfl ?_
            exact ⟨⟨q1, rfl, HR2.out.2.1.weaken hzz.out⟩, HR2.out.2.2⟩
          · rw [if_neg hc7] at hG7
            subst hG7
            have hc8 : ph = false ∨ (ph = true ∧ pc ≠ c) := by
              cases ph
              · exact .inl rfl
              · exact .inr ⟨rfl, fun e => hc7 ⟨rfl, e⟩⟩
            clear hc7
            rcases hc8 with rfl | ⟨rfl, h2⟩
            · skip
              have HLs := Lib.hid (less_any _ A1 pn c1 pq c wy HA3.out.rq.rd.2 hl1)
              go_wp2_with fail
              refine Calls.mono HLs.out ?_
              rintro e w1 ⟨⟨v, rfl, hv⟩, hf1⟩
              obtain ⟨n2, hn2⟩ : ∃ n2, n2 = (lessD pq c).length := ⟨_, rfl⟩
              rw [← hn2] at hv
              obtain ⟨A2, c2, rfl, -⟩ := own_rdc hv
              have hat1 := HA3.out.fresh hf1
              have hrq : RQ w1 (fun j => Z j ∧ j < w.heap.size ∨ w.heap.size + 4 ≤ j) ⟨false, pc, pt, lessD pq c⟩ (.slice A2 n2 c2) := (RQ.of_own (r := ⟨false, pc, pt, lessD pq c⟩) (by rw [hn2] at hv ⊢; exact hv)).weaken fun j hj => .inr (by have := (own_lt hv hj).1; have := HA3.out.b10.lt; have := HE10.out; omega)
              have hat2 := hat1.put3 hrq hz5.out H5.out.1 H5.out.2
              have z3 := hat1.b5.frozen 3
              have x3 := hat1.b5.cell 3
              simp [RowD.vals] at x3
              have y5 := hat1.b5.lt
              clear k0 k1 k2 k3 m0 m3 s0 l5 l7 l9 l10 hv hn2 hf1 hat1 hrq HLs
              have HA4 := Lib.hid hat2
              clear hat2
              go_upto_region 19 with (fail)
              generalize World.setCell w1 ⟨g5, 3, none⟩ (.slice A2 n2 c2) = w2 at HA4 ⊢
              clear z3 x3 y5
              have hat2 := HA4.out
              have hq2 := hat2.rq
              have k0 := hat2.b5.cell 0; have k1 := hat2.b5.cell 1; have k2 := hat2.b5.cell 2; have k3 := hat2.b5.cell 3
              simp [RowD.vals] at k0 k1 k2 k3
              have l5 := hat2.b5.lt; have l10 := hat2.b10.lt
              have HTr := Lib.hid hat2.b10.there
              have hone := hq2.one
              have HR := Lib.hid (hat2.ret (r' := ⟨false, pc, pt, lessD pq c⟩) hq2 hz10.out H10.out)
              go_wp2_with (refine wpList_store_to rfl 30 (.tmp 10) (.tmp 106) rfl g10 0 #[.bool false, .int .i64 pc, .int .i64 pt, .slice A2 n2 c2] rfl rfl HTr.out (by kernel_rfl) (rowA_one _ _ _ _ hone) ?_)
              intro wz hwz
              have HR2 : Hid (Blk wz g10 30 #[.bool false, .int .i64 pc, .int .i64 pt, .slice A2 n2 c2] ∧ RQ wz (fun j => Z j ∧ j < w.heap.size ∨ w.heap.size + 4 ≤ j) ⟨false, pc, pt, lessD pq c⟩ (.slice A2 n2 c2) ∧ Fresh w wz) := Lib.hid (by rw [hwz.out]; exact HR.out)
              clear hwz HR HTr hone
              go_wp2_with fail
              refine bodyPost_ret (results_one rfl _ _ g10 30 #[.bool false, .int .i64 pc, .int .i64 pt, .slice A2 n2 c2] _ rfl HR2.out.1 Tryz.underlying30 rfl (by kernel_rfl)) rfl ?_
              exact ⟨⟨(.slice A2 n2 c2), rfl, HR2.out.2.1.weaken hzz.out⟩, HR2.out.2.2⟩
            · skip
              have HLs := Lib.hid (less_any _ A1 pn c1 pq c wy HA3.out.rq.rd.2 hl1)
              go_wp2_with fail
              refine Calls.mono HLs.out ?_
              rintro e w1 ⟨⟨v, rfl, hv⟩, hf1⟩
              obtain ⟨n2, hn2⟩ : ∃ n2, n2 = (lessD pq c).length := ⟨_, rfl⟩
              rw [← hn2] at hv
              obtain ⟨A2, c2, rfl, -⟩ := own_rdc hv
              have hat1 := HA3.out.fresh hf1
              have hrq : RQ w1 (fun j => Z j ∧ j < w.heap.size ∨ w.heap.size + 4 ≤ j) ⟨true, pc, pt, lessD pq c⟩ (.slice A2 n2 c2) := (RQ.of_own (r := ⟨true, pc, pt, lessD pq c⟩) (by rw [hn2] at hv ⊢; exact hv)).weaken fun j hj => .inr (by have := (own_lt hv hj).1; have := HA3.out.b10.lt; have := HE10.out; omega)
              have hat2 := hat1.put3 hrq hz5.out H5.out.1 H5.out.2
              have z3 := hat1.b5.frozen 3
              have x3 := hat1.b5.cell 3
              simp [RowD.vals] at x3
              have y5 := hat1.b5.lt
              clear k0 k1 k2 k3 m0 m3 s0 l5 l7 l9 l10 hv hn2 hf1 hat1 hrq HLs
              have HA4 := Lib.hid hat2
              clear hat2
              go_upto_region 19 with (fail)
              generalize World.setCell w1 ⟨g5, 3, none⟩ (.slice A2 n2 c2) = w2 at HA4 ⊢
              clear z3 x3 y5
              have hat2 := HA4.out
              have hq2 := hat2.rq
              have k0 := hat2.b5.cell 0; have k1 := hat2.b5.cell 1; have k2 := hat2.b5.cell 2; have k3 := hat2.b5.cell 3
              simp [RowD.vals] at k0 k1 k2 k3
              have l5 := hat2.b5.lt; have l10 := hat2.b10.lt
              have HTr := Lib.hid hat2.b10.there
              have hone := hq2.one
              have HR := Lib.hid (hat2.ret (r' := ⟨true, pc, pt, lessD pq c⟩) hq2 hz10.out H10.out)
              go_wp2_with (refine wpList_store_to rfl 30 (.tmp 10) (.tmp 106) rfl g10 0 #[.bool true, .int .i64 pc, .int .i64 pt, .slice A2 n2 c2] rfl rfl HTr.out (by kernel_rfl) (rowA_one _ _ _ _ hone) ?_)
              intro wz hwz
              have HR2 : Hid (Blk wz g10 30 #[.bool true, .int .i64 pc, .int .i64 pt, .slice A2 n2 c2] ∧ RQ wz (fun j => Z j ∧ j < w.heap.size ∨ w.heap.size + 4 ≤ j) ⟨true, pc, pt, lessD pq c⟩ (.slice A2 n2 c2) ∧ Fresh w wz) := Lib.hid (by rw [hwz.out]; exact HR.out)
              clear hwz HR HTr hone
              go_wp2_with fail
              refine bodyPost_ret (results_one rfl _ _ g10 30 #[.bool true, .int .i64 pc, .int .i64 pt, .slice A2 n2 c2] _ rfl HR2.out.1 Tryz.underlying30 rfl (by kernel_rfl)) rfl ?_
              exact ⟨⟨(.slice A2 n2 c2), rfl, HR2.out.2.1.weaken hzz.out⟩, HR2.out.2.2⟩
        · obtain rfl : G = ⟨ph, pc, pt, pq⟩ := by rw [HGK.out]; unfold RowD.onKey; rw [if_neg h6, if_neg h7]
          clear HGK
          have h6b : (o == 6) = false := by simpa using h6
          have h7b : (o == 7) = false := by simpa using h7
          have hat1 := HA3.out
          have hq2 := hat1.rq
          have HTr := Lib.hid hat1.b10.there
          have hone := hq2.one
          have HR := Lib.hid (hat1.ret (r' := ⟨ph, pc, pt, pq⟩) hq2 hz10.out H10.out)
          go_wp2_with (refine wpList_store_to rfl 30 (.tmp 10) (.tmp 106) rfl g10 0 #[.bool ph, .int .i64 pc, .int .i64 pt, .slice A1 pn c1] rfl rfl HTr.out (by kernel_rfl) (rowA_one _ _ _ _ hone) ?_)
          intro wz hwz
          have HR2 : Hid (Blk wz g10 30 #[.bool ph, .int .i64 pc, .int .i64 pt, .slice A1 pn c1] ∧ RQ wz (fun j => Z j ∧ j < w.heap.size ∨ w.heap.size + 4 ≤ j) ⟨ph, pc, pt, pq⟩ (.slice A1 pn c1) ∧ Fresh w wz) := Lib.hid (by rw [hwz.out]; exact HR.out)
          clear hwz HR HTr hone
          go_wp2_with fail
          refine bodyPost_ret (results_one rfl _ _ g10 30 #[.bool ph, .int .i64 pc, .int .i64 pt, .slice A1 pn c1] _ rfl HR2.out.1 Tryz.underlying30 rfl (by kernel_rfl)) rfl ?_
          exact ⟨⟨(.slice A1 pn c1), rfl, HR2.out.2.1.weaken hzz.out⟩, HR2.out.2.2⟩
    · rw [if_pos hk] at hG2
      subst hG2
      have hkb : (!(k == nm)) = true := by simpa using hk
      have hkc : (k == nm) = false := by simpa using hk
      have hat1 := HA2.out
      have hq2 := hat1.rq
      simp only [RowD.vals]
      rcases hno with ⟨rfl, hc1'⟩ | h9
      all_goals
        have HTr := Lib.hid hat1.b10.there
        have hone := hq2.one
        have HR := Lib.hid (hat1.ret (r' := ⟨ph, pc, pt, pq⟩) hq2 hz10.out H10.out)
        go_wp2_with (refine wpList_store_to rfl 30 (.tmp 10) (.tmp 40) rfl g10 0 #[.bool ph, .int .i64 pc, .int .i64 pt, .slice A1 pn c1] rfl rfl HTr.out (by kernel_rfl) (rowA_one _ _ _ _ hone) ?_)
        intro wz hwz
        have HR2 : Hid (Blk wz g10 30 #[.bool ph, .int .i64 pc, .int .i64 pt, .slice A1 pn c1] ∧ RQ wz (fun j => Z j ∧ j < w.heap.size ∨ w.heap.size + 4 ≤ j) ⟨ph, pc, pt, pq⟩ (.slice A1 pn c1) ∧ Fresh w wz) := Lib.hid (by rw [hwz.out]; exact HR.out)
        clear hwz HR HTr hone
        go_wp2_with fail
        refine bodyPost_ret (results_one rfl _ _ g10 30 #[.bool ph, .int .i64 pc, .int .i64 pt, .slice A1 pn c1] _ rfl HR2.out.1 Tryz.underlying30 rfl (by kernel_rfl)) rfl ?_
        exact ⟨⟨(.slice A1 pn c1), rfl, HR2.out.2.1.weaken hzz.out⟩, HR2.out.2.2⟩
end Go.Proofs.YtggibajakcigaaaGreatDoor
namespace Go.Proofs.YtggibajakcigaaaGreatDoor
set_option linter.unusedVariables false
set_option linter.unusedSimpArgs false

section
variable {s : StD} {c i r o : Int} {k v d : Txt}
/-- What the law takes for a new request. -/
def dnB (c i r o : Int) (k v d : Txt) (s : StD) : Bool := validB c i r o k v d && (!(sessD c s).2 || (decide ((sessD c s).1.inc < i) || ((sessD c s).1.inc == i && decide ((sessD c s).1.req < r))))
def anewB (c i : Int) (s : StD) : Bool := (sessD c s).2 && decide ((sessD c s).1.inc < i)
theorem sess_of (hv : validB c i r o k v d = true) : sessD c s = if (s.ss.getD c.toNat noSes).inc = 0 then (noSes, false) else (s.ss.getD c.toNat noSes, true) := by
  have hV := vcmd_of hv
  have h0 := hV.c0
  have h1 := hV.c1
  unfold sessD
  by_cases hz : (s.ss.getD c.toNat noSes).inc = 0
  · rw [if_pos (.inr (.inr hz)), if_pos hz]
  · rw [if_neg (by rintro (h | h | h); omega; omega; exact hz h), if_neg hz]
theorem ses_inc (hi : Inv s) (hv : validB c i r o k v d = true) : 0 ≤ (s.ss.getD c.toNat noSes).inc ∧ 0 ≤ (s.ss.getD c.toNat noSes).req := by
  have hV := vcmd_of hv
  have h0 := hV.c0
  have h1 := hV.c1
  rcases hi.ses _ (getD_mem (l := s.ss) (n := c.toNat) (by rw [hi.s16]; omega)) with h | h
  · rw [h]; exact ⟨by decide, by decide⟩
  · exact ⟨by have := h.i0; omega, by have := h.r0; omega⟩
theorem dn_true (hi : Inv s) (h : dnB c i r o k v d s = true) : validB c i r o k v d = true ∧ (∀ z, s.ss.getD c.toNat noSes = z → ¬ (z.inc > i ∨ (z.inc = i ∧ z.req > r)) ∧ ¬ (z.inc = i ∧ z.req = r) ∧ (anewB c i s = true ↔ 0 < z.inc ∧ z.inc < i)) := by
  unfold dnB at h
  simp only [Bool.and_eq_true, Bool.or_eq_true, decide_eq_true_eq, beq_iff_eq, Bool.not_eq_true'] at h
  obtain ⟨hv, h⟩ := h
  refine ⟨hv, fun z hz => ?_⟩
  have hV := vcmd_of hv
  have h0 := ses_inc hi hv
  have hi0 := hV.i0
  have hs := sess_of (s := s) hv
  rw [hz] at h0 hs
  unfold anewB
  simp only [Bool.and_eq_true, decide_eq_true_eq]
  rw [hs] at h ⊢
  by_cases hz0 : z.inc = 0
  · rw [if_pos hz0]
    exact ⟨by omega, by omega, ⟨fun h => by simp at h, fun h => by omega⟩⟩
  · rw [if_neg hz0] at h ⊢
    simp only [Bool.true_eq_false, false_or] at h
    exact ⟨by omega, by omega, ⟨fun h => ⟨by omega, h.2⟩, fun h => ⟨rfl, h.2⟩⟩⟩
theorem dn_false (hi : Inv s) (h : dnB c i r o k v d s = false) : (applyD c i r o k v d s).2 = s := by
  by_cases hv : validB c i r o k v d = true
  · have h0 := ses_inc hi hv
    have hs := sess_of (s := s) hv
    have hi0 := (vcmd_of hv).i0
    unfold dnB at h
    rw [hv, Bool.true_and] at h
    simp only [Bool.or_eq_false_iff, decide_eq_false_iff_not, Bool.and_eq_false_iff, Bool.not_eq_false'] at h
    obtain ⟨z, hz⟩ : ∃ z, s.ss.getD c.toNat noSes = z := ⟨_, rfl⟩
    rw [hz] at h0 hs
    rw [hs] at h
    by_cases hz0 : z.inc = 0
    · rw [if_pos hz0] at h
      cases h.1
    · rw [if_neg hz0] at h
      simp only [true_and, beq_eq_false_iff_ne, ne_eq] at h
      by_cases h1 : z.inc > i ∨ (z.inc = i ∧ z.req > r)
      · rw [applyD_stale hv hz h1]
      · rw [applyD_again hv hz (by omega) (by omega)]
  · rw [applyD_bad (by simpa using hv)]
/-- The row that is wanted. -/
def wantD (c i r o : Int) (k v d : Txt) (s : StD) (code : Int) (k' : Txt) : RowD := if dnB c i r o k v d s = true then goesD rnum (rowD k' s) k' c o k v (anewB c i s) code else rowD k' s
theorem tok_step (hi : Inv s) (ht : s.tok + 16 ≤ 99999999) {g : Int} (hg : g ≤ s.tok) (k' : Txt) :
    Meets g (rowD k' (applyD c i r o k v d s).2) (wantD c i r o k v d s (applyD c i r o k v d s).1.code k') ∧ s.tok ≤ (applyD c i r o k v d s).2.tok ∧ (applyD c i r o k v d s).2.tok ≤ s.tok + 16 := by
  unfold wantD
  cases hd : dnB c i r o k v d s
  · rw [dn_false hi hd]
    simp only [Bool.false_eq_true, if_false]
    exact ⟨Meets.same (by have := (row_tok hi.lk k').1; omega), Int.le_refl _, by omega⟩
  · obtain ⟨hv, h⟩ := dn_true hi hd
    obtain ⟨h1, h2, h3⟩ := h _ rfl
    obtain ⟨a1, a2, a3⟩ := apply_row (o := o) (k := k) (v := v) (d := d) hi hv rfl h1 h2 ht k' h3
    simp only [if_true]
    exact ⟨a1.lower hg, a2, a3⟩
theorem tok_had (hi : Inv s) (hd : dnB c i r 6 k v d s = true) (h1 : (applyD c i r 6 k v d s).1.code = 1) : holdD k (applyD c i r 6 k v d s).2 = ((c, i, (applyD c i r 6 k v d s).1.n), true) := by
  obtain ⟨hv, h⟩ := dn_true hi hd
  obtain ⟨a1, a2, -⟩ := h _ rfl
  exact apply_had hi hv rfl a1 a2 h1
theorem hold_tok (hi : Inv s) {k : Txt} {a b t : Int} (h : holdD k s = ((a, b, t), true)) : 1 ≤ t ∧ t ≤ s.tok := by
  unfold holdD at h
  cases hf : lfind k s.locks with
  | none => rw [hf] at h; injection h with _ h; cases h
  | some l =>
    rw [hf] at h
    injection h with h _
    injection h with _ h
    injection h with _ h
    have := hi.lk.each l (findK_some hf).2
    exact ⟨by rw [← h]; exact this.t0, by rw [← h]; exact this.t1⟩
/-- Of one row: its holder does not wait; a token that is not its own. -/
theorem row_ok (hi : Inv s) (k : Txt) : (rowD k s).held = true → (rowD k s).client ∉ (rowD k s).queue ∧ 1 ≤ (rowD k s).token ∧ ∀ k', k' ≠ k → (rowD k' s).token ≠ (rowD k s).token := by
  unfold rowD
  cases hf : lfind k s.locks with
  | none => intro h; cases h
  | some l =>
    intro _
    obtain ⟨hn, hm⟩ := findK_some hf
    have hl := hi.lk.each l hm
    refine ⟨hl.hq, hl.t0, fun k' hk => ?_⟩
    cases hf' : lfind k' s.locks with
    | none => show (0 : Int) ≠ l.token; have := hl.t0; omega
    | some l' =>
      obtain ⟨hn', hm'⟩ := findK_some hf'
      exact apart_ne hi.lk.apart l' hm' l hm (fun e => hk (by rw [← hn', ← hn, e]))
end
end Go.Proofs.YtggibajakcigaaaGreatDoor
namespace Go.Proofs.YtggibajakcigaaaGreatDoor
set_option linter.unusedVariables false
set_option linter.unusedSimpArgs false

theorem pput_find (k k' v : Txt) (ps : List (Txt × Txt)) : pfindD k' (pputD k v ps) = if k = k' then some (k, v) else pfindD k' ps := by
  unfold pputD
  cases hf : pfindD k ps with
  | some x =>
    obtain ⟨h1, h2⟩ := findK_some hf
    exact findK_set (key := Prod.fst) (x := (k, v)) ⟨x, h2, h1⟩
  | none => exact findK_ins (key := Prod.fst) (x := (k, v)) (findK_none hf)
theorem pput_size (k v : Txt) (ps : List (Txt × Txt)) : ps.length ≤ (pputD k v ps).length ∧ (pputD k v ps).length ≤ ps.length + 1 := by
  unfold pputD
  cases hf : pfindD k ps with
  | some x => simp only; rw [setK_len]; omega
  | none => simp only; rw [insK_len]; omega
theorem del_size {α : Type} {key : α → Txt} (k : Txt) : ∀ (l : List α), Rise (l.map key) → l.length ≤ (delK key k l).length + 1
  | [], _ => by simp
  | y :: r, h => by
    obtain ⟨h1, h2⟩ := List.pairwise_cons.1 h
    by_cases hy : key y = k
    · have : delK key k (y :: r) = r := by
        unfold delK
        rw [List.filter_cons]
        rw [if_neg (by simp [hy])]
        refine List.filter_eq_self.2 fun x hx => ?_
        have := before_ne (h1 (key x) (List.mem_map_of_mem hx))
        simp
        exact fun e => this (hy.trans e.symm)
      rw [this]
      simp
    · have : delK key k (y :: r) = y :: delK key k r := by
        unfold delK
        rw [List.filter_cons, if_pos (by simp [hy])]
      rw [this]
      have := del_size (key := key) k r h2
      simp only [List.length_cons]
      omega
section
variable {s : StD} {num : Txt → Int × Bool} {ita : Int → Txt} {c i r o : Int} {k v d : Txt}
/-- What became of the pairs. -/
structure PFrame (o : Int) (k : Txt) (ps qs : List (Txt × Txt)) : Prop where
  find : ∀ k', k' ≠ k ∨ 6 ≤ o ∨ o = 2 → pfindD k' qs = pfindD k' ps
  up : qs.length ≤ ps.length + 1
  down : ps.length ≤ qs.length + 1
theorem PFrame.refl (o : Int) (k : Txt) (ps : List (Txt × Txt)) : PFrame o k ps ps := ⟨fun _ _ => rfl, by omega, by omega⟩
theorem PFrame.put {o : Int} {k v : Txt} {ps : List (Txt × Txt)} (h : o ≤ 5) (h2 : o ≠ 2) : PFrame o k ps (pputD k v ps) :=
  ⟨fun k' hk => by rw [pput_find, if_neg (by rcases hk with hk | hk | hk; exact fun e => hk e.symm; omega; exact absurd hk h2)], (pput_size k v ps).2, by have := (pput_size k v ps).1; omega⟩
theorem onKey_frame (hp : PInv s.pairs) (ho : o ≤ 5) : PFrame o k s.pairs (onKeyD num ita o k v d s).2.pairs ∧ (onKeyD num ita o k v d s).2.locks = s.locks := by
  unfold onKeyD
  split
  · split
    · rename_i h
      split
      · exact ⟨.refl _ _ _, rfl⟩
      · exact ⟨.put ho (by omega), rfl⟩
    · exact ⟨.refl _ _ _, rfl⟩
  · split
    · exact ⟨.put ho (by omega), rfl⟩
    · split
      · split
        · exact ⟨.put ho (by omega), rfl⟩
        · exact ⟨.refl _ _ _, rfl⟩
      · split
        · refine ⟨⟨fun k' hk => ?_, Nat.le_trans (delK_len _ _) (Nat.le_succ _), del_size k _ hp.rise⟩, rfl⟩
          show findK Prod.fst k' (delK Prod.fst k s.pairs) = findK Prod.fst k' s.pairs
          rw [findK_del, if_neg]
          rcases hk with hk | hk | hk
          · exact hk
          · omega
          · omega
        · split
          · split
            · exact ⟨.refl _ _ _, rfl⟩
            · split
              · exact ⟨.refl _ _ _, rfl⟩
              · exact ⟨.put ho (by omega), rfl⟩
          · exact ⟨.refl _ _ _, rfl⟩
theorem onLock_pairs : (onLockD num c o k v s).2.pairs = s.pairs := by
  unfold onLockD
  split
  · repeat' split
    all_goals rfl
  · repeat' split
    all_goals first | rfl | exact (pass_rest _ _).1
theorem end_pairs : (endD num v s).2.pairs = s.pairs := by
  unfold endD
  split
  · rfl
  · exact (lets_rest _ _).1
theorem does_frame (hp : PInv s.pairs) : PFrame o k s.pairs (doesD num ita c o k v d s).2.pairs ∧ (o ≤ 5 → (doesD num ita c o k v d s).2.locks = s.locks) := by
  unfold doesD
  split
  · rename_i h
    exact ⟨(onKey_frame hp h).1, fun _ => (onKey_frame hp h).2⟩
  · split
    · rw [onLock_pairs]
      exact ⟨.refl _ _ _, fun h => by omega⟩
    · rw [end_pairs]
      exact ⟨.refl _ _ _, fun h => by omega⟩
theorem apply_frame (hi : Inv s) : PFrame o k s.pairs (applyD c i r o k v d s).2.pairs ∧ (o ≤ 5 → ((sessD c s).2 = true → i ≤ (sessD c s).1.inc) → (applyD c i r o k v d s).2.locks = s.locks) := by
  unfold applyD
  split
  · rename_i hv
    have hV := vcmd_of hv
    unfold applyV
    simp only
    split
    · exact ⟨.refl _ _ _, fun _ _ => rfl⟩
    · split
      · exact ⟨.refl _ _ _, fun _ _ => rfl⟩
      · split
        · rename_i hz
          have h1 : (letsD c s).2.pairs = s.pairs := (lets_rest c s).1
          have h2 := does_frame (num := numb) (ita := Lib.itoa) (c := c) (o := o) (k := k) (v := v) (d := d) (s := (letsD c s).2) (by rw [h1]; exact hi.pr)
          refine ⟨by have := h2.1; rw [h1] at this; exact this, fun _ hs => ?_⟩
          exfalso
          unfold sessD at hs
          rw [if_neg (by have := hV.c0; have := hV.c1; omega)] at hs
          have := hs rfl
          simp only at this
          omega
        · have h2 := does_frame (num := numb) (ita := Lib.itoa) (c := c) (o := o) (k := k) (v := v) (d := d) (s := s) hi.pr
          exact ⟨h2.1, fun ho _ => h2.2 ho⟩
  · exact ⟨.refl _ _ _, fun _ _ => rfl⟩
end
end Go.Proofs.YtggibajakcigaaaGreatDoor
namespace Go.Proofs.YtggibajakcigaaaGreatDoor
set_option linter.unusedVariables false
set_option linter.unusedSimpArgs false
open Go.RowKit

/-- A row and its queue's slice. -/
structure RwV where
  r : RowD
  q : Value
def RwV.cells (x : RwV) : List Value := [.bool x.r.held, .int .i64 x.r.client, .int .i64 x.r.token, x.q]
theorem rw_four : ∀ x : RwV, x.cells.length = 4 := fun _ => rfl
theorem row_info : (Tryz.prog.info? 30).map (fun i => (i.zero, i.size, i.bytes)) = some (some (.agg noRowA), 4, 48) := by kernel_rfl
/-- The rows of some locks, read from blocks that were made behind N. -/
structure RwIs (w : World) (N : Nat) (xs : List RwV) (rs : List RowD) : Prop where
  eq : xs.map RwV.r = rs
  each : ∀ x ∈ xs, w.ownsRow N 3 1 x.q x.r.queue.length (ics x.r.queue)
theorem RwIs.keep {w w' : World} {N : Nat} {xs : List RwV} {rs : List RowD} {Z : Nat → Prop} (h : RwIs w N xs rs) (hk : Keep Z w w') (hz : ∀ x ∈ xs, ∀ k, x.q.ownBlock = some k → Z k) : RwIs w' N xs rs :=
  ⟨h.eq, fun x hx => own_keep (h.each x hx) hk (hz x hx)⟩
theorem RwIs.fresh {w w' : World} {N : Nat} {xs : List RwV} {rs : List RowD} (h : RwIs w N xs rs) (hk : Fresh w w') : RwIs w' N xs rs := h.keep hk fun _ _ _ _ => trivial
theorem RwIs.app {w : World} {N : Nat} {xs : List RwV} {rs : List RowD} (h : RwIs w N xs rs) {r : RowD} {q : Value} (hq : w.ownsRow N 3 1 q r.queue.length (ics r.queue)) : RwIs w N (xs ++ [⟨r, q⟩]) (rs ++ [r]) :=
  ⟨by rw [List.map_append, h.eq]; rfl, fun x hx => by
    rcases List.mem_append.1 hx with h1 | h1
    · exact h.each x h1
    · simp at h1
      subst h1
      exact hq⟩
theorem pairs_get {s : StD} (h : PInv s.pairs) {j : Nat} (hj : j < s.pairs.length) : pfindD s.pairs[j].1 s.pairs = some s.pairs[j] := findK_of h.rise (List.getElem_mem hj) rfl
theorem pfind_of {k : Txt} {ps : List (Txt × Txt)} {x : Txt × Txt} (h : pfindD k ps = some x) : pfind k ps = some x.2 := by
  have h1 : ps.find? (fun p => p.1 == k) = some x := h
  unfold pfind
  rw [h1]
  rfl
theorem Rd.pairAt {w : World} {Z : Nat → Prop} {A : Option Addr} {n k : Nat} {ps : List (Txt × Txt)} (h : Rd w Z 2 A n (pcells ps)) (hk : k < n) :
    ∃ (hl : k < ps.length) (b o : Nat), A = some ⟨b, o, none⟩ ∧ Z b ∧ w.cell? ⟨b, o + k * 2, none⟩ = some (str ps[k].1) ∧ w.cell? ⟨b, o + k * 2 + 1, none⟩ = some (str ps[k].2) := by
  have hl : k < ps.length := by
    have := h.1
    rw [rcells_len (f := pairC) (c := 2) (fun _ => rfl)] at this
    omega
  obtain ⟨b, o, hA, hz, hc⟩ := h.2 (by omega)
  have hg : ∀ j u, j < 2 → (pairC ps[k])[j]? = some u → w.cell? ⟨b, o + k * 2 + j, none⟩ = some u := fun j u hj hu => by
    have := hc (k * 2 + j) u (by rw [rcells_get (f := pairC) (c := 2) (fun _ => rfl) ps k hl j hj]; exact hu)
    rwa [← Nat.add_assoc] at this
  exact ⟨hl, b, o, hA, hz, hg 0 _ (by omega) rfl, hg 1 _ (by omega) rfl⟩
theorem Rd.rowAt {w : World} {Z : Nat → Prop} {A : Option Addr} {n k : Nat} {xs : List RwV} (h : Rd w Z 4 A n (rcells RwV.cells xs)) (hk : k < n) :
    ∃ (hl : k < xs.length) (b o : Nat), A = some ⟨b, o, none⟩ ∧ Z b ∧ w.cell? ⟨b, o + k * 4, none⟩ = some (.bool xs[k].r.held) ∧ w.cell? ⟨b, o + k * 4 + 1, none⟩ = some (.int .i64 xs[k].r.client) ∧ w.cell? ⟨b, o + k * 4 + 2, none⟩ = some (.int .i64 xs[k].r.token) ∧ w.cell? ⟨b, o + k * 4 + 3, none⟩ = some xs[k].q := by
  have hl : k < xs.length := by
    have := h.1
    rw [rcells_len rw_four] at this
    omega
  obtain ⟨b, o, hA, hz, hc⟩ := h.2 (by omega)
  have hg : ∀ j u, j < 4 → (xs[k].cells)[j]? = some u → w.cell? ⟨b, o + k * 4 + j, none⟩ = some u := fun j u hj hu => by
    have := hc (k * 4 + j) u (by rw [rcells_get rw_four xs k hl j hj]; exact hu)
    rwa [← Nat.add_assoc] at this
  exact ⟨hl, b, o, hA, hz, hg 0 _ (by omega) rfl, hg 1 _ (by omega) rfl, hg 2 _ (by omega) rfl, hg 3 _ (by omega) rfl⟩
theorem quiet_any {P : Program} {f : FuncId} {args : Array Value} {w : World} {n : Nat} {v : Value}
    (h : Calls P f args (w.drewN n) fun e w' => e = .returned v ∧ ∃ k, w' = (w.drewN n).drewN k) : Calls P f args (w.drewN n) fun e w'' => e = .returned v ∧ ∃ m, w'' = w.drewN m :=
  h.mono fun _ _ ⟨he, k, hk⟩ => ⟨he, n + k, hk.trans (World.drewN_drewN _ _ _)⟩
theorem row_len {k : Txt} {s : StD} (h : LInv s.locks s.tok) : (rowD k s).queue.length ≤ 1000 := by
  have h1 := wait_len (k := k) h
  have h2 := (row_wait k s).1
  rw [← h2, List.length_map]
  omega
theorem rowL_one (a : Bool) (i j : Int) (q : Value) (h : q.oneCell' = true) : ∀ u ∈ (#[.bool a, .int .i64 i, .int .i64 j, q] : Array Value).toList, u.oneCell' = true := by
  intro u hu
  simp only [List.mem_cons, List.not_mem_nil, or_false] at hu
  rcases hu with rfl | rfl | rfl | rfl
  · rfl
  · rfl
  · rfl
  · exact h
theorem cmd_one (x : CmD) : x.cells.toArray.all (·.oneCell') = true := by simp [CmD.cells, Value.oneCell']
theorem Blk.cmd1 {w : World} {g : Nat} {t : TypeId} {x : CmD} (h : Blk w g t x.cells.toArray) : CmAt w g 0 x := ⟨h.cell 0, h.cell 1, h.cell 2, h.cell 3, h.cell 4, h.cell 5, h.cell 6⟩
end Go.Proofs.YtggibajakcigaaaGreatDoor
namespace Go.Proofs.YtggibajakcigaaaGreatDoor
set_option linter.unusedVariables false
set_option linter.unusedSimpArgs false
open Go.RowKit

/-- One element among many is written over. -/
theorem rcells_splice {α : Type} {f : α → List Value} {k : Nat} (hf : ∀ a, (f a).length = k) : ∀ (ps : List α) (q : Nat) (hq : q < ps.length) (x : α), (rcells f ps).take (q * k) ++ f x ++ (rcells f ps).drop (q * k + (f x).length) = rcells f (ps.set q x)
  | p :: ps, 0, _, x => by
    rw [rcells_cons, List.set_cons_zero, rcells_cons, hf]
    simp only [Nat.zero_mul, List.take_zero, List.nil_append, Nat.zero_add]
    rw [List.drop_append_of_le_length (by rw [hf]; exact Nat.le_refl _), List.drop_of_length_le (by rw [hf]; exact Nat.le_refl _), List.nil_append]
  | p :: ps, q + 1, hq, x => by
    have ih := rcells_splice hf ps q (by simpa using hq) x
    have e1 : (q + 1) * k = (f p).length + q * k := by rw [hf, Nat.add_mul]; omega
    rw [rcells_cons, List.set_cons_succ, rcells_cons, e1, List.take_length_add_append, Nat.add_assoc, List.drop_length_add_append, ← ih]
    simp only [List.append_assoc]
theorem Blk.splice {α : Type} {f : α → List Value} {k : Nat} (hf : ∀ a, (f a).length = k) {w : World} {g : Nat} {t : TypeId} {ps : List α} (h : Blk w g t (rcells f ps).toArray) {q : Nat} (hq : q < ps.length) (x : α) : Blk (w.setCells g (q * k) (f x)) g t (rcells f (ps.set q x)).toArray := by
  have hl : q * k + (f x).length ≤ (rcells f ps).toArray.size := by
    rw [List.size_toArray, rcells_len hf, hf]
    have := Nat.mul_le_mul_right k (show q + 1 ≤ ps.length from hq)
    rw [Nat.add_mul] at this
    omega
  obtain ⟨cs', h1, h2⟩ := Blk.setCells (f x) (q * k) w _ h hl
  have : cs' = (rcells f (ps.set q x)).toArray := by
    apply Array.ext'
    rw [h2, ← rcells_splice hf ps q hq x]
  rwa [this] at h1
theorem Blk.thereAt {α : Type} {f : α → List Value} {k : Nat} (hf : ∀ a, (f a).length = k) {w : World} {g : Nat} {t : TypeId} {ps : List α} (h : Blk w g t (rcells f ps).toArray) {q : Nat} (hq : q < ps.length) : w.there g (q * k) k := fun j hj => by
  have h1 := h.there (q * k + j) (by
    rw [List.size_toArray, rcells_len hf]
    have := Nat.mul_le_mul_right k (show q + 1 ≤ ps.length from hq)
    rw [Nat.add_mul] at this
    omega)
  simpa using h1
theorem Blk.elem {α : Type} {f : α → List Value} {k : Nat} (hf : ∀ a, (f a).length = k) {w : World} {g : Nat} {t : TypeId} {ps : List α} (h : Blk w g t (rcells f ps).toArray) {q : Nat} (hq : q < ps.length) (j : Nat) (hj : j < k) : w.cell? ⟨g, q * k + j, none⟩ = (f ps[q])[j]? := by
  rw [h.cell, List.getElem?_toArray, rcells_get hf ps q hq j hj]
end Go.Proofs.YtggibajakcigaaaGreatDoor
