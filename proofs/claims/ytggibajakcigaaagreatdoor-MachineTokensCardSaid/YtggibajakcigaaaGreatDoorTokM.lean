/-
  WALK OF THE LAW 'MachineTokens'.
-/
import Derived.Test.YtggibajakcigaaaGreatDoorTC
namespace Go.Proofs.YtggibajakcigaaaGreatDoor
set_option linter.unusedVariables false
set_option linter.unusedSimpArgs false
open Go.RowKit

def nm3 (j : Nat) : Txt := [[97], [98], [99]].getD j []
theorem nm3_ne {i j : Nat} (hi : i < 3) (hj : j < 3) (h : i ≠ j) : nm3 i ≠ nm3 j := by
  have h1 : i = 0 ∨ i = 1 ∨ i = 2 := by omega
  have h2 : j = 0 ∨ j = 1 ∨ j = 2 := by omega
  rcases h1 with rfl | rfl | rfl <;> rcases h2 with rfl | rfl | rfl <;> first | exact absurd rfl h | decide
theorem nm3_len {j : Nat} (hj : j < 3) : (nm3 j).length ≤ 1048576 := by
  have h1 : j = 0 ∨ j = 1 ∨ j = 2 := by omega
  rcases h1 with rfl | rfl | rfl <;> decide
theorem nm3_cell {w : World} {g : Nat} (h : Blk w g 9 #[str [97], str [98], str [99]]) {j : Nat} (hj : j < 3) : w.cell? ⟨g, j, none⟩ = some (str (nm3 j)) := by
  rw [h.cell]
  have h1 : j = 0 ∨ j = 1 ∨ j = 2 := by omega
  rcases h1 with rfl | rfl | rfl <;> rfl
theorem nine_key {c i r : Int} {k v d : Txt} (h : validB c i r 9 k v d = true) : k = [] := by
  obtain ⟨-, -, -, -, hf⟩ := valid_ok h
  have e : shapeTab.getD (9 : Int).toNat 0 = 32 := by decide
  rw [e] at hf
  unfold fitsB at hf
  have b1 : hasB 32 1 = false := by decide
  rw [b1] at hf
  split at hf
  · cases hf
  · rename_i h1
    exact Classical.not_not.1 fun hk => h1 (.inr ⟨rfl, hk⟩)
def noRw : RwV := ⟨⟨false, 0, 0, []⟩, .slice none 0 0⟩
/-- The rows before: in a block of three. -/
structure Three (w : World) (b : Nat) (N : Nat) (xs : List RwV) (s : StD) (j : Nat) : Prop where
  blk : Blk w b 31 (rcells RwV.cells xs).toArray
  len : xs.length = 3
  each : ∀ i, i < j → (xs.getD i noRw).r = rowD (nm3 i) s ∧ w.ownsRow N 3 1 (xs.getD i noRw).q (xs.getD i noRw).r.queue.length (ics (xs.getD i noRw).r.queue)
theorem Three.keep {w w' : World} {b N : Nat} {xs : List RwV} {s : StD} {j : Nat} {Z : Nat → Prop} (h : Three w b N xs s j) (hk : Keep Z w w') (hb : Z b) (hz : ∀ k, N ≤ k → Z k) : Three w' b N xs s j :=
  ⟨h.blk.keep hk hb, h.len, fun i hi => ⟨(h.each i hi).1, own_keep (h.each i hi).2 hk fun k hk => hz k (own_lt (h.each i hi).2 hk).1⟩⟩
theorem Three.fresh {w w' : World} {b N : Nat} {xs : List RwV} {s : StD} {j : Nat} (h : Three w b N xs s j) (hk : Fresh w w') : Three w' b N xs s j := h.keep hk trivial fun _ _ => trivial
theorem Three.put {w : World} {b N : Nat} {xs : List RwV} {s : StD} {j : Nat} (h : Three w b N xs s j) (hj : j < 3) {q : Value} (hq : w.ownsRow N 3 1 q (rowD (nm3 j) s).queue.length (ics (rowD (nm3 j) s).queue)) : Three (w.setCells b (j * 4) (RwV.cells ⟨rowD (nm3 j) s, q⟩)) b N (xs.set j ⟨rowD (nm3 j) s, q⟩) s (j + 1) := by
  have hk : Keep (fun k => k ≠ b) w (w.setCells b (j * 4) (RwV.cells ⟨rowD (nm3 j) s, q⟩)) := Keep.setCells _ _ _ (Keep.refl _ w) (fun _ e => e rfl)
  refine ⟨h.blk.splice rw_four (by rw [h.len]; exact hj) _, by simp [h.len], fun i hi => ?_⟩
  by_cases e : i = j
  · subst e
    rw [getD_set_self (by rw [h.len]; exact hj)]
    exact ⟨rfl, own_keep hq hk fun k hk e => own_ne_blk hq h.blk (by decide) (e ▸ hk)⟩
  · rw [getD_set_ne (fun e2 => e e2.symm)]
    obtain ⟨h1, h2⟩ := h.each i (by omega)
    exact ⟨h1, own_keep h2 hk fun k hk e => own_ne_blk h2 h.blk (by decide) (e ▸ hk)⟩
theorem Three.cells {w : World} {b N : Nat} {xs : List RwV} {s : StD} {j i : Nat} (h : Three w b N xs s j) (hi : i < 3) : w.cell? ⟨b, i * 4, none⟩ = some (.bool (xs.getD i noRw).r.held) ∧ w.cell? ⟨b, i * 4 + 1, none⟩ = some (.int .i64 (xs.getD i noRw).r.client) ∧ w.cell? ⟨b, i * 4 + 2, none⟩ = some (.int .i64 (xs.getD i noRw).r.token) ∧ w.cell? ⟨b, i * 4 + 3, none⟩ = some (xs.getD i noRw).q := by
  have hl : i < xs.length := by rw [h.len]; exact hi
  have e : xs.getD i noRw = xs[i] := by rw [List.getD_eq_getElem?_getD, List.getElem?_eq_getElem hl]; rfl
  rw [e]
  have h0 := h.blk.elem rw_four hl
  exact ⟨h0 0 (by omega), h0 1 (by omega), h0 2 (by omega), h0 3 (by omega)⟩

theorem row_blk4 {w : World} {g : Nat} {a b c q a' b' c' q' : Value} (h : Blk w g 30 #[a, b, c, q]) : Blk ((((w.setCell ⟨g, 0, none⟩ a').setCell ⟨g, 1, none⟩ b').setCell ⟨g, 2, none⟩ c').setCell ⟨g, 3, none⟩ q') g 30 #[a', b', c', q'] := by
  simpa using (((h.set 0 a').set 1 b').set 2 c').set 3 q'
theorem fin23 {w13 w20 wb : World} {g : Nat} {r : RowD} {q a b c q' : Value} {N : Nat} (h0 : Fresh w13 w20) (hg : w13.heap.size ≤ g) (hq : RQ wb (fun k => k ≠ g ∨ N ≤ k) r q) (hb : Blk ((((wb.setCell ⟨g, 0, none⟩ a).setCell ⟨g, 1, none⟩ b).setCell ⟨g, 2, none⟩ c).setCell ⟨g, 3, none⟩ q') g 30 (r.vals q)) (hf : Fresh w20 wb) (hN : g < N) :
    ∃ q15, Blk ((((wb.setCell ⟨g, 0, none⟩ a).setCell ⟨g, 1, none⟩ b).setCell ⟨g, 2, none⟩ c).setCell ⟨g, 3, none⟩ q') g 30 (r.vals q15) ∧ RQ ((((wb.setCell ⟨g, 0, none⟩ a).setCell ⟨g, 1, none⟩ b).setCell ⟨g, 2, none⟩ c).setCell ⟨g, 3, none⟩ q') (fun k => k ≠ g) r q15 ∧ Fresh w13 ((((wb.setCell ⟨g, 0, none⟩ a).setCell ⟨g, 1, none⟩ b).setCell ⟨g, 2, none⟩ c).setCell ⟨g, 3, none⟩ q') := by
  have hk : Keep (fun k => k ≠ g) wb ((((wb.setCell ⟨g, 0, none⟩ a).setCell ⟨g, 1, none⟩ b).setCell ⟨g, 2, none⟩ c).setCell ⟨g, 3, none⟩ q') := ((((Keep.refl _ wb).setCell (fun _ h => h rfl) _).setCell (fun _ h => h rfl) _).setCell (fun _ h => h rfl) _).setCell (fun _ h => h rfl) _
  refine ⟨q, hb, (hq.weaken fun k hk => ?_).keep hk, ?_⟩
  · rcases hk with hk | hk
    · exact hk
    · omega
  · exact (h0.then hf).comp hk (fun _ _ h => h) (fun i hi _ e => by omega)

set_option maxRecDepth 20000 in
set_option maxHeartbeats 100000000 in
theorem mtokens_any (A : Option Addr) (n c : Nat) (cs : List CmD) (W : World) (hT : TabsN W) (hb : Rd W (fun _ => True) 7 A n (rcells CmD.cells cs)) :
    Calls Tryz.prog 3 #[.slice A n c] W fun e w' => e = .returned (.bool true) ∧ Fresh W w' := by
  have HT := Lib.hid hT
  have HN := Lib.hid (mat_new W)
  have HB := Lib.hid (hb.old (by omega))
  clear hT hb
  go_enter Tryz.func3, Tryz.ntmps3
  go_wp2_with fail
  refine Calls.mono HN.out ?_
  rintro e w1 ⟨⟨m, F, rfl, hm⟩, hf1⟩
  have HF := Lib.hid (first_any (HT.out.fresh hf1))
  have H1 := Lib.hid (And.intro hm hf1)
  clear hm hf1 HN
  go_wp2_with fail
  refine Calls.mono HF.out ?_
  rintro e w2 ⟨rfl, hf2⟩
  have H2 := Lib.hid (And.intro (H1.out.1.fresh hf2) (H1.out.2.then hf2))
  clear hf2 HF H1
  go_wp2_with fail
  go_loopw [4, 5] (fun gv iv wr => ∃ (k : Nat) (gr : Int), k ≤ 120 ∧ gv = .int .i64 gr ∧ iv = .int .i64 (k : Int) ∧ Hid (∃ F s, MAt W.heap.size wr F m s ∧ Fresh W wr ∧ gr ≤ s.tok ∧ s.tok ≤ 16 * (k : Int))) (fun _ i _ => 120 - (intOf i).toNat)
  case atStart => exact ⟨0, 0, by omega, rfl, rfl, Lib.hid ⟨_, _, H2.out.1, H2.out.2, by decide, by decide⟩⟩
  case round =>
    as_aux_lemma =>
    rename World => wr
    obtain ⟨k, gr, hk, rfl, rfl, HW⟩ := hrel
    by_cases hlt : k < n ∧ k < 120
    · obtain ⟨l1, l2⟩ := hlt
      obtain ⟨F0, s, hm, hf, hgr, htk⟩ := HW.out
      obtain ⟨hl, b7, o7, rfl, hz7, hb7, hcm⟩ := (HB.out.keep (hf.weaken fun _ _ _ => trivial)).cmd l1
      obtain ⟨x, hx⟩ : ∃ x, x = cs[k] := ⟨_, rfl⟩
      rw [← hx] at hcm
      have HA := Lib.hid (And.intro hm (And.intro hf (And.intro hgr htk)))
      obtain ⟨xc, xi, xr, xo, xk, xv, xd⟩ := x
      obtain ⟨c0, c1, c2, c3, c4, c5, c6⟩ := hcm
      simp only at c0 c1 c2 c3 c4 c5 c6
      clear hm hf HW hl hz7 hx hgr htk
      go_wp2_with (refine wpList_store_new rfl (.tmp 6) (.tmp 40) rfl _ (CmD.cells ⟨xc, xi, xr, xo, xk, xv, xd⟩).toArray _ rfl rfl rfl (by kernel_rfl) (cmd_one _) ?_)
      intro w3 hb3 hf3 hs3
      obtain ⟨c7, hc7⟩ : ∃ c7, c7 = wr.heap.size := ⟨_, rfl⟩
      rw [← hc7] at hb3 ⊢
      have H3 := Lib.hid (And.intro hf3 (And.intro hb3 hc7))
      clear c0 c1 c2 c3 c4 c5 c6 hb3 hf3 hs3 hc7 hb7
      go_wp2_with fail
      obtain ⟨b3, hb3⟩ : ∃ b, b = w3.heap.size := ⟨_, rfl⟩
      rw [← hb3]
      generalize hw4 : World.alloc w3 _ = w4
      have hf34 : Fresh w3 w4 := by rw [← hw4]; exact (Keep.refl _ w3).alloc _
      have hz4 : Blk w4 b3 31 (rcells RwV.cells [noRw, noRw, noRw]).toArray := by
        rw [← hw4, hb3]
        exact Blk.new w3 31 (rcells RwV.cells [noRw, noRw, noRw]).toArray
      have H4 : Hid (Fresh wr w4 ∧ Blk w4 c7 27 (CmD.cells ⟨xc, xi, xr, xo, xk, xv, xd⟩).toArray ∧ c7 = wr.heap.size ∧ wr.heap.size ≤ b3 ∧ b3 < w4.heap.size ∧ Three w4 b3 w4.heap.size [noRw, noRw, noRw] s 0) := Lib.hid ⟨H3.out.1.then hf34, H3.out.2.1.keep hf34 trivial, H3.out.2.2, by have := H3.out.1.size; omega, hz4.lt, hz4, rfl, fun i hi => by omega⟩
      clear hb3 hw4 hf34 hz4 H3
      go_loopw [8] (fun jv wy => ∃ j : Nat, j ≤ 3 ∧ jv = .int .i64 (j : Int) ∧ Hid (∃ xs, Three wy b3 w4.heap.size xs s j ∧ Keep (fun i => i ≠ b3) w4 wy)) (fun j _ => 3 - (intOf j).toNat)
      case atStart => exact ⟨0, by omega, rfl, Lib.hid ⟨_, H4.out.2.2.2.2.2, Keep.refl _ _⟩⟩
      case round =>
        as_aux_lemma =>
        rename World => wy
        obtain ⟨j, hj, rfl, HX⟩ := hrel
        by_cases hj3 : j < 3
        · skip
          as_aux_lemma =>
            obtain ⟨xs, h3, hky⟩ := HX.out
            have hjs : j = 0 ∨ j = 1 ∨ j = 2 := by omega
            have HNm := Lib.hid (names_any wy)
            have hmy := (HA.out.1.fresh H4.out.1).keep hky (fun i hi e => by have := HA.out.1.hi i hi; have := H4.out.2.2.2.1; omega)
            have HY := Lib.hid (And.intro h3 (And.intro hky hmy))
            have hji : (j : Int) < 3 := by omega
            have lb3 := h3.blk.lt
            clear h3 hky hmy HX hjs
            go_wp2_with fail
            refine Calls.mono HNm.out ?_
            rintro e w5 ⟨⟨g, rfl, hg⟩, hf5⟩
            have hcn := nm3_cell hg hj3
            have lg := hg.lt
            have hrow := row_any (HY.out.2.2.fresh hf5) (nm3 j) (nm3_len hj3)
            obtain ⟨R, hR⟩ : ∃ R, R = rowD (nm3 j) s := ⟨_, rfl⟩
            rw [← hR] at hrow
            have HR := Lib.hid hR
            obtain ⟨rh, rc, rt, rq⟩ := R
            have HRow := Lib.hid hrow
            have H5 := Lib.hid hf5
            have lb5 : b3 < w5.heap.size := Nat.lt_of_lt_of_le lb3 hf5.size
            clear hg hf5 hrow hR HNm lb3
            go_wp2_with fail
            refine Calls.mono HRow.out ?_
            rintro e w6 ⟨⟨q, rfl, hq⟩, hf6⟩
            have hone : q.oneCell' = true := by
              obtain ⟨_, _, rfl, -⟩ := own_rd hq
              rfl
            have hf56 := H5.out.then hf6
            have h36 := HY.out.1.fresh hf56
            have hq6 : w6.ownsRow w4.heap.size 3 1 q rq.length (ics rq) := own_base hq (Nat.le_trans HY.out.2.1.size H5.out.size)
            have hput := h36.put hj3 (q := q) (by rw [← HR.out]; exact hq6)
            rw [← HR.out] at hput
            have HTh := Lib.hid (h36.blk.thereAt rw_four (q := j) (by rw [h36.len]; exact hj3))
            have H6 := Lib.hid (And.intro hput (And.intro hf56 h36))
            clear hq hf6 hf56 h36 hq6 hput hcn lg HRow lb5
            go_wp2_with (refine wpList_store_to rfl 30 (.tmp 52) (.tmp 51) rfl b3 (j * 4) #[.bool rh, .int .i64 rc, .int .i64 rt, q] rfl rfl HTh.out (by kernel_rfl) (rowA_one _ _ _ _ hone) ?_)
            intro w7 hw7
            have H7 : Hid (Three w7 b3 w4.heap.size (xs.set j ⟨⟨rh, rc, rt, rq⟩, q⟩) s (j + 1) ∧ Keep (fun i => i ≠ b3) w4 w7) := Lib.hid (by
              rw [hw7.out]
              exact ⟨H6.out.1, Keep.setCells _ _ _ (HY.out.2.1.comp H6.out.2.1 (fun _ _ h => h) (fun _ _ _ => trivial)) (fun _ e => e rfl)⟩)
            clear hw7 hone HTh H6
            go_wp2_with fail
            exact ⟨⟨j + 1, by omega, by simp, Lib.hid ⟨_, H7.out⟩⟩, by simp only [intOf]; omega⟩
        · obtain rfl : j = 3 := by omega
          obtain ⟨xs, h3, hky⟩ := HX.out
          have hmy := (HA.out.1.fresh H4.out.1).keep hky (fun i hi e => by have := HA.out.1.hi i hi; have := H4.out.2.2.2.1; omega)
          have hfy : Fresh wr wy := H4.out.1.comp hky (fun _ _ h => h) (fun i hi _ e => by have := H4.out.2.2.2.1; omega)
          have hby := H4.out.2.1.keep hky (H4.out.2.1.ne H4.out.2.2.2.2.2.blk (by decide))
          have hse := mat_session hmy xc
          obtain ⟨⟨⟨zi, zr, ⟨zc, zv, zn⟩⟩, zb⟩, hZ⟩ : ∃ Z, Z = sessD xc s := ⟨_, rfl⟩
          rw [← hZ] at hse
          have HSe := Lib.hid hse
          obtain ⟨c0, c1, c2, c3, c4, c5, c6⟩ := hby.cmd1
          simp at c0 c1 c2 c3 c4 c5 c6
          have l7 := hby.lt
          have HY := Lib.hid (And.intro hmy (And.intro hfy (And.intro hby (And.intro h3 hZ))))
          clear h3 hky hmy hfy hby hse hZ HX
          go_wp2_with fail
          refine Calls.mono HSe.out ?_
          rintro e w10 ⟨rfl, hf10⟩
          have H10 := Lib.hid hf10
          clear hf10 HSe
          go_wp2_with (refine wpList_store_new rfl (.tmp 9) (.tmp 58) rfl _ (sesA ⟨zi, zr, ⟨zc, zv, zn⟩⟩) _ rfl rfl rfl (by kernel_rfl) (by simp [sesA, Value.oneCell']) ?_)
          intro w11 hb11 hf11 hs11
          obtain ⟨s9, hs9⟩ : ∃ s9, s9 = w10.heap.size := ⟨_, rfl⟩
          rw [← hs9] at hb11 ⊢
          have hfy11 := H10.out.then hf11
          have hap := mat_apply HT.out (HA.out.2.1.then (HY.out.2.1.then hfy11)) (HY.out.1.fresh hfy11) xc xi xr xo xk xv xd
          obtain ⟨Y, hY⟩ : ∃ Y, Y = applyD xc xi xr xo xk xv xd s := ⟨_, rfl⟩
          have hts := fun k' => tok_step (c := xc) (i := xi) (r := xr) (o := xo) (k := xk) (v := xv) (d := xd) HA.out.1.inv (by have := HA.out.2.2.2; omega) HA.out.2.2.1 k'
          have hhd : dnB xc xi xr xo xk xv xd s = true → xo = 6 → (applyD xc xi xr xo xk xv xd s).1.code = 1 → holdD xk (applyD xc xi xr xo xk xv xd s).2 = ((xc, xi, (applyD xc xi xr xo xk xv xd s).1.n), true) := fun h1 h2 h3 => by
            subst h2
            exact tok_had HA.out.1.inv h1 h3
          rw [← hY] at hap hhd
          simp only [← hY] at hts
          obtain ⟨⟨rc, rv, rn⟩, s'⟩ := Y
          simp only at hts hhd
          have HAp := Lib.hid hap
          have hb7 := HY.out.2.2.1.keep hfy11 trivial
          obtain ⟨c0, c1, c2, c3, c4, c5, c6⟩ := hb7.cmd1
          simp at c0 c1 c2 c3 c4 c5 c6
          have l7 := hb7.lt
          have H11 := Lib.hid (And.intro hb7 (And.intro hb11 (And.intro (HY.out.2.2.2.1.fresh hfy11) (And.intro (show wr.heap.size ≤ s9 from by have := (HY.out.2.1.then H10.out).size; omega) (And.intro hts hhd)))))
          clear hb11 hf11 hs11 hs9 hfy11 hap hY hb7 hts hhd H10
          go_wp2_with fail
          refine Calls.mono HAp.out ?_
          rintro e w12 ⟨rfl, ⟨F2, hm2, hg2⟩, hk2, hf2⟩
          have hF : ∀ j, wr.heap.size ≤ j → ¬ F0 j := fun j hj e => by have := HA.out.1.hi j e; omega
          have H12 := Lib.hid (And.intro hm2 (And.intro hf2 (And.intro (H11.out.1.keep hk2 (hF _ (by rw [H4.out.2.2.1]; exact Nat.le_refl _))) (And.intro (H11.out.2.1.keep hk2 (hF _ H11.out.2.2.2.1)) (H11.out.2.2.1.keep hk2 (hF _ H4.out.2.2.2.1) fun k hk => hF k (Nat.le_trans H4.out.1.size hk))))))
          clear hm2 hg2 hk2 hf2 hF c0 c1 c2 c3 c4 c5 c6 l7 HAp
          go_wp2_with (refine wpList_store_new rfl (.tmp 11) (.tmp 62) rfl _ #[.int .i64 rc, str rv, .int .i64 rn] _ rfl rfl rfl (by kernel_rfl) (by simp [Value.oneCell']) ?_)
          intro w13 hb13 hf13 hs13
          obtain ⟨r11, hr11⟩ : ∃ r11, r11 = w12.heap.size := ⟨_, rfl⟩
          rw [← hr11] at hb13 ⊢
          obtain ⟨dn, hdn⟩ : ∃ dn, dn = dnB xc xi xr xo xk xv xd s := ⟨_, rfl⟩
          obtain ⟨vb, hvb⟩ : ∃ vb, vb = validB xc xi xr xo xk xv xd := ⟨_, rfl⟩
          have hdn2 : dn = (vb && (!zb || (decide (zi < xi) || (zi == xi && decide (zr < xr))))) := by
            rw [hdn, hvb]
            unfold dnB
            rw [← HY.out.2.2.2.2]
          have hkl : dn = true → xk.length ≤ 1048576 := fun h => by
            rw [hdn] at h
            have := vcmd_of (dn_true HA.out.1.inv h).1
            by_cases ho : xo ≤ 8
            · have := (this.kl ho).2; omega
            · have h9 : xo = 9 := by have := this.o9; omega
              subst h9
              have := nine_key (dn_true HA.out.1.inv h).1
              rw [this]; simp
          have hwant : ∀ k', wantD xc xi xr xo xk xv xd s rc k' = if dn = true then goesD rnum (rowD k' s) k' xc xo xk xv (zb && decide (zi < xi)) rc else rowD k' s := fun k' => by
            unfold wantD anewB
            rw [← HY.out.2.2.2.2, hdn]
          have hc := rcheck_any xc xi xr xo xk xv xd w13
          rw [← hvb] at hc
          have HC := Lib.hid hc
          have HX := Lib.hid (And.intro (H12.out.1.fresh hf13) (And.intro (H12.out.2.1.then hf13) (And.intro (H12.out.2.2.1.keep hf13 trivial) (And.intro (H12.out.2.2.2.1.keep hf13 trivial) (And.intro (H12.out.2.2.2.2.fresh hf13) hb13)))))
          have HD := Lib.hid (And.intro hdn2 (And.intro hkl hwant))
          have HDN := Lib.hid hdn
          have HTS := Lib.hid H11.out.2.2.2.2.1
          have HHD := Lib.hid H11.out.2.2.2.2.2
          clear hb13 hf13 hs13 hr11 hdn2 hkl hwant hc hvb hdn H12 H11
          obtain ⟨c0, c1, c2, c3, c4, c5, c6⟩ := HX.out.2.2.1.cmd1
          simp at c0 c1 c2 c3 c4 c5 c6
          have l7 := HX.out.2.2.1.lt
          have y0 := HX.out.2.2.2.1.cell 0
          have y1 := HX.out.2.2.2.1.cell 1
          simp [sesA] at y0 y1
          have l9 := HX.out.2.2.2.1.lt
          go_upto_region 16 with (fail)
          go_cut [12] (fun s12 wx => s12 = .bool dn ∧ Hid (Fresh w13 wx))
          case first =>
            as_aux_lemma =>
              have hcs : vb = false ∨ (vb = true ∧ zb = false) ∨ (vb = true ∧ zb = true ∧ zi < xi) ∨ (vb = true ∧ zb = true ∧ zi = xi ∧ zr < xr) ∨ (vb = true ∧ zb = true ∧ zi = xi ∧ ¬ zr < xr) ∨ (vb = true ∧ zb = true ∧ xi < zi) := by
                cases vb
                · exact .inl rfl
                · cases zb
                  · exact .inr (.inl ⟨rfl, rfl⟩)
                  · rcases Int.lt_trichotomy zi xi with h | h | h
                    · exact .inr (.inr (.inl ⟨rfl, rfl, h⟩))
                    · by_cases h2 : zr < xr
                      · exact .inr (.inr (.inr (.inl ⟨rfl, rfl, h, h2⟩)))
                      · exact .inr (.inr (.inr (.inr (.inl ⟨rfl, rfl, h, h2⟩))))
                    · exact .inr (.inr (.inr (.inr (.inr ⟨rfl, rfl, h⟩))))
              rcases hcs with rfl | ⟨rfl, rfl⟩ | ⟨rfl, rfl, h1⟩ | ⟨rfl, rfl, rfl, h1⟩ | ⟨rfl, rfl, rfl, h1⟩ | ⟨rfl, rfl, h1⟩
              · go_wp2_with fail
                refine Calls.mono HC.out ?_
                rintro e w14 ⟨rfl, hf14⟩
                have HF14 := Lib.hid hf14
                clear hf14
                go_wp2_with fail
                go_meet
                exact ⟨by rw [HD.out.1]; rfl, HF14⟩
              all_goals
                go_wp2_with fail
                refine Calls.mono HC.out ?_
                rintro e w14 ⟨rfl, hf14⟩
                have HF14 := Lib.hid hf14
                have c0 := hf14.cellAt c0 trivial; have c1 := hf14.cellAt c1 trivial; have c2 := hf14.cellAt c2 trivial
                have y0 := hf14.cellAt y0 trivial; have y1 := hf14.cellAt y1 trivial
                have l7 := Nat.lt_of_lt_of_le l7 hf14.size; have l9 := Nat.lt_of_lt_of_le l9 hf14.size
                clear hf14
                go_wp2_with fail
                go_meet
                exact ⟨by rw [HD.out.1]; simp <;> omega, HF14⟩
          case rest =>
          as_aux_lemma =>
          rename World => wx
          obtain ⟨rfl, HFx⟩ := hcut
          clear c0 c1 c2 c3 c4 c5 c6 l7 y0 y1 l9 HC
          go_wp2_with fail
          go_loopw [13, 14] (fun mv jv wy => ∃ (j : Nat) (mo : Int), j ≤ 3 ∧ mv = .int .i64 mo ∧ jv = .int .i64 (j : Int) ∧ Hid (Fresh w13 wy ∧ mo ≤ s'.tok)) (fun _ j _ => 3 - (intOf j).toNat)
          case atStart => exact ⟨0, gr, by omega, rfl, rfl, Lib.hid ⟨HFx.out, by have := (HTS.out []).2.1; have := HA.out.2.2.1; omega⟩⟩
          case round =>
            as_aux_lemma =>
            rename World => wy
            obtain ⟨j, mo, hj, rfl, rfl, HYY⟩ := hrel
            by_cases hj3 : j < 3
            · have h3f := HX.out.2.2.2.2.1.fresh HYY.out.1
              have h3c := h3f.cells hj3
              have h3e := h3f.each j hj3
              obtain ⟨X3, hxv⟩ : ∃ x, x = xs.getD j noRw := ⟨_, rfl⟩
              rw [← hxv] at h3c h3e
              obtain ⟨⟨h0, cl0, t0, q0⟩, qv⟩ := X3
              obtain ⟨g0, g1, g2, g3⟩ := h3c
              simp only at g0 g1 g2 g3 h3e
              have hone : qv.oneCell' = true := by
                obtain ⟨_, _, rfl, -⟩ := own_rd h3e.2
                rfl
              have lb3 := h3f.blk.lt
              have hji : (j : Int) < 3 := by omega
              have HXV := Lib.hid hxv
              have HR0 := Lib.hid h3e
              have HL0 : Hid (q0.length ≤ 1000) := Lib.hid (by have := row_len (k := nm3 j) HA.out.1.inv.lk; rw [← h3e.1] at this; exact this)
              clear h3f h3e hxv
              go_wp2_with (refine wpList_store_new rfl (.tmp 15) (.tmp 98) rfl _ #[.bool h0, .int .i64 cl0, .int .i64 t0, qv] _ rfl rfl rfl (by kernel_rfl) (rowA_one _ _ _ _ hone) ?_)
              intro w20 hb20 hf20 hs20
              obtain ⟨g15, hg15⟩ : ∃ g, g = wy.heap.size := ⟨_, rfl⟩
              rw [← hg15] at hb20 ⊢
              have HG15 : Hid (w13.heap.size ≤ g15) := Lib.hid (by rw [hg15]; exact HYY.out.1.size)
              have H20 := Lib.hid (And.intro (HYY.out.1.then hf20) hb20)
              have HQ0 : Hid (RQ w20 (fun k => k ≠ g15) ⟨h0, cl0, t0, q0⟩ qv) := Lib.hid ((RQ.of_own (r := ⟨h0, cl0, t0, q0⟩) (own_keep HR0.out.2 hf20 fun _ _ => trivial)).weaken fun k hk e => own_ne_blk (own_keep HR0.out.2 hf20 fun _ _ => trivial) hb20 (by decide) (e ▸ hk))
              obtain ⟨Wt, hWt⟩ : ∃ Wt, Wt = wantD xc xi xr xo xk xv xd s rc (nm3 j) := ⟨_, rfl⟩
              have HWt := Lib.hid hWt
              clear hb20 hf20 hs20 hg15 hWt g0 g1 g2 g3 lb3 hone
              go_upto_if 99 with (fail)
              go_cut [] (fun wz => Hid (∃ q15, Blk wz g15 30 (Wt.vals q15) ∧ RQ wz (fun k => k ≠ g15) Wt q15 ∧ Fresh w13 wz))
              case first =>
                have hWe : Wt = if dn = true then goesD rnum ⟨h0, cl0, t0, q0⟩ (nm3 j) xc xo xk xv (zb && decide (zi < xi)) rc else ⟨h0, cl0, t0, q0⟩ := by rw [HWt.out, HD.out.2.2, HR0.out.1]
                cases dn
                · obtain rfl : Wt = ⟨h0, cl0, t0, q0⟩ := hWe
                  go_wp2_with fail
                  go_meet
                  exact Lib.hid ⟨qv, H20.out.2, HQ0.out, H20.out.1⟩
                · rw [if_pos rfl] at hWe
                  as_aux_lemma =>
                    obtain ⟨an, han⟩ : ∃ an, an = (zb && decide (zi < xi)) := ⟨_, rfl⟩
                    rw [← han] at hWe
                    have HWe : Hid (Wt = goesD rnum ⟨h0, cl0, t0, q0⟩ (nm3 j) xc xo xk xv an rc) := Lib.hid hWe
                    clear hWe HWt
                    have hgo := fun w' (hf : Fresh w20 w') => goes_any (fun k => k ≠ g15) ⟨h0, cl0, t0, q0⟩ qv (nm3 j) xc xi xr xo xk xv xd an rc rn rv w' (HQ0.out.fresh hf) (Nat.le_trans HL0.out (by decide))
                    rw [← HWe.out] at hgo
                    obtain ⟨wh, wc, wt, wq⟩ := Wt
                    simp only [RowD.vals] at hgo
                    have HGo := Lib.hid hgo
                    have HNm := Lib.hid (names_any (World.drew w20))
                    have h0d : Hid (Fresh w20 (World.drew w20)) := Lib.hid ((Keep.refl _ w20).drew)
                    have HKS : Hid (∀ w', Fresh w20 w' → (w'.cell? ⟨b3, j * 4, none⟩ = some (.bool h0) ∧ w'.cell? ⟨b3, j * 4 + 1, none⟩ = some (.int .i64 cl0) ∧ w'.cell? ⟨b3, j * 4 + 2, none⟩ = some (.int .i64 t0) ∧ w'.cell? ⟨b3, j * 4 + 3, none⟩ = some qv ∧ b3 < w'.heap.size) ∧ (w'.cell? ⟨c7, 0, none⟩ = some (.int .i64 xc) ∧ w'.cell? ⟨c7, 1, none⟩ = some (.int .i64 xi) ∧ w'.cell? ⟨c7, 2, none⟩ = some (.int .i64 xr) ∧ w'.cell? ⟨c7, 3, none⟩ = some (.int .i64 xo) ∧ w'.cell? ⟨c7, 4, none⟩ = some (str xk) ∧ w'.cell? ⟨c7, 5, none⟩ = some (str xv) ∧ w'.cell? ⟨c7, 6, none⟩ = some (str xd) ∧ c7 < w'.heap.size) ∧ (w'.cell? ⟨s9, 0, none⟩ = some (.int .i64 zi) ∧ s9 < w'.heap.size) ∧ (w'.cell? ⟨r11, 0, none⟩ = some (.int .i64 rc) ∧ w'.cell? ⟨r11, 1, none⟩ = some (str rv) ∧ w'.cell? ⟨r11, 2, none⟩ = some (.int .i64 rn) ∧ r11 < w'.heap.size) ∧ (w'.cell? ⟨g15, 0, none⟩ = some (.bool h0) ∧ w'.cell? ⟨g15, 1, none⟩ = some (.int .i64 cl0) ∧ w'.cell? ⟨g15, 2, none⟩ = some (.int .i64 t0) ∧ w'.cell? ⟨g15, 3, none⟩ = some qv ∧ w'.frozen? ⟨g15, 0, none⟩ = false ∧ w'.frozen? ⟨g15, 1, none⟩ = false ∧ w'.frozen? ⟨g15, 2, none⟩ = false ∧ w'.frozen? ⟨g15, 3, none⟩ = false ∧ g15 < w'.heap.size)) := Lib.hid fun w' hf => by
                      have f13 := H20.out.1.then hf
                      have a := (HX.out.2.2.2.2.1.fresh f13).cells hj3
                      rw [← HXV.out] at a
                      have b := (HX.out.2.2.1.keep f13 trivial).cmd1
                      have d := HX.out.2.2.2.1.keep f13 trivial
                      have e := HX.out.2.2.2.2.2.keep f13 trivial
                      have f := H20.out.2.keep hf trivial
                      exact ⟨⟨a.1, a.2.1, a.2.2.1, a.2.2.2, (HX.out.2.2.2.2.1.fresh f13).blk.lt⟩, ⟨b.1, b.2.1, b.2.2.1, b.2.2.2.1, b.2.2.2.2.1, b.2.2.2.2.2.1, b.2.2.2.2.2.2, (HX.out.2.2.1.keep f13 trivial).lt⟩, ⟨d.cell 0, d.lt⟩, ⟨e.cell 0, e.cell 1, e.cell 2, e.lt⟩, ⟨f.cell 0, f.cell 1, f.cell 2, f.cell 3, f.frozen 0, f.frozen 1, f.frozen 2, f.frozen 3, f.lt⟩⟩
                    have HS2 := Lib.hid (fun w' (hf : Fresh w20 w') => And.intro (And.intro (HKS.out w' hf).1.1 (And.intro (HKS.out w' hf).1.2.1 (And.intro (HKS.out w' hf).1.2.2.1 (HKS.out w' hf).1.2.2.2.1))) (And.intro (And.intro (HKS.out w' hf).2.1.1 (And.intro (HKS.out w' hf).2.1.2.1 (And.intro (HKS.out w' hf).2.1.2.2.1 (And.intro (HKS.out w' hf).2.1.2.2.2.1 (And.intro (HKS.out w' hf).2.1.2.2.2.2.1 (And.intro (HKS.out w' hf).2.1.2.2.2.2.2.1 (HKS.out w' hf).2.1.2.2.2.2.2.2.1)))))) (And.intro (HKS.out w' hf).2.2.1.1 (And.intro (HKS.out w' hf).2.2.2.1.1 (And.intro (HKS.out w' hf).2.2.2.1.2.1 (HKS.out w' hf).2.2.2.1.2.2.1)))))
                    have n1 : b3 ≠ g15 := fun e => by have := HX.out.2.2.2.2.1.blk.lt; have := HG15.out; omega
                    have n2 : c7 ≠ g15 := fun e => by have := HX.out.2.2.1.lt; have := HG15.out; omega
                    have n3 : s9 ≠ g15 := fun e => by have := HX.out.2.2.2.1.lt; have := HG15.out; omega
                    have n4 : r11 ≠ g15 := fun e => by have := HX.out.2.2.2.2.2.lt; have := HG15.out; omega
                    have hs0 := HS2.out w20 (Keep.refl _ w20)
                    obtain ⟨⟨i1, i2, i3, i4⟩, ⟨i5, i6, i7, i8, i9, i10, i11⟩, i12, i13, i14, i15⟩ := hs0
                    have HS3 := Lib.hid (fun w' (hk : Keep (fun j => j ≠ g15) w20 w') => And.intro (And.intro (hk.cellAt i1 n1) (And.intro (hk.cellAt i2 n1) (And.intro (hk.cellAt i3 n1) (hk.cellAt i4 n1)))) (And.intro (And.intro (hk.cellAt i5 n2) (And.intro (hk.cellAt i6 n2) (And.intro (hk.cellAt i7 n2) (And.intro (hk.cellAt i8 n2) (And.intro (hk.cellAt i9 n2) (And.intro (hk.cellAt i10 n2) (hk.cellAt i11 n2))))))) (And.intro (hk.cellAt i12 n3) (And.intro (hk.cellAt i13 n4) (And.intro (hk.cellAt i14 n4) (hk.cellAt i15 n4))))))
                    clear n1 n2 n3 n4 i1 i2 i3 i4 i5 i6 i7 i8 i9 i10 i11 i12 i13 i14 i15
                    clear hgo
                    go_upto_region 23 with (fail)
                    refine wp_region_held_drew (S := (fun w' => (w'.cell? ⟨b3, j * 4, none⟩ = some (.bool h0) ∧ w'.cell? ⟨b3, j * 4 + 1, none⟩ = some (.int .i64 cl0) ∧ w'.cell? ⟨b3, j * 4 + 2, none⟩ = some (.int .i64 t0) ∧ w'.cell? ⟨b3, j * 4 + 3, none⟩ = some qv) ∧ (w'.cell? ⟨c7, 0, none⟩ = some (.int .i64 xc) ∧ w'.cell? ⟨c7, 1, none⟩ = some (.int .i64 xi) ∧ w'.cell? ⟨c7, 2, none⟩ = some (.int .i64 xr) ∧ w'.cell? ⟨c7, 3, none⟩ = some (.int .i64 xo) ∧ w'.cell? ⟨c7, 4, none⟩ = some (str xk) ∧ w'.cell? ⟨c7, 5, none⟩ = some (str xv) ∧ w'.cell? ⟨c7, 6, none⟩ = some (str xd)) ∧ w'.cell? ⟨s9, 0, none⟩ = some (.int .i64 zi) ∧ w'.cell? ⟨r11, 0, none⟩ = some (.int .i64 rc) ∧ w'.cell? ⟨r11, 1, none⟩ = some (str rv) ∧ w'.cell? ⟨r11, 2, none⟩ = some (.int .i64 rn))) (by kernel_rfl) (HS2.out _ h0d.out) (fun hHeld => ?_)
                    cases zb
                    · obtain rfl : an = false := by rw [han]; simp
                      clear han
                      refine wpAnyH_take (i := 0) (v := .int .i64 (j : Int)) rfl (by kernel_rfl) (by kernel_rfl) (by kernel_rfl) (fun _ _ _ h => h) (Or.inl ⟨by kernel_rfl, by intro w hSw; go_simp⟩) hHeld ?_
                      simp only [Act.put, List.getElem_toArray, List.getElem_cons_zero, List.getElem_cons_succ, List.setIfInBounds_toArray, List.set_cons_zero, List.set_cons_succ]
                      refine wpAnyH_take (i := 1) (v := .pointer (some ⟨b3, j * 4, none⟩)) rfl (by kernel_rfl) (by kernel_rfl) (by kernel_rfl) (fun _ _ _ h => h) (Or.inl ⟨by kernel_rfl, by intro w hSw; go_simp⟩) hHeld ?_
                      simp only [Act.put, List.getElem_toArray, List.getElem_cons_zero, List.getElem_cons_succ, List.setIfInBounds_toArray, List.set_cons_zero, List.set_cons_succ]
                      refine wpAnyH_take (i := 2) (v := .agg #[.bool h0, .int .i64 cl0, .int .i64 t0, qv]) rfl (by kernel_rfl) (by kernel_rfl) (by kernel_rfl) (fun _ _ _ h => h) (Or.inl ⟨by kernel_rfl, by intro w hSw; go_simp⟩) hHeld ?_
                      simp only [Act.put, List.getElem_toArray, List.getElem_cons_zero, List.getElem_cons_succ, List.setIfInBounds_toArray, List.set_cons_zero, List.set_cons_succ]
                      refine wpAnyH_take (i := 4) (v := .int .i64 (j : Int)) rfl (by kernel_rfl) (by kernel_rfl) (by kernel_rfl) (fun _ _ _ h => h) (Or.inl ⟨by kernel_rfl, by intro w hSw; go_simp⟩) hHeld ?_
                      simp only [Act.put, List.getElem_toArray, List.getElem_cons_zero, List.getElem_cons_succ, List.setIfInBounds_toArray, List.set_cons_zero, List.set_cons_succ]
                      refine wpAnyH_take (i := 7) (v := .agg #[.int .i64 xc, .int .i64 xi, .int .i64 xr, .int .i64 xo, str xk, str xv, str xd]) rfl (by kernel_rfl) (by kernel_rfl) (by kernel_rfl) (fun _ _ _ h => h) (Or.inl ⟨by kernel_rfl, by intro w hSw; go_simp⟩) hHeld ?_
                      simp only [Act.put, List.getElem_toArray, List.getElem_cons_zero, List.getElem_cons_succ, List.setIfInBounds_toArray, List.set_cons_zero, List.set_cons_succ]
                      refine wpAnyH_take (i := 8) (v := .bool false) rfl (by kernel_rfl) (by kernel_rfl) (by kernel_rfl) (fun _ _ _ h => h) (Or.inl ⟨by kernel_rfl, by intro w hSw; go_simp⟩) hHeld ?_
                      simp only [Act.put, List.getElem_toArray, List.getElem_cons_zero, List.getElem_cons_succ, List.setIfInBounds_toArray, List.set_cons_zero, List.set_cons_succ]
                      refine wpAnyH_take (i := 16) (v := .agg #[.int .i64 rc, str rv, .int .i64 rn]) rfl (by kernel_rfl) (by kernel_rfl) (by kernel_rfl) (fun _ _ _ h => h) (Or.inl ⟨by kernel_rfl, by intro w hSw; go_simp⟩) hHeld ?_
                      simp only [Act.put, List.getElem_toArray, List.getElem_cons_zero, List.getElem_cons_succ, List.setIfInBounds_toArray, List.set_cons_zero, List.set_cons_succ]
                      refine wpAnyH_ready (rs := [3]) (by kernel_rfl) (by simp) ?_
                      refine AllReadyH.cons rfl (fun K hK => ?_) AllReadyH.nil
                      go_simp
                      (with_reducible refine Calls.mono HNm.out ?_)
                      rintro e wa ⟨⟨g, rfl, hg⟩, hfa⟩
                      have hcn := nm3_cell hg hj3
                      have lg := hg.lt
                      have hfw := h0d.out.then hfa
                      go_wp2_with fail
                      refine hK.out _ _ (HS2.out _ hfw) (fun hHeld => ?_)
                      clear hK K
                      try simp only [Act.put, List.getElem_toArray, List.getElem_cons_zero, List.getElem_cons_succ, List.setIfInBounds_toArray, List.set_cons_zero, List.set_cons_succ]
                      refine wpAnyH_take (i := 5) (v := .pointer (some ⟨g, j, none⟩)) rfl (by kernel_rfl) (by kernel_rfl) (by kernel_rfl) (fun _ _ _ h => h) (Or.inl ⟨by kernel_rfl, by intro w hSw; go_simp⟩) hHeld ?_
                      simp only [Act.put, List.getElem_toArray, List.getElem_cons_zero, List.getElem_cons_succ, List.setIfInBounds_toArray, List.set_cons_zero, List.set_cons_succ]
                      refine wpAnyH_take (i := 9) (v := .bool false) rfl (by kernel_rfl) (by kernel_rfl) (by kernel_rfl) (fun _ _ _ h => h) (Or.inl ⟨by kernel_rfl, by intro w hSw; go_simp⟩) hHeld ?_
                      simp only [Act.put, List.getElem_toArray, List.getElem_cons_zero, List.getElem_cons_succ, List.setIfInBounds_toArray, List.set_cons_zero, List.set_cons_succ]
                      refine wpAnyH_take (i := 10) (v := undef) rfl (by kernel_rfl) (by kernel_rfl) (by kernel_rfl) (fun _ _ _ h => h) (Or.inr ⟨by kernel_rfl, rfl⟩) hHeld ?_
                      simp only [Act.put, List.getElem_toArray, List.getElem_cons_zero, List.getElem_cons_succ, List.setIfInBounds_toArray, List.set_cons_zero, List.set_cons_succ]
                      refine wpAnyH_take (i := 11) (v := undef) rfl (by kernel_rfl) (by kernel_rfl) (by kernel_rfl) (fun _ _ _ h => h) (Or.inr ⟨by kernel_rfl, rfl⟩) hHeld ?_
                      simp only [Act.put, List.getElem_toArray, List.getElem_cons_zero, List.getElem_cons_succ, List.setIfInBounds_toArray, List.set_cons_zero, List.set_cons_succ]
                      refine wpAnyH_take (i := 12) (v := undef) rfl (by kernel_rfl) (by kernel_rfl) (by kernel_rfl) (fun _ _ _ h => h) (Or.inr ⟨by kernel_rfl, rfl⟩) hHeld ?_
                      simp only [Act.put, List.getElem_toArray, List.getElem_cons_zero, List.getElem_cons_succ, List.setIfInBounds_toArray, List.set_cons_zero, List.set_cons_succ]
                      refine wpAnyH_take (i := 13) (v := undef) rfl (by kernel_rfl) (by kernel_rfl) (by kernel_rfl) (fun _ _ _ h => h) (Or.inr ⟨by kernel_rfl, rfl⟩) hHeld ?_
                      simp only [Act.put, List.getElem_toArray, List.getElem_cons_zero, List.getElem_cons_succ, List.setIfInBounds_toArray, List.set_cons_zero, List.set_cons_succ]
                      refine wpAnyH_take (i := 14) (v := undef) rfl (by kernel_rfl) (by kernel_rfl) (by kernel_rfl) (fun _ _ _ h => h) (Or.inr ⟨by kernel_rfl, rfl⟩) hHeld ?_
                      simp only [Act.put, List.getElem_toArray, List.getElem_cons_zero, List.getElem_cons_succ, List.setIfInBounds_toArray, List.set_cons_zero, List.set_cons_succ]
                      refine wpAnyH_take (i := 15) (v := .bool false) rfl (by kernel_rfl) (by kernel_rfl) (by kernel_rfl) (fun _ _ _ h => h) (Or.inl ⟨by kernel_rfl, by intro w hSw; go_simp⟩) hHeld ?_
                      simp only [Act.put, List.getElem_toArray, List.getElem_cons_zero, List.getElem_cons_succ, List.setIfInBounds_toArray, List.set_cons_zero, List.set_cons_succ]
                      refine wpAnyH_ready (rs := [6]) (by kernel_rfl) (by simp) ?_
                      refine AllReadyH.cons rfl (fun K hK => ?_) AllReadyH.nil
                      go_simp
                      refine hK.out _ _ (HS2.out _ hfw) (fun hHeld => ?_)
                      clear hK K
                      try simp only [Act.put, List.getElem_toArray, List.getElem_cons_zero, List.getElem_cons_succ, List.setIfInBounds_toArray, List.set_cons_zero, List.set_cons_succ]
                      refine wpAnyH_ready (rs := [17]) (by kernel_rfl) (by simp) ?_
                      refine AllReadyH.cons rfl (fun K hK => ?_) AllReadyH.nil
                      go_simp
                      (with_reducible refine Calls.mono (HGo.out _ hfw) ?_)
                      rintro e wb ⟨⟨q15, rfl, hq15⟩, hfb⟩
                      have hfx := hfw.then hfb
                      have hq16 := hq15
                      obtain ⟨A15, c15, rfl, hc15, hr15⟩ := hq15
                      have k5 := (HKS.out wb hfx).2.2.2.2
                      obtain ⟨u0, u1, u2, u3, u4, u5, u6, u7, u8⟩ := k5
                      have hbk := row_blk4 (a' := .bool wh) (b' := .int .i64 wc) (c' := .int .i64 wt) (q' := .slice A15 wq.length c15) (H20.out.2.keep hfx trivial)
                      have hkk : Keep (fun j => j ≠ g15) w20 ((((wb.setCell ⟨g15, 0, none⟩ (.bool wh)).setCell ⟨g15, 1, none⟩ (.int .i64 wc)).setCell ⟨g15, 2, none⟩ (.int .i64 wt)).setCell ⟨g15, 3, none⟩ (.slice A15 wq.length c15)) := (((((hfx.weaken fun _ _ _ => trivial).setCell (fun _ h => h rfl) _).setCell (fun _ h => h rfl) _).setCell (fun _ h => h rfl) _).setCell (fun _ h => h rfl) _)
                      have HFin := Lib.hid (And.intro hq16 (And.intro hbk (And.intro hkk hfx)))
                      clear hq16 hbk hkk hr15 hg
                      go_wp2_with fail
                      refine hK.out _ _ (HS2.out _ hfx) (fun hHeld => ?_)
                      clear hK K
                      try simp only [Act.put, List.getElem_toArray, List.getElem_cons_zero, List.getElem_cons_succ, List.setIfInBounds_toArray, List.set_cons_zero, List.set_cons_succ]
                      refine wpAnyH_ready (rs := [18]) (by kernel_rfl) (by simp) ?_
                      refine AllReadyH.cons rfl (fun K hK => ?_) AllReadyH.nil
                      go_simp
                      refine hK.out _ _ (HS3.out _ HFin.out.2.2.1) (fun hHeld => ?_)
                      clear hK K
                      refine wpAnyH_done (by kernel_rfl) ?_ _
                      go_wp2_with fail
                      go_meet
                      exact Lib.hid (fin23 H20.out.1 HG15.out HFin.out.1 HFin.out.2.1 HFin.out.2.2.2 (by have := H20.out.2.lt; have := hfw.size; omega))
                    · obtain rfl : an = decide (zi < xi) := by rw [han]; simp
                      clear han
                      refine wpAnyH_take (i := 0) (v := .int .i64 (j : Int)) rfl (by kernel_rfl) (by kernel_rfl) (by kernel_rfl) (fun _ _ _ h => h) (Or.inl ⟨by kernel_rfl, by intro w hSw; go_simp⟩) hHeld ?_
                      simp only [Act.put, List.getElem_toArray, List.getElem_cons_zero, List.getElem_cons_succ, List.setIfInBounds_toArray, List.set_cons_zero, List.set_cons_succ]
                      refine wpAnyH_take (i := 1) (v := .pointer (some ⟨b3, j * 4, none⟩)) rfl (by kernel_rfl) (by kernel_rfl) (by kernel_rfl) (fun _ _ _ h => h) (Or.inl ⟨by kernel_rfl, by intro w hSw; go_simp⟩) hHeld ?_
                      simp only [Act.put, List.getElem_toArray, List.getElem_cons_zero, List.getElem_cons_succ, List.setIfInBounds_toArray, List.set_cons_zero, List.set_cons_succ]
                      refine wpAnyH_take (i := 2) (v := .agg #[.bool h0, .int .i64 cl0, .int .i64 t0, qv]) rfl (by kernel_rfl) (by kernel_rfl) (by kernel_rfl) (fun _ _ _ h => h) (Or.inl ⟨by kernel_rfl, by intro w hSw; go_simp⟩) hHeld ?_
                      simp only [Act.put, List.getElem_toArray, List.getElem_cons_zero, List.getElem_cons_succ, List.setIfInBounds_toArray, List.set_cons_zero, List.set_cons_succ]
                      refine wpAnyH_take (i := 4) (v := .int .i64 (j : Int)) rfl (by kernel_rfl) (by kernel_rfl) (by kernel_rfl) (fun _ _ _ h => h) (Or.inl ⟨by kernel_rfl, by intro w hSw; go_simp⟩) hHeld ?_
                      simp only [Act.put, List.getElem_toArray, List.getElem_cons_zero, List.getElem_cons_succ, List.setIfInBounds_toArray, List.set_cons_zero, List.set_cons_succ]
                      refine wpAnyH_take (i := 7) (v := .agg #[.int .i64 xc, .int .i64 xi, .int .i64 xr, .int .i64 xo, str xk, str xv, str xd]) rfl (by kernel_rfl) (by kernel_rfl) (by kernel_rfl) (fun _ _ _ h => h) (Or.inl ⟨by kernel_rfl, by intro w hSw; go_simp⟩) hHeld ?_
                      simp only [Act.put, List.getElem_toArray, List.getElem_cons_zero, List.getElem_cons_succ, List.setIfInBounds_toArray, List.set_cons_zero, List.set_cons_succ]
                      refine wpAnyH_take (i := 8) (v := .bool true) rfl (by kernel_rfl) (by kernel_rfl) (by kernel_rfl) (fun _ _ _ h => h) (Or.inl ⟨by kernel_rfl, by intro w hSw; go_simp⟩) hHeld ?_
                      simp only [Act.put, List.getElem_toArray, List.getElem_cons_zero, List.getElem_cons_succ, List.setIfInBounds_toArray, List.set_cons_zero, List.set_cons_succ]
                      refine wpAnyH_take (i := 16) (v := .agg #[.int .i64 rc, str rv, .int .i64 rn]) rfl (by kernel_rfl) (by kernel_rfl) (by kernel_rfl) (fun _ _ _ h => h) (Or.inl ⟨by kernel_rfl, by intro w hSw; go_simp⟩) hHeld ?_
                      simp only [Act.put, List.getElem_toArray, List.getElem_cons_zero, List.getElem_cons_succ, List.setIfInBounds_toArray, List.set_cons_zero, List.set_cons_succ]
                      refine wpAnyH_ready (rs := [3]) (by kernel_rfl) (by simp) ?_
                      refine AllReadyH.cons rfl (fun K hK => ?_) AllReadyH.nil
                      go_simp
                      (with_reducible refine Calls.mono HNm.out ?_)
                      rintro e wa ⟨⟨g, rfl, hg⟩, hfa⟩
                      have hcn := nm3_cell hg hj3
                      have lg := hg.lt
                      have hfw := h0d.out.then hfa
                      go_wp2_with fail
                      refine hK.out _ _ (HS2.out _ hfw) (fun hHeld => ?_)
                      clear hK K
                      try simp only [Act.put, List.getElem_toArray, List.getElem_cons_zero, List.getElem_cons_succ, List.setIfInBounds_toArray, List.set_cons_zero, List.set_cons_succ]
                      refine wpAnyH_take (i := 5) (v := .pointer (some ⟨g, j, none⟩)) rfl (by kernel_rfl) (by kernel_rfl) (by kernel_rfl) (fun _ _ _ h => h) (Or.inl ⟨by kernel_rfl, by intro w hSw; go_simp⟩) hHeld ?_
                      simp only [Act.put, List.getElem_toArray, List.getElem_cons_zero, List.getElem_cons_succ, List.setIfInBounds_toArray, List.set_cons_zero, List.set_cons_succ]
                      refine wpAnyH_take (i := 9) (v := .bool true) rfl (by kernel_rfl) (by kernel_rfl) (by kernel_rfl) (fun _ _ _ h => h) (Or.inl ⟨by kernel_rfl, by intro w hSw; go_simp⟩) hHeld ?_
                      simp only [Act.put, List.getElem_toArray, List.getElem_cons_zero, List.getElem_cons_succ, List.setIfInBounds_toArray, List.set_cons_zero, List.set_cons_succ]
                      refine wpAnyH_take (i := 10) (v := .pointer (some ⟨s9, 0, none⟩)) rfl (by kernel_rfl) (by kernel_rfl) (by kernel_rfl) (fun _ _ _ h => h) (Or.inl ⟨by kernel_rfl, by intro w hSw; go_simp⟩) hHeld ?_
                      simp only [Act.put, List.getElem_toArray, List.getElem_cons_zero, List.getElem_cons_succ, List.setIfInBounds_toArray, List.set_cons_zero, List.set_cons_succ]
                      refine wpAnyH_take (i := 11) (v := .int .i64 zi) rfl (by kernel_rfl) (by kernel_rfl) (by kernel_rfl) (fun _ _ _ h => h) (Or.inl ⟨by kernel_rfl, by intro w hSw; go_simp⟩) hHeld ?_
                      simp only [Act.put, List.getElem_toArray, List.getElem_cons_zero, List.getElem_cons_succ, List.setIfInBounds_toArray, List.set_cons_zero, List.set_cons_succ]
                      refine wpAnyH_take (i := 12) (v := .pointer (some ⟨c7, 1, none⟩)) rfl (by kernel_rfl) (by kernel_rfl) (by kernel_rfl) (fun _ _ _ h => h) (Or.inl ⟨by kernel_rfl, by intro w hSw; go_simp⟩) hHeld ?_
                      simp only [Act.put, List.getElem_toArray, List.getElem_cons_zero, List.getElem_cons_succ, List.setIfInBounds_toArray, List.set_cons_zero, List.set_cons_succ]
                      refine wpAnyH_take (i := 13) (v := .int .i64 xi) rfl (by kernel_rfl) (by kernel_rfl) (by kernel_rfl) (fun _ _ _ h => h) (Or.inl ⟨by kernel_rfl, by intro w hSw; go_simp⟩) hHeld ?_
                      simp only [Act.put, List.getElem_toArray, List.getElem_cons_zero, List.getElem_cons_succ, List.setIfInBounds_toArray, List.set_cons_zero, List.set_cons_succ]
                      refine wpAnyH_take (i := 14) (v := .bool (decide (zi < xi))) rfl (by kernel_rfl) (by kernel_rfl) (by kernel_rfl) (fun _ _ _ h => h) (Or.inl ⟨by kernel_rfl, by intro w hSw; go_simp⟩) hHeld ?_
                      simp only [Act.put, List.getElem_toArray, List.getElem_cons_zero, List.getElem_cons_succ, List.setIfInBounds_toArray, List.set_cons_zero, List.set_cons_succ]
                      refine wpAnyH_take (i := 15) (v := .bool (decide (zi < xi))) rfl (by kernel_rfl) (by kernel_rfl) (by kernel_rfl) (fun _ _ _ h => h) (Or.inl ⟨by kernel_rfl, by intro w hSw; go_simp⟩) hHeld ?_
                      simp only [Act.put, List.getElem_toArray, List.getElem_cons_zero, List.getElem_cons_succ, List.setIfInBounds_toArray, List.set_cons_zero, List.set_cons_succ]
                      refine wpAnyH_ready (rs := [6]) (by kernel_rfl) (by simp) ?_
                      refine AllReadyH.cons rfl (fun K hK => ?_) AllReadyH.nil
                      go_simp
                      refine hK.out _ _ (HS2.out _ hfw) (fun hHeld => ?_)
                      clear hK K
                      try simp only [Act.put, List.getElem_toArray, List.getElem_cons_zero, List.getElem_cons_succ, List.setIfInBounds_toArray, List.set_cons_zero, List.set_cons_succ]
                      refine wpAnyH_ready (rs := [17]) (by kernel_rfl) (by simp) ?_
                      refine AllReadyH.cons rfl (fun K hK => ?_) AllReadyH.nil
                      go_simp
                      (with_reducible refine Calls.mono (HGo.out _ hfw) ?_)
                      rintro e wb ⟨⟨q15, rfl, hq15⟩, hfb⟩
                      have hfx := hfw.then hfb
                      have hq16 := hq15
                      obtain ⟨A15, c15, rfl, hc15, hr15⟩ := hq15
                      have k5 := (HKS.out wb hfx).2.2.2.2
                      obtain ⟨u0, u1, u2, u3, u4, u5, u6, u7, u8⟩ := k5
                      have hbk := row_blk4 (a' := .bool wh) (b' := .int .i64 wc) (c' := .int .i64 wt) (q' := .slice A15 wq.length c15) (H20.out.2.keep hfx trivial)
                      have hkk : Keep (fun j => j ≠ g15) w20 ((((wb.setCell ⟨g15, 0, none⟩ (.bool wh)).setCell ⟨g15, 1, none⟩ (.int .i64 wc)).setCell ⟨g15, 2, none⟩ (.int .i64 wt)).setCell ⟨g15, 3, none⟩ (.slice A15 wq.length c15)) := (((((hfx.weaken fun _ _ _ => trivial).setCell (fun _ h => h rfl) _).setCell (fun _ h => h rfl) _).setCell (fun _ h => h rfl) _).setCell (fun _ h => h rfl) _)
                      have HFin := Lib.hid (And.intro hq16 (And.intro hbk (And.intro hkk hfx)))
                      clear hq16 hbk hkk hr15 hg
                      go_wp2_with fail
                      refine hK.out _ _ (HS2.out _ hfx) (fun hHeld => ?_)
                      clear hK K
                      try simp only [Act.put, List.getElem_toArray, List.getElem_cons_zero, List.getElem_cons_succ, List.setIfInBounds_toArray, List.set_cons_zero, List.set_cons_succ]
                      refine wpAnyH_ready (rs := [18]) (by kernel_rfl) (by simp) ?_
                      refine AllReadyH.cons rfl (fun K hK => ?_) AllReadyH.nil
                      go_simp
                      refine hK.out _ _ (HS3.out _ HFin.out.2.2.1) (fun hHeld => ?_)
                      clear hK K
                      refine wpAnyH_done (by kernel_rfl) ?_ _
                      go_wp2_with fail
                      go_meet
                      exact Lib.hid (fin23 H20.out.1 HG15.out HFin.out.1 HFin.out.2.1 HFin.out.2.2.2 (by have := H20.out.2.lt; have := hfw.size; omega))
              case rest =>
              as_aux_lemma =>
              rename World => wz
              obtain ⟨q15, hb15, hq15, hfz⟩ := hcut.out
              obtain ⟨tt, hWe, hWt2⟩ := (HTS.out (nm3 j)).1
              obtain ⟨Nw, hNow⟩ : ∃ N, N = rowD (nm3 j) s' := ⟨_, rfl⟩
              rw [← hNow] at hWe hWt2
              have hok := row_ok HX.out.1.inv (nm3 j)
              have htk := row_tok HX.out.1.inv.lk (nm3 j)
              have hln := row_len (k := nm3 j) HX.out.1.inv.lk
              have hrow0 := fun w' (hf : Fresh w13 w') => row_any (HX.out.1.fresh hf) (nm3 j) (nm3_len hj3)
              rw [← hNow] at hok htk hln hrow0
              obtain ⟨nh, nc, nt, nq⟩ := Nw
              simp only at hWe hWt2 hok htk hln
              obtain rfl : Wt = ⟨nh, nc, tt, nq⟩ := HWt.out.trans hWe
              obtain ⟨A15, c15, rfl, hc15, hr15⟩ := hq15
              simp only [RowD.vals] at hb15
              simp only at hr15
              obtain ⟨nn, hnn⟩ : ∃ nn, nn = nq.length := ⟨_, rfl⟩
              rw [← hnn] at hr15 hb15 hln
              have HZ := Lib.hid (And.intro hb15 (And.intro hr15 hfz))
              have HNm := Lib.hid (names_any wz)
              have HR0' := Lib.hid hrow0
              have HOK := Lib.hid (And.intro hok (And.intro hNow hnn))
              clear hcut hb15 hr15 hfz hWe hNow hrow0 hok hc15 HWt HQ0 H20 HR0 HL0 HXV hnn
              go_wp2_with fail
              refine Calls.mono HNm.out ?_
              rintro e w21 ⟨⟨g, rfl, hg⟩, hf21⟩
              have hcn := nm3_cell hg hj3
              have lg := hg.lt
              have HRow := Lib.hid (HR0'.out w21 (HZ.out.2.2.then hf21))
              have H21 := Lib.hid hf21
              clear hg hf21 HNm
              go_wp2_with fail
              refine Calls.mono HRow.out ?_
              rintro e w22 ⟨⟨q, rfl, hq⟩, hf22⟩
              unfold RowV at hq
              simp only at hq
              rw [← HOK.out.2.2] at hq
              obtain ⟨A16, c16, rfl, -, hr16, -⟩ := own_rdc hq
              have hf2 := H21.out.then hf22
              have H22 := Lib.hid (And.intro hf2 hr16)
              clear hq hf22 hr16 hf2 hcn lg HRow H21
              go_wp2_with (refine wpList_store_new rfl (.tmp 16) (.tmp 123) rfl _ #[.bool nh, .int .i64 nc, .int .i64 nt, .slice A16 nn c16] _ rfl rfl rfl (by kernel_rfl) (rowA_one _ _ _ _ rfl) ?_)
              intro w23 hb23 hf23 hs23
              obtain ⟨g16, hg16⟩ : ∃ g, g = w22.heap.size := ⟨_, rfl⟩
              rw [← hg16] at hb23 ⊢
              have hf3 := H22.out.1.then hf23
              have H23 := Lib.hid (And.intro (HZ.out.2.2.then hf3) (And.intro (HZ.out.1.keep hf3 trivial) (And.intro (HZ.out.2.1.keep (hf3.weaken fun _ _ _ => trivial)) (And.intro hb23 (H22.out.2.keep (hf23.weaken fun _ _ _ => trivial))))))
              have HKS : Hid (∀ w', Fresh w23 w' → (w'.cell? ⟨g15, 0, none⟩ = some (.bool nh) ∧ w'.cell? ⟨g15, 1, none⟩ = some (.int .i64 nc) ∧ w'.cell? ⟨g15, 2, none⟩ = some (.int .i64 tt) ∧ w'.cell? ⟨g15, 3, none⟩ = some (.slice A15 nn c15) ∧ g15 < w'.heap.size) ∧ (w'.cell? ⟨g16, 0, none⟩ = some (.bool nh) ∧ w'.cell? ⟨g16, 1, none⟩ = some (.int .i64 nc) ∧ w'.cell? ⟨g16, 2, none⟩ = some (.int .i64 nt) ∧ w'.cell? ⟨g16, 3, none⟩ = some (.slice A16 nn c16) ∧ g16 < w'.heap.size)) := Lib.hid fun w' hf => by
                have a := H23.out.2.1.keep hf trivial
                have b := H23.out.2.2.2.1.keep hf trivial
                exact ⟨⟨a.cell 0, a.cell 1, a.cell 2, a.cell 3, a.lt⟩, b.cell 0, b.cell 1, b.cell 2, b.cell 3, b.lt⟩
              clear hb23 hf23 hs23 hg16 hf3 H22 HZ
              obtain ⟨⟨a0, a1, a2, a3, a4⟩, d0, d1, d2, d3, d4⟩ := HKS.out w23 (Keep.refl _ _)
              go_upto_region 25 with (fail)
              go_cut [147] (fun sv wa => sv = .bool false ∧ Hid (Fresh w23 wa))
              case first =>
                as_aux_lemma =>
                  have HSI := Lib.hid (sameints_any _ _ A16 A15 nn c16 nn c15 nq nq w23 H23.out.2.2.2.2 H23.out.2.2.1 (by omega) (by omega))
                  cases nh
                  all_goals
                    go_wp2_with fail
                    refine Calls.mono HSI.out ?_
                    rintro e w24 ⟨he, dd, rfl⟩
                    obtain rfl : e = .returned (.bool true) := by rw [he]; simp
                    clear he
                    go_wp2_with fail
                    go_meet
                    exact ⟨rfl, Lib.hid ((Keep.refl _ w23).drewN dd)⟩
              case rest =>
              as_aux_lemma =>
              rename World => w24
              obtain ⟨rfl, H24⟩ := hcut
              clear a0 a1 a2 a3 a4 d0 d1 d2 d3 d4
              obtain ⟨⟨a0, a1, a2, a3, a4⟩, d0, d1, d2, d3, d4⟩ := HKS.out w24 H24.out
              go_upto_region 27 with (fail)
              go_cut [168] (fun sv wa => sv = .bool false ∧ Hid (Fresh w24 wa))
              case first =>
                as_aux_lemma =>
                  rcases hWt2 with ⟨rfl, h⟩ | ⟨rfl, h⟩
                  · have hb : decide (nt ≤ gr) = false := by simp; omega
                    go_wp2_with fail
                    go_meet
                    exact ⟨rfl, Lib.hid (Keep.refl _ _)⟩
                  · have hb : (tt == -1) = false := by simpa using h
                    go_wp2_with fail
                    go_meet
                    exact ⟨rfl, Lib.hid (Keep.refl _ _)⟩
              case rest =>
              as_aux_lemma =>
              rename World => w25
              obtain ⟨rfl, HC25⟩ := hcut
              have H25 := Lib.hid (H24.out.then HC25.out)
              clear HC25 a0 a1 a2 a3 a4 d0 d1 d2 d3 d4
              obtain ⟨-, d0, d1, d2, d3, d4⟩ := HKS.out w25 H25.out
              go_upto_region 29 with (fail)
              go_cut [182] (fun s182 wa => s182 = .bool false ∧ Hid (Fresh w25 wa))
              case first =>
                as_aux_lemma =>
                  cases nh
                  · go_quiet (fail)
                    go_wp2_with fail
                    go_meet
                    exact ⟨rfl, Lib.hid ((Keep.refl _ w25).drewN _)⟩
                  · have hls := fun w' (hf : Fresh w25 w') => less_any _ A16 nn c16 nq nc w' (H23.out.2.2.2.2.keep ((H25.out.then hf).weaken fun _ _ _ => trivial)) (by omega)
                    rw [less_none (HOK.out.1 rfl).1, ← HOK.out.2.2] at hls
                    have HLs := Lib.hid hls
                    have h0d : Hid (Fresh w25 (World.drew w25)) := Lib.hid ((Keep.refl _ w25).drew)
                    clear hls
                    go_region_held3 (fun w' => w'.cell? ⟨g16, 0, none⟩ = some (.bool true) ∧ w'.cell? ⟨g16, 1, none⟩ = some (.int .i64 nc) ∧ w'.cell? ⟨g16, 3, none⟩ = some (.slice A16 nn c16))
                      (first | (have hq := (HKS.out _ (H25.out.then h0d.out)).2; exact ⟨hq.1, hq.2.1, hq.2.2.2.1⟩) | (have hq := (HKS.out _ (H25.out.then (h0d.out.then hfa))).2; exact ⟨hq.1, hq.2.1, hq.2.2.2.1⟩))
                      ((go_at_call 13; (with_reducible refine Calls.mono (HLs.out _ h0d.out) ?_); rintro e wa ⟨⟨v, rfl, hv⟩, hfa⟩; obtain ⟨Aa, ca, rfl, -⟩ := own_rdc hv))
                    all_goals
                      go_wp2_with fail
                      go_meet
                      exact ⟨by simp, Lib.hid (h0d.out.then hfa)⟩
              case rest =>
              as_aux_lemma =>
              rename World => w26
              obtain ⟨rfl, HC26⟩ := hcut
              have H26 := Lib.hid (H25.out.then HC26.out)
              clear HC26 d0 d1 d2 d3 d4
              go_wp2_with fail
              go_loopw [17] (fun iv wa => ∃ i2 : Nat, i2 ≤ j ∧ iv = .int .i64 (i2 : Int) ∧ Hid (Fresh w23 wa)) (fun i _ => j - (intOf i).toNat)
              case atStart => exact ⟨0, by omega, rfl, H26⟩
              case round =>
                as_aux_lemma =>
                rename World => wa
                obtain ⟨i2, hi2, rfl, HI⟩ := hrel
                obtain ⟨-, d0, d1, d2, d3, d4⟩ := HKS.out wa HI.out
                by_cases hij : i2 < j
                · go_upto_region 34 with (fail)
                  go_cut [201] (fun s201 wb => s201 = .bool false ∧ Hid (Fresh wa wb))
                  case first =>
                    as_aux_lemma =>
                      cases nh
                      · go_quiet (fail)
                        go_wp2_with fail
                        go_meet
                        exact ⟨rfl, Lib.hid ((Keep.refl _ wa).drewN _)⟩
                      · have HNm := Lib.hid (names_any (World.drew wa))
                        have hi3 : i2 < 3 := by omega
                        have hi3i : (i2 : Int) < 3 := by omega
                        have hro := fun w' (hf : Fresh w13 w') => row_any (HX.out.1.fresh hf) (nm3 i2) (nm3_len hi3)
                        have hne := (HOK.out.1 rfl).2.2 (nm3 i2) (nm3_ne hi3 hj3 (by omega))
                        obtain ⟨N2, hN2⟩ : ∃ N, N = rowD (nm3 i2) s' := ⟨_, rfl⟩
                        rw [← hN2] at hro hne
                        obtain ⟨mh, mc, mt, mq⟩ := N2
                        simp only [RowD.vals] at hro
                        simp only at hne
                        have hmb : (mt == nt) = false := by simpa using hne
                        have HRo := Lib.hid hro
                        have h0d : Hid (Fresh wa (World.drew wa)) := Lib.hid ((Keep.refl _ wa).drew)
                        clear hro hN2
                        have HS2 : Hid (∀ w', Fresh wa w' → w'.cell? ⟨g16, 0, none⟩ = some (.bool true) ∧ w'.cell? ⟨g16, 2, none⟩ = some (.int .i64 nt)) := Lib.hid fun w' hf => by
                          have hq := (HKS.out _ (HI.out.then hf)).2
                          exact ⟨hq.1, hq.2.2.1⟩
                        refine wp_region_held_drew (S := fun w' => w'.cell? ⟨g16, 0, none⟩ = some (.bool true) ∧ w'.cell? ⟨g16, 2, none⟩ = some (.int .i64 nt)) (by kernel_rfl) (HS2.out _ h0d.out) (fun hHeld => ?_)
                        refine wpAnyH_take (i := 0) (v := .pointer (some ⟨g16, 0, none⟩)) rfl (by kernel_rfl) (by kernel_rfl) (by kernel_rfl) (fun _ _ _ h => h) (Or.inl ⟨by kernel_rfl, by intro w hSw; go_simp⟩) hHeld ?_
                        simp only [Act.put, List.getElem_toArray, List.getElem_cons_zero, List.getElem_cons_succ, List.setIfInBounds_toArray, List.set_cons_zero, List.set_cons_succ]
                        refine wpAnyH_take (i := 1) (v := .bool true) rfl (by kernel_rfl) (by kernel_rfl) (by kernel_rfl) (fun _ _ _ h => h) (Or.inl ⟨by kernel_rfl, by intro w hSw; go_simp⟩) hHeld ?_
                        simp only [Act.put, List.getElem_toArray, List.getElem_cons_zero, List.getElem_cons_succ, List.setIfInBounds_toArray, List.set_cons_zero, List.set_cons_succ]
                        refine wpAnyH_take (i := 2) (v := .bool true) rfl (by kernel_rfl) (by kernel_rfl) (by kernel_rfl) (fun _ _ _ h => h) (Or.inl ⟨by kernel_rfl, by intro w hSw; go_simp⟩) hHeld ?_
                        simp only [Act.put, List.getElem_toArray, List.getElem_cons_zero, List.getElem_cons_succ, List.setIfInBounds_toArray, List.set_cons_zero, List.set_cons_succ]
                        refine wpAnyH_take (i := 3) (v := .pointer (some ⟨m, 0, none⟩)) rfl (by kernel_rfl) (by kernel_rfl) (by kernel_rfl) (fun _ _ _ h => h) (Or.inl ⟨by kernel_rfl, by intro w hSw; go_simp⟩) hHeld ?_
                        simp only [Act.put, List.getElem_toArray, List.getElem_cons_zero, List.getElem_cons_succ, List.setIfInBounds_toArray, List.set_cons_zero, List.set_cons_succ]
                        refine wpAnyH_take (i := 5) (v := .int .i64 (i2 : Int)) rfl (by kernel_rfl) (by kernel_rfl) (by kernel_rfl) (fun _ _ _ h => h) (Or.inl ⟨by kernel_rfl, by intro w hSw; go_simp⟩) hHeld ?_
                        simp only [Act.put, List.getElem_toArray, List.getElem_cons_zero, List.getElem_cons_succ, List.setIfInBounds_toArray, List.set_cons_zero, List.set_cons_succ]
                        refine wpAnyH_take (i := 10) (v := .pointer (some ⟨g16, 2, none⟩)) rfl (by kernel_rfl) (by kernel_rfl) (by kernel_rfl) (fun _ _ _ h => h) (Or.inl ⟨by kernel_rfl, by intro w hSw; go_simp⟩) hHeld ?_
                        simp only [Act.put, List.getElem_toArray, List.getElem_cons_zero, List.getElem_cons_succ, List.setIfInBounds_toArray, List.set_cons_zero, List.set_cons_succ]
                        refine wpAnyH_take (i := 11) (v := .int .i64 nt) rfl (by kernel_rfl) (by kernel_rfl) (by kernel_rfl) (fun _ _ _ h => h) (Or.inl ⟨by kernel_rfl, by intro w hSw; go_simp⟩) hHeld ?_
                        simp only [Act.put, List.getElem_toArray, List.getElem_cons_zero, List.getElem_cons_succ, List.setIfInBounds_toArray, List.set_cons_zero, List.set_cons_succ]
                        refine wpAnyH_ready (rs := [4]) (by kernel_rfl) (by simp) ?_
                        refine AllReadyH.cons rfl (fun K hK => ?_) AllReadyH.nil
                        go_simp
                        (with_reducible refine Calls.mono HNm.out ?_)
                        rintro e wb ⟨⟨g, rfl, hg⟩, hfb⟩
                        have hcn := nm3_cell hg hi3
                        have lg := hg.lt
                        have hfw := h0d.out.then hfb
                        go_wp2_with fail
                        refine hK.out _ _ (HS2.out _ hfw) (fun hHeld => ?_)
                        clear hK K
                        try simp only [Act.put, List.getElem_toArray, List.getElem_cons_zero, List.getElem_cons_succ, List.setIfInBounds_toArray, List.set_cons_zero, List.set_cons_succ]
                        refine wpAnyH_take (i := 6) (v := .pointer (some ⟨g, i2, none⟩)) rfl (by kernel_rfl) (by kernel_rfl) (by kernel_rfl) (fun _ _ _ h => h) (Or.inl ⟨by kernel_rfl, by intro w hSw; go_simp⟩) hHeld ?_
                        simp only [Act.put, List.getElem_toArray, List.getElem_cons_zero, List.getElem_cons_succ, List.setIfInBounds_toArray, List.set_cons_zero, List.set_cons_succ]
                        refine wpAnyH_ready (rs := [7]) (by kernel_rfl) (by simp) ?_
                        refine AllReadyH.cons rfl (fun K hK => ?_) AllReadyH.nil
                        go_simp
                        refine hK.out _ _ (HS2.out _ hfw) (fun hHeld => ?_)
                        clear hK K
                        try simp only [Act.put, List.getElem_toArray, List.getElem_cons_zero, List.getElem_cons_succ, List.setIfInBounds_toArray, List.set_cons_zero, List.set_cons_succ]
                        refine wpAnyH_ready (rs := [8]) (by kernel_rfl) (by simp) ?_
                        refine AllReadyH.cons rfl (fun K hK => ?_) AllReadyH.nil
                        go_simp
                        (with_reducible refine Calls.mono (HRo.out _ (H23.out.1.then (HI.out.then hfw))) ?_)
                        rintro e wc ⟨⟨q2, rfl, hq2⟩, hfc⟩
                        have hfx := hfw.then hfc
                        clear hq2 hg
                        go_wp2_with fail
                        refine hK.out _ _ (HS2.out _ hfx) (fun hHeld => ?_)
                        clear hK K
                        try simp only [Act.put, List.getElem_toArray, List.getElem_cons_zero, List.getElem_cons_succ, List.setIfInBounds_toArray, List.set_cons_zero, List.set_cons_succ]
                        have hfld : ∀ w, (Instr.field 30 (.agg #[.bool mh, .int .i64 mc, .int .i64 mt, q2]) 2).run Tryz.prog w = .ok (.int .i64 mt) w := fun w => by rfl
                        refine wpAnyH_take (i := 9) (v := .int .i64 mt) rfl (by kernel_rfl) (by kernel_rfl) (by kernel_rfl) (fun _ _ _ h => h) (Or.inl ⟨by kernel_rfl, by intro w hSw; go_simp⟩) hHeld ?_
                        simp only [Act.put, List.getElem_toArray, List.getElem_cons_zero, List.getElem_cons_succ, List.setIfInBounds_toArray, List.set_cons_zero, List.set_cons_succ]
                        refine wpAnyH_ready (rs := [12]) (by kernel_rfl) (by simp) ?_
                        refine AllReadyH.cons rfl (fun K hK => ?_) AllReadyH.nil
                        go_simp
                        refine hK.out _ _ hHeld (fun hHeld => ?_)
                        clear hK K
                        try simp only [Act.put, List.getElem_toArray, List.getElem_cons_zero, List.getElem_cons_succ, List.setIfInBounds_toArray, List.set_cons_zero, List.set_cons_succ]
                        refine wpAnyH_ready (rs := [13]) (by kernel_rfl) (by simp) ?_
                        refine AllReadyH.cons rfl (fun K hK => ?_) AllReadyH.nil
                        go_simp
                        refine hK.out _ _ hHeld (fun hHeld => ?_)
                        clear hK K
                        try simp only [Act.put, List.getElem_toArray, List.getElem_cons_zero, List.getElem_cons_succ, List.setIfInBounds_toArray, List.set_cons_zero, List.set_cons_succ]
                        refine wpAnyH_done (by kernel_rfl) ?_ _
                        go_wp2_with fail
                        go_meet
                        exact ⟨rfl, Lib.hid hfx⟩
                  case rest =>
                  as_aux_lemma =>
                  rename World => wb
                  obtain ⟨rfl, HC2⟩ := hcut
                  go_wp2_with fail
                  exact ⟨⟨i2 + 1, by omega, by simp, Lib.hid (HI.out.then HC2.out)⟩, by simp only [intOf]; omega⟩
                · obtain rfl : i2 = j := by omega
                  go_wp2_with fail
                  refine ⟨⟨i2 + 1, _, by omega, rfl, by simp, Lib.hid ⟨H23.out.1.then HI.out, ?_⟩⟩, by simp only [intOf]; omega⟩
                  have := HYY.out.2
                  have := htk.2
                  omega
            · obtain rfl : j = 3 := by omega
              obtain ⟨e0, e1, e2, e3, e4, e5, e6⟩ := (HX.out.2.2.1.keep HYY.out.1 trivial).cmd1
              simp at e0 e1 e2 e3 e4 e5 e6
              have l7 := (HX.out.2.2.1.keep HYY.out.1 trivial).lt
              have f0 := (HX.out.2.2.2.2.2.keep HYY.out.1 trivial).cell 0
              have f2 := (HX.out.2.2.2.2.2.keep HYY.out.1 trivial).cell 2
              simp at f0 f2
              have l11 := (HX.out.2.2.2.2.2.keep HYY.out.1 trivial).lt
              obtain ⟨bq, hbq⟩ : ∃ b : Bool, b = (dn && (decide (xo = 6) && decide (rc = 1))) := ⟨_, rfl⟩
              have HBQ := Lib.hid hbq
              clear hbq
              go_upto_region 37 with (fail)
              go_cut [216] (fun sv wz => sv = .bool bq ∧ Hid (Fresh wy wz))
              case first =>
                as_aux_lemma =>
                  have hcs : dn = false ∨ (dn = true ∧ xo ≠ 6) ∨ (dn = true ∧ xo = 6 ∧ rc ≠ 1) ∨ (dn = true ∧ xo = 6 ∧ rc = 1) := by
                    cases dn
                    · exact .inl rfl
                    · by_cases h : xo = 6
                      · by_cases h2 : rc = 1
                        · exact .inr (.inr (.inr ⟨rfl, h, h2⟩))
                        · exact .inr (.inr (.inl ⟨rfl, h, h2⟩))
                      · exact .inr (.inl ⟨rfl, h⟩)
                  rcases hcs with rfl | ⟨rfl, h⟩ | ⟨rfl, rfl, h⟩ | ⟨rfl, rfl, rfl⟩
                  · obtain rfl : bq = false := by rw [HBQ.out]; simp
                    go_wp2_with fail
                    go_meet
                    exact ⟨rfl, Lib.hid (Keep.refl _ _)⟩
                  · have hb : (xo == 6) = false := by simpa using h
                    obtain rfl : bq = false := by rw [HBQ.out]; simp [h]
                    go_wp2_with fail
                    go_meet
                    exact ⟨rfl, Lib.hid (Keep.refl _ _)⟩
                  · have hb : (rc == 1) = false := by simpa using h
                    obtain rfl : bq = false := by rw [HBQ.out]; simp [h]
                    go_wp2_with fail
                    go_meet
                    exact ⟨rfl, Lib.hid (Keep.refl _ _)⟩
                  · obtain rfl : bq = true := by rw [HBQ.out]; simp
                    go_wp2_with fail
                    go_meet
                    exact ⟨rfl, Lib.hid (Keep.refl _ _)⟩
              case rest =>
              as_aux_lemma =>
              rename World => wy2
              obtain ⟨rfl, HC2⟩ := hcut
              have HYY := Lib.hid (And.intro (HYY.out.1.then HC2.out) HYY.out.2)
              clear HC2 e0 e1 e2 e3 e4 e5 e6 l7 f0 f2 l11
              obtain ⟨e0, e1, e2, e3, e4, e5, e6⟩ := (HX.out.2.2.1.keep HYY.out.1 trivial).cmd1
              simp at e0 e1 e2 e3 e4 e5 e6
              have l7 := (HX.out.2.2.1.keep HYY.out.1 trivial).lt
              have f0 := (HX.out.2.2.2.2.2.keep HYY.out.1 trivial).cell 0
              have f2 := (HX.out.2.2.2.2.2.keep HYY.out.1 trivial).cell 2
              simp at f0 f2
              have l11 := (HX.out.2.2.2.2.2.keep HYY.out.1 trivial).lt
              go_upto_if 216 with (fail)
              go_cut [13] (fun mv wz => ∃ mo' : Int, mv = .int .i64 mo' ∧ Hid (Fresh w13 wz ∧ mo' ≤ s'.tok))
              case first =>
                as_aux_lemma =>
                  cases bq
                  · go_wp2_with fail
                    go_meet
                    exact ⟨_, rfl, HYY⟩
                  · have hq3 : dn = true ∧ xo = 6 ∧ rc = 1 := by have h := HBQ.out.symm; simpa [and_assoc] using h
                    obtain ⟨rfl, rfl, rfl⟩ := hq3
                    have hho := mat_holder (HX.out.1.fresh HYY.out.1) xk (by have := HD.out.2.1 rfl; omega)
                    have hhd := HHD.out HDN.out.symm rfl rfl
                    rw [hhd] at hho
                    have HHo := Lib.hid hho
                    have hht := (hold_tok HX.out.1.inv hhd).2
                    have HHT := Lib.hid hht
                    clear hho hhd hht
                    go_wp2_with fail
                    refine Calls.mono HHo.out ?_
                    rintro e w30 ⟨rfl, hf30⟩
                    have H30 := Lib.hid hf30
                    clear hf30 HHo
                    go_wp2_with (refine wpList_store_new rfl (.tmp 18) (.tmp 222) rfl _ (holdA (xc, xi, rn)) _ rfl rfl rfl (by kernel_rfl) (by simp [Value.oneCell']) ?_)
                    intro w31 hb31 hf31 hs31
                    obtain ⟨g18, hg18⟩ : ∃ g, g = w30.heap.size := ⟨_, rfl⟩
                    rw [← hg18] at hb31 ⊢
                    have hf2 := H30.out.then hf31
                    have e0 := hf2.cellAt e0 trivial; have e1 := hf2.cellAt e1 trivial
                    have f2 := hf2.cellAt f2 trivial
                    have l7 := Nat.lt_of_lt_of_le l7 hf2.size; have l11 := Nat.lt_of_lt_of_le l11 hf2.size
                    have u0 := hb31.cell 0; have u1 := hb31.cell 1; have u2 := hb31.cell 2
                    simp at u0 u1 u2
                    have l18 := hb31.lt
                    have H31 := Lib.hid (HYY.out.1.then hf2)
                    clear hb31 hf31 hs31 hg18 hf2
                    go_wp2_with fail
                    go_meet
                    exact ⟨_, rfl, Lib.hid ⟨H31.out, by have := HHT.out; have := HYY.out.2; first | omega | (split <;> omega) | (simp only [Int.max_def]; split <;> omega)⟩⟩
              case rest =>
              as_aux_lemma =>
              rename World => wz
              obtain ⟨mo', rfl, HZ⟩ := hcut
              go_wp2_with fail
              exact ⟨⟨k + 1, mo', by omega, rfl, by simp, Lib.hid ⟨F2, s', HX.out.1.fresh HZ.out.1, HX.out.2.1.then HZ.out.1, HZ.out.2, by have := (HTS.out []).2.2; have := HA.out.2.2.2; omega⟩⟩, by simp only [intOf]; omega⟩
    · obtain ⟨F0, s, hm, hf, hgr, htk⟩ := HW.out
      have HF := Lib.hid hf
      clear hm hf HW hgr htk
      have hcase : ¬ k < n ∨ (k < n ∧ ¬ k < 120) := by omega
      clear hlt
      rcases hcase with l1 | ⟨l1, l2⟩
      all_goals
        go_wp2_with fail
        go_ret
        exact ⟨rfl, HF.out⟩
end Go.Proofs.YtggibajakcigaaaGreatDoor
