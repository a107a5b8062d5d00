/-
  WALKS OF THE CLOSURES THAT audit.Group HANDS OVER, ON.
-/
import Derived.Test.YtfpcmleeehciaaaGrpC
namespace Go.Proofs.Ytfpcmleeehciaaa
set_option linter.unusedVariables false
set_option linter.unusedSimpArgs false
open Go.RowKit Go.Shelf

theorem alike_any (frm : V4) (done : Nat) (b1 b2 : Nat) (x : EntV) (W : World)
    (h1 : Blk W b1 41 #[.int .i64 frm.1, .int .i64 frm.2.1, .int .i64 frm.2.2.1, .int .i64 frm.2.2.2]) (h2 : W.cell? ⟨b2, 0, none⟩ = some (.int .i64 (done : Int))) :
    Calls Try.prog 41 #[entA x, .pointer (some ⟨b1, 0, none⟩), .pointer (some ⟨b2, 0, none⟩)] W fun e w' => e = .returned (.bool (alikeB frm done x.d)) ∧ Fresh W w' := by
  obtain ⟨r, hr0⟩ : ∃ r, r = alikeB frm done x.d := ⟨_, rfl⟩
  rw [← hr0]
  have f0 := h1.cell 0; have f1 := h1.cell 1; have f2 := h1.cell 2; have f3 := h1.cell 3
  simp at f0 f1 f2 f3
  have l1 := h1.lt; have l2 := lt_of_cell h2
  have Q1 := fun w => eqview frm nov w
  have Q2 := fun w => neview x.d.frm frm w
  obtain ⟨d1, hd1⟩ : ∃ d, d = decide (frm = nov) := ⟨_, rfl⟩
  obtain ⟨d2, hd2⟩ : ∃ d, d = decide (x.d.frm ≠ frm) := ⟨_, rfl⟩
  rw [← hd1] at Q1
  rw [← hd2] at Q2
  simp only [nov] at Q1
  have HE : Hid (r = (d1 || (d2 || decide (x.d.done = done)))) := Lib.hid (by rw [hr0, hd1, hd2]; rfl)
  obtain ⟨⟨⟨x1, x2⟩, ⟨g1, g2, g3, g4⟩, xt, dn⟩, A, c⟩ := x
  unfold entA
  simp only at Q2 HE ⊢
  clear h1 hd1 hd2 hr0
  cases d1
  · cases d2
    · by_cases hd : dn = done
      · subst hd
        go_enter Try.func41, Try.ntmps41
        go_wp2_with fail
        go_ret
        exact ⟨ret_bool (by rw [HE.out]; simp), (Keep.refl _ W).alloc _⟩
      · have hb : ((dn : Int) == (done : Int)) = false := by simp; omega
        go_enter Try.func41, Try.ntmps41
        go_wp2_with fail
        go_ret
        exact ⟨ret_bool (by rw [HE.out]; simp [hd]), (Keep.refl _ W).alloc _⟩
    · go_enter Try.func41, Try.ntmps41
      go_wp2_with fail
      go_ret
      exact ⟨ret_bool (by rw [HE.out]; rfl), (Keep.refl _ W).alloc _⟩
  · go_enter Try.func41, Try.ntmps41
    go_wp2_with fail
    go_ret
    exact ⟨ret_bool (by rw [HE.out]; rfl), (Keep.refl _ W).alloc _⟩
theorem eachWho_any (u : Who) (b : Nat) (x : EntV) (W : World) (h : Blk W b 78 #[.int .i64 u.1, .int .i64 u.2]) : Calls Try.prog 53 #[entA x, .pointer (some ⟨b, 0, none⟩)] W fun e w' => e = .returned (.bool (decide (x.d.w = u))) ∧ Fresh W w' := by
  have c0 : W.cell? ⟨b, 0, none⟩ = some (.int .i64 u.1) := h.cell 0
  have c1 : W.cell? ⟨b, 1, none⟩ = some (.int .i64 u.2) := h.cell 1
  have hlt := h.lt
  have Q := fun w => eqwho x.d.w u w
  obtain ⟨d, hd⟩ : ∃ d, d = decide (x.d.w = u) := ⟨_, rfl⟩
  rw [← hd] at Q ⊢
  unfold entA
  clear h hd
  go_enter Try.func53, Try.ntmps53
  go_wp2
  go_ret
  exact ⟨rfl, (Keep.refl _ W).alloc _⟩
theorem eachWho_pred (u : Who) (b : Nat) (xs : List EntV) (w : World) (h : Blk w b 78 #[.int .i64 u.1, .int .i64 u.2]) : PredF 53 #[.pointer (some ⟨b, 0, none⟩)] entA (fun x => decide (x.d.w = u)) xs w := fun W x _ hf => by simpa using eachWho_any u b x W (h.keep hf trivial)

theorem below_one (b1 b2 : Nat) (A : Option Addr) (c : Nat) (l : List TolD) (pos : Int) (Z : Nat → Prop) (i : Nat) (hi : i < l.length) (W : World) (h1 : W.cell? ⟨b1, 0, none⟩ = some (.slice A l.length c)) (h2 : W.cell? ⟨b2, 12, none⟩ = some (.int .i64 pos)) (hr : Rd W Z 4 A l.length (rcells TolD.cells l)) (hl : l.length ≤ 1048576) :
    Calls Try.prog 50 #[.int .i64 (i : Int), .pointer (some ⟨b1, 0, none⟩), .pointer (some ⟨b2, 0, none⟩)] W fun e w' => e = .returned (.bool (decide (pos < (l.getD i ⟨0, 0, 0, []⟩).pos))) ∧ Fresh W w' := by
  obtain ⟨b, o, rfl, hz, hrg⟩ := Rd.range tol_four hr hi hi
  have e : l.getD i ⟨0, 0, 0, []⟩ = l[i] := by rw [List.getD_eq_getElem?_getD, List.getElem?_eq_getElem hi]; rfl
  rw [e]
  obtain ⟨y, hy⟩ : ∃ y, y = l[i] := ⟨_, rfl⟩
  rw [← hy] at hrg ⊢
  have c0 : W.cell? ⟨b, o + i * 4, none⟩ = some (.int .i64 y.pos) := hrg 0 _ rfl
  obtain ⟨p, hp⟩ : ∃ p, p = y.pos := ⟨_, rfl⟩
  rw [← hp] at c0 ⊢
  have l1 := lt_of_cell h1; have l2 := lt_of_cell h2
  have hii : (i : Int) < (l.length : Int) := by omega
  clear hy hp e hrg hr hz
  by_cases hd : pos < p
  · rw [decide_eq_true hd]
    go_enter Try.func50, Try.ntmps50
    go_wp2_with fail
    go_quiet (fail)
    go_wp2_with fail
    go_ret
    exact ⟨rfl, (Keep.refl _ W).drewN _⟩
  · rw [decide_eq_false hd]
    have hd2 : decide (pos < p) = false := decide_eq_false hd
    go_enter Try.func50, Try.ntmps50
    go_wp2_with fail
    go_quiet (fail)
    go_wp2_with fail
    go_ret
    exact ⟨rfl, (Keep.refl _ W).drewN _⟩

set_option maxRecDepth 20000 in
set_option maxHeartbeats 1000000 in
theorem each_any {W : World} {B : Nat} {T : Nat → Tag} {F : Fix} {K k : Nat} {s : GrpD} (hG : GM W B T F K s) (hB : BdG s k) (hk : k ≤ 1048576) (x : MemD) (hx : I64 x.p ∧ I64 x.i) (m : MkV) (hm : MkInt m.d) (b1 b2 b3 b4 : Nat) (bw wn : Nat) (h1 : W.cell? ⟨b1, 0, none⟩ = some (.pointer (some ⟨F.g, 0, none⟩))) (h2 : MkB W b2 m)
    (h3 : W.cell? ⟨b3, 0, none⟩ = some (.int .i64 (bw : Int))) (h4 : W.cell? ⟨b4, 0, none⟩ = some (.int .i64 (wn : Int))) :
    Calls Try.prog 52 #[memA x, .pointer (some ⟨b1, 0, none⟩), .pointer (some ⟨b2, 0, none⟩), .pointer (some ⟨b3, 0, none⟩), .pointer (some ⟨b4, 0, none⟩)] W fun e w' =>
      e = .returned (.bool ((s.inst m.d.id).any (fun e => decide (e.w = (x.p, x.i))) && decide (min (s.count (m.d.id, (x.p, x.i))) bw = wn))) ∧ Fresh W w' := by
  obtain ⟨vs, A, c, hvs, hrow, hsl, LI⟩ := hG.inst.lookF hm.id
  have LC := hG.count.lookF (x := (m.d.id, (x.p, x.i))) hm.id hx
  obtain ⟨cn, hcn⟩ : ∃ n, n = s.count (m.d.id, (x.p, x.i)) := ⟨_, rfl⟩
  rw [← hcn] at LC ⊢
  have hvl : vs.length ≤ 1048576 := by
    have := hB.inst m.d.id
    rw [← hvs, List.length_map] at this
    omega
  obtain ⟨d, hd⟩ : ∃ d, d = (s.inst m.d.id).any (fun e => decide (e.w = (x.p, x.i))) := ⟨_, rfl⟩
  rw [← hd]
  have hd2 : d = vs.any (fun v => decide (v.d.w = (x.p, x.i))) := by rw [hd, ← hvs, List.any_map]; rfl
  have H := Lib.hid (And.intro hd2 (And.intro hrow (And.intro LI (And.intro LC hG.blk))))
  have c4 := h2.e1; have c5 := h2.e2; have c6 := h2.e3; have c7 := h2.e4
  have l1 := lt_of_cell h1; have l2 := h2.blk.lt; have l3 := lt_of_cell h3; have l4 := lt_of_cell h4; have lg := hG.blk.lt
  obtain ⟨xp, xi, xc⟩ := x
  unfold memA
  simp only at H LC hcn hd hd2 ⊢
  obtain ⟨r, hr⟩ : ∃ r, r = (d && decide (min cn bw = wn)) := ⟨_, rfl⟩
  rw [← hr]
  have HR := Lib.hid hr
  clear hr
  clear hG hB hvs hrow hsl LI LC hd hd2 hcn h2
  go_enter Try.func52, Try.ntmps52
  go_wp2_with fail
  obtain ⟨w1, hw1⟩ : ∃ w1, w1 = (W.alloc (.cells #[.int .i64 xp, .int .i64 xi, .int .i64 xc] 55)).alloc (.cells #[.int .i64 xp, .int .i64 xi] 78) := ⟨_, rfl⟩
  obtain ⟨bw5, hb5⟩ : ∃ b, b = W.heap.size := ⟨_, rfl⟩
  obtain ⟨bw7, hb7⟩ : ∃ b, b = W.heap.size + 1 := ⟨_, rfl⟩
  rw [← hw1, ← hb7, ← hb5]
  have hf1 : Fresh W w1 := hw1 ▸ ((Keep.refl _ W).alloc _).alloc _
  have hbw : Blk w1 bw7 78 #[.int .i64 xp, .int .i64 xi] := by
    rw [hw1]
    have := Blk.new (W.alloc (.cells #[.int .i64 xp, .int .i64 xi, .int .i64 xc] 55)) 78 #[.int .i64 xp, .int .i64 xi]
    rw [hb7]
    simpa using this
  have eg : Enters Try.prog 53 := enters_of Try.func53 (by kernel_rfl) rfl
  obtain ⟨Ar, cr, hvr, hrr, -⟩ := own_rd H.out.2.1.1
  injection hvr with hv1 hv2 hv3
  subst hv1 hv3
  have HC := Lib.hid (fun (q : Nat) (os : Array Obj) => Calls.regrown_of (w := w1) (d := q) (os := os) ((cont_ent eg (fun v => decide (v.d.w = (xp, xi))) _ A vs.length c vs _ (hrr.keep ((hf1.trans (Fresh.of_below (below_regrown w1 q os))).weaken fun _ _ _ => trivial)) rfl hvl (eachWho_pred (xp, xi) bw7 vs _ (hbw.keep (Fresh.of_below (below_regrown w1 q os)) trivial))).mono fun _ _ ⟨he, hf⟩ => ⟨he, hf.below⟩))
  rw [← H.out.1] at HC
  have g5 : w1.cell? ⟨F.g, 5, none⟩ = some (.map (some F.i)) := hf1.cellAt (H.out.2.2.2.2.cell 5) trivial
  have g9 : w1.cell? ⟨F.g, 9, none⟩ = some (.map (some F.c)) := hf1.cellAt (H.out.2.2.2.2.cell 9) trivial
  have k1 := cell_regrown (hf1.cellAt h1 trivial)
  have k4 := cell_regrown (hf1.cellAt c4 trivial); have k5 := cell_regrown (hf1.cellAt c5 trivial); have k6 := cell_regrown (hf1.cellAt c6 trivial); have k7 := cell_regrown (hf1.cellAt c7 trivial)
  have kg5 := cell_regrown g5
  have KL : ∀ (q : Nat) (os : Array Obj), (Instr.lookup 69 (.map (some F.i)) (.agg #[.int .i64 m.d.e1, .int .i64 m.d.e2, .int .i64 m.d.e3, .int .i64 m.d.e4]) false).run Try.prog («Sort».grow (redrawn w1 q) os) = .ok (.slice A vs.length c) («Sort».grow (redrawn w1 q) os) := fun q os => H.out.2.2.1 _ (hf1.trans (Fresh.of_below (below_regrown w1 q os)))
  have l1' := Nat.lt_of_lt_of_le l1 hf1.size; have l2' := Nat.lt_of_lt_of_le l2 hf1.size; have l3' := Nat.lt_of_lt_of_le l3 hf1.size; have l4' := Nat.lt_of_lt_of_le l4 hf1.size; have lg' := Nat.lt_of_lt_of_le lg hf1.size
  have H2 := Lib.hid (And.intro hf1 (And.intro hbw (And.intro g9 (And.intro h1 (And.intro h3 (And.intro h4 (And.intro c4 (And.intro c5 (And.intro c6 c7)))))))))
  clear hw1 hb5 hb7 hbw hrr h1 h3 h4 c4 c5 c6 c7 g5 g9 l1 l2 l3 l4 lg eg hf1
  refine wp_region_quiet_below (by kernel_rfl) (by kernel_rfl) ?_
  repeat (go_big_quiet_step (first | exact HC.out _ _))
  refine wpQuiet_nil ?_
  intro _ hw'
  obtain ⟨⟨dq, osq⟩, hw''⟩ := hw'
  subst hw''
  have hf2 : Fresh w1 («Sort».grow (redrawn w1 dq) osq) := Fresh.of_below (below_regrown w1 dq osq)
  obtain ⟨w2, hw2⟩ : ∃ w2, w2 = «Sort».grow (redrawn w1 dq) osq := ⟨_, rfl⟩
  simp only
  rw [← hw2] at hf2 ⊢
  have hfW := H2.out.1.trans hf2
  have hbw := H2.out.2.1.keep hf2 trivial
  have u0 := hbw.cell 0; have u1 := hbw.cell 1
  simp at u0 u1
  have g9 := hf2.cellAt H2.out.2.2.1 trivial
  have h1 := hfW.cellAt H2.out.2.2.2.1 trivial
  have h3 := hfW.cellAt H2.out.2.2.2.2.1 trivial
  have h4 := hfW.cellAt H2.out.2.2.2.2.2.1 trivial
  have c4 := hfW.cellAt H2.out.2.2.2.2.2.2.1 trivial
  have c5 := hfW.cellAt H2.out.2.2.2.2.2.2.2.1 trivial
  have c6 := hfW.cellAt H2.out.2.2.2.2.2.2.2.2.1 trivial
  have c7 := hfW.cellAt H2.out.2.2.2.2.2.2.2.2.2 trivial
  have LC : ∀ q, (Instr.lookup 73 (.map (some F.c)) (.agg #[.int .i64 m.d.e1, .int .i64 m.d.e2, .int .i64 m.d.e3, .int .i64 m.d.e4, .int .i64 xp, .int .i64 xi]) false).run Try.prog (w2.drewN q) = .ok (.int .i64 (cn : Int)) (w2.drewN q) := fun q => H.out.2.2.2.1 _ (hfW.drewN q)
  have lb := hbw.lt
  have l1 := Nat.lt_of_lt_of_le l1' hf2.size; have l2 := Nat.lt_of_lt_of_le l2' hf2.size; have l3 := Nat.lt_of_lt_of_le l3' hf2.size; have l4 := Nat.lt_of_lt_of_le l4' hf2.size; have lg := Nat.lt_of_lt_of_le lg' hf2.size
  have HF := Lib.hid hfW
  clear hw2 hf2 hfW hbw k1 k4 k5 k6 k7 kg5 KL l1' l2' l3' l4' lg' H2 HC H hv2
  cases d
  · go_wp2_with fail
    go_quiet (fail)
    go_wp2_with fail
    go_ret
    exact ⟨ret_bool (by rw [HR.out]; rfl), HF.out.drewN _⟩
  · by_cases hq : min cn bw = wn
    · have hqi : min (cn : Int) (bw : Int) = (wn : Int) := by omega
      go_wp2_with fail
      go_quiet (fail)
      go_wp2_with fail
      go_ret
      exact ⟨ret_bool (by rw [HR.out]; simp [hq]), HF.out.drewN _⟩
    · have hqi : (min (cn : Int) (bw : Int) == (wn : Int)) = false := by simp; omega
      go_wp2_with fail
      go_quiet (fail)
      go_wp2_with fail
      go_ret
      exact ⟨ret_bool (by rw [HR.out]; simp [hq]), HF.out.drewN _⟩
end Go.Proofs.Ytfpcmleeehciaaa
