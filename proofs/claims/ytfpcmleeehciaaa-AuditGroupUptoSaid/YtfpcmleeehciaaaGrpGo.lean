/-
  WALK OF group: ONE MARK. (UNDER WAY: NOT YET CLEAN.)
-/
import Derived.Test.YtfpcmleeehciaaaGrpInst
import Derived.Test.YtfpcmleeehciaaaGrpMay
import Derived.Test.YtfpcmleeehciaaaGrpDel
import Derived.Test.YtfpcmleeehciaaaGrpStab
import Derived.Test.YtfpcmleeehciaaaGrpX
import Derived.Test.YtfpcmleeehciaaaKent2
namespace Go.Proofs.Ytfpcmleeehciaaa
set_option linter.unusedVariables false
set_option linter.unusedSimpArgs false
open Go.RowKit Go.Shelf

theorem bd_at {s : GrpD} {k : Nat} (h : BdG s k) (a : Int) : BdG { s with at_ := a } k := ⟨h.clock, h.count, h.life, h.up, h.inst, h.order, h.done⟩
theorem IntMap.two {w : World} {a b k : Nat} {f g : Int → Int} (hf : IntMap w a k f) (hg : IntMap w b k g) (h : a ≠ b) (hk : k ≤ 4194304) {z : Int} (hz : I64 z) (v : Int) :
    ∃ (st st' : Value) (v0 v0' : Value) (W : Nat → Nat → World), W 0 0 = w ∧ (∀ i j, Keep (fun k => k ≠ a ∧ k ≠ b) w (W i j)) ∧
      (∀ j, (Instr.mapEntry 67 (.map (some a)) (.int .i64 z)).run Try.prog (W 0 j) = .ok (.tuple #[v0, st]) (W 1 j)) ∧ (∀ j, (Instr.entryStore 67 (.map (some a)) st (.int .i64 v)).run Try.prog (W 1 j) = .ok () (W 2 j)) ∧
      (∀ i, (Instr.mapEntry 67 (.map (some b)) (.int .i64 z)).run Try.prog (W i 0) = .ok (.tuple #[v0', st']) (W i 1)) ∧ (∀ i, (Instr.entryStore 67 (.map (some b)) st' (.int .i64 v)).run Try.prog (W i 1) = .ok () (W i 2)) ∧
      IntMap (W 2 2) a (k + 1) (upd f z v) ∧ IntMap (W 2 2) b (k + 1) (upd g z v) := by
  obtain ⟨ps, h1, h2, h3⟩ := hf
  obtain ⟨qs, g1, g2, g3⟩ := hg
  obtain ⟨st, st', v0, v0', W, q1, q2, q3, q4, q5, q6, q7, q8⟩ := two_entries h1 g1 h kint0 kint0 Try.underlying67 Try.underlying67 (small_max (Nat.le_trans h2 hk)) (small_max (Nat.le_trans g2 hk)) (fun u => Try.zeroValue3 u) (fun u => Try.zeroValue3 u) (ikey hz) (ikey hz) (.int .i64 v) (.int .i64 v)
  have key : ∀ {rs : List Ke} {f : Int → Int}, (∀ z, I64 z → (kfind (.int .i64 z) rs).getD (.int .i64 0) = .int .i64 (f z)) → ∀ y, I64 y → (kfind (.int .i64 y) (kput (.int .i64 z) (.int .i64 v) rs)).getD (.int .i64 0) = .int .i64 (upd f z v y) := fun h3 y hy => by
    rw [kfind_put]
    by_cases e : y = z
    · subst e; simp [Lit.sameKey]
    · have : Lit.sameKey (.int .i64 z) (.int .i64 y) = false := by simp [Lit.sameKey]; exact fun h => e h.symm
      rw [this, upd_ne _ _ e]
      simpa using h3 y hy
  exact ⟨st, st', v0, v0', W, q1, q2, q3, q4, q5, q6, ⟨_, q7, Nat.le_trans (kput_len _ _ ps) (Nat.succ_le_succ h2), key h3⟩, ⟨_, q8, Nat.le_trans (kput_len _ _ qs) (Nat.succ_le_succ g2), key g3⟩⟩
theorem with_ul {w w' : World} {B : Nat} {T : Nat → Tag} {F : Fix} {k k' : Nat} {s : GrpD} (h : GM w B T F k s) (hk : Keep (fun j => j ≠ F.u ∧ j ≠ F.l) w w') (hlow : ∀ j, T j ≠ .other → B ≤ j ∧ j < w'.heap.size) (hkk : k ≤ k') {f g : Int → Int} (hf : IntMap w' F.u k' f) (hg : IntMap w' F.l k' g) : GM w' B T F k' { s with up := f, last := g } :=
  have ht : ∀ {j : Nat} {t : Tag}, T j = t → t ≠ .up → t ≠ .last → j ≠ F.u ∧ j ≠ F.l := fun e hp hq => ⟨fun e1 => by rw [e1, h.fix.u] at e; exact hp e.symm, fun e1 => by rw [e1, h.fix.l] at e; exact hq e.symm⟩
  ⟨h.fix, hlow, h.blk.keep hk (ht h.fix.g (by simp) (by simp)), hf, hg,
    h.lives.keep hk (ht h.fix.v (by simp) (by simp)) (fun j hj => by rcases hj with ⟨x, e⟩ | ⟨x, e⟩ | e <;> exact ht e (by simp) (by simp)) (More.refl T) hkk,
    h.inst.keep hk (ht h.fix.i (by simp) (by simp)) (fun j hj => by rcases hj with ⟨x, e⟩ | e <;> exact ht e (by simp) (by simp)) (More.refl T) hkk,
    h.mem.keep hk (ht h.fix.m (by simp) (by simp)) (fun j e => ht e (by simp) (by simp)) (More.refl T) hkk,
    h.sent.keep hk (ht h.fix.s (by simp) (by simp)) (fun j e => ht e (by simp) (by simp)) (More.refl T) hkk,
    h.order.keep hk (ht h.fix.o (by simp) (by simp)) (fun j hj => by obtain ⟨x, e⟩ := hj; exact ht e (by simp) (by simp)) (More.refl T) hkk,
    h.count.keep hk (ht h.fix.c (by simp) (by simp)) hkk⟩
/-- A new life, behind the state. -/
theorem boot_life {w : World} {B : Nat} {T : Nat → Tag} {F : Fix} {k : Nat} {s : GrpD} (h : GM w B T F k s) (who : Who) :
    More T (oneT (oneT T w.heap.size (.frm who)) (w.heap.size + 1) (.life who)) ∧
    GM (((w.alloc (.map #[] 0)).alloc (.cells (lifeV life0 none 0 w.heap.size) 83)).drew) B (oneT (oneT T w.heap.size (.frm who)) (w.heap.size + 1) (.life who)) F k s ∧
    LifeM (((w.alloc (.map #[] 0)).alloc (.cells (lifeV life0 none 0 w.heap.size) 83)).drew) (oneT (oneT T w.heap.size (.frm who)) (w.heap.size + 1) (.life who)) who (w.heap.size + 1) w.heap.size k life0 none 0 ∧
    Fresh w (((w.alloc (.map #[] 0)).alloc (.cells (lifeV life0 none 0 w.heap.size) 83)).drew) := by
  have hf : Fresh w (((w.alloc (.map #[] 0)).alloc (.cells (lifeV life0 none 0 w.heap.size) 83)).drew) := (((Keep.refl _ w).alloc _).alloc _).drew
  have h1 : (w.alloc (.map #[] 0)).heap.size = w.heap.size + 1 := Array.size_push _
  have h2 : (((w.alloc (.map #[] 0)).alloc (.cells (lifeV life0 none 0 w.heap.size) 83)).drew).heap.size = w.heap.size + 2 := by
    have h3 : ((w.alloc (.map #[] 0)).alloc (.cells (lifeV life0 none 0 w.heap.size) 83)).heap.size = (w.alloc (.map #[] 0)).heap.size + 1 := Array.size_push _
    show ((w.alloc (.map #[] 0)).alloc (.cells (lifeV life0 none 0 w.heap.size) 83)).heap.size = _
    omega
  have hT : More T (oneT (oneT T w.heap.size (.frm who)) (w.heap.size + 1) (.life who)) := fun j hj => by
    have := (h.low j hj).2
    unfold oneT
    rw [if_neg (by omega), if_neg (by omega)]
  refine ⟨hT, h.more hf (fun _ _ => trivial) hT (fun j hj => ?_) (Nat.le_refl k), ?_, hf⟩
  · rw [h2]
    have hb := h.base
    unfold oneT at hj
    split at hj
    · omega
    · split at hj
      · omega
      · have := h.low j hj
        omega
  · refine ⟨by unfold oneT; rw [if_pos rfl], by unfold oneT; rw [if_neg (by omega), if_pos rfl], ?_, ⟨none, 0, rfl, Nat.le_refl _, fun _ => .inl rfl, Rd.nil _ _ _ _⟩, ?_, Nat.zero_le _, (fun y hy => by cases hy), ⟨⟨by decide, by decide⟩, ⟨by decide, by decide⟩, ⟨by decide, by decide⟩, ⟨by decide, by decide⟩⟩⟩
    · have := Blk.new (w.alloc (.map #[] 0)) 83 (lifeV life0 none 0 w.heap.size)
      rw [h1] at this
      exact this
    · exact (IntMap.made w k).keep (((Keep.refl (fun _ => True) (w.alloc (.map #[] 0))).alloc _).drew) trivial
/-- Behind a call of one kind's step. -/
theorem grp_end {w w4 w' : World} {B : Nat} {T : Nat → Tag} {F : Fix} {K : Nat} {s sN s1 : GrpD} {r r' : Int} (hG : GM w B T F K s) (hk : Keep (fun j => j ≠ F.g) w w4) (e : s1 = sN) (er : r = r') (h : StepP T w4.drew w' B F K r' sN) : StepP T w w' B F K r s1 := by
  subst e er
  exact ⟨(hk.drew.weaken fun j _ hj => KB.ne hj hG hG.fix.g (by simp) (by simp)).trans h.1, h.2⟩
set_option maxRecDepth 20000 in
set_option maxHeartbeats 4000000 in
theorem group_any {w : World} {B : Nat} {T : Nat → Tag} {F : Fix} {K k : Nat} {s : GrpD} (hG : GM w B T F K s) (hB : BdG s k) (hK : K ≤ 4000000) (hk : k ≤ 1048575) (x : MkV) (hx : MkIn w B x) :
    Calls Try.prog 17 #[.pointer (some ⟨F.g, 0, none⟩), .agg x.cells.toArray] w fun e w' => e = .returned (.int .i64 (ruleG s x.d)) ∧ StepP T w w' B F K (ruleG s x.d) (nextG s x.d) := by
  obtain ⟨r, hr⟩ : ∃ r, r = ruleG s x.d := ⟨_, rfl⟩
  rw [← hr]
  have H := Lib.hid (And.intro hG (And.intro hB (And.intro hx hr)))
  clear hG hB hx hr
  go_enter Try.func17, Try.ntmps17
  go_upto_region 1 with (fail)
  obtain ⟨w1, hw1⟩ : ∃ w1, w1 = w.alloc (.cells x.cells.toArray 50) := ⟨_, rfl⟩
  obtain ⟨bm, hbm⟩ : ∃ b, b = w.heap.size := ⟨_, rfl⟩
  rw [← hw1, ← hbm]
  have hf1 : Fresh w w1 := hw1 ▸ (Keep.refl _ w).alloc _
  have hmb : MkB w1 bm x := by rw [hw1, hbm]; exact MkB.new w x
  have HM := Lib.hid (may_any (H.out.1.fresh hf1) H.out.2.1 (by omega) x H.out.2.2.1.ints)
  have H1 := Lib.hid (And.intro hf1 (And.intro hmb (show w.heap.size ≤ bm by omega)))
  have HRm := Lib.hid hmb.range0
  have lm := hmb.blk.lt
  clear hw1 hbm hf1 hmb
  go_wp2_with (refine wpList_load_mid rfl 50 _ rfl bm 0 rfl x.cells _ HRm.out Try.underlying50 rfl (by kernel_rfl) ?_)
  obtain ⟨mb, hmbB⟩ : ∃ d, d = mayB s x.d := ⟨_, rfl⟩
  rw [← hmbB] at HM
  have HMB := Lib.hid hmbB
  clear hmbB lm
  refine Calls.mono HM.out ?_
  rintro e w2 ⟨rfl, hf2⟩
  have H2 := Lib.hid (And.intro (H1.out.1.trans hf2) (And.intro (MkB.mk (H1.out.2.1.blk.keep hf2 trivial) : MkB w2 bm x) H1.out.2.2))
  clear hf2 HM HRm H1
  cases mb
  · obtain rfl : r = 1 := by rw [H.out.2.2.2]; unfold ruleG; rw [if_pos HMB.out.symm]
    go_wp2_with fail
    go_ret
    exact ⟨rfl, StepP.bad H2.out.1 (by decide)⟩
  · have hR := H.out.2.2.2
    unfold ruleG at hR
    rw [if_neg (by rw [← HMB.out]; decide)] at hR
    have HR := Lib.hid hR
    have hG2 := H.out.1.fresh H2.out.1
    have g0 := hG2.blk.frozen 0
    have gc : w2.cell? ⟨F.g, 0, none⟩ = some (.int .i64 s.at_) := hG2.blk.cell 0
    have gl := hG2.blk.lt
    have c0 := H2.out.2.1.at_; have c1 := H2.out.2.1.kind; have c2 := H2.out.2.1.node; have c3 := H2.out.2.1.inc
    have lm := H2.out.2.1.blk.lt
    have HG2 := Lib.hid hG2
    clear hR hG2
    go_upto_region 4 with (fail)
    generalize hw3 : World.setCell _ _ _ = w3
    have hk3 : Keep (fun j => j ≠ F.g) w2 w3 := hw3 ▸ (Keep.refl _ w2).setCell (fun _ h => h rfl) _
    have hG3 : GM w3 B T F K { s with at_ := x.d.at_ } := HG2.out.with_blk (s' := { s with at_ := x.d.at_ }) hk3 (fun j hj hp e => by rw [e, HG2.out.fix.g] at hp; exact hp rfl) (More.refl T) (same_low HG2.out hk3.size) (Nat.le_refl K) (by
      rw [← hw3]
      exact HG2.out.blk.set 0 (.int .i64 x.d.at_)) ⟨rfl, rfl, rfl, rfl, rfl, rfl, rfl, rfl⟩
    have mb3 : MkB w3 bm x := ⟨H2.out.2.1.blk.keep hk3 (by have := H2.out.2.2; have := (H.out.1.low F.g (by rw [H.out.1.fix.g]; simp)).2; omega)⟩
    have c1 := mb3.kind; have c2 := mb3.node; have c3 := mb3.inc
    have lm := mb3.blk.lt
    have H3 := Lib.hid (And.intro hk3 (And.intro hG3 mb3))
    clear hw3 hk3 hG3 mb3 g0 gc gl c0 HG2
    go_upto_region 6 with (fail)
    obtain ⟨bu, hbu⟩ : ∃ b, b = w3.heap.size := ⟨_, rfl⟩
    rw [← hbu]
    generalize hw4 : World.alloc _ _ = w4
    have hf4 : Fresh w3 w4 := hw4 ▸ (Keep.refl _ w3).alloc _
    have hwb : Blk w4 bu 78 #[.int .i64 x.d.node, .int .i64 x.d.inc] := by rw [← hw4, hbu]; exact Blk.new w3 _ _
    have hwk : Keep (fun j => j ≠ F.g) w w4 := ((H2.out.1.weaken fun _ _ _ => trivial).trans H3.out.1).trans (hf4.weaken fun _ _ _ => trivial)
    have H4 := Lib.hid (And.intro hwk (And.intro (H3.out.2.1.fresh hf4) (And.intro (MkB.mk (H3.out.2.2.blk.keep hf4 trivial) : MkB w4 bm x) (And.intro hwb (show w.heap.size ≤ bu by rw [hbu]; have h1 := H2.out.1.size; have h2 := H3.out.1.size; omega)))))
    clear hw4 hf4 hwb hwk hbu H3 c1 c2 c3 lm
    obtain ⟨zk, hzk⟩ : ∃ z, z = x.d.kind := ⟨_, rfl⟩
    rw [← hzk]
    have HZK := Lib.hid hzk
    clear hzk
    by_cases k15 : zk = 15
    · subst k15
      obtain rfl : r = 0 := by rw [HR.out, ← HZK.out]; simp
      have hG := H4.out.2.1
      have gc : w4.cell? ⟨F.g, 1, none⟩ = some (.int .i64 (s.clock : Int)) := hG.blk.cell 1
      have g1 := hG.blk.frozen 1
      have gl := hG.blk.lt
      have hcl := H.out.2.1.clock
      have wc : IntKind.i64.wrap ((s.clock : Int) + 1) = (s.clock : Int) + 1 := by rw [IntWalk.i64_in _ (by omega)]
      have HG := Lib.hid hG
      clear hG
      go_wp2_with fail
      go_ret
      have hk5 : Keep (fun j => j ≠ F.g) w4 (w4.setCell ⟨F.g, 1, none⟩ (.int .i64 ((s.clock : Int) + 1))) := (Keep.refl _ w4).setCell (fun _ h => h rfl) _
      refine ⟨rfl, (H4.out.1.trans hk5).weaken fun j _ hj => hj.ne H.out.1 H.out.1.fix.g (by simp) (by simp), fun _ => ⟨T, More.refl T, ?_⟩⟩
      have e : nextG s x.d = { s with at_ := x.d.at_, clock := s.clock + 1 } := by unfold nextG; simp only [← HZK.out, if_true]
      rw [e]
      exact (HG.out.with_blk (s' := { s with at_ := x.d.at_, clock := s.clock + 1 }) hk5 (fun j hj hp e => by rw [e, HG.out.fix.g] at hp; exact hp rfl) (More.refl T) (same_low HG.out hk5.size) (Nat.le_refl K) (HG.out.blk.set 1 (.int .i64 ((s.clock : Int) + 1))) ⟨rfl, rfl, rfl, rfl, rfl, rfl, rfl, rfl⟩).mono (by omega)
    · by_cases k2 : zk = 2
      · subst k2
        obtain rfl : r = 0 := by rw [HR.out, ← HZK.out]; simp
        have z1 : F.g ≠ F.u := tag_ne H.out.1.fix.g H.out.1.fix.u (by simp)
        have lu : F.u < w.heap.size := (H.out.1.low F.u (by rw [H.out.1.fix.u]; simp)).2
        have z2 : bm ≠ F.u := by have := H2.out.2.2; omega
        have HK : Hid (∀ w', Keep (fun j => j ≠ F.u) w4 w' → (Keep (fun j => j ≠ F.u) w4 w' ∧ w'.cell? ⟨F.g, 2, none⟩ = some (.map (some F.u)) ∧ w'.cell? ⟨bm, 2, none⟩ = some (.int .i64 x.d.node))) := Lib.hid (fun w' hk => ⟨hk, hk.cellAt (H4.out.2.1.blk.cell 2) z1, hk.cellAt H4.out.2.2.1.node z2⟩)
        obtain ⟨w5, hrun, hI, hk⟩ := (H4.out.2.1.up.keep ((Keep.refl (fun _ => True) w4).drew) trivial).store (by omega) H.out.2.2.1.ints.node 0
        have hk5 : Keep (fun j => j ≠ F.u) w4 w5 := ((Keep.refl _ w4).drew).trans hk
        have HI := Lib.hid hI
        clear z1 lu z2 hI hk k15
        go_upto_region 12 with (fail)
        go_region_held3 (fun w' => Keep (fun j => j ≠ F.u) w4 w' ∧ w'.cell? ⟨F.g, 2, none⟩ = some (.map (some F.u)) ∧ w'.cell? ⟨bm, 2, none⟩ = some (.int .i64 x.d.node))
          (first | exact HK.out _ ((Keep.refl _ w4).drew) | exact HK.out _ hk5) (fail)
        all_goals go_wp2_with fail
        all_goals go_ret
        all_goals refine ⟨rfl, ?_, fun _ => ⟨T, More.refl T, ?_⟩⟩
        · exact (H4.out.1.weaken (fun j _ (hj : KB B T j) => hj.ne H.out.1 H.out.1.fix.g (by simp) (by simp))).trans (hk5.weaken fun j _ hj => hj.ne H.out.1 H.out.1.fix.u (by simp) (by simp))
        · have e : nextG s x.d = { s with at_ := x.d.at_, up := upd s.up x.d.node 0 } := by unfold nextG; simp [← HZK.out]
          rw [e]
          exact (H4.out.2.1.with_up hk5 (fun j hj hp e => by rw [e, H4.out.2.1.fix.u] at hp; exact hp rfl) (More.refl T) (same_low H4.out.2.1 hk5.size) (Nat.le_succ K) HI.out).mono (by omega)
      · by_cases k1 : zk = 1
        · subst k1
          as_aux_lemma =>
            obtain rfl : r = 0 := by rw [HR.out, ← HZK.out]; simp
            have z1 : F.g ≠ F.u := tag_ne H.out.1.fix.g H.out.1.fix.u (by simp)
            have z2 : F.g ≠ F.l := tag_ne H.out.1.fix.g H.out.1.fix.l (by simp)
            have lu : F.u < w.heap.size := (H.out.1.low F.u (by rw [H.out.1.fix.u]; simp)).2
            have ll : F.l < w.heap.size := (H.out.1.low F.l (by rw [H.out.1.fix.l]; simp)).2
            have z3 : bm ≠ F.u := by have := H2.out.2.2; omega
            have z4 : bm ≠ F.l := by have := H2.out.2.2; omega
            have HK : Hid (∀ w', Keep (fun j => j ≠ F.u ∧ j ≠ F.l) w4 w' → (Keep (fun j => j ≠ F.u ∧ j ≠ F.l) w4 w' ∧ w'.cell? ⟨F.g, 2, none⟩ = some (.map (some F.u)) ∧ w'.cell? ⟨F.g, 3, none⟩ = some (.map (some F.l)) ∧ w'.cell? ⟨bm, 2, none⟩ = some (.int .i64 x.d.node) ∧ w'.cell? ⟨bm, 3, none⟩ = some (.int .i64 x.d.inc))) := Lib.hid (fun w' hk => ⟨hk, hk.cellAt (H4.out.2.1.blk.cell 2) ⟨z1, z2⟩, hk.cellAt (H4.out.2.1.blk.cell 3) ⟨z1, z2⟩, hk.cellAt H4.out.2.2.1.node ⟨z3, z4⟩, hk.cellAt H4.out.2.2.1.inc ⟨z3, z4⟩⟩)
            obtain ⟨st, st', v0, v0', W, q1, q2, q3, q4, q5, q6, q7, q8⟩ := IntMap.two (H4.out.2.1.up.keep ((Keep.refl (fun _ => True) w4).drew) trivial) (H4.out.2.1.last.keep ((Keep.refl (fun _ => True) w4).drew) trivial) (tag_ne H.out.1.fix.u H.out.1.fix.l (by simp)) (by omega) H.out.2.2.1.ints.node x.d.inc
            have hkW : ∀ i j, Keep (fun j => j ≠ F.u ∧ j ≠ F.l) w4 (W i j) := fun i j => ((Keep.refl _ w4).drew).trans (q2 i j)
            have HKW := Lib.hid hkW
            have HW2 := Lib.hid (And.intro q7 q8)
            have a0 := q3 0; have a1 := q3 1; have a2 := q3 2
            have d0 := q4 0; have d1 := q4 1; have d2 := q4 2
            have e0 := q5 0; have e1 := q5 1; have e2 := q5 2
            have f0 := q6 0; have f1 := q6 1; have f2 := q6 2
            rw [q1] at a0 e0
            obtain ⟨w01, h01⟩ : ∃ u, u = W 0 1 := ⟨_, rfl⟩
            obtain ⟨w02, h02⟩ : ∃ u, u = W 0 2 := ⟨_, rfl⟩
            obtain ⟨w10, h10⟩ : ∃ u, u = W 1 0 := ⟨_, rfl⟩
            obtain ⟨w11, h11⟩ : ∃ u, u = W 1 1 := ⟨_, rfl⟩
            obtain ⟨w12, h12⟩ : ∃ u, u = W 1 2 := ⟨_, rfl⟩
            obtain ⟨w20, h20⟩ : ∃ u, u = W 2 0 := ⟨_, rfl⟩
            obtain ⟨w21, h21⟩ : ∃ u, u = W 2 1 := ⟨_, rfl⟩
            obtain ⟨w22, h22⟩ : ∃ u, u = W 2 2 := ⟨_, rfl⟩
            rw [← h10] at a0 d0 e1; rw [← h20] at d0 e2; rw [← h01] at a1 e0 f0; rw [← h11] at a1 d1 e1 f1; rw [← h21] at d1 e2 f2; rw [← h02] at a2 f0; rw [← h12] at a2 d2 f1; rw [← h22] at d2 f2 HW2
            have hk01 := Lib.hid (hkW 0 1); rw [← h01] at hk01
            have hk02 := Lib.hid (hkW 0 2); rw [← h02] at hk02
            have hk10 := Lib.hid (hkW 1 0); rw [← h10] at hk10
            have hk11 := Lib.hid (hkW 1 1); rw [← h11] at hk11
            have hk12 := Lib.hid (hkW 1 2); rw [← h12] at hk12
            have hk20 := Lib.hid (hkW 2 0); rw [← h20] at hk20
            have hk21 := Lib.hid (hkW 2 1); rw [← h21] at hk21
            have hk22 := Lib.hid (hkW 2 2); rw [← h22] at hk22
            clear q1 q2 q3 q4 q5 q6 q7 q8 hkW HKW h01 h02 h10 h11 h12 h20 h21 h22 z1 z2 z3 z4 lu ll
            go_upto_region 9 with (fail)
            go_cut [] (fun wz => Hid (IntMap wz F.u (K + 1) (upd s.up x.d.node x.d.inc) ∧ IntMap wz F.l (K + 1) (upd s.last x.d.node x.d.inc) ∧ Keep (fun j => j ≠ F.u ∧ j ≠ F.l) w4 wz))
            case first =>
              go_region_held3 (fun w' => Keep (fun j => j ≠ F.u ∧ j ≠ F.l) w4 w' ∧ w'.cell? ⟨F.g, 2, none⟩ = some (.map (some F.u)) ∧ w'.cell? ⟨F.g, 3, none⟩ = some (.map (some F.l)) ∧ w'.cell? ⟨bm, 2, none⟩ = some (.int .i64 x.d.node) ∧ w'.cell? ⟨bm, 3, none⟩ = some (.int .i64 x.d.inc))
                (first | exact HK.out _ ((Keep.refl _ w4).drew) | exact HK.out _ hk01.out | exact HK.out _ hk02.out | exact HK.out _ hk10.out | exact HK.out _ hk11.out | exact HK.out _ hk12.out | exact HK.out _ hk20.out | exact HK.out _ hk21.out | exact HK.out _ hk22.out) (fail)
              all_goals go_wp2_with fail
              all_goals go_meet
              all_goals exact Lib.hid ⟨HW2.out.1, HW2.out.2, hk22.out⟩
            case rest =>
            rename World => w5
            have HC5 := Lib.hid hcut
            have hG5 : GM w5 B T F (K + 1) { s with at_ := x.d.at_, up := upd s.up x.d.node x.d.inc, last := upd s.last x.d.node x.d.inc } := with_ul H4.out.2.1 hcut.out.2.2 (same_low H4.out.2.1 hcut.out.2.2.size) (Nat.le_succ K) hcut.out.1 hcut.out.2.1
            have hwb5 : Blk w5 bu 78 #[.int .i64 x.d.node, .int .i64 x.d.inc] := H4.out.2.2.2.1.keep hcut.out.2.2 (by have := H4.out.2.2.2.2; have h1 := (H.out.1.low F.u (by rw [H.out.1.fix.u]; simp)).2; have h2 := (H.out.1.low F.l (by rw [H.out.1.fix.l]; simp)).2; omega)
            have H5 := Lib.hid (And.intro hG5 (And.intro hwb5 hcut.out.2.2))
            clear HW2 hk01 hk02 hk10 hk11 hk12 hk20 hk21 hk22
            clear hcut e0 f0 a0 w01 e1 a1 w02 f1 a2 d0 e2 d1 d2 f2 w22 w21 w20 w12 w11 w10 HK HC5
            obtain ⟨w6, hw6⟩ : ∃ w6, w6 = ((w5.alloc (.map #[] 0)).alloc (.cells (lifeV life0 none 0 w5.heap.size) 83)).drew := ⟨_, rfl⟩
            have hbl := boot_life (T := T) (w := w5) H5.out.1 x.d.who
            rw [← hw6] at hbl
            obtain ⟨hT6, hG6, hm6, hf6⟩ := hbl
            obtain ⟨w7, hrun, hL7, hk7⟩ := hG6.lives.store (by omega) (hT6.at H.out.1.fix.v (by simp)) H.out.2.2.1.ints.who hm6
            have z1 : F.g ≠ F.v := tag_ne H.out.1.fix.g H.out.1.fix.v (by simp)
            have z2 : bu ≠ F.v := by have := H4.out.2.2.2.2; have h1 := (H.out.1.low F.v (by rw [H.out.1.fix.v]; simp)).2; omega
            have HK : Hid (∀ w', Keep (fun j => j ≠ F.v) w5 w' → (Keep (fun j => j ≠ F.v) w5 w' ∧ w'.cell? ⟨F.g, 4, none⟩ = some (.map (some F.v)) ∧ w'.cell? ⟨bu, 0, none⟩ = some (.int .i64 x.d.node) ∧ w'.cell? ⟨bu, 1, none⟩ = some (.int .i64 x.d.inc))) := Lib.hid (fun w' hk => ⟨hk, hk.cellAt (hG5.blk.cell 4) z1, hk.cellAt (hwb5.cell 0) z2, hk.cellAt (hwb5.cell 1) z2⟩)
            have hk67 : Keep (fun j => j ≠ F.v) w5 w7 := (hf6.weaken fun _ _ _ => trivial).trans hk7
            have H7 := Lib.hid (And.intro hG6 (And.intro hL7 (And.intro hk7 (And.intro hk67 (And.intro hT6 hf6)))))
            simp only [whoA, MarkD.who] at hrun
            have HW6 := Lib.hid hw6
            rw [hw6] at hrun
            have hrun2 : (Instr.mapUpdate 68 (.map (some F.v)) (.agg #[.int .i64 x.d.node, .int .i64 x.d.inc]) (.pointer (some ⟨w5.heap.size + 1, 0, none⟩))).run Try.prog (((w5.alloc (.map #[] 0)).alloc (.cells #[.bool false, .bool true, .int .i64 0, .int .i64 0, .int .i64 0, .int .i64 0, .slice none 0 0, .int .i64 0, .int .i64 0, .int .i64 0, .int .i64 0, .map (some w5.heap.size)] 83)).drew) = .ok () w7 := hrun
            clear hrun
            have hmm := @run_makeMap Try.prog
            clear hw6 hT6 hG6 hm6 hf6 hL7 hk7 hk67 hG5 hwb5 z1 z2
            go_wp2_with fail
            go_region_held3 (fun w' => Keep (fun j => j ≠ F.v) w5 w' ∧ w'.cell? ⟨F.g, 4, none⟩ = some (.map (some F.v)) ∧ w'.cell? ⟨bu, 0, none⟩ = some (.int .i64 x.d.node) ∧ w'.cell? ⟨bu, 1, none⟩ = some (.int .i64 x.d.inc))
              (first | exact HK.out _ ((Keep.refl _ w5).drew) | exact HK.out _ (((Keep.refl _ w5).alloc _).drew) | exact HK.out _ ((((Keep.refl _ w5).alloc _).alloc _).drew) | exact HK.out _ H7.out.2.2.2.1) (fail)
            all_goals go_wp2_with fail
            all_goals go_ret
            refine ⟨rfl, ?_, fun _ => ⟨_, H7.out.2.2.2.2.1, ?_⟩⟩
            · exact ((H4.out.1.weaken (fun j _ (hj : KB B T j) => hj.ne H.out.1 H.out.1.fix.g (by simp) (by simp))).trans (H5.out.2.2.weaken (fun j _ (hj : KB B T j) => ⟨hj.ne H.out.1 H.out.1.fix.u (by simp) (by simp), hj.ne H.out.1 H.out.1.fix.l (by simp) (by simp)⟩))).trans (H7.out.2.2.2.1.weaken fun j _ hj => hj.ne H.out.1 H.out.1.fix.v (by simp) (by simp))
            · have e : nextG s x.d = { s with at_ := x.d.at_, up := upd s.up x.d.node x.d.inc, last := upd s.last x.d.node x.d.inc, lives := upd s.lives x.d.who (some life0) } := by unfold nextG; simp [← HZK.out]
              rw [e]
              exact (H7.out.1.with_lives H7.out.2.2.1 (fun j hj hp e => by rw [e, H7.out.1.fix.v] at hp; exact hp rfl) (More.refl _) (same_low H7.out.1 H7.out.2.2.1.size) (Nat.le_succ (K + 1)) H7.out.2.1).mono (by omega)
        · obtain ⟨v, hv, -, -⟩ := may_life H.out.2.1 HMB.out.symm (by rw [← HZK.out]; exact k15) (by rw [← HZK.out]; exact k1)
          obtain ⟨b, f, A, c, hm, LK, hset⟩ := H4.out.2.1.lives.open H.out.2.2.1.ints.who hv
          have HL := Lib.hid (And.intro hm hset)
          have HV := Lib.hid hv
          have LF : ∀ q, (Instr.lookup 68 (.map (some F.v)) (.agg #[.int .i64 x.d.node, .int .i64 x.d.inc]) false).run Try.prog (w4.drewN q) = .ok (.pointer (some ⟨b, 0, none⟩)) (w4.drewN q) := fun q => LK _ ((Keep.refl _ w4).drewN q)
          have LF1 : (Instr.lookup 68 (.map (some F.v)) (.agg #[.int .i64 x.d.node, .int .i64 x.d.inc]) false).run Try.prog w4.drew = .ok (.pointer (some ⟨b, 0, none⟩)) w4.drew := LK _ ((Keep.refl _ w4).drew)
          have HLK := Lib.hid LK
          clear hm hset hv LK
          by_cases k3 : zk = 3
          · subst k3
            obtain rfl : r = 0 := by rw [HR.out, ← HZK.out]; simp
            have nb : F.g ≠ b := tag_ne H.out.1.fix.g HL.out.1.tb (by simp)
            have lb : b < w4.heap.size := HL.out.1.blk.lt
            have e0 := HL.out.1.blk.frozen 0
            have l0 : w4.cell? ⟨b, 0, none⟩ = some (.bool v.halted) := HL.out.1.blk.cell 0
            have nbu : bu ≠ b := by have := H4.out.2.2.2.2; have := (H.out.1.low b (by rw [HL.out.1.tb]; simp)).2; omega
            have HK : Hid (∀ w', Keep (fun j => j ≠ b) w4 w' → (Keep (fun j => j ≠ b) w4 w' ∧ w'.cell? ⟨F.g, 4, none⟩ = some (.map (some F.v)) ∧ w'.cell? ⟨bu, 0, none⟩ = some (.int .i64 x.d.node) ∧ w'.cell? ⟨bu, 1, none⟩ = some (.int .i64 x.d.inc))) := Lib.hid (fun w' hk => ⟨hk, hk.cellAt (H4.out.2.1.blk.cell 4) nb, hk.cellAt (H4.out.2.2.2.1.cell 0) nbu, hk.cellAt (H4.out.2.2.2.1.cell 1) nbu⟩)
            clear nb nbu k15 k1 k2
            go_upto_region 14 with (fail)
            go_region_held3 (fun w' => Keep (fun j => j ≠ b) w4 w' ∧ w'.cell? ⟨F.g, 4, none⟩ = some (.map (some F.v)) ∧ w'.cell? ⟨bu, 0, none⟩ = some (.int .i64 x.d.node) ∧ w'.cell? ⟨bu, 1, none⟩ = some (.int .i64 x.d.inc))
              (first | exact HK.out _ ((Keep.refl _ w4).drew) | exact HK.out _ (((Keep.refl _ w4).drew).setCell (fun _ h => h rfl) _)) (fail)
            all_goals go_wp2_with fail
            all_goals go_ret
            generalize hw5 : World.setCell _ _ _ = w5
            have hm := HL.out.1
            have hk5 : Keep (fun j => j ≠ b) w4 w5 := by rw [← hw5]; exact (Keep.refl (fun j => j ≠ b) w4).setCell (fun _ h => h rfl) _
            have hb5 : Blk w5 b 83 (lifeV { v with halted := true } A c f) := by
              rw [← hw5]
              exact hm.blk.set 0 (.bool true)
            have hm5 : LifeM w5 T x.d.who b f K { v with halted := true } A c := ⟨hm.tb, hm.tf, hb5, hm.mem.keep hk5 (fun j hj => tag_ne hj hm.tb (by simp)) (More.refl T), hm.frm.keep hk5 (tag_ne hm.tf hm.tb (by simp)), hm.le, hm.ints, hm.id⟩
            have hL5 := HL.out.2 (fun j => j ≠ b) w5 T K _ f A c hk5 (tag_ne H.out.1.fix.v hm.tb (by simp)) (fun j hj => by
              rcases hj with ⟨y, hy, hj | hj⟩ | hj
              · exact tag_ne hj hm.tb (by simp [hy])
              · exact tag_ne hj hm.tb (by simp)
              · exact tag_ne hj hm.tb (by simp)) (More.refl T) (Nat.le_refl K) hm5
            have hG5 := H4.out.2.1.with_lives hk5 (fun j hj hp e => by rw [e, hm.tb] at hp; exact hp rfl) (More.refl T) (same_low H4.out.2.1 hk5.size) (Nat.le_refl K) hL5
            refine ⟨rfl, (H4.out.1.weaken (fun j _ (hj : KB B T j) => hj.ne H.out.1 H.out.1.fix.g (by simp) (by simp))).trans (hk5.drew.weaken fun j _ hj => hj.ne H.out.1 hm.tb (by simp) (by simp)), fun _ => ⟨T, More.refl T, ?_⟩⟩
            have e : nextG s x.d = { s with at_ := x.d.at_, lives := upd s.lives x.d.who (some { v with halted := true }) } := by
              unfold nextG
              simp [← HZK.out, GrpD.life, HV.out]
            rw [e]
            exact (hG5.fresh ((Keep.refl _ w5).drew)).mono (Nat.le_add_right K 3)
          · by_cases k7 : zk = 7
            · subst k7
              as_aux_lemma =>
                have er : r = instR s x.d := by rw [HR.out, ← HZK.out]; simp
                have hG5 : GM w4.drew B T F K { s with at_ := x.d.at_ } := H4.out.2.1.fresh ((Keep.refl _ w4).drew)
                have hx5 : MkIn w4.drew B x := H.out.2.2.1.keep (H4.out.1.drew) (fun j hj e => by have := (H.out.1.low F.g (by rw [H.out.1.fix.g]; simp)).1; omega)
                have HC := Lib.hid (install_any (s := { s with at_ := x.d.at_ }) hG5 (bd_at H.out.2.1 x.d.at_) hK hk x hx5 (v := v) HV.out b LF1)
                have HRm := Lib.hid H4.out.2.2.1.range0
                have b0 := H4.out.2.2.2.1.cell 0
                have b1 := H4.out.2.2.2.1.cell 1
                have lb := H4.out.2.2.2.1.lt
                have g4 : w4.cell? ⟨F.g, 4, none⟩ = some (.map (some F.v)) := H4.out.2.1.blk.cell 4
                have lm := H4.out.2.2.1.blk.lt
                simp at b0 b1
                clear hG5 hx5
                go_upto_region 16 with (fail)
                refine wp_region_still_tail 9 (by kernel_rfl) (by kernel_rfl) ?_
                simp only [List.take_succ_cons, List.take_zero, List.drop_succ_cons, List.drop_zero]
                repeat (first | (refine wpStill_load_mid rfl 50 _ rfl bm 0 rfl x.cells _ HRm.out Try.underlying50 rfl (by kernel_rfl) ?_; simp only [Act.put, List.setIfInBounds_toArray, List.set_cons_zero, List.set_cons_succ]) | still_step)
                refine wpStill_nil ?_
                change wpList _ _ _ _ _ w4.drew
                go_wp2_with fail
                refine Calls.mono HC.out ?_
                rintro e w5 ⟨rfl, hs5⟩
                have HS := Lib.hid hs5
                clear hs5
                go_wp2_with fail
                go_ret
                exact ⟨by rw [er]; rfl, grp_end H.out.1 H4.out.1 (nextG_inst s x.d HZK.out.symm) (by rw [er]; rfl) HS.out⟩
            · by_cases k6 : zk = 6
              · subst k6
                as_aux_lemma =>
                  have hR := HR.out
                  rw [← HZK.out] at hR
                  have LFq : ∀ q, (Instr.lookup 68 (.map (some F.v)) (.agg #[.int .i64 x.d.node, .int .i64 x.d.inc]) false).run Try.prog (w4.drewN q) = .ok (.pointer (some ⟨b, 0, none⟩)) (w4.drewN q) := LF
                  have b0 := H4.out.2.2.2.1.cell 0
                  have b1 := H4.out.2.2.2.1.cell 1
                  have lb := H4.out.2.2.2.1.lt
                  have g4 : w4.cell? ⟨F.g, 4, none⟩ = some (.map (some F.v)) := H4.out.2.1.blk.cell 4
                  have gl := H4.out.2.1.blk.lt
                  have hlb : b < w4.heap.size := HL.out.1.blk.lt
                  have l1 : w4.cell? ⟨b, 1, none⟩ = some (.bool v.blocked) := HL.out.1.blk.cell 1
                  simp at b0 b1
                  obtain ⟨bl, hbl⟩ : ∃ z, z = v.blocked := ⟨_, rfl⟩
                  rw [← hbl] at l1
                  have HBL := Lib.hid hbl
                  have HRR := Lib.hid hR
                  clear hbl hR k15 k1 k2 k3 k7
                  go_upto_region 18 with (fail)
                  go_cut [101] (fun sv wx => sv = .bool bl ∧ Hid (Fresh w4 wx))
                  case first =>
                    go_quiet (fail)
                    go_wp2_with fail
                    go_meet
                    exact ⟨rfl, Lib.hid ((Keep.refl _ w4).drewN _)⟩
                  case rest =>
                  rename World => w5
                  obtain ⟨rfl, HF5⟩ := hcut
                  have hlife : GrpD.life s x.d.who = v := by simp [GrpD.life, HV.out]
                  cases bl
                  · obtain rfl : r = 0 := by rw [HRR.out, hlife, ← HBL.out]; simp
                    clear b0 b1 lb g4 gl hlb l1 LFq LF LF1
                    have hG5 := Lib.hid (H4.out.2.1.fresh HF5.out)
                    have hm5 := Lib.hid (HL.out.1.keep (k' := K) HF5.out (fun _ _ => trivial) (More.refl T) (Nat.le_refl K))
                    have nb : F.g ≠ b := tag_ne H.out.1.fix.g HL.out.1.tb (by simp)
                    have lb : b < w5.heap.size := hm5.out.blk.lt
                    have e0 := hm5.out.blk.frozen 1
                    have l0 : w5.cell? ⟨b, 1, none⟩ = some (.bool v.blocked) := hm5.out.blk.cell 1
                    have nbu : bu ≠ b := by have := H4.out.2.2.2.2; have := (H.out.1.low b (by rw [HL.out.1.tb]; simp)).2; omega
                    have HK : Hid (∀ w', Keep (fun j => j ≠ b) w5 w' → (Keep (fun j => j ≠ b) w5 w' ∧ w'.cell? ⟨F.g, 4, none⟩ = some (.map (some F.v)) ∧ w'.cell? ⟨bu, 0, none⟩ = some (.int .i64 x.d.node) ∧ w'.cell? ⟨bu, 1, none⟩ = some (.int .i64 x.d.inc))) := Lib.hid (fun w' hk => ⟨hk, hk.cellAt (hG5.out.blk.cell 4) nb, hk.cellAt ((H4.out.2.2.2.1.keep HF5.out trivial).cell 0) nbu, hk.cellAt ((H4.out.2.2.2.1.keep HF5.out trivial).cell 1) nbu⟩)
                    have LF5 : (Instr.lookup 68 (.map (some F.v)) (.agg #[.int .i64 x.d.node, .int .i64 x.d.inc]) false).run Try.prog w5.drew = .ok (.pointer (some ⟨b, 0, none⟩)) w5.drew := HLK.out _ (HF5.out.drew)
                    clear nb nbu
                    go_upto_region 20 with (fail)
                    go_region_held3 (fun w' => Keep (fun j => j ≠ b) w5 w' ∧ w'.cell? ⟨F.g, 4, none⟩ = some (.map (some F.v)) ∧ w'.cell? ⟨bu, 0, none⟩ = some (.int .i64 x.d.node) ∧ w'.cell? ⟨bu, 1, none⟩ = some (.int .i64 x.d.inc))
                      (first | exact HK.out _ ((Keep.refl _ w5).drew) | exact HK.out _ (((Keep.refl _ w5).drew).setCell (fun _ h => h rfl) _)) (fail)
                    all_goals go_wp2_with fail
                    all_goals go_ret
                    generalize hw6 : World.setCell _ _ _ = w6
                    have hm := HL.out.1
                    have hk6 : Keep (fun j => j ≠ b) w4 w6 := by rw [← hw6]; exact (HF5.out.weaken fun _ _ _ => trivial : Keep (fun j => j ≠ b) w4 w5).setCell (fun _ h => h rfl) _
                    have hb6 : Blk w6 b 83 (lifeV { v with blocked := true } A c f) := by
                      rw [← hw6]
                      exact hm5.out.blk.set 1 (.bool true)
                    have hm6 : LifeM w6 T x.d.who b f K { v with blocked := true } A c := ⟨hm.tb, hm.tf, hb6, hm.mem.keep hk6 (fun j hj => tag_ne hj hm.tb (by simp)) (More.refl T), hm.frm.keep hk6 (tag_ne hm.tf hm.tb (by simp)), hm.le, hm.ints, hm.id⟩
                    have hL6 := HL.out.2 (fun j => j ≠ b) w6 T K _ f A c hk6 (tag_ne H.out.1.fix.v hm.tb (by simp)) (fun j hj => by
                      rcases hj with ⟨y, hy, hj | hj⟩ | hj
                      · exact tag_ne hj hm.tb (by simp [hy])
                      · exact tag_ne hj hm.tb (by simp)
                      · exact tag_ne hj hm.tb (by simp)) (More.refl T) (Nat.le_refl K) hm6
                    have hG6 := H4.out.2.1.with_lives hk6 (fun j hj hp e => by rw [e, hm.tb] at hp; exact hp rfl) (More.refl T) (same_low H4.out.2.1 hk6.size) (Nat.le_refl K) hL6
                    refine ⟨rfl, (H4.out.1.weaken (fun j _ (hj : KB B T j) => hj.ne H.out.1 H.out.1.fix.g (by simp) (by simp))).trans (hk6.drew.weaken fun j _ hj => hj.ne H.out.1 hm.tb (by simp) (by simp)), fun _ => ⟨T, More.refl T, ?_⟩⟩
                    have e : nextG s x.d = { s with at_ := x.d.at_, lives := upd s.lives x.d.who (some { v with blocked := true }) } := by
                      unfold nextG
                      simp [← HZK.out, GrpD.life, HV.out]
                    rw [e]
                    exact (hG6.fresh ((Keep.refl _ w6).drew)).mono (Nat.le_add_right K 3)
                  · obtain rfl : r = 5 := by rw [HRR.out, hlife, ← HBL.out]; simp
                    go_wp2_with fail
                    go_ret
                    exact ⟨rfl, (H4.out.1.trans (HF5.out.weaken fun _ _ _ => trivial)).weaken fun j _ hj => hj.ne H.out.1 H.out.1.fix.g (by simp) (by simp), fun e => absurd e (by decide)⟩
              · by_cases k4 : zk = 4
                · subst k4
                  as_aux_lemma =>
                    have er : r = sendR s x.d := by rw [HR.out, ← HZK.out]; simp
                    have hG5 : GM w4.drew B T F K { s with at_ := x.d.at_ } := H4.out.2.1.fresh ((Keep.refl _ w4).drew)
                    have hx5 : MkIn w4.drew B x := H.out.2.2.1.keep (H4.out.1.drew) (fun j hj e => by have := (H.out.1.low F.g (by rw [H.out.1.fix.g]; simp)).1; omega)
                    have HC := Lib.hid (send_any (s := { s with at_ := x.d.at_ }) hG5 (bd_at H.out.2.1 x.d.at_) hK hk x hx5 (v := v) HV.out b LF1)
                    have HRm := Lib.hid H4.out.2.2.1.range0
                    have b0 := H4.out.2.2.2.1.cell 0
                    have b1 := H4.out.2.2.2.1.cell 1
                    have lb := H4.out.2.2.2.1.lt
                    have g4 : w4.cell? ⟨F.g, 4, none⟩ = some (.map (some F.v)) := H4.out.2.1.blk.cell 4
                    have lm := H4.out.2.2.1.blk.lt
                    simp at b0 b1
                    clear hG5 hx5
                    go_upto_region 22 with (fail)
                    refine wp_region_still_tail 9 (by kernel_rfl) (by kernel_rfl) ?_
                    simp only [List.take_succ_cons, List.take_zero, List.drop_succ_cons, List.drop_zero]
                    repeat (first | (refine wpStill_load_mid rfl 50 _ rfl bm 0 rfl x.cells _ HRm.out Try.underlying50 rfl (by kernel_rfl) ?_; simp only [Act.put, List.setIfInBounds_toArray, List.set_cons_zero, List.set_cons_succ]) | still_step)
                    refine wpStill_nil ?_
                    change wpList _ _ _ _ _ w4.drew
                    go_wp2_with fail
                    refine Calls.mono HC.out ?_
                    rintro e w5 ⟨rfl, hs5⟩
                    have HS := Lib.hid hs5
                    clear hs5
                    go_wp2_with fail
                    go_ret
                    exact ⟨by rw [er]; rfl, grp_end H.out.1 H4.out.1 (nextG_send s x.d HZK.out.symm) (by rw [er]; rfl) HS.out⟩
                · by_cases k8 : zk = 8
                  · subst k8
                    as_aux_lemma =>
                      have er : r = delR s x.d := by rw [HR.out, ← HZK.out]; simp
                      have hG5 : GM w4.drew B T F K { s with at_ := x.d.at_ } := H4.out.2.1.fresh ((Keep.refl _ w4).drew)
                      have hx5 : MkIn w4.drew B x := H.out.2.2.1.keep (H4.out.1.drew) (fun j hj e => by have := (H.out.1.low F.g (by rw [H.out.1.fix.g]; simp)).1; omega)
                      have HC := Lib.hid (deliver_any (s := { s with at_ := x.d.at_ }) hG5 (bd_at H.out.2.1 x.d.at_) hK hk x hx5 (v := v) HV.out b LF1)
                      have HRm := Lib.hid H4.out.2.2.1.range0
                      have b0 := H4.out.2.2.2.1.cell 0
                      have b1 := H4.out.2.2.2.1.cell 1
                      have lb := H4.out.2.2.2.1.lt
                      have g4 : w4.cell? ⟨F.g, 4, none⟩ = some (.map (some F.v)) := H4.out.2.1.blk.cell 4
                      have lm := H4.out.2.2.1.blk.lt
                      simp at b0 b1
                      clear hG5 hx5
                      go_upto_region 24 with (fail)
                      refine wp_region_still_tail 9 (by kernel_rfl) (by kernel_rfl) ?_
                      simp only [List.take_succ_cons, List.take_zero, List.drop_succ_cons, List.drop_zero]
                      repeat (first | (refine wpStill_load_mid rfl 50 _ rfl bm 0 rfl x.cells _ HRm.out Try.underlying50 rfl (by kernel_rfl) ?_; simp only [Act.put, List.setIfInBounds_toArray, List.set_cons_zero, List.set_cons_succ]) | still_step)
                      refine wpStill_nil ?_
                      change wpList _ _ _ _ _ w4.drew
                      go_wp2_with fail
                      refine Calls.mono HC.out ?_
                      rintro e w5 ⟨rfl, hs5⟩
                      have HS := Lib.hid hs5
                      clear hs5
                      go_wp2_with fail
                      go_ret
                      exact ⟨by rw [er]; rfl, grp_end H.out.1 H4.out.1 (nextG_del s x.d HZK.out.symm) (by rw [er]; rfl) HS.out⟩
                  · by_cases k9 : zk = 9
                    · subst k9
                      as_aux_lemma =>
                        have er : r = safR s x.d := by rw [HR.out, ← HZK.out]; simp
                        have hG5 : GM w4.drew B T F K { s with at_ := x.d.at_ } := H4.out.2.1.fresh ((Keep.refl _ w4).drew)
                        have hx5 : MkIn w4.drew B x := H.out.2.2.1.keep (H4.out.1.drew) (fun j hj e => by have := (H.out.1.low F.g (by rw [H.out.1.fix.g]; simp)).1; omega)
                        have HC := Lib.hid (stable_any (s := { s with at_ := x.d.at_ }) hG5 (bd_at H.out.2.1 x.d.at_) hK hk x hx5 (v := v) HV.out b LF1)
                        have HRm := Lib.hid H4.out.2.2.1.range0
                        have b0 := H4.out.2.2.2.1.cell 0
                        have b1 := H4.out.2.2.2.1.cell 1
                        have lb := H4.out.2.2.2.1.lt
                        have g4 : w4.cell? ⟨F.g, 4, none⟩ = some (.map (some F.v)) := H4.out.2.1.blk.cell 4
                        have lm := H4.out.2.2.1.blk.lt
                        simp at b0 b1
                        clear hG5 hx5
                        go_upto_region 26 with (fail)
                        refine wp_region_still_tail 9 (by kernel_rfl) (by kernel_rfl) ?_
                        simp only [List.take_succ_cons, List.take_zero, List.drop_succ_cons, List.drop_zero]
                        repeat (first | (refine wpStill_load_mid rfl 50 _ rfl bm 0 rfl x.cells _ HRm.out Try.underlying50 rfl (by kernel_rfl) ?_; simp only [Act.put, List.setIfInBounds_toArray, List.set_cons_zero, List.set_cons_succ]) | still_step)
                        refine wpStill_nil ?_
                        change wpList _ _ _ _ _ w4.drew
                        go_wp2_with fail
                        refine Calls.mono HC.out ?_
                        rintro e w5 ⟨rfl, hs5⟩
                        have HS := Lib.hid hs5
                        clear hs5
                        go_wp2_with fail
                        go_ret
                        exact ⟨by rw [er]; rfl, grp_end H.out.1 H4.out.1 (nextG_safe s x.d HZK.out.symm) (by rw [er]; rfl) HS.out⟩
                    · obtain rfl : r = 0 := by rw [HR.out, ← HZK.out]; simp [k7, k6, k4, k8, k9]
                      go_wp2_with fail
                      go_ret
                      refine ⟨rfl, H4.out.1.weaken fun j _ hj => hj.ne H.out.1 H.out.1.fix.g (by simp) (by simp), fun _ => ⟨T, More.refl T, ?_⟩⟩
                      have e : nextG s x.d = { s with at_ := x.d.at_ } := by
                        unfold nextG
                        simp [← HZK.out, k15, k1, k2, k3, k7, k6, k4, k8, k9]
                      rw [e]
                      exact H4.out.2.1.mono (Nat.le_add_right K 3)
end Go.Proofs.Ytfpcmleeehciaaa