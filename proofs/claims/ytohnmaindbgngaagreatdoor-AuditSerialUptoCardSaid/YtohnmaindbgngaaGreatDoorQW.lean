/-
  MERGED: Copied Copied2
-/
import Derived.Test.YtohnmaindbgngaaGreatDoorQI
namespace Go.Proofs.YtohnmaindbgngaaGreatDoor
set_option linter.unusedVariables false
set_option linter.unusedSimpArgs false
open Go.RowKit

theorem memb_info : (Tryz.prog.info? 59).map (fun i => (i.zero, i.size, i.bytes)) = some (some (.agg (MemD.cells ⟨0, 0, 0⟩).toArray), 3, 24) := by kernel_rfl
theorem etMem : ET Tryz.prog 46 59 3 24 (.agg (MemD.cells ⟨0, 0, 0⟩).toArray) := ⟨Tryz.underlying46, memb_info, rfl, by decide, by decide⟩
theorem byte_info : (Tryz.prog.info? 5).map (fun i => (i.zero, i.size, i.bytes)) = some (some (.int .u8 0), 1, 1) := by kernel_rfl
theorem etByte : ET Tryz.prog 47 5 1 1 (.int .u8 0) := ⟨Tryz.underlying47, byte_info, rfl, by decide, by decide⟩
theorem mem_one (l : List MemD) : ∀ u ∈ rcells MemD.cells l, u.oneCell' = true := by
  intro u hu
  obtain ⟨x, _, hx⟩ := List.mem_flatMap.1 hu
  simp only [MemD.cells, List.mem_cons, List.not_mem_nil, or_false] at hx
  rcases hx with rfl | rfl | rfl <;> rfl
theorem own_one {w : World} {b e s n : Nat} {v : Value} {xs : List Value} (h : w.ownsRow b e s v n xs) : v.oneCell' = true := by
  rcases h.2 with ⟨rfl, _⟩ | ⟨g, cap, cur, rfl, _⟩ <;> rfl
theorem mcells_snoc (hs : List MkV) (x : MkV) : mcells hs ++ x.cells = mcells (hs ++ [x]) := by simp [mcells, rcells]

/-- What stands behind k marks. -/
structure Copd (w wr : World) (hs : List MkV) (k : Nat) (out : Value) (ks : List MkV) : Prop where
  own : wr.ownsRow w.heap.size 51 26 out k (mcells ks)
  len : ks.length = k
  same : dsOf ks = dsOf (hs.take k)
  one : ∀ h ∈ ks, MkOne h
  fresh : Fresh w wr
theorem Copd.step {w wr w1 w2 : World} {hs ks : List MkV} {k : Nat} {out out' : Value} {x : MkV} (h : Copd w wr hs k out ks) (hk : k < hs.length) (hx : x.d = hs[k].d) (h1 : MkOne x) (hf : Fresh wr w1) (ho : w2.ownsRow w.heap.size 51 26 out' (k + 1) (mcells ks ++ x.cells)) (hk2 : Keep (fun i => out.ownBlock ≠ some i) w1 w2) :
    Copd w w2 hs (k + 1) out' (ks ++ [x]) := by
  refine ⟨by rw [mcells_snoc] at ho; exact ho, by simp [h.len], ?_, fun y hy => ?_, (h.fresh.trans hf).comp hk2 (fun _ _ h => h) (fun i hi _ e => by have := (own_lt h.own e).1; omega)⟩
  · rw [dsOf_take hk]
    have e : dsOf (ks ++ [x]) = dsOf ks ++ [x.d] := by unfold dsOf; rw [List.map_append]; rfl
    rw [e, h.same, hx]
  · rcases List.mem_append.1 hy with h2 | h2
    · exact h.one y h2
    · simp at h2
      subst h2
      exact h1

set_option maxRecDepth 20000 in
set_option maxHeartbeats 300000 in
theorem copied_marks (Z : Nat → Prop) (A : Option Addr) (n c : Nat) (hs : List MkV) (w : World) (h : Mks w Z A n hs) (ho : ∀ h ∈ hs, MkOk w Z h) :
    Calls Tryz.prog 11 #[.slice A n c] w fun e w' => (∃ (v : Value) (ks : List MkV), e = .returned v ∧ Copd w w' hs n v ks) ∧ Fresh w w' := by
  have HM := Lib.hid (And.intro h ho)
  have hle := h.le
  clear h ho
  go_enter Tryz.func11, Tryz.ntmps11
  go_wp2
  go_loopw [3, 4] (fun out i wr => ∃ (k : Nat) (ks : List MkV), k ≤ n ∧ i = .int .i64 (k : Int) ∧ Hid (Copd w wr hs k out ks)) (fun _ i _ => n - (intOf i).toNat)
  case atStart => exact ⟨0, [], Nat.zero_le _, rfl, Lib.hid ⟨w.ownsRow_nil _ _ _, rfl, rfl, (fun h hh => by cases hh), Keep.refl _ _⟩⟩
  case round =>
    rename World => wr
    obtain ⟨k, ks, hk, rfl, HW⟩ := hrel
    by_cases hlt : k < n
    · obtain ⟨b, o, rfl, -, hl, hr⟩ := HM.out.1.at1 hlt
      replace hr := rangeAt_keep hr HW.out.fresh trivial
      have hok := HM.out.2 _ (List.getElem_mem hl)
      have hfit := HM.out.1.fit _ (List.getElem_mem hl)
      have hone := HM.out.1.one _ (List.getElem_mem hl)
      obtain ⟨x, hx⟩ : ∃ x, x = hs[k] := ⟨_, rfl⟩
      rw [← hx] at hr hok hfit hone
      obtain ⟨⟨AM, cM, eM, -, nM, rM⟩, ⟨AT, cT, eT, -, nT, rT⟩, ⟨AB, cB, eB, -, nB, rB⟩⟩ := hok
      have HR := Lib.hid (And.intro hr hone)
      have HX := Lib.hid (show ∃ hl : k < hs.length, x = hs[k] from ⟨hl, hx⟩)
      have HL := Lib.hid (show ∀ w', Fresh w w' → Rd w' Z 3 AM x.d.mem.length (rcells MemD.cells x.d.mem) ∧ Rd w' Z 1 AT x.d.tr.length (ics x.d.tr) ∧ Rd w' Z 1 AB x.d.body.length (Lib.byteCells x.d.body) from fun w' h => ⟨rM.keep (h.weaken fun _ _ _ => trivial), rT.keep (h.weaken fun _ _ _ => trivial), rB.keep (h.weaken fun _ _ _ => trivial)⟩)
      have HNl := Lib.hid (And.intro nM (And.intro nT nB))
      have HFt := Lib.hid hfit
      have HE := Lib.hid (And.intro eM (And.intro eT eB))
      clear hr hx hl nM rM nT rT nB rB hfit hone eM eT eB
      go_wp2_with (first | (refine wpList_load_mid rfl 51 _ rfl b (o + k * 26) rfl x.cells _ HR.out.1 Tryz.underlying51 rfl (by kernel_rfl) ?_) | (refine wpList_store_new rfl (.tmp 5) (.tmp 15) rfl _ x.cells.toArray _ rfl rfl rfl (by kernel_rfl) (Array.all_eq_true_iff_forall_mem.2 fun u hu => mk_one HR.out.2 u (by simpa using hu)) ?_))
      intro w1 hb1 hf1 hs1
      have c8 : w1.cell? ⟨wr.heap.size, 8, none⟩ = some (.slice AM x.d.mem.length cM) := (hb1.cell 8).trans (congrArg some HE.out.1)
      have H1 := Lib.hid (And.intro hb1 (And.intro hf1 hs1))
      have f8 := hb1.frozen 8
      clear hb1 hf1
      go_wp2_with (at_builtin; refine wpList_app etMem rfl _ _ rfl wr.heap.size _ 0 [] rfl (World.ownsRow_nil _ _ _ _) Z AM _ cM _ rfl (HL.out _ (HW.out.fresh.trans H1.out.2.1)).1 HNl.out.1 (mem_one _) (by have := HFt.out.m; omega) H1.out.2.1.size ?_)
      intro v1 w2 ho1 hk1 hn1
      obtain ⟨P1, q1, rfl, -, -⟩ := own_rd ho1
      have hwr := HW.out.fresh.size
      have F2 : Fresh wr w2 := H1.out.2.1.comp hk1 (fun _ _ h => h) (fun i hi _ => by simp [Value.ownBlock])
      have b2 : Blk w2 wr.heap.size 51 x.cells.toArray := H1.out.1.keep hk1 (by simp [Value.ownBlock])
      have c8' := (b2.cell 8).trans (congrArg some HE.out.1)
      have c9 : w2.cell? ⟨wr.heap.size, 9, none⟩ = some (.slice AT x.d.tr.length cT) := (b2.cell 9).trans (congrArg some HE.out.2.1)
      have g8 := b2.frozen 8
      have g9 := b2.frozen 9
      have H2 := Lib.hid (And.intro b2 (And.intro (show ∀ u, Fresh wr (w2.setCell ⟨wr.heap.size, 8, none⟩ u) from fun u => F2.setCell (fun h => absurd h (Nat.lt_irrefl _)) u) (And.intro ho1 hn1)))
      clear c8 f8 F2 b2 ho1 hk1 hn1 hs1
      go_wp2_with (at_builtin; refine wpList_app etInt rfl _ _ rfl wr.heap.size _ 0 [] rfl (World.ownsRow_nil _ _ _ _) Z AT _ cT _ rfl (HL.out _ (HW.out.fresh.trans (H2.out.2.1 _))).2.1 HNl.out.2.1 (ics_one _) (by have := HFt.out.t; omega) (H2.out.2.1 _).size ?_)
      intro v2 w3 ho2 hk2 hn2
      obtain ⟨P2, q2, rfl, -, -⟩ := own_rd ho2
      have F3 : Fresh wr w3 := (H2.out.2.1 _).comp hk2 (fun _ _ h => h) (fun i hi _ => by simp [Value.ownBlock])
      have b3 : Blk w3 wr.heap.size 51 (x.cells.toArray.setIfInBounds 8 (.slice P1 x.d.mem.length q1)) := (H2.out.1.set 8 _).keep hk2 (by simp [Value.ownBlock])
      have c9' : w3.cell? ⟨wr.heap.size, 9, none⟩ = some (.slice AT x.d.tr.length cT) := (b3.cell 9).trans (congrArg some HE.out.2.1)
      have c14 : w3.cell? ⟨wr.heap.size, 14, none⟩ = some (.slice AB x.d.body.length cB) := (b3.cell 14).trans (congrArg some HE.out.2.2)
      have g9' := b3.frozen 9
      have g14 := b3.frozen 14
      have H3 := Lib.hid (And.intro b3 (And.intro (show ∀ u, Fresh wr (w3.setCell ⟨wr.heap.size, 9, none⟩ u) from fun u => F3.setCell (fun h => absurd h (Nat.lt_irrefl _)) u) (And.intro ho2 hn2)))
      clear c8' c9 g8 g9 F3 b3 ho2 hk2 hn2
      go_wp2_with (at_builtin; refine wpList_app etByte rfl _ _ rfl wr.heap.size _ 0 [] rfl (World.ownsRow_nil _ _ _ _) Z AB _ cB _ rfl (HL.out _ (HW.out.fresh.trans (H3.out.2.1 _))).2.2 HNl.out.2.2 (bcs_one _) (by have := HFt.out.b; omega) (H3.out.2.1 _).size ?_)
      intro v3 w4 ho3 hk3 hn3
      obtain ⟨P3, q3, rfl, -, -⟩ := own_rd ho3
      have F4 : Fresh wr w4 := (H3.out.2.1 _).comp hk3 (fun _ _ h => h) (fun i hi _ => by simp [Value.ownBlock])
      have b4 : Blk w4 wr.heap.size 51 ((x.cells.toArray.setIfInBounds 8 (.slice P1 x.d.mem.length q1)).setIfInBounds 9 (.slice P2 x.d.tr.length q2)) := (H3.out.1.set 9 _).keep hk3 (by simp [Value.ownBlock])
      have c14' : w4.cell? ⟨wr.heap.size, 14, none⟩ = some (.slice AB x.d.body.length cB) := (b4.cell 14).trans (congrArg some HE.out.2.2)
      have g14' := b4.frozen 14
      obtain ⟨y, hy⟩ : ∃ y : MkV, y = ⟨x.d, .slice P1 x.d.mem.length q1, .slice P2 x.d.tr.length q2, .slice P3 x.d.body.length q3⟩ := ⟨_, rfl⟩
      have b5 : Blk (w4.setCell ⟨wr.heap.size, 14, none⟩ (.slice P3 x.d.body.length q3)) wr.heap.size 51 y.cells.toArray := hy ▸ b4.set 14 _
      have hy1 : MkOne y := hy ▸ ⟨rfl, rfl, rfl⟩
      have F5 : Fresh wr (w4.setCell ⟨wr.heap.size, 14, none⟩ (.slice P3 x.d.body.length q3)) := F4.setCell (fun h => absurd h (Nat.lt_irrefl _)) _
      have h26 := mk_len y
      have r5 : (w4.setCell ⟨wr.heap.size, 14, none⟩ (.slice P3 x.d.body.length q3)).rangeAt wr.heap.size 0 y.cells := by
        have := b5.range
        rwa [List.toList_toArray] at this
      have H5 := Lib.hid (And.intro r5 (And.intro F5 (And.intro hy1 (And.intro (own_keep HW.out.own F5 (fun _ _ => trivial)) (Nat.le_trans hwr F5.size)))))
      have H6 := Lib.hid (show y.cells.toArray.size = 26 ∧ ∀ u ∈ y.cells.toArray.toList, u.oneCell' = true from ⟨by rw [List.size_toArray]; exact h26, fun u hu => mk_one hy1 u (by simpa using hu)⟩)
      have HY := Lib.hid (show y.d = x.d from hy ▸ rfl)
      clear c9' c14 g9' g14 F4 b4 ho3 hk3 hn3 b5 r5 hy1 F5 hy H1 H2 H3
      go_wp2_with (first | (at_builtin; (rw [fold_zip y.cells]; rotate_left; exact h26.symm; refine wpList_appB etMark rfl (.tmp 28) (.tmp 30) rfl y.cells.toArray 51 H6.out.1 H6.out.2 w.heap.size _ k (mcells ks) w4.heap.size (by simp) rfl rfl H5.out.2.2.2.1 (by omega) H5.out.2.2.2.2 ?_)) | (refine wpList_load_mid rfl 51 _ rfl wr.heap.size 0 rfl y.cells _ H5.out.1 Tryz.underlying51 rfl (by kernel_rfl) ?_))
      intro v6 w6 ho6 hk6 hn6
      have HN := Lib.hid (show Copd w w6 hs (k + 1) v6 (ks ++ [y]) by
        obtain ⟨hl, e⟩ := HX.out
        exact HW.out.step hl (by rw [HY.out, e]) H5.out.2.2.1 H5.out.2.1 ho6 hk6)
      clear ho6 hk6 hn6 H5 c14' g14'
      go_wp2_with fail
      exact ⟨⟨k + 1, _, by omega, congrArg _ (by omega), HN⟩, by simp [intOf]; omega⟩
    · obtain rfl : k = n := by omega
      go_wp2_with fail
      go_ret
      exact ⟨⟨_, ks, rfl, HW.out⟩, HW.out.fresh⟩
end Go.Proofs.YtohnmaindbgngaaGreatDoor
namespace Go.Proofs.YtohnmaindbgngaaGreatDoor
set_option linter.unusedVariables false
set_option linter.unusedSimpArgs false
open Go.RowKit

/-- A mark whose lists lie in blocks of the call's own. -/
structure CRow (w : World) (B : Nat) (x : MkV) : Prop where
  m : w.ownsRow B 59 3 x.vm x.d.mem.length (rcells MemD.cells x.d.mem)
  t : w.ownsRow B 3 1 x.vt x.d.tr.length (ics x.d.tr)
  b : w.ownsRow B 5 1 x.vb x.d.body.length (Lib.byteCells x.d.body)
theorem CRow.keep {w w' : World} {B : Nat} {x : MkV} {Z : Nat → Prop} (h : CRow w B x) (hk : Keep Z w w') (hz : ∀ k, (∃ cs t, w.heap[k]? = some (.cells cs t (0, 0)) ∧ (t = 59 ∨ t = 3 ∨ t = 5)) → Z k) : CRow w' B x := by
  have key : ∀ {b e s n : Nat} {v : Value} {xs : List Value}, w.ownsRow b e s v n xs → (e = 59 ∨ e = 3 ∨ e = 5) → ∀ k, v.ownBlock = some k → Z k := fun h he k hk => by
    rcases h.2 with ⟨rfl, _⟩ | ⟨g, cap, cur, rfl, _, hh, _⟩
    · simp [Value.ownBlock] at hk
    · simp [Value.ownBlock] at hk
      subst hk
      exact hz _ ⟨_, _, hh, he⟩
  exact ⟨own_keep h.m hk (key h.m (.inl rfl)), own_keep h.t hk (key h.t (.inr (.inl rfl))), own_keep h.b hk (key h.b (.inr (.inr rfl)))⟩
theorem CRow.ok {w : World} {B : Nat} {x : MkV} (h : CRow w B x) : MkOk w (fun _ => True) x := by
  have key : ∀ {b e s n : Nat} {v : Value} {xs : List Value}, w.ownsRow b e s v n xs → SlOk w (fun _ => True) s n v xs := fun h => by
    rcases h.2 with ⟨rfl, rfl⟩ | ⟨g, cap, cur, rfl, _, hh, hc, _⟩
    · obtain rfl := own_nil_of h
      exact ⟨none, 0, rfl, Nat.le_refl _, fun _ => .inl rfl, Rd.nil _ _ _ _⟩
    · obtain ⟨A, c, hv, hr, _⟩ := own_rd h
      injection hv with h1 h2 h3
      subst h1 h3
      exact ⟨_, _, rfl, hc, fun _ => .inr (by simp), hr.weaken fun _ _ => trivial⟩
  exact ⟨key h.m, key h.t, key h.b⟩

/-- What stands behind k marks. -/
structure Cop2 (w wr : World) (hs : List MkV) (k : Nat) (out : Value) (ks : List MkV) : Prop where
  own : wr.ownsRow w.heap.size 51 26 out k (mcells ks)
  len : ks.length = k
  same : dsOf ks = dsOf (hs.take k)
  one : ∀ h ∈ ks, MkOne h
  fresh : Fresh w wr
  rows : ∀ h ∈ ks, CRow wr w.heap.size h
theorem Cop2.step {w wr w1 w2 : World} {hs ks : List MkV} {k : Nat} {out out' : Value} {x : MkV} (h : Cop2 w wr hs k out ks) (hk : k < hs.length) (hx : x.d = hs[k].d) (h1 : MkOne x) (hf : Fresh wr w1) (ho : w2.ownsRow w.heap.size 51 26 out' (k + 1) (mcells ks ++ x.cells)) (hk2 : Keep (fun i => out.ownBlock ≠ some i) w1 w2) (hoo : w1.ownsRow w.heap.size 51 26 out k (mcells ks)) (hrow : CRow w1 w.heap.size x) :
    Cop2 w w2 hs (k + 1) out' (ks ++ [x]) := by
  refine ⟨by rw [mcells_snoc] at ho; exact ho, by simp [h.len], ?_, fun y hy => ?_, (h.fresh.trans hf).comp hk2 (fun _ _ h => h) (fun i hi _ e => by have := (own_lt h.own e).1; omega), fun y hy => ?_⟩
  · rw [dsOf_take hk]
    have e : dsOf (ks ++ [x]) = dsOf ks ++ [x.d] := by unfold dsOf; rw [List.map_append]; rfl
    rw [e, h.same, hx]
  · rcases List.mem_append.1 hy with h2 | h2
    · exact h.one y h2
    · simp at h2
      subst h2
      exact h1
  · have hz : ∀ k, (∃ cs t, w1.heap[k]? = some (.cells cs t (0, 0)) ∧ (t = 59 ∨ t = 3 ∨ t = 5)) → out.ownBlock ≠ some k := fun k ⟨cs, t, hh, ht⟩ e => by
      rcases hoo.2 with ⟨rfl, _⟩ | ⟨g, cap, cur, rfl, _, hg, _⟩
      · simp [Value.ownBlock] at e
      · simp [Value.ownBlock] at e
        subst e
        rw [hg] at hh
        injection hh with hh
        injection hh with _ h2
        subst h2
        revert ht
        decide
    rcases List.mem_append.1 hy with h2 | h2
    · exact ((h.rows y h2).keep hf (fun _ _ => trivial)).keep hk2 hz
    · simp at h2
      subst h2
      exact hrow.keep hk2 hz

set_option maxRecDepth 20000 in
set_option maxHeartbeats 300000 in
theorem copied_rows (Z : Nat → Prop) (A : Option Addr) (n c : Nat) (hs : List MkV) (w : World) (h : Mks w Z A n hs) (ho : ∀ h ∈ hs, MkOk w Z h) :
    Calls Tryz.prog 11 #[.slice A n c] w fun e w' => (∃ (v : Value) (ks : List MkV), e = .returned v ∧ Cop2 w w' hs n v ks) ∧ Fresh w w' := by
  have HM := Lib.hid (And.intro h ho)
  have hle := h.le
  clear h ho
  go_enter Tryz.func11, Tryz.ntmps11
  go_wp2
  go_loopw [3, 4] (fun out i wr => ∃ (k : Nat) (ks : List MkV), k ≤ n ∧ i = .int .i64 (k : Int) ∧ Hid (Cop2 w wr hs k out ks)) (fun _ i _ => n - (intOf i).toNat)
  case atStart => exact ⟨0, [], Nat.zero_le _, rfl, Lib.hid ⟨w.ownsRow_nil _ _ _, rfl, rfl, (fun h hh => by cases hh), Keep.refl _ _, (fun h hh => by cases hh)⟩⟩
  case round =>
    rename World => wr
    obtain ⟨k, ks, hk, rfl, HW⟩ := hrel
    by_cases hlt : k < n
    · obtain ⟨b, o, rfl, -, hl, hr⟩ := HM.out.1.at1 hlt
      replace hr := rangeAt_keep hr HW.out.fresh trivial
      have hok := HM.out.2 _ (List.getElem_mem hl)
      have hfit := HM.out.1.fit _ (List.getElem_mem hl)
      have hone := HM.out.1.one _ (List.getElem_mem hl)
      obtain ⟨x, hx⟩ : ∃ x, x = hs[k] := ⟨_, rfl⟩
      rw [← hx] at hr hok hfit hone
      obtain ⟨⟨AM, cM, eM, -, nM, rM⟩, ⟨AT, cT, eT, -, nT, rT⟩, ⟨AB, cB, eB, -, nB, rB⟩⟩ := hok
      have HR := Lib.hid (And.intro hr hone)
      have HX := Lib.hid (show ∃ hl : k < hs.length, x = hs[k] from ⟨hl, hx⟩)
      have HL := Lib.hid (show ∀ w', Fresh w w' → Rd w' Z 3 AM x.d.mem.length (rcells MemD.cells x.d.mem) ∧ Rd w' Z 1 AT x.d.tr.length (ics x.d.tr) ∧ Rd w' Z 1 AB x.d.body.length (Lib.byteCells x.d.body) from fun w' h => ⟨rM.keep (h.weaken fun _ _ _ => trivial), rT.keep (h.weaken fun _ _ _ => trivial), rB.keep (h.weaken fun _ _ _ => trivial)⟩)
      have HNl := Lib.hid (And.intro nM (And.intro nT nB))
      have HFt := Lib.hid hfit
      have HE := Lib.hid (And.intro eM (And.intro eT eB))
      clear hr hx hl nM rM nT rT nB rB hfit hone eM eT eB
      go_wp2_with (first | (refine wpList_load_mid rfl 51 _ rfl b (o + k * 26) rfl x.cells _ HR.out.1 Tryz.underlying51 rfl (by kernel_rfl) ?_) | (refine wpList_store_new rfl (.tmp 5) (.tmp 15) rfl _ x.cells.toArray _ rfl rfl rfl (by kernel_rfl) (Array.all_eq_true_iff_forall_mem.2 fun u hu => mk_one HR.out.2 u (by simpa using hu)) ?_))
      intro w1 hb1 hf1 hs1
      have c8 : w1.cell? ⟨wr.heap.size, 8, none⟩ = some (.slice AM x.d.mem.length cM) := (hb1.cell 8).trans (congrArg some HE.out.1)
      have H1 := Lib.hid (And.intro hb1 (And.intro hf1 hs1))
      have f8 := hb1.frozen 8
      clear hb1 hf1
      go_wp2_with (at_builtin; refine wpList_app etMem rfl _ _ rfl wr.heap.size _ 0 [] rfl (World.ownsRow_nil _ _ _ _) Z AM _ cM _ rfl (HL.out _ (HW.out.fresh.trans H1.out.2.1)).1 HNl.out.1 (mem_one _) (by have := HFt.out.m; omega) H1.out.2.1.size ?_)
      intro v1 w2 ho1 hk1 hn1
      try simp only [Nat.zero_add, List.nil_append] at ho1
      obtain ⟨P1, q1, rfl, -, -⟩ := own_rd ho1
      have hwr := HW.out.fresh.size
      have F2 : Fresh wr w2 := H1.out.2.1.comp hk1 (fun _ _ h => h) (fun i hi _ => by simp [Value.ownBlock])
      have b2 : Blk w2 wr.heap.size 51 x.cells.toArray := H1.out.1.keep hk1 (by simp [Value.ownBlock])
      have c8' := (b2.cell 8).trans (congrArg some HE.out.1)
      have c9 : w2.cell? ⟨wr.heap.size, 9, none⟩ = some (.slice AT x.d.tr.length cT) := (b2.cell 9).trans (congrArg some HE.out.2.1)
      have g8 := b2.frozen 8
      have g9 := b2.frozen 9
      have H2 := Lib.hid (And.intro b2 (And.intro (show ∀ u, Fresh wr (w2.setCell ⟨wr.heap.size, 8, none⟩ u) from fun u => F2.setCell (fun h => absurd h (Nat.lt_irrefl _)) u) (And.intro ho1 hn1)))
      clear c8 f8 F2 b2 ho1 hk1 hn1 hs1
      go_wp2_with (at_builtin; refine wpList_app etInt rfl _ _ rfl wr.heap.size _ 0 [] rfl (World.ownsRow_nil _ _ _ _) Z AT _ cT _ rfl (HL.out _ (HW.out.fresh.trans (H2.out.2.1 _))).2.1 HNl.out.2.1 (ics_one _) (by have := HFt.out.t; omega) (H2.out.2.1 _).size ?_)
      intro v2 w3 ho2 hk2 hn2
      try simp only [Nat.zero_add, List.nil_append] at ho2
      obtain ⟨P2, q2, rfl, -, -⟩ := own_rd ho2
      have F3 : Fresh wr w3 := (H2.out.2.1 _).comp hk2 (fun _ _ h => h) (fun i hi _ => by simp [Value.ownBlock])
      have b3 : Blk w3 wr.heap.size 51 (x.cells.toArray.setIfInBounds 8 (.slice P1 x.d.mem.length q1)) := (H2.out.1.set 8 _).keep hk2 (by simp [Value.ownBlock])
      have c9' : w3.cell? ⟨wr.heap.size, 9, none⟩ = some (.slice AT x.d.tr.length cT) := (b3.cell 9).trans (congrArg some HE.out.2.1)
      have c14 : w3.cell? ⟨wr.heap.size, 14, none⟩ = some (.slice AB x.d.body.length cB) := (b3.cell 14).trans (congrArg some HE.out.2.2)
      have g9' := b3.frozen 9
      have g14 := b3.frozen 14
      have o1 := own_keep H2.out.2.2.1 (((Keep.refl (fun i => i ≠ wr.heap.size) w2).setCell (p := ⟨wr.heap.size, 8, none⟩) (fun _ e => e rfl) (.slice P1 x.d.mem.length q1)).comp (Y := fun i => i ≠ wr.heap.size) hk2 (fun _ _ h => h) (fun i _ _ => by simp [Value.ownBlock])) (fun k e1 e2 => own_ne_blk H2.out.2.2.1 H2.out.1 (by decide) (e2 ▸ e1))
      have H3 := Lib.hid (And.intro b3 (And.intro (show ∀ u, Fresh wr (w3.setCell ⟨wr.heap.size, 9, none⟩ u) from fun u => F3.setCell (fun h => absurd h (Nat.lt_irrefl _)) u) (And.intro ho2 (And.intro hn2 o1))))
      clear c8' c9 g8 g9 F3 b3 ho2 hk2 hn2 o1
      go_wp2_with (at_builtin; refine wpList_app etByte rfl _ _ rfl wr.heap.size _ 0 [] rfl (World.ownsRow_nil _ _ _ _) Z AB _ cB _ rfl (HL.out _ (HW.out.fresh.trans (H3.out.2.1 _))).2.2 HNl.out.2.2 (bcs_one _) (by have := HFt.out.b; omega) (H3.out.2.1 _).size ?_)
      intro v3 w4 ho3 hk3 hn3
      try simp only [Nat.zero_add, List.nil_append] at ho3
      obtain ⟨P3, q3, rfl, -, -⟩ := own_rd ho3
      have F4 : Fresh wr w4 := (H3.out.2.1 _).comp hk3 (fun _ _ h => h) (fun i hi _ => by simp [Value.ownBlock])
      have b4 : Blk w4 wr.heap.size 51 ((x.cells.toArray.setIfInBounds 8 (.slice P1 x.d.mem.length q1)).setIfInBounds 9 (.slice P2 x.d.tr.length q2)) := (H3.out.1.set 9 _).keep hk3 (by simp [Value.ownBlock])
      have k4 : Keep (fun i => i ≠ wr.heap.size) w3 w4 := ((Keep.refl (fun i => i ≠ wr.heap.size) w3).setCell (p := ⟨wr.heap.size, 9, none⟩) (fun _ e => e rfl) (.slice P2 x.d.tr.length q2)).comp hk3 (fun _ _ h => h) (fun i _ _ => by simp [Value.ownBlock])
      have o1 := own_keep H3.out.2.2.2.2 k4 (fun k e1 e2 => own_ne_blk H3.out.2.2.2.2 H3.out.1 (by decide) (e2 ▸ e1))
      have o2 := own_keep H3.out.2.2.1 k4 (fun k e1 e2 => own_ne_blk H3.out.2.2.1 H3.out.1 (by decide) (e2 ▸ e1))
      have k5 : Keep (fun i => i ≠ wr.heap.size) w4 (w4.setCell ⟨wr.heap.size, 14, none⟩ (.slice P3 x.d.body.length q3)) := (Keep.refl (fun i => i ≠ wr.heap.size) w4).setCell (fun _ e => e rfl) _
      have hrow : CRow (w4.setCell ⟨wr.heap.size, 14, none⟩ (.slice P3 x.d.body.length q3)) w.heap.size ⟨x.d, .slice P1 x.d.mem.length q1, .slice P2 x.d.tr.length q2, .slice P3 x.d.body.length q3⟩ :=
        ⟨own_base (own_keep o1 k5 (fun k e1 e2 => own_ne_blk o1 b4 (by decide) (e2 ▸ e1))) hwr, own_base (own_keep o2 k5 (fun k e1 e2 => own_ne_blk o2 b4 (by decide) (e2 ▸ e1))) hwr, own_base (own_keep ho3 k5 (fun k e1 e2 => own_ne_blk ho3 b4 (by decide) (e2 ▸ e1))) hwr⟩
      clear k4 k5 o1 o2
      have c14' : w4.cell? ⟨wr.heap.size, 14, none⟩ = some (.slice AB x.d.body.length cB) := (b4.cell 14).trans (congrArg some HE.out.2.2)
      have g14' := b4.frozen 14
      obtain ⟨y, hy⟩ : ∃ y : MkV, y = ⟨x.d, .slice P1 x.d.mem.length q1, .slice P2 x.d.tr.length q2, .slice P3 x.d.body.length q3⟩ := ⟨_, rfl⟩
      have b5 : Blk (w4.setCell ⟨wr.heap.size, 14, none⟩ (.slice P3 x.d.body.length q3)) wr.heap.size 51 y.cells.toArray := hy ▸ b4.set 14 _
      have hy1 : MkOne y := hy ▸ ⟨rfl, rfl, rfl⟩
      have HRow := Lib.hid (hy ▸ hrow : CRow (w4.setCell ⟨wr.heap.size, 14, none⟩ (.slice P3 x.d.body.length q3)) w.heap.size y)
      clear hrow
      have F5 : Fresh wr (w4.setCell ⟨wr.heap.size, 14, none⟩ (.slice P3 x.d.body.length q3)) := F4.setCell (fun h => absurd h (Nat.lt_irrefl _)) _
      have h26 := mk_len y
      have r5 : (w4.setCell ⟨wr.heap.size, 14, none⟩ (.slice P3 x.d.body.length q3)).rangeAt wr.heap.size 0 y.cells := by
        have := b5.range
        rwa [List.toList_toArray] at this
      have H5 := Lib.hid (And.intro r5 (And.intro F5 (And.intro hy1 (And.intro (own_keep HW.out.own F5 (fun _ _ => trivial)) (Nat.le_trans hwr F5.size)))))
      have H6 := Lib.hid (show y.cells.toArray.size = 26 ∧ ∀ u ∈ y.cells.toArray.toList, u.oneCell' = true from ⟨by rw [List.size_toArray]; exact h26, fun u hu => mk_one hy1 u (by simpa using hu)⟩)
      have HY := Lib.hid (show y.d = x.d from hy ▸ rfl)
      clear c9' c14 g9' g14 F4 b4 ho3 hk3 hn3 b5 r5 hy1 F5 hy H1 H2 H3
      go_wp2_with (first | (at_builtin; (rw [fold_zip y.cells]; rotate_left; exact h26.symm; refine wpList_appB etMark rfl (.tmp 28) (.tmp 30) rfl y.cells.toArray 51 H6.out.1 H6.out.2 w.heap.size _ k (mcells ks) w4.heap.size (by simp) rfl rfl H5.out.2.2.2.1 (by omega) H5.out.2.2.2.2 ?_)) | (refine wpList_load_mid rfl 51 _ rfl wr.heap.size 0 rfl y.cells _ H5.out.1 Tryz.underlying51 rfl (by kernel_rfl) ?_))
      intro v6 w6 ho6 hk6 hn6
      have HN := Lib.hid (show Cop2 w w6 hs (k + 1) v6 (ks ++ [y]) by
        obtain ⟨hl, e⟩ := HX.out
        exact HW.out.step hl (by rw [HY.out, e]) H5.out.2.2.1 H5.out.2.1 ho6 hk6 H5.out.2.2.2.1 HRow.out)
      clear ho6 hk6 hn6 H5 c14' g14' HRow
      go_wp2_with fail
      exact ⟨⟨k + 1, _, by omega, congrArg _ (by omega), HN⟩, by simp [intOf]; omega⟩
    · obtain rfl : k = n := by omega
      go_wp2_with fail
      go_ret
      exact ⟨⟨_, ks, rfl, HW.out⟩, HW.out.fresh⟩
end Go.Proofs.YtohnmaindbgngaaGreatDoor
