/-
  WALKS OF walk AND audit.Group: THE VERDICT IS groupG's.
-/
import Derived.Test.YtfpcmleeehciaaaGrpGo
import Derived.Test.YtfpcmleeehciaaaGrpNew
namespace Go.Proofs.Ytfpcmleeehciaaa
set_option linter.unusedVariables false
set_option linter.unusedSimpArgs false
open Go.RowKit Go.Shelf

theorem results_v {P : Program} {fn : Func} {p : Tmp} {ty : TypeId} (h : fn.results = #[.cell p ty]) (tmps : Array Value) (w : World) (g : Nat) (t : TypeId) (cs : Array Value) (d : TypeDesc)
    (hp : tmps.getD p undef = .pointer (some ⟨g, 0, none⟩)) (hg : Blk w g t cs) (hu : P.underlying ty = some d) (hd : (match d with | .struct _ | .array _ _ => true | _ => false) = true) (hi : (P.info? ty).map (·.size) = some cs.size) :
    (results fn tmps).run P w = .ok (.agg cs) w := results_cell_row h tmps w g t cs (0, 0) d hp hg hu hd hi
theorem dsOf_len (hs : List MkV) : (dsOf hs).length = hs.length := by unfold dsOf; simp
theorem dsOf_get {hs : List MkV} {k : Nat} (h : k < hs.length) : (dsOf hs)[k]'(by rw [dsOf_len]; exact h) = hs[k].d := by unfold dsOf; simp
theorem stG_snoc {ms : List MarkD} {k : Nat} (h : k < ms.length) : stG (ms.take (k + 1)) = nextG (stG (ms.take k)) ms[k] := by
  unfold stG
  rw [List.take_succ_eq_append_getElem h, List.foldl_append]
  rfl
theorem findG_drop {s : GrpD} {ms : List MarkD} {k : Nat} (h : k < ms.length) (h0 : ruleG s ms[k] = 0) : findG s k (ms.drop k) = findG (nextG s ms[k]) (k + 1) (ms.drop (k + 1)) := by
  rw [List.drop_eq_getElem_cons h, findG_miss _ _ h0]
theorem findG_stop {s : GrpD} {ms : List MarkD} {k : Nat} (h : k < ms.length) (h0 : ruleG s ms[k] ≠ 0) : findG s k (ms.drop k) = (ruleG s ms[k], (k : Int)) := by
  rw [List.drop_eq_getElem_cons h, findG_hit _ _ h0]
/-- What stands behind k marks that break no rule. -/
structure WalkI (w wr : World) (B : Nat) (bt : Nat) (F : Fix) (ds : List MarkD) (k : Nat) : Prop where
  ex : ∃ T, GM wr B T F (3 * k) (stG (ds.take k)) ∧ T bt = .kept
  bd : BdG (stG (ds.take k)) k
  keep : Keep (fun j => j < B) w wr
  res : Blk wr bt 29 #[.int .i64 0, .int .i64 0]
  eq : groupG ds = findG (stG (ds.take k)) k (ds.drop k)
theorem MkIn.below {w : World} {B : Nat} {x : MkV} (h : MkIn w B x) {w' : World} (hk : Keep (fun j => j < B) w w') : MkIn w' B x := h.keep hk (fun _ h => h)
set_option maxRecDepth 20000 in
set_option maxHeartbeats 4000000 in
theorem walk_any {w : World} {B : Nat} {T : Nat → Tag} {F : Fix} (hG : GM w B T F 0 grp0) (A : Option Addr) (n c : Nat) (hs : List MkV) (hm : Mks w (fun j => j < B) A n hs) (hi : ∀ x ∈ hs, MkIn w B x) :
    Calls Try.prog 16 #[.slice A n c, .func (.func 17) #[.pointer (some ⟨F.g, 0, none⟩)] #[]] w fun e w' => e = .returned (.agg #[.int .i64 (groupG (dsOf hs)).1, .int .i64 (groupG (dsOf hs)).2]) ∧ Keep (fun j => j < B) w w' := by
  obtain ⟨R, hR⟩ : ∃ R, R = groupG (dsOf hs) := ⟨_, rfl⟩
  rw [← hR]
  obtain ⟨ra, rb⟩ := R
  have H := Lib.hid (And.intro hm (And.intro hi hR))
  have hle := hm.le
  have hT : More T (oneT T w.heap.size .kept) := fun j hj => by
    unfold oneT
    rw [if_neg]
    have := (hG.low j hj).2
    omega
  have h0 : Hid (WalkI w (w.alloc (.cells #[.int .i64 0, .int .i64 0] 29)) B w.heap.size F (dsOf hs) 0) := Lib.hid
    ⟨⟨_, hG.more (Z := fun _ => True) ((Keep.refl _ w).alloc _) (fun _ _ => trivial) hT (fun j hj => by
        have hsz : (w.alloc (.cells #[.int .i64 0, .int .i64 0] 29)).heap.size = w.heap.size + 1 := Array.size_push _
        rw [hsz]
        unfold oneT at hj
        split at hj
        · rename_i e
          subst e
          exact ⟨hG.base, by omega⟩
        · have := hG.low j hj
          omega) (Nat.le_refl _), by unfold oneT; rw [if_pos rfl]⟩, bd0, (Keep.refl _ w).alloc _, Blk.new _ _ _, rfl⟩
  have HB := Lib.hid hG.base
  clear hm hi hR hT hG
  go_enter Try.func16, Try.ntmps16
  go_wp2_with fail
  obtain ⟨bt, hbt⟩ : ∃ b, b = w.heap.size := ⟨_, rfl⟩
  have HBt := Lib.hid hbt
  rw [← hbt] at h0 ⊢
  clear hbt
  go_loopw [10] (fun iv wr => ∃ k : Nat, k ≤ n ∧ iv = .int .i64 (k : Int) ∧ Hid (WalkI w wr B bt F (dsOf hs) k)) (fun i _ => n - (intOf i).toNat)
  case atStart => exact ⟨0, Nat.zero_le _, rfl, h0⟩
  case round =>
    rename World => wr
    obtain ⟨k, hk, rfl, HW⟩ := hrel
    by_cases hlt : k < n
    · have hkl : k < hs.length := by rw [H.out.1.len]; exact hlt
      obtain ⟨b, o, rfl, hz, hr⟩ := Rd.range mk_len (H.out.1.rd.keep (HW.out.keep.weaken fun _ _ h => h)) hkl hlt
      obtain ⟨x, hx⟩ : ∃ x, x = hs[k] := ⟨_, rfl⟩
      rw [← hx] at hr
      have hin := (H.out.2.1 x (hx ▸ List.getElem_mem hkl)).below HW.out.keep
      have hone := H.out.1.one x (hx ▸ List.getElem_mem hkl)
      have HX := Lib.hid (show ∃ hl : k < hs.length, x = hs[k] from ⟨hkl, hx⟩)
      have HR := Lib.hid (And.intro hr (And.intro hin hone))
      clear hr hx hz hkl hin hone
      go_wp2_with (first | (refine wpList_load_mid rfl 50 _ rfl b (o + k * 26) rfl x.cells _ HR.out.1 Try.underlying50 rfl (by kernel_rfl) ?_) | (refine wpList_store_new rfl (.tmp 6) (.tmp 14) rfl _ x.cells.toArray _ rfl rfl rfl (by kernel_rfl) (Array.all_eq_true_iff_forall_mem.2 fun u hu => mk_one HR.out.2.2 u (by simpa using hu)) ?_))
      intro w1 hb1 hf1 hs1
      obtain ⟨c6, hc6⟩ : ∃ b, b = wr.heap.size := ⟨_, rfl⟩
      rw [← hc6] at hb1 ⊢
      have hmb : MkB w1 c6 x := ⟨hb1⟩
      have HRm := Lib.hid hmb.range0
      obtain ⟨T1, hG1, hT1⟩ := HW.out.ex
      have HC := Lib.hid (group_any (hG1.fresh hf1) HW.out.bd (by omega) (by omega) x (HR.out.2.1.below (hf1.weaken fun _ _ _ => trivial)))
      have H1 := Lib.hid (And.intro hf1 (And.intro hG1 hT1))
      have lm := hmb.blk.lt
      clear hb1 hf1 hs1 hc6 hmb hG1 hT1
      go_wp2_with (refine wpList_load_mid rfl 50 _ rfl c6 0 rfl x.cells _ HRm.out Try.underlying50 rfl (by kernel_rfl) ?_)
      refine Calls.mono HC.out ?_
      rintro e w2 ⟨rfl, hs2⟩
      have hkd : k < (dsOf hs).length := by rw [dsOf_len, H.out.1.len]; exact hlt
      have hxd : x.d = (dsOf hs)[k] := by
        obtain ⟨hl, hx⟩ := HX.out
        rw [hx, dsOf_get hl]
      rw [hxd] at hs2 ⊢
      obtain ⟨md, hmd⟩ : ∃ md, md = (dsOf hs)[k] := ⟨_, rfl⟩
      rw [← hmd] at hs2 ⊢
      obtain ⟨q, hq⟩ : ∃ q, q = ruleG (stG ((dsOf hs).take k)) md := ⟨_, rfl⟩
      rw [← hq] at hs2 ⊢
      have hb1 : Blk w1 bt 29 #[.int .i64 0, .int .i64 0] := HW.out.res.keep H1.out.1 trivial
      have hb2 := hb1.keep hs2.1 (.inr H1.out.2.2)
      have hkp : Keep (fun j => j < B) w w2 := (HW.out.keep.trans (H1.out.1.weaken fun _ _ _ => trivial)).trans (hs2.1.weaken fun _ _ h => .inl h)
      have b0 := hb2.cell 0; have b1 := hb2.cell 1; have f0 := hb2.frozen 0; have f1 := hb2.frozen 1; have lb := hb2.lt
      simp at b0 b1
      have H2 := Lib.hid (And.intro hs2.2 (And.intro hb2 hkp))
      have HQ := Lib.hid (show ∃ hkd : k < (dsOf hs).length, md = (dsOf hs)[k] ∧ q = ruleG (stG ((dsOf hs).take k)) md from ⟨hkd, hmd, hq⟩)
      clear hq hmd
      clear hs2 hb1 hb2 hkp hxd hkd HC HRm lm
      by_cases hz : q = 0
      · subst hz
        clear b0 b1 f0 f1 lb
        go_wp2_with fail
        refine ⟨⟨k + 1, by omega, by simp, Lib.hid ?_⟩, by simp [intOf]; omega⟩
        obtain ⟨T2, hT2, hG2⟩ := H2.out.1 (by trivial)
        obtain ⟨hkd, rfl, h0⟩ := HQ.out
        have h0 := h0.symm
        refine ⟨⟨T2, ?_, hT2.at H1.out.2.2 (by simp)⟩, ?_, H2.out.2.2, H2.out.2.1, ?_⟩
        · rw [stG_snoc hkd]
          exact hG2.mono (by omega)
        · rw [stG_snoc hkd]
          exact HW.out.bd.next
        · rw [HW.out.eq, findG_drop hkd h0, stG_snoc hkd]
      · have hzb : (q != 0) = true := by simpa using hz
        have hzb2 : (q == 0) = false := by simpa using hz
        have e : ((ra, rb) : Int × Int) = (q, (k : Int)) := by
          obtain ⟨hkd, rfl, h0⟩ := HQ.out
          rw [H.out.2.2, HW.out.eq, findG_stop hkd (by rw [← h0]; exact hz), ← h0]
        obtain ⟨rfl, rfl⟩ := Prod.mk.inj e
        clear hz e
        go_wp2_with fail
        refine bodyPost_ret (results_v rfl _ _ bt 29 #[.int .i64 ra, .int .i64 (k : Int)] _ rfl ((H2.out.2.1.set 0 _).set 1 _) Try.underlying29 rfl (by kernel_rfl)) rfl ?_
        refine ⟨rfl, (H2.out.2.2.setCell (fun h => ?_) _).setCell (fun h => ?_) _⟩
        · have := HBt.out; have h' : bt < w.heap.size := h; omega
        · have := HBt.out; have h' : bt < w.heap.size := h; omega
    · obtain rfl : k = n := by omega
      have e : (ra, rb) = ((0, 0) : Int × Int) := by
        rw [H.out.2.2, HW.out.eq, List.drop_of_length_le (by rw [dsOf_len, H.out.1.len]; exact Nat.le_refl _)]
        rfl
      obtain ⟨rfl, rfl⟩ := Prod.mk.inj e
      have hb := HW.out.res
      have b0 := hb.cell 0; have b1 := hb.cell 1; have f0 := hb.frozen 0; have f1 := hb.frozen 1; have lb := hb.lt
      simp at b0 b1
      have HRes := Lib.hid hb
      clear hb
      go_wp2_with fail
      refine bodyPost_ret (results_v rfl _ _ bt 29 #[.int .i64 0, .int .i64 0] _ rfl ((HRes.out.set 0 _).set 1 _) Try.underlying29 rfl (by kernel_rfl)) rfl ?_
      refine ⟨rfl, (HW.out.keep.setCell (fun h => ?_) _).setCell (fun h => ?_) _⟩
      · have := HBt.out; have h' : bt < w.heap.size := h; omega
      · have := HBt.out; have h' : bt < w.heap.size := h; omega
theorem Rd.existing {w : World} {Z : Nat → Prop} {size n : Nat} {A : Option Addr} {xs : List Value} (h : Rd w Z size A n xs) (hs : 0 < size) : Rd w (fun j => j < w.heap.size) size A n xs := by
  refine ⟨h.1, fun hn => ?_⟩
  obtain ⟨b, o, e, hz, hc⟩ := h.2 hn
  refine ⟨b, o, e, ?_, hc⟩
  have hl : 0 < xs.length := by rw [h.1]; exact Nat.mul_pos hn hs
  exact lt_of_cell (hc 0 _ (List.getElem?_eq_getElem hl))
/-- The contract of audit.Group: marks that read, with lists that read. -/
theorem MkOk.existing {w : World} {x : MkV} (h : MkOk w (fun _ => True) x) : MkOk w (fun j => j < w.heap.size) x := by
  have key : ∀ {s n : Nat} {v : Value} {xs : List Value}, 0 < s → SlOk w (fun _ => True) s n v xs → SlOk w (fun j => j < w.heap.size) s n v xs := fun hs h => by
    obtain ⟨A, c, e, h1, h2, h3⟩ := h
    exact ⟨A, c, e, h1, h2, h3.existing hs⟩
  exact ⟨key (by decide) h.m, key (by decide) h.t, key (by decide) h.b⟩
set_option maxRecDepth 20000 in
theorem verdict_any (w : World) (A : Option Addr) (n c : Nat) (hs : List MkV) (hm : Mks w (fun _ => True) A n hs) (hok : ∀ x ∈ hs, MkOk w (fun _ => True) x) (hi : ∀ x ∈ hs, MkInt x.d) :
    Calls Try.prog 7 #[.slice A n c] w fun e w' => e = .returned (.agg #[.int .i64 (groupG (dsOf hs)).1, .int .i64 (groupG (dsOf hs)).2]) ∧ Fresh w w' := by
  obtain ⟨ra, hra⟩ : ∃ r, r = (groupG (dsOf hs)).1 := ⟨_, rfl⟩
  obtain ⟨rb, hrb⟩ : ∃ r, r = (groupG (dsOf hs)).2 := ⟨_, rfl⟩
  rw [← hra, ← hrb]
  have hf1 : Fresh w (w.alloc (.cells #[.int .i64 0, .int .i64 0] 29)) := (Keep.refl _ w).alloc _
  have hsz : (w.alloc (.cells #[.int .i64 0, .int .i64 0] 29)).heap.size = w.heap.size + 1 := Array.size_push _
  have H : Hid (Mks (w.alloc (.cells #[.int .i64 0, .int .i64 0] 29)) (fun j => j < w.heap.size + 1) A n hs ∧ (∀ x ∈ hs, MkIn (w.alloc (.cells #[.int .i64 0, .int .i64 0] 29)) (w.heap.size + 1) x) ∧ ra = (groupG (dsOf hs)).1 ∧ rb = (groupG (dsOf hs)).2) := Lib.hid
    ⟨⟨hm.len, by rw [← hsz]; exact (hm.rd.keep hf1).existing (by decide), hm.le, hm.fit, hm.one⟩, fun x hx => ⟨hi x hx, by rw [← hsz]; exact ((hok x hx).keep hf1).existing, (hm.fit x hx).m, (hm.fit x hx).t, (hm.fit x hx).b⟩, hra, hrb⟩
  have HN := Lib.hid (newseen_any (w.alloc (.cells #[.int .i64 0, .int .i64 0] 29)))
  rw [hsz] at HN
  have HB := Lib.hid (Blk.new w 29 #[.int .i64 0, .int .i64 0])
  have HF := Lib.hid hf1
  clear hm hok hi hra hrb hf1 hsz
  go_enter Try.func7, Try.ntmps7
  go_wp2_with fail
  refine Calls.mono HN.out ?_
  rintro e w2 ⟨⟨F, T, rfl, hG⟩, hf2⟩
  have HW := Lib.hid (walk_any hG A n c hs ⟨H.out.1.len, H.out.1.rd.keep (hf2.weaken fun _ _ _ => trivial), H.out.1.le, H.out.1.fit, H.out.1.one⟩ (fun x hx => (H.out.2.1 x hx).keep (Z := fun _ => True) hf2 (fun _ _ => trivial)))
  have H2 := Lib.hid (And.intro (HB.out.keep hf2 trivial) hf2)
  clear hG hf2 HN
  obtain ⟨bt, hbt⟩ : ∃ b, b = w.heap.size := ⟨_, rfl⟩
  rw [← H.out.2.2.1, ← H.out.2.2.2] at HW
  go_wp2_with fail
  refine Calls.mono HW.out ?_
  rintro e w3 ⟨rfl, hk3⟩
  have hb3 := H2.out.1.keep hk3 (by omega)
  have b0 := hb3.cell 0; have b1 := hb3.cell 1; have f0 := hb3.frozen 0; have f1 := hb3.frozen 1; have lb := hb3.lt
  simp at b0 b1
  have H3 := Lib.hid (And.intro hb3 hk3)
  clear hb3 hk3 HW
  go_wp2_with fail
  refine bodyPost_ret (results_v rfl _ _ w.heap.size 29 #[.int .i64 ra, .int .i64 rb] _ rfl ((H3.out.1.set 0 _).set 1 _) Try.underlying29 rfl (by kernel_rfl)) rfl ?_
  refine ⟨rfl, ?_⟩
  have h1 : Fresh w w3 := (HF.out.trans H2.out.2).comp H3.out.2 (fun _ _ h => h) (fun j hj _ => by omega)
  exact (h1.setCell (fun h => absurd h (Nat.lt_irrefl _)) _).setCell (fun h => absurd h (Nat.lt_irrefl _)) _
end Go.Proofs.Ytfpcmleeehciaaa
