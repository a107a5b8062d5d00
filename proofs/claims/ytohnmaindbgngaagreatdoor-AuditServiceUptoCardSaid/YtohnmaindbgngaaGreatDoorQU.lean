/-
  MERGED: GrpF SrvH
-/
import Derived.Test.YtohnmaindbgngaaGreatDoorQD
import Derived.Test.YtohnmaindbgngaaGreatDoorQ1
import Derived.Shelf.Abstract
import Derived.Test.YtohnmaindbgngaaGreatDoorQT
namespace Go.Proofs.YtohnmaindbgngaaGreatDoor
set_option linter.unusedVariables false
set_option linter.unusedSimpArgs false
open Go.RowKit Go.Shelf

theorem int_info0 : (Tryz.prog.info? 3).map (fun i => (i.zero, i.size, i.bytes)) = some (some (.int .i64 0), 1, 8) := by kernel_rfl
/-- What is asked of a predicate: in every later world, at each of these, it answers p; it may make memory. -/
def PredF {α : Type} (F : Nat) (cap : Array Value) (enc : α → Value) (p : α → Bool) (xs : List α) (w : World) : Prop :=
  ∀ W x, x ∈ xs → Fresh w W → Calls Tryz.prog F (#[enc x] ++ cap) W fun e w' => e = .returned (.bool (p x)) ∧ Fresh W w'
def memA (x : MemD) : Value := .agg #[.int .i64 x.p, .int .i64 x.i, .int .i64 x.c]
theorem all_snoc {α : Type} {p : α → Bool} {xs : List α} {k : Nat} (h : ∀ (j : Nat) (hj : j < xs.length), j < k → p xs[j] = true) (hk : k < xs.length) (hp : p xs[k] = true) : ∀ (j : Nat) (hj : j < xs.length), j < k + 1 → p xs[j] = true := by
  intro j hj hk1
  rcases Nat.lt_succ_iff_lt_or_eq.1 hk1 with h1 | h1
  · exact h j hj h1
  · subst h1; exact hp
theorem all_of {α : Type} {p : α → Bool} {xs : List α} (h : ∀ (j : Nat) (hj : j < xs.length), j < xs.length → p xs[j] = true) : xs.all p = true := by
  rw [List.all_eq_true]
  intro x hx
  obtain ⟨i, hi, rfl⟩ := List.mem_iff_getElem.1 hx
  exact h i hi hi
theorem all_not {α : Type} {p : α → Bool} {xs : List α} {k : Nat} (hk : k < xs.length) (h : p xs[k] = false) : xs.all p = false := by
  rw [List.all_eq_false]
  exact ⟨xs[k], List.getElem_mem hk, by rw [h]; decide⟩

/-- An install with the header of its list. -/
structure EntV where
  d : EntD
  A : Option Addr
  c : Nat
def EntV.vals (x : EntV) : Array Value := #[.int .i64 x.d.w.1, .int .i64 x.d.w.2, .int .i64 x.d.frm.1, .int .i64 x.d.frm.2.1, .int .i64 x.d.frm.2.2.1, .int .i64 x.d.frm.2.2.2, .slice x.A x.d.tr.length x.c, .int .i64 (x.d.done : Int)]
def EntV.cells (x : EntV) : List Value := x.vals.toList
theorem ent_eight (x : EntV) : x.cells.length = 8 := rfl
def entA (x : EntV) : Value := .agg #[.int .i64 x.d.w.1, .int .i64 x.d.w.2, .int .i64 x.d.frm.1, .int .i64 x.d.frm.2.1, .int .i64 x.d.frm.2.2.1, .int .i64 x.d.frm.2.2.2, .slice x.A x.d.tr.length x.c, .int .i64 (x.d.done : Int)]
def intA (z : Int) : Value := .int .i64 z
/-- Where a predicate holds first, or -1. -/
def idxZ {α : Type} (p : α → Bool) (xs : List α) : Int := if xs.findIdx p < xs.length then (xs.findIdx p : Int) else -1
theorem idx_hit {α : Type} {p : α → Bool} {xs : List α} {k : Nat} (h : ∀ (j : Nat) (hj : j < xs.length), j < k → p xs[j] = false) (hk : k < xs.length) (hp : p xs[k] = true) : idxZ p xs = (k : Int) := by
  have e : xs.findIdx p = k := (List.findIdx_eq hk).2 ⟨hp, fun j hj => h j (by omega) hj⟩
  unfold idxZ
  rw [e, if_pos hk]
theorem idx_miss {α : Type} {p : α → Bool} {xs : List α} (h : ∀ (j : Nat) (hj : j < xs.length), j < xs.length → p xs[j] = false) : idxZ p xs = -1 := by
  unfold idxZ
  rw [if_neg]
  intro hlt
  have h1 := List.findIdx_getElem (w := hlt)
  rw [h _ hlt hlt] at h1
  cases h1
theorem none_snoc {α : Type} {p : α → Bool} {xs : List α} {k : Nat} (h : ∀ (j : Nat) (hj : j < xs.length), j < k → p xs[j] = false) (hk : k < xs.length) (hp : p xs[k] = false) : ∀ (j : Nat) (hj : j < xs.length), j < k + 1 → p xs[j] = false := by
  intro j hj hk1
  rcases Nat.lt_succ_iff_lt_or_eq.1 hk1 with h1 | h1
  · exact h j hj h1
  · subst h1; exact hp
theorem idx_any {α : Type} (p : α → Bool) (xs : List α) : decide (0 ≤ idxZ p xs) = xs.any p := by
  unfold idxZ
  by_cases h : xs.findIdx p < xs.length
  · rw [if_pos h, decide_eq_true (by omega)]
    exact (List.any_eq_true.2 ⟨_, List.getElem_mem h, List.findIdx_getElem (w := h)⟩).symm
  · rw [if_neg h, decide_eq_false (by omega)]
    rw [List.findIdx_lt_length] at h
    cases ha : xs.any p
    · rfl
    · exact absurd (by simpa using ha) h

end Go.Proofs.YtohnmaindbgngaaGreatDoor
namespace Go.Proofs.YtohnmaindbgngaaGreatDoor
set_option linter.unusedVariables false
set_option linter.unusedSimpArgs false
open Go.RowKit Go.Shelf Go.BigFrame

theorem results_v2 {P : Program} {fn : Func} {p : Tmp} {ty : TypeId} (h : fn.results = #[.cell p ty]) (tmps : Array Value) (w : World) (g : Nat) (t : TypeId) (cs : Array Value) (d : TypeDesc)
    (hp : tmps.getD p undef = .pointer (some ⟨g, 0, none⟩)) (hg : Blk w g t cs) (hu : P.underlying ty = some d) (hd : (match d with | .struct _ | .array _ _ => true | _ => false) = true) (hi : (P.info? ty).map (·.size) = some cs.size) :
    (results fn tmps).run P w = .ok (.agg cs) w := results_cell_row h tmps w g t cs (0, 0) d hp hg hu hd hi
theorem dsOf_len2 (hs : List MkV) : (dsOf hs).length = hs.length := by unfold dsOf; simp
theorem dsOf_get2 {hs : List MkV} {k : Nat} (h : k < hs.length) : (dsOf hs)[k]'(by rw [dsOf_len2]; exact h) = hs[k].d := by unfold dsOf; simp
theorem stS_snoc {vs : List Int} {ms : List MarkD} {k : Nat} (h : k < ms.length) : stS vs (ms.take (k + 1)) = (serveS vs (stS vs (ms.take k)) ms[k]).2 := by
  unfold stS
  rw [List.take_succ_eq_append_getElem h, List.foldl_append]
  rfl
theorem findS_drop {vs : List Int} {s : SrvD} {ms : List MarkD} {k : Nat} (h : k < ms.length) (h0 : (serveS vs s ms[k]).1 = 0) : findS vs s k (ms.drop k) = findS vs (serveS vs s ms[k]).2 (k + 1) (ms.drop (k + 1)) := by
  rw [List.drop_eq_getElem_cons h, findS_miss _ _ h0]
theorem findS_stop {vs : List Int} {s : SrvD} {ms : List MarkD} {k : Nat} (h : k < ms.length) (h0 : (serveS vs s ms[k]).1 ≠ 0) : findS vs s k (ms.drop k) = ((serveS vs s ms[k]).1, (k : Int)) := by
  rw [List.drop_eq_getElem_cons h, findS_hit _ _ h0]
/-- What stands behind k marks that break no rule. -/
structure WalkS (W w wr : World) (bt : Nat) (F : SFix) (vs : List Int) (ds : List MarkD) (k : Nat) : Prop where
  ex : ∃ T, SM W wr T F (3 * k) vs (stS vs (ds.take k)) ∧ T bt = .kept
  bd : BdS (stS vs (ds.take k)) k
  bw : BdW (stS vs (ds.take k))
  keep : Keep (fun j => j < W.heap.size) w wr
  res : Blk wr bt 29 #[.int .i64 0, .int .i64 0]
  eq : servD vs ds = findS vs (stS vs (ds.take k)) k (ds.drop k)
set_option maxRecDepth 20000 in
set_option maxHeartbeats 4000000 in
theorem walkS_any {W w : World} {T : Nat → STag} {F : SFix} {vs : List Int} (hS : SM W w T F 0 vs srv0) (hq : ballotB vs = true) (A : Option Addr) (n c : Nat) (hs : List MkV) (hm : Mks w (fun j => j < W.heap.size) A n hs) (hi : ∀ x ∈ hs, SIn W.heap.size w x) :
    Calls Tryz.prog 18 #[.slice A n c, .func (.func 19) #[.pointer (some ⟨F.g, 0, none⟩)] #[]] w fun e w' => e = .returned (.agg #[.int .i64 (servD vs (dsOf hs)).1, .int .i64 (servD vs (dsOf hs)).2]) ∧ Keep (fun j => j < W.heap.size) w w' := by
  obtain ⟨R, hR⟩ : ∃ R, R = servD vs (dsOf hs) := ⟨_, rfl⟩
  rw [← hR]
  obtain ⟨ra, rb⟩ := R
  have H := Lib.hid (And.intro hm (And.intro hi (And.intro hR hq)))
  have hle := hm.le
  have hsz : (w.alloc (.cells #[.int .i64 0, .int .i64 0] 29)).heap.size = w.heap.size + 1 := Array.size_push _
  have hone := hS.one (w' := w.alloc (.cells #[.int .i64 0, .int .i64 0] 29)) (by omega) .kept
  have h0 : Hid (WalkS W w (w.alloc (.cells #[.int .i64 0, .int .i64 0] 29)) w.heap.size F vs (dsOf hs) 0) := Lib.hid
    ⟨⟨_, hS.more ((Keep.refl (fun _ => True) w).alloc _) (fun _ _ => trivial) (fun _ _ => trivial) hone.1 hone.2 (Nat.le_refl _), by unfold soneT; rw [if_pos rfl]⟩, bds0, bdw0, (Keep.refl _ w).alloc _, Blk.new _ _ _, rfl⟩
  have HB := Lib.hid hS.base
  clear hm hi hR hS hq hsz hone
  go_enter Tryz.func18, Tryz.ntmps18
  go_wp2_with fail
  obtain ⟨bt, hbt⟩ : ∃ b, b = w.heap.size := ⟨_, rfl⟩
  have HBt := Lib.hid hbt
  rw [← hbt] at h0 ⊢
  clear hbt
  go_loopw [10] (fun iv wr => ∃ k : Nat, k ≤ n ∧ iv = .int .i64 (k : Int) ∧ Hid (WalkS W w wr bt F vs (dsOf hs) k)) (fun i _ => n - (intOf i).toNat)
  case atStart => exact ⟨0, Nat.zero_le _, rfl, h0⟩
  case round =>
    rename World => wr
    obtain ⟨k, hk, rfl, HW⟩ := hrel
    by_cases hlt : k < n
    · have hkl : k < hs.length := by rw [H.out.1.len]; exact hlt
      obtain ⟨b, o, rfl, hz, hr⟩ := Rd.range mk_len (H.out.1.rd.keep (HW.out.keep.weaken fun _ _ h => h)) hkl hlt
      obtain ⟨x, hx⟩ : ∃ x, x = hs[k] := ⟨_, rfl⟩
      rw [← hx] at hr
      have hin := (H.out.2.1 x (hx ▸ List.getElem_mem hkl)).keep HW.out.keep (fun _ h => h)
      have HX := Lib.hid (show ∃ hl : k < hs.length, x = hs[k] from ⟨hkl, hx⟩)
      have HR := Lib.hid (And.intro hr hin)
      clear hr hx hz hkl hin
      go_wp2_with (first | (refine wpList_load_mid rfl 51 _ rfl b (o + k * 26) rfl x.cells _ HR.out.1 Tryz.underlying51 rfl (by kernel_rfl) ?_) | (refine wpList_store_new rfl (.tmp 6) (.tmp 14) rfl _ x.cells.toArray _ rfl rfl rfl (by kernel_rfl) (Array.all_eq_true_iff_forall_mem.2 fun u hu => mk_one HR.out.2.one u (by simpa using hu)) ?_))
      intro w1 hb1 hf1 hs1
      obtain ⟨c6, hc6⟩ : ∃ b, b = wr.heap.size := ⟨_, rfl⟩
      rw [← hc6] at hb1 ⊢
      have hmb : MkB w1 c6 x := ⟨hb1⟩
      have HRm := Lib.hid hmb.range00
      obtain ⟨T1, hS1, hT1⟩ := HW.out.ex
      have HC := Lib.hid (service_any (hS1.then hf1) HW.out.bd HW.out.bw H.out.2.2.2 (by omega) (by omega) x (HR.out.2.keep hf1 (fun _ _ => trivial)))
      have H1 := Lib.hid (And.intro hf1 (And.intro hS1 hT1))
      have lm := hmb.blk.lt
      clear hb1 hf1 hs1 hc6 hmb hS1 hT1
      go_wp2_with (refine wpList_load_mid rfl 51 _ rfl c6 0 rfl x.cells _ HRm.out Tryz.underlying51 rfl (by kernel_rfl) ?_)
      refine Calls.mono HC.out ?_
      rintro e w2 ⟨rfl, hs2⟩
      have hkd : k < (dsOf hs).length := by rw [dsOf_len2, H.out.1.len]; exact hlt
      have hxd : x.d = (dsOf hs)[k] := by
        obtain ⟨hl, hx⟩ := HX.out
        rw [hx, dsOf_get2 hl]
      rw [hxd] at hs2 ⊢
      obtain ⟨md, hmd⟩ : ∃ md, md = (dsOf hs)[k] := ⟨_, rfl⟩
      rw [← hmd] at hs2 hxd ⊢
      obtain ⟨X, hX⟩ : ∃ X, X = serveS vs (stS vs ((dsOf hs).take k)) md := ⟨_, rfl⟩
      rw [← hX] at hs2 ⊢
      obtain ⟨q, s2⟩ := X
      simp only at hs2 ⊢
      have hb1 : Blk w1 bt 29 #[.int .i64 0, .int .i64 0] := HW.out.res.keep H1.out.1 trivial
      have hb2 := hb1.keep hs2.keep (.inr H1.out.2.2)
      have hkp : Keep (fun j => j < W.heap.size) w w2 := (HW.out.keep.trans (H1.out.1.weaken fun _ _ _ => trivial)).trans (hs2.keep.weaken fun _ _ h => .inl h)
      have b0 := hb2.cell 0; have b1 := hb2.cell 1; have f0 := hb2.frozen 0; have f1 := hb2.frozen 1; have lb := hb2.lt
      simp at b0 b1
      have H2 := Lib.hid (And.intro hs2.next (And.intro hb2 hkp))
      have HQ := Lib.hid (show ∃ hkd : k < (dsOf hs).length, md = (dsOf hs)[k] ∧ (q, s2) = serveS vs (stS vs ((dsOf hs).take k)) md ∧ MkInt md ∧ I64 md.n from ⟨hkd, hmd, hX, hxd ▸ HR.out.2.ints, hxd ▸ HR.out.2.n⟩)
      clear hX hmd
      clear hs2 hb1 hb2 hkp hxd hkd HC HRm lm
      by_cases hz : q = 0
      · subst hz
        clear b0 b1 f0 f1 lb
        go_wp2_with fail
        refine ⟨⟨k + 1, by omega, by simp, Lib.hid ?_⟩, by simp [intOf]; omega⟩
        obtain ⟨T2, hT2, hS2⟩ := H2.out.1 rfl
        obtain ⟨hkd, rfl, h0, hmi, hni⟩ := HQ.out
        have h1 : (serveS vs (stS vs ((dsOf hs).take k)) (dsOf hs)[k]).1 = 0 := by rw [← h0]
        have h2 : s2 = stS vs ((dsOf hs).take (k + 1)) := by rw [stS_snoc hkd, ← h0]
        refine ⟨⟨T2, ?_, hT2.at H1.out.2.2 (by simp)⟩, ?_, ?_, H2.out.2.2, H2.out.2.1, ?_⟩
        · rw [← h2]
          exact hS2.mono (by omega)
        · rw [stS_snoc hkd]
          exact HW.out.bd.next h1
        · rw [stS_snoc hkd]
          exact HW.out.bw.next hmi hni
        · rw [HW.out.eq, findS_drop hkd h1, stS_snoc hkd]
      · have hzb : (q != 0) = true := by simpa using hz
        have hzb2 : (q == 0) = false := by simpa using hz
        have e : ((ra, rb) : Int × Int) = (q, (k : Int)) := by
          obtain ⟨hkd, rfl, h0, -, -⟩ := HQ.out
          have h1 : (serveS vs (stS vs ((dsOf hs).take k)) (dsOf hs)[k]).1 = q := by rw [← h0]
          rw [H.out.2.2.1, HW.out.eq, findS_stop hkd (by rw [h1]; exact hz), h1]
        obtain ⟨rfl, rfl⟩ := Prod.mk.inj e
        clear hz e
        go_wp2_with fail
        refine bodyPost_ret (results_v2 rfl _ _ bt 29 #[.int .i64 ra, .int .i64 (k : Int)] _ rfl ((H2.out.2.1.set 0 _).set 1 _) Tryz.underlying29 rfl (by kernel_rfl)) rfl ?_
        refine ⟨rfl, (H2.out.2.2.setCell (fun h => ?_) _).setCell (fun h => ?_) _⟩
        · have := HBt.out; have h' : bt < w.heap.size := h; omega
        · have := HBt.out; have h' : bt < w.heap.size := h; omega
    · obtain rfl : k = n := by omega
      have e : (ra, rb) = ((0, 0) : Int × Int) := by
        rw [H.out.2.2.1, HW.out.eq, List.drop_of_length_le (by rw [dsOf_len2, H.out.1.len]; exact Nat.le_refl _)]
        rfl
      obtain ⟨rfl, rfl⟩ := Prod.mk.inj e
      have hb := HW.out.res
      have b0 := hb.cell 0; have b1 := hb.cell 1; have f0 := hb.frozen 0; have f1 := hb.frozen 1; have lb := hb.lt
      simp at b0 b1
      have HRes := Lib.hid hb
      clear hb
      go_wp2_with fail
      refine bodyPost_ret (results_v2 rfl _ _ bt 29 #[.int .i64 0, .int .i64 0] _ rfl ((HRes.out.set 0 _).set 1 _) Tryz.underlying29 rfl (by kernel_rfl)) rfl ?_
      refine ⟨rfl, (HW.out.keep.setCell (fun h => ?_) _).setCell (fun h => ?_) _⟩
      · have := HBt.out; have h' : bt < w.heap.size := h; omega
      · have := HBt.out; have h' : bt < w.heap.size := h; omega
/-! ### every -/
set_option maxRecDepth 20000 in
set_option maxHeartbeats 1000000 in
theorem every_mark {F : Nat} (eg : Enters Tryz.prog F) {cap : Array Value} (p : MkV → Bool) (Z : Nat → Prop) (A : Option Addr) (n c : Nat) (xs : List MkV) (w : World) (h : Rd w Z 26 A n (mcells xs)) (hl : xs.length = n) (hn : n ≤ 1048576) (ho : ∀ x ∈ xs, MkOne x)
    (hp : PredF F cap (fun x : MkV => .agg x.cells.toArray) p xs w) :
    Calls Tryz.prog 16 #[.slice A n c, .func (.func F) #[] cap] w fun e w' => e = .returned (.bool (xs.all p)) ∧ Fresh w w' := by
  have H := Lib.hid (And.intro h (And.intro hp (And.intro hl ho)))
  have eg' : ∀ args w, (callFunc F args).run Tryz.prog w = .ok (.enter F args) w := eg
  clear h hp hl ho
  go_enter Tryz.func16, Tryz.ntmps16
  go_wp2
  go_loopw [9] (fun i wr => ∃ k : Nat, k ≤ n ∧ i = .int .i64 (k : Int) ∧ Hid (Fresh w wr ∧ ∀ (j : Nat) (hj : j < xs.length), j < k → p xs[j] = true)) (fun i _ => n - (intOf i).toNat)
  case atStart => exact ⟨0, Nat.zero_le _, rfl, Lib.hid ⟨Keep.refl _ _, fun j _ h => absurd h (Nat.not_lt_zero j)⟩⟩
  case round =>
    rename World => wr
    obtain ⟨k, hk, rfl, HW⟩ := hrel
    by_cases hlt : k < n
    · have hkl : k < xs.length := by rw [H.out.2.2.1]; exact hlt
      obtain ⟨b, o, rfl, hz, hr⟩ := Rd.range mk_len (H.out.1.keep (HW.out.1.weaken fun _ _ _ => trivial)) hkl hlt
      obtain ⟨x, hx⟩ : ∃ x, x = xs[k] := ⟨_, rfl⟩
      rw [← hx] at hr
      have HO := Lib.hid (H.out.2.2.2 x (hx ▸ List.getElem_mem hkl))
      have HP := Lib.hid (fun W (hf : Fresh wr W) => H.out.2.1 W x (hx ▸ List.getElem_mem hkl) (HW.out.1.trans hf))
      have HX := Lib.hid (show ∃ hl : k < xs.length, x = xs[k] from ⟨hkl, hx⟩)
      have HR := Lib.hid hr
      clear hr hx hz hkl
      go_wp2_with (first | (refine wpList_load_mid rfl 51 _ rfl b (o + k * 26) rfl x.cells _ HR.out Tryz.underlying51 rfl (by kernel_rfl) ?_) | (refine wpList_store_new rfl (.tmp 6) (.tmp 12) rfl _ x.cells.toArray _ rfl rfl rfl (by kernel_rfl) (Array.all_eq_true_iff_forall_mem.2 fun u hu => mk_one HO.out u (by simpa using hu)) ?_))
      intro w1 hb1 hf1 hs1
      obtain ⟨c6, hc6⟩ : ∃ b, b = wr.heap.size := ⟨_, rfl⟩
      rw [← hc6] at hb1 ⊢
      have hmb : MkB w1 c6 x := ⟨hb1⟩
      have HRm := Lib.hid hmb.range00
      have lm := hmb.blk.lt
      have HF1 := Lib.hid hf1
      clear hb1 hf1 hs1 hc6 hmb
      go_wp2_with (refine wpList_load_mid rfl 51 _ rfl c6 0 rfl x.cells _ HRm.out Tryz.underlying51 rfl (by kernel_rfl) ?_)
      refine Calls.mono (HP.out _ HF1.out) ?_
      rintro e w2 ⟨rfl, hf2⟩
      have H1 := Lib.hid (HF1.out.trans hf2)
      obtain ⟨q, hq⟩ : ∃ q, q = p x := ⟨_, rfl⟩
      rw [← hq]
      have HQ := Lib.hid hq
      clear hf2 HP hq HRm lm
      cases q
      · go_wp2_with fail
        go_ret
        obtain ⟨hl, hx⟩ := HX.out
        exact ⟨ret_bool (all_not hl (by rw [← hx]; exact HQ.out.symm)).symm, HW.out.1.trans H1.out⟩
      · go_wp2_with fail
        refine ⟨⟨k + 1, by omega, by simp, Lib.hid ⟨HW.out.1.trans H1.out, ?_⟩⟩, by simp [intOf]; omega⟩
        obtain ⟨hl, hx⟩ := HX.out
        exact all_snoc HW.out.2 hl (by rw [← hx]; exact HQ.out.symm)
    · obtain rfl : k = n := by omega
      go_wp2_with fail
      go_ret
      exact ⟨ret_bool (all_of (fun j hj _ => HW.out.2 j hj (by rw [← H.out.2.2.1]; exact hj))).symm, HW.out.1⟩
/-- Whether a mark's node votes. -/
def nodeB (n : Nat) (x : MkV) : Bool := decide (0 ≤ x.d.node) && decide (x.d.node < (n : Int))
set_option maxRecDepth 20000 in
theorem node_any (bv : Nat) (A : Option Addr) (n c : Nat) (x : MkV) (w : World) (h : Blk w bv 23 #[.slice A n c]) :
    Calls Tryz.prog 17 #[.agg x.cells.toArray, .pointer (some ⟨bv, 0, none⟩)] w fun e w' => e = .returned (.bool (nodeB n x)) ∧ Fresh w w' := by
  obtain ⟨w1, hw1⟩ : ∃ w1, w1 = w.alloc (.cells x.cells.toArray 51) := ⟨_, rfl⟩
  obtain ⟨bm, hbm⟩ : ∃ b, b = w.heap.size := ⟨_, rfl⟩
  have hf1 : Fresh w w1 := hw1 ▸ (Keep.refl _ w).alloc _
  have hmb : MkB w1 bm x := by rw [hw1, hbm]; exact MkB.new w x
  have hv1 := h.keep hf1 trivial
  have c2 := hmb.node; have tm := hmb.blk.lt
  have v0 := hv1.cell 0; have tv := hv1.lt
  simp at v0
  obtain ⟨z, hz⟩ : ∃ z, z = x.d.node := ⟨_, rfl⟩
  rw [← hz] at c2
  obtain ⟨R, hR⟩ : ∃ R, R = nodeB n x := ⟨_, rfl⟩
  rw [← hR]
  have HR : Hid (R = (decide (0 ≤ z) && decide (z < (n : Int)))) := Lib.hid (by rw [hR, hz]; rfl)
  have HF := Lib.hid hf1
  clear h hf1 hmb hv1 hz hR
  go_enter Tryz.func17, Tryz.ntmps17
  go_upto_region 1 with (fail)
  rw [← hbm, ← hw1]
  clear hbm hw1
  by_cases q1 : 0 ≤ z
  · have d1 : decide (0 ≤ z) = true := decide_eq_true q1
    by_cases q2 : z < (n : Int)
    · have d2 : decide (z < (n : Int)) = true := decide_eq_true q2
      obtain rfl : R = true := by rw [HR.out, d1, d2]; rfl
      clear q1 q2
      go_wp2_with fail
      go_ret
      exact ⟨rfl, HF.out⟩
    · have d2 : decide (z < (n : Int)) = false := decide_eq_false q2
      obtain rfl : R = false := by rw [HR.out, d1, d2]; rfl
      clear q1 q2
      go_wp2_with fail
      go_ret
      exact ⟨rfl, HF.out⟩
  · have d1 : decide (0 ≤ z) = false := decide_eq_false q1
    obtain rfl : R = false := by rw [HR.out, d1]; rfl
    clear q1
    go_wp2_with fail
    go_ret
    exact ⟨rfl, HF.out⟩
end Go.Proofs.YtohnmaindbgngaaGreatDoor
