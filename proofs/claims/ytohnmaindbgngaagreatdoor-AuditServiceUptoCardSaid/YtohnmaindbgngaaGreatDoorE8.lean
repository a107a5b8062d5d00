/-
  MERGED: RSvE
-/
import Derived.Test.YtohnmaindbgngaaGreatDoorE5
import Derived.Test.YtohnmaindbgngaaGreatDoorE7
import Derived.Test.YtohnmaindbgngaaGreatDoorQT
import Derived.Test.YtohnmaindbgngaaGreatDoorQV
namespace Go.Proofs.YtohnmaindbgngaaGreatDoor
set_option linter.unusedVariables false
set_option linter.unusedSimpArgs false
open Go.RowKit Go.Shelf

theorem radopt_eq (vs : List Int) (p : RPart) (m : MarkD) : radopt vs p m = (!p.viewed || (decide (m.id ≠ p.id) || (!quorB vs (p.mem.map MemD.p) || (p.adopted || (decide (m.pos < 0) || decide (m.n < m.pos)))))) := by
  unfold radopt
  simp only [Bool.or_assoc]
theorem mark_id (m : MarkD) : m.id = (m.e1, m.e2, m.e3, m.e4) := rfl
set_option maxRecDepth 20000 in
set_option maxHeartbeats 4000000 in
theorem serves_any (A : Option Addr) (m c : Nat) (hs : List MkV) (x : MkV) (w : World) (hT : Tabs w) (h : Mks w (fun _ => True) A (m + 1) (hs ++ [x])) (hok : ∀ y ∈ hs ++ [x], MkOk w (fun _ => True) y) (hnc : m + 1 ≤ c)
    (Av : Option Addr) (nv cv : Nat) (vs : List Int) (hv : Rd w (fun _ => True) 1 Av nv (ics vs)) (hlv : vs.length = nv) (hnv : nv ≤ 1048576) (hb : ballotB vs = true) :
    Calls Tryz.prog 21 #[.slice A (m + 1) c, .slice Av nv cv] w fun e w' => e = .returned (.int .i64 (rserves vs (dsOf hs) x.d)) ∧ Fresh w w' := by
  have HM := Lib.hid (And.intro h (And.intro h.pre (And.intro hok (show ∀ y ∈ hs, MkOk w (fun _ => True) y from fun y hy => hok y (List.mem_append_left _ hy)))))
  have HT := Lib.hid hT
  have HVo := Lib.hid (And.intro hv (And.intro hlv (And.intro hnv hb)))
  have hle := h.le
  have hlen : hs.length = m := h.pre.len
  obtain ⟨l, hl⟩ : ∃ l, l = dsOf hs := ⟨_, rfl⟩
  obtain ⟨R, hR⟩ : ∃ R, R = rserves vs l x.d := ⟨_, rfl⟩
  rw [← hl, ← hR]
  have HR := Lib.hid hR
  obtain ⟨b, o, y, hA, hyy, hry⟩ := h.ints (k := m) (by omega)
  have hyx := last_mark hlen hyy
  rw [hyx] at hry
  subst hA
  have HRy := Lib.hid hry
  have HOne := Lib.hid (h.one x (by simp))
  have hmi : (m : Int) < ((m + 1 : Nat) : Int) := by omega
  have HLen := Lib.hid (And.intro hlen hl)
  clear h hok hT hR hyy hyx hry hlen hl y hv hlv hnv hb
  go_enter Tryz.func21, Tryz.ntmps21
  go_wp2_with (first | (refine wpList_load_mid rfl 51 _ rfl b (o + m * 26) rfl x.cells _ HRy.out Tryz.underlying51 rfl (by kernel_rfl) ?_) | (refine wpList_store_new rfl (.tmp 5) (.tmp 16) rfl _ x.cells.toArray _ rfl rfl rfl (by kernel_rfl) (Array.all_eq_true_iff_forall_mem.2 fun u hu => mk_one HOne.out u (by simpa using hu)) ?_))
  intro w1 hb1 hf1 hs1
  obtain ⟨c5, hc5⟩ : ∃ b, b = w.heap.size := ⟨_, rfl⟩
  rw [← hc5] at hb1 ⊢
  have H1 := Lib.hid (And.intro (MkB.mk hb1 : MkB w1 c5 x) hf1)
  have m1 := H1.out.1.kind; have lm := H1.out.1.blk.lt
  obtain ⟨zk, hzk⟩ : ∃ z, z = x.d.kind := ⟨_, rfl⟩
  rw [← hzk] at m1
  have HK : Hid (R = if zk = 10 then (if radopt vs (rpartD (x.d.node, x.d.inc) l) x.d then 21 else if rlost l x.d.e1 x.d.n then 26 else 0)
      else if zk = 11 then (if rtakes (rpartD x.d.who l) x.d then 0 else 22)
      else if zk = 12 then rapplies l x.d
      else if zk = 13 then rreplies l x.d
      else 0) := Lib.hid (by
    rw [HR.out, hzk]
    rfl)
  have HRm := Lib.hid H1.out.1.range00
  clear hb1 hf1 hs1 hc5 hzk HR
  by_cases k10 : zk = 10
  · subst k10
    have HP := Lib.hid (rpart_any (some ⟨b, o, none⟩) m c hs x.d.node x.d.inc w1 (HM.out.2.1.keep H1.out.2) (fun y hy => (HM.out.2.2.2 y hy).keep H1.out.2))
    rw [← HLen.out.2] at HP
    obtain ⟨p, hp⟩ : ∃ p, p = rpartD (x.d.node, x.d.inc) l := ⟨_, rfl⟩
    have HK2 : Hid (R = if radopt vs p x.d = true then 21 else if rlost l x.d.e1 x.d.n = true then 26 else 0) := Lib.hid (by rw [HK.out, hp]; rfl)
    rw [← hp] at HP
    have m2 := H1.out.1.node; have m3 := H1.out.1.inc
    clear hp HK
    go_wp2_with fail
    refine Calls.mono HP.out ?_
    rintro e w2 ⟨⟨vm, rfl, hsl, hml⟩, hf2⟩
    have HV := Lib.hid (And.intro hsl.one (And.intro (hsl.weaken (Z' := fun _ => True) fun _ _ => trivial) hml))
    have H2 := Lib.hid (And.intro (MkB.mk (H1.out.1.blk.keep hf2 trivial) : MkB w2 c5 x) (H1.out.2.trans hf2))
    clear hsl hml hf2 HP H1 m1 m2 m3 lm HRm
    go_wp2_with (refine wpList_store_new rfl (.tmp 7) (.tmp 31) rfl _ (rpartV p vm) _ rfl rfl rfl (by kernel_rfl) (rpart_one p vm HV.out.1) ?_)
    intro w3 hb3 hf3 hs3
    obtain ⟨c7, hc7⟩ : ∃ b, b = w2.heap.size := ⟨_, rfl⟩
    rw [← hc7] at hb3 ⊢
    have H3 := Lib.hid (And.intro (MkB.mk (H2.out.1.blk.keep hf3 trivial) : MkB w3 c5 x) (And.intro (PartB.mk hb3 : PartB w3 c7 p vm) (H2.out.2.trans hf3)))
    have hvs := HV.out.2.1.keep hf3
    have HQ := Lib.hid (rquorate_any (fun _ => True) Av nv cv vs vm p.mem w3 (HVo.out.1.keep H3.out.2.2) HVo.out.2.1 HVo.out.2.2.1 HVo.out.2.2.2 hvs HV.out.2.2)
    obtain ⟨Am, cm, hvm, -, -, -⟩ := hvs
    obtain ⟨qb, hqb⟩ : ∃ q, q = quorB vs (p.mem.map MemD.p) := ⟨_, rfl⟩
    rw [← hqb] at HQ
    have p4 := H3.out.2.1.mem; have lp := H3.out.2.1.blk.lt
    subst hvm
    have HRad : Hid (radopt vs p x.d = (!p.viewed || (decide (x.d.id ≠ p.id) || (!qb || (p.adopted || (decide (x.d.pos < 0) || decide (x.d.n < x.d.pos))))))) := Lib.hid (by rw [radopt_eq, hqb])
    clear hb3 hf3 hs3 hc7 H2 HV hqb
    go_wp2_with fail
    refine Calls.mono HQ.out ?_
    rintro e w4 ⟨rfl, hf4⟩
    have H4 := Lib.hid (And.intro (MkB.mk (H3.out.1.blk.keep hf4 trivial) : MkB w4 c5 x) (And.intro (H3.out.2.1.fresh hf4) (H3.out.2.2.trans hf4)))
    clear hf4 H3 HQ p4 lp
    obtain ⟨ra, hra⟩ : ∃ q, q = radopt vs p x.d := ⟨_, rfl⟩
    rw [← hra] at HRad HK2
    have HRm := Lib.hid H4.out.1.range00
    have HKp := Lib.hid (rkept_any (some ⟨b, o, none⟩) m c hs x w4 (HM.out.2.1.keep H4.out.2.2) (fun y hy => (HM.out.2.2.2 y hy).keep H4.out.2.2) (by omega))
    rw [← HLen.out.2] at HKp
    have m4 := H4.out.1.e1; have m5 := H4.out.1.e2; have m6 := H4.out.1.e3; have m7 := H4.out.1.e4; have m12 := H4.out.1.pos; have m13 := H4.out.1.n; have lm := H4.out.1.blk.lt
    have p0 := H4.out.2.1.e1; have p1 := H4.out.2.1.e2; have p2 := H4.out.2.1.e3; have p3 := H4.out.2.1.e4; have p5 := H4.out.2.1.viewed; have p6 := H4.out.2.1.adopted; have lp := H4.out.2.1.blk.lt
    have Q1 := fun u => neview2 x.d.id p.id u
    obtain ⟨n1, hn1⟩ : ∃ q, q = decide (x.d.id ≠ p.id) := ⟨_, rfl⟩
    rw [← hn1] at Q1 HRad
    simp only [mark_id] at Q1
    obtain ⟨zv, hzv⟩ : ∃ q, q = p.viewed := ⟨_, rfl⟩
    obtain ⟨za, hza⟩ : ∃ q, q = p.adopted := ⟨_, rfl⟩
    obtain ⟨zp, hzp⟩ : ∃ q, q = x.d.pos := ⟨_, rfl⟩
    obtain ⟨zn, hzn⟩ : ∃ q, q = x.d.n := ⟨_, rfl⟩
    rw [← hzv] at p5 HRad; rw [← hza] at p6 HRad; rw [← hzp] at m12 HRad; rw [← hzn] at m13 HRad
    have HF := Lib.hid H4.out.2.2
    clear hn1 hzv hza hzp hzn hra
    go_upto_region 7 with (fail)
    go_cut [65] (fun s wx => s = .bool ra ∧ wx = w4)
    case first =>
      cases zv
      · go_wp2_with fail
        go_meet
        exact ⟨by rw [HRad.out]; rfl, rfl⟩
      cases n1
      rotate_left
      · go_wp2_with fail
        go_meet
        exact ⟨by rw [HRad.out]; rfl, rfl⟩
      cases qb
      · go_wp2_with fail
        go_meet
        exact ⟨by rw [HRad.out]; rfl, rfl⟩
      cases za
      rotate_left
      · go_wp2_with fail
        go_meet
        exact ⟨by rw [HRad.out]; rfl, rfl⟩
      by_cases a1 : zp < 0
      · have d1 : decide (zp < 0) = true := decide_eq_true a1
        go_wp2_with fail
        go_meet
        exact ⟨by rw [HRad.out, d1]; rfl, rfl⟩
      have d1 : decide (zp < 0) = false := decide_eq_false a1
      by_cases a2 : zn < zp
      · have d2 : decide (zn < zp) = true := decide_eq_true a2
        go_wp2_with fail
        go_meet
        exact ⟨by rw [HRad.out, d1, d2]; rfl, rfl⟩
      · have d2 : decide (zn < zp) = false := decide_eq_false a2
        go_wp2_with fail
        go_meet
        exact ⟨by rw [HRad.out, d1, d2]; rfl, rfl⟩
    case rest =>
    rename World => wx
    obtain ⟨rfl, hw⟩ := hcut
    obtain rfl : w4 = wx := hw.symm
    clear m4 m5 m6 m7 m12 m13 p0 p1 p2 p3 p5 p6 Q1 HRad lp
    cases ra
    rotate_left
    · obtain rfl : R = 21 := HK2.out
      go_wp2_with fail
      go_ret
      exact ⟨rfl, HF.out⟩
    obtain ⟨rl, hrl⟩ : ∃ q, q = rlost l x.d.e1 x.d.n := ⟨_, rfl⟩
    rw [← hrl] at HKp HK2
    clear hrl
    go_wp2_with (refine wpList_load_mid rfl 51 _ rfl c5 0 rfl x.cells _ HRm.out Tryz.underlying51 rfl (by kernel_rfl) ?_)
    refine Calls.mono HKp.out ?_
    rintro e w5 ⟨rfl, hf5⟩
    have H5 := Lib.hid (HF.out.trans hf5)
    clear HKp HRm hf5 lm H4
    cases rl
    · obtain rfl : R = 0 := HK2.out
      go_wp2_with fail
      go_ret
      exact ⟨rfl, H5.out⟩
    · obtain rfl : R = 26 := HK2.out
      go_wp2_with fail
      go_ret
      exact ⟨rfl, H5.out⟩
  have b10 : (zk == 10) = false := by simpa using k10
  by_cases k11 : zk = 11
  · subst k11
    have HC := Lib.hid (takes_any (some ⟨b, o, none⟩) m c hs x w1 (HM.out.2.1.keep H1.out.2) (fun y hy => (HM.out.2.2.2 y hy).keep H1.out.2))
    rw [← HLen.out.2] at HC
    obtain ⟨q, hq⟩ : ∃ q, q = rtakes (rpartD x.d.who l) x.d := ⟨_, rfl⟩
    have HK2 : Hid (R = if q = true then 0 else 22) := Lib.hid (by rw [HK.out, hq]; rfl)
    rw [← hq] at HC
    clear hq HK k10
    go_wp2_with (refine wpList_load_mid rfl 51 _ rfl c5 0 rfl x.cells _ HRm.out Tryz.underlying51 rfl (by kernel_rfl) ?_)
    refine Calls.mono HC.out ?_
    rintro e w2 ⟨rfl, hf2⟩
    have H2 := Lib.hid (H1.out.2.trans hf2)
    clear HC hf2 H1 m1 lm HRm
    cases q
    · obtain rfl : R = 22 := HK2.out
      go_wp2_with fail
      go_ret
      exact ⟨rfl, H2.out⟩
    · obtain rfl : R = 0 := HK2.out
      go_wp2_with fail
      go_ret
      exact ⟨rfl, H2.out⟩
  have b11 : (zk == 11) = false := by simpa using k11
  by_cases k12 : zk = 12
  · subst k12
    have HC := Lib.hid (applies_any (some ⟨b, o, none⟩) m c hs x w1 (HT.out.fresh H1.out.2) (HM.out.1.keep H1.out.2) (fun y hy => (HM.out.2.2.1 y hy).keep H1.out.2) hnc)
    rw [← HLen.out.2] at HC
    have HK2 : Hid (R = rapplies l x.d) := Lib.hid (by rw [HK.out]; rfl)
    rw [← HK2.out] at HC
    clear HK HK2 k10 k11
    go_wp2_with fail
    refine Calls.mono HC.out ?_
    rintro e w2 ⟨rfl, hf2⟩
    have H2 := Lib.hid (H1.out.2.trans hf2)
    clear HC hf2 H1 m1 lm HRm
    go_wp2_with fail
    go_ret
    exact ⟨rfl, H2.out⟩
  have b12 : (zk == 12) = false := by simpa using k12
  by_cases k13 : zk = 13
  · subst k13
    have HC := Lib.hid (replies_any (some ⟨b, o, none⟩) m c hs x w1 (HM.out.2.1.keep H1.out.2) (fun y hy => (HM.out.2.2.2 y hy).keep H1.out.2))
    rw [← HLen.out.2] at HC
    have HK2 : Hid (R = rreplies l x.d) := Lib.hid (by rw [HK.out]; rfl)
    rw [← HK2.out] at HC
    clear HK HK2 k10 k11 k12
    go_wp2_with (refine wpList_load_mid rfl 51 _ rfl c5 0 rfl x.cells _ HRm.out Tryz.underlying51 rfl (by kernel_rfl) ?_)
    refine Calls.mono HC.out ?_
    rintro e w2 ⟨rfl, hf2⟩
    have H2 := Lib.hid (H1.out.2.trans hf2)
    clear HC hf2 H1 m1 lm HRm
    go_wp2_with fail
    go_ret
    exact ⟨rfl, H2.out⟩
  have b13 : (zk == 13) = false := by simpa using k13
  obtain rfl : R = 0 := by rw [HK.out, if_neg k10, if_neg k11, if_neg k12, if_neg k13]
  clear HK k10 k11 k12 k13 HRm
  go_wp2_with fail
  go_ret
  exact ⟨rfl, H1.out.2⟩

/-! ### Service -/
theorem findRS_drop {vs : List Int} {ds : List MarkD} {k : Nat} (h : k < ds.length) (h0 : rserves vs (ds.take k) ds[k] = 0) : findRS vs (ds.take k) (ds.drop k) = findRS vs (ds.take (k + 1)) (ds.drop (k + 1)) := by
  rw [List.drop_eq_getElem_cons h, List.take_succ_eq_append_getElem h]
  conv => lhs; unfold findRS
  exact if_pos h0
theorem findRS_stop {vs : List Int} {ds : List MarkD} {k : Nat} (h : k < ds.length) (h0 : rserves vs (ds.take k) ds[k] ≠ 0) : findRS vs (ds.take k) (ds.drop k) = (rserves vs (ds.take k) ds[k], (k : Int)) := by
  rw [List.drop_eq_getElem_cons h]
  unfold findRS
  rw [if_neg h0, List.length_take, Nat.min_eq_left (by omega)]
def nodeD (n : Nat) (m : MarkD) : Bool := decide (0 ≤ m.node) && decide (m.node < (n : Int))
set_option maxRecDepth 20000 in
set_option maxHeartbeats 4000000 in
/-- The contract of the document's Service. -/
theorem rservice_any {w : World} (hT : Tabs w) (A : Option Addr) (n c : Nat) (hs : List MkV) (hm : Mks w (fun _ => True) A n hs) (hok : ∀ x ∈ hs, MkOk w (fun _ => True) x) (hnc : n ≤ c)
    (Av : Option Addr) (nv cv : Nat) (vs : List Int) (hv : Rd w (fun _ => True) 1 Av nv (ics vs)) (hlv : vs.length = nv) (hnv : nv ≤ 1048576) :
    Calls Tryz.prog 8 #[.slice A n c, .slice Av nv cv] w fun e w' => e = .returned (.tuple #[.agg #[.int .i64 (rserviceD vs (dsOf hs)).1.1, .int .i64 (rserviceD vs (dsOf hs)).1.2], .int .i64 (rserviceD vs (dsOf hs)).2]) ∧ Fresh w w' := by
  obtain ⟨R, hR⟩ : ∃ R, R = rserviceD vs (dsOf hs) := ⟨_, rfl⟩
  rw [← hR]
  obtain ⟨⟨ra, rb⟩, re⟩ := R
  simp only
  obtain ⟨w1, hw1⟩ : ∃ w1, w1 = w.alloc (.cells #[.int .i64 0, .int .i64 0] 29) := ⟨_, rfl⟩
  obtain ⟨bt, hbt⟩ : ∃ b, b = w.heap.size := ⟨_, rfl⟩
  have hf1 : Fresh w w1 := by rw [hw1]; exact (Keep.refl _ w).alloc _
  have htb : Blk w1 bt 29 #[.int .i64 0, .int .i64 0] := by rw [hw1, hbt]; exact Blk.new _ _ _
  have HM := Lib.hid (And.intro (hm.keep hf1) (And.intro (show ∀ x ∈ hs, MkOk w1 (fun _ => True) x from fun x hx => (hok x hx).keep hf1) (And.intro (hv.keep hf1) (hT.fresh hf1))))
  have H := Lib.hid (And.intro hf1 (And.intro htb hbt))
  have HLen := Lib.hid (And.intro hm.len (And.intro hlv hnv))
  have hle := hm.le
  have HR := Lib.hid hR
  have HC := Lib.hid (rvotes_any (fun _ => True) Av nv cv vs w1 (HM.out.2.2.1) hlv hnv)
  have b0 := htb.cell 0; have b1 := htb.cell 1; have f0 := htb.frozen 0; have f1 := htb.frozen 1; have lb := htb.lt
  simp at b0 b1
  clear hT hm hok hv hR hf1 htb hlv
  go_enter Tryz.func8, Tryz.ntmps8
  go_upto_region 1 with (fail)
  rw [← hw1, ← hbt]
  clear hw1 hbt
  have key : ∀ (w' : World) (u v : Value), Fresh w1 w' → Fresh w ((w'.setCell ⟨bt, 0, none⟩ u).setCell ⟨bt, 1, none⟩ v) := fun w' u v hf => ((H.out.1.trans hf).setCell (fun h => by have := H.out.2.2; have h' : bt < w.heap.size := h; omega) _).setCell (fun h => by have := H.out.2.2; have h' : bt < w.heap.size := h; omega) _
  have HKey := Lib.hid key
  clear key
  cases hq : ballotB vs with
  | false =>
    rw [if_neg (by rw [hq]; decide)] at HC
    obtain ⟨h1, rfl⟩ : (ra, rb) = ((0, 0) : Int × Int) ∧ re = 110 := by
      have := HR.out
      unfold rserviceD at this
      rw [if_pos hq] at this
      exact Prod.mk.inj this
    obtain ⟨rfl, rfl⟩ := Prod.mk.inj h1
    clear h1 hq
    go_wp2_with fail
    refine Calls.mono HC.out ?_
    rintro e _ ⟨rfl, rfl⟩
    clear HC
    go_wp2_with fail
    refine bodyPost_ret (results_blk rfl _ _ bt 29 #[.int .i64 0, .int .i64 0] _ (.int .i64 110) rfl ((H.out.2.1.set 0 _).set 1 _) Tryz.underlying29 rfl (by kernel_rfl) rfl) rfl ?_
    exact ⟨rfl, HKey.out _ _ _ (Keep.refl _ _)⟩
  | true =>
    rw [if_pos hq] at HC
    have HQ := Lib.hid hq
    have HR2 : Hid (((ra, rb), re) = if (dsOf hs).all (nodeD nv) = false then (((0, 0) : Int × Int), (1 : Int)) else (findRS vs [] (dsOf hs), 0)) := Lib.hid (by
      have := HR.out
      unfold rserviceD at this
      rw [if_neg (by rw [hq]; decide), HLen.out.2.1] at this
      exact this)
    clear hq HR
    go_wp2_with fail
    refine Calls.mono HC.out ?_
    rintro e _ ⟨rfl, rfl⟩
    clear HC
    go_wp2_with fail
    go_loopw [7] (fun iv wr => ∃ k : Nat, k ≤ n ∧ iv = .int .i64 (k : Int) ∧ wr = w1 ∧ Hid ((dsOf (hs.take k)).all (nodeD nv) = true)) (fun i _ => n - (intOf i).toNat)
    case atStart => exact ⟨0, Nat.zero_le _, rfl, rfl, Lib.hid rfl⟩
    case round =>
      obtain ⟨k, hk, rfl, rfl, HW⟩ := hrel
      by_cases hlt : k < n
      · obtain ⟨b, o, y, hA, hy, hry⟩ := HM.out.1.ints hlt
        subst hA
        have k2 : wr.cell? ⟨b, o + k * 26 + 2, none⟩ = some (.int .i64 y.d.node) := hry 2 _ rfl
        have lb2 := range_lt (v := .int .i64 y.d.at_) hry
        obtain ⟨z, hz⟩ : ∃ z, z = y.d.node := ⟨_, rfl⟩
        rw [← hz] at k2
        have HS : Hid ((dsOf (hs.take (k + 1))).all (nodeD nv) = (decide (0 ≤ z) && decide (z < (nv : Int)))) := Lib.hid (by rw [ds_all_snoc hy, HW.out, Bool.true_and, hz]; rfl)
        have HN : Hid ((decide (0 ≤ z) && decide (z < (nv : Int))) = false → ra = 0 ∧ rb = 0 ∧ re = 1) := Lib.hid (fun e => by
          have h1 := HR2.out
          rw [if_pos (ds_all_false hy (nodeD nv) (by rw [← e, hz]; rfl))] at h1
          injection h1 with h2 h3
          injection h2 with h4 h5
          exact ⟨h4, h5, h3⟩)
        clear hry hz hy
        by_cases a1 : z < 0
        · have d1 : decide (z < 0) = true := decide_eq_true a1
          obtain ⟨rfl, rfl, rfl⟩ := HN.out (by rw [decide_eq_false (by omega : ¬ 0 ≤ z)]; rfl)
          clear a1
          go_wp2_with fail
          refine bodyPost_ret (results_blk rfl _ _ bt 29 #[.int .i64 0, .int .i64 0] _ (.int .i64 1) rfl ((H.out.2.1.set 0 _).set 1 _) Tryz.underlying29 rfl (by kernel_rfl) rfl) rfl ?_
          exact ⟨rfl, HKey.out _ _ _ (Keep.refl _ _)⟩
        have d1 : decide (z < 0) = false := decide_eq_false a1
        by_cases a2 : (nv : Int) ≤ z
        · have d2 : decide ((nv : Int) ≤ z) = true := decide_eq_true a2
          obtain ⟨rfl, rfl, rfl⟩ := HN.out (by rw [decide_eq_false (by omega : ¬ z < (nv : Int))]; simp)
          clear a1 a2
          go_wp2_with fail
          refine bodyPost_ret (results_blk rfl _ _ bt 29 #[.int .i64 0, .int .i64 0] _ (.int .i64 1) rfl ((H.out.2.1.set 0 _).set 1 _) Tryz.underlying29 rfl (by kernel_rfl) rfl) rfl ?_
          exact ⟨rfl, HKey.out _ _ _ (Keep.refl _ _)⟩
        have d2 : decide ((nv : Int) ≤ z) = false := decide_eq_false a2
        have HN2 : Hid ((dsOf (hs.take (k + 1))).all (nodeD nv) = true) := Lib.hid (by rw [HS.out, decide_eq_true (by omega : 0 ≤ z), decide_eq_true (by omega : z < (nv : Int))]; rfl)
        clear a1 a2
        go_wp2_with fail
        exact ⟨⟨k + 1, by omega, congrArg _ (by omega), trivial, HN2⟩, by simp [intOf]; omega⟩
      · obtain rfl : k = n := by omega
        have HF : Hid (((ra, rb), re) = (findRS vs [] (dsOf hs), 0)) := Lib.hid (by
          have h1 := HW.out
          rw [dsOf_all HM.out.1.len] at h1
          have h2 := HR2.out
          rw [if_neg (by rw [h1]; decide)] at h2
          exact h2)
        have hre : re = 0 := by
          have := HF.out
          injection this
        subst hre
        have HF2 : Hid ((ra, rb) = findRS vs ((dsOf hs).take 0) ((dsOf hs).drop 0)) := Lib.hid (by
          have := HF.out
          injection this)
        have hdl : (dsOf hs).length = k := by unfold dsOf; rw [List.length_map, HM.out.1.len]
        have HDl := Lib.hid hdl
        clear hlt hdl HR2 HW HF
        go_wp2_with fail
        go_loopw [8] (fun iv wz => ∃ j : Nat, j ≤ k ∧ iv = .int .i64 (j : Int) ∧ Hid (Fresh wr wz ∧ (ra, rb) = findRS vs ((dsOf hs).take j) ((dsOf hs).drop j))) (fun i _ => k - (intOf i).toNat)
        case atStart => exact ⟨0, Nat.zero_le _, rfl, Lib.hid ⟨Keep.refl _ _, HF2.out⟩⟩
        case round =>
          rename World => wz
          obtain ⟨j, hj, rfl, HW⟩ := hrel
          clear b0 b1 f0 f1 lb
          by_cases hjl : j < k
          · have hjs : j < hs.length := by rw [HM.out.1.len]; exact hjl
            have hjd : j < (dsOf hs).length := by rw [HDl.out]; exact hjl
            have htk : hs.take (j + 1) = hs.take j ++ [hs[j]] := List.take_succ_eq_append_getElem hjs
            have hmk := (HM.out.1.keep HW.out.1).takeS (show j + 1 ≤ k by omega)
            rw [htk] at hmk
            have HC := Lib.hid (serves_any A j c (hs.take j) hs[j] wz (HM.out.2.2.2.fresh HW.out.1) hmk (fun y hy => by rw [← htk] at hy; exact (HM.out.2.1 y (List.mem_of_mem_take hy)).keep HW.out.1) (by omega) Av nv cv vs (HM.out.2.2.1.keep HW.out.1) HLen.out.2.1 HLen.out.2.2 HQ.out)
            have e1 : dsOf (hs.take j) = (dsOf hs).take j := by unfold dsOf; rw [List.map_take]
            have e2 : hs[j].d = (dsOf hs)[j] := by unfold dsOf; simp
            rw [e1, e2] at HC
            obtain ⟨q, hq⟩ : ∃ q, q = rserves vs ((dsOf hs).take j) (dsOf hs)[j] := ⟨_, rfl⟩
            rw [← hq] at HC
            have HQj : Hid ((q = 0 → (ra, rb) = findRS vs ((dsOf hs).take (j + 1)) ((dsOf hs).drop (j + 1))) ∧ (q ≠ 0 → ra = q ∧ rb = (j : Int))) := Lib.hid (by
              refine ⟨fun e => ?_, fun e => ?_⟩
              · rw [HW.out.2, findRS_drop hjd (by rw [← hq, e])]
              · have h1 := HW.out.2
                rw [findRS_stop hjd (by rw [← hq]; exact e), ← hq] at h1
                exact Prod.mk.inj h1)
            clear hjs hjd htk hmk e1 e2 hq
            go_wp2_with fail
            refine Calls.mono HC.out ?_
            rintro e w2 ⟨rfl, hf2⟩
            have H2 := Lib.hid (HW.out.1.trans hf2)
            have htb := H.out.2.1.keep H2.out trivial
            have b0 := htb.cell 0; have b1 := htb.cell 1; have f0 := htb.frozen 0; have f1 := htb.frozen 1; have lb := htb.lt
            simp at b0 b1
            have HTb := Lib.hid htb
            clear HC hf2 HW htb
            by_cases hq0 : q = 0
            · have HN := Lib.hid (HQj.out.1 hq0)
              subst hq0
              clear b0 b1 f0 f1 lb HQj
              go_wp2_with fail
              exact ⟨⟨j + 1, by omega, congrArg _ (by omega), Lib.hid ⟨H2.out, HN.out⟩⟩, by simp [intOf]; omega⟩
            · have d1 : (q != 0) = true := by simpa using hq0
              obtain ⟨rfl, rfl⟩ := HQj.out.2 hq0
              clear hq0 HQj
              go_wp2_with fail
              refine bodyPost_ret (results_blk rfl _ _ bt 29 #[.int .i64 ra, .int .i64 (j : Int)] _ (.int .i64 0) rfl ((HTb.out.set 0 _).set 1 _) Tryz.underlying29 rfl (by kernel_rfl) rfl) rfl ?_
              exact ⟨rfl, HKey.out _ _ _ H2.out⟩
          · obtain rfl : j = k := by omega
            obtain ⟨rfl, rfl⟩ : ra = 0 ∧ rb = 0 := by
              have h1 := HW.out.2
              rw [List.drop_eq_nil_of_le (by rw [HDl.out]; exact Nat.le_refl _)] at h1
              exact Prod.mk.inj h1
            have htb := H.out.2.1.keep HW.out.1 trivial
            have b0 := htb.cell 0; have b1 := htb.cell 1; have f0 := htb.frozen 0; have f1 := htb.frozen 1; have lb := htb.lt
            simp at b0 b1
            have HTb := Lib.hid htb
            clear htb
            go_wp2_with fail
            refine bodyPost_ret (results_blk rfl _ _ bt 29 #[.int .i64 0, .int .i64 0] _ (.int .i64 0) rfl ((HTb.out.set 0 _).set 1 _) Tryz.underlying29 rfl (by kernel_rfl) rfl) rfl ?_
            exact ⟨rfl, HKey.out _ _ _ HW.out.1⟩
end Go.Proofs.YtohnmaindbgngaaGreatDoor
