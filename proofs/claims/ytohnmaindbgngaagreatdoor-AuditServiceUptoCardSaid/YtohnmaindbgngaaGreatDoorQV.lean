/-
  MERGED: SrvI
-/
import Derived.Test.YtohnmaindbgngaaGreatDoorQU
namespace Go.Proofs.YtohnmaindbgngaaGreatDoor
set_option linter.unusedVariables false
set_option linter.unusedSimpArgs false
open Go.RowKit Go.Shelf Go.BigFrame

/-- A world behind some empty maps. -/
def smaps (w : World) : Nat → World
  | 0 => w
  | n + 1 => (smaps w n).alloc (.map #[] 0)
theorem smaps_size (w : World) (n : Nat) : (smaps w n).heap.size = w.heap.size + n := by
  induction n with
  | zero => rfl
  | succ n ih =>
    have e : (smaps w (n + 1)).heap.size = (smaps w n).heap.size + 1 := Array.size_push _
    omega
theorem smaps_fresh (w : World) (n m : Nat) : Fresh (smaps w n) (smaps w (n + m)) := by
  induction m with
  | zero => exact Keep.refl _ _
  | succ m ih => exact ih.alloc _
theorem smaps_map (w : World) (k i n : Nat) (h : i < n) : KMap Tryz.prog k (smaps w n) (w.heap.size + i) [] := by
  have h1 : KMap Tryz.prog k (smaps w (i + 1)) (smaps w i).heap.size [] := KMap.made _ _ _
  rw [smaps_size] at h1
  have h2 := smaps_fresh w (i + 1) (n - (i + 1))
  rw [show i + 1 + (n - (i + 1)) = n from by omega] at h2
  exact h1.keep h2 trivial
open Classical in
noncomputable def srvT (b g : Nat) (Fm : Nat → Prop) (v : Value) (j : Nat) : STag :=
  if j = b then .pts else if j = b + 1 then .ent else if j = b + 2 then .idx else if j = b + 3 then .ask else if j = b + 4 then .fur else if j = b + 5 then .plc else if j = g then .srv else if Fm j then .mac else if v.ownBlock = some j then .vot else .other
theorem srv_new {w w1 w2 w9 : World} {A : Option Addr} {c m : Nat} {vs : List Int} {Fm : Nat → Prop} (hT : Tabs w) (hf1 : Fresh w w1) (hf2 : Fresh w1 w2) (ho : w2.ownsRow w1.heap.size 3 1 (.slice A vs.length c) vs.length (ics vs)) (hf9 : Fresh (smaps w2 6) w9) (hM : MAtS (smaps w2 6).heap.size w9 Fm m newD) :
    SM w (w9.alloc (.cells (srvV vs srv0 ⟨w9.heap.size, w2.heap.size, w2.heap.size + 1, w2.heap.size + 2, w2.heap.size + 3, w2.heap.size + 5, w2.heap.size + 4, m, A, c⟩) 95)) (srvT w2.heap.size w9.heap.size Fm (.slice A vs.length c)) ⟨w9.heap.size, w2.heap.size, w2.heap.size + 1, w2.heap.size + 2, w2.heap.size + 3, w2.heap.size + 5, w2.heap.size + 4, m, A, c⟩ 0 vs srv0 := by
  have h6 := smaps_size w2 6
  have h9 := hf9.size
  have hfa : Fresh w9 (w9.alloc (.cells (srvV vs srv0 ⟨w9.heap.size, w2.heap.size, w2.heap.size + 1, w2.heap.size + 2, w2.heap.size + 3, w2.heap.size + 5, w2.heap.size + 4, m, A, c⟩) 95)) := (Keep.refl _ w9).alloc _
  have hsz : (w9.alloc (.cells (srvV vs srv0 ⟨w9.heap.size, w2.heap.size, w2.heap.size + 1, w2.heap.size + 2, w2.heap.size + 3, w2.heap.size + 5, w2.heap.size + 4, m, A, c⟩) 95)).heap.size = w9.heap.size + 1 := Array.size_push _
  have h12 := hf2.size
  have h01 := hf1.size
  have hmap := fun k i (h : i < 6) => ((smaps_map w2 k i 6 h).keep hf9 trivial).keep hfa trivial
  have hf26 : Fresh w2 w9 := (smaps_fresh w2 0 6).trans hf9
  have hFm : ∀ j, Fm j → w2.heap.size + 6 ≤ j ∧ j < w9.heap.size := fun j hj => ⟨by have := hM.lo j hj; omega, hM.hi j hj⟩
  have hown : ∀ j, (Value.slice A vs.length c).ownBlock = some j → w1.heap.size ≤ j ∧ j < w2.heap.size := fun j hj => own_lt ho hj
  have tmac : ∀ j, Fm j → srvT w2.heap.size w9.heap.size Fm (.slice A vs.length c) j = .mac := fun j hj => by
    have := hFm j hj
    unfold srvT
    rw [if_neg (by omega), if_neg (by omega), if_neg (by omega), if_neg (by omega), if_neg (by omega), if_neg (by omega), if_neg (by omega), if_pos hj]
  have tvot : ∀ j, (Value.slice A vs.length c).ownBlock = some j → srvT w2.heap.size w9.heap.size Fm (.slice A vs.length c) j = .vot := fun j hj => by
    have := hown j hj
    unfold srvT
    rw [if_neg (by omega), if_neg (by omega), if_neg (by omega), if_neg (by omega), if_neg (by omega), if_neg (by omega), if_neg (by omega), if_neg (fun e => by have := hFm j e; omega), if_pos hj]
  refine ⟨hT, ((hf1.trans hf2).trans hf26).trans hfa, ⟨?_, ?_, ?_, ?_, ?_, ?_, ?_⟩, fun j hj => ?_, ?_, Blk.new _ _ _, ⟨fun _ => none, MapF.of_made (ps := []) rfl (hmap _ 0 (by omega)) _, fun x hx => ⟨fun _ => rfl, fun p h => by cases h⟩⟩, MapF.of_made (ps := []) rfl (hmap _ 1 (by omega)) _, MapF.of_made (ps := []) rfl (hmap _ 2 (by omega)) _, ⟨fun _ => none, MapF.of_made (ps := []) rfl (hmap _ 3 (by omega)) _, fun _ => rfl⟩, MapF.of_made (ps := []) rfl (hmap _ 5 (by omega)) _, MapF.of_made (ps := []) rfl (hmap _ 4 (by omega)) _, ⟨Fm, (hM.lower (by omega)).fresh hfa, tmac⟩⟩
  · show srvT _ _ _ _ w9.heap.size = .srv
    unfold srvT
    rw [if_neg (by omega), if_neg (by omega), if_neg (by omega), if_neg (by omega), if_neg (by omega), if_neg (by omega), if_pos rfl]
  · show srvT _ _ _ _ w2.heap.size = .pts
    unfold srvT
    rw [if_pos rfl]
  · show srvT _ _ _ _ (w2.heap.size + 1) = .ent
    unfold srvT
    rw [if_neg (by omega), if_pos rfl]
  · show srvT _ _ _ _ (w2.heap.size + 2) = .idx
    unfold srvT
    rw [if_neg (by omega), if_neg (by omega), if_pos rfl]
  · show srvT _ _ _ _ (w2.heap.size + 3) = .ask
    unfold srvT
    rw [if_neg (by omega), if_neg (by omega), if_neg (by omega), if_pos rfl]
  · show srvT _ _ _ _ (w2.heap.size + 5) = .plc
    unfold srvT
    rw [if_neg (by omega), if_neg (by omega), if_neg (by omega), if_neg (by omega), if_neg (by omega), if_pos rfl]
  · show srvT _ _ _ _ (w2.heap.size + 4) = .fur
    unfold srvT
    rw [if_neg (by omega), if_neg (by omega), if_neg (by omega), if_neg (by omega), if_pos rfl]
  · rw [hsz]
    unfold srvT at hj
    repeat' (split at hj)
    all_goals first | exact absurd rfl hj | omega | (rename_i h; have := hFm j h; omega) | (rename_i h; have := hown j h; omega)
  · have hvo : (w9.alloc (.cells (srvV vs srv0 ⟨w9.heap.size, w2.heap.size, w2.heap.size + 1, w2.heap.size + 2, w2.heap.size + 3, w2.heap.size + 5, w2.heap.size + 4, m, A, c⟩) 95)).ownsRow w1.heap.size 3 1 (.slice A vs.length c) vs.length (ics vs) := own_keep ho (hf26.trans hfa) fun _ _ => trivial
    show SlOk _ _ 1 vs.length (.slice A vs.length c) (ics vs)
    rcases hvo.2 with ⟨hv, hn⟩ | ⟨g, cap, cur, hv, hb, hh, hc, _⟩
    · injection hv with e1 e2 e3
      subst e1 e3
      obtain ⟨A', c', hv', hr, _⟩ := own_rd hvo
      injection hv' with e1 e2 e3
      subst e1 e3
      exact ⟨none, 0, rfl, by omega, fun _ => .inl rfl, hr.weaken fun k hk => tvot k hk⟩
    · injection hv with e1 e2 e3
      subst e1 e3
      obtain ⟨A', c', hv', hr, _⟩ := own_rd hvo
      injection hv' with e1 e2 e3
      subst e1 e3
      exact ⟨_, _, rfl, hc, fun _ => .inr (by simp), hr.weaken fun k hk => tvot k hk⟩
set_option maxRecDepth 20000 in
set_option maxHeartbeats 1000000 in
theorem newsrv_bad (Z : Nat → Prop) (A : Option Addr) (n c : Nat) (vs : List Int) (w : World) (h : Rd w Z 1 A n (ics vs)) (hl : vs.length = n) (hn : n ≤ 1048576) (hq : ballotB vs = false) :
    Calls Tryz.prog 15 #[.slice A n c] w fun e w' => e = .returned (.tuple #[.pointer none, .int .i64 110]) ∧ Fresh w w' := by
  have HC := Lib.hid (qcheck_any Z A n c vs w h hl hn)
  rw [hq] at HC
  clear h hq
  go_enter Tryz.func15, Tryz.ntmps15
  go_wp2_with fail
  refine Calls.mono HC.out ?_
  rintro e w1 ⟨rfl, hf⟩
  have HF := Lib.hid hf
  clear HC hf
  go_wp2_with fail
  go_ret2
  exact ⟨rfl, HF.out⟩
set_option maxRecDepth 20000 in
set_option maxHeartbeats 1000000 in
theorem newsrv_any (Z : Nat → Prop) (A : Option Addr) (n c : Nat) (vs : List Int) (w : World) (hT : Tabs w) (h : Rd w Z 1 A n (ics vs)) (hl : vs.length = n) (hn : n ≤ 1048576) (hq : ballotB vs = true) :
    Calls Tryz.prog 15 #[.slice A n c] w fun e w' => ∃ (F : SFix) (T : Nat → STag), e = .returned (.tuple #[.pointer (some ⟨F.g, 0, none⟩), .int .i64 0]) ∧ SM w w' T F 0 vs srv0 := by
  have HC := Lib.hid (qcheck_any Z A n c vs w h hl hn)
  rw [hq] at HC
  have hv1 := (ballotB_all hq).1
  have H := Lib.hid (And.intro hT (And.intro h hl))
  rw [hl] at hv1
  clear h hq hT
  go_enter Tryz.func15, Tryz.ntmps15
  go_wp2_with fail
  refine Calls.mono HC.out ?_
  rintro e w1 ⟨rfl, hf⟩
  have HF := Lib.hid (And.intro hf (H.out.2.1.keep (hf.weaken fun _ _ _ => trivial)))
  have hmm := @run_makeMap Tryz.prog
  clear HC hf
  go_wp2_with (at_builtin; refine wpList_app etInt rfl _ _ rfl w1.heap.size _ 0 [] rfl (World.ownsRow_nil _ _ _ _) Z A n c _ rfl HF.out.2 (fun h => by omega) (ics_one _) (by omega) (Nat.le_refl _) ?_)
  intro v2 w2 ho2 hk2 hn2
  have hf2 : Fresh w1 w2 := hk2.weaken fun _ _ _ => by simp [Value.ownBlock]
  try simp only [Nat.zero_add, List.nil_append] at ho2
  obtain ⟨A2, c2, rfl, -, -⟩ := own_rd ho2
  have HO := Lib.hid (And.intro ho2 hf2)
  clear ho2 hk2 hn2 hf2
  go_wp2_with fail
  have HN := Lib.hid (mats_new (smaps w2 6))
  refine Calls.mono HN.out ?_
  rintro e w9 ⟨⟨m, Fm, rfl, hM⟩, hf9⟩
  have HM := Lib.hid (And.intro hM hf9)
  clear hM hf9 HN
  go_wp2_with fail
  go_ret2
  have ho := HO.out.1
  have hlv : vs.length = n := H.out.2.2
  subst hlv
  have := srv_new H.out.1 HF.out.1 HO.out.2 ho HM.out.2 HM.out.1
  exact ⟨⟨w9.heap.size, w2.heap.size, w2.heap.size + 1, w2.heap.size + 2, w2.heap.size + 3, w2.heap.size + 5, w2.heap.size + 4, m, A2, c2⟩, _, rfl, this⟩
theorem ballot_lt {vs : List Int} (h : ballotB vs = true) : vs.length ≤ 16 := (ballotB_all h).2.1
theorem SlOk.here {w : World} {s n : Nat} {v : Value} {xs : List Value} (hs : 0 < s) (h : SlOk w (fun _ => True) s n v xs) : SlOk w (fun j => j < w.heap.size) s n v xs := by
  obtain ⟨A, c, e, h1, h2, h3⟩ := h
  refine ⟨A, c, e, h1, h2, h3.1, fun hn => ?_⟩
  obtain ⟨b, o, e, hz, hc⟩ := h3.2 hn
  refine ⟨b, o, e, ?_, hc⟩
  have hl : 0 < xs.length := by rw [h3.1]; exact Nat.mul_pos hn hs
  exact lt_of_cell (hc 0 _ (List.getElem?_eq_getElem hl))
theorem MkOk.here {w : World} {x : MkV} (h : MkOk w (fun _ => True) x) : MkOk w (fun j => j < w.heap.size) x := ⟨h.m.here (by decide), h.t.here (by decide), h.b.here (by decide)⟩
theorem Rd.here {w : World} {size n : Nat} {A : Option Addr} {xs : List Value} (h : Rd w (fun _ => True) size A n xs) (hs : 0 < size) : Rd w (fun j => j < w.heap.size) size A n xs := by
  refine ⟨h.1, fun hn => ?_⟩
  obtain ⟨b, o, e, hz, hc⟩ := h.2 hn
  refine ⟨b, o, e, ?_, hc⟩
  have hl : 0 < xs.length := by rw [h.1]; exact Nat.mul_pos hn hs
  exact lt_of_cell (hc 0 _ (List.getElem?_eq_getElem hl))
theorem all_nodes (n : Nat) (hs : List MkV) : hs.all (nodeB n) = (dsOf hs).all (fun m => decide (0 ≤ m.node) && decide (m.node < (n : Int))) := by
  unfold dsOf
  rw [List.all_map]
  rfl
set_option maxRecDepth 20000 in
set_option maxHeartbeats 2000000 in
/-- The contract of audit.Service. -/
theorem serviceC_any {w : World} (hT : Tabs w) (A : Option Addr) (n c : Nat) (hs : List MkV) (hm : Mks w (fun _ => True) A n hs) (hok : ∀ x ∈ hs, MkOk w (fun _ => True) x) (hi : ∀ x ∈ hs, MkInt x.d) (hc : ∀ x ∈ hs, InC x.d.cmd)
    (Av : Option Addr) (nv cv : Nat) (vs : List Int) (hv : Rd w (fun _ => True) 1 Av nv (ics vs)) (hlv : vs.length = nv) (hnv : nv ≤ 1048576) :
    Calls Tryz.prog 7 #[.slice A n c, .slice Av nv cv] w fun e w' => e = .returned (.tuple #[.agg #[.int .i64 (serviceD vs (dsOf hs)).1.1, .int .i64 (serviceD vs (dsOf hs)).1.2], .int .i64 (serviceD vs (dsOf hs)).2]) ∧ Fresh w w' := by
  obtain ⟨R, hR⟩ : ∃ R, R = serviceD vs (dsOf hs) := ⟨_, rfl⟩
  rw [← hR]
  obtain ⟨⟨ra, rb⟩, re⟩ := R
  simp only
  obtain ⟨w1, hw1⟩ : ∃ w1, w1 = (w.alloc (.cells #[.slice Av nv cv] 23)).alloc (.cells #[.int .i64 0, .int .i64 0] 29) := ⟨_, rfl⟩
  obtain ⟨bv, hbv⟩ : ∃ b, b = w.heap.size := ⟨_, rfl⟩
  obtain ⟨bt, hbt⟩ : ∃ b, b = w.heap.size + 1 := ⟨_, rfl⟩
  have hf1 : Fresh w w1 := by rw [hw1]; exact ((Keep.refl _ w).alloc _).alloc _
  have hvb : Blk w1 bv 23 #[.slice Av nv cv] := by rw [hw1, hbv]; exact (Blk.new _ _ _).alloc _
  have htb : Blk w1 bt 29 #[.int .i64 0, .int .i64 0] := by rw [hw1, hbt]; exact Blk.newAt (by simp)
  have hm1 : Mks w1 (fun j => j < w1.heap.size) A n hs := ⟨hm.len, (hm.rd.keep hf1).here (by decide), hm.le, hm.fit, hm.one⟩
  have hi1 : ∀ x ∈ hs, SIn w1.heap.size w1 x := fun x hx => ⟨hi x hx, hc x hx, ⟨(hm.fit x hx).nl, (hm.fit x hx).nh⟩, ((hok x hx).keep hf1).here, (hm.fit x hx).m, hm.one x hx⟩
  have H := Lib.hid (And.intro (hT.fresh hf1) (And.intro hm1 (And.intro hi1 (And.intro (hv.keep hf1) (And.intro hR (And.intro hf1 (And.intro hvb (And.intro htb (show w.heap.size ≤ bt by omega)))))))))
  have v0 := hvb.cell 0; have tv := hvb.lt
  simp at v0
  have b0 := htb.cell 0; have b1 := htb.cell 1; have f0 := htb.frozen 0; have f1 := htb.frozen 1; have lb := htb.lt
  simp at b0 b1
  clear hT hm hok hi hc hv hR hf1 hvb htb hm1 hi1
  go_enter Tryz.func7, Tryz.ntmps7
  go_upto_region 1 with (fail)
  have HW := Lib.hid (And.intro hw1 (And.intro hbv hbt))
  rw [← hw1, ← hbt, ← hbv]
  clear hw1 hbv hbt
  cases hq : ballotB vs with
  | false =>
    have HC := Lib.hid (newsrv_bad (fun _ => True) Av nv cv vs w1 H.out.2.2.2.1 hlv hnv hq)
    obtain ⟨h1, rfl⟩ : (ra, rb) = ((0, 0) : Int × Int) ∧ re = 110 := by
      have := H.out.2.2.2.2.1
      unfold serviceD at this
      rw [if_pos hq] at this
      exact Prod.mk.inj this
    obtain ⟨rfl, rfl⟩ := Prod.mk.inj h1
    clear h1 hq
    go_wp2_with fail
    refine Calls.mono HC.out ?_
    rintro e w2 ⟨rfl, hf2⟩
    have htb := H.out.2.2.2.2.2.2.2.1.keep hf2 trivial
    have b0 := htb.cell 0; have b1 := htb.cell 1; have f0 := htb.frozen 0; have f1 := htb.frozen 1; have lb := htb.lt
    simp at b0 b1
    have H2 := Lib.hid (And.intro hf2 htb)
    clear hf2 htb HC v0 tv
    go_wp2_with fail
    refine bodyPost_ret (results_blk rfl _ _ bt 29 #[.int .i64 0, .int .i64 0] _ (.int .i64 110) rfl ((H2.out.2.set 0 _).set 1 _) Tryz.underlying29 rfl (by kernel_rfl) rfl) rfl ?_
    exact ⟨rfl, ((H.out.2.2.2.2.2.1.trans H2.out.1).setCell (fun h => by have := H.out.2.2.2.2.2.2.2.2; have h' : bt < w.heap.size := h; omega) _).setCell (fun h => by have := H.out.2.2.2.2.2.2.2.2; have h' : bt < w.heap.size := h; omega) _⟩
  | true =>
    have HC := Lib.hid (newsrv_any (fun _ => True) Av nv cv vs w1 H.out.1 H.out.2.2.2.1 hlv hnv hq)
    have HQ := Lib.hid hq
    clear hq
    go_wp2_with fail
    refine Calls.mono HC.out ?_
    rintro e w2 ⟨F, T, rfl, hS⟩
    have hf2 : Fresh w1 w2 := hS.fresh
    have ep : Enters Tryz.prog 17 := enters_of Tryz.func17 (by kernel_rfl) rfl
    have HE := Lib.hid (every_mark ep (cap := #[.pointer (some ⟨bv, 0, none⟩)]) (nodeB nv) (fun _ => True) A n c hs w2 ((H.out.2.1.rd.keep (hf2.weaken fun _ _ _ => trivial)).weaken fun _ _ => trivial) H.out.2.1.len H.out.2.1.le H.out.2.1.one (fun W x hx hf => node_any bv Av nv cv x W ((H.out.2.2.2.2.2.2.1.keep hf2 trivial).keep hf trivial)))
    have H2 := Lib.hid (And.intro hf2 hS)
    obtain ⟨ok, hok⟩ : ∃ o, o = hs.all (nodeB nv) := ⟨_, rfl⟩
    rw [← hok] at HE
    have hrr : ((ra, rb), re) = if ok = false then (((0, 0) : Int × Int), (1 : Int)) else (servD vs (dsOf hs), 0) := by
      have := H.out.2.2.2.2.1
      unfold serviceD at this
      rw [if_neg (by rw [HQ.out]; decide), hlv, ← all_nodes, ← hok] at this
      exact this
    have HR := Lib.hid hrr
    clear HC hf2 hS hok hrr v0 tv b0 b1 f0 f1 lb
    go_wp2_with fail
    refine Calls.mono HE.out ?_
    rintro e w3 ⟨rfl, hf3⟩
    have H3 := Lib.hid hf3
    clear HE hf3
    cases ok
    · obtain ⟨h1, rfl⟩ : (ra, rb) = ((0, 0) : Int × Int) ∧ re = 1 := by
        have := HR.out
        rw [if_pos rfl] at this
        exact Prod.mk.inj this
      obtain ⟨rfl, rfl⟩ := Prod.mk.inj h1
      clear h1
      have htb := H.out.2.2.2.2.2.2.2.1.keep (H2.out.1.trans H3.out) trivial
      have b0 := htb.cell 0; have b1 := htb.cell 1; have f0 := htb.frozen 0; have f1 := htb.frozen 1; have lb := htb.lt
      simp at b0 b1
      have H4 := Lib.hid htb
      clear htb
      go_wp2_with fail
      refine bodyPost_ret (results_blk rfl _ _ bt 29 #[.int .i64 0, .int .i64 0] _ (.int .i64 1) rfl ((H4.out.set 0 _).set 1 _) Tryz.underlying29 rfl (by kernel_rfl) rfl) rfl ?_
      exact ⟨rfl, ((H.out.2.2.2.2.2.1.trans (H2.out.1.trans H3.out)).setCell (fun h => by have := H.out.2.2.2.2.2.2.2.2; have h' : bt < w.heap.size := h; omega) _).setCell (fun h => by have := H.out.2.2.2.2.2.2.2.2; have h' : bt < w.heap.size := h; omega) _⟩
    · obtain ⟨h1, rfl⟩ : (ra, rb) = servD vs (dsOf hs) ∧ re = 0 := by
        have := HR.out
        rw [if_neg (by decide)] at this
        exact Prod.mk.inj this
      have HW3 := Lib.hid (walkS_any (H2.out.2.then H3.out) HQ.out A n c hs (H.out.2.1.keep ((H2.out.1.trans H3.out).weaken fun _ _ _ => trivial)) (fun x hx => (H.out.2.2.1 x hx).keep (H2.out.1.trans H3.out) (fun _ _ => trivial)))
      rw [← h1] at HW3
      simp only at HW3
      clear h1
      go_wp2_with fail
      refine Calls.mono HW3.out ?_
      rintro e w4 ⟨rfl, hk4⟩
      have htb := (H.out.2.2.2.2.2.2.2.1.keep (H2.out.1.trans H3.out) trivial).keep hk4 H.out.2.2.2.2.2.2.2.1.lt
      have b0 := htb.cell 0; have b1 := htb.cell 1; have f0 := htb.frozen 0; have f1 := htb.frozen 1; have lb := htb.lt
      simp at b0 b1
      have H4 := Lib.hid (And.intro htb hk4)
      clear htb hk4 HW3
      go_wp2_with fail
      refine bodyPost_ret (results_blk rfl _ _ bt 29 #[.int .i64 ra, .int .i64 rb] _ (.int .i64 0) rfl ((H4.out.1.set 0 _).set 1 _) Tryz.underlying29 rfl (by kernel_rfl) rfl) rfl ?_
      have h14 : Fresh w w4 := (H.out.2.2.2.2.2.1.trans (H2.out.1.trans H3.out)).comp H4.out.2 (fun _ _ h => h) (fun j hj _ => Nat.lt_of_lt_of_le hj H.out.2.2.2.2.2.1.size)
      exact ⟨rfl, (h14.setCell (fun h => by have := H.out.2.2.2.2.2.2.2.2; have h' : bt < w.heap.size := h; omega) _).setCell (fun h => by have := H.out.2.2.2.2.2.2.2.2; have h' : bt < w.heap.size := h; omega) _⟩
end Go.Proofs.YtohnmaindbgngaaGreatDoor
