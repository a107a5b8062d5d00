/-
  MERGED: RefWC RefWD RefWE
-/
import Derived.Test.YtfpcmleeehciaaaR5
import Derived.Test.YtfpcmleeehciaaaR4
import Derived.Test.YtfpcmleeehciaaaR3
import Derived.Test.YtfpcmleeehciaaaR1
namespace Go.Proofs.Ytfpcmleeehciaaa
set_option linter.unusedVariables false
set_option linter.unusedSimpArgs false
open Go.RowKit Go.Shelf

def stanL (s : StanD) (vm : Value) : List Value := [.bool s.halted, .bool s.blocked, .int .i64 s.id.1, .int .i64 s.id.2.1, .int .i64 s.id.2.2.1, .int .i64 s.id.2.2.2, .int .i64 s.prev.1, .int .i64 s.prev.2.1, .int .i64 s.prev.2.2.1, .int .i64 s.prev.2.2.2, vm, .int .i64 (s.acc : Int), .int .i64 (s.del : Int), .int .i64 (s.own : Int), .int .i64 s.lastPos, .int .i64 s.safe]
theorem stan_arr (s : StanD) (vm : Value) : stanV s vm = (stanL s vm).toArray := rfl
theorem StB.range0 {w : World} {b : Nat} {s : StanD} {vm : Value} (h : StB w b s vm) : w.rangeAt b 0 (stanL s vm) := by
  have := h.blk.range
  simpa [stan_arr] using this
/-- What a rule's walk stands on: a boxed stand, a boxed mark, the marks. -/
structure Seat2 (w0 w : World) (b4 b5 : Nat) (s : StanD) (vm : Value) (x : MkV) (A : Option Addr) (n : Nat) (hs : List MkV) : Prop where
  st : StB w b4 s vm
  mb : MkB w b5 x
  fr : Fresh w0 w
  ms : MksA w A n hs
  mx : MkA w x
  sa : StA w s vm
theorem Seat2.next {w0 w w' : World} {b4 b5 : Nat} {s : StanD} {vm : Value} {x : MkV} {A : Option Addr} {n : Nat} {hs : List MkV} (h : Seat2 w0 w b4 b5 s vm x A n hs) (hk : Fresh w w') : Seat2 w0 w' b4 b5 s vm x A n hs :=
  ⟨h.st.fresh hk, ⟨h.mb.blk.keep hk trivial⟩, h.fr.trans hk, h.ms.fresh hk, h.mx.fresh hk, h.sa.fresh hk⟩

set_option maxRecDepth 20000 in
set_option maxHeartbeats 4000000 in
theorem installs_any (A : Option Addr) (n c : Nat) (hs : List MkV) (s : StanD) (vm : Value) (x : MkV) (w : World) (h : MksA w A n hs) (hx : MkA w x) (hv : StA w s vm) (hnc : n ≤ c) (hacc : s.acc ≤ 1048576) (hown : s.own ≤ 1048576) :
    Calls Try.prog 29 #[.slice A n c, .agg (stanV s vm), .agg x.cells.toArray] w fun e w' => e = .returned (.int .i64 (installsD (dsOf hs) s x.d)) ∧ Fresh w w' := by
  have HM := Lib.hid (And.intro h (And.intro hx hv))
  clear h hx hv
  obtain ⟨R, hR⟩ : ∃ R, R = installsD (dsOf hs) s x.d := ⟨_, rfl⟩
  rw [← hR]
  have HR := Lib.hid hR
  clear hR
  rw [stan_arr]
  go_enter Try.func29, Try.ntmps29
  go_upto_region 1 with (fail)
  obtain ⟨w1, hw1⟩ : ∃ w1, w1 = (w.alloc (.cells (stanL s vm).toArray 87)).alloc (.cells x.cells.toArray 50) := ⟨_, rfl⟩
  obtain ⟨b5, hb5⟩ : ∃ b, b = w.heap.size + 1 := ⟨_, rfl⟩
  obtain ⟨b4, hb4⟩ : ∃ b, b = w.heap.size := ⟨_, rfl⟩
  rw [← hw1, ← hb5, ← hb4]
  have h2 : StB w1 b4 s vm ∧ MkB w1 b5 x ∧ Fresh w w1 := by rw [hw1, hb4, hb5]; exact two_boxes w s vm x
  have S1 : Hid (Seat2 w w1 b4 b5 s vm x A n hs) := Lib.hid ⟨h2.1, h2.2.1, h2.2.2, HM.out.1.fresh h2.2.2, HM.out.2.1.fresh h2.2.2, HM.out.2.2.fresh h2.2.2⟩
  clear h2 hw1 hb5 hb4
  obtain ⟨r2, hr2⟩ : ∃ r, r = rule2D s x.d := ⟨_, rfl⟩
  obtain ⟨r3, hr3⟩ : ∃ r, r = rule3D (dsOf hs) x.d := ⟨_, rfl⟩
  obtain ⟨r4, hr4⟩ : ∃ r, r = rule4D (dsOf hs) s x.d := ⟨_, rfl⟩
  obtain ⟨r9, hr9⟩ : ∃ r, r = rule9D (dsOf hs) s x.d := ⟨_, rfl⟩
  have HB := Lib.hid (And.intro hr2 (And.intro hr3 (And.intro hr4 hr9)))
  have HC2 := Lib.hid (fun w' (a : MkA w' x) => rule2_any s vm x w' a)
  have HC3 := Lib.hid (fun w' (a : MksA w' A n hs) (b : MkA w' x) => rule3_any A n c hs x w' a b)
  have HC4 := Lib.hid (fun w' (a : MksA w' A n hs) (b : MkA w' x) (d : StA w' s vm) => rule4_any A n c hs s vm x w' a b d.one hnc)
  have HC9 := Lib.hid (fun w' (a : MksA w' A n hs) (b : MkA w' x) (d : StA w' s vm) => rule9_any A n c hs s vm x w' a b d.one hnc)
  rw [← hr2, stan_arr] at HC2
  rw [← hr3] at HC3
  rw [← hr4, stan_arr] at HC4
  rw [← hr9, stan_arr] at HC9
  clear hr2 hr3 hr4 hr9 HM
  have l4 := S1.out.st.blk.lt; have l5 := S1.out.mb.blk.lt
  have HK := Lib.hid S1.out.st.range0
  have HL := Lib.hid S1.out.mb.range0
  go_wp2_with (first | (refine wpList_load_mid rfl 87 _ rfl b4 0 rfl (stanL s vm) _ HK.out Try.underlying87 rfl (by kernel_rfl) ?_) | (refine wpList_load_mid rfl 50 _ rfl b5 0 rfl x.cells _ HL.out Try.underlying50 rfl (by kernel_rfl) ?_))
  refine Calls.mono (HC2.out _ S1.out.mx) ?_
  rintro e w2 ⟨rfl, hf⟩
  have S2 := Lib.hid (S1.out.next hf)
  clear hf S1 l4 l5 HK HL HC2
  cases r2
  · obtain rfl : R = 2 := by rw [HR.out]; unfold installsD; exact if_pos HB.out.1.symm
    go_wp2_with fail
    go_ret
    exact ⟨rfl, S2.out.fr⟩
  have l4 := S2.out.st.blk.lt; have l5 := S2.out.mb.blk.lt
  have HK := Lib.hid S2.out.st.range0
  have HL := Lib.hid S2.out.mb.range0
  go_wp2_with (first | (refine wpList_load_mid rfl 87 _ rfl b4 0 rfl (stanL s vm) _ HK.out Try.underlying87 rfl (by kernel_rfl) ?_) | (refine wpList_load_mid rfl 50 _ rfl b5 0 rfl x.cells _ HL.out Try.underlying50 rfl (by kernel_rfl) ?_))
  refine Calls.mono (HC3.out _ S2.out.ms S2.out.mx) ?_
  rintro e w3 ⟨rfl, hf⟩
  have S3 := Lib.hid (S2.out.next hf)
  clear hf S2 l4 l5 HK HL HC3
  cases r3
  · obtain rfl : R = 3 := by rw [HR.out]; unfold installsD; rw [if_neg (by rw [← HB.out.1]; decide)]; exact if_pos HB.out.2.1.symm
    go_wp2_with fail
    go_ret
    exact ⟨rfl, S3.out.fr⟩
  have l4 := S3.out.st.blk.lt; have l5 := S3.out.mb.blk.lt
  have HK := Lib.hid S3.out.st.range0
  have HL := Lib.hid S3.out.mb.range0
  go_wp2_with (first | (refine wpList_load_mid rfl 87 _ rfl b4 0 rfl (stanL s vm) _ HK.out Try.underlying87 rfl (by kernel_rfl) ?_) | (refine wpList_load_mid rfl 50 _ rfl b5 0 rfl x.cells _ HL.out Try.underlying50 rfl (by kernel_rfl) ?_))
  refine Calls.mono (HC4.out _ S3.out.ms S3.out.mx S3.out.sa) ?_
  rintro e w4 ⟨rfl, hf⟩
  have S4 := Lib.hid (S3.out.next hf)
  clear hf S3 l4 l5 HK HL HC4
  cases r4
  · obtain rfl : R = 4 := by rw [HR.out]; unfold installsD; rw [if_neg (by rw [← HB.out.1]; decide), if_neg (by rw [← HB.out.2.1]; decide)]; exact if_pos HB.out.2.2.1.symm
    go_wp2_with fail
    go_ret
    exact ⟨rfl, S4.out.fr⟩
  have l4 := S4.out.st.blk.lt; have l5 := S4.out.mb.blk.lt
  obtain ⟨zb, hzb⟩ : ∃ z, z = s.blocked := ⟨_, rfl⟩
  have sb := S4.out.st.blocked
  rw [← hzb] at sb
  have HZ := Lib.hid hzb
  clear hzb
  cases zb
  · obtain rfl : R = 5 := by rw [HR.out]; unfold installsD; rw [if_neg (by rw [← HB.out.1]; decide), if_neg (by rw [← HB.out.2.1]; decide), if_neg (by rw [← HB.out.2.2.1]; decide)]; exact if_pos HZ.out.symm
    go_wp2_with fail
    go_ret
    exact ⟨rfl, S4.out.fr⟩
  have HK := Lib.hid S4.out.st.range0
  have HL := Lib.hid S4.out.mb.range0
  go_wp2_with (first | (refine wpList_load_mid rfl 87 _ rfl b4 0 rfl (stanL s vm) _ HK.out Try.underlying87 rfl (by kernel_rfl) ?_) | (refine wpList_load_mid rfl 50 _ rfl b5 0 rfl x.cells _ HL.out Try.underlying50 rfl (by kernel_rfl) ?_))
  refine Calls.mono (HC9.out _ S4.out.ms S4.out.mx S4.out.sa) ?_
  rintro e w5 ⟨rfl, hf⟩
  have S5 := Lib.hid (S4.out.next hf)
  clear hf S4 l4 l5 HK HL HC9 sb
  have hmid : Hid (r9 = false → R = 9) := Lib.hid (fun a => by rw [HR.out]; unfold installsD; rw [if_neg (by rw [← HB.out.1]; decide), if_neg (by rw [← HB.out.2.1]; decide), if_neg (by rw [← HB.out.2.2.1]; decide), if_neg (by rw [← HZ.out]; decide)]; exact if_pos (by rw [← HB.out.2.2.2, a]))
  have hend : Hid (r9 = true → R = if x.d.n ≠ (s.acc : Int) - (s.own : Int) then 11 else 0) := Lib.hid (fun a => by rw [HR.out]; unfold installsD; rw [if_neg (by rw [← HB.out.1]; decide), if_neg (by rw [← HB.out.2.1]; decide), if_neg (by rw [← HB.out.2.2.1]; decide), if_neg (by rw [← HZ.out]; decide), if_neg (by rw [← HB.out.2.2.2, a]; decide)])
  clear HR HB HZ
  cases r9
  · obtain rfl : R = 9 := hmid.out rfl
    go_wp2_with fail
    go_ret
    exact ⟨rfl, S5.out.fr⟩
  have l4 := S5.out.st.blk.lt; have l5 := S5.out.mb.blk.lt
  have m13 := S5.out.mb.n; have s11 := S5.out.st.acc; have s13 := S5.out.st.own
  obtain ⟨zn, hzn⟩ : ∃ z, z = x.d.n := ⟨_, rfl⟩
  rw [← hzn] at m13 hend
  obtain ⟨za, hza⟩ : ∃ z, z = s.acc := ⟨_, rfl⟩
  obtain ⟨zo, hzo⟩ : ∃ z, z = s.own := ⟨_, rfl⟩
  rw [← hza] at s11 hend hacc
  rw [← hzo] at s13 hend hown
  clear hzn hza hzo
  have wr : IntKind.i64.wrap ((za : Int) - (zo : Int)) = (za : Int) - (zo : Int) := by rw [IntWalk.i64_in _ (by omega)]
  by_cases a : zn = (za : Int) - (zo : Int)
  · obtain rfl : R = 0 := by rw [hend.out rfl, if_neg (by simpa using a)]
    have b1 : (zn != (za : Int) - (zo : Int)) = false := by simpa using a
    clear a
    go_wp2_with fail
    go_ret
    exact ⟨rfl, S5.out.fr⟩
  · obtain rfl : R = 11 := by rw [hend.out rfl, if_pos a]
    have b1 : (zn != (za : Int) - (zo : Int)) = true := by simpa using a
    clear a
    go_wp2_with fail
    go_ret
    exact ⟨rfl, S5.out.fr⟩
end Go.Proofs.Ytfpcmleeehciaaa
namespace Go.Proofs.Ytfpcmleeehciaaa
set_option linter.unusedVariables false
set_option linter.unusedSimpArgs false
open Go.RowKit Go.Shelf

set_option maxRecDepth 20000 in
set_option maxHeartbeats 4000000 in
theorem broken_any (A : Option Addr) (n c : Nat) (hs : List MkV) (x : MkV) (w : World) (h : MksA w A n hs) (hx : MkA w x) (hnc : n ≤ c) (hrd : -1 ≤ roundD (dsOf hs) ∧ roundD (dsOf hs) ≤ 1099511627776) :
    Calls Try.prog 18 #[.slice A n c, .agg x.cells.toArray] w fun e w' => e = .returned (.int .i64 (brokenD (dsOf hs) x.d)) ∧ Fresh w w' := by
  have HM := Lib.hid (And.intro h hx)
  clear h hx
  obtain ⟨R, hR⟩ : ∃ R, R = brokenD (dsOf hs) x.d := ⟨_, rfl⟩
  rw [← hR]
  have HR := Lib.hid hR
  clear hR
  go_enter Try.func18, Try.ntmps18
  go_upto_region 1 with (fail)
  obtain ⟨w1, hw1⟩ : ∃ w1, w1 = w.alloc (.cells x.cells.toArray 50) := ⟨_, rfl⟩
  obtain ⟨b3, hb3⟩ : ∃ b, b = w.heap.size := ⟨_, rfl⟩
  rw [← hw1, ← hb3]
  have hf1 : Fresh w w1 := by rw [hw1]; exact (Keep.refl _ w).alloc _
  have hm1 : MkB w1 b3 x := by rw [hw1, hb3]; exact MkB.new w x
  have H1 := Lib.hid (And.intro hm1 (And.intro hf1 (And.intro (HM.out.1.fresh hf1) (HM.out.2.fresh hf1))))
  clear hw1 hb3 hm1 hf1
  obtain ⟨r1, hr1⟩ : ∃ r, r = rule1D (dsOf hs) x.d := ⟨_, rfl⟩
  have HC1 := Lib.hid (rule1_any A n c hs x w1 H1.out.2.2.1 H1.out.2.2.2 hrd)
  rw [← hr1] at HC1
  have HB1 := Lib.hid hr1
  have l3 := H1.out.1.blk.lt
  have HL := Lib.hid H1.out.1.range0
  clear hr1
  go_wp2_with (refine wpList_load_mid rfl 50 _ rfl b3 0 rfl x.cells _ HL.out Try.underlying50 rfl (by kernel_rfl) ?_)
  refine Calls.mono HC1.out ?_
  rintro e w2 ⟨rfl, hf2⟩
  have H2 := Lib.hid (And.intro (MkB.mk (H1.out.1.blk.keep hf2 trivial) : MkB w2 b3 x) (And.intro (H1.out.2.1.trans hf2) (And.intro (H1.out.2.2.1.fresh hf2) (H1.out.2.2.2.fresh hf2))))
  clear hf2 HC1 HL l3 H1
  cases r1
  · obtain rfl : R = 1 := by rw [HR.out]; unfold brokenD; exact if_pos HB1.out.symm
    go_wp2_with fail
    go_ret
    exact ⟨rfl, H2.out.2.1⟩
  have m2 := H2.out.1.node; have m3 := H2.out.1.inc; have l3 := H2.out.1.blk.lt
  have HCs := Lib.hid (stand_any A n c hs x.d.node x.d.inc w2 H2.out.2.2.1.m H2.out.2.2.1.ok)
  go_wp2_with fail
  refine Calls.mono HCs.out ?_
  rintro e w3 ⟨⟨vm, rfl, hsl, hle⟩, hf3⟩
  obtain ⟨s, hs'⟩ : ∃ s, s = stanD (x.d.node, x.d.inc) (dsOf hs) := ⟨_, rfl⟩
  rw [← hs'] at hsl hle ⊢
  have HST := Lib.hid hs'
  have hsa : StA w3 s vm := ⟨hsl.weaken fun _ _ => trivial, hle⟩
  have hb := stan_le (x.d.node, x.d.inc) (dsOf hs)
  rw [← hs', dsOf_len, H2.out.2.2.1.m.len] at hb
  have hnm := H2.out.2.2.1.m.le
  have hacc : s.acc ≤ 1048576 := by omega
  have hdel : s.del ≤ 1048576 := by omega
  have hown : s.own ≤ 1048576 := by omega
  have HSA := Lib.hid hsa
  have HF3 := Lib.hid hf3
  have H3 := Lib.hid (And.intro (MkB.mk (H2.out.1.blk.keep hf3 trivial) : MkB w3 b3 x) (And.intro (H2.out.2.1.trans hf3) (And.intro (H2.out.2.2.1.fresh hf3) (H2.out.2.2.2.fresh hf3))))
  clear hsl hle hsa hs' hb hnm hf3 HCs m2 m3 l3 H2 HM
  rw [stan_arr]
  go_wp2_with (refine wpList_store_new rfl (.tmp 6) (.tmp 17) rfl _ (stanL s vm).toArray _ rfl rfl rfl (by kernel_rfl) (stan_one _ _ HSA.out.one) ?_)
  intro w4 hb4 hf4 hs4
  obtain ⟨b6, hb6⟩ : ∃ b, b = w3.heap.size := ⟨_, rfl⟩
  rw [← hb6] at hb4 ⊢
  have S := Lib.hid (Seat2.mk ⟨hb4⟩ ⟨H3.out.1.blk.keep hf4 trivial⟩ (H3.out.2.1.trans hf4) (H3.out.2.2.1.fresh hf4) (H3.out.2.2.2.fresh hf4) (HSA.out.fresh hf4) : Seat2 w w4 b6 b3 s vm x A n hs)
  have hb : R = (if x.d.kind = 7 then installsD (dsOf hs) s x.d
      else if x.d.kind = 6 then (if s.blocked = true then 5 else 0)
      else if x.d.kind = 4 then (if s.blocked = true ∨ x.d.id ≠ s.id ∨ x.d.seq ≠ (s.acc : Int) + 1 then 6 else 0)
      else if x.d.kind = 8 then (if rule7D (dsOf hs) s x.d = false then 7 else if rule8D (dsOf hs) s x.d = false then 8 else 0)
      else if x.d.kind = 9 then (if rule10D (dsOf hs) s x.d = false then 10 else 0)
      else 0) := by
    rw [HR.out]
    unfold brokenD
    rw [if_neg (by rw [← HB1.out]; decide), HST.out]
    rfl
  have HR2 := Lib.hid hb
  clear hb hb4 hf4 hs4 hb6 H3 HSA HF3 HST HR HB1
  have l6 := S.out.st.blk.lt; have l3 := S.out.mb.blk.lt
  have m1 := S.out.mb.kind
  obtain ⟨zk, hzk⟩ : ∃ z, z = x.d.kind := ⟨_, rfl⟩
  rw [← hzk] at m1 HR2
  clear hzk
  have HK := Lib.hid S.out.st.range0
  have HL := Lib.hid S.out.mb.range0
  by_cases k7 : zk = 7
  · subst k7
    have HC := Lib.hid (installs_any A n c hs s vm x w4 S.out.ms S.out.mx S.out.sa hnc hacc hown)
    rw [stan_arr] at HC
    obtain ⟨r, hr⟩ : ∃ r, r = installsD (dsOf hs) s x.d := ⟨_, rfl⟩
    rw [← hr] at HC HR2
    obtain rfl : R = r := by rw [HR2.out]; rfl
    clear hr
    go_wp2_with (first | (refine wpList_load_mid rfl 87 _ rfl b6 0 rfl (stanL s vm) _ HK.out Try.underlying87 rfl (by kernel_rfl) ?_) | (refine wpList_load_mid rfl 50 _ rfl b3 0 rfl x.cells _ HL.out Try.underlying50 rfl (by kernel_rfl) ?_))
    refine Calls.mono HC.out ?_
    rintro e w5 ⟨rfl, hf⟩
    have HF := Lib.hid (S.out.fr.trans hf)
    clear hf
    go_wp2_with fail
    go_ret
    exact ⟨rfl, HF.out⟩
  have c7 : (zk == 7) = false := by simpa using k7
  by_cases k6 : zk = 6
  · subst k6
    have sb := S.out.st.blocked
    obtain ⟨zb, hzb⟩ : ∃ z, z = s.blocked := ⟨_, rfl⟩
    rw [← hzb] at sb HR2
    clear hzb k7
    cases zb
    · obtain rfl : R = 0 := by rw [HR2.out]; rfl
      go_wp2_with fail
      go_ret
      exact ⟨rfl, S.out.fr⟩
    · obtain rfl : R = 5 := by rw [HR2.out]; rfl
      go_wp2_with fail
      go_ret
      exact ⟨rfl, S.out.fr⟩
  have c6 : (zk == 6) = false := by simpa using k6
  by_cases k4 : zk = 4
  · subst k4
    have h4 : R = if s.blocked = true ∨ x.d.id ≠ s.id ∨ x.d.seq ≠ (s.acc : Int) + 1 then 6 else 0 := by rw [HR2.out]; rfl
    have sb := S.out.st.blocked; have s1 := S.out.st.i1; have s2 := S.out.st.i2; have s3 := S.out.st.i3; have s4 := S.out.st.i4; have s11 := S.out.st.acc
    have m4 := S.out.mb.e1; have m5 := S.out.mb.e2; have m6 := S.out.mb.e3; have m7 := S.out.mb.e4; have m11 := S.out.mb.seq
    have Q := fun w => neview x.d.id s.id w
    obtain ⟨r, hr⟩ : ∃ r, r = decide (x.d.id ≠ s.id) := ⟨_, rfl⟩
    rw [← hr] at Q
    simp only [MarkD.id] at Q
    obtain ⟨zb, hzb⟩ : ∃ z, z = s.blocked := ⟨_, rfl⟩
    rw [← hzb] at sb h4
    obtain ⟨za, hza⟩ : ∃ z, z = s.acc := ⟨_, rfl⟩
    rw [← hza] at s11 h4 hacc
    obtain ⟨zq, hzq⟩ : ∃ z, z = x.d.seq := ⟨_, rfl⟩
    rw [← hzq] at m11 h4
    have wa : IntKind.i64.wrap ((za : Int) + 1) = (za : Int) + 1 := by rw [IntWalk.i64_in _ (by omega)]
    have h6 : (zb = true ∨ r = true ∨ zq ≠ (za : Int) + 1) → R = 6 := fun a => by
      rw [h4]
      refine if_pos ?_
      rcases a with a | a | a
      · exact .inl a
      · exact .inr (.inl (by rw [a] at hr; exact of_decide_eq_true hr.symm))
      · exact .inr (.inr a)
    have h0 : zb = false → r = false → zq = (za : Int) + 1 → R = 0 := fun a b d => by
      rw [h4]
      refine if_neg ?_
      rintro (e | e | e)
      · rw [a] at e; cases e
      · rw [decide_eq_true e, b] at hr; cases hr
      · exact e d
    have H6 := Lib.hid h6
    have H0 := Lib.hid h0
    clear h4 h6 h0 hr hzb hza hzq k7 k6 HR2
    cases zb
    rotate_left
    · obtain rfl : R = 6 := H6.out (.inl rfl)
      go_wp2_with fail
      go_ret
      exact ⟨rfl, S.out.fr⟩
    cases r
    rotate_left
    · obtain rfl : R = 6 := H6.out (.inr (.inl rfl))
      go_wp2_with fail
      go_ret
      exact ⟨rfl, S.out.fr⟩
    by_cases a : zq = (za : Int) + 1
    · obtain rfl : R = 0 := H0.out rfl rfl a
      have b1 : (zq != (za : Int) + 1) = false := by simpa using a
      clear a
      go_wp2_with fail
      go_ret
      exact ⟨rfl, S.out.fr⟩
    · obtain rfl : R = 6 := H6.out (.inr (.inr a))
      have b1 : (zq != (za : Int) + 1) = true := by simpa using a
      clear a
      go_wp2_with fail
      go_ret
      exact ⟨rfl, S.out.fr⟩
  have c4 : (zk == 4) = false := by simpa using k4
  by_cases k8 : zk = 8
  · subst k8
    have h8 : R = (if rule7D (dsOf hs) s x.d = false then 7 else if rule8D (dsOf hs) s x.d = false then 8 else 0) := by rw [HR2.out]; rfl
    have HC := Lib.hid (rule7_any A n c hs s vm x w4 S.out.ms S.out.mx S.out.sa)
    rw [stan_arr] at HC
    have HC8 := Lib.hid (fun w' (a : MksA w' A n hs) (b : MkA w' x) => rule8_any A n c hs s vm x w' a b hdel)
    rw [stan_arr] at HC8
    obtain ⟨r7, hr7⟩ : ∃ r, r = rule7D (dsOf hs) s x.d := ⟨_, rfl⟩
    obtain ⟨r8, hr8⟩ : ∃ r, r = rule8D (dsOf hs) s x.d := ⟨_, rfl⟩
    rw [← hr7] at HC h8
    rw [← hr8] at HC8 h8
    have H8 := Lib.hid h8
    clear h8 hr7 hr8 k7 k6 k4 HR2
    go_wp2_with (first | (refine wpList_load_mid rfl 87 _ rfl b6 0 rfl (stanL s vm) _ HK.out Try.underlying87 rfl (by kernel_rfl) ?_) | (refine wpList_load_mid rfl 50 _ rfl b3 0 rfl x.cells _ HL.out Try.underlying50 rfl (by kernel_rfl) ?_))
    refine Calls.mono HC.out ?_
    rintro e w5 ⟨rfl, hf⟩
    have S5 := Lib.hid (S.out.next hf)
    clear hf HK HL l6 l3 m1 S HC
    cases r7
    · obtain rfl : R = 7 := by rw [H8.out]; rfl
      go_wp2_with fail
      go_ret
      exact ⟨rfl, S5.out.fr⟩
    have l6 := S5.out.st.blk.lt; have l3 := S5.out.mb.blk.lt
    have HK := Lib.hid S5.out.st.range0
    have HL := Lib.hid S5.out.mb.range0
    go_wp2_with (first | (refine wpList_load_mid rfl 87 _ rfl b6 0 rfl (stanL s vm) _ HK.out Try.underlying87 rfl (by kernel_rfl) ?_) | (refine wpList_load_mid rfl 50 _ rfl b3 0 rfl x.cells _ HL.out Try.underlying50 rfl (by kernel_rfl) ?_))
    refine Calls.mono (HC8.out _ S5.out.ms S5.out.mx) ?_
    rintro e w6 ⟨rfl, hf⟩
    have HF := Lib.hid (S5.out.fr.trans hf)
    clear hf HK HL l6 l3 S5 HC8
    cases r8
    · obtain rfl : R = 8 := by rw [H8.out]; rfl
      go_wp2_with fail
      go_ret
      exact ⟨rfl, HF.out⟩
    · obtain rfl : R = 0 := by rw [H8.out]; rfl
      go_wp2_with fail
      go_ret
      exact ⟨rfl, HF.out⟩
  have c8 : (zk == 8) = false := by simpa using k8
  by_cases k9 : zk = 9
  · subst k9
    have h9 : R = (if rule10D (dsOf hs) s x.d = false then 10 else 0) := by rw [HR2.out]; rfl
    have HC := Lib.hid (rule10_any A n c hs s vm x w4 S.out.ms S.out.mx S.out.sa)
    rw [stan_arr] at HC
    obtain ⟨r, hr⟩ : ∃ r, r = rule10D (dsOf hs) s x.d := ⟨_, rfl⟩
    rw [← hr] at HC h9
    have H9 := Lib.hid h9
    clear h9 hr k7 k6 k4 k8 HR2
    go_wp2_with (first | (refine wpList_load_mid rfl 87 _ rfl b6 0 rfl (stanL s vm) _ HK.out Try.underlying87 rfl (by kernel_rfl) ?_) | (refine wpList_load_mid rfl 50 _ rfl b3 0 rfl x.cells _ HL.out Try.underlying50 rfl (by kernel_rfl) ?_))
    refine Calls.mono HC.out ?_
    rintro e w5 ⟨rfl, hf⟩
    have HF := Lib.hid (S.out.fr.trans hf)
    clear hf HK HL l6 l3 m1 S HC
    cases r
    · obtain rfl : R = 10 := by rw [H9.out]; rfl
      go_wp2_with fail
      go_ret
      exact ⟨rfl, HF.out⟩
    · obtain rfl : R = 0 := by rw [H9.out]; rfl
      go_wp2_with fail
      go_ret
      exact ⟨rfl, HF.out⟩
  have c9 : (zk == 9) = false := by simpa using k9
  obtain rfl : R = 0 := by rw [HR2.out, if_neg k7, if_neg k6, if_neg k4, if_neg k8, if_neg k9]
  clear k7 k6 k4 k8 k9 HR2
  go_wp2_with fail
  go_ret
  exact ⟨rfl, S.out.fr⟩
end Go.Proofs.Ytfpcmleeehciaaa
namespace Go.Proofs.Ytfpcmleeehciaaa
set_option linter.unusedVariables false
set_option linter.unusedSimpArgs false
open Go.RowKit Go.Shelf

theorem bd_stG (ms : List MarkD) : ∀ k, k ≤ ms.length → BdG (stG (ms.take k)) k
  | 0, _ => by simp [stG]; exact bd0
  | k + 1, h => by
    rw [stG_snoc (show k < ms.length by omega)]
    exact (bd_stG ms k (by omega)).next
theorem round_bound (ms : List MarkD) (k : Nat) (hk : k ≤ ms.length) (hl : k ≤ 1048576) (hb : ∀ j (hj : j < k), ∀ (hl : j < ms.length), brokenD (ms.take j) ms[j] = 0) : -1 ≤ roundD (ms.take k) ∧ roundD (ms.take k) ≤ 1099511627776 := by
  have h1 := (RInv.all ms k hk hb).clock
  have h2 := (bd_stG ms k hk).clock
  rw [h1]
  constructor <;> omega
theorem findR_drop {ms : List MarkD} {k : Nat} (h : k < ms.length) (h0 : brokenD (ms.take k) ms[k] = 0) : findR (ms.take k) (ms.drop k) = findR (ms.take (k + 1)) (ms.drop (k + 1)) := by
  rw [List.drop_eq_getElem_cons h, List.take_succ_eq_append_getElem h]
  show (if brokenD (ms.take k) ms[k] ≠ 0 then _ else _) = _
  rw [if_neg (by simpa using h0)]
theorem findR_stop {ms : List MarkD} {k : Nat} (h : k < ms.length) (h0 : brokenD (ms.take k) ms[k] ≠ 0) : findR (ms.take k) (ms.drop k) = (brokenD (ms.take k) ms[k], (k : Int)) := by
  rw [List.drop_eq_getElem_cons h]
  show (if brokenD (ms.take k) ms[k] ≠ 0 then _ else _) = _
  rw [if_pos h0, List.length_take, Nat.min_eq_left (by omega)]
/-- What stands behind k marks that break no rule. -/
structure RWalk (w0 wr : World) (ds : List MarkD) (k : Nat) : Prop where
  fresh : Fresh w0 wr
  good : ∀ j (hj : j < k), ∀ (hl : j < ds.length), brokenD (ds.take j) ds[j] = 0
  eq : findR [] ds = findR (ds.take k) (ds.drop k)
theorem RWalk.next {w0 wr w' : World} {ds : List MarkD} {k : Nat} (h : RWalk w0 wr ds k) (hf : Fresh wr w') (hk : k < ds.length) (h0 : brokenD (ds.take k) ds[k] = 0) : RWalk w0 w' ds (k + 1) :=
  ⟨h.fresh.trans hf, fun j hj hl => by
    by_cases e : j = k
    · subst e; exact h0
    · exact h.good j (by omega) hl, by rw [h.eq, findR_drop hk h0]⟩

set_option maxRecDepth 20000 in
set_option maxHeartbeats 4000000 in
theorem rgroup_any (A : Option Addr) (n c : Nat) (hs : List MkV) (w : World) (h : MksA w A n hs) (hnc : n ≤ c) :
    Calls Try.prog 8 #[.slice A n c] w fun e w' => e = .returned (.agg #[.int .i64 (findR [] (dsOf hs)).1, .int .i64 (findR [] (dsOf hs)).2]) ∧ Fresh w w' := by
  obtain ⟨R, hR⟩ : ∃ R, R = findR [] (dsOf hs) := ⟨_, rfl⟩
  rw [← hR]
  obtain ⟨ra, rb⟩ := R
  have HM := Lib.hid h
  have HR := Lib.hid hR
  have hle := h.m.le
  have hf0 : Fresh w (w.alloc (.cells #[.int .i64 0, .int .i64 0] 29)) := (Keep.refl _ w).alloc _
  have hb0 : Blk (w.alloc (.cells #[.int .i64 0, .int .i64 0] 29)) w.heap.size 29 #[.int .i64 0, .int .i64 0] := Blk.new _ _ _
  clear h hR
  go_enter Try.func8, Try.ntmps8
  go_upto_region 1 with (fail)
  obtain ⟨bt, hbt⟩ : ∃ b, b = w.heap.size := ⟨_, rfl⟩
  obtain ⟨w0, hw0⟩ : ∃ w0, w0 = w.alloc (.cells #[.int .i64 0, .int .i64 0] 29) := ⟨_, rfl⟩
  rw [← hbt, ← hw0] at hb0
  rw [← hw0] at hf0
  rw [← hbt, ← hw0]
  have H0 := Lib.hid (And.intro hf0 (And.intro hb0 hbt))
  clear hbt hw0 hf0 hb0
  go_wp2_with fail
  go_loopw [3] (fun iv wr => ∃ k : Nat, k ≤ n ∧ iv = .int .i64 (k : Int) ∧ Hid (RWalk w0 wr (dsOf hs) k)) (fun i _ => n - (intOf i).toNat)
  case atStart => exact ⟨0, Nat.zero_le _, rfl, Lib.hid ⟨Keep.refl _ _, fun j hj => absurd hj (Nat.not_lt_zero j), rfl⟩⟩
  case round =>
    rename World => wr
    obtain ⟨k, hk, rfl, HW⟩ := hrel
    by_cases hlt : k < n
    · have hMr := HM.out.fresh (H0.out.1.trans HW.out.fresh)
      obtain ⟨b, o, x, rfl, hat⟩ := hMr.at1 hlt
      have hds : (dsOf hs).length = n := by rw [dsOf_len, HM.out.m.len]
      have etk : dsOf (hs.take k) = (dsOf hs).take k := List.map_take
      have hrd := round_bound (dsOf hs) k (by omega) (by omega) HW.out.good
      rw [← etk] at hrd
      have hfd : Fresh wr wr.drew := (Keep.refl _ wr).drew
      have HC := Lib.hid (broken_any (some ⟨b, o, none⟩) k c (hs.take k) x wr.drew ((hMr.take hk).fresh hfd) ((MkA.mk hat.ok hat.fit : MkA wr x).fresh hfd) (by omega) hrd)
      have hxd : ∃ hl : k < (dsOf hs).length, x.d = (dsOf hs)[k] := by
        obtain ⟨hl, rfl⟩ := hat.at_
        exact ⟨by rw [dsOf_len]; exact hl, (dsOf_get hl).symm⟩
      obtain ⟨q, hq⟩ : ∃ q, q = brokenD (dsOf (hs.take k)) x.d := ⟨_, rfl⟩
      rw [← hq] at HC
      have HQ : Hid (∃ hl : k < (dsOf hs).length, q = brokenD ((dsOf hs).take k) (dsOf hs)[k]) := Lib.hid (by
        obtain ⟨hl, e⟩ := hxd
        exact ⟨hl, by rw [hq, etk, e]⟩)
      have HA := Lib.hid hat
      have hkc : k ≤ c := by omega
      clear hq hxd hrd etk hds hat hMr hfd
      go_upto_region 4 with (fail)
      refine wp_region_still_tail 7 (by kernel_rfl) (by kernel_rfl) ?_
      simp only [List.take_succ_cons, List.take_zero, List.drop_succ_cons, List.drop_zero]
      repeat (first | (refine wpStill_load_mid rfl 50 _ rfl b (o + k * 26) rfl x.cells _ HA.out.rng Try.underlying50 rfl (by kernel_rfl) ?_; simp only [Act.put, List.setIfInBounds_toArray, List.set_cons_zero, List.set_cons_succ]) | still_step)
      refine wpStill_nil ?_
      change wpList _ _ _ _ _ wr.drew
      go_wp2_with fail
      refine Calls.mono HC.out ?_
      rintro e w2 ⟨rfl, hf2⟩
      have hF : Fresh wr w2 := ((Keep.refl _ wr).drew).trans hf2
      have HF := Lib.hid hF
      have hb2 : Blk w2 bt 29 #[.int .i64 0, .int .i64 0] := H0.out.2.1.keep (HW.out.fresh.trans hF) trivial
      have b0 := hb2.cell 0; have b1 := hb2.cell 1; have f0 := hb2.frozen 0; have f1 := hb2.frozen 1; have lb := hb2.lt
      simp at b0 b1
      have HB2 := Lib.hid hb2
      clear hf2 hF hb2 HC HA
      by_cases hz : q = 0
      · subst hz
        clear b0 b1 f0 f1 lb
        go_wp2_with fail
        refine ⟨⟨k + 1, by omega, by simp, Lib.hid ?_⟩, by simp [intOf]; omega⟩
        obtain ⟨hl, e⟩ := HQ.out
        exact HW.out.next HF.out hl e.symm
      · have hzb : (q != 0) = true := by simpa using hz
        have e : ((ra, rb) : Int × Int) = (q, (k : Int)) := by
          obtain ⟨hl, e⟩ := HQ.out
          rw [HR.out, HW.out.eq, findR_stop hl (by rw [← e]; exact hz), ← e]
        obtain ⟨rfl, rfl⟩ := Prod.mk.inj e
        have HFw : Hid (Fresh w w2) := Lib.hid ((H0.out.1.trans HW.out.fresh).trans HF.out)
        clear hz e HR
        go_wp2_with fail
        refine bodyPost_ret (results_v rfl _ _ bt 29 #[.int .i64 ra, .int .i64 (k : Int)] _ rfl ((HB2.out.set 0 _).set 1 _) Try.underlying29 rfl (by kernel_rfl)) rfl ?_
        refine ⟨rfl, (HFw.out.setCell (fun h => ?_) _).setCell (fun h => ?_) _⟩
        · have := H0.out.2.2; have h' : bt < w.heap.size := h; omega
        · have := H0.out.2.2; have h' : bt < w.heap.size := h; omega
    · obtain rfl : k = n := by omega
      have e : (ra, rb) = ((0, 0) : Int × Int) := by
        rw [HR.out, HW.out.eq, List.drop_of_length_le (by rw [dsOf_len, HM.out.m.len]; exact Nat.le_refl _)]
        rfl
      obtain ⟨rfl, rfl⟩ := Prod.mk.inj e
      have hb : Blk wr bt 29 #[.int .i64 0, .int .i64 0] := H0.out.2.1.keep HW.out.fresh trivial
      have b0 := hb.cell 0; have b1 := hb.cell 1; have f0 := hb.frozen 0; have f1 := hb.frozen 1; have lb := hb.lt
      simp at b0 b1
      have HRes := Lib.hid hb
      have HFw : Hid (Fresh w wr) := Lib.hid (H0.out.1.trans HW.out.fresh)
      clear hb HR e
      go_wp2_with fail
      refine bodyPost_ret (results_v rfl _ _ bt 29 #[.int .i64 0, .int .i64 0] _ rfl ((HRes.out.set 0 _).set 1 _) Try.underlying29 rfl (by kernel_rfl)) rfl ?_
      refine ⟨rfl, (HFw.out.setCell (fun h => ?_) _).setCell (fun h => ?_) _⟩
      · have := H0.out.2.2; have h' : bt < w.heap.size := h; omega
      · have := H0.out.2.2; have h' : bt < w.heap.size := h; omega
/-- The document's Group answers as the program's. -/
theorem rgroup_same (A : Option Addr) (n c : Nat) (hs : List MkV) (w : World) (h : MksA w A n hs) (hnc : n ≤ c) :
    Calls Try.prog 8 #[.slice A n c] w fun e w' => e = .returned (.agg #[.int .i64 (groupG (dsOf hs)).1, .int .i64 (groupG (dsOf hs)).2]) ∧ Fresh w w' := by
  rw [group_same]
  exact rgroup_any A n c hs w h hnc
end Go.Proofs.Ytfpcmleeehciaaa
