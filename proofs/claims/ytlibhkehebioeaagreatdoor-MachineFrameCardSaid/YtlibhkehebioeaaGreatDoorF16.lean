/-
  MERGED: First OnceP SameM Tok
-/
import Derived.Test.YtlibhkehebioeaaGreatDoorF15
import Derived.Test.YtlibhkehebioeaaGreatDoorF14
import Derived.Deep.RegionHeld3
import Derived.Test.YtlibhkehebioeaaGreatDoorF6
namespace Go.Proofs.YtlibhkehebioeaaGreatDoor
set_option linter.unusedVariables false
set_option linter.unusedSimpArgs false
open Go.RowKit

def fS1 : StD := ⟨[([107], [118])], [], 0, (List.replicate 16 noSes).set 1 ⟨1, 1, ⟨1, [], 0⟩⟩⟩
def fS2 : StD := ⟨[([107], [118])], [], 0, (List.replicate 16 noSes).set 1 ⟨1, 2, ⟨1, [118], 1⟩⟩⟩
def fS3 : StD := ⟨[([107], [118])], [⟨[108], 1, 1, []⟩], 1, (List.replicate 16 noSes).set 1 ⟨1, 3, ⟨1, [], 1⟩⟩⟩
def fS4 : StD := ⟨[([107], [118])], [⟨[108], 1, 1, [2]⟩], 1, ((List.replicate 16 noSes).set 1 ⟨1, 3, ⟨1, [], 1⟩⟩).set 2 ⟨1, 1, ⟨7, [], 1⟩⟩⟩
theorem fa1 : applyD 1 1 1 1 [107] [118] [] newD = (⟨1, [], 0⟩, fS1) := by kernel_rfl
theorem fa2 : applyD 1 1 2 2 [107] [] [] fS1 = (⟨1, [118], 1⟩, fS2) := by kernel_rfl
theorem fa3 : applyD 1 1 3 6 [108] [] [] fS2 = (⟨1, [], 1⟩, fS3) := by kernel_rfl
theorem fa4 : applyD 2 1 1 6 [108] [] [] fS3 = (⟨7, [], 1⟩, fS4) := by kernel_rfl
theorem fget : (pfind [107] fS3.pairs) = some [118] := by kernel_rfl
theorem fhold : holdD [108] fS3 = ((1, 1, 1), true) := by kernel_rfl
theorem fses : sessD 1 fS3 = (⟨1, 3, ⟨1, [], 1⟩⟩, true) := by kernel_rfl
theorem fwait : (waitD [108] fS4).length = 1 := by kernel_rfl
/-- A call that made blocks only, and a new variable behind it: all from one world. -/
theorem Fresh.then {a b c : World} (h : Fresh a b) (k : Fresh b c) : Fresh a c := h.comp k (fun _ _ h => h) (fun _ _ _ => trivial)

/-- An owned slice, read, with its room. -/
theorem own_rdc {w : World} {base e size n : Nat} {v : Value} {xs : List Value} (h : w.ownsRow base e size v n xs) : ∃ A c, v = .slice A n c ∧ n ≤ c ∧ Rd w (fun k => v.ownBlock = some k) size A n xs ∧ (n = 0 → c = 0 ∨ A ≠ none) := by
  obtain ⟨A, c, rfl, h1, h2⟩ := own_rd h
  refine ⟨A, c, rfl, ?_, h1, h2⟩
  rcases h.2 with ⟨e1, rfl⟩ | ⟨g, cap, cur, e1, hb, hh, hn, _⟩
  · exact Nat.zero_le _
  · injection e1 with e1 e2 e3
    rw [e3]
    exact hn
theorem aside {F F' : Nat → Prop} {b n : Nat} (hb : b < n) (h : ¬ F b) (hF : ∀ j, F' j → F j ∨ n ≤ j) : ¬ F' b := fun e => (hF b e).elim h (fun e => by omega)
set_option maxRecDepth 20000 in
set_option maxHeartbeats 4000000 in
theorem first_any {W : World} (hT : TabsN W) : Calls Tryz.prog 15 #[] W fun e w' => e = .returned (.bool true) ∧ Fresh W w' := by
  have HT := Lib.hid hT
  have HN := Lib.hid (mat_new W)
  clear hT
  go_enter Tryz.func15, Tryz.ntmps15
  go_wp2_with fail
  refine Calls.mono HN.out ?_
  rintro e w1 ⟨⟨m, F, rfl, hm⟩, hf⟩
  have h1 := mat_apply HT.out hf hm 1 1 1 1 [107] [118] []
  rw [fa1] at h1
  have HA1 := Lib.hid h1
  clear hm HN hf h1
  go_wp2_with fail
  refine Calls.mono HA1.out ?_
  rintro e w2 ⟨rfl, ⟨F2, hm2, -⟩, -, hf2⟩
  have H2 := Lib.hid (And.intro hm2 hf2)
  clear hm2 hf2 HA1
  go_wp2_with (refine wpList_store_new rfl (.tmp 2) (.tmp 22) rfl _ #[.int .i64 1, str [], .int .i64 0] _ rfl rfl rfl (by kernel_rfl) (by kernel_rfl) ?_)
  intro w3 hb3 hf3 hs3
  have h3 := mat_apply HT.out (H2.out.2.then hf3) (H2.out.1.fresh hf3) 1 1 2 2 [107] [] []
  rw [fa2] at h3
  have HA3 := Lib.hid h3
  obtain ⟨b1, hb1⟩ : ∃ b, b = w2.heap.size := ⟨_, rfl⟩
  rw [← hb1] at hb3 ⊢
  have H3 := Lib.hid (And.intro hb3 (And.intro (H2.out.1.fresh hf3) (And.intro (H2.out.2.then hf3) (And.intro hb1 hs3))))
  clear hb3 hf3 hs3 h3 hb1
  go_wp2_with fail
  refine Calls.mono HA3.out ?_
  rintro e w4 ⟨rfl, ⟨F4, hm4, hF4⟩, hk4, hf4⟩
  have hz0 : ¬ F2 b1 := fun hj => by have := H2.out.1.hi _ hj; have := H3.out.2.2.2.1; omega
  have hb4 := H3.out.1.keep hk4 hz0
  have hz4 := aside H3.out.1.lt hz0 hF4
  have H4 := Lib.hid (And.intro hm4 (And.intro hf4 (And.intro hb4 hz4)))
  clear hm4 hk4 hf4 hb4 HA3 H2 H3 hz0 hz4 hF4
  go_wp2_with (refine wpList_store_new rfl (.tmp 3) (.tmp 25) rfl _ #[.int .i64 1, str [118], .int .i64 1] _ rfl rfl rfl (by kernel_rfl) (by kernel_rfl) ?_)
  intro w5 hb5 hf5 hs5
  have h5 := mat_apply HT.out (H4.out.2.1.then hf5) (H4.out.1.fresh hf5) 1 1 3 6 [108] [] []
  rw [fa3] at h5
  have HA5 := Lib.hid h5
  obtain ⟨b2, hb2⟩ : ∃ b, b = w4.heap.size := ⟨_, rfl⟩
  rw [← hb2] at hb5 ⊢
  have H5 := Lib.hid (And.intro hb5 (And.intro (H4.out.2.2.1.keep hf5 trivial) hb2))
  clear hb5 hf5 hs5 h5 hb2
  go_wp2_with fail
  refine Calls.mono HA5.out ?_
  rintro e w6 ⟨rfl, ⟨F6, hm6, hF6⟩, hk6, hf6⟩
  have hz2 : ¬ F4 b2 := fun hj => by have := H4.out.1.hi _ hj; have := H5.out.2.2; omega
  have hb6 := H5.out.2.1.keep hk6 H4.out.2.2.2
  have hb6' := H5.out.1.keep hk6 hz2
  have H6 := Lib.hid (And.intro hm6 (And.intro hf6 (And.intro hb6 hb6')))
  clear hm6 hk6 hf6 hb6 hb6' HA5 H4 H5 hz2 hF6
  go_wp2_with (refine wpList_store_new rfl (.tmp 4) (.tmp 28) rfl _ #[.int .i64 1, str [], .int .i64 1] _ rfl rfl rfl (by kernel_rfl) (by kernel_rfl) ?_)
  intro w7 hb7 hf7 hs7
  obtain ⟨b3, hb3⟩ : ∃ b, b = w6.heap.size := ⟨_, rfl⟩
  rw [← hb3] at hb7 ⊢
  have hc1 := H6.out.2.2.1.keep hf7 trivial
  have hc2 := H6.out.2.2.2.keep hf7 trivial
  have x1 := hc1.cell 0; have x2 := hc2.cell 0; have x3 := hc2.cell 1; have x4 := hb7.cell 0; have x5 := hb7.cell 2
  simp at x1 x2 x3 x4 x5
  have hl1 := hc1.lt; have hl2 := hc2.lt; have hl3 := hb7.lt
  have hm7 := H6.out.1.fresh hf7
  have hf07 := H6.out.2.1.then hf7
  have HS := Lib.hid (mat_snap (HT.out.fresh hf07) hm7)
  have H7 := Lib.hid (And.intro hf07 hm7.inv)
  clear hb7 hf7 hs7 hb3 hc1 hc2 hm7 hf07 H6
  go_wp2_with fail
  refine Calls.mono HS.out ?_
  rintro e w8 ⟨⟨v, rfl, hv⟩, hf8⟩
  obtain ⟨A, c, rfl, hlc, hr8, -⟩ := own_rdc hv
  have hf08 := H7.out.1.then hf8
  have HR := Lib.hid (restore_any _ A _ c _ w8 hr8 (by have := snap_len H7.out.2; omega) hlc (HT.out.fresh hf08).n)
  have H8 := Lib.hid hf08
  clear hv hf8 hlc hr8 hf08 HS x1 x2 x3 x4 x5 hl1 hl2 hl3
  go_wp2_with fail
  refine Calls.mono HR.out ?_
  rintro e w9 ⟨hf9, ⟨s, F9, n, hs, rfl, hm9⟩ | ⟨hno, -⟩⟩
  rotate_left
  · exact absurd (restored_snap H7.out.2) (hno _)
  have es : s = fS3 := restored_uniq hs (restored_snap H7.out.2)
  subst es
  have hm9' := hm9.lower H8.out.size
  have hf09 := H8.out.then hf9
  have HG := Lib.hid (mat_get hm9' [107] (by decide))
  rw [fget] at HG
  have HNum := Lib.hid (num_any 0 w9)
  have H9 := Lib.hid (And.intro hm9' hf09)
  clear hm9 hm9' hf9 hf09 hs HR
  go_wp2_with fail
  refine Calls.mono HNum.out ?_
  rintro e _ ⟨rfl, rfl⟩
  go_wp2_with fail
  refine Calls.mono HG.out ?_
  rintro e _ ⟨rfl, rfl⟩
  have h10 := mat_holder H9.out.1 [108] (by decide)
  rw [fhold] at h10
  have HH := Lib.hid h10
  clear h10 HG HNum
  go_wp2_with fail
  refine Calls.mono HH.out ?_
  rintro e w10 ⟨rfl, hf10⟩
  have H10 := Lib.hid hf10
  clear hf10 HH
  go_wp2_with (refine wpList_store_new rfl (.tmp 9) (.tmp 73) rfl _ #[.int .i64 1, .int .i64 1, .int .i64 1] _ rfl rfl rfl (by kernel_rfl) (by kernel_rfl) ?_)
  intro w11 hb11 hf11 hs11
  obtain ⟨b4, hb4⟩ : ∃ b, b = w10.heap.size := ⟨_, rfl⟩
  rw [← hb4] at hb11 ⊢
  have hf12 := H10.out.then hf11
  have HP := Lib.hid (mat_pairs (H9.out.1.fresh hf12))
  have hz4 : ¬ F9 b4 := fun hj => by have := H9.out.1.hi _ hj; have := H10.out.size; omega
  have H11 := Lib.hid (And.intro (H9.out.1.fresh hf12) (And.intro (H9.out.2.then hf12) (And.intro hb11 hz4)))
  clear hb11 hf11 hs11 hb4 hf12 hz4 H10 H9
  go_wp2_with fail
  refine Calls.mono HP.out ?_
  rintro e w12 ⟨⟨v, rfl, hv⟩, hf12⟩
  obtain ⟨A1, c1, hv1, -⟩ := own_rd hv
  replace hv1 : v = .slice A1 1 c1 := hv1
  subst hv1
  have h13 := mat_session (H11.out.1.fresh hf12) 1
  rw [fses] at h13
  have HSe := Lib.hid h13
  have H12 := Lib.hid hf12
  clear hv hf12 h13 HP
  go_wp2_with fail
  refine Calls.mono HSe.out ?_
  rintro e w13 ⟨rfl, hf13⟩
  have H13 := Lib.hid (H12.out.then hf13)
  clear hf13 HSe H12
  go_wp2_with (refine wpList_store_new rfl (.tmp 12) (.tmp 80) rfl _ (sesA ⟨1, 3, ⟨1, [], 1⟩⟩) _ rfl rfl rfl (by kernel_rfl) (by kernel_rfl) ?_)
  intro w14 hb14 hf14 hs14
  obtain ⟨b5, hb5⟩ : ∃ b, b = w13.heap.size := ⟨_, rfl⟩
  rw [← hb5] at hb14 ⊢
  have hf15 := H13.out.then hf14
  have hz5 : ¬ F9 b5 := fun hj => by have := H11.out.1.hi _ hj; have := H13.out.size; omega
  have HL := Lib.hid (mat_locks (H11.out.1.fresh hf15))
  have H14 := Lib.hid (And.intro (H11.out.1.fresh hf15) (And.intro (H11.out.2.1.then hf15) (And.intro (H11.out.2.2.1.keep hf15 trivial) (And.intro hb14 (And.intro H11.out.2.2.2 hz5)))))
  clear hb14 hf14 hs14 hb5 hf15 hz5 H13 H11
  go_wp2_with fail
  refine Calls.mono HL.out ?_
  rintro e w15 ⟨⟨v, rfl, hv⟩, hf15⟩
  obtain ⟨A2, c2, hv2, -⟩ := own_rd hv
  replace hv2 : v = .slice A2 1 c2 := hv2
  subst hv2
  have h16 := mat_apply HT.out (H14.out.2.1.then hf15) (H14.out.1.fresh hf15) 2 1 1 6 [108] [] []
  rw [fa4] at h16
  have HA := Lib.hid h16
  have H15 := Lib.hid (And.intro (H14.out.2.2.1.keep hf15 trivial) (And.intro (H14.out.2.2.2.1.keep hf15 trivial) H14.out.2.2.2.2))
  clear hv hf15 h16 HL H14
  go_wp2_with fail
  refine Calls.mono HA.out ?_
  rintro e w16 ⟨rfl, ⟨F16, hm16, hF16⟩, hk16, hf16⟩
  have hz4 := aside H15.out.1.lt H15.out.2.2.1 hF16
  have hz5 := aside H15.out.2.1.lt H15.out.2.2.2 hF16
  have H16 := Lib.hid (And.intro hm16 (And.intro hf16 (And.intro (H15.out.1.keep hk16 H15.out.2.2.1) (And.intro (H15.out.2.1.keep hk16 H15.out.2.2.2) (And.intro hz4 hz5)))))
  clear hm16 hF16 hk16 hf16 hz4 hz5 HA H15
  go_wp2_with (refine wpList_store_new rfl (.tmp 15) (.tmp 86) rfl _ #[.int .i64 7, str [], .int .i64 1] _ rfl rfl rfl (by kernel_rfl) (by kernel_rfl) ?_)
  intro w17 hb17 hf17 hs17
  obtain ⟨b6, hb6⟩ : ∃ b, b = w16.heap.size := ⟨_, rfl⟩
  rw [← hb6] at hb17 ⊢
  have HWt := Lib.hid (mat_waiting (H16.out.1.fresh hf17) [108] (by decide))
  have H17 := Lib.hid (And.intro (H16.out.2.1.then hf17) (And.intro (H16.out.2.2.1.keep hf17 trivial) (And.intro (H16.out.2.2.2.1.keep hf17 trivial) hb17)))
  clear hb17 hf17 hs17 hb6 H16
  go_wp2_with fail
  refine Calls.mono HWt.out ?_
  rintro e w18 ⟨⟨v, rfl, hv⟩, hf18⟩
  obtain ⟨A3, c3, hv3, -⟩ := own_rd hv
  replace hv3 : v = .slice A3 1 c3 := hv3
  subst hv3
  have d4 := H17.out.2.1.keep hf18 trivial
  have d5 := H17.out.2.2.1.keep hf18 trivial
  have d6 := H17.out.2.2.2.keep hf18 trivial
  have y1 := d4.cell 0; have y2 := d4.cell 1; have y3 := d4.cell 2; have y4 := d5.cell 1; have y5 := d6.cell 0
  simp [sesA] at y1 y2 y3 y4 y5
  have hl1 := d4.lt; have hl2 := d5.lt; have hl3 := d6.lt
  have H18 := Lib.hid (H17.out.1.then hf18)
  clear d4 d5 d6 hv hf18 HWt H17
  go_wp2_with fail
  go_ret
  exact ⟨rfl, H18.out⟩
end Go.Proofs.YtlibhkehebioeaaGreatDoor
namespace Go.Proofs.YtlibhkehebioeaaGreatDoor
set_option linter.unusedVariables false
set_option linter.unusedSimpArgs false

section
variable {s : StD} {c i r o : Int} {k v d : Txt}
theorem applyD_bad (h : validB c i r o k v d = false) : applyD c i r o k v d s = (⟨10, [], 0⟩, s) := by
  unfold applyD
  rw [h]
  rfl
theorem applyD_stale (h : validB c i r o k v d = true) {z : SesD} (hz : s.ss.getD c.toNat noSes = z) (hs : z.inc > i ∨ (z.inc = i ∧ z.req > r)) : applyD c i r o k v d s = (⟨9, [], 0⟩, s) := by
  unfold applyD applyV
  rw [if_pos h]
  simp only [hz]
  rw [if_pos hs]
theorem applyD_again (h : validB c i r o k v d = true) {z : SesD} (hz : s.ss.getD c.toNat noSes = z) (h1 : z.inc = i) (h2 : z.req = r) : applyD c i r o k v d s = (z.last, s) := by
  unfold applyD applyV
  rw [if_pos h]
  simp only [hz]
  rw [if_neg (by omega), if_pos ⟨h1, h2⟩]
theorem does_ss (num : Txt → Int × Bool) (ita : Int → Txt) (c o : Int) (k v d : Txt) (s : StD) : (doesD num ita c o k v d s).2.ss = s.ss := by
  unfold doesD
  split
  · unfold onKeyD
    repeat' split
    all_goals rfl
  · split
    · unfold onLockD
      split
      · repeat' split
        all_goals rfl
      · repeat' split
        all_goals first | rfl | exact (pass_rest _ _).2
    · unfold endD
      split
      · rfl
      · exact (lets_rest _ _).2
/-- A new request: the session tells it, and what was answered. -/
theorem applyD_new (hi : Inv s) (h : validB c i r o k v d = true) {z : SesD} (hz : s.ss.getD c.toNat noSes = z) (hs : ¬ (z.inc > i ∨ (z.inc = i ∧ z.req > r))) (ha : ¬ (z.inc = i ∧ z.req = r)) :
    (applyD c i r o k v d s).2.ss = s.ss.set c.toNat ⟨i, r, (applyD c i r o k v d s).1⟩ ∧ ResOk (applyD c i r o k v d s).1 := by
  have hr := (apply_ok hi (vcmd_of h) (ita := Lib.itoa)).1
  unfold applyD
  rw [if_pos h]
  refine ⟨?_, hr⟩
  unfold applyV
  simp only [hz]
  rw [if_neg hs, if_neg ha]
  simp only [does_ss]
  split
  · rw [(lets_rest c s).2]
  · rfl
end

/-! ### the last request of each client -/
structure CmD where
  c : Int
  i : Int
  r : Int
  o : Int
  k : Txt
  v : Txt
  d : Txt
deriving DecidableEq
def noCm : CmD := ⟨0, 0, 0, 0, [], [], []⟩
def noRs : ResD := ⟨0, [], 0⟩
abbrev applyC (x : CmD) (s : StD) : ResD × StD := applyD x.c x.i x.r x.o x.k x.v x.d s
abbrev validC (x : CmD) : Bool := validB x.c x.i x.r x.o x.k x.v x.d
/-- Of one client. -/
def OnceOf (q : Nat) (z : SesD) (x : CmD) (t : ResD) : Prop := (x = noCm ∧ t = noRs ∧ z = noSes) ∨ (validC x = true ∧ x.c = (q : Int) ∧ 0 < x.i ∧ z = ⟨x.i, x.r, t⟩)
structure Once (s : StD) (last : List CmD) (told : List ResD) : Prop where
  l16 : last.length = 16
  t16 : told.length = 16
  each : ∀ q, q < 16 → OnceOf q (s.ss.getD q noSes) (last.getD q noCm) (told.getD q noRs)
theorem once_new : Once newD (List.replicate 16 noCm) (List.replicate 16 noRs) := by
  refine ⟨by simp, by simp, fun q hq => .inl ?_⟩
  have : ∀ {α : Type} (a : α), (List.replicate 16 a).getD q a = a := fun a => by
    rw [List.getD_eq_getElem?_getD, List.getElem?_replicate, if_pos hq]
    rfl
  exact ⟨this _, this _, this _⟩
section
variable {s : StD} {last : List CmD} {told : List ResD}
theorem Once.inc (h : Once s last told) {q : Nat} (hq : q < 16) : (s.ss.getD q noSes).inc = (last.getD q noCm).i ∧ (s.ss.getD q noSes).req = (last.getD q noCm).r ∧ (s.ss.getD q noSes).last = told.getD q noRs := by
  rcases h.each q hq with ⟨h1, h2, h3⟩ | ⟨h1, h2, h3, h4⟩
  · rw [h1, h2, h3]; exact ⟨rfl, rfl, rfl⟩
  · rw [h4]; exact ⟨rfl, rfl, rfl⟩
theorem valid_client {x : CmD} (h : validC x = true) : ∃ q : Nat, x.c = (q : Int) ∧ q < 16 := by
  have hv := vcmd_of h
  exact ⟨x.c.toNat, by have := hv.c0; omega, by have := hv.c0; have := hv.c1; omega⟩
theorem Once.stale (h : Once s last told) {x : CmD} (hv : validC x = true) (hs : (last.getD x.c.toNat noCm).i > x.i ∨ ((last.getD x.c.toNat noCm).i = x.i ∧ (last.getD x.c.toNat noCm).r > x.r)) : applyC x s = (⟨9, [], 0⟩, s) := by
  obtain ⟨q, hc, hq⟩ := valid_client hv
  obtain ⟨h1, h2, h3⟩ := h.inc hq
  have e : x.c.toNat = q := by omega
  rw [e] at hs
  exact applyD_stale hv rfl (by rw [e, h1, h2]; exact hs)
theorem Once.again (h : Once s last told) {x : CmD} (hv : validC x = true) (h1 : (last.getD x.c.toNat noCm).i = x.i) (h2 : (last.getD x.c.toNat noCm).r = x.r) : applyC x s = (told.getD x.c.toNat noRs, s) := by
  obtain ⟨q, hc, hq⟩ := valid_client hv
  obtain ⟨g1, g2, g3⟩ := h.inc hq
  have e : x.c.toNat = q := by omega
  rw [e] at h1 h2 ⊢
  rw [← g3, ← e]
  exact applyD_again hv rfl (by rw [e, g1]; exact h1) (by rw [e, g2]; exact h2)
theorem getD_set_self {α : Type} {l : List α} {q : Nat} (hq : q < l.length) (a d : α) : (l.set q a).getD q d = a := by
  rw [List.getD_eq_getElem?_getD, List.getElem?_set_self hq]
  rfl
theorem getD_set_ne {α : Type} {l : List α} {p q : Nat} (h : p ≠ q) (a d : α) : (l.set p a).getD q d = l.getD q d := by
  rw [List.getD_eq_getElem?_getD, List.getElem?_set_ne h, ← List.getD_eq_getElem?_getD]
theorem Once.new (h : Once s last told) (hi : Inv s) {x : CmD} (hv : validC x = true) (hs : ¬ ((last.getD x.c.toNat noCm).i > x.i ∨ ((last.getD x.c.toNat noCm).i = x.i ∧ (last.getD x.c.toNat noCm).r > x.r))) (ha : ¬ ((last.getD x.c.toNat noCm).i = x.i ∧ (last.getD x.c.toNat noCm).r = x.r)) :
    Once (applyC x s).2 (last.set x.c.toNat x) (told.set x.c.toNat (applyC x s).1) ∧ applyC x (applyC x s).2 = ((applyC x s).1, (applyC x s).2) ∧ ResOk (applyC x s).1 := by
  obtain ⟨q, hc, hq⟩ := valid_client hv
  obtain ⟨g1, g2, g3⟩ := h.inc hq
  have e : x.c.toNat = q := by omega
  rw [e] at hs ha ⊢
  obtain ⟨n1, n2⟩ := applyD_new (k := x.k) (v := x.v) (d := x.d) (o := x.o) hi hv rfl (by rw [e, g1, g2]; exact hs) (by rw [e, g1, g2]; exact ha)
  have hql : q < s.ss.length := by rw [hi.s16]; exact hq
  have hself : (applyC x s).2.ss.getD x.c.toNat noSes = ⟨x.i, x.r, (applyC x s).1⟩ := by
    show (applyD x.c x.i x.r x.o x.k x.v x.d s).2.ss.getD x.c.toNat noSes = _
    rw [n1, getD_set_self (by rw [e]; exact hql)]
  refine ⟨⟨by simp [h.l16], by simp [h.t16], fun p hp => ?_⟩, ?_, n2⟩
  · by_cases hpq : q = p
    · subst hpq
      rw [← e, hself, e, getD_set_self (by rw [h.l16]; exact hq), getD_set_self (by rw [h.t16]; exact hq)]
      exact .inr ⟨hv, hc, by have := (vcmd_of hv).i0; omega, rfl⟩
    · have e2 : (applyC x s).2.ss.getD p noSes = s.ss.getD p noSes := by
        show (applyD x.c x.i x.r x.o x.k x.v x.d s).2.ss.getD p noSes = _
        rw [n1, getD_set_ne (by rw [e]; exact hpq)]
      rw [e2, getD_set_ne hpq, getD_set_ne hpq]
      exact h.each p hp
  · exact applyD_again hv hself rfl rfl
/-- At the end: what is asked of each client's session. -/
theorem Once.end (h : Once s last told) {q : Nat} (hq : q < 16) (h0 : 0 < (last.getD q noCm).i) : applyC (last.getD q noCm) s = (told.getD q noRs, s) := by
  rcases h.each q hq with ⟨h1, _⟩ | ⟨h1, h2, h3, h4⟩
  · rw [h1] at h0
    exact absurd h0 (by decide)
  · have e : (last.getD q noCm).c.toNat = q := by rw [h2]; omega
    have := applyD_again (s := s) h1 (z := ⟨(last.getD q noCm).i, (last.getD q noCm).r, told.getD q noRs⟩) (by rw [e]; exact h4) rfl rfl
    exact this
/-- What each client's session says at the end. -/
theorem Once.ses (h : Once s last told) {q : Nat} (hq : q < 16) : (0 < (last.getD q noCm).i ∧ sessD (q : Int) s = (⟨(last.getD q noCm).i, (last.getD q noCm).r, told.getD q noRs⟩, true)) ∨ ((last.getD q noCm).i = 0 ∧ sessD (q : Int) s = (noSes, false)) := by
  have e : ((q : Int)).toNat = q := by omega
  have hn : ¬ ((q : Int) < 0 ∨ 16 ≤ (q : Int)) := by omega
  rcases h.each q hq with ⟨h1, h2, h3⟩ | ⟨h1, h2, h3, h4⟩
  · right
    refine ⟨by rw [h1]; rfl, ?_⟩
    unfold sessD
    rw [e, h3]
    rw [if_pos (.inr (.inr rfl))]
  · left
    refine ⟨h3, ?_⟩
    unfold sessD
    rw [e, h4]
    rw [if_neg]
    rintro (h | h | h)
    · omega
    · omega
    · simp only at h; omega
end
end Go.Proofs.YtlibhkehebioeaaGreatDoor
namespace Go.Proofs.YtlibhkehebioeaaGreatDoor
set_option linter.unusedVariables false
set_option linter.unusedSimpArgs false
open Go.RowKit

def CmD.cells (x : CmD) : List Value := [.int .i64 x.c, .int .i64 x.i, .int .i64 x.r, .int .i64 x.o, str x.k, str x.v, str x.d]
theorem cm_seven : ∀ x : CmD, x.cells.length = 7 := fun _ => rfl
/-- The cells of one command among a slice's. -/
def CmAt (w : World) (b o : Nat) (x : CmD) : Prop :=
  w.cell? ⟨b, o, none⟩ = some (.int .i64 x.c) ∧ w.cell? ⟨b, o + 1, none⟩ = some (.int .i64 x.i) ∧ w.cell? ⟨b, o + 2, none⟩ = some (.int .i64 x.r) ∧ w.cell? ⟨b, o + 3, none⟩ = some (.int .i64 x.o) ∧ w.cell? ⟨b, o + 4, none⟩ = some (str x.k) ∧ w.cell? ⟨b, o + 5, none⟩ = some (str x.v) ∧ w.cell? ⟨b, o + 6, none⟩ = some (str x.d)
theorem CmAt.keep {w w' : World} {Z : Nat → Prop} {b o : Nat} {x : CmD} (h : CmAt w b o x) (hk : Keep Z w w') (hz : Z b) : CmAt w' b o x :=
  ⟨hk.cellAt h.1 hz, hk.cellAt h.2.1 hz, hk.cellAt h.2.2.1 hz, hk.cellAt h.2.2.2.1 hz, hk.cellAt h.2.2.2.2.1 hz, hk.cellAt h.2.2.2.2.2.1 hz, hk.cellAt h.2.2.2.2.2.2 hz⟩
theorem Rd.cmd {w : World} {Z : Nat → Prop} {A : Option Addr} {n k : Nat} {cs : List CmD} (h : Rd w Z 7 A n (rcells CmD.cells cs)) (hk : k < n) :
    ∃ (hl : k < cs.length) (b o : Nat), A = some ⟨b, o, none⟩ ∧ Z b ∧ b < w.heap.size ∧ CmAt w b (o + k * 7) cs[k] := by
  have hl : k < cs.length := by
    have := h.1
    rw [rcells_len cm_seven] at this
    omega
  obtain ⟨b, o, hA, hz, hc⟩ := h.2 (by omega)
  have hg : ∀ j u, j < 7 → (cs[k]).cells[j]? = some u → w.cell? ⟨b, o + k * 7 + j, none⟩ = some u := fun j u hj hu => by
    have := hc (k * 7 + j) u (by rw [rcells_get cm_seven cs k hl j hj]; exact hu)
    rwa [← Nat.add_assoc] at this
  have h0 := hg 0 _ (by omega) rfl
  exact ⟨hl, b, o, hA, hz, lt_of_cell h0, h0, hg 1 _ (by omega) rfl, hg 2 _ (by omega) rfl, hg 3 _ (by omega) rfl, hg 4 _ (by omega) rfl, hg 5 _ (by omega) rfl, hg 6 _ (by omega) rfl⟩
/-- Two machines that stand alike and share nothing. -/
def Two (W w : World) (a b : Nat) (s : StD) : Prop := ∃ Fa Fb : Nat → Prop, MAt W.heap.size w Fa a s ∧ MAt W.heap.size w Fb b s ∧ (∀ j, Fa j → ¬ Fb j) ∧ Fresh W w
theorem Two.symm {W w : World} {a b : Nat} {s : StD} (h : Two W w a b s) : Two W w b a s := by
  obtain ⟨Fa, Fb, h1, h2, h3, h4⟩ := h
  exact ⟨Fb, Fa, h2, h1, fun j hj e => h3 j e hj, h4⟩
theorem Two.fresh {W w w' : World} {a b : Nat} {s : StD} (h : Two W w a b s) (hf : Fresh w w') : Two W w' a b s := by
  obtain ⟨Fa, Fb, h1, h2, h3, h4⟩ := h
  exact ⟨Fa, Fb, h1.fresh hf, h2.fresh hf, h3, h4.then hf⟩
theorem Two.step {W w w1 w2 : World} {a b : Nat} {s s' : StD} {Fa Fb Fa' Fb' : Nat → Prop} (hb : MAt W.heap.size w Fb b s) (hd : ∀ j, Fa j → ¬ Fb j)
    (h1 : MAt W.heap.size w1 Fa' a s') (g1 : ∀ j, Fa' j → Fa j ∨ w.heap.size ≤ j) (h2 : MAt W.heap.size w2 Fb' b s') (g2 : ∀ j, Fb' j → Fb j ∨ w1.heap.size ≤ j) (k2 : Keep (fun j => ¬ Fb j) w1 w2) (hf : Fresh W w2) : Two W w2 a b s' := by
  have hab : ∀ j, Fa' j → ¬ Fb j := fun j hj e => by
    rcases g1 j hj with h | h
    · exact hd j h e
    · have := hb.hi j e; omega
  refine ⟨Fa', Fb', h1.keep k2 hab, h2, fun j hj e => ?_, hf⟩
  rcases g2 j e with h | h
  · exact hab j hj h
  · have := h1.hi j hj; omega

set_option maxRecDepth 20000 in
set_option maxHeartbeats 4000000 in
theorem msame_any (A : Option Addr) (n c : Nat) (cs : List CmD) (at_ : Int) (W : World) (hT : TabsN W) (hb : Rd W (fun _ => True) 7 A n (rcells CmD.cells cs)) :
    Calls Tryz.prog 11 #[.slice A n c, .int .i64 at_] W fun e w' => e = .returned (.bool true) ∧ Fresh W w' := by
  have HT := Lib.hid hT
  have HN := Lib.hid (mat_new W)
  have HB := Lib.hid (hb.old (by omega))
  clear hT hb
  go_enter Tryz.func11, Tryz.ntmps11
  go_wp2_with fail
  refine Calls.mono HN.out ?_
  rintro e w1 ⟨⟨a, Fa, rfl, hma⟩, hf1⟩
  have HN2 := Lib.hid (mat_new w1)
  have H1 := Lib.hid (And.intro hma hf1)
  clear hma hf1 HN
  go_wp2_with fail
  refine Calls.mono HN2.out ?_
  rintro e w2 ⟨⟨b, Fb, rfl, hmb⟩, hf2⟩
  have hf02 := H1.out.2.then hf2
  have HF := Lib.hid (first_any (HT.out.fresh hf02))
  have H2 : Hid (Two W w2 a b newD) := Lib.hid ⟨Fa, Fb, H1.out.1.fresh hf2, hmb.lower H1.out.2.size, fun j hj e => by have := H1.out.1.hi j hj; have := hmb.lo j e; omega, hf02⟩
  clear hmb hf2 hf02 HN2 H1
  go_wp2_with fail
  refine Calls.mono HF.out ?_
  rintro e w3 ⟨rfl, hf3⟩
  have H3 := Lib.hid (H2.out.fresh hf3)
  clear hf3 HF H2
  go_wp2_with fail
  go_loopw [6, 7] (fun bv iv wr => ∃ k b' : Nat, k ≤ 100 ∧ bv = .pointer (some ⟨b', 0, none⟩) ∧ iv = .int .i64 (k : Int) ∧ Hid (∃ s, Two W wr a b' s)) (fun _ i _ => 100 - (intOf i).toNat)
  case atStart => exact ⟨0, b, by omega, rfl, rfl, Lib.hid ⟨_, H3.out⟩⟩
  case round =>
    rename World => wr
    obtain ⟨k, b', hk, rfl, rfl, HW⟩ := hrel
    by_cases hlt : k < n ∧ k < 100
    · obtain ⟨l1, l2⟩ := hlt
      go_upto_if 35 with (fail)
      go_cut [6] (fun s6 wx => ∃ b2 : Nat, s6 = .pointer (some ⟨b2, 0, none⟩) ∧ Hid (∃ s, Two W wx a b2 s))
      case first =>
        by_cases heq : (k : Int) = at_
        · subst heq
          obtain ⟨s, Fa', Fb', hma, hmb, hd, hf⟩ := HW.out
          have HS := Lib.hid (mat_snap (HT.out.fresh hf) hmb)
          have HM := Lib.hid (And.intro hma (And.intro hmb (And.intro hd hf)))
          clear hma hmb hd hf HW
          go_wp2_with fail
          refine Calls.mono HS.out ?_
          rintro e w4 ⟨⟨v, rfl, hv⟩, hf4⟩
          obtain ⟨A4, c4, rfl, hlc, hr4, -⟩ := own_rdc hv
          have hsl := snap_len HM.out.2.1.inv
          have hf04 := HM.out.2.2.2.then hf4
          have HR := Lib.hid (restore_any _ A4 _ c4 _ w4 hr4 (by omega) hlc (HT.out.fresh hf04).n)
          obtain ⟨ln, hln⟩ : ∃ ln, ln = (snapB s).length := ⟨_, rfl⟩
          rw [← hln] at hsl HR ⊢
          have H4 := Lib.hid (And.intro hf4 hf04)
          clear hv hlc hr4 hf4 hf04 hln HS
          go_wp2_with fail
          refine Calls.mono HR.out ?_
          rintro e w5 ⟨hf5, ⟨s', F5, m5, hs, rfl, hm5⟩ | ⟨hno, -⟩⟩
          rotate_left
          · exact absurd (restored_snap HM.out.2.1.inv) (hno _)
          obtain rfl : s = s' := (restored_uniq hs (restored_snap HM.out.2.1.inv)).symm
          have HNum := Lib.hid (num_any 0 w5)
          have hf45 := H4.out.1.then hf5
          have HSm := Lib.hid (samem_any (HT.out.fresh (H4.out.2.then hf5)) hm5 (HM.out.2.1.fresh hf45))
          have H5 : Hid (Two W w5 a m5 s) := Lib.hid ⟨Fa', F5, HM.out.1.fresh hf45, hm5.lower H4.out.2.size, fun j hj e => by have := HM.out.1.hi j hj; have := hm5.lo j e; have := H4.out.1.size; omega, H4.out.2.then hf5⟩
          clear hf5 hs hm5 hf45 HR H4 HM
          go_wp2_with fail
          refine Calls.mono HNum.out ?_
          rintro e _ ⟨rfl, rfl⟩
          go_wp2_with fail
          refine Calls.mono HSm.out ?_
          rintro e w6 ⟨he, hf6⟩
          have e6 : e = .returned (.bool true) := by rw [he]; simp
          subst e6
          have H6 := Lib.hid (H5.out.fresh hf6)
          clear he hf6 HSm HNum H5
          go_wp2_with fail
          go_meet
          exact ⟨_, rfl, Lib.hid ⟨_, H6.out⟩⟩
        · go_wp2_with fail
          go_meet
          exact ⟨_, rfl, HW⟩
      case rest =>
        rename World => wx
        obtain ⟨b2, rfl, HX⟩ := hcut
        clear HW
        obtain ⟨s, Fa', Fb', hma, hmb, hd, hf⟩ := HX.out
        obtain ⟨hl, b7, o7, rfl, hz7, hb7, hcm⟩ := (HB.out.keep (hf.weaken fun _ _ _ => trivial)).cmd l1
        obtain ⟨x, hx⟩ : ∃ x, x = cs[k] := ⟨_, rfl⟩
        rw [← hx] at hcm
        obtain ⟨xc, xi, xr, xo, xk, xv, xd⟩ := x
        obtain ⟨Y, hY⟩ : ∃ Y, Y = applyD xc xi xr xo xk xv xd s := ⟨_, rfl⟩
        obtain ⟨⟨rc, rv, rn⟩, s'⟩ := Y
        have hb7a : ¬ Fa' b7 := fun e => by have := hma.lo b7 e; omega
        have hb7b : ¬ Fb' b7 := fun e => by have := hmb.lo b7 e; omega
        obtain ⟨p7, hp7⟩ : ∃ p7, p7 = o7 + k * 7 := ⟨_, rfl⟩
        have HAa := Lib.hid (fun w' (hk : Keep (fun j => ¬ Fb' j) wx w') (hf' : Fresh W w') => mat_apply HT.out hf' (hma.keep hk hd) xc xi xr xo xk xv xd)
        have HAb := Lib.hid (fun w' (hk : Keep (fun j => ¬ Fa' j) wx w') (hf' : Fresh W w') => mat_apply HT.out hf' (hmb.keep hk (fun j e h => hd j h e)) xc xi xr xo xk xv xd)
        rw [← hY] at HAa HAb
        have HS : Hid (∀ w', Keep (fun j => j = b7) wx w' → CmAt w' b7 (o7 + k * 7) ⟨xc, xi, xr, xo, xk, xv, xd⟩) := Lib.hid fun w' hk => hcm.keep hk rfl
        have HD := Lib.hid (And.intro hma (And.intro hmb (And.intro hd (And.intro hf (And.intro hb7a hb7b)))))
        obtain ⟨c0, c1, c2, c3, c4, c5, c6⟩ := hcm
        clear HX hma hmb hd hf hl hz7 hx hY hb7a hb7b hp7
        go_upto_region 14 with (fail)
        have h0s : Hid (Keep (fun j => j = b7) wx (World.drew wx)) := Lib.hid ((Keep.refl _ wx).drew)
        have h0a : Hid (Keep (fun j => ¬ Fb' j) wx (World.drew wx)) := Lib.hid ((Keep.refl _ wx).drew)
        have h0b : Hid (Keep (fun j => ¬ Fa' j) wx (World.drew wx)) := Lib.hid ((Keep.refl _ wx).drew)
        have h0f : Hid (Fresh W (World.drew wx)) := Lib.hid (HD.out.2.2.2.1.drew)
        go_cut [74] (fun s74 wy => s74 = .bool false ∧ Hid (Two W wy a b2 s'))
        case first =>
          go_region_held3 (fun w' => w'.cell? ⟨b7, o7 + k * 7, none⟩ = some (.int .i64 xc) ∧ w'.cell? ⟨b7, o7 + k * 7 + 1, none⟩ = some (.int .i64 xi) ∧ w'.cell? ⟨b7, o7 + k * 7 + 2, none⟩ = some (.int .i64 xr) ∧ w'.cell? ⟨b7, o7 + k * 7 + 3, none⟩ = some (.int .i64 xo) ∧ w'.cell? ⟨b7, o7 + k * 7 + 4, none⟩ = some (str xk) ∧ w'.cell? ⟨b7, o7 + k * 7 + 5, none⟩ = some (str xv) ∧ w'.cell? ⟨b7, o7 + k * 7 + 6, none⟩ = some (str xd))
            (first | exact HS.out _ h0s.out | exact HS.out _ ka3 | exact HS.out _ kb3)
            (first
              | (go_at_call 17; (with_reducible refine Calls.mono (HAa.out (World.drew wx) h0a.out h0f.out) ?_); rintro e wa ⟨rfl, ⟨Fa2, ma2, ga2⟩, ka, fa⟩; have ka2 : Keep (fun j => ¬ Fa' j) wx wa := ((Keep.refl _ wx).drew).trans ka; have ka3 : Keep (fun j => j = b7) wx wa := ka2.weaken fun j _ e => e ▸ HD.out.2.2.2.2.1)
              | (go_at_call 17; (with_reducible refine Calls.mono (HAb.out (World.drew wx) h0b.out h0f.out) ?_); rintro e wb ⟨rfl, ⟨Fb2, mb2, gb2⟩, kb, fb⟩; have kb2 : Keep (fun j => ¬ Fb' j) wx wb := ((Keep.refl _ wx).drew).trans kb; have kb3 : Keep (fun j => j = b7) wx wb := kb2.weaken fun j _ e => e ▸ HD.out.2.2.2.2.2)
              | (go_at_call 17; (with_reducible refine Calls.mono (HAa.out _ kb2 fb) ?_); rintro e wa ⟨rfl, ⟨Fa2, ma2, ga2⟩, ka, fa⟩; have ka3 : Keep (fun j => j = b7) wx wa := kb3.trans (ka.weaken fun j _ e => e ▸ HD.out.2.2.2.2.1))
              | (go_at_call 17; (with_reducible refine Calls.mono (HAb.out _ ka2 fa) ?_); rintro e wb ⟨rfl, ⟨Fb2, mb2, gb2⟩, kb, fb⟩; have kb3 : Keep (fun j => j = b7) wx wb := ka3.trans (kb.weaken fun j _ e => e ▸ HD.out.2.2.2.2.2)))
          all_goals
            go_wp2_with fail
            go_meet
            first
              | exact ⟨by simp, Lib.hid (Two.step HD.out.2.1 HD.out.2.2.1 ma2 ga2 mb2 gb2 kb fb)⟩
              | exact ⟨by simp, Lib.hid (Two.symm (Two.step HD.out.1 (fun j hj e => HD.out.2.2.1 j e hj) mb2 gb2 ma2 ga2 ka fa))⟩
        case rest =>
          rename World => wy
          obtain ⟨rfl, HY⟩ := hcut
          go_wp2_with fail
          exact ⟨⟨k + 1, b2, by omega, rfl, by simp, Lib.hid ⟨_, HY.out⟩⟩, by simp only [intOf]; omega⟩
    · obtain ⟨s, Fa', Fb', hma, hmb, hd, hf⟩ := HW.out
      have HSm := Lib.hid (samem_any (HT.out.fresh hf) hma hmb)
      have HF := Lib.hid hf
      clear hma hmb hd hf HW
      by_cases l1 : k < n
      · have l2 : ¬ k < 100 := fun h => hlt ⟨l1, h⟩
        clear hlt
        go_wp2_with fail
        refine Calls.mono HSm.out ?_
        rintro e w6 ⟨he, hf6⟩
        have e6 : e = .returned (.bool true) := by rw [he]; simp
        subst e6
        clear he
        go_wp2_with fail
        go_ret
        exact ⟨rfl, HF.out.then hf6⟩
      · clear hlt
        go_wp2_with fail
        refine Calls.mono HSm.out ?_
        rintro e w6 ⟨he, hf6⟩
        have e6 : e = .returned (.bool true) := by rw [he]; simp
        subst e6
        clear he
        go_wp2_with fail
        go_ret
        exact ⟨rfl, HF.out.then hf6⟩
end Go.Proofs.YtlibhkehebioeaaGreatDoor
namespace Go.Proofs.YtlibhkehebioeaaGreatDoor
set_option linter.unusedVariables false
set_option linter.unusedSimpArgs false

structure RowD where
  held : Bool
  client : Int
  token : Int
  queue : List Int
deriving DecidableEq
def rowOf : Option LockD → RowD
  | none => ⟨false, 0, 0, []⟩
  | some l => ⟨true, l.holder, l.token, l.queue⟩
def rowD (k : Txt) (s : StD) : RowD := rowOf (lfind k s.locks)
def lessD (q : List Int) (c : Int) : List Int := q.filter fun y => !(y == c)
def RowD.passes (r : RowD) : RowD := match r.queue with
  | [] => ⟨false, 0, 0, []⟩
  | c :: q => ⟨true, c, -1, q⟩
def RowD.leaves (r : RowD) (c : Int) : RowD := if r.held = false ∨ r.client ≠ c then { r with queue := lessD r.queue c } else RowD.passes { r with queue := lessD r.queue c }
/-- What an operation does with the row of its key. -/
def RowD.onKey (r : RowD) (c o code : Int) : RowD :=
  if o = 6 then (if r.held = false ∧ code = 1 then ⟨true, c, -1, []⟩ else if r.held = true ∧ r.client ≠ c ∧ ¬ (lessD r.queue c).length < r.queue.length then { r with queue := lessD r.queue (-1) ++ [c] } else r)
  else if o = 7 then (if r.held = true ∧ r.client = c then r.passes else { r with queue := lessD r.queue c })
  else r
def goesD (num : Txt → Int × Bool) (r : RowD) (k : Txt) (c o : Int) (key v : Txt) (anew : Bool) (code : Int) : RowD :=
  let r1 := if anew then r.leaves c else r
  if o = 9 ∧ code = 1 then r1.leaves (num v).1 else if key ≠ k then r1 else r1.onKey c o code
/-- The row is as it must be; -1: a token above g. -/
def Meets (g : Int) (a b : RowD) : Prop := ∃ t, b = ⟨a.held, a.client, t, a.queue⟩ ∧ ((t = -1 ∧ g < a.token) ∨ (t = a.token ∧ t ≠ -1))
theorem Meets.same {g : Int} {a : RowD} (h : a.token ≠ -1) : Meets g a a := ⟨a.token, rfl, .inr ⟨rfl, h⟩⟩
theorem Meets.tok {g : Int} {a b : RowD} (h : Meets g a b) (hg : 0 ≤ g) : a.token ≠ -1 := by
  obtain ⟨t, _, h | h⟩ := h <;> omega
theorem Meets.lower {g g' : Int} {a b : RowD} (h : Meets g' a b) (hg : g ≤ g') : Meets g a b := by
  obtain ⟨t, h1, h2 | h2⟩ := h
  · exact ⟨t, h1, .inl ⟨h2.1, by omega⟩⟩
  · exact ⟨t, h1, .inr h2⟩
/-- A step that keeps the token, or makes another of its own, from a row that meets. -/
theorem Meets.step {g : Int} {a b a' : RowD} (f : RowD → RowD) (hf : ∀ r : RowD, ∀ t, (∃ q, f r = { r with queue := q } ∧ f { r with token := t } = { r with token := t, queue := q }) ∨ f { r with token := t } = f r)
    (h : Meets g a b) (h' : Meets g a' (f a)) (hg : 0 ≤ g) : Meets g a' (f b) := by
  have ht := h.tok hg
  obtain ⟨t, rfl, h2⟩ := h
  rcases hf a t with ⟨q, h3, h4⟩ | h3
  · rw [h3] at h'
    obtain ⟨t', h5, h6⟩ := h'
    have e : (⟨a.held, a.client, t, a.queue⟩ : RowD) = { a with token := t } := rfl
    rw [e, h4]
    have e2 := congrArg RowD.token h5
    have e3 := congrArg RowD.held h5
    have e4 := congrArg RowD.client h5
    have e5 := congrArg RowD.queue h5
    simp only at e2 e3 e4 e5
    refine ⟨t, by rw [← e3, ← e4, ← e5], ?_⟩
    rcases h2 with h2 | h2
    · exact .inl ⟨h2.1, by omega⟩
    · exact .inr ⟨by omega, h2.2⟩
  · have e : (⟨a.held, a.client, t, a.queue⟩ : RowD) = { a with token := t } := rfl
    rw [e, h3]
    exact h'
theorem leaves_uni (c : Int) (r : RowD) (t : Int) : (∃ q, r.leaves c = { r with queue := q } ∧ RowD.leaves { r with token := t } c = { r with token := t, queue := q }) ∨ RowD.leaves { r with token := t } c = r.leaves c := by
  unfold RowD.leaves
  by_cases h : r.held = false ∨ r.client ≠ c
  · exact .inl ⟨_, by rw [if_pos h], by rw [if_pos h]⟩
  · refine .inr ?_
    rw [if_neg h, if_neg h]
    rfl
theorem onKey_uni (c o code : Int) (r : RowD) (t : Int) : (∃ q, r.onKey c o code = { r with queue := q } ∧ RowD.onKey { r with token := t } c o code = { r with token := t, queue := q }) ∨ RowD.onKey { r with token := t } c o code = r.onKey c o code := by
  unfold RowD.onKey
  by_cases h6 : o = 6
  · simp only [h6, if_true]
    by_cases h1 : r.held = false ∧ code = 1
    · exact .inr (by rw [if_pos h1, if_pos h1])
    · rw [if_neg h1, if_neg h1]
      by_cases h2 : r.held = true ∧ r.client ≠ c ∧ ¬ (lessD r.queue c).length < r.queue.length
      · exact .inl ⟨_, by rw [if_pos h2], by rw [if_pos h2]⟩
      · exact .inl ⟨r.queue, by rw [if_neg h2], by rw [if_neg h2]⟩
  · rw [if_neg h6, if_neg h6]
    by_cases h7 : o = 7
    · rw [if_pos h7, if_pos h7]
      by_cases h1 : r.held = true ∧ r.client = c
      · exact .inr (by rw [if_pos h1, if_pos h1]; rfl)
      · exact .inl ⟨_, by rw [if_neg h1], by rw [if_neg h1]⟩
    · exact .inl ⟨r.queue, by rw [if_neg h7], by rw [if_neg h7]⟩

/-! ### passing on -/
theorem pass_tok (k : Txt) (s : StD) : s.tok ≤ (passD k s).2.tok ∧ (passD k s).2.tok ≤ s.tok + 1 := by
  unfold passD
  split
  · exact ⟨Int.le_refl _, by show s.tok ≤ s.tok + 1; omega⟩
  · split
    · exact ⟨Int.le_refl _, by show s.tok ≤ s.tok + 1; omega⟩
    · split
      · exact ⟨Int.le_refl _, by show s.tok ≤ s.tok + 1; omega⟩
      · exact ⟨by show s.tok ≤ s.tok + 1; omega, Int.le_refl _⟩
theorem passAll_tok : ∀ (ns : List Txt) (s : StD), s.tok ≤ (passAll ns s).tok ∧ (passAll ns s).tok ≤ s.tok + ns.length
  | [], s => ⟨Int.le_refl _, by show s.tok ≤ s.tok + 0; omega⟩
  | k :: r, s => by
    have h1 := pass_tok k s
    have h2 := passAll_tok r (passD k s).2
    have e : passAll (k :: r) s = passAll r (passD k s).2 := rfl
    rw [e]
    simp only [List.length_cons]
    omega
/-- The lock behind a passing on. -/
def PassIs (g : Int) (k : Txt) (l : Option LockD) (l' : Option LockD) : Prop := match l with
  | none => l' = none
  | some l => match l.queue with
    | [] => l' = none
    | c :: q => ∃ t, g < t ∧ l' = some ⟨k, c, t, q⟩
theorem pass_self {k : Txt} {s : StD} (ht : s.tok < 99999999) : PassIs s.tok k (lfind k s.locks) (lfind k (passD k s).2.locks) := by
  unfold passD PassIs
  cases hf : lfind k s.locks with
  | none => exact hf
  | some l =>
    obtain ⟨hn, hm⟩ := findK_some hf
    simp only
    cases hq : l.queue with
    | nil =>
      simp only
      show findK LockD.name k (delK LockD.name k s.locks) = none
      rw [findK_del, if_pos rfl]
    | cons c q =>
      simp only
      rw [if_neg (by omega)]
      refine ⟨s.tok + 1, by omega, ?_⟩
      show findK LockD.name k (setK LockD.name _ s.locks) = _
      rw [findK_set ⟨l, hm, hn⟩, if_pos rfl]
theorem PassIs.lower {g g' : Int} {k : Txt} {l l' : Option LockD} (h : PassIs g' k l l') (hg : g ≤ g') : PassIs g k l l' := by
  unfold PassIs at h ⊢
  cases l with
  | none => exact h
  | some l =>
    simp only at h ⊢
    cases hq : l.queue with
    | nil => rw [hq] at h; exact h
    | cons c q =>
      rw [hq] at h
      obtain ⟨t, h1, h2⟩ := h
      exact ⟨t, by omega, h2⟩
theorem passAll_find (k : Txt) : ∀ (ns : List Txt) (s : StD), ns.Nodup → s.tok + ns.length ≤ 99999999 →
    (k ∉ ns → lfind k (passAll ns s).locks = lfind k s.locks) ∧ (k ∈ ns → PassIs s.tok k (lfind k s.locks) (lfind k (passAll ns s).locks))
  | [], s, _, _ => ⟨fun _ => rfl, fun h => by cases h⟩
  | a :: r, s, hn, ht => by
    obtain ⟨h1, h2⟩ := List.nodup_cons.1 hn
    have e : passAll (a :: r) s = passAll r (passD a s).2 := rfl
    rw [e]
    have hp := pass_tok a s
    simp only [List.length_cons] at ht
    have ih := passAll_find k r (passD a s).2 h2 (by omega)
    refine ⟨fun hk => ?_, fun hk => ?_⟩
    · rw [ih.1 (fun h => hk (by simp [h])), pass_other (fun h => hk (by simp [h]))]
    · by_cases hka : k = a
      · subst hka
        rw [ih.1 h1]
        exact pass_self (by omega)
      · rcases List.mem_cons.1 hk with h | h
        · exact absurd h hka
        · have := ih.2 h
          rw [pass_other hka] at this
          exact this.lower hp.1
theorem find_map (c : Int) (k : Txt) (ls : List LockD) : lfind k (ls.map (leaveL c)) = (lfind k ls).map (leaveL c) := by
  show findK _ _ _ = _
  unfold findK
  rw [List.find?_map]
  rfl
theorem heldBy_mem {c : Int} {ls : List LockD} (hr : Rise (ls.map LockD.name)) {k : Txt} : k ∈ heldBy c ls ↔ ∃ l, lfind k ls = some l ∧ l.holder = c := by
  unfold heldBy
  rw [List.mem_map]
  constructor
  · rintro ⟨l, h1, rfl⟩
    obtain ⟨h2, h3⟩ := List.mem_filter.1 h1
    exact ⟨l, findK_of hr h2 rfl, by simpa using h3⟩
  · rintro ⟨l, h1, h2⟩
    obtain ⟨h3, h4⟩ := findK_some h1
    exact ⟨l, List.mem_filter.2 ⟨h4, by simpa using h2⟩, h3⟩
theorem heldBy_nodup {c : Int} {ls : List LockD} (hr : Rise (ls.map LockD.name)) : (heldBy c ls).Nodup := (List.Sublist.map _ List.filter_sublist).nodup hr.nodup
theorem heldBy_len (c : Int) (ls : List LockD) : (heldBy c ls).length ≤ ls.length := by
  unfold heldBy
  rw [List.length_map]
  exact List.length_filter_le _ _
theorem lets_tok {s : StD} (c : Int) (h : LInv s.locks s.tok) : s.tok ≤ (letsD c s).2.tok ∧ (letsD c s).2.tok ≤ s.tok + 8 := by
  have h1 := passAll_tok (heldBy c s.locks) { s with locks := s.locks.map (leaveL c) }
  have h2 := heldBy_len c s.locks
  have h3 := h.len
  refine ⟨h1.1, Int.le_trans h1.2 ?_⟩
  show s.tok + _ ≤ _
  omega
theorem rowOf_pass {g : Int} {k : Txt} {l : LockD} {l' : Option LockD} (h : PassIs g k (some l) l') (hg : 0 ≤ g) : Meets g (rowOf l') (RowD.passes (rowOf (some l))) := by
  obtain ⟨ln, lh, lt, lq⟩ := l
  cases lq with
  | nil =>
    have h : l' = none := h
    subst h
    exact Meets.same (g := g) (a := ⟨false, 0, 0, []⟩) (by decide)
  | cons c q =>
    have h : ∃ t, g < t ∧ l' = some ⟨k, c, t, q⟩ := h
    obtain ⟨t, h1, rfl⟩ := h
    exact ⟨-1, rfl, .inl ⟨rfl, h1⟩⟩
theorem lets_row {s : StD} (c : Int) (k : Txt) (h : LInv s.locks s.tok) (ht : s.tok + 8 ≤ 99999999) : Meets s.tok (rowD k (letsD c s).2) ((rowD k s).leaves c) := by
  have hl := h.len
  have h1 := passAll_find k (heldBy c s.locks) { s with locks := s.locks.map (leaveL c) } (heldBy_nodup h.rise) (by have := heldBy_len c s.locks; show s.tok + _ ≤ _; omega)
  simp only [find_map] at h1
  have e : (letsD c s).2 = passAll (heldBy c s.locks) { s with locks := s.locks.map (leaveL c) } := rfl
  unfold rowD
  rw [e]
  cases hf : lfind k s.locks with
  | none =>
    rw [h1.1 (fun hm => by obtain ⟨l, h2, _⟩ := (heldBy_mem h.rise).1 hm; rw [hf] at h2; cases h2), hf]
    exact Meets.same (by simp [rowOf])
  | some l =>
    have hlk := h.each l (findK_some hf).2
    by_cases hc : l.holder = c
    · have h2 := h1.2 ((heldBy_mem h.rise).2 ⟨l, hf, hc⟩)
      rw [hf] at h2
      have h3 := rowOf_pass h2 h.tok0
      have e2 : (rowOf (some l)).leaves c = RowD.passes (rowOf ((some l).map (leaveL c))) := by
        unfold RowD.leaves
        rw [if_neg (by simp [rowOf, hc])]
        rfl
      rw [e2]
      exact h3
    · rw [h1.1 (fun hm => by obtain ⟨l', h2, h3⟩ := (heldBy_mem h.rise).1 hm; rw [hf] at h2; injection h2 with h2; exact hc (h2 ▸ h3)), hf]
      have e2 : (rowOf (some l)).leaves c = rowOf ((some l).map (leaveL c)) := by
        unfold RowD.leaves
        rw [if_pos (.inr (by simpa [rowOf] using hc))]
        rfl
      rw [e2]
      exact Meets.same (by have := hlk.t0; show l.token ≠ -1; omega)
theorem row_tok {s : StD} (h : LInv s.locks s.tok) (k : Txt) : 0 ≤ (rowD k s).token ∧ (rowD k s).token ≤ s.tok := by
  unfold rowD
  cases hf : lfind k s.locks with
  | none => exact ⟨Int.le_refl _, h.tok0⟩
  | some l =>
    have hl := h.each l (findK_some hf).2
    exact ⟨by have := hl.t0; show 0 ≤ l.token; omega, hl.t1⟩
theorem less_len {q : List Int} {c : Int} : (lessD q c).length < q.length ↔ c ∈ q := by
  unfold lessD
  induction q with
  | nil => simp
  | cons x r ih =>
    rw [List.filter_cons]
    by_cases hx : x = c
    · subst hx
      have := List.length_filter_le (fun y => !(y == x)) r
      simp
      omega
    · have e : (!(x == c)) = true := by simpa using hx
      rw [if_pos e]
      simp only [List.length_cons, Nat.add_lt_add_iff_right, ih, List.mem_cons]
      constructor
      · exact .inr
      · rintro (h | h)
        · exact absurd h.symm hx
        · exact h
theorem less_none {q : List Int} {c : Int} (h : c ∉ q) : lessD q c = q := List.filter_eq_self.2 fun x hx => by
  have : x ≠ c := fun e => h (e ▸ hx)
  simpa using this
section
variable {num : Txt → Int × Bool} {ita : Int → Txt} {s : StD} {c i r o : Int} {k v d : Txt}
theorem onLock_tok (h : LInv s.locks s.tok) : s.tok ≤ (onLockD num c o k v s).2.tok ∧ (onLockD num c o k v s).2.tok ≤ s.tok + 1 := by
  unfold onLockD
  split
  · split
    · split
      · exact ⟨Int.le_refl _, by show s.tok ≤ _; omega⟩
      · split
        · exact ⟨Int.le_refl _, by show s.tok ≤ _; omega⟩
        · exact ⟨by show s.tok ≤ s.tok + 1; omega, Int.le_refl _⟩
    · exact ⟨Int.le_refl _, by show s.tok ≤ _; omega⟩
  · split
    · split
      · exact ⟨Int.le_refl _, by show s.tok ≤ _; omega⟩
      · split
        · exact ⟨Int.le_refl _, by show s.tok ≤ _; omega⟩
        · exact ⟨Int.le_refl _, by show s.tok ≤ _; omega⟩
    · split
      · split
        · exact pass_tok k s
        · split
          · exact ⟨Int.le_refl _, by show s.tok ≤ _; omega⟩
          · exact ⟨Int.le_refl _, by show s.tok ≤ _; omega⟩
      · split
        · exact ⟨Int.le_refl _, by show s.tok ≤ _; omega⟩
        · exact ⟨Int.le_refl _, by show s.tok ≤ _; omega⟩
/-- Another name's row stays. -/
theorem onLock_other {k' : Txt} (hne : k' ≠ k) : lfind k' (onLockD num c o k v s).2.locks = lfind k' s.locks := by
  unfold onLockD
  cases hf : lfind k s.locks with
  | none =>
    simp only
    split
    · split
      · rfl
      · split
        · rfl
        · show findK LockD.name k' (insK LockD.name _ s.locks) = _
          rw [findK_ins (findK_none hf), if_neg (fun e => hne e.symm)]
    · rfl
  | some l =>
    obtain ⟨hn, hm⟩ := findK_some hf
    simp only
    split
    · split
      · rfl
      · split
        · rfl
        · show findK LockD.name k' (setK LockD.name _ s.locks) = _
          rw [findK_set (x := { l with queue := l.queue ++ [c] }) ⟨l, hm, rfl⟩, if_neg (fun e => hne (e.symm.trans hn))]
    · split
      · split
        · exact pass_other hne
        · split
          · show findK LockD.name k' (setK LockD.name _ s.locks) = _
            rw [findK_set (x := leaveL c l) ⟨l, hm, rfl⟩, if_neg (fun e => hne (e.symm.trans hn))]
          · rfl
      · split <;> rfl
theorem onKey_7 (r : RowD) (c code : Int) : r.onKey c 7 code = if r.held = true ∧ r.client = c then r.passes else { r with queue := lessD r.queue c } := by
  unfold RowD.onKey
  rw [if_neg (by omega), if_pos rfl]
theorem onLock_row (h : LInv s.locks s.tok) (hc : 0 ≤ c) (ht : s.tok < 99999999) : Meets s.tok (rowD k (onLockD num c o k v s).2) ((rowD k s).onKey c o (onLockD num c o k v s).1.code) := by
  have h0 := h.tok0
  unfold rowD onLockD
  cases hf : lfind k s.locks with
  | none =>
    simp only
    by_cases h6 : o = 6
    · simp only [h6, if_true]
      unfold RowD.onKey
      simp only [if_true]
      split
      · simp only
        rw [if_neg (by simp), if_neg (by simp [rowOf]), hf]
        exact Meets.same (by simp [rowOf])
      · rw [if_neg (by omega)]
        simp only
        rw [if_pos ⟨rfl, trivial⟩]
        have e : lfind k (insK LockD.name ⟨k, c, s.tok + 1, []⟩ s.locks) = some ⟨k, c, s.tok + 1, []⟩ := by
          show findK LockD.name k _ = _
          rw [findK_ins (findK_none hf), if_pos rfl]
        rw [e]
        exact ⟨-1, rfl, .inl ⟨rfl, by show s.tok < s.tok + 1; omega⟩⟩
    · rw [if_neg h6]
      simp only
      unfold RowD.onKey
      rw [if_neg h6, hf]
      split
      · rw [if_neg (by simp [rowOf])]
        exact Meets.same (by simp [rowOf])
      · exact Meets.same (by simp [rowOf])
  | some l =>
    obtain ⟨hn, hm⟩ := findK_some hf
    have hl := h.each l hm
    have hlt : l.token ≠ -1 := by have := hl.t0; omega
    simp only
    by_cases h6 : o = 6
    · simp only [h6, if_true]
      unfold RowD.onKey
      simp only [if_true]
      by_cases hh : l.holder = c
      · simp only [hh, if_true]
        rw [if_neg (by simp [rowOf]), if_neg (by simp [rowOf, hh]), hf]
        exact Meets.same hlt
      · rw [if_neg hh]
        by_cases hq : c ∈ l.queue
        · rw [if_pos hq]
          simp only
          rw [if_neg (by simp [rowOf]), if_neg (by have := (less_len (q := l.queue) (c := c)).2 hq; simp only [rowOf]; omega), hf]
          exact Meets.same hlt
        · rw [if_neg hq]
          simp only
          rw [if_neg (by simp [rowOf]), if_pos ⟨rfl, hh, fun h2 => hq (less_len.1 h2)⟩]
          have e : lfind k (setK LockD.name { l with queue := l.queue ++ [c] } s.locks) = some { l with queue := l.queue ++ [c] } := by
            show findK LockD.name k _ = _
            rw [findK_set (x := { l with queue := l.queue ++ [c] }) ⟨l, hm, rfl⟩, if_pos hn]
          rw [e]
          have e2 : lessD l.queue (-1) = l.queue := less_none fun h2 => by have := (hl.q _ h2).1; omega
          refine ⟨l.token, ?_, .inr ⟨rfl, hlt⟩⟩
          simp only [rowOf, e2]
    · rw [if_neg h6]
      by_cases h7 : o = 7
      · simp only [h7, if_true]
        rw [onKey_7]
        by_cases hh : l.holder = c
        · simp only [hh, if_true]
          rw [if_pos ⟨rfl, hh⟩]
          have h2 := pass_self (k := k) ht
          rw [hf] at h2
          exact rowOf_pass h2 h0
        · rw [if_neg hh, if_neg (show ¬((rowOf (some l)).held = true ∧ (rowOf (some l)).client = c) from fun h => hh h.2)]
          by_cases hq : c ∈ l.queue
          · rw [if_pos hq]
            simp only
            have e : lfind k (setK LockD.name (leaveL c l) s.locks) = some (leaveL c l) := by
              show findK LockD.name k _ = _
              rw [findK_set (x := leaveL c l) ⟨l, hm, rfl⟩, if_pos (show (leaveL c l).name = k from hn)]
            rw [e]
            exact ⟨l.token, rfl, .inr ⟨rfl, hlt⟩⟩
          · rw [if_neg hq]
            simp only
            rw [hf]
            refine ⟨l.token, ?_, .inr ⟨rfl, hlt⟩⟩
            simp only [rowOf, less_none hq]
      · rw [if_neg h7]
        unfold RowD.onKey
        rw [if_neg h6, if_neg h7]
        split <;> (simp only; rw [hf]; exact Meets.same hlt)
theorem onKey_rest : (onKeyD num ita o k v d s).2.locks = s.locks ∧ (onKeyD num ita o k v d s).2.tok = s.tok ∧ (onKeyD num ita o k v d s).2.ss = s.ss := by
  unfold onKeyD
  split
  · split
    · split <;> exact ⟨rfl, rfl, rfl⟩
    · exact ⟨rfl, rfl, rfl⟩
  · split
    · exact ⟨rfl, rfl, rfl⟩
    · split
      · split <;> exact ⟨rfl, rfl, rfl⟩
      · split
        · exact ⟨rfl, rfl, rfl⟩
        · split
          · split
            · exact ⟨rfl, rfl, rfl⟩
            · split <;> exact ⟨rfl, rfl, rfl⟩
          · exact ⟨rfl, rfl, rfl⟩
/-- What the operation does with a row. -/
theorem does_row (k' : Txt) (h : LInv s.locks s.tok) (hc : 0 ≤ c) (ho : 1 ≤ o ∧ o ≤ 9) (ht : s.tok + 8 ≤ 99999999) :
    Meets s.tok (rowD k' (doesD num ita c o k v d s).2) (if o = 9 ∧ (doesD num ita c o k v d s).1.code = 1 then (rowD k' s).leaves (num v).1 else if k ≠ k' then rowD k' s else (rowD k' s).onKey c o (doesD num ita c o k v d s).1.code) := by
  have hrt : (rowD k' s).token ≠ -1 := by have := (row_tok h k').1; omega
  unfold doesD
  by_cases h5 : o ≤ 5
  · rw [if_pos h5, if_neg (by omega)]
    have e : rowD k' (onKeyD num ita o k v d s).2 = rowD k' s := by unfold rowD; rw [onKey_rest.1]
    rw [e]
    split
    · exact Meets.same hrt
    · unfold RowD.onKey
      rw [if_neg (by omega), if_neg (by omega)]
      exact Meets.same hrt
  · rw [if_neg h5]
    by_cases h8 : o ≤ 8
    · rw [if_pos h8, if_neg (by omega)]
      by_cases hk : k = k'
      · subst hk
        rw [if_neg (by simp)]
        exact onLock_row h hc (by omega)
      · rw [if_pos hk]
        have e : rowD k' (onLockD num c o k v s).2 = rowD k' s := by unfold rowD; rw [onLock_other (fun e => hk e.symm)]
        rw [e]
        exact Meets.same hrt
    · rw [if_neg h8]
      have h9 : o = 9 := by omega
      unfold endD
      by_cases hz : (s.ss.getD (num v).1.toNat noSes).inc = 0
      · rw [if_pos hz]
        simp only
        rw [if_neg (by simp)]
        split
        · exact Meets.same hrt
        · unfold RowD.onKey
          rw [if_neg (by omega), if_neg (by omega)]
          exact Meets.same hrt
      · rw [if_neg hz]
        simp only
        rw [if_pos ⟨h9, trivial⟩]
        exact lets_row _ k' h ht
theorem does_tok (h : LInv s.locks s.tok) : s.tok ≤ (doesD num ita c o k v d s).2.tok ∧ (doesD num ita c o k v d s).2.tok ≤ s.tok + 8 := by
  unfold doesD
  split
  · rw [onKey_rest.2.1]
    omega
  · split
    · have := onLock_tok (num := num) (c := c) (o := o) (k := k) (v := v) h
      omega
    · unfold endD
      split
      · exact ⟨Int.le_refl _, by show s.tok ≤ _; omega⟩
      · exact lets_tok _ h
/-- A lock that was had: its holder, its token. -/
theorem lock_had (h : LInv s.locks s.tok) (h1 : (doesD num ita c 6 k v d s).1.code = 1) : ∃ l, lfind k (doesD num ita c 6 k v d s).2.locks = some l ∧ l.holder = c ∧ l.token = (doesD num ita c 6 k v d s).1.n := by
  have e : doesD num ita c 6 k v d s = onLockD num c 6 k v s := by unfold doesD; rw [if_neg (by omega), if_pos (by omega)]
  rw [e] at h1 ⊢
  unfold onLockD at h1 ⊢
  cases hf : lfind k s.locks with
  | none =>
    rw [hf] at h1
    simp only [if_true] at h1 ⊢
    split at h1
    · simp at h1
    · rename_i h8
      split at h1
      · simp at h1
      · rename_i h9
        rw [if_neg h8, if_neg h9]
        refine ⟨⟨k, c, s.tok + 1, []⟩, ?_, rfl, rfl⟩
        show findK LockD.name k (insK LockD.name _ s.locks) = _
        rw [findK_ins (findK_none hf), if_pos rfl]
  | some l =>
    rw [hf] at h1
    simp only [if_true] at h1 ⊢
    split at h1
    · rename_i hh
      rw [if_pos hh]
      exact ⟨l, hf, hh, rfl⟩
    · split at h1 <;> simp at h1
end
end Go.Proofs.YtlibhkehebioeaaGreatDoor
