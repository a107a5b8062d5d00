/-
  WALK OF quoratelaw13's 'MachineBack'.
-/
import Derived.Test.YtkgbhanpenpkmaaDoorCodec
import Derived.Test.YtkgbhanpenpkmaaDoorBytes
import Derived.Lib.QuietBelow
namespace Go.Proofs.YtkgbhanpenpkmaaDoor
set_option linter.unusedVariables false
set_option linter.unusedSimpArgs false
open Go.RowKit

def sureK : List UInt8 := [49, 50, 51, 52, 53, 54, 55, 56]
def sureV : List UInt8 := [97, 98, 99, 100, 101, 102, 103, 104]
def sureD : List UInt8 := [65, 66, 67, 68, 69, 70, 71, 72]
theorem sure_ok : validB 15 4611686018427387904 4611686018427387904 3 sureK sureV sureD = true := by decide
theorem sure_len : (encodeB 15 4611686018427387904 4611686018427387904 3 sureK sureV sureD).length = 47 := by
  rw [encodeB_eq]
  simp [putB, txt, sureK, sureV, sureD]
/-- An owned slice, opened: its reading, its room. -/
theorem own_open {w : World} {base n : Nat} {u : Value} {xs : List Value} (h : w.ownsRow base 5 1 u n xs) : ∃ A c, u = .slice A n c ∧ Rd w (fun k => base ≤ k) 1 A n xs ∧ n ≤ c ∧ (n = 0 → c = 0 ∨ A ≠ none) := by
  obtain ⟨A, c, hu, hr, hnil⟩ := own_rd h
  refine ⟨A, c, hu, hr.weaken (fun k hk => (own_lt h hk).1), ?_, hnil⟩
  rcases h.2 with ⟨hv, hn⟩ | ⟨g, cap, cur, hv, _, _, hnc, _⟩
  · rw [hu] at hv; injection hv with _ h1 h2; omega
  · rw [hu] at hv; injection hv with _ h1 h2; omega

theorem Fresh.regrown (w : World) (d : Nat) (os : Array Obj) : Fresh w (Go.Sort.grow (redrawn w d) os) := Fresh.of_below (below_regrown w d os)
theorem num_reg (w : World) (z : Int) (d : Nat) (os : Array Obj) : Calls Tryd.prog 6 #[.int .i64 z] (Go.Sort.grow (redrawn w d) os) fun e w'' => e = .returned (.int .i64 z) ∧ ∃ p : Regrown, w'' = Go.Sort.grow (redrawn w p.d) p.os :=
  (num_any z _).mono fun _ _ ⟨he, hw⟩ => ⟨he, ⟨d, os⟩, hw.symm⟩
theorem check_reg (c i r o : Int) (k v d : List UInt8) (w : World) (hT : Tabs w) (q : Nat) (os : Array Obj) (b : Bool) (hb : b = validB c i r o k v d) : Calls Tryd.prog 7 #[cmdV c i r o k v d] (Go.Sort.grow (redrawn w q) os) fun e w'' => e = .returned (.int .i64 (if b = true then 0 else 130)) ∧ ∃ p : Regrown, w'' = Go.Sort.grow (redrawn w p.d) p.os := by
  subst hb
  exact Calls.regrown_of ((check_any c i r o k v d _ (hT.fresh (Fresh.regrown w q os))).mono fun _ _ ⟨he, hf⟩ => ⟨he, hf.below⟩)

/-- What is decoded, named. -/
theorem dec_named {bs : List UInt8} (h : decOk bs = true) : ∃ (c i r o : Int) (k v d : List UInt8), decV bs = cmdV c i r o k v d ∧ validB c i r o k v d = true ∧ encodeB c i r o k v d = bs := by
  rw [decOk, Bool.and_eq_true] at h
  exact ⟨_, _, _, _, _, _, _, rfl, h.2, encode_decode h.1⟩

set_option maxHeartbeats 4000000 in
theorem back_any (c i r o : Int) (k v d : List UInt8) (Z : Nat → Prop) (A : Option Addr) (n cp : Nat) (bs : List UInt8) (w : World) (hT : Tabs w) (hb : Rd w Z 1 A n (Lib.byteCells bs)) (hnc : n ≤ cp) (hn : n ≤ 1048576) (hnil : n = 0 → cp = 0 ∨ A ≠ none) :
    Calls Tryd.prog 4 #[cmdV c i r o k v d, .slice A n cp] w fun e w' => e = .returned (.bool true) ∧ Fresh w w' := by
  have HA := Lib.hid (And.intro hT (And.intro hb (And.intro hnc (And.intro hn hnil))))
  clear hT hb hnc hn hnil
  go_enter Tryd.func4, Tryd.ntmps4
  go_wp2_with fail
  obtain ⟨B, hB⟩ : ∃ B, B = w.heap.size := ⟨_, rfl⟩
  obtain ⟨W, hW⟩ : ∃ W, W = (w.alloc (.cells #[.int .i64 c, .int .i64 i, .int .i64 r, .int .i64 o, str k, str v, str d] 23)).alloc (.cells #[.int .i64 15, .int .i64 4611686018427387904, .int .i64 4611686018427387904, .int .i64 3, str sureK, str sureV, str sureD] 23) := ⟨_, rfl⟩
  change Calls _ _ #[cmdV 15 4611686018427387904 4611686018427387904 3 sureK sureV sureD] ((w.alloc (.cells #[.int .i64 c, .int .i64 i, .int .i64 r, .int .i64 o, str k, str v, str d] 23)).alloc (.cells #[.int .i64 15, .int .i64 4611686018427387904, .int .i64 4611686018427387904, .int .i64 3, str sureK, str sureV, str sureD] 23)) _
  rw [← hW]
  try simp only [← hB]
  have hb1 : Blk W B 23 #[.int .i64 c, .int .i64 i, .int .i64 r, .int .i64 o, str k, str v, str d] := by rw [hW, hB]; exact (Blk.new _ _ _).alloc _
  have hb2 : Blk W (B + 1) 23 #[.int .i64 15, .int .i64 4611686018427387904, .int .i64 4611686018427387904, .int .i64 3, str sureK, str sureV, str sureD] := by rw [hW]; exact Blk.newAt (by simp [hB])
  have hf : Fresh w W := hW ▸ ((Keep.refl _ w).alloc _).alloc _
  have HW := Lib.hid (And.intro hb1 (And.intro hb2 hf))
  have HE := encode_any 15 4611686018427387904 4611686018427387904 3 sureK sureV sureD W (HA.out.1.fresh hf)
  rw [sure_ok] at HE
  obtain ⟨hd1, hd2⟩ := decOk_encode sure_ok
  obtain ⟨S, hS⟩ : ∃ S, S = encodeB 15 4611686018427387904 4611686018427387904 3 sureK sureV sureD := ⟨_, rfl⟩
  rw [← hS] at HE hd1 hd2
  have hSl : S.length = 47 := hS ▸ sure_len
  have HS := Lib.hid (And.intro hd1 (And.intro hd2 hSl))
  replace HE := Lib.hid HE
  clear hb1 hb2 hf hW hS hd1 hd2 hSl
  refine HE.out.mono ?_
  rintro e w1 ⟨hk1, -, he⟩
  obtain ⟨u, rfl, hown⟩ := he rfl
  obtain ⟨A1, c1, rfl, hr1, hc1, -⟩ := own_open hown
  rw [HS.out.2.2] at hr1 hc1
  simp only [HS.out.2.2]
  have HD := Lib.hid (decode_any _ A1 47 c1 S w1 (HA.out.1.fresh (HW.out.2.2.trans hk1)) hr1 hc1 (by omega))
  have H1 := Lib.hid hk1
  clear hown hr1 hc1 hk1 he HE
  go_wp2_with fail
  refine HD.out.mono ?_
  rintro e w2 ⟨he, hk2⟩
  rw [if_pos HS.out.1, HS.out.2.1] at he
  subst he
  have hk02 := H1.out.trans hk2
  have hb1 := HW.out.1.keep hk02 trivial
  have hb2 := HW.out.2.1.keep hk02 trivial
  have m0 := hb2.cell 0
  have m1 := hb2.cell 1
  have m2 := hb2.cell 2
  have m3 := hb2.cell 3
  have m4 := hb2.cell 4
  have m5 := hb2.cell 5
  have m6 := hb2.cell 6
  have x0 := hb1.cell 0
  have x1 := hb1.cell 1
  have x2 := hb1.cell 2
  have x3 := hb1.cell 3
  have x4 := hb1.cell 4
  have x5 := hb1.cell 5
  have x6 := hb1.cell 6
  have hlt1 := hb1.lt
  have hlt2 := hb2.lt
  simp at m0 m1 m2 m3 m4 m5 m6 x0 x1 x2 x3 x4 x5 x6
  have H2 := Lib.hid (And.intro hb1 (HW.out.2.2.trans hk02))
  have HN := Lib.hid num_any
  clear hb1 hb2 hk02 hk2 HD hB
  go_wp2_with fail
  refine (HN.out _ _).mono ?_
  rintro e _ ⟨rfl, rfl⟩
  go_wp2_with fail
  refine (HN.out _ _).mono ?_
  rintro e _ ⟨rfl, rfl⟩
  go_wp2_with fail
  obtain ⟨w3, hw3⟩ : ∃ w3, w3 = w2.alloc (.cells #[.int .i64 15, .int .i64 4611686018427387904, .int .i64 4611686018427387904, .int .i64 3, str sureK, str sureV, str sureD] 23) := ⟨_, rfl⟩
  rw [← hw3]
  have hb3 : Blk w3 B 23 #[.int .i64 c, .int .i64 i, .int .i64 r, .int .i64 o, str k, str v, str d] := hw3 ▸ H2.out.1.alloc _
  have hf3 : Fresh w w3 := hw3 ▸ H2.out.2.alloc _
  have HE := Lib.hid (encode_any c i r o k v d w3 (HA.out.1.fresh hf3))
  have H3 := Lib.hid (And.intro hb3 hf3)
  clear hb3 hf3 hw3 m0 m1 m2 m3 m4 m5 m6 x0 x1 x2 x3 x4 x5 x6 hlt1 hlt2 H2
  obtain ⟨ok, hok⟩ : ∃ ok, ok = validB c i r o k v d := ⟨_, rfl⟩
  rw [← hok] at HE
  have HO := Lib.hid hok
  clear hok
  refine HE.out.mono ?_
  rintro e w4 ⟨hk4, h4f, h4t⟩
  have hb4 := H3.out.1.keep hk4 trivial
  have hf4 := H3.out.2.trans hk4
  have x0 := hb4.cell 0
  have x1 := hb4.cell 1
  have x2 := hb4.cell 2
  have x3 := hb4.cell 3
  have x4 := hb4.cell 4
  have x5 := hb4.cell 5
  have x6 := hb4.cell 6
  have hlt1 := hb4.lt
  simp at x0 x1 x2 x3 x4 x5 x6
  have H4 := Lib.hid (And.intro hb4 hf4)
  clear hk4 hb4 hf4 HE
  cases ok with
  | false =>
    obtain rfl := h4f rfl
    clear h4f h4t
    go_wp2_with fail
    refine (HN.out _ _).mono ?_
    rintro e _ ⟨rfl, rfl⟩
    go_wp2_with fail
    have k0 := cell_regrown x0
    have k1 := cell_regrown x1
    have k2 := cell_regrown x2
    have k3 := cell_regrown x3
    have k4 := cell_regrown x4
    have k5 := cell_regrown x5
    have k6 := cell_regrown x6
    have CC := Lib.hid (fun q os => check_reg c i r o k v d w4 (HA.out.1.fresh H4.out.2) q os _ HO.out)
    have CN := Lib.hid (num_reg w4)
    simp only [Bool.false_eq_true, if_false, if_true] at CC
    clear x0 x1 x2 x3 x4 x5 x6
    refine wp_region_quiet_below (by kernel_rfl) (by kernel_rfl) ?_
    repeat (quiet_step (first | exact CN.out _ _ _ | exact CC.out _ _))
    refine wpQuiet_nil ?_
    intro _ hw'
    obtain ⟨⟨dq, osq⟩, hw''⟩ := hw'
    subst hw''
    go_wp2_with fail
    obtain ⟨wq, hwq⟩ : ∃ wq, wq = Go.Sort.grow (redrawn w4 dq) osq := ⟨_, rfl⟩
    rw [← hwq]
    have hfq : Fresh w wq := hwq ▸ H4.out.2.trans (Fresh.regrown w4 dq osq)
    have HP := Lib.hid (copied_any Z A n cp bs wq (HA.out.2.1.keep (hfq.weaken (fun _ _ _ => trivial))) (by have := HA.out.2.2.2.1; omega) HA.out.2.2.2.2)
    have HQ := Lib.hid hfq
    clear hfq hwq k0 k1 k2 k3 k4 k5 k6
    refine HP.out.mono ?_
    rintro e w7 ⟨⟨u, rfl, hown⟩, hk7⟩
    obtain ⟨A3, c3, rfl, hr3, -, -⟩ := own_open hown
    have hf7 := HQ.out.trans hk7
    have HD := Lib.hid (decode_any Z A n cp bs w7 (HA.out.1.fresh hf7) (HA.out.2.1.keep (hf7.weaken (fun _ _ _ => trivial))) HA.out.2.2.1 (by have := HA.out.2.2.2.1; omega))
    have HR := Lib.hid (And.intro hr3 hf7)
    clear hown hr3 hf7 hk7 HP
    go_wp2_with fail
    refine HD.out.mono ?_
    rintro e w8 ⟨he, hk8⟩
    have HF8 := Lib.hid (And.intro (HR.out.1.keep (hk8.weaken (fun _ _ _ => trivial))) (HR.out.2.trans hk8))
    clear hk8 HD
    cases hdo : decOk bs with
    | false =>
      rw [hdo, if_neg (by simp)] at he
      subst he
      clear hdo
      go_wp2_with fail
      refine (HN.out _ _).mono ?_
      rintro e _ ⟨rfl, rfl⟩
      go_wp2_with fail
      refine (HN.out _ _).mono ?_
      rintro e _ ⟨rfl, rfl⟩
      go_wp2_with fail
      go_ret
      exact ⟨rfl, HF8.out.2.alloc _⟩
    | true =>
      rw [hdo, if_pos rfl] at he
      obtain ⟨q1, q2, q3, q4, s1, s2, s3, hdv, hval, henc⟩ := dec_named hdo
      rw [hdv] at he
      subst he
      clear hdo hdv
      have hk9 : Fresh w8 (w8.alloc (.cells #[.int .i64 q1, .int .i64 q2, .int .i64 q3, .int .i64 q4, str s1, str s2, str s3] 23)) := (Keep.refl _ w8).alloc _
      have HE2 := encode_any q1 q2 q3 q4 s1 s2 s3 _ (HA.out.1.fresh (HF8.out.2.trans hk9))
      rw [hval, henc] at HE2
      replace HE2 := Lib.hid HE2
      have HF9 := Lib.hid (And.intro (HF8.out.1.keep (hk9.weaken (fun _ _ _ => trivial))) (HF8.out.2.trans hk9))
      clear hval henc hk9
      go_wp2_with fail
      refine (HN.out _ _).mono ?_
      rintro e _ ⟨rfl, rfl⟩
      go_wp2_with fail
      refine HE2.out.mono ?_
      rintro e w10 ⟨hk10, -, h10⟩
      obtain ⟨u, rfl, hown⟩ := h10 rfl
      obtain ⟨A4, c4, rfl, hr4, -, -⟩ := own_open hown
      have hlen : bs.length = n := by simpa [Lib.byteCells] using HA.out.2.1.1
      have HS := same_any _ _ A4 A3 bs.length c4 n c3 bs bs w10 hr4 (HF9.out.1.keep (hk10.weaken (fun _ _ _ => trivial))) (by have := HA.out.2.2.2.1; omega) (by have := HA.out.2.2.2.1; omega)
      rw [decide_eq_true rfl] at HS
      replace HS := Lib.hid HS
      have HF10 := Lib.hid (HF9.out.2.trans hk10)
      clear hown hr4 hk10 h10 HE2 hlen
      go_wp2_with fail
      refine (HN.out _ _).mono ?_
      rintro e _ ⟨rfl, rfl⟩
      go_wp2_with fail
      refine HS.out.mono ?_
      rintro e _ ⟨rfl, dk, rfl⟩
      go_wp2_with fail
      go_ret
      exact ⟨rfl, HF10.out.drewN _⟩
  | true =>
    obtain ⟨u, rfl, hown⟩ := h4t rfl
    obtain ⟨hd1, hd2⟩ := decOk_encode HO.out.symm
    obtain ⟨hS1, hS2⟩ := encodeB_len HO.out.symm
    obtain ⟨S2, hS⟩ : ∃ S2, S2 = encodeB c i r o k v d := ⟨_, rfl⟩
    rw [← hS] at hown hd1 hd2 hS1 hS2
    obtain ⟨A2, c2, rfl, hr2, hc2, -⟩ := own_open hown
    have HD := Lib.hid (decode_any _ A2 S2.length c2 S2 w4 (HA.out.1.fresh H4.out.2) hr2 hc2 (by omega))
    have hS1' : (8 : Int) ≤ (S2.length : Int) := by omega
    have hS2' : (S2.length : Int) ≤ 47 := by omega
    have HS2 := Lib.hid (And.intro hd1 (And.intro hd2 hS))
    clear hown hd1 hd2 hS1 hS2 hS hr2 hc2 h4f h4t
    go_wp2_with fail
    refine (HN.out _ _).mono ?_
    rintro e _ ⟨rfl, rfl⟩
    go_wp2_with fail
    refine HD.out.mono ?_
    rintro e w5 ⟨he, hk5⟩
    rw [if_pos HS2.out.1, HS2.out.2.1] at he
    subst he
    have hb5 := H4.out.1.keep hk5 trivial
    have hf5 := H4.out.2.trans hk5
    clear x0 x1 x2 x3 x4 x5 x6 hlt1
    have x0 := hb5.cell 0
    have x1 := hb5.cell 1
    have x2 := hb5.cell 2
    have x3 := hb5.cell 3
    have x4 := hb5.cell 4
    have x5 := hb5.cell 5
    have x6 := hb5.cell 6
    have hlt1 := hb5.lt
    simp at x0 x1 x2 x3 x4 x5 x6
    have H5 := Lib.hid (And.intro hb5 hf5)
    clear hb5 hf5 hk5 HD H4
    go_wp2_with fail
    refine (HN.out _ _).mono ?_
    rintro e _ ⟨rfl, rfl⟩
    go_wp2_with fail
    obtain ⟨w6, hw6⟩ : ∃ w6, w6 = w5.alloc (.cells #[.int .i64 c, .int .i64 i, .int .i64 r, .int .i64 o, str k, str v, str d] 23) := ⟨_, rfl⟩
    rw [← hw6]
    have hf6 : Fresh w5 w6 := hw6 ▸ (Keep.refl _ w5).alloc _
    replace x0 := hf6.cellAt x0 trivial
    replace x1 := hf6.cellAt x1 trivial
    replace x2 := hf6.cellAt x2 trivial
    replace x3 := hf6.cellAt x3 trivial
    replace x4 := hf6.cellAt x4 trivial
    replace x5 := hf6.cellAt x5 trivial
    replace x6 := hf6.cellAt x6 trivial
    have H6 := Lib.hid (And.intro trivial (H5.out.2.trans hf6))
    clear hf6 hw6 hlt1
    have k0 := cell_regrown x0
    have k1 := cell_regrown x1
    have k2 := cell_regrown x2
    have k3 := cell_regrown x3
    have k4 := cell_regrown x4
    have k5 := cell_regrown x5
    have k6 := cell_regrown x6
    have CC := Lib.hid (fun q os => check_reg c i r o k v d w6 (HA.out.1.fresh H6.out.2) q os _ HO.out)
    have CN := Lib.hid (num_reg w6)
    simp only [Bool.false_eq_true, if_false, if_true] at CC
    clear x0 x1 x2 x3 x4 x5 x6
    refine wp_region_quiet_below (by kernel_rfl) (by kernel_rfl) ?_
    repeat (quiet_step (first | exact CN.out _ _ _ | exact CC.out _ _))
    refine wpQuiet_nil ?_
    intro _ hw'
    obtain ⟨⟨dq, osq⟩, hw''⟩ := hw'
    subst hw''
    go_wp2_with fail
    obtain ⟨wq, hwq⟩ : ∃ wq, wq = Go.Sort.grow (redrawn w6 dq) osq := ⟨_, rfl⟩
    rw [← hwq]
    have hfq : Fresh w wq := hwq ▸ H6.out.2.trans (Fresh.regrown w6 dq osq)
    have HP := Lib.hid (copied_any Z A n cp bs wq (HA.out.2.1.keep (hfq.weaken (fun _ _ _ => trivial))) (by have := HA.out.2.2.2.1; omega) HA.out.2.2.2.2)
    have HQ := Lib.hid hfq
    clear hfq hwq k0 k1 k2 k3 k4 k5 k6
    refine HP.out.mono ?_
    rintro e w7 ⟨⟨u, rfl, hown⟩, hk7⟩
    obtain ⟨A3, c3, rfl, hr3, -, -⟩ := own_open hown
    have hf7 := HQ.out.trans hk7
    have HD := Lib.hid (decode_any Z A n cp bs w7 (HA.out.1.fresh hf7) (HA.out.2.1.keep (hf7.weaken (fun _ _ _ => trivial))) HA.out.2.2.1 (by have := HA.out.2.2.2.1; omega))
    have HR := Lib.hid (And.intro hr3 hf7)
    clear hown hr3 hf7 hk7 HP
    go_wp2_with fail
    refine HD.out.mono ?_
    rintro e w8 ⟨he, hk8⟩
    have HF8 := Lib.hid (And.intro (HR.out.1.keep (hk8.weaken (fun _ _ _ => trivial))) (HR.out.2.trans hk8))
    clear hk8 HD
    cases hdo : decOk bs with
    | false =>
      rw [hdo, if_neg (by simp)] at he
      subst he
      clear hdo
      go_wp2_with fail
      refine (HN.out _ _).mono ?_
      rintro e _ ⟨rfl, rfl⟩
      go_wp2_with fail
      refine (HN.out _ _).mono ?_
      rintro e _ ⟨rfl, rfl⟩
      go_wp2_with fail
      go_ret
      exact ⟨rfl, HF8.out.2.alloc _⟩
    | true =>
      rw [hdo, if_pos rfl] at he
      obtain ⟨q1, q2, q3, q4, s1, s2, s3, hdv, hval, henc⟩ := dec_named hdo
      rw [hdv] at he
      subst he
      clear hdo hdv
      have hk9 : Fresh w8 (w8.alloc (.cells #[.int .i64 q1, .int .i64 q2, .int .i64 q3, .int .i64 q4, str s1, str s2, str s3] 23)) := (Keep.refl _ w8).alloc _
      have HE2 := encode_any q1 q2 q3 q4 s1 s2 s3 _ (HA.out.1.fresh (HF8.out.2.trans hk9))
      rw [hval, henc] at HE2
      replace HE2 := Lib.hid HE2
      have HF9 := Lib.hid (And.intro (HF8.out.1.keep (hk9.weaken (fun _ _ _ => trivial))) (HF8.out.2.trans hk9))
      clear hval henc hk9
      go_wp2_with fail
      refine (HN.out _ _).mono ?_
      rintro e _ ⟨rfl, rfl⟩
      go_wp2_with fail
      refine HE2.out.mono ?_
      rintro e w10 ⟨hk10, -, h10⟩
      obtain ⟨u, rfl, hown⟩ := h10 rfl
      obtain ⟨A4, c4, rfl, hr4, -, -⟩ := own_open hown
      have hlen : bs.length = n := by simpa [Lib.byteCells] using HA.out.2.1.1
      have HS := same_any _ _ A4 A3 bs.length c4 n c3 bs bs w10 hr4 (HF9.out.1.keep (hk10.weaken (fun _ _ _ => trivial))) (by have := HA.out.2.2.2.1; omega) (by have := HA.out.2.2.2.1; omega)
      rw [decide_eq_true rfl] at HS
      replace HS := Lib.hid HS
      have HF10 := Lib.hid (HF9.out.2.trans hk10)
      clear hown hr4 hk10 h10 HE2 hlen
      go_wp2_with fail
      refine (HN.out _ _).mono ?_
      rintro e _ ⟨rfl, rfl⟩
      go_wp2_with fail
      refine HS.out.mono ?_
      rintro e _ ⟨rfl, dk, rfl⟩
      go_wp2_with fail
      go_ret
      exact ⟨rfl, HF10.out.drewN _⟩
end Go.Proofs.YtkgbhanpenpkmaaDoor
