/-
  MERGED: Does Appl Bytes Mat Sealed
-/
import Derived.Test.YtlibhkehebioeaaGreatDoorO11
import Derived.Test.YtlibhkehebioeaaGreatDoorO7
import Derived.Deep.RegionHeld3
import Derived.Deep.DeepCutAuto
import Derived.Deep.CutBlock
import Derived.Test.YtlibhkehebioeaaGreatDoorO2
import Derived.Test.YtlibhkehebioeaaGreatDoorO10
import Derived.Test.YtlibhkehebioeaaGreatDoorO9
namespace Go.Proofs.YtlibhkehebioeaaGreatDoor
set_option linter.unusedVariables false
set_option linter.unusedSimpArgs false
open Go.RowKit

theorem vcmd_of {c i r o : Int} {k v d : Txt} (h : validB c i r o k v d = true) : VCmd numb c i r o k v d := by
  obtain ⟨⟨hc0, hc1⟩, ⟨hi0, hi1⟩, ⟨hr0, hr1⟩, ⟨ho1, ho9⟩, hf⟩ := valid_ok h
  obtain ⟨l1, l2, l3⟩ := fits_len hf
  have hK : o ≤ 8 → 1 ≤ k.length := by
    intro ho
    have hs : hasB (shapeTab.getD o.toNat 0) 1 = true := by
      obtain ⟨n, rfl⟩ : ∃ n : Nat, o = (n : Int) := ⟨o.toNat, by omega⟩
      have hn : n = 1 ∨ n = 2 ∨ n = 3 ∨ n = 4 ∨ n = 5 ∨ n = 6 ∨ n = 7 ∨ n = 8 := by omega
      rcases hn with rfl | rfl | rfl | rfl | rfl | rfl | rfl | rfl <;> decide
    unfold fitsB at hf
    split at hf
    · cases hf
    · rename_i h1
      have : keyB k = true := by
        rcases hk : keyB k with _ | _
        · exact absurd (.inl (by rw [hs, hk]; simp)) h1
        · rfl
      simp [keyB] at this
      omega
  have hE : o = 9 → 0 ≤ (numb v).1 ∧ (numb v).1 < 16 := by
    rintro rfl
    have e : shapeTab.getD (9 : Int).toNat 0 = 32 := by decide
    have b2 : hasB 32 2 = false := by decide
    have b8 : hasB 32 8 = false := by decide
    have b16 : hasB 32 16 = false := by decide
    have b32 : hasB 32 32 = true := by decide
    rw [e] at hf
    unfold fitsB at hf
    rw [b2, b8, b16, b32] at hf
    split at hf
    · cases hf
    · split at hf
      · cases hf
      · simp at hf
        exact hf.2
  exact ⟨hc0, hc1, hi0, hi1, hr0, hr1, ho1, by omega, fun ho => ⟨hK ho, l1⟩, l2, hE⟩

def opFn (o : Int) : Nat := if o = 1 then 73 else if o = 2 then 74 else if o = 3 then 75 else if o = 4 then 76 else if o = 5 then 77
  else if o = 6 then 78 else if o = 7 then 79 else if o = 8 then 80 else 81
theorem op_nine {o : Int} (h1 : 1 ≤ o) (h9 : o ≤ 9) : o = 1 ∨ o = 2 ∨ o = 3 ∨ o = 4 ∨ o = 5 ∨ o = 6 ∨ o = 7 ∨ o = 8 ∨ o = 9 := by omega
theorem opOf_one (o : Int) (f : Nat) (w : World) (h : (o = 1 ∧ f = 73) ∨ (o = 2 ∧ f = 74) ∨ (o = 3 ∧ f = 75) ∨ (o = 4 ∧ f = 76) ∨ (o = 5 ∧ f = 77) ∨ (o = 6 ∧ f = 78) ∨ (o = 7 ∧ f = 79) ∨ (o = 8 ∧ f = 80) ∨ (o = 9 ∧ f = 81)) :
    Calls Tryz.prog 44 #[.int .i64 o] w fun e w' => e = .returned (.agg #[.func (Fn.func f) #[] #[]]) ∧ Fresh w w' := by
  rcases h with ⟨rfl, rfl⟩ | ⟨rfl, rfl⟩ | ⟨rfl, rfl⟩ | ⟨rfl, rfl⟩ | ⟨rfl, rfl⟩ | ⟨rfl, rfl⟩ | ⟨rfl, rfl⟩ | ⟨rfl, rfl⟩ | ⟨rfl, rfl⟩
  all_goals
    go_enter Tryz.func44, Tryz.ntmps44
    go_wp2
    refine bodyPost_ret (results_one rfl _ _ w.heap.size 110 _ _ rfl (Blk.new _ _ _) Tryz.underlying110 rfl (by kernel_rfl)) rfl ?_
    exact ⟨rfl, (Keep.refl _ w).alloc _⟩
theorem opOf_all {o : Int} (h1 : 1 ≤ o) (h9 : o ≤ 9) (w : World) : Calls Tryz.prog 44 #[.int .i64 o] w fun e w' => e = .returned (.agg #[.func (Fn.func (opFn o)) #[] #[]]) ∧ Fresh w w' := by
  refine opOf_one o (opFn o) w ?_
  rcases op_nine h1 h9 with rfl | rfl | rfl | rfl | rfl | rfl | rfl | rfl | rfl <;> simp [opFn]
theorem op_does (S : Nat → Prop) (m bp bl : Nat) (s : StD) (c i r o : Int) (k v d : Txt) (w : World) (hm : MSt S w m bp bl s) (hi : LInv s.locks s.tok) (hp : PInv s.pairs) (hT : Tabs w) (hv : VCmd numb c i r o k v d) :
    Calls Tryz.prog (opFn o) #[.pointer (some ⟨m, 0, none⟩), cmdV c i r o k v d] w (OpPost S m bp bl (doesD numb Lib.itoa c o k v d s) w) := by
  have hk := hv.kl
  rcases op_nine hv.o1 hv.o9 with rfl | rfl | rfl | rfl | rfl | rfl | rfl | rfl | rfl
  · rw [show doesD numb Lib.itoa c 1 k v d s = onKeyD numb Lib.itoa 1 k v d s by simp [doesD], show opFn 1 = 73 from rfl]
    exact setop_any Lib.itoa S m bp bl s c i r 1 k v d w hm hp (hk (by omega)).2
  · rw [show doesD numb Lib.itoa c 2 k v d s = onKeyD numb Lib.itoa 2 k v d s by simp [doesD], show opFn 2 = 74 from rfl]
    exact getop_any Lib.itoa S m bp bl s c i r k v d w hm (hk (by omega)).2
  · rw [show doesD numb Lib.itoa c 3 k v d s = onKeyD numb Lib.itoa 3 k v d s by simp [doesD], show opFn 3 = 75 from rfl]
    exact casop_any Lib.itoa S m bp bl s c i r k v d w hm hp (hk (by omega)).2
  · rw [show doesD numb Lib.itoa c 4 k v d s = onKeyD numb Lib.itoa 4 k v d s by simp [doesD], show opFn 4 = 76 from rfl]
    exact delop_any Lib.itoa S m bp bl s c i r k v d w hm (hk (by omega)).2
  · rw [show doesD numb Lib.itoa c 5 k v d s = onKeyD numb Lib.itoa 5 k v d s by simp [doesD], show opFn 5 = 77 from rfl]
    exact addop_any S m bp bl s c i r k v d w hm hp (hk (by omega)).2 hv.vl hT
  · rw [show doesD numb Lib.itoa c 6 k v d s = onLockD numb c 6 k v s by simp [doesD], show opFn 6 = 78 from rfl]
    exact lock_any S m bp bl s c i r k v d w hm hi (hk (by omega)).2
  · rw [show doesD numb Lib.itoa c 7 k v d s = onLockD numb c 7 k v s by simp [doesD], show opFn 7 = 79 from rfl]
    exact unlock_any S m bp bl s c i r k v d w hm hi (hk (by omega)).2
  · rw [show doesD numb Lib.itoa c 8 k v d s = onLockD numb c 8 k v s by simp [doesD], show opFn 8 = 80 from rfl]
    exact fence_any S m bp bl s c i r k v d w hm (hk (by omega)).2 hT hv.vl
  · rw [show doesD numb Lib.itoa c 9 k v d s = endD numb v s by simp [doesD], show opFn 9 = 81 from rfl]
    exact end_any S m bp bl s c i r k v d w hm hi hT (hv.e rfl)
end Go.Proofs.YtlibhkehebioeaaGreatDoor
namespace Go.Proofs.YtlibhkehebioeaaGreatDoor
set_option linter.unusedVariables false
set_option linter.unusedSimpArgs false
open Go.RowKit

/-- A command, whatever it is. -/
def applyD (c i r o : Int) (k v d : Txt) (s : StD) : ResD × StD := if validB c i r o k v d = true then applyV numb Lib.itoa c i r o k v d s else (⟨10, [], 0⟩, s)
theorem MSt.sess {S : Nat → Prop} {w : World} {m bp bl : Nat} {s : StD} (h : MSt S w m bp bl s) {q : Nat} (hq : q < 16) (i r : Int) (R : ResD) :
    MSt S (((((w.setCell ⟨m, 3 + q * 5, none⟩ (.int .i64 i)).setCell ⟨m, 3 + q * 5 + 1, none⟩ (.int .i64 r)).setCell ⟨m, 3 + q * 5 + 2, none⟩ (.int .i64 R.code)).setCell ⟨m, 3 + q * 5 + 3, none⟩ (str R.val)).setCell ⟨m, 3 + q * 5 + 4, none⟩ (.int .i64 R.n)) m bp bl { s with ss := s.ss.set q ⟨i, r, R⟩ } := by
  have hqs : q < s.ss.length := by rw [h.len]; exact hq
  have b5 := ((((h.blk.set (3 + q * 5) (.int .i64 i)).set (3 + q * 5 + 1) (.int .i64 r)).set (3 + q * 5 + 2) (.int .i64 R.code)).set (3 + q * 5 + 3) (str R.val)).set (3 + q * 5 + 4) (.int .i64 R.n)
  rw [mcells_store hqs i r R] at b5
  have hk : Keep (fun j => j ≠ m) w (((((w.setCell ⟨m, 3 + q * 5, none⟩ (.int .i64 i)).setCell ⟨m, 3 + q * 5 + 1, none⟩ (.int .i64 r)).setCell ⟨m, 3 + q * 5 + 2, none⟩ (.int .i64 R.code)).setCell ⟨m, 3 + q * 5 + 3, none⟩ (str R.val)).setCell ⟨m, 3 + q * 5 + 4, none⟩ (.int .i64 R.n)) :=
    (((((Keep.refl _ w).setCell (fun _ h => h rfl) _).setCell (fun _ h => h rfl) _).setCell (fun _ h => h rfl) _).setCell (fun _ h => h rfl) _).setCell (fun _ h => h rfl) _
  obtain ⟨ms, hl⟩ := h.lk
  exact ⟨b5, by simp [h.len], h.pm.keep hk (fun e => h.mp e.symm), ⟨ms, hl.keep hk fun j hj e => h.nm (by rw [← e]; exact hj)⟩, h.nm, h.nb⟩

set_option maxRecDepth 20000 in
set_option maxHeartbeats 40000000 in
theorem appl_any (S : Nat → Prop) (m bp bl : Nat) (s : StD) (c i r o : Int) (k v d : Txt) (w : World) (hm : MSt S w m bp bl s) (hi : LInv s.locks s.tok) (hp : PInv s.pairs) (hT : Tabs w) (hTk : ∀ w', Keep (fun j => j ≠ m ∧ j ≠ bp ∧ ¬ S j) w w' → Tabs w') :
    Calls Tryz.prog 17 #[.pointer (some ⟨m, 0, none⟩), cmdV c i r o k v d] w (OpPost S m bp bl (applyD c i r o k v d s) w) := by
  obtain ⟨X, hX⟩ : ∃ X, X = applyD c i r o k v d s := ⟨_, rfl⟩
  rw [← hX]
  obtain ⟨b, hb⟩ : ∃ b, b = validB c i r o k v d := ⟨_, rfl⟩
  have HO := Lib.hid (op_at w c i r o k v d)
  obtain ⟨G, hG⟩ : ∃ G, G = w.heap.size := ⟨_, rfl⟩
  obtain ⟨W, hW⟩ : ∃ W, W = (w.alloc (.cells #[.int .i64 c, .int .i64 i, .int .i64 r, .int .i64 o, str k, str v, str d] 30)).alloc (.cells #[.int .i64 0, str [], .int .i64 0] 33) := ⟨_, rfl⟩
  rw [← hW, ← hG] at HO
  have HV := valid_any c i r o k v d W (hT.fresh HO.out.fresh)
  rw [← hb] at HV
  replace HV := Lib.hid HV
  have hmt := hm.tight
  have HA := Lib.hid (And.intro hm (And.intro hmt (And.intro hX (And.intro hi (And.intro hp (And.intro hb hTk))))))
  clear hT hTk hm hmt hX hi hp hb
  go_enter Tryz.func17, Tryz.ntmps17
  go_wp2_with fail
  simp only [← hG]
  rw [← hW]
  clear hW hG
  refine HV.out.mono ?_
  rintro e W1 ⟨rfl, f1⟩
  have hf1 := HO.out.fresh.trans f1
  have hbx1 := HO.out.cmd.keep f1 trivial
  have hbr1 := HO.out.res.keep f1 trivial
  have hm1 := HA.out.2.1.fresh hf1
  cases b
  · obtain ⟨r0, r1, r2, s0, s1, s2, rl⟩ := res_facts hbr1
    have H1 := Lib.hid (And.intro hf1 (And.intro hbr1 hm1))
    clear hf1 hbx1 hbr1 hm1 f1 HV
    go_wp2_with fail
    obtain ⟨hm, hmt, hX, hi, hp, hb, hTk⟩ := HA.out
    obtain ⟨hf1, hbr1, hm1⟩ := H1.out
    have e : X = (⟨10, [], 0⟩, s) := by rw [hX]; unfold applyD; rw [← hb]; simp
    rw [e]
    exact op_ret rfl rfl rfl hm1 (fun j h => .inl h.1) hm.blk.lt hm.pm.lt hm.nm hm.nb hbr1 (by have := HO.out.sz; omega) (hf1.weaken fun _ _ _ => trivial)
  · have hV := vcmd_of HA.out.2.2.2.2.2.1.symm
    obtain ⟨q, rfl⟩ : ∃ q : Nat, c = (q : Int) := ⟨c.toNat, by have := hV.c0; omega⟩
    have hq16 : q < 16 := by have := hV.c1; omega
    have hqi : (q : Int) < 16 := by omega
    have hz0 := hm1.ses hq16 0 (by omega)
    have hz1 := hm1.ses hq16 1 (by omega)
    have hz2 := hm1.ses hq16 2 (by omega)
    have hz3 := hm1.ses hq16 3 (by omega)
    have hz4 := hm1.ses hq16 4 (by omega)
    obtain ⟨z, hz⟩ : ∃ z, z = s.ss.getD q noSes := ⟨_, rfl⟩
    rw [← hz] at hz0 hz1 hz2 hz3 hz4
    simp [MSess.cells] at hz0 hz1 hz2 hz3 hz4
    obtain ⟨si, hsi⟩ : ∃ si, si = z.inc := ⟨_, rfl⟩
    obtain ⟨sr, hsr⟩ : ∃ sr, sr = z.req := ⟨_, rfl⟩
    obtain ⟨sc, hsc⟩ : ∃ sc, sc = z.last.code := ⟨_, rfl⟩
    obtain ⟨sv, hsv⟩ : ∃ sv, sv = z.last.val := ⟨_, rfl⟩
    obtain ⟨sn, hsn⟩ : ∃ sn, sn = z.last.n := ⟨_, rfl⟩
    rw [← hsi] at hz0
    rw [← hsr] at hz1
    rw [← hsc] at hz2
    rw [← hsv] at hz3
    rw [← hsn] at hz4
    have k0 := hbx1.cell 0
    have k1 := hbx1.cell 1
    have k2 := hbx1.cell 2
    have k3 := hbx1.cell 3
    simp at k0 k1 k2 k3
    have xl := hbx1.lt
    have ml := hm1.blk.lt
    have HX : Hid (∀ R, z = ⟨si, sr, ⟨sc, sv, sn⟩⟩ ∧ (i < si ∨ (si = i ∧ r < sr) → R = (⟨9, [], 0⟩, s) → X = R) ∧ (si = i ∧ sr = r → R = (⟨sc, sv, sn⟩, s) → X = R) ∧
        (¬ (i < si ∨ (si = i ∧ r < sr)) → ¬ (si = i ∧ sr = r) → ∀ s1 x, s1 = (if 0 < si ∧ si < i then (letsD (q : Int) s).2 else s) → x = doesD numb Lib.itoa (q : Int) o k v d s1 → R = (x.1, { x.2 with ss := x.2.ss.set q ⟨i, r, x.1⟩ }) → X = R)) := Lib.hid fun R => by
      have e1 : z = ⟨si, sr, ⟨sc, sv, sn⟩⟩ := by rw [hsi, hsr, hsc, hsv, hsn]
      have e2 : X = applyV numb Lib.itoa (q : Int) i r o k v d s := by rw [HA.out.2.2.1]; unfold applyD; rw [← HA.out.2.2.2.2.2.1]; simp
      refine ⟨e1, fun h h2 => ?_, fun h h2 => ?_, fun h h2 s1 x h3 h4 h5 => ?_⟩
      · rw [h2, e2]
        unfold applyV
        rw [show ((q : Int)).toNat = q by omega, ← hz, e1]
        simp only
        rw [if_pos (by rcases h with h | h; exact .inl h; exact .inr h)]
      · rw [h2, e2]
        unfold applyV
        rw [show ((q : Int)).toNat = q by omega, ← hz, e1]
        simp only
        rw [if_neg (by omega), if_pos h]
      · rw [h5, h4, h3, e2]
        unfold applyV
        rw [show ((q : Int)).toNat = q by omega, ← hz, e1]
        simp only
        rw [if_neg h, if_neg h2]
    obtain ⟨r0, r1, r2, t0, t1, t2, rl⟩ := res_facts hbr1
    have H1 := Lib.hid (And.intro hf1 (And.intro hbx1 (And.intro hbr1 (And.intro hm1 hV))))
    clear hf1 hbx1 hbr1 hm1 f1 HV hV hz hsi hsr hsc hsv hsn
    by_cases hD : ¬ (i < si ∨ (si = i ∧ r < sr)) ∧ ¬ (si = i ∧ sr = r)
    · obtain ⟨s1, hs1⟩ : ∃ s1, s1 = if 0 < si ∧ si < i then (letsD (q : Int) s).2 else s := ⟨_, rfl⟩
      have HS1 := Lib.hid hs1
      have HL := Lib.hid (fun n => lets_any (fun j => S j ∧ j < w.heap.size) m bp bl s (q : Int) (W1.drewN n) (H1.out.2.2.2.1.fresh ((Keep.refl _ W1).drewN n)) HA.out.2.2.2.1)
      have HD := Lib.hid hD
      clear hs1 hD
      go_wp2_with fail
      go_quiet (fail)
      go_upto_block 0 with (fail)
      go_cut [] (fun wx => Hid (MSt (fun j => (S j ∧ j < w.heap.size) ∨ W1.heap.size ≤ j) wx m bp bl s1 ∧ Keep (fun j => j ≠ m ∧ ¬ (S j ∧ j < w.heap.size)) W1 wx))
      case first =>
        have HN : Hid (∀ wx, Fresh W1 wx → s1 = s → Hid (MSt (fun j => (S j ∧ j < w.heap.size) ∨ W1.heap.size ≤ j) wx m bp bl s1 ∧ Keep (fun j => j ≠ m ∧ ¬ (S j ∧ j < w.heap.size)) W1 wx)) := Lib.hid fun wx hf e => by
          rw [e]
          have hm1 := H1.out.2.2.2.1
          have hml := HA.out.1.blk.lt
          have hbl := HA.out.1.pm.lt
          have hz := H1.out.1.size
          exact Lib.hid ⟨(hm1.fresh hf).widen (fun j h => .inl h) (fun h => h.elim hm1.nm fun h => by omega) (fun h => h.elim hm1.nb fun h => by omega), hf.weaken fun _ _ _ => trivial⟩
        by_cases hE : si = i
        · subst hE
          have g1 : decide (si < si) = false := by simp
          have g2 : (si == si) = true := by simp
          have g3 : decide (r < sr) = false := by have := HD.out; simp; omega
          have g4 : (sr == r) = false := by have := HD.out; simp; omega
          have hi1 := H1.out.2.2.2.2.i0
          have g5 : decide (0 < si) = true := by simp; omega
          go_wp2_with fail
          go_quiet (fail)
          go_wp2_with fail
          go_quiet (fail)
          go_wp2_with fail
          go_quiet (fail)
          go_wp2_with fail
          go_meet
          exact HN.out _ ((((((Keep.refl _ W1).drewN _).drewN _).drewN _).drewN _)) (by rw [HS1.out]; simp)
        · have g1 : decide (i < si) = false := by have := HD.out; simp; omega
          have g2 : (si == i) = false := by simp; omega
          have g3 : decide (si < i) = true := by have := HD.out; simp; omega
          by_cases h0 : 0 < si
          · have g4 : decide (0 < si) = true := by simp; omega
            go_wp2_with fail
            go_quiet (fail)
            go_wp2_with fail
            go_quiet (fail)
            go_wp2_with fail
            go_quiet (fail)
            go_wp2_with fail
            refine (HL.out _).mono ?_
            rintro e w9 ⟨rfl, hm9, hk9⟩
            have H9 := Lib.hid (And.intro hm9 hk9)
            clear hm9 hk9
            go_wp2_with fail
            go_meet
            have e : s1 = (letsD (q : Int) s).2 := by rw [HS1.out, if_pos ⟨h0, by have := HD.out; omega⟩]
            rw [e]
            exact Lib.hid ⟨H9.out.1, (((Keep.refl (fun _ => True) W1).drewN _).weaken (fun _ _ _ => trivial)).trans H9.out.2⟩
          · have g4 : decide (0 < si) = false := by simp; omega
            go_wp2_with fail
            go_quiet (fail)
            go_wp2_with fail
            go_quiet (fail)
            go_wp2_with fail
            go_quiet (fail)
            go_wp2_with fail
            go_meet
            exact HN.out _ ((((((Keep.refl _ W1).drewN _).drewN _).drewN _).drewN _)) (by rw [HS1.out, if_neg (by omega)])
      case rest =>
        rename World => W2
        have HF := Lib.hid hcut
        clear hcut
        obtain ⟨hf1, hbx1, hbr1, hm1, hV⟩ := H1.out
        obtain ⟨hm2, hk2⟩ := HF.out.out
        have hz1 := hf1.size
        have hz2 := hk2.size
        have hsz := HO.out.sz
        have hrl := hbr1.lt
        have hml := HA.out.1.blk.lt
        have hbl := HA.out.1.pm.lt
        have hbG : G ≠ m ∧ ¬ (S G ∧ G < w.heap.size) := ⟨by omega, fun h => by omega⟩
        have hbR : G + 1 ≠ m ∧ ¬ (S (G + 1) ∧ G + 1 < w.heap.size) := ⟨by omega, fun h => by omega⟩
        have hbx2 := hbx1.keep hk2 hbG
        have hbr2 := hbr1.keep hk2 hbR
        have hi1 : LInv s1.locks s1.tok := by
          rw [HS1.out]
          split
          · exact HA.out.2.2.2.1.lets _
          · exact HA.out.2.2.2.1
        have hp1 : PInv s1.pairs := by
          rw [HS1.out]
          split
          · rw [(lets_rest _ _).1]; exact HA.out.2.2.2.2.1
          · exact HA.out.2.2.2.2.1
        have hkW : Keep (fun j => j ≠ m ∧ j ≠ bp ∧ ¬ S j) w W2 := hf1.comp hk2 (fun _ _ _ => trivial) (fun _ _ h => ⟨h.1, fun e => h.2.2 e.1⟩)
        have hT2 := HA.out.2.2.2.2.2.2 W2 hkW
        obtain ⟨S3, hS3⟩ : ∃ S3 : Nat → Prop, S3 = fun j => ((S j ∧ j < w.heap.size) ∨ W1.heap.size ≤ j) ∧ j < W2.heap.size := ⟨_, rfl⟩
        have hm3 : MSt S3 W2 m bp bl s1 := hS3 ▸ hm2.tight
        have hS3b : ∀ j, S3 j → j < W2.heap.size := fun j h => by rw [hS3] at h; exact h.2
        have hS3S : ∀ j, S3 j → S j ∨ w.heap.size ≤ j := fun j h => by
          rw [hS3] at h
          rcases h.1 with h | h
          · exact .inl h.1
          · exact .inr (by omega)
        have hG3 : ¬ S3 G ∧ ¬ S3 (G + 1) := by
          rw [hS3]
          constructor
          · rintro ⟨h | h, -⟩ <;> omega
          · rintro ⟨h | h, -⟩ <;> omega
        have hGb : G ≠ bp ∧ G + 1 ≠ bp := by constructor <;> omega
        clear hS3
        obtain ⟨R, hR⟩ : ∃ R, R = (doesD numb Lib.itoa (q : Int) o k v d s1).1 := ⟨_, rfl⟩
        obtain ⟨s2, hs2⟩ : ∃ s2, s2 = (doesD numb Lib.itoa (q : Int) o k v d s1).2 := ⟨_, rfl⟩
        have HC : Hid (∀ X, Fresh W2 X → Calls Tryz.prog (opFn o) #[.pointer (some ⟨m, 0, none⟩), cmdV (q : Int) i r o k v d] X fun e w' => e = .returned (resV R) ∧ MSt (fun j => S3 j ∨ W2.heap.size ≤ j) w' m bp bl s2 ∧ Keep (fun j => j ≠ m ∧ j ≠ bp ∧ ¬ S3 j) X w' ∧ Keep (fun j => j ≠ m ∧ j ≠ bp ∧ ¬ S3 j) W2 w') := Lib.hid fun X hX => by
          refine (op_does S3 m bp bl s1 (q : Int) i r o k v d X (hm3.fresh hX) hi1 hp1 (hT2.fresh hX) hV).mono ?_
          rintro e w' ⟨h2, h3, h4⟩
          rw [hR, hs2]
          have hz := hX.size
          have := hm3.blk.lt
          have := hm3.pm.lt
          exact ⟨h2, h3.widen (fun j h => h.elim .inl fun h => .inr (by omega)) (fun h => h.elim hm3.nm fun h => by omega) (fun h => h.elim hm3.nb fun h => by omega), h4, (hX.weaken (fun _ _ _ => trivial)).trans h4⟩
        have HCa := Lib.hid (fun (wq : World) (fq : Fresh W2.drew wq) (ob : Obj) => HC.out (wq.alloc ob) ((((Keep.refl _ W2).drew).trans fq).alloc ob))
        have HCb := Lib.hid (fun (wq : World) (fq : Fresh W2.drew wq) => HC.out wq (((Keep.refl _ W2).drew).trans fq))
        have HCc := Lib.hid (fun (wq : World) (ob : Obj) (fq : Fresh (World.drew (W2.alloc ob)) wq) => HC.out wq ((((Keep.refl _ W2).alloc ob).drew).trans fq))
        clear HC
        have HO2 := Lib.hid (fun w => opOf_all hV.o1 hV.o9 w)
        have hm3l := hm3.blk.lt
        have hb3l := hm3.pm.lt
        have hZ : ∀ g, W2.heap.size ≤ g → g ≠ m ∧ g ≠ bp ∧ ¬ S3 g := fun g hg => ⟨by omega, by omega, fun h => by have := hS3b g h; omega⟩
        have HZ3 := Lib.hid hZ
        have HK : Hid (∀ w', Keep (fun j => j ≠ m ∧ j ≠ bp ∧ ¬ S3 j) W2 w' → Keep (fun j => j ≠ m ∧ j ≠ bp ∧ ¬ S3 j) W2 w' ∧ w'.cell? ⟨G, 0, none⟩ = some (.int .i64 (q : Int)) ∧ w'.cell? ⟨G, 1, none⟩ = some (.int .i64 i) ∧ w'.cell? ⟨G, 2, none⟩ = some (.int .i64 r) ∧ w'.cell? ⟨G, 3, none⟩ = some (.int .i64 o) ∧ w'.cell? ⟨G, 4, none⟩ = some (str k) ∧ w'.cell? ⟨G, 5, none⟩ = some (str v) ∧ w'.cell? ⟨G, 6, none⟩ = some (str d)) := Lib.hid fun w' hk => by
          have hb := hbx2.keep hk ⟨hbG.1, hGb.1, hG3.1⟩
          have q0 := hb.cell 0
          have q1 := hb.cell 1
          have q2 := hb.cell 2
          have q3 := hb.cell 3
          have q4 := hb.cell 4
          have q5 := hb.cell 5
          have q6 := hb.cell 6
          simp at q0 q1 q2 q3 q4 q5 q6
          exact ⟨hk, q0, q1, q2, q3, q4, q5, q6⟩
        have xl2 := hbx2.lt
        have H2 := Lib.hid (And.intro hbx2 (And.intro hbr2 (And.intro hkW (And.intro hS3S (And.intro hG3 (And.intro hGb (And.intro hR (And.intro hs2 hm3))))))))
        obtain ⟨F, hF⟩ : ∃ F, F = opFn o := ⟨_, rfl⟩
        rw [← hF] at HCa HCb HCc HO2
        have hFF : F = 73 ∨ F = 74 ∨ F = 75 ∨ F = 76 ∨ F = 77 ∨ F = 78 ∨ F = 79 ∨ F = 80 ∨ F = 81 := by
          rw [hF]
          rcases op_nine hV.o1 hV.o9 with rfl | rfl | rfl | rfl | rfl | rfl | rfl | rfl | rfl <;> simp [opFn]
        have hfld : ∀ (f : Nat) (w : World), (Instr.field 110 (.agg #[.func (Fn.func f) #[] #[]]) 0).run Tryz.prog w = .ok (.func (Fn.func f) #[] #[]) w := fun f w => by rfl
        clear hsz hf1 hbx1 hbr1 hm1 hV hm2 hk2 hbx2 hbr2 hi1 hp1 hkW hT2 hm3 hS3b hS3S hG3 hGb hR hs2 hZ hF hbG hbR hz0 hz1 hz2 hz3 hz4 hrl k0 k1 k2 k3 r0 r1 r2 t0 t1 t2
        have HZ : Hid (∀ wx g, Keep (fun j => j ≠ m ∧ j ≠ bp ∧ ¬ S3 j) W2 wx → Blk wx g 33 (resA R) → MSt (fun j => S3 j ∨ W2.heap.size ≤ j) wx m bp bl s2 → W2.heap.size ≤ g →
            ∃ g' : Nat, (.pointer (some ⟨g, 0, none⟩) : Value) = .pointer (some ⟨g', 0, none⟩) ∧ Hid (Blk wx g' 33 (resA R) ∧ MSt (fun j => S3 j ∨ W2.heap.size ≤ j) wx m bp bl s2 ∧ Keep (fun j => j ≠ m ∧ j ≠ bp ∧ ¬ S3 j) W2 wx ∧ W2.heap.size ≤ g')) := Lib.hid fun wx g h1 h2 h3 h4 => ⟨g, rfl, h2, h3, h1, h4⟩
        go_upto_region 10 with (fail)
        go_cut [6] (fun s6 wx => ∃ g : Nat, s6 = .pointer (some ⟨g, 0, none⟩) ∧ Hid (Blk wx g 33 (resA R) ∧ MSt (fun j => S3 j ∨ W2.heap.size ≤ j) wx m bp bl s2 ∧ Keep (fun j => j ≠ m ∧ j ≠ bp ∧ ¬ S3 j) W2 wx ∧ W2.heap.size ≤ g))
        case first =>
          rcases hFF with rfl | rfl | rfl | rfl | rfl | rfl | rfl | rfl | rfl
          all_goals
            go_region_held3 (fun w' => Keep (fun j => j ≠ m ∧ j ≠ bp ∧ ¬ S3 j) W2 w' ∧ w'.cell? ⟨G, 0, none⟩ = some (.int .i64 (q : Int)) ∧ w'.cell? ⟨G, 1, none⟩ = some (.int .i64 i) ∧ w'.cell? ⟨G, 2, none⟩ = some (.int .i64 r) ∧ w'.cell? ⟨G, 3, none⟩ = some (.int .i64 o) ∧ w'.cell? ⟨G, 4, none⟩ = some (str k) ∧ w'.cell? ⟨G, 5, none⟩ = some (str v) ∧ w'.cell? ⟨G, 6, none⟩ = some (str d))
              (first | exact HK.out _ ((Keep.refl _ W2).drew) | exact HK.out _ (Keep.alloc (And.left (by assumption)) _) | exact HK.out _ (Keep.trans (And.left (by assumption)) (Keep.weaken fqa (fun _ _ _ => trivial))) | exact HK.out _ (Keep.trans (And.left (by assumption)) (Keep.weaken fqb (fun _ _ _ => trivial))) | exact HK.out _ hb3 | exact HK.out _ (Keep.alloc hb3 _) | exact HK.out _ (Keep.setCell (Keep.setCell (Keep.setCell hb3 hg _) hg _) hg _))
              (first
                | (go_at_call 44; with_reducible refine Calls.mono (HO2.out (World.drew W2)) ?_; rintro e wq ⟨rfl, fqa⟩)
                | (go_at_call 44; with_reducible refine Calls.mono (HO2.out (World.drew (World.alloc W2 (.cells #[.int .i64 0, str [], .int .i64 0] 33)))) ?_; rintro e wq ⟨rfl, fqb⟩)
                | (with_reducible show Calls _ _ _ _ _; with_reducible have hcc := HCa.out _ fqa (.cells #[.int .i64 0, str [], .int .i64 0] 33); with_reducible refine Calls.mono hcc ?_; clear hcc; rintro e wb ⟨rfl, hb1, hb2, hb3⟩
                   have bb : Blk wb wq.heap.size 33 #[.int .i64 0, str [], .int .i64 0] := Blk.keep (Blk.new wq _ _) hb2 (HZ3.out _ fqa.size)
                   have hg : wq.heap.size < W2.heap.size → ¬ (wq.heap.size ≠ m ∧ wq.heap.size ≠ bp ∧ ¬ S3 wq.heap.size) := by have h1 := fqa.size; have h2 : W2.drew.heap.size = W2.heap.size := rfl; omega
                   have bk := Lib.hid (And.intro bb hg)
                   have r0 := bb.cell 0; have r1 := bb.cell 1; have r2 := bb.cell 2
                   have e0 := bb.frozen 0; have e1 := bb.frozen 1; have e2 := bb.frozen 2
                   have rl := bb.lt
                   simp at r0 r1 r2)
                | (with_reducible show Calls _ _ _ _ _; with_reducible have hcc := HCb.out _ fqa; with_reducible refine Calls.mono hcc ?_; clear hcc; rintro e wb ⟨rfl, hb1, hb2, hb3⟩)
                | (with_reducible show Calls _ _ _ _ _; with_reducible have hcc := HCc.out _ _ fqb; with_reducible refine Calls.mono hcc ?_; clear hcc; rintro e wb ⟨rfl, hb1, hb2, hb3⟩
                   have bb : Blk wb W2.heap.size 33 #[.int .i64 0, str [], .int .i64 0] := Blk.keep (Blk.keep (Blk.new W2 _ _).drew fqb trivial) hb2 (HZ3.out _ (Nat.le_refl _))
                   have hg : W2.heap.size < W2.heap.size → ¬ (W2.heap.size ≠ m ∧ W2.heap.size ≠ bp ∧ ¬ S3 W2.heap.size) := by omega
                   have r0 := bb.cell 0; have r1 := bb.cell 1; have r2 := bb.cell 2
                   have e0 := bb.frozen 0; have e1 := bb.frozen 1; have e2 := bb.frozen 2
                   have rl := bb.lt
                   simp at r0 r1 r2))
            all_goals go_wp2_with fail
            all_goals go_meet
            · exact HZ.out _ _ (Keep.alloc hb3 _) (Blk.new _ _ _) (hb1.fresh ((Keep.refl _ _).alloc _)) hb3.size
            · have hk := res_keep hb3 hg R
              have hb := res_blk (R0 := ⟨0, [], 0⟩) bb R
              have hm := hb1.other bb (by decide) (by decide) (by decide) (res_keep (Keep.refl (fun j => j ≠ wq.heap.size) wb) (fun _ h => h rfl) R)
              exact HZ.out _ _ hk hb hm fqa.size
            · have hk := res_keep hb3 hg R
              have hb := res_blk (R0 := ⟨0, [], 0⟩) bb R
              have hm := hb1.other bb (by decide) (by decide) (by decide) (res_keep (Keep.refl (fun j => j ≠ W2.heap.size) wb) (fun _ h => h rfl) R)
              exact HZ.out _ _ hk hb hm (Nat.le_refl _)
        case rest =>
          rename World => W3
          obtain ⟨g, rfl, hcut⟩ := hcut
          obtain ⟨hbg, hm3, hk3, hge⟩ := hcut.out
          obtain ⟨hbx2, hbr2, hkW, hS3S, hG3, hGb, hR, hs2, -⟩ := H2.out
          have hsz := HO.out.sz
          have hrl2 := hbr2.lt
          have hbx3 := hbx2.keep hk3 ⟨by omega, hGb.1, hG3.1⟩
          have hbr3 := hbr2.keep hk3 ⟨by omega, hGb.2, hG3.2⟩
          have hkW3 : Keep (fun j => j ≠ m ∧ j ≠ bp ∧ ¬ S j) w W3 := hkW.comp hk3 (fun _ _ h => h) (fun j hj h => ⟨h.1, h.2.1, fun e => (hS3S j e).elim h.2.2 fun h2 => by omega⟩)
          have k1 := hbx3.cell 1
          have k2 := hbx3.cell 2
          have xl3 := hbx3.lt
          have gl := hbg.lt
          have c0 := hbg.cell 0
          have c1 := hbg.cell 1
          have c2 := hbg.cell 2
          simp at k1 k2 c0 c1 c2
          obtain ⟨r0, r1, r2, t0, t1, t2, rl3⟩ := res_facts hbr3
          have ml3 := hm3.blk.lt
          have m0 := hm3.blk.frozen (3 + q * 5)
          have m1 := hm3.blk.frozen (3 + q * 5 + 1)
          have m2 := hm3.blk.frozen (3 + q * 5 + 2)
          have m3 := hm3.blk.frozen (3 + q * 5 + 3)
          have m4 := hm3.blk.frozen (3 + q * 5 + 4)
          have n0 := hm3.ses hq16 0 (by omega)
          have n1 := hm3.ses hq16 1 (by omega)
          have n2 := hm3.ses hq16 2 (by omega)
          have n3 := hm3.ses hq16 3 (by omega)
          have n4 := hm3.ses hq16 4 (by omega)
          generalize s2.ss.getD q noSes = z2 at n0 n1 n2 n3 n4
          simp [MSess.cells] at n0 n1 n2 n3 n4
          have x1 : m ≠ g := by omega
          have x2 : m ≠ G + 1 := by omega
          have x3 : g ≠ G + 1 := by omega
          have x4 : g ≠ m := by omega
          have x5 : G + 1 ≠ m := by omega
          have x6 : G + 1 ≠ g := by omega
          have e := (HX.out (R, { s2 with ss := s2.ss.set q ⟨i, r, R⟩ })).2.2.2 HD.out.1 HD.out.2 s1 _ HS1.out rfl (by rw [hR, hs2])
          have HB := Lib.hid (And.intro hm3 (And.intro hkW3 (And.intro hbr3 (And.intro e (And.intro hS3S hge)))))
          clear hbg hm3 hk3 hge hbx2 hbr2 hkW hS3S hG3 hGb hR hs2 hbx3 hbr3 hkW3 hsz e
          go_wp2_with fail
          obtain ⟨hm3, hkW3, hbr3, e, hS3S, hge⟩ := HB.out
          obtain ⟨hm, hmt, hX, hi, hp, hb, hTk⟩ := HA.out
          have hsz := HO.out.sz
          rw [e]
          have hk5 : Keep (fun j => j ≠ m) W3 (((((W3.setCell ⟨m, 3 + q * 5, none⟩ (.int .i64 i)).setCell ⟨m, 3 + q * 5 + 1, none⟩ (.int .i64 r)).setCell ⟨m, 3 + q * 5 + 2, none⟩ (.int .i64 R.code)).setCell ⟨m, 3 + q * 5 + 3, none⟩ (str R.val)).setCell ⟨m, 3 + q * 5 + 4, none⟩ (.int .i64 R.n)) :=
            (((((Keep.refl _ W3).setCell (fun _ h => h rfl) _).setCell (fun _ h => h rfl) _).setCell (fun _ h => h rfl) _).setCell (fun _ h => h rfl) _).setCell (fun _ h => h rfl) _
          exact op_ret rfl rfl rfl (hm3.sess hq16 i r R) (fun j h => h.elim (hS3S j) fun h => .inr (by have := HF.out.out.2.size; have := H1.out.1.size; omega)) hml hbl hm.nm hm.nb (hbr3.keep hk5 x5) (by omega) (hkW3.comp hk5 (fun _ _ h => h) (fun _ _ h => h.1))
    · by_cases hA : i < si
      · have g1 : decide (i < si) = true := by simp; omega
        go_wp2_with fail
        go_quiet (fail)
        go_wp2_with fail
        go_quiet (fail)
        go_wp2_with fail
        obtain ⟨hm, hmt, hX, hi, hp, hb, hTk⟩ := HA.out
        obtain ⟨hf1, hbx1, hbr1, hm1, -⟩ := H1.out
        have e := (HX.out _).2.1 (.inl hA) rfl
        rw [e]
        have hQ : ∀ n, Fresh W1 (W1.drewN n) := fun n => (Keep.refl _ W1).drewN n
        exact op_ret rfl rfl rfl (hm1.fresh (hQ _)) (fun j h => .inl h.1) hm.blk.lt hm.pm.lt hm.nm hm.nb (hbr1.keep (hQ _) trivial) (by have := HO.out.sz; omega) ((hf1.trans (hQ _)).weaken fun _ _ _ => trivial)
      · have g1 : decide (i < si) = false := by simp; omega
        by_cases hE : si = i
        · subst hE
          have g2 : (si == si) = true := by simp
          by_cases hB : r < sr
          · have g3 : decide (r < sr) = true := by simp; omega
            go_wp2_with fail
            go_quiet (fail)
            go_wp2_with fail
            go_quiet (fail)
            go_wp2_with fail
            obtain ⟨hm, hmt, hX, hi, hp, hb, hTk⟩ := HA.out
            obtain ⟨hf1, hbx1, hbr1, hm1, -⟩ := H1.out
            have e := (HX.out _).2.1 (.inr (by first | exact ⟨rfl, hB⟩ | exact ⟨trivial, hB⟩)) rfl
            rw [e]
            have hQ : ∀ n, Fresh W1 (W1.drewN n) := fun n => (Keep.refl _ W1).drewN n
            exact op_ret rfl rfl rfl (hm1.fresh (hQ _)) (fun j h => .inl h.1) hm.blk.lt hm.pm.lt hm.nm hm.nb (hbr1.keep (hQ _) trivial) (by have := HO.out.sz; omega) ((hf1.trans (hQ _)).weaken fun _ _ _ => trivial)
          · have g3 : decide (r < sr) = false := by simp; omega
            by_cases hC : sr = r
            · subst hC
              have g4 : (sr == sr) = true := by simp
              go_wp2_with fail
              go_quiet (fail)
              go_wp2_with fail
              go_quiet (fail)
              go_wp2_with fail
              go_quiet (fail)
              go_wp2_with fail
              obtain ⟨hm, hmt, hX, hi, hp, hb, hTk⟩ := HA.out
              obtain ⟨hf1, hbx1, hbr1, hm1, -⟩ := H1.out
              have e := (HX.out _).2.2.1 (by simp) rfl
              rw [e]
              have hQ : ∀ n, Fresh W1 (W1.drewN n) := fun n => (Keep.refl _ W1).drewN n
              exact op_ret rfl rfl rfl (hm1.fresh (hQ _)) (fun j h => .inl h.1) hm.blk.lt hm.pm.lt hm.nm hm.nb (hbr1.keep (hQ _) trivial) (by have := HO.out.sz; omega) ((hf1.trans (hQ _)).weaken fun _ _ _ => trivial)
            · exact absurd ⟨by omega, by omega⟩ hD
        · exact absurd ⟨by omega, by omega⟩ hD
end Go.Proofs.YtlibhkehebioeaaGreatDoor
namespace Go.Proofs.YtlibhkehebioeaaGreatDoor
set_option linter.unusedVariables false
set_option linter.unusedSimpArgs false
open Go.RowKit

theorem num_any (z : Int) (w : World) : Calls Tryz.prog 28 #[.int .i64 z] w fun e w' => e = .returned (.int .i64 z) ∧ w = w' := by
  go_enter Tryz.func28, Tryz.ntmps28
  go_wp2
  go_ret
  exact ⟨rfl, rfl⟩

set_option maxHeartbeats 400000 in
theorem copied_any (Z : Nat → Prop) (A : Option Addr) (n c : Nat) (bs : List UInt8) (w : World) (hb : Rd w Z 1 A n (Lib.byteCells bs)) (hn : n ≤ 1099511627770) (hnil : n = 0 → c = 0 ∨ A ≠ none) :
    Calls Tryz.prog 91 #[.slice A n c] w fun e w' => (∃ u, e = .returned u ∧ w'.ownsRow w.heap.size 5 1 u n (Lib.byteCells bs)) ∧ Fresh w w' := by
  have HB := Lib.hid hb
  have HN := Lib.hid (And.intro hn hnil)
  clear hb hn hnil
  go_enter Tryz.func91, Tryz.ntmps91
  have hown : (w.alloc (.cells #[] 5)).ownsRow w.heap.size 5 1 (.slice (some ⟨w.heap.size, 0, none⟩) 0 0) 0 [] :=
    ⟨rfl, .inr ⟨w.heap.size, 0, #[], rfl, Nat.le_refl _, heap_alloc_new w _, Nat.le_refl _, by simp only [maxLen]; omega, rfl, rfl⟩⟩
  have HO := Lib.hid hown
  clear hown
  go_wp2_with (at_builtin; refine wpList_app etU8 rfl (.tmp 3) (.tmp 4) rfl w.heap.size _ _ _ rfl HO.out Z A n c _ rfl (HB.out.keep (((Keep.refl Z w).alloc _))) HN.out.2 (bcs_one _) (by have := HN.out.1; omega) (by simp) ?_)
  intro v' w' ho hk hnx
  have HX := Lib.hid (And.intro ho hk)
  clear ho hk hnx
  go_wp2
  go_ret
  refine ⟨⟨_, rfl, ?_⟩, ?_⟩
  · have := HX.out.1
    simpa using this
  · exact ((Keep.refl _ w).alloc _).comp HX.out.2 (fun _ _ h => h) (fun i hi _ => by simp [Value.ownBlock]; omega)

/-- The k-th byte of a slice, for the walk. -/
theorem Rd.byte {w : World} {Z : Nat → Prop} {A : Option Addr} {n k : Nat} {bs : List UInt8} (h : Rd w Z 1 A n (Lib.byteCells bs)) (hk : k < n) :
    ∃ b o x, A = some ⟨b, o, none⟩ ∧ Z b ∧ ∃ (hl : k < bs.length), x = (bs[k].toNat : Int) ∧ w.cell? ⟨b, o + k, none⟩ = some (.int .u8 x) := by
  obtain ⟨b, o, hA, hz, hl, hc⟩ := h.at1 hk
  have hl2 : k < bs.length := by simpa [Lib.byteCells] using hl
  exact ⟨b, o, _, hA, hz, hl2, rfl, by rw [hc]; simp [Lib.byteCells]⟩
theorem take_eq_step {l m : List UInt8} {k : Nat} (h : l.take k = m.take k) (hl : k < l.length) (hm : k < m.length) (he : l[k] = m[k]) : l.take (k + 1) = m.take (k + 1) := by
  rw [List.take_succ_eq_append_getElem hl, List.take_succ_eq_append_getElem hm, h, he]
theorem toNat_inj {a b : UInt8} (h : (a.toNat : Int) = (b.toNat : Int)) : a = b := UInt8.toNat_inj.1 (by omega)

set_option maxHeartbeats 400000 in
theorem same_any (Z1 Z2 : Nat → Prop) (A1 A2 : Option Addr) (n1 c1 n2 c2 : Nat) (bs1 bs2 : List UInt8) (w : World) (h1 : Rd w Z1 1 A1 n1 (Lib.byteCells bs1)) (h2 : Rd w Z2 1 A2 n2 (Lib.byteCells bs2)) (hn : n1 ≤ 1099511627770) (hn2 : n2 ≤ 1099511627770) :
    Calls Tryz.prog 19 #[.slice A1 n1 c1, .slice A2 n2 c2] w fun e w' => e = .returned (.bool (decide (bs1 = bs2))) ∧ ∃ k, w' = w.drewN k := by
  have hl1 : bs1.length = n1 := by simpa [Lib.byteCells] using h1.1
  have hl2 : bs2.length = n2 := by simpa [Lib.byteCells] using h2.1
  obtain ⟨r, hr⟩ : ∃ r, r = decide (bs1 = bs2) := ⟨_, rfl⟩
  rw [← hr]
  by_cases hne : n1 = n2
  · subst hne
    have HA := Lib.hid (And.intro h1 (And.intro h2 (And.intro hl1 (And.intro hl2 hr))))
    clear h1 h2 hl1 hl2 hr
    go_enter Tryz.func19, Tryz.ntmps19
    go_wp2
    go_loopw [5] (fun i wr => ∃ (k d : Nat), k ≤ n1 ∧ i = .int .i64 (k : Int) ∧ wr = w.drewN d ∧ Hid (bs1.take k = bs2.take k)) (fun i _ => n1 - (intOf i).toNat)
    case atStart => exact ⟨0, 0, Nat.zero_le _, rfl, rfl, rfl⟩
    case round =>
      obtain ⟨k, d, hk, rfl, rfl, HW⟩ := hrel
      by_cases hlt : k < n1
      · obtain ⟨b1, o1, x, rfl, -, g1, hx, e1⟩ := HA.out.1.byte hlt
        obtain ⟨b2, o2, y, rfl, -, g2, hy, e2⟩ := HA.out.2.1.byte hlt
        have HX := Lib.hid (And.intro hx hy)
        clear hx hy
        by_cases hxy : x = y
        · have hs := take_eq_step HW.out g1 g2 (toNat_inj (by rw [← HX.out.1, ← HX.out.2, hxy]))
          have HS := Lib.hid hs
          clear hs HX HW g1 g2
          go_wp2_with fail
          go_quiet (fail)
          go_wp2_with fail
          exact ⟨⟨k + 1, _, by omega, congrArg _ (by omega), rfl, HS.out⟩, by simp [intOf]; omega⟩
        · have hf : r = false := by
            rw [HA.out.2.2.2.2]
            refine decide_eq_false fun h => hxy ?_
            subst h
            rw [HX.out.1, HX.out.2]
          clear HX HW g1 g2
          subst hf
          go_wp2_with fail
          go_quiet (fail)
          go_wp2_with fail
          go_ret
          exact ⟨rfl, _, World.drewN_drewN _ _ _⟩
      · obtain rfl : k = n1 := by omega
        have ht : r = true := by
          rw [HA.out.2.2.2.2]
          have := HW.out
          rw [List.take_of_length_le (by rw [HA.out.2.2.1]; exact Nat.le_refl _), List.take_of_length_le (by rw [HA.out.2.2.2.1]; exact Nat.le_refl _)] at this
          exact decide_eq_true this
        subst ht
        clear HW
        go_wp2_with fail
        go_ret
        exact ⟨rfl, _, rfl⟩
  · have hf : r = false := by
      rw [hr]
      exact decide_eq_false fun h => hne (by rw [← hl1, ← hl2, h])
    subst hf
    have hne' : ¬ ((n1 : Int) = (n2 : Int)) := by omega
    clear hr h1 h2 hl1 hl2
    go_enter Tryz.func19, Tryz.ntmps19
    go_wp2_with fail
    go_ret
    exact ⟨rfl, 0, rfl⟩
end Go.Proofs.YtlibhkehebioeaaGreatDoor
namespace Go.Proofs.YtlibhkehebioeaaGreatDoor
set_option linter.unusedVariables false
set_option linter.unusedSimpArgs false
open Go.RowKit

theorem Nib.keep {Z : Nat → Prop} {w w' : World} (h : Nib w) (hk : Keep Z w w') (hz : Z 0) : Nib w' := var_keep gNib h hk hz
/-- The tables that the machine looks into are there, in every world that grew out of W. -/
structure TabsN (W : World) : Prop where
  t : Tabs W
  n : Nib W
theorem TabsN.fresh {W w : World} (h : TabsN W) (hk : Fresh W w) : TabsN w := ⟨h.t.fresh hk, h.n.keep hk trivial⟩
/-- A machine m, with its blocks F, all made behind B; it stands at s. -/
structure MAt (B : Nat) (w : World) (F : Nat → Prop) (m : Nat) (s : StD) : Prop where
  ex : ∃ bp bl, MSt (fun j => F j ∧ j ≠ m ∧ j ≠ bp) w m bp bl s ∧ F bp
  fm : F m
  lo : ∀ j, F j → B ≤ j
  hi : ∀ j, F j → j < w.heap.size
  inv : Inv s
section
variable {B : Nat} {w w' : World} {F : Nat → Prop} {m : Nat} {s : StD}
theorem MAt.keep {Z : Nat → Prop} (h : MAt B w F m s) (hk : Keep Z w w') (hz : ∀ j, F j → Z j) : MAt B w' F m s := by
  obtain ⟨bp, bl, hm, hb⟩ := h.ex
  exact ⟨⟨bp, bl, hm.keep hk (hz m h.fm) (hz bp hb) (fun j hj => hz j hj.1), hb⟩, h.fm, h.lo, fun j hj => Nat.lt_of_lt_of_le (h.hi j hj) hk.size, h.inv⟩
theorem MAt.fresh (h : MAt B w F m s) (hk : Fresh w w') : MAt B w' F m s := h.keep hk (fun _ _ => trivial)
theorem MAt.lt (h : MAt B w F m s) : m < w.heap.size := h.hi m h.fm
theorem MAt.lower {B' : Nat} (h : MAt B w F m s) (hb : B' ≤ B) : MAt B' w F m s := ⟨h.ex, h.fm, fun j hj => Nat.le_trans hb (h.lo j hj), h.hi, h.inv⟩
/-- Two machines that share nothing. -/
theorem MAt.of {bp bl : Nat} {S : Nat → Prop} (hm : MSt S w m bp bl s) (hi : Inv s) (h1 : B ≤ m) (h2 : B ≤ bp) (h3 : ∀ j, S j → j < w.heap.size → B ≤ j) : MAt B w (fun j => j = m ∨ j = bp ∨ (S j ∧ j < w.heap.size)) m s :=
  ⟨⟨bp, bl, hm.tight.widen (fun j hj => ⟨.inr (.inr hj), fun e => hm.nm (e ▸ hj.1), fun e => hm.nb (e ▸ hj.1)⟩) (fun h => h.2.1 rfl) (fun h => h.2.2 rfl), .inr (.inl rfl)⟩, .inl rfl,
    fun j hj => hj.elim (fun e => e ▸ h1) fun hj => hj.elim (fun e => e ▸ h2) fun hj => h3 j hj.1 hj.2,
    fun j hj => hj.elim (fun e => e ▸ hm.blk.lt) fun hj => hj.elim (fun e => e ▸ hm.pm.lt) fun hj => hj.2, hi⟩
end
theorem applyD_inv {c i r o : Int} {k v d : Txt} {s : StD} (h : Inv s) : Inv (applyD c i r o k v d s).2 := by
  unfold applyD
  split
  · rename_i hv
    exact (apply_ok h (vcmd_of hv)).2
  · exact h

/-! ### the contracts -/
section
variable {B : Nat} {w : World} {F : Nat → Prop} {m : Nat} {s : StD}
theorem mat_new (w : World) : Calls Tryz.prog 14 #[] w fun e w' => (∃ (m : Nat) (F : Nat → Prop), e = .returned (.pointer (some ⟨m, 0, none⟩)) ∧ MAt w.heap.size w' F m newD) ∧ Fresh w w' := by
  refine (newm_any w).mono ?_
  rintro e w' ⟨⟨m, bp, bl, rfl, hm, h1, h2, h3⟩, hf⟩
  exact ⟨⟨m, _, rfl, MAt.of hm inv_new h1 h2 (fun j hj _ => by rw [hj]; exact h3)⟩, hf⟩
/-- Apply, from a world that grew out of W. -/
theorem mat_apply {W : World} (hT : TabsN W) (hf : Fresh W w) (h : MAt W.heap.size w F m s) (c i r o : Int) (k v d : Txt) :
    Calls Tryz.prog 17 #[.pointer (some ⟨m, 0, none⟩), cmdV c i r o k v d] w fun e w' =>
      e = .returned (resV (applyD c i r o k v d s).1) ∧ (∃ F' : Nat → Prop, MAt W.heap.size w' F' m (applyD c i r o k v d s).2 ∧ (∀ j, F' j → F j ∨ w.heap.size ≤ j)) ∧ Keep (fun j => ¬ F j) w w' ∧ Fresh W w' := by
  obtain ⟨bp, bl, hm, hb⟩ := h.ex
  have hT0 := hT.fresh hf
  refine (appl_any _ m bp bl s c i r o k v d w hm h.inv.lk h.inv.pr hT0.t (fun w' hk => hT.t.fresh ?_)).mono ?_
  · exact hf.comp hk (fun _ _ _ => trivial) (fun j hj _ => ⟨fun e => by have := h.lo m h.fm; omega, fun e => by have := h.lo bp hb; omega, fun e => by have := h.lo j e.1; omega⟩)
  · rintro e w' ⟨he, hst, hk⟩
    have hkF : Keep (fun j => ¬ F j) w w' := hk.weaken fun j _ hj => ⟨fun e => hj (e ▸ h.fm), fun e => hj (e ▸ hb), fun e => hj e.1⟩
    refine ⟨he, ⟨_, MAt.of hst (applyD_inv h.inv) (h.lo m h.fm) (h.lo bp hb) (fun j hj _ => ?_), fun j hj => ?_⟩, hkF, hf.comp hkF (fun _ _ _ => trivial) (fun j hj _ e => by have := h.lo j e; omega)⟩
    · rcases hj with hj | hj
      · exact h.lo j hj.1
      · exact Nat.le_trans hf.size hj
    · rcases hj with rfl | rfl | ⟨hj | hj, _⟩
      · exact .inl h.fm
      · exact .inl hb
      · exact .inl hj.1
      · exact .inr hj
theorem mat_snap (hT : TabsN w) (h : MAt B w F m s) :
    Calls Tryz.prog 16 #[.pointer (some ⟨m, 0, none⟩)] w fun e w' => (∃ v, e = .returned v ∧ w'.ownsRow w.heap.size 5 1 v (snapB s).length (Lib.byteCells (snapB s))) ∧ Fresh w w' := by
  obtain ⟨bp, bl, hm, hb⟩ := h.ex
  exact snapshot_any _ m bp bl s w hm h.inv hT.n (fun w' hf => (hT.fresh hf).n)
theorem mat_get (h : MAt B w F m s) (k : Txt) (hk : k.length ≤ 8) :
    Calls Tryz.prog 32 #[.pointer (some ⟨m, 0, none⟩), str k] w fun e w' => e = .returned (.tuple #[str ((pfind k s.pairs).getD []), .bool (pfind k s.pairs).isSome]) ∧ w = w' := by
  obtain ⟨bp, bl, hm, hb⟩ := h.ex
  exact get_any m bp s.pairs k w hm.three.1 hm.pm hk
theorem mat_holder (h : MAt B w F m s) (k : Txt) (hk : k.length ≤ 1048576) :
    Calls Tryz.prog 26 #[.pointer (some ⟨m, 0, none⟩), str k] w fun e w' => e = .returned (.tuple #[.agg (holdA (holdD k s).1), .bool (holdD k s).2]) ∧ Fresh w w' := by
  obtain ⟨bp, bl, hm, hb⟩ := h.ex
  exact holder_any _ m bp bl s k w hm h.inv.lk hk
theorem mat_session (h : MAt B w F m s) (q : Int) :
    Calls Tryz.prog 20 #[.pointer (some ⟨m, 0, none⟩), .int .i64 q] w fun e w' => e = .returned (.tuple #[sesV (sessD q s).1, .bool (sessD q s).2]) ∧ Fresh w w' := by
  obtain ⟨bp, bl, hm, hb⟩ := h.ex
  exact session_any _ m bp bl s q w hm
theorem mat_locks (h : MAt B w F m s) :
    Calls Tryz.prog 31 #[.pointer (some ⟨m, 0, none⟩)] w fun e w' => (∃ v, e = .returned v ∧ w'.ownsRow w.heap.size 9 1 v s.locks.length ((s.locks.map LockD.name).map str)) ∧ Fresh w w' := by
  obtain ⟨bp, bl, hm, hb⟩ := h.ex
  exact locks_any _ m bp bl s w hm h.inv.lk
theorem mat_pairs (h : MAt B w F m s) :
    Calls Tryz.prog 30 #[.pointer (some ⟨m, 0, none⟩)] w fun e w' => (∃ v, e = .returned v ∧ w'.ownsRow w.heap.size 71 2 v s.pairs.length (pcells s.pairs)) ∧ Fresh w w' := by
  obtain ⟨bp, bl, hm, hb⟩ := h.ex
  exact pairs_any _ m bp bl s w hm h.inv.pr
theorem mat_waiting (h : MAt B w F m s) (k : Txt) (hk : k.length ≤ 1048576) :
    Calls Tryz.prog 37 #[.pointer (some ⟨m, 0, none⟩), str k] w fun e w' => (∃ v, e = .returned v ∧ w'.ownsRow w.heap.size 115 2 v (waitD k s).length (wcells (waitD k s))) ∧ Fresh w w' := by
  obtain ⟨bp, bl, hm, hb⟩ := h.ex
  exact waiting_any _ m bp bl s k w hm h.inv.lk hk
/-- 'same': two machines have one snapshot. -/
theorem samem_any {B' : Nat} {F' : Nat → Prop} {m' : Nat} {s' : StD} (hT : TabsN w) (h : MAt B w F m s) (h' : MAt B' w F' m' s') :
    Calls Tryz.prog 29 #[.pointer (some ⟨m, 0, none⟩), .pointer (some ⟨m', 0, none⟩)] w fun e w' => e = .returned (.bool (decide (snapB s = snapB s'))) ∧ Fresh w w' := by
  have HS := Lib.hid (mat_snap hT h)
  have hl1 := snap_len h.inv
  have hl2 := snap_len h'.inv
  have HA := Lib.hid (And.intro hT (And.intro h h'))
  clear h h' hT
  go_enter Tryz.func29, Tryz.ntmps29
  go_wp2_with fail
  refine HS.out.mono ?_
  rintro e w1 ⟨⟨v, rfl, hv⟩, hf1⟩
  have HS2 := Lib.hid (mat_snap (HA.out.1.fresh hf1) (HA.out.2.2.fresh hf1))
  have H1 := Lib.hid (And.intro hv hf1)
  clear hv hf1 HS
  go_wp2_with fail
  refine HS2.out.mono ?_
  rintro e w2 ⟨⟨v2, rfl, hv2⟩, hf2⟩
  obtain ⟨A1, c1, rfl, hr1, -⟩ := own_rd (own_keep H1.out.1 hf2 (fun _ _ => trivial))
  obtain ⟨A2, c2, rfl, hr2, -⟩ := own_rd hv2
  have HC := Lib.hid (same_any _ _ A1 A2 _ c1 _ c2 _ _ w2 hr1 hr2 (by omega) (by omega))
  have H2 := Lib.hid hf2
  clear hr1 hr2 hv2 hf2 HS2
  go_wp2_with fail
  refine HC.out.mono ?_
  rintro e w3 ⟨rfl, k, rfl⟩
  go_wp2_with fail
  go_ret
  exact ⟨rfl, (H1.out.2.comp H2.out (fun _ _ h => h) (fun _ _ _ => trivial)).drewN k⟩
end
end Go.Proofs.YtlibhkehebioeaaGreatDoor
namespace Go.Proofs.YtlibhkehebioeaaGreatDoor
set_option linter.unusedVariables false
set_option linter.unusedSimpArgs false
open Go.RowKit

theorem Rd.front {w : World} {Z : Nat → Prop} {A : Option Addr} {n : Nat} {xs : List Value} (h : Rd w Z 1 A n xs) (m : Nat) (hm : m ≤ n) : Rd w Z 1 A m (xs.take m) := by
  refine ⟨by have := h.1; simp; omega, fun hp => ?_⟩
  obtain ⟨b, o, e, hb, hc⟩ := h.2 (by omega)
  refine ⟨b, o, e, hb, fun j u hu => hc j u ?_⟩
  have hj : j < m := by
    rcases Nat.lt_or_ge j m with h1 | h1
    · exact h1
    · rw [List.getElem?_eq_none (by rw [List.length_take]; omega)] at hu
      cases hu
  rw [List.getElem?_take_of_lt hj] at hu
  exact hu
theorem four_of {α : Type} {l : List α} (h : l.length = 4) : ∃ a b c d, l = [a, b, c, d] := by
  match l, h with
  | [a, b, c, d], _ => exact ⟨a, b, c, d, rfl⟩
/-- The first k of the last four bytes are the sum's. -/
def sealTo (sm : Nat) (ts : Txt) (k : Nat) : Prop := ∀ j, j < k → ∃ h : j < ts.length, (ts[j]).toNat = sm / 256 ^ j % 256
theorem seal_all {sm : Nat} {bs ts : Txt} (hs : sm = crcB bs) (h4 : ts.length = 4) : sealTo sm ts 4 ↔ ts = sumB bs := by
  obtain ⟨a, b, c, d, rfl⟩ := four_of h4
  have hlt := crcB_lt bs
  rw [← hs] at hlt
  have ha := a.toNat_lt
  have hb := b.toNat_lt
  have hc := c.toNat_lt
  have hd := d.toNat_lt
  constructor
  · intro h
    obtain ⟨_, h0⟩ := h 0 (by omega)
    obtain ⟨_, h1⟩ := h 1 (by omega)
    obtain ⟨_, h2⟩ := h 2 (by omega)
    obtain ⟨_, h3⟩ := h 3 (by omega)
    simp at h0 h1 h2 h3
    rw [sumB_iff, ← hs]
    omega
  · intro h
    rw [sumB_iff, ← hs] at h
    intro j hj
    refine ⟨by simp; omega, ?_⟩
    have : j = 0 ∨ j = 1 ∨ j = 2 ∨ j = 3 := by omega
    rcases this with rfl | rfl | rfl | rfl <;> simp <;> omega

def SealPost (bs : Txt) (e : Ending) : Prop := ∃ r : Bool, e = .returned (.bool r) ∧ (r = true ↔ sealedB bs)
set_option maxRecDepth 20000 in
theorem sealed_any (Z : Nat → Prop) (A : Option Addr) (n c : Nat) (bs : Txt) (w : World) (hb : Rd w Z 1 A n (Lib.byteCells bs)) (hn : n ≤ 1099511627770) (hnc : n ≤ c) (hT : Nib w) :
    Calls Tryz.prog 48 #[.slice A n c] w fun e w' => SealPost bs e ∧ w = w' := by
  have hlen : bs.length = n := by simpa [Lib.byteCells] using hb.1
  have HB := Lib.hid (And.intro hb hlen)
  have HT := Lib.hid hT
  by_cases h11 : n < 11
  · clear hb hlen hT
    go_enter Tryz.func48, Tryz.ntmps48
    go_wp2
    go_ret
    exact ⟨⟨false, rfl, by unfold sealedB; rw [HB.out.2]; simp; intro h; omega⟩, rfl⟩
  · obtain ⟨b, o, rfl, -, hcl⟩ := hb.2 (by omega)
    have hcell : ∀ j, (hj : j < bs.length) → w.cell? ⟨b, o + j, none⟩ = some (.int .u8 ((bs[j]).toNat : Int)) := fun j hj => hcl j _ (by simp [Lib.byteCells, hj])
    obtain ⟨x0, hx0⟩ : ∃ x : Nat, x = (bs[0]'(by omega)).toNat := ⟨_, rfl⟩
    obtain ⟨x1, hx1⟩ : ∃ x : Nat, x = (bs[1]'(by omega)).toNat := ⟨_, rfl⟩
    obtain ⟨x2, hx2⟩ : ∃ x : Nat, x = (bs[2]'(by omega)).toNat := ⟨_, rfl⟩
    have c0 := hcell 0 (by omega)
    have c1 := hcell 1 (by omega)
    have c2 := hcell 2 (by omega)
    rw [← hx0, Nat.add_zero] at c0
    rw [← hx1] at c1
    rw [← hx2] at c2
    have h3 : sealedB bs → x0 = 81 ∧ x1 = 83 ∧ x2 = 1 := fun h => by
      have e := h.2.1
      have e0 := congrArg (fun l => l[0]?) e
      have e1 := congrArg (fun l => l[1]?) e
      have e2 := congrArg (fun l => l[2]?) e
      simp [headB, show 0 < bs.length by omega, show 1 < bs.length by omega, show 2 < bs.length by omega] at e0 e1 e2
      rw [hx0, hx1, hx2, e0, e1, e2]
      exact ⟨rfl, rfl, rfl⟩
    have h3' : x0 = 81 → x1 = 83 → x2 = 1 → bs.take 3 = headB := fun a0 a1 a2 => by
      have f0 : bs[0]'(by omega) = 81 := UInt8.toNat_inj.1 (by rw [← hx0, a0]; rfl)
      have f1 : bs[1]'(by omega) = 83 := UInt8.toNat_inj.1 (by rw [← hx1, a1]; rfl)
      have f2 : bs[2]'(by omega) = 1 := UInt8.toNat_inj.1 (by rw [← hx2, a2]; rfl)
      refine List.ext_getElem? fun j => ?_
      by_cases hj : j < 3
      · have : j = 0 ∨ j = 1 ∨ j = 2 := by omega
        rcases this with rfl | rfl | rfl
        · rw [List.getElem?_take_of_lt (by omega), List.getElem?_eq_getElem (by omega), f0]; rfl
        · rw [List.getElem?_take_of_lt (by omega), List.getElem?_eq_getElem (by omega), f1]; rfl
        · rw [List.getElem?_take_of_lt (by omega), List.getElem?_eq_getElem (by omega), f2]; rfl
      · rw [List.getElem?_eq_none (by simp; omega), List.getElem?_eq_none (by simp [headB]; omega)]
    have H3 := Lib.hid (And.intro h3 (And.intro h3' hcell))
    clear hb hlen hT hcl hx0 hx1 hx2 h3 h3' hcell
    by_cases g0 : x0 = 81
    · subst g0
      by_cases g1 : x1 = 83
      · subst g1
        by_cases g2 : x2 = 1
        · subst g2
          go_enter Tryz.func48, Tryz.ntmps48
          have HS := Lib.hid (sum_any Z (some ⟨b, o, none⟩) (n - 4) c (bs.take (n - 4)) w (by have h1 := HB.out.1.front (n - 4) (by omega); simpa [Lib.byteCells, List.map_take] using h1) (by omega) HT.out)
          obtain ⟨sm, hsm⟩ : ∃ sm, sm = crcB (bs.take (n - 4)) := ⟨_, rfl⟩
          have hs32 : sm < 4294967296 := hsm ▸ crcB_lt _
          rw [← hsm] at HS
          have HM := Lib.hid hsm
          clear hsm
          go_wp2_with fail
          refine Calls.mono HS.out ?_
          rintro e _ ⟨rfl, rfl⟩
          clear HS
          go_wp2_with fail
          obtain ⟨ts, hts⟩ : ∃ ts, ts = bs.drop (n - 4) := ⟨_, rfl⟩
          have h4 : ts.length = 4 := by rw [hts, List.length_drop, HB.out.2]; omega
          have HD : Hid (sealTo sm ts 4 ↔ sealedB bs) := Lib.hid (by
            rw [seal_all HM.out h4, hts]
            unfold sealedB
            rw [HB.out.2]
            exact ⟨fun h => ⟨by omega, H3.out.2.1 (by simp) (by simp) (by simp), h⟩, fun h => h.2.2⟩)
          have hcT : ∀ j, (hj : j < 4) → w.cell? ⟨b, o + (n - 4) + j, none⟩ = some (.int .u8 ((ts[j]'(by omega)).toNat : Int)) := fun j hj => by
            have h1 := H3.out.2.2 (n - 4 + j) (by have := HB.out.2; omega)
            rw [← Nat.add_assoc] at h1
            rw [h1]
            congr 4
            simp [hts]
          have hi0 : 0 ≤ (sm : Int) := by omega
          have hi1 : (sm : Int) < 4294967296 := by omega
          have hn4 : n - (n - 4) = 4 := by omega
          obtain ⟨o2, ho2⟩ : ∃ o2, o2 = o + (n - 4) := ⟨_, rfl⟩
          obtain ⟨c2', hc2⟩ : ∃ c2, c2 = c - (n - 4) := ⟨_, rfl⟩
          rw [← ho2] at hcT
          rw [hn4, ← ho2, ← hc2]
          have HC := Lib.hid hcT
          clear hcT hts H3 c0 c1 c2 HM hn4 ho2 hc2
          go_loop [39] (fun i => ∃ k : Nat, k ≤ 4 ∧ i = .int .i64 (k : Int) ∧ Hid (sealTo sm ts k)) (fun i => 4 - (intOf i).toNat)
          case atStart => exact ⟨0, by omega, rfl, fun j hj => absurd hj (by omega)⟩
          case round =>
            obtain ⟨k, hk, rfl, HK⟩ := hrel
            by_cases hlt : k < 4
            · have ck := HC.out k hlt
              obtain ⟨x, hx⟩ : ∃ x : Nat, x = (ts[k]'(by omega)).toNat := ⟨_, rfl⟩
              rw [← hx] at ck
              have hx256 : x < 256 := hx ▸ (ts[k]'(by omega)).toNat_lt
              have HX := Lib.hid hx
              have hstep : x = sm / 256 ^ k % 256 → sealTo sm ts (k + 1) := fun e j hj => by
                rcases Nat.lt_or_ge j k with h1 | h1
                · exact HK.out j h1
                · obtain rfl : j = k := by omega
                  exact ⟨by omega, by rw [← HX.out]; exact e⟩
              have hstop : x ≠ sm / 256 ^ k % 256 → ¬ sealTo sm ts 4 := fun e h => by
                obtain ⟨_, h1⟩ := h k hlt
                exact e (by rw [HX.out]; exact h1)
              have HS := Lib.hid (And.intro hstep hstop)
              clear hx hstep hstop
              have hki : (k : Int) < 4 := by omega
              go_upto_region 7 with (fail)
              have hy : Hid (∀ y : Int, y = (sm : Int) / 256 ^ k % 256 → ((x : Int) != y) = true → ¬ sealTo sm ts 4) := Lib.hid fun y hy h => HS.out.2 fun e => by
                rw [hy, e] at h
                simp at h
              have hz : Hid (∀ y : Int, y = (sm : Int) / 256 ^ k % 256 → ((x : Int) != y) = false → sealTo sm ts (k + 1)) := Lib.hid fun y hy h => HS.out.1 (by
                simp at h
                rw [hy] at h
                have : ((sm / 256 ^ k % 256 : Nat) : Int) = (sm : Int) / 256 ^ k % 256 := by simp
                omega)
              clear ck HS hx256
              have hk8 : 0 ≤ 8 * (k : Int) := by omega
              have hk9 : 8 * (k : Int) ≤ 64 := by omega
              obtain ⟨kk, hkk⟩ : ∃ kk : Int, kk = 8 * (k : Int) := ⟨_, rfl⟩
              have hkw : IntKind.i64.wrap (8 * (k : Int)) = kk := by rw [hkk]; exact IntWalk.i64_in _ ⟨by omega, by omega⟩
              rw [← hkk] at hk8 hk9
              have HKK := Lib.hid hkk
              clear hkk hk8 hk9 hkw hi0 hi1 hs32 hki
              have h2k : (2 : Int) ^ (8 * k) = 256 ^ k := by
                have : k = 0 ∨ k = 1 ∨ k = 2 ∨ k = 3 := by omega
                rcases this with rfl | rfl | rfl | rfl <;> rfl
              have H2k := Lib.hid h2k
              clear h2k
              go_wp2
              · go_ret
                rename_i hbad _
                exact ⟨⟨false, rfl, by simp; intro h; exact hy.out _ (by rw [H2k.out]) hbad (HD.out.2 h)⟩, rfl⟩
              · rename_i hgood
                exact ⟨⟨k + 1, by omega, by simp, Lib.hid (hz.out _ (by rw [H2k.out]) hgood)⟩, by simp only [intOf]; omega⟩
            · obtain rfl : k = 4 := by omega
              clear hi0 hi1 hs32
              go_wp2
              go_ret
              exact ⟨⟨true, rfl, by simp; exact HD.out.1 HK.out⟩, rfl⟩
        · have g2' : ((x2 : Int) != 1) = true := by simp; omega
          go_enter Tryz.func48, Tryz.ntmps48
          go_wp2
          go_ret
          exact ⟨⟨false, rfl, by simp; intro h; exact g2 (H3.out.1 h).2.2⟩, rfl⟩
      · have g1' : ((x1 : Int) != 83) = true := by simp; omega
        go_enter Tryz.func48, Tryz.ntmps48
        go_wp2
        go_ret
        exact ⟨⟨false, rfl, by simp; intro h; exact g1 (H3.out.1 h).2.1⟩, rfl⟩
    · have g0' : ((x0 : Int) != 81) = true := by simp; omega
      go_enter Tryz.func48, Tryz.ntmps48
      go_wp2
      go_ret
      exact ⟨⟨false, rfl, by simp; intro h; exact g0 (H3.out.1 h).1⟩, rfl⟩
end Go.Proofs.YtlibhkehebioeaaGreatDoor
