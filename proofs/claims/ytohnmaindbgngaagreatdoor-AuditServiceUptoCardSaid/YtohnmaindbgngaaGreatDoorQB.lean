/-
  MERGED: Appl
-/
import Derived.Test.YtohnmaindbgngaaGreatDoorQA
import Derived.Deep.RegionHeld3
import Derived.Deep.DeepCutAuto
import Derived.Deep.CutBlock
namespace Go.Proofs.YtohnmaindbgngaaGreatDoor
set_option linter.unusedVariables false
set_option linter.unusedSimpArgs false
open Go.RowKit

/-- A command, whatever it is. -/
def applyD (c i r o : Int) (k v d : Txt) (s : StD) : ResD × StD := if validB c i r o k v d = true then applyV numb Lib.itoa c i r o k v d s else (⟨10, [], 0⟩, s)
theorem MSt.sess {S : Nat → Prop} {w : World} {m bp bl : Nat} {s : StD} (h : MSt S w m bp bl s) {q : Nat} (hq : q < 16) (i r : Int) (R : ResD) :
    MSt S (((((w.setCell ⟨m, 3 + q * 5, none⟩ (.int .i64 i)).setCell ⟨m, 3 + q * 5 + 1, none⟩ (.int .i64 r)).setCell ⟨m, 3 + q * 5 + 2, none⟩ (.int .i64 R.code)).setCell ⟨m, 3 + q * 5 + 3, none⟩ (str R.val)).setCell ⟨m, 3 + q * 5 + 4, none⟩ (.int .i64 R.n)) m bp bl { s with ss := s.ss.set q ⟨i, r, R⟩ } := by
  have hqs : q < s.ss.length := by rw [h.len]; exact hq
  have b5 := ((((h.blk.set (3 + q * 5) (.int .i64 i)).set (3 + q * 5 + 1) (.int .i64 r)).set (3 + q * 5 + 2) (.int .i64 R.code)).set (3 + q * 5 + 3) (str R.val)).set (3 + q * 5 + 4) (.int .i64 R.n)
  rw [mcells_store hqs i r R] at b5
  have hk : Keep (fun j => j ≠ m) w (((((w.setCell ⟨m, 3 + q * 5, none⟩ (.int .i64 i)).setCell ⟨m, 3 + q * 5 + 1, none⟩ (.int .i64 r)).setCell ⟨m, 3 + q * 5 + 2, none⟩ (.int .i64 R.code)).setCell ⟨m, 3 + q * 5 + 3, none⟩ (str R.val)).setCell ⟨m, 3 + q * 5 + 4, none⟩ (.int .i64 R.n)) :=
    (((((Keep.refl _ w).setCell (fun _ h => h rfl) _).setCell (fun _ h => h rfl) _).setCell (fun _ h => h rfl) _).setCell (fun _ h => h rfl) _).setCell (fun _ h => h rfl) _
  obtain ⟨ms, hl⟩ := h.lk
  exact ⟨b5, by simp [h.len], h.pm.keep hk (fun e => h.mp e.symm), ⟨ms, hl.keep hk fun j hj e => h.nm (by rw [← e]; exact hj)⟩, h.nm, h.nb⟩

set_option maxRecDepth 20000 in
set_option maxHeartbeats 40000000 in
theorem appl_any (S : Nat → Prop) (m bp bl : Nat) (s : StD) (c i r o : Int) (k v d : Txt) (w : World) (hm : MSt S w m bp bl s) (hi : LInv s.locks s.tok) (hp : PInv s.pairs) (hT : Tabs w) (hTk : ∀ w', Keep (fun j => j ≠ m ∧ j ≠ bp ∧ ¬ S j) w w' → Tabs w') :
    Calls Tryz.prog 14 #[.pointer (some ⟨m, 0, none⟩), cmdV c i r o k v d] w (OpPost S m bp bl (applyD c i r o k v d s) w) := by
  obtain ⟨X, hX⟩ : ∃ X, X = applyD c i r o k v d s := ⟨_, rfl⟩
  rw [← hX]
  obtain ⟨b, hb⟩ : ∃ b, b = validB c i r o k v d := ⟨_, rfl⟩
  have HO := Lib.hid (op_at w c i r o k v d)
  obtain ⟨G, hG⟩ : ∃ G, G = w.heap.size := ⟨_, rfl⟩
  obtain ⟨W, hW⟩ : ∃ W, W = (w.alloc (.cells #[.int .i64 c, .int .i64 i, .int .i64 r, .int .i64 o, str k, str v, str d] 43)).alloc (.cells #[.int .i64 0, str [], .int .i64 0] 49) := ⟨_, rfl⟩
  rw [← hW, ← hG] at HO
  have HV := valid_any c i r o k v d W (hT.fresh HO.out.fresh)
  rw [← hb] at HV
  replace HV := Lib.hid HV
  have hmt := hm.tight
  have HA := Lib.hid (And.intro hm (And.intro hmt (And.intro hX (And.intro hi (And.intro hp (And.intro hb hTk))))))
  clear hT hTk hm hmt hX hi hp hb
  go_enter Tryz.func14, Tryz.ntmps14
  go_wp2_with fail
  simp only [← hG]
  rw [← hW]
  clear hW hG
  refine HV.out.mono ?_
  rintro e W1 ⟨rfl, f1⟩
  have hf1 := HO.out.fresh.trans f1
  have hbx1 := HO.out.cmd.keep f1 trivial
  have hbr1 := HO.out.res.keep f1 trivial
  have hm1 := HA.out.2.1.fresh hf1
  cases b
  · obtain ⟨r0, r1, r2, s0, s1, s2, rl⟩ := res_facts hbr1
    have H1 := Lib.hid (And.intro hf1 (And.intro hbr1 hm1))
    clear hf1 hbx1 hbr1 hm1 f1 HV
    go_wp2_with fail
    obtain ⟨hm, hmt, hX, hi, hp, hb, hTk⟩ := HA.out
    obtain ⟨hf1, hbr1, hm1⟩ := H1.out
    have e : X = (⟨10, [], 0⟩, s) := by rw [hX]; unfold applyD; rw [← hb]; simp
    rw [e]
    exact op_ret rfl rfl rfl hm1 (fun j h => .inl h.1) hm.blk.lt hm.pm.lt hm.nm hm.nb hbr1 (by have := HO.out.sz; omega) (hf1.weaken fun _ _ _ => trivial)
  · have hV := vcmd_of HA.out.2.2.2.2.2.1.symm
    obtain ⟨q, rfl⟩ : ∃ q : Nat, c = (q : Int) := ⟨c.toNat, by have := hV.c0; omega⟩
    have hq16 : q < 16 := by have := hV.c1; omega
    have hqi : (q : Int) < 16 := by omega
    have hz0 := hm1.ses hq16 0 (by omega)
    have hz1 := hm1.ses hq16 1 (by omega)
    have hz2 := hm1.ses hq16 2 (by omega)
    have hz3 := hm1.ses hq16 3 (by omega)
    have hz4 := hm1.ses hq16 4 (by omega)
    obtain ⟨z, hz⟩ : ∃ z, z = s.ss.getD q noSes := ⟨_, rfl⟩
    rw [← hz] at hz0 hz1 hz2 hz3 hz4
    simp [MSess.cells] at hz0 hz1 hz2 hz3 hz4
    obtain ⟨si, hsi⟩ : ∃ si, si = z.inc := ⟨_, rfl⟩
    obtain ⟨sr, hsr⟩ : ∃ sr, sr = z.req := ⟨_, rfl⟩
    obtain ⟨sc, hsc⟩ : ∃ sc, sc = z.last.code := ⟨_, rfl⟩
    obtain ⟨sv, hsv⟩ : ∃ sv, sv = z.last.val := ⟨_, rfl⟩
    obtain ⟨sn, hsn⟩ : ∃ sn, sn = z.last.n := ⟨_, rfl⟩
    rw [← hsi] at hz0
    rw [← hsr] at hz1
    rw [← hsc] at hz2
    rw [← hsv] at hz3
    rw [← hsn] at hz4
    have k0 := hbx1.cell 0
    have k1 := hbx1.cell 1
    have k2 := hbx1.cell 2
    have k3 := hbx1.cell 3
    simp at k0 k1 k2 k3
    have xl := hbx1.lt
    have ml := hm1.blk.lt
    have HX : Hid (∀ R, z = ⟨si, sr, ⟨sc, sv, sn⟩⟩ ∧ (i < si ∨ (si = i ∧ r < sr) → R = (⟨9, [], 0⟩, s) → X = R) ∧ (si = i ∧ sr = r → R = (⟨sc, sv, sn⟩, s) → X = R) ∧
        (¬ (i < si ∨ (si = i ∧ r < sr)) → ¬ (si = i ∧ sr = r) → ∀ s1 x, s1 = (if 0 < si ∧ si < i then (letsD (q : Int) s).2 else s) → x = doesD numb Lib.itoa (q : Int) o k v d s1 → R = (x.1, { x.2 with ss := x.2.ss.set q ⟨i, r, x.1⟩ }) → X = R)) := Lib.hid fun R => by
      have e1 : z = ⟨si, sr, ⟨sc, sv, sn⟩⟩ := by rw [hsi, hsr, hsc, hsv, hsn]
      have e2 : X = applyV numb Lib.itoa (q : Int) i r o k v d s := by rw [HA.out.2.2.1]; unfold applyD; rw [← HA.out.2.2.2.2.2.1]; simp
      refine ⟨e1, fun h h2 => ?_, fun h h2 => ?_, fun h h2 s1 x h3 h4 h5 => ?_⟩
      · rw [h2, e2]
        unfold applyV
        rw [show ((q : Int)).toNat = q by omega, ← hz, e1]
        simp only
        rw [if_pos (by rcases h with h | h; exact .inl h; exact .inr h)]
      · rw [h2, e2]
        unfold applyV
        rw [show ((q : Int)).toNat = q by omega, ← hz, e1]
        simp only
        rw [if_neg (by omega), if_pos h]
      · rw [h5, h4, h3, e2]
        unfold applyV
        rw [show ((q : Int)).toNat = q by omega, ← hz, e1]
        simp only
        rw [if_neg h, if_neg h2]
    obtain ⟨r0, r1, r2, t0, t1, t2, rl⟩ := res_facts hbr1
    have H1 := Lib.hid (And.intro hf1 (And.intro hbx1 (And.intro hbr1 (And.intro hm1 hV))))
    clear hf1 hbx1 hbr1 hm1 f1 HV hV hz hsi hsr hsc hsv hsn
    by_cases hD : ¬ (i < si ∨ (si = i ∧ r < sr)) ∧ ¬ (si = i ∧ sr = r)
    · obtain ⟨s1, hs1⟩ : ∃ s1, s1 = if 0 < si ∧ si < i then (letsD (q : Int) s).2 else s := ⟨_, rfl⟩
      have HS1 := Lib.hid hs1
      have HL := Lib.hid (fun n => lets_any (fun j => S j ∧ j < w.heap.size) m bp bl s (q : Int) (W1.drewN n) (H1.out.2.2.2.1.fresh ((Keep.refl _ W1).drewN n)) HA.out.2.2.2.1)
      have HD := Lib.hid hD
      clear hs1 hD
      go_wp2_with fail
      go_quiet (fail)
      go_upto_block 0 with (fail)
      go_cut [] (fun wx => Hid (MSt (fun j => (S j ∧ j < w.heap.size) ∨ W1.heap.size ≤ j) wx m bp bl s1 ∧ Keep (fun j => j ≠ m ∧ ¬ (S j ∧ j < w.heap.size)) W1 wx))
      case first =>
        have HN : Hid (∀ wx, Fresh W1 wx → s1 = s → Hid (MSt (fun j => (S j ∧ j < w.heap.size) ∨ W1.heap.size ≤ j) wx m bp bl s1 ∧ Keep (fun j => j ≠ m ∧ ¬ (S j ∧ j < w.heap.size)) W1 wx)) := Lib.hid fun wx hf e => by
          rw [e]
          have hm1 := H1.out.2.2.2.1
          have hml := HA.out.1.blk.lt
          have hbl := HA.out.1.pm.lt
          have hz := H1.out.1.size
          exact Lib.hid ⟨(hm1.fresh hf).widen (fun j h => .inl h) (fun h => h.elim hm1.nm fun h => by omega) (fun h => h.elim hm1.nb fun h => by omega), hf.weaken fun _ _ _ => trivial⟩
        by_cases hE : si = i
        · subst hE
          have g1 : decide (si < si) = false := by simp
          have g2 : (si == si) = true := by simp
          have g3 : decide (r < sr) = false := by have := HD.out; simp; omega
          have g4 : (sr == r) = false := by have := HD.out; simp; omega
          have hi1 := H1.out.2.2.2.2.i0
          have g5 : decide (0 < si) = true := by simp; omega
          go_wp2_with fail
          go_quiet (fail)
          go_wp2_with fail
          go_quiet (fail)
          go_wp2_with fail
          go_quiet (fail)
          go_wp2_with fail
          go_meet
          exact HN.out _ ((((((Keep.refl _ W1).drewN _).drewN _).drewN _).drewN _)) (by rw [HS1.out]; simp)
        · have g1 : decide (i < si) = false := by have := HD.out; simp; omega
          have g2 : (si == i) = false := by simp; omega
          have g3 : decide (si < i) = true := by have := HD.out; simp; omega
          by_cases h0 : 0 < si
          · have g4 : decide (0 < si) = true := by simp; omega
            go_wp2_with fail
            go_quiet (fail)
            go_wp2_with fail
            go_quiet (fail)
            go_wp2_with fail
            go_quiet (fail)
            go_wp2_with fail
            refine (HL.out _).mono ?_
            rintro e w9 ⟨rfl, hm9, hk9⟩
            have H9 := Lib.hid (And.intro hm9 hk9)
            clear hm9 hk9
            go_wp2_with fail
            go_meet
            have e : s1 = (letsD (q : Int) s).2 := by rw [HS1.out, if_pos ⟨h0, by have := HD.out; omega⟩]
            rw [e]
            exact Lib.hid ⟨H9.out.1, (((Keep.refl (fun _ => True) W1).drewN _).weaken (fun _ _ _ => trivial)).trans H9.out.2⟩
          · have g4 : decide (0 < si) = false := by simp; omega
            go_wp2_with fail
            go_quiet (fail)
            go_wp2_with fail
            go_quiet (fail)
            go_wp2_with fail
            go_quiet (fail)
            go_wp2_with fail
            go_meet
            exact HN.out _ ((((((Keep.refl _ W1).drewN _).drewN _).drewN _).drewN _)) (by rw [HS1.out, if_neg (by omega)])
      case rest =>
        rename World => W2
        have HF := Lib.hid hcut
        clear hcut
        obtain ⟨hf1, hbx1, hbr1, hm1, hV⟩ := H1.out
        obtain ⟨hm2, hk2⟩ := HF.out.out
        have hz1 := hf1.size
        have hz2 := hk2.size
        have hsz := HO.out.sz
        have hrl := hbr1.lt
        have hml := HA.out.1.blk.lt
        have hbl := HA.out.1.pm.lt
        have hbG : G ≠ m ∧ ¬ (S G ∧ G < w.heap.size) := ⟨by omega, fun h => by omega⟩
        have hbR : G + 1 ≠ m ∧ ¬ (S (G + 1) ∧ G + 1 < w.heap.size) := ⟨by omega, fun h => by omega⟩
        have hbx2 := hbx1.keep hk2 hbG
        have hbr2 := hbr1.keep hk2 hbR
        have hi1 : LInv s1.locks s1.tok := by
          rw [HS1.out]
          split
          · exact HA.out.2.2.2.1.lets _
          · exact HA.out.2.2.2.1
        have hp1 : PInv s1.pairs := by
          rw [HS1.out]
          split
          · rw [(lets_rest _ _).1]; exact HA.out.2.2.2.2.1
          · exact HA.out.2.2.2.2.1
        have hkW : Keep (fun j => j ≠ m ∧ j ≠ bp ∧ ¬ S j) w W2 := hf1.comp hk2 (fun _ _ _ => trivial) (fun _ _ h => ⟨h.1, fun e => h.2.2 e.1⟩)
        have hT2 := HA.out.2.2.2.2.2.2 W2 hkW
        obtain ⟨S3, hS3⟩ : ∃ S3 : Nat → Prop, S3 = fun j => ((S j ∧ j < w.heap.size) ∨ W1.heap.size ≤ j) ∧ j < W2.heap.size := ⟨_, rfl⟩
        have hm3 : MSt S3 W2 m bp bl s1 := hS3 ▸ hm2.tight
        have hS3b : ∀ j, S3 j → j < W2.heap.size := fun j h => by rw [hS3] at h; exact h.2
        have hS3S : ∀ j, S3 j → S j ∨ w.heap.size ≤ j := fun j h => by
          rw [hS3] at h
          rcases h.1 with h | h
          · exact .inl h.1
          · exact .inr (by omega)
        have hG3 : ¬ S3 G ∧ ¬ S3 (G + 1) := by
          rw [hS3]
          constructor
          · rintro ⟨h | h, -⟩ <;> omega
          · rintro ⟨h | h, -⟩ <;> omega
        have hGb : G ≠ bp ∧ G + 1 ≠ bp := by constructor <;> omega
        clear hS3
        obtain ⟨R, hR⟩ : ∃ R, R = (doesD numb Lib.itoa (q : Int) o k v d s1).1 := ⟨_, rfl⟩
        obtain ⟨s2, hs2⟩ : ∃ s2, s2 = (doesD numb Lib.itoa (q : Int) o k v d s1).2 := ⟨_, rfl⟩
        have HC : Hid (∀ X, Fresh W2 X → Calls Tryz.prog (opFn o) #[.pointer (some ⟨m, 0, none⟩), cmdV (q : Int) i r o k v d] X fun e w' => e = .returned (resV R) ∧ MSt (fun j => S3 j ∨ W2.heap.size ≤ j) w' m bp bl s2 ∧ Keep (fun j => j ≠ m ∧ j ≠ bp ∧ ¬ S3 j) X w' ∧ Keep (fun j => j ≠ m ∧ j ≠ bp ∧ ¬ S3 j) W2 w') := Lib.hid fun X hX => by
          refine (op_does S3 m bp bl s1 (q : Int) i r o k v d X (hm3.fresh hX) hi1 hp1 (hT2.fresh hX) hV).mono ?_
          rintro e w' ⟨h2, h3, h4⟩
          rw [hR, hs2]
          have hz := hX.size
          have := hm3.blk.lt
          have := hm3.pm.lt
          exact ⟨h2, h3.widen (fun j h => h.elim .inl fun h => .inr (by omega)) (fun h => h.elim hm3.nm fun h => by omega) (fun h => h.elim hm3.nb fun h => by omega), h4, (hX.weaken (fun _ _ _ => trivial)).trans h4⟩
        have HCa := Lib.hid (fun (wq : World) (fq : Fresh W2.drew wq) (ob : Obj) => HC.out (wq.alloc ob) ((((Keep.refl _ W2).drew).trans fq).alloc ob))
        have HCb := Lib.hid (fun (wq : World) (fq : Fresh W2.drew wq) => HC.out wq (((Keep.refl _ W2).drew).trans fq))
        have HCc := Lib.hid (fun (wq : World) (ob : Obj) (fq : Fresh (World.drew (W2.alloc ob)) wq) => HC.out wq ((((Keep.refl _ W2).alloc ob).drew).trans fq))
        clear HC
        have HO2 := Lib.hid (fun w => opOf_all hV.o1 hV.o9 w)
        have hm3l := hm3.blk.lt
        have hb3l := hm3.pm.lt
        have hZ : ∀ g, W2.heap.size ≤ g → g ≠ m ∧ g ≠ bp ∧ ¬ S3 g := fun g hg => ⟨by omega, by omega, fun h => by have := hS3b g h; omega⟩
        have HZ3 := Lib.hid hZ
        have HK : Hid (∀ w', Keep (fun j => j ≠ m ∧ j ≠ bp ∧ ¬ S3 j) W2 w' → Keep (fun j => j ≠ m ∧ j ≠ bp ∧ ¬ S3 j) W2 w' ∧ w'.cell? ⟨G, 0, none⟩ = some (.int .i64 (q : Int)) ∧ w'.cell? ⟨G, 1, none⟩ = some (.int .i64 i) ∧ w'.cell? ⟨G, 2, none⟩ = some (.int .i64 r) ∧ w'.cell? ⟨G, 3, none⟩ = some (.int .i64 o) ∧ w'.cell? ⟨G, 4, none⟩ = some (str k) ∧ w'.cell? ⟨G, 5, none⟩ = some (str v) ∧ w'.cell? ⟨G, 6, none⟩ = some (str d)) := Lib.hid fun w' hk => by
          have hb := hbx2.keep hk ⟨hbG.1, hGb.1, hG3.1⟩
          have q0 := hb.cell 0
          have q1 := hb.cell 1
          have q2 := hb.cell 2
          have q3 := hb.cell 3
          have q4 := hb.cell 4
          have q5 := hb.cell 5
          have q6 := hb.cell 6
          simp at q0 q1 q2 q3 q4 q5 q6
          exact ⟨hk, q0, q1, q2, q3, q4, q5, q6⟩
        have xl2 := hbx2.lt
        have H2 := Lib.hid (And.intro hbx2 (And.intro hbr2 (And.intro hkW (And.intro hS3S (And.intro hG3 (And.intro hGb (And.intro hR (And.intro hs2 hm3))))))))
        obtain ⟨F, hF⟩ : ∃ F, F = opFn o := ⟨_, rfl⟩
        rw [← hF] at HCa HCb HCc HO2
        have hFF : F = 46 ∨ F = 47 ∨ F = 48 ∨ F = 49 ∨ F = 50 ∨ F = 51 ∨ F = 52 ∨ F = 53 ∨ F = 54 := by
          rw [hF]
          rcases op_nine hV.o1 hV.o9 with rfl | rfl | rfl | rfl | rfl | rfl | rfl | rfl | rfl <;> simp [opFn]
        have hfld : ∀ (f : Nat) (w : World), (Instr.field 86 (.agg #[.func (Fn.func f) #[] #[]]) 0).run Tryz.prog w = .ok (.func (Fn.func f) #[] #[]) w := fun f w => by rfl
        clear hsz hf1 hbx1 hbr1 hm1 hV hm2 hk2 hbx2 hbr2 hi1 hp1 hkW hT2 hm3 hS3b hS3S hG3 hGb hR hs2 hZ hF hbG hbR hz0 hz1 hz2 hz3 hz4 hrl k0 k1 k2 k3 r0 r1 r2 t0 t1 t2
        have HZ : Hid (∀ wx g, Keep (fun j => j ≠ m ∧ j ≠ bp ∧ ¬ S3 j) W2 wx → Blk wx g 49 (resA R) → MSt (fun j => S3 j ∨ W2.heap.size ≤ j) wx m bp bl s2 → W2.heap.size ≤ g →
            ∃ g' : Nat, (.pointer (some ⟨g, 0, none⟩) : Value) = .pointer (some ⟨g', 0, none⟩) ∧ Hid (Blk wx g' 49 (resA R) ∧ MSt (fun j => S3 j ∨ W2.heap.size ≤ j) wx m bp bl s2 ∧ Keep (fun j => j ≠ m ∧ j ≠ bp ∧ ¬ S3 j) W2 wx ∧ W2.heap.size ≤ g')) := Lib.hid fun wx g h1 h2 h3 h4 => ⟨g, rfl, h2, h3, h1, h4⟩
        go_upto_region 10 with (fail)
        go_cut [6] (fun s6 wx => ∃ g : Nat, s6 = .pointer (some ⟨g, 0, none⟩) ∧ Hid (Blk wx g 49 (resA R) ∧ MSt (fun j => S3 j ∨ W2.heap.size ≤ j) wx m bp bl s2 ∧ Keep (fun j => j ≠ m ∧ j ≠ bp ∧ ¬ S3 j) W2 wx ∧ W2.heap.size ≤ g))
        case first =>
          rcases hFF with rfl | rfl | rfl | rfl | rfl | rfl | rfl | rfl | rfl
          all_goals
            go_region_held3 (fun w' => Keep (fun j => j ≠ m ∧ j ≠ bp ∧ ¬ S3 j) W2 w' ∧ w'.cell? ⟨G, 0, none⟩ = some (.int .i64 (q : Int)) ∧ w'.cell? ⟨G, 1, none⟩ = some (.int .i64 i) ∧ w'.cell? ⟨G, 2, none⟩ = some (.int .i64 r) ∧ w'.cell? ⟨G, 3, none⟩ = some (.int .i64 o) ∧ w'.cell? ⟨G, 4, none⟩ = some (str k) ∧ w'.cell? ⟨G, 5, none⟩ = some (str v) ∧ w'.cell? ⟨G, 6, none⟩ = some (str d))
              (first | exact HK.out _ ((Keep.refl _ W2).drew) | exact HK.out _ (Keep.alloc (And.left (by assumption)) _) | exact HK.out _ (Keep.trans (And.left (by assumption)) (Keep.weaken fqa (fun _ _ _ => trivial))) | exact HK.out _ (Keep.trans (And.left (by assumption)) (Keep.weaken fqb (fun _ _ _ => trivial))) | exact HK.out _ hb3 | exact HK.out _ (Keep.alloc hb3 _) | exact HK.out _ (Keep.setCell (Keep.setCell (Keep.setCell hb3 hg _) hg _) hg _))
              (first
                | (go_at_call 26; with_reducible refine Calls.mono (HO2.out (World.drew W2)) ?_; rintro e wq ⟨rfl, fqa⟩)
                | (go_at_call 26; with_reducible refine Calls.mono (HO2.out (World.drew (World.alloc W2 (.cells #[.int .i64 0, str [], .int .i64 0] 49)))) ?_; rintro e wq ⟨rfl, fqb⟩)
                | (with_reducible show Calls _ _ _ _ _; with_reducible have hcc := HCa.out _ fqa (.cells #[.int .i64 0, str [], .int .i64 0] 49); with_reducible refine Calls.mono hcc ?_; clear hcc; rintro e wb ⟨rfl, hb1, hb2, hb3⟩
                   have bb : Blk wb wq.heap.size 49 #[.int .i64 0, str [], .int .i64 0] := Blk.keep (Blk.new wq _ _) hb2 (HZ3.out _ fqa.size)
                   have hg : wq.heap.size < W2.heap.size → ¬ (wq.heap.size ≠ m ∧ wq.heap.size ≠ bp ∧ ¬ S3 wq.heap.size) := by have h1 := fqa.size; have h2 : W2.drew.heap.size = W2.heap.size := rfl; omega
                   have bk := Lib.hid (And.intro bb hg)
                   have r0 := bb.cell 0; have r1 := bb.cell 1; have r2 := bb.cell 2
                   have e0 := bb.frozen 0; have e1 := bb.frozen 1; have e2 := bb.frozen 2
                   have rl := bb.lt
                   simp at r0 r1 r2)
                | (with_reducible show Calls _ _ _ _ _; with_reducible have hcc := HCb.out _ fqa; with_reducible refine Calls.mono hcc ?_; clear hcc; rintro e wb ⟨rfl, hb1, hb2, hb3⟩)
                | (with_reducible show Calls _ _ _ _ _; with_reducible have hcc := HCc.out _ _ fqb; with_reducible refine Calls.mono hcc ?_; clear hcc; rintro e wb ⟨rfl, hb1, hb2, hb3⟩
                   have bb : Blk wb W2.heap.size 49 #[.int .i64 0, str [], .int .i64 0] := Blk.keep (Blk.keep (Blk.new W2 _ _).drew fqb trivial) hb2 (HZ3.out _ (Nat.le_refl _))
                   have hg : W2.heap.size < W2.heap.size → ¬ (W2.heap.size ≠ m ∧ W2.heap.size ≠ bp ∧ ¬ S3 W2.heap.size) := by omega
                   have r0 := bb.cell 0; have r1 := bb.cell 1; have r2 := bb.cell 2
                   have e0 := bb.frozen 0; have e1 := bb.frozen 1; have e2 := bb.frozen 2
                   have rl := bb.lt
                   simp at r0 r1 r2))
            all_goals go_wp2_with fail
            all_goals go_meet
            · exact HZ.out _ _ (Keep.alloc hb3 _) (Blk.new _ _ _) (hb1.fresh ((Keep.refl _ _).alloc _)) hb3.size
            · have hk := res_keep hb3 hg R
              have hb := res_blk (R0 := ⟨0, [], 0⟩) bb R
              have hm := hb1.other bb (by decide) (by decide) (by decide) (res_keep (Keep.refl (fun j => j ≠ wq.heap.size) wb) (fun _ h => h rfl) R)
              exact HZ.out _ _ hk hb hm fqa.size
            · have hk := res_keep hb3 hg R
              have hb := res_blk (R0 := ⟨0, [], 0⟩) bb R
              have hm := hb1.other bb (by decide) (by decide) (by decide) (res_keep (Keep.refl (fun j => j ≠ W2.heap.size) wb) (fun _ h => h rfl) R)
              exact HZ.out _ _ hk hb hm (Nat.le_refl _)
        case rest =>
          rename World => W3
          obtain ⟨g, rfl, hcut⟩ := hcut
          obtain ⟨hbg, hm3, hk3, hge⟩ := hcut.out
          obtain ⟨hbx2, hbr2, hkW, hS3S, hG3, hGb, hR, hs2, -⟩ := H2.out
          have hsz := HO.out.sz
          have hrl2 := hbr2.lt
          have hbx3 := hbx2.keep hk3 ⟨by omega, hGb.1, hG3.1⟩
          have hbr3 := hbr2.keep hk3 ⟨by omega, hGb.2, hG3.2⟩
          have hkW3 : Keep (fun j => j ≠ m ∧ j ≠ bp ∧ ¬ S j) w W3 := hkW.comp hk3 (fun _ _ h => h) (fun j hj h => ⟨h.1, h.2.1, fun e => (hS3S j e).elim h.2.2 fun h2 => by omega⟩)
          have k1 := hbx3.cell 1
          have k2 := hbx3.cell 2
          have xl3 := hbx3.lt
          have gl := hbg.lt
          have c0 := hbg.cell 0
          have c1 := hbg.cell 1
          have c2 := hbg.cell 2
          simp at k1 k2 c0 c1 c2
          obtain ⟨r0, r1, r2, t0, t1, t2, rl3⟩ := res_facts hbr3
          have ml3 := hm3.blk.lt
          have m0 := hm3.blk.frozen (3 + q * 5)
          have m1 := hm3.blk.frozen (3 + q * 5 + 1)
          have m2 := hm3.blk.frozen (3 + q * 5 + 2)
          have m3 := hm3.blk.frozen (3 + q * 5 + 3)
          have m4 := hm3.blk.frozen (3 + q * 5 + 4)
          have n0 := hm3.ses hq16 0 (by omega)
          have n1 := hm3.ses hq16 1 (by omega)
          have n2 := hm3.ses hq16 2 (by omega)
          have n3 := hm3.ses hq16 3 (by omega)
          have n4 := hm3.ses hq16 4 (by omega)
          generalize s2.ss.getD q noSes = z2 at n0 n1 n2 n3 n4
          simp [MSess.cells] at n0 n1 n2 n3 n4
          have x1 : m ≠ g := by omega
          have x2 : m ≠ G + 1 := by omega
          have x3 : g ≠ G + 1 := by omega
          have x4 : g ≠ m := by omega
          have x5 : G + 1 ≠ m := by omega
          have x6 : G + 1 ≠ g := by omega
          have e := (HX.out (R, { s2 with ss := s2.ss.set q ⟨i, r, R⟩ })).2.2.2 HD.out.1 HD.out.2 s1 _ HS1.out rfl (by rw [hR, hs2])
          have HB := Lib.hid (And.intro hm3 (And.intro hkW3 (And.intro hbr3 (And.intro e (And.intro hS3S hge)))))
          clear hbg hm3 hk3 hge hbx2 hbr2 hkW hS3S hG3 hGb hR hs2 hbx3 hbr3 hkW3 hsz e
          go_wp2_with fail
          obtain ⟨hm3, hkW3, hbr3, e, hS3S, hge⟩ := HB.out
          obtain ⟨hm, hmt, hX, hi, hp, hb, hTk⟩ := HA.out
          have hsz := HO.out.sz
          rw [e]
          have hk5 : Keep (fun j => j ≠ m) W3 (((((W3.setCell ⟨m, 3 + q * 5, none⟩ (.int .i64 i)).setCell ⟨m, 3 + q * 5 + 1, none⟩ (.int .i64 r)).setCell ⟨m, 3 + q * 5 + 2, none⟩ (.int .i64 R.code)).setCell ⟨m, 3 + q * 5 + 3, none⟩ (str R.val)).setCell ⟨m, 3 + q * 5 + 4, none⟩ (.int .i64 R.n)) :=
            (((((Keep.refl _ W3).setCell (fun _ h => h rfl) _).setCell (fun _ h => h rfl) _).setCell (fun _ h => h rfl) _).setCell (fun _ h => h rfl) _).setCell (fun _ h => h rfl) _
          exact op_ret rfl rfl rfl (hm3.sess hq16 i r R) (fun j h => h.elim (hS3S j) fun h => .inr (by have := HF.out.out.2.size; have := H1.out.1.size; omega)) hml hbl hm.nm hm.nb (hbr3.keep hk5 x5) (by omega) (hkW3.comp hk5 (fun _ _ h => h) (fun _ _ h => h.1))
    · by_cases hA : i < si
      · have g1 : decide (i < si) = true := by simp; omega
        go_wp2_with fail
        go_quiet (fail)
        go_wp2_with fail
        go_quiet (fail)
        go_wp2_with fail
        obtain ⟨hm, hmt, hX, hi, hp, hb, hTk⟩ := HA.out
        obtain ⟨hf1, hbx1, hbr1, hm1, -⟩ := H1.out
        have e := (HX.out _).2.1 (.inl hA) rfl
        rw [e]
        have hQ : ∀ n, Fresh W1 (W1.drewN n) := fun n => (Keep.refl _ W1).drewN n
        exact op_ret rfl rfl rfl (hm1.fresh (hQ _)) (fun j h => .inl h.1) hm.blk.lt hm.pm.lt hm.nm hm.nb (hbr1.keep (hQ _) trivial) (by have := HO.out.sz; omega) ((hf1.trans (hQ _)).weaken fun _ _ _ => trivial)
      · have g1 : decide (i < si) = false := by simp; omega
        by_cases hE : si = i
        · subst hE
          have g2 : (si == si) = true := by simp
          by_cases hB : r < sr
          · have g3 : decide (r < sr) = true := by simp; omega
            go_wp2_with fail
            go_quiet (fail)
            go_wp2_with fail
            go_quiet (fail)
            go_wp2_with fail
            obtain ⟨hm, hmt, hX, hi, hp, hb, hTk⟩ := HA.out
            obtain ⟨hf1, hbx1, hbr1, hm1, -⟩ := H1.out
            have e := (HX.out _).2.1 (.inr (by first | exact ⟨rfl, hB⟩ | exact ⟨trivial, hB⟩)) rfl
            rw [e]
            have hQ : ∀ n, Fresh W1 (W1.drewN n) := fun n => (Keep.refl _ W1).drewN n
            exact op_ret rfl rfl rfl (hm1.fresh (hQ _)) (fun j h => .inl h.1) hm.blk.lt hm.pm.lt hm.nm hm.nb (hbr1.keep (hQ _) trivial) (by have := HO.out.sz; omega) ((hf1.trans (hQ _)).weaken fun _ _ _ => trivial)
          · have g3 : decide (r < sr) = false := by simp; omega
            by_cases hC : sr = r
            · subst hC
              have g4 : (sr == sr) = true := by simp
              go_wp2_with fail
              go_quiet (fail)
              go_wp2_with fail
              go_quiet (fail)
              go_wp2_with fail
              go_quiet (fail)
              go_wp2_with fail
              obtain ⟨hm, hmt, hX, hi, hp, hb, hTk⟩ := HA.out
              obtain ⟨hf1, hbx1, hbr1, hm1, -⟩ := H1.out
              have e := (HX.out _).2.2.1 (by simp) rfl
              rw [e]
              have hQ : ∀ n, Fresh W1 (W1.drewN n) := fun n => (Keep.refl _ W1).drewN n
              exact op_ret rfl rfl rfl (hm1.fresh (hQ _)) (fun j h => .inl h.1) hm.blk.lt hm.pm.lt hm.nm hm.nb (hbr1.keep (hQ _) trivial) (by have := HO.out.sz; omega) ((hf1.trans (hQ _)).weaken fun _ _ _ => trivial)
            · exact absurd ⟨by omega, by omega⟩ hD
        · exact absurd ⟨by omega, by omega⟩ hD
end Go.Proofs.YtohnmaindbgngaaGreatDoor
