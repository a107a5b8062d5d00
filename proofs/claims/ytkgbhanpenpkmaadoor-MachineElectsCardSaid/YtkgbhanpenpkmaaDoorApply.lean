/-
  WALK OF machine's 'Apply' for OpSet and OpCas, new requests, on a machine that has no lock.
-/
import Derived.Test.YtkgbhanpenpkmaaDoorLets
import Derived.Test.YtkgbhanpenpkmaaDoorEncode
import Derived.Deep.RegionHeld3
import Derived.Deep.DeepCutAuto
import Derived.Deep.CutBlock
namespace Go.Proofs.YtkgbhanpenpkmaaDoor
set_option linter.unusedVariables false
set_option linter.unusedSimpArgs false
open Go.RowKit

def doR (o : Int) (k v d : List UInt8) (ps : Ps) : MRes := if o = 1 then setR k v ps else casR k d ps
def doP (o : Int) (k v d : List UInt8) (ps : Ps) : Ps := if o = 1 then setP k v ps else casP k v d ps
theorem mcell_head {bp bl : Nat} {tok : Int} {ss : List MSess} : (mcells bp bl tok ss)[0]? = some (.map (some bp)) ∧ (mcells bp bl tok ss)[1]? = some (.map (some bl)) := ⟨rfl, rfl⟩
theorem mcell_sess {bp bl : Nat} {tok : Int} {ss : List MSess} {q j : Nat} (hq : q < ss.length) (hj : j < 5) : (mcells bp bl tok ss)[3 + q * 5 + j]? = ss[q].cells[j]? := by
  unfold mcells
  rw [List.getElem?_append_right (by simp; omega)]
  simp only [List.length_cons, List.length_nil]
  rw [show 3 + q * 5 + j - (0 + 1 + 1 + 1) = q * 5 + j by omega]
  exact rcells_get sess_five ss q hq j hj
theorem MOn.cell {w : World} {m bp bl : Nat} {ps : Ps} {tok : Int} {ss : List MSess} (h : MOn w m bp bl ps tok ss) (i : Nat) : w.cell? ⟨m, i, none⟩ = (mcells bp bl tok ss)[i]? := by
  rw [h.blk.cell i]
  simp
theorem MOn.keep {Z : Nat → Prop} {w w' : World} {m bp bl : Nat} {ps : Ps} {tok : Int} {ss : List MSess} (h : MOn w m bp bl ps tok ss) (hk : Keep Z w w') (h1 : Z m) (h2 : Z bp) (h3 : Z bl) : MOn w' m bp bl ps tok ss :=
  ⟨h.blk.keep hk h1, h.len, h.pm.keep hk h2, h.lm.keep hk h3, h.ne⟩

theorem mcell_put {bp bl : Nat} {tok : Int} {ss : List MSess} {q j : Nat} (hq : q < ss.length) (hj : j < 5) (u : Value) (p : MSess) (hp : p.cells = ss[q].cells.set j u) :
    (mcells bp bl tok ss).toArray.setIfInBounds (3 + q * 5 + j) u = (mcells bp bl tok (ss.set q p)).toArray := by
  rw [List.setIfInBounds_toArray]
  unfold mcells
  rw [List.set_append_right _ _ (by simp; omega)]
  simp only [List.length_cons, List.length_nil]
  rw [show 3 + q * 5 + j - (0 + 1 + 1 + 1) = q * 5 + j by omega]
  rw [rcells_set sess_five ss q hq j u p hj hp]
theorem mcells_store {bp bl : Nat} {tok : Int} {ss : List MSess} {q : Nat} (hq : q < ss.length) (i r : Int) (R : MRes) :
    ((((((mcells bp bl tok ss).toArray.setIfInBounds (3 + q * 5) (.int .i64 i)).setIfInBounds (3 + q * 5 + 1) (.int .i64 r)).setIfInBounds (3 + q * 5 + 2) (.int .i64 R.code)).setIfInBounds (3 + q * 5 + 3) (str R.val)).setIfInBounds (3 + q * 5 + 4) (.int .i64 R.n)) = (mcells bp bl tok (ss.set q ⟨i, r, R⟩)).toArray := by
  have l1 : q < (ss.set q ⟨i, ss[q].req, ss[q].last⟩).length := by simpa using hq
  have l2 : q < (ss.set q ⟨i, r, ss[q].last⟩).length := by simpa using hq
  have l3 : q < (ss.set q ⟨i, r, ⟨R.code, ss[q].last.val, ss[q].last.n⟩⟩).length := by simpa using hq
  have l4 : q < (ss.set q ⟨i, r, ⟨R.code, R.val, ss[q].last.n⟩⟩).length := by simpa using hq
  have e0 : (mcells bp bl tok ss).toArray.setIfInBounds (3 + q * 5) (.int .i64 i) = _ := mcell_put (j := 0) hq (by omega) (.int .i64 i) ⟨i, ss[q].req, ss[q].last⟩ rfl
  rw [e0, mcell_put (j := 1) l1 (by omega) _ ⟨i, r, ss[q].last⟩ (by simp [MSess.cells]), List.set_set,
    mcell_put (j := 2) l2 (by omega) _ ⟨i, r, ⟨R.code, ss[q].last.val, ss[q].last.n⟩⟩ (by simp [MSess.cells]), List.set_set,
    mcell_put (j := 3) l3 (by omega) _ ⟨i, r, ⟨R.code, R.val, ss[q].last.n⟩⟩ (by simp [MSess.cells]), List.set_set,
    mcell_put (j := 4) l4 (by omega) _ ⟨i, r, R⟩ (by simp [MSess.cells]), List.set_set]

set_option maxRecDepth 20000 in
set_option maxHeartbeats 4000000 in
theorem apply_any (m bp bl : Nat) (ps : Ps) (tok : Int) (ss : List MSess) (q : Nat) (i r o : Int) (k v d : List UInt8) (w : World) (hm : MOn w m bp bl ps tok ss) (hT : Tabs w) (hq : q < 16) (hv : validB (q : Int) i r o k v d = true) (ho : o = 1 ∨ o = 3) (hps : ps.length ≤ 1000)
    (hnew : (ss[q]'(by rw [hm.len]; exact hq)).inc < i ∨ ((ss[q]'(by rw [hm.len]; exact hq)).inc = i ∧ (ss[q]'(by rw [hm.len]; exact hq)).req < r)) :
    Calls Tryd.prog 22 #[.pointer (some ⟨m, 0, none⟩), cmdV (q : Int) i r o k v d] w fun e w' => e = .returned (resV (doR o k v d ps)) ∧ MOn w' m bp bl (doP o k v d ps) tok (ss.set q ⟨i, r, doR o k v d ps⟩) ∧ Keep (fun j => j ≠ m ∧ j ≠ bp) w w' := by
  obtain ⟨R, hR⟩ : ∃ R, R = doR o k v d ps := ⟨_, rfl⟩
  obtain ⟨P', hP'⟩ : ∃ P', P' = doP o k v d ps := ⟨_, rfl⟩
  rw [← hR, ← hP']
  have HE := Lib.hid (And.intro hR hP')
  have hqs : q < ss.length := by rw [hm.len]; exact hq
  have hc1 : ∀ j, j < 5 → w.cell? ⟨m, 3 + q * 5 + j, none⟩ = ss[q].cells[j]? := fun j hj => by rw [hm.cell]; exact mcell_sess hqs hj
  obtain ⟨s, hs⟩ : ∃ s, s = ss[q] := ⟨_, rfl⟩
  rw [← hs] at hnew hc1
  obtain ⟨si, hsi⟩ : ∃ si, si = s.inc := ⟨_, rfl⟩
  obtain ⟨sr, hsr⟩ : ∃ sr, sr = s.req := ⟨_, rfl⟩
  rw [← hsi, ← hsr] at hnew
  have hi0 := (valid_ok hv).2.1
  have hr0 := (valid_ok hv).2.2.1
  obtain ⟨W, hW⟩ : ∃ W, W = (w.alloc (.cells #[.int .i64 (q : Int), .int .i64 i, .int .i64 r, .int .i64 o, str k, str v, str d] 23)).alloc (.cells #[.int .i64 0, str [], .int .i64 0] 52) := ⟨_, rfl⟩
  obtain ⟨G, hG⟩ : ∃ G, G = w.heap.size := ⟨_, rfl⟩
  have hf : Fresh w W := hW ▸ ((Keep.refl _ w).alloc _).alloc _
  have hbx : Blk W G 23 #[.int .i64 (q : Int), .int .i64 i, .int .i64 r, .int .i64 o, str k, str v, str d] := by rw [hW, hG]; exact (Blk.new _ _ _).alloc _
  have hbr : Blk W (G + 1) 52 #[.int .i64 0, str [], .int .i64 0] := by rw [hW]; exact Blk.newAt (by simp [hG])
  have HV := valid_any (q : Int) i r o k v d W (hT.fresh hf)
  rw [hv] at HV
  replace HV := Lib.hid HV
  have HA := Lib.hid (And.intro hm (And.intro hf (And.intro hbx (And.intro hbr (And.intro hG (And.intro hv (And.intro ho (And.intro hps (And.intro hqs (And.intro hc1 (And.intro hsi hsr)))))))))))
  clear hs
  clear hT hv hps hc1 hbr hm hR hP' hsi hsr hqs
  go_enter Tryd.func22, Tryd.ntmps22
  go_wp2_with fail
  simp only [← hG]
  rw [← hW]
  clear hW hG hf hbx
  refine HV.out.mono ?_
  rintro e W1 ⟨rfl, f1⟩
  obtain ⟨hm, hf, hbx, hbr, hG, hv, ho2, hps, hqs, hc1, hsi, hsr⟩ := HA.out
  have hf1 := hf.trans f1
  have hbx1 := hbx.keep f1 trivial
  have hm1 := hm.keep hf1 trivial trivial trivial
  have k0 := hbx1.cell 0
  have k1 := hbx1.cell 1
  have k2 := hbx1.cell 2
  have k3 := hbx1.cell 3
  have xl := hbx1.lt
  have ml := hm1.blk.lt
  simp at k0 k1 k2 k3
  have s0 := (hf1.cell (p := ⟨m, 3 + q * 5 + 0, none⟩) hm.blk.lt trivial).trans (hc1 0 (by omega))
  have s1 := (hf1.cell (p := ⟨m, 3 + q * 5 + 1, none⟩) hm.blk.lt trivial).trans (hc1 1 (by omega))
  simp [MSess.cells, ← hsi, ← hsr] at s0 s1
  have H1 := Lib.hid (And.intro hf1 (And.intro hbx1 (And.intro hm1 (hbr.keep f1 trivial))))
  have hqi : (q : Int) < 16 := by omega
  have HN := Lib.hid hnew
  have HL := Lib.hid (fun X (hX : Fresh W1 X) => (lets0_any m bl (q : Int) X ((hm1.keep hX trivial trivial trivial).cell 1) (hm1.keep hX trivial trivial trivial).lm).mono (fun e w' h => (⟨h.1, hX.trans h.2⟩ : e = .returned (.int .i64 0) ∧ Fresh W1 w')))
  clear hnew
  clear hm hf hbx hbr hG hv ho2 hps hqs hc1 hsi hsr hf1 hbx1 hm1 f1 HV
  go_wp2_with fail
  go_quiet (fail)
  go_upto_block 0 with (fail)
  go_cut [] (fun wx => Fresh W1 wx)
  case first =>
    rcases HN.out with hn | ⟨hn1, hn2⟩
    · have g1 : decide (i < si) = false := by simp; omega
      have g2 : (si == i) = false := by simp; omega
      have g3 : decide (si < i) = true := by simp; omega
      clear HN
      go_wp2_with fail
      go_quiet (fail)
      go_wp2_with fail
      go_quiet (fail)
      go_wp2_with fail
      by_cases h0 : 0 < si
      · have g4 : decide (0 < si) = true := by simp; omega
        go_quiet (fail)
        go_wp2_with fail
        refine (HL.out _ ((Keep.refl _ W1).drewN _)).mono ?_
        rintro e w9 ⟨rfl, f9⟩
        go_wp2_with fail
        go_meet
        exact f9
      · have g4 : decide (0 < si) = false := by simp; omega
        go_quiet (fail)
        go_wp2_with fail
        go_meet
        exact (Keep.refl _ W1).drewN _
    · have g1 : decide (i < si) = false := by simp; omega
      have g2 : (si == i) = true := by simp; omega
      have g3 : decide (si < i) = false := by simp; omega
      have g4 : decide (r < sr) = false := by simp; omega
      have g5 : (sr == r) = false := by simp; omega
      have g6 : decide (0 < si) = true := by simp; omega
      clear HN HL hn1 hn2
      go_wp2_with fail
      go_quiet (fail)
      go_wp2_with fail
      go_quiet (fail)
      go_wp2_with fail
      go_quiet (fail)
      go_wp2_with fail
      go_meet
      repeat apply Keep.drewN
      exact Keep.refl _ _
  case rest =>
    rename World => W2
    have HF := Lib.hid hcut
    clear hcut
    obtain ⟨hf1, hbx1, hm1, hbr1⟩ := H1.out
    have hmc := hm1.keep HF.out trivial trivial trivial
    have HM := Lib.hid hmc
    have hbxc := hbx1.keep HF.out trivial
    have hbG : bp ≠ G := by have := hm1.pm.lt; have := HA.out.1.pm.lt; have := HA.out.2.2.2.2.1; omega
    have hmG : m ≠ bp := (hm1.pm.ne_blk hm1.blk).symm
    have HS : Hid (∀ w', Keep (fun j => j ≠ bp) W2 w' → Keep (fun j => j ≠ bp) W2 w' ∧ w'.cell? ⟨G, 0, none⟩ = some (.int .i64 (q : Int)) ∧ w'.cell? ⟨G, 1, none⟩ = some (.int .i64 i) ∧ w'.cell? ⟨G, 2, none⟩ = some (.int .i64 r) ∧ w'.cell? ⟨G, 3, none⟩ = some (.int .i64 o) ∧ w'.cell? ⟨G, 4, none⟩ = some (str k) ∧ w'.cell? ⟨G, 5, none⟩ = some (str v) ∧ w'.cell? ⟨G, 6, none⟩ = some (str d)) := Lib.hid fun w' hk => by
      have hb := hbxc.keep hk (by omega)
      have q0 := hb.cell 0
      have q1 := hb.cell 1
      have q2 := hb.cell 2
      have q3 := hb.cell 3
      have q4 := hb.cell 4
      have q5 := hb.cell 5
      have q6 := hb.cell 6
      simp at q0 q1 q2 q3 q4 q5 q6
      exact ⟨hk, q0, q1, q2, q3, q4, q5, q6⟩
    have hkl : k.length ≤ 8 := (fits_len (valid_ok HA.out.2.2.2.2.2.1).2.2.2.2).1
    clear hf1 hbx1 hm1 hbr1 hmc hbxc k0 k1 k2 k3 s0 s1 HN HL
    have HZ : Hid (∀ wx g, Keep (fun j => j ≠ bp) W2 wx → Blk wx g 52 #[.int .i64 R.code, str R.val, .int .i64 R.n] → MapIs Tryd.prog 9 wx bp (sk P') → W2.heap.size ≤ g →
        ∃ g' : Nat, (.pointer (some ⟨g, 0, none⟩) : Value) = .pointer (some ⟨g', 0, none⟩) ∧ Blk wx g' 52 #[.int .i64 R.code, str R.val, .int .i64 R.n] ∧ MOn wx m bp bl P' tok ss ∧ Keep (fun j => j ≠ bp) W2 wx ∧ W2.heap.size ≤ g') := Lib.hid fun wx g h1 h2 h3 h4 => ⟨g, rfl, h2, ⟨HM.out.blk.keep h1 hmG, HM.out.len, h3, HM.out.lm.keep h1 HM.out.ne.symm, HM.out.ne⟩, h1, h4⟩
    go_upto_region 10 with (fail)
    go_cut [6] (fun s6 wx => ∃ g : Nat, s6 = .pointer (some ⟨g, 0, none⟩) ∧ Blk wx g 52 #[.int .i64 R.code, str R.val, .int .i64 R.n] ∧ MOn wx m bp bl P' tok ss ∧ Keep (fun j => j ≠ bp) W2 wx ∧ W2.heap.size ≤ g)
    case first =>
      rcases ho with rfl | rfl
      · have HO := Lib.hid (fun w => opOf_any 1 57 w (Or.inl ⟨rfl, rfl⟩))
        have HC : Hid (∀ X, Fresh W2 X → Calls Tryd.prog 57 #[.pointer (some ⟨m, 0, none⟩), cmdV (q : Int) i r 1 k v d] X fun e w' => e = .returned (resV R) ∧ MapIs Tryd.prog 9 w' bp (sk P') ∧ Keep (fun j => j ≠ bp) X w' ∧ Keep (fun j => j ≠ bp) W2 w') := Lib.hid fun X hX => by
          have h1 := set_any m bp ps (q : Int) i r 1 k v d X ((HM.out.keep hX trivial trivial trivial).cell 0) (HM.out.pm.keep hX trivial) hkl (by have := HA.out.2.2.2.2.2.2.2.1; omega)
          refine h1.mono ?_
          rintro e w' ⟨h2, h3, h4⟩
          rw [HE.out.1, HE.out.2]
          exact ⟨h2, h3, h4, (hX.weaken (fun _ _ _ => trivial)).trans h4⟩
        have hfld : ∀ w : World, (Instr.field 95 (.agg #[.func (Fn.func 57) #[] #[]]) 0).run Tryd.prog w = .ok (.func (Fn.func 57) #[] #[]) w := fun w => by kernel_rfl
        go_region_held3 (fun w' => Keep (fun j => j ≠ bp) W2 w' ∧ w'.cell? ⟨G, 0, none⟩ = some (.int .i64 (q : Int)) ∧ w'.cell? ⟨G, 1, none⟩ = some (.int .i64 i) ∧ w'.cell? ⟨G, 2, none⟩ = some (.int .i64 r) ∧ w'.cell? ⟨G, 3, none⟩ = some (.int .i64 1) ∧ w'.cell? ⟨G, 4, none⟩ = some (str k) ∧ w'.cell? ⟨G, 5, none⟩ = some (str v) ∧ w'.cell? ⟨G, 6, none⟩ = some (str d))
          (first | exact HS.out _ ((Keep.refl _ W2).drew) | exact HS.out _ (Keep.alloc (And.left (by assumption)) _) | exact HS.out _ (Keep.trans (And.left (by assumption)) (Keep.weaken fq (fun _ _ _ => trivial))) | exact HS.out _ hb3 | exact HS.out _ (Keep.alloc hb3 _) | exact HS.out _ (Keep.setCell (Keep.setCell (Keep.setCell hb3 hg _) hg _) hg _))
          (first
            | (go_at_call 44; refine (HO.out _).mono ?_; rintro e wq ⟨rfl, fq⟩)
            | (go_at_call 57; refine (HC.out _ ((((Keep.refl _ W2).drew).trans fq).alloc _)).mono ?_; rintro e wb ⟨rfl, hb1, hb2, hb3⟩
               have bb : Blk wb wq.heap.size 52 #[.int .i64 0, str [], .int .i64 0] := Blk.keep (Blk.new wq _ _) hb2 (by have h1 := fq.size; have h2 : bp < W2.drew.heap.size := HM.out.pm.lt; omega)
               have hg : wq.heap.size < W2.heap.size → ¬ wq.heap.size ≠ bp := by have h1 := fq.size; have h2 : W2.drew.heap.size = W2.heap.size := rfl; omega
               have bk := Lib.hid (And.intro bb hg)
               have r0 := bb.cell 0; have r1 := bb.cell 1; have r2 := bb.cell 2
               have s0 := bb.frozen 0; have s1 := bb.frozen 1; have s2 := bb.frozen 2
               have rl := bb.lt
               simp at r0 r1 r2)
            | (go_at_call 57; refine (HC.out _ (((Keep.refl _ W2).drew).trans fq)).mono ?_; rintro e wb ⟨rfl, hb1, hb2, hb3⟩)
            | (go_at_call 57; refine (HC.out _ ((((Keep.refl _ W2).drew).alloc _).trans fq)).mono ?_; rintro e wb ⟨rfl, hb1, hb2, hb3⟩
               have bb : Blk wb W2.heap.size 52 #[.int .i64 0, str [], .int .i64 0] := Blk.keep (Blk.keep (Blk.new W2.drew _ _) fq trivial) hb2 (by have h2 : bp < W2.heap.size := HM.out.pm.lt; omega)
               have hg : W2.heap.size < W2.heap.size → ¬ W2.heap.size ≠ bp := by omega
               have r0 := bb.cell 0; have r1 := bb.cell 1; have r2 := bb.cell 2
               have s0 := bb.frozen 0; have s1 := bb.frozen 1; have s2 := bb.frozen 2
               have rl := bb.lt
               simp at r0 r1 r2))
        all_goals go_wp2_with fail
        all_goals go_meet
        · exact HZ.out _ _ (Keep.alloc hb3 _) (Blk.new _ _ _) (hb1.keep (Keep.alloc (Keep.refl (fun _ => True) _) _) trivial) (by have h1 := hb3.size; omega)
        · exact HZ.out _ _ (Keep.setCell (Keep.setCell (Keep.setCell hb3 hg _) hg _) hg _) (((bb.set 0 _).set 1 _).set 2 _) (hb1.keep (Keep.setCell (Keep.setCell (Keep.setCell (Keep.refl (fun j => j ≠ wq.heap.size) _) (fun _ h => h rfl) _) (fun _ h => h rfl) _) (fun _ h => h rfl) _) (by have h1 := fq.size; have h2 : bp < W2.drew.heap.size := HM.out.pm.lt; omega)) (by have h1 : W2.heap.size ≤ _ := fq.size; exact h1)
        · exact HZ.out _ _ (Keep.setCell (Keep.setCell (Keep.setCell hb3 hg _) hg _) hg _) (((bb.set 0 _).set 1 _).set 2 _) (hb1.keep (Keep.setCell (Keep.setCell (Keep.setCell (Keep.refl (fun j => j ≠ W2.heap.size) _) (fun _ h => h rfl) _) (fun _ h => h rfl) _) (fun _ h => h rfl) _) (by have h2 : bp < W2.heap.size := HM.out.pm.lt; omega)) (by omega)
      · have HO := Lib.hid (fun w => opOf_any 3 59 w (Or.inr ⟨rfl, rfl⟩))
        have HC : Hid (∀ X, Fresh W2 X → Calls Tryd.prog 59 #[.pointer (some ⟨m, 0, none⟩), cmdV (q : Int) i r 3 k v d] X fun e w' => e = .returned (resV R) ∧ MapIs Tryd.prog 9 w' bp (sk P') ∧ Keep (fun j => j ≠ bp) X w' ∧ Keep (fun j => j ≠ bp) W2 w') := Lib.hid fun X hX => by
          have h1 := cas_any m bp ps (q : Int) i r 3 k v d X ((HM.out.keep hX trivial trivial trivial).cell 0) (HM.out.pm.keep hX trivial) hkl (by have := HA.out.2.2.2.2.2.2.2.1; omega)
          refine h1.mono ?_
          rintro e w' ⟨h2, h3, h4⟩
          rw [HE.out.1, HE.out.2]
          exact ⟨h2, h3, h4, (hX.weaken (fun _ _ _ => trivial)).trans h4⟩
        have hfld : ∀ w : World, (Instr.field 95 (.agg #[.func (Fn.func 59) #[] #[]]) 0).run Tryd.prog w = .ok (.func (Fn.func 59) #[] #[]) w := fun w => by kernel_rfl
        go_region_held3 (fun w' => Keep (fun j => j ≠ bp) W2 w' ∧ w'.cell? ⟨G, 0, none⟩ = some (.int .i64 (q : Int)) ∧ w'.cell? ⟨G, 1, none⟩ = some (.int .i64 i) ∧ w'.cell? ⟨G, 2, none⟩ = some (.int .i64 r) ∧ w'.cell? ⟨G, 3, none⟩ = some (.int .i64 3) ∧ w'.cell? ⟨G, 4, none⟩ = some (str k) ∧ w'.cell? ⟨G, 5, none⟩ = some (str v) ∧ w'.cell? ⟨G, 6, none⟩ = some (str d))
          (first | exact HS.out _ ((Keep.refl _ W2).drew) | exact HS.out _ (Keep.alloc (And.left (by assumption)) _) | exact HS.out _ (Keep.trans (And.left (by assumption)) (Keep.weaken fq (fun _ _ _ => trivial))) | exact HS.out _ hb3 | exact HS.out _ (Keep.alloc hb3 _) | exact HS.out _ (Keep.setCell (Keep.setCell (Keep.setCell hb3 hg _) hg _) hg _))
          (first
            | (go_at_call 44; refine (HO.out _).mono ?_; rintro e wq ⟨rfl, fq⟩)
            | (go_at_call 59; refine (HC.out _ ((((Keep.refl _ W2).drew).trans fq).alloc _)).mono ?_; rintro e wb ⟨rfl, hb1, hb2, hb3⟩
               have bb : Blk wb wq.heap.size 52 #[.int .i64 0, str [], .int .i64 0] := Blk.keep (Blk.new wq _ _) hb2 (by have h1 := fq.size; have h2 : bp < W2.drew.heap.size := HM.out.pm.lt; omega)
               have hg : wq.heap.size < W2.heap.size → ¬ wq.heap.size ≠ bp := by have h1 := fq.size; have h2 : W2.drew.heap.size = W2.heap.size := rfl; omega
               have bk := Lib.hid (And.intro bb hg)
               have r0 := bb.cell 0; have r1 := bb.cell 1; have r2 := bb.cell 2
               have s0 := bb.frozen 0; have s1 := bb.frozen 1; have s2 := bb.frozen 2
               have rl := bb.lt
               simp at r0 r1 r2)
            | (go_at_call 59; refine (HC.out _ (((Keep.refl _ W2).drew).trans fq)).mono ?_; rintro e wb ⟨rfl, hb1, hb2, hb3⟩)
            | (go_at_call 59; refine (HC.out _ ((((Keep.refl _ W2).drew).alloc _).trans fq)).mono ?_; rintro e wb ⟨rfl, hb1, hb2, hb3⟩
               have bb : Blk wb W2.heap.size 52 #[.int .i64 0, str [], .int .i64 0] := Blk.keep (Blk.keep (Blk.new W2.drew _ _) fq trivial) hb2 (by have h2 : bp < W2.heap.size := HM.out.pm.lt; omega)
               have hg : W2.heap.size < W2.heap.size → ¬ W2.heap.size ≠ bp := by omega
               have r0 := bb.cell 0; have r1 := bb.cell 1; have r2 := bb.cell 2
               have s0 := bb.frozen 0; have s1 := bb.frozen 1; have s2 := bb.frozen 2
               have rl := bb.lt
               simp at r0 r1 r2))
        all_goals go_wp2_with fail
        all_goals go_meet
        · exact HZ.out _ _ (Keep.alloc hb3 _) (Blk.new _ _ _) (hb1.keep (Keep.alloc (Keep.refl (fun _ => True) _) _) trivial) (by have h1 := hb3.size; omega)
        · exact HZ.out _ _ (Keep.setCell (Keep.setCell (Keep.setCell hb3 hg _) hg _) hg _) (((bb.set 0 _).set 1 _).set 2 _) (hb1.keep (Keep.setCell (Keep.setCell (Keep.setCell (Keep.refl (fun j => j ≠ wq.heap.size) _) (fun _ h => h rfl) _) (fun _ h => h rfl) _) (fun _ h => h rfl) _) (by have h1 := fq.size; have h2 : bp < W2.drew.heap.size := HM.out.pm.lt; omega)) (by have h1 : W2.heap.size ≤ _ := fq.size; exact h1)
        · exact HZ.out _ _ (Keep.setCell (Keep.setCell (Keep.setCell hb3 hg _) hg _) hg _) (((bb.set 0 _).set 1 _).set 2 _) (hb1.keep (Keep.setCell (Keep.setCell (Keep.setCell (Keep.refl (fun j => j ≠ W2.heap.size) _) (fun _ h => h rfl) _) (fun _ h => h rfl) _) (fun _ h => h rfl) _) (by have h2 : bp < W2.heap.size := HM.out.pm.lt; omega)) (by omega)
    case rest =>
      rename World => W3
      obtain ⟨g, rfl, hbg, hm3, hk3, hge⟩ := hcut
      obtain ⟨hf1, hbx1, -, hbr1⟩ := H1.out
      have hbx3 := (hbx1.keep HF.out trivial).keep hk3 hbG.symm
      have hbr3 := (hbr1.keep HF.out trivial).keep hk3 (by have := HA.out.1.pm.lt; have := HA.out.2.2.2.2.1; omega)
      have hl1 : G + 1 < W2.heap.size := by have := hbr1.lt; have := HF.out.size; omega
      have hwG : w.heap.size = G := HA.out.2.2.2.2.1.symm
      have hmw : m < w.heap.size := HA.out.1.blk.lt
      have hbw : bp < w.heap.size := HA.out.1.pm.lt
      have hlw : bl < w.heap.size := HA.out.1.lm.lt
      have hqs : q < ss.length := by rw [HA.out.1.len]; exact hq
      have hkW : Keep (fun j => j ≠ m ∧ j ≠ bp) w W3 := (hf1.trans HF.out).comp hk3 (fun _ _ _ => trivial) (fun _ _ h => h.2)
      have k1 := hbx3.cell 1
      have k2 := hbx3.cell 2
      have xl := hbx3.lt
      have gl := hbg.lt
      have c0 := hbg.cell 0
      have c1 := hbg.cell 1
      have c2 := hbg.cell 2
      simp at k1 k2 c0 c1 c2
      have rl := hbr3.lt
      have r0 := hbr3.cell 0
      have r1 := hbr3.cell 1
      have r2 := hbr3.cell 2
      have t0 := hbr3.frozen 0
      have t1 := hbr3.frozen 1
      have t2 := hbr3.frozen 2
      simp at r0 r1 r2
      have m0 := hm3.blk.frozen (3 + q * 5)
      have m1 := hm3.blk.frozen (3 + q * 5 + 1)
      have m2 := hm3.blk.frozen (3 + q * 5 + 2)
      have m3 := hm3.blk.frozen (3 + q * 5 + 3)
      have m4 := hm3.blk.frozen (3 + q * 5 + 4)
      have n0 := (hm3.cell (3 + q * 5 + 0)).trans (mcell_sess hqs (by omega))
      have n1 := (hm3.cell (3 + q * 5 + 1)).trans (mcell_sess hqs (by omega))
      have n2 := (hm3.cell (3 + q * 5 + 2)).trans (mcell_sess hqs (by omega))
      have n3 := (hm3.cell (3 + q * 5 + 3)).trans (mcell_sess hqs (by omega))
      have n4 := (hm3.cell (3 + q * 5 + 4)).trans (mcell_sess hqs (by omega))
      simp [MSess.cells] at n0 n1 n2 n3 n4
      have x1 : m ≠ g := by omega
      have x2 : m ≠ G + 1 := by omega
      have x3 : g ≠ G + 1 := by omega
      have x4 : g ≠ m := by omega
      have x5 : G + 1 ≠ m := by omega
      have x6 : G + 1 ≠ g := by omega
      have HB := Lib.hid (And.intro hbg (And.intro hm3 (And.intro hkW (And.intro hbr3 (And.intro hwG (And.intro hmw (And.intro hbw (And.intro hlw hqs))))))))
      clear hbg hm3 hk3 hge hf1 hbx1 hbr1 hbx3 hbr3 hwG hmw hbw hlw hkW hl1
      go_wp2_with fail
      obtain ⟨hbg, hm3, hkW, hbr3, hwG, hmw, hbw, hlw, -⟩ := HB.out
      have b5 := ((((hm3.blk.set (3 + q * 5) (.int .i64 i)).set (3 + q * 5 + 1) (.int .i64 r)).set (3 + q * 5 + 2) (.int .i64 R.code)).set (3 + q * 5 + 3) (str R.val)).set (3 + q * 5 + 4) (.int .i64 R.n)
      rw [mcells_store hqs i r R] at b5
      have hk8 : Keep (fun j => j ≠ m ∧ j ≠ G + 1) W3 ((((((((W3.setCell ⟨m, 3 + q * 5, none⟩ (.int .i64 i)).setCell ⟨m, 3 + q * 5 + 1, none⟩ (.int .i64 r)).setCell ⟨m, 3 + q * 5 + 2, none⟩ (.int .i64 R.code)).setCell ⟨m, 3 + q * 5 + 3, none⟩ (str R.val)).setCell ⟨m, 3 + q * 5 + 4, none⟩ (.int .i64 R.n)).setCell ⟨G + 1, 0, none⟩ (.int .i64 R.code)).setCell ⟨G + 1, 1, none⟩ (str R.val)).setCell ⟨G + 1, 2, none⟩ (.int .i64 R.n)) :=
        ((((((((Keep.refl _ W3).setCell (fun _ h => h.1 rfl) _).setCell (fun _ h => h.1 rfl) _).setCell (fun _ h => h.1 rfl) _).setCell (fun _ h => h.1 rfl) _).setCell (fun _ h => h.1 rfl) _).setCell (fun _ h => h.2 rfl) _).setCell (fun _ h => h.2 rfl) _).setCell (fun _ h => h.2 rfl) _
      refine bodyPost_ret (results_one rfl _ _ (G + 1) 52 #[.int .i64 R.code, str R.val, .int .i64 R.n] _ rfl (((((((((hbr3.far (show G + 1 ≠ (⟨m, 3 + q * 5, none⟩ : Addr).block from x5) _).far (show G + 1 ≠ (⟨m, 3 + q * 5 + 1, none⟩ : Addr).block from x5) _).far (show G + 1 ≠ (⟨m, 3 + q * 5 + 2, none⟩ : Addr).block from x5) _).far (show G + 1 ≠ (⟨m, 3 + q * 5 + 3, none⟩ : Addr).block from x5) _).far (show G + 1 ≠ (⟨m, 3 + q * 5 + 4, none⟩ : Addr).block from x5) _).set 0 _).set 1 _).set 2 _)) Tryd.underlying52 rfl (by kernel_rfl)) rfl ?_
      refine ⟨rfl, ⟨((b5.far (show m ≠ (⟨G + 1, 0, none⟩ : Addr).block from x2) _).far (show m ≠ (⟨G + 1, 1, none⟩ : Addr).block from x2) _).far (show m ≠ (⟨G + 1, 2, none⟩ : Addr).block from x2) _, by simp [hm3.len], hm3.pm.keep hk8 ⟨fun h => by have := hm3.pm.ne_blk hm3.blk; omega, by omega⟩, hm3.lm.keep hk8 ⟨fun h => by have := hm3.lm.ne_blk hm3.blk; omega, by omega⟩, hm3.ne⟩, ?_⟩
      exact hkW.comp hk8 (fun _ _ h => h) (fun j hj h => ⟨h.1, by omega⟩)
end Go.Proofs.YtkgbhanpenpkmaaDoor
