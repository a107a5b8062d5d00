/-
  MERGED: DValid
-/
import Derived.Test.YtioinjcdkmiafaaDoorYD5
import Derived.Test.YtioinjcdkmiafaaDoorYD3
namespace Go.Proofs.YtioinjcdkmiafaaDoor
set_option linter.unusedVariables false
set_option linter.unusedSimpArgs false
open Go.RowKit

def lkAt (ls : List LockD) (i : Nat) : LockD := ls.getD i ⟨[], 0, 0, []⟩
def azAt (az : List (Bool × SesD)) (q : Nat) : Bool × SesD := az.getD q (false, noSes)
def prAt (ps : List (Txt × Txt)) (i : Nat) : Txt := (ps.getD i ([], [])).1
/-- What is asked of the lock i by itself and those ahead of it. -/
structure VLk (tok : Int) (az : List (Bool × SesD)) (ls : List LockD) (i : Nat) : Prop where
  nm : 0 < i → Op.bytesLess (lkAt ls (i - 1)).name (lkAt ls i).name = true
  tk : decide (tok < (lkAt ls i).token) = false
  ho : (azAt az (lkAt ls i).holder.toNat).1 = true
  hq : decide (0 < placeI (lkAt ls i).queue (lkAt ls i).holder) = false
structure VLq (az : List (Bool × SesD)) (q : List Int) (j : Nat) : Prop where
  has : (azAt az (q.getD j 0).toNat).1 = true
  pl : placeI q (q.getD j 0) = (j : Int) + 1
structure ValidD (ps : List (Txt × Txt)) (ls : List LockD) (tok : Int) (az : List (Bool × SesD)) : Prop where
  pr : ∀ i, i + 1 < ps.length → Op.bytesLess (prAt ps i) (prAt ps (i + 1)) = true
  lk : ∀ i, i < ls.length → VLk tok az ls i
  ap : ∀ i, i < ls.length → ∀ j, j < i → (lkAt ls j).token ≠ (lkAt ls i).token
  qs : ∀ i, i < ls.length → ∀ j, j < (lkAt ls i).queue.length → VLq az (lkAt ls i).queue j
  bad : ∀ q, q < 16 → ¬ ((azAt az q).1 = true ∧ (azAt az q).2.last.code = 10)
section
variable {B : Nat} {w : World} {d : Nat} {pv hv : Value} {ps : List (Txt × Txt)} {hs : List DLk} {tok : Int} {az : List (Bool × SesD)}
theorem lkAt_of {hs : List DLk} {i : Nat} (hi : i < hs.length) : lkAt (hs.map DLk.d) i = hs[i].d := by
  unfold lkAt
  rw [List.getD_eq_getElem?_getD, List.getElem?_map, List.getElem?_eq_getElem hi]
  rfl
theorem azAt_of {q : Nat} (hq : q < az.length) : azAt az q = az[q] := by
  unfold azAt
  rw [List.getD_eq_getElem?_getD, List.getElem?_eq_getElem hq]
  rfl
theorem prAt_of {i : Nat} (hi : i < ps.length) : prAt ps i = ps[i].1 := by
  unfold prAt
  rw [List.getD_eq_getElem?_getD, List.getElem?_eq_getElem hi]
  rfl
def VPost (w : World) (ps : List (Txt × Txt)) (ls : List LockD) (tok : Int) (az : List (Bool × SesD)) (e : Ending) (w' : World) : Prop :=
  (∃ b : Bool, e = .returned (.bool b) ∧ (b = true ↔ ValidD ps ls tok az)) ∧ Fresh w w'
theorem vpost_no {w w' : World} {ls : List LockD} (hn : ¬ ValidD ps ls tok az) (hf : Fresh w w') : VPost w ps ls tok az (.returned (.bool false)) w' :=
  ⟨⟨false, rfl, by simp, fun h => absurd h hn⟩, hf⟩
set_option maxRecDepth 20000 in
set_option maxHeartbeats 8000000 in
theorem dvalid_any (h : DRw B w d pv hv ps hs tok az) (hp : ps.length ≤ 16) (hl : hs.length ≤ 8) (hq : ∀ x ∈ hs, 0 ≤ x.d.holder ∧ x.d.holder < 16 ∧ x.d.queue.length ≤ 15 ∧ ∀ c ∈ x.d.queue, 0 ≤ c ∧ c < 16) :
    Calls Tryd.prog 32 #[.pointer (some ⟨d, 0, none⟩)] w (VPost w ps (hs.map DLk.d) tok az) := by
  obtain ⟨np, hnp⟩ : ∃ n, n = ps.length := ⟨_, rfl⟩
  obtain ⟨nl, hnl⟩ : ∃ n, n = hs.length := ⟨_, rfl⟩
  obtain ⟨ls, hls⟩ : ∃ l, l = hs.map DLk.d := ⟨_, rfl⟩
  rw [← hls]
  have hpr := h.pr
  have hlk := h.lk
  rw [← hnp] at hpr
  rw [← hnl] at hlk
  obtain ⟨Ap, cp, rfl, hrp, -⟩ := own_rd hpr
  obtain ⟨Al, cl, rfl, hrl, -⟩ := own_rd hlk
  have hnp16 : np ≤ 16 := by omega
  have hnl8 : nl ≤ 8 := by omega
  have hlsl : ls.length = nl := by rw [hls, List.length_map, hnl]
  have HA := Lib.hid (And.intro hnp (And.intro hlsl (And.intro hq h.s16)))
  have HL : Hid (∀ i (hi : i < hs.length), hs[i].d = lkAt ls i) := Lib.hid fun i hi => by rw [hls, lkAt_of hi]
  have HM : Hid (∀ w', Fresh w w' → w'.cell? ⟨d, 0, none⟩ = some (.slice Ap np cp) ∧ w'.cell? ⟨d, 1, none⟩ = some (.slice Al nl cl) ∧ w'.cell? ⟨d, 2, none⟩ = some (.int .i64 tok) ∧ d < w'.heap.size ∧ Rd w' (fun _ => True) 2 Ap np (pcells ps) ∧ Rd w' (fun _ => True) 4 Al nl (rcells DLk.cells hs) ∧ DRw B w' d (.slice Ap np cp) (.slice Al nl cl) ps hs tok az) := Lib.hid fun w' hf => by
    have hd := h.fresh hf
    exact ⟨hd.three.1, hd.three.2.1, hd.three.2.2.1, hd.blk.lt, (hrp.weaken fun _ _ => trivial).keep (hf.weaken fun _ _ _ => trivial), (hrl.weaken fun _ _ => trivial).keep (hf.weaken fun _ _ _ => trivial), hd⟩
  clear h hpr hlk hrp hrl hnp hnl hls hlsl hq hp hl
  obtain ⟨x0, -, -, ld, -⟩ := HM.out w (Keep.refl _ _)
  go_enter Tryd.func32, Tryd.ntmps32
  go_wp2_with fail
  go_loopw [3] (fun iv wr => ∃ j : Nat, (j < np ∨ j = 0) ∧ iv = .int .i64 ((j : Int) + 1) ∧ Hid (Fresh w wr ∧ ∀ i, i < j → Op.bytesLess (prAt ps i) (prAt ps (i + 1)) = true)) (fun i _ => np + 1 - (intOf i).toNat)
  case atStart => exact ⟨0, .inr rfl, by simp, Lib.hid ⟨Keep.refl _ _, fun i hi => by omega⟩⟩
  case round =>
    rename World => wr
    obtain ⟨j, hj, rfl, HR⟩ := hrel
    clear x0 ld
    obtain ⟨x0, x1, -, ld, hrp, -, -⟩ := HM.out wr HR.out.1
    by_cases hlt : j + 1 < np
    · skip
      obtain ⟨hl0, b, o, rfl, -, c0, -⟩ := hrp.pairE (k := j) (by omega)
      obtain ⟨hl1, b', o', eA, -, c1, -⟩ := hrp.pairE (k := j + 1) hlt
      injection eA with eA
      injection eA with eA eA2
      subst eA eA2
      rw [← prAt_of hl0] at c0
      rw [← prAt_of hl1] at c1
      have lb := lt_of_cell c0
      have hji : (j : Int) + 1 < (np : Int) := by omega
      obtain ⟨ka, hka⟩ : ∃ k, k = prAt ps j := ⟨_, rfl⟩
      obtain ⟨kb, hkb⟩ : ∃ k, k = prAt ps (j + 1) := ⟨_, rfl⟩
      rw [← hka] at c0
      rw [← hkb] at c1
      obtain ⟨lbb, hlb⟩ : ∃ b, Op.bytesLess ka kb = b := ⟨_, rfl⟩
      have HK := Lib.hid (And.intro hka hkb)
      clear hrp hl0 hl1 hka hkb x1
      cases lbb
      · go_wp2_with fail
        go_quiet (fail)
        go_wp2_with fail
        go_ret
        refine vpost_no (fun hv => ?_) (HR.out.1.drewN _)
        have h1 := hv.pr j (by rw [← HA.out.1]; omega)
        rw [← HK.out.1, ← HK.out.2, hlb] at h1
        cases h1
      · go_wp2_with fail
        go_quiet (fail)
        go_wp2_with fail
        refine ⟨⟨j + 1, .inl hlt, by simp, Lib.hid ⟨HR.out.1.drewN _, fun i hi => ?_⟩⟩, by simp only [intOf]; omega⟩
        rcases Nat.lt_or_ge i j with h1 | h1
        · exact HR.out.2 i h1
        · obtain rfl : i = j := by omega
          rw [← HK.out.1, ← HK.out.2, hlb]
    · have hP : Hid (∀ i, i + 1 < ps.length → Op.bytesLess (prAt ps i) (prAt ps (i + 1)) = true) := Lib.hid fun i hi => HR.out.2 i (by have := HA.out.1; omega)
      have HF := Lib.hid HR.out.1
      have hji : ¬ (j : Int) + 1 < (np : Int) := by omega
      clear hrp HR hlt hj
      go_wp2_with fail
      go_loopw [4] (fun iv wq => ∃ i : Nat, i ≤ nl ∧ iv = .int .i64 (i : Int) ∧ Hid (Fresh w wq ∧ ∀ k, k < i → VLk tok az ls k ∧ (∀ j, j < k → (lkAt ls j).token ≠ (lkAt ls k).token) ∧ ∀ j, j < (lkAt ls k).queue.length → VLq az (lkAt ls k).queue j)) (fun i _ => nl - (intOf i).toNat)
      case atStart => exact ⟨0, by omega, rfl, Lib.hid ⟨HF.out, fun k hk => by omega⟩⟩
      case round =>
        rename World => wq
        obtain ⟨i, hi, rfl, HR⟩ := hrel
        clear x0 x1 ld HF
        obtain ⟨x0, x1, x2, ld, -, hrl, hdr⟩ := HM.out wq HR.out.1
        by_cases hlt : i < nl
        · obtain ⟨hil, b, o, rfl, -, c0, c1, c2, c3⟩ := hrl.lockE hlt
          have hown := hdr.qs _ (List.getElem_mem hil)
          have hok := HA.out.2.2.1 _ (List.getElem_mem hil)
          rw [HL.out i hil] at c0 c1 c2 hown hok
          obtain ⟨⟨nm, lh, lt, lq⟩, hy⟩ : ∃ y, y = lkAt ls i := ⟨_, rfl⟩
          rw [← hy] at c0 c1 c2 hown hok
          simp only at c0 c1 c2 hown hok
          obtain ⟨Aq, cq, eqv, hrq, -⟩ := own_rd hown
          rw [eqv] at c3
          obtain ⟨nq, hnq⟩ : ∃ n, n = lq.length := ⟨_, rfl⟩
          rw [← hnq] at c3 hrq
          have hq15 : nq ≤ 15 := by omega
          have lb := lt_of_cell c0
          have hii : (i : Int) < (nl : Int) := by omega
          obtain ⟨h0n, hh0⟩ : ∃ n : Nat, lh = (n : Int) := ⟨lh.toNat, by omega⟩
          have hh16 : h0n < 16 := by omega
          subst hh0
          have HQ := Lib.hid (And.intro hy (And.intro hok (And.intro (hrq.weaken (Z' := fun _ => True) fun _ _ => trivial) hnq)))
          clear hrl hown hok hy eqv hrq hnq hdr
          go_wp2_with (refine wpList_store_new rfl (.tmp 5) (.tmp 51) rfl _ #[str nm, .int .i64 (h0n : Int), .int .i64 lt, .slice Aq nq cq] _ rfl rfl rfl (by kernel_rfl) (lockA_one _ _ _ _ rfl) ?_)
          intro w5 hb5 hf5 hs5
          obtain ⟨g5, hg5⟩ : ∃ g, g = wq.heap.size := ⟨_, rfl⟩
          rw [← hg5] at hb5 ⊢
          have HB : Hid (∀ wx, Fresh w5 wx → Fresh w wx ∧ Blk wx g5 111 #[str nm, .int .i64 (h0n : Int), .int .i64 lt, .slice Aq nq cq]) := Lib.hid fun wx hf => ⟨HR.out.1.trans (Keep.trans hf5 hf), Blk.keep hb5 hf trivial⟩
          have HC : Hid (∀ wx, Fresh w5 wx → (wx.cell? ⟨g5, 0, none⟩ = some (str nm) ∧ wx.cell? ⟨g5, 1, none⟩ = some (.int .i64 (h0n : Int)) ∧ wx.cell? ⟨g5, 2, none⟩ = some (.int .i64 lt) ∧ wx.cell? ⟨g5, 3, none⟩ = some (.slice Aq nq cq)) ∧ g5 < wx.heap.size) := Lib.hid fun wx hf => by
            have hb := (HB.out wx hf).2
            exact ⟨⟨hb.cell 0, hb.cell 1, hb.cell 2, hb.cell 3⟩, hb.lt⟩
          have HPl : Hid (∀ wx, Fresh w5 wx → ∀ x, Calls Tryd.prog 43 #[.slice Aq nq cq, .int .i64 x] wx fun e w' => e = .returned (.int .i64 (placeI lq x)) ∧ wx = w') := Lib.hid fun wx hf x => placeOf_any _ Aq nq cq lq x wx (HQ.out.2.2.1.keep ((Keep.trans hf5 hf).weaken fun _ _ _ => trivial)) (by omega)
          have HFw : Hid (Fresh wq w5) := Lib.hid hf5
          clear hb5 hf5 hs5 hg5 c0 c1 c2 c3 lb x0 x1 x2 ld
          obtain ⟨x0, x1, x2, ld, -, hrl, hdr⟩ := HM.out w5 (HB.out w5 (Keep.refl _ _)).1
          obtain ⟨⟨u0, u1, u2, u3⟩, lu⟩ := HC.out w5 (Keep.refl _ _)
          have a0 := hdr.ask hh16 0 (by omega)
          rw [Nat.add_zero, ← azAt_of] at a0
          replace a0 : w5.cell? ⟨d, 3 + h0n * 6, none⟩ = some (.bool (azAt az h0n).1) := a0
          obtain ⟨hb, hhb⟩ : ∃ b, b = (azAt az h0n).1 := ⟨_, rfl⟩
          rw [← hhb] at a0
          obtain ⟨pl, hpl⟩ : ∃ p, p = placeI lq (h0n : Int) := ⟨_, rfl⟩
          have HP1 : Hid (∀ wx, Fresh w5 wx → Calls Tryd.prog 43 #[.slice Aq nq cq, .int .i64 (h0n : Int)] wx fun e w' => e = .returned (.int .i64 pl) ∧ wx = w') := Lib.hid fun wx hf => by rw [hpl]; exact HPl.out wx hf _
          have hprev : i = 0 ∨ ∃ (m : Nat) (bo oo : Nat) (na : Txt), i = m + 1 ∧ na = (lkAt ls m).name ∧ some (⟨b, o, none⟩ : Addr) = some ⟨bo, oo, none⟩ ∧ w5.cell? ⟨bo, oo + m * 4, none⟩ = some (str na) := by
            rcases Nat.eq_zero_or_pos i with h | h
            · exact .inl h
            · obtain ⟨hml, b', o', eA, -, e0, -⟩ := hrl.lockE (k := i - 1) (by omega)
              exact .inr ⟨i - 1, b', o', _, by omega, rfl, eA, by rw [e0, HL.out _ hml]⟩
          have HH := Lib.hid (And.intro hhb hpl)
          clear hrl hdr hhb hpl
          go_upto_region 10 with (fail)
          go_cut [95] (fun s wx => ∃ bd : Bool, s = .bool bd ∧ Hid (Fresh w5 wx ∧ (bd = false ↔ VLk tok az ls i)))
          case first =>
            have htk : ∃ b, decide (tok < lt) = b := ⟨_, rfl⟩
            obtain ⟨tb, htb⟩ := htk
            obtain ⟨qb, hqb⟩ : ∃ b, decide (0 < pl) = b := ⟨_, rfl⟩
            have hV : ∀ nmo : 0 < i → Op.bytesLess (lkAt ls (i - 1)).name (lkAt ls i).name = true, tb = false → hb = true → qb = false → VLk tok az ls i := fun h1 h2 h3 h4 => by
              refine ⟨h1, ?_, ?_, ?_⟩
              · rw [← HQ.out.1, htb, h2]
              · rw [← HQ.out.1]
                simpa [← HH.out.1] using h3
              · rw [← HQ.out.1]
                simp only
                rw [← HH.out.2, hqb, h4]
            have hN : VLk tok az ls i → (0 < i → Op.bytesLess (lkAt ls (i - 1)).name nm = true) ∧ tb = false ∧ hb = true ∧ qb = false := fun h => by
              obtain ⟨h1, h2, h3, h4⟩ := h
              rw [← HQ.out.1] at h1 h2 h3 h4
              refine ⟨h1, by rw [← htb]; exact h2, ?_, ?_⟩
              · rw [HH.out.1]; simpa using h3
              · rw [← hqb, HH.out.2]; exact h4
            have HV := Lib.hid hV
            have HN := Lib.hid hN
            have HNm : Hid (nm = (lkAt ls i).name) := Lib.hid (by rw [← HQ.out.1])
            clear hV hN
            have fin : ∀ (bd : Bool) (k : Nat), (bd = false ↔ VLk tok az ls i) → ∃ b, Value.bool bd = .bool b ∧ Hid (Fresh w5 (w5.drewN k) ∧ (b = false ↔ VLk tok az ls i)) := fun bd k h => ⟨bd, rfl, Lib.hid ⟨(Keep.refl _ w5).drewN k, h⟩⟩
            have FIN := Lib.hid fin
            clear fin
            rcases hprev with rfl | ⟨m, bo, oo, na, hm, hna, eA, ca⟩
            · skip
              cases tb
              · cases hb
                · go_wp2_with fail
                  go_quiet ((go_at_call 43; exact quiet_same (HP1.out _ ((Keep.refl _ w5).drewN _))))
                  go_wp2_with fail
                  go_meet
                  exact FIN.out true _ ⟨fun h => by (cases h), fun h => by have h1 := (HN.out h).2.2.1; cases h1⟩
                · cases qb
                  · go_wp2_with fail
                    go_quiet ((go_at_call 43; exact quiet_same (HP1.out _ ((Keep.refl _ w5).drewN _))))
                    go_wp2_with fail
                    go_meet
                    exact FIN.out false _ ⟨fun _ => HV.out (fun h => absurd h (by omega)) (by first | rfl | trivial) (by first | rfl | trivial) (by first | rfl | trivial), fun _ => rfl⟩
                  · go_wp2_with fail
                    go_quiet ((go_at_call 43; exact quiet_same (HP1.out _ ((Keep.refl _ w5).drewN _))))
                    go_wp2_with fail
                    go_meet
                    exact FIN.out true _ ⟨fun h => by (cases h), fun h => by have h1 := (HN.out h).2.2.2; cases h1⟩
              · go_wp2_with fail
                go_quiet ((go_at_call 43; exact quiet_same (HP1.out _ ((Keep.refl _ w5).drewN _))))
                go_wp2_with fail
                go_meet
                exact FIN.out true _ ⟨fun h => by (cases h), fun h => by have h1 := (HN.out h).2.1; cases h1⟩
            · injection eA with eA
              injection eA with eA eA2
              subst eA eA2
              have hmi : (i : Int) - 1 = (m : Int) := by omega
              have hi0 : decide (0 < i) = true := decide_eq_true (by omega)
              have hml : (m : Int) < (nl : Int) := by omega
              have lb := lt_of_cell ca
              obtain ⟨sb, hsb⟩ : ∃ b, Op.bytesLess na nm = b := ⟨_, rfl⟩
              have HSb : Hid ((0 < i → Op.bytesLess (lkAt ls (i - 1)).name (lkAt ls i).name = true) ↔ sb = true) := Lib.hid (by
                rw [← HNm.out, show i - 1 = m by omega, ← hna, hsb]
                exact ⟨fun h => h (by omega), fun h _ => h⟩)
              clear hna hm
              cases sb
              · go_wp2_with fail
                go_quiet ((go_at_call 43; exact quiet_same (HP1.out _ ((Keep.refl _ w5).drewN _))))
                go_wp2_with fail
                go_meet
                exact FIN.out true _ ⟨fun h => by (cases h), fun h => by have h1 := HSb.out.1 h.nm; cases h1⟩
              · cases tb
                · cases hb
                  · go_wp2_with fail
                    go_quiet ((go_at_call 43; exact quiet_same (HP1.out _ ((Keep.refl _ w5).drewN _))))
                    go_wp2_with fail
                    go_meet
                    exact FIN.out true _ ⟨fun h => by (cases h), fun h => by have h1 := (HN.out h).2.2.1; cases h1⟩
                  · cases qb
                    · go_wp2_with fail
                      go_quiet ((go_at_call 43; exact quiet_same (HP1.out _ ((Keep.refl _ w5).drewN _))))
                      go_wp2_with fail
                      go_meet
                      exact FIN.out false _ ⟨fun _ => HV.out (HSb.out.2 (by first | rfl | trivial)) (by first | rfl | trivial) (by first | rfl | trivial) (by first | rfl | trivial), fun _ => rfl⟩
                    · go_wp2_with fail
                      go_quiet ((go_at_call 43; exact quiet_same (HP1.out _ ((Keep.refl _ w5).drewN _))))
                      go_wp2_with fail
                      go_meet
                      exact FIN.out true _ ⟨fun h => by (cases h), fun h => by have h1 := (HN.out h).2.2.2; cases h1⟩
                · go_wp2_with fail
                  go_quiet ((go_at_call 43; exact quiet_same (HP1.out _ ((Keep.refl _ w5).drewN _))))
                  go_wp2_with fail
                  go_meet
                  exact FIN.out true _ ⟨fun h => by (cases h), fun h => by have h1 := (HN.out h).2.1; cases h1⟩
          case rest =>
          rename World => w6
          obtain ⟨bd, rfl, HX⟩ := hcut
          have HT := Lib.hid (fun wx (hf : Fresh w6 wx) => (HX.out.1.then hf))
          clear hprev a0
          cases bd
          · have HV := Lib.hid (HX.out.2.1 rfl)
            clear x0 x1 x2 ld u0 u1 u2 u3 lu HX
            go_wp2_with fail
            go_loopw [6] (fun iv wx => ∃ j : Nat, j ≤ i ∧ iv = .int .i64 (j : Int) ∧ Hid (Fresh w6 wx ∧ ∀ k, k < j → (lkAt ls k).token ≠ lt)) (fun j _ => i - (intOf j).toNat)
            case atStart => exact ⟨0, by omega, rfl, Lib.hid ⟨Keep.refl _ _, fun k hk => by omega⟩⟩
            case round =>
              rename World => wx
              obtain ⟨j2, hj2, rfl, HR3⟩ := hrel
              by_cases hjl : j2 < i
              · obtain ⟨x0, x1, x2, ld, -, hrl, hdr⟩ := HM.out wx (HB.out wx (HT.out wx HR3.out.1)).1
                obtain ⟨⟨u0, u1, u2, u3⟩, lu⟩ := HC.out wx (HT.out wx HR3.out.1)
                obtain ⟨hml, b', o', eA, -, -, -, e2, -⟩ := hrl.lockE (k := j2) (by omega)
                injection eA with eA
                injection eA with eA eA2
                subst eA eA2
                rw [HL.out _ hml] at e2
                obtain ⟨tk2, htk2⟩ : ∃ t, t = (lkAt ls j2).token := ⟨_, rfl⟩
                rw [← htk2] at e2
                have lb2 := lt_of_cell e2
                have hji2 : (j2 : Int) < (i : Int) := by omega
                have hjl2 : (j2 : Int) < (nl : Int) := by omega
                have HK2 := Lib.hid htk2
                clear hrl hdr hml htk2 u0 u1 u3 x0 x2
                by_cases hq : tk2 = lt
                · have hqd : (tk2 == lt) = true := by simpa using hq
                  have HQ2 := Lib.hid hq
                  clear hq
                  go_wp2_with fail
                  go_quiet (fail)
                  go_wp2_with fail
                  go_ret
                  refine vpost_no (fun hv => ?_) ((HB.out wx (HT.out wx HR3.out.1)).1.drewN _)
                  refine hv.ap i (by rw [HA.out.2.1]; exact hlt) j2 hjl ?_
                  rw [← HK2.out, HQ2.out, ← HQ.out.1]
                · have hqd : (tk2 == lt) = false := by simpa using hq
                  have HQ2 := Lib.hid hq
                  clear hq
                  go_wp2_with fail
                  go_quiet (fail)
                  go_wp2_with fail
                  refine ⟨⟨j2 + 1, by omega, by simp, Lib.hid ⟨HR3.out.1.drewN _, fun k hk => ?_⟩⟩, by simp only [intOf]; omega⟩
                  rcases Nat.lt_or_ge k j2 with h1 | h1
                  · exact HR3.out.2 k h1
                  · obtain rfl : k = j2 := by omega
                    rw [← HK2.out]
                    exact HQ2.out
              · have HT3 : Hid (∀ k, k < i → (lkAt ls k).token ≠ lt) := Lib.hid fun k hk => HR3.out.2 k (by omega)
                have HF3 := Lib.hid (HT.out wx HR3.out.1)
                have hji2 : ¬ (j2 : Int) < (i : Int) := by omega
                clear HR3 HT hjl hj2
                go_wp2_with fail
                go_loopw [7] (fun iv wy => ∃ j : Nat, j ≤ nq ∧ iv = .int .i64 (j : Int) ∧ Hid (Fresh w5 wy ∧ ∀ k, k < j → VLq az lq k)) (fun j _ => nq - (intOf j).toNat)
                case atStart => exact ⟨0, by omega, rfl, Lib.hid ⟨HF3.out, fun k hk => by omega⟩⟩
                case round =>
                  rename World => wy
                  obtain ⟨j3, hj3, rfl, HR4⟩ := hrel
                  obtain ⟨⟨u0, u1, u2, u3⟩, lu⟩ := HC.out wy HR4.out.1
                  by_cases hjl : j3 < nq
                  · obtain ⟨x0, x1, x2, ld, -, hrl, hdr⟩ := HM.out wy (HB.out wy HR4.out.1).1
                    obtain ⟨b2, o2, rfl, -, hlk2, e1⟩ := (HQ.out.2.2.1.keep ((Keep.trans HFw.out HR4.out.1).weaken fun _ _ _ => trivial)).intAt hjl
                    have hc16 := HQ.out.2.1.2.2.2 _ (List.getElem_mem hlk2)
                    have hgd : lq.getD j3 0 = lq[j3] := by rw [List.getD_eq_getElem?_getD, List.getElem?_eq_getElem hlk2]; rfl
                    obtain ⟨cN, hcN⟩ : ∃ n : Nat, lq[j3] = (n : Int) := ⟨(lq[j3]).toNat, by omega⟩
                    rw [hcN] at e1 hc16 hgd
                    have hcn16 : cN < 16 := by omega
                    have a0 := hdr.ask hcn16 0 (by omega)
                    rw [Nat.add_zero, ← azAt_of] at a0
                    replace a0 : wy.cell? ⟨d, 3 + cN * 6, none⟩ = some (.bool (azAt az cN).1) := a0
                    obtain ⟨hb2, hhb2⟩ : ∃ b, b = (azAt az cN).1 := ⟨_, rfl⟩
                    rw [← hhb2] at a0
                    obtain ⟨pl2, hpl2⟩ : ∃ p, p = placeI lq (cN : Int) := ⟨_, rfl⟩
                    have HP2 : Hid (∀ wz, Fresh w5 wz → Calls Tryd.prog 43 #[.slice (some ⟨b2, o2, none⟩) nq cq, .int .i64 (cN : Int)] wz fun e w' => e = .returned (.int .i64 pl2) ∧ wz = w') := Lib.hid fun wz hf => by rw [hpl2]; exact HPl.out wz hf _
                    have lb3 := lt_of_cell e1
                    have hji3 : (j3 : Int) < (nq : Int) := by omega
                    have HS3 : Hid (VLq az lq j3 ↔ hb2 = true ∧ (pl2 == (j3 : Int) + 1) = true) := Lib.hid (by
                      constructor
                      · rintro ⟨h1, h2⟩
                        rw [hgd] at h1 h2
                        refine ⟨by rw [hhb2]; simpa using h1, by rw [hpl2, h2]; simp⟩
                      · rintro ⟨h1, h2⟩
                        refine ⟨by rw [hgd]; simpa [hhb2] using h1, by rw [hgd, ← hpl2]; simpa using h2⟩)
                    clear hrl hdr hlk2 hc16 hgd hcN hhb2 hpl2 x0 x1 x2 u0 u1 u2
                    have hno : ∀ kk : Nat, ¬ (hb2 = true ∧ (pl2 == (j3 : Int) + 1) = true) → VPost w ps ls tok az (.returned (.bool false)) (wy.drewN kk) := fun kk h => by
                      refine vpost_no (fun hv => h (HS3.out.1 ?_)) ((HB.out wy HR4.out.1).1.drewN _)
                      have h1 := hv.qs i (by rw [HA.out.2.1]; exact hlt) j3 (by rw [← HQ.out.1]; simp only; rw [← HQ.out.2.2.2]; exact hjl)
                      rw [← HQ.out.1] at h1
                      exact h1
                    have HNO := Lib.hid hno
                    clear hno
                    obtain ⟨eb, heb⟩ : ∃ b, (pl2 == (j3 : Int) + 1) = b := ⟨_, rfl⟩
                    rw [heb] at HS3 HNO
                    cases hb2
                    · go_wp2_with fail
                      go_quiet ((go_at_call 43; exact quiet_same (HP2.out _ (HR4.out.1.drewN _))))
                      go_wp2_with fail
                      go_ret
                      exact HNO.out _ (fun h => by cases h.1)
                    · cases eb
                      · go_wp2_with fail
                        go_quiet ((go_at_call 43; exact quiet_same (HP2.out _ (HR4.out.1.drewN _))))
                        go_wp2_with fail
                        go_ret
                        exact HNO.out _ (fun h => by cases h.2)
                      · go_wp2_with fail
                        go_quiet ((go_at_call 43; exact quiet_same (HP2.out _ (HR4.out.1.drewN _))))
                        go_wp2_with fail
                        refine ⟨⟨j3 + 1, by omega, by simp, Lib.hid ⟨HR4.out.1.drewN _, fun k hk => ?_⟩⟩, by simp only [intOf]; omega⟩
                        rcases Nat.lt_or_ge k j3 with h1 | h1
                        · exact HR4.out.2 k h1
                        · obtain rfl : k = j3 := by omega
                          exact HS3.out.2 (by simp)
                  · have HT4 : Hid (∀ k, k < nq → VLq az lq k) := Lib.hid fun k hk => HR4.out.2 k (by omega)
                    have HF4 := Lib.hid HR4.out.1
                    have hji3 : ¬ (j3 : Int) < (nq : Int) := by omega
                    clear HR4 hjl hj3
                    go_wp2_with fail
                    refine ⟨⟨i + 1, by omega, by simp, Lib.hid ⟨(HB.out _ HF4.out).1, fun k hk => ?_⟩⟩, by simp only [intOf]; omega⟩
                    rcases Nat.lt_or_ge k i with h1 | h1
                    · exact HR.out.2 k h1
                    · obtain rfl : k = i := by omega
                      refine ⟨HV.out, fun j hj => ?_, fun j hj => ?_⟩
                      · rw [← HQ.out.1]
                        exact HT3.out j hj
                      · rw [← HQ.out.1] at hj ⊢
                        exact HT4.out j (by rw [HQ.out.2.2.2]; exact hj)
          · have HV : Hid (¬ VLk tok az ls i) := Lib.hid fun h => by have := HX.out.2.2 h; cases this
            go_wp2_with fail
            go_ret
            exact vpost_no (fun hv => HV.out (hv.lk i (by rw [HA.out.2.1]; exact hlt))) (HB.out w6 HX.out.1).1
        · obtain rfl : nl = i := by omega
          have hL : Hid (∀ k, k < nl → VLk tok az ls k ∧ (∀ j, j < k → (lkAt ls j).token ≠ (lkAt ls k).token) ∧ ∀ j, j < (lkAt ls k).queue.length → VLq az (lkAt ls k).queue j) := Lib.hid HR.out.2
          have HF := Lib.hid HR.out.1
          clear hrl hdr HR x0 x2 hlt
          go_wp2_with fail
          go_loopw [8] (fun iv wx => ∃ q : Nat, q ≤ 16 ∧ iv = .int .i64 (q : Int) ∧ Hid (wx = wq ∧ ∀ k, k < q → ¬ ((azAt az k).1 = true ∧ (azAt az k).2.last.code = 10))) (fun q _ => 16 - (intOf q).toNat)
          case atStart => exact ⟨0, by omega, rfl, Lib.hid ⟨rfl, fun k hk => by omega⟩⟩
          case round =>
            rename World => wx
            obtain ⟨q, hq, rfl, HR5⟩ := hrel
            obtain rfl := HR5.out.1
            by_cases hq16 : q < 16
            · obtain ⟨-, -, -, ld, -, -, hdr⟩ := HM.out wx HF.out
              have hqi : (q : Int) < 16 := by omega
              have a0 := hdr.ask hq16 0 (by omega)
              have a3 := hdr.ask hq16 3 (by omega)
              rw [Nat.add_zero, ← azAt_of] at a0
              rw [← azAt_of] at a3
              replace a0 : wx.cell? ⟨d, 3 + q * 6, none⟩ = some (.bool (azAt az q).1) := a0
              replace a3 : wx.cell? ⟨d, 3 + q * 6 + 3, none⟩ = some (.int .i64 (azAt az q).2.last.code) := a3
              obtain ⟨hb2, hhb2⟩ : ∃ b, b = (azAt az q).1 := ⟨_, rfl⟩
              obtain ⟨cd, hcd⟩ : ∃ b, b = (azAt az q).2.last.code := ⟨_, rfl⟩
              rw [← hhb2] at a0
              rw [← hcd] at a3
              obtain ⟨eb, heb⟩ : ∃ b, (cd == 10) = b := ⟨_, rfl⟩
              have HS : Hid (((azAt az q).1 = true ∧ (azAt az q).2.last.code = 10) ↔ hb2 = true ∧ eb = true) := Lib.hid (by
                rw [← hhb2, ← hcd, ← heb]
                simp)
              clear hdr hhb2 hcd x1
              have hgo : ¬ (hb2 = true ∧ eb = true) → ∀ k, k < q + 1 → ¬ ((azAt az k).1 = true ∧ (azAt az k).2.last.code = 10) := fun h k hk => by
                rcases Nat.lt_or_ge k q with h1 | h1
                · exact HR5.out.2 k h1
                · obtain rfl : k = q := by omega
                  exact fun h2 => h (HS.out.1 h2)
              have HGO := Lib.hid hgo
              clear hgo
              cases hb2
              · go_wp2_with fail
                exact ⟨⟨q + 1, by omega, by simp, Lib.hid ⟨by first | rfl | trivial, HGO.out (by simp)⟩⟩, by simp only [intOf]; omega⟩
              · cases eb
                · go_wp2_with fail
                  exact ⟨⟨q + 1, by omega, by simp, Lib.hid ⟨by first | rfl | trivial, HGO.out (by simp)⟩⟩, by simp only [intOf]; omega⟩
                · go_wp2_with fail
                  go_ret
                  exact vpost_no (fun hv => hv.bad q hq16 (HS.out.2 (by simp))) HF.out
            · have hqi : ¬ (q : Int) < 16 := by omega
              have HB5 : Hid (∀ k, k < 16 → ¬ ((azAt az k).1 = true ∧ (azAt az k).2.last.code = 10)) := Lib.hid fun k hk => HR5.out.2 k (by omega)
              clear HR5 x1
              go_wp2_with fail
              go_ret
              refine ⟨⟨true, rfl, fun _ => ?_, fun _ => rfl⟩, HF.out⟩
              exact ⟨hP.out, fun k hk => (hL.out k (by rw [← HA.out.2.1]; exact hk)).1, fun k hk => (hL.out k (by rw [← HA.out.2.1]; exact hk)).2.1, fun k hk => (hL.out k (by rw [← HA.out.2.1]; exact hk)).2.2, HB5.out⟩
end
end Go.Proofs.YtioinjcdkmiafaaDoor
