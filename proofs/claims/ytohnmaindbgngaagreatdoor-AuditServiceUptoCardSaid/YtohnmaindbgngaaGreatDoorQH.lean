/-
  MERGED: Hist
-/
import Derived.Test.YtohnmaindbgngaaGreatDoorQD
namespace Go.Proofs.YtohnmaindbgngaaGreatDoor
set_option linter.unusedVariables false
set_option linter.unusedSimpArgs false
open Go.RowKit

theorem first_step {ds : List MarkD} {d : MarkD} {z : Int} (h : hfind ds z = none) (hd : ¬ (d.kind = 12 ∧ d.n = z)) : hfind (ds ++ [d]) z = none := by
  rw [hfind_snoc, h, if_neg hd]
  rfl
theorem first_hit {ds es : List MarkD} {d : MarkD} {z : Int} (h : hfind ds z = none) (hd : d.kind = 12 ∧ d.n = z) : hfind (ds ++ d :: es) z = some d.cmd := by
  unfold hfind at h ⊢
  rw [List.find?_append]
  cases hf : ds.find? (fun d => d.kind == 12 && d.n == z) with
  | some x => rw [hf] at h; cases h
  | none => simp [hd.1, hd.2]
set_option maxRecDepth 20000 in
set_option maxHeartbeats 400000 in
theorem first_any (Z : Nat → Prop) (A : Option Addr) (n c : Nat) (hs : List MkV) (z : Int) (w : World) (h : Mks w Z A n hs) :
    Calls Tryz.prog 62 #[.slice A n c, .int .i64 z] w fun e w' => (∃ r : Int, e = .returned (.int .i64 r) ∧ ((r = -1 ∧ hfind (dsOf hs) z = none) ∨ ∃ (k : Nat) (hk : k < hs.length), r = (k : Int) ∧ hfind (dsOf hs) z = some hs[k].d.cmd)) ∧ w = w' := by
  have HM := Lib.hid h
  have hle := h.le
  clear h
  go_enter Tryz.func62, Tryz.ntmps62
  go_wp2
  go_loopw [5] (fun i wr => ∃ k : Nat, k ≤ n ∧ i = .int .i64 (k : Int) ∧ wr = w ∧ Hid (hfind (dsOf (hs.take k)) z = none)) (fun i _ => n - (intOf i).toNat)
  case atStart => exact ⟨0, Nat.zero_le _, rfl, rfl, Lib.hid rfl⟩
  case round =>
    obtain ⟨k, hk, rfl, rfl, HW⟩ := hrel
    by_cases hlt : k < n
    · obtain ⟨b, o, rfl, -, hl, hr⟩ := HM.out.at1 hlt
      obtain ⟨kd, hkd⟩ : ∃ x, x = hs[k].d.kind := ⟨_, rfl⟩
      obtain ⟨nn, hnn⟩ : ∃ x, x = hs[k].d.n := ⟨_, rfl⟩
      have c1 : wr.cell? ⟨b, o + k * 26 + 1, none⟩ = some (.int .i64 kd) := hkd ▸ hr 1 _ rfl
      have c2 : wr.cell? ⟨b, o + k * 26 + 13, none⟩ = some (.int .i64 nn) := hnn ▸ hr 13 _ rfl
      have HX := Lib.hid (show ∃ hl : k < hs.length, kd = hs[k].d.kind ∧ nn = hs[k].d.n from ⟨hl, hkd, hnn⟩)
      clear hkd hnn hr hl
      by_cases h1 : kd = 12
      · by_cases h2 : nn = z
        · go_wp2_with fail
          go_ret
          obtain ⟨hl, x1, x2⟩ := HX.out
          refine ⟨⟨_, rfl, .inr ⟨k, hl, rfl, ?_⟩⟩, rfl⟩
          have e := dsOf_split hl
          rw [e]
          exact first_hit HW.out ⟨by rw [← x1, h1], by rw [← x2, h2]⟩
        · have HS := Lib.hid (show hfind (dsOf (hs.take (k + 1))) z = none by
            obtain ⟨hl, x1, x2⟩ := HX.out
            rw [dsOf_take hl]
            exact first_step HW.out (fun e => h2 (by rw [x2]; exact e.2)))
          go_wp2_with fail
          exact ⟨⟨k + 1, by omega, congrArg _ (by omega), trivial, HS⟩, by simp [intOf]; omega⟩
      · have HS := Lib.hid (show hfind (dsOf (hs.take (k + 1))) z = none by
          obtain ⟨hl, x1, x2⟩ := HX.out
          rw [dsOf_take hl]
          exact first_step HW.out (fun e => h1 (by rw [x1]; exact e.1)))
        go_wp2_with fail
        exact ⟨⟨k + 1, by omega, congrArg _ (by omega), trivial, HS⟩, by simp [intOf]; omega⟩
    · obtain rfl : k = n := by omega
      go_wp2_with fail
      go_ret
      refine ⟨⟨_, rfl, .inl ⟨rfl, ?_⟩⟩, rfl⟩
      have := HW.out
      rwa [List.take_of_length_le (by rw [HM.out.len]; exact Nat.le_refl _)] at this
theorem hist_more {ds : List MarkD} {cs : List CmdD} {d : CmdD} (h : ∀ (i : Nat) (h : i < cs.length), hfind ds ((i : Int) + 1) = some cs[i]) (hd : hfind ds ((cs.length : Int) + 1) = some d) :
    ∀ (i : Nat) (h : i < (cs ++ [d]).length), hfind ds ((i : Int) + 1) = some (cs ++ [d])[i] := by
  intro i hi
  rw [List.getElem_append]
  split
  · rename_i h1
    exact h i h1
  · have : i = cs.length := by simp at hi; omega
    subst this
    simpa using hd
set_option maxRecDepth 20000 in
set_option maxHeartbeats 400000 in
theorem rhist_any (Z : Nat → Prop) (A : Option Addr) (n c : Nat) (hs : List MkV) (w : World) (h : Mks w Z A n hs) :
    Calls Tryz.prog 65 #[.slice A n c] w fun e w' => (∃ (v : Value) (cs : List CmdD), e = .returned v ∧ IsHist (dsOf hs) cs ∧ cs.length ≤ n ∧ w'.ownsRow w.heap.size 43 7 v cs.length (ccells cs)) ∧ Fresh w w' := by
  have HM := Lib.hid h
  have hle := h.le
  have hln : (dsOf hs).length = n := by simpa [dsOf] using h.len
  have HN := Lib.hid hln
  clear h hln
  go_enter Tryz.func65, Tryz.ntmps65
  go_wp2
  go_loopw [3, 4] (fun tl i wr => ∃ cs : List CmdD, i = .int .i64 ((cs.length : Int) + 1) ∧ Hid (wr.ownsRow w.heap.size 43 7 tl cs.length (ccells cs) ∧ Fresh w wr ∧ cs.length ≤ n ∧ ∀ (i : Nat) (h : i < cs.length), hfind (dsOf hs) ((i : Int) + 1) = some cs[i])) (fun _ i _ => n + 1 - (intOf i).toNat)
  case atStart => exact ⟨[], rfl, Lib.hid ⟨w.ownsRow_nil _ _ _, Keep.refl _ _, Nat.zero_le _, fun i h => by cases h⟩⟩
  case round =>
    rename World => wr
    obtain ⟨cs, rfl, HW⟩ := hrel
    have hcl := HW.out.2.2.1
    have HF := Lib.hid (first_any Z A n c hs ((cs.length : Int) + 1) wr (HM.out.keep (HW.out.2.1.weaken fun _ _ _ => trivial)))
    go_wp2_with fail
    refine HF.out.mono ?_
    rintro e _ ⟨⟨r, rfl, hr⟩, rfl⟩
    clear HF
    rcases hr with ⟨rfl, hn⟩ | ⟨k, hk, rfl, hs1⟩
    · have HE := Lib.hid hn
      clear hn
      go_wp2_with fail
      go_ret
      exact ⟨⟨_, cs, rfl, ⟨HW.out.2.2.2, HE.out⟩, hcl, HW.out.1⟩, HW.out.2.1⟩
    · have hkn : k < n := by rw [← HM.out.len]; exact hk
      obtain ⟨b, o, rfl, -, hl, hr⟩ := HM.out.at1 hkn
      replace hr := rangeAt_keep hr HW.out.2.1 trivial
      obtain ⟨d, hd⟩ : ∃ x, x = hs[k].d.cmd := ⟨_, rfl⟩
      rw [← hd] at hs1
      have hlt : cs.length + 1 ≤ n := by
        have := hfind_many (cs.length + 1) (dsOf hs) (fun i hi => by
          rcases Nat.lt_succ_iff_lt_or_eq.1 hi with h1 | rfl
          · rw [HW.out.2.2.2 i h1]; rfl
          · rw [hs1]; rfl)
        rwa [HN.out] at this
      have hrc : wr.rangeAt b (o + k * 26 + 15) d.cells := hd ▸ range_cmd hr
      have HC := Lib.hid hrc
      have h7 := cmd_seven d
      have HS := Lib.hid (hist_more HW.out.2.2.2 hs1)
      have HO := Lib.hid HW.out.1
      have HB := Lib.hid HW.out.2.1.size
      clear hd hs1 hl hr hrc
      go_wp2_with (first | (refine wpList_load_mid rfl 43 _ rfl b (o + k * 26 + 15) rfl d.cells _ HC.out Tryz.underlying43 rfl (by kernel_rfl) ?_) | (at_builtin; refine wpList_appK etCmd rfl (.tmp 14) (.tmp 20) rfl d.cells.toArray _ rfl (cmd_one d) w.heap.size _ cs.length (ccells cs) rfl rfl HO.out (by omega) HB.out ?_))
      intro v1 w1 ho1 hk1 hn1
      rw [ccells_snoc] at ho1
      have hfr : Fresh w w1 := HW.out.2.1.comp hk1 (fun _ _ h => h) (fun i hi _ e => by have := (own_lt HW.out.1 e).1; omega)
      have HN1 := Lib.hid (And.intro ho1 hfr)
      clear hk1 hn1 ho1 hfr HB HO HC HW
      go_wp2_with fail
      refine ⟨⟨cs ++ [d], congrArg _ (by simp), Lib.hid ⟨?_, HN1.out.2, by simpa using hlt, HS.out⟩⟩, by simp [intOf]; omega⟩
      simpa using HN1.out.1
end Go.Proofs.YtohnmaindbgngaaGreatDoor
