/-
  MERGED: DRest
-/
import Derived.Test.YtioinjcdkmiafaaDoorYD7
namespace Go.Proofs.YtioinjcdkmiafaaDoor
set_option linter.unusedVariables false
set_option linter.unusedSimpArgs false
open Go.RowKit

theorem DAt.base {B B' : Nat} {F : Nat → Prop} {w : World} {d : Nat} {pv hv : Value} {hs : List DLk} {s : StD} (h : DAt B F w d pv hv hs s) (hb : B' ≤ B) : DAt B' F w d pv hv hs s :=
  ⟨h.blk, own_base h.pr hb, own_base h.lk hb, h.ds, fun x hx => own_base (h.qs x hx) hb, h.ap, h.fd, h.fp, h.fh, h.fq⟩
/-- A machine just where the text tells one. -/
def DRestPost (bs : Txt) (w : World) (e : Ending) (w' : World) : Prop :=
  Fresh w w' ∧ ((∃ (s : StD) (d : Nat) (pv hv : Value) (hs : List DLk), Restored bs s ∧ e = .returned (.tuple #[.pointer (some ⟨d, 0, none⟩), .int .i64 0]) ∧ DAt w.heap.size (DFoot d pv hv hs) w' d pv hv hs s ∧ ∀ k, DFoot d pv hv hs k → w.heap.size ≤ k) ∨ ((∀ s, ¬ Restored bs s) ∧ e = .returned (.tuple #[.pointer none, .int .i64 131])))
theorem drest_no {bs : Txt} {w w' : World} (hf : Fresh w w') (h : ∀ s, ¬ Restored bs s) : DRestPost bs w (.returned (.tuple #[.pointer none, .int .i64 131])) w' := ⟨hf, .inr ⟨h, rfl⟩⟩
set_option maxRecDepth 20000 in
set_option maxHeartbeats 2000000 in
theorem drestore_any (Z0 : Nat → Prop) (A : Option Addr) (n c : Nat) (bs : Txt) (w : World) (hb0 : Rd w Z0 1 A n (Lib.byteCells bs)) (hn : n ≤ 1099511627770) (hnc : n ≤ c) :
    Calls Tryd.prog 20 #[.slice A n c] w (DRestPost bs w) := by
  have hlen : bs.length = n := by simpa [Lib.byteCells] using hb0.1
  by_cases h11 : n < 11
  · have H : Hid (∀ s, ¬ Restored bs s) := Lib.hid fun s hs => by have := hs.1.1; omega
    have h11i : (n : Int) < 11 := by omega
    clear hb0 hlen h11
    go_enter Tryd.func20, Tryd.ntmps20
    go_wp2_with fail
    go_ret2
    exact drest_no (Keep.refl _ _) H.out
  have h11i : ¬ (n : Int) < 11 := by omega
  by_cases h70 : 1070 < n
  · have H : Hid (∀ s, ¬ Restored bs s) := Lib.hid fun s hs => by
      obtain ⟨e, hi⟩ := restored_inv hs
      have := snap_most hi
      rw [← e] at this
      omega
    have h70i : (1070 : Int) < (n : Int) := by omega
    clear hb0 hlen h11 h70
    go_enter Tryd.func20, Tryd.ntmps20
    go_wp2_with fail
    go_ret2
    exact drest_no (Keep.refl _ _) H.out
  have h70i : ¬ (1070 : Int) < (n : Int) := by omega
  obtain ⟨b, o, rfl, -, hcl⟩ := hb0.2 (by omega)
  have hcell : ∀ j, (hj : j < bs.length) → w.cell? ⟨b, o + j, none⟩ = some (.int .u8 ((bs[j]).toNat : Int)) := fun j hj => hcl j _ (by simp [Lib.byteCells, hj])
  obtain ⟨x0, hx0⟩ : ∃ x : Nat, x = (bs[0]'(by omega)).toNat := ⟨_, rfl⟩
  obtain ⟨x1, hx1⟩ : ∃ x : Nat, x = (bs[1]'(by omega)).toNat := ⟨_, rfl⟩
  obtain ⟨x2, hx2⟩ : ∃ x : Nat, x = (bs[2]'(by omega)).toNat := ⟨_, rfl⟩
  have c0 := hcell 0 (by omega)
  have c1 := hcell 1 (by omega)
  have c2 := hcell 2 (by omega)
  rw [← hx0, Nat.add_zero] at c0
  rw [← hx1] at c1
  rw [← hx2] at c2
  have h3 : ∀ s, Restored bs s → x0 = 81 ∧ x1 = 83 ∧ x2 = 1 := fun s h => by
    have e := h.1.2.1
    have e0 := congrArg (fun l => l[0]?) e
    have e1 := congrArg (fun l => l[1]?) e
    have e2 := congrArg (fun l => l[2]?) e
    simp [headB, show 0 < bs.length by omega, show 1 < bs.length by omega, show 2 < bs.length by omega] at e0 e1 e2
    rw [hx0, hx1, hx2, e0, e1, e2]
    exact ⟨rfl, rfl, rfl⟩
  have h3' : x0 = 81 → x1 = 83 → x2 = 1 → bs.take 3 = headB := fun a0 a1 a2 => by
    have f0 : bs[0]'(by omega) = 81 := UInt8.toNat_inj.1 (by rw [← hx0, a0]; rfl)
    have f1 : bs[1]'(by omega) = 83 := UInt8.toNat_inj.1 (by rw [← hx1, a1]; rfl)
    have f2 : bs[2]'(by omega) = 1 := UInt8.toNat_inj.1 (by rw [← hx2, a2]; rfl)
    refine List.ext_getElem? fun j => ?_
    by_cases hj : j < 3
    · have : j = 0 ∨ j = 1 ∨ j = 2 := by omega
      rcases this with rfl | rfl | rfl
      · rw [List.getElem?_take_of_lt (by omega), List.getElem?_eq_getElem (by omega), f0]; rfl
      · rw [List.getElem?_take_of_lt (by omega), List.getElem?_eq_getElem (by omega), f1]; rfl
      · rw [List.getElem?_take_of_lt (by omega), List.getElem?_eq_getElem (by omega), f2]; rfl
    · rw [List.getElem?_eq_none (by simp; omega), List.getElem?_eq_none (by simp [headB]; omega)]
  have lb := lt_of_cell c0
  have HS := Lib.hid (dseal_any Z0 (some ⟨b, o, none⟩) n c bs w hb0 (by omega) hn hnc)
  obtain ⟨b4, hb4⟩ : ∃ l, l = bs.take (n - 4) := ⟨_, rfl⟩
  have hb4l : b4.length = n - 4 := by rw [hb4, List.length_take]; omega
  have hRd : Rd w (fun k => k < w.heap.size) 1 (some ⟨b, o, none⟩) (n - 4) (Lib.byteCells b4) := by
    have h1 := (hb0.old (by omega)).front (n - 4) (by omega)
    rw [hb4]
    simpa [Lib.byteCells, List.map_take] using h1
  have H3 := Lib.hid (And.intro h3 (And.intro h3' (And.intro hb4 (And.intro hb4l (And.intro hRd hlen)))))
  have hn' : n ≤ 1070 := by omega
  have hn11 : 11 ≤ n := by omega
  obtain ⟨m, hm⟩ : ∃ m, m = n - 4 := ⟨_, rfl⟩
  have hsub : (n : Int) - 4 = (m : Int) := by omega
  have hmc : m ≤ c := by omega
  have hmn : m ≤ n := by omega
  have HMn : Hid (n - 4 = m ∧ 7 ≤ m) := Lib.hid ⟨hm.symm, by omega⟩
  clear hb0 hlen hcl hcell hx0 hx1 hx2 h3 h3' hb4 hb4l hRd h11 h70 hm
  obtain ⟨t0, ht0⟩ : ∃ t, (x0 == 81) = t := ⟨_, rfl⟩
  by_cases g0 : x0 = 81
  case neg =>
    have HN : Hid (∀ s, ¬ Restored bs s) := Lib.hid fun s hs => g0 (H3.out.1 s hs).1
    have hd0 : ((x0 : Int) == 81) = false := by simp; omega
    have g0' : ¬ (x0 : Int) = 81 := by omega
    go_enter Tryd.func20, Tryd.ntmps20
    go_wp2_with fail
    go_ret2
    exact drest_no (Keep.refl _ _) HN.out
  subst g0
  by_cases g1 : x1 = 83
  case neg =>
    have HN : Hid (∀ s, ¬ Restored bs s) := Lib.hid fun s hs => g1 (H3.out.1 s hs).2.1
    have hd0 : ((x1 : Int) == 83) = false := by simp; omega
    have g1' : ¬ (x1 : Int) = 83 := by omega
    go_enter Tryd.func20, Tryd.ntmps20
    go_wp2_with fail
    go_ret2
    exact drest_no (Keep.refl _ _) HN.out
  subst g1
  by_cases g2 : x2 = 1
  case neg =>
    have HN : Hid (∀ s, ¬ Restored bs s) := Lib.hid fun s hs => g2 (H3.out.1 s hs).2.2
    have hd0 : ((x2 : Int) == 1) = false := by simp; omega
    have g2' : ¬ (x2 : Int) = 1 := by omega
    go_enter Tryd.func20, Tryd.ntmps20
    go_wp2_with fail
    go_ret2
    exact drest_no (Keep.refl _ _) HN.out
  subst g2
  have HT := Lib.hid (H3.out.2.1 rfl rfl rfl)
  go_enter Tryd.func20, Tryd.ntmps20
  go_wp2_with fail
  refine Calls.mono HS.out ?_
  rintro e _ ⟨⟨sl, rfl, hsl⟩, ⟨k, rfl⟩⟩
  have HSl := Lib.hid hsl
  clear hsl HS c0 c1 c2
  cases sl
  · have HN : Hid (∀ s, ¬ Restored bs s) := Lib.hid fun s hs => by
      have h1 := hs.1.2.2
      rw [H3.out.2.2.2.2.2] at h1
      have := HSl.out.2 h1
      cases this
    go_wp2_with fail
    go_ret2
    exact drest_no ((Keep.refl _ _).drewN _) HN.out
  · have hsum := HSl.out.1 rfl
    have hseal : sealedB bs := ⟨by have := H3.out.2.2.2.2.2; omega, HT.out, by rw [H3.out.2.2.2.2.2]; exact hsum⟩
    have hres : ∀ s, Restored bs s → ∃ r, oRaw b4 3 = some (r, m) ∧ RawOk r ∧ s = toSt r := fun s hs => by
      obtain ⟨-, r, h1, h2, h3⟩ := hs
      rw [H3.out.2.2.2.2.2, ← H3.out.2.2.1, HMn.out.1] at h1
      exact ⟨r, h1, h2, h3⟩
    have hres2 : ∀ r, oRaw b4 3 = some (r, m) → RawOk r → Restored bs (toSt r) := fun r h1 h2 => by
      refine ⟨hseal, r, ?_, h2, rfl⟩
      rw [H3.out.2.2.2.2.2, ← H3.out.2.2.1, HMn.out.1]
      exact h1
    have HR := Lib.hid (And.intro hres hres2)
    clear hsum hseal hres hres2 HSl
    go_upto_region 4 with (fail)
    generalize hw1 : World.alloc (w.drewN k) _ = w1
    obtain ⟨g, hg⟩ : ∃ g, g = w.heap.size := ⟨_, rfl⟩
    rw [← hg]
    have hgW1 : RRd w1 g (some ⟨b, o, none⟩) m c 3 0 := by rw [← hw1]; exact Blk.newAt hg.symm
    have hf1 : Fresh w w1 := by rw [← hw1]; exact ((Keep.refl _ w).drewN k).alloc _
    have hgl := hgW1.lt
    have hI : RdIn b4 (some ⟨b, o, none⟩) m c g (fun k => k < w.heap.size) w1 := ⟨fun k hk e => by omega, by omega, fun h => by have := HMn.out.2; omega, by
      have h1 := H3.out.2.2.2.2.1
      rw [HMn.out.1] at h1
      exact h1.keep (hf1.weaken fun _ _ _ => trivial), by omega, hgl⟩
    have HRd := Lib.hid (dread_any hI hgW1 (by have := HMn.out.2; omega))
    have HW1 := Lib.hid (And.intro hf1 (And.intro hg hI))
    clear hw1 hg hgW1 hf1 hI hgl
    go_wp2_with fail
    refine Calls.mono HRd.out ?_
    rintro e w2 ⟨d, pv, hv, hs, r, p, er, rfl, hE, hR, hmap⟩
    have HE := Lib.hid (And.intro hE hmap)
    have HEn := Lib.hid (readEnd_any g (some ⟨b, o, none⟩) m c p er w2 hR.rd)
    have HRA := Lib.hid hR
    clear hE hR hmap HRd
    go_wp2_with fail
    refine Calls.mono HEn.out ?_
    rintro e w3 ⟨rfl, hg3, hk3⟩
    have hf3 : Fresh w w3 := by
      have h1 := HW1.out.1.comp HRA.out.kp (fun _ _ h => h) (fun i hi _ e => by have := HW1.out.2.1; omega)
      exact h1.comp hk3 (fun _ _ h => h) (fun i hi _ e => by have := HW1.out.2.1; omega)
    have hd3 := HRA.out.dr.other HRA.out.rd (by decide) (by decide) (by decide) (by decide) hk3
    have y2 := hg3.cell 2
    simp at y2
    have lg := hg3.lt
    have H4 := Lib.hid (And.intro hf3 hd3)
    have hle := HRA.out.le
    clear hg3 hk3 hf3 hd3 HEn
    by_cases hok : er = 0 ∧ p = m
    · obtain ⟨rfl, rfl⟩ := hok
      have hgot := (HE.out.1.r rfl).ok rfl
      obtain ⟨-, -, hrr⟩ := oRaw_inv hgot.1
      have hvr := valid_raw hgot.2 hrr
      have HV := Lib.hid (dvalid_any H4.out.2 hrr.pl (by have h1 := congrArg List.length HE.out.2; rw [List.length_map] at h1; have := hrr.ll; omega) (fun x hx => by
        have hk := hrr.l x.d (by rw [← HE.out.2]; exact List.mem_map_of_mem hx)
        exact ⟨hk.h0, hk.h1, hk.ql, hk.q⟩))
      have HG := Lib.hid (And.intro hgot (And.intro hrr hvr))
      rw [if_neg (by omega)] at y2
      clear hgot hrr hvr
      go_wp2_with fail
      refine Calls.mono HV.out ?_
      rintro e w4 ⟨⟨vb, rfl, hvb⟩, hf4⟩
      rw [HE.out.2, HG.out.2.2] at hvb
      have HVb := Lib.hid (And.intro hvb hf4)
      clear hvb hf4 HV
      cases vb
      · go_wp2_with fail
        go_ret2
        refine drest_no (H4.out.1.then HVb.out.2) fun s hs => ?_
        obtain ⟨r', h1, h2, -⟩ := HR.out.1 s hs
        rw [HG.out.1.1] at h1
        injection h1 with h1
        injection h1 with h1 _
        subst h1
        have := HVb.out.1.2 h2
        cases this
      · have hro := HVb.out.1.1 rfl
        have HRo := Lib.hid hro
        clear hro
        go_wp2_with fail
        go_ret2
        have hd4 := H4.out.2.fresh HVb.out.2
        have hda := (hd4.at (azOf_all HG.out.1.2.2.2.2 fun x hx => (HG.out.1.2.2.2.1 x hx).1)).base HW1.out.1.size
        rw [HE.out.2] at hda
        exact ⟨H4.out.1.then HVb.out.2, .inl ⟨toSt r, d, pv, hv, hs, HR.out.2 r HG.out.1.1 HRo.out, rfl, hda, fun k hk => Nat.le_trans HW1.out.1.size (hd4.foot hk).1⟩⟩
    · have hev : ¬ (if er = 0 ∧ p ≠ m then (15 : Int) else er) = 0 := by
        split
        · omega
        · rename_i h
          intro h2
          exact hok ⟨h2, Classical.byContradiction fun h3 => h ⟨h2, h3⟩⟩
      obtain ⟨ev, hevd⟩ : ∃ ev, ev = (if er = 0 ∧ p ≠ m then (15 : Int) else er) := ⟨_, rfl⟩
      rw [← hevd] at hev y2
      have hevb : (ev == 0) = false := by simpa using hev
      have HOk := Lib.hid hok
      clear hok hevd
      go_wp2_with fail
      go_ret2
      refine drest_no H4.out.1 fun s hs => ?_
      obtain ⟨r', h1, h2, -⟩ := HR.out.1 s hs
      have hgot := HE.out.1.r rfl
      have he := hgot.on r' m h1 (raw_isgood h2)
      have h3 := (hgot.ok he).1
      rw [h1] at h3
      injection h3 with h3
      injection h3 with _ h3
      exact HOk.out ⟨he, h3.symm⟩
end Go.Proofs.YtioinjcdkmiafaaDoor
