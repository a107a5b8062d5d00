/-
  WALK OF THE LAW 'AuditGroup'.
-/
import Derived.Test.YtfpcmleeehciaaaR6
import Derived.Test.YtfpcmleeehciaaaL2
import Derived.Test.YtfpcmleeehciaaaL1
namespace Go.Proofs.Ytfpcmleeehciaaa
set_option linter.unusedVariables false
set_option linter.unusedSimpArgs false
open Go.RowKit Go.Shelf

theorem i64_wrap (z : Int) : I64 (wrap64 z) := by
  have hw : (Lit.int .i64 (wrap64 z)).wf = true := wrap64_wf _
  simp [Lit.wf, IntKind.min, IntKind.max, IntKind.signed, IntKind.bits] at hw
  exact ⟨hw.1, by omega⟩
theorem own_cap {w : World} {base e size n c : Nat} {A : Option Addr} {xs : List Value} (h : w.ownsRow base e size (.slice A n c) n xs) : n ≤ c := by
  rcases h.2 with ⟨e1, e2⟩ | ⟨g, cap, cur, e1, hb, hh, hn, hm, hs, ht⟩
  · injection e1 with h1 h2 h3
    omega
  · injection e1 with h1 h2 h3
    omega
theorem own_rdT {w : World} {base e size n q : Nat} {P : Option Addr} {xs : List Value} (h : w.ownsRow base e size (.slice P n q) n xs) : Rd w (fun _ => True) size P n xs := by
  obtain ⟨A, c, hv, hr, -⟩ := own_rd h
  injection hv with h1
  subst h1
  exact hr.weaken fun _ _ => trivial
set_option maxRecDepth 20000 in
set_option maxHeartbeats 1000000 in
theorem turned2_any (base : Nat) (v : Value) (n : Nat) (hs : List MkV) (w : World) (hn : n ≤ 1048576) (hl : hs.length = n) (hown : w.ownsRow base 50 26 v n (mcells hs)) (hfit : ∀ h ∈ hs, MkFit h.d) (hone : ∀ h ∈ hs, MkOne h) (hint : ∀ h ∈ hs, MkInt h.d) :
    Calls Try.prog 10 #[v] w fun e w' => e = .returned (.tuple #[]) ∧ (∃ ks : List MkV, ks.length = n ∧ w'.ownsRow base 50 26 v n (mcells ks) ∧ (∀ h ∈ ks, MkFit h.d) ∧ (∀ h ∈ ks, MkOne h) ∧ (∀ h ∈ ks, MkInt h.d) ∧ ∀ W : World, (∀ h ∈ hs, MkOk W (fun _ => True) h) → ∀ h ∈ ks, MkOk W (fun _ => True) h) ∧ Keep (fun k => v.ownBlock ≠ some k) w w' := by
  by_cases h0 : 0 < n
  · obtain ⟨g, c, rfl, -, hgl⟩ := own_form hown h0
    obtain ⟨j, hj⟩ : ∃ j, j = n / 2 := ⟨_, rfl⟩
    have hjn : j < n := by omega
    have hq : (n : Int) / 2 = (j : Int) := by omega
    have hjl : j < hs.length := by omega
    obtain ⟨x, hx⟩ : ∃ x, x = hs[j] := ⟨_, rfl⟩
    have hget : ∀ i (h : i < 26) u, x.cells[i]? = some u → w.cell? ⟨g, j * 26 + i, none⟩ = some u := fun i h u hu => own_cell hown rfl (by rw [rcells_get mk_len hs j hjl i h, ← hx]; exact hu)
    obtain ⟨nn, hnn⟩ : ∃ z, z = x.d.n := ⟨_, rfl⟩
    obtain ⟨sq, hsq⟩ : ∃ z, z = x.d.seq := ⟨_, rfl⟩
    obtain ⟨rq, hrq⟩ : ∃ z, z = x.d.cmd.r := ⟨_, rfl⟩
    have c13 : w.cell? ⟨g, j * 26 + 13, none⟩ = some (.int .i64 nn) := hget 13 (by omega) _ (hnn ▸ rfl)
    have c11 : w.cell? ⟨g, j * 26 + 11, none⟩ = some (.int .i64 sq) := hget 11 (by omega) _ (hsq ▸ rfl)
    have c17 : w.cell? ⟨g, j * 26 + 17, none⟩ = some (.int .i64 rq) := hget 17 (by omega) _ (hrq ▸ rfl)
    have f13 : w.frozen? ⟨g, j * 26 + 13, none⟩ = false := own_frozen hown _ rfl
    have f11 : w.frozen? ⟨g, j * 26 + 11, none⟩ = false := own_frozen hown _ rfl
    have f17 : w.frozen? ⟨g, j * 26 + 17, none⟩ = false := own_frozen hown _ rfl
    have HA := Lib.hid (And.intro hown (And.intro hfit (And.intro hone (And.intro hl (And.intro hx (And.intro hj hint))))))
    clear hown hfit hone hl hx hget hnn hsq hrq hj hint
    go_enter Try.func10, Try.ntmps10
    go_wp2_with fail
    go_end0
    obtain ⟨hown, hfit, hone, hl, hx, -, hint⟩ := HA.out
    have hfx := hfit x (hx ▸ List.getElem_mem hjl)
    have hox := hone x (hx ▸ List.getElem_mem hjl)
    have hix := hint x (hx ▸ List.getElem_mem hjl)
    refine ⟨rfl, ⟨hs.set j (mkTurned x (wrap64 (nn + 1)) (wrap64 (sq + 1)) (wrap64 (rq + 1))), by rw [List.length_set]; exact hl, ?_, fun h hh => ?_, fun h hh => ?_, fun h hh => ?_, fun W hW h hh => ?_⟩, ?_⟩
    · have o1 := own_set hown rfl (g := g) (i := j * 26 + 13) (by omega) (.int .i64 (wrap64 (nn + 1)))
      have o2 := own_set o1 rfl (g := g) (i := j * 26 + 11) (by omega) (.int .i64 (wrap64 (sq + 1)))
      have o3 := own_set o2 rfl (g := g) (i := j * 26 + 17) (by omega) (.int .i64 (wrap64 (rq + 1)))
      rw [mcells_turned hs j hjl x hx] at o3
      exact o3
    · rcases List.mem_or_eq_of_mem_set hh with h1 | rfl
      · exact hfit h h1
      · have hw := i64_wrap (nn + 1)
        exact ⟨hfx.m, hfx.t, hfx.b, hw.1, hw.2⟩
    · rcases List.mem_or_eq_of_mem_set hh with h1 | rfl
      · exact hone h h1
      · exact hox
    · rcases List.mem_or_eq_of_mem_set hh with h1 | rfl
      · exact hint h h1
      · obtain ⟨i1, i2, i3, i4, i5, i6, i7, i8, i9⟩ := hix
        exact ⟨i1, i2, i3, i4, i5, i6, i7, i64_wrap _, i9⟩
    · rcases List.mem_or_eq_of_mem_set hh with h1 | rfl
      · exact hW h h1
      · have := hW x (hx ▸ List.getElem_mem hjl)
        exact ⟨this.m, this.t, this.b⟩
    · exact (((Keep.refl _ w).setCell (fun _ h => h rfl) _).setCell (fun _ h => h rfl) _).setCell (fun _ h => h rfl) _
  · obtain rfl : n = 0 := by omega
    obtain ⟨A, c, rfl, -⟩ := own_rd hown
    have HA := Lib.hid (And.intro hown (And.intro hfit (And.intro hone (And.intro hl hint))))
    clear hown hfit hone hl hint
    go_enter Try.func10, Try.ntmps10
    go_wp2_with fail
    go_end0
    exact ⟨rfl, ⟨hs, HA.out.2.2.2.1, HA.out.1, HA.out.2.1, HA.out.2.2.1, HA.out.2.2.2.2, fun W hW => hW⟩, Keep.refl _ _⟩

theorem int_of_ds {hs ks : List MkV} (h : dsOf ks = dsOf hs) (hi : ∀ x ∈ hs, MkInt x.d) : ∀ x ∈ ks, MkInt x.d := fun x hx => by
  obtain ⟨y, hy, e⟩ := dsOf_mem h hx
  rw [← e]; exact hi y hy

set_option maxRecDepth 20000 in
set_option maxHeartbeats 4000000 in
theorem auditgroup_any (A A2 : Option Addr) (n c n2 c2 : Nat) (K : Int) (hs : List MkV) (W : World) (hm : Mks W (fun _ => True) A n hs) (hok : ∀ x ∈ hs, MkOk W (fun _ => True) x) (hi : ∀ x ∈ hs, MkInt x.d) (hnc : n ≤ c) :
    Calls Try.prog 3 #[.agg #[.slice A n c, .slice A2 n2 c2, .int .i64 K]] W fun e w' => e = .returned (.bool true) ∧ Fresh W w' := by
  have H := Lib.hid (And.intro hm (And.intro hok hi))
  have hle := hm.le
  clear hm hok hi
  obtain ⟨ra, hra⟩ : ∃ z, z = (groupG (dsOf hs)).1 := ⟨_, rfl⟩
  obtain ⟨rb, hrb⟩ : ∃ z, z = (groupG (dsOf hs)).2 := ⟨_, rfl⟩
  have HLo := Lib.hid (fun w' (hf : Fresh W w') => loosely_any (fun _ => True) A n c hs w' (H.out.1.keep hf) (fun x hx => (H.out.2.1 x hx).keep hf))
  have HGr := Lib.hid (fun w' (hf : Fresh W w') => rgroup_same A n c hs w' ⟨H.out.1.keep hf, fun x hx => (H.out.2.1 x hx).keep hf⟩ hnc)
  rw [← hra, ← hrb] at HGr
  have HE := Lib.hid (And.intro hra hrb)
  clear hra hrb
  go_enter Try.func3, Try.ntmps3
  go_upto_region 1 with (fail)
  obtain ⟨bx, hbx⟩ : ∃ b, b = W.heap.size := ⟨_, rfl⟩
  rw [← hbx]
  generalize hw1 : World.alloc W _ = w1
  have hf1 : Fresh W w1 := hw1 ▸ (Keep.refl _ W).alloc _
  have hb1 : Blk w1 bx 25 #[.slice A n c, .slice A2 n2 c2, .int .i64 K] := by rw [← hw1, hbx]; exact Blk.new W _ _
  have H1 := Lib.hid (And.intro hf1 hb1)
  have x0 := hb1.cell 0; have lx := hb1.lt
  simp at x0
  have HL := Lib.hid (HLo.out w1 hf1)
  clear hbx hw1 hf1 hb1 HLo
  go_wp2_with fail
  refine Calls.mono HL.out ?_
  rintro e w2 ⟨⟨X, ps, vL, vM, vT, vB, rfl, hX⟩, hf2⟩
  obtain ⟨AL, cL, rfl, hm2, hok2⟩ := hX.mks H.out.1.len hle H.out.1.fit
  have hds := hX.all H.out.1.len
  have hV := verdict_any w2 AL n cL (ps.map LMk.x) hm2 hok2 (int_of_ds hds H.out.2.2)
  rw [hds, ← HE.out.1, ← HE.out.2] at hV
  have HV := Lib.hid hV
  have cX : w2.cell? ⟨X, 0, none⟩ = some (.slice AL n cL) := hX.blk.cell 0
  have lX := hX.blk.lt
  have H2 := Lib.hid (And.intro hX (And.intro (H1.out.1.trans hf2) (H1.out.2.keep hf2 trivial)))
  have HS1 := Lib.hid H1.out.1.size
  clear hX hf2 hm2 hok2 hds hV x0 lx HL HE H1
  go_wp2_with fail
  refine Calls.mono HV.out ?_
  rintro e w3 ⟨rfl, hf3⟩
  have HF3 := Lib.hid hf3
  clear hf3 HV cX lX
  go_upto_region 3 with (fail)
  obtain ⟨b4, hb4⟩ : ∃ b, b = w3.heap.size := ⟨_, rfl⟩
  rw [← hb4]
  generalize hw4 : World.alloc w3 _ = w4
  have hf4 : Fresh w3 w4 := hw4 ▸ (Keep.refl _ w3).alloc _
  have hB4 : Blk w4 b4 29 #[.int .i64 ra, .int .i64 rb] := by rw [← hw4, hb4]; exact Blk.new w3 _ _
  have hf24 := HF3.out.trans hf4
  have hb4x := H2.out.2.2.keep hf24 trivial
  have x0 := hb4x.cell 0; have lx := hb4x.lt
  simp at x0
  have H4 := Lib.hid (And.intro hf24 hB4)
  have HG4 := Lib.hid (HGr.out w4 (H2.out.2.1.trans hf24))
  clear hb4 hw4 hf4 hB4 hf24 hb4x HF3
  go_wp2_with fail
  refine Calls.mono HG4.out ?_
  rintro e w5 ⟨rfl, hf5⟩
  have HF5 := Lib.hid hf5
  clear hf5 HG4 x0 lx HGr
  go_upto_region 4 with (fail)
  obtain ⟨b5, hb5⟩ : ∃ b, b = w5.heap.size := ⟨_, rfl⟩
  rw [← hb5]
  generalize hw6 : World.alloc w5 _ = w6
  have hf6 : Fresh w5 w6 := hw6 ▸ (Keep.refl _ w5).alloc _
  have hB6 : Blk w6 b5 29 #[.int .i64 ra, .int .i64 rb] := by rw [← hw6, hb5]; exact Blk.new w5 _ _
  have hf46 := HF5.out.trans hf6
  have hf26 := H4.out.1.trans hf46
  have hFW := H2.out.2.1.trans hf26
  have hb6x := H2.out.2.2.keep hf26 trivial
  have x0 := hb6x.cell 0; have lx := hb6x.lt
  simp at x0
  have HK := Lib.hid (kept_any (fun _ => True) A n c hs _ w6 X ps _ vM vT vB (H.out.1.keep hFW) (fun x hx => (H.out.2.1 x hx).keep hFW) (H2.out.1.keep hf26))
  have H6 := Lib.hid (And.intro hf26 (And.intro hFW (And.intro (H4.out.2.keep hf46 trivial) hB6)))
  clear hb5 hw6 hf6 hB6 hf46 hf26 hFW hb6x HF5 H4
  go_wp2_with fail
  refine Calls.mono HK.out ?_
  rintro e w7 ⟨rfl, hf7⟩
  have hX7 := H2.out.1.keep (H6.out.1.trans hf7)
  have cX : w7.cell? ⟨X, 0, none⟩ = some (.slice AL n cL) := hX7.blk.cell 0
  have lX := hX7.blk.lt
  have hds := hX7.all H.out.1.len
  have HT := Lib.hid (turned2_any _ (.slice AL n cL) n (ps.map LMk.x) w7 hle (by simp [hX7.len]) hX7.L (fit_of_ds H.out.1.fit hds) (fun x hx => by
    obtain ⟨p, hp, rfl⟩ := List.mem_map.1 hx
    exact (hX7.rows p hp).one) (int_of_ds hds H.out.2.2))
  have H7 := Lib.hid (And.intro hX7 (And.intro (H6.out.2.1.trans hf7) (And.intro (H6.out.2.2.1.keep hf7 trivial) (H6.out.2.2.2.keep hf7 trivial))))
  clear hX7 hds hf7 HK x0 lx H6
  go_wp2_with fail
  refine Calls.mono HT.out ?_
  rintro e w8 ⟨rfl, ⟨ks, hlk, hok, hfk, h1k, hik, hrk⟩, hk8⟩
  obtain ⟨hX7, hF7, hv4, hv5⟩ := H7.out
  have hS8 : Soft w7 w8 := Soft.own hX7.L (by decide) hk8
  have hm8 : Mks w8 (fun _ => True) AL n ks := ⟨hlk, own_rdT hok, hle, hfk, h1k⟩
  have hok8 := hrk w8 (fun x hx => by
    obtain ⟨p, hp, rfl⟩ := List.mem_map.1 hx
    exact ((hX7.rows p hp).soft hS8).ok)
  have hcap : n ≤ cL := own_cap hok
  have hX8 := hX7.blk.keep hk8 (own_ne_blk hX7.L hX7.blk (by decide))
  have cX8 : w8.cell? ⟨X, 0, none⟩ = some (.slice AL n cL) := hX8.cell 0
  have hv4' := hv4.keep hk8 (own_ne_blk hX7.L hv4 (by decide))
  have hv5' := hv5.keep hk8 (own_ne_blk hX7.L hv5 (by decide))
  have hF8 : Fresh W w8 := hF7.comp hk8 (fun _ _ h => h) (fun i hi _ e => by
    have h1 := (own_lt hX7.L e).1
    have h2 := H2.out.1.fresh.size
    have h3 := HS1.out
    have h4 := H2.out.2.2.lt
    have h5 := H2.out.1.lo
    omega)
  obtain ⟨ta, hta⟩ : ∃ z, z = (groupG (dsOf ks)).1 := ⟨_, rfl⟩
  obtain ⟨tb, htb⟩ : ∃ z, z = (groupG (dsOf ks)).2 := ⟨_, rfl⟩
  have hV8 := verdict_any w8 AL n cL ks hm8 hok8 hik
  rw [← hta, ← htb] at hV8
  have HV8 := Lib.hid hV8
  have HG8 := Lib.hid (fun w' (hf : Fresh w8 w') => rgroup_same AL n cL ks w' ⟨hm8.keep hf, fun x hx => (hok8 x hx).keep hf⟩ hcap)
  rw [← hta, ← htb] at HG8
  have lX8 := hX8.lt
  have H8 := Lib.hid (And.intro hF8 (And.intro hv4' (And.intro hv5' hX8)))
  clear hX7 hF7 hv4 hv5 hS8 hm8 hok8 hX8 hv4' hv5' hF8 hta htb hV8 hlk hok hfk h1k hik hrk hk8 cX lX HT H7 H2
  go_wp2_with fail
  refine Calls.mono HV8.out ?_
  rintro e w9 ⟨rfl, hf9⟩
  have HF9 := Lib.hid hf9
  clear hf9 HV8 cX8 lX8
  go_upto_region 7 with (fail)
  obtain ⟨b7, hb7⟩ : ∃ b, b = w9.heap.size := ⟨_, rfl⟩
  rw [← hb7]
  generalize hwA : World.alloc w9 _ = wA
  have hfA : Fresh w9 wA := hwA ▸ (Keep.refl _ w9).alloc _
  have hB7 : Blk wA b7 29 #[.int .i64 ta, .int .i64 tb] := by rw [← hwA, hb7]; exact Blk.new w9 _ _
  have hf8A := HF9.out.trans hfA
  have hv4 := H8.out.2.1.keep hf8A trivial
  have hv5 := H8.out.2.2.1.keep hf8A trivial
  have hXA := H8.out.2.2.2.keep hf8A trivial
  have HG := Lib.hid (fun w' (hf : Fresh wA w') => HG8.out w' (hf8A.trans hf))
  have a0 := hv4.cell 0; have a1 := hv4.cell 1; have d0 := hv5.cell 0; have d1 := hv5.cell 1; have t0 := hB7.cell 0; have t1 := hB7.cell 1
  simp at a0 a1 d0 d1 t0 t1
  have cXA : wA.cell? ⟨X, 0, none⟩ = some (.slice AL n cL) := hXA.cell 0
  have HS := Lib.hid (show ∀ w', Fresh wA w' → (w'.cell? ⟨b4, 0, none⟩ = some (.int .i64 ra) ∧ w'.cell? ⟨b4, 1, none⟩ = some (.int .i64 rb) ∧ w'.cell? ⟨b5, 0, none⟩ = some (.int .i64 ra) ∧ w'.cell? ⟨b5, 1, none⟩ = some (.int .i64 rb) ∧ w'.cell? ⟨b7, 0, none⟩ = some (.int .i64 ta) ∧ w'.cell? ⟨b7, 1, none⟩ = some (.int .i64 tb) ∧ w'.cell? ⟨X, 0, none⟩ = some (.slice AL n cL)) from fun w' hf => ⟨hf.cellAt a0 trivial, hf.cellAt a1 trivial, hf.cellAt d0 trivial, hf.cellAt d1 trivial, hf.cellAt t0 trivial, hf.cellAt t1 trivial, hf.cellAt cXA trivial⟩)
  have HF := Lib.hid (H8.out.1.trans hf8A)
  clear hb7 hwA hfA hB7 hf8A hv4 hv5 hXA a0 a1 d0 d1 t0 t1 cXA HF9 H8 HG8
  go_region_held3 (fun w' => w'.cell? ⟨b4, 0, none⟩ = some (.int .i64 ra) ∧ w'.cell? ⟨b4, 1, none⟩ = some (.int .i64 rb) ∧ w'.cell? ⟨b5, 0, none⟩ = some (.int .i64 ra) ∧ w'.cell? ⟨b5, 1, none⟩ = some (.int .i64 rb) ∧ w'.cell? ⟨b7, 0, none⟩ = some (.int .i64 ta) ∧ w'.cell? ⟨b7, 1, none⟩ = some (.int .i64 tb) ∧ w'.cell? ⟨X, 0, none⟩ = some (.slice AL n cL))
    (first | exact HS.out _ ((Keep.refl _ wA).drew) | exact HS.out _ hfa)
    ((go_at_call 8; (with_reducible refine Calls.mono (HG.out _ ((Keep.refl _ wA).drew)) ?_); rintro e wa ⟨rfl, hfa0⟩; have hfa : Fresh wA wa := ((Keep.refl _ wA).drew).trans hfa0; clear hfa0))
  all_goals
    go_wp2_with fail
    go_ret
    exact ⟨rfl, HF.out.trans hfa⟩
end Go.Proofs.Ytfpcmleeehciaaa
