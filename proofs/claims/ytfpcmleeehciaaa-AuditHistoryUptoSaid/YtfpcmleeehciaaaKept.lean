/-
  WALK OF quoratelaw17's 'kept'.
-/
import Derived.Test.YtfpcmleeehciaaaLoosely
import Derived.Test.YtfpcmleeehciaaaSameMarks
namespace Go.Proofs.Ytfpcmleeehciaaa
set_option linter.unusedVariables false
set_option linter.unusedSimpArgs false
open Go.RowKit

theorem LRow.hdr_one {w : World} {base te sz : Nat} {hdr long : Value} {n : Nat} {xs pads : List Value} (h : LRow w base te sz hdr long n xs pads) : hdr.oneCell' = true := by
  obtain ⟨g, c, _, rfl, _⟩ := h
  rfl
theorem LMkOk.one {w : World} {base : Nat} {p : LMk} (h : LMkOk w base p) : MkOne p.x := ⟨h.m.hdr_one, h.t.hdr_one, h.b.hdr_one⟩
theorem LMkOk.ok {w : World} {base : Nat} {p : LMk} (h : LMkOk w base p) : MkOk w (fun _ => True) p.x := ⟨h.m.sl.weaken fun _ _ => trivial, h.t.sl.weaken fun _ _ => trivial, h.b.sl.weaken fun _ _ => trivial⟩
theorem fit_of_ds {hs ks : List MkV} (h : ∀ x ∈ hs, MkFit x.d) (he : dsOf ks = dsOf hs) : ∀ x ∈ ks, MkFit x.d := by
  intro x hx
  have : x.d ∈ dsOf hs := he ▸ List.mem_map_of_mem hx
  obtain ⟨y, hy, e⟩ := List.mem_map.1 this
  exact e ▸ h y hy
theorem Loos.all {w wr : World} {X : Nat} {hs : List MkV} {n : Nat} {ps : List LMk} {vL vM vT vB : Value} (h : Loos w wr X hs n ps vL vM vT vB) (hn : hs.length = n) : dsOf (ps.map LMk.x) = dsOf hs := by
  rw [h.same, List.take_of_length_le (by omega)]
/-- The loose list reads as the marks. -/
theorem Loos.mks {w wr : World} {X : Nat} {hs : List MkV} {n : Nat} {ps : List LMk} {vL vM vT vB : Value} (h : Loos w wr X hs n ps vL vM vT vB) (hn : hs.length = n) (hle : n ≤ 1048576) (hf : ∀ x ∈ hs, MkFit x.d) :
    ∃ A c, vL = .slice A n c ∧ Mks wr (fun _ => True) A n (ps.map LMk.x) ∧ ∀ x ∈ ps.map LMk.x, MkOk wr (fun _ => True) x := by
  obtain ⟨A, c, hv, hr, -⟩ := own_rd h.L
  refine ⟨A, c, hv, ⟨by simp [h.len], hr.weaken fun _ _ => trivial, hle, fit_of_ds hf (h.all hn), fun x hx => ?_⟩, fun x hx => ?_⟩
  · obtain ⟨p, hp, rfl⟩ := List.mem_map.1 hx
    exact (h.rows p hp).one
  · obtain ⟨p, hp, rfl⟩ := List.mem_map.1 hx
    exact (h.rows p hp).ok

set_option maxRecDepth 20000 in
set_option maxHeartbeats 1000000 in
theorem kept_any (Z : Nat → Prop) (A : Option Addr) (n c : Nat) (hs : List MkV) (w0 w : World) (X : Nat) (ps : List LMk) (vL vM vT vB : Value) (h : Mks w Z A n hs) (ho : ∀ h ∈ hs, MkOk w Z h) (hx : Loos w0 w X hs n ps vL vM vT vB) :
    Calls Try.prog 9 #[.pointer (some ⟨X, 0, none⟩), .slice A n c] w fun e w' => e = .returned (.bool true) ∧ Fresh w w' := by
  obtain ⟨AL, cL, rfl, hm, hok⟩ := hx.mks h.len h.le h.fit
  have HS := Lib.hid (samemarks_any (fun _ => True) Z AL A n cL c (ps.map LMk.x) hs w hm h (hx.all h.len) hok ho)
  have HM := Lib.hid (And.intro h (And.intro ho hx))
  have hle := h.le
  have cX0 : w.cell? ⟨X, 0, none⟩ = some (.slice AL n cL) := hx.blk.cell 0
  clear h ho hx hm hok
  go_enter Try.func9, Try.ntmps9
  go_wp2_with fail
  refine HS.out.mono ?_
  rintro e w1 ⟨rfl, hf1⟩
  have hX1 := HM.out.2.2.keep hf1
  have cX1 : w1.cell? ⟨X, 1, none⟩ = some vM := hX1.blk.cell 1
  have cX2 : w1.cell? ⟨X, 2, none⟩ = some vT := hX1.blk.cell 2
  have cX3 : w1.cell? ⟨X, 3, none⟩ = some vB := hX1.blk.cell 3
  have H1 := Lib.hid (And.intro hf1 hX1)
  clear hf1 hX1 HS cX0
  go_wp2_with fail
  go_loopw [6] (fun i wr => ∃ k q : Nat, k ≤ n ∧ i = .int .i64 (k : Int) ∧ wr = w1.drewN q) (fun i _ => n - (intOf i).toNat)
  case atStart => exact ⟨0, 0, Nat.zero_le _, rfl, rfl⟩
  case round =>
    obtain ⟨k, q, hk, rfl, rfl⟩ := hrel
    by_cases hlt : k < n
    · obtain ⟨b, o, rfl, -, hl, hr⟩ := HM.out.1.at1 hlt
      replace hr := rangeAt_keep hr H1.out.1 trivial
      have hok := HM.out.2.1 _ (List.getElem_mem hl)
      have hfit := HM.out.1.fit _ (List.getElem_mem hl)
      have hpl : k < ps.length := by rw [H1.out.2.len]; exact hlt
      have hp := H1.out.2.rows _ (List.getElem_mem hpl)
      have hds : ps[k].x.d = hs[k].d := by
        have := congrArg (fun l : List MarkD => l[k]?) (H1.out.2.all HM.out.1.len)
        simpa [dsOf, hl, hpl] using this
      obtain ⟨gM, cM, rfl, -, -⟩ := own_form H1.out.2.M (by omega)
      obtain ⟨gT, cT, rfl, -, -⟩ := own_form H1.out.2.T (by omega)
      obtain ⟨gB, cB, rfl, -, -⟩ := own_form H1.out.2.B (by omega)
      obtain ⟨⟨gm, cm, em, -, -, om⟩, ⟨gt, ct, et, -, -, ot⟩, ⟨gb, cb, eb, -, -, ob⟩⟩ := hp
      obtain ⟨⟨AM1, cM1, eM, -, -, -⟩, ⟨AT1, cT1, eT, -, -, -⟩, ⟨AB1, cB1, eB, -, -, -⟩⟩ := hok
      rw [hds] at em et eb om ot ob
      obtain ⟨x, hx⟩ : ∃ x, x = hs[k] := ⟨_, rfl⟩
      rw [← hx] at em et eb om ot ob eM eT eB hr hfit
      have l8 : w1.cell? ⟨b, o + k * 26 + 8, none⟩ = some (.slice AM1 x.d.mem.length cM1) := (hr 8 _ rfl).trans (congrArg some eM)
      have l9 : w1.cell? ⟨b, o + k * 26 + 9, none⟩ = some (.slice AT1 x.d.tr.length cT1) := (hr 9 _ rfl).trans (congrArg some eT)
      have l14 : w1.cell? ⟨b, o + k * 26 + 14, none⟩ = some (.slice AB1 x.d.body.length cB1) := (hr 14 _ rfl).trans (congrArg some eB)
      have rM : w1.cell? ⟨gM, k, none⟩ = some (.slice (some ⟨gm, 0, none⟩) (x.d.mem.length + 64) cm) := own_cell H1.out.2.M rfl (by rw [List.getElem?_map, List.getElem?_eq_getElem hpl]; exact congrArg some em)
      have rT : w1.cell? ⟨gT, k, none⟩ = some (.slice (some ⟨gt, 0, none⟩) (x.d.tr.length + 64) ct) := own_cell H1.out.2.T rfl (by rw [List.getElem?_map, List.getElem?_eq_getElem hpl]; exact congrArg some et)
      have rB : w1.cell? ⟨gB, k, none⟩ = some (.slice (some ⟨gb, 0, none⟩) (x.d.body.length + 64) cb) := own_cell H1.out.2.B rfl (by rw [List.getElem?_map, List.getElem?_eq_getElem hpl]; exact congrArg some eb)
      have hfm := hfit.m
      have hft := hfit.t
      have hfb := hfit.b
      rw [em] at om
      rw [et] at ot
      rw [eb] at ob
      have HO := Lib.hid (And.intro om (And.intro ot ob))
      clear em et eb om ot ob eM eT eB hr hfit hx hds hl hpl
      go_wp2_with fail
      go_loopw [7] (fun i w' => ∃ j q : Nat, j ≤ 64 ∧ i = .int .i64 (j : Int) ∧ w' = w1.drewN q) (fun i _ => 64 - (intOf i).toNat)
      case atStart => exact ⟨0, q, Nat.zero_le _, rfl, rfl⟩
      case round =>
        obtain ⟨j, q2, hj, rfl, rfl⟩ := hrel
        by_cases hlt2 : j < 64
        · obtain ⟨om, ot, ob⟩ := HO.out
          have jm : ∀ i, i < 3 → w1.cell? ⟨gm, (x.d.mem.length + j) * 3 + i, none⟩ = (memPad j).cells[i]? := fun i hi => by
            have e1 : (rcells MemD.cells x.d.mem ++ rcells MemD.cells (memPads 64))[(x.d.mem.length + j) * 3 + i]? = (memPad j).cells[i]? := by
              rw [List.getElem?_append_right (by rw [rcells_len mem_three]; omega), rcells_len mem_three]
              have hj2 : j < (memPads 64).length := by simpa [memPads] using hlt2
              rw [show (x.d.mem.length + j) * 3 + i - x.d.mem.length * 3 = j * 3 + i by omega, rcells_get mem_three (memPads 64) j hj2 i hi]
              simp [memPads]
            have hs : i < (memPad j).cells.length := hi
            rw [List.getElem?_eq_getElem hs] at e1 ⊢
            exact own_cell om rfl e1
          obtain ⟨im, him⟩ : ∃ im, im = x.d.mem.length + j := ⟨_, rfl⟩
          obtain ⟨it, hit⟩ : ∃ it, it = x.d.tr.length + j := ⟨_, rfl⟩
          obtain ⟨ib, hib⟩ : ∃ ib, ib = x.d.body.length + j := ⟨_, rfl⟩
          have wm : IntKind.i64.wrap ((x.d.mem.length : Int) + (j : Int)) = (im : Int) := by rw [IntWalk.i64_in _ (by omega)]; omega
          have wt : IntKind.i64.wrap ((x.d.tr.length : Int) + (j : Int)) = (it : Int) := by rw [IntWalk.i64_in _ (by omega)]; omega
          have wb : IntKind.i64.wrap ((x.d.body.length : Int) + (j : Int)) = (ib : Int) := by rw [IntWalk.i64_in _ (by omega)]; omega
          have w7 : IntKind.i64.wrap (-7 - (j : Int)) = -7 - (j : Int) := IntWalk.i64_in _ (by omega)
          have w2 : IntKind.i64.wrap (200 - (j : Int)) = 200 - (j : Int) := IntWalk.i64_in _ (by omega)
          have w8 : IntKind.u8.wrap (200 - (j : Int)) = 200 - (j : Int) := IntWalk.u8_in _ (by omega)
          have bm1 : (im : Int) < (x.d.mem.length : Int) + 64 := by omega
          have bt1 : (it : Int) < (x.d.tr.length : Int) + 64 := by omega
          have bb1 : (ib : Int) < (x.d.body.length : Int) + 64 := by omega
          have bm : im < x.d.mem.length + 64 := by omega
          have bt : it < x.d.tr.length + 64 := by omega
          have bb : ib < x.d.body.length + 64 := by omega
          have p0 : w1.cell? ⟨gm, im * 3, none⟩ = some (.int .i64 (-7 - (j : Int))) := him ▸ jm 0 (by omega)
          have p1 : w1.cell? ⟨gm, im * 3 + 1, none⟩ = some (.int .i64 0) := him ▸ jm 1 (by omega)
          have p2 : w1.cell? ⟨gm, im * 3 + 2, none⟩ = some (.int .i64 0) := him ▸ jm 2 (by omega)
          have pt : w1.cell? ⟨gt, it, none⟩ = some (.int .i64 (-7 - (j : Int))) := own_cell ot rfl (by
            rw [hit, List.getElem?_append_right (by simp [ics])]
            simp [ics, trPads, trPad, hlt2])
          have pb : w1.cell? ⟨gb, ib, none⟩ = some (.int .u8 (200 - (j : Int))) := own_cell ob rfl (by
            rw [hib, List.getElem?_append_right (by simp [Lib.byteCells]), ← byPad_nat hlt2]
            simp [Lib.byteCells, byPads, hlt2])
          clear him hit hib
          clear om ot ob jm
          go_wp2_with fail
          go_quiet (fail)
          go_wp2_with fail
          exact ⟨⟨j + 1, _, by omega, congrArg _ (by omega), rfl⟩, by simp [intOf]; omega⟩
        · obtain rfl : j = 64 := by omega
          go_wp2_with fail
          exact ⟨⟨k + 1, _, by omega, congrArg _ (by omega), rfl⟩, by simp [intOf]; omega⟩
    · obtain rfl : k = n := by omega
      go_wp2_with fail
      go_ret
      exact ⟨rfl, H1.out.1.drewN _⟩
end Go.Proofs.Ytfpcmleeehciaaa
