/-
  MERGED: Turned Turn2
-/
import Derived.Test.YtohnmaindbgngaaGreatDoorQG
import Derived.Test.YtohnmaindbgngaaGreatDoorQF
import Derived.Test.YtohnmaindbgngaaGreatDoorQE
namespace Go.Proofs.YtohnmaindbgngaaGreatDoor
set_option linter.unusedVariables false
set_option linter.unusedSimpArgs false
open Go.RowKit

/-- The mark with other numbers. -/
def mkTurned (x : MkV) (a b c : Int) : MkV := { x with d := { x.d with n := a, seq := b, cmd := { x.d.cmd with r := c } } }
theorem mcells_turned (hs : List MkV) (j : Nat) (hj : j < hs.length) (x : MkV) (hx : x = hs[j]) (a b c : Int) :
    (((mcells hs).set (j * 26 + 13) (.int .i64 a)).set (j * 26 + 11) (.int .i64 b)).set (j * 26 + 17) (.int .i64 c) = mcells (hs.set j (mkTurned x a b c)) := by
  have e1 : (mcells hs).set (j * 26 + 13) (.int .i64 a) = mcells (hs.set j (mkTurned x a x.d.seq x.d.cmd.r)) := rcells_set mk_len hs j hj 13 _ _ (by omega) (by rw [← hx]; rfl)
  have hj1 : j < (hs.set j (mkTurned x a x.d.seq x.d.cmd.r)).length := by simpa using hj
  have g1 : (hs.set j (mkTurned x a x.d.seq x.d.cmd.r))[j] = mkTurned x a x.d.seq x.d.cmd.r := by simp
  have e2 : (mcells (hs.set j (mkTurned x a x.d.seq x.d.cmd.r))).set (j * 26 + 11) (.int .i64 b) = mcells ((hs.set j (mkTurned x a x.d.seq x.d.cmd.r)).set j (mkTurned x a b x.d.cmd.r)) := rcells_set mk_len _ j hj1 11 _ _ (by omega) (by rw [g1]; rfl)
  rw [List.set_set] at e2
  have hj2 : j < (hs.set j (mkTurned x a b x.d.cmd.r)).length := by simpa using hj
  have g2 : (hs.set j (mkTurned x a b x.d.cmd.r))[j] = mkTurned x a b x.d.cmd.r := by simp
  have e3 : (mcells (hs.set j (mkTurned x a b x.d.cmd.r))).set (j * 26 + 17) (.int .i64 c) = mcells ((hs.set j (mkTurned x a b x.d.cmd.r)).set j (mkTurned x a b c)) := rcells_set mk_len _ j hj2 17 _ _ (by omega) (by rw [g2]; rfl)
  rw [List.set_set] at e3
  rw [e1, e2, e3]
end Go.Proofs.YtohnmaindbgngaaGreatDoor
namespace Go.Proofs.YtohnmaindbgngaaGreatDoor
set_option linter.unusedVariables false
set_option linter.unusedSimpArgs false
open Go.RowKit Go.Shelf

theorem i64_wrap (z : Int) : I64 (wrap64 z) := by
  have hw : (Lit.int .i64 (wrap64 z)).wf = true := wrap64_wf _
  simp [Lit.wf, IntKind.min, IntKind.max, IntKind.signed, IntKind.bits] at hw
  exact ⟨hw.1, by omega⟩
theorem own_cap {w : World} {base e size n c : Nat} {A : Option Addr} {xs : List Value} (h : w.ownsRow base e size (.slice A n c) n xs) : n ≤ c := by
  rcases h.2 with ⟨e1, e2⟩ | ⟨g, cap, cur, e1, hb, hh, hn, hm, hs, ht⟩
  · injection e1 with h1 h2 h3
    omega
  · injection e1 with h1 h2 h3
    omega
theorem own_rdT {w : World} {base e size n q : Nat} {P : Option Addr} {xs : List Value} (h : w.ownsRow base e size (.slice P n q) n xs) : Rd w (fun _ => True) size P n xs := by
  obtain ⟨A, c, hv, hr, -⟩ := own_rd h
  injection hv with h1
  subst h1
  exact hr.weaken fun _ _ => trivial
set_option maxRecDepth 20000 in
set_option maxHeartbeats 1000000 in
theorem turned3_any (base : Nat) (v : Value) (n : Nat) (hs : List MkV) (w : World) (hn : n ≤ 1048576) (hl : hs.length = n) (hown : w.ownsRow base 51 26 v n (mcells hs)) (hfit : ∀ h ∈ hs, MkFit h.d) (hone : ∀ h ∈ hs, MkOne h) (hint : ∀ h ∈ hs, MkInt h.d) (hcmd : ∀ h ∈ hs, InC h.d.cmd) :
    Calls Tryz.prog 10 #[v] w fun e w' => e = .returned (.tuple #[]) ∧ (∃ ks : List MkV, ks.length = n ∧ w'.ownsRow base 51 26 v n (mcells ks) ∧ (∀ h ∈ ks, MkFit h.d) ∧ (∀ h ∈ ks, MkOne h) ∧ (∀ h ∈ ks, MkInt h.d) ∧ (∀ h ∈ ks, InC h.d.cmd) ∧ ∀ W : World, (∀ h ∈ hs, MkOk W (fun _ => True) h) → ∀ h ∈ ks, MkOk W (fun _ => True) h) ∧ Keep (fun k => v.ownBlock ≠ some k) w w' := by
  by_cases h0 : 0 < n
  · obtain ⟨g, c, rfl, -, hgl⟩ := own_form hown h0
    obtain ⟨j, hj⟩ : ∃ j, j = n / 2 := ⟨_, rfl⟩
    have hjn : j < n := by omega
    have hq : (n : Int) / 2 = (j : Int) := by omega
    have hjl : j < hs.length := by omega
    obtain ⟨x, hx⟩ : ∃ x, x = hs[j] := ⟨_, rfl⟩
    have hget : ∀ i (h : i < 26) u, x.cells[i]? = some u → w.cell? ⟨g, j * 26 + i, none⟩ = some u := fun i h u hu => own_cell hown rfl (by rw [rcells_get mk_len hs j hjl i h, ← hx]; exact hu)
    obtain ⟨nn, hnn⟩ : ∃ z, z = x.d.n := ⟨_, rfl⟩
    obtain ⟨sq, hsq⟩ : ∃ z, z = x.d.seq := ⟨_, rfl⟩
    obtain ⟨rq, hrq⟩ : ∃ z, z = x.d.cmd.r := ⟨_, rfl⟩
    have c13 : w.cell? ⟨g, j * 26 + 13, none⟩ = some (.int .i64 nn) := hget 13 (by omega) _ (hnn ▸ rfl)
    have c11 : w.cell? ⟨g, j * 26 + 11, none⟩ = some (.int .i64 sq) := hget 11 (by omega) _ (hsq ▸ rfl)
    have c17 : w.cell? ⟨g, j * 26 + 17, none⟩ = some (.int .i64 rq) := hget 17 (by omega) _ (hrq ▸ rfl)
    have f13 : w.frozen? ⟨g, j * 26 + 13, none⟩ = false := own_frozen hown _ rfl
    have f11 : w.frozen? ⟨g, j * 26 + 11, none⟩ = false := own_frozen hown _ rfl
    have f17 : w.frozen? ⟨g, j * 26 + 17, none⟩ = false := own_frozen hown _ rfl
    have HA := Lib.hid (And.intro hown (And.intro hfit (And.intro hone (And.intro hl (And.intro hx (And.intro hj (And.intro hint hcmd)))))))
    clear hown hfit hone hl hx hget hnn hsq hrq hj hint hcmd
    go_enter Tryz.func10, Tryz.ntmps10
    go_wp2_with fail
    go_end0
    obtain ⟨hown, hfit, hone, hl, hx, -, hint, hcmd⟩ := HA.out
    have hcx := hcmd x (hx ▸ List.getElem_mem hjl)
    have hfx := hfit x (hx ▸ List.getElem_mem hjl)
    have hox := hone x (hx ▸ List.getElem_mem hjl)
    have hix := hint x (hx ▸ List.getElem_mem hjl)
    refine ⟨rfl, ⟨hs.set j (mkTurned x (wrap64 (nn + 1)) (wrap64 (sq + 1)) (wrap64 (rq + 1))), by rw [List.length_set]; exact hl, ?_, fun h hh => ?_, fun h hh => ?_, fun h hh => ?_, fun h hh => ?_, fun W hW h hh => ?_⟩, ?_⟩
    · have o1 := own_set hown rfl (g := g) (i := j * 26 + 13) (by omega) (.int .i64 (wrap64 (nn + 1)))
      have o2 := own_set o1 rfl (g := g) (i := j * 26 + 11) (by omega) (.int .i64 (wrap64 (sq + 1)))
      have o3 := own_set o2 rfl (g := g) (i := j * 26 + 17) (by omega) (.int .i64 (wrap64 (rq + 1)))
      rw [mcells_turned hs j hjl x hx] at o3
      exact o3
    · rcases List.mem_or_eq_of_mem_set hh with h1 | rfl
      · exact hfit h h1
      · have hw := i64_wrap (nn + 1)
        exact ⟨hfx.m, hfx.t, hfx.b, hw.1, hw.2⟩
    · rcases List.mem_or_eq_of_mem_set hh with h1 | rfl
      · exact hone h h1
      · exact hox
    · rcases List.mem_or_eq_of_mem_set hh with h1 | rfl
      · exact hint h h1
      · obtain ⟨i1, i2, i3, i4, i5, i6, i7, i8, i9⟩ := hix
        exact ⟨i1, i2, i3, i4, i5, i6, i7, i64_wrap _, i9⟩
    · rcases List.mem_or_eq_of_mem_set hh with h1 | rfl
      · exact hcmd h h1
      · exact ⟨hcx.c, hcx.i, i64_wrap _, hcx.o, hcx.k, hcx.v, hcx.d⟩
    · rcases List.mem_or_eq_of_mem_set hh with h1 | rfl
      · exact hW h h1
      · have := hW x (hx ▸ List.getElem_mem hjl)
        exact ⟨this.m, this.t, this.b⟩
    · exact (((Keep.refl _ w).setCell (fun _ h => h rfl) _).setCell (fun _ h => h rfl) _).setCell (fun _ h => h rfl) _
  · obtain rfl : n = 0 := by omega
    obtain ⟨A, c, rfl, -⟩ := own_rd hown
    have HA := Lib.hid (And.intro hown (And.intro hfit (And.intro hone (And.intro hl (And.intro hint hcmd)))))
    clear hown hfit hone hl hint hcmd
    go_enter Tryz.func10, Tryz.ntmps10
    go_wp2_with fail
    go_end0
    exact ⟨rfl, ⟨hs, HA.out.2.2.2.1, HA.out.1, HA.out.2.1, HA.out.2.2.1, HA.out.2.2.2.2.1, HA.out.2.2.2.2.2, fun W hW => hW⟩, Keep.refl _ _⟩
end Go.Proofs.YtohnmaindbgngaaGreatDoor
