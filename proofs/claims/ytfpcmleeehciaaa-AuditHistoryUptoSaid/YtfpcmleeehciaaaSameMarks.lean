/-
  WALK OF quorateref02's 'SameMarks', at two lists that hold the same.
-/
import Derived.Test.YtfpcmleeehciaaaSameMark
import Derived.Test.YtfpcmleeehciaaaQuiet
namespace Go.Proofs.Ytfpcmleeehciaaa
set_option linter.unusedVariables false
set_option linter.unusedSimpArgs false
open Go.RowKit

set_option maxRecDepth 20000 in
set_option maxHeartbeats 1000000 in
theorem samemarks_any (Z1 Z2 : Nat → Prop) (A1 A2 : Option Addr) (n c1 c2 : Nat) (hs ks : List MkV) (w : World) (h1 : Mks w Z1 A1 n hs) (h2 : Mks w Z2 A2 n ks) (hd : dsOf hs = dsOf ks) (o1 : ∀ h ∈ hs, MkOk w Z1 h) (o2 : ∀ h ∈ ks, MkOk w Z2 h) :
    Calls Try.prog 19 #[.slice A1 n c1, .slice A2 n c2] w fun e w' => e = .returned (.bool true) ∧ Fresh w w' := by
  have HA := Lib.hid (And.intro h1 (And.intro h2 (And.intro hd (And.intro o1 o2))))
  have hle := h1.le
  clear h1 h2 hd o1 o2
  go_enter Try.func19, Try.ntmps19
  go_wp2
  go_loopw [5] (fun i wr => ∃ (k : Nat), k ≤ n ∧ i = .int .i64 (k : Int) ∧ Hid (Fresh w wr)) (fun i _ => n - (intOf i).toNat)
  case atStart => exact ⟨0, Nat.zero_le _, rfl, Lib.hid (Keep.refl _ _)⟩
  case round =>
    rename World => wr
    obtain ⟨k, hk, rfl, HW⟩ := hrel
    by_cases hlt : k < n
    · obtain ⟨H1, H2, hd, o1, o2⟩ := HA.out
      obtain ⟨b1, f1, rfl, -, l1, r1⟩ := H1.at1 hlt
      obtain ⟨b2, f2, rfl, -, l2, r2⟩ := H2.at1 hlt
      have r1' : ∀ w', Fresh w w' → w'.rangeAt b1 (f1 + k * 26) hs[k].cells := fun w' hw' => rangeAt_keep r1 hw' trivial
      have r2' : ∀ w', Fresh w w' → w'.rangeAt b2 (f2 + k * 26) ks[k].cells := fun w' hw' => rangeAt_keep r2 hw' trivial
      have hde : hs[k].d = ks[k].d := by
        have := congrArg (fun l : List MarkD => l[k]?) hd
        simpa [dsOf, l1, l2] using this
      have hfit := H1.fit _ (List.getElem_mem l1)
      have om := o1 _ (List.getElem_mem l1)
      have on := o2 _ (List.getElem_mem l2)
      obtain ⟨x, hx⟩ : ∃ x, x = hs[k] := ⟨_, rfl⟩
      obtain ⟨y, hy⟩ : ∃ y, y = ks[k] := ⟨_, rfl⟩
      rw [← hx] at r1' hde hfit om
      rw [← hy] at r2' hde on
      have HC := Lib.hid (fun w' (hw' : Fresh w w') => samemark_any Z1 Z2 x y w' hde hfit (om.keep (hw'.weaken fun _ _ _ => trivial)) (on.keep (hw'.weaken fun _ _ _ => trivial)))
      have HR := Lib.hid (And.intro r1' r2')
      clear r1 r2 r1' r2' hde hfit om on hx hy l1 l2 H1 H2 hd o1 o2
      have ha0 : (0 : Int) ≤ (k : Int) := by omega
      have ha1 : (k : Int) < (n : Int) := by omega
      go_wp2_with fail
      have HC2 := Lib.hid (fun (q : Nat) (os : Array Obj) => Calls.regrown_of (w := wr) (d := q) (os := os) ((HC.out _ (HW.out.trans (fresh_regrown wr q os))).mono fun _ _ ⟨he, hf⟩ => ⟨he, hf.below⟩))
      have HR1 := Lib.hid (show ∀ w', (∃ p : Regrown, w' = Go.Sort.grow (redrawn wr p.d) p.os) → w'.rangeAt b1 (f1 + k * 26) x.cells from fun w' hw' => by
        obtain ⟨p, rfl⟩ := hw'
        exact HR.out.1 _ (HW.out.trans (fresh_regrown wr _ _)))
      have HR2 := Lib.hid (show ∀ w', (∃ p : Regrown, w' = Go.Sort.grow (redrawn wr p.d) p.os) → w'.rangeAt b2 (f2 + k * 26) y.cells from fun w' hw' => by
        obtain ⟨p, rfl⟩ := hw'
        exact HR.out.2 _ (HW.out.trans (fresh_regrown wr _ _)))
      refine wp_region_quiet_below (by kernel_rfl) (by kernel_rfl) ?_
      repeat (first
        | (refine wpQuiet_load_mid rfl 50 _ rfl b1 (f1 + k * 26) rfl x.cells _ HR1.out Try.underlying50 rfl (by kernel_rfl) ?_)
        | (refine wpQuiet_load_mid rfl 50 _ rfl b2 (f2 + k * 26) rfl y.cells _ HR2.out Try.underlying50 rfl (by kernel_rfl) ?_)
        | quiet_step (exact HC2.out _ _))
      refine wpQuiet_nil ?_
      intro _ hw'
      obtain ⟨⟨dq, osq⟩, hw''⟩ := hw'
      subst hw''
      go_wp2_with fail
      exact ⟨⟨k + 1, by omega, congrArg _ (by omega), Lib.hid (HW.out.trans (fresh_regrown wr _ _))⟩, by simp [intOf]; omega⟩
    · obtain rfl : k = n := by omega
      go_wp2_with fail
      go_ret
      exact ⟨rfl, HW.out⟩
end Go.Proofs.Ytfpcmleeehciaaa
