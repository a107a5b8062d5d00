/-
  MERGED: AHist
-/
import Derived.Test.YtohnmaindbgngaaGreatDoorQG
import Derived.Test.YtohnmaindbgngaaGreatDoorQH
import Derived.Carry
namespace Go.Proofs.YtohnmaindbgngaaGreatDoor
set_option linter.unusedVariables false
set_option linter.unusedSimpArgs false
open Go.RowKit

theorem int_info : (Tryz.prog.info? 3).map (fun i => (i.zero, i.size, i.bytes)) = some (some (.int .i64 0), 1, 8) := by kernel_rfl
theorem etInt : ET Tryz.prog 23 3 1 8 (.int .i64 0) := ⟨Tryz.underlying23, int_info, rfl, by decide, by decide⟩
/-! ### the keys -/
theorem has_of_at {ps : List Ke} {kl : Lit} {y : DataW Value} (h : ∀ zd, (kD ps).atKey kl zd = y) : Maps.has (kD ps) kl = true := by
  rw [kD_has]
  cases hf : kfind kl ps with
  | some v => rfl
  | none =>
    have h1 := (h (.held (.bool true))).trans (h (.held (.bool false))).symm
    rw [kD_at, kD_at, hf] at h1
    simp at h1
/-! ### the commands -/
theorem own_ne_owned {w : World} {b1 b2 e1 e2 s1 s2 n1 n2 : Nat} {v1 v2 : Value} {xs1 xs2 : List Value} (h1 : w.ownsRow b1 e1 s1 v1 n1 xs1) (h2 : w.ownsRow b2 e2 s2 v2 n2 xs2) (hne : e1 ≠ e2) {k : Nat} (hk : v1.ownBlock = some k) : v2.ownBlock ≠ some k := by
  intro hk2
  rcases h1.2 with ⟨rfl, _⟩ | ⟨g, cap, cur, rfl, _, hh, _⟩
  · simp [Value.ownBlock] at hk
  · rcases h2.2 with ⟨rfl, _⟩ | ⟨g2, cap2, cur2, rfl, _, hh2, _⟩
    · simp [Value.ownBlock] at hk2
    · simp [Value.ownBlock] at hk hk2
      subst hk hk2
      rw [hh] at hh2
      injection hh2 with hh2
      injection hh2 with _ ht
      exact hne ht
end Go.Proofs.YtohnmaindbgngaaGreatDoor
