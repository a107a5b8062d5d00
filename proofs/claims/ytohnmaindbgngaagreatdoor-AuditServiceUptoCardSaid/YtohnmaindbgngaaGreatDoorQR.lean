/-
  MERGED: SrvK
-/
import Derived.Test.YtohnmaindbgngaaGreatDoorQK
namespace Go.Proofs.YtohnmaindbgngaaGreatDoor
set_option linter.unusedVariables false
set_option linter.unusedSimpArgs false
open Go.RowKit

/-- The numbers that come out of memory are ints. -/
structure BdW (s : SrvD) : Prop where
  id : ∀ w p, s.parts w = some p → I64 p.id.1
  plc : ∀ c n, s.place c = some n → I64 n
  fur : ∀ x y, s.furthest x = some y → I64 x
theorem bdw0 : BdW srv0 := ⟨fun _ _ h => (by cases h), fun _ _ h => (by cases h), fun _ _ h => (by cases h)⟩
theorem BdW.part {s : SrvD} (h : BdW s) (m : MarkD) : I64 (s.part m).id.1 := by
  unfold SrvD.part
  split
  · exact ⟨by decide, by decide⟩
  · cases hl : s.parts m.who with
    | none => exact ⟨by decide, by decide⟩
    | some v => exact h.id _ v hl
theorem BdW.setPart {s : SrvD} (h : BdW s) {w : Who} {p : PartD} (hp : I64 p.id.1) : BdW (s.setPart w p) :=
  ⟨fun w' p' h' => by
    by_cases e : w' = w
    · subst e
      simp [SrvD.setPart] at h'
      subst h'
      exact hp
    · simp only [SrvD.setPart, upd_ne _ _ e] at h'
      exact h.id w' p' h', h.plc, h.fur⟩
theorem BdW.doneS {s : SrvD} (h : BdW s) {m : MarkD} {p : PartD} (hp : I64 p.id.1) : BdW (doneS s m p) := by
  cases hv : p.viewed with
  | false =>
    have e : Go.Proofs.YtohnmaindbgngaaGreatDoor.doneS s m p = s.setPart m.who { p with last := m.n, since := false } := by unfold Go.Proofs.YtohnmaindbgngaaGreatDoor.doneS; simp [hv]
    rw [e]
    exact h.setPart hp
  | true =>
    have e : Go.Proofs.YtohnmaindbgngaaGreatDoor.doneS s m p = { s.setPart m.who { p with last := m.n, since := false } with furthest := upd s.furthest p.id.1 (some (max ((s.furthest p.id.1).getD 0) m.n)) } := by unfold Go.Proofs.YtohnmaindbgngaaGreatDoor.doneS; simp [hv]
    rw [e]
    have h1 := h.setPart (w := m.who) (p := { p with last := m.n, since := false }) hp
    refine ⟨h1.id, h1.plc, fun x y hxy => ?_⟩
    simp only at hxy
    by_cases e : x = p.id.1
    · subst e; exact hp
    · rw [upd_ne _ _ e] at hxy
      exact h.fur x y hxy
theorem BdW.joinS {s : SrvD} (h : BdW s) (m : MarkD) (hm : I64 m.n) : BdW (joinS s m).2 := by
  unfold Go.Proofs.YtohnmaindbgngaaGreatDoor.joinS
  split
  · exact h
  · refine ⟨h.id, fun c n hn => ?_, h.fur⟩
    have hn : upd s.place m.cmd (some m.n) c = some n := hn
    by_cases e : c = m.cmd
    · subst e
      rw [upd_self] at hn
      exact Option.some.inj hn ▸ hm
    · rw [upd_ne _ _ e] at hn
      exact h.plc c n hn
theorem BdW.next {vs : List Int} {s : SrvD} {m : MarkD} (h : BdW s) (hm : MkInt m) (hn : I64 m.n) : BdW (serveS vs s m).2 := by
  have hp := h.part m
  have h1 := h.setPart (w := m.who) hp
  unfold serveS
  simp only
  split
  · exact h
  split
  · exact h1.setPart (p := enterD vs m (s.part m)) hm.e1
  split
  · split
    · exact h1
    split
    · exact h1
    · exact h1.setPart (p := { s.part m with adopted := true, since := true }) hp
  split
  · unfold doS
    split
    · exact h1
    · have h2 := h1.setPart (w := m.who) (p := { s.part m with asks := (s.part m).asks + 1, waits := true, pending := m.cmd }) hp
      exact ⟨h2.id, h2.plc, h2.fur⟩
  split
  · unfold applyS
    split
    · exact h1
    · split
      · split
        · exact h1.doneS hp
        · exact h1
      · split
        · exact (h1.joinS m hn).doneS hp
        · exact h1
  split
  · unfold replyS
    split
    · exact h1
    · split
      · exact h1
      · split
        · exact h1
        · split
          · exact h1
          · exact h1.setPart (p := { s.part m with waits := false }) hp
  · exact h1
section
variable {vs : List Int} {s : SrvD} {m : MarkD}
theorem serve_15 (h : m.kind = 15) : serveS vs s m = (0, s) := by unfold serveS; rw [if_pos h]
theorem serve_7 (h : m.kind = 7) : serveS vs s m = (0, (s.setPart m.who (s.part m)).setPart m.who (enterD vs m (s.part m))) := by unfold serveS; simp [h]
theorem serve_10 (h : m.kind = 10) : serveS vs s m = if adoptBad (s.part m) m then (21, s.setPart m.who (s.part m)) else if behind s.furthest m.e1 m.n then (26, s.setPart m.who (s.part m)) else (0, (s.setPart m.who (s.part m)).setPart m.who { s.part m with adopted := true, since := true }) := by unfold serveS; simp [h]; rfl
theorem serve_11 (h : m.kind = 11) : serveS vs s m = doS (s.setPart m.who (s.part m)) m (s.part m) := by unfold serveS; simp [h]
theorem serve_12 (h : m.kind = 12) : serveS vs s m = applyS (s.setPart m.who (s.part m)) m (s.part m) := by unfold serveS; simp [h]
theorem serve_13 (h : m.kind = 13) : serveS vs s m = replyS (s.setPart m.who (s.part m)) m (s.part m) := by unfold serveS; simp [h]
theorem serve_no (h15 : m.kind ≠ 15) (h7 : m.kind ≠ 7) (h10 : m.kind ≠ 10) (h11 : m.kind ≠ 11) (h12 : m.kind ≠ 12) (h13 : m.kind ≠ 13) : serveS vs s m = (0, s.setPart m.who (s.part m)) := by unfold serveS; simp [h15, h7, h10, h11, h12, h13]
end
theorem behind_iff {f : Int → Option Int} {e n : Int} : behind f e n = true ↔ ∃ x y, f x = some y ∧ x < e ∧ n < y := by
  unfold behind
  simp
theorem setPart_same {s : SrvD} {w : Who} {p : PartD} (h : s.parts w = some p) : s.setPart w p = s := by
  unfold SrvD.setPart
  have : upd s.parts w (some p) = s.parts := by
    funext x
    by_cases e : x = w
    · subst e; rw [upd_self, h]
    · rw [upd_ne _ _ e]
  rw [this]
theorem setPart_at (s : SrvD) (w : Who) (p : PartD) : (s.setPart w p).parts w = some p := by simp [SrvD.setPart]
end Go.Proofs.YtohnmaindbgngaaGreatDoor
