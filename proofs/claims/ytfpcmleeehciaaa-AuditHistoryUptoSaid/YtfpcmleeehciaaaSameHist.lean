/-
  WALK OF quoratelaw17's 'sameHistory'.
-/
import Derived.Test.YtfpcmleeehciaaaHist
namespace Go.Proofs.Ytfpcmleeehciaaa
set_option linter.unusedVariables false
set_option linter.unusedSimpArgs false
open Go.RowKit

theorem cmd_cells_at {Z : Nat → Prop} {A : Option Addr} {n : Nat} {cs : List CmdD} {w : World} (h : Rd w Z 7 A n (ccells cs)) (hl : cs.length = n) {k : Nat} (hk : k < n) :
    ∃ b o, A = some ⟨b, o, none⟩ ∧ Z b ∧ ∃ hl : k < cs.length, w.rangeAt b (o + k * 7) cs[k].cells := by
  have hk' : k < cs.length := by rw [hl]; exact hk
  obtain ⟨b, o, hA, hz, hr⟩ := Rd.range cmd_seven h hk' hk
  exact ⟨b, o, hA, hz, hk', hr⟩
set_option maxRecDepth 20000 in
set_option maxHeartbeats 400000 in
theorem samehist_any (Z1 Z2 : Nat → Prop) (A1 A2 : Option Addr) (n c1 c2 : Nat) (cs : List CmdD) (w : World) (hl : cs.length = n) (h1 : Rd w Z1 7 A1 n (ccells cs)) (h2 : Rd w Z2 7 A2 n (ccells cs)) (hn : n ≤ 1099511627770) :
    Calls Try.prog 14 #[.slice A1 n c1, .slice A2 n c2] w fun e w' => e = .returned (.bool true) ∧ ∃ k, w' = w.drewN k := by
  have HA := Lib.hid (And.intro h1 (And.intro h2 hl))
  clear h1 h2 hl
  go_enter Try.func14, Try.ntmps14
  go_wp2
  go_loopw [5] (fun i wr => ∃ (k d : Nat), k ≤ n ∧ i = .int .i64 (k : Int) ∧ wr = w.drewN d) (fun i _ => n - (intOf i).toNat)
  case atStart => exact ⟨0, 0, Nat.zero_le _, rfl, rfl⟩
  case round =>
    obtain ⟨k, d, hk, rfl, rfl⟩ := hrel
    by_cases hlt : k < n
    · obtain ⟨b1, o1, rfl, -, l1, r1⟩ := cmd_cells_at HA.out.1 HA.out.2.2 hlt
      obtain ⟨b2, o2, rfl, -, l2, r2⟩ := cmd_cells_at HA.out.2.1 HA.out.2.2 hlt
      obtain ⟨x, hx⟩ : ∃ x, x = cs[k] := ⟨_, rfl⟩
      rw [← hx] at r1 r2
      clear hx l1 l2
      obtain ⟨x1, x2, x3, x4, x5, x6, x7⟩ := x
      have p0 : w.cell? ⟨b1, o1 + k * 7, none⟩ = some (.int .i64 x1) := r1 0 _ rfl
      have p1 : w.cell? ⟨b1, o1 + k * 7 + 1, none⟩ = some (.int .i64 x2) := r1 1 _ rfl
      have p2 : w.cell? ⟨b1, o1 + k * 7 + 2, none⟩ = some (.int .i64 x3) := r1 2 _ rfl
      have p3 : w.cell? ⟨b1, o1 + k * 7 + 3, none⟩ = some (.int .i64 x4) := r1 3 _ rfl
      have p4 : w.cell? ⟨b1, o1 + k * 7 + 4, none⟩ = some (tx x5) := r1 4 _ rfl
      have p5 : w.cell? ⟨b1, o1 + k * 7 + 5, none⟩ = some (tx x6) := r1 5 _ rfl
      have p6 : w.cell? ⟨b1, o1 + k * 7 + 6, none⟩ = some (tx x7) := r1 6 _ rfl
      have q0 : w.cell? ⟨b2, o2 + k * 7, none⟩ = some (.int .i64 x1) := r2 0 _ rfl
      have q1 : w.cell? ⟨b2, o2 + k * 7 + 1, none⟩ = some (.int .i64 x2) := r2 1 _ rfl
      have q2 : w.cell? ⟨b2, o2 + k * 7 + 2, none⟩ = some (.int .i64 x3) := r2 2 _ rfl
      have q3 : w.cell? ⟨b2, o2 + k * 7 + 3, none⟩ = some (.int .i64 x4) := r2 3 _ rfl
      have q4 : w.cell? ⟨b2, o2 + k * 7 + 4, none⟩ = some (tx x5) := r2 4 _ rfl
      have q5 : w.cell? ⟨b2, o2 + k * 7 + 5, none⟩ = some (tx x6) := r2 5 _ rfl
      have q6 : w.cell? ⟨b2, o2 + k * 7 + 6, none⟩ = some (tx x7) := r2 6 _ rfl
      clear r1 r2
      go_wp2_with fail
      go_quiet (fail)
      go_wp2_with fail
      exact ⟨⟨k + 1, _, by omega, congrArg _ (by omega), rfl⟩, by simp [intOf]; omega⟩
    · obtain rfl : k = n := by omega
      go_wp2_with fail
      go_ret
      exact ⟨rfl, _, rfl⟩
end Go.Proofs.Ytfpcmleeehciaaa
