/-
  WALKS OF quoratelaw01's 'Loose' and 'Unspoilt'.
-/
import Derived.Test.YtkgbhanpenpkmaaDoorBook
namespace Go.Proofs.YtkgbhanpenpkmaaDoor
set_option linter.unusedVariables false
set_option linter.unusedSimpArgs false
open Go.RowKit

set_option maxRecDepth 20000 in
set_option maxHeartbeats 1000000 in
theorem loose_any (Z : Nat → Prop) (A : Option Addr) (n c : Nat) (bs : List UInt8) (w : World) (hb : Rd w Z 1 A n (Lib.byteCells bs)) (hn : n ≤ 1099511627000) (hnil : n = 0 → c = 0 ∨ A ≠ none) :
    Calls Tryd.prog 12 #[.slice A n c] w fun e w' => (∃ u, e = .returned u ∧ w'.ownsRow w.heap.size 5 1 u (n + 64) (Lib.byteCells (bs ++ pats 7000000 64))) ∧ Fresh w w' := by
  have HB := Lib.hid hb
  have HN := Lib.hid (And.intro hn hnil)
  clear hb hnil
  go_enter Tryd.func12, Tryd.ntmps12
  have hown : (w.alloc (.cells #[] 5)).ownsRow w.heap.size 5 1 (.slice (some ⟨w.heap.size, 0, none⟩) 0 0) 0 [] :=
    ⟨rfl, .inr ⟨w.heap.size, 0, #[], rfl, Nat.le_refl _, heap_alloc_new w _, Nat.le_refl _, by simp only [maxLen]; omega, rfl, rfl⟩⟩
  have HO := Lib.hid hown
  clear hown
  go_wp2_with (at_builtin; refine wpList_app etU8 rfl (.tmp 5) (.tmp 6) rfl w.heap.size _ _ _ rfl HO.out Z A n c _ rfl (HB.out.keep (((Keep.refl Z w).alloc _))) HN.out.2 (bcs_one _) (by have := HN.out.1; omega) (by simp) ?_)
  intro v' w' ho hk hnx
  have hf : Fresh w w' := ((Keep.refl _ w).alloc _).comp hk (fun _ _ h => h) (fun i hi _ => by simp [Value.ownBlock]; omega)
  have HX := Lib.hid (And.intro ho hf)
  clear ho hk hnx hf HO HB
  go_wp2
  go_loopw [3, 4] (fun tl i wr => ∃ k : Nat, k ≤ 64 ∧ i = .int .i64 (k : Int) ∧ Hid (wr.ownsRow w.heap.size 5 1 tl (n + k) (Lib.byteCells (bs ++ pats 7000000 k)) ∧ Fresh w wr)) (fun _ i _ => 64 - (intOf i).toNat)
  case atStart => exact ⟨0, Nat.zero_le _, rfl, by rw [show bs ++ pats 7000000 0 = bs by simp [pats]]; exact HX.out⟩
  case round =>
    obtain ⟨k, hk, rfl, HW⟩ := hrel
    by_cases hlt : k < 64
    · obtain ⟨z, hz⟩ : ∃ z : Int, z = ((pat 7000000 k).toNat : Int) := ⟨_, rfl⟩
      have HP := Pat_any 7000000 k (by omega)
      rw [← hz] at HP
      replace HP := Lib.hid HP
      replace hz := Lib.hid hz
      go_wp2_with fail
      refine (HP.out _).mono ?_
      rintro e _ ⟨rfl, rfl⟩
      have HB := Lib.hid HW.out.2.size
      have HO := Lib.hid HW.out.1
      go_wp2_with (at_builtin; refine wpList_app1 etU8 rfl (.tmp 12) (.tmp 15) rfl _ _ rfl w.heap.size _ (n + k) _ rfl rfl HO.out ?_ HB.out ?_)
      case refine_1 => omega
      intro v1 w1 ho1 hk1 hn1
      have hrow : w1.ownsRow w.heap.size 5 1 v1 (n + (k + 1)) (Lib.byteCells (bs ++ pats 7000000 (k + 1))) := by
        rw [pats_succ, ← List.append_assoc, Lib.byteCells_append]
        have e : Lib.byteCells [pat 7000000 k] = [.int .u8 z] := by rw [hz.out]; rfl
        rw [e]
        exact ho1
      have hfr : Fresh w w1 := HW.out.2.comp hk1 (fun _ _ h => h) (fun i hi _ e => by have := (own_lt HW.out.1 e).1; omega)
      have HN := Lib.hid (And.intro hrow hfr)
      clear hrow hfr ho1 hk1 hn1 HW HP
      go_wp2
      exact ⟨⟨k + 1, by omega, congrArg _ (by omega), HN.out⟩, by simp [intOf]; omega⟩
    · obtain rfl : k = 64 := by omega
      go_wp2
      go_ret
      exact ⟨⟨_, rfl, HW.out.1⟩, HW.out.2⟩

set_option maxRecDepth 20000 in
set_option maxHeartbeats 1000000 in
theorem unspoilt_any (Z : Nat → Prop) (base g c1 : Nat) (A : Option Addr) (n c : Nat) (bs : List UInt8) (w : World) (h1 : w.ownsRow base 5 1 (.slice (some ⟨g, 0, none⟩) (n + 64) c1) (n + 64) (Lib.byteCells (bs ++ pats 7000000 64)))
    (hb : Rd w Z 1 A n (Lib.byteCells bs)) (hn : n ≤ 1099511627000) :
    Calls Tryd.prog 17 #[.slice (some ⟨g, 0, none⟩) (n + 64) c1, .slice A n c] w fun e w' => e = .returned (.bool true) ∧ ∃ k, w' = w.drewN k := by
  have hl : bs.length = n := by simpa [Lib.byteCells] using hb.1
  have HA := Lib.hid (And.intro h1 (And.intro hb hl))
  clear h1 hb hl
  go_enter Tryd.func17, Tryd.ntmps17
  go_wp2
  go_loopw [5] (fun i wr => ∃ k d : Nat, k ≤ n ∧ i = .int .i64 (k : Int) ∧ wr = w.drewN d) (fun i _ => n - (intOf i).toNat)
  case atStart => exact ⟨0, 0, Nat.zero_le _, rfl, rfl⟩
  case round =>
    obtain ⟨k, d, hk, rfl, rfl⟩ := hrel
    by_cases hlt : k < n
    · obtain ⟨h1, hb, hl⟩ := HA.out
      obtain ⟨b2, o2, z, rfl, -, g2, hz, x2⟩ := hb.byte hlt
      have x1 := own_byte (z := z) (k := k) h1 (by rw [List.length_append]; omega) (by rw [hz, List.getElem_append_left g2])
      clear h1 hb hl hz g2
      go_wp2_with fail
      go_quiet (fail)
      go_wp2_with fail
      exact ⟨⟨k + 1, _, by omega, congrArg _ (by omega), rfl⟩, by simp [intOf]; omega⟩
    · go_wp2_with fail
      go_loopw [6] (fun i wr => ∃ k d : Nat, k ≤ 64 ∧ i = .int .i64 (k : Int) ∧ wr = w.drewN d) (fun i _ => 64 - (intOf i).toNat)
      case atStart => exact ⟨0, d, Nat.zero_le _, rfl, rfl⟩
      case round =>
        obtain ⟨k3, d3, hk3, rfl, rfl⟩ := hrel
        by_cases hlt3 : k3 < 64
        · obtain ⟨h1, hb, hl⟩ := HA.out
          obtain ⟨z, hz⟩ : ∃ z : Int, z = ((pat 7000000 k3).toNat : Int) := ⟨_, rfl⟩
          have HQ := fun m => Pat_any 7000000 k3 (by omega) (w.drewN m)
          rw [← hz] at HQ
          replace HQ := Lib.hid HQ
          have x2 := own_byte (z := z) (k := n + k3) h1 (by rw [List.length_append, pats_len]; omega) (by rw [hz, List.getElem_append_right (by omega)]; rw [pats_get]; congr 3; omega)
          clear h1 hb hl hz
          go_wp2_with fail
          go_quiet ((go_at_call 30; exact quiet_add_left (HQ.out _)))
          go_wp2_with fail
          exact ⟨⟨k3 + 1, _, by omega, congrArg _ (by omega), rfl⟩, by simp [intOf]; omega⟩
        · go_wp2_with fail
          go_ret
          exact ⟨rfl, _, rfl⟩
end Go.Proofs.YtkgbhanpenpkmaaDoor
