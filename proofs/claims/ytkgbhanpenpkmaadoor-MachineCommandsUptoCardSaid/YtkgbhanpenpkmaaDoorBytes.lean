/-
  WALKS OF quorateref01's 'SameBytes', 'Copied', quoratelaw13's 'num'.
-/
import Derived.Test.YtkgbhanpenpkmaaDoorPut
namespace Go.Proofs.YtkgbhanpenpkmaaDoor
set_option linter.unusedVariables false
set_option linter.unusedSimpArgs false
open Go.RowKit

theorem num_any (z : Int) (w : World) : Calls Tryd.prog 6 #[.int .i64 z] w fun e w' => e = .returned (.int .i64 z) ∧ w = w' := by
  go_enter Tryd.func6, Tryd.ntmps6
  go_wp2
  go_ret
  exact ⟨rfl, rfl⟩

set_option maxHeartbeats 400000 in
theorem copied_any (Z : Nat → Prop) (A : Option Addr) (n c : Nat) (bs : List UInt8) (w : World) (hb : Rd w Z 1 A n (Lib.byteCells bs)) (hn : n ≤ 1099511627770) (hnil : n = 0 → c = 0 ∨ A ≠ none) :
    Calls Tryd.prog 19 #[.slice A n c] w fun e w' => (∃ u, e = .returned u ∧ w'.ownsRow w.heap.size 5 1 u n (Lib.byteCells bs)) ∧ Fresh w w' := by
  have HB := Lib.hid hb
  have HN := Lib.hid (And.intro hn hnil)
  clear hb hn hnil
  go_enter Tryd.func19, Tryd.ntmps19
  have hown : (w.alloc (.cells #[] 5)).ownsRow w.heap.size 5 1 (.slice (some ⟨w.heap.size, 0, none⟩) 0 0) 0 [] :=
    ⟨rfl, .inr ⟨w.heap.size, 0, #[], rfl, Nat.le_refl _, heap_alloc_new w _, Nat.le_refl _, by simp only [maxLen]; omega, rfl, rfl⟩⟩
  have HO := Lib.hid hown
  clear hown
  go_wp2_with (at_builtin; refine wpList_app etU8 rfl (.tmp 3) (.tmp 4) rfl w.heap.size _ _ _ rfl HO.out Z A n c _ rfl (HB.out.keep (((Keep.refl Z w).alloc _))) HN.out.2 (bcs_one _) (by have := HN.out.1; omega) (by simp) ?_)
  intro v' w' ho hk hnx
  have HX := Lib.hid (And.intro ho hk)
  clear ho hk hnx
  go_wp2
  go_ret
  refine ⟨⟨_, rfl, ?_⟩, ?_⟩
  · have := HX.out.1
    simpa using this
  · exact ((Keep.refl _ w).alloc _).comp HX.out.2 (fun _ _ h => h) (fun i hi _ => by simp [Value.ownBlock]; omega)

/-- The k-th byte of a slice, for the walk. -/
theorem Rd.byte {w : World} {Z : Nat → Prop} {A : Option Addr} {n k : Nat} {bs : List UInt8} (h : Rd w Z 1 A n (Lib.byteCells bs)) (hk : k < n) :
    ∃ b o x, A = some ⟨b, o, none⟩ ∧ Z b ∧ ∃ (hl : k < bs.length), x = (bs[k].toNat : Int) ∧ w.cell? ⟨b, o + k, none⟩ = some (.int .u8 x) := by
  obtain ⟨b, o, hA, hz, hl, hc⟩ := h.at1 hk
  have hl2 : k < bs.length := by simpa [Lib.byteCells] using hl
  exact ⟨b, o, _, hA, hz, hl2, rfl, by rw [hc]; simp [Lib.byteCells]⟩
theorem take_eq_step {l m : List UInt8} {k : Nat} (h : l.take k = m.take k) (hl : k < l.length) (hm : k < m.length) (he : l[k] = m[k]) : l.take (k + 1) = m.take (k + 1) := by
  rw [List.take_succ_eq_append_getElem hl, List.take_succ_eq_append_getElem hm, h, he]
theorem toNat_inj {a b : UInt8} (h : (a.toNat : Int) = (b.toNat : Int)) : a = b := UInt8.toNat_inj.1 (by omega)

set_option maxHeartbeats 400000 in
theorem same_any (Z1 Z2 : Nat → Prop) (A1 A2 : Option Addr) (n1 c1 n2 c2 : Nat) (bs1 bs2 : List UInt8) (w : World) (h1 : Rd w Z1 1 A1 n1 (Lib.byteCells bs1)) (h2 : Rd w Z2 1 A2 n2 (Lib.byteCells bs2)) (hn : n1 ≤ 1099511627770) (hn2 : n2 ≤ 1099511627770) :
    Calls Tryd.prog 11 #[.slice A1 n1 c1, .slice A2 n2 c2] w fun e w' => e = .returned (.bool (decide (bs1 = bs2))) ∧ ∃ k, w' = w.drewN k := by
  have hl1 : bs1.length = n1 := by simpa [Lib.byteCells] using h1.1
  have hl2 : bs2.length = n2 := by simpa [Lib.byteCells] using h2.1
  obtain ⟨r, hr⟩ : ∃ r, r = decide (bs1 = bs2) := ⟨_, rfl⟩
  rw [← hr]
  by_cases hne : n1 = n2
  · subst hne
    have HA := Lib.hid (And.intro h1 (And.intro h2 (And.intro hl1 (And.intro hl2 hr))))
    clear h1 h2 hl1 hl2 hr
    go_enter Tryd.func11, Tryd.ntmps11
    go_wp2
    go_loopw [5] (fun i wr => ∃ (k d : Nat), k ≤ n1 ∧ i = .int .i64 (k : Int) ∧ wr = w.drewN d ∧ Hid (bs1.take k = bs2.take k)) (fun i _ => n1 - (intOf i).toNat)
    case atStart => exact ⟨0, 0, Nat.zero_le _, rfl, rfl, rfl⟩
    case round =>
      obtain ⟨k, d, hk, rfl, rfl, HW⟩ := hrel
      by_cases hlt : k < n1
      · obtain ⟨b1, o1, x, rfl, -, g1, hx, e1⟩ := HA.out.1.byte hlt
        obtain ⟨b2, o2, y, rfl, -, g2, hy, e2⟩ := HA.out.2.1.byte hlt
        have HX := Lib.hid (And.intro hx hy)
        clear hx hy
        by_cases hxy : x = y
        · have hs := take_eq_step HW.out g1 g2 (toNat_inj (by rw [← HX.out.1, ← HX.out.2, hxy]))
          have HS := Lib.hid hs
          clear hs HX HW g1 g2
          go_wp2_with fail
          go_quiet (fail)
          go_wp2_with fail
          exact ⟨⟨k + 1, _, by omega, congrArg _ (by omega), rfl, HS.out⟩, by simp [intOf]; omega⟩
        · have hf : r = false := by
            rw [HA.out.2.2.2.2]
            refine decide_eq_false fun h => hxy ?_
            subst h
            rw [HX.out.1, HX.out.2]
          clear HX HW g1 g2
          subst hf
          go_wp2_with fail
          go_quiet (fail)
          go_wp2_with fail
          go_ret
          exact ⟨rfl, _, World.drewN_drewN _ _ _⟩
      · obtain rfl : k = n1 := by omega
        have ht : r = true := by
          rw [HA.out.2.2.2.2]
          have := HW.out
          rw [List.take_of_length_le (by rw [HA.out.2.2.1]; exact Nat.le_refl _), List.take_of_length_le (by rw [HA.out.2.2.2.1]; exact Nat.le_refl _)] at this
          exact decide_eq_true this
        subst ht
        clear HW
        go_wp2_with fail
        go_ret
        exact ⟨rfl, _, rfl⟩
  · have hf : r = false := by
      rw [hr]
      exact decide_eq_false fun h => hne (by rw [← hl1, ← hl2, h])
    subst hf
    have hne' : ¬ ((n1 : Int) = (n2 : Int)) := by omega
    clear hr h1 h2 hl1 hl2
    go_enter Tryd.func11, Tryd.ntmps11
    go_wp2_with fail
    go_ret
    exact ⟨rfl, 0, rfl⟩
end Go.Proofs.YtkgbhanpenpkmaaDoor
