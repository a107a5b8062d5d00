/-
  MERGED: RNum RCheck OnceM Close OpenCmds
-/
import Derived.Test.YtlibhkehebioeaaGreatDoorO13
import Derived.Test.YtlibhkehebioeaaGreatDoorO4
import Derived.Deep.MidRow
import Derived.BigQuiet
import Derived.Deep.RegionHeld3
import Derived.Test.YtlibhkehebioeaaGreatDoorO1
import Derived.Carry
import Derived.ChangeVars
import Derived.WalkLawsBesides
import Derived.ChangeSame
import Derived.OpenShut
import Derived.Deep.DeepHandedRow
import Derived.Lib.SmallJoins
import Derived.ProofKit
import Derived.Deep.Slices
namespace Go.Proofs.YtlibhkehebioeaaGreatDoor
set_option linter.unusedVariables false
set_option linter.unusedSimpArgs false
open Go.RowKit

/-- The k-th byte of a text, for the walk. -/
theorem str_byte (l : List UInt8) (s : ByteArray) (hs : s = ByteArray.mk l.toArray) (k : Nat) (hk : k < l.length) (h : k < s.size) : (s[k]'h).toNat = l[k].toNat := by subst hs; rfl
/-- A byte of a text, for the walk to take. -/
theorem idx_str (s : ByteArray) (k : Nat) (z x : Int) (hk : k < s.size) (hz : z = (k : Int)) (hx : ((s[k]'hk).toNat : Int) = x) (w : World) :
    (Instr.index 9 (.string s) (.int .i64 z)).run Tryz.prog w = .ok (.int .u8 x) w := by
  subst hz hx
  rw [run_index_string w 9 _ .i64 _ Tryz.underlying9, dif_pos ⟨by omega, by omega⟩]
  simp only [Int.toNat_natCast]
theorem drop_cons {l : List UInt8} {k : Nat} (hk : k < l.length) : l.drop k = l[k] :: l.drop (k + 1) := List.drop_eq_getElem_cons hk
theorem rdig_none {l : List UInt8} {i0 : Nat} {neg : Bool} (h : l.length ≤ i0) : rdig l (l.drop i0) neg = (0, false) := by
  rw [List.drop_of_length_le h]; rfl
theorem rdig_lead {l : List UInt8} {i0 : Nat} {neg : Bool} (h : i0 < l.length) (hc : l[i0].toNat < 49 ∨ 57 < l[i0].toNat) : rdig l (l.drop i0) neg = (0, false) := by
  rw [drop_cons h, rdig, if_pos hc]
theorem rdig_dec {l : List UInt8} {i0 : Nat} {neg : Bool} (h : i0 < l.length) (hc : ¬ (l[i0].toNat < 49 ∨ 57 < l[i0].toNat)) : rdig l (l.drop i0) neg = match Lib.decFrom 0 (l.drop i0) with
    | none => (0, false)
    | some m => (if neg = true then -(m : Int) else (m : Int), true) := by
  rw [drop_cons h, rdig, if_neg hc]
  rfl
theorem decFrom_bad {xs ys : List UInt8} {b : UInt8} {a m : Nat} (h : Lib.decFrom a xs = some m) (hb : Lib.digitVal b = none) : Lib.decFrom a (xs ++ b :: ys) = none := by
  rw [decFrom_append, h]
  simp [Lib.decFrom, hb]
theorem take_drop_step {l : List UInt8} {i0 k : Nat} (hi : i0 ≤ k) (hk : k < l.length) : (l.drop i0).take (k + 1 - i0) = (l.drop i0).take (k - i0) ++ [l[k]] := by
  rw [show k + 1 - i0 = (k - i0) + 1 by omega, List.take_succ_eq_append_getElem (by simp; omega)]
  congr 2
  simp only [List.getElem_drop]
  congr 1
  omega
theorem drop_split {l : List UInt8} {i0 k : Nat} (hi : i0 ≤ k) (hk : k < l.length) : l.drop i0 = (l.drop i0).take (k - i0) ++ l[k] :: l.drop (k + 1) := by
  have h := (List.take_append_drop (k - i0) (l.drop i0)).symm
  rw [List.drop_drop, show i0 + (k - i0) = k by omega, drop_cons hk] at h
  exact h
theorem decFrom_small {l : List UInt8} {i0 k m : Nat} (h : Lib.decFrom 0 ((l.drop i0).take (k - i0)) = some m) (hl : l.length ≤ 8) : m < 100000000 := by
  have h1 := Lib.decFrom_lt _ _ _ h
  have h2 : ((l.drop i0).take (k - i0)).length ≤ 8 := by simp; omega
  have h3 : 10 ^ ((l.drop i0).take (k - i0)).length ≤ 10 ^ 8 := Nat.pow_le_pow_right (by decide) h2
  omega

set_option maxRecDepth 20000 in
set_option maxHeartbeats 2000000 in
theorem rnumber_any (l : List UInt8) (w : World) : Calls Tryz.prog 45 #[str l] w fun e w' => e = .returned (.tuple #[.int .i64 (rnum l).1, .bool (rnum l).2]) ∧ w = w' := by
  obtain ⟨t, ht⟩ : ∃ t, t = rnum l := ⟨_, rfl⟩
  rw [← ht]
  unfold rnum at ht
  by_cases hl : l.length = 0 ∨ 8 < l.length
  · rw [if_pos hl] at ht
    subst ht
    rcases hl with hl | hl
    · obtain rfl : l = [] := List.eq_nil_of_length_eq_zero hl
      clear hl
      go_enter Tryz.func45, Tryz.ntmps45
      go_wp2_with fail
      all_goals
        go_ret2
        exact ⟨rfl, rfl⟩
    · have h8 : (8 : Int) < (l.length : Int) := by omega
      clear hl
      go_enter Tryz.func45, Tryz.ntmps45
      go_wp2_with fail
      all_goals
        go_ret2
        exact ⟨rfl, rfl⟩
  · rw [if_neg hl] at ht
    by_cases hz : l = [48]
    · rw [if_pos hz] at ht
      subst hz ht
      clear hl
      go_enter Tryz.func45, Tryz.ntmps45
      go_wp2_with fail
      all_goals
        go_ret2
        exact ⟨rfl, rfl⟩
    · rw [if_neg hz] at ht
      obtain ⟨s, hs⟩ : ∃ s : ByteArray, s = ByteArray.mk l.toArray := ⟨_, rfl⟩
      have hsl : s.size = l.length := by rw [hs]; rfl
      have h0 : 0 < s.size := by omega
      obtain ⟨x0, hx0⟩ : ∃ x0 : Int, ((s[0]'h0).toNat : Int) = x0 := ⟨_, rfl⟩
      have ht2 : t = if x0 = 45 then rdig l (l.drop 1) true else rdig l (l.drop 0) false := by
        cases l with
        | nil => simp at hl
        | cons b r =>
          rw [ht]
          have e : (b = 45) = (x0 = 45) := by
            subst hs
            rw [← hx0]
            apply propext
            constructor
            · rintro rfl; rfl
            · intro h
              have h : (b.toNat : Int) = 45 := h
              exact UInt8.toNat_inj.1 (by rw [show b.toNat = 45 by omega]; rfl)
          simp only [e]
          rfl
      have g0 : (0 : Int) < (s.size : Int) := by omega
      have g8 : (s.size : Int) ≤ 8 := by omega
      have q1 : ¬ (s = ByteArray.mk #[48]) := fun h => hz (by rw [hs] at h; injection h with h; simpa using congrArg Array.toList h)
      have q2 : ((s.size : Int) == 0) = false := beq_eq_false_iff_ne.2 (by omega)
      have q4 : (s.toList == [48]) = false := by rw [hs]; simpa using hz
      rw [show str l = Value.string s by rw [hs]]
      have HL := Lib.hid (And.intro hl (And.intro hs hsl))
      clear hs hsl
      have i0 := idx_str s 0 0 x0 h0 rfl hx0 w
      replace hx0 := Lib.hid hx0
      have HT := Lib.hid ht2
      clear hl ht ht2
      by_cases hx : x0 = 45
      · have hT2 := HT.out
        rw [if_pos hx] at hT2
        have hx45 : (s[0]'h0).toNat = 45 := by have := hx0.out; omega
        clear hx0
        subst hx
        clear hx45
        by_cases h1 : l.length ≤ 1
        · rw [rdig_none h1] at hT2
          have g1 : (s.size : Int) ≤ 1 := by have := HL.out.2.2; omega
          subst hT2
          clear h1 HT
          go_enter Tryz.func45, Tryz.ntmps45
          go_wp2_with fail
          all_goals
            go_ret2
            exact ⟨rfl, rfl⟩
        · have h1' : 1 < s.size := by have := HL.out.2.2; omega
          have g1 : (1 : Int) < (s.size : Int) := by omega
          obtain ⟨x1, hx1⟩ : ∃ x1 : Int, ((s[1]'h1').toNat : Int) = x1 := ⟨_, rfl⟩
          have i1 := idx_str s 1 1 x1 h1' rfl hx1 w
          by_cases hc : x1 < 49 ∨ 57 < x1
          · have hl1 : 1 < l.length := by have := HL.out.2.2; omega
            rw [rdig_lead hl1 (by rw [← str_byte l s HL.out.2.1 1 hl1 h1']; omega)] at hT2
            subst hT2
            clear h1 HT hx1
            rcases hc with hc | hc
            all_goals
              go_enter Tryz.func45, Tryz.ntmps45
              go_wp2_with fail
              all_goals
                go_ret2
                exact ⟨rfl, rfl⟩
          · have hl1 : 1 < l.length := by have := HL.out.2.2; omega
            rw [rdig_dec hl1 (by rw [← str_byte l s HL.out.2.1 1 hl1 h1']; omega)] at hT2
            have HT2 := Lib.hid hT2
            have c1 : 49 ≤ x1 := by omega
            have c2 : x1 ≤ 57 := by omega
            clear hc hT2 h1 HT hx1
            go_enter Tryz.func45, Tryz.ntmps45
            go_wp2_with fail
            clear i0 i1
            go_loopw [5, 6] (fun a i wr => ∃ (k : Nat) (z : Int), 1 ≤ k ∧ k ≤ s.size ∧ i = .int .i64 (k : Int) ∧ a = .int .i64 z ∧ wr = w ∧ Hid (∃ m : Nat, z = (m : Int) ∧ Lib.decFrom 0 ((l.drop 1).take (k - 1)) = some m)) (fun _ i _ => s.size - (intOf i).toNat)
            case atStart => exact ⟨1, 0, by omega, by omega, rfl, rfl, rfl, Lib.hid ⟨0, rfl, by simp [Lib.decFrom]⟩⟩
            case round =>
              obtain ⟨k, z, hk1, hk, rfl, rfl, rfl, HW⟩ := hrel
              by_cases hlt : k < s.size
              · obtain ⟨x, hx⟩ : ∃ x : Int, ((s[k]'hlt).toNat : Int) = x := ⟨_, rfl⟩
                have hll : k < l.length := by have := HL.out.2.2; omega
                have ik := idx_str s k _ x hlt rfl hx wr
                obtain ⟨hz0, hz9⟩ : 0 ≤ z ∧ z < 100000000 := by
                  obtain ⟨m, hm, hW⟩ := HW.out
                  have := decFrom_small hW (by have := HL.out.1; omega)
                  omega
                by_cases hd : 48 ≤ x ∧ x ≤ 57
                · obtain ⟨hd1, hd2⟩ := hd
                  obtain ⟨y, hy⟩ : ∃ y : Nat, x = (y : Int) + 48 := ⟨(x - 48).toNat, by omega⟩
                  have hv : Lib.digitVal l[k] = some y := by
                    have := str_byte l s HL.out.2.1 k hll hlt
                    unfold Lib.digitVal
                    rw [if_pos (by omega)]
                    congr 1
                    omega
                  have hs : ∃ m : Nat, 10 * z + (x - 48) = (m : Int) ∧ Lib.decFrom 0 ((l.drop 1).take (k + 1 - 1)) = some m := by
                    obtain ⟨m, hm, hW⟩ := HW.out
                    refine ⟨10 * m + y, by omega, ?_⟩
                    rw [take_drop_step hk1 hll, decFrom_append, hW]
                    simp [Lib.decFrom, hv, Nat.mul_comm]
                  have HS := Lib.hid hs
                  have HY := Lib.hid hy
                  clear hs hv HW hx hy
                  go_wp2_with fail
                  have hy := HY.out
                  refine ⟨⟨k + 1, 10 * z + (x - 48), by omega, by omega, congrArg _ (by omega), congrArg _ (by omega), (by simp), HS⟩, by simp [intOf]; omega⟩
                · have hv : Lib.digitVal l[k] = none := by
                    have := str_byte l s HL.out.2.1 k hll hlt
                    unfold Lib.digitVal
                    rw [if_neg (by omega)]
                  have hT : t = (0, false) := by
                    obtain ⟨m, hm, hW⟩ := HW.out
                    rw [HT2.out, drop_split hk1 hll, decFrom_bad hW hv]
                  subst hT
                  clear hv HW HT2 hx
                  by_cases hd1 : x < 48
                  all_goals
                    go_wp2_with fail
                    all_goals
                      go_ret2
                      exact ⟨rfl, rfl⟩
              · have hT : t = (-z, true) := by
                  rw [HT2.out]
                  obtain ⟨m, hm, this⟩ := HW.out
                  rw [List.take_of_length_le (by have := HL.out.2.2; simp; omega)] at this
                  rw [this, hm]
                  simp
                subst hT
                clear HT2
                obtain ⟨hz0, hz9⟩ : 0 ≤ z ∧ z < 100000000 := by
                  obtain ⟨m, hm, hW⟩ := HW.out
                  have := decFrom_small hW (by have := HL.out.1; omega)
                  omega
                clear HW
                go_wp2_with fail
                go_ret2
                exact ⟨rfl, rfl⟩
      · have hT2 := HT.out
        rw [if_neg hx] at hT2
        have q5 : (x0 == 45) = false := by simpa using hx
        have q6 : ¬ (s = ByteArray.empty) := by rintro rfl; simp at h0
        have h1' : 0 < s.size := h0
        by_cases hc : x0 < 49 ∨ 57 < x0
        · have hl1 : 0 < l.length := by have := HL.out.2.2; omega
          rw [rdig_lead hl1 (by rw [← str_byte l s HL.out.2.1 0 hl1 h1']; have := hx0.out; omega)] at hT2
          subst hT2
          clear HT hx0
          rcases hc with hc | hc
          all_goals
            go_enter Tryz.func45, Tryz.ntmps45
            go_wp2_with fail
            all_goals
              go_ret2
              exact ⟨rfl, rfl⟩
        · have hl1 : 0 < l.length := by have := HL.out.2.2; omega
          rw [rdig_dec hl1 (by rw [← str_byte l s HL.out.2.1 0 hl1 h1']; have := hx0.out; omega)] at hT2
          have HT2 := Lib.hid hT2
          have c1 : 49 ≤ x0 := by omega
          have c2 : x0 ≤ 57 := by omega
          clear hc hT2 HT
          · go_enter Tryz.func45, Tryz.ntmps45
            go_wp2_with fail
            clear i0
            go_loopw [5, 6] (fun a i wr => ∃ (k : Nat) (z : Int), 0 ≤ k ∧ k ≤ s.size ∧ i = .int .i64 (k : Int) ∧ a = .int .i64 z ∧ wr = w ∧ Hid (∃ m : Nat, z = (m : Int) ∧ Lib.decFrom 0 ((l.drop 0).take (k - 0)) = some m)) (fun _ i _ => s.size - (intOf i).toNat)
            case atStart => exact ⟨0, 0, by omega, by omega, rfl, rfl, rfl, Lib.hid ⟨0, rfl, by simp [Lib.decFrom]⟩⟩
            case round =>
              obtain ⟨k, z, hk1, hk, rfl, rfl, rfl, HW⟩ := hrel
              by_cases hlt : k < s.size
              · obtain ⟨x, hx⟩ : ∃ x : Int, ((s[k]'hlt).toNat : Int) = x := ⟨_, rfl⟩
                have hll : k < l.length := by have := HL.out.2.2; omega
                have ik := idx_str s k _ x hlt rfl hx wr
                obtain ⟨hz0, hz9⟩ : 0 ≤ z ∧ z < 100000000 := by
                  obtain ⟨m, hm, hW⟩ := HW.out
                  have := decFrom_small hW (by have := HL.out.1; omega)
                  omega
                by_cases hd : 48 ≤ x ∧ x ≤ 57
                · obtain ⟨hd1, hd2⟩ := hd
                  obtain ⟨y, hy⟩ : ∃ y : Nat, x = (y : Int) + 48 := ⟨(x - 48).toNat, by omega⟩
                  have hv : Lib.digitVal l[k] = some y := by
                    have := str_byte l s HL.out.2.1 k hll hlt
                    unfold Lib.digitVal
                    rw [if_pos (by omega)]
                    congr 1
                    omega
                  have hs : ∃ m : Nat, 10 * z + (x - 48) = (m : Int) ∧ Lib.decFrom 0 ((l.drop 0).take (k + 1 - 0)) = some m := by
                    obtain ⟨m, hm, hW⟩ := HW.out
                    refine ⟨10 * m + y, by omega, ?_⟩
                    rw [take_drop_step hk1 hll, decFrom_append, hW]
                    simp [Lib.decFrom, hv, Nat.mul_comm]
                  have HS := Lib.hid hs
                  have HY := Lib.hid hy
                  clear hs hv HW hx hy
                  go_wp2_with fail
                  have hy := HY.out
                  refine ⟨⟨k + 1, 10 * z + (x - 48), by omega, by omega, congrArg _ (by omega), congrArg _ (by omega), (by simp), HS⟩, by simp [intOf]; omega⟩
                · have hv : Lib.digitVal l[k] = none := by
                    have := str_byte l s HL.out.2.1 k hll hlt
                    unfold Lib.digitVal
                    rw [if_neg (by omega)]
                  have hT : t = (0, false) := by
                    obtain ⟨m, hm, hW⟩ := HW.out
                    rw [HT2.out, drop_split hk1 hll, decFrom_bad hW hv]
                  subst hT
                  clear hv HW HT2 hx
                  by_cases hd1 : x < 48
                  all_goals
                    go_wp2_with fail
                    all_goals
                      go_ret2
                      exact ⟨rfl, rfl⟩
              · have hT : t = (z, true) := by
                  rw [HT2.out]
                  obtain ⟨m, hm, this⟩ := HW.out
                  rw [List.take_of_length_le (by have := HL.out.2.2; simp; omega)] at this
                  rw [this, hm]
                  simp
                subst hT
                clear HT2
                go_wp2_with fail
                go_ret2
                exact ⟨rfl, rfl⟩
end Go.Proofs.YtlibhkehebioeaaGreatDoor
namespace Go.Proofs.YtlibhkehebioeaaGreatDoor
set_option linter.unusedVariables false
set_option linter.unusedSimpArgs false
open Go.RowKit

/-- The document's words for a command's texts, by the operation. -/
def rfits (o : Int) (k v d : List UInt8) : Bool :=
  (if o = 9 then k == [] else keyB k) &&
  (if o = 1 ∨ o = 3 then valB v else if o = 5 then (numb v).2 else if o = 8 then (numb v).2 && decide (0 < (numb v).1) else if o = 9 then (numb v).2 && (decide (0 ≤ (numb v).1) && decide ((numb v).1 < 16)) else v == []) &&
  (if o = 3 then valB d else d == [])
theorem rfits_eq (on : Nat) (k v d : List UInt8) (h1 : 1 ≤ on) (h9 : on ≤ 9) : fitsB (shapeTab.getD on 0) k v d = rfits (on : Int) k v d := by
  have hk : keyB [] = false := rfl
  have hd : valB [] = true := rfl
  have hc : on = 1 ∨ on = 2 ∨ on = 3 ∨ on = 4 ∨ on = 5 ∨ on = 6 ∨ on = 7 ∨ on = 8 ∨ on = 9 := by omega
  rcases hc with rfl | rfl | rfl | rfl | rfl | rfl | rfl | rfl | rfl
  · unfold fitsB rfits
    rw [show hasB (shapeTab.getD 1 0) 1 = true by decide, show hasB (shapeTab.getD 1 0) 4 = false by decide, show hasB (shapeTab.getD 1 0) 2 = true by decide]
    cases keyB k <;> cases d <;> simp [hd]
  · unfold fitsB rfits
    rw [show hasB (shapeTab.getD 2 0) 1 = true by decide, show hasB (shapeTab.getD 2 0) 4 = false by decide, show hasB (shapeTab.getD 2 0) 2 = false by decide, show hasB (shapeTab.getD 2 0) 8 = false by decide, show hasB (shapeTab.getD 2 0) 16 = false by decide, show hasB (shapeTab.getD 2 0) 32 = false by decide]
    cases keyB k <;> cases d <;> simp [hd]
  · unfold fitsB rfits
    rw [show hasB (shapeTab.getD 3 0) 1 = true by decide, show hasB (shapeTab.getD 3 0) 4 = true by decide, show hasB (shapeTab.getD 3 0) 2 = true by decide]
    cases keyB k <;> cases hv : valB d <;> simp [hd]
  · unfold fitsB rfits
    rw [show hasB (shapeTab.getD 4 0) 1 = true by decide, show hasB (shapeTab.getD 4 0) 4 = false by decide, show hasB (shapeTab.getD 4 0) 2 = false by decide, show hasB (shapeTab.getD 4 0) 8 = false by decide, show hasB (shapeTab.getD 4 0) 16 = false by decide, show hasB (shapeTab.getD 4 0) 32 = false by decide]
    cases keyB k <;> cases d <;> simp [hd]
  · unfold fitsB rfits
    rw [show hasB (shapeTab.getD 5 0) 1 = true by decide, show hasB (shapeTab.getD 5 0) 4 = false by decide, show hasB (shapeTab.getD 5 0) 2 = false by decide, show hasB (shapeTab.getD 5 0) 8 = true by decide]
    cases keyB k <;> cases d <;> simp [hd]
  · unfold fitsB rfits
    rw [show hasB (shapeTab.getD 6 0) 1 = true by decide, show hasB (shapeTab.getD 6 0) 4 = false by decide, show hasB (shapeTab.getD 6 0) 2 = false by decide, show hasB (shapeTab.getD 6 0) 8 = false by decide, show hasB (shapeTab.getD 6 0) 16 = false by decide, show hasB (shapeTab.getD 6 0) 32 = false by decide]
    cases keyB k <;> cases d <;> simp [hd]
  · unfold fitsB rfits
    rw [show hasB (shapeTab.getD 7 0) 1 = true by decide, show hasB (shapeTab.getD 7 0) 4 = false by decide, show hasB (shapeTab.getD 7 0) 2 = false by decide, show hasB (shapeTab.getD 7 0) 8 = false by decide, show hasB (shapeTab.getD 7 0) 16 = false by decide, show hasB (shapeTab.getD 7 0) 32 = false by decide]
    cases keyB k <;> cases d <;> simp [hd]
  · unfold fitsB rfits
    rw [show hasB (shapeTab.getD 8 0) 1 = true by decide, show hasB (shapeTab.getD 8 0) 4 = false by decide, show hasB (shapeTab.getD 8 0) 2 = false by decide, show hasB (shapeTab.getD 8 0) 8 = false by decide, show hasB (shapeTab.getD 8 0) 16 = true by decide]
    cases keyB k <;> cases d <;> simp [hd]
  · unfold fitsB rfits
    rw [show hasB (shapeTab.getD 9 0) 1 = false by decide, show hasB (shapeTab.getD 9 0) 4 = false by decide, show hasB (shapeTab.getD 9 0) 2 = false by decide, show hasB (shapeTab.getD 9 0) 8 = false by decide, show hasB (shapeTab.getD 9 0) 16 = false by decide, show hasB (shapeTab.getD 9 0) 32 = true by decide]
    cases k <;> cases d <;> simp [hd, hk]
    all_goals cases hkk : keyB (_ :: _) <;> simp

set_option maxRecDepth 20000 in
set_option maxHeartbeats 8000000 in
theorem rcheck_any (c i r o : Int) (k v d : List UInt8) (w : World) :
    Calls Tryz.prog 18 #[cmdV c i r o k v d] w fun e w' => e = .returned (.int .i64 (if validB c i r o k v d = true then 0 else 130)) ∧ Fresh w w' := by
  obtain ⟨t, ht⟩ : ∃ t, t = validB c i r o k v d := ⟨_, rfl⟩
  rw [← ht]
  obtain ⟨q, hq⟩ : ∃ q : Int, q = (if t = true then 0 else 130) := ⟨_, rfl⟩
  rw [← hq]
  replace hq := Lib.hid hq
  by_cases hr : (0 ≤ c ∧ c < 16) ∧ (1 ≤ i ∧ i ≤ 4611686018427387904) ∧ (1 ≤ r ∧ r ≤ 4611686018427387904) ∧ (1 ≤ o ∧ o ≤ 9)
  · have HT : t = rfits o k v d := by
      obtain ⟨h1, h2, h3, h4⟩ := hr
      rw [ht]
      unfold validB
      rw [if_neg (by omega), if_neg (by omega), if_neg (by simp [countB]; omega), if_neg (by simp [countB]; omega), if_neg (by omega), if_neg (by omega)]
      have := rfits_eq o.toNat k v d (by omega) (by omega)
      rw [this, show ((o.toNat : Nat) : Int) = o by omega]
    obtain ⟨⟨a1, a2⟩, ⟨a3, a4⟩, ⟨a5, a6⟩, ⟨a7, a8⟩⟩ := hr
    replace HT := Lib.hid HT
    clear ht
    have HN := Lib.hid (rnumber_any v)
    rw [rnum_eq] at HN
    obtain ⟨nz, hnz⟩ : ∃ nz : Int, nz = if (numb v).2 = true then (numb v).1 else 0 := ⟨_, rfl⟩
    obtain ⟨nb, hnb⟩ : ∃ nb : Bool, nb = (numb v).2 := ⟨_, rfl⟩
    rw [← hnz, ← hnb] at HN
    have HZ := Lib.hid (And.intro hnz hnb)
    clear hnz hnb
    dsimp only at HN
    have hoc : o = 1 ∨ o = 2 ∨ o = 3 ∨ o = 4 ∨ o = 5 ∨ o = 6 ∨ o = 7 ∨ o = 8 ∨ o = 9 := by omega
    clear a7 a8
    rcases hoc with rfl | rfl | rfl | rfl | rfl | rfl | rfl | rfl | rfl
    all_goals
      go_enter Tryz.func18, Tryz.ntmps18
      go_wp2_with fail
      all_goals
        refine (HN.out _).mono ?_
        rintro e _ ⟨rfl, rfl⟩
        go_wp2_with fail
        all_goals
          go_ret
          refine ⟨ret_int ?_, (Keep.refl _ w).alloc _⟩
          rw [hq.out, HT.out]
          obtain ⟨hz1, hz2⟩ := HZ.out
          first
            | (simp_all [rfits, keyB, valB]; done)
            | (simp_all [rfits, keyB, valB]; omega)
  · have HT : t = false := by
      cases t with
      | false => rfl
      | true =>
        obtain ⟨h1, h2, h3, h4, _⟩ := valid_ok ht.symm
        exact absurd ⟨h1, h2, h3, by omega⟩ hr
    have hq130 : q = 130 := by rw [hq.out, HT]; rfl
    clear ht HT hq
    replace hq130 := Lib.hid hq130
    have hor : (c < 0) ∨ (0 ≤ c ∧ 16 ≤ c) ∨ (0 ≤ c ∧ c < 16 ∧ i < 1) ∨ (0 ≤ c ∧ c < 16 ∧ 1 ≤ i ∧ 4611686018427387904 < i) ∨ (0 ≤ c ∧ c < 16 ∧ 1 ≤ i ∧ i ≤ 4611686018427387904 ∧ r < 1) ∨ (0 ≤ c ∧ c < 16 ∧ 1 ≤ i ∧ i ≤ 4611686018427387904 ∧ 1 ≤ r ∧ 4611686018427387904 < r)
      ∨ (0 ≤ c ∧ c < 16 ∧ 1 ≤ i ∧ i ≤ 4611686018427387904 ∧ 1 ≤ r ∧ r ≤ 4611686018427387904 ∧ o < 1) ∨ (0 ≤ c ∧ c < 16 ∧ 1 ≤ i ∧ i ≤ 4611686018427387904 ∧ 1 ≤ r ∧ r ≤ 4611686018427387904 ∧ 1 ≤ o ∧ 9 < o) := by omega
    clear hr
    rcases hor with b1 | ⟨b1, b2⟩ | ⟨b1, b2, b3⟩ | ⟨b1, b2, b3, b4⟩ | ⟨b1, b2, b3, b4, b5⟩ | ⟨b1, b2, b3, b4, b5, b6⟩ | ⟨b1, b2, b3, b4, b5, b6, b7⟩ | ⟨b1, b2, b3, b4, b5, b6, b7, b8⟩
    all_goals
      go_enter Tryz.func18, Tryz.ntmps18
      go_wp2_with fail
      go_ret
      exact ⟨ret_int hq130.out.symm, (Keep.refl _ w).alloc _⟩
end Go.Proofs.YtlibhkehebioeaaGreatDoor
namespace Go.Proofs.YtlibhkehebioeaaGreatDoor
set_option linter.unusedVariables false
set_option linter.unusedSimpArgs false
open Go.RowKit

def ResD.cells (r : ResD) : List Value := [.int .i64 r.code, str r.val, .int .i64 r.n]
theorem rs_three : ∀ r : ResD, r.cells.length = 3 := fun _ => rfl
theorem cm_one (x : CmD) : x.cells.toArray.all (·.oneCell') = true := by simp [CmD.cells, Value.oneCell']
theorem rs_one (x : ResD) : x.cells.toArray.all (·.oneCell') = true := by simp [ResD.cells, Value.oneCell']
/-- One element among many is written over. -/
theorem rcells_splice {α : Type} {f : α → List Value} {k : Nat} (hf : ∀ a, (f a).length = k) : ∀ (ps : List α) (q : Nat) (hq : q < ps.length) (x : α), (rcells f ps).take (q * k) ++ f x ++ (rcells f ps).drop (q * k + (f x).length) = rcells f (ps.set q x)
  | p :: ps, 0, _, x => by
    rw [rcells_cons, List.set_cons_zero, rcells_cons, hf]
    simp only [Nat.zero_mul, List.take_zero, List.nil_append, Nat.zero_add]
    rw [List.drop_append_of_le_length (by rw [hf]; exact Nat.le_refl _), List.drop_of_length_le (by rw [hf]; exact Nat.le_refl _), List.nil_append]
  | p :: ps, q + 1, hq, x => by
    have ih := rcells_splice hf ps q (by simpa using hq) x
    have e1 : (q + 1) * k = (f p).length + q * k := by rw [hf, Nat.add_mul]; omega
    rw [rcells_cons, List.set_cons_succ, rcells_cons, e1, List.take_length_add_append, Nat.add_assoc, List.drop_length_add_append, ← ih]
    simp only [List.append_assoc]
theorem Blk.splice {α : Type} {f : α → List Value} {k : Nat} (hf : ∀ a, (f a).length = k) {w : World} {g : Nat} {t : TypeId} {ps : List α} (h : Blk w g t (rcells f ps).toArray) {q : Nat} (hq : q < ps.length) (x : α) : Blk (w.setCells g (q * k) (f x)) g t (rcells f (ps.set q x)).toArray := by
  have hl : q * k + (f x).length ≤ (rcells f ps).toArray.size := by
    rw [List.size_toArray, rcells_len hf, hf]
    have := Nat.mul_le_mul_right k (show q + 1 ≤ ps.length from hq)
    rw [Nat.add_mul] at this
    omega
  obtain ⟨cs', h1, h2⟩ := Blk.setCells (f x) (q * k) w _ h hl
  have : cs' = (rcells f (ps.set q x)).toArray := by
    apply Array.ext'
    rw [h2, ← rcells_splice hf ps q hq x]
  rwa [this] at h1
theorem Blk.thereAt {α : Type} {f : α → List Value} {k : Nat} (hf : ∀ a, (f a).length = k) {w : World} {g : Nat} {t : TypeId} {ps : List α} (h : Blk w g t (rcells f ps).toArray) {q : Nat} (hq : q < ps.length) : w.there g (q * k) k := fun j hj => by
  have h1 := h.there (q * k + j) (by
    rw [List.size_toArray, rcells_len hf]
    have := Nat.mul_le_mul_right k (show q + 1 ≤ ps.length from hq)
    rw [Nat.add_mul] at this
    omega)
  simpa using h1
theorem Blk.elem {α : Type} {f : α → List Value} {k : Nat} (hf : ∀ a, (f a).length = k) {w : World} {g : Nat} {t : TypeId} {ps : List α} (h : Blk w g t (rcells f ps).toArray) {q : Nat} (hq : q < ps.length) (j : Nat) (hj : j < k) : w.cell? ⟨g, q * k + j, none⟩ = (f ps[q])[j]? := by
  rw [h.cell, List.getElem?_toArray, rcells_get hf ps q hq j hj]
theorem Blk.cm {w : World} {g : Nat} {t : TypeId} {ps : List CmD} (h : Blk w g t (rcells CmD.cells ps).toArray) {q : Nat} (hq : q < ps.length) : CmAt w g (q * 7) (ps.getD q noCm) := by
  have e : ps.getD q noCm = ps[q] := by rw [List.getD_eq_getElem?_getD, List.getElem?_eq_getElem hq]; rfl
  rw [e]
  have h0 := h.elem cm_seven hq
  exact ⟨h0 0 (by omega), h0 1 (by omega), h0 2 (by omega), h0 3 (by omega), h0 4 (by omega), h0 5 (by omega), h0 6 (by omega)⟩
def RsAt (w : World) (b o : Nat) (x : ResD) : Prop :=
  w.cell? ⟨b, o, none⟩ = some (.int .i64 x.code) ∧ w.cell? ⟨b, o + 1, none⟩ = some (str x.val) ∧ w.cell? ⟨b, o + 2, none⟩ = some (.int .i64 x.n)
theorem RsAt.keep {w w' : World} {Z : Nat → Prop} {b o : Nat} {x : ResD} (h : RsAt w b o x) (hk : Keep Z w w') (hz : Z b) : RsAt w' b o x := ⟨hk.cellAt h.1 hz, hk.cellAt h.2.1 hz, hk.cellAt h.2.2 hz⟩
theorem Blk.rs {w : World} {g : Nat} {t : TypeId} {ps : List ResD} (h : Blk w g t (rcells ResD.cells ps).toArray) {q : Nat} (hq : q < ps.length) : RsAt w g (q * 3) (ps.getD q noRs) := by
  have e : ps.getD q noRs = ps[q] := by rw [List.getD_eq_getElem?_getD, List.getElem?_eq_getElem hq]; rfl
  rw [e]
  have h0 := h.elem rs_three hq
  exact ⟨h0 0 (by omega), h0 1 (by omega), h0 2 (by omega)⟩
theorem Blk.cm1 {w : World} {g : Nat} {t : TypeId} {x : CmD} (h : Blk w g t x.cells.toArray) : CmAt w g 0 x := ⟨h.cell 0, h.cell 1, h.cell 2, h.cell 3, h.cell 4, h.cell 5, h.cell 6⟩
theorem Blk.rs1 {w : World} {g : Nat} {t : TypeId} {x : ResD} (h : Blk w g t x.cells.toArray) : RsAt w g 0 x := ⟨h.cell 0, h.cell 1, h.cell 2⟩
theorem snap_rd {w w' : World} {v : Value} {s : StD} (h : w'.ownsRow w.heap.size 5 1 v (snapB s).length (Lib.byteCells (snapB s))) : ∃ A c, v = .slice A (snapB s).length c ∧ Rd w' (fun k => w.heap.size ≤ k ∧ k < w'.heap.size) 1 A (snapB s).length (Lib.byteCells (snapB s)) := by
  obtain ⟨A, c, rfl, h1, -⟩ := own_rd h
  exact ⟨A, c, rfl, h1.weaken fun k hk => own_lt h hk⟩
/-- The machine, with its footprint, and the two tables beside it. -/
structure OnceF (W w : World) (F : Nat → Prop) (m L T : Nat) (s : StD) (last : List CmD) (told : List ResD) : Prop where
  mat : MAt W.heap.size w F m s
  nl : ¬ F L
  nt : ¬ F T
  lb : Blk w L 31 (rcells CmD.cells last).toArray
  tb : Blk w T 34 (rcells ResD.cells told).toArray
  fresh : Fresh W w
  oldL : W.heap.size ≤ L
  oldT : W.heap.size ≤ T
  ne : L ≠ T
section
variable {W w w' : World} {F F' : Nat → Prop} {m L T : Nat} {s s' : StD} {last : List CmD} {told : List ResD}
theorem OnceF.then (h : OnceF W w F m L T s last told) (hf : Fresh w w') : OnceF W w' F m L T s last told :=
  ⟨h.mat.fresh hf, h.nl, h.nt, h.lb.keep hf trivial, h.tb.keep hf trivial, h.fresh.then hf, h.oldL, h.oldT, h.ne⟩
theorem OnceF.app (h : OnceF W w F m L T s last told) (hm : MAt W.heap.size w' F' m s') (hg : ∀ j, F' j → F j ∨ w.heap.size ≤ j) (hk : Keep (fun j => ¬ F j) w w') (hf : Fresh W w') : OnceF W w' F' m L T s' last told :=
  ⟨hm, aside h.lb.lt h.nl hg, aside h.tb.lt h.nt hg, h.lb.keep hk h.nl, h.tb.keep hk h.nt, hf, h.oldL, h.oldT, h.ne⟩
theorem OnceF.putL (h : OnceF W w F m L T s last told) {q : Nat} (hq : q < last.length) (x : CmD) : OnceF W (w.setCells L (q * 7) x.cells) F m L T s (last.set q x) told :=
  have hk : Keep (fun j => j ≠ L) w (w.setCells L (q * 7) x.cells) := Keep.setCells _ _ _ (Keep.refl _ w) (fun _ e => e rfl)
  ⟨h.mat.keep hk (fun j hj e => h.nl (e ▸ hj)), h.nl, h.nt, h.lb.splice cm_seven hq x, h.tb.keep hk h.ne.symm, h.fresh.comp hk (fun _ _ h => h) (fun j hj _ e => by have := h.oldL; omega), h.oldL, h.oldT, h.ne⟩
theorem OnceF.putT (h : OnceF W w F m L T s last told) {q : Nat} (hq : q < told.length) (x : ResD) : OnceF W (w.setCells T (q * 3) x.cells) F m L T s last (told.set q x) :=
  have hk : Keep (fun j => j ≠ T) w (w.setCells T (q * 3) x.cells) := Keep.setCells _ _ _ (Keep.refl _ w) (fun _ e => e rfl)
  ⟨h.mat.keep hk (fun j hj e => h.nt (e ▸ hj)), h.nl, h.nt, h.lb.keep hk h.ne, h.tb.splice rs_three hq x, h.fresh.comp hk (fun _ _ h => h) (fun j hj _ e => by have := h.oldT; omega), h.oldL, h.oldT, h.ne⟩
end
def OnceAt (W w : World) (m L T : Nat) : Prop := ∃ (F : Nat → Prop) (s : StD) (last : List CmD) (told : List ResD), OnceF W w F m L T s last told ∧ Once s last told

theorem once_rd {w7 wa ws : World} {F1 F6 : Nat → Prop} {A : Option Addr} {n : Nat} {xs : List Value} (h : Rd w7 (fun j => ¬ F1 j ∧ j < w7.heap.size) 1 A n xs) (ka : Keep (fun j => ¬ F1 j) w7.drew wa) (g6 : ∀ j, F6 j → F1 j ∨ w7.drew.heap.size ≤ j) (hfs : Fresh wa ws) (kt : Nat) :
    Rd (ws.drewN kt) (fun j => ¬ F6 j ∧ j < (ws.drewN kt).heap.size) 1 A n xs := by
  have h1 : Rd wa (fun j => ¬ F1 j ∧ j < w7.heap.size) 1 A n xs := h.keep (((Keep.refl _ w7).drew).trans (ka.weaken fun _ _ h => h.1))
  have h2 : Rd ws (fun j => ¬ F1 j ∧ j < w7.heap.size) 1 A n xs := h1.keep (hfs.weaken fun _ _ _ => trivial)
  refine (h2.drewN kt).weaken fun j hj => ⟨aside hj.2 hj.1 g6, ?_⟩
  have e1 : w7.heap.size ≤ wa.heap.size := ka.size
  have e2 := hfs.size
  show j < ws.heap.size
  have := hj.2
  omega
set_option maxRecDepth 20000 in
set_option maxHeartbeats 4000000 in
theorem monce_any (A : Option Addr) (n c : Nat) (cs : List CmD) (W : World) (hT : TabsN W) (hb : Rd W (fun _ => True) 7 A n (rcells CmD.cells cs)) :
    Calls Tryz.prog 9 #[.slice A n c] W fun e w' => e = .returned (.bool true) ∧ Fresh W w' := by
  have HT := Lib.hid hT
  have HN := Lib.hid (mat_new W)
  have HB := Lib.hid (hb.old (by omega))
  clear hT hb
  go_enter Tryz.func9, Tryz.ntmps9
  go_wp2_with fail
  refine Calls.mono HN.out ?_
  rintro e w1 ⟨⟨m, F, rfl, hm⟩, hf1⟩
  have HF := Lib.hid (first_any (HT.out.fresh hf1))
  have H1 := Lib.hid (And.intro hm hf1)
  clear hm hf1 HN
  go_wp2_with fail
  refine Calls.mono HF.out ?_
  rintro e w2 ⟨rfl, hf2⟩
  have H2 := Lib.hid (And.intro (H1.out.1.fresh hf2) (H1.out.2.then hf2))
  clear hf2 HF H1
  go_wp2_with fail
  obtain ⟨L, hL⟩ : ∃ L, L = w2.heap.size := ⟨_, rfl⟩
  obtain ⟨T, hTT⟩ : ∃ T, T = w2.heap.size + 1 := ⟨_, rfl⟩
  rw [← hTT, ← hL]
  generalize hW0 : World.alloc (World.alloc w2 _) _ = W0
  have hw0 : OnceF W W0 F m L T newD (List.replicate 16 noCm) (List.replicate 16 noRs) := by
    have hk1 : Fresh w2 (w2.alloc (.cells Tryz.zeroCells31 31)) := (Keep.refl (fun _ => True) w2).alloc _
    have hk2 : Fresh w2 W0 := by rw [← hW0]; exact hk1.alloc _
    have h1 := H2.out.2.size
    refine ⟨H2.out.1.fresh hk2, fun e => ?_, fun e => ?_, ?_, ?_, H2.out.2.then hk2, by omega, by omega, by omega⟩
    · have := H2.out.1.hi _ e; omega
    · have := H2.out.1.hi _ e; omega
    · rw [← hW0, hL]
      have e : Tryz.zeroCells31 = (rcells CmD.cells (List.replicate 16 noCm)).toArray := by kernel_rfl
      rw [← e]
      exact (Blk.new _ _ _).alloc _
    · rw [← hW0, hTT]
      have e : Blk ((w2.alloc (.cells Tryz.zeroCells31 31)).alloc (.cells (rcells ResD.cells (List.replicate 16 noRs)).toArray 34)) (w2.heap.size + 1) 34 (rcells ResD.cells (List.replicate 16 noRs)).toArray := Blk.newAt (by simp)
      exact e
  have HW0 := Lib.hid hw0
  clear hL hTT hW0 hw0 H2
  go_loopw [6] (fun iv wr => ∃ k : Nat, k ≤ 100 ∧ iv = .int .i64 (k : Int) ∧ Hid (OnceAt W wr m L T)) (fun i _ => 100 - (intOf i).toNat)
  case atStart => exact ⟨0, by omega, rfl, Lib.hid ⟨_, _, _, _, HW0.out, once_new⟩⟩
  case round =>
    rename World => wr
    obtain ⟨k, hk, rfl, HW⟩ := hrel
    by_cases hlt : k < n ∧ k < 100
    · obtain ⟨l1, l2⟩ := hlt
      -- [[
      obtain ⟨F0, s, last, told, hat, hon⟩ := HW.out
      obtain ⟨hl, b7, o7, rfl, hz7, hb7, hcm⟩ := (HB.out.keep (hat.fresh.weaken fun _ _ _ => trivial)).cmd l1
      obtain ⟨x, hx⟩ : ∃ x, x = cs[k] := ⟨_, rfl⟩
      rw [← hx] at hcm
      have HA := Lib.hid hat
      have HO := Lib.hid hon
      have H4i := Lib.hid hat.mat.inv
      obtain ⟨xc, xi, xr, xo, xk, xv, xd⟩ := x
      obtain ⟨c0, c1, c2, c3, c4, c5, c6⟩ := hcm
      simp only at c0 c1 c2 c3 c4 c5 c6
      clear hat hon HW hl hz7 hx
      go_wp2_with (refine wpList_store_new rfl (.tmp 7) (.tmp 36) rfl _ (CmD.cells ⟨xc, xi, xr, xo, xk, xv, xd⟩).toArray _ rfl rfl rfl (by kernel_rfl) (cm_one _) ?_)
      intro w3 hb3 hf3 hs3
      obtain ⟨c7, hc7⟩ : ∃ c7, c7 = wr.heap.size := ⟨_, rfl⟩
      rw [← hc7] at hb3 ⊢
      have hat3 := HA.out.then hf3
      have hc7F : ¬ F0 c7 := fun e => by have := HA.out.mat.hi _ e; omega
      have HS := Lib.hid (mat_snap (HT.out.fresh hat3.fresh) hat3.mat)
      have H3 := Lib.hid (And.intro hat3 (And.intro hb3 hc7F))
      clear c0 c1 c2 c3 c4 c5 c6 hb3 hf3 hs3 hc7 hat3 hc7F HA
      go_wp2_with fail
      refine Calls.mono HS.out ?_
      rintro e w4 ⟨⟨v, rfl, hv⟩, hf4⟩
      obtain ⟨A4, q4, rfl, hr4⟩ := snap_rd hv
      have hsl := snap_len H3.out.1.mat.inv
      have hat4 := H3.out.1.then hf4
      have hb4 := H3.out.2.1.keep hf4 trivial
      have hr4' : Rd w4 (fun j => ¬ F0 j) 1 A4 (snapB s).length (Lib.byteCells (snapB s)) := hr4.weaken fun j hj e => by have := H3.out.1.mat.hi _ e; omega
      obtain ⟨Y, hY⟩ : ∃ Y, Y = applyD xc xi xr xo xk xv xd s := ⟨_, rfl⟩
      obtain ⟨⟨rc, rv, rn⟩, s'⟩ := Y
      have hap := mat_apply HT.out hat4.fresh hat4.mat xc xi xr xo xk xv xd
      rw [← hY] at hap
      have HAp := Lib.hid hap
      obtain ⟨bs, hbs⟩ : ∃ bs, bs = snapB s := ⟨_, rfl⟩
      obtain ⟨ln, hln⟩ : ∃ ln, ln = (snapB s).length := ⟨_, rfl⟩
      rw [← hln] at hsl hr4' ⊢
      obtain ⟨c0, c1, c2, c3, c4, c5, c6⟩ := hb4.cm1
      simp at c0 c1 c2 c3 c4 c5 c6
      have H4 := Lib.hid (And.intro hat4 (And.intro hb4 (And.intro hr4' (And.intro H3.out.2.2 (And.intro hY hln)))))
      clear hv hf4 hr4 hr4' hat4 hb4 hY hap hbs hln HS H3
      go_wp2_with fail
      refine Calls.mono HAp.out ?_
      rintro e w5 ⟨rfl, ⟨F5, hm5, hg5⟩, hk5, hf5⟩
      have hat5 := H4.out.1.app hm5 hg5 hk5 hf5
      have hb5 := H4.out.2.1.keep hk5 H4.out.2.2.2.1
      have hc5 := aside H4.out.2.1.lt H4.out.2.2.2.1 hg5
      have hr5 : Rd w5 (fun j => ¬ F0 j) 1 A4 ln (Lib.byteCells (snapB s)) := H4.out.2.2.1.keep hk5
      have hY := H4.out.2.2.2.2
      have H5 := Lib.hid (And.intro hat5 (And.intro hb5 (And.intro (hr5.old (by omega)) (And.intro hc5 hY))))
      clear hm5 hg5 hk5 hf5 hat5 hb5 hc5 hr5 hY c0 c1 c2 c3 c4 c5 c6 HAp H4
      go_wp2_with (refine wpList_store_new rfl (.tmp 9) (.tmp 41) rfl _ (ResD.cells ⟨rc, rv, rn⟩).toArray _ rfl rfl rfl (by kernel_rfl) (rs_one _) ?_)
      intro w6 hb6 hf6 hs6
      obtain ⟨r9, hr9⟩ : ∃ r9, r9 = w5.heap.size := ⟨_, rfl⟩
      rw [← hr9] at hb6 ⊢
      have hr9F : ¬ F5 r9 := fun e => by have := H5.out.1.mat.hi _ e; omega
      have hcc := H5.out.2.1.keep hf6 trivial
      obtain ⟨c0, c1, c2, c3, c4, c5, c6⟩ := hcc.cm1
      simp at c0 c1 c2 c3 c4 c5 c6
      have hrn : r9 ≠ c7 := by have := H5.out.2.1.lt; omega
      have H6 := Lib.hid (And.intro (H5.out.1.then hf6) (And.intro hcc (And.intro hb6 (And.intro (H5.out.2.2.1.keep (hf6.weaken fun _ _ _ => trivial)) (And.intro H5.out.2.2.2.1 (And.intro hr9F H5.out.2.2.2.2))))))
      have HCk := Lib.hid (rcheck_any xc xi xr xo xk xv xd w6)
      clear hb6 hf6 hs6 hr9 hr9F hcc H5
      go_wp2_with fail
      refine Calls.mono HCk.out ?_
      rintro e w7 ⟨he, hf7⟩
      have hb7 := H6.out.2.1.keep hf7 trivial
      have hr7 := H6.out.2.2.1.keep hf7 trivial
      clear c0 c1 c2 c3 c4 c5 c6
      obtain ⟨c0, c1, c2, c3, c4, c5, c6⟩ := hb7.cm1
      obtain ⟨d0, d1, d2⟩ := hr7.rs1
      simp at c0 c1 c2 c3 c4 c5 c6 d0 d1 d2
      have H7 := Lib.hid (And.intro (H6.out.1.then hf7) (And.intro hb7 (And.intro hr7 (And.intro (H6.out.2.2.2.1.keep (hf7.weaken fun _ _ _ => trivial)) H6.out.2.2.2.2))))
      clear hf7 hb7 hr7 H6 HCk
      by_cases hv : validB xc xi xr xo xk xv xd = true
      · rw [if_pos hv] at he
        subst he
        obtain ⟨q, rfl⟩ : ∃ q : Nat, xc = (q : Int) := ⟨xc.toNat, by have := (vcmd_of hv).c0; omega⟩
        have hq : q < 16 := by have := (vcmd_of hv).c1; omega
        have hqi : (q : Int) < 16 := by omega
        obtain ⟨z, hz⟩ : ∃ z, z = last.getD q noCm := ⟨_, rfl⟩
        obtain ⟨e0, e1, e2, e3, e4, e5, e6⟩ := H7.out.1.lb.cm (q := q) (by rw [HO.out.l16]; exact hq)
        rw [← hz] at e0 e1 e2 e3 e4 e5 e6
        obtain ⟨zc, zi, zr, zo, zk, zv, zd⟩ := z
        simp only at e0 e1 e2 e3 e4 e5 e6
        have HZ := Lib.hid hz
        have HV := Lib.hid hv
        have hlL := H7.out.1.lb.lt
        clear hv hz
        go_wp2_with (refine wpList_store_new rfl (.tmp 10) (.tmp 58) rfl _ (CmD.cells ⟨zc, zi, zr, zo, zk, zv, zd⟩).toArray _ rfl rfl rfl (by kernel_rfl) (cm_one _) ?_)
        intro w8 hb8 hf8 hs8
        obtain ⟨z10, hz10⟩ : ∃ z10, z10 = w7.heap.size := ⟨_, rfl⟩
        rw [← hz10] at hb8 ⊢
        have hbc := H7.out.2.1.keep hf8 trivial
        have hbr := H7.out.2.2.1.keep hf8 trivial
        clear c0 c1 c2 c3 c4 c5 c6 d0 d1 d2 e0 e1 e2 e3 e4 e5 e6 hlL
        obtain ⟨c0, c1, c2, c3, c4, c5, c6⟩ := hbc.cm1
        obtain ⟨d0, d1, d2⟩ := hbr.rs1
        obtain ⟨z0, z1, z2, z3, z4, z5, z6⟩ := hb8.cm1
        simp at c0 c1 c2 c3 c4 c5 c6 d0 d1 d2 z0 z1 z2 z3 z4 z5 z6
        have H8 := Lib.hid (And.intro (H7.out.1.then hf8) (And.intro hbc (And.intro hbr (And.intro (H7.out.2.2.2.1.keep (hf8.weaken fun _ _ _ => trivial)) H7.out.2.2.2.2))))
        clear hb8 hf8 hs8 hz10 hbc hbr z0 z3 z4 z5 z6 H7
        have hcase : ((decide (xi < zi) = true ∨ (decide (xi < zi) = false ∧ (zi == xi) = true ∧ decide (xr < zr) = true)) ∧ (zi > xi ∨ (zi = xi ∧ zr > xr))) ∨ (decide (xi < zi) = false ∧ (zi == xi) = true ∧ decide (xr < zr) = false ∧ (zr == xr) = true ∧ zi = xi ∧ zr = xr) ∨ (decide (xi < zi) = false ∧ ((zi == xi) = true ∧ decide (xr < zr) = false ∧ (zr == xr) = false ∨ (zi == xi) = false) ∧ ¬ (zi > xi ∨ (zi = xi ∧ zr > xr)) ∧ ¬ (zi = xi ∧ zr = xr)) := by
          by_cases b1 : xi < zi
          · exact .inl ⟨.inl (by simp [b1]), .inl b1⟩
          · by_cases b2 : zi = xi
            · by_cases b3 : xr < zr
              · exact .inl ⟨.inr ⟨by simp [b1], by simp [b2], by simp [b3]⟩, .inr ⟨b2, b3⟩⟩
              · by_cases b4 : zr = xr
                · exact .inr (.inl ⟨by simp [b1], by simp [b2], by simp [b3], by simp [b4], b2, b4⟩)
                · exact .inr (.inr ⟨by simp [b1], .inl ⟨by simp [b2], by simp [b3], by simp [b4]⟩, fun h => by omega, fun h => b4 h.2⟩)
            · exact .inr (.inr ⟨by simp [b1], .inr (by simp [b2]), fun h => by omega, fun h => b2 h.1⟩)
        rcases hcase with ⟨hg, hst⟩ | ⟨g1, g2, g3, g4, hz1, hz2⟩ | ⟨g1, hg, hns, hna⟩
        · have hY := H8.out.2.2.2.2.2.2.1
          have hb := HO.out.stale (x := ⟨(q : Int), xi, xr, xo, xk, xv, xd⟩) HV.out (by rw [show (q : Int).toNat = q by omega, ← HZ.out]; exact hst)
          rw [show applyD (q : Int) xi xr xo xk xv xd s = _ from hb] at hY
          injection hY with y1 y2
          injection y1 with y3 y4 y5
          subst y2 y3 y4 y5
          have HS8 := Lib.hid (mat_snap (HT.out.fresh H8.out.1.fresh) H8.out.1.mat)
          clear hb hst
          rcases hg with g1 | ⟨g1, g2, g3⟩
          all_goals
            go_wp2_with fail
            refine Calls.mono HS8.out ?_
            rintro e w9 ⟨⟨v, rfl, hv⟩, hf9⟩
            obtain ⟨A9, q9, rfl, hr9⟩ := snap_rd hv
            have HC9 := Lib.hid (same_any _ _ A9 A4 _ q9 ln q4 _ _ w9 hr9 (H8.out.2.2.2.1.keep (hf9.weaken fun _ _ _ => trivial)) (by have := H8.out.2.2.2.2.2.2.2; omega) (by omega))
            have H9 := Lib.hid (H8.out.1.then hf9)
            clear hv hr9 hf9
            go_wp2_with fail
            refine Calls.mono HC9.out ?_
            rintro e w10 ⟨he, k10, rfl⟩
            have e10 : e = .returned (.bool true) := by rw [he]; simp
            subst e10
            clear he
            go_wp2_with fail
            exact ⟨⟨k + 1, by omega, by simp, Lib.hid ⟨_, _, _, _, H9.out.then ((Keep.refl _ w9).drewN k10), HO.out⟩⟩, by simp only [intOf]; omega⟩
        · have hY := H8.out.2.2.2.2.2.2.1
          have hb := HO.out.again (x := ⟨(q : Int), xi, xr, xo, xk, xv, xd⟩) HV.out (by rw [show (q : Int).toNat = q by omega, ← HZ.out]; exact hz1) (by rw [show (q : Int).toNat = q by omega, ← HZ.out]; exact hz2)
          rw [show applyD (q : Int) xi xr xo xk xv xd s = _ from hb] at hY
          rw [show (q : Int).toNat = q by omega] at hY
          injection hY with y1 y2
          subst y2
          have ht := H8.out.1.tb.rs (q := q) (by rw [HO.out.t16]; exact hq)
          rw [← y1] at ht
          have HTo := Lib.hid ht
          obtain ⟨t0, t1, t2⟩ := ht
          simp only at t0 t1 t2
          have hlT := H8.out.1.tb.lt
          have HS8 := Lib.hid (mat_snap (HT.out.fresh (H8.out.1.fresh.drew)) (H8.out.1.mat.fresh ((Keep.refl (fun _ => True) w8).drew)))
          have HK : Hid (∀ w', Fresh w8 w' → CmAt w' c7 0 ⟨(q : Int), xi, xr, xo, xk, xv, xd⟩ ∧ RsAt w' r9 0 ⟨rc, rv, rn⟩ ∧ RsAt w' T (q * 3) ⟨rc, rv, rn⟩) := Lib.hid fun w' hf => ⟨(H8.out.2.1.keep hf trivial).cm1, (H8.out.2.2.1.keep hf trivial).rs1, HTo.out.keep hf trivial⟩
          have HKS : Hid (∀ w', Fresh w8 w' → w'.cell? ⟨c7, 0, none⟩ = some (.int .i64 (q : Int)) ∧ w'.cell? ⟨r9, 0, none⟩ = some (.int .i64 rc) ∧ w'.cell? ⟨r9, 1, none⟩ = some (str rv) ∧ w'.cell? ⟨r9, 2, none⟩ = some (.int .i64 rn) ∧ w'.cell? ⟨T, q * 3, none⟩ = some (.int .i64 rc) ∧ w'.cell? ⟨T, q * 3 + 1, none⟩ = some (str rv) ∧ w'.cell? ⟨T, q * 3 + 2, none⟩ = some (.int .i64 rn)) := Lib.hid fun w' hf => by
            obtain ⟨h1, h2, h3⟩ := HK.out w' hf
            exact ⟨h1.1, h2.1, h2.2.1, h2.2.2, h3.1, h3.2.1, h3.2.2⟩
          have h0d : Hid (Fresh w8 (World.drew w8)) := Lib.hid ((Keep.refl _ w8).drew)
          clear hb hz1 hz2 y1
          go_upto_region 20 with (fail)
          go_region_held3 (fun w' => w'.cell? ⟨c7, 0, none⟩ = some (.int .i64 (q : Int)) ∧ w'.cell? ⟨r9, 0, none⟩ = some (.int .i64 rc) ∧ w'.cell? ⟨r9, 1, none⟩ = some (str rv) ∧ w'.cell? ⟨r9, 2, none⟩ = some (.int .i64 rn) ∧ w'.cell? ⟨T, q * 3, none⟩ = some (.int .i64 rc) ∧ w'.cell? ⟨T, q * 3 + 1, none⟩ = some (str rv) ∧ w'.cell? ⟨T, q * 3 + 2, none⟩ = some (.int .i64 rn))
            (first | exact HKS.out _ h0d.out | exact HKS.out _ hf9 | exact HKS.out _ (hf9.drewN _))
            (first
              | (go_at_call 16; (with_reducible refine Calls.mono HS8.out ?_); rintro e w9 ⟨⟨v, rfl, hv⟩, hf9'⟩; obtain ⟨A9, q9, rfl, hr9⟩ := snap_rd hv; have hf9 := h0d.out.then hf9'; have HC9 := Lib.hid (same_any _ _ A9 A4 _ q9 ln q4 _ _ w9 hr9 (H8.out.2.2.2.1.keep (hf9.weaken fun _ _ _ => trivial)) (by have := H8.out.2.2.2.2.2.2.2; omega) (by omega)))
              | (go_at_call 19; (with_reducible refine Calls.mono HC9.out ?_); rintro e w10 ⟨he, k10, rfl⟩; obtain rfl : e = .returned (.bool true) := by rw [he]; simp))
          all_goals
            go_wp2_with fail
            exact ⟨⟨k + 1, by omega, by simp, Lib.hid ⟨_, _, _, _, (H8.out.1.then hf9).then ((Keep.refl _ w9).drewN k10), HO.out⟩⟩, by simp only [intOf]; omega⟩
        · have hnew := HO.out.new (x := ⟨(q : Int), xi, xr, xo, xk, xv, xd⟩) H4i.out HV.out (by rw [show (q : Int).toNat = q by omega, ← HZ.out]; exact hns) (by rw [show (q : Int).toNat = q by omega, ← HZ.out]; exact hna)
          have hY := H8.out.2.2.2.2.2.2.1
          have eY : applyC ⟨(q : Int), xi, xr, xo, xk, xv, xd⟩ s = (⟨rc, rv, rn⟩, s') := hY.symm
          rw [eY, show (q : Int).toNat = q by omega] at hnew
          obtain ⟨hon2, hag, hres⟩ := hnew
          have k1 : decide (rc < 1) = false := by have := hres.c0; simp at this ⊢; omega
          have k2 : (rc == 10) = false := by have := hres.c10; simpa using this
          have k3 : decide (11 < rc) = false := by have := hres.c1; simp at this ⊢; omega
          have HO2 := Lib.hid hon2
          have HTL := Lib.hid (H8.out.1.lb.thereAt cm_seven (q := q) (by rw [HO.out.l16]; exact hq))
          have hlL := H8.out.1.lb.lt
          have HAg := Lib.hid hag
          have HCell : Hid (∀ w' (Z : Nat → Prop), Keep Z w8 w' → Z c7 → Z r9 → CmAt w' c7 0 ⟨(q : Int), xi, xr, xo, xk, xv, xd⟩ ∧ RsAt w' r9 0 ⟨rc, rv, rn⟩) := Lib.hid fun w' Z hk h1 h2 => ⟨(H8.out.2.1.keep hk h1).cm1, (H8.out.2.2.1.keep hk h2).rs1⟩
          have hcL : c7 ≠ L := H8.out.2.1.ne H8.out.1.lb (by decide)
          have hrL : r9 ≠ L := H8.out.2.2.1.ne H8.out.1.lb (by decide)
          have hcT : c7 ≠ T := H8.out.2.1.ne H8.out.1.tb (by decide)
          have hrT : r9 ≠ T := H8.out.2.2.1.ne H8.out.1.tb (by decide)
          have HNE := Lib.hid (And.intro hcL (And.intro hrL (And.intro hcT hrT)))
          clear hns hna hY eY hon2 hag hres hcL hrL hcT hrT
          rcases hg with ⟨g2, g3, g4⟩ | g2
          all_goals
            go_wp2_with (refine wpList_store_to rfl 30 (.tmp 116) (.tmp 115) rfl L (q * 7) (CmD.cells ⟨(q : Int), xi, xr, xo, xk, xv, xd⟩).toArray rfl rfl HTL.out (by kernel_rfl) (cm_one _) ?_)
            intro w9 hw9
            have hk9 : Keep (fun j => j ≠ L) w8 w9 := by rw [hw9.out]; exact Keep.setCells _ _ _ (Keep.refl _ w8) (fun _ e => e rfl)
            have hat9 : OnceF W w9 F5 m L T s' (last.set q ⟨(q : Int), xi, xr, xo, xk, xv, xd⟩) told := by
              have h := H8.out.1.putL (q := q) (by rw [HO.out.l16]; exact hq) ⟨(q : Int), xi, xr, xo, xk, xv, xd⟩
              rw [hw9.out]
              exact h
            clear c0 c1 c2 c3 c4 c5 c6 d0 d1 d2 z1 z2 hlL
            obtain ⟨⟨c0, c1, c2, c3, c4, c5, c6⟩, d0, d1, d2⟩ := HCell.out w9 _ hk9 HNE.out.1 HNE.out.2.1
            simp at c0 c1 c2 c3 c4 c5 c6 d0 d1 d2
            have HTT := Lib.hid (hat9.tb.thereAt rs_three (q := q) (by rw [HO.out.t16]; exact hq))
            have hlT := hat9.tb.lt
            have H9 := Lib.hid (And.intro hat9 hk9)
            clear hat9 hk9 hw9
            go_wp2_with (refine wpList_store_to rfl 33 (.tmp 120) (.tmp 119) rfl T (q * 3) (ResD.cells ⟨rc, rv, rn⟩).toArray rfl rfl HTT.out (by kernel_rfl) (rs_one _) ?_)
            intro w10 hw10
            have hk10 : Keep (fun j => j ≠ T) w9 w10 := by rw [hw10.out]; exact Keep.setCells _ _ _ (Keep.refl _ w9) (fun _ e => e rfl)
            have hat10 : OnceF W w10 F5 m L T s' (last.set q ⟨(q : Int), xi, xr, xo, xk, xv, xd⟩) (told.set q ⟨rc, rv, rn⟩) := by
              have h := H9.out.1.putT (q := q) (by rw [HO.out.t16]; exact hq) ⟨rc, rv, rn⟩
              rw [hw10.out]
              exact h
            have hk810 : Keep (fun j => j ≠ L ∧ j ≠ T) w8 w10 := H9.out.2.comp hk10 (fun _ _ h => h.1) (fun _ _ h => h.2)
            clear c0 c1 c2 c3 c4 c5 c6 d0 d1 d2 hlT
            have HS10 := Lib.hid (mat_snap (HT.out.fresh hat10.fresh) hat10.mat)
            have H10 := Lib.hid (And.intro hat10 hk810)
            clear hk10 hat10 hk810 hw10 H9
            go_wp2_with fail
            refine Calls.mono HS10.out ?_
            rintro e w11 ⟨⟨v, rfl, hv⟩, hf11⟩
            obtain ⟨A11, q11, rfl, hr11⟩ := snap_rd hv
            have hat11 := H10.out.1.then hf11
            have hk811 : Keep (fun j => j ≠ L ∧ j ≠ T) w8 w11 := H10.out.2.comp hf11 (fun _ _ h => h) (fun _ _ _ => trivial)
            have hr11F : Rd w11 (fun j => ¬ F5 j) 1 A11 (snapB s').length (Lib.byteCells (snapB s')) := hr11.weaken fun j hj e => by have := H10.out.1.mat.hi _ e; omega
            obtain ⟨⟨c0, c1, c2, c3, c4, c5, c6⟩, d0, d1, d2⟩ := HCell.out w11 _ hk811 ⟨HNE.out.1, HNE.out.2.2.1⟩ ⟨HNE.out.2.1, HNE.out.2.2.2⟩
            simp at c0 c1 c2 c3 c4 c5 c6 d0 d1 d2
            have hap := mat_apply HT.out (hat11.fresh.drew) (hat11.mat.fresh ((Keep.refl (fun _ => True) w11).drew)) (q : Int) xi xr xo xk xv xd
            rw [show applyD (q : Int) xi xr xo xk xv xd s' = (⟨rc, rv, rn⟩, s') from HAg.out] at hap
            have HAp := Lib.hid hap
            have h0d : Hid (Fresh w11 (World.drew w11)) := Lib.hid ((Keep.refl _ w11).drew)
            have HKS : Hid (∀ w', Keep (fun j => j = c7 ∨ j = r9) w11 w' → w'.cell? ⟨c7, 0, none⟩ = some (.int .i64 (q : Int)) ∧ w'.cell? ⟨c7, 1, none⟩ = some (.int .i64 xi) ∧ w'.cell? ⟨c7, 2, none⟩ = some (.int .i64 xr) ∧ w'.cell? ⟨c7, 3, none⟩ = some (.int .i64 xo) ∧ w'.cell? ⟨c7, 4, none⟩ = some (str xk) ∧ w'.cell? ⟨c7, 5, none⟩ = some (str xv) ∧ w'.cell? ⟨c7, 6, none⟩ = some (str xd) ∧ w'.cell? ⟨r9, 0, none⟩ = some (.int .i64 rc) ∧ w'.cell? ⟨r9, 1, none⟩ = some (str rv) ∧ w'.cell? ⟨r9, 2, none⟩ = some (.int .i64 rn)) := Lib.hid fun w' hf => by
              obtain ⟨h1, h2⟩ := HCell.out w' (fun j => (j ≠ L ∧ j ≠ T) ∧ (j = c7 ∨ j = r9)) (hk811.comp hf (fun _ _ h => h.1) (fun _ _ h => h.2)) ⟨⟨HNE.out.1, HNE.out.2.2.1⟩, .inl rfl⟩ ⟨⟨HNE.out.2.1, HNE.out.2.2.2⟩, .inr rfl⟩
              exact ⟨h1.1, h1.2.1, h1.2.2.1, h1.2.2.2.1, h1.2.2.2.2.1, h1.2.2.2.2.2.1, h1.2.2.2.2.2.2, h2.1, h2.2.1, h2.2.2⟩
            have H11 := Lib.hid (And.intro hat11 hr11F)
            clear hv hf11 hr11 hat11 hk811 hr11F hap
            go_upto_region 25 with (fail)
            go_region_held3 (fun w' => w'.cell? ⟨c7, 0, none⟩ = some (.int .i64 (q : Int)) ∧ w'.cell? ⟨c7, 1, none⟩ = some (.int .i64 xi) ∧ w'.cell? ⟨c7, 2, none⟩ = some (.int .i64 xr) ∧ w'.cell? ⟨c7, 3, none⟩ = some (.int .i64 xo) ∧ w'.cell? ⟨c7, 4, none⟩ = some (str xk) ∧ w'.cell? ⟨c7, 5, none⟩ = some (str xv) ∧ w'.cell? ⟨c7, 6, none⟩ = some (str xd) ∧ w'.cell? ⟨r9, 0, none⟩ = some (.int .i64 rc) ∧ w'.cell? ⟨r9, 1, none⟩ = some (str rv) ∧ w'.cell? ⟨r9, 2, none⟩ = some (.int .i64 rn))
              (first | exact HKS.out _ (h0d.out.weaken fun _ _ _ => trivial) | exact HKS.out _ ka3 | exact HKS.out _ ks3 | exact HKS.out _ (ks3.drewN _))
              (first
                | (go_at_call 17; (with_reducible refine Calls.mono HAp.out ?_); rintro e wa ⟨rfl, ⟨F6, m6, g6⟩, ka, fa⟩; have ka3 : Keep (fun j => j = c7 ∨ j = r9) w11 wa := ((Keep.refl _ w11).drew).trans (ka.weaken fun j _ e => e.elim (fun e => e ▸ H8.out.2.2.2.2.1) (fun e => e ▸ H8.out.2.2.2.2.2.1)); have HSa := Lib.hid (mat_snap (HT.out.fresh fa) m6))
                | (go_at_call 16; (with_reducible refine Calls.mono HSa.out ?_); rintro e ws ⟨⟨v, rfl, hv⟩, hfs⟩; obtain ⟨As, qs, rfl, hrs⟩ := snap_rd hv; have ks3 : Keep (fun j => j = c7 ∨ j = r9) w11 ws := ka3.comp hfs (fun _ _ h => h) (fun _ _ _ => trivial); have HCs := Lib.hid (same_any _ _ As A11 _ qs _ q11 _ _ ws hrs ((H11.out.2.keep (((Keep.refl _ w11).drew).trans ka)).keep (hfs.weaken fun _ _ _ => trivial)) (by have := snap_len m6.inv; omega) (by have := snap_len m6.inv; omega)))
                | (go_at_call 19; (with_reducible refine Calls.mono HCs.out ?_); rintro e wt ⟨he, kt, rfl⟩; obtain rfl : e = .returned (.bool true) := by rw [he]; simp))
            all_goals
              go_wp2_with fail
              exact ⟨⟨k + 1, by omega, by simp, Lib.hid ⟨_, _, _, _, (((H11.out.1.then h0d.out).app m6 g6 ka fa).then hfs).then ((Keep.refl _ ws).drewN kt), HO2.out⟩⟩, by simp only [intOf]; omega⟩
      · rw [if_neg hv] at he
        subst he
        have hY := H7.out.2.2.2.2.2.2.1
        rw [applyD_bad (by simpa using hv)] at hY
        injection hY with e1 e2
        injection e1 with e3 e4 e5
        subst e2 e3 e4 e5
        have HS7 := Lib.hid (mat_snap (HT.out.fresh H7.out.1.fresh) H7.out.1.mat)
        clear hv
        go_wp2_with fail
        refine Calls.mono HS7.out ?_
        rintro e w8 ⟨⟨v, rfl, hv⟩, hf8⟩
        obtain ⟨A8, q8, rfl, hr8⟩ := snap_rd hv
        have HC8 := Lib.hid (same_any _ _ A8 A4 _ q8 ln q4 _ _ w8 hr8 (H7.out.2.2.2.1.keep (hf8.weaken fun _ _ _ => trivial)) (by have := H7.out.2.2.2.2.2.2.2; omega) (by omega))
        have H8 := Lib.hid (H7.out.1.then hf8)
        clear hv hr8 hf8 HS7
        go_wp2_with fail
        refine Calls.mono HC8.out ?_
        rintro e w9 ⟨he, k9, rfl⟩
        have e9 : e = .returned (.bool true) := by rw [he]; simp
        subst e9
        clear he
        go_wp2_with fail
        exact ⟨⟨k + 1, by omega, by simp, Lib.hid ⟨_, _, _, _, H8.out.then ((Keep.refl _ w8).drewN k9), HO.out⟩⟩, by simp only [intOf]; omega⟩
      -- ]]
    · obtain ⟨F0, s, last, told, hat, hon⟩ := HW.out
      have HS := Lib.hid (mat_snap (HT.out.fresh hat.fresh) hat.mat)
      have HA := Lib.hid hat
      have HO := Lib.hid hon
      clear hat hon HW
      have hcase : ¬ k < n ∨ (k < n ∧ ¬ k < 100) := by omega
      clear hlt
      rcases hcase with l1 | ⟨l1, l2⟩
      all_goals
        go_wp2_with fail
        refine Calls.mono HS.out ?_
        rintro e w4 ⟨⟨v, rfl, hv⟩, hf4⟩
        obtain ⟨A4, q4, rfl, hr4⟩ := snap_rd hv
        have hsl := snap_len HA.out.mat.inv
        have hr4' : Rd w4 (fun j => ¬ F0 j ∧ j < w4.heap.size) 1 A4 (snapB s).length (Lib.byteCells (snapB s)) := hr4.weaken fun j hj => ⟨fun e => by have := HA.out.mat.hi _ e; omega, hj.2⟩
        have H4 := Lib.hid (And.intro (HA.out.then hf4) hr4')
        obtain ⟨ln, hln⟩ : ∃ ln, ln = (snapB s).length := ⟨_, rfl⟩
        rw [← hln] at hsl H4 ⊢
        have HLn := Lib.hid hln
        clear hv hf4 hr4 hr4' hln HS HA
        go_wp2_with fail
        go_loopw [13] (fun qv wy => ∃ q : Nat, q ≤ 16 ∧ qv = .int .i64 (q : Int) ∧ Hid (∃ F : Nat → Prop, OnceF W wy F m L T s last told ∧ Rd wy (fun j => ¬ F j ∧ j < wy.heap.size) 1 A4 ln (Lib.byteCells (snapB s)))) (fun q _ => 16 - (intOf q).toNat)
        case atStart => exact ⟨0, by omega, rfl, Lib.hid ⟨_, H4.out⟩⟩
        case round =>
          rename World => wy
          obtain ⟨q, hq, rfl, HW⟩ := hrel
          by_cases hlq : q < 16
          · obtain ⟨F1, hat, hrd⟩ := HW.out
            have hqi : (q : Int) < 16 := by omega
            have HSe := Lib.hid (mat_session hat.mat (q : Int))
            have HA := Lib.hid (And.intro hat hrd)
            obtain ⟨z, hz⟩ : ∃ z, z = last.getD q noCm := ⟨_, rfl⟩
            obtain ⟨tt, htt⟩ : ∃ t, t = told.getD q noRs := ⟨_, rfl⟩
            have hses := HO.out.ses hlq
            have hend := HO.out.end hlq
            rw [← hz, ← htt] at hses hend
            obtain ⟨zc, zi, zr, zo, zk, zv, zd⟩ := z
            obtain ⟨tc, tv, tn⟩ := tt
            have HE := Lib.hid (And.intro hz (And.intro htt hend))
            have hlL := hat.lb.lt
            have hlT := hat.tb.lt
            simp only at hses
            clear hat hrd hz htt hend HW
            rcases hses with ⟨hp, hses⟩ | ⟨hp, hses⟩
            · rw [hses] at HSe
              have g1 : decide (0 < zi) = true := by simpa using hp
              have HP := Lib.hid hp
              clear hses hp hlL hlT
              go_wp2_with fail
              refine Calls.mono HSe.out ?_
              rintro e w5 ⟨rfl, hf5⟩
              have H5 := Lib.hid hf5
              clear hf5 HSe
              go_wp2_with (refine wpList_store_new rfl (.tmp 14) (.tmp 160) rfl _ (sesA ⟨zi, zr, ⟨tc, tv, tn⟩⟩) _ rfl rfl rfl (by kernel_rfl) (by simp [sesA, Value.oneCell']) ?_)
              intro w6 hb6 hf6 hs6
              obtain ⟨s14, hs14⟩ : ∃ s14, s14 = w5.heap.size := ⟨_, rfl⟩
              rw [← hs14] at hb6 ⊢
              have hf06 := H5.out.then hf6
              have hat6 := HA.out.1.then hf06
              have hL6 := hat6.lb.cm (q := q) (by rw [HO.out.l16]; exact hlq)
              have hT6 := hat6.tb.rs (q := q) (by rw [HO.out.t16]; exact hlq)
              rw [← HE.out.1] at hL6
              rw [← HE.out.2.1] at hT6
              have HLT := Lib.hid (And.intro hL6 hT6)
              obtain ⟨e0, e1, e2, e3, e4, e5, e6⟩ := hL6
              obtain ⟨t0, t1, t2⟩ := hT6
              simp only at e0 e1 e2 e3 e4 e5 e6 t0 t1 t2
              have y0 := hb6.cell 0; have y1 := hb6.cell 1; have y2 := hb6.cell 2; have y3 := hb6.cell 3; have y4 := hb6.cell 4
              simp [sesA] at y0 y1 y2 y3 y4
              have hlL := hat6.lb.lt
              have hlT := hat6.tb.lt
              have hls := hb6.lt
              have H6 := Lib.hid (And.intro hat6 ((HA.out.2.keep (hf06.weaken fun _ _ _ => trivial)).weaken fun j hj => And.intro hj.1 (Nat.lt_of_lt_of_le hj.2 hf06.size)))
              clear hb6 hf6 hs6 hs14 hf06 hat6 H5 HA
              go_wp2_with fail
              go_quiet (fail)
              have hap : ∀ d, Calls Tryz.prog 17 #[.pointer (some ⟨m, 0, none⟩), cmdV zc zi zr zo zk zv zd] (w6.drewN d) fun e w' => e = .returned (resV ⟨tc, tv, tn⟩) ∧ (∃ F' : Nat → Prop, MAt W.heap.size w' F' m s ∧ (∀ j, F' j → F1 j ∨ (w6.drewN d).heap.size ≤ j)) ∧ Keep (fun j => ¬ F1 j) (w6.drewN d) w' ∧ Fresh W w' := fun d => by
                have h := mat_apply HT.out (H6.out.1.fresh.drewN d) (H6.out.1.mat.fresh ((Keep.refl (fun _ => True) w6).drewN d)) zc zi zr zo zk zv zd
                rw [show applyD zc zi zr zo zk zv zd s = (⟨tc, tv, tn⟩, s) from HE.out.2.2 HP.out] at h
                exact h
              have HAp := Lib.hid hap
              clear hap
              generalize hw7 : w6.drewN nq = w7
              have h67 : Fresh w6 w7 := by rw [← hw7]; exact (Keep.refl _ w6).drewN nq
              have H7 := Lib.hid (And.intro (H6.out.1.then h67) ((H6.out.2.keep (h67.weaken fun _ _ _ => trivial)).weaken fun j hj => And.intro hj.1 (Nat.lt_of_lt_of_le hj.2 h67.size)))
              have HLT7 := Lib.hid (And.intro (HLT.out.1.keep h67 trivial) (HLT.out.2.keep h67 trivial))
              clear e0 e1 e2 e3 e4 e5 e6 t0 t1 t2 y0 y1 y2 y3 y4 HLT HAp hw7 h67 hls g1
              obtain ⟨⟨e0, e1, e2, e3, e4, e5, e6⟩, t0, t1, t2⟩ := HLT7.out
              simp only at e0 e1 e2 e3 e4 e5 e6 t0 t1 t2
              have hap := mat_apply HT.out (H7.out.1.fresh.drew) (H7.out.1.mat.fresh ((Keep.refl (fun _ => True) w7).drew)) zc zi zr zo zk zv zd
              rw [show applyD zc zi zr zo zk zv zd s = (⟨tc, tv, tn⟩, s) from HE.out.2.2 HP.out] at hap
              have HAp := Lib.hid hap
              have h0d : Hid (Fresh w7 (World.drew w7)) := Lib.hid ((Keep.refl _ w7).drew)
              have HKS : Hid (∀ w', Keep (fun j => j = L ∨ j = T) w7 w' → w'.cell? ⟨L, q * 7, none⟩ = some (.int .i64 zc) ∧ w'.cell? ⟨L, q * 7 + 1, none⟩ = some (.int .i64 zi) ∧ w'.cell? ⟨L, q * 7 + 2, none⟩ = some (.int .i64 zr) ∧ w'.cell? ⟨L, q * 7 + 3, none⟩ = some (.int .i64 zo) ∧ w'.cell? ⟨L, q * 7 + 4, none⟩ = some (str zk) ∧ w'.cell? ⟨L, q * 7 + 5, none⟩ = some (str zv) ∧ w'.cell? ⟨L, q * 7 + 6, none⟩ = some (str zd) ∧ w'.cell? ⟨T, q * 3, none⟩ = some (.int .i64 tc) ∧ w'.cell? ⟨T, q * 3 + 1, none⟩ = some (str tv) ∧ w'.cell? ⟨T, q * 3 + 2, none⟩ = some (.int .i64 tn)) := Lib.hid fun w' hf => by
                have h1 := HLT7.out.1.keep hf (.inl rfl)
                have h2 := HLT7.out.2.keep hf (.inr rfl)
                exact ⟨h1.1, h1.2.1, h1.2.2.1, h1.2.2.2.1, h1.2.2.2.2.1, h1.2.2.2.2.2.1, h1.2.2.2.2.2.2, h2.1, h2.2.1, h2.2.2⟩
              clear hap HLT7 H6
              go_upto_region 34 with (fail)
              go_region_held3 (fun w' => w'.cell? ⟨L, q * 7, none⟩ = some (.int .i64 zc) ∧ w'.cell? ⟨L, q * 7 + 1, none⟩ = some (.int .i64 zi) ∧ w'.cell? ⟨L, q * 7 + 2, none⟩ = some (.int .i64 zr) ∧ w'.cell? ⟨L, q * 7 + 3, none⟩ = some (.int .i64 zo) ∧ w'.cell? ⟨L, q * 7 + 4, none⟩ = some (str zk) ∧ w'.cell? ⟨L, q * 7 + 5, none⟩ = some (str zv) ∧ w'.cell? ⟨L, q * 7 + 6, none⟩ = some (str zd) ∧ w'.cell? ⟨T, q * 3, none⟩ = some (.int .i64 tc) ∧ w'.cell? ⟨T, q * 3 + 1, none⟩ = some (str tv) ∧ w'.cell? ⟨T, q * 3 + 2, none⟩ = some (.int .i64 tn))
                (first | exact HKS.out _ (h0d.out.weaken fun _ _ _ => trivial) | exact HKS.out _ ka3 | exact HKS.out _ ks3 | exact HKS.out _ (ks3.drewN _))
                (first
                  | (go_at_call 17; (with_reducible refine Calls.mono HAp.out ?_); rintro e wa ⟨rfl, ⟨F6, m6, g6⟩, ka, fa⟩; have ka3 : Keep (fun j => j = L ∨ j = T) w7 wa := ((Keep.refl _ w7).drew).trans (ka.weaken fun j _ e => e.elim (fun e => e ▸ H7.out.1.nl) (fun e => e ▸ H7.out.1.nt)); have HSa := Lib.hid (mat_snap (HT.out.fresh fa) m6))
                  | (go_at_call 16; (with_reducible refine Calls.mono HSa.out ?_); rintro e ws ⟨⟨v, rfl, hv⟩, hfs⟩; obtain ⟨As, qs, rfl, hrs⟩ := snap_rd hv; have ks3 : Keep (fun j => j = L ∨ j = T) w7 ws := ka3.comp hfs (fun _ _ h => h) (fun _ _ _ => trivial); have HCs := Lib.hid (same_any _ _ As A4 _ qs _ q4 _ _ ws hrs ((H7.out.2.keep (((Keep.refl _ w7).drew).trans (ka.weaken fun _ _ h => h.1))).keep (hfs.weaken fun _ _ _ => trivial)) (by have := snap_len m6.inv; omega) (by omega)))
                  | (go_at_call 19; (with_reducible refine Calls.mono HCs.out ?_); rintro e wt ⟨he, kt, rfl⟩; obtain rfl : e = .returned (.bool true) := by rw [he]; simp))
              all_goals
                go_wp2_with fail
                exact ⟨⟨q + 1, by omega, by simp, Lib.hid ⟨_, (((H7.out.1.then h0d.out).app m6 g6 ka fa).then hfs).then ((Keep.refl _ ws).drewN kt), once_rd H7.out.2 ka g6 hfs kt⟩⟩, by simp only [intOf]; omega⟩
            · obtain rfl : zi = 0 := hp
              rw [hses] at HSe
              clear hses hlL hlT
              go_wp2_with fail
              refine Calls.mono HSe.out ?_
              rintro e w5 ⟨rfl, hf5⟩
              have H5 := Lib.hid hf5
              clear hf5 HSe
              go_wp2_with (refine wpList_store_new rfl (.tmp 14) (.tmp 160) rfl _ (sesA noSes) _ rfl rfl rfl (by kernel_rfl) (by simp [sesA, Value.oneCell']) ?_)
              intro w6 hb6 hf6 hs6
              obtain ⟨s14, hs14⟩ : ∃ s14, s14 = w5.heap.size := ⟨_, rfl⟩
              rw [← hs14] at hb6 ⊢
              have hf06 := H5.out.then hf6
              have hat6 := HA.out.1.then hf06
              have hL6 := hat6.lb.cm (q := q) (by rw [HO.out.l16]; exact hlq)
              rw [← HE.out.1] at hL6
              have e1 := hL6.2.1
              simp only at e1
              have hlL := hat6.lb.lt
              have H6 := Lib.hid (And.intro hat6 ((HA.out.2.keep (hf06.weaken fun _ _ _ => trivial)).weaken fun j hj => And.intro hj.1 (Nat.lt_of_lt_of_le hj.2 hf06.size)))
              clear hb6 hf6 hs6 hs14 hf06 hat6 hL6 H5 HA
              go_wp2_with fail
              go_quiet (fail)
              go_wp2_with fail
              go_quiet (fail)
              go_wp2_with fail
              exact ⟨⟨q + 1, by omega, by simp, Lib.hid ⟨_, H6.out.1.then ((Keep.refl _ w6).drewN _), (H6.out.2.drewN _).weaken fun j hj => hj⟩⟩, by simp only [intOf]; omega⟩
          · obtain rfl : q = 16 := by omega
            go_wp2_with fail
            go_ret
            obtain ⟨F1, hat, hrd⟩ := HW.out
            exact ⟨rfl, hat.fresh⟩
end Go.Proofs.YtlibhkehebioeaaGreatDoor
namespace Go.Proofs.YtlibhkehebioeaaGreatDoor
set_option linter.unusedVariables false
set_option linter.unusedSimpArgs false
open Go.ChangeShapes Go.WideShapes Go.ChangeAt Go.RowKit

theorem laidOut : laidOutB Tryz.prog = true := by kernel_rfl
theorem trodAll_below {H : Type} {enc : TypeId × Value → H} {P : Program} (hl : laidOutB P = true) {W W' : World} (hb : Below W.heap.size W W') :
    ∀ {ts : List TypeId} {vs : List Value} {ds : List (DataW H)} {ps : List MemPlace}, (∀ t ∈ ts, P.readableRec t = true ∧ t < P.types.size) → DataW.TrodAll enc P W 0 (fun _ => true) true ts vs ds ps → (∀ x ∈ ps, x.block < W.heap.size) →
      DataW.TrodAll enc P W' 0 (fun b => decide (b < W.heap.size)) true ts vs ds ps
  | [], _, _, _, _, h, _ => by
    obtain ⟨rfl, rfl, rfl⟩ := trodAll_nil h
    exact trodAll_mk0
  | t :: ts, _, _, _, hr, h, hlt => by
    obtain ⟨v0, vs0, d0, ds0, p0, q0, rfl, rfl, rfl, h0, r0⟩ := trodAll_cons h
    have ht := hr t (by simp)
    exact trodAll_cons_mk (Below.trod hl ht.1 ht.2 h0 hb (fun x hx => hlt x (by simp [hx]))) (trodAll_below hl hb (fun t ht => hr t (by simp [ht])) r0 (fun x hx => hlt x (by simp [hx])))
/-- What a law's contract owes, where nothing old has turned and the answer is true. -/
theorem post_true {H : Type} {enc : TypeId × Value → H} {P : Program} {f : Func} {s : ChangeSpec} {W W' : World} {args : Array Value} {ds gs : List (DataW H)} {before : List MemPlace} {tb : TypeId}
    (hl : laidOutB P = true) (hpar : f.params.toList.all (fun t => P.readableRec t && decide (t < P.types.size)) = true) (hrt : f.resultTypes = #[tb]) (htb : P.underlying tb = some .bool) (hv : s.vars = [])
    (hW : DataW.Whole enc P f.params.toList s.vars false W args.toList ds gs before) (hfn : s.fn H ds = { results := [.lit (.bool true)], args := ds }) (hb : Below W.heap.size W W') :
    s.post enc P f false true false false W args (.bool true) W' := by
  have hW' := hW
  obtain ⟨p, q, hA, hV, rfl, hfz, hnd⟩ := hW
  rw [hv] at hV
  obtain ⟨rfl, rfl⟩ := trodVars_none hV
  have hlt : ∀ x ∈ p, x.block < W.heap.size := fun x hx => by simpa using hW'.lt x (by simp [hx])
  have hp : ∀ t ∈ f.params.toList, P.readableRec t = true ∧ t < P.types.size := fun t ht => by
    have := List.all_eq_true.1 hpar t ht
    simpa using this
  refine ⟨ds, [], p ++ [], [], p, [], hW', ?_, ?_, ?_, hb.frame _, fun h => by cases h⟩
  · rw [List.append_nil, hfn, hrt]
    exact trodAll_mk1 (shut_bool htb _)
  · rw [List.append_nil, hfn]
    exact trodAll_below hl hb hp hA hlt
  · rw [hv, List.append_nil, hfn]
    exact rfl
end Go.Proofs.YtlibhkehebioeaaGreatDoor
namespace Go.Proofs.YtlibhkehebioeaaGreatDoor
set_option linter.unusedVariables false
set_option linter.unusedSimpArgs false
open Go.ChangeShapes Go.WideShapes Go.ChangeAt Go.RowKit Go.Joins

theorem cI : Tryz.prog.cellsOf 3 = 1 := by kernel_rfl
theorem cS : Tryz.prog.cellsOf 9 = 1 := by kernel_rfl
theorem cC : Tryz.prog.cellsOf 30 = 7 := by kernel_rfl
theorem bulk_one {H : Type} (d : DataW H) : 1 ≤ Rows.uptoBulk d := by
  cases d with
  | lit l => cases l <;> simp [Rows.uptoBulk]
  | _ => simp [Rows.uptoBulk]
theorem bulks_len {H : Type} : ∀ l : List (DataW H), l.length ≤ Rows.uptoBulkAll l
  | [] => Nat.zero_le _
  | d :: r => by
    have h := bulks_len r
    have h1 := bulk_one d
    simp only [Rows.uptoBulkAll, List.length_cons]
    omega
theorem bulk_mem {H : Type} {d : DataW H} : ∀ {l : List (DataW H)}, d ∈ l → Rows.uptoBulk d ≤ Rows.uptoBulkAll l
  | x :: r, h => by
    simp only [Rows.uptoBulkAll]
    rcases List.mem_cons.1 h with rfl | h
    · omega
    · have := bulk_mem h
      omega
theorem str_of (s : ByteArray) : Value.string s = str s.data.toList := by
  obtain ⟨a⟩ := s
  simp [str]
section
variable {H : Type} {enc : TypeId × Value → H}
set_option maxRecDepth 100000 in
theorem open_c {W : World} {n : Nat} {cs : List Value} {y : DataW H × List MemPlace} (h : DataW.trod enc Tryz.prog W 0 (fun _ => true) true n 30 cs = some y) : ∃ x : CmD, cs = x.cells := by
  obtain ⟨xs, n, _, _, hlc, hlen, hg⟩ := DataW.trod_struct Tryz.underlying30 h
  match cs, hlc.trans cC, xs, hlen with
  | [c0, c1, c2, c3, c4, c5, c6], _, [y0, y1, y2, y3, y4, y5, y6], _ =>
    have g0 : DataW.trod enc Tryz.prog W 0 (fun _ => true) true n 3 (([c0, c1, c2, c3, c4, c5, c6].drop 0).take (Tryz.prog.cellsOf 3)) = some y0 := hg 0 _ rfl
    rw [cI] at g0
    have g1 : DataW.trod enc Tryz.prog W 0 (fun _ => true) true n 3 (([c0, c1, c2, c3, c4, c5, c6].drop 1).take (Tryz.prog.cellsOf 3)) = some y1 := hg 1 _ rfl
    rw [cI] at g1
    have g2 : DataW.trod enc Tryz.prog W 0 (fun _ => true) true n 3 (([c0, c1, c2, c3, c4, c5, c6].drop 2).take (Tryz.prog.cellsOf 3)) = some y2 := hg 2 _ rfl
    rw [cI] at g2
    have g3 : DataW.trod enc Tryz.prog W 0 (fun _ => true) true n 3 (([c0, c1, c2, c3, c4, c5, c6].drop 3).take (Tryz.prog.cellsOf 3)) = some y3 := hg 3 _ rfl
    rw [cI] at g3
    have g4 : DataW.trod enc Tryz.prog W 0 (fun _ => true) true n 9 (([c0, c1, c2, c3, c4, c5, c6].drop 4).take (Tryz.prog.cellsOf 9)) = some y4 := hg 4 _ rfl
    rw [cS] at g4
    have g5 : DataW.trod enc Tryz.prog W 0 (fun _ => true) true n 9 (([c0, c1, c2, c3, c4, c5, c6].drop 5).take (Tryz.prog.cellsOf 9)) = some y5 := hg 5 _ rfl
    rw [cS] at g5
    have g6 : DataW.trod enc Tryz.prog W 0 (fun _ => true) true n 9 (([c0, c1, c2, c3, c4, c5, c6].drop 6).take (Tryz.prog.cellsOf 9)) = some y6 := hg 6 _ rfl
    rw [cS] at g6
    obtain ⟨n0, e0, _⟩ := DataW.trod_int Tryz.underlying3 g0
    obtain ⟨n1, e1, _⟩ := DataW.trod_int Tryz.underlying3 g1
    obtain ⟨n2, e2, _⟩ := DataW.trod_int Tryz.underlying3 g2
    obtain ⟨n3, e3, _⟩ := DataW.trod_int Tryz.underlying3 g3
    obtain ⟨s4, e4, _⟩ := DataW.trod_string Tryz.underlying9 g4
    obtain ⟨s5, e5, _⟩ := DataW.trod_string Tryz.underlying9 g5
    obtain ⟨s6, e6, _⟩ := DataW.trod_string Tryz.underlying9 g6
    obtain rfl : c0 = .int .i64 n0 := by simpa [cI, cS] using e0
    obtain rfl : c1 = .int .i64 n1 := by simpa [cI, cS] using e1
    obtain rfl : c2 = .int .i64 n2 := by simpa [cI, cS] using e2
    obtain rfl : c3 = .int .i64 n3 := by simpa [cI, cS] using e3
    obtain rfl : c4 = .string s4 := by simpa [cI, cS] using e4
    obtain rfl : c5 = .string s5 := by simpa [cI, cS] using e5
    obtain rfl : c6 = .string s6 := by simpa [cI, cS] using e6
    exact ⟨⟨n0, n1, n2, n3, s4.data.toList, s5.data.toList, s6.data.toList⟩, by rw [str_of s4, str_of s5, str_of s6]; rfl⟩
/-- A slice of structs, opened at each index. -/
theorem open_rows {α : Type} {f : α → List Value} {k : Nat} {W : World} {n : Nat} {c : Value} {y : DataW H × List MemPlace} {t e : TypeId} (ht : Tryz.prog.underlying t = some (.slice e)) (hk : Tryz.prog.cellsOf e = k) (hf : ∀ a, (f a).length = k) (hk0 : 0 < k) {p : α → DataW H → Prop}
    (he : ∀ n cs y, DataW.trod enc Tryz.prog W 0 (fun _ => true) true n e cs = some y → ∃ x, cs = f x ∧ p x y.1) (h : DataW.trod enc Tryz.prog W 0 (fun _ => true) true n t [c] = some y) :
    ∃ xs : List α, (∃ (A : Option Addr) (cap : Nat), c = .slice A xs.length cap ∧ xs.length ≤ cap ∧ (xs.length = 0 → cap = 0 ∨ A ≠ none) ∧ Rd W (fun _ => True) k A xs.length (rcells f xs)) ∧ xs.length ≤ Rows.uptoBulk y.1 ∧ c.oneCell' = true ∧ ∀ x ∈ xs, ∃ d, p x d ∧ Rows.uptoBulk d ≤ Rows.uptoBulk y.1 := by
  rcases Go.Deep.open_slice ht h with ⟨hcs, rfl⟩ | ⟨a, len, cap, m, n', D, Pl, hcs, _, hl, hm, hmm, hy, hel⟩
  · obtain rfl : c = .slice none 0 0 := by simpa using hcs
    exact ⟨[], ⟨none, 0, rfl, Nat.le_refl _, fun _ => .inl rfl, Rd.nil _ _ _ _⟩, Nat.zero_le _, rfl, fun x hx => by cases hx⟩
  · obtain rfl : c = .slice (some a) len cap := by simpa using hcs
    simp only [if_true] at hmm
    rw [hmm] at hy hel
    clear hmm
    subst hy
    have hx : ∀ i, i < len → ∃ x : α, p x (D i) ∧ W.cells? 0 (a.add (i * k)) k = some (f x) := fun i hi => by
      obtain ⟨cs', h1, h2⟩ := hel i (by omega)
      rw [hk] at h1
      obtain ⟨x, rfl, hp⟩ := he _ _ _ h2
      exact ⟨x, hp, h1⟩
    obtain ⟨xs, hxl, hxs⟩ : ∃ xs : List α, xs.length = len ∧ ∀ i (hi : i < xs.length), p xs[i] (D i) ∧ W.cells? 0 (a.add (i * k)) k = some (f xs[i]) := by
      clear hel hl hm h hcs
      induction len with
      | zero => exact ⟨[], rfl, fun i hi => by cases hi⟩
      | succ len ih =>
        obtain ⟨xs, h1, h2⟩ := ih (fun i hi => hx i (by omega))
        obtain ⟨x, hx1, hx2⟩ := hx len (by omega)
        refine ⟨xs ++ [x], by simp [h1], fun i hi => ?_⟩
        by_cases hlt : i < xs.length
        · rw [List.getElem_append_left hlt]
          exact h2 i hlt
        · have : i = len := by simp at hi; omega
          subst this
          rw [List.getElem_append_right (by omega)]
          simp only [h1, Nat.sub_self, List.getElem_cons_zero]
          exact ⟨hx1, hx2⟩
    have hbulk : Rows.uptoBulkAll ((List.range len).map D) ≤ Rows.uptoBulk (DataW.slice ((List.range len).map D) ((List.range (cap - len)).map fun j => D (len + j))) := by
      simp only [Rows.uptoBulk]
      omega
    refine ⟨xs, ?_, ?_, rfl, fun x hx => ?_⟩
    · rw [hxl]
      refine ⟨some a, cap, rfl, hl, fun _ => .inr (by simp), by rw [rcells_len hf, hxl], fun hn => ?_⟩
      have hcell : ∀ i (hi : i < xs.length) j u, (f xs[i])[j]? = some u → W.cell? (a.add (i * k + j)) = some u := fun i hi j u hu => by
        have hj : j < k := by
          rcases Nat.lt_or_ge j k with h1 | h1
          · exact h1
          · rw [List.getElem?_eq_none (by rw [hf]; exact h1)] at hu; cases hu
        have := (World.cells?_some (hxs i hi).2).2.2 j hj
        rw [hu] at this
        rwa [Go.Deep.add_add] at this
      have h0 : 0 < xs.length := by omega
      have hf0 : 0 < (f xs[0]).length := by rw [hf]; exact hk0
      obtain ⟨ab, ao, spot⟩ := a
      have hspot : spot = none := by simpa [Addr.add] using World.cell?_spot (hcell 0 h0 0 _ (List.getElem?_eq_getElem hf0))
      subst hspot
      refine ⟨ab, ao, rfl, trivial, fun j u hu => ?_⟩
      have hj : j < len * k := by
        rcases Nat.lt_or_ge j (len * k) with h | h
        · exact h
        · rw [List.getElem?_eq_none (by rw [rcells_len hf, hxl]; exact h)] at hu; cases hu
      have hd : j / k < xs.length := by rw [hxl]; exact Nat.div_lt_of_lt_mul (by rw [Nat.mul_comm]; exact hj)
      have hjk : j / k * k + j % k = j := Nat.div_add_mod' j k
      have h1 := hcell (j / k) hd (j % k) u (by rw [← rcells_get hf xs _ hd (j % k) (Nat.mod_lt _ hk0), hjk]; exact hu)
      rw [hjk, Addr.add_lit] at h1
      exact h1
    · have h1 := bulks_len ((List.range len).map D)
      rw [List.length_map, List.length_range] at h1
      show xs.length ≤ Rows.uptoBulk (DataW.slice _ _)
      omega
    · obtain ⟨i, hi, rfl⟩ := List.mem_iff_getElem.1 hx
      refine ⟨D i, (hxs i hi).1, Nat.le_trans (bulk_mem ?_) hbulk⟩
      exact List.mem_map_of_mem (List.mem_range.2 (by omega))

set_option maxRecDepth 100000 in
theorem open_cmds {W : World} {base : Nat} {v : Value} {d : DataW H} {p : List MemPlace} (hval : Value.okWide Tryz.prog W .any base 25 v) (h : DataW.Trod enc Tryz.prog W 0 (fun _ => true) true 25 v d p) :
    ∃ (A : Option Addr) (c : Nat) (cs : List CmD), v = .slice A cs.length c ∧ Rd W (fun _ => True) 7 A cs.length (rcells CmD.cells cs) ∧ cs.length ≤ Rows.uptoBulk d := by
  obtain ⟨a1, len, cap, rfl⟩ := okWide_slice Tryz.underlying25 hval
  obtain ⟨fuel, hf⟩ := h
  have hf' : DataW.trod enc Tryz.prog W 0 (fun _ => true) true fuel 25 [.slice a1 len cap] = some (d, p) := hf
  obtain ⟨xs, ⟨A, c, e, _, _, hr⟩, hbk, _, _⟩ := open_rows (f := CmD.cells) (p := fun _ _ => True) Tryz.underlying25 cC cm_seven (by omega) (fun n cs y h => by obtain ⟨x, hx⟩ := open_c h; exact ⟨x, hx, trivial⟩) hf'
  exact ⟨A, c, xs, e, hr, hbk⟩
end
end Go.Proofs.YtlibhkehebioeaaGreatDoor
