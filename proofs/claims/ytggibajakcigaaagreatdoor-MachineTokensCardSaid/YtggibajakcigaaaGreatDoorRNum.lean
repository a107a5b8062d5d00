/-
  WALK OF quorateref13's 'Number'.
-/
import Derived.Test.YtggibajakcigaaaGreatDoorNum
namespace Go.Proofs.YtggibajakcigaaaGreatDoor
set_option linter.unusedVariables false
set_option linter.unusedSimpArgs false
open Go.RowKit

/-- The k-th byte of a text, for the walk. -/
theorem str_byte (l : List UInt8) (s : ByteArray) (hs : s = ByteArray.mk l.toArray) (k : Nat) (hk : k < l.length) (h : k < s.size) : (s[k]'h).toNat = l[k].toNat := by subst hs; rfl
/-- A byte of a text, for the walk to take. -/
theorem idx_str (s : ByteArray) (k : Nat) (z x : Int) (hk : k < s.size) (hz : z = (k : Int)) (hx : ((s[k]'hk).toNat : Int) = x) (w : World) :
    (Instr.index 9 (.string s) (.int .i64 z)).run Tryz.prog w = .ok (.int .u8 x) w := by
  subst hz hx
  rw [run_index_string w 9 _ .i64 _ Tryz.underlying9, dif_pos ⟨by omega, by omega⟩]
  simp only [Int.toNat_natCast]
theorem drop_cons {l : List UInt8} {k : Nat} (hk : k < l.length) : l.drop k = l[k] :: l.drop (k + 1) := List.drop_eq_getElem_cons hk
theorem rdig_none {l : List UInt8} {i0 : Nat} {neg : Bool} (h : l.length ≤ i0) : rdig l (l.drop i0) neg = (0, false) := by
  rw [List.drop_of_length_le h]; rfl
theorem rdig_lead {l : List UInt8} {i0 : Nat} {neg : Bool} (h : i0 < l.length) (hc : l[i0].toNat < 49 ∨ 57 < l[i0].toNat) : rdig l (l.drop i0) neg = (0, false) := by
  rw [drop_cons h, rdig, if_pos hc]
theorem rdig_dec {l : List UInt8} {i0 : Nat} {neg : Bool} (h : i0 < l.length) (hc : ¬ (l[i0].toNat < 49 ∨ 57 < l[i0].toNat)) : rdig l (l.drop i0) neg = match Lib.decFrom 0 (l.drop i0) with
    | none => (0, false)
    | some m => (if neg = true then -(m : Int) else (m : Int), true) := by
  rw [drop_cons h, rdig, if_neg hc]
  all_goals rfl
theorem decFrom_bad {xs ys : List UInt8} {b : UInt8} {a m : Nat} (h : Lib.decFrom a xs = some m) (hb : Lib.digitVal b = none) : Lib.decFrom a (xs ++ b :: ys) = none := by
  rw [decFrom_append, h]
  simp [Lib.decFrom, hb]
theorem take_drop_step {l : List UInt8} {i0 k : Nat} (hi : i0 ≤ k) (hk : k < l.length) : (l.drop i0).take (k + 1 - i0) = (l.drop i0).take (k - i0) ++ [l[k]] := by
  rw [show k + 1 - i0 = (k - i0) + 1 by omega, List.take_succ_eq_append_getElem (by simp; omega)]
  congr 2
  simp only [List.getElem_drop]
  congr 1
  omega
theorem drop_split {l : List UInt8} {i0 k : Nat} (hi : i0 ≤ k) (hk : k < l.length) : l.drop i0 = (l.drop i0).take (k - i0) ++ l[k] :: l.drop (k + 1) := by
  have h := (List.take_append_drop (k - i0) (l.drop i0)).symm
  rw [List.drop_drop, show i0 + (k - i0) = k by omega, drop_cons hk] at h
  exact h
theorem decFrom_small {l : List UInt8} {i0 k m : Nat} (h : Lib.decFrom 0 ((l.drop i0).take (k - i0)) = some m) (hl : l.length ≤ 8) : m < 100000000 := by
  have h1 := Lib.decFrom_lt _ _ _ h
  have h2 : ((l.drop i0).take (k - i0)).length ≤ 8 := by simp; omega
  have h3 : 10 ^ ((l.drop i0).take (k - i0)).length ≤ 10 ^ 8 := Nat.pow_le_pow_right (by decide) h2
  omega

set_option maxRecDepth 20000 in
set_option maxHeartbeats 2000000 in
theorem rnumber_any (l : List UInt8) (w : World) : Calls Tryz.prog 25 #[str l] w fun e w' => e = .returned (.tuple #[.int .i64 (rnum l).1, .bool (rnum l).2]) ∧ w = w' := by
  obtain ⟨t, ht⟩ : ∃ t, t = rnum l := ⟨_, rfl⟩
  rw [← ht]
  unfold rnum at ht
  by_cases hl : l.length = 0 ∨ 8 < l.length
  · rw [if_pos hl] at ht
    subst ht
    rcases hl with hl | hl
    · obtain rfl : l = [] := List.eq_nil_of_length_eq_zero hl
      clear hl
      go_enter Tryz.func25, Tryz.ntmps25
      go_wp2_with fail
      all_goals
        go_ret2
        exact ⟨rfl, rfl⟩
    · have h8 : (8 : Int) < (l.length : Int) := by omega
      clear hl
      go_enter Tryz.func25, Tryz.ntmps25
      go_wp2_with fail
      all_goals
        go_ret2
        exact ⟨rfl, rfl⟩
  · rw [if_neg hl] at ht
    by_cases hz : l = [48]
    · rw [if_pos hz] at ht
      subst hz ht
      clear hl
      go_enter Tryz.func25, Tryz.ntmps25
      go_wp2_with fail
      all_goals
        go_ret2
        exact ⟨rfl, rfl⟩
    · rw [if_neg hz] at ht
      obtain ⟨s, hs⟩ : ∃ s : ByteArray, s = ByteArray.mk l.toArray := ⟨_, rfl⟩
      have hsl : s.size = l.length := by rw [hs]; rfl
      have h0 : 0 < s.size := by omega
      obtain ⟨x0, hx0⟩ : ∃ x0 : Int, ((s[0]'h0).toNat : Int) = x0 := ⟨_, rfl⟩
      have ht2 : t = if x0 = 45 then rdig l (l.drop 1) true else rdig l (l.drop 0) false := by
        cases l with
        | nil => simp at hl
        | cons b r =>
          rw [ht]
          have e : (b = 45) = (x0 = 45) := by
            subst hs
            rw [← hx0]
            apply propext
            constructor
            · rintro rfl; rfl
            · intro h
              have h : (b.toNat : Int) = 45 := h
              exact UInt8.toNat_inj.1 (by rw [show b.toNat = 45 by omega]; rfl)
          simp only [e]
          rfl
      have g0 : (0 : Int) < (s.size : Int) := by omega
      have g8 : (s.size : Int) ≤ 8 := by omega
      have q1 : ¬ (s = ByteArray.mk #[48]) := fun h => hz (by rw [hs] at h; injection h with h; simpa using congrArg Array.toList h)
      have q2 : ((s.size : Int) == 0) = false := beq_eq_false_iff_ne.2 (by omega)
      have q4 : (s.toList == [48]) = false := by rw [hs]; simpa using hz
      rw [show str l = Value.string s by rw [hs]]
      have HL := Lib.hid (And.intro hl (And.intro hs hsl))
      clear hs hsl
      have i0 := idx_str s 0 0 x0 h0 rfl hx0 w
      replace hx0 := Lib.hid hx0
      have HT := Lib.hid ht2
      clear hl ht ht2
      by_cases hx : x0 = 45
      · have hT2 := HT.out
        rw [if_pos hx] at hT2
        have hx45 : (s[0]'h0).toNat = 45 := by have := hx0.out; omega
        clear hx0
        subst hx
        clear hx45
        by_cases h1 : l.length ≤ 1
        · rw [rdig_none h1] at hT2
          have g1 : (s.size : Int) ≤ 1 := by have := HL.out.2.2; omega
          subst hT2
          clear h1 HT
          go_enter Tryz.func25, Tryz.ntmps25
          go_wp2_with fail
          all_goals
            go_ret2
            exact ⟨rfl, rfl⟩
        · have h1' : 1 < s.size := by have := HL.out.2.2; omega
          have g1 : (1 : Int) < (s.size : Int) := by omega
          obtain ⟨x1, hx1⟩ : ∃ x1 : Int, ((s[1]'h1').toNat : Int) = x1 := ⟨_, rfl⟩
          have i1 := idx_str s 1 1 x1 h1' rfl hx1 w
          by_cases hc : x1 < 49 ∨ 57 < x1
          · have hl1 : 1 < l.length := by have := HL.out.2.2; omega
            rw [rdig_lead hl1 (by rw [← str_byte l s HL.out.2.1 1 hl1 h1']; omega)] at hT2
            subst hT2
            clear h1 HT hx1
            rcases hc with hc | hc
            all_goals
              go_enter Tryz.func25, Tryz.ntmps25
              go_wp2_with fail
              all_goals
                go_ret2
                exact ⟨rfl, rfl⟩
          · have hl1 : 1 < l.length := by have := HL.out.2.2; omega
            rw [rdig_dec hl1 (by rw [← str_byte l s HL.out.2.1 1 hl1 h1']; omega)] at hT2
            have HT2 := Lib.hid hT2
            have c1 : 49 ≤ x1 := by omega
            have c2 : x1 ≤ 57 := by omega
            clear hc hT2 h1 HT hx1
            go_enter Tryz.func25, Tryz.ntmps25
            go_wp2_with fail
            clear i0 i1
            go_loopw [5, 6] (fun a i wr => ∃ (k : Nat) (z : Int), 1 ≤ k ∧ k ≤ s.size ∧ i = .int .i64 (k : Int) ∧ a = .int .i64 z ∧ wr = w ∧ Hid (∃ m : Nat, z = (m : Int) ∧ Lib.decFrom 0 ((l.drop 1).take (k - 1)) = some m)) (fun _ i _ => s.size - (intOf i).toNat)
            case atStart => exact ⟨1, 0, by omega, by omega, rfl, rfl, rfl, Lib.hid ⟨0, rfl, by simp [Lib.decFrom]⟩⟩
            case round =>
              obtain ⟨k, z, hk1, hk, rfl, rfl, rfl, HW⟩ := hrel
              by_cases hlt : k < s.size
              · obtain ⟨x, hx⟩ : ∃ x : Int, ((s[k]'hlt).toNat : Int) = x := ⟨_, rfl⟩
                have hll : k < l.length := by have := HL.out.2.2; omega
                have ik := idx_str s k _ x hlt rfl hx wr
                obtain ⟨hz0, hz9⟩ : 0 ≤ z ∧ z < 100000000 := by
                  obtain ⟨m, hm, hW⟩ := HW.out
                  have := decFrom_small hW (by have := HL.out.1; omega)
                  omega
                by_cases hd : 48 ≤ x ∧ x ≤ 57
                · obtain ⟨hd1, hd2⟩ := hd
                  obtain ⟨y, hy⟩ : ∃ y : Nat, x = (y : Int) + 48 := ⟨(x - 48).toNat, by omega⟩
                  have hv : Lib.digitVal l[k] = some y := by
                    have := str_byte l s HL.out.2.1 k hll hlt
                    unfold Lib.digitVal
                    rw [if_pos (by omega)]
                    congr 1
                    omega
                  have hs : ∃ m : Nat, 10 * z + (x - 48) = (m : Int) ∧ Lib.decFrom 0 ((l.drop 1).take (k + 1 - 1)) = some m := by
                    obtain ⟨m, hm, hW⟩ := HW.out
                    refine ⟨10 * m + y, by omega, ?_⟩
                    rw [take_drop_step hk1 hll, decFrom_append, hW]
                    simp [Lib.decFrom, hv, Nat.mul_comm]
                  have HS := Lib.hid hs
                  have HY := Lib.hid hy
                  clear hs hv HW hx hy
                  go_wp2_with fail
                  have hy := HY.out
                  refine ⟨⟨k + 1, 10 * z + (x - 48), by omega, by omega, congrArg _ (by omega), congrArg _ (by omega), (by simp), HS⟩, by simp [intOf]; omega⟩
                · have hv : Lib.digitVal l[k] = none := by
                    have := str_byte l s HL.out.2.1 k hll hlt
                    unfold Lib.digitVal
                    rw [if_neg (by omega)]
                  have hT : t = (0, false) := by
                    obtain ⟨m, hm, hW⟩ := HW.out
                    rw [HT2.out, drop_split hk1 hll, decFrom_bad hW hv]
                  subst hT
                  clear hv HW HT2 hx
                  by_cases hd1 : x < 48
                  all_goals
                    go_wp2_with fail
                    all_goals
                      go_ret2
                      exact ⟨rfl, rfl⟩
              · have hT : t = (-z, true) := by
                  rw [HT2.out]
                  obtain ⟨m, hm, this⟩ := HW.out
                  rw [List.take_of_length_le (by have := HL.out.2.2; simp; omega)] at this
                  rw [this, hm]
                  simp
                subst hT
                clear HT2
                obtain ⟨hz0, hz9⟩ : 0 ≤ z ∧ z < 100000000 := by
                  obtain ⟨m, hm, hW⟩ := HW.out
                  have := decFrom_small hW (by have := HL.out.1; omega)
                  omega
                clear HW
                go_wp2_with fail
                go_ret2
                exact ⟨rfl, rfl⟩
      · have hT2 := HT.out
        rw [if_neg hx] at hT2
        have q5 : (x0 == 45) = false := by simpa using hx
        have q6 : ¬ (s = ByteArray.empty) := by rintro rfl; simp at h0
        have h1' : 0 < s.size := h0
        by_cases hc : x0 < 49 ∨ 57 < x0
        · have hl1 : 0 < l.length := by have := HL.out.2.2; omega
          rw [rdig_lead hl1 (by rw [← str_byte l s HL.out.2.1 0 hl1 h1']; have := hx0.out; omega)] at hT2
          subst hT2
          clear HT hx0
          rcases hc with hc | hc
          all_goals
            go_enter Tryz.func25, Tryz.ntmps25
            go_wp2_with fail
            all_goals
              go_ret2
              exact ⟨rfl, rfl⟩
        · have hl1 : 0 < l.length := by have := HL.out.2.2; omega
          rw [rdig_dec hl1 (by rw [← str_byte l s HL.out.2.1 0 hl1 h1']; have := hx0.out; omega)] at hT2
          have HT2 := Lib.hid hT2
          have c1 : 49 ≤ x0 := by omega
          have c2 : x0 ≤ 57 := by omega
          clear hc hT2 HT
          · go_enter Tryz.func25, Tryz.ntmps25
            go_wp2_with fail
            clear i0
            go_loopw [5, 6] (fun a i wr => ∃ (k : Nat) (z : Int), 0 ≤ k ∧ k ≤ s.size ∧ i = .int .i64 (k : Int) ∧ a = .int .i64 z ∧ wr = w ∧ Hid (∃ m : Nat, z = (m : Int) ∧ Lib.decFrom 0 ((l.drop 0).take (k - 0)) = some m)) (fun _ i _ => s.size - (intOf i).toNat)
            case atStart => exact ⟨0, 0, by omega, by omega, rfl, rfl, rfl, Lib.hid ⟨0, rfl, by simp [Lib.decFrom]⟩⟩
            case round =>
              obtain ⟨k, z, hk1, hk, rfl, rfl, rfl, HW⟩ := hrel
              by_cases hlt : k < s.size
              · obtain ⟨x, hx⟩ : ∃ x : Int, ((s[k]'hlt).toNat : Int) = x := ⟨_, rfl⟩
                have hll : k < l.length := by have := HL.out.2.2; omega
                have ik := idx_str s k _ x hlt rfl hx wr
                obtain ⟨hz0, hz9⟩ : 0 ≤ z ∧ z < 100000000 := by
                  obtain ⟨m, hm, hW⟩ := HW.out
                  have := decFrom_small hW (by have := HL.out.1; omega)
                  omega
                by_cases hd : 48 ≤ x ∧ x ≤ 57
                · obtain ⟨hd1, hd2⟩ := hd
                  obtain ⟨y, hy⟩ : ∃ y : Nat, x = (y : Int) + 48 := ⟨(x - 48).toNat, by omega⟩
                  have hv : Lib.digitVal l[k] = some y := by
                    have := str_byte l s HL.out.2.1 k hll hlt
                    unfold Lib.digitVal
                    rw [if_pos (by omega)]
                    congr 1
                    omega
                  have hs : ∃ m : Nat, 10 * z + (x - 48) = (m : Int) ∧ Lib.decFrom 0 ((l.drop 0).take (k + 1 - 0)) = some m := by
                    obtain ⟨m, hm, hW⟩ := HW.out
                    refine ⟨10 * m + y, by omega, ?_⟩
                    rw [take_drop_step hk1 hll, decFrom_append, hW]
                    simp [Lib.decFrom, hv, Nat.mul_comm]
                  have HS := Lib.hid hs
                  have HY := Lib.hid hy
                  clear hs hv HW hx hy
                  go_wp2_with fail
                  have hy := HY.out
                  refine ⟨⟨k + 1, 10 * z + (x - 48), by omega, by omega, congrArg _ (by omega), congrArg _ (by omega), (by simp), HS⟩, by simp [intOf]; omega⟩
                · have hv : Lib.digitVal l[k] = none := by
                    have := str_byte l s HL.out.2.1 k hll hlt
                    unfold Lib.digitVal
                    rw [if_neg (by omega)]
                  have hT : t = (0, false) := by
                    obtain ⟨m, hm, hW⟩ := HW.out
                    rw [HT2.out, drop_split hk1 hll, decFrom_bad hW hv]
                  subst hT
                  clear hv HW HT2 hx
                  by_cases hd1 : x < 48
                  all_goals
                    go_wp2_with fail
                    all_goals
                      go_ret2
                      exact ⟨rfl, rfl⟩
              · have hT : t = (z, true) := by
                  rw [HT2.out]
                  obtain ⟨m, hm, this⟩ := HW.out
                  rw [List.take_of_length_le (by have := HL.out.2.2; simp; omega)] at this
                  rw [this, hm]
                  simp
                subst hT
                clear HT2
                go_wp2_with fail
                go_ret2
                exact ⟨rfl, rfl⟩
end Go.Proofs.YtggibajakcigaaaGreatDoor
