/-
  MERGED: Num RNum
-/
import Derived.Test.YtioinjcdkmiafaaDoorYA4
namespace Go.Proofs.YtioinjcdkmiafaaDoor
set_option linter.unusedVariables false
set_option linter.unusedSimpArgs false
open Go.Lib

def leadB (b : UInt8) : Prop := 49 ≤ b.toNat ∧ b.toNat ≤ 57
theorem decDigits_step (a d : Nat) (ha : 0 < a) (hd : d < 10) : decDigits (a * 10 + d) = decDigits a ++ [UInt8.ofNat (48 + d)] := by
  rw [decDigits, dif_neg (by omega), show (a * 10 + d) / 10 = a by omega, show (a * 10 + d) % 10 = d by omega]
theorem decFrom_digits : ∀ (ds : List UInt8) (a m : Nat), 0 < a → decFrom a ds = some m → decDigits m = decDigits a ++ ds
  | [], a, m, _, h => by
    simp only [decFrom, Option.some.injEq] at h
    rw [h, List.append_nil]
  | b :: r, a, m, ha, h => by
    simp only [decFrom] at h
    cases hd : digitVal b with
    | none => rw [hd] at h; cases h
    | some d =>
      rw [hd] at h
      obtain ⟨h1, h2, h3⟩ := digitVal_eq hd
      have := decFrom_digits r (a * 10 + d) m (by omega) h
      rw [this, decDigits_step a d ha (by omega), List.append_assoc]
      have e : UInt8.ofNat (48 + d) = b := by rw [show 48 + d = b.toNat by omega]; simp
      rw [e]
      rfl
theorem digits_of {b : UInt8} {r : List UInt8} {m : Nat} (hb : leadB b) (h : decFrom 0 (b :: r) = some m) : decDigits m = b :: r ∧ 0 < m := by
  have hv : digitVal b = some (b.toNat - 48) := by unfold digitVal; rw [if_pos (by unfold leadB at hb; omega)]
  simp only [decFrom, hv, Nat.zero_mul, Nat.zero_add] at h
  unfold leadB at hb
  have h1 := decFrom_digits r (b.toNat - 48) m (by omega) h
  rw [decDigits_one (i := b.toNat - 48) (by omega)] at h1
  have e : UInt8.ofNat (48 + (b.toNat - 48)) = b := by rw [show 48 + (b.toNat - 48) = b.toNat by omega]; simp
  rw [e] at h1
  refine ⟨h1, ?_⟩
  rcases Nat.eq_zero_or_pos m with h0 | h0
  · subst h0
    rw [decDigits_one (by omega)] at h1
    injection h1 with h1
    rw [← h1] at hb
    simp at hb
  · exact h0
theorem decFrom_append : ∀ (xs ys : List UInt8) (a : Nat), decFrom a (xs ++ ys) = (decFrom a xs).bind fun k => decFrom k ys
  | [], ys, a => by simp [decFrom]
  | b :: r, ys, a => by
    simp only [List.cons_append, decFrom]
    cases digitVal b with
    | none => rfl
    | some d => exact decFrom_append r ys _
theorem digitVal_of (d : Nat) (hd : d < 10) : digitVal (UInt8.ofNat (48 + d)) = some d := by
  have e : (UInt8.ofNat (48 + d)).toNat = 48 + d := by rw [UInt8.toNat_ofNat', Nat.mod_eq_of_lt (by omega)]
  unfold digitVal
  rw [e, if_pos (by omega)]
  congr 1
  omega
theorem digits_back (u : Nat) : decFrom 0 (decDigits u) = some u ∧ (0 < u → ∃ b r, decDigits u = b :: r ∧ leadB b) := by
  induction u using Nat.strongRecOn with
  | _ u ih =>
    by_cases h : u < 10
    · rw [decDigits_one h]
      have e : (UInt8.ofNat (48 + u)).toNat = 48 + u := by rw [UInt8.toNat_ofNat', Nat.mod_eq_of_lt (by omega)]
      exact ⟨by simp only [decFrom, digitVal_of u h, Nat.zero_mul, Nat.zero_add], fun h0 => ⟨_, _, rfl, by unfold leadB; omega⟩⟩
    · obtain ⟨h1, h2⟩ := ih (u / 10) (by omega)
      obtain ⟨b, r, hb, hl⟩ := h2 (by omega)
      rw [show u = u / 10 * 10 + u % 10 by omega, decDigits_step _ _ (by omega) (by omega)]
      refine ⟨?_, fun _ => ⟨b, r ++ [UInt8.ofNat (48 + u % 10)], by rw [hb]; rfl, hl⟩⟩
      rw [decFrom_append, h1]
      simp only [Option.bind_some, decFrom, digitVal_of (u % 10) (by omega)]

/-- The document's reading of a number text. -/
def rdig (l ds : List UInt8) (neg : Bool) : Int × Bool := match ds with
  | [] => (0, false)
  | b :: r => if b.toNat < 49 ∨ 57 < b.toNat then (0, false) else match decFrom 0 (b :: r) with
    | none => (0, false)
    | some m => (if neg = true then -(m : Int) else (m : Int), true)
def rnum (l : List UInt8) : Int × Bool :=
  if l.length = 0 ∨ 8 < l.length then (0, false) else if l = [48] then (0, true) else match l with
    | [] => (0, false)
    | b :: r => if b = 45 then rdig l r true else rdig l (b :: r) false
theorem rdig_zero (l ds : List UInt8) (neg : Bool) (h : (rdig l ds neg).2 = false) : (rdig l ds neg).1 = 0 := by
  unfold rdig at h ⊢
  split
  · rfl
  · split
    · rfl
    · split
      · rfl
      · rename_i hh
        simp only [hh] at h
        rw [if_neg (by omega)] at h
        cases h
theorem rdig_of {l ds : List UInt8} {neg : Bool} {u : Nat} (hu : 0 < u) (h : ds = decDigits u) : rdig l ds neg = (if neg = true then -(u : Int) else (u : Int), true) := by
  obtain ⟨h1, h2⟩ := digits_back u
  obtain ⟨b, r, hb, hl⟩ := h2 hu
  rw [hb] at h1
  rw [h, hb]
  unfold leadB at hl
  simp only [rdig]
  rw [if_neg (by omega), h1]
theorem rdig_back {l ds : List UInt8} {neg : Bool} (h : (rdig l ds neg).2 = true) : ∃ u, 0 < u ∧ ds = decDigits u ∧ decFrom 0 ds = some u ∧ ds ≠ [] := by
  unfold rdig at h
  split at h
  · cases h
  · split at h
    · cases h
    · rename_i b r hl
      split at h
      · cases h
      · rename_i m hm
        obtain ⟨h1, h2⟩ := digits_of (b := b) (by unfold leadB; omega) hm
        exact ⟨m, h2, h1.symm, hm, by simp⟩
theorem itoa_pos (u : Nat) : itoa (u : Int) = decDigits u := by
  unfold itoa
  rw [if_neg (by omega), Int.toNat_natCast]
theorem itoa_neg' (u : Nat) (hu : 0 < u) : itoa (-(u : Int)) = 45 :: decDigits u := by
  unfold itoa
  rw [if_pos (by omega), Int.natAbs_neg, Int.natAbs_natCast]
theorem lead_ne {u : Nat} {b : UInt8} {r : List UInt8} (hu : 0 < u) (h : decDigits u = b :: r) : b ≠ 45 ∧ b ≠ 43 ∧ ¬ (b :: r = [48]) := by
  obtain ⟨_, h2⟩ := digits_back u
  obtain ⟨b', r', hb, hl⟩ := h2 hu
  rw [h] at hb
  injection hb with hb hr
  subst hb
  unfold leadB at hl
  refine ⟨fun h => ?_, fun h => ?_, fun h => ?_⟩
  · rw [h] at hl; simp at hl
  · rw [h] at hl; simp at hl
  · injection h with h; rw [h] at hl; simp at hl
theorem rnum_eq (l : List UInt8) : rnum l = (if (numb l).2 = true then (numb l).1 else 0, (numb l).2) := by
  by_cases hl : l.length = 0 ∨ 8 < l.length
  · unfold rnum
    rw [if_pos hl]
    have : numb l = (0, false) := by
      unfold numb
      rcases hl with h | h
      · have : l = [] := List.eq_nil_of_length_eq_zero h
        subst this
        simp [atoi]
      · rw [if_pos h]
    rw [this]
    rfl
  · have h8 : ¬ 8 < l.length := fun h => hl (.inr h)
    by_cases h0 : l = [48]
    · subst h0
      have h1 : itoa 0 = [48] := by
        rw [show (0 : Int) = ((0 : Nat) : Int) by omega, itoa_pos, decDigits_one (by omega)]
        rfl
      have h2 : numb [48] = (0, true) := by
        unfold numb
        rw [if_neg (by decide), show atoi [48] = some 0 by decide]
        simp only [h1]
        rfl
      rw [h2]
      rfl
    · cases l with
      | nil => exact absurd (.inl rfl) hl
      | cons b r =>
        have hr : rnum (b :: r) = if b = 45 then rdig (b :: r) r true else rdig (b :: r) (b :: r) false := by
          unfold rnum
          rw [if_neg hl, if_neg h0]
        have hnumb : numb (b :: r) = match atoi (b :: r) with
          | none => (0, false)
          | some n => (n, itoa n == b :: r) := by rw [numb, if_neg h8]; rfl
        rw [hr]
        by_cases hb : b = 45
        · subst hb
          rw [if_pos rfl]
          have hat : atoi (45 :: r) = (decNat r).map fun (m : Nat) => -(m : Int) := by simp [atoi]
          rw [hat] at hnumb
          cases hq : (rdig (45 :: r) r true).2 with
          | true =>
            obtain ⟨u, hu, hds, hdf, hne⟩ := rdig_back hq
            have hn : decNat r = some u := by
              unfold decNat
              rw [if_neg (by simpa using hne), hdf]
            rw [hn] at hnumb
            have hit : itoa (-(u : Int)) = 45 :: r := by rw [itoa_neg' u hu, ← hds]
            rw [rdig_of hu hds, hnumb]
            simp [hit]
          | false =>
            have h1 := rdig_zero _ _ _ hq
            have hf : (numb (45 :: r)).2 = false := by
              cases hf : (numb (45 :: r)).2 with
              | false => rfl
              | true =>
                rw [hnumb] at hf
                cases hn : decNat r with
                | none => rw [hn] at hf; cases hf
                | some u =>
                  rw [hn] at hf
                  simp only [Option.map_some, beq_iff_eq] at hf
                  rcases Nat.eq_zero_or_pos u with hz | hz
                  · subst hz
                    rw [show (-((0 : Nat) : Int)) = ((0 : Nat) : Int) by omega, itoa_pos, decDigits_one (by omega)] at hf
                    cases hf
                  · rw [itoa_neg' u hz] at hf
                    injection hf with _ hf
                    rw [rdig_of hz hf.symm] at hq
                    cases hq
            rw [hf]
            exact Prod.ext h1 hq
        · rw [if_neg hb]
          cases hq : (rdig (b :: r) (b :: r) false).2 with
          | true =>
            obtain ⟨u, hu, hds, hdf, hne⟩ := rdig_back hq
            obtain ⟨n1, n2, n3⟩ := lead_ne hu hds.symm
            have hn : decNat (b :: r) = some u := by
              unfold decNat
              rw [if_neg (by simp), hdf]
            have hat : atoi (b :: r) = some (u : Int) := by
              simp [atoi, n1, n2, hn]
            rw [hat] at hnumb
            have hit : itoa (u : Int) = b :: r := by rw [itoa_pos, ← hds]
            rw [rdig_of hu hds, hnumb]
            simp [hit]
          | false =>
            have h1 := rdig_zero _ _ _ hq
            have hf : (numb (b :: r)).2 = false := by
              cases hf : (numb (b :: r)).2 with
              | false => rfl
              | true =>
                rw [hnumb] at hf
                cases hn : atoi (b :: r) with
                | none => rw [hn] at hf; cases hf
                | some n =>
                  rw [hn] at hf
                  simp only [beq_iff_eq] at hf
                  by_cases hneg : n < 0
                  · obtain ⟨u, rfl⟩ : ∃ u : Nat, n = -(u : Int) := ⟨n.natAbs, by omega⟩
                    rw [itoa_neg' u (by omega)] at hf
                    injection hf with hf _
                    exact absurd hf.symm hb
                  · obtain ⟨u, rfl⟩ : ∃ u : Nat, n = (u : Int) := ⟨n.toNat, by omega⟩
                    rw [itoa_pos] at hf
                    rcases Nat.eq_zero_or_pos u with hz | hz
                    · subst hz
                      rw [decDigits_one (by omega)] at hf
                      exact absurd hf.symm h0
                    · rw [rdig_of hz hf.symm] at hq
                      cases hq
            rw [hf]
            exact Prod.ext h1 hq
end Go.Proofs.YtioinjcdkmiafaaDoor
namespace Go.Proofs.YtioinjcdkmiafaaDoor
set_option linter.unusedVariables false
set_option linter.unusedSimpArgs false
open Go.RowKit

/-- The k-th byte of a text, for the walk. -/
theorem str_byte (l : List UInt8) (s : ByteArray) (hs : s = ByteArray.mk l.toArray) (k : Nat) (hk : k < l.length) (h : k < s.size) : (s[k]'h).toNat = l[k].toNat := by subst hs; rfl
/-- A byte of a text, for the walk to take. -/
theorem idx_str (s : ByteArray) (k : Nat) (z x : Int) (hk : k < s.size) (hz : z = (k : Int)) (hx : ((s[k]'hk).toNat : Int) = x) (w : World) :
    (Instr.index 9 (.string s) (.int .i64 z)).run Tryd.prog w = .ok (.int .u8 x) w := by
  subst hz hx
  rw [run_index_string w 9 _ .i64 _ Tryd.underlying9, dif_pos ⟨by omega, by omega⟩]
  simp only [Int.toNat_natCast]
theorem drop_cons {l : List UInt8} {k : Nat} (hk : k < l.length) : l.drop k = l[k] :: l.drop (k + 1) := List.drop_eq_getElem_cons hk
theorem rdig_none {l : List UInt8} {i0 : Nat} {neg : Bool} (h : l.length ≤ i0) : rdig l (l.drop i0) neg = (0, false) := by
  rw [List.drop_of_length_le h]; rfl
theorem rdig_lead {l : List UInt8} {i0 : Nat} {neg : Bool} (h : i0 < l.length) (hc : l[i0].toNat < 49 ∨ 57 < l[i0].toNat) : rdig l (l.drop i0) neg = (0, false) := by
  rw [drop_cons h, rdig, if_pos hc]
theorem rdig_dec {l : List UInt8} {i0 : Nat} {neg : Bool} (h : i0 < l.length) (hc : ¬ (l[i0].toNat < 49 ∨ 57 < l[i0].toNat)) : rdig l (l.drop i0) neg = match Lib.decFrom 0 (l.drop i0) with
    | none => (0, false)
    | some m => (if neg = true then -(m : Int) else (m : Int), true) := by
  rw [drop_cons h, rdig, if_neg hc]
  all_goals rfl
theorem decFrom_bad {xs ys : List UInt8} {b : UInt8} {a m : Nat} (h : Lib.decFrom a xs = some m) (hb : Lib.digitVal b = none) : Lib.decFrom a (xs ++ b :: ys) = none := by
  rw [decFrom_append, h]
  simp [Lib.decFrom, hb]
theorem take_drop_step {l : List UInt8} {i0 k : Nat} (hi : i0 ≤ k) (hk : k < l.length) : (l.drop i0).take (k + 1 - i0) = (l.drop i0).take (k - i0) ++ [l[k]] := by
  rw [show k + 1 - i0 = (k - i0) + 1 by omega, List.take_succ_eq_append_getElem (by simp; omega)]
  congr 2
  simp only [List.getElem_drop]
  congr 1
  omega
theorem drop_split {l : List UInt8} {i0 k : Nat} (hi : i0 ≤ k) (hk : k < l.length) : l.drop i0 = (l.drop i0).take (k - i0) ++ l[k] :: l.drop (k + 1) := by
  have h := (List.take_append_drop (k - i0) (l.drop i0)).symm
  rw [List.drop_drop, show i0 + (k - i0) = k by omega, drop_cons hk] at h
  exact h
theorem decFrom_small {l : List UInt8} {i0 k m : Nat} (h : Lib.decFrom 0 ((l.drop i0).take (k - i0)) = some m) (hl : l.length ≤ 8) : m < 100000000 := by
  have h1 := Lib.decFrom_lt _ _ _ h
  have h2 : ((l.drop i0).take (k - i0)).length ≤ 8 := by simp; omega
  have h3 : 10 ^ ((l.drop i0).take (k - i0)).length ≤ 10 ^ 8 := Nat.pow_le_pow_right (by decide) h2
  omega

set_option maxRecDepth 20000 in
set_option maxHeartbeats 2000000 in
theorem rnumber_any (l : List UInt8) (w : World) : Calls Tryd.prog 41 #[str l] w fun e w' => e = .returned (.tuple #[.int .i64 (rnum l).1, .bool (rnum l).2]) ∧ w = w' := by
  obtain ⟨t, ht⟩ : ∃ t, t = rnum l := ⟨_, rfl⟩
  rw [← ht]
  unfold rnum at ht
  by_cases hl : l.length = 0 ∨ 8 < l.length
  · rw [if_pos hl] at ht
    subst ht
    rcases hl with hl | hl
    · obtain rfl : l = [] := List.eq_nil_of_length_eq_zero hl
      clear hl
      go_enter Tryd.func41, Tryd.ntmps41
      go_wp2_with fail
      all_goals
        go_ret2
        exact ⟨rfl, rfl⟩
    · have h8 : (8 : Int) < (l.length : Int) := by omega
      clear hl
      go_enter Tryd.func41, Tryd.ntmps41
      go_wp2_with fail
      all_goals
        go_ret2
        exact ⟨rfl, rfl⟩
  · rw [if_neg hl] at ht
    by_cases hz : l = [48]
    · rw [if_pos hz] at ht
      subst hz ht
      clear hl
      go_enter Tryd.func41, Tryd.ntmps41
      go_wp2_with fail
      all_goals
        go_ret2
        exact ⟨rfl, rfl⟩
    · rw [if_neg hz] at ht
      obtain ⟨s, hs⟩ : ∃ s : ByteArray, s = ByteArray.mk l.toArray := ⟨_, rfl⟩
      have hsl : s.size = l.length := by rw [hs]; rfl
      have h0 : 0 < s.size := by omega
      obtain ⟨x0, hx0⟩ : ∃ x0 : Int, ((s[0]'h0).toNat : Int) = x0 := ⟨_, rfl⟩
      have ht2 : t = if x0 = 45 then rdig l (l.drop 1) true else rdig l (l.drop 0) false := by
        cases l with
        | nil => simp at hl
        | cons b r =>
          rw [ht]
          have e : (b = 45) = (x0 = 45) := by
            subst hs
            rw [← hx0]
            apply propext
            constructor
            · rintro rfl; rfl
            · intro h
              have h : (b.toNat : Int) = 45 := h
              exact UInt8.toNat_inj.1 (by rw [show b.toNat = 45 by omega]; rfl)
          simp only [e]
          rfl
      have g0 : (0 : Int) < (s.size : Int) := by omega
      have g8 : (s.size : Int) ≤ 8 := by omega
      have q1 : ¬ (s = ByteArray.mk #[48]) := fun h => hz (by rw [hs] at h; injection h with h; simpa using congrArg Array.toList h)
      have q2 : ((s.size : Int) == 0) = false := beq_eq_false_iff_ne.2 (by omega)
      have q4 : (s.toList == [48]) = false := by rw [hs]; simpa using hz
      rw [show str l = Value.string s by rw [hs]]
      have HL := Lib.hid (And.intro hl (And.intro hs hsl))
      clear hs hsl
      have i0 := idx_str s 0 0 x0 h0 rfl hx0 w
      replace hx0 := Lib.hid hx0
      have HT := Lib.hid ht2
      clear hl ht ht2
      by_cases hx : x0 = 45
      · have hT2 := HT.out
        rw [if_pos hx] at hT2
        have hx45 : (s[0]'h0).toNat = 45 := by have := hx0.out; omega
        clear hx0
        subst hx
        clear hx45
        by_cases h1 : l.length ≤ 1
        · rw [rdig_none h1] at hT2
          have g1 : (s.size : Int) ≤ 1 := by have := HL.out.2.2; omega
          subst hT2
          clear h1 HT
          go_enter Tryd.func41, Tryd.ntmps41
          go_wp2_with fail
          all_goals
            go_ret2
            exact ⟨rfl, rfl⟩
        · have h1' : 1 < s.size := by have := HL.out.2.2; omega
          have g1 : (1 : Int) < (s.size : Int) := by omega
          obtain ⟨x1, hx1⟩ : ∃ x1 : Int, ((s[1]'h1').toNat : Int) = x1 := ⟨_, rfl⟩
          have i1 := idx_str s 1 1 x1 h1' rfl hx1 w
          by_cases hc : x1 < 49 ∨ 57 < x1
          · have hl1 : 1 < l.length := by have := HL.out.2.2; omega
            rw [rdig_lead hl1 (by rw [← str_byte l s HL.out.2.1 1 hl1 h1']; omega)] at hT2
            subst hT2
            clear h1 HT hx1
            rcases hc with hc | hc
            all_goals
              go_enter Tryd.func41, Tryd.ntmps41
              go_wp2_with fail
              all_goals
                go_ret2
                exact ⟨rfl, rfl⟩
          · have hl1 : 1 < l.length := by have := HL.out.2.2; omega
            rw [rdig_dec hl1 (by rw [← str_byte l s HL.out.2.1 1 hl1 h1']; omega)] at hT2
            have HT2 := Lib.hid hT2
            have c1 : 49 ≤ x1 := by omega
            have c2 : x1 ≤ 57 := by omega
            clear hc hT2 h1 HT hx1
            go_enter Tryd.func41, Tryd.ntmps41
            go_wp2_with fail
            clear i0 i1
            go_loopw [5, 6] (fun a i wr => ∃ (k : Nat) (z : Int), 1 ≤ k ∧ k ≤ s.size ∧ i = .int .i64 (k : Int) ∧ a = .int .i64 z ∧ wr = w ∧ Hid (∃ m : Nat, z = (m : Int) ∧ Lib.decFrom 0 ((l.drop 1).take (k - 1)) = some m)) (fun _ i _ => s.size - (intOf i).toNat)
            case atStart => exact ⟨1, 0, by omega, by omega, rfl, rfl, rfl, Lib.hid ⟨0, rfl, by simp [Lib.decFrom]⟩⟩
            case round =>
              obtain ⟨k, z, hk1, hk, rfl, rfl, rfl, HW⟩ := hrel
              by_cases hlt : k < s.size
              · obtain ⟨x, hx⟩ : ∃ x : Int, ((s[k]'hlt).toNat : Int) = x := ⟨_, rfl⟩
                have hll : k < l.length := by have := HL.out.2.2; omega
                have ik := idx_str s k _ x hlt rfl hx wr
                obtain ⟨hz0, hz9⟩ : 0 ≤ z ∧ z < 100000000 := by
                  obtain ⟨m, hm, hW⟩ := HW.out
                  have := decFrom_small hW (by have := HL.out.1; omega)
                  omega
                by_cases hd : 48 ≤ x ∧ x ≤ 57
                · obtain ⟨hd1, hd2⟩ := hd
                  obtain ⟨y, hy⟩ : ∃ y : Nat, x = (y : Int) + 48 := ⟨(x - 48).toNat, by omega⟩
                  have hv : Lib.digitVal l[k] = some y := by
                    have := str_byte l s HL.out.2.1 k hll hlt
                    unfold Lib.digitVal
                    rw [if_pos (by omega)]
                    congr 1
                    omega
                  have hs : ∃ m : Nat, 10 * z + (x - 48) = (m : Int) ∧ Lib.decFrom 0 ((l.drop 1).take (k + 1 - 1)) = some m := by
                    obtain ⟨m, hm, hW⟩ := HW.out
                    refine ⟨10 * m + y, by omega, ?_⟩
                    rw [take_drop_step hk1 hll, decFrom_append, hW]
                    simp [Lib.decFrom, hv, Nat.mul_comm]
                  have HS := Lib.hid hs
                  have HY := Lib.hid hy
                  clear hs hv HW hx hy
                  go_wp2_with fail
                  have hy := HY.out
                  refine ⟨⟨k + 1, 10 * z + (x - 48), by omega, by omega, congrArg _ (by omega), congrArg _ (by omega), (by simp), HS⟩, by simp [intOf]; omega⟩
                · have hv : Lib.digitVal l[k] = none := by
                    have := str_byte l s HL.out.2.1 k hll hlt
                    unfold Lib.digitVal
                    rw [if_neg (by omega)]
                  have hT : t = (0, false) := by
                    obtain ⟨m, hm, hW⟩ := HW.out
                    rw [HT2.out, drop_split hk1 hll, decFrom_bad hW hv]
                  subst hT
                  clear hv HW HT2 hx
                  by_cases hd1 : x < 48
                  all_goals
                    go_wp2_with fail
                    all_goals
                      go_ret2
                      exact ⟨rfl, rfl⟩
              · have hT : t = (-z, true) := by
                  rw [HT2.out]
                  obtain ⟨m, hm, this⟩ := HW.out
                  rw [List.take_of_length_le (by have := HL.out.2.2; simp; omega)] at this
                  rw [this, hm]
                  simp
                subst hT
                clear HT2
                obtain ⟨hz0, hz9⟩ : 0 ≤ z ∧ z < 100000000 := by
                  obtain ⟨m, hm, hW⟩ := HW.out
                  have := decFrom_small hW (by have := HL.out.1; omega)
                  omega
                clear HW
                go_wp2_with fail
                go_ret2
                exact ⟨rfl, rfl⟩
      · have hT2 := HT.out
        rw [if_neg hx] at hT2
        have q5 : (x0 == 45) = false := by simpa using hx
        have q6 : ¬ (s = ByteArray.empty) := by rintro rfl; simp at h0
        have h1' : 0 < s.size := h0
        by_cases hc : x0 < 49 ∨ 57 < x0
        · have hl1 : 0 < l.length := by have := HL.out.2.2; omega
          rw [rdig_lead hl1 (by rw [← str_byte l s HL.out.2.1 0 hl1 h1']; have := hx0.out; omega)] at hT2
          subst hT2
          clear HT hx0
          rcases hc with hc | hc
          all_goals
            go_enter Tryd.func41, Tryd.ntmps41
            go_wp2_with fail
            all_goals
              go_ret2
              exact ⟨rfl, rfl⟩
        · have hl1 : 0 < l.length := by have := HL.out.2.2; omega
          rw [rdig_dec hl1 (by rw [← str_byte l s HL.out.2.1 0 hl1 h1']; have := hx0.out; omega)] at hT2
          have HT2 := Lib.hid hT2
          have c1 : 49 ≤ x0 := by omega
          have c2 : x0 ≤ 57 := by omega
          clear hc hT2 HT
          · go_enter Tryd.func41, Tryd.ntmps41
            go_wp2_with fail
            clear i0
            go_loopw [5, 6] (fun a i wr => ∃ (k : Nat) (z : Int), 0 ≤ k ∧ k ≤ s.size ∧ i = .int .i64 (k : Int) ∧ a = .int .i64 z ∧ wr = w ∧ Hid (∃ m : Nat, z = (m : Int) ∧ Lib.decFrom 0 ((l.drop 0).take (k - 0)) = some m)) (fun _ i _ => s.size - (intOf i).toNat)
            case atStart => exact ⟨0, 0, by omega, by omega, rfl, rfl, rfl, Lib.hid ⟨0, rfl, by simp [Lib.decFrom]⟩⟩
            case round =>
              obtain ⟨k, z, hk1, hk, rfl, rfl, rfl, HW⟩ := hrel
              by_cases hlt : k < s.size
              · obtain ⟨x, hx⟩ : ∃ x : Int, ((s[k]'hlt).toNat : Int) = x := ⟨_, rfl⟩
                have hll : k < l.length := by have := HL.out.2.2; omega
                have ik := idx_str s k _ x hlt rfl hx wr
                obtain ⟨hz0, hz9⟩ : 0 ≤ z ∧ z < 100000000 := by
                  obtain ⟨m, hm, hW⟩ := HW.out
                  have := decFrom_small hW (by have := HL.out.1; omega)
                  omega
                by_cases hd : 48 ≤ x ∧ x ≤ 57
                · obtain ⟨hd1, hd2⟩ := hd
                  obtain ⟨y, hy⟩ : ∃ y : Nat, x = (y : Int) + 48 := ⟨(x - 48).toNat, by omega⟩
                  have hv : Lib.digitVal l[k] = some y := by
                    have := str_byte l s HL.out.2.1 k hll hlt
                    unfold Lib.digitVal
                    rw [if_pos (by omega)]
                    congr 1
                    omega
                  have hs : ∃ m : Nat, 10 * z + (x - 48) = (m : Int) ∧ Lib.decFrom 0 ((l.drop 0).take (k + 1 - 0)) = some m := by
                    obtain ⟨m, hm, hW⟩ := HW.out
                    refine ⟨10 * m + y, by omega, ?_⟩
                    rw [take_drop_step hk1 hll, decFrom_append, hW]
                    simp [Lib.decFrom, hv, Nat.mul_comm]
                  have HS := Lib.hid hs
                  have HY := Lib.hid hy
                  clear hs hv HW hx hy
                  go_wp2_with fail
                  have hy := HY.out
                  refine ⟨⟨k + 1, 10 * z + (x - 48), by omega, by omega, congrArg _ (by omega), congrArg _ (by omega), (by simp), HS⟩, by simp [intOf]; omega⟩
                · have hv : Lib.digitVal l[k] = none := by
                    have := str_byte l s HL.out.2.1 k hll hlt
                    unfold Lib.digitVal
                    rw [if_neg (by omega)]
                  have hT : t = (0, false) := by
                    obtain ⟨m, hm, hW⟩ := HW.out
                    rw [HT2.out, drop_split hk1 hll, decFrom_bad hW hv]
                  subst hT
                  clear hv HW HT2 hx
                  by_cases hd1 : x < 48
                  all_goals
                    go_wp2_with fail
                    all_goals
                      go_ret2
                      exact ⟨rfl, rfl⟩
              · have hT : t = (z, true) := by
                  rw [HT2.out]
                  obtain ⟨m, hm, this⟩ := HW.out
                  rw [List.take_of_length_le (by have := HL.out.2.2; simp; omega)] at this
                  rw [this, hm]
                  simp
                subst hT
                clear HT2
                go_wp2_with fail
                go_ret2
                exact ⟨rfl, rfl⟩
end Go.Proofs.YtioinjcdkmiafaaDoor
