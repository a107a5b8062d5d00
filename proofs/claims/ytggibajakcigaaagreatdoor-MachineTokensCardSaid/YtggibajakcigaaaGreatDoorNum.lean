/-
  PLAIN LEAN: the number texts that 'number' takes are the ones that the document's 'Number' takes. No program in sight.
-/
import Derived.Test.YtggibajakcigaaaGreatDoorCheck
namespace Go.Proofs.YtggibajakcigaaaGreatDoor
set_option linter.unusedVariables false
set_option linter.unusedSimpArgs false
open Go.Lib

def leadB (b : UInt8) : Prop := 49 ≤ b.toNat ∧ b.toNat ≤ 57
theorem decDigits_step (a d : Nat) (ha : 0 < a) (hd : d < 10) : decDigits (a * 10 + d) = decDigits a ++ [UInt8.ofNat (48 + d)] := by
  rw [decDigits, dif_neg (by omega), show (a * 10 + d) / 10 = a by omega, show (a * 10 + d) % 10 = d by omega]
theorem decFrom_digits : ∀ (ds : List UInt8) (a m : Nat), 0 < a → decFrom a ds = some m → decDigits m = decDigits a ++ ds
  | [], a, m, _, h => by
    simp only [decFrom, Option.some.injEq] at h
    rw [h, List.append_nil]
  | b :: r, a, m, ha, h => by
    simp only [decFrom] at h
    cases hd : digitVal b with
    | none => rw [hd] at h; cases h
    | some d =>
      rw [hd] at h
      obtain ⟨h1, h2, h3⟩ := digitVal_eq hd
      have := decFrom_digits r (a * 10 + d) m (by omega) h
      rw [this, decDigits_step a d ha (by omega), List.append_assoc]
      have e : UInt8.ofNat (48 + d) = b := by rw [show 48 + d = b.toNat by omega]; simp
      rw [e]
      rfl
theorem digits_of {b : UInt8} {r : List UInt8} {m : Nat} (hb : leadB b) (h : decFrom 0 (b :: r) = some m) : decDigits m = b :: r ∧ 0 < m := by
  have hv : digitVal b = some (b.toNat - 48) := by unfold digitVal; rw [if_pos (by unfold leadB at hb; omega)]
  simp only [decFrom, hv, Nat.zero_mul, Nat.zero_add] at h
  unfold leadB at hb
  have h1 := decFrom_digits r (b.toNat - 48) m (by omega) h
  rw [decDigits_one (i := b.toNat - 48) (by omega)] at h1
  have e : UInt8.ofNat (48 + (b.toNat - 48)) = b := by rw [show 48 + (b.toNat - 48) = b.toNat by omega]; simp
  rw [e] at h1
  refine ⟨h1, ?_⟩
  rcases Nat.eq_zero_or_pos m with h0 | h0
  · subst h0
    rw [decDigits_one (by omega)] at h1
    injection h1 with h1
    rw [← h1] at hb
    simp at hb
  · exact h0
theorem decFrom_append : ∀ (xs ys : List UInt8) (a : Nat), decFrom a (xs ++ ys) = (decFrom a xs).bind fun k => decFrom k ys
  | [], ys, a => by simp [decFrom]
  | b :: r, ys, a => by
    simp only [List.cons_append, decFrom]
    cases digitVal b with
    | none => rfl
    | some d => exact decFrom_append r ys _
theorem digitVal_of (d : Nat) (hd : d < 10) : digitVal (UInt8.ofNat (48 + d)) = some d := by
  have e : (UInt8.ofNat (48 + d)).toNat = 48 + d := by rw [UInt8.toNat_ofNat', Nat.mod_eq_of_lt (by omega)]
  unfold digitVal
  rw [e, if_pos (by omega)]
  congr 1
  omega
theorem digits_back (u : Nat) : decFrom 0 (decDigits u) = some u ∧ (0 < u → ∃ b r, decDigits u = b :: r ∧ leadB b) := by
  induction u using Nat.strongRecOn with
  | _ u ih =>
    by_cases h : u < 10
    · rw [decDigits_one h]
      have e : (UInt8.ofNat (48 + u)).toNat = 48 + u := by rw [UInt8.toNat_ofNat', Nat.mod_eq_of_lt (by omega)]
      exact ⟨by simp only [decFrom, digitVal_of u h, Nat.zero_mul, Nat.zero_add], fun h0 => ⟨_, _, rfl, by unfold leadB; omega⟩⟩
    · obtain ⟨h1, h2⟩ := ih (u / 10) (by omega)
      obtain ⟨b, r, hb, hl⟩ := h2 (by omega)
      rw [show u = u / 10 * 10 + u % 10 by omega, decDigits_step _ _ (by omega) (by omega)]
      refine ⟨?_, fun _ => ⟨b, r ++ [UInt8.ofNat (48 + u % 10)], by rw [hb]; rfl, hl⟩⟩
      rw [decFrom_append, h1]
      simp only [Option.bind_some, decFrom, digitVal_of (u % 10) (by omega)]

/-- The document's reading of a number text. -/
def rdig (l ds : List UInt8) (neg : Bool) : Int × Bool := match ds with
  | [] => (0, false)
  | b :: r => if b.toNat < 49 ∨ 57 < b.toNat then (0, false) else match decFrom 0 (b :: r) with
    | none => (0, false)
    | some m => (if neg = true then -(m : Int) else (m : Int), true)
def rnum (l : List UInt8) : Int × Bool :=
  if l.length = 0 ∨ 8 < l.length then (0, false) else if l = [48] then (0, true) else match l with
    | [] => (0, false)
    | b :: r => if b = 45 then rdig l r true else rdig l (b :: r) false
theorem rdig_zero (l ds : List UInt8) (neg : Bool) (h : (rdig l ds neg).2 = false) : (rdig l ds neg).1 = 0 := by
  unfold rdig at h ⊢
  split
  · rfl
  · split
    · rfl
    · split
      · rfl
      · rename_i hh
        simp only [hh] at h
        rw [if_neg (by omega)] at h
        cases h
theorem rdig_of {l ds : List UInt8} {neg : Bool} {u : Nat} (hu : 0 < u) (h : ds = decDigits u) : rdig l ds neg = (if neg = true then -(u : Int) else (u : Int), true) := by
  obtain ⟨h1, h2⟩ := digits_back u
  obtain ⟨b, r, hb, hl⟩ := h2 hu
  rw [hb] at h1
  rw [h, hb]
  unfold leadB at hl
  simp only [rdig]
  rw [if_neg (by omega), h1]
theorem rdig_back {l ds : List UInt8} {neg : Bool} (h : (rdig l ds neg).2 = true) : ∃ u, 0 < u ∧ ds = decDigits u ∧ decFrom 0 ds = some u ∧ ds ≠ [] := by
  unfold rdig at h
  split at h
  · cases h
  · split at h
    · cases h
    · rename_i b r hl
      split at h
      · cases h
      · rename_i m hm
        obtain ⟨h1, h2⟩ := digits_of (b := b) (by unfold leadB; omega) hm
        exact ⟨m, h2, h1.symm, hm, by simp⟩
theorem itoa_pos (u : Nat) : itoa (u : Int) = decDigits u := by
  unfold itoa
  rw [if_neg (by omega), Int.toNat_natCast]
theorem itoa_neg' (u : Nat) (hu : 0 < u) : itoa (-(u : Int)) = 45 :: decDigits u := by
  unfold itoa
  rw [if_pos (by omega), Int.natAbs_neg, Int.natAbs_natCast]
theorem lead_ne {u : Nat} {b : UInt8} {r : List UInt8} (hu : 0 < u) (h : decDigits u = b :: r) : b ≠ 45 ∧ b ≠ 43 ∧ ¬ (b :: r = [48]) := by
  obtain ⟨_, h2⟩ := digits_back u
  obtain ⟨b', r', hb, hl⟩ := h2 hu
  rw [h] at hb
  injection hb with hb hr
  subst hb
  unfold leadB at hl
  refine ⟨fun h => ?_, fun h => ?_, fun h => ?_⟩
  · rw [h] at hl; simp at hl
  · rw [h] at hl; simp at hl
  · injection h with h; rw [h] at hl; simp at hl
theorem rnum_eq (l : List UInt8) : rnum l = (if (numb l).2 = true then (numb l).1 else 0, (numb l).2) := by
  by_cases hl : l.length = 0 ∨ 8 < l.length
  · unfold rnum
    rw [if_pos hl]
    have : numb l = (0, false) := by
      unfold numb
      rcases hl with h | h
      · have : l = [] := List.eq_nil_of_length_eq_zero h
        subst this
        simp [atoi]
      · rw [if_pos h]
    rw [this]
    rfl
  · have h8 : ¬ 8 < l.length := fun h => hl (.inr h)
    by_cases h0 : l = [48]
    · subst h0
      have h1 : itoa 0 = [48] := by
        rw [show (0 : Int) = ((0 : Nat) : Int) by omega, itoa_pos, decDigits_one (by omega)]
        rfl
      have h2 : numb [48] = (0, true) := by
        unfold numb
        rw [if_neg (by decide), show atoi [48] = some 0 by decide]
        simp only [h1]
        rfl
      rw [h2]
      rfl
    · cases l with
      | nil => exact absurd (.inl rfl) hl
      | cons b r =>
        have hr : rnum (b :: r) = if b = 45 then rdig (b :: r) r true else rdig (b :: r) (b :: r) false := by
          unfold rnum
          rw [if_neg hl, if_neg h0]
        have hnumb : numb (b :: r) = match atoi (b :: r) with
          | none => (0, false)
          | some n => (n, itoa n == b :: r) := by rw [numb, if_neg h8]; rfl
        rw [hr]
        by_cases hb : b = 45
        · subst hb
          rw [if_pos rfl]
          have hat : atoi (45 :: r) = (decNat r).map fun (m : Nat) => -(m : Int) := by simp [atoi]
          rw [hat] at hnumb
          cases hq : (rdig (45 :: r) r true).2 with
          | true =>
            obtain ⟨u, hu, hds, hdf, hne⟩ := rdig_back hq
            have hn : decNat r = some u := by
              unfold decNat
              rw [if_neg (by simpa using hne), hdf]
            rw [hn] at hnumb
            have hit : itoa (-(u : Int)) = 45 :: r := by rw [itoa_neg' u hu, ← hds]
            rw [rdig_of hu hds, hnumb]
            simp [hit]
          | false =>
            have h1 := rdig_zero _ _ _ hq
            have hf : (numb (45 :: r)).2 = false := by
              cases hf : (numb (45 :: r)).2 with
              | false => rfl
              | true =>
                rw [hnumb] at hf
                cases hn : decNat r with
                | none => rw [hn] at hf; cases hf
                | some u =>
                  rw [hn] at hf
                  simp only [Option.map_some, beq_iff_eq] at hf
                  rcases Nat.eq_zero_or_pos u with hz | hz
                  · subst hz
                    rw [show (-((0 : Nat) : Int)) = ((0 : Nat) : Int) by omega, itoa_pos, decDigits_one (by omega)] at hf
                    cases hf
                  · rw [itoa_neg' u hz] at hf
                    injection hf with _ hf
                    rw [rdig_of hz hf.symm] at hq
                    cases hq
            rw [hf]
            exact Prod.ext h1 hq
        · rw [if_neg hb]
          cases hq : (rdig (b :: r) (b :: r) false).2 with
          | true =>
            obtain ⟨u, hu, hds, hdf, hne⟩ := rdig_back hq
            obtain ⟨n1, n2, n3⟩ := lead_ne hu hds.symm
            have hn : decNat (b :: r) = some u := by
              unfold decNat
              rw [if_neg (by simp), hdf]
            have hat : atoi (b :: r) = some (u : Int) := by
              simp [atoi, n1, n2, hn]
            rw [hat] at hnumb
            have hit : itoa (u : Int) = b :: r := by rw [itoa_pos, ← hds]
            rw [rdig_of hu hds, hnumb]
            simp [hit]
          | false =>
            have h1 := rdig_zero _ _ _ hq
            have hf : (numb (b :: r)).2 = false := by
              cases hf : (numb (b :: r)).2 with
              | false => rfl
              | true =>
                rw [hnumb] at hf
                cases hn : atoi (b :: r) with
                | none => rw [hn] at hf; cases hf
                | some n =>
                  rw [hn] at hf
                  simp only [beq_iff_eq] at hf
                  by_cases hneg : n < 0
                  · obtain ⟨u, rfl⟩ : ∃ u : Nat, n = -(u : Int) := ⟨n.natAbs, by omega⟩
                    rw [itoa_neg' u (by omega)] at hf
                    injection hf with hf _
                    exact absurd hf.symm hb
                  · obtain ⟨u, rfl⟩ : ∃ u : Nat, n = (u : Int) := ⟨n.toNat, by omega⟩
                    rw [itoa_pos] at hf
                    rcases Nat.eq_zero_or_pos u with hz | hz
                    · subst hz
                      rw [decDigits_one (by omega)] at hf
                      exact absurd hf.symm h0
                    · rw [rdig_of hz hf.symm] at hq
                      cases hq
            rw [hf]
            exact Prod.ext h1 hq
end Go.Proofs.YtggibajakcigaaaGreatDoor
