/-
  MERGED: Num TokP RowM RNum
-/
import Derived.Test.YtlibhkehebioeaaGreatDoorF5
import Derived.Test.YtlibhkehebioeaaGreatDoorF16
import Derived.Deep.RegionLaw
namespace Go.Proofs.YtlibhkehebioeaaGreatDoor
set_option linter.unusedVariables false
set_option linter.unusedSimpArgs false
open Go.Lib

def leadB (b : UInt8) : Prop := 49 ≤ b.toNat ∧ b.toNat ≤ 57
theorem decDigits_step (a d : Nat) (ha : 0 < a) (hd : d < 10) : decDigits (a * 10 + d) = decDigits a ++ [UInt8.ofNat (48 + d)] := by
  rw [decDigits, dif_neg (by omega), show (a * 10 + d) / 10 = a by omega, show (a * 10 + d) % 10 = d by omega]
theorem decFrom_digits : ∀ (ds : List UInt8) (a m : Nat), 0 < a → decFrom a ds = some m → decDigits m = decDigits a ++ ds
  | [], a, m, _, h => by
    simp only [decFrom, Option.some.injEq] at h
    rw [h, List.append_nil]
  | b :: r, a, m, ha, h => by
    simp only [decFrom] at h
    cases hd : digitVal b with
    | none => rw [hd] at h; cases h
    | some d =>
      rw [hd] at h
      obtain ⟨h1, h2, h3⟩ := digitVal_eq hd
      have := decFrom_digits r (a * 10 + d) m (by omega) h
      rw [this, decDigits_step a d ha (by omega), List.append_assoc]
      have e : UInt8.ofNat (48 + d) = b := by rw [show 48 + d = b.toNat by omega]; simp
      rw [e]
      rfl
theorem digits_of {b : UInt8} {r : List UInt8} {m : Nat} (hb : leadB b) (h : decFrom 0 (b :: r) = some m) : decDigits m = b :: r ∧ 0 < m := by
  have hv : digitVal b = some (b.toNat - 48) := by unfold digitVal; rw [if_pos (by unfold leadB at hb; omega)]
  simp only [decFrom, hv, Nat.zero_mul, Nat.zero_add] at h
  unfold leadB at hb
  have h1 := decFrom_digits r (b.toNat - 48) m (by omega) h
  rw [decDigits_one (i := b.toNat - 48) (by omega)] at h1
  have e : UInt8.ofNat (48 + (b.toNat - 48)) = b := by rw [show 48 + (b.toNat - 48) = b.toNat by omega]; simp
  rw [e] at h1
  refine ⟨h1, ?_⟩
  rcases Nat.eq_zero_or_pos m with h0 | h0
  · subst h0
    rw [decDigits_one (by omega)] at h1
    injection h1 with h1
    rw [← h1] at hb
    simp at hb
  · exact h0
theorem decFrom_append : ∀ (xs ys : List UInt8) (a : Nat), decFrom a (xs ++ ys) = (decFrom a xs).bind fun k => decFrom k ys
  | [], ys, a => by simp [decFrom]
  | b :: r, ys, a => by
    simp only [List.cons_append, decFrom]
    cases digitVal b with
    | none => rfl
    | some d => exact decFrom_append r ys _
theorem digitVal_of (d : Nat) (hd : d < 10) : digitVal (UInt8.ofNat (48 + d)) = some d := by
  have e : (UInt8.ofNat (48 + d)).toNat = 48 + d := by rw [UInt8.toNat_ofNat', Nat.mod_eq_of_lt (by omega)]
  unfold digitVal
  rw [e, if_pos (by omega)]
  congr 1
  omega
theorem digits_back (u : Nat) : decFrom 0 (decDigits u) = some u ∧ (0 < u → ∃ b r, decDigits u = b :: r ∧ leadB b) := by
  induction u using Nat.strongRecOn with
  | _ u ih =>
    by_cases h : u < 10
    · rw [decDigits_one h]
      have e : (UInt8.ofNat (48 + u)).toNat = 48 + u := by rw [UInt8.toNat_ofNat', Nat.mod_eq_of_lt (by omega)]
      exact ⟨by simp only [decFrom, digitVal_of u h, Nat.zero_mul, Nat.zero_add], fun h0 => ⟨_, _, rfl, by unfold leadB; omega⟩⟩
    · obtain ⟨h1, h2⟩ := ih (u / 10) (by omega)
      obtain ⟨b, r, hb, hl⟩ := h2 (by omega)
      rw [show u = u / 10 * 10 + u % 10 by omega, decDigits_step _ _ (by omega) (by omega)]
      refine ⟨?_, fun _ => ⟨b, r ++ [UInt8.ofNat (48 + u % 10)], by rw [hb]; rfl, hl⟩⟩
      rw [decFrom_append, h1]
      simp only [Option.bind_some, decFrom, digitVal_of (u % 10) (by omega)]

/-- The document's reading of a number text. -/
def rdig (l ds : List UInt8) (neg : Bool) : Int × Bool := match ds with
  | [] => (0, false)
  | b :: r => if b.toNat < 49 ∨ 57 < b.toNat then (0, false) else match decFrom 0 (b :: r) with
    | none => (0, false)
    | some m => (if neg = true then -(m : Int) else (m : Int), true)
def rnum (l : List UInt8) : Int × Bool :=
  if l.length = 0 ∨ 8 < l.length then (0, false) else if l = [48] then (0, true) else match l with
    | [] => (0, false)
    | b :: r => if b = 45 then rdig l r true else rdig l (b :: r) false
theorem rdig_zero (l ds : List UInt8) (neg : Bool) (h : (rdig l ds neg).2 = false) : (rdig l ds neg).1 = 0 := by
  unfold rdig at h ⊢
  split
  · rfl
  · split
    · rfl
    · split
      · rfl
      · rename_i hh
        simp only [hh] at h
        rw [if_neg (by omega)] at h
        cases h
theorem rdig_of {l ds : List UInt8} {neg : Bool} {u : Nat} (hu : 0 < u) (h : ds = decDigits u) : rdig l ds neg = (if neg = true then -(u : Int) else (u : Int), true) := by
  obtain ⟨h1, h2⟩ := digits_back u
  obtain ⟨b, r, hb, hl⟩ := h2 hu
  rw [hb] at h1
  rw [h, hb]
  unfold leadB at hl
  simp only [rdig]
  rw [if_neg (by omega), h1]
theorem rdig_back {l ds : List UInt8} {neg : Bool} (h : (rdig l ds neg).2 = true) : ∃ u, 0 < u ∧ ds = decDigits u ∧ decFrom 0 ds = some u ∧ ds ≠ [] := by
  unfold rdig at h
  split at h
  · cases h
  · split at h
    · cases h
    · rename_i b r hl
      split at h
      · cases h
      · rename_i m hm
        obtain ⟨h1, h2⟩ := digits_of (b := b) (by unfold leadB; omega) hm
        exact ⟨m, h2, h1.symm, hm, by simp⟩
theorem itoa_pos (u : Nat) : itoa (u : Int) = decDigits u := by
  unfold itoa
  rw [if_neg (by omega), Int.toNat_natCast]
theorem itoa_neg' (u : Nat) (hu : 0 < u) : itoa (-(u : Int)) = 45 :: decDigits u := by
  unfold itoa
  rw [if_pos (by omega), Int.natAbs_neg, Int.natAbs_natCast]
theorem lead_ne {u : Nat} {b : UInt8} {r : List UInt8} (hu : 0 < u) (h : decDigits u = b :: r) : b ≠ 45 ∧ b ≠ 43 ∧ ¬ (b :: r = [48]) := by
  obtain ⟨_, h2⟩ := digits_back u
  obtain ⟨b', r', hb, hl⟩ := h2 hu
  rw [h] at hb
  injection hb with hb hr
  subst hb
  unfold leadB at hl
  refine ⟨fun h => ?_, fun h => ?_, fun h => ?_⟩
  · rw [h] at hl; simp at hl
  · rw [h] at hl; simp at hl
  · injection h with h; rw [h] at hl; simp at hl
theorem rnum_eq (l : List UInt8) : rnum l = (if (numb l).2 = true then (numb l).1 else 0, (numb l).2) := by
  by_cases hl : l.length = 0 ∨ 8 < l.length
  · unfold rnum
    rw [if_pos hl]
    have : numb l = (0, false) := by
      unfold numb
      rcases hl with h | h
      · have : l = [] := List.eq_nil_of_length_eq_zero h
        subst this
        simp [atoi]
      · rw [if_pos h]
    rw [this]
    rfl
  · have h8 : ¬ 8 < l.length := fun h => hl (.inr h)
    by_cases h0 : l = [48]
    · subst h0
      have h1 : itoa 0 = [48] := by
        rw [show (0 : Int) = ((0 : Nat) : Int) by omega, itoa_pos, decDigits_one (by omega)]
        rfl
      have h2 : numb [48] = (0, true) := by
        unfold numb
        rw [if_neg (by decide), show atoi [48] = some 0 by decide]
        simp only [h1]
        rfl
      rw [h2]
      rfl
    · cases l with
      | nil => exact absurd (.inl rfl) hl
      | cons b r =>
        have hr : rnum (b :: r) = if b = 45 then rdig (b :: r) r true else rdig (b :: r) (b :: r) false := by
          unfold rnum
          rw [if_neg hl, if_neg h0]
        have hnumb : numb (b :: r) = match atoi (b :: r) with
          | none => (0, false)
          | some n => (n, itoa n == b :: r) := by rw [numb, if_neg h8]; rfl
        rw [hr]
        by_cases hb : b = 45
        · subst hb
          rw [if_pos rfl]
          have hat : atoi (45 :: r) = (decNat r).map fun (m : Nat) => -(m : Int) := by simp [atoi]
          rw [hat] at hnumb
          cases hq : (rdig (45 :: r) r true).2 with
          | true =>
            obtain ⟨u, hu, hds, hdf, hne⟩ := rdig_back hq
            have hn : decNat r = some u := by
              unfold decNat
              rw [if_neg (by simpa using hne), hdf]
            rw [hn] at hnumb
            have hit : itoa (-(u : Int)) = 45 :: r := by rw [itoa_neg' u hu, ← hds]
            rw [rdig_of hu hds, hnumb]
            simp [hit]
          | false =>
            have h1 := rdig_zero _ _ _ hq
            have hf : (numb (45 :: r)).2 = false := by
              cases hf : (numb (45 :: r)).2 with
              | false => rfl
              | true =>
                rw [hnumb] at hf
                cases hn : decNat r with
                | none => rw [hn] at hf; cases hf
                | some u =>
                  rw [hn] at hf
                  simp only [Option.map_some, beq_iff_eq] at hf
                  rcases Nat.eq_zero_or_pos u with hz | hz
                  · subst hz
                    rw [show (-((0 : Nat) : Int)) = ((0 : Nat) : Int) by omega, itoa_pos, decDigits_one (by omega)] at hf
                    cases hf
                  · rw [itoa_neg' u hz] at hf
                    injection hf with _ hf
                    rw [rdig_of hz hf.symm] at hq
                    cases hq
            rw [hf]
            exact Prod.ext h1 hq
        · rw [if_neg hb]
          cases hq : (rdig (b :: r) (b :: r) false).2 with
          | true =>
            obtain ⟨u, hu, hds, hdf, hne⟩ := rdig_back hq
            obtain ⟨n1, n2, n3⟩ := lead_ne hu hds.symm
            have hn : decNat (b :: r) = some u := by
              unfold decNat
              rw [if_neg (by simp), hdf]
            have hat : atoi (b :: r) = some (u : Int) := by
              simp [atoi, n1, n2, hn]
            rw [hat] at hnumb
            have hit : itoa (u : Int) = b :: r := by rw [itoa_pos, ← hds]
            rw [rdig_of hu hds, hnumb]
            simp [hit]
          | false =>
            have h1 := rdig_zero _ _ _ hq
            have hf : (numb (b :: r)).2 = false := by
              cases hf : (numb (b :: r)).2 with
              | false => rfl
              | true =>
                rw [hnumb] at hf
                cases hn : atoi (b :: r) with
                | none => rw [hn] at hf; cases hf
                | some n =>
                  rw [hn] at hf
                  simp only [beq_iff_eq] at hf
                  by_cases hneg : n < 0
                  · obtain ⟨u, rfl⟩ : ∃ u : Nat, n = -(u : Int) := ⟨n.natAbs, by omega⟩
                    rw [itoa_neg' u (by omega)] at hf
                    injection hf with hf _
                    exact absurd hf.symm hb
                  · obtain ⟨u, rfl⟩ : ∃ u : Nat, n = (u : Int) := ⟨n.toNat, by omega⟩
                    rw [itoa_pos] at hf
                    rcases Nat.eq_zero_or_pos u with hz | hz
                    · subst hz
                      rw [decDigits_one (by omega)] at hf
                      exact absurd hf.symm h0
                    · rw [rdig_of hz hf.symm] at hq
                      cases hq
            rw [hf]
            exact Prod.ext h1 hq
end Go.Proofs.YtlibhkehebioeaaGreatDoor
namespace Go.Proofs.YtlibhkehebioeaaGreatDoor
set_option linter.unusedVariables false
set_option linter.unusedSimpArgs false

theorem valid_nine {c i r : Int} {k v d : Txt} (h : validB c i r 9 k v d = true) : (numb v).2 = true := by
  obtain ⟨-, -, -, -, hf⟩ := valid_ok h
  have e : shapeTab.getD (9 : Int).toNat 0 = 32 := by decide
  have b2 : hasB 32 2 = false := by decide
  have b8 : hasB 32 8 = false := by decide
  have b16 : hasB 32 16 = false := by decide
  have b32 : hasB 32 32 = true := by decide
  rw [e] at hf
  unfold fitsB at hf
  rw [b2, b8, b16, b32] at hf
  split at hf
  · cases hf
  · split at hf
    · cases hf
    · simp at hf
      exact hf.1
section
variable {s : StD} {c i r o : Int} {k v d : Txt}
theorem Meets.trans_goes {g : Int} {a b : RowD} {s1 s2 : StD} {k' : Txt} {code : Int} (h1 : Meets g (rowD k' s1) b) (hg : 0 ≤ g) (hs : g ≤ s1.tok)
    (h2 : Meets s1.tok (rowD k' s2) (if o = 9 ∧ code = 1 then (rowD k' s1).leaves (numb v).1 else if k ≠ k' then rowD k' s1 else (rowD k' s1).onKey c o code)) :
    Meets g (rowD k' s2) (if o = 9 ∧ code = 1 then b.leaves (numb v).1 else if k ≠ k' then b else b.onKey c o code) := by
  by_cases h9 : o = 9 ∧ code = 1
  · rw [if_pos h9] at h2 ⊢
    exact Meets.step (fun r => r.leaves (numb v).1) (leaves_uni _) h1 (h2.lower hs) hg
  · rw [if_neg h9] at h2 ⊢
    by_cases hk : k ≠ k'
    · rw [if_pos hk] at h2 ⊢
      refine Meets.step (fun r => r) (fun r t => .inl ⟨r.queue, rfl, rfl⟩) h1 (h2.lower hs) hg
    · rw [if_neg hk] at h2 ⊢
      exact Meets.step (fun r => r.onKey c o code) (onKey_uni c o code) h1 (h2.lower hs) hg
/-- A new request. -/
theorem apply_row (hi : Inv s) (hv : validB c i r o k v d = true) {z : SesD} (hz : s.ss.getD c.toNat noSes = z) (hs : ¬ (z.inc > i ∨ (z.inc = i ∧ z.req > r))) (ha : ¬ (z.inc = i ∧ z.req = r)) (ht : s.tok + 16 ≤ 99999999) (k' : Txt) {anew : Bool} (hnew : anew = true ↔ 0 < z.inc ∧ z.inc < i) :
    Meets s.tok (rowD k' (applyD c i r o k v d s).2) (goesD rnum (rowD k' s) k' c o k v anew (applyD c i r o k v d s).1.code) ∧ s.tok ≤ (applyD c i r o k v d s).2.tok ∧ (applyD c i r o k v d s).2.tok ≤ s.tok + 16 := by
  have hV := vcmd_of hv
  have h0 := hi.lk.tok0
  have hc0 := hV.c0
  have hR : o = 9 → (rnum v).1 = (numb v).1 := fun h9 => by
    rw [rnum_eq]
    have h := valid_nine (h9 ▸ hv)
    rw [h]
    rfl
  have hG : ∀ (r : RowD) code, goesD rnum r k' c o k v anew code = (if o = 9 ∧ code = 1 then (if anew then r.leaves c else r).leaves (numb v).1 else if k ≠ k' then (if anew then r.leaves c else r) else (if anew then r.leaves c else r).onKey c o code) := fun r code => by
    unfold goesD
    by_cases h9 : o = 9 ∧ code = 1
    · simp only [if_pos h9, hR h9.1]
    · simp only [if_neg h9]
  rw [hG]
  unfold applyD
  rw [if_pos hv]
  unfold applyV
  simp only [hz]
  rw [if_neg hs, if_neg ha]
  by_cases hn : 0 < z.inc ∧ z.inc < i
  · rw [if_pos hn, hnew.2 hn]
    simp only [if_true]
    have h1 := lets_row c k' hi.lk (by omega)
    have ht1 := lets_tok c hi.lk
    have hi1 := hi.lk.lets c
    have h2 := does_row (num := numb) (ita := Lib.itoa) (o := o) (k := k) (v := v) (d := d) k' hi1 hc0 ⟨hV.o1, hV.o9⟩ (by omega)
    have ht2 := does_tok (num := numb) (ita := Lib.itoa) (c := c) (o := o) (k := k) (v := v) (d := d) hi1
    exact ⟨Meets.trans_goes (a := rowD k' s) h1 h0 ht1.1 h2, by show s.tok ≤ (doesD numb Lib.itoa c o k v d (letsD c s).2).2.tok; omega, by show (doesD numb Lib.itoa c o k v d (letsD c s).2).2.tok ≤ _; omega⟩
  · rw [if_neg hn]
    have e : anew = false := by
      cases anew
      · rfl
      · exact absurd (hnew.1 rfl) hn
    rw [e]
    simp only [Bool.false_eq_true, if_false]
    have h2 := does_row (num := numb) (ita := Lib.itoa) (o := o) (k := k) (v := v) (d := d) k' hi.lk hc0 ⟨hV.o1, hV.o9⟩ (by omega)
    have ht2 := does_tok (num := numb) (ita := Lib.itoa) (c := c) (o := o) (k := k) (v := v) (d := d) hi.lk
    exact ⟨h2, by show s.tok ≤ (doesD numb Lib.itoa c o k v d s).2.tok; omega, by show (doesD numb Lib.itoa c o k v d s).2.tok ≤ _; omega⟩
/-- A lock that was had. -/
theorem apply_had (hi : Inv s) (hv : validB c i r 6 k v d = true) {z : SesD} (hz : s.ss.getD c.toNat noSes = z) (hs : ¬ (z.inc > i ∨ (z.inc = i ∧ z.req > r))) (ha : ¬ (z.inc = i ∧ z.req = r)) (h1 : (applyD c i r 6 k v d s).1.code = 1) :
    holdD k (applyD c i r 6 k v d s).2 = ((c, i, (applyD c i r 6 k v d s).1.n), true) := by
  have hV := vcmd_of hv
  have hcl : c.toNat < s.ss.length := by rw [hi.s16]; have := hV.c0; have := hV.c1; omega
  have hss := (applyD_new (k := k) (v := v) (d := d) (o := 6) hi hv hz hs ha).1
  have hl : ∃ l, lfind k (applyD c i r 6 k v d s).2.locks = some l ∧ l.holder = c ∧ l.token = (applyD c i r 6 k v d s).1.n := by
    unfold applyD at h1 ⊢
    rw [if_pos hv] at h1 ⊢
    unfold applyV at h1 ⊢
    simp only [hz] at h1 ⊢
    rw [if_neg hs, if_neg ha] at h1 ⊢
    by_cases hn : 0 < z.inc ∧ z.inc < i
    · rw [if_pos hn] at h1 ⊢
      exact lock_had (num := numb) (ita := Lib.itoa) (hi.lk.lets c) h1
    · rw [if_neg hn] at h1 ⊢
      exact lock_had (num := numb) (ita := Lib.itoa) hi.lk h1
  obtain ⟨l, h2, h3, h4⟩ := hl
  unfold holdD
  rw [h2]
  simp only [h3, h4, hss]
  rw [getD_set_self hcl]
end
end Go.Proofs.YtlibhkehebioeaaGreatDoor
namespace Go.Proofs.YtlibhkehebioeaaGreatDoor
set_option linter.unusedVariables false
set_option linter.unusedSimpArgs false
open Go.RowKit

theorem Rd.intAt {w : World} {Z : Nat → Prop} {A : Option Addr} {n k : Nat} {l : List Int} (h : Rd w Z 1 A n (ics l)) (hk : k < n) :
    ∃ b o, A = some ⟨b, o, none⟩ ∧ Z b ∧ ∃ (hl : k < l.length), w.cell? ⟨b, o + k, none⟩ = some (.int .i64 l[k]) := by
  obtain ⟨b, o, hA, hz, hl, hc⟩ := h.at1 hk
  have hl2 : k < l.length := by simpa [ics] using hl
  exact ⟨b, o, hA, hz, hl2, by rw [hc]; simp [ics]⟩
theorem Rd.strAt {w : World} {Z : Nat → Prop} {A : Option Addr} {n k : Nat} {l : List Txt} (h : Rd w Z 1 A n (l.map str)) (hk : k < n) :
    ∃ b o, A = some ⟨b, o, none⟩ ∧ Z b ∧ ∃ (hl : k < l.length), w.cell? ⟨b, o + k, none⟩ = some (str l[k]) := by
  obtain ⟨b, o, hA, hz, hl, hc⟩ := h.at1 hk
  have hl2 : k < l.length := by simpa using hl
  exact ⟨b, o, hA, hz, hl2, by rw [hc]; simp⟩
theorem take_same {α : Type} {l m : List α} {k : Nat} (h : l.take k = m.take k) (hl : k < l.length) (hm : k < m.length) (he : l[k] = m[k]) : l.take (k + 1) = m.take (k + 1) := by
  rw [List.take_succ_eq_append_getElem hl, List.take_succ_eq_append_getElem hm, h, he]

/-! ### SameInts -/
set_option maxHeartbeats 400000 in
theorem sameints_any (Z1 Z2 : Nat → Prop) (A1 A2 : Option Addr) (n1 c1 n2 c2 : Nat) (l1 l2 : List Int) (w : World) (h1 : Rd w Z1 1 A1 n1 (ics l1)) (h2 : Rd w Z2 1 A2 n2 (ics l2)) (hn : n1 ≤ 1099511627770) (hn2 : n2 ≤ 1099511627770) :
    Calls Tryz.prog 24 #[.slice A1 n1 c1, .slice A2 n2 c2] w fun e w' => e = .returned (.bool (decide (l1 = l2))) ∧ ∃ k, w' = w.drewN k := by
  have hl1 : l1.length = n1 := by simpa [ics] using h1.1
  have hl2 : l2.length = n2 := by simpa [ics] using h2.1
  obtain ⟨r, hr⟩ : ∃ r, r = decide (l1 = l2) := ⟨_, rfl⟩
  rw [← hr]
  by_cases hne : n1 = n2
  · subst hne
    have HA := Lib.hid (And.intro h1 (And.intro h2 (And.intro hl1 (And.intro hl2 hr))))
    clear h1 h2 hl1 hl2 hr
    go_enter Tryz.func24, Tryz.ntmps24
    go_wp2
    go_loopw [5] (fun i wr => ∃ (k d : Nat), k ≤ n1 ∧ i = .int .i64 (k : Int) ∧ wr = w.drewN d ∧ Hid (l1.take k = l2.take k)) (fun i _ => n1 - (intOf i).toNat)
    case atStart => exact ⟨0, 0, Nat.zero_le _, rfl, rfl, rfl⟩
    case round =>
      obtain ⟨k, d, hk, rfl, rfl, HW⟩ := hrel
      by_cases hlt : k < n1
      · obtain ⟨b1, o1, rfl, -, g1, e1⟩ := HA.out.1.intAt hlt
        obtain ⟨b2, o2, rfl, -, g2, e2⟩ := HA.out.2.1.intAt hlt
        obtain ⟨x, hx⟩ : ∃ x, x = l1[k] := ⟨_, rfl⟩
        obtain ⟨y, hy⟩ : ∃ y, y = l2[k] := ⟨_, rfl⟩
        rw [← hx] at e1
        rw [← hy] at e2
        have HX := Lib.hid (And.intro hx hy)
        clear hx hy
        by_cases hxy : x = y
        · have hs := take_same HW.out g1 g2 (by rw [← HX.out.1, ← HX.out.2, hxy])
          have HS := Lib.hid hs
          clear hs HX HW g1 g2
          go_wp2_with fail
          go_quiet (fail)
          go_wp2_with fail
          exact ⟨⟨k + 1, _, by omega, congrArg _ (by omega), rfl, HS.out⟩, by simp [intOf]; omega⟩
        · have hf : r = false := by
            rw [HA.out.2.2.2.2]
            refine decide_eq_false fun h => hxy ?_
            subst h
            rw [HX.out.1, HX.out.2]
          clear HX HW g1 g2
          subst hf
          go_wp2_with fail
          go_quiet (fail)
          go_wp2_with fail
          go_ret
          exact ⟨rfl, _, World.drewN_drewN _ _ _⟩
      · obtain rfl : k = n1 := by omega
        have ht : r = true := by
          rw [HA.out.2.2.2.2]
          have := HW.out
          rw [List.take_of_length_le (by rw [HA.out.2.2.1]; exact Nat.le_refl _), List.take_of_length_le (by rw [HA.out.2.2.2.1]; exact Nat.le_refl _)] at this
          exact decide_eq_true this
        subst ht
        clear HW
        go_wp2_with fail
        go_ret
        exact ⟨rfl, _, rfl⟩
  · have hf : r = false := by
      rw [hr]
      exact decide_eq_false fun h => hne (by rw [← hl1, ← hl2, h])
    subst hf
    have hne' : ¬ ((n1 : Int) = (n2 : Int)) := by omega
    clear hr h1 h2 hl1 hl2
    go_enter Tryz.func24, Tryz.ntmps24
    go_wp2_with fail
    go_ret
    exact ⟨rfl, 0, rfl⟩

/-! ### sameNames -/
set_option maxHeartbeats 400000 in
theorem samenames_any (Z1 Z2 : Nat → Prop) (A1 A2 : Option Addr) (n1 c1 n2 c2 : Nat) (l1 l2 : List Txt) (w : World) (h1 : Rd w Z1 1 A1 n1 (l1.map str)) (h2 : Rd w Z2 1 A2 n2 (l2.map str)) (hn : n1 ≤ 1099511627770) (hn2 : n2 ≤ 1099511627770) :
    Calls Tryz.prog 33 #[.slice A1 n1 c1, .slice A2 n2 c2] w fun e w' => e = .returned (.bool (decide (l1 = l2))) ∧ ∃ k, w' = w.drewN k := by
  have hl1 : l1.length = n1 := by simpa using h1.1
  have hl2 : l2.length = n2 := by simpa using h2.1
  obtain ⟨r, hr⟩ : ∃ r, r = decide (l1 = l2) := ⟨_, rfl⟩
  rw [← hr]
  by_cases hne : n1 = n2
  · subst hne
    have HA := Lib.hid (And.intro h1 (And.intro h2 (And.intro hl1 (And.intro hl2 hr))))
    clear h1 h2 hl1 hl2 hr
    go_enter Tryz.func33, Tryz.ntmps33
    go_wp2
    go_loopw [5] (fun i wr => ∃ (k d : Nat), k ≤ n1 ∧ i = .int .i64 (k : Int) ∧ wr = w.drewN d ∧ Hid (l1.take k = l2.take k)) (fun i _ => n1 - (intOf i).toNat)
    case atStart => exact ⟨0, 0, Nat.zero_le _, rfl, rfl, rfl⟩
    case round =>
      obtain ⟨k, d, hk, rfl, rfl, HW⟩ := hrel
      by_cases hlt : k < n1
      · obtain ⟨b1, o1, rfl, -, g1, e1⟩ := HA.out.1.strAt hlt
        obtain ⟨b2, o2, rfl, -, g2, e2⟩ := HA.out.2.1.strAt hlt
        obtain ⟨x, hx⟩ : ∃ x, x = l1[k] := ⟨_, rfl⟩
        obtain ⟨y, hy⟩ : ∃ y, y = l2[k] := ⟨_, rfl⟩
        rw [← hx] at e1
        rw [← hy] at e2
        have HX := Lib.hid (And.intro hx hy)
        clear hx hy
        by_cases hxy : x = y
        · have hs := take_same HW.out g1 g2 (by rw [← HX.out.1, ← HX.out.2, hxy])
          have HS := Lib.hid hs
          clear hs HX HW g1 g2
          subst hxy
          go_wp2_with fail
          go_quiet (fail)
          go_wp2_with fail
          exact ⟨⟨k + 1, _, by omega, congrArg _ (by omega), rfl, HS.out⟩, by simp [intOf]; omega⟩
        · have hf : r = false := by
            rw [HA.out.2.2.2.2]
            refine decide_eq_false fun h => hxy ?_
            subst h
            rw [HX.out.1, HX.out.2]
          clear HX HW g1 g2
          subst hf
          have hb : (!(x == y)) = true := by simpa using hxy
          go_wp2_with fail
          go_quiet (fail)
          go_wp2_with fail
          go_ret
          exact ⟨rfl, _, World.drewN_drewN _ _ _⟩
      · obtain rfl : k = n1 := by omega
        have ht : r = true := by
          rw [HA.out.2.2.2.2]
          have := HW.out
          rw [List.take_of_length_le (by rw [HA.out.2.2.1]; exact Nat.le_refl _), List.take_of_length_le (by rw [HA.out.2.2.2.1]; exact Nat.le_refl _)] at this
          exact decide_eq_true this
        subst ht
        clear HW
        go_wp2_with fail
        go_ret
        exact ⟨rfl, _, rfl⟩
  · have hf : r = false := by
      rw [hr]
      exact decide_eq_false fun h => hne (by rw [← hl1, ← hl2, h])
    subst hf
    have hne' : ¬ ((n1 : Int) = (n2 : Int)) := by omega
    clear hr h1 h2 hl1 hl2
    go_enter Tryz.func33, Tryz.ntmps33
    go_wp2_with fail
    go_ret
    exact ⟨rfl, 0, rfl⟩

/-! ### less -/
theorem less_le (q : List Int) (x : Int) : (lessD q x).length ≤ q.length := List.length_filter_le _ _
theorem less_snoc (q : List Int) (x y : Int) : lessD (q ++ [y]) x = lessD q x ++ (if y = x then [] else [y]) := by
  unfold lessD
  rw [List.filter_append]
  by_cases h : y = x <;> simp [h]
set_option maxRecDepth 20000 in
theorem less_any (Z : Nat → Prop) (A : Option Addr) (n c : Nat) (q : List Int) (x : Int) (w : World) (h : Rd w Z 1 A n (ics q)) (hn : n ≤ 1000000) :
    Calls Tryz.prog 25 #[.slice A n c, .int .i64 x] w fun e w' => (∃ v, e = .returned v ∧ w'.ownsRow w.heap.size 3 1 v (lessD q x).length (ics (lessD q x))) ∧ Fresh w w' := by
  have hl : q.length = n := by simpa [ics] using h.1
  have HA := Lib.hid (And.intro (h.weaken (Z' := fun _ => True) fun _ _ => trivial) hl)
  clear h hl
  go_enter Tryz.func25, Tryz.ntmps25
  go_wp2_with fail
  go_loopw [5, 6] (fun v i wr => ∃ k : Nat, k ≤ n ∧ i = .int .i64 (k : Int) ∧ Hid (wr.ownsRow w.heap.size 3 1 v (lessD (q.take k) x).length (ics (lessD (q.take k) x)) ∧ Fresh w wr)) (fun _ i _ => n - (intOf i).toNat)
  case atStart => exact ⟨0, by omega, rfl, Lib.hid ⟨by exact World.ownsRow_nil _ _ _ _, Keep.refl _ _⟩⟩
  case round =>
    rename World => wr
    obtain ⟨k, hk, rfl, HR⟩ := hrel
    by_cases hlt : k < n
    · obtain ⟨b, o, rfl, -, hlk, e1⟩ := (HA.out.1.keep HR.out.2).intAt hlt
      obtain ⟨y, hy⟩ : ∃ y, y = q[k] := ⟨_, rfl⟩
      rw [← hy] at e1
      have HS : Hid (lessD (q.take (k + 1)) x = lessD (q.take k) x ++ (if y = x then [] else [y])) := Lib.hid (by rw [List.take_succ_eq_append_getElem hlk, ← hy, less_snoc])
      have hle : (lessD (q.take k) x).length ≤ 1000000 := by
        have := less_le (q.take k) x
        have := List.length_take_le k q
        omega
      clear hy hlk
      by_cases hyx : y = x
      · subst hyx
        have HS2 : Hid (lessD (q.take (k + 1)) y = lessD (q.take k) y) := Lib.hid (by rw [HS.out, if_pos rfl]; simp)
        clear HS hle
        go_wp2_with fail
        exact ⟨⟨k + 1, by omega, by simp, Lib.hid ⟨by rw [HS2.out]; exact HR.out.1, HR.out.2⟩⟩, by simp only [intOf]; omega⟩
      · have HS2 : Hid (lessD (q.take (k + 1)) x = lessD (q.take k) x ++ [y]) := Lib.hid (by rw [HS.out, if_neg hyx])
        have HL := Lib.hid hle
        clear HS hle
        go_wp2_with (at_builtin; refine wpList_app1 etInt2 rfl (.tmp 19) (.tmp 24) rfl (.int .i64 y) _ rfl w.heap.size _ (lessD (q.take k) x).length (ics (lessD (q.take k) x)) rfl rfl HR.out.1 (by have := HL.out; omega) HR.out.2.size ?_)
        intro v2 w2 ho2 hk2 hn2
        have H2 := Lib.hid (And.intro ho2 hk2)
        clear ho2 hk2 hn2
        go_wp2_with fail
        refine ⟨⟨k + 1, by omega, by simp, Lib.hid ⟨?_, HR.out.2.comp H2.out.2 (fun _ _ h => h) (fun i hi _ e => by have := (own_lt HR.out.1 e).1; omega)⟩⟩, by simp only [intOf]; omega⟩
        rw [HS2.out]
        have h1 := H2.out.1
        simpa [ics] using h1
    · obtain rfl : k = n := by omega
      go_wp2_with fail
      go_ret
      have h1 := HR.out.1
      rw [List.take_of_length_le (by rw [HA.out.2]; exact Nat.le_refl _)] at h1
      exact ⟨⟨_, rfl, h1⟩, HR.out.2⟩

/-! ### row -/
theorem rowA_one (a : Bool) (i j : Int) (q : Value) (h : q.oneCell' = true) : (#[.bool a, .int .i64 i, .int .i64 j, q] : Array Value).all (·.oneCell') = true := by
  simp [h, show (Value.bool a).oneCell' = true from rfl, show (Value.int IntKind.i64 i).oneCell' = true from rfl, show (Value.int IntKind.i64 j).oneCell' = true from rfl]
abbrev RowD.vals (r : RowD) (q : Value) : Array Value := #[.bool r.held, .int .i64 r.client, .int .i64 r.token, q]
/-- A row's value: its queue reads. -/
def RowV (w : World) (base : Nat) (r : RowD) (q : Value) : Prop := w.ownsRow base 3 1 q r.queue.length (ics r.queue)
theorem RowV.keep {w w' : World} {base : Nat} {r : RowD} {q : Value} (h : RowV w base r q) (hk : Fresh w w') : RowV w' base r q := own_keep h hk (fun _ _ => trivial)
theorem row_wait (k : Txt) (s : StD) : (waitD k s).map Prod.fst = (rowD k s).queue ∧ (holdD k s).2 = (rowD k s).held ∧ (holdD k s).1.1 = (rowD k s).client ∧ (holdD k s).1.2.2 = (rowD k s).token := by
  unfold waitD rowD holdD
  cases lfind k s.locks with
  | none => exact ⟨rfl, rfl, rfl, rfl⟩
  | some l => exact ⟨by simp [rowOf, Function.comp_def], rfl, rfl, rfl⟩
theorem wait_len {k : Txt} {s : StD} (h : LInv s.locks s.tok) : (waitD k s).length ≤ 16 := by
  unfold waitD
  cases hf : lfind k s.locks with
  | none => simp
  | some l =>
    have := h.each l (findK_some hf).2
    simpa using queue_len this.nd this.q
set_option maxRecDepth 20000 in
theorem row_any {B : Nat} {w : World} {F : Nat → Prop} {m : Nat} {s : StD} (h : MAt B w F m s) (k : Txt) (hk : k.length ≤ 1048576) :
    Calls Tryz.prog 21 #[.pointer (some ⟨m, 0, none⟩), str k] w fun e w' => (∃ q, e = .returned (.agg ((rowD k s).vals q)) ∧ RowV w' w.heap.size (rowD k s) q) ∧ Fresh w w' := by
  obtain ⟨g4, hg4⟩ : ∃ g, g = w.heap.size := ⟨_, rfl⟩
  obtain ⟨W, hW⟩ : ∃ W, W = w.alloc (.cells #[.bool false, .int .i64 0, .int .i64 0, .slice none 0 0] 47) := ⟨_, rfl⟩
  have hf0 : Fresh w W := hW ▸ (Keep.refl _ w).alloc _
  have hb0 : Blk W g4 47 #[.bool false, .int .i64 0, .int .i64 0, .slice none 0 0] := by rw [hW, hg4]; exact Blk.new _ _ _
  have hh := mat_holder (h.fresh hf0) k hk
  obtain ⟨R, hR⟩ : ∃ R, R = rowD k s := ⟨_, rfl⟩
  obtain ⟨X, hX⟩ : ∃ X, X = waitD k s := ⟨_, rfl⟩
  obtain ⟨r1, r2, r3, r4⟩ := row_wait k s
  have hlen := wait_len (k := k) h.inv.lk
  rw [← hX] at r1 hlen
  rw [← hR] at r1 r2 r3 r4
  obtain ⟨⟨⟨z1, zi, z3⟩, zb⟩, hH⟩ : ∃ H, H = holdD k s := ⟨_, rfl⟩
  rw [← hH] at hh r2 r3 r4
  simp only at hh r2 r3 r4
  have HH := Lib.hid hh
  have H0 := Lib.hid (And.intro h (And.intro hf0 (And.intro hb0 (And.intro r1 (And.intro r2 (And.intro r3 r4))))))
  have HR := Lib.hid hR
  have HX := Lib.hid hX
  have HG4 : Hid (w.heap.size ≤ g4) := Lib.hid (by omega)
  clear h hf0 hb0 r1 r2 r3 r4 hH hh
  go_enter Tryz.func21, Tryz.ntmps21
  go_upto_region 1 with (fail)
  simp only [← hg4]
  rw [← hW]
  clear hW hg4 hR hX
  go_wp2_with fail
  refine Calls.mono HH.out ?_
  rintro e w1 ⟨rfl, hf1⟩
  have H1 := Lib.hid hf1
  clear hf1 HH
  go_wp2_with (refine wpList_store_new rfl (.tmp 5) (.tmp 14) rfl _ (holdA (z1, zi, z3)) _ rfl rfl rfl (by kernel_rfl) (by simp [Value.oneCell']) ?_)
  intro w2 hb2 hf2 hs2
  obtain ⟨g5, hg5⟩ : ∃ g, g = w1.heap.size := ⟨_, rfl⟩
  rw [← hg5] at hb2 ⊢
  have t0 := hb2.cell 0
  have t2 := hb2.cell 2
  simp at t0 t2
  have hl5 := hb2.lt
  have H2 := Lib.hid (H1.out.then hf2)
  clear hb2 hf2 hs2 hg5 H1
  go_wp2_with (refine wpList_store_new rfl (.tmp 7) (.tmp 21) rfl _ #[.bool zb, .int .i64 z1, .int .i64 z3, .slice none 0 0] _ rfl rfl rfl (by kernel_rfl) (by simp [Value.oneCell']) ?_)
  intro w3 hb3 hf3 hs3
  obtain ⟨g7, hg7⟩ : ∃ g, g = w2.heap.size := ⟨_, rfl⟩
  rw [← hg7] at hb3 ⊢
  have hf03 := (H0.out.2.1.then H2.out).then hf3
  have HW := Lib.hid (mat_waiting (H0.out.1.fresh hf03) k hk)
  have hb4 := (H0.out.2.2.1.keep H2.out trivial).keep hf3 trivial
  have H47 : Hid (g4 ≠ g7) := Lib.hid (by have := (H0.out.2.2.1.keep H2.out trivial).lt; omega)
  have HG7 : Hid (w.heap.size ≤ g7) := Lib.hid (by have := (H0.out.2.1.then H2.out).size; omega)
  have H3 := Lib.hid (And.intro hf03 (And.intro hb3 hb4))
  clear t0 t2 hl5 hb3 hf3 hs3 hg7 hf03 hb4 H2
  go_wp2_with fail
  refine Calls.mono HW.out ?_
  rintro e w4 ⟨⟨v8, rfl, hv8⟩, hf4⟩
  rw [← HX.out] at hv8
  obtain ⟨A8, c8, rfl, hrd8, -⟩ := own_rd hv8
  have H4 := Lib.hid (And.intro (H3.out.1.then hf4) (And.intro (H3.out.2.1.keep hf4 trivial) (And.intro (H3.out.2.2.keep hf4 trivial) (own_base hv8 H3.out.1.size))))
  clear hv8 hf4 hrd8 HW H3
  go_wp2_with fail
  go_loopw [9] (fun iv wr => ∃ j : Nat, j ≤ X.length ∧ iv = .int .i64 (j : Int) ∧ Hid (∃ qv, Blk wr g7 47 #[.bool zb, .int .i64 z1, .int .i64 z3, qv] ∧ wr.ownsRow w.heap.size 3 1 qv j (ics ((X.take j).map Prod.fst)) ∧ wr.ownsRow w.heap.size 115 2 (.slice A8 X.length c8) X.length (wcells X) ∧ Fresh w wr ∧ Blk wr g4 47 #[.bool false, .int .i64 0, .int .i64 0, .slice none 0 0])) (fun i _ => X.length - (intOf i).toNat)
  case atStart => exact ⟨0, by omega, rfl, Lib.hid ⟨_, H4.out.2.1, by exact World.ownsRow_nil _ _ _ _, H4.out.2.2.2, H4.out.1, H4.out.2.2.1⟩⟩
  case round =>
    rename World => wr
    obtain ⟨j, hj, rfl, HW⟩ := hrel
    obtain ⟨qv, hbk, hoq, how, hfw, hb4⟩ := HW.out
    by_cases hlt : j < X.length
    · obtain ⟨A, cw, e8, hrd, -⟩ := own_rd how
      injection e8 with e8 _ ec
      subst e8 ec
      obtain ⟨b8, o8, rfl, -, hcell⟩ := hrd.2 (by omega)
      obtain ⟨x, hx⟩ : ∃ x, x = (X[j]).1 := ⟨_, rfl⟩
      have hc8 : wr.cell? ⟨b8, o8 + j * 2, none⟩ = some (.int .i64 x) := by
        refine hcell (j * 2) _ ?_
        have := rcells_get (f := waitC) (c := 2) (fun _ => rfl) X j hlt 0 (by omega)
        rw [Nat.add_zero] at this
        rw [this, hx]
        rfl
      have h3 := hbk.cell 3
      simp at h3
      have hqk : qv.ownBlock ≠ some g7 := own_ne_blk hoq hbk (by decide)
      have hq4 : qv.ownBlock ≠ some g4 := own_ne_blk hoq hb4 (by decide)
      have hl7 := hbk.lt
      have hl8 := lt_of_cell hc8
      have hji : (j : Int) < (X.length : Int) := by omega
      have HT : Hid (((X.take (j + 1)).map Prod.fst) = (X.take j).map Prod.fst ++ [x]) := Lib.hid (by rw [List.take_succ_eq_append_getElem hlt, List.map_append, hx]; rfl)
      have hkA : Fresh wr (wr.drew.alloc (.cells #[.int .i64 x] 3)) := ((Keep.refl (fun _ => True) wr).drew).alloc _
      have hoA := own_keep hoq hkA (fun _ _ => trivial)
      have fA : (wr.drew.alloc (.cells #[.int .i64 x] 3)).frozen? ⟨g7, 3, none⟩ = false := (hkA.frozen (p := ⟨g7, 3, none⟩) hl7 trivial).trans (hbk.frozen 3)
      have cA := hkA.cellAt h3 trivial
      have lA : g7 < (wr.drew.alloc (.cells #[.int .i64 x] 3)).heap.size := Nat.lt_of_lt_of_le hl7 hkA.size
      have HF := Lib.hid (And.intro hoA (And.intro hqk (And.intro cA (And.intro fA (And.intro lA (And.intro (show (j + 1) * 8 ≤ 140737488355328 by omega) (Nat.le_trans hfw.size hkA.size)))))))
      have HB := Lib.hid (And.intro hbk (And.intro hoq (And.intro how (And.intro hfw hb4))))
      clear hkA hoA fA cA lA hqk hq4 hbk hoq how hfw hb4 hx hrd hcell HW
      go_upto_region 7 with (fail)
      go_region_law (first
        | (refine step_app etInt2 rfl (.tmp 32) (.tmp 38) rfl w.heap.size qv j _ rfl HF.out.1 _ (some ⟨wr.heap.size, 0, none⟩) 1 _ [.int .i64 x] rfl (Rd.one_of (Blk.new _ _ _) rfl) (fun h => by cases h) (by simp [Value.oneCell']) HF.out.2.2.2.2.2.1 HF.out.2.2.2.2.2.2 ?_
           intro v4 w4 ho4 hk4 hn4
           obtain ⟨A4, c4, rfl, -⟩ := own_rd ho4
           have u3 := hk4.cellAt HF.out.2.2.1 HF.out.2.1
           have tf : w4.frozen? ⟨g7, 3, none⟩ = false := (hk4.frozen (p := ⟨g7, 3, none⟩) HF.out.2.2.2.2.1 HF.out.2.1).trans HF.out.2.2.2.1
           have tl : g7 < w4.heap.size := Nat.lt_of_lt_of_le HF.out.2.2.2.2.1 hk4.size
           have H5 := Lib.hid (And.intro ho4 (And.intro hk4 hn4))
           clear ho4 hk4 hn4))
      all_goals
        go_wp2_with fail
        obtain ⟨ho4, hk4, -⟩ := H5.out
        have hk : Keep (fun k => qv.ownBlock ≠ some k) wr w4 := (((Keep.refl (fun _ => True) wr).drew).alloc (.cells #[.int .i64 x] 3)).comp hk4 (fun _ _ _ => trivial) (fun _ _ h => h)
        have hqk := HF.out.2.1
        have hbk4 := HB.out.1.keep hk hqk
        have hV : (Value.slice A4 (j + 1) c4).ownBlock ≠ some g7 := own_ne_blk ho4 hbk4 (by decide)
        have how4 := own_keep HB.out.2.2.1 hk (fun k hk => own_apart HB.out.2.2.1 HB.out.2.1 (by decide) hk)
        have hb44 := HB.out.2.2.2.2.keep hk (own_ne_blk HB.out.2.1 HB.out.2.2.2.2 (by decide))
        refine ⟨⟨j + 1, by omega, by simp, Lib.hid ⟨_, hbk4.set 3 _, ?_, own_far how4 (p := ⟨g7, 3, none⟩) (own_ne_blk (e := 115) (t := 47) how4 hbk4 (by decide)) _, ?_, hb44.far H47.out _⟩⟩, by simp only [intOf]; omega⟩
        · rw [HT.out]
          have h1 := own_far ho4 (p := ⟨g7, 3, none⟩) hV (Value.slice A4 (j + 1) c4)
          simpa [ics] using h1
        · exact (HB.out.2.2.2.1.comp hk (fun _ _ h => h) (fun i hi _ e => by have := (own_lt HB.out.2.1 e).1; omega)).setCell (fun hh _ => by have := HG7.out; simp at hh; omega) _
    · obtain rfl : j = X.length := by omega
      have k0 := hbk.cell 0
      have k1 := hbk.cell 1
      have k2 := hbk.cell 2
      have k3 := hbk.cell 3
      simp at k0 k1 k2 k3
      have hl7 := hbk.lt
      have HT4 := Lib.hid hb4.there
      have HE := Lib.hid (And.intro hoq (And.intro hfw hb4))
      obtain ⟨Aq, cq, rfl, -⟩ := own_rd hoq
      clear hbk hoq how hfw hb4 HW
      go_wp2_with (refine wpList_store_to rfl 47 (.tmp 4) (.tmp 41) rfl g4 0 #[.bool zb, .int .i64 z1, .int .i64 z3, .slice Aq X.length cq] rfl rfl HT4.out (by kernel_rfl) (rowA_one _ _ _ _ rfl) ?_)
      intro w6 hw6
      have hb6 : Blk w6 g4 47 #[.bool zb, .int .i64 z1, .int .i64 z3, .slice Aq X.length cq] := by
        rw [hw6.out]
        exact HE.out.2.2.whole rfl
      have hk6 : Keep (fun j => j ≠ g4) wr w6 := by rw [hw6.out]; exact Keep.setCells _ _ _ (Keep.refl _ wr) (fun _ e => e rfl)
      have H6 := Lib.hid (And.intro hb6 hk6)
      have hne4 : (Value.slice Aq X.length cq).ownBlock ≠ some g4 := own_ne_blk HE.out.1 HE.out.2.2 (by decide)
      have HN4 := Lib.hid hne4
      clear k0 k1 k2 k3 hl7 hw6 hb6 hk6 hne4 HT4
      go_wp2_with fail
      refine bodyPost_ret (results_one rfl _ _ g4 47 #[.bool zb, .int .i64 z1, .int .i64 z3, .slice Aq X.length cq] _ rfl H6.out.1 Tryz.underlying47 rfl (by kernel_rfl)) rfl ?_
      obtain ⟨-, -, -, r1, r2, r3, r4⟩ := H0.out
      have e1 := own_keep HE.out.1 H6.out.2 (fun k hk e => HN4.out (e ▸ hk))
      rw [List.take_length, r1] at e1
      have e2 : X.length = R.queue.length := by rw [← r1, List.length_map]
      rw [← HR.out]
      refine ⟨⟨_, by rw [r2, r3, r4], ?_⟩, HE.out.2.1.comp H6.out.2 (fun _ _ h => h) (fun i hi _ e => by have := HG4.out; omega)⟩
      unfold RowV
      rw [← e2]
      exact e1
end Go.Proofs.YtlibhkehebioeaaGreatDoor
namespace Go.Proofs.YtlibhkehebioeaaGreatDoor
set_option linter.unusedVariables false
set_option linter.unusedSimpArgs false
open Go.RowKit

/-- The k-th byte of a text, for the walk. -/
theorem str_byte (l : List UInt8) (s : ByteArray) (hs : s = ByteArray.mk l.toArray) (k : Nat) (hk : k < l.length) (h : k < s.size) : (s[k]'h).toNat = l[k].toNat := by subst hs; rfl
/-- A byte of a text, for the walk to take. -/
theorem idx_str (s : ByteArray) (k : Nat) (z x : Int) (hk : k < s.size) (hz : z = (k : Int)) (hx : ((s[k]'hk).toNat : Int) = x) (w : World) :
    (Instr.index 9 (.string s) (.int .i64 z)).run Tryz.prog w = .ok (.int .u8 x) w := by
  subst hz hx
  rw [run_index_string w 9 _ .i64 _ Tryz.underlying9, dif_pos ⟨by omega, by omega⟩]
  simp only [Int.toNat_natCast]
theorem drop_cons {l : List UInt8} {k : Nat} (hk : k < l.length) : l.drop k = l[k] :: l.drop (k + 1) := List.drop_eq_getElem_cons hk
theorem rdig_none {l : List UInt8} {i0 : Nat} {neg : Bool} (h : l.length ≤ i0) : rdig l (l.drop i0) neg = (0, false) := by
  rw [List.drop_of_length_le h]; rfl
theorem rdig_lead {l : List UInt8} {i0 : Nat} {neg : Bool} (h : i0 < l.length) (hc : l[i0].toNat < 49 ∨ 57 < l[i0].toNat) : rdig l (l.drop i0) neg = (0, false) := by
  rw [drop_cons h, rdig, if_pos hc]
theorem rdig_dec {l : List UInt8} {i0 : Nat} {neg : Bool} (h : i0 < l.length) (hc : ¬ (l[i0].toNat < 49 ∨ 57 < l[i0].toNat)) : rdig l (l.drop i0) neg = match Lib.decFrom 0 (l.drop i0) with
    | none => (0, false)
    | some m => (if neg = true then -(m : Int) else (m : Int), true) := by
  rw [drop_cons h, rdig, if_neg hc]
  all_goals rfl
theorem decFrom_bad {xs ys : List UInt8} {b : UInt8} {a m : Nat} (h : Lib.decFrom a xs = some m) (hb : Lib.digitVal b = none) : Lib.decFrom a (xs ++ b :: ys) = none := by
  rw [decFrom_append, h]
  simp [Lib.decFrom, hb]
theorem take_drop_step {l : List UInt8} {i0 k : Nat} (hi : i0 ≤ k) (hk : k < l.length) : (l.drop i0).take (k + 1 - i0) = (l.drop i0).take (k - i0) ++ [l[k]] := by
  rw [show k + 1 - i0 = (k - i0) + 1 by omega, List.take_succ_eq_append_getElem (by simp; omega)]
  congr 2
  simp only [List.getElem_drop]
  congr 1
  omega
theorem drop_split {l : List UInt8} {i0 k : Nat} (hi : i0 ≤ k) (hk : k < l.length) : l.drop i0 = (l.drop i0).take (k - i0) ++ l[k] :: l.drop (k + 1) := by
  have h := (List.take_append_drop (k - i0) (l.drop i0)).symm
  rw [List.drop_drop, show i0 + (k - i0) = k by omega, drop_cons hk] at h
  exact h
theorem decFrom_small {l : List UInt8} {i0 k m : Nat} (h : Lib.decFrom 0 ((l.drop i0).take (k - i0)) = some m) (hl : l.length ≤ 8) : m < 100000000 := by
  have h1 := Lib.decFrom_lt _ _ _ h
  have h2 : ((l.drop i0).take (k - i0)).length ≤ 8 := by simp; omega
  have h3 : 10 ^ ((l.drop i0).take (k - i0)).length ≤ 10 ^ 8 := Nat.pow_le_pow_right (by decide) h2
  omega

set_option maxRecDepth 20000 in
set_option maxHeartbeats 2000000 in
theorem rnumber_any (l : List UInt8) (w : World) : Calls Tryz.prog 45 #[str l] w fun e w' => e = .returned (.tuple #[.int .i64 (rnum l).1, .bool (rnum l).2]) ∧ w = w' := by
  obtain ⟨t, ht⟩ : ∃ t, t = rnum l := ⟨_, rfl⟩
  rw [← ht]
  unfold rnum at ht
  by_cases hl : l.length = 0 ∨ 8 < l.length
  · rw [if_pos hl] at ht
    subst ht
    rcases hl with hl | hl
    · obtain rfl : l = [] := List.eq_nil_of_length_eq_zero hl
      clear hl
      go_enter Tryz.func45, Tryz.ntmps45
      go_wp2_with fail
      all_goals
        go_ret2
        exact ⟨rfl, rfl⟩
    · have h8 : (8 : Int) < (l.length : Int) := by omega
      clear hl
      go_enter Tryz.func45, Tryz.ntmps45
      go_wp2_with fail
      all_goals
        go_ret2
        exact ⟨rfl, rfl⟩
  · rw [if_neg hl] at ht
    by_cases hz : l = [48]
    · rw [if_pos hz] at ht
      subst hz ht
      clear hl
      go_enter Tryz.func45, Tryz.ntmps45
      go_wp2_with fail
      all_goals
        go_ret2
        exact ⟨rfl, rfl⟩
    · rw [if_neg hz] at ht
      obtain ⟨s, hs⟩ : ∃ s : ByteArray, s = ByteArray.mk l.toArray := ⟨_, rfl⟩
      have hsl : s.size = l.length := by rw [hs]; rfl
      have h0 : 0 < s.size := by omega
      obtain ⟨x0, hx0⟩ : ∃ x0 : Int, ((s[0]'h0).toNat : Int) = x0 := ⟨_, rfl⟩
      have ht2 : t = if x0 = 45 then rdig l (l.drop 1) true else rdig l (l.drop 0) false := by
        cases l with
        | nil => simp at hl
        | cons b r =>
          rw [ht]
          have e : (b = 45) = (x0 = 45) := by
            subst hs
            rw [← hx0]
            apply propext
            constructor
            · rintro rfl; rfl
            · intro h
              have h : (b.toNat : Int) = 45 := h
              exact UInt8.toNat_inj.1 (by rw [show b.toNat = 45 by omega]; rfl)
          simp only [e]
          rfl
      have g0 : (0 : Int) < (s.size : Int) := by omega
      have g8 : (s.size : Int) ≤ 8 := by omega
      have q1 : ¬ (s = ByteArray.mk #[48]) := fun h => hz (by rw [hs] at h; injection h with h; simpa using congrArg Array.toList h)
      have q2 : ((s.size : Int) == 0) = false := beq_eq_false_iff_ne.2 (by omega)
      have q4 : (s.toList == [48]) = false := by rw [hs]; simpa using hz
      rw [show str l = Value.string s by rw [hs]]
      have HL := Lib.hid (And.intro hl (And.intro hs hsl))
      clear hs hsl
      have i0 := idx_str s 0 0 x0 h0 rfl hx0 w
      replace hx0 := Lib.hid hx0
      have HT := Lib.hid ht2
      clear hl ht ht2
      by_cases hx : x0 = 45
      · have hT2 := HT.out
        rw [if_pos hx] at hT2
        have hx45 : (s[0]'h0).toNat = 45 := by have := hx0.out; omega
        clear hx0
        subst hx
        clear hx45
        by_cases h1 : l.length ≤ 1
        · rw [rdig_none h1] at hT2
          have g1 : (s.size : Int) ≤ 1 := by have := HL.out.2.2; omega
          subst hT2
          clear h1 HT
          go_enter Tryz.func45, Tryz.ntmps45
          go_wp2_with fail
          all_goals
            go_ret2
            exact ⟨rfl, rfl⟩
        · have h1' : 1 < s.size := by have := HL.out.2.2; omega
          have g1 : (1 : Int) < (s.size : Int) := by omega
          obtain ⟨x1, hx1⟩ : ∃ x1 : Int, ((s[1]'h1').toNat : Int) = x1 := ⟨_, rfl⟩
          have i1 := idx_str s 1 1 x1 h1' rfl hx1 w
          by_cases hc : x1 < 49 ∨ 57 < x1
          · have hl1 : 1 < l.length := by have := HL.out.2.2; omega
            rw [rdig_lead hl1 (by rw [← str_byte l s HL.out.2.1 1 hl1 h1']; omega)] at hT2
            subst hT2
            clear h1 HT hx1
            rcases hc with hc | hc
            all_goals
              go_enter Tryz.func45, Tryz.ntmps45
              go_wp2_with fail
              all_goals
                go_ret2
                exact ⟨rfl, rfl⟩
          · have hl1 : 1 < l.length := by have := HL.out.2.2; omega
            rw [rdig_dec hl1 (by rw [← str_byte l s HL.out.2.1 1 hl1 h1']; omega)] at hT2
            have HT2 := Lib.hid hT2
            have c1 : 49 ≤ x1 := by omega
            have c2 : x1 ≤ 57 := by omega
            clear hc hT2 h1 HT hx1
            go_enter Tryz.func45, Tryz.ntmps45
            go_wp2_with fail
            clear i0 i1
            go_loopw [5, 6] (fun a i wr => ∃ (k : Nat) (z : Int), 1 ≤ k ∧ k ≤ s.size ∧ i = .int .i64 (k : Int) ∧ a = .int .i64 z ∧ wr = w ∧ Hid (∃ m : Nat, z = (m : Int) ∧ Lib.decFrom 0 ((l.drop 1).take (k - 1)) = some m)) (fun _ i _ => s.size - (intOf i).toNat)
            case atStart => exact ⟨1, 0, by omega, by omega, rfl, rfl, rfl, Lib.hid ⟨0, rfl, by simp [Lib.decFrom]⟩⟩
            case round =>
              obtain ⟨k, z, hk1, hk, rfl, rfl, rfl, HW⟩ := hrel
              by_cases hlt : k < s.size
              · obtain ⟨x, hx⟩ : ∃ x : Int, ((s[k]'hlt).toNat : Int) = x := ⟨_, rfl⟩
                have hll : k < l.length := by have := HL.out.2.2; omega
                have ik := idx_str s k _ x hlt rfl hx wr
                obtain ⟨hz0, hz9⟩ : 0 ≤ z ∧ z < 100000000 := by
                  obtain ⟨m, hm, hW⟩ := HW.out
                  have := decFrom_small hW (by have := HL.out.1; omega)
                  omega
                by_cases hd : 48 ≤ x ∧ x ≤ 57
                · obtain ⟨hd1, hd2⟩ := hd
                  obtain ⟨y, hy⟩ : ∃ y : Nat, x = (y : Int) + 48 := ⟨(x - 48).toNat, by omega⟩
                  have hv : Lib.digitVal l[k] = some y := by
                    have := str_byte l s HL.out.2.1 k hll hlt
                    unfold Lib.digitVal
                    rw [if_pos (by omega)]
                    congr 1
                    omega
                  have hs : ∃ m : Nat, 10 * z + (x - 48) = (m : Int) ∧ Lib.decFrom 0 ((l.drop 1).take (k + 1 - 1)) = some m := by
                    obtain ⟨m, hm, hW⟩ := HW.out
                    refine ⟨10 * m + y, by omega, ?_⟩
                    rw [take_drop_step hk1 hll, decFrom_append, hW]
                    simp [Lib.decFrom, hv, Nat.mul_comm]
                  have HS := Lib.hid hs
                  have HY := Lib.hid hy
                  clear hs hv HW hx hy
                  go_wp2_with fail
                  have hy := HY.out
                  refine ⟨⟨k + 1, 10 * z + (x - 48), by omega, by omega, congrArg _ (by omega), congrArg _ (by omega), (by simp), HS⟩, by simp [intOf]; omega⟩
                · have hv : Lib.digitVal l[k] = none := by
                    have := str_byte l s HL.out.2.1 k hll hlt
                    unfold Lib.digitVal
                    rw [if_neg (by omega)]
                  have hT : t = (0, false) := by
                    obtain ⟨m, hm, hW⟩ := HW.out
                    rw [HT2.out, drop_split hk1 hll, decFrom_bad hW hv]
                  subst hT
                  clear hv HW HT2 hx
                  by_cases hd1 : x < 48
                  all_goals
                    go_wp2_with fail
                    all_goals
                      go_ret2
                      exact ⟨rfl, rfl⟩
              · have hT : t = (-z, true) := by
                  rw [HT2.out]
                  obtain ⟨m, hm, this⟩ := HW.out
                  rw [List.take_of_length_le (by have := HL.out.2.2; simp; omega)] at this
                  rw [this, hm]
                  simp
                subst hT
                clear HT2
                obtain ⟨hz0, hz9⟩ : 0 ≤ z ∧ z < 100000000 := by
                  obtain ⟨m, hm, hW⟩ := HW.out
                  have := decFrom_small hW (by have := HL.out.1; omega)
                  omega
                clear HW
                go_wp2_with fail
                go_ret2
                exact ⟨rfl, rfl⟩
      · have hT2 := HT.out
        rw [if_neg hx] at hT2
        have q5 : (x0 == 45) = false := by simpa using hx
        have q6 : ¬ (s = ByteArray.empty) := by rintro rfl; simp at h0
        have h1' : 0 < s.size := h0
        by_cases hc : x0 < 49 ∨ 57 < x0
        · have hl1 : 0 < l.length := by have := HL.out.2.2; omega
          rw [rdig_lead hl1 (by rw [← str_byte l s HL.out.2.1 0 hl1 h1']; have := hx0.out; omega)] at hT2
          subst hT2
          clear HT hx0
          rcases hc with hc | hc
          all_goals
            go_enter Tryz.func45, Tryz.ntmps45
            go_wp2_with fail
            all_goals
              go_ret2
              exact ⟨rfl, rfl⟩
        · have hl1 : 0 < l.length := by have := HL.out.2.2; omega
          rw [rdig_dec hl1 (by rw [← str_byte l s HL.out.2.1 0 hl1 h1']; have := hx0.out; omega)] at hT2
          have HT2 := Lib.hid hT2
          have c1 : 49 ≤ x0 := by omega
          have c2 : x0 ≤ 57 := by omega
          clear hc hT2 HT
          · go_enter Tryz.func45, Tryz.ntmps45
            go_wp2_with fail
            clear i0
            go_loopw [5, 6] (fun a i wr => ∃ (k : Nat) (z : Int), 0 ≤ k ∧ k ≤ s.size ∧ i = .int .i64 (k : Int) ∧ a = .int .i64 z ∧ wr = w ∧ Hid (∃ m : Nat, z = (m : Int) ∧ Lib.decFrom 0 ((l.drop 0).take (k - 0)) = some m)) (fun _ i _ => s.size - (intOf i).toNat)
            case atStart => exact ⟨0, 0, by omega, by omega, rfl, rfl, rfl, Lib.hid ⟨0, rfl, by simp [Lib.decFrom]⟩⟩
            case round =>
              obtain ⟨k, z, hk1, hk, rfl, rfl, rfl, HW⟩ := hrel
              by_cases hlt : k < s.size
              · obtain ⟨x, hx⟩ : ∃ x : Int, ((s[k]'hlt).toNat : Int) = x := ⟨_, rfl⟩
                have hll : k < l.length := by have := HL.out.2.2; omega
                have ik := idx_str s k _ x hlt rfl hx wr
                obtain ⟨hz0, hz9⟩ : 0 ≤ z ∧ z < 100000000 := by
                  obtain ⟨m, hm, hW⟩ := HW.out
                  have := decFrom_small hW (by have := HL.out.1; omega)
                  omega
                by_cases hd : 48 ≤ x ∧ x ≤ 57
                · obtain ⟨hd1, hd2⟩ := hd
                  obtain ⟨y, hy⟩ : ∃ y : Nat, x = (y : Int) + 48 := ⟨(x - 48).toNat, by omega⟩
                  have hv : Lib.digitVal l[k] = some y := by
                    have := str_byte l s HL.out.2.1 k hll hlt
                    unfold Lib.digitVal
                    rw [if_pos (by omega)]
                    congr 1
                    omega
                  have hs : ∃ m : Nat, 10 * z + (x - 48) = (m : Int) ∧ Lib.decFrom 0 ((l.drop 0).take (k + 1 - 0)) = some m := by
                    obtain ⟨m, hm, hW⟩ := HW.out
                    refine ⟨10 * m + y, by omega, ?_⟩
                    rw [take_drop_step hk1 hll, decFrom_append, hW]
                    simp [Lib.decFrom, hv, Nat.mul_comm]
                  have HS := Lib.hid hs
                  have HY := Lib.hid hy
                  clear hs hv HW hx hy
                  go_wp2_with fail
                  have hy := HY.out
                  refine ⟨⟨k + 1, 10 * z + (x - 48), by omega, by omega, congrArg _ (by omega), congrArg _ (by omega), (by simp), HS⟩, by simp [intOf]; omega⟩
                · have hv : Lib.digitVal l[k] = none := by
                    have := str_byte l s HL.out.2.1 k hll hlt
                    unfold Lib.digitVal
                    rw [if_neg (by omega)]
                  have hT : t = (0, false) := by
                    obtain ⟨m, hm, hW⟩ := HW.out
                    rw [HT2.out, drop_split hk1 hll, decFrom_bad hW hv]
                  subst hT
                  clear hv HW HT2 hx
                  by_cases hd1 : x < 48
                  all_goals
                    go_wp2_with fail
                    all_goals
                      go_ret2
                      exact ⟨rfl, rfl⟩
              · have hT : t = (z, true) := by
                  rw [HT2.out]
                  obtain ⟨m, hm, this⟩ := HW.out
                  rw [List.take_of_length_le (by have := HL.out.2.2; simp; omega)] at this
                  rw [this, hm]
                  simp
                subst hT
                clear HT2
                go_wp2_with fail
                go_ret2
                exact ⟨rfl, rfl⟩
end Go.Proofs.YtlibhkehebioeaaGreatDoor
