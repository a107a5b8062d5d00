/-
  MERGED: RQuor RSvA
-/
import Derived.Test.YtohnmaindbgngaaGreatDoorQJ
import Derived.Laws.BitsAllLaws
import Derived.Test.YtohnmaindbgngaaGreatDoorE1
namespace Go.Proofs.YtohnmaindbgngaaGreatDoor
set_option linter.unusedVariables false
set_option linter.unusedSimpArgs false
open Go.RowKit

/-! ### bits -/
theorem i64_and1 (n : Int) : bits .and .i64 n 1 = n % 2 := by
  have h1 : (BitVec.ofInt 64 1).toNat = 2 ^ 1 - 1 := by decide
  have key : (BitVec.ofInt 64 n &&& BitVec.ofInt 64 1).toNat = (n % ((2 ^ 64 : Nat) : Int)).toNat % 2 ^ 1 := by
    rw [BitVec.toNat_and, BitVec.toNat_ofInt, h1, Nat.and_two_pow_sub_one_eq_mod]
  show IntKind.i64.wrap ((BitVec.ofInt 64 n &&& BitVec.ofInt 64 1).toNat : Nat) = n % 2
  rw [key, IntKind.wrap_i64]
  omega
theorem bit_i64 {s k : Nat} : (bits BinOp.and IntKind.i64 ((s : Int) / 2 ^ k) 1 == 1) = s.testBit k := by
  have e : ((s : Int) / 2 ^ k) = ((s / 2 ^ k : Nat) : Int) := by simp
  rw [e, i64_and1, Nat.testBit_eq_decide_div_mod_eq]
  by_cases h1 : s / 2 ^ k % 2 = 1
  · rw [decide_eq_true h1]; simp; omega
  · rw [decide_eq_false h1]
    simp
    omega
theorem weighD_full (N : Nat) : ∀ (vs : List Int) (p : Nat), p + vs.length ≤ N → weighD (2 ^ N - 1) p vs = vs.sum
  | [], p, _ => rfl
  | v :: r, p, h => by
    have h' : p + (r.length + 1) ≤ N := h
    unfold weighD
    rw [weighD_full N r (p + 1) (by omega), Nat.testBit_two_pow_sub_one, List.sum_cons]
    rw [decide_eq_true (by omega)]
    simp
theorem or_pow {s p : Nat} (h : s < 2 ^ p) : s ||| (1 <<< p) = s + 2 ^ p := by
  rw [Nat.or_comm, Nat.one_shiftLeft, nat_join p (2 ^ p) s (by simp) h, Nat.add_comm]
/-- The loop of Bits. -/
structure BitsW (n : Nat) (ps : List Int) (k : Nat) (last : Int) (s : Nat) : Prop where
  eq : packD n (-1) 0 ps = packD n last s (ps.drop k)
  lo : -1 ≤ last
  hi : last < (n : Int) ∨ last = -1
  lt : s < 2 ^ (last + 1).toNat
theorem BitsW.step {n : Nat} {ps : List Int} {k : Nat} {last : Int} {s : Nat} (h : BitsW n ps k last s) (hk : k < ps.length) (h1 : last < ps[k]) (h2 : ps[k] < (n : Int)) : BitsW n ps (k + 1) ps[k] (s + 2 ^ (ps[k]).toNat) := by
  have hlo := h.lo
  have hs : s < 2 ^ (ps[k]).toNat := Nat.lt_of_lt_of_le h.lt (Nat.pow_le_pow_right (by omega) (by omega))
  refine ⟨?_, by omega, .inl h2, ?_⟩
  · rw [h.eq, List.drop_eq_getElem_cons hk]
    conv => lhs; unfold packD
    rw [if_neg (by omega), or_pow hs]
  · have e : (ps[k] + 1).toNat = (ps[k]).toNat + 1 := by omega
    rw [e, Nat.pow_succ]
    omega
theorem BitsW.lt16 {n : Nat} {ps : List Int} {k : Nat} {last : Int} {s : Nat} (h : BitsW n ps k last s) (hn : n ≤ 16) : s < 65536 := by
  have := h.lt
  have h1 := h.lo
  have h2 := h.hi
  exact Nat.lt_of_lt_of_le this ((Nat.pow_le_pow_right (by omega) (by omega) : 2 ^ (last + 1).toNat ≤ 2 ^ 16))
theorem BitsW.stop {n : Nat} {ps : List Int} {k : Nat} {last : Int} {s : Nat} (h : BitsW n ps k last s) (hk : k < ps.length) (h1 : ps[k] ≤ last ∨ (n : Int) ≤ ps[k]) : packD n (-1) 0 ps = none := by
  rw [h.eq, List.drop_eq_getElem_cons hk]
  unfold packD
  exact if_pos h1
theorem BitsW.last {n : Nat} {ps : List Int} {k : Nat} {last : Int} {s : Nat} (h : BitsW n ps k last s) (hk : ps.length ≤ k) : packD n (-1) 0 ps = some s := by
  rw [h.eq, List.drop_eq_nil_of_le hk]
  rfl
theorem pow_i64 {p : Nat} (h : p < 17) : IntKind.i64.wrap (2 ^ p) = ((2 ^ p : Nat) : Int) := by
  have : ∀ p : Fin 17, IntKind.i64.wrap (2 ^ p.val) = ((2 ^ p.val : Nat) : Int) := by decide
  exact this ⟨p, h⟩

/-! ### Check -/
set_option maxRecDepth 20000 in
set_option maxHeartbeats 400000 in
theorem rvotes_any (Z : Nat → Prop) (A : Option Addr) (n c : Nat) (vs : List Int) (w : World) (h : Rd w Z 1 A n (ics vs)) (hl : vs.length = n) (hn : n ≤ 1048576) :
    Calls Tryz.prog 20 #[.slice A n c] w fun e w' => e = .returned (.int .i64 (if ballotB vs = true then 0 else 110)) ∧ w = w' := by
  have H := Lib.hid (And.intro h hl)
  obtain ⟨R, hR⟩ : ∃ R : Int, R = if ballotB vs = true then 0 else 110 := ⟨_, rfl⟩
  rw [← hR]
  have HR := Lib.hid hR
  clear h hR
  go_enter Tryz.func20, Tryz.ntmps20
  by_cases hn1 : n < 1
  · obtain rfl : n = 0 := by omega
    obtain rfl : R = 110 := by
      rw [HR.out, if_neg]
      have := H.out.2
      unfold ballotB
      rw [decide_eq_false (by omega)]
      simp
    go_wp2_with fail
    go_ret
    exact ⟨rfl, rfl⟩
  by_cases hn2 : 16 < n
  · obtain rfl : R = 110 := by
      rw [HR.out, if_neg]
      have := H.out.2
      unfold ballotB
      rw [decide_eq_false (by omega : ¬ vs.length ≤ 16)]
      simp
    have d1 : decide ((n : Int) < 1) = false := decide_eq_false (by omega)
    have d2 : decide ((16 : Int) < (n : Int)) = true := decide_eq_true (by omega)
    go_wp2_with fail
    go_ret
    exact ⟨rfl, rfl⟩
  have d1 : decide ((n : Int) < 1) = false := decide_eq_false (by omega)
  have d2 : decide ((16 : Int) < (n : Int)) = false := decide_eq_false (by omega)
  go_wp2_with fail
  go_loopw [3, 4] (fun sv iv wr => ∃ (k : Nat) (tot fst : Int), k ≤ n ∧ sv = .int .i64 tot ∧ iv = .int .i64 (k : Int) ∧ wr = w ∧ Hid (Cnt0 vs k tot fst)) (fun _ i _ => n - (intOf i).toNat)
  case atStart => exact ⟨0, 0, -1, Nat.zero_le _, rfl, rfl, rfl, Lib.hid (Cnt0.zero vs)⟩
  case round =>
    obtain ⟨k, tot, fst, hk, rfl, rfl, rfl, HW⟩ := hrel
    by_cases hlt : k < n
    · obtain ⟨g, o, rfl, hz, hkl, c0⟩ := Rd.at1 H.out.1 hlt
      have hkv : k < vs.length := by rw [H.out.2]; exact hlt
      obtain ⟨x, hx⟩ : ∃ x, x = vs[k] := ⟨_, rfl⟩
      replace c0 : wr.cell? ⟨g, o + k, none⟩ = some (.int .i64 x) := by rw [c0, hx]; simp [ics]
      have HX := Lib.hid (show ∃ hl : k < vs.length, x = vs[k] from ⟨hkv, hx⟩)
      clear hx hkl
      by_cases x0 : x < 0
      · obtain rfl : R = 110 := by
          obtain ⟨hl, hx⟩ := HX.out
          rw [HR.out, if_neg (by rw [ballotB_bad hl (.inl (hx ▸ x0))]; decide)]
        have e1 : decide (x < 0) = true := decide_eq_true x0
        go_wp2_with fail
        go_ret
        exact ⟨rfl, rfl⟩
      by_cases x9 : 9 < x
      · have e1 : decide (x < 0) = false := decide_eq_false x0
        have e2 : decide (9 < x) = true := decide_eq_true x9
        obtain rfl : R = 110 := by
          obtain ⟨hl, hx⟩ := HX.out
          rw [HR.out, if_neg (by rw [ballotB_bad hl (.inr (hx ▸ x9))]; decide)]
        go_wp2_with fail
        go_ret
        exact ⟨rfl, rfl⟩
      have e1 : decide (x < 0) = false := decide_eq_false x0
      have e2 : decide (9 < x) = false := decide_eq_false x9
      have HS : Hid (Cnt0 vs (k + 1) (tot + x) (if fst < 0 ∧ 0 < x then (k : Int) else fst)) := Lib.hid (by
        obtain ⟨hl, hx⟩ := HX.out
        rw [hx] at x0 x9 ⊢
        exact HW.out.step hl (by omega) (by omega))
      have ht0 := HW.out.lo
      have ht9 := HW.out.hi
      go_wp2_with fail
      exact ⟨⟨k + 1, tot + x, _, by omega, rfl, by simp, trivial, HS⟩, by simp [intOf]; omega⟩
    · obtain rfl : k = n := by omega
      have HE := Lib.hid (ballotB_end (by rw [H.out.2]; exact HW.out) (by rw [H.out.2]; omega) (by rw [H.out.2]; omega))
      by_cases ht : tot = 0
      · subst ht
        obtain rfl : R = 110 := by rw [HR.out, HE.out.1]; rfl
        go_wp2_with fail
        go_ret
        exact ⟨rfl, rfl⟩
      · have e5 : (tot == 0) = false := by simpa using ht
        obtain rfl : R = 0 := by rw [HR.out, HE.out.1, decide_eq_true ht]; rfl
        clear ht
        go_wp2_with fail
        go_ret
        exact ⟨rfl, rfl⟩

/-! ### in, weight, first -/
set_option maxRecDepth 20000 in
theorem rin_any (s k : Nat) (w : World) (hk : k < 64) :
    Calls Tryz.prog 109 #[.int .i64 (s : Int), .int .i64 (k : Int)] w fun e w' => e = .returned (.bool (s.testBit k)) ∧ w = w' := by
  obtain ⟨t, ht⟩ : ∃ t, t = s.testBit k := ⟨_, rfl⟩
  have hb := bit_i64 (s := s) (k := k)
  rw [← ht] at hb ⊢
  clear ht
  go_enter Tryz.func109, Tryz.ntmps109
  go_wp2_with fail
  go_ret
  exact ⟨rfl, rfl⟩
set_option maxRecDepth 20000 in
set_option maxHeartbeats 400000 in
theorem rweight_any (Z : Nat → Prop) (A : Option Addr) (n c : Nat) (vs : List Int) (set : Nat) (w : World) (h : Rd w Z 1 A n (ics vs)) (hl : vs.length = n) (hv : ballotB vs = true) :
    Calls Tryz.prog 108 #[.slice A n c, .int .i64 (set : Int)] w fun e w' => e = .returned (.int .i64 (weighD set 0 vs)) ∧ w = w' := by
  obtain ⟨v1, v2, v3⟩ := ballotB_all hv
  rw [hl] at v1 v2
  have H := Lib.hid (And.intro h (And.intro hl v3))
  obtain ⟨W, hW⟩ : ∃ W, W = weighD set 0 vs := ⟨_, rfl⟩
  rw [← hW]
  have HR := Lib.hid hW
  clear h hl hv v3 hW
  go_enter Tryz.func108, Tryz.ntmps108
  go_wp2
  go_loopw [5, 6] (fun xv iv wr => ∃ (k : Nat) (wt : Int), k ≤ n ∧ xv = .int .i64 wt ∧ iv = .int .i64 (k : Int) ∧ wr = w ∧ Hid (WeighW set vs k wt)) (fun _ i _ => n - (intOf i).toNat)
  case atStart => exact ⟨0, 0, Nat.zero_le _, rfl, rfl, rfl, Lib.hid ⟨by simp, by omega, by omega⟩⟩
  case round =>
    obtain ⟨k, wt, hk, rfl, rfl, rfl, HW⟩ := hrel
    by_cases hlt : k < n
    · obtain ⟨g, o, rfl, hz, hkl, c0⟩ := Rd.at1 H.out.1 hlt
      have hkv : k < vs.length := by rw [H.out.2.1]; exact hlt
      obtain ⟨x, hx⟩ : ∃ x, x = vs[k] := ⟨_, rfl⟩
      replace c0 : wr.cell? ⟨g, o + k, none⟩ = some (.int .i64 x) := by rw [c0, hx]; simp [ics]
      have hx0 := (H.out.2.2 k hkv).1
      have hx9 := (H.out.2.2 k hkv).2
      have hS := HW.out.step hkv hx0 hx9
      rw [← hx] at hx0 hx9 hS
      have HC := Lib.hid (rin_any set k wr (by omega))
      obtain ⟨tb, htb⟩ : ∃ tb, tb = set.testBit k := ⟨_, rfl⟩
      rw [← htb] at hS HC
      have HS := Lib.hid hS
      have ht0 := HW.out.lo
      have ht9 := HW.out.hi
      clear hx hkl hS htb
      go_wp2_with fail
      refine Calls.mono HC.out ?_
      rintro e _ ⟨rfl, rfl⟩
      clear HC
      cases tb
      · go_wp2_with fail
        exact ⟨⟨k + 1, wt, by omega, rfl, by simp, trivial, Lib.hid (by simpa using HS.out)⟩, by simp [intOf]; omega⟩
      · go_wp2_with fail
        exact ⟨⟨k + 1, wt + x, by omega, rfl, by simp, trivial, Lib.hid (by simpa using HS.out)⟩, by simp [intOf]; omega⟩
    · obtain rfl : k = n := by omega
      have hWe : W = wt := by
        have h1 := HW.out
        rw [← H.out.2.1] at h1
        rw [HR.out]
        exact h1.last
      subst hWe
      go_wp2_with fail
      go_ret
      exact ⟨rfl, rfl⟩
theorem firstD_hit {vs : List Int} {k : Nat} (hk : k < vs.length) (h0 : firstD (vs.take k) < 0) (hp : 0 < vs[k]) : firstD vs = (k : Int) := by
  have h1 : ¬ (vs.take k).findIdx (fun v => decide (0 < v)) < (vs.take k).length := fun h => by
    unfold firstD at h0
    rw [if_pos h] at h0
    omega
  have h2 : vs = vs.take k ++ vs[k] :: vs.drop (k + 1) := by
    rw [← List.drop_eq_getElem_cons hk, List.take_append_drop]
  have h3 : vs.findIdx (fun v => decide (0 < v)) = k := by
    rw [h2, List.findIdx_append, if_neg h1, List.findIdx_cons, decide_eq_true hp]
    simp
    omega
  unfold firstD
  rw [h3, if_pos hk]
set_option maxRecDepth 20000 in
set_option maxHeartbeats 400000 in
theorem rfstv_any (Z : Nat → Prop) (A : Option Addr) (n c : Nat) (vs : List Int) (w : World) (h : Rd w Z 1 A n (ics vs)) (hl : vs.length = n) (hv : ballotB vs = true) :
    Calls Tryz.prog 110 #[.slice A n c] w fun e w' => e = .returned (.int .i64 (firstD vs)) ∧ w = w' := by
  obtain ⟨v1, v2, v3⟩ := ballotB_all hv
  obtain ⟨p, hp, -⟩ := first_ok hv
  rw [hl] at v1 v2
  have H := Lib.hid (And.intro h (And.intro hl (And.intro v3 hp)))
  obtain ⟨W, hW⟩ : ∃ W, W = firstD vs := ⟨_, rfl⟩
  rw [← hW]
  have HR := Lib.hid hW
  clear h hl hv v3 hW hp
  go_enter Tryz.func110, Tryz.ntmps110
  go_wp2
  go_loopw [3] (fun iv wr => ∃ (k : Nat), k ≤ n ∧ iv = .int .i64 (k : Int) ∧ wr = w ∧ Hid (firstD (vs.take k) < 0)) (fun i _ => n - (intOf i).toNat)
  case atStart => exact ⟨0, Nat.zero_le _, rfl, rfl, Lib.hid (by rw [List.take_zero]; decide)⟩
  case round =>
    obtain ⟨k, hk, rfl, rfl, HW⟩ := hrel
    by_cases hlt : k < n
    · obtain ⟨g, o, rfl, hz, hkl, c0⟩ := Rd.at1 H.out.1 hlt
      have hkv : k < vs.length := by rw [H.out.2.1]; exact hlt
      obtain ⟨x, hx⟩ : ∃ x, x = vs[k] := ⟨_, rfl⟩
      replace c0 : wr.cell? ⟨g, o + k, none⟩ = some (.int .i64 x) := by rw [c0, hx]; simp [ics]
      have hx0 := (H.out.2.2.1 k hkv).1
      rw [← hx] at hx0
      have HX := Lib.hid (show ∃ hl : k < vs.length, x = vs[k] from ⟨hkv, hx⟩)
      clear hx hkl
      by_cases hz : x = 0
      · subst hz
        go_wp2_with fail
        refine ⟨⟨k + 1, by omega, by simp, trivial, Lib.hid ?_⟩, by simp [intOf]; omega⟩
        obtain ⟨hl, hx⟩ := HX.out
        rw [List.take_succ_eq_append_getElem hl, firstD_snoc, ← hx, if_neg (by omega)]
        exact HW.out
      · have e1 : (x != 0) = true := by simpa using hz
        obtain rfl : W = (k : Int) := by
          obtain ⟨hl, hx⟩ := HX.out
          rw [HR.out, firstD_hit hl HW.out (by rw [← hx]; omega)]
        clear hz
        go_wp2_with fail
        go_ret
        exact ⟨rfl, rfl⟩
    · obtain rfl : k = n := by omega
      exfalso
      have h1 := HW.out
      rw [List.take_of_length_le (by rw [H.out.2.1]; exact Nat.le_refl _), H.out.2.2.2] at h1
      omega

/-! ### Wins -/
set_option maxRecDepth 20000 in
set_option maxHeartbeats 400000 in
theorem rwins_any (Z : Nat → Prop) (A : Option Addr) (n c : Nat) (vs : List Int) (set : Nat) (w : World) (h : Rd w Z 1 A n (ics vs)) (hl : vs.length = n) (hv : ballotB vs = true) :
    Calls Tryz.prog 93 #[.slice A n c, .int .i64 (set : Int)] w fun e w' => e = .returned (.bool (setB vs set)) ∧ w = w' := by
  obtain ⟨v1, v2, v3⟩ := ballotB_all hv
  obtain ⟨p, hp, hp16⟩ := first_ok hv
  have HC1 := Lib.hid (rweight_any Z A n c vs (2 ^ n - 1) w h hl hv)
  have HC2 := Lib.hid (rweight_any Z A n c vs set w h hl hv)
  have HC3 := Lib.hid (rfstv_any Z A n c vs w h hl hv)
  have HC4 := Lib.hid (rin_any set p w (by omega))
  rw [hl] at v1 v2
  obtain ⟨tot, ht⟩ : ∃ t, t = vs.sum := ⟨_, rfl⟩
  rw [weighD_full n vs 0 (by omega), ← ht] at HC1
  obtain ⟨W, hW⟩ : ∃ W, W = weighD set 0 vs := ⟨_, rfl⟩
  obtain ⟨tb, htb⟩ : ∃ tb, tb = set.testBit p := ⟨_, rfl⟩
  obtain ⟨R, hRR⟩ : ∃ R, R = setB vs set := ⟨_, rfl⟩
  have hR : R = if tot < 2 * W then true else if 2 * W = tot then tb else false := by
    rw [hRR]
    unfold setB
    rw [← hW, ← ht, hp, htb]
    rfl
  have hwl : 0 ≤ W ∧ W ≤ 144 := by
    have key : ∀ k : Nat, k ≤ vs.length → ∃ wt, WeighW set vs k wt := fun k => by
      induction k with
      | zero => exact fun _ => ⟨0, by simp, by omega, by omega⟩
      | succ k ih =>
        intro hk
        obtain ⟨wt, hw⟩ := ih (by omega)
        exact ⟨_, hw.step (by omega) (v3 k (by omega)).1 (v3 k (by omega)).2⟩
    obtain ⟨wt, hw⟩ := key vs.length (Nat.le_refl _)
    rw [hW, hw.last]
    have := hw.lo; have := hw.hi
    omega
  rw [← hW] at HC2
  rw [hp] at HC3
  rw [← htb] at HC4
  rw [← hRR]
  have HR := Lib.hid hR
  have pw : IntKind.i64.wrap (2 ^ n) = 2 ^ n := by rw [pow_i64 (by omega)]; simp
  have pn : (((2 ^ n - 1 : Nat)) : Int) = 2 ^ n - 1 := by
    have := Nat.one_le_two_pow (n := n)
    rw [Int.natCast_sub this]; simp
  have pl : (2 : Int) ^ n ≤ 65536 := by
    have : (2 : Nat) ^ n ≤ 2 ^ 16 := Nat.pow_le_pow_right (by omega) v2
    have h2 : (2 : Int) ^ n = ((2 ^ n : Nat) : Int) := by simp
    omega
  have pg : 1 ≤ (2 : Int) ^ n := by
    have := Nat.one_le_two_pow (n := n)
    have h2 : (2 : Int) ^ n = ((2 ^ n : Nat) : Int) := by simp
    omega
  rw [pn] at HC1
  clear h hp hW hR hRR ht htb hl v3 hv
  go_enter Tryz.func93, Tryz.ntmps93
  go_wp2_with fail
  refine Calls.mono HC1.out ?_
  rintro e _ ⟨rfl, rfl⟩
  clear HC1
  go_wp2_with fail
  refine Calls.mono HC2.out ?_
  rintro e _ ⟨rfl, rfl⟩
  clear HC2
  by_cases h1 : tot < 2 * W
  · have e1 : decide (tot < 2 * W) = true := decide_eq_true h1
    obtain rfl : R = true := by rw [HR.out, if_pos h1]
    go_wp2_with fail
    go_ret
    exact ⟨rfl, rfl⟩
  · have e1 : decide (tot < 2 * W) = false := decide_eq_false h1
    by_cases h2 : 2 * W = tot
    · have e2 : (2 * W == tot) = true := by simpa using h2
      obtain rfl : R = tb := by rw [HR.out, if_neg h1, if_pos h2]
      clear h1 h2
      go_wp2_with fail
      refine Calls.mono HC3.out ?_
      rintro e _ ⟨rfl, rfl⟩
      clear HC3
      go_wp2_with fail
      refine Calls.mono HC4.out ?_
      rintro e _ ⟨rfl, rfl⟩
      clear HC4
      go_wp2_with fail
      go_ret
      exact ⟨rfl, rfl⟩
    · have e2 : (2 * W == tot) = false := by simpa using h2
      obtain rfl : R = false := by rw [HR.out, if_neg h1, if_neg h2]
      clear h1 h2
      go_wp2_with fail
      go_ret
      exact ⟨rfl, rfl⟩

/-! ### Bits -/
def bitsV (o : Option Nat) : Int := match o with
  | none => -1
  | some s => (s : Int)
set_option maxRecDepth 20000 in
set_option maxHeartbeats 400000 in
theorem rbits_any (Z : Nat → Prop) (A : Option Addr) (n c m : Nat) (ps : List Int) (w : World) (h : Rd w Z 1 A n (ics ps)) (hl : ps.length = n) (hn : n ≤ 1048576) (hm : m ≤ 16) :
    Calls Tryz.prog 92 #[.slice A n c, .int .i64 (m : Int)] w fun e w' => e = .returned (.int .i64 (bitsV (packD m (-1) 0 ps))) ∧ w = w' := by
  have H := Lib.hid (And.intro h hl)
  obtain ⟨R, hR⟩ : ∃ R, R = bitsV (packD m (-1) 0 ps) := ⟨_, rfl⟩
  rw [← hR]
  have HR := Lib.hid hR
  clear h hR
  go_enter Tryz.func92, Tryz.ntmps92
  go_wp2
  go_loopw [5, 6, 7] (fun sv lv iv wr => ∃ (k s : Nat) (last : Int), k ≤ n ∧ sv = .int .i64 (s : Int) ∧ lv = .int .i64 last ∧ iv = .int .i64 (k : Int) ∧ wr = w ∧ Hid (BitsW m ps k last s)) (fun _ _ i _ => n - (intOf i).toNat)
  case atStart => exact ⟨0, 0, -1, Nat.zero_le _, rfl, rfl, rfl, rfl, Lib.hid ⟨rfl, by omega, .inr rfl, by decide⟩⟩
  case round =>
    obtain ⟨k, s, last, hk, rfl, rfl, rfl, rfl, HW⟩ := hrel
    by_cases hlt : k < n
    · obtain ⟨g, o, rfl, hz, hkl, c0⟩ := Rd.at1 H.out.1 hlt
      have hkv : k < ps.length := by rw [H.out.2]; exact hlt
      obtain ⟨x, hx⟩ : ∃ x, x = ps[k] := ⟨_, rfl⟩
      replace c0 : wr.cell? ⟨g, o + k, none⟩ = some (.int .i64 x) := by rw [c0, hx]; simp [ics]
      have HX := Lib.hid (show ∃ hl : k < ps.length, x = ps[k] from ⟨hkv, hx⟩)
      clear hx hkl
      by_cases x0 : x ≤ last
      · have e1 : decide (x ≤ last) = true := decide_eq_true x0
        obtain rfl : R = -1 := by
          obtain ⟨hl, hx⟩ := HX.out
          rw [HR.out, HW.out.stop hl (.inl (hx ▸ x0))]; rfl
        go_wp2_with fail
        go_ret
        exact ⟨rfl, rfl⟩
      by_cases x9 : (m : Int) ≤ x
      · have e1 : decide (x ≤ last) = false := decide_eq_false x0
        have e2 : decide ((m : Int) ≤ x) = true := decide_eq_true x9
        obtain rfl : R = -1 := by
          obtain ⟨hl, hx⟩ := HX.out
          rw [HR.out, HW.out.stop hl (.inr (hx ▸ x9))]; rfl
        go_wp2_with fail
        go_ret
        exact ⟨rfl, rfl⟩
      have e1 : decide (x ≤ last) = false := decide_eq_false x0
      have e2 : decide ((m : Int) ≤ x) = false := decide_eq_false x9
      have HS : Hid (BitsW m ps (k + 1) x (s + 2 ^ x.toNat)) := Lib.hid (by
        obtain ⟨hl, hx⟩ := HX.out
        rw [hx] at x0 x9 ⊢
        exact HW.out.step hl (by omega) (by omega))
      have hlo := HW.out.lo
      obtain ⟨p, rfl⟩ : ∃ p : Nat, x = (p : Int) := ⟨x.toNat, by omega⟩
      have hp16 : p < 16 := by omega
      have hs := HW.out.lt16 hm
      have pw : IntKind.i64.wrap (2 ^ p) = 2 ^ p := by rw [pow_i64 (by omega)]; simp
      have pl : (2 : Int) ^ p ≤ 65536 := by
        have : (2 : Nat) ^ p ≤ 2 ^ 16 := Nat.pow_le_pow_right (by omega) (by omega)
        have h2 : (2 : Int) ^ p = ((2 ^ p : Nat) : Int) := by simp
        omega
      have pg : 1 ≤ (2 : Int) ^ p := by
        have := Nat.one_le_two_pow (n := p)
        have h2 : (2 : Int) ^ p = ((2 ^ p : Nat) : Int) := by simp
        omega
      go_wp2_with fail
      exact ⟨⟨k + 1, s + 2 ^ p, p, by omega, by simp, rfl, by simp, trivial, by simpa using HS⟩, by simp [intOf]; omega⟩
    · obtain rfl : k = n := by omega
      obtain rfl : R = (s : Int) := by
        rw [HR.out, HW.out.last (by rw [H.out.2]; exact Nat.le_refl _)]; rfl
      go_wp2_with fail
      go_ret
      exact ⟨rfl, rfl⟩

/-! ### Quorate -/
def quorO (vs : List Int) (o : Option Nat) : Bool := match o with
  | none => false
  | some set => setB vs set
theorem quorB_eq (vs ps : List Int) : quorB vs ps = quorO vs (packD vs.length (-1) 0 ps) := by
  unfold quorB quorO
  cases packD vs.length (-1) 0 ps <;> rfl
set_option maxRecDepth 20000 in
set_option maxHeartbeats 400000 in
/-- quorateref11.Quorate, of votes that are right. -/
theorem rquor_any (Z : Nat → Prop) (A : Option Addr) (n c : Nat) (vs : List Int) (A2 : Option Addr) (n2 c2 : Nat) (ps : List Int) (w : World) (h : Rd w Z 1 A n (ics vs)) (hl : vs.length = n) (hn : n ≤ 1048576) (hv : ballotB vs = true)
    (h2 : Rd w Z 1 A2 n2 (ics ps)) (hl2 : ps.length = n2) (hn2 : n2 ≤ 1048576) :
    Calls Tryz.prog 60 #[.slice A n c, .slice A2 n2 c2] w fun e w' => (∃ z : Int, e = .returned (.tuple #[.bool (quorB vs ps), .int .i64 z])) ∧ w = w' := by
  have v2 := (ballotB_all hv).2.1
  rw [hl] at v2
  have HC := Lib.hid (rvotes_any Z A n c vs w h hl hn)
  rw [if_pos hv] at HC
  have HP := Lib.hid (rbits_any Z A2 n2 c2 n ps w h2 hl2 hn2 v2)
  have HQ := Lib.hid (fun set : Nat => rwins_any Z A n c vs set w h hl hv)
  obtain ⟨R, hR⟩ : ∃ R, R = packD n (-1) 0 ps := ⟨_, rfl⟩
  have hE : quorB vs ps = quorO vs R := by rw [quorB_eq, hl, hR]
  rw [← hR] at HP
  obtain ⟨q, hq⟩ : ∃ q, q = quorB vs ps := ⟨_, rfl⟩
  rw [← hq] at hE ⊢
  clear h h2 hR hv hq
  cases R with
  | none =>
    obtain rfl : q = false := hE
    unfold bitsV at HP
    simp only at HP
    clear HQ
    go_enter Tryz.func60, Tryz.ntmps60
    go_wp2_with fail
    refine Calls.mono HC.out ?_
    rintro e _ ⟨rfl, rfl⟩
    clear HC
    go_wp2_with fail
    refine Calls.mono HP.out ?_
    rintro e _ ⟨rfl, rfl⟩
    clear HP
    go_wp2_with fail
    go_ret2
    exact ⟨⟨1, rfl⟩, rfl⟩
  | some set =>
    replace hE : q = setB vs set := hE
    have HS := Lib.hid (HQ.out set)
    rw [← hE] at HS
    unfold bitsV at HP
    simp only at HP
    clear HQ hE
    go_enter Tryz.func60, Tryz.ntmps60
    go_wp2_with fail
    refine Calls.mono HC.out ?_
    rintro e _ ⟨rfl, rfl⟩
    clear HC
    go_wp2_with fail
    refine Calls.mono HP.out ?_
    rintro e _ ⟨rfl, rfl⟩
    clear HP
    go_wp2_with fail
    refine Calls.mono HS.out ?_
    rintro e _ ⟨rfl, rfl⟩
    clear HS
    go_wp2_with fail
    go_ret2
    exact ⟨⟨0, rfl⟩, rfl⟩
end Go.Proofs.YtohnmaindbgngaaGreatDoor
namespace Go.Proofs.YtohnmaindbgngaaGreatDoor
set_option linter.unusedVariables false
set_option linter.unusedSimpArgs false
open Go.RowKit Go.Shelf

/-! ### quorate -/
set_option maxRecDepth 20000 in
set_option maxHeartbeats 400000 in
theorem rquorate_any (Z : Nat → Prop) (A : Option Addr) (n c : Nat) (vs : List Int) (vm : Value) (ms : List MemD) (w : World) (h : Rd w Z 1 A n (ics vs)) (hl : vs.length = n) (hn : n ≤ 1048576) (hv : ballotB vs = true)
    (hm : SlOk w (fun _ => True) 3 ms.length vm (rcells MemD.cells ms)) (hml : ms.length ≤ 1048576) :
    Calls Tryz.prog 33 #[.slice A n c, vm] w fun e w' => e = .returned (.bool (quorB vs (ms.map MemD.p))) ∧ Fresh w w' := by
  obtain ⟨A2, c2, rfl, -, -, hr2⟩ := hm
  obtain ⟨m, hm0⟩ : ∃ m, m = ms.length := ⟨_, rfl⟩
  rw [← hm0] at hr2 hml ⊢
  have H := Lib.hid (And.intro hr2 hm0.symm)
  obtain ⟨R, hR⟩ : ∃ R, R = quorB vs (ms.map MemD.p) := ⟨_, rfl⟩
  have HQ := Lib.hid (fun (w' : World) (A3 : Option Addr) (c3 : Nat) (hf : Fresh w w') (h3 : Rd w' (fun _ => True) 1 A3 m (ics (ms.map MemD.p))) => rquor_any (fun _ => True) A n c vs A3 m c3 (ms.map MemD.p) w' (((h.weaken fun _ _ => trivial)).keep hf) hl hn hv h3 (by rw [List.length_map, hm0]) hml)
  rw [← hR] at HQ ⊢
  clear h hr2 hm0 hR hv
  go_enter Tryz.func33, Tryz.ntmps33
  go_wp2_with fail
  go_loopw [5, 6] (fun v i wr => ∃ k : Nat, k ≤ m ∧ i = .int .i64 (k : Int) ∧ Hid (wr.ownsRow w.heap.size 3 1 v k (ics ((ms.take k).map MemD.p)) ∧ Fresh w wr)) (fun _ i _ => m - (intOf i).toNat)
  case atStart => exact ⟨0, Nat.zero_le _, rfl, Lib.hid ⟨by exact World.ownsRow_nil _ _ _ _, Keep.refl _ _⟩⟩
  case round =>
    rename World => wr
    obtain ⟨k, hk, rfl, HW⟩ := hrel
    by_cases hlt : k < m
    · have hkl : k < ms.length := by rw [H.out.2]; exact hlt
      obtain ⟨b, o, rfl, hz, hr⟩ := Rd.range mem_three (H.out.1.keep HW.out.2) hkl hlt
      obtain ⟨zp, hzp⟩ : ∃ z, z = ms[k].p := ⟨_, rfl⟩
      have c0 : wr.cell? ⟨b, o + k * 3, none⟩ = some (.int .i64 zp) := hzp ▸ hr 0 _ rfl
      have HX := Lib.hid (show ics ((ms.take (k + 1)).map MemD.p) = ics ((ms.take k).map MemD.p) ++ [.int .i64 zp] by
        rw [List.take_succ_eq_append_getElem hkl, List.map_append, hzp]
        simp [ics])
      clear hr hz hzp hkl
      go_wp2_with (at_builtin; refine wpList_app1 etInt rfl (.tmp 15) (.tmp 21) rfl (.int .i64 zp) _ rfl w.heap.size _ k _ rfl rfl HW.out.1 (by omega) HW.out.2.size ?_)
      intro v2 w2 ho2 hk2 hn2
      have H2 := Lib.hid (And.intro ho2 hk2)
      clear ho2 hk2 hn2
      go_wp2_with fail
      refine ⟨⟨k + 1, by omega, by simp, Lib.hid ⟨?_, HW.out.2.comp H2.out.2 (fun _ _ h => h) (fun i hi _ e => by have := (own_lt HW.out.1 e).1; omega)⟩⟩, by simp only [intOf]; omega⟩
      rw [HX.out, List.map_take]
      exact H2.out.1
    · obtain rfl : k = m := by omega
      obtain ⟨A3, c3, rfl, hr3, -⟩ := own_rd HW.out.1
      have e : (ms.take k).map MemD.p = ms.map MemD.p := by rw [List.take_of_length_le (by rw [H.out.2]; exact Nat.le_refl _)]
      rw [e] at hr3
      have HC := Lib.hid (HQ.out wr A3 c3 HW.out.2 (hr3.weaken fun _ _ => trivial))
      have HF := Lib.hid HW.out.2
      clear hr3 e HQ HW
      go_wp2_with fail
      refine Calls.mono HC.out ?_
      rintro e _ ⟨⟨z, rfl⟩, rfl⟩
      clear HC
      go_wp2_with fail
      go_ret
      exact ⟨rfl, HF.out⟩

/-! ### first -/
theorem hmark_nil (z : Int) : hmark [] z = none := rfl
theorem hmark_step {ds : List MarkD} {d : MarkD} {z : Int} (h : hmark ds z = none) (hd : ¬ (d.kind = 12 ∧ d.n = z)) : hmark (ds ++ [d]) z = none := by
  rw [hmark_snoc, h, if_neg hd]
theorem hmark_hit {ds es : List MarkD} {d : MarkD} {z : Int} (h : hmark ds z = none) (hd : d.kind = 12 ∧ d.n = z) : hmark (ds ++ d :: es) z = some d := by
  unfold hmark at h ⊢
  rw [List.find?_append, h]
  simp [hd.1, hd.2]
set_option maxRecDepth 20000 in
set_option maxHeartbeats 400000 in
theorem rfirst_any (Z : Nat → Prop) (A : Option Addr) (n c : Nat) (hs : List MkV) (z : Int) (w : World) (h : Mks w Z A n hs) :
    Calls Tryz.prog 62 #[.slice A n c, .int .i64 z] w fun e w' => (∃ r : Int, e = .returned (.int .i64 r) ∧ ((r = -1 ∧ hmark (dsOf hs) z = none) ∨ ∃ (k : Nat) (hk : k < hs.length), r = (k : Int) ∧ hmark (dsOf hs) z = some hs[k].d)) ∧ w = w' := by
  have HM := Lib.hid h
  have hle := h.le
  clear h
  go_enter Tryz.func62, Tryz.ntmps62
  go_wp2
  go_loopw [5] (fun i wr => ∃ k : Nat, k ≤ n ∧ i = .int .i64 (k : Int) ∧ wr = w ∧ Hid (hmark (dsOf (hs.take k)) z = none)) (fun i _ => n - (intOf i).toNat)
  case atStart => exact ⟨0, Nat.zero_le _, rfl, rfl, Lib.hid rfl⟩
  case round =>
    obtain ⟨k, hk, rfl, rfl, HW⟩ := hrel
    by_cases hlt : k < n
    · obtain ⟨b, o, rfl, -, hl, hr⟩ := HM.out.at1 hlt
      obtain ⟨kd, hkd⟩ : ∃ x, x = hs[k].d.kind := ⟨_, rfl⟩
      obtain ⟨nn, hnn⟩ : ∃ x, x = hs[k].d.n := ⟨_, rfl⟩
      have c1 : wr.cell? ⟨b, o + k * 26 + 1, none⟩ = some (.int .i64 kd) := hkd ▸ hr 1 _ rfl
      have c2 : wr.cell? ⟨b, o + k * 26 + 13, none⟩ = some (.int .i64 nn) := hnn ▸ hr 13 _ rfl
      have HX := Lib.hid (show ∃ hl : k < hs.length, kd = hs[k].d.kind ∧ nn = hs[k].d.n from ⟨hl, hkd, hnn⟩)
      clear hkd hnn hr hl
      by_cases h1 : kd = 12
      · by_cases h2 : nn = z
        · go_wp2_with fail
          go_ret
          obtain ⟨hl, x1, x2⟩ := HX.out
          refine ⟨⟨_, rfl, .inr ⟨k, hl, rfl, ?_⟩⟩, rfl⟩
          have e := dsOf_split hl
          rw [e]
          exact hmark_hit HW.out ⟨by rw [← x1, h1], by rw [← x2, h2]⟩
        · have HS := Lib.hid (show hmark (dsOf (hs.take (k + 1))) z = none by
            obtain ⟨hl, x1, x2⟩ := HX.out
            rw [dsOf_take hl]
            exact hmark_step HW.out (fun e => h2 (by rw [x2]; exact e.2)))
          go_wp2_with fail
          exact ⟨⟨k + 1, by omega, congrArg _ (by omega), trivial, HS⟩, by simp [intOf]; omega⟩
      · have HS := Lib.hid (show hmark (dsOf (hs.take (k + 1))) z = none by
          obtain ⟨hl, x1, x2⟩ := HX.out
          rw [dsOf_take hl]
          exact hmark_step HW.out (fun e => h1 (by rw [x1]; exact e.1)))
        go_wp2_with fail
        exact ⟨⟨k + 1, by omega, congrArg _ (by omega), trivial, HS⟩, by simp [intOf]; omega⟩
    · obtain rfl : k = n := by omega
      go_wp2_with fail
      go_ret
      refine ⟨⟨_, rfl, .inl ⟨rfl, ?_⟩⟩, rfl⟩
      have := HW.out
      rwa [List.take_of_length_le (by rw [HM.out.len]; exact Nat.le_refl _)] at this

/-! ### asked -/
theorem rasked_snocV (l : List MarkD) (m : MarkD) (c : CmdD) : raskedB (l ++ [m]) c = (raskedB l c || (decide (m.kind = 11) && decide (m.cmd = c))) := by
  unfold raskedB
  rw [List.any_append]
  simp
theorem rasked_more {l r : List MarkD} {c : CmdD} (h : raskedB l c = true) : raskedB (l ++ r) c = true := by
  unfold raskedB at h ⊢
  rw [List.any_append, h]
  rfl
theorem dsOf_pre (hs : List MkV) (k : Nat) : dsOf hs = dsOf (hs.take k) ++ dsOf (hs.drop k) := by
  unfold dsOf
  rw [← List.map_append, List.take_append_drop]
/-- The words of a mark's command and result. -/
theorem MkB.cmds {w : World} {b : Nat} {x : MkV} (h : MkB w b x) :
    (w.cell? ⟨b, 15, none⟩ = some (.int .i64 x.d.cmd.c) ∧ w.cell? ⟨b, 16, none⟩ = some (.int .i64 x.d.cmd.i) ∧ w.cell? ⟨b, 17, none⟩ = some (.int .i64 x.d.cmd.r) ∧ w.cell? ⟨b, 18, none⟩ = some (.int .i64 x.d.cmd.o) ∧ w.cell? ⟨b, 19, none⟩ = some (tx x.d.cmd.k) ∧ w.cell? ⟨b, 20, none⟩ = some (tx x.d.cmd.v) ∧ w.cell? ⟨b, 21, none⟩ = some (tx x.d.cmd.d)) ∧
    (w.cell? ⟨b, 22, none⟩ = some (.int .i64 x.d.rc) ∧ w.cell? ⟨b, 23, none⟩ = some (tx x.d.rv) ∧ w.cell? ⟨b, 24, none⟩ = some (.int .i64 x.d.rn)) := by
  have := mk_cells_at (b := b) (o := 0) (x := x) (by simpa using h.range00)
  simp only [Nat.zero_add] at this
  exact ⟨this.2.2, this.2.1⟩
set_option maxRecDepth 20000 in
set_option maxHeartbeats 1000000 in
theorem rasked_any (Z : Nat → Prop) (A : Option Addr) (n c : Nat) (hs : List MkV) (y : CmdD) (w : World) (h : Mks w Z A n hs) :
    Calls Tryz.prog 95 #[.slice A n c, .agg y.cells.toArray] w fun e w' => (∃ r : Int, e = .returned (.int .i64 r) ∧ decide (r < 0) = !raskedB (dsOf hs) y) ∧ Fresh w w' := by
  have HM := Lib.hid h
  have hle := h.le
  clear h
  go_enter Tryz.func95, Tryz.ntmps95
  go_upto_region 1 with (fail)
  obtain ⟨b3, hb3⟩ : ∃ b, b = w.heap.size := ⟨_, rfl⟩
  rw [← hb3]
  generalize hw1 : World.alloc w _ = w1
  have hf1 : Fresh w w1 := hw1 ▸ (Keep.refl _ w).alloc _
  have hb1 : Blk w1 b3 43 y.cells.toArray := by rw [← hw1, hb3]; exact Blk.new w _ _
  have H1 := Lib.hid (And.intro hf1 hb1)
  clear hf1 hb1 hw1 hb3
  go_wp2_with fail
  go_loopw [5] (fun i wr => ∃ k : Nat, k ≤ n ∧ i = .int .i64 (k : Int) ∧ Hid (Fresh w1 wr ∧ raskedB (dsOf (hs.take k)) y = false)) (fun i _ => n - (intOf i).toNat)
  case atStart => exact ⟨0, Nat.zero_le _, rfl, Lib.hid ⟨Keep.refl _ _, rfl⟩⟩
  case round =>
    rename World => wr
    obtain ⟨k, hk, rfl, HW⟩ := hrel
    by_cases hlt : k < n
    · obtain ⟨b, o, x, rfl, hx, hr⟩ := (HM.out.keep ((H1.out.1.trans HW.out.1).weaken fun _ _ _ => trivial)).ints hlt
      obtain ⟨c1, -, m4, m5, m6, m7, m8, m9, m10⟩ := mk_cells_at hr
      have lb := range_lt (v := .int .i64 x.d.at_) hr
      have hbk := H1.out.2.keep HW.out.1 trivial
      obtain ⟨q0, q1, q2, q3, q4, q5, q6⟩ := cmd_cells_at (b := b3) (o := 0) (x := y) (by simpa using hbk.range)
      simp only [Nat.zero_add] at q0 q1 q2 q3 q4 q5 q6
      have l3 := hbk.lt
      have HS : Hid (raskedB (dsOf (hs.take (k + 1))) y = (decide (x.d.kind = 11) && decide (x.d.cmd = y))) := Lib.hid (by
        rw [dsOf_snoc hx, rasked_snocV, HW.out.2, Bool.false_or])
      have Q1 := fun w => eqcmdS x.d.cmd y w
      obtain ⟨p1, hp1⟩ : ∃ b, b = decide (x.d.cmd = y) := ⟨_, rfl⟩
      rw [← hp1] at Q1 HS
      obtain ⟨kd, hkd⟩ : ∃ z, z = x.d.kind := ⟨_, rfl⟩
      rw [← hkd] at c1 HS
      have hki : (k : Int) < (n : Int) := by omega
      have hk0 : (0 : Int) ≤ (k : Int) := by omega
      clear hr hbk hp1 hkd hx
      by_cases h1 : kd = 11
      · subst h1
        cases p1
        · go_wp2_with fail
          go_quiet (fail)
          go_wp2_with fail
          exact ⟨⟨k + 1, by omega, congrArg _ (by omega), Lib.hid ⟨HW.out.1.drewN _, HS.out⟩⟩, by simp [intOf]; omega⟩
        · go_wp2_with fail
          go_quiet (fail)
          go_wp2_with fail
          go_ret
          refine ⟨⟨_, rfl, ?_⟩, (H1.out.1.trans HW.out.1).drewN _⟩
          have hr := HS.out
          simp only [decide_true, Bool.and_self] at hr
          rw [dsOf_pre hs (k + 1), rasked_more hr]
          exact decide_eq_false (by omega)
      · have b1 : (kd == 11) = false := by simpa using h1
        rw [decide_eq_false h1, Bool.false_and] at HS
        clear h1
        go_wp2_with fail
        go_quiet (fail)
        go_wp2_with fail
        exact ⟨⟨k + 1, by omega, congrArg _ (by omega), Lib.hid ⟨HW.out.1.drewN _, HS.out⟩⟩, by simp [intOf]; omega⟩
    · obtain rfl : k = n := by omega
      go_wp2_with fail
      go_ret
      refine ⟨⟨_, rfl, ?_⟩, H1.out.1.trans HW.out.1⟩
      have hr := HW.out.2
      rw [dsOf_all HM.out.len] at hr
      rw [hr]
      rfl

/-! ### rule25 -/
theorem all_false_at {l : List MarkD} {f : MarkD → Bool} {x : MarkD} (hx : x ∈ l) (h : f x = false) : l.all f = false := by
  rw [List.all_eq_false]
  exact ⟨x, hx, by rw [h]; decide⟩
def r25C (m x : MarkD) : Bool := !(decide (x.kind = 12) && decide (x.n ≠ m.n) && decide (x.cmd.req = m.cmd.req))
theorem rrule25_eq (l : List MarkD) (m : MarkD) : rrule25 l m = (raskedB l m.cmd && l.all (r25C m)) := rfl
set_option maxRecDepth 20000 in
set_option maxHeartbeats 4000000 in
theorem rule25_any (A : Option Addr) (n c : Nat) (hs : List MkV) (x : MkV) (w : World) (h : Mks w (fun _ => True) A n hs) :
    Calls Tryz.prog 63 #[.slice A n c, .agg x.cells.toArray] w fun e w' => e = .returned (.bool (rrule25 (dsOf hs) x.d)) ∧ Fresh w w' := by
  have HM := Lib.hid h
  have hle := h.le
  clear h
  obtain ⟨R, hR⟩ : ∃ R, R = rrule25 (dsOf hs) x.d := ⟨_, rfl⟩
  rw [← hR]
  have HR := Lib.hid hR
  clear hR
  go_enter Tryz.func63, Tryz.ntmps63
  go_upto_region 1 with (fail)
  obtain ⟨b3, hb3⟩ : ∃ b, b = w.heap.size := ⟨_, rfl⟩
  obtain ⟨w1, hw1⟩ : ∃ w1, w1 = w.alloc (.cells x.cells.toArray 51) := ⟨_, rfl⟩
  rw [← hb3, ← hw1]
  have hf1 : Fresh w w1 := hw1 ▸ (Keep.refl _ w).alloc _
  have hm1 : MkB w1 b3 x := by rw [hw1, hb3]; exact MkB.new w x
  have H1 := Lib.hid (And.intro hf1 hm1)
  have HCm : Hid (w1.rangeAt b3 15 x.d.cmd.cells) := Lib.hid (by
    have := hm1.range00
    have h2 := range_cmd (b := b3) (o := 0) (by simpa using this)
    simpa using h2)
  have l3 := hm1.blk.lt
  have HC := Lib.hid (rasked_any (fun _ => True) A n c hs x.d.cmd w1 (HM.out.keep hf1))
  have hl7 := cmd_seven x.d.cmd
  clear hf1 hm1 hw1 hb3
  go_wp2_with (refine wpList_load_mid rfl 43 _ rfl b3 15 rfl x.d.cmd.cells _ HCm.out Tryz.underlying43 rfl (by kernel_rfl) ?_)
  refine Calls.mono HC.out ?_
  rintro e w2 ⟨⟨r, rfl, hr⟩, hf2⟩
  have H2 := Lib.hid (And.intro (H1.out.1.trans hf2) (MkB.mk (H1.out.2.blk.keep hf2 trivial) : MkB w2 b3 x))
  obtain ⟨qa, hqa⟩ : ∃ q, q = raskedB (dsOf hs) x.d.cmd := ⟨_, rfl⟩
  have HA : Hid (R = (qa && (dsOf hs).all (r25C x.d))) := Lib.hid (by rw [HR.out, rrule25_eq, hqa])
  rw [← hqa] at hr
  clear HC H1 HCm hf2 l3 hqa HR
  cases qa
  · have hr0 : decide (r < 0) = true := hr
    obtain rfl : R = false := HA.out
    go_wp2_with fail
    go_ret
    exact ⟨rfl, H2.out.1⟩
  have hr0 : decide (r < 0) = false := hr
  rw [Bool.true_and] at HA
  clear hr
  go_wp2_with fail
  go_loopw [6] (fun i wr => ∃ k : Nat, k ≤ n ∧ i = .int .i64 (k : Int) ∧ Hid (Fresh w2 wr ∧ (dsOf (hs.take k)).all (r25C x.d) = true)) (fun i _ => n - (intOf i).toNat)
  case atStart => exact ⟨0, Nat.zero_le _, rfl, Lib.hid ⟨Keep.refl _ _, rfl⟩⟩
  case round =>
    rename World => wr
    obtain ⟨k, hk, rfl, HW⟩ := hrel
    by_cases hlt : k < n
    · obtain ⟨b, o, y, rfl, hy, hr⟩ := (HM.out.keep (H2.out.1.trans HW.out.1)).ints hlt
      have HRy := Lib.hid (And.intro hr (range_cmd hr))
      have HS : Hid ((dsOf (hs.take (k + 1))).all (r25C x.d) = r25C x.d y.d) := Lib.hid (by rw [ds_all_snoc hy, HW.out.2, Bool.true_and])
      have HN : Hid (r25C x.d y.d = false → R = false) := Lib.hid (fun e => by rw [HA.out]; exact ds_all_false hy _ e)
      have hy7 := cmd_seven y.d.cmd
      have lb := range_lt (v := .int .i64 y.d.at_) hr
      clear hr hy
      go_wp2_with (first | (refine wpList_load_mid rfl 43 _ rfl b (o + k * 26 + 15) rfl y.d.cmd.cells _ HRy.out.2 Tryz.underlying43 rfl (by kernel_rfl) ?_) | (refine wpList_store_new rfl (.tmp 7) (.tmp 24) rfl _ y.d.cmd.cells.toArray _ rfl rfl rfl (by kernel_rfl) (cmdA_one _) ?_))
      intro w3 hb3' hf3 hs3
      obtain ⟨c7, hc7⟩ : ∃ b, b = wr.heap.size := ⟨_, rfl⟩
      rw [← hc7] at hb3' ⊢
      obtain ⟨q0, q1, q2, -, -, -, -⟩ := cmd_cells_at (b := c7) (o := 0) (x := y.d.cmd) (by simpa using hb3'.range)
      simp only [Nat.zero_add] at q0 q1 q2
      have l7 := hb3'.lt
      have hr3 := rangeAt_keep HRy.out.1 hf3 trivial
      have k1 := (mk_cells_at hr3).1
      have k13 : w3.cell? ⟨b, o + k * 26 + 13, none⟩ = some (.int .i64 y.d.n) := hr3 13 _ rfl
      have lb := range_lt (v := .int .i64 y.d.at_) hr3
      have hmb : MkB w3 b3 x := ⟨H2.out.2.blk.keep (HW.out.1.trans hf3) trivial⟩
      have m13 := hmb.n
      have m15 := hmb.cc; have m16 := hmb.ci; have m17 := hmb.cr
      have l3 := hmb.blk.lt
      have HF3 := Lib.hid (HW.out.1.trans hf3)
      obtain ⟨kd, hkd⟩ : ∃ z, z = y.d.kind := ⟨_, rfl⟩
      obtain ⟨nn, hnn⟩ : ∃ z, z = y.d.n := ⟨_, rfl⟩
      obtain ⟨xn, hxn⟩ : ∃ z, z = x.d.n := ⟨_, rfl⟩
      obtain ⟨yc, hyc⟩ : ∃ z, z = y.d.cmd.c := ⟨_, rfl⟩
      obtain ⟨yi, hyi⟩ : ∃ z, z = y.d.cmd.i := ⟨_, rfl⟩
      obtain ⟨yr, hyr⟩ : ∃ z, z = y.d.cmd.r := ⟨_, rfl⟩
      obtain ⟨xc, hxc⟩ : ∃ z, z = x.d.cmd.c := ⟨_, rfl⟩
      obtain ⟨xi, hxi⟩ : ∃ z, z = x.d.cmd.i := ⟨_, rfl⟩
      obtain ⟨xr, hxr⟩ : ∃ z, z = x.d.cmd.r := ⟨_, rfl⟩
      have hC : r25C x.d y.d = !(decide (kd = 12) && (decide (nn ≠ xn) && (decide (yc = xc) && (decide (yi = xi) && decide (yr = xr))))) := by
        unfold r25C CmdD.req
        rw [hkd, hnn, hxn, hyc, hyi, hyr, hxc, hxi, hxr]
        have : decide ((y.d.cmd.c, y.d.cmd.i, y.d.cmd.r) = (x.d.cmd.c, x.d.cmd.i, x.d.cmd.r)) = (decide (y.d.cmd.c = x.d.cmd.c) && (decide (y.d.cmd.i = x.d.cmd.i) && decide (y.d.cmd.r = x.d.cmd.r))) := by
          rw [← Bool.decide_and, ← Bool.decide_and]
          apply decide_eq_decide.2
          simp only [Prod.mk.injEq]
        rw [this, Bool.and_assoc]
      rw [hC] at HS HN
      rw [← hkd] at k1; rw [← hnn] at k13; rw [← hxn] at m13
      rw [← hyc] at q0; rw [← hyi] at q1; rw [← hyr] at q2
      rw [← hxc] at m15; rw [← hxi] at m16; rw [← hxr] at m17
      have hki : (k : Int) < (n : Int) := by omega
      have hk0 : (0 : Int) ≤ (k : Int) := by omega
      clear hr3 hmb hb3' hf3 hs3 hc7 hC hkd hnn hxn hyc hyi hyr hxc hxi hxr
      have HNext : Hid ((!(decide (kd = 12) && (decide (nn ≠ xn) && (decide (yc = xc) && (decide (yi = xi) && decide (yr = xr)))))) = true → (dsOf (hs.take (k + 1))).all (r25C x.d) = true) := Lib.hid (fun e => by rw [HS.out, e])
      clear HS
      by_cases a1 : kd = 12
      rotate_left
      · have d1 : (kd == 12) = false := by simpa using a1
        have HE := Lib.hid (HNext.out (by rw [decide_eq_false a1]; rfl))
        clear a1
        go_wp2_with fail
        go_quiet (fail)
        go_wp2_with fail
        exact ⟨⟨k + 1, by omega, congrArg _ (by omega), Lib.hid ⟨HF3.out.drewN _, HE.out⟩⟩, by simp [intOf]; omega⟩
      have d1 : (kd == 12) = true := by simpa using a1
      by_cases a2 : nn = xn
      · have d2 : (nn != xn) = false := by simpa using a2
        have HE := Lib.hid (HNext.out (by rw [decide_eq_false (fun h : nn ≠ xn => h a2)]; simp))
        clear a2 a1
        go_wp2_with fail
        go_quiet (fail)
        go_wp2_with fail
        exact ⟨⟨k + 1, by omega, congrArg _ (by omega), Lib.hid ⟨HF3.out.drewN _, HE.out⟩⟩, by simp [intOf]; omega⟩
      have d2 : (nn != xn) = true := by simpa using a2
      by_cases a3 : yc = xc
      rotate_left
      · have d3 : (yc == xc) = false := by simpa using a3
        have HE := Lib.hid (HNext.out (by rw [decide_eq_false a3]; simp))
        clear a1 a2 a3
        go_wp2_with fail
        go_quiet (fail)
        go_wp2_with fail
        exact ⟨⟨k + 1, by omega, congrArg _ (by omega), Lib.hid ⟨HF3.out.drewN _, HE.out⟩⟩, by simp [intOf]; omega⟩
      have d3 : (yc == xc) = true := by simpa using a3
      by_cases a4 : yi = xi
      rotate_left
      · have d4 : (yi == xi) = false := by simpa using a4
        have HE := Lib.hid (HNext.out (by rw [decide_eq_false a4]; simp))
        clear a1 a2 a3 a4
        go_wp2_with fail
        go_quiet (fail)
        go_wp2_with fail
        exact ⟨⟨k + 1, by omega, congrArg _ (by omega), Lib.hid ⟨HF3.out.drewN _, HE.out⟩⟩, by simp [intOf]; omega⟩
      have d4 : (yi == xi) = true := by simpa using a4
      by_cases a5 : yr = xr
      rotate_left
      · have d5 : (yr == xr) = false := by simpa using a5
        have HE := Lib.hid (HNext.out (by rw [decide_eq_false a5]; simp))
        clear a1 a2 a3 a4 a5
        go_wp2_with fail
        go_quiet (fail)
        go_wp2_with fail
        exact ⟨⟨k + 1, by omega, congrArg _ (by omega), Lib.hid ⟨HF3.out.drewN _, HE.out⟩⟩, by simp [intOf]; omega⟩
      have d5 : (yr == xr) = true := by simpa using a5
      obtain rfl : R = false := HN.out (by rw [decide_eq_true a1, decide_eq_true a2, decide_eq_true a3, decide_eq_true a4, decide_eq_true a5]; rfl)
      clear a1 a2 a3 a4 a5
      go_wp2_with fail
      go_quiet (fail)
      go_wp2_with fail
      go_ret
      exact ⟨rfl, (H2.out.1.trans HF3.out).drewN _⟩
    · obtain rfl : k = n := by omega
      obtain rfl : R = true := by
        have hr := HW.out.2
        rw [dsOf_all HM.out.len] at hr
        rw [HA.out, hr]
      go_wp2_with fail
      go_ret
      exact ⟨rfl, H2.out.1.trans HW.out.1⟩
end Go.Proofs.YtohnmaindbgngaaGreatDoor
