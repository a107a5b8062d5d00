/-
  PLAIN LEAN: numbers in base 128 as the wire has them: 'putB' writes, 'takeB' reads. No program in sight, no condition.
-/
import Derived.Laws.BitsAllLaws
import Derived.Laws.BitsLemmas
import Derived.RowKit2
namespace Go.Proofs.YtkgbhanpenpkmaaDoor
set_option linter.unusedVariables false
set_option linter.unusedSimpArgs false
/-- A number in its shortest form. -/
def putB (v : Nat) : List UInt8 := if v ≤ 127 then [UInt8.ofNat v] else UInt8.ofNat (v % 128 + 128) :: putB (v / 128)
theorem putB_small {v : Nat} (h : v ≤ 127) : putB v = [UInt8.ofNat v] := by rw [putB, if_pos h]
theorem putB_big {v : Nat} (h : 127 < v) : putB v = UInt8.ofNat (v % 128 + 128) :: putB (v / 128) := by rw [putB, if_neg (by omega)]
theorem putB_pos (v : Nat) : 0 < (putB v).length := by
  rw [putB]
  split <;> simp
theorem putB_len (k : Nat) : ∀ v, v < 128 ^ (k + 1) → (putB v).length ≤ k + 1 := by
  induction k with
  | zero => intro v h; rw [putB_small (by omega)]; simp
  | succ k ih =>
    intro v h
    by_cases hv : v ≤ 127
    · rw [putB_small hv]; simp
    · rw [putB_big (by omega)]
      have := ih (v / 128) (by rw [Nat.pow_succ] at h; omega)
      simp
      omega
theorem putB_len9 {v : Nat} (h : v ≤ 4611686018427387904) : (putB v).length ≤ 9 := putB_len 8 v (by omega)

theorem ofInt_i64 (a : Nat) (ha : a < 9223372036854775808) : (BitVec.ofInt 64 (a : Int)).toNat = a := by
  rw [BitVec.ofInt_natCast, BitVec.toNat_ofNat]; exact Nat.mod_eq_of_lt (by omega)
theorem i64_and_nat (a b : Nat) (ha : a < 9223372036854775808) (hb : b < 9223372036854775808) : bits .and .i64 (a : Int) (b : Int) = ((a &&& b : Nat) : Int) := by
  have hx : a &&& b < 2 ^ 63 := Nat.and_lt_two_pow _ (by omega)
  show IntKind.i64.wrap ((BitVec.ofInt 64 (a : Int) &&& BitVec.ofInt 64 (b : Int)).toNat : Int) = _
  rw [BitVec.toNat_and, ofInt_i64 a ha, ofInt_i64 b hb, IntKind.wrap_i64]
  omega
theorem i64_or_nat (a b : Nat) (ha : a < 9223372036854775808) (hb : b < 9223372036854775808) : bits .or .i64 (a : Int) (b : Int) = ((a ||| b : Nat) : Int) := by
  have hx : a ||| b < 2 ^ 63 := Nat.or_lt_two_pow (by omega) (by omega)
  show IntKind.i64.wrap ((BitVec.ofInt 64 (a : Int) ||| BitVec.ofInt 64 (b : Int)).toNat : Int) = _
  rw [BitVec.toNat_or, ofInt_i64 a ha, ofInt_i64 b hb, IntKind.wrap_i64]
  omega
theorem i64_and_127 (a : Nat) (ha : a < 9223372036854775808) : bits .and .i64 (a : Int) 127 = ((a % 128 : Nat) : Int) := by
  have h := i64_and_nat a 127 ha (by omega)
  rw [show a &&& 127 = a % 128 from Nat.and_two_pow_sub_one_eq_mod a 7] at h
  exact h
theorem or_128 (a : Nat) (ha : a < 128) : a ||| 128 = a + 128 := by
  have := Nat.two_pow_add_eq_or_of_lt (i := 7) (b := a) ha 1
  rw [Nat.or_comm]
  simpa [Nat.add_comm] using this.symm
theorem i64_or_128 (a : Nat) (ha : a < 128) : bits .or .i64 (a : Int) 128 = ((a + 128 : Nat) : Int) := by
  have h := i64_or_nat a 128 (by omega) (by omega)
  rw [or_128 a ha] at h
  exact h
theorem u8_toNat (a : Nat) (h : a < 256) : ((UInt8.ofNat a).toNat : Int) = (a : Int) := by
  rw [UInt8.toNat_ofNat', Nat.mod_eq_of_lt h]

def okInts (xs : List Int) : Prop := ∀ x ∈ xs, 0 ≤ x ∧ x ≤ 4611686018427387904
/-- Numbers, one behind the other. -/
def encs (xs : List Int) : List UInt8 := xs.flatMap fun x => putB x.toNat
theorem encs_nil : encs [] = [] := rfl
theorem encs_cons (x : Int) (xs : List Int) : encs (x :: xs) = putB x.toNat ++ encs xs := rfl
theorem encs_append (xs ys : List Int) : encs (xs ++ ys) = encs xs ++ encs ys := by simp [encs]
theorem encs_len (xs : List Int) (h : okInts xs) : (encs xs).length ≤ 9 * xs.length := by
  induction xs with
  | nil => simp [encs]
  | cons x xs ih =>
    have h1 := h x (by simp)
    have h2 := ih (fun y hy => h y (by simp [hy]))
    have h3 := putB_len9 (v := x.toNat) (by omega)
    rw [encs_cons, List.length_append, List.length_cons]
    omega
theorem encs_take (xs : List Int) (k : Nat) (h : k < xs.length) : encs (xs.take (k + 1)) = encs (xs.take k) ++ putB xs[k].toNat := by
  rw [List.take_succ_eq_append_getElem h, encs_append]
  simp [encs]
theorem encs_take_len (xs : List Int) (k : Nat) (h : okInts xs) : (encs (xs.take k)).length ≤ 9 * xs.length := by
  have h1 := encs_len (xs.take k) (fun y hy => h y (List.mem_of_mem_take hy))
  have h2 : (xs.take k).length ≤ xs.length := List.length_take_le' _ _
  omega

theorem ofInt_u8 (a : Nat) (ha : a < 256) : (BitVec.ofInt 8 (a : Int)).toNat = a := by
  rw [BitVec.ofInt_natCast, BitVec.toNat_ofNat]; exact Nat.mod_eq_of_lt (by omega)
theorem u8_and_127 (a : Nat) (ha : a < 256) : bits .and .u8 (a : Int) 127 = ((a % 128 : Nat) : Int) := by
  have h : bits .and .u8 (a : Int) ((127 : Nat) : Int) = ((a &&& 127 : Nat) : Int) := by
    have hx : a &&& 127 < 2 ^ 8 := Nat.and_lt_two_pow _ (by omega)
    show IntKind.u8.wrap ((BitVec.ofInt 8 (a : Int) &&& BitVec.ofInt 8 ((127 : Nat) : Int)).toNat : Int) = _
    rw [BitVec.toNat_and, ofInt_u8 a ha, ofInt_u8 127 (by omega), IntKind.wrap_u8]
    omega
  rw [show a &&& 127 = a % 128 from Nat.and_two_pow_sub_one_eq_mod a 7] at h
  exact h
open Go.RowKit in
/-- 'v |= int(c&127) << (7*i)'. -/
theorem take_step (v a k : Nat) (hv : v < 2 ^ (7 * k)) (ha : a < 256) (hk : k < 9) :
    bits .or .i64 (v : Int) (wrap64 (wrap64 (bits .and .u8 (a : Int) 127) * 2 ^ (7 * k))) = ((v + (a % 128) * 2 ^ (7 * k) : Nat) : Int) := by
  have hm : a % 128 < 128 := Nat.mod_lt _ (by decide)
  have hp : 2 ^ (7 * k) ≤ 2 ^ 56 := Nat.pow_le_pow_right (by decide) (by omega)
  have hb : (a % 128) * 2 ^ (7 * k) ≤ 127 * 2 ^ 56 := Nat.mul_le_mul (by omega) hp
  rw [u8_and_127 a ha]
  have e1 : wrap64 ((a % 128 : Nat) : Int) = ((a % 128 : Nat) : Int) := by unfold wrap64; omega
  rw [e1]
  have e2 : ((a % 128 : Nat) : Int) * 2 ^ (7 * k) = (((a % 128) * 2 ^ (7 * k) : Nat) : Int) := by
    rw [Int.natCast_mul, Int.natCast_pow]; rfl
  rw [e2]
  have e3 : wrap64 (((a % 128) * 2 ^ (7 * k) : Nat) : Int) = (((a % 128) * 2 ^ (7 * k) : Nat) : Int) := by unfold wrap64; omega
  rw [e3, i64_or_nat _ _ (by omega) (by omega)]
  have h := Nat.two_pow_add_eq_or_of_lt (i := 7 * k) (b := v) hv (a % 128)
  rw [Nat.or_comm, Nat.mul_comm (a % 128), ← h, Nat.add_comm]
theorem take_lt (v a k : Nat) (hv : v < 2 ^ (7 * k)) : v + (a % 128) * 2 ^ (7 * k) < 2 ^ (7 * (k + 1)) := by
  have hm : a % 128 < 128 := Nat.mod_lt _ (by decide)
  have hb : (a % 128) * 2 ^ (7 * k) ≤ 127 * 2 ^ (7 * k) := Nat.mul_le_mul (by omega) (Nat.le_refl _)
  have e : 2 ^ (7 * (k + 1)) = 128 * 2 ^ (7 * k) := by rw [show 7 * (k + 1) = 7 * k + 7 by omega, Nat.pow_add, Nat.mul_comm]
  omega
end Go.Proofs.YtkgbhanpenpkmaaDoor
