/-
  MERGED: Pure Put ReadP
-/
import Derived.Laws.BitsAllLaws
import Derived.Laws.BitsLemmas
import Derived.RowKit2
import Derived.Test.YtioinjcdkmiafaaDoorYA0
import Derived.Laws.CopyOwn
namespace Go.Proofs.YtioinjcdkmiafaaDoor
set_option linter.unusedVariables false
set_option linter.unusedSimpArgs false
/-- A number in its shortest form. -/
def putB (v : Nat) : List UInt8 := if v ≤ 127 then [UInt8.ofNat v] else UInt8.ofNat (v % 128 + 128) :: putB (v / 128)
theorem putB_small {v : Nat} (h : v ≤ 127) : putB v = [UInt8.ofNat v] := by rw [putB, if_pos h]
theorem putB_big {v : Nat} (h : 127 < v) : putB v = UInt8.ofNat (v % 128 + 128) :: putB (v / 128) := by rw [putB, if_neg (by omega)]
theorem putB_pos (v : Nat) : 0 < (putB v).length := by
  rw [putB]
  split <;> simp
theorem putB_len (k : Nat) : ∀ v, v < 128 ^ (k + 1) → (putB v).length ≤ k + 1 := by
  induction k with
  | zero => intro v h; rw [putB_small (by omega)]; simp
  | succ k ih =>
    intro v h
    by_cases hv : v ≤ 127
    · rw [putB_small hv]; simp
    · rw [putB_big (by omega)]
      have := ih (v / 128) (by rw [Nat.pow_succ] at h; omega)
      simp
      omega
theorem putB_len9 {v : Nat} (h : v ≤ 4611686018427387904) : (putB v).length ≤ 9 := putB_len 8 v (by omega)

theorem ofInt_i64 (a : Nat) (ha : a < 9223372036854775808) : (BitVec.ofInt 64 (a : Int)).toNat = a := by
  rw [BitVec.ofInt_natCast, BitVec.toNat_ofNat]; exact Nat.mod_eq_of_lt (by omega)
theorem i64_and_nat (a b : Nat) (ha : a < 9223372036854775808) (hb : b < 9223372036854775808) : bits .and .i64 (a : Int) (b : Int) = ((a &&& b : Nat) : Int) := by
  have hx : a &&& b < 2 ^ 63 := Nat.and_lt_two_pow _ (by omega)
  show IntKind.i64.wrap ((BitVec.ofInt 64 (a : Int) &&& BitVec.ofInt 64 (b : Int)).toNat : Int) = _
  rw [BitVec.toNat_and, ofInt_i64 a ha, ofInt_i64 b hb, IntKind.wrap_i64]
  omega
theorem i64_or_nat (a b : Nat) (ha : a < 9223372036854775808) (hb : b < 9223372036854775808) : bits .or .i64 (a : Int) (b : Int) = ((a ||| b : Nat) : Int) := by
  have hx : a ||| b < 2 ^ 63 := Nat.or_lt_two_pow (by omega) (by omega)
  show IntKind.i64.wrap ((BitVec.ofInt 64 (a : Int) ||| BitVec.ofInt 64 (b : Int)).toNat : Int) = _
  rw [BitVec.toNat_or, ofInt_i64 a ha, ofInt_i64 b hb, IntKind.wrap_i64]
  omega
theorem i64_and_127 (a : Nat) (ha : a < 9223372036854775808) : bits .and .i64 (a : Int) 127 = ((a % 128 : Nat) : Int) := by
  have h := i64_and_nat a 127 ha (by omega)
  rw [show a &&& 127 = a % 128 from Nat.and_two_pow_sub_one_eq_mod a 7] at h
  exact h
theorem or_128 (a : Nat) (ha : a < 128) : a ||| 128 = a + 128 := by
  have := Nat.two_pow_add_eq_or_of_lt (i := 7) (b := a) ha 1
  rw [Nat.or_comm]
  simpa [Nat.add_comm] using this.symm
theorem i64_or_128 (a : Nat) (ha : a < 128) : bits .or .i64 (a : Int) 128 = ((a + 128 : Nat) : Int) := by
  have h := i64_or_nat a 128 (by omega) (by omega)
  rw [or_128 a ha] at h
  exact h
theorem u8_toNat (a : Nat) (h : a < 256) : ((UInt8.ofNat a).toNat : Int) = (a : Int) := by
  rw [UInt8.toNat_ofNat', Nat.mod_eq_of_lt h]

def okInts (xs : List Int) : Prop := ∀ x ∈ xs, 0 ≤ x ∧ x ≤ 4611686018427387904
/-- Numbers, one behind the other. -/
def encs (xs : List Int) : List UInt8 := xs.flatMap fun x => putB x.toNat
theorem encs_nil : encs [] = [] := rfl
theorem encs_cons (x : Int) (xs : List Int) : encs (x :: xs) = putB x.toNat ++ encs xs := rfl
theorem encs_append (xs ys : List Int) : encs (xs ++ ys) = encs xs ++ encs ys := by simp [encs]
theorem encs_len (xs : List Int) (h : okInts xs) : (encs xs).length ≤ 9 * xs.length := by
  induction xs with
  | nil => simp [encs]
  | cons x xs ih =>
    have h1 := h x (by simp)
    have h2 := ih (fun y hy => h y (by simp [hy]))
    have h3 := putB_len9 (v := x.toNat) (by omega)
    rw [encs_cons, List.length_append, List.length_cons]
    omega
theorem encs_take (xs : List Int) (k : Nat) (h : k < xs.length) : encs (xs.take (k + 1)) = encs (xs.take k) ++ putB xs[k].toNat := by
  rw [List.take_succ_eq_append_getElem h, encs_append]
  simp [encs]
theorem encs_take_len (xs : List Int) (k : Nat) (h : okInts xs) : (encs (xs.take k)).length ≤ 9 * xs.length := by
  have h1 := encs_len (xs.take k) (fun y hy => h y (List.mem_of_mem_take hy))
  have h2 : (xs.take k).length ≤ xs.length := List.length_take_le' _ _
  omega

theorem ofInt_u8 (a : Nat) (ha : a < 256) : (BitVec.ofInt 8 (a : Int)).toNat = a := by
  rw [BitVec.ofInt_natCast, BitVec.toNat_ofNat]; exact Nat.mod_eq_of_lt (by omega)
theorem u8_and_127 (a : Nat) (ha : a < 256) : bits .and .u8 (a : Int) 127 = ((a % 128 : Nat) : Int) := by
  have h : bits .and .u8 (a : Int) ((127 : Nat) : Int) = ((a &&& 127 : Nat) : Int) := by
    have hx : a &&& 127 < 2 ^ 8 := Nat.and_lt_two_pow _ (by omega)
    show IntKind.u8.wrap ((BitVec.ofInt 8 (a : Int) &&& BitVec.ofInt 8 ((127 : Nat) : Int)).toNat : Int) = _
    rw [BitVec.toNat_and, ofInt_u8 a ha, ofInt_u8 127 (by omega), IntKind.wrap_u8]
    omega
  rw [show a &&& 127 = a % 128 from Nat.and_two_pow_sub_one_eq_mod a 7] at h
  exact h
open Go.RowKit in
/-- 'v |= int(c&127) << (7*i)'. -/
theorem take_step (v a k : Nat) (hv : v < 2 ^ (7 * k)) (ha : a < 256) (hk : k < 9) :
    bits .or .i64 (v : Int) (wrap64 (wrap64 (bits .and .u8 (a : Int) 127) * 2 ^ (7 * k))) = ((v + (a % 128) * 2 ^ (7 * k) : Nat) : Int) := by
  have hm : a % 128 < 128 := Nat.mod_lt _ (by decide)
  have hp : 2 ^ (7 * k) ≤ 2 ^ 56 := Nat.pow_le_pow_right (by decide) (by omega)
  have hb : (a % 128) * 2 ^ (7 * k) ≤ 127 * 2 ^ 56 := Nat.mul_le_mul (by omega) hp
  rw [u8_and_127 a ha]
  have e1 : wrap64 ((a % 128 : Nat) : Int) = ((a % 128 : Nat) : Int) := by unfold wrap64; omega
  rw [e1]
  have e2 : ((a % 128 : Nat) : Int) * 2 ^ (7 * k) = (((a % 128) * 2 ^ (7 * k) : Nat) : Int) := by
    rw [Int.natCast_mul, Int.natCast_pow]; rfl
  rw [e2]
  have e3 : wrap64 (((a % 128) * 2 ^ (7 * k) : Nat) : Int) = (((a % 128) * 2 ^ (7 * k) : Nat) : Int) := by unfold wrap64; omega
  rw [e3, i64_or_nat _ _ (by omega) (by omega)]
  have h := Nat.two_pow_add_eq_or_of_lt (i := 7 * k) (b := v) hv (a % 128)
  rw [Nat.or_comm, Nat.mul_comm (a % 128), ← h, Nat.add_comm]
theorem take_lt (v a k : Nat) (hv : v < 2 ^ (7 * k)) : v + (a % 128) * 2 ^ (7 * k) < 2 ^ (7 * (k + 1)) := by
  have hm : a % 128 < 128 := Nat.mod_lt _ (by decide)
  have hb : (a % 128) * 2 ^ (7 * k) ≤ 127 * 2 ^ (7 * k) := Nat.mul_le_mul (by omega) (Nat.le_refl _)
  have e : 2 ^ (7 * (k + 1)) = 128 * 2 ^ (7 * k) := by rw [show 7 * (k + 1) = 7 * k + 7 by omega, Nat.pow_add, Nat.mul_comm]
  omega
end Go.Proofs.YtioinjcdkmiafaaDoor
namespace Go.Proofs.YtioinjcdkmiafaaDoor
set_option linter.unusedVariables false
set_option linter.unusedSimpArgs false
open Go.RowKit
theorem u8_info : (Tryd.prog.info? 5).map (fun i => (i.zero, i.size, i.bytes)) = some (some (.int .u8 0), 1, 1) := by kernel_rfl

theorem etU8 : ET Tryd.prog 27 5 1 1 (.int .u8 0) := ⟨Tryd.underlying27, u8_info, rfl, by decide, by decide⟩

/-- What holds at each round's head of 'put''s loop. -/
def PutRel (x m y' : Nat) (cs : List UInt8) : Prop :=
  y' ≤ x ∧ cs.length = m ∧ m + (putB y').length = (putB x).length ∧ cs ++ putB y' = putB x
theorem PutRel.step {x m y' : Nat} {cs : List UInt8} (h : PutRel x m y' cs) (hy : 127 < y') :
    PutRel x (m + 1) (y' / 128) (cs ++ [UInt8.ofNat (y' % 128 + 128)]) := by
  obtain ⟨h1, h2, h3, h4⟩ := h
  have hp := putB_big hy
  rw [hp] at h3 h4
  refine ⟨by omega, by simp [h2], ?_, by simp [← h4]⟩
  simp at h3
  omega

end Go.Proofs.YtioinjcdkmiafaaDoor
namespace Go.Proofs.YtioinjcdkmiafaaDoor
set_option linter.unusedVariables false
set_option linter.unusedSimpArgs false

/-- A text as it is written: its length, its bytes. -/
def txt (s : List UInt8) : List UInt8 := putB s.length ++ s
/-- Read a number off the bytes l, i bytes of it read already, v so far: (number, bytes read, error). -/
def takeGo : Nat → List UInt8 → Nat → Nat → Nat × Nat × Int
  | 0, _, _, _ => (0, 0, 14)
  | _ + 1, [], _, _ => (0, 0, 10)
  | f + 1, c :: r, i, v =>
    if 127 < c.toNat then takeGo f r (i + 1) (v + (c.toNat % 128) * 2 ^ (7 * i))
    else if (c.toNat = 0 ∧ 0 < i) ∨ 4611686018427387904 < v + (c.toNat % 128) * 2 ^ (7 * i) then (0, 0, 14)
    else (v + (c.toNat % 128) * 2 ^ (7 * i), i + 1, 0)
def takeB (l : List UInt8) : Nat × Nat × Int := takeGo 9 l 0 0
theorem takeGo_cons (f : Nat) (l : List UInt8) (p i v : Nat) (h : p < l.length) : takeGo (f + 1) (l.drop p) i v =
    if 127 < l[p].toNat then takeGo f (l.drop (p + 1)) (i + 1) (v + (l[p].toNat % 128) * 2 ^ (7 * i))
    else if (l[p].toNat = 0 ∧ 0 < i) ∨ 4611686018427387904 < v + (l[p].toNat % 128) * 2 ^ (7 * i) then (0, 0, 14)
    else (v + (l[p].toNat % 128) * 2 ^ (7 * i), i + 1, 0) := by
  rw [List.drop_eq_getElem_cons h]; rfl
theorem takeGo_end (f : Nat) (l : List UInt8) (p i v : Nat) (h : l.length ≤ p) : takeGo (f + 1) (l.drop p) i v = (0, 0, 10) := by
  rw [List.drop_of_length_le h]; rfl
/-- What 'count' does: the number, the place, is it amiss? -/
def rCount (bs : List UInt8) (p : Nat) (bad : Bool) (most : Int) : Nat × Nat × Bool :=
  if bad = true ∨ (takeB (bs.drop p)).2.2 ≠ 0 ∨ most < ((takeB (bs.drop p)).1 : Int) then (0, p, true) else ((takeB (bs.drop p)).1, p + (takeB (bs.drop p)).2.1, false)
/-- What 'text' does: the text, the place, is it amiss? -/
def rText (bs : List UInt8) (p : Nat) (bad : Bool) (most : Int) : List UInt8 × Nat × Bool :=
  if (rCount bs p bad most).2.2 = true ∨ bs.length < (rCount bs p bad most).2.1 + (rCount bs p bad most).1 then ([], (rCount bs p bad most).2.1, true)
  else ((bs.drop (rCount bs p bad most).2.1).take (rCount bs p bad most).1, (rCount bs p bad most).2.1 + (rCount bs p bad most).1, false)
theorem takeGo_le : ∀ (f : Nat) (l : List UInt8) (i v : Nat), (takeGo f l i v).2.2 = 0 → (takeGo f l i v).2.1 ≤ i + l.length := by
  intro f
  induction f with
  | zero => intro l i v h; simp [takeGo] at h
  | succ f ih =>
    intro l i v h
    cases l with
    | nil => simp [takeGo] at h
    | cons c r =>
      simp only [takeGo] at h ⊢
      split
      · rename_i hc
        rw [if_pos hc] at h
        have := ih r (i + 1) _ h
        simp only [List.length_cons]
        omega
      · rename_i hc
        rw [if_neg hc] at h
        split
        · simp
        · simp only [List.length_cons]; omega
theorem rCount_le (bs : List UInt8) (p : Nat) (bad : Bool) (most : Int) (hp : p ≤ bs.length) : (rCount bs p bad most).2.1 ≤ bs.length := by
  unfold rCount
  split
  · exact hp
  · rename_i h
    have h2 : (takeB (bs.drop p)).2.2 = 0 := by
      rcases Classical.em ((takeB (bs.drop p)).2.2 = 0) with h1 | h1
      · exact h1
      · exact absurd (.inr (.inl h1)) h
    have := takeGo_le 9 (bs.drop p) 0 0 h2
    rw [List.length_drop] at this
    show p + (takeB (bs.drop p)).2.1 ≤ _
    unfold takeB
    omega
theorem rText_le (bs : List UInt8) (p : Nat) (bad : Bool) (most : Int) (hp : p ≤ bs.length) : (rText bs p bad most).2.1 ≤ bs.length := by
  have := rCount_le bs p bad most hp
  unfold rText
  split
  · exact this
  · rename_i h
    show _ + _ ≤ _
    have h2 : ¬ (bs.length < (rCount bs p bad most).2.1 + (rCount bs p bad most).1) := fun h2 => h (.inr h2)
    omega
theorem toNat_ofNat (a : Nat) (h : a < 256) : (UInt8.ofNat a).toNat = a := by rw [UInt8.toNat_ofNat', Nat.mod_eq_of_lt h]
theorem ofNat_toNat (c : UInt8) : UInt8.ofNat c.toNat = c := by simp
theorem takeGo_put : ∀ (f x i v : Nat) (r : List UInt8), x < 128 ^ (f + 1) → (x ≠ 0 ∨ i = 0) → v + x * 2 ^ (7 * i) ≤ 4611686018427387904 →
    takeGo (f + 1) (putB x ++ r) i v = (v + x * 2 ^ (7 * i), i + (putB x).length, 0) := by
  intro f
  induction f with
  | zero =>
    intro x i v r hx hi hv
    rw [putB_small (by omega)]
    have e : (UInt8.ofNat x).toNat = x := toNat_ofNat x (by omega)
    have e2 : x % 128 = x := Nat.mod_eq_of_lt (by omega)
    simp only [List.cons_append, List.nil_append, takeGo, e, e2, List.length_cons, List.length_nil]
    rw [if_neg (by omega), if_neg (by omega)]
  | succ f ih =>
    intro x i v r hx hi hv
    by_cases hs : x ≤ 127
    · rw [putB_small hs]
      have e : (UInt8.ofNat x).toNat = x := toNat_ofNat x (by omega)
      have e2 : x % 128 = x := Nat.mod_eq_of_lt (by omega)
      simp only [List.cons_append, List.nil_append, takeGo, e, e2, List.length_cons, List.length_nil]
      rw [if_neg (by omega), if_neg (by omega)]
    · rw [putB_big (by omega)]
      have e : (UInt8.ofNat (x % 128 + 128)).toNat = x % 128 + 128 := toNat_ofNat _ (by omega)
      have e2 : (x % 128 + 128) % 128 = x % 128 := by omega
      have e3 : v + x % 128 * 2 ^ (7 * i) + x / 128 * 2 ^ (7 * (i + 1)) = v + x * 2 ^ (7 * i) := by
        have h7 : 2 ^ (7 * (i + 1)) = 128 * 2 ^ (7 * i) := by rw [show 7 * (i + 1) = 7 * i + 7 by omega, Nat.pow_add, Nat.mul_comm]
        rw [h7, ← Nat.mul_assoc, Nat.add_assoc, ← Nat.add_mul, show x % 128 + x / 128 * 128 = x by omega]
      have h1 := ih (x / 128) (i + 1) (v + x % 128 * 2 ^ (7 * i)) r (by rw [Nat.pow_succ] at hx; omega) (.inl (by omega)) (by rw [e3]; exact hv)
      rw [List.cons_append, takeGo, e, if_pos (by omega), e2, h1, e3]
      simp only [List.length_cons]
      rw [show i + 1 + (putB (x / 128)).length = i + ((putB (x / 128)).length + 1) by omega]
theorem takeB_put (x : Nat) (r : List UInt8) (hx : x ≤ 4611686018427387904) : takeB (putB x ++ r) = (x, (putB x).length, 0) := by
  have h := takeGo_put 8 x 0 0 r (by omega) (.inr rfl) (by omega)
  simpa [takeB] using h
theorem takeGo_inv : ∀ (f : Nat) (l : List UInt8) (i v y k : Nat), takeGo f l i v = (y, k, 0) →
    ∃ x r, l = putB x ++ r ∧ k = i + (putB x).length ∧ y = v + x * 2 ^ (7 * i) ∧ (x ≠ 0 ∨ i = 0) ∧ y ≤ 4611686018427387904 := by
  intro f
  induction f with
  | zero => intro l i v y k h; simp [takeGo] at h
  | succ f ih =>
    intro l i v y k h
    cases l with
    | nil => simp [takeGo] at h
    | cons c r =>
      rw [takeGo] at h
      have hc : c.toNat < 256 := c.toNat_lt
      split at h
      · rename_i hb
        obtain ⟨x, r', rfl, hk, hy, hx, hm⟩ := ih r (i + 1) _ y k h
        have hx0 : x ≠ 0 := by omega
        have hbig : 127 < c.toNat % 128 + 128 * x := by omega
        refine ⟨c.toNat % 128 + 128 * x, r', ?_, ?_, ?_, .inl (by omega), hm⟩
        · rw [putB_big hbig, show (c.toNat % 128 + 128 * x) % 128 + 128 = c.toNat by omega, show (c.toNat % 128 + 128 * x) / 128 = x by omega, ofNat_toNat]
          rfl
        · rw [putB_big hbig, show (c.toNat % 128 + 128 * x) / 128 = x by omega, List.length_cons]
          omega
        · have h7 : 2 ^ (7 * (i + 1)) = 128 * 2 ^ (7 * i) := by rw [show 7 * (i + 1) = 7 * i + 7 by omega, Nat.pow_add, Nat.mul_comm]
          rw [hy, h7, Nat.add_mul, Nat.add_assoc, ← Nat.mul_assoc, Nat.mul_comm x 128]
      · rename_i hb
        have e2 : c.toNat % 128 = c.toNat := Nat.mod_eq_of_lt (by omega)
        split at h
        · simp at h
        · rename_i hn
          simp only [Prod.mk.injEq, and_true] at h
          obtain ⟨hy, hk⟩ := h
          rw [e2] at hy hn
          refine ⟨c.toNat, r, ?_, ?_, hy.symm, ?_, by omega⟩
          · rw [putB_small (by omega), ofNat_toNat]; rfl
          · rw [putB_small (by omega)]; simp; omega
          · rcases Nat.eq_zero_or_pos i with h0 | h0
            · exact .inr h0
            · exact .inl (fun hz => hn (.inl ⟨hz, h0⟩))
theorem takeB_inv {l : List UInt8} {y k : Nat} (h : takeB l = (y, k, 0)) : ∃ r, l = putB y ++ r ∧ k = (putB y).length ∧ y ≤ 4611686018427387904 := by
  obtain ⟨x, r, hl, hk, hy, _, hm⟩ := takeGo_inv 9 l 0 0 y k h
  have : y = x := by simpa using hy
  subst this
  exact ⟨r, hl, by omega, hm⟩
theorem drop_next {bs a X : List UInt8} {p : Nat} (h : bs.drop p = a ++ X) : bs.drop (p + a.length) = X := by
  rw [← List.drop_drop, h]; simp
theorem count_put {bs X : List UInt8} {p x : Nat} {most : Int} (h : bs.drop p = putB x ++ X) (hx : x ≤ 4611686018427387904) (hm : (x : Int) ≤ most) : rCount bs p false most = (x, p + (putB x).length, false) := by
  rw [rCount, h, takeB_put x X hx, if_neg]
  rintro (h | h | h)
  · cases h
  · exact h rfl
  · exact absurd h (by show ¬ (most < (x : Int)); omega)
theorem count_inv {bs : List UInt8} {p : Nat} {bad : Bool} {most : Int} (h : (rCount bs p bad most).2.2 = false) :
    bad = false ∧ ((rCount bs p bad most).1 : Int) ≤ most ∧ (rCount bs p bad most).1 ≤ 4611686018427387904 ∧ (rCount bs p bad most).2.1 = p + (putB (rCount bs p bad most).1).length ∧ bs.drop p = putB (rCount bs p bad most).1 ++ bs.drop (rCount bs p bad most).2.1 := by
  unfold rCount at h ⊢
  split at h
  · cases h
  · rename_i hn
    rw [if_neg hn]
    have hb : bad = false := by
      cases bad
      · rfl
      · exact absurd (.inl rfl) hn
    have he : (takeB (bs.drop p)).2.2 = 0 := Classical.byContradiction fun he => hn (.inr (.inl he))
    have hm : ¬ (most < ((takeB (bs.drop p)).1 : Int)) := fun hm => hn (.inr (.inr hm))
    obtain ⟨r, hl, hk, hy⟩ := takeB_inv (l := bs.drop p) (y := (takeB (bs.drop p)).1) (k := (takeB (bs.drop p)).2.1) (by rw [← he])
    refine ⟨hb, by show _ ≤ _; omega, hy, by show p + _ = _; rw [hk], ?_⟩
    have h2 := drop_next hl
    show bs.drop p = putB (takeB (bs.drop p)).1 ++ bs.drop (p + (takeB (bs.drop p)).2.1)
    rw [hk, h2]
    exact hl
theorem text_put {bs X s : List UInt8} {p : Nat} {most : Int} (h : bs.drop p = txt s ++ X) (hx : s.length ≤ 4611686018427387904) (hm : (s.length : Int) ≤ most) : rText bs p false most = (s, p + (txt s).length, false) := by
  have h1 : bs.drop p = putB s.length ++ (s ++ X) := by rw [h, txt, List.append_assoc]
  have hc := count_put h1 hx hm
  have h2 := drop_next h1
  have hl : p + (putB s.length).length + s.length ≤ bs.length := by
    have h3 := congrArg List.length h2
    rw [List.length_drop, List.length_append] at h3
    rcases Nat.eq_zero_or_pos s.length with h0 | h0
    · have h4 := congrArg List.length h1
      rw [List.length_drop, List.length_append] at h4
      have := putB_pos s.length
      omega
    · omega
  rw [rText, hc, if_neg (by rintro (h | h); cases h; dsimp only at h; omega)]
  show ((bs.drop (p + (putB s.length).length)).take s.length, p + (putB s.length).length + s.length, false) = _
  rw [h2, List.take_left]
  simp only [txt, List.length_append]
  rw [Nat.add_assoc]
theorem text_inv {bs : List UInt8} {p : Nat} {bad : Bool} {most : Int} (h : (rText bs p bad most).2.2 = false) :
    bad = false ∧ ((rText bs p bad most).1.length : Int) ≤ most ∧ (rText bs p bad most).2.1 = p + (txt (rText bs p bad most).1).length ∧ bs.drop p = txt (rText bs p bad most).1 ++ bs.drop (rText bs p bad most).2.1 := by
  unfold rText at h ⊢
  split at h
  · cases h
  · rename_i hn
    rw [if_neg hn]
    have hb : (rCount bs p bad most).2.2 = false := by
      cases hb : (rCount bs p bad most).2.2
      · rfl
      · exact absurd (.inl hb) hn
    have hl : ¬ (bs.length < (rCount bs p bad most).2.1 + (rCount bs p bad most).1) := fun hm => hn (.inr hm)
    obtain ⟨h1, h2, h3, h4, h5⟩ := count_inv hb
    generalize rCount bs p bad most = q at *
    have hlen : ((bs.drop q.2.1).take q.1).length = q.1 := by simp; omega
    have ht : txt ((bs.drop q.2.1).take q.1) = putB q.1 ++ (bs.drop q.2.1).take q.1 := by rw [txt, hlen]
    dsimp only
    refine ⟨h1, by omega, ?_, ?_⟩
    · rw [ht, List.length_append, hlen, h4]; omega
    · rw [ht, h5, List.append_assoc]
      congr 1
      rw [← List.drop_drop]
      exact (List.take_append_drop _ _).symm
theorem putB_one {v : Nat} (h : v ≤ 127) : (putB v).length = 1 := by rw [putB_small h]; rfl
/-- The document's next count: the number, the place, what was amiss. -/
def nNum (bs : List UInt8) (p : Nat) (e lo hi : Int) : Nat × Nat × Int :=
  if e ≠ 0 then (0, p, e)
  else if (takeB (bs.drop p)).2.2 ≠ 0 then (0, p, (takeB (bs.drop p)).2.2)
  else if ((takeB (bs.drop p)).1 : Int) < lo ∨ hi < ((takeB (bs.drop p)).1 : Int) then (0, p + (takeB (bs.drop p)).2.1, 16)
  else ((takeB (bs.drop p)).1, p + (takeB (bs.drop p)).2.1, 0)
/-- The document's next list of bytes. -/
def nByt (bs : List UInt8) (p : Nat) (e hi : Int) : List UInt8 × Nat × Int :=
  if (nNum bs p e 0 hi).2.2 ≠ 0 then ([], (nNum bs p e 0 hi).2.1, (nNum bs p e 0 hi).2.2)
  else if bs.length < (nNum bs p e 0 hi).2.1 + (nNum bs p e 0 hi).1 then ([], (nNum bs p e 0 hi).2.1, 10)
  else ((bs.drop (nNum bs p e 0 hi).2.1).take (nNum bs p e 0 hi).1, (nNum bs p e 0 hi).2.1 + (nNum bs p e 0 hi).1, 0)
theorem nNum_stick {bs : List UInt8} {p : Nat} {e lo hi : Int} (h : e ≠ 0) : nNum bs p e lo hi = (0, p, e) := by rw [nNum, if_pos h]
theorem nNum_le (bs : List UInt8) (p : Nat) (e lo hi : Int) (hp : p ≤ bs.length) : (nNum bs p e lo hi).2.1 ≤ bs.length := by
  have h1 : (takeB (bs.drop p)).2.2 = 0 → p + (takeB (bs.drop p)).2.1 ≤ bs.length := fun h2 => by
    have := takeGo_le 9 (bs.drop p) 0 0 h2
    rw [List.length_drop] at this
    unfold takeB
    omega
  unfold nNum
  split
  · exact hp
  · split
    · exact hp
    · rename_i h2
      have h3 := h1 (Classical.not_not.1 h2)
      split
      · exact h3
      · exact h3
theorem nByt_le (bs : List UInt8) (p : Nat) (e hi : Int) (hp : p ≤ bs.length) : (nByt bs p e hi).2.1 ≤ bs.length := by
  have := nNum_le bs p e 0 hi hp
  unfold nByt
  split
  · exact this
  · split
    · exact this
    · show _ + _ ≤ _
      omega
theorem count_of_num {bs : List UInt8} {p v p' : Nat} {lo hi most : Int} (h : nNum bs p 0 lo hi = (v, p', 0)) (hm : hi ≤ most) : rCount bs p false most = (v, p', false) ∧ lo ≤ (v : Int) ∧ (v : Int) ≤ hi := by
  unfold nNum at h
  rw [if_neg (by simp)] at h
  split at h
  · rename_i h1
    injection h with _ h
    injection h with _ h
    exact absurd h h1
  · rename_i h1
    split at h
    · injection h with _ h
      injection h with _ h
      exact absurd h (by decide)
    · rename_i h2
      injection h with e1 h
      injection h with e2 _
      refine ⟨?_, by omega, by omega⟩
      rw [rCount, if_neg (by rintro (h3 | h3 | h3); exact absurd h3 (by decide); exact h1 h3; omega), e1, e2]
theorem num_of_count {bs : List UInt8} {p : Nat} {bad : Bool} {lo hi most : Int} (h : (rCount bs p bad most).2.2 = false) (h1 : lo ≤ ((rCount bs p bad most).1 : Int)) (h2 : ((rCount bs p bad most).1 : Int) ≤ hi) :
    nNum bs p 0 lo hi = ((rCount bs p bad most).1, (rCount bs p bad most).2.1, 0) ∧ bad = false := by
  unfold rCount at h h1 h2 ⊢
  split at h
  · cases h
  · rename_i hc
    rw [if_neg hc] at h1 h2 ⊢
    have h3 : (takeB (bs.drop p)).2.2 = 0 := Classical.not_not.1 fun h3 => hc (.inr (.inl h3))
    refine ⟨?_, ?_⟩
    · rw [nNum, if_neg (by simp), if_neg (by simpa using h3), if_neg (by omega)]
    · cases bad with
      | false => rfl
      | true => exact absurd (.inl rfl) hc
theorem text_of_byt {bs l : List UInt8} {p p' : Nat} {hi : Int} (h : nByt bs p 0 hi = (l, p', 0)) : rText bs p false hi = (l, p', false) := by
  unfold nByt at h
  split at h
  · rename_i h1
    injection h with _ h
    injection h with _ h
    exact absurd h h1
  · rename_i h1
    obtain ⟨q, hq⟩ : ∃ q, q = nNum bs p 0 0 hi := ⟨_, rfl⟩
    rw [← hq] at h h1
    obtain ⟨v, p1, e1⟩ := q
    obtain rfl : e1 = 0 := Classical.not_not.1 h1
    obtain ⟨hc, _, _⟩ := count_of_num hq.symm (Int.le_refl hi)
    split at h
    · injection h with _ h
      injection h with _ h
      exact absurd h (by decide)
    · rename_i h2
      injection h with e1 h
      injection h with e2 _
      dsimp only at e1 e2 h2
      rw [rText, hc, if_neg (by rintro (h3 | h3); simp at h3; exact h2 h3)]
      dsimp only
      rw [e1, e2]
theorem byt_of_text {bs : List UInt8} {p : Nat} {bad : Bool} {hi : Int} (h : (rText bs p bad hi).2.2 = false) : nByt bs p 0 hi = ((rText bs p bad hi).1, (rText bs p bad hi).2.1, 0) ∧ bad = false := by
  unfold rText at h ⊢
  split at h
  · cases h
  · rename_i hc
    rw [if_neg hc]
    have h1 : (rCount bs p bad hi).2.2 = false := by
      cases hb : (rCount bs p bad hi).2.2 with
      | false => rfl
      | true => exact absurd (.inl hb) hc
    have hle : ((rCount bs p bad hi).1 : Int) ≤ hi := by
      unfold rCount at h1 ⊢
      split at h1
      · cases h1
      · rename_i h3
        rw [if_neg h3]
        dsimp only
        have : ¬ hi < ((takeB (bs.drop p)).1 : Int) := fun h4 => h3 (.inr (.inr h4))
        omega
    obtain ⟨h2, hb⟩ := num_of_count (lo := 0) h1 (by omega) hle
    refine ⟨?_, hb⟩
    rw [nByt, h2, if_neg (by simp), if_neg (fun h5 => hc (.inr h5))]
end Go.Proofs.YtioinjcdkmiafaaDoor
