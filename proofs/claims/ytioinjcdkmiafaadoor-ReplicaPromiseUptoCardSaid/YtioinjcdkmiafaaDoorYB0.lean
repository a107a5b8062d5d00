/-
  MERGED: MacInv Crc
-/
import Derived.Test.YtioinjcdkmiafaaDoorYA7
import Derived.Laws.BitsAllLaws
namespace Go.Proofs.YtioinjcdkmiafaaDoor
set_option linter.unusedVariables false
set_option linter.unusedSimpArgs false

structure VCmd (num : Txt → Int × Bool) (c i r o : Int) (k v d : Txt) : Prop where
  c0 : 0 ≤ c
  c1 : c < 16
  i0 : 1 ≤ i
  i1 : i ≤ 4611686018427387904
  r0 : 1 ≤ r
  r1 : r ≤ 4611686018427387904
  o1 : 1 ≤ o
  o9 : o ≤ 9
  kl : o ≤ 8 → 1 ≤ k.length ∧ k.length ≤ 8
  vl : v.length ≤ 8
  e : o = 9 → 0 ≤ (num v).1 ∧ (num v).1 < 16
theorem apart_ne {ls : List LockD} (h : ls.Pairwise fun a b => a.token ≠ b.token) : ∀ a ∈ ls, ∀ b ∈ ls, a ≠ b → a.token ≠ b.token := by
  induction ls with
  | nil => intro a ha; cases ha
  | cons x r ih =>
    obtain ⟨h1, h2⟩ := List.pairwise_cons.1 h
    intro a ha b hb hab
    rcases List.mem_cons.1 ha with e1 | ha1
    · rcases List.mem_cons.1 hb with e2 | hb1
      · exact absurd (e1.trans e2.symm) hab
      · rw [e1]
        exact h1 b hb1
    · rcases List.mem_cons.1 hb with e2 | hb1
      · rw [e2]
        exact (h1 a ha1).symm
      · exact ih h2 a ha1 b hb1 hab
theorem res_small {code n : Int} {val : Txt} (h1 : 1 ≤ code ∧ code ≤ 11 ∧ code ≠ 10) (hv : val.length ≤ 8) (h2 : 0 ≤ n ∧ n ≤ 99999999) : ResOk ⟨code, val, n⟩ := ⟨h1.1, h1.2.1, h1.2.2, hv, h2.1, h2.2⟩
section
variable {num : Txt → Int × Bool} {ita : Int → Txt} {s : StD} {c i r o : Int} {k v d : Txt}
theorem onKey_ok (h : PInv s.pairs) (hk : 1 ≤ k.length ∧ k.length ≤ 8) (hv : v.length ≤ 8) :
    ResOk (onKeyD num ita o k v d s).1 ∧ PInv (onKeyD num ita o k v d s).2.pairs ∧ (onKeyD num ita o k v d s).2.locks = s.locks ∧ (onKeyD num ita o k v d s).2.tok = s.tok ∧ (onKeyD num ita o k v d s).2.ss = s.ss := by
  unfold onKeyD
  cases hf : pfindD k s.pairs with
  | none =>
    simp only
    split
    · split
      · exact ⟨res_small (by omega) (by simp) (by omega), h, rfl, rfl, rfl⟩
      · rename_i hl
        refine ⟨res_small (by omega) ?_ (by omega), h.put hk hv (fun _ => by omega), rfl, rfl, rfl⟩
        split
        · exact hv
        · simp
    · exact ⟨res_small (by omega) (by simp) (by omega), h, rfl, rfl, rfl⟩
  | some x =>
    obtain ⟨a, u⟩ := x
    obtain ⟨hn, hm⟩ := findK_some hf
    have hu : u.length ≤ 8 := (h.each _ hm).2.2
    have hnf : pfindD k s.pairs = none → s.pairs.length < 16 := fun e => by rw [hf] at e; cases e
    simp only
    split
    · exact ⟨res_small (by omega) hu (by omega), h.put hk hv hnf, rfl, rfl, rfl⟩
    · split
      · split
        · exact ⟨res_small (by omega) hu (by omega), h.put hk hv hnf, rfl, rfl, rfl⟩
        · exact ⟨res_small (by omega) hu (by omega), h, rfl, rfl, rfl⟩
      · split
        · exact ⟨res_small (by omega) hu (by omega), h.del k, rfl, rfl, rfl⟩
        · split
          · split
            · exact ⟨res_small (by omega) hu (by omega), h, rfl, rfl, rfl⟩
            · split
              · exact ⟨res_small (by omega) hu (by omega), h, rfl, rfl, rfl⟩
              · rename_i hi
                exact ⟨res_small (by omega) (by omega) (by omega), h.put hk (by omega) hnf, rfl, rfl, rfl⟩
          · exact ⟨res_small (by omega) hu (by omega), h, rfl, rfl, rfl⟩
theorem pass_num (h : LInv s.locks s.tok) : 0 ≤ (passD k s).1 ∧ (passD k s).1 ≤ 99999999 := by
  have h0 := h.tok0
  unfold passD
  split
  · exact ⟨Int.le_refl _, by omega⟩
  · split
    · exact ⟨Int.le_refl _, by omega⟩
    · split
      · exact ⟨Int.le_refl _, by omega⟩
      · constructor <;> simp only <;> omega
theorem onLock_ok (h : LInv s.locks s.tok) (hc : 0 ≤ c ∧ c < 16) (hk : 1 ≤ k.length ∧ k.length ≤ 8) :
    ResOk (onLockD num c o k v s).1 ∧ LInv (onLockD num c o k v s).2.locks (onLockD num c o k v s).2.tok ∧ (onLockD num c o k v s).2.pairs = s.pairs ∧ (onLockD num c o k v s).2.ss = s.ss ∧ ∀ x, who (onLockD num c o k v s).2.locks x → who s.locks x ∨ x = c := by
  have t0 := h.tok0
  have t1 := h.tok1
  unfold onLockD
  cases hf : lfind k s.locks with
  | none =>
    simp only
    split
    · split
      · exact ⟨res_small (by omega) (by simp) (by omega), h, rfl, rfl, fun x hx => .inl hx⟩
      · split
        · exact ⟨res_small (by omega) (by simp) (by omega), h, rfl, rfl, fun x hx => .inl hx⟩
        · rename_i hl ht
          refine ⟨res_small (by omega) (by simp) (by omega), h.ins ⟨k, c, s.tok + 1, []⟩ ⟨hk.1, hk.2, hc.1, hc.2, by show 1 ≤ s.tok + 1; omega, Int.le_refl _, List.nodup_nil, by simp, by simp⟩ rfl (findK_none hf) (by omega) (by omega), rfl, rfl, fun x hx => ?_⟩
          obtain ⟨l, hl2, hh⟩ := hx
          rcases insK_mem.1 hl2 with rfl | h3
          · rcases hh with rfl | hh
            · exact .inr rfl
            · simp at hh
          · exact .inl ⟨l, h3, hh⟩
    · exact ⟨res_small (by omega) (by simp) (by omega), h, rfl, rfl, fun x hx => .inl hx⟩
  | some l =>
    obtain ⟨hn, hm⟩ := findK_some hf
    have hl := h.each l hm
    have lt1 := hl.t1
    have lt0 := hl.t0
    have hql := queue_len hl.nd hl.q
    have hset : ∀ x : LockD, x.name = k → x.token = l.token → LOk s.tok x → LInv (setK LockD.name x s.locks) s.tok := fun x hx hxt hok => h.set x hok (Int.le_refl _) t1 (fun m hm2 hne => by
      rw [hxt]
      exact apart_ne h.apart m hm2 l hm (fun e2 => hne (by rw [e2, hn, hx])))
    simp only
    split
    · split
      · exact ⟨res_small (by omega) (by simp) (by omega), h, rfl, rfl, fun x hx => .inl hx⟩
      · split
        · rename_i hq
          have := List.idxOf_lt_length_of_mem hq
          exact ⟨res_small (by omega) (by simp) (by omega), h, rfl, rfl, fun x hx => .inl hx⟩
        · rename_i hh hq
          refine ⟨res_small (by omega) (by simp) (by omega), hset _ hn rfl ⟨hl.n1, hl.n8, hl.h0, hl.h1, hl.t0, hl.t1, ?_, fun x hx => ?_, fun hx => ?_⟩, rfl, rfl, fun x hx => ?_⟩
          · show (l.queue ++ [c]).Nodup
            rw [List.nodup_append]
            exact ⟨hl.nd, by simp, fun a ha b hb => by
              simp at hb
              subst hb
              rintro rfl
              exact hq ha⟩
          · rcases List.mem_append.1 hx with h1 | h1
            · exact hl.q x h1
            · simp at h1; subst h1; exact hc
          · rcases List.mem_append.1 hx with h1 | h1
            · exact hl.hq h1
            · simp at h1; exact hh h1
          · obtain ⟨m, hm2, hmm⟩ := hx
            rcases setK_mem hm2 with rfl | ⟨h3, _⟩
            · rcases hmm with rfl | hmm
              · exact .inl ⟨l, hm, .inl rfl⟩
              · rcases List.mem_append.1 hmm with h1 | h1
                · exact .inl ⟨l, hm, .inr h1⟩
                · simp at h1; exact .inr h1
            · exact .inl ⟨m, h3, hmm⟩
    · split
      · split
        · have hp := pass_num (k := k) h
          exact ⟨res_small (by omega) (by simp) hp, h.pass k, (pass_rest k s).1, (pass_rest k s).2, fun x hx => .inl (who_pass hx)⟩
        · split
          · refine ⟨res_small (by omega) (by simp) (by omega), hset _ hn rfl (leave_ok hl), rfl, rfl, fun x hx => ?_⟩
            obtain ⟨m, hm2, hmm⟩ := hx
            rcases setK_mem hm2 with rfl | ⟨h3, _⟩
            · rcases hmm with rfl | hmm
              · exact .inl ⟨l, hm, .inl rfl⟩
              · exact .inl ⟨l, hm, .inr (List.mem_filter.1 hmm).1⟩
            · exact .inl ⟨m, h3, hmm⟩
          · exact ⟨res_small (by omega) (by simp) (by omega), h, rfl, rfl, fun x hx => .inl hx⟩
      · split
        · exact ⟨res_small (by omega) (by simp) (by omega), h, rfl, rfl, fun x hx => .inl hx⟩
        · exact ⟨res_small (by omega) (by simp) (by omega), h, rfl, rfl, fun x hx => .inl hx⟩
theorem lets_num (h : LInv s.locks s.tok) : 0 ≤ (letsD c s).1 ∧ (letsD c s).1 ≤ 8 := by
  have h1 : (heldBy c s.locks).length ≤ s.locks.length := by
    unfold heldBy
    rw [List.length_map]
    exact List.length_filter_le _ _
  have := h.len
  unfold letsD
  constructor <;> simp only <;> omega
theorem end_ok (h : LInv s.locks s.tok) :
    ResOk (endD num v s).1 ∧ LInv (endD num v s).2.locks (endD num v s).2.tok ∧ (endD num v s).2.pairs = s.pairs ∧ (endD num v s).2.ss = s.ss ∧ ∀ x, who (endD num v s).2.locks x → who s.locks x := by
  unfold endD
  split
  · exact ⟨res_small (by omega) (by simp) (by omega), h, rfl, rfl, fun x hx => hx⟩
  · have hn := lets_num (c := (num v).1) h
    exact ⟨res_small (by omega) (by simp) (by omega), h.lets _, (lets_rest _ _).1, (lets_rest _ _).2, fun x hx => who_lets hx⟩
theorem does_ok (h : LInv s.locks s.tok) (hp : PInv s.pairs) (hv : VCmd num c i r o k v d) :
    ResOk (doesD num ita c o k v d s).1 ∧ LInv (doesD num ita c o k v d s).2.locks (doesD num ita c o k v d s).2.tok ∧ PInv (doesD num ita c o k v d s).2.pairs ∧ (doesD num ita c o k v d s).2.ss = s.ss ∧ ∀ x, who (doesD num ita c o k v d s).2.locks x → who s.locks x ∨ x = c := by
  unfold doesD
  split
  · obtain ⟨h1, h2, h3, h4, h5⟩ := onKey_ok (num := num) (ita := ita) (o := o) (d := d) hp (hv.kl (by omega)) hv.vl
    exact ⟨h1, by rw [h3, h4]; exact h, h2, h5, fun x hx => .inl (h3 ▸ hx)⟩
  · split
    · obtain ⟨h1, h2, h3, h4, h5⟩ := onLock_ok (num := num) (o := o) (v := v) h ⟨hv.c0, hv.c1⟩ (hv.kl (by omega))
      exact ⟨h1, h2, by rw [h3]; exact hp, h4, h5⟩
    · obtain ⟨h1, h2, h3, h4, h5⟩ := end_ok (num := num) (v := v) h
      exact ⟨h1, h2, by rw [h3]; exact hp, h4, fun x hx => .inl (h5 x hx)⟩
theorem getD_mem {l : List SesD} {n : Nat} (h : n < l.length) : l.getD n noSes ∈ l := by
  rw [List.getD_eq_getElem?_getD, List.getElem?_eq_getElem h]
  exact List.getElem_mem h
/-- Behind every valid command. -/
theorem apply_ok (h : Inv s) (hv : VCmd num c i r o k v d) : ResOk (applyV num ita c i r o k v d s).1 ∧ Inv (applyV num ita c i r o k v d s).2 := by
  have hcl : c.toNat < s.ss.length := by rw [h.s16]; have := hv.c0; have := hv.c1; omega
  unfold applyV
  simp only
  split
  · exact ⟨res_small (by omega) (by simp) (by omega), h⟩
  · split
    · rename_i hz
      rcases h.ses _ (getD_mem hcl) with e | e
      · rw [e] at hz
        have := hv.i0
        simp [noSes] at hz
        omega
      · exact ⟨e.last, h⟩
    · have hs1 : ∀ s1 : StD, (LInv s1.locks s1.tok ∧ s1.pairs = s.pairs ∧ s1.ss = s.ss ∧ ∀ x, who s1.locks x → who s.locks x) → ResOk (doesD num ita c o k v d s1).1 ∧ Inv { (doesD num ita c o k v d s1).2 with ss := (doesD num ita c o k v d s1).2.ss.set c.toNat ⟨i, r, (doesD num ita c o k v d s1).1⟩ } := by
        rintro s1 ⟨a1, a2, a3, a4⟩
        obtain ⟨d1, d2, d3, d4, d5⟩ := does_ok (ita := ita) a1 (by rw [a2]; exact h.pr) hv
        refine ⟨d1, d2, d3, by rw [List.length_set, d4, a3]; exact h.s16, fun x hx => ?_, fun x hx => ?_⟩
        · rcases List.mem_or_eq_of_mem_set hx with h1 | rfl
          · rw [d4, a3] at h1
            exact h.ses x h1
          · exact .inr ⟨hv.i0, hv.i1, hv.r0, hv.r1, d1⟩
        · have hi0 := hv.i0
          by_cases hxc : x.toNat = c.toNat
          · rw [hxc, List.getD_eq_getElem?_getD, List.getElem?_set_self (by rw [d4, a3]; exact hcl)]
            show 0 < i
            omega
          · rw [List.getD_eq_getElem?_getD, List.getElem?_set_ne (fun e => hxc e.symm), d4, a3, ← List.getD_eq_getElem?_getD]
            rcases d5 x hx with h1 | rfl
            · exact h.link x (a4 x h1)
            · exact absurd rfl hxc
      split
      · exact hs1 _ ⟨h.lk.lets c, (lets_rest c s).1, (lets_rest c s).2, fun x hx => who_lets hx⟩
      · exact hs1 _ ⟨h.lk, rfl, rfl, fun x hx => hx⟩
end
end Go.Proofs.YtioinjcdkmiafaaDoor
namespace Go.Proofs.YtioinjcdkmiafaaDoor
set_option linter.unusedVariables false
set_option linter.unusedSimpArgs false

def crcPoly : Nat := 3988292384
def bitStep (w : Nat) : Nat := if w % 2 = 1 then (w / 2) ^^^ crcPoly else w / 2
def nibTab : List Nat := [0, 498536548, 997073096, 651767980, 1994146192, 1802195444, 1303535960, 1342533948, 3988292384, 4027552580, 3604390888, 3412177804, 2607071920, 2262029012, 2685067896, 3183342108]
def nibStep (w : Nat) : Nat := (w / 16) ^^^ nibTab.getD (w % 16) 0
theorem xor_lt32 {a b : Nat} (ha : a < 4294967296) (hb : b < 4294967296) : a ^^^ b < 4294967296 := Nat.xor_lt_two_pow (n := 32) ha hb
theorem bitStep_lt {w : Nat} (h : w < 4294967296) : bitStep w < 4294967296 := by
  unfold bitStep
  split
  · exact xor_lt32 (by omega) (by decide)
  · omega
theorem bitStep_even (a b : Nat) : bitStep (2 * a ^^^ b) = a ^^^ bitStep b := by
  have h1 : (2 * a ^^^ b) % 2 = b % 2 := by
    have e : ∀ x : Nat, x % 2 = (x.testBit 0).toNat := fun x => by
      rw [Nat.testBit_zero]
      rcases Nat.mod_two_eq_zero_or_one x with h | h <;> simp [h]
    rw [e, e, Nat.testBit_xor]
    have : (2 * a).testBit 0 = false := by rw [Nat.testBit_zero]; simp
    rw [this]
    simp
  have h2 : (2 * a ^^^ b) / 2 = a ^^^ (b / 2) := by
    apply Nat.eq_of_testBit_eq
    intro i
    rw [Nat.testBit_div_two, Nat.testBit_xor, Nat.testBit_xor, Nat.testBit_div_two]
    congr 1
    rw [show 2 * a = 2 ^ 1 * a by omega, Nat.testBit_two_pow_mul]
    simp
  unfold bitStep
  rw [h1, h2]
  split
  · rw [Nat.xor_assoc]
  · rfl
theorem low_xor (q r : Nat) (hr : r < 16) : 16 * q + r = 16 * q ^^^ r := by
  apply Nat.eq_of_testBit_eq
  intro i
  rw [Nat.testBit_xor, show 16 * q = 2 ^ 4 * q by omega, Nat.testBit_two_pow_mul_add q (by omega : r < 2 ^ 4), Nat.testBit_two_pow_mul]
  by_cases hi : i < 4
  · rw [if_pos hi]
    have h4 : ¬ (4 ≤ i) := by omega
    simp [h4]
  · rw [if_neg hi]
    have : r.testBit i = false := Nat.testBit_lt_two_pow (Nat.lt_of_lt_of_le hr (by
      have := Nat.pow_le_pow_right (n := 2) (by omega) (show 4 ≤ i by omega)
      omega))
    rw [this]
    have h4 : 4 ≤ i := by omega
    simp [h4]
theorem nib_small : ∀ r, r < 16 → bitStep (bitStep (bitStep (bitStep r))) = nibTab.getD r 0 := by decide
theorem nib_bits (w : Nat) : nibStep w = bitStep (bitStep (bitStep (bitStep w))) := by
  have hw : w = 16 * (w / 16) + w % 16 := by omega
  have hr : w % 16 < 16 := by omega
  unfold nibStep
  conv => rhs; rw [hw, low_xor _ _ hr]
  rw [show 16 * (w / 16) = 2 * (8 * (w / 16)) by omega, bitStep_even, show 8 * (w / 16) = 2 * (4 * (w / 16)) by omega, bitStep_even, show 4 * (w / 16) = 2 * (2 * (w / 16)) by omega, bitStep_even, bitStep_even, nib_small _ hr]
def bit8 (w : Nat) : Nat := bitStep (bitStep (bitStep (bitStep (bitStep (bitStep (bitStep (bitStep w)))))))
theorem nib_two (w : Nat) : nibStep (nibStep w) = bit8 w := by rw [nib_bits, nib_bits]; rfl
/-- The sum's state behind some bytes. -/
def crcAt (bs : List UInt8) : Nat := bs.foldl (fun w c => bit8 (w ^^^ c.toNat)) 4294967295
theorem crcAt_snoc (bs : List UInt8) (c : UInt8) : crcAt (bs ++ [c]) = bit8 (crcAt bs ^^^ c.toNat) := by simp [crcAt]
theorem bit8_lt {w : Nat} (h : w < 4294967296) : bit8 w < 4294967296 := bitStep_lt (bitStep_lt (bitStep_lt (bitStep_lt (bitStep_lt (bitStep_lt (bitStep_lt (bitStep_lt h)))))))
theorem crcAt_lt (bs : List UInt8) : crcAt bs < 4294967296 := by
  have : ∀ (l : List UInt8) (w : Nat), w < 4294967296 → l.foldl (fun w c => bit8 (w ^^^ c.toNat)) w < 4294967296 := by
    intro l
    induction l with
    | nil => exact fun w h => h
    | cons c r ih =>
      intro w h
      have hc : c.toNat < 4294967296 := by have := c.toNat_lt; omega
      exact ih _ (bit8_lt (xor_lt32 h hc))
  exact this bs _ (by decide)
/-- The sum. -/
def crcB (bs : List UInt8) : Nat := crcAt bs ^^^ 4294967295
theorem crcB_lt (bs : List UInt8) : crcB bs < 4294967296 := xor_lt32 (crcAt_lt bs) (by decide)
/-- Its four bytes, the lowest first. -/
def sumB (bs : List UInt8) : List UInt8 := [UInt8.ofNat (crcB bs % 256), UInt8.ofNat (crcB bs / 256 % 256), UInt8.ofNat (crcB bs / 65536 % 256), UInt8.ofNat (crcB bs / 16777216 % 256)]
theorem sumB_four (bs : List UInt8) : (sumB bs).length = 4 := rfl
/-- Four bytes are the sum's just if they make its number. -/
theorem sumB_iff (bs : List UInt8) (a b c d : UInt8) : [a, b, c, d] = sumB bs ↔ a.toNat + 256 * b.toNat + 65536 * c.toNat + 16777216 * d.toNat = crcB bs := by
  have h := crcB_lt bs
  have ha := a.toNat_lt
  have hb := b.toNat_lt
  have hc := c.toNat_lt
  have hd := d.toNat_lt
  unfold sumB
  generalize crcB bs = s at h ⊢
  constructor
  · intro e
    simp only [List.cons.injEq, and_true] at e
    obtain ⟨rfl, rfl, rfl, rfl⟩ := e
    simp only [UInt8.toNat_ofNat']
    omega
  · intro e
    have e1 : a = UInt8.ofNat (s % 256) := UInt8.toNat_inj.1 (by rw [UInt8.toNat_ofNat']; omega)
    have e2 : b = UInt8.ofNat (s / 256 % 256) := UInt8.toNat_inj.1 (by rw [UInt8.toNat_ofNat']; omega)
    have e3 : c = UInt8.ofNat (s / 65536 % 256) := UInt8.toNat_inj.1 (by rw [UInt8.toNat_ofNat']; omega)
    have e4 : d = UInt8.ofNat (s / 16777216 % 256) := UInt8.toNat_inj.1 (by rw [UInt8.toNat_ofNat']; omega)
    rw [← e1, ← e2, ← e3, ← e4]
end Go.Proofs.YtioinjcdkmiafaaDoor
