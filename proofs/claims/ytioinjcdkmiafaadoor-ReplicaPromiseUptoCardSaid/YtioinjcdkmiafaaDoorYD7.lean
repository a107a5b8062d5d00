/-
  MERGED: DRestP DSum DSeal
-/
import Derived.Test.YtioinjcdkmiafaaDoorYD6
import Derived.Test.YtioinjcdkmiafaaDoorYB6
import Derived.Test.YtioinjcdkmiafaaDoorYD1
import Derived.Test.YtioinjcdkmiafaaDoorYC4
import Derived.Test.YtioinjcdkmiafaaDoorYA3
import Derived.Test.YtioinjcdkmiafaaDoorYA1
import Derived.Test.YtioinjcdkmiafaaDoorYA7
import Derived.Deep.RegionHeld3
namespace Go.Proofs.YtioinjcdkmiafaaDoor
set_option linter.unusedVariables false
set_option linter.unusedSimpArgs false

theorem azOf_len (l : List (Nat × SesD)) : (azOf l).length = 16 := by
  unfold azOf
  suffices h : ∀ (l : List (Nat × SesD)) (az : List (Bool × SesD)), (l.foldl (fun az x => az.set x.1 (true, x.2)) az).length = az.length by rw [h]; simp
  intro l
  induction l with
  | nil => intro az; rfl
  | cons x l ih => intro az; rw [List.foldl_cons, ih, List.length_set]
theorem sesAt_nil (q : Nat) : sesAt [] q = noSes := rfl
theorem sesAt_cons (x : Nat × SesD) (l : List (Nat × SesD)) (q : Nat) : sesAt (x :: l) q = if x.1 = q then x.2 else sesAt l q := by
  unfold sesAt
  rw [List.find?_cons]
  by_cases h : x.1 = q
  · simp [h]
  · have : (x.1 == q) = false := by simpa using h
    rw [this, if_neg h]
theorem sesAt_snoc : ∀ (l : List (Nat × SesD)) (x : Nat × SesD) (q : Nat), (∀ y ∈ l, y.1 ≠ x.1) → sesAt (l ++ [x]) q = if x.1 = q then x.2 else sesAt l q
  | [], x, q, _ => sesAt_cons x [] q
  | y :: l, x, q, h => by
    rw [List.cons_append, sesAt_cons, sesAt_cons, sesAt_snoc l x q fun z hz => h z (by simp [hz])]
    by_cases h1 : y.1 = q
    · have h2 : x.1 ≠ q := fun e => h y (by simp) (h1.trans e.symm)
      rw [if_pos h1, if_neg h2, if_pos h1]
    · rw [if_neg h1, if_neg h1]
def sesB1 (z : SesD) : Bool := decide (0 < z.inc)
theorem azOf_at : ∀ (k : Nat) (l : List (Nat × SesD)), l.length = k → l.Pairwise (fun a b => a.1 < b.1) → (∀ x ∈ l, 1 ≤ x.2.inc) → ∀ q, q < 16 → azAt (azOf l) q = (decide (0 < (sesAt l q).inc), sesAt l q)
  | 0, l, hk, _, _, q, hq => by
    obtain rfl := List.length_eq_zero_iff.1 hk
    unfold azAt azOf
    simp only [List.foldl_nil]
    rw [List.getD_eq_getElem?_getD, List.getElem?_replicate, if_pos hq]
    rfl
  | k + 1, l, hk, hp, hi, q, hq => by
    obtain ⟨m, x, rfl⟩ : ∃ m x, l = m ++ [x] := ⟨l.dropLast, l.getLast (by intro h; rw [h] at hk; simp at hk), (List.dropLast_concat_getLast _).symm⟩
    have hm : m.length = k := by simpa using hk
    have hp2 := List.pairwise_append.1 hp
    have hd : ∀ y ∈ m, y.1 ≠ x.1 := fun y hy => by have := hp2.2.2 y hy x (by simp); omega
    have ih := azOf_at k m hm hp2.1 (fun y hy => hi y (by simp [hy])) q hq
    have hl := azOf_len m
    rw [azOf_snoc, sesAt_snoc m x q hd]
    unfold azAt at ih ⊢
    rw [List.getD_eq_getElem?_getD] at ih ⊢
    rw [List.getElem?_set]
    by_cases h : x.1 = q
    · have := hi x (by simp)
      rw [if_pos h, if_pos (by omega), if_pos h]
      have h0 : decide (0 < x.2.inc) = true := decide_eq_true (by omega)
      rw [h0]
      rfl
    · rw [if_neg h, if_neg h]
      exact ih
theorem azOf_all {l : List (Nat × SesD)} (hp : l.Pairwise (fun a b => a.1 < b.1)) (hi : ∀ x ∈ l, 1 ≤ x.2.inc) : azOf l = ((List.range 16).map (sesAt l)).map fun z => (decide (0 < z.inc), z) := by
  refine List.ext_getElem? fun q => ?_
  by_cases hq : q < 16
  · have h1 := azOf_at l.length l rfl hp hi q hq
    rw [azAt_of (by rw [azOf_len]; exact hq)] at h1
    rw [List.getElem?_eq_getElem (by rw [azOf_len]; exact hq), h1]
    simp [hq]
  · rw [List.getElem?_eq_none (by rw [azOf_len]; omega), List.getElem?_eq_none (by simp; omega)]
theorem rise_next {l : List Txt} : (∀ i (h : i + 1 < l.length), Op.bytesLess (l[i]'(by omega)) l[i + 1] = true) → Rise l := by
  induction l with
  | nil => intro _; exact List.Pairwise.nil
  | cons a r ih =>
    intro h
    have hr : Rise r := ih fun i hi => h (i + 1) (by simpa using hi)
    refine List.pairwise_cons.2 ⟨fun b hb => ?_, hr⟩
    cases r with
    | nil => cases hb
    | cons c r =>
      have h0 := h 0 (by simp)
      rw [less_before] at h0
      rcases List.mem_cons.1 hb with rfl | h1
      · exact h0
      · exact before_trans h0 ((List.pairwise_cons.1 hr).1 b h1)
theorem next_rise {l : List Txt} (h : Rise l) {i j : Nat} (hij : i < j) (hj : j < l.length) : Op.bytesLess (l[i]'(by omega)) l[j] = true := by
  rw [less_before]
  exact List.pairwise_iff_getElem.1 h i j (by omega) hj hij
theorem placeI_mem {q : List Int} {c : Int} : 0 < placeI q c ↔ c ∈ q := by
  unfold placeI
  split
  · rename_i h; exact ⟨fun _ => h, fun _ => by omega⟩
  · rename_i h; exact ⟨fun h => absurd h (by omega), fun h2 => absurd h2 h⟩
theorem nodup_place {q : List Int} : (∀ j (h : j < q.length), placeI q q[j] = (j : Int) + 1) ↔ q.Nodup := by
  constructor
  · intro h
    refine List.pairwise_iff_getElem.2 fun i j hi hj hij e => ?_
    have h1 := h i (by omega)
    have h2 := h j hj
    rw [e, h2] at h1
    omega
  · intro h j hj
    unfold placeI
    rw [if_pos (List.getElem_mem hj)]
    have hl := List.idxOf_lt_length_of_mem (List.getElem_mem hj)
    have he := List.getElem_idxOf hl
    have hp := List.pairwise_iff_getElem.1 h
    rcases Nat.lt_trichotomy (q.idxOf q[j]) j with h1 | h1 | h1
    · exact absurd he (hp _ _ hl hj h1)
    · rw [h1]
    · exact absurd he.symm (hp _ _ hj hl h1)
theorem valid_raw {r : RawD} (hg : rawGood r) (hr : RRead r) : ValidD r.pairs r.locks (r.tok : Int) (azOf r.sess) ↔ RawOk r := by
  have hp := hg.2.2.2
  have hi : ∀ x ∈ r.sess, 1 ≤ x.2.inc := fun x hx => (hg.2.2.1 x hx).1
  have haz : ∀ q, q < 16 → azAt (azOf r.sess) q = (decide (0 < (sesAt r.sess q).inc), sesAt r.sess q) := fun q hq => azOf_at _ r.sess rfl hp hi q hq
  have hla : ∀ i (h : i < r.locks.length), lkAt r.locks i = r.locks[i] := fun i h => by
    unfold lkAt
    rw [List.getD_eq_getElem?_getD, List.getElem?_eq_getElem h]
    rfl
  have hqd : ∀ (q : List Int) j (h : j < q.length), q.getD j 0 = q[j] := fun q j h => by rw [List.getD_eq_getElem?_getD, List.getElem?_eq_getElem h]; rfl
  constructor
  · intro h
    refine ⟨hg.1, rise_next fun i hi => ?_, fun l hl => (hg.2.1 l hl).1, rise_next fun i hi => ?_, fun l hl => ?_, ?_, fun l hl => ?_, hp, fun x hx => ?_, fun c hc => ?_⟩
    · rw [List.length_map] at hi
      have h1 := h.pr i hi
      rw [prAt_of (by omega), prAt_of hi] at h1
      simpa using h1
    · rw [List.length_map] at hi
      have h1 := (h.lk (i + 1) hi).nm (by omega)
      rw [Nat.add_sub_cancel, hla _ (by omega), hla _ hi] at h1
      simpa using h1
    · obtain ⟨i, hi, rfl⟩ := List.getElem_of_mem hl
      have h1 := (h.lk i hi).tk
      rw [hla _ hi] at h1
      have h2 := of_decide_eq_false h1
      exact ⟨(hg.2.1 _ hl).2, by omega⟩
    · refine List.pairwise_iff_getElem.2 fun i j hi hj hij => ?_
      have h1 := h.ap j hj i hij
      rwa [hla _ hi, hla _ hj] at h1
    · obtain ⟨i, hi, rfl⟩ := List.getElem_of_mem hl
      have h1 := (h.lk i hi).hq
      rw [hla _ hi] at h1
      refine ⟨nodup_place.1 fun j hj => ?_, fun hm => ?_⟩
      · have h2 := (h.qs i hi j (by rw [hla _ hi]; exact hj)).pl
        rwa [hla _ hi, hqd _ _ hj] at h2
      · have := placeI_mem.2 hm
        rw [decide_eq_true this] at h1
        cases h1
    · have h1 := hg.2.2.1 x hx
      refine ⟨h1.1, h1.2.1, h1.2.2, fun e => ?_⟩
      have hx16 := (hr.s x hx).q
      refine h.bad x.1 hx16 ?_
      rw [haz _ hx16, sesAt_of hp hx]
      exact ⟨decide_eq_true (by have := h1.1; omega), e⟩
    · obtain ⟨l, hl, hc⟩ := hc
      obtain ⟨i, hi, rfl⟩ := List.getElem_of_mem hl
      have hk := hr.l _ hl
      rcases hc with rfl | hc
      · have h1 := (h.lk i hi).ho
        rw [hla _ hi, haz _ (by have := hk.h0; have := hk.h1; omega)] at h1
        exact of_decide_eq_true h1
      · obtain ⟨j, hj, rfl⟩ := List.getElem_of_mem hc
        have h1 := (h.qs i hi j (by rw [hla _ hi]; exact hj)).has
        rw [hla _ hi, hqd _ _ hj, haz _ (by have := hk.q _ hc; omega)] at h1
        exact of_decide_eq_true h1
  · intro h
    refine ⟨fun i hi => ?_, fun i hi => ⟨fun h0 => ?_, ?_, ?_, ?_⟩, fun i hi j hj => ?_, fun i hi j hj => ?_, fun q hq => ?_⟩
    · rw [prAt_of (by omega), prAt_of hi]
      have h1 := next_rise h.pr (i := i) (j := i + 1) (by omega) (by rw [List.length_map]; exact hi)
      simpa using h1
    · rw [hla _ (by omega), hla _ hi]
      have h1 := next_rise h.lr (i := i - 1) (j := i) (by omega) (by rw [List.length_map]; exact hi)
      simpa using h1
    · rw [hla _ hi]
      exact decide_eq_false (by have := (h.lt _ (List.getElem_mem hi)).2; omega)
    · rw [hla _ hi]
      have hk := hr.l _ (List.getElem_mem hi)
      rw [haz _ (by have := hk.h0; have := hk.h1; omega)]
      exact decide_eq_true (h.link _ ⟨_, List.getElem_mem hi, .inl rfl⟩)
    · rw [hla _ hi]
      exact decide_eq_false fun h1 => (h.lq _ (List.getElem_mem hi)).2 (placeI_mem.1 h1)
    · rw [hla _ hi, hla _ (by omega)]
      exact List.pairwise_iff_getElem.1 h.la j i (by omega) hi hj
    · rw [hla _ hi] at hj ⊢
      have hk := hr.l _ (List.getElem_mem hi)
      have hm := List.getElem_mem hj
      refine ⟨?_, ?_⟩
      · rw [hqd _ _ hj, haz _ (by have := hk.q _ hm; omega)]
        exact decide_eq_true (h.link _ ⟨_, List.getElem_mem hi, .inr hm⟩)
      · rw [hqd _ _ hj]
        exact nodup_place.2 (h.lq _ (List.getElem_mem hi)).1 j hj
    · rw [haz _ hq]
      rintro ⟨h1, h2⟩
      by_cases hx : ∃ x ∈ r.sess, x.1 = q
      · obtain ⟨x, hx, rfl⟩ := hx
        simp only at h2
        rw [sesAt_of hp hx] at h2
        exact (h.s1 x hx).2.2.2 h2
      · simp only at h1
        rw [sesAt_none fun x hx2 e => hx ⟨x, hx2, e⟩] at h1
        cases h1
/-- Whoever is a snapshot was read well. -/
theorem raw_isgood {r : RawD} (h : RawOk r) : rawGood r := ⟨h.pn, fun l hl => ⟨h.ln l hl, (h.lt l hl).1⟩, fun x hx => ⟨(h.s1 x hx).1, (h.s1 x hx).2.1, (h.s1 x hx).2.2.1⟩, h.sr⟩
end Go.Proofs.YtioinjcdkmiafaaDoor
namespace Go.Proofs.YtioinjcdkmiafaaDoor
set_option linter.unusedVariables false
set_option linter.unusedSimpArgs false
open Go.RowKit

theorem i64_xor_nat (a b : Nat) (ha : a < 4294967296) (hb : b < 4294967296) : bits .xor .i64 (a : Int) (b : Int) = ((a ^^^ b : Nat) : Int) := by
  have hx : a ^^^ b < 2 ^ 32 := Nat.xor_lt_two_pow (by omega) (by omega)
  show IntKind.i64.wrap ((BitVec.ofInt 64 (a : Int) ^^^ BitVec.ofInt 64 (b : Int)).toNat : Int) = _
  rw [BitVec.toNat_xor, BitVec.ofInt_natCast, BitVec.ofInt_natCast, BitVec.toNat_ofNat, BitVec.toNat_ofNat, Nat.mod_eq_of_lt (by omega), Nat.mod_eq_of_lt (by omega), IntKind.wrap_i64]
  omega
def bitN : Nat → Nat → Nat
  | 0, w => w
  | j + 1, w => bitStep (bitN j w)
theorem bitN_lt {w : Nat} (h : w < 4294967296) : ∀ j, bitN j w < 4294967296
  | 0 => h
  | j + 1 => bitStep_lt (bitN_lt h j)
theorem crc_step (bs : List UInt8) (k : Nat) (hk : k < bs.length) : crcAt (bs.take (k + 1)) = bitN 8 (crcAt (bs.take k) ^^^ bs[k].toNat) := by
  rw [List.take_succ_eq_append_getElem hk, crcAt_snoc]
  rfl
set_option maxRecDepth 20000 in
set_option maxHeartbeats 1000000 in
theorem dsum_any (Z : Nat → Prop) (A : Option Addr) (n c : Nat) (bs : List UInt8) (w : World) (hb : Rd w Z 1 A n (Lib.byteCells bs)) (hn : n ≤ 1099511627770) :
    Calls Tryd.prog 42 #[.slice A n c] w fun e w' => e = .returned (.int .i64 (crcB bs : Int)) ∧ w = w' := by
  have HB := Lib.hid hb
  have hlen : bs.length = n := by simpa [Lib.byteCells] using hb.1
  have HN := Lib.hid hlen
  clear hb hlen
  go_enter Tryd.func42, Tryd.ntmps42
  go_wp2_with fail
  go_loopw [3, 4] (fun v i wr => ∃ (k x : Nat), k ≤ n ∧ i = .int .i64 (k : Int) ∧ v = .int .i64 (x : Int) ∧ wr = w ∧ Hid (x = crcAt (bs.take k))) (fun _ i _ => n - (intOf i).toNat)
  case atStart => exact ⟨0, 4294967295, by omega, rfl, rfl, rfl, rfl⟩
  case round =>
    rename World => wr
    obtain ⟨k, x, hk, rfl, rfl, rfl, HR⟩ := hrel
    by_cases hin : k < n
    · obtain ⟨b, o, rfl, hzb, hll, hcell⟩ := HB.out.at1 hin
      have hkb : k < bs.length := by rw [HN.out]; exact hin
      rw [show (Lib.byteCells bs)[k] = .int .u8 (bs[k].toNat : Int) by simp [Lib.byteCells]] at hcell
      have hx32 : x < 4294967296 := HR.out ▸ crcAt_lt _
      obtain ⟨ch, hch⟩ : ∃ ch : Nat, ch = bs[k].toNat := ⟨_, rfl⟩
      have hc : ch < 256 := hch ▸ bs[k].toNat_lt
      rw [← hch] at hcell
      have hE := crc_step bs k hkb
      rw [← HR.out, ← hch] at hE
      obtain ⟨y, hy⟩ : ∃ y, y = x ^^^ ch := ⟨_, rfl⟩
      have X1 : bits BinOp.xor IntKind.i64 (x : Int) (ch : Int) = (y : Int) := by rw [i64_xor_nat x ch hx32 (by omega), hy]
      have hy32 : y < 4294967296 := hy ▸ xor_lt32 hx32 (by omega)
      rw [← hy] at hE
      have HE := Lib.hid hE
      have HY := Lib.hid hy32
      have hki : (k : Int) < (n : Int) := by omega
      have lb := lt_of_cell hcell
      clear hE hch HR hzb hll hkb hy hy32
      go_wp2_with fail
      go_loopw [3, 5] (fun v i wq => ∃ (j z : Nat), j ≤ 8 ∧ i = .int .i64 (j : Int) ∧ v = .int .i64 (z : Int) ∧ wq = wr ∧ Hid (z = bitN j y)) (fun _ i _ => 8 - (intOf i).toNat)
      case atStart => exact ⟨0, y, by omega, rfl, rfl, rfl, rfl⟩
      case round =>
        rename World => wq
        obtain ⟨j, z, hj, rfl, rfl, rfl, HZ⟩ := hrel
        have hz32 : z < 4294967296 := HZ.out ▸ bitN_lt HY.out j
        by_cases hj8 : j < 8
        · have hji : (j : Int) < 8 := by omega
          have hz0 : (0 : Int) ≤ (z : Int) := by omega
          obtain ⟨z2, hz2⟩ : ∃ z2, z2 = bitStep z := ⟨_, rfl⟩
          have HZ2 : Hid (z2 = bitN (j + 1) y) := Lib.hid (by rw [hz2, HZ.out]; rfl)
          by_cases hl : z % 2 = 1
          · have hl2 : (z : Int) % 2 = 1 := by omega
            have X2 : bits BinOp.xor IntKind.i64 ((z : Int) / 2) 3988292384 = (z2 : Int) := by
              rw [show (z : Int) / 2 = ((z / 2 : Nat) : Int) by omega, show (3988292384 : Int) = ((3988292384 : Nat) : Int) from rfl, i64_xor_nat (z / 2) 3988292384 (by omega) (by decide), hz2]
              unfold bitStep
              rw [if_pos hl]
              rfl
            clear hz2 HZ
            go_wp2_with fail
            exact ⟨⟨j + 1, z2, by omega, by simp, by first | rfl | trivial, by first | rfl | trivial, HZ2⟩, by simp only [intOf]; omega⟩
          · have hl2 : (z : Int) % 2 = 0 := by omega
            have hz3 : z2 = z / 2 := by rw [hz2]; unfold bitStep; rw [if_neg hl]
            clear hz2 HZ
            go_wp2_with fail
            exact ⟨⟨j + 1, z2, by omega, by simp, by rw [hz3]; simp, by first | rfl | trivial, HZ2⟩, by simp only [intOf]; omega⟩
        · obtain rfl : j = 8 := by omega
          go_wp2_with fail
          exact ⟨⟨k + 1, z, by omega, by simp, by first | rfl | trivial, by first | rfl | trivial, Lib.hid (by rw [HE.out]; exact HZ.out)⟩, by simp only [intOf]; omega⟩
    · obtain rfl : n = k := by omega
      have hx32 : x < 4294967296 := HR.out ▸ crcAt_lt _
      have hC : crcB bs = x ^^^ 4294967295 := by
        have h1 := HR.out
        rw [List.take_of_length_le (by rw [HN.out]; exact Nat.le_refl _)] at h1
        rw [h1]
        rfl
      have X3 : bits BinOp.xor IntKind.i64 (x : Int) 4294967295 = (crcB bs : Int) := by
        rw [show (4294967295 : Int) = ((4294967295 : Nat) : Int) from rfl, i64_xor_nat x 4294967295 hx32 (by decide), hC]
      clear hC
      go_wp2_with fail
      go_ret
      exact ⟨rfl, rfl⟩

/-! ### Sealed -/
def shr (s j : Nat) : Nat := s / 256 ^ j
theorem shr_zero (s : Nat) : shr s 0 = s := by simp [shr]
theorem shr_succ (s j : Nat) : shr s (j + 1) = shr s j / 256 := by unfold shr; rw [Nat.pow_succ, Nat.div_div_eq_div_mul]
def sumTo (s j : Nat) : List UInt8 := (List.range j).map fun i => UInt8.ofNat (shr s i % 256)
theorem sumTo_succ (s j : Nat) : sumTo s (j + 1) = sumTo s j ++ [UInt8.ofNat (shr s j % 256)] := by
  unfold sumTo
  rw [List.range_succ, List.map_append]
  rfl
theorem sumTo_four (bs : List UInt8) : sumTo (crcB bs) 4 = sumB bs := by
  unfold sumTo sumB shr
  simp [List.range_succ]
/-! ### Seal -/
theorem sumB_at (bs ts : List UInt8) (h4 : ts.length = 4) : ts = sumB bs ↔ (ts[0]'(by omega)).toNat + 256 * (ts[1]'(by omega)).toNat + 65536 * (ts[2]'(by omega)).toNat + 16777216 * (ts[3]'(by omega)).toNat = crcB bs := by
  obtain ⟨a, b, c, d, rfl⟩ := four_of h4
  exact sumB_iff bs a b c d
end Go.Proofs.YtioinjcdkmiafaaDoor
namespace Go.Proofs.YtioinjcdkmiafaaDoor
set_option linter.unusedVariables false
set_option linter.unusedSimpArgs false
open Go.RowKit

set_option maxRecDepth 20000 in
set_option maxHeartbeats 1000000 in
theorem dseal_any (Z : Nat → Prop) (A : Option Addr) (n c : Nat) (bs : Txt) (w : World) (hb : Rd w Z 1 A n (Lib.byteCells bs)) (h4 : 4 ≤ n) (hn : n ≤ 1099511627770) (hnc : n ≤ c) :
    Calls Tryd.prog 30 #[.slice A n c] w fun e w' => (∃ r : Bool, e = .returned (.bool r) ∧ (r = true ↔ bs.drop (n - 4) = sumB (bs.take (n - 4)))) ∧ ∃ k, w' = w.drewN k := by
  have hlen : bs.length = n := by simpa [Lib.byteCells] using hb.1
  obtain ⟨m, hm4⟩ : ∃ m, n = m + 4 := ⟨n - 4, by omega⟩
  rw [show n - 4 = m by omega]
  obtain ⟨b, o, rfl, -, hcl⟩ := hb.2 (by omega)
  have hS := dsum_any Z (some ⟨b, o, none⟩) m c (bs.take m) w (by have h1 := hb.front m (by omega); simpa [Lib.byteCells, List.map_take] using h1) (by omega)
  obtain ⟨sm, hsm⟩ : ∃ sm, sm = crcB (bs.take m) := ⟨_, rfl⟩
  rw [← hsm] at hS
  have hcell : ∀ j, (hj : j < bs.length) → w.cell? ⟨b, o + j, none⟩ = some (.int .u8 ((bs[j]).toNat : Int)) := fun j hj => hcl j _ (by simp [Lib.byteCells, hj])
  have c0 := hcell m (by omega)
  have c1 := hcell (m + 1) (by omega)
  have c2 := hcell (m + 2) (by omega)
  have c3 := hcell (m + 3) (by omega)
  have htl : (bs.drop m).length = 4 := by rw [List.length_drop]; omega
  have hfin := sumB_at (bs.take m) (bs.drop m) htl
  simp only [List.getElem_drop, Nat.add_zero] at hfin
  have q0 := (bs[m]'(by omega)).toNat_lt
  have q1 := (bs[m + 1]'(by omega)).toNat_lt
  have q2 := (bs[m + 2]'(by omega)).toNat_lt
  have q3 := (bs[m + 3]'(by omega)).toNat_lt
  obtain ⟨x0, hx0⟩ : ∃ x : Nat, x = (bs[m]'(by omega)).toNat := ⟨_, rfl⟩
  obtain ⟨x1, hx1⟩ : ∃ x : Nat, x = (bs[m + 1]'(by omega)).toNat := ⟨_, rfl⟩
  obtain ⟨x2, hx2⟩ : ∃ x : Nat, x = (bs[m + 2]'(by omega)).toNat := ⟨_, rfl⟩
  obtain ⟨x3, hx3⟩ : ∃ x : Nat, x = (bs[m + 3]'(by omega)).toNat := ⟨_, rfl⟩
  rw [← hx0] at c0 q0
  rw [← hx1] at c1 q1
  rw [← hx2] at c2 q2
  rw [← hx3] at c3 q3
  rw [← hx0, ← hx1, ← hx2, ← hx3, ← hsm] at hfin
  have lb := lt_of_cell c0
  have HF := Lib.hid hfin
  have HS := Lib.hid hS
  have hm : m ≤ 1099511627766 := by omega
  have hmc : n ≤ c := hnc
  have hsub : (n : Int) - 4 = (m : Int) := by omega
  have i0 : (m : Int) < (n : Int) := by omega
  obtain ⟨m1, hm1⟩ : ∃ j, j = m + 1 := ⟨_, rfl⟩
  have s1 : (m : Int) + 1 = (m1 : Int) := by omega
  have i1 : (m1 : Int) < (n : Int) := by omega
  have j1 : m1 ≤ 1099511627770 := by omega
  rw [← hm1] at c1
  obtain ⟨m2, hm2⟩ : ∃ j, j = m + 2 := ⟨_, rfl⟩
  have s2 : (m : Int) + 2 = (m2 : Int) := by omega
  have i2 : (m2 : Int) < (n : Int) := by omega
  have j2 : m2 ≤ 1099511627770 := by omega
  rw [← hm2] at c2
  obtain ⟨m3, hm3⟩ : ∃ j, j = m + 3 := ⟨_, rfl⟩
  have s3 : (m : Int) + 3 = (m3 : Int) := by omega
  have i3 : (m3 : Int) < (n : Int) := by omega
  have j3 : m3 ≤ 1099511627770 := by omega
  rw [← hm3] at c3
  have hmn : (m : Int) ≤ (c : Int) := by omega
  have hn0 : n ≤ 1099511627770 := hn
  clear hb hlen hcl hcell hx0 hx1 hx2 hx3 hfin hS hsm htl h4 hn hnc hm4 hm1 hm2 hm3
  go_enter Tryd.func30, Tryd.ntmps30
  go_wp2_with fail
  refine Calls.mono HS.out ?_
  rintro e _ ⟨rfl, rfl⟩
  go_wp2_with fail
  have HK : Hid (∀ w', Fresh w w' → w'.cell? ⟨b, o + m, none⟩ = some (.int .u8 (x0 : Int)) ∧ w'.cell? ⟨b, o + m1, none⟩ = some (.int .u8 (x1 : Int)) ∧ w'.cell? ⟨b, o + m2, none⟩ = some (.int .u8 (x2 : Int)) ∧ w'.cell? ⟨b, o + m3, none⟩ = some (.int .u8 (x3 : Int))) := Lib.hid fun w' hf => ⟨hf.cellAt c0 trivial, hf.cellAt c1 trivial, hf.cellAt c2 trivial, hf.cellAt c3 trivial⟩
  go_region
  go_wp2_with fail
  go_ret
  refine ⟨⟨_, rfl, ?_⟩, ⟨_, rfl⟩⟩
  rw [HF.out]
  rw [beq_iff_eq]
  constructor
  · intro h
    omega
  · intro h
    omega
/-- No snapshot is longer than the document's limit. -/
theorem putB_len4 {v : Nat} (h : v ≤ 99999999) : (putB v).length ≤ 4 := putB_len 3 v (by omega)
theorem flat_most {α : Type} {f : α → List UInt8} {c : Nat} : ∀ (l : List α), (∀ x ∈ l, (f x).length ≤ c) → (l.flatMap f).length ≤ c * l.length
  | [], _ => by simp
  | x :: l, h => by
    have h1 := h x (by simp)
    have h2 := flat_most l fun y hy => h y (by simp [hy])
    rw [List.flatMap_cons, List.length_append, List.length_cons, Nat.mul_succ]
    omega
theorem txt_most {t : Txt} (h : t.length ≤ 8) : (txt t).length ≤ 9 := by
  unfold txt
  rw [List.length_append, putB_one (by omega)]
  omega
theorem snap_most {s : StD} (h : Inv s) : (snapB s).length ≤ 1070 := by
  have h1 : (putB s.tok.toNat).length ≤ 4 := putB_len4 (by have := h.lk.tok1; have := h.lk.tok0; omega)
  have h2 : (putB s.pairs.length).length = 1 := putB_one (by have := h.pr.len; omega)
  have h3 : (s.pairs.flatMap pairB).length ≤ 18 * s.pairs.length := flat_most _ fun x hx => by
    have hp := h.pr.each x hx
    unfold pairB
    rw [List.length_append]
    have := txt_most hp.2.1
    have := txt_most hp.2.2
    omega
  have h4 : (putB s.locks.length).length = 1 := putB_one (by have := h.lk.len; omega)
  have h5 : (s.locks.flatMap lockB).length ≤ 30 * s.locks.length := flat_most _ fun x hx => by
    have ok := h.lk.each x hx
    have hq := queue_len ok.nd ok.q
    have e : (lockB x).length = (txt x.name).length + ((putB x.holder.toNat).length + ((putB x.token.toNat).length + ((putB x.queue.length).length + (x.queue.flatMap fun c => putB c.toNat).length))) := by
      unfold lockB queueB
      simp only [List.length_append]
    rw [e]
    clear e
    have a1 := txt_most (t := x.name) ok.n8
    have a2 : (putB x.holder.toNat).length = 1 := putB_one (by have := ok.h1; omega)
    have a3 : (putB x.token.toNat).length ≤ 4 := putB_len4 (by have := ok.t1; have := h.lk.tok1; omega)
    have a4 : (putB x.queue.length).length = 1 := putB_one (by omega)
    have a5 : (x.queue.flatMap fun c => putB c.toNat).length ≤ 1 * x.queue.length := flat_most _ fun c hc => Nat.le_of_eq (putB_one (by have := ok.q c hc; omega))
    have a6 : x.queue.length ≤ 15 := by
      have := queue_len (q := x.holder :: x.queue) (List.nodup_cons.2 ⟨ok.hq, ok.nd⟩) (fun c hc => by
        rcases List.mem_cons.1 hc with rfl | h1
        · exact ⟨ok.h0, ok.h1⟩
        · exact ok.q c h1)
      rw [List.length_cons] at this
      omega
    omega
  have h6 : (putB (asked s.ss).length).length = 1 := putB_one (by have := asked_len s.ss; omega)
  have h7 : ((asked s.ss).flatMap sesB).length ≤ 33 * (asked s.ss).length := flat_most _ fun x hx => by
    obtain ⟨q1, ok⟩ := ses_asked h hx
    have e : (sesB x).length = (putB x.1).length + ((putB x.2.inc.toNat).length + ((putB x.2.req.toNat).length + ((putB x.2.last.code.toNat).length + ((txt x.2.last.val).length + (putB x.2.last.n.toNat).length)))) := by
      unfold sesB
      simp only [List.length_append]
    rw [e]
    clear e
    have a1 : (putB x.1).length = 1 := putB_one (by omega)
    have a2 : (putB x.2.inc.toNat).length ≤ 9 := putB_len9 (by have := ok.i1; omega)
    have a3 : (putB x.2.req.toNat).length ≤ 9 := putB_len9 (by have := ok.r1; omega)
    have a4 : (putB x.2.last.code.toNat).length = 1 := putB_one (by have := ok.last.c1; omega)
    have a5 := txt_most (t := x.2.last.val) ok.last.v
    have a6 : (putB x.2.last.n.toNat).length ≤ 4 := putB_len4 (by have := ok.last.n1; omega)
    omega
  unfold snapB bodyB restB
  simp only [List.length_append]
  have h8 : headB.length = 3 := rfl
  have h9 : (sumB (bodyB s)).length = 4 := rfl
  have := h.pr.len
  have := h.lk.len
  have := asked_len s.ss
  unfold bodyB restB at h9
  omega
end Go.Proofs.YtioinjcdkmiafaaDoor
