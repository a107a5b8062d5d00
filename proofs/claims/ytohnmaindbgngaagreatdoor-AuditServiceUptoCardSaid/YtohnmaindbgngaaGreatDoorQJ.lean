/-
  MERGED: Quor
-/
import Derived.Test.YtohnmaindbgngaaGreatDoorQ1
import Derived.Test.YtohnmaindbgngaaGreatDoorQI
import Derived.Laws.BitsAllLaws
namespace Go.Proofs.YtohnmaindbgngaaGreatDoor
set_option linter.unusedVariables false
set_option linter.unusedSimpArgs false
open Go.RowKit

/-! ### plain -/
structure Cnt0 (vs : List Int) (k : Nat) (tot fst : Int) : Prop where
  ok : ∀ (j : Nat) (h : j < vs.length), j < k → 0 ≤ vs[j] ∧ vs[j] ≤ 9
  et : tot = (vs.take k).sum
  lo : 0 ≤ tot
  hi : tot ≤ 9 * (k : Int)
  ef : fst = firstD (vs.take k)
  fhi : fst < (k : Int)
theorem firstD_nil : firstD [] = -1 := rfl
theorem firstD_snoc (vs : List Int) (v : Int) : firstD (vs ++ [v]) = if firstD vs < 0 ∧ 0 < v then (vs.length : Int) else firstD vs := by
  unfold firstD
  rw [List.findIdx_append]
  by_cases h : vs.findIdx (fun v => decide (0 < v)) < vs.length
  · rw [if_pos h, if_pos h]
    have h2 : ¬ (((vs.findIdx (fun v => decide (0 < v)) : Nat) : Int) < 0 ∧ 0 < v) := by omega
    rw [if_neg h2, if_pos (by simp; omega)]
  · rw [if_neg h, if_neg h]
    by_cases hv : 0 < v
    · simp [List.findIdx_cons, hv]
    · simp [List.findIdx_cons, hv]
      omega
theorem firstD_lt (vs : List Int) : firstD vs < (vs.length : Int) ∧ -1 ≤ firstD vs := by
  unfold firstD
  split
  · omega
  · omega
theorem Cnt0.zero (vs : List Int) : Cnt0 vs 0 0 (-1) := ⟨fun j _ h => absurd h (Nat.not_lt_zero j), by simp, by omega, by omega, by rw [List.take_zero]; rfl, by omega⟩
theorem Cnt0.step {vs : List Int} {k : Nat} {tot fst : Int} (h : Cnt0 vs k tot fst) (hk : k < vs.length) (h0 : 0 ≤ vs[k]) (h9 : vs[k] ≤ 9) : Cnt0 vs (k + 1) (tot + vs[k]) (if fst < 0 ∧ 0 < vs[k] then (k : Int) else fst) := by
  have hlo := h.lo
  have hhi := h.hi
  refine ⟨fun j hj hjk => ?_, ?_, by omega, by omega, ?_, ?_⟩
  · rcases Nat.lt_succ_iff_lt_or_eq.1 hjk with h1 | rfl
    · exact h.ok j hj h1
    · exact ⟨h0, h9⟩
  · rw [List.take_succ_eq_append_getElem hk, List.sum_append, h.et]
    simp
  · rw [List.take_succ_eq_append_getElem hk, firstD_snoc, ← h.ef, List.length_take, Nat.min_eq_left (by omega)]
  · have := h.fhi
    split <;> omega
theorem ballotB_bad {vs : List Int} {k : Nat} (hk : k < vs.length) (h : vs[k] < 0 ∨ 9 < vs[k]) : ballotB vs = false := by
  unfold ballotB
  have : vs.all (fun v => decide (0 ≤ v) && decide (v ≤ 9)) = false := by
    rw [List.all_eq_false]
    refine ⟨vs[k], List.getElem_mem hk, ?_⟩
    simp
    omega
  rw [this]
  simp
theorem ballotB_end {vs : List Int} {tot fst : Int} (h : Cnt0 vs vs.length tot fst) (h1 : 1 ≤ vs.length) (h2 : vs.length ≤ 16) : ballotB vs = decide (tot ≠ 0) ∧ tot = vs.sum ∧ fst = firstD vs := by
  have e1 := h.et
  have e2 := h.ef
  rw [List.take_length] at e1 e2
  refine ⟨?_, e1, e2⟩
  unfold ballotB
  have : vs.all (fun v => decide (0 ≤ v) && decide (v ≤ 9)) = true := by
    rw [List.all_eq_true]
    intro x hx
    obtain ⟨i, hi, rfl⟩ := List.mem_iff_getElem.1 hx
    have := h.ok i hi hi
    simp
    omega
  rw [this, ← e1, decide_eq_true h1, decide_eq_true h2]
  simp
/-- What the ballot is. -/
structure BalIs (w : World) (B b : Nat) (vs : List Int) : Prop where
  ok : ballotB vs = true
  lo : B ≤ b
  blk : ∃ v, Blk w b 164 #[v, .int .i64 vs.sum, .int .i64 (firstD vs)] ∧ w.ownsRow B 3 1 v vs.length (ics vs)
structure CntW (w wr : World) (b : Nat) (v : Value) (vs : List Int) (k : Nat) (tot fst : Int) : Prop where
  blk : Blk wr b 164 #[v, .int .i64 tot, .int .i64 fst]
  row : wr.ownsRow w.heap.size 3 1 v vs.length (ics vs)
  c : Cnt0 vs k tot fst
  fresh : Fresh w wr
theorem CntW.set {w wr : World} {b : Nat} {v : Value} {vs : List Int} {k : Nat} {tot fst : Int} (h : CntW w wr b v vs k tot fst) (hb : w.heap.size ≤ b) {wz : World} (hk : Keep (fun j => j ≠ b) wr wz) {k' : Nat} {tot' fst' : Int} (hbl : Blk wz b 164 #[v, .int .i64 tot', .int .i64 fst']) (hc : Cnt0 vs k' tot' fst') : CntW w wz b v vs k' tot' fst' :=
  ⟨hbl, own_keep h.row hk (fun j hj e => own_ne_blk h.row h.blk (by decide) (e ▸ hj)), hc, h.fresh.comp hk (fun _ _ h => h) (fun j hj _ e => by omega)⟩
set_option maxRecDepth 20000 in
set_option maxHeartbeats 400000 in
theorem ballot_any (Z : Nat → Prop) (A : Option Addr) (n c : Nat) (vs : List Int) (w : World) (h : Rd w Z 1 A n (ics vs)) (hl : vs.length = n) (hn : n ≤ 1048576) :
    Calls Tryz.prog 55 #[.slice A n c] w fun e w' => ((ballotB vs = false ∧ e = .returned (.tuple #[.pointer none, .int .i64 110])) ∨ ∃ b, e = .returned (.tuple #[.pointer (some ⟨b, 0, none⟩), .int .i64 0]) ∧ BalIs w' w.heap.size b vs) ∧ Fresh w w' := by
  have H := Lib.hid (And.intro h hl)
  obtain ⟨cb, hcb⟩ : ∃ cb, cb = ballotB vs := ⟨_, rfl⟩
  have HCB := Lib.hid hcb
  clear h hcb
  go_enter Tryz.func55, Tryz.ntmps55
  by_cases hn1 : n < 1
  · obtain rfl : n = 0 := by omega
    go_wp2_with fail
    go_ret2
    refine ⟨.inl ⟨?_, rfl⟩, Keep.refl _ _⟩
    have := H.out.2
    unfold ballotB
    rw [decide_eq_false (by omega)]
    rfl
  by_cases hn2 : 16 < n
  · have d1 : decide ((n : Int) < 1) = false := decide_eq_false (by omega)
    have d2 : decide ((16 : Int) < (n : Int)) = true := decide_eq_true (by omega)
    go_wp2_with fail
    go_ret2
    refine ⟨.inl ⟨?_, rfl⟩, Keep.refl _ _⟩
    have := H.out.2
    unfold ballotB
    rw [decide_eq_false (by omega : ¬ vs.length ≤ 16)]
    simp
  have d1 : decide ((n : Int) < 1) = false := decide_eq_false (by omega)
  have d2 : decide ((16 : Int) < (n : Int)) = false := decide_eq_false (by omega)
  go_wp2_with (at_builtin; refine wpList_app etInt rfl _ _ rfl w.heap.size _ 0 [] rfl (World.ownsRow_nil _ _ _ _) Z A n c _ rfl H.out.1 (fun h => by omega) (ics_one _) (by omega) (Nat.le_refl _) ?_)
  intro v1 w1 ho1 hk1 hn1'
  have hf1 : Fresh w w1 := hk1.weaken fun _ _ _ => by simp [Value.ownBlock]
  try simp only [Nat.zero_add, List.nil_append] at ho1
  obtain ⟨A1, c1, rfl, -, -⟩ := own_rd ho1
  have h1 : CntW w (w1.alloc (.cells #[.slice A1 n c1, .int .i64 0, .int .i64 (-1)] 164)) w1.heap.size (.slice A1 n c1) vs 0 0 (-1) :=
    ⟨Blk.new _ _ _, by rw [H.out.2]; exact own_keep ho1 ((Keep.refl (fun _ => True) w1).alloc _) (fun _ _ => trivial), Cnt0.zero vs, hf1.alloc _⟩
  have H1 := Lib.hid h1
  have hsz := hf1.size
  have HB := Lib.hid hsz
  clear ho1 hk1 hn1' hf1 h1 hsz
  go_wp2_with fail
  go_loopw [21] (fun iv wr => ∃ (k : Nat) (tot fst : Int), k ≤ n ∧ iv = .int .i64 (k : Int) ∧ Hid (CntW w wr w1.heap.size (.slice A1 n c1) vs k tot fst)) (fun i _ => n - (intOf i).toNat)
  case atStart => exact ⟨0, 0, -1, Nat.zero_le _, rfl, H1⟩
  case round =>
    rename World => wr
    obtain ⟨k, tot, fst, hk, rfl, HW⟩ := hrel
    have b1 := HW.out.blk.cell 1; have b2 := HW.out.blk.cell 2; have f1 := HW.out.blk.frozen 1; have f2 := HW.out.blk.frozen 2; have lb := HW.out.blk.lt
    simp at b1 b2
    by_cases hlt : k < n
    · obtain ⟨g, o, rfl, hz, hkl, c0⟩ := Rd.at1 (H.out.1.keep (HW.out.fresh.weaken fun _ _ _ => trivial)) hlt
      have hkv : k < vs.length := by rw [H.out.2]; exact hlt
      obtain ⟨x, hx⟩ : ∃ x, x = vs[k] := ⟨_, rfl⟩
      replace c0 : wr.cell? ⟨g, o + k, none⟩ = some (.int .i64 x) := by rw [c0, hx]; simp [ics]
      have HX := Lib.hid (show ∃ hl : k < vs.length, x = vs[k] from ⟨hkv, hx⟩)
      clear hx hkl
      by_cases x0 : x < 0
      · go_wp2_with fail
        go_ret2
        obtain ⟨hl, hx⟩ := HX.out
        exact ⟨.inl ⟨ballotB_bad hl (.inl (hx ▸ x0)), rfl⟩, HW.out.fresh⟩
      by_cases x9 : 9 < x
      · have e1 : decide (x < 0) = false := decide_eq_false x0
        go_wp2_with fail
        go_ret2
        obtain ⟨hl, hx⟩ := HX.out
        exact ⟨.inl ⟨ballotB_bad hl (.inr (hx ▸ x9)), rfl⟩, HW.out.fresh⟩
      have e1 : decide (x < 0) = false := decide_eq_false x0
      have e2 : decide (9 < x) = false := decide_eq_false x9
      have HS : Hid (Cnt0 vs (k + 1) (tot + x) (if fst < 0 ∧ 0 < x then (k : Int) else fst)) := Lib.hid (by
        obtain ⟨hl, hx⟩ := HX.out
        rw [hx] at x0 x9 ⊢
        exact HW.out.c.step hl (by omega) (by omega))
      have ht0 := HW.out.c.lo
      have ht9 := HW.out.c.hi
      by_cases xp : 0 < x
      · have e3 : decide (0 < x) = true := decide_eq_true xp
        by_cases xf : fst < 0
        · have e4 : decide (fst < 0) = true := decide_eq_true xf
          rw [if_pos ⟨xf, xp⟩] at HS
          go_wp2_with fail
          refine ⟨⟨k + 1, _, _, by omega, by simp, Lib.hid (HW.out.set HB.out (wz := (wr.setCell ⟨w1.heap.size, 2, none⟩ (.int .i64 (k : Int))).setCell ⟨w1.heap.size, 1, none⟩ (.int .i64 (tot + x))) (((Keep.refl _ wr).setCell (fun _ h => h rfl) _).setCell (fun _ h => h rfl) _) ((HW.out.blk.set 2 _).set 1 _) HS.out)⟩, by simp [intOf]; omega⟩
        · have e4 : decide (fst < 0) = false := decide_eq_false xf
          rw [if_neg (fun h => xf h.1)] at HS
          go_wp2_with fail
          refine ⟨⟨k + 1, _, _, by omega, by simp, Lib.hid (HW.out.set HB.out (wz := wr.setCell ⟨w1.heap.size, 1, none⟩ (.int .i64 (tot + x))) ((Keep.refl _ wr).setCell (fun _ h => h rfl) _) (HW.out.blk.set 1 _) HS.out)⟩, by simp [intOf]; omega⟩
      · have e3 : decide (0 < x) = false := decide_eq_false xp
        rw [if_neg (fun h => xp h.2)] at HS
        go_wp2_with fail
        refine ⟨⟨k + 1, _, _, by omega, by simp, Lib.hid (HW.out.set HB.out (wz := wr.setCell ⟨w1.heap.size, 1, none⟩ (.int .i64 (tot + x))) ((Keep.refl _ wr).setCell (fun _ h => h rfl) _) (HW.out.blk.set 1 _) HS.out)⟩, by simp [intOf]; omega⟩
    · obtain rfl : k = n := by omega
      have HE := Lib.hid (ballotB_end (by rw [H.out.2]; exact HW.out.c) (by rw [H.out.2]; omega) (by rw [H.out.2]; omega))
      by_cases ht : tot = 0
      · subst ht
        go_wp2_with fail
        go_ret2
        refine ⟨.inl ⟨?_, rfl⟩, HW.out.fresh⟩
        rw [HE.out.1]
        rfl
      · have e5 : (tot == 0) = false := by simpa using ht
        go_wp2_with fail
        go_ret2
        refine ⟨.inr ⟨_, rfl, ⟨by rw [HE.out.1]; simpa using ht, HB.out, _, ?_, HW.out.row⟩⟩, HW.out.fresh⟩
        rw [← HE.out.2.1, ← HE.out.2.2]
        exact HW.out.blk
set_option maxRecDepth 20000 in
set_option maxHeartbeats 400000 in
theorem qcheck_any (Z : Nat → Prop) (A : Option Addr) (n c : Nat) (vs : List Int) (w : World) (h : Rd w Z 1 A n (ics vs)) (hl : vs.length = n) (hn : n ≤ 1048576) :
    Calls Tryz.prog 27 #[.slice A n c] w fun e w' => e = .returned (.int .i64 (if ballotB vs = true then 0 else 110)) ∧ Fresh w w' := by
  have HC := Lib.hid (ballot_any Z A n c vs w h hl hn)
  obtain ⟨cb, hcb⟩ : ∃ cb, cb = ballotB vs := ⟨_, rfl⟩
  rw [← hcb] at HC ⊢
  have HCB := Lib.hid hcb
  clear h hcb
  go_enter Tryz.func27, Tryz.ntmps27
  go_wp2_with fail
  refine Calls.mono HC.out ?_
  rintro e w1 ⟨hr, hf⟩
  rcases hr with ⟨rfl, rfl⟩ | ⟨b, rfl, hb⟩
  · go_wp2_with fail
    go_ret
    exact ⟨rfl, hf⟩
  · have := hb.ok
    rw [← HCB.out] at this
    subst this
    clear hb
    go_wp2_with fail
    go_ret
    exact ⟨rfl, hf⟩

/-! ### bits -/
theorem or_lt16 {a b : Nat} (ha : a < 65536) (hb : b < 65536) : a ||| b < 65536 := Nat.or_lt_two_pow (n := 16) ha hb
theorem shl_lt16 {p : Nat} (h : p < 16) : 1 <<< p < 65536 := by
  rw [Nat.one_shiftLeft]
  exact Nat.pow_lt_pow_right (by decide) h
theorem or_u64 {a b : Nat} (ha : a < 65536) (hb : b < 65536) : bits .or .u64 (a : Int) (b : Int) = ((a ||| b : Nat) : Int) := u64_or_nat a b (by omega) (by omega)
theorem shl_u64 {p : Nat} (h : p < 16) : IntKind.u64.wrap (2 ^ p) = ((1 <<< p : Nat) : Int) := by
  have : ∀ p : Fin 16, IntKind.u64.wrap (2 ^ p.val) = ((1 <<< p.val : Nat) : Int) := by decide
  exact this ⟨p, h⟩
/-- The pack's loop. -/
structure PackW (n : Nat) (ps : List Int) (k : Nat) (last : Int) (s : Nat) : Prop where
  eq : packD n (-1) 0 ps = packD n last s (ps.drop k)
  lo : -1 ≤ last
  lt : s < 65536
theorem PackW.step {n : Nat} {ps : List Int} {k : Nat} {last : Int} {s : Nat} (h : PackW n ps k last s) (hn : n ≤ 16) (hk : k < ps.length) (h1 : last < ps[k]) (h2 : ps[k] < (n : Int)) : PackW n ps (k + 1) ps[k] (s ||| (1 <<< (ps[k]).toNat)) := by
  have hlo := h.lo
  refine ⟨?_, by omega, or_lt16 h.lt (shl_lt16 (by omega))⟩
  rw [h.eq, List.drop_eq_getElem_cons hk]
  conv => lhs; unfold packD
  exact if_neg (by omega)
theorem PackW.stop {n : Nat} {ps : List Int} {k : Nat} {last : Int} {s : Nat} (h : PackW n ps k last s) (hk : k < ps.length) (h1 : ps[k] ≤ last ∨ (n : Int) ≤ ps[k]) : packD n (-1) 0 ps = none := by
  rw [h.eq, List.drop_eq_getElem_cons hk]
  unfold packD
  exact if_pos h1
theorem PackW.last {n : Nat} {ps : List Int} {k : Nat} {last : Int} {s : Nat} (h : PackW n ps k last s) (hk : ps.length ≤ k) : packD n (-1) 0 ps = some s := by
  rw [h.eq, List.drop_eq_nil_of_le hk]
  rfl
def packR (o : Option Nat) : Value := match o with
  | none => .tuple #[.int .u64 0, .bool false]
  | some s => .tuple #[.int .u64 (s : Int), .bool true]
set_option maxRecDepth 20000 in
set_option maxHeartbeats 400000 in
theorem pack_any (Z : Nat → Prop) (A : Option Addr) (n c m : Nat) (ps : List Int) (w : World) (h : Rd w Z 1 A n (ics ps)) (hl : ps.length = n) (hn : n ≤ 1048576) (hm : m ≤ 16) :
    Calls Tryz.prog 90 #[.slice A n c, .int .i64 (m : Int)] w fun e w' => e = .returned (packR (packD m (-1) 0 ps)) ∧ w = w' := by
  have H := Lib.hid (And.intro h hl)
  obtain ⟨R, hR⟩ : ∃ R, R = packD m (-1) 0 ps := ⟨_, rfl⟩
  rw [← hR]
  have HR := Lib.hid hR
  clear h hR
  go_enter Tryz.func90, Tryz.ntmps90
  go_wp2
  go_loopw [6, 7, 12] (fun sv lv iv wr => ∃ (k s : Nat) (last : Int), k ≤ n ∧ sv = .int .u64 (s : Int) ∧ lv = .int .i64 last ∧ iv = .int .i64 (k : Int) ∧ wr = w ∧ Hid (PackW m ps k last s)) (fun _ _ i _ => n - (intOf i).toNat)
  case atStart => exact ⟨0, 0, -1, Nat.zero_le _, rfl, rfl, rfl, rfl, Lib.hid ⟨rfl, by omega, by omega⟩⟩
  case round =>
    obtain ⟨k, s, last, hk, rfl, rfl, rfl, rfl, HW⟩ := hrel
    by_cases hlt : k < n
    · obtain ⟨g, o, rfl, hz, hkl, c0⟩ := Rd.at1 H.out.1 hlt
      have hkv : k < ps.length := by rw [H.out.2]; exact hlt
      obtain ⟨x, hx⟩ : ∃ x, x = ps[k] := ⟨_, rfl⟩
      replace c0 : wr.cell? ⟨g, o + k, none⟩ = some (.int .i64 x) := by rw [c0, hx]; simp [ics]
      have HX := Lib.hid (show ∃ hl : k < ps.length, x = ps[k] from ⟨hkv, hx⟩)
      clear hx hkl
      by_cases x0 : x ≤ last
      · have e1 : decide (x ≤ last) = true := decide_eq_true x0
        obtain rfl : R = none := by
          obtain ⟨hl, hx⟩ := HX.out
          rw [HR.out]; exact HW.out.stop hl (.inl (hx ▸ x0))
        go_wp2_with fail
        go_ret2
        exact ⟨rfl, rfl⟩
      by_cases x9 : (m : Int) ≤ x
      · have e1 : decide (x ≤ last) = false := decide_eq_false x0
        have e2 : decide ((m : Int) ≤ x) = true := decide_eq_true x9
        obtain rfl : R = none := by
          obtain ⟨hl, hx⟩ := HX.out
          rw [HR.out]; exact HW.out.stop hl (.inr (hx ▸ x9))
        go_wp2_with fail
        go_ret2
        exact ⟨rfl, rfl⟩
      have e1 : decide (x ≤ last) = false := decide_eq_false x0
      have e2 : decide ((m : Int) ≤ x) = false := decide_eq_false x9
      have HS : Hid (PackW m ps (k + 1) x (s ||| (1 <<< x.toNat))) := Lib.hid (by
        obtain ⟨hl, hx⟩ := HX.out
        rw [hx] at x0 x9 ⊢
        exact HW.out.step hm hl (by omega) (by omega))
      have hlo := HW.out.lo
      obtain ⟨p, rfl⟩ : ∃ p : Nat, x = (p : Int) := ⟨x.toNat, by omega⟩
      have hp16 : p < 16 := by omega
      have hs := HW.out.lt
      have hsh := shl_lt16 hp16
      have hor := or_u64 hs hsh
      go_wp2_with fail
      exact ⟨⟨k + 1, s ||| 1 <<< p, p, by omega, by rw [shl_u64 hp16, hor], rfl, by simp, trivial, by simpa using HS⟩, by simp [intOf]; omega⟩
    · obtain rfl : k = n := by omega
      obtain rfl : R = some s := by
        rw [HR.out]; exact HW.out.last (by rw [H.out.2]; exact Nat.le_refl _)
      go_wp2_with fail
      go_ret2
      exact ⟨rfl, rfl⟩
/-! ### weigh -/
theorem bit_u64 {s k : Nat} (h : s < 65536) : (bits BinOp.and IntKind.u64 ((s : Int) / 2 ^ k) 1 == 1) = s.testBit k := by
  have e : ((s : Int) / 2 ^ k) = ((s / 2 ^ k : Nat) : Int) := by simp
  have hl : s / 2 ^ k ≤ s := Nat.div_le_self _ _
  rw [e, show (1 : Int) = ((1 : Nat) : Int) from rfl, u64_and_nat _ 1 (by omega) (by omega), Nat.and_one_is_mod, Nat.testBit_eq_decide_div_mod_eq]
  by_cases h1 : s / 2 ^ k % 2 = 1
  · rw [h1]; simp
  · rw [decide_eq_false h1]
    simp
    omega
theorem weighD_get (set : Nat) : ∀ (vs : List Int) (p k : Nat) (h : k < vs.length), weighD set (p + k) (vs.drop k) = (if set.testBit (p + k) then vs[k] else 0) + weighD set (p + (k + 1)) (vs.drop (k + 1)) := fun vs p k h => by
  rw [List.drop_eq_getElem_cons h]
  rfl
structure WeighW (set : Nat) (vs : List Int) (k : Nat) (wt : Int) : Prop where
  eq : weighD set 0 vs = wt + weighD set k (vs.drop k)
  lo : 0 ≤ wt
  hi : wt ≤ 9 * (k : Int)
theorem WeighW.step {set : Nat} {vs : List Int} {k : Nat} {wt : Int} (h : WeighW set vs k wt) (hk : k < vs.length) (h0 : 0 ≤ vs[k]) (h9 : vs[k] ≤ 9) : WeighW set vs (k + 1) (if set.testBit k = true then wt + vs[k] else wt) := by
  have e := weighD_get set vs 0 k hk
  rw [Nat.zero_add] at e
  have h1 := h.lo
  have h2 := h.hi
  refine ⟨?_, by split <;> omega, by split <;> omega⟩
  rw [h.eq, e]
  simp only [Nat.zero_add]
  split <;> omega
theorem WeighW.last {set : Nat} {vs : List Int} {wt : Int} (h : WeighW set vs vs.length wt) : weighD set 0 vs = wt := by
  rw [h.eq, List.drop_length]
  simp [weighD]
theorem ballotB_all {vs : List Int} (h : ballotB vs = true) : 1 ≤ vs.length ∧ vs.length ≤ 16 ∧ ∀ (j : Nat) (hj : j < vs.length), 0 ≤ vs[j] ∧ vs[j] ≤ 9 := by
  unfold ballotB at h
  simp only [Bool.and_eq_true, decide_eq_true_eq] at h
  refine ⟨h.1.1.1, h.1.1.2, fun j hj => ?_⟩
  have := List.all_eq_true.1 h.1.2 vs[j] (List.getElem_mem hj)
  simpa using this
def verdI (tot wt : Int) : Int := if tot < 2 * wt then 2 else if 2 * wt = tot then 1 else 0
set_option maxRecDepth 20000 in
set_option maxHeartbeats 400000 in
theorem weigh_any (B b : Nat) (vs : List Int) (set : Nat) (w : World) (h : BalIs w B b vs) (hs : set < 65536) :
    Calls Tryz.prog 107 #[.pointer (some ⟨b, 0, none⟩), .int .u64 (set : Int)] w fun e w' => e = .returned (.int .i64 (verdI vs.sum (weighD set 0 vs))) ∧ w = w' := by
  obtain ⟨v, hb, hr⟩ := h.blk
  obtain ⟨v1, v2, v3⟩ := ballotB_all h.ok
  obtain ⟨A, c, rfl, hrd, -⟩ := own_rd hr
  obtain ⟨n, hn⟩ : ∃ n, n = vs.length := ⟨_, rfl⟩
  obtain ⟨tot, ht⟩ : ∃ t, t = vs.sum := ⟨_, rfl⟩
  obtain ⟨W, hW⟩ : ∃ W, W = weighD set 0 vs := ⟨_, rfl⟩
  rw [← hW, ← ht]
  rw [← hn] at hrd hb v1 v2
  rw [← ht] at hb
  have H := Lib.hid (And.intro hrd (And.intro hn (And.intro hW v3)))
  have b0 := hb.cell 0; have b1 := hb.cell 1; have lb := hb.lt
  simp at b0 b1
  clear hb hr hrd v3 h hn ht hW
  go_enter Tryz.func107, Tryz.ntmps107
  go_wp2
  go_loopw [5, 14] (fun xv iv wr => ∃ (k : Nat) (wt : Int), k ≤ n ∧ xv = .int .i64 wt ∧ iv = .int .i64 (k : Int) ∧ wr = w ∧ Hid (WeighW set vs k wt)) (fun _ i _ => n - (intOf i).toNat)
  case atStart => exact ⟨0, 0, Nat.zero_le _, rfl, rfl, rfl, Lib.hid ⟨by simp, by omega, by omega⟩⟩
  case round =>
    obtain ⟨k, wt, hk, rfl, rfl, rfl, HW⟩ := hrel
    by_cases hlt : k < n
    · obtain ⟨g, o, rfl, hz, hkl, c0⟩ := Rd.at1 H.out.1 hlt
      have hkv : k < vs.length := by rw [← H.out.2.1]; exact hlt
      obtain ⟨x, hx⟩ : ∃ x, x = vs[k] := ⟨_, rfl⟩
      replace c0 : wr.cell? ⟨g, o + k, none⟩ = some (.int .i64 x) := by rw [c0, hx]; simp [ics]
      have hx0 := (H.out.2.2.2 k hkv).1
      have hx9 := (H.out.2.2.2 k hkv).2
      have hS := HW.out.step hkv hx0 hx9
      rw [← hx] at hx0 hx9 hS
      obtain ⟨tb, htb⟩ : ∃ tb, tb = set.testBit k := ⟨_, rfl⟩
      rw [← htb] at hS
      have HS := Lib.hid (And.intro hS htb)
      have ht0 := HW.out.lo
      have ht9 := HW.out.hi
      have hbit := bit_u64 (k := k) hs
      rw [← HS.out.2] at hbit
      clear hx hkl hS htb
      cases tb
      · go_wp2_with fail
        exact ⟨⟨k + 1, wt, by omega, rfl, by simp, trivial, Lib.hid (by simpa using HS.out.1)⟩, by simp [intOf]; omega⟩
      · go_wp2_with fail
        exact ⟨⟨k + 1, wt + x, by omega, rfl, by simp, trivial, Lib.hid (by simpa using HS.out.1)⟩, by simp [intOf]; omega⟩
    · obtain rfl : k = n := by omega
      have hWe : W = wt := by
        have h1 := HW.out
        rw [H.out.2.1] at h1
        rw [H.out.2.2.1]
        exact h1.last
      have ht0 := HW.out.lo
      have ht9 := HW.out.hi
      subst hWe
      by_cases h1 : tot < 2 * W
      · have e1 : decide (tot < 2 * W) = true := decide_eq_true h1
        have ev : verdI tot W = 2 := by unfold verdI; rw [if_pos h1]
        go_wp2_with fail
        go_ret
        exact ⟨by rw [ev]; rfl, rfl⟩
      · have e1 : decide (tot < 2 * W) = false := decide_eq_false h1
        by_cases h2 : 2 * W = tot
        · have e2 : (2 * W == tot) = true := by simpa using h2
          have ev : verdI tot W = 1 := by unfold verdI; rw [if_neg h1, if_pos h2]
          go_wp2_with fail
          go_ret
          exact ⟨rfl, rfl⟩
        · have e2 : (2 * W == tot) = false := by simpa using h2
          have ev : verdI tot W = 0 := by unfold verdI; rw [if_neg h1, if_neg h2]
          go_wp2_with fail
          go_ret
          exact ⟨rfl, rfl⟩
theorem sum_zero : ∀ vs : List Int, (∀ x ∈ vs, x = 0) → vs.sum = 0
  | [], _ => rfl
  | x :: r, h => by
    rw [List.sum_cons, h x (by simp), sum_zero r (fun y hy => h y (by simp [hy]))]
    rfl
theorem first_ok {vs : List Int} (h : ballotB vs = true) : ∃ p : Nat, firstD vs = (p : Int) ∧ p < 16 := by
  obtain ⟨v1, v2, v3⟩ := ballotB_all h
  have hl := firstD_lt vs
  rcases Int.lt_or_le (firstD vs) 0 with h1 | h1
  · exfalso
    have hs : vs.sum = 0 := sum_zero vs fun x hx => by
      obtain ⟨i, hi, rfl⟩ := List.mem_iff_getElem.1 hx
      have h2 := v3 i hi
      rcases Int.lt_or_le 0 vs[i] with h3 | h3
      · exfalso
        unfold firstD at h1
        have h4 : vs.findIdx (fun v => decide (0 < v)) < vs.length := List.findIdx_lt_length.2 ⟨vs[i], List.getElem_mem hi, by simpa using h3⟩
        rw [if_pos h4] at h1
        omega
      · omega
    unfold ballotB at h
    rw [hs] at h
    simp at h
  · exact ⟨(firstD vs).toNat, by omega, by omega⟩
set_option maxRecDepth 20000 in
set_option maxHeartbeats 400000 in
theorem setq_any (B b : Nat) (vs : List Int) (set : Nat) (w : World) (h : BalIs w B b vs) (hs : set < 65536) :
    Calls Tryz.prog 91 #[.pointer (some ⟨b, 0, none⟩), .int .u64 (set : Int)] w fun e w' => e = .returned (.bool (setB vs set)) ∧ w = w' := by
  have HW := Lib.hid (weigh_any B b vs set w h hs)
  obtain ⟨v, hb, -⟩ := h.blk
  obtain ⟨p, hp, hp16⟩ := first_ok h.ok
  have b2 := hb.cell 2; have lb := hb.lt
  simp at b2
  rw [hp] at b2
  obtain ⟨W, hW⟩ : ∃ W, W = weighD set 0 vs := ⟨_, rfl⟩
  obtain ⟨tot, ht⟩ : ∃ t, t = vs.sum := ⟨_, rfl⟩
  obtain ⟨tb, htb⟩ : ∃ tb, tb = set.testBit p := ⟨_, rfl⟩
  obtain ⟨R, hRR⟩ : ∃ R, R = setB vs set := ⟨_, rfl⟩
  have hR : R = if tot < 2 * W then true else if 2 * W = tot then tb else false := by
    rw [hRR]
    unfold setB
    rw [← hW, ← ht, hp, htb]
    rfl
  rw [← hW, ← ht] at HW
  rw [← hRR]
  have HR := Lib.hid hR
  have hbit := bit_u64 (k := p) hs
  rw [← htb] at hbit
  clear hb h hp htb hW ht hR hRR
  go_enter Tryz.func91, Tryz.ntmps91
  go_wp2_with fail
  refine Calls.mono HW.out ?_
  rintro e _ ⟨rfl, rfl⟩
  by_cases h1 : tot < 2 * W
  · have e1 : verdI tot W = 2 := by unfold verdI; rw [if_pos h1]
    obtain rfl : R = true := by rw [HR.out, if_pos h1]
    rw [e1]
    clear HW
    go_wp2_with fail
    go_ret
    exact ⟨rfl, rfl⟩
  · by_cases h2 : 2 * W = tot
    · have e1 : verdI tot W = 1 := by unfold verdI; rw [if_neg h1, if_pos h2]
      obtain rfl : R = tb := by rw [HR.out, if_neg h1, if_pos h2]
      rw [e1]
      clear HW
      go_wp2_with fail
      go_ret
      exact ⟨rfl, rfl⟩
    · have e1 : verdI tot W = 0 := by unfold verdI; rw [if_neg h1, if_neg h2]
      obtain rfl : R = false := by rw [HR.out, if_neg h1, if_neg h2]
      rw [e1]
      clear HW
      go_wp2_with fail
      go_ret
      exact ⟨rfl, rfl⟩
def quorV (vs : List Int) (o : Option Nat) : Value := match o with
  | none => .tuple #[.bool false, .int .i64 1]
  | some set => .tuple #[.bool (setB vs set), .int .i64 0]
def quorE (vs ps : List Int) : Value := quorV vs (packD vs.length (-1) 0 ps)
theorem pack_lt {n : Nat} (hn : n ≤ 16) : ∀ (ps : List Int) (last : Int) (s t : Nat), -1 ≤ last → s < 65536 → packD n last s ps = some t → t < 65536
  | [], last, s, t, _, hs, h => by
    unfold packD at h
    exact Option.some.inj h ▸ hs
  | p :: r, last, s, t, hl, hs, h => by
    unfold packD at h
    split at h
    · cases h
    · exact pack_lt hn r p _ t (by omega) (or_lt16 hs (shl_lt16 (by omega))) h
set_option maxRecDepth 20000 in
set_option maxHeartbeats 400000 in
/-- quorum.Quorate, of votes that are right. -/
theorem quorate_any (Z : Nat → Prop) (A : Option Addr) (n c : Nat) (vs : List Int) (A2 : Option Addr) (n2 c2 : Nat) (ps : List Int) (w : World) (h : Rd w Z 1 A n (ics vs)) (hl : vs.length = n) (hn : n ≤ 1048576) (hv : ballotB vs = true)
    (h2 : Rd w Z 1 A2 n2 (ics ps)) (hl2 : ps.length = n2) (hn2 : n2 ≤ 1048576) :
    Calls Tryz.prog 56 #[.slice A n c, .slice A2 n2 c2] w fun e w' => e = .returned (quorE vs ps) ∧ Fresh w w' := by
  have HC := Lib.hid (ballot_any Z A n c vs w h hl hn)
  have v2 := (ballotB_all hv).2.1
  rw [hl] at v2
  have HP := Lib.hid (fun w' (hf : Fresh w w') => pack_any Z A2 n2 c2 n ps w' (h2.keep (hf.weaken fun _ _ _ => trivial)) hl2 hn2 v2)
  have HQ := Lib.hid (fun (w' : World) (b set : Nat) (hb : BalIs w' w.heap.size b vs) (hs : set < 65536) => setq_any w.heap.size b vs set w' hb hs)
  obtain ⟨R, hR⟩ : ∃ R, R = packD n (-1) 0 ps := ⟨_, rfl⟩
  have hE : quorE vs ps = quorV vs R := by unfold quorE; rw [hl, hR]
  rw [← hR] at HP
  rw [hE]
  have HR : Hid (∀ set, R = some set → set < 65536) := Lib.hid fun set e => pack_lt v2 ps (-1) 0 set (by omega) (by omega) (by rw [← hR, e])
  have HV := Lib.hid hv
  clear h h2 hR hE hv
  go_enter Tryz.func56, Tryz.ntmps56
  go_wp2_with fail
  refine Calls.mono HC.out ?_
  rintro e w1 ⟨hr, hf⟩
  rcases hr with ⟨hbad, rfl⟩ | ⟨b, rfl, hb⟩
  · exact absurd HV.out (by rw [hbad]; decide)
  · have HB := Lib.hid (And.intro hb hf)
    clear hb hf HC
    go_wp2_with fail
    refine Calls.mono (HP.out w1 HB.out.2) ?_
    rintro e _ ⟨rfl, rfl⟩
    cases R with
    | none =>
      clear HP HQ
      unfold packR
      go_wp2_with fail
      go_ret2
      exact ⟨rfl, HB.out.2⟩
    | some set =>
      have HS := Lib.hid (HQ.out w1 b set HB.out.1 (HR.out set rfl))
      obtain ⟨q, hq⟩ : ∃ q, q = setB vs set := ⟨_, rfl⟩
      have hqv : quorV vs (some set) = .tuple #[.bool q, .int .i64 0] := by rw [hq]; rfl
      rw [← hq] at HS
      have HQV := Lib.hid hqv
      clear HP HQ hq hqv
      unfold packR
      go_wp2_with fail
      refine Calls.mono HS.out ?_
      rintro e _ ⟨rfl, rfl⟩
      clear HS
      go_wp2_with fail
      go_ret2
      exact ⟨by rw [HQV.out]; rfl, HB.out.2⟩
end Go.Proofs.YtohnmaindbgngaaGreatDoor
