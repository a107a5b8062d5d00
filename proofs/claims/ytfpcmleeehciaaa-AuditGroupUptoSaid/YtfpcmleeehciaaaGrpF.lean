/-
  WALKS OF WHAT audit.Group CALLS WITH A FUNCTION HANDED OVER: every, rising, slices.IndexFunc, ContainsFunc, at members, installs and ints.
-/
import Derived.Test.YtfpcmleeehciaaaMarks
import Derived.Test.YtfpcmleeehciaaaGrpD
import Derived.Shelf.Abstract
namespace Go.Proofs.Ytfpcmleeehciaaa
set_option linter.unusedVariables false
set_option linter.unusedSimpArgs false
open Go.RowKit Go.Shelf

theorem int_info0 : (Try.prog.info? 3).map (fun i => (i.zero, i.size, i.bytes)) = some (some (.int .i64 0), 1, 8) := by kernel_rfl
/-- What is asked of a predicate: in every later world, at each of these, it answers p; it may make memory. -/
def PredF {α : Type} (F : Nat) (cap : Array Value) (enc : α → Value) (p : α → Bool) (xs : List α) (w : World) : Prop :=
  ∀ W x, x ∈ xs → Fresh w W → Calls Try.prog F (#[enc x] ++ cap) W fun e w' => e = .returned (.bool (p x)) ∧ Fresh W w'
def memA (x : MemD) : Value := .agg #[.int .i64 x.p, .int .i64 x.i, .int .i64 x.c]
theorem all_snoc {α : Type} {p : α → Bool} {xs : List α} {k : Nat} (h : ∀ (j : Nat) (hj : j < xs.length), j < k → p xs[j] = true) (hk : k < xs.length) (hp : p xs[k] = true) : ∀ (j : Nat) (hj : j < xs.length), j < k + 1 → p xs[j] = true := by
  intro j hj hk1
  rcases Nat.lt_succ_iff_lt_or_eq.1 hk1 with h1 | h1
  · exact h j hj h1
  · subst h1; exact hp
theorem all_of {α : Type} {p : α → Bool} {xs : List α} (h : ∀ (j : Nat) (hj : j < xs.length), j < xs.length → p xs[j] = true) : xs.all p = true := by
  rw [List.all_eq_true]
  intro x hx
  obtain ⟨i, hi, rfl⟩ := List.mem_iff_getElem.1 hx
  exact h i hi hi
theorem all_not {α : Type} {p : α → Bool} {xs : List α} {k : Nat} (hk : k < xs.length) (h : p xs[k] = false) : xs.all p = false := by
  rw [List.all_eq_false]
  exact ⟨xs[k], List.getElem_mem hk, by rw [h]; decide⟩

/-- An install with the header of its list. -/
structure EntV where
  d : EntD
  A : Option Addr
  c : Nat
def EntV.vals (x : EntV) : Array Value := #[.int .i64 x.d.w.1, .int .i64 x.d.w.2, .int .i64 x.d.frm.1, .int .i64 x.d.frm.2.1, .int .i64 x.d.frm.2.2.1, .int .i64 x.d.frm.2.2.2, .slice x.A x.d.tr.length x.c, .int .i64 (x.d.done : Int)]
def EntV.cells (x : EntV) : List Value := x.vals.toList
theorem ent_eight (x : EntV) : x.cells.length = 8 := rfl
def entA (x : EntV) : Value := .agg #[.int .i64 x.d.w.1, .int .i64 x.d.w.2, .int .i64 x.d.frm.1, .int .i64 x.d.frm.2.1, .int .i64 x.d.frm.2.2.1, .int .i64 x.d.frm.2.2.2, .slice x.A x.d.tr.length x.c, .int .i64 (x.d.done : Int)]
def intA (z : Int) : Value := .int .i64 z
/-- Where a predicate holds first, or -1. -/
def idxZ {α : Type} (p : α → Bool) (xs : List α) : Int := if xs.findIdx p < xs.length then (xs.findIdx p : Int) else -1
theorem idx_hit {α : Type} {p : α → Bool} {xs : List α} {k : Nat} (h : ∀ (j : Nat) (hj : j < xs.length), j < k → p xs[j] = false) (hk : k < xs.length) (hp : p xs[k] = true) : idxZ p xs = (k : Int) := by
  have e : xs.findIdx p = k := (List.findIdx_eq hk).2 ⟨hp, fun j hj => h j (by omega) hj⟩
  unfold idxZ
  rw [e, if_pos hk]
theorem idx_miss {α : Type} {p : α → Bool} {xs : List α} (h : ∀ (j : Nat) (hj : j < xs.length), j < xs.length → p xs[j] = false) : idxZ p xs = -1 := by
  unfold idxZ
  rw [if_neg]
  intro hlt
  have h1 := List.findIdx_getElem (w := hlt)
  rw [h _ hlt hlt] at h1
  cases h1
theorem none_snoc {α : Type} {p : α → Bool} {xs : List α} {k : Nat} (h : ∀ (j : Nat) (hj : j < xs.length), j < k → p xs[j] = false) (hk : k < xs.length) (hp : p xs[k] = false) : ∀ (j : Nat) (hj : j < xs.length), j < k + 1 → p xs[j] = false := by
  intro j hj hk1
  rcases Nat.lt_succ_iff_lt_or_eq.1 hk1 with h1 | h1
  · exact h j hj h1
  · subst h1; exact hp
theorem idx_any {α : Type} (p : α → Bool) (xs : List α) : decide (0 ≤ idxZ p xs) = xs.any p := by
  unfold idxZ
  by_cases h : xs.findIdx p < xs.length
  · rw [if_pos h, decide_eq_true (by omega)]
    exact (List.any_eq_true.2 ⟨_, List.getElem_mem h, List.findIdx_getElem (w := h)⟩).symm
  · rw [if_neg h, decide_eq_false (by omega)]
    rw [List.findIdx_lt_length] at h
    cases ha : xs.any p
    · rfl
    · exact absurd (by simpa using ha) h

set_option maxHeartbeats 400000 in
theorem every_mem {F : Nat} (eg : Enters Try.prog F) {cap : Array Value} (p : MemD → Bool) (Z : Nat → Prop) (A : Option Addr) (n c : Nat) (xs : List MemD) (w : World) (h : Rd w Z 3 A n (rcells MemD.cells xs)) (hl : xs.length = n) (hn : n ≤ 1048576)
    (hp : PredF F cap memA p xs w) :
    Calls Try.prog 51 #[.slice A n c, .func (.func F) #[] cap] w fun e w' => e = .returned (.bool (xs.all p)) ∧ Fresh w w' := by
  have H := Lib.hid (And.intro h (And.intro hp hl))
  have eg' : ∀ args w, (callFunc F args).run Try.prog w = .ok (.enter F args) w := eg
  clear h hp hl
  go_enter Try.func51, Try.ntmps51
  go_wp2
  go_loopw [9] (fun i wr => ∃ k : Nat, k ≤ n ∧ i = .int .i64 (k : Int) ∧ Hid (Fresh w wr ∧ ∀ (j : Nat) (hj : j < xs.length), j < k → p xs[j] = true)) (fun i _ => n - (intOf i).toNat)
  case atStart => exact ⟨0, Nat.zero_le _, rfl, Lib.hid ⟨Keep.refl _ _, fun j _ h => absurd h (Nat.not_lt_zero j)⟩⟩
  case round =>
    rename World => wr
    obtain ⟨k, hk, rfl, HW⟩ := hrel
    by_cases hlt : k < n
    · have hkl : k < xs.length := by rw [H.out.2.2]; exact hlt
      obtain ⟨b, o, rfl, hz, hr⟩ := Rd.range mem_three (H.out.1.keep (HW.out.1.weaken fun _ _ _ => trivial)) hkl hlt
      obtain ⟨x, hx⟩ : ∃ x, x = xs[k] := ⟨_, rfl⟩
      rw [← hx] at hr
      have c0 : wr.cell? ⟨b, o + k * 3, none⟩ = some (.int .i64 x.p) := hr 0 _ rfl
      have c1 : wr.cell? ⟨b, o + k * 3 + 1, none⟩ = some (.int .i64 x.i) := hr 1 _ rfl
      have c2 : wr.cell? ⟨b, o + k * 3 + 2, none⟩ = some (.int .i64 x.c) := hr 2 _ rfl
      have HP := Lib.hid (fun W (hf : Fresh wr W) => H.out.2.1 W x (hx ▸ List.getElem_mem hkl) (HW.out.1.trans hf))
      have HX := Lib.hid (show ∃ hl : k < xs.length, x = xs[k] from ⟨hkl, hx⟩)
      clear hr hx hz hkl
      go_wp2_with fail
      refine Calls.mono (HP.out _ ((Keep.refl _ wr).alloc _)) ?_
      rintro e w1 ⟨rfl, hf1⟩
      have H1 := Lib.hid ((((Keep.refl _ wr).alloc _).trans hf1 : Fresh wr w1))
      obtain ⟨q, hq⟩ : ∃ q, q = p x := ⟨_, rfl⟩
      rw [← hq]
      have HQ := Lib.hid hq
      clear hf1 HP hq c0 c1 c2
      cases q
      · go_wp2_with fail
        go_ret
        obtain ⟨hl, hx⟩ := HX.out
        exact ⟨ret_bool (all_not hl (by rw [← hx]; exact HQ.out.symm)).symm, HW.out.1.trans H1.out⟩
      · go_wp2_with fail
        refine ⟨⟨k + 1, by omega, by simp, Lib.hid ⟨HW.out.1.trans H1.out, ?_⟩⟩, by simp [intOf]; omega⟩
        obtain ⟨hl, hx⟩ := HX.out
        exact all_snoc HW.out.2 hl (by rw [← hx]; exact HQ.out.symm)
    · obtain rfl : k = n := by omega
      go_wp2_with fail
      go_ret
      exact ⟨ret_bool (all_of (fun j hj _ => HW.out.2 j hj (by rw [← H.out.2.2]; exact hj))).symm, HW.out.1⟩
set_option maxHeartbeats 400000 in
theorem every_int {F : Nat} (eg : Enters Try.prog F) {cap : Array Value} (p : Int → Bool) (Z : Nat → Prop) (A : Option Addr) (n c : Nat) (xs : List Int) (w : World) (h : Rd w Z 1 A n (ics xs)) (hl : xs.length = n) (hn : n ≤ 1048576)
    (hp : PredF F cap intA p xs w) :
    Calls Try.prog 82 #[.slice A n c, .func (.func F) #[] cap] w fun e w' => e = .returned (.bool (xs.all p)) ∧ Fresh w w' := by
  have H := Lib.hid (And.intro h (And.intro hp hl))
  have eg' : ∀ args w, (callFunc F args).run Try.prog w = .ok (.enter F args) w := eg
  clear h hp hl
  go_enter Try.func82, Try.ntmps82
  go_wp2
  go_loopw [9] (fun i wr => ∃ k : Nat, k ≤ n ∧ i = .int .i64 (k : Int) ∧ Hid (Fresh w wr ∧ ∀ (j : Nat) (hj : j < xs.length), j < k → p xs[j] = true)) (fun i _ => n - (intOf i).toNat)
  case atStart => exact ⟨0, Nat.zero_le _, rfl, Lib.hid ⟨Keep.refl _ _, fun j _ h => absurd h (Nat.not_lt_zero j)⟩⟩
  case round =>
    rename World => wr
    obtain ⟨k, hk, rfl, HW⟩ := hrel
    by_cases hlt : k < n
    · have hkl : k < xs.length := by rw [H.out.2.2]; exact hlt
      obtain ⟨b, o, rfl, hz, hkl2, c0⟩ := Rd.at1 (H.out.1.keep (HW.out.1.weaken fun _ _ _ => trivial)) hlt
      obtain ⟨x, hx⟩ : ∃ x, x = xs[k] := ⟨_, rfl⟩
      replace c0 : wr.cell? ⟨b, o + k, none⟩ = some (.int .i64 x) := by rw [c0, hx]; simp [ics]
      have HP := Lib.hid (fun W (hf : Fresh wr W) => H.out.2.1 W x (hx ▸ List.getElem_mem hkl) (HW.out.1.trans hf))
      have HX := Lib.hid (show ∃ hl : k < xs.length, x = xs[k] from ⟨hkl, hx⟩)
      clear hx hz hkl
      go_wp2_with fail
      refine Calls.mono (HP.out _ (Keep.refl _ wr)) ?_
      rintro e w1 ⟨rfl, hf1⟩
      have H1 := Lib.hid (hf1)
      obtain ⟨q, hq⟩ : ∃ q, q = p x := ⟨_, rfl⟩
      rw [← hq]
      have HQ := Lib.hid hq
      clear hf1 HP hq c0 hkl2
      cases q
      · go_wp2_with fail
        go_ret
        obtain ⟨hl, hx⟩ := HX.out
        exact ⟨ret_bool (all_not hl (by rw [← hx]; exact HQ.out.symm)).symm, HW.out.1.trans H1.out⟩
      · go_wp2_with fail
        refine ⟨⟨k + 1, by omega, by simp, Lib.hid ⟨HW.out.1.trans H1.out, ?_⟩⟩, by simp [intOf]; omega⟩
        obtain ⟨hl, hx⟩ := HX.out
        exact all_snoc HW.out.2 hl (by rw [← hx]; exact HQ.out.symm)
    · obtain rfl : k = n := by omega
      go_wp2_with fail
      go_ret
      exact ⟨ret_bool (all_of (fun j hj _ => HW.out.2 j hj (by rw [← H.out.2.2]; exact hj))).symm, HW.out.1⟩
set_option maxHeartbeats 400000 in
theorem every_ent {F : Nat} (eg : Enters Try.prog F) {cap : Array Value} (p : EntV → Bool) (Z : Nat → Prop) (A : Option Addr) (n c : Nat) (xs : List EntV) (w : World) (h : Rd w Z 8 A n (rcells EntV.cells xs)) (hl : xs.length = n) (hn : n ≤ 1048576)
    (hp : PredF F cap entA p xs w) :
    Calls Try.prog 42 #[.slice A n c, .func (.func F) #[] cap] w fun e w' => e = .returned (.bool (xs.all p)) ∧ Fresh w w' := by
  have H := Lib.hid (And.intro h (And.intro hp hl))
  have eg' : ∀ args w, (callFunc F args).run Try.prog w = .ok (.enter F args) w := eg
  clear h hp hl
  go_enter Try.func42, Try.ntmps42
  go_wp2
  go_loopw [9] (fun i wr => ∃ k : Nat, k ≤ n ∧ i = .int .i64 (k : Int) ∧ Hid (Fresh w wr ∧ ∀ (j : Nat) (hj : j < xs.length), j < k → p xs[j] = true)) (fun i _ => n - (intOf i).toNat)
  case atStart => exact ⟨0, Nat.zero_le _, rfl, Lib.hid ⟨Keep.refl _ _, fun j _ h => absurd h (Nat.not_lt_zero j)⟩⟩
  case round =>
    rename World => wr
    obtain ⟨k, hk, rfl, HW⟩ := hrel
    by_cases hlt : k < n
    · have hkl : k < xs.length := by rw [H.out.2.2]; exact hlt
      obtain ⟨b, o, rfl, hz, hr⟩ := Rd.range ent_eight (H.out.1.keep (HW.out.1.weaken fun _ _ _ => trivial)) hkl hlt
      obtain ⟨x, hx⟩ : ∃ x, x = xs[k] := ⟨_, rfl⟩
      rw [← hx] at hr
      have c0 : wr.cell? ⟨b, o + k * 8, none⟩ = some (.int .i64 x.d.w.1) := hr 0 _ rfl
      have c1 : wr.cell? ⟨b, o + k * 8 + 1, none⟩ = some (.int .i64 x.d.w.2) := hr 1 _ rfl
      have c2 : wr.cell? ⟨b, o + k * 8 + 2, none⟩ = some (.int .i64 x.d.frm.1) := hr 2 _ rfl
      have c3 : wr.cell? ⟨b, o + k * 8 + 3, none⟩ = some (.int .i64 x.d.frm.2.1) := hr 3 _ rfl
      have c4 : wr.cell? ⟨b, o + k * 8 + 4, none⟩ = some (.int .i64 x.d.frm.2.2.1) := hr 4 _ rfl
      have c5 : wr.cell? ⟨b, o + k * 8 + 5, none⟩ = some (.int .i64 x.d.frm.2.2.2) := hr 5 _ rfl
      have c6 : wr.cell? ⟨b, o + k * 8 + 6, none⟩ = some (.slice x.A x.d.tr.length x.c) := hr 6 _ rfl
      have c7 : wr.cell? ⟨b, o + k * 8 + 7, none⟩ = some (.int .i64 (x.d.done : Int)) := hr 7 _ rfl
      have HP := Lib.hid (fun W (hf : Fresh wr W) => H.out.2.1 W x (hx ▸ List.getElem_mem hkl) (HW.out.1.trans hf))
      have HX := Lib.hid (show ∃ hl : k < xs.length, x = xs[k] from ⟨hkl, hx⟩)
      clear hr hx hz hkl
      go_wp2_with fail
      refine Calls.mono (HP.out _ ((Keep.refl _ wr).alloc _)) ?_
      rintro e w1 ⟨rfl, hf1⟩
      have H1 := Lib.hid ((((Keep.refl _ wr).alloc _).trans hf1 : Fresh wr w1))
      obtain ⟨q, hq⟩ : ∃ q, q = p x := ⟨_, rfl⟩
      rw [← hq]
      have HQ := Lib.hid hq
      clear hf1 HP hq c0 c1 c2 c3 c4 c5 c6 c7
      cases q
      · go_wp2_with fail
        go_ret
        obtain ⟨hl, hx⟩ := HX.out
        exact ⟨ret_bool (all_not hl (by rw [← hx]; exact HQ.out.symm)).symm, HW.out.1.trans H1.out⟩
      · go_wp2_with fail
        refine ⟨⟨k + 1, by omega, by simp, Lib.hid ⟨HW.out.1.trans H1.out, ?_⟩⟩, by simp [intOf]; omega⟩
        obtain ⟨hl, hx⟩ := HX.out
        exact all_snoc HW.out.2 hl (by rw [← hx]; exact HQ.out.symm)
    · obtain rfl : k = n := by omega
      go_wp2_with fail
      go_ret
      exact ⟨ret_bool (all_of (fun j hj _ => HW.out.2 j hj (by rw [← H.out.2.2]; exact hj))).symm, HW.out.1⟩
set_option maxHeartbeats 400000 in
theorem idx_mem {F : Nat} (eg : Enters Try.prog F) {cap : Array Value} (p : MemD → Bool) (Z : Nat → Prop) (A : Option Addr) (n c : Nat) (xs : List MemD) (w : World) (h : Rd w Z 3 A n (rcells MemD.cells xs)) (hl : xs.length = n) (hn : n ≤ 1048576)
    (hp : PredF F cap memA p xs w) :
    Calls Try.prog 46 #[.slice A n c, .func (.func F) #[] cap] w fun e w' => e = .returned (.int .i64 (idxZ p xs)) ∧ Fresh w w' := by
  have H := Lib.hid (And.intro h (And.intro hp hl))
  have eg' : ∀ args w, (callFunc F args).run Try.prog w = .ok (.enter F args) w := eg
  clear h hp hl
  go_enter Try.func46, Try.ntmps46
  go_wp2
  go_loopw [8] (fun i wr => ∃ k : Nat, k ≤ n ∧ i = .int .i64 (k : Int) ∧ Hid (Fresh w wr ∧ ∀ (j : Nat) (hj : j < xs.length), j < k → p xs[j] = false)) (fun i _ => n - (intOf i).toNat)
  case atStart => exact ⟨0, Nat.zero_le _, rfl, Lib.hid ⟨Keep.refl _ _, fun j _ h => absurd h (Nat.not_lt_zero j)⟩⟩
  case round =>
    rename World => wr
    obtain ⟨k, hk, rfl, HW⟩ := hrel
    by_cases hlt : k < n
    · have hkl : k < xs.length := by rw [H.out.2.2]; exact hlt
      obtain ⟨b, o, rfl, hz, hr⟩ := Rd.range mem_three (H.out.1.keep (HW.out.1.weaken fun _ _ _ => trivial)) hkl hlt
      obtain ⟨x, hx⟩ : ∃ x, x = xs[k] := ⟨_, rfl⟩
      rw [← hx] at hr
      have c0 : wr.cell? ⟨b, o + k * 3, none⟩ = some (.int .i64 x.p) := hr 0 _ rfl
      have c1 : wr.cell? ⟨b, o + k * 3 + 1, none⟩ = some (.int .i64 x.i) := hr 1 _ rfl
      have c2 : wr.cell? ⟨b, o + k * 3 + 2, none⟩ = some (.int .i64 x.c) := hr 2 _ rfl
      have HP := Lib.hid (fun W (hf : Fresh wr W) => H.out.2.1 W x (hx ▸ List.getElem_mem hkl) (HW.out.1.trans hf))
      have HX := Lib.hid (show ∃ hl : k < xs.length, x = xs[k] from ⟨hkl, hx⟩)
      clear hr hx hz hkl
      go_wp2_with fail
      refine Calls.mono (HP.out _ (Keep.refl _ wr)) ?_
      rintro e w1 ⟨rfl, hf1⟩
      have H1 := Lib.hid hf1
      obtain ⟨q, hq⟩ : ∃ q, q = p x := ⟨_, rfl⟩
      rw [← hq]
      have HQ := Lib.hid hq
      clear hf1 HP hq c0 c1 c2
      cases q
      · go_wp2_with fail
        refine ⟨⟨k + 1, by omega, by simp, Lib.hid ⟨HW.out.1.trans H1.out, ?_⟩⟩, by simp [intOf]; omega⟩
        obtain ⟨hl, hx⟩ := HX.out
        exact none_snoc HW.out.2 hl (by rw [← hx]; exact HQ.out.symm)
      · go_wp2_with fail
        go_ret
        obtain ⟨hl, hx⟩ := HX.out
        exact ⟨ret_int (idx_hit HW.out.2 hl (by rw [← hx]; exact HQ.out.symm)).symm, HW.out.1.trans H1.out⟩
    · obtain rfl : k = n := by omega
      go_wp2_with fail
      go_ret
      exact ⟨ret_int (idx_miss (fun j hj _ => HW.out.2 j hj (by rw [← H.out.2.2]; exact hj))).symm, HW.out.1⟩
theorem cont_mem {F : Nat} (eg : Enters Try.prog F) {cap : Array Value} (p : MemD → Bool) (Z : Nat → Prop) (A : Option Addr) (n c : Nat) (xs : List MemD) (w : World) (h : Rd w Z 3 A n (rcells MemD.cells xs)) (hl : xs.length = n) (hn : n ≤ 1048576)
    (hp : PredF F cap memA p xs w) :
    Calls Try.prog 77 #[.slice A n c, .func (.func F) #[] cap] w fun e w' => e = .returned (.bool (xs.any p)) ∧ Fresh w w' := by
  have HC := Lib.hid (idx_mem eg p Z A n c xs w h hl hn hp)
  have HE := Lib.hid (idx_any p xs)
  clear h hp hl
  obtain ⟨z, hz⟩ : ∃ z, z = idxZ p xs := ⟨_, rfl⟩
  rw [← hz] at HC HE
  clear hz
  go_enter Try.func77, Try.ntmps77
  go_wp2_with fail
  refine Calls.mono HC.out ?_
  rintro e w1 ⟨rfl, hf1⟩
  have H1 := Lib.hid hf1
  clear hf1 HC
  go_wp2_with fail
  go_ret
  exact ⟨ret_bool HE.out, H1.out⟩
set_option maxHeartbeats 400000 in
theorem idx_ent {F : Nat} (eg : Enters Try.prog F) {cap : Array Value} (p : EntV → Bool) (Z : Nat → Prop) (A : Option Addr) (n c : Nat) (xs : List EntV) (w : World) (h : Rd w Z 8 A n (rcells EntV.cells xs)) (hl : xs.length = n) (hn : n ≤ 1048576)
    (hp : PredF F cap entA p xs w) :
    Calls Try.prog 79 #[.slice A n c, .func (.func F) #[] cap] w fun e w' => e = .returned (.int .i64 (idxZ p xs)) ∧ Fresh w w' := by
  have H := Lib.hid (And.intro h (And.intro hp hl))
  have eg' : ∀ args w, (callFunc F args).run Try.prog w = .ok (.enter F args) w := eg
  clear h hp hl
  go_enter Try.func79, Try.ntmps79
  go_wp2
  go_loopw [8] (fun i wr => ∃ k : Nat, k ≤ n ∧ i = .int .i64 (k : Int) ∧ Hid (Fresh w wr ∧ ∀ (j : Nat) (hj : j < xs.length), j < k → p xs[j] = false)) (fun i _ => n - (intOf i).toNat)
  case atStart => exact ⟨0, Nat.zero_le _, rfl, Lib.hid ⟨Keep.refl _ _, fun j _ h => absurd h (Nat.not_lt_zero j)⟩⟩
  case round =>
    rename World => wr
    obtain ⟨k, hk, rfl, HW⟩ := hrel
    by_cases hlt : k < n
    · have hkl : k < xs.length := by rw [H.out.2.2]; exact hlt
      obtain ⟨b, o, rfl, hz, hr⟩ := Rd.range ent_eight (H.out.1.keep (HW.out.1.weaken fun _ _ _ => trivial)) hkl hlt
      obtain ⟨x, hx⟩ : ∃ x, x = xs[k] := ⟨_, rfl⟩
      rw [← hx] at hr
      have c0 : wr.cell? ⟨b, o + k * 8, none⟩ = some (.int .i64 x.d.w.1) := hr 0 _ rfl
      have c1 : wr.cell? ⟨b, o + k * 8 + 1, none⟩ = some (.int .i64 x.d.w.2) := hr 1 _ rfl
      have c2 : wr.cell? ⟨b, o + k * 8 + 2, none⟩ = some (.int .i64 x.d.frm.1) := hr 2 _ rfl
      have c3 : wr.cell? ⟨b, o + k * 8 + 3, none⟩ = some (.int .i64 x.d.frm.2.1) := hr 3 _ rfl
      have c4 : wr.cell? ⟨b, o + k * 8 + 4, none⟩ = some (.int .i64 x.d.frm.2.2.1) := hr 4 _ rfl
      have c5 : wr.cell? ⟨b, o + k * 8 + 5, none⟩ = some (.int .i64 x.d.frm.2.2.2) := hr 5 _ rfl
      have c6 : wr.cell? ⟨b, o + k * 8 + 6, none⟩ = some (.slice x.A x.d.tr.length x.c) := hr 6 _ rfl
      have c7 : wr.cell? ⟨b, o + k * 8 + 7, none⟩ = some (.int .i64 (x.d.done : Int)) := hr 7 _ rfl
      have HP := Lib.hid (fun W (hf : Fresh wr W) => H.out.2.1 W x (hx ▸ List.getElem_mem hkl) (HW.out.1.trans hf))
      have HX := Lib.hid (show ∃ hl : k < xs.length, x = xs[k] from ⟨hkl, hx⟩)
      clear hr hx hz hkl
      go_wp2_with fail
      refine Calls.mono (HP.out _ (Keep.refl _ wr)) ?_
      rintro e w1 ⟨rfl, hf1⟩
      have H1 := Lib.hid hf1
      obtain ⟨q, hq⟩ : ∃ q, q = p x := ⟨_, rfl⟩
      rw [← hq]
      have HQ := Lib.hid hq
      clear hf1 HP hq c0 c1 c2 c3 c4 c5 c6 c7
      cases q
      · go_wp2_with fail
        refine ⟨⟨k + 1, by omega, by simp, Lib.hid ⟨HW.out.1.trans H1.out, ?_⟩⟩, by simp [intOf]; omega⟩
        obtain ⟨hl, hx⟩ := HX.out
        exact none_snoc HW.out.2 hl (by rw [← hx]; exact HQ.out.symm)
      · go_wp2_with fail
        go_ret
        obtain ⟨hl, hx⟩ := HX.out
        exact ⟨ret_int (idx_hit HW.out.2 hl (by rw [← hx]; exact HQ.out.symm)).symm, HW.out.1.trans H1.out⟩
    · obtain rfl : k = n := by omega
      go_wp2_with fail
      go_ret
      exact ⟨ret_int (idx_miss (fun j hj _ => HW.out.2 j hj (by rw [← H.out.2.2]; exact hj))).symm, HW.out.1⟩
theorem cont_ent {F : Nat} (eg : Enters Try.prog F) {cap : Array Value} (p : EntV → Bool) (Z : Nat → Prop) (A : Option Addr) (n c : Nat) (xs : List EntV) (w : World) (h : Rd w Z 8 A n (rcells EntV.cells xs)) (hl : xs.length = n) (hn : n ≤ 1048576)
    (hp : PredF F cap entA p xs w) :
    Calls Try.prog 38 #[.slice A n c, .func (.func F) #[] cap] w fun e w' => e = .returned (.bool (xs.any p)) ∧ Fresh w w' := by
  have HC := Lib.hid (idx_ent eg p Z A n c xs w h hl hn hp)
  have HE := Lib.hid (idx_any p xs)
  clear h hp hl
  obtain ⟨z, hz⟩ : ∃ z, z = idxZ p xs := ⟨_, rfl⟩
  rw [← hz] at HC HE
  clear hz
  go_enter Try.func38, Try.ntmps38
  go_wp2_with fail
  refine Calls.mono HC.out ?_
  rintro e w1 ⟨rfl, hf1⟩
  have H1 := Lib.hid hf1
  clear hf1 HC
  go_wp2_with fail
  go_ret
  exact ⟨ret_bool HE.out, H1.out⟩
end Go.Proofs.Ytfpcmleeehciaaa
