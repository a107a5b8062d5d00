/-
  WALKS OF rising AND OF sort.Search, AS audit.Group CALLS THEM.
-/
import Derived.Test.YtfpcmleeehciaaaGrpG
namespace Go.Proofs.Ytfpcmleeehciaaa
set_option linter.unusedVariables false
set_option linter.unusedSimpArgs false
open Go.RowKit Go.Shelf

theorem risB_iff : ∀ l : List Int, risB l = true ↔ ∀ (i : Nat) (h : i + 1 < l.length), l[i] < l[i + 1]
  | [] => by simp [risB]
  | [a] => by simp [risB]
  | a :: b :: r => by
    unfold risB
    rw [Bool.and_eq_true, decide_eq_true_iff, risB_iff (b :: r)]
    constructor
    · rintro ⟨h1, h2⟩ i hi
      rcases i with _ | i
      · exact h1
      · exact h2 i (by simpa using hi)
    · intro h
      exact ⟨h 0 (by simp), fun i hi => h (i + 1) (by simpa using hi)⟩
theorem memkey_any (x : MemD) (w : World) : Calls Try.prog 76 #[memA x] w fun e w' => e = .returned (.int .i64 x.p) ∧ Fresh w w' := by
  unfold memA
  go_enter Try.func76, Try.ntmps76
  go_wp2
  go_ret
  exact ⟨rfl, (Keep.refl _ w).alloc _⟩
theorem intkey_any (x : Int) (w : World) : Calls Try.prog 84 #[.int .i64 x] w fun e w' => e = .returned (.int .i64 x) ∧ Fresh w w' := by
  go_enter Try.func84, Try.ntmps84
  go_wp2
  go_ret
  exact ⟨rfl, Keep.refl _ w⟩
theorem ris_snoc {zs : List Int} {k : Nat} (h : ∀ (i : Nat) (hi : i + 1 < zs.length), i + 1 < k → zs[i] < zs[i + 1]) (hk : k < zs.length) (h0 : 1 ≤ k) (hlt : zs[k - 1] < zs[k]) : ∀ (i : Nat) (hi : i + 1 < zs.length), i + 1 < k + 1 → zs[i] < zs[i + 1] := by
  intro i hi h2
  by_cases e : i + 1 = k
  · subst e; exact hlt
  · exact h i hi (by omega)
set_option maxRecDepth 20000 in
set_option maxHeartbeats 400000 in
theorem rising_mem (Z : Nat → Prop) (A : Option Addr) (n c : Nat) (xs : List MemD) (w : World) (h : Rd w Z 3 A n (rcells MemD.cells xs)) (hl : xs.length = n) (hn : n ≤ 1048576) :
    Calls Try.prog 75 #[.slice A n c, .func (.func 76) #[] #[]] w fun e w' => e = .returned (.bool (risB (xs.map (·.p)))) ∧ Fresh w w' := by
  have H := Lib.hid (And.intro h hl)
  clear h hl
  go_enter Try.func75, Try.ntmps75
  go_wp2
  go_loopw [5] (fun i wr => ∃ k : Nat, 1 ≤ k ∧ k ≤ n + 1 ∧ i = .int .i64 (k : Int) ∧ Hid (Fresh w wr ∧ ∀ (i : Nat) (hi : i + 1 < (xs.map (·.p)).length), i + 1 < k → (xs.map (·.p))[i] < (xs.map (·.p))[i + 1])) (fun i _ => n + 1 - (intOf i).toNat)
  case atStart => exact ⟨1, Nat.le_refl _, by omega, rfl, Lib.hid ⟨Keep.refl _ _, fun i _ h => by omega⟩⟩
  case round =>
    rename World => wr
    obtain ⟨k, hk1, hk, rfl, HW⟩ := hrel
    by_cases hlt : k < n
    · have hkl : k < xs.length := by rw [H.out.2]; exact hlt
      have hkl1 : k - 1 < xs.length := by omega
      obtain ⟨b, o, rfl, hz, hr⟩ := Rd.range mem_three (H.out.1.keep (HW.out.1.weaken fun _ _ _ => trivial)) hkl hlt
      obtain ⟨b', o', hA, hz', hr'⟩ := Rd.range mem_three (H.out.1.keep (HW.out.1.weaken fun _ _ _ => trivial)) hkl1 (by omega)
      injection hA with hA
      injection hA with hA1 hA2
      subst hA1 hA2
      obtain ⟨y, hy⟩ : ∃ y, y = xs[k] := ⟨_, rfl⟩
      obtain ⟨x, hx⟩ : ∃ x, x = xs[k - 1] := ⟨_, rfl⟩
      obtain ⟨j, hj⟩ : ∃ j, j = k - 1 := ⟨_, rfl⟩
      rw [← hy] at hr
      rw [← hx, ← hj] at hr'
      have wj : IntKind.i64.wrap ((k : Int) - 1) = (j : Int) := by rw [IntWalk.i64_in _ (by omega)]; omega
      have bj : (j : Int) < (n : Int) := by omega
      have d0 : wr.cell? ⟨b, o + k * 3, none⟩ = some (.int .i64 y.p) := hr 0 _ rfl
      have d1 : wr.cell? ⟨b, o + k * 3 + 1, none⟩ = some (.int .i64 y.i) := hr 1 _ rfl
      have d2 : wr.cell? ⟨b, o + k * 3 + 2, none⟩ = some (.int .i64 y.c) := hr 2 _ rfl
      have c0 : wr.cell? ⟨b, o + j * 3, none⟩ = some (.int .i64 x.p) := hr' 0 _ rfl
      have c1 : wr.cell? ⟨b, o + j * 3 + 1, none⟩ = some (.int .i64 x.i) := hr' 1 _ rfl
      have c2 : wr.cell? ⟨b, o + j * 3 + 2, none⟩ = some (.int .i64 x.c) := hr' 2 _ rfl
      have kd0 := cell_regrown d0; have kd1 := cell_regrown d1; have kd2 := cell_regrown d2
      have kc0 := cell_regrown c0; have kc1 := cell_regrown c1; have kc2 := cell_regrown c2
      have HX := Lib.hid (show ∃ (h1 : k < xs.length) (h2 : k - 1 < xs.length), y = xs[k] ∧ x = xs[k - 1] from ⟨hkl, hkl1, hy, hx⟩)
      have HKx := Lib.hid (fun (q : Nat) (os : Array Obj) => Calls.regrown_of (w := wr) (d := q) (os := os) ((memkey_any x _).mono fun _ _ ⟨he, hf⟩ => ⟨he, hf.below⟩))
      have HKy := Lib.hid (fun (q : Nat) (os : Array Obj) => Calls.regrown_of (w := wr) (d := q) (os := os) ((memkey_any y _).mono fun _ _ ⟨he, hf⟩ => ⟨he, hf.below⟩))
      clear hr hr' hx hy hz hz' hkl hkl1 hj d0 d1 d2 c0 c1 c2
      unfold memA at HKx HKy
      rcases Int.lt_or_le x.p y.p with hq | hq
      · go_wp2_with fail
        refine wp_region_quiet_below (by kernel_rfl) (by kernel_rfl) ?_
        repeat (go_big_quiet_step (first | exact HKx.out _ _ | exact HKy.out _ _))
        refine wpQuiet_nil ?_
        intro _ hw'
        obtain ⟨⟨dq, osq⟩, hw''⟩ := hw'
        subst hw''
        go_wp2_with fail
        refine ⟨⟨k + 1, by omega, by omega, by simp, Lib.hid ⟨HW.out.1.trans (Fresh.of_below (below_regrown wr dq osq)), ?_⟩⟩, by simp [intOf]; omega⟩
        obtain ⟨h1, h2, hy, hx⟩ := HX.out
        exact ris_snoc HW.out.2 (by simpa using h1) hk1 (by simp only [List.getElem_map]; rw [← hx, ← hy]; exact hq)
      · go_wp2_with fail
        refine wp_region_quiet_below (by kernel_rfl) (by kernel_rfl) ?_
        repeat (go_big_quiet_step (first | exact HKx.out _ _ | exact HKy.out _ _))
        refine wpQuiet_nil ?_
        intro _ hw'
        obtain ⟨⟨dq, osq⟩, hw''⟩ := hw'
        subst hw''
        go_wp2_with fail
        go_ret
        refine ⟨ret_bool ?_, HW.out.1.trans (Fresh.of_below (below_regrown wr dq osq))⟩
        obtain ⟨h1, h2, hy, hx⟩ := HX.out
        symm
        rw [Bool.eq_false_iff]
        intro hr
        have := (risB_iff _).1 hr (k - 1) (by rw [List.length_map]; omega)
        simp only [List.getElem_map] at this
        have e : k - 1 + 1 = k := by omega
        simp only [e] at this
        rw [← hx, ← hy] at this
        omega
    · have hkn : ¬ (k : Int) < (n : Int) := by omega
      go_wp2_with fail
      go_ret
      refine ⟨ret_bool ?_, HW.out.1⟩
      symm
      rw [risB_iff]
      intro i hi
      exact HW.out.2 i hi (by rw [List.length_map, H.out.2] at hi; omega)
set_option maxRecDepth 20000 in
set_option maxHeartbeats 400000 in
theorem rising_int (Z : Nat → Prop) (A : Option Addr) (n c : Nat) (xs : List Int) (w : World) (h : Rd w Z 1 A n (ics xs)) (hl : xs.length = n) (hn : n ≤ 1048576) :
    Calls Try.prog 83 #[.slice A n c, .func (.func 84) #[] #[]] w fun e w' => e = .returned (.bool (risB xs)) ∧ Fresh w w' := by
  have H := Lib.hid (And.intro h hl)
  clear h hl
  go_enter Try.func83, Try.ntmps83
  go_wp2
  go_loopw [5] (fun i wr => ∃ k : Nat, 1 ≤ k ∧ k ≤ n + 1 ∧ i = .int .i64 (k : Int) ∧ Hid (Fresh w wr ∧ ∀ (i : Nat) (hi : i + 1 < xs.length), i + 1 < k → xs[i] < xs[i + 1])) (fun i _ => n + 1 - (intOf i).toNat)
  case atStart => exact ⟨1, Nat.le_refl _, by omega, rfl, Lib.hid ⟨Keep.refl _ _, fun i _ h => by omega⟩⟩
  case round =>
    rename World => wr
    obtain ⟨k, hk1, hk, rfl, HW⟩ := hrel
    by_cases hlt : k < n
    · have hkl : k < xs.length := by rw [H.out.2]; exact hlt
      have hkl1 : k - 1 < xs.length := by omega
      obtain ⟨b, o, rfl, hz, hy0, hr⟩ := Rd.at1 (H.out.1.keep (HW.out.1.weaken fun _ _ _ => trivial)) hlt
      obtain ⟨b', o', hA, hz', hx0, hr'⟩ := Rd.at1 (k := k - 1) (H.out.1.keep (HW.out.1.weaken fun _ _ _ => trivial)) (by omega)
      injection hA with hA
      injection hA with hA1 hA2
      subst hA1 hA2
      obtain ⟨y, hy⟩ : ∃ y, y = xs[k] := ⟨_, rfl⟩
      obtain ⟨x, hx⟩ : ∃ x, x = xs[k - 1] := ⟨_, rfl⟩
      obtain ⟨j, hj⟩ : ∃ j, j = k - 1 := ⟨_, rfl⟩
      have wj : IntKind.i64.wrap ((k : Int) - 1) = (j : Int) := by rw [IntWalk.i64_in _ (by omega)]; omega
      have bj : (j : Int) < (n : Int) := by omega
      have d0 : wr.cell? ⟨b, o + k, none⟩ = some (.int .i64 y) := by rw [hr, hy]; simp [ics]
      have c0 : wr.cell? ⟨b, o + j, none⟩ = some (.int .i64 x) := by rw [hj, hr', hx]; simp [ics]
      have kd0 := cell_regrown d0
      have kc0 := cell_regrown c0
      have HX := Lib.hid (show ∃ (h1 : k < xs.length) (h2 : k - 1 < xs.length), y = xs[k] ∧ x = xs[k - 1] from ⟨hkl, hkl1, hy, hx⟩)
      have HKx := Lib.hid (fun (q : Nat) (os : Array Obj) => Calls.regrown_of (w := wr) (d := q) (os := os) ((intkey_any x _).mono fun _ _ ⟨he, hf⟩ => ⟨he, hf.below⟩))
      have HKy := Lib.hid (fun (q : Nat) (os : Array Obj) => Calls.regrown_of (w := wr) (d := q) (os := os) ((intkey_any y _).mono fun _ _ ⟨he, hf⟩ => ⟨he, hf.below⟩))
      clear hr hr' hx hy hz hz' hkl hkl1 hj d0 c0 hy0 hx0
      rcases Int.lt_or_le x y with hq | hq
      · go_wp2_with fail
        refine wp_region_quiet_below (by kernel_rfl) (by kernel_rfl) ?_
        repeat (go_big_quiet_step (first | exact HKx.out _ _ | exact HKy.out _ _))
        refine wpQuiet_nil ?_
        intro _ hw'
        obtain ⟨⟨dq, osq⟩, hw''⟩ := hw'
        subst hw''
        go_wp2_with fail
        refine ⟨⟨k + 1, by omega, by omega, by simp, Lib.hid ⟨HW.out.1.trans (Fresh.of_below (below_regrown wr dq osq)), ?_⟩⟩, by simp [intOf]; omega⟩
        obtain ⟨h1, h2, hy, hx⟩ := HX.out
        exact ris_snoc HW.out.2 h1 hk1 (by rw [← hx, ← hy]; exact hq)
      · go_wp2_with fail
        refine wp_region_quiet_below (by kernel_rfl) (by kernel_rfl) ?_
        repeat (go_big_quiet_step (first | exact HKx.out _ _ | exact HKy.out _ _))
        refine wpQuiet_nil ?_
        intro _ hw'
        obtain ⟨⟨dq, osq⟩, hw''⟩ := hw'
        subst hw''
        go_wp2_with fail
        go_ret
        refine ⟨ret_bool ?_, HW.out.1.trans (Fresh.of_below (below_regrown wr dq osq))⟩
        obtain ⟨h1, h2, hy, hx⟩ := HX.out
        symm
        rw [Bool.eq_false_iff]
        intro hr
        have := (risB_iff _).1 hr (k - 1) (by omega)
        have e : k - 1 + 1 = k := by omega
        simp only [e] at this
        rw [← hx, ← hy] at this
        omega
    · have hkn : ¬ (k : Int) < (n : Int) := by omega
      go_wp2_with fail
      go_ret
      refine ⟨ret_bool ?_, HW.out.1⟩
      symm
      rw [risB_iff]
      intro i hi
      exact HW.out.2 i hi (by have := H.out.2; omega)

/-! ### sort.Search -/
theorem seek_hit {f : Nat → Bool} {i j : Nat} (h : i < j) (hf : f ((i + j) / 2) = false) : seekF f i j = seekF f ((i + j) / 2 + 1) j := by
  rw [seekF, dif_pos h, if_pos hf]
theorem seek_miss {f : Nat → Bool} {i j : Nat} (h : i < j) (hf : f ((i + j) / 2) = true) : seekF f i j = seekF f i ((i + j) / 2) := by
  rw [seekF, dif_pos h, if_neg (by rw [hf]; decide)]
theorem seek_end {f : Nat → Bool} {i j : Nat} (h : ¬ i < j) : seekF f i j = i := by
  rw [seekF, dif_neg h]
set_option maxHeartbeats 400000 in
theorem search_any {F : Nat} (eg : Enters Try.prog F) {cap : Array Value} (p : Nat → Bool) (n : Nat) (w : World) (hn : n ≤ 1048576)
    (hp : ∀ (W : World) (i : Nat), i < n → Fresh w W → Calls Try.prog F (#[.int .i64 (i : Int)] ++ cap) W fun e w' => e = .returned (.bool (p i)) ∧ Fresh W w') :
    Calls Try.prog 49 #[.int .i64 (n : Int), .func (.func F) #[] cap] w fun e w' => e = .returned (.int .i64 (seekF p 0 n : Int)) ∧ Fresh w w' := by
  have H := Lib.hid hp
  have eg' : ∀ args w, (callFunc F args).run Try.prog w = .ok (.enter F args) w := eg
  clear hp
  go_enter Try.func49, Try.ntmps49
  go_wp2
  go_loopw [5, 6] (fun iv jv wr => ∃ i j : Nat, i ≤ j ∧ j ≤ n ∧ iv = .int .i64 (i : Int) ∧ jv = .int .i64 (j : Int) ∧ Hid (Fresh w wr ∧ seekF p i j = seekF p 0 n)) (fun i j _ => ((intOf j) - (intOf i)).toNat)
  case atStart => exact ⟨0, n, Nat.zero_le _, Nat.le_refl _, rfl, rfl, Lib.hid ⟨Keep.refl _ _, rfl⟩⟩
  case round =>
    rename World => wr
    obtain ⟨i, j, hij, hj, rfl, rfl, HW⟩ := hrel
    by_cases hlt : i < j
    · obtain ⟨h, hh⟩ : ∃ h, h = (i + j) / 2 := ⟨_, rfl⟩
      have b1 : i ≤ h := by omega
      have b2 : h < j := by omega
      have HP := Lib.hid (H.out wr h (by omega) HW.out.1)
      have e1 : IntKind.u64.wrap ((i : Int) + (j : Int)) = (i : Int) + (j : Int) := by simp [IntKind.wrap, IntKind.signed, IntKind.bits]; omega
      have e2 : ((i : Int) + (j : Int)) / 2 = (h : Int) := by omega
      have e3 : ((i : Int) + (j : Int)) >>> (1 : Nat) = (h : Int) := by rw [Int.shiftRight_eq_div_pow]; simp; omega
      have e4 : IntKind.i64.wrap (h : Int) = (h : Int) := by rw [IntWalk.i64_in _ (by omega)]
      have HH := Lib.hid hh
      clear hh
      go_wp2_with fail
      refine Calls.mono HP.out ?_
      rintro e w1 ⟨rfl, hf1⟩
      have H1 := Lib.hid hf1
      obtain ⟨q, hq⟩ : ∃ q, q = p h := ⟨_, rfl⟩
      rw [← hq]
      have HQ := Lib.hid hq
      clear hf1 HP hq e1 e2 e3 e4
      cases q
      · go_wp2_with fail
        refine ⟨⟨h + 1, j, by omega, hj, by simp, rfl, Lib.hid ⟨HW.out.1.trans H1.out, ?_⟩⟩, by simp [intOf]; omega⟩
        rw [← HW.out.2, seek_hit hlt (by rw [← HH.out]; exact HQ.out.symm), ← HH.out]
      · go_wp2_with fail
        refine ⟨⟨i, h, by omega, by omega, rfl, rfl, Lib.hid ⟨HW.out.1.trans H1.out, ?_⟩⟩, by simp [intOf]; omega⟩
        rw [← HW.out.2, seek_miss hlt (by rw [← HH.out]; exact HQ.out.symm), ← HH.out]
    · have hlt2 : ¬ (i : Int) < (j : Int) := by omega
      have HE := Lib.hid (seek_end (f := p) hlt)
      clear hlt
      go_wp2_with fail
      go_ret
      exact ⟨ret_int (by rw [← HW.out.2, HE.out]), HW.out.1⟩
end Go.Proofs.Ytfpcmleeehciaaa
