/-
  WALKS OF slices.Index, Contains, Equal, Clone AND sort.Search, AND OF rising, as audit.Group calls them.
-/
import Derived.Test.YtfpcmleeehciaaaGrpF
import Derived.Test.YtfpcmleeehciaaaCopied2
import Derived.Lib.QuietBelow
import Derived.Lib.SliceRun
namespace Go.Proofs.Ytfpcmleeehciaaa
set_option linter.unusedVariables false
set_option linter.unusedSimpArgs false
open Go.RowKit Go.Shelf

set_option maxHeartbeats 400000 in
theorem index_int (Z : Nat → Prop) (A : Option Addr) (n c : Nat) (xs : List Int) (z : Int) (w : World) (h : Rd w Z 1 A n (ics xs)) (hl : xs.length = n) (hn : n ≤ 1048576) :
    Calls Try.prog 95 #[.slice A n c, .int .i64 z] w fun e w' => e = .returned (.int .i64 (idxZ (fun y => decide (z = y)) xs)) ∧ w = w' := by
  have H := Lib.hid (And.intro h hl)
  clear h hl
  go_enter Try.func95, Try.ntmps95
  go_wp2
  go_loopw [8] (fun i wr => ∃ k : Nat, k ≤ n ∧ i = .int .i64 (k : Int) ∧ wr = w ∧ Hid (∀ (j : Nat) (hj : j < xs.length), j < k → (fun y => decide (z = y)) xs[j] = false)) (fun i _ => n - (intOf i).toNat)
  case atStart => exact ⟨0, Nat.zero_le _, rfl, rfl, Lib.hid fun j _ h => absurd h (Nat.not_lt_zero j)⟩
  case round =>
    obtain ⟨k, hk, rfl, rfl, HW⟩ := hrel
    by_cases hlt : k < n
    · have hkl : k < xs.length := by rw [H.out.2]; exact hlt
      obtain ⟨b, o, rfl, hz, hkl2, c0⟩ := Rd.at1 H.out.1 hlt
      obtain ⟨x, hx⟩ : ∃ x, x = xs[k] := ⟨_, rfl⟩
      replace c0 : wr.cell? ⟨b, o + k, none⟩ = some (.int .i64 x) := by rw [c0, hx]; simp [ics]
      have HX := Lib.hid (show ∃ hl : k < xs.length, x = xs[k] from ⟨hkl, hx⟩)
      clear hx hz hkl hkl2
      by_cases hq : z = x
      · subst hq
        go_wp2_with fail
        go_ret
        obtain ⟨hl, hx⟩ := HX.out
        exact ⟨ret_int (idx_hit HW.out hl (by simp [hx])).symm, rfl⟩
      · go_wp2_with fail
        refine ⟨⟨k + 1, by omega, by simp, trivial, Lib.hid ?_⟩, by simp [intOf]; omega⟩
        obtain ⟨hl, hx⟩ := HX.out
        exact none_snoc (p := fun y => decide (z = y)) HW.out hl (by simp [← hx, hq])
    · obtain rfl : k = n := by omega
      go_wp2_with fail
      go_ret
      exact ⟨ret_int (idx_miss (fun j hj _ => HW.out j hj (by rw [← H.out.2]; exact hj))).symm, rfl⟩
theorem has_any (z : Int) : ∀ xs : List Int, xs.any (fun y => decide (z = y)) = xs.contains z
  | [] => rfl
  | x :: r => by
    rw [List.any_cons, has_any z r, List.contains_cons]
    congr 1
theorem has_int (Z : Nat → Prop) (A : Option Addr) (n c : Nat) (xs : List Int) (z : Int) (w : World) (h : Rd w Z 1 A n (ics xs)) (hl : xs.length = n) (hn : n ≤ 1048576) :
    Calls Try.prog 85 #[.slice A n c, .int .i64 z] w fun e w' => e = .returned (.bool (xs.contains z)) ∧ w = w' := by
  have HC := Lib.hid (index_int Z A n c xs z w h hl hn)
  have HE := Lib.hid ((idx_any (fun y => decide (z = y)) xs).trans (has_any z xs))
  clear h hl
  obtain ⟨q, hq⟩ : ∃ q, q = idxZ (fun y => decide (z = y)) xs := ⟨_, rfl⟩
  rw [← hq] at HC HE
  clear hq
  go_enter Try.func85, Try.ntmps85
  go_wp2_with fail
  refine Calls.mono HC.out ?_
  rintro e w1 ⟨rfl, rfl⟩
  clear HC
  go_wp2_with fail
  go_ret
  exact ⟨ret_bool HE.out, rfl⟩

/-! ### Equal -/
theorem eq_snoc {α : Type} {xs ys : List α} {k : Nat} (h : xs.take k = ys.take k) (hx : k < xs.length) (hy : k < ys.length) (he : xs[k] = ys[k]) : xs.take (k + 1) = ys.take (k + 1) := by
  rw [List.take_succ_eq_append_getElem hx, List.take_succ_eq_append_getElem hy, h, he]
set_option maxHeartbeats 400000 in
theorem equal_mem (Z Z' : Nat → Prop) (A A' : Option Addr) (n c n' c' : Nat) (xs ys : List MemD) (w : World) (h : Rd w Z 3 A n (rcells MemD.cells xs)) (h' : Rd w Z' 3 A' n' (rcells MemD.cells ys)) (hl : xs.length = n) (hl' : ys.length = n') (hn : n ≤ 1048576) (hn' : n' ≤ 1048576) :
    Calls Try.prog 37 #[.slice A n c, .slice A' n' c'] w fun e w' => e = .returned (.bool (decide (xs = ys))) ∧ Fresh w w' := by
  have H := Lib.hid (And.intro h (And.intro h' (And.intro hl hl')))
  clear h h' hl hl'
  by_cases hnn : n = n'
  · subst hnn
    go_enter Try.func37, Try.ntmps37
    go_wp2
    go_loopw [13] (fun i wr => ∃ k q : Nat, k ≤ n ∧ i = .int .i64 (k : Int) ∧ wr = w.drewN q ∧ Hid (xs.take k = ys.take k)) (fun i _ => n - (intOf i).toNat)
    case atStart => exact ⟨0, 0, Nat.zero_le _, rfl, rfl, Lib.hid rfl⟩
    case round =>
      obtain ⟨k, q, hk, rfl, rfl, HW⟩ := hrel
      by_cases hlt : k < n
      · have hkx : k < xs.length := by rw [H.out.2.2.1]; exact hlt
        have hky : k < ys.length := by rw [H.out.2.2.2]; exact hlt
        obtain ⟨b, o, rfl, hz, hr⟩ := Rd.range mem_three H.out.1 hkx hlt
        obtain ⟨b', o', rfl, hz', hr'⟩ := Rd.range mem_three H.out.2.1 hky hlt
        obtain ⟨x, hx⟩ : ∃ x, x = xs[k] := ⟨_, rfl⟩
        obtain ⟨y, hy⟩ : ∃ y, y = ys[k] := ⟨_, rfl⟩
        rw [← hx] at hr
        rw [← hy] at hr'
        have c0 : w.cell? ⟨b, o + k * 3, none⟩ = some (.int .i64 x.p) := hr 0 _ rfl
        have c1 : w.cell? ⟨b, o + k * 3 + 1, none⟩ = some (.int .i64 x.i) := hr 1 _ rfl
        have c2 : w.cell? ⟨b, o + k * 3 + 2, none⟩ = some (.int .i64 x.c) := hr 2 _ rfl
        have d0 : w.cell? ⟨b', o' + k * 3, none⟩ = some (.int .i64 y.p) := hr' 0 _ rfl
        have d1 : w.cell? ⟨b', o' + k * 3 + 1, none⟩ = some (.int .i64 y.i) := hr' 1 _ rfl
        have d2 : w.cell? ⟨b', o' + k * 3 + 2, none⟩ = some (.int .i64 y.c) := hr' 2 _ rfl
        have HX := Lib.hid (show ∃ (h1 : k < xs.length) (h2 : k < ys.length), x = xs[k] ∧ y = ys[k] from ⟨hkx, hky, hx, hy⟩)
        clear hx hy hr hr' hz hz' hkx hky
        by_cases hq : x = y
        · subst hq
          go_wp2_with fail
          go_quiet (fail)
          go_wp2_with fail
          refine ⟨⟨k + 1, _, by omega, by simp, rfl, Lib.hid ?_⟩, by simp [intOf]; omega⟩
          obtain ⟨h1, h2, hx, hy⟩ := HX.out
          exact eq_snoc HW.out h1 h2 (hx.symm.trans hy)
        · have HQ := Lib.hid hq
          obtain ⟨xp, xi, xc⟩ := x
          obtain ⟨yp, yi, yc⟩ := y
          have h3 : xp ≠ yp ∨ (xp = yp ∧ xi ≠ yi) ∨ (xp = yp ∧ xi = yi ∧ xc ≠ yc) := by
            by_cases e1 : xp = yp
            · by_cases e2 : xi = yi
              · refine .inr (.inr ⟨e1, e2, fun e3 => hq ?_⟩)
                subst e1 e2 e3; rfl
              · exact .inr (.inl ⟨e1, e2⟩)
            · exact .inl e1
          have hfin : Hid (decide (xs = ys) = false) := Lib.hid (decide_eq_false fun e => by
            obtain ⟨h1, h2, hx, hy⟩ := HX.out
            subst e
            exact HQ.out (hx.trans hy.symm))
          clear hq HX
          simp only at c0 c1 c2 d0 d1 d2
          rcases h3 with h | ⟨rfl, h⟩ | ⟨rfl, rfl, h⟩
          · have hb : (xp == yp) = false := by simpa using h
            go_wp2_with fail
            go_quiet (fail)
            go_wp2_with fail
            go_ret
            exact ⟨ret_bool hfin.out.symm, ((Keep.refl _ _).drewN _).drewN _⟩
          · have hb : (xi == yi) = false := by simpa using h
            go_wp2_with fail
            go_quiet (fail)
            go_wp2_with fail
            go_ret
            exact ⟨ret_bool hfin.out.symm, ((Keep.refl _ _).drewN _).drewN _⟩
          · have hb : (xc == yc) = false := by simpa using h
            go_wp2_with fail
            go_quiet (fail)
            go_wp2_with fail
            go_ret
            exact ⟨ret_bool hfin.out.symm, ((Keep.refl _ _).drewN _).drewN _⟩
      · obtain rfl : k = n := by omega
        go_wp2_with fail
        go_ret
        refine ⟨ret_bool (decide_eq_true ?_).symm, (Keep.refl _ _).drewN _⟩
        have := HW.out
        rwa [List.take_of_length_le (by rw [H.out.2.2.1]; exact Nat.le_refl _), List.take_of_length_le (by rw [H.out.2.2.2]; exact Nat.le_refl _)] at this
  · have hne : ((n : Int) == (n' : Int)) = false := by simp; omega
    go_enter Try.func37, Try.ntmps37
    go_wp2
    go_ret
    exact ⟨ret_bool (decide_eq_false fun e => hnn (by rw [← H.out.2.2.1, ← H.out.2.2.2, e])).symm, Keep.refl _ _⟩

set_option maxHeartbeats 400000 in
theorem equal_byte (Z Z' : Nat → Prop) (A A' : Option Addr) (n c n' c' : Nat) (xs ys : List UInt8) (w : World) (h : Rd w Z 1 A n (Lib.byteCells xs)) (h' : Rd w Z' 1 A' n' (Lib.byteCells ys)) (hl : xs.length = n) (hl' : ys.length = n') (hn : n ≤ 1048576) (hn' : n' ≤ 1048576) :
    Calls Try.prog 48 #[.slice A n c, .slice A' n' c'] w fun e w' => e = .returned (.bool (decide (xs = ys))) ∧ Fresh w w' := by
  have H := Lib.hid (And.intro h (And.intro h' (And.intro hl hl')))
  clear h h' hl hl'
  by_cases hnn : n = n'
  · subst hnn
    go_enter Try.func48, Try.ntmps48
    go_wp2
    go_loopw [13] (fun i wr => ∃ k q : Nat, k ≤ n ∧ i = .int .i64 (k : Int) ∧ wr = w.drewN q ∧ Hid (xs.take k = ys.take k)) (fun i _ => n - (intOf i).toNat)
    case atStart => exact ⟨0, 0, Nat.zero_le _, rfl, rfl, Lib.hid rfl⟩
    case round =>
      obtain ⟨k, q, hk, rfl, rfl, HW⟩ := hrel
      by_cases hlt : k < n
      · have hkx : k < xs.length := by rw [H.out.2.2.1]; exact hlt
        have hky : k < ys.length := by rw [H.out.2.2.2]; exact hlt
        obtain ⟨b, o, rfl, hz, hxl, c0⟩ := Rd.at1 H.out.1 hlt
        obtain ⟨b', o', rfl, hz', hyl, d0⟩ := Rd.at1 H.out.2.1 hlt
        obtain ⟨x, hx⟩ : ∃ x : Int, x = (xs[k].toNat : Int) := ⟨_, rfl⟩
        obtain ⟨y, hy⟩ : ∃ y : Int, y = (ys[k].toNat : Int) := ⟨_, rfl⟩
        replace c0 : w.cell? ⟨b, o + k, none⟩ = some (.int .u8 x) := by rw [c0, hx]; simp [Lib.byteCells]
        replace d0 : w.cell? ⟨b', o' + k, none⟩ = some (.int .u8 y) := by rw [d0, hy]; simp [Lib.byteCells]
        have HX := Lib.hid (show ∃ (h1 : k < xs.length) (h2 : k < ys.length), x = (xs[k].toNat : Int) ∧ y = (ys[k].toNat : Int) from ⟨hkx, hky, hx, hy⟩)
        clear hx hy hz hz' hkx hky hxl hyl
        by_cases hq : x = y
        · subst hq
          go_wp2_with fail
          go_quiet (fail)
          go_wp2_with fail
          refine ⟨⟨k + 1, _, by omega, by simp, rfl, Lib.hid ?_⟩, by simp [intOf]; omega⟩
          obtain ⟨h1, h2, hx, hy⟩ := HX.out
          exact eq_snoc HW.out h1 h2 (UInt8.toNat_inj.1 (by omega))
        · have hfin : Hid (decide (xs = ys) = false) := Lib.hid (decide_eq_false fun e => by
            obtain ⟨h1, h2, hx, hy⟩ := HX.out
            subst e
            exact hq (hx.trans hy.symm))
          have hb : (x == y) = false := by simpa using hq
          clear hq HX
          go_wp2_with fail
          go_quiet (fail)
          go_wp2_with fail
          go_ret
          exact ⟨ret_bool hfin.out.symm, ((Keep.refl _ _).drewN _).drewN _⟩
      · obtain rfl : k = n := by omega
        go_wp2_with fail
        go_ret
        refine ⟨ret_bool (decide_eq_true ?_).symm, (Keep.refl _ _).drewN _⟩
        have := HW.out
        rwa [List.take_of_length_le (by rw [H.out.2.2.1]; exact Nat.le_refl _), List.take_of_length_le (by rw [H.out.2.2.2]; exact Nat.le_refl _)] at this
  · have hne : ((n : Int) == (n' : Int)) = false := by simp; omega
    go_enter Try.func48, Try.ntmps48
    go_wp2
    go_ret
    exact ⟨ret_bool (decide_eq_false fun e => hnn (by rw [← H.out.2.2.1, ← H.out.2.2.2, e])).symm, Keep.refl _ _⟩

/-! ### Clone -/
theorem own_none (w : World) (e s : Nat) : (w.alloc (.cells #[] e)).ownsRow w.heap.size e s (.slice (some ⟨w.heap.size, 0, none⟩) 0 0) 0 [] :=
  ⟨by simp, .inr ⟨w.heap.size, 0, #[], rfl, Nat.le_refl _, Blk.new w e #[], Nat.le_refl _, by decide, by simp, by simp⟩⟩
set_option maxRecDepth 20000 in
set_option maxHeartbeats 400000 in
theorem clone_mem (Z : Nat → Prop) (A : Option Addr) (n c : Nat) (xs : List MemD) (w : World) (h : SlOk w Z 3 n (.slice A n c) (rcells MemD.cells xs)) (hn : n ≤ 1048576) :
    Calls Try.prog 43 #[.slice A n c] w fun e w' => (∃ v, e = .returned v ∧ w'.ownsRow w.heap.size 55 3 v n (rcells MemD.cells xs)) ∧ Fresh w w' := by
  obtain ⟨A', c', e, hnc, hnil, hr⟩ := h
  injection e with e1 e2 e3
  subst e1 e3
  rcases A with _ | ad
  · have h0 : n = 0 := by
      rcases Nat.eq_zero_or_pos n with h0 | h0
      · exact h0
      · obtain ⟨_, _, h, _⟩ := hr.2 h0
        cases h
    subst h0
    have hx : rcells MemD.cells xs = [] := List.eq_nil_of_length_eq_zero (by simpa using hr.1)
    rw [hx]
    have hc : c = 0 := by
      rcases hnil rfl with h | h
      · exact h
      · exact absurd rfl h
    subst hc
    clear hx hr hnil hnc
    have q22 : ∀ (w : World) (a : Option Addr) (n c n' c' : Nat), (binOp .eql 42 (.slice a n c) (.slice none n' c')).run Try.prog w = .ok (.bool a.isNone) w := fun w a n c n' c' => Lib.run_eql_slice_nil w _ _ a n c n' c' Try.underlying42
    go_enter Try.func43, Try.ntmps43
    go_wp2
    go_ret
    exact ⟨⟨_, rfl, w.ownsRow_nil _ _ _⟩, Keep.refl _ _⟩
  · have HR := Lib.hid (And.intro hr (own_none w 55 3))
    have H1 := Lib.hid (mem_one xs)
    clear hr hnil
    have q22 : ∀ (w : World) (a : Option Addr) (n c n' c' : Nat), (binOp .eql 42 (.slice a n c) (.slice none n' c')).run Try.prog w = .ok (.bool a.isNone) w := fun w a n c n' c' => Lib.run_eql_slice_nil w _ _ a n c n' c' Try.underlying42
    go_enter Try.func43, Try.ntmps43
    go_wp2_with (at_builtin; refine wpList_app etMem rfl _ _ rfl w.heap.size (.slice (some ⟨w.heap.size, 0, none⟩) 0 0) 0 [] rfl HR.out.2 Z (some ad) n c (rcells MemD.cells xs) rfl (HR.out.1.keep ((Keep.refl _ w).alloc _)) (fun _ => .inr (by simp)) H1.out (by omega) (by simp) ?_)
    intro v1 w1 ho1 hk1 hn1
    try simp only [Nat.zero_add, List.nil_append] at ho1
    have H2 := Lib.hid (And.intro ho1 (((Keep.refl (fun _ => True) w).alloc (.cells #[] 55)).comp hk1 (fun _ _ h => h) (fun i hi _ e => by simp [Value.ownBlock] at e; omega)))
    clear ho1 hk1 hn1
    go_wp2_with fail
    go_ret
    exact ⟨⟨_, rfl, H2.out.1⟩, H2.out.2⟩
set_option maxRecDepth 20000 in
set_option maxHeartbeats 400000 in
theorem clone_int (Z : Nat → Prop) (A : Option Addr) (n c : Nat) (xs : List Int) (w : World) (h : SlOk w Z 1 n (.slice A n c) (ics xs)) (hn : n ≤ 1048576) :
    Calls Try.prog 44 #[.slice A n c] w fun e w' => (∃ v, e = .returned v ∧ w'.ownsRow w.heap.size 3 1 v n (ics xs)) ∧ Fresh w w' := by
  obtain ⟨A', c', e, hnc, hnil, hr⟩ := h
  injection e with e1 e2 e3
  subst e1 e3
  rcases A with _ | ad
  · have h0 : n = 0 := by
      rcases Nat.eq_zero_or_pos n with h0 | h0
      · exact h0
      · obtain ⟨_, _, h, _⟩ := hr.2 h0
        cases h
    subst h0
    have hx : ics xs = [] := List.eq_nil_of_length_eq_zero (by simpa using hr.1)
    rw [hx]
    have hc : c = 0 := by
      rcases hnil rfl with h | h
      · exact h
      · exact absurd rfl h
    subst hc
    clear hx hr hnil hnc
    have q22 : ∀ (w : World) (a : Option Addr) (n c n' c' : Nat), (binOp .eql 23 (.slice a n c) (.slice none n' c')).run Try.prog w = .ok (.bool a.isNone) w := fun w a n c n' c' => Lib.run_eql_slice_nil w _ _ a n c n' c' Try.underlying23
    go_enter Try.func44, Try.ntmps44
    go_wp2
    go_ret
    exact ⟨⟨_, rfl, w.ownsRow_nil _ _ _⟩, Keep.refl _ _⟩
  · have HR := Lib.hid (And.intro hr (own_none w 3 1))
    have H1 := Lib.hid (ics_one xs)
    clear hr hnil
    have q22 : ∀ (w : World) (a : Option Addr) (n c n' c' : Nat), (binOp .eql 23 (.slice a n c) (.slice none n' c')).run Try.prog w = .ok (.bool a.isNone) w := fun w a n c n' c' => Lib.run_eql_slice_nil w _ _ a n c n' c' Try.underlying23
    go_enter Try.func44, Try.ntmps44
    go_wp2_with (at_builtin; refine wpList_app etInt rfl _ _ rfl w.heap.size (.slice (some ⟨w.heap.size, 0, none⟩) 0 0) 0 [] rfl HR.out.2 Z (some ad) n c (ics xs) rfl (HR.out.1.keep ((Keep.refl _ w).alloc _)) (fun _ => .inr (by simp)) H1.out (by omega) (by simp) ?_)
    intro v1 w1 ho1 hk1 hn1
    try simp only [Nat.zero_add, List.nil_append] at ho1
    have H2 := Lib.hid (And.intro ho1 (((Keep.refl (fun _ => True) w).alloc (.cells #[] 3)).comp hk1 (fun _ _ h => h) (fun i hi _ e => by simp [Value.ownBlock] at e; omega)))
    clear ho1 hk1 hn1
    go_wp2_with fail
    go_ret
    exact ⟨⟨_, rfl, H2.out.1⟩, H2.out.2⟩
set_option maxRecDepth 20000 in
set_option maxHeartbeats 400000 in
theorem clone_byte (Z : Nat → Prop) (A : Option Addr) (n c : Nat) (xs : List UInt8) (w : World) (h : SlOk w Z 1 n (.slice A n c) (Lib.byteCells xs)) (hn : n ≤ 1048576) :
    Calls Try.prog 45 #[.slice A n c] w fun e w' => (∃ v, e = .returned v ∧ w'.ownsRow w.heap.size 5 1 v n (Lib.byteCells xs)) ∧ Fresh w w' := by
  obtain ⟨A', c', e, hnc, hnil, hr⟩ := h
  injection e with e1 e2 e3
  subst e1 e3
  rcases A with _ | ad
  · have h0 : n = 0 := by
      rcases Nat.eq_zero_or_pos n with h0 | h0
      · exact h0
      · obtain ⟨_, _, h, _⟩ := hr.2 h0
        cases h
    subst h0
    have hx : Lib.byteCells xs = [] := List.eq_nil_of_length_eq_zero (by simpa using hr.1)
    rw [hx]
    have hc : c = 0 := by
      rcases hnil rfl with h | h
      · exact h
      · exact absurd rfl h
    subst hc
    clear hx hr hnil hnc
    have q22 : ∀ (w : World) (a : Option Addr) (n c n' c' : Nat), (binOp .eql 43 (.slice a n c) (.slice none n' c')).run Try.prog w = .ok (.bool a.isNone) w := fun w a n c n' c' => Lib.run_eql_slice_nil w _ _ a n c n' c' Try.underlying43
    go_enter Try.func45, Try.ntmps45
    go_wp2
    go_ret
    exact ⟨⟨_, rfl, w.ownsRow_nil _ _ _⟩, Keep.refl _ _⟩
  · have HR := Lib.hid (And.intro hr (own_none w 5 1))
    have H1 := Lib.hid (bcs_one xs)
    clear hr hnil
    have q22 : ∀ (w : World) (a : Option Addr) (n c n' c' : Nat), (binOp .eql 43 (.slice a n c) (.slice none n' c')).run Try.prog w = .ok (.bool a.isNone) w := fun w a n c n' c' => Lib.run_eql_slice_nil w _ _ a n c n' c' Try.underlying43
    go_enter Try.func45, Try.ntmps45
    go_wp2_with (at_builtin; refine wpList_app etByte rfl _ _ rfl w.heap.size (.slice (some ⟨w.heap.size, 0, none⟩) 0 0) 0 [] rfl HR.out.2 Z (some ad) n c (Lib.byteCells xs) rfl (HR.out.1.keep ((Keep.refl _ w).alloc _)) (fun _ => .inr (by simp)) H1.out (by omega) (by simp) ?_)
    intro v1 w1 ho1 hk1 hn1
    try simp only [Nat.zero_add, List.nil_append] at ho1
    have H2 := Lib.hid (And.intro ho1 (((Keep.refl (fun _ => True) w).alloc (.cells #[] 5)).comp hk1 (fun _ _ h => h) (fun i hi _ e => by simp [Value.ownBlock] at e; omega)))
    clear ho1 hk1 hn1
    go_wp2_with fail
    go_ret
    exact ⟨⟨_, rfl, H2.out.1⟩, H2.out.2⟩
end Go.Proofs.Ytfpcmleeehciaaa
