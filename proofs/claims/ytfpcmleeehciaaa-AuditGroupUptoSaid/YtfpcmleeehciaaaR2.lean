/-
  MERGED: RefW1 RefW2 RefW3
-/
import Derived.Test.YtfpcmleeehciaaaR1
import Derived.Test.YtfpcmleeehciaaaGrpQ
import Derived.Test.YtfpcmleeehciaaaGrpWalk
import Derived.Test.YtfpcmleeehciaaaGrpC
namespace Go.Proofs.Ytfpcmleeehciaaa
set_option linter.unusedVariables false
set_option linter.unusedSimpArgs false
open Go.RowKit Go.Shelf

def mineD (m : MarkD) (x : Who) : Bool := decide (m.who = x) && decide (m.kind ≠ 15)
set_option maxRecDepth 20000 in
theorem mine_any (x : MkV) (p i : Int) (w : World) : Calls Try.prog 55 #[.agg x.cells.toArray, .int .i64 p, .int .i64 i] w fun e w' => e = .returned (.bool (mineD x.d (p, i))) ∧ Fresh w w' := by
  obtain ⟨r, hr⟩ : ∃ r, r = mineD x.d (p, i) := ⟨_, rfl⟩
  rw [← hr]
  go_enter Try.func55, Try.ntmps55
  go_upto_region 1 with (fail)
  obtain ⟨w1, hw1⟩ : ∃ w1, w1 = w.alloc (.cells x.cells.toArray 50) := ⟨_, rfl⟩
  obtain ⟨b, hb⟩ : ∃ b, b = w.heap.size := ⟨_, rfl⟩
  rw [← hw1, ← hb]
  have hf1 : Fresh w w1 := hw1 ▸ (Keep.refl _ w).alloc _
  have hm : MkB w1 b x := by rw [hw1, hb]; exact MkB.new w x
  have c1 := hm.kind; have c2 := hm.node; have c3 := hm.inc
  have lb := hm.blk.lt
  obtain ⟨zk, hzk⟩ : ∃ z, z = x.d.kind := ⟨_, rfl⟩
  obtain ⟨zn, hzn⟩ : ∃ z, z = x.d.node := ⟨_, rfl⟩
  obtain ⟨zi, hzi⟩ : ∃ z, z = x.d.inc := ⟨_, rfl⟩
  rw [← hzk] at c1; rw [← hzn] at c2; rw [← hzi] at c3
  have hr2 : r = (decide (zn = p) && (decide (zi = i) && decide (zk ≠ 15))) := by
    rw [hr, hzn, hzi, hzk]
    unfold mineD
    have : decide (x.d.who = (p, i)) = (decide (x.d.node = p) && decide (x.d.inc = i)) := by
      rw [← Bool.decide_and]
      apply decide_eq_decide.2
      exact ⟨fun e => by injection e with e1 e2; exact ⟨e1, e2⟩, fun ⟨e1, e2⟩ => Prod.ext e1 e2⟩
    rw [this, Bool.and_assoc]
  have H := Lib.hid (And.intro hf1 hr2)
  clear hw1 hb hf1 hm hzk hzn hzi hr hr2
  by_cases h1 : zn = p
  · subst h1
    by_cases h2 : zi = i
    · subst h2
      by_cases h3 : zk = 15
      · subst h3
        obtain rfl : r = false := by rw [H.out.2]; simp
        go_wp2_with fail
        go_ret
        exact ⟨rfl, H.out.1⟩
      · have b3 : (zk != 15) = true := by simpa using h3
        obtain rfl : r = true := by rw [H.out.2]; simp [h3]
        clear h3
        go_wp2_with fail
        go_ret
        exact ⟨rfl, H.out.1⟩
    · have b2 : (zi == i) = false := by simpa using h2
      obtain rfl : r = false := by rw [H.out.2]; simp [h2]
      clear h2
      go_wp2_with fail
      go_ret
      exact ⟨rfl, H.out.1⟩
  · have b1 : (zn == p) = false := by simpa using h1
    obtain rfl : r = false := by rw [H.out.2]; simp [h1]
    clear h1
    go_wp2_with fail
    go_ret
    exact ⟨rfl, H.out.1⟩

/-- The k-th mark's words. -/
theorem Mks.ints {w : World} {Z : Nat → Prop} {A : Option Addr} {n : Nat} {hs : List MkV} (h : Mks w Z A n hs) {k : Nat} (hk : k < n) :
    ∃ b o x, A = some ⟨b, o, none⟩ ∧ (∃ hl : k < hs.length, x = hs[k]) ∧ w.rangeAt b (o + k * 26) x.cells := by
  obtain ⟨b, o, rfl, -, hl, hr⟩ := h.at1 hk
  exact ⟨b, o, hs[k], rfl, ⟨hl, rfl⟩, hr⟩
theorem dsOf_snoc {hs : List MkV} {k : Nat} {x : MkV} (h : ∃ hl : k < hs.length, x = hs[k]) : dsOf (hs.take (k + 1)) = dsOf (hs.take k) ++ [x.d] := by
  obtain ⟨hl, rfl⟩ := h
  exact dsOf_take hl
theorem dsOf_all {hs : List MkV} {n : Nat} (h : hs.length = n) : hs.take n = hs := List.take_of_length_le (by rw [h]; exact Nat.le_refl _)

set_option maxRecDepth 20000 in
set_option maxHeartbeats 400000 in
theorem present_any (Z : Nat → Prop) (A : Option Addr) (n c : Nat) (hs : List MkV) (p : Int) (w : World) (h : Mks w Z A n hs) :
    Calls Try.prog 54 #[.slice A n c, .int .i64 p] w fun e w' => e = .returned (.tuple #[.bool (presD p (dsOf hs)).1, .int .i64 (presD p (dsOf hs)).2]) ∧ w = w' := by
  have HM := Lib.hid h
  have hle := h.le
  clear h
  obtain ⟨R, hR⟩ : ∃ R, R = presD p (dsOf hs) := ⟨_, rfl⟩
  rw [← hR]
  have HR := Lib.hid hR
  clear hR
  go_enter Try.func54, Try.ntmps54
  go_wp2
  go_loopw [6, 7, 8] (fun uv iv kv wr => ∃ (k : Nat) (u : Bool) (z : Int), k ≤ n ∧ uv = .bool u ∧ iv = .int .i64 z ∧ kv = .int .i64 (k : Int) ∧ wr = w ∧ Hid ((u, z) = presD p (dsOf (hs.take k)))) (fun _ _ i _ => n - (intOf i).toNat)
  case atStart => exact ⟨0, false, 0, Nat.zero_le _, rfl, rfl, rfl, rfl, Lib.hid rfl⟩
  case round =>
    obtain ⟨k, u, z, hk, rfl, rfl, rfl, rfl, HW⟩ := hrel
    by_cases hlt : k < n
    · obtain ⟨b, o, x, rfl, hx, hr⟩ := HM.out.ints hlt
      obtain ⟨zk, hzk⟩ : ∃ z, z = x.d.kind := ⟨_, rfl⟩
      obtain ⟨zn, hzn⟩ : ∃ z, z = x.d.node := ⟨_, rfl⟩
      obtain ⟨zi, hzi⟩ : ∃ z, z = x.d.inc := ⟨_, rfl⟩
      have c1 : wr.cell? ⟨b, o + k * 26 + 1, none⟩ = some (.int .i64 zk) := hzk ▸ hr 1 _ rfl
      have c2 : wr.cell? ⟨b, o + k * 26 + 2, none⟩ = some (.int .i64 zn) := hzn ▸ hr 2 _ rfl
      have c3 : wr.cell? ⟨b, o + k * 26 + 3, none⟩ = some (.int .i64 zi) := hzi ▸ hr 3 _ rfl
      have HS := Lib.hid (show presD p (dsOf (hs.take (k + 1))) = if zn ≠ p then (u, z) else if zk = 1 then (true, zi) else if zk = 2 then (false, z) else (u, z) by
        rw [dsOf_snoc hx, presD_snoc, ← HW.out]
        unfold presS
        rw [hzn, hzk, hzi])
      clear hx hr hzk hzn hzi HW
      by_cases h1 : zn = p
      · have b1 : (zn != p) = false := by simpa using h1
        have b1' : (zn == p) = true := by simpa using h1
        by_cases h2 : zk = 1
        · subst h2
          go_wp2_with fail
          exact ⟨⟨k + 1, true, zi, by omega, rfl, rfl, by simp, by trivial, Lib.hid (by rw [HS.out, if_neg (fun a => a h1)]; rfl)⟩, by simp [intOf]; omega⟩
        · have b2 : (zk == 1) = false := by simpa using h2
          by_cases h3 : zk = 2
          · subst h3
            go_wp2_with fail
            exact ⟨⟨k + 1, false, z, by omega, rfl, rfl, by simp, by trivial, Lib.hid (by rw [HS.out, if_neg (fun a => a h1)]; rfl)⟩, by simp [intOf]; omega⟩
          · have b3 : (zk == 2) = false := by simpa using h3
            go_wp2_with fail
            exact ⟨⟨k + 1, u, z, by omega, rfl, rfl, by simp, by trivial, Lib.hid (by rw [HS.out, if_neg (fun a => a h1), if_neg h2, if_neg h3])⟩, by simp [intOf]; omega⟩
      · have b1 : (zn != p) = true := by simpa using h1
        have b1' : (zn == p) = false := by simpa using h1
        go_wp2_with fail
        exact ⟨⟨k + 1, u, z, by omega, rfl, rfl, by simp, by trivial, Lib.hid (by rw [HS.out, if_pos h1])⟩, by simp [intOf]; omega⟩
    · obtain rfl : k = n := by omega
      have e : R = (u, z) := by rw [HR.out, HW.out, dsOf_all HM.out.len]
      subst e
      clear HW HR
      go_wp2_with fail
      go_ret2
      exact ⟨rfl, rfl⟩

set_option maxRecDepth 20000 in
theorem among_any (Z : Nat → Prop) (A : Option Addr) (n c : Nat) (xs : List MemD) (p : Int) (w : World) (h : Rd w Z 3 A n (rcells MemD.cells xs)) (hl : xs.length = n) (hn : n ≤ 1048576) :
    Calls Try.prog 60 #[.slice A n c, .int .i64 p] w fun e w' => e = .returned (.int .i64 (idxZ (fun x : MemD => decide (x.p = p)) xs)) ∧ w = w' := by
  have HM := Lib.hid (And.intro h hl)
  clear h hl
  obtain ⟨R, hR⟩ : ∃ R, R = idxZ (fun x : MemD => decide (x.p = p)) xs := ⟨_, rfl⟩
  rw [← hR]
  have HR := Lib.hid hR
  clear hR
  go_enter Try.func60, Try.ntmps60
  go_wp2
  go_loopw [5] (fun kv wr => ∃ k : Nat, k ≤ n ∧ kv = .int .i64 (k : Int) ∧ wr = w ∧ Hid (∀ (j : Nat) (hj : j < xs.length), j < k → decide (xs[j].p = p) = false)) (fun i _ => n - (intOf i).toNat)
  case atStart => exact ⟨0, Nat.zero_le _, rfl, rfl, Lib.hid fun j _ h => absurd h (Nat.not_lt_zero j)⟩
  case round =>
    obtain ⟨k, hk, rfl, rfl, HW⟩ := hrel
    by_cases hlt : k < n
    · have hkl : k < xs.length := by rw [HM.out.2]; exact hlt
      obtain ⟨b, o, rfl, hz, hr⟩ := Rd.range mem_three HM.out.1 hkl hlt
      obtain ⟨zp, hzp⟩ : ∃ z, z = xs[k].p := ⟨_, rfl⟩
      have c0 : wr.cell? ⟨b, o + k * 3, none⟩ = some (.int .i64 zp) := hzp ▸ hr 0 _ rfl
      have HX := Lib.hid (show ∃ hl : k < xs.length, zp = xs[k].p from ⟨hkl, hzp⟩)
      clear hr hz hzp hkl
      by_cases h1 : zp = p
      · have b1 : (zp == p) = true := by simpa using h1
        obtain rfl : R = (k : Int) := by
          obtain ⟨hl, e⟩ := HX.out
          rw [HR.out]
          exact idx_hit HW.out hl (decide_eq_true (e ▸ h1))
        clear h1
        go_wp2_with fail
        go_ret
        exact ⟨rfl, rfl⟩
      · have b1 : (zp == p) = false := by simpa using h1
        have HN := Lib.hid (show ∀ (j : Nat) (hj : j < xs.length), j < k + 1 → decide (xs[j].p = p) = false by
          obtain ⟨hl, e⟩ := HX.out
          exact none_snoc (p := fun x : MemD => decide (x.p = p)) HW.out hl (decide_eq_false (fun a => h1 (e.trans a))))
        clear h1 HW
        go_wp2_with fail
        exact ⟨⟨k + 1, by omega, by simp, by trivial, HN⟩, by simp [intOf]; omega⟩
    · obtain rfl : k = n := by omega
      obtain rfl : R = -1 := by
        rw [HR.out]
        exact idx_miss fun j hj _ => HW.out j hj (by rw [← HM.out.2]; exact hj)
      clear HW HR
      go_wp2_with fail
      go_ret
      exact ⟨rfl, rfl⟩

set_option maxRecDepth 20000 in
theorem holds_any (Z : Nat → Prop) (A : Option Addr) (n c : Nat) (xs : List Int) (p : Int) (w : World) (h : Rd w Z 1 A n (ics xs)) (hl : xs.length = n) (hn : n ≤ 1048576) :
    Calls Try.prog 88 #[.slice A n c, .int .i64 p] w fun e w' => e = .returned (.bool (xs.contains p)) ∧ w = w' := by
  have HM := Lib.hid (And.intro h hl)
  clear h hl
  obtain ⟨R, hR⟩ : ∃ R, R = xs.contains p := ⟨_, rfl⟩
  rw [← hR]
  have HR := Lib.hid hR
  clear hR
  go_enter Try.func88, Try.ntmps88
  go_wp2
  go_loopw [5] (fun kv wr => ∃ k : Nat, k ≤ n ∧ kv = .int .i64 (k : Int) ∧ wr = w ∧ Hid (∀ (j : Nat) (hj : j < xs.length), j < k → xs[j] ≠ p)) (fun i _ => n - (intOf i).toNat)
  case atStart => exact ⟨0, Nat.zero_le _, rfl, rfl, Lib.hid fun j _ h => absurd h (Nat.not_lt_zero j)⟩
  case round =>
    obtain ⟨k, hk, rfl, rfl, HW⟩ := hrel
    by_cases hlt : k < n
    · have hkl : k < xs.length := by rw [HM.out.2]; exact hlt
      obtain ⟨b, o, rfl, hz, hl1, hc⟩ := HM.out.1.at1 hlt
      obtain ⟨zp, hzp⟩ : ∃ z, z = xs[k] := ⟨_, rfl⟩
      have c0 : wr.cell? ⟨b, o + k, none⟩ = some (.int .i64 zp) := by rw [hc, hzp]; simp [ics]
      have HX := Lib.hid (show ∃ hl : k < xs.length, zp = xs[k] from ⟨hkl, hzp⟩)
      clear hc hz hzp hkl hl1
      by_cases h1 : zp = p
      · have b1 : (zp == p) = true := by simpa using h1
        obtain rfl : R = true := by
          obtain ⟨hl, e⟩ := HX.out
          rw [HR.out, List.contains_iff_mem, ← h1, e]
          exact List.getElem_mem hl
        clear h1
        go_wp2_with fail
        go_ret
        exact ⟨rfl, rfl⟩
      · have b1 : (zp == p) = false := by simpa using h1
        have HN := Lib.hid (show ∀ (j : Nat) (hj : j < xs.length), j < k + 1 → xs[j] ≠ p by
          obtain ⟨hl, e⟩ := HX.out
          intro j hj hj1
          rcases Nat.lt_succ_iff_lt_or_eq.1 hj1 with h2 | h2
          · exact HW.out j hj h2
          · subst h2; rw [← e]; exact h1)
        clear h1 HW
        go_wp2_with fail
        exact ⟨⟨k + 1, by omega, by simp, by trivial, HN⟩, by simp [intOf]; omega⟩
    · obtain rfl : k = n := by omega
      obtain rfl : R = false := by
        rw [HR.out, Bool.eq_false_iff]
        intro a
        rw [List.contains_iff_mem] at a
        obtain ⟨j, hj, e⟩ := List.mem_iff_getElem.1 a
        exact HW.out j hj (by rw [← HM.out.2]; exact hj) e
      clear HW HR
      go_wp2_with fail
      go_ret
      exact ⟨rfl, rfl⟩

theorem mem_ne {x y : MemD} (h : x ≠ y) : (x.p == y.p) = false ∨ (x.p = y.p ∧ (x.i == y.i) = false) ∨ (x.p = y.p ∧ x.i = y.i ∧ (x.c == y.c) = false) := by
  obtain ⟨a, b, c⟩ := x
  obtain ⟨a', b', c'⟩ := y
  by_cases e1 : a = a'
  · by_cases e2 : b = b'
    · exact .inr (.inr ⟨e1, e2, by simpa using fun e3 => h (by rw [e1, e2, e3])⟩)
    · exact .inr (.inl ⟨e1, by simpa using e2⟩)
  · exact .inl (by simpa using e1)
theorem nemem (x y : MemD) (w : World) : Sem.run Try.prog (binOp BinOp.neq 55 (.agg #[.int .i64 x.p, .int .i64 x.i, .int .i64 x.c]) (.agg #[.int .i64 y.p, .int .i64 y.i, .int .i64 y.c])) w = .ok (.bool (decide (x ≠ y))) w := by
  by_cases h : x = y
  · subst h
    rw [decide_eq_false (by simp)]
    go_simp
  · rw [decide_eq_true h]
    rcases mem_ne h with hb | ⟨e, hb⟩ | ⟨e, e2, hb⟩
    · go_simp
    · go_simp
    · go_simp
set_option maxRecDepth 20000 in
theorem rsame_any (Z1 Z2 : Nat → Prop) (A1 A2 : Option Addr) (n1 c1 n2 c2 : Nat) (xs ys : List MemD) (w : World) (h1 : Rd w Z1 3 A1 n1 (rcells MemD.cells xs)) (h2 : Rd w Z2 3 A2 n2 (rcells MemD.cells ys)) (hl1 : xs.length = n1) (hl2 : ys.length = n2) (hn1 : n1 ≤ 1048576) (hn2 : n2 ≤ 1048576) :
    Calls Try.prog 87 #[.slice A1 n1 c1, .slice A2 n2 c2] w fun e w' => e = .returned (.bool (decide (xs = ys))) ∧ Fresh w w' := by
  have HM := Lib.hid (And.intro h1 (And.intro h2 (And.intro hl1 hl2)))
  clear h1 h2 hl1 hl2
  obtain ⟨R, hR⟩ : ∃ R, R = decide (xs = ys) := ⟨_, rfl⟩
  rw [← hR]
  have HR := Lib.hid hR
  clear hR
  by_cases hne : n1 = n2
  · subst hne
    go_enter Try.func87, Try.ntmps87
    go_wp2
    go_loopw [5] (fun kv wr => ∃ k : Nat, k ≤ n1 ∧ kv = .int .i64 (k : Int) ∧ Hid (Fresh w wr ∧ ∀ (j : Nat) (hj : j < xs.length) (hj2 : j < ys.length), j < k → xs[j] = ys[j])) (fun i _ => n1 - (intOf i).toNat)
    case atStart => exact ⟨0, Nat.zero_le _, rfl, Lib.hid ⟨Keep.refl _ _, fun j _ _ h => absurd h (Nat.not_lt_zero j)⟩⟩
    case round =>
      rename World => wr
      obtain ⟨k, hk, rfl, HW⟩ := hrel
      by_cases hlt : k < n1
      · have hkl : k < xs.length := by rw [HM.out.2.2.1]; exact hlt
        have hkl2 : k < ys.length := by rw [HM.out.2.2.2]; exact hlt
        obtain ⟨b, o, rfl, hz, hr⟩ := Rd.range mem_three (HM.out.1.keep (HW.out.1.weaken fun _ _ _ => trivial)) hkl hlt
        obtain ⟨b2, o2, rfl, hz2, hr2⟩ := Rd.range mem_three (HM.out.2.1.keep (HW.out.1.weaken fun _ _ _ => trivial)) hkl2 hlt
        obtain ⟨x, hx⟩ : ∃ x, x = xs[k] := ⟨_, rfl⟩
        obtain ⟨y, hy⟩ : ∃ y, y = ys[k] := ⟨_, rfl⟩
        rw [← hx] at hr
        rw [← hy] at hr2
        have c0 : wr.cell? ⟨b, o + k * 3, none⟩ = some (.int .i64 x.p) := hr 0 _ rfl
        have c1' : wr.cell? ⟨b, o + k * 3 + 1, none⟩ = some (.int .i64 x.i) := hr 1 _ rfl
        have c2' : wr.cell? ⟨b, o + k * 3 + 2, none⟩ = some (.int .i64 x.c) := hr 2 _ rfl
        have d0 : wr.cell? ⟨b2, o2 + k * 3, none⟩ = some (.int .i64 y.p) := hr2 0 _ rfl
        have d1 : wr.cell? ⟨b2, o2 + k * 3 + 1, none⟩ = some (.int .i64 y.i) := hr2 1 _ rfl
        have d2 : wr.cell? ⟨b2, o2 + k * 3 + 2, none⟩ = some (.int .i64 y.c) := hr2 2 _ rfl
        have HX := Lib.hid (show ∃ (hl : k < xs.length) (hl2 : k < ys.length), x = xs[k] ∧ y = ys[k] from ⟨hkl, hkl2, hx, hy⟩)
        have Q := fun w => nemem x y w
        obtain ⟨q, hq⟩ : ∃ q, q = decide (x ≠ y) := ⟨_, rfl⟩
        rw [← hq] at Q
        have HQ := Lib.hid hq
        clear hr hz hx hr2 hz2 hy hkl hkl2 hq
        cases q
        · have HN := Lib.hid (show ∀ (j : Nat) (hj : j < xs.length) (hj2 : j < ys.length), j < k + 1 → xs[j] = ys[j] by
            obtain ⟨hl, hl2, e1, e2⟩ := HX.out
            intro j hj hj2 hj1
            rcases Nat.lt_succ_iff_lt_or_eq.1 hj1 with h2 | h2
            · exact HW.out.2 j hj hj2 h2
            · subst h2
              rw [← e1, ← e2]
              have := HQ.out
              simpa using this)
          have HF := Lib.hid HW.out.1
          clear HW
          go_wp2_with fail
          go_quiet (fail)
          go_wp2_with fail
          exact ⟨⟨k + 1, by omega, by simp, Lib.hid ⟨HF.out.drewN _, HN.out⟩⟩, by simp [intOf]; omega⟩
        · obtain rfl : R = false := by
            obtain ⟨hl, hl2, e1, e2⟩ := HX.out
            rw [HR.out]
            refine decide_eq_false fun a => ?_
            have h3 : x ≠ y := by simpa using HQ.out
            subst a
            exact h3 (by rw [e1, e2])
          have HF := Lib.hid HW.out.1
          clear HW
          go_wp2_with fail
          go_quiet (fail)
          go_wp2_with fail
          go_ret
          exact ⟨rfl, HF.out.drewN _⟩
      · obtain rfl : k = n1 := by omega
        obtain rfl : R = true := by
          rw [HR.out]
          refine decide_eq_true (List.ext_getElem (by rw [HM.out.2.2.1, HM.out.2.2.2]) fun j hj hj2 => HW.out.2 j hj hj2 (by rw [← HM.out.2.2.1]; exact hj))
        have HF := Lib.hid HW.out.1
        clear HW HR
        go_wp2_with fail
        go_ret
        exact ⟨rfl, HF.out⟩
  · obtain rfl : R = false := by
      rw [HR.out]
      exact decide_eq_false fun a => hne (by rw [← HM.out.2.2.1, ← HM.out.2.2.2, a])
    have b1 : ((n1 : Int) == (n2 : Int)) = false := by simpa using (show ¬ (n1 : Int) = (n2 : Int) by omega)
    have b2 : ((n1 : Int) != (n2 : Int)) = true := by simpa using (show ¬ (n1 : Int) = (n2 : Int) by omega)
    clear hne HR
    go_enter Try.func87, Try.ntmps87
    go_wp2_with fail
    go_ret
    exact ⟨rfl, Keep.refl _ _⟩
end Go.Proofs.Ytfpcmleeehciaaa
namespace Go.Proofs.Ytfpcmleeehciaaa
set_option linter.unusedVariables false
set_option linter.unusedSimpArgs false
open Go.RowKit Go.Shelf

def stanV (s : StanD) (vm : Value) : Array Value := #[.bool s.halted, .bool s.blocked, .int .i64 s.id.1, .int .i64 s.id.2.1, .int .i64 s.id.2.2.1, .int .i64 s.id.2.2.2, .int .i64 s.prev.1, .int .i64 s.prev.2.1, .int .i64 s.prev.2.2.1, .int .i64 s.prev.2.2.2, vm, .int .i64 (s.acc : Int), .int .i64 (s.del : Int), .int .i64 (s.own : Int), .int .i64 s.lastPos, .int .i64 s.safe]
theorem stan_le (x : Who) (l : List MarkD) : (stanD x l).acc ≤ l.length ∧ (stanD x l).del ≤ l.length ∧ (stanD x l).own ≤ l.length := by
  suffices h : ∀ (n : Nat) (l : List MarkD), l.length = n → (stanD x l).acc ≤ n ∧ (stanD x l).del ≤ n ∧ (stanD x l).own ≤ n from h _ l rfl
  intro n
  induction n with
  | zero =>
    intro l hl
    obtain rfl := List.length_eq_zero_iff.1 hl
    exact ⟨Nat.le_refl _, Nat.le_refl _, Nat.le_refl _⟩
  | succ n ih =>
    intro l hl
    rcases List.eq_nil_or_concat l with rfl | ⟨r, m, rfl⟩
    · cases hl
    · rw [List.concat_eq_append] at hl ⊢
      have h1 := ih r (by simpa using hl)
      rw [stanD_snoc]
      unfold stanS
      split
      · omega
      split
      · exact ⟨Nat.zero_le _, Nat.zero_le _, Nat.zero_le _⟩
      split
      · exact ⟨by show (stanD x r).acc ≤ _; omega, by show (stanD x r).del ≤ _; omega, by show (stanD x r).own ≤ _; omega⟩
      split
      · exact ⟨by show (stanD x r).acc ≤ _; omega, by show (stanD x r).del ≤ _; omega, by show (stanD x r).own ≤ _; omega⟩
      split
      · exact ⟨Nat.zero_le _, Nat.zero_le _, Nat.zero_le _⟩
      split
      · exact ⟨by show (stanD x r).acc + 1 ≤ _; omega, by show (stanD x r).del ≤ _; omega, by show (stanD x r).own ≤ _; omega⟩
      split
      · refine ⟨by show (stanD x r).acc ≤ _; omega, by show (stanD x r).del + 1 ≤ _; omega, ?_⟩
        show (if _ then (stanD x r).own + 1 else (stanD x r).own) ≤ _
        split
        · exact Nat.succ_le_succ h1.2.2
        · exact Nat.le_succ_of_le h1.2.2
      split
      · exact ⟨by show (stanD x r).acc ≤ _; omega, by show (stanD x r).del ≤ _; omega, by show (stanD x r).own ≤ _; omega⟩
      · exact ⟨Nat.le_succ_of_le h1.1, Nat.le_succ_of_le h1.2.1, Nat.le_succ_of_le h1.2.2⟩
/-- What a stand's variable holds behind k marks. -/
structure StanI (w wr : World) (b7 b6 : Nat) (s : StanD) (vm : Value) : Prop where
  blk : Blk wr b7 87 (stanV s vm)
  res : Blk wr b6 87 (stanV ⟨false, false, nov, nov, [], 0, 0, 0, 0, 0⟩ (.slice none 0 0))
  mem : SlOk wr (fun j => j < w.heap.size) 3 s.mem.length vm (rcells MemD.cells s.mem)
  le : s.mem.length ≤ 1048576
  fresh : Fresh w wr
theorem StanI.put {w wr w' : World} {b7 b6 : Nat} {s s' : StanD} {vm vm' : Value} (h : StanI w wr b7 b6 s vm) (hk : Keep (fun j => j ≠ b7) wr w') (h7 : w.heap.size ≤ b7) (h6 : b6 ≠ b7) (hb : Blk w' b7 87 (stanV s' vm')) (hm : SlOk wr (fun j => j < w.heap.size) 3 s'.mem.length vm' (rcells MemD.cells s'.mem)) (hl : s'.mem.length ≤ 1048576) : StanI w w' b7 b6 s' vm' :=
  ⟨hb, h.res.keep hk h6, SlOk.weaken (Z := fun j => j < w.heap.size ∧ j ≠ b7) (by
    exact (hm.weaken fun j hj => ⟨hj, fun e => by omega⟩).keep (hk.weaken fun j _ h => h.2)) (fun j h => h.1), hl, h.fresh.comp hk (fun _ _ h => h) (fun i hi _ e => by omega)⟩
theorem StanI.more {w wr w' : World} {b7 b6 : Nat} {s : StanD} {vm : Value} (h : StanI w wr b7 b6 s vm) (hk : Fresh wr w') : StanI w w' b7 b6 s vm :=
  ⟨h.blk.keep hk trivial, h.res.keep hk trivial, h.mem.keep (hk.weaken fun _ _ _ => trivial), h.le, h.fresh.trans hk⟩
theorem blk_whole {w : World} {b : Nat} {t : TypeId} {cs cs' : Array Value} (h : Blk w b t cs) (hs : cs.size = cs'.size) : Blk (w.setCells b 0 cs'.toList) b t cs' := by
  obtain ⟨ds, h1, h2⟩ := Blk.setCells cs'.toList 0 _ _ h (by simp [hs])
  have e : ds = cs' := by
    apply Array.ext'
    rw [h2]
    simp [hs]
  rw [e] at h1
  exact h1
theorem stan_one (s : StanD) (vm : Value) (h : vm.oneCell' = true) : (stanV s vm).all (·.oneCell') = true := by
  have e1 : ∀ b, (Value.bool b).oneCell' = true := fun _ => rfl
  have e2 : ∀ z, (Value.int .i64 z).oneCell' = true := fun _ => rfl
  simp [stanV, e1, e2, h]

set_option maxRecDepth 20000 in
set_option maxHeartbeats 4000000 in
theorem stand_any (A : Option Addr) (n c : Nat) (hs : List MkV) (p i : Int) (w : World) (h : Mks w (fun _ => True) A n hs) (hok : ∀ x ∈ hs, MkOk w (fun _ => True) x) :
    Calls Try.prog 28 #[.slice A n c, .int .i64 p, .int .i64 i] w fun e w' =>
      (∃ vm, e = .returned (.agg (stanV (stanD (p, i) (dsOf hs)) vm)) ∧ SlOk w' (fun j => j < w.heap.size) 3 (stanD (p, i) (dsOf hs)).mem.length vm (rcells MemD.cells (stanD (p, i) (dsOf hs)).mem) ∧ (stanD (p, i) (dsOf hs)).mem.length ≤ 1048576) ∧ Fresh w w' := by
  have HM := Lib.hid (And.intro h (show ∀ x ∈ hs, MkOk w (fun j => j < w.heap.size) x from fun x hx => (hok x hx).existing))
  have hle := h.le
  clear h hok
  obtain ⟨R, hR⟩ : ∃ R, R = stanD (p, i) (dsOf hs) := ⟨_, rfl⟩
  rw [← hR]
  have HR := Lib.hid hR
  clear hR
  go_enter Try.func28, Try.ntmps28
  go_upto_region 2 with (fail)
  obtain ⟨b6, hb6⟩ : ∃ b, b = w.heap.size := ⟨_, rfl⟩
  obtain ⟨b7, hb7⟩ : ∃ b, b = w.heap.size + 1 := ⟨_, rfl⟩
  have h0 : StanI w ((w.alloc (.cells (stanV ⟨false, false, nov, nov, [], 0, 0, 0, 0, 0⟩ (.slice none 0 0)) 87)).alloc (.cells (stanV stan0 (.slice none 0 0)) 87)) b7 b6 stan0 (.slice none 0 0) := by
    refine ⟨?_, ?_, ⟨none, 0, rfl, Nat.le_refl _, fun _ => .inl rfl, Rd.nil _ _ _ _⟩, Nat.zero_le _, ((Keep.refl _ w).alloc _).alloc _⟩
    · have := Blk.new (w.alloc (.cells (stanV ⟨false, false, nov, nov, [], 0, 0, 0, 0, 0⟩ (.slice none 0 0)) 87)) 87 (stanV stan0 (.slice none 0 0))
      have e : (w.alloc (.cells (stanV ⟨false, false, nov, nov, [], 0, 0, 0, 0, 0⟩ (.slice none 0 0)) 87)).heap.size = w.heap.size + 1 := Array.size_push _
      rw [e, ← hb7] at this
      exact this
    · rw [hb6]
      exact (Blk.new w _ _).alloc _
  rw [← hb7, ← hb6]
  generalize hw1 : World.alloc (World.alloc w _) _ = w1
  have H0 : Hid (StanI w w1 b7 b6 stan0 (.slice none 0 0)) := Lib.hid (hw1 ▸ h0)
  have HB := Lib.hid (And.intro hb6 hb7)
  clear h0 hw1 hb6 hb7
  go_wp2_with fail
  go_loopw [8] (fun iv wr => ∃ k : Nat, k ≤ n ∧ iv = .int .i64 (k : Int) ∧ Hid (∃ s vm, s = stanD (p, i) (dsOf (hs.take k)) ∧ StanI w wr b7 b6 s vm)) (fun i _ => n - (intOf i).toNat)
  case atStart => exact ⟨0, Nat.zero_le _, rfl, Lib.hid ⟨stan0, _, rfl, H0.out⟩⟩
  case round =>
    rename World => wr
    obtain ⟨k, hk, rfl, HW⟩ := hrel
    by_cases hlt : k < n
    · obtain ⟨s, vm, hs0, hI⟩ := HW.out
      obtain ⟨b, o, x, rfl, hx, hr⟩ := (HM.out.1.keep hI.fresh).ints hlt
      have hone : MkOne x := by obtain ⟨hl, rfl⟩ := hx; exact HM.out.1.one _ (List.getElem_mem hl)
      have hxo : MkOk wr (fun j => j < w.heap.size) x := by
        obtain ⟨hl, rfl⟩ := hx
        exact (HM.out.2 _ (List.getElem_mem hl)).keep (hI.fresh.weaken fun _ _ _ => trivial)
      have hxf : x.d.mem.length ≤ 1048576 := by obtain ⟨hl, rfl⟩ := hx; exact (HM.out.1.fit _ (List.getElem_mem hl)).m
      have hS : stanD (p, i) (dsOf (hs.take (k + 1))) = stanS (p, i) s x.d := by rw [dsOf_snoc hx, stanD_snoc, hs0]
      have hle2 := stan_le (p, i) (dsOf (hs.take k))
      rw [← hs0, dsOf_len, List.length_take] at hle2
      have HR1 := Lib.hid (And.intro hr (And.intro hone (And.intro hS (And.intro hI (And.intro hxo hxf)))))
      have HLe : Hid (s.acc ≤ 1048576 ∧ s.del ≤ 1048576 ∧ s.own ≤ 1048576) := Lib.hid (by omega)
      clear hr hone hS hI hx hs0 hxo hxf hle2
      go_wp2_with (first | (refine wpList_load_mid rfl 50 _ rfl b (o + k * 26) rfl x.cells _ HR1.out.1 Try.underlying50 rfl (by kernel_rfl) ?_) | (refine wpList_store_new rfl (.tmp 9) (.tmp 20) rfl _ x.cells.toArray _ rfl rfl rfl (by kernel_rfl) (Array.all_eq_true_iff_forall_mem.2 fun u hu => mk_one HR1.out.2.1 u (by simpa using hu)) ?_))
      intro w1 hb1 hf1 hs1
      obtain ⟨c9, hc9⟩ : ∃ b, b = wr.heap.size := ⟨_, rfl⟩
      rw [← hc9] at hb1 ⊢
      have HRm := Lib.hid (MkB.mk hb1 : MkB w1 c9 x).range0
      have HC := Lib.hid (mine_any x p i w1)
      have H1 := Lib.hid (And.intro (HR1.out.2.2.2.1.more hf1) (And.intro (MkB.mk hb1 : MkB w1 c9 x) (And.intro (HR1.out.2.2.2.2.1.keep (hf1.weaken fun _ _ _ => trivial)) hc9)))
      have lm := hb1.lt
      clear hb1 hf1 hs1 hc9
      go_wp2_with (refine wpList_load_mid rfl 50 _ rfl c9 0 rfl x.cells _ HRm.out Try.underlying50 rfl (by kernel_rfl) ?_)
      obtain ⟨q, hq⟩ : ∃ q, q = mineD x.d (p, i) := ⟨_, rfl⟩
      rw [← hq] at HC
      have HQ := Lib.hid hq
      clear hq lm HRm
      refine Calls.mono HC.out ?_
      rintro e w2 ⟨rfl, hf2⟩
      have H2 := Lib.hid (And.intro (H1.out.1.more hf2) (And.intro (MkB.mk (H1.out.2.1.blk.keep hf2 trivial) : MkB w2 c9 x) (And.intro (H1.out.2.2.1.keep (hf2.weaken fun _ _ _ => trivial)) (show c9 ≠ b7 by rw [H1.out.2.2.2]; have := HR1.out.2.2.2.1.blk.lt; omega))))
      clear hf2 HC H1
      cases q
      · have e : stanS (p, i) s x.d = s := by
          have hq := HQ.out
          unfold stanS
          rw [if_pos]
          unfold mineD at hq
          by_cases a : x.d.who = (p, i)
          · right
            simpa [a] using hq
          · exact .inl a
        have HE := Lib.hid e
        clear e
        go_wp2_with fail
        exact ⟨⟨k + 1, by omega, by simp, Lib.hid ⟨s, vm, by rw [HR1.out.2.2.1, HE.out], H2.out.1⟩⟩, by simp [intOf]; omega⟩
      · have hm1 : x.d.who = (p, i) ∧ x.d.kind ≠ 15 := by
          have hq := HQ.out
          unfold mineD at hq
          simpa using hq.symm
        have e : stanS (p, i) s x.d = if x.d.kind = 1 then stan0 else if x.d.kind = 3 then { s with halted := true } else if x.d.kind = 6 then { s with blocked := true } else if x.d.kind = 7 then ⟨s.halted, false, x.d.id, s.id, x.d.mem, 0, 0, 0, 0, 0⟩ else if x.d.kind = 4 then { s with acc := s.acc + 1 } else if x.d.kind = 8 then { s with del := s.del + 1, lastPos := x.d.pos, own := if x.d.sender = p then s.own + 1 else s.own } else if x.d.kind = 9 then { s with safe := x.d.pos } else s := by
          conv => lhs; unfold stanS
          rw [if_neg (by rintro (a | a); exact a hm1.1; exact hm1.2 a)]
        have HE := Lib.hid e
        clear e hm1
        have c1 := H2.out.2.1.kind
        have lm := H2.out.2.1.blk.lt
        have l7 := H2.out.1.blk.lt
        obtain ⟨zk, hzk⟩ : ∃ z, z = x.d.kind := ⟨_, rfl⟩
        rw [← hzk] at c1
        rw [← hzk] at HE
        have HZK := Lib.hid hzk
        clear hzk
        have fin : ∀ (w' : World) (s' : StanD) (vm' : Value), Keep (fun j => j ≠ b7) w2 w' → Blk w' b7 87 (stanV s' vm') → SlOk w2 (fun j => j < w.heap.size) 3 s'.mem.length vm' (rcells MemD.cells s'.mem) → s'.mem.length ≤ 1048576 → stanS (p, i) s x.d = s' → Hid (∃ s vm, s = stanD (p, i) (dsOf (hs.take (k + 1))) ∧ StanI w w' b7 b6 s vm) := fun w' s' vm' hk hb hm hl he =>
          Lib.hid ⟨s', vm', by rw [HR1.out.2.2.1, he], H2.out.1.put hk (by rw [HB.out.2]; omega) (by rw [HB.out.1, HB.out.2]; omega) hb hm hl⟩
        have HFin := Lib.hid fin
        clear fin
        by_cases k1 : zk = 1
        · subst k1
          have HTh := Lib.hid H2.out.1.blk.there
          go_wp2_with (refine wpList_store_to rfl 87 (.tmp 7) (.tmp 30) rfl b7 0 (stanV stan0 (.slice none 0 0)) rfl rfl HTh.out (by kernel_rfl) (stan_one _ _ rfl) ?_)
          intro w5 hw5
          have HN := Lib.hid (HFin.out w5 stan0 (.slice none 0 0) (by rw [hw5.out]; exact Keep.setCells _ _ _ (Keep.refl _ _) (fun _ e => e rfl)) (by rw [hw5.out]; exact blk_whole H2.out.1.blk rfl) ⟨none, 0, rfl, Nat.le_refl _, fun _ => .inl rfl, Rd.nil _ _ _ _⟩ (Nat.zero_le _) (by rw [HE.out]; rfl))
          clear hw5 HTh
          go_wp2_with fail
          exact ⟨⟨k + 1, by omega, by simp, HN.out⟩, by simp [intOf]; omega⟩
        have b1 : (zk == 1) = false := by simpa using k1
        by_cases k3 : zk = 3
        · subst k3
          have e0 := H2.out.1.blk.frozen 0
          have l0 : w2.cell? ⟨b7, 0, none⟩ = some (.bool s.halted) := H2.out.1.blk.cell 0
          go_wp2_with fail
          refine ⟨⟨k + 1, by omega, by simp, HFin.out _ { s with halted := true } vm ((Keep.refl _ _).setCell (fun _ e => e rfl) _) (H2.out.1.blk.set 0 (.bool true)) H2.out.1.mem H2.out.1.le (by rw [HE.out]; rfl)⟩, by simp [intOf]; omega⟩
        have b3 : (zk == 3) = false := by simpa using k3
        by_cases k6 : zk = 6
        · subst k6
          have e0 := H2.out.1.blk.frozen 1
          have l0 : w2.cell? ⟨b7, 1, none⟩ = some (.bool s.blocked) := H2.out.1.blk.cell 1
          go_wp2_with fail
          refine ⟨⟨k + 1, by omega, by simp, HFin.out _ { s with blocked := true } vm ((Keep.refl _ _).setCell (fun _ e => e rfl) _) (H2.out.1.blk.set 1 (.bool true)) H2.out.1.mem H2.out.1.le (by rw [HE.out]; rfl)⟩, by simp [intOf]; omega⟩
        have b6' : (zk == 6) = false := by simpa using k6
        by_cases k7 : zk = 7
        · subst k7
          have l0 : w2.cell? ⟨b7, 0, none⟩ = some (.bool s.halted) := H2.out.1.blk.cell 0
          have l2 : w2.cell? ⟨b7, 2, none⟩ = some (.int .i64 s.id.1) := H2.out.1.blk.cell 2
          have l3 : w2.cell? ⟨b7, 3, none⟩ = some (.int .i64 s.id.2.1) := H2.out.1.blk.cell 3
          have l4 : w2.cell? ⟨b7, 4, none⟩ = some (.int .i64 s.id.2.2.1) := H2.out.1.blk.cell 4
          have l5 : w2.cell? ⟨b7, 5, none⟩ = some (.int .i64 s.id.2.2.2) := H2.out.1.blk.cell 5
          have m4 := H2.out.2.1.e1; have m5 := H2.out.2.1.e2; have m6 := H2.out.2.1.e3; have m7 := H2.out.2.1.e4; have m8 := H2.out.2.1.vm
          have HTh := Lib.hid H2.out.1.blk.there
          obtain ⟨Av, cv, hvx, -⟩ := H2.out.2.2.1.m
          rw [hvx] at m8
          have HVX := Lib.hid hvx.symm
          clear hvx
          go_wp2_with (refine wpList_store_to rfl 87 (.tmp 7) (.tmp 47) rfl b7 0 (stanV ⟨s.halted, false, x.d.id, s.id, x.d.mem, 0, 0, 0, 0, 0⟩ (.slice Av x.d.mem.length cv)) rfl rfl HTh.out (by kernel_rfl) (stan_one _ _ rfl) ?_)
          intro w5 hw5
          have HN := Lib.hid (HFin.out w5 ⟨s.halted, false, x.d.id, s.id, x.d.mem, 0, 0, 0, 0, 0⟩ (.slice Av x.d.mem.length cv) (by rw [hw5.out]; exact Keep.setCells _ _ _ (Keep.refl _ _) (fun _ e => e rfl)) (by rw [hw5.out]; exact blk_whole H2.out.1.blk rfl) (by rw [HVX.out]; exact H2.out.2.2.1.m) HR1.out.2.2.2.2.2 (by rw [HE.out]; rfl))
          clear hw5 HTh l0 l2 l3 l4 l5 m4 m5 m6 m7 m8
          go_wp2_with fail
          exact ⟨⟨k + 1, by omega, by simp, HN.out⟩, by simp [intOf]; omega⟩
        have b7' : (zk == 7) = false := by simpa using k7
        by_cases k4 : zk = 4
        · subst k4
          have e0 := H2.out.1.blk.frozen 11
          have l0 : w2.cell? ⟨b7, 11, none⟩ = some (.int .i64 (s.acc : Int)) := H2.out.1.blk.cell 11
          have wa : IntKind.i64.wrap ((s.acc : Int) + 1) = (s.acc : Int) + 1 := by have := HLe.out.1; rw [IntWalk.i64_in _ (by omega)]
          go_wp2_with fail
          refine ⟨⟨k + 1, by omega, by simp, HFin.out _ { s with acc := s.acc + 1 } vm ((Keep.refl _ _).setCell (fun _ e => e rfl) _) (H2.out.1.blk.set 11 (.int .i64 ((s.acc : Int) + 1))) H2.out.1.mem H2.out.1.le (by rw [HE.out]; rfl)⟩, by simp [intOf]; omega⟩
        have b4 : (zk == 4) = false := by simpa using k4
        by_cases k8 : zk = 8
        · subst k8
          have e0 := H2.out.1.blk.frozen 12; have e1 := H2.out.1.blk.frozen 13; have e2 := H2.out.1.blk.frozen 14
          have l0 : w2.cell? ⟨b7, 12, none⟩ = some (.int .i64 (s.del : Int)) := H2.out.1.blk.cell 12
          have l1 : w2.cell? ⟨b7, 13, none⟩ = some (.int .i64 (s.own : Int)) := H2.out.1.blk.cell 13
          have l2 : w2.cell? ⟨b7, 14, none⟩ = some (.int .i64 s.lastPos) := H2.out.1.blk.cell 14
          have wa : IntKind.i64.wrap ((s.del : Int) + 1) = (s.del : Int) + 1 := by have := HLe.out.2.1; rw [IntWalk.i64_in _ (by omega)]
          have wb : IntKind.i64.wrap ((s.own : Int) + 1) = (s.own : Int) + 1 := by have := HLe.out.2.2; rw [IntWalk.i64_in _ (by omega)]
          have m10 := H2.out.2.1.sender; have m12 := H2.out.2.1.pos
          have hne := H2.out.2.2.2
          obtain ⟨zs, hzs⟩ : ∃ z, z = x.d.sender := ⟨_, rfl⟩
          rw [← hzs] at m10
          have HZS := Lib.hid hzs
          clear hzs
          by_cases hs : zs = p
          · have bs : (zs == p) = true := by simpa using hs
            have HSb := Lib.hid hs
            clear hs
            go_wp2_with fail
            refine ⟨⟨k + 1, by omega, by simp, HFin.out _ { s with del := s.del + 1, lastPos := x.d.pos, own := s.own + 1 } vm ((((Keep.refl _ _).setCell (fun _ e => e rfl) _).setCell (fun _ e => e rfl) _).setCell (fun _ e => e rfl) _) (((H2.out.1.blk.set 12 (.int .i64 ((s.del : Int) + 1))).set 14 (.int .i64 x.d.pos)).set 13 (.int .i64 ((s.own : Int) + 1))) H2.out.1.mem H2.out.1.le ?_⟩, by simp [intOf]; omega⟩
            rw [HE.out, ← HZS.out, HSb.out]
            simp
          · have bs : (zs == p) = false := by simpa using hs
            have HSb := Lib.hid hs
            clear hs
            go_wp2_with fail
            refine ⟨⟨k + 1, by omega, by simp, HFin.out _ { s with del := s.del + 1, lastPos := x.d.pos } vm (((Keep.refl _ _).setCell (fun _ e => e rfl) _).setCell (fun _ e => e rfl) _) ((H2.out.1.blk.set 12 (.int .i64 ((s.del : Int) + 1))).set 14 (.int .i64 x.d.pos)) H2.out.1.mem H2.out.1.le ?_⟩, by simp [intOf]; omega⟩
            rw [HE.out, ← HZS.out]
            simp [HSb.out]
        have b8 : (zk == 8) = false := by simpa using k8
        by_cases k9 : zk = 9
        · subst k9
          have e0 := H2.out.1.blk.frozen 15
          have l0 : w2.cell? ⟨b7, 15, none⟩ = some (.int .i64 s.safe) := H2.out.1.blk.cell 15
          have m12 := H2.out.2.1.pos
          go_wp2_with fail
          refine ⟨⟨k + 1, by omega, by simp, HFin.out _ { s with safe := x.d.pos } vm ((Keep.refl _ _).setCell (fun _ e => e rfl) _) (H2.out.1.blk.set 15 (.int .i64 x.d.pos)) H2.out.1.mem H2.out.1.le (by rw [HE.out]; rfl)⟩, by simp [intOf]; omega⟩
        have b9 : (zk == 9) = false := by simpa using k9
        go_wp2_with fail
        exact ⟨⟨k + 1, by omega, by simp, HFin.out w2 s vm (Keep.refl _ _) H2.out.1.blk H2.out.1.mem H2.out.1.le (by rw [HE.out, if_neg k1, if_neg k3, if_neg k6, if_neg k7, if_neg k4, if_neg k8, if_neg k9])⟩, by simp [intOf]; omega⟩
    · obtain rfl : k = n := by omega
      obtain ⟨s, vm, hs0, hI⟩ := HW.out
      have e : R = s := by rw [HR.out, hs0, dsOf_all HM.out.1.len]
      subst e
      have HI := Lib.hid hI
      have hvo : vm.oneCell' = true := by obtain ⟨_, _, rfl, _⟩ := hI.mem; rfl
      obtain ⟨L, hL⟩ : ∃ L, L = (stanV R vm).toList := ⟨_, rfl⟩
      have hrg : wr.rangeAt b7 0 L := by rw [hL]; exact hI.blk.range
      have hla : L.toArray = stanV R vm := by rw [hL]
      have HL := Lib.hid (And.intro hrg (And.intro hla (And.intro (show L.toArray.all (·.oneCell') = true by rw [hla]; exact stan_one _ _ hvo) (show L.toArray.size = 16 by rw [hla]; rfl))))
      have HTh : Hid (wr.there b6 0 L.toArray.size) := Lib.hid (by rw [HL.out.2.2.2]; exact hI.res.there)
      have hlen : L.length = 16 := by rw [hL]; rfl
      have l6 := hI.res.lt; have l7 := hI.blk.lt
      clear hs0 hI HW HR hvo hL hrg hla
      go_wp2_with (first | (refine wpList_load_mid rfl 87 _ rfl b7 0 rfl L _ HL.out.1 Try.underlying87 rfl (by rw [hlen]; kernel_rfl) ?_) | (refine wpList_store_to rfl 87 (.tmp 6) (.tmp 76) rfl b6 0 L.toArray rfl rfl HTh.out (by rw [HL.out.2.2.2]; kernel_rfl) HL.out.2.2.1 ?_))
      intro w5 hw5
      have hk5 : Keep (fun j => j ≠ b6) wr w5 := by rw [hw5.out]; exact Keep.setCells _ _ _ (Keep.refl _ _) (fun _ e => e rfl)
      have hb5 : Blk w5 b6 87 (stanV R vm) := by
        have e := congrArg Array.toList HL.out.2.1
        rw [List.toList_toArray] at e
        rw [hw5.out, e]
        exact blk_whole HI.out.res rfl
      have H5 := Lib.hid (And.intro hk5 hb5)
      clear hk5 hb5 hw5
      go_wp2_with fail
      refine bodyPost_ret (results_v rfl _ _ b6 87 (stanV R vm) _ rfl H5.out.2 Try.underlying87 rfl (by kernel_rfl)) rfl ?_
      refine ⟨⟨vm, rfl, (HI.out.mem.weaken (fun j hj => And.intro hj (show j ≠ b6 by rw [HB.out.1]; omega)) |>.keep (H5.out.1.weaken fun j _ h => h.2)).weaken (fun _ h => h.1), HI.out.le⟩, HI.out.fresh.comp H5.out.1 (fun _ _ h => h) (fun j hj _ => by rw [HB.out.1]; omega)⟩
end Go.Proofs.Ytfpcmleeehciaaa
namespace Go.Proofs.Ytfpcmleeehciaaa
set_option linter.unusedVariables false
set_option linter.unusedSimpArgs false
open Go.RowKit Go.Shelf

section
variable {hs : List MkV} {k : Nat} {x : MkV} (hx : ∃ hl : k < hs.length, x = hs[k])
include hx
theorem ds_all_snoc (f : MarkD → Bool) : (dsOf (hs.take (k + 1))).all f = ((dsOf (hs.take k)).all f && f x.d) := by rw [dsOf_snoc hx, List.all_append]; simp
theorem ds_any_snoc (f : MarkD → Bool) : (dsOf (hs.take (k + 1))).any f = ((dsOf (hs.take k)).any f || f x.d) := by rw [dsOf_snoc hx, List.any_append]; simp
theorem ds_count_snoc (f : MarkD → Bool) : (dsOf (hs.take (k + 1))).countP f = (dsOf (hs.take k)).countP f + (if f x.d = true then 1 else 0) := by rw [dsOf_snoc hx, List.countP_append, List.countP_singleton]
theorem ds_all_false (f : MarkD → Bool) (h : f x.d = false) : (dsOf hs).all f = false := by
  obtain ⟨hl, rfl⟩ := hx
  rw [List.all_eq_false]
  exact ⟨_, List.mem_map_of_mem (List.getElem_mem hl), by rw [h]; decide⟩
end
theorem ds_count_le (hs : List MkV) (k : Nat) (f : MarkD → Bool) : (dsOf (hs.take k)).countP f ≤ k := by
  have h1 := List.countP_le_length (p := f) (l := dsOf (hs.take k))
  rw [dsOf_len, List.length_take] at h1
  omega
/-- The marks' lists, and the marks: as they are handed on. -/
structure MksA (w : World) (A : Option Addr) (n : Nat) (hs : List MkV) : Prop where
  m : Mks w (fun _ => True) A n hs
  ok : ∀ x ∈ hs, MkOk w (fun _ => True) x
theorem MksA.fresh {w w' : World} {A : Option Addr} {n : Nat} {hs : List MkV} (h : MksA w A n hs) (hk : Fresh w w') : MksA w' A n hs := ⟨h.m.keep hk, fun x hx => (h.ok x hx).keep hk⟩
/-- The k-th of them. -/
structure At (w : World) (b o : Nat) (hs : List MkV) (k : Nat) (x : MkV) : Prop where
  at_ : ∃ hl : k < hs.length, x = hs[k]
  rng : w.rangeAt b (o + k * 26) x.cells
  ok : MkOk w (fun _ => True) x
  one : MkOne x
  fit : MkFit x.d
theorem MksA.at1 {w : World} {A : Option Addr} {n : Nat} {hs : List MkV} (h : MksA w A n hs) {k : Nat} (hk : k < n) : ∃ b o x, A = some ⟨b, o, none⟩ ∧ At w b o hs k x := by
  obtain ⟨b, o, x, rfl, hx, hr⟩ := h.m.ints hk
  refine ⟨b, o, x, rfl, hx, hr, ?_, ?_, ?_⟩
  · obtain ⟨hl, rfl⟩ := hx; exact h.ok _ (List.getElem_mem hl)
  · obtain ⟨hl, rfl⟩ := hx; exact h.m.one _ (List.getElem_mem hl)
  · obtain ⟨hl, rfl⟩ := hx; exact h.m.fit _ (List.getElem_mem hl)
section
variable {w : World} {b o : Nat} {hs : List MkV} {k : Nat} {x : MkV} (h : At w b o hs k x)
include h
theorem At.kind : w.cell? ⟨b, o + k * 26 + 1, none⟩ = some (.int .i64 x.d.kind) := h.rng 1 _ rfl
theorem At.node : w.cell? ⟨b, o + k * 26 + 2, none⟩ = some (.int .i64 x.d.node) := h.rng 2 _ rfl
theorem At.inc : w.cell? ⟨b, o + k * 26 + 3, none⟩ = some (.int .i64 x.d.inc) := h.rng 3 _ rfl
theorem At.e1 : w.cell? ⟨b, o + k * 26 + 4, none⟩ = some (.int .i64 x.d.e1) := h.rng 4 _ rfl
theorem At.e2 : w.cell? ⟨b, o + k * 26 + 5, none⟩ = some (.int .i64 x.d.e2) := h.rng 5 _ rfl
theorem At.e3 : w.cell? ⟨b, o + k * 26 + 6, none⟩ = some (.int .i64 x.d.e3) := h.rng 6 _ rfl
theorem At.e4 : w.cell? ⟨b, o + k * 26 + 7, none⟩ = some (.int .i64 x.d.e4) := h.rng 7 _ rfl
theorem At.vm : w.cell? ⟨b, o + k * 26 + 8, none⟩ = some x.vm := h.rng 8 _ rfl
theorem At.vt : w.cell? ⟨b, o + k * 26 + 9, none⟩ = some x.vt := h.rng 9 _ rfl
end
/-- A mark that is handed over: in a variable, its lists read. -/
structure MkA (w : World) (x : MkV) : Prop where
  ok : MkOk w (fun _ => True) x
  fit : MkFit x.d
theorem MkA.fresh {w w' : World} {x : MkV} (h : MkA w x) (hk : Fresh w w') : MkA w' x := ⟨h.ok.keep hk, h.fit⟩

set_option maxRecDepth 20000 in
set_option maxHeartbeats 1000000 in
theorem upto_any (A : Option Addr) (n c : Nat) (hs : List MkV) (id : V4) (pos p i : Int) (w : World) (h : MksA w A n hs) :
    Calls Try.prog 62 #[.slice A n c, .agg #[.int .i64 id.1, .int .i64 id.2.1, .int .i64 id.2.2.1, .int .i64 id.2.2.2], .int .i64 pos, .int .i64 p, .int .i64 i] w fun e w' =>
      e = .returned (.tuple #[.bool (inView (dsOf hs) id (p, i)), .int .i64 (upToN (dsOf hs) id pos (p, i) : Int)]) ∧ Fresh w w' := by
  have HM := Lib.hid h
  have hle := h.m.le
  clear h
  obtain ⟨e1, e2, e3, e4⟩ := id
  obtain ⟨V, hV⟩ : ∃ V, V = inView (dsOf hs) (e1, e2, e3, e4) (p, i) := ⟨_, rfl⟩
  obtain ⟨N, hN⟩ : ∃ N, N = upToN (dsOf hs) (e1, e2, e3, e4) pos (p, i) := ⟨_, rfl⟩
  rw [← hV, ← hN]
  have HR := Lib.hid (And.intro hV hN)
  clear hV hN
  go_enter Try.func62, Try.ntmps62
  go_upto_region 1 with (fail)
  obtain ⟨c6, hc6⟩ : ∃ b, b = w.heap.size := ⟨_, rfl⟩
  rw [← hc6]
  generalize hw1 : World.alloc w _ = w1
  have hf1 : Fresh w w1 := hw1 ▸ (Keep.refl _ w).alloc _
  have hb1 : Blk w1 c6 41 #[.int .i64 e1, .int .i64 e2, .int .i64 e3, .int .i64 e4] := by rw [← hw1, hc6]; exact Blk.new w _ _
  have H1 := Lib.hid (And.intro hf1 hb1)
  clear hc6 hw1 hf1 hb1
  go_wp2_with fail
  go_loopw [12, 13, 14] (fun uv nv kv wr => ∃ (k : Nat) (u : Bool) (z : Nat), k ≤ n ∧ uv = .bool u ∧ nv = .int .i64 (z : Int) ∧ kv = .int .i64 (k : Int) ∧ Hid (Fresh w1 wr ∧ u = inView (dsOf (hs.take k)) (e1, e2, e3, e4) (p, i) ∧ z = upToN (dsOf (hs.take k)) (e1, e2, e3, e4) pos (p, i))) (fun _ _ i _ => n - (intOf i).toNat)
  case atStart => exact ⟨0, false, 0, Nat.zero_le _, rfl, rfl, rfl, Lib.hid ⟨Keep.refl _ _, rfl, rfl⟩⟩
  case round =>
    rename World => wr
    obtain ⟨k, u, z, hk, rfl, rfl, rfl, HW⟩ := hrel
    by_cases hlt : k < n
    · obtain ⟨b, o, x, rfl, hat⟩ := (HM.out.fresh (H1.out.1.trans HW.out.1)).at1 hlt
      have hz : z ≤ 1048576 := by rw [HW.out.2.2]; have := ds_count_le hs k fun y => isDel (p, i) (e1, e2, e3, e4) y && decide (y.pos ≤ pos); unfold upToN; omega
      have HA := Lib.hid hat
      clear hat
      go_wp2_with (first | (refine wpList_load_mid rfl 50 _ rfl b (o + k * 26) rfl x.cells _ HA.out.rng Try.underlying50 rfl (by kernel_rfl) ?_) | (refine wpList_store_new rfl (.tmp 15) (.tmp 25) rfl _ x.cells.toArray _ rfl rfl rfl (by kernel_rfl) (Array.all_eq_true_iff_forall_mem.2 fun u hu => mk_one HA.out.one u (by simpa using hu)) ?_))
      intro w2 hb2 hf2 hs2
      obtain ⟨c9, hc9⟩ : ∃ b, b = wr.heap.size := ⟨_, rfl⟩
      rw [← hc9] at hb2 ⊢
      have HRm := Lib.hid (MkB.mk hb2 : MkB w2 c9 x).range0
      have HC := Lib.hid (mine_any x p i w2)
      have H2 := Lib.hid (And.intro (HW.out.1.trans hf2) (MkB.mk hb2 : MkB w2 c9 x))
      have lm := hb2.lt
      clear hb2 hf2 hs2 hc9
      obtain ⟨q, hq⟩ : ∃ q, q = mineD x.d (p, i) := ⟨_, rfl⟩
      rw [← hq] at HC
      have HQ := Lib.hid hq
      clear hq
      go_wp2_with (refine wpList_load_mid rfl 50 _ rfl c9 0 rfl x.cells _ HRm.out Try.underlying50 rfl (by kernel_rfl) ?_)
      refine Calls.mono HC.out ?_
      rintro e w3 ⟨rfl, hf3⟩
      have H3 := Lib.hid (And.intro (H2.out.1.trans hf3) (MkB.mk (H2.out.2.blk.keep hf3 trivial) : MkB w3 c9 x))
      clear hf3 HC lm HRm H2
      have c1 := H3.out.2.kind; have d1 := H3.out.2.e1; have d2 := H3.out.2.e2; have d3 := H3.out.2.e3; have d4 := H3.out.2.e4; have d12 := H3.out.2.pos
      have lm := H3.out.2.blk.lt
      have hb6 := H1.out.2.keep H3.out.1 trivial
      have f0 := hb6.cell 0; have f1 := hb6.cell 1; have f2 := hb6.cell 2; have f3 := hb6.cell 3; have l6 := hb6.lt
      simp at f0 f1 f2 f3
      have Q := fun w => neview x.d.id (e1, e2, e3, e4) w
      obtain ⟨r, hr⟩ : ∃ r, r = decide (x.d.id ≠ (e1, e2, e3, e4)) := ⟨_, rfl⟩
      rw [← hr] at Q
      simp only [MarkD.id] at Q
      obtain ⟨zk, hzk⟩ : ∃ z, z = x.d.kind := ⟨_, rfl⟩
      rw [← hzk] at c1
      obtain ⟨zp, hzp⟩ : ∃ z, z = x.d.pos := ⟨_, rfl⟩
      rw [← hzp] at d12
      have hs1 : inView (dsOf (hs.take (k + 1))) (e1, e2, e3, e4) (p, i) = (u || (decide (x.d.who = (p, i)) && (decide (zk = 7) && !r))) := by
        unfold inView isInst
        rw [ds_any_snoc HA.out.at_, HW.out.2.1, hzk, hr]
        unfold inView isInst
        simp
      have hs2 : upToN (dsOf (hs.take (k + 1))) (e1, e2, e3, e4) pos (p, i) = z + (if (decide (zk = 8) && (decide (x.d.who = (p, i)) && !r) && decide (zp ≤ pos)) = true then 1 else 0) := by
        unfold upToN isDel
        rw [ds_count_snoc HA.out.at_, HW.out.2.2, hzk, hr, hzp]
        unfold upToN isDel
        simp
      have hqd : q = (decide (x.d.who = (p, i)) && decide (zk ≠ 15)) := by rw [HQ.out, hzk]; rfl
      have HS := Lib.hid (And.intro hs1 (And.intro hs2 hqd))
      have wz : IntKind.i64.wrap ((z : Int) + 1) = (z : Int) + 1 := by rw [IntWalk.i64_in _ (by omega)]
      have fin : ∀ (w' : World) (u' : Bool) (z' : Nat), Fresh w3 w' → u' = (u || (decide (x.d.who = (p, i)) && (decide (zk = 7) && !r))) → z' = z + (if (decide (zk = 8) && (decide (x.d.who = (p, i)) && !r) && decide (zp ≤ pos)) = true then 1 else 0) → Hid (Fresh w1 w' ∧ u' = inView (dsOf (hs.take (k + 1))) (e1, e2, e3, e4) (p, i) ∧ z' = upToN (dsOf (hs.take (k + 1))) (e1, e2, e3, e4) pos (p, i)) := fun w' u' z' hf h1 h2 => Lib.hid ⟨H3.out.1.trans hf, by rw [HS.out.1, h1], by rw [HS.out.2.1, h2]⟩
      have HFin := Lib.hid fin
      have HZ := Lib.hid hqd
      clear hs1 hs2 hqd hr hzk hzp hb6 fin HQ
      cases q
      · have hw : (decide (x.d.who = (p, i)) && decide (zk = 7)) = false ∧ (decide (zk = 8) && decide (x.d.who = (p, i))) = false := by
          have := HZ.out
          by_cases a : x.d.who = (p, i)
          · have : zk = 15 := by simpa [a] using this
            subst this
            simp
          · simp [a]
        have HE := Lib.hid (And.intro (HFin.out w3 u z (Keep.refl _ _) (by rw [← Bool.and_assoc, hw.1]; simp) (by rw [← Bool.and_assoc, hw.2]; simp)) hz)
        clear hw
        go_wp2_with fail
        exact ⟨⟨k + 1, u, z, by omega, rfl, rfl, by simp, HE.out.1⟩, by simp [intOf]; omega⟩
      · have hw : x.d.who = (p, i) := by
          have := HZ.out
          by_cases a : x.d.who = (p, i)
          · exact a
          · simp [a] at this
        have HWh := Lib.hid hw
        clear hw
        cases r
        · by_cases k7 : zk = 7
          · subst k7
            have HE := Lib.hid (HFin.out w3 true z (Keep.refl _ _) (by rw [HWh.out]; simp) (by simp))
            go_wp2_with fail
            exact ⟨⟨k + 1, true, z, by omega, rfl, rfl, by simp, HE.out⟩, by simp [intOf]; omega⟩
          · have b7 : (zk == 7) = false := by simpa using k7
            by_cases k8 : zk = 8
            · subst k8
              by_cases hp : zp ≤ pos
              · have HE := Lib.hid (HFin.out w3 u (z + 1) (Keep.refl _ _) (by simp) (by rw [HWh.out]; simp [hp]))
                go_wp2_with fail
                exact ⟨⟨k + 1, u, z + 1, by omega, rfl, by simp, by simp, HE.out⟩, by simp [intOf]; omega⟩
              · have HE := Lib.hid (HFin.out w3 u z (Keep.refl _ _) (by simp) (by simp [hp]))
                go_wp2_with fail
                exact ⟨⟨k + 1, u, z, by omega, rfl, rfl, by simp, HE.out⟩, by simp [intOf]; omega⟩
            · have b8 : (zk == 8) = false := by simpa using k8
              have HE := Lib.hid (HFin.out w3 u z (Keep.refl _ _) (by simp [k7]) (by simp [k8]))
              go_wp2_with fail
              exact ⟨⟨k + 1, u, z, by omega, rfl, rfl, by simp, HE.out⟩, by simp [intOf]; omega⟩
        · have HE := Lib.hid (HFin.out w3 u z (Keep.refl _ _) (by simp) (by simp))
          go_wp2_with fail
          exact ⟨⟨k + 1, u, z, by omega, rfl, rfl, by simp, HE.out⟩, by simp [intOf]; omega⟩
    · obtain rfl : k = n := by omega
      obtain ⟨hf, rfl, rfl⟩ := HW.out
      rw [dsOf_all HM.out.m.len]
      have HE := Lib.hid (And.intro hf (And.intro HR.out.1 HR.out.2))
      rw [← HR.out.1, ← HR.out.2]
      clear hf HW HR
      go_wp2_with fail
      go_ret2
      exact ⟨rfl, H1.out.1.trans HE.out.1⟩

def cond3 (m y : MarkD) : Bool := !isInst m.id y || (decide (y.mem = m.mem) && !decide (y.who = m.who))
set_option maxRecDepth 20000 in
set_option maxHeartbeats 1000000 in
theorem rule3_any (A : Option Addr) (n c : Nat) (hs : List MkV) (x : MkV) (w : World) (h : MksA w A n hs) (hx : MkA w x) :
    Calls Try.prog 57 #[.slice A n c, .agg x.cells.toArray] w fun e w' => e = .returned (.bool (rule3D (dsOf hs) x.d)) ∧ Fresh w w' := by
  have HM := Lib.hid (And.intro h hx)
  have hle := h.m.le
  clear h hx
  obtain ⟨R, hR⟩ : ∃ R, R = rule3D (dsOf hs) x.d := ⟨_, rfl⟩
  rw [← hR]
  have HR : Hid (R = (dsOf hs).all (cond3 x.d)) := Lib.hid hR
  clear hR
  go_enter Try.func57, Try.ntmps57
  go_upto_region 1 with (fail)
  obtain ⟨w1, hw1⟩ : ∃ w1, w1 = w.alloc (.cells x.cells.toArray 50) := ⟨_, rfl⟩
  obtain ⟨bm, hbm⟩ : ∃ b, b = w.heap.size := ⟨_, rfl⟩
  rw [← hw1, ← hbm]
  have hf1 : Fresh w w1 := hw1 ▸ (Keep.refl _ w).alloc _
  have hmb : MkB w1 bm x := by rw [hw1, hbm]; exact MkB.new w x
  have H1 := Lib.hid (And.intro hf1 hmb)
  clear hw1 hbm hf1 hmb
  go_wp2_with fail
  go_loopw [5] (fun kv wr => ∃ k : Nat, k ≤ n ∧ kv = .int .i64 (k : Int) ∧ Hid (Fresh w1 wr ∧ (dsOf (hs.take k)).all (cond3 x.d) = true)) (fun i _ => n - (intOf i).toNat)
  case atStart => exact ⟨0, Nat.zero_le _, rfl, Lib.hid ⟨Keep.refl _ _, rfl⟩⟩
  case round =>
    rename World => wr
    obtain ⟨k, hk, rfl, HW⟩ := hrel
    by_cases hlt : k < n
    · obtain ⟨b, o, y, rfl, hat⟩ := (HM.out.1.fresh (H1.out.1.trans HW.out.1)).at1 hlt
      have HA := Lib.hid hat
      have hmb : MkB wr bm x := ⟨H1.out.2.blk.keep HW.out.1 trivial⟩
      have c1 := hat.kind; have c2 := hat.node; have c3 := hat.inc; have c4 := hat.e1; have c5 := hat.e2; have c6 := hat.e3; have c7 := hat.e4
      have m2 := hmb.node; have m3 := hmb.inc; have m4 := hmb.e1; have m5 := hmb.e2; have m6 := hmb.e3; have m7 := hmb.e4
      have lm := hmb.blk.lt
      obtain ⟨Ay, cy, hvy, -, -, hry⟩ := hat.ok.m
      obtain ⟨Ax, cx, hvx, -, -, hrx⟩ := (HM.out.2.fresh (H1.out.1.trans HW.out.1)).ok.m
      have c8 := hat.vm.trans (congrArg some hvy)
      have m8 := hmb.vm.trans (congrArg some hvx)
      have HSm := Lib.hid (fun w' (hf : Fresh wr w') => rsame_any _ _ Ay Ax _ cy _ cx y.d.mem x.d.mem w' (hry.keep hf) (hrx.keep hf) rfl rfl hat.fit.m HM.out.2.fit.m)
      have Q := fun w => neview y.d.id x.d.id w
      obtain ⟨r, hr⟩ : ∃ r, r = decide (y.d.id ≠ x.d.id) := ⟨_, rfl⟩
      rw [← hr] at Q
      simp only [MarkD.id] at Q
      obtain ⟨zk, hzk⟩ : ∃ z, z = y.d.kind := ⟨_, rfl⟩
      rw [← hzk] at c1
      obtain ⟨q, hq⟩ : ∃ q, q = decide (y.d.mem = x.d.mem) := ⟨_, rfl⟩
      rw [← hq] at HSm
      have hc3 : cond3 x.d y.d = (!(decide (zk = 7) && !r) || (q && !decide (y.d.who = x.d.who))) := by
        unfold cond3 isInst
        rw [hzk, hr, hq]
        simp
      have HC3 := Lib.hid hc3
      have fin : ∀ w', Fresh wr w' → cond3 x.d y.d = true → Hid (Fresh w1 w' ∧ (dsOf (hs.take (k + 1))).all (cond3 x.d) = true) := fun w' hf hc => Lib.hid ⟨HW.out.1.trans hf, by rw [ds_all_snoc HA.out.at_, HW.out.2, hc]; rfl⟩
      have HFin := Lib.hid fin
      have bad : cond3 x.d y.d = false → R = false := fun hc => by rw [HR.out]; exact ds_all_false HA.out.at_ _ hc
      have HBad := Lib.hid bad
      have HF0 := Lib.hid (H1.out.1.trans HW.out.1)
      clear hat hmb hvy hry hvx hrx hr hzk hq hc3 fin bad HW
      by_cases k7 : zk = 7
      · subst k7
        cases r
        · go_wp2_with fail
          go_quiet (fail)
          rename_i nq
          go_upto_region 5 with (fail)
          generalize hw4 : World.drewN wr nq = w4
          have hf40 : Fresh wr w4 := hw4 ▸ (Keep.refl _ wr).drewN nq
          have hf4 : Fresh wr w4.drew := hf40.drew
          have c8 := hf40.cellAt c8 trivial; have m8 := hf40.cellAt m8 trivial
          have lm : bm < w4.heap.size := Nat.lt_of_lt_of_le lm hf40.size
          clear hf40 hw4
          refine wp_region_still_tail 7 (by kernel_rfl) (by kernel_rfl) ?_
          simp only [List.take_succ_cons, List.take_zero, List.drop_succ_cons, List.drop_zero]
          repeat still_step
          refine wpStill_nil ?_
          change wpList _ _ _ _ _ w4.drew
          go_wp2_with fail
          refine Calls.mono (HSm.out _ hf4) ?_
          rintro e w5 ⟨rfl, hf5⟩
          have hf45 := hf4.trans hf5
          have c2 := hf45.cellAt c2 trivial; have c3 := hf45.cellAt c3 trivial
          have m2 := hf45.cellAt m2 trivial; have m3 := hf45.cellAt m3 trivial
          have lm : bm < w5.heap.size := Nat.lt_of_lt_of_le lm hf5.size
          have H5 := Lib.hid hf45
          clear c1 c4 c5 c6 c7 c8 m4 m5 m6 m7 m8 hf4 hf5 hf45 Q HSm
          obtain ⟨zn, hzn⟩ : ∃ z, z = y.d.node := ⟨_, rfl⟩
          obtain ⟨zi, hzi⟩ : ∃ z, z = y.d.inc := ⟨_, rfl⟩
          obtain ⟨xn, hxn⟩ : ∃ z, z = x.d.node := ⟨_, rfl⟩
          obtain ⟨xi, hxi⟩ : ∃ z, z = x.d.inc := ⟨_, rfl⟩
          rw [← hzn] at c2; rw [← hzi] at c3; rw [← hxn] at m2; rw [← hxi] at m3
          have hwho : decide (y.d.who = x.d.who) = (decide (zn = xn) && decide (zi = xi)) := by
            rw [hzn, hzi, hxn, hxi, ← Bool.decide_and]
            apply decide_eq_decide.2
            exact ⟨fun e => by injection e with e1 e2; exact ⟨e1, e2⟩, fun ⟨e1, e2⟩ => Prod.ext e1 e2⟩
          have HC4 : Hid (cond3 x.d y.d = (q && !(decide (zn = xn) && decide (zi = xi)))) := Lib.hid (by rw [HC3.out, hwho]; simp)
          clear hzn hzi hxn hxi hwho HC3
          cases q
          · obtain rfl : R = false := HBad.out (by rw [HC4.out]; rfl)
            go_wp2_with fail
            go_quiet (fail)
            go_wp2_with fail
            go_ret
            exact ⟨rfl, (HF0.out.trans H5.out).drewN _⟩
          · by_cases h1 : zn = xn
            · subst h1
              by_cases h2 : zi = xi
              · subst h2
                obtain rfl : R = false := HBad.out (by rw [HC4.out]; simp)
                go_wp2_with fail
                go_quiet (fail)
                go_wp2_with fail
                go_ret
                exact ⟨rfl, (HF0.out.trans H5.out).drewN _⟩
              · have b2 : (zi == xi) = false := by simpa using h2
                have HE := Lib.hid (fun w' hf => HFin.out w' hf (by rw [HC4.out]; simp [h2]))
                clear h2
                go_wp2_with fail
                go_quiet (fail)
                go_wp2_with fail
                exact ⟨⟨k + 1, by omega, by simp, HE.out _ (H5.out.drewN _)⟩, by simp [intOf]; omega⟩
            · have b1 : (zn == xn) = false := by simpa using h1
              have HE := Lib.hid (fun w' hf => HFin.out w' hf (by rw [HC4.out]; simp [h1]))
              clear h1
              go_wp2_with fail
              go_quiet (fail)
              go_wp2_with fail
              exact ⟨⟨k + 1, by omega, by simp, HE.out _ (H5.out.drewN _)⟩, by simp [intOf]; omega⟩
        · have HE := Lib.hid (fun w' hf => HFin.out w' hf (by rw [HC3.out]; simp))
          go_wp2_with fail
          go_quiet (fail)
          go_wp2_with fail
          exact ⟨⟨k + 1, by omega, by simp, HE.out _ ((Keep.refl _ _).drewN _)⟩, by simp [intOf]; omega⟩
      · have b7 : (zk != 7) = true := by simpa using k7
        have HE := Lib.hid (fun w' hf => HFin.out w' hf (by rw [HC3.out]; simp [k7]))
        go_wp2_with fail
        go_quiet (fail)
        go_wp2_with fail
        exact ⟨⟨k + 1, by omega, by simp, HE.out _ ((Keep.refl _ _).drewN _)⟩, by simp [intOf]; omega⟩
    · obtain rfl : k = n := by omega
      obtain rfl : R = true := by rw [HR.out, ← HW.out.2, dsOf_all HM.out.1.m.len]
      have HF := Lib.hid HW.out.1
      clear HW HR
      go_wp2_with fail
      go_ret
      exact ⟨rfl, H1.out.1.trans HF.out⟩
end Go.Proofs.Ytfpcmleeehciaaa
