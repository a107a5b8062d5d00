/-
  WALK OF THE LAW 'AuditFirst'.
-/
import Derived.Test.YtfpcmleeehciaaaGrpWalk
namespace Go.Proofs.Ytfpcmleeehciaaa
set_option linter.unusedVariables false
set_option linter.unusedSimpArgs false
open Go.RowKit Go.Shelf

def badD : MarkD := ⟨-1, 15, 0, 0, 0, 0, 0, 0, [], [], 0, 0, 0, 0, [], ⟨0, 0, 0, 0, [], [], []⟩, 0, [], 0, 0⟩
def badM : MkV := ⟨badD, .slice none 0 0, .slice none 0 0, .slice none 0 0⟩
theorem dsOf_mem {hs ks : List MkV} (h : dsOf ks = dsOf hs) {x : MkV} (hx : x ∈ ks) : ∃ y ∈ hs, y.d = x.d := by
  have h1 : x.d ∈ dsOf ks := List.mem_map_of_mem hx
  rw [h] at h1
  exact List.mem_map.1 h1
/-- The copies, as marks. -/
structure Cops (wr : World) (B : Nat) (v : Value) (n : Nat) (ds : List MarkD) (ks : List MkV) : Prop where
  own : wr.ownsRow B 50 26 v n (mcells ks)
  len : ks.length = n
  le : n ≤ 1048576
  same : dsOf ks = ds
  one : ∀ h ∈ ks, MkOne h
  rows : ∀ h ∈ ks, MkOk wr (fun _ => True) h
  fit : ∀ h ∈ ks, MkFit h.d
  ints : ∀ h ∈ ks, MkInt h.d
theorem Cops.of {w wr : World} {hs ks : List MkV} {n : Nat} {v : Value} (h : Cop2 w wr hs n v ks) (hl : hs.length = n) (hle : n ≤ 1048576) (hf : ∀ x ∈ hs, MkFit x.d) (hi : ∀ x ∈ hs, MkInt x.d) : Cops wr w.heap.size v n (dsOf hs) ks := by
  have hs0 : dsOf ks = dsOf hs := by rw [h.same, ← hl, List.take_length]
  refine ⟨h.own, h.len, hle, hs0, h.one, fun x hx => (h.rows x hx).ok, fun x hx => ?_, fun x hx => ?_⟩
  · obtain ⟨y, hy, e⟩ := dsOf_mem hs0 hx
    rw [← e]; exact hf y hy
  · obtain ⟨y, hy, e⟩ := dsOf_mem hs0 hx
    rw [← e]; exact hi y hy
theorem Cops.fresh {w w' : World} {B : Nat} {v : Value} {n : Nat} {ds : List MarkD} {ks : List MkV} (h : Cops w B v n ds ks) (hk : Fresh w w') : Cops w' B v n ds ks :=
  ⟨own_keep h.own hk (fun _ _ => trivial), h.len, h.le, h.same, h.one, fun x hx => (h.rows x hx).keep hk, h.fit, h.ints⟩
/-- The verdict on copies. -/
theorem Cops.verdict {w : World} {B : Nat} {v : Value} {n : Nat} {ds : List MarkD} {ks : List MkV} (h : Cops w B v n ds ks) :
    Calls Try.prog 7 #[v] w fun e w' => e = .returned (.agg #[.int .i64 (groupG ds).1, .int .i64 (groupG ds).2]) ∧ Fresh w w' := by
  obtain ⟨A, c, rfl, hr, -⟩ := own_rd h.own
  have := verdict_any w A n c ks ⟨h.len, hr.weaken fun _ _ => trivial, h.le, h.fit, h.one⟩ h.rows h.ints
  rw [h.same] at this
  exact this
theorem Cops.bad {w w' : World} {B : Nat} {v v' : Value} {n : Nat} {ds : List MarkD} {ks : List MkV} (h : Cops w B v n ds ks) (hn : n ≤ 1048575) (ho : w'.ownsRow B 50 26 v' (n + 1) (mcells ks ++ badM.cells)) (hr : ∀ x ∈ ks, MkOk w' (fun _ => True) x) : Cops w' B v' (n + 1) (ds ++ [badD]) (ks ++ [badM]) := by
  have key : ∀ {p : MkV → Prop}, (∀ x ∈ ks, p x) → p badM → ∀ x ∈ ks ++ [badM], p x := fun h1 h2 x hx => by
    rcases List.mem_append.1 hx with h3 | h3
    · exact h1 x h3
    · simp at h3; subst h3; exact h2
  have z : I64 0 := ⟨by decide, by decide⟩
  refine ⟨by rw [mcells_snoc] at ho; exact ho, by simp [h.len], by omega, ?_, key h.one ⟨rfl, rfl, rfl⟩, key hr ?_, key h.fit ⟨by decide, by decide, by decide, by decide, by decide⟩, key h.ints ⟨z, z, z, z, z, z, z, z, fun y hy => by cases hy⟩⟩
  · have e : dsOf (ks ++ [badM]) = dsOf ks ++ [badD] := by unfold dsOf; rw [List.map_append]; rfl
    rw [e, h.same]
  · have s : ∀ k, SlOk w' (fun _ => True) k 0 (.slice none 0 0) [] := fun k => ⟨none, 0, rfl, Nat.le_refl _, fun _ => .inl rfl, Rd.nil _ _ _ _⟩
    exact ⟨s 3, s 1, s 1⟩
theorem rcells_take {α : Type} {f : α → List Value} {c : Nat} (hc : ∀ a, (f a).length = c) : ∀ (xs : List α) (k : Nat), rcells f (xs.take k) = (rcells f xs).take (k * c)
  | [], k => by simp [rcells]
  | x :: r, 0 => by simp [rcells]
  | x :: r, k + 1 => by
    have e1 : rcells f (x :: r) = f x ++ rcells f r := by simp [rcells]
    have e2 : rcells f ((x :: r).take (k + 1)) = f x ++ rcells f (r.take k) := by simp [rcells]
    have e3 : (f x).take ((k + 1) * c) = f x := List.take_of_length_le (by rw [hc, Nat.succ_mul]; omega)
    rw [e1, e2, rcells_take hc r k, List.take_append, hc, e3, show (k + 1) * c - c = k * c from by rw [Nat.succ_mul]; omega]
theorem Rd.take26 {w : World} {Z : Nat → Prop} {size n k : Nat} {A : Option Addr} {xs : List Value} (h : Rd w Z size A n xs) (hk : k ≤ n) : Rd w Z size A k (xs.take (k * size)) := by
  refine ⟨by rw [List.length_take, h.1]; exact Nat.min_eq_left (Nat.mul_le_mul_right size hk), fun hn => ?_⟩
  obtain ⟨b, o, e, hz, hc⟩ := h.2 (by omega)
  refine ⟨b, o, e, hz, fun j u hu => hc j u ?_⟩
  rw [List.getElem?_take] at hu
  split at hu
  · exact hu
  · cases hu
theorem crow_app {w5 w6 : World} {B B' n : Nat} {v5 : Value} {xs : List Value} (ho : w5.ownsRow B 50 26 v5 n xs) (hk : Keep (fun k => v5.ownBlock ≠ some k) w5 w6) {x : MkV} (h : CRow w5 B' x) : CRow w6 B' x := h.keep hk fun k ⟨cs, t, hh, ht⟩ e => by
  rcases ho.2 with ⟨rfl, _⟩ | ⟨g, cap, cur, rfl, _, hg, _⟩
  · simp [Value.ownBlock] at e
  · simp [Value.ownBlock] at e
    subst e
    rw [hg] at hh
    injection hh with hh
    injection hh with _ h2
    subst h2
    revert ht
    decide
/-- What the three verdicts are. -/
theorem three_cases (ds : List MarkD) (n k : Nat) (hn : ds.length = n) {va vb ua ub wa wb : Int} (h1 : va = (groupG ds).1) (h2 : vb = (groupG ds).2) (h3 : ua = (groupG (ds ++ [badD])).1) (h4 : ub = (groupG (ds ++ [badD])).2) (h5 : wa = (groupG (ds.take k)).1) (h6 : wb = (groupG (ds.take k)).2) :
    (va = 0 ∧ vb = 0 ∧ ua = 1 ∧ ub = (n : Int) ∧ wa = 0 ∧ wb = 0) ∨ (va ≠ 0 ∧ ua = va ∧ ub = vb ∧ vb < (k : Int) ∧ wa = va ∧ wb = vb) ∨ (va ≠ 0 ∧ ua = va ∧ ub = vb ∧ ¬ vb < (k : Int) ∧ wa = 0 ∧ wb = 0) := by
  have e1 := findG_snoc_bad badD (fun s => bad_rule s badD (by decide)) grp0 0 ds
  have e2 := findG_take grp0 0 ds k
  have e3 := findG_none grp0 0 ds
  change groupG (ds ++ [badD]) = _ at e1
  change groupG (ds.take k) = _ at e2
  rw [show findG grp0 0 ds = groupG ds from rfl] at e1 e2 e3
  have hv : groupG ds = (va, vb) := by rw [h1, h2]
  rw [hv] at e1 e2 e3
  simp only at e1 e2 e3
  by_cases hz : va = 0
  · have e4 := e3 hz
    injection e4 with _ hb
    rw [if_pos hz] at e1
    rw [if_neg (by rintro ⟨h, -⟩; exact h hz)] at e2
    rw [e1] at h3 h4
    rw [e2] at h5 h6
    exact .inl ⟨hz, hb, h3, by rw [h4, hn]; simp, h5, h6⟩
  · rw [if_neg hz] at e1
    rw [e1] at h3 h4
    by_cases hk : vb < (k : Int)
    · rw [if_pos ⟨hz, by simpa using hk⟩] at e2
      rw [e2] at h5 h6
      exact .inr (.inl ⟨hz, h3, h4, hk, h5, h6⟩)
    · rw [if_neg (by rintro ⟨-, h⟩; exact hk (by simpa using h))] at e2
      rw [e2] at h5 h6
      exact .inr (.inr ⟨hz, h3, h4, hk, h5, h6⟩)
abbrev V2 := Int × Int
theorem ver_ne {x y : V2} (h : x ≠ y) : (x.1 == y.1) = false ∨ (x.1 = y.1 ∧ (x.2 == y.2) = false) := by
  obtain ⟨a, b⟩ := x
  obtain ⟨a', b'⟩ := y
  by_cases e1 : a = a'
  · exact .inr ⟨e1, by simpa using fun e2 => h (by rw [e1, e2])⟩
  · exact .inl (by simpa using e1)
theorem eqver (x y : V2) (w : World) : Sem.run Try.prog (binOp BinOp.eql 29 (.agg #[.int .i64 x.1, .int .i64 x.2]) (.agg #[.int .i64 y.1, .int .i64 y.2])) w = .ok (.bool (decide (x = y))) w := by
  by_cases h : x = y
  · subst h
    rw [decide_eq_true rfl]
    go_simp
  · rw [decide_eq_false h]
    rcases ver_ne h with hb | ⟨e, hb⟩
    · go_simp
    · go_simp
theorem never (x y : V2) (w : World) : Sem.run Try.prog (binOp BinOp.neq 29 (.agg #[.int .i64 x.1, .int .i64 x.2]) (.agg #[.int .i64 y.1, .int .i64 y.2])) w = .ok (.bool (decide (x ≠ y))) w := by
  by_cases h : x = y
  · subst h
    rw [decide_eq_false (by simp)]
    go_simp
  · rw [decide_eq_true h]
    rcases ver_ne h with hb | ⟨e, hb⟩
    · go_simp
    · go_simp
/-- The marks ahead of a place. -/
theorem Mks.take {w : World} {Z : Nat → Prop} {A : Option Addr} {n k : Nat} {hs : List MkV} (h : Mks w Z A n hs) (hk : k ≤ n) : Mks w Z A k (hs.take k) :=
  ⟨by rw [List.length_take, h.len]; omega, by
    have e : mcells (hs.take k) = (mcells hs).take (k * 26) := rcells_take mk_len hs k
    rw [e]
    exact h.rd.take26 hk, Nat.le_trans hk h.le, fun x hx => h.fit x (List.mem_of_mem_take hx), fun x hx => h.one x (List.mem_of_mem_take hx)⟩

set_option maxRecDepth 20000 in
set_option maxHeartbeats 4000000 in
theorem auditfirst_any (A A2 : Option Addr) (n c n2 c2 : Nat) (K : Int) (hs : List MkV) (W : World) (hm : Mks W (fun _ => True) A n hs) (hok : ∀ x ∈ hs, MkOk W (fun _ => True) x) (hi : ∀ x ∈ hs, MkInt x.d) (hnc : n ≤ c) (hn : n ≤ 1048575) :
    Calls Try.prog 4 #[.agg #[.slice A n c, .slice A2 n2 c2, .int .i64 K]] W fun e w' => e = .returned (.bool true) ∧ Fresh W w' := by
  have H := Lib.hid (And.intro hm (And.intro hok (And.intro hi hnc)))
  clear hm hok hi
  go_enter Try.func4, Try.ntmps4
  go_upto_region 1 with (fail)
  obtain ⟨bx, hbx⟩ : ∃ b, b = W.heap.size := ⟨_, rfl⟩
  rw [← hbx]
  generalize hw1 : World.alloc W _ = w1
  have hf1 : Fresh W w1 := hw1 ▸ (Keep.refl _ W).alloc _
  have hb1 : Blk w1 bx 25 #[.slice A n c, .slice A2 n2 c2, .int .i64 K] := by rw [← hw1, hbx]; exact Blk.new W _ _
  have H1 := Lib.hid (And.intro hf1 hb1)
  have x0 := hb1.cell 0; have x2 := hb1.cell 2; have lx := hb1.lt
  simp at x0 x2
  clear hbx hw1 hf1 hb1
  by_cases hK : K < 0 ∨ (n : Int) < K
  · rcases hK with h | h
    · go_wp2_with fail
      go_ret
      exact ⟨rfl, H1.out.1⟩
    · have h0 : ¬ K < 0 := by omega
      go_wp2_with fail
      go_ret
      exact ⟨rfl, H1.out.1⟩
  · obtain ⟨k, rfl⟩ : ∃ k : Nat, K = (k : Int) := ⟨K.toNat, by omega⟩
    have hkn : ¬ (n : Int) < (k : Int) := by omega
    have hk0 : ¬ (k : Int) < 0 := by omega
    clear hK
    have HCA := Lib.hid (fun w' (hf : Fresh W w') => copied_rows _ A n c hs w' (H.out.1.keep hf) (fun x hx => (H.out.2.1 x hx).keep hf))
    have HC := Lib.hid (HCA.out w1 H1.out.1)
    go_wp2_with fail
    refine Calls.mono HC.out ?_
    rintro e w2 ⟨⟨v, ks, rfl, hc⟩, hf2⟩
    have hV := (Cops.of hc H.out.1.len H.out.1.le H.out.1.fit H.out.2.2.1).verdict
    obtain ⟨va, hva⟩ : ∃ z, z = (groupG (dsOf hs)).1 := ⟨_, rfl⟩
    obtain ⟨vb, hvb⟩ : ∃ z, z = (groupG (dsOf hs)).2 := ⟨_, rfl⟩
    rw [← hva, ← hvb] at hV
    have HV := Lib.hid hV
    have HVE := Lib.hid (And.intro hva hvb)
    have H2 := Lib.hid (H1.out.1.trans hf2)
    have x0 := hf2.cellAt x0 trivial
    have lx : bx < w2.heap.size := Nat.lt_of_lt_of_le lx hf2.size
    clear hc hf2 hV hva hvb x2 HC
    go_wp2_with fail
    refine Calls.mono HV.out ?_
    rintro e w3 ⟨rfl, hf3⟩
    have HF3 := Lib.hid hf3
    clear hf3 HV
    go_upto_region 5 with (fail)
    obtain ⟨b4, hb4⟩ : ∃ b, b = w3.heap.size := ⟨_, rfl⟩
    rw [← hb4]
    generalize hw4 : World.alloc w3 _ = w4
    have hf4 : Fresh w3 w4 := hw4 ▸ (Keep.refl _ w3).alloc _
    have hB4 : Blk w4 b4 29 #[.int .i64 va, .int .i64 vb] := by rw [← hw4, hb4]; exact Blk.new w3 _ _
    have hf24 := HF3.out.trans hf4
    have x0 := hf24.cellAt x0 trivial
    have lx : bx < w4.heap.size := Nat.lt_of_lt_of_le lx hf24.size
    have H4 := Lib.hid (And.intro (H2.out.trans hf24) hB4)
    have HC := Lib.hid (HCA.out w4 H4.out.1)
    clear hb4 hw4 hf4 hB4 hf24 HF3 H2
    go_wp2_with fail
    refine Calls.mono HC.out ?_
    rintro e w5 ⟨⟨v5, ks5, rfl, hc5⟩, hf5⟩
    have H5 := Lib.hid (And.intro (H4.out.1.trans hf5) (And.intro (H4.out.2.keep hf5 trivial) (Cops.of hc5 H.out.1.len H.out.1.le H.out.1.fit H.out.2.2.1)))
    have HSz : Hid (w4.heap.size ≤ w5.heap.size) := Lib.hid hf5.size
    have HRows := Lib.hid (fun x hx => hc5.rows x hx)
    have x0 := hf5.cellAt x0 trivial
    have lx : bx < w5.heap.size := Nat.lt_of_lt_of_le lx hf5.size
    have HBd : Hid (∀ u ∈ badM.cells.toArray.toList, u.oneCell' = true) := Lib.hid (fun u hu => mk_one ⟨rfl, rfl, rfl⟩ u (by simpa using hu))
    clear hc5 hf5 HC
    go_wp2_with (at_builtin; refine wpList_appB etMark rfl (.tmp 25) (.tmp 27) rfl badM.cells.toArray 50 rfl HBd.out w4.heap.size _ n (mcells ks5) w5.heap.size rfl rfl rfl H5.out.2.2.own (by omega) HSz.out ?_)
    intro v6 w6 ho6 hk6 hn6
    have ho5 := H5.out.2.2.own
    have hne : ∀ j, j < w4.heap.size → v5.ownBlock ≠ some j := fun j hj e => by have := (own_lt ho5 e).1; omega
    have h46 := H4.out.1.size
    have hf6 : Fresh W w6 := H5.out.1.comp hk6 (fun _ _ h => h) (fun j hj _ => hne j (by omega))
    have hC6 := H5.out.2.2.bad hn ho6 (fun x hx => (crow_app ho5 hk6 (HRows.out x hx)).ok)
    have l4 := H4.out.2.lt
    have hB6 := H5.out.2.1.keep hk6 (hne _ l4)
    have x0 := hk6.cellAt x0 (hne _ ‹bx < w4.heap.size›)
    have lx : bx < w6.heap.size := Nat.lt_of_lt_of_le lx hk6.size
    have hV6 := hC6.verdict
    obtain ⟨ua, hua⟩ : ∃ z, z = (groupG (dsOf hs ++ [badD])).1 := ⟨_, rfl⟩
    obtain ⟨ub, hub⟩ : ∃ z, z = (groupG (dsOf hs ++ [badD])).2 := ⟨_, rfl⟩
    rw [← hua, ← hub] at hV6
    have HV6 := Lib.hid hV6
    have HUE := Lib.hid (And.intro hua hub)
    have H6 := Lib.hid (And.intro hf6 hB6)
    clear ho6 hk6 hn6 ho5 hne h46 hf6 hC6 l4 hB6 hV6 hua hub HRows HSz H5
    go_wp2_with fail
    refine Calls.mono HV6.out ?_
    rintro e w7 ⟨rfl, hf7⟩
    have HF7 := Lib.hid hf7
    clear hf7 HV6
    go_upto_region 7 with (fail)
    obtain ⟨b6, hb6⟩ : ∃ b, b = w7.heap.size := ⟨_, rfl⟩
    rw [← hb6]
    generalize hw8 : World.alloc w7 _ = w8
    have hf8 : Fresh w7 w8 := hw8 ▸ (Keep.refl _ w7).alloc _
    have hB8 : Blk w8 b6 29 #[.int .i64 ua, .int .i64 ub] := by rw [← hw8, hb6]; exact Blk.new w7 _ _
    have hf68 := HF7.out.trans hf8
    have x0 := hf68.cellAt x0 trivial
    have lx : bx < w8.heap.size := Nat.lt_of_lt_of_le lx hf68.size
    have H8 := Lib.hid (And.intro (H6.out.1.trans hf68) (And.intro (H6.out.2.keep hf68 trivial) hB8))
    clear hb6 hw8 hf8 hB8 hf68 HF7 H6
    obtain ⟨wa, hwa⟩ : ∃ z, z = (groupG ((dsOf hs).take k)).1 := ⟨_, rfl⟩
    obtain ⟨wb, hwb⟩ : ∃ z, z = (groupG ((dsOf hs).take k)).2 := ⟨_, rfl⟩
    have HCs := Lib.hid (three_cases (dsOf hs) n k (by rw [dsOf_len]; exact H.out.1.len) HVE.out.1 HVE.out.2 HUE.out.1 HUE.out.2 hwa hwb)
    have HWE := Lib.hid (And.intro hwa hwb)
    have Q1 := fun w => never (ua, ub) (1, (n : Int)) w
    have Q2 := fun w => never (ua, ub) (va, vb) w
    have Q3 := fun w => eqver (wa, wb) (va, vb) w
    have Q4 := fun w => eqver (wa, wb) (0, 0) w
    simp only at Q1 Q2 Q3 Q4
    obtain ⟨p1, hp1⟩ : ∃ b, b = decide (((ua, ub) : V2) ≠ (1, (n : Int))) := ⟨_, rfl⟩
    obtain ⟨p2, hp2⟩ : ∃ b, b = decide (((ua, ub) : V2) ≠ (va, vb)) := ⟨_, rfl⟩
    obtain ⟨p3, hp3⟩ : ∃ b, b = decide (((wa, wb) : V2) = (va, vb)) := ⟨_, rfl⟩
    obtain ⟨p4, hp4⟩ : ∃ b, b = decide (((wa, wb) : V2) = (0, 0)) := ⟨_, rfl⟩
    rw [← hp1] at Q1; rw [← hp2] at Q2; rw [← hp3] at Q3; rw [← hp4] at Q4
    have HP := Lib.hid (And.intro hp1 (And.intro hp2 (And.intro hp3 hp4)))
    clear hwa hwb hp1 hp2 hp3 hp4
    have a0 := H8.out.2.1.cell 0; have a1 := H8.out.2.1.cell 1; have la := H8.out.2.1.lt
    have u0 := H8.out.2.2.cell 0; have u1 := H8.out.2.2.cell 1; have lu := H8.out.2.2.lt
    simp at a0 a1 u0 u1
    obtain ⟨zb, hzb⟩ : ∃ b, b = (va == 0) := ⟨_, rfl⟩
    have hcase : (zb = true ∧ p1 = false ∧ p4 = true) ∨ (zb = false ∧ p2 = false ∧ vb < (k : Int) ∧ p3 = true) ∨ (zb = false ∧ p2 = false ∧ ¬ vb < (k : Int) ∧ p4 = true) := by
      obtain ⟨q1, q2, q3, q4⟩ := HP.out
      rw [hzb, q1, q2, q3, q4]
      rcases HCs.out with ⟨h1, h2, h3, h4, h5, h6⟩ | ⟨h1, h2, h3, h4, h5, h6⟩ | ⟨h1, h2, h3, h4, h5, h6⟩
      · exact .inl ⟨by simp [h1], by simp [h3, h4], by simp [h5, h6]⟩
      · exact .inr (.inl ⟨by simp [h1], by simp [h2, h3], h4, by simp [h5, h6]⟩)
      · exact .inr (.inr ⟨by simp [h1], by simp [h2, h3], h4, by simp [h5, h6]⟩)
    clear HP HCs
    have HCase := Lib.hid hcase
    have hzn : (va != 0) = !zb := by rw [hzb]; rfl
    have hzs : (va == 0) = zb := hzb.symm
    clear hcase hzb
    have hkn' : k ≤ n := by omega
    have HCT := Lib.hid (fun w' (hf : Fresh W w') => copied_rows _ A k c (hs.take k) w' ((H.out.1.keep hf).take hkn') (fun x hx => (H.out.2.1 x (List.mem_of_mem_take hx)).keep hf))
    have HTk : Hid ((hs.take k).length = k ∧ k ≤ 1048576 ∧ (∀ x ∈ hs.take k, MkFit x.d) ∧ (∀ x ∈ hs.take k, MkInt x.d) ∧ dsOf (hs.take k) = (dsOf hs).take k) := Lib.hid
      ⟨(H.out.1.take hkn').len, by omega, (H.out.1.take hkn').fit, fun x hx => H.out.2.2.1 x (List.mem_of_mem_take hx), List.map_take⟩
    clear hkn'
    rcases HCase.out with ⟨rfl, rfl, rfl⟩ | ⟨rfl, rfl, hvk, rfl⟩ | ⟨rfl, rfl, hvk, rfl⟩
    · obtain rfl : va = 0 := by simpa using hzs
      clear HCase hzn hzs Q2 Q3
      go_upto_region 11 with (fail)
      go_wp2_with fail
      refine Calls.mono (HCT.out w8 H8.out.1) ?_
      rintro e w9 ⟨⟨v9, ks9, rfl, hc9⟩, hf9⟩
      have hV9 := (Cops.of hc9 HTk.out.1 HTk.out.2.1 HTk.out.2.2.1 HTk.out.2.2.2.1).verdict
      rw [HTk.out.2.2.2.2, ← HWE.out.1, ← HWE.out.2] at hV9
      have HV9 := Lib.hid hV9
      have H9 := Lib.hid (And.intro (H8.out.1.trans hf9) (H8.out.2.1.keep hf9 trivial))
      clear hc9 hf9 hV9 a0 a1 u0 u1 la lu
      go_wp2_with fail
      refine Calls.mono HV9.out ?_
      rintro e w10 ⟨rfl, hf10⟩
      have hb10 := H9.out.2.keep hf10 trivial
      have a0 := hb10.cell 0; have a1 := hb10.cell 1; have la := hb10.lt
      simp at a0 a1
      have H10 := Lib.hid (H9.out.1.trans hf10)
      clear hb10 hf10 HV9
      go_wp2_with fail
      go_ret
      exact ⟨rfl, H10.out.alloc _⟩
    · have hzn2 : (va != 0) = true := hzn
      clear HCase hzn Q4
      go_upto_region 11 with (fail)
      go_wp2_with fail
      refine Calls.mono (HCT.out w8 H8.out.1) ?_
      rintro e w9 ⟨⟨v9, ks9, rfl, hc9⟩, hf9⟩
      have hV9 := (Cops.of hc9 HTk.out.1 HTk.out.2.1 HTk.out.2.2.1 HTk.out.2.2.2.1).verdict
      rw [HTk.out.2.2.2.2, ← HWE.out.1, ← HWE.out.2] at hV9
      have HV9 := Lib.hid hV9
      have H9 := Lib.hid (And.intro (H8.out.1.trans hf9) (H8.out.2.1.keep hf9 trivial))
      clear hc9 hf9 hV9 a0 a1 u0 u1 la lu
      go_wp2_with fail
      refine Calls.mono HV9.out ?_
      rintro e w10 ⟨rfl, hf10⟩
      have hb10 := H9.out.2.keep hf10 trivial
      have a0 := hb10.cell 0; have a1 := hb10.cell 1; have la := hb10.lt
      simp at a0 a1
      have H10 := Lib.hid (H9.out.1.trans hf10)
      clear hb10 hf10 HV9
      go_wp2_with fail
      go_ret
      exact ⟨rfl, H10.out.alloc _⟩
    · have hzn2 : (va != 0) = true := hzn
      clear HCase hzn Q3
      go_upto_region 11 with (fail)
      go_wp2_with fail
      refine Calls.mono (HCT.out w8 H8.out.1) ?_
      rintro e w9 ⟨⟨v9, ks9, rfl, hc9⟩, hf9⟩
      have hV9 := (Cops.of hc9 HTk.out.1 HTk.out.2.1 HTk.out.2.2.1 HTk.out.2.2.2.1).verdict
      rw [HTk.out.2.2.2.2, ← HWE.out.1, ← HWE.out.2] at hV9
      have HV9 := Lib.hid hV9
      have H9 := Lib.hid (And.intro (H8.out.1.trans hf9) (H8.out.2.1.keep hf9 trivial))
      clear hc9 hf9 hV9 a0 a1 u0 u1 la lu
      go_wp2_with fail
      refine Calls.mono HV9.out ?_
      rintro e w10 ⟨rfl, hf10⟩
      have hb10 := H9.out.2.keep hf10 trivial
      have a0 := hb10.cell 0; have a1 := hb10.cell 1; have la := hb10.lt
      simp at a0 a1
      have H10 := Lib.hid (H9.out.1.trans hf10)
      clear hb10 hf10 HV9
      go_wp2_with fail
      go_ret
      exact ⟨rfl, H10.out.alloc _⟩
end Go.Proofs.Ytfpcmleeehciaaa
