/-
  MERGED: Base
-/
import Derived.Test.YtioinjcdkmiafaaDoorRows
import Derived.WalkKit
import Derived.WalkSpells
import Derived.WalkLawsBesides
import Derived.ProofKit
import Derived.BigQuiet
import Derived.Lib.Hide
import Derived.Lib.UnsafeStr
import Derived.Maps.AppendAt
import Derived.Deep.AppendLies
import Derived.Laws.CopyOwn
import Derived.OneCell
import Derived.Deep.DeepCutAuto
import Derived.Deep.DeepFit
import Derived.Lib.AppendStr
import Derived.Laws.ResultCell
import Derived.Laws.Rows
namespace Go.Proofs.YtioinjcdkmiafaaDoor
set_option linter.unusedVariables false
set_option linter.unusedSimpArgs false
open Go.RowKit

/-! ### what a call leaves alone -/
/-- All blocks of w that meet Z are in w' as they were; none has gone. -/
structure Keep (Z : Nat → Prop) (w w' : World) : Prop where
  os : w'.os = w.os
  tape : w'.tape = w.tape
  output : w'.output = w.output
  size : w.heap.size ≤ w'.heap.size
  block : ∀ k, k < w.heap.size → Z k → w'.heap[k]? = w.heap[k]?
/-- Nothing that was there has turned. -/
abbrev Fresh (w w' : World) : Prop := Keep (fun _ => True) w w'

section
variable {Z Z' : Nat → Prop} {a b c w w' : World}
theorem Keep.refl (Z : Nat → Prop) (w : World) : Keep Z w w := ⟨rfl, rfl, rfl, Nat.le_refl _, fun _ _ _ => rfl⟩
theorem Keep.trans (h : Keep Z a b) (k : Keep Z b c) : Keep Z a c :=
  ⟨k.os.trans h.os, k.tape.trans h.tape, k.output.trans h.output, Nat.le_trans h.size k.size, fun i hi hz => (k.block i (Nat.lt_of_lt_of_le hi h.size) hz).trans (h.block i hi hz)⟩
theorem Keep.weaken (h : Keep Z a b) (hz : ∀ k, k < a.heap.size → Z' k → Z k) : Keep Z' a b := ⟨h.os, h.tape, h.output, h.size, fun k hk hzk => h.block k hk (hz k hk hzk)⟩
/-- Two steps, each leaving its own alone. -/
theorem Keep.comp {Y : Nat → Prop} (h : Keep Z a b) (k : Keep Z' b c) (h1 : ∀ i, i < a.heap.size → Y i → Z i) (h2 : ∀ i, i < a.heap.size → Y i → Z' i) : Keep Y a c :=
  ⟨k.os.trans h.os, k.tape.trans h.tape, k.output.trans h.output, Nat.le_trans h.size k.size, fun i hi hy => (k.block i (Nat.lt_of_lt_of_le hi h.size) (h2 i hi hy)).trans (h.block i hi (h1 i hi hy))⟩
theorem Keep.drew (h : Keep Z a w) : Keep Z a w.drew := ⟨h.os, h.tape, h.output, h.size, h.block⟩
theorem Keep.drewN (h : Keep Z a w) (n : Nat) : Keep Z a (w.drewN n) := ⟨h.os, h.tape, h.output, h.size, h.block⟩
theorem Keep.alloc (h : Keep Z a w) (o : Obj) : Keep Z a (w.alloc o) :=
  ⟨h.os, h.tape, h.output, Nat.le_trans h.size (by simp), fun k hk hz => (Below.heap_alloc w o k (Nat.lt_of_lt_of_le hk h.size)).trans (h.block k hk hz)⟩
theorem Keep.setCell (h : Keep Z a w) {p : Addr} (hp : p.block < a.heap.size → ¬ Z p.block) (u : Value) : Keep Z a (w.setCell p u) :=
  ⟨h.os, h.tape, h.output, by simpa [World.setCell] using h.size, fun k hk hz => (Below.heap_setCell w p u k (by rintro rfl; exact hp hk hz)).trans (h.block k hk hz)⟩
theorem Keep.of_grown {row : Option Nat} (h : w.grownBy w' row) : Keep (fun k => row ≠ some k) w w' := ⟨h.os, h.tape, h.output, h.size, fun k hk hz => h.block k hk (fun e => hz e.symm)⟩
theorem Keep.below {B : Nat} (h : Keep Z w w') (hz : ∀ k, k < B → Z k) (hB : B ≤ w.heap.size) : Below B w w' := ⟨h.os, h.tape, h.output, h.size, fun k hk => h.block k (by omega) (hz k hk)⟩
theorem Fresh.below (h : Fresh w w') : Below w.heap.size w w' := Keep.below h (fun _ _ => trivial) (Nat.le_refl _)
theorem Fresh.of_below (h : Below w.heap.size w w') : Fresh w w' := ⟨h.os, h.tape, h.output, h.size, fun k hk _ => h.block k hk⟩
theorem Keep.cell (h : Keep Z w w') {p : Addr} (hp : p.block < w.heap.size) (hz : Z p.block) : w'.cell? p = w.cell? p := World.cell?_of_block (w := w) (h.block p.block hp hz)
theorem Keep.frozen (h : Keep Z w w') {p : Addr} (hp : p.block < w.heap.size) (hz : Z p.block) : w'.frozen? p = w.frozen? p := World.frozen?_of_block (w := w) (h.block p.block hp hz)
/-- The two rules that the walk uses by itself behind a call that only makes memory. -/
theorem Fresh.rules (h : Fresh w w') : (∀ b o, b < w.heap.size → w'.cell? ⟨b, o, none⟩ = w.cell? ⟨b, o, none⟩) ∧ (∀ b o, b < w.heap.size → w'.frozen? ⟨b, o, none⟩ = w.frozen? ⟨b, o, none⟩) :=
  ⟨fun _ _ hb => h.cell (p := ⟨_, _, none⟩) hb trivial, fun _ _ hb => h.frozen (p := ⟨_, _, none⟩) hb trivial⟩
theorem lt_of_cell {p : Addr} {v : Value} (h : w.cell? p = some v) : p.block < w.heap.size := by
  rcases Nat.lt_or_ge p.block w.heap.size with hlt | hge
  · exact hlt
  · simp [World.cell?, Array.getElem?_eq_none hge] at h
theorem Keep.cellAt (h : Keep Z w w') {p : Addr} {v : Value} (hc : w.cell? p = some v) (hz : Z p.block) : w'.cell? p = some v := (h.cell (lt_of_cell hc) hz).trans hc
end

/-! ### a slice that reads as a list of cells -/
/-- The slice value '.slice A n c' reads as the cells xs ('size' cells an element); its block meets Z. -/
def Rd (w : World) (Z : Nat → Prop) (size : Nat) (A : Option Addr) (n : Nat) (xs : List Value) : Prop :=
  xs.length = n * size ∧ (0 < n → ∃ b o, A = some ⟨b, o, none⟩ ∧ Z b ∧ ∀ j u, xs[j]? = some u → w.cell? ⟨b, o + j, none⟩ = some u)
section
variable {Z Z' : Nat → Prop} {w w' : World} {size n : Nat} {A : Option Addr} {xs : List Value}
theorem Rd.nil (w : World) (Z : Nat → Prop) (size : Nat) (A : Option Addr) : Rd w Z size A 0 [] := ⟨by simp, fun h => absurd h (by omega)⟩
theorem Rd.keep (h : Rd w Z size A n xs) (hk : Keep Z w w') : Rd w' Z size A n xs :=
  ⟨h.1, fun hn => by
    obtain ⟨b, o, e, hb, hc⟩ := h.2 hn
    exact ⟨b, o, e, hb, fun j u hu => hk.cellAt (hc j u hu) hb⟩⟩
theorem Rd.weaken (h : Rd w Z size A n xs) (hz : ∀ k, Z k → Z' k) : Rd w Z' size A n xs :=
  ⟨h.1, fun hn => by
    obtain ⟨b, o, e, hb, hc⟩ := h.2 hn
    exact ⟨b, o, e, hz b hb, hc⟩⟩
theorem Rd.at1 {k : Nat} (h : Rd w Z 1 A n xs) (hk : k < n) : ∃ b o, A = some ⟨b, o, none⟩ ∧ Z b ∧ ∃ (hl : k < xs.length), w.cell? ⟨b, o + k, none⟩ = some xs[k] := by
  obtain ⟨b, o, e, hb, hc⟩ := h.2 (by omega)
  have hl : k < xs.length := by have := h.1; omega
  exact ⟨b, o, e, hb, hl, hc k _ (List.getElem?_eq_getElem hl)⟩
end

/-! ### bytes and numbers as cells -/
theorem bcs_get (l : List UInt8) (k : Nat) (h : k < l.length) : (Lib.byteCells l)[k]? = some (.int .u8 (l[k].toNat : Int)) := by simp [Lib.byteCells, h]
def ics (l : List Int) : List Value := l.map (Value.int .i64)
theorem ics_get (l : List Int) (k : Nat) (h : k < l.length) : (ics l)[k]? = some (.int .i64 l[k]) := by simp [ics, h]
theorem bcs_one (l : List UInt8) : ∀ u ∈ Lib.byteCells l, u.oneCell' = true := by
  intro u hu
  obtain ⟨c, _, rfl⟩ := List.mem_map.1 hu
  rfl
theorem ics_one (l : List Int) : ∀ u ∈ ics l, u.oneCell' = true := by
  intro u hu
  obtain ⟨c, _, rfl⟩ := List.mem_map.1 hu
  rfl
theorem ret_int {k : IntKind} {a b : Int} (h : a = b) : Ending.returned (.int k a) = .returned (.int k b) := by rw [h]
theorem ret_bool {a b : Bool} (h : a = b) : Ending.returned (.bool a) = .returned (.bool b) := by rw [h]

/-! ### append, for the walk -/
/-- A slice type's row of the table: elements of 'size' cells, of 'bytes' bytes. -/
structure ET (P : Program) (t e : TypeId) (size bytes : Nat) (z : Value) : Prop where
  ht : P.underlying t = some (.slice e)
  hi : (P.info? e).map (fun i => (i.zero, i.size, i.bytes)) = some (some z, size, bytes)
  hz : z.cells.size = size
  hs : 0 < size
  hb : 0 < bytes
/-- The new slice lies where the old one lay, or in a block that is new. -/
def Next (B : Nat) (v v' : Value) : Prop := v'.ownBlock = v.ownBlock ∨ ∃ g, v'.ownBlock = some g ∧ B ≤ g
theorem Next.refl (B : Nat) (v : Value) : Next B v v := .inl rfl
theorem Next.trans {B B' : Nat} {a b c : Value} (h : Next B a b) (k : Next B' b c) (hB : B ≤ B') : Next B a c := by
  rcases k with k | ⟨g, hg, hl⟩
  · rcases h with h | ⟨g, hg, hl⟩
    · exact .inl (k.trans h)
    · exact .inr ⟨g, k.trans hg, hl⟩
  · exact .inr ⟨g, hg, by omega⟩
/-- What was left alone by a step that may write into the newer slice's row. -/
theorem Keep.next {v v' : Value} {a b c : World} (h : Keep (fun k => v.ownBlock ≠ some k) a b) (k : Keep (fun k => v'.ownBlock ≠ some k) b c) (hn : Next a.heap.size v v') : Keep (fun k => v.ownBlock ≠ some k) a c :=
  h.comp k (fun _ _ hy => hy) (fun i hi hy e => by
    rcases hn with hn | ⟨g, hg, hl⟩
    · exact hy (hn.symm.trans e)
    · rw [hg] at e; injection e with e; omega)

section
variable {P : Program} {w : World} {t e : TypeId} {size bytes : Nat} {z : Value}
theorem run_app (E : ET P t e size bytes z) (ty : TypeId) {base : Nat} {v : Value} {n : Nat} {xs : List Value} (hown : w.ownsRow base e size v n xs) {Z : Nat → Prop} {A : Option Addr} {m c : Nat} {news : List Value} (hr : Rd w Z size A m news)
    (hnil : m = 0 → c = 0 ∨ A ≠ none) (h1 : ∀ u ∈ news, u.oneCell' = true) (hb : (n + m) * bytes ≤ 140737488355328) (hbase : base ≤ w.heap.size) :
    ∃ v' w', (Builtin.append_ #[t, t] ty #[v, .slice A m c]).run P w = .ok v' w' ∧ w'.ownsRow base e size v' (n + m) (xs ++ news) ∧ Keep (fun k => v.ownBlock ≠ some k) w w' ∧ (v'.ownBlock = v.ownBlock ∨ v'.ownBlock = some w.heap.size) := by
  obtain ⟨i, hi, hz1, hz2, hz3⟩ := info_parts E.hi
  rcases A with _ | ad
  · have hm : m = 0 := by
      rcases Nat.eq_zero_or_pos m with h0 | h0
      · exact h0
      · obtain ⟨_, _, h, _⟩ := hr.2 h0
        cases h
    subst hm
    have hn : news = [] := List.eq_nil_of_length_eq_zero (by simpa using hr.1)
    subst hn
    refine ⟨v, w, ?_, by simpa using hown, Keep.refl _ _, .inl rfl⟩
    rcases hown.2 with ⟨rfl, rfl⟩ | ⟨g, cap, cur, rfl, _, _, hnc, _⟩
    · simp [Builtin.append_, run_underlying E.ht, sizeOf, typeInfo, hi, Builtin.lenOf, Builtin.firstCells]
    · simp [Builtin.append_, run_underlying E.ht, sizeOf, typeInfo, hi, Builtin.lenOf, Builtin.firstCells, hnc, storeCells]
  · have hcells : ∀ j u, news[j]? = some u → w.cell? (ad.add j) = some u := by
      intro j u hu
      rcases Nat.eq_zero_or_pos m with h0 | h0
      · subst h0
        have hn : news = [] := List.eq_nil_of_length_eq_zero (by simpa using hr.1)
        subst hn
        simp at hu
      · obtain ⟨b, o, h, _, hc⟩ := hr.2 h0
        injection h with h
        subst h
        have := hc j u hu
        unfold Addr.add
        split
        · rename_i hj; subst hj; simpa using this
        · exact this
    have h63 : n + m ≤ maxLen := by
      have h2 := E.hb
      have h3 : n + m ≤ (n + m) * bytes := Nat.le_mul_of_pos_right _ h2
      simp only [maxLen]
      omega
    obtain ⟨v', w', hrun, h2, h3, _, h5⟩ := run_append_own_at (P := P) w base t ty e i z size bytes E.ht hi hz1 hz2 hz3 E.hz E.hs v n xs hown ad m c news hr.1 hcells h1 h63 hb hbase
    exact ⟨v', w', hrun, h2, Keep.of_grown h3, h5⟩

theorem wpList_app (E : ET P t e size bytes z) {ops : Array Oper} {rest : List Oper} {o : Oper} {a : Act} {Q : Exit → Act → World → Prop} (hgd : o.guard = none) (s x : Operand)
    (ho : o.op = .call { callee := .builtin .append, args := #[s, x], argTypes := #[t, t] })
    (base : Nat) (v : Value) (n : Nat) (xs : List Value) (hs : a.eval s = v) (hown : w.ownsRow base e size v n xs) (Z : Nat → Prop) (A : Option Addr) (m c : Nat) (news : List Value) (hx : a.eval x = .slice A m c) (hr : Rd w Z size A m news)
    (hnil : m = 0 → c = 0 ∨ A ≠ none) (h1 : ∀ u ∈ news, u.oneCell' = true) (hb : (n + m) * bytes ≤ 140737488355328) (hbase : base ≤ w.heap.size)
    (h : ∀ v' w', w'.ownsRow base e size v' (n + m) (xs ++ news) → Keep (fun k => v.ownBlock ≠ some k) w w' → Next w.heap.size v v' → wpList P ops Q rest (a.put o.dst v') w') :
    wpList P ops Q (o :: rest) a w := by
  refine wpList_plain hgd fun K hK => ?_
  obtain ⟨v', w', hrun, h2, h3, h4⟩ := run_app E o.type hown hr hnil h1 hb hbase
  unfold Oper.wp execOp
  simp only [ho, resolve, invoke, builtin, Sem.run_bind, Sem.run_pure, Result.andThen_ok, List.map_toArray, List.map_cons, List.map_nil, hs, hx, hrun]
  exact hK _ _ (h v' w' h2 h3 (h4.imp id fun e => ⟨_, e, Nat.le_refl _⟩))

theorem Rd.one_new (w : World) (x : Value) (t : TypeId) : Rd (w.alloc (.cells #[x] t)) (fun _ => True) 1 (some ⟨w.heap.size, 0, none⟩) 1 [x] :=
  ⟨rfl, fun _ => ⟨_, _, rfl, trivial, fun j u hu => by
    match j, hu with
    | 0, hu =>
      simp at hu
      subst hu
      simp⟩⟩

theorem Rd.own1 (w : World) (x : Value) (t : TypeId) : Rd (w.alloc (.cells #[x] t)) (fun i => i = w.heap.size) 1 (some ⟨w.heap.size, 0, none⟩) 1 [x] :=
  ⟨rfl, fun _ => ⟨_, _, rfl, rfl, fun j u hu => by
    match j, hu with
    | 0, hu =>
      simp at hu
      subst hu
      simp⟩⟩
/-- 'append(s, x)': the element has just been laid in a block of its own. -/
theorem wpList_app1 (E : ET P t e 1 bytes z) {ops : Array Oper} {rest : List Oper} {o : Oper} {a : Act} {Q : Exit → Act → World → Prop} (hgd : o.guard = none) (s x : Operand)
    (ho : o.op = .call { callee := .builtin .append, args := #[s, x], argTypes := #[t, t] }) (y : Value) (te : TypeId) (hy : y.oneCell' = true)
    (base : Nat) (v : Value) (n : Nat) (xs : List Value) (hs : a.eval s = v) (hx : a.eval x = .slice (some ⟨w.heap.size, 0, none⟩) 1 1) (hown : w.ownsRow base e 1 v n xs)
    (hb : (n + 1) * bytes ≤ 140737488355328) (hbase : base ≤ w.heap.size)
    (h : ∀ v' w', w'.ownsRow base e 1 v' (n + 1) (xs ++ [y]) → Keep (fun k => v.ownBlock ≠ some k) w w' → Next w.heap.size v v' → wpList P ops Q rest (a.put o.dst v') w') :
    wpList P ops Q (o :: rest) a (w.alloc (.cells #[y] te)) :=
  wpList_app E hgd s x ho base v n xs hs (hown.alloc _) _ _ 1 1 [y] hx (Rd.one_new w y te) (fun h => by cases h) (by simpa using hy) hb (by simp; omega) fun v' w' h1 h2 h3 =>
    h v' w' h1 (((Keep.refl _ w).alloc _).comp h2 (fun _ _ h => h) (fun _ _ h => h)) (h3.imp id fun ⟨g, hg, hl⟩ => ⟨g, hg, by simp at hl; omega⟩)

theorem madeCells_one (z : Value) (n : Nat) : (madeCells #[z] n).toList = List.replicate n z := toList_madeCells_one z n
/-- 'make([]T, n, c)', elements of one cell. -/
theorem wpList_makeN (E : ET P t e 1 bytes z) (hzc : z.cells = #[z]) {ops : Array Oper} {rest : List Oper} {o : Oper} {a : Act} {Q : Exit → Act → World → Prop} (hgd : o.guard = none) (l c : Operand) (ho : o.op = .makeSlice t l c)
    (base : Nat) (kl kc : IntKind) (L C : Int) (n m : Nat) (hl : a.eval l = .int kl L) (hc : a.eval c = .int kc C) (hL : L = (n : Int)) (hC : C = (m : Int)) (hnm : n ≤ m) (hb : m * bytes ≤ 140737488355328) (hbase : base ≤ w.heap.size)
    (h : ∀ w', w'.ownsRow base e 1 (.slice (some ⟨w.heap.size, 0, none⟩) n m) n (List.replicate n z) → Keep (fun _ => True) w w' → w'.heap.size = w.heap.size + 1 → wpList P ops Q rest (a.put o.dst (.slice (some ⟨w.heap.size, 0, none⟩) n m)) w') :
    wpList P ops Q (o :: rest) a w := by
  obtain ⟨i, hi, hz1, hz2, hz3⟩ := info_parts E.hi
  refine wpList_plain hgd fun K hK => ?_
  subst hL hC
  have h63 : m ≤ 9223372036854775807 := by
    have h2 := E.hb
    have h3 : m ≤ m * bytes := Nat.le_mul_of_pos_right _ h2
    omega
  have hb' : (i.bytes : Int) * (m : Int) ≤ 281474976710656 := by
    rw [hz3, Int.mul_comm]
    have h : ((m * bytes : Nat) : Int) ≤ 281474976710656 := by omega
    rwa [Int.natCast_mul] at h
  have hr := run_make (P := P) w t e i z E.ht hi hz1 kl kc n m (by omega) (by omega) hb' (by omega)
  simp only [Int.toNat_natCast, hz2, Nat.mul_one, hzc] at hr
  unfold Oper.wp
  simp [execOp, ho, hl, hc, hr, Result.andThen]
  refine hK _ _ (h _ ⟨by simp, .inr ⟨_, m, _, rfl, hbase, heap_alloc_new w _, hnm, by simp only [maxLen]; omega, by simp [size_madeCells], ?_⟩⟩ ((Keep.refl _ w).alloc _) (by simp))
  rw [madeCells_one]
  simp [Nat.min_eq_left hnm]

/-- 'copy(d, s)' into a row of the call's own, all of s. -/
theorem wpList_copyN (E : ET P t e 1 bytes z) {ops : Array Oper} {rest : List Oper} {o : Oper} {a : Act} {Q : Exit → Act → World → Prop} (hgd : o.guard = none) (d s : Operand)
    (ho : o.op = .call { callee := .builtin .copy, args := #[d, s], argTypes := #[t, t] }) (base g n cap : Nat) (xs : List Value) (hd : a.eval d = .slice (some ⟨g, 0, none⟩) n cap) (hown : w.ownsRow base e 1 (.slice (some ⟨g, 0, none⟩) n cap) n xs)
    (Z : Nat → Prop) (A : Option Addr) (m c : Nat) (news : List Value) (hs : a.eval s = .slice A m c) (hr : Rd w Z 1 A m news) (hmn : m ≤ n) (h1 : ∀ u ∈ news, u.oneCell' = true)
    (h : ∀ w', w'.ownsRow base e 1 (.slice (some ⟨g, 0, none⟩) n cap) n (news ++ xs.drop m) → Keep (fun k => k ≠ g) w w' → wpList P ops Q rest (a.put o.dst (goInt m)) w') :
    wpList P ops Q (o :: rest) a w := by
  obtain ⟨i, hi, hz1, hz2, hz3⟩ := info_parts E.hi
  have hsz : (P.info? e).map (·.size) = some 1 := by rw [hi]; simp [hz2]
  have hlen : news.length = m := by simpa using hr.1
  rcases Nat.eq_zero_or_pos m with h0 | h0
  · subst h0
    obtain rfl : news = [] := List.eq_nil_of_length_eq_zero hlen
    exact wpList_copy_nothing hgd d s t t ho e E.ht hsz _ _ _ _ _ _ hd hs (by simp) (h w (by simpa using hown) (Keep.refl _ _))
  · obtain ⟨b, off, rfl, _, hc⟩ := hr.2 h0
    rcases hown.2 with ⟨hv, _⟩ | ⟨g', cap', cur, hv, hbg, hg, hnc, hcm, hcs, htake⟩
    · cases hv
    · injection hv with hv1 _ hv2
      injection hv1 with hv1
      injection hv1 with hv1
      subst hv1 hv2
      refine wpList_copy_own hgd d s t t ho e E.ht hsz g 0 n cap ⟨b, off, none⟩ m c hd hs cur e hg news (by rw [hlen]; exact (Nat.min_eq_left hmn).symm) (fun j v hj => ?_) (by simp; omega) h1 ?_
      · have := hc j v hj
        unfold Addr.add
        split
        · rename_i h0; subst h0; simpa using this
        · exact this
      · rw [hlen]
        refine h _ ⟨by have := hown.1; simp [hlen]; omega, .inr ⟨g, cap, _, rfl, hbg, setRow_heap w g cur _ e _ hg, hnc, hcm, by simp; omega, ?_⟩⟩ ⟨rfl, rfl, rfl, by simp [World.setRow], fun k _ hk => setRow_other w g k _ hk⟩
        rw [← htake]
        simp only [List.take_zero, List.nil_append, Nat.zero_add, Nat.mul_one]
        rw [List.take_append, List.take_of_length_le (by omega), hlen, List.drop_take]
end

/-! ### a block that is known whole -/
def Blk (w : World) (g : Nat) (t : TypeId) (cs : Array Value) : Prop := w.heap[g]? = some (.cells cs t (0, 0))
section
variable {w w' : World} {g : Nat} {t : TypeId} {cs : Array Value}
theorem Blk.lt (h : Blk w g t cs) : g < w.heap.size := lt_of_block h
theorem Blk.cell (h : Blk w g t cs) (i : Nat) : w.cell? ⟨g, i, none⟩ = cs[i]? := cell_of_row w g i cs t (0, 0) h
theorem Blk.frozen (h : Blk w g t cs) (i : Nat) : w.frozen? ⟨g, i, none⟩ = false := by
  unfold Blk at h
  simp [World.frozen?, h]
theorem Blk.new (w : World) (t : TypeId) (cs : Array Value) : Blk (w.alloc (.cells cs t)) w.heap.size t cs := heap_alloc_new w _
theorem Blk.drew (h : Blk w g t cs) : Blk w.drew g t cs := h
theorem Blk.drewN (h : Blk w g t cs) (n : Nat) : Blk (w.drewN n) g t cs := h
theorem Blk.alloc (h : Blk w g t cs) (o : Obj) : Blk (w.alloc o) g t cs := (Below.heap_alloc w o g h.lt).trans h
theorem Blk.set (h : Blk w g t cs) (i : Nat) (u : Value) : Blk (w.setCell ⟨g, i, none⟩ u) g t (cs.setIfInBounds i u) := by
  unfold Blk at h ⊢
  simp [World.setCell, Array.getElem?_modify, h]
theorem Blk.far (h : Blk w g t cs) {p : Addr} (hp : g ≠ p.block) (u : Value) : Blk (w.setCell p u) g t cs := (Below.heap_setCell w p u g hp).trans h
theorem Blk.keep {Z : Nat → Prop} (h : Blk w g t cs) (hk : Keep Z w w') (hz : Z g) : Blk w' g t cs := (hk.block g h.lt hz).trans h
theorem Blk.rd (h : Blk w g t cs) {n : Nat} (hn : cs.size = n) : Rd w (fun i => i = g) 1 (some ⟨g, 0, none⟩) n cs.toList :=
  ⟨by simp [hn], fun _ => ⟨g, 0, rfl, rfl, fun j u hu => by
    rw [h.cell (0 + j), Nat.zero_add]
    simpa using hu⟩⟩
theorem Blk.ne {g' : Nat} {t' : TypeId} {cs' : Array Value} (h : Blk w g t cs) (h' : Blk w g' t' cs') (hne : t ≠ t') : g ≠ g' := by
  rintro rfl
  unfold Blk at h h'
  rw [h] at h'
  injection h' with h'
  injection h' with _ ht
  exact hne ht
end
section
variable {w w' : World} {base base' : Nat} {e : TypeId} {size n : Nat} {v : Value} {xs : List Value}
theorem own_ne_blk {g : Nat} {t : TypeId} {cs : Array Value} (h : w.ownsRow base e size v n xs) (hg : Blk w g t cs) (hne : e ≠ t) : v.ownBlock ≠ some g := by
  rcases h.2 with ⟨rfl, _⟩ | ⟨g', cap, cur, rfl, _, hh, _⟩
  · simp [Value.ownBlock]
  · intro he
    have : g' = g := by simpa [Value.ownBlock] using he
    subst this
    exact Blk.ne (t := e) hh hg hne rfl
theorem own_keep {Z : Nat → Prop} (h : w.ownsRow base e size v n xs) (hk : Keep Z w w') (hz : ∀ k, v.ownBlock = some k → Z k) : w'.ownsRow base e size v n xs := by
  refine ⟨h.1, ?_⟩
  rcases h.2 with hn | ⟨g, cap, cur, rfl, hb, hgg, rest⟩
  · exact .inl hn
  · exact .inr ⟨g, cap, cur, rfl, hb, (hk.block g (lt_of_block hgg) (hz g (by simp [Value.ownBlock]))).trans hgg, rest⟩
theorem own_base (h : w.ownsRow base e size v n xs) (hb : base' ≤ base) : w.ownsRow base' e size v n xs := by
  refine ⟨h.1, ?_⟩
  rcases h.2 with hn | ⟨g, cap, cur, rfl, hbg, rest⟩
  · exact .inl hn
  · exact .inr ⟨g, cap, cur, rfl, by omega, rest⟩
theorem own_far (h : w.ownsRow base e size v n xs) {p : Addr} (hp : v.ownBlock ≠ some p.block) (u : Value) : (w.setCell p u).ownsRow base e size v n xs := ownsRow_setCell_other h hp u
theorem own_lt (h : w.ownsRow base e size v n xs) {g : Nat} (hg : v.ownBlock = some g) : base ≤ g ∧ g < w.heap.size := by
  rcases h.2 with ⟨rfl, _⟩ | ⟨g', cap, cur, rfl, hb, hh, _⟩
  · simp [Value.ownBlock] at hg
  · simp [Value.ownBlock] at hg
    subst hg
    exact ⟨hb, lt_of_block hh⟩
/-- An owned slice, read. -/
theorem own_rd (h : w.ownsRow base e size v n xs) : ∃ A c, v = .slice A n c ∧ Rd w (fun k => v.ownBlock = some k) size A n xs ∧ (n = 0 → c = 0 ∨ A ≠ none) := by
  rcases h.2 with ⟨rfl, rfl⟩ | ⟨g, cap, cur, rfl, hb, hh, hn, hm, hs, ht⟩
  · have : xs = [] := List.eq_nil_of_length_eq_zero (by simpa using h.1)
    subst this
    exact ⟨none, 0, rfl, Rd.nil _ _ _ _, fun _ => .inl rfl⟩
  · refine ⟨_, _, rfl, ⟨h.1, fun _ => ⟨g, 0, rfl, by simp [Value.ownBlock], fun j u hu => ?_⟩⟩, fun _ => .inr (by simp)⟩
    rw [cell_of_row w g (0 + j) cur e (0, 0) hh]
    rw [← ht, List.getElem?_take] at hu
    split at hu
    · simpa using hu
    · cases hu
/-- An owned slice that is not empty, written out. -/
theorem own_form (h : w.ownsRow base e size v n xs) (hn : 0 < n) : ∃ g c, v = .slice (some ⟨g, 0, none⟩) n c ∧ base ≤ g ∧ g < w.heap.size := by
  rcases h.2 with ⟨rfl, rfl⟩ | ⟨g, cap, cur, rfl, hb, hh, _⟩
  · omega
  · exact ⟨g, cap, rfl, hb, lt_of_block hh⟩
end

/-! ### a string's bytes, appended -/
section
variable {P : Program} {w : World} {t u e : TypeId}
theorem strCells_eq (s : ByteArray) : Lib.strCells s = Lib.byteCells s.data.toList := rfl
theorem run_app_str (E : ET P t e 1 1 (.int .u8 0)) (hu : P.underlying u = some .string) (ty : TypeId) {base : Nat} {v : Value} {n : Nat} {xs : List Value} (hown : w.ownsRow base e 1 v n xs) (s : ByteArray) (hb : n + s.size ≤ 140737488355328) (hbase : base ≤ w.heap.size) :
    ∃ v' w', (Builtin.append_ #[t, u] ty #[v, .string s]).run P w = .ok v' w' ∧ w'.ownsRow base e 1 v' (n + s.size) (xs ++ Lib.byteCells s.data.toList) ∧ Keep (fun k => v.ownBlock ≠ some k) w w' ∧ Next w.heap.size v v' := by
  obtain ⟨i, hi, hz1, hz2, hz3⟩ := info_parts E.hi
  have h63 : n + s.size ≤ maxLen := by simp only [maxLen]; omega
  obtain ⟨v', w', hrun, ho, hg, _⟩ := Lib.run_append_own_string (P := P) w base t u ty e i E.ht hu hi hz1 hz2 hz3 v n xs hown s h63 (by omega) hbase
  rw [strCells_eq] at ho
  refine ⟨v', w', hrun, ho, Keep.of_grown hg, ?_⟩
  rcases hown.2 with ⟨rfl, rfl⟩ | ⟨g, cap, cur, rfl, hbg, hgg, hnc, hcm, hcs, htake⟩
  · obtain ⟨v2, w2, hrun2, ho2, _⟩ := Lib.run_append_own_string (P := P) w w.heap.size t u ty e i E.ht hu hi hz1 hz2 hz3 _ 0 xs (w.ownsRow_nil w.heap.size e 1 |> fun h => by have := hown.1; have hx : xs = [] := List.eq_nil_of_length_eq_zero (by simpa using this); subst hx; exact h) s h63 (by omega) (Nat.le_refl _)
    rw [hrun] at hrun2
    injection hrun2 with e1 e2
    subst e1 e2
    cases hv : v'.ownBlock with
    | none => exact .inl hv
    | some g => exact .inr ⟨g, hv, (own_lt ho2 hv).1⟩
  · by_cases hroom : n + s.size ≤ cap
    · have hr := Lib.run_append_room_string (P := P) w t u ty e i E.ht hu hi hz2 g n cap cur hgg s hroom (by simp at hcs; omega)
      rw [hrun] at hr
      injection hr with e1 _
      subst e1
      exact .inl rfl
    · have holds : ∀ j u, xs[j]? = some u → w.cell? ((⟨g, 0, none⟩ : Addr).add j) = some u := hown.cells (g := g) rfl
      have hr := Lib.run_append_grow_string (P := P) w t u ty e i (.int .u8 0) E.ht hu hi hz1 ⟨g, 0, none⟩ n cap xs (by have := hown.1; rw [hz2]; simpa using this) holds s (by omega) (by omega) (by rw [hz3]; exact growslice_fits (by omega) (by omega))
      rw [hrun] at hr
      injection hr with e1 _
      subst e1
      exact .inr ⟨_, rfl, Nat.le_refl _⟩
theorem wpList_app_str (E : ET P t e 1 1 (.int .u8 0)) (hu : P.underlying u = some .string) {ops : Array Oper} {rest : List Oper} {o : Oper} {a : Act} {Q : Exit → Act → World → Prop} (hgd : o.guard = none) (s x : Operand)
    (ho : o.op = .call { callee := .builtin .append, args := #[s, x], argTypes := #[t, u] })
    (base : Nat) (v : Value) (n : Nat) (xs : List Value) (hs : a.eval s = v) (hown : w.ownsRow base e 1 v n xs) (st : ByteArray) (hx : a.eval x = .string st) (hb : n + st.size ≤ 140737488355328) (hbase : base ≤ w.heap.size)
    (h : ∀ v' w', w'.ownsRow base e 1 v' (n + st.size) (xs ++ Lib.byteCells st.data.toList) → Keep (fun k => v.ownBlock ≠ some k) w w' → Next w.heap.size v v' → wpList P ops Q rest (a.put o.dst v') w') :
    wpList P ops Q (o :: rest) a w := by
  refine wpList_plain hgd fun K hK => ?_
  obtain ⟨v', w', hrun, h2, h3, h4⟩ := run_app_str E hu o.type hown st hb hbase
  unfold Oper.wp execOp
  simp only [ho, resolve, invoke, builtin, Sem.run_bind, Sem.run_pure, Result.andThen_ok, List.map_toArray, List.map_cons, List.map_nil, hs, hx, hrun]
  exact hK _ _ (h v' w' h2 h3 h4)
end

/-! ### quiet calls -/
theorem quiet_left {P : Program} {f : FuncId} {args : Array Value} {w : World} {n : Nat} {v : Value}
    (h : Calls P f args (w.drewN n) fun e w' => e = .returned v ∧ w.drewN n = w') : Calls P f args (w.drewN n) fun e w'' => e = .returned v ∧ ∃ m, w'' = w.drewN m :=
  h.mono fun _ _ ⟨he, hm⟩ => ⟨he, n, hm.symm⟩
theorem quiet_add_left {P : Program} {f : FuncId} {args : Array Value} {w : World} {a n : Nat} {v : Value}
    (h : Calls P f args (w.drewN (a + n)) fun e w' => e = .returned v ∧ w.drewN (a + n) = w') :
    Calls P f args (w.drewN (a + n)) fun e w'' => e = .returned v ∧ ∃ m, w'' = w.drewN (a + m) :=
  h.mono fun _ _ ⟨he, hm⟩ => ⟨he, n, hm.symm⟩
theorem Rd.drewN {w : World} {Z : Nat → Prop} {size n : Nat} {A : Option Addr} {xs : List Value} (h : Rd w Z size A n xs) (k : Nat) : Rd (w.drewN k) Z size A n xs := h

/-- What reads lies in blocks that are there. -/
theorem Rd.old {w : World} {Z : Nat → Prop} {size n : Nat} {A : Option Addr} {xs : List Value} (h : Rd w Z size A n xs) (hs : 0 < size) : Rd w (fun k => k < w.heap.size) size A n xs :=
  ⟨h.1, fun hn => by
    obtain ⟨b, o, e, _, hc⟩ := h.2 hn
    have hp : 0 < n * size := Nat.mul_pos hn hs
    have hl : 0 < xs.length := by rw [h.1]; exact hp
    exact ⟨b, o, e, lt_of_cell (hc 0 _ (List.getElem?_eq_getElem hl)), hc⟩⟩
/-- A result that is a whole block, and one in a slot. -/
theorem results_blk {P : Program} {fn : Func} {p u : Tmp} {ty : TypeId} (h : fn.results = #[.cell p ty, .tmp u]) (tmps : Array Value) (w : World) (g : Nat) (t : TypeId) (cs : Array Value) (d : TypeDesc) (x : Value)
    (hp : tmps.getD p undef = .pointer (some ⟨g, 0, none⟩)) (hg : w.heap[g]? = some (.cells cs t (0, 0))) (hu : P.underlying ty = some d) (hd : (match d with | .struct _ | .array _ _ => true | _ => false) = true) (hi : (P.info? ty).map (·.size) = some cs.size)
    (hx : tmps.getD u undef = x) : (results fn tmps).run P w = .ok (.tuple #[.agg cs, x]) w := by
  rw [results_cell_tmp h, hp, hx]
  simp [asAddr, Result.andThen, run_loadVar_row w g t ty cs (0, 0) d hg hu hd hi]

/-! ### a cut of a slice; a string out of bytes -/
section
variable {Z : Nat → Prop} {w : World} {A : Option Addr} {n : Nat}
theorem Rd.cut1 {xs : List Value} (h : Rd w Z 1 A n xs) {k m c : Nat} (hk : k + m ≤ n) (hc : n ≤ c) : Rd w Z 1 (if c = k then A else Option.map (fun x => x.add k) A) m ((xs.drop k).take m) := by
  have hl : xs.length = n := by simpa using h.1
  refine ⟨by simp; omega, fun hm => ?_⟩
  obtain ⟨b, o, rfl, hz, hcell⟩ := h.2 (by omega)
  rw [if_neg (by omega)]
  refine ⟨b, o + k, ?_, hz, fun j u hu => ?_⟩
  · simp only [Option.map_some, Addr.add]
    split
    · rename_i h0; subst h0; rfl
    · rfl
  · rw [List.getElem?_take] at hu
    split at hu
    · rw [List.getElem?_drop] at hu
      have := hcell (k + j) u hu
      rwa [← Nat.add_assoc] at this
    · cases hu
theorem run_conv_str {P : Program} {src dst e : TypeId} (hs : P.underlying src = some (.slice e)) (he : P.underlying e = some (.int .u8)) (hd : P.underlying dst = some .string) {bs : List UInt8} (h : Rd w Z 1 A n (Lib.byteCells bs)) (c : Nat) :
    (convert src dst (.slice A n c)).run P w = .ok (.string ⟨bs.toArray⟩) w := by
  have hl : bs.length = n := by simpa [Lib.byteCells] using h.1
  rcases A with _ | ad
  · have h0 : n = 0 := by
      rcases Nat.eq_zero_or_pos n with h0 | h0
      · exact h0
      · obtain ⟨_, _, h1, _⟩ := h.2 h0; cases h1
    subst h0
    obtain rfl : bs = [] := List.eq_nil_of_length_eq_zero hl
    exact run_convert_bytes_nil w src e hs he 0 c dst hd
  · have e1 : strOfNums (bs.map fun c => (c.toNat : Int)) = ⟨bs.toArray⟩ := by
      simp only [strOfNums, List.map_map]
      congr 2
      refine (List.map_congr_left fun x _ => ?_).trans (List.map_id bs)
      simp
    rcases Nat.eq_zero_or_pos n with h0 | h0
    · subst h0
      obtain rfl : bs = [] := List.eq_nil_of_length_eq_zero hl
      rw [run_convert_bytes_string w src dst e _ 0 c hs he hd, run_bytesToString w ad 0 c [] (run_loadCells_list (P := P) w ad [] (by simp))]
      rfl
    · obtain ⟨b, o, h1, _, hc⟩ := h.2 h0
      injection h1 with h1
      subst h1
      have := run_convert_bytes_arg (P := P) w src e hs he b o n c (bs.map fun c => (c.toNat : Int)) (by simpa using hl) (fun i hi => by
        have hib : i < bs.length := by omega
        rw [hc i _ (bcs_get bs i hib)]
        simp [List.getD, hib]) dst hd
      rw [this, e1]
theorem byteCells_cut (bs : List UInt8) (k m : Nat) : ((Lib.byteCells bs).drop k).take m = Lib.byteCells ((bs.drop k).take m) := by simp [Lib.byteCells, List.map_take, List.map_drop]
end
theorem Blk.newAt {w : World} {k : Nat} {t : TypeId} {cs : Array Value} (h : w.heap.size = k) : Blk (w.alloc (.cells cs t)) k t cs := h ▸ Blk.new _ _ _
end Go.Proofs.YtioinjcdkmiafaaDoor
