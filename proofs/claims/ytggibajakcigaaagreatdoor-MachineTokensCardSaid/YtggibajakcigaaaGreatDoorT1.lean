/-
  MERGED: Base Row Rise MacD Map Pure Put ReadP Take Reader
-/
import Derived.Test.YtggibajakcigaaaGreatDoorRows
import Derived.WalkKit
import Derived.WalkSpells
import Derived.WalkLawsBesides
import Derived.ProofKit
import Derived.BigQuiet
import Derived.Lib.Hide
import Derived.Lib.UnsafeStr
import Derived.Maps.AppendAt
import Derived.Deep.AppendLies
import Derived.Laws.CopyOwn
import Derived.OneCell
import Derived.Deep.DeepCutAuto
import Derived.Deep.DeepFit
import Derived.Lib.AppendStr
import Derived.Laws.ResultCell
import Derived.Laws.Rows
import Derived.Deep.DeepAppendRoom
import Derived.Deep.RegionLaw
import Derived.WideAt
import Derived.WideShapes
import Derived.Maps.OwnSet
import Derived.Laws.BitsAllLaws
import Derived.Laws.BitsLemmas
import Derived.RowKit2
namespace Go.Proofs.YtggibajakcigaaaGreatDoor
set_option linter.unusedVariables false
set_option linter.unusedSimpArgs false
open Go.RowKit

/-! ### what a call leaves alone -/
/-- All blocks of w that meet Z are in w' as they were; none has gone. -/
structure Keep (Z : Nat → Prop) (w w' : World) : Prop where
  os : w'.os = w.os
  tape : w'.tape = w.tape
  output : w'.output = w.output
  size : w.heap.size ≤ w'.heap.size
  block : ∀ k, k < w.heap.size → Z k → w'.heap[k]? = w.heap[k]?
/-- Nothing that was there has turned. -/
abbrev Fresh (w w' : World) : Prop := Keep (fun _ => True) w w'

section
variable {Z Z' : Nat → Prop} {a b c w w' : World}
theorem Keep.refl (Z : Nat → Prop) (w : World) : Keep Z w w := ⟨rfl, rfl, rfl, Nat.le_refl _, fun _ _ _ => rfl⟩
theorem Keep.trans (h : Keep Z a b) (k : Keep Z b c) : Keep Z a c :=
  ⟨k.os.trans h.os, k.tape.trans h.tape, k.output.trans h.output, Nat.le_trans h.size k.size, fun i hi hz => (k.block i (Nat.lt_of_lt_of_le hi h.size) hz).trans (h.block i hi hz)⟩
theorem Keep.weaken (h : Keep Z a b) (hz : ∀ k, k < a.heap.size → Z' k → Z k) : Keep Z' a b := ⟨h.os, h.tape, h.output, h.size, fun k hk hzk => h.block k hk (hz k hk hzk)⟩
/-- Two steps, each leaving its own alone. -/
theorem Keep.comp {Y : Nat → Prop} (h : Keep Z a b) (k : Keep Z' b c) (h1 : ∀ i, i < a.heap.size → Y i → Z i) (h2 : ∀ i, i < a.heap.size → Y i → Z' i) : Keep Y a c :=
  ⟨k.os.trans h.os, k.tape.trans h.tape, k.output.trans h.output, Nat.le_trans h.size k.size, fun i hi hy => (k.block i (Nat.lt_of_lt_of_le hi h.size) (h2 i hi hy)).trans (h.block i hi (h1 i hi hy))⟩
theorem Keep.drew (h : Keep Z a w) : Keep Z a w.drew := ⟨h.os, h.tape, h.output, h.size, h.block⟩
theorem Keep.drewN (h : Keep Z a w) (n : Nat) : Keep Z a (w.drewN n) := ⟨h.os, h.tape, h.output, h.size, h.block⟩
theorem Keep.alloc (h : Keep Z a w) (o : Obj) : Keep Z a (w.alloc o) :=
  ⟨h.os, h.tape, h.output, Nat.le_trans h.size (by simp), fun k hk hz => (Below.heap_alloc w o k (Nat.lt_of_lt_of_le hk h.size)).trans (h.block k hk hz)⟩
theorem Keep.setCell (h : Keep Z a w) {p : Addr} (hp : p.block < a.heap.size → ¬ Z p.block) (u : Value) : Keep Z a (w.setCell p u) :=
  ⟨h.os, h.tape, h.output, by simpa [World.setCell] using h.size, fun k hk hz => (Below.heap_setCell w p u k (by rintro rfl; exact hp hk hz)).trans (h.block k hk hz)⟩
theorem Keep.of_grown {row : Option Nat} (h : w.grownBy w' row) : Keep (fun k => row ≠ some k) w w' := ⟨h.os, h.tape, h.output, h.size, fun k hk hz => h.block k hk (fun e => hz e.symm)⟩
theorem Keep.below {B : Nat} (h : Keep Z w w') (hz : ∀ k, k < B → Z k) (hB : B ≤ w.heap.size) : Below B w w' := ⟨h.os, h.tape, h.output, h.size, fun k hk => h.block k (by omega) (hz k hk)⟩
theorem Fresh.below (h : Fresh w w') : Below w.heap.size w w' := Keep.below h (fun _ _ => trivial) (Nat.le_refl _)
theorem Fresh.of_below (h : Below w.heap.size w w') : Fresh w w' := ⟨h.os, h.tape, h.output, h.size, fun k hk _ => h.block k hk⟩
theorem Keep.cell (h : Keep Z w w') {p : Addr} (hp : p.block < w.heap.size) (hz : Z p.block) : w'.cell? p = w.cell? p := World.cell?_of_block (w := w) (h.block p.block hp hz)
theorem Keep.frozen (h : Keep Z w w') {p : Addr} (hp : p.block < w.heap.size) (hz : Z p.block) : w'.frozen? p = w.frozen? p := World.frozen?_of_block (w := w) (h.block p.block hp hz)
/-- The two rules that the walk uses by itself behind a call that only makes memory. -/
theorem Fresh.rules (h : Fresh w w') : (∀ b o, b < w.heap.size → w'.cell? ⟨b, o, none⟩ = w.cell? ⟨b, o, none⟩) ∧ (∀ b o, b < w.heap.size → w'.frozen? ⟨b, o, none⟩ = w.frozen? ⟨b, o, none⟩) :=
  ⟨fun _ _ hb => h.cell (p := ⟨_, _, none⟩) hb trivial, fun _ _ hb => h.frozen (p := ⟨_, _, none⟩) hb trivial⟩
theorem lt_of_cell {p : Addr} {v : Value} (h : w.cell? p = some v) : p.block < w.heap.size := by
  rcases Nat.lt_or_ge p.block w.heap.size with hlt | hge
  · exact hlt
  · simp [World.cell?, Array.getElem?_eq_none hge] at h
theorem Keep.cellAt (h : Keep Z w w') {p : Addr} {v : Value} (hc : w.cell? p = some v) (hz : Z p.block) : w'.cell? p = some v := (h.cell (lt_of_cell hc) hz).trans hc
end

/-! ### a slice that reads as a list of cells -/
/-- The slice value '.slice A n c' reads as the cells xs ('size' cells an element); its block meets Z. -/
def Rd (w : World) (Z : Nat → Prop) (size : Nat) (A : Option Addr) (n : Nat) (xs : List Value) : Prop :=
  xs.length = n * size ∧ (0 < n → ∃ b o, A = some ⟨b, o, none⟩ ∧ Z b ∧ ∀ j u, xs[j]? = some u → w.cell? ⟨b, o + j, none⟩ = some u)
section
variable {Z Z' : Nat → Prop} {w w' : World} {size n : Nat} {A : Option Addr} {xs : List Value}
theorem Rd.nil (w : World) (Z : Nat → Prop) (size : Nat) (A : Option Addr) : Rd w Z size A 0 [] := ⟨by simp, fun h => absurd h (by omega)⟩
theorem Rd.keep (h : Rd w Z size A n xs) (hk : Keep Z w w') : Rd w' Z size A n xs :=
  ⟨h.1, fun hn => by
    obtain ⟨b, o, e, hb, hc⟩ := h.2 hn
    exact ⟨b, o, e, hb, fun j u hu => hk.cellAt (hc j u hu) hb⟩⟩
theorem Rd.weaken (h : Rd w Z size A n xs) (hz : ∀ k, Z k → Z' k) : Rd w Z' size A n xs :=
  ⟨h.1, fun hn => by
    obtain ⟨b, o, e, hb, hc⟩ := h.2 hn
    exact ⟨b, o, e, hz b hb, hc⟩⟩
theorem Rd.at1 {k : Nat} (h : Rd w Z 1 A n xs) (hk : k < n) : ∃ b o, A = some ⟨b, o, none⟩ ∧ Z b ∧ ∃ (hl : k < xs.length), w.cell? ⟨b, o + k, none⟩ = some xs[k] := by
  obtain ⟨b, o, e, hb, hc⟩ := h.2 (by omega)
  have hl : k < xs.length := by have := h.1; omega
  exact ⟨b, o, e, hb, hl, hc k _ (List.getElem?_eq_getElem hl)⟩
end

/-! ### bytes and numbers as cells -/
theorem bcs_get (l : List UInt8) (k : Nat) (h : k < l.length) : (Lib.byteCells l)[k]? = some (.int .u8 (l[k].toNat : Int)) := by simp [Lib.byteCells, h]
def ics (l : List Int) : List Value := l.map (Value.int .i64)
theorem ics_get (l : List Int) (k : Nat) (h : k < l.length) : (ics l)[k]? = some (.int .i64 l[k]) := by simp [ics, h]
theorem bcs_one (l : List UInt8) : ∀ u ∈ Lib.byteCells l, u.oneCell' = true := by
  intro u hu
  obtain ⟨c, _, rfl⟩ := List.mem_map.1 hu
  rfl
theorem ics_one (l : List Int) : ∀ u ∈ ics l, u.oneCell' = true := by
  intro u hu
  obtain ⟨c, _, rfl⟩ := List.mem_map.1 hu
  rfl
theorem ret_int {k : IntKind} {a b : Int} (h : a = b) : Ending.returned (.int k a) = .returned (.int k b) := by rw [h]
theorem ret_bool {a b : Bool} (h : a = b) : Ending.returned (.bool a) = .returned (.bool b) := by rw [h]

/-! ### append, for the walk -/
/-- A slice type's row of the table: elements of 'size' cells, of 'bytes' bytes. -/
structure ET (P : Program) (t e : TypeId) (size bytes : Nat) (z : Value) : Prop where
  ht : P.underlying t = some (.slice e)
  hi : (P.info? e).map (fun i => (i.zero, i.size, i.bytes)) = some (some z, size, bytes)
  hz : z.cells.size = size
  hs : 0 < size
  hb : 0 < bytes
/-- The new slice lies where the old one lay, or in a block that is new. -/
def Next (B : Nat) (v v' : Value) : Prop := v'.ownBlock = v.ownBlock ∨ ∃ g, v'.ownBlock = some g ∧ B ≤ g
theorem Next.refl (B : Nat) (v : Value) : Next B v v := .inl rfl
theorem Next.trans {B B' : Nat} {a b c : Value} (h : Next B a b) (k : Next B' b c) (hB : B ≤ B') : Next B a c := by
  rcases k with k | ⟨g, hg, hl⟩
  · rcases h with h | ⟨g, hg, hl⟩
    · exact .inl (k.trans h)
    · exact .inr ⟨g, k.trans hg, hl⟩
  · exact .inr ⟨g, hg, by omega⟩
/-- What was left alone by a step that may write into the newer slice's row. -/
theorem Keep.next {v v' : Value} {a b c : World} (h : Keep (fun k => v.ownBlock ≠ some k) a b) (k : Keep (fun k => v'.ownBlock ≠ some k) b c) (hn : Next a.heap.size v v') : Keep (fun k => v.ownBlock ≠ some k) a c :=
  h.comp k (fun _ _ hy => hy) (fun i hi hy e => by
    rcases hn with hn | ⟨g, hg, hl⟩
    · exact hy (hn.symm.trans e)
    · rw [hg] at e; injection e with e; omega)

section
variable {P : Program} {w : World} {t e : TypeId} {size bytes : Nat} {z : Value}
theorem run_app (E : ET P t e size bytes z) (ty : TypeId) {base : Nat} {v : Value} {n : Nat} {xs : List Value} (hown : w.ownsRow base e size v n xs) {Z : Nat → Prop} {A : Option Addr} {m c : Nat} {news : List Value} (hr : Rd w Z size A m news)
    (hnil : m = 0 → c = 0 ∨ A ≠ none) (h1 : ∀ u ∈ news, u.oneCell' = true) (hb : (n + m) * bytes ≤ 140737488355328) (hbase : base ≤ w.heap.size) :
    ∃ v' w', (Builtin.append_ #[t, t] ty #[v, .slice A m c]).run P w = .ok v' w' ∧ w'.ownsRow base e size v' (n + m) (xs ++ news) ∧ Keep (fun k => v.ownBlock ≠ some k) w w' ∧ (v'.ownBlock = v.ownBlock ∨ v'.ownBlock = some w.heap.size) := by
  obtain ⟨i, hi, hz1, hz2, hz3⟩ := info_parts E.hi
  rcases A with _ | ad
  · have hm : m = 0 := by
      rcases Nat.eq_zero_or_pos m with h0 | h0
      · exact h0
      · obtain ⟨_, _, h, _⟩ := hr.2 h0
        cases h
    subst hm
    have hn : news = [] := List.eq_nil_of_length_eq_zero (by simpa using hr.1)
    subst hn
    refine ⟨v, w, ?_, by simpa using hown, Keep.refl _ _, .inl rfl⟩
    rcases hown.2 with ⟨rfl, rfl⟩ | ⟨g, cap, cur, rfl, _, _, hnc, _⟩
    · simp [Builtin.append_, run_underlying E.ht, sizeOf, typeInfo, hi, Builtin.lenOf, Builtin.firstCells]
    · simp [Builtin.append_, run_underlying E.ht, sizeOf, typeInfo, hi, Builtin.lenOf, Builtin.firstCells, hnc, storeCells]
  · have hcells : ∀ j u, news[j]? = some u → w.cell? (ad.add j) = some u := by
      intro j u hu
      rcases Nat.eq_zero_or_pos m with h0 | h0
      · subst h0
        have hn : news = [] := List.eq_nil_of_length_eq_zero (by simpa using hr.1)
        subst hn
        simp at hu
      · obtain ⟨b, o, h, _, hc⟩ := hr.2 h0
        injection h with h
        subst h
        have := hc j u hu
        unfold Addr.add
        split
        · rename_i hj; subst hj; simpa using this
        · exact this
    have h63 : n + m ≤ maxLen := by
      have h2 := E.hb
      have h3 : n + m ≤ (n + m) * bytes := Nat.le_mul_of_pos_right _ h2
      simp only [maxLen]
      omega
    obtain ⟨v', w', hrun, h2, h3, _, h5⟩ := run_append_own_at (P := P) w base t ty e i z size bytes E.ht hi hz1 hz2 hz3 E.hz E.hs v n xs hown ad m c news hr.1 hcells h1 h63 hb hbase
    exact ⟨v', w', hrun, h2, Keep.of_grown h3, h5⟩

theorem wpList_app (E : ET P t e size bytes z) {ops : Array Oper} {rest : List Oper} {o : Oper} {a : Act} {Q : Exit → Act → World → Prop} (hgd : o.guard = none) (s x : Operand)
    (ho : o.op = .call { callee := .builtin .append, args := #[s, x], argTypes := #[t, t] })
    (base : Nat) (v : Value) (n : Nat) (xs : List Value) (hs : a.eval s = v) (hown : w.ownsRow base e size v n xs) (Z : Nat → Prop) (A : Option Addr) (m c : Nat) (news : List Value) (hx : a.eval x = .slice A m c) (hr : Rd w Z size A m news)
    (hnil : m = 0 → c = 0 ∨ A ≠ none) (h1 : ∀ u ∈ news, u.oneCell' = true) (hb : (n + m) * bytes ≤ 140737488355328) (hbase : base ≤ w.heap.size)
    (h : ∀ v' w', w'.ownsRow base e size v' (n + m) (xs ++ news) → Keep (fun k => v.ownBlock ≠ some k) w w' → Next w.heap.size v v' → wpList P ops Q rest (a.put o.dst v') w') :
    wpList P ops Q (o :: rest) a w := by
  refine wpList_plain hgd fun K hK => ?_
  obtain ⟨v', w', hrun, h2, h3, h4⟩ := run_app E o.type hown hr hnil h1 hb hbase
  unfold Oper.wp execOp
  simp only [ho, resolve, invoke, builtin, Sem.run_bind, Sem.run_pure, Result.andThen_ok, List.map_toArray, List.map_cons, List.map_nil, hs, hx, hrun]
  exact hK _ _ (h v' w' h2 h3 (h4.imp id fun e => ⟨_, e, Nat.le_refl _⟩))

theorem Rd.one_new (w : World) (x : Value) (t : TypeId) : Rd (w.alloc (.cells #[x] t)) (fun _ => True) 1 (some ⟨w.heap.size, 0, none⟩) 1 [x] :=
  ⟨rfl, fun _ => ⟨_, _, rfl, trivial, fun j u hu => by
    match j, hu with
    | 0, hu =>
      simp at hu
      subst hu
      simp⟩⟩

theorem Rd.own1 (w : World) (x : Value) (t : TypeId) : Rd (w.alloc (.cells #[x] t)) (fun i => i = w.heap.size) 1 (some ⟨w.heap.size, 0, none⟩) 1 [x] :=
  ⟨rfl, fun _ => ⟨_, _, rfl, rfl, fun j u hu => by
    match j, hu with
    | 0, hu =>
      simp at hu
      subst hu
      simp⟩⟩
/-- 'append(s, x)': the element has just been laid in a block of its own. -/
theorem wpList_app1 (E : ET P t e 1 bytes z) {ops : Array Oper} {rest : List Oper} {o : Oper} {a : Act} {Q : Exit → Act → World → Prop} (hgd : o.guard = none) (s x : Operand)
    (ho : o.op = .call { callee := .builtin .append, args := #[s, x], argTypes := #[t, t] }) (y : Value) (te : TypeId) (hy : y.oneCell' = true)
    (base : Nat) (v : Value) (n : Nat) (xs : List Value) (hs : a.eval s = v) (hx : a.eval x = .slice (some ⟨w.heap.size, 0, none⟩) 1 1) (hown : w.ownsRow base e 1 v n xs)
    (hb : (n + 1) * bytes ≤ 140737488355328) (hbase : base ≤ w.heap.size)
    (h : ∀ v' w', w'.ownsRow base e 1 v' (n + 1) (xs ++ [y]) → Keep (fun k => v.ownBlock ≠ some k) w w' → Next w.heap.size v v' → wpList P ops Q rest (a.put o.dst v') w') :
    wpList P ops Q (o :: rest) a (w.alloc (.cells #[y] te)) :=
  wpList_app E hgd s x ho base v n xs hs (hown.alloc _) _ _ 1 1 [y] hx (Rd.one_new w y te) (fun h => by cases h) (by simpa using hy) hb (by simp; omega) fun v' w' h1 h2 h3 =>
    h v' w' h1 (((Keep.refl _ w).alloc _).comp h2 (fun _ _ h => h) (fun _ _ h => h)) (h3.imp id fun ⟨g, hg, hl⟩ => ⟨g, hg, by simp at hl; omega⟩)

theorem madeCells_one (z : Value) (n : Nat) : (madeCells #[z] n).toList = List.replicate n z := toList_madeCells_one z n
/-- 'make([]T, n, c)', elements of one cell. -/
theorem wpList_makeN (E : ET P t e 1 bytes z) (hzc : z.cells = #[z]) {ops : Array Oper} {rest : List Oper} {o : Oper} {a : Act} {Q : Exit → Act → World → Prop} (hgd : o.guard = none) (l c : Operand) (ho : o.op = .makeSlice t l c)
    (base : Nat) (kl kc : IntKind) (L C : Int) (n m : Nat) (hl : a.eval l = .int kl L) (hc : a.eval c = .int kc C) (hL : L = (n : Int)) (hC : C = (m : Int)) (hnm : n ≤ m) (hb : m * bytes ≤ 140737488355328) (hbase : base ≤ w.heap.size)
    (h : ∀ w', w'.ownsRow base e 1 (.slice (some ⟨w.heap.size, 0, none⟩) n m) n (List.replicate n z) → Keep (fun _ => True) w w' → w'.heap.size = w.heap.size + 1 → wpList P ops Q rest (a.put o.dst (.slice (some ⟨w.heap.size, 0, none⟩) n m)) w') :
    wpList P ops Q (o :: rest) a w := by
  obtain ⟨i, hi, hz1, hz2, hz3⟩ := info_parts E.hi
  refine wpList_plain hgd fun K hK => ?_
  subst hL hC
  have h63 : m ≤ 9223372036854775807 := by
    have h2 := E.hb
    have h3 : m ≤ m * bytes := Nat.le_mul_of_pos_right _ h2
    omega
  have hb' : (i.bytes : Int) * (m : Int) ≤ 281474976710656 := by
    rw [hz3, Int.mul_comm]
    have h : ((m * bytes : Nat) : Int) ≤ 281474976710656 := by omega
    rwa [Int.natCast_mul] at h
  have hr := run_make (P := P) w t e i z E.ht hi hz1 kl kc n m (by omega) (by omega) hb' (by omega)
  simp only [Int.toNat_natCast, hz2, Nat.mul_one, hzc] at hr
  unfold Oper.wp
  simp [execOp, ho, hl, hc, hr, Result.andThen]
  refine hK _ _ (h _ ⟨by simp, .inr ⟨_, m, _, rfl, hbase, heap_alloc_new w _, hnm, by simp only [maxLen]; omega, by simp [size_madeCells], ?_⟩⟩ ((Keep.refl _ w).alloc _) (by simp))
  rw [madeCells_one]
  simp [Nat.min_eq_left hnm]

/-- 'copy(d, s)' into a row of the call's own, all of s. -/
theorem wpList_copyN (E : ET P t e 1 bytes z) {ops : Array Oper} {rest : List Oper} {o : Oper} {a : Act} {Q : Exit → Act → World → Prop} (hgd : o.guard = none) (d s : Operand)
    (ho : o.op = .call { callee := .builtin .copy, args := #[d, s], argTypes := #[t, t] }) (base g n cap : Nat) (xs : List Value) (hd : a.eval d = .slice (some ⟨g, 0, none⟩) n cap) (hown : w.ownsRow base e 1 (.slice (some ⟨g, 0, none⟩) n cap) n xs)
    (Z : Nat → Prop) (A : Option Addr) (m c : Nat) (news : List Value) (hs : a.eval s = .slice A m c) (hr : Rd w Z 1 A m news) (hmn : m ≤ n) (h1 : ∀ u ∈ news, u.oneCell' = true)
    (h : ∀ w', w'.ownsRow base e 1 (.slice (some ⟨g, 0, none⟩) n cap) n (news ++ xs.drop m) → Keep (fun k => k ≠ g) w w' → wpList P ops Q rest (a.put o.dst (goInt m)) w') :
    wpList P ops Q (o :: rest) a w := by
  obtain ⟨i, hi, hz1, hz2, hz3⟩ := info_parts E.hi
  have hsz : (P.info? e).map (·.size) = some 1 := by rw [hi]; simp [hz2]
  have hlen : news.length = m := by simpa using hr.1
  rcases Nat.eq_zero_or_pos m with h0 | h0
  · subst h0
    obtain rfl : news = [] := List.eq_nil_of_length_eq_zero hlen
    exact wpList_copy_nothing hgd d s t t ho e E.ht hsz _ _ _ _ _ _ hd hs (by simp) (h w (by simpa using hown) (Keep.refl _ _))
  · obtain ⟨b, off, rfl, _, hc⟩ := hr.2 h0
    rcases hown.2 with ⟨hv, _⟩ | ⟨g', cap', cur, hv, hbg, hg, hnc, hcm, hcs, htake⟩
    · cases hv
    · injection hv with hv1 _ hv2
      injection hv1 with hv1
      injection hv1 with hv1
      subst hv1 hv2
      refine wpList_copy_own hgd d s t t ho e E.ht hsz g 0 n cap ⟨b, off, none⟩ m c hd hs cur e hg news (by rw [hlen]; exact (Nat.min_eq_left hmn).symm) (fun j v hj => ?_) (by simp; omega) h1 ?_
      · have := hc j v hj
        unfold Addr.add
        split
        · rename_i h0; subst h0; simpa using this
        · exact this
      · rw [hlen]
        refine h _ ⟨by have := hown.1; simp [hlen]; omega, .inr ⟨g, cap, _, rfl, hbg, setRow_heap w g cur _ e _ hg, hnc, hcm, by simp; omega, ?_⟩⟩ ⟨rfl, rfl, rfl, by simp [World.setRow], fun k _ hk => setRow_other w g k _ hk⟩
        rw [← htake]
        simp only [List.take_zero, List.nil_append, Nat.zero_add, Nat.mul_one]
        rw [List.take_append, List.take_of_length_le (by omega), hlen, List.drop_take]
end

/-! ### a block that is known whole -/
def Blk (w : World) (g : Nat) (t : TypeId) (cs : Array Value) : Prop := w.heap[g]? = some (.cells cs t (0, 0))
section
variable {w w' : World} {g : Nat} {t : TypeId} {cs : Array Value}
theorem Blk.lt (h : Blk w g t cs) : g < w.heap.size := lt_of_block h
theorem Blk.cell (h : Blk w g t cs) (i : Nat) : w.cell? ⟨g, i, none⟩ = cs[i]? := cell_of_row w g i cs t (0, 0) h
theorem Blk.frozen (h : Blk w g t cs) (i : Nat) : w.frozen? ⟨g, i, none⟩ = false := by
  unfold Blk at h
  simp [World.frozen?, h]
theorem Blk.new (w : World) (t : TypeId) (cs : Array Value) : Blk (w.alloc (.cells cs t)) w.heap.size t cs := heap_alloc_new w _
theorem Blk.drew (h : Blk w g t cs) : Blk w.drew g t cs := h
theorem Blk.drewN (h : Blk w g t cs) (n : Nat) : Blk (w.drewN n) g t cs := h
theorem Blk.alloc (h : Blk w g t cs) (o : Obj) : Blk (w.alloc o) g t cs := (Below.heap_alloc w o g h.lt).trans h
theorem Blk.set (h : Blk w g t cs) (i : Nat) (u : Value) : Blk (w.setCell ⟨g, i, none⟩ u) g t (cs.setIfInBounds i u) := by
  unfold Blk at h ⊢
  simp [World.setCell, Array.getElem?_modify, h]
theorem Blk.far (h : Blk w g t cs) {p : Addr} (hp : g ≠ p.block) (u : Value) : Blk (w.setCell p u) g t cs := (Below.heap_setCell w p u g hp).trans h
theorem Blk.keep {Z : Nat → Prop} (h : Blk w g t cs) (hk : Keep Z w w') (hz : Z g) : Blk w' g t cs := (hk.block g h.lt hz).trans h
theorem Blk.rd (h : Blk w g t cs) {n : Nat} (hn : cs.size = n) : Rd w (fun i => i = g) 1 (some ⟨g, 0, none⟩) n cs.toList :=
  ⟨by simp [hn], fun _ => ⟨g, 0, rfl, rfl, fun j u hu => by
    rw [h.cell (0 + j), Nat.zero_add]
    simpa using hu⟩⟩
theorem Blk.ne {g' : Nat} {t' : TypeId} {cs' : Array Value} (h : Blk w g t cs) (h' : Blk w g' t' cs') (hne : t ≠ t') : g ≠ g' := by
  rintro rfl
  unfold Blk at h h'
  rw [h] at h'
  injection h' with h'
  injection h' with _ ht
  exact hne ht
end
section
variable {w w' : World} {base base' : Nat} {e : TypeId} {size n : Nat} {v : Value} {xs : List Value}
theorem own_ne_blk {g : Nat} {t : TypeId} {cs : Array Value} (h : w.ownsRow base e size v n xs) (hg : Blk w g t cs) (hne : e ≠ t) : v.ownBlock ≠ some g := by
  rcases h.2 with ⟨rfl, _⟩ | ⟨g', cap, cur, rfl, _, hh, _⟩
  · simp [Value.ownBlock]
  · intro he
    have : g' = g := by simpa [Value.ownBlock] using he
    subst this
    exact Blk.ne (t := e) hh hg hne rfl
theorem own_keep {Z : Nat → Prop} (h : w.ownsRow base e size v n xs) (hk : Keep Z w w') (hz : ∀ k, v.ownBlock = some k → Z k) : w'.ownsRow base e size v n xs := by
  refine ⟨h.1, ?_⟩
  rcases h.2 with hn | ⟨g, cap, cur, rfl, hb, hgg, rest⟩
  · exact .inl hn
  · exact .inr ⟨g, cap, cur, rfl, hb, (hk.block g (lt_of_block hgg) (hz g (by simp [Value.ownBlock]))).trans hgg, rest⟩
theorem own_base (h : w.ownsRow base e size v n xs) (hb : base' ≤ base) : w.ownsRow base' e size v n xs := by
  refine ⟨h.1, ?_⟩
  rcases h.2 with hn | ⟨g, cap, cur, rfl, hbg, rest⟩
  · exact .inl hn
  · exact .inr ⟨g, cap, cur, rfl, by omega, rest⟩
theorem own_far (h : w.ownsRow base e size v n xs) {p : Addr} (hp : v.ownBlock ≠ some p.block) (u : Value) : (w.setCell p u).ownsRow base e size v n xs := ownsRow_setCell_other h hp u
theorem own_lt (h : w.ownsRow base e size v n xs) {g : Nat} (hg : v.ownBlock = some g) : base ≤ g ∧ g < w.heap.size := by
  rcases h.2 with ⟨rfl, _⟩ | ⟨g', cap, cur, rfl, hb, hh, _⟩
  · simp [Value.ownBlock] at hg
  · simp [Value.ownBlock] at hg
    subst hg
    exact ⟨hb, lt_of_block hh⟩
/-- An owned slice, read. -/
theorem own_rd (h : w.ownsRow base e size v n xs) : ∃ A c, v = .slice A n c ∧ Rd w (fun k => v.ownBlock = some k) size A n xs ∧ (n = 0 → c = 0 ∨ A ≠ none) := by
  rcases h.2 with ⟨rfl, rfl⟩ | ⟨g, cap, cur, rfl, hb, hh, hn, hm, hs, ht⟩
  · have : xs = [] := List.eq_nil_of_length_eq_zero (by simpa using h.1)
    subst this
    exact ⟨none, 0, rfl, Rd.nil _ _ _ _, fun _ => .inl rfl⟩
  · refine ⟨_, _, rfl, ⟨h.1, fun _ => ⟨g, 0, rfl, by simp [Value.ownBlock], fun j u hu => ?_⟩⟩, fun _ => .inr (by simp)⟩
    rw [cell_of_row w g (0 + j) cur e (0, 0) hh]
    rw [← ht, List.getElem?_take] at hu
    split at hu
    · simpa using hu
    · cases hu
/-- An owned slice that is not empty, written out. -/
theorem own_form (h : w.ownsRow base e size v n xs) (hn : 0 < n) : ∃ g c, v = .slice (some ⟨g, 0, none⟩) n c ∧ base ≤ g ∧ g < w.heap.size := by
  rcases h.2 with ⟨rfl, rfl⟩ | ⟨g, cap, cur, rfl, hb, hh, _⟩
  · omega
  · exact ⟨g, cap, rfl, hb, lt_of_block hh⟩
end

/-! ### a string's bytes, appended -/
section
variable {P : Program} {w : World} {t u e : TypeId}
theorem strCells_eq (s : ByteArray) : Lib.strCells s = Lib.byteCells s.data.toList := rfl
theorem run_app_str (E : ET P t e 1 1 (.int .u8 0)) (hu : P.underlying u = some .string) (ty : TypeId) {base : Nat} {v : Value} {n : Nat} {xs : List Value} (hown : w.ownsRow base e 1 v n xs) (s : ByteArray) (hb : n + s.size ≤ 140737488355328) (hbase : base ≤ w.heap.size) :
    ∃ v' w', (Builtin.append_ #[t, u] ty #[v, .string s]).run P w = .ok v' w' ∧ w'.ownsRow base e 1 v' (n + s.size) (xs ++ Lib.byteCells s.data.toList) ∧ Keep (fun k => v.ownBlock ≠ some k) w w' ∧ Next w.heap.size v v' := by
  obtain ⟨i, hi, hz1, hz2, hz3⟩ := info_parts E.hi
  have h63 : n + s.size ≤ maxLen := by simp only [maxLen]; omega
  obtain ⟨v', w', hrun, ho, hg, _⟩ := Lib.run_append_own_string (P := P) w base t u ty e i E.ht hu hi hz1 hz2 hz3 v n xs hown s h63 (by omega) hbase
  rw [strCells_eq] at ho
  refine ⟨v', w', hrun, ho, Keep.of_grown hg, ?_⟩
  rcases hown.2 with ⟨rfl, rfl⟩ | ⟨g, cap, cur, rfl, hbg, hgg, hnc, hcm, hcs, htake⟩
  · obtain ⟨v2, w2, hrun2, ho2, _⟩ := Lib.run_append_own_string (P := P) w w.heap.size t u ty e i E.ht hu hi hz1 hz2 hz3 _ 0 xs (w.ownsRow_nil w.heap.size e 1 |> fun h => by have := hown.1; have hx : xs = [] := List.eq_nil_of_length_eq_zero (by simpa using this); subst hx; exact h) s h63 (by omega) (Nat.le_refl _)
    rw [hrun] at hrun2
    injection hrun2 with e1 e2
    subst e1 e2
    cases hv : v'.ownBlock with
    | none => exact .inl hv
    | some g => exact .inr ⟨g, hv, (own_lt ho2 hv).1⟩
  · by_cases hroom : n + s.size ≤ cap
    · have hr := Lib.run_append_room_string (P := P) w t u ty e i E.ht hu hi hz2 g n cap cur hgg s hroom (by simp at hcs; omega)
      rw [hrun] at hr
      injection hr with e1 _
      subst e1
      exact .inl rfl
    · have holds : ∀ j u, xs[j]? = some u → w.cell? ((⟨g, 0, none⟩ : Addr).add j) = some u := hown.cells (g := g) rfl
      have hr := Lib.run_append_grow_string (P := P) w t u ty e i (.int .u8 0) E.ht hu hi hz1 ⟨g, 0, none⟩ n cap xs (by have := hown.1; rw [hz2]; simpa using this) holds s (by omega) (by omega) (by rw [hz3]; exact growslice_fits (by omega) (by omega))
      rw [hrun] at hr
      injection hr with e1 _
      subst e1
      exact .inr ⟨_, rfl, Nat.le_refl _⟩
theorem wpList_app_str (E : ET P t e 1 1 (.int .u8 0)) (hu : P.underlying u = some .string) {ops : Array Oper} {rest : List Oper} {o : Oper} {a : Act} {Q : Exit → Act → World → Prop} (hgd : o.guard = none) (s x : Operand)
    (ho : o.op = .call { callee := .builtin .append, args := #[s, x], argTypes := #[t, u] })
    (base : Nat) (v : Value) (n : Nat) (xs : List Value) (hs : a.eval s = v) (hown : w.ownsRow base e 1 v n xs) (st : ByteArray) (hx : a.eval x = .string st) (hb : n + st.size ≤ 140737488355328) (hbase : base ≤ w.heap.size)
    (h : ∀ v' w', w'.ownsRow base e 1 v' (n + st.size) (xs ++ Lib.byteCells st.data.toList) → Keep (fun k => v.ownBlock ≠ some k) w w' → Next w.heap.size v v' → wpList P ops Q rest (a.put o.dst v') w') :
    wpList P ops Q (o :: rest) a w := by
  refine wpList_plain hgd fun K hK => ?_
  obtain ⟨v', w', hrun, h2, h3, h4⟩ := run_app_str E hu o.type hown st hb hbase
  unfold Oper.wp execOp
  simp only [ho, resolve, invoke, builtin, Sem.run_bind, Sem.run_pure, Result.andThen_ok, List.map_toArray, List.map_cons, List.map_nil, hs, hx, hrun]
  exact hK _ _ (h v' w' h2 h3 h4)
end

/-! ### quiet calls -/
theorem quiet_left {P : Program} {f : FuncId} {args : Array Value} {w : World} {n : Nat} {v : Value}
    (h : Calls P f args (w.drewN n) fun e w' => e = .returned v ∧ w.drewN n = w') : Calls P f args (w.drewN n) fun e w'' => e = .returned v ∧ ∃ m, w'' = w.drewN m :=
  h.mono fun _ _ ⟨he, hm⟩ => ⟨he, n, hm.symm⟩
theorem quiet_add_left {P : Program} {f : FuncId} {args : Array Value} {w : World} {a n : Nat} {v : Value}
    (h : Calls P f args (w.drewN (a + n)) fun e w' => e = .returned v ∧ w.drewN (a + n) = w') :
    Calls P f args (w.drewN (a + n)) fun e w'' => e = .returned v ∧ ∃ m, w'' = w.drewN (a + m) :=
  h.mono fun _ _ ⟨he, hm⟩ => ⟨he, n, hm.symm⟩
theorem Rd.drewN {w : World} {Z : Nat → Prop} {size n : Nat} {A : Option Addr} {xs : List Value} (h : Rd w Z size A n xs) (k : Nat) : Rd (w.drewN k) Z size A n xs := h

/-- What reads lies in blocks that are there. -/
theorem Rd.old {w : World} {Z : Nat → Prop} {size n : Nat} {A : Option Addr} {xs : List Value} (h : Rd w Z size A n xs) (hs : 0 < size) : Rd w (fun k => k < w.heap.size) size A n xs :=
  ⟨h.1, fun hn => by
    obtain ⟨b, o, e, _, hc⟩ := h.2 hn
    have hp : 0 < n * size := Nat.mul_pos hn hs
    have hl : 0 < xs.length := by rw [h.1]; exact hp
    exact ⟨b, o, e, lt_of_cell (hc 0 _ (List.getElem?_eq_getElem hl)), hc⟩⟩
/-- A result that is a whole block, and one in a slot. -/
theorem results_blk {P : Program} {fn : Func} {p u : Tmp} {ty : TypeId} (h : fn.results = #[.cell p ty, .tmp u]) (tmps : Array Value) (w : World) (g : Nat) (t : TypeId) (cs : Array Value) (d : TypeDesc) (x : Value)
    (hp : tmps.getD p undef = .pointer (some ⟨g, 0, none⟩)) (hg : w.heap[g]? = some (.cells cs t (0, 0))) (hu : P.underlying ty = some d) (hd : (match d with | .struct _ | .array _ _ => true | _ => false) = true) (hi : (P.info? ty).map (·.size) = some cs.size)
    (hx : tmps.getD u undef = x) : (results fn tmps).run P w = .ok (.tuple #[.agg cs, x]) w := by
  rw [results_cell_tmp h, hp, hx]
  simp [asAddr, Result.andThen, run_loadVar_row w g t ty cs (0, 0) d hg hu hd hi]

/-! ### a cut of a slice; a string out of bytes -/
section
variable {Z : Nat → Prop} {w : World} {A : Option Addr} {n : Nat}
theorem Rd.cut1 {xs : List Value} (h : Rd w Z 1 A n xs) {k m c : Nat} (hk : k + m ≤ n) (hc : n ≤ c) : Rd w Z 1 (if c = k then A else Option.map (fun x => x.add k) A) m ((xs.drop k).take m) := by
  have hl : xs.length = n := by simpa using h.1
  refine ⟨by simp; omega, fun hm => ?_⟩
  obtain ⟨b, o, rfl, hz, hcell⟩ := h.2 (by omega)
  rw [if_neg (by omega)]
  refine ⟨b, o + k, ?_, hz, fun j u hu => ?_⟩
  · simp only [Option.map_some, Addr.add]
    split
    · rename_i h0; subst h0; rfl
    · rfl
  · rw [List.getElem?_take] at hu
    split at hu
    · rw [List.getElem?_drop] at hu
      have := hcell (k + j) u hu
      rwa [← Nat.add_assoc] at this
    · cases hu
theorem run_conv_str {P : Program} {src dst e : TypeId} (hs : P.underlying src = some (.slice e)) (he : P.underlying e = some (.int .u8)) (hd : P.underlying dst = some .string) {bs : List UInt8} (h : Rd w Z 1 A n (Lib.byteCells bs)) (c : Nat) :
    (convert src dst (.slice A n c)).run P w = .ok (.string ⟨bs.toArray⟩) w := by
  have hl : bs.length = n := by simpa [Lib.byteCells] using h.1
  rcases A with _ | ad
  · have h0 : n = 0 := by
      rcases Nat.eq_zero_or_pos n with h0 | h0
      · exact h0
      · obtain ⟨_, _, h1, _⟩ := h.2 h0; cases h1
    subst h0
    obtain rfl : bs = [] := List.eq_nil_of_length_eq_zero hl
    exact run_convert_bytes_nil w src e hs he 0 c dst hd
  · have e1 : strOfNums (bs.map fun c => (c.toNat : Int)) = ⟨bs.toArray⟩ := by
      simp only [strOfNums, List.map_map]
      congr 2
      refine (List.map_congr_left fun x _ => ?_).trans (List.map_id bs)
      simp
    rcases Nat.eq_zero_or_pos n with h0 | h0
    · subst h0
      obtain rfl : bs = [] := List.eq_nil_of_length_eq_zero hl
      rw [run_convert_bytes_string w src dst e _ 0 c hs he hd, run_bytesToString w ad 0 c [] (run_loadCells_list (P := P) w ad [] (by simp))]
      rfl
    · obtain ⟨b, o, h1, _, hc⟩ := h.2 h0
      injection h1 with h1
      subst h1
      have := run_convert_bytes_arg (P := P) w src e hs he b o n c (bs.map fun c => (c.toNat : Int)) (by simpa using hl) (fun i hi => by
        have hib : i < bs.length := by omega
        rw [hc i _ (bcs_get bs i hib)]
        simp [List.getD, hib]) dst hd
      rw [this, e1]
theorem byteCells_cut (bs : List UInt8) (k m : Nat) : ((Lib.byteCells bs).drop k).take m = Lib.byteCells ((bs.drop k).take m) := by simp [Lib.byteCells, List.map_take, List.map_drop]
end
theorem Blk.newAt {w : World} {k : Nat} {t : TypeId} {cs : Array Value} (h : w.heap.size = k) : Blk (w.alloc (.cells cs t)) k t cs := h ▸ Blk.new _ _ _
end Go.Proofs.YtggibajakcigaaaGreatDoor
namespace Go.Proofs.YtggibajakcigaaaGreatDoor
set_option linter.unusedVariables false
set_option linter.unusedSimpArgs false
open Go.RowKit
section
variable {w w' : World} {base : Nat} {e : TypeId} {size n m : Nat} {v : Value} {xs ys : List Value}
/-- A cell of an owned row is written. -/
theorem own_set (h : w.ownsRow base e size v n xs) {g i : Nat} (hg : v.ownBlock = some g) (hi : i < n * size) (u : Value) : (w.setCell ⟨g, i, none⟩ u).ownsRow base e size v n (xs.set i u) := by
  refine ⟨by rw [List.length_set]; exact h.1, ?_⟩
  rcases h.2 with ⟨rfl, _⟩ | ⟨g', cap, cur, rfl, hb, hh, hn, hm, hs, ht⟩
  · simp [Value.ownBlock] at hg
  · simp [Value.ownBlock] at hg
    subst hg
    refine .inr ⟨g', cap, cur.setIfInBounds i u, rfl, hb, ?_, hn, hm, by simpa using hs, ?_⟩
    · simp [World.setCell, Array.getElem?_modify, hh]
    · rw [Array.toList_setIfInBounds, List.take_set, ht]
theorem own_cell (h : w.ownsRow base e size v n xs) {g j : Nat} (hg : v.ownBlock = some g) {u : Value} (hu : xs[j]? = some u) : w.cell? ⟨g, j, none⟩ = some u := by
  rcases h.2 with ⟨rfl, _⟩ | ⟨g', cap, cur, rfl, hb, hh, hn, hm, hs, ht⟩
  · simp [Value.ownBlock] at hg
  · simp [Value.ownBlock] at hg
    subst hg
    rw [cell_of_row w g' j cur e (0, 0) hh]
    rw [← ht, List.getElem?_take] at hu
    split at hu
    · simpa using hu
    · cases hu
theorem Blk.rdOwn {g cap : Nat} (h : w.ownsRow base e size (.slice (some ⟨g, 0, none⟩) n cap) n xs) : Rd w (fun k => k = g) size (some ⟨g, 0, none⟩) n xs := by
  obtain ⟨A, c, hv, hr, _⟩ := own_rd h
  injection hv with hA
  rw [hA]
  exact hr.weaken fun k hk => by simp [Value.ownBlock] at hk; exact hk.symm
theorem own_has (h : w.ownsRow base e size v n xs) {g j : Nat} (hg : v.ownBlock = some g) (hj : j < n * size) : ∃ u, w.cell? ⟨g, j, none⟩ = some u := by
  have hl : j < xs.length := by rw [h.1]; exact hj
  exact ⟨_, own_cell h hg (List.getElem?_eq_getElem hl)⟩
theorem own_frozen (h : w.ownsRow base e size v n xs) {g : Nat} (j : Nat) (hg : v.ownBlock = some g) : w.frozen? ⟨g, j, none⟩ = false := by
  rcases h.2 with ⟨rfl, _⟩ | ⟨g', cap, cur, rfl, hb, hh, hn, hm, hs, ht⟩
  · simp [Value.ownBlock] at hg
  · simp [Value.ownBlock] at hg
    subst hg
    simp [World.frozen?, hh]
/-- An owned row that is longer, cut. -/
theorem own_cut {g cap : Nat} (h : w.ownsRow base e size (.slice (some ⟨g, 0, none⟩) (n + m) cap) (n + m) (xs ++ ys)) (hx : xs.length = n * size) : w.ownsRow base e size (.slice (some ⟨g, 0, none⟩) n cap) n xs := by
  refine ⟨hx, ?_⟩
  rcases h.2 with ⟨hv, _⟩ | ⟨g', cap', cur, hv, hb, hh, hn, hm, hs, ht⟩
  · cases hv
  · cases hv
    refine .inr ⟨g, cap, cur, rfl, hb, hh, by omega, hm, hs, ?_⟩
    have h1 : cur.toList.take (n * size) = (cur.toList.take ((n + m) * size)).take (n * size) := by
      rw [List.take_take, Nat.min_eq_left (Nat.mul_le_mul_right _ (by omega))]
    rw [h1, ht, ← hx, List.take_left]
theorem own_nil_of (h : w.ownsRow base e size v 0 xs) : xs = [] := List.eq_nil_of_length_eq_zero (by simpa using h.1)
theorem own_nonnil (h : w.ownsRow base e size v n xs) (hn : 0 < n) : ∃ g cap, v = .slice (some ⟨g, 0, none⟩) n cap ∧ base ≤ g ∧ g < w.heap.size ∧ n ≤ cap := by
  rcases h.2 with ⟨rfl, rfl⟩ | ⟨g, cap, cur, rfl, hb, hh, hc, _⟩
  · omega
  · exact ⟨g, cap, rfl, hb, lt_of_block hh, hc⟩
end
section
variable {P : Program} {w : World} {t e : TypeId} {size bytes : Nat} {z : Value}
/-- 'append' behind which the elder slice still reads. -/
theorem run_app_both (E : ET P t e size bytes z) (ty : TypeId) {base : Nat} {v : Value} {n : Nat} {xs : List Value} (hown : w.ownsRow base e size v n xs) {Z : Nat → Prop} {ad : Addr} {m c : Nat} {news : List Value} (hr : Rd w Z size (some ad) m news)
    (h1 : ∀ u ∈ news, u.oneCell' = true) (hb : (n + m) * bytes ≤ 140737488355328) (hbase : base ≤ w.heap.size) :
    ∃ v' w', (Builtin.append_ #[t, t] ty #[v, .slice (some ad) m c]).run P w = .ok v' w' ∧ w'.ownsRow base e size v' (n + m) (xs ++ news) ∧ Keep (fun k => v.ownBlock ≠ some k) w w' ∧ (v'.ownBlock = v.ownBlock ∨ v'.ownBlock = some w.heap.size) ∧ w'.ownsRow base e size v n xs := by
  obtain ⟨v', w', hrun, h2, h3, h4⟩ := run_app E ty hown hr (fun _ => .inr (by simp)) h1 hb hbase
  refine ⟨v', w', hrun, h2, h3, h4, ?_⟩
  obtain ⟨i, hi, hz1, hz2, hz3⟩ := info_parts E.hi
  have hcells : ∀ j u, news[j]? = some u → w.cell? (ad.add j) = some u := by
    intro j u hu
    rcases Nat.eq_zero_or_pos m with h0 | h0
    · subst h0
      have hn : news = [] := List.eq_nil_of_length_eq_zero (by simpa using hr.1)
      subst hn
      simp at hu
    · obtain ⟨b, o, h, _, hc⟩ := hr.2 h0
      injection h with h
      subst h
      have := hc j u hu
      unfold Addr.add
      split
      · rename_i hj; subst hj; simpa using this
      · exact this
  rcases hown.2 with ⟨rfl, rfl⟩ | ⟨g, cap, cur, rfl, hbg, hg, hnc, hcm, hcs, htake⟩
  · exact ⟨hown.1, .inl ⟨rfl, rfl⟩⟩
  · by_cases hroom : n + m ≤ cap
    · obtain ⟨w2, hr2, ho2, _⟩ := run_append_own_spare (P := P) w base t ty e i size E.ht hi hz2 g n cap xs hown ad m c news hr.1 hcells h1 hroom
      rw [hrun] at hr2
      injection hr2 with e1 e2
      subst e1 e2
      exact own_cut ho2 hown.1
    · have h63 : n + m ≤ (n + m) * bytes := Nat.le_mul_of_pos_right _ E.hb
      have hr2 := run_append_grow (P := P) w t ty e i z E.ht hi hz1 ⟨g, 0, none⟩ n cap xs (by rw [hz2]; exact hown.1) (hown.cells (g := g) rfl) ad m c news (by rw [hz2]; exact hr.1) hcells (by omega) (by omega) (by rw [hz3]; exact growslice_fits (by omega) (by omega))
      rw [hrun] at hr2
      injection hr2 with e1 e2
      subst e1 e2
      exact own_keep hown (((Keep.refl (fun _ => True) w).drew).alloc _) (fun _ _ => trivial)
theorem wpList_app_both (E : ET P t e size bytes z) {ops : Array Oper} {rest : List Oper} {o : Oper} {a : Act} {Q : Exit → Act → World → Prop} (hgd : o.guard = none) (s x : Operand)
    (ho : o.op = .call { callee := .builtin .append, args := #[s, x], argTypes := #[t, t] })
    (base : Nat) (v : Value) (n : Nat) (xs : List Value) (hs : a.eval s = v) (hown : w.ownsRow base e size v n xs) (Z : Nat → Prop) (ad : Addr) (m c : Nat) (news : List Value) (hx : a.eval x = .slice (some ad) m c) (hr : Rd w Z size (some ad) m news)
    (h1 : ∀ u ∈ news, u.oneCell' = true) (hb : (n + m) * bytes ≤ 140737488355328) (hbase : base ≤ w.heap.size)
    (h : ∀ v' w', w'.ownsRow base e size v' (n + m) (xs ++ news) → Keep (fun k => v.ownBlock ≠ some k) w w' → Next w.heap.size v v' → w'.ownsRow base e size v n xs → wpList P ops Q rest (a.put o.dst v') w') :
    wpList P ops Q (o :: rest) a w := by
  refine wpList_plain hgd fun K hK => ?_
  obtain ⟨v', w', hrun, h2, h3, h4, h5⟩ := run_app_both E o.type (c := c) hown hr h1 hb hbase
  unfold Oper.wp execOp
  simp only [ho, resolve, invoke, builtin, Sem.run_bind, Sem.run_pure, Result.andThen_ok, List.map_toArray, List.map_cons, List.map_nil, hs, hx, hrun]
  exact hK _ _ (h v' w' h2 h3 (h4.imp id fun e => ⟨_, e, Nat.le_refl _⟩) h5)
end
section
variable {P : Program} {w : World} {t e : TypeId} {size bytes : Nat} {z : Value}
/-- 'append' as a step of a region that draws its order. -/
theorem step_app (E : ET P t e size bytes z) {ops : Array Oper} {o : Oper} {a : Act} {K : Act → World → Prop} {Q : Exit → Act → World → Prop} {Els : Prop} (hgd : o.guard = none) (s x : Operand)
    (ho : o.op = .call { callee := .builtin .append, args := #[s, x], argTypes := #[t, t] })
    (base : Nat) (v : Value) (n : Nat) (xs : List Value) (hs : a.eval s = v) (hown : w.ownsRow base e size v n xs) (Z : Nat → Prop) (A : Option Addr) (m c : Nat) (news : List Value) (hx : a.eval x = .slice A m c) (hr : Rd w Z size A m news)
    (hnil : m = 0 → c = 0 ∨ A ≠ none) (h1 : ∀ u ∈ news, u.oneCell' = true) (hb : (n + m) * bytes ≤ 140737488355328) (hbase : base ≤ w.heap.size)
    (h : ∀ v' w', w'.ownsRow base e size v' (n + m) (xs ++ news) → Keep (fun k => v.ownBlock ≠ some k) w w' → Next w.heap.size v v' → K (a.put o.dst v') w') :
    if Region.wanted o (yielded ops a.tmps) = true then Oper.wp P o a w K Q else Els := by
  have hw : Region.wanted o (yielded ops a.tmps) = true := by simp [Region.wanted, hgd]
  rw [if_pos hw]
  obtain ⟨v', w', hrun, h2, h3, h4⟩ := run_app E o.type (c := c) hown hr hnil h1 hb hbase
  unfold Oper.wp execOp
  simp only [ho, resolve, invoke, builtin, Sem.run_bind, Sem.run_pure, Result.andThen_ok, List.map_toArray, List.map_cons, List.map_nil, hs, hx, hrun]
  exact h v' w' h2 h3 (h4.imp (fun h => h) fun e => ⟨_, e, Nat.le_refl _⟩)
end
/-! ### elements of several cells -/
section
variable {α : Type} (f : α → List Value)
def rcells (ps : List α) : List Value := ps.flatMap f
theorem rcells_nil : rcells f [] = [] := rfl
theorem rcells_cons (p : α) (ps : List α) : rcells f (p :: ps) = f p ++ rcells f ps := rfl
theorem rcells_append (ps qs : List α) : rcells f (ps ++ qs) = rcells f ps ++ rcells f qs := by simp [rcells]
variable {f} {c : Nat} (hc : ∀ a, (f a).length = c)
include hc
theorem rcells_len (ps : List α) : (rcells f ps).length = ps.length * c := by
  induction ps with
  | nil => simp [rcells]
  | cons p ps ih => rw [rcells_cons, List.length_append, ih, hc, List.length_cons, Nat.add_mul]; omega
theorem rcells_get : ∀ (ps : List α) (i : Nat) (hi : i < ps.length) (j : Nat), j < c → (rcells f ps)[i * c + j]? = (f ps[i])[j]?
  | p :: ps, 0, _, j, hj => by
    rw [rcells_cons, List.getElem?_append_left (by rw [hc]; omega)]
    simp
  | p :: ps, i + 1, hi, j, hj => by
    have e : (i + 1) * c + j - (f p).length = i * c + j := by rw [hc, Nat.add_mul]; omega
    rw [rcells_cons, List.getElem?_append_right (by rw [hc, Nat.add_mul]; omega), e]
    exact rcells_get ps i (by simpa using hi) j hj
theorem rcells_set : ∀ (ps : List α) (i : Nat) (hi : i < ps.length) (j : Nat) (u : Value) (q : α), j < c → f q = (f ps[i]).set j u → (rcells f ps).set (i * c + j) u = rcells f (ps.set i q)
  | p :: ps, 0, _, j, u, q, hj, hq => by
    rw [rcells_cons, List.set_cons_zero, rcells_cons, hq]
    rw [show 0 * c + j = j by omega, List.set_append_left _ _ (by rw [hc]; omega)]
    rfl
  | p :: ps, i + 1, hi, j, u, q, hj, hq => by
    have e : (i + 1) * c + j - (f p).length = i * c + j := by rw [hc, Nat.add_mul]; omega
    rw [rcells_cons, List.set_cons_succ, rcells_cons, List.set_append_right _ _ (by rw [hc, Nat.add_mul]; omega), e]
    rw [rcells_set ps i (by simpa using hi) j u q hj (by simpa using hq)]
end
/-- One element of several cells, in a block of its own. -/
theorem Rd.one_of {w : World} {g size : Nat} {t : TypeId} {cs : Array Value} (h : Blk w g t cs) (hs : cs.size = size) : Rd w (fun i => i = g) size (some ⟨g, 0, none⟩) 1 cs.toList :=
  ⟨by simp [hs], fun _ => ⟨g, 0, rfl, rfl, fun j u hu => by
    rw [h.cell (0 + j), Nat.zero_add]
    simpa using hu⟩⟩
end Go.Proofs.YtggibajakcigaaaGreatDoor
namespace Go.Proofs.YtggibajakcigaaaGreatDoor
set_option linter.unusedVariables false
set_option linter.unusedSimpArgs false
abbrev Txt := List UInt8
def Rise (ks : List Txt) : Prop := ks.Pairwise fun a b => bytesBefore a b = true
theorem before_irrefl (a : Txt) : bytesBefore a a = false := WideAt.bytes_irrefl a
theorem before_trans {a b c : Txt} (h : bytesBefore a b = true) (k : bytesBefore b c = true) : bytesBefore a c = true := WideShapes.bytes_trans a b c h k
theorem before_ne {a b : Txt} (h : bytesBefore a b = true) : a ≠ b := by
  rintro rfl
  rw [before_irrefl] at h
  cases h
theorem before_not {a b : Txt} (h : bytesBefore a b = false) (hne : a ≠ b) : bytesBefore b a = true := by
  rcases WideAt.bytes_total a b hne with h1 | h1
  · rw [h1] at h; cases h
  · exact h1
theorem before_asymm {a b : Txt} (h : bytesBefore a b = true) : bytesBefore b a = false := by
  cases hb : bytesBefore b a with
  | false => rfl
  | true => exact absurd (before_trans h hb) (by rw [before_irrefl]; simp)
theorem Rise.nodup {ks : List Txt} (h : Rise ks) : ks.Nodup := h.imp before_ne
section
variable {α : Type} (key : α → Txt)
def findK (k : Txt) (l : List α) : Option α := l.find? fun x => key x == k
def insK (x : α) : List α → List α
  | [] => [x]
  | y :: r => if bytesBefore (key x) (key y) = true then x :: y :: r else y :: insK x r
def setK (x : α) (l : List α) : List α := l.map fun y => if key y == key x then x else y
def delK (k : Txt) (l : List α) : List α := l.filter fun x => !(key x == k)
variable {key}
theorem findK_some {k : Txt} {l : List α} {x : α} (h : findK key k l = some x) : key x = k ∧ x ∈ l := ⟨by simpa using List.find?_some h, List.mem_of_find?_eq_some h⟩
theorem findK_none {k : Txt} {l : List α} (h : findK key k l = none) : ∀ x ∈ l, key x ≠ k := fun x hx => by simpa using List.find?_eq_none.1 h x hx
theorem findK_of {k : Txt} {l : List α} {x : α} (hr : Rise (l.map key)) (hx : x ∈ l) (hk : key x = k) : findK key k l = some x := by
  induction l with
  | nil => cases hx
  | cons y r ih =>
    unfold findK
    rw [List.find?_cons]
    by_cases hy : key y = k
    · have : (key y == k) = true := by simp [hy]
      rw [this]
      rcases List.mem_cons.1 hx with rfl | h1
      · rfl
      · exfalso
        have h2 := (List.pairwise_cons.1 hr).1 (key x) (List.mem_map_of_mem h1)
        rw [hy, hk, before_irrefl] at h2
        cases h2
    · have : (key y == k) = false := by simp [hy]
      rw [this]
      rcases List.mem_cons.1 hx with rfl | h1
      · exact absurd hk hy
      · exact ih (List.pairwise_cons.1 hr).2 h1
theorem insK_mem {x z : α} : ∀ {l : List α}, z ∈ insK key x l ↔ z = x ∨ z ∈ l
  | [] => by simp [insK]
  | y :: r => by
    unfold insK
    split
    · simp
    · rw [List.mem_cons, insK_mem, List.mem_cons]
      constructor
      · rintro (h | h | h)
        · exact .inr (.inl h)
        · exact .inl h
        · exact .inr (.inr h)
      · rintro (h | h | h)
        · exact .inr (.inl h)
        · exact .inl h
        · exact .inr (.inr h)
theorem insK_len (x : α) : ∀ l : List α, (insK key x l).length = l.length + 1
  | [] => rfl
  | y :: r => by
    unfold insK
    split
    · rfl
    · simp [insK_len x r]
theorem insK_rise {x : α} : ∀ {l : List α}, Rise (l.map key) → (∀ y ∈ l, key y ≠ key x) → Rise ((insK key x l).map key)
  | [], _, _ => by simp [insK, Rise]
  | y :: r, hr, hn => by
    unfold insK
    obtain ⟨h1, h2⟩ := List.pairwise_cons.1 hr
    split
    · rename_i hb
      refine List.pairwise_cons.2 ⟨fun k hk => ?_, hr⟩
      rcases List.mem_cons.1 hk with rfl | hk
      · exact hb
      · exact before_trans hb (h1 k hk)
    · rename_i hb
      have hb' : bytesBefore (key y) (key x) = true := before_not (by simpa using hb) (fun e => hn y (by simp) e.symm)
      refine List.pairwise_cons.2 ⟨fun k hk => ?_, insK_rise h2 (fun z hz => hn z (by simp [hz]))⟩
      obtain ⟨z, hz, rfl⟩ := List.mem_map.1 hk
      rcases insK_mem.1 hz with rfl | hz
      · exact hb'
      · exact h1 _ (List.mem_map_of_mem hz)
theorem setK_keys (x : α) (l : List α) : (setK key x l).map key = l.map key := by
  unfold setK
  rw [List.map_map]
  refine List.map_congr_left fun y _ => ?_
  show key (if key y == key x then x else y) = key y
  split
  · rename_i h
    exact (by simpa using h : key y = key x).symm
  · rfl
theorem setK_len (x : α) (l : List α) : (setK key x l).length = l.length := by simp [setK]
theorem setK_mem {x z : α} {l : List α} (h : z ∈ setK key x l) : z = x ∨ (z ∈ l ∧ key z ≠ key x) := by
  obtain ⟨y, hy, rfl⟩ := List.mem_map.1 h
  split
  · exact .inl rfl
  · rename_i hk
    exact .inr ⟨hy, by simpa using hk⟩
theorem delK_mem {k : Txt} {z : α} {l : List α} : z ∈ delK key k l ↔ z ∈ l ∧ key z ≠ k := by simp [delK]
theorem delK_rise {k : Txt} {l : List α} (h : Rise (l.map key)) : Rise ((delK key k l).map key) := List.Pairwise.sublist (List.Sublist.map _ List.filter_sublist) h
theorem delK_len (k : Txt) (l : List α) : (delK key k l).length ≤ l.length := List.length_filter_le _ _
theorem delK_none {k : Txt} {l : List α} (h : ∀ x ∈ l, key x ≠ k) : delK key k l = l := List.filter_eq_self.2 fun x hx => by simp [h x hx]
theorem findK_set {k : Txt} {x : α} {l : List α} (hx : ∃ y ∈ l, key y = key x) : findK key k (setK key x l) = if key x = k then some x else findK key k l := by
  unfold findK setK
  induction l with
  | nil => obtain ⟨y, hy, _⟩ := hx; cases hy
  | cons y r ih =>
    rw [List.map_cons, List.find?_cons, List.find?_cons]
    by_cases hy : key y = key x
    · have e1 : (key y == key x) = true := by simp [hy]
      rw [e1]
      simp only [if_true]
      by_cases hk : key x = k
      · have e2 : (key x == k) = true := by simp [hk]
        rw [e2, if_pos hk]
      · have e2 : (key x == k) = false := by simp [hk]
        have e3 : (key y == k) = false := by rw [hy]; exact e2
        rw [e2, if_neg hk, e3]
        by_cases hr : ∃ z ∈ r, key z = key x
        · rw [ih hr, if_neg hk]
        · have : (r.map fun y => if key y == key x then x else y) = r := by
            rw [List.map_congr_left (g := id) (fun z hz => ?_), List.map_id]
            have : key z ≠ key x := fun e => hr ⟨z, hz, e⟩
            simp [this]
          rw [this]
    · have e1 : (key y == key x) = false := by simp [hy]
      rw [e1]
      simp only [Bool.false_eq_true, if_false]
      have hr : ∃ z ∈ r, key z = key x := by
        obtain ⟨z, hz, e⟩ := hx
        rcases List.mem_cons.1 hz with rfl | hz
        · exact absurd e hy
        · exact ⟨z, hz, e⟩
      cases hk : key y == k with
      | true =>
        have hyk : key y = k := by simpa using hk
        rw [if_neg (fun e => hy (hyk.trans e.symm))]
      | false => exact ih hr
theorem findK_del {k k' : Txt} {l : List α} : findK key k' (delK key k l) = if k' = k then none else findK key k' l := by
  unfold findK delK
  rw [List.find?_filter]
  split
  · rename_i h
    subst h
    rw [List.find?_eq_none]
    intro x _
    simp
  · rename_i h
    congr 1
    funext x
    by_cases hx : key x = k'
    · simp [hx, h]
    · simp [hx]
theorem findK_ins {k : Txt} {x : α} : ∀ {l : List α}, (∀ y ∈ l, key y ≠ key x) → findK key k (insK key x l) = if key x = k then some x else findK key k l
  | [], _ => by
    unfold insK findK
    rw [List.find?_cons]
    by_cases hk : key x = k
    · simp [hk]
    · have : (key x == k) = false := by simp [hk]
      rw [this, if_neg hk]
  | y :: r, hn => by
    have ih := findK_ins (k := k) (x := x) (l := r) (fun z hz => hn z (by simp [hz]))
    unfold insK
    by_cases hk : key x = k
    · rw [if_pos hk] at ih ⊢
      have hyk : (key y == k) = false := by
        have := hn y (by simp)
        simp only [beq_eq_false_iff_ne]
        exact fun e => this (e.trans hk.symm)
      split
      · unfold findK
        rw [List.find?_cons]
        simp [hk]
      · unfold findK at ih ⊢
        rw [List.find?_cons, hyk]
        exact ih
    · rw [if_neg hk] at ih ⊢
      have hxk : (key x == k) = false := by simp [hk]
      split
      · unfold findK
        rw [List.find?_cons, hxk]
      · unfold findK at ih ⊢
        rw [List.find?_cons, List.find?_cons]
        cases key y == k
        · exact ih
        · rfl
/-- Two rising lists of the same elements are one. -/
theorem rise_ext : ∀ {l m : List α}, Rise (l.map key) → Rise (m.map key) → (∀ x, x ∈ l ↔ x ∈ m) → l = m
  | [], [], _, _, _ => rfl
  | [], y :: r, _, _, h => absurd ((h y).2 (by simp)) (by simp)
  | x :: r, [], _, _, h => absurd ((h x).1 (by simp)) (by simp)
  | x :: r, y :: s, h1, h2, h => by
    obtain ⟨a1, a2⟩ := List.pairwise_cons.1 h1
    obtain ⟨b1, b2⟩ := List.pairwise_cons.1 h2
    have hxy : x = y := by
      rcases List.mem_cons.1 ((h x).1 (by simp)) with e | hx
      · exact e
      · rcases List.mem_cons.1 ((h y).2 (by simp)) with e | hy
        · exact e.symm
        · have c1 := b1 _ (List.mem_map_of_mem (f := key) hx)
          have c2 := a1 _ (List.mem_map_of_mem (f := key) hy)
          rw [before_asymm c1] at c2
          cases c2
    subst hxy
    congr 1
    refine rise_ext a2 b2 fun z => ?_
    have hz := h z
    rw [List.mem_cons, List.mem_cons] at hz
    have n1 : x ∉ r := fun hx => by
      have := a1 _ (List.mem_map_of_mem (f := key) hx)
      rw [before_irrefl] at this
      cases this
    have n2 : x ∉ s := fun hx => by
      have := b1 _ (List.mem_map_of_mem (f := key) hx)
      rw [before_irrefl] at this
      cases this
    constructor
    · intro hr
      rcases hz.1 (.inr hr) with e | h3
      · subst e; exact absurd hr n1
      · exact h3
    · intro hs
      rcases hz.2 (.inr hs) with e | h3
      · subst e; exact absurd hs n2
      · exact h3
end
end Go.Proofs.YtggibajakcigaaaGreatDoor
namespace Go.Proofs.YtggibajakcigaaaGreatDoor
set_option linter.unusedVariables false
set_option linter.unusedSimpArgs false

structure ResD where
  code : Int
  val : Txt
  n : Int
deriving DecidableEq
structure SesD where
  inc : Int
  req : Int
  last : ResD
deriving DecidableEq
structure LockD where
  name : Txt
  holder : Int
  token : Int
  queue : List Int
deriving DecidableEq
structure StD where
  pairs : List (Txt × Txt)
  locks : List LockD
  tok : Int
  ss : List SesD
deriving DecidableEq
def noSes : SesD := ⟨0, 0, ⟨0, [], 0⟩⟩
def newD : StD := ⟨[], [], 0, List.replicate 16 noSes⟩
abbrev pfindD (k : Txt) (ps : List (Txt × Txt)) : Option (Txt × Txt) := findK Prod.fst k ps
abbrev lfind (k : Txt) (ls : List LockD) : Option LockD := findK LockD.name k ls
def pputD (k v : Txt) (ps : List (Txt × Txt)) : List (Txt × Txt) := match pfindD k ps with
  | some _ => setK Prod.fst (k, v) ps
  | none => insK Prod.fst (k, v) ps
/-- The lock is passed on: the new token; 0: it is gone. -/
def passD (k : Txt) (s : StD) : Int × StD := match lfind k s.locks with
  | none => (0, s)
  | some l => match l.queue with
    | [] => (0, { s with locks := delK LockD.name k s.locks })
    | c :: q => if 99999999 ≤ s.tok then (0, { s with locks := delK LockD.name k s.locks }) else (s.tok + 1, { s with locks := setK LockD.name ⟨k, c, s.tok + 1, q⟩ s.locks, tok := s.tok + 1 })
def leaveL (c : Int) (l : LockD) : LockD := { l with queue := l.queue.filter fun q => !(q == c) }
def passAll (ns : List Txt) (s : StD) : StD := ns.foldl (fun s k => (passD k s).2) s
def heldBy (c : Int) (ls : List LockD) : List Txt := (ls.filter fun l => l.holder == c).map LockD.name
def letsD (c : Int) (s : StD) : Int × StD := (((heldBy c s.locks).length : Int), passAll (heldBy c s.locks) { s with locks := s.locks.map (leaveL c) })
section
variable (num : Txt → Int × Bool) (ita : Int → Txt)
def onKeyD (o : Int) (k v d : Txt) (s : StD) : ResD × StD := match pfindD k s.pairs with
  | none => if o = 1 ∨ o = 5 then (if 16 ≤ s.pairs.length then (⟨4, [], 0⟩, s) else (⟨1, if o = 5 then v else [], 0⟩, { s with pairs := pputD k v s.pairs })) else (⟨2, [], 0⟩, s)
  | some (_, u) =>
    if o = 1 then (⟨1, u, 1⟩, { s with pairs := pputD k v s.pairs })
    else if o = 3 then (if u = d then (⟨1, u, 1⟩, { s with pairs := pputD k v s.pairs }) else (⟨3, u, 1⟩, s))
    else if o = 4 then (⟨1, u, 1⟩, { s with pairs := delK Prod.fst k s.pairs })
    else if o = 5 then (if (num u).2 = false then (⟨5, u, 1⟩, s) else if 8 < (ita ((num u).1 + (num v).1)).length then (⟨6, u, 1⟩, s) else (⟨1, ita ((num u).1 + (num v).1), 1⟩, { s with pairs := pputD k (ita ((num u).1 + (num v).1)) s.pairs }))
    else (⟨1, u, 1⟩, s)
def onLockD (c o : Int) (k v : Txt) (s : StD) : ResD × StD := match lfind k s.locks with
  | none => if o = 6 then (if 8 ≤ s.locks.length then (⟨4, [], 0⟩, s) else if 99999999 ≤ s.tok then (⟨11, [], 0⟩, s) else (⟨1, [], s.tok + 1⟩, { s with locks := insK LockD.name ⟨k, c, s.tok + 1, []⟩ s.locks, tok := s.tok + 1 })) else (⟨2, [], 0⟩, s)
  | some l =>
    if o = 6 then (if l.holder = c then (⟨1, [], l.token⟩, s) else if c ∈ l.queue then (⟨7, [], (l.queue.idxOf c : Int) + 1⟩, s) else (⟨7, [], (l.queue.length : Int) + 1⟩, { s with locks := setK LockD.name { l with queue := l.queue ++ [c] } s.locks }))
    else if o = 7 then (if l.holder = c then (⟨1, [], (passD k s).1⟩, (passD k s).2) else if c ∈ l.queue then (⟨8, [], 0⟩, { s with locks := setK LockD.name (leaveL c l) s.locks }) else (⟨2, [], 0⟩, s))
    else if (num v).1 = l.token then (⟨1, [], l.token⟩, s) else (⟨9, [], l.token⟩, s)
def endD (v : Txt) (s : StD) : ResD × StD := if (s.ss.getD (num v).1.toNat noSes).inc = 0 then (⟨2, [], 0⟩, s) else (⟨1, [], (letsD (num v).1 s).1⟩, (letsD (num v).1 s).2)
def doesD (c o : Int) (k v d : Txt) (s : StD) : ResD × StD := if o ≤ 5 then onKeyD num ita o k v d s else if o ≤ 8 then onLockD num c o k v s else endD num v s
/-- A valid command, done. -/
def applyV (c i r o : Int) (k v d : Txt) (s : StD) : ResD × StD :=
  let z := s.ss.getD c.toNat noSes
  if z.inc > i ∨ (z.inc = i ∧ z.req > r) then (⟨9, [], 0⟩, s)
  else if z.inc = i ∧ z.req = r then (z.last, s)
  else
    let s1 := if 0 < z.inc ∧ z.inc < i then (letsD c s).2 else s
    let x := doesD num ita c o k v d s1
    (x.1, { x.2 with ss := x.2.ss.set c.toNat ⟨i, r, x.1⟩ })
end

/-! ### what holds throughout -/
structure LOk (tok : Int) (l : LockD) : Prop where
  n1 : 1 ≤ l.name.length
  n8 : l.name.length ≤ 8
  h0 : 0 ≤ l.holder
  h1 : l.holder < 16
  t0 : 1 ≤ l.token
  t1 : l.token ≤ tok
  nd : l.queue.Nodup
  q : ∀ c ∈ l.queue, 0 ≤ c ∧ c < 16
  hq : l.holder ∉ l.queue
structure LInv (ls : List LockD) (tok : Int) : Prop where
  rise : Rise (ls.map LockD.name)
  each : ∀ l ∈ ls, LOk tok l
  apart : ls.Pairwise fun a b => a.token ≠ b.token
  len : ls.length ≤ 8
  tok0 : 0 ≤ tok
  tok1 : tok ≤ 99999999
theorem LOk.more {t t' : Int} {l : LockD} (h : LOk t l) (ht : t ≤ t') : LOk t' l := ⟨h.n1, h.n8, h.h0, h.h1, h.t0, by have := h.t1; omega, h.nd, h.q, h.hq⟩
theorem LInv.sub {ls ms : List LockD} {tok : Int} (h : LInv ls tok) (hs : List.Sublist ms ls) : LInv ms tok :=
  ⟨List.Pairwise.sublist (List.Sublist.map _ hs) h.rise, fun l hl => h.each l (hs.subset hl), h.apart.sublist hs, Nat.le_trans hs.length_le h.len, h.tok0, h.tok1⟩
/-- Each lock is turned, but for its name and its token. -/
theorem LInv.map {ls : List LockD} {tok : Int} (h : LInv ls tok) (f : LockD → LockD) (hn : ∀ l, (f l).name = l.name) (ht : ∀ l, (f l).token = l.token) (ho : ∀ l ∈ ls, LOk tok (f l)) : LInv (ls.map f) tok := by
  refine ⟨?_, fun l hl => ?_, ?_, by simpa using h.len, h.tok0, h.tok1⟩
  · rw [List.map_map]
    have : (ls.map (LockD.name ∘ f)) = ls.map LockD.name := List.map_congr_left fun l _ => hn l
    rw [this]
    exact h.rise
  · obtain ⟨m, hm, rfl⟩ := List.mem_map.1 hl
    exact ho m hm
  · rw [List.pairwise_map]
    exact h.apart.imp fun hab => by rwa [ht, ht]
theorem LInv.set {ls : List LockD} {tok tok' : Int} (h : LInv ls tok) (x : LockD) (hx : LOk tok' x) (ht : tok ≤ tok') (h1 : tok' ≤ 99999999) (hd : ∀ l ∈ ls, l.name ≠ x.name → l.token ≠ x.token) : LInv (setK LockD.name x ls) tok' := by
  refine ⟨by rw [setK_keys]; exact h.rise, fun l hl => ?_, ?_, by rw [setK_len]; exact h.len, by have := h.tok0; omega, h1⟩
  · rcases setK_mem hl with rfl | ⟨h2, _⟩
    · exact hx
    · exact (h.each l h2).more ht
  · unfold setK
    rw [List.pairwise_map]
    have hr : ls.Pairwise fun a b => a.name ≠ b.name := by
      have := h.rise
      unfold Rise at this
      rw [List.pairwise_map] at this
      exact this.imp before_ne
    refine (h.apart.and hr).imp_of_mem ?_
    intro a b ha hb hab
    obtain ⟨h3, h4⟩ := hab
    by_cases e1 : a.name = x.name
    · have e2 : b.name ≠ x.name := fun e => h4 (e1.trans e.symm)
      simp only [e1, beq_self_eq_true, if_true, beq_iff_eq, e2, if_false]
      exact (hd b hb e2).symm
    · by_cases e2 : b.name = x.name
      · simp only [e2, beq_self_eq_true, if_true, beq_iff_eq, e1, if_false]
        exact hd a ha e1
      · simp only [beq_iff_eq, e1, e2, if_false]
        exact h3
theorem LInv.ins {ls : List LockD} {tok : Int} (h : LInv ls tok) (x : LockD) (hx : LOk (tok + 1) x) (hxt : x.token = tok + 1) (hn : ∀ l ∈ ls, l.name ≠ x.name) (hl : ls.length < 8) (ht : tok < 99999999) : LInv (insK LockD.name x ls) (tok + 1) := by
  refine ⟨insK_rise h.rise hn, fun l hl => ?_, ?_, by rw [insK_len]; omega, by have := h.tok0; omega, by omega⟩
  · rcases insK_mem.1 hl with rfl | h2
    · exact hx
    · exact (h.each l h2).more (by omega)
  · have hold : ∀ l ∈ ls, l.token ≠ x.token := fun l hl => by have := (h.each l hl).t1; omega
    have gen : ∀ ms : List LockD, (∀ l ∈ ms, l.token ≠ x.token) → ms.Pairwise (fun a b => a.token ≠ b.token) → (insK LockD.name x ms).Pairwise fun a b => a.token ≠ b.token := by
      intro ms
      induction ms with
      | nil => intro _ _; simp [insK]
      | cons y r ih =>
        intro h1 h2
        obtain ⟨c1, c2⟩ := List.pairwise_cons.1 h2
        unfold insK
        split
        · exact List.pairwise_cons.2 ⟨fun z hz => (h1 z hz).symm, h2⟩
        · refine List.pairwise_cons.2 ⟨fun z hz => ?_, ih (fun l hl => h1 l (by simp [hl])) c2⟩
          rcases insK_mem.1 hz with rfl | hz
          · exact h1 y (by simp)
          · exact c1 z hz
    exact gen ls hold h.apart
theorem leave_ok {tok c : Int} {l : LockD} (h : LOk tok l) : LOk tok (leaveL c l) :=
  ⟨h.n1, h.n8, h.h0, h.h1, h.t0, h.t1, h.nd.filter _, fun x hx => h.q x (List.mem_filter.1 hx).1, fun hm => h.hq (List.mem_filter.1 hm).1⟩
theorem LInv.leave {ls : List LockD} {tok : Int} (h : LInv ls tok) (c : Int) : LInv (ls.map (leaveL c)) tok := h.map _ (fun _ => rfl) (fun _ => rfl) fun l hl => leave_ok (h.each l hl)
theorem LInv.pass {s : StD} (h : LInv s.locks s.tok) (k : Txt) : LInv (passD k s).2.locks (passD k s).2.tok := by
  unfold passD
  cases hf : lfind k s.locks with
  | none => exact h
  | some l =>
    obtain ⟨hn, hm⟩ := findK_some hf
    have hl := h.each l hm
    simp only
    cases hq : l.queue with
    | nil => exact h.sub List.filter_sublist
    | cons c q =>
      simp only
      split
      · exact h.sub List.filter_sublist
      · rename_i ht
        have hnd := hl.nd
        rw [hq] at hnd
        have hc := hl.q c (by rw [hq]; simp)
        refine h.set ⟨k, c, s.tok + 1, q⟩ ⟨by show 1 ≤ k.length; rw [← hn]; exact hl.n1, by show k.length ≤ 8; rw [← hn]; exact hl.n8, hc.1, hc.2, by have := h.tok0; show 1 ≤ s.tok + 1; omega, Int.le_refl _, (List.nodup_cons.1 hnd).2, fun x hx => hl.q x (by rw [hq]; simp [hx]), (List.nodup_cons.1 hnd).1⟩ (show s.tok ≤ s.tok + 1 by omega) (show s.tok + 1 ≤ 99999999 by omega) (fun m hm2 _ => ?_)
        have := (h.each m hm2).t1
        show m.token ≠ s.tok + 1
        omega
theorem LInv.passAll {s : StD} (h : LInv s.locks s.tok) (ns : List Txt) : LInv (passAll ns s).locks (passAll ns s).tok := by
  unfold Go.Proofs.YtggibajakcigaaaGreatDoor.passAll
  induction ns generalizing s with
  | nil => exact h
  | cons k r ih => exact ih (h.pass k)
/-- Who holds or waits. -/
def who (ls : List LockD) (c : Int) : Prop := ∃ l ∈ ls, c = l.holder ∨ c ∈ l.queue
theorem who_sub {ls ms : List LockD} (h : ∀ l ∈ ms, l ∈ ls) {c : Int} (hc : who ms c) : who ls c := by
  obtain ⟨l, hl, hh⟩ := hc
  exact ⟨l, h l hl, hh⟩
theorem who_pass {s : StD} {k : Txt} {c : Int} (h : who (passD k s).2.locks c) : who s.locks c := by
  unfold passD at h
  cases hf : lfind k s.locks with
  | none => rw [hf] at h; exact h
  | some l =>
    rw [hf] at h
    simp only at h
    obtain ⟨hn, hm⟩ := findK_some hf
    cases hq : l.queue with
    | nil => rw [hq] at h; exact who_sub (fun m hm => (delK_mem.1 hm).1) h
    | cons d q =>
      rw [hq] at h
      simp only at h
      split at h
      · exact who_sub (fun m hm => (delK_mem.1 hm).1) h
      · obtain ⟨m, hm2, hh⟩ := h
        rcases setK_mem hm2 with rfl | ⟨h3, _⟩
        · rcases hh with rfl | hh
          · exact ⟨l, hm, .inr (by rw [hq]; simp)⟩
          · exact ⟨l, hm, .inr (by rw [hq]; simp at hh ⊢; exact .inr hh)⟩
        · exact ⟨m, h3, hh⟩
theorem who_passAll {c : Int} : ∀ (ns : List Txt) {s : StD}, who (passAll ns s).locks c → who s.locks c
  | [], _, h => h
  | k :: r, s, h => who_pass (who_passAll r h)
theorem who_leave {ls : List LockD} {c d : Int} (h : who (ls.map (leaveL d)) c) : who ls c := by
  obtain ⟨m, hm, hh⟩ := h
  obtain ⟨l, hl, rfl⟩ := List.mem_map.1 hm
  rcases hh with rfl | hh
  · exact ⟨l, hl, .inl rfl⟩
  · exact ⟨l, hl, .inr (List.mem_filter.1 hh).1⟩
theorem who_lets {s : StD} {c d : Int} (h : who (letsD d s).2.locks c) : who s.locks c := who_leave (who_passAll _ h)
theorem pass_rest (k : Txt) (s : StD) : (passD k s).2.pairs = s.pairs ∧ (passD k s).2.ss = s.ss := by
  unfold passD
  split
  · exact ⟨rfl, rfl⟩
  · split
    · exact ⟨rfl, rfl⟩
    · split <;> exact ⟨rfl, rfl⟩
theorem passAll_rest : ∀ (ns : List Txt) (s : StD), (passAll ns s).pairs = s.pairs ∧ (passAll ns s).ss = s.ss
  | [], _ => ⟨rfl, rfl⟩
  | k :: r, s => by
    have h := passAll_rest r (passD k s).2
    have h2 := pass_rest k s
    exact ⟨h.1.trans h2.1, h.2.trans h2.2⟩
theorem lets_rest (c : Int) (s : StD) : (letsD c s).2.pairs = s.pairs ∧ (letsD c s).2.ss = s.ss := passAll_rest _ _
theorem LInv.lets {s : StD} (h : LInv s.locks s.tok) (c : Int) : LInv (letsD c s).2.locks (letsD c s).2.tok := LInv.passAll (s := { s with locks := s.locks.map (leaveL c) }) (h.leave c) _
/-- A lock that is found stays found while others are passed on. -/
theorem pass_other {s : StD} {k k' : Txt} (hne : k' ≠ k) : lfind k' (passD k s).2.locks = lfind k' s.locks := by
  unfold passD
  cases hf : lfind k s.locks with
  | none => rfl
  | some l =>
    obtain ⟨hn, hm⟩ := findK_some hf
    simp only
    have hdel : lfind k' (delK LockD.name k s.locks) = lfind k' s.locks := by
      show findK LockD.name k' (delK LockD.name k s.locks) = _
      rw [findK_del, if_neg hne]
    cases hq : l.queue with
    | nil => exact hdel
    | cons c q =>
      simp only
      split
      · exact hdel
      · show findK LockD.name k' (setK LockD.name _ s.locks) = _
        rw [findK_set ⟨l, hm, hn⟩, if_neg (fun e => hne e.symm)]

structure ResOk (r : ResD) : Prop where
  c0 : 1 ≤ r.code
  c1 : r.code ≤ 11
  c10 : r.code ≠ 10
  v : r.val.length ≤ 8
  n0 : 0 ≤ r.n
  n1 : r.n ≤ 99999999
structure SesOk (x : SesD) : Prop where
  i0 : 1 ≤ x.inc
  i1 : x.inc ≤ 4611686018427387904
  r0 : 1 ≤ x.req
  r1 : x.req ≤ 4611686018427387904
  last : ResOk x.last
structure PInv (ps : List (Txt × Txt)) : Prop where
  rise : Rise (ps.map Prod.fst)
  each : ∀ p ∈ ps, 1 ≤ p.1.length ∧ p.1.length ≤ 8 ∧ p.2.length ≤ 8
  len : ps.length ≤ 16
structure Inv (s : StD) : Prop where
  lk : LInv s.locks s.tok
  pr : PInv s.pairs
  s16 : s.ss.length = 16
  ses : ∀ x ∈ s.ss, x = noSes ∨ SesOk x
  link : ∀ c, who s.locks c → 0 < (s.ss.getD c.toNat noSes).inc
theorem inv_new : Inv newD :=
  ⟨⟨by simp [newD, Rise], by simp [newD], by simp [newD], by simp [newD], by simp [newD], by simp [newD]⟩, ⟨by simp [newD, Rise], by simp [newD], by simp [newD]⟩, by simp [newD], fun x hx => .inl (List.eq_of_mem_replicate hx), fun c hc => by
    obtain ⟨l, hl, _⟩ := hc
    simp [newD] at hl⟩
theorem PInv.put {ps : List (Txt × Txt)} (h : PInv ps) {k v : Txt} (hk : 1 ≤ k.length ∧ k.length ≤ 8) (hv : v.length ≤ 8) (hl : pfindD k ps = none → ps.length < 16) : PInv (pputD k v ps) := by
  unfold pputD
  cases hf : pfindD k ps with
  | some x =>
    refine ⟨by rw [setK_keys]; exact h.rise, fun p hp => ?_, by rw [setK_len]; exact h.len⟩
    rcases setK_mem hp with rfl | ⟨h2, _⟩
    · exact ⟨hk.1, hk.2, hv⟩
    · exact h.each p h2
  | none =>
    refine ⟨insK_rise h.rise (findK_none hf), fun p hp => ?_, by rw [insK_len]; have := hl hf; omega⟩
    rcases insK_mem.1 hp with rfl | h2
    · exact ⟨hk.1, hk.2, hv⟩
    · exact h.each p h2
theorem PInv.del {ps : List (Txt × Txt)} (h : PInv ps) (k : Txt) : PInv (delK Prod.fst k ps) := ⟨delK_rise h.rise, fun p hp => h.each p (delK_mem.1 hp).1, Nat.le_trans (delK_len _ _) h.len⟩
theorem nodup_lt : ∀ (n : Nat) (l : List Int), l.Nodup → (∀ c ∈ l, 0 ≤ c ∧ c < (n : Int)) → l.length ≤ n
  | 0, [], _, _ => Nat.le_refl _
  | 0, c :: r, _, h => by have := h c (by simp); omega
  | n + 1, l, hn, h => by
    have h1 := nodup_lt n (l.erase (n : Int)) (hn.erase _) (fun c hc => by
      have h2 := (hn.mem_erase_iff).1 hc
      have := h c h2.2
      have := h2.1
      omega)
    rw [List.length_erase] at h1
    split at h1 <;> omega
theorem queue_len {q : List Int} (hn : q.Nodup) (hb : ∀ c ∈ q, 0 ≤ c ∧ c < 16) : q.length ≤ 16 := nodup_lt 16 q hn hb
end Go.Proofs.YtggibajakcigaaaGreatDoor
namespace Go.Proofs.YtggibajakcigaaaGreatDoor
set_option linter.unusedVariables false
set_option linter.unusedSimpArgs false
open Go.RowKit
open Go.Maps (Keyed)

abbrev Kv := List UInt8 × Value
/-- Every element reads as itself. -/
def Rv (v : Value) : Option (DataW Value × List MemPlace) := some (.held v, [])
def mEnt (p : Kv) : Lit × DataW Value := (.string p.1, .held p.2)
def mD (ps : List Kv) : DataW Value := .map (ps.map mEnt)
/-- Block b is a map that holds just these. -/
def MapIs (P : Program) (k : TypeId) (w : World) (b : Nat) (ps : List Kv) : Prop := w.ownsMap P k Rv b ps.length (mD ps)
def mfind (k : List UInt8) (ps : List Kv) : Option Value := (ps.find? fun p => p.1 == k).map (·.2)
def mins (x : Kv) : List Kv → List Kv
  | [] => [x]
  | y :: r => if bytesBefore x.1 y.1 then x :: y :: r else y :: mins x r
def mdel (k : List UInt8) (ps : List Kv) : List Kv := ps.filter fun p => !(p.1 == k)
def mput (k : List UInt8) (v : Value) (ps : List Kv) : List Kv := mins (k, v) (mdel k ps)

theorem mD_insert (x : Kv) : ∀ ps : List Kv, DataW.insert (mEnt x) (ps.map mEnt) = (mins x ps).map mEnt
  | [] => rfl
  | y :: r => by
    simp only [List.map_cons, DataW.insert, mins]
    have e : (mEnt x).1.before (mEnt y).1 = bytesBefore x.1 y.1 := rfl
    rw [e]
    split
    · rfl
    · rw [mD_insert x r]; rfl
theorem mD_filter (k : List UInt8) (ps : List Kv) : (ps.map mEnt).filter (fun p => !p.1.sameKey (.string k)) = (mdel k ps).map mEnt := by
  unfold mdel
  rw [List.filter_map]
  rfl
theorem mD_put (k : List UInt8) (v : Value) (ps : List Kv) : (mD ps).put (.string k) (.held v) = mD (mput k v ps) := by
  unfold mD DataW.put
  simp only
  rw [mD_filter]
  exact congrArg DataW.map (mD_insert (k, v) _)
theorem mD_del (k : List UInt8) (ps : List Kv) : (mD ps).del (.string k) = mD (mdel k ps) := by
  unfold mD DataW.del
  simp only
  rw [mD_filter]
theorem mD_has (k : List UInt8) (ps : List Kv) : Maps.has (mD ps) (.string k) = (mfind k ps).isSome := by
  unfold mD Maps.has mfind
  simp only
  induction ps with
  | nil => rfl
  | cons p ps ih =>
    simp only [List.map_cons, List.any_cons, List.find?_cons]
    rw [ih]
    have e : (mEnt p).1.sameKey (.string k) = (p.1 == k) := rfl
    rw [e]
    cases h : p.1 == k <;> simp
theorem mD_at (k : List UInt8) (z : Value) (ps : List Kv) : (mD ps).atKey (.string k) (.held z) = .held ((mfind k ps).getD z) := by
  unfold mD DataW.atKey mfind
  simp only
  induction ps with
  | nil => rfl
  | cons p ps ih =>
    simp only [List.map_cons, List.find?_cons]
    have e : (mEnt p).1.sameKey (.string k) = (p.1 == k) := rfl
    rw [e]
    cases h : p.1 == k
    · exact ih
    · rfl
theorem mD_size (ps : List Kv) : Maps.size (mD ps) = ps.length := by simp [mD, Maps.size]
theorem mins_len (x : Kv) : ∀ ps : List Kv, (mins x ps).length = ps.length + 1
  | [] => rfl
  | y :: r => by
    unfold mins
    split
    · rfl
    · simp [mins_len x r]
theorem mdel_len (k : List UInt8) (ps : List Kv) : (mdel k ps).length ≤ ps.length := List.length_filter_le _ _
theorem mput_len (k : List UInt8) (v : Value) (ps : List Kv) : (mput k v ps).length ≤ ps.length + 1 := by
  unfold mput
  rw [mins_len]
  have := mdel_len k ps
  omega

section
variable {P : Program} {k : TypeId} {w w' : World} {b : Nat} {ps : List Kv}
theorem MapIs.of {n : Nat} {D : DataW Value} (h : w.ownsMap P k Rv b n D) (hD : D = mD ps) : MapIs P k w b ps := by
  subst hD
  obtain ⟨es, clock, hb, F, _, hD⟩ := h
  refine ⟨es, clock, hb, F, ?_, hD⟩
  have h1 := congrArg Maps.size hD
  rw [mD_size] at h1
  simp [Maps.size, length_sorted] at h1
  omega
theorem MapIs.made (w : World) (P : Program) (k : TypeId) : MapIs P k (w.alloc (.map #[] 0)) w.heap.size [] := World.ownsMap_made w P k Rv
theorem MapIs.lt (h : MapIs P k w b ps) : b < w.heap.size := World.ownsMap.lt h
theorem MapIs.blk (h : MapIs P k w b ps) (hb : w'.heap[b]? = w.heap[b]?) : MapIs P k w' b ps := by
  obtain ⟨es, clock, hh, F, hs, hD⟩ := h
  exact ⟨es, clock, hb.trans hh, F, hs, hD⟩
theorem MapIs.keep {Z : Nat → Prop} (h : MapIs P k w b ps) (hk : Keep Z w w') (hz : Z b) : MapIs P k w' b ps := h.blk (hk.block b h.lt hz)
theorem MapIs.ne_blk {g : Nat} {t : TypeId} {cs : Array Value} (h : MapIs P k w b ps) (hg : Blk w g t cs) : b ≠ g := by
  rintro rfl
  obtain ⟨es, clock, hh, _⟩ := h
  unfold Blk at hg
  rw [hg] at hh
  cases hh
theorem str_key (hk : P.underlying k = some .string) {l : List UInt8} (hl : l.length ≤ maxLen) : keyOf P k (.string ⟨l.toArray⟩) = some (.string l) := by
  have := Go.WideMaps.keyOf_string_mk (P := P) hk (s := ⟨l.toArray⟩) (by show l.length ≤ maxLen; exact hl)
  simpa using this
theorem MapIs.look_ok {t e : TypeId} (h : MapIs P k w b ps) (hk : P.underlying k = some .string) (ht : P.underlying t = some (.map k e)) {z : Value} (hz : (zeroValue e).run P w = .ok z w) {l : List UInt8} (hl : l.length ≤ maxLen) :
    (Instr.lookup t (.map (some b)) (.string ⟨l.toArray⟩) true).run P w = .ok (.tuple #[(mfind l ps).getD z, .bool (mfind l ps).isSome]) w := by
  obtain ⟨v, qs, hrun, hv⟩ := World.ownsMap.look_ok h (Maps.string_keyed hk) ht hz (zd := .held z) (zp := []) rfl (str_key hk hl)
  rw [mD_has] at hrun
  rw [mD_at] at hv
  unfold Rv at hv
  injection hv with hv
  injection hv with hv _
  injection hv with hv
  rw [hrun, hv]
theorem MapIs.look {t e : TypeId} (h : MapIs P k w b ps) (hk : P.underlying k = some .string) (ht : P.underlying t = some (.map k e)) {z : Value} (hz : (zeroValue e).run P w = .ok z w) {l : List UInt8} (hl : l.length ≤ maxLen) :
    (Instr.lookup t (.map (some b)) (.string ⟨l.toArray⟩) false).run P w = .ok ((mfind l ps).getD z) w := by
  obtain ⟨v, qs, hrun, hv⟩ := World.ownsMap.lookup h (Maps.string_keyed hk) ht hz (zd := .held z) (zp := []) rfl (str_key hk hl)
  rw [mD_at] at hv
  unfold Rv at hv
  injection hv with hv
  injection hv with hv _
  injection hv with hv
  rw [hrun, hv]
theorem MapIs.len {t e : TypeId} (h : MapIs P k w b ps) (ht : P.underlying t = some (.map k e)) (ty : TypeId) : (Builtin.len_ #[t] ty #[.map (some b)]).run P w = .ok (.int .i64 (ps.length : Int)) w := by
  have := World.ownsMap.len h ht ty
  rwa [mD_size] at this
theorem Keep.of_turned (h : w.mapTurned w' b) : Keep (fun i => i ≠ b) w w' := (Keep.of_grown h.grown).weaken fun i _ hi e => hi (by injection e with e; exact e.symm)
theorem MapIs.store {t e : TypeId} (h : MapIs P k w b ps) (hk : P.underlying k = some .string) (ht : P.underlying t = some (.map k e)) (hn : ps.length < maxLen) {l : List UInt8} (hl : l.length ≤ maxLen) (v : Value) :
    ∃ w', (Instr.mapUpdate t (.map (some b)) (.string ⟨l.toArray⟩) v).run P w = .ok () w' ∧ MapIs P k w' b (mput l v ps) ∧ Keep (fun i => i ≠ b) w w' := by
  obtain ⟨w', hrun, ho, ht'⟩ := World.ownsMap.store h (Maps.string_keyed hk) ht hn (str_key hk hl) (val := v) (d := .held v) (ps := []) rfl
  exact ⟨w', hrun, MapIs.of ho (mD_put l v ps), Keep.of_turned ht'⟩
theorem MapIs.drop {t e : TypeId} (h : MapIs P k w b ps) (hk : P.underlying k = some .string) (ht : P.underlying t = some (.map k e)) {l : List UInt8} (hl : l.length ≤ maxLen) (ty : TypeId) :
    ∃ w', (Builtin.delete_ #[t, k] ty #[.map (some b), .string ⟨l.toArray⟩]).run P w = .ok (.tuple #[]) w' ∧ MapIs P k w' b (mdel l ps) ∧ Keep (fun i => i ≠ b) w w' := by
  obtain ⟨w', hrun, ho, ht'⟩ := World.ownsMap.drop h (Maps.string_keyed hk) ht (str_key hk hl) ty
  exact ⟨w', hrun, MapIs.of ho (mD_del l ps), Keep.of_turned ht'⟩
/-- The operation, for the walk. -/
theorem wpList_mstore {t e : TypeId} {ops : Array Oper} {rest : List Oper} {o : Oper} {a : Act} {Q : Exit → Act → World → Prop} (hgd : o.guard = none) (m x v : Operand) (hop : o.op = Op.mapUpdate t m x v)
    (hk : P.underlying k = some .string) (ht : P.underlying t = some (.map k e)) (hm : a.eval m = .map (some b)) (h : MapIs P k w b ps) (hn : ps.length < maxLen) {l : List UInt8} (hl : l.length ≤ maxLen) (hx : a.eval x = .string ⟨l.toArray⟩) (u : Value) (hv : a.eval v = u)
    (hK : ∀ w', MapIs P k w' b (mput l u ps) → Keep (fun i => i ≠ b) w w' → wpList P ops Q rest (a.put o.dst undef) w') : wpList P ops Q (o :: rest) a w := by
  refine wpList_plain hgd fun K' hK' => ?_
  obtain ⟨w', hrun, r1, r2⟩ := h.store hk ht hn hl u
  unfold Oper.wp
  simp [execOp, hop, hm, hx, hv, hrun, Result.andThen]
  exact hK' _ _ (hK w' r1 r2)
theorem wpList_mlen {t e : TypeId} {ops : Array Oper} {rest : List Oper} {o : Oper} {a : Act} {Q : Exit → Act → World → Prop} (hgd : o.guard = none) (m : Operand) (hop : o.op = Op.call { callee := Callee.builtin Builtin.len, args := #[m], argTypes := #[t] })
    (ht : P.underlying t = some (.map k e)) (hm : a.eval m = .map (some b)) (h : MapIs P k w b ps) (hK : wpList P ops Q rest (a.put o.dst (.int .i64 (ps.length : Int))) w) : wpList P ops Q (o :: rest) a w := by
  refine wpList_plain hgd fun K' hK' => ?_
  have hrun := h.len ht o.type
  unfold Oper.wp execOp
  simp only [hop, resolve, invoke, builtin, Sem.run_bind, Sem.run_pure, Result.andThen_ok, List.map_toArray, List.map_cons, List.map_nil, hm, hrun]
  exact hK' _ _ hK
theorem wpList_mdrop {t e : TypeId} {ops : Array Oper} {rest : List Oper} {o : Oper} {a : Act} {Q : Exit → Act → World → Prop} (hgd : o.guard = none) (m x : Operand) (hop : o.op = Op.call { callee := Callee.builtin Builtin.delete, args := #[m, x], argTypes := #[t, k] })
    (hk : P.underlying k = some .string) (ht : P.underlying t = some (.map k e)) (hm : a.eval m = .map (some b)) (h : MapIs P k w b ps) {l : List UInt8} (hl : l.length ≤ maxLen) (hx : a.eval x = .string ⟨l.toArray⟩)
    (hK : ∀ w', MapIs P k w' b (mdel l ps) → Keep (fun i => i ≠ b) w w' → wpList P ops Q rest (a.put o.dst (.tuple #[])) w') : wpList P ops Q (o :: rest) a w := by
  refine wpList_plain hgd fun K' hK' => ?_
  obtain ⟨w', hrun, r1, r2⟩ := h.drop hk ht hl o.type
  unfold Oper.wp execOp
  simp only [hop, resolve, invoke, builtin, Sem.run_bind, Sem.run_pure, Result.andThen_ok, List.map_toArray, List.map_cons, List.map_nil, hm, hx, hrun]
  exact hK' _ _ (hK w' r1 r2)
end
end Go.Proofs.YtggibajakcigaaaGreatDoor
namespace Go.Proofs.YtggibajakcigaaaGreatDoor
set_option linter.unusedVariables false
set_option linter.unusedSimpArgs false
/-- A number in its shortest form. -/
def putB (v : Nat) : List UInt8 := if v ≤ 127 then [UInt8.ofNat v] else UInt8.ofNat (v % 128 + 128) :: putB (v / 128)
theorem putB_small {v : Nat} (h : v ≤ 127) : putB v = [UInt8.ofNat v] := by rw [putB, if_pos h]
theorem putB_big {v : Nat} (h : 127 < v) : putB v = UInt8.ofNat (v % 128 + 128) :: putB (v / 128) := by rw [putB, if_neg (by omega)]
theorem putB_pos (v : Nat) : 0 < (putB v).length := by
  rw [putB]
  split <;> simp
theorem putB_len (k : Nat) : ∀ v, v < 128 ^ (k + 1) → (putB v).length ≤ k + 1 := by
  induction k with
  | zero => intro v h; rw [putB_small (by omega)]; simp
  | succ k ih =>
    intro v h
    by_cases hv : v ≤ 127
    · rw [putB_small hv]; simp
    · rw [putB_big (by omega)]
      have := ih (v / 128) (by rw [Nat.pow_succ] at h; omega)
      simp
      omega
theorem putB_len9 {v : Nat} (h : v ≤ 4611686018427387904) : (putB v).length ≤ 9 := putB_len 8 v (by omega)

theorem ofInt_i64 (a : Nat) (ha : a < 9223372036854775808) : (BitVec.ofInt 64 (a : Int)).toNat = a := by
  rw [BitVec.ofInt_natCast, BitVec.toNat_ofNat]; exact Nat.mod_eq_of_lt (by omega)
theorem i64_and_nat (a b : Nat) (ha : a < 9223372036854775808) (hb : b < 9223372036854775808) : bits .and .i64 (a : Int) (b : Int) = ((a &&& b : Nat) : Int) := by
  have hx : a &&& b < 2 ^ 63 := Nat.and_lt_two_pow _ (by omega)
  show IntKind.i64.wrap ((BitVec.ofInt 64 (a : Int) &&& BitVec.ofInt 64 (b : Int)).toNat : Int) = _
  rw [BitVec.toNat_and, ofInt_i64 a ha, ofInt_i64 b hb, IntKind.wrap_i64]
  omega
theorem i64_or_nat (a b : Nat) (ha : a < 9223372036854775808) (hb : b < 9223372036854775808) : bits .or .i64 (a : Int) (b : Int) = ((a ||| b : Nat) : Int) := by
  have hx : a ||| b < 2 ^ 63 := Nat.or_lt_two_pow (by omega) (by omega)
  show IntKind.i64.wrap ((BitVec.ofInt 64 (a : Int) ||| BitVec.ofInt 64 (b : Int)).toNat : Int) = _
  rw [BitVec.toNat_or, ofInt_i64 a ha, ofInt_i64 b hb, IntKind.wrap_i64]
  omega
theorem i64_and_127 (a : Nat) (ha : a < 9223372036854775808) : bits .and .i64 (a : Int) 127 = ((a % 128 : Nat) : Int) := by
  have h := i64_and_nat a 127 ha (by omega)
  rw [show a &&& 127 = a % 128 from Nat.and_two_pow_sub_one_eq_mod a 7] at h
  exact h
theorem or_128 (a : Nat) (ha : a < 128) : a ||| 128 = a + 128 := by
  have := Nat.two_pow_add_eq_or_of_lt (i := 7) (b := a) ha 1
  rw [Nat.or_comm]
  simpa [Nat.add_comm] using this.symm
theorem i64_or_128 (a : Nat) (ha : a < 128) : bits .or .i64 (a : Int) 128 = ((a + 128 : Nat) : Int) := by
  have h := i64_or_nat a 128 (by omega) (by omega)
  rw [or_128 a ha] at h
  exact h
theorem u8_toNat (a : Nat) (h : a < 256) : ((UInt8.ofNat a).toNat : Int) = (a : Int) := by
  rw [UInt8.toNat_ofNat', Nat.mod_eq_of_lt h]

def okInts (xs : List Int) : Prop := ∀ x ∈ xs, 0 ≤ x ∧ x ≤ 4611686018427387904
/-- Numbers, one behind the other. -/
def encs (xs : List Int) : List UInt8 := xs.flatMap fun x => putB x.toNat
theorem encs_nil : encs [] = [] := rfl
theorem encs_cons (x : Int) (xs : List Int) : encs (x :: xs) = putB x.toNat ++ encs xs := rfl
theorem encs_append (xs ys : List Int) : encs (xs ++ ys) = encs xs ++ encs ys := by simp [encs]
theorem encs_len (xs : List Int) (h : okInts xs) : (encs xs).length ≤ 9 * xs.length := by
  induction xs with
  | nil => simp [encs]
  | cons x xs ih =>
    have h1 := h x (by simp)
    have h2 := ih (fun y hy => h y (by simp [hy]))
    have h3 := putB_len9 (v := x.toNat) (by omega)
    rw [encs_cons, List.length_append, List.length_cons]
    omega
theorem encs_take (xs : List Int) (k : Nat) (h : k < xs.length) : encs (xs.take (k + 1)) = encs (xs.take k) ++ putB xs[k].toNat := by
  rw [List.take_succ_eq_append_getElem h, encs_append]
  simp [encs]
theorem encs_take_len (xs : List Int) (k : Nat) (h : okInts xs) : (encs (xs.take k)).length ≤ 9 * xs.length := by
  have h1 := encs_len (xs.take k) (fun y hy => h y (List.mem_of_mem_take hy))
  have h2 : (xs.take k).length ≤ xs.length := List.length_take_le' _ _
  omega

theorem ofInt_u8 (a : Nat) (ha : a < 256) : (BitVec.ofInt 8 (a : Int)).toNat = a := by
  rw [BitVec.ofInt_natCast, BitVec.toNat_ofNat]; exact Nat.mod_eq_of_lt (by omega)
theorem u8_and_127 (a : Nat) (ha : a < 256) : bits .and .u8 (a : Int) 127 = ((a % 128 : Nat) : Int) := by
  have h : bits .and .u8 (a : Int) ((127 : Nat) : Int) = ((a &&& 127 : Nat) : Int) := by
    have hx : a &&& 127 < 2 ^ 8 := Nat.and_lt_two_pow _ (by omega)
    show IntKind.u8.wrap ((BitVec.ofInt 8 (a : Int) &&& BitVec.ofInt 8 ((127 : Nat) : Int)).toNat : Int) = _
    rw [BitVec.toNat_and, ofInt_u8 a ha, ofInt_u8 127 (by omega), IntKind.wrap_u8]
    omega
  rw [show a &&& 127 = a % 128 from Nat.and_two_pow_sub_one_eq_mod a 7] at h
  exact h
open Go.RowKit in
/-- 'v |= int(c&127) << (7*i)'. -/
theorem take_step (v a k : Nat) (hv : v < 2 ^ (7 * k)) (ha : a < 256) (hk : k < 9) :
    bits .or .i64 (v : Int) (wrap64 (wrap64 (bits .and .u8 (a : Int) 127) * 2 ^ (7 * k))) = ((v + (a % 128) * 2 ^ (7 * k) : Nat) : Int) := by
  have hm : a % 128 < 128 := Nat.mod_lt _ (by decide)
  have hp : 2 ^ (7 * k) ≤ 2 ^ 56 := Nat.pow_le_pow_right (by decide) (by omega)
  have hb : (a % 128) * 2 ^ (7 * k) ≤ 127 * 2 ^ 56 := Nat.mul_le_mul (by omega) hp
  rw [u8_and_127 a ha]
  have e1 : wrap64 ((a % 128 : Nat) : Int) = ((a % 128 : Nat) : Int) := by unfold wrap64; omega
  rw [e1]
  have e2 : ((a % 128 : Nat) : Int) * 2 ^ (7 * k) = (((a % 128) * 2 ^ (7 * k) : Nat) : Int) := by
    rw [Int.natCast_mul, Int.natCast_pow]; rfl
  rw [e2]
  have e3 : wrap64 (((a % 128) * 2 ^ (7 * k) : Nat) : Int) = (((a % 128) * 2 ^ (7 * k) : Nat) : Int) := by unfold wrap64; omega
  rw [e3, i64_or_nat _ _ (by omega) (by omega)]
  have h := Nat.two_pow_add_eq_or_of_lt (i := 7 * k) (b := v) hv (a % 128)
  rw [Nat.or_comm, Nat.mul_comm (a % 128), ← h, Nat.add_comm]
theorem take_lt (v a k : Nat) (hv : v < 2 ^ (7 * k)) : v + (a % 128) * 2 ^ (7 * k) < 2 ^ (7 * (k + 1)) := by
  have hm : a % 128 < 128 := Nat.mod_lt _ (by decide)
  have hb : (a % 128) * 2 ^ (7 * k) ≤ 127 * 2 ^ (7 * k) := Nat.mul_le_mul (by omega) (Nat.le_refl _)
  have e : 2 ^ (7 * (k + 1)) = 128 * 2 ^ (7 * k) := by rw [show 7 * (k + 1) = 7 * k + 7 by omega, Nat.pow_add, Nat.mul_comm]
  omega
end Go.Proofs.YtggibajakcigaaaGreatDoor
namespace Go.Proofs.YtggibajakcigaaaGreatDoor
set_option linter.unusedVariables false
set_option linter.unusedSimpArgs false
open Go.RowKit
theorem u8_info : (Tryz.prog.info? 5).map (fun i => (i.zero, i.size, i.bytes)) = some (some (.int .u8 0), 1, 1) := by kernel_rfl

theorem etU8 : ET Tryz.prog 59 5 1 1 (.int .u8 0) := ⟨Tryz.underlying59, u8_info, rfl, by decide, by decide⟩

/-- What holds at each round's head of 'put''s loop. -/
def PutRel (x m y' : Nat) (cs : List UInt8) : Prop :=
  y' ≤ x ∧ cs.length = m ∧ m + (putB y').length = (putB x).length ∧ cs ++ putB y' = putB x
theorem PutRel.step {x m y' : Nat} {cs : List UInt8} (h : PutRel x m y' cs) (hy : 127 < y') :
    PutRel x (m + 1) (y' / 128) (cs ++ [UInt8.ofNat (y' % 128 + 128)]) := by
  obtain ⟨h1, h2, h3, h4⟩ := h
  have hp := putB_big hy
  rw [hp] at h3 h4
  refine ⟨by omega, by simp [h2], ?_, by simp [← h4]⟩
  simp at h3
  omega

set_option maxHeartbeats 400000 in
theorem put_any (base : Nat) (v : Value) (n : Nat) (bs : List UInt8) (x : Nat) (w : World) (hx : x ≤ 4611686018427387904) (hown : w.ownsRow base 5 1 v n (Lib.byteCells bs)) (hn : n ≤ 1099511627776) (hbase : base ≤ w.heap.size) :
    Calls Tryz.prog 69 #[v, .int .i64 (x : Int)] w fun e w' => ∃ v', e = .returned v' ∧ w'.ownsRow base 5 1 v' (n + (putB x).length) (Lib.byteCells (bs ++ putB x)) ∧ Keep (fun k => v.ownBlock ≠ some k) w w' ∧ Next w.heap.size v v' := by
  have hl9 := putB_len9 hx
  go_enter Tryz.func69, Tryz.ntmps69
  go_wp2
  go_loopw [0, 1] (fun b y wr => ∃ (m y' : Nat) (cs : List UInt8), y = .int .i64 (y' : Int) ∧ Hid (PutRel x m y' cs) ∧ wr.ownsRow base 5 1 b (n + m) (Lib.byteCells (bs ++ cs)) ∧ Keep (fun k => v.ownBlock ≠ some k) w wr ∧ Next w.heap.size v b) (fun _ y _ => (intOf y).toNat)
  case atStart => exact ⟨0, x, [], rfl, ⟨Nat.le_refl _, rfl, by simp, rfl⟩, by simpa using hown, Keep.refl _ _, Next.refl _ _⟩
  case round =>
    obtain ⟨m, y', cs, rfl, hp, ho, hk, hnx⟩ := hrel
    have hm : m + 1 ≤ 9 := by have := hp.out.2.2.1; have := putB_pos y'; omega
    have hy9 : y' < 9223372036854775808 := by have := hp.out.1; omega
    have HA := Lib.hid (i64_and_127 y' hy9)
    have HO := Lib.hid (i64_or_128 (y' % 128) (Nat.mod_lt _ (by decide)))
    have HB := Lib.hid (Nat.le_trans hbase hk.size)
    clear hy9 hx hl9 hown
    by_cases h : 127 < y'
    · go_wp2_with (at_builtin; refine wpList_app1 etU8 rfl (.tmp 7) (.tmp 12) rfl _ _ rfl base _ (n + m) _ rfl rfl ho ?_ HB.out ?_)
      case refine_2 =>
        intro v1 w1 ho1 hk1 hn1
        rw [HA.out, HO.out] at ho1
        have ho2 : w1.ownsRow base 5 1 v1 (n + (m + 1)) (Lib.byteCells (bs ++ (cs ++ [UInt8.ofNat (y' % 128 + 128)]))) := by
          have e : Lib.byteCells (bs ++ (cs ++ [UInt8.ofNat (y' % 128 + 128)])) = Lib.byteCells (bs ++ cs) ++ [Value.int .u8 (((y' % 128 + 128 : Nat) : Int) % 256)] := by
            simp only [Lib.byteCells, List.map_append, List.map_cons, List.map_nil, List.append_assoc]
            rw [u8_toNat _ (by omega)]
            congr 4
            omega
          rw [e]
          exact ho1
        have hk2 := hk.next hk1 hnx
        have hn2 := hnx.trans hn1 hk.size
        have hp2 := Lib.hid (hp.out.step h)
        clear ho1 ho hk hnx hp HA HO HB hk1 hn1
        go_wp2
        exact ⟨⟨m + 1, y' / 128, _, congrArg _ (by omega), hp2, ho2, hk2, hn2⟩, by simp [intOf]; omega⟩
      · omega
    · go_wp2_with (at_builtin; refine wpList_app1 etU8 rfl (.tmp 16) (.tmp 19) rfl _ _ rfl base _ (n + m) _ rfl rfl ho ?_ HB.out ?_)
      case refine_2 =>
        intro v1 w1 ho1 hk1 hn1
        have hk2 := hk.next hk1 hnx
        have hn2 := hnx.trans hn1 hk.size
        have ho2 : w1.ownsRow base 5 1 v1 (n + (putB x).length) (Lib.byteCells (bs ++ putB x)) := by
          obtain ⟨_, h2, h3, h4⟩ := hp.out
          have e1 : putB y' = [UInt8.ofNat y'] := putB_small (by omega)
          rw [e1] at h3 h4
          have e2 : Lib.byteCells (bs ++ putB x) = Lib.byteCells (bs ++ cs) ++ [Value.int .u8 (y' : Int)] := by
            rw [← h4]
            simp only [Lib.byteCells, List.map_append, List.map_cons, List.map_nil, List.append_assoc]
            rw [u8_toNat _ (by omega)]
          rw [e2, ← h3]
          exact ho1
        clear ho1 ho hk hnx hp HA HO HB hk1 hn1
        go_wp2
        go_ret
        exact ⟨v1, rfl, ho2, hk2, hn2⟩
      · omega

/-- 'PutInt' of a number that is none. -/
theorem PutInt_bad (b : Value) (x : Int) (w : World) (hx : x < 0 ∨ 4611686018427387904 < x) :
    Calls Tryz.prog 55 #[b, .int .i64 x] w fun e w' => e = .returned (.tuple #[.slice none 0 0, .int .i64 1]) ∧ w = w' := by
  rcases hx with hx | hx
  · go_enter Tryz.func55, Tryz.ntmps55
    go_wp2
    go_ret2
    exact ⟨rfl, rfl⟩
  · have h0 : ¬ x < 0 := by omega
    go_enter Tryz.func55, Tryz.ntmps55
    go_wp2
    go_ret2
    exact ⟨rfl, rfl⟩


theorem put_int (base : Nat) (v : Value) (n : Nat) (bs : List UInt8) (x : Int) (w : World) (h0 : 0 ≤ x) (hx : x ≤ 4611686018427387904) (hown : w.ownsRow base 5 1 v n (Lib.byteCells bs)) (hn : n ≤ 1099511627776) (hbase : base ≤ w.heap.size) :
    Calls Tryz.prog 69 #[v, .int .i64 x] w fun e w' => ∃ v', e = .returned v' ∧ w'.ownsRow base 5 1 v' (n + (putB x.toNat).length) (Lib.byteCells (bs ++ putB x.toNat)) ∧ Keep (fun k => v.ownBlock ≠ some k) w w' ∧ Next w.heap.size v v' := by
  obtain ⟨k, rfl⟩ := Int.eq_ofNat_of_zero_le h0
  exact put_any base v n bs k w (by omega) hown hn hbase

set_option maxHeartbeats 400000 in
theorem PutInt_any (Z : Nat → Prop) (A : Option Addr) (n c : Nat) (bs : List UInt8) (x : Int) (w : World) (h0 : 0 ≤ x) (hx : x ≤ 4611686018427387904) (hb : Rd w Z 1 A n (Lib.byteCells bs)) (hn : n ≤ 1099511627770) :
    Calls Tryz.prog 55 #[.slice A n c, .int .i64 x] w fun e w' => ∃ g c', e = .returned (.tuple #[.slice (some ⟨g, 0, none⟩) (n + (putB x.toNat).length) c', .int .i64 0]) ∧ w'.ownsRow w.heap.size 5 1 (.slice (some ⟨g, 0, none⟩) (n + (putB x.toNat).length) c') (n + (putB x.toNat).length) (Lib.byteCells (bs ++ putB x.toNat)) ∧ Fresh w w' ∧ w.heap.size ≤ g := by
  have hlen : bs.length = n := by simpa [Lib.byteCells] using hb.1
  have HL := Lib.hid hlen
  clear hlen
  have HX := Lib.hid (And.intro h0 hx)
  have g0 : ¬ x < 0 := by omega
  have g1 : ¬ (4611686018427387904 : Int) < x := by omega
  clear h0 hx
  go_enter Tryz.func55, Tryz.ntmps55
  go_wp2_with (at_make; refine wpList_makeN etU8 rfl rfl (.tmp 14) (.tmp 17) rfl w.heap.size .i64 .i64 _ _ n (n + 9) rfl rfl rfl (by omega) (by omega) (by omega) (Nat.le_refl _) ?_)
  intro w1 ho1 hk1 hs1
  have hb1 := hb.keep (hk1.weaken (fun _ _ _ => trivial))
  go_wp2_with (refine wpList_copyN etU8 rfl (.tmp 19) (.tmp 20) rfl w.heap.size w.heap.size n (n + 9) _ rfl ho1 Z A n c _ rfl hb1 (Nat.le_refl _) (bcs_one _) ?_)
  intro w2 ho2 hk2
  have hs2 : w.heap.size ≤ w2.heap.size := Nat.le_trans hk1.size hk2.size
  have hk12 : Fresh w w2 := hk1.comp hk2 (fun _ _ h => h) (fun i hi _ => by omega)
  clear ho1 hb1 hb hs1
  go_wp2_with fail
  refine (put_int w.heap.size _ n bs x _ HX.out.1 HX.out.2 ho2 (by omega) hs2).mono ?_
  rintro e w3 ⟨v3, rfl, ho3, hk3, hn3⟩
  have hk13 : Fresh w w3 := hk12.comp hk3 (fun _ _ h => h) (fun i hi _ => by simp [Value.ownBlock]; omega)
  have hpos := putB_pos x.toNat
  obtain ⟨g3, c3, rfl, hg3, _⟩ := own_form ho3 (by omega)
  clear hk1 hk2 hk12 hk3 hn3 ho2 HX HL hpos
  go_wp2
  go_ret2
  exact ⟨g3, c3, rfl, ho3, hk13, hg3⟩
end Go.Proofs.YtggibajakcigaaaGreatDoor
namespace Go.Proofs.YtggibajakcigaaaGreatDoor
set_option linter.unusedVariables false
set_option linter.unusedSimpArgs false

/-- A text as it is written: its length, its bytes. -/
def txt (s : List UInt8) : List UInt8 := putB s.length ++ s
/-- Read a number off the bytes l, i bytes of it read already, v so far: (number, bytes read, error). -/
def takeGo : Nat → List UInt8 → Nat → Nat → Nat × Nat × Int
  | 0, _, _, _ => (0, 0, 14)
  | _ + 1, [], _, _ => (0, 0, 10)
  | f + 1, c :: r, i, v =>
    if 127 < c.toNat then takeGo f r (i + 1) (v + (c.toNat % 128) * 2 ^ (7 * i))
    else if (c.toNat = 0 ∧ 0 < i) ∨ 4611686018427387904 < v + (c.toNat % 128) * 2 ^ (7 * i) then (0, 0, 14)
    else (v + (c.toNat % 128) * 2 ^ (7 * i), i + 1, 0)
def takeB (l : List UInt8) : Nat × Nat × Int := takeGo 9 l 0 0
theorem takeGo_cons (f : Nat) (l : List UInt8) (p i v : Nat) (h : p < l.length) : takeGo (f + 1) (l.drop p) i v =
    if 127 < l[p].toNat then takeGo f (l.drop (p + 1)) (i + 1) (v + (l[p].toNat % 128) * 2 ^ (7 * i))
    else if (l[p].toNat = 0 ∧ 0 < i) ∨ 4611686018427387904 < v + (l[p].toNat % 128) * 2 ^ (7 * i) then (0, 0, 14)
    else (v + (l[p].toNat % 128) * 2 ^ (7 * i), i + 1, 0) := by
  rw [List.drop_eq_getElem_cons h]; rfl
theorem takeGo_end (f : Nat) (l : List UInt8) (p i v : Nat) (h : l.length ≤ p) : takeGo (f + 1) (l.drop p) i v = (0, 0, 10) := by
  rw [List.drop_of_length_le h]; rfl
/-- What 'count' does: the number, the place, is it amiss? -/
def rCount (bs : List UInt8) (p : Nat) (bad : Bool) (most : Int) : Nat × Nat × Bool :=
  if bad = true ∨ (takeB (bs.drop p)).2.2 ≠ 0 ∨ most < ((takeB (bs.drop p)).1 : Int) then (0, p, true) else ((takeB (bs.drop p)).1, p + (takeB (bs.drop p)).2.1, false)
/-- What 'text' does: the text, the place, is it amiss? -/
def rText (bs : List UInt8) (p : Nat) (bad : Bool) (most : Int) : List UInt8 × Nat × Bool :=
  if (rCount bs p bad most).2.2 = true ∨ bs.length < (rCount bs p bad most).2.1 + (rCount bs p bad most).1 then ([], (rCount bs p bad most).2.1, true)
  else ((bs.drop (rCount bs p bad most).2.1).take (rCount bs p bad most).1, (rCount bs p bad most).2.1 + (rCount bs p bad most).1, false)
theorem takeGo_le : ∀ (f : Nat) (l : List UInt8) (i v : Nat), (takeGo f l i v).2.2 = 0 → (takeGo f l i v).2.1 ≤ i + l.length := by
  intro f
  induction f with
  | zero => intro l i v h; simp [takeGo] at h
  | succ f ih =>
    intro l i v h
    cases l with
    | nil => simp [takeGo] at h
    | cons c r =>
      simp only [takeGo] at h ⊢
      split
      · rename_i hc
        rw [if_pos hc] at h
        have := ih r (i + 1) _ h
        simp only [List.length_cons]
        omega
      · rename_i hc
        rw [if_neg hc] at h
        split
        · simp
        · simp only [List.length_cons]; omega
theorem rCount_le (bs : List UInt8) (p : Nat) (bad : Bool) (most : Int) (hp : p ≤ bs.length) : (rCount bs p bad most).2.1 ≤ bs.length := by
  unfold rCount
  split
  · exact hp
  · rename_i h
    have h2 : (takeB (bs.drop p)).2.2 = 0 := by
      rcases Classical.em ((takeB (bs.drop p)).2.2 = 0) with h1 | h1
      · exact h1
      · exact absurd (.inr (.inl h1)) h
    have := takeGo_le 9 (bs.drop p) 0 0 h2
    rw [List.length_drop] at this
    show p + (takeB (bs.drop p)).2.1 ≤ _
    unfold takeB
    omega
theorem rText_le (bs : List UInt8) (p : Nat) (bad : Bool) (most : Int) (hp : p ≤ bs.length) : (rText bs p bad most).2.1 ≤ bs.length := by
  have := rCount_le bs p bad most hp
  unfold rText
  split
  · exact this
  · rename_i h
    show _ + _ ≤ _
    have h2 : ¬ (bs.length < (rCount bs p bad most).2.1 + (rCount bs p bad most).1) := fun h2 => h (.inr h2)
    omega
theorem toNat_ofNat (a : Nat) (h : a < 256) : (UInt8.ofNat a).toNat = a := by rw [UInt8.toNat_ofNat', Nat.mod_eq_of_lt h]
theorem ofNat_toNat (c : UInt8) : UInt8.ofNat c.toNat = c := by simp
theorem takeGo_put : ∀ (f x i v : Nat) (r : List UInt8), x < 128 ^ (f + 1) → (x ≠ 0 ∨ i = 0) → v + x * 2 ^ (7 * i) ≤ 4611686018427387904 →
    takeGo (f + 1) (putB x ++ r) i v = (v + x * 2 ^ (7 * i), i + (putB x).length, 0) := by
  intro f
  induction f with
  | zero =>
    intro x i v r hx hi hv
    rw [putB_small (by omega)]
    have e : (UInt8.ofNat x).toNat = x := toNat_ofNat x (by omega)
    have e2 : x % 128 = x := Nat.mod_eq_of_lt (by omega)
    simp only [List.cons_append, List.nil_append, takeGo, e, e2, List.length_cons, List.length_nil]
    rw [if_neg (by omega), if_neg (by omega)]
  | succ f ih =>
    intro x i v r hx hi hv
    by_cases hs : x ≤ 127
    · rw [putB_small hs]
      have e : (UInt8.ofNat x).toNat = x := toNat_ofNat x (by omega)
      have e2 : x % 128 = x := Nat.mod_eq_of_lt (by omega)
      simp only [List.cons_append, List.nil_append, takeGo, e, e2, List.length_cons, List.length_nil]
      rw [if_neg (by omega), if_neg (by omega)]
    · rw [putB_big (by omega)]
      have e : (UInt8.ofNat (x % 128 + 128)).toNat = x % 128 + 128 := toNat_ofNat _ (by omega)
      have e2 : (x % 128 + 128) % 128 = x % 128 := by omega
      have e3 : v + x % 128 * 2 ^ (7 * i) + x / 128 * 2 ^ (7 * (i + 1)) = v + x * 2 ^ (7 * i) := by
        have h7 : 2 ^ (7 * (i + 1)) = 128 * 2 ^ (7 * i) := by rw [show 7 * (i + 1) = 7 * i + 7 by omega, Nat.pow_add, Nat.mul_comm]
        rw [h7, ← Nat.mul_assoc, Nat.add_assoc, ← Nat.add_mul, show x % 128 + x / 128 * 128 = x by omega]
      have h1 := ih (x / 128) (i + 1) (v + x % 128 * 2 ^ (7 * i)) r (by rw [Nat.pow_succ] at hx; omega) (.inl (by omega)) (by rw [e3]; exact hv)
      rw [List.cons_append, takeGo, e, if_pos (by omega), e2, h1, e3]
      simp only [List.length_cons]
      rw [show i + 1 + (putB (x / 128)).length = i + ((putB (x / 128)).length + 1) by omega]
theorem takeB_put (x : Nat) (r : List UInt8) (hx : x ≤ 4611686018427387904) : takeB (putB x ++ r) = (x, (putB x).length, 0) := by
  have h := takeGo_put 8 x 0 0 r (by omega) (.inr rfl) (by omega)
  simpa [takeB] using h
theorem takeGo_inv : ∀ (f : Nat) (l : List UInt8) (i v y k : Nat), takeGo f l i v = (y, k, 0) →
    ∃ x r, l = putB x ++ r ∧ k = i + (putB x).length ∧ y = v + x * 2 ^ (7 * i) ∧ (x ≠ 0 ∨ i = 0) ∧ y ≤ 4611686018427387904 := by
  intro f
  induction f with
  | zero => intro l i v y k h; simp [takeGo] at h
  | succ f ih =>
    intro l i v y k h
    cases l with
    | nil => simp [takeGo] at h
    | cons c r =>
      rw [takeGo] at h
      have hc : c.toNat < 256 := c.toNat_lt
      split at h
      · rename_i hb
        obtain ⟨x, r', rfl, hk, hy, hx, hm⟩ := ih r (i + 1) _ y k h
        have hx0 : x ≠ 0 := by omega
        have hbig : 127 < c.toNat % 128 + 128 * x := by omega
        refine ⟨c.toNat % 128 + 128 * x, r', ?_, ?_, ?_, .inl (by omega), hm⟩
        · rw [putB_big hbig, show (c.toNat % 128 + 128 * x) % 128 + 128 = c.toNat by omega, show (c.toNat % 128 + 128 * x) / 128 = x by omega, ofNat_toNat]
          rfl
        · rw [putB_big hbig, show (c.toNat % 128 + 128 * x) / 128 = x by omega, List.length_cons]
          omega
        · have h7 : 2 ^ (7 * (i + 1)) = 128 * 2 ^ (7 * i) := by rw [show 7 * (i + 1) = 7 * i + 7 by omega, Nat.pow_add, Nat.mul_comm]
          rw [hy, h7, Nat.add_mul, Nat.add_assoc, ← Nat.mul_assoc, Nat.mul_comm x 128]
      · rename_i hb
        have e2 : c.toNat % 128 = c.toNat := Nat.mod_eq_of_lt (by omega)
        split at h
        · simp at h
        · rename_i hn
          simp only [Prod.mk.injEq, and_true] at h
          obtain ⟨hy, hk⟩ := h
          rw [e2] at hy hn
          refine ⟨c.toNat, r, ?_, ?_, hy.symm, ?_, by omega⟩
          · rw [putB_small (by omega), ofNat_toNat]; rfl
          · rw [putB_small (by omega)]; simp; omega
          · rcases Nat.eq_zero_or_pos i with h0 | h0
            · exact .inr h0
            · exact .inl (fun hz => hn (.inl ⟨hz, h0⟩))
theorem takeB_inv {l : List UInt8} {y k : Nat} (h : takeB l = (y, k, 0)) : ∃ r, l = putB y ++ r ∧ k = (putB y).length ∧ y ≤ 4611686018427387904 := by
  obtain ⟨x, r, hl, hk, hy, _, hm⟩ := takeGo_inv 9 l 0 0 y k h
  have : y = x := by simpa using hy
  subst this
  exact ⟨r, hl, by omega, hm⟩
theorem drop_next {bs a X : List UInt8} {p : Nat} (h : bs.drop p = a ++ X) : bs.drop (p + a.length) = X := by
  rw [← List.drop_drop, h]; simp
theorem count_put {bs X : List UInt8} {p x : Nat} {most : Int} (h : bs.drop p = putB x ++ X) (hx : x ≤ 4611686018427387904) (hm : (x : Int) ≤ most) : rCount bs p false most = (x, p + (putB x).length, false) := by
  rw [rCount, h, takeB_put x X hx, if_neg]
  rintro (h | h | h)
  · cases h
  · exact h rfl
  · exact absurd h (by show ¬ (most < (x : Int)); omega)
theorem count_inv {bs : List UInt8} {p : Nat} {bad : Bool} {most : Int} (h : (rCount bs p bad most).2.2 = false) :
    bad = false ∧ ((rCount bs p bad most).1 : Int) ≤ most ∧ (rCount bs p bad most).1 ≤ 4611686018427387904 ∧ (rCount bs p bad most).2.1 = p + (putB (rCount bs p bad most).1).length ∧ bs.drop p = putB (rCount bs p bad most).1 ++ bs.drop (rCount bs p bad most).2.1 := by
  unfold rCount at h ⊢
  split at h
  · cases h
  · rename_i hn
    rw [if_neg hn]
    have hb : bad = false := by
      cases bad
      · rfl
      · exact absurd (.inl rfl) hn
    have he : (takeB (bs.drop p)).2.2 = 0 := Classical.byContradiction fun he => hn (.inr (.inl he))
    have hm : ¬ (most < ((takeB (bs.drop p)).1 : Int)) := fun hm => hn (.inr (.inr hm))
    obtain ⟨r, hl, hk, hy⟩ := takeB_inv (l := bs.drop p) (y := (takeB (bs.drop p)).1) (k := (takeB (bs.drop p)).2.1) (by rw [← he])
    refine ⟨hb, by show _ ≤ _; omega, hy, by show p + _ = _; rw [hk], ?_⟩
    have h2 := drop_next hl
    show bs.drop p = putB (takeB (bs.drop p)).1 ++ bs.drop (p + (takeB (bs.drop p)).2.1)
    rw [hk, h2]
    exact hl
theorem text_put {bs X s : List UInt8} {p : Nat} {most : Int} (h : bs.drop p = txt s ++ X) (hx : s.length ≤ 4611686018427387904) (hm : (s.length : Int) ≤ most) : rText bs p false most = (s, p + (txt s).length, false) := by
  have h1 : bs.drop p = putB s.length ++ (s ++ X) := by rw [h, txt, List.append_assoc]
  have hc := count_put h1 hx hm
  have h2 := drop_next h1
  have hl : p + (putB s.length).length + s.length ≤ bs.length := by
    have h3 := congrArg List.length h2
    rw [List.length_drop, List.length_append] at h3
    rcases Nat.eq_zero_or_pos s.length with h0 | h0
    · have h4 := congrArg List.length h1
      rw [List.length_drop, List.length_append] at h4
      have := putB_pos s.length
      omega
    · omega
  rw [rText, hc, if_neg (by rintro (h | h); cases h; dsimp only at h; omega)]
  show ((bs.drop (p + (putB s.length).length)).take s.length, p + (putB s.length).length + s.length, false) = _
  rw [h2, List.take_left]
  simp only [txt, List.length_append]
  rw [Nat.add_assoc]
theorem text_inv {bs : List UInt8} {p : Nat} {bad : Bool} {most : Int} (h : (rText bs p bad most).2.2 = false) :
    bad = false ∧ ((rText bs p bad most).1.length : Int) ≤ most ∧ (rText bs p bad most).2.1 = p + (txt (rText bs p bad most).1).length ∧ bs.drop p = txt (rText bs p bad most).1 ++ bs.drop (rText bs p bad most).2.1 := by
  unfold rText at h ⊢
  split at h
  · cases h
  · rename_i hn
    rw [if_neg hn]
    have hb : (rCount bs p bad most).2.2 = false := by
      cases hb : (rCount bs p bad most).2.2
      · rfl
      · exact absurd (.inl hb) hn
    have hl : ¬ (bs.length < (rCount bs p bad most).2.1 + (rCount bs p bad most).1) := fun hm => hn (.inr hm)
    obtain ⟨h1, h2, h3, h4, h5⟩ := count_inv hb
    generalize rCount bs p bad most = q at *
    have hlen : ((bs.drop q.2.1).take q.1).length = q.1 := by simp; omega
    have ht : txt ((bs.drop q.2.1).take q.1) = putB q.1 ++ (bs.drop q.2.1).take q.1 := by rw [txt, hlen]
    dsimp only
    refine ⟨h1, by omega, ?_, ?_⟩
    · rw [ht, List.length_append, hlen, h4]; omega
    · rw [ht, h5, List.append_assoc]
      congr 1
      rw [← List.drop_drop]
      exact (List.take_append_drop _ _).symm
theorem putB_one {v : Nat} (h : v ≤ 127) : (putB v).length = 1 := by rw [putB_small h]; rfl
/-- The document's next count: the number, the place, what was amiss. -/
def nNum (bs : List UInt8) (p : Nat) (e lo hi : Int) : Nat × Nat × Int :=
  if e ≠ 0 then (0, p, e)
  else if (takeB (bs.drop p)).2.2 ≠ 0 then (0, p, (takeB (bs.drop p)).2.2)
  else if ((takeB (bs.drop p)).1 : Int) < lo ∨ hi < ((takeB (bs.drop p)).1 : Int) then (0, p + (takeB (bs.drop p)).2.1, 16)
  else ((takeB (bs.drop p)).1, p + (takeB (bs.drop p)).2.1, 0)
/-- The document's next list of bytes. -/
def nByt (bs : List UInt8) (p : Nat) (e hi : Int) : List UInt8 × Nat × Int :=
  if (nNum bs p e 0 hi).2.2 ≠ 0 then ([], (nNum bs p e 0 hi).2.1, (nNum bs p e 0 hi).2.2)
  else if bs.length < (nNum bs p e 0 hi).2.1 + (nNum bs p e 0 hi).1 then ([], (nNum bs p e 0 hi).2.1, 10)
  else ((bs.drop (nNum bs p e 0 hi).2.1).take (nNum bs p e 0 hi).1, (nNum bs p e 0 hi).2.1 + (nNum bs p e 0 hi).1, 0)
theorem nNum_stick {bs : List UInt8} {p : Nat} {e lo hi : Int} (h : e ≠ 0) : nNum bs p e lo hi = (0, p, e) := by rw [nNum, if_pos h]
theorem nNum_le (bs : List UInt8) (p : Nat) (e lo hi : Int) (hp : p ≤ bs.length) : (nNum bs p e lo hi).2.1 ≤ bs.length := by
  have h1 : (takeB (bs.drop p)).2.2 = 0 → p + (takeB (bs.drop p)).2.1 ≤ bs.length := fun h2 => by
    have := takeGo_le 9 (bs.drop p) 0 0 h2
    rw [List.length_drop] at this
    unfold takeB
    omega
  unfold nNum
  split
  · exact hp
  · split
    · exact hp
    · rename_i h2
      have h3 := h1 (Classical.not_not.1 h2)
      split
      · exact h3
      · exact h3
theorem nByt_le (bs : List UInt8) (p : Nat) (e hi : Int) (hp : p ≤ bs.length) : (nByt bs p e hi).2.1 ≤ bs.length := by
  have := nNum_le bs p e 0 hi hp
  unfold nByt
  split
  · exact this
  · split
    · exact this
    · show _ + _ ≤ _
      omega
theorem count_of_num {bs : List UInt8} {p v p' : Nat} {lo hi most : Int} (h : nNum bs p 0 lo hi = (v, p', 0)) (hm : hi ≤ most) : rCount bs p false most = (v, p', false) ∧ lo ≤ (v : Int) ∧ (v : Int) ≤ hi := by
  unfold nNum at h
  rw [if_neg (by simp)] at h
  split at h
  · rename_i h1
    injection h with _ h
    injection h with _ h
    exact absurd h h1
  · rename_i h1
    split at h
    · injection h with _ h
      injection h with _ h
      exact absurd h (by decide)
    · rename_i h2
      injection h with e1 h
      injection h with e2 _
      refine ⟨?_, by omega, by omega⟩
      rw [rCount, if_neg (by rintro (h3 | h3 | h3); exact absurd h3 (by decide); exact h1 h3; omega), e1, e2]
theorem num_of_count {bs : List UInt8} {p : Nat} {bad : Bool} {lo hi most : Int} (h : (rCount bs p bad most).2.2 = false) (h1 : lo ≤ ((rCount bs p bad most).1 : Int)) (h2 : ((rCount bs p bad most).1 : Int) ≤ hi) :
    nNum bs p 0 lo hi = ((rCount bs p bad most).1, (rCount bs p bad most).2.1, 0) ∧ bad = false := by
  unfold rCount at h h1 h2 ⊢
  split at h
  · cases h
  · rename_i hc
    rw [if_neg hc] at h1 h2 ⊢
    have h3 : (takeB (bs.drop p)).2.2 = 0 := Classical.not_not.1 fun h3 => hc (.inr (.inl h3))
    refine ⟨?_, ?_⟩
    · rw [nNum, if_neg (by simp), if_neg (by simpa using h3), if_neg (by omega)]
    · cases bad with
      | false => rfl
      | true => exact absurd (.inl rfl) hc
theorem text_of_byt {bs l : List UInt8} {p p' : Nat} {hi : Int} (h : nByt bs p 0 hi = (l, p', 0)) : rText bs p false hi = (l, p', false) := by
  unfold nByt at h
  split at h
  · rename_i h1
    injection h with _ h
    injection h with _ h
    exact absurd h h1
  · rename_i h1
    obtain ⟨q, hq⟩ : ∃ q, q = nNum bs p 0 0 hi := ⟨_, rfl⟩
    rw [← hq] at h h1
    obtain ⟨v, p1, e1⟩ := q
    obtain rfl : e1 = 0 := Classical.not_not.1 h1
    obtain ⟨hc, _, _⟩ := count_of_num hq.symm (Int.le_refl hi)
    split at h
    · injection h with _ h
      injection h with _ h
      exact absurd h (by decide)
    · rename_i h2
      injection h with e1 h
      injection h with e2 _
      dsimp only at e1 e2 h2
      rw [rText, hc, if_neg (by rintro (h3 | h3); simp at h3; exact h2 h3)]
      dsimp only
      rw [e1, e2]
theorem byt_of_text {bs : List UInt8} {p : Nat} {bad : Bool} {hi : Int} (h : (rText bs p bad hi).2.2 = false) : nByt bs p 0 hi = ((rText bs p bad hi).1, (rText bs p bad hi).2.1, 0) ∧ bad = false := by
  unfold rText at h ⊢
  split at h
  · cases h
  · rename_i hc
    rw [if_neg hc]
    have h1 : (rCount bs p bad hi).2.2 = false := by
      cases hb : (rCount bs p bad hi).2.2 with
      | false => rfl
      | true => exact absurd (.inl hb) hc
    have hle : ((rCount bs p bad hi).1 : Int) ≤ hi := by
      unfold rCount at h1 ⊢
      split at h1
      · cases h1
      · rename_i h3
        rw [if_neg h3]
        dsimp only
        have : ¬ hi < ((takeB (bs.drop p)).1 : Int) := fun h4 => h3 (.inr (.inr h4))
        omega
    obtain ⟨h2, hb⟩ := num_of_count (lo := 0) h1 (by omega) hle
    refine ⟨?_, hb⟩
    rw [nByt, h2, if_neg (by simp), if_neg (fun h5 => hc (.inr h5))]
end Go.Proofs.YtggibajakcigaaaGreatDoor
namespace Go.Proofs.YtggibajakcigaaaGreatDoor
set_option linter.unusedVariables false
set_option linter.unusedSimpArgs false
open Go.RowKit
/-- What TakeInt hands back. -/
def TakeRes (p : Nat) (r : Nat × Nat × Int) (e : Ending) : Prop := e = .returned (.tuple #[.int .i64 (r.1 : Int), .int .i64 (if r.2.2 = 0 then ((p + r.2.1 : Nat) : Int) else 0), .int .i64 r.2.2])

set_option maxHeartbeats 400000 in
theorem TakeInt_in (Z : Nat → Prop) (A : Option Addr) (n c : Nat) (bs : List UInt8) (p : Nat) (w : World) (hp : p ≤ n) (hb : Rd w Z 1 A n (Lib.byteCells bs)) (hn : n ≤ 1099511627770) :
    Calls Tryz.prog 53 #[.slice A n c, .int .i64 (p : Int)] w fun e w' => TakeRes p (takeB (bs.drop p)) e ∧ w = w' := by
  have HB := Lib.hid hb
  have hlen : bs.length = n := by simpa [Lib.byteCells] using hb.1
  have HN := Lib.hid hlen
  clear hlen hb
  have h0 : ¬ (p : Int) < 0 := by omega
  have h1 : ¬ (n : Int) < (p : Int) := by omega
  go_enter Tryz.func53, Tryz.ntmps53
  go_wp2
  go_loop [7, 18] (fun v i => ∃ (k : Nat) (y : Int), k ≤ 9 ∧ i = .int .i64 (k : Int) ∧ v = .int .i64 y ∧ Hid (∃ v' : Nat, y = (v' : Int) ∧ p + k ≤ n ∧ v' < 2 ^ (7 * k) ∧ takeGo (9 - k) (bs.drop (p + k)) k v' = takeB (bs.drop p))) (fun _ i => 9 - (intOf i).toNat)
  case atStart => exact ⟨0, 0, by omega, rfl, rfl, 0, rfl, by omega, by decide, rfl⟩
  case round =>
    obtain ⟨k, y, hk, rfl, rfl, HR⟩ := hrel
    obtain ⟨v', hy, hpk, hv', hgo⟩ := HR.out
    by_cases hk9 : k < 9
    · obtain ⟨f, hf⟩ : ∃ f, 9 - k = f + 1 := ⟨8 - k, by omega⟩
      rw [hf] at hgo
      by_cases hin : p + k < n
      · obtain ⟨b, o, rfl, hzb, hll, hcell⟩ := HB.out.at1 hin
        have hkb : p + k < bs.length := by rw [HN.out]; exact hin
        rw [show (Lib.byteCells bs)[p + k] = .int .u8 (bs[p + k].toNat : Int) by simp [Lib.byteCells]] at hcell
        rw [takeGo_cons f bs (p + k) k v' hkb] at hgo
        obtain ⟨ch, hch⟩ : ∃ ch : UInt8, ch = bs[p + k] := ⟨_, rfl⟩
        rw [← hch] at hcell hgo
        obtain ⟨cz, hcz⟩ : ∃ cz : Int, cz = (ch.toNat : Int) := ⟨_, rfl⟩
        have hE := take_step v' ch.toNat k hv' ch.toNat_lt hk9
        have hlt := take_lt v' ch.toNat k hv'
        have hz63 : v' + (ch.toNat % 128) * 2 ^ (7 * k) < 2 ^ 63 := Nat.lt_of_lt_of_le hlt (Nat.pow_le_pow_right (by decide) (by omega))
        obtain ⟨z, hz⟩ : ∃ z : Nat, z = v' + (ch.toNat % 128) * 2 ^ (7 * k) := ⟨_, rfl⟩
        obtain ⟨zi, hzi⟩ : ∃ zi : Int, zi = (z : Int) := ⟨_, rfl⟩
        rw [← hz] at hgo hlt hz63 hE
        rw [← hy, ← hcz, ← hzi] at hE
        rw [← hcz] at hcell
        have hc0 : 0 ≤ cz := by omega
        have hc256 : cz < 256 := by have := ch.toNat_lt; omega
        have g0 : 0 ≤ zi := by omega
        have HE := Lib.hid hE
        have HH := Lib.hid (And.intro hcz (And.intro hzi (And.intro hlt (And.intro hz63 (And.intro hgo hf)))))
        clear hzb hll hch hcz hE hlt hz63 hz hzi hgo hv' hpk hy hf HR
        go_upto_region 11 with (fail)
        rw [HE.out]
        have HV := Lib.hid HH.out
        by_cases hbig : 127 < cz
        · have hfin : ∃ v' : Nat, zi = (v' : Int) ∧ p + (k + 1) ≤ n ∧ v' < 2 ^ (7 * (k + 1)) ∧ takeGo (9 - (k + 1)) (bs.drop (p + (k + 1))) (k + 1) v' = takeB (bs.drop p) := by
            obtain ⟨hcz, hzi, hlt, _, hgo, hf⟩ := HV.out
            rw [if_pos (by omega)] at hgo
            refine ⟨z, hzi, by omega, hlt, ?_⟩
            rw [show 9 - (k + 1) = f by omega, show p + (k + 1) = p + k + 1 by omega]
            exact hgo
          have HF := Lib.hid hfin
          clear hfin HV HH HE
          go_wp2
          exact ⟨⟨k + 1, zi, by omega, congrArg _ (by omega), rfl, HF.out⟩, by simp [intOf]; omega⟩
        · by_cases hzero : cz = 0 ∧ 0 < k
          · obtain ⟨rfl, hk0⟩ := hzero
            have hfin : TakeRes p (takeB (bs.drop p)) (.returned (.tuple #[.int .i64 0, .int .i64 0, .int .i64 14])) := by
              obtain ⟨hcz, hzi, hlt, _, hgo, hf⟩ := HV.out
              rw [if_neg (by omega), if_pos (.inl ⟨by omega, hk0⟩)] at hgo
              rw [← hgo]; rfl
            have HF := Lib.hid hfin
            clear hfin HV HH HE
            go_wp2
            go_ret3
            exact ⟨HF.out, rfl⟩
          · by_cases hbz : (4611686018427387904 : Int) < zi
            · have hfin : TakeRes p (takeB (bs.drop p)) (.returned (.tuple #[.int .i64 0, .int .i64 0, .int .i64 14])) := by
                obtain ⟨hcz, hzi, hlt, _, hgo, hf⟩ := HV.out
                rw [if_neg (by omega), if_pos (.inr (by omega))] at hgo
                rw [← hgo]; rfl
              have HF := Lib.hid hfin
              clear hfin HV HH HE
              by_cases hc00 : cz = 0
              · obtain rfl : k = 0 := by omega
                subst hc00
                go_wp2
                go_ret3
                exact ⟨HF.out, rfl⟩
              · go_wp2
                go_ret3
                exact ⟨HF.out, rfl⟩
            · have hfin : TakeRes p (takeB (bs.drop p)) (.returned (.tuple #[.int .i64 zi, .int .i64 ((p : Int) + (k : Int) + 1), .int .i64 0])) := by
                obtain ⟨hcz, hzi, hlt, _, hgo, hf⟩ := HV.out
                rw [if_neg (by omega), if_neg (by omega)] at hgo
                rw [← hgo]
                unfold TakeRes
                rw [hzi]
                simp
                omega
              have HF := Lib.hid hfin
              clear hfin HV HH HE
              by_cases hc00 : cz = 0
              · obtain rfl : k = 0 := by omega
                subst hc00
                go_wp2
                go_ret3
                exact ⟨HF.out, rfl⟩
              · go_wp2
                go_ret3
                exact ⟨HF.out, rfl⟩
      · have hfin : TakeRes p (takeB (bs.drop p)) (.returned (.tuple #[.int .i64 0, .int .i64 0, .int .i64 10])) := by
          rw [takeGo_end f bs (p + k) k v' (by rw [HN.out]; omega)] at hgo
          rw [← hgo]; rfl
        have HF := Lib.hid hfin
        clear hfin hgo hf hv' hpk HR hy
        go_wp2
        go_ret3
        exact ⟨HF.out, rfl⟩
    · obtain rfl : k = 9 := by omega
      have hfin : TakeRes p (takeB (bs.drop p)) (.returned (.tuple #[.int .i64 0, .int .i64 0, .int .i64 14])) := by
        rw [← hgo]; rfl
      have HF := Lib.hid hfin
      clear hfin hgo hv' hpk HR hy
      go_wp2
      go_ret3
      exact ⟨HF.out, rfl⟩
end Go.Proofs.YtggibajakcigaaaGreatDoor
namespace Go.Proofs.YtggibajakcigaaaGreatDoor
set_option linter.unusedVariables false
set_option linter.unusedSimpArgs false
open Go.RowKit
/-- Block g is a reader of the bytes at A, at place p. -/
def Rdr (w : World) (g : Nat) (A : Option Addr) (n c p : Nat) (bad : Bool) : Prop := Blk w g 87 #[.slice A n c, .int .i64 (p : Int), .bool bad]
theorem Rdr.spoilt {w : World} {g : Nat} {A : Option Addr} {n c p : Nat} {bad : Bool} (h : Rdr w g A n c p bad) (k : Nat) : Rdr ((w.drewN k).setCell ⟨g, 2, none⟩ (.bool true)) g A n c p true := by
  simpa [Rdr] using (Blk.drewN h k).set 2 (.bool true)
theorem Rdr.goes {w : World} {g : Nat} {A : Option Addr} {n c p : Nat} {bad : Bool} (h : Rdr w g A n c p bad) (k p' : Nat) : Rdr ((w.drewN k).setCell ⟨g, 1, none⟩ (.int .i64 (p' : Int))) g A n c p' bad := by
  simpa [Rdr] using (Blk.drewN h k).set 1 (.int .i64 (p' : Int))
theorem keep_step (g i k : Nat) (w : World) (u : Value) : Keep (fun k => k ≠ g) w ((w.drewN k).setCell ⟨g, i, none⟩ u) := ((Keep.refl _ w).drewN k).setCell (fun _ h => h rfl) u
/-- What is said behind 'count'. -/
def CountPost (g : Nat) (A : Option Addr) (n c : Nat) (w : World) (r : Nat × Nat × Bool) (e : Ending) (w' : World) : Prop :=
  e = .returned (.int .i64 (r.1 : Int)) ∧ Rdr w' g A n c r.2.1 r.2.2 ∧ Keep (fun k => k ≠ g) w w'

set_option maxHeartbeats 400000 in
theorem rcount_any (g : Nat) (Z : Nat → Prop) (A : Option Addr) (n c : Nat) (bs : List UInt8) (p : Nat) (bad : Bool) (most : Int) (w : World) (hg : Rdr w g A n c p bad) (hp : p ≤ n) (hb : Rd w Z 1 A n (Lib.byteCells bs)) (hn : n ≤ 1099511627770) :
    Calls Tryz.prog 29 #[.pointer (some ⟨g, 0, none⟩), .int .i64 most] w fun e w' => CountPost g A n c w (rCount bs p bad most) e w' := by
  have c0 := hg.cell 0
  have c1 := hg.cell 1
  have c2 := hg.cell 2
  have f1 := hg.frozen 1
  have f2 := hg.frozen 2
  simp at c0 c1 c2
  obtain ⟨r, hr⟩ : ∃ r, r = takeB (bs.drop p) := ⟨_, rfl⟩
  have hT := fun k => TakeInt_in Z A n c bs p (w.drewN k) hp (hb.drewN k) hn
  rw [← hr] at hT
  have HT := Lib.hid hT
  have HG := Lib.hid hg
  have HR := Lib.hid hr
  clear hT hg hr hb
  obtain ⟨rv, rl, re⟩ := r
  cases bad with
  | true =>
    go_enter Tryz.func29, Tryz.ntmps29
    go_wp2_with fail
    go_quiet ((go_at_call 53; exact quiet_left (HT.out _)))
    go_wp2_with fail
    all_goals
      go_ret
      refine ⟨ret_int (by simp [rCount]), ?_, keep_step _ _ _ _ _⟩
      have := HG.out.spoilt nq
      simpa [rCount] using this
  | false =>
    by_cases he : re = 0
    · subst he
      by_cases hm : most < (rv : Int)
      · go_enter Tryz.func29, Tryz.ntmps29
        go_wp2_with fail
        go_quiet ((go_at_call 53; exact quiet_left (HT.out _)))
        go_wp2_with fail
        go_ret
        have e1 : rCount bs p false most = (0, p, true) := by rw [rCount, if_pos (.inr (.inr (by rw [← HR.out]; exact hm)))]
        rw [e1]
        exact ⟨rfl, HG.out.spoilt nq, keep_step _ _ _ _ _⟩
      · go_enter Tryz.func29, Tryz.ntmps29
        go_wp2_with fail
        go_quiet ((go_at_call 53; exact quiet_left (HT.out _)))
        go_wp2_with fail
        go_ret
        have e1 : rCount bs p false most = (rv, p + rl, false) := by
          rw [rCount, ← HR.out]
          rw [if_neg (by simp; omega)]
        rw [e1]
        exact ⟨rfl, by simpa using HG.out.goes nq (p + rl), keep_step _ _ _ _ _⟩
    · go_enter Tryz.func29, Tryz.ntmps29
      go_wp2_with fail
      go_quiet ((go_at_call 53; exact quiet_left (HT.out _)))
      go_wp2_with fail
      go_ret
      have e1 : rCount bs p false most = (0, p, true) := by rw [rCount, if_pos (.inr (.inl (by rw [← HR.out]; exact he)))]
      rw [e1]
      exact ⟨rfl, HG.out.spoilt nq, keep_step _ _ _ _ _⟩

def TextPost (g : Nat) (A : Option Addr) (n c : Nat) (w : World) (r : List UInt8 × Nat × Bool) (e : Ending) (w' : World) : Prop :=
  e = .returned (.string ⟨r.1.toArray⟩) ∧ Rdr w' g A n c r.2.1 r.2.2 ∧ Keep (fun k => k ≠ g) w w'
set_option maxHeartbeats 400000 in
theorem rtext_any (g : Nat) (Z : Nat → Prop) (A : Option Addr) (n c : Nat) (bs : List UInt8) (p : Nat) (bad : Bool) (most : Int) (w : World) (hg : Rdr w g A n c p bad) (hz : ∀ k, Z k → k ≠ g) (hp : p ≤ n) (hnc : n ≤ c) (hb : Rd w Z 1 A n (Lib.byteCells bs)) (hn : n ≤ 1099511627770) :
    Calls Tryz.prog 54 #[.pointer (some ⟨g, 0, none⟩), .int .i64 most] w fun e w' => TextPost g A n c w (rText bs p bad most) e w' := by
  have hC := rcount_any g Z A n c bs p bad most w hg hp hb hn
  have hle := rCount_le bs p bad most (by have : bs.length = n := by simpa [Lib.byteCells] using hb.1
                                          omega)
  have hlen : bs.length = n := by simpa [Lib.byteCells] using hb.1
  obtain ⟨r, hr⟩ : ∃ r, r = rCount bs p bad most := ⟨_, rfl⟩
  have hT : rText bs p bad most = if r.2.2 = true ∨ bs.length < r.2.1 + r.1 then ([], r.2.1, true) else ((bs.drop r.2.1).take r.1, r.2.1 + r.1, false) := by rw [hr]; rfl
  rw [← hr] at hC hle
  obtain ⟨t, ht⟩ : ∃ t, t = rText bs p bad most := ⟨_, rfl⟩
  rw [← ht] at hT ⊢
  clear ht
  obtain ⟨rv, rp, rb⟩ := r
  dsimp only at hC hle hT
  have HC := Lib.hid hC
  have HN := Lib.hid (And.intro hlen (And.intro hle (And.intro hr hT)))
  have HB := Lib.hid hb
  clear hC hle hlen hr hT hg hb
  go_enter Tryz.func54, Tryz.ntmps54
  go_wp2_with fail
  refine HC.out.mono ?_
  rintro e w1 ⟨rfl, hg1, hk1⟩
  have hb1 := HB.out.keep (hk1.weaken (fun k _ hk => hz k hk))
  have c0 := hg1.cell 0
  have c1 := hg1.cell 1
  have c2 := hg1.cell 2
  have f1 := hg1.frozen 1
  have f2 := hg1.frozen 2
  simp at c0 c1 c2
  have HG := Lib.hid (And.intro hg1 (And.intro hk1 hb1))
  clear hg1 hk1 hb1
  cases rb with
  | true =>
    go_wp2_with fail
    go_quiet (fail)
    go_wp2_with fail
    go_ret
    obtain ⟨_, _, _, hT⟩ := HN.out
    rw [if_pos (by simp)] at hT
    rw [hT]
    exact ⟨rfl, HG.out.1.spoilt _, HG.out.2.1.comp (keep_step g 2 _ w1 _) (fun _ _ h => h) (fun _ _ h => h)⟩
  | false =>
    obtain ⟨hlen, hle, _, hT⟩ := HN.out
    have hpn : rp ≤ n := by omega
    by_cases hbig : (n : Int) - (rp : Int) < (rv : Int)
    · have hlt : bs.length < rp + rv := by omega
      rw [if_pos (.inr hlt)] at hT
      have HL := Lib.hid hT
      clear hlt hlen hle hT HN
      go_wp2_with fail
      go_quiet (fail)
      go_wp2_with fail
      go_ret
      rw [HL.out]
      exact ⟨rfl, HG.out.1.spoilt _, HG.out.2.1.comp (keep_step g 2 _ w1 _) (fun _ _ h => h) (fun _ _ h => h)⟩
    · have hlt : rp + rv ≤ n := by omega
      rw [if_neg (by rintro (h | h); exact absurd h (by decide); omega)] at hT
      have HL := Lib.hid hT
      clear hlen hle hT HN
      go_wp2_with fail
      go_quiet (fail)
      go_wp2_with fail
      have hcut : ∀ k, Sem.run Tryz.prog (convert 59 9 (.slice (if c = rp then A else Option.map (fun x => x.add rp) A) rv (c - rp))) (w1.drewN k) = .ok (.string ⟨((bs.drop rp).take rv).toArray⟩) (w1.drewN k) := fun k => by
        have h1 := (HG.out.2.2.drewN k).cut1 hlt hnc
        rw [byteCells_cut] at h1
        exact run_conv_str Tryz.underlying59 Tryz.underlying5 Tryz.underlying9 h1 (c - rp)
      go_quiet (fail)
      have HX := Lib.hid hcut
      clear hcut
      go_wp2_with fail
      go_ret
      · rename_i h
        rw [HL.out]
        rw [show TextPost g A n rp w = TextPost g A n c w by rw [h]]
        exact ⟨rfl, by simpa using HG.out.1.goes _ (rp + rv), HG.out.2.1.comp (keep_step g 1 _ w1 _) (fun _ _ h => h) (fun _ _ h => h)⟩
      · go_ret
        rw [HL.out]
        exact ⟨rfl, by simpa using HG.out.1.goes _ (rp + rv), HG.out.2.1.comp (keep_step g 1 _ w1 _) (fun _ _ h => h) (fun _ _ h => h)⟩


set_option maxHeartbeats 400000 in
theorem rsound_any (g : Nat) (A : Option Addr) (n c p : Nat) (bad : Bool) (w : World) (hg : Rdr w g A n c p bad) :
    Calls Tryz.prog 33 #[.pointer (some ⟨g, 0, none⟩)] w fun e w' => e = .returned (.bool (!bad && decide (p = n))) ∧ ∃ k, w' = w.drewN k := by
  have c0 := hg.cell 0
  have c1 := hg.cell 1
  have c2 := hg.cell 2
  simp at c0 c1 c2
  clear hg
  go_enter Tryz.func33, Tryz.ntmps33
  cases bad with
  | true =>
    go_wp2_with fail
    go_quiet (fail)
    go_wp2_with fail
    go_ret
    exact ⟨by simp, _, rfl⟩
  | false =>
    go_wp2_with fail
    go_quiet (fail)
    go_wp2_with fail
    go_ret
    exact ⟨ret_bool (by rw [Bool.eq_iff_iff]; simp; exact Int.ofNat_inj), _, rfl⟩

end Go.Proofs.YtggibajakcigaaaGreatDoor
