/-
  MERGED: Base Row HistPlain GrpD QuorD Rise MacD
-/
import Derived.Test.YtohnmaindbgngaaGreatDoorRows
import Derived.WalkKit
import Derived.WalkSpells
import Derived.WalkLawsBesides
import Derived.ProofKit
import Derived.BigQuiet
import Derived.Lib.Hide
import Derived.Lib.UnsafeStr
import Derived.Maps.AppendAt
import Derived.Deep.AppendLies
import Derived.Laws.CopyOwn
import Derived.OneCell
import Derived.Deep.DeepCutAuto
import Derived.Deep.DeepFit
import Derived.Lib.AppendStr
import Derived.Laws.ResultCell
import Derived.Laws.Rows
import Derived.Deep.DeepAppendRoom
import Derived.Deep.RegionLaw
import Derived.WideAt
import Derived.WideShapes
namespace Go.Proofs.YtohnmaindbgngaaGreatDoor
set_option linter.unusedVariables false
set_option linter.unusedSimpArgs false
open Go.RowKit

/-! ### what a call leaves alone -/
/-- All blocks of w that meet Z are in w' as they were; none has gone. -/
structure Keep (Z : Nat → Prop) (w w' : World) : Prop where
  os : w'.os = w.os
  tape : w'.tape = w.tape
  output : w'.output = w.output
  size : w.heap.size ≤ w'.heap.size
  block : ∀ k, k < w.heap.size → Z k → w'.heap[k]? = w.heap[k]?
/-- Nothing that was there has turned. -/
abbrev Fresh (w w' : World) : Prop := Keep (fun _ => True) w w'

section
variable {Z Z' : Nat → Prop} {a b c w w' : World}
theorem Keep.refl (Z : Nat → Prop) (w : World) : Keep Z w w := ⟨rfl, rfl, rfl, Nat.le_refl _, fun _ _ _ => rfl⟩
theorem Keep.trans (h : Keep Z a b) (k : Keep Z b c) : Keep Z a c :=
  ⟨k.os.trans h.os, k.tape.trans h.tape, k.output.trans h.output, Nat.le_trans h.size k.size, fun i hi hz => (k.block i (Nat.lt_of_lt_of_le hi h.size) hz).trans (h.block i hi hz)⟩
theorem Keep.weaken (h : Keep Z a b) (hz : ∀ k, k < a.heap.size → Z' k → Z k) : Keep Z' a b := ⟨h.os, h.tape, h.output, h.size, fun k hk hzk => h.block k hk (hz k hk hzk)⟩
/-- Two steps, each leaving its own alone. -/
theorem Keep.comp {Y : Nat → Prop} (h : Keep Z a b) (k : Keep Z' b c) (h1 : ∀ i, i < a.heap.size → Y i → Z i) (h2 : ∀ i, i < a.heap.size → Y i → Z' i) : Keep Y a c :=
  ⟨k.os.trans h.os, k.tape.trans h.tape, k.output.trans h.output, Nat.le_trans h.size k.size, fun i hi hy => (k.block i (Nat.lt_of_lt_of_le hi h.size) (h2 i hi hy)).trans (h.block i hi (h1 i hi hy))⟩
theorem Keep.drew (h : Keep Z a w) : Keep Z a w.drew := ⟨h.os, h.tape, h.output, h.size, h.block⟩
theorem Keep.drewN (h : Keep Z a w) (n : Nat) : Keep Z a (w.drewN n) := ⟨h.os, h.tape, h.output, h.size, h.block⟩
theorem Keep.alloc (h : Keep Z a w) (o : Obj) : Keep Z a (w.alloc o) :=
  ⟨h.os, h.tape, h.output, Nat.le_trans h.size (by simp), fun k hk hz => (Below.heap_alloc w o k (Nat.lt_of_lt_of_le hk h.size)).trans (h.block k hk hz)⟩
theorem Keep.setCell (h : Keep Z a w) {p : Addr} (hp : p.block < a.heap.size → ¬ Z p.block) (u : Value) : Keep Z a (w.setCell p u) :=
  ⟨h.os, h.tape, h.output, by simpa [World.setCell] using h.size, fun k hk hz => (Below.heap_setCell w p u k (by rintro rfl; exact hp hk hz)).trans (h.block k hk hz)⟩
theorem Keep.of_grown {row : Option Nat} (h : w.grownBy w' row) : Keep (fun k => row ≠ some k) w w' := ⟨h.os, h.tape, h.output, h.size, fun k hk hz => h.block k hk (fun e => hz e.symm)⟩
theorem Keep.below {B : Nat} (h : Keep Z w w') (hz : ∀ k, k < B → Z k) (hB : B ≤ w.heap.size) : Below B w w' := ⟨h.os, h.tape, h.output, h.size, fun k hk => h.block k (by omega) (hz k hk)⟩
theorem Fresh.below (h : Fresh w w') : Below w.heap.size w w' := Keep.below h (fun _ _ => trivial) (Nat.le_refl _)
theorem Fresh.of_below (h : Below w.heap.size w w') : Fresh w w' := ⟨h.os, h.tape, h.output, h.size, fun k hk _ => h.block k hk⟩
theorem Keep.cell (h : Keep Z w w') {p : Addr} (hp : p.block < w.heap.size) (hz : Z p.block) : w'.cell? p = w.cell? p := World.cell?_of_block (w := w) (h.block p.block hp hz)
theorem Keep.frozen (h : Keep Z w w') {p : Addr} (hp : p.block < w.heap.size) (hz : Z p.block) : w'.frozen? p = w.frozen? p := World.frozen?_of_block (w := w) (h.block p.block hp hz)
theorem lt_of_cell {p : Addr} {v : Value} (h : w.cell? p = some v) : p.block < w.heap.size := by
  rcases Nat.lt_or_ge p.block w.heap.size with hlt | hge
  · exact hlt
  · simp [World.cell?, Array.getElem?_eq_none hge] at h
theorem Keep.cellAt (h : Keep Z w w') {p : Addr} {v : Value} (hc : w.cell? p = some v) (hz : Z p.block) : w'.cell? p = some v := (h.cell (lt_of_cell hc) hz).trans hc
end

/-! ### a slice that reads as a list of cells -/
/-- The slice value '.slice A n c' reads as the cells xs ('size' cells an element); its block meets Z. -/
def Rd (w : World) (Z : Nat → Prop) (size : Nat) (A : Option Addr) (n : Nat) (xs : List Value) : Prop :=
  xs.length = n * size ∧ (0 < n → ∃ b o, A = some ⟨b, o, none⟩ ∧ Z b ∧ ∀ j u, xs[j]? = some u → w.cell? ⟨b, o + j, none⟩ = some u)
section
variable {Z Z' : Nat → Prop} {w w' : World} {size n : Nat} {A : Option Addr} {xs : List Value}
theorem Rd.nil (w : World) (Z : Nat → Prop) (size : Nat) (A : Option Addr) : Rd w Z size A 0 [] := ⟨by simp, fun h => absurd h (by omega)⟩
theorem Rd.keep (h : Rd w Z size A n xs) (hk : Keep Z w w') : Rd w' Z size A n xs :=
  ⟨h.1, fun hn => by
    obtain ⟨b, o, e, hb, hc⟩ := h.2 hn
    exact ⟨b, o, e, hb, fun j u hu => hk.cellAt (hc j u hu) hb⟩⟩
theorem Rd.weaken (h : Rd w Z size A n xs) (hz : ∀ k, Z k → Z' k) : Rd w Z' size A n xs :=
  ⟨h.1, fun hn => by
    obtain ⟨b, o, e, hb, hc⟩ := h.2 hn
    exact ⟨b, o, e, hz b hb, hc⟩⟩
theorem Rd.at1 {k : Nat} (h : Rd w Z 1 A n xs) (hk : k < n) : ∃ b o, A = some ⟨b, o, none⟩ ∧ Z b ∧ ∃ (hl : k < xs.length), w.cell? ⟨b, o + k, none⟩ = some xs[k] := by
  obtain ⟨b, o, e, hb, hc⟩ := h.2 (by omega)
  have hl : k < xs.length := by have := h.1; omega
  exact ⟨b, o, e, hb, hl, hc k _ (List.getElem?_eq_getElem hl)⟩
end

/-! ### bytes and numbers as cells -/
theorem bcs_get (l : List UInt8) (k : Nat) (h : k < l.length) : (Lib.byteCells l)[k]? = some (.int .u8 (l[k].toNat : Int)) := by simp [Lib.byteCells, h]
def ics (l : List Int) : List Value := l.map (Value.int .i64)
theorem ics_get (l : List Int) (k : Nat) (h : k < l.length) : (ics l)[k]? = some (.int .i64 l[k]) := by simp [ics, h]
theorem bcs_one (l : List UInt8) : ∀ u ∈ Lib.byteCells l, u.oneCell' = true := by
  intro u hu
  obtain ⟨c, _, rfl⟩ := List.mem_map.1 hu
  rfl
theorem ics_one (l : List Int) : ∀ u ∈ ics l, u.oneCell' = true := by
  intro u hu
  obtain ⟨c, _, rfl⟩ := List.mem_map.1 hu
  rfl
theorem ret_int {k : IntKind} {a b : Int} (h : a = b) : Ending.returned (.int k a) = .returned (.int k b) := by rw [h]
theorem ret_bool {a b : Bool} (h : a = b) : Ending.returned (.bool a) = .returned (.bool b) := by rw [h]

/-! ### append, for the walk -/
/-- A slice type's row of the table: elements of 'size' cells, of 'bytes' bytes. -/
structure ET (P : Program) (t e : TypeId) (size bytes : Nat) (z : Value) : Prop where
  ht : P.underlying t = some (.slice e)
  hi : (P.info? e).map (fun i => (i.zero, i.size, i.bytes)) = some (some z, size, bytes)
  hz : z.cells.size = size
  hs : 0 < size
  hb : 0 < bytes
/-- The new slice lies where the old one lay, or in a block that is new. -/
def Next (B : Nat) (v v' : Value) : Prop := v'.ownBlock = v.ownBlock ∨ ∃ g, v'.ownBlock = some g ∧ B ≤ g
theorem Next.refl (B : Nat) (v : Value) : Next B v v := .inl rfl
section
variable {P : Program} {w : World} {t e : TypeId} {size bytes : Nat} {z : Value}
theorem run_app (E : ET P t e size bytes z) (ty : TypeId) {base : Nat} {v : Value} {n : Nat} {xs : List Value} (hown : w.ownsRow base e size v n xs) {Z : Nat → Prop} {A : Option Addr} {m c : Nat} {news : List Value} (hr : Rd w Z size A m news)
    (hnil : m = 0 → c = 0 ∨ A ≠ none) (h1 : ∀ u ∈ news, u.oneCell' = true) (hb : (n + m) * bytes ≤ 140737488355328) (hbase : base ≤ w.heap.size) :
    ∃ v' w', (Builtin.append_ #[t, t] ty #[v, .slice A m c]).run P w = .ok v' w' ∧ w'.ownsRow base e size v' (n + m) (xs ++ news) ∧ Keep (fun k => v.ownBlock ≠ some k) w w' ∧ (v'.ownBlock = v.ownBlock ∨ v'.ownBlock = some w.heap.size) := by
  obtain ⟨i, hi, hz1, hz2, hz3⟩ := info_parts E.hi
  rcases A with _ | ad
  · have hm : m = 0 := by
      rcases Nat.eq_zero_or_pos m with h0 | h0
      · exact h0
      · obtain ⟨_, _, h, _⟩ := hr.2 h0
        cases h
    subst hm
    have hn : news = [] := List.eq_nil_of_length_eq_zero (by simpa using hr.1)
    subst hn
    refine ⟨v, w, ?_, by simpa using hown, Keep.refl _ _, .inl rfl⟩
    rcases hown.2 with ⟨rfl, rfl⟩ | ⟨g, cap, cur, rfl, _, _, hnc, _⟩
    · simp [Builtin.append_, run_underlying E.ht, sizeOf, typeInfo, hi, Builtin.lenOf, Builtin.firstCells]
    · simp [Builtin.append_, run_underlying E.ht, sizeOf, typeInfo, hi, Builtin.lenOf, Builtin.firstCells, hnc, storeCells]
  · have hcells : ∀ j u, news[j]? = some u → w.cell? (ad.add j) = some u := by
      intro j u hu
      rcases Nat.eq_zero_or_pos m with h0 | h0
      · subst h0
        have hn : news = [] := List.eq_nil_of_length_eq_zero (by simpa using hr.1)
        subst hn
        simp at hu
      · obtain ⟨b, o, h, _, hc⟩ := hr.2 h0
        injection h with h
        subst h
        have := hc j u hu
        unfold Addr.add
        split
        · rename_i hj; subst hj; simpa using this
        · exact this
    have h63 : n + m ≤ maxLen := by
      have h2 := E.hb
      have h3 : n + m ≤ (n + m) * bytes := Nat.le_mul_of_pos_right _ h2
      simp only [maxLen]
      omega
    obtain ⟨v', w', hrun, h2, h3, _, h5⟩ := run_append_own_at (P := P) w base t ty e i z size bytes E.ht hi hz1 hz2 hz3 E.hz E.hs v n xs hown ad m c news hr.1 hcells h1 h63 hb hbase
    exact ⟨v', w', hrun, h2, Keep.of_grown h3, h5⟩

theorem wpList_app (E : ET P t e size bytes z) {ops : Array Oper} {rest : List Oper} {o : Oper} {a : Act} {Q : Exit → Act → World → Prop} (hgd : o.guard = none) (s x : Operand)
    (ho : o.op = .call { callee := .builtin .append, args := #[s, x], argTypes := #[t, t] })
    (base : Nat) (v : Value) (n : Nat) (xs : List Value) (hs : a.eval s = v) (hown : w.ownsRow base e size v n xs) (Z : Nat → Prop) (A : Option Addr) (m c : Nat) (news : List Value) (hx : a.eval x = .slice A m c) (hr : Rd w Z size A m news)
    (hnil : m = 0 → c = 0 ∨ A ≠ none) (h1 : ∀ u ∈ news, u.oneCell' = true) (hb : (n + m) * bytes ≤ 140737488355328) (hbase : base ≤ w.heap.size)
    (h : ∀ v' w', w'.ownsRow base e size v' (n + m) (xs ++ news) → Keep (fun k => v.ownBlock ≠ some k) w w' → Next w.heap.size v v' → wpList P ops Q rest (a.put o.dst v') w') :
    wpList P ops Q (o :: rest) a w := by
  refine wpList_plain hgd fun K hK => ?_
  obtain ⟨v', w', hrun, h2, h3, h4⟩ := run_app E o.type hown hr hnil h1 hb hbase
  unfold Oper.wp execOp
  simp only [ho, resolve, invoke, builtin, Sem.run_bind, Sem.run_pure, Result.andThen_ok, List.map_toArray, List.map_cons, List.map_nil, hs, hx, hrun]
  exact hK _ _ (h v' w' h2 h3 (h4.imp id fun e => ⟨_, e, Nat.le_refl _⟩))

theorem Rd.one_new (w : World) (x : Value) (t : TypeId) : Rd (w.alloc (.cells #[x] t)) (fun _ => True) 1 (some ⟨w.heap.size, 0, none⟩) 1 [x] :=
  ⟨rfl, fun _ => ⟨_, _, rfl, trivial, fun j u hu => by
    match j, hu with
    | 0, hu =>
      simp at hu
      subst hu
      simp⟩⟩

/-- 'append(s, x)': the element has just been laid in a block of its own. -/
theorem wpList_app1 (E : ET P t e 1 bytes z) {ops : Array Oper} {rest : List Oper} {o : Oper} {a : Act} {Q : Exit → Act → World → Prop} (hgd : o.guard = none) (s x : Operand)
    (ho : o.op = .call { callee := .builtin .append, args := #[s, x], argTypes := #[t, t] }) (y : Value) (te : TypeId) (hy : y.oneCell' = true)
    (base : Nat) (v : Value) (n : Nat) (xs : List Value) (hs : a.eval s = v) (hx : a.eval x = .slice (some ⟨w.heap.size, 0, none⟩) 1 1) (hown : w.ownsRow base e 1 v n xs)
    (hb : (n + 1) * bytes ≤ 140737488355328) (hbase : base ≤ w.heap.size)
    (h : ∀ v' w', w'.ownsRow base e 1 v' (n + 1) (xs ++ [y]) → Keep (fun k => v.ownBlock ≠ some k) w w' → Next w.heap.size v v' → wpList P ops Q rest (a.put o.dst v') w') :
    wpList P ops Q (o :: rest) a (w.alloc (.cells #[y] te)) :=
  wpList_app E hgd s x ho base v n xs hs (hown.alloc _) _ _ 1 1 [y] hx (Rd.one_new w y te) (fun h => by cases h) (by simpa using hy) hb (by simp; omega) fun v' w' h1 h2 h3 =>
    h v' w' h1 (((Keep.refl _ w).alloc _).comp h2 (fun _ _ h => h) (fun _ _ h => h)) (h3.imp id fun ⟨g, hg, hl⟩ => ⟨g, hg, by simp at hl; omega⟩)

end

/-! ### a block that is known whole -/
def Blk (w : World) (g : Nat) (t : TypeId) (cs : Array Value) : Prop := w.heap[g]? = some (.cells cs t (0, 0))
section
variable {w w' : World} {g : Nat} {t : TypeId} {cs : Array Value}
theorem Blk.lt (h : Blk w g t cs) : g < w.heap.size := lt_of_block h
theorem Blk.cell (h : Blk w g t cs) (i : Nat) : w.cell? ⟨g, i, none⟩ = cs[i]? := cell_of_row w g i cs t (0, 0) h
theorem Blk.frozen (h : Blk w g t cs) (i : Nat) : w.frozen? ⟨g, i, none⟩ = false := by
  unfold Blk at h
  simp [World.frozen?, h]
theorem Blk.new (w : World) (t : TypeId) (cs : Array Value) : Blk (w.alloc (.cells cs t)) w.heap.size t cs := heap_alloc_new w _
theorem Blk.drew (h : Blk w g t cs) : Blk w.drew g t cs := h
theorem Blk.drewN (h : Blk w g t cs) (n : Nat) : Blk (w.drewN n) g t cs := h
theorem Blk.alloc (h : Blk w g t cs) (o : Obj) : Blk (w.alloc o) g t cs := (Below.heap_alloc w o g h.lt).trans h
theorem Blk.set (h : Blk w g t cs) (i : Nat) (u : Value) : Blk (w.setCell ⟨g, i, none⟩ u) g t (cs.setIfInBounds i u) := by
  unfold Blk at h ⊢
  simp [World.setCell, Array.getElem?_modify, h]
theorem Blk.far (h : Blk w g t cs) {p : Addr} (hp : g ≠ p.block) (u : Value) : Blk (w.setCell p u) g t cs := (Below.heap_setCell w p u g hp).trans h
theorem Blk.keep {Z : Nat → Prop} (h : Blk w g t cs) (hk : Keep Z w w') (hz : Z g) : Blk w' g t cs := (hk.block g h.lt hz).trans h
theorem Blk.ne {g' : Nat} {t' : TypeId} {cs' : Array Value} (h : Blk w g t cs) (h' : Blk w g' t' cs') (hne : t ≠ t') : g ≠ g' := by
  rintro rfl
  unfold Blk at h h'
  rw [h] at h'
  injection h' with h'
  injection h' with _ ht
  exact hne ht
end
section
variable {w w' : World} {base base' : Nat} {e : TypeId} {size n : Nat} {v : Value} {xs : List Value}
theorem own_ne_blk {g : Nat} {t : TypeId} {cs : Array Value} (h : w.ownsRow base e size v n xs) (hg : Blk w g t cs) (hne : e ≠ t) : v.ownBlock ≠ some g := by
  rcases h.2 with ⟨rfl, _⟩ | ⟨g', cap, cur, rfl, _, hh, _⟩
  · simp [Value.ownBlock]
  · intro he
    have : g' = g := by simpa [Value.ownBlock] using he
    subst this
    exact Blk.ne (t := e) hh hg hne rfl
theorem own_keep {Z : Nat → Prop} (h : w.ownsRow base e size v n xs) (hk : Keep Z w w') (hz : ∀ k, v.ownBlock = some k → Z k) : w'.ownsRow base e size v n xs := by
  refine ⟨h.1, ?_⟩
  rcases h.2 with hn | ⟨g, cap, cur, rfl, hb, hgg, rest⟩
  · exact .inl hn
  · exact .inr ⟨g, cap, cur, rfl, hb, (hk.block g (lt_of_block hgg) (hz g (by simp [Value.ownBlock]))).trans hgg, rest⟩
theorem own_base (h : w.ownsRow base e size v n xs) (hb : base' ≤ base) : w.ownsRow base' e size v n xs := by
  refine ⟨h.1, ?_⟩
  rcases h.2 with hn | ⟨g, cap, cur, rfl, hbg, rest⟩
  · exact .inl hn
  · exact .inr ⟨g, cap, cur, rfl, by omega, rest⟩
theorem own_far (h : w.ownsRow base e size v n xs) {p : Addr} (hp : v.ownBlock ≠ some p.block) (u : Value) : (w.setCell p u).ownsRow base e size v n xs := ownsRow_setCell_other h hp u
theorem own_lt (h : w.ownsRow base e size v n xs) {g : Nat} (hg : v.ownBlock = some g) : base ≤ g ∧ g < w.heap.size := by
  rcases h.2 with ⟨rfl, _⟩ | ⟨g', cap, cur, rfl, hb, hh, _⟩
  · simp [Value.ownBlock] at hg
  · simp [Value.ownBlock] at hg
    subst hg
    exact ⟨hb, lt_of_block hh⟩
/-- An owned slice, read. -/
theorem own_rd (h : w.ownsRow base e size v n xs) : ∃ A c, v = .slice A n c ∧ Rd w (fun k => v.ownBlock = some k) size A n xs ∧ (n = 0 → c = 0 ∨ A ≠ none) := by
  rcases h.2 with ⟨rfl, rfl⟩ | ⟨g, cap, cur, rfl, hb, hh, hn, hm, hs, ht⟩
  · have : xs = [] := List.eq_nil_of_length_eq_zero (by simpa using h.1)
    subst this
    exact ⟨none, 0, rfl, Rd.nil _ _ _ _, fun _ => .inl rfl⟩
  · refine ⟨_, _, rfl, ⟨h.1, fun _ => ⟨g, 0, rfl, by simp [Value.ownBlock], fun j u hu => ?_⟩⟩, fun _ => .inr (by simp)⟩
    rw [cell_of_row w g (0 + j) cur e (0, 0) hh]
    rw [← ht, List.getElem?_take] at hu
    split at hu
    · simpa using hu
    · cases hu
/-- An owned slice that is not empty, written out. -/
theorem own_form (h : w.ownsRow base e size v n xs) (hn : 0 < n) : ∃ g c, v = .slice (some ⟨g, 0, none⟩) n c ∧ base ≤ g ∧ g < w.heap.size := by
  rcases h.2 with ⟨rfl, rfl⟩ | ⟨g, cap, cur, rfl, hb, hh, _⟩
  · omega
  · exact ⟨g, cap, rfl, hb, lt_of_block hh⟩
end

/-! ### a string's bytes, appended -/
section
variable {P : Program} {w : World} {t u e : TypeId}
end

/-! ### quiet calls -/
theorem quiet_add_left {P : Program} {f : FuncId} {args : Array Value} {w : World} {a n : Nat} {v : Value}
    (h : Calls P f args (w.drewN (a + n)) fun e w' => e = .returned v ∧ w.drewN (a + n) = w') :
    Calls P f args (w.drewN (a + n)) fun e w'' => e = .returned v ∧ ∃ m, w'' = w.drewN (a + m) :=
  h.mono fun _ _ ⟨he, hm⟩ => ⟨he, n, hm.symm⟩
/-- A result that is a whole block, and one in a slot. -/
theorem results_blk {P : Program} {fn : Func} {p u : Tmp} {ty : TypeId} (h : fn.results = #[.cell p ty, .tmp u]) (tmps : Array Value) (w : World) (g : Nat) (t : TypeId) (cs : Array Value) (d : TypeDesc) (x : Value)
    (hp : tmps.getD p undef = .pointer (some ⟨g, 0, none⟩)) (hg : w.heap[g]? = some (.cells cs t (0, 0))) (hu : P.underlying ty = some d) (hd : (match d with | .struct _ | .array _ _ => true | _ => false) = true) (hi : (P.info? ty).map (·.size) = some cs.size)
    (hx : tmps.getD u undef = x) : (results fn tmps).run P w = .ok (.tuple #[.agg cs, x]) w := by
  rw [results_cell_tmp h, hp, hx]
  simp [asAddr, Result.andThen, run_loadVar_row w g t ty cs (0, 0) d hg hu hd hi]

/-! ### a cut of a slice; a string out of bytes -/
section
variable {Z : Nat → Prop} {w : World} {A : Option Addr} {n : Nat}
theorem run_conv_str {P : Program} {src dst e : TypeId} (hs : P.underlying src = some (.slice e)) (he : P.underlying e = some (.int .u8)) (hd : P.underlying dst = some .string) {bs : List UInt8} (h : Rd w Z 1 A n (Lib.byteCells bs)) (c : Nat) :
    (convert src dst (.slice A n c)).run P w = .ok (.string ⟨bs.toArray⟩) w := by
  have hl : bs.length = n := by simpa [Lib.byteCells] using h.1
  rcases A with _ | ad
  · have h0 : n = 0 := by
      rcases Nat.eq_zero_or_pos n with h0 | h0
      · exact h0
      · obtain ⟨_, _, h1, _⟩ := h.2 h0; cases h1
    subst h0
    obtain rfl : bs = [] := List.eq_nil_of_length_eq_zero hl
    exact run_convert_bytes_nil w src e hs he 0 c dst hd
  · have e1 : strOfNums (bs.map fun c => (c.toNat : Int)) = ⟨bs.toArray⟩ := by
      simp only [strOfNums, List.map_map]
      congr 2
      refine (List.map_congr_left fun x _ => ?_).trans (List.map_id bs)
      simp
    rcases Nat.eq_zero_or_pos n with h0 | h0
    · subst h0
      obtain rfl : bs = [] := List.eq_nil_of_length_eq_zero hl
      rw [run_convert_bytes_string w src dst e _ 0 c hs he hd, run_bytesToString w ad 0 c [] (run_loadCells_list (P := P) w ad [] (by simp))]
      rfl
    · obtain ⟨b, o, h1, _, hc⟩ := h.2 h0
      injection h1 with h1
      subst h1
      have := run_convert_bytes_arg (P := P) w src e hs he b o n c (bs.map fun c => (c.toNat : Int)) (by simpa using hl) (fun i hi => by
        have hib : i < bs.length := by omega
        rw [hc i _ (bcs_get bs i hib)]
        simp [List.getD, hib]) dst hd
      rw [this, e1]
end
theorem Blk.newAt {w : World} {k : Nat} {t : TypeId} {cs : Array Value} (h : w.heap.size = k) : Blk (w.alloc (.cells cs t)) k t cs := h ▸ Blk.new _ _ _
end Go.Proofs.YtohnmaindbgngaaGreatDoor
namespace Go.Proofs.YtohnmaindbgngaaGreatDoor
set_option linter.unusedVariables false
set_option linter.unusedSimpArgs false
open Go.RowKit
section
variable {w w' : World} {base : Nat} {e : TypeId} {size n m : Nat} {v : Value} {xs ys : List Value}
/-- A cell of an owned row is written. -/
theorem own_set (h : w.ownsRow base e size v n xs) {g i : Nat} (hg : v.ownBlock = some g) (hi : i < n * size) (u : Value) : (w.setCell ⟨g, i, none⟩ u).ownsRow base e size v n (xs.set i u) := by
  refine ⟨by rw [List.length_set]; exact h.1, ?_⟩
  rcases h.2 with ⟨rfl, _⟩ | ⟨g', cap, cur, rfl, hb, hh, hn, hm, hs, ht⟩
  · simp [Value.ownBlock] at hg
  · simp [Value.ownBlock] at hg
    subst hg
    refine .inr ⟨g', cap, cur.setIfInBounds i u, rfl, hb, ?_, hn, hm, by simpa using hs, ?_⟩
    · simp [World.setCell, Array.getElem?_modify, hh]
    · rw [Array.toList_setIfInBounds, List.take_set, ht]
theorem own_cell (h : w.ownsRow base e size v n xs) {g j : Nat} (hg : v.ownBlock = some g) {u : Value} (hu : xs[j]? = some u) : w.cell? ⟨g, j, none⟩ = some u := by
  rcases h.2 with ⟨rfl, _⟩ | ⟨g', cap, cur, rfl, hb, hh, hn, hm, hs, ht⟩
  · simp [Value.ownBlock] at hg
  · simp [Value.ownBlock] at hg
    subst hg
    rw [cell_of_row w g' j cur e (0, 0) hh]
    rw [← ht, List.getElem?_take] at hu
    split at hu
    · simpa using hu
    · cases hu
theorem Blk.rdOwn {g cap : Nat} (h : w.ownsRow base e size (.slice (some ⟨g, 0, none⟩) n cap) n xs) : Rd w (fun k => k = g) size (some ⟨g, 0, none⟩) n xs := by
  obtain ⟨A, c, hv, hr, _⟩ := own_rd h
  injection hv with hA
  rw [hA]
  exact hr.weaken fun k hk => by simp [Value.ownBlock] at hk; exact hk.symm
theorem own_frozen (h : w.ownsRow base e size v n xs) {g : Nat} (j : Nat) (hg : v.ownBlock = some g) : w.frozen? ⟨g, j, none⟩ = false := by
  rcases h.2 with ⟨rfl, _⟩ | ⟨g', cap, cur, rfl, hb, hh, hn, hm, hs, ht⟩
  · simp [Value.ownBlock] at hg
  · simp [Value.ownBlock] at hg
    subst hg
    simp [World.frozen?, hh]
/-- An owned row that is longer, cut. -/
theorem own_cut {g cap : Nat} (h : w.ownsRow base e size (.slice (some ⟨g, 0, none⟩) (n + m) cap) (n + m) (xs ++ ys)) (hx : xs.length = n * size) : w.ownsRow base e size (.slice (some ⟨g, 0, none⟩) n cap) n xs := by
  refine ⟨hx, ?_⟩
  rcases h.2 with ⟨hv, _⟩ | ⟨g', cap', cur, hv, hb, hh, hn, hm, hs, ht⟩
  · cases hv
  · cases hv
    refine .inr ⟨g, cap, cur, rfl, hb, hh, by omega, hm, hs, ?_⟩
    have h1 : cur.toList.take (n * size) = (cur.toList.take ((n + m) * size)).take (n * size) := by
      rw [List.take_take, Nat.min_eq_left (Nat.mul_le_mul_right _ (by omega))]
    rw [h1, ht, ← hx, List.take_left]
theorem own_nonnil (h : w.ownsRow base e size v n xs) (hn : 0 < n) : ∃ g cap, v = .slice (some ⟨g, 0, none⟩) n cap ∧ base ≤ g ∧ g < w.heap.size ∧ n ≤ cap := by
  rcases h.2 with ⟨rfl, rfl⟩ | ⟨g, cap, cur, rfl, hb, hh, hc, _⟩
  · omega
  · exact ⟨g, cap, rfl, hb, lt_of_block hh, hc⟩
end
section
variable {P : Program} {w : World} {t e : TypeId} {size bytes : Nat} {z : Value}
end
section
variable {P : Program} {w : World} {t e : TypeId} {size bytes : Nat} {z : Value}
/-- 'append' as a step of a region that draws its order. -/
theorem step_app (E : ET P t e size bytes z) {ops : Array Oper} {o : Oper} {a : Act} {K : Act → World → Prop} {Q : Exit → Act → World → Prop} {Els : Prop} (hgd : o.guard = none) (s x : Operand)
    (ho : o.op = .call { callee := .builtin .append, args := #[s, x], argTypes := #[t, t] })
    (base : Nat) (v : Value) (n : Nat) (xs : List Value) (hs : a.eval s = v) (hown : w.ownsRow base e size v n xs) (Z : Nat → Prop) (A : Option Addr) (m c : Nat) (news : List Value) (hx : a.eval x = .slice A m c) (hr : Rd w Z size A m news)
    (hnil : m = 0 → c = 0 ∨ A ≠ none) (h1 : ∀ u ∈ news, u.oneCell' = true) (hb : (n + m) * bytes ≤ 140737488355328) (hbase : base ≤ w.heap.size)
    (h : ∀ v' w', w'.ownsRow base e size v' (n + m) (xs ++ news) → Keep (fun k => v.ownBlock ≠ some k) w w' → Next w.heap.size v v' → K (a.put o.dst v') w') :
    if Region.wanted o (yielded ops a.tmps) = true then Oper.wp P o a w K Q else Els := by
  have hw : Region.wanted o (yielded ops a.tmps) = true := by simp [Region.wanted, hgd]
  rw [if_pos hw]
  obtain ⟨v', w', hrun, h2, h3, h4⟩ := run_app E o.type (c := c) hown hr hnil h1 hb hbase
  unfold Oper.wp execOp
  simp only [ho, resolve, invoke, builtin, Sem.run_bind, Sem.run_pure, Result.andThen_ok, List.map_toArray, List.map_cons, List.map_nil, hs, hx, hrun]
  exact h v' w' h2 h3 (h4.imp (fun h => h) fun e => ⟨_, e, Nat.le_refl _⟩)
end
/-! ### elements of several cells -/
section
variable {α : Type} (f : α → List Value)
def rcells (ps : List α) : List Value := ps.flatMap f
theorem rcells_nil : rcells f [] = [] := rfl
theorem rcells_cons (p : α) (ps : List α) : rcells f (p :: ps) = f p ++ rcells f ps := rfl
theorem rcells_append (ps qs : List α) : rcells f (ps ++ qs) = rcells f ps ++ rcells f qs := by simp [rcells]
variable {f} {c : Nat} (hc : ∀ a, (f a).length = c)
include hc
theorem rcells_len (ps : List α) : (rcells f ps).length = ps.length * c := by
  induction ps with
  | nil => simp [rcells]
  | cons p ps ih => rw [rcells_cons, List.length_append, ih, hc, List.length_cons, Nat.add_mul]; omega
theorem rcells_get : ∀ (ps : List α) (i : Nat) (hi : i < ps.length) (j : Nat), j < c → (rcells f ps)[i * c + j]? = (f ps[i])[j]?
  | p :: ps, 0, _, j, hj => by
    rw [rcells_cons, List.getElem?_append_left (by rw [hc]; omega)]
    simp
  | p :: ps, i + 1, hi, j, hj => by
    have e : (i + 1) * c + j - (f p).length = i * c + j := by rw [hc, Nat.add_mul]; omega
    rw [rcells_cons, List.getElem?_append_right (by rw [hc, Nat.add_mul]; omega), e]
    exact rcells_get ps i (by simpa using hi) j hj
theorem rcells_set : ∀ (ps : List α) (i : Nat) (hi : i < ps.length) (j : Nat) (u : Value) (q : α), j < c → f q = (f ps[i]).set j u → (rcells f ps).set (i * c + j) u = rcells f (ps.set i q)
  | p :: ps, 0, _, j, u, q, hj, hq => by
    rw [rcells_cons, List.set_cons_zero, rcells_cons, hq]
    rw [show 0 * c + j = j by omega, List.set_append_left _ _ (by rw [hc]; omega)]
    rfl
  | p :: ps, i + 1, hi, j, u, q, hj, hq => by
    have e : (i + 1) * c + j - (f p).length = i * c + j := by rw [hc, Nat.add_mul]; omega
    rw [rcells_cons, List.set_cons_succ, rcells_cons, List.set_append_right _ _ (by rw [hc, Nat.add_mul]; omega), e]
    rw [rcells_set ps i (by simpa using hi) j u q hj (by simpa using hq)]
end
/-- One element of several cells, in a block of its own. -/
theorem Rd.one_of {w : World} {g size : Nat} {t : TypeId} {cs : Array Value} (h : Blk w g t cs) (hs : cs.size = size) : Rd w (fun i => i = g) size (some ⟨g, 0, none⟩) 1 cs.toList :=
  ⟨by simp [hs], fun _ => ⟨g, 0, rfl, rfl, fun j u hu => by
    rw [h.cell (0 + j), Nat.zero_add]
    simpa using hu⟩⟩
end Go.Proofs.YtohnmaindbgngaaGreatDoor
namespace Go.Proofs.YtohnmaindbgngaaGreatDoor
set_option linter.unusedVariables false
set_option linter.unusedSimpArgs false
open Go.RowKit

structure CmdD where
  c : Int
  i : Int
  r : Int
  o : Int
  k : List UInt8
  v : List UInt8
  d : List UInt8
deriving DecidableEq
abbrev tx (l : List UInt8) : Value := .string ⟨l.toArray⟩
def CmdD.cells (x : CmdD) : List Value := [.int .i64 x.c, .int .i64 x.i, .int .i64 x.r, .int .i64 x.o, tx x.k, tx x.v, tx x.d]
theorem cmd_seven (x : CmdD) : x.cells.length = 7 := rfl
structure MemD where
  p : Int
  i : Int
  c : Int
deriving DecidableEq
def MemD.cells (x : MemD) : List Value := [.int .i64 x.p, .int .i64 x.i, .int .i64 x.c]
theorem mem_three (x : MemD) : x.cells.length = 3 := rfl
structure MarkD where
  at_ : Int
  kind : Int
  node : Int
  inc : Int
  e1 : Int
  e2 : Int
  e3 : Int
  e4 : Int
  mem : List MemD
  tr : List Int
  sender : Int
  seq : Int
  pos : Int
  n : Int
  body : List UInt8
  cmd : CmdD
  rc : Int
  rv : List UInt8
  rn : Int
  err : Int
deriving DecidableEq
/-- A mark's cells: its three lists stand elsewhere. -/
def MarkD.cells (x : MarkD) (vm vt vb : Value) : List Value :=
  [.int .i64 x.at_, .int .i64 x.kind, .int .i64 x.node, .int .i64 x.inc, .int .i64 x.e1, .int .i64 x.e2, .int .i64 x.e3, .int .i64 x.e4, vm, vt, .int .i64 x.sender, .int .i64 x.seq, .int .i64 x.pos, .int .i64 x.n, vb] ++ x.cmd.cells ++ [.int .i64 x.rc, tx x.rv, .int .i64 x.rn, .int .i64 x.err]

/-- The first command that was done at an index. -/
def hfind (ds : List MarkD) (n : Int) : Option CmdD := (ds.find? fun d => d.kind == 12 && d.n == n).map (·.cmd)
def IsHist (ds : List MarkD) (cs : List CmdD) : Prop := (∀ (i : Nat) (h : i < cs.length), hfind ds ((i : Int) + 1) = some cs[i]) ∧ hfind ds ((cs.length : Int) + 1) = none
theorem IsHist.le {ds : List MarkD} {a b : List CmdD} (ha : IsHist ds a) (hb : IsHist ds b) : a.length ≤ b.length := by
  rcases Nat.lt_or_ge b.length a.length with h | h
  · have h1 := ha.1 b.length h
    rw [hb.2] at h1
    cases h1
  · exact h
theorem hfind_snoc (ds : List MarkD) (d : MarkD) (n : Int) : hfind (ds ++ [d]) n = (hfind ds n).or (if d.kind = 12 ∧ d.n = n then some d.cmd else none) := by
  unfold hfind
  rw [List.find?_append]
  cases h : ds.find? (fun d => d.kind == 12 && d.n == n) with
  | some x => simp
  | none =>
    simp only [Option.map_none, Option.none_or]
    by_cases hc : d.kind = 12 ∧ d.n = n
    · simp [hc.1, hc.2]
    · rw [if_neg hc]
      have : (d.kind == 12 && d.n == n) = false := by
        rw [Bool.and_eq_false_iff]
        rcases Decidable.not_and_iff_or_not.1 hc with h1 | h1
        · exact .inl (by simp [h1])
        · exact .inr (by simp [h1])
      simp [this]
theorem hfind_filter (ds : List MarkD) (n m : Int) (h : n ≠ m) : hfind (ds.filter fun d => !(d.n == m)) n = hfind ds n := by
  unfold hfind
  rw [List.find?_filter]
  congr 2
  funext d
  by_cases hd : d.n = n
  · rw [hd]
    rw [beq_eq_false_iff_ne.2 h]
    cases d.kind == 12 <;> simp
  · simp [hd]
/-- There are no more indexes in a row than marks. -/
theorem hfind_many : ∀ (j : Nat) (ds : List MarkD), (∀ i : Nat, i < j → (hfind ds ((i : Int) + 1)).isSome = true) → j ≤ ds.length
  | 0, _, _ => Nat.zero_le _
  | j + 1, ds, h => by
    have h1 := hfind_many j (ds.filter fun d => !(d.n == (j : Int) + 1)) (fun i hi => by
      rw [hfind_filter _ _ _ (by omega)]
      exact h i (by omega))
    have h2 := h j (by omega)
    have h3 : (ds.filter fun d => !(d.n == (j : Int) + 1)).length < ds.length := by
      unfold hfind at h2
      cases hf : ds.find? (fun d => d.kind == 12 && d.n == (j : Int) + 1) with
      | none => rw [hf] at h2; cases h2
      | some x =>
        have hp := List.find?_some hf
        have hm := List.mem_of_find?_eq_some hf
        refine Nat.lt_of_le_of_ne (List.length_filter_le _ _) fun he => ?_
        have := List.length_filter_eq_length_iff.1 he x hm
        simp at hp this
        exact this hp.2
    omega
end Go.Proofs.YtohnmaindbgngaaGreatDoor
namespace Go.Proofs.YtohnmaindbgngaaGreatDoor
set_option linter.unusedVariables false
set_option linter.unusedSimpArgs false

abbrev V4 := Int × Int × Int × Int
abbrev Who := Int × Int
def nov : V4 := (0, 0, 0, 0)
def MarkD.id (m : MarkD) : V4 := (m.e1, m.e2, m.e3, m.e4)
def MarkD.who (m : MarkD) : Who := (m.node, m.inc)
/-- An install. -/
structure EntD where
  w : Who
  frm : V4
  tr : List Int
  done : Nat
deriving DecidableEq
def upd {α β : Type} [DecidableEq α] (f : α → β) (a : α) (b : β) : α → β := fun x => if x = a then b else f x
@[simp] theorem upd_self {α β : Type} [DecidableEq α] (f : α → β) (a : α) (b : β) : upd f a b a = b := by simp [upd]
theorem upd_ne {α β : Type} [DecidableEq α] (f : α → β) {a x : α} (b : β) (h : x ≠ a) : upd f a b x = f x := by simp [upd, h]
/-! ### P17.6: a mark at the end, a trace cut off -/
end Go.Proofs.YtohnmaindbgngaaGreatDoor
namespace Go.Proofs.YtohnmaindbgngaaGreatDoor
set_option linter.unusedVariables false
set_option linter.unusedSimpArgs false

/-! ### a quorum -/
def weighD (set : Nat) : Nat → List Int → Int
  | _, [] => 0
  | p, v :: r => (if set.testBit p then v else 0) + weighD set (p + 1) r
def firstD (vs : List Int) : Int := if vs.findIdx (fun v => decide (0 < v)) < vs.length then (vs.findIdx (fun v => decide (0 < v)) : Int) else -1
def ballotB (vs : List Int) : Bool := decide (1 ≤ vs.length) && decide (vs.length ≤ 16) && vs.all (fun v => decide (0 ≤ v) && decide (v ≤ 9)) && decide (vs.sum ≠ 0)
def packD (n : Nat) : Int → Nat → List Int → Option Nat
  | _, b, [] => some b
  | last, b, p :: r => if p ≤ last ∨ (n : Int) ≤ p then none else packD n p (b ||| (1 <<< p.toNat)) r
def setB (vs : List Int) (set : Nat) : Bool :=
  if vs.sum < 2 * weighD set 0 vs then true else if 2 * weighD set 0 vs = vs.sum then set.testBit (firstD vs).toNat else false
/-- quorum.Quorate of votes that are right. -/
def quorB (vs pids : List Int) : Bool := match packD vs.length (-1) 0 pids with
  | none => false
  | some set => setB vs set

end Go.Proofs.YtohnmaindbgngaaGreatDoor
namespace Go.Proofs.YtohnmaindbgngaaGreatDoor
set_option linter.unusedVariables false
set_option linter.unusedSimpArgs false
abbrev Txt := List UInt8
def Rise (ks : List Txt) : Prop := ks.Pairwise fun a b => bytesBefore a b = true
theorem before_irrefl (a : Txt) : bytesBefore a a = false := WideAt.bytes_irrefl a
theorem before_trans {a b c : Txt} (h : bytesBefore a b = true) (k : bytesBefore b c = true) : bytesBefore a c = true := WideShapes.bytes_trans a b c h k
theorem before_ne {a b : Txt} (h : bytesBefore a b = true) : a ≠ b := by
  rintro rfl
  rw [before_irrefl] at h
  cases h
theorem before_not {a b : Txt} (h : bytesBefore a b = false) (hne : a ≠ b) : bytesBefore b a = true := by
  rcases WideAt.bytes_total a b hne with h1 | h1
  · rw [h1] at h; cases h
  · exact h1
theorem before_asymm {a b : Txt} (h : bytesBefore a b = true) : bytesBefore b a = false := by
  cases hb : bytesBefore b a with
  | false => rfl
  | true => exact absurd (before_trans h hb) (by rw [before_irrefl]; simp)
theorem Rise.nodup {ks : List Txt} (h : Rise ks) : ks.Nodup := h.imp before_ne
section
variable {α : Type} (key : α → Txt)
def findK (k : Txt) (l : List α) : Option α := l.find? fun x => key x == k
def insK (x : α) : List α → List α
  | [] => [x]
  | y :: r => if bytesBefore (key x) (key y) = true then x :: y :: r else y :: insK x r
def setK (x : α) (l : List α) : List α := l.map fun y => if key y == key x then x else y
def delK (k : Txt) (l : List α) : List α := l.filter fun x => !(key x == k)
variable {key}
theorem findK_some {k : Txt} {l : List α} {x : α} (h : findK key k l = some x) : key x = k ∧ x ∈ l := ⟨by simpa using List.find?_some h, List.mem_of_find?_eq_some h⟩
theorem findK_none {k : Txt} {l : List α} (h : findK key k l = none) : ∀ x ∈ l, key x ≠ k := fun x hx => by simpa using List.find?_eq_none.1 h x hx
theorem findK_of {k : Txt} {l : List α} {x : α} (hr : Rise (l.map key)) (hx : x ∈ l) (hk : key x = k) : findK key k l = some x := by
  induction l with
  | nil => cases hx
  | cons y r ih =>
    unfold findK
    rw [List.find?_cons]
    by_cases hy : key y = k
    · have : (key y == k) = true := by simp [hy]
      rw [this]
      rcases List.mem_cons.1 hx with rfl | h1
      · rfl
      · exfalso
        have h2 := (List.pairwise_cons.1 hr).1 (key x) (List.mem_map_of_mem h1)
        rw [hy, hk, before_irrefl] at h2
        cases h2
    · have : (key y == k) = false := by simp [hy]
      rw [this]
      rcases List.mem_cons.1 hx with rfl | h1
      · exact absurd hk hy
      · exact ih (List.pairwise_cons.1 hr).2 h1
theorem insK_mem {x z : α} : ∀ {l : List α}, z ∈ insK key x l ↔ z = x ∨ z ∈ l
  | [] => by simp [insK]
  | y :: r => by
    unfold insK
    split
    · simp
    · rw [List.mem_cons, insK_mem, List.mem_cons]
      constructor
      · rintro (h | h | h)
        · exact .inr (.inl h)
        · exact .inl h
        · exact .inr (.inr h)
      · rintro (h | h | h)
        · exact .inr (.inl h)
        · exact .inl h
        · exact .inr (.inr h)
theorem insK_len (x : α) : ∀ l : List α, (insK key x l).length = l.length + 1
  | [] => rfl
  | y :: r => by
    unfold insK
    split
    · rfl
    · simp [insK_len x r]
theorem insK_rise {x : α} : ∀ {l : List α}, Rise (l.map key) → (∀ y ∈ l, key y ≠ key x) → Rise ((insK key x l).map key)
  | [], _, _ => by simp [insK, Rise]
  | y :: r, hr, hn => by
    unfold insK
    obtain ⟨h1, h2⟩ := List.pairwise_cons.1 hr
    split
    · rename_i hb
      refine List.pairwise_cons.2 ⟨fun k hk => ?_, hr⟩
      rcases List.mem_cons.1 hk with rfl | hk
      · exact hb
      · exact before_trans hb (h1 k hk)
    · rename_i hb
      have hb' : bytesBefore (key y) (key x) = true := before_not (by simpa using hb) (fun e => hn y (by simp) e.symm)
      refine List.pairwise_cons.2 ⟨fun k hk => ?_, insK_rise h2 (fun z hz => hn z (by simp [hz]))⟩
      obtain ⟨z, hz, rfl⟩ := List.mem_map.1 hk
      rcases insK_mem.1 hz with rfl | hz
      · exact hb'
      · exact h1 _ (List.mem_map_of_mem hz)
theorem setK_keys (x : α) (l : List α) : (setK key x l).map key = l.map key := by
  unfold setK
  rw [List.map_map]
  refine List.map_congr_left fun y _ => ?_
  show key (if key y == key x then x else y) = key y
  split
  · rename_i h
    exact (by simpa using h : key y = key x).symm
  · rfl
theorem setK_len (x : α) (l : List α) : (setK key x l).length = l.length := by simp [setK]
theorem setK_mem {x z : α} {l : List α} (h : z ∈ setK key x l) : z = x ∨ (z ∈ l ∧ key z ≠ key x) := by
  obtain ⟨y, hy, rfl⟩ := List.mem_map.1 h
  split
  · exact .inl rfl
  · rename_i hk
    exact .inr ⟨hy, by simpa using hk⟩
theorem delK_mem {k : Txt} {z : α} {l : List α} : z ∈ delK key k l ↔ z ∈ l ∧ key z ≠ k := by simp [delK]
theorem delK_rise {k : Txt} {l : List α} (h : Rise (l.map key)) : Rise ((delK key k l).map key) := List.Pairwise.sublist (List.Sublist.map _ List.filter_sublist) h
theorem delK_len (k : Txt) (l : List α) : (delK key k l).length ≤ l.length := List.length_filter_le _ _
theorem delK_none {k : Txt} {l : List α} (h : ∀ x ∈ l, key x ≠ k) : delK key k l = l := List.filter_eq_self.2 fun x hx => by simp [h x hx]
theorem findK_set {k : Txt} {x : α} {l : List α} (hx : ∃ y ∈ l, key y = key x) : findK key k (setK key x l) = if key x = k then some x else findK key k l := by
  unfold findK setK
  induction l with
  | nil => obtain ⟨y, hy, _⟩ := hx; cases hy
  | cons y r ih =>
    rw [List.map_cons, List.find?_cons, List.find?_cons]
    by_cases hy : key y = key x
    · have e1 : (key y == key x) = true := by simp [hy]
      rw [e1]
      simp only [if_true]
      by_cases hk : key x = k
      · have e2 : (key x == k) = true := by simp [hk]
        rw [e2, if_pos hk]
      · have e2 : (key x == k) = false := by simp [hk]
        have e3 : (key y == k) = false := by rw [hy]; exact e2
        rw [e2, if_neg hk, e3]
        by_cases hr : ∃ z ∈ r, key z = key x
        · rw [ih hr, if_neg hk]
        · have : (r.map fun y => if key y == key x then x else y) = r := by
            rw [List.map_congr_left (g := id) (fun z hz => ?_), List.map_id]
            have : key z ≠ key x := fun e => hr ⟨z, hz, e⟩
            simp [this]
          rw [this]
    · have e1 : (key y == key x) = false := by simp [hy]
      rw [e1]
      simp only [Bool.false_eq_true, if_false]
      have hr : ∃ z ∈ r, key z = key x := by
        obtain ⟨z, hz, e⟩ := hx
        rcases List.mem_cons.1 hz with rfl | hz
        · exact absurd e hy
        · exact ⟨z, hz, e⟩
      cases hk : key y == k with
      | true =>
        have hyk : key y = k := by simpa using hk
        rw [if_neg (fun e => hy (hyk.trans e.symm))]
      | false => exact ih hr
theorem findK_del {k k' : Txt} {l : List α} : findK key k' (delK key k l) = if k' = k then none else findK key k' l := by
  unfold findK delK
  rw [List.find?_filter]
  split
  · rename_i h
    subst h
    rw [List.find?_eq_none]
    intro x _
    simp
  · rename_i h
    congr 1
    funext x
    by_cases hx : key x = k'
    · simp [hx, h]
    · simp [hx]
/-- Two rising lists of the same elements are one. -/
theorem rise_ext : ∀ {l m : List α}, Rise (l.map key) → Rise (m.map key) → (∀ x, x ∈ l ↔ x ∈ m) → l = m
  | [], [], _, _, _ => rfl
  | [], y :: r, _, _, h => absurd ((h y).2 (by simp)) (by simp)
  | x :: r, [], _, _, h => absurd ((h x).1 (by simp)) (by simp)
  | x :: r, y :: s, h1, h2, h => by
    obtain ⟨a1, a2⟩ := List.pairwise_cons.1 h1
    obtain ⟨b1, b2⟩ := List.pairwise_cons.1 h2
    have hxy : x = y := by
      rcases List.mem_cons.1 ((h x).1 (by simp)) with e | hx
      · exact e
      · rcases List.mem_cons.1 ((h y).2 (by simp)) with e | hy
        · exact e.symm
        · have c1 := b1 _ (List.mem_map_of_mem (f := key) hx)
          have c2 := a1 _ (List.mem_map_of_mem (f := key) hy)
          rw [before_asymm c1] at c2
          cases c2
    subst hxy
    congr 1
    refine rise_ext a2 b2 fun z => ?_
    have hz := h z
    rw [List.mem_cons, List.mem_cons] at hz
    have n1 : x ∉ r := fun hx => by
      have := a1 _ (List.mem_map_of_mem (f := key) hx)
      rw [before_irrefl] at this
      cases this
    have n2 : x ∉ s := fun hx => by
      have := b1 _ (List.mem_map_of_mem (f := key) hx)
      rw [before_irrefl] at this
      cases this
    constructor
    · intro hr
      rcases hz.1 (.inr hr) with e | h3
      · subst e; exact absurd hr n1
      · exact h3
    · intro hs
      rcases hz.2 (.inr hs) with e | h3
      · subst e; exact absurd hs n2
      · exact h3
end
end Go.Proofs.YtohnmaindbgngaaGreatDoor
namespace Go.Proofs.YtohnmaindbgngaaGreatDoor
set_option linter.unusedVariables false
set_option linter.unusedSimpArgs false

structure ResD where
  code : Int
  val : Txt
  n : Int
deriving DecidableEq
structure SesD where
  inc : Int
  req : Int
  last : ResD
deriving DecidableEq
structure LockD where
  name : Txt
  holder : Int
  token : Int
  queue : List Int
deriving DecidableEq
structure StD where
  pairs : List (Txt × Txt)
  locks : List LockD
  tok : Int
  ss : List SesD
deriving DecidableEq
def noSes : SesD := ⟨0, 0, ⟨0, [], 0⟩⟩
def newD : StD := ⟨[], [], 0, List.replicate 16 noSes⟩
abbrev pfindD (k : Txt) (ps : List (Txt × Txt)) : Option (Txt × Txt) := findK Prod.fst k ps
abbrev lfind (k : Txt) (ls : List LockD) : Option LockD := findK LockD.name k ls
def pputD (k v : Txt) (ps : List (Txt × Txt)) : List (Txt × Txt) := match pfindD k ps with
  | some _ => setK Prod.fst (k, v) ps
  | none => insK Prod.fst (k, v) ps
/-- The lock is passed on: the new token; 0: it is gone. -/
def passD (k : Txt) (s : StD) : Int × StD := match lfind k s.locks with
  | none => (0, s)
  | some l => match l.queue with
    | [] => (0, { s with locks := delK LockD.name k s.locks })
    | c :: q => if 99999999 ≤ s.tok then (0, { s with locks := delK LockD.name k s.locks }) else (s.tok + 1, { s with locks := setK LockD.name ⟨k, c, s.tok + 1, q⟩ s.locks, tok := s.tok + 1 })
def leaveL (c : Int) (l : LockD) : LockD := { l with queue := l.queue.filter fun q => !(q == c) }
def passAll (ns : List Txt) (s : StD) : StD := ns.foldl (fun s k => (passD k s).2) s
def heldBy (c : Int) (ls : List LockD) : List Txt := (ls.filter fun l => l.holder == c).map LockD.name
def letsD (c : Int) (s : StD) : Int × StD := (((heldBy c s.locks).length : Int), passAll (heldBy c s.locks) { s with locks := s.locks.map (leaveL c) })
section
variable (num : Txt → Int × Bool) (ita : Int → Txt)
def onKeyD (o : Int) (k v d : Txt) (s : StD) : ResD × StD := match pfindD k s.pairs with
  | none => if o = 1 ∨ o = 5 then (if 16 ≤ s.pairs.length then (⟨4, [], 0⟩, s) else (⟨1, if o = 5 then v else [], 0⟩, { s with pairs := pputD k v s.pairs })) else (⟨2, [], 0⟩, s)
  | some (_, u) =>
    if o = 1 then (⟨1, u, 1⟩, { s with pairs := pputD k v s.pairs })
    else if o = 3 then (if u = d then (⟨1, u, 1⟩, { s with pairs := pputD k v s.pairs }) else (⟨3, u, 1⟩, s))
    else if o = 4 then (⟨1, u, 1⟩, { s with pairs := delK Prod.fst k s.pairs })
    else if o = 5 then (if (num u).2 = false then (⟨5, u, 1⟩, s) else if 8 < (ita ((num u).1 + (num v).1)).length then (⟨6, u, 1⟩, s) else (⟨1, ita ((num u).1 + (num v).1), 1⟩, { s with pairs := pputD k (ita ((num u).1 + (num v).1)) s.pairs }))
    else (⟨1, u, 1⟩, s)
def onLockD (c o : Int) (k v : Txt) (s : StD) : ResD × StD := match lfind k s.locks with
  | none => if o = 6 then (if 8 ≤ s.locks.length then (⟨4, [], 0⟩, s) else if 99999999 ≤ s.tok then (⟨11, [], 0⟩, s) else (⟨1, [], s.tok + 1⟩, { s with locks := insK LockD.name ⟨k, c, s.tok + 1, []⟩ s.locks, tok := s.tok + 1 })) else (⟨2, [], 0⟩, s)
  | some l =>
    if o = 6 then (if l.holder = c then (⟨1, [], l.token⟩, s) else if c ∈ l.queue then (⟨7, [], (l.queue.idxOf c : Int) + 1⟩, s) else (⟨7, [], (l.queue.length : Int) + 1⟩, { s with locks := setK LockD.name { l with queue := l.queue ++ [c] } s.locks }))
    else if o = 7 then (if l.holder = c then (⟨1, [], (passD k s).1⟩, (passD k s).2) else if c ∈ l.queue then (⟨8, [], 0⟩, { s with locks := setK LockD.name (leaveL c l) s.locks }) else (⟨2, [], 0⟩, s))
    else if (num v).1 = l.token then (⟨1, [], l.token⟩, s) else (⟨9, [], l.token⟩, s)
def endD (v : Txt) (s : StD) : ResD × StD := if (s.ss.getD (num v).1.toNat noSes).inc = 0 then (⟨2, [], 0⟩, s) else (⟨1, [], (letsD (num v).1 s).1⟩, (letsD (num v).1 s).2)
def doesD (c o : Int) (k v d : Txt) (s : StD) : ResD × StD := if o ≤ 5 then onKeyD num ita o k v d s else if o ≤ 8 then onLockD num c o k v s else endD num v s
/-- A valid command, done. -/
def applyV (c i r o : Int) (k v d : Txt) (s : StD) : ResD × StD :=
  let z := s.ss.getD c.toNat noSes
  if z.inc > i ∨ (z.inc = i ∧ z.req > r) then (⟨9, [], 0⟩, s)
  else if z.inc = i ∧ z.req = r then (z.last, s)
  else
    let s1 := if 0 < z.inc ∧ z.inc < i then (letsD c s).2 else s
    let x := doesD num ita c o k v d s1
    (x.1, { x.2 with ss := x.2.ss.set c.toNat ⟨i, r, x.1⟩ })
end

/-! ### what holds throughout -/
structure LOk (tok : Int) (l : LockD) : Prop where
  n1 : 1 ≤ l.name.length
  n8 : l.name.length ≤ 8
  h0 : 0 ≤ l.holder
  h1 : l.holder < 16
  t0 : 1 ≤ l.token
  t1 : l.token ≤ tok
  nd : l.queue.Nodup
  q : ∀ c ∈ l.queue, 0 ≤ c ∧ c < 16
  hq : l.holder ∉ l.queue
structure LInv (ls : List LockD) (tok : Int) : Prop where
  rise : Rise (ls.map LockD.name)
  each : ∀ l ∈ ls, LOk tok l
  apart : ls.Pairwise fun a b => a.token ≠ b.token
  len : ls.length ≤ 8
  tok0 : 0 ≤ tok
  tok1 : tok ≤ 99999999
theorem LOk.more {t t' : Int} {l : LockD} (h : LOk t l) (ht : t ≤ t') : LOk t' l := ⟨h.n1, h.n8, h.h0, h.h1, h.t0, by have := h.t1; omega, h.nd, h.q, h.hq⟩
theorem LInv.sub {ls ms : List LockD} {tok : Int} (h : LInv ls tok) (hs : List.Sublist ms ls) : LInv ms tok :=
  ⟨List.Pairwise.sublist (List.Sublist.map _ hs) h.rise, fun l hl => h.each l (hs.subset hl), h.apart.sublist hs, Nat.le_trans hs.length_le h.len, h.tok0, h.tok1⟩
/-- Each lock is turned, but for its name and its token. -/
theorem LInv.map {ls : List LockD} {tok : Int} (h : LInv ls tok) (f : LockD → LockD) (hn : ∀ l, (f l).name = l.name) (ht : ∀ l, (f l).token = l.token) (ho : ∀ l ∈ ls, LOk tok (f l)) : LInv (ls.map f) tok := by
  refine ⟨?_, fun l hl => ?_, ?_, by simpa using h.len, h.tok0, h.tok1⟩
  · rw [List.map_map]
    have : (ls.map (LockD.name ∘ f)) = ls.map LockD.name := List.map_congr_left fun l _ => hn l
    rw [this]
    exact h.rise
  · obtain ⟨m, hm, rfl⟩ := List.mem_map.1 hl
    exact ho m hm
  · rw [List.pairwise_map]
    exact h.apart.imp fun hab => by rwa [ht, ht]
theorem LInv.set {ls : List LockD} {tok tok' : Int} (h : LInv ls tok) (x : LockD) (hx : LOk tok' x) (ht : tok ≤ tok') (h1 : tok' ≤ 99999999) (hd : ∀ l ∈ ls, l.name ≠ x.name → l.token ≠ x.token) : LInv (setK LockD.name x ls) tok' := by
  refine ⟨by rw [setK_keys]; exact h.rise, fun l hl => ?_, ?_, by rw [setK_len]; exact h.len, by have := h.tok0; omega, h1⟩
  · rcases setK_mem hl with rfl | ⟨h2, _⟩
    · exact hx
    · exact (h.each l h2).more ht
  · unfold setK
    rw [List.pairwise_map]
    have hr : ls.Pairwise fun a b => a.name ≠ b.name := by
      have := h.rise
      unfold Rise at this
      rw [List.pairwise_map] at this
      exact this.imp before_ne
    refine (h.apart.and hr).imp_of_mem ?_
    intro a b ha hb hab
    obtain ⟨h3, h4⟩ := hab
    by_cases e1 : a.name = x.name
    · have e2 : b.name ≠ x.name := fun e => h4 (e1.trans e.symm)
      simp only [e1, beq_self_eq_true, if_true, beq_iff_eq, e2, if_false]
      exact (hd b hb e2).symm
    · by_cases e2 : b.name = x.name
      · simp only [e2, beq_self_eq_true, if_true, beq_iff_eq, e1, if_false]
        exact hd a ha e1
      · simp only [beq_iff_eq, e1, e2, if_false]
        exact h3
theorem LInv.ins {ls : List LockD} {tok : Int} (h : LInv ls tok) (x : LockD) (hx : LOk (tok + 1) x) (hxt : x.token = tok + 1) (hn : ∀ l ∈ ls, l.name ≠ x.name) (hl : ls.length < 8) (ht : tok < 99999999) : LInv (insK LockD.name x ls) (tok + 1) := by
  refine ⟨insK_rise h.rise hn, fun l hl => ?_, ?_, by rw [insK_len]; omega, by have := h.tok0; omega, by omega⟩
  · rcases insK_mem.1 hl with rfl | h2
    · exact hx
    · exact (h.each l h2).more (by omega)
  · have hold : ∀ l ∈ ls, l.token ≠ x.token := fun l hl => by have := (h.each l hl).t1; omega
    have gen : ∀ ms : List LockD, (∀ l ∈ ms, l.token ≠ x.token) → ms.Pairwise (fun a b => a.token ≠ b.token) → (insK LockD.name x ms).Pairwise fun a b => a.token ≠ b.token := by
      intro ms
      induction ms with
      | nil => intro _ _; simp [insK]
      | cons y r ih =>
        intro h1 h2
        obtain ⟨c1, c2⟩ := List.pairwise_cons.1 h2
        unfold insK
        split
        · exact List.pairwise_cons.2 ⟨fun z hz => (h1 z hz).symm, h2⟩
        · refine List.pairwise_cons.2 ⟨fun z hz => ?_, ih (fun l hl => h1 l (by simp [hl])) c2⟩
          rcases insK_mem.1 hz with rfl | hz
          · exact h1 y (by simp)
          · exact c1 z hz
    exact gen ls hold h.apart
theorem leave_ok {tok c : Int} {l : LockD} (h : LOk tok l) : LOk tok (leaveL c l) :=
  ⟨h.n1, h.n8, h.h0, h.h1, h.t0, h.t1, h.nd.filter _, fun x hx => h.q x (List.mem_filter.1 hx).1, fun hm => h.hq (List.mem_filter.1 hm).1⟩
theorem LInv.leave {ls : List LockD} {tok : Int} (h : LInv ls tok) (c : Int) : LInv (ls.map (leaveL c)) tok := h.map _ (fun _ => rfl) (fun _ => rfl) fun l hl => leave_ok (h.each l hl)
theorem LInv.pass {s : StD} (h : LInv s.locks s.tok) (k : Txt) : LInv (passD k s).2.locks (passD k s).2.tok := by
  unfold passD
  cases hf : lfind k s.locks with
  | none => exact h
  | some l =>
    obtain ⟨hn, hm⟩ := findK_some hf
    have hl := h.each l hm
    simp only
    cases hq : l.queue with
    | nil => exact h.sub List.filter_sublist
    | cons c q =>
      simp only
      split
      · exact h.sub List.filter_sublist
      · rename_i ht
        have hnd := hl.nd
        rw [hq] at hnd
        have hc := hl.q c (by rw [hq]; simp)
        refine h.set ⟨k, c, s.tok + 1, q⟩ ⟨by show 1 ≤ k.length; rw [← hn]; exact hl.n1, by show k.length ≤ 8; rw [← hn]; exact hl.n8, hc.1, hc.2, by have := h.tok0; show 1 ≤ s.tok + 1; omega, Int.le_refl _, (List.nodup_cons.1 hnd).2, fun x hx => hl.q x (by rw [hq]; simp [hx]), (List.nodup_cons.1 hnd).1⟩ (show s.tok ≤ s.tok + 1 by omega) (show s.tok + 1 ≤ 99999999 by omega) (fun m hm2 _ => ?_)
        have := (h.each m hm2).t1
        show m.token ≠ s.tok + 1
        omega
theorem LInv.passAll {s : StD} (h : LInv s.locks s.tok) (ns : List Txt) : LInv (passAll ns s).locks (passAll ns s).tok := by
  unfold Go.Proofs.YtohnmaindbgngaaGreatDoor.passAll
  induction ns generalizing s with
  | nil => exact h
  | cons k r ih => exact ih (h.pass k)
/-- Who holds or waits. -/
def who (ls : List LockD) (c : Int) : Prop := ∃ l ∈ ls, c = l.holder ∨ c ∈ l.queue
theorem who_sub {ls ms : List LockD} (h : ∀ l ∈ ms, l ∈ ls) {c : Int} (hc : who ms c) : who ls c := by
  obtain ⟨l, hl, hh⟩ := hc
  exact ⟨l, h l hl, hh⟩
theorem who_pass {s : StD} {k : Txt} {c : Int} (h : who (passD k s).2.locks c) : who s.locks c := by
  unfold passD at h
  cases hf : lfind k s.locks with
  | none => rw [hf] at h; exact h
  | some l =>
    rw [hf] at h
    simp only at h
    obtain ⟨hn, hm⟩ := findK_some hf
    cases hq : l.queue with
    | nil => rw [hq] at h; exact who_sub (fun m hm => (delK_mem.1 hm).1) h
    | cons d q =>
      rw [hq] at h
      simp only at h
      split at h
      · exact who_sub (fun m hm => (delK_mem.1 hm).1) h
      · obtain ⟨m, hm2, hh⟩ := h
        rcases setK_mem hm2 with rfl | ⟨h3, _⟩
        · rcases hh with rfl | hh
          · exact ⟨l, hm, .inr (by rw [hq]; simp)⟩
          · exact ⟨l, hm, .inr (by rw [hq]; simp at hh ⊢; exact .inr hh)⟩
        · exact ⟨m, h3, hh⟩
theorem who_passAll {c : Int} : ∀ (ns : List Txt) {s : StD}, who (passAll ns s).locks c → who s.locks c
  | [], _, h => h
  | k :: r, s, h => who_pass (who_passAll r h)
theorem who_leave {ls : List LockD} {c d : Int} (h : who (ls.map (leaveL d)) c) : who ls c := by
  obtain ⟨m, hm, hh⟩ := h
  obtain ⟨l, hl, rfl⟩ := List.mem_map.1 hm
  rcases hh with rfl | hh
  · exact ⟨l, hl, .inl rfl⟩
  · exact ⟨l, hl, .inr (List.mem_filter.1 hh).1⟩
theorem who_lets {s : StD} {c d : Int} (h : who (letsD d s).2.locks c) : who s.locks c := who_leave (who_passAll _ h)
theorem pass_rest (k : Txt) (s : StD) : (passD k s).2.pairs = s.pairs ∧ (passD k s).2.ss = s.ss := by
  unfold passD
  split
  · exact ⟨rfl, rfl⟩
  · split
    · exact ⟨rfl, rfl⟩
    · split <;> exact ⟨rfl, rfl⟩
theorem passAll_rest : ∀ (ns : List Txt) (s : StD), (passAll ns s).pairs = s.pairs ∧ (passAll ns s).ss = s.ss
  | [], _ => ⟨rfl, rfl⟩
  | k :: r, s => by
    have h := passAll_rest r (passD k s).2
    have h2 := pass_rest k s
    exact ⟨h.1.trans h2.1, h.2.trans h2.2⟩
theorem lets_rest (c : Int) (s : StD) : (letsD c s).2.pairs = s.pairs ∧ (letsD c s).2.ss = s.ss := passAll_rest _ _
theorem LInv.lets {s : StD} (h : LInv s.locks s.tok) (c : Int) : LInv (letsD c s).2.locks (letsD c s).2.tok := LInv.passAll (s := { s with locks := s.locks.map (leaveL c) }) (h.leave c) _
/-- A lock that is found stays found while others are passed on. -/
theorem pass_other {s : StD} {k k' : Txt} (hne : k' ≠ k) : lfind k' (passD k s).2.locks = lfind k' s.locks := by
  unfold passD
  cases hf : lfind k s.locks with
  | none => rfl
  | some l =>
    obtain ⟨hn, hm⟩ := findK_some hf
    simp only
    have hdel : lfind k' (delK LockD.name k s.locks) = lfind k' s.locks := by
      show findK LockD.name k' (delK LockD.name k s.locks) = _
      rw [findK_del, if_neg hne]
    cases hq : l.queue with
    | nil => exact hdel
    | cons c q =>
      simp only
      split
      · exact hdel
      · show findK LockD.name k' (setK LockD.name _ s.locks) = _
        rw [findK_set ⟨l, hm, hn⟩, if_neg (fun e => hne e.symm)]

structure ResOk (r : ResD) : Prop where
  c0 : 1 ≤ r.code
  c1 : r.code ≤ 11
  c10 : r.code ≠ 10
  v : r.val.length ≤ 8
  n0 : 0 ≤ r.n
  n1 : r.n ≤ 99999999
structure SesOk (x : SesD) : Prop where
  i0 : 1 ≤ x.inc
  i1 : x.inc ≤ 4611686018427387904
  r0 : 1 ≤ x.req
  r1 : x.req ≤ 4611686018427387904
  last : ResOk x.last
structure PInv (ps : List (Txt × Txt)) : Prop where
  rise : Rise (ps.map Prod.fst)
  each : ∀ p ∈ ps, 1 ≤ p.1.length ∧ p.1.length ≤ 8 ∧ p.2.length ≤ 8
  len : ps.length ≤ 16
structure Inv (s : StD) : Prop where
  lk : LInv s.locks s.tok
  pr : PInv s.pairs
  s16 : s.ss.length = 16
  ses : ∀ x ∈ s.ss, x = noSes ∨ SesOk x
  link : ∀ c, who s.locks c → 0 < (s.ss.getD c.toNat noSes).inc
theorem inv_new : Inv newD :=
  ⟨⟨by simp [newD, Rise], by simp [newD], by simp [newD], by simp [newD], by simp [newD], by simp [newD]⟩, ⟨by simp [newD, Rise], by simp [newD], by simp [newD]⟩, by simp [newD], fun x hx => .inl (List.eq_of_mem_replicate hx), fun c hc => by
    obtain ⟨l, hl, _⟩ := hc
    simp [newD] at hl⟩
theorem PInv.put {ps : List (Txt × Txt)} (h : PInv ps) {k v : Txt} (hk : 1 ≤ k.length ∧ k.length ≤ 8) (hv : v.length ≤ 8) (hl : pfindD k ps = none → ps.length < 16) : PInv (pputD k v ps) := by
  unfold pputD
  cases hf : pfindD k ps with
  | some x =>
    refine ⟨by rw [setK_keys]; exact h.rise, fun p hp => ?_, by rw [setK_len]; exact h.len⟩
    rcases setK_mem hp with rfl | ⟨h2, _⟩
    · exact ⟨hk.1, hk.2, hv⟩
    · exact h.each p h2
  | none =>
    refine ⟨insK_rise h.rise (findK_none hf), fun p hp => ?_, by rw [insK_len]; have := hl hf; omega⟩
    rcases insK_mem.1 hp with rfl | h2
    · exact ⟨hk.1, hk.2, hv⟩
    · exact h.each p h2
theorem PInv.del {ps : List (Txt × Txt)} (h : PInv ps) (k : Txt) : PInv (delK Prod.fst k ps) := ⟨delK_rise h.rise, fun p hp => h.each p (delK_mem.1 hp).1, Nat.le_trans (delK_len _ _) h.len⟩
theorem nodup_lt : ∀ (n : Nat) (l : List Int), l.Nodup → (∀ c ∈ l, 0 ≤ c ∧ c < (n : Int)) → l.length ≤ n
  | 0, [], _, _ => Nat.le_refl _
  | 0, c :: r, _, h => by have := h c (by simp); omega
  | n + 1, l, hn, h => by
    have h1 := nodup_lt n (l.erase (n : Int)) (hn.erase _) (fun c hc => by
      have h2 := (hn.mem_erase_iff).1 hc
      have := h c h2.2
      have := h2.1
      omega)
    rw [List.length_erase] at h1
    split at h1 <;> omega
theorem queue_len {q : List Int} (hn : q.Nodup) (hb : ∀ c ∈ q, 0 ≤ c ∧ c < 16) : q.length ≤ 16 := nodup_lt 16 q hn hb
end Go.Proofs.YtohnmaindbgngaaGreatDoor
