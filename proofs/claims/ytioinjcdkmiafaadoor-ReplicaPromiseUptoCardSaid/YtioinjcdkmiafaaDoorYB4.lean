/-
  MERGED: Lk LQue Pass Leave Names
-/
import Derived.Test.YtioinjcdkmiafaaDoorYB2
import Derived.Test.YtioinjcdkmiafaaDoorYB3
import Derived.Test.YtioinjcdkmiafaaDoorYB0
import Derived.Test.YtioinjcdkmiafaaDoorShelf
import Derived.Test.YtioinjcdkmiafaaDoorYA5
import Derived.Sort.OwnSorted
import Derived.BigRegion
namespace Go.Proofs.YtioinjcdkmiafaaDoor
set_option linter.unusedVariables false
set_option linter.unusedSimpArgs false
open Go.RowKit

/-! ### maps and rising lists -/
section
variable {α : Type} {key : α → Txt} {f : α → Kv}
theorem mfind_map (hf : ∀ x, (f x).1 = key x) (k : Txt) (l : List α) : mfind k (l.map f) = (findK key k l).map fun x => (f x).2 := by
  unfold mfind findK
  rw [List.find?_map]
  have e : ((fun p : Kv => p.1 == k) ∘ f) = fun x => key x == k := by funext x; simp [hf]
  rw [e, Option.map_map]
  rfl
theorem mdel_map (hf : ∀ x, (f x).1 = key x) (k : Txt) (l : List α) : mdel k (l.map f) = (delK key k l).map f := by
  unfold mdel delK
  rw [List.filter_map]
  have e : ((fun p : Kv => !(p.1 == k)) ∘ f) = fun x => !(key x == k) := by funext x; simp [hf]
  rw [e]
theorem mins_map (hf : ∀ x, (f x).1 = key x) (x : α) : ∀ l : List α, mins (f x) (l.map f) = (insK key x l).map f
  | [] => rfl
  | y :: r => by
    rw [List.map_cons, mins, insK, hf, hf]
    split
    · rfl
    · rw [mins_map hf x r]; rfl
theorem mput_new (hf : ∀ x, (f x).1 = key x) (x : α) (l : List α) (hn : ∀ y ∈ l, key y ≠ key x) : mput (key x) (f x).2 (l.map f) = (insK key x l).map f := by
  unfold mput
  rw [mdel_map hf, delK_none hn]
  have e : ((key x, (f x).2) : Kv) = f x := by rw [← hf]
  rw [e, mins_map hf]
theorem setK_ins {x : α} {l : List α} (hr : Rise (l.map key)) (hx : ∃ y ∈ l, key y = key x) : insK key x (delK key (key x) l) = setK key x l := by
  refine rise_ext (key := key) (insK_rise (delK_rise hr) (fun y hy => (delK_mem.1 hy).2)) (by rw [setK_keys]; exact hr) fun z => ?_
  rw [insK_mem, delK_mem]
  constructor
  · rintro (rfl | ⟨h1, h2⟩)
    · obtain ⟨y, hy, he⟩ := hx
      exact List.mem_map.2 ⟨y, hy, by simp [he]⟩
    · exact List.mem_map.2 ⟨z, h1, by simp [h2]⟩
  · exact setK_mem
theorem mput_old (hf : ∀ x, (f x).1 = key x) (x : α) (l : List α) (hr : Rise (l.map key)) (hx : ∃ y ∈ l, key y = key x) : mput (key x) (f x).2 (l.map f) = (setK key x l).map f := by
  unfold mput
  rw [mdel_map hf]
  have e : ((key x, (f x).2) : Kv) = f x := by rw [← hf]
  rw [e, mins_map hf, setK_ins hr hx]
end
theorem pdel_eq (k : Txt) (ps : Ps) : pdel k ps = delK Prod.fst k ps := rfl
theorem pins_eq (x : Txt × Txt) : ∀ ps : Ps, pins x ps = insK Prod.fst x ps
  | [] => rfl
  | y :: r => by
    rw [pins, insK]
    split
    · rfl
    · rw [pins_eq x r]
theorem pput_eq (k v : Txt) (ps : Ps) (hr : Rise (ps.map Prod.fst)) : pput k v ps = pputD k v ps := by
  unfold pput pputD
  rw [pins_eq, pdel_eq]
  cases hf : pfindD k ps with
  | none => rw [delK_none (findK_none hf)]
  | some x =>
    obtain ⟨h1, h2⟩ := findK_some hf
    exact setK_ins (key := Prod.fst) (x := (k, v)) hr ⟨x, h2, h1⟩
theorem pfind_eq (k : Txt) (ps : Ps) : pfind k ps = (pfindD k ps).map Prod.snd := rfl

/-! ### locks in memory -/
structure LkM where
  d : LockD
  h : Nat
  v : Value
abbrev LkM.key (x : LkM) : Txt := x.d.name
def LkM.kv (x : LkM) : Kv := (x.d.name, .pointer (some ⟨x.h, 0, none⟩))
structure LkIs (S : Nat → Prop) (w : World) (x : LkM) : Prop where
  blk : Blk w x.h 117 #[.int .i64 x.d.holder, .int .i64 x.d.token, x.v]
  row : OwnAt w 0 3 x.v x.d.queue.length (ics x.d.queue)
  sh : S x.h
  sv : ∀ k, x.v.ownBlock = some k → S k
def LApart (a b : LkM) : Prop := a.h ≠ b.h ∧ ∀ k, a.v.ownBlock = some k → b.v.ownBlock ≠ some k
structure Lks (S : Nat → Prop) (w : World) (bl : Nat) (ms : List LkM) (ls : List LockD) : Prop where
  map : MapIs Tryd.prog 9 w bl (ms.map LkM.kv)
  each : ∀ x ∈ ms, LkIs S w x
  apart : ms.Pairwise LApart
  data : ms.map LkM.d = ls
  sb : S bl
theorem LApart.symm {a b : LkM} (h : LApart a b) : LApart b a := ⟨h.1.symm, fun k hk e => h.2 k e hk⟩
section
variable {S S' : Nat → Prop} {w w' : World} {bl : Nat} {ms : List LkM} {ls : List LockD} {x y : LkM}
theorem LkIs.keep {Z : Nat → Prop} (h : LkIs S w x) (hk : Keep Z w w') (h1 : Z x.h) (h2 : ∀ k, x.v.ownBlock = some k → Z k) : LkIs S w' x := ⟨h.blk.keep hk h1, h.row.keep hk h2, h.sh, h.sv⟩
theorem LkIs.widen (h : LkIs S w x) (hs : ∀ j, S j → S' j) : LkIs S' w x := ⟨h.blk, h.row, hs _ h.sh, fun k hk => hs _ (h.sv k hk)⟩
theorem LkIs.lt (h : LkIs S w x) : x.h < w.heap.size := h.blk.lt
theorem LkIs.vlt (h : LkIs S w x) {k : Nat} (hk : x.v.ownBlock = some k) : k < w.heap.size := (h.row.lt hk).2
theorem LkIs.vne (h : LkIs S w x) (k : LkIs S w y) : x.v.ownBlock ≠ some y.h := h.row.ne_blk k.blk (by decide)
theorem MapIs.ne_own {P : Program} {k : TypeId} {b base e n : Nat} {ps : List Kv} {v : Value} {xs : List Value} (h : MapIs P k w b ps) (ho : OwnAt w base e v n xs) : v.ownBlock ≠ some b := by
  rcases ho.2 with ⟨rfl, _⟩ | ⟨g, o, cap, cur, rfl, _, hh, _⟩
  · simp [Value.ownBlock]
  · intro he
    have : g = b := by simpa [Value.ownBlock] using he
    subst this
    exact h.ne_blk (g := g) (t := e) hh rfl
theorem Lks.keep {Z : Nat → Prop} (h : Lks S w bl ms ls) (hk : Keep Z w w') (hz : ∀ j, S j → Z j) : Lks S w' bl ms ls :=
  ⟨h.map.keep hk (hz _ h.sb), fun x hx => (h.each x hx).keep hk (hz _ (h.each x hx).sh) (fun k hk => hz _ ((h.each x hx).sv k hk)), h.apart, h.data, h.sb⟩
theorem Lks.widen (h : Lks S w bl ms ls) (hs : ∀ j, S j → S' j) : Lks S' w bl ms ls := ⟨h.map, fun x hx => (h.each x hx).widen hs, h.apart, h.data, hs _ h.sb⟩
theorem Lks.tight (h : Lks S w bl ms ls) : Lks (fun j => S j ∧ j < w.heap.size) w bl ms ls :=
  ⟨h.map, fun x hx => ⟨(h.each x hx).blk, (h.each x hx).row, ⟨(h.each x hx).sh, (h.each x hx).lt⟩, fun k hk => ⟨(h.each x hx).sv k hk, (h.each x hx).vlt hk⟩⟩, h.apart, h.data, ⟨h.sb, h.map.lt⟩⟩
theorem Lks.keys (h : Lks S w bl ms ls) : ms.map LkM.key = ls.map LockD.name := by
  rw [← h.data, List.map_map]
  rfl
theorem findK_data (k : Txt) (ms : List LkM) : findK LockD.name k (ms.map LkM.d) = (findK LkM.key k ms).map LkM.d := by
  unfold findK
  rw [List.find?_map]
  rfl
/-- The lock of a name. -/
theorem Lks.find (h : Lks S w bl ms ls) {k : Txt} {l : LockD} (hl : lfind k ls = some l) : ∃ x ∈ ms, x.d = l ∧ x.d.name = k ∧ mfind k (ms.map LkM.kv) = some (.pointer (some ⟨x.h, 0, none⟩)) := by
  rw [← h.data] at hl
  have h1 := findK_data k ms
  rw [show findK LockD.name k (ms.map LkM.d) = _ from hl] at h1
  cases hf : findK LkM.key k ms with
  | none => rw [hf] at h1; cases h1
  | some x =>
    rw [hf] at h1
    injection h1 with h1
    obtain ⟨h2, h3⟩ := findK_some hf
    refine ⟨x, h3, h1.symm, h2, ?_⟩
    rw [mfind_map (key := LkM.key) (fun _ => rfl), hf]
    rfl
theorem Lks.gone (h : Lks S w bl ms ls) {k : Txt} (hl : lfind k ls = none) : mfind k (ms.map LkM.kv) = none := by
  rw [← h.data] at hl
  have h1 := findK_data k ms
  rw [show findK LockD.name k (ms.map LkM.d) = _ from hl] at h1
  rw [mfind_map (key := LkM.key) (fun _ => rfl)]
  cases hf : findK LkM.key k ms with
  | none => rfl
  | some x => rw [hf] at h1; cases h1
theorem Lks.len (h : Lks S w bl ms ls) : (ms.map LkM.kv).length = ls.length := by rw [← h.data]; simp
theorem Lks.apart_of (h : Lks S w bl ms ls) (hr : Rise (ls.map LockD.name)) (hx : x ∈ ms) (hy : y ∈ ms) (hne : y.d.name ≠ x.d.name) : LApart x y := by
  have h1 : ∀ a ∈ ms, ∀ b ∈ ms, a ≠ b → LApart a b := by
    have := h.apart
    intro a ha b hb hab
    have p1 : ms.Pairwise (fun a b => a ≠ b → LApart a b) := this.imp (fun {a b} (h : LApart a b) (_ : a ≠ b) => h)
    have p2 : ms.Pairwise (fun a b => b ≠ a → LApart b a) := this.imp (fun {a b} (h : LApart a b) (_ : b ≠ a) => h.symm)
    exact List.Pairwise.forall_of_forall_of_flip (R := fun a b => a ≠ b → LApart a b) (fun a _ h => absurd rfl h) p1 p2 ha hb hab
  exact h1 x hx y hy (fun e => hne (by rw [e]))
theorem name_inj (h : Lks S w bl ms ls) (hr : Rise (ls.map LockD.name)) (hx : x ∈ ms) (hy : y ∈ ms) (he : y.d.name = x.d.name) : y = x := by
  have h1 : Rise (ms.map LkM.key) := by rw [h.keys]; exact hr
  have h2 := findK_of (key := LkM.key) h1 hx rfl
  have h3 := findK_of (key := LkM.key) h1 hy he
  rw [h2] at h3
  injection h3 with h3
  exact h3.symm
theorem setK_kv (h : Lks S w bl ms ls) (hr : Rise (ls.map LockD.name)) (hx : x ∈ ms) {x' : LkM} (hh : x'.h = x.h) (hn : x'.d.name = x.d.name) : (setK LkM.key x' ms).map LkM.kv = ms.map LkM.kv := by
  unfold setK
  rw [List.map_map]
  refine List.map_congr_left fun y hy => ?_
  simp only [Function.comp]
  split
  · rename_i he
    have he2 : y.d.name = x.d.name := by rw [← hn]; simpa using he
    have := name_inj h hr hx hy he2
    subst this
    show (x'.d.name, Value.pointer (some ⟨x'.h, 0, .none⟩)) = _
    rw [hn, hh]
    rfl
  · rfl
theorem setK_data {x' : LkM} (ms : List LkM) : (setK LkM.key x' ms).map LkM.d = setK LockD.name x'.d (ms.map LkM.d) := by
  unfold setK
  rw [List.map_map, List.map_map]
  refine List.map_congr_left fun y _ => ?_
  simp only [Function.comp]
  split <;> rfl
/-- One lock is turned where it lies. -/
theorem Lks.turn (h : Lks S w bl ms ls) (hr : Rise (ls.map LockD.name)) (hx : x ∈ ms) {Z : Nat → Prop} (hk : Keep Z w w') (hz : ∀ j, S j → j ≠ x.h → x.v.ownBlock ≠ some j → Z j) {x' : LkM} (hx' : LkIs S' w' x') (hh : x'.h = x.h) (hn : x'.d.name = x.d.name) (hs : ∀ j, S j → S' j)
    (hv : Next w.heap.size x.v x'.v) : Lks S' w' bl (setK LkM.key x' ms) (setK LockD.name x'.d ls) := by
  have hxx := h.each x hx
  refine ⟨?_, ?_, ?_, by rw [setK_data, h.data], hs _ h.sb⟩
  · rw [setK_kv h hr hx hh hn]
    exact h.map.keep hk (hz _ h.sb (h.map.ne_blk hxx.blk) (h.map.ne_own hxx.row))
  · intro y hy
    rcases setK_mem hy with rfl | ⟨h2, h3⟩
    · exact hx'
    · have h3 : y.d.name ≠ x.d.name := by rw [← hn]; exact h3
      have ha := h.apart_of hr hx h2 h3
      have hy2 := h.each y h2
      refine (hy2.keep hk (hz _ hy2.sh ha.1.symm (hxx.vne hy2)) fun k hk2 => hz _ (hy2.sv k hk2) ?_ fun e => ha.2 k e hk2).widen hs
      intro e
      subst e
      exact hy2.vne hxx hk2
  · have hone : ∀ y ∈ ms, y.d.name ≠ x.d.name → LApart x' y := by
      intro y hy hne
      have ha := h.apart_of hr hx hy hne
      have hy2 := h.each y hy
      refine ⟨by rw [hh]; exact ha.1, fun k hk2 hk3 => ?_⟩
      rcases hv with hv | ⟨g, hg, hg2⟩
      · exact ha.2 k (hv ▸ hk2) hk3
      · rw [hg] at hk2
        injection hk2 with hk2
        have := hy2.vlt hk3
        omega
    have hr2 : ms.Pairwise fun a b => a.d.name ≠ b.d.name := by
      have : Rise (ms.map LkM.key) := by rw [h.keys]; exact hr
      unfold Rise at this
      rw [List.pairwise_map] at this
      exact this.imp before_ne
    unfold setK
    rw [List.pairwise_map]
    refine (h.apart.and hr2).imp_of_mem ?_
    intro a b ha hb ⟨h3, h4⟩
    by_cases e1 : a.d.name = x'.d.name
    · have e2 : b.d.name ≠ x'.d.name := fun e => h4 (e1.trans e.symm)
      simp only [e1, beq_self_eq_true, if_true, beq_iff_eq, e2, if_false]
      exact hone b hb (hn ▸ e2)
    · by_cases e2 : b.d.name = x'.d.name
      · simp only [e2, beq_self_eq_true, if_true, beq_iff_eq, e1, if_false]
        exact (hone a ha (hn ▸ e1)).symm
      · simp only [beq_iff_eq, e1, e2, if_false]
        exact h3
/-- A lock is gone. -/
theorem Lks.del (h : Lks S w bl ms ls) (k : Txt) (hm : MapIs Tryd.prog 9 w' bl (mdel k (ms.map LkM.kv))) {Z : Nat → Prop} (hk : Keep Z w w') (hz : ∀ j, S j → j ≠ bl → Z j) : Lks S w' bl (delK LkM.key k ms) (delK LockD.name k ls) := by
  rw [mdel_map (key := LkM.key) (fun _ => rfl)] at hm
  refine ⟨hm, fun x hx => ?_, h.apart.sublist List.filter_sublist, ?_, h.sb⟩
  · have h2 := h.each x (delK_mem.1 hx).1
    exact h2.keep hk (hz _ h2.sh fun e => h.map.ne_blk h2.blk e.symm) (fun k hk => hz _ (h2.sv k hk) fun e => h.map.ne_own h2.row (e ▸ hk))
  · rw [← h.data]
    unfold delK
    rw [List.filter_map]
    rfl
theorem insK_data (x : LkM) : ∀ ms : List LkM, (insK LkM.key x ms).map LkM.d = insK LockD.name x.d (ms.map LkM.d)
  | [] => rfl
  | y :: r => by
    rw [insK, List.map_cons, insK]
    split
    · rfl
    · rw [List.map_cons, insK_data x r]
/-- A lock has come. -/
theorem Lks.ins (h : Lks S w bl ms ls) (x : LkM) (hm : MapIs Tryd.prog 9 w' bl (mput x.d.name (.pointer (some ⟨x.h, 0, none⟩)) (ms.map LkM.kv))) {Z : Nat → Prop} (hk : Keep Z w w') (hz : ∀ j, S j → j ≠ bl → Z j) (hx : LkIs S' w' x) (hs : ∀ j, S j → S' j)
    (hn : ∀ l ∈ ls, l.name ≠ x.d.name) (h1 : w.heap.size ≤ x.h) (h2 : x.v.ownBlock = none) : Lks S' w' bl (insK LkM.key x ms) (insK LockD.name x.d ls) := by
  have hn2 : ∀ y ∈ ms, y.d.name ≠ x.d.name := fun y hy => hn y.d (by rw [← h.data]; exact List.mem_map.2 ⟨y, hy, rfl⟩)
  have e := mput_new (key := LkM.key) (f := LkM.kv) (fun _ => rfl) x ms hn2
  rw [show mput x.d.name (.pointer (some ⟨x.h, 0, .none⟩)) (ms.map LkM.kv) = _ from e] at hm
  have hone : ∀ y ∈ ms, LApart x y := fun y hy => ⟨fun e2 => by have := (h.each y hy).lt; omega, fun k hk2 => by rw [h2] at hk2; cases hk2⟩
  refine ⟨hm, fun y hy => ?_, ?_, by rw [insK_data, h.data], hs _ h.sb⟩
  · rcases insK_mem.1 hy with rfl | hy
    · exact hx
    · have h3 := h.each y hy
      exact (h3.keep hk (hz _ h3.sh fun e => h.map.ne_blk h3.blk e.symm) (fun k hk => hz _ (h3.sv k hk) fun e => h.map.ne_own h3.row (e ▸ hk))).widen hs
  · have gen : ∀ l : List LkM, (∀ y ∈ l, LApart x y) → l.Pairwise LApart → (insK LkM.key x l).Pairwise LApart := by
      intro l
      induction l with
      | nil => intro _ _; simp [insK]
      | cons y r ih =>
        intro g1 g2
        obtain ⟨c1, c2⟩ := List.pairwise_cons.1 g2
        unfold insK
        split
        · exact List.pairwise_cons.2 ⟨fun z hz => g1 z hz, g2⟩
        · refine List.pairwise_cons.2 ⟨fun z hz => ?_, ih (fun l hl => g1 l (by simp [hl])) c2⟩
          rcases insK_mem.1 hz with rfl | hz
          · exact (g1 y (by simp)).symm
          · exact c1 z hz
    exact gen ms hone h.apart
theorem Lks.made (w : World) : Lks (fun j => j = w.heap.size) (w.alloc (.map #[] 0)) w.heap.size [] [] := ⟨MapIs.made w _ _, (fun x hx => by cases hx), List.Pairwise.nil, rfl, rfl⟩
end

/-- The machine in block m: its pairs in block bp, its locks in block bl; S: the blocks of its locks. -/
structure MSt (S : Nat → Prop) (w : World) (m bp bl : Nat) (s : StD) : Prop where
  blk : Blk w m 95 (mchcells bp bl s.tok s.ss).toArray
  len : s.ss.length = 16
  pm : MapIs Tryd.prog 9 w bp (sk s.pairs)
  lk : ∃ ms, Lks S w bl ms s.locks
  nm : ¬ S m
  nb : ¬ S bp
section
variable {S S' : Nat → Prop} {w w' : World} {m bp bl : Nat} {s : StD}
theorem MSt.keep {Z : Nat → Prop} (h : MSt S w m bp bl s) (hk : Keep Z w w') (h1 : Z m) (h2 : Z bp) (h3 : ∀ j, S j → Z j) : MSt S w' m bp bl s := by
  obtain ⟨ms, hl⟩ := h.lk
  exact ⟨h.blk.keep hk h1, h.len, h.pm.keep hk h2, ⟨ms, hl.keep hk h3⟩, h.nm, h.nb⟩
theorem MSt.fresh (h : MSt S w m bp bl s) (hk : Fresh w w') : MSt S w' m bp bl s := h.keep hk trivial trivial (fun _ _ => trivial)
theorem MSt.sbl (h : MSt S w m bp bl s) : S bl := by
  obtain ⟨ms, hl⟩ := h.lk
  exact hl.sb
theorem MSt.ne (h : MSt S w m bp bl s) : bp ≠ bl := fun e => h.nb (e ▸ h.sbl)
theorem MSt.cell (h : MSt S w m bp bl s) (i : Nat) : w.cell? ⟨m, i, none⟩ = (mchcells bp bl s.tok s.ss)[i]? := by
  rw [h.blk.cell i]
  simp
theorem MSt.mp (h : MSt S w m bp bl s) : m ≠ bp := (h.pm.ne_blk h.blk).symm
end
end Go.Proofs.YtioinjcdkmiafaaDoor
namespace Go.Proofs.YtioinjcdkmiafaaDoor
set_option linter.unusedVariables false
set_option linter.unusedSimpArgs false
open Go.RowKit

theorem getD_at {l : List Int} {j : Nat} (h : j < l.length) : l.getD j 0 = l[j] := by rw [List.getD_eq_getElem?_getD, List.getElem?_eq_getElem h]; rfl
theorem OwnAt.cells {w : World} {base e n g o c : Nat} {xs : List Value} (h : OwnAt w base e (.slice (some ⟨g, o, none⟩) n c) n xs) : ∀ j u, xs[j]? = some u → w.cell? ⟨g, o + j, none⟩ = some u := by
  rcases h.2 with ⟨h1, _⟩ | ⟨g', o', cap, cur, h1, hb, hh, hn, hm, hs, hc⟩
  · cases h1
  · injection h1 with h1 h2 h3
    injection h1 with h1
    injection h1 with h4 h5 h6
    subst h4 h5 h3
    intro j u hu
    rw [cell_of_row w g (o + j) cur e (0, 0) hh]
    exact hc j u hu
theorem icells {w : World} {base e g o c : Nat} {q : List Int} (h : OwnAt w base e (.slice (some ⟨g, o, none⟩) q.length c) q.length (ics q)) : ∀ j, j < q.length → w.cell? ⟨g, o + j, none⟩ = some (.int .i64 (q.getD j 0)) := fun j hj => by
  refine h.cells j _ ?_
  rw [ics_get q j hj, getD_at hj]
theorem OwnAt.len_le {w : World} {base e n : Nat} {v : Value} {xs : List Value} (h : OwnAt w base e v n xs) : n ≤ maxLen := by
  rcases h.2 with ⟨_, rfl⟩ | ⟨g, o, cap, cur, rfl, hb, hh, hn, hm, hs, hc⟩
  · simp [maxLen]
  · omega
theorem idx_memq {q : List Int} {x : Int} (h : x ∈ q) : Lib.idxOf q x = (q.idxOf x : Int) := by
  have hk := List.idxOf_lt_length_of_mem h
  have := Lib.idxOf_hit q q.length (q.idxOf x) x hk (Nat.le_refl _) (by rw [getD_at hk]; exact List.getElem_idxOf hk) (fun j hj => by
    rw [getD_at (l := q) (by omega)]
    intro e
    have h2 := List.not_of_lt_findIdx (p := (· == x)) (xs := q) (i := j) hj
    simp [e] at h2)
  rwa [List.take_length] at this
theorem idx_none {q : List Int} {x : Int} (h : x ∉ q) : Lib.idxOf q x = -1 := by
  have := Lib.idxOf_miss q q.length x (fun j hj e => h (by rw [getD_at hj] at e; exact e ▸ List.getElem_mem hj))
  rwa [List.take_length] at this
/-- Without the client: what 'Delete' leaves. -/
theorem cut_filter {q : List Int} {x : Int} (hn : q.Nodup) (h : x ∈ q) : q.take (q.idxOf x) ++ q.drop (q.idxOf x + 1) = q.filter fun y => !(y == x) := by
  rw [← List.eraseIdx_eq_take_drop_succ, ← List.erase_eq_eraseIdx_of_idxOf (l := q) (a := x) rfl, hn.erase_eq_filter]
  refine List.filter_congr fun y _ => ?_
  simp [bne]
/-! ### texts, sorted -/
theorem encStr_map (ss : List Txt) : ss.map encStr = ss.map str := rfl
/-- A rising list is its own sorted one. -/
theorem before_lt : ∀ a b : Txt, bytesBefore a b = true ↔ a < b
  | [], [] => by simp [bytesBefore]
  | [], b :: s => by simp [bytesBefore]
  | a :: r, [] => by simp [bytesBefore]
  | a :: r, b :: s => by
    rw [List.cons_lt_cons_iff, ← before_lt r s]
    simp [bytesBefore]
theorem rise_sort {ss : List Txt} (hn : ss.Nodup) : Rise ((ss.mergeSort fun x y => decide (x ≤ y)).map id) := by
  rw [List.map_id]
  have hp := List.mergeSort_perm ss fun x y => decide (x ≤ y)
  have h1 : (ss.mergeSort fun x y => decide (x ≤ y)).Pairwise fun x y => decide (x ≤ y) = true := List.pairwise_mergeSort (fun a b c h1 h2 => by simp only [decide_eq_true_eq] at *; exact List.le_trans h1 h2) (fun a b => by simp only [Bool.or_eq_true, decide_eq_true_eq]; exact List.le_total a b) ss
  have h2 : (ss.mergeSort fun x y => decide (x ≤ y)).Pairwise fun x y => x ≠ y := hp.symm.pairwise hn (fun h => h.symm)
  refine (h1.and h2).imp ?_
  rintro a b ⟨h3, h4⟩
  rcases WideAt.bytes_total a b h4 with h5 | h5
  · exact h5
  · exact absurd ((before_lt b a).1 h5) (by simpa [List.not_lt] using h3)
theorem sort_rise {ss ks : List Txt} (hr : Rise ks) (hp : ss.Perm ks) : (ss.mergeSort fun x y => decide (x ≤ y)) = ks :=
  rise_ext (key := id) (rise_sort (hp.nodup_iff.2 hr.nodup)) (by rw [List.map_id]; exact hr) fun x => (((List.mergeSort_perm ss _).trans hp).mem_iff)
end Go.Proofs.YtioinjcdkmiafaaDoor
namespace Go.Proofs.YtioinjcdkmiafaaDoor
set_option linter.unusedVariables false
set_option linter.unusedSimpArgs false
open Go.RowKit

theorem lkv_zero (w : World) : (zeroValue 115).run Tryd.prog w = .ok (.pointer none) w := by kernel_rfl
/-- 'm.locks[k]', for the walk. -/
theorem look_lk {S : Nat → Prop} {w : World} {bl : Nat} {ms : List LkM} {ls : List LockD} (h : Lks S w bl ms ls) {k : Txt} (hk : k.length ≤ 1099511627776) (x : Value) (hx : (mfind k (ms.map LkM.kv)).getD (.pointer none) = x) (n : Nat) :
    (Instr.lookup 88 (.map (some bl)) (str k) false).run Tryd.prog (w.drewN n) = .ok x (w.drewN n) := by
  have h1 := MapIs.look (h.map.keep (Keep.drewN (Keep.refl (fun _ => True) w) n) trivial) Tryd.underlying9 Tryd.underlying88 (lkv_zero _) (l := k) (by simp only [maxLen]; omega)
  rw [hx] at h1
  exact h1
theorem lk_find {S : Nat → Prop} {w : World} {bl : Nat} {ms : List LkM} {ls : List LockD} (h : Lks S w bl ms ls) {k : Txt} {l : LockD} (hl : lfind k ls = some l) : ∃ x ∈ ms, x.d = l ∧ x.d.name = k ∧ LkIs S w x ∧ (mfind k (ms.map LkM.kv)).getD (.pointer none) = .pointer (some ⟨x.h, 0, none⟩) := by
  obtain ⟨x, h1, h2, h3, h4⟩ := h.find hl
  exact ⟨x, h1, h2, h3, h.each x h1, by rw [h4]; rfl⟩
theorem LkIs.cells {S : Nat → Prop} {w : World} {x : LkM} (h : LkIs S w x) : w.cell? ⟨x.h, 0, none⟩ = some (.int .i64 x.d.holder) ∧ w.cell? ⟨x.h, 1, none⟩ = some (.int .i64 x.d.token) ∧ w.cell? ⟨x.h, 2, none⟩ = some x.v := by
  have h0 := h.blk.cell 0
  have h1 := h.blk.cell 1
  have h2 := h.blk.cell 2
  simp at h0 h1 h2
  exact ⟨h0, h1, h2⟩
theorem MSt.three {S : Nat → Prop} {w : World} {m bp bl : Nat} {s : StD} (h : MSt S w m bp bl s) : w.cell? ⟨m, 0, none⟩ = some (.map (some bp)) ∧ w.cell? ⟨m, 1, none⟩ = some (.map (some bl)) ∧ w.cell? ⟨m, 2, none⟩ = some (.int .i64 s.tok) := ⟨h.cell 0, h.cell 1, h.cell 2⟩
theorem mcells_tok (bp bl : Nat) (tok tok' : Int) (ss : List MSess) : (mchcells bp bl tok ss).toArray.setIfInBounds 2 (.int .i64 tok') = (mchcells bp bl tok' ss).toArray := rfl
/-- Without the lock k. -/
theorem MSt.cut {S : Nat → Prop} {w w' : World} {m bp bl : Nat} {s : StD} {ms : List LkM} (h : MSt S w m bp bl s) (hl : Lks S w bl ms s.locks) (k : Txt) (hm : MapIs Tryd.prog 9 w' bl (mdel k (ms.map LkM.kv))) (hk : Keep (fun j => j ≠ bl) w w') :
    MSt S w' m bp bl { s with locks := delK LockD.name k s.locks } :=
  ⟨h.blk.keep hk (fun e => h.nm (e ▸ hl.sb)), h.len, h.pm.keep hk h.ne, ⟨_, hl.del k hm hk (fun _ _ h => h)⟩, h.nm, h.nb⟩
theorem sk_key (q : List Int) (c : Int) : ics (c :: q) = .int .i64 c :: ics q := rfl

end Go.Proofs.YtioinjcdkmiafaaDoor
namespace Go.Proofs.YtioinjcdkmiafaaDoor
set_option linter.unusedVariables false
set_option linter.unusedSimpArgs false
open Go.RowKit

end Go.Proofs.YtioinjcdkmiafaaDoor
namespace Go.Proofs.YtioinjcdkmiafaaDoor
set_option linter.unusedVariables false
set_option linter.unusedSimpArgs false
open Go.RowKit

theorem str_info : (Tryd.prog.info? 9).map (fun i => (i.zero, i.size, i.bytes)) = some (some (str []), 1, 16) := by kernel_rfl
structure NamesAt (P : Program) (w wr : World) (b r : Nat) (ps : List Kv) (l : Value) (xs todo : List Txt) : Prop where
  rng : RangeIs P 9 wr b r ps todo
  own : wr.ownsRow w.heap.size 9 1 l xs.length (xs.map str)
  perm : (xs ++ todo).Perm (ps.map Prod.fst)
  fresh : Fresh w wr
theorem range_ne_own {P : Program} {k : TypeId} {w : World} {b r base e s n : Nat} {ps : List Kv} {todo : List Txt} {v : Value} {xs : List Value} (h : RangeIs P k w b r ps todo) (ho : w.ownsRow base e s v n xs) : v.ownBlock ≠ some r := by
  obtain ⟨cnt, h⟩ := h
  exact fun e => row_ne_iter ho h e.symm
theorem perm_step {xs todo ks : List Txt} {t : Txt} (h : (xs ++ todo).Perm ks) (ht : t ∈ todo) (hn : todo.Nodup) : ((xs ++ [t]) ++ todo.filter fun x => !(x == t)).Perm ks := by
  refine List.Perm.trans ?_ h
  rw [List.append_assoc]
  refine List.Perm.append_left _ ?_
  have e : (todo.filter fun x => !(x == t)) = todo.erase t := by
    rw [hn.erase_eq_filter]
    refine List.filter_congr fun y _ => ?_
    simp [bne]
  rw [e]
  exact (List.perm_cons_erase ht).symm

end Go.Proofs.YtioinjcdkmiafaaDoor
