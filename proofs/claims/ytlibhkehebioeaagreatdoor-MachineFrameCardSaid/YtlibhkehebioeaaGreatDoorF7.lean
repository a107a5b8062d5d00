/-
  MERGED: Lk Cells LQue Pass
-/
import Derived.Test.YtlibhkehebioeaaGreatDoorF6
import Derived.Test.YtlibhkehebioeaaGreatDoorF1
import Derived.Deep.MidRow
import Derived.Test.YtlibhkehebioeaaGreatDoorF4
import Derived.Sort.OwnSorted
import Derived.BigRegion
namespace Go.Proofs.YtlibhkehebioeaaGreatDoor
set_option linter.unusedVariables false
set_option linter.unusedSimpArgs false
open Go.RowKit

/-! ### maps and rising lists -/
section
variable {α : Type} {key : α → Txt} {f : α → Kv}
theorem mfind_map (hf : ∀ x, (f x).1 = key x) (k : Txt) (l : List α) : mfind k (l.map f) = (findK key k l).map fun x => (f x).2 := by
  unfold mfind findK
  rw [List.find?_map]
  have e : ((fun p : Kv => p.1 == k) ∘ f) = fun x => key x == k := by funext x; simp [hf]
  rw [e, Option.map_map]
  rfl
theorem mdel_map (hf : ∀ x, (f x).1 = key x) (k : Txt) (l : List α) : mdel k (l.map f) = (delK key k l).map f := by
  unfold mdel delK
  rw [List.filter_map]
  have e : ((fun p : Kv => !(p.1 == k)) ∘ f) = fun x => !(key x == k) := by funext x; simp [hf]
  rw [e]
theorem mins_map (hf : ∀ x, (f x).1 = key x) (x : α) : ∀ l : List α, mins (f x) (l.map f) = (insK key x l).map f
  | [] => rfl
  | y :: r => by
    rw [List.map_cons, mins, insK, hf, hf]
    split
    · rfl
    · rw [mins_map hf x r]; rfl
theorem mput_new (hf : ∀ x, (f x).1 = key x) (x : α) (l : List α) (hn : ∀ y ∈ l, key y ≠ key x) : mput (key x) (f x).2 (l.map f) = (insK key x l).map f := by
  unfold mput
  rw [mdel_map hf, delK_none hn]
  have e : ((key x, (f x).2) : Kv) = f x := by rw [← hf]
  rw [e, mins_map hf]
theorem setK_ins {x : α} {l : List α} (hr : Rise (l.map key)) (hx : ∃ y ∈ l, key y = key x) : insK key x (delK key (key x) l) = setK key x l := by
  refine rise_ext (key := key) (insK_rise (delK_rise hr) (fun y hy => (delK_mem.1 hy).2)) (by rw [setK_keys]; exact hr) fun z => ?_
  rw [insK_mem, delK_mem]
  constructor
  · rintro (rfl | ⟨h1, h2⟩)
    · obtain ⟨y, hy, he⟩ := hx
      exact List.mem_map.2 ⟨y, hy, by simp [he]⟩
    · exact List.mem_map.2 ⟨z, h1, by simp [h2]⟩
  · exact setK_mem
theorem mput_old (hf : ∀ x, (f x).1 = key x) (x : α) (l : List α) (hr : Rise (l.map key)) (hx : ∃ y ∈ l, key y = key x) : mput (key x) (f x).2 (l.map f) = (setK key x l).map f := by
  unfold mput
  rw [mdel_map hf]
  have e : ((key x, (f x).2) : Kv) = f x := by rw [← hf]
  rw [e, mins_map hf, setK_ins hr hx]
end
theorem pdel_eq (k : Txt) (ps : Ps) : pdel k ps = delK Prod.fst k ps := rfl
theorem pins_eq (x : Txt × Txt) : ∀ ps : Ps, pins x ps = insK Prod.fst x ps
  | [] => rfl
  | y :: r => by
    rw [pins, insK]
    split
    · rfl
    · rw [pins_eq x r]
theorem pput_eq (k v : Txt) (ps : Ps) (hr : Rise (ps.map Prod.fst)) : pput k v ps = pputD k v ps := by
  unfold pput pputD
  rw [pins_eq, pdel_eq]
  cases hf : pfindD k ps with
  | none => rw [delK_none (findK_none hf)]
  | some x =>
    obtain ⟨h1, h2⟩ := findK_some hf
    exact setK_ins (key := Prod.fst) (x := (k, v)) hr ⟨x, h2, h1⟩
theorem pfind_eq (k : Txt) (ps : Ps) : pfind k ps = (pfindD k ps).map Prod.snd := rfl

/-! ### locks in memory -/
structure LkM where
  d : LockD
  h : Nat
  v : Value
abbrev LkM.key (x : LkM) : Txt := x.d.name
def LkM.kv (x : LkM) : Kv := (x.d.name, .pointer (some ⟨x.h, 0, none⟩))
structure LkIs (S : Nat → Prop) (w : World) (x : LkM) : Prop where
  blk : Blk w x.h 101 #[.int .i64 x.d.holder, .int .i64 x.d.token, x.v]
  row : OwnAt w 0 3 x.v x.d.queue.length (ics x.d.queue)
  sh : S x.h
  sv : ∀ k, x.v.ownBlock = some k → S k
def LApart (a b : LkM) : Prop := a.h ≠ b.h ∧ ∀ k, a.v.ownBlock = some k → b.v.ownBlock ≠ some k
structure Lks (S : Nat → Prop) (w : World) (bl : Nat) (ms : List LkM) (ls : List LockD) : Prop where
  map : MapIs Tryz.prog 9 w bl (ms.map LkM.kv)
  each : ∀ x ∈ ms, LkIs S w x
  apart : ms.Pairwise LApart
  data : ms.map LkM.d = ls
  sb : S bl
theorem LApart.symm {a b : LkM} (h : LApart a b) : LApart b a := ⟨h.1.symm, fun k hk e => h.2 k e hk⟩
section
variable {S S' : Nat → Prop} {w w' : World} {bl : Nat} {ms : List LkM} {ls : List LockD} {x y : LkM}
theorem LkIs.keep {Z : Nat → Prop} (h : LkIs S w x) (hk : Keep Z w w') (h1 : Z x.h) (h2 : ∀ k, x.v.ownBlock = some k → Z k) : LkIs S w' x := ⟨h.blk.keep hk h1, h.row.keep hk h2, h.sh, h.sv⟩
theorem LkIs.widen (h : LkIs S w x) (hs : ∀ j, S j → S' j) : LkIs S' w x := ⟨h.blk, h.row, hs _ h.sh, fun k hk => hs _ (h.sv k hk)⟩
theorem LkIs.lt (h : LkIs S w x) : x.h < w.heap.size := h.blk.lt
theorem LkIs.vlt (h : LkIs S w x) {k : Nat} (hk : x.v.ownBlock = some k) : k < w.heap.size := (h.row.lt hk).2
theorem LkIs.vne (h : LkIs S w x) (k : LkIs S w y) : x.v.ownBlock ≠ some y.h := h.row.ne_blk k.blk (by decide)
theorem MapIs.ne_own {P : Program} {k : TypeId} {b base e n : Nat} {ps : List Kv} {v : Value} {xs : List Value} (h : MapIs P k w b ps) (ho : OwnAt w base e v n xs) : v.ownBlock ≠ some b := by
  rcases ho.2 with ⟨rfl, _⟩ | ⟨g, o, cap, cur, rfl, _, hh, _⟩
  · simp [Value.ownBlock]
  · intro he
    have : g = b := by simpa [Value.ownBlock] using he
    subst this
    exact h.ne_blk (g := g) (t := e) hh rfl
theorem Lks.keep {Z : Nat → Prop} (h : Lks S w bl ms ls) (hk : Keep Z w w') (hz : ∀ j, S j → Z j) : Lks S w' bl ms ls :=
  ⟨h.map.keep hk (hz _ h.sb), fun x hx => (h.each x hx).keep hk (hz _ (h.each x hx).sh) (fun k hk => hz _ ((h.each x hx).sv k hk)), h.apart, h.data, h.sb⟩
theorem Lks.widen (h : Lks S w bl ms ls) (hs : ∀ j, S j → S' j) : Lks S' w bl ms ls := ⟨h.map, fun x hx => (h.each x hx).widen hs, h.apart, h.data, hs _ h.sb⟩
theorem Lks.tight (h : Lks S w bl ms ls) : Lks (fun j => S j ∧ j < w.heap.size) w bl ms ls :=
  ⟨h.map, fun x hx => ⟨(h.each x hx).blk, (h.each x hx).row, ⟨(h.each x hx).sh, (h.each x hx).lt⟩, fun k hk => ⟨(h.each x hx).sv k hk, (h.each x hx).vlt hk⟩⟩, h.apart, h.data, ⟨h.sb, h.map.lt⟩⟩
theorem Lks.keys (h : Lks S w bl ms ls) : ms.map LkM.key = ls.map LockD.name := by
  rw [← h.data, List.map_map]
  rfl
theorem findK_data (k : Txt) (ms : List LkM) : findK LockD.name k (ms.map LkM.d) = (findK LkM.key k ms).map LkM.d := by
  unfold findK
  rw [List.find?_map]
  rfl
/-- The lock of a name. -/
theorem Lks.find (h : Lks S w bl ms ls) {k : Txt} {l : LockD} (hl : lfind k ls = some l) : ∃ x ∈ ms, x.d = l ∧ x.d.name = k ∧ mfind k (ms.map LkM.kv) = some (.pointer (some ⟨x.h, 0, none⟩)) := by
  rw [← h.data] at hl
  have h1 := findK_data k ms
  rw [show findK LockD.name k (ms.map LkM.d) = _ from hl] at h1
  cases hf : findK LkM.key k ms with
  | none => rw [hf] at h1; cases h1
  | some x =>
    rw [hf] at h1
    injection h1 with h1
    obtain ⟨h2, h3⟩ := findK_some hf
    refine ⟨x, h3, h1.symm, h2, ?_⟩
    rw [mfind_map (key := LkM.key) (fun _ => rfl), hf]
    rfl
theorem Lks.gone (h : Lks S w bl ms ls) {k : Txt} (hl : lfind k ls = none) : mfind k (ms.map LkM.kv) = none := by
  rw [← h.data] at hl
  have h1 := findK_data k ms
  rw [show findK LockD.name k (ms.map LkM.d) = _ from hl] at h1
  rw [mfind_map (key := LkM.key) (fun _ => rfl)]
  cases hf : findK LkM.key k ms with
  | none => rfl
  | some x => rw [hf] at h1; cases h1
theorem Lks.len (h : Lks S w bl ms ls) : (ms.map LkM.kv).length = ls.length := by rw [← h.data]; simp
theorem Lks.apart_of (h : Lks S w bl ms ls) (hr : Rise (ls.map LockD.name)) (hx : x ∈ ms) (hy : y ∈ ms) (hne : y.d.name ≠ x.d.name) : LApart x y := by
  have h1 : ∀ a ∈ ms, ∀ b ∈ ms, a ≠ b → LApart a b := by
    have := h.apart
    intro a ha b hb hab
    have p1 : ms.Pairwise (fun a b => a ≠ b → LApart a b) := this.imp (fun {a b} (h : LApart a b) (_ : a ≠ b) => h)
    have p2 : ms.Pairwise (fun a b => b ≠ a → LApart b a) := this.imp (fun {a b} (h : LApart a b) (_ : b ≠ a) => h.symm)
    exact List.Pairwise.forall_of_forall_of_flip (R := fun a b => a ≠ b → LApart a b) (fun a _ h => absurd rfl h) p1 p2 ha hb hab
  exact h1 x hx y hy (fun e => hne (by rw [e]))
theorem name_inj (h : Lks S w bl ms ls) (hr : Rise (ls.map LockD.name)) (hx : x ∈ ms) (hy : y ∈ ms) (he : y.d.name = x.d.name) : y = x := by
  have h1 : Rise (ms.map LkM.key) := by rw [h.keys]; exact hr
  have h2 := findK_of (key := LkM.key) h1 hx rfl
  have h3 := findK_of (key := LkM.key) h1 hy he
  rw [h2] at h3
  injection h3 with h3
  exact h3.symm
theorem setK_kv (h : Lks S w bl ms ls) (hr : Rise (ls.map LockD.name)) (hx : x ∈ ms) {x' : LkM} (hh : x'.h = x.h) (hn : x'.d.name = x.d.name) : (setK LkM.key x' ms).map LkM.kv = ms.map LkM.kv := by
  unfold setK
  rw [List.map_map]
  refine List.map_congr_left fun y hy => ?_
  simp only [Function.comp]
  split
  · rename_i he
    have he2 : y.d.name = x.d.name := by rw [← hn]; simpa using he
    have := name_inj h hr hx hy he2
    subst this
    show (x'.d.name, Value.pointer (some ⟨x'.h, 0, .none⟩)) = _
    rw [hn, hh]
    rfl
  · rfl
theorem setK_data {x' : LkM} (ms : List LkM) : (setK LkM.key x' ms).map LkM.d = setK LockD.name x'.d (ms.map LkM.d) := by
  unfold setK
  rw [List.map_map, List.map_map]
  refine List.map_congr_left fun y _ => ?_
  simp only [Function.comp]
  split <;> rfl
/-- One lock is turned where it lies. -/
theorem Lks.turn (h : Lks S w bl ms ls) (hr : Rise (ls.map LockD.name)) (hx : x ∈ ms) {Z : Nat → Prop} (hk : Keep Z w w') (hz : ∀ j, S j → j ≠ x.h → x.v.ownBlock ≠ some j → Z j) {x' : LkM} (hx' : LkIs S' w' x') (hh : x'.h = x.h) (hn : x'.d.name = x.d.name) (hs : ∀ j, S j → S' j)
    (hv : Next w.heap.size x.v x'.v) : Lks S' w' bl (setK LkM.key x' ms) (setK LockD.name x'.d ls) := by
  have hxx := h.each x hx
  refine ⟨?_, ?_, ?_, by rw [setK_data, h.data], hs _ h.sb⟩
  · rw [setK_kv h hr hx hh hn]
    exact h.map.keep hk (hz _ h.sb (h.map.ne_blk hxx.blk) (h.map.ne_own hxx.row))
  · intro y hy
    rcases setK_mem hy with rfl | ⟨h2, h3⟩
    · exact hx'
    · have h3 : y.d.name ≠ x.d.name := by rw [← hn]; exact h3
      have ha := h.apart_of hr hx h2 h3
      have hy2 := h.each y h2
      refine (hy2.keep hk (hz _ hy2.sh ha.1.symm (hxx.vne hy2)) fun k hk2 => hz _ (hy2.sv k hk2) ?_ fun e => ha.2 k e hk2).widen hs
      intro e
      subst e
      exact hy2.vne hxx hk2
  · have hone : ∀ y ∈ ms, y.d.name ≠ x.d.name → LApart x' y := by
      intro y hy hne
      have ha := h.apart_of hr hx hy hne
      have hy2 := h.each y hy
      refine ⟨by rw [hh]; exact ha.1, fun k hk2 hk3 => ?_⟩
      rcases hv with hv | ⟨g, hg, hg2⟩
      · exact ha.2 k (hv ▸ hk2) hk3
      · rw [hg] at hk2
        injection hk2 with hk2
        have := hy2.vlt hk3
        omega
    have hr2 : ms.Pairwise fun a b => a.d.name ≠ b.d.name := by
      have : Rise (ms.map LkM.key) := by rw [h.keys]; exact hr
      unfold Rise at this
      rw [List.pairwise_map] at this
      exact this.imp before_ne
    unfold setK
    rw [List.pairwise_map]
    refine (h.apart.and hr2).imp_of_mem ?_
    intro a b ha hb ⟨h3, h4⟩
    by_cases e1 : a.d.name = x'.d.name
    · have e2 : b.d.name ≠ x'.d.name := fun e => h4 (e1.trans e.symm)
      simp only [e1, beq_self_eq_true, if_true, beq_iff_eq, e2, if_false]
      exact hone b hb (hn ▸ e2)
    · by_cases e2 : b.d.name = x'.d.name
      · simp only [e2, beq_self_eq_true, if_true, beq_iff_eq, e1, if_false]
        exact (hone a ha (hn ▸ e1)).symm
      · simp only [beq_iff_eq, e1, e2, if_false]
        exact h3
/-- A lock is gone. -/
theorem Lks.del (h : Lks S w bl ms ls) (k : Txt) (hm : MapIs Tryz.prog 9 w' bl (mdel k (ms.map LkM.kv))) {Z : Nat → Prop} (hk : Keep Z w w') (hz : ∀ j, S j → j ≠ bl → Z j) : Lks S w' bl (delK LkM.key k ms) (delK LockD.name k ls) := by
  rw [mdel_map (key := LkM.key) (fun _ => rfl)] at hm
  refine ⟨hm, fun x hx => ?_, h.apart.sublist List.filter_sublist, ?_, h.sb⟩
  · have h2 := h.each x (delK_mem.1 hx).1
    exact h2.keep hk (hz _ h2.sh fun e => h.map.ne_blk h2.blk e.symm) (fun k hk => hz _ (h2.sv k hk) fun e => h.map.ne_own h2.row (e ▸ hk))
  · rw [← h.data]
    unfold delK
    rw [List.filter_map]
    rfl
theorem insK_data (x : LkM) : ∀ ms : List LkM, (insK LkM.key x ms).map LkM.d = insK LockD.name x.d (ms.map LkM.d)
  | [] => rfl
  | y :: r => by
    rw [insK, List.map_cons, insK]
    split
    · rfl
    · rw [List.map_cons, insK_data x r]
/-- A lock has come. -/
theorem Lks.ins (h : Lks S w bl ms ls) (x : LkM) (hm : MapIs Tryz.prog 9 w' bl (mput x.d.name (.pointer (some ⟨x.h, 0, none⟩)) (ms.map LkM.kv))) {Z : Nat → Prop} (hk : Keep Z w w') (hz : ∀ j, S j → j ≠ bl → Z j) (hx : LkIs S' w' x) (hs : ∀ j, S j → S' j)
    (hn : ∀ l ∈ ls, l.name ≠ x.d.name) (h1 : w.heap.size ≤ x.h) (h2 : x.v.ownBlock = none) : Lks S' w' bl (insK LkM.key x ms) (insK LockD.name x.d ls) := by
  have hn2 : ∀ y ∈ ms, y.d.name ≠ x.d.name := fun y hy => hn y.d (by rw [← h.data]; exact List.mem_map.2 ⟨y, hy, rfl⟩)
  have e := mput_new (key := LkM.key) (f := LkM.kv) (fun _ => rfl) x ms hn2
  rw [show mput x.d.name (.pointer (some ⟨x.h, 0, .none⟩)) (ms.map LkM.kv) = _ from e] at hm
  have hone : ∀ y ∈ ms, LApart x y := fun y hy => ⟨fun e2 => by have := (h.each y hy).lt; omega, fun k hk2 => by rw [h2] at hk2; cases hk2⟩
  refine ⟨hm, fun y hy => ?_, ?_, by rw [insK_data, h.data], hs _ h.sb⟩
  · rcases insK_mem.1 hy with rfl | hy
    · exact hx
    · have h3 := h.each y hy
      exact (h3.keep hk (hz _ h3.sh fun e => h.map.ne_blk h3.blk e.symm) (fun k hk => hz _ (h3.sv k hk) fun e => h.map.ne_own h3.row (e ▸ hk))).widen hs
  · have gen : ∀ l : List LkM, (∀ y ∈ l, LApart x y) → l.Pairwise LApart → (insK LkM.key x l).Pairwise LApart := by
      intro l
      induction l with
      | nil => intro _ _; simp [insK]
      | cons y r ih =>
        intro g1 g2
        obtain ⟨c1, c2⟩ := List.pairwise_cons.1 g2
        unfold insK
        split
        · exact List.pairwise_cons.2 ⟨fun z hz => g1 z hz, g2⟩
        · refine List.pairwise_cons.2 ⟨fun z hz => ?_, ih (fun l hl => g1 l (by simp [hl])) c2⟩
          rcases insK_mem.1 hz with rfl | hz
          · exact (g1 y (by simp)).symm
          · exact c1 z hz
    exact gen ms hone h.apart
theorem Lks.made (w : World) : Lks (fun j => j = w.heap.size) (w.alloc (.map #[] 0)) w.heap.size [] [] := ⟨MapIs.made w _ _, (fun x hx => by cases hx), List.Pairwise.nil, rfl, rfl⟩
end

/-- The machine in block m: its pairs in block bp, its locks in block bl; S: the blocks of its locks. -/
structure MSt (S : Nat → Prop) (w : World) (m bp bl : Nat) (s : StD) : Prop where
  blk : Blk w m 91 (mcells bp bl s.tok s.ss).toArray
  len : s.ss.length = 16
  pm : MapIs Tryz.prog 9 w bp (sk s.pairs)
  lk : ∃ ms, Lks S w bl ms s.locks
  nm : ¬ S m
  nb : ¬ S bp
section
variable {S S' : Nat → Prop} {w w' : World} {m bp bl : Nat} {s : StD}
theorem MSt.keep {Z : Nat → Prop} (h : MSt S w m bp bl s) (hk : Keep Z w w') (h1 : Z m) (h2 : Z bp) (h3 : ∀ j, S j → Z j) : MSt S w' m bp bl s := by
  obtain ⟨ms, hl⟩ := h.lk
  exact ⟨h.blk.keep hk h1, h.len, h.pm.keep hk h2, ⟨ms, hl.keep hk h3⟩, h.nm, h.nb⟩
theorem MSt.fresh (h : MSt S w m bp bl s) (hk : Fresh w w') : MSt S w' m bp bl s := h.keep hk trivial trivial (fun _ _ => trivial)
theorem MSt.sbl (h : MSt S w m bp bl s) : S bl := by
  obtain ⟨ms, hl⟩ := h.lk
  exact hl.sb
theorem MSt.ne (h : MSt S w m bp bl s) : bp ≠ bl := fun e => h.nb (e ▸ h.sbl)
theorem MSt.cell (h : MSt S w m bp bl s) (i : Nat) : w.cell? ⟨m, i, none⟩ = (mcells bp bl s.tok s.ss)[i]? := by
  rw [h.blk.cell i]
  simp
theorem MSt.mp (h : MSt S w m bp bl s) : m ≠ bp := (h.pm.ne_blk h.blk).symm
end
end Go.Proofs.YtlibhkehebioeaaGreatDoor
namespace Go.Proofs.YtlibhkehebioeaaGreatDoor
set_option linter.unusedVariables false
set_option linter.unusedSimpArgs false
open Go.RowKit

theorem Blk.there {w : World} {g : Nat} {t : TypeId} {cs : Array Value} (h : Blk w g t cs) : w.there g 0 cs.size := fun j hj => by
  rw [h.cell (0 + j), Nat.zero_add]
  exact ⟨by simp [hj], h.frozen _⟩
theorem Blk.setCells {g : Nat} {t : TypeId} : ∀ (vs : List Value) (o : Nat) (w : World) (cs : Array Value), Blk w g t cs → o + vs.length ≤ cs.size → ∃ cs' : Array Value, Blk (w.setCells g o vs) g t cs' ∧ cs'.toList = cs.toList.take o ++ vs ++ cs.toList.drop (o + vs.length)
  | [], o, w, cs, h, _ => ⟨cs, h, by simp⟩
  | v :: r, o, w, cs, h, hl => by
    have hl' : o + (r.length + 1) ≤ cs.size := by simpa using hl
    obtain ⟨cs', h1, h2⟩ := Blk.setCells r (o + 1) _ _ (h.set o v) (by simp; omega)
    refine ⟨cs', h1, ?_⟩
    rw [h2, Array.toList_setIfInBounds]
    have ho : o < cs.toList.length := by simp; omega
    have e1 : (cs.toList.set o v).take (o + 1) = cs.toList.take o ++ [v] := by
      rw [List.take_succ_eq_append_getElem (by simpa using ho), List.take_set_of_le (Nat.le_refl _)]
      simp
    have e2 : (cs.toList.set o v).drop (o + 1 + r.length) = cs.toList.drop (o + (v :: r).length) := by
      rw [List.drop_set_of_lt (by omega)]
      congr 1
      simp
      omega
    rw [e1, e2]
    simp
theorem Keep.setCells {Z : Nat → Prop} {a : World} {g : Nat} : ∀ (vs : List Value) (o : Nat) (w : World), Keep Z a w → (g < a.heap.size → ¬ Z g) → Keep Z a (w.setCells g o vs)
  | [], _, _, h, _ => h
  | v :: r, o, w, h, hg => Keep.setCells r (o + 1) _ (h.setCell hg v) hg
theorem size_setCells {g : Nat} : ∀ (vs : List Value) (o : Nat) (w : World), (w.setCells g o vs).heap.size = w.heap.size
  | [], _, _ => rfl
  | v :: r, o, w => by
    rw [World.setCells, size_setCells r (o + 1)]
    simp [World.setCell]
theorem Blk.whole {w : World} {g : Nat} {t : TypeId} {cs0 cells : Array Value} (h : Blk w g t cs0) (hs : cs0.size = cells.size) : Blk (w.setCells g 0 cells.toList) g t cells := by
  obtain ⟨cs', h1, h2⟩ := Blk.setCells cells.toList 0 w cs0 h (by simp [hs])
  have : cs' = cells := by
    apply Array.ext'
    rw [h2]
    simp [hs]
  rwa [this] at h1
theorem wpList_store_new {P : Program} {w : World} {T : TypeId} {ops : Array Oper} {rest : List Oper} {o : Oper} {a : Act} {Q : Exit → Act → World → Prop} (hgd : o.guard = none) (x y : Operand) (ho : o.op = .store T x y) (cs0 cells : Array Value) (te : TypeId)
    (hx : a.eval x = .pointer (some ⟨w.heap.size, 0, none⟩)) (hy : a.eval y = .agg cells) (hsz : cs0.size = cells.size) (hi : (P.info? T).map (·.size) = some cells.size) (h1 : cells.all (·.oneCell') = true)
    (h : ∀ w', Blk w' w.heap.size te cells → Fresh w w' → w'.heap.size = w.heap.size + 1 → wpList P ops Q rest (a.put o.dst undef) w') :
    wpList P ops Q (o :: rest) a (w.alloc (.cells cs0 te)) := by
  have hb := Blk.new w te cs0
  have ht := hb.there
  rw [hsz] at ht
  refine wpList_store_mid hgd T x y ho w.heap.size 0 cells hx hy ht hi h1 (h _ (hb.whole hsz) ?_ ?_)
  · exact Keep.setCells _ _ _ ((Keep.refl _ w).alloc _) (fun h => absurd h (Nat.lt_irrefl _))
  · rw [size_setCells]
    simp

/-- A store of several cells, the world behind it a letter. -/
theorem wpList_store_to {P : Program} {ops : Array Oper} {rest : List Oper} {op : Oper} {a : Act} {w : World} {Q : Exit → Act → World → Prop} (hgd : op.guard = none) (ty : TypeId) (x y : Operand) (ho : op.op = .store ty x y)
    (b o : Nat) (cells : Array Value) (hx : a.eval x = .pointer (some ⟨b, o, none⟩)) (hy : a.eval y = .agg cells)
    (ht : w.there b o cells.size) (hi : (P.info? ty).map (·.size) = some cells.size) (h1 : cells.all (·.oneCell') = true)
    (h : ∀ w', Hid (w' = w.setCells b o cells.toList) → wpList P ops Q rest (a.put op.dst undef) w') : wpList P ops Q (op :: rest) a w :=
  wpList_store_mid hgd ty x y ho b o cells hx hy ht hi h1 (h _ (Lib.hid rfl))
/-- What 'buildSlice' makes of an element of many cells. -/
theorem fold_zip_at : ∀ (l : List Value) (o : Nat) (zs : Array Value), o + l.length ≤ zs.size → ((l.zipIdx o).foldl (fun cs x => cs.setIfInBounds x.snd x.fst) zs).toList = zs.toList.take o ++ l ++ zs.toList.drop (o + l.length)
  | [], o, zs, _ => by simp
  | v :: r, o, zs, hl => by
    have hl' : o + (r.length + 1) ≤ zs.size := by simpa using hl
    rw [List.zipIdx_cons, List.foldl_cons, fold_zip_at r (o + 1) _ (by simp; omega), Array.toList_setIfInBounds]
    have ho : o < zs.toList.length := by simp; omega
    have e1 : (zs.toList.set o v).take (o + 1) = zs.toList.take o ++ [v] := by
      rw [List.take_succ_eq_append_getElem (by simpa using ho), List.take_set_of_le (Nat.le_refl _)]
      simp
    have e2 : (zs.toList.set o v).drop (o + 1 + r.length) = zs.toList.drop (o + (v :: r).length) := by
      rw [List.drop_set_of_lt (by omega)]
      congr 1
      simp
      omega
    rw [e1, e2]
    simp
theorem fold_zip (l : List Value) (zs : Array Value) (h : zs.size = l.length) : l.zipIdx.foldl (fun cs x => cs.setIfInBounds x.snd x.fst) zs = l.toArray := by
  apply Array.ext'
  rw [fold_zip_at l 0 zs (by omega)]
  simp [← h]
end Go.Proofs.YtlibhkehebioeaaGreatDoor
namespace Go.Proofs.YtlibhkehebioeaaGreatDoor
set_option linter.unusedVariables false
set_option linter.unusedSimpArgs false
open Go.RowKit

theorem getD_at {l : List Int} {j : Nat} (h : j < l.length) : l.getD j 0 = l[j] := by rw [List.getD_eq_getElem?_getD, List.getElem?_eq_getElem h]; rfl
theorem OwnAt.cells {w : World} {base e n g o c : Nat} {xs : List Value} (h : OwnAt w base e (.slice (some ⟨g, o, none⟩) n c) n xs) : ∀ j u, xs[j]? = some u → w.cell? ⟨g, o + j, none⟩ = some u := by
  rcases h.2 with ⟨h1, _⟩ | ⟨g', o', cap, cur, h1, hb, hh, hn, hm, hs, hc⟩
  · cases h1
  · injection h1 with h1 h2 h3
    injection h1 with h1
    injection h1 with h4 h5 h6
    subst h4 h5 h3
    intro j u hu
    rw [cell_of_row w g (o + j) cur e (0, 0) hh]
    exact hc j u hu
theorem icells {w : World} {base e g o c : Nat} {q : List Int} (h : OwnAt w base e (.slice (some ⟨g, o, none⟩) q.length c) q.length (ics q)) : ∀ j, j < q.length → w.cell? ⟨g, o + j, none⟩ = some (.int .i64 (q.getD j 0)) := fun j hj => by
  refine h.cells j _ ?_
  rw [ics_get q j hj, getD_at hj]
theorem OwnAt.len_le {w : World} {base e n : Nat} {v : Value} {xs : List Value} (h : OwnAt w base e v n xs) : n ≤ maxLen := by
  rcases h.2 with ⟨_, rfl⟩ | ⟨g, o, cap, cur, rfl, hb, hh, hn, hm, hs, hc⟩
  · simp [maxLen]
  · omega
theorem index_any {base : Nat} {v : Value} (q : List Int) (x : Int) (w : World) (h : OwnAt w base 3 v q.length (ics q)) :
    Calls Tryz.prog 113 #[v, .int .i64 x] w fun e w' => e = .returned (.int .i64 (Lib.idxOf q x)) ∧ w = w' := by
  have hl := h.len_le
  have hr := h
  rcases h.2 with ⟨rfl, h0⟩ | ⟨g, o, cap, cur, rfl, hb, hh, hn, hm, hs, hc⟩
  · have : q = [] := List.eq_nil_of_length_eq_zero h0
    subst this
    exact (Tryz.slices_Index_int_empty none 0 x w).mono fun e w' h => ⟨h.1, h.2.symm⟩
  · have := Tryz.slices_Index_int g o q.length cap q x w (Nat.le_refl _) (by simp only [maxLen] at hl; omega) (icells hr)
    rw [List.take_length] at this
    exact this.mono fun e w' h => ⟨h.1, h.2.symm⟩
theorem contains_any {base : Nat} {v : Value} (q : List Int) (x : Int) (w : World) (h : OwnAt w base 3 v q.length (ics q)) :
    Calls Tryz.prog 120 #[v, .int .i64 x] w fun e w' => e = .returned (.bool (decide (x ∈ q))) ∧ w = w' := by
  have hl := h.len_le
  have hr := h
  have e : decide (x ∈ q) = q.contains x := by simp
  rw [e]
  rcases h.2 with ⟨rfl, h0⟩ | ⟨g, o, cap, cur, rfl, hb, hh, hn, hm, hs, hc⟩
  · have : q = [] := List.eq_nil_of_length_eq_zero h0
    subst this
    exact (Tryz.slices_Contains_int_empty none 0 x w).mono fun e w' h => ⟨h.1, h.2.symm⟩
  · have := Tryz.slices_Contains_int g o q.length cap q x w (Nat.le_refl _) (by simp only [maxLen] at hl; omega) (icells hr)
    rw [List.take_length] at this
    exact this.mono fun e w' h => ⟨h.1, h.2.symm⟩
theorem idx_mem {q : List Int} {x : Int} (h : x ∈ q) : Lib.idxOf q x = (q.idxOf x : Int) := by
  have hk := List.idxOf_lt_length_of_mem h
  have := Lib.idxOf_hit q q.length (q.idxOf x) x hk (Nat.le_refl _) (by rw [getD_at hk]; exact List.getElem_idxOf hk) (fun j hj => by
    rw [getD_at (l := q) (by omega)]
    intro e
    have h2 := List.not_of_lt_findIdx (p := (· == x)) (xs := q) (i := j) hj
    simp [e] at h2)
  rwa [List.take_length] at this
theorem idx_none {q : List Int} {x : Int} (h : x ∉ q) : Lib.idxOf q x = -1 := by
  have := Lib.idxOf_miss q q.length x (fun j hj e => h (by rw [getD_at hj] at e; exact e ▸ List.getElem_mem hj))
  rwa [List.take_length] at this
/-- Without the client: what 'Delete' leaves. -/
theorem cut_filter {q : List Int} {x : Int} (hn : q.Nodup) (h : x ∈ q) : q.take (q.idxOf x) ++ q.drop (q.idxOf x + 1) = q.filter fun y => !(y == x) := by
  rw [← List.eraseIdx_eq_take_drop_succ, ← List.erase_eq_eraseIdx_of_idxOf (l := q) (a := x) rfl, hn.erase_eq_filter]
  refine List.filter_congr fun y _ => ?_
  simp [bne]
/-- 'slices.Delete(slices.Clone(q), i, i+1)', the second call. -/
theorem delete_any (q : List Int) (x : Int) (v : Value) (base : Nat) (w : World) (hn : q.Nodup) (hx : x ∈ q) (h : w.ownsRow base 3 1 v q.length (ics q)) :
    Calls Tryz.prog 114 #[v, .int .i64 (q.idxOf x : Int), .int .i64 ((q.idxOf x : Int) + 1)] w fun e w' => ∃ v', e = .returned v' ∧ OwnAt w' base 3 v' (q.filter fun y => !(y == x)).length (ics (q.filter fun y => !(y == x))) ∧ v'.ownBlock = v.ownBlock ∧ Keep (fun k => v.ownBlock ≠ some k) w w' := by
  have hk := List.idxOf_lt_length_of_mem hx
  have hl := (OwnAt.of_own h).len_le
  obtain ⟨g, cap, rfl, hb, hlt, hnc⟩ := own_nonnil h (by omega)
  have ha := OwnAt.of_own h
  rcases h.2 with ⟨h1, _⟩ | ⟨g', cap', cur, h1, hbg, hh, hn2, hm, hs, ht⟩
  · cases h1
  injection h1 with h1 h2 h3
  injection h1 with h1
  injection h1 with h4 h5 h6
  subst h4 h3
  have h5 := Tryz.slices_Delete_int_cells g 0 q.length cap (q.idxOf x) (q.idxOf x + 1) q w (Nat.le_refl _) hnc (by simp only [maxLen] at hm; omega) (by omega) (by omega) (fun j hj => by have := icells ha j hj; simpa using this) (fun j hj => by simp [World.frozen?, hh])
  have e1 : ((q.idxOf x : Int) + 1) = ((q.idxOf x + 1 : Nat) : Int) := by omega
  rw [e1]
  refine h5.mono ?_
  rintro e w' ⟨rfl, n, rfl⟩
  rw [List.take_length, cut_filter hn hx]
  obtain ⟨F, hF⟩ : ∃ F, F = q.filter fun y => !(y == x) := ⟨_, rfl⟩
  have hFl : F.length + 1 = q.length := by
    rw [hF, ← cut_filter hn hx, List.length_append, List.length_take, List.length_drop]
    omega
  rw [← hF]
  have e2 : q.length - (q.idxOf x + 1 - q.idxOf x) = F.length := by omega
  have e3 : q.idxOf x + 1 - q.idxOf x = 1 := by omega
  rw [e2, e3]
  have hB : Blk (w.drewN n) g 3 cur := hh
  have hsz : cur.size = cap := by omega
  obtain ⟨cs', hb', hc'⟩ := Blk.setCells (((F ++ List.replicate 1 0).map (Value.int .i64))) 0 (w.drewN n) cur hB (by simp; omega)
  refine ⟨_, rfl, ⟨by simp [ics], .inr ⟨g, 0, cap, cs', rfl, hbg, hb', by omega, hm, ?_, ?_⟩⟩, rfl, Keep.setCells _ _ _ ((Keep.refl _ w).drewN n) (fun _ hne => hne rfl)⟩
  · have := congrArg List.length hc'
    simp at this
    omega
  · intro j u hu
    have hj : j < F.length := by
      rcases Nat.lt_or_ge j F.length with h | h
      · exact h
      · rw [List.getElem?_eq_none (by simpa [ics] using h)] at hu; cases hu
    rw [← Array.getElem?_toList, hc']
    simp only [List.take_zero, List.nil_append, Nat.zero_add, List.map_append]
    rw [List.append_assoc, List.getElem?_append_left (by simpa using hj)]
    exact hu
/-- 'slices.Clone(q)' of a queue that is not empty. -/
theorem clone_any {base : Nat} {v : Value} (q : List Int) (w : World) (h : OwnAt w base 3 v q.length (ics q)) (h0 : 0 < q.length) (hb : q.length ≤ 1000) :
    Calls Tryz.prog 115 #[v] w fun e w' => ∃ v', e = .returned v' ∧ w'.ownsRow w.heap.size 3 1 v' q.length (ics q) ∧ Fresh w w' := by
  have hr := h
  rcases h.2 with ⟨rfl, h1⟩ | ⟨g, o, cap, cur, rfl, hbg, hh, hn, hm, hs, hc⟩
  · omega
  · have := Tryz.slices_Clone_int g o q.length cap q w (Nat.le_refl _) (by omega) (icells hr)
    rw [List.take_length] at this
    refine this.mono ?_
    rintro e w' ⟨v', rfl, h1, -, h2⟩
    exact ⟨v', rfl, h1, Fresh.of_below h2⟩
/-! ### texts, sorted -/
theorem encStr_map (ss : List Txt) : ss.map encStr = ss.map str := rfl
theorem sortS_any (base : Nat) (v : Value) (ss : List Txt) (w : World) (h : w.ownsRow base 9 1 v ss.length (ss.map str)) (hn : ss.length < 4611686018427387904) :
    Calls Tryz.prog 84 #[v] w fun e w' => e = .returned (.tuple #[]) ∧ w'.ownsRow base 9 1 v ss.length ((ss.mergeSort fun x y => decide (x ≤ y)).map str) ∧ Keep (fun k => v.ownBlock ≠ some k) w w' := by
  rcases h.2 with ⟨rfl, h0⟩ | ⟨g, cap, cur, rfl, hb, hh, hc, hm, hs, ht⟩
  · have hz : ss = [] := List.eq_nil_of_length_eq_zero h0
    subst hz
    refine (Tryz.slices_Sort_string_none none 0 w).mono ?_
    rintro e _ ⟨rfl, rfl⟩
    exact ⟨rfl, by simpa using h, Keep.refl _ _⟩
  · have ht' : cur.toList.take ss.length = ss.map encStr := by simpa [encStr_map] using ht
    refine (Tryz.slices_Sort_string g 0 cap ss w (holds_of_block hh ht') (lt_of_block hh) hn).mono ?_
    rintro e w' ⟨rfl, n, os, rfl⟩
    have hl : (ss.mergeSort fun x y => decide (x ≤ y)).length = ss.length := List.length_mergeSort _
    exact ⟨rfl, ownsRow_sorted hl hb hh hc hm hs, Keep.of_grown (grownBy_sorted _)⟩
/-- A rising list is its own sorted one. -/
theorem before_lt : ∀ a b : Txt, bytesBefore a b = true ↔ a < b
  | [], [] => by simp [bytesBefore]
  | [], b :: s => by simp [bytesBefore]
  | a :: r, [] => by simp [bytesBefore]
  | a :: r, b :: s => by
    rw [List.cons_lt_cons_iff, ← before_lt r s]
    simp [bytesBefore]
theorem rise_sort {ss : List Txt} (hn : ss.Nodup) : Rise ((ss.mergeSort fun x y => decide (x ≤ y)).map id) := by
  rw [List.map_id]
  have hp := List.mergeSort_perm ss fun x y => decide (x ≤ y)
  have h1 : (ss.mergeSort fun x y => decide (x ≤ y)).Pairwise fun x y => decide (x ≤ y) = true := List.pairwise_mergeSort (fun a b c h1 h2 => by simp only [decide_eq_true_eq] at *; exact List.le_trans h1 h2) (fun a b => by simp only [Bool.or_eq_true, decide_eq_true_eq]; exact List.le_total a b) ss
  have h2 : (ss.mergeSort fun x y => decide (x ≤ y)).Pairwise fun x y => x ≠ y := hp.symm.pairwise hn (fun h => h.symm)
  refine (h1.and h2).imp ?_
  rintro a b ⟨h3, h4⟩
  rcases WideAt.bytes_total a b h4 with h5 | h5
  · exact h5
  · exact absurd ((before_lt b a).1 h5) (by simpa [List.not_lt] using h3)
theorem sort_rise {ss ks : List Txt} (hr : Rise ks) (hp : ss.Perm ks) : (ss.mergeSort fun x y => decide (x ≤ y)) = ks :=
  rise_ext (key := id) (rise_sort (hp.nodup_iff.2 hr.nodup)) (by rw [List.map_id]; exact hr) fun x => (((List.mergeSort_perm ss _).trans hp).mem_iff)
end Go.Proofs.YtlibhkehebioeaaGreatDoor
namespace Go.Proofs.YtlibhkehebioeaaGreatDoor
set_option linter.unusedVariables false
set_option linter.unusedSimpArgs false
open Go.RowKit

theorem next_any (m : Nat) (tok : Int) (w : World) (h : w.cell? ⟨m, 2, none⟩ = some (.int .i64 tok)) (hf : w.frozen? ⟨m, 2, none⟩ = false) (h0 : 0 ≤ tok) (h1 : tok ≤ 99999999) :
    Calls Tryz.prog 116 #[.pointer (some ⟨m, 0, none⟩)] w fun e w' => e = .returned (.int .i64 (tok + 1)) ∧ w' = w.setCell ⟨m, 2, none⟩ (.int .i64 (tok + 1)) := by
  go_enter Tryz.func116, Tryz.ntmps116
  go_wp2
  go_ret
  exact ⟨rfl, rfl⟩
theorem lkv_zero (w : World) : (zeroValue 99).run Tryz.prog w = .ok (.pointer none) w := by kernel_rfl
/-- 'm.locks[k]', for the walk. -/
theorem look_lk {S : Nat → Prop} {w : World} {bl : Nat} {ms : List LkM} {ls : List LockD} (h : Lks S w bl ms ls) {k : Txt} (hk : k.length ≤ 1048576) (x : Value) (hx : (mfind k (ms.map LkM.kv)).getD (.pointer none) = x) (n : Nat) :
    (Instr.lookup 88 (.map (some bl)) (str k) false).run Tryz.prog (w.drewN n) = .ok x (w.drewN n) := by
  have h1 := MapIs.look (h.map.keep (Keep.drewN (Keep.refl (fun _ => True) w) n) trivial) Tryz.underlying9 Tryz.underlying88 (lkv_zero _) (l := k) (by simp only [maxLen]; omega)
  rw [hx] at h1
  exact h1
theorem lk_find {S : Nat → Prop} {w : World} {bl : Nat} {ms : List LkM} {ls : List LockD} (h : Lks S w bl ms ls) {k : Txt} {l : LockD} (hl : lfind k ls = some l) : ∃ x ∈ ms, x.d = l ∧ x.d.name = k ∧ LkIs S w x ∧ (mfind k (ms.map LkM.kv)).getD (.pointer none) = .pointer (some ⟨x.h, 0, none⟩) := by
  obtain ⟨x, h1, h2, h3, h4⟩ := h.find hl
  exact ⟨x, h1, h2, h3, h.each x h1, by rw [h4]; rfl⟩
theorem LkIs.cells {S : Nat → Prop} {w : World} {x : LkM} (h : LkIs S w x) : w.cell? ⟨x.h, 0, none⟩ = some (.int .i64 x.d.holder) ∧ w.cell? ⟨x.h, 1, none⟩ = some (.int .i64 x.d.token) ∧ w.cell? ⟨x.h, 2, none⟩ = some x.v := by
  have h0 := h.blk.cell 0
  have h1 := h.blk.cell 1
  have h2 := h.blk.cell 2
  simp at h0 h1 h2
  exact ⟨h0, h1, h2⟩
theorem MSt.three {S : Nat → Prop} {w : World} {m bp bl : Nat} {s : StD} (h : MSt S w m bp bl s) : w.cell? ⟨m, 0, none⟩ = some (.map (some bp)) ∧ w.cell? ⟨m, 1, none⟩ = some (.map (some bl)) ∧ w.cell? ⟨m, 2, none⟩ = some (.int .i64 s.tok) := ⟨h.cell 0, h.cell 1, h.cell 2⟩
theorem mcells_tok (bp bl : Nat) (tok tok' : Int) (ss : List MSess) : (mcells bp bl tok ss).toArray.setIfInBounds 2 (.int .i64 tok') = (mcells bp bl tok' ss).toArray := rfl
/-- Without the lock k. -/
theorem MSt.cut {S : Nat → Prop} {w w' : World} {m bp bl : Nat} {s : StD} {ms : List LkM} (h : MSt S w m bp bl s) (hl : Lks S w bl ms s.locks) (k : Txt) (hm : MapIs Tryz.prog 9 w' bl (mdel k (ms.map LkM.kv))) (hk : Keep (fun j => j ≠ bl) w w') :
    MSt S w' m bp bl { s with locks := delK LockD.name k s.locks } :=
  ⟨h.blk.keep hk (fun e => h.nm (e ▸ hl.sb)), h.len, h.pm.keep hk h.ne, ⟨_, hl.del k hm hk (fun _ _ h => h)⟩, h.nm, h.nb⟩
theorem sk_key (q : List Int) (c : Int) : ics (c :: q) = .int .i64 c :: ics q := rfl

set_option maxRecDepth 20000 in
set_option maxHeartbeats 1000000 in
theorem pass_any (S : Nat → Prop) (m bp bl : Nat) (s : StD) (k : Txt) (l : LockD) (w : World) (hm : MSt S w m bp bl s) (hi : LInv s.locks s.tok) (hk : k.length ≤ 1048576) (hl : lfind k s.locks = some l) :
    Calls Tryz.prog 72 #[.pointer (some ⟨m, 0, none⟩), str k] w fun e w' => e = .returned (.int .i64 (passD k s).1) ∧ MSt S w' m bp bl (passD k s).2 ∧ Keep (fun j => j ≠ m ∧ ¬ S j) w w' := by
  obtain ⟨ms, hls⟩ := hm.lk
  obtain ⟨x, hx, hxl, hxk, hxi, hxf⟩ := lk_find hls hl
  obtain ⟨x0, x1, x2⟩ := hm.three
  obtain ⟨y0, y1, y2⟩ := hxi.cells
  have hlk := look_lk hls hk _ hxf 0
  rw [show w.drewN 0 = w from rfl] at hlk
  have hrow := hxi.row
  obtain ⟨h, hh⟩ : ∃ h, h = x.h := ⟨_, rfl⟩
  rw [← hh] at hlk y0 y1 y2
  obtain ⟨v, hv⟩ : ∃ v, v = x.v := ⟨_, rfl⟩
  rw [← hv] at y2 hrow
  obtain ⟨A, c, rfl, hnc, hrd, hnil⟩ := hrow.rd
  obtain ⟨tok, htok⟩ : ∃ t, t = s.tok := ⟨_, rfl⟩
  rw [← htok] at x2
  have ht0 := hi.tok0
  have ht1 := hi.tok1
  rw [← htok] at ht0 ht1
  obtain ⟨R, hR⟩ : ∃ R, R = (passD k s).1 := ⟨_, rfl⟩
  rw [← hR]
  have hml := hm.blk.lt
  have hmap := hls.map.lt
  have hhl := hxi.lt
  rw [← hh] at hhl
  have HA := Lib.hid (And.intro hm (And.intro hi (And.intro hls (And.intro hx (And.intro hxl (And.intro hxk (And.intro hxi (And.intro hh (And.intro hv (And.intro htok hR))))))))))
  obtain ⟨n, hn⟩ : ∃ n, n = x.d.queue.length := ⟨_, rfl⟩
  rw [← hn] at y2 hrow hrd hnil hnc
  cases hq : x.d.queue with
  | nil =>
    have hn0 : n = 0 := by rw [hn, hq]; rfl
    subst hn0
    have HE : Hid (passD k s = (0, { s with locks := delK LockD.name k s.locks })) := by
      have h1 : l.queue = [] := by rw [← hxl]; exact hq
      unfold passD
      rw [hl]
      simp only [h1]
      trivial
    obtain ⟨w1, hrun, hm1, hk1⟩ := hls.map.drop Tryz.underlying9 Tryz.underlying88 (l := k) (by simp only [maxLen]; omega) 0
    have HD := Lib.hid (And.intro hm1 hk1)
    clear hm hi hls hx hxl hxk hxi hh hv htok hR hrow hrd hnil hq hn y0 y1 hm1 hk1
    go_enter Tryz.func72, Tryz.ntmps72
    go_wp2
    go_ret
    obtain ⟨hm, hi, hls, -, -, -, -, -, -, -, hR⟩ := HA.out
    rw [hR, HE.out]
    exact ⟨rfl, hm.cut hls k HD.out.1 HD.out.2, HD.out.2.weaken fun j _ h e => h.2 (by rw [e]; exact hls.sb)⟩
  | cons c0 q =>
    have hn0 : n = q.length + 1 := by rw [hn, hq]; rfl
    have hlq : l.queue = c0 :: q := by rw [← hxl]; exact hq
    by_cases hful : 99999999 ≤ tok
    · have HE : Hid (passD k s = (0, { s with locks := delK LockD.name k s.locks })) := by
        unfold passD
        rw [hl]
        simp only [hlq]
        rw [if_pos (by omega)]
        trivial
      obtain ⟨w1, hrun, hm1, hk1⟩ := hls.map.drop Tryz.underlying9 Tryz.underlying88 (l := k) (by simp only [maxLen]; omega) 0
      have HD := Lib.hid (And.intro hm1 hk1)
      have hne : ¬ (n : Int) = 0 := by omega
      clear hm hi hls hx hxl hxk hxi hh hv htok hR hrow hrd hnil hq hn y0 y1 hm1 hk1 hlq hn0
      go_enter Tryz.func72, Tryz.ntmps72
      go_wp2
      go_ret
      obtain ⟨hm, hi, hls, -, -, -, -, -, -, -, hR⟩ := HA.out
      rw [hR, HE.out]
      exact ⟨rfl, hm.cut hls k HD.out.1 HD.out.2, HD.out.2.weaken fun j _ h e => h.2 (by rw [e]; exact hls.sb)⟩
    · have HE : Hid (passD k s = (tok + 1, { s with locks := setK LockD.name ⟨k, c0, tok + 1, q⟩ s.locks, tok := tok + 1 })) := by
        unfold passD
        rw [hl]
        simp only [hlq]
        rw [if_neg (by omega), htok]
        trivial
      have hne : ¬ (n : Int) = 0 := by omega
      rw [hq, sk_key] at hrd hrow
      obtain ⟨g, o, hA, -, hcell⟩ := hrd.2 (by omega)
      subst hA
      have z0 := hcell 0 _ rfl
      rw [Nat.add_zero] at z0
      have fr1 : w.frozen? ⟨h, 0, none⟩ = false := by rw [hh]; exact hxi.blk.frozen 0
      have fr2 : w.frozen? ⟨h, 2, none⟩ = false := by rw [hh]; exact hxi.blk.frozen 2
      have fr3 : w.frozen? ⟨h, 1, none⟩ = false := by rw [hh]; exact hxi.blk.frozen 1
      have frm : w.frozen? ⟨m, 2, none⟩ = false := hm.blk.frozen 2
      have hgl : g < w.heap.size := lt_of_cell z0
      have hgh : g ≠ h := by
        intro e
        have := hxi.vne hxi
        rw [← hv, ← hh] at this
        exact this (by simp [Value.ownBlock, e])
      have hmh : m ≠ h := by rw [hh]; exact fun e => hm.nm (e ▸ hxi.sh)
      have hn1 : (1 : Int) ≤ (n : Int) := by omega
      have hcn : (n : Int) ≤ (c : Int) := by omega
      have HR := Lib.hid hrow
      clear hm hi hls hx hxl hxk hxi hh hv htok hR hrow hrd hnil hq hn hlq
      go_enter Tryz.func72, Tryz.ntmps72
      go_wp2
      go_region
      obtain ⟨V, hV⟩ : ∃ V, V = tailV (.slice (some ⟨g, o, none⟩) n c) := ⟨_, rfl⟩
      have hV2 : V = .slice (if c = 1 then some ⟨g, o, none⟩ else some ⟨g, o + 1, none⟩) q.length (c - 1) := by rw [hV, hn0]; rfl
      rw [← hV2]
      obtain ⟨W, hW⟩ : ∃ W, W = ((w.setCell ⟨h, 0, none⟩ (.int .i64 c0)).setCell ⟨h, 2, none⟩ V).drew := ⟨_, rfl⟩
      rw [← hW]
      have hkW : Keep (fun j => j ≠ h) w W := by rw [hW]; exact (((Keep.refl _ w).setCell (fun _ e => e rfl) _).setCell (fun _ e => e rfl) _).drew
      have x2W := hkW.cellAt x2 hmh
      have frW : W.frozen? ⟨m, 2, none⟩ = false := (hkW.frozen (p := ⟨m, 2, none⟩) hml hmh).trans frm
      have bW : Blk W h 101 #[.int .i64 c0, .int .i64 x.d.token, V] := by
        have b0 := HA.out.2.2.2.2.2.2.1.blk
        rw [← HA.out.2.2.2.2.2.2.2.1] at b0
        have b1 := (((b0.set 0 (.int .i64 c0)).set 2 V).drew)
        rw [← hW] at b1
        exact b1
      have y1W := bW.cell 1
      simp at y1W
      have fr3W := bW.frozen 1
      have hhm : h ≠ m := fun e => hmh e.symm
      have HK := Lib.hid (And.intro hkW (And.intro hW (And.intro hV bW)))
      clear hW hkW hV hV2 bW z0 hcell y0 y1 y2 fr1 fr2 fr3 frm x2
      go_wp2_with fail
      refine (next_any m tok W x2W frW ht0 ht1).mono ?_
      rintro e _ ⟨rfl, rfl⟩
      go_wp2
      go_ret
      obtain ⟨hm, hi, hls, hx, hxl, hxk, hxi, hh, hv, htok, hR⟩ := HA.out
      obtain ⟨hkW, hW, hV, bW⟩ := HK.out
      rw [hR, HE.out]
      have hkF : Keep (fun j => j ≠ m ∧ j ≠ h) w ((W.setCell ⟨m, 2, none⟩ (.int .i64 (tok + 1))).setCell ⟨h, 1, none⟩ (.int .i64 (tok + 1))) := ((hkW.weaken fun _ _ h => h.2).setCell (fun _ h => h.1 rfl) _).setCell (fun _ h => h.2 rfl) _
      have hbh : Blk ((W.setCell ⟨m, 2, none⟩ (.int .i64 (tok + 1))).setCell ⟨h, 1, none⟩ (.int .i64 (tok + 1))) h 101 #[.int .i64 c0, .int .i64 (tok + 1), V] := by
        exact ((bW.far (p := ⟨m, 2, none⟩) hhm _).set 1 _)
      have hown : OwnAt ((W.setCell ⟨m, 2, none⟩ (.int .i64 (tok + 1))).setCell ⟨h, 1, none⟩ (.int .i64 (tok + 1))) 0 3 V q.length (ics q) := by
        have h1 := HR.out
        rw [hn0] at h1
        have h2 := h1.tail
        rw [← hn0, ← hV] at h2
        have hVo : V.ownBlock = some g := by rw [hV, hn0, tailV_own h1]; rfl
        refine h2.keep hkF fun j hj => ?_
        rw [hVo] at hj
        injection hj with hj
        subst hj
        refine ⟨fun e => ?_, hgh⟩
        have h3 := hxi.sv g (by rw [← hv]; rfl)
        rw [e] at h3
        exact hm.nm h3
      have hVo : V.ownBlock = x.v.ownBlock := by
        have h1 := HR.out
        rw [hn0] at h1
        rw [hV, hn0, tailV_own h1, ← hv]
        rfl
      have hSh : S h := by rw [hh]; exact hxi.sh
      refine ⟨rfl, ⟨?_, hm.len, hm.pm.keep hkF ⟨fun e => hm.mp e.symm, fun e => hm.nb (by rw [e]; exact hSh)⟩, ⟨_, hls.turn hi.rise hx hkF (fun j hj h1 _ => ⟨fun e => hm.nm (by rw [← e]; exact hj), fun e => h1 (e.trans hh)⟩) (x' := ⟨⟨k, c0, tok + 1, q⟩, h, V⟩) ⟨hbh, hown, hSh, fun j hj => hxi.sv j (by rw [← hVo]; exact hj)⟩ hh hxk.symm (fun _ h => h) (.inl hVo)⟩, hm.nm, hm.nb⟩, hkF.weaken fun j _ h => ⟨h.1, fun e => h.2 (by rw [e, hh]; exact hxi.sh)⟩⟩
      have b1 := ((((hm.blk.far (p := ⟨h, 0, none⟩) hmh (.int .i64 c0)).far (p := ⟨h, 2, none⟩) hmh V).drew))
      rw [← hW] at b1
      have b2 := (b1.set 2 (.int .i64 (tok + 1))).far (p := ⟨h, 1, none⟩) hmh (.int .i64 (tok + 1))
      rw [mcells_tok] at b2
      exact b2
end Go.Proofs.YtlibhkehebioeaaGreatDoor
