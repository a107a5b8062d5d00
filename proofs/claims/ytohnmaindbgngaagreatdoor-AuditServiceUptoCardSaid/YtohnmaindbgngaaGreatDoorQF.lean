/-
  MERGED: SrvP MarkB
-/
import Derived.Test.YtohnmaindbgngaaGreatDoorQE
import Derived.Test.YtohnmaindbgngaaGreatDoorQD
namespace Go.Proofs.YtohnmaindbgngaaGreatDoor
set_option linter.unusedVariables false
set_option linter.unusedSimpArgs false
open Go.RowKit

section
variable {w w' : World} {Z : Nat → Prop} {T T' : Nat → STag} {bp k k' b : Nat} {f : Who → Option PartD} {x : Who} {p p' : PartD}
/-- The part of x lies in block b. -/
def PartAt (w : World) (T : Nat → STag) (bp k : Nat) (f : Who → Option PartD) (x : Who) (b : Nat) : Prop :=
  ∃ g : Who → Option Nat, MapF mkWho pV w bp k g ∧ (∀ y, InW y → (f y = none → g y = none) ∧ ∀ p, f y = some p → ∃ c, g y = some c ∧ T c = .part y ∧ Blk w c 102 (partV p)) ∧ g x = some b
theorem PartAt.parts (h : PartAt w T bp k f x b) : Parts w T bp k f := by
  obtain ⟨g, h1, h2, -⟩ := h
  exact ⟨g, h1, h2⟩
theorem Parts.at' (h : Parts w T bp k f) (hx : InW x) (hp : f x = some p) : ∃ b, PartAt w T bp k f x b := by
  obtain ⟨g, h1, h2⟩ := h
  obtain ⟨c, e, -⟩ := (h2 x hx).2 p hp
  exact ⟨c, g, h1, h2, e⟩
theorem PartAt.blk (h : PartAt w T bp k f x b) (hx : InW x) (hp : f x = some p) : T b = .part x ∧ Blk w b 102 (partV p) := by
  obtain ⟨g, h1, h2, h3⟩ := h
  obtain ⟨c, e, hc⟩ := (h2 x hx).2 p hp
  rw [h3] at e
  obtain rfl : b = c := Option.some.inj e
  exact hc
theorem PartAt.keep (h : PartAt w T bp k f x b) (hk : Keep Z w w') (hb : Z bp) (hz : ∀ j y, T j = .part y → Z j) (hT : SMore T T') (hkk : k ≤ k') : PartAt w' T' bp k' f x b := by
  obtain ⟨g, h1, h2, h3⟩ := h
  refine ⟨g, (h1.keep hk hb).mono hkk, fun y hy => ⟨(h2 y hy).1, fun p hp => ?_⟩, h3⟩
  obtain ⟨c, e, hc, hbl⟩ := (h2 y hy).2 p hp
  exact ⟨c, e, hT.at hc (by simp), hbl.keep hk (hz c y hc)⟩
theorem PartAt.put (h : PartAt w T bp k f x b) (hx : InW x) (hp : f x = some p) (hk : Keep Z w w') (hb : Z bp) (hz : ∀ j y, y ≠ x → T j = .part y → Z j) (hT : SMore T T') (hkk : k ≤ k') (hn : Blk w' b 102 (partV p')) : PartAt w' T' bp k' (upd f x (some p')) x b := by
  have hbx := (h.blk hx hp).1
  obtain ⟨g, h1, h2, h3⟩ := h
  refine ⟨g, (h1.keep hk hb).mono hkk, fun y hy => ?_, h3⟩
  by_cases e : y = x
  · subst e
    rw [upd_self]
    exact ⟨fun h => (Option.some_ne_none _ h).elim, fun q hq => ⟨b, h3, hT.at hbx (by simp), by obtain rfl : p' = q := Option.some.inj hq; exact hn⟩⟩
  · rw [upd_ne _ _ e]
    refine ⟨(h2 y hy).1, fun q hq => ?_⟩
    obtain ⟨c, ec, hc, hbl⟩ := (h2 y hy).2 q hq
    exact ⟨c, ec, hT.at hc (by simp), hbl.keep hk (hz c y e hc)⟩
theorem PartAt.look (h : PartAt w T bp k f x b) (hx : InW x) (w' : World) (hf : Fresh w w') : (Instr.lookup 89 (.map (some bp)) (whoA x) false).run Tryz.prog w' = .ok (.pointer (some ⟨b, 0, none⟩)) w' := by
  obtain ⟨g, h1, h2, h3⟩ := h
  have := h1.lookF (M := mkWho) Tryz.underlying89 (fun u => Tryz.zeroValue98 u) hx w' hf
  rw [h3] at this
  exact this
/-- A new part is put in. -/
theorem Parts.store (h : Parts w T bp k f) (hk : k ≤ 4194304) (hbp : T bp = .pts) (hx : InW x) (hb : T b = .part x) (hn : Blk w b 102 (partV p)) :
    ∃ w', (Instr.mapUpdate 89 (.map (some bp)) (whoA x) (.pointer (some ⟨b, 0, none⟩))).run Tryz.prog w = .ok () w' ∧ PartAt w' T bp (k + 1) (upd f x (some p)) x b ∧ Keep (fun j => j ≠ bp) w w' := by
  obtain ⟨g, h1, h2⟩ := h
  obtain ⟨w', hrun, hm, hkp⟩ := h1.store (M := mkWho) Tryz.underlying89 hk hx b
  have hz : ∀ (j : Nat) (y : Who), T j = .part y → j ≠ bp := fun j y hj e => by
    subst e
    rw [hbp] at hj
    cases hj
  refine ⟨w', hrun, ⟨_, hm, fun y hy => ?_, by rw [upd_self]⟩, hkp⟩
  by_cases e : y = x
  · subst e
    rw [upd_self, upd_self]
    exact ⟨fun h => (Option.some_ne_none _ h).elim, fun q hq => ⟨b, rfl, hb, by obtain rfl : p = q := Option.some.inj hq; exact hn.keep hkp (hz b y hb)⟩⟩
  · rw [upd_ne _ _ e, upd_ne _ _ e]
    refine ⟨(h2 y hy).1, fun q hq => ?_⟩
    obtain ⟨c, ec, hc, hbl⟩ := (h2 y hy).2 q hq
    exact ⟨c, ec, hc, hbl.keep hkp (hz c y hc)⟩
end
section
variable {W w w' : World} {T T' : Nat → STag} {F : SFix} {k k' b : Nat} {vs : List Int} {s : SrvD} {x : Who} {p p' : PartD}
/-- The part of x is written over. -/
theorem SM.put (h : SM W w T F k vs s) (ha : PartAt w T F.p k s.parts x b) (hx : InW x) (hp : s.parts x = some p) (hk : Keep (fun j => j ≠ b) w w') (hn : Blk w' b 102 (partV p')) :
    SM W w' T F k vs (s.setPart x p') ∧ PartAt w' T F.p k (s.setPart x p').parts x b := by
  have hb := (ha.blk hx hp).1
  have hne : ∀ {j : Nat} {t : STag}, T j = t → t ≠ .part x → j ≠ b := fun hj ht => stag_ne hj hb ht
  have ha' : PartAt w' T F.p k (upd s.parts x (some p')) x b := ha.put hx hp hk (hne h.fix.p (by simp)) (fun j y hy hj => hne hj (by simp [hy])) (SMore.refl T) (Nat.le_refl k) hn
  exact ⟨h.with_parts hk (fun j hj hpt e => by rw [e, hb] at hpt; exact hpt rfl) (fun j hj e => by have := (h.low b (by rw [hb]; simp)).1; omega) (SMore.refl T) (h.same_low hk.size) (Nat.le_refl k) ha'.parts, ha'⟩
theorem SM.part_keep (h : SM W w T F k vs s) {t : STag} {c : Nat} (hc : T c = t) (ht : t ≠ .part x) (ht2 : t.part' ≠ .pts) (ha : PartAt w T F.p k s.parts x b) (hk : Keep (fun j => j ≠ c) w w') (hkk : k ≤ k') : PartAt w' T F.p k' s.parts x b :=
  ha.keep hk (stag_ne h.fix.p hc (fun e => ht2 (by rw [← e]; rfl))) (fun j y hj => stag_ne hj hc (fun e => ht2 (by rw [← e]; rfl))) (SMore.refl T) hkk
/-- What a step may write lies elsewhere than what a caller keeps. -/
theorem SB.ne {t : STag} {j c : Nat} (h : SM W w T F k vs s) (hc : T c = t) (h1 : t ≠ .other) (h2 : t ≠ .kept) (hj : SB W T j) : j ≠ c := by
  rintro rfl
  rcases hj with hj | hj
  · have := (h.low j (by rw [hc]; exact h1)).1
    omega
  · rw [hc] at hj
    exact h2 hj
end
theorem StepS.bad {W w w' : World} {T : Nat → STag} {F : SFix} {k : Nat} {vs : List Int} {x : Int × SrvD} (hf : Fresh w w') (h : x.1 ≠ 0) : StepS W w w' T F k vs x := ⟨hf.weaken fun _ _ _ => trivial, fun e => absurd e h⟩
def PartCells (w : World) (b : Nat) (p : PartD) : Prop :=
  (w.cell? ⟨b, 0, none⟩ = some (.int .i64 p.id.1) ∧ w.cell? ⟨b, 1, none⟩ = some (.int .i64 p.id.2.1) ∧ w.cell? ⟨b, 2, none⟩ = some (.int .i64 p.id.2.2.1) ∧ w.cell? ⟨b, 3, none⟩ = some (.int .i64 p.id.2.2.2) ∧ w.cell? ⟨b, 4, none⟩ = some (.slice none 0 0)) ∧
  (w.cell? ⟨b, 5, none⟩ = some (.bool p.viewed) ∧ w.cell? ⟨b, 6, none⟩ = some (.bool p.quorate) ∧ w.cell? ⟨b, 7, none⟩ = some (.bool p.adopted) ∧ w.cell? ⟨b, 8, none⟩ = some (.bool p.since)) ∧
  (w.cell? ⟨b, 9, none⟩ = some (.int .i64 (p.asks : Int)) ∧ w.cell? ⟨b, 10, none⟩ = some (.int .i64 p.last) ∧ w.cell? ⟨b, 11, none⟩ = some (.bool p.waits)) ∧ b < w.heap.size
theorem part_cells {w : World} {b : Nat} {p : PartD} (h : Blk w b 102 (partV p)) : PartCells w b p :=
  ⟨⟨h.cell 0, h.cell 1, h.cell 2, h.cell 3, h.cell 4⟩, ⟨h.cell 5, h.cell 6, h.cell 7, h.cell 8⟩, ⟨h.cell 9, h.cell 10, h.cell 11⟩, h.lt⟩
theorem ask_val (o : Option Nat) : (o.map nV).getD (.int .i64 0) = .int .i64 ((o.getD 0 : Nat) : Int) := by cases o <;> rfl
theorem Asks.lookF {w : World} {b n : Nat} {f : CmdD → Nat} (h : Asks w b n f) {c : CmdD} (hc : InC c) (w' : World) (hf : Fresh w w') : (Instr.lookup 92 (.map (some b)) (cmdK c) false).run Tryz.prog w' = .ok (.int .i64 (f c : Int)) w' := by
  obtain ⟨g, h1, h2⟩ := h
  have := h1.lookF (M := mkCmd) Tryz.underlying92 (fun u => Tryz.zeroValue3 u) hc w' hf
  rw [ask_val, h2 c] at this
  exact this
theorem Asks.entry {w : World} {b n : Nat} {f : CmdD → Nat} (h : Asks w b n f) (hn : n ≤ 4194304) {c : CmdD} (hc : InC c) :
    ∃ (st : Value) (w1 : World), (Instr.mapEntry 92 (.map (some b)) (cmdK c)).run Tryz.prog w = .ok (.tuple #[.int .i64 (f c : Int), st]) w1 ∧ Keep (fun i => i ≠ b) w w1 ∧
      (∀ w', Fresh w1 w' → (Instr.lookup 92 (.map (some b)) (cmdK c) false).run Tryz.prog w' = .ok (.int .i64 (f c : Int)) w') ∧
      ∀ w2 (u : Nat), w2.heap[b]? = w1.heap[b]? → ∃ w3, (Instr.entryStore 92 (.map (some b)) st (.int .i64 (u : Int))).run Tryz.prog w2 = .ok () w3 ∧ Asks w3 b (n + 1) (upd f c u) ∧ Keep (fun i => i ≠ b) w2 w3 := by
  obtain ⟨g, h1, h2⟩ := h
  obtain ⟨st, w1, r1, r2, r3, r4⟩ := h1.entry (M := mkCmd) Tryz.underlying92 hn (fun u => Tryz.zeroValue3 u) hc
  refine ⟨st, w1, ?_, r2, fun w' hf => ?_, fun w2 u hw => ?_⟩
  · rw [ask_val, h2 c] at r1
    exact r1
  · have := r3 w' hf
    rw [ask_val, h2 c] at this
    exact this
  · obtain ⟨w3, q1, q2, q3⟩ := r4 w2 u hw
    refine ⟨w3, q1, ⟨_, q2, fun c' => ?_⟩, q3⟩
    by_cases e : c' = c
    · subst e; rw [upd_self, upd_self]; rfl
    · rw [upd_ne _ _ e, upd_ne _ _ e]; exact h2 c'
end Go.Proofs.YtohnmaindbgngaaGreatDoor
namespace Go.Proofs.YtohnmaindbgngaaGreatDoor
set_option linter.unusedVariables false
set_option linter.unusedSimpArgs false
open Go.RowKit

structure MkInt (d : MarkD) : Prop where
  node : I64 d.node
  inc : I64 d.inc
  e1 : I64 d.e1
  e2 : I64 d.e2
  e3 : I64 d.e3
  e4 : I64 d.e4
  sender : I64 d.sender
  seq : I64 d.seq
  mem : ∀ y ∈ d.mem, I64 y.p ∧ I64 y.i
theorem MkInt.who {d : MarkD} (h : MkInt d) : InW d.who := ⟨h.node, h.inc⟩
theorem MkInt.id {d : MarkD} (h : MkInt d) : InV d.id := ⟨h.e1, h.e2, h.e3, h.e4⟩
/-- A mark in a variable. -/
structure MkB (w : World) (b : Nat) (x : MkV) : Prop where
  blk : Blk w b 51 x.cells.toArray
theorem MkB.new (w : World) (x : MkV) : MkB (w.alloc (.cells x.cells.toArray 51)) w.heap.size x := ⟨Blk.new _ _ _⟩
section
variable {w : World} {b : Nat} {x : MkV} (h : MkB w b x)
include h
theorem MkB.at_ : w.cell? ⟨b, 0, none⟩ = some (.int .i64 x.d.at_) := h.blk.cell 0
theorem MkB.kind : w.cell? ⟨b, 1, none⟩ = some (.int .i64 x.d.kind) := h.blk.cell 1
theorem MkB.node : w.cell? ⟨b, 2, none⟩ = some (.int .i64 x.d.node) := h.blk.cell 2
theorem MkB.inc : w.cell? ⟨b, 3, none⟩ = some (.int .i64 x.d.inc) := h.blk.cell 3
theorem MkB.e1 : w.cell? ⟨b, 4, none⟩ = some (.int .i64 x.d.e1) := h.blk.cell 4
theorem MkB.e2 : w.cell? ⟨b, 5, none⟩ = some (.int .i64 x.d.e2) := h.blk.cell 5
theorem MkB.e3 : w.cell? ⟨b, 6, none⟩ = some (.int .i64 x.d.e3) := h.blk.cell 6
theorem MkB.e4 : w.cell? ⟨b, 7, none⟩ = some (.int .i64 x.d.e4) := h.blk.cell 7
theorem MkB.vm : w.cell? ⟨b, 8, none⟩ = some x.vm := h.blk.cell 8
theorem MkB.vt : w.cell? ⟨b, 9, none⟩ = some x.vt := h.blk.cell 9
theorem MkB.sender : w.cell? ⟨b, 10, none⟩ = some (.int .i64 x.d.sender) := h.blk.cell 10
theorem MkB.seq : w.cell? ⟨b, 11, none⟩ = some (.int .i64 x.d.seq) := h.blk.cell 11
theorem MkB.pos : w.cell? ⟨b, 12, none⟩ = some (.int .i64 x.d.pos) := h.blk.cell 12
theorem MkB.n : w.cell? ⟨b, 13, none⟩ = some (.int .i64 x.d.n) := h.blk.cell 13
theorem MkB.vb : w.cell? ⟨b, 14, none⟩ = some x.vb := h.blk.cell 14
end
section
variable {w : World} {b : Nat} {x : MkV} (h : MkB w b x)
include h
theorem MkB.cc : w.cell? ⟨b, 15, none⟩ = some (.int .i64 x.d.cmd.c) := h.blk.cell 15
theorem MkB.ci : w.cell? ⟨b, 16, none⟩ = some (.int .i64 x.d.cmd.i) := h.blk.cell 16
theorem MkB.cr : w.cell? ⟨b, 17, none⟩ = some (.int .i64 x.d.cmd.r) := h.blk.cell 17
theorem MkB.co : w.cell? ⟨b, 18, none⟩ = some (.int .i64 x.d.cmd.o) := h.blk.cell 18
theorem MkB.ck : w.cell? ⟨b, 19, none⟩ = some (tx x.d.cmd.k) := h.blk.cell 19
theorem MkB.cv : w.cell? ⟨b, 20, none⟩ = some (tx x.d.cmd.v) := h.blk.cell 20
theorem MkB.cd : w.cell? ⟨b, 21, none⟩ = some (tx x.d.cmd.d) := h.blk.cell 21
theorem MkB.rc : w.cell? ⟨b, 22, none⟩ = some (.int .i64 x.d.rc) := h.blk.cell 22
theorem MkB.rv : w.cell? ⟨b, 23, none⟩ = some (tx x.d.rv) := h.blk.cell 23
theorem MkB.rn : w.cell? ⟨b, 24, none⟩ = some (.int .i64 x.d.rn) := h.blk.cell 24
end
end Go.Proofs.YtohnmaindbgngaaGreatDoor
