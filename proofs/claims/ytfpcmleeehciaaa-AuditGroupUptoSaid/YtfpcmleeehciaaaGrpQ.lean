/-
  WHAT audit.Group READS OUT OF ITS STATE; WALK OF mayMark.
-/
import Derived.Test.YtfpcmleeehciaaaGrpM
import Derived.Test.YtfpcmleeehciaaaGrpH
namespace Go.Proofs.Ytfpcmleeehciaaa
set_option linter.unusedVariables false
set_option linter.unusedSimpArgs false
open Go.RowKit Go.Shelf

theorem IntMap.lookF {w : World} {b k : Nat} {f : Int → Int} (h : IntMap w b k f) {z : Int} (hz : I64 z) (w' : World) (hf : Fresh w w') : (Instr.lookup 67 (.map (some b)) (.int .i64 z) false).run Try.prog w' = .ok (.int .i64 (f z)) w' := by
  obtain ⟨ps, h1, h2, h3⟩ := h
  have := (h1.keep hf trivial).look kint0 Try.underlying67 (Try.zeroValue3 w') (ikey hz)
  rw [h3 z hz] at this
  exact this
theorem Lives.lookF {w : World} {T : Nat → Tag} {bv k : Nat} {lv : Who → Option LifeD} (h : Lives w T bv k lv) {x : Who} (hx : InW x) {l : LifeD} (hl : lv x = some l) :
    ∃ b f A c, LifeM w T x b f k l A c ∧ ∀ w', Fresh w w' → (Instr.lookup 68 (.map (some bv)) (whoA x) false).run Try.prog w' = .ok (.pointer (some ⟨b, 0, none⟩)) w' := by
  obtain ⟨ps, h1, h2, h3⟩ := h
  obtain ⟨b, f, A, c, e, hm⟩ := (h3 x hx).2 l hl
  refine ⟨b, f, A, c, hm, fun w' hf => ?_⟩
  have := (h1.keep hf trivial).look kwho Try.underlying68 (Try.zeroValue79 w') (keyL_of (key_who hx))
  rw [e] at this
  exact this
theorem Insts.lookF {w : World} {T : Nat → Tag} {B bi k : Nat} {f : V4 → List EntD} (h : Insts w T B bi k f) {i : V4} (hi : InV i) :
    ∃ (vs : List EntV) (A : Option Addr) (c : Nat), vs.map EntV.d = f i ∧ RowM w T B 100 8 (.insR i) (.slice A vs.length c) vs.length (rcells EntV.cells vs) ∧ (∀ v ∈ vs, SlI w T 1 v.d.tr.length v.A v.c (ics v.d.tr) ∧ v.d.tr.length ≤ 1048576) ∧
      ∀ w', Fresh w w' → (Instr.lookup 69 (.map (some bi)) (viewA i) false).run Try.prog w' = .ok (.slice A vs.length c) w' := by
  obtain ⟨ps, h1, h2, h3⟩ := h
  obtain ⟨vs, e, hr, hs⟩ := h3 i hi
  obtain ⟨A, c, hv, -, -⟩ := own_rd hr.1
  rw [hv] at hr
  refine ⟨vs, A, c, e, hr, hs, fun w' hf => ?_⟩
  have := (h1.keep hf trivial).look kview Try.underlying69 (Try.zeroValue96 w') (keyL_of (key_view hi))
  rw [hv] at this
  exact this
theorem Mems.lookF {w : World} {T : Nat → Tag} {bm k : Nat} {f : V4 → List MemD} (h : Mems w T bm k f) {i : V4} (hi : InV i) :
    ∃ A c, SlI w T 3 (f i).length A c (rcells MemD.cells (f i)) ∧ (f i).length ≤ 1048576 ∧ ∀ w', Fresh w w' → (Instr.lookup 70 (.map (some bm)) (viewA i) false).run Try.prog w' = .ok (.slice A (f i).length c) w' := by
  obtain ⟨ps, h1, h2, h3⟩ := h
  obtain ⟨A, c, e, hr, hs⟩ := h3 i hi
  refine ⟨A, c, hr, hs, fun w' hf => ?_⟩
  have := (h1.keep hf trivial).look kview Try.underlying70 (Try.zeroValue42 w') (keyL_of (key_view hi))
  rw [e] at this
  exact this
theorem Ords.lookF {w : World} {T : Nat → Tag} {B bo k : Nat} {f : V4 → List TolD} (h : Ords w T B bo k f) {i : V4} (hi : InV i) :
    ∃ A c, RowM w T B 115 4 (.ordR i) (.slice A (f i).length c) (f i).length (rcells TolD.cells (f i)) ∧ ∀ w', Fresh w w' → (Instr.lookup 72 (.map (some bo)) (viewA i) false).run Try.prog w' = .ok (.slice A (f i).length c) w' := by
  obtain ⟨ps, h1, h2, h3⟩ := h
  have hr := h3 i hi
  obtain ⟨A, c, hv, -, -⟩ := own_rd hr.1
  rw [hv] at hr
  refine ⟨A, c, hr, fun w' hf => ?_⟩
  have := (h1.keep hf trivial).look kview Try.underlying72 (Try.zeroValue116 w') (keyL_of (key_view hi))
  rw [hv] at this
  exact this
theorem Cnts.lookF {w : World} {bc k : Nat} {f : V4 × Who → Nat} (h : Cnts w bc k f) {x : V4 × Who} (hv : InV x.1) (hw : InW x.2) (w' : World) (hf : Fresh w w') : (Instr.lookup 73 (.map (some bc)) (spotA x) false).run Try.prog w' = .ok (.int .i64 (f x : Int)) w' := by
  obtain ⟨ps, h1, h2, h3⟩ := h
  have := (h1.keep hf trivial).look kspot Try.underlying73 (Try.zeroValue3 w') (keyL_of (key_spot hv hw))
  rw [h3 x hv hw] at this
  exact this
theorem Sents.lookF {w : World} {T : Nat → Tag} {bs k : Nat} {f : V4 × Who × Int → Option (List UInt8)} (h : Sents w T bs k f) {x : V4 × Who × Int} (hv : InV x.1) (hw : InW x.2.1) (hi : I64 x.2.2) :
    (f x = none → ∀ w', Fresh w w' → (Instr.lookup 71 (.map (some bs)) (msgA x) true).run Try.prog w' = .ok (.tuple #[.slice none 0 0, .bool false]) w') ∧
      ∀ l, f x = some l → ∃ A c, SlI w T 1 l.length A c (Lib.byteCells l) ∧ l.length ≤ 1048576 ∧ ∀ w', Fresh w w' → (Instr.lookup 71 (.map (some bs)) (msgA x) true).run Try.prog w' = .ok (.tuple #[.slice A l.length c, .bool true]) w' := by
  obtain ⟨ps, h1, h2, h3⟩ := h
  have L := fun w' (hf : Fresh w w') => (h1.keep hf trivial).look_ok kmsg Try.underlying71 (Try.zeroValue43 w') (keyL_of (key_msg hv hw hi))
  refine ⟨fun e w' hf => ?_, fun l e => ?_⟩
  · have := L w' hf
    rw [(h3 x hv hw hi).1 e] at this
    exact this
  · obtain ⟨A, c, e1, hr, hs⟩ := (h3 x hv hw hi).2 l e
    refine ⟨A, c, hr, hs, fun w' hf => ?_⟩
    have := L w' hf
    rw [e1] at this
    exact this


theorem IntMap.look {w : World} {b k : Nat} {f : Int → Int} (h : IntMap w b k f) {z : Int} (hz : I64 z) (q : Nat) : (Instr.lookup 67 (.map (some b)) (.int .i64 z) false).run Try.prog (w.drewN q) = .ok (.int .i64 (f z)) (w.drewN q) := by
  obtain ⟨ps, h1, h2, h3⟩ := h
  have := (h1.keep ((Keep.refl (fun _ => True) w).drewN q) trivial).look kint0 Try.underlying67 (Try.zeroValue3 (w.drewN q)) (ikey hz)
  rw [h3 z hz] at this
  exact this
theorem Lives.look {w : World} {T : Nat → Tag} {bv k : Nat} {lv : Who → Option LifeD} (h : Lives w T bv k lv) {x : Who} (hx : InW x) {l : LifeD} (hl : lv x = some l) :
    ∃ b f A c, LifeM w T x b f k l A c ∧ ∀ q, (Instr.lookup 68 (.map (some bv)) (whoA x) false).run Try.prog (w.drewN q) = .ok (.pointer (some ⟨b, 0, none⟩)) (w.drewN q) := by
  obtain ⟨ps, h1, h2, h3⟩ := h
  obtain ⟨b, f, A, c, e, hm⟩ := (h3 x hx).2 l hl
  refine ⟨b, f, A, c, hm, fun q => ?_⟩
  have := (h1.keep ((Keep.refl (fun _ => True) w).drewN q) trivial).look kwho Try.underlying68 (Try.zeroValue79 (w.drewN q)) (keyL_of (key_who hx))
  rw [e] at this
  exact this
theorem Insts.look {w : World} {T : Nat → Tag} {B bi k : Nat} {f : V4 → List EntD} (h : Insts w T B bi k f) {i : V4} (hi : InV i) :
    ∃ (vs : List EntV) (A : Option Addr) (c : Nat), vs.map EntV.d = f i ∧ RowM w T B 100 8 (.insR i) (.slice A vs.length c) vs.length (rcells EntV.cells vs) ∧ (∀ v ∈ vs, SlI w T 1 v.d.tr.length v.A v.c (ics v.d.tr) ∧ v.d.tr.length ≤ 1048576) ∧
      ∀ q, (Instr.lookup 69 (.map (some bi)) (viewA i) false).run Try.prog (w.drewN q) = .ok (.slice A vs.length c) (w.drewN q) := by
  obtain ⟨ps, h1, h2, h3⟩ := h
  obtain ⟨vs, e, hr, hs⟩ := h3 i hi
  obtain ⟨A, c, hv, -, -⟩ := own_rd hr.1
  rw [hv] at hr
  refine ⟨vs, A, c, e, hr, hs, fun q => ?_⟩
  have := (h1.keep ((Keep.refl (fun _ => True) w).drewN q) trivial).look kview Try.underlying69 (Try.zeroValue96 (w.drewN q)) (keyL_of (key_view hi))
  rw [hv] at this
  exact this
theorem Mems.look {w : World} {T : Nat → Tag} {bm k : Nat} {f : V4 → List MemD} (h : Mems w T bm k f) {i : V4} (hi : InV i) :
    ∃ A c, SlI w T 3 (f i).length A c (rcells MemD.cells (f i)) ∧ (f i).length ≤ 1048576 ∧ ∀ q, (Instr.lookup 70 (.map (some bm)) (viewA i) false).run Try.prog (w.drewN q) = .ok (.slice A (f i).length c) (w.drewN q) := by
  obtain ⟨ps, h1, h2, h3⟩ := h
  obtain ⟨A, c, e, hr, hs⟩ := h3 i hi
  refine ⟨A, c, hr, hs, fun q => ?_⟩
  have := (h1.keep ((Keep.refl (fun _ => True) w).drewN q) trivial).look kview Try.underlying70 (Try.zeroValue42 (w.drewN q)) (keyL_of (key_view hi))
  rw [e] at this
  exact this
theorem Ords.look {w : World} {T : Nat → Tag} {B bo k : Nat} {f : V4 → List TolD} (h : Ords w T B bo k f) {i : V4} (hi : InV i) :
    ∃ A c, RowM w T B 115 4 (.ordR i) (.slice A (f i).length c) (f i).length (rcells TolD.cells (f i)) ∧ ∀ q, (Instr.lookup 72 (.map (some bo)) (viewA i) false).run Try.prog (w.drewN q) = .ok (.slice A (f i).length c) (w.drewN q) := by
  obtain ⟨ps, h1, h2, h3⟩ := h
  have hr := h3 i hi
  obtain ⟨A, c, hv, -, -⟩ := own_rd hr.1
  rw [hv] at hr
  refine ⟨A, c, hr, fun q => ?_⟩
  have := (h1.keep ((Keep.refl (fun _ => True) w).drewN q) trivial).look kview Try.underlying72 (Try.zeroValue116 (w.drewN q)) (keyL_of (key_view hi))
  rw [hv] at this
  exact this
theorem Cnts.look {w : World} {bc k : Nat} {f : V4 × Who → Nat} (h : Cnts w bc k f) {x : V4 × Who} (hv : InV x.1) (hw : InW x.2) (q : Nat) : (Instr.lookup 73 (.map (some bc)) (spotA x) false).run Try.prog (w.drewN q) = .ok (.int .i64 (f x : Int)) (w.drewN q) := by
  obtain ⟨ps, h1, h2, h3⟩ := h
  have := (h1.keep ((Keep.refl (fun _ => True) w).drewN q) trivial).look kspot Try.underlying73 (Try.zeroValue3 (w.drewN q)) (keyL_of (key_spot hv hw))
  rw [h3 x hv hw] at this
  exact this
theorem Sents.look {w : World} {T : Nat → Tag} {bs k : Nat} {f : V4 × Who × Int → Option (List UInt8)} (h : Sents w T bs k f) {x : V4 × Who × Int} (hv : InV x.1) (hw : InW x.2.1) (hi : I64 x.2.2) :
    (f x = none → ∀ q, (Instr.lookup 71 (.map (some bs)) (msgA x) true).run Try.prog (w.drewN q) = .ok (.tuple #[.slice none 0 0, .bool false]) (w.drewN q)) ∧
      ∀ l, f x = some l → ∃ A c, SlI w T 1 l.length A c (Lib.byteCells l) ∧ l.length ≤ 1048576 ∧ ∀ q, (Instr.lookup 71 (.map (some bs)) (msgA x) true).run Try.prog (w.drewN q) = .ok (.tuple #[.slice A l.length c, .bool true]) (w.drewN q) := by
  obtain ⟨ps, h1, h2, h3⟩ := h
  have L := fun q => (h1.keep ((Keep.refl (fun _ => True) w).drewN q) trivial).look_ok kmsg Try.underlying71 (Try.zeroValue43 (w.drewN q)) (keyL_of (key_msg hv hw hi))
  refine ⟨fun e q => ?_, fun l e => ?_⟩
  · have := L q
    rw [(h3 x hv hw hi).1 e] at this
    exact this
  · obtain ⟨A, c, e1, hr, hs⟩ := (h3 x hv hw hi).2 l e
    refine ⟨A, c, hr, hs, fun q => ?_⟩
    have := L q
    rw [e1] at this
    exact this

/-- A mark's numbers are ints. -/
structure MkInt (d : MarkD) : Prop where
  node : I64 d.node
  inc : I64 d.inc
  e1 : I64 d.e1
  e2 : I64 d.e2
  e3 : I64 d.e3
  e4 : I64 d.e4
  sender : I64 d.sender
  seq : I64 d.seq
  mem : ∀ y ∈ d.mem, I64 y.p ∧ I64 y.i
theorem MkInt.who {d : MarkD} (h : MkInt d) : InW d.who := ⟨h.node, h.inc⟩
theorem MkInt.id {d : MarkD} (h : MkInt d) : InV d.id := ⟨h.e1, h.e2, h.e3, h.e4⟩
/-- A mark in a variable. -/
structure MkB (w : World) (b : Nat) (x : MkV) : Prop where
  blk : Blk w b 50 x.cells.toArray
theorem MkB.new (w : World) (x : MkV) : MkB (w.alloc (.cells x.cells.toArray 50)) w.heap.size x := ⟨Blk.new _ _ _⟩
section
variable {w : World} {b : Nat} {x : MkV} (h : MkB w b x)
include h
theorem MkB.at_ : w.cell? ⟨b, 0, none⟩ = some (.int .i64 x.d.at_) := h.blk.cell 0
theorem MkB.kind : w.cell? ⟨b, 1, none⟩ = some (.int .i64 x.d.kind) := h.blk.cell 1
theorem MkB.node : w.cell? ⟨b, 2, none⟩ = some (.int .i64 x.d.node) := h.blk.cell 2
theorem MkB.inc : w.cell? ⟨b, 3, none⟩ = some (.int .i64 x.d.inc) := h.blk.cell 3
theorem MkB.e1 : w.cell? ⟨b, 4, none⟩ = some (.int .i64 x.d.e1) := h.blk.cell 4
theorem MkB.e2 : w.cell? ⟨b, 5, none⟩ = some (.int .i64 x.d.e2) := h.blk.cell 5
theorem MkB.e3 : w.cell? ⟨b, 6, none⟩ = some (.int .i64 x.d.e3) := h.blk.cell 6
theorem MkB.e4 : w.cell? ⟨b, 7, none⟩ = some (.int .i64 x.d.e4) := h.blk.cell 7
theorem MkB.vm : w.cell? ⟨b, 8, none⟩ = some x.vm := h.blk.cell 8
theorem MkB.vt : w.cell? ⟨b, 9, none⟩ = some x.vt := h.blk.cell 9
theorem MkB.sender : w.cell? ⟨b, 10, none⟩ = some (.int .i64 x.d.sender) := h.blk.cell 10
theorem MkB.seq : w.cell? ⟨b, 11, none⟩ = some (.int .i64 x.d.seq) := h.blk.cell 11
theorem MkB.pos : w.cell? ⟨b, 12, none⟩ = some (.int .i64 x.d.pos) := h.blk.cell 12
theorem MkB.n : w.cell? ⟨b, 13, none⟩ = some (.int .i64 x.d.n) := h.blk.cell 13
theorem MkB.vb : w.cell? ⟨b, 14, none⟩ = some x.vb := h.blk.cell 14
end
end Go.Proofs.Ytfpcmleeehciaaa
