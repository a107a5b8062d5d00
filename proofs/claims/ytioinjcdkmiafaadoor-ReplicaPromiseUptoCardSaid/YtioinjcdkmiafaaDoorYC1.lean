/-
  MERGED: Snap
-/
import Derived.Test.YtioinjcdkmiafaaDoorYB7
import Derived.Test.YtioinjcdkmiafaaDoorYC0
import Derived.Test.YtioinjcdkmiafaaDoorYB5
import Derived.Test.YtioinjcdkmiafaaDoorYB6
import Derived.Deep.RegionHeld3
import Derived.RegionCalls
namespace Go.Proofs.YtioinjcdkmiafaaDoor
set_option linter.unusedVariables false
set_option linter.unusedSimpArgs false
open Go.RowKit

/-! ### the writer from a world on -/
structure WrTo (wp : World) (vp : Value) (g : Nat) (wr : World) (vr : Value) : Prop where
  keep : Keep (fun k => k ≠ g ∧ vp.ownBlock ≠ some k) wp wr
  next : Next wp.heap.size vp vr
theorem WrTo.refl (w : World) (v : Value) (g : Nat) : WrTo w v g w v := ⟨Keep.refl _ _, Next.refl _ _⟩
theorem WrTo.fresh {wp wr w2 : World} {vp vr : Value} {g : Nat} (h : WrTo wp vp g wr vr) (hf : Fresh wr w2) : WrTo wp vp g w2 vr := ⟨h.keep.comp hf (fun _ _ h => h) (fun _ _ _ => trivial), h.next⟩
theorem WrTo.step {wp wr w2 : World} {vp vr v2 : Value} {g : Nat} (h : WrTo wp vp g wr vr) (hk : Keep (fun k => k ≠ g ∧ vr.ownBlock ≠ some k) wr w2) (hn : Next wr.heap.size vr v2) : WrTo wp vp g w2 v2 :=
  ⟨h.keep.comp hk (fun _ _ h => h) (fun i hi hj => ⟨hj.1, fun e => by
    rcases h.next with h1 | ⟨b, hb, hl⟩
    · exact hj.2 (h1.symm.trans e)
    · rw [hb] at e
      injection e with e
      omega⟩), h.next.trans hn h.keep.size⟩
section
variable {w1 w wa : World} {v1 v : Value} {B g : Nat} {bs : Txt}
end
/-- A block is a row of its own cells. -/
theorem own_of_blk {w : World} {g base : Nat} {t : TypeId} {cs : Array Value} (h : Blk w g t cs) (hb : base ≤ g) (hm : cs.size ≤ maxLen) (n : Nat) (hn : n = cs.size) : w.ownsRow base t 1 (.slice (some ⟨g, 0, none⟩) n n) n cs.toList := by
  subst hn
  exact ⟨by simp, .inr ⟨g, cs.size, cs, rfl, hb, h, Nat.le_refl _, hm, by simp, by rw [Nat.mul_one]; exact List.take_of_length_le (by simp)⟩⟩
/-- Ints, texts that lie in a block of their own. -/
theorem rd_ints {w : World} {b : Nat} {t : TypeId} {cs : Array Value} (h : Blk w b t cs) (xs : List Int) (hx : cs.toList = ics xs) (n : Nat) (hn : n = xs.length) : Rd w (fun k => k = b) 1 (some ⟨b, 0, none⟩) n (ics xs) := by
  rw [← hx]
  exact h.rd (by have := congrArg List.length hx; simp [ics] at this; omega)
theorem rd_txts {w : World} {b : Nat} {t : TypeId} {cs : Array Value} (h : Blk w b t cs) (ss : List ByteArray) (hx : cs.toList = scs ss) (n : Nat) (hn : n = ss.length) : Rd w (fun k => k = b) 1 (some ⟨b, 0, none⟩) n (scs ss) := by
  rw [← hx]
  exact h.rd (by have := congrArg List.length hx; simp [scs] at this; omega)
/-- What the snapshot holds behind k pairs; k locks; k sessions. -/
def sn1 (s : StD) : Txt := headB ++ encs [s.tok, (s.pairs.length : Int)]
def sn2 (s : StD) (k : Nat) : Txt := sn1 s ++ (s.pairs.take k).flatMap pairB
def sn3 (s : StD) : Txt := sn2 s s.pairs.length ++ encs [(s.locks.length : Int)]
def sn4 (s : StD) (k : Nat) : Txt := sn3 s ++ (s.locks.take k).flatMap lockB
def sn5 (s : StD) : Txt := sn4 s s.locks.length ++ encs [((askTo s.ss 16).length : Int)]
def sn6 (s : StD) (k : Nat) : Txt := sn5 s ++ ((asked s.ss).take k).flatMap sesB
theorem sn_all (s : StD) : sn6 s (asked s.ss).length = bodyB s := by
  unfold sn6 sn5 sn4 sn3 sn2 sn1 bodyB restB
  have h : ((askTo s.ss 16).length : Int).toNat = (asked s.ss).length := by rw [askTo_all]; simp
  simp only [List.take_length, encs_cons, encs_nil, List.append_nil, List.append_assoc, h, Int.toNat_natCast]
theorem map_len_at {w : World} {b : Nat} {ps : List Kv} (h : MapIs Tryd.prog 9 w b ps) : ∃ es cl, w.heap[b]? = some (.map es cl) ∧ es.size = ps.length := by
  have h2 := h
  obtain ⟨es, cl, hb, F, hle, hD⟩ := h2
  refine ⟨es, cl, hb, ?_⟩
  have e1 : Maps.size (mD ps) = es.size := by rw [hD]; simp [Maps.size, length_sorted]
  rw [mD_size] at e1
  exact e1.symm
theorem map_len_run {w : World} {b : Nat} {t k e : TypeId} (ht : Tryd.prog.underlying t = some (.map k e)) {es : Array MapEntry} {cl : Nat} (hb : w.heap[b]? = some (.map es cl)) (ty : TypeId) : Sem.run Tryd.prog (Builtin.len_ #[t] ty #[Value.map (some b)]) w = Result.ok (.int .i64 (es.size : Int)) w := by
  simp [Builtin.len_, run_underlying ht, MapKept.run_getObj_map hb, goInt, Result.andThen]
/-- Two rows of elements of different types lie apart. -/
theorem own_apart {w : World} {b1 e1 s1 n1 b2 e2 s2 n2 : Nat} {v1 v2 : Value} {x1 x2 : List Value} (h1 : w.ownsRow b1 e1 s1 v1 n1 x1) (h2 : w.ownsRow b2 e2 s2 v2 n2 x2) (hne : e1 ≠ e2) {k : Nat} (hk : v1.ownBlock = some k) : v2.ownBlock ≠ some k := by
  rcases h1.2 with ⟨rfl, _⟩ | ⟨g, cap, cur, rfl, _, hh, _⟩
  · cases hk
  · rcases h2.2 with ⟨rfl, _⟩ | ⟨g2, cap2, cur2, rfl, _, hh2, _⟩
    · simp [Value.ownBlock]
    · intro e
      simp only [Value.ownBlock] at hk e
      injection hk with hk
      injection e with e
      rw [hk] at hh
      rw [e, hh] at hh2
      injection hh2 with hh2
      injection hh2 with _ h3
      exact hne h3
theorem flat_le {α : Type} {f : α → Txt} {c : Nat} (l : List α) (h : ∀ x ∈ l, (f x).length ≤ c) : (l.flatMap f).length ≤ l.length * c := by
  induction l with
  | nil => simp
  | cons x r ih =>
    have h1 := h x (by simp)
    have h2 := ih fun y hy => h y (by simp [hy])
    rw [List.flatMap_cons, List.length_append, List.length_cons, Nat.add_mul]
    omega
theorem flat_take {α : Type} {f : α → Txt} (l : List α) (k : Nat) : ((l.take k).flatMap f).length ≤ (l.flatMap f).length := by
  have h : l.flatMap f = (l.take k).flatMap f ++ (l.drop k).flatMap f := by rw [← List.flatMap_append, List.take_append_drop]
  rw [h, List.length_append]
  omega
theorem sn_len {s : StD} (h : Inv s) : (∀ k, (sn2 s k).length ≤ 1070) ∧ (sn3 s).length ≤ 1070 ∧ (∀ k, (sn4 s k).length ≤ 1070) ∧ (sn5 s).length ≤ 1070 ∧ ∀ k, (sn6 s k).length ≤ 1070 := by
  have h0 := snap_len h
  have h1 : (sn6 s (asked s.ss).length).length ≤ 1070 := by
    rw [sn_all]
    unfold snapB at h0
    rw [List.length_append] at h0
    omega
  have e6 : ∀ k, (sn6 s k).length ≤ (sn6 s (asked s.ss).length).length := fun k => by
    unfold sn6
    rw [List.take_length, List.length_append, List.length_append]
    have := flat_take (f := sesB) (asked s.ss) k
    omega
  have e5 : (sn5 s).length ≤ (sn6 s (asked s.ss).length).length := by
    unfold sn6
    rw [List.length_append]
    omega
  have e4 : ∀ k, (sn4 s k).length ≤ (sn5 s).length := fun k => by
    unfold sn5 sn4
    rw [List.take_length, List.length_append, List.length_append, List.length_append]
    have := flat_take (f := lockB) s.locks k
    omega
  have e3 : (sn3 s).length ≤ (sn4 s 0).length := by
    unfold sn4
    rw [List.length_append]
    omega
  have e2 : ∀ k, (sn2 s k).length ≤ (sn3 s).length := fun k => by
    unfold sn3 sn2
    rw [List.take_length, List.length_append, List.length_append, List.length_append]
    have := flat_take (f := pairB) s.pairs k
    omega
  have f4 := e4 0
  refine ⟨fun k => ?_, by omega, fun k => ?_, by omega, fun k => ?_⟩
  · have := e2 k; omega
  · have := e4 k; omega
  · have := e6 k; omega
theorem sum_cells (bs : Txt) (sm : Nat) (h : sm = crcB bs) : [Value.int .u8 ((sm : Int) % 256), .int .u8 ((sm : Int) / 256 % 256), .int .u8 ((sm : Int) / 65536 % 256), .int .u8 ((sm : Int) / 16777216)] = Lib.byteCells (sumB bs) := by
  have h1 := crcB_lt bs
  unfold sumB
  rw [← h] at h1 ⊢
  have e : ∀ x : Nat, x < 256 → ((UInt8.ofNat x).toNat : Int) = (x : Int) := fun x hx => by rw [toNat_ofNat x hx]
  simp only [Lib.byteCells, List.map_cons, List.map_nil]
  rw [e _ (by omega), e _ (by omega), e _ (by omega), e _ (by omega)]
  have e4 : (sm : Int) / 16777216 = ((sm / 16777216 % 256 : Nat) : Int) := by omega
  rw [e4]
  simp
theorem okInts_one {a : Int} (h : 0 ≤ a) (h1 : a ≤ 4611686018427387904) : okInts [a] := fun x hx => by
  simp only [List.mem_cons, List.not_mem_nil, or_false] at hx
  subst hx
  exact ⟨h, h1⟩

end Go.Proofs.YtioinjcdkmiafaaDoor
