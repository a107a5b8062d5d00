/-
  MERGED: Snap RSess RestP
-/
import Derived.Test.YtggibajakcigaaaGreatDoorT6
import Derived.Test.YtggibajakcigaaaGreatDoorT7
import Derived.Test.YtggibajakcigaaaGreatDoorT5
import Derived.Deep.RegionHeld3
import Derived.RegionCalls
import Derived.BigRegion
namespace Go.Proofs.YtggibajakcigaaaGreatDoor
set_option linter.unusedVariables false
set_option linter.unusedSimpArgs false
open Go.RowKit

/-! ### the writer from a world on -/
structure WrTo (wp : World) (vp : Value) (g : Nat) (wr : World) (vr : Value) : Prop where
  keep : Keep (fun k => k ≠ g ∧ vp.ownBlock ≠ some k) wp wr
  next : Next wp.heap.size vp vr
theorem WrTo.refl (w : World) (v : Value) (g : Nat) : WrTo w v g w v := ⟨Keep.refl _ _, Next.refl _ _⟩
theorem WrTo.fresh {wp wr w2 : World} {vp vr : Value} {g : Nat} (h : WrTo wp vp g wr vr) (hf : Fresh wr w2) : WrTo wp vp g w2 vr := ⟨h.keep.comp hf (fun _ _ h => h) (fun _ _ _ => trivial), h.next⟩
theorem WrTo.step {wp wr w2 : World} {vp vr v2 : Value} {g : Nat} (h : WrTo wp vp g wr vr) (hk : Keep (fun k => k ≠ g ∧ vr.ownBlock ≠ some k) wr w2) (hn : Next wr.heap.size vr v2) : WrTo wp vp g w2 v2 :=
  ⟨h.keep.comp hk (fun _ _ h => h) (fun i hi hj => ⟨hj.1, fun e => by
    rcases h.next with h1 | ⟨b, hb, hl⟩
    · exact hj.2 (h1.symm.trans e)
    · rw [hb] at e
      injection e with e
      omega⟩), h.next.trans hn h.keep.size⟩
/-- Block g is the writer, begun at w1. -/
structure WAt (w1 : World) (v1 : Value) (B g : Nat) (bs : Txt) (w : World) (v : Value) : Prop where
  wr : Wr w B g v bs
  tw : WrTo w1 v1 g w v
  b1 : B ≤ w.heap.size
section
variable {w1 w wa : World} {v1 v : Value} {B g : Nat} {bs : Txt}
theorem WAt.fresh (h : WAt w1 v1 B g bs w v) (hf : Fresh w wa) : WAt w1 v1 B g bs wa v := ⟨⟨h.wr.1.keep hf trivial, own_keep h.wr.2 hf (fun _ _ => trivial)⟩, h.tw.fresh hf, Nat.le_trans h.b1 hf.size⟩
/-- The writer's counts, out of a list that has just been laid. -/
theorem counts_step (h : WAt w1 v1 B g bs w v) (xs : List Int) (hx : okInts xs) (hf : Fresh w wa) (c : Nat) (A : Option Addr) (m : Nat) (Z : Nat → Prop) (hl : Rd wa Z 1 A m (ics xs)) (hz : ∀ k, Z k → k ≠ g ∧ v.ownBlock ≠ some k ∧ k < wa.heap.size) (hn : bs.length + 9 * m ≤ 1099511627770) :
    Calls Tryz.prog 34 #[.pointer (some ⟨g, 0, none⟩), .slice A m c] wa fun e w' => e = .returned (.tuple #[]) ∧ ∃ v', WAt w1 v1 B g (bs ++ encs xs) w' v' ∧ Keep (fun k => k ≠ g ∧ v.ownBlock ≠ some k) w w' ∧ Next w.heap.size v v' := by
  have ha := h.fresh hf
  refine (counts_any B g v bs Z A m c xs wa ha.wr hx hl hz ha.b1 hn).mono ?_
  rintro e w' ⟨rfl, v', hw', hk', hn'⟩
  exact ⟨rfl, v', ⟨hw', ha.tw.step hk' hn', Nat.le_trans ha.b1 hk'.size⟩, hf.comp hk' (fun _ _ _ => trivial) (fun _ _ h => h), by
    rcases hn' with e | ⟨b, hb, hl⟩
    · exact .inl e
    · exact .inr ⟨b, hb, Nat.le_trans hf.size hl⟩⟩
theorem texts_step (h : WAt w1 v1 B g bs w v) (ss : List ByteArray) (hx : okTxts ss) (hf : Fresh w wa) (c : Nat) (A : Option Addr) (m : Nat) (Z : Nat → Prop) (hl : Rd wa Z 1 A m (scs ss)) (hz : ∀ k, Z k → k ≠ g ∧ v.ownBlock ≠ some k ∧ k < wa.heap.size) (hn : bs.length + 1048585 * m ≤ 1099510000000) :
    Calls Tryz.prog 35 #[.pointer (some ⟨g, 0, none⟩), .slice A m c] wa fun e w' => e = .returned (.tuple #[]) ∧ ∃ v', WAt w1 v1 B g (bs ++ txts ss) w' v' ∧ Keep (fun k => k ≠ g ∧ v.ownBlock ≠ some k) w w' ∧ Next w.heap.size v v' := by
  have ha := h.fresh hf
  refine (texts_any B g v bs Z A m c ss wa ha.wr hx hl hz ha.b1 hn).mono ?_
  rintro e w' ⟨rfl, v', hw', hk', hn'⟩
  exact ⟨rfl, v', ⟨hw', ha.tw.step hk' hn', Nat.le_trans ha.b1 hk'.size⟩, hf.comp hk' (fun _ _ _ => trivial) (fun _ _ h => h), by
    rcases hn' with e | ⟨b, hb, hl⟩
    · exact .inl e
    · exact .inr ⟨b, hb, Nat.le_trans hf.size hl⟩⟩
theorem WAt.new (h : WAt w1 v1 B g bs w v) (hf : Fresh w wa) : ∀ k, k = wa.heap.size - 1 → w.heap.size < wa.heap.size → k ≠ g ∧ v.ownBlock ≠ some k ∧ k < wa.heap.size := fun k hk hl => by
  have h1 := h.wr.1.lt
  refine ⟨by omega, fun e => by have := (own_lt h.wr.2 e).2; omega, by omega⟩
end
/-- A block is a row of its own cells. -/
theorem own_of_blk {w : World} {g base : Nat} {t : TypeId} {cs : Array Value} (h : Blk w g t cs) (hb : base ≤ g) (hm : cs.size ≤ maxLen) (n : Nat) (hn : n = cs.size) : w.ownsRow base t 1 (.slice (some ⟨g, 0, none⟩) n n) n cs.toList := by
  subst hn
  exact ⟨by simp, .inr ⟨g, cs.size, cs, rfl, hb, h, Nat.le_refl _, hm, by simp, by rw [Nat.mul_one]; exact List.take_of_length_le (by simp)⟩⟩
/-- Ints, texts that lie in a block of their own. -/
theorem rd_ints {w : World} {b : Nat} {t : TypeId} {cs : Array Value} (h : Blk w b t cs) (xs : List Int) (hx : cs.toList = ics xs) (n : Nat) (hn : n = xs.length) : Rd w (fun k => k = b) 1 (some ⟨b, 0, none⟩) n (ics xs) := by
  rw [← hx]
  exact h.rd (by have := congrArg List.length hx; simp [ics] at this; omega)
theorem rd_txts {w : World} {b : Nat} {t : TypeId} {cs : Array Value} (h : Blk w b t cs) (ss : List ByteArray) (hx : cs.toList = scs ss) (n : Nat) (hn : n = ss.length) : Rd w (fun k => k = b) 1 (some ⟨b, 0, none⟩) n (scs ss) := by
  rw [← hx]
  exact h.rd (by have := congrArg List.length hx; simp [scs] at this; omega)
/-- What the snapshot holds behind k pairs; k locks; k sessions. -/
def sn1 (s : StD) : Txt := headB ++ encs [s.tok, (s.pairs.length : Int)]
def sn2 (s : StD) (k : Nat) : Txt := sn1 s ++ (s.pairs.take k).flatMap pairB
def sn3 (s : StD) : Txt := sn2 s s.pairs.length ++ encs [(s.locks.length : Int)]
def sn4 (s : StD) (k : Nat) : Txt := sn3 s ++ (s.locks.take k).flatMap lockB
def sn5 (s : StD) : Txt := sn4 s s.locks.length ++ encs [((askTo s.ss 16).length : Int)]
def sn6 (s : StD) (k : Nat) : Txt := sn5 s ++ ((asked s.ss).take k).flatMap sesB
theorem sn_all (s : StD) : sn6 s (asked s.ss).length = bodyB s := by
  unfold sn6 sn5 sn4 sn3 sn2 sn1 bodyB restB
  have h : ((askTo s.ss 16).length : Int).toNat = (asked s.ss).length := by rw [askTo_all]; simp
  simp only [List.take_length, encs_cons, encs_nil, List.append_nil, List.append_assoc, h, Int.toNat_natCast]
theorem map_len_at {w : World} {b : Nat} {ps : List Kv} (h : MapIs Tryz.prog 9 w b ps) : ∃ es cl, w.heap[b]? = some (.map es cl) ∧ es.size = ps.length := by
  have h2 := h
  obtain ⟨es, cl, hb, F, hle, hD⟩ := h2
  refine ⟨es, cl, hb, ?_⟩
  have e1 : Maps.size (mD ps) = es.size := by rw [hD]; simp [Maps.size, length_sorted]
  rw [mD_size] at e1
  exact e1.symm
theorem map_len_run {w : World} {b : Nat} {t k e : TypeId} (ht : Tryz.prog.underlying t = some (.map k e)) {es : Array MapEntry} {cl : Nat} (hb : w.heap[b]? = some (.map es cl)) (ty : TypeId) : Sem.run Tryz.prog (Builtin.len_ #[t] ty #[Value.map (some b)]) w = Result.ok (.int .i64 (es.size : Int)) w := by
  simp [Builtin.len_, run_underlying ht, MapKept.run_getObj_map hb, goInt, Result.andThen]
/-- Two rows of elements of different types lie apart. -/
theorem own_apart {w : World} {b1 e1 s1 n1 b2 e2 s2 n2 : Nat} {v1 v2 : Value} {x1 x2 : List Value} (h1 : w.ownsRow b1 e1 s1 v1 n1 x1) (h2 : w.ownsRow b2 e2 s2 v2 n2 x2) (hne : e1 ≠ e2) {k : Nat} (hk : v1.ownBlock = some k) : v2.ownBlock ≠ some k := by
  rcases h1.2 with ⟨rfl, _⟩ | ⟨g, cap, cur, rfl, _, hh, _⟩
  · cases hk
  · rcases h2.2 with ⟨rfl, _⟩ | ⟨g2, cap2, cur2, rfl, _, hh2, _⟩
    · simp [Value.ownBlock]
    · intro e
      simp only [Value.ownBlock] at hk e
      injection hk with hk
      injection e with e
      rw [hk] at hh
      rw [e, hh] at hh2
      injection hh2 with hh2
      injection hh2 with _ h3
      exact hne h3
theorem flat_le {α : Type} {f : α → Txt} {c : Nat} (l : List α) (h : ∀ x ∈ l, (f x).length ≤ c) : (l.flatMap f).length ≤ l.length * c := by
  induction l with
  | nil => simp
  | cons x r ih =>
    have h1 := h x (by simp)
    have h2 := ih fun y hy => h y (by simp [hy])
    rw [List.flatMap_cons, List.length_append, List.length_cons, Nat.add_mul]
    omega
theorem flat_take {α : Type} {f : α → Txt} (l : List α) (k : Nat) : ((l.take k).flatMap f).length ≤ (l.flatMap f).length := by
  have h : l.flatMap f = (l.take k).flatMap f ++ (l.drop k).flatMap f := by rw [← List.flatMap_append, List.take_append_drop]
  rw [h, List.length_append]
  omega
theorem sn_len {s : StD} (h : Inv s) : (∀ k, (sn2 s k).length ≤ 1070) ∧ (sn3 s).length ≤ 1070 ∧ (∀ k, (sn4 s k).length ≤ 1070) ∧ (sn5 s).length ≤ 1070 ∧ ∀ k, (sn6 s k).length ≤ 1070 := by
  have h0 := snap_len h
  have h1 : (sn6 s (asked s.ss).length).length ≤ 1070 := by
    rw [sn_all]
    unfold snapB at h0
    rw [List.length_append] at h0
    omega
  have e6 : ∀ k, (sn6 s k).length ≤ (sn6 s (asked s.ss).length).length := fun k => by
    unfold sn6
    rw [List.take_length, List.length_append, List.length_append]
    have := flat_take (f := sesB) (asked s.ss) k
    omega
  have e5 : (sn5 s).length ≤ (sn6 s (asked s.ss).length).length := by
    unfold sn6
    rw [List.length_append]
    omega
  have e4 : ∀ k, (sn4 s k).length ≤ (sn5 s).length := fun k => by
    unfold sn5 sn4
    rw [List.take_length, List.length_append, List.length_append, List.length_append]
    have := flat_take (f := lockB) s.locks k
    omega
  have e3 : (sn3 s).length ≤ (sn4 s 0).length := by
    unfold sn4
    rw [List.length_append]
    omega
  have e2 : ∀ k, (sn2 s k).length ≤ (sn3 s).length := fun k => by
    unfold sn3 sn2
    rw [List.take_length, List.length_append, List.length_append, List.length_append]
    have := flat_take (f := pairB) s.pairs k
    omega
  have f4 := e4 0
  refine ⟨fun k => ?_, by omega, fun k => ?_, by omega, fun k => ?_⟩
  · have := e2 k; omega
  · have := e4 k; omega
  · have := e6 k; omega
theorem sum_cells (bs : Txt) (sm : Nat) (h : sm = crcB bs) : [Value.int .u8 ((sm : Int) % 256), .int .u8 ((sm : Int) / 256 % 256), .int .u8 ((sm : Int) / 65536 % 256), .int .u8 ((sm : Int) / 16777216)] = Lib.byteCells (sumB bs) := by
  have h1 := crcB_lt bs
  unfold sumB
  rw [← h] at h1 ⊢
  have e : ∀ x : Nat, x < 256 → ((UInt8.ofNat x).toNat : Int) = (x : Int) := fun x hx => by rw [toNat_ofNat x hx]
  simp only [Lib.byteCells, List.map_cons, List.map_nil]
  rw [e _ (by omega), e _ (by omega), e _ (by omega), e _ (by omega)]
  have e4 : (sm : Int) / 16777216 = ((sm / 16777216 % 256 : Nat) : Int) := by omega
  rw [e4]
  simp
theorem okInts_one {a : Int} (h : 0 ≤ a) (h1 : a ≤ 4611686018427387904) : okInts [a] := fun x hx => by
  simp only [List.mem_cons, List.not_mem_nil, or_false] at hx
  subst hx
  exact ⟨h, h1⟩

set_option maxRecDepth 20000 in
set_option maxHeartbeats 4000000 in
theorem snapshot_any (S : Nat → Prop) (m bp bl : Nat) (s : StD) (w : World) (hm : MSt S w m bp bl s) (hi : Inv s) (hT : Nib w) (hTf : ∀ w', Fresh w w' → Nib w') :
    Calls Tryz.prog 16 #[.pointer (some ⟨m, 0, none⟩)] w fun e w' => (∃ v, e = .returned v ∧ w'.ownsRow w.heap.size 5 1 v (snapB s).length (Lib.byteCells (snapB s))) ∧ Fresh w w' := by
  obtain ⟨G, hG⟩ : ∃ G, G = w.heap.size := ⟨_, rfl⟩
  obtain ⟨W, hW⟩ : ∃ W, W = (w.alloc (.cells #[.int .u8 81, .int .u8 83, .int .u8 1] 5)).alloc (.cells #[.slice (some ⟨G, 0, none⟩) 3 3] 91) := ⟨_, rfl⟩
  have hf : Fresh w W := hW ▸ ((Keep.refl _ w).alloc _).alloc _
  have hb0 : Blk W G 5 #[.int .u8 81, .int .u8 83, .int .u8 1] := by rw [hW, hG]; exact (Blk.new _ _ _).alloc _
  have hb1 : Blk W (G + 1) 91 #[.slice (some ⟨G, 0, none⟩) 3 3] := by rw [hW]; exact Blk.newAt (by simp [hG])
  have hWA : WAt W (.slice (some ⟨G, 0, none⟩) 3 3) G (G + 1) headB W (.slice (some ⟨G, 0, none⟩) 3 3) := by
    refine ⟨⟨hb1, ?_⟩, WrTo.refl _ _ _, by have := hb1.lt; omega⟩
    have h1 := own_of_blk (base := G) hb0 (Nat.le_refl _) (by decide) 3 rfl
    exact h1
  have hmW := hm.fresh hf
  obtain ⟨x0, -, x2⟩ := hmW.three
  have ml := hmW.blk.lt
  have hgl := hb1.lt
  have htok := hi.lk.tok1
  have htok0 := hi.lk.tok0
  have hp16 := hi.pr.len
  obtain ⟨tok, htk⟩ : ∃ t, t = s.tok := ⟨_, rfl⟩
  rw [← htk] at x2 htok htok0
  have HA := Lib.hid (And.intro hm (And.intro hi (And.intro hf (And.intro hWA (And.intro hmW (And.intro hG (And.intro hTf htk)))))))
  clear hm hi hf hb0 hb1 hWA hmW hT hTf htk
  go_enter Tryz.func16, Tryz.ntmps16
  go_upto_region 2 with (fail)
  simp only [← hG]
  rw [← hW]
  clear hW hG
  obtain ⟨es, cl, hes, hen⟩ := map_len_at HA.out.2.2.2.2.1.pm
  rw [sk_len] at hen
  have hmG : m < G := by rw [HA.out.2.2.2.2.2.1]; exact HA.out.1.blk.lt
  have hbG : bp < G := by rw [HA.out.2.2.2.2.2.1]; exact HA.out.1.pm.lt
  have HS := Lib.hid (fun w' (hk : Keep (fun k => k < G) W w') => (⟨(hk.block _ HA.out.2.2.2.2.1.pm.lt hbG).trans hes, hk.cellAt x0 hmG, hk.cellAt x2 hmG⟩ : w'.heap[bp]? = some (.map es cl) ∧ w'.cell? ⟨m, 0, none⟩ = some (.map (some bp)) ∧ w'.cell? ⟨m, 2, none⟩ = some (.int .i64 tok)))
  have HC := Lib.hid (counts_step (wa := World.drew (W.alloc (.cells #[.int .i64 tok, .int .i64 (s.pairs.length : Int)] 3))) HA.out.2.2.2.1 [tok, (s.pairs.length : Int)] (by intro x hx; simp only [List.mem_cons, List.not_mem_nil, or_false] at hx; rcases hx with rfl | rfl <;> omega) (((Keep.refl _ W).alloc _).drew) 2 (some ⟨W.heap.size, 0, none⟩) 2 _ (rd_ints (Blk.new W _ _).drew _ rfl 2 rfl) (fun k hk => ⟨by have e : k = W.heap.size := hk; omega, by simp [Value.ownBlock]; have e : k = W.heap.size := hk; omega, by have e : k = W.heap.size := hk; show k < (W.alloc _).heap.size; simp; omega⟩) (by simp [headB]))
  have hlen : ∀ w' : World, w'.heap[bp]? = some (.map es cl) → Sem.run Tryz.prog (Builtin.len_ #[51] 3 #[Value.map (some bp)]) w' = Result.ok (.int .i64 (es.size : Int)) w' := fun w' h => map_len_run Tryz.underlying51 h _
  go_region_held3 (fun w' => w'.heap[bp]? = some (.map es cl) ∧ w'.cell? ⟨m, 0, none⟩ = some (.map (some bp)) ∧ w'.cell? ⟨m, 2, none⟩ = some (.int .i64 tok))
    (first | exact HS.out _ (Keep.refl _ W).drew | exact HS.out _ (((Keep.refl _ W).alloc _).drew) | exact HS.out _ (hk2.weaken fun k _ h => ⟨by omega, by simp [Value.ownBlock]; omega⟩))
    (first | (go_at_call 34; with_reducible refine Calls.mono HC.out ?_; rintro e w2 ⟨rfl, v2, hw2, hk2, -⟩))
  have hw2' : WAt W (.slice (some ⟨G, 0, none⟩) 3 3) G (G + 1) (sn1 s) w2 v2 := by unfold sn1; rw [← HA.out.2.2.2.2.2.2.2]; exact hw2
  obtain ⟨V1, hV1⟩ : ∃ V, V = Value.slice (some ⟨G, 0, none⟩) 3 3 := ⟨_, rfl⟩
  obtain ⟨S', hS'⟩ : ∃ S' : Nat → Prop, S' = fun j => S j ∧ j < w.heap.size := ⟨_, rfl⟩
  have HMk : Hid (∀ bs wr vr, WAt W V1 G (G + 1) bs wr vr → MSt S' wr m bp bl s ∧ Fresh w wr) := Lib.hid fun bs wr vr h => by
    have hk : Keep (fun k => k < G) W wr := h.tw.keep.weaken fun k _ hk => ⟨by omega, by rw [hV1]; simp [Value.ownBlock]; omega⟩
    have hG := HA.out.2.2.2.2.2.1
    have hF : Fresh w wr := HA.out.2.2.1.comp hk (fun _ _ h => h) (fun k hk _ => by omega)
    rw [hS']
    exact ⟨HA.out.1.tight.fresh hF, hF⟩
  have HSG : Hid (∀ j, S' j → j < G) := Lib.hid fun j h => by rw [hS'] at h; have := HA.out.2.2.2.2.2.1; omega
  rw [← hV1] at hw2'
  have H2 := Lib.hid hw2'
  have h2m := (HMk.out _ _ _ hw2').1
  have hml2 := h2m.blk.lt
  have HP := Lib.hid (pairs_any S' m bp bl s w2 h2m HA.out.2.1.pr)
  have hG2 : G + 1 < w2.heap.size := hw2'.wr.1.lt
  clear hw2 hw2' HC HS hlen hes hen hk2 h2m x0 x2 htok htok0 hV1 hS' ml hgl hmG hbG
  go_wp2_with fail
  refine HP.out.mono ?_
  rintro e w3 ⟨⟨vP, rfl, hoP⟩, f3⟩
  obtain ⟨AP, cP, rfl, hrP, -⟩ := own_rd hoP
  have H3 := Lib.hid (And.intro (H2.out.fresh f3) (And.intro hoP (And.intro hrP f3)))
  have hml3 : m < w3.heap.size := Nat.lt_of_lt_of_le hml2 f3.size
  have hG3 : G + 1 < w3.heap.size := Nat.lt_of_lt_of_le hG2 f3.size
  clear hoP hrP f3 HP hml2 hG2
  go_wp2_with fail
  go_loopw [31] (fun i wr => ∃ (k : Nat) (vr : Value), k ≤ s.pairs.length ∧ i = .int .i64 (k : Int) ∧ Hid (WAt W V1 G (G + 1) (sn2 s k) wr vr ∧ WrTo w3 v2 (G + 1) wr vr)) (fun i _ => s.pairs.length - (intOf i).toNat)
  case atStart => exact ⟨0, v2, by omega, rfl, Lib.hid ⟨by unfold sn2; simpa using H3.out.1, WrTo.refl _ _ _⟩⟩
  case round =>
    rename World => wr
    obtain ⟨k, vr, hk, rfl, HR⟩ := hrel
    by_cases hlt : k < s.pairs.length
    · obtain ⟨hwr, htw⟩ := HR.out
      have hz3 := htw.keep.size
      have hrr := H3.out.2.2.1.keep (htw.keep.weaken fun j hj h => ⟨fun e => own_ne_blk H3.out.2.1 H3.out.1.wr.1 (by decide) (e ▸ h), fun e => own_apart H3.out.1.wr.2 H3.out.2.1 (by decide) e h⟩)
      obtain ⟨b, o, rfl, -, hcl⟩ := hrr.2 (by omega)
      obtain ⟨t, ht⟩ : ∃ t, t = s.pairs[k].1 := ⟨_, rfl⟩
      obtain ⟨u, hu⟩ : ∃ u, u = s.pairs[k].2 := ⟨_, rfl⟩
      have c0 : wr.cell? ⟨b, o + k * 2, none⟩ = some (str t) := by
        have h1 := rcells_get pair_two s.pairs k hlt 0 (by omega)
        have h2 := hcl (k * 2 + 0) (str t) (by rw [h1, ht]; rfl)
        simpa [Nat.add_assoc] using h2
      have c1 : wr.cell? ⟨b, o + k * 2 + 1, none⟩ = some (str u) := by
        have h1 := rcells_get pair_two s.pairs k hlt 1 (by omega)
        have h2 := hcl (k * 2 + 1) (str u) (by rw [h1, hu]; rfl)
        simpa [Nat.add_assoc] using h2
      have hpe := HA.out.2.1.pr.each _ (List.getElem_mem hlt)
      have hki : (k : Int) < (s.pairs.length : Int) := by omega
      have hgr := hwr.wr.1.lt
      have hbl := (sn_len HA.out.2.1).1 k
      have hne : vr.ownBlock ≠ some (wr.heap.size + 1) := fun e => by have := (own_lt hwr.wr.2 e).2; omega
      have HC := Lib.hid (texts_step (wa := (wr.alloc (.cells #[str t, str u] 94)).alloc (.cells #[str t, str u] 9)) hwr [⟨t.toArray⟩, ⟨u.toArray⟩] (by intro x hx; simp only [List.mem_cons, List.not_mem_nil, or_false] at hx; rcases hx with rfl | rfl <;> (simp only [str_size]; first | (rw [ht]; omega) | (rw [hu]; omega))) (((Keep.refl _ wr).alloc _).alloc _) 2 (some ⟨wr.heap.size + 1, 0, none⟩) 2 _ (rd_txts (Blk.newAt (by simp)) _ rfl 2 rfl) (fun j hj => by have e : j = wr.heap.size + 1 := hj; exact ⟨by omega, by rw [e]; exact hne, by simp; omega⟩) (by omega))
      have HE := Lib.hid (show sn2 s k ++ txts [⟨t.toArray⟩, ⟨u.toArray⟩] = sn2 s (k + 1) by
        unfold sn2
        rw [← List.take_append_getElem hlt, List.flatMap_append, List.append_assoc]
        congr 1
        simp [txts, pairB, ht, hu])
      clear hwr htw hrr hcl ht hu hpe hne hbl
      go_wp2_with fail
      refine Calls.mono HC.out ?_
      rintro e w4 ⟨rfl, v4, hw4, hk4, hn4⟩
      rw [HE.out] at hw4
      have H4 := Lib.hid (And.intro hw4 (And.intro hk4 hn4))
      clear hw4 hk4 hn4 HC HE c0 c1
      go_wp2_with fail
      exact ⟨⟨k + 1, v4, by omega, by simp, Lib.hid ⟨H4.out.1, HR.out.2.step H4.out.2.1 H4.out.2.2⟩⟩, by simp only [intOf]; omega⟩
    · obtain rfl : k = s.pairs.length := by omega
      obtain ⟨hwr, -⟩ := HR.out
      have hmr := (HMk.out _ _ _ hwr).1
      obtain ⟨-, x1, -⟩ := hmr.three
      obtain ⟨ms, hls⟩ := hmr.lk
      have hll := hls.len
      have hl8 := HA.out.2.1.lk.len
      have HLS := Lib.hid hls
      have hmlr := hmr.blk.lt
      have hgr := hwr.wr.1.lt
      have hbl := (sn_len HA.out.2.1).1 s.pairs.length
      have hne : vr.ownBlock ≠ some wr.heap.size := fun e => by have := (own_lt hwr.wr.2 e).2; omega
      have HC := Lib.hid (counts_step (wa := wr.alloc (.cells #[.int .i64 (s.locks.length : Int)] 3)) hwr [(s.locks.length : Int)] (okInts_one (by omega) (by omega)) ((Keep.refl _ wr).alloc _) 1 (some ⟨wr.heap.size, 0, none⟩) 1 _ (rd_ints (Blk.new wr _ _) _ rfl 1 rfl) (fun j hj => by have e : j = wr.heap.size := hj; exact ⟨by omega, by rw [e]; exact hne, by simp; omega⟩) (by omega))
      clear hwr hmr hls hbl hne
      go_wp2_with (at_len; refine wpList_mlen rfl (.tmp 47) rfl Tryz.underlying52 rfl HLS.out.map ?_)
      refine Calls.mono HC.out ?_
      rintro e w5 ⟨rfl, v5, hw5, -, -⟩
      have hw5' : WAt W V1 G (G + 1) (sn3 s) w5 v5 := hw5
      have H5 := Lib.hid hw5'
      have hm5 := (HMk.out _ _ _ hw5').1
      have hml5 := hm5.blk.lt
      have HN := Lib.hid (locks_any S' m bp bl s w5 hm5 HA.out.2.1.lk)
      have hG5 : G + 1 < w5.heap.size := hw5'.wr.1.lt
      clear hw5 hw5' HC hm5 x1 hll HLS hmlr hgr
      go_wp2_with fail
      refine HN.out.mono ?_
      rintro e w6 ⟨⟨vN, rfl, hoN⟩, f6⟩
      obtain ⟨AN, cN, rfl, hrN, -⟩ := own_rd hoN
      have H6 := Lib.hid (And.intro (H5.out.fresh f6) (And.intro hoN (And.intro hrN f6)))
      have hml6 : m < w6.heap.size := Nat.lt_of_lt_of_le hml5 f6.size
      have hG6 : G + 1 < w6.heap.size := Nat.lt_of_lt_of_le hG5 f6.size
      clear hoN hrN f6 HN hml5 hG5
      go_wp2_with fail
      go_loopw [54] (fun i wr => ∃ (k : Nat) (vr : Value), k ≤ s.locks.length ∧ i = .int .i64 (k : Int) ∧ Hid (WAt W V1 G (G + 1) (sn4 s k) wr vr ∧ WrTo w6 v5 (G + 1) wr vr)) (fun i _ => s.locks.length - (intOf i).toNat)
      case atStart => exact ⟨0, v5, by omega, rfl, Lib.hid ⟨by unfold sn4; simpa using H6.out.1, WrTo.refl _ _ _⟩⟩
      case round =>
        rename World => wr
        obtain ⟨k, vr, hk, rfl, HR⟩ := hrel
        by_cases hlt : k < s.locks.length
        · obtain ⟨hwr, htw⟩ := HR.out
          have hz6 := htw.keep.size
          have hrr := H6.out.2.2.1.keep (htw.keep.weaken fun j hj h => ⟨fun e => own_ne_blk H6.out.2.1 H6.out.1.wr.1 (by decide) (e ▸ h), fun e => own_apart H6.out.1.wr.2 H6.out.2.1 (by decide) e h⟩)
          obtain ⟨b, o, rfl, -, hlx, hcl⟩ := hrr.at1 (by simpa using hlt)
          obtain ⟨l, hl⟩ : ∃ l, l = s.locks[k] := ⟨_, rfl⟩
          have hlm : l ∈ s.locks := hl ▸ List.getElem_mem hlt
          have hlo := HA.out.2.1.lk.each l hlm
          obtain ⟨t, ht⟩ : ∃ t, t = l.name := ⟨_, rfl⟩
          have c0 : wr.cell? ⟨b, o + k, none⟩ = some (str t) := by rw [hcl, ht, hl]; simp
          have hfl : lfind t s.locks = some l := by rw [ht]; exact findK_of HA.out.2.1.lk.rise hlm rfl
          have hmr := (HMk.out _ _ _ hwr).1
          obtain ⟨-, x1, -⟩ := hmr.three
          obtain ⟨ms, hls⟩ := hmr.lk
          obtain ⟨x, hx, hxl, hxk, hxi, hxf⟩ := lk_find hls hfl
          have ht8 : t.length ≤ 8 := by rw [ht]; exact hlo.n8
          have hlk := look_lk hls (k := t) (by omega) _ hxf 0
          rw [show wr.drewN 0 = wr from rfl] at hlk
          obtain ⟨h, hh⟩ : ∃ h, h = x.h := ⟨_, rfl⟩
          rw [← hh] at hlk
          have hmlr := hmr.blk.lt
          have hgr := hwr.wr.1.lt
          have hki : (k : Int) < (s.locks.length : Int) := by omega
          have hbl := (sn_len HA.out.2.1).2.2.1 k
          have hne : vr.ownBlock ≠ some wr.heap.size := fun e => by have := (own_lt hwr.wr.2 e).2; omega
          have HC := Lib.hid (texts_step (wa := wr.alloc (.cells #[str t] 9)) hwr [⟨t.toArray⟩] (by intro x hx; simp only [List.mem_cons, List.not_mem_nil, or_false] at hx; subst hx; simp only [str_size]; omega) ((Keep.refl _ wr).alloc _) 1 (some ⟨wr.heap.size, 0, none⟩) 1 _ (rd_txts (Blk.new wr _ _) _ rfl 1 rfl) (fun j hj => by have e : j = wr.heap.size := hj; exact ⟨by omega, by rw [e]; exact hne, by simp; omega⟩) (by omega))
          have HL := Lib.hid (And.intro hlm (And.intro hlo (And.intro ht (And.intro hl (And.intro hxl (And.intro hxi hh))))))
          clear hwr htw hrr hlx hcl hl hlm hlo ht hfl hmr hls hx hxl hxk hxi hxf hh hbl hne
          go_wp2_with fail
          refine Calls.mono HC.out ?_
          rintro e w7 ⟨rfl, v7, hw7, hk7, hn7⟩
          obtain ⟨hlm, hlo, ht, hl, hxl, hxi, hh⟩ := HL.out
          have hoG : ∀ bs wy vy, WAt W V1 G (G + 1) bs wy vy → ∀ wz, Keep (fun k => k ≠ G + 1 ∧ vy.ownBlock ≠ some k) wy wz → Keep (fun k => k < G) wy wz := fun bs wy vy h wz hk => hk.weaken fun k _ hk => ⟨by omega, fun e => by have := (own_lt h.wr.2 e).1; omega⟩
          have HoG := Lib.hid hoG
          have hk7G := hoG _ _ _ HR.out.1 _ hk7
          have hxi7 := hxi.keep hk7G (HSG.out _ hxi.sh) (fun k hk => HSG.out _ (hxi.sv k hk))
          obtain ⟨y0, y1, y2⟩ := hxi7.cells
          obtain ⟨AQ, cQ, hvQ, -, hrQ, -⟩ := hxi7.row.rd
          rw [hvQ] at y2
          rw [hxl] at y0 y1 y2 hvQ hrQ
          rw [← hh] at y0 y1 y2
          have hhl7 : h < w7.heap.size := by have := hxi7.blk.lt; rw [← hh] at this; exact this
          have hhG : h < G := by rw [hh]; exact HSG.out _ hxi.sh
          have hql := queue_len hlo.nd hlo.q
          have hqz : ∀ k, x.v.ownBlock = some k → k < G := fun k hk => HSG.out _ (hxi.sv k hk)
          rw [hvQ] at hrQ hqz
          obtain ⟨lh, hlh⟩ : ∃ z, z = l.holder := ⟨_, rfl⟩
          obtain ⟨lt, hlt2⟩ : ∃ z, z = l.token := ⟨_, rfl⟩
          obtain ⟨lq, hlq⟩ : ∃ z, z = l.queue := ⟨_, rfl⟩
          have b0 := hlo.h0; have b1 := hlo.h1; have b2 := hlo.t0; have b3 := hlo.t1; have b4 := HA.out.2.1.lk.tok1
          rw [← hlh] at y0 b0 b1
          rw [← hlt2] at y1 b2 b3
          rw [← hlq] at y2 hrQ hql hqz
          have hg7 := hw7.wr.1.lt
          have hl7 : (sn4 s k ++ txts [⟨t.toArray⟩]).length ≤ 1100 := by
            have h1 := (sn_len HA.out.2.1).2.2.1 k
            have h2 : (txts [⟨t.toArray⟩]).length ≤ 9 := by
              show (txt t ++ []).length ≤ 9
              rw [List.append_nil]
              exact txt_len9 ht8
            rw [List.length_append]
            omega
          have hne7 : v7.ownBlock ≠ some w7.heap.size := fun e => by have := (own_lt hw7.wr.2 e).2; omega
          have HC8 := Lib.hid (counts_step (wa := World.drew (w7.alloc (.cells #[.int .i64 lh, .int .i64 lt, .int .i64 (lq.length : Int)] 3))) hw7 [lh, lt, (lq.length : Int)] (by intro x hx; simp only [List.mem_cons, List.not_mem_nil, or_false] at hx; rcases hx with rfl | rfl | rfl <;> omega) (((Keep.refl _ w7).alloc _).drew) 3 (some ⟨w7.heap.size, 0, none⟩) 3 _ (rd_ints (Blk.new w7 _ _).drew _ rfl 3 rfl) (fun j hj => by have e : j = w7.heap.size := hj; exact ⟨by omega, by rw [e]; exact hne7, by show j < (w7.alloc _).heap.size; simp; omega⟩) (by omega))
          have HS7 := Lib.hid (fun w' (hk : Keep (fun k => k < G) w7 w') => (⟨hk.cellAt y0 hhG, hk.cellAt y1 hhG, hk.cellAt y2 hhG⟩ : w'.cell? ⟨h, 0, none⟩ = some (.int .i64 lh) ∧ w'.cell? ⟨h, 1, none⟩ = some (.int .i64 lt) ∧ w'.cell? ⟨h, 2, none⟩ = some (.slice AQ lq.length cQ)))
          have hto7 := HR.out.2.step hk7 hn7
          have H7 := Lib.hid (And.intro hw7 (And.intro hto7 (And.intro hrQ (And.intro hqz (And.intro hlo (And.intro ht (And.intro hl (And.intro hlh (And.intro hlt2 hlq)))))))))
          clear hlm hlo ht hl hxl hxi hh hoG hk7G hxi7 hvQ hrQ hqz hlh hlt2 hlq hl7 hne7 hw7 hto7 hk7 hn7 c0 x1 hlk HC hhl7
          go_upto_region 14 with (fail)
          go_region_held3 (fun w' => w'.cell? ⟨h, 0, none⟩ = some (.int .i64 lh) ∧ w'.cell? ⟨h, 1, none⟩ = some (.int .i64 lt) ∧ w'.cell? ⟨h, 2, none⟩ = some (.slice AQ lq.length cQ))
            (first | exact HS7.out _ (Keep.refl _ w7).drew | exact HS7.out _ (((Keep.refl _ w7).alloc _).drew) | exact HS7.out _ (HoG.out _ _ _ H7.out.1 _ hk8))
            (first | (go_at_call 34; with_reducible refine Calls.mono HC8.out ?_; rintro e w8 ⟨rfl, v8, hw8, hk8, hn8⟩))
          obtain ⟨y0, y1, y2⟩ := HS7.out _ (HoG.out _ _ _ H7.out.1 _ hk8)
          have hhl8 : h < w8.heap.size := lt_of_cell y2
          have hl8 : (sn4 s k ++ txts [⟨t.toArray⟩] ++ encs [lh, lt, (lq.length : Int)]).length ≤ 1200 := by
            have h1 := (sn_len HA.out.2.1).2.2.1 k
            have h2 : (txts [⟨t.toArray⟩]).length ≤ 9 := by
              show (txt t ++ []).length ≤ 9
              rw [List.append_nil]
              exact txt_len9 ht8
            have h3 : (encs [lh, lt, (lq.length : Int)]).length ≤ 9 * 3 := encs_len _ (by intro x hx; simp only [List.mem_cons, List.not_mem_nil, or_false] at hx; rcases hx with rfl | rfl | rfl <;> omega)
            rw [List.length_append, List.length_append]
            omega
          have hg8 := hw8.b1
          have HC9 := Lib.hid (counts_step (wa := w8) hw8 lq (by intro x hx; have h1 := H7.out.2.2.2.2.1.q x (by rw [← H7.out.2.2.2.2.2.2.2.2.2]; exact hx); omega) (Keep.refl _ w8) cQ AQ lq.length _ (H7.out.2.2.1.keep ((HoG.out _ _ _ H7.out.1 _ hk8).weaken fun k _ hk => H7.out.2.2.2.1 k hk)) (fun j hj => by have h1 := H7.out.2.2.2.1 j hj; exact ⟨by omega, fun e => by have := (own_lt hw8.wr.2 e).1; omega, by omega⟩) (by omega))
          have HE := Lib.hid (show sn4 s k ++ txts [⟨t.toArray⟩] ++ encs [lh, lt, (lq.length : Int)] ++ encs lq = sn4 s (k + 1) by
            obtain ⟨-, -, -, -, -, ht, hl, hlh, hlt2, hlq⟩ := H7.out
            have e : (s.locks.take (k + 1)).flatMap lockB = (s.locks.take k).flatMap lockB ++ lockB l := by rw [← List.take_append_getElem hlt, List.flatMap_append, ← hl]; simp
            unfold sn4
            rw [e, ht, hlh, hlt2, hlq]
            have e2 : txts [⟨l.name.toArray⟩] = txt l.name := by show txt l.name ++ [] = _; rw [List.append_nil]
            rw [e2]
            simp only [lockB, queueB, encs_cons, encs_nil, List.append_nil, List.append_assoc, Int.toNat_natCast]
            rfl)
          have H8 := Lib.hid (H7.out.2.1.step hk8 hn8)
          clear hw8 hk8 hn8 HC8 hl8
          go_wp2_with fail
          refine Calls.mono HC9.out ?_
          rintro e w9 ⟨rfl, v9, hw9, hk9, hn9⟩
          rw [HE.out] at hw9
          have H9 := Lib.hid (And.intro hw9 (H8.out.step hk9 hn9))
          clear hw9 hk9 hn9 HC9 HE y0 y1 y2
          go_wp2_with fail
          exact ⟨⟨k + 1, v9, by omega, by simp, H9⟩, by simp only [intOf]; omega⟩
        · obtain rfl : k = s.locks.length := by omega
          obtain ⟨hwr, -⟩ := HR.out
          have H0 := Lib.hid hwr
          have hmr := (HMk.out _ _ _ hwr).1
          have hmlr := hmr.blk.lt
          have hgr := hwr.wr.1.lt
          have HK := Lib.hid (asked_any S' m bp bl s wr hmr)
          have hal := askTo_len s.ss 16
          clear hwr hmr
          go_wp2_with fail
          refine Calls.mono HK.out ?_
          rintro e w10 ⟨⟨vK, rfl, hoK⟩, f10⟩
          obtain ⟨AK, cK, rfl, hrK, -⟩ := own_rd hoK
          have hw10 := H0.out.fresh f10
          have hg10 := hw10.wr.1.lt
          have hml10 : m < w10.heap.size := Nat.lt_of_lt_of_le hmlr f10.size
          have hb10 := (sn_len HA.out.2.1).2.2.1 s.locks.length
          have hne10 : vr.ownBlock ≠ some w10.heap.size := fun e => by have := (own_lt hw10.wr.2 e).2; omega
          have HC := Lib.hid (counts_step (wa := w10.alloc (.cells #[.int .i64 ((askTo s.ss 16).length : Int)] 3)) hw10 [((askTo s.ss 16).length : Int)] (okInts_one (by omega) (by omega)) ((Keep.refl _ w10).alloc _) 1 (some ⟨w10.heap.size, 0, none⟩) 1 _ (rd_ints (Blk.new w10 _ _) _ rfl 1 rfl) (fun j hj => by have e : j = w10.heap.size := hj; exact ⟨by omega, by rw [e]; exact hne10, by simp; omega⟩) (by omega))
          clear hoK hrK f10 HK hw10 hb10 hne10
          go_wp2_with fail
          refine Calls.mono HC.out ?_
          rintro e w11 ⟨rfl, v11, hw11, -, -⟩
          have hw11' : WAt W V1 G (G + 1) (sn5 s) w11 v11 := hw11
          have H11 := Lib.hid hw11'
          have hm11 := (HMk.out _ _ _ hw11').1
          have hml11 := hm11.blk.lt
          have HK := Lib.hid (asked_any S' m bp bl s w11 hm11)
          have hg11 := hw11'.wr.1.lt
          clear hw11 hw11' hm11 HC hml10 hg10
          go_wp2_with fail
          refine Calls.mono HK.out ?_
          rintro e w12 ⟨⟨vL, rfl, hoL⟩, f12⟩
          obtain ⟨AL, cL, rfl, hrL, -⟩ := own_rd hoL
          have H12 := Lib.hid (And.intro (H11.out.fresh f12) (And.intro hoL (And.intro hrL f12)))
          have hml12 : m < w12.heap.size := Nat.lt_of_lt_of_le hml11 f12.size
          have hg12 : G + 1 < w12.heap.size := Nat.lt_of_lt_of_le hg11 f12.size
          have hale : (askTo s.ss 16).length = (asked s.ss).length := by rw [askTo_all]; simp
          clear hoL hrL f12 HK hml11 hg11
          go_wp2_with fail
          have hoLi : Hid (∀ k (hk : k < (asked s.ss).length), (ics (askTo s.ss 16))[k]? = some (.int .i64 (((asked s.ss)[k]'hk).1 : Int))) := Lib.hid fun k hk => by
            rw [askTo_all]
            simp [ics, hk]
          go_loopw [100] (fun i wr => ∃ (k : Nat) (vr : Value), k ≤ (asked s.ss).length ∧ i = .int .i64 (k : Int) ∧ Hid (WAt W V1 G (G + 1) (sn6 s k) wr vr ∧ WrTo w12 v11 (G + 1) wr vr)) (fun i _ => (asked s.ss).length - (intOf i).toNat)
          case atStart => exact ⟨0, v11, by omega, rfl, Lib.hid ⟨by unfold sn6; simpa using H12.out.1, WrTo.refl _ _ _⟩⟩
          case round =>
            rename World => wr
            obtain ⟨k, vr, hk, rfl, HR⟩ := hrel
            by_cases hlt : k < (asked s.ss).length
            · obtain ⟨hwr, htw⟩ := HR.out
              have hz12 := htw.keep.size
              have hrr := H12.out.2.2.1.keep (htw.keep.weaken fun j hj h => ⟨fun e => own_ne_blk H12.out.2.1 H12.out.1.wr.1 (by decide) (e ▸ h), fun e => own_apart H12.out.1.wr.2 H12.out.2.1 (by decide) e h⟩)
              obtain ⟨b, o, rfl, -, hlx, hcl⟩ := hrr.at1 (by rw [hale]; exact hlt)
              obtain ⟨x, hx⟩ : ∃ x, x = (asked s.ss)[k] := ⟨_, rfl⟩
              obtain ⟨q, z⟩ := x
              have hxm : (q, z) ∈ asked s.ss := hx ▸ List.getElem_mem hlt
              obtain ⟨hq16, hso⟩ := ses_asked HA.out.2.1 hxm
              obtain ⟨-, hzq, -⟩ := asked_mem.1 hxm
              simp only at hq16 hso hzq
              have c0 : wr.cell? ⟨b, o + k, none⟩ = some (.int .i64 (q : Int)) := by
                have h1 := hoLi.out k hlt
                rw [← hx] at h1
                rw [List.getElem?_eq_getElem hlx] at h1
                rw [hcl]
                exact h1
              have hmr := (HMk.out _ _ _ hwr).1
              have hmlr := hmr.blk.lt
              have hgr := hwr.wr.1.lt
              have hqi : (q : Int) < 16 := by omega
              have hki : (k : Int) < ((asked s.ss).length : Int) := by omega
              have s0 := hmr.ses hq16 0 (by omega)
              have s1 := hmr.ses hq16 1 (by omega)
              have s2 := hmr.ses hq16 2 (by omega)
              have s3 := hmr.ses hq16 3 (by omega)
              have s4 := hmr.ses hq16 4 (by omega)
              rw [← hzq] at s0 s1 s2 s3 s4
              simp [MSess.cells] at s0 s1 s2 s3 s4
              have g0 := hso.i0; have g1 := hso.i1; have g2 := hso.r0; have g3 := hso.r1; have g4 := hso.last.c0; have g5 := hso.last.c1; have g6 := hso.last.n0; have g7 := hso.last.n1; have g8 := hso.last.v
              obtain ⟨zi, hzi⟩ : ∃ y, y = z.inc := ⟨_, rfl⟩
              obtain ⟨zr, hzr⟩ : ∃ y, y = z.req := ⟨_, rfl⟩
              obtain ⟨zc, hzc⟩ : ∃ y, y = z.last.code := ⟨_, rfl⟩
              obtain ⟨zv, hzv⟩ : ∃ y, y = z.last.val := ⟨_, rfl⟩
              obtain ⟨zn, hzn⟩ : ∃ y, y = z.last.n := ⟨_, rfl⟩
              rw [← hzi] at s0 g0 g1
              rw [← hzr] at s1 g2 g3
              rw [← hzc] at s2 g4 g5
              rw [← hzv] at s3 g8
              rw [← hzn] at s4 g6 g7
              have hbl := (sn_len HA.out.2.1).2.2.2.2 k
              have hfA : Fresh wr (wr.alloc (.cells #[.int .i64 zi, .int .i64 zr, .int .i64 zc, str zv, .int .i64 zn] 38)) := (Keep.refl _ wr).alloc _
              have hwA := hwr.fresh hfA
              have hbA : Blk (wr.alloc (.cells #[.int .i64 zi, .int .i64 zr, .int .i64 zc, str zv, .int .i64 zn] 38)) wr.heap.size 38 #[.int .i64 zi, .int .i64 zr, .int .i64 zc, str zv, .int .i64 zn] := Blk.new _ _ _
              have hne : vr.ownBlock ≠ some (wr.heap.size + 1) ∧ vr.ownBlock ≠ some wr.heap.size := ⟨fun e => by have := (own_lt hwr.wr.2 e).2; omega, fun e => by have := (own_lt hwr.wr.2 e).2; omega⟩
              have HC := Lib.hid (counts_step (wa := (wr.alloc (.cells #[.int .i64 zi, .int .i64 zr, .int .i64 zc, str zv, .int .i64 zn] 38)).alloc (.cells #[.int .i64 (q : Int), .int .i64 zi, .int .i64 zr, .int .i64 zc] 3)) hwA [(q : Int), zi, zr, zc] (by intro x hx; simp only [List.mem_cons, List.not_mem_nil, or_false] at hx; rcases hx with rfl | rfl | rfl | rfl <;> omega) ((Keep.refl _ _).alloc _) 4 (some ⟨wr.heap.size + 1, 0, none⟩) 4 _ (rd_ints (Blk.newAt (by simp)) _ rfl 4 rfl) (fun j hj => by have e : j = wr.heap.size + 1 := hj; exact ⟨by omega, by rw [e]; exact hne.1, by simp; omega⟩) (by omega))
              have HX := Lib.hid (And.intro hwA (And.intro hbA (And.intro hne (And.intro hx (And.intro hzi (And.intro hzr (And.intro hzc (And.intro hzv hzn))))))))
              have htA := Lib.hid (htw.fresh hfA)
              clear hwr htw hrr hlx hcl hx hxm hso hzq hmr hbl hfA hwA hbA hne hzi hzr hzc hzv hzn
              go_wp2_with fail
              refine Calls.mono HC.out ?_
              rintro e w13 ⟨rfl, v13, hw13, hk13, hn13⟩
              have hb13 := HX.out.2.1.keep hk13 ⟨by omega, HX.out.2.2.1.2⟩
              have d3 := hb13.cell 3
              have d4 := hb13.cell 4
              simp at d3 d4
              have hl13 := hb13.lt
              have hg13 := hw13.wr.1.lt
              have hne13 : v13.ownBlock ≠ some w13.heap.size := fun e => by have := (own_lt hw13.wr.2 e).2; omega
              have hlen13 : (sn6 s k ++ encs [(q : Int), zi, zr, zc]).length ≤ 1200 := by
                have h1 := (sn_len HA.out.2.1).2.2.2.2 k
                have h3 : (encs [(q : Int), zi, zr, zc]).length ≤ 9 * 4 := encs_len _ (by intro x hx; simp only [List.mem_cons, List.not_mem_nil, or_false] at hx; rcases hx with rfl | rfl | rfl | rfl <;> omega)
                rw [List.length_append]
                omega
              have HC2 := Lib.hid (texts_step (wa := w13.alloc (.cells #[str zv] 9)) hw13 [⟨zv.toArray⟩] (by intro x hx; simp only [List.mem_cons, List.not_mem_nil, or_false] at hx; subst hx; simp only [str_size]; omega) ((Keep.refl _ w13).alloc _) 1 (some ⟨w13.heap.size, 0, none⟩) 1 _ (rd_txts (Blk.new w13 _ _) _ rfl 1 rfl) (fun j hj => by have e : j = w13.heap.size := hj; exact ⟨by omega, by rw [e]; exact hne13, by simp; omega⟩) (by omega))
              have H13 := Lib.hid (And.intro hw13 (And.intro (htA.out.step hk13 hn13) (And.intro hb13 hlen13)))
              clear hw13 hk13 hn13 hb13 hne13 hlen13 HC c0 s0 s1 s2 s3 s4
              go_wp2_with fail
              refine Calls.mono HC2.out ?_
              rintro e w14 ⟨rfl, v14, hw14, hk14, hn14⟩
              have hneB : v13.ownBlock ≠ some wr.heap.size := fun e => own_ne_blk H13.out.1.wr.2 H13.out.2.2.1 (by decide) e
              have hb14 := H13.out.2.2.1.keep hk14 ⟨by omega, hneB⟩
              have d4 := hb14.cell 4
              simp at d4
              have hl14 := hb14.lt
              have hg14 := hw14.wr.1.lt
              have hne14 : v14.ownBlock ≠ some w14.heap.size := fun e => by have := (own_lt hw14.wr.2 e).2; omega
              have hlen14 : (sn6 s k ++ encs [(q : Int), zi, zr, zc] ++ txts [⟨zv.toArray⟩]).length ≤ 1300 := by
                have h1 := H13.out.2.2.2
                have h2 : (txts [⟨zv.toArray⟩]).length ≤ 9 := by
                  show (txt zv ++ []).length ≤ 9
                  rw [List.append_nil]
                  exact txt_len9 g8
                rw [List.length_append]
                omega
              have HC3 := Lib.hid (counts_step (wa := w14.alloc (.cells #[.int .i64 zn] 3)) hw14 [zn] (okInts_one (by omega) (by omega)) ((Keep.refl _ w14).alloc _) 1 (some ⟨w14.heap.size, 0, none⟩) 1 _ (rd_ints (Blk.new w14 _ _) _ rfl 1 rfl) (fun j hj => by have e : j = w14.heap.size := hj; exact ⟨by omega, by rw [e]; exact hne14, by simp; omega⟩) (by omega))
              have HE := Lib.hid (show sn6 s k ++ encs [(q : Int), zi, zr, zc] ++ txts [⟨zv.toArray⟩] ++ encs [zn] = sn6 s (k + 1) by
                obtain ⟨-, -, -, hx, hzi, hzr, hzc, hzv, hzn⟩ := HX.out
                have e : ((asked s.ss).take (k + 1)).flatMap sesB = ((asked s.ss).take k).flatMap sesB ++ sesB (q, z) := by rw [← List.take_append_getElem hlt, List.flatMap_append, ← hx]; simp
                unfold sn6
                rw [e, hzi, hzr, hzc, hzv, hzn]
                have e2 : txts [⟨z.last.val.toArray⟩] = txt z.last.val := by show txt z.last.val ++ [] = _; rw [List.append_nil]
                rw [e2]
                simp only [sesB, encs_cons, encs_nil, List.append_nil, List.append_assoc, Int.toNat_natCast])
              have H14 := Lib.hid (H13.out.2.1.step hk14 hn14)
              clear hw14 hk14 hn14 hb14 hne14 hlen14 hneB HC2
              go_wp2_with fail
              refine Calls.mono HC3.out ?_
              rintro e w15 ⟨rfl, v15, hw15, hk15, hn15⟩
              rw [HE.out] at hw15
              have H15 := Lib.hid (And.intro hw15 (H14.out.step hk15 hn15))
              clear hw15 hk15 hn15 HC3 HE
              go_wp2_with fail
              exact ⟨⟨k + 1, v15, by omega, by simp, H15⟩, by simp only [intOf]; omega⟩
            · obtain rfl : k = (asked s.ss).length := by omega
              obtain ⟨hwr, -⟩ := HR.out
              rw [sn_all] at hwr
              have hF := (HMk.out _ _ _ hwr).2
              have hNib := HA.out.2.2.2.2.2.2.1 _ hF
              obtain ⟨Av, cv, hvv, hrv, -⟩ := own_rd hwr.wr.2
              have hbv := hwr.wr.1
              have hov := hwr.wr.2
              have hbl : (bodyB s).length ≤ 1070 := by have := (sn_len HA.out.2.1).2.2.2.2 (asked s.ss).length; rw [sn_all] at this; exact this
              rw [hvv] at hbv hov
              have y0 := hbv.cell 0
              simp at y0
              have hgr := hbv.lt
              have HU := Lib.hid (sum_any _ Av (bodyB s).length cv (bodyB s) wr hrv (by omega) hNib)
              have HV := Lib.hid (And.intro hov (And.intro hF hwr.b1))
              obtain ⟨sm, hsm⟩ : ∃ sm, sm = crcB (bodyB s) := ⟨_, rfl⟩
              have hs32 : sm < 4294967296 := hsm ▸ crcB_lt _
              rw [← hsm] at HU
              have HSM := Lib.hid hsm
              clear hwr hF hNib hrv hbv hov hvv hsm
              go_wp2_with fail
              refine Calls.mono HU.out ?_
              rintro e _ ⟨rfl, rfl⟩
              have hi0 : 0 ≤ (sm : Int) := by omega
              have hi1 : (sm : Int) < 4294967296 := by omega
              go_upto_region 27 with (fail)
              have HN4 := Lib.hid (sum_cells (bodyB s) sm HSM.out)
              go_wp2_with (at_builtin; refine wpList_app etU8 rfl (.tmp 142) (.tmp 154) rfl G _ (bodyB s).length (Lib.byteCells (bodyB s)) rfl (HV.out.1.alloc _) _ (some ⟨wr.heap.size, 0, none⟩) 4 4 [.int .u8 ((sm : Int) % 256), .int .u8 ((sm : Int) / 256 % 256), .int .u8 ((sm : Int) / 65536 % 256), .int .u8 ((sm : Int) / 16777216)] rfl ((Blk.new wr _ _).rd rfl) (fun h => by cases h) (by intro u hu; simp only [List.mem_cons, List.not_mem_nil, or_false] at hu; rcases hu with rfl | rfl | rfl | rfl <;> rfl) (by omega) (by have := HV.out.2.2; simp; omega) ?_)
              intro vF wF hoF hkF hnF
              have HFin := Lib.hid (And.intro hoF hkF)
              clear hoF hkF hnF
              go_wp2_with fail
              go_ret
              obtain ⟨hoF, hkF⟩ := HFin.out
              obtain ⟨hov, hF, hB⟩ := HV.out
              rw [HN4.out] at hoF
              have hG := HA.out.2.2.2.2.2.1
              have e : Lib.byteCells (bodyB s) ++ Lib.byteCells (sumB (bodyB s)) = Lib.byteCells (snapB s) := by unfold snapB; simp [Lib.byteCells]
              have e2 : (bodyB s).length + 4 = (snapB s).length := by unfold snapB; rw [List.length_append, sumB_four]
              rw [e, e2, hG] at hoF
              exact ⟨⟨_, rfl, hoF⟩, (hF.comp ((Keep.refl (fun _ => True) wr).alloc _) (fun _ _ h => h) (fun _ _ _ => trivial)).comp hkF (fun _ _ h => h) (fun i hi _ e => by have := (own_lt hov e).1; omega)⟩
end Go.Proofs.YtggibajakcigaaaGreatDoor
namespace Go.Proofs.YtggibajakcigaaaGreatDoor
set_option linter.unusedVariables false
set_option linter.unusedSimpArgs false
open Go.RowKit

structure RSAt (bs : Txt) (R : List (Nat × SesD) × Nat × Bool) (cnt k : Nat) (last : Int) (m g bp bl : Nat) (tok : Int) (A : Option Addr) (n c : Nat) (w wr : World) (pk : Nat) (badk : Bool) (pre : List (Nat × SesD)) : Prop where
  eq : R = (pre ++ (runF (rdSes bs) schk snxt (cnt - k) pk badk last).1, (runF (rdSes bs) schk snxt (cnt - k) pk badk last).2)
  rd : Rdr wr g A n c pk badk
  pn : pk ≤ n
  blk : Blk wr m 55 (mchcells bp bl tok (ssPut pre (List.replicate 16 noSes))).toArray
  lo : -1 ≤ last
  keep : Keep (fun j => j ≠ g ∧ j ≠ m) w wr

def missL (ss : List SesD) (l : LockD) : Bool := (l.holder :: l.queue).any fun c => decide ((ss.getD c.toNat noSes).inc = 0)
theorem miss_step {ls : List LockD} {todo : List Txt} {t : Txt} {x : LockD} (f : LockD → Bool) (hr : Rise (ls.map LockD.name)) (hx : x ∈ ls) (hn : x.name = t) (ht : t ∈ todo) :
    (ls.filter fun l => !decide (l.name ∈ todo.filter fun y => !(y == t))).any f = ((ls.filter fun l => !decide (l.name ∈ todo)).any f || f x) := by
  have hu : ∀ l ∈ ls, l.name = t → l = x := fun l hl he => by
    have h2 := findK_of (key := LockD.name) hr hx hn
    have h3 := findK_of (key := LockD.name) hr hl he
    rw [h2] at h3
    injection h3 with h3
    exact h3.symm
  rw [Bool.eq_iff_iff, Bool.or_eq_true, List.any_eq_true, List.any_eq_true]
  constructor
  · rintro ⟨l, hl, hf⟩
    obtain ⟨h1, h2⟩ := List.mem_filter.1 hl
    by_cases he : l.name = t
    · exact .inr (hu l h1 he ▸ hf)
    · refine .inl ⟨l, List.mem_filter.2 ⟨h1, ?_⟩, hf⟩
      rw [Bool.not_eq_true'] at h2
      have h3 := of_decide_eq_false h2
      have : l.name ∉ todo := fun hm => h3 (List.mem_filter.2 ⟨hm, by simpa using he⟩)
      rw [Bool.not_eq_true', decide_eq_false_iff_not]
      exact this
  · rintro (⟨l, hl, hf⟩ | hf)
    · obtain ⟨h1, h2⟩ := List.mem_filter.1 hl
      refine ⟨l, List.mem_filter.2 ⟨h1, ?_⟩, hf⟩
      rw [Bool.not_eq_true'] at h2
      have h3 := of_decide_eq_false h2
      have : ¬ (l.name ∈ todo.filter fun y => !(y == t)) := fun hm => h3 (List.mem_filter.1 hm).1
      rw [Bool.not_eq_true', decide_eq_false_iff_not]
      exact this
    · refine ⟨x, List.mem_filter.2 ⟨hx, ?_⟩, hf⟩
      have : ¬ (x.name ∈ todo.filter fun y => !(y == t)) := fun hm => by
        have := (List.mem_filter.1 hm).2
        rw [hn] at this
        simp at this
      rw [Bool.not_eq_true', decide_eq_false_iff_not]
      exact this
/-- Who of the first k of these has no session? -/
def missTo (ss : List SesD) (cs : List Int) (k : Nat) : Bool := (cs.take k).any fun c => decide ((ss.getD c.toNat noSes).inc = 0)
theorem missTo_succ (ss : List SesD) (cs : List Int) (k : Nat) (hk : k < cs.length) : missTo ss cs (k + 1) = (missTo ss cs k || decide ((ss.getD cs[k].toNat noSes).inc = 0)) := by
  unfold missTo
  rw [← List.take_append_getElem hk, List.any_append]
  simp
theorem missTo_all (ss : List SesD) (l : LockD) (k : Nat) (hk : l.queue.length + 1 ≤ k) : missTo ss (l.holder :: l.queue) k = missL ss l := by
  unfold missTo missL
  rw [List.take_of_length_le (by simpa using hk)]
def RSPost (ls : List LockD) (R : List (Nat × SesD) × Nat × Bool) (m g bp bl : Nat) (tok : Int) (A : Option Addr) (n c : Nat) (w : World) (e : Ending) (w' : World) : Prop :=
  e = .returned (.tuple #[]) ∧ Blk w' m 55 (mchcells bp bl tok (ssPut R.1 (List.replicate 16 noSes))).toArray ∧ Rdr w' g A n c R.2.1 (R.2.2 || sesMiss ls (ssPut R.1 (List.replicate 16 noSes))) ∧ R.2.1 ≤ n ∧ Keep (fun j => j ≠ g ∧ j ≠ m) w w'
/-- Within the second loop. -/
structure RTAt (ls : List LockD) (ss : List SesD) (S : Nat → Prop) (m g bl rg : Nat) (A : Option Addr) (n c p1 : Nat) (bad1 : Bool) (ms : List LkM) (w w2 : World) (todo : List Txt) (badx : Bool) : Prop where
  rng : RangeIs Tryz.prog 9 w2 bl rg (ms.map LkM.kv) todo
  rd : Rdr w2 g A n c p1 badx
  bad : badx = (bad1 || (ls.filter fun l => !decide (l.name ∈ todo)).any (missL ss))
  keep : Keep (fun j => j ≠ g) w w2
set_option maxRecDepth 20000 in
set_option maxHeartbeats 4000000 in
theorem rsess_any (m g bp bl : Nat) (tok : Int) (Z : Nat → Prop) (A : Option Addr) (n c : Nat) (bs : Txt) (p : Nat) (bad : Bool) (w : World) (hm : Blk w m 55 (mchcells bp bl tok (List.replicate 16 noSes)).toArray) (hmg : m ≠ g) (hg : Rdr w g A n c p bad) (hz : ∀ k, Z k → k ≠ g ∧ k ≠ m) (hp : p ≤ n) (hnc : n ≤ c) (hb : Rd w Z 1 A n (Lib.byteCells bs)) (hn : n ≤ 1099511627770) (S : Nat → Prop) (ls : List LockD) (hlk : ∃ ms, Lks S w bl ms ls) (hrise : Rise (ls.map LockD.name)) (hsafe : ∀ l ∈ ls, (0 ≤ l.holder ∧ l.holder < 16) ∧ ∀ c ∈ l.queue, 0 ≤ c ∧ c < 16) (hqlen : ∀ l ∈ ls, l.queue.length ≤ 15) (hSz : ∀ j, S j → j ≠ g ∧ j ≠ m) :
    Calls Tryz.prog 32 #[.pointer (some ⟨m, 0, none⟩), .pointer (some ⟨g, 0, none⟩)] w (RSPost ls (rSess1 bs p bad) m g bp bl tok A n c w) := by
  have hlen : bs.length = n := by simpa [Lib.byteCells] using hb.1
  have HLK := Lib.hid (And.intro hlk (And.intro hrise (And.intro hsafe (And.intro hqlen hSz))))
  clear hlk hrise hsafe hqlen hSz
  obtain ⟨R, hR⟩ : ∃ R, R = rSess1 bs p bad := ⟨_, rfl⟩
  rw [← hR]
  have HC := Lib.hid (rcount_any g Z A n c bs p bad 16 w hg hp hb hn)
  have hle := rCount_le bs p bad 16 (by omega)
  have hmost := rCount_most bs p bad (most := 16) (by omega)
  unfold rSess1 at hR
  generalize rCount bs p bad 16 = q at HC hR hle hmost
  obtain ⟨cnt, p1, bad1⟩ := q
  simp only at HC hR hle hmost
  have hml := hm.lt
  have HB := Lib.hid (And.intro hb (And.intro hz (And.intro hm (And.intro hR hlen))))
  clear hb hz hm hR hlen hg
  go_enter Tryz.func32, Tryz.ntmps32
  go_wp2_with fail
  refine Calls.mono HC.out ?_
  rintro e w1 ⟨rfl, hg1, hk1⟩
  have H1 := Lib.hid (And.intro hg1 hk1)
  have hml1 := Nat.lt_of_lt_of_le hml hk1.size
  clear hg1 hk1 HC hml
  go_wp2_with fail
  go_loopw [4, 13] (fun l i wr => ∃ (k : Nat) (last : Int), k ≤ cnt ∧ i = .int .i64 (k : Int) ∧ l = .int .i64 last ∧ Hid (∃ pk badk pre, RSAt bs R cnt k last m g bp bl tok A n c w wr pk badk pre)) (fun _ i _ => cnt - (intOf i).toNat)
  case atStart => exact ⟨0, -1, by omega, rfl, rfl, Lib.hid ⟨p1, bad1, [], ⟨by rw [HB.out.2.2.2.1]; rfl, H1.out.1, by have := HB.out.2.2.2.2; omega, HB.out.2.2.1.keep H1.out.2 hmg, by omega, H1.out.2.weaken fun _ _ h => h.1⟩⟩⟩
  case round =>
    rename World => wr
    obtain ⟨k, last, hk, rfl, rfl, HR⟩ := hrel
    obtain ⟨pk, badk, pre, hat⟩ := HR.out
    have HA := Lib.hid hat
    clear hat HR
    by_cases hlt : k < cnt
    · have hbw : ∀ wx, Keep (fun j => j ≠ g ∧ j ≠ m) w wx → Rd wx Z 1 A n (Lib.byteCells bs) := fun wx hk => HB.out.1.keep (hk.weaken fun j _ h => HB.out.2.1 j h)
      have HBW := Lib.hid hbw
      have hbn := HB.out.2.2.2.2
      have HC1 := Lib.hid (rcount_any g Z A n c bs pk badk 15 wr HA.out.rd HA.out.pn (hbw _ HA.out.keep) hn)
      have hl1 := rCount_le bs pk badk 15 (by have := HA.out.pn; omega)
      have hm1 := rCount_most bs pk badk (most := 15) (by omega)
      obtain ⟨q1, hq1⟩ : ∃ q, q = rCount bs pk badk 15 := ⟨_, rfl⟩
      rw [← hq1] at HC1 hl1 hm1
      have HQ1 := Lib.hid hq1
      clear hq1 hbw
      go_wp2_with fail
      refine Calls.mono HC1.out ?_
      rintro e wA ⟨rfl, hgA, hkA⟩
      have hkWA : Keep (fun j => j ≠ g ∧ j ≠ m) w wA := HA.out.keep.comp hkA (fun _ _ h => h) (fun _ _ h => h.1)
      have HC2 := Lib.hid (rcount_any g Z A n c bs q1.2.1 q1.2.2 4611686018427387904 wA hgA (by omega) (HBW.out _ hkWA) hn)
      have hl2 := rCount_le bs q1.2.1 q1.2.2 4611686018427387904 (by omega)
      have hm2 := rCount_most bs q1.2.1 q1.2.2 (most := 4611686018427387904) (by omega)
      obtain ⟨q2, hq2⟩ : ∃ q, q = rCount bs q1.2.1 q1.2.2 4611686018427387904 := ⟨_, rfl⟩
      rw [← hq2] at HC2 hl2 hm2
      have HQ2 := Lib.hid hq2
      have HKA := Lib.hid (And.intro hkA hkWA)
      clear hq2 hgA hkA hkWA HC1
      go_wp2_with fail
      refine Calls.mono HC2.out ?_
      rintro e wB ⟨rfl, hgB, hkB⟩
      have hkWB : Keep (fun j => j ≠ g ∧ j ≠ m) w wB := HKA.out.2.comp hkB (fun _ _ h => h) (fun _ _ h => h.1)
      have HC3 := Lib.hid (rcount_any g Z A n c bs q2.2.1 q2.2.2 4611686018427387904 wB hgB (by omega) (HBW.out _ hkWB) hn)
      have hl3 := rCount_le bs q2.2.1 q2.2.2 4611686018427387904 (by omega)
      have hm3 := rCount_most bs q2.2.1 q2.2.2 (most := 4611686018427387904) (by omega)
      obtain ⟨q3, hq3⟩ : ∃ q, q = rCount bs q2.2.1 q2.2.2 4611686018427387904 := ⟨_, rfl⟩
      rw [← hq3] at HC3 hl3 hm3
      have HQ3 := Lib.hid hq3
      have HKB := Lib.hid (And.intro hkB hkWB)
      clear hq3 hgB hkB hkWB HC2
      go_wp2_with fail
      refine Calls.mono HC3.out ?_
      rintro e wC ⟨rfl, hgC, hkC⟩
      have hkWC : Keep (fun j => j ≠ g ∧ j ≠ m) w wC := HKB.out.2.comp hkC (fun _ _ h => h) (fun _ _ h => h.1)
      have HKC := Lib.hid (And.intro hgC (And.intro hkC hkWC))
      have hml3 : m < wC.heap.size := (HA.out.blk.keep (((HKA.out.1.trans HKB.out.1).trans hkC)) hmg).lt
      have hgl3 := hgC.lt
      clear hgC hkC hkWC HC3
      go_upto_region 5 with (fail)
      obtain ⟨hs, hhs⟩ : ∃ hs, hs = wC.heap.size := ⟨_, rfl⟩
      obtain ⟨wD, hwD⟩ : ∃ wD, wD = wC.alloc (.cells #[.int .i64 (q2.1 : Int), .int .i64 (q3.1 : Int), .int .i64 0, str [], .int .i64 0] 38) := ⟨_, rfl⟩
      rw [← hhs, ← hwD]
      have hf : Fresh wC wD := hwD ▸ (Keep.refl _ wC).alloc _
      have hbD : Blk wD hs 38 #[.int .i64 (q2.1 : Int), .int .i64 (q3.1 : Int), .int .i64 0, str [], .int .i64 0] := by rw [hwD, hhs]; exact Blk.new _ _ _
      have hgD := HKC.out.1.keep hf trivial
      have hkWD : Keep (fun j => j ≠ g ∧ j ≠ m) w wD := HKC.out.2.2.comp hf (fun _ _ h => h) (fun _ _ _ => trivial)
      have hsg : hs ≠ g := fun e => Blk.ne hbD hgD (by decide) e
      have hsm : hs ≠ m := by omega
      have HC4 := Lib.hid (rcount_any g Z A n c bs q3.2.1 q3.2.2 11 wD hgD (by omega) (HBW.out _ hkWD) hn)
      have hl4 := rCount_le bs q3.2.1 q3.2.2 11 (by omega)
      have hm4 := rCount_most bs q3.2.1 q3.2.2 (most := 11) (by omega)
      obtain ⟨q4, hq4⟩ : ∃ q, q = rCount bs q3.2.1 q3.2.2 11 := ⟨_, rfl⟩
      rw [← hq4] at HC4 hl4 hm4
      have HQ4 := Lib.hid hq4
      have HKD := Lib.hid (And.intro hbD (And.intro hkWD (And.intro hf hhs)))
      clear hwD hf hbD hgD hkWD hhs hq4
      go_wp2_with fail
      refine Calls.mono HC4.out ?_
      rintro e wE ⟨rfl, hgE, hkE⟩
      have hkWE : Keep (fun j => j ≠ g ∧ j ≠ m) w wE := HKD.out.2.1.comp hkE (fun _ _ h => h) (fun _ _ h => h.1)
      have HC5 := Lib.hid (rtext_any g Z A n c bs q4.2.1 q4.2.2 8 wE hgE (fun j h => (HB.out.2.1 j h).1) (by omega) hnc (HBW.out _ hkWE) hn)
      have hl5 := rText_le bs q4.2.1 q4.2.2 8 (by omega)
      have hm5 := rText_len bs q4.2.1 q4.2.2 (most := 8) (by omega)
      obtain ⟨q5, hq5⟩ : ∃ q, q = rText bs q4.2.1 q4.2.2 8 := ⟨_, rfl⟩
      rw [← hq5] at HC5 hl5 hm5
      have HQ5 := Lib.hid hq5
      have HKE := Lib.hid (And.intro hkE hkWE)
      clear hq5 hgE hkE hkWE HC4
      go_wp2_with fail
      refine Calls.mono HC5.out ?_
      rintro e wF ⟨rfl, hgF, hkF⟩
      have hkWF : Keep (fun j => j ≠ g ∧ j ≠ m) w wF := HKE.out.2.comp hkF (fun _ _ h => h) (fun _ _ h => h.1)
      have hbF := (HKD.out.1.keep HKE.out.1 hsg).keep hkF hsg
      have c2 := hbF.cell 2; have c3 := hbF.cell 3; have c4 := hbF.cell 4
      have z2 := hbF.frozen 2; have z3 := hbF.frozen 3; have z4 := hbF.frozen 4
      have hsl := hbF.lt
      simp at c2 c3 c4
      have HKF := Lib.hid (And.intro hgF (And.intro hkF (And.intro hkWF hbF)))
      clear hgF hkF hkWF hbF HC5
      go_upto_region 6 with (fail)
      have hbG : Blk (((wF.setCell ⟨hs, 2, none⟩ (.int .i64 (q4.1 : Int))).setCell ⟨hs, 3, none⟩ (str q5.1)).setCell ⟨hs, 4, none⟩ (.int .i64 0)) hs 38 #[.int .i64 (q2.1 : Int), .int .i64 (q3.1 : Int), .int .i64 (q4.1 : Int), str q5.1, .int .i64 0] := ((HKF.out.2.2.2.set 2 _).set 3 _).set 4 _
      have hkFG : Keep (fun j => j ≠ hs) wF (((wF.setCell ⟨hs, 2, none⟩ (.int .i64 (q4.1 : Int))).setCell ⟨hs, 3, none⟩ (str q5.1)).setCell ⟨hs, 4, none⟩ (.int .i64 0)) := (((Keep.refl _ wF).setCell (fun _ h => h rfl) _).setCell (fun _ h => h rfl) _).setCell (fun _ h => h rfl) _
      generalize hwG : World.setCell (World.setCell (World.setCell wF ⟨hs, 2, none⟩ _) ⟨hs, 3, none⟩ _) ⟨hs, 4, none⟩ _ = wG at hbG hkFG ⊢
      have hws : w.heap.size ≤ hs := by rw [HKD.out.2.2.2]; exact HKC.out.2.2.size
      have hgG := HKF.out.1.keep hkFG hsg.symm
      have hkWG : Keep (fun j => j ≠ g ∧ j ≠ m) w wG := HKF.out.2.2.1.comp hkFG (fun _ _ h => h) (fun j hj _ e => by omega)
      have HC6 := Lib.hid (rcount_any g Z A n c bs q5.2.1 q5.2.2 99999999 wG hgG (by omega) (HBW.out _ hkWG) hn)
      have hl6 := rCount_le bs q5.2.1 q5.2.2 99999999 (by omega)
      have hm6 := rCount_most bs q5.2.1 q5.2.2 (most := 99999999) (by omega)
      obtain ⟨q6, hq6⟩ : ∃ q, q = rCount bs q5.2.1 q5.2.2 99999999 := ⟨_, rfl⟩
      rw [← hq6] at HC6 hl6 hm6
      have HQ6 := Lib.hid hq6
      have HKG := Lib.hid (And.intro hbG (And.intro hkFG hkWG))
      clear hwG hbG hkFG hgG hkWG hq6 c2 c3 c4 z2 z3 z4
      go_wp2_with fail
      refine Calls.mono HC6.out ?_
      rintro e wH ⟨rfl, hgH, hkH⟩
      have hbH := HKG.out.1.keep hkH hsg
      have c4 := hbH.cell 4
      have z4 := hbH.frozen 4
      have hslH := hbH.lt
      simp at c4
      have HKH := Lib.hid (And.intro hgH (And.intro hkH hbH))
      clear hgH hkH hbH HC6
      go_upto_region 7 with (fail)
      have hbI : Blk (wH.setCell ⟨hs, 4, none⟩ (.int .i64 (q6.1 : Int))) hs 38 (sesA ⟨(q2.1 : Int), (q3.1 : Int), ⟨(q4.1 : Int), q5.1, (q6.1 : Int)⟩⟩) := HKH.out.2.2.set 4 _
      have hkHI : Keep (fun j => j ≠ hs) wH (wH.setCell ⟨hs, 4, none⟩ (.int .i64 (q6.1 : Int))) := (Keep.refl _ wH).setCell (fun _ h => h rfl) _
      generalize hwI : World.setCell wH ⟨hs, 4, none⟩ _ = wI at hbI hkHI ⊢
      clear hwI c4 z4
      have hgI := HKH.out.1.keep hkHI hsg.symm
      have hkWI : Keep (fun j => j ≠ g ∧ j ≠ m) w wI := (HKG.out.2.2.comp HKH.out.2.1 (fun _ _ h => h) (fun _ _ h => h.1)).comp hkHI (fun _ _ h => h) (fun j hj _ e => by omega)
      have hmI : Blk wI m 55 (mchcells bp bl tok (ssPut pre (List.replicate 16 noSes))).toArray := by
        have h1 := HA.out.blk.keep (HKA.out.1.trans (HKB.out.1.trans HKC.out.2.1)) hmg
        have h2 := h1.keep HKD.out.2.2.1 trivial
        have h3 := h2.keep (HKE.out.1.trans HKF.out.2.1) hmg
        have h4 := h3.keep HKG.out.2.1 hsm.symm
        exact (h4.keep HKH.out.2.1 hmg).keep hkHI hsm.symm
      obtain ⟨qn, hqn⟩ : ∃ a : Nat, a = q1.1 := ⟨_, rfl⟩
      obtain ⟨a2, ha2⟩ : ∃ a : Int, a = (q2.1 : Int) := ⟨_, rfl⟩
      obtain ⟨a3, ha3⟩ : ∃ a : Int, a = (q3.1 : Int) := ⟨_, rfl⟩
      obtain ⟨a4, ha4⟩ : ∃ a : Int, a = (q4.1 : Int) := ⟨_, rfl⟩
      obtain ⟨a5, ha5⟩ : ∃ a, a = q5.1 := ⟨_, rfl⟩
      obtain ⟨a6, ha6⟩ : ∃ a : Int, a = (q6.1 : Int) := ⟨_, rfl⟩
      rw [← ha2, ← ha3, ← ha4, ← ha5, ← ha6] at hbI
      obtain ⟨ss, hss⟩ : ∃ ss, ss = ssPut pre (List.replicate 16 noSes) := ⟨_, rfl⟩
      rw [← hss] at hmI
      have hsl16 : ss.length = 16 := by rw [hss, ssPut_len]; simp
      have hqn16 : qn < 16 := by omega
      have hrd : rdSes bs pk badk = ((qn, ⟨a2, a3, ⟨a4, a5, a6⟩⟩), q6.2) := by
        unfold rdSes
        simp only [← HQ1.out, ← HQ2.out, ← HQ3.out, ← HQ4.out, ← HQ5.out, ← HQ6.out]
        rw [hqn, ha2, ha3, ha4, ha5, ha6]
      have HKI := Lib.hid (And.intro hbI (And.intro hgI (And.intro hkWI (And.intro hmI (And.intro hss hrd)))))
      have d0 := hbI.cell 0; have d1 := hbI.cell 1; have d2 := hbI.cell 2; have d3 := hbI.cell 3; have d4 := hbI.cell 4
      simp [sesA] at d0 d1 d2 d3 d4
      have hslI := hbI.lt
      have hmlI := hmI.lt
      have hglI := hgI.lt
      have g2 := hgI.cell 2
      simp at g2
      have gf := hgI.frozen 2
      have hqi : (qn : Int) < 16 := by omega
      simp only [← hqn]
      have hms : m ≠ hs := hsm.symm
      have HFin : Hid (∀ wx bad2, Keep (fun j => j ≠ g) wI wx → Rdr wx g A n c q6.2.1 bad2 → bad2 = (q6.2.2 || !schk last (qn, ⟨a2, a3, ⟨a4, a5, a6⟩⟩)) →
          Hid (∃ pk badk pre, RSAt bs R cnt (k + 1) (qn : Int) m g bp bl tok A n c w (((((wx.setCell ⟨m, 3 + qn * 5, none⟩ (.int .i64 a2)).setCell ⟨m, 3 + qn * 5 + 1, none⟩ (.int .i64 a3)).setCell ⟨m, 3 + qn * 5 + 2, none⟩ (.int .i64 a4)).setCell ⟨m, 3 + qn * 5 + 3, none⟩ (str a5)).setCell ⟨m, 3 + qn * 5 + 4, none⟩ (.int .i64 a6)).drew pk badk pre)) := Lib.hid fun wx bad2 hkx hgx hb2 => by
        have hk5 : Keep (fun j => j ≠ m) wx (((((wx.setCell ⟨m, 3 + qn * 5, none⟩ (.int .i64 a2)).setCell ⟨m, 3 + qn * 5 + 1, none⟩ (.int .i64 a3)).setCell ⟨m, 3 + qn * 5 + 2, none⟩ (.int .i64 a4)).setCell ⟨m, 3 + qn * 5 + 3, none⟩ (str a5)).setCell ⟨m, 3 + qn * 5 + 4, none⟩ (.int .i64 a6)).drew :=
          ((((((Keep.refl _ wx).setCell (fun _ h => h rfl) _).setCell (fun _ h => h rfl) _).setCell (fun _ h => h rfl) _).setCell (fun _ h => h rfl) _).setCell (fun _ h => h rfl) _).drew
        have b5 := (((((HKI.out.2.2.2.1.keep hkx hmg).set (3 + qn * 5) (.int .i64 a2)).set (3 + qn * 5 + 1) (.int .i64 a3)).set (3 + qn * 5 + 2) (.int .i64 a4)).set (3 + qn * 5 + 3) (str a5)).set (3 + qn * 5 + 4) (.int .i64 a6)
        rw [mcells_store (by omega) a2 a3 ⟨a4, a5, a6⟩] at b5
        refine Lib.hid ⟨q6.2.1, bad2, pre ++ [(qn, ⟨a2, a3, ⟨a4, a5, a6⟩⟩)], ⟨?_, hgx.keep hk5 (fun e => hmg e.symm), by omega, ?_, by omega, (HKI.out.2.2.1.comp hkx (fun _ _ h => h) (fun _ _ h => h.1)).comp hk5 (fun _ _ h => h) (fun _ _ h => h.2)⟩⟩
        · rw [HA.out.eq, show cnt - k = (cnt - (k + 1)) + 1 by omega, runF_succ, HKI.out.2.2.2.2.2]
          simp only [← hb2, snxt, List.append_assoc, List.singleton_append]
        · rw [ssPut_snoc, ← HKI.out.2.2.2.2.1]
          exact b5.drew
      have HN : Hid (∀ wx, Keep (fun j => j ≠ g) wI wx → (∀ j, j < 5 → ∃ u, wx.cell? ⟨m, 3 + qn * 5 + j, none⟩ = some u) ∧ (∀ j, wx.frozen? ⟨m, j, none⟩ = false) ∧ m < wx.heap.size) := Lib.hid fun wx hk => by
        have h1 := HKI.out.2.2.2.1.keep hk hmg
        refine ⟨fun j hj => ?_, fun j => h1.frozen j, h1.lt⟩
        have h2 := h1.cell (3 + qn * 5 + j)
        have h3 := mcell_sess (bp := bp) (bl := bl) (tok := tok) (ss := ss) (q := qn) (by omega) hj
        rw [h2]
        simp only [List.getElem?_toArray]
        rw [h3]
        match j, hj with
        | 0, _ => exact ⟨_, rfl⟩
        | 1, _ => exact ⟨_, rfl⟩
        | 2, _ => exact ⟨_, rfl⟩
        | 3, _ => exact ⟨_, rfl⟩
        | 4, _ => exact ⟨_, rfl⟩
      clear hbI hgI hkWI hmI hss hrd hqn ha2 ha3 ha4 ha5 ha6 hkHI hslH hsl
      by_cases hgood : last < (qn : Int) ∧ a2 ≠ 0 ∧ a3 ≠ 0 ∧ a4 ≠ 0 ∧ a4 ≠ 10
      · have e1 : decide ((qn : Int) ≤ last) = false := by simp; omega
        have e2 : (a2 == 0) = false := by simpa using hgood.2.1
        have e3 : (a3 == 0) = false := by simpa using hgood.2.2.1
        have e4 : (a4 == 0) = false := by simpa using hgood.2.2.2.1
        have e5 : (a4 == 10) = false := by simpa using hgood.2.2.2.2
        have HCH := Lib.hid (show schk last (qn, ⟨a2, a3, ⟨a4, a5, a6⟩⟩) = true by unfold schk; simp [hgood])
        obtain ⟨hcs, hfz, -⟩ := HN.out wI (Keep.refl _ _)
        obtain ⟨u0, n0⟩ := hcs 0 (by omega)
        obtain ⟨u1, n1⟩ := hcs 1 (by omega)
        obtain ⟨u2, n2⟩ := hcs 2 (by omega)
        obtain ⟨u3, n3⟩ := hcs 3 (by omega)
        obtain ⟨u4, n4⟩ := hcs 4 (by omega)
        rw [Nat.add_zero] at n0
        have f0 := hfz (3 + qn * 5); have f1 := hfz (3 + qn * 5 + 1); have f2 := hfz (3 + qn * 5 + 2); have f3 := hfz (3 + qn * 5 + 3); have f4 := hfz (3 + qn * 5 + 4)
        clear hgood hcs hfz
        go_upto_region 9 with (fail)
        go_region
        go_wp2_with fail
        exact ⟨⟨k + 1, (qn : Int), by omega, by simp, rfl, HFin.out wI q6.2.2 (Keep.refl _ _) HKI.out.2.1 (by rw [HCH.out]; simp)⟩, by simp only [intOf]; omega⟩
      · have HCH : Hid (schk last (qn, ⟨a2, a3, ⟨a4, a5, a6⟩⟩) = false) := Lib.hid (by
          rcases hh : schk last (qn, ⟨a2, a3, ⟨a4, a5, a6⟩⟩) with _ | _
          · rfl
          · exfalso
            refine hgood ?_
            unfold schk at hh
            simp at hh
            exact ⟨hh.1.1.1.1, hh.1.1.1.2, hh.1.1.2, hh.1.2, hh.2⟩)
        have hcase : decide ((qn : Int) ≤ last) = true ∨ (decide ((qn : Int) ≤ last) = false ∧ ((a2 == 0) = true ∨ ((a2 == 0) = false ∧ ((a3 == 0) = true ∨ ((a3 == 0) = false ∧ ((a4 == 0) = true ∨ ((a4 == 0) = false ∧ (a4 == 10) = true))))))) := by
          by_cases b1 : (qn : Int) ≤ last
          · exact .inl (by simpa using b1)
          · refine .inr ⟨by simp; omega, ?_⟩
            by_cases b2 : a2 = 0
            · exact .inl (by simpa using b2)
            · refine .inr ⟨by simpa using b2, ?_⟩
              by_cases b3 : a3 = 0
              · exact .inl (by simpa using b3)
              · refine .inr ⟨by simpa using b3, ?_⟩
                by_cases b4 : a4 = 0
                · exact .inl (by simpa using b4)
                · refine .inr ⟨by simpa using b4, ?_⟩
                  have : a4 = 10 := Classical.byContradiction fun h => hgood ⟨by omega, b2, b3, b4, h⟩
                  simpa using this
        have hks : Keep (fun j => j ≠ g) wI (wI.setCell ⟨g, 2, none⟩ (.bool true)) := (Keep.refl _ wI).setCell (fun _ h => h rfl) _
        have hgs : Rdr (wI.setCell ⟨g, 2, none⟩ (.bool true)) g A n c q6.2.1 true := HKI.out.2.1.set 2 (.bool true)
        have HGS := Lib.hid (And.intro hks hgs)
        obtain ⟨hcs, hfz, -⟩ := HN.out _ hks
        obtain ⟨u0, n0⟩ := hcs 0 (by omega)
        obtain ⟨u1, n1⟩ := hcs 1 (by omega)
        obtain ⟨u2, n2⟩ := hcs 2 (by omega)
        obtain ⟨u3, n3⟩ := hcs 3 (by omega)
        obtain ⟨u4, n4⟩ := hcs 4 (by omega)
        rw [Nat.add_zero] at n0
        have f0 := hfz (3 + qn * 5); have f1 := hfz (3 + qn * 5 + 1); have f2 := hfz (3 + qn * 5 + 2); have f3 := hfz (3 + qn * 5 + 3); have f4 := hfz (3 + qn * 5 + 4)
        have k0 := hks.cellAt d0 hsg; have k1 := hks.cellAt d1 hsg; have k2 := hks.cellAt d2 hsg; have k3 := hks.cellAt d3 hsg; have k4 := hks.cellAt d4 hsg
        clear hgood hcs hfz hks hgs
        generalize hwx : World.setCell wI ⟨g, 2, none⟩ (.bool true) = wx at n0 n1 n2 n3 n4 f0 f1 f2 f3 f4 k0 k1 k2 k3 k4 HGS
        have hmlx := lt_of_cell n0
        have hslx := lt_of_cell k0
        rcases hcase with e1 | ⟨e1, e2 | ⟨e2, e3 | ⟨e3, e4 | ⟨e4, e5⟩⟩⟩⟩
        all_goals
          go_upto_region 9 with (fail)
          try rw [hwx]
          clear hwx d0 d1 d2 d3 d4 e1
          go_region
          go_wp2_with fail
          exact ⟨⟨k + 1, (qn : Int), by omega, by simp, rfl, HFin.out wx true HGS.out.1 HGS.out.2 (by rw [HCH.out]; simp)⟩, by simp only [intOf]; omega⟩
    · obtain rfl : k = cnt := by omega
      have e' : R = (pre, pk, badk) := by
        have e := HA.out.eq
        rw [Nat.sub_self] at e
        rw [e]
        simp [runF]
      have HE := Lib.hid e'
      obtain ⟨⟨ms, hls⟩, hrise, hsafe, hqlen, hSz⟩ := HLK.out
      have hlsr := hls.keep HA.out.keep hSz
      have x1 : wr.cell? ⟨m, 1, none⟩ = some (.map (some bl)) := by
        rw [HA.out.blk.cell 1]
        rfl
      have hmlr := HA.out.blk.lt
      have hglr := HA.out.rd.lt
      have HLS := Lib.hid hlsr
      clear e' hls hrise hsafe hqlen hSz hlsr
      go_wp2_with (at_range; refine wpList_rangeIs rfl (.tmp 71) rfl Tryz.underlying9 Tryz.underlying52 rfl HLS.out.map ?_)
      intro w0 hr0 hk0 hs0
      have HR0 := Lib.hid (And.intro hr0 hk0)
      clear hr0 hk0
      go_wp2_with fail
      obtain ⟨ss, hss⟩ : ∃ ss, ss = ssPut pre (List.replicate 16 noSes) := ⟨_, rfl⟩
      have HSS := Lib.hid hss
      clear hss
      go_loopw [] (fun w2 => ∃ todo badx, Hid (RTAt ls ss S m g bl wr.heap.size A n c pk badk ms wr w2 todo badx)) (fun w2 => w2.rangeLeft bl wr.heap.size)
      case atStart =>
        obtain ⟨hr0, hk0⟩ := HR0.out
        refine ⟨_, badk, Lib.hid ⟨hr0, HA.out.rd.keep hk0 trivial, ?_, hk0.weaken fun _ _ _ => trivial⟩⟩
        have e : (ms.map LkM.kv).map Prod.fst = ls.map LockD.name := lks_rise HLS.out
        try rw [List.map_map] at e
        rw [e]
        have : (ls.filter fun l => !decide (l.name ∈ ls.map LockD.name)) = [] := by
          rw [List.filter_eq_nil_iff]
          intro l hl
          simp
          exact ⟨l, hl, rfl⟩
        rw [this]
        simp
      case round =>
        rename World => w2
        obtain ⟨todo, badx, HW⟩ := hrel
        go_wp2_with (at_next; refine wpList_nextIs rfl (.tmp 72) rfl Tryz.underlying9 rfl HW.out.rng ?_ ?_)
        · intro hd
          subst hd
          go_wp2_with fail
          go_end0
          have hx := HW.out
          have e : (ls.filter fun l => !decide (l.name ∈ ([] : List Txt))) = ls := by simp
          have hb : badx = (badk || sesMiss ls ss) := by
            have h1 := hx.bad
            rw [e] at h1
            exact h1
          have hk2 : Keep (fun j => j ≠ g ∧ j ≠ m) w w2 := HA.out.keep.comp hx.keep (fun _ _ h => h) (fun _ _ h => h.1)
          refine ⟨rfl, ?_, ?_, by rw [HE.out]; exact HA.out.pn, hk2⟩
          · rw [HE.out]
            exact HA.out.blk.keep hx.keep hmg
          · rw [HE.out, ← HSS.out, ← hb]
            exact hx.rd
        · intro t v w3 ht hv hr1 hk1 hs1 hlt2 hen
          obtain ⟨hls, hrise, hsafe, hqlen, hSz⟩ := HLK.out
          have hlt := HLS.out
          obtain ⟨x, hxm, hxn, rfl⟩ : ∃ x ∈ ms, x.d.name = t ∧ v = .pointer (some ⟨x.h, 0, none⟩) := by
            rw [mfind_map (key := LkM.key) (f := LkM.kv) (fun _ => rfl)] at hv
            cases hf : findK LkM.key t ms with
            | none => rw [hf] at hv; cases hv
            | some x =>
              rw [hf] at hv
              injection hv with hv
              obtain ⟨h1, h2⟩ := findK_some hf
              exact ⟨x, h2, h1, hv.symm⟩
          have hxl : x.d ∈ ls := by rw [← hlt.data]; exact List.mem_map.2 ⟨x, hxm, rfl⟩
          have hxi := hlt.each x hxm
          have hrl : wr.heap.size ≠ g := by have := HA.out.rd.lt; omega
          have hk3 : Keep (fun j => j ≠ g) wr w3 := HW.out.keep.comp hk1 (fun _ _ h => h) (fun j hj _ => by omega)
          have hxb := hxi.blk.keep hk3 (hSz _ hxi.sh).1
          have hxr := hxi.row.keep hk3 (fun k hk => (hSz _ (hxi.sv k hk)).1)
          obtain ⟨A2, c2, hxv, hnc2, hrd2, hnil2⟩ := hxr.rd
          have k0 := hxb.cell 0
          have k2 := hxb.cell 2
          simp at k0 k2
          rw [hxv] at k2
          have hxh := hxb.lt
          have hq15 := hqlen x.d hxl
          have hsf := hsafe x.d hxl
          obtain ⟨hd, hhd⟩ : ∃ hd, hd = x.d.holder := ⟨_, rfl⟩
          obtain ⟨qs, hqs⟩ : ∃ qs, qs = x.d.queue := ⟨_, rfl⟩
          obtain ⟨ql, hql⟩ : ∃ ql, ql = qs.length := ⟨_, rfl⟩
          rw [← hqs] at hq15 hrd2 k2 hnc2 hnil2
          rw [← hhd] at k0
          rw [← hql] at hq15 hrd2 k2 hnc2 hnil2
          have HX := Lib.hid (And.intro hxm (And.intro hxn (And.intro hxl (And.intro hk3 (And.intro hrd2 (And.intro hnil2 (And.intro hsf (And.intro hhd (And.intro hqs hql)))))))))
          have HH := Lib.hid (And.intro ht (And.intro hr1 (And.intro hk1 hlt2)))
          clear hs1 ht hr1 hk1 hlt2 hls hrise hsafe hqlen hSz hlt hxm hxn hxl hxi hxb hxr hxv hrd2 hsf hhd hqs hk3 hv hnil2 hql
          have hqb : Hid ((1 + ql) * 8 ≤ 140737488355328) := Lib.hid (by omega)
          go_upto_region 15 with (fail)
          have k2a : (w3.alloc (.cells #[.int .i64 hd] 3)).cell? ⟨x.h, 2, none⟩ = some (.slice A2 ql c2) := ((Keep.refl (fun _ => True) w3).alloc _).cellAt k2 trivial
          have hq1 : ((w3.alloc (.cells #[.int .i64 hd] 3)).drew).ownsRow w3.heap.size 3 1 (.slice (some ⟨w3.heap.size, 0, none⟩) 1 1) 1 [.int .i64 hd] := own_of_blk (Blk.new _ _ _) (Nat.le_refl _) (show 1 ≤ _ by decide) 1 rfl
          have hq2 : Rd ((w3.alloc (.cells #[.int .i64 hd] 3)).drew) _ 1 A2 ql (ics qs) := HX.out.2.2.2.2.1.keep ((Keep.refl _ _).alloc _).drew
          have hq3 : w3.heap.size ≤ ((w3.alloc (.cells #[.int .i64 hd] 3)).drew).heap.size := ((Keep.refl (fun _ => True) w3).alloc _).size
          have HQ := Lib.hid (And.intro hq1 (And.intro hq2 hq3))
          clear hq1 hq2 hq3
          go_cut [86, 87, 88] (fun s86 s87 s88 wx => ∃ (A4 : Option Addr) (c4 : Nat), s86 = .slice A4 (1 + ql) c4 ∧ s87 = .int .i64 (1 + (ql : Int)) ∧ s88 = .int .i64 0 ∧ Hid (wx.ownsRow w3.heap.size 3 1 (.slice A4 (1 + ql) c4) (1 + ql) ([.int .i64 hd] ++ ics qs) ∧ Keep (fun k => (Value.slice (some ⟨w3.heap.size, 0, none⟩) 1 1).ownBlock ≠ some k) ((w3.alloc (.cells #[.int .i64 hd] 3)).drew) wx))
          case first =>
            go_region_law (first
              | (refine step_app etInt2 rfl (.tmp 81) (.tmp 85) rfl w3.heap.size _ 1 [.int .i64 hd] rfl HQ.out.1 _ A2 ql c2 _ rfl HQ.out.2.1 HX.out.2.2.2.2.2.1 (ics_one _) hqb.out HQ.out.2.2 ?_
                 intro v4 w4 ho4 hk4 hn4
                 obtain ⟨A4, c4, rfl, -⟩ := own_rd ho4
                 have H4 := Lib.hid (And.intro ho4 hk4)
                 clear ho4 hk4 hn4))
            all_goals
              go_wp2_with fail
              go_meet
              exact ⟨_, _, rfl, rfl, rfl, H4⟩
          case rest =>
          rename World => w4
          obtain ⟨A4, c4, rfl, rfl, rfl, H4⟩ := hcut
          have hk34 : Keep (fun _ => True) w3 w4 := (((Keep.refl (fun _ => True) w3).alloc (.cells #[.int .i64 hd] 3)).drew).comp H4.out.2 (fun _ _ _ => trivial) (fun j hj _ e => by injection e with e; have e2 : w3.heap.size = j := e; omega)
          obtain ⟨A5, c5, e5, hrd5, -⟩ := own_rd H4.out.1
          injection e5 with e5 _ _
          subst e5
          have hg3 : g < w3.heap.size := Nat.lt_of_lt_of_le HA.out.rd.lt HX.out.2.2.2.1.size
          have hrdg : ∀ w5, Keep (fun j => j ≠ g) w4 w5 → Rd w5 (fun k => (Value.slice A4 (1 + ql) c4).ownBlock = some k) 1 A4 (1 + ql) (ics (hd :: qs)) := fun w5 hk => Rd.keep hrd5 (hk.weaken fun j _ hj e => by have := (own_lt H4.out.1 hj).1; omega)
          have hmm : ∀ w5, Keep (fun j => j ≠ g) w4 w5 → Blk w5 m 55 (mchcells bp bl tok ss).toArray := fun w5 hk => by
            have h1 := ((HA.out.blk.keep HX.out.2.2.2.1 hmg).keep hk34 trivial).keep hk hmg
            rw [HSS.out]
            exact h1
          have H5 := Lib.hid (And.intro hk34 (And.intro hrdg hmm))
          have HS16 : Hid (ss.length = 16) := Lib.hid (by rw [HSS.out, ssPut_len]; simp)
          clear hk34 hrd5 hrdg hmm k0 k2 k2a hxh hen
          go_wp2_with fail
          go_loopw [88] (fun i w5 => ∃ (k5 : Nat) (b5 : Bool), k5 ≤ 1 + ql ∧ i = .int .i64 (k5 : Int) ∧ Hid (Rdr w5 g A n c pk b5 ∧ b5 = (badx || missTo ss (hd :: qs) k5) ∧ Keep (fun j => j ≠ g) w4 w5)) (fun i _ => 1 + ql - (intOf i).toNat)
          case atStart =>
            refine ⟨0, badx, by omega, rfl, Lib.hid ⟨?_, by simp [missTo], Keep.refl _ _⟩⟩
            exact (HW.out.rd.keep HH.out.2.2.1 (fun e => hrl e.symm)).keep H5.out.1 trivial
          case round =>
            rename World => w5
            obtain ⟨k5, b5, hk5, rfl, HI⟩ := hrel
            by_cases hlt5 : k5 < 1 + ql
            · have hlen5 : k5 < (hd :: qs).length := by simp [← HX.out.2.2.2.2.2.2.2.2.2]; omega
              obtain ⟨b, o, rfl, -, hl5, hc5⟩ := (H5.out.2.1 w5 HI.out.2.2).at1 hlt5
              obtain ⟨z, hz⟩ : ∃ z, z = (hd :: qs)[k5] := ⟨_, rfl⟩
              have hz16 : 0 ≤ z ∧ z < 16 := by
                have hm5 : z ∈ hd :: qs := by rw [hz]; exact List.getElem_mem _
                obtain ⟨s1, s2⟩ := HX.out.2.2.2.2.2.2.1
                rcases List.mem_cons.1 hm5 with e | e
                · rw [e, HX.out.2.2.2.2.2.2.2.1]; exact s1
                · exact s2 z (by rw [← HX.out.2.2.2.2.2.2.2.2.1]; exact e)
              obtain ⟨pn, rfl⟩ : ∃ pn : Nat, z = (pn : Int) := ⟨z.toNat, by omega⟩
              rw [show (ics (hd :: qs))[k5] = .int .i64 (pn : Int) by simp only [ics, List.getElem_map]; rw [hz]] at hc5
              have hpn : pn < 16 := by omega
              have hpi : (pn : Int) < 16 := by omega
              have hbm := H5.out.2.2 w5 HI.out.2.2
              have hm5 := hbm.lt
              obtain ⟨ic, hic⟩ : ∃ ic, ic = (ss.getD pn noSes).inc := ⟨_, rfl⟩
              have hpl : pn < ss.length := by rw [HS16.out]; exact hpn
              have n0 : w5.cell? ⟨m, 3 + pn * 5, none⟩ = some (.int .i64 ic) := by
                have h2 := hbm.cell (3 + pn * 5)
                have h3 := mcell_sess (bp := bp) (bl := bl) (tok := tok) (ss := ss) (q := pn) (j := 0) hpl (by omega)
                rw [h2]
                simp only [List.getElem?_toArray]
                rw [Nat.add_zero] at h3
                rw [h3, hic, List.getD_eq_getElem?_getD, List.getElem?_eq_getElem hpl]
                rfl
              have g2 := HI.out.1.cell 2
              simp at g2
              have gf := HI.out.1.frozen 2
              have hg5 := HI.out.1.lt
              have hst : missTo ss (hd :: qs) (k5 + 1) = (missTo ss (hd :: qs) k5 || decide (ic = 0)) := by
                rw [missTo_succ _ _ _ hlen5, ← hz, hic]
                rfl
              have HT5 := Lib.hid hst
              clear hpl hbm hl5 hz hic hz16 hst hlen5
              by_cases h0 : ic = 0
              · have e0 : (ic == 0) = true := by simp [h0]
                have HZ := Lib.hid h0
                clear h0
                go_wp2_with fail
                exact ⟨⟨k5 + 1, true, by omega, by simp, Lib.hid ⟨HI.out.1.set 2 (.bool true), by rw [HT5.out, HZ.out]; simp, HI.out.2.2.setCell (fun _ h => h rfl) _⟩⟩, by simp only [intOf]; omega⟩
              · have e0 : (ic == 0) = false := by simp [h0]
                have HZ := Lib.hid h0
                clear h0
                go_wp2_with fail
                exact ⟨⟨k5 + 1, b5, by omega, by simp, Lib.hid ⟨HI.out.1, by rw [HT5.out, HI.out.2.1]; simp [HZ.out], HI.out.2.2⟩⟩, by simp only [intOf]; omega⟩
            · obtain rfl : k5 = 1 + ql := by omega
              go_wp2_with fail
              obtain ⟨hls, hrise, hsafe, hqlen, hSz⟩ := HLK.out
              have hbg : bl ≠ g := (hSz bl HLS.out.sb).1
              obtain ⟨ht, hr1, hk1, hlt2⟩ := HH.out
              obtain ⟨i1, i2, i3⟩ := HI.out
              have hk35 : Keep (fun j => j ≠ g) w3 w5 := H5.out.1.comp i3 (fun _ _ _ => trivial) (fun _ _ h => h)
              refine ⟨⟨todo.filter fun y => !(y == t), b5, Lib.hid ⟨hr1.keep hk35 hbg hrl, i1, ?_, HX.out.2.2.2.1.comp hk35 (fun _ _ h => h) (fun _ _ h => h)⟩⟩, ?_⟩
              · rw [i2, HW.out.bad, miss_step (missL ss) hrise HX.out.2.2.1 HX.out.2.1 ht, ← missTo_all ss x.d (1 + ql) (by rw [← HX.out.2.2.2.2.2.2.2.2.1, ← HX.out.2.2.2.2.2.2.2.2.2]; omega), HX.out.2.2.2.2.2.2.2.1, HX.out.2.2.2.2.2.2.2.2.1, Bool.or_assoc]
              · rw [hr1.left hk35 hbg hrl]
                exact hlt2
end Go.Proofs.YtggibajakcigaaaGreatDoor
namespace Go.Proofs.YtggibajakcigaaaGreatDoor
set_option linter.unusedVariables false
set_option linter.unusedSimpArgs false
open Go.RowKit

/-! ### one of each kind -/
theorem oNum_le {bs : Txt} {p hi v q : Nat} (h : oNum bs p hi = some (v, q)) : v ≤ hi := by
  obtain ⟨_, _, _, h⟩ := oNum_inv h
  exact h
theorem oNum_to {bs : Txt} {p hi lo v q : Nat} (h : oNum bs p hi = some (v, q)) (hv : v ≤ lo) : oNum bs p lo = some (v, q) := by
  unfold oNum at h ⊢
  split at h
  · rename_i hc
    injection h with h
    injection h with h1 h2
    rw [if_pos ⟨hc.1, by omega⟩, h1, h2]
  · cases h
theorem rdPair_ok {bs : Txt} (p : Nat) (bad : Bool) (h : (rdPair bs p bad).2.2 = false) : bad = false ∧ oPair bs p = some ((rdPair bs p bad).1, (rdPair bs p bad).2.1) := by
  unfold rdPair at h ⊢
  simp only at h ⊢
  obtain ⟨h1, h2⟩ := o_of_text h
  obtain ⟨h3, h4⟩ := o_of_text h1
  refine ⟨h3, ?_⟩
  unfold oPair
  rw [h4]
  simp only [Option.bind_some]
  rw [h2]
  rfl
theorem rdPair_of {bs : Txt} (p : Nat) (x : Txt × Txt) (p' : Nat) (h : oPair bs p = some (x, p')) : rdPair bs p false = (x, p', false) := by
  unfold oPair at h
  obtain ⟨⟨k, q⟩, h1, h⟩ := some_bind h
  obtain ⟨⟨v, q2⟩, h2, h⟩ := some_bind h
  injection h with h
  injection h with e1 e2
  simp only at h2 e1 e2
  have h3 := text_of_o h1
  have h4 := text_of_o h2
  unfold rdPair
  rw [h3]
  simp only
  rw [h4, ← e1, ← e2]
theorem rdCl_ok {bs : Txt} (p : Nat) (bad : Bool) (h : (rdCl bs p bad).2.2 = false) : bad = false ∧ oCl bs p = some ((rdCl bs p bad).1, (rdCl bs p bad).2.1) := by
  have h0 : (rCount bs p bad 15).2.2 = false := h
  have h1 := o_of_count (hi := 15) h0
  have h2 : oNum bs p 15 = some ((rCount bs p bad 15).1, (rCount bs p bad 15).2.1) := h1.2
  refine ⟨h1.1, ?_⟩
  unfold oCl
  rw [h2]
  rfl
theorem rdCl_of {bs : Txt} (p : Nat) (x : Int) (p' : Nat) (h : oCl bs p = some (x, p')) : rdCl bs p false = (x, p', false) := by
  unfold oCl at h
  obtain ⟨⟨c, q⟩, h1, h⟩ := some_bind h
  injection h with h
  injection h with e1 e2
  have h2 : rCount bs p false 15 = (c, q, false) := count_of_o h1
  unfold rdCl
  rw [h2, ← e1, ← e2]
theorem qchk_iff : ∀ (l seen : List Int), chkAll qchk qnxt seen l ↔ l.Nodup ∧ ∀ c ∈ l, c ∉ seen
  | [], seen => by simp [chkAll]
  | c :: r, seen => by
    rw [chkAll, qchk_iff r (qnxt seen c)]
    unfold qchk qnxt
    constructor
    · rintro ⟨h1, h2, h3⟩
      have h1 : c ∉ seen := by simpa using h1
      refine ⟨List.nodup_cons.2 ⟨fun h => h3 c h (by simp), h2⟩, fun d hd => ?_⟩
      rcases List.mem_cons.1 hd with rfl | hd
      · exact h1
      · exact fun h => h3 d hd (by simp [h])
    · rintro ⟨h1, h3⟩
      obtain ⟨h1, h2⟩ := List.nodup_cons.1 h1
      refine ⟨by simpa using h3 c (by simp), h2, fun d hd h => ?_⟩
      rcases List.mem_cons.1 h with rfl | h
      · exact h1 hd
      · exact h3 d (by simp [hd]) h
/-- A lock, with what is looked at while it is read. -/
def lckOk (tok : Nat) (x : LockD) : Prop := x.token ≤ (tok : Int) ∧ x.queue.Nodup ∧ x.holder ∉ x.queue
instance (tok : Nat) (x : LockD) : Decidable (lckOk tok x) := by unfold lckOk; infer_instance
def oLockT (bs : Txt) (tok : Nat) (p : Nat) : Option (LockD × Nat) := (oLock bs p).bind fun x => if lckOk tok x.1 then some x else none
theorem rdLock_ok {bs : Txt} {tok : Nat} (ht : tok ≤ 99999999) (p : Nat) (bad : Bool) (h : (rdLock bs (tok : Int) p bad).2.2 = false) : bad = false ∧ oLockT bs tok p = some ((rdLock bs (tok : Int) p bad).1, (rdLock bs (tok : Int) p bad).2.1) := by
  unfold rdLock at h ⊢
  simp only at h ⊢
  generalize ha : rText bs p bad 8 = a at h ⊢
  generalize hb : rCount bs a.2.1 a.2.2 15 = b at h ⊢
  generalize hc : rCount bs b.2.1 b.2.2 (tok : Int) = c at h ⊢
  unfold rQueue at h ⊢
  generalize hd : rCount bs c.2.1 c.2.2 15 = d at h ⊢
  obtain ⟨x1, x2, x3⟩ := runF_ok (one := oCl bs) rdCl_ok _ _ _ _ h
  have y0 : (rCount bs c.2.1 c.2.2 15).2.2 = false := by rw [hd]; exact x1
  obtain ⟨y1, y2⟩ := o_of_count (hi := 15) y0
  have y2 : oNum bs c.2.1 15 = some (d.1, d.2.1) := by rw [← hd]; exact y2
  have z0 : (rCount bs b.2.1 b.2.2 (tok : Int)).2.2 = false := by rw [hc]; exact y1
  obtain ⟨z1, z2⟩ := o_of_count (hi := tok) z0
  have z2 : oNum bs b.2.1 tok = some (c.1, c.2.1) := by rw [← hc]; exact z2
  have u0 : (rCount bs a.2.1 a.2.2 15).2.2 = false := by rw [hb]; exact z1
  obtain ⟨u1, u2⟩ := o_of_count (hi := 15) u0
  have u2 : oNum bs a.2.1 15 = some (b.1, b.2.1) := by rw [← hb]; exact u2
  have v0 : (rText bs p bad 8).2.2 = false := by rw [ha]; exact u1
  obtain ⟨v1, v2⟩ := o_of_text v0
  have v2 : oTxt bs p = some (a.1, a.2.1) := by rw [← ha]; exact v2
  refine ⟨v1, ?_⟩
  have z3 := oNum_to z2 (lo := 99999999) (by have := oNum_le z2; omega)
  obtain ⟨q1, q2⟩ := (qchk_iff _ _).1 x3
  unfold oLockT oLock
  rw [v2]
  simp only [Option.bind_some]
  rw [u2]
  simp only [Option.bind_some]
  rw [z3]
  simp only [Option.bind_some]
  rw [y2]
  simp only [Option.bind_some]
  rw [x2]
  simp only [Option.bind_some]
  rw [if_pos]
  refine ⟨?_, q1, fun hm => ?_⟩
  · have := oNum_le z2
    show (c.1 : Int) ≤ (tok : Int)
    omega
  · exact q2 _ hm (by simp)
theorem rdLock_of {bs : Txt} {tok : Nat} (p : Nat) (x : LockD) (p' : Nat) (h : oLockT bs tok p = some (x, p')) : rdLock bs (tok : Int) p false = (x, p', false) := by
  unfold oLockT at h
  obtain ⟨⟨y, q⟩, h1, h⟩ := some_bind h
  simp only at h
  split at h
  · rename_i hk
    injection h with h
    injection h with e1 e2
    subst e1 e2
    unfold oLock at h1
    obtain ⟨⟨k, q1⟩, g1, h⟩ := some_bind h1
    clear h1
    obtain ⟨⟨hd, q2⟩, h2, h⟩ := some_bind h
    obtain ⟨⟨t, q3⟩, h3, h⟩ := some_bind h
    obtain ⟨⟨w, q4⟩, h4, h⟩ := some_bind h
    obtain ⟨⟨qs, q5⟩, h5, h⟩ := some_bind h
    injection h with h
    injection h with e1 e2
    simp only at h2 h3 h4 h5 e1 e2
    subst e1 e2
    have a1 := text_of_o g1
    have a2 : rCount bs q1 false 15 = (hd, q2, false) := count_of_o h2
    have htl : t ≤ tok := by
      have : ((t : Nat) : Int) ≤ (tok : Int) := hk.1
      omega
    have a3 : rCount bs q2 false (tok : Int) = (t, q3, false) := count_of_o (oNum_to h3 htl)
    have a4 : rCount bs q3 false 15 = (w, q4, false) := count_of_o h4
    have a5 := runF_of (chk := qchk) (nxt := qnxt) (rdCl_of (bs := bs)) w q4 q5 [(hd : Int)] qs h5 ((qchk_iff _ _).2 ⟨hk.2.1, fun c hc hm => by
      have e : c = (hd : Int) := by simpa using hm
      subst e
      exact hk.2.2 hc⟩)
    unfold rdLock rQueue
    rw [a1]
    simp only
    rw [a2]
    simp only
    rw [a3]
    simp only
    rw [a4]
    simp only
    rw [a5]
  · cases h
theorem oMany_guard {α : Type} {one : Nat → Option (α × Nat)} {P : α → Prop} [DecidablePred P] : ∀ (n p : Nat) (l : List α) (p' : Nat), oMany (fun q => (one q).bind fun x => if P x.1 then some x else none) n p = some (l, p') ↔ oMany one n p = some (l, p') ∧ ∀ x ∈ l, P x
  | 0, p, l, p' => by
    simp only [oMany, Option.some.injEq, Prod.mk.injEq]
    constructor
    · rintro ⟨rfl, rfl⟩; simp
    · exact fun h => h.1
  | n + 1, p, l, p' => by
    rw [oMany, oMany]
    constructor
    · intro h
      obtain ⟨⟨x, q⟩, g1, g⟩ := some_bind h
      clear h
      obtain ⟨⟨y, q1⟩, h2, g1⟩ := some_bind g1
      obtain ⟨⟨r, q2⟩, h3, g⟩ := some_bind g
      simp only at g1 h3 g
      split at g1
      · rename_i hP
        injection g1 with g1
        injection g1 with e1 e2
        injection g with g
        injection g with e3 e4
        subst e1 e2 e3 e4
        obtain ⟨g1, g2⟩ := (oMany_guard n q1 r q2).1 h3
        rw [h2]
        simp only [Option.bind_some]
        rw [g1]
        refine ⟨rfl, fun z hz => ?_⟩
        rcases List.mem_cons.1 hz with rfl | hz
        · exact hP
        · exact g2 z hz
      · cases g1
    · rintro ⟨h0, hP⟩
      obtain ⟨⟨x, q⟩, h1, h⟩ := some_bind h0
      clear h0
      obtain ⟨⟨r, q2⟩, h3, h⟩ := some_bind h
      injection h with h
      injection h with e1 e2
      subst e1 e2
      rw [h1]
      simp only [Option.bind_some]
      rw [if_pos (hP x (by simp))]
      simp only [Option.bind_some]
      rw [(oMany_guard n q r q2).2 ⟨h3, fun z hz => hP z (by simp [hz])⟩]
      rfl
theorem rdSes_ok {bs : Txt} (p : Nat) (bad : Bool) (h : (rdSes bs p bad).2.2 = false) : bad = false ∧ oSes bs p = some ((rdSes bs p bad).1, (rdSes bs p bad).2.1) := by
  unfold rdSes at h ⊢
  simp only at h ⊢
  generalize ha : rCount bs p bad 15 = a at h ⊢
  generalize hb : rCount bs a.2.1 a.2.2 4611686018427387904 = b at h ⊢
  generalize hc : rCount bs b.2.1 b.2.2 4611686018427387904 = c at h ⊢
  generalize hd : rCount bs c.2.1 c.2.2 11 = d at h ⊢
  generalize he : rText bs d.2.1 d.2.2 8 = e at h ⊢
  generalize hf : rCount bs e.2.1 e.2.2 99999999 = f at h ⊢
  have f0 : (rCount bs e.2.1 e.2.2 99999999).2.2 = false := by rw [hf]; exact h
  obtain ⟨f1, f2⟩ := o_of_count (hi := 99999999) f0
  have f2 : oNum bs e.2.1 99999999 = some (f.1, f.2.1) := by rw [← hf]; exact f2
  have e0 : (rText bs d.2.1 d.2.2 8).2.2 = false := by rw [he]; exact f1
  obtain ⟨e1, e2⟩ := o_of_text e0
  have e2 : oTxt bs d.2.1 = some (e.1, e.2.1) := by rw [← he]; exact e2
  have d0 : (rCount bs c.2.1 c.2.2 11).2.2 = false := by rw [hd]; exact e1
  obtain ⟨d1, d2⟩ := o_of_count (hi := 11) d0
  have d2 : oNum bs c.2.1 11 = some (d.1, d.2.1) := by rw [← hd]; exact d2
  have c0 : (rCount bs b.2.1 b.2.2 4611686018427387904).2.2 = false := by rw [hc]; exact d1
  obtain ⟨c1, c2⟩ := o_of_count (hi := 4611686018427387904) c0
  have c2 : oNum bs b.2.1 4611686018427387904 = some (c.1, c.2.1) := by rw [← hc]; exact c2
  have b0 : (rCount bs a.2.1 a.2.2 4611686018427387904).2.2 = false := by rw [hb]; exact c1
  obtain ⟨b1, b2⟩ := o_of_count (hi := 4611686018427387904) b0
  have b2 : oNum bs a.2.1 4611686018427387904 = some (b.1, b.2.1) := by rw [← hb]; exact b2
  have a0 : (rCount bs p bad 15).2.2 = false := by rw [ha]; exact b1
  obtain ⟨a1, a2⟩ := o_of_count (hi := 15) a0
  have a2 : oNum bs p 15 = some (a.1, a.2.1) := by rw [← ha]; exact a2
  refine ⟨a1, ?_⟩
  unfold oSes
  rw [a2]
  simp only [Option.bind_some]
  rw [b2]
  simp only [Option.bind_some]
  rw [c2]
  simp only [Option.bind_some]
  rw [d2]
  simp only [Option.bind_some]
  rw [e2]
  simp only [Option.bind_some]
  rw [f2]
  rfl
theorem rdSes_of {bs : Txt} (p : Nat) (x : Nat × SesD) (p' : Nat) (h : oSes bs p = some (x, p')) : rdSes bs p false = (x, p', false) := by
  unfold oSes at h
  obtain ⟨⟨q, q1⟩, h1, h⟩ := some_bind h
  obtain ⟨⟨i, q2⟩, h2, h⟩ := some_bind h
  obtain ⟨⟨r, q3⟩, h3, h⟩ := some_bind h
  obtain ⟨⟨c, q4⟩, h4, h⟩ := some_bind h
  obtain ⟨⟨v, q5⟩, h5, h⟩ := some_bind h
  obtain ⟨⟨n, q6⟩, h6, h⟩ := some_bind h
  injection h with h
  injection h with e1 e2
  simp only at h2 h3 h4 h5 h6 e1 e2
  have a1 : rCount bs p false 15 = (q, q1, false) := count_of_o h1
  have a2 : rCount bs q1 false 4611686018427387904 = (i, q2, false) := count_of_o h2
  have a3 : rCount bs q2 false 4611686018427387904 = (r, q3, false) := count_of_o h3
  have a4 : rCount bs q3 false 11 = (c, q4, false) := count_of_o h4
  have a5 := text_of_o h5
  have a6 : rCount bs q5 false 99999999 = (n, q6, false) := count_of_o h6
  unfold rdSes
  rw [a1]
  simp only
  rw [a2]
  simp only
  rw [a3]
  simp only
  rw [a4]
  simp only
  rw [a5]
  simp only
  rw [a6, ← e1, ← e2]

/-! ### what is looked at from one to the next -/
theorem rise_two {a b : Txt} {l : List Txt} : Rise (a :: b :: l) ↔ bytesBefore a b = true ∧ Rise (b :: l) := by
  unfold Rise
  rw [List.pairwise_cons]
  constructor
  · exact fun h => ⟨h.1 b (by simp), h.2⟩
  · rintro ⟨h1, h2⟩
    refine ⟨fun c hc => ?_, h2⟩
    rcases List.mem_cons.1 hc with rfl | hc
    · exact h1
    · exact before_trans h1 ((List.pairwise_cons.1 h2).1 c hc)
theorem before_nil {a : Txt} : bytesBefore [] a = true ↔ a ≠ [] := by
  cases a with
  | nil => simp [bytesBefore]
  | cons x r => simp [bytesBefore]
theorem rise_nil {l : List Txt} : Rise ([] :: l) ↔ (∀ a ∈ l, a ≠ []) ∧ Rise l := by
  unfold Rise
  rw [List.pairwise_cons]
  constructor
  · exact fun h => ⟨fun a ha => before_nil.1 (h.1 a ha), h.2⟩
  · exact fun h => ⟨fun a ha => before_nil.2 (h.1 a ha), h.2⟩
theorem pchk_iff : ∀ (l : List (Txt × Txt)) (last : Txt), chkAll pchk pnxt last l ↔ Rise (last :: l.map Prod.fst)
  | [], last => by simp [chkAll, Rise]
  | x :: r, last => by
    rw [chkAll, pchk_iff r, List.map_cons, rise_two]
    rfl
theorem lchk_iff : ∀ (l : List LockD) (last : Txt) (seen : List Int), chkAll lchk lnxt (last, seen) l ↔ Rise (last :: l.map LockD.name) ∧ (∀ x ∈ l, x.token ≠ 0 ∧ x.token ∉ seen) ∧ l.Pairwise fun a b => a.token ≠ b.token
  | [], last, seen => by simp [chkAll, Rise]
  | x :: r, last, seen => by
    rw [chkAll, show lnxt (last, seen) x = (x.name, x.token :: seen) from rfl, lchk_iff r, List.map_cons, rise_two, List.pairwise_cons]
    have e : lchk (last, seen) x = true ↔ bytesBefore last x.name = true ∧ x.token ≠ 0 ∧ x.token ∉ seen := by
      unfold lchk
      simp [Bool.and_eq_true, and_assoc]
    rw [e]
    constructor
    · rintro ⟨⟨h1, h2, h3⟩, h4, h5, h6⟩
      refine ⟨⟨h1, h4⟩, fun y hy => ?_, fun y hy he => ?_, h6⟩
      · rcases List.mem_cons.1 hy with rfl | hy
        · exact ⟨h2, h3⟩
        · exact ⟨(h5 y hy).1, fun h => (h5 y hy).2 (by simp [h])⟩
      · exact (h5 y hy).2 (by simp [he])
    · rintro ⟨⟨h1, h4⟩, h5, h6, h7⟩
      refine ⟨⟨h1, h5 x (by simp)⟩, h4, fun y hy => ⟨(h5 y (by simp [hy])).1, fun h => ?_⟩, h7⟩
      rcases List.mem_cons.1 h with h | h
      · exact h6 y hy h.symm
      · exact (h5 y (by simp [hy])).2 h
theorem schk_iff : ∀ (l : List (Nat × SesD)) (last : Int), chkAll schk snxt last l ↔ (∀ x ∈ l, last < (x.1 : Int)) ∧ (l.Pairwise fun a b => a.1 < b.1) ∧ ∀ x ∈ l, x.2.inc ≠ 0 ∧ x.2.req ≠ 0 ∧ x.2.last.code ≠ 0 ∧ x.2.last.code ≠ 10
  | [], last => by simp [chkAll]
  | x :: r, last => by
    rw [chkAll, show snxt last x = (x.1 : Int) from rfl, schk_iff r, List.pairwise_cons]
    have e : schk last x = true ↔ last < (x.1 : Int) ∧ x.2.inc ≠ 0 ∧ x.2.req ≠ 0 ∧ x.2.last.code ≠ 0 ∧ x.2.last.code ≠ 10 := by
      unfold schk
      simp [Bool.and_eq_true, and_assoc]
    rw [e]
    constructor
    · rintro ⟨⟨h1, h2⟩, h4, h5, h6⟩
      refine ⟨fun y hy => ?_, ⟨fun y hy => by have := h4 y hy; omega, h5⟩, fun y hy => ?_⟩
      · rcases List.mem_cons.1 hy with rfl | hy
        · exact h1
        · have := h4 y hy; omega
      · rcases List.mem_cons.1 hy with rfl | hy
        · exact h2
        · exact h6 y hy
    · rintro ⟨h1, ⟨h2, h3⟩, h4⟩
      exact ⟨⟨h1 x (by simp), h4 x (by simp)⟩, fun y hy => by have := h2 y hy; omega, h3, fun y hy => h4 y (by simp [hy])⟩

/-! ### all of it -/
/-- What Restore reads: the count of tokens, the pairs, the locks, the sessions. -/
abbrev rsT (bs : Txt) : Nat × Nat × Bool := rCount bs 3 false 99999999
abbrev rsP (bs : Txt) : List (Txt × Txt) × Nat × Bool := rPairs bs (rsT bs).2.1 (rsT bs).2.2
abbrev rsL (bs : Txt) : List LockD × Nat × Bool := rLocks bs ((rsT bs).1 : Int) (rsP bs).2.1 (rsP bs).2.2
abbrev rsS (bs : Txt) : List (Nat × SesD) × Nat × Bool := rSess1 bs (rsL bs).2.1 (rsL bs).2.2
def rsSs (bs : Txt) : List SesD := ssPut (rsS bs).1 (List.replicate 16 noSes)
def rsGood (bs : Txt) : Prop := (rsS bs).2.2 = false ∧ sesMiss (rsL bs).1 (rsSs bs) = false ∧ (rsS bs).2.1 = bs.length
def rsRaw (bs : Txt) : RawD := ⟨(rsT bs).1, (rsP bs).1, (rsL bs).1, (rsS bs).1⟩
theorem chk_sess {r : RawD} (hr : RRead r) (hs : r.sess.Pairwise fun a b => a.1 < b.1) (h0 : ∀ x ∈ r.sess, x.2.inc ≠ 0) : sesMiss r.locks (ssPut r.sess (List.replicate 16 noSes)) = false ↔ ∀ c, who r.locks c → 0 < (sesAt r.sess c.toNat).inc := by
  have hget : ∀ c, who r.locks c → (ssPut r.sess (List.replicate 16 noSes)).getD c.toNat noSes = sesAt r.sess c.toNat := fun c hc => by
    have hc16 : c.toNat < 16 := by
      obtain ⟨l, hl, hh⟩ := hc
      have hk := hr.l l hl
      rcases hh with rfl | hh
      · have := hk.h0; have := hk.h1; omega
      · have := hk.q c hh; omega
    rw [ssPut_all hs]
    simp [List.getD, hc16]
  have hpos : ∀ q, 0 ≤ (sesAt r.sess q).inc := fun q => by
    by_cases hq : ∃ y ∈ r.sess, y.1 = q
    · obtain ⟨y, hy, rfl⟩ := hq
      rw [sesAt_of hs hy]
      exact (hr.s y hy).i0
    · rw [sesAt_none fun y hy e => hq ⟨y, hy, e⟩]
      decide
  unfold sesMiss
  rw [List.any_eq_false]
  constructor
  · intro h c hc
    have hg := hget c hc
    obtain ⟨l, hl, hh⟩ := hc
    have h1 := h l hl
    rw [Bool.not_eq_true, List.any_eq_false] at h1
    have h2 := h1 c (by rcases hh with rfl | hh <;> simp [*])
    rw [hg] at h2
    have h3 := hpos c.toNat
    have h4 : ¬ (sesAt r.sess c.toNat).inc = 0 := by simpa using h2
    omega
  · intro h l hl
    rw [Bool.not_eq_true, List.any_eq_false]
    intro c hc
    have hw : who r.locks c := ⟨l, hl, by simpa using hc⟩
    have h1 := h c hw
    rw [hget c hw]
    simp
    omega
theorem good_raw {bs : Txt} (h : rsGood bs) : oRaw bs 3 = some (rsRaw bs, bs.length) ∧ RawOk (rsRaw bs) ∧ toSt (rsRaw bs) = ⟨(rsP bs).1, (rsL bs).1, ((rsT bs).1 : Int), rsSs bs⟩ := by
  obtain ⟨h1, h2, h3⟩ := h
  obtain ⟨s1, s2, s3⟩ := runF_ok (one := oSes bs) rdSes_ok _ _ _ _ h1
  obtain ⟨t1, t2⟩ := o_of_count (hi := 16) s1
  have htok : (rsT bs).1 ≤ 99999999 := by
    have := rCount_most bs 3 false (most := 99999999) (by omega)
    show (rCount bs 3 false 99999999).1 ≤ 99999999
    omega
  obtain ⟨l1, l2, l3⟩ := runF_ok (one := oLockT bs (rsT bs).1) (rdLock_ok htok) _ _ _ _ t1
  obtain ⟨u1, u2⟩ := o_of_count (hi := 8) l1
  obtain ⟨p1, p2, p3⟩ := runF_ok (one := oPair bs) rdPair_ok _ _ _ _ u1
  obtain ⟨v1, v2⟩ := o_of_count (hi := 16) p1
  obtain ⟨w1, w2⟩ := o_of_count (hi := 99999999) v1
  obtain ⟨l4, l5⟩ := (oMany_guard (P := lckOk (rsT bs).1) _ _ _ _).1 l2
  have hraw : oRaw bs 3 = some (rsRaw bs, bs.length) := by
    unfold oRaw
    rw [show oNum bs 3 99999999 = some ((rsT bs).1, (rsT bs).2.1) from w2]
    simp only [Option.bind_some]
    rw [show oNum bs (rsT bs).2.1 16 = some ((rCount bs (rsT bs).2.1 (rsT bs).2.2 16).1, (rCount bs (rsT bs).2.1 (rsT bs).2.2 16).2.1) from v2]
    simp only [Option.bind_some]
    rw [show oMany (oPair bs) _ _ = some ((rsP bs).1, (rsP bs).2.1) from p2]
    simp only [Option.bind_some]
    rw [show oNum bs (rsP bs).2.1 8 = some ((rCount bs (rsP bs).2.1 (rsP bs).2.2 8).1, (rCount bs (rsP bs).2.1 (rsP bs).2.2 8).2.1) from u2]
    simp only [Option.bind_some]
    rw [show oMany (oLock bs) _ _ = some ((rsL bs).1, (rsL bs).2.1) from l4]
    simp only [Option.bind_some]
    rw [show oNum bs (rsL bs).2.1 16 = some ((rCount bs (rsL bs).2.1 (rsL bs).2.2 16).1, (rCount bs (rsL bs).2.1 (rsL bs).2.2 16).2.1) from t2]
    simp only [Option.bind_some]
    rw [show oMany (oSes bs) _ _ = some ((rsS bs).1, (rsS bs).2.1) from s2]
    simp only [Option.bind_some]
    rw [h3]
    rfl
  obtain ⟨-, -, hr⟩ := oRaw_inv hraw
  obtain ⟨a1, a2⟩ := rise_nil.1 ((pchk_iff _ _).1 p3)
  obtain ⟨b0, b3, b4⟩ := (lchk_iff _ _ _).1 l3
  obtain ⟨b1, b2⟩ := rise_nil.1 b0
  obtain ⟨-, c2, c3⟩ := (schk_iff _ _).1 s3
  refine ⟨hraw, ⟨fun p hp => a1 _ (List.mem_map.2 ⟨p, hp, rfl⟩), a2, fun l hl => b1 _ (List.mem_map.2 ⟨l, hl, rfl⟩), b2, fun l hl => ⟨?_, (l5 l hl).1⟩, b4, fun l hl => (l5 l hl).2, c2, fun x hx => ?_, ?_⟩, ?_⟩
  · have e1 := (b3 l hl).1
    have e2 := (hr.l l hl).t0
    omega
  · obtain ⟨e1, e2, e3, e4⟩ := c3 x hx
    have e5 := hr.s x hx
    have := e5.i0; have := e5.r0; have := e5.c0
    exact ⟨by omega, by omega, by omega, e4⟩
  · exact (chk_sess hr c2 fun x hx => (c3 x hx).1).1 h2
  · unfold toSt rsSs
    rw [ssPut_all c2]
    rfl
theorem raw_good {bs : Txt} {r : RawD} (h : oRaw bs 3 = some (r, bs.length)) (ho : RawOk r) : rsGood bs := by
  obtain ⟨-, -, hr⟩ := oRaw_inv h
  unfold oRaw at h
  obtain ⟨⟨t, q1⟩, h1, h⟩ := some_bind h
  obtain ⟨⟨a, q2⟩, h2, h⟩ := some_bind h
  obtain ⟨⟨ps, q3⟩, h3, h⟩ := some_bind h
  obtain ⟨⟨b, q4⟩, h4, h⟩ := some_bind h
  obtain ⟨⟨ls, q5⟩, h5, h⟩ := some_bind h
  obtain ⟨⟨c, q6⟩, h6, h⟩ := some_bind h
  obtain ⟨⟨ss, q7⟩, h7, h⟩ := some_bind h
  injection h with h
  injection h with e1 e2
  subst e1
  simp only at h2 h3 h4 h5 h6 h7 e2
  subst e2
  have eT : rsT bs = (t, q1, false) := count_of_o h1
  have e16 : rCount bs q1 false 16 = (a, q2, false) := count_of_o h2
  have eP : rsP bs = (ps, q3, false) := by
    unfold rsP rPairs
    rw [eT]
    simp only
    rw [e16]
    simp only
    refine runF_of rdPair_of _ _ _ _ _ h3 ((pchk_iff _ _).2 (rise_nil.2 ⟨fun x hx => ?_, ho.pr⟩))
    obtain ⟨p, hp, rfl⟩ := List.mem_map.1 hx
    exact ho.pn p hp
  have e8 : rCount bs q3 false 8 = (b, q4, false) := count_of_o h4
  have eL : rsL bs = (ls, q5, false) := by
    unfold rsL rLocks
    rw [eT, eP]
    simp only
    rw [e8]
    simp only
    refine runF_of rdLock_of _ _ _ _ _ ((oMany_guard (P := lckOk t) _ _ _ _).2 ⟨h5, fun l hl => ⟨(ho.lt l hl).2, ho.lq l hl⟩⟩) ((lchk_iff _ _ _).2 ⟨rise_nil.2 ⟨fun x hx => ?_, ho.lr⟩, fun l hl => ⟨?_, by simp⟩, ho.la⟩)
    · obtain ⟨p, hp, rfl⟩ := List.mem_map.1 hx
      exact ho.ln p hp
    · have := (ho.lt l hl).1
      omega
  have f16 : rCount bs q5 false 16 = (c, q6, false) := count_of_o h6
  have eS : rsS bs = (ss, bs.length, false) := by
    unfold rsS rSess1
    rw [eL]
    simp only
    rw [f16]
    simp only
    refine runF_of rdSes_of _ _ _ _ _ h7 ((schk_iff _ _).2 ⟨fun x hx => by omega, ho.sr, fun x hx => ?_⟩)
    obtain ⟨g1, g2, g3, g4⟩ := ho.s1 x hx
    exact ⟨by omega, by omega, by omega, g4⟩
  refine ⟨by rw [eS], ?_, by rw [eS]⟩
  unfold rsSs
  rw [eS, eL]
  exact (chk_sess hr ho.sr fun x hx => by have := (ho.s1 x hx).1; omega).2 ho.link
/-- Restore succeeds with just the machine that the text tells. -/
theorem restored_good {b : Txt} (hs : sealedB b) (h : rsGood (b.take (b.length - 4))) : Restored b ⟨(rsP (b.take (b.length - 4))).1, (rsL (b.take (b.length - 4))).1, ((rsT (b.take (b.length - 4))).1 : Int), rsSs (b.take (b.length - 4))⟩ := by
  obtain ⟨h1, h2, h3⟩ := good_raw h
  have hl : (b.take (b.length - 4)).length = b.length - 4 := by rw [List.length_take]; omega
  rw [hl] at h1
  exact ⟨hs, _, h1, h2, h3.symm⟩
theorem good_restored {b : Txt} {s : StD} (h : Restored b s) : sealedB b ∧ rsGood (b.take (b.length - 4)) := by
  obtain ⟨hs, r, h1, h2, -⟩ := h
  have hl : (b.take (b.length - 4)).length = b.length - 4 := by rw [List.length_take]; omega
  exact ⟨hs, raw_good (by rw [hl]; exact h1) h2⟩
end Go.Proofs.YtggibajakcigaaaGreatDoor
