/-
  WALKS OF machine's writer: 'counts' and 'texts' put numbers and texts behind what has been written.
-/
import Derived.Test.YtkgbhanpenpkmaaDoorPut
import Derived.Lib.AppendStr
namespace Go.Proofs.YtkgbhanpenpkmaaDoor
set_option linter.unusedVariables false
set_option linter.unusedSimpArgs false
open Go.RowKit
/-- Block g is a writer that holds the bytes bs, in a row of the call's own, from block B on. -/
def Wr (w : World) (B g : Nat) (v : Value) (bs : List UInt8) : Prop := Blk w g 62 #[v] ∧ w.ownsRow B 5 1 v bs.length (Lib.byteCells bs)

set_option maxHeartbeats 400000 in
theorem counts_any (B g : Nat) (v : Value) (bs : List UInt8) (Z : Nat → Prop) (A : Option Addr) (m c : Nat) (xs : List Int) (w : World) (hw : Wr w B g v bs) (hx : okInts xs) (hl : Rd w Z 1 A m (ics xs)) (hz : ∀ k, Z k → k ≠ g ∧ v.ownBlock ≠ some k ∧ k < w.heap.size) (hB : B ≤ w.heap.size) (hn : bs.length + 9 * m ≤ 1099511627770) :
    Calls Tryd.prog 26 #[.pointer (some ⟨g, 0, none⟩), .slice A m c] w fun e w' => e = .returned (.tuple #[]) ∧ ∃ v', Wr w' B g v' (bs ++ encs xs) ∧ Keep (fun k => k ≠ g ∧ v.ownBlock ≠ some k) w w' ∧ Next w.heap.size v v' := by
  have hlen : xs.length = m := by simpa [ics] using hl.1
  subst hlen
  have HA := Lib.hid (And.intro hw (And.intro hx (And.intro hl hz)))
  clear hw hx hl hz
  go_enter Tryd.func26, Tryd.ntmps26
  go_wp2
  go_loopw [8] (fun i wr => ∃ (k : Nat) (vr : Value) (cs : List UInt8), k ≤ xs.length ∧ i = .int .i64 (k : Int) ∧ Hid (cs = bs ++ encs (xs.take k) ∧ Wr wr B g vr cs ∧ Keep (fun k => k ≠ g ∧ v.ownBlock ≠ some k) w wr ∧ Next w.heap.size v vr)) (fun i _ => xs.length - (intOf i).toNat)
  case atStart => exact ⟨0, v, bs, Nat.zero_le _, rfl, by simp [encs], HA.out.1, Keep.refl _ _, Next.refl _ _⟩
  case round =>
    obtain ⟨k, vr, cs, hk, rfl, HW⟩ := hrel
    by_cases hlt : k < xs.length
    · obtain ⟨hw0, hx, hl, hz⟩ := HA.out
      obtain ⟨hcs, ⟨hblk, hown⟩, hkk, hnn⟩ := HW.out
      have hlr := hl.keep (hkk.weaken (fun i _ hi => ⟨(hz i hi).1, (hz i hi).2.1⟩))
      obtain ⟨b, o, rfl, hzb, hll, hcell⟩ := hlr.at1 hlt
      have hxk := hx xs[k] (List.getElem_mem hlt)
      rw [show (ics xs)[k] = .int .i64 xs[k] by simp [ics]] at hcell
      have hvc := hblk.cell 0
      have hfr := hblk.frozen 0
      simp at hvc
      have hgl := hblk.lt
      have hbl := encs_take_len xs k hx
      have hln : cs.length ≤ 1099511627770 := by rw [hcs, List.length_append]; omega
      have hcs' : cs ++ putB xs[k].toNat = bs ++ encs (xs.take (k + 1)) := by rw [hcs, encs_take _ _ hlt, List.append_assoc]
      obtain ⟨A', c', rfl, hrd, _⟩ := own_rd hown
      have HX := Lib.hid (And.intro hxk (And.intro hown (And.intro hblk (And.intro hrd (And.intro hkk (And.intro hnn (And.intro hcs' hln)))))))
      clear hxk hown hblk hrd hl hlr hz hzb hll hbl hw0 hkk hnn hx HW hcs hcs' hln
      go_wp2_with fail
      refine (PutInt_any _ A' cs.length c' cs xs[k] _ HX.out.1.1 HX.out.1.2 HX.out.2.2.2.1 HX.out.2.2.2.2.2.2.2).mono ?_
      rintro e w1 ⟨g1, c1, rfl, ho1, hk1, hg1⟩
      obtain ⟨v1, hv1⟩ : ∃ v1, v1 = Value.slice (some ⟨g1, 0, none⟩) (cs.length + (putB xs[k].toNat).length) c1 := ⟨_, rfl⟩
      obtain ⟨-, hown, hblk, -, hkk, hnn, hcs', -⟩ := HX.out
      have hblk1 := hblk.keep hk1 trivial
      have hc1 := hblk1.cell 0
      have hf1 := hblk1.frozen 0
      simp at hc1
      rw [← hv1] at ho1
      have hw1 : Wr (w1.setCell ⟨g, 0, none⟩ v1) B g v1 (bs ++ encs (xs.take (k + 1))) := by
        refine ⟨by simpa using hblk1.set 0 v1, ?_⟩
        rw [← hcs', List.length_append]
        refine own_far (own_base ho1 (Nat.le_trans hB hkk.size)) ?_ v1
        rw [hv1]
        simp [Value.ownBlock]
        omega
      have hkk1 : Keep (fun k => k ≠ g ∧ v.ownBlock ≠ some k) w (w1.setCell ⟨g, 0, none⟩ v1) := (hkk.comp hk1 (fun _ _ h => h) (fun _ _ _ => trivial)).setCell (fun _ h => h.1 rfl) v1
      have hnn1 : Next w.heap.size v v1 := by
        exact .inr ⟨g1, by rw [hv1]; rfl, by have := hkk.size; omega⟩
      have HY := Lib.hid (And.intro hw1 (And.intro hkk1 hnn1))
      subst hv1
      clear hw1 hkk1 hnn1 ho1 hk1 hg1 hown hblk hblk1 hkk hnn hcs' HX
      go_wp2
      exact ⟨⟨k + 1, _, _, by omega, congrArg _ (by omega), rfl, HY.out⟩, by simp [intOf]; omega⟩
    · go_wp2
      go_end0
      obtain rfl : k = xs.length := by omega
      obtain ⟨hcs, h1, h2⟩ := HW.out
      rw [List.take_length] at hcs
      subst hcs
      exact ⟨rfl, vr, h1, h2⟩

/-- A text as it is written: its length, its bytes. -/
def txt (s : List UInt8) : List UInt8 := putB s.length ++ s
def scs (ss : List ByteArray) : List Value := ss.map Value.string
def txts (ss : List ByteArray) : List UInt8 := ss.flatMap fun s => txt s.data.toList
def okTxts (ss : List ByteArray) : Prop := ∀ s ∈ ss, s.size ≤ 1048576
theorem txts_take (ss : List ByteArray) (k : Nat) (h : k < ss.length) : txts (ss.take (k + 1)) = txts (ss.take k) ++ txt ss[k].data.toList := by
  rw [List.take_succ_eq_append_getElem h, txts, List.flatMap_append]
  simp [txts]
theorem txt_len (s : ByteArray) (h : s.size ≤ 1048576) : (txt s.data.toList).length ≤ 1048585 := by
  have h1 : s.data.toList.length = s.size := Array.length_toList
  have h2 := putB_len9 (v := s.size) (by omega)
  simp only [txt, List.length_append, h1]
  omega
theorem txts_len (ss : List ByteArray) (h : okTxts ss) : (txts ss).length ≤ 1048585 * ss.length := by
  induction ss with
  | nil => simp [txts]
  | cons s ss ih =>
    have h1 := txt_len s (h s (by simp))
    have h2 := ih (fun y hy => h y (by simp [hy]))
    have e : txts (s :: ss) = txt s.data.toList ++ txts ss := rfl
    rw [e, List.length_append, List.length_cons]
    omega
theorem txts_take_len (ss : List ByteArray) (k : Nat) (h : okTxts ss) : (txts (ss.take k)).length ≤ 1048585 * ss.length := by
  have h1 := txts_len (ss.take k) (fun y hy => h y (List.mem_of_mem_take hy))
  have h2 : (ss.take k).length ≤ ss.length := List.length_take_le' _ _
  omega

set_option maxHeartbeats 400000 in
theorem texts_any (B g : Nat) (v : Value) (bs : List UInt8) (Z : Nat → Prop) (A : Option Addr) (m c : Nat) (ss : List ByteArray) (w : World) (hw : Wr w B g v bs) (hx : okTxts ss) (hl : Rd w Z 1 A m (scs ss)) (hz : ∀ k, Z k → k ≠ g ∧ v.ownBlock ≠ some k ∧ k < w.heap.size) (hB : B ≤ w.heap.size) (hn : bs.length + 1048585 * m ≤ 1099510000000) :
    Calls Tryd.prog 27 #[.pointer (some ⟨g, 0, none⟩), .slice A m c] w fun e w' => e = .returned (.tuple #[]) ∧ ∃ v', Wr w' B g v' (bs ++ txts ss) ∧ Keep (fun k => k ≠ g ∧ v.ownBlock ≠ some k) w w' ∧ Next w.heap.size v v' := by
  have hlen : ss.length = m := by simpa [scs] using hl.1
  subst hlen
  have HA := Lib.hid (And.intro hw (And.intro hx (And.intro hl hz)))
  clear hw hx hl hz
  go_enter Tryd.func27, Tryd.ntmps27
  go_wp2
  go_loopw [8] (fun i wr => ∃ (k : Nat) (vr : Value) (cs : List UInt8), k ≤ ss.length ∧ i = .int .i64 (k : Int) ∧ Hid (cs = bs ++ txts (ss.take k) ∧ Wr wr B g vr cs ∧ Keep (fun k => k ≠ g ∧ v.ownBlock ≠ some k) w wr ∧ Next w.heap.size v vr)) (fun i _ => ss.length - (intOf i).toNat)
  case atStart => exact ⟨0, v, bs, Nat.zero_le _, rfl, by simp [txts], HA.out.1, Keep.refl _ _, Next.refl _ _⟩
  case round =>
    obtain ⟨k, vr, cs, hk, rfl, HW⟩ := hrel
    by_cases hlt : k < ss.length
    · obtain ⟨hw0, hx, hl, hz⟩ := HA.out
      obtain ⟨hcs, hwr, hkk, hnn⟩ := HW.out
      have hlr := hl.keep (hkk.weaken (fun i _ hi => ⟨(hz i hi).1, (hz i hi).2.1⟩))
      obtain ⟨b, o, rfl, hzb, hll, hcell⟩ := hlr.at1 hlt
      have hxk := hx ss[k] (List.getElem_mem hlt)
      rw [show (scs ss)[k] = .string ss[k] by simp [scs]] at hcell
      have hbl := txts_take_len ss k hx
      have hln : cs.length ≤ 1099510000000 := by rw [hcs, List.length_append]; omega
      have hcs' : cs ++ txt ss[k].data.toList = bs ++ txts (ss.take (k + 1)) := by rw [hcs, txts_take _ _ hlt, List.append_assoc]
      have hi64 : (0 : Int) ≤ (ss[k].size : Int) ∧ (ss[k].size : Int) ≤ 4611686018427387904 := by omega
      have HX := Lib.hid (And.intro hxk (And.intro hwr (And.intro hkk (And.intro hnn (And.intro hcs' (And.intro hln hi64))))))
      clear hxk hwr hl hlr hz hzb hll hbl hw0 hkk hnn hx HW hcs hcs' hln hi64
      go_wp2_with fail
      obtain ⟨hxk, hwr, hkk, hnn, hcs', hln, hi64⟩ := HX.out
      have hgl := hwr.1.lt
      have hne1 : vr.ownBlock ≠ some wr.heap.size := fun h => by have := (own_lt hwr.2 h).2; omega
      have hwr1 : Wr (wr.alloc (.cells #[.int .i64 (ss[k].size : Int)] 3)) B g vr cs := ⟨hwr.1.alloc _, hwr.2.alloc _⟩
      refine (counts_any B g vr cs (fun i => i = wr.heap.size) _ 1 1 [(ss[k].size : Int)] _ hwr1 (by simpa [okInts] using hi64) (Rd.own1 _ _ _) (fun i hi => ⟨by omega, by rw [hi]; exact hne1, by simp; omega⟩) (by have := hkk.size; simp; omega) (by omega)).mono ?_
      obtain ⟨ds, hds⟩ : ∃ ds, ds = cs ++ encs [(ss[k].size : Int)] := ⟨_, rfl⟩
      rw [← hds]
      rintro e w1 ⟨rfl, v1, ⟨hb1, ho1⟩, hk1, hn1⟩
      have hk1' : Keep (fun k => k ≠ g ∧ vr.ownBlock ≠ some k) wr w1 := ((Keep.refl _ wr).alloc _).comp hk1 (fun _ _ h => h) (fun _ _ h => h)
      have hkk1 : Keep (fun k => k ≠ g ∧ v.ownBlock ≠ some k) w w1 := hkk.comp hk1' (fun _ _ h => h) (fun i hi h => ⟨h.1, fun e => by
        rcases hnn with hnn | ⟨g', hg', hl'⟩
        · exact h.2 (hnn.symm.trans e)
        · rw [hg'] at e; injection e with e; omega⟩)
      have hn1' : Next w.heap.size v v1 := hnn.trans hn1 (by have := hkk.size; simp; omega)
      have hne2 := own_ne_blk ho1 hb1 (by decide)
      obtain ⟨A1, c1, rfl, _, _⟩ := own_rd ho1
      have hc1 := hb1.cell 0
      have hf1 := hb1.frozen 0
      have hg1 := hb1.lt
      simp at hc1
      have HY := Lib.hid (And.intro hkk1 (And.intro hn1' (And.intro hb1 (And.intro ho1 hne2))))
      have hsz : (txt ss[k].data.toList).length ≤ 1048585 := txt_len _ hxk
      have htx : encs [(ss[k].size : Int)] ++ ss[k].data.toList = txt ss[k].data.toList := by
        simp only [encs, txt, List.flatMap_cons, List.flatMap_nil, List.append_nil, Int.toNat_natCast]
        rfl
      have hencl : (encs [(ss[k].size : Int)]).length ≤ 9 := encs_len [(ss[k].size : Int)] (by simpa [okInts] using hi64)
      have hdl : ds.length ≤ 1099510000009 := by rw [hds, List.length_append]; omega
      have hsum : ds.length + ss[k].size ≤ 140737488355328 := by omega
      have hfin : ds ++ ss[k].data.toList = bs ++ txts (ss.take (k + 1)) := by rw [hds, List.append_assoc, htx, hcs']
      have HZ := Lib.hid (And.intro hsum hfin)
      have HB2 : Hid (B ≤ w1.heap.size) := Nat.le_trans hB hkk1.size
      clear hxk hwr hkk hnn hcs' hln hi64 hgl hne1 hwr1 hk1 hn1 hk1' hkk1 hn1' hb1 ho1 hne2 hsz htx hencl hdl hsum hfin hds HX
      go_wp2_with (at_builtin; refine wpList_app_str etU8 Tryd.underlying9 rfl (.tmp 21) (.tmp 22) rfl B _ _ _ rfl HY.out.2.2.2.1 _ rfl HZ.out.1 HB2 ?_)
      intro v2 w2 ho2 hk2 hn2
      obtain ⟨hkk1, hn1', hb1, ho1, hne2⟩ := HY.out
      obtain ⟨A2, c2, rfl, _, _⟩ := own_rd ho2
      have hb2 := hb1.keep hk2 hne2
      have hc2 := hb2.cell 0
      have hf2 := hb2.frozen 0
      simp at hc2
      have hne3 := own_ne_blk ho2 hb2 (by decide)
      have hw2 : Wr (w2.setCell ⟨g, 0, none⟩ (.slice A2 (ds.length + ss[k].size) c2)) B g (.slice A2 (ds.length + ss[k].size) c2) (bs ++ txts (ss.take (k + 1))) := by
        refine ⟨by simpa using hb2.set 0 _, ?_⟩
        have e1 : ds ++ ss[k].data.toList = bs ++ txts (ss.take (k + 1)) := HZ.out.2
        have e2 : (bs ++ txts (ss.take (k + 1))).length = ds.length + ss[k].size := by rw [← e1, List.length_append]; rfl
        rw [e2, ← e1, Lib.byteCells_append]
        exact own_far ho2 hne3 _
      have hkk2 : Keep (fun k => k ≠ g ∧ v.ownBlock ≠ some k) w (w2.setCell ⟨g, 0, none⟩ (.slice A2 (ds.length + ss[k].size) c2)) :=
        (hkk1.comp hk2 (fun _ _ h => h) (fun i hi h e => by
          rcases hn1' with hnn | ⟨g', hg', hl'⟩
          · exact h.2 (hnn.symm.trans e)
          · rw [hg'] at e; injection e with e; omega)).setCell (fun _ h => h.1 rfl) _
      have hnn2 := hn1'.trans hn2 hkk1.size
      have HW := Lib.hid (And.intro hw2 (And.intro hkk2 hnn2))
      clear hkk1 hn1' hb1 ho1 hne2 hb2 hne3 hw2 hkk2 hnn2 hk2 hn2 ho2 HY HZ HB2
      go_wp2
      exact ⟨⟨k + 1, _, _, by omega, congrArg _ (by omega), rfl, HW.out⟩, by simp [intOf]; omega⟩
    · go_wp2
      go_end0
      obtain rfl : k = ss.length := by omega
      obtain ⟨hcs, h1, h2⟩ := HW.out
      rw [List.take_length] at hcs
      subst hcs
      exact ⟨rfl, vr, h1, h2⟩
end Go.Proofs.YtkgbhanpenpkmaaDoor
