/-
  MERGED: SameMark SameMarks Kept
-/
import Derived.Test.YtohnmaindbgngaaGreatDoorQI
import Derived.Test.YtohnmaindbgngaaGreatDoorQS
import Derived.Test.YtohnmaindbgngaaGreatDoorL2
namespace Go.Proofs.YtohnmaindbgngaaGreatDoor
set_option linter.unusedVariables false
set_option linter.unusedSimpArgs false
open Go.RowKit

theorem blk_second (w : World) (t : TypeId) (cx cy : Array Value) : Blk ((w.alloc (.cells cx t)).alloc (.cells cy t)) (w.heap.size + 1) t cy := by
  have h := Blk.new (w.alloc (.cells cx t)) t cy
  rw [World.size_alloc] at h
  exact h
set_option maxRecDepth 20000 in
set_option maxHeartbeats 2000000 in
theorem samemark_flat (Z1 Z2 : Nat → Prop) (at_ kind node inc e1 e2 e3 e4 sender seq pos n cc ci cr co rc rn err : Int) (ck cv cd rv : List UInt8) (mem : List MemD) (tr : List Int) (body : List UInt8)
    (AM1 AT1 AB1 AM2 AT2 AB2 : Option Addr) (nM nT nB cM1 cT1 cB1 cM2 cT2 cB2 : Nat) (w : World)
    (lm : mem.length = nM) (lt : tr.length = nT) (lb : body.length = nB) (bm : nM ≤ 1048576) (bt : nT ≤ 1048576)
    (m1 : Rd w Z1 3 AM1 nM (rcells MemD.cells mem)) (t1 : Rd w Z1 1 AT1 nT (ics tr)) (b1 : Rd w Z1 1 AB1 nB (Lib.byteCells body))
    (m2 : Rd w Z2 3 AM2 nM (rcells MemD.cells mem)) (t2 : Rd w Z2 1 AT2 nT (ics tr)) (b2 : Rd w Z2 1 AB2 nB (Lib.byteCells body)) :
    Calls Tryz.prog 38 #[.agg #[(.int .i64 at_), (.int .i64 kind), (.int .i64 node), (.int .i64 inc), (.int .i64 e1), (.int .i64 e2), (.int .i64 e3), (.int .i64 e4), (.slice AM1 nM cM1), (.slice AT1 nT cT1), (.int .i64 sender), (.int .i64 seq), (.int .i64 pos), (.int .i64 n), (.slice AB1 nB cB1), (.int .i64 cc), (.int .i64 ci), (.int .i64 cr), (.int .i64 co), (tx ck), (tx cv), (tx cd), (.int .i64 rc), (tx rv), (.int .i64 rn), (.int .i64 err)], .agg #[(.int .i64 at_), (.int .i64 kind), (.int .i64 node), (.int .i64 inc), (.int .i64 e1), (.int .i64 e2), (.int .i64 e3), (.int .i64 e4), (.slice AM2 nM cM2), (.slice AT2 nT cT2), (.int .i64 sender), (.int .i64 seq), (.int .i64 pos), (.int .i64 n), (.slice AB2 nB cB2), (.int .i64 cc), (.int .i64 ci), (.int .i64 cr), (.int .i64 co), (tx ck), (tx cv), (tx cd), (.int .i64 rc), (tx rv), (.int .i64 rn), (.int .i64 err)]] w fun e w' => e = .returned (.bool true) ∧ Fresh w w' := by
  have HA := Lib.hid (And.intro m1 (And.intro t1 (And.intro b1 (And.intro m2 (And.intro t2 (And.intro b2 (And.intro lm (And.intro lt lb))))))))
  clear m1 t1 b1 m2 t2 b2 lm lt lb
  go_enter Tryz.func38, Tryz.ntmps38
  go_upto_region 0 with (fail)
  go_cut [2, 3, 4] (fun s2 s3 s4 wx => s2 = .pointer (some ⟨w.heap.size, 0, none⟩) ∧ s3 = .pointer (some ⟨w.heap.size + 1, 0, none⟩) ∧ s4 = .bool false ∧ Blk wx w.heap.size 51 #[(.int .i64 at_), (.int .i64 kind), (.int .i64 node), (.int .i64 inc), (.int .i64 e1), (.int .i64 e2), (.int .i64 e3), (.int .i64 e4), (.slice AM1 nM cM1), (.slice AT1 nT cT1), (.int .i64 sender), (.int .i64 seq), (.int .i64 pos), (.int .i64 n), (.slice AB1 nB cB1), (.int .i64 cc), (.int .i64 ci), (.int .i64 cr), (.int .i64 co), (tx ck), (tx cv), (tx cd), (.int .i64 rc), (tx rv), (.int .i64 rn), (.int .i64 err)] ∧ Blk wx (w.heap.size + 1) 51 #[(.int .i64 at_), (.int .i64 kind), (.int .i64 node), (.int .i64 inc), (.int .i64 e1), (.int .i64 e2), (.int .i64 e3), (.int .i64 e4), (.slice AM2 nM cM2), (.slice AT2 nT cT2), (.int .i64 sender), (.int .i64 seq), (.int .i64 pos), (.int .i64 n), (.slice AB2 nB cB2), (.int .i64 cc), (.int .i64 ci), (.int .i64 cr), (.int .i64 co), (tx ck), (tx cv), (tx cd), (.int .i64 rc), (tx rv), (.int .i64 rn), (.int .i64 err)] ∧ Fresh w wx)
  case first =>
    go_wp2_with fail
    go_meet
    refine ⟨rfl, rfl, rfl, (Blk.new w _ _).alloc _, ?_, ((Keep.refl _ w).alloc _).alloc _⟩
    exact blk_second w _ _ _
  case rest =>
    rename World => w2
    obtain ⟨rfl, rfl, rfl, hb1, hb2, hf⟩ := hcut
    have f1_0 : w2.cell? ⟨w.heap.size, 0, none⟩ = some (.int .i64 at_) := hb1.cell 0
    have f1_1 : w2.cell? ⟨w.heap.size, 1, none⟩ = some (.int .i64 kind) := hb1.cell 1
    have f1_2 : w2.cell? ⟨w.heap.size, 2, none⟩ = some (.int .i64 node) := hb1.cell 2
    have f1_3 : w2.cell? ⟨w.heap.size, 3, none⟩ = some (.int .i64 inc) := hb1.cell 3
    have f1_4 : w2.cell? ⟨w.heap.size, 4, none⟩ = some (.int .i64 e1) := hb1.cell 4
    have f1_5 : w2.cell? ⟨w.heap.size, 5, none⟩ = some (.int .i64 e2) := hb1.cell 5
    have f1_6 : w2.cell? ⟨w.heap.size, 6, none⟩ = some (.int .i64 e3) := hb1.cell 6
    have f1_7 : w2.cell? ⟨w.heap.size, 7, none⟩ = some (.int .i64 e4) := hb1.cell 7
    have f1_8 : w2.cell? ⟨w.heap.size, 8, none⟩ = some (.slice AM1 nM cM1) := hb1.cell 8
    have f1_9 : w2.cell? ⟨w.heap.size, 9, none⟩ = some (.slice AT1 nT cT1) := hb1.cell 9
    have f1_10 : w2.cell? ⟨w.heap.size, 10, none⟩ = some (.int .i64 sender) := hb1.cell 10
    have f1_11 : w2.cell? ⟨w.heap.size, 11, none⟩ = some (.int .i64 seq) := hb1.cell 11
    have f1_12 : w2.cell? ⟨w.heap.size, 12, none⟩ = some (.int .i64 pos) := hb1.cell 12
    have f1_13 : w2.cell? ⟨w.heap.size, 13, none⟩ = some (.int .i64 n) := hb1.cell 13
    have f1_14 : w2.cell? ⟨w.heap.size, 14, none⟩ = some (.slice AB1 nB cB1) := hb1.cell 14
    have f1_15 : w2.cell? ⟨w.heap.size, 15, none⟩ = some (.int .i64 cc) := hb1.cell 15
    have f1_16 : w2.cell? ⟨w.heap.size, 16, none⟩ = some (.int .i64 ci) := hb1.cell 16
    have f1_17 : w2.cell? ⟨w.heap.size, 17, none⟩ = some (.int .i64 cr) := hb1.cell 17
    have f1_18 : w2.cell? ⟨w.heap.size, 18, none⟩ = some (.int .i64 co) := hb1.cell 18
    have f1_19 : w2.cell? ⟨w.heap.size, 19, none⟩ = some (tx ck) := hb1.cell 19
    have f1_20 : w2.cell? ⟨w.heap.size, 20, none⟩ = some (tx cv) := hb1.cell 20
    have f1_21 : w2.cell? ⟨w.heap.size, 21, none⟩ = some (tx cd) := hb1.cell 21
    have f1_22 : w2.cell? ⟨w.heap.size, 22, none⟩ = some (.int .i64 rc) := hb1.cell 22
    have f1_23 : w2.cell? ⟨w.heap.size, 23, none⟩ = some (tx rv) := hb1.cell 23
    have f1_24 : w2.cell? ⟨w.heap.size, 24, none⟩ = some (.int .i64 rn) := hb1.cell 24
    have f1_25 : w2.cell? ⟨w.heap.size, 25, none⟩ = some (.int .i64 err) := hb1.cell 25
    have f2_0 : w2.cell? ⟨(w.heap.size + 1), 0, none⟩ = some (.int .i64 at_) := hb2.cell 0
    have f2_1 : w2.cell? ⟨(w.heap.size + 1), 1, none⟩ = some (.int .i64 kind) := hb2.cell 1
    have f2_2 : w2.cell? ⟨(w.heap.size + 1), 2, none⟩ = some (.int .i64 node) := hb2.cell 2
    have f2_3 : w2.cell? ⟨(w.heap.size + 1), 3, none⟩ = some (.int .i64 inc) := hb2.cell 3
    have f2_4 : w2.cell? ⟨(w.heap.size + 1), 4, none⟩ = some (.int .i64 e1) := hb2.cell 4
    have f2_5 : w2.cell? ⟨(w.heap.size + 1), 5, none⟩ = some (.int .i64 e2) := hb2.cell 5
    have f2_6 : w2.cell? ⟨(w.heap.size + 1), 6, none⟩ = some (.int .i64 e3) := hb2.cell 6
    have f2_7 : w2.cell? ⟨(w.heap.size + 1), 7, none⟩ = some (.int .i64 e4) := hb2.cell 7
    have f2_8 : w2.cell? ⟨(w.heap.size + 1), 8, none⟩ = some (.slice AM2 nM cM2) := hb2.cell 8
    have f2_9 : w2.cell? ⟨(w.heap.size + 1), 9, none⟩ = some (.slice AT2 nT cT2) := hb2.cell 9
    have f2_10 : w2.cell? ⟨(w.heap.size + 1), 10, none⟩ = some (.int .i64 sender) := hb2.cell 10
    have f2_11 : w2.cell? ⟨(w.heap.size + 1), 11, none⟩ = some (.int .i64 seq) := hb2.cell 11
    have f2_12 : w2.cell? ⟨(w.heap.size + 1), 12, none⟩ = some (.int .i64 pos) := hb2.cell 12
    have f2_13 : w2.cell? ⟨(w.heap.size + 1), 13, none⟩ = some (.int .i64 n) := hb2.cell 13
    have f2_14 : w2.cell? ⟨(w.heap.size + 1), 14, none⟩ = some (.slice AB2 nB cB2) := hb2.cell 14
    have f2_15 : w2.cell? ⟨(w.heap.size + 1), 15, none⟩ = some (.int .i64 cc) := hb2.cell 15
    have f2_16 : w2.cell? ⟨(w.heap.size + 1), 16, none⟩ = some (.int .i64 ci) := hb2.cell 16
    have f2_17 : w2.cell? ⟨(w.heap.size + 1), 17, none⟩ = some (.int .i64 cr) := hb2.cell 17
    have f2_18 : w2.cell? ⟨(w.heap.size + 1), 18, none⟩ = some (.int .i64 co) := hb2.cell 18
    have f2_19 : w2.cell? ⟨(w.heap.size + 1), 19, none⟩ = some (tx ck) := hb2.cell 19
    have f2_20 : w2.cell? ⟨(w.heap.size + 1), 20, none⟩ = some (tx cv) := hb2.cell 20
    have f2_21 : w2.cell? ⟨(w.heap.size + 1), 21, none⟩ = some (tx cd) := hb2.cell 21
    have f2_22 : w2.cell? ⟨(w.heap.size + 1), 22, none⟩ = some (.int .i64 rc) := hb2.cell 22
    have f2_23 : w2.cell? ⟨(w.heap.size + 1), 23, none⟩ = some (tx rv) := hb2.cell 23
    have f2_24 : w2.cell? ⟨(w.heap.size + 1), 24, none⟩ = some (.int .i64 rn) := hb2.cell 24
    have f2_25 : w2.cell? ⟨(w.heap.size + 1), 25, none⟩ = some (.int .i64 err) := hb2.cell 25
    have C1 := run_conv_str (P := Tryz.prog) Tryz.underlying47 Tryz.underlying5 Tryz.underlying9 (HA.out.2.2.1.keep (hf.weaken fun _ _ _ => trivial)) cB1
    have C2 := run_conv_str (P := Tryz.prog) Tryz.underlying47 Tryz.underlying5 Tryz.underlying9 (HA.out.2.2.2.2.2.1.keep (hf.weaken fun _ _ _ => trivial)) cB2
    have HF := Lib.hid hf
    clear hb1 hb2 hf
    go_wp2_with fail
    go_loopw [5] (fun i wr => ∃ (k d : Nat), k ≤ nM ∧ i = .int .i64 (k : Int) ∧ wr = w2.drewN d) (fun i _ => nM - (intOf i).toNat)
    case atStart => exact ⟨0, 0, Nat.zero_le _, rfl, rfl⟩
    case round =>
      obtain ⟨k, q, hk, rfl, rfl⟩ := hrel
      by_cases hlt : k < nM
      · have hl1 : k < mem.length := by have := HA.out.2.2.2.2.2.2.1; omega
        obtain ⟨ba, oa, rfl, -, ra⟩ := Rd.range mem_three (HA.out.1.keep (HF.out.weaken fun _ _ _ => trivial)) hl1 hlt
        obtain ⟨bb, ob, rfl, -, rb⟩ := Rd.range mem_three (HA.out.2.2.2.1.keep (HF.out.weaken fun _ _ _ => trivial)) hl1 hlt
        obtain ⟨x, hx⟩ : ∃ x, x = mem[k] := ⟨_, rfl⟩
        rw [← hx] at ra rb
        clear hx hl1
        obtain ⟨x1, x2, x3⟩ := x
        have p0 : w2.cell? ⟨ba, oa + k * 3, none⟩ = some (.int .i64 x1) := ra 0 _ rfl
        have p1 : w2.cell? ⟨ba, oa + k * 3 + 1, none⟩ = some (.int .i64 x2) := ra 1 _ rfl
        have p2 : w2.cell? ⟨ba, oa + k * 3 + 2, none⟩ = some (.int .i64 x3) := ra 2 _ rfl
        have q0 : w2.cell? ⟨bb, ob + k * 3, none⟩ = some (.int .i64 x1) := rb 0 _ rfl
        have q1 : w2.cell? ⟨bb, ob + k * 3 + 1, none⟩ = some (.int .i64 x2) := rb 1 _ rfl
        have q2 : w2.cell? ⟨bb, ob + k * 3 + 2, none⟩ = some (.int .i64 x3) := rb 2 _ rfl
        clear ra rb
        go_wp2_with fail
        go_quiet (fail)
        go_wp2_with fail
        exact ⟨⟨k + 1, _, by omega, congrArg _ (by omega), rfl⟩, by simp [intOf]; omega⟩
      · obtain rfl : k = nM := by omega
        go_wp2_with fail
        go_loopw [6] (fun i wr => ∃ (j d : Nat), j ≤ nT ∧ i = .int .i64 (j : Int) ∧ wr = w2.drewN d) (fun i _ => nT - (intOf i).toNat)
        case atStart => exact ⟨0, q, Nat.zero_le _, rfl, rfl⟩
        case round =>
          obtain ⟨j, q2, hj, rfl, rfl⟩ := hrel
          by_cases hlt2 : j < nT
          · have hl1 : j < tr.length := by have := HA.out.2.2.2.2.2.2.2.1; omega
            obtain ⟨ba, oa, rfl, -, _, ra⟩ := (HA.out.2.1.keep (HF.out.weaken fun _ _ _ => trivial)).at1 hlt2
            obtain ⟨bb, ob, rfl, -, _, rb⟩ := (HA.out.2.2.2.2.1.keep (HF.out.weaken fun _ _ _ => trivial)).at1 hlt2
            obtain ⟨x, hx⟩ : ∃ x, x = tr[j] := ⟨_, rfl⟩
            have p0 : w2.cell? ⟨ba, oa + j, none⟩ = some (.int .i64 x) := by rw [ra, hx]; simp [ics]
            have q0 : w2.cell? ⟨bb, ob + j, none⟩ = some (.int .i64 x) := by rw [rb, hx]; simp [ics]
            clear hx ra rb
            go_wp2_with fail
            go_quiet (fail)
            go_wp2_with fail
            exact ⟨⟨j + 1, _, by omega, congrArg _ (by omega), rfl⟩, by simp [intOf]; omega⟩
          · obtain rfl : j = nT := by omega
            go_wp2_with fail
            go_ret
            exact ⟨rfl, HF.out.drewN _⟩
/-- Two marks that hold the same. -/
theorem samemark_any (Z1 Z2 : Nat → Prop) (x y : MkV) (w : World) (hd : x.d = y.d) (hf : MkFit x.d) (h1 : MkOk w Z1 x) (h2 : MkOk w Z2 y) :
    Calls Tryz.prog 38 #[.agg x.cells.toArray, .agg y.cells.toArray] w fun e w' => e = .returned (.bool true) ∧ Fresh w w' := by
  obtain ⟨d, vm, vt, vb⟩ := x
  obtain ⟨d', vm', vt', vb'⟩ := y
  simp only at hd
  subst hd
  obtain ⟨hm, ht, hb⟩ := h1
  obtain ⟨hm', ht', hb'⟩ := h2
  simp only at hm ht hb hm' ht' hb'
  obtain ⟨A1, c1, rfl, -, -, m1⟩ := hm
  obtain ⟨A2, c2, rfl, -, -, t1⟩ := ht
  obtain ⟨A3, c3, rfl, -, -, b1⟩ := hb
  obtain ⟨A4, c4, rfl, -, -, m2⟩ := hm'
  obtain ⟨A5, c5, rfl, -, -, t2⟩ := ht'
  obtain ⟨A6, c6, rfl, -, -, b2⟩ := hb'
  exact samemark_flat Z1 Z2 d.at_ d.kind d.node d.inc d.e1 d.e2 d.e3 d.e4 d.sender d.seq d.pos d.n d.cmd.c d.cmd.i d.cmd.r d.cmd.o d.rc d.rn d.err d.cmd.k d.cmd.v d.cmd.d d.rv d.mem d.tr d.body A1 A2 A3 A4 A5 A6 _ _ _ c1 c2 c3 c4 c5 c6 w rfl rfl rfl hf.m hf.t m1 t1 b1 m2 t2 b2
end Go.Proofs.YtohnmaindbgngaaGreatDoor
namespace Go.Proofs.YtohnmaindbgngaaGreatDoor
set_option linter.unusedVariables false
set_option linter.unusedSimpArgs false
open Go.RowKit

set_option maxRecDepth 20000 in
set_option maxHeartbeats 1000000 in
theorem samemarks_any (Z1 Z2 : Nat → Prop) (A1 A2 : Option Addr) (n c1 c2 : Nat) (hs ks : List MkV) (w : World) (h1 : Mks w Z1 A1 n hs) (h2 : Mks w Z2 A2 n ks) (hd : dsOf hs = dsOf ks) (o1 : ∀ h ∈ hs, MkOk w Z1 h) (o2 : ∀ h ∈ ks, MkOk w Z2 h) :
    Calls Tryz.prog 22 #[.slice A1 n c1, .slice A2 n c2] w fun e w' => e = .returned (.bool true) ∧ Fresh w w' := by
  have HA := Lib.hid (And.intro h1 (And.intro h2 (And.intro hd (And.intro o1 o2))))
  have hle := h1.le
  clear h1 h2 hd o1 o2
  go_enter Tryz.func22, Tryz.ntmps22
  go_wp2
  go_loopw [5] (fun i wr => ∃ (k : Nat), k ≤ n ∧ i = .int .i64 (k : Int) ∧ Hid (Fresh w wr)) (fun i _ => n - (intOf i).toNat)
  case atStart => exact ⟨0, Nat.zero_le _, rfl, Lib.hid (Keep.refl _ _)⟩
  case round =>
    rename World => wr
    obtain ⟨k, hk, rfl, HW⟩ := hrel
    by_cases hlt : k < n
    · obtain ⟨H1, H2, hd, o1, o2⟩ := HA.out
      obtain ⟨b1, f1, rfl, -, l1, r1⟩ := H1.at1 hlt
      obtain ⟨b2, f2, rfl, -, l2, r2⟩ := H2.at1 hlt
      have r1' : ∀ w', Fresh w w' → w'.rangeAt b1 (f1 + k * 26) hs[k].cells := fun w' hw' => rangeAt_keep r1 hw' trivial
      have r2' : ∀ w', Fresh w w' → w'.rangeAt b2 (f2 + k * 26) ks[k].cells := fun w' hw' => rangeAt_keep r2 hw' trivial
      have hde : hs[k].d = ks[k].d := by
        have := congrArg (fun l : List MarkD => l[k]?) hd
        simpa [dsOf, l1, l2] using this
      have hfit := H1.fit _ (List.getElem_mem l1)
      have om := o1 _ (List.getElem_mem l1)
      have on := o2 _ (List.getElem_mem l2)
      obtain ⟨x, hx⟩ : ∃ x, x = hs[k] := ⟨_, rfl⟩
      obtain ⟨y, hy⟩ : ∃ y, y = ks[k] := ⟨_, rfl⟩
      rw [← hx] at r1' hde hfit om
      rw [← hy] at r2' hde on
      have HC := Lib.hid (fun w' (hw' : Fresh w w') => samemark_any Z1 Z2 x y w' hde hfit (om.keep (hw'.weaken fun _ _ _ => trivial)) (on.keep (hw'.weaken fun _ _ _ => trivial)))
      have HR := Lib.hid (And.intro r1' r2')
      clear r1 r2 r1' r2' hde hfit om on hx hy l1 l2 H1 H2 hd o1 o2
      have ha0 : (0 : Int) ≤ (k : Int) := by omega
      have ha1 : (k : Int) < (n : Int) := by omega
      go_wp2_with fail
      have HC2 := Lib.hid (fun (q : Nat) (os : Array Obj) => Calls.regrown_of (w := wr) (d := q) (os := os) ((HC.out _ (HW.out.trans (fresh_regrown wr q os))).mono fun _ _ ⟨he, hf⟩ => ⟨he, hf.below⟩))
      have HR1 := Lib.hid (show ∀ w', (∃ p : Regrown, w' = Go.Sort.grow (redrawn wr p.d) p.os) → w'.rangeAt b1 (f1 + k * 26) x.cells from fun w' hw' => by
        obtain ⟨p, rfl⟩ := hw'
        exact HR.out.1 _ (HW.out.trans (fresh_regrown wr _ _)))
      have HR2 := Lib.hid (show ∀ w', (∃ p : Regrown, w' = Go.Sort.grow (redrawn wr p.d) p.os) → w'.rangeAt b2 (f2 + k * 26) y.cells from fun w' hw' => by
        obtain ⟨p, rfl⟩ := hw'
        exact HR.out.2 _ (HW.out.trans (fresh_regrown wr _ _)))
      refine wp_region_quiet_below (by kernel_rfl) (by kernel_rfl) ?_
      repeat (first
        | (refine wpQuiet_load_mid rfl 51 _ rfl b1 (f1 + k * 26) rfl x.cells _ HR1.out Tryz.underlying51 rfl (by kernel_rfl) ?_)
        | (refine wpQuiet_load_mid rfl 51 _ rfl b2 (f2 + k * 26) rfl y.cells _ HR2.out Tryz.underlying51 rfl (by kernel_rfl) ?_)
        | quiet_step (exact HC2.out _ _))
      refine wpQuiet_nil ?_
      intro _ hw'
      obtain ⟨⟨dq, osq⟩, hw''⟩ := hw'
      subst hw''
      go_wp2_with fail
      exact ⟨⟨k + 1, by omega, congrArg _ (by omega), Lib.hid (HW.out.trans (fresh_regrown wr _ _))⟩, by simp [intOf]; omega⟩
    · obtain rfl : k = n := by omega
      go_wp2_with fail
      go_ret
      exact ⟨rfl, HW.out⟩
end Go.Proofs.YtohnmaindbgngaaGreatDoor
namespace Go.Proofs.YtohnmaindbgngaaGreatDoor
set_option linter.unusedVariables false
set_option linter.unusedSimpArgs false
open Go.RowKit

theorem LRow.hdr_one {w : World} {base te sz : Nat} {hdr long : Value} {n : Nat} {xs pads : List Value} (h : LRow w base te sz hdr long n xs pads) : hdr.oneCell' = true := by
  obtain ⟨g, c, _, rfl, _⟩ := h
  rfl
theorem LMkOk.one {w : World} {base : Nat} {p : LMk} (h : LMkOk w base p) : MkOne p.x := ⟨h.m.hdr_one, h.t.hdr_one, h.b.hdr_one⟩
theorem LMkOk.ok {w : World} {base : Nat} {p : LMk} (h : LMkOk w base p) : MkOk w (fun _ => True) p.x := ⟨h.m.sl.weaken fun _ _ => trivial, h.t.sl.weaken fun _ _ => trivial, h.b.sl.weaken fun _ _ => trivial⟩
theorem fit_of_ds {hs ks : List MkV} (h : ∀ x ∈ hs, MkFit x.d) (he : dsOf ks = dsOf hs) : ∀ x ∈ ks, MkFit x.d := by
  intro x hx
  have : x.d ∈ dsOf hs := he ▸ List.mem_map_of_mem hx
  obtain ⟨y, hy, e⟩ := List.mem_map.1 this
  exact e ▸ h y hy
theorem Loos.all {w wr : World} {X : Nat} {hs : List MkV} {n : Nat} {ps : List LMk} {vL vM vT vB : Value} (h : Loos w wr X hs n ps vL vM vT vB) (hn : hs.length = n) : dsOf (ps.map LMk.x) = dsOf hs := by
  rw [h.same, List.take_of_length_le (by omega)]
/-- The loose list reads as the marks. -/
theorem Loos.mks {w wr : World} {X : Nat} {hs : List MkV} {n : Nat} {ps : List LMk} {vL vM vT vB : Value} (h : Loos w wr X hs n ps vL vM vT vB) (hn : hs.length = n) (hle : n ≤ 1048576) (hf : ∀ x ∈ hs, MkFit x.d) :
    ∃ A c, vL = .slice A n c ∧ Mks wr (fun _ => True) A n (ps.map LMk.x) ∧ ∀ x ∈ ps.map LMk.x, MkOk wr (fun _ => True) x := by
  obtain ⟨A, c, hv, hr, -⟩ := own_rd h.L
  refine ⟨A, c, hv, ⟨by simp [h.len], hr.weaken fun _ _ => trivial, hle, fit_of_ds hf (h.all hn), fun x hx => ?_⟩, fun x hx => ?_⟩
  · obtain ⟨p, hp, rfl⟩ := List.mem_map.1 hx
    exact (h.rows p hp).one
  · obtain ⟨p, hp, rfl⟩ := List.mem_map.1 hx
    exact (h.rows p hp).ok

set_option maxRecDepth 20000 in
set_option maxHeartbeats 1000000 in
theorem kept_any (Z : Nat → Prop) (A : Option Addr) (n c : Nat) (hs : List MkV) (w0 w : World) (X : Nat) (ps : List LMk) (vL vM vT vB : Value) (h : Mks w Z A n hs) (ho : ∀ h ∈ hs, MkOk w Z h) (hx : Loos w0 w X hs n ps vL vM vT vB) :
    Calls Tryz.prog 9 #[.pointer (some ⟨X, 0, none⟩), .slice A n c] w fun e w' => e = .returned (.bool true) ∧ Fresh w w' := by
  obtain ⟨AL, cL, rfl, hm, hok⟩ := hx.mks h.len h.le h.fit
  have HS := Lib.hid (samemarks_any (fun _ => True) Z AL A n cL c (ps.map LMk.x) hs w hm h (hx.all h.len) hok ho)
  have HM := Lib.hid (And.intro h (And.intro ho hx))
  have hle := h.le
  have cX0 : w.cell? ⟨X, 0, none⟩ = some (.slice AL n cL) := hx.blk.cell 0
  clear h ho hx hm hok
  go_enter Tryz.func9, Tryz.ntmps9
  go_wp2_with fail
  refine HS.out.mono ?_
  rintro e w1 ⟨rfl, hf1⟩
  have hX1 := HM.out.2.2.keep hf1
  have cX1 : w1.cell? ⟨X, 1, none⟩ = some vM := hX1.blk.cell 1
  have cX2 : w1.cell? ⟨X, 2, none⟩ = some vT := hX1.blk.cell 2
  have cX3 : w1.cell? ⟨X, 3, none⟩ = some vB := hX1.blk.cell 3
  have H1 := Lib.hid (And.intro hf1 hX1)
  clear hf1 hX1 HS cX0
  go_wp2_with fail
  go_loopw [6] (fun i wr => ∃ k q : Nat, k ≤ n ∧ i = .int .i64 (k : Int) ∧ wr = w1.drewN q) (fun i _ => n - (intOf i).toNat)
  case atStart => exact ⟨0, 0, Nat.zero_le _, rfl, rfl⟩
  case round =>
    obtain ⟨k, q, hk, rfl, rfl⟩ := hrel
    by_cases hlt : k < n
    · obtain ⟨b, o, rfl, -, hl, hr⟩ := HM.out.1.at1 hlt
      replace hr := rangeAt_keep hr H1.out.1 trivial
      have hok := HM.out.2.1 _ (List.getElem_mem hl)
      have hfit := HM.out.1.fit _ (List.getElem_mem hl)
      have hpl : k < ps.length := by rw [H1.out.2.len]; exact hlt
      have hp := H1.out.2.rows _ (List.getElem_mem hpl)
      have hds : ps[k].x.d = hs[k].d := by
        have := congrArg (fun l : List MarkD => l[k]?) (H1.out.2.all HM.out.1.len)
        simpa [dsOf, hl, hpl] using this
      obtain ⟨gM, cM, rfl, -, -⟩ := own_form H1.out.2.M (by omega)
      obtain ⟨gT, cT, rfl, -, -⟩ := own_form H1.out.2.T (by omega)
      obtain ⟨gB, cB, rfl, -, -⟩ := own_form H1.out.2.B (by omega)
      obtain ⟨⟨gm, cm, em, -, -, om⟩, ⟨gt, ct, et, -, -, ot⟩, ⟨gb, cb, eb, -, -, ob⟩⟩ := hp
      obtain ⟨⟨AM1, cM1, eM, -, -, -⟩, ⟨AT1, cT1, eT, -, -, -⟩, ⟨AB1, cB1, eB, -, -, -⟩⟩ := hok
      rw [hds] at em et eb om ot ob
      obtain ⟨x, hx⟩ : ∃ x, x = hs[k] := ⟨_, rfl⟩
      rw [← hx] at em et eb om ot ob eM eT eB hr hfit
      have l8 : w1.cell? ⟨b, o + k * 26 + 8, none⟩ = some (.slice AM1 x.d.mem.length cM1) := (hr 8 _ rfl).trans (congrArg some eM)
      have l9 : w1.cell? ⟨b, o + k * 26 + 9, none⟩ = some (.slice AT1 x.d.tr.length cT1) := (hr 9 _ rfl).trans (congrArg some eT)
      have l14 : w1.cell? ⟨b, o + k * 26 + 14, none⟩ = some (.slice AB1 x.d.body.length cB1) := (hr 14 _ rfl).trans (congrArg some eB)
      have rM : w1.cell? ⟨gM, k, none⟩ = some (.slice (some ⟨gm, 0, none⟩) (x.d.mem.length + 64) cm) := own_cell H1.out.2.M rfl (by rw [List.getElem?_map, List.getElem?_eq_getElem hpl]; exact congrArg some em)
      have rT : w1.cell? ⟨gT, k, none⟩ = some (.slice (some ⟨gt, 0, none⟩) (x.d.tr.length + 64) ct) := own_cell H1.out.2.T rfl (by rw [List.getElem?_map, List.getElem?_eq_getElem hpl]; exact congrArg some et)
      have rB : w1.cell? ⟨gB, k, none⟩ = some (.slice (some ⟨gb, 0, none⟩) (x.d.body.length + 64) cb) := own_cell H1.out.2.B rfl (by rw [List.getElem?_map, List.getElem?_eq_getElem hpl]; exact congrArg some eb)
      have hfm := hfit.m
      have hft := hfit.t
      have hfb := hfit.b
      rw [em] at om
      rw [et] at ot
      rw [eb] at ob
      have HO := Lib.hid (And.intro om (And.intro ot ob))
      clear em et eb om ot ob eM eT eB hr hfit hx hds hl hpl
      go_wp2_with fail
      go_loopw [7] (fun i w' => ∃ j q : Nat, j ≤ 64 ∧ i = .int .i64 (j : Int) ∧ w' = w1.drewN q) (fun i _ => 64 - (intOf i).toNat)
      case atStart => exact ⟨0, q, Nat.zero_le _, rfl, rfl⟩
      case round =>
        obtain ⟨j, q2, hj, rfl, rfl⟩ := hrel
        by_cases hlt2 : j < 64
        · obtain ⟨om, ot, ob⟩ := HO.out
          have jm : ∀ i, i < 3 → w1.cell? ⟨gm, (x.d.mem.length + j) * 3 + i, none⟩ = (memPad j).cells[i]? := fun i hi => by
            have e1 : (rcells MemD.cells x.d.mem ++ rcells MemD.cells (memPads 64))[(x.d.mem.length + j) * 3 + i]? = (memPad j).cells[i]? := by
              rw [List.getElem?_append_right (by rw [rcells_len mem_three]; omega), rcells_len mem_three]
              have hj2 : j < (memPads 64).length := by simpa [memPads] using hlt2
              rw [show (x.d.mem.length + j) * 3 + i - x.d.mem.length * 3 = j * 3 + i by omega, rcells_get mem_three (memPads 64) j hj2 i hi]
              simp [memPads]
            have hs : i < (memPad j).cells.length := hi
            rw [List.getElem?_eq_getElem hs] at e1 ⊢
            exact own_cell om rfl e1
          obtain ⟨im, him⟩ : ∃ im, im = x.d.mem.length + j := ⟨_, rfl⟩
          obtain ⟨it, hit⟩ : ∃ it, it = x.d.tr.length + j := ⟨_, rfl⟩
          obtain ⟨ib, hib⟩ : ∃ ib, ib = x.d.body.length + j := ⟨_, rfl⟩
          have wm : IntKind.i64.wrap ((x.d.mem.length : Int) + (j : Int)) = (im : Int) := by rw [IntWalk.i64_in _ (by omega)]; omega
          have wt : IntKind.i64.wrap ((x.d.tr.length : Int) + (j : Int)) = (it : Int) := by rw [IntWalk.i64_in _ (by omega)]; omega
          have wb : IntKind.i64.wrap ((x.d.body.length : Int) + (j : Int)) = (ib : Int) := by rw [IntWalk.i64_in _ (by omega)]; omega
          have w7 : IntKind.i64.wrap (-7 - (j : Int)) = -7 - (j : Int) := IntWalk.i64_in _ (by omega)
          have w2 : IntKind.i64.wrap (200 - (j : Int)) = 200 - (j : Int) := IntWalk.i64_in _ (by omega)
          have w8 : IntKind.u8.wrap (200 - (j : Int)) = 200 - (j : Int) := IntWalk.u8_in _ (by omega)
          have bm1 : (im : Int) < (x.d.mem.length : Int) + 64 := by omega
          have bt1 : (it : Int) < (x.d.tr.length : Int) + 64 := by omega
          have bb1 : (ib : Int) < (x.d.body.length : Int) + 64 := by omega
          have bm : im < x.d.mem.length + 64 := by omega
          have bt : it < x.d.tr.length + 64 := by omega
          have bb : ib < x.d.body.length + 64 := by omega
          have p0 : w1.cell? ⟨gm, im * 3, none⟩ = some (.int .i64 (-7 - (j : Int))) := him ▸ jm 0 (by omega)
          have p1 : w1.cell? ⟨gm, im * 3 + 1, none⟩ = some (.int .i64 0) := him ▸ jm 1 (by omega)
          have p2 : w1.cell? ⟨gm, im * 3 + 2, none⟩ = some (.int .i64 0) := him ▸ jm 2 (by omega)
          have pt : w1.cell? ⟨gt, it, none⟩ = some (.int .i64 (-7 - (j : Int))) := own_cell ot rfl (by
            rw [hit, List.getElem?_append_right (by simp [ics])]
            simp [ics, trPads, trPad, hlt2])
          have pb : w1.cell? ⟨gb, ib, none⟩ = some (.int .u8 (200 - (j : Int))) := own_cell ob rfl (by
            rw [hib, List.getElem?_append_right (by simp [Lib.byteCells]), ← byPad_nat hlt2]
            simp [Lib.byteCells, byPads, hlt2])
          clear him hit hib
          clear om ot ob jm
          go_wp2_with fail
          go_quiet (fail)
          go_wp2_with fail
          exact ⟨⟨j + 1, _, by omega, congrArg _ (by omega), rfl⟩, by simp [intOf]; omega⟩
        · obtain rfl : j = 64 := by omega
          go_wp2_with fail
          exact ⟨⟨k + 1, _, by omega, congrArg _ (by omega), rfl⟩, by simp [intOf]; omega⟩
    · obtain rfl : k = n := by omega
      go_wp2_with fail
      go_ret
      exact ⟨rfl, H1.out.1.drewN _⟩
end Go.Proofs.YtohnmaindbgngaaGreatDoor
