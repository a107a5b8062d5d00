/-
  WALK OF quorateref02's 'SameMark', at two marks that hold the same.
-/
import Derived.Test.YtfpcmleeehciaaaAHist
namespace Go.Proofs.Ytfpcmleeehciaaa
set_option linter.unusedVariables false
set_option linter.unusedSimpArgs false
open Go.RowKit

theorem blk_second (w : World) (t : TypeId) (cx cy : Array Value) : Blk ((w.alloc (.cells cx t)).alloc (.cells cy t)) (w.heap.size + 1) t cy := by
  have h := Blk.new (w.alloc (.cells cx t)) t cy
  rw [World.size_alloc] at h
  exact h
set_option maxRecDepth 20000 in
set_option maxHeartbeats 2000000 in
theorem samemark_flat (Z1 Z2 : Nat → Prop) (at_ kind node inc e1 e2 e3 e4 sender seq pos n cc ci cr co rc rn err : Int) (ck cv cd rv : List UInt8) (mem : List MemD) (tr : List Int) (body : List UInt8)
    (AM1 AT1 AB1 AM2 AT2 AB2 : Option Addr) (nM nT nB cM1 cT1 cB1 cM2 cT2 cB2 : Nat) (w : World)
    (lm : mem.length = nM) (lt : tr.length = nT) (lb : body.length = nB) (bm : nM ≤ 1048576) (bt : nT ≤ 1048576)
    (m1 : Rd w Z1 3 AM1 nM (rcells MemD.cells mem)) (t1 : Rd w Z1 1 AT1 nT (ics tr)) (b1 : Rd w Z1 1 AB1 nB (Lib.byteCells body))
    (m2 : Rd w Z2 3 AM2 nM (rcells MemD.cells mem)) (t2 : Rd w Z2 1 AT2 nT (ics tr)) (b2 : Rd w Z2 1 AB2 nB (Lib.byteCells body)) :
    Calls Try.prog 33 #[.agg #[(.int .i64 at_), (.int .i64 kind), (.int .i64 node), (.int .i64 inc), (.int .i64 e1), (.int .i64 e2), (.int .i64 e3), (.int .i64 e4), (.slice AM1 nM cM1), (.slice AT1 nT cT1), (.int .i64 sender), (.int .i64 seq), (.int .i64 pos), (.int .i64 n), (.slice AB1 nB cB1), (.int .i64 cc), (.int .i64 ci), (.int .i64 cr), (.int .i64 co), (tx ck), (tx cv), (tx cd), (.int .i64 rc), (tx rv), (.int .i64 rn), (.int .i64 err)], .agg #[(.int .i64 at_), (.int .i64 kind), (.int .i64 node), (.int .i64 inc), (.int .i64 e1), (.int .i64 e2), (.int .i64 e3), (.int .i64 e4), (.slice AM2 nM cM2), (.slice AT2 nT cT2), (.int .i64 sender), (.int .i64 seq), (.int .i64 pos), (.int .i64 n), (.slice AB2 nB cB2), (.int .i64 cc), (.int .i64 ci), (.int .i64 cr), (.int .i64 co), (tx ck), (tx cv), (tx cd), (.int .i64 rc), (tx rv), (.int .i64 rn), (.int .i64 err)]] w fun e w' => e = .returned (.bool true) ∧ Fresh w w' := by
  have HA := Lib.hid (And.intro m1 (And.intro t1 (And.intro b1 (And.intro m2 (And.intro t2 (And.intro b2 (And.intro lm (And.intro lt lb))))))))
  clear m1 t1 b1 m2 t2 b2 lm lt lb
  go_enter Try.func33, Try.ntmps33
  go_upto_region 0 with (fail)
  go_cut [2, 3, 4] (fun s2 s3 s4 wx => s2 = .pointer (some ⟨w.heap.size, 0, none⟩) ∧ s3 = .pointer (some ⟨w.heap.size + 1, 0, none⟩) ∧ s4 = .bool false ∧ Blk wx w.heap.size 50 #[(.int .i64 at_), (.int .i64 kind), (.int .i64 node), (.int .i64 inc), (.int .i64 e1), (.int .i64 e2), (.int .i64 e3), (.int .i64 e4), (.slice AM1 nM cM1), (.slice AT1 nT cT1), (.int .i64 sender), (.int .i64 seq), (.int .i64 pos), (.int .i64 n), (.slice AB1 nB cB1), (.int .i64 cc), (.int .i64 ci), (.int .i64 cr), (.int .i64 co), (tx ck), (tx cv), (tx cd), (.int .i64 rc), (tx rv), (.int .i64 rn), (.int .i64 err)] ∧ Blk wx (w.heap.size + 1) 50 #[(.int .i64 at_), (.int .i64 kind), (.int .i64 node), (.int .i64 inc), (.int .i64 e1), (.int .i64 e2), (.int .i64 e3), (.int .i64 e4), (.slice AM2 nM cM2), (.slice AT2 nT cT2), (.int .i64 sender), (.int .i64 seq), (.int .i64 pos), (.int .i64 n), (.slice AB2 nB cB2), (.int .i64 cc), (.int .i64 ci), (.int .i64 cr), (.int .i64 co), (tx ck), (tx cv), (tx cd), (.int .i64 rc), (tx rv), (.int .i64 rn), (.int .i64 err)] ∧ Fresh w wx)
  case first =>
    go_wp2_with fail
    go_meet
    refine ⟨rfl, rfl, rfl, (Blk.new w _ _).alloc _, ?_, ((Keep.refl _ w).alloc _).alloc _⟩
    exact blk_second w _ _ _
  case rest =>
    rename World => w2
    obtain ⟨rfl, rfl, rfl, hb1, hb2, hf⟩ := hcut
    have f1_0 : w2.cell? ⟨w.heap.size, 0, none⟩ = some (.int .i64 at_) := hb1.cell 0
    have f1_1 : w2.cell? ⟨w.heap.size, 1, none⟩ = some (.int .i64 kind) := hb1.cell 1
    have f1_2 : w2.cell? ⟨w.heap.size, 2, none⟩ = some (.int .i64 node) := hb1.cell 2
    have f1_3 : w2.cell? ⟨w.heap.size, 3, none⟩ = some (.int .i64 inc) := hb1.cell 3
    have f1_4 : w2.cell? ⟨w.heap.size, 4, none⟩ = some (.int .i64 e1) := hb1.cell 4
    have f1_5 : w2.cell? ⟨w.heap.size, 5, none⟩ = some (.int .i64 e2) := hb1.cell 5
    have f1_6 : w2.cell? ⟨w.heap.size, 6, none⟩ = some (.int .i64 e3) := hb1.cell 6
    have f1_7 : w2.cell? ⟨w.heap.size, 7, none⟩ = some (.int .i64 e4) := hb1.cell 7
    have f1_8 : w2.cell? ⟨w.heap.size, 8, none⟩ = some (.slice AM1 nM cM1) := hb1.cell 8
    have f1_9 : w2.cell? ⟨w.heap.size, 9, none⟩ = some (.slice AT1 nT cT1) := hb1.cell 9
    have f1_10 : w2.cell? ⟨w.heap.size, 10, none⟩ = some (.int .i64 sender) := hb1.cell 10
    have f1_11 : w2.cell? ⟨w.heap.size, 11, none⟩ = some (.int .i64 seq) := hb1.cell 11
    have f1_12 : w2.cell? ⟨w.heap.size, 12, none⟩ = some (.int .i64 pos) := hb1.cell 12
    have f1_13 : w2.cell? ⟨w.heap.size, 13, none⟩ = some (.int .i64 n) := hb1.cell 13
    have f1_14 : w2.cell? ⟨w.heap.size, 14, none⟩ = some (.slice AB1 nB cB1) := hb1.cell 14
    have f1_15 : w2.cell? ⟨w.heap.size, 15, none⟩ = some (.int .i64 cc) := hb1.cell 15
    have f1_16 : w2.cell? ⟨w.heap.size, 16, none⟩ = some (.int .i64 ci) := hb1.cell 16
    have f1_17 : w2.cell? ⟨w.heap.size, 17, none⟩ = some (.int .i64 cr) := hb1.cell 17
    have f1_18 : w2.cell? ⟨w.heap.size, 18, none⟩ = some (.int .i64 co) := hb1.cell 18
    have f1_19 : w2.cell? ⟨w.heap.size, 19, none⟩ = some (tx ck) := hb1.cell 19
    have f1_20 : w2.cell? ⟨w.heap.size, 20, none⟩ = some (tx cv) := hb1.cell 20
    have f1_21 : w2.cell? ⟨w.heap.size, 21, none⟩ = some (tx cd) := hb1.cell 21
    have f1_22 : w2.cell? ⟨w.heap.size, 22, none⟩ = some (.int .i64 rc) := hb1.cell 22
    have f1_23 : w2.cell? ⟨w.heap.size, 23, none⟩ = some (tx rv) := hb1.cell 23
    have f1_24 : w2.cell? ⟨w.heap.size, 24, none⟩ = some (.int .i64 rn) := hb1.cell 24
    have f1_25 : w2.cell? ⟨w.heap.size, 25, none⟩ = some (.int .i64 err) := hb1.cell 25
    have f2_0 : w2.cell? ⟨(w.heap.size + 1), 0, none⟩ = some (.int .i64 at_) := hb2.cell 0
    have f2_1 : w2.cell? ⟨(w.heap.size + 1), 1, none⟩ = some (.int .i64 kind) := hb2.cell 1
    have f2_2 : w2.cell? ⟨(w.heap.size + 1), 2, none⟩ = some (.int .i64 node) := hb2.cell 2
    have f2_3 : w2.cell? ⟨(w.heap.size + 1), 3, none⟩ = some (.int .i64 inc) := hb2.cell 3
    have f2_4 : w2.cell? ⟨(w.heap.size + 1), 4, none⟩ = some (.int .i64 e1) := hb2.cell 4
    have f2_5 : w2.cell? ⟨(w.heap.size + 1), 5, none⟩ = some (.int .i64 e2) := hb2.cell 5
    have f2_6 : w2.cell? ⟨(w.heap.size + 1), 6, none⟩ = some (.int .i64 e3) := hb2.cell 6
    have f2_7 : w2.cell? ⟨(w.heap.size + 1), 7, none⟩ = some (.int .i64 e4) := hb2.cell 7
    have f2_8 : w2.cell? ⟨(w.heap.size + 1), 8, none⟩ = some (.slice AM2 nM cM2) := hb2.cell 8
    have f2_9 : w2.cell? ⟨(w.heap.size + 1), 9, none⟩ = some (.slice AT2 nT cT2) := hb2.cell 9
    have f2_10 : w2.cell? ⟨(w.heap.size + 1), 10, none⟩ = some (.int .i64 sender) := hb2.cell 10
    have f2_11 : w2.cell? ⟨(w.heap.size + 1), 11, none⟩ = some (.int .i64 seq) := hb2.cell 11
    have f2_12 : w2.cell? ⟨(w.heap.size + 1), 12, none⟩ = some (.int .i64 pos) := hb2.cell 12
    have f2_13 : w2.cell? ⟨(w.heap.size + 1), 13, none⟩ = some (.int .i64 n) := hb2.cell 13
    have f2_14 : w2.cell? ⟨(w.heap.size + 1), 14, none⟩ = some (.slice AB2 nB cB2) := hb2.cell 14
    have f2_15 : w2.cell? ⟨(w.heap.size + 1), 15, none⟩ = some (.int .i64 cc) := hb2.cell 15
    have f2_16 : w2.cell? ⟨(w.heap.size + 1), 16, none⟩ = some (.int .i64 ci) := hb2.cell 16
    have f2_17 : w2.cell? ⟨(w.heap.size + 1), 17, none⟩ = some (.int .i64 cr) := hb2.cell 17
    have f2_18 : w2.cell? ⟨(w.heap.size + 1), 18, none⟩ = some (.int .i64 co) := hb2.cell 18
    have f2_19 : w2.cell? ⟨(w.heap.size + 1), 19, none⟩ = some (tx ck) := hb2.cell 19
    have f2_20 : w2.cell? ⟨(w.heap.size + 1), 20, none⟩ = some (tx cv) := hb2.cell 20
    have f2_21 : w2.cell? ⟨(w.heap.size + 1), 21, none⟩ = some (tx cd) := hb2.cell 21
    have f2_22 : w2.cell? ⟨(w.heap.size + 1), 22, none⟩ = some (.int .i64 rc) := hb2.cell 22
    have f2_23 : w2.cell? ⟨(w.heap.size + 1), 23, none⟩ = some (tx rv) := hb2.cell 23
    have f2_24 : w2.cell? ⟨(w.heap.size + 1), 24, none⟩ = some (.int .i64 rn) := hb2.cell 24
    have f2_25 : w2.cell? ⟨(w.heap.size + 1), 25, none⟩ = some (.int .i64 err) := hb2.cell 25
    have C1 := run_conv_str (P := Try.prog) Try.underlying43 Try.underlying5 Try.underlying9 (HA.out.2.2.1.keep (hf.weaken fun _ _ _ => trivial)) cB1
    have C2 := run_conv_str (P := Try.prog) Try.underlying43 Try.underlying5 Try.underlying9 (HA.out.2.2.2.2.2.1.keep (hf.weaken fun _ _ _ => trivial)) cB2
    have HF := Lib.hid hf
    clear hb1 hb2 hf
    go_wp2_with fail
    go_loopw [5] (fun i wr => ∃ (k d : Nat), k ≤ nM ∧ i = .int .i64 (k : Int) ∧ wr = w2.drewN d) (fun i _ => nM - (intOf i).toNat)
    case atStart => exact ⟨0, 0, Nat.zero_le _, rfl, rfl⟩
    case round =>
      obtain ⟨k, q, hk, rfl, rfl⟩ := hrel
      by_cases hlt : k < nM
      · have hl1 : k < mem.length := by have := HA.out.2.2.2.2.2.2.1; omega
        obtain ⟨ba, oa, rfl, -, ra⟩ := Rd.range mem_three (HA.out.1.keep (HF.out.weaken fun _ _ _ => trivial)) hl1 hlt
        obtain ⟨bb, ob, rfl, -, rb⟩ := Rd.range mem_three (HA.out.2.2.2.1.keep (HF.out.weaken fun _ _ _ => trivial)) hl1 hlt
        obtain ⟨x, hx⟩ : ∃ x, x = mem[k] := ⟨_, rfl⟩
        rw [← hx] at ra rb
        clear hx hl1
        obtain ⟨x1, x2, x3⟩ := x
        have p0 : w2.cell? ⟨ba, oa + k * 3, none⟩ = some (.int .i64 x1) := ra 0 _ rfl
        have p1 : w2.cell? ⟨ba, oa + k * 3 + 1, none⟩ = some (.int .i64 x2) := ra 1 _ rfl
        have p2 : w2.cell? ⟨ba, oa + k * 3 + 2, none⟩ = some (.int .i64 x3) := ra 2 _ rfl
        have q0 : w2.cell? ⟨bb, ob + k * 3, none⟩ = some (.int .i64 x1) := rb 0 _ rfl
        have q1 : w2.cell? ⟨bb, ob + k * 3 + 1, none⟩ = some (.int .i64 x2) := rb 1 _ rfl
        have q2 : w2.cell? ⟨bb, ob + k * 3 + 2, none⟩ = some (.int .i64 x3) := rb 2 _ rfl
        clear ra rb
        go_wp2_with fail
        go_quiet (fail)
        go_wp2_with fail
        exact ⟨⟨k + 1, _, by omega, congrArg _ (by omega), rfl⟩, by simp [intOf]; omega⟩
      · obtain rfl : k = nM := by omega
        go_wp2_with fail
        go_loopw [6] (fun i wr => ∃ (j d : Nat), j ≤ nT ∧ i = .int .i64 (j : Int) ∧ wr = w2.drewN d) (fun i _ => nT - (intOf i).toNat)
        case atStart => exact ⟨0, q, Nat.zero_le _, rfl, rfl⟩
        case round =>
          obtain ⟨j, q2, hj, rfl, rfl⟩ := hrel
          by_cases hlt2 : j < nT
          · have hl1 : j < tr.length := by have := HA.out.2.2.2.2.2.2.2.1; omega
            obtain ⟨ba, oa, rfl, -, _, ra⟩ := (HA.out.2.1.keep (HF.out.weaken fun _ _ _ => trivial)).at1 hlt2
            obtain ⟨bb, ob, rfl, -, _, rb⟩ := (HA.out.2.2.2.2.1.keep (HF.out.weaken fun _ _ _ => trivial)).at1 hlt2
            obtain ⟨x, hx⟩ : ∃ x, x = tr[j] := ⟨_, rfl⟩
            have p0 : w2.cell? ⟨ba, oa + j, none⟩ = some (.int .i64 x) := by rw [ra, hx]; simp [ics]
            have q0 : w2.cell? ⟨bb, ob + j, none⟩ = some (.int .i64 x) := by rw [rb, hx]; simp [ics]
            clear hx ra rb
            go_wp2_with fail
            go_quiet (fail)
            go_wp2_with fail
            exact ⟨⟨j + 1, _, by omega, congrArg _ (by omega), rfl⟩, by simp [intOf]; omega⟩
          · obtain rfl : j = nT := by omega
            go_wp2_with fail
            go_ret
            exact ⟨rfl, HF.out.drewN _⟩
/-- Two marks that hold the same. -/
theorem samemark_any (Z1 Z2 : Nat → Prop) (x y : MkV) (w : World) (hd : x.d = y.d) (hf : MkFit x.d) (h1 : MkOk w Z1 x) (h2 : MkOk w Z2 y) :
    Calls Try.prog 33 #[.agg x.cells.toArray, .agg y.cells.toArray] w fun e w' => e = .returned (.bool true) ∧ Fresh w w' := by
  obtain ⟨d, vm, vt, vb⟩ := x
  obtain ⟨d', vm', vt', vb'⟩ := y
  simp only at hd
  subst hd
  obtain ⟨hm, ht, hb⟩ := h1
  obtain ⟨hm', ht', hb'⟩ := h2
  simp only at hm ht hb hm' ht' hb'
  obtain ⟨A1, c1, rfl, -, -, m1⟩ := hm
  obtain ⟨A2, c2, rfl, -, -, t1⟩ := ht
  obtain ⟨A3, c3, rfl, -, -, b1⟩ := hb
  obtain ⟨A4, c4, rfl, -, -, m2⟩ := hm'
  obtain ⟨A5, c5, rfl, -, -, t2⟩ := ht'
  obtain ⟨A6, c6, rfl, -, -, b2⟩ := hb'
  exact samemark_flat Z1 Z2 d.at_ d.kind d.node d.inc d.e1 d.e2 d.e3 d.e4 d.sender d.seq d.pos d.n d.cmd.c d.cmd.i d.cmd.r d.cmd.o d.rc d.rn d.err d.cmd.k d.cmd.v d.cmd.d d.rv d.mem d.tr d.body A1 A2 A3 A4 A5 A6 _ _ _ c1 c2 c3 c4 c5 c6 w rfl rfl rfl hf.m hf.t m1 t1 b1 m2 t2 b2
end Go.Proofs.Ytfpcmleeehciaaa
