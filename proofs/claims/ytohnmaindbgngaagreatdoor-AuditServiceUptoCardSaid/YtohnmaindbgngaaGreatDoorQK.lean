/-
  MERGED: SrvA
-/
import Derived.Test.YtohnmaindbgngaaGreatDoorQF
import Derived.Test.YtohnmaindbgngaaGreatDoorQJ
namespace Go.Proofs.YtohnmaindbgngaaGreatDoor
set_option linter.unusedVariables false
set_option linter.unusedSimpArgs false
open Go.RowKit

/-- A mark as audit.Service takes it. -/
structure SIn (B : Nat) (w : World) (x : MkV) : Prop where
  ints : MkInt x.d
  cmd : InC x.d.cmd
  n : I64 x.d.n
  ok : MkOk w (fun j => j < B) x
  m : x.d.mem.length ≤ 1048576
  one : MkOne x
theorem SIn.keep {B : Nat} {w w' : World} {x : MkV} {Z : Nat → Prop} (h : SIn B w x) (hk : Keep Z w w') (hz : ∀ j, j < B → Z j) : SIn B w' x := ⟨h.ints, h.cmd, h.n, h.ok.keep (hk.weaken fun j _ hj => hz j hj), h.m, h.one⟩
theorem part_info : (Tryz.prog.info? 102).map (·.size) = some 19 := by kernel_rfl
/-- What stands behind k members. -/
structure EntW (w1 wr : World) (ms : List MemD) (k : Nat) (out : Value) : Prop where
  own : wr.ownsRow w1.heap.size 3 1 out k (ics ((ms.take k).map MemD.p))
  fresh : Fresh w1 wr
set_option maxRecDepth 20000 in
set_option maxHeartbeats 1000000 in
theorem enter_any (Z : Nat → Prop) (B b : Nat) (p : PartD) (x : MkV) (A : Option Addr) (n c : Nat) (vs : List Int) (w : World) (hb : Blk w b 102 (partV p)) (hx : SIn B w x) (hv : Rd w Z 1 A n (ics vs)) (hzb : ¬ Z b) (hl : vs.length = n) (hn : n ≤ 1048576) (hB : ballotB vs = true) :
    Calls Tryz.prog 28 #[.pointer (some ⟨b, 0, none⟩), .agg x.cells.toArray, .slice A n c] w fun e w' => e = .returned (.tuple #[]) ∧ Blk w' b 102 (partV (enterD vs x.d p)) ∧ Keep (fun j => j ≠ b) w w' := by
  obtain ⟨w1, hw1⟩ : ∃ w1, w1 = w.alloc (.cells x.cells.toArray 51) := ⟨_, rfl⟩
  obtain ⟨bm, hbm⟩ : ∃ b, b = w.heap.size := ⟨_, rfl⟩
  have hf1 : Fresh w w1 := hw1 ▸ (Keep.refl _ w).alloc _
  have hmb : MkB w1 bm x := by rw [hw1, hbm]; exact MkB.new w x
  have hsz : w1.heap.size = w.heap.size + 1 := by rw [hw1]; exact Array.size_push _
  obtain ⟨Am, cm, em, -, -, rm⟩ := hx.ok.m
  obtain ⟨m, hm⟩ : ∃ m, m = x.d.mem.length := ⟨_, rfl⟩
  rw [← hm] at em rm
  have hml : m ≤ 1048576 := hm ▸ hx.m
  have H := Lib.hid (And.intro hf1 (And.intro hmb (And.intro hb (And.intro (rm.keep (hf1.weaken fun _ _ _ => trivial)) (And.intro hm (And.intro hbm hsz))))))
  have HQ := Lib.hid (fun (A2 : Option Addr) (c2 : Nat) (w' : World) (hf : Keep (fun j => j ≠ b) w w') (h2 : Rd w' (fun _ => True) 1 A2 m (ics (x.d.mem.map MemD.p))) => quorate_any (fun _ => True) A n c vs A2 m c2 (x.d.mem.map MemD.p) w' ((hv.keep (hf.weaken fun j _ hj e => hzb (e ▸ hj))).weaken fun _ _ => trivial) hl hn hB h2 (by simp [hm]) hml)
  have c8 : w1.cell? ⟨bm, 8, none⟩ = some (.slice Am m cm) := hmb.vm.trans (congrArg some em)
  have tb := hmb.blk.lt
  clear hv hb hx hf1 hmb hsz em rm hm
  go_enter Tryz.func28, Tryz.ntmps28
  go_upto_region 1 with (fail)
  rw [← hbm, ← hw1]
  clear hw1 hbm
  go_wp2_with fail
  go_loopw [6, 12] (fun out iv wr => ∃ k : Nat, k ≤ m ∧ iv = .int .i64 (k : Int) ∧ Hid (EntW w1 wr x.d.mem k out)) (fun _ iv _ => m - (intOf iv).toNat)
  case atStart => exact ⟨0, Nat.zero_le _, rfl, Lib.hid ⟨World.ownsRow_nil _ _ _ _, Keep.refl _ _⟩⟩
  case round =>
    rename World => wr
    obtain ⟨k, hk, rfl, HW⟩ := hrel
    by_cases hlt : k < m
    · have hkl : k < x.d.mem.length := by rw [← H.out.2.2.2.2.1]; exact hlt
      obtain ⟨g, o, rfl, hz, hr⟩ := Rd.range mem_three (H.out.2.2.2.1.keep (HW.out.fresh.weaken fun _ _ _ => trivial)) hkl hlt
      obtain ⟨y, hy⟩ : ∃ y, y = x.d.mem[k] := ⟨_, rfl⟩
      rw [← hy] at hr
      have c0 : wr.cell? ⟨g, o + k * 3, none⟩ = some (.int .i64 y.p) := hr 0 _ rfl
      have c1 : wr.cell? ⟨g, o + k * 3 + 1, none⟩ = some (.int .i64 y.i) := hr 1 _ rfl
      have c2 : wr.cell? ⟨g, o + k * 3 + 2, none⟩ = some (.int .i64 y.c) := hr 2 _ rfl
      have HX := Lib.hid (show ∃ hl : k < x.d.mem.length, y = x.d.mem[k] from ⟨hkl, hy⟩)
      have hal : Fresh wr (wr.alloc (.cells #[.int .i64 y.p, .int .i64 y.i, .int .i64 y.c] 59)) := (Keep.refl _ wr).alloc _
      have HO := Lib.hid (And.intro (own_keep HW.out.own hal fun _ _ => trivial) (HW.out.fresh.trans hal).size)
      have HA := Lib.hid (HW.out.fresh.trans hal)
      have hk1 : (k + 1) * 8 ≤ 140737488355328 := by omega
      clear hr hy hz hkl hal
      go_wp2_with (at_builtin; refine wpList_app1B etInt rfl (.tmp 16) (.tmp 19) rfl (.int .i64 y.p) _ rfl w1.heap.size _ k _ (wr.heap.size + 1) (by simp) rfl rfl HO.out.1 hk1 HO.out.2 ?_)
      intro v' w4 ho4 hk4 hn4
      have HN : Hid (EntW w1 w4 x.d.mem (k + 1) v') := Lib.hid (by
        obtain ⟨hl, e⟩ := HX.out
        refine ⟨?_, HA.out.comp hk4 (fun _ _ h => h) fun j hj _ e => by have := (own_lt HO.out.1 e).1; omega⟩
        rw [List.take_succ_eq_append_getElem hl, List.map_append, ← e]
        simpa [ics] using ho4)
      clear ho4 hk4 hn4 HO HA
      go_wp2_with fail
      exact ⟨⟨k + 1, by omega, by simp, HN⟩, by simp [intOf]; omega⟩
    · obtain rfl : k = m := by omega
      obtain ⟨A2, c2, rfl, hr2, -⟩ := own_rd HW.out.own
      have et : x.d.mem.take k = x.d.mem := List.take_of_length_le (by rw [← H.out.2.2.2.2.1]; exact Nat.le_refl _)
      rw [et] at hr2
      have hbw := H.out.2.2.1.keep (H.out.1.trans HW.out.fresh) trivial
      have mb := H.out.2.1.blk.keep HW.out.fresh trivial
      have mbr : MkB wr bm x := ⟨mb⟩
      have c4 := mbr.e1; have c5 := mbr.e2; have c6 := mbr.e3; have c7 := mbr.e4; have tm := mb.lt; have tb := hbw.lt
      have f0 := hbw.frozen 0; have f1 := hbw.frozen 1; have f2 := hbw.frozen 2; have f3 := hbw.frozen 3; have f4 := hbw.frozen 4; have f5 := hbw.frozen 5; have f6 := hbw.frozen 6; have f7 := hbw.frozen 7
      obtain ⟨⟨g0, g1, g2, g3, g4⟩, ⟨g5, g6, g7, g8⟩, -, -⟩ := part_cells hbw
      have HB := Lib.hid hbw
      clear mb mbr hbw hr2 et
      go_upto_region 8 with (fail)
      generalize hw5 : World.setCell _ _ _ = w5
      have hk5 : Keep (fun j => j ≠ b) w w5 := by
        rw [← hw5]
        exact ((((((H.out.1.trans HW.out.fresh).weaken fun _ _ _ => trivial : Keep (fun j => j ≠ b) w wr).setCell (fun _ h => h rfl) _).setCell (fun _ h => h rfl) _).setCell (fun _ h => h rfl) _).setCell (fun _ h => h rfl) _).setCell (fun _ h => h rfl) _
      have hb5 : Blk w5 b 102 (partV { p with id := x.d.id }) := by
        rw [← hw5]
        exact ((((HB.out.set 0 (.int .i64 x.d.e1)).set 1 (.int .i64 x.d.e2)).set 2 (.int .i64 x.d.e3)).set 3 (.int .i64 x.d.e4)).set 4 (.slice none 0 0)
      have hr5 : Rd w5 (fun _ => True) 1 A2 k (ics (x.d.mem.map MemD.p)) := by
        have h1 := HW.out.own
        have hbn : ∀ j, (Value.slice A2 k c2).ownBlock = some j → j ≠ b := fun j e => by
          have h2 := (own_lt h1 e).1
          have h3 := H.out.2.2.1.lt
          have h4 := H.out.2.2.2.2.2.2
          omega
        have et : x.d.mem.take k = x.d.mem := List.take_of_length_le (by rw [← H.out.2.2.2.2.1]; exact Nat.le_refl _)
        rw [et] at h1
        have h2 : Keep (fun j => j ≠ b) wr w5 := by
          rw [← hw5]
          exact (((((Keep.refl (fun j => j ≠ b) wr).setCell (fun _ h => h rfl) _).setCell (fun _ h => h rfl) _).setCell (fun _ h => h rfl) _).setCell (fun _ h => h rfl) _).setCell (fun _ h => h rfl) _
        obtain ⟨A3, c3, e3, hr3, -⟩ := own_rd (own_keep h1 h2 hbn)
        injection e3 with e3 _ e4
        subst e3 e4
        exact hr3.weaken fun _ _ => trivial
      have HC := Lib.hid (HQ.out A2 c2 w5 hk5 hr5)
      have H5 := Lib.hid (And.intro hk5 hb5)
      obtain ⟨qb, qe, hq, hqb⟩ : ∃ (qb : Bool) (qe : Int), quorE vs (x.d.mem.map MemD.p) = .tuple #[.bool qb, .int .i64 qe] ∧ qb = quorB vs (x.d.mem.map MemD.p) := by
        unfold quorE quorB quorV
        cases packD vs.length (-1) 0 (x.d.mem.map MemD.p) with
        | none => exact ⟨_, _, rfl, rfl⟩
        | some set => exact ⟨_, _, rfl, rfl⟩
      rw [hq] at HC
      have HQB := Lib.hid hqb
      clear hw5 hk5 hb5 hr5 hq hqb c4 c5 c6 c7 tm tb f0 f1 f2 f3 f4 f5 f6 f7 g0 g1 g2 g3 g4 g5 g6 g7 g8 HB HQ c8
      go_wp2_with fail
      refine Calls.mono HC.out ?_
      rintro e w6 ⟨rfl, hf6⟩
      have hb6 := H5.out.2.keep hf6 trivial
      obtain ⟨-, ⟨g5, g6, g7, g8⟩, -, tb⟩ := part_cells hb6
      have f5 := hb6.frozen 5; have f6 := hb6.frozen 6; have f7 := hb6.frozen 7
      have H6 := Lib.hid (And.intro hb6 (H5.out.1.trans (hf6.weaken fun _ _ _ => trivial)))
      clear hb6 hf6 HC
      go_wp2_with fail
      go_end0
      refine ⟨rfl, ?_, ((H6.out.2.setCell (fun _ h => h rfl) _).setCell (fun _ h => h rfl) _).setCell (fun _ h => h rfl) _⟩
      have := ((H6.out.1.set 6 (.bool qb)).set 5 (.bool true)).set 7 (.bool false)
      rw [HQB.out] at this ⊢
      exact this
end Go.Proofs.YtohnmaindbgngaaGreatDoor
