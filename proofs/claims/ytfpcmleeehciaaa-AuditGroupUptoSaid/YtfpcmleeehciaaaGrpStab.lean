/-
  WALK OF stable: RULE 10.
-/
import Derived.Test.YtfpcmleeehciaaaGrpSend
namespace Go.Proofs.Ytfpcmleeehciaaa
set_option linter.unusedVariables false
set_option linter.unusedSimpArgs false
open Go.RowKit Go.Shelf

def safN (s : GrpD) (m : MarkD) : GrpD := { s with lives := upd s.lives m.who (some { s.life m.who with safe := m.pos }) }
theorem nextG_safe (s : GrpD) (m : MarkD) (h : m.kind = 9) : nextG s m = safN { s with at_ := m.at_ } m := by
  unfold nextG safN
  simp only [h]
  rfl
theorem zero_int (n : Nat) : Value.int .i64 ((0 : Nat) : Int) = .int .i64 0 := rfl
set_option maxRecDepth 20000 in
set_option maxHeartbeats 4000000 in
theorem stable_any {w : World} {B : Nat} {T : Nat → Tag} {F : Fix} {K k : Nat} {s : GrpD} (hG : GM w B T F K s) (hB : BdG s k) (hK : K ≤ 4000000) (hk : k ≤ 1048575) (x : MkV) (hx : MkIn w B x) {v : LifeD} (hv : s.lives x.d.who = some v) (b : Nat)
    (hp : (Instr.lookup 68 (.map (some F.v)) (whoA x.d.who) false).run Try.prog w = .ok (.pointer (some ⟨b, 0, none⟩)) w) :
    Calls Try.prog 26 #[.pointer (some ⟨F.g, 0, none⟩), whoA x.d.who, .pointer (some ⟨b, 0, none⟩), .agg x.cells.toArray] w fun e w' =>
      e = .returned (.int .i64 (safR s x.d)) ∧ StepP T w w' B F K (safR s x.d) (safN s x.d) := by
  obtain ⟨b', f, A, c, hm, LK, hset⟩ := hG.lives.open hx.ints.who hv
  obtain rfl : b' = b := by
    have h1 := LK w (Keep.refl _ w)
    rw [hp] at h1
    injection h1 with h1
    injection h1 with h1
    injection h1 with h1
    injection h1 with h1
    exact h1.symm
  have hlife := life_of hv
  obtain ⟨r, hr0⟩ : ∃ r, r = safR s x.d := ⟨_, rfl⟩
  rw [← hr0]
  obtain ⟨bw, hbw⟩ : ∃ n, n = belowD (s.order x.d.id) x.d.pos := ⟨_, rfl⟩
  obtain ⟨wn, hwn⟩ : ∃ n, n = min (s.count (x.d.id, x.d.who)) bw := ⟨_, rfl⟩
  have hR : r = (if v.id = nov ∨ x.d.id ≠ v.id ∨ v.blocked = true ∨ x.d.pos ≤ v.safe then 10 else if v.mem.all (fun y => (s.inst x.d.id).any (fun e => decide (e.w = (y.p, y.i))) && decide (min (s.count (x.d.id, (y.p, y.i))) bw = wn)) = false then 10 else 0) := by rw [hr0, hwn, hbw]; unfold safR; rw [hlife]
  have hN : safN s x.d = { s with lives := upd s.lives x.d.who (some { v with safe := x.d.pos }) } := by unfold safN; rw [hlife]
  have H := Lib.hid (And.intro hG (And.intro hx (And.intro hm (And.intro hset (And.intro hR (And.intro hN (And.intro hbw (And.intro hwn hB))))))))
  clear hG hx hm hset hR hN hr0 hlife LK hp hv hbw hwn hB
  unfold whoA
  go_enter Try.func26, Try.ntmps26
  go_wp2_with fail
  obtain ⟨w1, hw1⟩ : ∃ w1, w1 = ((w.alloc (.cells #[.pointer (some ⟨F.g, 0, none⟩)] 56)).alloc (.cells #[.int .i64 x.d.who.1, .int .i64 x.d.who.2] 78)).alloc (.cells x.cells.toArray 50) := ⟨_, rfl⟩
  obtain ⟨bm, hbm⟩ : ∃ b, b = w.heap.size + 1 + 1 := ⟨_, rfl⟩
  obtain ⟨bu, hbu⟩ : ∃ b, b = w.heap.size + 1 := ⟨_, rfl⟩
  obtain ⟨bs, hbs⟩ : ∃ b, b = w.heap.size := ⟨_, rfl⟩
  rw [← hw1, ← hbm, ← hbu, ← hbs]
  have hf1 : Fresh w w1 := hw1 ▸ (((Keep.refl _ w).alloc _).alloc _).alloc _
  have hsb : Blk w1 bs 56 #[.pointer (some ⟨F.g, 0, none⟩)] := by rw [hw1, hbs]; exact ((Blk.new w _ _).alloc _).alloc _
  have hwb : Blk w1 bu 78 #[.int .i64 x.d.who.1, .int .i64 x.d.who.2] := by
    rw [hw1, hbu]
    have := (Blk.new (w.alloc (.cells #[.pointer (some ⟨F.g, 0, none⟩)] 56)) 78 #[.int .i64 x.d.who.1, .int .i64 x.d.who.2]).alloc (.cells x.cells.toArray 50)
    simpa using this
  have hmb : MkB w1 bm x := by
    have := MkB.new ((w.alloc (.cells #[.pointer (some ⟨F.g, 0, none⟩)] 56)).alloc (.cells #[.int .i64 x.d.who.1, .int .i64 x.d.who.2] 78)) x
    rw [hw1, hbm]
    simpa using this
  have hnb : b' < w.heap.size := H.out.2.2.1.blk.lt
  have H1 := Lib.hid (And.intro hf1 (And.intro hsb (And.intro hwb hmb)))
  have HZ := Lib.hid (And.intro (show w.heap.size ≤ bs by omega) (And.intro (show w.heap.size ≤ bu by omega) (show w.heap.size ≤ bm by omega)))
  have hlb := H.out.2.2.1.blk.keep hf1 trivial
  have l1 : w1.cell? ⟨b', 1, none⟩ = some (.bool v.blocked) := hlb.cell 1
  have l2 : w1.cell? ⟨b', 2, none⟩ = some (.int .i64 v.id.1) := hlb.cell 2
  have l3 : w1.cell? ⟨b', 3, none⟩ = some (.int .i64 v.id.2.1) := hlb.cell 3
  have l4 : w1.cell? ⟨b', 4, none⟩ = some (.int .i64 v.id.2.2.1) := hlb.cell 4
  have l5 : w1.cell? ⟨b', 5, none⟩ = some (.int .i64 v.id.2.2.2) := hlb.cell 5
  have l8 : w1.cell? ⟨b', 8, none⟩ = some (.int .i64 v.safe) := hlb.cell 8
  have c4 := hmb.e1; have c5 := hmb.e2; have c6 := hmb.e3; have c7 := hmb.e4; have c12 := hmb.pos
  have Q1 := fun w => eqview v.id nov w
  obtain ⟨d1, hd1⟩ : ∃ d, d = decide (v.id = nov) := ⟨_, rfl⟩
  rw [← hd1] at Q1
  simp only [nov] at Q1
  have Q2 := fun w => neview x.d.id v.id w
  obtain ⟨d2, hd2⟩ : ∃ d, d = decide (x.d.id ≠ v.id) := ⟨_, rfl⟩
  rw [← hd2] at Q2
  simp only [MarkD.id] at Q2
  obtain ⟨bl, hbl⟩ : ∃ d, d = v.blocked := ⟨_, rfl⟩
  rw [← hbl] at l1
  have HD := Lib.hid (And.intro hd1 (And.intro hd2 hbl))
  clear hw1 hbm hbu hbs hf1 hsb hwb hmb hlb hd1 hd2 hbl hnb
  cases d1
  · cases d2
    · cases bl
      · by_cases hq : x.d.pos ≤ v.safe
        · obtain rfl : r = 10 := by rw [H.out.2.2.2.2.1, if_pos (.inr (.inr (.inr hq)))]
          go_quiet (fail)
          go_wp2_with fail
          go_ret
          exact ⟨rfl, StepP.bad (H1.out.1.drewN _) (by decide)⟩
        · have hR := H.out.2.2.2.2.1
          rw [if_neg (by
            rintro (h | h | h | h)
            · have := HD.out.1; rw [decide_eq_true h] at this; cases this
            · have := HD.out.2.1; rw [decide_eq_true h] at this; cases this
            · rw [← HD.out.2.2] at h; cases h
            · exact hq h)] at hR
          have HR := Lib.hid hR
          have hqd : decide (x.d.pos ≤ v.safe) = false := decide_eq_false hq
          clear hR
          go_quiet (fail)
          go_wp2_with fail
          generalize hw2 : World.drewN w1 _ = w2
          have hf2 : Fresh w w2 := by rw [← hw2]; exact H1.out.1.drewN _
          have hsb : Blk w2 bs 56 #[.pointer (some ⟨F.g, 0, none⟩)] := by rw [← hw2]; exact H1.out.2.1.keep ((Keep.refl (fun _ => True) w1).drewN _) trivial
          have hwb : Blk w2 bu 78 #[.int .i64 x.d.who.1, .int .i64 x.d.who.2] := by rw [← hw2]; exact H1.out.2.2.1.keep ((Keep.refl (fun _ => True) w1).drewN _) trivial
          have hmb : MkB w2 bm x := by rw [← hw2]; exact ⟨H1.out.2.2.2.blk.keep ((Keep.refl (fun _ => True) w1).drewN _) trivial⟩
          clear hw2 l1 l2 l3 l4 l5 l8 c4 c5 c6 c7 c12 Q1 Q2 hqd HD hq
          have hG := H.out.1
          have hG2 := hG.fresh hf2
          obtain ⟨Ao, co, hrow, LO⟩ := hG.order.lookF H.out.2.1.ints.id
          obtain ⟨lo, hlo⟩ : ∃ l, l = s.order x.d.id := ⟨_, rfl⟩
          rw [← hlo] at hrow LO
          have LO1 : (Instr.lookup 72 (.map (some F.o)) (.agg #[.int .i64 x.d.e1, .int .i64 x.d.e2, .int .i64 x.d.e3, .int .i64 x.d.e4]) false).run Try.prog w2.drew = .ok (.slice Ao lo.length co) w2.drew := LO _ hf2.drew
          have LO2 : ∀ o, (Instr.lookup 72 (.map (some F.o)) (.agg #[.int .i64 x.d.e1, .int .i64 x.d.e2, .int .i64 x.d.e3, .int .i64 x.d.e4]) false).run Try.prog ((w2.alloc o).drew) = .ok (.slice Ao lo.length co) ((w2.alloc o).drew) := fun o => LO _ (hf2.alloc o).drew
          have HK : Hid (∀ w', Fresh w2 w' → (Fresh w2 w' ∧ w'.cell? ⟨bs, 0, none⟩ = some (.pointer (some ⟨F.g, 0, none⟩)) ∧ w'.cell? ⟨F.g, 8, none⟩ = some (.map (some F.o)) ∧ w'.cell? ⟨bm, 4, none⟩ = some (.int .i64 x.d.e1) ∧ w'.cell? ⟨bm, 5, none⟩ = some (.int .i64 x.d.e2) ∧ w'.cell? ⟨bm, 6, none⟩ = some (.int .i64 x.d.e3) ∧ w'.cell? ⟨bm, 7, none⟩ = some (.int .i64 x.d.e4))) := Lib.hid (fun w' hk =>
            ⟨hk, hk.cellAt (hsb.cell 0) trivial, hk.cellAt (hG2.blk.cell 8) trivial, hk.cellAt hmb.e1 trivial, hk.cellAt hmb.e2 trivial, hk.cellAt hmb.e3 trivial, hk.cellAt hmb.e4 trivial⟩)
          have H2 := Lib.hid (And.intro hf2 (And.intro hsb (And.intro hwb (And.intro hmb (And.intro hG2 (And.intro hrow hlo))))))
          clear hG hG2 hf2 hsb hwb hmb hrow LO hlo
          go_cut [9] (fun s9 wx => ∃ g9 : Nat, s9 = .pointer (some ⟨g9, 0, none⟩) ∧ Hid (Fresh w2 wx ∧ w2.heap.size ≤ g9 ∧ wx.cell? ⟨g9, 0, none⟩ = some (.slice Ao lo.length co)))
          case first =>
            go_region_held3 (fun w' => Fresh w2 w' ∧ w'.cell? ⟨bs, 0, none⟩ = some (.pointer (some ⟨F.g, 0, none⟩)) ∧ w'.cell? ⟨F.g, 8, none⟩ = some (.map (some F.o)) ∧ w'.cell? ⟨bm, 4, none⟩ = some (.int .i64 x.d.e1) ∧ w'.cell? ⟨bm, 5, none⟩ = some (.int .i64 x.d.e2) ∧ w'.cell? ⟨bm, 6, none⟩ = some (.int .i64 x.d.e3) ∧ w'.cell? ⟨bm, 7, none⟩ = some (.int .i64 x.d.e4))
              (first | exact HK.out _ ((Keep.refl _ w2).drew) | exact HK.out _ (((Keep.refl _ w2).drew).alloc _) | exact HK.out _ ((((Keep.refl _ w2).drew).alloc _).setCell (fun h => absurd h (Nat.lt_irrefl _)) _)) (fail)
            all_goals go_wp2_with fail
            all_goals go_meet
            all_goals exact ⟨_, rfl, Lib.hid ⟨((Keep.refl _ w2).alloc _).drew, Nat.le_refl _, ((Blk.new w2 116 #[.slice Ao lo.length co]).keep ((Keep.refl (fun _ => True) _).drew) trivial).cell 0⟩⟩
          case rest =>
          rename World => w3
          obtain ⟨g9, rfl, HC⟩ := hcut
          have hf3 := H2.out.1.trans HC.out.1
          have c9 := HC.out.2.2
          have hmb : MkB w3 bm x := ⟨H2.out.2.2.2.1.blk.keep HC.out.1 trivial⟩
          have hll : lo.length ≤ 1048576 := by
            have := H.out.2.2.2.2.2.2.2.2.order x.d.id
            rw [← H2.out.2.2.2.2.2.2] at this
            omega
          obtain ⟨Ar, cr, hvr, hrr, -⟩ := own_rd H2.out.2.2.2.2.2.1.1
          injection hvr with hv1 hv2 hv3
          subst hv1 hv3
          have e50 : Enters Try.prog 50 := enters_of Try.func50 (by kernel_rfl) rfl
          have HS := search_any e50 (cap := #[.pointer (some ⟨g9, 0, none⟩), .pointer (some ⟨bm, 0, none⟩)]) (fun i => decide (x.d.pos < (lo.getD i ⟨0, 0, 0, []⟩).pos)) lo.length w3 hll (fun W i hi hf => by
            have := below_one g9 bm Ao co lo x.d.pos _ i hi W (hf.cellAt c9 trivial) (hf.cellAt hmb.pos trivial) (hrr.keep ((hf3.trans hf).weaken fun _ _ _ => trivial)) hll
            simpa using this)
          have hbw : (seekF (fun i => decide (x.d.pos < (lo.getD i ⟨0, 0, 0, []⟩).pos)) 0 lo.length) = bw := by
            rw [H.out.2.2.2.2.2.2.1, ← H2.out.2.2.2.2.2.2]; rfl
          rw [hbw] at HS
          have HS2 := Lib.hid HS
          have H3 := Lib.hid (And.intro hf3 (And.intro (H2.out.2.1.keep HC.out.1 trivial) (And.intro (H2.out.2.2.1.keep HC.out.1 trivial) (And.intro hmb HC.out))))
          have l9 := lt_of_cell c9
          have lm := hmb.blk.lt
          clear hf3 hmb hrr e50 HS hbw HC HK LO1 LO2 hv2
          go_wp2_with fail
          refine Calls.mono HS2.out ?_
          rintro e w4 ⟨rfl, hf4⟩
          have H4 := Lib.hid (And.intro (H3.out.1.trans hf4) (And.intro (H3.out.2.1.keep hf4 trivial) (And.intro (H3.out.2.2.1.keep hf4 trivial) (MkB.mk (H3.out.2.2.2.1.blk.keep hf4 trivial)))))
          clear hf4 HS2 H3 H2 c9 l9 lm
          go_wp2_with fail
          obtain ⟨g10, hg10⟩ : ∃ g, g = w4.heap.size := ⟨_, rfl⟩
          rw [← hg10]
          generalize hw5 : World.alloc w4 _ = w5
          have hf5 : Fresh w4 w5 := by rw [← hw5]; exact (Keep.refl _ w4).alloc _
          have h10 : w5.cell? ⟨g10, 0, none⟩ = some (.int .i64 (bw : Int)) := by rw [← hw5, hg10]; exact (Blk.new w4 3 #[.int .i64 (bw : Int)]).cell 0
          have H5 := Lib.hid (And.intro (H4.out.1.trans hf5) (And.intro (H4.out.2.1.keep hf5 trivial) (And.intro (H4.out.2.2.1.keep hf5 trivial) (And.intro (MkB.mk (H4.out.2.2.2.blk.keep hf5 trivial)) h10))))
          clear hg10 hw5 hf5 H4 h10
          have LC := H.out.1.count.lookF (x := (x.d.id, x.d.who)) H.out.2.1.ints.id H.out.2.1.ints.who
          obtain ⟨cn, hcn⟩ : ∃ n, n = s.count (x.d.id, x.d.who) := ⟨_, rfl⟩
          rw [← hcn] at LC
          have hmin : min (cn : Int) (bw : Int) = (wn : Int) := by have := H.out.2.2.2.2.2.2.2.1; rw [← hcn] at this; omega
          simp only [spotA, MarkD.id] at LC
          have LC1 := LC w5.drew H5.out.1.drew
          have LC2 := fun o => LC ((w5.alloc o).drew) (H5.out.1.alloc o).drew
          have hG5 := H.out.1.fresh H5.out.1
          have HK : Hid (∀ w', Fresh w5 w' → (Fresh w5 w' ∧ w'.cell? ⟨bs, 0, none⟩ = some (.pointer (some ⟨F.g, 0, none⟩)) ∧ w'.cell? ⟨F.g, 9, none⟩ = some (.map (some F.c)) ∧ w'.cell? ⟨bm, 4, none⟩ = some (.int .i64 x.d.e1) ∧ w'.cell? ⟨bm, 5, none⟩ = some (.int .i64 x.d.e2) ∧ w'.cell? ⟨bm, 6, none⟩ = some (.int .i64 x.d.e3) ∧ w'.cell? ⟨bm, 7, none⟩ = some (.int .i64 x.d.e4) ∧ w'.cell? ⟨bu, 0, none⟩ = some (.int .i64 x.d.who.1) ∧ w'.cell? ⟨bu, 1, none⟩ = some (.int .i64 x.d.who.2) ∧ w'.cell? ⟨g10, 0, none⟩ = some (.int .i64 (bw : Int)))) := Lib.hid (fun w' hk =>
            ⟨hk, hk.cellAt (H5.out.2.1.cell 0) trivial, hk.cellAt (hG5.blk.cell 9) trivial, hk.cellAt H5.out.2.2.2.1.e1 trivial, hk.cellAt H5.out.2.2.2.1.e2 trivial, hk.cellAt H5.out.2.2.2.1.e3 trivial, hk.cellAt H5.out.2.2.2.1.e4 trivial, hk.cellAt (H5.out.2.2.1.cell 0) trivial, hk.cellAt (H5.out.2.2.1.cell 1) trivial, hk.cellAt H5.out.2.2.2.2 trivial⟩)
          clear LC hcn hG5
          go_cut [11] (fun s11 wx => ∃ g11 : Nat, s11 = .pointer (some ⟨g11, 0, none⟩) ∧ Hid (Fresh w5 wx ∧ w5.heap.size ≤ g11 ∧ wx.cell? ⟨g11, 0, none⟩ = some (.int .i64 (wn : Int))))
          case first =>
            go_region_held3 (fun w' => Fresh w5 w' ∧ w'.cell? ⟨bs, 0, none⟩ = some (.pointer (some ⟨F.g, 0, none⟩)) ∧ w'.cell? ⟨F.g, 9, none⟩ = some (.map (some F.c)) ∧ w'.cell? ⟨bm, 4, none⟩ = some (.int .i64 x.d.e1) ∧ w'.cell? ⟨bm, 5, none⟩ = some (.int .i64 x.d.e2) ∧ w'.cell? ⟨bm, 6, none⟩ = some (.int .i64 x.d.e3) ∧ w'.cell? ⟨bm, 7, none⟩ = some (.int .i64 x.d.e4) ∧ w'.cell? ⟨bu, 0, none⟩ = some (.int .i64 x.d.who.1) ∧ w'.cell? ⟨bu, 1, none⟩ = some (.int .i64 x.d.who.2) ∧ w'.cell? ⟨g10, 0, none⟩ = some (.int .i64 (bw : Int)))
              (first | exact HK.out _ ((Keep.refl _ w5).drew) | exact HK.out _ (((Keep.refl _ w5).drew).alloc _) | exact HK.out _ ((((Keep.refl _ w5).drew).alloc _).setCell (fun h => absurd h (Nat.lt_irrefl _)) _)) (fail)
            all_goals go_wp2_with fail
            all_goals go_meet
            all_goals exact ⟨_, rfl, Lib.hid ⟨((Keep.refl _ w5).alloc _).drew, Nat.le_refl _, ((Blk.new w5 3 #[.int .i64 (wn : Int)]).keep ((Keep.refl (fun _ => True) _).drew) trivial).cell 0⟩⟩
          case rest =>
          rename World => w6
          obtain ⟨g11, rfl, HC⟩ := hcut
          have hf6 := H5.out.1.trans HC.out.1
          have h10 := HC.out.1.cellAt H5.out.2.2.2.2 trivial
          have h11 := HC.out.2.2
          have hs6 : w6.cell? ⟨bs, 0, none⟩ = some (.pointer (some ⟨F.g, 0, none⟩)) := HC.out.1.cellAt (H5.out.2.1.cell 0) trivial
          have hm6 : MkB w6 bm x := ⟨H5.out.2.2.2.1.blk.keep HC.out.1 trivial⟩
          have hlb := H.out.2.2.1.blk.keep hf6 trivial
          have l6 : w6.cell? ⟨b', 6, none⟩ = some (.slice A v.mem.length c) := hlb.cell 6
          have e52 : Enters Try.prog 52 := enters_of Try.func52 (by kernel_rfl) rfl
          obtain ⟨Am, cm, hvm, -, -, hrm⟩ := H.out.2.2.1.mem
          injection hvm with hm1 hm2 hm3
          subst hm1 hm3
          have HE := every_mem e52 (cap := #[.pointer (some ⟨bs, 0, none⟩), .pointer (some ⟨bm, 0, none⟩), .pointer (some ⟨g10, 0, none⟩), .pointer (some ⟨g11, 0, none⟩)]) (fun y => (s.inst x.d.id).any (fun e => decide (e.w = (y.p, y.i))) && decide (min (s.count (x.d.id, (y.p, y.i))) bw = wn)) _ A v.mem.length c v.mem w6 (hrm.keep (hf6.weaken fun _ _ _ => trivial)) rfl H.out.2.2.1.le (fun W y hy hf => by
            have := each_any ((H.out.1.fresh hf6).fresh hf) H.out.2.2.2.2.2.2.2.2 (by omega) y (H.out.2.2.1.ints y hy) x H.out.2.1.ints bs bm g10 g11 bw wn (hf.cellAt hs6 trivial) ⟨hm6.blk.keep hf trivial⟩ (hf.cellAt h10 trivial) (hf.cellAt h11 trivial)
            simpa using this)
          obtain ⟨d, hd⟩ : ∃ d, d = v.mem.all (fun y => (s.inst x.d.id).any (fun e => decide (e.w = (y.p, y.i))) && decide (min (s.count (x.d.id, (y.p, y.i))) bw = wn)) := ⟨_, rfl⟩
          rw [← hd] at HE
          have hR := HR.out
          rw [← hd] at hR
          have HR2 := Lib.hid hR
          have HE2 := Lib.hid HE
          have lb := hlb.lt
          have l10 := lt_of_cell h10; have l11 := lt_of_cell h11; have ls := lt_of_cell hs6; have lm := hm6.blk.lt
          have H6 := Lib.hid (And.intro hf6 hm6)
          clear hf6 h10 h11 hs6 hm6 hlb e52 hrm HE hd hR HR HC HK LC1 LC2 hmin H5 hm2
          go_wp2_with fail
          refine Calls.mono HE2.out ?_
          rintro e w7 ⟨rfl, hf7⟩
          have H7 := Lib.hid (And.intro (H6.out.1.trans hf7) (MkB.mk (H6.out.2.blk.keep hf7 trivial)))
          clear hf7 HE2 H6 l6 lb l10 l11 ls lm
          cases d
          · obtain rfl : r = 10 := by rw [HR2.out, if_pos rfl]
            go_wp2_with fail
            go_ret
            exact ⟨rfl, StepP.bad H7.out.1 (by decide)⟩
          · obtain rfl : r = 0 := by rw [HR2.out, if_neg (by decide)]
            have c12 := H7.out.2.pos
            have hlb := H.out.2.2.1.blk.keep H7.out.1 trivial
            have lb := hlb.lt
            have e4 := hlb.frozen 4
            have a4 : w7.cell? ⟨b', 4 + 4, none⟩ = some (.int .i64 v.safe) := hlb.cell 8
            have a8 : w7.cell? ⟨b', 8, none⟩ = some (.int .i64 v.safe) := hlb.cell 8
            have e8 := hlb.frozen 8
            clear hlb
            go_wp2_with fail
            go_ret
            generalize hw8 : World.setCell w7 _ _ = w8
            have hk8 : Keep (fun j => j ≠ b') w w8 := by
              rw [← hw8]
              exact (H7.out.1.weaken (fun _ _ _ => trivial) : Keep (fun j => j ≠ b') w w7).setCell (fun _ h => h rfl) _
            have hm8 : LifeM w8 T x.d.who b' f K { v with safe := x.d.pos } A c := by
              have hm := H.out.2.2.1
              refine ⟨hm.tb, hm.tf, ?_, hm.mem.keep hk8 (fun j hj => tag_ne hj hm.tb (by simp)) (More.refl T), hm.frm.keep hk8 (tag_ne hm.tf hm.tb (by simp)), hm.le, hm.ints, hm.id⟩
              rw [← hw8]
              exact ((hm.blk.keep H7.out.1 trivial).set 8 (.int .i64 x.d.pos))
            have hL8 := H.out.2.2.2.1 (fun j => j ≠ b') w8 T K _ f A c hk8 (tag_ne H.out.1.fix.v hm8.tb (by simp)) (fun j hj => by
              rcases hj with ⟨y, hy, hj | hj⟩ | hj
              · exact tag_ne hj hm8.tb (by simp [hy])
              · exact tag_ne hj hm8.tb (by simp)
              · exact tag_ne hj hm8.tb (by simp)) (More.refl T) (Nat.le_refl K) hm8
            have hG8 := H.out.1.with_lives hk8 (fun j hj hp e => by rw [e, hm8.tb] at hp; exact hp rfl) (More.refl T) (same_low H.out.1 hk8.size) (Nat.le_refl K) hL8
            refine ⟨rfl, hk8.weaken fun j _ hj => hj.ne H.out.1 hm8.tb (by simp) (by simp), fun _ => ⟨T, More.refl T, ?_⟩⟩
            · rw [H.out.2.2.2.2.2.1]
              exact hG8.more (Keep.refl (fun _ => True) w8) (fun _ _ => trivial) (More.refl T) (same_low hG8 (Nat.le_refl _)) (Nat.le_add_right K 3)
      · obtain rfl : r = 10 := by rw [H.out.2.2.2.2.1, if_pos (.inr (.inr (.inl HD.out.2.2.symm)))]
        go_quiet (fail)
        go_wp2_with fail
        go_ret
        exact ⟨rfl, StepP.bad (H1.out.1.drewN _) (by decide)⟩
    · obtain rfl : r = 10 := by rw [H.out.2.2.2.2.1, if_pos (.inr (.inl (of_decide_eq_true HD.out.2.1.symm)))]
      go_quiet (fail)
      go_wp2_with fail
      go_ret
      exact ⟨rfl, StepP.bad (H1.out.1.drewN _) (by decide)⟩
  · obtain rfl : r = 10 := by rw [H.out.2.2.2.2.1, if_pos (.inl (of_decide_eq_true HD.out.1.symm))]
    go_quiet (fail)
    go_wp2_with fail
    go_ret
    exact ⟨rfl, StepP.bad (H1.out.1.drewN _) (by decide)⟩
end Go.Proofs.Ytfpcmleeehciaaa
