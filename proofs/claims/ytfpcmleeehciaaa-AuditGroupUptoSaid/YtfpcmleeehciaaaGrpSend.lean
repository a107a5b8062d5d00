/-
  WALK OF send: RULE 6.
-/
import Derived.Test.YtfpcmleeehciaaaGrpV
import Derived.Deep.RegionHeld3
namespace Go.Proofs.Ytfpcmleeehciaaa
set_option linter.unusedVariables false
set_option linter.unusedSimpArgs false
open Go.RowKit Go.Shelf

/-- Sizes of a mark's lists; its lists lie below B. -/
structure MkIn (w : World) (B : Nat) (x : MkV) : Prop where
  ints : MkInt x.d
  ok : MkOk w (fun j => j < B) x
  m : x.d.mem.length ≤ 1048576
  t : x.d.tr.length ≤ 1048576
  b : x.d.body.length ≤ 1048576
theorem MkIn.keep {w w' : World} {B : Nat} {x : MkV} {Z : Nat → Prop} (h : MkIn w B x) (hk : Keep Z w w') (hz : ∀ j, j < B → Z j) : MkIn w' B x := ⟨h.ints, h.ok.keep (hk.weaken fun j _ hj => hz j hj), h.m, h.t, h.b⟩
def sendN (s : GrpD) (m : MarkD) : GrpD := { s with lives := upd s.lives m.who (some { s.life m.who with acc := (s.life m.who).acc + 1 }), sent := upd s.sent (m.id, m.who, m.seq) (some m.body) }
theorem nextG_send (s : GrpD) (m : MarkD) (h : m.kind = 4) : nextG s m = sendN { s with at_ := m.at_ } m := by
  unfold nextG sendN
  simp only [h]
  rfl
/-- What a step of one kind leaves behind it: where it breaks no rule, the next state. -/
def KB (B : Nat) (T : Nat → Tag) (j : Nat) : Prop := j < B ∨ T j = .kept
theorem KB.ne {w : World} {B : Nat} {T : Nat → Tag} {F : Fix} {k : Nat} {s : GrpD} {j g : Nat} {t : Tag} (h : KB B T j) (hG : GM w B T F k s) (hg : T g = t) (h1 : t ≠ .other) (h2 : t ≠ .kept) : j ≠ g := fun e => by
  subst e
  rcases h with h | h
  · have := (hG.low j (by rw [hg]; exact h1)).1
    omega
  · rw [hg] at h; exact h2 h
theorem KB.row {w : World} {B : Nat} {T : Nat → Tag} {F : Fix} {k : Nat} {s : GrpD} {j : Nat} {v : Value} {t : Tag} (h : KB B T j) (hG : GM w B T F k s) (hv : ∀ j, v.ownBlock = some j → T j = t) (h1 : t ≠ .other) (h2 : t ≠ .kept) : v.ownBlock ≠ some j := fun e => h.ne hG (hv j e) h1 h2 rfl
def StepP (T : Nat → Tag) (w w' : World) (B : Nat) (F : Fix) (k : Nat) (r : Int) (s' : GrpD) : Prop := Keep (KB B T) w w' ∧ (r = 0 → ∃ T', More T T' ∧ GM w' B T' F (k + 3) s')
theorem StepP.bad {T : Nat → Tag} {w w' : World} {B : Nat} {F : Fix} {k : Nat} {r : Int} {s' : GrpD} (hk : Fresh w w') (h : r ≠ 0) : StepP T w w' B F k r s' := ⟨hk.weaken fun _ _ _ => trivial, fun e => absurd e h⟩
set_option maxRecDepth 20000 in
set_option maxHeartbeats 2000000 in
theorem send_any {w : World} {B : Nat} {T : Nat → Tag} {F : Fix} {K k : Nat} {s : GrpD} (hG : GM w B T F K s) (hB : BdG s k) (hK : K ≤ 4000000) (hk : k ≤ 1048575) (x : MkV) (hx : MkIn w B x) {v : LifeD} (hv : s.lives x.d.who = some v) (b : Nat)
    (hp : (Instr.lookup 68 (.map (some F.v)) (whoA x.d.who) false).run Try.prog w = .ok (.pointer (some ⟨b, 0, none⟩)) w) :
    Calls Try.prog 24 #[.pointer (some ⟨F.g, 0, none⟩), whoA x.d.who, .pointer (some ⟨b, 0, none⟩), .agg x.cells.toArray] w fun e w' =>
      e = .returned (.int .i64 (sendR s x.d)) ∧ StepP T w w' B F K (sendR s x.d) (sendN s x.d) := by
  obtain ⟨b', f, A, c, hm, LK, hset⟩ := hG.lives.open hx.ints.who hv
  obtain rfl : b' = b := by
    have h1 := LK w (Keep.refl _ w)
    rw [hp] at h1
    injection h1 with h1
    injection h1 with h1
    injection h1 with h1
    injection h1 with h1
    exact h1.symm
  have hlife := life_of hv
  obtain ⟨r, hr0⟩ : ∃ r, r = sendR s x.d := ⟨_, rfl⟩
  rw [← hr0]
  have hR : r = (if v.blocked = true ∨ x.d.id ≠ v.id ∨ x.d.seq ≠ (v.acc : Int) + 1 then 6 else 0) := by rw [hr0]; unfold sendR; rw [hlife]
  have hN : sendN s x.d = { s with lives := upd s.lives x.d.who (some { v with acc := v.acc + 1 }), sent := upd s.sent (x.d.id, x.d.who, x.d.seq) (some x.d.body) } := by unfold sendN; rw [hlife]
  have hacc := (hB.life _ _ hv).1
  have H := Lib.hid (And.intro hG (And.intro hx (And.intro hm (And.intro hset (And.intro hR hN)))))
  clear hG hB hx hm hset hR hN hr0 hlife LK hp hv
  unfold whoA
  go_enter Try.func24, Try.ntmps24
  go_wp2_with fail
  obtain ⟨w1, hw1⟩ : ∃ w1, w1 = (w.alloc (.cells #[.int .i64 x.d.who.1, .int .i64 x.d.who.2] 78)).alloc (.cells x.cells.toArray 50) := ⟨_, rfl⟩
  obtain ⟨bm, hbm⟩ : ∃ b, b = w.heap.size + 1 := ⟨_, rfl⟩
  obtain ⟨bu, hbu⟩ : ∃ b, b = w.heap.size := ⟨_, rfl⟩
  rw [← hw1, ← hbm, ← hbu]
  have hf1 : Fresh w w1 := hw1 ▸ ((Keep.refl _ w).alloc _).alloc _
  have hwb : Blk w1 bu 78 #[.int .i64 x.d.who.1, .int .i64 x.d.who.2] := by rw [hw1, hbu]; exact (Blk.new w _ _).alloc _
  have hmb : MkB w1 bm x := by
    have := MkB.new (w.alloc (.cells #[.int .i64 x.d.who.1, .int .i64 x.d.who.2] 78)) x
    rw [hw1, hbm]
    simpa using this
  have hnb : b' < w.heap.size := H.out.2.2.1.blk.lt
  have H1 := Lib.hid (And.intro hf1 (And.intro hwb (And.intro hmb (And.intro (show w.heap.size ≤ bu by omega) (show w.heap.size ≤ bm by omega)))))
  have hlb := H.out.2.2.1.blk.keep hf1 trivial
  have l1 : w1.cell? ⟨b', 1, none⟩ = some (.bool v.blocked) := hlb.cell 1
  have l2 : w1.cell? ⟨b', 2, none⟩ = some (.int .i64 v.id.1) := hlb.cell 2
  have l3 : w1.cell? ⟨b', 3, none⟩ = some (.int .i64 v.id.2.1) := hlb.cell 3
  have l4 : w1.cell? ⟨b', 4, none⟩ = some (.int .i64 v.id.2.2.1) := hlb.cell 4
  have l5 : w1.cell? ⟨b', 5, none⟩ = some (.int .i64 v.id.2.2.2) := hlb.cell 5
  have l7 : w1.cell? ⟨b', 7, none⟩ = some (.int .i64 (v.acc : Int)) := hlb.cell 7
  have e7 := hlb.frozen 7
  have c4 := hmb.e1; have c5 := hmb.e2; have c6 := hmb.e3; have c7 := hmb.e4; have c11 := hmb.seq
  have tb := hlb.lt; have tm := hmb.blk.lt
  have Q := fun w => neview x.d.id v.id w
  obtain ⟨d2, hd2⟩ : ∃ d, d = decide (x.d.id ≠ v.id) := ⟨_, rfl⟩
  rw [← hd2] at Q
  simp only [MarkD.id] at Q
  have wq : IntKind.i64.wrap ((v.acc : Int) + 1) = (v.acc : Int) + 1 := by rw [IntWalk.i64_in _ (by omega)]
  have HD2 := Lib.hid hd2
  clear hw1 hbm hbu hf1 hwb hmb hlb hd2
  obtain ⟨bl, hbl⟩ : ∃ d, d = v.blocked := ⟨_, rfl⟩
  rw [← hbl] at l1
  have HBL := Lib.hid hbl
  clear hbl
  cases bl
  · cases d2
    · by_cases hq : x.d.seq = (v.acc : Int) + 1
      · obtain rfl : r = 0 := by
          rw [H.out.2.2.2.2.1, if_neg]
          rintro (h | h | h)
          · rw [← HBL.out] at h; cases h
          · have := HD2.out; rw [decide_eq_true h] at this; cases this
          · exact h hq
        have hqb : (x.d.seq != (v.acc : Int) + 1) = false := by simpa using hq
        have hqb2 : (x.d.seq == (v.acc : Int) + 1) = true := by simpa using hq
        have HQ := Lib.hid hq
        clear hq
        go_quiet (fail)
        go_wp2_with fail
        generalize hw2 : World.setCell _ _ _ = w2
        have hk2 : Keep (fun j => j ≠ b') w w2 := by
          rw [← hw2]
          exact ((H1.out.1.weaken (fun _ _ _ => trivial) : Keep (fun j => j ≠ b') w w1).drewN nq).setCell (fun _ h => h rfl) _
        have hm2 : LifeM w2 T x.d.who b' f K { v with acc := v.acc + 1 } A c := by
          have hm := H.out.2.2.1
          refine ⟨hm.tb, hm.tf, ?_, hm.mem.keep hk2 (fun j hj => tag_ne hj hm.tb (by simp)) (More.refl T), hm.frm.keep hk2 (tag_ne hm.tf hm.tb (by simp)), hm.le, hm.ints, hm.id⟩
          rw [← hw2]
          exact ((hm.blk.keep (H1.out.1.drewN nq) trivial).set 7 (.int .i64 ((v.acc : Int) + 1)))
        have hL2 := H.out.2.2.2.1 (fun j => j ≠ b') w2 T K _ f A c hk2 (tag_ne H.out.1.fix.v hm2.tb (by simp)) (fun j hj => by
          rcases hj with ⟨y, hy, hj | hj⟩ | hj
          · exact tag_ne hj hm2.tb (by simp [hy])
          · exact tag_ne hj hm2.tb (by simp)
          · exact tag_ne hj hm2.tb (by simp)) (More.refl T) (Nat.le_refl K) hm2
        have hG2 := H.out.1.with_lives hk2 (fun j hj hp e => by rw [e, hm2.tb] at hp; exact hp rfl) (More.refl T) (same_low H.out.1 hk2.size) (Nat.le_refl K) hL2
        have hB2 : Keep (KB B T) w w2 := hk2.weaken fun j _ hj => hj.ne H.out.1 hm2.tb (by simp) (by simp)
        have hx2 := H.out.2.1.keep hB2 (fun _ h => .inl h)
        obtain ⟨Ax, cx, hvb, hnc, hnil, hrb⟩ := hx2.ok.b
        have hbu2 : Blk w2 bu 78 #[.int .i64 x.d.who.1, .int .i64 x.d.who.2] := by
          rw [← hw2]
          exact (H1.out.2.1.keep ((Keep.refl (fun j => j ≠ b') w1).drewN nq |>.setCell (fun _ h => h rfl) _) (by have := H1.out.2.2.2.1; omega))
        have hmb2 : MkB w2 bm x := by
          rw [← hw2]
          exact ⟨H1.out.2.2.1.blk.keep ((Keep.refl (fun j => j ≠ b') w1).drewN nq |>.setCell (fun _ h => h rfl) _) (by have := H1.out.2.2.2.2; omega)⟩
        have HCl := Lib.hid (clone_byte (fun j => j < B) Ax x.d.body.length cx x.d.body (World.drew w2) ⟨Ax, cx, rfl, hnc, hnil, hrb.keep ((Keep.refl _ w2).drew)⟩ hx2.b)
        have lFs : F.s < w.heap.size := (H.out.1.low F.s (by rw [H.out.1.fix.s]; simp)).2
        have HK : Hid (∀ w', Keep (fun j => j ≠ F.s) w2 w' → (Keep (fun j => j ≠ F.s) w2 w' ∧ w'.cell? ⟨F.g, 7, none⟩ = some (.map (some F.s)) ∧ w'.cell? ⟨bm, 4, none⟩ = some (.int .i64 x.d.e1) ∧ w'.cell? ⟨bm, 5, none⟩ = some (.int .i64 x.d.e2) ∧ w'.cell? ⟨bm, 6, none⟩ = some (.int .i64 x.d.e3) ∧ w'.cell? ⟨bm, 7, none⟩ = some (.int .i64 x.d.e4) ∧ w'.cell? ⟨bu, 0, none⟩ = some (.int .i64 x.d.who.1) ∧ w'.cell? ⟨bu, 1, none⟩ = some (.int .i64 x.d.who.2) ∧ w'.cell? ⟨bm, 11, none⟩ = some (.int .i64 x.d.seq) ∧ w'.cell? ⟨bm, 14, none⟩ = some (.slice Ax x.d.body.length cx))) := Lib.hid (fun w' hk => by
          have n1 : F.g ≠ F.s := tag_ne H.out.1.fix.g H.out.1.fix.s (by simp)
          have n2 : bm ≠ F.s := by have := H1.out.2.2.2.2; omega
          have n3 : bu ≠ F.s := by have := H1.out.2.2.2.1; omega
          exact ⟨hk, hk.cellAt (hG2.blk.cell 7) n1, hk.cellAt hmb2.e1 n2, hk.cellAt hmb2.e2 n2, hk.cellAt hmb2.e3 n2, hk.cellAt hmb2.e4 n2, hk.cellAt (hbu2.cell 0) n3, hk.cellAt (hbu2.cell 1) n3, hk.cellAt hmb2.seq n2, hk.cellAt (hmb2.vb.trans (congrArg some hvb)) n2⟩)
        have H2 := Lib.hid (And.intro hG2 (And.intro hB2 hx2))
        have HN := Lib.hid H.out.2.2.2.2.2
        have Tn : Hid (T F.s = .snt) := Lib.hid H.out.1.fix.s
        clear hw2 hk2 hm2 hL2 hG2 hB2 hx2 hvb hnc hnil hrb hbu2 hmb2 H H1 HBL HD2 HQ Q l1 l2 l3 l4 l5 l7 e7 c4 c5 c6 c7 c11 tb tm hqb hqb2 lFs hnb wq
        go_region_held3 (fun w' => Keep (fun j => j ≠ F.s) w2 w' ∧ w'.cell? ⟨F.g, 7, none⟩ = some (.map (some F.s)) ∧ w'.cell? ⟨bm, 4, none⟩ = some (.int .i64 x.d.e1) ∧ w'.cell? ⟨bm, 5, none⟩ = some (.int .i64 x.d.e2) ∧ w'.cell? ⟨bm, 6, none⟩ = some (.int .i64 x.d.e3) ∧ w'.cell? ⟨bm, 7, none⟩ = some (.int .i64 x.d.e4) ∧ w'.cell? ⟨bu, 0, none⟩ = some (.int .i64 x.d.who.1) ∧ w'.cell? ⟨bu, 1, none⟩ = some (.int .i64 x.d.who.2) ∧ w'.cell? ⟨bm, 11, none⟩ = some (.int .i64 x.d.seq) ∧ w'.cell? ⟨bm, 14, none⟩ = some (.slice Ax x.d.body.length cx))
          (first | exact HK.out _ ((Keep.refl _ w2).drew) | exact HK.out _ hk5 | exact HK.out _ (hk5.trans hk6))
          ((go_at_call 45; refine Calls.mono HCl.out ?_; rintro e w5 ⟨⟨vb, rfl, ho⟩, hf5⟩
            obtain ⟨Ab, cb, rfl, -, -⟩ := own_rd ho
            have hk5 : Keep (fun j => j ≠ F.s) w2 w5 := ((Keep.refl (fun j => j ≠ F.s) w2).drew).trans (hf5.weaken fun _ _ _ => trivial)
            have hG5 := Lib.hid ((H2.out.1.fresh ((Keep.refl _ w2).drew)).imm hf5)
            obtain ⟨w6, hrun, hS6, hk6⟩ := hG5.out.sent.store (by omega) (immT_more (H2.out.1.fresh ((Keep.refl _ w2).drew)) |>.at Tn.out (by simp)) H2.out.2.2.ints.id H2.out.2.2.ints.who H2.out.2.2.ints.seq (x := (x.d.id, x.d.who, x.d.seq)) (immT_sl ho) H2.out.2.2.b
            have HS6 := Lib.hid (And.intro hS6 (And.intro hk6 hf5))
            simp only [msgA, MarkD.id] at hrun
            clear hS6 ho hf5))
        go_wp2_with fail
        go_ret
        refine ⟨rfl, (H2.out.2.1.comp hk5 (fun _ _ h => h) (fun j _ h => h.ne H2.out.1 Tn.out (by simp) (by simp))).comp hk6 (fun _ _ h => h) (fun j _ h => h.ne H2.out.1 Tn.out (by simp) (by simp)), fun _ => ⟨immT T w2.drew w5, immT_more (H2.out.1.fresh ((Keep.refl _ w2).drew)), ?_⟩⟩
        rw [HN.out]
        exact (hG5.out.with_sent hk6 (fun j hj hp e => by rw [e, (hG5.out.fix.s : _ = _)] at hp; exact hp rfl) (More.refl _) (same_low hG5.out hk6.size) (Nat.le_succ K) HS6.out.1).mono (by omega)
      · obtain rfl : r = 6 := by rw [H.out.2.2.2.2.1, if_pos (.inr (.inr hq))]
        have hqb : (x.d.seq != (v.acc : Int) + 1) = true := by simpa using hq
        have hqb2 : (x.d.seq == (v.acc : Int) + 1) = false := by simpa using hq
        clear hq
        go_quiet (fail)
        go_wp2_with fail
        go_ret
        exact ⟨rfl, StepP.bad (H1.out.1.drewN _) (by decide)⟩
    · obtain rfl : r = 6 := by rw [H.out.2.2.2.2.1, if_pos (.inr (.inl (of_decide_eq_true HD2.out.symm)))]
      go_quiet (fail)
      go_wp2_with fail
      go_ret
      exact ⟨rfl, StepP.bad (H1.out.1.drewN _) (by decide)⟩
  · obtain rfl : r = 6 := by rw [H.out.2.2.2.2.1, if_pos (.inl HBL.out.symm)]
    go_quiet (fail)
    go_wp2_with fail
    go_ret
    exact ⟨rfl, StepP.bad (H1.out.1.drewN _) (by decide)⟩
end Go.Proofs.Ytfpcmleeehciaaa
