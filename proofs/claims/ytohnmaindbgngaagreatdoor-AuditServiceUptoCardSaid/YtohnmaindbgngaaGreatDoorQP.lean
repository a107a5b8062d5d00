/-
  MERGED: SrvE
-/
import Derived.Test.YtohnmaindbgngaaGreatDoorQO
namespace Go.Proofs.YtohnmaindbgngaaGreatDoor
set_option linter.unusedVariables false
set_option linter.unusedSimpArgs false
open Go.RowKit Go.BigFrame

/-! ### operations of a held region, one law each -/
section
variable {P : Program} {op : Oper} {a : Act} {w w' : World} {K : Act → World → Prop} {Q : Exit → Act → World → Prop}
theorem wp_mapUpd (t : TypeId) (m k v : Operand) (ho : op.op = .mapUpdate t m k v) {mv kv vv : Value} (hm : a.eval m = mv) (hk : a.eval k = kv) (hv : a.eval v = vv) (hrun : (Instr.mapUpdate t mv kv vv).run P w = .ok () w') (h : K (a.put op.dst undef) w') : op.wp P a w K Q := by
  unfold Oper.wp
  simp [execOp, ho, hm, hk, hv, hrun, Result.andThen]
  exact h
theorem wp_mapEnt (t : TypeId) (m k : Operand) (ho : op.op = .mapEntry t m k) {mv kv r : Value} (hm : a.eval m = mv) (hk : a.eval k = kv) (hrun : (Instr.mapEntry t mv kv).run P w = .ok r w') (h : K (a.put op.dst r) w') : op.wp P a w K Q := by
  unfold Oper.wp
  simp [execOp, ho, hm, hk, hrun, Result.andThen]
  exact h
theorem wp_entSto (t : TypeId) (m k v : Operand) (ho : op.op = .entryStore t m k v) {mv kv vv : Value} (hm : a.eval m = mv) (hk : a.eval k = kv) (hv : a.eval v = vv) (hrun : (Instr.entryStore t mv kv vv).run P w = .ok () w') (h : K (a.put op.dst undef) w') : op.wp P a w K Q := by
  unfold Oper.wp
  simp [execOp, ho, hm, hk, hv, hrun, Result.andThen]
  exact h
end
def entL (e : CmdD × ResD) : List Value := [.int .i64 e.1.c, .int .i64 e.1.i, .int .i64 e.1.r, .int .i64 e.1.o, tx e.1.k, tx e.1.v, tx e.1.d, .int .i64 e.2.code, tx e.2.val, .int .i64 e.2.n]
theorem ent_all (e : CmdD × ResD) : (entL e).toArray.all (·.oneCell') = true := by simp [entL, Value.oneCell']
/-- What 'join' may write: neither what a step may not, nor the parts. -/
def JB (W : World) (T : Nat → STag) (j : Nat) : Prop := SB W T j ∨ (T j).part' = .pts ∨ T j = .other
theorem JB.ne {W w : World} {T : Nat → STag} {F : SFix} {k : Nat} {vs : List Int} {s : SrvD} {t : STag} {j c : Nat} (h : SM W w T F k vs s) (hc : T c = t) (h1 : t ≠ .other) (h2 : t ≠ .kept) (h3 : t.part' ≠ .pts) (hj : JB W T j) : j ≠ c := by
  rcases hj with hj | hj | hj
  · exact hj.ne h hc h1 h2
  · rintro rfl
    rw [hc] at hj
    exact h3 hj
  · rintro rfl
    rw [hc] at hj
    exact h1 hj
structure StepJ (W w w' : World) (T : Nat → STag) (F : SFix) (k : Nat) (vs : List Int) (x : Int × SrvD) : Prop where
  keep : Keep (JB W T) w w'
  next : x.1 = 0 → ∃ T', SMore T T' ∧ SM W w' T' F k vs x.2
theorem StepJ.bad {W w w' : World} {T : Nat → STag} {F : SFix} {k : Nat} {vs : List Int} {x : Int × SrvD} (hf : Fresh w w') (h : x.1 ≠ 0) : StepJ W w w' T F k vs x := ⟨hf.weaken fun _ _ _ => trivial, fun e => absurd e h⟩
/-- A mark and its request in variables. -/
structure RBox (w w1 : World) (bm br : Nat) (x : MkV) : Prop where
  fresh : Fresh w w1
  mb : MkB w1 bm x
  rb : Blk w1 br 169 #[.int .i64 x.d.cmd.c, .int .i64 x.d.cmd.i, .int .i64 x.d.cmd.r]
  lm : w.heap.size ≤ bm
  lr : w.heap.size ≤ br
theorem RBox.then {w w1 w2 : World} {bm br : Nat} {x : MkV} (h : RBox w w1 bm br x) (hf : Fresh w1 w2) : RBox w w2 bm br x := ⟨h.fresh.trans hf, ⟨h.mb.blk.keep hf trivial⟩, h.rb.keep hf trivial, h.lm, h.lr⟩
/-- How far the machine has come, as memory tells it. -/
def gOf (F : SFix) (w : World) : Nat := match w.cell? ⟨F.g, 7, none⟩ with
  | some (.int _ z) => z.toNat
  | _ => 0
/-- In the loop of 'join'. -/
structure JoinW (W w wr : World) (T : Nat → STag) (F : SFix) (K : Nat) (vs : List Int) (s1 : SrvD) (R : Int × Nat × StD) (f g : Nat) (st : StD) : Prop where
  ex : ∃ T', SMore T T' ∧ (∀ j, j < w.heap.size → T' j = T j) ∧ SM W wr T' F K vs { s1 with grown := g, mach := st }
  eq : R = growD s1.entries f g st
  pre : ∀ i : Nat, i < g → (s1.entries ((i : Int) + 1)).isSome = true
  fu : s1.cnt < f + g
  keep : Keep (JB W T) w wr
theorem JoinW.go {W w wr : World} {T : Nat → STag} {F : SFix} {K : Nat} {vs : List Int} {s1 : SrvD} {R : Int × Nat × StD} {f g : Nat} {st : StD} (h : JoinW W w wr T F K vs s1 R f g st) : gOf F wr = g := by
  obtain ⟨T', -, -, hS⟩ := h.ex
  have : wr.cell? ⟨F.g, 7, none⟩ = some (.int .i64 (g : Int)) := hS.blk.cell 7
  unfold gOf
  rw [this]
  simp
/-- The machine has done another command. -/
theorem SM.applied {W w w' : World} {T : Nat → STag} {F : SFix} {K : Nat} {vs : List Int} {s : SrvD} {Fm Fm' : Nat → Prop} {st : StD} (h : SM W w T F K vs s) (hm : ∀ j, Fm j → T j = .mac) (hA : MAtS W.heap.size w' Fm' F.m st) (hF : ∀ j, Fm' j → Fm j ∨ w.heap.size ≤ j) (hk : Keep (fun j => ¬ Fm j) w w') :
    ∃ T', SMore T T' ∧ (∀ j, j < w.heap.size → T' j = T j) ∧ SM W w' T' F K vs { s with mach := st } := by
  classical
  refine ⟨fun j => if Fm' j then .mac else T j, fun j hj => ?_, fun j hj => ?_, h.with_mach (T' := fun j => if Fm' j then .mac else T j) hk (fun j hj hp e => by rw [hm j e] at hp; exact hp rfl) (fun j hj e => by have := (h.low j (by rw [hm j e]; simp)).1; omega) (fun j hj => ?_) (fun j hj => ?_) (Nat.le_refl K) ⟨Fm', hA, fun j hj => by simp [hj]⟩⟩
  · show (if Fm' j then STag.mac else T j) = T j
    by_cases e : Fm' j
    · rcases hF j e with h1 | h1
      · rw [if_pos e, hm j h1]
      · have := (h.low j hj).2; omega
    · rw [if_neg e]
  · show (if Fm' j then STag.mac else T j) = T j
    by_cases e : Fm' j
    · rcases hF j e with h1 | h1
      · rw [if_pos e, hm j h1]
      · omega
    · rw [if_neg e]
  · show (if Fm' j then STag.mac else T j) = T j
    by_cases e : Fm' j
    · rcases hF j e with h1 | h1
      · rw [if_pos e, hm j h1]
      · have := (h.low j hj).2; omega
    · rw [if_neg e]
  · by_cases e : Fm' j
    · exact ⟨hA.lo j e, hA.hi j e⟩
    · replace hj : (if Fm' j then STag.mac else T j) ≠ .other := hj
      rw [if_neg e] at hj
      have := h.low j hj
      have := hk.size
      omega
set_option maxRecDepth 20000 in
set_option maxHeartbeats 1000000 in
theorem join_any {W w : World} {T : Nat → STag} {F : SFix} {K k : Nat} {vs : List Int} {s : SrvD} (hS : SM W w T F K vs s) (hB : BdS s k) (hK : K ≤ 4000000) (hk : k ≤ 1048575) (x : MkV) (hx : SIn W.heap.size w x) :
    Calls Tryz.prog 58 #[.pointer (some ⟨F.g, 0, none⟩), .agg x.cells.toArray] w fun e w' => e = .returned (.int .i64 (joinS s x.d).1) ∧ StepJ W w w' T F (K + 1) vs (joinS s x.d) := by
  obtain ⟨R, hR⟩ : ∃ R, R = joinS s x.d := ⟨_, rfl⟩
  rw [← hR]
  obtain ⟨r, s'⟩ := R
  simp only
  have H := Lib.hid (And.intro hS (And.intro hB (And.intro hx hR)))
  obtain ⟨w1, hw1⟩ : ∃ w1, w1 = (w.alloc (.cells x.cells.toArray 51)).alloc (.cells #[.int .i64 x.d.cmd.c, .int .i64 x.d.cmd.i, .int .i64 x.d.cmd.r] 169) := ⟨_, rfl⟩
  obtain ⟨bm, hbm⟩ : ∃ b, b = w.heap.size := ⟨_, rfl⟩
  obtain ⟨br, hbr⟩ : ∃ b, b = w.heap.size + 1 := ⟨_, rfl⟩
  have hbox : RBox w w1 bm br x := by
    refine ⟨by rw [hw1]; exact ((Keep.refl _ w).alloc _).alloc _, ?_, ?_, by omega, by omega⟩
    · rw [hw1, hbm]; exact ⟨(MkB.new w x).blk.alloc _⟩
    · rw [hw1, hbr]; exact Blk.newAt (by simp)
  obtain ⟨na, hna⟩ : ∃ n, n = s.asked x.d.cmd := ⟨_, rfl⟩
  obtain ⟨sb, hsb⟩ : ∃ o, o = (s.index x.d.cmd.req).isSome := ⟨_, rfl⟩
  obtain ⟨iz, hiz⟩ : ∃ z, z = (s.index x.d.cmd.req).getD 0 := ⟨_, rfl⟩
  have HA : Hid (∀ w', Fresh w w' → (Instr.lookup 92 (.map (some F.a)) (.agg #[.int .i64 x.d.cmd.c, .int .i64 x.d.cmd.i, .int .i64 x.d.cmd.r, .int .i64 x.d.cmd.o, tx x.d.cmd.k, tx x.d.cmd.v, tx x.d.cmd.d]) false).run Tryz.prog w' = .ok (.int .i64 (na : Int)) w') := Lib.hid fun w' hf => by
    rw [hna]
    exact hS.asked.lookF hx.cmd w' hf
  have HX : Hid (∀ w', Fresh w w' → (Instr.lookup 91 (.map (some F.i)) (.agg #[.int .i64 x.d.cmd.c, .int .i64 x.d.cmd.i, .int .i64 x.d.cmd.r]) true).run Tryz.prog w' = .ok (.tuple #[.int .i64 iz, .bool sb]) w') := Lib.hid fun w' hf => by
    have := hS.index.lookOk (M := mkReq) Tryz.underlying91 (fun u => Tryz.zeroValue3 u) hx.cmd.req w' hf
    rw [plc_val, ← hiz, ← hsb] at this
    exact this
  have HN := Lib.hid (And.intro hna hsb)
  have HBox := Lib.hid hbox
  obtain ⟨w0, hw0⟩ : ∃ w0, w0 = w.alloc (.cells x.cells.toArray 51) := ⟨_, rfl⟩
  have hmb0 : MkB w0 bm x := by rw [hw0, hbm]; exact MkB.new w x
  have hsz0 : br = w0.heap.size := by rw [hw0, hbr]; exact (Array.size_push _).symm
  have k15 := hmb0.cc; have k16 := hmb0.ci; have k17 := hmb0.cr; have tm0 := hmb0.blk.lt
  clear hS hB hx hR hbox hmb0 hna hsb hiz
  go_enter Tryz.func58, Tryz.ntmps58
  go_upto_region 1 with (fail)
  rw [← hw0, ← hbm]
  rw [← hw0] at hw1
  have HW1 := Lib.hid (And.intro hw1 hsz0)
  clear hw0 hw1 hbm hbr hsz0
  go_upto_region 2 with (fail)
  rw [← HW1.out.1, ← HW1.out.2]
  clear HW1 k15 k16 k17 tm0
  have L2 := fun q => HA.out _ (HBox.out.fresh.drewN q)
  have hsv := H.out.1.blk.keep HBox.out.fresh trivial
  have g4 : w1.cell? ⟨F.g, 4, none⟩ = some (.map (some F.a)) := hsv.cell 4
  have tg := hsv.lt
  have k15 := HBox.out.mb.cc; have k16 := HBox.out.mb.ci; have k17 := HBox.out.mb.cr; have k18 := HBox.out.mb.co; have k19 := HBox.out.mb.ck; have k20 := HBox.out.mb.cv; have k21 := HBox.out.mb.cd; have tm := HBox.out.mb.blk.lt
  clear hsv
  by_cases hz : na = 0
  · obtain ⟨rfl, rfl⟩ : r = 25 ∧ s' = s := by
      have := H.out.2.2.2
      unfold joinS at this
      rw [if_pos (.inl (by rw [← HN.out.1, hz]))] at this
      exact Prod.mk.inj this
    have hzb : ((na : Int) == 0) = true := by simpa using hz
    clear hz
    go_quiet (fail)
    go_wp2_with fail
    go_ret
    exact ⟨rfl, StepJ.bad (HBox.out.fresh.drewN _) (by simp)⟩
  have hzb : ((na : Int) == 0) = false := by simpa using hz
  have HZ := Lib.hid hz
  clear hz
  go_quiet (fail)
  go_upto_region 4 with (fail)
  generalize hw2 : World.drewN w1 _ = w2
  have HB2 := Lib.hid (HBox.out.then (hw2 ▸ (Keep.refl _ w1).drewN _))
  clear hw2 L2 g4 tg k15 k16 k17 k18 k19 k20 k21 tm HBox
  have L4 := fun q => HX.out _ (HB2.out.fresh.drewN q)
  have hsv := H.out.1.blk.keep HB2.out.fresh trivial
  have g3 : w2.cell? ⟨F.g, 3, none⟩ = some (.map (some F.i)) := hsv.cell 3
  have tg := hsv.lt
  have r0 := HB2.out.rb.cell 0; have r1 := HB2.out.rb.cell 1; have r2 := HB2.out.rb.cell 2; have tr := HB2.out.rb.lt
  simp at r0 r1 r2
  clear hsv
  cases sb
  rotate_left
  · obtain ⟨rfl, rfl⟩ : r = 25 ∧ s' = s := by
      have := H.out.2.2.2
      unfold joinS at this
      rw [if_pos (.inr HN.out.2.symm)] at this
      exact Prod.mk.inj this
    go_quiet (fail)
    go_wp2_with fail
    go_ret
    exact ⟨rfl, StepJ.bad (HB2.out.fresh.drewN _) (by simp)⟩
  go_quiet (fail)
  go_upto_region 7 with (fail)
  generalize hw3 : World.drewN w2 _ = w3
  have HB3 := Lib.hid (HB2.out.then (hw3 ▸ (Keep.refl _ w2).drewN _))
  clear hw3 L4 g3 tg r0 r1 r2 tr HB2 hzb
  have HR0 : Hid ((r, s') = ((joinG s x.d).1, { joinN s x.d with grown := (joinG s x.d).2.1, mach := (joinG s x.d).2.2 })) := Lib.hid (by
    have := H.out.2.2.2
    unfold joinS at this
    rw [if_neg (by
      rintro (h | h)
      · exact HZ.out (by rw [HN.out.1, h])
      · rw [← HN.out.2] at h; cases h)] at this
    exact this)
  -- the entry
  go_cut [] (fun wz => Hid (MapF mkInt entA2 wz F.e (s.cnt + 1) (upd s.entries x.d.n (some (x.d.cmd, x.d.res))) ∧ Keep (fun j => j ≠ F.e) w3 wz))
  case first =>
      have nge : F.g ≠ F.e := stag_ne H.out.1.fix.g H.out.1.fix.e (by simp)
      have nme : bm ≠ F.e := by have := (H.out.1.low F.e (by rw [H.out.1.fix.e]; simp)).2; have := HB3.out.lm; omega
      have HK : Hid (∀ w', Keep (fun j => j ≠ F.e) w3 w' → (w'.cell? ⟨F.g, 2, none⟩ = some (.map (some F.e)) ∧ w'.cell? ⟨bm, 13, none⟩ = some (.int .i64 x.d.n) ∧ w'.cell? ⟨bm, 15, none⟩ = some (.int .i64 x.d.cmd.c) ∧ w'.cell? ⟨bm, 16, none⟩ = some (.int .i64 x.d.cmd.i) ∧ w'.cell? ⟨bm, 17, none⟩ = some (.int .i64 x.d.cmd.r) ∧ w'.cell? ⟨bm, 18, none⟩ = some (.int .i64 x.d.cmd.o) ∧ w'.cell? ⟨bm, 19, none⟩ = some (tx x.d.cmd.k) ∧ w'.cell? ⟨bm, 20, none⟩ = some (tx x.d.cmd.v) ∧ w'.cell? ⟨bm, 21, none⟩ = some (tx x.d.cmd.d) ∧ w'.cell? ⟨bm, 22, none⟩ = some (.int .i64 x.d.rc) ∧ w'.cell? ⟨bm, 23, none⟩ = some (tx x.d.rv) ∧ w'.cell? ⟨bm, 24, none⟩ = some (.int .i64 x.d.rn))) := Lib.hid (fun w' hk => by
        have hm : MkB w' bm x := ⟨HB3.out.mb.blk.keep hk nme⟩
        exact ⟨((H.out.1.blk.keep HB3.out.fresh trivial).keep hk nge).cell 2, hm.n, hm.cc, hm.ci, hm.cr, hm.co, hm.ck, hm.cv, hm.cd, hm.rc, hm.rv, hm.rn⟩)
      have hE := (H.out.1.entries.keep (HB3.out.fresh.drew) trivial)
      obtain ⟨w4, hrun, hE4, hk4⟩ := hE.store (M := mkInt) Tryz.underlying90 (by have := H.out.2.1.cnt; omega) (x := x.d.n) H.out.2.2.1.n (x.d.cmd, x.d.res)
      have hrun2 : (Instr.mapUpdate 90 (.map (some F.e)) (.int .i64 x.d.n) (.agg #[.int .i64 x.d.cmd.c, .int .i64 x.d.cmd.i, .int .i64 x.d.cmd.r, .int .i64 x.d.cmd.o, tx x.d.cmd.k, tx x.d.cmd.v, tx x.d.cmd.d, .int .i64 x.d.rc, tx x.d.rv, .int .i64 x.d.rn])).run Tryz.prog w3.drew = .ok () w4 := hrun
      have hk34 : Keep (fun j => j ≠ F.e) w3 w4 := ((Keep.refl _ w3).drew).trans hk4
      have HE4 := Lib.hid (And.intro hE4 hk34)
      clear hrun hE hE4 hk4 nge nme
      refine wp_region_held_drew (S := fun w' => w'.cell? ⟨F.g, 2, none⟩ = some (.map (some F.e)) ∧ w'.cell? ⟨bm, 13, none⟩ = some (.int .i64 x.d.n) ∧ w'.cell? ⟨bm, 15, none⟩ = some (.int .i64 x.d.cmd.c) ∧ w'.cell? ⟨bm, 16, none⟩ = some (.int .i64 x.d.cmd.i) ∧ w'.cell? ⟨bm, 17, none⟩ = some (.int .i64 x.d.cmd.r) ∧ w'.cell? ⟨bm, 18, none⟩ = some (.int .i64 x.d.cmd.o) ∧ w'.cell? ⟨bm, 19, none⟩ = some (tx x.d.cmd.k) ∧ w'.cell? ⟨bm, 20, none⟩ = some (tx x.d.cmd.v) ∧ w'.cell? ⟨bm, 21, none⟩ = some (tx x.d.cmd.d) ∧ w'.cell? ⟨bm, 22, none⟩ = some (.int .i64 x.d.rc) ∧ w'.cell? ⟨bm, 23, none⟩ = some (tx x.d.rv) ∧ w'.cell? ⟨bm, 24, none⟩ = some (.int .i64 x.d.rn)) (by kernel_rfl) (HK.out _ (Keep.refl _ w3).drew) (fun hHeld => ?_)
      refine wpAnyH_take (i := 0) (v := .pointer (some ⟨F.g, 0, none⟩)) rfl (by kernel_rfl) (by kernel_rfl) (by kernel_rfl) (fun _ _ _ h => h) (Or.inl ⟨by kernel_rfl, by intro w hSw; simp [go_sem, hSw]⟩) hHeld ?_
      simp only [Act.put, List.getElem_toArray, List.getElem_cons_zero, List.getElem_cons_succ, List.setIfInBounds_toArray, List.set_cons_zero, List.set_cons_succ]
      refine wpAnyH_take (i := 1) (v := .pointer (some ⟨F.g, 0, none⟩)) rfl (by kernel_rfl) (by kernel_rfl) (by kernel_rfl) (fun _ _ _ h => h) (Or.inl ⟨by kernel_rfl, by intro w hSw; simp [go_sem, hSw]⟩) hHeld ?_
      simp only [Act.put, List.getElem_toArray, List.getElem_cons_zero, List.getElem_cons_succ, List.setIfInBounds_toArray, List.set_cons_zero, List.set_cons_succ]
      refine wpAnyH_take (i := 2) (v := .pointer (some ⟨F.g, 2, none⟩)) rfl (by kernel_rfl) (by kernel_rfl) (by kernel_rfl) (fun _ _ _ h => h) (Or.inl ⟨by kernel_rfl, by intro w hSw; simp [go_sem, hSw]⟩) hHeld ?_
      simp only [Act.put, List.getElem_toArray, List.getElem_cons_zero, List.getElem_cons_succ, List.setIfInBounds_toArray, List.set_cons_zero, List.set_cons_succ]
      refine wpAnyH_take (i := 3) (v := .map (some F.e)) rfl (by kernel_rfl) (by kernel_rfl) (by kernel_rfl) (fun _ _ _ h => h) (Or.inl ⟨by kernel_rfl, by intro w hSw; simp [go_sem, hSw]⟩) hHeld ?_
      simp only [Act.put, List.getElem_toArray, List.getElem_cons_zero, List.getElem_cons_succ, List.setIfInBounds_toArray, List.set_cons_zero, List.set_cons_succ]
      refine wpAnyH_take (i := 4) (v := .pointer (some ⟨bm, 13, none⟩)) rfl (by kernel_rfl) (by kernel_rfl) (by kernel_rfl) (fun _ _ _ h => h) (Or.inl ⟨by kernel_rfl, by intro w hSw; simp [go_sem, hSw]⟩) hHeld ?_
      simp only [Act.put, List.getElem_toArray, List.getElem_cons_zero, List.getElem_cons_succ, List.setIfInBounds_toArray, List.set_cons_zero, List.set_cons_succ]
      refine wpAnyH_take (i := 5) (v := .int .i64 x.d.n) rfl (by kernel_rfl) (by kernel_rfl) (by kernel_rfl) (fun _ _ _ h => h) (Or.inl ⟨by kernel_rfl, by intro w hSw; simp [go_sem, hSw]⟩) hHeld ?_
      simp only [Act.put, List.getElem_toArray, List.getElem_cons_zero, List.getElem_cons_succ, List.setIfInBounds_toArray, List.set_cons_zero, List.set_cons_succ]
      refine wpAnyH_take (i := 6) (v := .pointer (some ⟨bm, 15, none⟩)) rfl (by kernel_rfl) (by kernel_rfl) (by kernel_rfl) (fun _ _ _ h => h) (Or.inl ⟨by kernel_rfl, by intro w hSw; simp [go_sem, hSw]⟩) hHeld ?_
      simp only [Act.put, List.getElem_toArray, List.getElem_cons_zero, List.getElem_cons_succ, List.setIfInBounds_toArray, List.set_cons_zero, List.set_cons_succ]
      refine wpAnyH_take (i := 7) (v := .agg #[.int .i64 x.d.cmd.c, .int .i64 x.d.cmd.i, .int .i64 x.d.cmd.r, .int .i64 x.d.cmd.o, tx x.d.cmd.k, tx x.d.cmd.v, tx x.d.cmd.d]) rfl (by kernel_rfl) (by kernel_rfl) (by kernel_rfl) (fun _ _ _ h => h) (Or.inl ⟨by kernel_rfl, by intro w hSw; simp [go_sem, hSw]⟩) hHeld ?_
      simp only [Act.put, List.getElem_toArray, List.getElem_cons_zero, List.getElem_cons_succ, List.setIfInBounds_toArray, List.set_cons_zero, List.set_cons_succ]
      refine wpAnyH_take (i := 8) (v := .pointer (some ⟨bm, 22, none⟩)) rfl (by kernel_rfl) (by kernel_rfl) (by kernel_rfl) (fun _ _ _ h => h) (Or.inl ⟨by kernel_rfl, by intro w hSw; simp [go_sem, hSw]⟩) hHeld ?_
      simp only [Act.put, List.getElem_toArray, List.getElem_cons_zero, List.getElem_cons_succ, List.setIfInBounds_toArray, List.set_cons_zero, List.set_cons_succ]
      refine wpAnyH_take (i := 9) (v := .agg #[.int .i64 x.d.rc, tx x.d.rv, .int .i64 x.d.rn]) rfl (by kernel_rfl) (by kernel_rfl) (by kernel_rfl) (fun _ _ _ h => h) (Or.inl ⟨by kernel_rfl, by intro w hSw; simp [go_sem, hSw]⟩) hHeld ?_
      simp only [Act.put, List.getElem_toArray, List.getElem_cons_zero, List.getElem_cons_succ, List.setIfInBounds_toArray, List.set_cons_zero, List.set_cons_succ]
      refine wpAnyH_take (i := 10) (v := .agg #[.int .i64 x.d.cmd.c, .int .i64 x.d.cmd.i, .int .i64 x.d.cmd.r, .int .i64 x.d.cmd.o, tx x.d.cmd.k, tx x.d.cmd.v, tx x.d.cmd.d, .int .i64 x.d.rc, tx x.d.rv, .int .i64 x.d.rn]) rfl (by kernel_rfl) (by kernel_rfl) (by kernel_rfl) (fun _ _ _ h => h) (Or.inl ⟨by kernel_rfl, by intro w hSw; simp [go_sem, hSw]⟩) hHeld ?_
      simp only [Act.put, List.getElem_toArray, List.getElem_cons_zero, List.getElem_cons_succ, List.setIfInBounds_toArray, List.set_cons_zero, List.set_cons_succ]
      refine wpAnyH_ready (rs := [11]) (by kernel_rfl) (by simp) ?_
      clear hHeld
      refine AllReadyH.cons rfl (fun K hK => ?_) AllReadyH.nil
      rw [if_pos (by rfl)]
      refine wp_mapUpd _ _ _ _ rfl rfl rfl rfl hrun2 ?_
      refine hK.out _ _ (HK.out _ hk34) (fun hHeld => ?_)
      clear hK K
      try simp only [Act.put, List.getElem_toArray, List.getElem_cons_zero, List.getElem_cons_succ, List.setIfInBounds_toArray, List.set_cons_zero, List.set_cons_succ]
      refine wpAnyH_done (by kernel_rfl) ?_ _
      go_wp2_with fail
      go_meet
      exact HE4
  case rest =>
  rename World => w4
  have HE4 := Lib.hid hcut.out
  have hS4 := (H.out.1.then HB3.out.fresh).with_entries HE4.out.2 (fun j hj hp e => by rw [e, H.out.1.fix.e] at hp; exact hp rfl) (fun j hj e => by have := (H.out.1.low F.e (by rw [H.out.1.fix.e]; simp)).1; omega) (SMore.refl T) ((H.out.1.then HB3.out.fresh).same_low HE4.out.2.size) (Nat.le_refl K) HE4.out.1
  have HS4 := Lib.hid hS4
  clear hcut hS4
  -- index and place
  have zic : F.i ≠ F.c := stag_ne H.out.1.fix.i H.out.1.fix.c (by simp)
  have HK8 : Hid (∀ w', Keep (fun j => j ≠ F.i ∧ j ≠ F.c) w4 w' → (w'.cell? ⟨F.g, 3, none⟩ = some (.map (some F.i)) ∧ w'.cell? ⟨F.g, 5, none⟩ = some (.map (some F.c)) ∧ w'.cell? ⟨br, 0, none⟩ = some (.int .i64 x.d.cmd.c) ∧ w'.cell? ⟨br, 1, none⟩ = some (.int .i64 x.d.cmd.i) ∧ w'.cell? ⟨br, 2, none⟩ = some (.int .i64 x.d.cmd.r) ∧ w'.cell? ⟨bm, 13, none⟩ = some (.int .i64 x.d.n) ∧ w'.cell? ⟨bm, 15, none⟩ = some (.int .i64 x.d.cmd.c) ∧ w'.cell? ⟨bm, 16, none⟩ = some (.int .i64 x.d.cmd.i) ∧ w'.cell? ⟨bm, 17, none⟩ = some (.int .i64 x.d.cmd.r) ∧ w'.cell? ⟨bm, 18, none⟩ = some (.int .i64 x.d.cmd.o) ∧ w'.cell? ⟨bm, 19, none⟩ = some (tx x.d.cmd.k) ∧ w'.cell? ⟨bm, 20, none⟩ = some (tx x.d.cmd.v) ∧ w'.cell? ⟨bm, 21, none⟩ = some (tx x.d.cmd.d))) := Lib.hid (fun w' hk => by
    have li := (H.out.1.low F.i (by rw [H.out.1.fix.i]; simp)).2
    have lc := (H.out.1.low F.c (by rw [H.out.1.fix.c]; simp)).2
    have le := (H.out.1.low F.e (by rw [H.out.1.fix.e]; simp)).2
    have lm := HB3.out.lm
    have lr := HB3.out.lr
    have hm : MkB w' bm x := ⟨(HB3.out.mb.blk.keep HE4.out.2 (by omega)).keep hk ⟨by omega, by omega⟩⟩
    have hr := (HB3.out.rb.keep HE4.out.2 (by omega)).keep hk ⟨by omega, by omega⟩
    have hv := HS4.out.blk.keep hk ⟨stag_ne H.out.1.fix.g H.out.1.fix.i (by simp), stag_ne H.out.1.fix.g H.out.1.fix.c (by simp)⟩
    exact ⟨hv.cell 3, hv.cell 5, hr.cell 0, hr.cell 1, hr.cell 2, hm.n, hm.cc, hm.ci, hm.cr, hm.co, hm.ck, hm.cv, hm.cd⟩)
  obtain ⟨st1, wE1, rE1, kE1, -, put1⟩ := (HS4.out.index.keep ((Keep.refl (fun _ => True) w4).drew) trivial).entry (M := mkReq) Tryz.underlying91 (by omega) (fun u => Tryz.zeroValue3 u) (x := x.d.cmd.req) H.out.2.2.1.cmd.req
  obtain ⟨v1, hv1⟩ : ∃ v, v = (((s.index x.d.cmd.req).map iV).getD (.int .i64 0)) := ⟨_, rfl⟩
  have rE1' : (Instr.mapEntry 91 (.map (some F.i)) (.agg #[.int .i64 x.d.cmd.c, .int .i64 x.d.cmd.i, .int .i64 x.d.cmd.r])).run Tryz.prog w4.drew = .ok (.tuple #[v1, st1]) wE1 := by rw [hv1]; exact rE1
  obtain ⟨w5, rS1, hI5, k5⟩ := put1 wE1 x.d.n rfl
  have rS1' : (Instr.entryStore 91 (.map (some F.i)) st1 (.int .i64 x.d.n)).run Tryz.prog wE1 = .ok () w5 := rS1
  have kE1' : Keep (fun j => j ≠ F.i) w4 wE1 := ((Keep.refl _ w4).drew).trans kE1
  have k45 : Keep (fun j => j ≠ F.i) w4 w5 := kE1'.trans k5
  obtain ⟨st2, wE2, rE2, kE2, -, put2⟩ := (HS4.out.place.keep k45 (Ne.symm zic)).entry (M := mkCmd) Tryz.underlying92 (by omega) (fun u => Tryz.zeroValue3 u) (x := x.d.cmd) H.out.2.2.1.cmd
  obtain ⟨v2, hv2⟩ : ∃ v, v = (((s.place x.d.cmd).map iV).getD (.int .i64 0)) := ⟨_, rfl⟩
  have rE2' : (Instr.mapEntry 92 (.map (some F.c)) (.agg #[.int .i64 x.d.cmd.c, .int .i64 x.d.cmd.i, .int .i64 x.d.cmd.r, .int .i64 x.d.cmd.o, tx x.d.cmd.k, tx x.d.cmd.v, tx x.d.cmd.d])).run Tryz.prog w5 = .ok (.tuple #[v2, st2]) wE2 := by rw [hv2]; exact rE2
  obtain ⟨w6, rS2, hP6, k6⟩ := put2 wE2 x.d.n rfl
  have rS2' : (Instr.entryStore 92 (.map (some F.c)) st2 (.int .i64 x.d.n)).run Tryz.prog wE2 = .ok () w6 := rS2
  have k56 : Keep (fun j => j ≠ F.c) w5 w6 := kE2.trans k6
  have hS5 := HS4.out.with_index k45 (fun j hj hp e => by rw [e, H.out.1.fix.i] at hp; exact hp rfl) (fun j hj e => by have := (H.out.1.low F.i (by rw [H.out.1.fix.i]; simp)).1; omega) (SMore.refl T) (HS4.out.same_low k45.size) (Nat.le_succ K) hI5
  have hS6 := hS5.with_place k56 (fun j hj hp e => by rw [e, H.out.1.fix.c] at hp; exact hp rfl) (fun j hj e => by have := (H.out.1.low F.c (by rw [H.out.1.fix.c]; simp)).1; omega) (SMore.refl T) (hS5.same_low k56.size) (Nat.le_refl _) hP6
  have HJ : Hid (JoinW W w w6 T F (K + 1) vs (joinN s x.d) (joinG s x.d) ((joinN s x.d).cnt + 1) s.grown s.mach) := Lib.hid (by
    refine ⟨⟨T, SMore.refl T, fun _ _ => rfl, hS6⟩, rfl, fun i hi => ?_, by omega, ?_⟩
    · by_cases e : ((i : Int) + 1) = x.d.n
      · show (upd s.entries x.d.n _ ((i : Int) + 1)).isSome = true
        rw [e, upd_self]
        rfl
      · show (upd s.entries x.d.n _ ((i : Int) + 1)).isSome = true
        rw [upd_ne _ _ e]
        exact H.out.2.1.grown i hi
    · have ke := (HB3.out.fresh.weaken fun _ _ _ => trivial : Keep (JB W T) w w3).comp HE4.out.2 (fun _ _ h => h) (fun j _ hj => JB.ne H.out.1 H.out.1.fix.e (by simp) (by simp) (by simp [STag.part']) hj)
      exact (ke.comp k45 (fun _ _ h => h) (fun j _ hj => JB.ne H.out.1 H.out.1.fix.i (by simp) (by simp) (by simp [STag.part']) hj)).comp k56 (fun _ _ h => h) (fun j _ hj => JB.ne H.out.1 H.out.1.fix.c (by simp) (by simp) (by simp [STag.part']) hj))
  have q0 : Keep (fun j => j ≠ F.i ∧ j ≠ F.c) w4 w4.drew := (Keep.refl _ w4).drew
  have q1 : Keep (fun j => j ≠ F.i ∧ j ≠ F.c) w4 wE1 := kE1'.weaken fun _ _ h => h.1
  have q2 : Keep (fun j => j ≠ F.i ∧ j ≠ F.c) w4 w5 := k45.weaken fun _ _ h => h.1
  have q3 : Keep (fun j => j ≠ F.i ∧ j ≠ F.c) w4 wE2 := q2.trans (kE2.weaken fun _ _ h => h.2)
  have q4 : Keep (fun j => j ≠ F.i ∧ j ≠ F.c) w4 w6 := q2.trans (k56.weaken fun _ _ h => h.2)
  go_upto_region 8 with (fail)
  clear rE1 rS1 rE2 rS2 put1 put2 hI5 hP6 kE1 kE2 k5 k6 kE1' k45 k56 hS5 hS6 zic hv1 hv2
  refine wp_region_held_drew (S := fun w' => w'.cell? ⟨F.g, 3, none⟩ = some (.map (some F.i)) ∧ w'.cell? ⟨F.g, 5, none⟩ = some (.map (some F.c)) ∧ w'.cell? ⟨br, 0, none⟩ = some (.int .i64 x.d.cmd.c) ∧ w'.cell? ⟨br, 1, none⟩ = some (.int .i64 x.d.cmd.i) ∧ w'.cell? ⟨br, 2, none⟩ = some (.int .i64 x.d.cmd.r) ∧ w'.cell? ⟨bm, 13, none⟩ = some (.int .i64 x.d.n) ∧ w'.cell? ⟨bm, 15, none⟩ = some (.int .i64 x.d.cmd.c) ∧ w'.cell? ⟨bm, 16, none⟩ = some (.int .i64 x.d.cmd.i) ∧ w'.cell? ⟨bm, 17, none⟩ = some (.int .i64 x.d.cmd.r) ∧ w'.cell? ⟨bm, 18, none⟩ = some (.int .i64 x.d.cmd.o) ∧ w'.cell? ⟨bm, 19, none⟩ = some (tx x.d.cmd.k) ∧ w'.cell? ⟨bm, 20, none⟩ = some (tx x.d.cmd.v) ∧ w'.cell? ⟨bm, 21, none⟩ = some (tx x.d.cmd.d)) (by kernel_rfl) (HK8.out _ q0) (fun hHeld => ?_)
  refine wpAnyH_take (i := 0) (v := .pointer (some ⟨F.g, 0, none⟩)) rfl (by kernel_rfl) (by kernel_rfl) (by kernel_rfl) (fun _ _ _ h => h) (Or.inl ⟨by kernel_rfl, by intro w hSw; simp [go_sem, hSw]⟩) hHeld ?_
  simp only [Act.put, List.getElem_toArray, List.getElem_cons_zero, List.getElem_cons_succ, List.setIfInBounds_toArray, List.set_cons_zero, List.set_cons_succ]
  refine wpAnyH_take (i := 1) (v := .pointer (some ⟨F.g, 0, none⟩)) rfl (by kernel_rfl) (by kernel_rfl) (by kernel_rfl) (fun _ _ _ h => h) (Or.inl ⟨by kernel_rfl, by intro w hSw; simp [go_sem, hSw]⟩) hHeld ?_
  simp only [Act.put, List.getElem_toArray, List.getElem_cons_zero, List.getElem_cons_succ, List.setIfInBounds_toArray, List.set_cons_zero, List.set_cons_succ]
  refine wpAnyH_take (i := 2) (v := .pointer (some ⟨F.g, 3, none⟩)) rfl (by kernel_rfl) (by kernel_rfl) (by kernel_rfl) (fun _ _ _ h => h) (Or.inl ⟨by kernel_rfl, by intro w hSw; simp [go_sem, hSw]⟩) hHeld ?_
  simp only [Act.put, List.getElem_toArray, List.getElem_cons_zero, List.getElem_cons_succ, List.setIfInBounds_toArray, List.set_cons_zero, List.set_cons_succ]
  refine wpAnyH_take (i := 3) (v := .map (some F.i)) rfl (by kernel_rfl) (by kernel_rfl) (by kernel_rfl) (fun _ _ _ h => h) (Or.inl ⟨by kernel_rfl, by intro w hSw; simp [go_sem, hSw]⟩) hHeld ?_
  simp only [Act.put, List.getElem_toArray, List.getElem_cons_zero, List.getElem_cons_succ, List.setIfInBounds_toArray, List.set_cons_zero, List.set_cons_succ]
  refine wpAnyH_take (i := 4) (v := .agg #[.int .i64 x.d.cmd.c, .int .i64 x.d.cmd.i, .int .i64 x.d.cmd.r]) rfl (by kernel_rfl) (by kernel_rfl) (by kernel_rfl) (fun _ _ _ h => h) (Or.inl ⟨by kernel_rfl, by intro w hSw; simp [go_sem, hSw]⟩) hHeld ?_
  simp only [Act.put, List.getElem_toArray, List.getElem_cons_zero, List.getElem_cons_succ, List.setIfInBounds_toArray, List.set_cons_zero, List.set_cons_succ]
  refine wpAnyH_take (i := 5) (v := .pointer (some ⟨F.g, 0, none⟩)) rfl (by kernel_rfl) (by kernel_rfl) (by kernel_rfl) (fun _ _ _ h => h) (Or.inl ⟨by kernel_rfl, by intro w hSw; simp [go_sem, hSw]⟩) hHeld ?_
  simp only [Act.put, List.getElem_toArray, List.getElem_cons_zero, List.getElem_cons_succ, List.setIfInBounds_toArray, List.set_cons_zero, List.set_cons_succ]
  refine wpAnyH_take (i := 6) (v := .pointer (some ⟨F.g, 0, none⟩)) rfl (by kernel_rfl) (by kernel_rfl) (by kernel_rfl) (fun _ _ _ h => h) (Or.inl ⟨by kernel_rfl, by intro w hSw; simp [go_sem, hSw]⟩) hHeld ?_
  simp only [Act.put, List.getElem_toArray, List.getElem_cons_zero, List.getElem_cons_succ, List.setIfInBounds_toArray, List.set_cons_zero, List.set_cons_succ]
  refine wpAnyH_take (i := 7) (v := .pointer (some ⟨F.g, 5, none⟩)) rfl (by kernel_rfl) (by kernel_rfl) (by kernel_rfl) (fun _ _ _ h => h) (Or.inl ⟨by kernel_rfl, by intro w hSw; simp [go_sem, hSw]⟩) hHeld ?_
  simp only [Act.put, List.getElem_toArray, List.getElem_cons_zero, List.getElem_cons_succ, List.setIfInBounds_toArray, List.set_cons_zero, List.set_cons_succ]
  refine wpAnyH_take (i := 8) (v := .map (some F.c)) rfl (by kernel_rfl) (by kernel_rfl) (by kernel_rfl) (fun _ _ _ h => h) (Or.inl ⟨by kernel_rfl, by intro w hSw; simp [go_sem, hSw]⟩) hHeld ?_
  simp only [Act.put, List.getElem_toArray, List.getElem_cons_zero, List.getElem_cons_succ, List.setIfInBounds_toArray, List.set_cons_zero, List.set_cons_succ]
  refine wpAnyH_take (i := 9) (v := .pointer (some ⟨bm, 15, none⟩)) rfl (by kernel_rfl) (by kernel_rfl) (by kernel_rfl) (fun _ _ _ h => h) (Or.inl ⟨by kernel_rfl, by intro w hSw; simp [go_sem, hSw]⟩) hHeld ?_
  simp only [Act.put, List.getElem_toArray, List.getElem_cons_zero, List.getElem_cons_succ, List.setIfInBounds_toArray, List.set_cons_zero, List.set_cons_succ]
  refine wpAnyH_take (i := 10) (v := .agg #[.int .i64 x.d.cmd.c, .int .i64 x.d.cmd.i, .int .i64 x.d.cmd.r, .int .i64 x.d.cmd.o, tx x.d.cmd.k, tx x.d.cmd.v, tx x.d.cmd.d]) rfl (by kernel_rfl) (by kernel_rfl) (by kernel_rfl) (fun _ _ _ h => h) (Or.inl ⟨by kernel_rfl, by intro w hSw; simp [go_sem, hSw]⟩) hHeld ?_
  simp only [Act.put, List.getElem_toArray, List.getElem_cons_zero, List.getElem_cons_succ, List.setIfInBounds_toArray, List.set_cons_zero, List.set_cons_succ]
  refine wpAnyH_take (i := 11) (v := .pointer (some ⟨bm, 13, none⟩)) rfl (by kernel_rfl) (by kernel_rfl) (by kernel_rfl) (fun _ _ _ h => h) (Or.inl ⟨by kernel_rfl, by intro w hSw; simp [go_sem, hSw]⟩) hHeld ?_
  simp only [Act.put, List.getElem_toArray, List.getElem_cons_zero, List.getElem_cons_succ, List.setIfInBounds_toArray, List.set_cons_zero, List.set_cons_succ]
  refine wpAnyH_take (i := 12) (v := .int .i64 x.d.n) rfl (by kernel_rfl) (by kernel_rfl) (by kernel_rfl) (fun _ _ _ h => h) (Or.inl ⟨by kernel_rfl, by intro w hSw; simp [go_sem, hSw]⟩) hHeld ?_
  simp only [Act.put, List.getElem_toArray, List.getElem_cons_zero, List.getElem_cons_succ, List.setIfInBounds_toArray, List.set_cons_zero, List.set_cons_succ]
  refine wpAnyH_take (i := 13) (v := .pointer (some ⟨bm, 13, none⟩)) rfl (by kernel_rfl) (by kernel_rfl) (by kernel_rfl) (fun _ _ _ h => h) (Or.inl ⟨by kernel_rfl, by intro w hSw; simp [go_sem, hSw]⟩) hHeld ?_
  simp only [Act.put, List.getElem_toArray, List.getElem_cons_zero, List.getElem_cons_succ, List.setIfInBounds_toArray, List.set_cons_zero, List.set_cons_succ]
  refine wpAnyH_take (i := 14) (v := .int .i64 x.d.n) rfl (by kernel_rfl) (by kernel_rfl) (by kernel_rfl) (fun _ _ _ h => h) (Or.inl ⟨by kernel_rfl, by intro w hSw; simp [go_sem, hSw]⟩) hHeld ?_
  simp only [Act.put, List.getElem_toArray, List.getElem_cons_zero, List.getElem_cons_succ, List.setIfInBounds_toArray, List.set_cons_zero, List.set_cons_succ]
  refine wpAnyH_ready (rs := [15]) (by kernel_rfl) (by simp) ?_
  clear hHeld
  refine AllReadyH.cons rfl (fun K hK => ?_) AllReadyH.nil
  rw [if_pos (by rfl)]
  refine wp_mapEnt _ _ _ rfl rfl rfl rE1' ?_
  refine hK.out _ _ (HK8.out _ q1) (fun hHeld => ?_)
  clear hK K
  try simp only [Act.put, List.getElem_toArray, List.getElem_cons_zero, List.getElem_cons_succ, List.setIfInBounds_toArray, List.set_cons_zero, List.set_cons_succ]
  refine wpAnyH_take (i := 16) (v := st1) rfl (by kernel_rfl) (by kernel_rfl) (by kernel_rfl) (fun _ _ _ h => h) (Or.inl ⟨by kernel_rfl, by intro w hSw; simp [go_sem, hSw]⟩) hHeld ?_
  simp only [Act.put, List.getElem_toArray, List.getElem_cons_zero, List.getElem_cons_succ, List.setIfInBounds_toArray, List.set_cons_zero, List.set_cons_succ]
  refine wpAnyH_ready (rs := [17]) (by kernel_rfl) (by simp) ?_
  clear hHeld
  refine AllReadyH.cons rfl (fun K hK => ?_) AllReadyH.nil
  rw [if_pos (by rfl)]
  refine wp_entSto _ _ _ _ rfl rfl rfl rfl rS1' ?_
  refine hK.out _ _ (HK8.out _ q2) (fun hHeld => ?_)
  clear hK K
  try simp only [Act.put, List.getElem_toArray, List.getElem_cons_zero, List.getElem_cons_succ, List.setIfInBounds_toArray, List.set_cons_zero, List.set_cons_succ]
  refine wpAnyH_ready (rs := [18]) (by kernel_rfl) (by simp) ?_
  clear hHeld
  refine AllReadyH.cons rfl (fun K hK => ?_) AllReadyH.nil
  rw [if_pos (by rfl)]
  refine wp_mapEnt _ _ _ rfl rfl rfl rE2' ?_
  refine hK.out _ _ (HK8.out _ q3) (fun hHeld => ?_)
  clear hK K
  try simp only [Act.put, List.getElem_toArray, List.getElem_cons_zero, List.getElem_cons_succ, List.setIfInBounds_toArray, List.set_cons_zero, List.set_cons_succ]
  refine wpAnyH_take (i := 19) (v := st2) rfl (by kernel_rfl) (by kernel_rfl) (by kernel_rfl) (fun _ _ _ h => h) (Or.inl ⟨by kernel_rfl, by intro w hSw; simp [go_sem, hSw]⟩) hHeld ?_
  simp only [Act.put, List.getElem_toArray, List.getElem_cons_zero, List.getElem_cons_succ, List.setIfInBounds_toArray, List.set_cons_zero, List.set_cons_succ]
  refine wpAnyH_ready (rs := [20]) (by kernel_rfl) (by simp) ?_
  clear hHeld
  refine AllReadyH.cons rfl (fun K hK => ?_) AllReadyH.nil
  rw [if_pos (by rfl)]
  refine wp_entSto _ _ _ _ rfl rfl rfl rfl rS2' ?_
  refine hK.out _ _ (HK8.out _ q4) (fun hHeld => ?_)
  clear hK K
  try simp only [Act.put, List.getElem_toArray, List.getElem_cons_zero, List.getElem_cons_succ, List.setIfInBounds_toArray, List.set_cons_zero, List.set_cons_succ]
  refine wpAnyH_done (by kernel_rfl) ?_ _
  clear hHeld q0 q1 q2 q3 q4 rE1' rS1' rE2' rS2'
  go_wp2_with fail
  go_loopw [] (fun wr => ∃ (f g : Nat) (st : StD), Hid (JoinW W w wr T F (K + 1) vs (joinN s x.d) (joinG s x.d) f g st)) (fun wr => s.cnt + 3 - gOf F wr)
  case atStart => exact ⟨_, _, _, HJ⟩
  case round =>
    rename World => wr
    obtain ⟨f, g, st, HW⟩ := hrel
    have hcn : (joinN s x.d).cnt = s.cnt + 1 := rfl
    have hgc : g ≤ s.cnt + 1 := (joinN_keys H.out.2.1 x.d).2 g HW.out.pre
    have hck := H.out.2.1.cnt
    obtain ⟨f, rfl⟩ : ∃ f', f = f' + 1 := ⟨f - 1, by have := HW.out.fu; omega⟩
    obtain ⟨T1, hT1, hO1, hS1⟩ := HW.out.ex
    have HS1 := Lib.hid (And.intro hT1 hS1)
    have HO1 := Lib.hid hO1
    clear hO1
    obtain ⟨en, hen⟩ : ∃ e, e = (joinN s x.d).entries ((g : Int) + 1) := ⟨_, rfl⟩
    obtain ⟨th, hth⟩ : ∃ t, t = en.isSome := ⟨_, rfl⟩
    obtain ⟨⟨ec, er⟩, hee⟩ : ∃ e, e = entOr en := ⟨_, rfl⟩
    have HL : Hid (∀ w', Fresh wr w' → (Instr.lookup 90 (.map (some F.e)) (.int .i64 ((g : Int) + 1)) true).run Tryz.prog w' = .ok (.tuple #[.agg #[.int .i64 ec.c, .int .i64 ec.i, .int .i64 ec.r, .int .i64 ec.o, tx ec.k, tx ec.v, tx ec.d, .int .i64 er.code, tx er.val, .int .i64 er.n], .bool th]) w') := Lib.hid fun w' hf => by
      have := hS1.entries.lookOk (M := mkInt) Tryz.underlying90 ent_zero (x := (g : Int) + 1) ⟨by omega, by omega⟩ w' hf
      have e : ({ joinN s x.d with grown := g, mach := st } : SrvD).entries ((g : Int) + 1) = en := hen.symm
      rw [e, ent_val, ← hee, ← hth] at this
      exact this
    have HK9 : Hid (∀ w', Fresh wr w' → (w'.cell? ⟨F.g, 2, none⟩ = some (.map (some F.e)) ∧ w'.cell? ⟨F.g, 7, none⟩ = some (.int .i64 (g : Int)) ∧ (Instr.lookup 90 (.map (some F.e)) (.int .i64 ((g : Int) + 1)) true).run Tryz.prog w' = .ok (.tuple #[.agg #[.int .i64 ec.c, .int .i64 ec.i, .int .i64 ec.r, .int .i64 ec.o, tx ec.k, tx ec.v, tx ec.d, .int .i64 er.code, tx er.val, .int .i64 er.n], .bool th]) w')) := Lib.hid fun w' hf => by
      have hv := HS1.out.2.blk.keep hf trivial
      exact ⟨hv.cell 2, hv.cell 7, HL.out w' hf⟩
    have HEn := Lib.hid (And.intro hen (And.intro hth hee))
    have wg : IntKind.i64.wrap ((g : Int) + 1) = (g : Int) + 1 := by rw [IntWalk.i64_in _ (by omega)]
    have tgr : F.g < wr.heap.size := hS1.blk.lt
    have hbn : Blk (wr.alloc (.cells #[.int .i64 0, .int .i64 0, .int .i64 0, .int .i64 0, tx [], tx [], tx [], .int .i64 0, tx [], .int .i64 0] 130)) wr.heap.size 130 #[.int .i64 0, .int .i64 0, .int .i64 0, .int .i64 0, tx [], tx [], tx [], .int .i64 0, tx [], .int .i64 0] := Blk.new _ _ _
    have HBn := Lib.hid hbn
    clear hT1 hS1 hen hth hee hbn
    go_upto_region 9 with (fail)
    refine wp_region_held_drew (S := fun w' => w'.cell? ⟨F.g, 2, none⟩ = some (.map (some F.e)) ∧ w'.cell? ⟨F.g, 7, none⟩ = some (.int .i64 (g : Int)) ∧ (Instr.lookup 90 (.map (some F.e)) (.int .i64 ((g : Int) + 1)) true).run Tryz.prog w' = .ok (.tuple #[.agg #[.int .i64 ec.c, .int .i64 ec.i, .int .i64 ec.r, .int .i64 ec.o, tx ec.k, tx ec.v, tx ec.d, .int .i64 er.code, tx er.val, .int .i64 er.n], .bool th]) w') (by kernel_rfl) (HK9.out _ (Keep.refl _ wr).drew) (fun hHeld => ?_)
    refine wpAnyH_take (i := 0) (v := .pointer (some ⟨F.g, 0, none⟩)) rfl (by kernel_rfl) (by kernel_rfl) (by kernel_rfl) (fun _ _ _ h => h) (Or.inl ⟨by kernel_rfl, by intro w hSw; simp [go_sem, hSw]⟩) hHeld ?_
    simp only [Act.put, List.getElem_toArray, List.getElem_cons_zero, List.getElem_cons_succ, List.setIfInBounds_toArray, List.set_cons_zero, List.set_cons_succ]
    refine wpAnyH_take (i := 1) (v := .pointer (some ⟨F.g, 0, none⟩)) rfl (by kernel_rfl) (by kernel_rfl) (by kernel_rfl) (fun _ _ _ h => h) (Or.inl ⟨by kernel_rfl, by intro w hSw; simp [go_sem, hSw]⟩) hHeld ?_
    simp only [Act.put, List.getElem_toArray, List.getElem_cons_zero, List.getElem_cons_succ, List.setIfInBounds_toArray, List.set_cons_zero, List.set_cons_succ]
    refine wpAnyH_take (i := 2) (v := .pointer (some ⟨F.g, 2, none⟩)) rfl (by kernel_rfl) (by kernel_rfl) (by kernel_rfl) (fun _ _ _ h => h) (Or.inl ⟨by kernel_rfl, by intro w hSw; simp [go_sem, hSw]⟩) hHeld ?_
    simp only [Act.put, List.getElem_toArray, List.getElem_cons_zero, List.getElem_cons_succ, List.setIfInBounds_toArray, List.set_cons_zero, List.set_cons_succ]
    refine wpAnyH_take (i := 3) (v := .map (some F.e)) rfl (by kernel_rfl) (by kernel_rfl) (by kernel_rfl) (fun _ _ _ h => h) (Or.inl ⟨by kernel_rfl, by intro w hSw; simp [go_sem, hSw]⟩) hHeld ?_
    simp only [Act.put, List.getElem_toArray, List.getElem_cons_zero, List.getElem_cons_succ, List.setIfInBounds_toArray, List.set_cons_zero, List.set_cons_succ]
    refine wpAnyH_take (i := 4) (v := .pointer (some ⟨F.g, 0, none⟩)) rfl (by kernel_rfl) (by kernel_rfl) (by kernel_rfl) (fun _ _ _ h => h) (Or.inl ⟨by kernel_rfl, by intro w hSw; simp [go_sem, hSw]⟩) hHeld ?_
    simp only [Act.put, List.getElem_toArray, List.getElem_cons_zero, List.getElem_cons_succ, List.setIfInBounds_toArray, List.set_cons_zero, List.set_cons_succ]
    refine wpAnyH_take (i := 5) (v := .pointer (some ⟨F.g, 0, none⟩)) rfl (by kernel_rfl) (by kernel_rfl) (by kernel_rfl) (fun _ _ _ h => h) (Or.inl ⟨by kernel_rfl, by intro w hSw; simp [go_sem, hSw]⟩) hHeld ?_
    simp only [Act.put, List.getElem_toArray, List.getElem_cons_zero, List.getElem_cons_succ, List.setIfInBounds_toArray, List.set_cons_zero, List.set_cons_succ]
    refine wpAnyH_take (i := 6) (v := .pointer (some ⟨F.g, 7, none⟩)) rfl (by kernel_rfl) (by kernel_rfl) (by kernel_rfl) (fun _ _ _ h => h) (Or.inl ⟨by kernel_rfl, by intro w hSw; simp [go_sem, hSw]⟩) hHeld ?_
    simp only [Act.put, List.getElem_toArray, List.getElem_cons_zero, List.getElem_cons_succ, List.setIfInBounds_toArray, List.set_cons_zero, List.set_cons_succ]
    refine wpAnyH_take (i := 7) (v := .int .i64 (g : Int)) rfl (by kernel_rfl) (by kernel_rfl) (by kernel_rfl) (fun _ _ _ h => h) (Or.inl ⟨by kernel_rfl, by intro w hSw; simp [go_sem, hSw]⟩) hHeld ?_
    simp only [Act.put, List.getElem_toArray, List.getElem_cons_zero, List.getElem_cons_succ, List.setIfInBounds_toArray, List.set_cons_zero, List.set_cons_succ]
    refine wpAnyH_take (i := 8) (v := .int .i64 ((g : Int) + 1)) rfl (by kernel_rfl) (by kernel_rfl) (by kernel_rfl) (fun _ _ _ h => h) (Or.inl ⟨by kernel_rfl, by intro w hSw; simp [go_sem, hSw, wg]⟩) hHeld ?_
    simp only [Act.put, List.getElem_toArray, List.getElem_cons_zero, List.getElem_cons_succ, List.setIfInBounds_toArray, List.set_cons_zero, List.set_cons_succ]
    refine wpAnyH_take (i := 9) (v := .tuple #[.agg #[.int .i64 ec.c, .int .i64 ec.i, .int .i64 ec.r, .int .i64 ec.o, tx ec.k, tx ec.v, tx ec.d, .int .i64 er.code, tx er.val, .int .i64 er.n], .bool th]) rfl (by kernel_rfl) (by kernel_rfl) (by kernel_rfl) (fun _ _ _ h => h) (Or.inl ⟨by kernel_rfl, by intro w hSw; simp [go_sem, hSw]⟩) hHeld ?_
    simp only [Act.put, List.getElem_toArray, List.getElem_cons_zero, List.getElem_cons_succ, List.setIfInBounds_toArray, List.set_cons_zero, List.set_cons_succ]
    refine wpAnyH_take (i := 10) (v := .tuple #[.agg #[.int .i64 ec.c, .int .i64 ec.i, .int .i64 ec.r, .int .i64 ec.o, tx ec.k, tx ec.v, tx ec.d, .int .i64 er.code, tx er.val, .int .i64 er.n], .bool th]) rfl (by kernel_rfl) (by kernel_rfl) (by kernel_rfl) (fun _ _ _ h => h) (Or.inl ⟨by kernel_rfl, by intro w hSw; simp [go_sem, hSw]⟩) hHeld ?_
    simp only [Act.put, List.getElem_toArray, List.getElem_cons_zero, List.getElem_cons_succ, List.setIfInBounds_toArray, List.set_cons_zero, List.set_cons_succ]
    refine wpAnyH_take (i := 11) (v := .agg #[.int .i64 ec.c, .int .i64 ec.i, .int .i64 ec.r, .int .i64 ec.o, tx ec.k, tx ec.v, tx ec.d, .int .i64 er.code, tx er.val, .int .i64 er.n]) rfl (by kernel_rfl) (by kernel_rfl) (by kernel_rfl) (fun _ _ _ h => h) (Or.inl ⟨by kernel_rfl, by intro w hSw; simp [go_sem, hSw]⟩) hHeld ?_
    simp only [Act.put, List.getElem_toArray, List.getElem_cons_zero, List.getElem_cons_succ, List.setIfInBounds_toArray, List.set_cons_zero, List.set_cons_succ]
    refine wpAnyH_take (i := 12) (v := .bool th) rfl (by kernel_rfl) (by kernel_rfl) (by kernel_rfl) (fun _ _ _ h => h) (Or.inl ⟨by kernel_rfl, by intro w hSw; simp [go_sem, hSw]⟩) hHeld ?_
    simp only [Act.put, List.getElem_toArray, List.getElem_cons_zero, List.getElem_cons_succ, List.setIfInBounds_toArray, List.set_cons_zero, List.set_cons_succ]
    refine wpAnyH_ready (rs := [13]) (by kernel_rfl) (by simp) ?_
    clear hHeld
    refine AllReadyH.cons rfl (fun K hK => ?_) AllReadyH.nil
    go_simp
    refine hK.out _ _ (HK9.out _ (((Keep.refl _ wr).alloc _).drew)) (fun hHeld => ?_)
    clear hK K
    try simp only [Act.put, List.getElem_toArray, List.getElem_cons_zero, List.getElem_cons_succ, List.setIfInBounds_toArray, List.set_cons_zero, List.set_cons_succ]
    refine wpAnyH_ready (rs := [14]) (by kernel_rfl) (by simp) ?_
    clear hHeld
    refine AllReadyH.cons rfl (fun K hK => ?_) AllReadyH.nil
    rw [if_pos (by rfl)]
    refine wp_store_mid _ _ _ rfl wr.heap.size 0 (entL (ec, er)).toArray rfl rfl (HBn.out.drew.there) (by kernel_rfl) (ent_all (ec, er)) ?_
    refine hK.out _ _ (HK9.out _ (Keep.setCells _ _ _ ((Keep.refl _ wr).alloc _).drew (fun h _ => absurd h (Nat.lt_irrefl _)))) (fun hHeld => ?_)
    clear hK K
    try simp only [Act.put, List.getElem_toArray, List.getElem_cons_zero, List.getElem_cons_succ, List.setIfInBounds_toArray, List.set_cons_zero, List.set_cons_succ]
    refine wpAnyH_take (i := 15) (v := .bool th) rfl (by kernel_rfl) (by kernel_rfl) (by kernel_rfl) (fun _ _ _ h => h) (Or.inl ⟨by kernel_rfl, by intro w hSw; simp [go_sem, hSw]⟩) hHeld ?_
    simp only [Act.put, List.getElem_toArray, List.getElem_cons_zero, List.getElem_cons_succ, List.setIfInBounds_toArray, List.set_cons_zero, List.set_cons_succ]
    refine wpAnyH_done (by kernel_rfl) ?_ _
    clear hHeld
    obtain ⟨be, hbe⟩ : ∃ b, b = wr.heap.size := ⟨_, rfl⟩
    generalize hw9 : World.setCells _ _ _ _ = w9
    have hf9 : Fresh wr w9 := by
      rw [← hw9]
      exact Keep.setCells _ _ _ ((Keep.refl _ wr).alloc _).drew (fun h _ => absurd h (Nat.lt_irrefl _))
    have hb9 : Blk w9 be 130 (entL (ec, er)).toArray := by
      rw [hbe, ← hw9]
      obtain ⟨cs', h1, h2⟩ := Blk.setCells (entL (ec, er)) 0 _ _ HBn.out.drew (by simp [entL])
      have e : cs' = (entL (ec, er)).toArray := by
        apply Array.ext'
        rw [h2]
        simp [entL]
      rw [e] at h1
      exact h1
    rw [← hbe]
    have H9 := Lib.hid (And.intro hf9 (And.intro hb9 hbe))
    clear hw9 hf9 hb9 hbe HBn HK9 HL
    cases th
    · obtain ⟨rfl, hs'⟩ : r = 0 ∧ s' = { joinN s x.d with grown := g, mach := st } := by
        have e0 : en = none := by
          have := HEn.out.2.1
          cases en with
          | none => rfl
          | some _ => cases this
        have e1 : joinG s x.d = (0, g, st) := by
          rw [HW.out.eq]
          unfold growD
          rw [← HEn.out.1, e0]
        have := HR0.out
        rw [e1] at this
        exact Prod.mk.inj this
      have HS' := Lib.hid hs'
      clear hs'
      go_wp2_with fail
      go_ret
      refine ⟨rfl, HW.out.keep.trans (H9.out.1.weaken fun _ _ _ => trivial), fun _ => ⟨T1, HS1.out.1, ?_⟩⟩
      rw [HS'.out]
      exact HS1.out.2.then H9.out.1
    have e0 : en = some (ec, er) := by
      obtain ⟨-, h1, h2⟩ := HEn.out
      cases en with
      | none => cases h1
      | some e => rw [h2]; rfl
    have e2 : growD (joinN s x.d).entries (f + 1) g st = if (ec.apply st).1 = er then growD (joinN s x.d).entries f (g + 1) (ec.apply st).2 else (27, g + 1, (ec.apply st).2) := by
      conv => lhs; unfold growD
      rw [← HEn.out.1, e0]
    have HG := Lib.hid (And.intro e0 e2)
    clear e0 e2
    have hv9 := HS1.out.2.blk.keep H9.out.1 trivial
    have g7 : w9.cell? ⟨F.g, 7, none⟩ = some (.int .i64 (g : Int)) := hv9.cell 7
    have f7 := hv9.frozen 7
    have tg := hv9.lt
    have HV9 := Lib.hid hv9
    clear hv9
    go_upto_region 13 with (fail)
    generalize hw10 : World.setCell _ _ _ = w10
    have hk10 : Keep (fun j => j ≠ F.g) w9 w10 := by rw [← hw10]; exact (Keep.refl _ w9).setCell (fun _ h => h rfl) _
    have hb10 : Blk w10 F.g 95 (srvV vs { ({ joinN s x.d with grown := g, mach := st } : SrvD) with grown := g + 1 } F) := by
      rw [← hw10]
      exact HV9.out.set 7 (.int .i64 ((g : Int) + 1))
    have hS9 := HS1.out.2.then H9.out.1
    have hS10 := hS9.with_blk hk10 (fun j hj hp e => by rw [e, hS9.fix.g] at hp; exact hp rfl) (fun j hj e => by have := (hS9.low F.g (by rw [hS9.fix.g]; simp)).1; omega) (SMore.refl T1) (hS9.same_low hk10.size) (Nat.le_refl _) hb10
    have hge : be ≠ F.g := by have := HS1.out.2.blk.lt; have := H9.out.2.2; omega
    have he10 := H9.out.2.1.keep hk10 hge
    obtain ⟨Fm, hM, hFm⟩ := (hS10.then ((Keep.refl (fun _ => True) w10).drew)).mach
    have HAp := Lib.hid (mats_apply hS10.tabs (hS10.fresh.drew) hM ec.c ec.i ec.r ec.o ec.k ec.v ec.d)
    have hnb : ¬ Fm be := fun e => by
      have h1 := hFm be e
      have h2 := (HS1.out.2.low be (by rw [h1]; simp)).2
      have := H9.out.2.2
      omega
    have hng : ¬ Fm F.g := fun e => by
      have h1 := hFm F.g e
      rw [hS10.fix.g] at h1
      cases h1
    have HK13 : Hid (∀ w', Keep (fun j => ¬ Fm j) w10 w' → (w'.cell? ⟨F.g, 8, none⟩ = some (.pointer (some ⟨F.m, 0, none⟩)) ∧ w'.cell? ⟨be, 0, none⟩ = some (.int .i64 ec.c) ∧ w'.cell? ⟨be, 1, none⟩ = some (.int .i64 ec.i) ∧ w'.cell? ⟨be, 2, none⟩ = some (.int .i64 ec.r) ∧ w'.cell? ⟨be, 3, none⟩ = some (.int .i64 ec.o) ∧ w'.cell? ⟨be, 4, none⟩ = some (tx ec.k) ∧ w'.cell? ⟨be, 5, none⟩ = some (tx ec.v) ∧ w'.cell? ⟨be, 6, none⟩ = some (tx ec.d) ∧ w'.cell? ⟨be, 7, none⟩ = some (.int .i64 er.code) ∧ w'.cell? ⟨be, 8, none⟩ = some (tx er.val) ∧ w'.cell? ⟨be, 9, none⟩ = some (.int .i64 er.n))) := Lib.hid fun w' hk => by
      have hv := hb10.keep hk hng
      have he := he10.keep hk hnb
      exact ⟨hv.cell 8, he.cell 0, he.cell 1, he.cell 2, he.cell 3, he.cell 4, he.cell 5, he.cell 6, he.cell 7, he.cell 8, he.cell 9⟩
    have H10 := Lib.hid (And.intro hS10 (And.intro hk10 (And.intro hFm (And.intro hM he10))))
    have hrs : applyD ec.c ec.i ec.r ec.o ec.k ec.v ec.d st = ec.apply st := rfl
    rw [hrs] at HAp
    obtain ⟨AR, hAR⟩ : ∃ a, a = ec.apply st := ⟨_, rfl⟩
    rw [← hAR] at HAp
    obtain ⟨ar, ast⟩ := AR
    simp only at HAp
    obtain ⟨q, hq⟩ : ∃ q, q = decide (ar ≠ er) := ⟨_, rfl⟩
    have NR : ∀ u, Sem.run Tryz.prog (binOp BinOp.neq 49 (.agg #[.int .i64 ar.code, tx ar.val, .int .i64 ar.n]) (.agg #[.int .i64 er.code, tx er.val, .int .i64 er.n])) u = .ok (.bool q) u := fun u => by
      have := neres ar er u
      rw [← hq] at this
      exact this
    have HQ := Lib.hid (And.intro hAR hq)
    clear hw10 hk10 hb10 hS9 hS10 he10 hM hFm hnb hng hrs hAR hq g7 f7 tg hge
    refine wp_region_held_drew (S := fun w' => w'.cell? ⟨F.g, 8, none⟩ = some (.pointer (some ⟨F.m, 0, none⟩)) ∧ w'.cell? ⟨be, 0, none⟩ = some (.int .i64 ec.c) ∧ w'.cell? ⟨be, 1, none⟩ = some (.int .i64 ec.i) ∧ w'.cell? ⟨be, 2, none⟩ = some (.int .i64 ec.r) ∧ w'.cell? ⟨be, 3, none⟩ = some (.int .i64 ec.o) ∧ w'.cell? ⟨be, 4, none⟩ = some (tx ec.k) ∧ w'.cell? ⟨be, 5, none⟩ = some (tx ec.v) ∧ w'.cell? ⟨be, 6, none⟩ = some (tx ec.d) ∧ w'.cell? ⟨be, 7, none⟩ = some (.int .i64 er.code) ∧ w'.cell? ⟨be, 8, none⟩ = some (tx er.val) ∧ w'.cell? ⟨be, 9, none⟩ = some (.int .i64 er.n)) (by kernel_rfl) (HK13.out _ (Keep.refl _ w10).drew) (fun hHeld => ?_)
    refine wpAnyH_take (i := 0) (v := .pointer (some ⟨F.g, 0, none⟩)) rfl (by kernel_rfl) (by kernel_rfl) (by kernel_rfl) (fun _ _ _ h => h) (Or.inl ⟨by kernel_rfl, by intro w hSw; simp [go_sem, hSw]⟩) hHeld ?_
    simp only [Act.put, List.getElem_toArray, List.getElem_cons_zero, List.getElem_cons_succ, List.setIfInBounds_toArray, List.set_cons_zero, List.set_cons_succ]
    refine wpAnyH_take (i := 1) (v := .pointer (some ⟨F.g, 0, none⟩)) rfl (by kernel_rfl) (by kernel_rfl) (by kernel_rfl) (fun _ _ _ h => h) (Or.inl ⟨by kernel_rfl, by intro w hSw; simp [go_sem, hSw]⟩) hHeld ?_
    simp only [Act.put, List.getElem_toArray, List.getElem_cons_zero, List.getElem_cons_succ, List.setIfInBounds_toArray, List.set_cons_zero, List.set_cons_succ]
    refine wpAnyH_take (i := 2) (v := .pointer (some ⟨F.g, 8, none⟩)) rfl (by kernel_rfl) (by kernel_rfl) (by kernel_rfl) (fun _ _ _ h => h) (Or.inl ⟨by kernel_rfl, by intro w hSw; simp [go_sem, hSw]⟩) hHeld ?_
    simp only [Act.put, List.getElem_toArray, List.getElem_cons_zero, List.getElem_cons_succ, List.setIfInBounds_toArray, List.set_cons_zero, List.set_cons_succ]
    refine wpAnyH_take (i := 3) (v := .pointer (some ⟨F.m, 0, none⟩)) rfl (by kernel_rfl) (by kernel_rfl) (by kernel_rfl) (fun _ _ _ h => h) (Or.inl ⟨by kernel_rfl, by intro w hSw; simp [go_sem, hSw]⟩) hHeld ?_
    simp only [Act.put, List.getElem_toArray, List.getElem_cons_zero, List.getElem_cons_succ, List.setIfInBounds_toArray, List.set_cons_zero, List.set_cons_succ]
    refine wpAnyH_take (i := 4) (v := .pointer (some ⟨be, 0, none⟩)) rfl (by kernel_rfl) (by kernel_rfl) (by kernel_rfl) (fun _ _ _ h => h) (Or.inl ⟨by kernel_rfl, by intro w hSw; simp [go_sem, hSw]⟩) hHeld ?_
    simp only [Act.put, List.getElem_toArray, List.getElem_cons_zero, List.getElem_cons_succ, List.setIfInBounds_toArray, List.set_cons_zero, List.set_cons_succ]
    refine wpAnyH_take (i := 5) (v := .agg #[.int .i64 ec.c, .int .i64 ec.i, .int .i64 ec.r, .int .i64 ec.o, tx ec.k, tx ec.v, tx ec.d]) rfl (by kernel_rfl) (by kernel_rfl) (by kernel_rfl) (fun _ _ _ h => h) (Or.inl ⟨by kernel_rfl, by intro w hSw; simp [go_sem, hSw]⟩) hHeld ?_
    simp only [Act.put, List.getElem_toArray, List.getElem_cons_zero, List.getElem_cons_succ, List.setIfInBounds_toArray, List.set_cons_zero, List.set_cons_succ]
    refine wpAnyH_take (i := 7) (v := .pointer (some ⟨be, 7, none⟩)) rfl (by kernel_rfl) (by kernel_rfl) (by kernel_rfl) (fun _ _ _ h => h) (Or.inl ⟨by kernel_rfl, by intro w hSw; simp [go_sem, hSw]⟩) hHeld ?_
    simp only [Act.put, List.getElem_toArray, List.getElem_cons_zero, List.getElem_cons_succ, List.setIfInBounds_toArray, List.set_cons_zero, List.set_cons_succ]
    refine wpAnyH_take (i := 8) (v := .agg #[.int .i64 er.code, tx er.val, .int .i64 er.n]) rfl (by kernel_rfl) (by kernel_rfl) (by kernel_rfl) (fun _ _ _ h => h) (Or.inl ⟨by kernel_rfl, by intro w hSw; simp [go_sem, hSw]⟩) hHeld ?_
    simp only [Act.put, List.getElem_toArray, List.getElem_cons_zero, List.getElem_cons_succ, List.setIfInBounds_toArray, List.set_cons_zero, List.set_cons_succ]
    refine wpAnyH_ready (rs := [6]) (by kernel_rfl) (by simp) ?_
    clear hHeld
    refine AllReadyH.cons rfl (fun K hK => ?_) AllReadyH.nil
    go_simp
    (with_reducible refine Calls.mono HAp.out ?_)
    rintro e w11 ⟨rfl, hst, hk11, hf11⟩
    have hk10' : Keep (fun j => ¬ Fm j) w10 w11 := ((Keep.refl _ w10).drew).trans hk11
    have H11 := Lib.hid (And.intro hst (And.intro hk11 hk10'))
    clear hst hk11 hf11
    go_wp2_with fail
    refine hK.out _ _ (HK13.out _ H11.out.2.2) (fun hHeld => ?_)
    clear hK K hk10'
    try simp only [Act.put, List.getElem_toArray, List.getElem_cons_zero, List.getElem_cons_succ, List.setIfInBounds_toArray, List.set_cons_zero, List.set_cons_succ]
    refine wpAnyH_take (i := 9) (v := .bool q) rfl (by kernel_rfl) (by kernel_rfl) (by kernel_rfl) (fun _ _ _ h => h) (Or.inl ⟨by kernel_rfl, by intro w hSw; simp [go_sem, hSw, NR]⟩) hHeld ?_
    simp only [Act.put, List.getElem_toArray, List.getElem_cons_zero, List.getElem_cons_succ, List.setIfInBounds_toArray, List.set_cons_zero, List.set_cons_succ]
    refine wpAnyH_done (by kernel_rfl) ?_ _
    clear hHeld NR
    have HKe : Hid (Keep (JB W T) w w11) := Lib.hid (by
      have h1 := HW.out.keep.trans (H9.out.1.weaken fun _ _ _ => trivial)
      have h2 := h1.comp H10.out.2.1 (fun _ _ h => h) (fun j _ hj => JB.ne H.out.1 H.out.1.fix.g (by simp) (by simp) (by simp [STag.part']) hj)
      refine h2.comp H11.out.2.2 (fun _ _ h => h) (fun j hjl hj e => ?_)
      have h3 := H10.out.2.2.1 j e
      have hlo := (HS1.out.2.low j (by rw [h3]; simp)).1
      rw [HO1.out j hjl] at h3
      rcases hj with (hj | hj) | hj | hj
      · omega
      · rw [hj] at h3; cases h3
      · rw [h3] at hj; cases hj
      · rw [hj] at h3; cases h3)
    cases q
    rotate_left
    · obtain ⟨rfl, hs'⟩ : r = 27 ∧ s' = { joinN s x.d with grown := g + 1, mach := ast } := by
        have hne : ¬ (ec.apply st).1 = er := by
          have := HQ.out.2
          rw [← HQ.out.1]
          simpa using this
        have e1 : joinG s x.d = (27, g + 1, ast) := by
          rw [HW.out.eq, HG.out.2, if_neg hne, ← HQ.out.1]
        have := HR0.out
        rw [e1] at this
        exact Prod.mk.inj this
      clear hs'
      go_wp2_with fail
      go_ret
      exact ⟨rfl, HKe.out, fun e => by cases e⟩
    · have HJ2 : Hid (JoinW W w w11 T F (K + 1) vs (joinN s x.d) (joinG s x.d) f (g + 1) ast) := Lib.hid (by
        have he : (ec.apply st).1 = er := by
          have := HQ.out.2
          rw [← HQ.out.1]
          simpa using this
        obtain ⟨⟨F', hA, hF'⟩, hk11, -⟩ := H11.out
        obtain ⟨T2, hT2, hO2, hS2⟩ := (H10.out.1.then ((Keep.refl (fun _ => True) w10).drew)).applied H10.out.2.2.1 hA hF' hk11
        refine ⟨⟨T2, HS1.out.1.trans hT2, fun j hj => (hO2 j (Nat.lt_of_lt_of_le hj (Nat.le_trans HW.out.keep.size (Nat.le_trans H9.out.1.size H10.out.2.1.size)))).trans (HO1.out j hj), hS2⟩, ?_, fun i hi => ?_, ?_, HKe.out⟩
        · rw [HW.out.eq, HG.out.2, if_pos he, ← HQ.out.1]
        · rcases Nat.lt_succ_iff_lt_or_eq.1 hi with h2 | rfl
          · exact HW.out.pre i h2
          · rw [← HEn.out.1, HG.out.1]; rfl
        · have := HW.out.fu; omega)
      have hg1 := HW.out.go
      have hg2 := HJ2.out.go
      have HGo := Lib.hid (And.intro hg1 hg2)
      clear hg1 hg2
      go_wp2_with fail
      exact ⟨⟨f, g + 1, ast, HJ2⟩, by rw [HGo.out.1, HGo.out.2]; omega⟩
end Go.Proofs.YtohnmaindbgngaaGreatDoor
