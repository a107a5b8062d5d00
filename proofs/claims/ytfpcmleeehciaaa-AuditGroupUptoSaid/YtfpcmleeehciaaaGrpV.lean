/-
  ROWS OF audit.Group THAT GROW: installs, the order.
-/
import Derived.Test.YtfpcmleeehciaaaGrpU
namespace Go.Proofs.Ytfpcmleeehciaaa
set_option linter.unusedVariables false
set_option linter.unusedSimpArgs false
open Go.RowKit Go.Shelf

theorem ent_info : (Try.prog.info? 100).map (fun i => (i.zero, i.size, i.bytes)) = some (some (.agg #[.int .i64 0, .int .i64 0, .int .i64 0, .int .i64 0, .int .i64 0, .int .i64 0, .slice none 0 0, .int .i64 0]), 8, 80) := by kernel_rfl
theorem etEnt : ET Try.prog 96 100 8 80 (.agg #[.int .i64 0, .int .i64 0, .int .i64 0, .int .i64 0, .int .i64 0, .int .i64 0, .slice none 0 0, .int .i64 0]) := ⟨Try.underlying96, ent_info, rfl, by decide, by decide⟩
theorem tol_info : (Try.prog.info? 115).map (fun i => (i.zero, i.size, i.bytes)) = some (some (.agg #[.int .i64 0, .int .i64 0, .int .i64 0, tx []]), 4, 40) := by kernel_rfl
theorem etTol : ET Try.prog 116 115 4 40 (.agg #[.int .i64 0, .int .i64 0, .int .i64 0, tx []]) := ⟨Try.underlying116, tol_info, rfl, by decide, by decide⟩
theorem ent_one (v : EntV) : ∀ u ∈ v.cells, u.oneCell' = true := by
  intro u hu
  simp only [EntV.cells, EntV.vals, List.mem_cons, List.not_mem_nil, or_false] at hu
  rcases hu with rfl | rfl | rfl | rfl | rfl | rfl | rfl | rfl <;> rfl
theorem tol_one (v : TolD) : ∀ u ∈ v.cells, u.oneCell' = true := by
  intro u hu
  simp only [TolD.cells, List.mem_cons, List.not_mem_nil, or_false] at hu
  rcases hu with rfl | rfl | rfl | rfl <;> rfl
theorem tag_ne {T : Nat → Tag} {a b : Nat} {t u : Tag} (ha : T a = t) (hb : T b = u) (h : t ≠ u) : a ≠ b := fun e => h (by rw [← ha, ← hb, e])
section
variable {w w' : World} {Z : Nat → Prop} {T T' : Nat → Tag}
/-- A row of installs has grown; now it is put back under its key. -/
theorem Insts.grow {wa : World} {B bi k : Nat} {f : V4 → List EntD} (h : Insts w T B bi k f) (hk : k ≤ 4194304) (hkp : Keep Z w wa) (hb : Z bi) {i : V4} (hz : ∀ j, (∃ y, y ≠ i ∧ T j = .insR y) ∨ T j = .imm → Z j) (hT : More T T') (hTb : T' bi = .ins) (hi : InV i) {vs : List EntV} {v : Value}
    (hr : RowM wa T' B 100 8 (.insR i) v vs.length (rcells EntV.cells vs)) (hs : ∀ v ∈ vs, SlI wa T' 1 v.d.tr.length v.A v.c (ics v.d.tr) ∧ v.d.tr.length ≤ 1048576) :
    ∃ w', (Instr.mapUpdate 69 (.map (some bi)) (viewA i) v).run Try.prog wa = .ok () w' ∧ Insts w' T' B bi (k + 1) (upd f i (vs.map EntV.d)) ∧ Keep (fun j => j ≠ bi) wa w' := by
  obtain ⟨ps, h1, h2, h3⟩ := h
  obtain ⟨w', hrun, hmp, hk2⟩ := (h1.keep hkp hb).store kview Try.underlying69 (small_max (Nat.le_trans h2 hk)) (keyL_of (key_view hi)) v
  have hz2 : ∀ j, T' j = .imm → j ≠ bi := fun j hj e => by subst e; rw [hTb] at hj; cases hj
  have hzr : ∀ j (y : V4), T' j = .insR y → j ≠ bi := fun j y hj e => by subst e; rw [hTb] at hj; cases hj
  refine ⟨w', hrun, ⟨_, hmp, Nat.le_trans (kput_len _ _ ps) (Nat.succ_le_succ h2), fun y a1 => ?_⟩, hk2⟩
  rw [kfind_upd kview viewA_inj (key_view hi) (key_view a1)]
  by_cases ey : y = i
  · subst ey
    rw [if_pos rfl, upd_self]
    exact ⟨vs, rfl, hr.keep (by simp) hk2 (fun j hj => hzr j y hj) (More.refl T'), fun v hv => ⟨(hs v hv).1.keep hk2 hz2 (More.refl T'), (hs v hv).2⟩⟩
  · rw [if_neg ey, upd_ne _ _ ey]
    obtain ⟨vs2, e2, hr2, hs2⟩ := h3 y a1
    exact ⟨vs2, e2, (hr2.keep (by simp) hkp (fun j hj => hz j (.inl ⟨y, ey, hj⟩)) hT).keep (by simp) hk2 (fun j hj => hzr j y hj) (More.refl T'), fun v hv => ⟨((hs2 v hv).1.keep hkp (fun j hj => hz j (.inr hj)) hT).keep hk2 hz2 (More.refl T'), (hs2 v hv).2⟩⟩
end
theorem More.trans {T T' T'' : Nat → Tag} (h : More T T') (k : More T' T'') : More T T'' := fun j hj => by rw [k j (by rw [h j hj]; exact hj), h j hj]
/-- The tags behind an append to a row that bears the tag t. -/
theorem rowT_more {w wa : World} {B : Nat} {T : Nat → Tag} {F : Fix} {k : Nat} {s : GrpD} (h : GM w B T F k s) {v v' : Value} {t : Tag} (hv : ∀ j, v.ownBlock = some j → T j = t) (hn : Next wa.heap.size v v') (hs : w.heap.size ≤ wa.heap.size) : More T (rowT T v' t) := fun j hj => by
  unfold rowT
  split
  · rename_i e
    rcases hn with hn | ⟨g, hg, hl⟩
    · rw [hn] at e
      exact (hv j e).symm
    · rw [hg] at e
      injection e with e
      subst e
      have := (h.low g hj).2
      omega
  · rfl
theorem rowT_low {w w' : World} {B : Nat} {T : Nat → Tag} {F : Fix} {k : Nat} {s : GrpD} (h : GM w B T F k s) {v' : Value} {t : Tag} {e size n : Nat} {xs : List Value} (ho : w'.ownsRow B e size v' n xs) (hs : w.heap.size ≤ w'.heap.size) : ∀ j, rowT T v' t j ≠ .other → B ≤ j ∧ j < w'.heap.size := fun j hj => by
  unfold rowT at hj
  split at hj
  · rename_i e
    exact own_lt ho e
  · exact ⟨(h.low j hj).1, Nat.lt_of_lt_of_le (h.low j hj).2 hs⟩
theorem rowT_row {w' : World} {B : Nat} {T : Nat → Tag} {v' : Value} {t : Tag} {e size n : Nat} {xs : List Value} (ho : w'.ownsRow B e size v' n xs) : RowM w' (rowT T v' t) B e size t v' n xs := ⟨ho, fun j hj => by unfold rowT; rw [if_pos hj]⟩
/-- An install has been appended to its view's row; the row is put back. -/
theorem inst_grown {w w5 w13 : World} {B : Nat} {T : Nat → Tag} {F : Fix} {K : Nat} {s : GrpD} (hG : GM w B T F K s) (hK : K ≤ 4000002) {i : V4} (hi : InV i) {vs : List EntV} {Ai : Option Addr} {ci : Nat} (hrow : RowM w T B 100 8 (.insR i) (.slice Ai vs.length ci) vs.length (rcells EntV.cells vs))
    (hsl : ∀ v ∈ vs, SlI w T 1 v.d.tr.length v.A v.c (ics v.d.tr) ∧ v.d.tr.length ≤ 1048576) {y : EntV} (hf5 : Fresh (World.drew w) w5) (hoy : w5.ownsRow (World.drew w).heap.size 3 1 (.slice y.A y.d.tr.length y.c) y.d.tr.length (ics y.d.tr)) (hyl : y.d.tr.length ≤ 1048576) {o : Obj} {v' : Value}
    (ho : w13.ownsRow B 100 8 v' (vs.length + 1) (rcells EntV.cells vs ++ y.cells)) (hkb : Keep (fun j => (Value.slice Ai vs.length ci).ownBlock ≠ some j) (w5.alloc o) w13) (hn : Next (w5.alloc o).heap.size (.slice Ai vs.length ci) v') :
    Keep (fun j => (Value.slice Ai vs.length ci).ownBlock ≠ some j ∧ j ≠ F.i) w w13 ∧ ∃ w14, (Instr.mapUpdate 69 (.map (some F.i)) (viewA i) v').run Try.prog w13 = .ok () w14 ∧ Keep (fun j => (Value.slice Ai vs.length ci).ownBlock ≠ some j ∧ j ≠ F.i) w w14 ∧
      ∃ T2, More T T2 ∧ GM w14 B T2 F (K + 1) { s with inst := upd s.inst i (vs.map EntV.d ++ [y.d]) } := by
  have hd := (Keep.refl (fun _ => True) w).drew
  have hka : Keep (fun j => (Value.slice Ai vs.length ci).ownBlock ≠ some j) w w13 := (((hd.trans hf5).alloc o).weaken fun _ _ _ => trivial).trans hkb
  have hG5 := (hG.fresh hd).imm hf5
  have hGa := hG5.fresh ((Keep.refl _ w5).alloc o)
  have hM1 : More T (immT T (World.drew w) w5) := immT_more (hG.fresh hd)
  have hM2 : More (immT T (World.drew w) w5) (rowT (immT T (World.drew w) w5) v' (.insR i)) := rowT_more hGa (fun j hj => hM1.at (hrow.2 j hj) (by simp)) hn (Nat.le_refl _)
  have hTi := hM2.at hGa.fix.i (by simp)
  have hlen : (vs ++ [y]).length = vs.length + 1 := by simp
  have hr : RowM w13 (rowT (immT T (World.drew w) w5) v' (.insR i)) B 100 8 (.insR i) v' (vs ++ [y]).length (rcells EntV.cells (vs ++ [y])) := by
    rw [hlen, rcells_append]
    have e : rcells EntV.cells [y] = y.cells := by simp [rcells]
    rw [e]
    exact rowT_row ho
  have hs : ∀ u ∈ vs ++ [y], SlI w13 (rowT (immT T (World.drew w) w5) v' (.insR i)) 1 u.d.tr.length u.A u.c (ics u.d.tr) ∧ u.d.tr.length ≤ 1048576 := by
    intro u hu
    rcases List.mem_append.1 hu with hu | hu
    · exact ⟨(hsl u hu).1.keep hka (fun j hj e => by have := hrow.2 j e; rw [hj] at this; cases this) (hM1.trans hM2), (hsl u hu).2⟩
    · rw [List.mem_singleton] at hu
      subst hu
      have hs5 := (immT_sl (T := T) hoy).keep ((Keep.refl (fun _ => True) w5).alloc o) (fun _ _ => trivial) hM2
      exact ⟨hs5.keep hkb (fun j hj e => by
        have h1 := hM2.at (hM1.at (hrow.2 j e) (by simp)) (by simp)
        rw [hj] at h1; cases h1) (More.refl _), hyl⟩
  obtain ⟨w14, hrun, hI14, hkc⟩ := hG.inst.grow (by omega) hka (fun e => by have := hrow.2 _ e; rw [hG.fix.i] at this; cases this) (fun j hj e => by
    have h1 := hrow.2 _ e
    rcases hj with ⟨y, hy, hj⟩ | hj
    · rw [hj] at h1; injection h1 with h1; exact hy h1
    · rw [hj] at h1; cases h1) (hM1.trans hM2) hTi hi hr hs
  have hk13 : Keep (fun j => (Value.slice Ai vs.length ci).ownBlock ≠ some j ∧ j ≠ F.i) w w13 := hka.weaken fun _ _ h => h.1
  have hk14 : Keep (fun j => (Value.slice Ai vs.length ci).ownBlock ≠ some j ∧ j ≠ F.i) w w14 := hk13.trans (hkc.weaken fun _ _ h => h.2)
  refine ⟨hk13, w14, hrun, hk14, _, hM1.trans hM2, ?_⟩
  have e : (vs ++ [y]).map EntV.d = vs.map EntV.d ++ [y.d] := by simp
  rw [e] at hI14
  refine hG.with_inst hk14 (fun j hj hp => ⟨fun e => ?_, fun e => ?_⟩) (hM1.trans hM2) (rowT_low hGa (own_keep ho hkc (fun j hj e => ?_)) (Nat.le_trans hkb.size hkc.size)) (Nat.le_succ K) hI14
  · rw [hrow.2 j e] at hp; exact hp rfl
  · rw [e, hG.fix.i] at hp; exact hp rfl
  · have h1 : rowT (immT T (World.drew w) w5) v' (.insR i) j = .insR i := by unfold rowT; rw [if_pos hj]
    rw [e, hTi] at h1
    cases h1
end Go.Proofs.Ytfpcmleeehciaaa
