/-
  WHAT A STEP OF audit.Group WRITES: stores into its maps, rows that grow, new blocks with their tags.
-/
import Derived.Test.YtfpcmleeehciaaaGrpW
namespace Go.Proofs.Ytfpcmleeehciaaa
set_option linter.unusedVariables false
set_option linter.unusedSimpArgs false
open Go.RowKit Go.Shelf
open Go.Maps (Keyed)

theorem small_max {k : Nat} (h : k ≤ 4194304) : k < maxLen := by simp only [maxLen]; omega
section
variable {w w' : World} {Z : Nat → Prop} {T T' : Nat → Tag}
theorem IntMap.store {b k : Nat} {f : Int → Int} (h : IntMap w b k f) (hk : k ≤ 4194304) {z : Int} (hz : I64 z) (v : Int) :
    ∃ w', (Instr.mapUpdate 67 (.map (some b)) (.int .i64 z) (.int .i64 v)).run Try.prog w = .ok () w' ∧ IntMap w' b (k + 1) (upd f z v) ∧ Keep (fun j => j ≠ b) w w' := by
  obtain ⟨ps, h1, h2, h3⟩ := h
  obtain ⟨w', hrun, hm, hkp⟩ := h1.store kint0 Try.underlying67 (small_max (Nat.le_trans h2 hk)) (ikey hz) (.int .i64 v)
  refine ⟨w', hrun, ⟨_, hm, by have := kput_len (.int .i64 z) (.int .i64 v) ps; omega, fun y hy => ?_⟩, hkp⟩
  rw [kfind_put]
  by_cases e : y = z
  · subst e; simp [Lit.sameKey]
  · have : Lit.sameKey (.int .i64 z) (.int .i64 y) = false := by simp [Lit.sameKey]; exact fun h => e h.symm
    rw [this, upd_ne _ _ e]
    simpa using h3 y hy
/-! ### lives -/
/-- The life of one incarnation, opened: what its pointer is, and what a step that writes it leaves. -/
theorem Lives.open {bv k : Nat} {lv : Who → Option LifeD} (h : Lives w T bv k lv) {x : Who} (hx : InW x) {l : LifeD} (hl : lv x = some l) :
    ∃ b f A c, LifeM w T x b f k l A c ∧ (∀ w', Fresh w w' → (Instr.lookup 68 (.map (some bv)) (whoA x) false).run Try.prog w' = .ok (.pointer (some ⟨b, 0, none⟩)) w') ∧
      ∀ (Z : Nat → Prop) (w' : World) (T' : Nat → Tag) (k' : Nat) (l' : LifeD) (f' : Nat) (A' : Option Addr) (c' : Nat), Keep Z w w' → Z bv → (∀ j, (∃ y, y ≠ x ∧ (T j = .life y ∨ T j = .frm y)) ∨ T j = .imm → Z j) → More T T' → k ≤ k' → LifeM w' T' x b f' k' l' A' c' → Lives w' T' bv k' (upd lv x (some l')) := by
  obtain ⟨ps, h1, h2, h3⟩ := h
  obtain ⟨b, f, A, c, e, hm⟩ := (h3 x hx).2 l hl
  refine ⟨b, f, A, c, hm, fun w' hf => ?_, fun Z w' T' k' l' f' A' c' hk hb hz hT hkk hm' => ⟨ps, h1.keep hk hb, by omega, fun y hy => ?_⟩⟩
  · have := (h1.keep hf trivial).look kwho Try.underlying68 (Try.zeroValue79 w') (keyL_of (key_who hx))
    rw [e] at this
    exact this
  · by_cases ey : y = x
    · subst ey
      rw [upd_self]
      exact ⟨(fun h => (Option.some_ne_none _ h).elim), fun l2 h => ⟨b, f', A', c', e, by injection h with h; subst h; exact hm'⟩⟩
    · rw [upd_ne _ _ ey]
      refine ⟨(h3 y hy).1, fun l2 hl2 => ?_⟩
      obtain ⟨b2, f2, A2, c2, e2, hm2⟩ := (h3 y hy).2 l2 hl2
      exact ⟨b2, f2, A2, c2, e2, hm2.keep hk (fun j hj => hz j (by
        rcases hj with hj | hj | hj
        · exact .inl ⟨y, ey, .inl hj⟩
        · exact .inl ⟨y, ey, .inr hj⟩
        · exact .inr hj)) hT hkk⟩
/-- A new life is put in. -/
theorem Lives.store {bv k : Nat} {lv : Who → Option LifeD} (h : Lives w T bv k lv) (hk : k ≤ 4194304) (hbv : T bv = .livs) {x : Who} (hx : InW x) {b f : Nat} {l : LifeD} {A : Option Addr} {c : Nat} (hm : LifeM w T x b f k l A c) :
    ∃ w', (Instr.mapUpdate 68 (.map (some bv)) (whoA x) (.pointer (some ⟨b, 0, none⟩))).run Try.prog w = .ok () w' ∧ Lives w' T bv (k + 1) (upd lv x (some l)) ∧ Keep (fun j => j ≠ bv) w w' := by
  obtain ⟨ps, h1, h2, h3⟩ := h
  obtain ⟨w', hrun, hmp, hkp⟩ := h1.store kwho Try.underlying68 (small_max (Nat.le_trans h2 hk)) (keyL_of (key_who hx)) (.pointer (some ⟨b, 0, none⟩))
  have hz : ∀ j (y : Who), T j = .life y ∨ T j = .frm y ∨ T j = .imm → j ≠ bv := fun j y hj e => by
    subst e
    rw [hbv] at hj
    rcases hj with hj | hj | hj <;> cases hj
  refine ⟨w', hrun, ⟨_, hmp, Nat.le_trans (kput_len _ _ ps) (Nat.succ_le_succ h2), fun y hy => ?_⟩, hkp⟩
  rw [kfind_upd kwho whoA_inj (key_who hx) (key_who hy)]
  by_cases ey : y = x
  · subst ey
    rw [if_pos rfl, upd_self]
    exact ⟨(fun h => (Option.some_ne_none _ h).elim), fun l2 h => ⟨b, f, A, c, rfl, by injection h with h; subst h; exact hm.keep hkp (fun j hj => hz j y hj) (More.refl T) (Nat.le_succ k)⟩⟩
  · rw [if_neg ey, upd_ne _ _ ey]
    refine ⟨(h3 y hy).1, fun l2 hl2 => ?_⟩
    obtain ⟨b2, f2, A2, c2, e2, hm2⟩ := (h3 y hy).2 l2 hl2
    exact ⟨b2, f2, A2, c2, e2, hm2.keep hkp (fun j hj => hz j y hj) (More.refl T) (Nat.le_succ k)⟩
/-! ### the other maps -/
theorem Sents.store {bs k : Nat} {f : V4 × Who × Int → Option (List UInt8)} (h : Sents w T bs k f) (hk : k ≤ 4194304) (hT : T bs = .snt) {x : V4 × Who × Int} (hv : InV x.1) (hw : InW x.2.1) (hi : I64 x.2.2) {l : List UInt8} {A : Option Addr} {c : Nat} (hs : SlI w T 1 l.length A c (Lib.byteCells l)) (hl : l.length ≤ 1048576) :
    ∃ w', (Instr.mapUpdate 71 (.map (some bs)) (msgA x) (.slice A l.length c)).run Try.prog w = .ok () w' ∧ Sents w' T bs (k + 1) (upd f x (some l)) ∧ Keep (fun j => j ≠ bs) w w' := by
  obtain ⟨ps, h1, h2, h3⟩ := h
  obtain ⟨w', hrun, hmp, hkp⟩ := h1.store kmsg Try.underlying71 (small_max (Nat.le_trans h2 hk)) (keyL_of (key_msg hv hw hi)) (.slice A l.length c)
  have hz : ∀ j, T j = .imm → j ≠ bs := fun j hj e => by subst e; rw [hT] at hj; cases hj
  refine ⟨w', hrun, ⟨_, hmp, Nat.le_trans (kput_len _ _ ps) (Nat.succ_le_succ h2), fun y a1 a2 a3 => ?_⟩, hkp⟩
  rw [kfind_upd kmsg msgA_inj (key_msg hv hw hi) (key_msg a1 a2 a3)]
  by_cases ey : y = x
  · subst ey
    rw [if_pos rfl, upd_self]
    refine ⟨fun h => (Option.some_ne_none _ h).elim, fun l2 h => ?_⟩
    obtain rfl : l = l2 := Option.some.inj h
    exact ⟨A, c, rfl, hs.keep hkp hz (More.refl T), hl⟩
  · rw [if_neg ey, upd_ne _ _ ey]
    refine ⟨(h3 y a1 a2 a3).1, fun l2 hl2 => ?_⟩
    obtain ⟨A2, c2, e2, hm2, hl3⟩ := (h3 y a1 a2 a3).2 l2 hl2
    exact ⟨A2, c2, e2, hm2.keep hkp hz (More.refl T), hl3⟩
theorem Mems.store {bm k : Nat} {f : V4 → List MemD} (h : Mems w T bm k f) (hk : k ≤ 4194304) (hT : T bm = .mms) {i : V4} (hi : InV i) {l : List MemD} {A : Option Addr} {c : Nat} (hs : SlI w T 3 l.length A c (rcells MemD.cells l)) (hl : l.length ≤ 1048576) :
    ∃ w', (Instr.mapUpdate 70 (.map (some bm)) (viewA i) (.slice A l.length c)).run Try.prog w = .ok () w' ∧ Mems w' T bm (k + 1) (upd f i l) ∧ Keep (fun j => j ≠ bm) w w' := by
  obtain ⟨ps, h1, h2, h3⟩ := h
  obtain ⟨w', hrun, hmp, hkp⟩ := h1.store kview Try.underlying70 (small_max (Nat.le_trans h2 hk)) (keyL_of (key_view hi)) (.slice A l.length c)
  have hz : ∀ j, T j = .imm → j ≠ bm := fun j hj e => by subst e; rw [hT] at hj; cases hj
  refine ⟨w', hrun, ⟨_, hmp, Nat.le_trans (kput_len _ _ ps) (Nat.succ_le_succ h2), fun y a1 => ?_⟩, hkp⟩
  rw [kfind_upd kview viewA_inj (key_view hi) (key_view a1)]
  by_cases ey : y = i
  · subst ey
    rw [if_pos rfl, upd_self]
    exact ⟨A, c, rfl, hs.keep hkp hz (More.refl T), hl⟩
  · rw [if_neg ey, upd_ne _ _ ey]
    obtain ⟨A2, c2, e2, hm2, hl3⟩ := h3 y a1
    exact ⟨A2, c2, e2, hm2.keep hkp hz (More.refl T), hl3⟩
theorem Insts.store {B bi k : Nat} {f : V4 → List EntD} (h : Insts w T B bi k f) (hk : k ≤ 4194304) (hT : T bi = .ins) {i : V4} (hi : InV i) {vs : List EntV} {v : Value} (hr : RowM w T B 100 8 (.insR i) v vs.length (rcells EntV.cells vs)) (hs : ∀ v ∈ vs, SlI w T 1 v.d.tr.length v.A v.c (ics v.d.tr) ∧ v.d.tr.length ≤ 1048576) :
    ∃ w', (Instr.mapUpdate 69 (.map (some bi)) (viewA i) v).run Try.prog w = .ok () w' ∧ Insts w' T B bi (k + 1) (upd f i (vs.map EntV.d)) ∧ Keep (fun j => j ≠ bi) w w' := by
  obtain ⟨ps, h1, h2, h3⟩ := h
  obtain ⟨w', hrun, hmp, hkp⟩ := h1.store kview Try.underlying69 (small_max (Nat.le_trans h2 hk)) (keyL_of (key_view hi)) v
  have hz : ∀ j, T j = .imm → j ≠ bi := fun j hj e => by subst e; rw [hT] at hj; cases hj
  have hzr : ∀ j (y : V4), T j = .insR y → j ≠ bi := fun j y hj e => by subst e; rw [hT] at hj; cases hj
  refine ⟨w', hrun, ⟨_, hmp, Nat.le_trans (kput_len _ _ ps) (Nat.succ_le_succ h2), fun y a1 => ?_⟩, hkp⟩
  rw [kfind_upd kview viewA_inj (key_view hi) (key_view a1)]
  by_cases ey : y = i
  · subst ey
    rw [if_pos rfl, upd_self]
    exact ⟨vs, rfl, hr.keep (by simp) hkp (fun j hj => hzr j y hj) (More.refl T), fun v hv => ⟨(hs v hv).1.keep hkp hz (More.refl T), (hs v hv).2⟩⟩
  · rw [if_neg ey, upd_ne _ _ ey]
    obtain ⟨vs2, e2, hr2, hs2⟩ := h3 y a1
    exact ⟨vs2, e2, hr2.keep (by simp) hkp (fun j hj => hzr j y hj) (More.refl T), fun v hv => ⟨(hs2 v hv).1.keep hkp hz (More.refl T), (hs2 v hv).2⟩⟩

/-! ### new blocks -/
/-- All blocks that came between w and w' are such as nobody writes into. -/
def immT (T : Nat → Tag) (w w' : World) : Nat → Tag := fun j => if w.heap.size ≤ j ∧ j < w'.heap.size then .imm else T j
/-- A row's block bears the row's tag. -/
def rowT (T : Nat → Tag) (v : Value) (t : Tag) : Nat → Tag := fun j => if v.ownBlock = some j then t else T j
def oneT (T : Nat → Tag) (b : Nat) (t : Tag) : Nat → Tag := fun j => if j = b then t else T j
end
theorem GM.more {w w' : World} {B : Nat} {T T' : Nat → Tag} {F : Fix} {k k' : Nat} {s : GrpD} {Z : Nat → Prop} (h : GM w B T F k s) (hk : Keep Z w w') (hz : ∀ j, T j ≠ .other → Z j) (hT : More T T') (hlow : ∀ j, T' j ≠ .other → B ≤ j ∧ j < w'.heap.size) (hkk : k ≤ k') : GM w' B T' F k' s :=
  have ht : ∀ {j : Nat} {t : Tag}, T j = t → t ≠ .other → Z j := fun e ht => hz _ (by rw [e]; exact ht)
  ⟨h.fix.more hT, hlow, h.blk.keep hk (ht h.fix.g (by simp)), (h.up.keep hk (ht h.fix.u (by simp))).mono hkk, (h.last.keep hk (ht h.fix.l (by simp))).mono hkk,
    h.lives.keep hk (ht h.fix.v (by simp)) (fun j hj => by rcases hj with ⟨x, e⟩ | ⟨x, e⟩ | e <;> exact ht e (by simp)) hT hkk,
    h.inst.keep hk (ht h.fix.i (by simp)) (fun j hj => by rcases hj with ⟨x, e⟩ | e <;> exact ht e (by simp)) hT hkk,
    h.mem.keep hk (ht h.fix.m (by simp)) (fun j e => ht e (by simp)) hT hkk, h.sent.keep hk (ht h.fix.s (by simp)) (fun j e => ht e (by simp)) hT hkk,
    h.order.keep hk (ht h.fix.o (by simp)) (fun j hj => by obtain ⟨x, e⟩ := hj; exact ht e (by simp)) hT hkk, h.count.keep hk (ht h.fix.c (by simp)) hkk⟩
theorem GM.base {w : World} {B : Nat} {T : Nat → Tag} {F : Fix} {k : Nat} {s : GrpD} (h : GM w B T F k s) : B ≤ w.heap.size := by
  have := h.low F.g (by rw [h.fix.g]; simp)
  omega
theorem immT_more {w w' : World} {B : Nat} {T : Nat → Tag} {F : Fix} {k : Nat} {s : GrpD} (h : GM w B T F k s) : More T (immT T w w') := fun j hj => by
  unfold immT
  rw [if_neg]
  have := (h.low j hj).2
  omega
/-- Behind a call that only makes memory. -/
theorem GM.imm {w w' : World} {B : Nat} {T : Nat → Tag} {F : Fix} {k : Nat} {s : GrpD} (h : GM w B T F k s) (hf : Fresh w w') : GM w' B (immT T w w') F k s :=
  h.more hf (fun _ _ => trivial) (immT_more h) (fun j hj => by
    by_cases e : w.heap.size ≤ j ∧ j < w'.heap.size
    · exact ⟨Nat.le_trans h.base e.1, e.2⟩
    · unfold immT at hj
      rw [if_neg e] at hj
      exact ⟨(h.low j hj).1, Nat.lt_of_lt_of_le (h.low j hj).2 hf.size⟩) (Nat.le_refl k)
/-- What it hands out reads, and nobody writes into it. -/
theorem immT_sl {w w' : World} {T : Nat → Tag} {e size n c : Nat} {A : Option Addr} {xs : List Value} (h : w'.ownsRow w.heap.size e size (.slice A n c) n xs) : SlI w' (immT T w w') size n A c xs := by
  rcases h.2 with ⟨hv, hn⟩ | ⟨g, cap, cur, hv, hb, hh, hc, _⟩
  · injection hv with h1 h2 h3
    subst h1 h2 h3
    obtain rfl := own_nil_of h
    exact ⟨none, 0, rfl, Nat.le_refl _, fun _ => .inl rfl, Rd.nil _ _ _ _⟩
  · injection hv with h1 h2 h3
    subst h1 h3
    obtain ⟨A, c, hv, hr, _⟩ := own_rd h
    injection hv with h1 h2 h3
    subst h1 h3
    refine ⟨_, _, rfl, hc, fun _ => .inr (by simp), hr.weaken fun k hk => ?_⟩
    simp [Value.ownBlock] at hk
    subst hk
    unfold immT
    rw [if_pos ⟨hb, lt_of_block hh⟩]
end Go.Proofs.Ytfpcmleeehciaaa
