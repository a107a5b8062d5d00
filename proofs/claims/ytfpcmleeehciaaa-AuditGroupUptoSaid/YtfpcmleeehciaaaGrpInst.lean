/-
  WALK OF install: RULES 2, 3, 4, 5, 9, 11.
-/
import Derived.Test.YtfpcmleeehciaaaGrpStab
import Derived.Test.YtfpcmleeehciaaaGrpV
import Derived.Test.YtfpcmleeehciaaaQuiet
namespace Go.Proofs.Ytfpcmleeehciaaa
set_option linter.unusedVariables false
set_option linter.unusedSimpArgs false
open Go.RowKit Go.Shelf

def instN (s : GrpD) (m : MarkD) : GrpD :=
  { s with mem := upd s.mem m.id m.mem, inst := upd s.inst m.id (s.inst m.id ++ [⟨m.who, (s.life m.who).id, m.tr, s.count ((s.life m.who).id, m.who)⟩]), lives := upd s.lives m.who (some ⟨false, false, m.id, m.mem, 0, 0, 0, 0, fun _ => 0⟩) }
theorem nextG_inst (s : GrpD) (m : MarkD) (h : m.kind = 7) : nextG s m = instN { s with at_ := m.at_ } m := by
  unfold nextG instN
  simp only [h]
  rfl
theorem MkB.rangeQ {w : World} {bm : Nat} {x : MkV} (h : MkB w bm x) : ∀ w', (∃ p : Regrown, w' = Go.Sort.grow (redrawn w p.d) p.os) → w'.rangeAt bm 0 x.cells := fun w' hw' => by
  obtain ⟨p, rfl⟩ := hw'
  have := (h.blk.keep (fresh_regrown w p.d p.os) trivial).range
  simpa using this
theorem MkB.range0 {w : World} {bm : Nat} {x : MkV} (h : MkB w bm x) : w.rangeAt bm 0 x.cells := by
  have := h.blk.range
  simpa using this
/-- The two boxes of a step, in a later world. -/
structure Box2 (w w' : World) (bu bm : Nat) (x : MkV) : Prop where
  fresh : Fresh w w'
  wb : Blk w' bu 78 #[.int .i64 x.d.who.1, .int .i64 x.d.who.2]
  mb : MkB w' bm x
theorem Box2.next {w w' w'' : World} {bu bm : Nat} {x : MkV} (h : Box2 w w' bu bm x) (hf : Fresh w' w'') : Box2 w w'' bu bm x := ⟨h.fresh.trans hf, h.wb.keep hf trivial, ⟨h.mb.blk.keep hf trivial⟩⟩
theorem life_one (l : LifeD) (A : Option Addr) (c f : Nat) : (lifeV l A c f).all (·.oneCell') = true := by simp [lifeV, Value.oneCell']
/-- The life of one who has just installed. -/
theorem inst_end {w w14 : World} {B : Nat} {T T2 : Nat → Tag} {F : Fix} {K : Nat} {s s2 : GrpD} (x : MkV) (hx : MkInt x.d) (hml : x.d.mem.length ≤ 1048576) {v : LifeD} {b f : Nat} {A : Option Addr} {c : Nat} (hm : LifeM w T x.d.who b f K v A c) (hG : GM w B T F K s) (hG14 : GM w14 B T2 F (K + 2) s2) (hT2 : More T T2) {Z : Nat → Prop} (hkw : Keep Z w w14) (hZb : Z b) (hZv : Z F.v) (hZo : ∀ j, (∃ y, y ≠ x.d.who ∧ (T j = .life y ∨ T j = .frm y)) ∨ T j = .imm → Z j) (hB : ∀ j, KB B T j → Z j) (hlv : s2.lives = s.lives)
    (hset : ∀ (Z : Nat → Prop) (w' : World) (T' : Nat → Tag) (k' : Nat) (l' : LifeD) (f' : Nat) (A' : Option Addr) (c' : Nat), Keep Z w w' → Z F.v → (∀ j, (∃ y, y ≠ x.d.who ∧ (T j = .life y ∨ T j = .frm y)) ∨ T j = .imm → Z j) → More T T' → K ≤ k' → LifeM w' T' x.d.who b f' k' l' A' c' → Lives w' T' F.v k' (upd s.lives x.d.who (some l')))
    {Az : Option Addr} {cz : Nat} (hsz : SlI w14 T2 3 x.d.mem.length Az cz (rcells MemD.cells x.d.mem)) {s' : GrpD} (hs' : s' = { s2 with lives := upd s.lives x.d.who (some ⟨false, false, x.d.id, x.d.mem, 0, 0, 0, 0, fun _ => 0⟩) }) {w15 : World}
    (h15 : w15 = ((w14.alloc (.map #[] 0)).drew).setCells b 0 (lifeV ⟨false, false, x.d.id, x.d.mem, 0, 0, 0, 0, fun _ => 0⟩ Az cz w14.heap.size).toList) : StepP T w w15 B F K 0 s' := by
  have hb14 := hm.blk.keep hkw hZb
  have hlt := hb14.lt
  have hfx : Fresh w14 ((w14.alloc (.map #[] 0)).drew) := ((Keep.refl (fun _ => True) w14).alloc (.map #[] 0)).drew
  have hkX : Keep (fun j => j ≠ b) w14 w15 := by
    rw [h15]
    exact Keep.setCells _ _ _ (hfx.weaken fun _ _ _ => trivial) (fun _ e => e rfl)
  have hT3 : More T2 (oneT T2 w14.heap.size (.frm x.d.who)) := fun j hj => by
    unfold oneT
    rw [if_neg]
    have := (hG14.low j hj).2
    omega
  have hT2b := hT2.at hm.tb (by simp)
  have hblk : Blk w15 b 83 (lifeV ⟨false, false, x.d.id, x.d.mem, 0, 0, 0, 0, fun _ => 0⟩ Az cz w14.heap.size) := by
    obtain ⟨cs', h1, h2⟩ := Blk.setCells (lifeV ⟨false, false, x.d.id, x.d.mem, 0, 0, 0, 0, fun _ => 0⟩ Az cz w14.heap.size).toList 0 _ _ (hb14.keep hfx trivial) (by simp [lifeV])
    rw [← h15] at h1
    have e : cs' = lifeV ⟨false, false, x.d.id, x.d.mem, 0, 0, 0, 0, fun _ => 0⟩ Az cz w14.heap.size := by
      apply Array.ext'
      rw [h2]
      simp [lifeV]
    rw [e] at h1
    exact h1
  have hfr : IntMap w15 w14.heap.size (K + 3) (fun _ => 0) := by
    have h1 : IntMap ((w14.alloc (.map #[] 0)).drew) w14.heap.size (K + 3) (fun _ => 0) := (IntMap.made w14 (K + 3)).keep ((Keep.refl (fun _ => True) (w14.alloc (.map #[] 0))).drew) trivial
    rw [h15]
    exact h1.keep (Keep.setCells _ _ _ (Keep.refl (fun j => j ≠ b) ((w14.alloc (.map #[] 0)).drew)) (fun _ e => e rfl)) (by omega)
  have hm' : LifeM w15 (oneT T2 w14.heap.size (.frm x.d.who)) x.d.who b w14.heap.size (K + 3) ⟨false, false, x.d.id, x.d.mem, 0, 0, 0, 0, fun _ => 0⟩ Az cz :=
    ⟨hT3.at hT2b (by simp), by unfold oneT; rw [if_pos rfl], hblk, hsz.keep hkX (fun j hj => tag_ne hj hT2b (by simp)) hT3, hfr, hml, hx.mem, hx.id⟩
  have hk15 : Keep (fun j => Z j ∧ j ≠ b) w w15 := (hkw.weaken fun _ _ h => h.1).comp hkX (fun _ _ h => h) (fun _ _ h => h.2)
  have hL := hset (fun j => Z j ∧ j ≠ b) w15 (oneT T2 w14.heap.size (.frm x.d.who)) (K + 3) _ _ _ _ hk15 ⟨hZv, tag_ne hG.fix.v hm.tb (by simp)⟩ (fun j hj => ⟨hZo j hj, by
    rcases hj with ⟨y, hy, hj | hj⟩ | hj
    · exact tag_ne hj hm.tb (by simp [hy])
    · exact tag_ne hj hm.tb (by simp)
    · exact tag_ne hj hm.tb (by simp)⟩) (hT2.trans hT3) (by omega) hm'
  refine ⟨hk15.weaken fun j hj hB' => ⟨hB j hB', hB'.ne hG hm.tb (by simp) (by simp)⟩, fun _ => ⟨oneT T2 w14.heap.size (.frm x.d.who), hT2.trans hT3, ?_⟩⟩
  · rw [hs']
    refine hG14.with_lives hkX (fun j hj hp e => ?_) hT3 (fun j hj => ?_) (by omega) hL
    · rw [e, hT2b] at hp; exact hp rfl
    · unfold oneT at hj
      split at hj
      · rename_i e
        subst e
        exact ⟨hG14.base, by have h1 := hfx.size; have h2 := hkX.size; have h3 := hfr.lt; omega⟩
      · exact ⟨(hG14.low j hj).1, Nat.lt_of_lt_of_le (hG14.low j hj).2 hkX.size⟩
set_option maxRecDepth 20000 in
set_option maxHeartbeats 8000000 in
theorem install_any {w : World} {B : Nat} {T : Nat → Tag} {F : Fix} {K k : Nat} {s : GrpD} (hG : GM w B T F K s) (hB : BdG s k) (hK : K ≤ 4000000) (hk : k ≤ 1048575) (x : MkV) (hx : MkIn w B x) {v : LifeD} (hv : s.lives x.d.who = some v) (b : Nat)
    (hp : (Instr.lookup 68 (.map (some F.v)) (whoA x.d.who) false).run Try.prog w = .ok (.pointer (some ⟨b, 0, none⟩)) w) :
    Calls Try.prog 23 #[.pointer (some ⟨F.g, 0, none⟩), whoA x.d.who, .pointer (some ⟨b, 0, none⟩), .agg x.cells.toArray] w fun e w' =>
      e = .returned (.int .i64 (instR s x.d)) ∧ StepP T w w' B F K (instR s x.d) (instN s x.d) := by
  obtain ⟨b', f, A, c, hm, LK, hset⟩ := hG.lives.open hx.ints.who hv
  obtain rfl : b' = b := by
    have h1 := LK w (Keep.refl _ w)
    rw [hp] at h1
    injection h1 with h1
    injection h1 with h1
    injection h1 with h1
    injection h1 with h1
    exact h1.symm
  have hlife := life_of hv
  obtain ⟨vs, Ai, ci, hvs, hrow, hsl, LI⟩ := hG.inst.lookF hx.ints.id
  have hvl : vs.length ≤ 1048575 := by
    have := hB.inst x.d.id
    rw [← hvs, List.length_map] at this
    omega
  obtain ⟨r, hr0⟩ : ∃ r, r = instR s x.d := ⟨_, rfl⟩
  rw [← hr0]
  obtain ⟨dn, hdn⟩ : ∃ n, n = s.count (v.id, x.d.who) := ⟨_, rfl⟩
  have hR : r = (if wellB x.d.who v.id.1 x.d = false then 2 else if (vs.map EntV.d ≠ [] ∧ s.mem x.d.id ≠ x.d.mem) ∨ vs.any (fun e => decide (e.d.w = x.d.who)) = true then 3 else if togB s x.d.who v.id x.d = false then 4 else if v.blocked = false then 5 else if vs.all (fun e => alikeB v.id dn e.d) = false then 9 else if x.d.n ≠ (v.acc : Int) - (v.own : Int) then 11 else 0) := by
    rw [hr0, hdn]
    unfold instR
    rw [hlife, ← hvs]
    simp only [List.any_map, List.all_map, Function.comp_def]
  have hN : instN s x.d = { s with mem := upd s.mem x.d.id x.d.mem, inst := upd s.inst x.d.id (vs.map EntV.d ++ [⟨x.d.who, v.id, x.d.tr, dn⟩]), lives := upd s.lives x.d.who (some ⟨false, false, x.d.id, x.d.mem, 0, 0, 0, 0, fun _ => 0⟩) } := by
    unfold instN; rw [hlife, hvs, hdn]
  have hbnd := hB.life _ _ hv
  have H := Lib.hid (And.intro hG (And.intro hx (And.intro hm (And.intro hset (And.intro hR (And.intro hN (And.intro hdn hB)))))))
  have HV := Lib.hid (And.intro hrow (And.intro hsl (And.intro LI hvs)))
  clear hG hx hm hset hR hN hr0 hlife LK hp hv hdn hrow hsl LI hvs hB
  unfold whoA
  go_enter Try.func23, Try.ntmps23
  go_wp2_with fail
  obtain ⟨w1, hw1⟩ : ∃ w1, w1 = (w.alloc (.cells #[.int .i64 x.d.who.1, .int .i64 x.d.who.2] 78)).alloc (.cells x.cells.toArray 50) := ⟨_, rfl⟩
  obtain ⟨bm, hbm⟩ : ∃ b, b = w.heap.size + 1 := ⟨_, rfl⟩
  obtain ⟨bu, hbu⟩ : ∃ b, b = w.heap.size := ⟨_, rfl⟩
  rw [← hw1, ← hbm, ← hbu]
  have hf1 : Fresh w w1 := hw1 ▸ ((Keep.refl _ w).alloc _).alloc _
  have hwb : Blk w1 bu 78 #[.int .i64 x.d.who.1, .int .i64 x.d.who.2] := by rw [hw1, hbu]; exact (Blk.new w _ _).alloc _
  have hmb : MkB w1 bm x := by
    have := MkB.new (w.alloc (.cells #[.int .i64 x.d.who.1, .int .i64 x.d.who.2] 78)) x
    rw [hw1, hbm]
    simpa using this
  have HZ := Lib.hid (And.intro (show w.heap.size ≤ bu by omega) (show w.heap.size ≤ bm by omega))
  have H1 := Lib.hid (Box2.mk hf1 hwb hmb)
  clear hw1 hbm hbu hf1 hwb hmb
  -- rule 2
  obtain ⟨dW, hdW⟩ : ∃ d, d = wellB x.d.who v.id.1 x.d := ⟨_, rfl⟩
  have HR1 := Lib.hid H1.out.mb.rangeQ
  have hlb := H.out.2.2.1.blk.keep H1.out.fresh trivial
  have kl2 := cell_regrown (show w1.cell? ⟨b', 2, none⟩ = some (.int .i64 v.id.1) from hlb.cell 2)
  have ku0 := cell_regrown (H1.out.wb.cell 0); have ku1 := cell_regrown (H1.out.wb.cell 1)
  simp at ku0 ku1
  have lb := hlb.lt; have lu := H1.out.wb.lt; have lm := H1.out.mb.blk.lt
  have HC := Lib.hid (fun (q : Nat) (os : Array Obj) => Calls.regrown_of (w := w1) (d := q) (os := os) ((well_any x.d.who v.id.1 x (fun j => j < B) _ (H.out.2.1.keep (H1.out.fresh.trans (fresh_regrown w1 q os)) (fun _ _ => trivial)).ok H.out.2.1.m).mono fun _ _ ⟨he, hf⟩ => ⟨he, hf.below⟩))
  unfold whoA at HC
  rw [← hdW] at HC
  have HDW := Lib.hid hdW
  clear hlb hdW
  refine wp_region_quiet_below (by kernel_rfl) (by kernel_rfl) ?_
  repeat (first
    | (refine wpQuiet_load_mid rfl 50 _ rfl bm 0 rfl x.cells _ HR1.out Try.underlying50 rfl (by kernel_rfl) ?_; simp only [Act.put, List.setIfInBounds_toArray, List.set_cons_zero, List.set_cons_succ])
    | go_big_quiet_step (exact HC.out _ _))
  refine wpQuiet_nil ?_
  intro _ hw'
  obtain ⟨⟨dq, osq⟩, hw''⟩ := hw'
  subst hw''
  have hf2 := fresh_regrown w1 dq osq
  simp only
  generalize hw2 : Go.Sort.grow (redrawn w1 dq) osq = w2
  rw [hw2] at hf2
  have H2 := Lib.hid (H1.out.next hf2)
  clear hf2 hw2 HC HR1 kl2 ku0 ku1 lb lu lm H1
  cases dW
  · obtain rfl : r = 2 := by rw [H.out.2.2.2.2.1, if_pos HDW.out.symm]
    go_wp2_with fail
    go_ret
    exact ⟨rfl, StepP.bad H2.out.fresh (by decide)⟩
  · have hR2 := H.out.2.2.2.2.1
    rw [if_neg (by rw [← HDW.out]; decide)] at hR2
    have HRa := Lib.hid hR2
    clear hR2 HDW
    -- the installs so far
    go_wp2_with fail
    have hG2 := H.out.1.fresh H2.out.fresh
    have g5 : w2.cell? ⟨F.g, 5, none⟩ = some (.map (some F.i)) := hG2.blk.cell 5
    have c4 := H2.out.mb.e1; have c5 := H2.out.mb.e2; have c6 := H2.out.mb.e3; have c7 := H2.out.mb.e4
    have L : ∀ q, (Instr.lookup 69 (.map (some F.i)) (.agg #[.int .i64 x.d.e1, .int .i64 x.d.e2, .int .i64 x.d.e3, .int .i64 x.d.e4]) false).run Try.prog (w2.drewN q) = .ok (.slice Ai vs.length ci) (w2.drewN q) := fun q => HV.out.2.2.1 _ (H2.out.fresh.drewN q)
    have lm := H2.out.mb.blk.lt; have lg := hG2.blk.lt
    clear hG2
    go_quiet (fail)
    go_wp2_with fail
    generalize hw3 : World.drewN w2 _ = w3
    have H3 := Lib.hid (hw3 ▸ H2.out.next ((Keep.refl _ w2).drewN _) : Box2 w w3 bu bm x)
    clear hw3 g5 c4 c5 c6 c7 L lm lg H2
    -- rule 3
    have hG3 := H.out.1.fresh H3.out.fresh
    obtain ⟨Aq, cq, hsq, hlq, LQ⟩ := H.out.1.mem.lookF H.out.2.1.ints.id
    obtain ⟨mq, hmq⟩ : ∃ l, l = s.mem x.d.id := ⟨_, rfl⟩
    rw [← hmq] at hsq hlq LQ
    obtain ⟨Aq', cq', hqe, -, -, hrq⟩ := hsq
    injection hqe with hq1 hq2 hq3
    subst hq1 hq3
    obtain ⟨Ax, cx, hvm, -, -, hrx⟩ := H.out.2.1.ok.m
    obtain ⟨Ar, cr, hvr, hrr, -⟩ := own_rd HV.out.1.1
    injection hvr with hv1 hv2 hv3
    subst hv1 hv3
    have ei : Enters Try.prog 39 := enters_of Try.func39 (by kernel_rfl) rfl
    obtain ⟨dE, hdE⟩ : ∃ d, d = decide (mq = x.d.mem) := ⟨_, rfl⟩
    obtain ⟨dH, hdH⟩ : ∃ d, d = vs.any (fun e => decide (e.d.w = x.d.who)) := ⟨_, rfl⟩
    have HCe := Lib.hid (fun (q : Nat) (os : Array Obj) => Calls.regrown_of (w := w3) (d := q) (os := os) ((equal_mem _ _ Aq Ax mq.length cq x.d.mem.length cx mq x.d.mem _ (hrq.keep ((H3.out.fresh.trans (fresh_regrown w3 q os)).weaken fun _ _ _ => trivial)) (hrx.keep ((H3.out.fresh.trans (fresh_regrown w3 q os)).weaken fun _ _ _ => trivial)) rfl rfl hlq H.out.2.1.m).mono fun _ _ ⟨he, hf⟩ => ⟨he, hf.below⟩))
    have HCc := Lib.hid (fun (q : Nat) (os : Array Obj) => Calls.regrown_of (w := w3) (d := q) (os := os) ((cont_ent ei (fun e => decide (e.d.w = x.d.who)) _ Ai vs.length ci vs _ (hrr.keep ((H3.out.fresh.trans (fresh_regrown w3 q os)).weaken fun _ _ _ => trivial)) rfl (by omega) (sameWho_pred x.d.who bu vs _ (H3.out.wb.keep (fresh_regrown w3 q os) trivial))).mono fun _ _ ⟨he, hf⟩ => ⟨he, hf.below⟩))
    rw [← hdE] at HCe
    rw [← hdH] at HCc
    have k6 := cell_regrown (show w3.cell? ⟨F.g, 6, none⟩ = some (.map (some F.m)) from hG3.blk.cell 6)
    have k4 := cell_regrown H3.out.mb.e1; have k5 := cell_regrown H3.out.mb.e2; have ke6 := cell_regrown H3.out.mb.e3; have k7 := cell_regrown H3.out.mb.e4
    have k8 := cell_regrown (H3.out.mb.vm.trans (congrArg some hvm))
    have KL : ∀ (q : Nat) (os : Array Obj), (Instr.lookup 70 (.map (some F.m)) (.agg #[.int .i64 x.d.e1, .int .i64 x.d.e2, .int .i64 x.d.e3, .int .i64 x.d.e4]) false).run Try.prog (Go.Sort.grow (redrawn w3 q) os) = .ok (.slice Aq mq.length cq) (Go.Sort.grow (redrawn w3 q) os) := fun q os => LQ _ (H3.out.fresh.trans (fresh_regrown w3 q os))
    have HE3 := Lib.hid (And.intro hdE (And.intro hdH hmq))
    have lg := hG3.blk.lt; have lm := H3.out.mb.blk.lt; have lu := H3.out.wb.lt
    clear hG3 hlq LQ hq2 hrq hvm hrx hrr ei hdE hdH hmq hv2
    obtain ⟨d3, hd3⟩ : ∃ d : Bool, d = ((decide (vs ≠ []) && !dE) || dH) := ⟨_, rfl⟩
    have HD3 : Hid ((d3 = true) ↔ ((vs.map EntV.d ≠ [] ∧ s.mem x.d.id ≠ x.d.mem) ∨ vs.any (fun e => decide (e.d.w = x.d.who)) = true)) := Lib.hid (by
      rw [hd3, HE3.out.1, HE3.out.2.1, ← HE3.out.2.2]
      simp [List.map_eq_nil_iff])
    have HD3e := Lib.hid hd3
    clear hd3
    go_cut [50] (fun s50 wx => s50 = .bool d3 ∧ Hid (Fresh w3 wx))
    case first =>
      by_cases hvn : vs = []
      · have E0 : Hid (d3 = dH) := Lib.hid (by rw [HD3e.out]; simp [hvn])
        have hl0 : ¬ (0 : Int) < (vs.length : Int) := by rw [hvn]; simp
        have hl1 : decide (0 < vs.length) = false := by rw [hvn]; rfl
        clear hvn
        refine wp_region_quiet_below (by kernel_rfl) (by kernel_rfl) ?_
        repeat (go_big_quiet_step (first | exact HCc.out _ _ | exact HCe.out _ _))
        refine wpQuiet_nil ?_
        intro _ hw'
        obtain ⟨⟨dq2, osq2⟩, hw''⟩ := hw'
        subst hw''
        go_wp2_with fail
        go_meet
        exact ⟨congrArg Value.bool E0.out.symm, Lib.hid (fresh_regrown w3 dq2 osq2)⟩
      · have hlp : 0 < vs.length := by
          rcases Nat.eq_zero_or_pos vs.length with e | e
          · exact absurd (List.eq_nil_of_length_eq_zero e) hvn
          · exact e
        have hl0 : (0 : Int) < (vs.length : Int) := by omega
        have hl1 : decide (0 < vs.length) = true := decide_eq_true hlp
        cases dE
        · have E0 : Hid (d3 = true) := Lib.hid (by rw [HD3e.out]; simp [hvn])
          clear hvn
          refine wp_region_quiet_below (by kernel_rfl) (by kernel_rfl) ?_
          repeat (go_big_quiet_step (first | exact HCc.out _ _ | exact HCe.out _ _))
          refine wpQuiet_nil ?_
          intro _ hw'
          obtain ⟨⟨dq2, osq2⟩, hw''⟩ := hw'
          subst hw''
          go_wp2_with fail
          go_meet
          exact ⟨congrArg Value.bool E0.out.symm, Lib.hid (fresh_regrown w3 dq2 osq2)⟩
        · have E0 : Hid (d3 = dH) := Lib.hid (by rw [HD3e.out]; simp)
          clear hvn
          refine wp_region_quiet_below (by kernel_rfl) (by kernel_rfl) ?_
          repeat (go_big_quiet_step (first | exact HCc.out _ _ | exact HCe.out _ _))
          refine wpQuiet_nil ?_
          intro _ hw'
          obtain ⟨⟨dq2, osq2⟩, hw''⟩ := hw'
          subst hw''
          go_wp2_with fail
          go_meet
          exact ⟨congrArg Value.bool E0.out.symm, Lib.hid (fresh_regrown w3 dq2 osq2)⟩
    case rest =>
    rename World => w4
    obtain ⟨rfl, HC4⟩ := hcut
    have H4 := Lib.hid (H3.out.next HC4.out)
    clear HC4 HCe HCc k6 k4 k5 ke6 k7 k8 KL lg lm lu H3 HE3 HD3e
    cases d3
    rotate_left
    · obtain rfl : r = 3 := by rw [HRa.out, if_pos (HD3.out.1 rfl)]
      go_wp2_with fail
      go_ret
      exact ⟨rfl, StepP.bad H4.out.fresh (by decide)⟩
    · have hR3 := HRa.out
      rw [if_neg (fun h => by have := HD3.out.2 h; cases this)] at hR3
      have HRb := Lib.hid hR3
      clear hR3 HRa HD3
      -- the view that it comes from
      have hlb := H.out.2.2.1.blk.keep H4.out.fresh trivial
      have l2 : w4.cell? ⟨b', 2, none⟩ = some (.int .i64 v.id.1) := hlb.cell 2
      have l3 : w4.cell? ⟨b', 3, none⟩ = some (.int .i64 v.id.2.1) := hlb.cell 3
      have l4 : w4.cell? ⟨b', 4, none⟩ = some (.int .i64 v.id.2.2.1) := hlb.cell 4
      have l5 : w4.cell? ⟨b', 5, none⟩ = some (.int .i64 v.id.2.2.2) := hlb.cell 5
      have lb := hlb.lt
      have u0 := H4.out.wb.cell 0; have u1 := H4.out.wb.cell 1
      simp at u0 u1
      have lu := H4.out.wb.lt; have lm := H4.out.mb.blk.lt
      have HRm := Lib.hid (rangeAt_alloc H4.out.mb.range0 (.cells #[.int .i64 v.id.1, .int .i64 v.id.2.1, .int .i64 v.id.2.2.1, .int .i64 v.id.2.2.2] 41))
      clear hlb
      go_wp2_with (refine wpList_load_mid rfl 50 _ rfl bm 0 rfl x.cells _ HRm.out Try.underlying50 rfl (by kernel_rfl) ?_)
      obtain ⟨bf, hbf⟩ : ∃ b, b = w4.heap.size := ⟨_, rfl⟩
      rw [← hbf]
      generalize hw5 : World.alloc w4 _ = w5
      have hf5 : Fresh w4 w5 := by rw [← hw5]; exact (Keep.refl _ w4).alloc _
      have hfb : Blk w5 bf 41 #[.int .i64 v.id.1, .int .i64 v.id.2.1, .int .i64 v.id.2.2.1, .int .i64 v.id.2.2.2] := by rw [← hw5, hbf]; exact Blk.new w4 _ _
      have H5 := Lib.hid (And.intro (H4.out.next hf5) hfb)
      have HBf := Lib.hid (show w.heap.size ≤ bf by rw [hbf]; exact H4.out.fresh.size)
      clear hw5 hf5 hfb hbf l2 l3 l4 l5 lb u0 u1 lu lm HRm H4
      -- rule 4
      have HT := tog_any (H.out.1.fresh H5.out.1.fresh) H.out.2.2.2.2.2.2.2 (by omega) x.d.who v.id x H.out.2.1.ints (fun j => j < B) (H.out.2.1.keep H5.out.1.fresh (fun _ _ => trivial)).ok H.out.2.1.m H.out.2.1.t
      obtain ⟨dT, hdT⟩ : ∃ d, d = togB s x.d.who v.id x.d := ⟨_, rfl⟩
      rw [← hdT] at HT
      simp only [whoA, viewA] at HT
      have HDT := Lib.hid hdT
      have HT2 := Lib.hid HT
      clear HT hdT
      refine Calls.mono HT2.out ?_
      rintro e w6 ⟨rfl, hf6⟩
      have H6 := Lib.hid (And.intro (H5.out.1.next hf6) (H5.out.2.keep hf6 trivial))
      clear hf6 HT2 H5
      cases dT
      · obtain rfl : r = 4 := by rw [HRb.out, if_pos HDT.out.symm]
        go_wp2_with fail
        go_ret
        exact ⟨rfl, StepP.bad H6.out.1.fresh (by decide)⟩
      · have hR4 := HRb.out
        rw [if_neg (by rw [← HDT.out]; decide)] at hR4
        have HRc := Lib.hid hR4
        clear hR4 HRb HDT
        -- rule 5
        have hlb := H.out.2.2.1.blk.keep H6.out.1.fresh trivial
        obtain ⟨bl, hbl⟩ : ∃ d, d = v.blocked := ⟨_, rfl⟩
        have l1 : w6.cell? ⟨b', 1, none⟩ = some (.bool bl) := hbl ▸ hlb.cell 1
        have HBl := Lib.hid hbl
        have lb := hlb.lt
        clear hlb hbl
        cases bl
        · obtain rfl : r = 5 := by rw [HRc.out, if_pos HBl.out.symm]
          go_wp2_with fail
          go_ret
          exact ⟨rfl, StepP.bad H6.out.1.fresh (by decide)⟩
        · have hR5 := HRc.out
          rw [if_neg (by rw [← HBl.out]; decide)] at hR5
          have HRd := Lib.hid hR5
          clear hR5 HRc
          go_wp2_with fail
          clear l1 lb
          -- how many were delivered in the view that it comes from
          have LC := H.out.1.count.lookF (x := (v.id, x.d.who)) H.out.2.2.1.id H.out.2.1.ints.who
          rw [← H.out.2.2.2.2.2.2.1] at LC
          simp only [spotA] at LC
          have LC1 := LC w6.drew H6.out.1.fresh.drew
          have LC2 := fun o => LC ((w6.alloc o).drew) (H6.out.1.fresh.alloc o).drew
          have hG6 := H.out.1.fresh H6.out.1.fresh
          have HK : Hid (∀ w', Fresh w6 w' → (Fresh w6 w' ∧ w'.cell? ⟨F.g, 9, none⟩ = some (.map (some F.c)) ∧ w'.cell? ⟨bf, 0, none⟩ = some (.int .i64 v.id.1) ∧ w'.cell? ⟨bf, 1, none⟩ = some (.int .i64 v.id.2.1) ∧ w'.cell? ⟨bf, 2, none⟩ = some (.int .i64 v.id.2.2.1) ∧ w'.cell? ⟨bf, 3, none⟩ = some (.int .i64 v.id.2.2.2) ∧ w'.cell? ⟨bu, 0, none⟩ = some (.int .i64 x.d.who.1) ∧ w'.cell? ⟨bu, 1, none⟩ = some (.int .i64 x.d.who.2))) := Lib.hid (fun w' hk =>
            ⟨hk, hk.cellAt (hG6.blk.cell 9) trivial, hk.cellAt (H6.out.2.cell 0) trivial, hk.cellAt (H6.out.2.cell 1) trivial, hk.cellAt (H6.out.2.cell 2) trivial, hk.cellAt (H6.out.2.cell 3) trivial, hk.cellAt (H6.out.1.wb.cell 0) trivial, hk.cellAt (H6.out.1.wb.cell 1) trivial⟩)
          clear LC hG6
          go_cut [11] (fun s11 wx => ∃ g11 : Nat, s11 = .pointer (some ⟨g11, 0, none⟩) ∧ Hid (Fresh w6 wx ∧ w6.heap.size ≤ g11 ∧ wx.cell? ⟨g11, 0, none⟩ = some (.int .i64 (dn : Int))))
          case first =>
            go_region_held3 (fun w' => Fresh w6 w' ∧ w'.cell? ⟨F.g, 9, none⟩ = some (.map (some F.c)) ∧ w'.cell? ⟨bf, 0, none⟩ = some (.int .i64 v.id.1) ∧ w'.cell? ⟨bf, 1, none⟩ = some (.int .i64 v.id.2.1) ∧ w'.cell? ⟨bf, 2, none⟩ = some (.int .i64 v.id.2.2.1) ∧ w'.cell? ⟨bf, 3, none⟩ = some (.int .i64 v.id.2.2.2) ∧ w'.cell? ⟨bu, 0, none⟩ = some (.int .i64 x.d.who.1) ∧ w'.cell? ⟨bu, 1, none⟩ = some (.int .i64 x.d.who.2))
              (first | exact HK.out _ ((Keep.refl _ w6).drew) | exact HK.out _ (((Keep.refl _ w6).drew).alloc _) | exact HK.out _ ((((Keep.refl _ w6).drew).alloc _).setCell (fun h => absurd h (Nat.lt_irrefl _)) _)) (fail)
            all_goals go_wp2_with fail
            all_goals go_meet
            all_goals exact ⟨_, rfl, Lib.hid ⟨((Keep.refl _ w6).alloc _).drew, Nat.le_refl _, ((Blk.new w6 3 #[.int .i64 (dn : Int)]).keep ((Keep.refl (fun _ => True) _).drew) trivial).cell 0⟩⟩
          case rest =>
          rename World => w7
          obtain ⟨g11, rfl, HC⟩ := hcut
          have H7 := Lib.hid (And.intro (H6.out.1.next HC.out.1) (And.intro (H6.out.2.keep HC.out.1 trivial) (And.intro HC.out.2.2 (Nat.le_trans H6.out.1.fresh.size HC.out.2.1))))
          clear HC HK LC1 LC2 H6
          -- rule 9
          have e41 : Enters Try.prog 41 := enters_of Try.func41 (by kernel_rfl) rfl
          obtain ⟨Ar, cr, hvr, hrr, -⟩ := own_rd HV.out.1.1
          injection hvr with hv1 hv2 hv3
          subst hv1 hv3
          have HE := every_ent e41 (cap := #[.pointer (some ⟨bf, 0, none⟩), .pointer (some ⟨g11, 0, none⟩)]) (fun e => alikeB v.id dn e.d) _ Ai vs.length ci vs w7 (hrr.keep (H7.out.1.fresh.weaken fun _ _ _ => trivial)) rfl (by omega) (fun W y hy hf => by
            have := alike_any v.id dn bf g11 y W (H7.out.2.1.keep hf trivial) (hf.cellAt H7.out.2.2.1 trivial)
            simpa using this)
          obtain ⟨dA, hdA⟩ : ∃ d, d = vs.all (fun e => alikeB v.id dn e.d) := ⟨_, rfl⟩
          rw [← hdA] at HE
          have HE2 := Lib.hid HE
          have HDA := Lib.hid hdA
          have lf := H7.out.2.1.lt
          have lg := lt_of_cell H7.out.2.2.1
          clear HE hdA e41 hrr hv2
          go_wp2_with fail
          refine Calls.mono HE2.out ?_
          rintro e w8 ⟨rfl, hf8⟩
          have H8 := Lib.hid (And.intro (H7.out.1.next hf8) (And.intro (H7.out.2.1.keep hf8 trivial) (And.intro (hf8.cellAt H7.out.2.2.1 trivial) H7.out.2.2.2)))
          clear hf8 HE2 H7 lf lg
          cases dA
          · obtain rfl : r = 9 := by rw [HRd.out, if_pos HDA.out.symm]
            go_wp2_with fail
            go_ret
            exact ⟨rfl, StepP.bad H8.out.1.fresh (by decide)⟩
          · have hR6 := HRd.out
            rw [if_neg (by rw [← HDA.out]; decide)] at hR6
            have HRe := Lib.hid hR6
            clear hR6 HRd HDA
            -- rule 11
            go_wp2_with fail
            have hlb := H.out.2.2.1.blk.keep H8.out.1.fresh trivial
            have l7 : w8.cell? ⟨b', 7, none⟩ = some (.int .i64 (v.acc : Int)) := hlb.cell 7
            have l9 : w8.cell? ⟨b', 9, none⟩ = some (.int .i64 (v.own : Int)) := hlb.cell 9
            have c13 := H8.out.1.mb.n
            have lb := hlb.lt
            have wsub : IntKind.i64.wrap ((v.acc : Int) - (v.own : Int)) = (v.acc : Int) - (v.own : Int) := by have := hbnd.1; have := hbnd.2.1; rw [IntWalk.i64_in _ (by omega)]
            clear hlb
            by_cases hq : x.d.n = (v.acc : Int) - (v.own : Int)
            rotate_left
            · obtain rfl : r = 11 := by rw [HRe.out, if_pos hq]
              have hb : (x.d.n != (v.acc : Int) - (v.own : Int)) = true := by simpa using hq
              have hb2 : (x.d.n == (v.acc : Int) - (v.own : Int)) = false := by simpa using hq
              clear hq
              go_quiet (fail)
              go_wp2_with fail
              go_ret
              exact ⟨rfl, StepP.bad (H8.out.1.fresh.drewN _) (by decide)⟩
            · obtain rfl : r = 0 := by rw [HRe.out, if_neg (fun h => h hq)]
              have hb : (x.d.n != (v.acc : Int) - (v.own : Int)) = false := by simpa using hq
              have hb2 : (x.d.n == (v.acc : Int) - (v.own : Int)) = true := by simpa using hq
              clear hq
              go_quiet (fail)
              go_wp2_with fail
              generalize hw9 : World.drewN w8 _ = w9
              have H9 : Hid (Box2 w w9 bu bm x ∧ Blk w9 bf 41 #[.int .i64 v.id.1, .int .i64 v.id.2.1, .int .i64 v.id.2.2.1, .int .i64 v.id.2.2.2] ∧ w9.cell? ⟨g11, 0, none⟩ = some (.int .i64 (dn : Int)) ∧ w.heap.size ≤ g11) := Lib.hid (by
                rw [← hw9]
                exact ⟨H8.out.1.next ((Keep.refl _ w8).drewN _), H8.out.2.1.keep ((Keep.refl (fun _ => True) w8).drewN _) trivial, ((Keep.refl (fun _ => True) w8).drewN _).cellAt H8.out.2.2.1 trivial, H8.out.2.2.2⟩)
              clear hw9 l7 l9 c13 lb wsub hb hb2 H8 HRe HBl
              -- the members
              have hG9 := H.out.1.fresh H9.out.1.fresh
              have hx9 := H.out.2.1.keep H9.out.1.fresh (fun _ _ => trivial)
              obtain ⟨Am, cm, hvm, hmnc, hmnil, hrm⟩ := hx9.ok.m
              have lFm : F.m < w.heap.size := (H.out.1.low F.m (by rw [H.out.1.fix.m]; simp)).2
              have HCl := Lib.hid (clone_mem (fun j => j < B) Am x.d.mem.length cm x.d.mem (World.drew w9) ⟨Am, cm, rfl, hmnc, hmnil, hrm.keep ((Keep.refl _ w9).drew)⟩ hx9.m)
              have HK : Hid (∀ w', Keep (fun j => j ≠ F.m) w9 w' → (Keep (fun j => j ≠ F.m) w9 w' ∧ w'.cell? ⟨F.g, 6, none⟩ = some (.map (some F.m)) ∧ w'.cell? ⟨bm, 4, none⟩ = some (.int .i64 x.d.e1) ∧ w'.cell? ⟨bm, 5, none⟩ = some (.int .i64 x.d.e2) ∧ w'.cell? ⟨bm, 6, none⟩ = some (.int .i64 x.d.e3) ∧ w'.cell? ⟨bm, 7, none⟩ = some (.int .i64 x.d.e4) ∧ w'.cell? ⟨bm, 8, none⟩ = some (.slice Am x.d.mem.length cm))) := Lib.hid (fun w' hk => by
                have n1 : F.g ≠ F.m := tag_ne H.out.1.fix.g H.out.1.fix.m (by simp)
                have n2 : bm ≠ F.m := by have := HZ.out.2; omega
                exact ⟨hk, hk.cellAt (hG9.blk.cell 6) n1, hk.cellAt H9.out.1.mb.e1 n2, hk.cellAt H9.out.1.mb.e2 n2, hk.cellAt H9.out.1.mb.e3 n2, hk.cellAt H9.out.1.mb.e4 n2, hk.cellAt (H9.out.1.mb.vm.trans (congrArg some hvm)) n2⟩)
              have HG9 := Lib.hid (And.intro hG9 (And.intro hx9 lFm))
              clear hG9 hx9 hvm hmnc hmnil hrm lFm
              go_cut [8] (fun s8 w11 => s8 = .int .i64 0 ∧ Hid (∃ T1, More T T1 ∧ GM w11 B T1 F (K + 1) { s with mem := upd s.mem x.d.id x.d.mem } ∧ Keep (fun j => j ≠ F.m) w9 w11))
              case first =>
                go_region_held3 (fun w' => Keep (fun j => j ≠ F.m) w9 w' ∧ w'.cell? ⟨F.g, 6, none⟩ = some (.map (some F.m)) ∧ w'.cell? ⟨bm, 4, none⟩ = some (.int .i64 x.d.e1) ∧ w'.cell? ⟨bm, 5, none⟩ = some (.int .i64 x.d.e2) ∧ w'.cell? ⟨bm, 6, none⟩ = some (.int .i64 x.d.e3) ∧ w'.cell? ⟨bm, 7, none⟩ = some (.int .i64 x.d.e4) ∧ w'.cell? ⟨bm, 8, none⟩ = some (.slice Am x.d.mem.length cm))
                  (first | exact HK.out _ ((Keep.refl _ w9).drew) | exact HK.out _ hk5 | exact HK.out _ (hk5.trans hk6))
                  ((go_at_call 43; refine Calls.mono HCl.out ?_; rintro e w5 ⟨⟨vb, rfl, ho⟩, hf5⟩
                    obtain ⟨Ab, cb, rfl, -, -⟩ := own_rd ho
                    have hk5 : Keep (fun j => j ≠ F.m) w9 w5 := ((Keep.refl (fun j => j ≠ F.m) w9).drew).trans (hf5.weaken fun _ _ _ => trivial)
                    have hG5 := Lib.hid ((HG9.out.1.fresh ((Keep.refl _ w9).drew)).imm hf5)
                    obtain ⟨w6, hrun, hS6, hk6⟩ := hG5.out.mem.store (by omega) hG5.out.fix.m HG9.out.2.1.ints.id (immT_sl ho) HG9.out.2.1.m
                    have HS6 := Lib.hid (And.intro hS6 (And.intro hk6 hk5))
                    have HMo := Lib.hid (immT_more (w' := w5) (HG9.out.1.fresh ((Keep.refl _ w9).drew)))
                    simp only [viewA, MarkD.id] at hrun
                    clear hS6 ho hf5))
                go_wp2_with fail
                go_meet
                exact ⟨rfl, Lib.hid ⟨_, HMo.out, hG5.out.with_mem hk6 (fun j hj hp e => by rw [e, (hG5.out.fix.m : _ = _)] at hp; exact hp rfl) (More.refl _) (same_low hG5.out hk6.size) (Nat.le_succ K) HS6.out.1, HS6.out.2.2.trans hk6⟩⟩
              case rest =>
              rename World => w11
              obtain ⟨rfl, HC11⟩ := hcut
              obtain ⟨T1, hT1, hG11, hk11⟩ := HC11.out
              have lFm := HG9.out.2.2
              have nbm : bm ≠ F.m := by have := HZ.out.2; omega
              have nbu : bu ≠ F.m := by have := HZ.out.1; omega
              have nbf : bf ≠ F.m := by have := HBf.out; omega
              have ng : g11 ≠ F.m := by have := H9.out.2.2.2; omega
              have hmb : MkB w11 bm x := ⟨H9.out.1.mb.blk.keep hk11 nbm⟩
              have hwb := H9.out.1.wb.keep hk11 nbu
              have hfb := H9.out.2.1.keep hk11 nbf
              have h11 := hk11.cellAt H9.out.2.2.1 ng
              have hx11 := HG9.out.2.1.keep hk11 (fun j hj e => by have := (HG9.out.1.low F.m (by rw [HG9.out.1.fix.m]; simp)).1; omega)
              obtain ⟨At, ct, hvt, htnc, htnil, hrt⟩ := hx11.ok.t
              have hw11 : Keep (fun j => j ≠ F.m) w w11 := (H9.out.1.fresh.weaken fun _ _ _ => trivial).trans hk11
              have hrow11 : RowM w11 T1 B 100 8 (.insR x.d.id) (.slice Ai vs.length ci) vs.length (rcells EntV.cells vs) := HV.out.1.keep (by simp) hw11 (fun j hj => tag_ne hj H.out.1.fix.m (by simp)) hT1
              have hown11 := hrow11.1
              have hroww : ∀ j, (Value.slice Ai vs.length ci).ownBlock = some j → j < w.heap.size := fun j hj => (own_lt HV.out.1.1 hj).2
              have hsl11 : ∀ v ∈ vs, SlI w11 T1 1 v.d.tr.length v.A v.c (ics v.d.tr) ∧ v.d.tr.length ≤ 1048576 := fun v hv => ⟨(HV.out.2.1 v hv).1.keep hw11 (fun j hj => tag_ne hj H.out.1.fix.m (by simp)) hT1, (HV.out.2.1 v hv).2⟩
              have lFi : F.i < w.heap.size := (H.out.1.low F.i (by rw [H.out.1.fix.i]; simp)).2
              have HCl2 := Lib.hid (clone_int (fun j => j < B) At x.d.tr.length ct x.d.tr (World.drew w11) ⟨At, ct, rfl, htnc, htnil, hrt.keep ((Keep.refl _ w11).drew)⟩ hx11.t)
              have HK2 : Hid (∀ w', Keep (fun j => (Value.slice Ai vs.length ci).ownBlock ≠ some j ∧ j ≠ F.i) w11 w' → (Keep (fun j => (Value.slice Ai vs.length ci).ownBlock ≠ some j ∧ j ≠ F.i) w11 w' ∧ w'.cell? ⟨F.g, 5, none⟩ = some (.map (some F.i)) ∧ w'.cell? ⟨bm, 4, none⟩ = some (.int .i64 x.d.e1) ∧ w'.cell? ⟨bm, 5, none⟩ = some (.int .i64 x.d.e2) ∧ w'.cell? ⟨bm, 6, none⟩ = some (.int .i64 x.d.e3) ∧ w'.cell? ⟨bm, 7, none⟩ = some (.int .i64 x.d.e4) ∧ w'.cell? ⟨bu, 0, none⟩ = some (.int .i64 x.d.who.1) ∧ w'.cell? ⟨bu, 1, none⟩ = some (.int .i64 x.d.who.2) ∧ w'.cell? ⟨bf, 0, none⟩ = some (.int .i64 v.id.1) ∧ w'.cell? ⟨bf, 1, none⟩ = some (.int .i64 v.id.2.1) ∧ w'.cell? ⟨bf, 2, none⟩ = some (.int .i64 v.id.2.2.1) ∧ w'.cell? ⟨bf, 3, none⟩ = some (.int .i64 v.id.2.2.2) ∧ w'.cell? ⟨bm, 9, none⟩ = some (.slice At x.d.tr.length ct) ∧ w'.cell? ⟨g11, 0, none⟩ = some (.int .i64 (dn : Int)))) := Lib.hid (fun w' hk => by
                have z1 : (Value.slice Ai vs.length ci).ownBlock ≠ some F.g ∧ F.g ≠ F.i := ⟨(fun e => by have := hrow11.2 _ e; rw [hG11.fix.g] at this; cases this), tag_ne H.out.1.fix.g H.out.1.fix.i (by simp)⟩
                have z2 : (Value.slice Ai vs.length ci).ownBlock ≠ some bm ∧ bm ≠ F.i := ⟨(fun e => by have := hroww _ e; have := HZ.out.2; omega), by have := HZ.out.2; omega⟩
                have z3 : (Value.slice Ai vs.length ci).ownBlock ≠ some bu ∧ bu ≠ F.i := ⟨(fun e => by have := hroww _ e; have := HZ.out.1; omega), by have := HZ.out.1; omega⟩
                have z4 : (Value.slice Ai vs.length ci).ownBlock ≠ some bf ∧ bf ≠ F.i := ⟨(fun e => by have := hroww _ e; have := HBf.out; omega), by have := HBf.out; omega⟩
                have z5 : (Value.slice Ai vs.length ci).ownBlock ≠ some g11 ∧ g11 ≠ F.i := ⟨(fun e => by have := hroww _ e; have := H9.out.2.2.2; omega), by have := H9.out.2.2.2; omega⟩
                exact ⟨hk, hk.cellAt (hG11.blk.cell 5) z1, hk.cellAt hmb.e1 z2, hk.cellAt hmb.e2 z2, hk.cellAt hmb.e3 z2, hk.cellAt hmb.e4 z2, hk.cellAt (hwb.cell 0) z3, hk.cellAt (hwb.cell 1) z3, hk.cellAt (hfb.cell 0) z4, hk.cellAt (hfb.cell 1) z4, hk.cellAt (hfb.cell 2) z4, hk.cellAt (hfb.cell 3) z4, hk.cellAt (hmb.vt.trans (congrArg some hvt)) z2, hk.cellAt h11 z5⟩)
              have HG11 := Lib.hid (And.intro hG11 (And.intro hx11 (And.intro hrow11 (And.intro hsl11 (And.intro hT1 (And.intro hw11 (And.intro hmb hvt)))))))
              have hbytes : (vs.length + 1) * 80 ≤ 140737488355328 := by omega
              clear HC11 hG11 hk11 lFm nbm nbu nbf ng hmb hwb hfb h11 hx11 hvt htnc htnil hrt hw11 hrow11 hown11 hroww hsl11 lFi hT1 HK HCl
              obtain ⟨nv, hnv⟩ : ∃ y : EntD, y = ⟨x.d.who, v.id, x.d.tr, dn⟩ := ⟨_, rfl⟩
              have HNv := Lib.hid hnv
              clear hnv
              go_wp2_with fail
              go_cut [8] (fun s8 w14 => s8 = .int .i64 0 ∧ Hid (∃ T2, More T T2 ∧ GM w14 B T2 F (K + 2) { s with mem := upd s.mem x.d.id x.d.mem, inst := upd s.inst x.d.id (vs.map EntV.d ++ [nv]) } ∧ Keep (fun j => j ≠ F.m ∧ (Value.slice Ai vs.length ci).ownBlock ≠ some j ∧ j ≠ F.i) w w14 ∧ MkB w14 bm x))
              case first =>
                go_region_held3 (fun w' => Keep (fun j => (Value.slice Ai vs.length ci).ownBlock ≠ some j ∧ j ≠ F.i) w11 w' ∧ w'.cell? ⟨F.g, 5, none⟩ = some (.map (some F.i)) ∧ w'.cell? ⟨bm, 4, none⟩ = some (.int .i64 x.d.e1) ∧ w'.cell? ⟨bm, 5, none⟩ = some (.int .i64 x.d.e2) ∧ w'.cell? ⟨bm, 6, none⟩ = some (.int .i64 x.d.e3) ∧ w'.cell? ⟨bm, 7, none⟩ = some (.int .i64 x.d.e4) ∧ w'.cell? ⟨bu, 0, none⟩ = some (.int .i64 x.d.who.1) ∧ w'.cell? ⟨bu, 1, none⟩ = some (.int .i64 x.d.who.2) ∧ w'.cell? ⟨bf, 0, none⟩ = some (.int .i64 v.id.1) ∧ w'.cell? ⟨bf, 1, none⟩ = some (.int .i64 v.id.2.1) ∧ w'.cell? ⟨bf, 2, none⟩ = some (.int .i64 v.id.2.2.1) ∧ w'.cell? ⟨bf, 3, none⟩ = some (.int .i64 v.id.2.2.2) ∧ w'.cell? ⟨bm, 9, none⟩ = some (.slice At x.d.tr.length ct) ∧ w'.cell? ⟨g11, 0, none⟩ = some (.int .i64 (dn : Int)))
                  (first | exact HK2.out _ ((Keep.refl _ w11).drew) | exact HK2.out _ hk5 | exact HK2.out _ (hk5.alloc _) | exact HK2.out _ hk13 | exact HK2.out _ hk14)
                  (first
                    | (go_at_call 44; refine Calls.mono HCl2.out ?_; rintro e w5 ⟨⟨vb, rfl, ho⟩, hf5⟩
                       obtain ⟨Ab, cb, rfl, -, -⟩ := own_rd ho
                       have hk5 : Keep (fun j => (Value.slice Ai vs.length ci).ownBlock ≠ some j ∧ j ≠ F.i) w11 w5 := ((Keep.refl (fun j => (Value.slice Ai vs.length ci).ownBlock ≠ some j ∧ j ≠ F.i) w11).drew).trans (hf5.weaken fun _ _ _ => trivial)
                       have HO := Lib.hid (And.intro ho hf5)
                       have HOw := Lib.hid (fun o => own_keep HG11.out.2.2.1.1 ((((Keep.refl (fun _ => True) w11).drew).trans hf5).alloc o) (fun _ _ => trivial))
                       have HBa := Lib.hid (Nat.le_trans (HG11.out.1.base) ((((Keep.refl (fun _ => True) w11).drew).trans hf5).alloc (.cells #[.int .i64 x.d.who.1, .int .i64 x.d.who.2, .int .i64 v.id.1, .int .i64 v.id.2.1, .int .i64 v.id.2.2.1, .int .i64 v.id.2.2.2, .slice Ab x.d.tr.length cb, .int .i64 (dn : Int)] 100)).size)
                       clear ho hf5)
                    | (refine step_app etEnt rfl (.tmp 107) (.tmp 115) rfl B (.slice Ai vs.length ci) vs.length (rcells EntV.cells vs) rfl (HOw.out _) (fun _ => True) (some ⟨w5.heap.size, 0, none⟩) 1 1 (EntV.cells ⟨⟨x.d.who, v.id, x.d.tr, dn⟩, Ab, cb⟩) rfl ((Rd.one_of (Blk.new w5 100 #[.int .i64 x.d.who.1, .int .i64 x.d.who.2, .int .i64 v.id.1, .int .i64 v.id.2.1, .int .i64 v.id.2.2.1, .int .i64 v.id.2.2.2, .slice Ab x.d.tr.length cb, .int .i64 (dn : Int)]) rfl).weaken fun _ _ => trivial) (fun h => Nat.noConfusion h) (ent_one _) hbytes HBa.out ?_
                       intro v13 w13 ho13 hkb hn13
                       obtain ⟨hk13, w14, hrun, hk14, hfin⟩ := inst_grown HG11.out.1 (by omega) HG11.out.2.1.ints.id HG11.out.2.2.1 HG11.out.2.2.2.1 (y := ⟨⟨x.d.who, v.id, x.d.tr, dn⟩, Ab, cb⟩) HO.out.2 HO.out.1 HG11.out.2.1.t ho13 hkb hn13
                       have HF := Lib.hid hfin
                       simp only [viewA, MarkD.id] at hrun
                       obtain ⟨A13, c13, rfl, -, -⟩ := own_rd ho13
                       clear ho13 hkb hn13 hfin))
                go_wp2_with fail
                go_meet
                obtain ⟨T2, hT2, hG14⟩ := HF.out
                refine ⟨rfl, Lib.hid ⟨T2, HG11.out.2.2.2.2.1.trans hT2, ?_, ?_, ?_⟩⟩
                · rw [HNv.out]
                  exact hG14
                · exact (HG11.out.2.2.2.2.2.1.weaken fun _ _ h => h.1).trans (hk14.weaken fun _ _ h => h.2)
                · exact ⟨HG11.out.2.2.2.2.2.2.1.blk.keep hk14 ⟨fun e => by have := (own_lt HV.out.1.1 e).2; have := HZ.out.2; omega, by have := (H.out.1.low F.i (by rw [H.out.1.fix.i]; simp)).2; have := HZ.out.2; omega⟩⟩
              case rest =>
              rename World => w14
              obtain ⟨rfl, HC14⟩ := hcut
              obtain ⟨T2, hT2, hG14, hkw, hmb⟩ := HC14.out
              have hlm := H.out.2.2.1
              have nb : b' ≠ F.m ∧ (Value.slice Ai vs.length ci).ownBlock ≠ some b' ∧ b' ≠ F.i := ⟨tag_ne hlm.tb H.out.1.fix.m (by simp), (fun e => by have := HV.out.1.2 _ e; rw [hlm.tb] at this; cases this), tag_ne hlm.tb H.out.1.fix.i (by simp)⟩
              have hlb14 := hlm.blk.keep hkw nb
              obtain ⟨Az, cz, hsz, hlz, LZ⟩ := hG14.mem.lookF H.out.2.1.ints.id
              simp only [upd_self] at hsz hlz LZ
              have LZ1 : (Instr.lookup 70 (.map (some F.m)) (.agg #[.int .i64 x.d.e1, .int .i64 x.d.e2, .int .i64 x.d.e3, .int .i64 x.d.e4]) false).run Try.prog w14.drew = .ok (.slice Az x.d.mem.length cz) w14.drew := LZ _ (Keep.refl _ w14).drew
              have LZ2 : (Instr.lookup 70 (.map (some F.m)) (.agg #[.int .i64 x.d.e1, .int .i64 x.d.e2, .int .i64 x.d.e3, .int .i64 x.d.e4]) false).run Try.prog ((w14.alloc (.map #[] 0)).drew) = .ok (.slice Az x.d.mem.length cz) ((w14.alloc (.map #[] 0)).drew) := LZ _ ((Keep.refl _ w14).alloc _).drew
              have nbm : bm ≠ b' := by have := HZ.out.2; have := H.out.2.2.1.blk.lt; omega
              have ngb : F.g ≠ b' := tag_ne H.out.1.fix.g hlm.tb (by simp)
              have HK3 : Hid (∀ w', Keep (fun j => j ≠ b') w14 w' → (Keep (fun j => j ≠ b') w14 w' ∧ w'.cell? ⟨bm, 4, none⟩ = some (.int .i64 x.d.e1) ∧ w'.cell? ⟨bm, 5, none⟩ = some (.int .i64 x.d.e2) ∧ w'.cell? ⟨bm, 6, none⟩ = some (.int .i64 x.d.e3) ∧ w'.cell? ⟨bm, 7, none⟩ = some (.int .i64 x.d.e4) ∧ w'.cell? ⟨F.g, 6, none⟩ = some (.map (some F.m)))) := Lib.hid (fun w' hk =>
                ⟨hk, hk.cellAt hmb.e1 nbm, hk.cellAt hmb.e2 nbm, hk.cellAt hmb.e3 nbm, hk.cellAt hmb.e4 nbm, hk.cellAt (hG14.blk.cell 6) ngb⟩)
              have hZo : ∀ j, (∃ y, y ≠ x.d.who ∧ (T j = .life y ∨ T j = .frm y)) ∨ T j = .imm → (j ≠ F.m ∧ (Value.slice Ai vs.length ci).ownBlock ≠ some j ∧ j ≠ F.i) := fun j hj => by
                have key : ∀ t : Tag, T j = t → t.part ≠ .mms → t.part ≠ .ins → (j ≠ F.m ∧ (Value.slice Ai vs.length ci).ownBlock ≠ some j ∧ j ≠ F.i) := fun t ht h1 h2 =>
                  ⟨fun e => by subst e; rw [H.out.1.fix.m] at ht; subst ht; exact h1 rfl, fun e => by have := HV.out.1.2 _ e; rw [ht] at this; subst this; exact h2 rfl, fun e => by subst e; rw [H.out.1.fix.i] at ht; subst ht; exact h2 rfl⟩
                rcases hj with ⟨y, -, hj | hj⟩ | hj
                · exact key _ hj (by simp [Tag.part]) (by simp [Tag.part])
                · exact key _ hj (by simp [Tag.part]) (by simp [Tag.part])
                · exact key _ hj (by simp [Tag.part]) (by simp [Tag.part])
              have hZv : F.v ≠ F.m ∧ (Value.slice Ai vs.length ci).ownBlock ≠ some F.v ∧ F.v ≠ F.i := ⟨tag_ne H.out.1.fix.v H.out.1.fix.m (by simp), (fun e => by have := HV.out.1.2 _ e; rw [H.out.1.fix.v] at this; cases this), tag_ne H.out.1.fix.v H.out.1.fix.i (by simp)⟩
              have hZB : ∀ j, KB B T j → (j ≠ F.m ∧ (Value.slice Ai vs.length ci).ownBlock ≠ some j ∧ j ≠ F.i) := fun j hj =>
                ⟨hj.ne H.out.1 H.out.1.fix.m (by simp) (by simp), hj.row H.out.1 HV.out.1.2 (by simp) (by simp), hj.ne H.out.1 H.out.1.fix.i (by simp) (by simp)⟩
              have HEnd : Hid (∀ w15, w15 = ((w14.alloc (.map #[] 0)).drew).setCells b' 0 (lifeV ⟨false, false, x.d.id, x.d.mem, 0, 0, 0, 0, fun _ => 0⟩ Az cz w14.heap.size).toList → StepP T w w15 B F K 0 (instN s x.d)) := Lib.hid (fun w15 h15 =>
                inst_end x H.out.2.1.ints H.out.2.1.m H.out.2.2.1 H.out.1 hG14 hT2 hkw nb hZv hZo hZB rfl H.out.2.2.2.1 hsz (by rw [H.out.2.2.2.2.2.1, HNv.out]) h15)
              have hth : ∀ o, (w14.alloc o).drew.there b' 0 12 := fun o => (hlb14.keep (((Keep.refl (fun _ => True) w14).alloc o).drew) trivial).there
              have hmm := @run_makeMap Try.prog
              have HThere := Lib.hid hth
              clear HC14 hT2 hG14 hkw hmb hlm hlb14 hsz hlz LZ nb HK2 HG11 HCl2 HNv hZo hZv hZB hth nbm ngb
              go_wp2_with fail
              refine wp_region_held_drew (S := fun w' => Keep (fun j => j ≠ b') w14 w' ∧ w'.cell? ⟨bm, 4, none⟩ = some (.int .i64 x.d.e1) ∧ w'.cell? ⟨bm, 5, none⟩ = some (.int .i64 x.d.e2) ∧ w'.cell? ⟨bm, 6, none⟩ = some (.int .i64 x.d.e3) ∧ w'.cell? ⟨bm, 7, none⟩ = some (.int .i64 x.d.e4) ∧ w'.cell? ⟨F.g, 6, none⟩ = some (.map (some F.m))) (by kernel_rfl) (HK3.out _ ((Keep.refl _ w14).drew)) (fun hHeld => ?_)
              refine wpAnyH_take (i := 0) (v := .pointer (some ⟨b', 0, none⟩)) rfl (by kernel_rfl) (by kernel_rfl) (by kernel_rfl) (fun _ _ _ h => h) (Or.inl ⟨by rfl, by intro w hSw; go_simp⟩) hHeld ?_
              simp only [Act.put, List.setIfInBounds_toArray, List.set_cons_zero, List.set_cons_succ]
              refine wpAnyH_take (i := 1) (v := .pointer (some ⟨bm, 4, none⟩)) rfl (by kernel_rfl) (by kernel_rfl) (by kernel_rfl) (fun _ _ _ h => h) (Or.inl ⟨by rfl, by intro w hSw; go_simp⟩) hHeld ?_
              simp only [Act.put, List.setIfInBounds_toArray, List.set_cons_zero, List.set_cons_succ]
              refine wpAnyH_take (i := 2) (v := (.agg #[.int .i64 x.d.e1, .int .i64 x.d.e2, .int .i64 x.d.e3, .int .i64 x.d.e4])) rfl (by kernel_rfl) (by kernel_rfl) (by kernel_rfl) (fun _ _ _ h => h) (Or.inl ⟨by rfl, by intro w hSw; go_simp⟩) hHeld ?_
              simp only [Act.put, List.setIfInBounds_toArray, List.set_cons_zero, List.set_cons_succ]
              refine wpAnyH_take (i := 3) (v := .pointer (some ⟨F.g, 0, none⟩)) rfl (by kernel_rfl) (by kernel_rfl) (by kernel_rfl) (fun _ _ _ h => h) (Or.inl ⟨by rfl, by intro w hSw; go_simp⟩) hHeld ?_
              simp only [Act.put, List.setIfInBounds_toArray, List.set_cons_zero, List.set_cons_succ]
              refine wpAnyH_take (i := 4) (v := .pointer (some ⟨F.g, 0, none⟩)) rfl (by kernel_rfl) (by kernel_rfl) (by kernel_rfl) (fun _ _ _ h => h) (Or.inl ⟨by rfl, by intro w hSw; go_simp⟩) hHeld ?_
              simp only [Act.put, List.setIfInBounds_toArray, List.set_cons_zero, List.set_cons_succ]
              refine wpAnyH_take (i := 5) (v := .pointer (some ⟨F.g, 6, none⟩)) rfl (by kernel_rfl) (by kernel_rfl) (by kernel_rfl) (fun _ _ _ h => h) (Or.inl ⟨by rfl, by intro w hSw; go_simp⟩) hHeld ?_
              simp only [Act.put, List.setIfInBounds_toArray, List.set_cons_zero, List.set_cons_succ]
              refine wpAnyH_take (i := 6) (v := .map (some F.m)) rfl (by kernel_rfl) (by kernel_rfl) (by kernel_rfl) (fun _ _ _ h => h) (Or.inl ⟨by rfl, by intro w hSw; go_simp⟩) hHeld ?_
              simp only [Act.put, List.setIfInBounds_toArray, List.set_cons_zero, List.set_cons_succ]
              refine wpAnyH_take (i := 7) (v := .pointer (some ⟨bm, 4, none⟩)) rfl (by kernel_rfl) (by kernel_rfl) (by kernel_rfl) (fun _ _ _ h => h) (Or.inl ⟨by rfl, by intro w hSw; go_simp⟩) hHeld ?_
              simp only [Act.put, List.setIfInBounds_toArray, List.set_cons_zero, List.set_cons_succ]
              refine wpAnyH_take (i := 8) (v := (.agg #[.int .i64 x.d.e1, .int .i64 x.d.e2, .int .i64 x.d.e3, .int .i64 x.d.e4])) rfl (by kernel_rfl) (by kernel_rfl) (by kernel_rfl) (fun _ _ _ h => h) (Or.inl ⟨by rfl, by intro w hSw; go_simp⟩) hHeld ?_
              simp only [Act.put, List.setIfInBounds_toArray, List.set_cons_zero, List.set_cons_succ]
              refine wpAnyH_ready (rs := [9, 11]) (by kernel_rfl) (by simp) ?_
              refine AllReadyH.cons rfl (fun K hK => ?_) (AllReadyH.cons rfl (fun K hK => ?_) AllReadyH.nil)
              · go_simp
                refine hK.out _ _ (HK3.out _ ((Keep.refl _ w14).drew)) (fun hHeld => ?_)
                clear hK K
                try simp only [Act.put, List.setIfInBounds_toArray, List.set_cons_zero, List.set_cons_succ]
                refine wpAnyH_take (i := 10) (v := (.agg #[.int .i64 x.d.e1, .int .i64 x.d.e2, .int .i64 x.d.e3, .int .i64 x.d.e4, .slice Az x.d.mem.length cz])) rfl (by kernel_rfl) (by kernel_rfl) (by kernel_rfl) (fun _ _ _ h => h) (Or.inl ⟨by rfl, by intro w hSw; go_simp⟩) hHeld ?_
                simp only [Act.put, List.setIfInBounds_toArray, List.set_cons_zero, List.set_cons_succ]
                refine wpAnyH_ready (rs := [11]) (by kernel_rfl) (by simp) ?_
                refine AllReadyH.cons rfl (fun K hK => ?_) AllReadyH.nil
                go_simp
                refine hK.out _ _ (HK3.out _ (((Keep.refl _ w14).alloc _).drew)) (fun hHeld => ?_)
                clear hK K
                try simp only [Act.put, List.setIfInBounds_toArray, List.set_cons_zero, List.set_cons_succ]
                refine wpAnyH_take (i := 12) (v := (.agg #[.bool false, .bool false, .int .i64 x.d.e1, .int .i64 x.d.e2, .int .i64 x.d.e3, .int .i64 x.d.e4, .slice Az x.d.mem.length cz, .int .i64 0, .int .i64 0, .int .i64 0, .int .i64 0, .map (some w14.heap.size)])) rfl (by kernel_rfl) (by kernel_rfl) (by kernel_rfl) (fun _ _ _ h => h) (Or.inl ⟨by rfl, by intro w hSw; go_simp⟩) hHeld ?_
                simp only [Act.put, List.setIfInBounds_toArray, List.set_cons_zero, List.set_cons_succ]
                refine wpAnyH_take (i := 13) (v := .pointer (some ⟨b', 0, none⟩)) rfl (by kernel_rfl) (by kernel_rfl) (by kernel_rfl) (fun _ _ _ h => h) (Or.inl ⟨by rfl, by intro w hSw; go_simp⟩) hHeld ?_
                simp only [Act.put, List.setIfInBounds_toArray, List.set_cons_zero, List.set_cons_succ]
                refine wpAnyH_ready (rs := [14]) (by kernel_rfl) (by simp) ?_
                refine AllReadyH.cons rfl (fun K hK => ?_) AllReadyH.nil
                rw [if_pos (by rfl)]
                refine wp_store_mid _ _ _ rfl b' 0 (lifeV ⟨false, false, x.d.id, x.d.mem, 0, 0, 0, 0, fun _ => 0⟩ Az cz w14.heap.size) rfl rfl (HThere.out _) (by kernel_rfl) (life_one _ _ _ _) ?_
                refine hK.out _ _ (HK3.out _ (Keep.setCells _ _ _ (((Keep.refl _ w14).alloc _).drew) (fun _ e => e rfl))) (fun hHeld => ?_)
                clear hK K
                try simp only [Act.put, List.setIfInBounds_toArray, List.set_cons_zero, List.set_cons_succ]
                refine wpAnyH_done (by kernel_rfl) ?_ _
                go_wp2_with fail
                go_ret
                exact ⟨rfl, HEnd.out _ rfl⟩
              · go_simp
                refine hK.out _ _ (HK3.out _ (((Keep.refl _ w14).alloc _).drew)) (fun hHeld => ?_)
                clear hK K
                try simp only [Act.put, List.setIfInBounds_toArray, List.set_cons_zero, List.set_cons_succ]
                refine wpAnyH_ready (rs := [9]) (by kernel_rfl) (by simp) ?_
                refine AllReadyH.cons rfl (fun K hK => ?_) AllReadyH.nil
                go_simp
                refine hK.out _ _ (HK3.out _ (((Keep.refl _ w14).alloc _).drew)) (fun hHeld => ?_)
                clear hK K
                try simp only [Act.put, List.setIfInBounds_toArray, List.set_cons_zero, List.set_cons_succ]
                refine wpAnyH_take (i := 10) (v := (.agg #[.int .i64 x.d.e1, .int .i64 x.d.e2, .int .i64 x.d.e3, .int .i64 x.d.e4, .slice Az x.d.mem.length cz])) rfl (by kernel_rfl) (by kernel_rfl) (by kernel_rfl) (fun _ _ _ h => h) (Or.inl ⟨by rfl, by intro w hSw; go_simp⟩) hHeld ?_
                simp only [Act.put, List.setIfInBounds_toArray, List.set_cons_zero, List.set_cons_succ]
                refine wpAnyH_take (i := 12) (v := (.agg #[.bool false, .bool false, .int .i64 x.d.e1, .int .i64 x.d.e2, .int .i64 x.d.e3, .int .i64 x.d.e4, .slice Az x.d.mem.length cz, .int .i64 0, .int .i64 0, .int .i64 0, .int .i64 0, .map (some w14.heap.size)])) rfl (by kernel_rfl) (by kernel_rfl) (by kernel_rfl) (fun _ _ _ h => h) (Or.inl ⟨by rfl, by intro w hSw; go_simp⟩) hHeld ?_
                simp only [Act.put, List.setIfInBounds_toArray, List.set_cons_zero, List.set_cons_succ]
                refine wpAnyH_take (i := 13) (v := .pointer (some ⟨b', 0, none⟩)) rfl (by kernel_rfl) (by kernel_rfl) (by kernel_rfl) (fun _ _ _ h => h) (Or.inl ⟨by rfl, by intro w hSw; go_simp⟩) hHeld ?_
                simp only [Act.put, List.setIfInBounds_toArray, List.set_cons_zero, List.set_cons_succ]
                refine wpAnyH_ready (rs := [14]) (by kernel_rfl) (by simp) ?_
                refine AllReadyH.cons rfl (fun K hK => ?_) AllReadyH.nil
                rw [if_pos (by rfl)]
                refine wp_store_mid _ _ _ rfl b' 0 (lifeV ⟨false, false, x.d.id, x.d.mem, 0, 0, 0, 0, fun _ => 0⟩ Az cz w14.heap.size) rfl rfl (HThere.out _) (by kernel_rfl) (life_one _ _ _ _) ?_
                refine hK.out _ _ (HK3.out _ (Keep.setCells _ _ _ (((Keep.refl _ w14).alloc _).drew) (fun _ e => e rfl))) (fun hHeld => ?_)
                clear hK K
                try simp only [Act.put, List.setIfInBounds_toArray, List.set_cons_zero, List.set_cons_succ]
                refine wpAnyH_done (by kernel_rfl) ?_ _
                go_wp2_with fail
                go_ret
                exact ⟨rfl, HEnd.out _ rfl⟩
end Go.Proofs.Ytfpcmleeehciaaa
