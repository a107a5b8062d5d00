/-
  MERGED: DLets DOps DOnKey
-/
import Derived.Test.YtohnmaindbgngaaGreatDoorD2
import Derived.Test.YtohnmaindbgngaaGreatDoorD3
import Derived.Test.YtohnmaindbgngaaGreatDoorD1
import Derived.Deep.RegionHeld3
import Derived.Deep.DeepCutAuto
import Derived.Deep.CutBlock
namespace Go.Proofs.YtohnmaindbgngaaGreatDoor
set_option linter.unusedVariables false
set_option linter.unusedSimpArgs false
open Go.RowKit

/-! ### plain -/
theorem heldBy_snoc (c : Int) (l : List LockD) (x : LockD) : heldBy c (l ++ [x]) = heldBy c l ++ (if x.holder = c then [x.name] else []) := by
  unfold heldBy
  rw [List.filter_append, List.map_append]
  by_cases h : x.holder = c
  · simp [h]
  · have h2 : (x.holder == c) = false := by simpa using h
    simp [h, h2]
theorem heldBy_le (c : Int) (l : List LockD) : (heldBy c l).length ≤ l.length := by
  unfold heldBy
  rw [List.length_map]
  exact List.length_filter_le _ _
/-- Behind j of the locks. -/
def midL (c : Int) (ls : List LockD) (j : Nat) : List LockD := (ls.take j).map (leaveL c) ++ ls.drop j
theorem midL_zero (c : Int) (ls : List LockD) : midL c ls 0 = ls := by simp [midL]
theorem midL_all (c : Int) (ls : List LockD) : midL c ls ls.length = ls.map (leaveL c) := by simp [midL]
theorem midL_len (c : Int) (ls : List LockD) {j : Nat} (hj : j ≤ ls.length) : (midL c ls j).length = ls.length := by
  simp [midL]
  omega
theorem midL_at (c : Int) (ls : List LockD) {j : Nat} (hj : j < ls.length) (h : j < (midL c ls j).length) : (midL c ls j)[j] = ls[j] := by
  have e : ((ls.take j).map (leaveL c)).length = j := by simp; omega
  have h1 : (midL c ls j)[j]? = some ls[j] := by
    unfold midL
    rw [List.getElem?_append_right (by rw [e]; exact Nat.le_refl _), e, Nat.sub_self, List.getElem?_drop, Nat.add_zero]
    exact List.getElem?_eq_getElem hj
  rw [List.getElem?_eq_getElem h] at h1
  injection h1
theorem midL_step (c : Int) (ls : List LockD) {j : Nat} (hj : j < ls.length) : (midL c ls j).set j (leaveL c ls[j]) = midL c ls (j + 1) := by
  have e : ((ls.take j).map (leaveL c)).length = j := by simp; omega
  unfold midL
  rw [List.set_append, if_neg (by rw [e]; exact Nat.lt_irrefl _), e, Nat.sub_self, List.drop_eq_getElem_cons hj, List.set_cons_zero, List.take_succ_eq_append_getElem hj, List.map_append]
  simp
/-- What stands within the first loop: j queues are left, i names are told. -/
structure LetsD (B : Nat) (F : Nat → Prop) (w wr : World) (d : Nat) (pv hv : Value) (s : StD) (c : Int) (j i : Nat) (nv : Value) (hs : List DLk) (F' : Nat → Prop) : Prop where
  ok : DAt B F' wr d pv hv hs { s with locks := midL c s.locks j }
  fF : ∀ k, F' k → F k ∨ w.heap.size ≤ k
  fl : ∀ k, F' k → k < wr.heap.size
  nm : wr.ownsRow w.heap.size 9 1 nv (heldBy c (s.locks.take i)).length ((heldBy c (s.locks.take i)).map str)
  nF : ∀ k, nv.ownBlock = some k → ¬ F' k
  kp : Keep (fun k => ¬ F k) w wr
section
variable {B : Nat} {F F' : Nat → Prop} {w wr w2 : World} {d : Nat} {pv hv : Value} {hs : List DLk} {s : StD} {c : Int} {j i : Nat} {nv : Value}
theorem LetsD.dat (h : LetsD B F w wr d pv hv s c j i nv hs F') (hj : j < s.locks.length) : ∃ hl : j < hs.length, hs[j].d = s.locks[j] := by
  have hm := midL_len c s.locks (Nat.le_of_lt hj)
  have h1 : hs.length = s.locks.length := by rw [h.ok.hlen, ← hm]
  refine ⟨by omega, ?_⟩
  have h2 : hs.map DLk.d = midL c s.locks j := h.ok.ds
  have h3 : (hs.map DLk.d)[j]'(by simp; omega) = hs[j].d := by simp
  rw [← h3]
  exact (List.getElem_of_eq h2 _).trans (midL_at c s.locks hj (by omega))
theorem LetsD.drew (h : LetsD B F w wr d pv hv s c j i nv hs F') (hf : Fresh wr w2) : LetsD B F w w2 d pv hv s c j i nv hs F' :=
  ⟨h.ok.fresh hf, h.fF, fun k hk => Nat.lt_of_lt_of_le (h.fl k hk) hf.size, own_keep h.nm hf fun _ _ => trivial, h.nF, h.kp.comp hf (fun _ _ h => h) fun _ _ _ => trivial⟩
/-- A queue is left. -/
theorem LetsD.stepQ {g n cc : Nat} (h : LetsD B F w wr d pv (.slice (some ⟨g, 0, none⟩) n cc) s c j i nv hs F') (hj : j < s.locks.length) (hf : Fresh wr w2) {v : Value} (ho : w2.ownsRow wr.heap.size 3 1 v (lessD s.locks[j].queue c).length (ics (lessD s.locks[j].queue c))) (hB : B ≤ w.heap.size) :
    LetsD B F w (w2.setCell ⟨g, j * 4 + 3, none⟩ v) d pv (.slice (some ⟨g, 0, none⟩) n cc) s c (j + 1) i nv (hs.set j ⟨leaveL c s.locks[j], v⟩) (fun k => F' k ∨ v.ownBlock = some k) := by
  obtain ⟨hl, hd⟩ := h.dat hj
  have hw := h.kp.size
  have h1 := h.ok.setQ hl (g := g) (by simp [Value.ownBlock]) (w2 := w2) (hf.weaken fun _ _ _ => trivial) (q := lessD s.locks[j].queue c) (own_base ho (by omega)) (fun k hk => .inr (own_lt ho hk).1)
  have e : ({ hs[j].d with queue := lessD s.locks[j].queue c } : LockD) = leaveL c s.locks[j] := by rw [hd]; rfl
  rw [e] at h1
  simp only [midL_step c s.locks hj] at h1
  have hgF : F' g := h.ok.fh g (by simp [Value.ownBlock])
  refine ⟨h1, fun k hk => hk.elim (h.fF k) fun e => .inr (by have := (own_lt ho e).1; omega), fun k hk => ?_, ?_, fun k hk hk2 => ?_, ?_⟩
  · have hs2 : (w2.setCell ⟨g, j * 4 + 3, none⟩ v).heap.size = w2.heap.size := by simp [World.setCell]
    rw [hs2]
    exact hk.elim (fun e => Nat.lt_of_lt_of_le (h.fl k e) hf.size) fun e => (own_lt ho e).2
  · exact own_far (own_keep h.nm hf fun _ _ => trivial) (p := ⟨g, j * 4 + 3, none⟩) (fun e => h.nF _ e hgF) _
  · rcases hk2 with hk2 | hk2
    · exact h.nF k hk hk2
    · have := (own_lt ho hk2).1
      have := (own_lt h.nm hk).2
      omega
  · exact (h.kp.comp hf (fun _ _ h => h) fun _ _ _ => trivial).setCell (fun hg hn => (h.fF g hgF).elim hn fun h2 => Nat.not_lt.2 h2 hg) _
/-- A name is told, or none. -/
theorem LetsD.skip (h : LetsD B F w wr d pv hv s c j i nv hs F') (hi : i < s.locks.length) (hne : s.locks[i].holder ≠ c) : LetsD B F w wr d pv hv s c j (i + 1) nv hs F' := by
  have e : heldBy c (s.locks.take (i + 1)) = heldBy c (s.locks.take i) := by rw [List.take_succ_eq_append_getElem hi, heldBy_snoc, if_neg hne, List.append_nil]
  exact ⟨h.ok, h.fF, h.fl, by rw [e]; exact h.nm, h.nF, h.kp⟩
theorem LetsD.stepN (h : LetsD B F w wr d pv hv s c j i nv hs F') (hi : i < s.locks.length) (he : s.locks[i].holder = c) {nv' : Value} (ho : w2.ownsRow w.heap.size 9 1 nv' ((heldBy c (s.locks.take i)).length + 1) ((heldBy c (s.locks.take i)).map str ++ [str s.locks[i].name]))
    (hk : Keep (fun k => nv.ownBlock ≠ some k) wr w2) (hn : Next wr.heap.size nv nv') : LetsD B F w w2 d pv hv s c j (i + 1) nv' hs F' := by
  have e : heldBy c (s.locks.take (i + 1)) = heldBy c (s.locks.take i) ++ [s.locks[i].name] := by rw [List.take_succ_eq_append_getElem hi, heldBy_snoc, if_pos he]
  refine ⟨h.ok.keep hk fun k hk e => h.nF k e hk, h.fF, fun k hk2 => Nat.lt_of_lt_of_le (h.fl k hk2) hk.size, by rw [e]; simpa using ho, fun k hk2 hF => ?_, h.kp.comp hk (fun _ _ h => h) fun k hk2 _ e => by have := (own_lt h.nm e).1; omega⟩
  rcases hn with h1 | ⟨g, h1, h2⟩
  · exact h.nF k (h1 ▸ hk2) hF
  · rw [h1] at hk2
    injection hk2 with hk2
    have := h.fl k hF
    omega
end
theorem take_nodup {ns : List Txt} (hn : ns.Nodup) {k : Nat} (hk : k < ns.length) : ns[k] ∉ ns.take k := by
  intro h
  have h2 : (ns.take k ++ [ns[k]]).Nodup := by
    rw [List.take_append_getElem hk]
    exact hn.sublist (List.take_sublist _ _)
  exact (List.nodup_append.1 h2).2.2 _ h _ (by simp) rfl
/-- What stands within the second loop. -/
structure LetsE (B : Nat) (F : Nat → Prop) (w wr : World) (d : Nat) (s : StD) (ns : List Txt) (nv : Value) : Prop where
  ok : ∃ pv hv hs F', DAt B F' wr d pv hv hs s ∧ (∀ k, F' k → F k ∨ w.heap.size ≤ k) ∧ ∀ k, nv.ownBlock = some k → ¬ F' k
  nm : wr.ownsRow w.heap.size 9 1 nv ns.length (ns.map str)
  kp : Keep (fun k => ¬ F k) w wr

set_option maxRecDepth 20000 in
set_option maxHeartbeats 1000000 in
theorem dlets_any {B : Nat} {F : Nat → Prop} {w : World} {d : Nat} {pv hv : Value} {hs : List DLk} {s : StD} (h : DAt B F w d pv hv hs s) (hi : LInv s.locks s.tok) (c : Int) (hB : B ≤ w.heap.size) :
    Calls Tryz.prog 111 #[.pointer (some ⟨d, 0, none⟩), .int .i64 c] w fun e w' => e = .returned (.int .i64 (letsD c s).1) ∧ DStep B F w d (letsD c s).2 w' := by
  obtain ⟨n, hnn⟩ : ∃ n, n = s.locks.length := ⟨_, rfl⟩
  have hn8 := hi.len
  rw [← hnn] at hn8
  have hlk := h.lk
  rw [← hnn] at hlk
  obtain ⟨A, cc, rfl, -, -⟩ := own_rd hlk
  obtain ⟨R, hR⟩ : ∃ R, R = letsD c s := ⟨_, rfl⟩
  rw [← hR]
  have hds := h.ds
  have HA := Lib.hid (And.intro h.tight (And.intro hi (And.intro hB (And.intro hnn hR))))
  clear h hi hB hnn hR hlk hds
  go_enter Tryz.func111, Tryz.ntmps111
  go_wp2_with fail
  go_loopw [5, 6] (fun nv iv wr => ∃ j : Nat, j ≤ n ∧ iv = .int .i64 (j : Int) ∧ Hid (∃ hs' F', LetsD B (fun k => F k ∧ k < w.heap.size) w wr d pv (.slice A n cc) s c j j nv hs' F')) (fun _ i _ => n - (intOf i).toNat)
  case atStart => exact ⟨0, by omega, rfl, Lib.hid ⟨hs, _, by rw [midL_zero]; exact HA.out.1, fun k hk => .inl hk, fun k hk => hk.2, by exact World.ownsRow_nil _ _ _ _, fun k hk => by (simp [Value.ownBlock] at hk), Keep.refl _ _⟩⟩
  case round =>
    rename World => wr
    obtain ⟨j, hj, rfl, HR⟩ := hrel
    obtain ⟨hs', F', hL⟩ := HR.out
    have x1 := hL.ok.three.2.1
    have ld := hL.ok.blk.lt
    by_cases hlt : j < n
    · have hjs : j < s.locks.length := by rw [← HA.out.2.2.2.1]; exact hlt
      obtain ⟨hjl, hdj⟩ := hL.dat hjs
      have hlk := hL.ok.lk
      have hml : (midL c s.locks j).length = n := by rw [midL_len c s.locks (Nat.le_of_lt hjs)]; exact HA.out.2.2.2.1.symm
      have hlk : wr.ownsRow B 206 4 (.slice A n cc) n (rcells DLk.cells hs') := by
        have h1 := hL.ok.lk
        simp only [hml] at h1
        exact h1
      obtain ⟨g, c2, e, -, hgl⟩ := own_form hlk (by omega)
      injection e with e1 e2 e3
      subst e1 e3
      obtain ⟨_, b0, o0, e0, -, c0, c1, _, c3⟩ := (Blk.rdOwn hlk).lockE hlt
      injection e0 with e0
      injection e0 with e0 e00
      subst e0 e00
      rw [Nat.zero_add] at c0 c1 c3
      rw [hdj] at c0 c1
      have ho0 := hL.ok.qs _ (List.getElem_mem hjl)
      rw [hdj] at ho0
      obtain ⟨Aq, cq, eqv, hrq, -⟩ := own_rd ho0
      rw [eqv] at c3
      obtain ⟨nq, hnq⟩ : ∃ nq, nq = s.locks[j].queue.length := ⟨_, rfl⟩
      rw [← hnq] at c3 hrq
      have hok := HA.out.2.1.each _ (List.getElem_mem hjs)
      have hq16 := queue_len hok.nd hok.q
      have HWo := Lib.hid (without_any _ Aq nq cq s.locks[j].queue c (World.drew wr) (hrq.keep ((Keep.refl _ wr).drew)) (by omega))
      obtain ⟨nm, hnm⟩ : ∃ nm, nm = s.locks[j].name := ⟨_, rfl⟩
      obtain ⟨ho, hho⟩ : ∃ ho, ho = s.locks[j].holder := ⟨_, rfl⟩
      rw [← hnm] at c0
      rw [← hho] at c1
      have hdg : d ≠ g := fun e => hL.ok.nd (by simp [Value.ownBlock, e])
      have lg := lt_of_cell c3
      have hji : (j : Int) < (n : Int) := by omega
      have f3 := own_frozen hlk (g := g) (j * 4 + 3) (by simp [Value.ownBlock])
      have hlen8 : (heldBy c (s.locks.take j)).length ≤ 8 := by
        have h1 := heldBy_le c (s.locks.take j)
        have h2 := List.length_take_le j s.locks
        omega
      have HL := Lib.hid (And.intro hL (And.intro hnm (And.intro hho (And.intro hlen8 hjs))))
      clear hL hlk hml ho0 eqv hrq hok hq16 hdj hnm hho hlen8 HR hnq
      go_wp2_with fail
      refine wp_region_held_drew (S := fun w' => w'.cell? ⟨d, 1, none⟩ = some (.slice (some ⟨g, 0, none⟩) n cc)) (by kernel_rfl) x1 (fun hHeld => ?_)
      refine wpAnyH_take (i := 0) (v := .pointer (some ⟨d, 0, none⟩)) rfl (by kernel_rfl) (by kernel_rfl) (by kernel_rfl) (fun _ _ _ h => h) (Or.inl ⟨by rfl, by intro w hSw; go_simp⟩) hHeld ?_
      simp only [Act.put, List.setIfInBounds_toArray, List.set_cons_zero, List.set_cons_succ]
      refine wpAnyH_take (i := 1) (v := .pointer (some ⟨d, 0, none⟩)) rfl (by kernel_rfl) (by kernel_rfl) (by kernel_rfl) (fun _ _ _ h => h) (Or.inl ⟨by rfl, by intro w hSw; go_simp⟩) hHeld ?_
      simp only [Act.put, List.setIfInBounds_toArray, List.set_cons_zero, List.set_cons_succ]
      refine wpAnyH_take (i := 2) (v := .pointer (some ⟨d, 1, none⟩)) rfl (by kernel_rfl) (by kernel_rfl) (by kernel_rfl) (fun _ _ _ h => h) (Or.inl ⟨by rfl, by intro w hSw; go_simp⟩) hHeld ?_
      simp only [Act.put, List.setIfInBounds_toArray, List.set_cons_zero, List.set_cons_succ]
      refine wpAnyH_take (i := 3) (v := .slice (some ⟨g, 0, none⟩) n cc) rfl (by kernel_rfl) (by kernel_rfl) (by kernel_rfl) (fun _ _ _ h => h) (Or.inl ⟨by rfl, by intro w hSw; go_simp⟩) hHeld ?_
      simp only [Act.put, List.setIfInBounds_toArray, List.set_cons_zero, List.set_cons_succ]
      refine wpAnyH_take (i := 4) (v := .int .i64 (j : Int)) rfl (by kernel_rfl) (by kernel_rfl) (by kernel_rfl) (fun _ _ _ h => h) (Or.inl ⟨by rfl, by intro w hSw; go_simp⟩) hHeld ?_
      simp only [Act.put, List.setIfInBounds_toArray, List.set_cons_zero, List.set_cons_succ]
      refine wpAnyH_take (i := 5) (v := .pointer (some ⟨d, 0, none⟩)) rfl (by kernel_rfl) (by kernel_rfl) (by kernel_rfl) (fun _ _ _ h => h) (Or.inl ⟨by rfl, by intro w hSw; go_simp⟩) hHeld ?_
      simp only [Act.put, List.setIfInBounds_toArray, List.set_cons_zero, List.set_cons_succ]
      refine wpAnyH_take (i := 6) (v := .pointer (some ⟨d, 0, none⟩)) rfl (by kernel_rfl) (by kernel_rfl) (by kernel_rfl) (fun _ _ _ h => h) (Or.inl ⟨by rfl, by intro w hSw; go_simp⟩) hHeld ?_
      simp only [Act.put, List.setIfInBounds_toArray, List.set_cons_zero, List.set_cons_succ]
      refine wpAnyH_take (i := 7) (v := .pointer (some ⟨d, 1, none⟩)) rfl (by kernel_rfl) (by kernel_rfl) (by kernel_rfl) (fun _ _ _ h => h) (Or.inl ⟨by rfl, by intro w hSw; go_simp⟩) hHeld ?_
      simp only [Act.put, List.setIfInBounds_toArray, List.set_cons_zero, List.set_cons_succ]
      refine wpAnyH_take (i := 8) (v := .slice (some ⟨g, 0, none⟩) n cc) rfl (by kernel_rfl) (by kernel_rfl) (by kernel_rfl) (fun _ _ _ h => h) (Or.inl ⟨by rfl, by intro w hSw; go_simp⟩) hHeld ?_
      simp only [Act.put, List.setIfInBounds_toArray, List.set_cons_zero, List.set_cons_succ]
      refine wpAnyH_take (i := 9) (v := .int .i64 (j : Int)) rfl (by kernel_rfl) (by kernel_rfl) (by kernel_rfl) (fun _ _ _ h => h) (Or.inl ⟨by rfl, by intro w hSw; go_simp⟩) hHeld ?_
      simp only [Act.put, List.setIfInBounds_toArray, List.set_cons_zero, List.set_cons_succ]
      refine wpAnyH_take (i := 10) (v := .pointer (some ⟨g, j * 4, none⟩)) rfl (by kernel_rfl) (by kernel_rfl) (by kernel_rfl) (fun _ _ _ h => h) (Or.inl ⟨by rfl, by intro w hSw; go_simp⟩) hHeld ?_
      simp only [Act.put, List.setIfInBounds_toArray, List.set_cons_zero, List.set_cons_succ]
      refine wpAnyH_take (i := 11) (v := .pointer (some ⟨g, j * 4 + 3, none⟩)) rfl (by kernel_rfl) (by kernel_rfl) (by kernel_rfl) (fun _ _ _ h => h) (Or.inl ⟨by rfl, by intro w hSw; go_simp⟩) hHeld ?_
      simp only [Act.put, List.setIfInBounds_toArray, List.set_cons_zero, List.set_cons_succ]
      refine wpAnyH_take (i := 13) (v := .int .i64 c) rfl (by kernel_rfl) (by kernel_rfl) (by kernel_rfl) (fun _ _ _ h => h) (Or.inl ⟨by rfl, by intro w hSw; go_simp⟩) hHeld ?_
      simp only [Act.put, List.setIfInBounds_toArray, List.set_cons_zero, List.set_cons_succ]
      refine wpAnyH_ready (rs := [12]) (by kernel_rfl) (by simp) ?_
      refine AllReadyH.cons rfl (fun K hK => ?_) AllReadyH.nil
      go_simp
      refine hK.out _ _ hHeld (fun hHeld => ?_)
      clear hK K
      try simp only [Act.put, List.setIfInBounds_toArray, List.set_cons_zero, List.set_cons_succ]
      refine wpAnyH_ready (rs := [14]) (by kernel_rfl) (by simp) ?_
      refine AllReadyH.cons rfl (fun K hK => ?_) AllReadyH.nil
      go_simp
      (with_reducible refine Calls.mono HWo.out ?_)
      rintro e w2 ⟨⟨v, rfl, hov⟩, hf2⟩
      have h0d : Fresh wr (World.drew wr) := (Keep.refl _ wr).drew
      have hf2 := h0d.then hf2
      obtain ⟨Av, cv, rfl, -⟩ := own_rd hov
      have hq2 := HL.out.1.stepQ HL.out.2.2.2.2 hf2 hov HA.out.2.2.1
      have x12 := hf2.cellAt x1 trivial
      have c32 := hf2.cellAt c3 trivial
      have f32 := (hf2.frozen (p := ⟨g, j * 4 + 3, none⟩) lg trivial).trans f3
      have c12 := hf2.cellAt c1 trivial
      have c02 := hf2.cellAt c0 trivial
      obtain ⟨lq, hlq⟩ : ∃ lq, lq = (lessD s.locks[j].queue c).length := ⟨_, rfl⟩
      rw [← hlq] at hq2 ⊢
      obtain ⟨w3, hw3⟩ : ∃ w3, w3 = w2.setCell ⟨g, j * 4 + 3, none⟩ (.slice Av lq cv) := ⟨_, rfl⟩
      rw [← hw3] at hq2
      have hk23 : ∀ p : Addr, p ≠ ⟨g, j * 4 + 3, none⟩ → w3.cell? p = w2.cell? p := fun p hp => by rw [hw3]; exact World.cell?_setCell_other w2 _ p _ (fun e => hp e.symm)
      have x13 : w3.cell? ⟨d, 1, none⟩ = some (.slice (some ⟨g, 0, none⟩) n cc) := (hk23 _ (by intro e; injection e with e1; exact hdg e1)).trans x12
      have c13 : w3.cell? ⟨g, j * 4 + 1, none⟩ = some (.int .i64 ho) := (hk23 _ (by simp)).trans c12
      have c03 : w3.cell? ⟨g, j * 4, none⟩ = some (str nm) := (hk23 _ (by simp)).trans c02
      have lg2 : g < w2.heap.size := lt_of_cell c32
      have HQ2 := Lib.hid hq2
      have HW3 := Lib.hid hw3
      clear hk23 hq2 hw3 hov hlq x1 c0 c1 c3 f3 HWo
      go_wp2_with fail
      refine hK.out _ _ x12 (fun hHeld => ?_)
      clear hK K
      try simp only [Act.put, List.setIfInBounds_toArray, List.set_cons_zero, List.set_cons_succ]
      refine wpAnyH_take (i := 15) (v := .pointer (some ⟨g, j * 4, none⟩)) rfl (by kernel_rfl) (by kernel_rfl) (by kernel_rfl) (fun _ _ _ h => h) (Or.inl ⟨by rfl, by intro w hSw; go_simp⟩) hHeld ?_
      simp only [Act.put, List.setIfInBounds_toArray, List.set_cons_zero, List.set_cons_succ]
      refine wpAnyH_take (i := 16) (v := .pointer (some ⟨g, j * 4 + 3, none⟩)) rfl (by kernel_rfl) (by kernel_rfl) (by kernel_rfl) (fun _ _ _ h => h) (Or.inl ⟨by rfl, by intro w hSw; go_simp⟩) hHeld ?_
      simp only [Act.put, List.setIfInBounds_toArray, List.set_cons_zero, List.set_cons_succ]
      refine wpAnyH_ready (rs := [17]) (by kernel_rfl) (by simp) ?_
      refine AllReadyH.cons rfl (fun K hK => ?_) AllReadyH.nil
      go_simp
      rw [← HW3.out]
      refine hK.out _ _ x13 (fun hHeld => ?_)
      clear hK K hHeld x12 c32 f32 c12 c02 lg lg2 HW3
      refine wpAnyH_done (by kernel_rfl) ?_ _
      have lg3 := lt_of_cell c03
      have ld3 := lt_of_cell x13
      by_cases he : ho = c
      · subst he
        have hbs := HQ2.out.kp.size
        have HLn := Lib.hid HL.out.2.2.2.1
        go_wp2_with (at_builtin; refine wpList_app1 etStr rfl (.tmp 45) (.tmp 54) rfl (str nm) _ rfl w.heap.size _ _ _ rfl rfl HQ2.out.nm (by have := HLn.out; omega) HQ2.out.kp.size ?_)
        intro v4 w4 ho4 hk4 hn4
        have h4 := HQ2.out.stepN HL.out.2.2.2.2 HL.out.2.2.1.symm (by rw [HL.out.2.1] at ho4; exact ho4) hk4 hn4
        have H4 := Lib.hid h4
        clear h4 ho4 hk4 hn4
        go_wp2_with fail
        exact ⟨⟨j + 1, by omega, by simp, Lib.hid ⟨_, _, H4.out⟩⟩, by simp only [intOf]; omega⟩
      · have hb : (ho == c) = false := by simpa using he
        have h4 := HQ2.out.skip HL.out.2.2.2.2 (by rw [← HL.out.2.2.1]; exact he)
        have H4 := Lib.hid h4
        clear h4
        go_wp2_with fail
        exact ⟨⟨j + 1, by omega, by simp, Lib.hid ⟨_, _, H4.out⟩⟩, by simp only [intOf]; omega⟩
    · obtain rfl : n = j := by omega
      obtain ⟨ns, hns⟩ : ∃ ns, ns = heldBy c s.locks := ⟨_, rfl⟩
      obtain ⟨s0, hs0⟩ : ∃ s0 : StD, s0 = { s with locks := s.locks.map (leaveL c) } := ⟨_, rfl⟩
      have hok := hL.ok
      have hnm := hL.nm
      have htk : s.locks.take n = s.locks := List.take_of_length_le (by rw [← HA.out.2.2.2.1]; exact Nat.le_refl _)
      have hml : midL c s.locks n = s.locks.map (leaveL c) := by rw [HA.out.2.2.2.1]; exact midL_all c s.locks
      rw [htk, ← hns] at hnm
      simp only [hml] at hok
      rw [← hs0] at hok
      have hi0 : LInv s0.locks s0.tok := by rw [hs0]; exact HA.out.2.1.leave c
      have hRe : R = ((ns.length : Int), passAll ns s0) := by rw [HA.out.2.2.2.2, hns, hs0]; rfl
      have hnod : ns.Nodup := by
        have h1 := HA.out.2.1.rise.nodup
        rw [hns]
        exact h1.sublist (List.Sublist.map _ List.filter_sublist)
      have hfind0 : ∀ x ∈ ns, ∃ l, lfind x s0.locks = some l := by
        intro x hx
        rw [hns] at hx
        unfold heldBy at hx
        obtain ⟨l, h1, h2⟩ := List.mem_map.1 hx
        have h1 := (List.mem_filter.1 h1).1
        have h3 : findK LockD.name x s0.locks = some (leaveL c l) := findK_of hi0.rise (by rw [hs0]; exact List.mem_map.2 ⟨l, h1, rfl⟩) h2
        exact ⟨_, h3⟩
      obtain ⟨Ln, hLn⟩ : ∃ Ln, Ln = ns.length := ⟨_, rfl⟩
      obtain ⟨An, cn, rfl, -⟩ := own_rd hnm
      rw [← hLn] at hnm
      have hL8 : Ln ≤ 8 := by have := heldBy_le c s.locks; have := HA.out.2.2.2.1; rw [hLn, hns]; omega
      have hF0 := fun k hk => (hL.fF k hk)
      have hE : LetsE B F w wr d s0 ns (.slice An Ln cn) := ⟨⟨_, _, _, _, hok, fun k hk => (hL.fF k hk).imp (fun h => h.1) id, by rw [hLn]; exact hL.nF⟩, by rw [← hLn]; exact hnm, hL.kp.weaken fun k _ h h2 => h h2.1⟩
      have HE := Lib.hid (And.intro hE (And.intro hi0 (And.intro hRe (And.intro hnod (And.intro hfind0 hLn)))))
      rw [← hLn]
      clear hE hi0 hRe hnod hfind0 hLn hL hok hnm htk hml hns hs0 hF0 HR
      go_wp2_with fail
      go_loopw [7] (fun iv wx => ∃ k : Nat, k ≤ Ln ∧ iv = .int .i64 (k : Int) ∧ Hid (LetsE B F w wx d (passAll (ns.take k) s0) ns (.slice An Ln cn))) (fun i _ => Ln - (intOf i).toNat)
      case atStart => exact ⟨0, by omega, rfl, Lib.hid HE.out.1⟩
      case round =>
        rename World => wx
        obtain ⟨k, hk, rfl, HX⟩ := hrel
        by_cases hlk : k < Ln
        · have hks : k < ns.length := by rw [← HE.out.2.2.2.2.2]; exact hlk
          obtain ⟨⟨pv1, hv1, hs1, F1, hd1, hF1, hN1⟩, hnm1, hkp1⟩ := HX.out
          have hnm1 : wx.ownsRow w.heap.size 9 1 (.slice An Ln cn) Ln (ns.map str) := by rw [← HE.out.2.2.2.2.2] at hnm1; exact hnm1
          obtain ⟨A9, c9, e9, hrd9, -⟩ := own_rd hnm1
          injection e9 with e91 e92 e93
          subst e91 e93
          obtain ⟨bn, on, rfl, -, hl9, cn9a⟩ := hrd9.at1 hlk
          have cn9 : wx.cell? ⟨bn, on + k, none⟩ = some (str ns[k]) := by rw [cn9a]; simp
          clear cn9a
          have hi1 : LInv (passAll (ns.take k) s0).locks (passAll (ns.take k) s0).tok := HE.out.2.1.passAll _
          obtain ⟨l, hl0⟩ := HE.out.2.2.2.2.1 ns[k] (List.getElem_mem hks)
          have hl1 : lfind ns[k] (passAll (ns.take k) s0).locks = some l := by rw [passAll_other _ _ (take_nodup HE.out.2.2.2.1 hks)]; exact hl0
          obtain ⟨at1, hat, hatl, hpl⟩ := placeK_find hl1
          have hnam := (findK_some hl1).1
          have hsn : passAll (ns.take (k + 1)) s0 = (passD ns[k] (passAll (ns.take k) s0)).2 := by rw [List.take_succ_eq_append_getElem hks, passAll_snoc]
          have HLa := Lib.hid (lockAt_any hd1 ns[k] (by have := hi1.len; omega))
          rw [hpl] at HLa
          have hpp := passed_any hd1 hi1 hat (by have := HA.out.2.2.1; have := hkp1.size; omega)
          rw [hatl, hnam] at hpp
          have HPp := Lib.hid hpp
          obtain ⟨t, ht⟩ : ∃ t, t = ns[k] := ⟨_, rfl⟩
          rw [← ht] at cn9 HLa HPp hsn
          have lbn := lt_of_cell cn9
          have hki : (k : Int) < (Ln : Int) := by omega
          have ld := hd1.blk.lt
          have HX2 := Lib.hid (And.intro hd1 (And.intro hF1 (And.intro hN1 (And.intro hnm1 (And.intro hkp1 hsn)))))
          clear hd1 hF1 hN1 hnm1 hkp1 hsn HX hks hrd9 hi1 hl0 hl1 hat hatl hpl hnam hpp ht
          go_wp2_with fail
          with_reducible refine Calls.mono HLa.out ?_
          rintro e _ ⟨rfl, rfl⟩
          go_wp2_with fail
          refine Calls.mono HPp.out ?_
          rintro e w5 ⟨rfl, ⟨hv2, hs2, F2, hd2, hF2⟩, hk2⟩
          have hE5 : LetsE B F w w5 d (passAll (ns.take (k + 1)) s0) ns (.slice (some ⟨bn, on, none⟩) Ln cn) := by
            rw [HX2.out.2.2.2.2.2]
            have hnl := HX2.out.2.2.2.1
            refine ⟨⟨_, _, _, _, hd2, fun j hj => (hF2 j hj).elim (HX2.out.2.1 j) fun h => .inr (by have := HX2.out.2.2.2.2.1.size; omega), fun j hj hj2 => ?_⟩, ?_, HX2.out.2.2.2.2.1.comp hk2 (fun _ _ h => h) fun j hj h h2 => (HX2.out.2.1 j h2).elim h fun h => by omega⟩
            · rcases hF2 j hj2 with h | h
              · exact HX2.out.2.2.1 j hj h
              · have := (own_lt hnl hj).2; omega
            · rw [← HE.out.2.2.2.2.2]
              exact own_keep hnl hk2 fun j hj => HX2.out.2.2.1 j hj
          have H5 := Lib.hid hE5
          clear hE5 hd2 hF2 hk2
          go_wp2_with fail
          exact ⟨⟨k + 1, by omega, by simp, H5⟩, by simp only [intOf]; omega⟩
        · obtain rfl : Ln = k := by omega
          go_wp2_with fail
          go_ret
          obtain ⟨⟨pv1, hv1, hs1, F1, hd1, hF1, hN1⟩, hnm1, hkp1⟩ := HX.out
          have e1 : ns.take Ln = ns := List.take_of_length_le (by rw [HE.out.2.2.2.2.2]; exact Nat.le_refl _)
          rw [e1] at hd1
          rw [HE.out.2.2.1, ← HE.out.2.2.2.2.2]
          exact ⟨rfl, ⟨pv1, hv1, hs1, F1, hd1, hF1⟩, hkp1⟩
end Go.Proofs.YtohnmaindbgngaaGreatDoor
namespace Go.Proofs.YtohnmaindbgngaaGreatDoor
set_option linter.unusedVariables false
set_option linter.unusedSimpArgs false
open Go.RowKit

theorem nDigits_small' : ∀ (k u : Nat), u < 10 ^ (k + 1) → Lib.nDigits u ≤ k + 1
  | 0, u, h => by rw [Lib.nDigits_small (by simpa using h)]; omega
  | k + 1, u, h => by
    by_cases h1 : u < 10
    · rw [Lib.nDigits_small h1]; omega
    · rw [Lib.nDigits_big h1]
      have := nDigits_small' k (u / 10) (by rw [Nat.pow_succ] at h; omega)
      omega
theorem nDigits_iff (k u : Nat) : Lib.nDigits u ≤ k + 1 ↔ u < 10 ^ (k + 1) :=
  ⟨fun h => Nat.lt_of_lt_of_le (Lib.lt_pow_nDigits u) (Nat.pow_le_pow_right (by decide) h), nDigits_small' k u⟩
theorem itoa_long (n : Int) : 8 < (Lib.itoa n).length ↔ (n < -9999999 ∨ 99999999 < n) := by
  by_cases h : n < 0
  · obtain ⟨u, rfl, hu⟩ : ∃ u : Nat, n = -(u : Int) ∧ 0 < u := ⟨n.natAbs, by omega, by omega⟩
    rw [itoa_neg' u hu, List.length_cons, Lib.decDigits_length]
    have := nDigits_iff 6 u
    have e : (10 : Nat) ^ (6 + 1) = 10000000 := by decide
    rw [e] at this
    omega
  · obtain ⟨u, rfl⟩ : ∃ u : Nat, n = (u : Int) := ⟨n.toNat, by omega⟩
    rw [itoa_pos u, Lib.decDigits_length]
    have := nDigits_iff 7 u
    have e : (10 : Nat) ^ (7 + 1) = 100000000 := by decide
    rw [e] at this
    omega
section
variable {B : Nat} {F : Nat → Prop} {w w2 wx : World} {d : Nat} {pv hv : Value} {hs : List DLk} {s : StD}
/-- Something else was written. -/
theorem DAt.other (h : DAt B F w d pv hv hs s) {g : Nat} {t : TypeId} {cs : Array Value} (hb : Blk w g t cs) (h1 : 192 ≠ t) (h2 : 222 ≠ t) (h3 : 206 ≠ t) (h4 : 3 ≠ t) (hk : Keep (fun k => k ≠ g) w w2) : DAt B F w2 d pv hv hs s :=
  ⟨h.blk.keep hk (h.blk.ne hb h1), own_keep h.pr hk fun k hk e => own_ne_blk h.pr hb h2 (e ▸ hk), own_keep h.lk hk fun k hk e => own_ne_blk h.lk hb h3 (e ▸ hk), h.ds, fun x hx => own_keep (h.qs x hx) hk fun k hk e => own_ne_blk (h.qs x hx) hb h4 (e ▸ hk), h.ap, h.fd, h.fp, h.fh, h.fq⟩
theorem DAt.stay' (h : DAt B F w2 d pv hv hs s) (hf : Fresh w w2) : DStep B F w d s w2 := ⟨⟨pv, hv, hs, F, h, fun _ h => .inl h⟩, hf.weaken fun _ _ _ => trivial⟩
theorem DStep.other (h : DStep B F w d s wx) {g : Nat} {t : TypeId} {cs : Array Value} (hb : Blk wx g t cs) (h1 : 192 ≠ t) (h2 : 222 ≠ t) (h3 : 206 ≠ t) (h4 : 3 ≠ t) (hg : w.heap.size ≤ g) (hk : Keep (fun k => k ≠ g) wx w2) : DStep B F w d s w2 := by
  obtain ⟨⟨pv, hv, hs, F2, hd, hF⟩, hk2⟩ := h
  exact ⟨⟨pv, hv, hs, F2, hd.other hb h1 h2 h3 h4 hk, hF⟩, hk2.comp hk (fun _ _ h => h) fun j hj _ e => by omega⟩
end
/-- What an operation of the document's machine leaves. -/
def DOp (B : Nat) (F : Nat → Prop) (w : World) (d : Nat) (x : ResD × StD) (e : Ending) (w' : World) : Prop := e = .returned (resV x.1) ∧ DStep B F w d x.2 w'
theorem dop_ret {fn : Func} (hfn : fn.results = #[.cell 4 49]) {a : Act} {g : Nat} (ha : a.tmps.getD 4 undef = .pointer (some ⟨g, 0, none⟩)) (hd : a.defers = []) {B : Nat} {F : Nat → Prop} {w wx : World} {d : Nat} {R : ResD} {s2 : StD} {R0 : MRes}
    (hm : DStep B F w d s2 wx) (hb : Blk wx g 49 (resA R0)) (hg : w.heap.size ≤ g) :
    bodyPost Tryz.prog fn (DOp B F w d (R, s2)) Exit.ret a (resStored wx g R) :=
  bodyPost_ret (results_one hfn _ _ g 49 (resA R) _ ha (res_blk hb R) Tryz.underlying49 rfl (by kernel_rfl)) hd ⟨rfl, hm.other hb (by decide) (by decide) (by decide) (by decide) hg (res_keep (Keep.refl _ wx) (fun _ h => h rfl) _)⟩
/-- The number that the document reads, where it is one. -/
theorem rnum_numb {v : Txt} (h : (numb v).2 = true) : rnum v = numb v := by
  rw [rnum_eq, h, if_pos rfl]
  exact Prod.ext rfl h.symm
theorem valid_num {c i r o : Int} {k v d : Txt} (h : validB c i r o k v d = true) (ho : o = 5 ∨ o = 8 ∨ o = 9) : (numb v).2 = true := by
  obtain ⟨-, -, -, -, hf⟩ := valid_ok h
  rcases ho with rfl | rfl | rfl
  · have e : shapeTab.getD (5 : Int).toNat 0 = 9 := by decide
    have b2 : hasB 9 2 = false := by decide
    have b8 : hasB 9 8 = true := by decide
    rw [e] at hf
    unfold fitsB at hf
    rw [b2, b8] at hf
    split at hf
    · cases hf
    · split at hf
      · cases hf
      · simpa using hf
  · have e : shapeTab.getD (8 : Int).toNat 0 = 17 := by decide
    have b2 : hasB 17 2 = false := by decide
    have b8 : hasB 17 8 = false := by decide
    have b16 : hasB 17 16 = true := by decide
    rw [e] at hf
    unfold fitsB at hf
    rw [b2, b8, b16] at hf
    split at hf
    · cases hf
    · split at hf
      · cases hf
      · simp at hf
        exact hf.1
  · have e : shapeTab.getD (9 : Int).toNat 0 = 32 := by decide
    have b2 : hasB 32 2 = false := by decide
    have b8 : hasB 32 8 = false := by decide
    have b16 : hasB 32 16 = false := by decide
    have b32 : hasB 32 32 = true := by decide
    rw [e] at hf
    unfold fitsB at hf
    rw [b2, b8, b16, b32] at hf
    split at hf
    · cases hf
    · split at hf
      · cases hf
      · simp at hf
        exact hf.1
end Go.Proofs.YtohnmaindbgngaaGreatDoor
namespace Go.Proofs.YtohnmaindbgngaaGreatDoor
set_option linter.unusedVariables false
set_option linter.unusedSimpArgs false
open Go.RowKit

theorem pput_at {ps : List (Txt × Txt)} (hr : Rise (ps.map Prod.fst)) {i : Nat} (hi : i < ps.length) (v : Txt) : pputD ps[i].1 v ps = ps.set i (ps[i].1, v) := by
  have hf : pfindD ps[i].1 ps = some ps[i] := findK_of hr (List.getElem_mem hi) rfl
  unfold pputD
  rw [hf]
  exact setK_at hr hi rfl
theorem pput_new {ps : List (Txt × Txt)} {k : Txt} (h : pfindD k ps = none) (v : Txt) : pputD k v ps = insK Prod.fst (k, v) ps := by
  unfold pputD
  rw [h]
section
variable {B : Nat} {F : Nat → Prop} {w w2 : World} {d : Nat} {pv hv : Value} {hs : List DLk} {s : StD}
/-- A pair's value is stored. -/
theorem DAt.setVal (h : DAt B F w d pv hv hs s) {i : Nat} (hi : i < s.pairs.length) {g : Nat} (hg : pv.ownBlock = some g) (v : Txt) :
    DAt B F (w.setCell ⟨g, i * 2 + 1, none⟩ (str v)) d pv hv hs { s with pairs := s.pairs.set i (s.pairs[i].1, v) } := by
  have hs2 := own_set h.pr hg (i := i * 2 + 1) (by omega) (str v)
  have e : (pcells s.pairs).set (i * 2 + 1) (str v) = pcells (s.pairs.set i (s.pairs[i].1, v)) := rcells_set (f := pairC) (c := 2) (fun _ => rfl) s.pairs i hi 1 (str v) (s.pairs[i].1, v) (by omega) rfl
  rw [e] at hs2
  have hgd : d ≠ g := fun e => own_ne_blk h.pr h.blk (by decide) (e ▸ hg)
  refine ⟨h.blk.far hgd _, by rw [List.length_set]; exact hs2, own_far h.lk (p := ⟨g, i * 2 + 1, none⟩) (fun e => h.ngp e hg) _, h.ds, fun x hx => own_far (h.qs x hx) (p := ⟨g, i * 2 + 1, none⟩) (fun e => h.npq hx e hg) _, h.ap, h.fd, h.fp, h.fh, h.fq⟩
end
set_option maxRecDepth 20000 in
set_option maxHeartbeats 4000000 in
theorem donKey_any {B : Nat} {F : Nat → Prop} {w : World} {d : Nat} {pv hv : Value} {hs : List DLk} {s : StD} (h : DAt B F w d pv hv hs s) (hp : PInv s.pairs) (hB : B ≤ w.heap.size) (hT : ∀ w', Keep (fun j => ¬ F j) w w' → Tabs w') (c i r o : Int) (k v ol : Txt) (hv5 : o = 5 → (numb v).2 = true) (ho1 : 1 ≤ o) (ho5 : o ≤ 5) :
    Calls Tryz.prog 130 #[.pointer (some ⟨d, 0, none⟩), cmdV c i r o k v ol] w (DOp B F w d (onKeyD numb Lib.itoa o k v ol s)) := by
  obtain ⟨X, hX⟩ : ∃ X, X = onKeyD numb Lib.itoa o k v ol s := ⟨_, rfl⟩
  rw [← hX]
  have HO := Lib.hid (op_at w c i r o k v ol)
  obtain ⟨G, hG⟩ : ∃ G, G = w.heap.size := ⟨_, rfl⟩
  obtain ⟨W, hW⟩ : ∃ W, W = (w.alloc (.cells #[.int .i64 c, .int .i64 i, .int .i64 r, .int .i64 o, str k, str v, str ol] 43)).alloc (.cells #[.int .i64 0, str [], .int .i64 0] 49) := ⟨_, rfl⟩
  rw [← hW, ← hG] at HO
  have hdW := h.fresh HO.out.fresh
  have HKA := Lib.hid (keyAt_any hdW k (by have := hp.len; omega))
  have hlen := hp.len
  obtain ⟨n, hnn⟩ : ∃ n, n = s.pairs.length := ⟨_, rfl⟩
  rw [← hnn] at hlen
  have hpr := hdW.pr
  rw [← hnn] at hpr
  obtain ⟨Ap, cp, rfl, -⟩ := own_rd hpr
  have x0 := hdW.three.1
  have ld := hdW.blk.lt
  have hcm := HO.out.cmd
  have k3 := hcm.cell 3; have k4 := hcm.cell 4; have k5 := hcm.cell 5; have k6 := hcm.cell 6
  simp at k3 k4 k5 k6
  have kl := hcm.lt
  obtain ⟨r0, r1, r2, s0, s1, s2, rl⟩ := res_facts HO.out.res
  have HA := Lib.hid (And.intro hdW (And.intro hX (And.intro hp (And.intro hB (And.intro hT (And.intro hnn hpr))))))
  clear h hdW hX hp hB hT hnn hcm hpr
  go_enter Tryz.func130, Tryz.ntmps130
  go_wp2_with fail
  simp only [← hG]
  rw [← hW]
  clear hW hG
  cases hpf : pfindD k s.pairs with
  | none =>
    rw [placeK_none (findK_none hpf)] at HKA
    have HPF := Lib.hid hpf
    clear hpf
    have HJ := Lib.hid (joins_any HA.out.1 k v (by have := HA.out.2.2.1.len; omega) (Nat.le_trans HA.out.2.2.2.1 HO.out.fresh.size))
    have HE1 : Hid (X = if o = 1 ∨ o = 5 then (if 16 ≤ n then (⟨4, [], 0⟩, s) else (⟨1, if o = 5 then v else [], 0⟩, { s with pairs := insK Prod.fst (k, v) s.pairs })) else (⟨2, [], 0⟩, s)) := Lib.hid (by
      rw [HA.out.2.1]
      unfold onKeyD
      rw [HPF.out]
      simp only
      rw [pput_new HPF.out, HA.out.2.2.2.2.2.1])
    have hcs : (o = 1 ∧ 16 ≤ n) ∨ (o = 1 ∧ n < 16) ∨ (o = 5 ∧ 16 ≤ n) ∨ (o = 5 ∧ n < 16) ∨ (o ≠ 1 ∧ o ≠ 5) := by omega
    rcases hcs with ⟨rfl, hn⟩ | ⟨rfl, hn⟩ | ⟨rfl, hn⟩ | ⟨rfl, hn⟩ | ⟨h1, h5⟩
    · have HE : Hid (X = (⟨4, [], 0⟩, s)) := Lib.hid (by rw [HE1.out]; simp; omega)
      have hni : (16 : Int) ≤ (n : Int) := by omega
      clear HE1 HJ
      go_wp2_with fail
      refine Calls.mono HKA.out ?_
      rintro e _ ⟨rfl, rfl⟩
      go_wp2_with fail
      rw [HE.out]
      exact dop_ret (w := w) rfl rfl rfl (HA.out.1.stay' HO.out.fresh) HO.out.res (by have := HO.out.sz; omega)
    · have HE : Hid (X = (⟨1, [], 0⟩, { s with pairs := insK Prod.fst (k, v) s.pairs })) := Lib.hid (by rw [HE1.out]; simp; omega)
      have hni : (n : Int) < 16 := by omega
      clear HE1
      go_wp2_with fail
      refine Calls.mono HKA.out ?_
      rintro e _ ⟨rfl, rfl⟩
      go_wp2_with fail
      refine Calls.mono HJ.out ?_
      rintro e w4 ⟨rfl, ⟨pv4, F4, hd4, hF4⟩, hk4⟩
      have hGd : G ≠ d := HO.out.cmd.ne HA.out.1.blk (by decide)
      have hRd : G + 1 ≠ d := HO.out.res.ne HA.out.1.blk (by decide)
      have k3 := hk4.cellAt k3 hGd
      have k5 := hk4.cellAt k5 hGd
      have kl := Nat.lt_of_lt_of_le kl hk4.size
      have hb4 := HO.out.res.keep hk4 hRd
      obtain ⟨r0, r1, r2, s0, s1, s2, rl⟩ := res_facts hb4
      have hst : DStep B F w d { s with pairs := insK Prod.fst (k, v) s.pairs } w4 := DStep.next (F1 := F) (w1 := W) ⟨⟨_, _, _, _, hd4, hF4⟩, hk4.weaken fun j _ hj e => hj (e ▸ HA.out.1.fd)⟩ (fun j hj => .inl hj) (HO.out.fresh.weaken fun _ _ _ => trivial)
      have H4 := Lib.hid (And.intro hst hb4)
      clear hd4 hF4 hk4 hb4 hst HJ HKA
      go_wp2_with fail
      rw [HE.out]
      exact dop_ret (w := w) rfl rfl rfl H4.out.1 H4.out.2 (by have := HO.out.sz; omega)
    · have HE : Hid (X = (⟨4, [], 0⟩, s)) := Lib.hid (by rw [HE1.out]; simp; omega)
      have hni : (16 : Int) ≤ (n : Int) := by omega
      clear HE1 HJ
      go_wp2_with fail
      refine Calls.mono HKA.out ?_
      rintro e _ ⟨rfl, rfl⟩
      go_wp2_with fail
      rw [HE.out]
      exact dop_ret (w := w) rfl rfl rfl (HA.out.1.stay' HO.out.fresh) HO.out.res (by have := HO.out.sz; omega)
    · have HE : Hid (X = (⟨1, v, 0⟩, { s with pairs := insK Prod.fst (k, v) s.pairs })) := Lib.hid (by rw [HE1.out]; simp; omega)
      have hni : (n : Int) < 16 := by omega
      clear HE1
      go_wp2_with fail
      refine Calls.mono HKA.out ?_
      rintro e _ ⟨rfl, rfl⟩
      go_wp2_with fail
      refine Calls.mono HJ.out ?_
      rintro e w4 ⟨rfl, ⟨pv4, F4, hd4, hF4⟩, hk4⟩
      have hGd : G ≠ d := HO.out.cmd.ne HA.out.1.blk (by decide)
      have hRd : G + 1 ≠ d := HO.out.res.ne HA.out.1.blk (by decide)
      have k3 := hk4.cellAt k3 hGd
      have k5 := hk4.cellAt k5 hGd
      have kl := Nat.lt_of_lt_of_le kl hk4.size
      have hb4 := HO.out.res.keep hk4 hRd
      obtain ⟨r0, r1, r2, s0, s1, s2, rl⟩ := res_facts hb4
      have hst : DStep B F w d { s with pairs := insK Prod.fst (k, v) s.pairs } w4 := DStep.next (F1 := F) (w1 := W) ⟨⟨_, _, _, _, hd4, hF4⟩, hk4.weaken fun j _ hj e => hj (e ▸ HA.out.1.fd)⟩ (fun j hj => .inl hj) (HO.out.fresh.weaken fun _ _ _ => trivial)
      have H4 := Lib.hid (And.intro hst hb4)
      clear hd4 hF4 hk4 hb4 hst HJ HKA
      go_wp2_with fail
      rw [HE.out]
      exact dop_ret (w := w) rfl rfl rfl H4.out.1 H4.out.2 (by have := HO.out.sz; omega)
    · have HE : Hid (X = (⟨2, [], 0⟩, s)) := Lib.hid (by rw [HE1.out]; simp; omega)
      have g1 : (!(o == 1)) = true := by simpa using h1
      have g5 : (!(o == 5)) = true := by simpa using h5
      have g2 : (o == 1) = false := by simpa using h1
      have g6 : (o == 5) = false := by simpa using h5
      have g7 : (o != 1) = true := by simpa using h1
      have g8 : (o != 5) = true := by simpa using h5
      clear HE1 HJ
      go_wp2_with fail
      refine Calls.mono HKA.out ?_
      rintro e _ ⟨rfl, rfl⟩
      go_wp2_with fail
      rw [HE.out]
      exact dop_ret (w := w) rfl rfl rfl (HA.out.1.stay' HO.out.fresh) HO.out.res (by have := HO.out.sz; omega)
  | some q =>
    obtain ⟨i0, hi0, hix, hpl⟩ := placeK_find hpf
    rw [hpl] at HKA
    have hkq := (findK_some hpf).1
    obtain ⟨u, hu⟩ : ∃ u, u = q.2 := ⟨_, rfl⟩
    have hq : q = (k, u) := Prod.ext hkq hu.symm
    have hi1 : i0 < n := by rw [HA.out.2.2.2.2.2.1]; exact hi0
    have hii : (i0 : Int) < (n : Int) := by omega
    obtain ⟨g, cp2, e, -, hgl⟩ := own_form HA.out.2.2.2.2.2.2 (by omega)
    injection e with e1 e2 e3
    subst e1 e3
    obtain ⟨hl, b, o0, e0, -, c0, c1⟩ := (Blk.rdOwn HA.out.2.2.2.2.2.2).pairE hi1
    injection e0 with e0
    injection e0 with e0 e00
    subst e0 e00
    rw [hix, hq, Nat.zero_add] at c0 c1
    simp only at c0 c1
    have f1 := own_frozen HA.out.2.2.2.2.2.2 (g := g) (i0 * 2 + 1) (by simp [Value.ownBlock])
    have hps : s.pairs[i0] = (k, u) := hix.trans hq
    have hput : ∀ v', pputD k v' s.pairs = s.pairs.set i0 (k, v') := fun v' => by
      have h1 := pput_at HA.out.2.2.1.rise hi0 v'
      rw [hps] at h1
      exact h1
    have hdel : delK Prod.fst k s.pairs = s.pairs.eraseIdx i0 := by
      have h1 := delK_at HA.out.2.2.1.rise hi0
      rw [hps] at h1
      exact h1
    have HE1 : Hid (X = (if o = 1 then (⟨1, u, 1⟩, { s with pairs := s.pairs.set i0 (k, v) })
      else if o = 3 then (if u = ol then (⟨1, u, 1⟩, { s with pairs := s.pairs.set i0 (k, v) }) else (⟨3, u, 1⟩, s))
      else if o = 4 then (⟨1, u, 1⟩, { s with pairs := s.pairs.eraseIdx i0 })
      else if o = 5 then (if (numb u).2 = false then (⟨5, u, 1⟩, s) else if 8 < (Lib.itoa ((numb u).1 + (numb v).1)).length then (⟨6, u, 1⟩, s) else (⟨1, Lib.itoa ((numb u).1 + (numb v).1), 1⟩, { s with pairs := s.pairs.set i0 (k, Lib.itoa ((numb u).1 + (numb v).1)) }))
      else (⟨1, u, 1⟩, s))) := Lib.hid (by
      rw [HA.out.2.1]
      unfold onKeyD
      rw [hpf, hq]
      simp only [hput, hdel])
    have HSet : Hid (∀ w2 v', Fresh W w2 → DAt B F (w2.setCell ⟨g, i0 * 2 + 1, none⟩ (str v')) d (.slice (some ⟨g, 0, none⟩) n cp) hv hs { s with pairs := s.pairs.set i0 (k, v') } ∧ Keep (fun j => ¬ F j) w (w2.setCell ⟨g, i0 * 2 + 1, none⟩ (str v'))) := Lib.hid fun w2 v' hf => by
      have h1 := (HA.out.1.fresh hf).setVal hi0 (g := g) (by simp [Value.ownBlock]) v'
      rw [hps] at h1
      refine ⟨h1, ((HO.out.fresh.then hf).weaken fun _ _ _ => trivial).setCell (fun _ h => h (HA.out.1.fp g (by simp [Value.ownBlock]))) _⟩
    have hgd : d ≠ g := fun e => own_ne_blk HA.out.1.pr HA.out.1.blk (by decide) (by simp [Value.ownBlock, e])
    have hgG : G ≠ g := fun e => own_ne_blk HA.out.1.pr HO.out.cmd (by decide) (by simp [Value.ownBlock, e])
    have hgR : G + 1 ≠ g := fun e => own_ne_blk HA.out.1.pr HO.out.res (by decide) (by simp [Value.ownBlock, e])
    clear hput hdel hq hkq hu hix hpl hpf
    have hcs : o = 1 ∨ o = 2 ∨ o = 3 ∨ o = 4 ∨ o = 5 := by omega
    rcases hcs with rfl | rfl | rfl | rfl | rfl
    · have HE : Hid (X = (⟨1, u, 1⟩, { s with pairs := s.pairs.set i0 (k, v) })) := Lib.hid (by rw [HE1.out]; simp)
      clear HE1
      go_wp2_with fail
      refine Calls.mono HKA.out ?_
      rintro e _ ⟨rfl, rfl⟩
      have HK : Hid (∀ w', Keep (fun j => j ≠ g) W w' → w'.cell? ⟨d, 0, none⟩ = some (.slice (some ⟨g, 0, none⟩) n cp) ∧ w'.cell? ⟨G, 5, none⟩ = some (str v)) := Lib.hid fun w' hk => ⟨hk.cellAt x0 hgd, hk.cellAt k5 hgG⟩
      have h2 : DAt B F (World.drew (W.setCell ⟨g, i0 * 2 + 1, none⟩ (str v))) d (.slice (some ⟨g, 0, none⟩) n cp) hv hs { s with pairs := s.pairs.set i0 (k, v) } ∧ Keep (fun j => ¬ F j) w (World.drew (W.setCell ⟨g, i0 * 2 + 1, none⟩ (str v))) := ⟨(HSet.out W v (Keep.refl _ W)).1.fresh ((Keep.refl _ _).drew), (HSet.out W v (Keep.refl _ W)).2.drew⟩
      obtain ⟨w6, hw6⟩ : ∃ w6, w6 = World.drew (W.setCell ⟨g, i0 * 2 + 1, none⟩ (str v)) := ⟨_, rfl⟩
      have hb6 : Blk w6 (G + 1) 49 (resA ⟨0, [], 0⟩) := by rw [hw6]; exact HO.out.res.keep (((Keep.refl (fun j => j ≠ g) W).setCell (fun _ h => h rfl) _).drew) hgR
      rw [← hw6] at h2
      have H4 := Lib.hid (And.intro h2 hb6)
      have HR6 := Lib.hid (res_facts hb6)
      have HW6 := Lib.hid hw6
      clear h2 hb6 hw6
      go_upto_region 14 with (fail)
      go_region_held3 (fun w' => w'.cell? ⟨d, 0, none⟩ = some (.slice (some ⟨g, 0, none⟩) n cp) ∧ w'.cell? ⟨G, 5, none⟩ = some (str v))
        (first | exact HK.out _ ((Keep.refl _ W).drew) | exact HK.out _ (((Keep.refl _ W).drew).setCell (fun _ h => h rfl) _))
        (fail)
      generalize hwN : World.drew _ = wN
      obtain rfl : w6 = wN := HW6.out.trans hwN
      clear hwN
      clear r0 r1 r2 s0 s1 s2 rl
      obtain ⟨r0, r1, r2, s0, s1, s2, rl⟩ := HR6.out
      go_wp2_with fail
      rw [HE.out]
      exact dop_ret (w := w) rfl rfl rfl ⟨⟨_, _, _, _, H4.out.1.1, fun j hj => .inl hj⟩, H4.out.1.2⟩ H4.out.2 (by have := HO.out.sz; omega)
    · have HE : Hid (X = (⟨1, u, 1⟩, s)) := Lib.hid (by rw [HE1.out]; simp)
      clear HE1
      go_wp2_with fail
      refine Calls.mono HKA.out ?_
      rintro e _ ⟨rfl, rfl⟩
      go_wp2_with fail
      rw [HE.out]
      exact dop_ret (w := w) rfl rfl rfl (HA.out.1.stay' HO.out.fresh) HO.out.res (by have := HO.out.sz; omega)
    · by_cases he : u = ol
      · subst he
        have HE : Hid (X = (⟨1, u, 1⟩, { s with pairs := s.pairs.set i0 (k, v) })) := Lib.hid (by rw [HE1.out]; simp)
        clear HE1
        go_wp2_with fail
        refine Calls.mono HKA.out ?_
        rintro e _ ⟨rfl, rfl⟩
        have HK : Hid (∀ w', Keep (fun j => j ≠ g) W w' → w'.cell? ⟨d, 0, none⟩ = some (.slice (some ⟨g, 0, none⟩) n cp) ∧ w'.cell? ⟨G, 5, none⟩ = some (str v)) := Lib.hid fun w' hk => ⟨hk.cellAt x0 hgd, hk.cellAt k5 hgG⟩
        have h2 : DAt B F (World.drew (W.setCell ⟨g, i0 * 2 + 1, none⟩ (str v))) d (.slice (some ⟨g, 0, none⟩) n cp) hv hs { s with pairs := s.pairs.set i0 (k, v) } ∧ Keep (fun j => ¬ F j) w (World.drew (W.setCell ⟨g, i0 * 2 + 1, none⟩ (str v))) := ⟨(HSet.out W v (Keep.refl _ W)).1.fresh ((Keep.refl _ _).drew), (HSet.out W v (Keep.refl _ W)).2.drew⟩
        obtain ⟨w6, hw6⟩ : ∃ w6, w6 = World.drew (W.setCell ⟨g, i0 * 2 + 1, none⟩ (str v)) := ⟨_, rfl⟩
        have hb6 : Blk w6 (G + 1) 49 (resA ⟨0, [], 0⟩) := by rw [hw6]; exact HO.out.res.keep (((Keep.refl (fun j => j ≠ g) W).setCell (fun _ h => h rfl) _).drew) hgR
        rw [← hw6] at h2
        have H4 := Lib.hid (And.intro h2 hb6)
        have HR6 := Lib.hid (res_facts hb6)
        have HW6 := Lib.hid hw6
        clear h2 hb6 hw6
        go_upto_region 18 with (fail)
        go_region_held3 (fun w' => w'.cell? ⟨d, 0, none⟩ = some (.slice (some ⟨g, 0, none⟩) n cp) ∧ w'.cell? ⟨G, 5, none⟩ = some (str v))
          (first | exact HK.out _ ((Keep.refl _ W).drew) | exact HK.out _ (((Keep.refl _ W).drew).setCell (fun _ h => h rfl) _))
          (fail)
        generalize hwN : World.drew _ = wN
        obtain rfl : w6 = wN := HW6.out.trans hwN
        clear hwN
        clear r0 r1 r2 s0 s1 s2 rl
        obtain ⟨r0, r1, r2, s0, s1, s2, rl⟩ := HR6.out
        go_wp2_with fail
        rw [HE.out]
        exact dop_ret (w := w) rfl rfl rfl ⟨⟨_, _, _, _, H4.out.1.1, fun j hj => .inl hj⟩, H4.out.1.2⟩ H4.out.2 (by have := HO.out.sz; omega)
      · have HE : Hid (X = (⟨3, u, 1⟩, s)) := Lib.hid (by rw [HE1.out]; simp [he])
        have hb : (!(u == ol)) = true := by simpa using he
        clear HE1
        go_wp2_with fail
        refine Calls.mono HKA.out ?_
        rintro e _ ⟨rfl, rfl⟩
        go_wp2_with fail
        rw [HE.out]
        exact dop_ret (w := w) rfl rfl rfl (HA.out.1.stay' HO.out.fresh) HO.out.res (by have := HO.out.sz; omega)
    · have HE : Hid (X = (⟨1, u, 1⟩, { s with pairs := s.pairs.eraseIdx i0 })) := Lib.hid (by rw [HE1.out]; simp)
      clear HE1
      go_wp2_with fail
      refine Calls.mono HKA.out ?_
      rintro e _ ⟨rfl, rfl⟩
      go_wp2_with fail
      go_loopw [7, 8] (fun v7 iv wr => ∃ j : Nat, j ≤ n ∧ iv = .int .i64 (j : Int) ∧ Hid (wr.ownsRow W.heap.size 222 2 v7 ((s.pairs.take j).eraseIdx i0).length (pcells ((s.pairs.take j).eraseIdx i0)) ∧ Fresh W wr)) (fun _ i _ => n - (intOf i).toNat)
      case atStart => exact ⟨0, by omega, rfl, Lib.hid ⟨by exact World.ownsRow_nil _ _ _ _, Keep.refl _ _⟩⟩
      case round =>
        rename World => wr
        obtain ⟨j, hj, rfl, HR⟩ := hrel
        have hfr := HR.out.2
        have x0 := hfr.cellAt x0 trivial
        have ldr := Nat.lt_of_lt_of_le ld hfr.size
        by_cases hlt : j < n
        · obtain ⟨hjl, b8, o8, e8, -, d0, d1⟩ := (Blk.rdOwn HA.out.2.2.2.2.2.2).pairE hlt
          injection e8 with e8
          injection e8 with e8 e80
          subst e8 e80
          rw [Nat.zero_add] at d0 d1
          obtain ⟨⟨kk, vv⟩, hy⟩ : ∃ y, y = s.pairs[j] := ⟨_, rfl⟩
          rw [← hy] at d0 d1
          simp only at d0 d1
          have d0 := hfr.cellAt d0 trivial
          have d1 := hfr.cellAt d1 trivial
          have lg := lt_of_cell d0
          have hji : (j : Int) < (n : Int) := by omega
          by_cases hij : j = i0
          · subst hij
            have HT : Hid ((s.pairs.take (j + 1)).eraseIdx j = (s.pairs.take j).eraseIdx j) := Lib.hid (erase_skip hjl)
            clear hy hjl hfr
            go_wp2_with fail
            exact ⟨⟨j + 1, by omega, by simp, Lib.hid ⟨by rw [HT.out]; exact HR.out.1, HR.out.2⟩⟩, by simp only [intOf]; omega⟩
          · have HT : Hid ((s.pairs.take (j + 1)).eraseIdx i0 = (s.pairs.take j).eraseIdx i0 ++ [(kk, vv)]) := Lib.hid (by rw [erase_step hjl hij, ← hy])
            have HLn : Hid (((s.pairs.take j).eraseIdx i0).length ≤ 100) := Lib.hid (by
              have := List.length_eraseIdx_le (s.pairs.take j) i0
              have := List.length_take_le j s.pairs
              have := List.length_take (l := s.pairs) (i := j)
              omega)
            have hb : (!((j : Int) == (i0 : Int))) = true := by simp; omega
            clear hy hjl hfr
            go_wp2_with (at_builtin; refine wpList_appB etPair rfl (.tmp 100) (.tmp 108) rfl #[str kk, str vv] 222 rfl (pair_one kk vv) W.heap.size _ _ _ wr.heap.size rfl rfl rfl HR.out.1 (by have := HLn.out; omega) HR.out.2.size ?_)
            intro v5 w5 ho5 hk5 hn5
            have H5 : Hid (w5.ownsRow W.heap.size 222 2 v5 ((s.pairs.take (j + 1)).eraseIdx i0).length (pcells ((s.pairs.take (j + 1)).eraseIdx i0)) ∧ Fresh W w5) := Lib.hid ⟨by
              rw [HT.out]
              simpa [pcells, rcells_append, rcells_cons, rcells_nil, pairC] using ho5, HR.out.2.comp hk5 (fun _ _ h => h) (fun i hi _ e => by have := (own_lt HR.out.1 e).1; omega)⟩
            clear ho5 hk5 hn5
            go_wp2_with fail
            exact ⟨⟨j + 1, by omega, by simp, H5⟩, by simp only [intOf]; omega⟩
        · obtain rfl : n = j := by omega
          have hall : s.pairs.take n = s.pairs := List.take_of_length_le (by rw [HA.out.2.2.2.2.2.1]; exact Nat.le_refl _)
          have ho := HR.out.1
          rw [hall] at ho
          obtain ⟨A5, c5, rfl, -⟩ := own_rd ho
          have hD := HA.out.1.setPairs hfr (Nat.le_trans HA.out.2.2.2.1 HO.out.fresh.size) ho
          have z0 := (HA.out.1.fresh hfr).blk.frozen 0
          have hRd : G + 1 ≠ d := HO.out.res.ne HA.out.1.blk (by decide)
          have hb5 := (HO.out.res.keep hfr trivial).far (p := ⟨d, 0, none⟩) hRd (.slice A5 (s.pairs.eraseIdx i0).length c5)
          have hst : DStep B F w d { s with pairs := s.pairs.eraseIdx i0 } (wr.setCell ⟨d, 0, none⟩ (.slice A5 (s.pairs.eraseIdx i0).length c5)) := ⟨⟨_, _, _, _, hD, fun j hj => hj.imp id fun e => by have := (own_lt ho e).1; have := HO.out.fresh.size; omega⟩, ((HO.out.fresh.then hfr).weaken fun _ _ _ => trivial).setCell (fun _ h => h HA.out.1.fd) _⟩
          obtain ⟨w6, hw6⟩ : ∃ w6, w6 = wr.setCell ⟨d, 0, none⟩ (.slice A5 (s.pairs.eraseIdx i0).length c5) := ⟨_, rfl⟩
          rw [← hw6] at hb5 hst
          obtain ⟨r0, r1, r2, s0, s1, s2, rl⟩ := res_facts hb5
          have H4 := Lib.hid (And.intro hst hb5)
          clear hall ho hD hfr hst hb5
          go_upto_region 36 with (fail)
          rw [← hw6]
          clear hw6
          go_wp2_with fail
          rw [HE.out]
          exact dop_ret (w := w) rfl rfl rfl H4.out.1 H4.out.2 (by have := HO.out.sz; omega)
    · have hvn := rnum_numb (hv5 rfl)
      have HN1 := Lib.hid (rnumber_any u W)
      have HN2 := Lib.hid (rnumber_any v W)
      rw [hvn] at HN2
      have hr1 : rnum u = (if (numb u).2 = true then (numb u).1 else 0, (numb u).2) := rnum_eq u
      rw [hr1] at HN1
      have hb1 := numb_bound u
      have hb2 := numb_bound v
      obtain ⟨na, hna⟩ : ∃ x, x = (numb u).1 := ⟨_, rfl⟩
      obtain ⟨nb, hnb⟩ : ∃ x, x = (numb v).1 := ⟨_, rfl⟩
      obtain ⟨fa, hfa⟩ : ∃ x, x = (numb u).2 := ⟨_, rfl⟩
      rw [← hna] at hb1
      rw [← hnb] at hb2
      rw [← hna, ← hfa] at HN1
      rw [← hnb] at HN2
      rw [← hna, ← hnb, ← hfa] at HE1
      clear hvn hr1 hna hnb hfa hv5
      cases fa
      · have HE : Hid (X = (⟨5, u, 1⟩, s)) := Lib.hid (by rw [HE1.out]; simp)
        clear HE1
        go_wp2_with fail
        refine Calls.mono HKA.out ?_
        rintro e _ ⟨rfl, rfl⟩
        go_wp2_with fail
        refine Calls.mono HN1.out ?_
        rintro e _ ⟨rfl, rfl⟩
        go_wp2_with fail
        refine Calls.mono HN2.out ?_
        rintro e _ ⟨rfl, rfl⟩
        go_wp2_with fail
        rw [HE.out]
        exact dop_ret (w := w) rfl rfl rfl (HA.out.1.stay' HO.out.fresh) HO.out.res (by have := HO.out.sz; omega)
      · have hwr : IntKind.i64.wrap (na + nb) = na + nb := by rw [IntKind.wrap_i64]; omega
        have hit := itoa_long (na + nb)
        by_cases hov : na + nb < -9999999 ∨ 99999999 < na + nb
        · have HE : Hid (X = (⟨6, u, 1⟩, s)) := Lib.hid (by rw [HE1.out]; simp [hit.2 hov])
          clear HE1 hit
          have hcs : na + nb < -9999999 ∨ (¬ na + nb < -9999999 ∧ 99999999 < na + nb) := by omega
          rcases hcs with h1 | ⟨h1, h2⟩
          all_goals
            go_wp2_with fail
            refine Calls.mono HKA.out ?_
            rintro e _ ⟨rfl, rfl⟩
            go_wp2_with fail
            refine Calls.mono HN1.out ?_
            rintro e _ ⟨rfl, rfl⟩
            go_wp2_with fail
            refine Calls.mono HN2.out ?_
            rintro e _ ⟨rfl, rfl⟩
            go_wp2_with fail
            rw [HE.out]
            exact dop_ret (w := w) rfl rfl rfl (HA.out.1.stay' HO.out.fresh) HO.out.res (by have := HO.out.sz; omega)
        · obtain ⟨tx, htx⟩ : ∃ tx, tx = Lib.itoa (na + nb) := ⟨_, rfl⟩
          have HE : Hid (X = (⟨1, tx, 1⟩, { s with pairs := s.pairs.set i0 (k, tx) })) := Lib.hid (by rw [HE1.out, if_neg (by decide), if_neg (by decide), if_neg (by decide), if_pos rfl, if_neg (by simp), if_neg (fun h => hov (hit.1 h)), htx])
          have HIt := Lib.hid (fun (w' : World) (hf : Fresh W w') => itoa_any (na + nb) (by omega) (by omega) w' (HA.out.2.2.2.2.1 w' ((HO.out.fresh.then hf).weaken fun _ _ _ => trivial)))
          rw [← htx] at HIt
          have HTx := Lib.hid htx
          have h1 : ¬ na + nb < -9999999 := by omega
          have h2 : ¬ 99999999 < na + nb := by omega
          clear HE1 hit htx hov
          go_wp2_with fail
          refine Calls.mono HKA.out ?_
          rintro e _ ⟨rfl, rfl⟩
          go_wp2_with fail
          refine Calls.mono HN1.out ?_
          rintro e _ ⟨rfl, rfl⟩
          go_wp2_with fail
          refine Calls.mono HN2.out ?_
          rintro e _ ⟨rfl, rfl⟩
          go_upto_region 34 with (fail)
          go_cut [] (fun wz => Hid (∃ w2, Fresh W w2 ∧ wz = w2.setCell ⟨g, i0 * 2 + 1, none⟩ (str tx)))
          case first =>
            have HK : Hid (∀ w', Keep (fun j => j ≠ g) W w' → w'.cell? ⟨d, 0, none⟩ = some (.slice (some ⟨g, 0, none⟩) n cp)) := Lib.hid fun w' hk => hk.cellAt x0 hgd
            have hd0 : Hid (Fresh W W.drew) := Lib.hid ((Keep.refl _ W).drew)
            go_region_held3 (fun w' => w'.cell? ⟨d, 0, none⟩ = some (.slice (some ⟨g, 0, none⟩) n cp))
              (first | exact HK.out _ ((Keep.refl _ W).drew) | exact HK.out _ (hfa.weaken fun _ _ _ => trivial) | exact HK.out _ ((hfa.weaken fun _ _ _ => trivial).setCell (fun _ h => h rfl) _))
              (first
                | (go_at_call 88; (with_reducible refine Calls.mono (HIt.out _ hd0.out) ?_); rintro e wa ⟨rfl, hfb⟩; have hfa := hd0.out.then hfb; have c1a := hfa.cellAt c1 trivial; have f1a := (hfa.frozen (p := ⟨g, i0 * 2 + 1, none⟩) (lt_of_cell c1) trivial).trans f1; have lga := lt_of_cell c1a))
            all_goals
              go_wp2_with fail
              go_meet
              exact Lib.hid ⟨_, hfa, rfl⟩
          case rest =>
          rename World => wz
          obtain ⟨w2, hf2, hwz⟩ := hcut.out
          have hk2 : Keep (fun j => j ≠ g) W wz := by rw [hwz]; exact (hf2.weaken fun _ _ _ => trivial).setCell (fun _ h => h rfl) _
          have h2 := HSet.out w2 tx hf2
          rw [← hwz] at h2
          have HIt2 := Lib.hid (itoa_any (na + nb) (by omega) (by omega) wz (HA.out.2.2.2.2.1 wz h2.2))
          rw [← HTx.out] at HIt2
          have hbz := HO.out.res.keep hk2 hgR
          have HZ := Lib.hid (And.intro h2 hbz)
          clear h2 hbz hk2 hcut hwz
          go_wp2_with fail
          refine Calls.mono HIt2.out ?_
          rintro e w7 ⟨rfl, hf7⟩
          have hb7 := HZ.out.2.keep hf7 trivial
          obtain ⟨r0, r1, r2, s0, s1, s2, rl⟩ := res_facts hb7
          have hst : DStep B F w d { s with pairs := s.pairs.set i0 (k, tx) } w7 := DStep.fresh ⟨⟨_, _, _, _, HZ.out.1.1, fun j hj => .inl hj⟩, HZ.out.1.2⟩ hf7
          have H4 := Lib.hid (And.intro hst hb7)
          clear hst hb7 hf7
          go_wp2_with fail
          rw [HE.out]
          exact dop_ret (w := w) rfl rfl rfl H4.out.1 H4.out.2 (by have := HO.out.sz; omega)
end Go.Proofs.YtohnmaindbgngaaGreatDoor
