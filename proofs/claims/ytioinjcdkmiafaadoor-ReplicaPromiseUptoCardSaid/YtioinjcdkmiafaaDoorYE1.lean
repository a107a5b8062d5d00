/-
  MERGED: RepX RepY
-/
import Derived.Test.YtioinjcdkmiafaaDoorYE0
import Derived.Deep.RegionHeld3
import Derived.Lib.QuietBelow
namespace Go.Proofs.YtioinjcdkmiafaaDoor
set_option linter.unusedVariables false
set_option linter.unusedSimpArgs false
open Go.RowKit

theorem rd_next {u u' : World} {ov ov' : Value} {size n : Nat} {A : Option Addr} {xs : List Value} (h : Rd u (fun j => ov.ownBlock ≠ some j) size A n xs) (hs : 0 < size) (hk : Keep (fun j => ov.ownBlock ≠ some j) u u') (hn : Next u.heap.size ov ov') : Rd u' (fun j => ov'.ownBlock ≠ some j) size A n xs := by
  refine ⟨h.1, fun hp => ?_⟩
  obtain ⟨b, o, e, hz, hc⟩ := h.2 hp
  have hl : 0 < xs.length := by rw [h.1]; exact Nat.mul_pos hp hs
  have hb := lt_of_cell (hc 0 _ (List.getElem?_eq_getElem hl))
  refine ⟨b, o, e, ?_, fun j x hx => hk.cellAt (hc j x hx) hz⟩
  rcases hn with e2 | ⟨g, e2, hg⟩
  · rw [e2]; exact hz
  · rw [e2]
    intro e3
    injection e3 with e4
    have hb' : b < u.heap.size := hb
    omega
/-- The copies so far. -/
structure CRec (w0 : World) (ov : Value) (k : Nat) (cs hs : List RecV) (u : World) : Prop where
  len : cs.length = k
  own : u.ownsRow w0.heap.size 29 2 ov k (rcells RecV.cells cs)
  ok : ∀ x ∈ cs, ∃ A c, x.vb = .slice A x.d.body.length c ∧ x.d.body.length ≤ c ∧ (x.d.body.length = 0 → c = 0 ∨ A ≠ none) ∧ Rd u (fun j => ov.ownBlock ≠ some j) 1 A x.d.body.length (Lib.byteCells x.d.body)
  same : rdsOf cs = rdsOf (hs.take k)
  fr : Fresh w0 u
theorem CRec.step {w0 : World} {ov ov' : Value} {k : Nat} {cs hs : List RecV} {u u3 u4 : World} (h : CRec w0 ov k cs hs u) (hk : k < hs.length) {x : RecV} (hd : x.d = hs[k].d) {A2 : Option Addr} {c2 : Nat} (hx : x.vb = .slice A2 x.d.body.length c2) (hu3 : Fresh u u3) (ho2 : u3.ownsRow u.heap.size 5 1 (.slice A2 x.d.body.length c2) x.d.body.length (Lib.byteCells x.d.body)) (ho4 : u4.ownsRow w0.heap.size 29 2 ov' (k + 1) (rcells RecV.cells cs ++ x.cells)) (hk4 : Keep (fun j => ov.ownBlock ≠ some j) u3 u4) (hn : Next u3.heap.size ov ov') : CRec w0 ov' (k + 1) (cs ++ [x]) hs u4 := by
  refine ⟨by simp [h.len], by rw [rcells_append]; simpa [rcells] using ho4, fun y hy => ?_, ?_, (h.fr.trans hu3).comp hk4 (fun _ _ h => h) (fun j hj _ => own_ne_low h.own hj)⟩
  · rcases List.mem_append.1 hy with hy | hy
    · obtain ⟨A, c, e1, e2, e3, e4⟩ := h.ok y hy
      exact ⟨A, c, e1, e2, e3, rd_next (e4.keep (hu3.weaken fun _ _ _ => trivial)) (by decide) hk4 hn⟩
    · obtain rfl : y = x := by simpa using hy
      obtain ⟨A, c, e1, e2, -⟩ := own_rd ho2
      injection e1 with h1 h2 h3
      subst h1 h3
      have hc := own_cap6 ho2
      refine ⟨_, _, hx, hc.1, hc.2, rd_next (e2.weaken fun j hj e => ?_) (by decide) hk4 hn⟩
      have h1 := (own_lt ho2 hj).1
      have h2 := (own_lt h.own e).2
      omega
  · rw [List.take_succ_eq_append_getElem hk]
    have hs' := h.same
    unfold rdsOf at hs' ⊢
    rw [List.map_append, List.map_append, hs', List.map_singleton, List.map_singleton, hd]
/-- What 'records' answers. -/
def RecsPost (hs : List RecV) (n : Nat) (w : World) (e : Ending) (w' : World) : Prop :=
  (∃ A c hs', e = .returned (.slice A n c) ∧ n ≤ c ∧ rdsOf hs' = rdsOf hs ∧ Recs w' A n hs') ∧ Fresh w w'
theorem CRec.done {w0 : World} {A : Option Addr} {c k : Nat} {cs hs : List RecV} {u : World} (h : CRec w0 (.slice A k c) k cs hs u) (hk : k = hs.length) (hf : ∀ x ∈ hs, x.d.body.length ≤ 1048576) (hle : k ≤ 1048576) : RecsPost hs k w0 (.returned (.slice A k c)) u := by
  have hs' : rdsOf cs = rdsOf hs := by rw [h.same, hk, List.take_length]
  obtain ⟨A', c', e1, e2, -⟩ := own_rd h.own
  injection e1 with h1 h2 h3
  subst h1 h3
  refine ⟨⟨_, _, cs, rfl, (own_cap6 h.own).1, hs', h.len, e2.weaken fun _ _ => trivial, hle, fun x hx => ?_, fun x hx => ?_⟩, h.fr⟩
  · obtain ⟨A, c, e1, e2, e3, e4⟩ := h.ok x hx
    exact ⟨A, c, e1, e2, e3, e4.weaken fun _ _ => trivial⟩
  · have : x.d ∈ rdsOf cs := List.mem_map.2 ⟨x, hx, rfl⟩
    rw [hs'] at this
    obtain ⟨y, hy, e⟩ := List.mem_map.1 this
    rw [← e]
    exact hf y hy
theorem rec_info : (Tryd.prog.info? 29).map (fun i => (i.zero, i.size, i.bytes)) = some (some (.agg #[.int .i64 0, .slice none 0 0]), 2, 32) := by kernel_rfl
theorem etRec : ET Tryd.prog 22 29 2 32 (.agg #[.int .i64 0, .slice none 0 0]) := ⟨Tryd.underlying22, rec_info, rfl, by decide, by decide⟩
set_option maxRecDepth 20000 in
set_option maxHeartbeats 2000000 in
theorem records_any (A : Option Addr) (n c : Nat) (hs : List RecV) (w : World) (h : Recs w A n hs) :
    Calls Tryd.prog 4 #[.slice A n c] w (RecsPost hs n w) := by
  have H := Lib.hid h
  have hle := h.le
  clear h
  go_enter Tryd.func4, Tryd.ntmps4
  go_wp2_with fail
  go_loopw [3, 4] (fun ov iv wr => ∃ k : Nat, k ≤ n ∧ iv = .int .i64 (k : Int) ∧ ∃ Ao co, ov = .slice Ao k co ∧ Hid (∃ cs, CRec w ov k cs hs wr)) (fun _ i _ => n - (intOf i).toNat)
  case atStart => exact ⟨0, Nat.zero_le _, rfl, none, 0, rfl, Lib.hid ⟨[], rfl, World.ownsRow_nil _ _ _ _, fun _ h => (nomatch h), rfl, Keep.refl _ _⟩⟩
  case round =>
    rename World => wr
    obtain ⟨k, hk, rfl, Ao, co, rfl, HC⟩ := hrel
    by_cases hlt : k < n
    · obtain ⟨cs, hcs⟩ := HC.out
      obtain ⟨b, o, Ab, cb, hl, hA, k0, k1, hbc, hbn, hbr, hbf⟩ := (H.out.keep hcs.fr).at1 hlt
      subst hA
      have hbo : b < w.heap.size := by
        obtain ⟨b', o', e', hz', -⟩ := (H.out.rd.old (by decide)).2 (by omega)
        injection e' with e2
        injection e2 with e3 e4
        omega
      obtain ⟨kd, hkd⟩ : ∃ z, z = hs[k].d.kind := ⟨_, rfl⟩
      obtain ⟨bs, hbs⟩ : ∃ z, z = hs[k].d.body := ⟨_, rfl⟩
      have hrc : (⟨kd, bs⟩ : RecD) = hs[k].d := by rw [hkd, hbs]
      rw [← hkd] at k0
      rw [← hbs] at k1 hbc hbn hbr hbf
      have HR := Lib.hid (And.intro hcs (And.intro hl (And.intro hrc (And.intro hbn hbr))))
      have HBo := Lib.hid hbo
      have lb := lt_of_cell k0
      have hki : (k : Int) < (n : Int) := by omega
      have hn : n ≤ 1048576 := hle
      clear HC hkd hbs hrc hbn hbr hcs hbo
      go_upto_region 5 with (fail)
      refine wp_region_held_drew (S := fun w' => w'.cell? ⟨b, o + k * 2, none⟩ = some (.int .i64 kd) ∧ w'.cell? ⟨b, o + k * 2 + 1, none⟩ = some (.slice Ab bs.length cb)) (by kernel_rfl) ⟨k0, k1⟩ (fun hHeld => ?_)
      refine wpAnyH_take (i := 0) (v := .slice Ao k co) rfl (by kernel_rfl) (by kernel_rfl) (by kernel_rfl) (fun _ _ _ h => h) (Or.inl ⟨by kernel_rfl, by intro w hSw; obtain ⟨s0, s1⟩ := hSw; have sb := lt_of_cell s0; go_simp⟩) hHeld ?_
      simp only [Act.put, List.getElem_toArray, List.getElem_cons_zero, List.getElem_cons_succ, List.setIfInBounds_toArray, List.set_cons_zero, List.set_cons_succ]
      refine wpAnyH_take (i := 1) (v := .slice (some ⟨b, o, none⟩) n c) rfl (by kernel_rfl) (by kernel_rfl) (by kernel_rfl) (fun _ _ _ h => h) (Or.inl ⟨by kernel_rfl, by intro w hSw; obtain ⟨s0, s1⟩ := hSw; have sb := lt_of_cell s0; go_simp⟩) hHeld ?_
      simp only [Act.put, List.getElem_toArray, List.getElem_cons_zero, List.getElem_cons_succ, List.setIfInBounds_toArray, List.set_cons_zero, List.set_cons_succ]
      refine wpAnyH_take (i := 2) (v := .int .i64 (k : Int)) rfl (by kernel_rfl) (by kernel_rfl) (by kernel_rfl) (fun _ _ _ h => h) (Or.inl ⟨by kernel_rfl, by intro w hSw; obtain ⟨s0, s1⟩ := hSw; have sb := lt_of_cell s0; go_simp⟩) hHeld ?_
      simp only [Act.put, List.getElem_toArray, List.getElem_cons_zero, List.getElem_cons_succ, List.setIfInBounds_toArray, List.set_cons_zero, List.set_cons_succ]
      refine wpAnyH_take (i := 3) (v := .pointer (some ⟨b, o + k * 2, none⟩)) rfl (by kernel_rfl) (by kernel_rfl) (by kernel_rfl) (fun _ _ _ h => h) (Or.inl ⟨by kernel_rfl, by intro w hSw; obtain ⟨s0, s1⟩ := hSw; have sb := lt_of_cell s0; go_simp⟩) hHeld ?_
      simp only [Act.put, List.getElem_toArray, List.getElem_cons_zero, List.getElem_cons_succ, List.setIfInBounds_toArray, List.set_cons_zero, List.set_cons_succ]
      refine wpAnyH_take (i := 4) (v := .pointer (some ⟨b, o + k * 2, none⟩)) rfl (by kernel_rfl) (by kernel_rfl) (by kernel_rfl) (fun _ _ _ h => h) (Or.inl ⟨by kernel_rfl, by intro w hSw; obtain ⟨s0, s1⟩ := hSw; have sb := lt_of_cell s0; go_simp⟩) hHeld ?_
      simp only [Act.put, List.getElem_toArray, List.getElem_cons_zero, List.getElem_cons_succ, List.setIfInBounds_toArray, List.set_cons_zero, List.set_cons_succ]
      refine wpAnyH_take (i := 5) (v := .int .i64 kd) rfl (by kernel_rfl) (by kernel_rfl) (by kernel_rfl) (fun _ _ _ h => h) (Or.inl ⟨by kernel_rfl, by intro w hSw; obtain ⟨s0, s1⟩ := hSw; have sb := lt_of_cell s0; go_simp⟩) hHeld ?_
      simp only [Act.put, List.getElem_toArray, List.getElem_cons_zero, List.getElem_cons_succ, List.setIfInBounds_toArray, List.set_cons_zero, List.set_cons_succ]
      refine wpAnyH_take (i := 7) (v := .slice (some ⟨b, o, none⟩) n c) rfl (by kernel_rfl) (by kernel_rfl) (by kernel_rfl) (fun _ _ _ h => h) (Or.inl ⟨by kernel_rfl, by intro w hSw; obtain ⟨s0, s1⟩ := hSw; have sb := lt_of_cell s0; go_simp⟩) hHeld ?_
      simp only [Act.put, List.getElem_toArray, List.getElem_cons_zero, List.getElem_cons_succ, List.setIfInBounds_toArray, List.set_cons_zero, List.set_cons_succ]
      refine wpAnyH_take (i := 8) (v := .int .i64 (k : Int)) rfl (by kernel_rfl) (by kernel_rfl) (by kernel_rfl) (fun _ _ _ h => h) (Or.inl ⟨by kernel_rfl, by intro w hSw; obtain ⟨s0, s1⟩ := hSw; have sb := lt_of_cell s0; go_simp⟩) hHeld ?_
      simp only [Act.put, List.getElem_toArray, List.getElem_cons_zero, List.getElem_cons_succ, List.setIfInBounds_toArray, List.set_cons_zero, List.set_cons_succ]
      refine wpAnyH_take (i := 9) (v := .pointer (some ⟨b, o + k * 2, none⟩)) rfl (by kernel_rfl) (by kernel_rfl) (by kernel_rfl) (fun _ _ _ h => h) (Or.inl ⟨by kernel_rfl, by intro w hSw; obtain ⟨s0, s1⟩ := hSw; have sb := lt_of_cell s0; go_simp⟩) hHeld ?_
      simp only [Act.put, List.getElem_toArray, List.getElem_cons_zero, List.getElem_cons_succ, List.setIfInBounds_toArray, List.set_cons_zero, List.set_cons_succ]
      refine wpAnyH_take (i := 10) (v := .pointer (some ⟨b, o + k * 2 + 1, none⟩)) rfl (by kernel_rfl) (by kernel_rfl) (by kernel_rfl) (fun _ _ _ h => h) (Or.inl ⟨by kernel_rfl, by intro w hSw; obtain ⟨s0, s1⟩ := hSw; have sb := lt_of_cell s0; go_simp⟩) hHeld ?_
      simp only [Act.put, List.getElem_toArray, List.getElem_cons_zero, List.getElem_cons_succ, List.setIfInBounds_toArray, List.set_cons_zero, List.set_cons_succ]
      refine wpAnyH_take (i := 11) (v := .slice Ab bs.length cb) rfl (by kernel_rfl) (by kernel_rfl) (by kernel_rfl) (fun _ _ _ h => h) (Or.inl ⟨by kernel_rfl, by intro w hSw; obtain ⟨s0, s1⟩ := hSw; have sb := lt_of_cell s0; go_simp⟩) hHeld ?_
      simp only [Act.put, List.getElem_toArray, List.getElem_cons_zero, List.getElem_cons_succ, List.setIfInBounds_toArray, List.set_cons_zero, List.set_cons_succ]
      refine wpAnyH_ready (rs := [6]) (by kernel_rfl) (by simp) ?_
      refine AllReadyH.cons rfl (fun K hK => ?_) AllReadyH.nil
      have hk1 : Fresh wr (wr.drew.alloc (.cells #[] 5)) := (Keep.refl (fun _ => True) wr).drew.alloc _
      have hO : (wr.drew.alloc (.cells #[] 5)).ownsRow wr.heap.size 5 1 (.slice (some ⟨wr.heap.size, 0, none⟩) 0 0) 0 [] :=
        ⟨rfl, .inr ⟨wr.heap.size, 0, #[], rfl, Nat.le_refl _, heap_alloc_new wr.drew _, Nat.le_refl _, by simp only [maxLen]; omega, rfl, rfl⟩⟩
      have HO := Lib.hid (And.intro hO hk1)
      have hc1 := hk1.cellAt k0 trivial
      have hc2 := hk1.cellAt k1 trivial
      clear hO hk1
      go_simp
      refine hK.out _ _ ⟨hc1, hc2⟩ (fun hHeld => ?_)
      clear hK K
      refine wpAnyH_ready (rs := [12]) (by kernel_rfl) (by simp) ?_
      clear hHeld hc1 hc2
      refine AllReadyH.cons rfl (fun K hK => ?_) AllReadyH.nil
      refine step_app etU8 rfl (.tmp 17) (.tmp 22) rfl wr.heap.size _ 0 [] rfl HO.out.1 (fun _ => True) Ab bs.length cb _ rfl (HR.out.2.2.2.2.keep HO.out.2) HR.out.2.2.2.1 (bcs_one _) (by omega) HO.out.2.size ?_
      intro v2 w2 ho2 hk2 hn2
      rw [Nat.zero_add, List.nil_append] at ho2
      obtain ⟨A2, c2, rfl, -, -⟩ := own_rd ho2
      have hf2 : Fresh wr w2 := HO.out.2.comp hk2 (fun _ _ h => h) (fun i hi _ e => own_ne_low HO.out.1 hi e)
      have hc1 := hf2.cellAt k0 trivial
      have hc2 := hf2.cellAt k1 trivial
      have H2 := Lib.hid (And.intro ho2 hf2)
      clear ho2 hk2 hn2 hf2 HO
      refine hK.out _ _ ⟨hc1, hc2⟩ (fun hHeld => ?_)
      clear hK K
      try simp only [Act.put, List.getElem_toArray, List.getElem_cons_zero, List.getElem_cons_succ, List.setIfInBounds_toArray, List.set_cons_zero, List.set_cons_succ]
      refine wpAnyH_take (i := 13) (v := .agg #[.int .i64 kd, .slice A2 bs.length c2]) rfl (by kernel_rfl) (by kernel_rfl) (by kernel_rfl) (fun _ _ _ h => h) (Or.inl ⟨by kernel_rfl, by intro w hSw; go_simp⟩) hHeld ?_
      simp only [Act.put, List.getElem_toArray, List.getElem_cons_zero, List.getElem_cons_succ, List.setIfInBounds_toArray, List.set_cons_zero, List.set_cons_succ]
      refine wpAnyH_ready (rs := [14]) (by kernel_rfl) (by simp) ?_
      clear hHeld
      refine AllReadyH.cons rfl (fun K hK => ?_) AllReadyH.nil
      have hk3 : Fresh w2 (w2.alloc (.cells #[.int .i64 kd, .slice A2 bs.length c2] 29)) := (Keep.refl (fun _ => True) w2).alloc _
      have h3 : CRec w (.slice Ao k co) k cs hs wr := HR.out.1
      have hf3 := H2.out.2.trans hk3
      have hrow3 := own_keep h3.own hf3 (fun _ _ => trivial)
      have hrd3 := Rd.one_of (size := 2) (Blk.new w2 29 #[.int .i64 kd, .slice A2 bs.length c2]) rfl
      have H3 := Lib.hid (And.intro hrow3 (And.intro hrd3 (And.intro hf3 (And.intro (own_keep H2.out.1 hk3 (fun _ _ => trivial)) (Nat.le_trans h3.fr.size hf3.size)))))
      have hd1 := hf3.cellAt k0 trivial
      have hd2 := hf3.cellAt k1 trivial
      clear hk3 h3 hf3 hrow3 hrd3
      go_simp
      refine hK.out _ _ ⟨hd1, hd2⟩ (fun hHeld => ?_)
      clear hK K hc1 hc2
      refine wpAnyH_ready (rs := [15]) (by kernel_rfl) (by simp) ?_
      clear hHeld
      refine AllReadyH.cons rfl (fun K hK => ?_) AllReadyH.nil
      refine step_app etRec rfl (.tmp 11) (.tmp 25) rfl w.heap.size (.slice Ao k co) k _ rfl H3.out.1 (fun _ => True) (some ⟨w2.heap.size, 0, none⟩) 1 1 [.int .i64 kd, .slice A2 bs.length c2] rfl (H3.out.2.1.weaken fun _ _ => trivial) (fun h => Nat.noConfusion h) (by simp [Value.oneCell']) (by omega) H3.out.2.2.2.2 ?_
      intro v4 w4 ho4 hk4 hn4
      obtain ⟨A4, c4, rfl, -, -⟩ := own_rd ho4
      have hbne : (Value.slice Ao k co).ownBlock ≠ some b := by
        intro e
        have h1 := (own_lt HR.out.1.own e).1
        have h2 := HBo.out
        omega
      have he1 := hk4.cellAt hd1 hbne
      have he2 := hk4.cellAt hd2 hbne
      have HN : Hid (CRec w (.slice A4 (k + 1) c4) (k + 1) (cs ++ [⟨⟨kd, bs⟩, .slice A2 bs.length c2⟩]) hs w4) := Lib.hid (HR.out.1.step (x := ⟨⟨kd, bs⟩, .slice A2 bs.length c2⟩) hl HR.out.2.2.1 rfl H3.out.2.2.1 H3.out.2.2.2.1 ho4 hk4 hn4)
      clear ho4 hk4 hn4 hbne hd1 hd2
      refine hK.out _ _ ⟨he1, he2⟩ (fun hHeld => ?_)
      clear hK K
      try simp only [Act.put, List.getElem_toArray, List.getElem_cons_zero, List.getElem_cons_succ, List.setIfInBounds_toArray, List.set_cons_zero, List.set_cons_succ]
      refine wpAnyH_take (i := 16) (v := .slice A4 (k + 1) c4) rfl (by kernel_rfl) (by kernel_rfl) (by kernel_rfl) (fun _ _ _ h => h) (Or.inl ⟨by kernel_rfl, by intro w hSw; go_simp⟩) hHeld ?_
      simp only [Act.put, List.getElem_toArray, List.getElem_cons_zero, List.getElem_cons_succ, List.setIfInBounds_toArray, List.set_cons_zero, List.set_cons_succ]
      refine wpAnyH_done (by kernel_rfl) ?_ _
      clear hHeld he1 he2 k0 k1 lb
      have hk1 : IntKind.i64.wrap ((k : Int) + 1) = (k : Int) + 1 := by rw [IntWalk.i64_in _ (by omega)]
      go_wp2_with fail
      exact ⟨⟨k + 1, by omega, rfl, _, _, rfl, Lib.hid ⟨_, HN.out⟩⟩, by simp [intOf]; omega⟩
    · obtain rfl : k = n := by omega
      have HX := Lib.hid (fun (z : True) => HC.out)
      clear HC hlt
      go_wp2_with fail
      go_ret
      obtain ⟨cs, hcs⟩ := HX.out trivial
      exact hcs.done H.out.len.symm H.out.fit hle
end Go.Proofs.YtioinjcdkmiafaaDoor
namespace Go.Proofs.YtioinjcdkmiafaaDoor
set_option linter.unusedVariables false
set_option linter.unusedSimpArgs false
open Go.RowKit

set_option maxRecDepth 20000 in
set_option maxHeartbeats 1000000 in
theorem samerec_any (A1 A2 : Option Addr) (n c1 c2 : Nat) (kd : Int) (bs : Txt) (w : World) (h1 : Rd w (fun _ => True) 1 A1 n (Lib.byteCells bs)) (h2 : Rd w (fun _ => True) 1 A2 n (Lib.byteCells bs)) :
    Calls Tryd.prog 12 #[.agg #[.int .i64 kd, .slice A1 n c1], .agg #[.int .i64 kd, .slice A2 n c2]] w fun e w' => e = .returned (.bool true) ∧ Fresh w w' := by
  have H := Lib.hid (And.intro h1 h2)
  clear h1 h2
  go_enter Tryd.func12, Tryd.ntmps12
  go_upto_region 1 with (fail)
  generalize hW : (w.alloc (.cells #[.int .i64 kd, .slice A1 n c1] 29)).alloc (.cells #[.int .i64 kd, .slice A2 n c2] 29) = W
  have hf : Fresh w W := hW ▸ ((Keep.refl _ w).alloc _).alloc _
  have b1 : Blk W w.heap.size 29 #[.int .i64 kd, .slice A1 n c1] := hW ▸ (Blk.new w _ _).alloc _
  have b2 : Blk W (w.heap.size + 1) 29 #[.int .i64 kd, .slice A2 n c2] := by
    have h := Blk.new (w.alloc (.cells #[.int .i64 kd, .slice A1 n c1] 29)) 29 #[.int .i64 kd, .slice A2 n c2]
    rw [World.size_alloc] at h
    exact hW ▸ h
  have y0 : W.cell? ⟨w.heap.size, 0, none⟩ = some (.int .i64 kd) := b1.cell 0
  have y1 : W.cell? ⟨w.heap.size, 1, none⟩ = some (.slice A1 n c1) := b1.cell 1
  have z0 : W.cell? ⟨w.heap.size + 1, 0, none⟩ = some (.int .i64 kd) := b2.cell 0
  have z1 : W.cell? ⟨w.heap.size + 1, 1, none⟩ = some (.slice A2 n c2) := b2.cell 1
  have l1 := b1.lt
  have l2 := b2.lt
  have C1 := run_conv_str (P := Tryd.prog) Tryd.underlying27 Tryd.underlying5 Tryd.underlying9 (H.out.1.keep hf) c1
  have C2 := run_conv_str (P := Tryd.prog) Tryd.underlying27 Tryd.underlying5 Tryd.underlying9 (H.out.2.keep hf) c2
  have HF := Lib.hid hf
  clear hW hf b1 b2
  go_wp2_with fail
  go_ret
  exact ⟨rfl, HF.out⟩

theorem fresh_regrown (w : World) (d : Nat) (os : Array Obj) : Fresh w (Go.Sort.grow (redrawn w d) os) := Fresh.of_below (below_regrown w d os)
theorem wpQuiet_load_mid {P : Program} {ops : Array Oper} {C : World → Prop} {Q : Act → Prop} {a : Act} {o : Oper} {rest : List Oper} (hgd : o.guard = none) (ty : TypeId) (x : Operand) (ho : o.op = .load ty x) (b off : Nat) (hx : a.eval x = .pointer (some ⟨b, off, none⟩)) (cs : List Value) (d : TypeDesc)
    (hc : ∀ w, C w → w.rangeAt b off cs) (hu : P.underlying ty = some d) (hd : d.isRow = true) (hi : (P.info? ty).map (·.size) = some cs.length) (h : wpQuiet P ops C Q rest (a.put o.dst (.agg cs.toArray))) : wpQuiet P ops C Q (o :: rest) a := by
  unfold wpQuiet
  have hw : Region.wanted o (yielded ops a.tmps) = true := by simp [Region.wanted, hgd]
  rw [if_pos hw]
  refine ⟨_, fun w hw => ?_, h⟩
  unfold Oper.quietAt execOp
  simp only [ho, hx, Instr.loadAt, Instr.sureAddr, Sem.run_bind, Sem.run_pure, Result.andThen_ok, run_loadVar_mid w b off ty cs d (hc w hw) hu hd hi]
  exact ⟨rfl, rfl⟩
theorem rec_range {w : World} {b o : Nat} {v1 v2 : Value} (h1 : w.cell? ⟨b, o, none⟩ = some v1) (h2 : w.cell? ⟨b, o + 1, none⟩ = some v2) : w.rangeAt b o [v1, v2] := by
  intro j u hu
  match j, hu with
  | 0, hu => injection hu with e; rw [← e]; exact h1
  | 1, hu => injection hu with e; rw [← e]; exact h2
set_option maxRecDepth 20000 in
set_option maxHeartbeats 1000000 in
theorem samerecs_any (A1 A2 : Option Addr) (n c1 c2 : Nat) (hs ks : List RecV) (w : World) (h1 : Recs w A1 n hs) (h2 : Recs w A2 n ks) (hd : rdsOf hs = rdsOf ks) :
    Calls Tryd.prog 7 #[.slice A1 n c1, .slice A2 n c2] w fun e w' => e = .returned (.bool true) ∧ Fresh w w' := by
  have HA := Lib.hid (And.intro h1 (And.intro h2 hd))
  have hle := h1.le
  clear h1 h2 hd
  go_enter Tryd.func7, Tryd.ntmps7
  go_wp2_with fail
  go_loopw [5] (fun i wr => ∃ (k : Nat), k ≤ n ∧ i = .int .i64 (k : Int) ∧ Hid (Fresh w wr)) (fun i _ => n - (intOf i).toNat)
  case atStart => exact ⟨0, Nat.zero_le _, rfl, Lib.hid (Keep.refl _ _)⟩
  case round =>
    rename World => wr
    obtain ⟨k, hk, rfl, HW⟩ := hrel
    by_cases hlt : k < n
    · obtain ⟨b1, o1, Ab1, cb1, hl1, hA1, k10, k11, -, -, hr1, -⟩ := (HA.out.1.keep HW.out).at1 hlt
      obtain ⟨b2, o2, Ab2, cb2, hl2, hA2, k20, k21, -, -, hr2, -⟩ := (HA.out.2.1.keep HW.out).at1 hlt
      subst hA1 hA2
      have hde : ks[k].d = hs[k].d := by
        have := congrArg (fun l : List RecD => l[k]?) HA.out.2.2
        simpa [rdsOf, hl1, hl2] using this.symm
      rw [hde] at k20 k21 hr2
      obtain ⟨kd, hkd⟩ : ∃ z, z = hs[k].d.kind := ⟨_, rfl⟩
      obtain ⟨bs, hbs⟩ : ∃ z, z = hs[k].d.body := ⟨_, rfl⟩
      rw [← hkd] at k10 k20
      rw [← hbs] at k11 k21 hr1 hr2
      have HC := Lib.hid (fun (w' : World) (hw' : Fresh wr w') => samerec_any Ab1 Ab2 bs.length cb1 cb2 kd bs w' (hr1.keep hw') (hr2.keep hw'))
      have HC2 := Lib.hid (fun (q : Nat) (os : Array Obj) => Calls.regrown_of (w := wr) (d := q) (os := os) ((HC.out _ (fresh_regrown wr q os)).mono fun _ _ ⟨he, hf⟩ => ⟨he, hf.below⟩))
      have HR1 := Lib.hid (show ∀ w', (∃ p : Regrown, w' = Go.Sort.grow (redrawn wr p.d) p.os) → w'.rangeAt b1 (o1 + k * 2) [.int .i64 kd, .slice Ab1 bs.length cb1] from fun w' hw' => by
        obtain ⟨p, rfl⟩ := hw'
        exact rec_range ((fresh_regrown wr _ _).cellAt k10 trivial) ((fresh_regrown wr _ _).cellAt k11 trivial))
      have HR2 := Lib.hid (show ∀ w', (∃ p : Regrown, w' = Go.Sort.grow (redrawn wr p.d) p.os) → w'.rangeAt b2 (o2 + k * 2) [.int .i64 kd, .slice Ab2 bs.length cb2] from fun w' hw' => by
        obtain ⟨p, rfl⟩ := hw'
        exact rec_range ((fresh_regrown wr _ _).cellAt k20 trivial) ((fresh_regrown wr _ _).cellAt k21 trivial))
      clear HC hr1 hr2 hkd hbs hde hl1 hl2 k10 k11 k20 k21
      have ha0 : (0 : Int) ≤ (k : Int) := by omega
      have ha1 : (k : Int) < (n : Int) := by omega
      have hk1 : IntKind.i64.wrap ((k : Int) + 1) = (k : Int) + 1 := by rw [IntWalk.i64_in _ (by omega)]
      go_wp2_with fail
      refine wp_region_quiet_below (by kernel_rfl) (by kernel_rfl) ?_
      repeat (first
        | (refine wpQuiet_load_mid rfl 29 _ rfl b1 (o1 + k * 2) rfl [.int .i64 kd, .slice Ab1 bs.length cb1] _ HR1.out Tryd.underlying29 rfl (by kernel_rfl) ?_)
        | (refine wpQuiet_load_mid rfl 29 _ rfl b2 (o2 + k * 2) rfl [.int .i64 kd, .slice Ab2 bs.length cb2] _ HR2.out Tryd.underlying29 rfl (by kernel_rfl) ?_)
        | quiet_step (exact HC2.out _ _))
      refine wpQuiet_nil ?_
      intro _ hw'
      obtain ⟨⟨dq, osq⟩, hw''⟩ := hw'
      subst hw''
      go_wp2_with fail
      exact ⟨⟨k + 1, by omega, rfl, Lib.hid (HW.out.trans (fresh_regrown wr _ _))⟩, by simp [intOf]; omega⟩
    · obtain rfl : k = n := by omega
      go_wp2_with fail
      go_ret
      exact ⟨rfl, HW.out⟩

set_option maxRecDepth 20000 in
set_option maxHeartbeats 1000000 in
/-- THE LAW'S WALK. -/
theorem rlaw_any (A : Option Addr) (n c : Nat) (hs : List RecV) (w : World) (h : Recs w A n hs) (hT : TabsN w) :
    Calls Tryd.prog 3 #[.slice A n c] w fun e w' => e = .returned (.bool true) ∧ Fresh w w' := by
  have H := Lib.hid (And.intro h hT)
  have HC := Lib.hid (records_any A n c hs w h)
  clear h hT
  go_enter Tryd.func3, Tryd.ntmps3
  go_wp2_with fail
  refine HC.out.mono ?_
  rintro e w2 ⟨⟨A2, c2, ks, rfl, hc2, hds, hr2⟩, hf2⟩
  have H2 := Lib.hid (And.intro hf2 (And.intro hds hr2))
  have HP := Lib.hid (promise_any A2 n c2 ks w2 hr2 (H.out.2.fresh hf2))
  rw [hds] at HP
  clear hc2 hds hr2 hf2 HC
  go_wp2_with fail
  refine HP.out.mono ?_
  rintro e w3 ⟨rfl, hf3⟩
  obtain ⟨z, hz⟩ : ∃ z, z = promD (rdsOf hs) := ⟨_, rfl⟩
  have HQ := Lib.hid (rpromise_any A n c hs w3 (H.out.1.keep (H2.out.1.trans hf3)))
  rw [← hz] at HQ ⊢
  have H3 := Lib.hid hf3
  clear hz hf3 HP
  go_wp2_with fail
  refine HQ.out.mono ?_
  rintro e w4 ⟨rfl, hf4⟩
  have H4 := Lib.hid (H3.out.trans hf4)
  have HS := Lib.hid (samerecs_any A2 A n c2 c ks hs w4 (H2.out.2.2.keep H4.out) (H.out.1.keep (H2.out.1.trans H4.out)) H2.out.2.1)
  clear hf4 HQ
  go_wp2_with fail
  refine HS.out.mono ?_
  rintro e w5 ⟨rfl, hf5⟩
  have H5 := Lib.hid ((H2.out.1.trans H4.out).trans hf5)
  clear hf5 HS
  go_wp2_with fail
  go_ret
  exact ⟨rfl, H5.out⟩
end Go.Proofs.YtioinjcdkmiafaaDoor
