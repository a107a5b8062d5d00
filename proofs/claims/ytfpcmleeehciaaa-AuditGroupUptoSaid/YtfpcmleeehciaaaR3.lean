/-
  MERGED: RefW4 RefW8 RefW9 RefWA
-/
import Derived.Test.YtfpcmleeehciaaaR2
import Derived.Test.YtfpcmleeehciaaaAuditFirst
namespace Go.Proofs.Ytfpcmleeehciaaa
set_option linter.unusedVariables false
set_option linter.unusedSimpArgs false
open Go.RowKit Go.Shelf

theorem instD_more (a b : List MarkD) (i : V4) : ∃ r, instD (a ++ b) i = instD a i ++ r := by
  suffices h : ∀ (n : Nat) (b : List MarkD), b.length = n → ∃ r, instD (a ++ b) i = instD a i ++ r from h _ b rfl
  intro n
  induction n with
  | zero =>
    intro b hb
    obtain rfl := List.length_eq_zero_iff.1 hb
    exact ⟨[], by simp⟩
  | succ n ih =>
    intro b hb
    rcases List.eq_nil_or_concat b with rfl | ⟨r, m, rfl⟩
    · cases hb
    · rw [List.concat_eq_append] at hb ⊢
      obtain ⟨q, hq⟩ := ih r (by simpa using hb)
      rw [← List.append_assoc, instD_snoc, hq, List.append_assoc]
      exact ⟨_, rfl⟩
section
variable {hs : List MkV} {k : Nat} {x : MkV} (hx : ∃ hl : k < hs.length, x = hs[k])
include hx
/-- What the k-th mark, if it is an install of the view, says. -/
theorem inst_all_snoc (i : V4) (g : EntD → Bool) : (instD (dsOf (hs.take (k + 1))) i).all g = ((instD (dsOf (hs.take k)) i).all g && (if isInst i x.d = true then g ⟨x.d.who, (stanD x.d.who (dsOf (hs.take k))).id, x.d.tr, (stanD x.d.who (dsOf (hs.take k))).del⟩ else true)) := by
  rw [dsOf_snoc hx, instD_snoc, List.all_append]
  congr 1
  by_cases h : isInst i x.d = true
  · simp [h]
  · simp [h]
theorem inst_all_false (i : V4) (g : EntD → Bool) (h1 : isInst i x.d = true) (h : g ⟨x.d.who, (stanD x.d.who (dsOf (hs.take k))).id, x.d.tr, (stanD x.d.who (dsOf (hs.take k))).del⟩ = false) : (instD (dsOf hs) i).all g = false := by
  have e : dsOf hs = dsOf (hs.take (k + 1)) ++ dsOf (hs.drop (k + 1)) := by
    unfold dsOf
    rw [← List.map_append, List.take_append_drop]
  obtain ⟨r, hr⟩ := instD_more (dsOf (hs.take (k + 1))) (dsOf (hs.drop (k + 1))) i
  rw [e, hr, List.all_append, inst_all_snoc hx, if_pos h1, h]
  simp
end
theorem MksA.take {w : World} {A : Option Addr} {n k : Nat} {hs : List MkV} (h : MksA w A n hs) (hk : k ≤ n) : MksA w A k (hs.take k) := ⟨h.m.take hk, fun x hx => h.ok x (List.mem_of_mem_take hx)⟩
/-- A stand in a variable. -/
structure StB (w : World) (b : Nat) (s : StanD) (vm : Value) : Prop where
  blk : Blk w b 87 (stanV s vm)
section
variable {w w' : World} {b : Nat} {s : StanD} {vm : Value} (h : StB w b s vm)
include h
theorem StB.fresh (hk : Fresh w w') : StB w' b s vm := ⟨h.blk.keep hk trivial⟩
theorem StB.blocked : w.cell? ⟨b, 1, none⟩ = some (.bool s.blocked) := h.blk.cell 1
theorem StB.i1 : w.cell? ⟨b, 2, none⟩ = some (.int .i64 s.id.1) := h.blk.cell 2
theorem StB.i2 : w.cell? ⟨b, 3, none⟩ = some (.int .i64 s.id.2.1) := h.blk.cell 3
theorem StB.i3 : w.cell? ⟨b, 4, none⟩ = some (.int .i64 s.id.2.2.1) := h.blk.cell 4
theorem StB.i4 : w.cell? ⟨b, 5, none⟩ = some (.int .i64 s.id.2.2.2) := h.blk.cell 5
theorem StB.mem : w.cell? ⟨b, 10, none⟩ = some vm := h.blk.cell 10
theorem StB.acc : w.cell? ⟨b, 11, none⟩ = some (.int .i64 (s.acc : Int)) := h.blk.cell 11
theorem StB.del : w.cell? ⟨b, 12, none⟩ = some (.int .i64 (s.del : Int)) := h.blk.cell 12
theorem StB.own : w.cell? ⟨b, 13, none⟩ = some (.int .i64 (s.own : Int)) := h.blk.cell 13
theorem StB.lastPos : w.cell? ⟨b, 14, none⟩ = some (.int .i64 s.lastPos) := h.blk.cell 14
theorem StB.safe : w.cell? ⟨b, 15, none⟩ = some (.int .i64 s.safe) := h.blk.cell 15
end
/-- A boxed stand and a boxed mark: the two variables that the document's rules begin with. -/
theorem two_boxes (w : World) (s : StanD) (vm : Value) (x : MkV) : StB ((w.alloc (.cells (stanV s vm) 87)).alloc (.cells x.cells.toArray 50)) w.heap.size s vm ∧ MkB ((w.alloc (.cells (stanV s vm) 87)).alloc (.cells x.cells.toArray 50)) (w.heap.size + 1) x ∧ Fresh w ((w.alloc (.cells (stanV s vm) 87)).alloc (.cells x.cells.toArray 50)) := by
  refine ⟨⟨(Blk.new w _ _).alloc _⟩, ?_, ((Keep.refl _ w).alloc _).alloc _⟩
  have := MkB.new (w.alloc (.cells (stanV s vm) 87)) x
  have e : (w.alloc (.cells (stanV s vm) 87)).heap.size = w.heap.size + 1 := Array.size_push _
  rw [e] at this
  exact this

def nine (s : StanD) (e : EntD) : Bool := !(decide (e.frm = s.id) && !decide (e.done = s.del))
set_option maxRecDepth 20000 in
set_option maxHeartbeats 2000000 in
theorem rule9_any (A : Option Addr) (n c : Nat) (hs : List MkV) (s : StanD) (vm : Value) (x : MkV) (w : World) (h : MksA w A n hs) (hx : MkA w x) (hv : vm.oneCell' = true) (hnc : n ≤ c) :
    Calls Try.prog 59 #[.slice A n c, .agg (stanV s vm), .agg x.cells.toArray] w fun e w' => e = .returned (.bool (rule9D (dsOf hs) s x.d)) ∧ Fresh w w' := by
  have HM := Lib.hid (And.intro h (And.intro hx hv))
  have hle := h.m.le
  clear h hx
  obtain ⟨R, hR⟩ : ∃ R, R = rule9D (dsOf hs) s x.d := ⟨_, rfl⟩
  rw [← hR]
  have HR : Hid (R = (decide (s.id = nov) || (instD (dsOf hs) x.d.id).all (nine s))) := Lib.hid hR
  clear hR hv
  go_enter Try.func59, Try.ntmps59
  go_upto_region 1 with (fail)
  obtain ⟨w1, hw1⟩ : ∃ w1, w1 = (w.alloc (.cells (stanV s vm) 87)).alloc (.cells x.cells.toArray 50) := ⟨_, rfl⟩
  obtain ⟨b5, hb5⟩ : ∃ b, b = w.heap.size + 1 := ⟨_, rfl⟩
  obtain ⟨b4, hb4⟩ : ∃ b, b = w.heap.size := ⟨_, rfl⟩
  rw [← hw1, ← hb5, ← hb4]
  have h2 := two_boxes w s vm x
  rw [← hw1, ← hb5, ← hb4] at h2
  have H1 := Lib.hid h2
  clear h2 hw1 hb5 hb4
  go_upto_region 2 with (fail)
  obtain ⟨b7, hb7⟩ : ∃ b, b = w1.heap.size := ⟨_, rfl⟩
  rw [← hb7]
  generalize hw2 : World.alloc w1 _ = w2
  have hf2 : Fresh w1 w2 := hw2 ▸ (Keep.refl _ w1).alloc _
  have hn2 : Blk w2 b7 41 #[.int .i64 0, .int .i64 0, .int .i64 0, .int .i64 0] := by rw [← hw2, hb7]; exact Blk.new w1 _ _
  have H2 := Lib.hid (And.intro (H1.out.1.fresh hf2) (And.intro (MkB.mk (H1.out.2.1.blk.keep hf2 trivial) : MkB w2 b5 x) (And.intro hn2 (H1.out.2.2.trans hf2))))
  clear hb7 hw2 hf2 hn2 H1
  have s1 := H2.out.1.i1; have s2 := H2.out.1.i2; have s3 := H2.out.1.i3; have s4 := H2.out.1.i4; have ls := H2.out.1.blk.lt
  have n0 := H2.out.2.2.1.cell 0; have n1 := H2.out.2.2.1.cell 1; have n2 := H2.out.2.2.1.cell 2; have n3 := H2.out.2.2.1.cell 3; have ln := H2.out.2.2.1.lt
  simp at n0 n1 n2 n3
  have Q := fun w => eqview s.id nov w
  obtain ⟨z0, hz0⟩ : ∃ q, q = decide (s.id = nov) := ⟨_, rfl⟩
  rw [← hz0] at Q
  simp only [nov] at Q
  have HZ0 := Lib.hid hz0
  clear hz0
  cases z0
  · go_wp2_with fail
    have HR2 : Hid (R = (instD (dsOf hs) x.d.id).all (nine s)) := Lib.hid (by rw [HR.out, ← HZ0.out]; rfl)
    clear Q s1 s2 s3 s4 ls n0 n1 n2 n3 ln HR
    go_loopw [8] (fun kv wr => ∃ k : Nat, k ≤ n ∧ kv = .int .i64 (k : Int) ∧ Hid (Fresh w2 wr ∧ (instD (dsOf (hs.take k)) x.d.id).all (nine s) = true)) (fun i _ => n - (intOf i).toNat)
    case atStart => exact ⟨0, Nat.zero_le _, rfl, Lib.hid ⟨Keep.refl _ _, rfl⟩⟩
    case round =>
      rename World => wr
      obtain ⟨k, hk, rfl, HW⟩ := hrel
      by_cases hlt : k < n
      · have hMr := HM.out.1.fresh (H2.out.2.2.2.trans HW.out.1)
        obtain ⟨b, o, y, rfl, hat⟩ := hMr.at1 hlt
        have HA := Lib.hid hat
        have hmb : MkB wr b5 x := ⟨H2.out.2.1.blk.keep HW.out.1 trivial⟩
        have hsb := H2.out.1.fresh HW.out.1
        have c1 := hat.kind; have c2 := hat.node; have c3 := hat.inc; have c4 := hat.e1; have c5 := hat.e2; have c6 := hat.e3; have c7 := hat.e4
        have m4 := hmb.e1; have m5 := hmb.e2; have m6 := hmb.e3; have m7 := hmb.e4
        have lm := hmb.blk.lt
        obtain ⟨U, hU⟩ : ∃ U, U = stanD (y.d.node, y.d.inc) (dsOf (hs.take k)) := ⟨_, rfl⟩
        have HU := Lib.hid hU
        have HSt := Lib.hid (fun w' (hf : Fresh wr w') => hU ▸ stand_any (some ⟨b, o, none⟩) k c (hs.take k) y.d.node y.d.inc w' ((hMr.fresh hf).take hk).m ((hMr.fresh hf).take hk).ok)
        have hkc : k ≤ c := by omega
        clear hU
        have Q := fun w => neview y.d.id x.d.id w
        obtain ⟨r, hr⟩ : ∃ r, r = decide (y.d.id ≠ x.d.id) := ⟨_, rfl⟩
        rw [← hr] at Q
        simp only [MarkD.id] at Q
        obtain ⟨zk, hzk⟩ : ∃ z, z = y.d.kind := ⟨_, rfl⟩
        rw [← hzk] at c1
        have hii : isInst x.d.id y.d = (decide (zk = 7) && !r) := by
          unfold isInst
          rw [hzk, hr]
          simp
        have HI := Lib.hid hii
        have HS0 := Lib.hid (And.intro HW.out.2 hsb)
        have HF0 := Lib.hid HW.out.1
        clear hat hmb hr hzk hii HW hMr hsb
        by_cases k7 : zk = 7
        · subst k7
          cases r
          · go_wp2_with fail
            go_quiet (fail)
            rename_i nq
            go_upto_region 8 with (fail)
            generalize hw4 : World.drewN wr nq = w4
            have hf40 : Fresh wr w4 := hw4 ▸ (Keep.refl _ wr).drewN nq
            clear hw4
            have HKS : Hid (∀ w', Fresh wr w' → (w'.cell? ⟨b, o + k * 26 + 2, none⟩ = some (.int .i64 y.d.node) ∧ w'.cell? ⟨b, o + k * 26 + 3, none⟩ = some (.int .i64 y.d.inc))) := Lib.hid (fun w' hf => ⟨hf.cellAt c2 trivial, hf.cellAt c3 trivial⟩)
            have HF4 := Lib.hid hf40
            have HSz := Lib.hid hf40.size
            go_cut [9] (fun s9 wb => ∃ b9 : Nat, s9 = .pointer (some ⟨b9, 0, none⟩) ∧ Hid (Fresh wr wb ∧ ∃ vu, StB wb b9 U vu))
            case first =>
              clear c1 c2 c3 c4 c5 c6 c7 m4 m5 m6 m7 lm Q hf40
              refine wp_region_held_drew (S := fun w' => w'.cell? ⟨b, o + k * 26 + 2, none⟩ = some (.int .i64 y.d.node) ∧ w'.cell? ⟨b, o + k * 26 + 3, none⟩ = some (.int .i64 y.d.inc)) (by kernel_rfl) (HKS.out _ HF4.out.drew) (fun hHeld => ?_)
              refine wpAnyH_take (i := 0) (v := .slice (some ⟨b, o, none⟩) n c) rfl (by kernel_rfl) (by kernel_rfl) (by kernel_rfl) (fun _ _ _ h => h) (Or.inl ⟨by rfl, by intro w hSw; go_simp⟩) hHeld ?_
              simp only [Act.put, List.setIfInBounds_toArray, List.set_cons_zero, List.set_cons_succ]
              refine wpAnyH_take (i := 1) (v := .int .i64 (k : Int)) rfl (by kernel_rfl) (by kernel_rfl) (by kernel_rfl) (fun _ _ _ h => h) (Or.inl ⟨by rfl, by intro w hSw; go_simp⟩) hHeld ?_
              simp only [Act.put, List.setIfInBounds_toArray, List.set_cons_zero, List.set_cons_succ]
              refine wpAnyH_take (i := 2) (v := .slice (some ⟨b, o, none⟩) k c) rfl (by kernel_rfl) (by kernel_rfl) (by kernel_rfl) (fun _ _ _ h => h) (Or.inl ⟨by rfl, by intro w hSw; go_simp⟩) hHeld ?_
              simp only [Act.put, List.setIfInBounds_toArray, List.set_cons_zero, List.set_cons_succ]
              refine wpAnyH_take (i := 3) (v := .slice (some ⟨b, o, none⟩) n c) rfl (by kernel_rfl) (by kernel_rfl) (by kernel_rfl) (fun _ _ _ h => h) (Or.inl ⟨by rfl, by intro w hSw; go_simp⟩) hHeld ?_
              simp only [Act.put, List.setIfInBounds_toArray, List.set_cons_zero, List.set_cons_succ]
              refine wpAnyH_take (i := 4) (v := .int .i64 (k : Int)) rfl (by kernel_rfl) (by kernel_rfl) (by kernel_rfl) (fun _ _ _ h => h) (Or.inl ⟨by rfl, by intro w hSw; go_simp⟩) hHeld ?_
              simp only [Act.put, List.setIfInBounds_toArray, List.set_cons_zero, List.set_cons_succ]
              refine wpAnyH_take (i := 5) (v := .pointer (some ⟨b, o + k * 26, none⟩)) rfl (by kernel_rfl) (by kernel_rfl) (by kernel_rfl) (fun _ _ _ h => h) (Or.inl ⟨by rfl, by intro w hSw; go_simp⟩) hHeld ?_
              simp only [Act.put, List.setIfInBounds_toArray, List.set_cons_zero, List.set_cons_succ]
              refine wpAnyH_take (i := 6) (v := .pointer (some ⟨b, o + k * 26 + 2, none⟩)) rfl (by kernel_rfl) (by kernel_rfl) (by kernel_rfl) (fun _ _ _ h => h) (Or.inl ⟨by rfl, by intro w hSw; go_simp⟩) hHeld ?_
              simp only [Act.put, List.setIfInBounds_toArray, List.set_cons_zero, List.set_cons_succ]
              refine wpAnyH_take (i := 7) (v := .int .i64 y.d.node) rfl (by kernel_rfl) (by kernel_rfl) (by kernel_rfl) (fun _ _ _ h => h) (Or.inl ⟨by rfl, by intro w hSw; go_simp⟩) hHeld ?_
              simp only [Act.put, List.setIfInBounds_toArray, List.set_cons_zero, List.set_cons_succ]
              refine wpAnyH_take (i := 8) (v := .slice (some ⟨b, o, none⟩) n c) rfl (by kernel_rfl) (by kernel_rfl) (by kernel_rfl) (fun _ _ _ h => h) (Or.inl ⟨by rfl, by intro w hSw; go_simp⟩) hHeld ?_
              simp only [Act.put, List.setIfInBounds_toArray, List.set_cons_zero, List.set_cons_succ]
              refine wpAnyH_take (i := 9) (v := .int .i64 (k : Int)) rfl (by kernel_rfl) (by kernel_rfl) (by kernel_rfl) (fun _ _ _ h => h) (Or.inl ⟨by rfl, by intro w hSw; go_simp⟩) hHeld ?_
              simp only [Act.put, List.setIfInBounds_toArray, List.set_cons_zero, List.set_cons_succ]
              refine wpAnyH_take (i := 10) (v := .pointer (some ⟨b, o + k * 26, none⟩)) rfl (by kernel_rfl) (by kernel_rfl) (by kernel_rfl) (fun _ _ _ h => h) (Or.inl ⟨by rfl, by intro w hSw; go_simp⟩) hHeld ?_
              simp only [Act.put, List.setIfInBounds_toArray, List.set_cons_zero, List.set_cons_succ]
              refine wpAnyH_take (i := 11) (v := .pointer (some ⟨b, o + k * 26 + 3, none⟩)) rfl (by kernel_rfl) (by kernel_rfl) (by kernel_rfl) (fun _ _ _ h => h) (Or.inl ⟨by rfl, by intro w hSw; go_simp⟩) hHeld ?_
              simp only [Act.put, List.setIfInBounds_toArray, List.set_cons_zero, List.set_cons_succ]
              refine wpAnyH_take (i := 12) (v := .int .i64 y.d.inc) rfl (by kernel_rfl) (by kernel_rfl) (by kernel_rfl) (fun _ _ _ h => h) (Or.inl ⟨by rfl, by intro w hSw; go_simp⟩) hHeld ?_
              simp only [Act.put, List.setIfInBounds_toArray, List.set_cons_zero, List.set_cons_succ]
              refine wpAnyH_ready (rs := [13, 14]) (by kernel_rfl) (by simp) ?_
              refine AllReadyH.cons rfl (fun K hK => ?_) (AllReadyH.cons rfl (fun K hK => ?_) AllReadyH.nil)
              · go_simp
                (with_reducible refine Calls.mono (HSt.out _ HF4.out.drew) ?_)
                rintro e wa ⟨⟨vu, rfl, hvu, -⟩, hfa0⟩
                have HVo : Hid (vu.oneCell' = true) := Lib.hid (by obtain ⟨_, _, rfl, _⟩ := hvu; rfl)
                clear hvu
                have hfa : Fresh wr wa := HF4.out.drew.trans hfa0
                clear hfa0
                go_wp2_with fail
                refine hK.out _ _ (HKS.out _ hfa) (fun hHeld => ?_)
                clear hK K
                try simp only [Act.put, List.setIfInBounds_toArray, List.set_cons_zero, List.set_cons_succ]
                refine wpAnyH_ready (rs := [14]) (by kernel_rfl) (by simp) ?_
                refine AllReadyH.cons rfl (fun K hK => ?_) AllReadyH.nil
                go_simp
                refine hK.out _ _ (HKS.out _ (hfa.alloc _)) (fun hHeld => ?_)
                clear hK K
                try simp only [Act.put, List.setIfInBounds_toArray, List.set_cons_zero, List.set_cons_succ]
                have hz : Blk (wa.alloc (.cells (stanV ⟨false, false, nov, nov, [], 0, 0, 0, 0, 0⟩ (.slice none 0 0)) 87)) wa.heap.size 87 (stanV ⟨false, false, nov, nov, [], 0, 0, 0, 0, 0⟩ (.slice none 0 0)) := Blk.new _ _ _
                have hsz := hfa.size
                refine wpAnyH_ready (rs := [15]) (by kernel_rfl) (by simp) ?_
                refine AllReadyH.cons rfl (fun K hK => ?_) AllReadyH.nil
                rw [if_pos (by rfl)]
                refine wp_store_mid _ _ _ rfl wa.heap.size 0 (stanV U vu) rfl rfl hz.there (by kernel_rfl) (stan_one _ _ HVo.out) ?_
                have hfs : Fresh wr (World.setCells (wa.alloc (.cells (stanV ⟨false, false, nov, nov, [], 0, 0, 0, 0, 0⟩ (.slice none 0 0)) 87)) wa.heap.size 0 (stanV U vu).toList) := Keep.setCells _ _ _ (hfa.alloc _) (fun h _ => by have := hsz; omega)
                refine hK.out _ _ (HKS.out _ hfs) (fun hHeld => ?_)
                clear hK K
                try simp only [Act.put, List.setIfInBounds_toArray, List.set_cons_zero, List.set_cons_succ]
                refine wpAnyH_done (by kernel_rfl) ?_ _
                go_wp2_with fail
                go_meet
                exact ⟨_, rfl, Lib.hid ⟨hfs, vu, ⟨blk_whole hz rfl⟩⟩⟩
              · go_simp
                refine hK.out _ _ (HKS.out _ ((HF4.out.alloc _).drew)) (fun hHeld => ?_)
                clear hK K
                try simp only [Act.put, List.setIfInBounds_toArray, List.set_cons_zero, List.set_cons_succ]
                refine wpAnyH_ready (rs := [13]) (by kernel_rfl) (by simp) ?_
                refine AllReadyH.cons rfl (fun K hK => ?_) AllReadyH.nil
                go_simp
                (with_reducible refine Calls.mono (HSt.out _ ((HF4.out.alloc _).drew)) ?_)
                rintro e wa ⟨⟨vu, rfl, hvu, -⟩, hfa0⟩
                have HVo : Hid (vu.oneCell' = true) := Lib.hid (by obtain ⟨_, _, rfl, _⟩ := hvu; rfl)
                clear hvu
                have hfa : Fresh wr wa := (HF4.out.alloc _).drew.trans hfa0
                have hz : Blk wa w4.heap.size 87 (stanV ⟨false, false, nov, nov, [], 0, 0, 0, 0, 0⟩ (.slice none 0 0)) := Blk.keep (Blk.drew (Blk.new w4 87 (stanV ⟨false, false, nov, nov, [], 0, 0, 0, 0, 0⟩ (.slice none 0 0)))) hfa0 trivial
                have hsz := HF4.out.size
                clear hfa0
                go_wp2_with fail
                refine hK.out _ _ (HKS.out _ hfa) (fun hHeld => ?_)
                clear hK K
                try simp only [Act.put, List.setIfInBounds_toArray, List.set_cons_zero, List.set_cons_succ]
                refine wpAnyH_ready (rs := [15]) (by kernel_rfl) (by simp) ?_
                refine AllReadyH.cons rfl (fun K hK => ?_) AllReadyH.nil
                rw [if_pos (by rfl)]
                refine wp_store_mid _ _ _ rfl w4.heap.size 0 (stanV U vu) rfl rfl hz.there (by kernel_rfl) (stan_one _ _ HVo.out) ?_
                have hfs : Fresh wr (World.setCells wa w4.heap.size 0 (stanV U vu).toList) := Keep.setCells _ _ _ hfa (fun h _ => by have := hsz; omega)
                refine hK.out _ _ (HKS.out _ hfs) (fun hHeld => ?_)
                clear hK K
                try simp only [Act.put, List.setIfInBounds_toArray, List.set_cons_zero, List.set_cons_succ]
                refine wpAnyH_done (by kernel_rfl) ?_ _
                go_wp2_with fail
                go_meet
                exact ⟨_, rfl, Lib.hid ⟨hfs, vu, ⟨blk_whole hz rfl⟩⟩⟩
            case rest =>
            rename World => w6
            obtain ⟨b9, rfl, HC6⟩ := hcut
            obtain ⟨hf06, vu, hu6⟩ := HC6.out
            have hs06 := HS0.out.2.fresh hf06
            have u1 := hu6.i1; have u2 := hu6.i2; have u3 := hu6.i3; have u4 := hu6.i4; have u12 := hu6.del; have lu := hu6.blk.lt
            have s1 := hs06.i1; have s2 := hs06.i2; have s3 := hs06.i3; have s4 := hs06.i4; have s12 := hs06.del; have ls := hs06.blk.lt
            have H6 := Lib.hid hf06
            clear hf06 hu6 hs06 HC6 c1 c2 c3 c4 c5 c6 c7 m4 m5 m6 m7 lm Q HSt hf40 HKS HF4 HSz
            have Q := fun w => eqview U.id s.id w
            obtain ⟨e1, he1⟩ : ∃ q, q = decide (U.id = s.id) := ⟨_, rfl⟩
            rw [← he1] at Q
            obtain ⟨ud, hud⟩ : ∃ z, z = U.del := ⟨_, rfl⟩
            obtain ⟨sd, hsd⟩ : ∃ z, z = s.del := ⟨_, rfl⟩
            rw [← hud] at u12; rw [← hsd] at s12
            have hg : nine s ⟨y.d.who, (stanD y.d.who (dsOf (hs.take k))).id, y.d.tr, (stanD y.d.who (dsOf (hs.take k))).del⟩ = !(e1 && !decide (ud = sd)) := by
              unfold nine
              rw [show stanD y.d.who (dsOf (hs.take k)) = U from HU.out.symm, he1, hud, hsd]
            have HG := Lib.hid hg
            have good : ∀ w', Fresh w6 w' → (e1 && !decide (ud = sd)) = false → Hid (Fresh w2 w' ∧ (instD (dsOf (hs.take (k + 1))) x.d.id).all (nine s) = true) := fun w' hf hb => Lib.hid ⟨(HF0.out.trans H6.out).trans hf, by rw [inst_all_snoc HA.out.at_, HS0.out.1, HI.out, HG.out, hb]; rfl⟩
            have HGood := Lib.hid good
            have bad : (e1 && !decide (ud = sd)) = true → R = false := fun hb => by rw [HR2.out]; exact inst_all_false HA.out.at_ _ _ (by rw [HI.out]; rfl) (by rw [HG.out, hb]; rfl)
            have HBad := Lib.hid bad
            clear he1 hud hsd hg good bad
            cases e1
            · have HE := Lib.hid (fun w' hf => HGood.out w' hf rfl)
              go_wp2_with fail
              exact ⟨⟨k + 1, by omega, by simp, HE.out _ (Keep.refl _ _)⟩, by simp [intOf]; omega⟩
            · by_cases hd : ud = sd
              · subst hd
                have HE := Lib.hid (fun w' hf => HGood.out w' hf (by simp))
                go_wp2_with fail
                exact ⟨⟨k + 1, by omega, by simp, HE.out _ (Keep.refl _ _)⟩, by simp [intOf]; omega⟩
              · obtain rfl : R = false := HBad.out (by simp [hd])
                have hb : ((ud : Int) != (sd : Int)) = true := by simpa using (show ¬ (ud : Int) = (sd : Int) by omega)
                clear hd
                go_wp2_with fail
                go_ret
                exact ⟨rfl, H2.out.2.2.2.trans (HF0.out.trans H6.out)⟩
          · have HE := Lib.hid (fun w' (hf : Fresh wr w') => And.intro (HF0.out.trans hf) (show (instD (dsOf (hs.take (k + 1))) x.d.id).all (nine s) = true by rw [inst_all_snoc HA.out.at_, HS0.out.1, HI.out]; simp))
            go_wp2_with fail
            go_quiet (fail)
            go_wp2_with fail
            exact ⟨⟨k + 1, by omega, by simp, Lib.hid (HE.out _ ((Keep.refl _ _).drewN _))⟩, by simp [intOf]; omega⟩
        · have b7 : (zk != 7) = true := by simpa using k7
          have HE := Lib.hid (fun w' (hf : Fresh wr w') => And.intro (HF0.out.trans hf) (show (instD (dsOf (hs.take (k + 1))) x.d.id).all (nine s) = true by rw [inst_all_snoc HA.out.at_, HS0.out.1, HI.out]; simp [k7]))
          go_wp2_with fail
          go_quiet (fail)
          go_wp2_with fail
          exact ⟨⟨k + 1, by omega, by simp, Lib.hid (HE.out _ ((Keep.refl _ _).drewN _))⟩, by simp [intOf]; omega⟩
      · obtain rfl : k = n := by omega
        obtain rfl : R = true := by rw [HR2.out, ← HW.out.2, dsOf_all HM.out.1.m.len]
        have HF := Lib.hid HW.out.1
        clear HW HR2
        go_wp2_with fail
        go_ret
        exact ⟨rfl, H2.out.2.2.2.trans HF.out⟩
  · obtain rfl : R = true := by rw [HR.out, ← HZ0.out]; rfl
    go_wp2_with fail
    go_ret
    exact ⟨rfl, H2.out.2.2.2⟩
end Go.Proofs.Ytfpcmleeehciaaa
namespace Go.Proofs.Ytfpcmleeehciaaa
set_option linter.unusedVariables false
set_option linter.unusedSimpArgs false
open Go.RowKit Go.Shelf

theorem last_at {hs : List MkV} {j : Nat} {y : MkV} (hl : hs.length = j + 1) (hy : ∃ h : j < hs.length, y = hs[j]) (m : MarkD) : lastAt (dsOf hs) m = decide (m.at_ < y.d.at_) := by
  obtain ⟨h, rfl⟩ := hy
  unfold lastAt
  have e : (dsOf hs).getLast? = some hs[j].d := by
    rw [List.getLast?_eq_getElem?, dsOf_len, hl, Nat.add_sub_cancel, List.getElem?_eq_getElem (by rw [dsOf_len]; exact h), dsOf_get h]
  rw [e]
set_option maxRecDepth 20000 in
set_option maxHeartbeats 4000000 in
theorem rule1_any (A : Option Addr) (n c : Nat) (hs : List MkV) (x : MkV) (w : World) (h : MksA w A n hs) (hx : MkA w x) (hrd : -1 ≤ roundD (dsOf hs) ∧ roundD (dsOf hs) ≤ 1099511627776) :
    Calls Try.prog 27 #[.slice A n c, .agg x.cells.toArray] w fun e w' => e = .returned (.bool (rule1D (dsOf hs) x.d)) ∧ Fresh w w' := by
  have HM := Lib.hid (And.intro h (And.intro hx hrd))
  have hle := h.m.le
  clear h hx hrd
  obtain ⟨R, hR⟩ : ∃ R, R = rule1D (dsOf hs) x.d := ⟨_, rfl⟩
  rw [← hR]
  have HR := Lib.hid hR
  clear hR
  go_enter Try.func27, Try.ntmps27
  go_upto_region 1 with (fail)
  obtain ⟨w1, hw1⟩ : ∃ w1, w1 = w.alloc (.cells x.cells.toArray 50) := ⟨_, rfl⟩
  obtain ⟨bm, hbm⟩ : ∃ b, b = w.heap.size := ⟨_, rfl⟩
  rw [← hw1, ← hbm]
  have hf1 : Fresh w w1 := hw1 ▸ (Keep.refl _ w).alloc _
  have hmb : MkB w1 bm x := by rw [hw1, hbm]; exact MkB.new w x
  have H1 := Lib.hid (And.intro hf1 hmb)
  have m0 := hmb.at_; have m1 := hmb.kind
  have lm := hmb.blk.lt
  clear hw1 hbm hf1 hmb
  obtain ⟨za, hza⟩ : ∃ z, z = x.d.at_ := ⟨_, rfl⟩
  obtain ⟨zk, hzk⟩ : ∃ z, z = x.d.kind := ⟨_, rfl⟩
  obtain ⟨zn, hzn⟩ : ∃ z, z = x.d.node := ⟨_, rfl⟩
  obtain ⟨zi, hzi⟩ : ∃ z, z = x.d.inc := ⟨_, rfl⟩
  obtain ⟨zm, hzm⟩ : ∃ z, z = x.d.n := ⟨_, rfl⟩
  rw [← hza] at m0; rw [← hzk] at m1
  have HE := Lib.hid (And.intro hza (And.intro hzk (And.intro hzn (And.intro hzi hzm))))
  have HRx : Hid (R = if za < 0 ∨ lastAt (dsOf hs) x.d = true ∨ zk < 1 ∨ 16 < zk then false else if zk = 15 then decide (zn = 0 ∧ zi = 0 ∧ zm = roundD (dsOf hs) + 1) else if zn < 0 ∨ 16 ≤ zn then false else if zk = 1 then !(presD zn (dsOf hs)).1 && decide ((presD zn (dsOf hs)).2 < zi) else if (presD zn (dsOf hs)).1 = false ∨ zi ≠ (presD zn (dsOf hs)).2 then false else decide (zk = 2) || !(stanD (zn, zi) (dsOf hs)).halted) := Lib.hid (by
    rw [HR.out, hza, hzk, hzn, hzi, hzm]; rfl)
  clear hza hzk hzn hzi hzm HR
  obtain ⟨q, hq⟩ : ∃ q, q = decide (za < 0 ∨ lastAt (dsOf hs) x.d = true ∨ zk < 1 ∨ 16 < zk) := ⟨_, rfl⟩
  have HQ := Lib.hid hq
  clear hq
  go_cut [39] (fun s39 wb => s39 = .bool q ∧ Hid (Fresh w1 wb))
  case first =>
    by_cases h1 : za < 0
    · obtain rfl : q = true := by rw [HQ.out]; exact decide_eq_true (.inl h1)
      go_quiet (fail)
      go_wp2_with fail
      go_meet
      exact ⟨rfl, Lib.hid ((Keep.refl _ _).drewN _)⟩
    · rcases Nat.eq_zero_or_pos n with rfl | hn0
      · have hla : lastAt (dsOf hs) x.d = false := by
          have := List.length_eq_zero_iff.1 HM.out.1.m.len
          subst this
          rfl
        have hq2 : q = decide (zk < 1 ∨ 16 < zk) := by rw [HQ.out, hla]; simp [h1]
        have HQ2 := Lib.hid hq2
        clear hla hq2
        have hcs : zk < 1 ∨ (¬ zk < 1 ∧ 16 < zk) ∨ (¬ zk < 1 ∧ ¬ 16 < zk) := by omega
        rcases hcs with h2 | ⟨h2, h3⟩ | ⟨h2, h3⟩
        · obtain rfl : q = true := by rw [HQ2.out]; exact decide_eq_true (.inl h2)
          go_quiet (fail)
          go_wp2_with fail
          go_meet
          exact ⟨rfl, Lib.hid ((Keep.refl _ _).drewN _)⟩
        · obtain rfl : q = true := by rw [HQ2.out]; exact decide_eq_true (.inr h3)
          go_quiet (fail)
          go_wp2_with fail
          go_meet
          exact ⟨rfl, Lib.hid ((Keep.refl _ _).drewN _)⟩
        · obtain rfl : q = false := by rw [HQ2.out]; exact decide_eq_false (by omega)
          go_quiet (fail)
          go_wp2_with fail
          go_meet
          exact ⟨rfl, Lib.hid ((Keep.refl _ _).drewN _)⟩
      · obtain ⟨j, rfl⟩ : ∃ j, n = j + 1 := ⟨n - 1, by omega⟩
        obtain ⟨b, o, y, rfl, hat⟩ := (HM.out.1.fresh H1.out.1).at1 (show j < j + 1 by omega)
        have hla := last_at HM.out.1.m.len hat.at_ x.d
        rw [← HE.out.1] at hla
        obtain ⟨ya, hya⟩ : ∃ z, z = y.d.at_ := ⟨_, rfl⟩
        rw [← hya] at hla
        have y0 : w1.cell? ⟨b, o + j * 26, none⟩ = some (.int .i64 ya) := hya ▸ hat.rng 0 _ rfl
        have hq2 : q = decide (za < ya ∨ zk < 1 ∨ 16 < zk) := by rw [HQ.out, hla]; simp [h1]
        have HQ2 := Lib.hid hq2
        have wj : IntKind.i64.wrap (((j + 1 : Nat) : Int) - 1) = (j : Int) := by rw [IntWalk.i64_in _ (by omega)]; try omega
        have wj2 : IntKind.i64.wrap (((j : Int) + 1) - 1) = (j : Int) := by rw [IntWalk.i64_in _ (by omega)]; try omega
        have hj0 : (0 : Int) < (j : Int) + 1 := by omega
        clear hla hat hya hq2 hn0
        have hcs : za < ya ∨ (¬ za < ya ∧ zk < 1) ∨ (¬ za < ya ∧ ¬ zk < 1 ∧ 16 < zk) ∨ (¬ za < ya ∧ ¬ zk < 1 ∧ ¬ 16 < zk) := by omega
        rcases hcs with h2 | ⟨h2, h3⟩ | ⟨h2, h3, h4⟩ | ⟨h2, h3, h4⟩
        · obtain rfl : q = true := by rw [HQ2.out]; exact decide_eq_true (.inl h2)
          go_quiet (fail)
          go_wp2_with fail
          go_meet
          exact ⟨rfl, Lib.hid ((Keep.refl _ _).drewN _)⟩
        · obtain rfl : q = true := by rw [HQ2.out]; exact decide_eq_true (.inr (.inl h3))
          go_quiet (fail)
          go_wp2_with fail
          go_meet
          exact ⟨rfl, Lib.hid ((Keep.refl _ _).drewN _)⟩
        · obtain rfl : q = true := by rw [HQ2.out]; exact decide_eq_true (.inr (.inr h4))
          go_quiet (fail)
          go_wp2_with fail
          go_meet
          exact ⟨rfl, Lib.hid ((Keep.refl _ _).drewN _)⟩
        · obtain rfl : q = false := by rw [HQ2.out]; exact decide_eq_false (by omega)
          go_quiet (fail)
          go_wp2_with fail
          go_meet
          exact ⟨rfl, Lib.hid ((Keep.refl _ _).drewN _)⟩
  case rest =>
  rename World => w2
  obtain ⟨rfl, HF2⟩ := hcut
  clear m0 m1 lm
  cases q
  rotate_left
  · obtain rfl : R = false := by rw [HRx.out, if_pos (of_decide_eq_true HQ.out.symm)]
    go_wp2_with fail
    go_ret
    exact ⟨rfl, H1.out.1.trans HF2.out⟩
  have HRy : Hid (R = if zk = 15 then decide (zn = 0 ∧ zi = 0 ∧ zm = roundD (dsOf hs) + 1) else if zn < 0 ∨ 16 ≤ zn then false else if zk = 1 then !(presD zn (dsOf hs)).1 && decide ((presD zn (dsOf hs)).2 < zi) else if (presD zn (dsOf hs)).1 = false ∨ zi ≠ (presD zn (dsOf hs)).2 then false else decide (zk = 2) || !(stanD (zn, zi) (dsOf hs)).halted) := Lib.hid (by
    rw [HRx.out, if_neg (of_decide_eq_false HQ.out.symm)])
  have hmb : MkB w2 bm x := ⟨H1.out.2.blk.keep HF2.out trivial⟩
  have m1 := hmb.kind; have m2 := hmb.node; have m3 := hmb.inc; have m13 := hmb.n
  rw [← HE.out.2.1] at m1; rw [← HE.out.2.2.1] at m2; rw [← HE.out.2.2.2.1] at m3; rw [← HE.out.2.2.2.2] at m13
  have lm := hmb.blk.lt
  have H2 := Lib.hid (And.intro (H1.out.1.trans HF2.out) (MkB.mk hmb.blk : MkB w2 bm x))
  clear HRx hmb HQ H1 HF2
  by_cases k15 : zk = 15
  · subst k15
    have HR3 : Hid (R = decide (zn = 0 ∧ zi = 0 ∧ zm = roundD (dsOf hs) + 1)) := Lib.hid (by rw [HRy.out]; rfl)
    clear HRy
    go_wp2_with fail
    go_loopw [5, 6] (fun rv iv wr => ∃ (k : Nat) (z : Int), k ≤ n ∧ rv = .int .i64 z ∧ iv = .int .i64 (k : Int) ∧ wr = w2 ∧ Hid (z = roundD (dsOf (hs.take k)))) (fun _ i _ => n - (intOf i).toNat)
    case atStart => exact ⟨0, 0, Nat.zero_le _, rfl, rfl, rfl, Lib.hid rfl⟩
    case round =>
      obtain ⟨k, z, hk, rfl, rfl, rfl, HW⟩ := hrel
      by_cases hlt : k < n
      · obtain ⟨b, o, y, rfl, hat⟩ := (HM.out.1.fresh H2.out.1).at1 hlt
        obtain ⟨yk, hyk⟩ : ∃ z, z = y.d.kind := ⟨_, rfl⟩
        obtain ⟨yn, hyn⟩ : ∃ z, z = y.d.n := ⟨_, rfl⟩
        have c1 := hat.kind
        rw [← hyk] at c1
        have c13 := (hat.rng 13 _ rfl : _ = some (.int .i64 y.d.n))
        rw [← hyn] at c13
        have hS : roundD (dsOf (hs.take (k + 1))) = if yk = 15 then yn else z := by
          rw [dsOf_snoc hat.at_, roundD_snoc, ← HW.out, hyk, hyn]
          rfl
        have HS := Lib.hid hS
        clear hat hyk hyn hS HW
        by_cases hy : yk = 15
        · subst hy
          go_wp2_with fail
          exact ⟨⟨k + 1, yn, by omega, rfl, by simp, by trivial, Lib.hid (by rw [HS.out]; rfl)⟩, by simp [intOf]; omega⟩
        · have b15 : (yk == 15) = false := by simpa using hy
          go_wp2_with fail
          exact ⟨⟨k + 1, z, by omega, rfl, by simp, by trivial, Lib.hid (by rw [HS.out, if_neg hy])⟩, by simp [intOf]; omega⟩
      · obtain rfl : k = n := by omega
        have hz : z = roundD (dsOf hs) := by rw [HW.out, dsOf_all HM.out.1.m.len]
        have hb := HM.out.2.2
        rw [← hz] at HR3 hb
        have wz : IntKind.i64.wrap (z + 1) = z + 1 := by rw [IntWalk.i64_in _ (by omega)]
        clear hz HW hb
        by_cases d1 : zn = 0
        · subst d1
          by_cases d2 : zi = 0
          · subst d2
            by_cases d3 : zm = z + 1
            · subst d3
              obtain rfl : R = true := by rw [HR3.out]; exact decide_eq_true ⟨rfl, rfl, rfl⟩
              go_wp2_with fail
              go_ret
              exact ⟨rfl, H2.out.1⟩
            · have b3 : (zm == z + 1) = false := by simpa using d3
              obtain rfl : R = false := by rw [HR3.out]; exact decide_eq_false (by rintro ⟨_, _, h⟩; exact d3 h)
              clear d3
              go_wp2_with fail
              go_ret
              exact ⟨rfl, H2.out.1⟩
          · have b2 : (zi == 0) = false := by simpa using d2
            obtain rfl : R = false := by rw [HR3.out]; exact decide_eq_false (by rintro ⟨_, h, _⟩; exact d2 h)
            clear d2
            go_wp2_with fail
            go_ret
            exact ⟨rfl, H2.out.1⟩
        · have b1 : (zn == 0) = false := by simpa using d1
          obtain rfl : R = false := by rw [HR3.out]; exact decide_eq_false (by rintro ⟨h, _, _⟩; exact d1 h)
          clear d1
          go_wp2_with fail
          go_ret
          exact ⟨rfl, H2.out.1⟩
  · have b15 : (zk == 15) = false := by simpa using k15
    have HR3 : Hid (R = if zn < 0 ∨ 16 ≤ zn then false else if zk = 1 then !(presD zn (dsOf hs)).1 && decide ((presD zn (dsOf hs)).2 < zi) else if (presD zn (dsOf hs)).1 = false ∨ zi ≠ (presD zn (dsOf hs)).2 then false else decide (zk = 2) || !(stanD (zn, zi) (dsOf hs)).halted) := Lib.hid (by rw [HRy.out, if_neg k15])
    clear HRy k15
    by_cases g1 : zn < 0
    · obtain rfl : R = false := by rw [HR3.out, if_pos (.inl g1)]
      go_wp2_with fail
      go_ret
      exact ⟨rfl, H2.out.1⟩
    by_cases g2 : 16 ≤ zn
    · obtain rfl : R = false := by rw [HR3.out, if_pos (.inr g2)]
      go_wp2_with fail
      go_ret
      exact ⟨rfl, H2.out.1⟩
    have HR4 : Hid (R = if zk = 1 then !(presD zn (dsOf hs)).1 && decide ((presD zn (dsOf hs)).2 < zi) else if (presD zn (dsOf hs)).1 = false ∨ zi ≠ (presD zn (dsOf hs)).2 then false else decide (zk = 2) || !(stanD (zn, zi) (dsOf hs)).halted) := Lib.hid (by rw [HR3.out, if_neg (by rintro (a | a); exact g1 a; exact g2 a)])
    have HP := Lib.hid (present_any _ A n c hs zn w2 (HM.out.1.fresh H2.out.1).m)
    obtain ⟨pu, hpu⟩ : ∃ z, z = (presD zn (dsOf hs)).1 := ⟨_, rfl⟩
    obtain ⟨pi, hpi⟩ : ∃ z, z = (presD zn (dsOf hs)).2 := ⟨_, rfl⟩
    rw [← hpu, ← hpi] at HP HR4
    clear HR3 hpu hpi
    go_wp2_with fail
    refine Calls.mono HP.out ?_
    rintro e _ ⟨rfl, rfl⟩
    clear HP g1 g2
    by_cases k1 : zk = 1
    · subst k1
      have HR5 : Hid (R = (!pu && decide (pi < zi))) := Lib.hid (by rw [HR4.out]; rfl)
      clear HR4
      cases pu
      · obtain rfl : R = decide (pi < zi) := by rw [HR5.out]; simp
        go_wp2_with fail
        go_ret
        exact ⟨rfl, H2.out.1⟩
      · obtain rfl : R = false := by rw [HR5.out]; simp
        go_wp2_with fail
        go_ret
        exact ⟨rfl, H2.out.1⟩
    · have b1 : (zk == 1) = false := by simpa using k1
      have HR5 : Hid (R = if pu = false ∨ zi ≠ pi then false else decide (zk = 2) || !(stanD (zn, zi) (dsOf hs)).halted) := Lib.hid (by rw [HR4.out, if_neg k1])
      clear HR4 k1
      cases pu
      · obtain rfl : R = false := by rw [HR5.out]; exact if_pos (.inl rfl)
        go_wp2_with fail
        go_ret
        exact ⟨rfl, H2.out.1⟩
      · by_cases d : zi = pi
        · have b2 : (zi != pi) = false := by simpa using d
          have HR6 : Hid (R = (decide (zk = 2) || !(stanD (zn, zi) (dsOf hs)).halted)) := Lib.hid (by rw [HR5.out]; exact if_neg (by rintro (a | a); cases a; exact a d))
          have hst := stand_any A n c hs zn zi w2 (HM.out.1.fresh H2.out.1).m (HM.out.1.fresh H2.out.1).ok
          obtain ⟨U, hU⟩ : ∃ U, U = stanD (zn, zi) (dsOf hs) := ⟨_, rfl⟩
          rw [← hU] at hst HR6
          have HSt := Lib.hid hst
          clear HR5 hU d hst
          go_wp2_with fail
          refine Calls.mono HSt.out ?_
          rintro e w5 ⟨⟨vu, rfl, hvu, -⟩, hf5⟩
          have HVo : Hid (vu.oneCell' = true) := Lib.hid (by obtain ⟨_, _, rfl, _⟩ := hvu; rfl)
          have m1 := hf5.cellAt m1 trivial
          have lm : bm < w5.heap.size := Nat.lt_of_lt_of_le lm hf5.size
          have HF5 := Lib.hid hf5
          clear hvu hf5 HSt m2 m3 m13
          go_wp2_with (refine wpList_store_new rfl (.tmp 9) (.tmp 114) rfl _ (stanV U vu) _ rfl rfl rfl (by kernel_rfl) (stan_one _ _ HVo.out) ?_)
          intro w6 hb6 hf6 hs6
          obtain ⟨b9, hb9⟩ : ∃ b, b = w5.heap.size := ⟨_, rfl⟩
          rw [← hb9] at hb6 ⊢
          have u0 : w6.cell? ⟨b9, 0, none⟩ = some (.bool U.halted) := hb6.cell 0
          have lu := hb6.lt
          have m1 := hf6.cellAt m1 trivial
          have lm : bm < w6.heap.size := Nat.lt_of_lt_of_le lm hf6.size
          obtain ⟨uh, huh⟩ : ∃ z, z = U.halted := ⟨_, rfl⟩
          rw [← huh] at u0 HR6
          have HF6 := Lib.hid hf6
          clear hb6 hf6 hs6 hb9 huh
          by_cases k2 : zk = 2
          · subst k2
            obtain rfl : R = true := by rw [HR6.out]; rfl
            go_wp2_with fail
            go_ret
            exact ⟨rfl, (H2.out.1.trans HF5.out).trans HF6.out⟩
          · have b3 : (zk == 2) = false := by simpa using k2
            obtain rfl : R = !uh := by rw [HR6.out, decide_eq_false k2]; rfl
            clear k2
            go_wp2_with fail
            go_ret
            exact ⟨rfl, (H2.out.1.trans HF5.out).trans HF6.out⟩
        · have b2 : (zi != pi) = true := by simpa using d
          obtain rfl : R = false := by rw [HR5.out]; exact if_pos (.inr d)
          clear d
          go_wp2_with fail
          go_ret
          exact ⟨rfl, H2.out.1⟩
end Go.Proofs.Ytfpcmleeehciaaa
namespace Go.Proofs.Ytfpcmleeehciaaa
set_option linter.unusedVariables false
set_option linter.unusedSimpArgs false
open Go.RowKit Go.Shelf

abbrev Cnt1 := Who × Nat
def cntC (c : Cnt1) : List Value := [.int .i64 c.1.1, .int .i64 c.1.2, .int .i64 (c.2 : Int)]
theorem cnt_three : ∀ c : Cnt1, (cntC c).length = 3 := fun _ => rfl
def cntOf (cl : List Cnt1) (x : Who) : Nat := ((cl.find? fun c => decide (c.1 = x)).map (·.2)).getD 0
theorem cnt_hit {cl : List Cnt1} {i : Nat} {x : Who} (hi : i < cl.length) (he : cl[i].1 = x) (hb : ∀ j (hj : j < cl.length), j < i → cl[j].1 ≠ x) : cntOf cl x = cl[i].2 := by
  have : cl.find? (fun c => decide (c.1 = x)) = some cl[i] := by
    rw [List.find?_eq_some_iff_getElem]
    exact ⟨decide_eq_true he, i, hi, rfl, fun j hj => by simpa using hb j (by omega) hj⟩
  unfold cntOf
  rw [this]
  rfl
theorem cnt_miss {cl : List Cnt1} {x : Who} (hb : ∀ j (hj : j < cl.length), cl[j].1 ≠ x) : cntOf cl x = 0 := by
  have : cl.find? (fun c => decide (c.1 = x)) = none := by
    rw [List.find?_eq_none]
    intro c hc
    obtain ⟨j, hj, rfl⟩ := List.mem_iff_getElem.1 hc
    simpa using hb j hj
  unfold cntOf
  rw [this]
  rfl
theorem cnt_set {cl : List Cnt1} {i : Nat} {x : Who} (hi : i < cl.length) (he : cl[i].1 = x) (hb : ∀ j (hj : j < cl.length), j < i → cl[j].1 ≠ x) (y : Who) : cntOf (cl.set i (x, cl[i].2 + 1)) y = cntOf cl y + (if y = x then 1 else 0) := by
  by_cases hy : y = x
  · subst hy
    rw [if_pos rfl, cnt_hit hi he hb, cnt_hit (i := i) (by simpa using hi) (by simp) (fun j hj hji => by
      rw [List.getElem_set_ne (by omega)]
      exact hb j (by simpa using hj) hji)]
    simp
  · rw [if_neg hy, Nat.add_zero]
    unfold cntOf
    congr 2
    have e : ∀ (l : List Cnt1) (i : Nat) (n : Nat) (hi : i < l.length), l[i].1 = x → (l.set i (x, n)).find? (fun c => decide (c.1 = y)) = l.find? (fun c => decide (c.1 = y)) := by
      intro l
      induction l with
      | nil => intro i n hi; cases hi
      | cons c r ih =>
        intro i n hi hx
        cases i with
        | zero =>
          have hx' : c.1 = x := hx
          rw [List.set_cons_zero, List.find?_cons, List.find?_cons]
          have h1 : decide (x = y) = false := decide_eq_false (fun a => hy a.symm)
          have h2 : decide (c.1 = y) = false := decide_eq_false (fun a => hy (a.symm.trans hx'))
          simp only [h1, h2]
        | succ i =>
          rw [List.set_cons_succ, List.find?_cons, List.find?_cons, ih i n (by simpa using hi) hx]
    exact e cl i _ hi he
theorem cnt_app {cl : List Cnt1} {x : Who} (hb : ∀ j (hj : j < cl.length), cl[j].1 ≠ x) (y : Who) : cntOf (cl ++ [(x, 1)]) y = cntOf cl y + (if y = x then 1 else 0) := by
  by_cases hy : y = x
  · subst hy
    rw [if_pos rfl, cnt_miss hb, cnt_hit (i := cl.length) (by simp) (by simp) (fun j hj hji => by
      rw [List.getElem_append_left hji]
      exact hb j hji)]
    simp
  · rw [if_neg hy, Nat.add_zero]
    unfold cntOf
    rw [List.find?_append]
    have : ([((x, 1) : Cnt1)].find? fun c => decide (c.1 = y)) = none := by
      simp only [List.find?_cons, decide_eq_false (fun a : x = y => hy a.symm), List.find?_nil]
    rw [this]
    simp
theorem cnt_info : (Try.prog.info? 150).map (fun i => (i.zero, i.size, i.bytes)) = some (some (.agg #[.int .i64 0, .int .i64 0, .int .i64 0]), 3, 24) := by kernel_rfl
theorem etCnt : ET Try.prog 125 150 3 24 (.agg #[.int .i64 0, .int .i64 0, .int .i64 0]) := ⟨Try.underlying125, cnt_info, rfl, by decide, by decide⟩

set_option maxRecDepth 20000 in
set_option maxHeartbeats 1000000 in
theorem counted_any (B : Nat) (v : Value) (cl : List Cnt1) (p i : Int) (w : World) (ho : w.ownsRow B 150 3 v cl.length (rcells cntC cl)) (hB : B ≤ w.heap.size) (hl : cl.length ≤ 1048576) (hN : ∀ x, cntOf cl x ≤ 1048576) :
    Calls Try.prog 61 #[v, .int .i64 p, .int .i64 i] w fun e w' =>
      (∃ (v' : Value) (cl' : List Cnt1), e = .returned (.tuple #[v', .int .i64 ((cntOf cl (p, i) + 1 : Nat) : Int)]) ∧ w'.ownsRow B 150 3 v' cl'.length (rcells cntC cl') ∧ (∀ y, cntOf cl' y = cntOf cl y + (if y = (p, i) then 1 else 0)) ∧ cl'.length ≤ cl.length + 1) ∧ Keep (fun j => v.ownBlock ≠ some j) w w' := by
  obtain ⟨A, c, rfl, hr, -⟩ := own_rd ho
  have HM := Lib.hid (And.intro ho (And.intro hr hN))
  clear ho hr hN
  go_enter Try.func61, Try.ntmps61
  go_wp2
  go_loopw [8] (fun kv wr => ∃ k : Nat, k ≤ cl.length ∧ kv = .int .i64 (k : Int) ∧ wr = w ∧ Hid (∀ j (hj : j < cl.length), j < k → cl[j].1 ≠ (p, i))) (fun i _ => cl.length - (intOf i).toNat)
  case atStart => exact ⟨0, Nat.zero_le _, rfl, rfl, Lib.hid fun j _ h => absurd h (Nat.not_lt_zero j)⟩
  case round =>
    obtain ⟨k, hk, rfl, rfl, HW⟩ := hrel
    by_cases hlt : k < cl.length
    · obtain ⟨b, o, rfl, hz, hr⟩ := Rd.range cnt_three HM.out.2.1 hlt hlt
      obtain ⟨y, hy⟩ : ∃ y, y = cl[k] := ⟨_, rfl⟩
      rw [← hy] at hr
      obtain ⟨⟨yp, yi⟩, yn⟩ := y
      have c0 : wr.cell? ⟨b, o + k * 3, none⟩ = some (.int .i64 yp) := hr 0 _ rfl
      have c1 : wr.cell? ⟨b, o + k * 3 + 1, none⟩ = some (.int .i64 yi) := hr 1 _ rfl
      have c2 : wr.cell? ⟨b, o + k * 3 + 2, none⟩ = some (.int .i64 (yn : Int)) := hr 2 _ rfl
      have HX := Lib.hid hy
      have hne : ∀ hh : (yp, yi) ≠ (p, i), Hid (∀ j (hj : j < cl.length), j < k + 1 → cl[j].1 ≠ (p, i)) := fun hh => Lib.hid fun j hj hj1 => by
        rcases Nat.lt_succ_iff_lt_or_eq.1 hj1 with h2 | h2
        · exact HW.out j hj h2
        · subst h2; rw [← HX.out]; exact hh
      have HNe := Lib.hid hne
      clear hne hr hz
      by_cases h1 : yp = p
      · subst h1
        by_cases h2 : yi = i
        · subst h2
          have hob : (Value.slice (some ⟨b, o, none⟩) cl.length c).ownBlock = some b := rfl
          have ho0 : o = 0 := by
            rcases HM.out.1.2 with ⟨a, _⟩ | ⟨g, cap, cur, a, _⟩
            · injection a with a; cases a
            · injection a with a
              injection a with a
              injection a
          subst ho0
          have hcl3 : k * 3 + 2 < cl.length * 3 := by omega
          have e0 := own_frozen HM.out.1 (k * 3 + 2) hob
          have lb : b < wr.heap.size := (own_lt HM.out.1 hob).2
          have hyn : yn = cntOf cl (yp, yi) := by rw [cnt_hit hlt (by rw [← HX.out]) HW.out, ← HX.out]
          have hynl : yn ≤ 1048576 := by rw [hyn]; exact HM.out.2.2 _
          have wy : IntKind.i64.wrap ((yn : Int) + 1) = (yn : Int) + 1 := by rw [IntWalk.i64_in _ (by omega)]
          have hset : ((wr.setCell ⟨b, k * 3 + 2, none⟩ (.int .i64 ((yn : Int) + 1)))).ownsRow B 150 3 (.slice (some ⟨b, 0, none⟩) cl.length c) (cl.set k ((yp, yi), cl[k].2 + 1)).length (rcells cntC (cl.set k ((yp, yi), cl[k].2 + 1))) := by
            have h3 := own_set HM.out.1 hob hcl3 (.int .i64 ((yn : Int) + 1))
            rw [rcells_set cnt_three cl k hlt 2 _ ((yp, yi), cl[k].2 + 1) (by omega) (by rw [← HX.out]; simp [cntC])] at h3
            rw [List.length_set]
            exact h3
          have HFin := Lib.hid (And.intro hset (And.intro hyn (show cl[k].1 = (yp, yi) by rw [← HX.out])))
          have d2 : wr.cell? ⟨b, k * 3 + 2, none⟩ = some (.int .i64 (yn : Int)) := by simpa using c2
          have d0 : wr.cell? ⟨b, k * 3, none⟩ = some (.int .i64 yp) := by simpa using c0
          have d1 : wr.cell? ⟨b, k * 3 + 1, none⟩ = some (.int .i64 yi) := by simpa using c1
          have hk6 : Keep (fun j => (Value.slice (some ⟨b, 0, none⟩) cl.length c).ownBlock ≠ some j) wr (wr.setCell ⟨b, k * 3 + 2, none⟩ (.int .i64 ((yn : Int) + 1))) := (Keep.refl _ wr).setCell (fun _ h => h rfl) _
          have HK6 := Lib.hid hk6
          clear hset hyn hob hy hk6
          go_upto_region 6 with (fail)
          generalize hw6 : World.setCell wr _ _ = w6
          have hd6 : w6.cell? ⟨b, k * 3 + 2, none⟩ = some (.int .i64 ((yn : Int) + 1)) := by
            rw [← hw6]
            exact own_cell (HFin.out.1) rfl (by
              rw [rcells_get cnt_three _ _ (by simpa using hlt) 2 (by omega)]
              simp only [List.getElem_set_self, cntC]
              rw [← HX.out]
              simp)
          have lb6 : b < w6.heap.size := by rw [← hw6]; simpa using lb
          have HF6 := Lib.hid (show w6.ownsRow B 150 3 (.slice (some ⟨b, 0, none⟩) cl.length c) (cl.set k ((yp, yi), cl[k].2 + 1)).length (rcells cntC (cl.set k ((yp, yi), cl[k].2 + 1))) from hw6 ▸ HFin.out.1)
          have HK7 := Lib.hid (show Keep (fun j => (Value.slice (some ⟨b, 0, none⟩) cl.length c).ownBlock ≠ some j) wr w6 from hw6 ▸ HK6.out)
          clear hw6 d0 d1 d2 c0 c1 c2 e0 lb HK6
          go_quiet (fail)
          go_wp2_with fail
          go_ret2
          refine ⟨⟨_, cl.set k ((yp, yi), cl[k].2 + 1), by rw [← HFin.out.2.1]; rfl, ?_, cnt_set hlt HFin.out.2.2 HW.out, by simp⟩, HK7.out.drewN _⟩
          exact own_keep HF6.out ((Keep.refl (fun _ => True) w6).drewN _) (fun _ _ => trivial)
        · have b2 : (yi == i) = false := by simpa using h2
          have HN := HNe.out (fun a => by injection a with _ a; exact h2 a)
          clear h2 hy
          go_wp2_with fail
          exact ⟨⟨k + 1, by omega, by simp, by trivial, HN⟩, by simp [intOf]; omega⟩
      · have b1 : (yp == p) = false := by simpa using h1
        have HN := HNe.out (fun a => by injection a with a _; exact h1 a)
        clear h1 hy
        go_wp2_with fail
        exact ⟨⟨k + 1, by omega, by simp, by trivial, HN⟩, by simp [intOf]; omega⟩
    · obtain rfl : k = cl.length := by omega
      have hno : ∀ j (hj : j < cl.length), cl[j].1 ≠ (p, i) := fun j hj => HW.out j hj hj
      have HNo := Lib.hid hno
      clear hno HW
      have hone : ∀ u ∈ (#[.int .i64 p, .int .i64 i, .int .i64 1] : Array Value).toList, u.oneCell' = true := by intro u hu; simp at hu; rcases hu with rfl | rfl | rfl <;> rfl
      have HOne := Lib.hid hone
      clear hone
      go_wp2_with (at_builtin; refine wpList_appB etCnt rfl (.tmp 45) (.tmp 49) rfl #[.int .i64 p, .int .i64 i, .int .i64 1] 150 rfl HOne.out B _ cl.length (rcells cntC cl) wr.heap.size rfl rfl rfl HM.out.1 (by omega) hB ?_)
      intro v' w' ho' hk' hn'
      have H2 := Lib.hid (And.intro ho' hk')
      clear ho' hk' hn'
      have h0 := Lib.hid (cnt_miss HNo.out)
      go_wp2_with fail
      go_ret2
      refine ⟨⟨v', cl ++ [((p, i), 1)], by rw [h0.out]; rfl, ?_, cnt_app HNo.out, by simp⟩, H2.out.2⟩
      have e : rcells cntC (cl ++ [((p, i), 1)]) = rcells cntC cl ++ [.int .i64 p, .int .i64 i, .int .i64 1] := by rw [rcells_append]; simp [rcells, cntC]
      rw [e]
      simpa using H2.out.1
end Go.Proofs.Ytfpcmleeehciaaa
namespace Go.Proofs.Ytfpcmleeehciaaa
set_option linter.unusedVariables false
set_option linter.unusedSimpArgs false
open Go.RowKit Go.Shelf

theorem netx (a b : List UInt8) (w : World) : Sem.run Try.prog (binOp BinOp.neq 9 (tx a) (tx b)) w = .ok (.bool (decide (a ≠ b))) w := by
  by_cases h : a = b
  · subst h
    rw [decide_eq_false (by simp)]
    go_simp
  · rw [decide_eq_true h]
    have hb : (a == b) = false := by simpa using h
    go_simp
theorem eqtx (a b : List UInt8) (w : World) : Sem.run Try.prog (binOp BinOp.eql 9 (tx a) (tx b)) w = .ok (.bool (decide (a = b))) w := by
  by_cases h : a = b
  · subst h
    rw [decide_eq_true rfl]
    go_simp
  · rw [decide_eq_false h]
    have hb : (a == b) = false := by simpa using h
    go_simp
/-- What stands behind k marks. -/
structure EightI (w1 wr : World) (hs : List MkV) (s : StanD) (m : MarkD) (cv : Value) (k : Nat) (cl : List Cnt1) : Prop where
  own : wr.ownsRow w1.heap.size 150 3 cv cl.length (rcells cntC cl)
  le : cl.length ≤ k
  cnt : ∀ y, cntOf cl y = delC (dsOf (hs.take k)) y m.id
  fresh : Fresh w1 wr
  all : (List.range k).all (eightK (dsOf hs) s m) = true
theorem eight_at {hs : List MkV} {k : Nat} {y : MkV} (hy : ∃ hl : k < hs.length, y = hs[k]) (s : StanD) (m : MarkD) : eightK (dsOf hs) s m k = (!(decide (y.d.kind = 8) && decide (y.d.id = m.id)) || (!(decide (delC (dsOf (hs.take (k + 1))) y.d.who m.id = s.del + 1) && !decide (y.d.who = m.who)) || decide (y.d.told = m.told))) := by
  obtain ⟨hl, rfl⟩ := hy
  unfold eightK
  rw [List.getElem?_eq_getElem (by rw [dsOf_len]; exact hl), dsOf_get hl]
  have e : (dsOf hs).take (k + 1) = dsOf (hs.take (k + 1)) := (List.map_take).symm
  rw [e]
theorem range_all_snoc (f : Nat → Bool) (k : Nat) : (List.range (k + 1)).all f = ((List.range k).all f && f k) := by
  rw [List.range_succ, List.all_append]
  simp
theorem range_all_false {f : Nat → Bool} {k n : Nat} (hk : k < n) (h : f k = false) : (List.range n).all f = false := List.all_eq_false.2 ⟨k, List.mem_range.2 hk, by rw [h]; decide⟩

set_option maxRecDepth 20000 in
set_option maxHeartbeats 4000000 in
theorem rule8_any (A : Option Addr) (n c : Nat) (hs : List MkV) (s : StanD) (vm : Value) (x : MkV) (w : World) (h : MksA w A n hs) (hx : MkA w x) (hsd : s.del ≤ 1048576) :
    Calls Try.prog 31 #[.slice A n c, .agg (stanV s vm), .agg x.cells.toArray] w fun e w' => e = .returned (.bool (rule8D (dsOf hs) s x.d)) ∧ Fresh w w' := by
  have HM := Lib.hid (And.intro h hx)
  have hle := h.m.le
  clear h hx
  obtain ⟨R, hR⟩ : ∃ R, R = rule8D (dsOf hs) s x.d := ⟨_, rfl⟩
  rw [← hR]
  have HR : Hid (R = (List.range n).all (eightK (dsOf hs) s x.d)) := Lib.hid (by rw [hR]; unfold rule8D; rw [dsOf_len, HM.out.1.m.len])
  clear hR
  go_enter Try.func31, Try.ntmps31
  go_upto_region 1 with (fail)
  obtain ⟨w1, hw1⟩ : ∃ w1, w1 = (w.alloc (.cells (stanV s vm) 87)).alloc (.cells x.cells.toArray 50) := ⟨_, rfl⟩
  obtain ⟨b5, hb5⟩ : ∃ b, b = w.heap.size + 1 := ⟨_, rfl⟩
  obtain ⟨b4, hb4⟩ : ∃ b, b = w.heap.size := ⟨_, rfl⟩
  rw [← hw1, ← hb5, ← hb4]
  have h2 := two_boxes w s vm x
  rw [← hw1, ← hb5, ← hb4] at h2
  have H1 := Lib.hid h2
  clear h2 hw1 hb5 hb4
  go_wp2_with fail
  go_loopw [7, 8, 9] (fun qv nv iv wr => ∃ (k : Nat) (z : Int) (cv : Value), k ≤ n ∧ cv = qv ∧ nv = .int .i64 z ∧ iv = .int .i64 (k : Int) ∧ Hid (∃ cl, EightI w1 wr hs s x.d cv k cl)) (fun _ _ i _ => n - (intOf i).toNat)
  case atStart => exact ⟨0, 0, _, Nat.zero_le _, rfl, rfl, rfl, Lib.hid ⟨[], World.ownsRow_nil _ _ _ _, Nat.le_refl _, fun _ => rfl, Keep.refl _ _, rfl⟩⟩
  case round =>
    rename World => wr
    obtain ⟨k, z, cv, hk, rfl, rfl, rfl, HW⟩ := hrel
    by_cases hlt : k < n
    · obtain ⟨cl, hI⟩ := HW.out
      have hMr := HM.out.1.fresh (H1.out.2.2.trans hI.fresh)
      obtain ⟨b, o, y, rfl, hat⟩ := hMr.at1 hlt
      have HA := Lib.hid hat
      have HI := Lib.hid hI
      clear hat hI hMr HW
      go_wp2_with (first | (refine wpList_load_mid rfl 50 _ rfl b (o + k * 26) rfl y.cells _ HA.out.rng Try.underlying50 rfl (by kernel_rfl) ?_) | (refine wpList_store_new rfl (.tmp 10) (.tmp 20) rfl _ y.cells.toArray _ rfl rfl rfl (by kernel_rfl) (Array.all_eq_true_iff_forall_mem.2 fun u hu => mk_one HA.out.one u (by simpa using hu)) ?_))
      intro w2 hb2 hf2 hs2
      obtain ⟨c9, hc9⟩ : ∃ b, b = wr.heap.size := ⟨_, rfl⟩
      rw [← hc9] at hb2 ⊢
      have hyb : MkB w2 c9 y := ⟨hb2⟩
      have hxb : MkB w2 b5 x := ⟨H1.out.2.1.blk.keep (HI.out.fresh.trans hf2) trivial⟩
      have H2 := Lib.hid (And.intro hf2 (And.intro hyb (And.intro hxb hc9)))
      have y1 := hyb.kind; have y2 := hyb.node; have y3 := hyb.inc; have y4 := hyb.e1; have y5 := hyb.e2; have y6 := hyb.e3; have y7 := hyb.e4
      have x4 := hxb.e1; have x5 := hxb.e2; have x6 := hxb.e3; have x7 := hxb.e4
      have ly := hyb.blk.lt; have lx := hxb.blk.lt
      have Q := fun w => neview y.d.id x.d.id w
      obtain ⟨r, hr⟩ : ∃ r, r = decide (y.d.id ≠ x.d.id) := ⟨_, rfl⟩
      rw [← hr] at Q
      simp only [MarkD.id] at Q
      obtain ⟨zk, hzk⟩ : ∃ z, z = y.d.kind := ⟨_, rfl⟩
      rw [← hzk] at y1
      have h8 := eight_at HA.out.at_ s x.d
      have hii : (decide (y.d.kind = 8) && decide (y.d.id = x.d.id)) = (decide (zk = 8) && !r) := by rw [hzk, hr]; simp
      rw [hii] at h8
      have hcs : ∀ u, delC (dsOf (hs.take (k + 1))) u x.d.id = cntOf cl u + (if u = y.d.who ∧ (decide (zk = 8) && !r) = true then 1 else 0) := fun u => by
        rw [dsOf_snoc HA.out.at_, delC_snoc, ← HI.out.cnt]
        congr 1
        have e : isDel u x.d.id y.d = (decide (u = y.d.who) && (decide (zk = 8) && !r)) := by
          rw [← hii]
          unfold isDel
          have : decide (y.d.who = u) = decide (u = y.d.who) := decide_eq_decide.2 ⟨Eq.symm, Eq.symm⟩
          rw [this]
          cases decide (y.d.kind = 8) <;> cases decide (u = y.d.who) <;> simp
        rw [e]
        by_cases hu : u = y.d.who <;> simp [hu]
      have HK := Lib.hid (And.intro h8 hcs)
      have hlc : cl.length ≤ 1048576 := by have := HI.out.le; omega
      clear hb2 hf2 hs2 hc9 hyb hxb hr hzk h8 hii hcs
      by_cases hdel : zk = 8 ∧ r = false
      · obtain ⟨rfl, rfl⟩ := hdel
        have hown := own_keep HI.out.own H2.out.1 (fun _ _ => trivial)
        have HCt := Lib.hid (counted_any w1.heap.size cv cl y.d.node y.d.inc w2 hown (Nat.le_trans HI.out.fresh.size H2.out.1.size) hlc (fun u => by
          rw [HI.out.cnt]
          have := ds_count_le hs k (isDel u x.d.id)
          unfold delC
          omega))
        clear hown
        go_wp2_with fail
        refine Calls.mono HCt.out ?_
        rintro e w3 ⟨⟨cv', cl', rfl, ho', hc', hl'⟩, hk3⟩
        have hlow : ∀ j, j < w1.heap.size → cv.ownBlock ≠ some j := fun j hj e => by have := (own_lt HI.out.own e).1; omega
        have hf3 : Fresh w1 w3 := (HI.out.fresh.trans H2.out.1).comp hk3 (fun _ _ h => h) (fun j hj _ => hlow j hj)
        have hc9n : cv.ownBlock ≠ some c9 := fun e => by have := (own_lt HI.out.own e).2; rw [H2.out.2.2.2] at this; omega
        have hy3 : MkB w3 c9 y := ⟨H2.out.2.1.blk.keep hk3 hc9n⟩
        have hx3 : MkB w3 b5 x := ⟨H1.out.2.1.blk.keep hf3 trivial⟩
        have hs3 : StB w3 b4 s vm := H1.out.1.fresh hf3
        obtain ⟨N, hN⟩ : ∃ N, N = cntOf cl (y.d.node, y.d.inc) + 1 := ⟨_, rfl⟩
        have hNl : N ≤ 1048577 := by rw [hN, HI.out.cnt]; have := ds_count_le hs k (isDel (y.d.node, y.d.inc) x.d.id); unfold delC; omega
        rw [← hN]
        have HN := Lib.hid hN
        have hi3 : ∀ (hall : eightK (dsOf hs) s x.d k = true), EightI w1 w3 hs s x.d cv' (k + 1) cl' := fun hall => ⟨ho', by have := HI.out.le; omega, fun u => by
            rw [hc', HK.out.2]
            congr 1
            show (if u = y.d.who then 1 else 0) = _
            by_cases hu : u = y.d.who
            · rw [if_pos hu, if_pos ⟨hu, by simp⟩]
            · rw [if_neg hu, if_neg (fun a => hu a.1)], hf3, by rw [range_all_snoc, HI.out.all, hall]; rfl⟩
        have HI3 := Lib.hid hi3
        have hbad : eightK (dsOf hs) s x.d k = false → R = false := fun hb => by rw [HR.out]; exact range_all_false hlt hb
        have HBad := Lib.hid hbad
        have y2 := hy3.node; have y3 := hy3.inc; have y10 := hy3.sender; have y11 := hy3.seq; have y12 := hy3.pos
        have x2 := hx3.node; have x3 := hx3.inc; have x10 := hx3.sender; have x11 := hx3.seq; have x12 := hx3.pos
        have s12 := hs3.del
        have ly := hy3.blk.lt; have lx := hx3.blk.lt; have ls := hs3.blk.lt
        have hok3 : MkOk w3 (fun _ => True) y := by
          obtain ⟨hl, rfl⟩ := HA.out.at_
          exact (HM.out.1.fresh (H1.out.2.2.trans hf3)).ok _ (List.getElem_mem hl)
        obtain ⟨Ay, cy, hvy, -, -, hry⟩ := hok3.b
        obtain ⟨Ax, cx, hvx, -, -, hrx⟩ := (HM.out.2.fresh (H1.out.2.2.trans hf3)).ok.b
        have y14 := hy3.vb.trans (congrArg some hvy)
        have x14 := hx3.vb.trans (congrArg some hvx)
        have cvy : (convert 43 9 (.slice Ay y.d.body.length cy)).run Try.prog w3 = .ok (tx y.d.body) w3 := run_conv_str Try.underlying43 Try.underlying5 Try.underlying9 hry cy
        have cvx : (convert 43 9 (.slice Ax x.d.body.length cx)).run Try.prog w3 = .ok (tx x.d.body) w3 := run_conv_str Try.underlying43 Try.underlying5 Try.underlying9 hrx cx
        obtain ⟨tb, htb⟩ : ∃ q, q = decide (y.d.body ≠ x.d.body) := ⟨_, rfl⟩
        have BQ : Hid ((y.d.body == x.d.body) = !tb) := Lib.hid (by rw [htb]; by_cases a : y.d.body = x.d.body <;> simp [a])
        obtain ⟨sd, hsd⟩ : ∃ z, z = s.del := ⟨_, rfl⟩
        rw [← hsd] at s12
        have ws : IntKind.i64.wrap ((sd : Int) + 1) = (sd : Int) + 1 := by rw [IntWalk.i64_in _ (by omega)]
        obtain ⟨yn, hyn⟩ : ∃ z, z = y.d.node := ⟨_, rfl⟩
        obtain ⟨yi, hyi⟩ : ∃ z, z = y.d.inc := ⟨_, rfl⟩
        obtain ⟨xn, hxn⟩ : ∃ z, z = x.d.node := ⟨_, rfl⟩
        obtain ⟨xi, hxi⟩ : ∃ z, z = x.d.inc := ⟨_, rfl⟩
        obtain ⟨yp, hyp⟩ : ∃ z, z = y.d.pos := ⟨_, rfl⟩
        obtain ⟨ys, hys⟩ : ∃ z, z = y.d.sender := ⟨_, rfl⟩
        obtain ⟨yq, hyq⟩ : ∃ z, z = y.d.seq := ⟨_, rfl⟩
        obtain ⟨xp, hxp⟩ : ∃ z, z = x.d.pos := ⟨_, rfl⟩
        obtain ⟨xs, hxs⟩ : ∃ z, z = x.d.sender := ⟨_, rfl⟩
        obtain ⟨xq, hxq⟩ : ∃ z, z = x.d.seq := ⟨_, rfl⟩
        have hwho : decide (y.d.who = x.d.who) = (decide (yn = xn) && decide (yi = xi)) := by
          rw [hyn, hyi, hxn, hxi, ← Bool.decide_and]
          apply decide_eq_decide.2
          exact ⟨fun e => by injection e with e1 e2; exact ⟨e1, e2⟩, fun ⟨e1, e2⟩ => Prod.ext e1 e2⟩
        have htold : decide (y.d.told = x.d.told) = (decide (yp = xp) && (decide (ys = xs) && (decide (yq = xq) && !tb))) := by
          rw [hyp, hys, hyq, hxp, hxs, hxq, htb]
          simp only [decide_not, Bool.not_not]
          rw [← Bool.decide_and, ← Bool.decide_and, ← Bool.decide_and]
          apply decide_eq_decide.2
          unfold MarkD.told
          constructor
          · intro e; injection e with e1 e2 e3 e4; exact ⟨e1, e2, e3, e4⟩
          · rintro ⟨e1, e2, e3, e4⟩; rw [e1, e2, e3, e4]
        have hN1 : delC (dsOf (hs.take (k + 1))) y.d.who x.d.id = N := by
          rw [HK.out.2, if_pos ⟨rfl, by simp⟩, hN]
          rfl
        have h8 : eightK (dsOf hs) s x.d k = (!(decide (N = sd + 1) && !(decide (yn = xn) && decide (yi = xi))) || (decide (yp = xp) && (decide (ys = xs) && (decide (yq = xq) && !tb)))) := by
          rw [HK.out.1, hN1, hwho, htold, hsd]
          simp
        have H8 := Lib.hid h8
        rw [← hyn] at y2; rw [← hyi] at y3; rw [← hys] at y10; rw [← hyq] at y11; rw [← hyp] at y12
        rw [← hxn] at x2; rw [← hxi] at x3; rw [← hxs] at x10; rw [← hxq] at x11; rw [← hxp] at x12
        have hgood : Hid (∀ w', Fresh w3 w' → eightK (dsOf hs) s x.d k = true → ∃ cl, EightI w1 w' hs s x.d cv' (k + 1) cl) := Lib.hid (fun w' hf hb => by
          have h1 := hi3 hb
          exact ⟨cl', own_keep h1.own hf (fun _ _ => trivial), h1.le, h1.cnt, h1.fresh.trans hf, h1.all⟩)
        have HF3 := Lib.hid hf3
        clear hok3 hvy hry hvx hrx htb hsd hyn hyi hxn hxi hyp hys hyq hxp hxs hxq hwho htold hN1 h8 hi3 hbad hy3 hx3 hs3 ho' hc' hl' hk3 hlow hf3 hc9n hN y4 y5 y6 y7 x4 x5 x6 x7 Q HCt y1
        obtain ⟨q58, hq58⟩ : ∃ q, q = (decide (N = sd + 1) && !(decide (yn = xn) && decide (yi = xi))) := ⟨_, rfl⟩
        have H8q : Hid (eightK (dsOf hs) s x.d k = (!q58 || (decide (yp = xp) && (decide (ys = xs) && (decide (yq = xq) && !tb))))) := Lib.hid (by rw [H8.out, hq58])
        have HQ58 := Lib.hid hq58
        clear hq58 H8
        go_upto_region 9 with (fail)
        go_cut [58] (fun s58 wb => s58 = .bool q58 ∧ wb = w3)
        case first =>
          by_cases a1 : N = sd + 1
          · have b1 : ((N : Int) == (sd : Int) + 1) = true := by simpa using (show (N : Int) = (sd : Int) + 1 by omega)
            have HD1 := Lib.hid (decide_eq_true a1)
            clear a1
            by_cases a2 : yn = xn
            · subst a2
              by_cases a3 : yi = xi
              · subst a3
                go_wp2_with fail
                go_meet
                exact ⟨by rw [HQ58.out]; simp, rfl⟩
              · have b3 : (yi != xi) = true := by simpa using a3
                have HA3 := Lib.hid (decide_eq_false a3)
                clear a3
                go_wp2_with fail
                go_meet
                exact ⟨by rw [HQ58.out, HD1.out, HA3.out]; simp, rfl⟩
            · have b2 : (yn != xn) = true := by simpa using a2
              have HA2 := Lib.hid (decide_eq_false a2)
              clear a2
              go_wp2_with fail
              go_meet
              exact ⟨by rw [HQ58.out, HD1.out, HA2.out]; simp, rfl⟩
          · have b1 : ((N : Int) == (sd : Int) + 1) = false := by simpa using (show ¬ (N : Int) = (sd : Int) + 1 by omega)
            have HD1 := Lib.hid (decide_eq_false a1)
            clear a1
            go_wp2_with fail
            go_meet
            exact ⟨by rw [HQ58.out, HD1.out]; simp, rfl⟩
        case rest =>
        obtain ⟨rfl, rfl⟩ := hcut
        rename World => w4
        clear HQ58 y2 y3 x2 x3 s12 ws
        cases q58
        · obtain ⟨cl2, hcl2⟩ := hgood.out w4 (Keep.refl _ _) (by rw [H8q.out]; rfl)
          have HE := Lib.hid hcl2
          clear hcl2
          go_wp2_with fail
          exact ⟨⟨k + 1, (N : Int), _, by omega, rfl, rfl, by simp, Lib.hid ⟨cl2, HE.out⟩⟩, by simp [intOf]; omega⟩
        · by_cases e1 : yp = xp
          · subst e1
            by_cases e2 : ys = xs
            · subst e2
              by_cases e3 : yq = xq
              · subst e3
                cases tb
                · have bq : (y.d.body == x.d.body) = true := BQ.out
                  obtain ⟨cl2, hcl2⟩ := hgood.out w4 (Keep.refl _ _) (by rw [H8q.out]; simp)
                  have HE := Lib.hid hcl2
                  clear hcl2
                  go_wp2_with fail
                  exact ⟨⟨k + 1, (N : Int), _, by omega, rfl, rfl, by simp, Lib.hid ⟨cl2, HE.out⟩⟩, by simp [intOf]; omega⟩
                · have bq : (y.d.body == x.d.body) = false := BQ.out
                  obtain rfl : R = false := HBad.out (by rw [H8q.out]; simp)
                  go_wp2_with fail
                  go_ret
                  exact ⟨rfl, H1.out.2.2.trans HF3.out⟩
              · have b3 : (yq != xq) = true := by simpa using e3
                obtain rfl : R = false := HBad.out (by rw [H8q.out, decide_eq_false e3]; simp)
                clear e3
                go_wp2_with fail
                go_ret
                exact ⟨rfl, H1.out.2.2.trans HF3.out⟩
            · have b3 : (ys != xs) = true := by simpa using e2
              obtain rfl : R = false := HBad.out (by rw [H8q.out, decide_eq_false e2]; simp)
              clear e2
              go_wp2_with fail
              go_ret
              exact ⟨rfl, H1.out.2.2.trans HF3.out⟩
          · have b3 : (yp != xp) = true := by simpa using e1
            obtain rfl : R = false := HBad.out (by rw [H8q.out, decide_eq_false e1]; simp)
            clear e1
            go_wp2_with fail
            go_ret
            exact ⟨rfl, H1.out.2.2.trans HF3.out⟩
      · have HE : Hid (eightK (dsOf hs) s x.d k = true) := Lib.hid (by
          rw [HK.out.1]
          have : (decide (zk = 8) && !r) = false := by
            by_cases a : zk = 8
            · cases r
              · exact absurd ⟨a, rfl⟩ hdel
              · simp
            · simp [a]
          rw [this]; rfl)
        have hI2 : EightI w1 w2 hs s x.d cv (k + 1) cl := ⟨own_keep HI.out.own H2.out.1 (fun _ _ => trivial), by have := HI.out.le; omega, fun u => by
          rw [HK.out.2, if_neg]
          · rfl
          · rintro ⟨_, a⟩
            simp at a
            exact hdel a, HI.out.fresh.trans H2.out.1, by rw [range_all_snoc, HI.out.all, HE.out]; rfl⟩
        have HI2 := Lib.hid hI2
        clear hI2
        by_cases a : zk = 8
        · subst a
          have hr1 : r = true := by cases r; exact absurd ⟨rfl, rfl⟩ hdel; rfl
          subst hr1
          clear hdel
          go_wp2_with fail
          exact ⟨⟨k + 1, z, _, by omega, rfl, rfl, by simp, Lib.hid ⟨cl, HI2.out⟩⟩, by simp [intOf]; omega⟩
        · have b8 : (zk != 8) = true := by simpa using a
          clear hdel a
          go_wp2_with fail
          exact ⟨⟨k + 1, z, _, by omega, rfl, rfl, by simp, Lib.hid ⟨cl, HI2.out⟩⟩, by simp [intOf]; omega⟩
    · obtain rfl : k = n := by omega
      obtain ⟨cl, hI⟩ := HW.out
      obtain rfl : R = true := by rw [HR.out, hI.all]
      have HF := Lib.hid hI.fresh
      clear HW HR hI
      go_wp2_with fail
      go_ret
      exact ⟨rfl, H1.out.2.2.trans HF.out⟩
end Go.Proofs.Ytfpcmleeehciaaa
