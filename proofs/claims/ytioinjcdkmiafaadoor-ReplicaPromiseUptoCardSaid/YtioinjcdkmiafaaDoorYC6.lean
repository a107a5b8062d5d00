/-
  MERGED: RepL
-/
import Derived.Test.YtioinjcdkmiafaaDoorYA8
import Derived.Test.YtioinjcdkmiafaaDoorYB1
import Derived.Test.YtioinjcdkmiafaaDoorYC5
import Derived.Deep.RegionHeld3
import Derived.Deep.DeepCutAuto
namespace Go.Proofs.YtioinjcdkmiafaaDoor
set_option linter.unusedVariables false
set_option linter.unusedSimpArgs false
open Go.RowKit

/-! ### what 'log' reads, from a place on -/
section
variable (bs : Txt) (p : Nat) (b : Bool)
def lg1 : Nat × Nat × Bool := rCount bs p b mxC
def lg2 : Nat × Nat × Bool := rCount bs (lg1 bs p b).2.1 (lg1 bs p b).2.2 mxC
def lg3 : Txt × Nat × Bool := rText bs (lg2 bs p b).2.1 (lg2 bs p b).2.2 mxC
noncomputable def lgb3 : Bool := (lg3 bs p b).2.2 || !shotB (lg3 bs p b).1
noncomputable def lg4 : Nat × Nat × Bool := rCount bs (lg3 bs p b).2.1 (lgb3 bs p b) mxC
noncomputable def lgb4 : Bool := (lg4 bs p b).2.2 || decide (16 < (lg4 bs p b).1)
noncomputable def lgEnd : Nat × Bool := repLoop bs (lg4 bs p b).1 (lg4 bs p b).2.1
noncomputable def lgBad : Bool := lgb4 bs p b || ((lgEnd bs p b).2 || !decide (((lg2 bs p b).1 : Int) ≤ mxC - ((lg4 bs p b).1 : Int)))
end
theorem repLoop_le (bs : Txt) : ∀ (n p : Nat), p ≤ bs.length → (repLoop bs n p).1 ≤ bs.length
  | 0, p, h => h
  | n + 1, p, h => by
    have h1 := rText_le bs p false mxC h
    unfold repLoop
    split
    · exact h1
    · split
      · exact repLoop_le bs n _ h1
      · exact h1
theorem rText_lenB (bs : Txt) (p : Nat) (b : Bool) (m : Int) : (rText bs p b m).1.length ≤ bs.length := by
  unfold rText
  split
  · exact Nat.zero_le _
  · simp only [List.length_take, List.length_drop]
    omega
theorem shot_yes {l : Txt} (h : ∃ s, Restored l s) : shotB l = true := by
  unfold shotB
  simpa using h
theorem shot_no {l : Txt} (h : ¬ ∃ s, Restored l s) : shotB l = false := by
  unfold shotB
  simpa using h
theorem amiss_eql {bd : Bool} {ev : Value} (h : Amiss bd ev) (u : World) : Sem.run Tryd.prog (binOp BinOp.eql 34 ev .nilIface) u = .ok (.bool (!bd)) u := by
  rcases h with ⟨rfl, rfl⟩ | ⟨rfl, t, v, rfl, -⟩
  · go_simp
  · go_simp
theorem amiss_neq {bd : Bool} {ev : Value} (h : Amiss bd ev) (u : World) : Sem.run Tryd.prog (binOp BinOp.neq 34 ev .nilIface) u = .ok (.bool bd) u := by
  rcases h with ⟨rfl, rfl⟩ | ⟨rfl, t, v, rfl, -⟩
  · go_simp
  · go_simp
theorem amiss_grd {bd : Bool} {ev : Value} (h : Amiss bd ev) (op : BinOp) (o1 : Operand) (u : World) : Sem.run Tryd.prog (eqGuard op 34 o1 (.const .nilIface) ev .nilIface) u = .ok () u := by
  rcases h with ⟨rfl, rfl⟩ | ⟨rfl, t, v, rfl, -⟩
  · cases op <;> go_simp
  · cases op <;> go_simp
/-- What 'log' leaves. -/
def LogPost (g : Nat) (A : Option Addr) (n c : Nat) (bs : Txt) (z : Int) (p : Nat) (b : Bool) (w : World) (e : Ending) (w' : World) : Prop :=
  (∃ vs vt, e = .returned (.agg #[.int .i64 ((lg1 bs p b).1 : Int), .int .i64 ((lg2 bs p b).1 : Int), vs, vt]) ∧ vs.oneCell' = true ∧ vt.oneCell' = true) ∧ (∃ q, PR w' g A n c z q (lgBad bs p b) ∧ q ≤ n ∧ (lgBad bs p b = false → q = (lgEnd bs p b).1)) ∧ Keep (fun k => k ≠ g) w w'
theorem own_cap6 {w : World} {base e size n c : Nat} {A : Option Addr} {xs : List Value} (h : w.ownsRow base e size (.slice A n c) n xs) : n ≤ c ∧ (n = 0 → c = 0 ∨ A ≠ none) := by
  rcases h.2 with ⟨e1, e2⟩ | ⟨g, cap, cur, e1, hb, hh, hn, hm, hs, ht⟩
  · injection e1 with h1 h2 h3
    exact ⟨by omega, fun _ => .inl (by omega)⟩
  · injection e1 with h1 h2 h3
    exact ⟨by omega, fun _ => .inr (by rw [h1]; simp)⟩
/-- What stands through 'log'. -/
structure LogI (g : Nat) (A : Option Addr) (n c : Nat) (bs : Txt) (z : Int) (w : World) (b2 : Nat) (u : World) (q : Nat) (bd : Bool) : Prop where
  pr : PR u g A n c z q bd
  le : q ≤ n
  keep : Keep (fun k => k ≠ g) w u
  res : Blk u b2 32 #[.int .i64 0, .int .i64 0, .slice none 0 0, .slice none 0 0]
theorem LogI.next {g : Nat} {A : Option Addr} {n c : Nat} {bs : Txt} {z : Int} {w : World} {b2 : Nat} {u u' : World} {q q' : Nat} {bd bd' : Bool} (h : LogI g A n c bs z w b2 u q bd) (hp : PR u' g A n c z q' bd') (hq : q' ≤ n) (hk : Keep (fun k => k ≠ g) u u') (h2 : b2 ≠ g) : LogI g A n c bs z w b2 u' q' bd' :=
  ⟨hp, hq, h.keep.trans hk, h.res.keep hk h2⟩
/-- .. and the state that grows. -/
structure LogT (g : Nat) (A : Option Addr) (n c : Nat) (bs : Txt) (z : Int) (w : World) (b2 b3 : Nat) (v1 v2 : Nat) (vs vt : Value) (u : World) (q : Nat) (bd : Bool) : Prop where
  i : LogI g A n c bs z w b2 u q bd
  st : Blk u b3 32 #[.int .i64 (v1 : Int), .int .i64 (v2 : Int), vs, vt]
  ne : b3 ≠ g ∧ b3 ≠ b2
  one : vs.oneCell' = true ∧ vt.oneCell' = true
  lo : w.heap.size ≤ b3
theorem LogT.next {g : Nat} {A : Option Addr} {n c : Nat} {bs : Txt} {z : Int} {w : World} {b2 b3 v1 v2 : Nat} {vs vt : Value} {u u' : World} {q q' : Nat} {bd bd' : Bool} (h : LogT g A n c bs z w b2 b3 v1 v2 vs vt u q bd) (hp : PR u' g A n c z q' bd') (hq : q' ≤ n) (hk : Keep (fun k => k ≠ g) u u') (h2 : b2 ≠ g) : LogT g A n c bs z w b2 b3 v1 v2 vs vt u' q' bd' :=
  ⟨h.i.next hp hq hk h2, h.st.keep hk h.ne.1, h.ne, h.one, h.lo⟩
theorem LogT.ev {g : Nat} {A : Option Addr} {n c : Nat} {bs : Txt} {z : Int} {w : World} {b2 b3 v1 v2 : Nat} {vs vt : Value} {u : World} {q : Nat} {bd : Bool} (h : LogT g A n c bs z w b2 b3 v1 v2 vs vt u q bd) : ∃ ev, u.cell? ⟨g, 3, none⟩ = some ev ∧ Amiss bd ev ∧ g < u.heap.size := by
  obtain ⟨ev, h1, h2⟩ := h.i.pr
  exact ⟨ev, h1.cell 3, h2, h1.lt⟩
theorem cmd_info2 : (Tryd.prog.info? 57).map (fun i => (i.zero, i.size, i.bytes)) = some (some (cmdV 0 0 0 0 [] [] []), 7, 80) := by kernel_rfl
theorem etCmdP : ET Tryd.prog 30 57 7 80 (cmdV 0 0 0 0 [] [] []) := ⟨Tryd.underlying30, cmd_info2, rfl, by decide, by decide⟩
theorem cmd_ones (a1 a2 a3 a4 : Int) (t1 t2 t3 : List UInt8) : ∀ u ∈ ([.int .i64 a1, .int .i64 a2, .int .i64 a3, .int .i64 a4, str t1, str t2, str t3] : List Value), u.oneCell' = true := by
  intro u hu
  simp only [List.mem_cons, List.not_mem_nil, or_false] at hu
  rcases hu with rfl | rfl | rfl | rfl | rfl | rfl | rfl <;> rfl
theorem cmd_new (w : World) (a1 a2 a3 a4 : Int) (t1 t2 t3 : List UInt8) : Rd (w.alloc (.cells #[.int .i64 a1, .int .i64 a2, .int .i64 a3, .int .i64 a4, str t1, str t2, str t3] 57)) (fun _ => True) 7 (some ⟨w.heap.size, 0, none⟩) 1 [.int .i64 a1, .int .i64 a2, .int .i64 a3, .int .i64 a4, str t1, str t2, str t3] :=
  ⟨rfl, fun _ => ⟨_, _, rfl, trivial, fun j u hu => by
    have h := blk_range (Blk.new w 57 #[.int .i64 a1, .int .i64 a2, .int .i64 a3, .int .i64 a4, str t1, str t2, str t3]) j u (by simpa using hu)
    simpa using h⟩⟩
/-- An entry more. -/
theorem log_put {g : Nat} {A : Option Addr} {n c : Nat} {bs : Txt} {z : Int} {w wq : World} {b2 b3 v1 v2 m : Nat} {vs vt v' : Value} {u u' : World} {q : Nat} {bd : Bool} {ys : List Value} (h : LogT g A n c bs z w b2 b3 v1 v2 vs vt u q bd) (hu : u' = u.setCell ⟨b3, 3, none⟩ v') (ho : u.ownsRow wq.heap.size 57 7 v' (m + 1) ys) (hw : g < wq.heap.size ∧ b3 < wq.heap.size ∧ b2 < wq.heap.size) :
    LogT g A n c bs z w b2 b3 v1 v2 vs v' u' q bd ∧ u'.ownsRow wq.heap.size 57 7 v' (m + 1) ys := by
  have hk : Keep (fun j => j ≠ b3) u u' := by rw [hu]; exact (Keep.refl _ _).setCell (fun _ e => e rfl) _
  obtain ⟨A', c', rfl, -, -⟩ := own_rd ho
  exact ⟨⟨⟨h.i.pr.keep hk (Ne.symm h.ne.1), h.i.le, h.i.keep.comp hk (fun _ _ h => h) (fun j hj _ e => by have := h.lo; omega), h.i.res.keep hk (Ne.symm h.ne.2)⟩, by rw [hu]; exact h.st.set 3 _, h.ne, ⟨h.one.1, rfl⟩, h.lo⟩, own_keep ho hk (fun j hj e => by have := (own_lt ho hj).1; omega)⟩
theorem log_good {bs : Txt} {v4 q4 q q' i m : Nat} {l' : Txt} {d' bd : Bool} (hb : bd = false) (h : repLoop bs (v4 - i) q = repLoop bs v4 q4) (hm : m = i) (hi : i < v4) (ht : (l', q', d') = rText bs q false mxC) : (d' || !decOk l') = false → bd = false ∧ repLoop bs (v4 - (i + 1)) q' = repLoop bs v4 q4 ∧ m + 1 = i + 1 := fun e => by
  refine ⟨hb, ?_, by omega⟩
  obtain ⟨k, hk⟩ : ∃ k, v4 - i = k + 1 := ⟨v4 - i - 1, by omega⟩
  rw [← h, hk, show v4 - (i + 1) = k by omega]
  conv => rhs; unfold repLoop
  rw [← ht]
  cases d'
  · simp at e
    simp [e]
  · cases e
theorem log_bad {bs : Txt} {v4 q4 q q' i : Nat} {l' : Txt} {d' bd : Bool} (h : repLoop bs (v4 - i) q = repLoop bs v4 q4) (hi : i < v4) (ht : (l', q', d') = rText bs q false mxC) : (d' || !decOk l') = true → (bd || (repLoop bs v4 q4).2) = true := fun e => by
  obtain ⟨k, hk⟩ : ∃ k, v4 - i = k + 1 := ⟨v4 - i - 1, by omega⟩
  have h2 : (repLoop bs v4 q4).2 = true := by
    rw [← h, hk]
    unfold repLoop
    rw [← ht]
    cases d'
    · simp at e
      simp [e]
    · rfl
  rw [h2, Bool.or_true]
theorem or_bad {a b : Bool} (h : (a || b) = true) (c : Bool) : (a || (b || c)) = true := by
  cases a <;> cases b <;> simp_all
/-- The state, stored where it is answered. -/
theorem log_fin {g : Nat} {A : Option Addr} {n c : Nat} {bs : Txt} {z : Int} {w : World} {b2 b3 v1 v2 : Nat} {vs vt : Value} {u u' : World} {q : Nat} {bd : Bool} (h : LogT g A n c bs z w b2 b3 v1 v2 vs vt u q bd) (hu : u' = u.setCells b2 0 [.int .i64 (v1 : Int), .int .i64 (v2 : Int), vs, vt]) (hne : b2 ≠ g) (hlo : w.heap.size ≤ b2) :
    Blk u' b2 32 #[.int .i64 (v1 : Int), .int .i64 (v2 : Int), vs, vt] ∧ PR u' g A n c z q bd ∧ Keep (fun k => k ≠ g) w u' := by
  have hk : Keep (fun k => k ≠ b2) u u' := by rw [hu]; exact Keep.setCells _ _ _ (Keep.refl _ _) (fun _ e => e rfl)
  obtain ⟨ds, h1, h2⟩ := Blk.setCells [.int .i64 (v1 : Int), .int .i64 (v2 : Int), vs, vt] 0 _ _ h.i.res (by simp)
  have e : ds = #[.int .i64 (v1 : Int), .int .i64 (v2 : Int), vs, vt] := by
    apply Array.ext'
    rw [h2]
    simp
  rw [e, ← hu] at h1
  exact ⟨h1, h.i.pr.keep hk (Ne.symm hne), h.i.keep.comp hk (fun _ _ h => h) (fun j hj _ e => by omega)⟩
set_option maxRecDepth 20000 in
set_option maxHeartbeats 4000000 in
theorem plog_any (g : Nat) (A : Option Addr) (n c : Nat) (bs : Txt) (z : Int) (p : Nat) (b : Bool) (w : World) (hg : PR w g A n c z p b) (hp : p ≤ n) (hnc : n ≤ c) (hnil : n = 0 → c = 0 ∨ A ≠ none) (hb : Rd w (fun k => k ≠ g) 1 A n (Lib.byteCells bs)) (hn : n ≤ 1048576) (hT : ∀ u, Keep (fun k => k ≠ g) w u → Tabs u ∧ Nib u) :
    Calls Tryd.prog 14 #[.pointer (some ⟨g, 0, none⟩)] w fun e w' => LogPost g A n c bs z p b w e w' := by
  have hlen : bs.length = n := by simpa [Lib.byteCells] using hb.1
  obtain ⟨w1, hw1⟩ : ∃ w1, w1 = w.alloc (.cells #[.int .i64 0, .int .i64 0, .slice none 0 0, .slice none 0 0] 32) := ⟨_, rfl⟩
  obtain ⟨b2, hb2⟩ : ∃ b, b = w.heap.size := ⟨_, rfl⟩
  have hgl := hg.lt
  have hne : b2 ≠ g := by omega
  have hb2lo : w.heap.size ≤ b2 := by omega
  have hk1 : Keep (fun k => k ≠ g) w w1 := by rw [hw1]; exact (Keep.refl _ w).alloc _
  have hI1 : LogI g A n c bs z w b2 w1 p b := ⟨by rw [hw1]; exact hg.keep ((Keep.refl (fun _ => True) w).alloc _) trivial, hp, hk1, by rw [hw1, hb2]; exact Blk.new _ _ _⟩
  have HCnt := Lib.hid (fun (u : World) (q : Nat) (bd : Bool) (s : ByteArray) (h : LogI g A n c bs z w b2 u q bd) => pcount_any g (fun k => k ≠ g) A n c bs z q bd s u h.pr h.le (hb.keep h.keep) (by omega))
  have HByt := Lib.hid (fun (u : World) (q : Nat) (bd : Bool) (s : ByteArray) (h : LogI g A n c bs z w b2 u q bd) => pbytes_any g (fun k => k ≠ g) A n c bs z q bd s u h.pr (fun _ h => h) h.le hnc hnil (hb.keep h.keep) (by omega))
  have HFl := Lib.hid (fun (u : World) (q : Nat) (bd : Bool) (s : ByteArray) (h : LogI g A n c bs z w b2 u q bd) => rfail_any g A n c z q bd s u h.pr)
  have HT := Lib.hid hT
  have HLen := Lib.hid hlen
  have H1 := Lib.hid hI1
  have HNe := Lib.hid hne
  -- the letters
  obtain ⟨⟨v1, q1, d1⟩, hr1⟩ : ∃ r, r = lg1 bs p b := ⟨_, rfl⟩
  obtain ⟨⟨v2, q2, d2⟩, hr2⟩ : ∃ r, r = lg2 bs p b := ⟨_, rfl⟩
  obtain ⟨⟨l3, q3, d3⟩, hr3⟩ : ∃ r, r = lg3 bs p b := ⟨_, rfl⟩
  obtain ⟨⟨v4, q4, d4⟩, hr4⟩ : ∃ r, r = lg4 bs p b := ⟨_, rfl⟩
  have e1 : rCount bs p b mxC = (v1, q1, d1) := hr1.symm
  have e2 : rCount bs q1 d1 mxC = (v2, q2, d2) := by
    have : lg2 bs p b = rCount bs (lg1 bs p b).2.1 (lg1 bs p b).2.2 mxC := rfl
    rw [← hr1] at this
    rw [hr2, this]
  have e3 : rText bs q2 d2 mxC = (l3, q3, d3) := by
    have : lg3 bs p b = rText bs (lg2 bs p b).2.1 (lg2 bs p b).2.2 mxC := rfl
    rw [← hr2] at this
    rw [hr3, this]
  obtain ⟨db, hdb⟩ : ∃ x, x = (d3 || !shotB l3) := ⟨_, rfl⟩
  have e4 : rCount bs q3 db mxC = (v4, q4, d4) := by
    have : lg4 bs p b = rCount bs (lg3 bs p b).2.1 ((lg3 bs p b).2.2 || !shotB (lg3 bs p b).1) mxC := rfl
    rw [← hr3] at this
    rw [hr4, this, hdb]
  have eB : lgBad bs p b = ((d4 || decide (16 < v4)) || ((repLoop bs v4 q4).2 || !decide ((v2 : Int) ≤ mxC - (v4 : Int)))) := by
    unfold lgBad lgb4 lgEnd
    rw [← hr4, ← hr2]
  have eE : lgEnd bs p b = repLoop bs v4 q4 := by
    unfold lgEnd
    rw [← hr4]
  obtain ⟨BB, hBB⟩ : ∃ x, x = lgBad bs p b := ⟨_, rfl⟩
  have hq1 : q1 ≤ n := by have := rCount_le bs p b mxC (by omega); rw [e1] at this; exact hlen ▸ this
  have hq2 : q2 ≤ n := by have := rCount_le bs q1 d1 mxC (by omega); rw [e2] at this; exact hlen ▸ this
  have hq3 : q3 ≤ n := by have := rText_le bs q2 d2 mxC (by omega); rw [e3] at this; exact hlen ▸ this
  have hq4 : q4 ≤ n := by have := rCount_le bs q3 db mxC (by omega); rw [e4] at this; exact hlen ▸ this
  have HV := Lib.hid (And.intro e1 (And.intro e2 (And.intro e3 (And.intro hdb (And.intro e4 (And.intro (hBB.trans eB) hq4))))))
  have HQ := Lib.hid (And.intro hq1 (And.intro hq2 hq3))
  have HEnd : Hid (∀ e w', (∃ vs vt, e = .returned (.agg #[.int .i64 (v1 : Int), .int .i64 (v2 : Int), vs, vt]) ∧ vs.oneCell' = true ∧ vt.oneCell' = true) → (∃ q, PR w' g A n c z q BB ∧ q ≤ n ∧ (BB = false → q = (repLoop bs v4 q4).1)) → Keep (fun k => k ≠ g) w w' → LogPost g A n c bs z p b w e w') := Lib.hid (fun e w' h1 h2 h3 => by
    unfold LogPost
    rw [← hr1, ← hr2, eE, ← hBB]
    exact ⟨h1, h2, h3⟩)
  clear hg hp hb hT hlen hk1 hI1 hr1 hr2 hr3 hr4 e1 e2 e3 e4 eB eE hdb hBB hq1 hq2 hq3 hq4 hne
  go_enter Tryd.func14, Tryd.ntmps14
  go_upto_region 1 with (fail)
  rw [← hb2]
  generalize hwx : World.alloc w _ = wx
  obtain rfl : w1 = wx := hw1.trans hwx
  clear hwx hw1 hb2
  have HC := Lib.hid (HCnt.out w1 p b { data := #[101, 112, 111, 99, 104] } H1.out)
  rw [HV.out.1] at HC
  go_wp2_with fail
  refine HC.out.mono ?_
  rintro e w2 ⟨rfl, hp2, hk2⟩
  have H2 := Lib.hid (H1.out.next hp2 HQ.out.1 hk2 HNe.out)
  have HC := Lib.hid (HCnt.out w2 q1 d1 { data := #[98, 97, 115, 101] } H2.out)
  rw [HV.out.2.1] at HC
  clear hp2 hk2 H1
  go_wp2_with fail
  refine HC.out.mono ?_
  rintro e w3 ⟨rfl, hp3, hk3⟩
  have H3 := Lib.hid (H2.out.next hp3 HQ.out.2.1 hk3 HNe.out)
  clear hp3 hk3 HC H2
  go_upto_region 2 with (fail)
  obtain ⟨b3, hb3⟩ : ∃ b, b = w3.heap.size := ⟨_, rfl⟩
  rw [← hb3]
  generalize hwx : World.alloc w3 _ = w4
  have h4 : LogT g A n c bs z w b2 b3 v1 v2 (.slice none 0 0) (.slice none 0 0) w4 q2 d2 := ⟨H3.out.next (by rw [← hwx]; exact H3.out.pr.keep ((Keep.refl (fun _ => True) w3).alloc _) trivial) H3.out.le (by rw [← hwx]; exact (Keep.refl _ w3).alloc _) HNe.out, by rw [← hwx, hb3]; exact Blk.new _ _ _, ⟨by have := H3.out.pr.lt; omega, by have := H3.out.res.lt; omega⟩, ⟨rfl, rfl⟩, by have := H3.out.keep.size; omega⟩
  have H4 := Lib.hid h4
  have HC := Lib.hid (HByt.out w4 q2 d2 { data := #[115, 110, 97, 112, 115, 104, 111, 116] } h4.i)
  rw [HV.out.2.2.1] at HC
  have h3l : l3.length ≤ 1048576 := by
    have h := rText_lenB bs q2 d2 mxC
    rw [HV.out.2.2.1] at h
    have h2 : l3.length ≤ bs.length := h
    rw [HLen.out] at h2
    omega
  clear hwx hb3 h4 H3
  go_wp2_with fail
  refine HC.out.mono ?_
  rintro e w5 ⟨⟨A5, c5, rfl, hn5, hnil5, hr5⟩, hp5, hk5⟩
  have H5 := Lib.hid (H4.out.next hp5 HQ.out.2.2 hk5 HNe.out)
  have HR5 := Lib.hid (And.intro hn5 (And.intro hnil5 hr5))
  have st5 := H5.out.st.frozen 2; have ls5 := H5.out.st.lt
  clear hn5 hnil5 hr5 hp5 hk5 HC H4
  go_wp2_with (at_builtin; refine wpList_app etU8 rfl _ _ rfl w5.heap.size _ 0 [] rfl (World.ownsRow_nil _ _ _ _) (fun k => k ≠ g) A5 l3.length c5 _ rfl HR5.out.2.2 HR5.out.2.1 (bcs_one _) (by omega) (Nat.le_refl _) ?_)
  intro v6 w6 ho6 hk6 hn6
  have hf6 : Fresh w5 w6 := hk6.weaken fun _ _ _ => by simp [Value.ownBlock]
  try simp only [Nat.zero_add, List.nil_append] at ho6
  obtain ⟨A6, c6, rfl, hr6, -⟩ := own_rd ho6
  have hst6 := H5.out.st.keep hf6 trivial
  have f2 := hst6.frozen 2; have l2 := hst6.lt; have k2 := hst6.cell 2
  simp at k2
  have H6 := Lib.hid (And.intro hf6 (And.intro ho6 (own_cap6 ho6)))
  clear ho6 hk6 hn6 hf6 hr6 hst6 st5 ls5
  go_upto_region 3 with (fail)
  generalize hwx : World.setCell w6 _ _ = w7
  have hk67 : Keep (fun k => k ≠ b3) w6 w7 := by rw [← hwx]; exact (Keep.refl _ w6).setCell (fun _ h => h rfl) _
  have hbk : b3 < w5.heap.size := H5.out.st.lt
  have h7 : LogT g A n c bs z w b2 b3 v1 v2 (.slice A6 l3.length c6) (.slice none 0 0) w7 q3 d3 := by
    have h6 := H5.out.next (H5.out.i.pr.keep H6.out.1 trivial) H5.out.i.le (H6.out.1.weaken fun _ _ _ => trivial) HNe.out
    refine ⟨⟨h6.i.pr.keep hk67 (Ne.symm h6.ne.1), h6.i.le, ?_, h6.i.res.keep hk67 (Ne.symm h6.ne.2)⟩, ?_, h6.ne, ⟨rfl, rfl⟩, h6.lo⟩
    · exact h6.i.keep.comp hk67 (fun _ _ h => h) (fun j hj hz e => by have := h6.lo; omega)
    · rw [← hwx]
      exact h6.st.set 2 _
  have ho7 := own_keep H6.out.2.1 hk67 (fun j hj e => by have := (own_lt H6.out.2.1 hj).1; omega)
  obtain ⟨A7, c7, hv7, hr7, -⟩ := own_rd ho7
  injection hv7 with hA7 _ hc7
  subst hA7 hc7
  have H7 := Lib.hid h7
  have HR7 := Lib.hid (And.intro (hr7.weaken (Z' := fun _ => True) fun _ _ => trivial) H6.out.2.2)
  obtain ⟨ev7, y3, hev7, lg7⟩ := h7.ev
  have Q7 := fun u => amiss_eql hev7 u
  have G7 := fun o u => amiss_grd hev7 BinOp.eql o u
  have kb2 := h7.st.cell 2; have lb2 := h7.st.lt
  simp at kb2
  have HRs := Lib.hid (fun (u : World) (hu : Fresh w7 u) => restore_any (fun _ => True) A6 l3.length c6 l3 u ((hr7.weaken (Z' := fun _ => True) fun _ _ => trivial).keep hu) (by omega) H6.out.2.2.1 (HT.out u (h7.i.keep.trans (hu.weaken fun _ _ _ => trivial))).2)
  clear hwx hk67 hbk h7 ho7 hr7 f2 l2 k2 H5 HR5
  go_upto_if 20 with (fail)
  go_cut [4, 5] (fun s4 s5 wx => Hid (LogT g A n c bs z w b2 b3 v1 v2 (.slice A6 l3.length c6) (.slice none 0 0) wx q3 db))
  case first =>
    as_aux_lemma =>
      cases d3
      rotate_left
      · obtain rfl : db = true := by rw [HV.out.2.2.2.1]; rfl
        go_wp2_with fail
        go_meet
        exact H7
      go_wp2_with fail
      refine Calls.mono (HRs.out w7 (Keep.refl _ _)) ?_
      rintro e u ⟨hfu, hcase⟩
      have hu := H7.out.next (H7.out.i.pr.keep hfu trivial) H7.out.i.le (hfu.weaken fun _ _ _ => trivial) HNe.out
      rcases hcase with ⟨s, F, m, hs, rfl, -⟩ | ⟨hno, rfl⟩
      · have hsb : shotB l3 = true := shot_yes ⟨s, hs⟩
        obtain rfl : db = false := by rw [HV.out.2.2.2.1, hsb]; rfl
        have HU := Lib.hid hu
        clear hu hfu hs hsb
        go_wp2_with fail
        go_meet
        exact HU
      · have hsb : shotB l3 = false := shot_no (fun ⟨s, hs⟩ => hno s hs)
        obtain rfl : db = true := by rw [HV.out.2.2.2.1, hsb]; rfl
        have HU := Lib.hid hu
        have HC2 := Lib.hid (HFl.out u q3 false { data := #[115, 110, 97, 112, 115, 104, 111, 116] } hu.i)
        clear hu hfu hno hsb
        go_wp2_with fail
        refine HC2.out.mono ?_
        rintro e u2 ⟨rfl, hp2, hk2⟩
        have HU2 := Lib.hid (HU.out.next hp2 HQ.out.2.2 hk2 HNe.out)
        clear hp2 hk2 HC2
        go_wp2_with fail
        go_meet
        exact HU2
  case rest =>
  rename World => w8
  have H8 := Lib.hid hcut.out
  have HC8 := Lib.hid (HCnt.out w8 q3 db { data := #[116, 97, 105, 108] } hcut.out.i)
  rw [HV.out.2.2.2.2.1] at HC8
  clear hcut y3 lg7 hev7 Q7 G7 kb2 lb2 H7 HR7 HRs
  go_wp2_with fail
  refine HC8.out.mono ?_
  rintro e w9 ⟨rfl, hp9, hk9⟩
  have h9 := H8.out.next hp9 HV.out.2.2.2.2.2.2 hk9 HNe.out
  have H9 := Lib.hid h9
  clear hp9 hk9 h9 HC8 H8
  obtain ⟨bd, hbd⟩ : ∃ x, x = (d4 || decide (16 < v4)) := ⟨_, rfl⟩
  have HBd := Lib.hid hbd
  clear hbd
  go_upto_if 34 with (fail)
  go_cut [6] (fun s6 wx => s6 = .int .i64 (v4 : Int) ∧ Hid (LogT g A n c bs z w b2 b3 v1 v2 (.slice A6 l3.length c6) (.slice none 0 0) wx q4 bd))
  case first =>
    as_aux_lemma =>
      by_cases h16 : 16 < v4
      · have hI : (16 : Int) < (v4 : Int) := by omega
        have dd : decide ((16 : Int) < (v4 : Int)) = true := decide_eq_true hI
        obtain rfl : bd = true := by rw [HBd.out, decide_eq_true h16, Bool.or_true]
        have HC2 := Lib.hid (HFl.out w9 q4 d4 { data := #[116, 97, 105, 108] } H9.out.i)
        clear h16
        go_wp2_with fail
        refine HC2.out.mono ?_
        rintro e u2 ⟨rfl, hp2, hk2⟩
        have HU2 := Lib.hid (H9.out.next hp2 HV.out.2.2.2.2.2.2 hk2 HNe.out)
        clear hp2 hk2 HC2
        go_wp2_with fail
        go_meet
        exact ⟨rfl, HU2⟩
      · have hI : ¬ (16 : Int) < (v4 : Int) := by omega
        have dd : decide ((16 : Int) < (v4 : Int)) = false := decide_eq_false hI
        obtain rfl : bd = d4 := by rw [HBd.out, decide_eq_false h16, Bool.or_false]
        clear h16
        go_wp2_with fail
        go_meet
        exact ⟨rfl, H9⟩
  case rest =>
  rename World => wq
  obtain ⟨rfl, h10⟩ := hcut
  -- LOOP
  go_wp2_with fail
  have HB10 := Lib.hid h10.out
  have HB2 := Lib.hid hb2lo
  clear h10 hb2lo
  go_loopw [38] (fun iv wr => ∃ i : Nat, i ≤ v4 ∧ iv = .int .i64 (i : Int) ∧ Hid (∃ q vt xs m bd', wq.heap.size ≤ wr.heap.size ∧ LogT g A n c bs z w b2 b3 v1 v2 (.slice A6 l3.length c6) vt wr q bd' ∧ wr.ownsRow wq.heap.size 57 7 vt m xs ∧ m ≤ i ∧ (bd' = false → bd = false ∧ repLoop bs (v4 - i) q = repLoop bs v4 q4 ∧ m = i) ∧ (bd' = true → (bd || (repLoop bs v4 q4).2) = true))) (fun i _ => v4 - (intOf i).toNat)
  case atStart => exact ⟨0, Nat.zero_le _, rfl, Lib.hid ⟨q4, .slice none 0 0, [], 0, bd, Nat.le_refl _, HB10.out, World.ownsRow_nil _ _ _ _, Nat.zero_le _, fun e => ⟨e, rfl, rfl⟩, fun e => by rw [e]; rfl⟩⟩
  case round =>
    rename World => wr
    obtain ⟨i, hi, rfl, HW⟩ := hrel
    obtain ⟨q, vt, xs, m, bd', hsz, hT0, hown, hm, hgood, hbad⟩ := HW.out
    obtain ⟨ev, y3, hev, lg⟩ := hT0.ev
    obtain ⟨Av, cv, hvt, -, -⟩ := own_rd hown
    have HTt := Lib.hid hT0
    have HOw := Lib.hid hown
    have HG := Lib.hid (And.intro hgood hbad)
    by_cases hlt : i < v4
    · have hIi : (i : Int) < (v4 : Int) := by omega
      cases bd'
      rotate_left
      · have hbb : BB = true := by
          have h1 := HG.out.2 rfl
          rw [HV.out.2.2.2.2.2.1, ← HBd.out]
          exact or_bad h1 _
        have HBb := Lib.hid hbb
        have Q7 := fun u => amiss_neq hev u
        have G7 := fun o u => amiss_grd hev BinOp.neq o u
        have Hvt := Lib.hid hvt
        clear hT0 hown hgood hbad hbb HW hev
        subst hvt
        as_aux_lemma =>
          have HTh : Hid (_root_.Go.World.there wr b2 0 4) := Lib.hid (by have := HTt.out.i.res.there; simpa using this)
          have HRg : Hid (_root_.Go.World.rangeAt wr b3 0 [.int .i64 (v1 : Int), .int .i64 (v2 : Int), .slice A6 l3.length c6, .slice Av m cv]) := Lib.hid (by have := blk_range HTt.out.st; simpa using this)
          have l2' := HTt.out.i.res.lt; have l3' := HTt.out.st.lt
          go_wp2_with (first | (refine wpList_load_mid rfl 32 _ rfl b3 0 rfl [.int .i64 (v1 : Int), .int .i64 (v2 : Int), .slice A6 l3.length c6, .slice Av m cv] _ HRg.out Tryd.underlying32 rfl (by kernel_rfl) ?_) | (refine wpList_store_to rfl 32 (.tmp 2) (.tmp 45) rfl b2 0 #[.int .i64 (v1 : Int), .int .i64 (v2 : Int), .slice A6 l3.length c6, .slice Av m cv] rfl rfl HTh.out (by kernel_rfl) (by simp [Value.oneCell']) ?_))
          intro wf hwf
          have hfin := log_fin HTt.out hwf.out HNe.out HB2.out
          have HFin := Lib.hid hfin
          clear hfin hwf
          go_wp2_with fail
          refine bodyPost_ret (presults_cell rfl _ _ b2 32 #[.int .i64 (v1 : Int), .int .i64 (v2 : Int), .slice A6 l3.length c6, .slice Av m cv] _ rfl HFin.out.1 Tryd.underlying32 rfl (by kernel_rfl)) rfl ?_
          exact HEnd.out _ _ ⟨_, _, rfl, rfl, rfl⟩ ⟨q, by rw [HBb.out]; exact HFin.out.2.1, HTt.out.i.le, fun e => by rw [HBb.out] at e; cases e⟩ HFin.out.2.2
      · obtain ⟨hbd0, hrl, hmi⟩ := HG.out.1 rfl
        have hv16 : v4 ≤ 16 := by
          by_cases h : 16 < v4
          · have := HBd.out
            rw [hbd0, decide_eq_true h, Bool.or_true] at this
            cases this
          · omega
        have hi16 : (i : Int) + 1 ≤ 16 := by omega
        have hw1 : IntKind.i64.wrap ((i : Int) + 1) = (i : Int) + 1 := by rw [IntWalk.i64_in _ (by omega)]
        have Q7 := fun u => amiss_neq hev u
        have G7 := fun o u => amiss_grd hev BinOp.neq o u
        have HRl := Lib.hid (And.intro hbd0 (And.intro hrl (And.intro hmi hv16)))
        have Hvt := Lib.hid hvt
        subst hvt
        have HKS : Hid (∀ w', Keep (fun k => k ≠ g) wr w' → w'.cell? ⟨b3, 3, none⟩ = some (.slice Av m cv)) := Lib.hid (fun w' hk => by have := (HTt.out.st.keep hk HTt.out.ne.1).cell 3; simpa using this)
        have hgw : g < wq.heap.size ∧ b3 < wq.heap.size ∧ b2 < wq.heap.size := ⟨HB10.out.i.pr.lt, HB10.out.st.lt, HB10.out.i.res.lt⟩
        have HGw := Lib.hid hgw
        have HGs := Lib.hid hsz
        have h14 : LogT g A n c bs z w b2 b3 v1 v2 (.slice A6 l3.length c6) (.slice Av m cv) wr.drew q false := HTt.out.next (u' := wr.drew) HTt.out.i.pr HTt.out.i.le (Keep.refl _ wr).drew HNe.out
        have HBy := Lib.hid (HByt.out wr.drew q false { data := #[101, 110, 116, 114, 121] } h14.i)
        obtain ⟨⟨l', q', d'⟩, htx⟩ : ∃ r, r = rText bs q false mxC := ⟨_, rfl⟩
        rw [← htx] at HBy
        have H14 := Lib.hid (And.intro h14 htx)
        clear hT0 hown hgood hbad HW hev hbd0 hrl hmi hv16 h14 htx hgw
        go_upto_region 14 with (fail)
        have H14L := Lib.hid H14.out.1
        refine wp_region_held_drew (S := fun _ => True) (by kernel_rfl) trivial (fun hHeld => ?_)
        refine wpAnyH_take (i := 0) (v := .pointer (some ⟨b3, 3, none⟩)) rfl (by kernel_rfl) (by kernel_rfl) (by kernel_rfl) (fun _ _ _ h => h) (Or.inl ⟨by kernel_rfl, by intro w hSw; go_simp⟩) hHeld ?_
        simp only [Act.put, List.getElem_toArray, List.getElem_cons_zero, List.getElem_cons_succ, List.setIfInBounds_toArray, List.set_cons_zero, List.set_cons_succ]
        refine wpAnyH_take (i := 2) (v := .pointer (some ⟨g, 0, none⟩)) rfl (by kernel_rfl) (by kernel_rfl) (by kernel_rfl) (fun _ _ _ h => h) (Or.inl ⟨by kernel_rfl, by intro w hSw; simp [go_sem, hSw]⟩) hHeld ?_
        simp only [Act.put, List.getElem_toArray, List.getElem_cons_zero, List.getElem_cons_succ, List.setIfInBounds_toArray, List.set_cons_zero, List.set_cons_succ]
        refine wpAnyH_take (i := 3) (v := .pointer (some ⟨g, 0, none⟩)) rfl (by kernel_rfl) (by kernel_rfl) (by kernel_rfl) (fun _ _ _ h => h) (Or.inl ⟨by kernel_rfl, by intro w hSw; simp [go_sem, hSw]⟩) hHeld ?_
        simp only [Act.put, List.getElem_toArray, List.getElem_cons_zero, List.getElem_cons_succ, List.setIfInBounds_toArray, List.set_cons_zero, List.set_cons_succ]
        refine wpAnyH_ready (rs := [1, 4]) (by kernel_rfl) (by simp) ?_
        clear hHeld
        refine AllReadyH.cons rfl (fun K hK => ?_) (AllReadyH.cons rfl (fun K hK => ?_) AllReadyH.nil)
        · have k3 := H14L.out.st.cell 3; have l3' := H14L.out.st.lt
          simp at k3
          go_simp
          refine hK.out _ _ trivial (fun hHeld => ?_)
          clear hK K
          try simp only [Act.put, List.getElem_toArray, List.getElem_cons_zero, List.getElem_cons_succ, List.setIfInBounds_toArray, List.set_cons_zero, List.set_cons_succ]
          clear k3 l3'
          refine wpAnyH_ready (rs := [4]) (by kernel_rfl) (by simp) ?_
          clear hHeld
          refine AllReadyH.cons rfl (fun K hK => ?_) AllReadyH.nil
          go_simp
          (with_reducible refine Calls.mono HBy.out ?_)
          rintro e wc ⟨⟨Ab, cb, rfl, hnb, hnilb, hrb⟩, hpb, hkb⟩
          have hqn : q' ≤ n := by have h := rText_le bs q false mxC (by rw [HLen.out]; exact HTt.out.i.le); rw [← H14.out.2, HLen.out] at h; exact h
          have hll : l'.length ≤ 1048576 := by have h := rText_lenB bs q false mxC; rw [← H14.out.2] at h; have h2 : l'.length ≤ bs.length := h; rw [HLen.out] at h2; omega
          have HTc := Lib.hid (H14.out.1.next hpb hqn hkb HNe.out)
          have HKc := Lib.hid ((Keep.refl (fun k => k ≠ g) wr).drew.trans hkb)
          have HCm := Lib.hid (pcommand_any g (fun k => k ≠ g) A n c z q' d' Ab l'.length cb l' wc hpb hrb hnb (by omega) (HT.out wc HTc.out.i.keep).1)
          clear hnb hnilb hrb hpb hkb HBy hll
          go_wp2_with fail
          refine hK.out _ _ trivial (fun hHeld => ?_)
          clear hK K
          try simp only [Act.put, List.getElem_toArray, List.getElem_cons_zero, List.getElem_cons_succ, List.setIfInBounds_toArray, List.set_cons_zero, List.set_cons_succ]
          refine wpAnyH_ready (rs := [5]) (by kernel_rfl) (by simp) ?_
          clear hHeld
          refine AllReadyH.cons rfl (fun K hK => ?_) AllReadyH.nil
          go_simp
          (with_reducible refine Calls.mono HCm.out ?_)
          rintro e wd ⟨⟨a1, a2, a3, a4, t1, t2, t3, rfl⟩, hpd, hkd⟩
          have HTd := Lib.hid (HTc.out.next hpd hqn hkd HNe.out)
          have HKd := Lib.hid (HKc.out.trans hkd)
          clear hpd hkd HCm
          go_wp2_with fail
          refine hK.out _ _ trivial (fun hHeld => ?_)
          clear hK K
          try simp only [Act.put, List.getElem_toArray, List.getElem_cons_zero, List.getElem_cons_succ, List.setIfInBounds_toArray, List.set_cons_zero, List.set_cons_succ]
          refine wpAnyH_ready (rs := [6]) (by kernel_rfl) (by simp) ?_
          clear hHeld
          refine AllReadyH.cons rfl (fun K hK => ?_) AllReadyH.nil
          go_simp
          obtain ⟨be, hbe⟩ : ∃ b, b = wd.heap.size := ⟨_, rfl⟩
          refine hK.out _ _ trivial (fun hHeld => ?_)
          clear hK K
          rw [← hbe]
          generalize hwe : World.alloc wd _ = we
          have hke : Fresh wd we := by rw [← hwe]; exact (Keep.refl _ wd).alloc _
          have hre : Rd we (fun _ => True) 7 (some ⟨be, 0, none⟩) 1 [.int .i64 a1, .int .i64 a2, .int .i64 a3, .int .i64 a4, str t1, str t2, str t3] := by rw [← hwe, hbe]; exact cmd_new wd _ _ _ _ _ _ _
          have HTe := Lib.hid (HTd.out.next (HTd.out.i.pr.keep hke trivial) HTd.out.i.le (hke.weaken fun _ _ _ => trivial) HNe.out)
          have HKe := Lib.hid (HKd.out.trans (hke.weaken fun _ _ _ => trivial))
          have HRe := Lib.hid hre
          have HBase : Hid (wq.heap.size ≤ we.heap.size) := Lib.hid (Nat.le_trans HGs.out HKe.out.size)
          clear hwe hbe hke hre
          try simp only [Act.put, List.getElem_toArray, List.getElem_cons_zero, List.getElem_cons_succ, List.setIfInBounds_toArray, List.set_cons_zero, List.set_cons_succ]
          refine wpAnyH_ready (rs := [7]) (by kernel_rfl) (by simp) ?_
          clear hHeld
          refine AllReadyH.cons rfl (fun K hK => ?_) AllReadyH.nil
          have hox := own_keep HOw.out HKe.out (fun j hj e => by have h1 := (own_lt HOw.out hj).1; have h2 := HGw.out.1; omega)
          refine step_app etCmdP rfl _ _ rfl wq.heap.size (.slice Av m cv) m xs rfl hox (fun _ => True) (some ⟨be, 0, none⟩) 1 1 [.int .i64 a1, .int .i64 a2, .int .i64 a3, .int .i64 a4, str t1, str t2, str t3] rfl HRe.out (fun h => by cases h) (cmd_ones _ _ _ _ _ _ _) (by have := HRl.out.2.2.1; have := HRl.out.2.2.2; omega) HBase.out ?_
          intro v' wf ho hkf hnf
          obtain ⟨Aw, cw, rfl, -, -⟩ := own_rd ho
          have hne : ∀ j, j < wq.heap.size → (Value.slice Av m cv).ownBlock ≠ some j := fun j hj e => by have := (own_lt hox e).1; omega
          have hTf : LogT g A n c bs z w b2 b3 v1 v2 (.slice A6 l3.length c6) (.slice Av m cv) wf q' (d' || !decOk l') := ⟨⟨HTe.out.i.pr.keep hkf (hne g HGw.out.1), HTe.out.i.le, HTe.out.i.keep.comp hkf (fun _ _ h => h) (fun j hj _ => hne j (Nat.lt_of_lt_of_le hj HB10.out.i.keep.size)), HTe.out.i.res.keep hkf (hne b2 HGw.out.2.2)⟩, HTe.out.st.keep hkf (hne b3 HGw.out.2.1), HTe.out.ne, HTe.out.one, HTe.out.lo⟩
          have HTf := Lib.hid hTf
          have HFs := Lib.hid (Nat.le_trans HBase.out hkf.size)
          have HOf := Lib.hid ho
          clear hox ho hkf hnf hne hTf
          refine hK.out _ _ trivial (fun hHeld => ?_)
          clear hK K
          try simp only [Act.put, List.getElem_toArray, List.getElem_cons_zero, List.getElem_cons_succ, List.setIfInBounds_toArray, List.set_cons_zero, List.set_cons_succ]
          refine wpAnyH_take (i := 8) (v := .pointer (some ⟨b3, 3, none⟩)) rfl (by kernel_rfl) (by kernel_rfl) (by kernel_rfl) (fun _ _ _ h => h) (Or.inl ⟨by kernel_rfl, by intro w hSw; go_simp⟩) hHeld ?_
          simp only [Act.put, List.getElem_toArray, List.getElem_cons_zero, List.getElem_cons_succ, List.setIfInBounds_toArray, List.set_cons_zero, List.set_cons_succ]
          refine wpAnyH_ready (rs := [9]) (by kernel_rfl) (by simp) ?_
          clear hHeld
          refine AllReadyH.cons rfl (fun K hK => ?_) AllReadyH.nil
          have k3 := HTf.out.st.cell 3; have f3 := HTf.out.st.frozen 3; have l3' := HTf.out.st.lt
          simp at k3
          go_simp
          refine hK.out _ _ trivial (fun hHeld => ?_)
          clear hK K
          try simp only [Act.put, List.getElem_toArray, List.getElem_cons_zero, List.getElem_cons_succ, List.setIfInBounds_toArray, List.set_cons_zero, List.set_cons_succ]
          clear k3 f3 l3'
          refine wpAnyH_done (by kernel_rfl) ?_ _
          clear hHeld
          generalize hwz : World.setCell wf _ _ = wz
          have HZ := Lib.hid (log_put HTf.out hwz.symm HOf.out HGw.out)
          have HZs : Hid (wq.heap.size ≤ wz.heap.size) := Lib.hid (by rw [← hwz]; exact Nat.le_trans HFs.out ((Keep.refl (fun j => j ≠ b3) wf).setCell (fun _ e => e rfl) _).size)
          clear hwz
          go_wp2_with fail
          exact ⟨⟨i + 1, by omega, congrArg _ (by omega), Lib.hid ⟨q', _, _, m + 1, d' || !decOk l', HZs.out, HZ.out.1, HZ.out.2, by have := HRl.out.2.2.1; omega, log_good HRl.out.1 HRl.out.2.1 HRl.out.2.2.1 hlt H14.out.2, log_bad HRl.out.2.1 hlt H14.out.2⟩⟩, by simp [intOf]; omega⟩
        · go_simp
          (with_reducible refine Calls.mono HBy.out ?_)
          rintro e wc ⟨⟨Ab, cb, rfl, hnb, hnilb, hrb⟩, hpb, hkb⟩
          have hqn : q' ≤ n := by have h := rText_le bs q false mxC (by rw [HLen.out]; exact HTt.out.i.le); rw [← H14.out.2, HLen.out] at h; exact h
          have hll : l'.length ≤ 1048576 := by have h := rText_lenB bs q false mxC; rw [← H14.out.2] at h; have h2 : l'.length ≤ bs.length := h; rw [HLen.out] at h2; omega
          have HTc := Lib.hid (H14.out.1.next hpb hqn hkb HNe.out)
          have HKc := Lib.hid ((Keep.refl (fun k => k ≠ g) wr).drew.trans hkb)
          have HCm := Lib.hid (pcommand_any g (fun k => k ≠ g) A n c z q' d' Ab l'.length cb l' wc hpb hrb hnb (by omega) (HT.out wc HTc.out.i.keep).1)
          clear hnb hnilb hrb hpb hkb HBy hll
          go_wp2_with fail
          refine hK.out _ _ trivial (fun hHeld => ?_)
          clear hK K
          try simp only [Act.put, List.getElem_toArray, List.getElem_cons_zero, List.getElem_cons_succ, List.setIfInBounds_toArray, List.set_cons_zero, List.set_cons_succ]
          refine wpAnyH_ready (rs := [1, 5]) (by kernel_rfl) (by simp) ?_
          clear hHeld
          refine AllReadyH.cons rfl (fun K hK => ?_) (AllReadyH.cons rfl (fun K hK => ?_) AllReadyH.nil)
          · have k3 := HTc.out.st.cell 3; have l3' := HTc.out.st.lt
            simp at k3
            go_simp
            refine hK.out _ _ trivial (fun hHeld => ?_)
            clear hK K
            try simp only [Act.put, List.getElem_toArray, List.getElem_cons_zero, List.getElem_cons_succ, List.setIfInBounds_toArray, List.set_cons_zero, List.set_cons_succ]
            clear k3 l3'
            refine wpAnyH_ready (rs := [5]) (by kernel_rfl) (by simp) ?_
            clear hHeld
            refine AllReadyH.cons rfl (fun K hK => ?_) AllReadyH.nil
            go_simp
            (with_reducible refine Calls.mono HCm.out ?_)
            rintro e wd ⟨⟨a1, a2, a3, a4, t1, t2, t3, rfl⟩, hpd, hkd⟩
            have HTd := Lib.hid (HTc.out.next hpd hqn hkd HNe.out)
            have HKd := Lib.hid (HKc.out.trans hkd)
            clear hpd hkd HCm
            go_wp2_with fail
            refine hK.out _ _ trivial (fun hHeld => ?_)
            clear hK K
            try simp only [Act.put, List.getElem_toArray, List.getElem_cons_zero, List.getElem_cons_succ, List.setIfInBounds_toArray, List.set_cons_zero, List.set_cons_succ]
            refine wpAnyH_ready (rs := [6]) (by kernel_rfl) (by simp) ?_
            clear hHeld
            refine AllReadyH.cons rfl (fun K hK => ?_) AllReadyH.nil
            go_simp
            obtain ⟨be, hbe⟩ : ∃ b, b = wd.heap.size := ⟨_, rfl⟩
            refine hK.out _ _ trivial (fun hHeld => ?_)
            clear hK K
            rw [← hbe]
            generalize hwe : World.alloc wd _ = we
            have hke : Fresh wd we := by rw [← hwe]; exact (Keep.refl _ wd).alloc _
            have hre : Rd we (fun _ => True) 7 (some ⟨be, 0, none⟩) 1 [.int .i64 a1, .int .i64 a2, .int .i64 a3, .int .i64 a4, str t1, str t2, str t3] := by rw [← hwe, hbe]; exact cmd_new wd _ _ _ _ _ _ _
            have HTe := Lib.hid (HTd.out.next (HTd.out.i.pr.keep hke trivial) HTd.out.i.le (hke.weaken fun _ _ _ => trivial) HNe.out)
            have HKe := Lib.hid (HKd.out.trans (hke.weaken fun _ _ _ => trivial))
            have HRe := Lib.hid hre
            have HBase : Hid (wq.heap.size ≤ we.heap.size) := Lib.hid (Nat.le_trans HGs.out HKe.out.size)
            clear hwe hbe hke hre
            try simp only [Act.put, List.getElem_toArray, List.getElem_cons_zero, List.getElem_cons_succ, List.setIfInBounds_toArray, List.set_cons_zero, List.set_cons_succ]
            refine wpAnyH_ready (rs := [7]) (by kernel_rfl) (by simp) ?_
            clear hHeld
            refine AllReadyH.cons rfl (fun K hK => ?_) AllReadyH.nil
            have hox := own_keep HOw.out HKe.out (fun j hj e => by have h1 := (own_lt HOw.out hj).1; have h2 := HGw.out.1; omega)
            refine step_app etCmdP rfl _ _ rfl wq.heap.size (.slice Av m cv) m xs rfl hox (fun _ => True) (some ⟨be, 0, none⟩) 1 1 [.int .i64 a1, .int .i64 a2, .int .i64 a3, .int .i64 a4, str t1, str t2, str t3] rfl HRe.out (fun h => by cases h) (cmd_ones _ _ _ _ _ _ _) (by have := HRl.out.2.2.1; have := HRl.out.2.2.2; omega) HBase.out ?_
            intro v' wf ho hkf hnf
            obtain ⟨Aw, cw, rfl, -, -⟩ := own_rd ho
            have hne : ∀ j, j < wq.heap.size → (Value.slice Av m cv).ownBlock ≠ some j := fun j hj e => by have := (own_lt hox e).1; omega
            have hTf : LogT g A n c bs z w b2 b3 v1 v2 (.slice A6 l3.length c6) (.slice Av m cv) wf q' (d' || !decOk l') := ⟨⟨HTe.out.i.pr.keep hkf (hne g HGw.out.1), HTe.out.i.le, HTe.out.i.keep.comp hkf (fun _ _ h => h) (fun j hj _ => hne j (Nat.lt_of_lt_of_le hj HB10.out.i.keep.size)), HTe.out.i.res.keep hkf (hne b2 HGw.out.2.2)⟩, HTe.out.st.keep hkf (hne b3 HGw.out.2.1), HTe.out.ne, HTe.out.one, HTe.out.lo⟩
            have HTf := Lib.hid hTf
            have HFs := Lib.hid (Nat.le_trans HBase.out hkf.size)
            have HOf := Lib.hid ho
            clear hox ho hkf hnf hne hTf
            refine hK.out _ _ trivial (fun hHeld => ?_)
            clear hK K
            try simp only [Act.put, List.getElem_toArray, List.getElem_cons_zero, List.getElem_cons_succ, List.setIfInBounds_toArray, List.set_cons_zero, List.set_cons_succ]
            refine wpAnyH_take (i := 8) (v := .pointer (some ⟨b3, 3, none⟩)) rfl (by kernel_rfl) (by kernel_rfl) (by kernel_rfl) (fun _ _ _ h => h) (Or.inl ⟨by kernel_rfl, by intro w hSw; go_simp⟩) hHeld ?_
            simp only [Act.put, List.getElem_toArray, List.getElem_cons_zero, List.getElem_cons_succ, List.setIfInBounds_toArray, List.set_cons_zero, List.set_cons_succ]
            refine wpAnyH_ready (rs := [9]) (by kernel_rfl) (by simp) ?_
            clear hHeld
            refine AllReadyH.cons rfl (fun K hK => ?_) AllReadyH.nil
            have k3 := HTf.out.st.cell 3; have f3 := HTf.out.st.frozen 3; have l3' := HTf.out.st.lt
            simp at k3
            go_simp
            refine hK.out _ _ trivial (fun hHeld => ?_)
            clear hK K
            try simp only [Act.put, List.getElem_toArray, List.getElem_cons_zero, List.getElem_cons_succ, List.setIfInBounds_toArray, List.set_cons_zero, List.set_cons_succ]
            clear k3 f3 l3'
            refine wpAnyH_done (by kernel_rfl) ?_ _
            clear hHeld
            generalize hwz : World.setCell wf _ _ = wz
            have HZ := Lib.hid (log_put HTf.out hwz.symm HOf.out HGw.out)
            have HZs : Hid (wq.heap.size ≤ wz.heap.size) := Lib.hid (by rw [← hwz]; exact Nat.le_trans HFs.out ((Keep.refl (fun j => j ≠ b3) wf).setCell (fun _ e => e rfl) _).size)
            clear hwz
            go_wp2_with fail
            exact ⟨⟨i + 1, by omega, congrArg _ (by omega), Lib.hid ⟨q', _, _, m + 1, d' || !decOk l', HZs.out, HZ.out.1, HZ.out.2, by have := HRl.out.2.2.1; omega, log_good HRl.out.1 HRl.out.2.1 HRl.out.2.2.1 hlt H14.out.2, log_bad HRl.out.2.1 hlt H14.out.2⟩⟩, by simp [intOf]; omega⟩
          · go_simp
            (with_reducible refine Calls.mono HCm.out ?_)
            rintro e wd ⟨⟨a1, a2, a3, a4, t1, t2, t3, rfl⟩, hpd, hkd⟩
            have HTd := Lib.hid (HTc.out.next hpd hqn hkd HNe.out)
            have HKd := Lib.hid (HKc.out.trans hkd)
            clear hpd hkd HCm
            go_wp2_with fail
            refine hK.out _ _ trivial (fun hHeld => ?_)
            clear hK K
            try simp only [Act.put, List.getElem_toArray, List.getElem_cons_zero, List.getElem_cons_succ, List.setIfInBounds_toArray, List.set_cons_zero, List.set_cons_succ]
            refine wpAnyH_ready (rs := [1, 6]) (by kernel_rfl) (by simp) ?_
            clear hHeld
            refine AllReadyH.cons rfl (fun K hK => ?_) (AllReadyH.cons rfl (fun K hK => ?_) AllReadyH.nil)
            · have k3 := HTd.out.st.cell 3; have l3' := HTd.out.st.lt
              simp at k3
              go_simp
              refine hK.out _ _ trivial (fun hHeld => ?_)
              clear hK K
              try simp only [Act.put, List.getElem_toArray, List.getElem_cons_zero, List.getElem_cons_succ, List.setIfInBounds_toArray, List.set_cons_zero, List.set_cons_succ]
              clear k3 l3'
              refine wpAnyH_ready (rs := [6]) (by kernel_rfl) (by simp) ?_
              clear hHeld
              refine AllReadyH.cons rfl (fun K hK => ?_) AllReadyH.nil
              go_simp
              obtain ⟨be, hbe⟩ : ∃ b, b = wd.heap.size := ⟨_, rfl⟩
              refine hK.out _ _ trivial (fun hHeld => ?_)
              clear hK K
              rw [← hbe]
              generalize hwe : World.alloc wd _ = we
              have hke : Fresh wd we := by rw [← hwe]; exact (Keep.refl _ wd).alloc _
              have hre : Rd we (fun _ => True) 7 (some ⟨be, 0, none⟩) 1 [.int .i64 a1, .int .i64 a2, .int .i64 a3, .int .i64 a4, str t1, str t2, str t3] := by rw [← hwe, hbe]; exact cmd_new wd _ _ _ _ _ _ _
              have HTe := Lib.hid (HTd.out.next (HTd.out.i.pr.keep hke trivial) HTd.out.i.le (hke.weaken fun _ _ _ => trivial) HNe.out)
              have HKe := Lib.hid (HKd.out.trans (hke.weaken fun _ _ _ => trivial))
              have HRe := Lib.hid hre
              have HBase : Hid (wq.heap.size ≤ we.heap.size) := Lib.hid (Nat.le_trans HGs.out HKe.out.size)
              clear hwe hbe hke hre
              try simp only [Act.put, List.getElem_toArray, List.getElem_cons_zero, List.getElem_cons_succ, List.setIfInBounds_toArray, List.set_cons_zero, List.set_cons_succ]
              refine wpAnyH_ready (rs := [7]) (by kernel_rfl) (by simp) ?_
              clear hHeld
              refine AllReadyH.cons rfl (fun K hK => ?_) AllReadyH.nil
              have hox := own_keep HOw.out HKe.out (fun j hj e => by have h1 := (own_lt HOw.out hj).1; have h2 := HGw.out.1; omega)
              refine step_app etCmdP rfl _ _ rfl wq.heap.size (.slice Av m cv) m xs rfl hox (fun _ => True) (some ⟨be, 0, none⟩) 1 1 [.int .i64 a1, .int .i64 a2, .int .i64 a3, .int .i64 a4, str t1, str t2, str t3] rfl HRe.out (fun h => by cases h) (cmd_ones _ _ _ _ _ _ _) (by have := HRl.out.2.2.1; have := HRl.out.2.2.2; omega) HBase.out ?_
              intro v' wf ho hkf hnf
              obtain ⟨Aw, cw, rfl, -, -⟩ := own_rd ho
              have hne : ∀ j, j < wq.heap.size → (Value.slice Av m cv).ownBlock ≠ some j := fun j hj e => by have := (own_lt hox e).1; omega
              have hTf : LogT g A n c bs z w b2 b3 v1 v2 (.slice A6 l3.length c6) (.slice Av m cv) wf q' (d' || !decOk l') := ⟨⟨HTe.out.i.pr.keep hkf (hne g HGw.out.1), HTe.out.i.le, HTe.out.i.keep.comp hkf (fun _ _ h => h) (fun j hj _ => hne j (Nat.lt_of_lt_of_le hj HB10.out.i.keep.size)), HTe.out.i.res.keep hkf (hne b2 HGw.out.2.2)⟩, HTe.out.st.keep hkf (hne b3 HGw.out.2.1), HTe.out.ne, HTe.out.one, HTe.out.lo⟩
              have HTf := Lib.hid hTf
              have HFs := Lib.hid (Nat.le_trans HBase.out hkf.size)
              have HOf := Lib.hid ho
              clear hox ho hkf hnf hne hTf
              refine hK.out _ _ trivial (fun hHeld => ?_)
              clear hK K
              try simp only [Act.put, List.getElem_toArray, List.getElem_cons_zero, List.getElem_cons_succ, List.setIfInBounds_toArray, List.set_cons_zero, List.set_cons_succ]
              refine wpAnyH_take (i := 8) (v := .pointer (some ⟨b3, 3, none⟩)) rfl (by kernel_rfl) (by kernel_rfl) (by kernel_rfl) (fun _ _ _ h => h) (Or.inl ⟨by kernel_rfl, by intro w hSw; go_simp⟩) hHeld ?_
              simp only [Act.put, List.getElem_toArray, List.getElem_cons_zero, List.getElem_cons_succ, List.setIfInBounds_toArray, List.set_cons_zero, List.set_cons_succ]
              refine wpAnyH_ready (rs := [9]) (by kernel_rfl) (by simp) ?_
              clear hHeld
              refine AllReadyH.cons rfl (fun K hK => ?_) AllReadyH.nil
              have k3 := HTf.out.st.cell 3; have f3 := HTf.out.st.frozen 3; have l3' := HTf.out.st.lt
              simp at k3
              go_simp
              refine hK.out _ _ trivial (fun hHeld => ?_)
              clear hK K
              try simp only [Act.put, List.getElem_toArray, List.getElem_cons_zero, List.getElem_cons_succ, List.setIfInBounds_toArray, List.set_cons_zero, List.set_cons_succ]
              clear k3 f3 l3'
              refine wpAnyH_done (by kernel_rfl) ?_ _
              clear hHeld
              generalize hwz : World.setCell wf _ _ = wz
              have HZ := Lib.hid (log_put HTf.out hwz.symm HOf.out HGw.out)
              have HZs : Hid (wq.heap.size ≤ wz.heap.size) := Lib.hid (by rw [← hwz]; exact Nat.le_trans HFs.out ((Keep.refl (fun j => j ≠ b3) wf).setCell (fun _ e => e rfl) _).size)
              clear hwz
              go_wp2_with fail
              exact ⟨⟨i + 1, by omega, congrArg _ (by omega), Lib.hid ⟨q', _, _, m + 1, d' || !decOk l', HZs.out, HZ.out.1, HZ.out.2, by have := HRl.out.2.2.1; omega, log_good HRl.out.1 HRl.out.2.1 HRl.out.2.2.1 hlt H14.out.2, log_bad HRl.out.2.1 hlt H14.out.2⟩⟩, by simp [intOf]; omega⟩
            · go_simp
              obtain ⟨be, hbe⟩ : ∃ b, b = wd.heap.size := ⟨_, rfl⟩
              refine hK.out _ _ trivial (fun hHeld => ?_)
              clear hK K
              rw [← hbe]
              generalize hwe : World.alloc wd _ = we
              have hke : Fresh wd we := by rw [← hwe]; exact (Keep.refl _ wd).alloc _
              have hre : Rd we (fun _ => True) 7 (some ⟨be, 0, none⟩) 1 [.int .i64 a1, .int .i64 a2, .int .i64 a3, .int .i64 a4, str t1, str t2, str t3] := by rw [← hwe, hbe]; exact cmd_new wd _ _ _ _ _ _ _
              have HTe := Lib.hid (HTd.out.next (HTd.out.i.pr.keep hke trivial) HTd.out.i.le (hke.weaken fun _ _ _ => trivial) HNe.out)
              have HKe := Lib.hid (HKd.out.trans (hke.weaken fun _ _ _ => trivial))
              have HRe := Lib.hid hre
              have HBase : Hid (wq.heap.size ≤ we.heap.size) := Lib.hid (Nat.le_trans HGs.out HKe.out.size)
              clear hwe hbe hke hre
              try simp only [Act.put, List.getElem_toArray, List.getElem_cons_zero, List.getElem_cons_succ, List.setIfInBounds_toArray, List.set_cons_zero, List.set_cons_succ]
              refine wpAnyH_ready (rs := [1]) (by kernel_rfl) (by simp) ?_
              clear hHeld
              refine AllReadyH.cons rfl (fun K hK => ?_) AllReadyH.nil
              have k3 := HTe.out.st.cell 3; have l3' := HTe.out.st.lt
              simp at k3
              go_simp
              refine hK.out _ _ trivial (fun hHeld => ?_)
              clear hK K
              try simp only [Act.put, List.getElem_toArray, List.getElem_cons_zero, List.getElem_cons_succ, List.setIfInBounds_toArray, List.set_cons_zero, List.set_cons_succ]
              clear k3 l3'
              refine wpAnyH_ready (rs := [7]) (by kernel_rfl) (by simp) ?_
              clear hHeld
              refine AllReadyH.cons rfl (fun K hK => ?_) AllReadyH.nil
              have hox := own_keep HOw.out HKe.out (fun j hj e => by have h1 := (own_lt HOw.out hj).1; have h2 := HGw.out.1; omega)
              refine step_app etCmdP rfl _ _ rfl wq.heap.size (.slice Av m cv) m xs rfl hox (fun _ => True) (some ⟨be, 0, none⟩) 1 1 [.int .i64 a1, .int .i64 a2, .int .i64 a3, .int .i64 a4, str t1, str t2, str t3] rfl HRe.out (fun h => by cases h) (cmd_ones _ _ _ _ _ _ _) (by have := HRl.out.2.2.1; have := HRl.out.2.2.2; omega) HBase.out ?_
              intro v' wf ho hkf hnf
              obtain ⟨Aw, cw, rfl, -, -⟩ := own_rd ho
              have hne : ∀ j, j < wq.heap.size → (Value.slice Av m cv).ownBlock ≠ some j := fun j hj e => by have := (own_lt hox e).1; omega
              have hTf : LogT g A n c bs z w b2 b3 v1 v2 (.slice A6 l3.length c6) (.slice Av m cv) wf q' (d' || !decOk l') := ⟨⟨HTe.out.i.pr.keep hkf (hne g HGw.out.1), HTe.out.i.le, HTe.out.i.keep.comp hkf (fun _ _ h => h) (fun j hj _ => hne j (Nat.lt_of_lt_of_le hj HB10.out.i.keep.size)), HTe.out.i.res.keep hkf (hne b2 HGw.out.2.2)⟩, HTe.out.st.keep hkf (hne b3 HGw.out.2.1), HTe.out.ne, HTe.out.one, HTe.out.lo⟩
              have HTf := Lib.hid hTf
              have HFs := Lib.hid (Nat.le_trans HBase.out hkf.size)
              have HOf := Lib.hid ho
              clear hox ho hkf hnf hne hTf
              refine hK.out _ _ trivial (fun hHeld => ?_)
              clear hK K
              try simp only [Act.put, List.getElem_toArray, List.getElem_cons_zero, List.getElem_cons_succ, List.setIfInBounds_toArray, List.set_cons_zero, List.set_cons_succ]
              refine wpAnyH_take (i := 8) (v := .pointer (some ⟨b3, 3, none⟩)) rfl (by kernel_rfl) (by kernel_rfl) (by kernel_rfl) (fun _ _ _ h => h) (Or.inl ⟨by kernel_rfl, by intro w hSw; go_simp⟩) hHeld ?_
              simp only [Act.put, List.getElem_toArray, List.getElem_cons_zero, List.getElem_cons_succ, List.setIfInBounds_toArray, List.set_cons_zero, List.set_cons_succ]
              refine wpAnyH_ready (rs := [9]) (by kernel_rfl) (by simp) ?_
              clear hHeld
              refine AllReadyH.cons rfl (fun K hK => ?_) AllReadyH.nil
              have k3 := HTf.out.st.cell 3; have f3 := HTf.out.st.frozen 3; have l3' := HTf.out.st.lt
              simp at k3
              go_simp
              refine hK.out _ _ trivial (fun hHeld => ?_)
              clear hK K
              try simp only [Act.put, List.getElem_toArray, List.getElem_cons_zero, List.getElem_cons_succ, List.setIfInBounds_toArray, List.set_cons_zero, List.set_cons_succ]
              clear k3 f3 l3'
              refine wpAnyH_done (by kernel_rfl) ?_ _
              clear hHeld
              generalize hwz : World.setCell wf _ _ = wz
              have HZ := Lib.hid (log_put HTf.out hwz.symm HOf.out HGw.out)
              have HZs : Hid (wq.heap.size ≤ wz.heap.size) := Lib.hid (by rw [← hwz]; exact Nat.le_trans HFs.out ((Keep.refl (fun j => j ≠ b3) wf).setCell (fun _ e => e rfl) _).size)
              clear hwz
              go_wp2_with fail
              exact ⟨⟨i + 1, by omega, congrArg _ (by omega), Lib.hid ⟨q', _, _, m + 1, d' || !decOk l', HZs.out, HZ.out.1, HZ.out.2, by have := HRl.out.2.2.1; omega, log_good HRl.out.1 HRl.out.2.1 HRl.out.2.2.1 hlt H14.out.2, log_bad HRl.out.2.1 hlt H14.out.2⟩⟩, by simp [intOf]; omega⟩
    · obtain rfl : v4 = i := by omega
      have hIi : ¬ (v4 : Int) < (v4 : Int) := by omega
      have hv4t : (v4 : Int) ≤ 4611686018427387904 := by
        have h := rCount_most bs q3 db (most := mxC) (by decide)
        rw [HV.out.2.2.2.2.1] at h
        exact h
      have hBB : BB = (bd' || !decide ((v2 : Int) ≤ mxC - (m : Int))) ∧ (BB = false → q = (repLoop bs v4 q4).1) := by
        have hq := HV.out.2.2.2.2.2.1
        rw [← HBd.out] at hq
        cases bd'
        · obtain ⟨h1, h2, h3⟩ := hgood rfl
          rw [Nat.sub_self] at h2
          have h4 : repLoop bs 0 q = (q, false) := rfl
          rw [h4] at h2
          rw [h1, ← h2] at hq
          rw [hq, h3]
          exact ⟨rfl, fun _ => by rw [← h2]⟩
        · rw [hq, or_bad (hbad rfl)]
          exact ⟨rfl, fun e => by cases e⟩
      have HBB := Lib.hid hBB
      have Hvt := Lib.hid hvt
      have wa : IntKind.i64.wrap (4611686018427387904 - (m : Int)) = 4611686018427387904 - (m : Int) := by rw [IntWalk.i64_in _ (by omega)]
      subst hvt
      have k1 := HTt.out.st.cell 1; have k3 := HTt.out.st.cell 3; have lb3 := HTt.out.st.lt
      simp at k1 k3
      clear hT0 hown hgood hbad HW hev hBB y3 hv4t
      as_aux_lemma =>
        by_cases hc : (4611686018427387904 : Int) - (m : Int) < (v2 : Int)
        · have hcb : decide ((4611686018427387904 : Int) - (m : Int) < (v2 : Int)) = true := decide_eq_true hc
          have hbt : BB = true := by
            rw [HBB.out.1, decide_eq_false (show ¬ (v2 : Int) ≤ mxC - (m : Int) from by show ¬ (v2 : Int) ≤ 4611686018427387904 - (m : Int); omega)]
            simp
          have HBt := Lib.hid hbt
          have HC2 := Lib.hid (HFl.out wr q bd' { data := #[108, 101, 110, 103, 116, 104] } HTt.out.i)
          clear hbt
          go_wp2_with fail
          refine HC2.out.mono ?_
          rintro e w5 ⟨rfl, hp5, hk5⟩
          have HT5 := Lib.hid (HTt.out.next hp5 HTt.out.i.le hk5 HNe.out)
          clear hp5 hk5 HC2 k1 k3 lb3 lg
          have HTh : Hid (_root_.Go.World.there w5 b2 0 4) := Lib.hid (by have := HT5.out.i.res.there; simpa using this)
          have HRg : Hid (_root_.Go.World.rangeAt w5 b3 0 [.int .i64 (v1 : Int), .int .i64 (v2 : Int), .slice A6 l3.length c6, .slice Av m cv]) := Lib.hid (by have := blk_range HT5.out.st; simpa using this)
          have l2' := HT5.out.i.res.lt; have l3' := HT5.out.st.lt
          go_wp2_with (first | (refine wpList_load_mid rfl 32 _ rfl b3 0 rfl [.int .i64 (v1 : Int), .int .i64 (v2 : Int), .slice A6 l3.length c6, .slice Av m cv] _ HRg.out Tryd.underlying32 rfl (by kernel_rfl) ?_) | (refine wpList_store_to rfl 32 (.tmp 2) (.tmp 65) rfl b2 0 #[.int .i64 (v1 : Int), .int .i64 (v2 : Int), .slice A6 l3.length c6, .slice Av m cv] rfl rfl HTh.out (by kernel_rfl) (by simp [Value.oneCell']) ?_))
          intro wf hwf
          have hfin := log_fin HT5.out hwf.out HNe.out HB2.out
          have HFin := Lib.hid hfin
          clear hfin hwf
          go_wp2_with fail
          refine bodyPost_ret (presults_cell rfl _ _ b2 32 #[.int .i64 (v1 : Int), .int .i64 (v2 : Int), .slice A6 l3.length c6, .slice Av m cv] _ rfl HFin.out.1 Tryd.underlying32 rfl (by kernel_rfl)) rfl ?_
          exact HEnd.out _ _ ⟨_, _, rfl, rfl, rfl⟩ ⟨q, by rw [HBt.out]; exact HFin.out.2.1, HT5.out.i.le, fun e => by rw [HBt.out] at e; cases e⟩ HFin.out.2.2
        · have hcb : decide ((4611686018427387904 : Int) - (m : Int) < (v2 : Int)) = false := decide_eq_false hc
          have hbt : BB = bd' := by
            rw [HBB.out.1, decide_eq_true (show (v2 : Int) ≤ mxC - (m : Int) from by show (v2 : Int) ≤ 4611686018427387904 - (m : Int); omega)]
            simp
          have HBt := Lib.hid hbt
          clear hbt
          have HTh : Hid (_root_.Go.World.there wr b2 0 4) := Lib.hid (by have := HTt.out.i.res.there; simpa using this)
          have HRg : Hid (_root_.Go.World.rangeAt wr b3 0 [.int .i64 (v1 : Int), .int .i64 (v2 : Int), .slice A6 l3.length c6, .slice Av m cv]) := Lib.hid (by have := blk_range HTt.out.st; simpa using this)
          have l2' := HTt.out.i.res.lt; have l3' := HTt.out.st.lt
          go_wp2_with (first | (refine wpList_load_mid rfl 32 _ rfl b3 0 rfl [.int .i64 (v1 : Int), .int .i64 (v2 : Int), .slice A6 l3.length c6, .slice Av m cv] _ HRg.out Tryd.underlying32 rfl (by kernel_rfl) ?_) | (refine wpList_store_to rfl 32 (.tmp 2) (.tmp 65) rfl b2 0 #[.int .i64 (v1 : Int), .int .i64 (v2 : Int), .slice A6 l3.length c6, .slice Av m cv] rfl rfl HTh.out (by kernel_rfl) (by simp [Value.oneCell']) ?_))
          intro wf hwf
          have hfin := log_fin HTt.out hwf.out HNe.out HB2.out
          have HFin := Lib.hid hfin
          clear hfin hwf
          go_wp2_with fail
          refine bodyPost_ret (presults_cell rfl _ _ b2 32 #[.int .i64 (v1 : Int), .int .i64 (v2 : Int), .slice A6 l3.length c6, .slice Av m cv] _ rfl HFin.out.1 Tryd.underlying32 rfl (by kernel_rfl)) rfl ?_
          exact HEnd.out _ _ ⟨_, _, rfl, rfl, rfl⟩ ⟨q, by rw [HBt.out]; exact HFin.out.2.1, HTt.out.i.le, HBB.out.2⟩ HFin.out.2.2
end Go.Proofs.YtioinjcdkmiafaaDoor
