/-
  MERGED: RepK RepR Encode
-/
import Derived.Test.YtioinjcdkmiafaaDoorYC6
import Derived.Test.YtioinjcdkmiafaaDoorYB2
import Derived.Test.YtioinjcdkmiafaaDoorYA4
import Derived.Test.YtioinjcdkmiafaaDoorYC0
namespace Go.Proofs.YtioinjcdkmiafaaDoor
set_option linter.unusedVariables false
set_option linter.unusedSimpArgs false
open Go.RowKit

theorem st_one {a b : Int} {vs vt : Value} (h : vs.oneCell' = true ∧ vt.oneCell' = true) : (#[.int .i64 a, .int .i64 b, vs, vt] : Array Value).all (·.oneCell') = true := by
  refine Array.all_eq_true_iff_forall_mem.2 fun u hu => ?_
  simp only [List.mem_toArray, List.mem_cons, List.not_mem_nil, or_false] at hu
  rcases hu with rfl | rfl | rfl | rfl
  · rfl
  · rfl
  · exact h.1
  · exact h.2
theorem chk_fin {u u' : World} {b3 : Nat} {a b : Int} {vs vt : Value} (h : Blk u b3 32 #[.int .i64 0, .int .i64 0, .slice none 0 0, .slice none 0 0]) (hu : u' = u.setCells b3 0 [.int .i64 a, .int .i64 b, vs, vt]) : Blk u' b3 32 #[.int .i64 a, .int .i64 b, vs, vt] ∧ Keep (fun j => j ≠ b3) u u' := by
  obtain ⟨ds, h1, h2⟩ := Blk.setCells [.int .i64 a, .int .i64 b, vs, vt] 0 _ _ h (by simp)
  have e : ds = #[.int .i64 a, .int .i64 b, vs, vt] := by
    apply Array.ext'
    rw [h2]
    simp
  rw [e, ← hu] at h1
  exact ⟨h1, by rw [hu]; exact Keep.setCells _ _ _ (Keep.refl _ _) (fun _ e => e rfl)⟩
theorem results_tct0 {fn : Func} {p u v : Tmp} {ty : TypeId} (h : fn.results = #[.tmp u, .cell p ty, .tmp v]) (tmps : Array Value) (P : Program) (w : World) :
    (results fn tmps).run P w = ((asAddr (tmps.getD p undef)).run P w).andThen fun a w₁ => ((loadVar ty a).run P w₁).andThen fun x w₂ => .ok (.tuple #[tmps.getD u undef, x, tmps.getD v undef]) w₂ := by
  simp only [results, h]
  simp [Sem.run_bind, Result.andThen]
theorem results_tct {P : Program} {fn : Func} {p u v : Tmp} {ty : TypeId} (h : fn.results = #[.tmp u, .cell p ty, .tmp v]) (tmps : Array Value) (w : World) (g : Nat) (t : TypeId) (cs : Array Value) (d : TypeDesc) (x y : Value)
    (hp : tmps.getD p undef = .pointer (some ⟨g, 0, none⟩)) (hg : w.heap[g]? = some (.cells cs t (0, 0))) (hu : P.underlying ty = some d) (hd : (match d with | .struct _ | .array _ _ => true | _ => false) = true) (hi : (P.info? ty).map (·.size) = some cs.size)
    (hx : tmps.getD u undef = x) (hy : tmps.getD v undef = y) : (results fn tmps).run P w = .ok (.tuple #[x, .agg cs, y]) w := by
  rw [results_tct0 h, hp, hx, hy]
  simp [asAddr, Result.andThen, run_loadVar_row w g t ty cs (0, 0) d hg hu hd hi]
theorem rep_flag (bs : Txt) (q : Nat) (h : lgBad bs (rep1 bs).2.1 (rep1 bs).2.2 = false → q = (lgEnd bs (rep1 bs).2.1 (rep1 bs).2.2).1) : (lgBad bs (rep1 bs).2.1 (rep1 bs).2.2 || !decide (q = bs.length)) = !repOk bs := by
  have e : lgBad bs (rep1 bs).2.1 (rep1 bs).2.2 = (bad5 bs || ((repLoop bs (rep5 bs).1 (rep5 bs).2.1).2 || !decide (((rep3 bs).1 : Int) ≤ mxC - ((rep5 bs).1 : Int)))) := rfl
  have e2 : lgEnd bs (rep1 bs).2.1 (rep1 bs).2.2 = repLoop bs (rep5 bs).1 (rep5 bs).2.1 := rfl
  rw [e] at h ⊢
  rw [e2] at h
  unfold repOk
  cases h1 : bad5 bs
  · cases h2 : (repLoop bs (rep5 bs).1 (rep5 bs).2.1).2
    · cases h3 : decide (((rep3 bs).1 : Int) ≤ mxC - ((rep5 bs).1 : Int))
      · simp
      · rw [h (by rw [h1, h2, h3]; rfl)]
        simp
    · simp
  · simp
set_option maxRecDepth 20000 in
set_option maxHeartbeats 2000000 in
theorem chk_any (A : Option Addr) (n c : Nat) (bs : Txt) (w : World) (hb : Rd w (fun _ => True) 1 A n (Lib.byteCells bs)) (hnc : n ≤ c) (hnil : n = 0 → c = 0 ∨ A ≠ none) (hn : n ≤ 1048576) (hT : TabsN w) :
    Calls Tryd.prog 8 #[.slice A n c] w fun e w' => (∃ vs vt ev, e = .returned (.tuple #[.int .i64 ((rep1 bs).1 : Int), .agg #[.int .i64 ((rep2 bs).1 : Int), .int .i64 ((rep3 bs).1 : Int), vs, vt], ev]) ∧ Amiss (!repOk bs) ev ∧ vs.oneCell' = true ∧ vt.oneCell' = true) ∧ Fresh w w' := by
  have hlen : bs.length = n := by simpa [Lib.byteCells] using hb.1
  obtain ⟨w1, hw1⟩ : ∃ w1, w1 = (w.alloc (.cells #[.int .i64 0, .int .i64 0, .slice none 0 0, .slice none 0 0] 32)).alloc (.cells #[.slice A n c, .int .i64 0, .iface 45 (.int .i64 121), .nilIface] 47) := ⟨_, rfl⟩
  obtain ⟨b3, hb3⟩ : ∃ b, b = w.heap.size := ⟨_, rfl⟩
  obtain ⟨g, hg⟩ : ∃ b, b = w.heap.size + 1 := ⟨_, rfl⟩
  have hf1 : Fresh w w1 := by rw [hw1]; exact ((Keep.refl _ w).alloc _).alloc _
  have hr1 : Blk w1 b3 32 #[.int .i64 0, .int .i64 0, .slice none 0 0, .slice none 0 0] := by rw [hw1, hb3]; exact (Blk.new _ _ _).alloc _
  have hp1 : PR w1 g A n c 121 0 false := ⟨.nilIface, by rw [hw1, hg]; exact Blk.newAt (by simp), .inl ⟨rfl, rfl⟩⟩
  have key : ∀ u, Keep (fun k => k ≠ g) w1 u → Fresh w u := fun u hk => fresh_of hf1 hk (by omega)
  have HC := Lib.hid (pcount_any g (fun _ => True) A n c bs 121 0 false { data := #[112, 114, 111, 109, 105, 115, 101] } w1 hp1 (Nat.zero_le _) (hb.keep hf1) (by omega))
  obtain ⟨⟨rv, rp, rb⟩, hr⟩ : ∃ r, r = rep1 bs := ⟨_, rfl⟩
  rw [show rCount bs 0 false mxC = (rv, rp, rb) from hr.symm] at HC
  have hrp : rp ≤ n := by
    have h := rCount_le bs 0 false mxC (Nat.zero_le _)
    have h2 : rCount bs 0 false mxC = (rv, rp, rb) := hr.symm
    rw [h2, hlen] at h
    exact h
  have HLg := Lib.hid (fun (u : World) (hk : Keep (fun k => k ≠ g) w1 u) (hp : PR u g A n c 121 rp rb) => plog_any g A n c bs 121 rp rb u hp hrp hnc hnil (((hb.old (by decide)).keep ((key u hk).weaken fun _ _ _ => trivial)).weaken fun k hk e => by have h' : k < w.heap.size := hk; omega) hn (fun u' hk' => ⟨(hT.fresh (key u' (hk.trans hk'))).t, (hT.fresh (key u' (hk.trans hk'))).n⟩))
  have hF : ∀ q, (lgBad bs rp rb = false → q = (lgEnd bs rp rb).1) → (lgBad bs rp rb || !decide (q = n)) = !repOk bs := by
    have h := rep_flag bs
    rw [← hr, hlen] at h
    exact h
  have hv : (rep2 bs).1 = (lg1 bs rp rb).1 ∧ (rep3 bs).1 = (lg2 bs rp rb).1 := by
    have h1 : (rep2 bs).1 = (lg1 bs (rep1 bs).2.1 (rep1 bs).2.2).1 := rfl
    have h2 : (rep3 bs).1 = (lg2 bs (rep1 bs).2.1 (rep1 bs).2.2).1 := rfl
    rw [← hr] at h1 h2
    exact ⟨h1, h2⟩
  rw [← hr, hv.1, hv.2]
  obtain ⟨v1, hv1⟩ : ∃ v, v = (lg1 bs rp rb).1 := ⟨_, rfl⟩
  obtain ⟨v2, hv2⟩ : ∃ v, v = (lg2 bs rp rb).1 := ⟨_, rfl⟩
  obtain ⟨ok, hok⟩ : ∃ v, v = repOk bs := ⟨_, rfl⟩
  rw [← hv1, ← hv2, ← hok]
  rw [← hok] at hF
  have HV := Lib.hid (And.intro hv1 (And.intro hv2 hF))
  have H1 := Lib.hid (And.intro hf1 (And.intro hr1 (And.intro key (show b3 ≠ g by omega))))
  have HB3 := Lib.hid hb3
  clear hb hT hlen hf1 hr1 hp1 key hr hF hv hv1 hv2 hok
  go_enter Tryd.func8, Tryd.ntmps8
  go_upto_region 2 with (fail)
  rw [← hg, ← hb3]
  generalize hwx : World.alloc (World.alloc w _) _ = wx
  obtain rfl : w1 = wx := hw1.trans hwx
  clear hwx hw1 hb3 hg
  go_wp2_with fail
  refine HC.out.mono ?_
  rintro e w2 ⟨rfl, hp2, hk2⟩
  have HL2 := Lib.hid (HLg.out w2 hk2 hp2)
  have H2 := Lib.hid (And.intro hk2 (H1.out.2.1.keep hk2 H1.out.2.2.2))
  clear hp2 hk2 HC HLg
  go_wp2_with fail
  refine HL2.out.mono ?_
  rintro e w3 ⟨⟨vs, vt, rfl, ho⟩, ⟨q, hp3, hq, hqe⟩, hk3⟩
  rw [← HV.out.1, ← HV.out.2.1]
  have HO := Lib.hid ho
  have H3 := Lib.hid (And.intro hp3 (And.intro (HV.out.2.2 q hqe) (And.intro hq (And.intro (H2.out.1.trans hk3) (H2.out.2.keep hk3 H1.out.2.2.2)))))
  clear ho hp3 hqe hq hk3 HL2 H2
  go_wp2_with (refine wpList_store_new rfl (.tmp 7) (.tmp 15) rfl _ #[.int .i64 (v1 : Int), .int .i64 (v2 : Int), vs, vt] _ rfl rfl rfl (by kernel_rfl) (st_one HO.out) ?_)
  intro w4 hb7 hf4 hs4
  obtain ⟨b7, hb7e⟩ : ∃ b, b = w3.heap.size := ⟨_, rfl⟩
  rw [← hb7e] at hb7 ⊢
  have hng : b7 ≠ g := by have := H3.out.1.lt; omega
  have hn3 : b7 ≠ b3 := by have := H3.out.2.2.2.2.lt; omega
  have HKS : Hid (∀ w', Keep (fun k => k ≠ g) w4 w' → (w'.cell? ⟨b7, 0, none⟩ = some (.int .i64 (v1 : Int)) ∧ w'.cell? ⟨b7, 1, none⟩ = some (.int .i64 (v2 : Int)) ∧ w'.cell? ⟨b7, 2, none⟩ = some vs ∧ w'.cell? ⟨b7, 3, none⟩ = some vt ∧ b7 < w'.heap.size)) := Lib.hid fun w' hk => ⟨(hb7.keep hk hng).cell 0, (hb7.keep hk hng).cell 1, (hb7.keep hk hng).cell 2, (hb7.keep hk hng).cell 3, (hb7.keep hk hng).lt⟩
  have H4 := Lib.hid (And.intro (H3.out.2.2.2.1.trans (hf4.weaken fun _ _ _ => trivial)) (And.intro (H3.out.2.2.2.2.keep hf4 trivial) (And.intro HO.out (And.intro H1.out.2.2.2 hn3))))
  have hE4 := pend_any g A n c 121 q (lgBad bs rp rb) w4.drew (H3.out.1.keep (hf4.drew) trivial) H3.out.2.2.1 (by omega)
  rw [H3.out.2.1] at hE4
  have HE4 := Lib.hid hE4
  clear hb7 hf4 hs4 hb7e hng hn3 hE4 H3
  go_upto_region 4 with (fail)
  -- REG4
  refine wp_region_held_drew (S := fun w' => (w'.cell? ⟨b7, 0, none⟩ = some (.int .i64 (v1 : Int)) ∧ w'.cell? ⟨b7, 1, none⟩ = some (.int .i64 (v2 : Int)) ∧ w'.cell? ⟨b7, 2, none⟩ = some vs ∧ w'.cell? ⟨b7, 3, none⟩ = some vt ∧ b7 < w'.heap.size)) (by kernel_rfl) (HKS.out _ (Keep.refl _ w4).drew) (fun hHeld => ?_)
  refine wpAnyH_take (i := 0) (v := .int .i64 (rv : Int)) rfl (by kernel_rfl) (by kernel_rfl) (by kernel_rfl) (fun _ _ _ h => h) (Or.inl ⟨by kernel_rfl, by intro w hSw; simp [go_sem, hSw]⟩) hHeld ?_
  simp only [Act.put, List.getElem_toArray, List.getElem_cons_zero, List.getElem_cons_succ, List.setIfInBounds_toArray, List.set_cons_zero, List.set_cons_succ]
  refine wpAnyH_take (i := 2) (v := .pointer (some ⟨g, 0, none⟩)) rfl (by kernel_rfl) (by kernel_rfl) (by kernel_rfl) (fun _ _ _ h => h) (Or.inl ⟨by kernel_rfl, by intro w hSw; simp [go_sem, hSw]⟩) hHeld ?_
  simp only [Act.put, List.getElem_toArray, List.getElem_cons_zero, List.getElem_cons_succ, List.setIfInBounds_toArray, List.set_cons_zero, List.set_cons_succ]
  refine wpAnyH_take (i := 1) (v := .agg #[.int .i64 (v1 : Int), .int .i64 (v2 : Int), vs, vt]) rfl (by kernel_rfl) (by kernel_rfl) (by kernel_rfl) (fun _ _ _ h => h) (Or.inl ⟨by kernel_rfl, by intro w hSw; obtain ⟨s0, s1, s2, s3, s4⟩ := hSw; go_simp⟩) hHeld ?_
  simp only [Act.put, List.getElem_toArray, List.getElem_cons_zero, List.getElem_cons_succ, List.setIfInBounds_toArray, List.set_cons_zero, List.set_cons_succ]
  refine wpAnyH_ready (rs := [3]) (by kernel_rfl) (by simp) ?_
  clear hHeld
  refine AllReadyH.cons rfl (fun K hK => ?_) AllReadyH.nil
  go_simp
  (with_reducible refine Calls.mono HE4.out ?_)
  rintro e w5 ⟨⟨ev, rfl, hev⟩, hp5, hk5⟩
  have H5 := Lib.hid (And.intro hev ((Keep.refl (fun k => k ≠ g) w4).drew.trans hk5))
  clear hev hp5 hk5 HE4
  go_wp2_with fail
  refine hK.out _ _ (HKS.out _ H5.out.2) (fun hHeld => ?_)
  clear hK K
  try simp only [Act.put, List.getElem_toArray, List.getElem_cons_zero, List.getElem_cons_succ, List.setIfInBounds_toArray, List.set_cons_zero, List.set_cons_succ]
  refine wpAnyH_take (i := 4) (v := .int .i64 (rv : Int)) rfl (by kernel_rfl) (by kernel_rfl) (by kernel_rfl) (fun _ _ _ h => h) (Or.inl ⟨by kernel_rfl, by intro w hSw; simp [go_sem, hSw]⟩) hHeld ?_
  simp only [Act.put, List.getElem_toArray, List.getElem_cons_zero, List.getElem_cons_succ, List.setIfInBounds_toArray, List.set_cons_zero, List.set_cons_succ]
  refine wpAnyH_ready (rs := [5]) (by kernel_rfl) (by simp) ?_
  clear hHeld
  refine AllReadyH.cons rfl (fun K hK => ?_) AllReadyH.nil
  rw [if_pos (by rfl)]
  have hb3 := H4.out.2.1.keep H5.out.2 H4.out.2.2.2.1
  refine wp_store_mid _ _ _ rfl b3 0 #[.int .i64 (v1 : Int), .int .i64 (v2 : Int), vs, vt] rfl rfl (hb3.there) (by kernel_rfl) (st_one H4.out.2.2.1) ?_
  have hfs : Keep (fun j => j ≠ b3) w5 (World.setCells w5 b3 0 [.int .i64 (v1 : Int), .int .i64 (v2 : Int), vs, vt]) := Keep.setCells _ _ _ (Keep.refl _ _) (fun _ e => e rfl)
  have hs5 := HKS.out _ H5.out.2
  have hb7 : b7 ≠ b3 := H4.out.2.2.2.2
  refine hK.out _ _ ⟨hfs.cellAt hs5.1 hb7, hfs.cellAt hs5.2.1 hb7, hfs.cellAt hs5.2.2.1 hb7, hfs.cellAt hs5.2.2.2.1 hb7, Nat.lt_of_lt_of_le hs5.2.2.2.2 hfs.size⟩ (fun hHeld => ?_)
  clear hK K
  try simp only [Act.put, List.getElem_toArray, List.getElem_cons_zero, List.getElem_cons_succ, List.setIfInBounds_toArray, List.set_cons_zero, List.set_cons_succ]
  refine wpAnyH_take (i := 6) (v := ev) rfl (by kernel_rfl) (by kernel_rfl) (by kernel_rfl) (fun _ _ _ h => h) (Or.inl ⟨by kernel_rfl, by intro w hSw; simp [go_sem, hSw]⟩) hHeld ?_
  simp only [Act.put, List.getElem_toArray, List.getElem_cons_zero, List.getElem_cons_succ, List.setIfInBounds_toArray, List.set_cons_zero, List.set_cons_succ]
  refine wpAnyH_done (by kernel_rfl) ?_ _
  clear hHeld
  have HFin := Lib.hid (chk_fin hb3 (u' := World.setCells w5 b3 0 [.int .i64 (v1 : Int), .int .i64 (v2 : Int), vs, vt]) rfl)
  clear hb3 hfs hs5
  generalize World.setCells w5 b3 0 [.int .i64 (v1 : Int), .int .i64 (v2 : Int), vs, vt] = w6 at HFin ⊢
  go_wp2_with fail
  -- END4
  refine bodyPost_ret (results_tct rfl _ _ b3 32 #[.int .i64 (v1 : Int), .int .i64 (v2 : Int), vs, vt] _ (.int .i64 (rv : Int)) ev rfl HFin.out.1 Tryd.underlying32 rfl (by kernel_rfl) rfl rfl) rfl ?_
  exact ⟨⟨vs, vt, ev, rfl, H5.out.1, HO.out⟩, (H1.out.2.2.1 w5 (H4.out.1.trans H5.out.2)).comp HFin.out.2 (fun _ _ h => h) (fun j hj _ e => by have := HB3.out; omega)⟩
end Go.Proofs.YtioinjcdkmiafaaDoor
namespace Go.Proofs.YtioinjcdkmiafaaDoor
set_option linter.unusedVariables false
set_option linter.unusedSimpArgs false
open Go.RowKit

/-- A record: what it says, and the header of its body. -/
structure RecV where
  d : RecD
  vb : Value
def RecV.cells (x : RecV) : List Value := [.int .i64 x.d.kind, x.vb]
theorem rec_two : ∀ x : RecV, x.cells.length = 2 := fun _ => rfl
/-- Its body reads. -/
def RecOk (w : World) (x : RecV) : Prop := ∃ A c, x.vb = .slice A x.d.body.length c ∧ x.d.body.length ≤ c ∧ (x.d.body.length = 0 → c = 0 ∨ A ≠ none) ∧ Rd w (fun _ => True) 1 A x.d.body.length (Lib.byteCells x.d.body)
theorem RecOk.keep {w w' : World} {x : RecV} (h : RecOk w x) (hk : Fresh w w') : RecOk w' x := by
  obtain ⟨A, c, h1, h2, h3, h4⟩ := h
  exact ⟨A, c, h1, h2, h3, h4.keep hk⟩
structure Recs (w : World) (A : Option Addr) (n : Nat) (hs : List RecV) : Prop where
  len : hs.length = n
  rd : Rd w (fun _ => True) 2 A n (rcells RecV.cells hs)
  le : n ≤ 1048576
  ok : ∀ x ∈ hs, RecOk w x
  fit : ∀ x ∈ hs, x.d.body.length ≤ 1048576
theorem Recs.keep {w w' : World} {A : Option Addr} {n : Nat} {hs : List RecV} (h : Recs w A n hs) (hk : Fresh w w') : Recs w' A n hs := ⟨h.len, h.rd.keep hk, h.le, fun x hx => (h.ok x hx).keep hk, h.fit⟩
def rdsOf (hs : List RecV) : List RecD := hs.map RecV.d
theorem prom_take {hs : List RecV} {k : Nat} (hk : k < hs.length) : promD (rdsOf (hs.take (k + 1))) = recS (promD (rdsOf (hs.take k))) hs[k].d := by
  rw [List.take_succ_eq_append_getElem hk]
  unfold rdsOf
  rw [List.map_append]
  exact promD_snoc _ _
/-- The k-th of them. -/
theorem Recs.at1 {w : World} {A : Option Addr} {n : Nat} {hs : List RecV} (h : Recs w A n hs) {k : Nat} (hk : k < n) : ∃ b o Ab cb, ∃ hl : k < hs.length, A = some ⟨b, o, none⟩ ∧ w.cell? ⟨b, o + k * 2, none⟩ = some (.int .i64 hs[k].d.kind) ∧ w.cell? ⟨b, o + k * 2 + 1, none⟩ = some (.slice Ab hs[k].d.body.length cb) ∧ hs[k].d.body.length ≤ cb ∧ (hs[k].d.body.length = 0 → cb = 0 ∨ Ab ≠ none) ∧ Rd w (fun _ => True) 1 Ab hs[k].d.body.length (Lib.byteCells hs[k].d.body) ∧ hs[k].d.body.length ≤ 1048576 := by
  have hl : k < hs.length := by rw [h.len]; exact hk
  obtain ⟨b, o, hA, -, hc⟩ := h.rd.2 (by omega)
  obtain ⟨Ab, cb, e, h2, h3, h4⟩ := h.ok _ (List.getElem_mem hl)
  have g0 := rcells_get rec_two hs k hl 0 (by omega)
  have g1 := rcells_get rec_two hs k hl 1 (by omega)
  refine ⟨b, o, Ab, cb, hl, hA, ?_, ?_, h2, h3, h4, h.fit _ (List.getElem_mem hl)⟩
  · have := hc (k * 2) (.int .i64 hs[k].d.kind) (by simpa [RecV.cells] using g0)
    simpa using this
  · have := hc (k * 2 + 1) (.slice Ab hs[k].d.body.length cb) (by rw [g1, ← e]; rfl)
    rw [← Nat.add_assoc] at this
    exact this
theorem max_if (a b : Int) : (if a < b then b else a) = max a b := by
  simp only [Int.max_def]
  split <;> split <;> omega
set_option maxRecDepth 20000 in
set_option maxHeartbeats 2000000 in
theorem promise_any (A : Option Addr) (n c : Nat) (hs : List RecV) (w : World) (h : Recs w A n hs) (hT : TabsN w) :
    Calls Tryd.prog 5 #[.slice A n c] w fun e w' => e = .returned (.int .i64 (promD (rdsOf hs))) ∧ Fresh w w' := by
  have H := Lib.hid (And.intro h hT)
  have hle := h.le
  clear h hT
  go_enter Tryd.func5, Tryd.ntmps5
  go_wp2_with fail
  go_loopw [3, 13] (fun mv iv wr => ∃ k : Nat, k ≤ n ∧ mv = .int .i64 (promD (rdsOf (hs.take k))) ∧ iv = .int .i64 (k : Int) ∧ Hid (Fresh w wr)) (fun _ i _ => n - (intOf i).toNat)
  case atStart => exact ⟨0, Nat.zero_le _, rfl, rfl, Lib.hid (Keep.refl _ _)⟩
  case round =>
    rename World => wr
    obtain ⟨k, hk, rfl, rfl, HF⟩ := hrel
    by_cases hlt : k < n
    · obtain ⟨b, o, Ab, cb, hl, hA, k0, k1, hbc, hbn, hbr, hbf⟩ := (H.out.1.keep HF.out).at1 hlt
      subst hA
      have hS := prom_take hl
      obtain ⟨best, hbest⟩ : ∃ z, z = promD (rdsOf (hs.take k)) := ⟨_, rfl⟩
      rw [← hbest] at hS ⊢
      obtain ⟨kd, hkd⟩ : ∃ z, z = hs[k].d.kind := ⟨_, rfl⟩
      obtain ⟨bs, hbs⟩ : ∃ z, z = hs[k].d.body := ⟨_, rfl⟩
      have hrc : hs[k].d = ⟨kd, bs⟩ := by rw [hkd, hbs]
      rw [hrc] at hS
      rw [← hkd] at k0
      rw [← hbs] at k1 hbc hbn hbr hbf
      have HS := Lib.hid hS
      have HB := Lib.hid (And.intro hbc (And.intro hbn (And.intro hbr hbf)))
      have HCk := Lib.hid (fun (u : World) (hu : Fresh wr u) => chk_any Ab bs.length cb bs u (hbr.keep hu) hbc hbn hbf (H.out.2.fresh (HF.out.trans hu)))
      have HOn := Lib.hid (fun (u : World) (hu : Fresh wr u) => pone_any Ab bs.length cb bs u (hbr.keep hu) (by omega))
      have lb := lt_of_cell k0
      have hki : (k : Int) < (n : Int) := by omega
      clear hbest hkd hbs hrc hS hbc hbn hbr hl
      go_upto_region 5 with (fail)
      obtain ⟨b5, hb5⟩ : ∃ b, b = wr.heap.size := ⟨_, rfl⟩
      rw [← hb5]
      generalize hwx : World.alloc wr _ = w1
      have hf1 : Fresh wr w1 := hwx ▸ (Keep.refl _ wr).alloc _
      have hr1 : Blk w1 b5 29 #[.int .i64 kd, .slice Ab bs.length cb] := by rw [← hwx, hb5]; exact Blk.new _ _ _
      have c0 := hr1.cell 0; have c1 := hr1.cell 1; have l5 := hr1.lt
      simp at c0 c1
      have HF1 := Lib.hid hf1
      clear k0 k1 lb hwx hf1 hr1 hb5
      by_cases a1 : kd = 1
      · subst a1
        have HC := Lib.hid (HCk.out w1 HF1.out)
        have hR : promD (rdsOf (hs.take (k + 1))) = if repOk bs = true then max (max best ((rep1 bs).1 : Int)) ((rep2 bs).1 : Int) else best := by
          rw [HS.out]
          unfold recS
          rw [if_pos rfl]
        obtain ⟨r1, hr1⟩ : ∃ z : Int, z = ((rep1 bs).1 : Int) := ⟨_, rfl⟩
        obtain ⟨r2, hr2⟩ : ∃ z : Int, z = ((rep2 bs).1 : Int) := ⟨_, rfl⟩
        obtain ⟨r3, hr3⟩ : ∃ z : Int, z = ((rep3 bs).1 : Int) := ⟨_, rfl⟩
        obtain ⟨ok, hok⟩ : ∃ z, z = repOk bs := ⟨_, rfl⟩
        rw [← hr1, ← hr2, ← hok] at hR
        rw [← hr1, ← hr2, ← hr3, ← hok] at HC
        have HR := Lib.hid hR
        clear hR hr1 hr2 hr3 hok HCk HOn HS
        go_wp2_with fail
        refine HC.out.mono ?_
        rintro e w2 ⟨⟨vs, vt, ev, rfl, hev, ho⟩, hf2⟩
        have HO := Lib.hid ho
        have HEv := Lib.hid hev
        have HF2 := Lib.hid (HF1.out.trans hf2)
        clear ho hf2 HC c0 c1 l5 hev
        go_wp2_with (refine wpList_store_new rfl (.tmp 7) (.tmp 26) rfl _ #[.int .i64 r2, .int .i64 r3, vs, vt] _ rfl rfl rfl (by kernel_rfl) (st_one HO.out) ?_)
        intro w3 hb7 hf3 hs3
        obtain ⟨b7, hb7e⟩ : ∃ b, b = w2.heap.size := ⟨_, rfl⟩
        rw [← hb7e] at hb7 ⊢
        have s0 : w3.cell? ⟨b7, 0, none⟩ = some (.int .i64 r2) := hb7.cell 0
        have l7 := hb7.lt
        have HF3 := Lib.hid (HF.out.trans (HF2.out.trans hf3))
        have Q7 := fun u => amiss_eql HEv.out u
        have G7 := fun o u => amiss_grd HEv.out BinOp.eql o u
        clear hb7 hf3 hs3 hb7e
        cases ok
        · go_wp2_with fail
          exact ⟨⟨k + 1, by omega, by rw [HR.out]; rfl, congrArg _ (by omega), Lib.hid HF3.out⟩, by simp [intOf]; omega⟩
        · go_wp2_with fail
          exact ⟨⟨k + 1, by omega, by rw [HR.out, max_if best r1, max_if]; first | rfl | simp, congrArg _ (by omega), Lib.hid HF3.out⟩, by simp [intOf]; omega⟩
      · have b1 : (kd == 1) = false := by simpa using a1
        by_cases a4 : kd = 4
        · subst a4
          have HC := Lib.hid (HOn.out w1 HF1.out)
          have hR : promD (rdsOf (hs.take (k + 1))) = if oneOk bs = true then max best ((rCount bs 0 false mxC).1 : Int) else best := by
            rw [HS.out]
            unfold recS
            rw [if_neg a1, if_pos rfl]
          obtain ⟨r1, hr1⟩ : ∃ z : Int, z = ((rCount bs 0 false mxC).1 : Int) := ⟨_, rfl⟩
          obtain ⟨ok, hok⟩ : ∃ z, z = oneOk bs := ⟨_, rfl⟩
          rw [← hr1, ← hok] at hR HC
          have HR := Lib.hid hR
          clear hR hr1 hok HCk HOn HS a1
          go_wp2_with fail
          refine HC.out.mono ?_
          rintro e w2 ⟨⟨ev, rfl, hev⟩, hf2⟩
          have HF3 := Lib.hid (HF.out.trans (HF1.out.trans hf2))
          have HEv := Lib.hid hev
          have Q7 := fun u => amiss_eql HEv.out u
          have G7 := fun o u => amiss_grd HEv.out BinOp.eql o u
          clear hf2 HC c0 c1 l5 hev
          cases ok
          · go_wp2_with fail
            exact ⟨⟨k + 1, by omega, by rw [HR.out]; rfl, congrArg _ (by omega), Lib.hid HF3.out⟩, by simp [intOf]; omega⟩
          · go_wp2_with fail
            exact ⟨⟨k + 1, by omega, by rw [HR.out]; first | rfl | simp | (rw [max_if]; simp), congrArg _ (by omega), Lib.hid HF3.out⟩, by simp [intOf]; omega⟩
        · have b4 : (kd == 4) = false := by simpa using a4
          have hR : promD (rdsOf (hs.take (k + 1))) = best := by
            rw [HS.out]
            unfold recS
            rw [if_neg a1, if_neg a4]
          have HR := Lib.hid hR
          clear hR HCk HOn HS a1 a4
          go_wp2_with fail
          exact ⟨⟨k + 1, by omega, by rw [HR.out], congrArg _ (by omega), Lib.hid (HF.out.trans HF1.out)⟩, by simp [intOf]; omega⟩
    · obtain rfl : k = n := by omega
      have e : hs.take k = hs := List.take_of_length_le (by rw [H.out.1.len]; exact Nat.le_refl _)
      rw [e]
      go_wp2_with fail
      go_ret
      exact ⟨rfl, HF.out⟩
end Go.Proofs.YtioinjcdkmiafaaDoor
namespace Go.Proofs.YtioinjcdkmiafaaDoor
set_option linter.unusedVariables false
set_option linter.unusedSimpArgs false
open Go.RowKit

def encodeB (c i r o : Int) (k v d : List UInt8) : List UInt8 := encs [c, i, r, o] ++ txts [⟨k.toArray⟩, ⟨v.toArray⟩, ⟨d.toArray⟩]
/-- What 'EncodeCommand' hands back. -/
def EncPost (w : World) (ok : Bool) (bs : List UInt8) (e : Ending) (w' : World) : Prop :=
  Fresh w w' ∧ (ok = false → e = .returned (.tuple #[.slice none 0 0, .int .i64 130])) ∧ (ok = true → ∃ u, e = .returned (.tuple #[u, .int .i64 0]) ∧ w'.ownsRow w.heap.size 5 1 u bs.length (Lib.byteCells bs))

end Go.Proofs.YtioinjcdkmiafaaDoor
