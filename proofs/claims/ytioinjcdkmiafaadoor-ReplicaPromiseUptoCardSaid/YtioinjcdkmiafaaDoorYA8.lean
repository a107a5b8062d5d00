/-
  MERGED: RepV
-/
import Derived.Test.YtioinjcdkmiafaaDoorYA3
import Derived.Test.YtioinjcdkmiafaaDoorYA5
import Derived.Test.YtioinjcdkmiafaaDoorYA7
namespace Go.Proofs.YtioinjcdkmiafaaDoor
set_option linter.unusedVariables false
set_option linter.unusedSimpArgs false
open Go.RowKit

/-- What 'bytes' leaves: a piece of the bytes, or nil. -/
def BytsPost (g : Nat) (A : Option Addr) (n c : Nat) (z : Int) (w : World) (r : List UInt8 × Nat × Bool) (e : Ending) (w' : World) : Prop :=
  (∃ A2 c2, e = .returned (.slice A2 r.1.length c2) ∧ r.1.length ≤ c2 ∧ (r.1.length = 0 → c2 = 0 ∨ A2 ≠ none) ∧ Rd w' (fun k => k ≠ g) 1 A2 r.1.length (Lib.byteCells r.1)) ∧ PR w' g A n c z r.2.1 r.2.2 ∧ Keep (fun k => k ≠ g) w w'
theorem text_of_bad {bs : List UInt8} {p : Nat} {bad : Bool} {m : Int} (h : (rText bs p bad m).2.2 = true) : (rText bs p bad m).1 = [] := by
  unfold rText at h ⊢
  split
  · rfl
  · rename_i hc
    rw [if_neg hc] at h
    cases h
set_option maxRecDepth 20000 in
set_option maxHeartbeats 1600000 in
theorem pbytes_any (g : Nat) (Z : Nat → Prop) (A : Option Addr) (n c : Nat) (bs : List UInt8) (z : Int) (p : Nat) (bad : Bool) (s : ByteArray) (w : World) (hg : PR w g A n c z p bad) (hz : ∀ k, Z k → k ≠ g) (hp : p ≤ n) (hnc : n ≤ c) (hnil : n = 0 → c = 0 ∨ A ≠ none) (hb : Rd w Z 1 A n (Lib.byteCells bs)) (hn : n ≤ 1099511627770) :
    Calls Tryd.prog 23 #[.pointer (some ⟨g, 0, none⟩), .string s] w fun e w' => BytsPost g A n c z w (rText bs p bad mxC) e w' := by
  have hlen : bs.length = n := by simpa [Lib.byteCells] using hb.1
  have hC := pcount_any g Z A n c bs z p bad s w hg hp hb hn
  have hle := rCount_le bs p bad mxC (by omega)
  obtain ⟨r, hr⟩ : ∃ r, r = rCount bs p bad mxC := ⟨_, rfl⟩
  have hT : rText bs p bad mxC = if r.2.2 = true ∨ bs.length < r.2.1 + r.1 then ([], r.2.1, true) else ((bs.drop r.2.1).take r.1, r.2.1 + r.1, false) := by rw [hr]; rfl
  have hval : (r.1 : Int) ≤ 4611686018427387904 := by
    rw [hr]
    unfold rCount
    split
    · show ((0 : Nat) : Int) ≤ _; decide
    · exact takeB_most _
  rw [← hr] at hC hle
  obtain ⟨t, ht⟩ : ∃ t, t = rText bs p bad mxC := ⟨_, rfl⟩
  rw [← ht] at hT ⊢
  clear ht hr hg
  obtain ⟨rv, rp, rb⟩ := r
  dsimp only at hC hle hT hval
  have HC := Lib.hid hC
  have HN := Lib.hid (And.intro hlen (And.intro hle (And.intro hT hnil)))
  have HB := Lib.hid (hb.weaken hz)
  have HFl := Lib.hid (fun (q : Nat) (bd : Bool) (u : World) (hu : PR u g A n c z q bd) => rfail_any g A n c z q bd s u hu)
  clear hC hT hb hlen hnil hz
  go_enter Tryd.func23, Tryd.ntmps23
  go_wp2_with fail
  refine HC.out.mono ?_
  rintro e w1 ⟨rfl, ⟨ev, hbl, he⟩, hk1⟩
  have c0 := hbl.cell 0; have c1 := hbl.cell 1; have c3 := hbl.cell 3; have f1 := hbl.frozen 1; have lg := hbl.lt
  simp at c0 c1 c3
  have H1 := Lib.hid (And.intro hbl (And.intro he hk1))
  clear hbl hk1 HC
  have hrn : rp ≤ n := by have := HN.out.1; omega
  rcases he with ⟨rfl, rfl⟩ | ⟨rfl, ty, v, rfl, ho⟩
  · by_cases hbig : (n : Int) - (rp : Int) < (rv : Int)
    · have hT : t = ([], rp, true) := by
        rw [HN.out.2.2.1, if_pos (.inr (by have := HN.out.1; omega))]
      have HT := Lib.hid hT
      have d1 : decide ((n : Int) - (rp : Int) < (rv : Int)) = true := decide_eq_true hbig
      have wa : IntKind.i64.wrap ((n : Int) - (rp : Int)) = (n : Int) - (rp : Int) := by rw [IntWalk.i64_in _ (by omega)]
      clear hT hbig
      go_wp2_with fail
      go_quiet (fail)
      go_wp2_with fail
      refine Calls.mono (HFl.out rp false _ ⟨.nilIface, H1.out.1.drewN _, .inl ⟨rfl, rfl⟩⟩) ?_
      rintro e w2 ⟨rfl, ⟨ev2, h2, h3⟩, hk2⟩
      have d3 := h2.cell 3; have ld := h2.lt
      simp at d3
      have H2 := Lib.hid (And.intro h2 (And.intro h3 ((H1.out.2.2.drewN _).trans hk2)))
      rcases h3 with ⟨h4, -⟩ | ⟨-, ty, v, rfl, ho⟩
      · cases h4
      clear h2 hk2 c0 c1 c3 f1 lg ho
      go_wp2_with fail
      go_ret
      rw [HT.out]
      exact ⟨⟨none, 0, rfl, Nat.le_refl _, fun _ => .inl rfl, Rd.nil _ _ _ _⟩, ⟨_, H2.out.1, H2.out.2.1⟩, H2.out.2.2⟩
    · have hpn : rp + rv ≤ n := by omega
      have hT : t = ((bs.drop rp).take rv, rp + rv, false) := by
        rw [HN.out.2.2.1, if_neg (by rintro (h | h); exact absurd h (by decide); have := HN.out.1; omega)]
      have HT := Lib.hid hT
      have d1 : decide ((n : Int) - (rp : Int) < (rv : Int)) = false := decide_eq_false hbig
      have wa : IntKind.i64.wrap ((n : Int) - (rp : Int)) = (n : Int) - (rp : Int) := by rw [IntWalk.i64_in _ (by omega)]
      have wb : IntKind.i64.wrap ((rp : Int) + (rv : Int)) = (rp : Int) + (rv : Int) := by rw [IntWalk.i64_in _ (by omega)]
      have wc : IntKind.i64.wrap ((rp : Int) + (rv : Int) - (rv : Int)) = (rp : Int) := by rw [IntWalk.i64_in _ (by omega)]; omega
      have key : ∀ (q q2 : Nat) (W : World), W = ((w1.drewN q).setCell ⟨g, 1, none⟩ (.int .i64 ((rp : Int) + (rv : Int)))).drewN q2 → BytsPost g A n c z w ((bs.drop rp).take rv, rp + rv, false) (.returned (.slice (if c = rp then A else Option.map (fun x => x.add rp) A) rv (c - rp))) W := fun q q2 W hW => by
        have hk : Keep (fun k => k ≠ g) w W := by rw [hW]; exact ((H1.out.2.2.drewN q).setCell (fun _ h => h rfl) _).drewN q2
        have hcut := (HB.out.keep hk).cut1 hpn hnc
        rw [byteCells_cut] at hcut
        have hl2 : ((bs.drop rp).take rv).length = rv := by have := HN.out.1; simp; omega
        refine ⟨⟨_, c - rp, by rw [hl2], by rw [hl2]; omega, fun h0 => ?_, by rw [hl2]; exact hcut⟩, ⟨.nilIface, ?_, .inl ⟨rfl, rfl⟩⟩, hk⟩
        · rw [hl2] at h0
          by_cases hc : c = rp
          · exact .inl (by omega)
          · rw [if_neg hc]
            rcases Nat.eq_zero_or_pos n with h1 | h1
            · rcases HN.out.2.2.2 h1 with h2 | h2
              · omega
              · cases A with
                | none => exact absurd rfl h2
                | some a => exact .inr (by simp)
            · obtain ⟨b, o, rfl, -⟩ := HB.out.2 h1
              exact .inr (by simp)
        · rw [hW]
          have := (Blk.drewN H1.out.1 q).set 1 (.int .i64 ((rp + rv : Nat) : Int))
          exact Blk.drewN (by simpa using this) q2
      have HK := Lib.hid key
      have s1 : (rp : Int) ≤ (rp : Int) + (rv : Int) := by omega
      have s2 : rp + rv ≤ c := by omega
      clear hT hbig key
      go_wp2_with fail
      go_quiet (fail)
      go_wp2_with fail
      by_cases hc : c = rp
      · have HE := Lib.hid (fun q q2 => show BytsPost g A n c z w ((bs.drop rp).take rv, rp + rv, false) (.returned (.slice A rv 0)) (((w1.drewN q).setCell ⟨g, 1, none⟩ (.int .i64 ((rp : Int) + (rv : Int)))).drewN q2) from by
          have h := HK.out q q2 _ rfl
          rw [if_pos hc, show c - rp = 0 by omega] at h
          exact h)
        go_quiet (fail)
        go_wp2_with fail
        go_ret
        rw [HT.out, show rp + rv - rp = rv by omega]
        exact HE.out _ _
      · have HE := Lib.hid (fun q q2 => show BytsPost g A n c z w ((bs.drop rp).take rv, rp + rv, false) (.returned (.slice (Option.map (fun x => x.add rp) A) rv (c - rp))) (((w1.drewN q).setCell ⟨g, 1, none⟩ (.int .i64 ((rp : Int) + (rv : Int)))).drewN q2) from by
          have h := HK.out q q2 _ rfl
          rw [if_neg hc] at h
          exact h)
        go_quiet (fail)
        go_wp2_with fail
        go_ret
        rw [HT.out, show rp + rv - rp = rv by omega]
        exact HE.out _ _
  · have hT : t = ([], rp, true) := by
      rw [HN.out.2.2.1, if_pos (.inl rfl)]
    have HT := Lib.hid hT
    have HO := Lib.hid ho
    clear hT ho
    go_wp2_with fail
    go_quiet (fail)
    go_wp2_with fail
    go_ret
    rw [HT.out]
    exact ⟨⟨none, 0, rfl, Nat.le_refl _, fun _ => .inl rfl, Rd.nil _ _ _ _⟩, ⟨_, H1.out.1.drewN _, .inr ⟨rfl, _, _, rfl, HO.out⟩⟩, H1.out.2.2.drewN _⟩

/-! ### command -/
theorem blk_range {w : World} {g : Nat} {t : TypeId} {cs : Array Value} (h : Blk w g t cs) : w.rangeAt g 0 cs.toList := fun j v hv => by
  rw [h.cell (0 + j), Nat.zero_add]
  simpa using hv
theorem presults_cell {P : Program} {fn : Func} {p : Tmp} {ty : TypeId} (h : fn.results = #[.cell p ty]) (tmps : Array Value) (w : World) (g : Nat) (t : TypeId) (cs : Array Value) (d : TypeDesc)
    (hp : tmps.getD p undef = .pointer (some ⟨g, 0, none⟩)) (hg : Blk w g t cs) (hu : P.underlying ty = some d) (hd : (match d with | .struct _ | .array _ _ => true | _ => false) = true) (hi : (P.info? ty).map (·.size) = some cs.size) :
    (results fn tmps).run P w = .ok (.agg cs) w := results_cell_row h tmps w g t cs (0, 0) d hp hg hu hd hi
theorem dec_sum {l : List UInt8} {w : World} {args : Array Value} (h : Calls Tryd.prog 40 args w fun e w' => DecPost l w e w') :
    Calls Tryd.prog 40 args w fun e w' => (∃ (a1 a2 a3 a4 : Int) (t1 t2 t3 : List UInt8) (ze : Int), e = .returned (.tuple #[cmdV a1 a2 a3 a4 t1 t2 t3, .int .i64 ze]) ∧ (ze != 0) = !decOk l) ∧ Fresh w w' := by
  refine h.mono ?_
  rintro e w' ⟨he, hf⟩
  refine ⟨?_, hf⟩
  by_cases hd : decOk l = true
  · rw [if_pos hd] at he
    exact ⟨_, _, _, _, _, _, _, 0, he, by rw [hd]; rfl⟩
  · rw [if_neg hd] at he
    rw [Bool.not_eq_true] at hd
    exact ⟨_, _, _, _, _, _, _, 130, he, by rw [hd]; rfl⟩
/-- What 'command' leaves: a command, whichever. -/
def CmdPost (g : Nat) (A : Option Addr) (n c : Nat) (z : Int) (p : Nat) (bad : Bool) (w : World) (e : Ending) (w' : World) : Prop :=
  (∃ (a1 a2 a3 a4 : Int) (t1 t2 t3 : List UInt8), e = .returned (cmdV a1 a2 a3 a4 t1 t2 t3)) ∧ PR w' g A n c z p bad ∧ Keep (fun k => k ≠ g) w w'
set_option maxRecDepth 20000 in
set_option maxHeartbeats 1600000 in
theorem pcommand_any (g : Nat) (Z : Nat → Prop) (A : Option Addr) (n c : Nat) (z : Int) (p : Nat) (bad : Bool) (A2 : Option Addr) (n2 c2 : Nat) (l : List UInt8) (w : World) (hg : PR w g A n c z p bad) (hb : Rd w Z 1 A2 n2 (Lib.byteCells l)) (hnc : n2 ≤ c2) (hn : n2 ≤ 1099511627770) (hT : Tabs w) :
    Calls Tryd.prog 25 #[.pointer (some ⟨g, 0, none⟩), .slice A2 n2 c2] w fun e w' => CmdPost g A n c z p (bad || !decOk l) w e w' := by
  have HFl := Lib.hid (fun (q : Nat) (bd : Bool) (u : World) (hu : PR u g A n c z q bd) => rfail_any g A n c z q bd { data := #[99, 111, 109, 109, 97, 110, 100] } u hu)
  obtain ⟨ev, hbl, he⟩ := hg
  have HD := Lib.hid (fun (u : World) (hf : Fresh w u) => decode_any Z A2 n2 c2 l u (hT.fresh hf) (hb.keep (hf.weaken fun _ _ _ => trivial)) hnc hn)
  obtain ⟨w1, hw1⟩ : ∃ w1, w1 = w.alloc (.cells #[.int .i64 0, .int .i64 0, .int .i64 0, .int .i64 0, str [], str [], str []] 57) := ⟨_, rfl⟩
  obtain ⟨b4, hb4⟩ : ∃ b, b = w.heap.size := ⟨_, rfl⟩
  have hf1 : Fresh w w1 := by rw [hw1]; exact (Keep.refl _ w).alloc _
  have hr1 : Blk w1 b4 57 #[.int .i64 0, .int .i64 0, .int .i64 0, .int .i64 0, str [], str [], str []] := by rw [hw1, hb4]; exact Blk.new _ _ _
  have hbl1 := hbl.keep hf1 trivial
  have c3 := hbl1.cell 3; have lg := hbl1.lt
  simp at c3
  have hgb : g ≠ b4 := by have := hbl.lt; omega
  have H1 := Lib.hid (And.intro hf1 (And.intro hr1 (And.intro hbl1 hgb)))
  have l4 := hr1.lt
  have HTh : Hid (w1.there b4 0 7) := Lib.hid (by have := hr1.there; simpa using this)
  have HDw := Lib.hid (dec_sum (HD.out w1 hf1))
  obtain ⟨q, hq⟩ : ∃ q, q = decOk l := ⟨_, rfl⟩
  rw [← hq] at HDw ⊢
  clear hb hT hbl hf1 hr1 hbl1 hq HD
  go_enter Tryd.func25, Tryd.ntmps25
  go_upto_region 1 with (fail)
  rw [← hb4]
  generalize hwx : World.alloc w _ = wx
  obtain rfl : w1 = wx := hw1.trans hwx
  clear hwx hw1
  have HB4 := Lib.hid hb4
  clear hb4
  have fin : ∀ (W : World) (bd : Bool) (a1 a2 a3 a4 : Int) (t1 t2 t3 : List UInt8), Keep (fun k => k ≠ g) w1 W → PR W g A n c z p bd → Blk W b4 57 #[.int .i64 0, .int .i64 0, .int .i64 0, .int .i64 0, str [], str [], str []] →
      Blk (W.setCells b4 0 [.int .i64 a1, .int .i64 a2, .int .i64 a3, .int .i64 a4, str t1, str t2, str t3]) b4 57 #[.int .i64 a1, .int .i64 a2, .int .i64 a3, .int .i64 a4, str t1, str t2, str t3] ∧ PR (W.setCells b4 0 [.int .i64 a1, .int .i64 a2, .int .i64 a3, .int .i64 a4, str t1, str t2, str t3]) g A n c z p bd ∧ Keep (fun k => k ≠ g) w (W.setCells b4 0 [.int .i64 a1, .int .i64 a2, .int .i64 a3, .int .i64 a4, str t1, str t2, str t3]) := fun W bd a1 a2 a3 a4 t1 t2 t3 hk hp hb => by
    have hkk : Keep (fun k => k ≠ b4) W (W.setCells b4 0 [.int .i64 a1, .int .i64 a2, .int .i64 a3, .int .i64 a4, str t1, str t2, str t3]) := Keep.setCells _ _ _ (Keep.refl _ _) (fun _ e => e rfl)
    obtain ⟨ds, h1, h2⟩ := Blk.setCells [.int .i64 a1, .int .i64 a2, .int .i64 a3, .int .i64 a4, str t1, str t2, str t3] 0 _ _ hb (by simp)
    have e : ds = #[.int .i64 a1, .int .i64 a2, .int .i64 a3, .int .i64 a4, str t1, str t2, str t3] := by
      apply Array.ext'
      rw [h2]
      simp
    rw [e] at h1
    exact ⟨h1, hp.keep hkk H1.out.2.2.2, ((H1.out.1.weaken fun _ _ _ => trivial).trans hk).comp hkk (fun _ _ h => h) (fun j hj _ e => by have := HB4.out; omega)⟩
  have HFin := Lib.hid fin
  clear fin
  rcases he with ⟨rfl, rfl⟩ | ⟨rfl, ty, v, rfl, ho⟩
  rotate_left
  · have HO := Lib.hid ho
    clear ho HDw
    go_wp2_with (refine wpList_store_to rfl 57 (.tmp 4) (.tmp 12) rfl b4 0 #[.int .i64 0, .int .i64 0, .int .i64 0, .int .i64 0, str [], str [], str []] rfl rfl HTh.out (by kernel_rfl) (by simp [Value.oneCell']) ?_)
    intro w5 hw5
    have h5 := HFin.out w1 true 0 0 0 0 [] [] [] (Keep.refl _ _) ⟨_, H1.out.2.2.1, .inr ⟨rfl, _, _, rfl, HO.out⟩⟩ H1.out.2.1
    rw [← hw5.out] at h5
    have H5 := Lib.hid h5
    clear h5 hw5
    go_wp2_with fail
    refine bodyPost_ret (presults_cell rfl _ _ b4 57 #[.int .i64 0, .int .i64 0, .int .i64 0, .int .i64 0, str [], str [], str []] _ rfl H5.out.1 Tryd.underlying57 rfl (by kernel_rfl)) rfl ?_
    exact ⟨⟨_, _, _, _, _, _, _, rfl⟩, H5.out.2.1, H5.out.2.2⟩
  · go_wp2_with fail
    refine Calls.mono HDw.out ?_
    rintro e w2 ⟨⟨a1, a2, a3, a4, t1, t2, t3, ze, rfl, hze⟩, hf2⟩
    have H2 := Lib.hid (And.intro (H1.out.2.1.keep hf2 trivial) (And.intro (H1.out.2.2.1.keep hf2 trivial) hf2))
    clear hf2 HDw c3 lg l4 HTh
    go_wp2_with (refine wpList_store_new rfl (.tmp 5) (.tmp 16) rfl _ #[.int .i64 a1, .int .i64 a2, .int .i64 a3, .int .i64 a4, str t1, str t2, str t3] _ rfl rfl rfl (by kernel_rfl) (by simp [Value.oneCell']) ?_)
    intro w3 hb5 hf3 hs3
    obtain ⟨b5, hb5e⟩ : ∃ b, b = w2.heap.size := ⟨_, rfl⟩
    rw [← hb5e] at hb5 ⊢
    have H3 := Lib.hid (And.intro (H2.out.1.keep hf3 trivial) (And.intro (H2.out.2.1.keep hf3 trivial) (And.intro (H2.out.2.2.trans hf3) hb5)))
    have HNe : Hid (g ≠ b5 ∧ b4 ≠ b5) := Lib.hid ⟨by have := H2.out.2.1.lt; omega, by have := H2.out.1.lt; omega⟩
    clear hb5 hf3 hs3 hb5e H2
    cases q
    · have hz : (ze != 0) = true := hze
      have HC := Lib.hid (HFl.out p false w3 ⟨.nilIface, H3.out.2.1, .inl ⟨rfl, rfl⟩⟩)
      clear hze
      go_wp2_with fail
      refine Calls.mono HC.out ?_
      rintro e w4 ⟨rfl, hp4, hk4⟩
      have hb4 := H3.out.1.keep hk4 (Ne.symm hgb)
      have hb5 := H3.out.2.2.2.keep hk4 (Ne.symm HNe.out.1)
      have H4 := Lib.hid (And.intro hp4 (And.intro ((H3.out.2.2.1.weaken (Z := fun _ => True) fun k _ _ => trivial).trans hk4) (And.intro hb4 hb5)))
      have HTh : Hid (w4.there b4 0 7) := Lib.hid (by have := hb4.there; simpa using this)
      have HRg : Hid (w4.rangeAt b5 0 [.int .i64 a1, .int .i64 a2, .int .i64 a3, .int .i64 a4, str t1, str t2, str t3]) := Lib.hid (by have := blk_range hb5; simpa using this)
      have l5 := hb5.lt; have l4 := hb4.lt
      clear hp4 hk4 hb4 hb5 HC H3
      go_wp2_with (first | (refine wpList_load_mid rfl 57 _ rfl b5 0 rfl [.int .i64 a1, .int .i64 a2, .int .i64 a3, .int .i64 a4, str t1, str t2, str t3] _ HRg.out Tryd.underlying57 rfl (by kernel_rfl) ?_) | (refine wpList_store_to rfl 57 (.tmp 4) (.tmp 22) rfl b4 0 #[.int .i64 a1, .int .i64 a2, .int .i64 a3, .int .i64 a4, str t1, str t2, str t3] rfl rfl HTh.out (by kernel_rfl) (by simp [Value.oneCell']) ?_))
      intro w5 hw5
      have h5 := HFin.out w4 true a1 a2 a3 a4 t1 t2 t3 H4.out.2.1 H4.out.1 H4.out.2.2.1
      rw [← hw5.out] at h5
      have H5 := Lib.hid h5
      clear h5 hw5
      go_wp2_with fail
      refine bodyPost_ret (presults_cell rfl _ _ b4 57 #[.int .i64 a1, .int .i64 a2, .int .i64 a3, .int .i64 a4, str t1, str t2, str t3] _ rfl H5.out.1 Tryd.underlying57 rfl (by kernel_rfl)) rfl ?_
      exact ⟨⟨_, _, _, _, _, _, _, rfl⟩, H5.out.2.1, H5.out.2.2⟩
    · have hz : (ze != 0) = false := hze
      have HTh : Hid (w3.there b4 0 7) := Lib.hid (by have := H3.out.1.there; simpa using this)
      have HRg : Hid (w3.rangeAt b5 0 [.int .i64 a1, .int .i64 a2, .int .i64 a3, .int .i64 a4, str t1, str t2, str t3]) := Lib.hid (by have := blk_range H3.out.2.2.2; simpa using this)
      have l5 := H3.out.2.2.2.lt; have l4 := H3.out.1.lt
      clear hze
      go_wp2_with (first | (refine wpList_load_mid rfl 57 _ rfl b5 0 rfl [.int .i64 a1, .int .i64 a2, .int .i64 a3, .int .i64 a4, str t1, str t2, str t3] _ HRg.out Tryd.underlying57 rfl (by kernel_rfl) ?_) | (refine wpList_store_to rfl 57 (.tmp 4) (.tmp 22) rfl b4 0 #[.int .i64 a1, .int .i64 a2, .int .i64 a3, .int .i64 a4, str t1, str t2, str t3] rfl rfl HTh.out (by kernel_rfl) (by simp [Value.oneCell']) ?_))
      intro w5 hw5
      have h5 := HFin.out w3 false a1 a2 a3 a4 t1 t2 t3 (H3.out.2.2.1.weaken fun _ _ _ => trivial) ⟨_, H3.out.2.1, .inl ⟨rfl, rfl⟩⟩ H3.out.1
      rw [← hw5.out] at h5
      have H5 := Lib.hid h5
      clear h5 hw5
      go_wp2_with fail
      refine bodyPost_ret (presults_cell rfl _ _ b4 57 #[.int .i64 a1, .int .i64 a2, .int .i64 a3, .int .i64 a4, str t1, str t2, str t3] _ rfl H5.out.1 Tryd.underlying57 rfl (by kernel_rfl)) rfl ?_
      exact ⟨⟨_, _, _, _, _, _, _, rfl⟩, H5.out.2.1, H5.out.2.2⟩
end Go.Proofs.YtioinjcdkmiafaaDoor
