/-
  MERGED: AHist
-/
import Derived.Test.YtohnmaindbgngaaGreatDoorQG
import Derived.Test.YtohnmaindbgngaaGreatDoorQH
import Derived.Carry
namespace Go.Proofs.YtohnmaindbgngaaGreatDoor
set_option linter.unusedVariables false
set_option linter.unusedSimpArgs false
open Go.RowKit

theorem kint : Maps.Keyed Tryz.prog 3 := Maps.int_keyed Tryz.underlying3
theorem int_info : (Tryz.prog.info? 3).map (fun i => (i.zero, i.size, i.bytes)) = some (some (.int .i64 0), 1, 8) := by kernel_rfl
theorem etInt : ET Tryz.prog 23 3 1 8 (.int .i64 0) := ⟨Tryz.underlying23, int_info, rfl, by decide, by decide⟩
theorem kkey {z : Int} (h1 : -9223372036854775808 ≤ z) (h2 : z < 9223372036854775808) : keyOf Tryz.prog 3 (.int .i64 z) = some (.int .i64 z) := Maps.keyOf_int_mk Tryz.underlying3 (by simp [Lit.wf, IntKind.min, IntKind.max, IntKind.signed, IntKind.bits]; omega)
theorem ranges_keep {H : Type} {P : Program} {k : TypeId} {R : Value → Option (DataW H × List MemPlace)} {b r n : Nat} {D : DataW H} {left : Lit → Bool} {cnt : Nat} {Z : Nat → Prop} {w w' : World}
    (h : w.ranges P k R b r n D left cnt) (hk : Keep Z w w') (hb : Z b) (hr : Z r) : w'.ranges P k R b r n D left cnt := by
  have h1 := h.owns.lt
  have h2 := h.lt
  obtain ⟨es, clock, since, seen, c0, hb', F, hs, hD, hr', rest⟩ := h
  exact ⟨es, clock, since, seen, c0, (hk.block b h1 hb).trans hb', F, hs, hD, (hk.block r h2 hr).trans hr', rest⟩

/-- The walk through the marks: behind k of them the map holds what was found first. -/
structure Seen (w wr : World) (b : Nat) (hs : List MkV) (k : Nat) (ps : List Ke) : Prop where
  map : KMap Tryz.prog 3 wr b ps
  len : ps.length ≤ k
  is : HMap (dsOf (hs.take k)) ps
  fresh : Fresh w wr
theorem Seen.skip {w wr w1 : World} {b k : Nat} {hs : List MkV} {ps : List Ke} (h : Seen w wr b hs k ps) (hl : k < hs.length) (hf : Fresh wr w1) (hd : ¬ (hs[k].d.kind = 12 ∧ 0 < hs[k].d.n ∧ kfind (.int .i64 hs[k].d.n) ps = none)) : Seen w w1 b hs (k + 1) ps :=
  ⟨h.map.keep hf trivial, by have := h.len; omega, by rw [dsOf_take hl]; exact hmap_skip h.is hd, h.fresh.trans hf⟩
theorem Seen.put {w wr w1 : World} {b k : Nat} {hs : List MkV} {ps : List Ke} (h : Seen w wr b hs k ps) (hwb : w.heap.size ≤ b) (hl : k < hs.length) (hk : hs[k].d.kind = 12) (hn : 0 < hs[k].d.n) (hf : kfind (.int .i64 hs[k].d.n) ps = none)
    (hm : KMap Tryz.prog 3 w1 b (kput (.int .i64 hs[k].d.n) (cmdA hs[k].d.cmd) ps)) (hkp : Keep (fun i => i ≠ b) wr w1) : Seen w w1 b hs (k + 1) (kput (.int .i64 hs[k].d.n) (cmdA hs[k].d.cmd) ps) :=
  ⟨hm, by have := h.len; have := kput_len (.int .i64 hs[k].d.n) (cmdA hs[k].d.cmd) ps; omega, by rw [dsOf_take hl]; exact hmap_put h.is hk hn hf, h.fresh.comp hkp (fun _ _ h => h) (fun i hi _ => by omega)⟩

/-! ### the keys -/
theorem own_ne_ranges {w : World} {base e size n : Nat} {v : Value} {xs : List Value} {P : Program} {k : TypeId} {b r m : Nat} {D : DataW Value} {left : Lit → Bool} {cnt : Nat} (h : w.ownsRow base e size v n xs) (hr : w.ranges P k Kr b r m D left cnt) :
    v.ownBlock ≠ some b ∧ v.ownBlock ≠ some r := by
  obtain ⟨es, clock, since, seen, c0, hb, _, _, _, hr', _⟩ := hr
  rcases h.2 with ⟨rfl, _⟩ | ⟨g, cap, cur, rfl, _, hh, _⟩
  · simp [Value.ownBlock]
  · constructor
    · intro e
      simp [Value.ownBlock] at e
      subst e
      rw [hb] at hh
      cases hh
    · intro e
      simp [Value.ownBlock] at e
      subst e
      rw [hr'] at hh
      cases hh
theorem has_of_at {ps : List Ke} {kl : Lit} {y : DataW Value} (h : ∀ zd, (kD ps).atKey kl zd = y) : Maps.has (kD ps) kl = true := by
  rw [kD_has]
  cases hf : kfind kl ps with
  | some v => rfl
  | none =>
    have h1 := (h (.held (.bool true))).trans (h (.held (.bool false))).symm
    rw [kD_at, kD_at, hf] at h1
    simp at h1
theorem hmap_has {ds : List MarkD} {ps : List Ke} (h : HMap ds ps) (x : Int) : Maps.has (kD ps) (.int .i64 x) = true ↔ 0 < x ∧ (hfind ds x).isSome = true := by
  rw [kD_has, h x]
  by_cases hx : 0 < x
  · rw [if_pos hx]
    simp [hx]
  · rw [if_neg hx]
    simp [hx]
structure Came (w wr : World) (bm r : Nat) (ps : List Ke) (left : Lit → Bool) (cnt : Nat) (L : List Int) (tl : Value) : Prop where
  rg : wr.ranges Tryz.prog 3 Kr bm r ps.length (kD ps) left cnt
  own : wr.ownsRow w.heap.size 3 1 tl L.length (ics L)
  nodup : L.Nodup
  mem : ∀ x, x ∈ L ↔ Maps.has (kD ps) (.int .i64 x) = true ∧ left (.int .i64 x) = false
  cnt : L.length + cnt ≤ ps.length
  fresh : Fresh w wr
theorem Came.start {w w0 : World} {bm r : Nat} {ps : List Ke} (hrg : w0.ranges Tryz.prog 3 Kr bm r ps.length (kD ps) (Maps.has (kD ps)) (Maps.size (kD ps))) (hf : Fresh w w0) : Came w w0 bm r ps (Maps.has (kD ps)) (Maps.size (kD ps)) [] (.slice none 0 0) :=
  ⟨hrg, w0.ownsRow_nil _ _ _, List.nodup_nil, fun x => by simp, by rw [kD_size]; simp, hf⟩
theorem Came.step {w wr w1 w2 : World} {bm r : Nat} {ps : List Ke} {left : Lit → Bool} {cnt cnt1 : Nat} {L : List Int} {tl tl' : Value} {x : Int} (h : Came w wr bm r ps left cnt L tl) (hwr : w.heap.size ≤ r)
    (hlx : left (.int .i64 x) = true) (hat : Maps.has (kD ps) (.int .i64 x) = true) (hrg1 : w1.ranges Tryz.prog 3 Kr bm r ps.length (kD ps) (fun z => left z && !z.sameKey (.int .i64 x)) cnt1) (hlt : cnt1 < cnt) (hg1 : wr.grownBy w1 (some r))
    (ho : w2.ownsRow w.heap.size 3 1 tl' (L.length + 1) (ics L ++ [.int .i64 x])) (hk : Keep (fun k => tl.ownBlock ≠ some k) w1 w2) :
    Came w w2 bm r ps (fun z => left z && !z.sameKey (.int .i64 x)) cnt1 (L ++ [x]) tl' := by
  have hk1 : Keep (fun k => some r ≠ some k) wr w1 := Keep.of_grown hg1
  have hne := own_ne_ranges h.own h.rg
  have hx : x ∉ L := fun hm => by
    have := ((h.mem x).1 hm).2
    rw [hlx] at this
    cases this
  refine ⟨ranges_keep hrg1 hk hne.1 hne.2, ?_, ?_, fun y => ?_, ?_, ?_⟩
  · have e : ics (L ++ [x]) = ics L ++ [.int .i64 x] := by simp [ics]
    rw [e, List.length_append]
    exact ho
  · rw [List.nodup_append]
    exact ⟨h.nodup, by simp, fun a ha b hb => by
      simp at hb
      subst hb
      rintro rfl
      exact hx ha⟩
  · rw [List.mem_append, List.mem_singleton, h.mem y]
    by_cases hy : y = x
    · subst hy
      simp [hat, Lit.sameKey]
    · simp [hy, Lit.sameKey]
  · have := h.cnt
    simp
    omega
  · have h1 : Fresh w w1 := h.fresh.comp hk1 (fun _ _ h => h) (fun i hi _ e => by injection e with e; omega)
    exact h1.comp hk (fun _ _ h => h) (fun i hi _ e => by have := (own_lt h.own e).1; omega)

/-! ### the commands -/
theorem own_ne_owned {w : World} {b1 b2 e1 e2 s1 s2 n1 n2 : Nat} {v1 v2 : Value} {xs1 xs2 : List Value} (h1 : w.ownsRow b1 e1 s1 v1 n1 xs1) (h2 : w.ownsRow b2 e2 s2 v2 n2 xs2) (hne : e1 ≠ e2) {k : Nat} (hk : v1.ownBlock = some k) : v2.ownBlock ≠ some k := by
  intro hk2
  rcases h1.2 with ⟨rfl, _⟩ | ⟨g, cap, cur, rfl, _, hh, _⟩
  · simp [Value.ownBlock] at hk
  · rcases h2.2 with ⟨rfl, _⟩ | ⟨g2, cap2, cur2, rfl, _, hh2, _⟩
    · simp [Value.ownBlock] at hk2
    · simp [Value.ownBlock] at hk hk2
      subst hk hk2
      rw [hh] at hh2
      injection hh2 with hh2
      injection hh2 with _ ht
      exact hne ht
theorem own_ne_kmap {w : World} {base e size n : Nat} {v : Value} {xs : List Value} {P : Program} {k : TypeId} {b : Nat} {ps : List Ke} (h : w.ownsRow base e size v n xs) (hm : KMap P k w b ps) : v.ownBlock ≠ some b := by
  obtain ⟨es, clock, hb, _⟩ := hm
  rcases h.2 with ⟨rfl, _⟩ | ⟨g, cap, cur, rfl, _, hh, _⟩
  · simp [Value.ownBlock]
  · intro e
    simp [Value.ownBlock] at e
    subst e
    rw [hb] at hh
    cases hh
structure Told (w wr : World) (bm : Nat) (ps : List Ke) (ds : List MarkD) (L : List Int) (tl out : Value) (cs : List CmdD) : Prop where
  own : wr.ownsRow w.heap.size 43 7 out cs.length (ccells cs)
  map : KMap Tryz.prog 3 wr bm ps
  row : wr.ownsRow w.heap.size 3 1 tl L.length (ics L)
  fresh : Fresh w wr
  le : cs.length ≤ L.length
  hist : ∀ (i : Nat) (h : i < cs.length), hfind ds ((i : Int) + 1) = some cs[i]
  run : ∀ (i : Nat) (h : i < L.length), i < cs.length → L[i] = (i : Int) + 1
theorem Told.step {w wr w1 : World} {bm : Nat} {ps : List Ke} {ds : List MarkD} {L : List Int} {tl out out' : Value} {cs : List CmdD} {d : CmdD} (h : Told w wr bm ps ds L tl out cs) (hlt : cs.length < L.length) (hL : L[cs.length] = (cs.length : Int) + 1) (hd : hfind ds ((cs.length : Int) + 1) = some d)
    (ho : w1.ownsRow w.heap.size 43 7 out' (cs.length + 1) (ccells cs ++ d.cells)) (hk : Keep (fun k => out.ownBlock ≠ some k) wr w1) : Told w w1 bm ps ds L tl out' (cs ++ [d]) := by
  refine ⟨?_, h.map.keep hk (own_ne_kmap h.own h.map), own_keep h.row hk (fun k e => own_ne_owned h.row h.own (by decide) e), h.fresh.comp hk (fun _ _ h => h) (fun i hi _ e => by have := (own_lt h.own e).1; omega), by simp; omega, hist_more h.hist hd, fun i hi hc => ?_⟩
  · rw [ccells_snoc] at ho
    simpa using ho
  · by_cases e : i < cs.length
    · exact h.run i hi e
    · have : i = cs.length := by simp at hc; omega
      subst this
      exact hL
theorem Told.next {w wr : World} {bm : Nat} {ps : List Ke} {ds : List MarkD} {L : List Int} {tl out : Value} {cs : List CmdD} (h : Told w wr bm ps ds L tl out cs) (hK : Keys ds L) (hM : HMap ds ps) (hlt : cs.length < L.length) (hL : L[cs.length] = (cs.length : Int) + 1) :
    ∃ d, hfind ds ((cs.length : Int) + 1) = some d ∧ kfind (.int .i64 ((cs.length : Int) + 1)) ps = some (cmdA d) := by
  have h1 := (hK.mem ((cs.length : Int) + 1)).1 (hL ▸ List.getElem_mem hlt)
  cases hf : hfind ds ((cs.length : Int) + 1) with
  | none => rw [hf] at h1; cases h1.2
  | some d =>
    refine ⟨d, rfl, ?_⟩
    rw [hM, if_pos h1.1, hf]
    rfl

set_option maxRecDepth 20000 in
set_option maxHeartbeats 1000000 in
theorem ahist_any (Z : Nat → Prop) (A : Option Addr) (n c : Nat) (hs : List MkV) (w : World) (h : Mks w Z A n hs) :
    Calls Tryz.prog 12 #[.slice A n c] w fun e w' => (∃ (v : Value) (cs : List CmdD), e = .returned v ∧ IsHist (dsOf hs) cs ∧ cs.length ≤ n ∧ w'.ownsRow w.heap.size 43 7 v cs.length (ccells cs)) ∧ Fresh w w' := by
  have HM := Lib.hid h
  have hle := h.le
  clear h
  go_enter Tryz.func12, Tryz.ntmps12
  have hmm := @run_makeMap Tryz.prog
  go_wp2
  clear hmm
  go_loopw [16] (fun i wr => ∃ (k : Nat) (ps : List Ke), k ≤ n ∧ i = .int .i64 (k : Int) ∧ Hid (Seen w wr w.heap.size hs k ps)) (fun i _ => n - (intOf i).toNat)
  case atStart => exact ⟨0, [], Nat.zero_le _, rfl, Lib.hid ⟨KMap.made w _ _, Nat.le_refl _, hmap_nil, (Keep.refl _ w).alloc _⟩⟩
  case round =>
    rename World => wr
    obtain ⟨k, ps, hk, rfl, HW⟩ := hrel
    by_cases hlt : k < n
    · obtain ⟨b, o, rfl, -, hl, hr⟩ := HM.out.at1 hlt
      replace hr := rangeAt_keep hr HW.out.fresh trivial
      obtain ⟨x, hx⟩ : ∃ x, x = hs[k] := ⟨_, rfl⟩
      rw [← hx] at hr
      have hfit := HM.out.fit x (hx ▸ List.getElem_mem hl)
      have hone := HM.out.one x (hx ▸ List.getElem_mem hl)
      have HR := Lib.hid (And.intro hr hone)
      obtain ⟨kd, hkd⟩ : ∃ z, z = x.d.kind := ⟨_, rfl⟩
      obtain ⟨nn, hnn⟩ : ∃ z, z = x.d.n := ⟨_, rfl⟩
      have hkk := kkey (z := nn) (by rw [hnn]; exact hfit.nl) (by rw [hnn]; exact hfit.nh)
      have HX := Lib.hid (show ∃ hl : k < hs.length, x = hs[k] ∧ kd = x.d.kind ∧ nn = x.d.n from ⟨hl, hx, hkd, hnn⟩)
      have HK := Lib.hid hkk
      obtain ⟨cc, kn, LK, hkn⟩ : ∃ (cc : CmdD) (kn : Bool), (∀ w', KMap Tryz.prog 3 w' w.heap.size ps → (Instr.lookup 71 (.map (some w.heap.size)) (.int .i64 nn) true).run Tryz.prog w' = .ok (.tuple #[.agg cc.cells.toArray, .bool kn]) w') ∧ kn = (kfind (.int .i64 nn) ps).isSome := by
        cases hf : kfind (.int .i64 nn) ps with
        | none =>
          refine ⟨⟨0, 0, 0, 0, [], [], []⟩, false, fun w' hw' => ?_, rfl⟩
          have := hw'.look_ok kint Tryz.underlying71 (Tryz.zeroValue43 w') hkk
          rw [hf] at this
          exact this
        | some v =>
          obtain ⟨-, cc, -, rfl⟩ := hmap_some HW.out.is hf
          refine ⟨cc, true, fun w' hw' => ?_, rfl⟩
          have := hw'.look_ok kint Tryz.underlying71 (Tryz.zeroValue43 w') hkk
          rw [hf] at this
          exact this
      have HF := Lib.hid (And.intro LK hkn)
      clear hx hfit hone hkd hnn hkk LK hkn hr hl
      go_wp2_with (first | (refine wpList_load_mid rfl 51 _ rfl b (o + k * 26) rfl x.cells _ HR.out.1 Tryz.underlying51 rfl (by kernel_rfl) ?_) | (refine wpList_store_new rfl (.tmp 5) (.tmp 19) rfl _ x.cells.toArray _ rfl rfl rfl (by kernel_rfl) (Array.all_eq_true_iff_forall_mem.2 fun u hu => mk_one HR.out.2 u (by simpa using hu)) ?_))
      intro w1 hb1 hf1 hs1
      have c1 : w1.cell? ⟨wr.heap.size, 1, none⟩ = some (.int .i64 kd) := (hb1.cell 1).trans (by obtain ⟨_, _, h, _⟩ := HX.out; rw [h]; rfl)
      have c13 : w1.cell? ⟨wr.heap.size, 13, none⟩ = some (.int .i64 nn) := (hb1.cell 13).trans (by obtain ⟨_, _, _, h⟩ := HX.out; rw [h]; rfl)
      have L := HF.out.1 w1 (HW.out.map.keep hf1 trivial)
      have HB := Lib.hid (And.intro hb1 (And.intro hf1 hs1))
      clear hb1 hf1 hs1
      go_wp2_with (refine wpList_store_new rfl (.tmp 6) (.tmp 25) rfl _ cc.cells.toArray _ rfl rfl rfl (by kernel_rfl) (Array.all_eq_true_iff_forall_mem.2 fun u hu => cmd_one cc u (by simpa using hu)) ?_)
      intro w2 hb2 hf2 hs2
      clear c1 c13 L hb2
      have hbx := HB.out.1.keep hf2 trivial
      have c1 : w2.cell? ⟨wr.heap.size, 1, none⟩ = some (.int .i64 kd) := (hbx.cell 1).trans (by obtain ⟨_, _, h, _⟩ := HX.out; rw [h]; rfl)
      have c13 : w2.cell? ⟨wr.heap.size, 13, none⟩ = some (.int .i64 nn) := (hbx.cell 13).trans (by obtain ⟨_, _, _, h⟩ := HX.out; rw [h]; rfl)
      have HY := Lib.hid (And.intro hbx (HB.out.2.1.trans hf2))
      clear hbx hf2 hs2 HB HR
      have HN := Lib.hid (show ¬ (kd = 12 ∧ 0 < nn ∧ kn = false) → Seen w w2 w.heap.size hs (k + 1) ps from fun hno => by
        obtain ⟨hl, h1, h2, h3⟩ := HX.out
        subst h1
        refine HW.out.skip hl HY.out.2 (fun h => hno ⟨h2.trans h.1, by rw [h3]; exact h.2.1, ?_⟩)
        rw [HF.out.2, h3, h.2.2]
        rfl)
      by_cases h1 : kd = 12
      · by_cases h2 : 0 < nn
        · cases kn
          · clear HN
            obtain ⟨dc, hdc⟩ : ∃ z, z = cmdA x.d.cmd := ⟨_, rfl⟩
            have hrc : w2.rangeAt wr.heap.size 15 x.d.cmd.cells := by
              have := range_cmd (x := x) HY.out.1.range
              rwa [Nat.zero_add] at this
            have HC := Lib.hid (And.intro hrc (HW.out.map.keep HY.out.2 trivial))
            have hpl : ps.length < maxLen := by have := HW.out.len; simp only [maxLen]; omega
            clear hrc
            go_wp2_with (first | (refine wpList_load_mid rfl 43 _ rfl wr.heap.size 15 rfl x.d.cmd.cells _ HC.out.1 Tryz.underlying43 rfl (by kernel_rfl) ?_) | (refine wpList_kstore rfl (.tmp 39) (.tmp 41) (.tmp 43) rfl kint Tryz.underlying71 rfl HC.out.2 hpl HK.out rfl (cmdA x.d.cmd) rfl ?_))
            intro w3 hm3 hk3
            have HN := Lib.hid (show Seen w w3 w.heap.size hs (k + 1) (kput (.int .i64 nn) (cmdA x.d.cmd) ps) by
              obtain ⟨hl, e1, e2, e3⟩ := HX.out
              subst e1
              have hf : kfind (.int .i64 hs[k].d.n) ps = none := by
                have := HF.out.2
                rw [e3] at this
                cases hx : kfind (.int .i64 hs[k].d.n) ps with
                | none => rfl
                | some v => rw [hx] at this; cases this
              rw [e3] at hm3 ⊢
              have W2 : Seen w w2 w.heap.size hs k ps := ⟨HC.out.2, HW.out.len, HW.out.is, HW.out.fresh.trans HY.out.2⟩
              exact W2.put (Nat.le_refl _) hl (e2.symm.trans h1) (by rw [← e3]; exact h2) hf hm3 hk3)
            clear hm3 hk3 HX HF HY HC c1 c13
            go_wp2_with fail
            exact ⟨⟨k + 1, _, by omega, congrArg _ (by omega), HN⟩, by simp [intOf]; omega⟩
          · replace HN := Lib.hid (HN.out (fun h => by cases h.2.2))
            clear HX HF HY
            go_wp2_with fail
            exact ⟨⟨k + 1, ps, by omega, congrArg _ (by omega), HN⟩, by simp [intOf]; omega⟩
        · replace HN := Lib.hid (HN.out (fun h => h2 h.2.1))
          clear HX HF HY
          go_wp2_with fail
          exact ⟨⟨k + 1, ps, by omega, congrArg _ (by omega), HN⟩, by simp [intOf]; omega⟩
      · replace HN := Lib.hid (HN.out (fun h => h1 h.1))
        clear HX HF HY
        go_wp2_with fail
        exact ⟨⟨k + 1, ps, by omega, congrArg _ (by omega), HN⟩, by simp [intOf]; omega⟩
    · obtain rfl : k = n := by omega
      have HD := Lib.hid (show HMap (dsOf hs) ps by
        have := HW.out.is
        rwa [List.take_of_length_le (by rw [HM.out.len]; exact Nat.le_refl _)] at this)
      go_wp2_with (at_range; refine wpList_range_own _ rfl (.tmp 45) 71 rfl 3 43 kint Tryz.underlying71 Kr w.heap.size ps.length (kD ps) rfl HW.out.map ?_)
      intro w0 hrg0 hg0 hs0
      have hwr := HW.out.fresh.size
      have HC := Lib.hid (And.intro (Came.start (w := w) hrg0 (HW.out.fresh.trans (Fresh.of_below ⟨hg0.os, hg0.tape, hg0.output, hg0.size, fun k hk => hg0.block k hk (by simp)⟩))) (And.intro hwr HW.out.len))
      obtain ⟨r, hr⟩ : ∃ r, r = wr.heap.size := ⟨_, rfl⟩
      rw [← hr] at HC
      clear hrg0 hg0 hs0 hwr HW
      rw [← hr]
      clear hr
      go_wp2_with fail
      go_loopw [8] (fun tl w3 => ∃ (left : Lit → Bool) (cnt : Nat) (L : List Int), Hid (Came w w3 w.heap.size r ps left cnt L tl)) (fun _ w3 => w3.rangeLeft w.heap.size r)
      case atStart => exact ⟨_, _, [], Lib.hid HC.out.1⟩
      case round =>
        rename World => w3
        obtain ⟨left, cnt, L, HL⟩ := hrel
        go_wp2_with (at_next; refine wpList_next_ranges _ rfl (.tmp 46) rfl 3 kint Kr (Value.int .i64) (fun v => v) (fun key kl hk => by obtain ⟨x, hx, _⟩ := Maps.keyOf_int_inv Tryz.underlying3 hk; exact ⟨x, hx⟩) (fun v _ _ => ⟨v, rfl⟩) w.heap.size r ps.length (kD ps) left cnt rfl HL.out.rg ?_ ?_)
        · intro hc0 hl0
          have hKs := keys_sorted (ds := dsOf hs) HL.out.nodup (fun x => by rw [HL.out.mem x, hmap_has HD.out x, hl0]; simp)
          have hLn : L.length ≤ ps.length := by have := HL.out.cnt; omega
          have hLk : L.length ≤ k := Nat.le_trans hLn HC.out.2.2
          obtain ⟨A1, c1, rfl, -, -⟩ := own_rd HL.out.own
          have KS := Lib.hid (sort_any w.heap.size _ L w3 HL.out.own (by omega))
          have hsl : (L.mergeSort fun x y => decide (x ≤ y)).length = L.length := List.length_mergeSort _
          obtain ⟨Ls, hLs⟩ : ∃ z, z = L.mergeSort fun x y => decide (x ≤ y) := ⟨_, rfl⟩
          rw [← hLs] at KS hKs hsl
          have HE := Lib.hid (And.intro hKs hLn)
          clear hKs hLn hLs hc0 hl0
          go_wp2_with fail
          refine KS.out.mono ?_
          rintro e w5 ⟨rfl, ho5, hk5⟩
          have HT := Lib.hid (show Told w w5 w.heap.size ps (dsOf hs) Ls (.slice A1 L.length c1) (.slice none 0 0) [] from
            ⟨w5.ownsRow_nil _ _ _, (KMap.of HL.out.rg.owns rfl).keep hk5 (own_ne_ranges HL.out.own HL.out.rg).1, by rw [hsl]; exact ho5, HL.out.fresh.comp hk5 (fun _ _ h => h) (fun i hi _ e => by have := (own_lt HL.out.own e).1; omega), Nat.zero_le _, (fun i h => by cases h), (fun i h hc => by cases hc)⟩)
          clear ho5 hk5 KS
          go_wp2_with fail
          go_loopw [10, 59] (fun out i w6 => ∃ cs : List CmdD, i = .int .i64 (cs.length : Int) ∧ Hid (Told w w6 w.heap.size ps (dsOf hs) Ls (.slice A1 L.length c1) out cs)) (fun _ i _ => L.length - (intOf i).toNat)
          case atStart => exact ⟨[], rfl, HT⟩
          case round =>
            rename World => w6
            obtain ⟨cs, rfl, HR⟩ := hrel
            have hcl := HR.out.le
            rw [hsl] at hcl
            by_cases hlt2 : cs.length < L.length
            · have hlt3 : cs.length < Ls.length := by omega
              obtain ⟨g, cg, hv, -, -⟩ := own_form HR.out.row (by omega)
              injection hv with hv1 hv2 hv3
              subst hv1
              obtain ⟨z, hz⟩ : ∃ z, z = Ls[cs.length] := ⟨_, rfl⟩
              have cz : w6.cell? ⟨g, cs.length, none⟩ = some (.int .i64 z) := own_cell HR.out.row rfl (by rw [hz]; exact ics_get Ls _ hlt3)
              have HZ := Lib.hid (show ∃ h : cs.length < Ls.length, z = Ls[cs.length] from ⟨hlt3, hz⟩)
              clear hz hv2 hv3
              by_cases hzj : z = (cs.length : Int) + 1
              · subst hzj
                obtain ⟨d, hd1, hd2⟩ := HR.out.next HE.out.1 HD.out hlt3 (by obtain ⟨_, h⟩ := HZ.out; exact h.symm)
                have LK := HR.out.map.look kint Tryz.underlying71 (Tryz.zeroValue43 w6) (kkey (z := (cs.length : Int) + 1) (by omega) (by omega))
                rw [hd2] at LK
                have LK2 : (Instr.lookup 71 (.map (some w.heap.size)) (.int .i64 ((cs.length : Int) + 1)) false).run Tryz.prog w6 = .ok (.agg d.cells.toArray) w6 := LK
                have h7 := cmd_seven d
                have HB := Lib.hid HR.out.fresh.size
                have HD1 := Lib.hid hd1
                clear LK hd1 hd2
                go_wp2_with (at_builtin; refine wpList_appK etCmd rfl (.tmp 68) (.tmp 72) rfl d.cells.toArray _ rfl (cmd_one d) w.heap.size _ cs.length (ccells cs) rfl rfl HR.out.own (by omega) HB.out ?_)
                intro v7 w7 ho7 hk7 hn7
                have HN := Lib.hid (HR.out.step hlt3 (by obtain ⟨_, h⟩ := HZ.out; exact h.symm) HD1.out ho7 hk7)
                clear ho7 hk7 hn7 HB LK2 cz
                go_wp2_with fail
                exact ⟨⟨_, congrArg _ (by simp), HN⟩, by simp [intOf]; omega⟩
              · go_wp2_with fail
                go_ret
                refine ⟨⟨_, cs, rfl, keys_end HE.out.1 HR.out.run HR.out.le (fun h he => hzj ?_) HR.out.hist, by omega, HR.out.own⟩, HR.out.fresh⟩
                obtain ⟨_, h⟩ := HZ.out
                exact h.trans he
            · have hcl2 : (cs.length : Int) = (L.length : Int) := by omega
              go_wp2_with fail
              go_ret
              refine ⟨⟨_, cs, rfl, keys_end HE.out.1 HR.out.run HR.out.le (fun h => by omega) HR.out.hist, by omega, HR.out.own⟩, HR.out.fresh⟩
        · intro x cv kl y pl w4 cnt1 hkey hlx hRy hat hrg1 hlt1 hg1 hs1 hen
          obtain ⟨x', ex, rfl, -⟩ := Maps.keyOf_int_inv Tryz.underlying3 hkey
          cases ex
          have hk4 : Keep (fun k => some r ≠ some k) w3 w4 := Keep.of_grown hg1
          have hne := own_ne_ranges HL.out.own HL.out.rg
          have HO := Lib.hid (And.intro (own_keep HL.out.own hk4 (fun k e1 e2 => hne.2 (e1.trans e2.symm))) (And.intro (Nat.le_trans HL.out.fresh.size hk4.size) (show (L.length + 1) * 8 ≤ 140737488355328 by have := HL.out.cnt; have := HC.out.2.2; omega)))
          have HG := Lib.hid (And.intro hlx (And.intro (has_of_at hat) (And.intro hrg1 (And.intro hlt1 hg1))))
          clear hkey hlx hRy hat hrg1 hlt1 hg1 hs1 hk4 hne
          go_wp2_with (at_builtin; refine wpList_app1 etInt rfl (.tmp 51) (.tmp 53) rfl (.int .i64 x) _ rfl w.heap.size _ L.length (ics L) rfl rfl HO.out.1 HO.out.2.2 HO.out.2.1 ?_)
          intro v5 w5 ho5 hk5 hn5
          have HN := Lib.hid (HL.out.step HC.out.2.1 HG.out.1 HG.out.2.1 HG.out.2.2.1 HG.out.2.2.2.1 HG.out.2.2.2.2 ho5 hk5)
          clear ho5 hk5 hn5 HO hen
          go_wp2_with fail
          refine ⟨⟨_, _, _, HN⟩, ?_⟩
          rw [HN.out.rg.left_eq, HL.out.rg.left_eq]
          exact HG.out.2.2.2.1
end Go.Proofs.YtohnmaindbgngaaGreatDoor
