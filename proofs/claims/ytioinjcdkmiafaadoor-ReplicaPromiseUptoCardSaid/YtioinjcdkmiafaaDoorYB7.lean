/-
  MERGED: RPairs AppK Lists
-/
import Derived.Test.YtioinjcdkmiafaaDoorYA7
import Derived.Test.YtioinjcdkmiafaaDoorYB5
import Derived.Test.YtioinjcdkmiafaaDoorYA2
import Derived.Test.YtioinjcdkmiafaaDoorYB6
import Derived.Test.YtioinjcdkmiafaaDoorYA3
import Derived.Test.YtioinjcdkmiafaaDoorYB1
namespace Go.Proofs.YtioinjcdkmiafaaDoor
set_option linter.unusedVariables false
set_option linter.unusedSimpArgs false
open Go.RowKit

/-! ### plain -/
theorem rCount_most (bs : Txt) (p : Nat) (bad : Bool) {most : Int} (h : 0 ≤ most) : ((rCount bs p bad most).1 : Int) ≤ most := by
  unfold rCount
  split
  · exact h
  · rename_i h1
    simp only
    omega
theorem rText_len (bs : Txt) (p : Nat) (bad : Bool) {most : Int} (h : 0 ≤ most) : ((rText bs p bad most).1.length : Int) ≤ most := by
  have h1 := rCount_most bs p bad h
  unfold rText
  split
  · exact h
  · have h2 := List.length_take_le (rCount bs p bad most).1 (bs.drop (rCount bs p bad most).2.1)
    simp only
    omega
def rdPair (bs : Txt) (p : Nat) (bad : Bool) : (Txt × Txt) × Nat × Bool := (((rText bs p bad 8).1, (rText bs (rText bs p bad 8).2.1 (rText bs p bad 8).2.2 8).1), (rText bs (rText bs p bad 8).2.1 (rText bs p bad 8).2.2 8).2)
def pchk (last : Txt) (x : Txt × Txt) : Bool := bytesBefore last x.1
def pnxt (last : Txt) (x : Txt × Txt) : Txt := x.1
abbrev rPairs (bs : Txt) (p : Nat) (bad : Bool) : List (Txt × Txt) × Nat × Bool := runF (rdPair bs) pchk pnxt (rCount bs p bad 16).1 (rCount bs p bad 16).2.1 (rCount bs p bad 16).2.2 []
theorem runF_succ {α σ : Type} (rd : Nat → Bool → α × Nat × Bool) (chk : σ → α → Bool) (nxt : σ → α → σ) (n p : Nat) (bad : Bool) (s : σ) :
    runF rd chk nxt (n + 1) p bad s = ((rd p bad).1 :: (runF rd chk nxt n (rd p bad).2.1 ((rd p bad).2.2 || !chk s (rd p bad).1) (nxt s (rd p bad).1)).1, (runF rd chk nxt n (rd p bad).2.1 ((rd p bad).2.2 || !chk s (rd p bad).1) (nxt s (rd p bad).1)).2) := rfl
theorem pput_last {k v : Txt} : ∀ {ps : Ps}, (∀ y ∈ ps, bytesBefore y.1 k = true) → pput k v ps = ps ++ [(k, v)] := by
  intro ps h
  have hd : pdel k ps = ps := by
    unfold pdel
    refine List.filter_eq_self.2 fun x hx => ?_
    have := before_ne (h x hx)
    simpa using this
  unfold pput
  rw [hd]
  clear hd
  induction ps with
  | nil => rfl
  | cons y r ih =>
    have h1 := before_asymm (h y (by simp))
    rw [pins, if_neg (by simp [h1]), ih fun z hz => h z (by simp [hz])]
    rfl
theorem pput_rise {k v : Txt} {ps : Ps} (h : Rise (ps.map Prod.fst)) : Rise ((pput k v ps).map Prod.fst) := by
  rw [pput_eq k v ps h]
  unfold pputD
  cases hf : pfindD k ps with
  | some x => simp only; rw [setK_keys]; exact h
  | none => exact insK_rise h (findK_none hf)
theorem pput_len (k v : Txt) (ps : Ps) : (pput k v ps).length ≤ ps.length + 1 := by
  have h := mput_len k (str v) (sk ps)
  rw [sk_put, sk_len, sk_len] at h
  exact h

theorem leq_before {t last : Txt} (h : Op.bytesLess t last = true ∨ (t == last) = true) : bytesBefore last t = false := by
  rw [less_before] at h
  rcases h with h | h
  · exact before_asymm h
  · have e : t = last := by simpa using h
    rw [e]
    exact before_irrefl last
theorem gt_before {t last : Txt} (h : Op.bytesLess t last = false ∧ (t == last) = false) : bytesBefore last t = true := by
  rw [less_before] at h
  exact before_not h.1 (by simpa using h.2)
structure RPAt (bs : Txt) (R : List (Txt × Txt) × Nat × Bool) (cnt k : Nat) (last : Txt) (g bp : Nat) (A : Option Addr) (n c : Nat) (w wr : World) (pk : Nat) (badk : Bool) (pre ps : Ps) : Prop where
  eq : R = (pre ++ (runF (rdPair bs) pchk pnxt (cnt - k) pk badk last).1, (runF (rdPair bs) pchk pnxt (cnt - k) pk badk last).2)
  rd : Rdr wr g A n c pk badk
  pn : pk ≤ n
  mp : MapIs Tryd.prog 9 wr bp (sk ps)
  rise : Rise (ps.map Prod.fst)
  len : ps.length ≤ k
  ok : badk = false → ps = pre ∧ ∀ y ∈ pre, y.1 = last ∨ bytesBefore y.1 last = true
  keep : Keep (fun j => j ≠ g ∧ j ≠ bp) w wr
/-- One pair more. -/
theorem rp_step {bs : Txt} {R : List (Txt × Txt) × Nat × Bool} {cnt k : Nat} {last t1 t2 : Txt} {g bp : Nat} {A : Option Addr} {n c : Nat} {w wr w2 : World} {pk : Nat} {badk : Bool} {pre ps : Ps} {q1 q2 : Txt × Nat × Bool} {bad2 : Bool}
    (h : RPAt bs R cnt k last g bp A n c w wr pk badk pre ps) (hk : k < cnt) (h1 : q1 = rText bs pk badk 8) (h2 : q2 = rText bs q1.2.1 q1.2.2 8) (e1 : t1 = q1.1) (e2 : t2 = q2.1) (hb : bad2 = (q2.2.2 || !bytesBefore last t1)) (hg : Rdr w2 g A n c q2.2.1 bad2) (hp : q2.2.1 ≤ n)
    (hm : MapIs Tryd.prog 9 w2 bp (sk (pput t1 t2 ps))) (hkw : Keep (fun j => j ≠ g ∧ j ≠ bp) w w2) : RPAt bs R cnt (k + 1) t1 g bp A n c w w2 q2.2.1 bad2 (pre ++ [(t1, t2)]) (pput t1 t2 ps) := by
  have hr : rdPair bs pk badk = ((t1, t2), q2.2) := by unfold rdPair; rw [← h1, ← h2, e1, e2]
  refine ⟨?_, hg, hp, hm, pput_rise h.rise, Nat.le_trans (pput_len t1 t2 ps) (by have := h.len; omega), fun hf => ?_, hkw⟩
  · rw [h.eq, show cnt - k = (cnt - (k + 1)) + 1 by omega, runF_succ, hr]
    simp only [pchk, pnxt, ← hb, List.append_assoc, List.singleton_append]
  · rw [hb, Bool.or_eq_false_iff] at hf
    have hlt : bytesBefore last t1 = true := by simpa using hf.2
    have hbk : badk = false := by
      have a1 := (o_of_text (bs := bs) (p := q1.2.1) (bad := q1.2.2) (by rw [← h2]; exact hf.1)).1
      exact (o_of_text (bs := bs) (p := pk) (bad := badk) (by rw [← h1]; exact a1)).1
    obtain ⟨e3, h4⟩ := h.ok hbk
    have hall : ∀ y ∈ pre, bytesBefore y.1 t1 = true := fun y hy => by
      rcases h4 y hy with e | e
      · rw [e]; exact hlt
      · exact before_trans e hlt
    refine ⟨by rw [e3]; exact pput_last hall, fun y hy => ?_⟩
    rcases List.mem_append.1 hy with hy | hy
    · exact .inr (hall y hy)
    · simp only [List.mem_cons, List.not_mem_nil, or_false] at hy
      rw [hy]
      exact .inl rfl

/-! ### the walk -/
def RPPost (bs : Txt) (R : List (Txt × Txt) × Nat × Bool) (g bp : Nat) (A : Option Addr) (n c : Nat) (w : World) (e : Ending) (w' : World) : Prop :=
  e = .returned (.tuple #[]) ∧ (∃ ps : Ps, MapIs Tryd.prog 9 w' bp (sk ps) ∧ Rise (ps.map Prod.fst) ∧ ps.length ≤ 16 ∧ (R.2.2 = false → ps = R.1)) ∧ Rdr w' g A n c R.2.1 R.2.2 ∧ R.2.1 ≤ n ∧ Keep (fun j => j ≠ g ∧ j ≠ bp) w w'

set_option maxRecDepth 20000 in
set_option maxHeartbeats 1000000 in
theorem rpairs_any (m g bp : Nat) (Z : Nat → Prop) (A : Option Addr) (n c : Nat) (bs : Txt) (p : Nat) (bad : Bool) (w : World) (h0 : w.cell? ⟨m, 0, none⟩ = some (.map (some bp))) (hmg : m ≠ g) (hmb : m ≠ bp) (hmp : MapIs Tryd.prog 9 w bp (sk [])) (hg : Rdr w g A n c p bad) (hz : ∀ k, Z k → k ≠ g ∧ k ≠ bp) (hp : p ≤ n) (hnc : n ≤ c) (hb : Rd w Z 1 A n (Lib.byteCells bs)) (hn : n ≤ 1099511627770) :
    Calls Tryd.prog 36 #[.pointer (some ⟨m, 0, none⟩), .pointer (some ⟨g, 0, none⟩)] w (RPPost bs (rPairs bs p bad) g bp A n c w) := by
  have hlen : bs.length = n := by simpa [Lib.byteCells] using hb.1
  obtain ⟨R, hR⟩ : ∃ R, R = rPairs bs p bad := ⟨_, rfl⟩
  rw [← hR]
  have hbg : bp ≠ g := hmp.ne_blk hg
  have HC := Lib.hid (rcount_any g Z A n c bs p bad 16 w hg hp hb hn)
  have hle := rCount_le bs p bad 16 (by omega)
  have hmost := rCount_most bs p bad (most := 16) (by omega)
  unfold rPairs at hR
  generalize rCount bs p bad 16 = q at HC hR hle hmost
  obtain ⟨cnt, p1, bad1⟩ := q
  simp only at HC hR hle hmost
  have HB := Lib.hid (And.intro hb (And.intro hz (And.intro hmp (And.intro hR (And.intro hmg (And.intro hmb (And.intro hbg hlen)))))))
  have hml := lt_of_cell h0
  have H0 := Lib.hid h0
  clear hb hz hmp hR hg hlen
  go_enter Tryd.func36, Tryd.ntmps36
  go_wp2_with fail
  refine Calls.mono HC.out ?_
  rintro e w1 ⟨rfl, hg1, hk1⟩
  have H1 := Lib.hid (And.intro hg1 hk1)
  have x0 := hk1.cellAt h0 hmg
  have hml1 := lt_of_cell x0
  clear hg1 hk1 HC h0 hml
  go_wp2_with fail
  go_loopw [4, 9] (fun l i wr => ∃ (k : Nat) (last : Txt), k ≤ cnt ∧ i = .int .i64 (k : Int) ∧ l = str last ∧ Hid (∃ pk badk pre ps, RPAt bs R cnt k last g bp A n c w wr pk badk pre ps)) (fun _ i _ => cnt - (intOf i).toNat)
  case atStart => exact ⟨0, [], by omega, rfl, rfl, Lib.hid ⟨p1, bad1, [], [], ⟨by rw [HB.out.2.2.2.1]; rfl, H1.out.1, by have := HB.out.2.2.2.2.2.2.2; omega, HB.out.2.2.1.keep H1.out.2 HB.out.2.2.2.2.2.2.1, by simp [Rise], by simp, fun _ => ⟨rfl, by simp⟩, H1.out.2.weaken fun _ _ h => h.1⟩⟩⟩
  case round =>
    rename World => wr
    obtain ⟨k, last, hk, rfl, rfl, HR⟩ := hrel
    obtain ⟨pk, badk, pre, ps, hat⟩ := HR.out
    have HA := Lib.hid hat
    clear hat HR
    by_cases hlt : k < cnt
    · have hbw := HB.out.1.keep (HA.out.keep.weaken fun j _ h => HB.out.2.1 j h)
      have HT1 := Lib.hid (rtext_any g Z A n c bs pk badk 8 wr HA.out.rd (fun j h => (HB.out.2.1 j h).1) HA.out.pn hnc hbw hn)
      have hl1 := rText_le bs pk badk 8 (by have := HB.out.2.2.2.2.2.2.2; have := HA.out.pn; omega)
      have hn1 := rText_len bs pk badk (most := 8) (by omega)
      obtain ⟨q1, hq1⟩ : ∃ q1, q1 = rText bs pk badk 8 := ⟨_, rfl⟩
      rw [← hq1] at HT1 hl1 hn1
      have HQ1 := Lib.hid hq1
      have hkg := HA.out.keep
      clear hq1 hbw
      go_wp2_with fail
      refine Calls.mono HT1.out ?_
      rintro e wA ⟨rfl, hgA, hkA⟩
      have hkWA : Keep (fun j => j ≠ g ∧ j ≠ bp) w wA := hkg.comp hkA (fun _ _ h => h) (fun _ _ h => h.1)
      have hbw := HB.out.1.keep (hkWA.weaken fun j _ h => HB.out.2.1 j h)
      have hlq : q1.2.1 ≤ n := by have := HB.out.2.2.2.2.2.2.2; omega
      have HT2 := Lib.hid (rtext_any g Z A n c bs q1.2.1 q1.2.2 8 wA hgA (fun j h => (HB.out.2.1 j h).1) hlq hnc hbw hn)
      have hl2 := rText_le bs q1.2.1 q1.2.2 8 (by have := HB.out.2.2.2.2.2.2.2; omega)
      have hn2 := rText_len bs q1.2.1 q1.2.2 (most := 8) (by omega)
      obtain ⟨q2, hq2⟩ : ∃ q2, q2 = rText bs q1.2.1 q1.2.2 8 := ⟨_, rfl⟩
      rw [← hq2] at HT2 hl2 hn2
      have HQ2 := Lib.hid hq2
      have HKA := Lib.hid (And.intro hkA hkWA)
      clear hq2 hbw hkWA hgA hkA hkg HT1
      go_wp2_with fail
      refine Calls.mono HT2.out ?_
      rintro e wB ⟨rfl, hgB, hkB⟩
      have hkWB : Keep (fun j => j ≠ g ∧ j ≠ bp) w wB := HKA.out.2.comp hkB (fun _ _ h => h) (fun _ _ h => h.1)
      have hmpB := (HA.out.mp.keep (HKA.out.1) hbg).keep hkB hbg
      have x0 := hkWB.cellAt H0.out ⟨hmg, hmb⟩
      have hmlB := lt_of_cell x0
      have e2 := hgB.cell 2
      have ez := hgB.frozen 2
      have egl := hgB.lt
      simp at e2
      obtain ⟨t1, ht1⟩ : ∃ t, t = q1.1 := ⟨_, rfl⟩
      obtain ⟨t2, ht2⟩ : ∃ t, t = q2.1 := ⟨_, rfl⟩
      have HBB := Lib.hid (And.intro hgB (And.intro hkWB (And.intro hmpB (And.intro ht1 ht2))))
      rw [← ht1] at hn1
      rw [← ht2] at hn2
      rw [← ht1, ← ht2]
      clear hgB hkWB hmpB ht1 ht2 HT2 hkB
      have hps := HA.out.len
      go_upto_region 5 with (fail)
      by_cases hcmp : bytesBefore last t1 = true
      · have hc0 : Op.bytesLess t1 last = false := by rw [less_before]; exact before_asymm hcmp
        have hc1 : (t1 == last) = false := by have := before_ne hcmp; simp; exact fun e => this e.symm
        have HCM := Lib.hid hcmp
        clear hcmp
        go_wp2_with (at_mapUpdate; refine wpList_mstore rfl (.tmp 24) (.tmp 25) (.tmp 26) rfl Tryd.underlying9 Tryd.underlying87 rfl HBB.out.2.2.1 (by rw [sk_len]; simp only [maxLen]; omega) (l := t1) (by simp only [maxLen]; omega) rfl (str t2) rfl ?_)
        intro wC hmC hkC
        rw [sk_put] at hmC
        have HCC := Lib.hid (And.intro hmC hkC)
        clear hmC hkC hc0 hc1
        go_wp2_with fail
        obtain ⟨hgB, hkWB, hmpB, ht1, ht2⟩ := HBB.out
        refine ⟨⟨k + 1, t1, by omega, by simp, rfl, Lib.hid ⟨_, _, _, _, rp_step HA.out hlt HQ1.out HQ2.out ht1 ht2 (bad2 := q2.2.2) (by rw [HCM.out]; simp) (hgB.keep HCC.out.2 (fun e => hbg e.symm)) (by have := HB.out.2.2.2.2.2.2.2; omega) HCC.out.1 (hkWB.comp HCC.out.2 (fun _ _ h => h) (fun _ _ h => h.2))⟩⟩, by simp only [intOf]; omega⟩
      · have hcmp' : bytesBefore last t1 = false := by simpa using hcmp
        have HCM := Lib.hid hcmp'
        have hc : Op.bytesLess t1 last = true ∨ (t1 == last) = true := by
          rw [less_before]
          by_cases he : t1 = last
          · exact .inr (by simpa using he)
          · exact .inl (before_not hcmp' (fun e => he e.symm))
        have hgs : Rdr (wB.setCell ⟨g, 2, none⟩ (.bool true)) g A n c q2.2.1 true := HBB.out.1.set 2 (.bool true)
        have hks : Keep (fun j => j ≠ g) wB (wB.setCell ⟨g, 2, none⟩ (.bool true)) := (Keep.refl _ wB).setCell (fun _ h => h rfl) _
        have x1 := hks.cellAt x0 hmg
        have HGS := Lib.hid (And.intro hgs hks)
        have hmlC := lt_of_cell x1
        clear hcmp hcmp' hgs hks x1 hmlC
        rcases hc with hc0 | hc1
        all_goals
          go_wp2_with (at_mapUpdate; refine wpList_mstore rfl (.tmp 24) (.tmp 25) (.tmp 26) rfl Tryd.underlying9 Tryd.underlying87 rfl (HBB.out.2.2.1.keep HGS.out.2 hbg) (by rw [sk_len]; simp only [maxLen]; omega) (l := t1) (by simp only [maxLen]; omega) rfl (str t2) rfl ?_)
          intro wC hmC hkC
          rw [sk_put] at hmC
          have HCC := Lib.hid (And.intro hmC hkC)
          clear hmC hkC
          go_wp2_with fail
          obtain ⟨hgB, hkWB, hmpB, ht1, ht2⟩ := HBB.out
          refine ⟨⟨k + 1, t1, by omega, by simp, rfl, Lib.hid ⟨_, _, _, _, rp_step HA.out hlt HQ1.out HQ2.out ht1 ht2 (bad2 := true) (by rw [HCM.out]; simp) (HGS.out.1.keep HCC.out.2 (fun e => hbg e.symm)) (by have := HB.out.2.2.2.2.2.2.2; omega) HCC.out.1 ((hkWB.comp HGS.out.2 (fun _ _ h => h) (fun _ _ h => h.1)).comp HCC.out.2 (fun _ _ h => h) (fun _ _ h => h.2))⟩⟩, by simp only [intOf]; omega⟩
    · obtain rfl : k = cnt := by omega
      go_wp2_with fail
      go_end0
      have hat := HA.out
      have e := hat.eq
      rw [Nat.sub_self] at e
      have e' : R = (pre, pk, badk) := by rw [e]; simp [runF]
      refine ⟨rfl, ⟨ps, hat.mp, hat.rise, by have := hat.len; omega, fun hf => ?_⟩, by rw [e']; exact hat.rd, by rw [e']; exact hat.pn, hat.keep⟩
      rw [e'] at hf ⊢
      exact (hat.ok hf).1
end Go.Proofs.YtioinjcdkmiafaaDoor
namespace Go.Proofs.YtioinjcdkmiafaaDoor
set_option linter.unusedVariables false
set_option linter.unusedSimpArgs false
open Go.RowKit

/-- 'append(s, x)' of an element of several cells that has just been laid in a block of its own. -/
theorem wpList_appK {P : Program} {w : World} {t e : TypeId} {size bytes : Nat} {z : Value} (E : ET P t e size bytes z) {ops : Array Oper} {rest : List Oper} {o : Oper} {a : Act} {Q : Exit → Act → World → Prop} (hgd : o.guard = none) (s x : Operand)
    (ho : o.op = .call { callee := .builtin .append, args := #[s, x], argTypes := #[t, t] }) (cs : Array Value) (te : TypeId) (hsz : cs.size = size) (hcs : ∀ u ∈ cs.toList, u.oneCell' = true)
    (base : Nat) (v : Value) (n : Nat) (xs : List Value) (hs : a.eval s = v) (hx : a.eval x = .slice (some ⟨w.heap.size, 0, none⟩) 1 1) (hown : w.ownsRow base e size v n xs)
    (hb : (n + 1) * bytes ≤ 140737488355328) (hbase : base ≤ w.heap.size)
    (h : ∀ v' w', w'.ownsRow base e size v' (n + 1) (xs ++ cs.toList) → Keep (fun k => v.ownBlock ≠ some k) w w' → Next w.heap.size v v' → wpList P ops Q rest (a.put o.dst v') w') :
    wpList P ops Q (o :: rest) a (w.alloc (.cells cs te)) :=
  wpList_app E hgd s x ho base v n xs hs (hown.alloc _) _ _ 1 1 cs.toList hx (Rd.one_of (Blk.new w te cs) hsz) (fun h => by cases h) hcs hb (by simp; omega) fun v' w' h1 h2 h3 =>
    h v' w' h1 (((Keep.refl _ w).alloc _).comp h2 (fun _ _ h => h) (fun _ _ h => h)) (h3.imp id fun ⟨g, hg, hl⟩ => ⟨g, hg, by simp at hl; omega⟩)
/-- .. where the walk has reckoned the new block's number in its own way. -/
theorem wpList_appB {P : Program} {w : World} {t e : TypeId} {size bytes : Nat} {z : Value} (E : ET P t e size bytes z) {ops : Array Oper} {rest : List Oper} {o : Oper} {a : Act} {Q : Exit → Act → World → Prop} (hgd : o.guard = none) (s x : Operand)
    (ho : o.op = .call { callee := .builtin .append, args := #[s, x], argTypes := #[t, t] }) (cs : Array Value) (te : TypeId) (hsz : cs.size = size) (hcs : ∀ u ∈ cs.toList, u.oneCell' = true)
    (base : Nat) (v : Value) (n : Nat) (xs : List Value) (B : Nat) (hB : B = w.heap.size) (hs : a.eval s = v) (hx : a.eval x = .slice (some ⟨B, 0, none⟩) 1 1) (hown : w.ownsRow base e size v n xs)
    (hb : (n + 1) * bytes ≤ 140737488355328) (hbase : base ≤ w.heap.size)
    (h : ∀ v' w', w'.ownsRow base e size v' (n + 1) (xs ++ cs.toList) → Keep (fun k => v.ownBlock ≠ some k) w w' → Next w.heap.size v v' → wpList P ops Q rest (a.put o.dst v') w') :
    wpList P ops Q (o :: rest) a (w.alloc (.cells cs te)) := by
  subst hB
  exact wpList_appK E hgd s x ho cs te hsz hcs base v n xs hs hx hown hb hbase h
theorem wpList_app1B {P : Program} {w : World} {t e : TypeId} {bytes : Nat} {z : Value} (E : ET P t e 1 bytes z) {ops : Array Oper} {rest : List Oper} {o : Oper} {a : Act} {Q : Exit → Act → World → Prop} (hgd : o.guard = none) (s x : Operand)
    (ho : o.op = .call { callee := .builtin .append, args := #[s, x], argTypes := #[t, t] }) (y : Value) (te : TypeId) (hy : y.oneCell' = true)
    (base : Nat) (v : Value) (n : Nat) (xs : List Value) (B : Nat) (hB : B = w.heap.size) (hs : a.eval s = v) (hx : a.eval x = .slice (some ⟨B, 0, none⟩) 1 1) (hown : w.ownsRow base e 1 v n xs)
    (hb : (n + 1) * bytes ≤ 140737488355328) (hbase : base ≤ w.heap.size)
    (h : ∀ v' w', w'.ownsRow base e 1 v' (n + 1) (xs ++ [y]) → Keep (fun k => v.ownBlock ≠ some k) w w' → Next w.heap.size v v' → wpList P ops Q rest (a.put o.dst v') w') :
    wpList P ops Q (o :: rest) a (w.alloc (.cells #[y] te)) := by
  subst hB
  exact wpList_app1 E hgd s x ho y te hy base v n xs hs hx hown hb hbase h
end Go.Proofs.YtioinjcdkmiafaaDoor
namespace Go.Proofs.YtioinjcdkmiafaaDoor
set_option linter.unusedVariables false
set_option linter.unusedSimpArgs false
open Go.RowKit

/-! ### asked -/
def askTo (ss : List SesD) (k : Nat) : List Int := ((List.range k).filter fun q => decide (0 < (ss.getD q noSes).inc)).map fun q : Nat => (q : Int)
theorem askTo_succ (ss : List SesD) (k : Nat) : askTo ss (k + 1) = askTo ss k ++ (if 0 < (ss.getD k noSes).inc then [(k : Int)] else []) := by
  unfold askTo
  rw [List.range_succ, List.filter_append, List.map_append]
  congr 1
  simp only [List.filter]
  generalize (ss.getD k noSes).inc = z
  by_cases h : 0 < z <;> simp [h]
theorem askTo_len (ss : List SesD) (k : Nat) : (askTo ss k).length ≤ k := by
  unfold askTo
  rw [List.length_map]
  exact Nat.le_trans (List.length_filter_le _ _) (by simp)
theorem askTo_all (ss : List SesD) : askTo ss 16 = (asked ss).map fun x => (x.1 : Int) := by
  unfold askTo asked
  rw [List.filter_map, List.map_map]
  rfl
/-! ### Pairs -/
theorem look_pair {w : World} {b : Nat} {ps : Ps} (h : MapIs Tryd.prog 9 w b (sk ps)) {l : Txt} (hl : l.length ≤ 1048576) (u : Txt) (hu : pfind l ps = some u) :
    (Instr.lookup 87 (.map (some b)) (str l) false).run Tryd.prog w = .ok (str u) w := by
  have h1 := MapIs.look h Tryd.underlying9 Tryd.underlying87 (run_zero_str _) (l := l) (by simp only [maxLen]; omega)
  rw [sk_find, hu] at h1
  exact h1
theorem sk_keys (ps : Ps) : (sk ps).map Prod.fst = ps.map Prod.fst := by simp [sk]
theorem pfind_at {ps : Ps} (hr : Rise (ps.map Prod.fst)) {k : Nat} (hk : k < ps.length) : pfind ps[k].1 ps = some ps[k].2 := by
  rw [pfind_eq]
  have h1 : findK Prod.fst ps[k].1 ps = some ps[k] := findK_of hr (List.getElem_mem hk) rfl
  show (findK Prod.fst ps[k].1 ps).map Prod.snd = _
  rw [h1]
  rfl
/-! ### Waiting -/
def waitC (x : Int × Int) : List Value := [.int .i64 x.1, .int .i64 x.2]
abbrev wcells (xs : List (Int × Int)) : List Value := rcells waitC xs
/-- Who waits, each with its incarnation. -/
def waitD (k : Txt) (s : StD) : List (Int × Int) := match lfind k s.locks with
  | none => []
  | some l => l.queue.map fun c => (c, (s.ss.getD c.toNat noSes).inc)
theorem wait_one (a b : Int) : ∀ u ∈ (#[.int .i64 a, .int .i64 b] : Array Value).toList, u.oneCell' = true := by
  intro u hu
  simp only [List.mem_cons, List.not_mem_nil, or_false] at hu
  rcases hu with rfl | rfl <;> rfl
end Go.Proofs.YtioinjcdkmiafaaDoor
