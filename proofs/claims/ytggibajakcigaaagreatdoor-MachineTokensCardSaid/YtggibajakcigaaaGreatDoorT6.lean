/-
  MERGED: RPairs AppK Lists Kmap RLocks RSessP
-/
import Derived.Test.YtggibajakcigaaaGreatDoorT5
import Derived.Test.YtggibajakcigaaaGreatDoorT1
import Derived.Maps.OwnSet
import Derived.Maps.RangeWalk
import Derived.Deep.RegionHeld3
import Derived.RegionCalls
namespace Go.Proofs.YtggibajakcigaaaGreatDoor
set_option linter.unusedVariables false
set_option linter.unusedSimpArgs false
open Go.RowKit

/-! ### plain -/
theorem rCount_most (bs : Txt) (p : Nat) (bad : Bool) {most : Int} (h : 0 ≤ most) : ((rCount bs p bad most).1 : Int) ≤ most := by
  unfold rCount
  split
  · exact h
  · rename_i h1
    simp only
    omega
theorem rText_len (bs : Txt) (p : Nat) (bad : Bool) {most : Int} (h : 0 ≤ most) : ((rText bs p bad most).1.length : Int) ≤ most := by
  have h1 := rCount_most bs p bad h
  unfold rText
  split
  · exact h
  · have h2 := List.length_take_le (rCount bs p bad most).1 (bs.drop (rCount bs p bad most).2.1)
    simp only
    omega
def rdPair (bs : Txt) (p : Nat) (bad : Bool) : (Txt × Txt) × Nat × Bool := (((rText bs p bad 8).1, (rText bs (rText bs p bad 8).2.1 (rText bs p bad 8).2.2 8).1), (rText bs (rText bs p bad 8).2.1 (rText bs p bad 8).2.2 8).2)
def pchk (last : Txt) (x : Txt × Txt) : Bool := bytesBefore last x.1
def pnxt (last : Txt) (x : Txt × Txt) : Txt := x.1
abbrev rPairs (bs : Txt) (p : Nat) (bad : Bool) : List (Txt × Txt) × Nat × Bool := runF (rdPair bs) pchk pnxt (rCount bs p bad 16).1 (rCount bs p bad 16).2.1 (rCount bs p bad 16).2.2 []
theorem runF_succ {α σ : Type} (rd : Nat → Bool → α × Nat × Bool) (chk : σ → α → Bool) (nxt : σ → α → σ) (n p : Nat) (bad : Bool) (s : σ) :
    runF rd chk nxt (n + 1) p bad s = ((rd p bad).1 :: (runF rd chk nxt n (rd p bad).2.1 ((rd p bad).2.2 || !chk s (rd p bad).1) (nxt s (rd p bad).1)).1, (runF rd chk nxt n (rd p bad).2.1 ((rd p bad).2.2 || !chk s (rd p bad).1) (nxt s (rd p bad).1)).2) := rfl
theorem pput_last {k v : Txt} : ∀ {ps : Ps}, (∀ y ∈ ps, bytesBefore y.1 k = true) → pput k v ps = ps ++ [(k, v)] := by
  intro ps h
  have hd : pdel k ps = ps := by
    unfold pdel
    refine List.filter_eq_self.2 fun x hx => ?_
    have := before_ne (h x hx)
    simpa using this
  unfold pput
  rw [hd]
  clear hd
  induction ps with
  | nil => rfl
  | cons y r ih =>
    have h1 := before_asymm (h y (by simp))
    rw [pins, if_neg (by simp [h1]), ih fun z hz => h z (by simp [hz])]
    rfl
theorem pput_rise {k v : Txt} {ps : Ps} (h : Rise (ps.map Prod.fst)) : Rise ((pput k v ps).map Prod.fst) := by
  rw [pput_eq k v ps h]
  unfold pputD
  cases hf : pfindD k ps with
  | some x => simp only; rw [setK_keys]; exact h
  | none => exact insK_rise h (findK_none hf)
theorem pput_len (k v : Txt) (ps : Ps) : (pput k v ps).length ≤ ps.length + 1 := by
  have h := mput_len k (str v) (sk ps)
  rw [sk_put, sk_len, sk_len] at h
  exact h

theorem less_before : ∀ a b : Txt, Op.bytesLess a b = bytesBefore a b
  | [], [] => rfl
  | [], _ :: _ => rfl
  | _ :: _, [] => rfl
  | a :: r, b :: s => by
    show (a < b || (a == b && Op.bytesLess r s)) = (a < b || (a == b && bytesBefore r s))
    rw [less_before r s]
theorem leq_before {t last : Txt} (h : Op.bytesLess t last = true ∨ (t == last) = true) : bytesBefore last t = false := by
  rw [less_before] at h
  rcases h with h | h
  · exact before_asymm h
  · have e : t = last := by simpa using h
    rw [e]
    exact before_irrefl last
theorem gt_before {t last : Txt} (h : Op.bytesLess t last = false ∧ (t == last) = false) : bytesBefore last t = true := by
  rw [less_before] at h
  exact before_not h.1 (by simpa using h.2)
structure RPAt (bs : Txt) (R : List (Txt × Txt) × Nat × Bool) (cnt k : Nat) (last : Txt) (g bp : Nat) (A : Option Addr) (n c : Nat) (w wr : World) (pk : Nat) (badk : Bool) (pre ps : Ps) : Prop where
  eq : R = (pre ++ (runF (rdPair bs) pchk pnxt (cnt - k) pk badk last).1, (runF (rdPair bs) pchk pnxt (cnt - k) pk badk last).2)
  rd : Rdr wr g A n c pk badk
  pn : pk ≤ n
  mp : MapIs Tryz.prog 9 wr bp (sk ps)
  rise : Rise (ps.map Prod.fst)
  len : ps.length ≤ k
  ok : badk = false → ps = pre ∧ ∀ y ∈ pre, y.1 = last ∨ bytesBefore y.1 last = true
  keep : Keep (fun j => j ≠ g ∧ j ≠ bp) w wr
/-- One pair more. -/
theorem rp_step {bs : Txt} {R : List (Txt × Txt) × Nat × Bool} {cnt k : Nat} {last t1 t2 : Txt} {g bp : Nat} {A : Option Addr} {n c : Nat} {w wr w2 : World} {pk : Nat} {badk : Bool} {pre ps : Ps} {q1 q2 : Txt × Nat × Bool} {bad2 : Bool}
    (h : RPAt bs R cnt k last g bp A n c w wr pk badk pre ps) (hk : k < cnt) (h1 : q1 = rText bs pk badk 8) (h2 : q2 = rText bs q1.2.1 q1.2.2 8) (e1 : t1 = q1.1) (e2 : t2 = q2.1) (hb : bad2 = (q2.2.2 || !bytesBefore last t1)) (hg : Rdr w2 g A n c q2.2.1 bad2) (hp : q2.2.1 ≤ n)
    (hm : MapIs Tryz.prog 9 w2 bp (sk (pput t1 t2 ps))) (hkw : Keep (fun j => j ≠ g ∧ j ≠ bp) w w2) : RPAt bs R cnt (k + 1) t1 g bp A n c w w2 q2.2.1 bad2 (pre ++ [(t1, t2)]) (pput t1 t2 ps) := by
  have hr : rdPair bs pk badk = ((t1, t2), q2.2) := by unfold rdPair; rw [← h1, ← h2, e1, e2]
  refine ⟨?_, hg, hp, hm, pput_rise h.rise, Nat.le_trans (pput_len t1 t2 ps) (by have := h.len; omega), fun hf => ?_, hkw⟩
  · rw [h.eq, show cnt - k = (cnt - (k + 1)) + 1 by omega, runF_succ, hr]
    simp only [pchk, pnxt, ← hb, List.append_assoc, List.singleton_append]
  · rw [hb, Bool.or_eq_false_iff] at hf
    have hlt : bytesBefore last t1 = true := by simpa using hf.2
    have hbk : badk = false := by
      have a1 := (o_of_text (bs := bs) (p := q1.2.1) (bad := q1.2.2) (by rw [← h2]; exact hf.1)).1
      exact (o_of_text (bs := bs) (p := pk) (bad := badk) (by rw [← h1]; exact a1)).1
    obtain ⟨e3, h4⟩ := h.ok hbk
    have hall : ∀ y ∈ pre, bytesBefore y.1 t1 = true := fun y hy => by
      rcases h4 y hy with e | e
      · rw [e]; exact hlt
      · exact before_trans e hlt
    refine ⟨by rw [e3]; exact pput_last hall, fun y hy => ?_⟩
    rcases List.mem_append.1 hy with hy | hy
    · exact .inr (hall y hy)
    · simp only [List.mem_cons, List.not_mem_nil, or_false] at hy
      rw [hy]
      exact .inl rfl

/-! ### the walk -/
def RPPost (bs : Txt) (R : List (Txt × Txt) × Nat × Bool) (g bp : Nat) (A : Option Addr) (n c : Nat) (w : World) (e : Ending) (w' : World) : Prop :=
  e = .returned (.tuple #[]) ∧ (∃ ps : Ps, MapIs Tryz.prog 9 w' bp (sk ps) ∧ Rise (ps.map Prod.fst) ∧ ps.length ≤ 16 ∧ (R.2.2 = false → ps = R.1)) ∧ Rdr w' g A n c R.2.1 R.2.2 ∧ R.2.1 ≤ n ∧ Keep (fun j => j ≠ g ∧ j ≠ bp) w w'

set_option maxRecDepth 20000 in
set_option maxHeartbeats 1000000 in
theorem rpairs_any (m g bp : Nat) (Z : Nat → Prop) (A : Option Addr) (n c : Nat) (bs : Txt) (p : Nat) (bad : Bool) (w : World) (h0 : w.cell? ⟨m, 0, none⟩ = some (.map (some bp))) (hmg : m ≠ g) (hmb : m ≠ bp) (hmp : MapIs Tryz.prog 9 w bp (sk [])) (hg : Rdr w g A n c p bad) (hz : ∀ k, Z k → k ≠ g ∧ k ≠ bp) (hp : p ≤ n) (hnc : n ≤ c) (hb : Rd w Z 1 A n (Lib.byteCells bs)) (hn : n ≤ 1099511627770) :
    Calls Tryz.prog 30 #[.pointer (some ⟨m, 0, none⟩), .pointer (some ⟨g, 0, none⟩)] w (RPPost bs (rPairs bs p bad) g bp A n c w) := by
  have hlen : bs.length = n := by simpa [Lib.byteCells] using hb.1
  obtain ⟨R, hR⟩ : ∃ R, R = rPairs bs p bad := ⟨_, rfl⟩
  rw [← hR]
  have hbg : bp ≠ g := hmp.ne_blk hg
  have HC := Lib.hid (rcount_any g Z A n c bs p bad 16 w hg hp hb hn)
  have hle := rCount_le bs p bad 16 (by omega)
  have hmost := rCount_most bs p bad (most := 16) (by omega)
  unfold rPairs at hR
  generalize rCount bs p bad 16 = q at HC hR hle hmost
  obtain ⟨cnt, p1, bad1⟩ := q
  simp only at HC hR hle hmost
  have HB := Lib.hid (And.intro hb (And.intro hz (And.intro hmp (And.intro hR (And.intro hmg (And.intro hmb (And.intro hbg hlen)))))))
  have hml := lt_of_cell h0
  have H0 := Lib.hid h0
  clear hb hz hmp hR hg hlen
  go_enter Tryz.func30, Tryz.ntmps30
  go_wp2_with fail
  refine Calls.mono HC.out ?_
  rintro e w1 ⟨rfl, hg1, hk1⟩
  have H1 := Lib.hid (And.intro hg1 hk1)
  have x0 := hk1.cellAt h0 hmg
  have hml1 := lt_of_cell x0
  clear hg1 hk1 HC h0 hml
  go_wp2_with fail
  go_loopw [4, 9] (fun l i wr => ∃ (k : Nat) (last : Txt), k ≤ cnt ∧ i = .int .i64 (k : Int) ∧ l = str last ∧ Hid (∃ pk badk pre ps, RPAt bs R cnt k last g bp A n c w wr pk badk pre ps)) (fun _ i _ => cnt - (intOf i).toNat)
  case atStart => exact ⟨0, [], by omega, rfl, rfl, Lib.hid ⟨p1, bad1, [], [], ⟨by rw [HB.out.2.2.2.1]; rfl, H1.out.1, by have := HB.out.2.2.2.2.2.2.2; omega, HB.out.2.2.1.keep H1.out.2 HB.out.2.2.2.2.2.2.1, by simp [Rise], by simp, fun _ => ⟨rfl, by simp⟩, H1.out.2.weaken fun _ _ h => h.1⟩⟩⟩
  case round =>
    rename World => wr
    obtain ⟨k, last, hk, rfl, rfl, HR⟩ := hrel
    obtain ⟨pk, badk, pre, ps, hat⟩ := HR.out
    have HA := Lib.hid hat
    clear hat HR
    by_cases hlt : k < cnt
    · have hbw := HB.out.1.keep (HA.out.keep.weaken fun j _ h => HB.out.2.1 j h)
      have HT1 := Lib.hid (rtext_any g Z A n c bs pk badk 8 wr HA.out.rd (fun j h => (HB.out.2.1 j h).1) HA.out.pn hnc hbw hn)
      have hl1 := rText_le bs pk badk 8 (by have := HB.out.2.2.2.2.2.2.2; have := HA.out.pn; omega)
      have hn1 := rText_len bs pk badk (most := 8) (by omega)
      obtain ⟨q1, hq1⟩ : ∃ q1, q1 = rText bs pk badk 8 := ⟨_, rfl⟩
      rw [← hq1] at HT1 hl1 hn1
      have HQ1 := Lib.hid hq1
      have hkg := HA.out.keep
      clear hq1 hbw
      go_wp2_with fail
      refine Calls.mono HT1.out ?_
      rintro e wA ⟨rfl, hgA, hkA⟩
      have hkWA : Keep (fun j => j ≠ g ∧ j ≠ bp) w wA := hkg.comp hkA (fun _ _ h => h) (fun _ _ h => h.1)
      have hbw := HB.out.1.keep (hkWA.weaken fun j _ h => HB.out.2.1 j h)
      have hlq : q1.2.1 ≤ n := by have := HB.out.2.2.2.2.2.2.2; omega
      have HT2 := Lib.hid (rtext_any g Z A n c bs q1.2.1 q1.2.2 8 wA hgA (fun j h => (HB.out.2.1 j h).1) hlq hnc hbw hn)
      have hl2 := rText_le bs q1.2.1 q1.2.2 8 (by have := HB.out.2.2.2.2.2.2.2; omega)
      have hn2 := rText_len bs q1.2.1 q1.2.2 (most := 8) (by omega)
      obtain ⟨q2, hq2⟩ : ∃ q2, q2 = rText bs q1.2.1 q1.2.2 8 := ⟨_, rfl⟩
      rw [← hq2] at HT2 hl2 hn2
      have HQ2 := Lib.hid hq2
      have HKA := Lib.hid (And.intro hkA hkWA)
      clear hq2 hbw hkWA hgA hkA hkg HT1
      go_wp2_with fail
      refine Calls.mono HT2.out ?_
      rintro e wB ⟨rfl, hgB, hkB⟩
      have hkWB : Keep (fun j => j ≠ g ∧ j ≠ bp) w wB := HKA.out.2.comp hkB (fun _ _ h => h) (fun _ _ h => h.1)
      have hmpB := (HA.out.mp.keep (HKA.out.1) hbg).keep hkB hbg
      have x0 := hkWB.cellAt H0.out ⟨hmg, hmb⟩
      have hmlB := lt_of_cell x0
      have e2 := hgB.cell 2
      have ez := hgB.frozen 2
      have egl := hgB.lt
      simp at e2
      obtain ⟨t1, ht1⟩ : ∃ t, t = q1.1 := ⟨_, rfl⟩
      obtain ⟨t2, ht2⟩ : ∃ t, t = q2.1 := ⟨_, rfl⟩
      have HBB := Lib.hid (And.intro hgB (And.intro hkWB (And.intro hmpB (And.intro ht1 ht2))))
      rw [← ht1] at hn1
      rw [← ht2] at hn2
      rw [← ht1, ← ht2]
      clear hgB hkWB hmpB ht1 ht2 HT2 hkB
      have hps := HA.out.len
      go_upto_region 5 with (fail)
      by_cases hcmp : bytesBefore last t1 = true
      · have hc0 : Op.bytesLess t1 last = false := by rw [less_before]; exact before_asymm hcmp
        have hc1 : (t1 == last) = false := by have := before_ne hcmp; simp; exact fun e => this e.symm
        have HCM := Lib.hid hcmp
        clear hcmp
        go_wp2_with (at_mapUpdate; refine wpList_mstore rfl (.tmp 24) (.tmp 25) (.tmp 26) rfl Tryz.underlying9 Tryz.underlying51 rfl HBB.out.2.2.1 (by rw [sk_len]; simp only [maxLen]; omega) (l := t1) (by simp only [maxLen]; omega) rfl (str t2) rfl ?_)
        intro wC hmC hkC
        rw [sk_put] at hmC
        have HCC := Lib.hid (And.intro hmC hkC)
        clear hmC hkC hc0 hc1
        go_wp2_with fail
        obtain ⟨hgB, hkWB, hmpB, ht1, ht2⟩ := HBB.out
        refine ⟨⟨k + 1, t1, by omega, by simp, rfl, Lib.hid ⟨_, _, _, _, rp_step HA.out hlt HQ1.out HQ2.out ht1 ht2 (bad2 := q2.2.2) (by rw [HCM.out]; simp) (hgB.keep HCC.out.2 (fun e => hbg e.symm)) (by have := HB.out.2.2.2.2.2.2.2; omega) HCC.out.1 (hkWB.comp HCC.out.2 (fun _ _ h => h) (fun _ _ h => h.2))⟩⟩, by simp only [intOf]; omega⟩
      · have hcmp' : bytesBefore last t1 = false := by simpa using hcmp
        have HCM := Lib.hid hcmp'
        have hc : Op.bytesLess t1 last = true ∨ (t1 == last) = true := by
          rw [less_before]
          by_cases he : t1 = last
          · exact .inr (by simpa using he)
          · exact .inl (before_not hcmp' (fun e => he e.symm))
        have hgs : Rdr (wB.setCell ⟨g, 2, none⟩ (.bool true)) g A n c q2.2.1 true := HBB.out.1.set 2 (.bool true)
        have hks : Keep (fun j => j ≠ g) wB (wB.setCell ⟨g, 2, none⟩ (.bool true)) := (Keep.refl _ wB).setCell (fun _ h => h rfl) _
        have x1 := hks.cellAt x0 hmg
        have HGS := Lib.hid (And.intro hgs hks)
        have hmlC := lt_of_cell x1
        clear hcmp hcmp' hgs hks x1 hmlC
        rcases hc with hc0 | hc1
        all_goals
          go_wp2_with (at_mapUpdate; refine wpList_mstore rfl (.tmp 24) (.tmp 25) (.tmp 26) rfl Tryz.underlying9 Tryz.underlying51 rfl (HBB.out.2.2.1.keep HGS.out.2 hbg) (by rw [sk_len]; simp only [maxLen]; omega) (l := t1) (by simp only [maxLen]; omega) rfl (str t2) rfl ?_)
          intro wC hmC hkC
          rw [sk_put] at hmC
          have HCC := Lib.hid (And.intro hmC hkC)
          clear hmC hkC
          go_wp2_with fail
          obtain ⟨hgB, hkWB, hmpB, ht1, ht2⟩ := HBB.out
          refine ⟨⟨k + 1, t1, by omega, by simp, rfl, Lib.hid ⟨_, _, _, _, rp_step HA.out hlt HQ1.out HQ2.out ht1 ht2 (bad2 := true) (by rw [HCM.out]; simp) (HGS.out.1.keep HCC.out.2 (fun e => hbg e.symm)) (by have := HB.out.2.2.2.2.2.2.2; omega) HCC.out.1 ((hkWB.comp HGS.out.2 (fun _ _ h => h) (fun _ _ h => h.1)).comp HCC.out.2 (fun _ _ h => h) (fun _ _ h => h.2))⟩⟩, by simp only [intOf]; omega⟩
    · obtain rfl : k = cnt := by omega
      go_wp2_with fail
      go_end0
      have hat := HA.out
      have e := hat.eq
      rw [Nat.sub_self] at e
      have e' : R = (pre, pk, badk) := by rw [e]; simp [runF]
      refine ⟨rfl, ⟨ps, hat.mp, hat.rise, by have := hat.len; omega, fun hf => ?_⟩, by rw [e']; exact hat.rd, by rw [e']; exact hat.pn, hat.keep⟩
      rw [e'] at hf ⊢
      exact (hat.ok hf).1
end Go.Proofs.YtggibajakcigaaaGreatDoor
namespace Go.Proofs.YtggibajakcigaaaGreatDoor
set_option linter.unusedVariables false
set_option linter.unusedSimpArgs false
open Go.RowKit

/-- 'append(s, x)' of an element of several cells that has just been laid in a block of its own. -/
theorem wpList_appK {P : Program} {w : World} {t e : TypeId} {size bytes : Nat} {z : Value} (E : ET P t e size bytes z) {ops : Array Oper} {rest : List Oper} {o : Oper} {a : Act} {Q : Exit → Act → World → Prop} (hgd : o.guard = none) (s x : Operand)
    (ho : o.op = .call { callee := .builtin .append, args := #[s, x], argTypes := #[t, t] }) (cs : Array Value) (te : TypeId) (hsz : cs.size = size) (hcs : ∀ u ∈ cs.toList, u.oneCell' = true)
    (base : Nat) (v : Value) (n : Nat) (xs : List Value) (hs : a.eval s = v) (hx : a.eval x = .slice (some ⟨w.heap.size, 0, none⟩) 1 1) (hown : w.ownsRow base e size v n xs)
    (hb : (n + 1) * bytes ≤ 140737488355328) (hbase : base ≤ w.heap.size)
    (h : ∀ v' w', w'.ownsRow base e size v' (n + 1) (xs ++ cs.toList) → Keep (fun k => v.ownBlock ≠ some k) w w' → Next w.heap.size v v' → wpList P ops Q rest (a.put o.dst v') w') :
    wpList P ops Q (o :: rest) a (w.alloc (.cells cs te)) :=
  wpList_app E hgd s x ho base v n xs hs (hown.alloc _) _ _ 1 1 cs.toList hx (Rd.one_of (Blk.new w te cs) hsz) (fun h => by cases h) hcs hb (by simp; omega) fun v' w' h1 h2 h3 =>
    h v' w' h1 (((Keep.refl _ w).alloc _).comp h2 (fun _ _ h => h) (fun _ _ h => h)) (h3.imp id fun ⟨g, hg, hl⟩ => ⟨g, hg, by simp at hl; omega⟩)
/-- .. where the walk has reckoned the new block's number in its own way. -/
theorem wpList_appB {P : Program} {w : World} {t e : TypeId} {size bytes : Nat} {z : Value} (E : ET P t e size bytes z) {ops : Array Oper} {rest : List Oper} {o : Oper} {a : Act} {Q : Exit → Act → World → Prop} (hgd : o.guard = none) (s x : Operand)
    (ho : o.op = .call { callee := .builtin .append, args := #[s, x], argTypes := #[t, t] }) (cs : Array Value) (te : TypeId) (hsz : cs.size = size) (hcs : ∀ u ∈ cs.toList, u.oneCell' = true)
    (base : Nat) (v : Value) (n : Nat) (xs : List Value) (B : Nat) (hB : B = w.heap.size) (hs : a.eval s = v) (hx : a.eval x = .slice (some ⟨B, 0, none⟩) 1 1) (hown : w.ownsRow base e size v n xs)
    (hb : (n + 1) * bytes ≤ 140737488355328) (hbase : base ≤ w.heap.size)
    (h : ∀ v' w', w'.ownsRow base e size v' (n + 1) (xs ++ cs.toList) → Keep (fun k => v.ownBlock ≠ some k) w w' → Next w.heap.size v v' → wpList P ops Q rest (a.put o.dst v') w') :
    wpList P ops Q (o :: rest) a (w.alloc (.cells cs te)) := by
  subst hB
  exact wpList_appK E hgd s x ho cs te hsz hcs base v n xs hs hx hown hb hbase h
theorem wpList_app1B {P : Program} {w : World} {t e : TypeId} {bytes : Nat} {z : Value} (E : ET P t e 1 bytes z) {ops : Array Oper} {rest : List Oper} {o : Oper} {a : Act} {Q : Exit → Act → World → Prop} (hgd : o.guard = none) (s x : Operand)
    (ho : o.op = .call { callee := .builtin .append, args := #[s, x], argTypes := #[t, t] }) (y : Value) (te : TypeId) (hy : y.oneCell' = true)
    (base : Nat) (v : Value) (n : Nat) (xs : List Value) (B : Nat) (hB : B = w.heap.size) (hs : a.eval s = v) (hx : a.eval x = .slice (some ⟨B, 0, none⟩) 1 1) (hown : w.ownsRow base e 1 v n xs)
    (hb : (n + 1) * bytes ≤ 140737488355328) (hbase : base ≤ w.heap.size)
    (h : ∀ v' w', w'.ownsRow base e 1 v' (n + 1) (xs ++ [y]) → Keep (fun k => v.ownBlock ≠ some k) w w' → Next w.heap.size v v' → wpList P ops Q rest (a.put o.dst v') w') :
    wpList P ops Q (o :: rest) a (w.alloc (.cells #[y] te)) := by
  subst hB
  exact wpList_app1 E hgd s x ho y te hy base v n xs hs hx hown hb hbase h
end Go.Proofs.YtggibajakcigaaaGreatDoor
namespace Go.Proofs.YtggibajakcigaaaGreatDoor
set_option linter.unusedVariables false
set_option linter.unusedSimpArgs false
open Go.RowKit

/-! ### asked -/
theorem int_info2 : (Tryz.prog.info? 3).map (fun i => (i.zero, i.size, i.bytes)) = some (some (.int .i64 0), 1, 8) := by kernel_rfl
theorem etInt2 : ET Tryz.prog 28 3 1 8 (.int .i64 0) := ⟨Tryz.underlying28, int_info2, rfl, by decide, by decide⟩
def askTo (ss : List SesD) (k : Nat) : List Int := ((List.range k).filter fun q => decide (0 < (ss.getD q noSes).inc)).map fun q : Nat => (q : Int)
theorem askTo_succ (ss : List SesD) (k : Nat) : askTo ss (k + 1) = askTo ss k ++ (if 0 < (ss.getD k noSes).inc then [(k : Int)] else []) := by
  unfold askTo
  rw [List.range_succ, List.filter_append, List.map_append]
  congr 1
  simp only [List.filter]
  generalize (ss.getD k noSes).inc = z
  by_cases h : 0 < z <;> simp [h]
theorem askTo_len (ss : List SesD) (k : Nat) : (askTo ss k).length ≤ k := by
  unfold askTo
  rw [List.length_map]
  exact Nat.le_trans (List.length_filter_le _ _) (by simp)
theorem askTo_all (ss : List SesD) : askTo ss 16 = (asked ss).map fun x => (x.1 : Int) := by
  unfold askTo asked
  rw [List.filter_map, List.map_map]
  rfl
set_option maxRecDepth 20000 in
theorem asked_any (S : Nat → Prop) (m bp bl : Nat) (s : StD) (w : World) (hm : MSt S w m bp bl s) :
    Calls Tryz.prog 36 #[.pointer (some ⟨m, 0, none⟩)] w fun e w' => (∃ v, e = .returned v ∧ w'.ownsRow w.heap.size 3 1 v (askTo s.ss 16).length (ics (askTo s.ss 16))) ∧ Fresh w w' := by
  have HM := Lib.hid hm
  clear hm
  go_enter Tryz.func36, Tryz.ntmps36
  go_wp2_with fail
  go_loopw [3, 5] (fun v i wr => ∃ k : Nat, k ≤ 16 ∧ i = .int .i64 (k : Int) ∧ Hid (wr.ownsRow w.heap.size 3 1 v (askTo s.ss k).length (ics (askTo s.ss k)) ∧ Fresh w wr)) (fun _ i _ => 16 - (intOf i).toNat)
  case atStart => exact ⟨0, by omega, rfl, Lib.hid ⟨by exact World.ownsRow_nil _ _ _ _, Keep.refl _ _⟩⟩
  case round =>
    rename World => wr
    obtain ⟨k, hk, rfl, HR⟩ := hrel
    by_cases hlt : k < 16
    · have hmr := HM.out.fresh HR.out.2
      have ml := hmr.blk.lt
      have s0 := hmr.ses hlt 0 (by omega)
      simp only [MSess.cells, List.getElem?_cons_zero, Nat.add_zero] at s0
      obtain ⟨z, hz⟩ : ∃ z, z = (s.ss.getD k noSes).inc := ⟨_, rfl⟩
      rw [← hz] at s0
      have HS := Lib.hid (askTo_succ s.ss k)
      have hki : (k : Int) < 16 := by omega
      by_cases h0 : 0 < z
      · have HS2 : Hid (askTo s.ss (k + 1) = askTo s.ss k ++ [(k : Int)]) := Lib.hid (by rw [HS.out, if_pos (by rw [← hz]; exact h0)])
        clear hmr hz HS
        go_wp2_with (at_builtin; refine wpList_app1 etInt2 rfl (.tmp 16) (.tmp 18) rfl (.int .i64 (k : Int)) _ rfl w.heap.size _ (askTo s.ss k).length (ics (askTo s.ss k)) rfl rfl HR.out.1 (by have := askTo_len s.ss k; omega) HR.out.2.size ?_)
        intro v2 w2 ho2 hk2 hn2
        have H2 := Lib.hid (And.intro ho2 hk2)
        clear ho2 hk2 hn2
        go_wp2_with fail
        refine ⟨⟨k + 1, by omega, by simp, Lib.hid ⟨?_, HR.out.2.comp H2.out.2 (fun _ _ h => h) (fun i hi _ e => by have := (own_lt HR.out.1 e).1; omega)⟩⟩, by simp only [intOf]; omega⟩
        rw [HS2.out]
        have h1 := H2.out.1
        simpa [ics] using h1
      · have HS2 : Hid (askTo s.ss (k + 1) = askTo s.ss k) := Lib.hid (by rw [HS.out, if_neg (by rw [← hz]; exact h0)]; simp)
        clear hmr hz HS
        go_wp2_with fail
        exact ⟨⟨k + 1, by omega, by simp, Lib.hid ⟨by rw [HS2.out]; exact HR.out.1, HR.out.2⟩⟩, by simp only [intOf]; omega⟩
    · obtain rfl : k = 16 := by omega
      go_wp2_with fail
      go_ret
      exact ⟨⟨_, rfl, HR.out.1⟩, HR.out.2⟩

/-! ### Pairs -/
def pairC (p : Txt × Txt) : List Value := [str p.1, str p.2]
theorem pair_two (p : Txt × Txt) : (pairC p).length = 2 := rfl
abbrev pcells (ps : List (Txt × Txt)) : List Value := rcells pairC ps
theorem pair_info : (Tryz.prog.info? 94).map (fun i => (i.zero, i.size, i.bytes)) = some (some (.agg #[str [], str []]), 2, 32) := by kernel_rfl
theorem etPair : ET Tryz.prog 64 94 2 32 (.agg #[str [], str []]) := ⟨Tryz.underlying64, pair_info, rfl, by decide, by decide⟩
theorem pair_one (a b : Txt) : ∀ u ∈ (#[str a, str b] : Array Value).toList, u.oneCell' = true := by
  intro u hu
  simp only [List.mem_cons, List.not_mem_nil, or_false] at hu
  rcases hu with rfl | rfl <;> rfl
theorem look_pair {w : World} {b : Nat} {ps : Ps} (h : MapIs Tryz.prog 9 w b (sk ps)) {l : Txt} (hl : l.length ≤ 1048576) (u : Txt) (hu : pfind l ps = some u) :
    (Instr.lookup 51 (.map (some b)) (str l) false).run Tryz.prog w = .ok (str u) w := by
  have h1 := MapIs.look h Tryz.underlying9 Tryz.underlying51 (run_zero_str _) (l := l) (by simp only [maxLen]; omega)
  rw [sk_find, hu] at h1
  exact h1
theorem sk_keys (ps : Ps) : (sk ps).map Prod.fst = ps.map Prod.fst := by simp [sk]
theorem pfind_at {ps : Ps} (hr : Rise (ps.map Prod.fst)) {k : Nat} (hk : k < ps.length) : pfind ps[k].1 ps = some ps[k].2 := by
  rw [pfind_eq]
  have h1 : findK Prod.fst ps[k].1 ps = some ps[k] := findK_of hr (List.getElem_mem hk) rfl
  show (findK Prod.fst ps[k].1 ps).map Prod.snd = _
  rw [h1]
  rfl
set_option maxRecDepth 20000 in
theorem pairs_any (S : Nat → Prop) (m bp bl : Nat) (s : StD) (w : World) (hm : MSt S w m bp bl s) (hp : PInv s.pairs) :
    Calls Tryz.prog 19 #[.pointer (some ⟨m, 0, none⟩)] w fun e w' => (∃ v, e = .returned v ∧ w'.ownsRow w.heap.size 94 2 v s.pairs.length (pcells s.pairs)) ∧ Fresh w w' := by
  obtain ⟨x0, -, -⟩ := hm.three
  have ml := hm.blk.lt
  have HN := names_s_any bp (sk s.pairs) w hm.pm (by rw [sk_keys]; exact hp.rise) (by rw [sk_len]; have := hp.len; omega)
  rw [sk_keys, sk_len] at HN
  replace HN := Lib.hid HN
  have HM := Lib.hid (And.intro hm hp)
  clear hm hp
  go_enter Tryz.func19, Tryz.ntmps19
  go_wp2_with fail
  refine HN.out.mono ?_
  rintro e w2 ⟨⟨vn, rfl, hon⟩, f2⟩
  obtain ⟨A, cn, rfl, hrdn, -⟩ := own_rd hon
  have HO := Lib.hid (And.intro hon (And.intro hrdn f2))
  clear hon hrdn f2 HN x0 ml
  go_wp2_with fail
  go_loopw [3, 12] (fun v i wr => ∃ k : Nat, k ≤ s.pairs.length ∧ i = .int .i64 (k : Int) ∧ Hid (wr.ownsRow w2.heap.size 94 2 v k (pcells (s.pairs.take k)) ∧ Fresh w2 wr)) (fun _ i _ => s.pairs.length - (intOf i).toNat)
  case atStart => exact ⟨0, by omega, rfl, Lib.hid ⟨by exact World.ownsRow_nil _ _ _ _, Keep.refl _ _⟩⟩
  case round =>
    rename World => wr
    obtain ⟨k, hk, rfl, HR⟩ := hrel
    by_cases hlt : k < s.pairs.length
    · obtain ⟨hm, hp⟩ := HM.out
      have hmr := (hm.fresh HO.out.2.2).fresh HR.out.2
      have ml := hmr.blk.lt
      obtain ⟨x0, -, -⟩ := hmr.three
      have h1 := (HO.out.2.1.keep (HR.out.2.weaken fun _ _ _ => trivial)).at1 (k := k) (by simpa using hlt)
      obtain ⟨b, o, rfl, hzb, hll, hcell⟩ := h1
      obtain ⟨t, ht⟩ : ∃ t, t = s.pairs[k].1 := ⟨_, rfl⟩
      obtain ⟨u, hu⟩ : ∃ u, u = s.pairs[k].2 := ⟨_, rfl⟩
      have hcell2 : wr.cell? ⟨b, o + k, none⟩ = some (str t) := by rw [hcell, ht]; simp
      have hlk := look_pair hmr.pm (l := t) (by have := (hp.each _ (List.getElem_mem hlt)).2.1; rw [ht]; omega) u (by rw [ht, hu]; exact pfind_at hp.rise hlt)
      have hn16 := hp.len
      have hki : (k : Int) < (s.pairs.length : Int) := by omega
      have HT := Lib.hid (show s.pairs.take (k + 1) = s.pairs.take k ++ [(t, u)] by rw [ht, hu, List.take_append_getElem hlt])
      clear hm hp hmr hzb hll hcell ht hu
      go_wp2_with (at_builtin; refine wpList_appB etPair rfl (.tmp 16) (.tmp 25) rfl #[str t, str u] 94 rfl (pair_one t u) w2.heap.size _ k (pcells (s.pairs.take k)) wr.heap.size rfl rfl rfl HR.out.1 (by omega) HR.out.2.size ?_)
      intro v3 w3 ho3 hk3 hn3
      have H3 := Lib.hid (And.intro ho3 hk3)
      clear ho3 hk3 hn3
      go_wp2_with fail
      refine ⟨⟨k + 1, by omega, by simp, Lib.hid ⟨?_, HR.out.2.comp H3.out.2 (fun _ _ h => h) (fun i hi _ e => by have := (own_lt HR.out.1 e).1; omega)⟩⟩, by simp only [intOf]; omega⟩
      rw [HT.out]
      have h1 := H3.out.1
      simpa [pcells, rcells_append, rcells_cons, rcells_nil, pairC] using h1
    · obtain rfl : k = s.pairs.length := by omega
      go_wp2_with fail
      go_ret
      obtain ⟨ho, hf⟩ := HR.out
      rw [List.take_length] at ho
      exact ⟨⟨_, rfl, own_base ho HO.out.2.2.size⟩, HO.out.2.2.trans hf⟩

/-! ### Waiting -/
def waitC (x : Int × Int) : List Value := [.int .i64 x.1, .int .i64 x.2]
abbrev wcells (xs : List (Int × Int)) : List Value := rcells waitC xs
/-- Who waits, each with its incarnation. -/
def waitD (k : Txt) (s : StD) : List (Int × Int) := match lfind k s.locks with
  | none => []
  | some l => l.queue.map fun c => (c, (s.ss.getD c.toNat noSes).inc)
theorem wait_info : (Tryz.prog.info? 69).map (fun i => (i.zero, i.size, i.bytes)) = some (some (.agg #[.int .i64 0, .int .i64 0]), 2, 16) := by kernel_rfl
theorem etWait : ET Tryz.prog 66 69 2 16 (.agg #[.int .i64 0, .int .i64 0]) := ⟨Tryz.underlying66, wait_info, rfl, by decide, by decide⟩
theorem wait_one (a b : Int) : ∀ u ∈ (#[.int .i64 a, .int .i64 b] : Array Value).toList, u.oneCell' = true := by
  intro u hu
  simp only [List.mem_cons, List.not_mem_nil, or_false] at hu
  rcases hu with rfl | rfl <;> rfl
set_option maxRecDepth 20000 in
theorem waiting_any (S : Nat → Prop) (m bp bl : Nat) (s : StD) (k : Txt) (w : World) (hm : MSt S w m bp bl s) (hi : LInv s.locks s.tok) (hk : k.length ≤ 1099511627776) :
    Calls Tryz.prog 21 #[.pointer (some ⟨m, 0, none⟩), str k] w fun e w' => (∃ v, e = .returned v ∧ w'.ownsRow w.heap.size 69 2 v (waitD k s).length (wcells (waitD k s))) ∧ Fresh w w' := by
  obtain ⟨X, hX⟩ : ∃ X, X = waitD k s := ⟨_, rfl⟩
  rw [← hX]
  obtain ⟨-, x1, -⟩ := hm.three
  have ml := hm.blk.lt
  obtain ⟨ms, hls⟩ := hm.lk
  have HM := Lib.hid (And.intro hm (And.intro hi hX))
  cases hfl : lfind k s.locks with
  | none =>
    have hlk := look_lk hls (k := k) hk _ (show _ = .pointer none by rw [hls.gone hfl]; rfl) 0
    rw [show w.drewN 0 = w from rfl] at hlk
    clear hm hi hls hX
    go_enter Tryz.func21, Tryz.ntmps21
    go_wp2_with fail
    go_ret
    obtain ⟨hm, hi, hX⟩ := HM.out
    have e : X = [] := by rw [hX]; unfold waitD; rw [hfl]
    rw [e]
    exact ⟨⟨_, rfl, by exact World.ownsRow_nil _ _ _ _⟩, Keep.refl _ _⟩
  | some l =>
    obtain ⟨x, hx, hxl, hxk, hxi, hxf⟩ := lk_find hls hfl
    obtain ⟨-, -, y2⟩ := hxi.cells
    have hlk := look_lk hls (k := k) hk _ hxf 0
    rw [show w.drewN 0 = w from rfl] at hlk
    obtain ⟨h, hh⟩ : ∃ h, h = x.h := ⟨_, rfl⟩
    rw [← hh] at y2 hlk
    have hhl := hxi.lt
    rw [← hh] at hhl
    have hlo := hi.each l (findK_some hfl).2
    have hql := queue_len hlo.nd hlo.q
    obtain ⟨A, c, hv, hnc, hrd, -⟩ := hxi.row.rd
    rw [hxl] at hv hrd
    rw [hv] at y2
    have hrd2 : Rd w (fun _ => True) 1 A l.queue.length (ics l.queue) := hrd.weaken fun _ _ => trivial
    have e : X = l.queue.map fun c => (c, (s.ss.getD c.toNat noSes).inc) := by rw [hX]; unfold waitD; rw [hfl]
    have HQ := Lib.hid (And.intro hrd2 (And.intro hlo e))
    clear hm hi hls hX hx hxl hxk hxi hxf hh hlo hv hrd hrd2 e hnc
    go_enter Tryz.func21, Tryz.ntmps21
    go_wp2_with fail
    go_loopw [5, 22] (fun v i wr => ∃ k : Nat, k ≤ l.queue.length ∧ i = .int .i64 (k : Int) ∧ Hid (wr.ownsRow w.heap.size 69 2 v k (wcells (X.take k)) ∧ Fresh w wr)) (fun _ i _ => l.queue.length - (intOf i).toNat)
    case atStart => exact ⟨0, by omega, rfl, Lib.hid ⟨by exact World.ownsRow_nil _ _ _ _, Keep.refl _ _⟩⟩
    case round =>
      rename World => wr
      obtain ⟨j, hj, rfl, HR⟩ := hrel
      by_cases hlt : j < l.queue.length
      · have hmr := HM.out.1.fresh HR.out.2
        have ml := hmr.blk.lt
        have h1 := (HQ.out.1.keep HR.out.2).at1 (k := j) (by simpa using hlt)
        obtain ⟨b, o, rfl, hzb, hll, hcell⟩ := h1
        have hcb := HQ.out.2.1.q l.queue[j] (List.getElem_mem hlt)
        obtain ⟨q, hq⟩ : ∃ q : Nat, l.queue[j] = (q : Int) := ⟨l.queue[j].toNat, by omega⟩
        have hq16 : q < 16 := by omega
        have hqi : (q : Int) < 16 := by omega
        have s0 := hmr.ses hq16 0 (by omega)
        simp only [MSess.cells, List.getElem?_cons_zero, Nat.add_zero] at s0
        obtain ⟨z, hz⟩ : ∃ z, z = (s.ss.getD q noSes).inc := ⟨_, rfl⟩
        rw [← hz] at s0
        have hcell2 : wr.cell? ⟨b, o + j, none⟩ = some (.int .i64 (q : Int)) := by rw [hcell]; simp [ics, hq]
        have hjx : j < X.length := by rw [HQ.out.2.2]; simpa using hlt
        have hXj : X[j] = ((q : Int), z) := by
          have e := HQ.out.2.2
          subst e
          simp [hq, hz]
        have HT := Lib.hid (show X.take (j + 1) = X.take j ++ [((q : Int), z)] by rw [← hXj, List.take_append_getElem hjx])
        have hji : (j : Int) < (l.queue.length : Int) := by omega
        clear hmr hzb hll hcell hcb hq hz hXj
        go_wp2_with (at_builtin; refine wpList_appB etWait rfl (.tmp 26) (.tmp 36) rfl #[.int .i64 (q : Int), .int .i64 z] 69 rfl (wait_one (q : Int) z) w.heap.size _ j (wcells (X.take j)) wr.heap.size rfl rfl rfl HR.out.1 (by omega) HR.out.2.size ?_)
        intro v3 w3 ho3 hk3 hn3
        have H3 := Lib.hid (And.intro ho3 hk3)
        clear ho3 hk3 hn3
        go_wp2_with fail
        refine ⟨⟨j + 1, by omega, by simp, Lib.hid ⟨?_, HR.out.2.comp H3.out.2 (fun _ _ h => h) (fun i hi _ e => by have := (own_lt HR.out.1 e).1; omega)⟩⟩, by simp only [intOf]; omega⟩
        rw [HT.out]
        have h1 := H3.out.1
        simpa [wcells, rcells_append, rcells_cons, rcells_nil, waitC] using h1
      · obtain rfl : j = l.queue.length := by omega
        go_wp2_with fail
        go_ret
        obtain ⟨ho, hf⟩ := HR.out
        have hxlen : X.length = l.queue.length := by rw [HQ.out.2.2]; simp
        rw [← hxlen, List.take_length] at ho
        exact ⟨⟨_, rfl, ho⟩, hf⟩
end Go.Proofs.YtggibajakcigaaaGreatDoor
namespace Go.Proofs.YtggibajakcigaaaGreatDoor
set_option linter.unusedVariables false
set_option linter.unusedSimpArgs false
open Go.RowKit
open Go.Maps (Keyed)

abbrev Ke := Lit × Value
/-- Every element reads as itself. -/
def Kr (v : Value) : Option (DataW Value × List MemPlace) := some (.held v, [])
def kEnt (p : Ke) : Lit × DataW Value := (p.1, .held p.2)
def kD (ps : List Ke) : DataW Value := .map (ps.map kEnt)
/-- Block b is a map that holds just these. -/
def KMap (P : Program) (k : TypeId) (w : World) (b : Nat) (ps : List Ke) : Prop := w.ownsMap P k Kr b ps.length (kD ps)
def kfind (k : Lit) (ps : List Ke) : Option Value := (ps.find? fun p => p.1.sameKey k).map (·.2)
def kins (x : Ke) : List Ke → List Ke
  | [] => [x]
  | y :: r => if x.1.before y.1 then x :: y :: r else y :: kins x r
def kdel (k : Lit) (ps : List Ke) : List Ke := ps.filter fun p => !(p.1.sameKey k)
def kput (k : Lit) (v : Value) (ps : List Ke) : List Ke := kins (k, v) (kdel k ps)

theorem kD_insert (x : Ke) : ∀ ps : List Ke, DataW.insert (kEnt x) (ps.map kEnt) = (kins x ps).map kEnt
  | [] => rfl
  | y :: r => by
    simp only [List.map_cons, DataW.insert, kins]
    have e : (kEnt x).1.before (kEnt y).1 = x.1.before y.1 := rfl
    rw [e]
    split
    · rfl
    · rw [kD_insert x r]; rfl
theorem kD_filter (k : Lit) (ps : List Ke) : (ps.map kEnt).filter (fun p => !p.1.sameKey k) = (kdel k ps).map kEnt := by
  unfold kdel
  rw [List.filter_map]
  rfl
theorem kD_put (k : Lit) (v : Value) (ps : List Ke) : (kD ps).put k (.held v) = kD (kput k v ps) := by
  unfold kD DataW.put
  simp only
  rw [kD_filter]
  exact congrArg DataW.map (kD_insert (k, v) _)
theorem kD_del (k : Lit) (ps : List Ke) : (kD ps).del k = kD (kdel k ps) := by
  unfold kD DataW.del
  simp only
  rw [kD_filter]
theorem kD_has (k : Lit) (ps : List Ke) : Maps.has (kD ps) k = (kfind k ps).isSome := by
  unfold kD Maps.has kfind
  simp only
  induction ps with
  | nil => rfl
  | cons p ps ih =>
    simp only [List.map_cons, List.any_cons, List.find?_cons]
    rw [ih]
    have e : (kEnt p).1.sameKey k = p.1.sameKey k := rfl
    rw [e]
    cases h : p.1.sameKey k <;> simp
theorem kD_at (k : Lit) (z : Value) (ps : List Ke) : (kD ps).atKey k (.held z) = .held ((kfind k ps).getD z) := by
  unfold kD DataW.atKey kfind
  simp only
  induction ps with
  | nil => rfl
  | cons p ps ih =>
    simp only [List.map_cons, List.find?_cons]
    have e : (kEnt p).1.sameKey k = p.1.sameKey k := rfl
    rw [e]
    cases h : p.1.sameKey k
    · exact ih
    · rfl
theorem kD_size (ps : List Ke) : Maps.size (kD ps) = ps.length := by simp [kD, Maps.size]
theorem kins_len (x : Ke) : ∀ ps : List Ke, (kins x ps).length = ps.length + 1
  | [] => rfl
  | y :: r => by
    unfold kins
    split
    · rfl
    · simp [kins_len x r]
theorem kdel_len (k : Lit) (ps : List Ke) : (kdel k ps).length ≤ ps.length := List.length_filter_le _ _
theorem kput_len (k : Lit) (v : Value) (ps : List Ke) : (kput k v ps).length ≤ ps.length + 1 := by
  unfold kput
  rw [kins_len]
  have := kdel_len k ps
  omega
theorem same_eq {a b : Lit} (h : a.sameKey b = true) : a = b := by
  cases a <;> cases b <;> simp [Lit.sameKey] at h <;> simp_all
theorem kins_find (x : Ke) (p : Ke → Bool) : ∀ ps : List Ke, (∀ y ∈ ps, ¬ (p x = true ∧ p y = true)) → (kins x ps).find? p = if p x then some x else ps.find? p
  | [], _ => by simp [kins, List.find?_cons]; cases p x <;> rfl
  | y :: r, h => by
    unfold kins
    have hr := kins_find x p r (fun z hz => h z (by simp [hz]))
    have hy := h y (by simp)
    split
    · simp only [List.find?_cons]
      cases p x <;> rfl
    · simp only [List.find?_cons, hr]
      cases hx : p x <;> cases hy' : p y <;> simp_all
/-- What is found behind a store. -/
theorem kfind_put (k k' : Lit) (v : Value) (ps : List Ke) : kfind k' (kput k v ps) = if k.sameKey k' = true then some v else kfind k' ps := by
  unfold kfind kput
  rw [kins_find]
  · by_cases h : k.sameKey k' = true
    · simp [h]
    · simp only [h, if_false, Bool.false_eq_true]
      congr 1
      unfold kdel
      induction ps with
      | nil => rfl
      | cons p ps ih =>
        simp only [List.filter_cons]
        cases h1 : p.1.sameKey k
        · simp only [Bool.not_false, if_true, List.find?_cons]
          rw [ih]
        · simp only [Bool.not_true, Bool.false_eq_true, if_false]
          rw [ih, List.find?_cons]
          have e := same_eq h1
          cases h2 : p.1.sameKey k'
          · rfl
          · rw [e] at h2
            exact absurd h2 h
  · rintro y hy ⟨h1, h2⟩
    have e := same_eq h1
    simp only at e
    subst e
    simp [kdel, h2] at hy

section
variable {P : Program} {k : TypeId} {w w' : World} {b : Nat} {ps : List Ke}
theorem KMap.of {n : Nat} {D : DataW Value} (h : w.ownsMap P k Kr b n D) (hD : D = kD ps) : KMap P k w b ps := by
  subst hD
  obtain ⟨es, clock, hb, F, _, hD⟩ := h
  refine ⟨es, clock, hb, F, ?_, hD⟩
  have h1 := congrArg Maps.size hD
  rw [kD_size] at h1
  simp [Maps.size, length_sorted] at h1
  omega
theorem KMap.made (w : World) (P : Program) (k : TypeId) : KMap P k (w.alloc (.map #[] 0)) w.heap.size [] := World.ownsMap_made w P k Kr
theorem KMap.lt (h : KMap P k w b ps) : b < w.heap.size := World.ownsMap.lt h
theorem KMap.blk (h : KMap P k w b ps) (hb : w'.heap[b]? = w.heap[b]?) : KMap P k w' b ps := by
  obtain ⟨es, clock, hh, F, hs, hD⟩ := h
  exact ⟨es, clock, hb.trans hh, F, hs, hD⟩
theorem KMap.keep {Z : Nat → Prop} (h : KMap P k w b ps) (hk : Keep Z w w') (hz : Z b) : KMap P k w' b ps := h.blk (hk.block b h.lt hz)
theorem KMap.ne_blk {g : Nat} {t : TypeId} {cs : Array Value} (h : KMap P k w b ps) (hg : Blk w g t cs) : b ≠ g := by
  rintro rfl
  obtain ⟨es, clock, hh, _⟩ := h
  unfold Blk at hg
  rw [hg] at hh
  cases hh
theorem KMap.look_ok {t e : TypeId} (h : KMap P k w b ps) (K : Keyed P k) (ht : P.underlying t = some (.map k e)) {z : Value} (hz : (zeroValue e).run P w = .ok z w) {x : Value} {l : Lit} (hx : keyOf P k x = some l) :
    (Instr.lookup t (.map (some b)) x true).run P w = .ok (.tuple #[(kfind l ps).getD z, .bool (kfind l ps).isSome]) w := by
  obtain ⟨v, qs, hrun, hv⟩ := World.ownsMap.look_ok h K ht hz (zd := .held z) (zp := []) rfl hx
  rw [kD_has] at hrun
  rw [kD_at] at hv
  unfold Kr at hv
  injection hv with hv
  injection hv with hv _
  injection hv with hv
  rw [hrun, hv]
theorem KMap.look {t e : TypeId} (h : KMap P k w b ps) (K : Keyed P k) (ht : P.underlying t = some (.map k e)) {z : Value} (hz : (zeroValue e).run P w = .ok z w) {x : Value} {l : Lit} (hx : keyOf P k x = some l) :
    (Instr.lookup t (.map (some b)) x false).run P w = .ok ((kfind l ps).getD z) w := by
  obtain ⟨v, qs, hrun, hv⟩ := World.ownsMap.lookup h K ht hz (zd := .held z) (zp := []) rfl hx
  rw [kD_at] at hv
  unfold Kr at hv
  injection hv with hv
  injection hv with hv _
  injection hv with hv
  rw [hrun, hv]
theorem KMap.len {t e : TypeId} (h : KMap P k w b ps) (ht : P.underlying t = some (.map k e)) (ty : TypeId) : (Builtin.len_ #[t] ty #[.map (some b)]).run P w = .ok (.int .i64 (ps.length : Int)) w := by
  have := World.ownsMap.len h ht ty
  rwa [kD_size] at this
theorem Keep.of_kturned (h : w.mapTurned w' b) : Keep (fun i => i ≠ b) w w' := (Keep.of_grown h.grown).weaken fun i _ hi e => hi (by injection e with e; exact e.symm)
theorem KMap.store {t e : TypeId} (h : KMap P k w b ps) (K : Keyed P k) (ht : P.underlying t = some (.map k e)) (hn : ps.length < maxLen) {x : Value} {l : Lit} (hx : keyOf P k x = some l) (v : Value) :
    ∃ w', (Instr.mapUpdate t (.map (some b)) x v).run P w = .ok () w' ∧ KMap P k w' b (kput l v ps) ∧ Keep (fun i => i ≠ b) w w' := by
  obtain ⟨w', hrun, ho, ht'⟩ := World.ownsMap.store h K ht hn hx (val := v) (d := .held v) (ps := []) rfl
  exact ⟨w', hrun, KMap.of ho (kD_put l v ps), Keep.of_kturned ht'⟩
/-- The operation, for the walk. -/
theorem wpList_kstore {t e : TypeId} {ops : Array Oper} {rest : List Oper} {o : Oper} {a : Act} {Q : Exit → Act → World → Prop} (hgd : o.guard = none) (m x v : Operand) (hop : o.op = Op.mapUpdate t m x v)
    (K : Keyed P k) (ht : P.underlying t = some (.map k e)) (hm : a.eval m = .map (some b)) (h : KMap P k w b ps) (hn : ps.length < maxLen) {xv : Value} {l : Lit} (hl : keyOf P k xv = some l) (hx : a.eval x = xv) (u : Value) (hv : a.eval v = u)
    (hK : ∀ w', KMap P k w' b (kput l u ps) → Keep (fun i => i ≠ b) w w' → wpList P ops Q rest (a.put o.dst undef) w') : wpList P ops Q (o :: rest) a w := by
  refine wpList_plain hgd fun K' hK' => ?_
  obtain ⟨w', hrun, r1, r2⟩ := h.store K ht hn hl u
  unfold Oper.wp
  simp [execOp, hop, hm, hx, hv, hrun, Result.andThen]
  exact hK' _ _ (hK w' r1 r2)
theorem wpList_klen {t e : TypeId} {ops : Array Oper} {rest : List Oper} {o : Oper} {a : Act} {Q : Exit → Act → World → Prop} (hgd : o.guard = none) (m : Operand) (hop : o.op = Op.call { callee := Callee.builtin Builtin.len, args := #[m], argTypes := #[t] })
    (ht : P.underlying t = some (.map k e)) (hm : a.eval m = .map (some b)) (h : KMap P k w b ps) (hK : wpList P ops Q rest (a.put o.dst (.int .i64 (ps.length : Int))) w) : wpList P ops Q (o :: rest) a w := by
  refine wpList_plain hgd fun K' hK' => ?_
  have hrun := h.len ht o.type
  unfold Oper.wp execOp
  simp only [hop, resolve, invoke, builtin, Sem.run_bind, Sem.run_pure, Result.andThen_ok, List.map_toArray, List.map_cons, List.map_nil, hm, hrun]
  exact hK' _ _ hK
end
end Go.Proofs.YtggibajakcigaaaGreatDoor
namespace Go.Proofs.YtggibajakcigaaaGreatDoor
set_option linter.unusedVariables false
set_option linter.unusedSimpArgs false
open Go.RowKit
open Go.Maps (Keyed)

/-! ### a map that counts -/
theorem kint : Maps.Keyed Tryz.prog 3 := Maps.int_keyed Tryz.underlying3
theorem kkey {z : Int} (h1 : -9223372036854775808 ≤ z) (h2 : z < 9223372036854775808) : keyOf Tryz.prog 3 (.int .i64 z) = some (.int .i64 z) := Maps.keyOf_int_mk Tryz.underlying3 (by simp [Lit.wf, IntKind.min, IntKind.max, IntKind.signed, IntKind.bits]; omega)
structure Cnt (w : World) (b : Nat) (seen : List Int) : Prop where
  ex : ∃ ps, KMap Tryz.prog 3 w b ps ∧ ps.length ≤ seen.length ∧ ∀ c, kfind (.int .i64 c) ps = if c ∈ seen then some (.int .i64 (seen.count c : Int)) else none
theorem Cnt.made (w : World) : Cnt (w.alloc (.map #[] 0)) w.heap.size [] := ⟨[], KMap.made w _ _, by simp, fun c => by simp [kfind]⟩
theorem Cnt.keep {Z : Nat → Prop} {w w' : World} {b : Nat} {seen : List Int} (h : Cnt w b seen) (hk : Keep Z w w') (hz : Z b) : Cnt w' b seen := by
  obtain ⟨ps, h1, h2, h3⟩ := h.ex
  exact ⟨ps, h1.keep hk hz, h2, h3⟩
theorem Cnt.lt {w : World} {b : Nat} {seen : List Int} (h : Cnt w b seen) : b < w.heap.size := by
  obtain ⟨ps, h1, -, -⟩ := h.ex
  exact h1.lt
theorem Cnt.ne_blk {w : World} {b g : Nat} {t : TypeId} {cs : Array Value} {seen : List Int} (h : Cnt w b seen) (hg : Blk w g t cs) : b ≠ g := by
  obtain ⟨ps, h1, -, -⟩ := h.ex
  exact h1.ne_blk hg
theorem run_zero_int (w : World) : (zeroValue 3).run Tryz.prog w = .ok (.int .i64 0) w := by kernel_rfl
theorem Cnt.look {w : World} {b : Nat} {seen : List Int} (h : Cnt w b seen) {c : Int} (h1 : -9223372036854775808 ≤ c) (h2 : c < 9223372036854775808) :
    (Instr.lookup 106 (.map (some b)) (.int .i64 c) false).run Tryz.prog w = .ok (.int .i64 (seen.count c : Int)) w := by
  obtain ⟨ps, hm, -, hf⟩ := h.ex
  have h3 := hm.look kint Tryz.underlying106 (run_zero_int w) (kkey h1 h2)
  rw [hf c] at h3
  by_cases hc : c ∈ seen
  · rw [if_pos hc] at h3
    exact h3
  · rw [if_neg hc] at h3
    rw [List.count_eq_zero_of_not_mem hc]
    exact h3
/-- .. and counts one more. -/
theorem Cnt.up {w' : World} {b : Nat} {seen : List Int} {ps : List Ke} {c : Int} (hl : ps.length ≤ seen.length) (hf : ∀ c, kfind (.int .i64 c) ps = if c ∈ seen then some (.int .i64 (seen.count c : Int)) else none)
    (h : KMap Tryz.prog 3 w' b (kput (.int .i64 c) (.int .i64 ((seen.count c : Int) + 1)) ps)) : Cnt w' b (c :: seen) := by
  refine ⟨_, h, Nat.le_trans (kput_len _ _ _) (by simp; omega), fun d => ?_⟩
  rw [kfind_put]
  by_cases hd : c = d
  · subst hd
    have e : (Lit.int .i64 c).sameKey (Lit.int .i64 c) = true := by simp [Lit.sameKey]
    rw [if_pos e, if_pos (by simp), List.count_cons_self]
    simp
  · have e : ¬ (Lit.int .i64 c).sameKey (Lit.int .i64 d) = true := by simp [Lit.sameKey]; exact hd
    rw [if_neg e, hf d]
    have e2 : (d ∈ c :: seen) ↔ d ∈ seen := by simp; exact fun h => absurd h.symm hd
    by_cases hs : d ∈ seen
    · rw [if_pos hs, if_pos (e2.2 hs), List.count_cons_of_ne hd]
    · rw [if_neg hs, if_neg (fun h => hs (e2.1 h))]

/-! ### plain -/
def rdCl (bs : Txt) (p : Nat) (bad : Bool) : Int × Nat × Bool := (((rCount bs p bad 15).1 : Int), (rCount bs p bad 15).2)
def qchk (seen : List Int) (c : Int) : Bool := !decide (c ∈ seen)
def qnxt (seen : List Int) (c : Int) : List Int := c :: seen
abbrev rQueue (bs : Txt) (h : Nat) (p : Nat) (bad : Bool) : List Int × Nat × Bool := runF (rdCl bs) qchk qnxt (rCount bs p bad 15).1 (rCount bs p bad 15).2.1 (rCount bs p bad 15).2.2 [(h : Int)]
def rdLock (bs : Txt) (tok : Int) (p : Nat) (bad : Bool) : LockD × Nat × Bool :=
  let a := rText bs p bad 8
  let h := rCount bs a.2.1 a.2.2 15
  let t := rCount bs h.2.1 h.2.2 tok
  let r := rQueue bs h.1 t.2.1 t.2.2
  (⟨a.1, (h.1 : Int), (t.1 : Int), r.1⟩, r.2)
def lchk (s : Txt × List Int) (x : LockD) : Bool := bytesBefore s.1 x.name && !decide (x.token = 0) && !decide (x.token ∈ s.2)
def lnxt (s : Txt × List Int) (x : LockD) : Txt × List Int := (x.name, x.token :: s.2)
abbrev rLocks (bs : Txt) (tok : Int) (p : Nat) (bad : Bool) : List LockD × Nat × Bool := runF (rdLock bs tok) lchk lnxt (rCount bs p bad 8).1 (rCount bs p bad 8).2.1 (rCount bs p bad 8).2.2 ([], [])
def lput (x : LockD) (ls : List LockD) : List LockD := match lfind x.name ls with
  | some _ => setK LockD.name x ls
  | none => insK LockD.name x ls
theorem lput_rise {x : LockD} {ls : List LockD} (h : Rise (ls.map LockD.name)) : Rise ((lput x ls).map LockD.name) := by
  unfold lput
  cases hf : lfind x.name ls with
  | some y => simp only; rw [setK_keys]; exact h
  | none => exact insK_rise h (findK_none hf)
theorem lput_len (x : LockD) (ls : List LockD) : (lput x ls).length ≤ ls.length + 1 := by
  unfold lput
  split
  · rw [setK_len]; omega
  · rw [insK_len]; exact Nat.le_refl _
theorem lput_mem {x y : LockD} {ls : List LockD} (h : y ∈ lput x ls) : y = x ∨ y ∈ ls := by
  unfold lput at h
  split at h
  · exact (setK_mem h).imp id fun h => h.1
  · exact insK_mem.1 h
theorem lput_last {x : LockD} {ls : List LockD} (h : ∀ y ∈ ls, bytesBefore y.name x.name = true) : lput x ls = ls ++ [x] := by
  have hn : lfind x.name ls = none := by
    cases hf : lfind x.name ls with
    | none => rfl
    | some y =>
      obtain ⟨e, hy⟩ := findK_some hf
      exact absurd e (before_ne (h y hy))
  unfold lput
  rw [hn]
  clear hn
  induction ls with
  | nil => rfl
  | cons y r ih =>
    have h1 := before_asymm (h y (by simp))
    simp only at ih ⊢
    rw [insK, if_neg (by simp [h1]), ih fun z hz => h z (by simp [hz])]
    rfl
/-- A lock is put into the map, over an elder of its name if there is one. -/
theorem Lks.put {S S' : Nat → Prop} {w w' : World} {bl : Nat} {ms : List LkM} {ls : List LockD} (h : Lks S w bl ms ls) (hr : Rise (ls.map LockD.name)) (x : LkM) (hm : MapIs Tryz.prog 9 w' bl (mput x.d.name (.pointer (some ⟨x.h, 0, none⟩)) (ms.map LkM.kv))) {Z : Nat → Prop} (hk : Keep Z w w') (hz : ∀ j, S j → j ≠ bl → Z j) (hx : LkIs S' w' x) (hs : ∀ j, S j → S' j)
    (hh : w.heap.size ≤ x.h) (hv : ∀ k, x.v.ownBlock = some k → w.heap.size ≤ k) : ∃ ms', Lks S' w' bl ms' (lput x.d ls) := by
  have hrk : Rise (ms.map LkM.key) := by rw [h.keys]; exact hr
  replace hm : MapIs Tryz.prog 9 w' bl (mput (LkM.key x) (LkM.kv x).2 (ms.map LkM.kv)) := hm
  have hold : ∀ y ∈ ms, LkIs S' w' y := fun y hy => by
    have h1 := h.each y hy
    refine (h1.keep hk (hz _ h1.sh ?_) fun k hk2 => hz _ (h1.sv k hk2) ?_).widen hs
    · exact fun e => h.map.ne_blk h1.blk e.symm
    · rintro rfl
      exact h.map.ne_own h1.row hk2
  have hap : ∀ y ∈ ms, LApart y x := fun y hy => by
    have h1 := h.each y hy
    refine ⟨fun e => by have := h1.lt; omega, fun k hk2 e => by have := h1.vlt hk2; have := hv k e; omega⟩
  cases hf : lfind x.d.name ls with
  | none =>
    have hn : ∀ y ∈ ms, LkM.key y ≠ LkM.key x := fun y hy e => by
      have h1 := findK_none hf y.d (by rw [← h.data]; exact List.mem_map.2 ⟨y, hy, rfl⟩)
      exact h1 e
    have e : lput x.d ls = insK LockD.name x.d ls := by unfold lput; rw [hf]
    rw [e]
    refine ⟨insK LkM.key x ms, ?_, fun y hy => ?_, ?_, by rw [insK_data, h.data], hs _ h.sb⟩
    · rw [mput_new (key := LkM.key) (f := LkM.kv) (fun _ => rfl) x ms hn] at hm
      exact hm
    · rcases insK_mem.1 hy with rfl | hy
      · exact hx
      · exact hold y hy
    · have gen : ∀ l : List LkM, l.Pairwise LApart → (∀ y ∈ l, LApart y x) → (insK LkM.key x l).Pairwise LApart := by
        intro l
        induction l with
        | nil => intro _ _; simp [insK]
        | cons y r ih =>
          intro h1 h2
          obtain ⟨a1, a2⟩ := List.pairwise_cons.1 h1
          unfold insK
          split
          · exact List.pairwise_cons.2 ⟨fun z hz => (h2 z hz).symm, h1⟩
          · refine List.pairwise_cons.2 ⟨fun z hz => ?_, ih a2 fun z hz => h2 z (by simp [hz])⟩
            rcases insK_mem.1 hz with rfl | hz
            · exact h2 y (by simp)
            · exact a1 z hz
      exact gen ms h.apart hap
  | some l =>
    obtain ⟨y0, hy0, hd0, hk0, -⟩ := h.find hf
    have e : lput x.d ls = setK LockD.name x.d ls := by unfold lput; rw [hf]
    rw [e]
    refine ⟨setK LkM.key x ms, ?_, fun y hy => ?_, ?_, by rw [setK_data, h.data], hs _ h.sb⟩
    · rw [mput_old (key := LkM.key) (f := LkM.kv) (fun _ => rfl) x ms hrk ⟨y0, hy0, hk0⟩] at hm
      exact hm
    · rcases setK_mem hy with rfl | ⟨hy, -⟩
      · exact hx
      · exact hold y hy
    · unfold setK
      rw [List.pairwise_map]
      have hne : ms.Pairwise fun a b => LkM.key a ≠ LkM.key b := by
        have h1 := hrk.nodup
        rw [List.nodup_iff_pairwise_ne, List.pairwise_map] at h1
        exact h1
      refine (h.apart.and hne).imp_of_mem ?_
      intro a b ha hb hab
      obtain ⟨h3, h4⟩ := hab
      by_cases e1 : LkM.key a = LkM.key x
      · have e2 : LkM.key b ≠ LkM.key x := fun e => h4 (e1.trans e.symm)
        simp only [e1, beq_self_eq_true, if_true, beq_iff_eq, e2, if_false]
        exact (hap b hb).symm
      · by_cases e2 : LkM.key b = LkM.key x
        · simp only [e2, beq_self_eq_true, if_true, beq_iff_eq, e1, if_false]
          exact hap a ha
        · simp only [beq_iff_eq, e1, e2, if_false]
          exact h3

/-! ### the walk -/
theorem kmap_ne_own {P : Program} {k : TypeId} {w : World} {b base e n : Nat} {ps : List Ke} {v : Value} {xs : List Value} (h : KMap P k w b ps) (ho : OwnAt w base e v n xs) : v.ownBlock ≠ some b := by
  rcases ho.2 with ⟨rfl, _⟩ | ⟨g, o, cap, cur, rfl, _, hh, _⟩
  · simp [Value.ownBlock]
  · intro he
    have : g = b := by simpa [Value.ownBlock] using he
    subst this
    exact h.ne_blk (g := g) (t := e) hh rfl
/-- Within the queue's loop. -/
structure RQAt (bs : Txt) (RQ : List Int × Nat × Bool) (cntq j : Nat) (i2 i3 : Int) (g hb th base : Nat) (A : Option Addr) (n c : Nat) (wG wx : World) (v : Value) (pj : Nat) (badj : Bool) (qs seen : List Int) : Prop where
  eq : RQ = (qs ++ (runF (rdCl bs) qchk qnxt (cntq - j) pj badj seen).1, (runF (rdCl bs) qchk qnxt (cntq - j) pj badj seen).2)
  rd : Rdr wx g A n c pj badj
  pn : pj ≤ n
  blk : Blk wx hb 83 #[.int .i64 i2, .int .i64 i3, v]
  row : wx.ownsRow base 3 1 v qs.length (ics qs)
  cn : Cnt wx th seen
  slen : seen.length = j + 1
  qlen : qs.length = j
  safe : ∀ c ∈ qs, 0 ≤ c ∧ c < 16
  keep : Keep (fun i => i ≠ g ∧ i ≠ hb ∧ i ≠ th) wG wx
theorem rq_step {bs : Txt} {RQ : List Int × Nat × Bool} {cntq j : Nat} {i2 i3 : Int} {g hb th base : Nat} {A : Option Addr} {n c : Nat} {wG wx w2 : World} {v v2 : Value} {pj : Nat} {badj : Bool} {qs seen : List Int} {q5 : Nat × Nat × Bool} {i5 : Int} {bad2 : Bool}
    (h : RQAt bs RQ cntq j i2 i3 g hb th base A n c wG wx v pj badj qs seen) (hj : j < cntq) (h5 : q5 = rCount bs pj badj 15) (hi : i5 = (q5.1 : Int)) (hm : (q5.1 : Int) ≤ 15) (hbad : bad2 = (q5.2.2 || decide (i5 ∈ seen))) (hg : Rdr w2 g A n c q5.2.1 bad2) (hp : q5.2.1 ≤ n)
    (hblk : Blk w2 hb 83 #[.int .i64 i2, .int .i64 i3, v2]) (hrow : w2.ownsRow base 3 1 v2 (qs.length + 1) (ics qs ++ [.int .i64 i5])) (hcn : Cnt w2 th (i5 :: seen)) (hk : Keep (fun i => i ≠ g ∧ i ≠ hb ∧ i ≠ th) wG w2) : RQAt bs RQ cntq (j + 1) i2 i3 g hb th base A n c wG w2 v2 q5.2.1 bad2 (qs ++ [i5]) (i5 :: seen) := by
  have hr : rdCl bs pj badj = (i5, q5.2) := by unfold rdCl; rw [← h5, hi]
  refine ⟨?_, hg, hp, hblk, by simpa [ics] using hrow, hcn, by simp [h.slen], by simp [h.qlen], fun d hd => ?_, hk⟩
  · rw [h.eq, show cntq - j = (cntq - (j + 1)) + 1 by omega, runF_succ, hr]
    have e : bad2 = (q5.2.2 || !qchk seen i5) := by rw [hbad]; unfold qchk; simp
    simp only [qnxt, ← e, List.append_assoc, List.singleton_append]
  · rcases List.mem_append.1 hd with hd | hd
    · exact h.safe d hd
    · simp only [List.mem_cons, List.not_mem_nil, or_false] at hd
      rw [hd]
      omega
structure RLAt (bs : Txt) (tok : Int) (R : List LockD × Nat × Bool) (cnt k : Nat) (last : Txt) (S : Nat → Prop) (g bl tb : Nat) (A : Option Addr) (n c : Nat) (w wr : World) (pk : Nat) (badk : Bool) (pre ls : List LockD) (seen : List Int) : Prop where
  eq : R = (pre ++ (runF (rdLock bs tok) lchk lnxt (cnt - k) pk badk (last, seen)).1, (runF (rdLock bs tok) lchk lnxt (cnt - k) pk badk (last, seen)).2)
  rd : Rdr wr g A n c pk badk
  pn : pk ≤ n
  lk : ∃ ms, Lks S wr bl ms ls
  tk : Cnt wr tb seen
  rise : Rise (ls.map LockD.name)
  len : ls.length ≤ k
  slen : seen.length ≤ k
  safe : ∀ l ∈ ls, (0 ≤ l.holder ∧ l.holder < 16) ∧ ∀ c ∈ l.queue, 0 ≤ c ∧ c < 16
  qlen : ∀ l ∈ ls, l.queue.length ≤ 15
  ok : badk = false → ls = pre ∧ ∀ y ∈ pre, y.name = last ∨ bytesBefore y.name last = true
  keep : Keep (fun j => j ≠ g ∧ j ≠ bl) w wr

theorem rCount_stick {bs : Txt} {p : Nat} {bad : Bool} {most : Int} (h : (rCount bs p bad most).2.2 = false) : bad = false := by
  cases bad with
  | false => rfl
  | true =>
    unfold rCount at h
    rw [if_pos (.inl rfl)] at h
    cases h
theorem rText_stick {bs : Txt} {p : Nat} {bad : Bool} {most : Int} (h : (rText bs p bad most).2.2 = false) : bad = false := by
  unfold rText at h
  split at h
  · cases h
  · rename_i h1
    refine rCount_stick (bs := bs) (p := p) (most := most) ?_
    rcases hh : (rCount bs p bad most).2.2 with _ | _
    · rfl
    · exact absurd (.inl hh) h1
theorem rQueue_stick {bs : Txt} {h p : Nat} {bad : Bool} (hf : (rQueue bs h p bad).2.2 = false) : bad = false := by
  rcases hb : (rCount bs p bad 15).2.2 with _ | _
  · exact rCount_stick hb
  · unfold rQueue at hf
    rw [hb] at hf
    have h1 := runF_bad (rd := rdCl bs) (chk := qchk) (nxt := qnxt) (fun p => by
      rcases hx : (rdCl bs p true).2.2 with _ | _
      · exact absurd (rCount_stick (bs := bs) (p := p) (most := 15) hx) (by simp)
      · rfl) (rCount bs p bad 15).1 (rCount bs p bad 15).2.1 [(h : Int)]
    rw [h1] at hf
    cases hf
theorem rdLock_stick {bs : Txt} {tok : Int} {p : Nat} {bad : Bool} (h : (rdLock bs tok p bad).2.2 = false) : bad = false :=
  rText_stick (rCount_stick (rCount_stick (rQueue_stick h)))
/-- One lock more. -/
theorem rl_step {bs : Txt} {tok : Int} {R : List LockD × Nat × Bool} {cnt k : Nat} {last : Txt} {S : Nat → Prop} {g bl tb : Nat} {A : Option Addr} {n c : Nat} {w wr w2 : World} {pk : Nat} {badk : Bool} {pre ls : List LockD} {seen : List Int}
    (h : RLAt bs tok R cnt k last S g bl tb A n c w wr pk badk pre ls seen) (hk : k < cnt) (x : LockD) {pj : Nat} {badj bad2 : Bool} (hx : rdLock bs tok pk badk = (x, pj, badj)) (hb : bad2 = (badj || !lchk (last, seen) x)) (hg : Rdr w2 g A n c pj bad2) (hp : pj ≤ n) (hl : ∃ ms, Lks S w2 bl ms (lput x ls))
    (ht : Cnt w2 tb (x.token :: seen)) (hs : (0 ≤ x.holder ∧ x.holder < 16) ∧ ∀ c ∈ x.queue, 0 ≤ c ∧ c < 16) (hql : x.queue.length ≤ 15) (hkw : Keep (fun j => j ≠ g ∧ j ≠ bl) w w2) :
    RLAt bs tok R cnt (k + 1) x.name S g bl tb A n c w w2 pj bad2 (pre ++ [x]) (lput x ls) (x.token :: seen) := by
  refine ⟨?_, hg, hp, hl, ht, lput_rise h.rise, Nat.le_trans (lput_len x ls) (by have := h.len; omega), by have := h.slen; simp; omega, fun l hm => ?_, fun l hm => ?_, fun hf => ?_, hkw⟩
  · rw [h.eq, show cnt - k = (cnt - (k + 1)) + 1 by omega, runF_succ, hx]
    simp only [← hb, lnxt, List.append_assoc, List.singleton_append]
  · rcases lput_mem hm with rfl | hm
    · exact hs
    · exact h.safe l hm
  · rcases lput_mem hm with rfl | hm
    · exact hql
    · exact h.qlen l hm
  · rw [hb, Bool.or_eq_false_iff] at hf
    have hbk : badk = false := rdLock_stick (bs := bs) (tok := tok) (p := pk) (by rw [hx]; exact hf.1)
    have hc : lchk (last, seen) x = true := by simpa using hf.2
    unfold lchk at hc
    rw [Bool.and_eq_true, Bool.and_eq_true] at hc
    have hlt := hc.1.1
    simp only at hlt
    obtain ⟨e3, h4⟩ := h.ok hbk
    have hall : ∀ y ∈ pre, bytesBefore y.name x.name = true := fun y hy => by
      rcases h4 y hy with e | e
      · rw [e]; exact hlt
      · exact before_trans e hlt
    refine ⟨by rw [e3]; exact lput_last hall, fun y hy => ?_⟩
    rcases List.mem_append.1 hy with hy | hy
    · exact .inr (hall y hy)
    · simp only [List.mem_cons, List.not_mem_nil, or_false] at hy
      rw [hy]
      exact .inl rfl
def RLPost (R : List LockD × Nat × Bool) (g bl : Nat) (A : Option Addr) (n c : Nat) (w : World) (e : Ending) (w' : World) : Prop :=
  e = .returned (.tuple #[]) ∧ (∃ (S : Nat → Prop) (ms : List LkM) (ls : List LockD), Lks S w' bl ms ls ∧ (∀ j, S j → j = bl ∨ w.heap.size ≤ j) ∧ Rise (ls.map LockD.name) ∧ ls.length ≤ 8 ∧ (∀ l ∈ ls, (0 ≤ l.holder ∧ l.holder < 16) ∧ ∀ c ∈ l.queue, 0 ≤ c ∧ c < 16) ∧ (∀ l ∈ ls, l.queue.length ≤ 15) ∧ (R.2.2 = false → ls = R.1)) ∧
    Rdr w' g A n c R.2.1 R.2.2 ∧ R.2.1 ≤ n ∧ Keep (fun j => j ≠ g ∧ j ≠ bl) w w'

set_option maxRecDepth 20000 in
set_option maxHeartbeats 4000000 in
theorem rlocks_any (m g bl : Nat) (tok : Int) (Z : Nat → Prop) (A : Option Addr) (n c : Nat) (bs : Txt) (p : Nat) (bad : Bool) (w : World) (h1 : w.cell? ⟨m, 1, none⟩ = some (.map (some bl))) (h2 : w.cell? ⟨m, 2, none⟩ = some (.int .i64 tok)) (ht0 : 0 ≤ tok) (ht1 : tok ≤ 99999999) (hmg : m ≠ g) (hmb : m ≠ bl) (hmp : MapIs Tryz.prog 9 w bl []) (hg : Rdr w g A n c p bad) (hz : ∀ k, Z k → k ≠ g ∧ k ≠ bl) (hp : p ≤ n) (hnc : n ≤ c) (hb : Rd w Z 1 A n (Lib.byteCells bs)) (hn : n ≤ 1099511627770) :
    Calls Tryz.prog 31 #[.pointer (some ⟨m, 0, none⟩), .pointer (some ⟨g, 0, none⟩)] w (RLPost (rLocks bs tok p bad) g bl A n c w) := by
  have hlen : bs.length = n := by simpa [Lib.byteCells] using hb.1
  obtain ⟨R, hR⟩ : ∃ R, R = rLocks bs tok p bad := ⟨_, rfl⟩
  rw [← hR]
  have hbg : bl ≠ g := hmp.ne_blk hg
  have hmm := @run_makeMap Tryz.prog
  obtain ⟨W, hW⟩ : ∃ W, W = w.alloc (.map #[] 0) := ⟨_, rfl⟩
  obtain ⟨tb, htb⟩ : ∃ tb, tb = w.heap.size := ⟨_, rfl⟩
  have hf : Fresh w W := hW ▸ (Keep.refl _ w).alloc _
  have hcn : Cnt W tb [] := by rw [hW, htb]; exact Cnt.made w
  have hgW := hg.keep hf trivial
  have HC := Lib.hid (rcount_any g Z A n c bs p bad 8 W hgW hp (hb.keep (hf.weaken fun _ _ _ => trivial)) hn)
  have hle := rCount_le bs p bad 8 (by omega)
  have hmost := rCount_most bs p bad (most := 8) (by omega)
  unfold rLocks at hR
  generalize rCount bs p bad 8 = q at HC hR hle hmost
  obtain ⟨cnt, p1, bad1⟩ := q
  simp only at HC hR hle hmost
  have hmlw := lt_of_cell h1
  have hblw := hmp.lt
  have hglw := hg.lt
  have H0 := Lib.hid (And.intro h1 h2)
  have HB := Lib.hid (And.intro hb (And.intro hz (And.intro hmp (And.intro hR (And.intro hlen (And.intro hf (And.intro hcn htb)))))))
  have hml := Nat.lt_of_lt_of_le hmlw hf.size
  clear hb hz hmp hR hg hlen h1 h2 hcn hgW
  go_enter Tryz.func31, Tryz.ntmps31
  go_upto_region 2 with (fail)
  simp only [← htb]
  rw [← hW]
  clear hW htb hmm hf
  go_wp2_with fail
  refine Calls.mono HC.out ?_
  rintro e w1 ⟨rfl, hg1, hk1⟩
  have H1 := Lib.hid (And.intro hg1 hk1)
  have hml1 := Nat.lt_of_lt_of_le hml hk1.size
  clear hg1 hk1 HC hml
  obtain ⟨S, hS⟩ : ∃ S : Nat → Prop, S = fun j => j = bl ∨ (w.heap.size ≤ j ∧ j ≠ tb) := ⟨_, rfl⟩
  have htbw : tb = w.heap.size := HB.out.2.2.2.2.2.2.2
  have hSg : ∀ j, S j → j ≠ g ∧ j ≠ tb := fun j hj => by
    rw [hS] at hj
    rcases hj with rfl | h
    · exact ⟨hbg, by omega⟩
    · exact ⟨by omega, h.2⟩
  have HS := Lib.hid (And.intro hS (And.intro hSg htbw))
  clear hS hSg htbw
  go_wp2_with fail
  go_loopw [4, 13] (fun l i wr => ∃ (k : Nat) (last : Txt), k ≤ cnt ∧ i = .int .i64 (k : Int) ∧ l = str last ∧ Hid (∃ pk badk pre ls seen, RLAt bs tok R cnt k last S g bl tb A n c w wr pk badk pre ls seen)) (fun _ i _ => cnt - (intOf i).toNat)
  case atStart =>
    obtain ⟨hb, hz, hmp, hR, hlen, hf, hcn, htb⟩ := HB.out
    obtain ⟨hg1, hk1⟩ := H1.out
    refine ⟨0, [], by omega, rfl, rfl, Lib.hid ⟨p1, bad1, [], [], [], ⟨by rw [hR]; rfl, hg1, by omega, ⟨[], ?_⟩, hcn.keep hk1 (by omega), by simp [Rise], by simp, by simp, by simp, by simp, fun _ => ⟨rfl, by simp⟩, hf.comp hk1 (fun _ _ _ => trivial) (fun _ _ h => h.1)⟩⟩⟩
    exact ⟨(hmp.keep hf trivial).keep hk1 hbg, (fun x hx => by cases hx), List.Pairwise.nil, rfl, by rw [HS.out.1]; exact .inl rfl⟩
  case round =>
    rename World => wr
    obtain ⟨k, last, hk, rfl, rfl, HR⟩ := hrel
    obtain ⟨pk, badk, pre, ls, seen, hat⟩ := HR.out
    have HA := Lib.hid hat
    clear hat HR
    by_cases hlt : k < cnt
    · have hbw := HB.out.1.keep (HA.out.keep.weaken fun j _ h => HB.out.2.1 j h)
      have HT1 := Lib.hid (rtext_any g Z A n c bs pk badk 8 wr HA.out.rd (fun j h => (HB.out.2.1 j h).1) HA.out.pn hnc hbw hn)
      have hl1 := rText_le bs pk badk 8 (by have := HB.out.2.2.2.2.1; have := HA.out.pn; omega)
      have hn1 := rText_len bs pk badk (most := 8) (by omega)
      obtain ⟨q1, hq1⟩ : ∃ q1, q1 = rText bs pk badk 8 := ⟨_, rfl⟩
      rw [← hq1] at HT1 hl1 hn1
      have HQ1 := Lib.hid hq1
      clear hq1 hbw
      go_wp2_with fail
      refine Calls.mono HT1.out ?_
      rintro e wA ⟨rfl, hgA, hkA⟩
      have hkWA : Keep (fun j => j ≠ g ∧ j ≠ bl) w wA := HA.out.keep.comp hkA (fun _ _ h => h) (fun _ _ h => h.1)
      have x2 := hkWA.cellAt H0.out.2 ⟨hmg, hmb⟩
      have hbwA : ∀ wx, Keep (fun j => j ≠ g) wA wx → Rd wx Z 1 A n (Lib.byteCells bs) := fun wx hk => HB.out.1.keep ((hkWA.weaken fun j _ h => HB.out.2.1 j h).comp hk (fun _ _ h => h) (fun j _ h => (HB.out.2.1 j h).1))
      have hlq : q1.2.1 ≤ n := by have := HB.out.2.2.2.2.1; omega
      have HC1 := Lib.hid (rcount_any g Z A n c bs q1.2.1 q1.2.2 15 (World.drew wA) (hgA.keep (Z := fun _ => True) ((Keep.refl _ wA).drew) trivial) hlq (hbwA _ ((Keep.refl _ wA).drew)) hn)
      have hl2 := rCount_le bs q1.2.1 q1.2.2 15 (by have := HB.out.2.2.2.2.1; omega)
      have hm2 := rCount_most bs q1.2.1 q1.2.2 (most := 15) (by omega)
      obtain ⟨q2, hq2⟩ : ∃ q2, q2 = rCount bs q1.2.1 q1.2.2 15 := ⟨_, rfl⟩
      rw [← hq2] at HC1 hl2 hm2
      have hlq2 : q2.2.1 ≤ n := by have := HB.out.2.2.2.2.1; omega
      have HC2 := Lib.hid (fun wB (hgB : Rdr wB g A n c q2.2.1 q2.2.2) (hkB : Keep (fun j => j ≠ g) (World.drew wA) wB) => rcount_any g Z A n c bs q2.2.1 q2.2.2 tok wB hgB hlq2 (hbwA _ (((Keep.refl _ wA).drew).trans hkB)) hn)
      have hl3 := rCount_le bs q2.2.1 q2.2.2 tok (by have := HB.out.2.2.2.2.1; omega)
      have hm3 := rCount_most bs q2.2.1 q2.2.2 (most := tok) ht0
      obtain ⟨q3, hq3⟩ : ∃ q3, q3 = rCount bs q2.2.1 q2.2.2 tok := ⟨_, rfl⟩
      rw [← hq3] at HC2 hl3 hm3
      have HX2 := Lib.hid (fun wx (hk : Keep (fun j => j ≠ g) wA wx) => hk.cellAt x2 hmg)
      have HQ := Lib.hid (And.intro hq2 (And.intro hq3 (And.intro hkA hkWA)))
      have hmlA := lt_of_cell x2
      clear hq2 hq3 hkWA hbwA hgA hkA HT1
      go_upto_region 5 with (fail)
      go_region_held3 (fun w' => w'.cell? ⟨m, 2, none⟩ = some (.int .i64 tok))
        (first | exact HX2.out _ ((Keep.refl _ wA).drew) | exact HX2.out _ (((Keep.refl _ wA).drew).trans hkB) | exact HX2.out _ ((((Keep.refl _ wA).drew).trans hkB).trans hkC) | exact HX2.out _ (((((Keep.refl _ wA).drew).trans hkB).trans hkC).alloc _))
        (first
          | (go_at_call 29; have hcc := HC1.out; (with_reducible refine Calls.mono hcc ?_); clear hcc; rintro e wB ⟨rfl, hgB, hkB⟩)
          | (go_at_call 29; have hcc := HC2.out _ hgB hkB; (with_reducible refine Calls.mono hcc ?_); clear hcc; rintro e wC ⟨rfl, hgC, hkC⟩))
      obtain ⟨hb, hhb⟩ : ∃ hb, hb = wC.heap.size := ⟨_, rfl⟩
      obtain ⟨wD, hwD⟩ : ∃ wD, wD = wC.alloc (.cells #[.int .i64 (q2.1 : Int), .int .i64 (q3.1 : Int), .slice none 0 0] 83) := ⟨_, rfl⟩
      rw [← hhb, ← hwD]
      have hkCD : Fresh wC wD := hwD ▸ (Keep.refl _ wC).alloc _
      have hkAD : Keep (fun j => j ≠ g) wA wD := ((((Keep.refl _ wA).drew).trans hkB).trans hkC).comp hkCD (fun _ _ h => h) (fun _ _ _ => trivial)
      have hblk : Blk wD hb 83 #[.int .i64 (q2.1 : Int), .int .i64 (q3.1 : Int), .slice none 0 0] := by rw [hwD, hhb]; exact Blk.new _ _ _
      have hgD := hgC.keep hkCD trivial
      have hkrD : Keep (fun j => j ≠ g) wr wD := HQ.out.2.2.1.trans hkAD
      have htbg : tb ≠ g := by have := HS.out.2.2; omega
      have hcD := HA.out.tk.keep hkrD htbg
      have htbD := hcD.lt
      obtain ⟨pst, hkm, hpl, hpf⟩ := hcD.ex
      have hsl := HA.out.slen
      obtain ⟨sc, hsc⟩ : ∃ sc, sc = seen.count ((q3.1 : Nat) : Int) := ⟨_, rfl⟩
      have hsc8 : sc ≤ 8 := by rw [hsc]; have := List.count_le_length (a := ((q3.1 : Nat) : Int)) (l := seen); omega
      have hlk := hcD.look (c := ((q3.1 : Nat) : Int)) (by omega) (by omega)
      rw [← hsc] at hlk
      have y0 := hblk.cell 0
      have y1 := hblk.cell 1
      simp at y0 y1
      have hbl' := hblk.lt
      have hbD : wr.heap.size ≤ hb := by rw [hhb]; exact Nat.le_trans HQ.out.2.2.1.size ((((Keep.refl _ wA).drew).trans hkB).trans hkC).size
      have hhtb : hb ≠ tb := by have := HA.out.tk.lt; omega
      obtain ⟨i2, hi2⟩ : ∃ i : Int, i = (q2.1 : Int) := ⟨_, rfl⟩
      obtain ⟨i3, hi3⟩ : ∃ i : Int, i = (q3.1 : Int) := ⟨_, rfl⟩
      rw [← hi2] at y0
      rw [← hi3] at y1 hlk
      rw [← hi2, ← hi3]
      have b20 : 0 ≤ i2 := by omega
      have b21 : i2 ≤ 15 := by omega
      have b30 : 0 ≤ i3 := by omega
      have b31 : i3 ≤ 99999999 := by omega
      have HD := Lib.hid (And.intro hkrD (And.intro hblk (And.intro hgD (And.intro hkm (And.intro hpl (And.intro hpf (And.intro hsc (And.intro hi2 (And.intro hi3 (And.intro hhb hbD))))))))))
      clear hwD hkCD hkAD hblk hgD hkrD hcD hkm hpl hpf hsc hi2 hi3 hhb hgB hkB hgC hkC HC1 HC2 HX2 x2 hsl
      go_upto_region 6 with (fail)
      go_wp2_with (at_mapUpdate; refine wpList_kstore rfl (.tmp 27) (.tmp 31) (.tmp 33) rfl kint Tryz.underlying106 rfl HD.out.2.2.2.1 (by have := HD.out.2.2.2.2.1; have := HA.out.slen; simp only [maxLen]; omega) (kkey (z := i3) (by omega) (by omega)) rfl (.int .i64 ((sc : Int) + 1)) rfl ?_)
      intro wE hcE hkE
      have hcE' : Cnt wE tb (i3 :: seen) := by
        refine Cnt.up HD.out.2.2.2.2.1 HD.out.2.2.2.2.2.1 ?_
        rw [HD.out.2.2.2.2.2.2.2.2.1, ← HD.out.2.2.2.2.2.2.1, ← HD.out.2.2.2.2.2.2.2.2.1]
        exact hcE
      have z0 := hkE.cellAt y0 hhtb
      have z1 := hkE.cellAt y1 hhtb
      have hbE := Nat.lt_of_lt_of_le hbl' hkE.size
      have HE := Lib.hid (And.intro hcE' hkE)
      have hmm := @run_makeMap Tryz.prog
      obtain ⟨th, hth⟩ : ∃ th, th = wE.heap.size := ⟨_, rfl⟩
      obtain ⟨wF, hwF⟩ : ∃ wF, wF = wE.alloc (.map #[] 0) := ⟨_, rfl⟩
      have hfF : Fresh wE wF := hwF ▸ (Keep.refl _ wE).alloc _
      have hcF : Cnt wF th [] := by rw [hwF, hth]; exact Cnt.made wE
      obtain ⟨psf, hkf, hlf, hff⟩ := hcF.ex
      obtain ⟨wG, hins, hkG, hkFG⟩ := hkf.store kint Tryz.underlying106 (by have h0 : psf.length = 0 := (by simpa using hlf); rw [h0]; decide) (kkey (z := i2) (by omega) (by omega)) (.int .i64 1)
      have hcG : Cnt wG th [i2] := Cnt.up hlf hff (by simpa using hkG)
      have w0 := hfF.cellAt z0 trivial
      rw [hwF] at hins w0
      rw [hth] at hins
      have HG := Lib.hid (And.intro hcG (And.intro hkFG (And.intro hfF hth)))
      clear hcE hcE' hkE hcF hkf hlf hff hkG hkFG hcG hfF y0 y1 hlk hbl' hth
      go_upto_region 8 with (fail)
      rw [← HG.out.2.2.2]
      have htbg := htbg
      have hmlG : g < wG.heap.size := by have := HE.out.2.size; have := HG.out.2.2.1.size; have := HG.out.2.1.size; have := HD.out.2.2.1.lt; omega
      have hgth : g ≠ th := by rw [HG.out.2.2.2]; have := HE.out.2.size; have := HD.out.2.2.1.lt; omega
      have hhth : hb ≠ th := by rw [HG.out.2.2.2]; have := HE.out.2.size; have := HD.out.2.1.lt; omega
      have hthtb : th ≠ tb := by rw [HG.out.2.2.2]; have := HE.out.1.lt; omega
      have hghb : g ≠ hb := fun e => Blk.ne HD.out.2.2.1 HD.out.2.1 (by decide) e
      have hkDG : Keep (fun j => j ≠ tb) wD wG := (HE.out.2.comp HG.out.2.2.1 (fun _ _ h => h) (fun _ _ _ => trivial)).comp HG.out.2.1 (fun _ _ h => h) (fun j hj _ e => by rw [HG.out.2.2.2] at e; have := HE.out.2.size; omega)
      have hgG := HD.out.2.2.1.keep hkDG (fun e => htbg e.symm)
      have hblkG := HD.out.2.1.keep hkDG hhtb
      have hkWG : Keep (fun j => j ≠ g ∧ j ≠ tb) wr wG := HD.out.1.comp hkDG (fun _ _ h => h.1) (fun _ _ h => h.2)
      have hkwG : Keep (fun j => j ≠ g ∧ j ≠ bl) w wG := HA.out.keep.comp hkWG (fun _ _ h => h) (fun j hj h => ⟨h.1, by have := HS.out.2.2; omega⟩)
      have hlq3 : q3.2.1 ≤ n := by have := HB.out.2.2.2.2.1; omega
      have hbwG : Rd wG Z 1 A n (Lib.byteCells bs) := HB.out.1.keep (hkwG.weaken fun j _ h => HB.out.2.1 j h)
      have HC4 := Lib.hid (rcount_any g Z A n c bs q3.2.1 q3.2.2 15 wG hgG hlq3 hbwG hn)
      have hl4 := rCount_le bs q3.2.1 q3.2.2 15 (by have := HB.out.2.2.2.2.1; omega)
      have hm4 := rCount_most bs q3.2.1 q3.2.2 (most := 15) (by omega)
      obtain ⟨q4, hq4⟩ : ∃ q4, q4 = rCount bs q3.2.1 q3.2.2 15 := ⟨_, rfl⟩
      rw [← hq4] at HC4 hl4 hm4
      obtain ⟨RQ, hRQ⟩ : ∃ RQ, RQ = rQueue bs q2.1 q3.2.1 q3.2.2 := ⟨_, rfl⟩
      have hRQ2 := hRQ
      unfold rQueue at hRQ2
      rw [← hq4] at hRQ2
      have HG2 := Lib.hid (And.intro hblkG (And.intro hkWG (And.intro hkwG (And.intro hq4 (And.intro hRQ hRQ2)))))
      clear hkDG hgG hblkG hkWG hkwG hbwG hq4 hRQ hRQ2 hins w0 z0 z1 hmm hwF hbE
      go_wp2_with fail
      refine Calls.mono HC4.out ?_
      rintro e wH ⟨rfl, hgH, hkH⟩
      have hblkH := HG2.out.1.keep hkH hghb.symm
      have hcH := HG.out.1.keep hkH hgth.symm
      have HH := Lib.hid (And.intro hgH (And.intro hkH (And.intro hblkH hcH)))
      have hglH := hgH.lt
      have hbH := hblkH.lt
      clear hgH hkH hblkH hcH HC4
      go_wp2_with fail
      go_loopw [42] (fun i wx => ∃ (j : Nat), j ≤ q4.1 ∧ i = .int .i64 (j : Int) ∧ Hid (∃ v pj badj qs seenq, RQAt bs RQ q4.1 j i2 i3 g hb th wH.heap.size A n c wH wx v pj badj qs seenq)) (fun i _ => q4.1 - (intOf i).toNat)
      case atStart =>
        refine ⟨0, by omega, rfl, Lib.hid ⟨_, q4.2.1, q4.2.2, [], [i2], ⟨?_, HH.out.1, by have := HB.out.2.2.2.2.1; omega, by have h := HH.out.2.2.1; rw [← HD.out.2.2.2.2.2.2.2.1, ← HD.out.2.2.2.2.2.2.2.2.1] at h; exact h, by exact World.ownsRow_nil _ _ _ _, HH.out.2.2.2, rfl, rfl, by simp, Keep.refl _ _⟩⟩⟩
        rw [HG2.out.2.2.2.2.2, HD.out.2.2.2.2.2.2.2.1]
        rfl
      case round =>
        rename World => wx
        obtain ⟨j, hj, rfl, HRQ⟩ := hrel
        obtain ⟨v, pj, badj, qs, seenq, hqa⟩ := HRQ.out
        have HQA := Lib.hid hqa
        clear hqa HRQ
        by_cases hjl : j < q4.1
        · have hkwx : Keep (fun j => j ≠ g ∧ j ≠ bl) w wx := (HG2.out.2.2.1.comp HH.out.2.1 (fun _ _ h => h) (fun _ _ h => h.1)).comp HQA.out.keep (fun _ _ h => h) (fun i hi h => ⟨h.1, by have := HD.out.2.2.2.2.2.2.2.2.2.2; have := HA.out.keep.size; omega, by have := HG.out.2.2.2; have := HD.out.2.1.lt; have := HE.out.2.size; have := HD.out.2.2.2.2.2.2.2.2.2.2; have := HA.out.keep.size; omega⟩)
          have hbwx := HB.out.1.keep (hkwx.weaken fun i _ h => HB.out.2.1 i h)
          have HC5 := Lib.hid (rcount_any g Z A n c bs pj badj 15 wx HQA.out.rd HQA.out.pn hbwx hn)
          have hl5 := rCount_le bs pj badj 15 (by have := HB.out.2.2.2.2.1; have := HQA.out.pn; omega)
          have hm5 := rCount_most bs pj badj (most := 15) (by omega)
          obtain ⟨q5, hq5⟩ : ∃ q5, q5 = rCount bs pj badj 15 := ⟨_, rfl⟩
          rw [← hq5] at HC5 hl5 hm5
          have HQ5 := Lib.hid hq5
          clear hq5 hkwx hbwx
          go_wp2_with fail
          refine Calls.mono HC5.out ?_
          rintro e wy ⟨rfl, hgy, hky⟩
          have hcy := HQA.out.cn.keep hky hgth.symm
          have hby := HQA.out.blk.keep hky hghb.symm
          have hoy : wy.ownsRow wH.heap.size 3 1 v qs.length (ics qs) := own_keep HQA.out.row hky fun i hi e => own_ne_blk HQA.out.row HQA.out.rd (by decide) (by rw [← e]; exact hi)
          obtain ⟨psq, hkq, hplq, hpfq⟩ := hcy.ex
          obtain ⟨i5, hi5⟩ : ∃ i : Int, i = (q5.1 : Int) := ⟨_, rfl⟩
          have b50 : 0 ≤ i5 := by omega
          have b51 : i5 ≤ 15 := by omega
          rw [← hi5]
          have hlk := hcy.look (c := i5) (by omega) (by omega)
          obtain ⟨sq, hsq⟩ : ∃ sq, sq = seenq.count i5 := ⟨_, rfl⟩
          rw [← hsq] at hlk
          have hsq16 : sq ≤ 16 := by rw [hsq]; have := List.count_le_length (a := i5) (l := seenq); have := HQA.out.slen; omega
          have hslq := HQA.out.slen
          have HY := Lib.hid (And.intro hgy (And.intro hky (And.intro hby (And.intro hoy (And.intro hkq (And.intro hplq (And.intro hpfq (And.intro hi5 hsq))))))))
          have hgly := hgy.lt
          have hbly := hby.lt
          clear hgy hky hcy hby hoy hkq hplq hpfq hi5 hsq HC5
          go_wp2_with (at_mapUpdate; refine wpList_kstore rfl (.tmp 46) (.tmp 47) (.tmp 49) rfl kint Tryz.underlying106 rfl HY.out.2.2.2.2.1 (by have := HY.out.2.2.2.2.2.1; simp only [maxLen]; omega) (kkey (z := i5) (by omega) (by omega)) rfl (.int .i64 ((sq : Int) + 1)) rfl ?_)
          intro wz hcz hkz
          have hcz' : Cnt wz th (i5 :: seenq) := by
            refine Cnt.up HY.out.2.2.2.2.2.1 HY.out.2.2.2.2.2.2.1 ?_
            rw [← HY.out.2.2.2.2.2.2.2.2]
            exact hcz
          have hbz := HY.out.2.2.1.keep hkz hhth
          have y2 := hbz.cell 2
          simp at y2
          have hblz := hbz.lt
          have hoz : wz.ownsRow wH.heap.size 3 1 v qs.length (ics qs) := own_keep HY.out.2.2.2.1 hkz fun i hi e => by
            obtain ⟨ps2, hk2, -, -⟩ := HQA.out.cn.ex
            exact kmap_ne_own hk2 (OwnAt.of_own HQA.out.row) (by rw [← e]; exact hi)
          have hq4b : q4.1 ≤ 15 := by omega
          have HZ := Lib.hid (And.intro hcz' (And.intro hkz (And.intro hbz hoz)))
          have hqlen : qs.length ≤ 15 := by have := HQA.out.qlen; omega
          have hbase : wH.heap.size ≤ wz.heap.size := by have := HQA.out.keep.size; have := HY.out.2.1.size; have := HZ.out.2.1.size; omega
          clear hcz hcz' hkz hbz hoz hlk
          go_wp2_with (at_builtin; refine wpList_app1 etInt2 rfl (.tmp 54) (.tmp 56) rfl (.int .i64 i5) _ rfl wH.heap.size _ qs.length (ics qs) rfl rfl HZ.out.2.2.2 (by omega) hbase ?_)
          intro v2 wu hou hku hnu
          have hvh : v.ownBlock ≠ some hb := own_ne_blk HZ.out.2.2.2 HZ.out.2.2.1 (by decide)
          have hvg : v.ownBlock ≠ some g := own_ne_blk HQA.out.row HQA.out.rd (by decide)
          have hvt : v.ownBlock ≠ some th := by obtain ⟨ps2, hk2, -, -⟩ := HQA.out.cn.ex; exact kmap_ne_own hk2 (OwnAt.of_own HQA.out.row)
          have hbu := HZ.out.2.2.1.keep hku hvh
          have hsz : th < wz.heap.size := HZ.out.1.lt
          obtain ⟨Au, cu, hv2, -⟩ := own_rd hou
          have u2 := hbu.cell 2
          simp at u2
          have uf := hbu.frozen 2
          have ul := hbu.lt
          have hgu := (HY.out.1.keep HZ.out.2.1 hgth).keep hku hvg
          have hcu := HZ.out.1.keep hku hvt
          have hv2h : v2.ownBlock ≠ some hb := by
            rcases hnu with e | ⟨b, hb2, hle⟩
            · rw [e]; exact hvh
            · rw [hb2]; intro e; injection e with e; have := HZ.out.2.2.1.lt; omega
          subst hv2
          have HU := Lib.hid (And.intro hou (And.intro hku (And.intro hbu (And.intro hgu (And.intro hcu (And.intro hnu hv2h))))))
          clear hou hku hnu hvh hvg hvt hbu hgu hcu hv2h y2
          go_upto_region 13 with (fail)
          obtain ⟨V2, hV2⟩ : ∃ V, V = Value.slice Au (qs.length + 1) cu := ⟨_, rfl⟩
          have hbt : Blk (wu.setCell ⟨hb, 2, none⟩ V2) hb 83 #[.int .i64 i2, .int .i64 i3, V2] := HU.out.2.2.1.set 2 V2
          have hkt : Keep (fun i => i ≠ hb) wu (wu.setCell ⟨hb, 2, none⟩ V2) := (Keep.refl _ wu).setCell (fun _ h => h rfl) _
          have hot : (wu.setCell ⟨hb, 2, none⟩ V2).ownsRow wH.heap.size 3 1 V2 (qs.length + 1) (ics qs ++ [.int .i64 i5]) := by
            have h1 := own_far HU.out.1 (p := ⟨hb, 2, none⟩) HU.out.2.2.2.2.2.2 V2
            rw [hV2] at h1 ⊢
            exact h1
          rw [← hV2]
          generalize hwt : World.setCell wu ⟨hb, 2, none⟩ V2 = wt at hbt hkt hot ⊢
          have hgt := HU.out.2.2.2.1.keep hkt hghb
          have hct := HU.out.2.2.2.2.1.keep hkt hhth.symm
          have hlk2 := hct.look (c := i5) (by omega) (by omega)
          rw [List.count_cons_self, ← HY.out.2.2.2.2.2.2.2.2] at hlk2
          have hgtl := hgt.lt
          have g2 := hgt.cell 2
          simp at g2
          have gf := hgt.frozen 2
          have hkGt : Keep (fun i => i ≠ g ∧ i ≠ hb ∧ i ≠ th) wH wt := (((HQA.out.keep.comp HY.out.2.1 (fun _ _ h => h) (fun _ _ h => h.1)).comp HZ.out.2.1 (fun _ _ h => h) (fun _ _ h => h.2.2)).comp HU.out.2.1 (fun _ _ h => h) (fun i hi h e => by
            have h1 := (own_lt HQA.out.row e).1
            omega)).comp hkt (fun _ _ h => h) (fun _ _ h => h.2.1)
          have HT := Lib.hid (And.intro hbt (And.intro hot (And.intro hgt (And.intro hct hkGt))))
          have hstep : Hid (∀ w2 bad2, Keep (fun i => i ≠ g) wt w2 → bad2 = (q5.2.2 || decide (i5 ∈ seenq)) → Rdr w2 g A n c q5.2.1 bad2 → Hid (∃ v pj badj qs seenq, RQAt bs RQ q4.1 (j + 1) i2 i3 g hb th wH.heap.size A n c wH w2 v pj badj qs seenq)) := Lib.hid fun w2 bad2 hk2 hb2 hg2 => by
            obtain ⟨hbt, hot, hgt, hct, hkGt⟩ := HT.out
            refine Lib.hid ⟨V2, _, _, _, _, rq_step HQA.out hjl HQ5.out HY.out.2.2.2.2.2.2.2.1 hm5 hb2 hg2 (by have := HB.out.2.2.2.2.1; omega) (hbt.keep hk2 hghb.symm) (own_keep hot hk2 fun i hi e => own_ne_blk hot hgt (by decide) (by rw [← e]; exact hi)) (hct.keep hk2 hgth.symm) (hkGt.comp hk2 (fun _ _ h => h) (fun _ _ h => h.1))⟩
          have hmem : (0 < sq) ↔ i5 ∈ seenq := by rw [HY.out.2.2.2.2.2.2.2.2]; exact List.count_pos_iff
          have HM := Lib.hid hmem
          clear hbt hot hgt hct hkGt hkt hmem hV2 u2 uf
          by_cases hdup : 0 < sq
          · have e1 : decide (1 < (sq : Int) + 1) = true := by simp; omega
            have hg3 : Rdr (wt.setCell ⟨g, 2, none⟩ (.bool true)) g A n c q5.2.1 true := HT.out.2.2.1.set 2 (.bool true)
            have HR3 := Lib.hid hg3
            clear hg3
            go_wp2_with fail
            exact ⟨⟨j + 1, by omega, by simp, hstep.out _ true ((Keep.refl _ wt).setCell (fun _ h => h rfl) _) (by simp [HM.out.1 hdup]) HR3.out⟩, by simp only [intOf]; omega⟩
          · have e1 : decide (1 < (sq : Int) + 1) = false := by simp; omega
            go_wp2_with fail
            exact ⟨⟨j + 1, by omega, by simp, hstep.out _ q5.2.2 (Keep.refl _ wt) (by have : i5 ∉ seenq := fun h => hdup (HM.out.2 h); simp [this]) HT.out.2.2.1⟩, by simp only [intOf]; omega⟩
        · obtain rfl : j = q4.1 := by omega
          have hkHx := HQA.out.keep
          have hkwx : Keep (fun j => j ≠ g ∧ j ≠ bl) w wx := (HG2.out.2.2.1.comp HH.out.2.1 (fun _ _ h => h) (fun _ _ h => h.1)).comp hkHx (fun _ _ h => h) (fun i hi h => ⟨h.1, by have := HD.out.2.2.2.2.2.2.2.2.2.2; have := HA.out.keep.size; omega, by have := HG.out.2.2.2; have := HD.out.2.1.lt; have := HE.out.2.size; have := HD.out.2.2.2.2.2.2.2.2.2.2; have := HA.out.keep.size; omega⟩)
          have hkEx : Keep (fun i => i ≠ g ∧ i ≠ hb ∧ i ≠ th) wE wx := (((HG.out.2.2.1.comp HG.out.2.1 (fun _ _ _ => trivial) (fun _ _ h => h.2.2)).comp HH.out.2.1 (fun _ _ h => h) (fun _ _ h => h.1))).comp hkHx (fun _ _ h => h) (fun _ _ h => h)
          have hct := HE.out.1.keep hkEx ⟨htbg, hhtb.symm, hthtb.symm⟩
          have hlk := hct.look (c := i3) (by omega) (by omega)
          rw [List.count_cons_self, HD.out.2.2.2.2.2.2.2.2.1, ← HD.out.2.2.2.2.2.2.1, ← HD.out.2.2.2.2.2.2.2.2.1] at hlk
          have x1 := hkwx.cellAt H0.out.1 ⟨hmg, hmb⟩
          have hmlx := lt_of_cell x1
          have y1 := HQA.out.blk.cell 1
          simp at y1
          have hbx := HQA.out.blk.lt
          have g2 := HQA.out.rd.cell 2
          simp at g2
          have gf := HQA.out.rd.frozen 2
          have hgx := HQA.out.rd.lt
          obtain ⟨msx, hlsr⟩ := HA.out.lk
          have hkrx : Keep (fun j => j ≠ g ∧ j ≠ tb) wr wx := (HG2.out.2.1.comp HH.out.2.1 (fun _ _ h => h) (fun _ _ h => h.1)).comp hkHx (fun _ _ h => h) (fun i hi h => ⟨h.1, by have := HD.out.2.2.2.2.2.2.2.2.2.2; omega, by have := HG.out.2.2.2; have := HD.out.2.1.lt; have := HE.out.2.size; have := HD.out.2.2.2.2.2.2.2.2.2.2; omega⟩)
          have hmx : MapIs Tryz.prog 9 wx bl (msx.map LkM.kv) := hlsr.map.keep hkrx (HS.out.2.1 _ hlsr.sb)
          have hmlen : (msx.map LkM.kv).length ≤ 8 := by rw [hlsr.len]; have := HA.out.len; omega
          have hhbl : hb ≠ bl := by have := HD.out.2.2.2.2.2.2.2.2.2.2; have := HA.out.keep.size; omega
          have hrd : rdLock bs tok pk badk = (⟨q1.1, i2, i3, qs⟩, pj, badj) := by
            have e := HQA.out.eq
            rw [Nat.sub_self] at e
            have e' : RQ = (qs, pj, badj) := by rw [e]; simp [runF]
            have e2 := HG2.out.2.2.2.2.1
            rw [e'] at e2
            unfold rdLock
            simp only [← HQ1.out, ← HQ.out.1, ← HQ.out.2.1, ← e2, ← HD.out.2.2.2.2.2.2.2.1, ← HD.out.2.2.2.2.2.2.2.2.1]
          have HFin : Hid (∀ w2 w3 bad2, Keep (fun i => i ≠ g) wx w2 → Rdr w2 g A n c pj bad2 → bad2 = (badj || !lchk (last, seen) ⟨q1.1, i2, i3, qs⟩) → MapIs Tryz.prog 9 w3 bl (mput q1.1 (.pointer (some ⟨hb, 0, none⟩)) (msx.map LkM.kv)) → Keep (fun i => i ≠ bl) w2 w3 →
              Hid (∃ pk badk pre ls seen, RLAt bs tok R cnt (k + 1) q1.1 S g bl tb A n c w w3 pk badk pre ls seen)) := Lib.hid fun w2 w3 bad2 hk2 hg2 hb2 hm3 hk3 => by
            have hz1 := HD.out.2.2.2.2.2.2.2.2.2.2
            have hz2 := HA.out.keep.size
            have hz3 := HG2.out.2.1.size
            have hz4 := HH.out.2.1.size
            have htbw := HS.out.2.2
            have htl := HA.out.tk.lt
            have hk23 : Keep (fun j => j ≠ g ∧ j ≠ bl) wx w3 := hk2.comp hk3 (fun _ _ h => h.1) (fun _ _ h => h.2)
            have hkr3 : Keep (fun j => j ≠ g ∧ j ≠ tb ∧ j ≠ bl) wr w3 := hkrx.comp hk23 (fun _ _ h => ⟨h.1, h.2.1⟩) (fun _ _ h => ⟨h.1, h.2.2⟩)
            have hvlo : ∀ k, v.ownBlock = some k → wH.heap.size ≤ k := fun k hk => (own_lt HQA.out.row hk).1
            have hb3 := HQA.out.blk.keep hk23 ⟨hghb.symm, hhbl⟩
            have hr3 := own_keep HQA.out.row hk23 fun i hi => by have := hvlo i hi; exact ⟨by omega, by omega⟩
            have hlk3 : LkIs S w3 ⟨⟨q1.1, i2, i3, qs⟩, hb, v⟩ := ⟨hb3, (OwnAt.of_own hr3).lower (Nat.zero_le _), by rw [HS.out.1]; exact .inr ⟨show w.heap.size ≤ hb by omega, hhtb⟩, fun i hi => by rw [HS.out.1]; have := hvlo i hi; exact .inr ⟨show w.heap.size ≤ i by omega, show i ≠ tb by omega⟩⟩
            have hput := Lks.put hlsr HA.out.rise ⟨⟨q1.1, i2, i3, qs⟩, hb, v⟩ hm3 hkr3 (fun j hj hne => ⟨(HS.out.2.1 j hj).1, (HS.out.2.1 j hj).2, hne⟩) hlk3 (fun _ h => h) hz1 (fun i hi => by have := hvlo i hi; omega)
            refine Lib.hid ⟨_, _, _, _, _, rl_step HA.out hlt ⟨q1.1, i2, i3, qs⟩ hrd hb2 (hg2.keep hk3 (fun e => hbg e.symm)) HQA.out.pn hput (hct.keep hk23 ⟨htbg, by omega⟩) ⟨by simp only; omega, HQA.out.safe⟩ (by simp only; have := HQA.out.qlen; omega) (hkwx.comp hk23 (fun _ _ h => h) (fun _ _ h => h))⟩
          have HMX := Lib.hid (And.intro hmx hmlen)
          have hsc : (0 < sc) ↔ i3 ∈ seen := by
            rw [HD.out.2.2.2.2.2.2.1, ← HD.out.2.2.2.2.2.2.2.2.1]
            exact List.count_pos_iff
          have HSC := Lib.hid hsc
          have HGX := Lib.hid HQA.out.rd
          have hks : Keep (fun j => j ≠ g) wx (wx.setCell ⟨g, 2, none⟩ (.bool true)) := (Keep.refl _ wx).setCell (fun _ h => h rfl) _
          have HKS := Lib.hid hks
          have hgs : Rdr (wx.setCell ⟨g, 2, none⟩ (.bool true)) g A n c pj true := HQA.out.rd.set 2 (.bool true)
          have HGS := Lib.hid hgs
          have xs1 := hks.cellAt x1 hmg
          have xs2 := lt_of_cell xs1
          clear hkHx hkwx hkEx hct hlsr hkrx hmx hmlen hrd hsc hks hgs xs1 xs2
          by_cases hbad : bytesBefore last q1.1 = true ∧ i3 ≠ 0 ∧ ¬ 0 < sc
          · obtain ⟨hA, hB0, hC0⟩ := hbad
            have hc0 : Op.bytesLess q1.1 last = false := by rw [less_before]; exact before_asymm hA
            have hc1 : (q1.1 == last) = false := by have := before_ne hA; simp; exact fun e => this e.symm
            have hc2 : (i3 == 0) = false := by simpa using hB0
            have hc3 : decide (1 < (sc : Int) + 1) = false := by simp; omega
            have HCH := Lib.hid (show lchk (last, seen) ⟨q1.1, i2, i3, qs⟩ = true by
              unfold lchk
              have : i3 ∉ seen := fun h => hC0 (HSC.out.2 h)
              simp [hA, hB0, this])
            clear hA hB0 hC0
            go_wp2_with (at_mapUpdate; refine wpList_mstore rfl (.tmp 93) (.tmp 94) (.tmp 95) rfl Tryz.underlying9 Tryz.underlying52 rfl HMX.out.1 (by have := HMX.out.2; simp only [maxLen]; omega) (l := q1.1) (by simp only [maxLen]; omega) rfl (.pointer (some ⟨hb, 0, none⟩)) rfl ?_)
            intro w3 hm3 hk3
            have H3 := Lib.hid (HFin.out wx w3 badj (Keep.refl _ _) HGX.out (by rw [HCH.out]; simp) hm3 hk3)
            clear hm3 hk3
            go_wp2_with fail
            exact ⟨⟨k + 1, q1.1, by omega, by simp, rfl, H3.out⟩, by simp only [intOf]; omega⟩
          · have HCH : Hid (lchk (last, seen) ⟨q1.1, i2, i3, qs⟩ = false) := Lib.hid (by
              rcases hh : lchk (last, seen) ⟨q1.1, i2, i3, qs⟩ with _ | _
              · rfl
              · exfalso
                refine hbad ?_
                unfold lchk at hh
                simp at hh
                exact ⟨hh.1.1, hh.1.2, fun h => hh.2 (HSC.out.1 h)⟩)
            have hcase : (Op.bytesLess q1.1 last = true ∨ (q1.1 == last) = true) ∨ ((Op.bytesLess q1.1 last = false ∧ (q1.1 == last) = false) ∧ ((i3 == 0) = true ∨ ((i3 == 0) = false ∧ decide (1 < (sc : Int) + 1) = true))) := by
              by_cases hA : bytesBefore last q1.1 = true
              · right
                refine ⟨⟨by rw [less_before]; exact before_asymm hA, by have := before_ne hA; simp; exact fun e => this e.symm⟩, ?_⟩
                by_cases hB0 : i3 = 0
                · exact .inl (by simpa using hB0)
                · right
                  refine ⟨by simpa using hB0, ?_⟩
                  have : 0 < sc := Classical.byContradiction fun h => hbad ⟨hA, hB0, h⟩
                  simp
                  omega
              · left
                rw [less_before]
                by_cases he : q1.1 = last
                · exact .inr (by simpa using he)
                · exact .inl (before_not (by simpa using hA) (fun e => he e.symm))
            clear hbad
            rcases hcase with (hc0 | hc0) | ⟨⟨hc0, hc1⟩, hc2 | ⟨hc2, hc3⟩⟩
            all_goals
              go_wp2_with (at_mapUpdate; refine wpList_mstore rfl (.tmp 93) (.tmp 94) (.tmp 95) rfl Tryz.underlying9 Tryz.underlying52 rfl (HMX.out.1.keep HKS.out hbg) (by have := HMX.out.2; simp only [maxLen]; omega) (l := q1.1) (by simp only [maxLen]; omega) rfl (.pointer (some ⟨hb, 0, none⟩)) rfl ?_)
              intro w3 hm3 hk3
              have H3 := Lib.hid (HFin.out _ w3 true HKS.out HGS.out (by rw [HCH.out]; simp) hm3 hk3)
              clear hm3 hk3
              go_wp2_with fail
              exact ⟨⟨k + 1, q1.1, by omega, by simp, rfl, H3.out⟩, by simp only [intOf]; omega⟩
    · obtain rfl : k = cnt := by omega
      go_wp2_with fail
      go_end0
      have hat := HA.out
      have e := hat.eq
      rw [Nat.sub_self] at e
      have e' : R = (pre, pk, badk) := by rw [e]; simp [runF]
      obtain ⟨ms, hl⟩ := hat.lk
      refine ⟨rfl, ⟨S, ms, ls, hl, fun j hj => ?_, hat.rise, by have := hat.len; omega, hat.safe, hat.qlen, fun hf => ?_⟩, by rw [e']; exact hat.rd, by rw [e']; exact hat.pn, hat.keep⟩
      · rw [HS.out.1] at hj
        exact hj.imp id fun h => h.1
      · rw [e'] at hf ⊢
        exact (hat.ok hf).1
end Go.Proofs.YtggibajakcigaaaGreatDoor
namespace Go.Proofs.YtggibajakcigaaaGreatDoor
set_option linter.unusedVariables false
set_option linter.unusedSimpArgs false
open Go.RowKit

def rdSes (bs : Txt) (p : Nat) (bad : Bool) : (Nat × SesD) × Nat × Bool :=
  let q := rCount bs p bad 15
  let i := rCount bs q.2.1 q.2.2 4611686018427387904
  let r := rCount bs i.2.1 i.2.2 4611686018427387904
  let c := rCount bs r.2.1 r.2.2 11
  let v := rText bs c.2.1 c.2.2 8
  let n := rCount bs v.2.1 v.2.2 99999999
  ((q.1, ⟨(i.1 : Int), (r.1 : Int), ⟨(c.1 : Int), v.1, (n.1 : Int)⟩⟩), n.2)
def schk (last : Int) (x : Nat × SesD) : Bool := decide (last < (x.1 : Int)) && !decide (x.2.inc = 0) && !decide (x.2.req = 0) && !decide (x.2.last.code = 0) && !decide (x.2.last.code = 10)
def snxt (last : Int) (x : Nat × SesD) : Int := (x.1 : Int)
abbrev rSess1 (bs : Txt) (p : Nat) (bad : Bool) : List (Nat × SesD) × Nat × Bool := runF (rdSes bs) schk snxt (rCount bs p bad 16).1 (rCount bs p bad 16).2.1 (rCount bs p bad 16).2.2 (-1)
theorem rdSes_stick {bs : Txt} {p : Nat} {bad : Bool} (h : (rdSes bs p bad).2.2 = false) : bad = false :=
  rCount_stick (rCount_stick (rCount_stick (rCount_stick (rText_stick (rCount_stick h)))))
/-- Each into its place. -/
def ssPut (l : List (Nat × SesD)) (ss : List SesD) : List SesD := l.foldl (fun ss x => ss.set x.1 x.2) ss
theorem ssPut_snoc (l : List (Nat × SesD)) (x : Nat × SesD) (ss : List SesD) : ssPut (l ++ [x]) ss = (ssPut l ss).set x.1 x.2 := by simp [ssPut]
theorem ssPut_len (l : List (Nat × SesD)) : ∀ ss : List SesD, (ssPut l ss).length = ss.length := by
  induction l with
  | nil => intro ss; rfl
  | cons x r ih => intro ss; show (ssPut r (ss.set x.1 x.2)).length = _; rw [ih]; simp
theorem ssPut_get : ∀ (l : List (Nat × SesD)) (ss : List SesD) (q : Nat), l.Pairwise (fun a b => a.1 < b.1) → q < ss.length →
    (ssPut l ss)[q]? = some (((l.find? fun x => x.1 == q).map (·.2)).getD (ss.getD q noSes))
  | [], ss, q, _, hq => by simp [ssPut, List.getD_eq_getElem?_getD, List.getElem?_eq_getElem hq]
  | x :: r, ss, q, hu, hq => by
    obtain ⟨h1, h2⟩ := List.pairwise_cons.1 hu
    have ih := ssPut_get r (ss.set x.1 x.2) q h2 (by simpa using hq)
    show (ssPut r (ss.set x.1 x.2))[q]? = _
    rw [ih]
    by_cases he : x.1 = q
    · have hn : r.find? (fun y => y.1 == q) = none := by
        rw [List.find?_eq_none]
        intro y hy
        have := h1 y hy
        simp
        omega
      rw [hn, List.find?_cons_of_pos (by simpa using he)]
      subst he
      simp [List.getD_eq_getElem?_getD, hq]
    · rw [List.find?_cons_of_neg (by simpa using he)]
      congr 2
      simp [List.getD_eq_getElem?_getD, List.getElem?_set_ne he]
theorem ssPut_all {l : List (Nat × SesD)} (hu : l.Pairwise fun a b => a.1 < b.1) : ssPut l (List.replicate 16 noSes) = (List.range 16).map (sesAt l) := by
  refine List.ext_getElem? fun q => ?_
  by_cases hq : q < 16
  · rw [ssPut_get l _ q hu (by simpa using hq)]
    have e : ∀ n : Nat, (List.replicate n noSes).getD q noSes = noSes := fun n => by
      rw [List.getD_eq_getElem?_getD, List.getElem?_replicate]
      split <;> rfl
    rw [e 16]
    simp [hq, sesAt]
  · rw [List.getElem?_eq_none (by rw [ssPut_len]; simp; omega), List.getElem?_eq_none (by simp; omega)]
/-- The second loop: does everybody who holds or waits have a session? -/
def sesMiss (ls : List LockD) (ss : List SesD) : Bool := ls.any fun l => (l.holder :: l.queue).any fun c => decide ((ss.getD c.toNat noSes).inc = 0)
end Go.Proofs.YtggibajakcigaaaGreatDoor
