/-
  MERGED: RepT
-/
import Derived.Test.YtioinjcdkmiafaaDoorYB2
import Derived.Test.YtioinjcdkmiafaaDoorYC7
import Derived.Test.YtioinjcdkmiafaaDoorYD0
import Derived.Test.YtioinjcdkmiafaaDoorYD8
import Derived.Deep.DeepCutAuto
import Derived.Deep.CutBlock
import Derived.Deep.QuietTactic
import Derived.BigQuiet
import Derived.IntWalk
namespace Go.Proofs.YtioinjcdkmiafaaDoor
set_option linter.unusedVariables false
set_option linter.unusedSimpArgs false
open Go.RowKit

def docC (bs : Txt) : Nat → Nat × Nat × Int
  | 0 => (0, 0, 0)
  | k + 1 => nNum bs (docC bs k).2.1 (docC bs k).2.2 0 mxC
def docV (bs : Txt) (k : Nat) : List Int := (List.range k).map fun j => ((docC bs (j + 1)).1 : Int)
theorem docV_succ (bs : Txt) (k : Nat) : docV bs (k + 1) = docV bs k ++ [((docC bs (k + 1)).1 : Int)] := by
  unfold docV
  rw [List.range_succ, List.map_append]
  rfl
theorem docC_le (bs : Txt) : ∀ k, (docC bs k).2.1 ≤ bs.length
  | 0 => Nat.zero_le _
  | k + 1 => nNum_le bs _ _ _ _ (docC_le bs k)
/-- The reader, and what is kept. -/
structure TkI (w : World) (g : Nat) (A : Option Addr) (n c : Nat) (u : World) (p : Nat) (e : Int) : Prop where
  rd : RRd u g A n c p e
  le : p ≤ n
  fr : Fresh w u
theorem TkI.next {w : World} {g : Nat} {A : Option Addr} {n c : Nat} {u u' : World} {p p' : Nat} {e e' : Int} (h : TkI w g A n c u p e) (hr : RRd u' g A n c p' e') (hp : p' ≤ n) (hk : Keep (fun k => k ≠ g) u u') (hg : w.heap.size ≤ g) : TkI w g A n c u' p' e' :=
  ⟨hr, hp, fresh_of h.fr hk hg⟩
theorem rdec_sum {l : List UInt8} {w : World} {args : Array Value} (h : Calls Tryd.prog 18 args w fun e w' => DecPost l w e w') :
    Calls Tryd.prog 18 args w fun e w' => (∃ (a1 a2 a3 a4 : Int) (t1 t2 t3 : List UInt8) (ze : Int), e = .returned (.tuple #[cmdV a1 a2 a3 a4 t1 t2 t3, .int .i64 ze]) ∧ (ze != 0) = !decOk l) ∧ Fresh w w' := by
  refine h.mono ?_
  rintro e w' ⟨he, hf⟩
  refine ⟨?_, hf⟩
  by_cases hd : decOk l = true
  · rw [if_pos hd] at he
    exact ⟨_, _, _, _, _, _, _, 0, he, by rw [hd]; rfl⟩
  · rw [if_neg hd] at he
    rw [Bool.not_eq_true] at hd
    exact ⟨_, _, _, _, _, _, _, 130, he, by rw [hd]; rfl⟩
theorem own_ne_low {w : World} {base e size n : Nat} {v : Value} {xs : List Value} (h : w.ownsRow base e size v n xs) {j : Nat} (hj : j < base) : v.ownBlock ≠ some j := fun e => by have := (own_lt h e).1; omega
theorem nByt_len (bs : Txt) (p : Nat) (e hi : Int) : (nByt bs p e hi).1.length ≤ bs.length := by
  unfold nByt
  split
  · exact Nat.zero_le _
  · split
    · exact Nat.zero_le _
    · simp only [List.length_take, List.length_drop]
      omega
/-- An owned row reads below the heap's end, apart from a lower block. -/
theorem own_rdS {w : World} {base e size n c g : Nat} {A : Option Addr} {xs : List Value} (h : w.ownsRow base e size (.slice A n c) n xs) (hg : g < base) : Rd w (fun j => j ≠ g ∧ j < w.heap.size) size A n xs := by
  obtain ⟨A', c', hv, hr, -⟩ := own_rd h
  injection hv with h1 h2 h3
  subst h1 h3
  exact hr.weaken fun j hj => ⟨by have := (own_lt h hj).1; omega, (own_lt h hj).2⟩
/-- The entries read so far. -/
structure TkL (w : World) (g : Nat) (A : Option Addr) (n c : Nat) (w5 : World) (bs : Txt) (k5 p5 : Nat) (e5 : Int) (tv : Value) (i : Nat) (q : Nat) (e : Int) (u : World) : Prop where
  it : TkI w g A n c u q e
  own : ∃ ys, u.ownsRow w5.heap.size 57 7 tv i ys
  kp : Keep (fun j => j ≠ g) w5 u
  dl : docLoop bs (k5 - i) q e i = docLoop bs k5 p5 e5 0
/-- .. between two rounds. -/
structure TkM (w : World) (g : Nat) (A : Option Addr) (n c : Nat) (w5 : World) (tv : Value) (i : Nat) (q : Nat) (e : Int) (u : World) : Prop where
  it : TkI w g A n c u q e
  own : ∃ ys, u.ownsRow w5.heap.size 57 7 tv i ys
  kp : Keep (fun j => j ≠ g) w5 u
theorem TkL.m {w : World} {g : Nat} {A : Option Addr} {n c : Nat} {w5 : World} {bs : Txt} {k5 p5 : Nat} {e5 : Int} {tv : Value} {i q : Nat} {e : Int} {u : World} (h : TkL w g A n c w5 bs k5 p5 e5 tv i q e u) : TkM w g A n c w5 tv i q e u := ⟨h.it, h.own, h.kp⟩
theorem TkM.next {w : World} {g : Nat} {A : Option Addr} {n c : Nat} {w5 : World} {tv : Value} {i q : Nat} {e : Int} {u u' : World} {p' : Nat} {e' : Int} (h : TkM w g A n c w5 tv i q e u) (hr : RRd u' g A n c p' e') (hp : p' ≤ n) (hk : Keep (fun k => k ≠ g) u u') (hg : w.heap.size ≤ g) (hg5 : g < w5.heap.size) : TkM w g A n c w5 tv i p' e' u' :=
  ⟨h.it.next hr hp hk hg, by
    obtain ⟨ys, ho⟩ := h.own
    exact ⟨ys, own_keep ho hk fun j hj e => by have := (own_lt ho hj).1; omega⟩, h.kp.trans hk⟩
theorem TkM.keep {w : World} {g : Nat} {A : Option Addr} {n c : Nat} {w5 : World} {tv : Value} {i q : Nat} {e : Int} {u u' : World} (h : TkM w g A n c w5 tv i q e u) (hf : Fresh u u') (hg : w.heap.size ≤ g) (hg5 : g < w5.heap.size) : TkM w g A n c w5 tv i q e u' :=
  h.next (Blk.keep h.it.rd hf trivial) h.it.le (hf.weaken fun _ _ _ => trivial) hg hg5
theorem tk_txt {bs l' : Txt} {q q' n : Nat} {e' : Int} (h : (l', q', e') = nByt bs q 0 (n : Int)) (hl : bs.length = n) (hq : q ≤ n) : q' ≤ n ∧ l'.length ≤ n := by
  have h1 := nByt_le bs q 0 (n : Int) (by omega)
  have h2 := nByt_len bs q 0 (n : Int)
  rw [← h] at h1 h2
  exact ⟨by rw [← hl]; exact h1, by rw [← hl]; exact h2⟩
theorem docLoop_one {bs l' : Txt} {k i q q' n : Nat} {e' : Int} (h : (l', q', e') = nByt bs q 0 (n : Int)) (hl : bs.length = n) (hi : i < k) : docLoop bs (k - i) q 0 i = if decOk l' = true then docLoop bs (k - (i + 1)) q' e' (i + 1) else none := by
  obtain ⟨m, hm⟩ : ∃ m, k - i = m + 1 := ⟨k - i - 1, by omega⟩
  rw [hm, show k - (i + 1) = m by omega]
  conv => lhs; unfold docLoop
  rw [hl, ← h, if_neg (by simp)]
/-- An entry more. -/
theorem tk_step {w : World} {g : Nat} {A : Option Addr} {n c : Nat} {w5 : World} {bs l' : Txt} {k5 p5 : Nat} {e5 : Int} {tv v' : Value} {i q q' : Nat} {e' : Int} {u u' : World} {ys zs : List Value} (h : TkM w g A n c w5 tv i q' e' u) (ho : u.ownsRow w5.heap.size 57 7 tv i ys) (ho' : u'.ownsRow w5.heap.size 57 7 v' (i + 1) zs) (hk : Keep (fun j => tv.ownBlock ≠ some j) u u') (hg : w.heap.size ≤ g) (hg5 : g < w5.heap.size) (hl : bs.length = n) (ht : (l', q', e') = nByt bs q 0 (n : Int)) (hi : i < k5) (hd : docLoop bs (k5 - i) q 0 i = docLoop bs k5 p5 e5 0) (hz : ((0 : Int) != 0) = !decOk l') : TkL w g A n c w5 bs k5 p5 e5 v' (i + 1) q' e' u' := by
  have hne : ∀ j, j < w5.heap.size → tv.ownBlock ≠ some j := fun j hj => own_ne_low ho hj
  have hk5 : Keep (fun j => j < w5.heap.size) u u' := hk.weaken fun j _ hj => hne j hj
  refine ⟨⟨Blk.keep h.it.rd hk (hne g hg5), h.it.le, h.it.fr.comp hk (fun _ _ h => h) (fun j hj _ => hne j (by omega))⟩, ⟨zs, ho'⟩, h.kp.comp hk (fun _ _ h => h) (fun j hj _ => hne j hj), ?_⟩
  rw [← hd, docLoop_one ht hl hi, if_pos (by simpa using hz)]
theorem tk_none {bs l' : Txt} {k5 p5 i q q' n : Nat} {e5 e' : Int} (hd : docLoop bs (k5 - i) q 0 i = docLoop bs k5 p5 e5 0) (hl : bs.length = n) (ht : (l', q', e') = nByt bs q 0 (n : Int)) (hi : i < k5) (hz : (!decOk l') = true) : docLoop bs k5 p5 e5 0 = none := by
  rw [← hd, docLoop_one ht hl hi, if_neg (by simpa using hz)]
theorem tk_stop {bs : Txt} {k5 p5 i q : Nat} {e5 e : Int} (hd : docLoop bs (k5 - i) q e i = docLoop bs k5 p5 e5 0) (h : i = k5 ∨ e ≠ 0) : docLoop bs k5 p5 e5 0 = some (i, q, e) := by
  rw [← hd]
  rcases h with rfl | h
  · rw [Nat.sub_self]
    rfl
  · exact docLoop_bad bs _ _ _ h _
/-- What TakeState answers. -/
def TkPost (bs : Txt) (w : World) (e : Ending) (w' : World) : Prop :=
  (∃ A1 n1 c1 v2 v3 ok, e = .returned (.tuple #[.slice A1 n1 c1, v2, v3, .bool ok]) ∧ ok = docOk bs ∧ (ok = true → n1 = 3 ∧ n1 ≤ c1 ∧ Rd w' (fun _ => True) 1 A1 3 (ics [((doc1 bs).1 : Int), ((doc2 bs).1 : Int), ((doc3 bs).1 : Int)]))) ∧ Fresh w w'
theorem docOk_none (bs : Txt) (h : docLoop bs (doc5 bs).1 (doc5 bs).2.1 (doc5 bs).2.2 0 = none) : docOk bs = false := by
  unfold docOk
  rw [h]
theorem docOk_some (bs : Txt) {k p : Nat} {e : Int} (h : docLoop bs (doc5 bs).1 (doc5 bs).2.1 (doc5 bs).2.2 0 = some (k, p, e)) : docOk bs = (decide (e = 0) && (decide (p = bs.length) && (shotB (doc4 bs).1 && decide (((doc3 bs).1 : Int) ≤ mxC - (k : Int))))) := by
  unfold docOk
  rw [h]
theorem results_tmp4 {fn : Func} {t u v x : Tmp} (h : fn.results = #[.tmp t, .tmp u, .tmp v, .tmp x]) (tmps : Array Value) (P : Program) (w : World) :
    (results fn tmps).run P w = .ok (.tuple #[tmps.getD t undef, tmps.getD u undef, tmps.getD v undef, tmps.getD x undef]) w := by
  simp [results, h]
theorem drest_sum {l : Txt} {w w' : World} {e : Ending} (h : DRestPost l w e w') : Fresh w w' ∧ ∃ (mv : Value) (ze : Int), e = .returned (.tuple #[mv, .int .i64 ze]) ∧ (ze == 0) = shotB l := by
  refine ⟨h.1, ?_⟩
  rcases h.2 with ⟨s, d, pv, hv, hs, hr, rfl, -⟩ | ⟨hno, rfl⟩
  · exact ⟨_, _, rfl, by rw [shot_yes ⟨s, hr⟩]; rfl⟩
  · exact ⟨_, _, rfl, by rw [shot_no fun ⟨s, h⟩ => hno s h]; rfl⟩
/-- What the state is, told at the end. -/
theorem tk_end {bs l4 : Txt} {k5 p5 p4 i q n : Nat} {e4 e5 e er : Int} (hl : bs.length = n) (h4 : (l4, p4, e4) = doc4 bs) (h5 : (k5, p5, e5) = doc5 bs) (hd : docLoop bs k5 p5 e5 0 = some (i, q, e)) (he : er = if e = 0 ∧ q ≠ n then 15 else e) : docOk bs = (decide (er = 0) && (shotB l4 && decide (((doc3 bs).1 : Int) ≤ mxC - (i : Int)))) := by
  rw [docOk_some bs (by rw [← h5]; exact hd), ← h4, hl, he]
  by_cases h1 : e = 0
  · by_cases h2 : q = n
    · simp [h1, h2]
    · simp [h1, h2]
  · simp [h1]
set_option maxRecDepth 20000 in
set_option maxHeartbeats 4000000 in
theorem take_any (A : Option Addr) (n c : Nat) (bs : Txt) (w : World) (hb : Rd w (fun _ => True) 1 A n (Lib.byteCells bs)) (hnc : n ≤ c) (hnil : n = 0 → c = 0 ∨ A ≠ none) (hn : n ≤ 1048576) :
    Calls Tryd.prog 10 #[.slice A n c, .int .i64 3] w fun e w' => TkPost bs w e w' := by
  have hlen : bs.length = n := by simpa [Lib.byteCells] using hb.1
  obtain ⟨w1, hw1⟩ : ∃ w1, w1 = w.alloc (.cells #[.slice A n c, .int .i64 0, .int .i64 0] 53) := ⟨_, rfl⟩
  obtain ⟨g, hg⟩ : ∃ b, b = w.heap.size := ⟨_, rfl⟩
  have h1 : TkI w g A n c w1 0 0 := ⟨by rw [hw1, hg]; exact Blk.new _ _ _, Nat.zero_le _, by rw [hw1]; exact (Keep.refl _ w).alloc _⟩
  have hgl : w.heap.size ≤ g := by omega
  have hbZ : ∀ u, Fresh w u → Rd u (fun k => k ≠ g) 1 A n (Lib.byteCells bs) := fun u hu => (((hb.old (by decide)).keep (hu.weaken fun _ _ _ => trivial)).weaken fun k hk e => by have h' : k < w.heap.size := hk; omega)
  have HNum := Lib.hid (fun (u : World) (p : Nat) (e hi : Int) (h : TkI w g A n c u p e) => readNum_any g (fun k => k ≠ g) A n c bs p e 0 hi u h.rd h.le (hbZ u h.fr) (by omega))
  have HByt := Lib.hid (fun (u : World) (p : Nat) (e : Int) (h : TkI w g A n c u p e) => readByt_any g (fun k => k ≠ g) A n c bs p e (n : Int) u h.rd (fun _ h => h) h.le hnc hnil (hbZ u h.fr) (by omega) (by omega) (by omega))
  have HEn := Lib.hid (fun (u : World) (p : Nat) (e : Int) (h : TkI w g A n c u p e) => readEnd_any g A n c p e u h.rd)
  have H1 := Lib.hid h1
  have HG := Lib.hid hgl
  have HLen := Lib.hid hlen
  clear hb h1 hgl hlen hbZ
  go_enter Tryd.func10, Tryd.ntmps10
  go_upto_region 2 with (fail)
  rw [← hg]
  generalize hwx : World.alloc w _ = wx
  obtain rfl : w1 = wx := hw1.trans hwx
  clear hwx hw1 hg
  go_wp2_with fail
  go_loopw [9, 10] (fun cv iv wr => ∃ k : Nat, k ≤ 3 ∧ iv = .int .i64 (k : Int) ∧ Hid (TkI w g A n c wr (docC bs k).2.1 (docC bs k).2.2 ∧ wr.ownsRow w1.heap.size 3 1 cv k (ics (docV bs k)) ∧ w1.heap.size ≤ wr.heap.size ∧ g < w1.heap.size)) (fun _ i _ => 3 - (intOf i).toNat)
  case atStart => exact ⟨0, by omega, rfl, Lib.hid ⟨H1.out, World.ownsRow_nil _ _ _ _, Nat.le_refl _, H1.out.rd.lt⟩⟩
  case round =>
    rename World => wr
    obtain ⟨k, hk, rfl, HW⟩ := hrel
    by_cases hlt : k < 3
    · have HC := Lib.hid (HNum.out wr _ _ mxC HW.out.1)
      obtain ⟨r, hr⟩ : ∃ r, r = nNum bs (docC bs k).2.1 (docC bs k).2.2 0 mxC := ⟨_, rfl⟩
      have hd : docC bs (k + 1) = r := hr.symm
      have hle := docC_le bs (k + 1)
      rw [hd, HLen.out] at hle
      rw [← hr] at HC
      have HV := Lib.hid (And.intro hd (docV_succ bs k))
      have hki : (k : Int) < 3 := by omega
      clear hr hd
      go_wp2_with fail
      refine HC.out.mono ?_
      rintro e w2 ⟨rfl, hp2, hk2⟩
      have ho2 := own_keep HW.out.2.1 hk2 (fun j hj e => by have h1 := (own_lt HW.out.2.1 hj).1; have h2 := HW.out.2.2.2; omega)
      have H2 := Lib.hid (And.intro (HW.out.1.next hp2 hle hk2 HG.out) (And.intro ho2 (Nat.le_trans HW.out.2.2.1 hk2.size)))
      clear hp2 hk2 ho2 HC
      go_wp2_with (at_builtin; refine wpList_app1 etInt2 rfl (.tmp 32) (.tmp 34) rfl (.int .i64 (r.1 : Int)) _ rfl w1.heap.size _ k _ rfl rfl H2.out.2.1 (by omega) H2.out.2.2 ?_)
      intro v3 w3 ho3 hk3 hn3
      have hne := fun j (hj : j < w1.heap.size) => own_ne_low H2.out.2.1 hj
      have h3 : TkI w g A n c w3 r.2.1 r.2.2 := ⟨Blk.keep H2.out.1.rd hk3 (hne g HW.out.2.2.2), H2.out.1.le, H2.out.1.fr.comp hk3 (fun _ _ h => h) (fun j hj _ => hne j (Nat.lt_of_lt_of_le hj H1.out.fr.size))⟩
      have HN := Lib.hid (And.intro h3 (And.intro ho3 (Nat.le_trans H2.out.2.2 hk3.size)))
      clear hne h3 ho3 hk3 hn3 H2
      go_wp2_with fail
      refine ⟨⟨k + 1, by omega, by simp, Lib.hid ⟨by rw [HV.out.1]; exact HN.out.1, ?_, HN.out.2.2, HW.out.2.2.2⟩⟩, by simp [intOf]; omega⟩
      rw [HV.out.2, HV.out.1]
      have := HN.out.2.1
      simpa [ics] using this
    · obtain rfl : k = 3 := by omega
      have hC3 : docC bs 3 = doc3 bs := rfl
      have hV3 : docV bs 3 = [((doc1 bs).1 : Int), ((doc2 bs).1 : Int), ((doc3 bs).1 : Int)] := rfl
      have hw := HW.out
      rw [hC3, hV3] at hw
      obtain ⟨A9, c9, rfl, hr9, -⟩ := own_rd hw.2.1
      have HW3 := Lib.hid hw
      have HC := Lib.hid (HByt.out wr _ _ hw.1)
      obtain ⟨⟨l4, p4, e4⟩, hd4⟩ : ∃ r, r = doc4 bs := ⟨_, rfl⟩
      have he4 : nByt bs (doc3 bs).2.1 (doc3 bs).2.2 (n : Int) = (l4, p4, e4) := by
        rw [hd4, ← HLen.out]
        rfl
      rw [he4] at HC
      have hp4 : p4 ≤ n := by
        have h := nByt_le bs (doc3 bs).2.1 (doc3 bs).2.2 (n : Int) (by rw [HLen.out]; exact hw.1.le)
        rw [he4, HLen.out] at h
        exact h
      have hl4 : l4.length ≤ 1048576 := by
        have h : (nByt bs (doc3 bs).2.1 (doc3 bs).2.2 (n : Int)).1.length ≤ bs.length := nByt_len bs _ _ _
        rw [he4, HLen.out] at h
        have h2 : l4.length ≤ n := h
        omega
      have H4d := Lib.hid hd4
      clear hC3 hV3 hw hr9 hd4 he4 HW hlt hk
      go_wp2_with fail
      refine HC.out.mono ?_
      rintro e w4 ⟨⟨v4, rfl, ho4⟩, hr4, hk4⟩
      obtain ⟨A4, c4, rfl, hrd4, -⟩ := own_rd ho4
      have h4 := HW3.out.1.next hr4 hp4 hk4 HG.out
      have H4 := Lib.hid (And.intro h4 (And.intro ho4 (And.intro (own_keep HW3.out.2.1 hk4 (fun j hj e => by have h1 := (own_lt HW3.out.2.1 hj).1; have h2 := HW3.out.2.2.2; omega)) (Nat.le_trans HW3.out.2.2.1 hk4.size))))
      have HC5 := Lib.hid (HNum.out w4 p4 e4 16 h4)
      obtain ⟨⟨k5, p5, e5⟩, hd5⟩ : ∃ r, r = doc5 bs := ⟨_, rfl⟩
      have he5 : nNum bs p4 e4 0 16 = (k5, p5, e5) := by
        rw [hd5]
        unfold doc5
        rw [← H4d.out]
      have hp5 : p5 ≤ n := by
        have h := nNum_le bs p4 e4 0 16 (by rw [HLen.out]; exact hp4)
        rw [he5, HLen.out] at h
        exact h
      have hk5 : (k5 : Int) ≤ 16 := by
        have h := nNum_val bs p4 e4 0 16 (by decide)
        rw [he5] at h
        exact h
      rw [he5] at HC5
      have H5d := Lib.hid hd5
      clear h4 ho4 hr4 hk4 hrd4 hd5 he5 HC
      go_wp2_with fail
      refine HC5.out.mono ?_
      rintro e w5 ⟨rfl, hr5, hk55⟩
      have H5 := Lib.hid (And.intro (H4.out.1.next hr5 hp5 hk55 HG.out) hk55)
      clear hr5 hk55 HC5
      have hr9 := own_rdS (own_keep H4.out.2.2.1 H5.out.2 (fun j hj e => by have h1 := (own_lt H4.out.2.2.1 hj).1; have h2 := HW3.out.2.2.2; omega)) HW3.out.2.2.2
      have hg4 : g < wr.heap.size := Nat.lt_of_lt_of_le HW3.out.2.2.2 HW3.out.2.2.1
      have hr4 := own_rdS (own_keep H4.out.2.1 H5.out.2 (fun j hj e => by have h1 := (own_lt H4.out.2.1 hj).1; omega)) hg4
      have hc4 := own_cap6 H4.out.2.1
      have hc9 := own_cap6 H4.out.2.2.1
      have HR := Lib.hid (And.intro hr4 (And.intro hr9 (And.intro hc4 (And.intro hc9 H5.out.1))))
      clear hr9 hr4 hg4 hc4 hc9 H4 H5
      have HK5 := Lib.hid hk5
      clear hk5
      go_upto_block 2 with (fail)
      go_cut [14] (fun tv wz => ∃ (A14 : Option Addr) (c14 i q : Nat) (e : Int), tv = .slice A14 i c14 ∧ i ≤ k5 ∧ Hid (TkL w g A n c w5 bs k5 p5 e5 tv i q e wz ∧ docLoop bs k5 p5 e5 0 = some (i, q, e)))
      case first =>
        go_wp2_with fail
        go_loopw [14, 15] (fun tv iv wr => ∃ i : Nat, i ≤ k5 ∧ iv = .int .i64 (i : Int) ∧ Hid (∃ (A14 : Option Addr) (c14 q : Nat) (e : Int), tv = .slice A14 i c14 ∧ TkL w g A n c w5 bs k5 p5 e5 tv i q e wr)) (fun _ i _ => k5 - (intOf i).toNat)
        case atStart => exact ⟨0, Nat.zero_le _, rfl, Lib.hid ⟨none, 0, p5, e5, rfl, HR.out.2.2.2.2, ⟨[], World.ownsRow_nil _ _ _ _⟩, Keep.refl _ _, rfl⟩⟩
        case round =>
          rename World => wl
          obtain ⟨i, hi, rfl, HW⟩ := hrel
          obtain ⟨A14, c14, q, e, rfl, hT⟩ := HW.out
          have HT := Lib.hid hT
          clear HW
          by_cases hlt : i < k5
          · have hlI : (i : Int) < (k5 : Int) := by omega
            have c2 := hT.it.rd.cell 2
            have l2 := hT.it.rd.lt
            simp at c2
            by_cases he : e = 0
            · subst he
              have HC := Lib.hid (HByt.out wl q 0 hT.it)
              obtain ⟨⟨l', q', e'⟩, htx⟩ : ∃ r, r = nByt bs q 0 (n : Int) := ⟨_, rfl⟩
              rw [← htx] at HC
              have hnl := tk_txt htx HLen.out hT.it.le
              have HTx := Lib.hid (And.intro htx (And.intro hnl.1 hlt))
              have hll : l'.length ≤ 1048576 := by omega
              have hwi : IntKind.i64.wrap ((i : Int) + 1) = (i : Int) + 1 := by have := HK5.out; rw [IntWalk.i64_in _ (by omega)]
              clear hT hlt htx hnl
              go_wp2_with fail
              refine HC.out.mono ?_
              rintro e w6 ⟨⟨v6, rfl, ho6⟩, hr6, hk6⟩
              obtain ⟨A6, c6, rfl, hrd6, hnil6⟩ := own_rd ho6
              have H6 := Lib.hid (HT.out.m.next hr6 HTx.out.2.1 hk6 HG.out HR.out.2.2.2.2.rd.lt)
              have HD := Lib.hid (rdec_sum (rdecode_any (fun _ => True) A6 l'.length c6 l' w6 (hrd6.weaken fun _ _ => trivial) (own_cap6 ho6).1 (own_cap6 ho6).2 (by omega)))
              clear ho6 hr6 hk6 hrd6 hnil6 HC c2 l2
              go_wp2_with fail
              refine HD.out.mono ?_
              rintro e w7 ⟨⟨a1, a2, a3, a4, t1, t2, t3, ze, rfl, hze⟩, hf7⟩
              have H7 := Lib.hid (And.intro (H6.out.keep hf7 HG.out HR.out.2.2.2.2.rd.lt) hze)
              clear hze hf7 HD H6
              go_wp2_with (refine wpList_store_new rfl (.tmp 17) (.tmp 61) rfl _ #[.int .i64 a1, .int .i64 a2, .int .i64 a3, .int .i64 a4, str t1, str t2, str t3] _ rfl rfl rfl (by kernel_rfl) (Array.all_eq_true_iff_forall_mem.2 fun u hu => cmd_ones a1 a2 a3 a4 t1 t2 t3 u (by simpa using hu)) ?_)
              intro w8 hb8 hf8 hs8
              have H8 := Lib.hid (And.intro (H7.out.1.keep hf8 HG.out HR.out.2.2.2.2.rd.lt) (And.intro hb8 (And.intro (H7.out.1.kp.size) H7.out.2)))
              have HRg : Hid (w8.rangeAt w7.heap.size 0 [.int .i64 a1, .int .i64 a2, .int .i64 a3, .int .i64 a4, str t1, str t2, str t3]) := Lib.hid (by have := blk_range hb8; simpa using this)
              clear hb8 hf8 hs8 H7
              by_cases hz : ze = 0
              · subst hz
                have HO := Lib.hid H8.out.1.own
                obtain ⟨ys, hown⟩ := HO.out
                have HOw := Lib.hid hown
                clear hown HO
                have hsz8 : w5.heap.size ≤ w8.heap.size := H8.out.1.kp.size
                have hi16 : (i + 1) * 80 ≤ 140737488355328 := by have := HK5.out; omega
                go_wp2_with (first | (refine wpList_load_mid rfl 57 _ rfl w7.heap.size 0 rfl [.int .i64 a1, .int .i64 a2, .int .i64 a3, .int .i64 a4, str t1, str t2, str t3] _ HRg.out Tryd.underlying57 rfl (by kernel_rfl) ?_) | (at_builtin; refine wpList_appK etCmdP rfl (.tmp 65) (.tmp 67) rfl #[.int .i64 a1, .int .i64 a2, .int .i64 a3, .int .i64 a4, str t1, str t2, str t3] _ rfl (cmd_ones a1 a2 a3 a4 t1 t2 t3) w5.heap.size _ i ys rfl rfl HOw.out hi16 hsz8 ?_))
                intro v9 w9 ho9 hk9 hn9
                obtain ⟨A9', c9', rfl, -, -⟩ := own_rd ho9
                have H9 := Lib.hid (tk_step H8.out.1 HOw.out ho9 hk9 HG.out HR.out.2.2.2.2.rd.lt HLen.out HTx.out.1 HTx.out.2.2 HT.out.dl H8.out.2.2.2)
                clear ho9 hk9 hn9 H8 HOw hsz8 HRg HTx HT
                go_wp2_with fail
                exact ⟨⟨i + 1, by omega, rfl, Lib.hid ⟨_, _, _, _, rfl, H9.out⟩⟩, by simp [intOf]; omega⟩
              · have hzb : (ze != 0) = true := by simpa using hz
                have HB := Lib.hid (tk_none HT.out.dl HLen.out HTx.out.1 HTx.out.2.2 (by rw [← H8.out.2.2.2]; exact hzb))
                have HF := Lib.hid H8.out.1.it.fr
                clear hz HRg H8 HTx HT HR
                go_wp2_with fail
                refine bodyPost_ret (results_tmp4 rfl _ _ _) rfl ?_
                exact ⟨⟨none, 0, 0, _, _, false, rfl, (docOk_none bs (by rw [← H5d.out]; exact HB.out)).symm, fun h => by cases h⟩, HF.out⟩
            · have heb : (e == 0) = false := by simpa using he
              have HE := Lib.hid (tk_stop hT.dl (Or.inr he))
              clear hT hlt he
              go_wp2_with fail
              go_meet
              exact ⟨A14, c14, i, q, e, rfl, hi, Lib.hid ⟨HT.out, HE.out⟩⟩
          · obtain rfl : i = k5 := by omega
            have HE := Lib.hid (tk_stop hT.dl (Or.inl rfl))
            clear hT hlt
            go_wp2_with fail
            go_meet
            exact ⟨A14, c14, i, q, e, rfl, hi, Lib.hid ⟨HT.out, HE.out⟩⟩
      case rest =>
        rename World => wc
        obtain ⟨A14, c14, i, q, e, rfl, hi, hB⟩ := hcut
        have HB := Lib.hid hB.out
        obtain ⟨er, her⟩ : ∃ z, z = (if e = 0 ∧ q ≠ n then 15 else e) := ⟨_, rfl⟩
        have HE := HEn.out wc q e HB.out.1.it
        rw [← her] at HE
        have HC := Lib.hid HE
        have HEr := Lib.hid her
        clear hB HE her
        go_wp2_with fail
        refine HC.out.mono ?_
        rintro e9 w10 ⟨rfl, hr10, hk10⟩
        have h10 := HB.out.1.m.it.next hr10 HB.out.1.it.le hk10 HG.out
        have hk510 := HB.out.1.kp.trans hk10
        have H10 := Lib.hid (And.intro h10 (And.intro (HR.out.1.keep (hk510.weaken fun _ _ h => h.1)) (HR.out.2.1.keep (hk510.weaken fun _ _ h => h.1))))
        have HD := Lib.hid (drestore_any _ A4 l4.length c4 l4 w10 H10.out.2.1 (by omega) HR.out.2.2.1.1)
        clear hr10 hk10 h10 hk510 HC
        go_wp2_with fail
        refine HD.out.mono ?_
        intro e9 w11 hpost
        obtain ⟨hf11, mv, ze, rfl, hze⟩ := drest_sum hpost
        have c2 := (Blk.keep H10.out.1.rd hf11 trivial).cell 2
        have l2 := (Blk.keep H10.out.1.rd hf11 trivial).lt
        simp at c2
        have H11 := Lib.hid (And.intro (H10.out.1.fr.trans hf11) (And.intro (H10.out.2.2.keep (hf11.weaken fun _ _ _ => trivial)) hze))
        have HEnd := Lib.hid (tk_end HLen.out H4d.out H5d.out HB.out.2 HEr.out)
        have Hi := Lib.hid hi
        have hi16 : (i : Int) ≤ 16 := by have := HK5.out; omega
        clear hpost hf11 hze HD H10 HB HEr hi HEn HNum HByt HK5 H4d H5d
        by_cases he : er = 0
        · subst he
          by_cases hz : ze = 0
          · subst hz
            go_upto_region 22 with (fail)
            obtain ⟨b9, o9, rfl, -, hc9⟩ := H11.out.2.1.2 (by decide)
            have y9 := hc9 2 (.int .i64 ((doc3 bs).1 : Int)) rfl
            have hs1 : IntKind.i64.wrap ((3 : Int) - 1) = 2 := by kernel_rfl
            have hs2 : IntKind.i64.wrap ((4611686018427387904 : Int) - (i : Int)) = 4611686018427387904 - (i : Int) := by rw [IntWalk.i64_in _ (by omega)]
            clear hc9 c2 l2
            go_quiet (fail)
            go_wp2_with fail
            refine bodyPost_ret (results_tmp4 rfl _ _ _) rfl ?_
            refine ⟨⟨_, _, _, _, _, _, rfl, ?_, fun _ => ⟨rfl, HR.out.2.2.2.1.1, ?_⟩⟩, H11.out.1.trans ((Keep.refl _ _).drewN _)⟩
            · rw [HEnd.out, ← H11.out.2.2]
              rfl
            · exact (H11.out.2.1.keep ((Keep.refl _ _).drewN _)).weaken fun _ _ => trivial
          · have hzb : (ze == 0) = false := by simpa using hz
            have HZ := Lib.hid hz
            clear hz
            go_upto_region 22 with (fail)
            clear c2 l2
            go_quiet (fail)
            go_wp2_with fail
            refine bodyPost_ret (results_tmp4 rfl _ _ _) rfl ?_
            refine ⟨⟨_, _, _, _, _, _, rfl, ?_, fun h => by cases h⟩, H11.out.1.trans ((Keep.refl _ _).drewN _)⟩
            rw [HEnd.out, ← H11.out.2.2, hzb]
            simp
        · have heb : (er == 0) = false := by simpa using he
          have HZ := Lib.hid he
          clear he
          go_upto_region 22 with (fail)
          clear c2 l2
          go_quiet (fail)
          go_wp2_with fail
          refine bodyPost_ret (results_tmp4 rfl _ _ _) rfl ?_
          refine ⟨⟨_, _, _, _, _, _, rfl, ?_, fun h => by cases h⟩, H11.out.1.trans ((Keep.refl _ _).drewN _)⟩
          rw [HEnd.out, decide_eq_false HZ.out]
          simp
end Go.Proofs.YtioinjcdkmiafaaDoor
