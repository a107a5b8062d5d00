/-
  MERGED: RSess
-/
import Derived.Test.YtioinjcdkmiafaaDoorYC0
import Derived.Test.YtioinjcdkmiafaaDoorYC1
import Derived.BigRegion
namespace Go.Proofs.YtioinjcdkmiafaaDoor
set_option linter.unusedVariables false
set_option linter.unusedSimpArgs false
open Go.RowKit

structure RSAt (bs : Txt) (R : List (Nat × SesD) × Nat × Bool) (cnt k : Nat) (last : Int) (m g bp bl : Nat) (tok : Int) (A : Option Addr) (n c : Nat) (w wr : World) (pk : Nat) (badk : Bool) (pre : List (Nat × SesD)) : Prop where
  eq : R = (pre ++ (runF (rdSes bs) schk snxt (cnt - k) pk badk last).1, (runF (rdSes bs) schk snxt (cnt - k) pk badk last).2)
  rd : Rdr wr g A n c pk badk
  pn : pk ≤ n
  blk : Blk wr m 95 (mchcells bp bl tok (ssPut pre (List.replicate 16 noSes))).toArray
  lo : -1 ≤ last
  keep : Keep (fun j => j ≠ g ∧ j ≠ m) w wr

def missL (ss : List SesD) (l : LockD) : Bool := (l.holder :: l.queue).any fun c => decide ((ss.getD c.toNat noSes).inc = 0)
theorem miss_step {ls : List LockD} {todo : List Txt} {t : Txt} {x : LockD} (f : LockD → Bool) (hr : Rise (ls.map LockD.name)) (hx : x ∈ ls) (hn : x.name = t) (ht : t ∈ todo) :
    (ls.filter fun l => !decide (l.name ∈ todo.filter fun y => !(y == t))).any f = ((ls.filter fun l => !decide (l.name ∈ todo)).any f || f x) := by
  have hu : ∀ l ∈ ls, l.name = t → l = x := fun l hl he => by
    have h2 := findK_of (key := LockD.name) hr hx hn
    have h3 := findK_of (key := LockD.name) hr hl he
    rw [h2] at h3
    injection h3 with h3
    exact h3.symm
  rw [Bool.eq_iff_iff, Bool.or_eq_true, List.any_eq_true, List.any_eq_true]
  constructor
  · rintro ⟨l, hl, hf⟩
    obtain ⟨h1, h2⟩ := List.mem_filter.1 hl
    by_cases he : l.name = t
    · exact .inr (hu l h1 he ▸ hf)
    · refine .inl ⟨l, List.mem_filter.2 ⟨h1, ?_⟩, hf⟩
      rw [Bool.not_eq_true'] at h2
      have h3 := of_decide_eq_false h2
      have : l.name ∉ todo := fun hm => h3 (List.mem_filter.2 ⟨hm, by simpa using he⟩)
      rw [Bool.not_eq_true', decide_eq_false_iff_not]
      exact this
  · rintro (⟨l, hl, hf⟩ | hf)
    · obtain ⟨h1, h2⟩ := List.mem_filter.1 hl
      refine ⟨l, List.mem_filter.2 ⟨h1, ?_⟩, hf⟩
      rw [Bool.not_eq_true'] at h2
      have h3 := of_decide_eq_false h2
      have : ¬ (l.name ∈ todo.filter fun y => !(y == t)) := fun hm => h3 (List.mem_filter.1 hm).1
      rw [Bool.not_eq_true', decide_eq_false_iff_not]
      exact this
    · refine ⟨x, List.mem_filter.2 ⟨hx, ?_⟩, hf⟩
      have : ¬ (x.name ∈ todo.filter fun y => !(y == t)) := fun hm => by
        have := (List.mem_filter.1 hm).2
        rw [hn] at this
        simp at this
      rw [Bool.not_eq_true', decide_eq_false_iff_not]
      exact this
/-- Who of the first k of these has no session? -/
def missTo (ss : List SesD) (cs : List Int) (k : Nat) : Bool := (cs.take k).any fun c => decide ((ss.getD c.toNat noSes).inc = 0)
theorem missTo_succ (ss : List SesD) (cs : List Int) (k : Nat) (hk : k < cs.length) : missTo ss cs (k + 1) = (missTo ss cs k || decide ((ss.getD cs[k].toNat noSes).inc = 0)) := by
  unfold missTo
  rw [← List.take_append_getElem hk, List.any_append]
  simp
theorem missTo_all (ss : List SesD) (l : LockD) (k : Nat) (hk : l.queue.length + 1 ≤ k) : missTo ss (l.holder :: l.queue) k = missL ss l := by
  unfold missTo missL
  rw [List.take_of_length_le (by simpa using hk)]
def RSPost (ls : List LockD) (R : List (Nat × SesD) × Nat × Bool) (m g bp bl : Nat) (tok : Int) (A : Option Addr) (n c : Nat) (w : World) (e : Ending) (w' : World) : Prop :=
  e = .returned (.tuple #[]) ∧ Blk w' m 95 (mchcells bp bl tok (ssPut R.1 (List.replicate 16 noSes))).toArray ∧ Rdr w' g A n c R.2.1 (R.2.2 || sesMiss ls (ssPut R.1 (List.replicate 16 noSes))) ∧ R.2.1 ≤ n ∧ Keep (fun j => j ≠ g ∧ j ≠ m) w w'
/-- Within the second loop. -/
structure RTAt (ls : List LockD) (ss : List SesD) (S : Nat → Prop) (m g bl rg : Nat) (A : Option Addr) (n c p1 : Nat) (bad1 : Bool) (ms : List LkM) (w w2 : World) (todo : List Txt) (badx : Bool) : Prop where
  rng : RangeIs Tryd.prog 9 w2 bl rg (ms.map LkM.kv) todo
  rd : Rdr w2 g A n c p1 badx
  bad : badx = (bad1 || (ls.filter fun l => !decide (l.name ∈ todo)).any (missL ss))
  keep : Keep (fun j => j ≠ g) w w2
set_option maxRecDepth 20000 in
set_option maxHeartbeats 4000000 in
theorem rsess_any (m g bp bl : Nat) (tok : Int) (Z : Nat → Prop) (A : Option Addr) (n c : Nat) (bs : Txt) (p : Nat) (bad : Bool) (w : World) (hm : Blk w m 95 (mchcells bp bl tok (List.replicate 16 noSes)).toArray) (hmg : m ≠ g) (hg : Rdr w g A n c p bad) (hz : ∀ k, Z k → k ≠ g ∧ k ≠ m) (hp : p ≤ n) (hnc : n ≤ c) (hb : Rd w Z 1 A n (Lib.byteCells bs)) (hn : n ≤ 1099511627770) (S : Nat → Prop) (ls : List LockD) (hlk : ∃ ms, Lks S w bl ms ls) (hrise : Rise (ls.map LockD.name)) (hsafe : ∀ l ∈ ls, (0 ≤ l.holder ∧ l.holder < 16) ∧ ∀ c ∈ l.queue, 0 ≤ c ∧ c < 16) (hqlen : ∀ l ∈ ls, l.queue.length ≤ 15) (hSz : ∀ j, S j → j ≠ g ∧ j ≠ m) :
    Calls Tryd.prog 38 #[.pointer (some ⟨m, 0, none⟩), .pointer (some ⟨g, 0, none⟩)] w (RSPost ls (rSess1 bs p bad) m g bp bl tok A n c w) := by
  have hlen : bs.length = n := by simpa [Lib.byteCells] using hb.1
  have HLK := Lib.hid (And.intro hlk (And.intro hrise (And.intro hsafe (And.intro hqlen hSz))))
  clear hlk hrise hsafe hqlen hSz
  obtain ⟨R, hR⟩ : ∃ R, R = rSess1 bs p bad := ⟨_, rfl⟩
  rw [← hR]
  have HC := Lib.hid (rcount_any g Z A n c bs p bad 16 w hg hp hb hn)
  have hle := rCount_le bs p bad 16 (by omega)
  have hmost := rCount_most bs p bad (most := 16) (by omega)
  unfold rSess1 at hR
  generalize rCount bs p bad 16 = q at HC hR hle hmost
  obtain ⟨cnt, p1, bad1⟩ := q
  simp only at HC hR hle hmost
  have hml := hm.lt
  have HB := Lib.hid (And.intro hb (And.intro hz (And.intro hm (And.intro hR hlen))))
  clear hb hz hm hR hlen hg
  go_enter Tryd.func38, Tryd.ntmps38
  go_wp2_with fail
  refine Calls.mono HC.out ?_
  rintro e w1 ⟨rfl, hg1, hk1⟩
  have H1 := Lib.hid (And.intro hg1 hk1)
  have hml1 := Nat.lt_of_lt_of_le hml hk1.size
  clear hg1 hk1 HC hml
  go_wp2_with fail
  go_loopw [4, 13] (fun l i wr => ∃ (k : Nat) (last : Int), k ≤ cnt ∧ i = .int .i64 (k : Int) ∧ l = .int .i64 last ∧ Hid (∃ pk badk pre, RSAt bs R cnt k last m g bp bl tok A n c w wr pk badk pre)) (fun _ i _ => cnt - (intOf i).toNat)
  case atStart => exact ⟨0, -1, by omega, rfl, rfl, Lib.hid ⟨p1, bad1, [], ⟨by rw [HB.out.2.2.2.1]; rfl, H1.out.1, by have := HB.out.2.2.2.2; omega, HB.out.2.2.1.keep H1.out.2 hmg, by omega, H1.out.2.weaken fun _ _ h => h.1⟩⟩⟩
  case round =>
    rename World => wr
    obtain ⟨k, last, hk, rfl, rfl, HR⟩ := hrel
    obtain ⟨pk, badk, pre, hat⟩ := HR.out
    have HA := Lib.hid hat
    clear hat HR
    by_cases hlt : k < cnt
    · have hbw : ∀ wx, Keep (fun j => j ≠ g ∧ j ≠ m) w wx → Rd wx Z 1 A n (Lib.byteCells bs) := fun wx hk => HB.out.1.keep (hk.weaken fun j _ h => HB.out.2.1 j h)
      have HBW := Lib.hid hbw
      have hbn := HB.out.2.2.2.2
      have HC1 := Lib.hid (rcount_any g Z A n c bs pk badk 15 wr HA.out.rd HA.out.pn (hbw _ HA.out.keep) hn)
      have hl1 := rCount_le bs pk badk 15 (by have := HA.out.pn; omega)
      have hm1 := rCount_most bs pk badk (most := 15) (by omega)
      obtain ⟨q1, hq1⟩ : ∃ q, q = rCount bs pk badk 15 := ⟨_, rfl⟩
      rw [← hq1] at HC1 hl1 hm1
      have HQ1 := Lib.hid hq1
      clear hq1 hbw
      go_wp2_with fail
      refine Calls.mono HC1.out ?_
      rintro e wA ⟨rfl, hgA, hkA⟩
      have hkWA : Keep (fun j => j ≠ g ∧ j ≠ m) w wA := HA.out.keep.comp hkA (fun _ _ h => h) (fun _ _ h => h.1)
      have HC2 := Lib.hid (rcount_any g Z A n c bs q1.2.1 q1.2.2 4611686018427387904 wA hgA (by omega) (HBW.out _ hkWA) hn)
      have hl2 := rCount_le bs q1.2.1 q1.2.2 4611686018427387904 (by omega)
      have hm2 := rCount_most bs q1.2.1 q1.2.2 (most := 4611686018427387904) (by omega)
      obtain ⟨q2, hq2⟩ : ∃ q, q = rCount bs q1.2.1 q1.2.2 4611686018427387904 := ⟨_, rfl⟩
      rw [← hq2] at HC2 hl2 hm2
      have HQ2 := Lib.hid hq2
      have HKA := Lib.hid (And.intro hkA hkWA)
      clear hq2 hgA hkA hkWA HC1
      go_wp2_with fail
      refine Calls.mono HC2.out ?_
      rintro e wB ⟨rfl, hgB, hkB⟩
      have hkWB : Keep (fun j => j ≠ g ∧ j ≠ m) w wB := HKA.out.2.comp hkB (fun _ _ h => h) (fun _ _ h => h.1)
      have HC3 := Lib.hid (rcount_any g Z A n c bs q2.2.1 q2.2.2 4611686018427387904 wB hgB (by omega) (HBW.out _ hkWB) hn)
      have hl3 := rCount_le bs q2.2.1 q2.2.2 4611686018427387904 (by omega)
      have hm3 := rCount_most bs q2.2.1 q2.2.2 (most := 4611686018427387904) (by omega)
      obtain ⟨q3, hq3⟩ : ∃ q, q = rCount bs q2.2.1 q2.2.2 4611686018427387904 := ⟨_, rfl⟩
      rw [← hq3] at HC3 hl3 hm3
      have HQ3 := Lib.hid hq3
      have HKB := Lib.hid (And.intro hkB hkWB)
      clear hq3 hgB hkB hkWB HC2
      go_wp2_with fail
      refine Calls.mono HC3.out ?_
      rintro e wC ⟨rfl, hgC, hkC⟩
      have hkWC : Keep (fun j => j ≠ g ∧ j ≠ m) w wC := HKB.out.2.comp hkC (fun _ _ h => h) (fun _ _ h => h.1)
      have HKC := Lib.hid (And.intro hgC (And.intro hkC hkWC))
      have hml3 : m < wC.heap.size := (HA.out.blk.keep (((HKA.out.1.trans HKB.out.1).trans hkC)) hmg).lt
      have hgl3 := hgC.lt
      clear hgC hkC hkWC HC3
      go_upto_region 5 with (fail)
      obtain ⟨hs, hhs⟩ : ∃ hs, hs = wC.heap.size := ⟨_, rfl⟩
      obtain ⟨wD, hwD⟩ : ∃ wD, wD = wC.alloc (.cells #[.int .i64 (q2.1 : Int), .int .i64 (q3.1 : Int), .int .i64 0, str [], .int .i64 0] 92) := ⟨_, rfl⟩
      rw [← hhs, ← hwD]
      have hf : Fresh wC wD := hwD ▸ (Keep.refl _ wC).alloc _
      have hbD : Blk wD hs 92 #[.int .i64 (q2.1 : Int), .int .i64 (q3.1 : Int), .int .i64 0, str [], .int .i64 0] := by rw [hwD, hhs]; exact Blk.new _ _ _
      have hgD := HKC.out.1.keep hf trivial
      have hkWD : Keep (fun j => j ≠ g ∧ j ≠ m) w wD := HKC.out.2.2.comp hf (fun _ _ h => h) (fun _ _ _ => trivial)
      have hsg : hs ≠ g := fun e => Blk.ne hbD hgD (by decide) e
      have hsm : hs ≠ m := by omega
      have HC4 := Lib.hid (rcount_any g Z A n c bs q3.2.1 q3.2.2 11 wD hgD (by omega) (HBW.out _ hkWD) hn)
      have hl4 := rCount_le bs q3.2.1 q3.2.2 11 (by omega)
      have hm4 := rCount_most bs q3.2.1 q3.2.2 (most := 11) (by omega)
      obtain ⟨q4, hq4⟩ : ∃ q, q = rCount bs q3.2.1 q3.2.2 11 := ⟨_, rfl⟩
      rw [← hq4] at HC4 hl4 hm4
      have HQ4 := Lib.hid hq4
      have HKD := Lib.hid (And.intro hbD (And.intro hkWD (And.intro hf hhs)))
      clear hwD hf hbD hgD hkWD hhs hq4
      go_wp2_with fail
      refine Calls.mono HC4.out ?_
      rintro e wE ⟨rfl, hgE, hkE⟩
      have hkWE : Keep (fun j => j ≠ g ∧ j ≠ m) w wE := HKD.out.2.1.comp hkE (fun _ _ h => h) (fun _ _ h => h.1)
      have HC5 := Lib.hid (rtext_any g Z A n c bs q4.2.1 q4.2.2 8 wE hgE (fun j h => (HB.out.2.1 j h).1) (by omega) hnc (HBW.out _ hkWE) hn)
      have hl5 := rText_le bs q4.2.1 q4.2.2 8 (by omega)
      have hm5 := rText_len bs q4.2.1 q4.2.2 (most := 8) (by omega)
      obtain ⟨q5, hq5⟩ : ∃ q, q = rText bs q4.2.1 q4.2.2 8 := ⟨_, rfl⟩
      rw [← hq5] at HC5 hl5 hm5
      have HQ5 := Lib.hid hq5
      have HKE := Lib.hid (And.intro hkE hkWE)
      clear hq5 hgE hkE hkWE HC4
      go_wp2_with fail
      refine Calls.mono HC5.out ?_
      rintro e wF ⟨rfl, hgF, hkF⟩
      have hkWF : Keep (fun j => j ≠ g ∧ j ≠ m) w wF := HKE.out.2.comp hkF (fun _ _ h => h) (fun _ _ h => h.1)
      have hbF := (HKD.out.1.keep HKE.out.1 hsg).keep hkF hsg
      have c2 := hbF.cell 2; have c3 := hbF.cell 3; have c4 := hbF.cell 4
      have z2 := hbF.frozen 2; have z3 := hbF.frozen 3; have z4 := hbF.frozen 4
      have hsl := hbF.lt
      simp at c2 c3 c4
      have HKF := Lib.hid (And.intro hgF (And.intro hkF (And.intro hkWF hbF)))
      clear hgF hkF hkWF hbF HC5
      go_upto_region 6 with (fail)
      have hbG : Blk (((wF.setCell ⟨hs, 2, none⟩ (.int .i64 (q4.1 : Int))).setCell ⟨hs, 3, none⟩ (str q5.1)).setCell ⟨hs, 4, none⟩ (.int .i64 0)) hs 92 #[.int .i64 (q2.1 : Int), .int .i64 (q3.1 : Int), .int .i64 (q4.1 : Int), str q5.1, .int .i64 0] := ((HKF.out.2.2.2.set 2 _).set 3 _).set 4 _
      have hkFG : Keep (fun j => j ≠ hs) wF (((wF.setCell ⟨hs, 2, none⟩ (.int .i64 (q4.1 : Int))).setCell ⟨hs, 3, none⟩ (str q5.1)).setCell ⟨hs, 4, none⟩ (.int .i64 0)) := (((Keep.refl _ wF).setCell (fun _ h => h rfl) _).setCell (fun _ h => h rfl) _).setCell (fun _ h => h rfl) _
      generalize hwG : World.setCell (World.setCell (World.setCell wF ⟨hs, 2, none⟩ _) ⟨hs, 3, none⟩ _) ⟨hs, 4, none⟩ _ = wG at hbG hkFG ⊢
      have hws : w.heap.size ≤ hs := by rw [HKD.out.2.2.2]; exact HKC.out.2.2.size
      have hgG := HKF.out.1.keep hkFG hsg.symm
      have hkWG : Keep (fun j => j ≠ g ∧ j ≠ m) w wG := HKF.out.2.2.1.comp hkFG (fun _ _ h => h) (fun j hj _ e => by omega)
      have HC6 := Lib.hid (rcount_any g Z A n c bs q5.2.1 q5.2.2 99999999 wG hgG (by omega) (HBW.out _ hkWG) hn)
      have hl6 := rCount_le bs q5.2.1 q5.2.2 99999999 (by omega)
      have hm6 := rCount_most bs q5.2.1 q5.2.2 (most := 99999999) (by omega)
      obtain ⟨q6, hq6⟩ : ∃ q, q = rCount bs q5.2.1 q5.2.2 99999999 := ⟨_, rfl⟩
      rw [← hq6] at HC6 hl6 hm6
      have HQ6 := Lib.hid hq6
      have HKG := Lib.hid (And.intro hbG (And.intro hkFG hkWG))
      clear hwG hbG hkFG hgG hkWG hq6 c2 c3 c4 z2 z3 z4
      go_wp2_with fail
      refine Calls.mono HC6.out ?_
      rintro e wH ⟨rfl, hgH, hkH⟩
      have hbH := HKG.out.1.keep hkH hsg
      have c4 := hbH.cell 4
      have z4 := hbH.frozen 4
      have hslH := hbH.lt
      simp at c4
      have HKH := Lib.hid (And.intro hgH (And.intro hkH hbH))
      clear hgH hkH hbH HC6
      go_upto_region 7 with (fail)
      have hbI : Blk (wH.setCell ⟨hs, 4, none⟩ (.int .i64 (q6.1 : Int))) hs 92 (sesA ⟨(q2.1 : Int), (q3.1 : Int), ⟨(q4.1 : Int), q5.1, (q6.1 : Int)⟩⟩) := HKH.out.2.2.set 4 _
      have hkHI : Keep (fun j => j ≠ hs) wH (wH.setCell ⟨hs, 4, none⟩ (.int .i64 (q6.1 : Int))) := (Keep.refl _ wH).setCell (fun _ h => h rfl) _
      generalize hwI : World.setCell wH ⟨hs, 4, none⟩ _ = wI at hbI hkHI ⊢
      clear hwI c4 z4
      have hgI := HKH.out.1.keep hkHI hsg.symm
      have hkWI : Keep (fun j => j ≠ g ∧ j ≠ m) w wI := (HKG.out.2.2.comp HKH.out.2.1 (fun _ _ h => h) (fun _ _ h => h.1)).comp hkHI (fun _ _ h => h) (fun j hj _ e => by omega)
      have hmI : Blk wI m 95 (mchcells bp bl tok (ssPut pre (List.replicate 16 noSes))).toArray := by
        have h1 := HA.out.blk.keep (HKA.out.1.trans (HKB.out.1.trans HKC.out.2.1)) hmg
        have h2 := h1.keep HKD.out.2.2.1 trivial
        have h3 := h2.keep (HKE.out.1.trans HKF.out.2.1) hmg
        have h4 := h3.keep HKG.out.2.1 hsm.symm
        exact (h4.keep HKH.out.2.1 hmg).keep hkHI hsm.symm
      obtain ⟨qn, hqn⟩ : ∃ a : Nat, a = q1.1 := ⟨_, rfl⟩
      obtain ⟨a2, ha2⟩ : ∃ a : Int, a = (q2.1 : Int) := ⟨_, rfl⟩
      obtain ⟨a3, ha3⟩ : ∃ a : Int, a = (q3.1 : Int) := ⟨_, rfl⟩
      obtain ⟨a4, ha4⟩ : ∃ a : Int, a = (q4.1 : Int) := ⟨_, rfl⟩
      obtain ⟨a5, ha5⟩ : ∃ a, a = q5.1 := ⟨_, rfl⟩
      obtain ⟨a6, ha6⟩ : ∃ a : Int, a = (q6.1 : Int) := ⟨_, rfl⟩
      rw [← ha2, ← ha3, ← ha4, ← ha5, ← ha6] at hbI
      obtain ⟨ss, hss⟩ : ∃ ss, ss = ssPut pre (List.replicate 16 noSes) := ⟨_, rfl⟩
      rw [← hss] at hmI
      have hsl16 : ss.length = 16 := by rw [hss, ssPut_len]; simp
      have hqn16 : qn < 16 := by omega
      have hrd : rdSes bs pk badk = ((qn, ⟨a2, a3, ⟨a4, a5, a6⟩⟩), q6.2) := by
        unfold rdSes
        simp only [← HQ1.out, ← HQ2.out, ← HQ3.out, ← HQ4.out, ← HQ5.out, ← HQ6.out]
        rw [hqn, ha2, ha3, ha4, ha5, ha6]
      have HKI := Lib.hid (And.intro hbI (And.intro hgI (And.intro hkWI (And.intro hmI (And.intro hss hrd)))))
      have d0 := hbI.cell 0; have d1 := hbI.cell 1; have d2 := hbI.cell 2; have d3 := hbI.cell 3; have d4 := hbI.cell 4
      simp [sesA] at d0 d1 d2 d3 d4
      have hslI := hbI.lt
      have hmlI := hmI.lt
      have hglI := hgI.lt
      have g2 := hgI.cell 2
      simp at g2
      have gf := hgI.frozen 2
      have hqi : (qn : Int) < 16 := by omega
      simp only [← hqn]
      have hms : m ≠ hs := hsm.symm
      have HFin : Hid (∀ wx bad2, Keep (fun j => j ≠ g) wI wx → Rdr wx g A n c q6.2.1 bad2 → bad2 = (q6.2.2 || !schk last (qn, ⟨a2, a3, ⟨a4, a5, a6⟩⟩)) →
          Hid (∃ pk badk pre, RSAt bs R cnt (k + 1) (qn : Int) m g bp bl tok A n c w (((((wx.setCell ⟨m, 3 + qn * 5, none⟩ (.int .i64 a2)).setCell ⟨m, 3 + qn * 5 + 1, none⟩ (.int .i64 a3)).setCell ⟨m, 3 + qn * 5 + 2, none⟩ (.int .i64 a4)).setCell ⟨m, 3 + qn * 5 + 3, none⟩ (str a5)).setCell ⟨m, 3 + qn * 5 + 4, none⟩ (.int .i64 a6)).drew pk badk pre)) := Lib.hid fun wx bad2 hkx hgx hb2 => by
        have hk5 : Keep (fun j => j ≠ m) wx (((((wx.setCell ⟨m, 3 + qn * 5, none⟩ (.int .i64 a2)).setCell ⟨m, 3 + qn * 5 + 1, none⟩ (.int .i64 a3)).setCell ⟨m, 3 + qn * 5 + 2, none⟩ (.int .i64 a4)).setCell ⟨m, 3 + qn * 5 + 3, none⟩ (str a5)).setCell ⟨m, 3 + qn * 5 + 4, none⟩ (.int .i64 a6)).drew :=
          ((((((Keep.refl _ wx).setCell (fun _ h => h rfl) _).setCell (fun _ h => h rfl) _).setCell (fun _ h => h rfl) _).setCell (fun _ h => h rfl) _).setCell (fun _ h => h rfl) _).drew
        have b5 := (((((HKI.out.2.2.2.1.keep hkx hmg).set (3 + qn * 5) (.int .i64 a2)).set (3 + qn * 5 + 1) (.int .i64 a3)).set (3 + qn * 5 + 2) (.int .i64 a4)).set (3 + qn * 5 + 3) (str a5)).set (3 + qn * 5 + 4) (.int .i64 a6)
        rw [mcells_store (by omega) a2 a3 ⟨a4, a5, a6⟩] at b5
        refine Lib.hid ⟨q6.2.1, bad2, pre ++ [(qn, ⟨a2, a3, ⟨a4, a5, a6⟩⟩)], ⟨?_, hgx.keep hk5 (fun e => hmg e.symm), by omega, ?_, by omega, (HKI.out.2.2.1.comp hkx (fun _ _ h => h) (fun _ _ h => h.1)).comp hk5 (fun _ _ h => h) (fun _ _ h => h.2)⟩⟩
        · rw [HA.out.eq, show cnt - k = (cnt - (k + 1)) + 1 by omega, runF_succ, HKI.out.2.2.2.2.2]
          simp only [← hb2, snxt, List.append_assoc, List.singleton_append]
        · rw [ssPut_snoc, ← HKI.out.2.2.2.2.1]
          exact b5.drew
      have HN : Hid (∀ wx, Keep (fun j => j ≠ g) wI wx → (∀ j, j < 5 → ∃ u, wx.cell? ⟨m, 3 + qn * 5 + j, none⟩ = some u) ∧ (∀ j, wx.frozen? ⟨m, j, none⟩ = false) ∧ m < wx.heap.size) := Lib.hid fun wx hk => by
        have h1 := HKI.out.2.2.2.1.keep hk hmg
        refine ⟨fun j hj => ?_, fun j => h1.frozen j, h1.lt⟩
        have h2 := h1.cell (3 + qn * 5 + j)
        have h3 := mcell_sess (bp := bp) (bl := bl) (tok := tok) (ss := ss) (q := qn) (by omega) hj
        rw [h2]
        simp only [List.getElem?_toArray]
        rw [h3]
        match j, hj with
        | 0, _ => exact ⟨_, rfl⟩
        | 1, _ => exact ⟨_, rfl⟩
        | 2, _ => exact ⟨_, rfl⟩
        | 3, _ => exact ⟨_, rfl⟩
        | 4, _ => exact ⟨_, rfl⟩
      clear hbI hgI hkWI hmI hss hrd hqn ha2 ha3 ha4 ha5 ha6 hkHI hslH hsl
      by_cases hgood : last < (qn : Int) ∧ a2 ≠ 0 ∧ a3 ≠ 0 ∧ a4 ≠ 0 ∧ a4 ≠ 10
      · have e1 : decide ((qn : Int) ≤ last) = false := by simp; omega
        have e2 : (a2 == 0) = false := by simpa using hgood.2.1
        have e3 : (a3 == 0) = false := by simpa using hgood.2.2.1
        have e4 : (a4 == 0) = false := by simpa using hgood.2.2.2.1
        have e5 : (a4 == 10) = false := by simpa using hgood.2.2.2.2
        have HCH := Lib.hid (show schk last (qn, ⟨a2, a3, ⟨a4, a5, a6⟩⟩) = true by unfold schk; simp [hgood])
        obtain ⟨hcs, hfz, -⟩ := HN.out wI (Keep.refl _ _)
        obtain ⟨u0, n0⟩ := hcs 0 (by omega)
        obtain ⟨u1, n1⟩ := hcs 1 (by omega)
        obtain ⟨u2, n2⟩ := hcs 2 (by omega)
        obtain ⟨u3, n3⟩ := hcs 3 (by omega)
        obtain ⟨u4, n4⟩ := hcs 4 (by omega)
        rw [Nat.add_zero] at n0
        have f0 := hfz (3 + qn * 5); have f1 := hfz (3 + qn * 5 + 1); have f2 := hfz (3 + qn * 5 + 2); have f3 := hfz (3 + qn * 5 + 3); have f4 := hfz (3 + qn * 5 + 4)
        clear hgood hcs hfz
        go_upto_region 9 with (fail)
        go_region
        go_wp2_with fail
        exact ⟨⟨k + 1, (qn : Int), by omega, by simp, rfl, HFin.out wI q6.2.2 (Keep.refl _ _) HKI.out.2.1 (by rw [HCH.out]; simp)⟩, by simp only [intOf]; omega⟩
      · have HCH : Hid (schk last (qn, ⟨a2, a3, ⟨a4, a5, a6⟩⟩) = false) := Lib.hid (by
          rcases hh : schk last (qn, ⟨a2, a3, ⟨a4, a5, a6⟩⟩) with _ | _
          · rfl
          · exfalso
            refine hgood ?_
            unfold schk at hh
            simp at hh
            exact ⟨hh.1.1.1.1, hh.1.1.1.2, hh.1.1.2, hh.1.2, hh.2⟩)
        have hcase : decide ((qn : Int) ≤ last) = true ∨ (decide ((qn : Int) ≤ last) = false ∧ ((a2 == 0) = true ∨ ((a2 == 0) = false ∧ ((a3 == 0) = true ∨ ((a3 == 0) = false ∧ ((a4 == 0) = true ∨ ((a4 == 0) = false ∧ (a4 == 10) = true))))))) := by
          by_cases b1 : (qn : Int) ≤ last
          · exact .inl (by simpa using b1)
          · refine .inr ⟨by simp; omega, ?_⟩
            by_cases b2 : a2 = 0
            · exact .inl (by simpa using b2)
            · refine .inr ⟨by simpa using b2, ?_⟩
              by_cases b3 : a3 = 0
              · exact .inl (by simpa using b3)
              · refine .inr ⟨by simpa using b3, ?_⟩
                by_cases b4 : a4 = 0
                · exact .inl (by simpa using b4)
                · refine .inr ⟨by simpa using b4, ?_⟩
                  have : a4 = 10 := Classical.byContradiction fun h => hgood ⟨by omega, b2, b3, b4, h⟩
                  simpa using this
        have hks : Keep (fun j => j ≠ g) wI (wI.setCell ⟨g, 2, none⟩ (.bool true)) := (Keep.refl _ wI).setCell (fun _ h => h rfl) _
        have hgs : Rdr (wI.setCell ⟨g, 2, none⟩ (.bool true)) g A n c q6.2.1 true := HKI.out.2.1.set 2 (.bool true)
        have HGS := Lib.hid (And.intro hks hgs)
        obtain ⟨hcs, hfz, -⟩ := HN.out _ hks
        obtain ⟨u0, n0⟩ := hcs 0 (by omega)
        obtain ⟨u1, n1⟩ := hcs 1 (by omega)
        obtain ⟨u2, n2⟩ := hcs 2 (by omega)
        obtain ⟨u3, n3⟩ := hcs 3 (by omega)
        obtain ⟨u4, n4⟩ := hcs 4 (by omega)
        rw [Nat.add_zero] at n0
        have f0 := hfz (3 + qn * 5); have f1 := hfz (3 + qn * 5 + 1); have f2 := hfz (3 + qn * 5 + 2); have f3 := hfz (3 + qn * 5 + 3); have f4 := hfz (3 + qn * 5 + 4)
        have k0 := hks.cellAt d0 hsg; have k1 := hks.cellAt d1 hsg; have k2 := hks.cellAt d2 hsg; have k3 := hks.cellAt d3 hsg; have k4 := hks.cellAt d4 hsg
        clear hgood hcs hfz hks hgs
        generalize hwx : World.setCell wI ⟨g, 2, none⟩ (.bool true) = wx at n0 n1 n2 n3 n4 f0 f1 f2 f3 f4 k0 k1 k2 k3 k4 HGS
        have hmlx := lt_of_cell n0
        have hslx := lt_of_cell k0
        rcases hcase with e1 | ⟨e1, e2 | ⟨e2, e3 | ⟨e3, e4 | ⟨e4, e5⟩⟩⟩⟩
        all_goals
          go_upto_region 9 with (fail)
          try rw [hwx]
          clear hwx d0 d1 d2 d3 d4 e1
          go_region
          go_wp2_with fail
          exact ⟨⟨k + 1, (qn : Int), by omega, by simp, rfl, HFin.out wx true HGS.out.1 HGS.out.2 (by rw [HCH.out]; simp)⟩, by simp only [intOf]; omega⟩
    · obtain rfl : k = cnt := by omega
      have e' : R = (pre, pk, badk) := by
        have e := HA.out.eq
        rw [Nat.sub_self] at e
        rw [e]
        simp [runF]
      have HE := Lib.hid e'
      obtain ⟨⟨ms, hls⟩, hrise, hsafe, hqlen, hSz⟩ := HLK.out
      have hlsr := hls.keep HA.out.keep hSz
      have x1 : wr.cell? ⟨m, 1, none⟩ = some (.map (some bl)) := by
        rw [HA.out.blk.cell 1]
        rfl
      have hmlr := HA.out.blk.lt
      have hglr := HA.out.rd.lt
      have HLS := Lib.hid hlsr
      clear e' hls hrise hsafe hqlen hSz hlsr
      go_wp2_with (at_range; refine wpList_rangeIs rfl (.tmp 71) rfl Tryd.underlying9 Tryd.underlying88 rfl HLS.out.map ?_)
      intro w0 hr0 hk0 hs0
      have HR0 := Lib.hid (And.intro hr0 hk0)
      clear hr0 hk0
      go_wp2_with fail
      obtain ⟨ss, hss⟩ : ∃ ss, ss = ssPut pre (List.replicate 16 noSes) := ⟨_, rfl⟩
      have HSS := Lib.hid hss
      clear hss
      go_loopw [] (fun w2 => ∃ todo badx, Hid (RTAt ls ss S m g bl wr.heap.size A n c pk badk ms wr w2 todo badx)) (fun w2 => w2.rangeLeft bl wr.heap.size)
      case atStart =>
        obtain ⟨hr0, hk0⟩ := HR0.out
        refine ⟨_, badk, Lib.hid ⟨hr0, HA.out.rd.keep hk0 trivial, ?_, hk0.weaken fun _ _ _ => trivial⟩⟩
        have e : (ms.map LkM.kv).map Prod.fst = ls.map LockD.name := lks_rise HLS.out
        try rw [List.map_map] at e
        rw [e]
        have : (ls.filter fun l => !decide (l.name ∈ ls.map LockD.name)) = [] := by
          rw [List.filter_eq_nil_iff]
          intro l hl
          simp
          exact ⟨l, hl, rfl⟩
        rw [this]
        simp
      case round =>
        rename World => w2
        obtain ⟨todo, badx, HW⟩ := hrel
        go_wp2_with (at_next; refine wpList_nextIs rfl (.tmp 72) rfl Tryd.underlying9 rfl HW.out.rng ?_ ?_)
        · intro hd
          subst hd
          go_wp2_with fail
          go_end0
          have hx := HW.out
          have e : (ls.filter fun l => !decide (l.name ∈ ([] : List Txt))) = ls := by simp
          have hb : badx = (badk || sesMiss ls ss) := by
            have h1 := hx.bad
            rw [e] at h1
            exact h1
          have hk2 : Keep (fun j => j ≠ g ∧ j ≠ m) w w2 := HA.out.keep.comp hx.keep (fun _ _ h => h) (fun _ _ h => h.1)
          refine ⟨rfl, ?_, ?_, by rw [HE.out]; exact HA.out.pn, hk2⟩
          · rw [HE.out]
            exact HA.out.blk.keep hx.keep hmg
          · rw [HE.out, ← HSS.out, ← hb]
            exact hx.rd
        · intro t v w3 ht hv hr1 hk1 hs1 hlt2 hen
          obtain ⟨hls, hrise, hsafe, hqlen, hSz⟩ := HLK.out
          have hlt := HLS.out
          obtain ⟨x, hxm, hxn, rfl⟩ : ∃ x ∈ ms, x.d.name = t ∧ v = .pointer (some ⟨x.h, 0, none⟩) := by
            rw [mfind_map (key := LkM.key) (f := LkM.kv) (fun _ => rfl)] at hv
            cases hf : findK LkM.key t ms with
            | none => rw [hf] at hv; cases hv
            | some x =>
              rw [hf] at hv
              injection hv with hv
              obtain ⟨h1, h2⟩ := findK_some hf
              exact ⟨x, h2, h1, hv.symm⟩
          have hxl : x.d ∈ ls := by rw [← hlt.data]; exact List.mem_map.2 ⟨x, hxm, rfl⟩
          have hxi := hlt.each x hxm
          have hrl : wr.heap.size ≠ g := by have := HA.out.rd.lt; omega
          have hk3 : Keep (fun j => j ≠ g) wr w3 := HW.out.keep.comp hk1 (fun _ _ h => h) (fun j hj _ => by omega)
          have hxb := hxi.blk.keep hk3 (hSz _ hxi.sh).1
          have hxr := hxi.row.keep hk3 (fun k hk => (hSz _ (hxi.sv k hk)).1)
          obtain ⟨A2, c2, hxv, hnc2, hrd2, hnil2⟩ := hxr.rd
          have k0 := hxb.cell 0
          have k2 := hxb.cell 2
          simp at k0 k2
          rw [hxv] at k2
          have hxh := hxb.lt
          have hq15 := hqlen x.d hxl
          have hsf := hsafe x.d hxl
          obtain ⟨hd, hhd⟩ : ∃ hd, hd = x.d.holder := ⟨_, rfl⟩
          obtain ⟨qs, hqs⟩ : ∃ qs, qs = x.d.queue := ⟨_, rfl⟩
          obtain ⟨ql, hql⟩ : ∃ ql, ql = qs.length := ⟨_, rfl⟩
          rw [← hqs] at hq15 hrd2 k2 hnc2 hnil2
          rw [← hhd] at k0
          rw [← hql] at hq15 hrd2 k2 hnc2 hnil2
          have HX := Lib.hid (And.intro hxm (And.intro hxn (And.intro hxl (And.intro hk3 (And.intro hrd2 (And.intro hnil2 (And.intro hsf (And.intro hhd (And.intro hqs hql)))))))))
          have HH := Lib.hid (And.intro ht (And.intro hr1 (And.intro hk1 hlt2)))
          clear hs1 ht hr1 hk1 hlt2 hls hrise hsafe hqlen hSz hlt hxm hxn hxl hxi hxb hxr hxv hrd2 hsf hhd hqs hk3 hv hnil2 hql
          have hqb : Hid ((1 + ql) * 8 ≤ 140737488355328) := Lib.hid (by omega)
          go_upto_region 15 with (fail)
          have k2a : (w3.alloc (.cells #[.int .i64 hd] 3)).cell? ⟨x.h, 2, none⟩ = some (.slice A2 ql c2) := ((Keep.refl (fun _ => True) w3).alloc _).cellAt k2 trivial
          have hq1 : ((w3.alloc (.cells #[.int .i64 hd] 3)).drew).ownsRow w3.heap.size 3 1 (.slice (some ⟨w3.heap.size, 0, none⟩) 1 1) 1 [.int .i64 hd] := own_of_blk (Blk.new _ _ _) (Nat.le_refl _) (show 1 ≤ _ by decide) 1 rfl
          have hq2 : Rd ((w3.alloc (.cells #[.int .i64 hd] 3)).drew) _ 1 A2 ql (ics qs) := HX.out.2.2.2.2.1.keep ((Keep.refl _ _).alloc _).drew
          have hq3 : w3.heap.size ≤ ((w3.alloc (.cells #[.int .i64 hd] 3)).drew).heap.size := ((Keep.refl (fun _ => True) w3).alloc _).size
          have HQ := Lib.hid (And.intro hq1 (And.intro hq2 hq3))
          clear hq1 hq2 hq3
          go_cut [86, 87, 88] (fun s86 s87 s88 wx => ∃ (A4 : Option Addr) (c4 : Nat), s86 = .slice A4 (1 + ql) c4 ∧ s87 = .int .i64 (1 + (ql : Int)) ∧ s88 = .int .i64 0 ∧ Hid (wx.ownsRow w3.heap.size 3 1 (.slice A4 (1 + ql) c4) (1 + ql) ([.int .i64 hd] ++ ics qs) ∧ Keep (fun k => (Value.slice (some ⟨w3.heap.size, 0, none⟩) 1 1).ownBlock ≠ some k) ((w3.alloc (.cells #[.int .i64 hd] 3)).drew) wx))
          case first =>
            go_region_law (first
              | (refine step_app etInt2 rfl (.tmp 81) (.tmp 85) rfl w3.heap.size _ 1 [.int .i64 hd] rfl HQ.out.1 _ A2 ql c2 _ rfl HQ.out.2.1 HX.out.2.2.2.2.2.1 (ics_one _) hqb.out HQ.out.2.2 ?_
                 intro v4 w4 ho4 hk4 hn4
                 obtain ⟨A4, c4, rfl, -⟩ := own_rd ho4
                 have H4 := Lib.hid (And.intro ho4 hk4)
                 clear ho4 hk4 hn4))
            all_goals
              go_wp2_with fail
              go_meet
              exact ⟨_, _, rfl, rfl, rfl, H4⟩
          case rest =>
          rename World => w4
          obtain ⟨A4, c4, rfl, rfl, rfl, H4⟩ := hcut
          have hk34 : Keep (fun _ => True) w3 w4 := (((Keep.refl (fun _ => True) w3).alloc (.cells #[.int .i64 hd] 3)).drew).comp H4.out.2 (fun _ _ _ => trivial) (fun j hj _ e => by injection e with e; have e2 : w3.heap.size = j := e; omega)
          obtain ⟨A5, c5, e5, hrd5, -⟩ := own_rd H4.out.1
          injection e5 with e5 _ _
          subst e5
          have hg3 : g < w3.heap.size := Nat.lt_of_lt_of_le HA.out.rd.lt HX.out.2.2.2.1.size
          have hrdg : ∀ w5, Keep (fun j => j ≠ g) w4 w5 → Rd w5 (fun k => (Value.slice A4 (1 + ql) c4).ownBlock = some k) 1 A4 (1 + ql) (ics (hd :: qs)) := fun w5 hk => Rd.keep hrd5 (hk.weaken fun j _ hj e => by have := (own_lt H4.out.1 hj).1; omega)
          have hmm : ∀ w5, Keep (fun j => j ≠ g) w4 w5 → Blk w5 m 95 (mchcells bp bl tok ss).toArray := fun w5 hk => by
            have h1 := ((HA.out.blk.keep HX.out.2.2.2.1 hmg).keep hk34 trivial).keep hk hmg
            rw [HSS.out]
            exact h1
          have H5 := Lib.hid (And.intro hk34 (And.intro hrdg hmm))
          have HS16 : Hid (ss.length = 16) := Lib.hid (by rw [HSS.out, ssPut_len]; simp)
          clear hk34 hrd5 hrdg hmm k0 k2 k2a hxh hen
          go_wp2_with fail
          go_loopw [88] (fun i w5 => ∃ (k5 : Nat) (b5 : Bool), k5 ≤ 1 + ql ∧ i = .int .i64 (k5 : Int) ∧ Hid (Rdr w5 g A n c pk b5 ∧ b5 = (badx || missTo ss (hd :: qs) k5) ∧ Keep (fun j => j ≠ g) w4 w5)) (fun i _ => 1 + ql - (intOf i).toNat)
          case atStart =>
            refine ⟨0, badx, by omega, rfl, Lib.hid ⟨?_, by simp [missTo], Keep.refl _ _⟩⟩
            exact (HW.out.rd.keep HH.out.2.2.1 (fun e => hrl e.symm)).keep H5.out.1 trivial
          case round =>
            rename World => w5
            obtain ⟨k5, b5, hk5, rfl, HI⟩ := hrel
            by_cases hlt5 : k5 < 1 + ql
            · have hlen5 : k5 < (hd :: qs).length := by simp [← HX.out.2.2.2.2.2.2.2.2.2]; omega
              obtain ⟨b, o, rfl, -, hl5, hc5⟩ := (H5.out.2.1 w5 HI.out.2.2).at1 hlt5
              obtain ⟨z, hz⟩ : ∃ z, z = (hd :: qs)[k5] := ⟨_, rfl⟩
              have hz16 : 0 ≤ z ∧ z < 16 := by
                have hm5 : z ∈ hd :: qs := by rw [hz]; exact List.getElem_mem _
                obtain ⟨s1, s2⟩ := HX.out.2.2.2.2.2.2.1
                rcases List.mem_cons.1 hm5 with e | e
                · rw [e, HX.out.2.2.2.2.2.2.2.1]; exact s1
                · exact s2 z (by rw [← HX.out.2.2.2.2.2.2.2.2.1]; exact e)
              obtain ⟨pn, rfl⟩ : ∃ pn : Nat, z = (pn : Int) := ⟨z.toNat, by omega⟩
              rw [show (ics (hd :: qs))[k5] = .int .i64 (pn : Int) by simp only [ics, List.getElem_map]; rw [hz]] at hc5
              have hpn : pn < 16 := by omega
              have hpi : (pn : Int) < 16 := by omega
              have hbm := H5.out.2.2 w5 HI.out.2.2
              have hm5 := hbm.lt
              obtain ⟨ic, hic⟩ : ∃ ic, ic = (ss.getD pn noSes).inc := ⟨_, rfl⟩
              have hpl : pn < ss.length := by rw [HS16.out]; exact hpn
              have n0 : w5.cell? ⟨m, 3 + pn * 5, none⟩ = some (.int .i64 ic) := by
                have h2 := hbm.cell (3 + pn * 5)
                have h3 := mcell_sess (bp := bp) (bl := bl) (tok := tok) (ss := ss) (q := pn) (j := 0) hpl (by omega)
                rw [h2]
                simp only [List.getElem?_toArray]
                rw [Nat.add_zero] at h3
                rw [h3, hic, List.getD_eq_getElem?_getD, List.getElem?_eq_getElem hpl]
                rfl
              have g2 := HI.out.1.cell 2
              simp at g2
              have gf := HI.out.1.frozen 2
              have hg5 := HI.out.1.lt
              have hst : missTo ss (hd :: qs) (k5 + 1) = (missTo ss (hd :: qs) k5 || decide (ic = 0)) := by
                rw [missTo_succ _ _ _ hlen5, ← hz, hic]
                rfl
              have HT5 := Lib.hid hst
              clear hpl hbm hl5 hz hic hz16 hst hlen5
              by_cases h0 : ic = 0
              · have e0 : (ic == 0) = true := by simp [h0]
                have HZ := Lib.hid h0
                clear h0
                go_wp2_with fail
                exact ⟨⟨k5 + 1, true, by omega, by simp, Lib.hid ⟨HI.out.1.set 2 (.bool true), by rw [HT5.out, HZ.out]; simp, HI.out.2.2.setCell (fun _ h => h rfl) _⟩⟩, by simp only [intOf]; omega⟩
              · have e0 : (ic == 0) = false := by simp [h0]
                have HZ := Lib.hid h0
                clear h0
                go_wp2_with fail
                exact ⟨⟨k5 + 1, b5, by omega, by simp, Lib.hid ⟨HI.out.1, by rw [HT5.out, HI.out.2.1]; simp [HZ.out], HI.out.2.2⟩⟩, by simp only [intOf]; omega⟩
            · obtain rfl : k5 = 1 + ql := by omega
              go_wp2_with fail
              obtain ⟨hls, hrise, hsafe, hqlen, hSz⟩ := HLK.out
              have hbg : bl ≠ g := (hSz bl HLS.out.sb).1
              obtain ⟨ht, hr1, hk1, hlt2⟩ := HH.out
              obtain ⟨i1, i2, i3⟩ := HI.out
              have hk35 : Keep (fun j => j ≠ g) w3 w5 := H5.out.1.comp i3 (fun _ _ _ => trivial) (fun _ _ h => h)
              refine ⟨⟨todo.filter fun y => !(y == t), b5, Lib.hid ⟨hr1.keep hk35 hbg hrl, i1, ?_, HX.out.2.2.2.1.comp hk35 (fun _ _ h => h) (fun _ _ h => h)⟩⟩, ?_⟩
              · rw [i2, HW.out.bad, miss_step (missL ss) hrise HX.out.2.2.1 HX.out.2.1 ht, ← missTo_all ss x.d (1 + ql) (by rw [← HX.out.2.2.2.2.2.2.2.2.1, ← HX.out.2.2.2.2.2.2.2.2.2]; omega), HX.out.2.2.2.2.2.2.2.1, HX.out.2.2.2.2.2.2.2.2.1, Bool.or_assoc]
              · rw [hr1.left hk35 hbg hrl]
                exact hlt2
end Go.Proofs.YtioinjcdkmiafaaDoor
