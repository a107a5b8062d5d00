/-
  MERGED: DRead2
-/
import Derived.Test.YtioinjcdkmiafaaDoorYD4
import Derived.Test.YtioinjcdkmiafaaDoorYD2
namespace Go.Proofs.YtioinjcdkmiafaaDoor
set_option linter.unusedVariables false
set_option linter.unusedSimpArgs false
open Go.RowKit

theorem keep_at (w : World) (g i : Nat) (u : Value) : Keep (fun k => k < g) w (w.setCell ⟨g, i, none⟩ u) := (Keep.refl (fun k => k < g) w).setCell (p := ⟨g, i, none⟩) (fun _ h => absurd h (Nat.lt_irrefl g)) _
def azOf (l : List (Nat × SesD)) : List (Bool × SesD) := l.foldl (fun az x => az.set x.1 (true, x.2)) (List.replicate 16 (false, noSes))
theorem azOf_snoc (l : List (Nat × SesD)) (x : Nat × SesD) : azOf (l ++ [x]) = (azOf l).set x.1 (true, x.2) := by
  unfold azOf
  rw [List.foldl_append]
  rfl
theorem sesNext_snoc (l : List (Nat × SesD)) (x : Nat × SesD) : sesNext (l ++ [x]) = x.1 + 1 := by
  unfold sesNext
  rw [List.getLast?_concat]
section
variable {bs : Txt} {A : Option Addr} {n c g : Nat} {Z : Nat → Prop} {w0 w w2 : World} {d : Nat} {pv hv v : Value} {ps : List (Txt × Txt)} {hs : List DLk} {tok : Int} {az : List (Bool × SesD)} {p : Nat} {e : Int}
theorem DRw.foot {B : Nat} (h : DRw B w d pv hv ps hs tok az) {k : Nat} (hk : DFoot d pv hv hs k) : B ≤ k ∧ k < w.heap.size := by
  rcases hk with rfl | hk | hk | ⟨x, hx, hk⟩
  · exact ⟨h.bd, h.blk.lt⟩
  · exact own_lt h.pr hk
  · exact own_lt h.lk hk
  · exact own_lt (h.qs x hx) hk
theorem DRw.keepF {B : Nat} {Z' : Nat → Prop} {w' : World} (h : DRw B w d pv hv ps hs tok az) (hk : Keep Z' w w') (hz : ∀ k, DFoot d pv hv hs k → Z' k) : DRw B w' d pv hv ps hs tok az :=
  ⟨h.blk.keep hk (hz d (.inl rfl)), h.bd, own_keep h.pr hk fun k hk => hz k (.inr (.inl hk)), own_keep h.lk hk fun k hk => hz k (.inr (.inr (.inl hk))), fun x hx => own_keep (h.qs x hx) hk fun k hk => hz k (.inr (.inr (.inr ⟨x, hx, hk⟩))), h.ap, h.s16⟩
theorem RdAt.gd (hI : RdIn bs A n c g Z w0) (h : RdAt bs A n c g Z w0 w d pv hv ps hs tok az p e) : g < d := Nat.lt_of_lt_of_le hI.lt h.dr.bd
theorem RdAt.later (h : RdAt bs A n c g Z w0 w d pv hv ps hs tok az p e) (hf : Fresh w w2) : RdAt bs A n c g Z w0 w2 d pv hv ps hs tok az p e :=
  ⟨h.dr.fresh hf, Blk.keep h.rd hf trivial, h.le, h.kp.comp hf (fun _ _ h => h) fun _ _ _ => trivial⟩
/-- Something behind N was written. -/
theorem RdAt.behind (hI : RdIn bs A n c g Z w0) (h : RdAt bs A n c g Z w0 w d pv hv ps hs tok az p e) {N : Nat} (hN : w0.heap.size ≤ N) (hl : ∀ k, DFoot d pv hv hs k → k < N) (hk : Keep (fun k => k < N) w w2) : RdAt bs A n c g Z w0 w2 d pv hv ps hs tok az p e := by
  have := hI.lt
  exact ⟨h.dr.keepF hk hl, Blk.keep h.rd hk (show g < N by omega), h.le, h.kp.comp hk (fun _ _ h => h) fun k hk _ => by omega⟩
theorem RdAt.setTok (hI : RdIn bs A n c g Z w0) (h : RdAt bs A n c g Z w0 w d pv hv ps hs tok az p e) (t : Int) : RdAt bs A n c g Z w0 (w.setCell ⟨d, 2, none⟩ (.int .i64 t)) d pv hv ps hs t az p e := by
  have := h.gd hI
  have := h.dr.bd
  exact ⟨h.dr.setTok t, Blk.far h.rd (p := ⟨d, 2, none⟩) (by simp; omega) _, h.le, h.kp.setCell (fun h => absurd h (by simp; omega)) _⟩
theorem RdAt.addPair (hI : RdIn bs A n c g Z w0) (h : RdAt bs A n c g Z w0 w d pv hv ps hs tok az p e) {x : Txt × Txt} (ho : w2.ownsRow w0.heap.size 109 2 v (ps.length + 1) (pcells ps ++ pairC x)) (hk : Keep (fun k => pv.ownBlock ≠ some k) w w2) :
    RdAt bs A n c g Z w0 (w2.setCell ⟨d, 0, none⟩ v) d v hv (ps ++ [x]) hs tok az p e := by
  have := h.gd hI
  have := h.dr.bd
  exact ⟨h.dr.addPair ho hk, (Blk.keep h.rd hk (own_ne_blk h.dr.pr h.rd (by decide))).far (p := ⟨d, 0, none⟩) (by simp; omega) _, h.le, (h.kp.comp hk (fun _ _ h => h) fun k hk2 _ e => by have := (own_lt h.dr.pr e).1; omega).setCell (fun h => absurd h (by simp; omega)) _⟩
theorem RdAt.addLock (hI : RdIn bs A n c g Z w0) (h : RdAt bs A n c g Z w0 w d pv hv ps hs tok az p e) {x : DLk} (ho : w2.ownsRow w0.heap.size 111 4 v (hs.length + 1) (rcells DLk.cells hs ++ DLk.cells x)) (hk : Keep (fun k => hv.ownBlock ≠ some k) w w2)
    (hq : w.ownsRow w0.heap.size 3 1 x.q x.d.queue.length (ics x.d.queue)) (ha : ∀ y ∈ hs, ∀ k, y.q.ownBlock = some k → x.q.ownBlock ≠ some k) :
    RdAt bs A n c g Z w0 (w2.setCell ⟨d, 1, none⟩ v) d pv v ps (hs ++ [x]) tok az p e := by
  have := h.gd hI
  have := h.dr.bd
  exact ⟨h.dr.addLock ho hk hq ha, (Blk.keep h.rd hk (own_ne_blk h.dr.lk h.rd (by decide))).far (p := ⟨d, 1, none⟩) (by simp; omega) _, h.le, (h.kp.comp hk (fun _ _ h => h) fun k hk2 _ e => by have := (own_lt h.dr.lk e).1; omega).setCell (fun h => absurd h (by simp; omega)) _⟩
theorem rcl_ask {q : Nat} (hq : q < az.length) (z : SesD) :
    ((((((rcl pv hv tok az).toArray.setIfInBounds (3 + q * 6) (.bool true)).setIfInBounds (3 + q * 6 + 1) (.int .i64 z.inc)).setIfInBounds (3 + q * 6 + 2) (.int .i64 z.req)).setIfInBounds (3 + q * 6 + 3) (.int .i64 z.last.code)).setIfInBounds (3 + q * 6 + 4) (str z.last.val)).setIfInBounds (3 + q * 6 + 5) (.int .i64 z.last.n) = (rcl pv hv tok (az.set q (true, z))).toArray := by
  have e : ∀ (xs : List Value) (j : Nat) (u : Value), (pv :: hv :: Value.int .i64 tok :: xs).toArray.setIfInBounds (3 + j) u = (pv :: hv :: Value.int .i64 tok :: xs.set j u).toArray := fun xs j u => by
    rw [List.setIfInBounds_toArray, show 3 + j = j + 1 + 1 + 1 by omega]
    rfl
  unfold rcl
  have h : ∀ j, 3 + q * 6 + j = 3 + (q * 6 + j) := fun j => by omega
  rw [h 1, h 2, h 3, h 4, h 5, e, e, e, e, e, e]
  have g0 := rcells_set askR_six az q hq 0 (.bool true) (true, az[q].2) (by omega) rfl
  rw [Nat.add_zero] at g0
  have g1 := rcells_set askR_six (az.set q (true, az[q].2)) q (by simpa using hq) 1 (.int .i64 z.inc) (true, ⟨z.inc, az[q].2.req, az[q].2.last⟩) (by omega) (by rw [List.getElem_set_self]; rfl)
  rw [List.set_set] at g1
  have g2 := rcells_set askR_six (az.set q (true, ⟨z.inc, az[q].2.req, az[q].2.last⟩)) q (by simpa using hq) 2 (.int .i64 z.req) (true, ⟨z.inc, z.req, az[q].2.last⟩) (by omega) (by rw [List.getElem_set_self]; rfl)
  rw [List.set_set] at g2
  have g3 := rcells_set askR_six (az.set q (true, ⟨z.inc, z.req, az[q].2.last⟩)) q (by simpa using hq) 3 (.int .i64 z.last.code) (true, ⟨z.inc, z.req, ⟨z.last.code, az[q].2.last.val, az[q].2.last.n⟩⟩) (by omega) (by rw [List.getElem_set_self]; rfl)
  rw [List.set_set] at g3
  have g4 := rcells_set askR_six (az.set q (true, ⟨z.inc, z.req, ⟨z.last.code, az[q].2.last.val, az[q].2.last.n⟩⟩)) q (by simpa using hq) 4 (str z.last.val) (true, ⟨z.inc, z.req, ⟨z.last.code, z.last.val, az[q].2.last.n⟩⟩) (by omega) (by rw [List.getElem_set_self]; rfl)
  rw [List.set_set] at g4
  have g5 := rcells_set askR_six (az.set q (true, ⟨z.inc, z.req, ⟨z.last.code, z.last.val, az[q].2.last.n⟩⟩)) q (by simpa using hq) 5 (.int .i64 z.last.n) (true, z) (by omega) (by rw [List.getElem_set_self]; rfl)
  rw [List.set_set] at g5
  rw [g0, g1, g2, g3, g4, g5]
theorem RdAt.setAsk (hI : RdIn bs A n c g Z w0) (h : RdAt bs A n c g Z w0 w d pv hv ps hs tok az p e) {q : Nat} (hq : q < 16) (z : SesD) :
    RdAt bs A n c g Z w0 ((((((w.setCell ⟨d, 3 + q * 6, none⟩ (.bool true)).setCell ⟨d, 3 + q * 6 + 1, none⟩ (.int .i64 z.inc)).setCell ⟨d, 3 + q * 6 + 2, none⟩ (.int .i64 z.req)).setCell ⟨d, 3 + q * 6 + 3, none⟩ (.int .i64 z.last.code)).setCell ⟨d, 3 + q * 6 + 4, none⟩ (str z.last.val)).setCell ⟨d, 3 + q * 6 + 5, none⟩ (.int .i64 z.last.n)) d pv hv ps hs tok (az.set q (true, z)) p e := by
  have b6 := (((((h.dr.blk.set (3 + q * 6) (.bool true)).set (3 + q * 6 + 1) (.int .i64 z.inc)).set (3 + q * 6 + 2) (.int .i64 z.req)).set (3 + q * 6 + 3) (.int .i64 z.last.code)).set (3 + q * 6 + 4) (str z.last.val)).set (3 + q * 6 + 5) (.int .i64 z.last.n)
  rw [rcl_ask (by rw [h.dr.s16]; exact hq) z] at b6
  have hk : Keep (fun k => k ≠ d) w ((((((w.setCell ⟨d, 3 + q * 6, none⟩ (.bool true)).setCell ⟨d, 3 + q * 6 + 1, none⟩ (.int .i64 z.inc)).setCell ⟨d, 3 + q * 6 + 2, none⟩ (.int .i64 z.req)).setCell ⟨d, 3 + q * 6 + 3, none⟩ (.int .i64 z.last.code)).setCell ⟨d, 3 + q * 6 + 4, none⟩ (str z.last.val)).setCell ⟨d, 3 + q * 6 + 5, none⟩ (.int .i64 z.last.n)) :=
    ((((((Keep.refl _ w).setCell (fun _ h => h rfl) _).setCell (fun _ h => h rfl) _).setCell (fun _ h => h rfl) _).setCell (fun _ h => h rfl) _).setCell (fun _ h => h rfl) _).setCell (fun _ h => h rfl) _
  have hgd := h.gd hI
  have hbd := h.dr.bd
  refine ⟨⟨b6, hbd, own_keep h.dr.pr hk fun k hk e => own_ne_blk h.dr.pr h.dr.blk (by decide) (e ▸ hk), own_keep h.dr.lk hk fun k hk e => own_ne_blk h.dr.lk h.dr.blk (by decide) (e ▸ hk), fun x hx => own_keep (h.dr.qs x hx) hk fun k hk e => own_ne_blk (h.dr.qs x hx) h.dr.blk (by decide) (e ▸ hk), h.dr.ap, by rw [List.length_set]; exact h.dr.s16⟩, Blk.keep h.rd hk (by omega), h.le, h.kp.comp hk (fun _ _ h => h) fun k hk2 _ e => by omega⟩
end
def ReadP' (bs : Txt) (A : Option Addr) (n c g : Nat) (Z : Nat → Prop) (w0 : World) (en : Ending) (w' : World) : Prop :=
  ∃ (d : Nat) (pv hv : Value) (hs : List DLk) (r : RawD) (p : Nat) (er : Int), en = .returned (.pointer (some ⟨d, 0, none⟩)) ∧ El (oRaw bs) rawGood 3 0 r p er ∧ RdAt bs A n c g Z w0 w' d pv hv r.pairs hs (r.tok : Int) (azOf r.sess) p er ∧ hs.map DLk.d = r.locks

set_option maxRecDepth 20000 in
set_option maxHeartbeats 20000000 in
theorem dread_any {bs : Txt} {A : Option Addr} {n c g : Nat} {Z : Nat → Prop} {w0 : World} (hI : RdIn bs A n c g Z w0) (hg : RRd w0 g A n c 3 0) (h3 : 3 ≤ n) :
    Calls Tryd.prog 31 #[.pointer (some ⟨g, 0, none⟩)] w0 (ReadP' bs A n c g Z w0) := by
  have HI := Lib.hid hI
  have HG := Lib.hid (And.intro hg h3)
  clear hI hg h3
  go_enter Tryd.func31, Tryd.ntmps31
  go_upto_region 2 with (fail)
  generalize hw1 : World.alloc w0 _ = w1
  obtain ⟨d, hd⟩ : ∃ d, d = w0.heap.size := ⟨_, rfl⟩
  have hb1 : Blk w1 d 107 (rcl (.slice none 0 0) (.slice none 0 0) 0 (azOf [])).toArray := by
    rw [← hw1, hd]
    exact Blk.new _ _ _
  have hf1 : Fresh w0 w1 := by rw [← hw1]; exact (Keep.refl _ w0).alloc _
  have hR1 : RdAt bs A n c g Z w0 w1 d (.slice none 0 0) (.slice none 0 0) [] [] 0 (azOf []) 3 0 := ⟨⟨hb1, by omega, by exact World.ownsRow_nil _ _ _ _, by exact World.ownsRow_nil _ _ _ _, fun x hx => by (cases hx), List.Pairwise.nil, rfl⟩, Blk.keep HG.out.1 hf1 trivial, HG.out.2, hf1.weaken fun _ _ _ => trivial⟩
  have HN1 := Lib.hid (hR1.num HI.out 0 99999999 99999999 rfl)
  rw [← hd]
  have HD := Lib.hid hd
  clear hb1 hf1 hR1 hw1 hd
  go_wp2_with fail
  refine Calls.mono HN1.out ?_
  rintro en w2 ⟨tk, p1, e1, rfl, E1, hv1, hR2, -⟩
  obtain ⟨-, -, x2, -, -, z2, ld⟩ := hR2.dr.three
  have hR3 := hR2.setTok HI.out (tk : Int)
  obtain ⟨w3, hw3⟩ : ∃ w3, w3 = w2.setCell ⟨d, 2, none⟩ (.int .i64 (tk : Int)) := ⟨_, rfl⟩
  rw [← hw3] at hR3
  have HE1 := Lib.hid E1
  have HN2 := Lib.hid (hR3.num HI.out 0 16 16 rfl)
  clear hR2 hR3 E1 HN1
  go_upto_region 3 with (fail)
  rw [← hw3]
  clear hw3 x2 z2 ld
  go_wp2_with fail
  refine Calls.mono HN2.out ?_
  rintro en w4 ⟨a, p2, e2, rfl, E2, ha16, hR4, -⟩
  have HE2 := Lib.hid E2
  have HR4 := Lib.hid hR4
  clear E2 hR4 HN2
  go_wp2_with fail
  go_loopw [5] (fun iv wr => ∃ j : Nat, j ≤ a ∧ iv = .int .i64 (j : Int) ∧ Hid (∃ pv ps p e, ps.length = j ∧ RdAt bs A n c g Z w0 wr d pv (.slice none 0 0) ps [] (tk : Int) (azOf []) p e ∧ El (oMany (oPair bs) j) (fun l => ∀ x ∈ l, x.1 ≠ []) p2 e2 ps p e)) (fun i _ => a - (intOf i).toNat)
  case atStart => exact ⟨0, by omega, rfl, Lib.hid ⟨_, [], _, _, rfl, HR4.out, El.many0 (by intro x hx; cases hx) _ _⟩⟩
  case round =>
    rename World => wr
    obtain ⟨j, hj, rfl, HR⟩ := hrel
    obtain ⟨pv, ps, p, e, hpl, hR, hE⟩ := HR.out
    by_cases hlt : j < a
    · have hji : (j : Int) < (a : Int) := by omega
      have HB := Lib.hid (hR.byt HI.out)
      have HE := Lib.hid (And.intro hE hpl)
      clear hR hE hpl HR
      go_wp2_with fail
      refine Calls.mono HB.out ?_
      rintro en w5 ⟨kk, u5, p5, e5, rfl, ho5, E5, hk8, hR5, -⟩
      obtain ⟨A5, c5, rfl, hrd5, -⟩ := own_rd ho5
      have hcv : (convert 27 9 (.slice A5 kk.length c5)).run Tryd.prog w5 = .ok (str kk) w5 := run_conv_str Tryd.underlying27 Tryd.underlying5 Tryd.underlying9 hrd5 c5
      have HT := Lib.hid (hR5.txt HI.out)
      have HE5 := Lib.hid E5
      obtain ⟨m, hm⟩ : ∃ m, m = kk.length := ⟨_, rfl⟩
      rw [← hm] at hcv ⊢
      clear ho5 hrd5 hR5 E5 HB hm
      go_wp2_with fail
      refine Calls.mono HT.out ?_
      rintro en w6 ⟨vv, p6, e6, rfl, E6, hv8, hR6, -⟩
      have HE6 := Lib.hid E6
      have HR6 := Lib.hid hR6
      obtain ⟨x0, -, -, z0, -, -, ld⟩ := hR6.dr.three
      clear E6 hR6 HT hcv
      go_wp2_with (at_builtin; refine wpList_appB etPair rfl (.tmp 40) (.tmp 44) rfl #[str kk, str vv] 109 rfl (pair_one kk vv) w0.heap.size _ _ _ w6.heap.size rfl rfl rfl HR6.out.dr.pr (by have := HE.out.2; omega) HR6.out.kp.size ?_)
      intro v7 w7 ho7 hk7 hn7
      have hR8 := HR6.out.addPair HI.out (x := (kk, vv)) (v := v7) (by simpa [pairC] using ho7) hk7
      have hpb : pv.ownBlock ≠ some d := own_ne_blk HR6.out.dr.pr HR6.out.dr.blk (by decide)
      have x0 := hk7.cellAt x0 hpb
      have z0 := (hk7.frozen (p := ⟨d, 0, none⟩) ld hpb).trans z0
      have ld := Nat.lt_of_lt_of_le ld hk7.size
      obtain ⟨A7, c7, rfl, -⟩ := own_rd ho7
      obtain ⟨w8, hw8⟩ : ∃ w8, w8 = w7.setCell ⟨d, 0, none⟩ (.slice A7 (ps.length + 1) c7) := ⟨_, rfl⟩
      rw [← hw8] at hR8
      have hE8 := El.manyS (G := fun l : List (Txt × Txt) => ∀ x ∈ l, x.1 ≠ []) (gd := fun _ x => x.1 ≠ []) (fun ys y => all_snoc (g := fun x : Txt × Txt => x.1 ≠ []) ys y) HE.out.1 (El.pair HE5.out HE6.out)
      have H8 := Lib.hid (And.intro hR8 hE8)
      have HPL := Lib.hid HE.out.2
      clear ho7 hk7 hn7 hR8 hE8 hpb HR6
      go_upto_region 6 with (fail)
      rw [← hw8]
      clear hw8 x0 z0 ld
      go_wp2_with fail
      exact ⟨⟨j + 1, by omega, by simp, Lib.hid ⟨_, _, _, _, by rw [List.length_append, HPL.out]; rfl, H8.out.1, H8.out.2⟩⟩, by simp only [intOf]; omega⟩
    · obtain rfl : j = a := by omega
      have HE3 := Lib.hid hE
      have HN3 := Lib.hid (hR.num HI.out 0 8 8 rfl)
      clear hR hE HR hpl HR4
      go_wp2_with fail
      refine Calls.mono HN3.out ?_
      rintro en w5 ⟨b, p4, e4, rfl, E4, hb8, hR5, -⟩
      have HE4 := Lib.hid E4
      have HR5 := Lib.hid hR5
      clear E4 hR5 HN3
      go_wp2_with fail
      go_loopw [8] (fun iv wr => ∃ j : Nat, j ≤ b ∧ iv = .int .i64 (j : Int) ∧ Hid (∃ hv hs p e, hs.length = j ∧ RdAt bs A n c g Z w0 wr d pv hv ps hs (tk : Int) (azOf []) p e ∧ El (oMany (oLock bs) j) (fun l => ∀ x ∈ l, lkGood x) p4 e4 (hs.map DLk.d) p e)) (fun i _ => b - (intOf i).toNat)
      case atStart => exact ⟨0, by omega, rfl, Lib.hid ⟨_, [], _, _, rfl, HR5.out, El.many0 (by intro x hx; cases hx) _ _⟩⟩
      case round =>
        rename World => wr2
        obtain ⟨i, hi, rfl, HL⟩ := hrel
        obtain ⟨hv, hs, p, e, hhl, hR, hE⟩ := HL.out
        by_cases hlt2 : i < b
        · have hii : (i : Int) < (b : Int) := by omega
          obtain ⟨g9, hg9⟩ : ∃ g, g = wr2.heap.size := ⟨_, rfl⟩
          have hft : ∀ k, DFoot d pv hv hs k → k < g9 := fun k hk => by rw [hg9]; exact (hR.dr.foot hk).2
          have hwN : w0.heap.size ≤ g9 := by rw [hg9]; exact hR.kp.size
          have hgN : g < g9 := Nat.lt_of_lt_of_le HI.out.lt hwN
          go_upto_region 15 with (fail)
          generalize hw4 : World.alloc wr2 _ = w4
          have hb4 : Blk w4 g9 111 #[str [], .int .i64 0, .int .i64 0, .slice none 0 0] := by
            rw [← hw4, hg9]
            exact Blk.new _ _ _
          have hf4 : Fresh wr2 w4 := by rw [← hw4]; exact (Keep.refl _ wr2).alloc _
          have hR4 := hR.later hf4
          have hlt9 : g9 < w4.heap.size := hb4.lt
          rw [← hg9]
          have HB := Lib.hid (hR4.byt HI.out)
          have HQ := Lib.hid (And.intro hft (And.intro hwN (And.intro hgN (And.intro hE hhl))))
          have HBk := Lib.hid hb4
          clear hw4 hb4 hf4 hR4 hR hE HL hhl hft hg9 hwN hgN
          go_wp2_with fail
          refine Calls.mono HB.out ?_
          rintro en w5 ⟨nm, u5, p5, e5, rfl, ho5, E5, hn8, hR5, hk5⟩
          obtain ⟨A5, c5, rfl, hrd5, -⟩ := own_rd ho5
          have hcv : (convert 27 9 (.slice A5 nm.length c5)).run Tryd.prog w5 = .ok (str nm) w5 := run_conv_str Tryd.underlying27 Tryd.underlying5 Tryd.underlying9 hrd5 c5
          obtain ⟨m, hm⟩ : ∃ m, m = nm.length := ⟨_, rfl⟩
          rw [← hm] at hcv ⊢
          have hb5 := HBk.out.keep hk5 (Nat.ne_of_gt HQ.out.2.2.1)
          have u0 := hb5.cell 0
          have y0 := hb5.frozen 0
          simp at u0
          have lu := hb5.lt
          have hb6 := hb5.set 0 (str nm)
          have hR6 := hR5.behind HI.out HQ.out.2.1 HQ.out.1 (w2 := w5.setCell ⟨g9, 0, none⟩ (str nm)) (keep_at _ _ _ _)
          obtain ⟨w6, hw6⟩ : ∃ w6, w6 = w5.setCell ⟨g9, 0, none⟩ (str nm) := ⟨_, rfl⟩
          rw [← hw6] at hb6 hR6
          have HE5 := Lib.hid E5
          have HB6 := Lib.hid hb6
          have HT := Lib.hid (hR6.num HI.out 0 15 15 rfl)
          clear ho5 hrd5 hR5 hk5 E5 HB hm hb5 hb6 hR6 HBk hlt9
          go_upto_region 16 with (fail)
          rw [← hw6]
          clear hw6 hcv u0 y0 lu
          go_wp2_with fail
          refine Calls.mono HT.out ?_
          rintro en w7 ⟨ho, p6b, e6b, rfl, E6b, hho15, hR7, hk7⟩
          have hb7 := HB6.out.keep hk7 (Nat.ne_of_gt HQ.out.2.2.1)
          have u0 := hb7.cell 1
          have y0 := hb7.frozen 1
          simp at u0
          have lu := hb7.lt
          have hb8 := hb7.set 1 (.int .i64 (ho : Int))
          have hR8 := hR7.behind HI.out HQ.out.2.1 HQ.out.1 (w2 := w7.setCell ⟨g9, 1, none⟩ (.int .i64 (ho : Int))) (keep_at _ _ _ _)
          obtain ⟨w8, hw8⟩ : ∃ w8, w8 = w7.setCell ⟨g9, 1, none⟩ (.int .i64 (ho : Int)) := ⟨_, rfl⟩
          rw [← hw8] at hb8 hR8
          have HE6b := Lib.hid E6b
          clear HB6
          have HB6 := Lib.hid hb8
          clear HT
          have HT := Lib.hid (hR8.num HI.out 1 99999999 99999999 rfl)
          clear hR7 hk7 E6b hb7 hb8 hR8
          go_upto_region 17 with (fail)
          rw [← hw8]
          clear hw8 u0 y0 lu
          go_wp2_with fail
          refine Calls.mono HT.out ?_
          rintro en w7 ⟨tkn, p7b, e7b, rfl, E7b, htkn15, hR7, hk7⟩
          have hb7 := HB6.out.keep hk7 (Nat.ne_of_gt HQ.out.2.2.1)
          have u0 := hb7.cell 2
          have y0 := hb7.frozen 2
          simp at u0
          have lu := hb7.lt
          have hb8 := hb7.set 2 (.int .i64 (tkn : Int))
          have hR8 := hR7.behind HI.out HQ.out.2.1 HQ.out.1 (w2 := w7.setCell ⟨g9, 2, none⟩ (.int .i64 (tkn : Int))) (keep_at _ _ _ _)
          obtain ⟨w8, hw8⟩ : ∃ w8, w8 = w7.setCell ⟨g9, 2, none⟩ (.int .i64 (tkn : Int)) := ⟨_, rfl⟩
          rw [← hw8] at hb8 hR8
          have HE7b := Lib.hid E7b
          clear HB6
          have HB6 := Lib.hid hb8
          clear HT
          have HT := Lib.hid (hR8.num HI.out 0 15 15 rfl)
          clear hR7 hk7 E7b hb7 hb8 hR8
          go_upto_region 18 with (fail)
          rw [← hw8]
          clear hw8 u0 y0 lu
          go_wp2_with fail
          refine Calls.mono HT.out ?_
          rintro en w9 ⟨wn, p8, e8, rfl, E8, hwn15, hR9, hk9⟩
          have hb9 := HB6.out.keep hk9 (Nat.ne_of_gt HQ.out.2.2.1)
          simp only [List.setIfInBounds_toArray, List.set_cons_zero, List.set_cons_succ] at hb9
          have HE8 := Lib.hid E8
          have H9 := Lib.hid (And.intro hR9 hb9)
          clear hR9 hk9 hb9 E8 HT HB6
          go_wp2_with fail
          go_loopw [11] (fun iv wq => ∃ t : Nat, t ≤ wn ∧ iv = .int .i64 (t : Int) ∧ Hid (∃ qv ql p e, ql.length = t ∧ RdAt bs A n c g Z w0 wq d pv hv ps hs (tk : Int) (azOf []) p e ∧ El (oMany (oCl bs) t) (fun l => ∀ x ∈ l, True) p8 e8 ql p e ∧ wq.ownsRow (g9 + 1) 3 1 qv ql.length (ics ql) ∧ Blk wq g9 111 #[str nm, .int .i64 (ho : Int), .int .i64 (tkn : Int), qv])) (fun i _ => wn - (intOf i).toNat)
          case atStart => exact ⟨0, by omega, rfl, Lib.hid ⟨_, [], _, _, rfl, H9.out.1, El.many0 (fun _ _ => trivial) _ _, by exact World.ownsRow_nil _ _ _ _, H9.out.2⟩⟩
          case round =>
            rename World => wq
            obtain ⟨t, ht, rfl, HW⟩ := hrel
            obtain ⟨qv, ql, p, e, hql, hR, hE, ho, hb⟩ := HW.out
            by_cases htl : t < wn
            · have hti : (t : Int) < (wn : Int) := by omega
              have HT := Lib.hid (hR.num HI.out 0 15 15 rfl)
              have HW2 := Lib.hid (And.intro hql (And.intro hE (And.intro ho hb)))
              clear hR hql hE ho hb HW
              go_wp2_with fail
              refine Calls.mono HT.out ?_
              rintro en w10 ⟨cq, p10, e10, rfl, E10, hcq15, hR10, hk10⟩
              have hb10 := HW2.out.2.2.2.keep hk10 (Nat.ne_of_gt HQ.out.2.2.1)
              have ho10 := own_keep HW2.out.2.2.1 hk10 fun k hk => by have := (own_lt HW2.out.2.2.1 hk).1; have := HQ.out.2.2.1; omega
              have u3 := hb10.cell 3
              have y3 := hb10.frozen 3
              simp at u3
              have lu := hb10.lt
              have HE10 := Lib.hid E10
              have H10 := Lib.hid (And.intro hR10 (And.intro hb10 ho10))
              clear hR10 hb10 ho10 E10 HT hk10
              go_wp2_with (at_builtin; refine wpList_app1 etInt2 rfl (.tmp 76) (.tmp 78) rfl (.int .i64 (cq : Int)) _ rfl (g9 + 1) _ _ _ rfl rfl H10.out.2.2 (by have := HW2.out.1; omega) (by have := H10.out.2.1.lt; omega) ?_)
              intro v11 w11 ho11 hk11 hn11
              have hqN : ∀ k, qv.ownBlock = some k → g9 < k := fun k hk => by have := (own_lt H10.out.2.2 hk).1; omega
              have hR11 := H10.out.1.behind HI.out HQ.out.2.1 HQ.out.1 (hk11.weaken fun k _ (hk : k < g9) e => by have := hqN k e; omega)
              have hb11 := H10.out.2.1.keep hk11 fun e => by have := hqN g9 e; omega
              have u3 := hb11.cell 3
              have y3 := hb11.frozen 3
              simp at u3
              have lu := hb11.lt
              have hl11 : (ql.length + 1 : Nat) = (ql ++ [(cq : Int)]).length := by simp
              have ho11 : w11.ownsRow (g9 + 1) 3 1 v11 (ql ++ [(cq : Int)]).length (ics (ql ++ [(cq : Int)])) := by
                rw [← hl11]
                simpa [ics] using ho11
              obtain ⟨A11, c11, rfl, -⟩ := own_rd ho11
              obtain ⟨lx, hlx⟩ : ∃ l, l = (ql ++ [(cq : Int)]).length := ⟨_, rfl⟩
              have hlx1 : ql.length + 1 = lx := by rw [hlx]; exact hl11
              have hb12 := hb11.set 3 (.slice A11 lx c11)
              have hR12 := hR11.behind HI.out HQ.out.2.1 HQ.out.1 (w2 := w11.setCell ⟨g9, 3, none⟩ (.slice A11 lx c11)) (keep_at _ _ _ _)
              rw [← hlx] at ho11 ⊢
              have ho12 := own_far ho11 (p := ⟨g9, 3, none⟩) (fun e => by have := (own_lt ho11 e).1; simp at this; omega) (.slice A11 lx c11)
              obtain ⟨w12, hw12⟩ : ∃ w12, w12 = w11.setCell ⟨g9, 3, none⟩ (.slice A11 lx c11) := ⟨_, rfl⟩
              rw [← hw12] at hb12 hR12 ho12
              simp only [List.setIfInBounds_toArray, List.set_cons_zero, List.set_cons_succ] at hb12
              have hE12 := El.manyS (G := fun l : List Int => ∀ x ∈ l, True) (gd := fun _ _ => True) (fun ys y => all_snoc (g := fun _ : Int => True) ys y) HW2.out.2.1 (El.cl HE10.out)
              have HLx := Lib.hid (show lx = (ql ++ [(cq : Int)]).length ∧ (ql ++ [(cq : Int)]).length = t + 1 from ⟨hlx, by rw [List.length_append, HW2.out.1]; rfl⟩)
              have H12 := Lib.hid (And.intro hR12 (And.intro hE12 (And.intro ho12 hb12)))
              clear ho11 hk11 hn11 hqN hR11 hb11 hb12 hR12 ho12 hE12 hl11 hlx hlx1 H10
              go_upto_region 21 with (fail)
              rw [← hw12]
              clear hw12 u3 y3 lu
              go_wp2_with fail
              exact ⟨⟨t + 1, by omega, by simp, Lib.hid ⟨_, ql ++ [(cq : Int)], _, _, HLx.out.2, H12.out.1, H12.out.2.1, by rw [← HLx.out.1]; exact H12.out.2.2.1, H12.out.2.2.2⟩⟩, by simp only [intOf]; omega⟩
            · obtain rfl : t = wn := by omega
              have hEl := El.lock HE5.out HE6b.out HE7b.out HE8.out hE
              have hEm := El.manyS (G := fun l : List LockD => ∀ x ∈ l, lkGood x) (gd := fun _ x => lkGood x) (fun ys y => all_snoc (g := lkGood) ys y) HQ.out.2.2.2.1 hEl
              obtain ⟨Aq, cq, rfl, -⟩ := own_rd ho
              obtain ⟨lx, hlx⟩ : ∃ l, l = ql.length := ⟨_, rfl⟩
              rw [← hlx] at ho hb
              have u0 := hb.cell 0; have u1 := hb.cell 1; have u2 := hb.cell 2; have u3 := hb.cell 3
              simp at u0 u1 u2 u3
              have lu := hb.lt
              obtain ⟨-, x1, -, -, z1, -, ld⟩ := hR.dr.three
              have H13 := Lib.hid (And.intro hR (And.intro ho (And.intro hb (And.intro hlx hEm))))
              clear hR hE ho hb hEl hEm HW hql hlx H9 HR5
              obtain ⟨Ah, ch, rfl, -⟩ := own_rd H13.out.1.dr.lk
              obtain ⟨nh, hnh⟩ : ∃ n, n = hs.length := ⟨_, rfl⟩
              rw [← hnh] at x1
              have hW1 : Fresh wq ((World.drew wq).alloc (.cells #[str nm, .int .i64 (ho : Int), .int .i64 (tkn : Int), .slice Aq lx cq] 111)) := ((Keep.refl _ wq).drew).alloc _
              have hRW := H13.out.1.later hW1
              have hlkW := hRW.dr.lk
              rw [← hnh] at hlkW
              have hvl : ∀ k, (Value.slice Ah nh ch).ownBlock = some k → k < g9 := fun k hk => HQ.out.1 k (.inr (.inr (.inl (by rw [← hnh]; exact hk))))
              have hvd : (Value.slice Ah nh ch).ownBlock ≠ some d := own_ne_blk hlkW hRW.dr.blk (by decide)
              have HW1 := Lib.hid (And.intro hW1 (And.intro hlkW (And.intro hRW.kp.size (And.intro hRW (And.intro hvl hvd)))))
              have xA := hW1.cellAt x1 trivial
              have uA := And.intro (hW1.cellAt u0 trivial) (And.intro (hW1.cellAt u1 trivial) (And.intro (hW1.cellAt u2 trivial) (hW1.cellAt u3 trivial)))
              have hnh8 : nh ≤ 100 := by have := HQ.out.2.2.2.2; omega
              have HNh := Lib.hid hnh
              have HS : Hid (∀ w', Keep (fun k => k ≠ d ∧ (Value.slice Ah nh ch).ownBlock ≠ some k) wq w' → w'.cell? ⟨g9, 0, none⟩ = some (str nm) ∧ w'.cell? ⟨g9, 1, none⟩ = some (.int .i64 (ho : Int)) ∧ w'.cell? ⟨g9, 2, none⟩ = some (.int .i64 (tkn : Int)) ∧ w'.cell? ⟨g9, 3, none⟩ = some (.slice Aq lx cq)) := Lib.hid fun w' hk => by
                have hgd : g9 ≠ d := fun e => by have := HQ.out.1 d (.inl rfl); omega
                have hgv : (Value.slice Ah nh ch).ownBlock ≠ some g9 := fun e => by have := HW1.out.2.2.2.2.1 g9 e; omega
                exact ⟨hk.cellAt u0 ⟨hgd, hgv⟩, hk.cellAt u1 ⟨hgd, hgv⟩, hk.cellAt u2 ⟨hgd, hgv⟩, hk.cellAt u3 ⟨hgd, hgv⟩⟩
              have HX : Hid (∀ w', Keep (fun k => (Value.slice Ah nh ch).ownBlock ≠ some k) wq w' → w'.cell? ⟨d, 1, none⟩ = some (.slice Ah nh ch) ∧ w'.frozen? ⟨d, 1, none⟩ = false ∧ d < w'.heap.size) := Lib.hid fun w' hk => ⟨hk.cellAt x1 HW1.out.2.2.2.2.2, (hk.frozen (p := ⟨d, 1, none⟩) ld HW1.out.2.2.2.2.2).trans z1, Nat.lt_of_lt_of_le ld hk.size⟩
              clear hW1 hRW hlkW hvl hvd hnh
              go_upto_region 24 with (fail)
              refine wp_region_held_drew (S := fun w' => w'.cell? ⟨g9, 0, none⟩ = some (str nm) ∧ w'.cell? ⟨g9, 1, none⟩ = some (.int .i64 (ho : Int)) ∧ w'.cell? ⟨g9, 2, none⟩ = some (.int .i64 (tkn : Int)) ∧ w'.cell? ⟨g9, 3, none⟩ = some (.slice Aq lx cq)) (by kernel_rfl) ⟨u0, u1, u2, u3⟩ (fun hHeld => ?_)
              refine wpAnyH_take (i := 0) (v := .pointer (some ⟨d, 0, none⟩)) rfl (by kernel_rfl) (by kernel_rfl) (by kernel_rfl) (fun _ _ _ h => h) (Or.inl ⟨by rfl, by intro w hSw; go_simp⟩) hHeld ?_
              simp only [Act.put, List.setIfInBounds_toArray, List.set_cons_zero, List.set_cons_succ]
              refine wpAnyH_take (i := 1) (v := .pointer (some ⟨d, 0, none⟩)) rfl (by kernel_rfl) (by kernel_rfl) (by kernel_rfl) (fun _ _ _ h => h) (Or.inl ⟨by rfl, by intro w hSw; go_simp⟩) hHeld ?_
              simp only [Act.put, List.setIfInBounds_toArray, List.set_cons_zero, List.set_cons_succ]
              refine wpAnyH_take (i := 2) (v := .pointer (some ⟨d, 0, none⟩)) rfl (by kernel_rfl) (by kernel_rfl) (by kernel_rfl) (fun _ _ _ h => h) (Or.inl ⟨by rfl, by intro w hSw; go_simp⟩) hHeld ?_
              simp only [Act.put, List.setIfInBounds_toArray, List.set_cons_zero, List.set_cons_succ]
              refine wpAnyH_take (i := 3) (v := .pointer (some ⟨d, 1, none⟩)) rfl (by kernel_rfl) (by kernel_rfl) (by kernel_rfl) (fun _ _ _ h => h) (Or.inl ⟨by rfl, by intro w hSw; go_simp⟩) hHeld ?_
              simp only [Act.put, List.setIfInBounds_toArray, List.set_cons_zero, List.set_cons_succ]
              refine wpAnyH_take (i := 5) (v := .agg #[str nm, .int .i64 (ho : Int), .int .i64 (tkn : Int), .slice Aq lx cq]) rfl (by kernel_rfl) (by kernel_rfl) (by kernel_rfl) (fun _ _ _ h => h) (Or.inl ⟨by rfl, by intro w hSw; go_simp⟩) hHeld ?_
              simp only [Act.put, List.setIfInBounds_toArray, List.set_cons_zero, List.set_cons_succ]
              refine wpAnyH_ready (rs := [4, 6]) (by kernel_rfl) (by simp) ?_
              refine AllReadyH.cons rfl (fun K hK => ?_) (AllReadyH.cons rfl (fun K hK => ?_) AllReadyH.nil)
              · go_simp
                refine hK.out _ _ hHeld (fun hHeld => ?_)
                clear hK K
                try simp only [Act.put, List.setIfInBounds_toArray, List.set_cons_zero, List.set_cons_succ]
                refine wpAnyH_ready (rs := [6]) (by kernel_rfl) (by simp) ?_
                refine AllReadyH.cons rfl (fun K hK => ?_) AllReadyH.nil
                go_simp
                refine hK.out _ _ uA (fun hHeld => ?_)
                clear hK K
                try simp only [Act.put, List.setIfInBounds_toArray, List.set_cons_zero, List.set_cons_succ]
                refine wpAnyH_ready (rs := [7]) (by kernel_rfl) (by simp) ?_
                refine AllReadyH.cons rfl (fun K hK => ?_) AllReadyH.nil
                refine step_app etLock rfl (.tmp 85) (.tmp 87) rfl w0.heap.size (.slice Ah nh ch) nh (rcells DLk.cells hs) rfl HW1.out.2.1 (fun _ => True) (some ⟨(World.drew wq).heap.size, 0, none⟩) 1 1 [str nm, .int .i64 (ho : Int), .int .i64 (tkn : Int), .slice Aq lx cq] rfl ((Rd.one_of (Blk.new (World.drew wq) 111 #[str nm, .int .i64 (ho : Int), .int .i64 (tkn : Int), .slice Aq lx cq]) rfl).weaken fun _ _ => trivial) (fun h => Nat.noConfusion h) (lockL_one nm (ho : Int) (tkn : Int) (.slice Aq lx cq) rfl) (by omega) HW1.out.2.2.1 ?_
                intro v9 w9 ho9 hk9 hn9
                have hk59 : Keep (fun k => (Value.slice Ah nh ch).ownBlock ≠ some k) wq w9 := HW1.out.1.comp hk9 (fun _ _ _ => trivial) fun _ _ h => h
                have hRn := HW1.out.2.2.2.1.addLock HI.out (x := ⟨⟨nm, (ho : Int), (tkn : Int), ql⟩, .slice Aq lx cq⟩) (v := v9) (w2 := w9) (by rw [← HNh.out]; exact ho9) (by rw [← HNh.out]; exact hk9) (by have h9 := own_base (own_keep H13.out.2.1 HW1.out.1 fun _ _ => trivial) (base' := w0.heap.size) (by have := HQ.out.2.1; omega); show World.ownsRow _ _ _ _ _ ql.length _; rw [← H13.out.2.2.2.1]; exact h9) (fun y hy k hk e => by have h1 := HQ.out.1 k (.inr (.inr (.inr ⟨y, hy, hk⟩))); have h2 := (own_lt H13.out.2.1 e).1; omega)
                obtain ⟨A9, c9, rfl, -⟩ := own_rd ho9
                obtain ⟨x19, z19, ld9⟩ := HX.out w9 hk59
                have h9 := HS.out w9 (hk59.weaken fun _ _ h => h.2)
                have HT9 := Lib.hid (HS.out (w9.setCell ⟨d, 1, none⟩ (.slice A9 (nh + 1) c9)) ((hk59.weaken fun k _ (h : k ≠ d ∧ (Value.slice Ah nh ch).ownBlock ≠ some k) => h.2).setCell (p := ⟨d, 1, none⟩) (fun _ h => h.1 rfl) _))
                have HRn := Lib.hid hRn
                clear ho9 hk9 hn9 hk59 hRn
                refine hK.out _ _ h9 (fun hHeld => ?_)
                clear hK K
                try simp only [Act.put, List.setIfInBounds_toArray, List.set_cons_zero, List.set_cons_succ]
                refine wpAnyH_take (i := 8) (v := .pointer (some ⟨d, 0, none⟩)) rfl (by kernel_rfl) (by kernel_rfl) (by kernel_rfl) (fun _ _ _ h => h) (Or.inl ⟨by rfl, by intro w hSw; go_simp⟩) hHeld ?_
                simp only [Act.put, List.setIfInBounds_toArray, List.set_cons_zero, List.set_cons_succ]
                refine wpAnyH_take (i := 9) (v := .pointer (some ⟨d, 1, none⟩)) rfl (by kernel_rfl) (by kernel_rfl) (by kernel_rfl) (fun _ _ _ h => h) (Or.inl ⟨by rfl, by intro w hSw; go_simp⟩) hHeld ?_
                simp only [Act.put, List.setIfInBounds_toArray, List.set_cons_zero, List.set_cons_succ]
                refine wpAnyH_ready (rs := [10]) (by kernel_rfl) (by simp) ?_
                refine AllReadyH.cons rfl (fun K hK => ?_) AllReadyH.nil
                go_simp
                refine hK.out _ _ HT9.out (fun hHeld => ?_)
                clear hK K
                try simp only [Act.put, List.setIfInBounds_toArray, List.set_cons_zero, List.set_cons_succ]
                refine wpAnyH_done (by kernel_rfl) ?_ _
                go_wp2_with fail
                exact ⟨⟨i + 1, by omega, by simp, Lib.hid ⟨_, hs ++ [⟨⟨nm, (ho : Int), (tkn : Int), ql⟩, .slice Aq lx cq⟩], _, _, by rw [List.length_append, HQ.out.2.2.2.2]; rfl, HRn.out, by rw [List.map_append]; exact H13.out.2.2.2.2⟩⟩, by simp only [intOf]; omega⟩
              · go_simp
                refine hK.out _ _ uA (fun hHeld => ?_)
                clear hK K
                try simp only [Act.put, List.setIfInBounds_toArray, List.set_cons_zero, List.set_cons_succ]
                refine wpAnyH_ready (rs := [4]) (by kernel_rfl) (by simp) ?_
                refine AllReadyH.cons rfl (fun K hK => ?_) AllReadyH.nil
                go_simp
                refine hK.out _ _ hHeld (fun hHeld => ?_)
                clear hK K
                try simp only [Act.put, List.setIfInBounds_toArray, List.set_cons_zero, List.set_cons_succ]
                refine wpAnyH_ready (rs := [7]) (by kernel_rfl) (by simp) ?_
                refine AllReadyH.cons rfl (fun K hK => ?_) AllReadyH.nil
                refine step_app etLock rfl (.tmp 85) (.tmp 87) rfl w0.heap.size (.slice Ah nh ch) nh (rcells DLk.cells hs) rfl HW1.out.2.1 (fun _ => True) (some ⟨(World.drew wq).heap.size, 0, none⟩) 1 1 [str nm, .int .i64 (ho : Int), .int .i64 (tkn : Int), .slice Aq lx cq] rfl ((Rd.one_of (Blk.new (World.drew wq) 111 #[str nm, .int .i64 (ho : Int), .int .i64 (tkn : Int), .slice Aq lx cq]) rfl).weaken fun _ _ => trivial) (fun h => Nat.noConfusion h) (lockL_one nm (ho : Int) (tkn : Int) (.slice Aq lx cq) rfl) (by omega) HW1.out.2.2.1 ?_
                intro v9 w9 ho9 hk9 hn9
                have hk59 : Keep (fun k => (Value.slice Ah nh ch).ownBlock ≠ some k) wq w9 := HW1.out.1.comp hk9 (fun _ _ _ => trivial) fun _ _ h => h
                have hRn := HW1.out.2.2.2.1.addLock HI.out (x := ⟨⟨nm, (ho : Int), (tkn : Int), ql⟩, .slice Aq lx cq⟩) (v := v9) (w2 := w9) (by rw [← HNh.out]; exact ho9) (by rw [← HNh.out]; exact hk9) (by have h9 := own_base (own_keep H13.out.2.1 HW1.out.1 fun _ _ => trivial) (base' := w0.heap.size) (by have := HQ.out.2.1; omega); show World.ownsRow _ _ _ _ _ ql.length _; rw [← H13.out.2.2.2.1]; exact h9) (fun y hy k hk e => by have h1 := HQ.out.1 k (.inr (.inr (.inr ⟨y, hy, hk⟩))); have h2 := (own_lt H13.out.2.1 e).1; omega)
                obtain ⟨A9, c9, rfl, -⟩ := own_rd ho9
                obtain ⟨x19, z19, ld9⟩ := HX.out w9 hk59
                have h9 := HS.out w9 (hk59.weaken fun _ _ h => h.2)
                have HT9 := Lib.hid (HS.out (w9.setCell ⟨d, 1, none⟩ (.slice A9 (nh + 1) c9)) ((hk59.weaken fun k _ (h : k ≠ d ∧ (Value.slice Ah nh ch).ownBlock ≠ some k) => h.2).setCell (p := ⟨d, 1, none⟩) (fun _ h => h.1 rfl) _))
                have HRn := Lib.hid hRn
                clear ho9 hk9 hn9 hk59 hRn
                refine hK.out _ _ h9 (fun hHeld => ?_)
                clear hK K
                try simp only [Act.put, List.setIfInBounds_toArray, List.set_cons_zero, List.set_cons_succ]
                refine wpAnyH_take (i := 8) (v := .pointer (some ⟨d, 0, none⟩)) rfl (by kernel_rfl) (by kernel_rfl) (by kernel_rfl) (fun _ _ _ h => h) (Or.inl ⟨by rfl, by intro w hSw; go_simp⟩) hHeld ?_
                simp only [Act.put, List.setIfInBounds_toArray, List.set_cons_zero, List.set_cons_succ]
                refine wpAnyH_take (i := 9) (v := .pointer (some ⟨d, 1, none⟩)) rfl (by kernel_rfl) (by kernel_rfl) (by kernel_rfl) (fun _ _ _ h => h) (Or.inl ⟨by rfl, by intro w hSw; go_simp⟩) hHeld ?_
                simp only [Act.put, List.setIfInBounds_toArray, List.set_cons_zero, List.set_cons_succ]
                refine wpAnyH_ready (rs := [10]) (by kernel_rfl) (by simp) ?_
                refine AllReadyH.cons rfl (fun K hK => ?_) AllReadyH.nil
                go_simp
                refine hK.out _ _ HT9.out (fun hHeld => ?_)
                clear hK K
                try simp only [Act.put, List.setIfInBounds_toArray, List.set_cons_zero, List.set_cons_succ]
                refine wpAnyH_done (by kernel_rfl) ?_ _
                go_wp2_with fail
                exact ⟨⟨i + 1, by omega, by simp, Lib.hid ⟨_, hs ++ [⟨⟨nm, (ho : Int), (tkn : Int), ql⟩, .slice Aq lx cq⟩], _, _, by rw [List.length_append, HQ.out.2.2.2.2]; rfl, HRn.out, by rw [List.map_append]; exact H13.out.2.2.2.2⟩⟩, by simp only [intOf]; omega⟩
        · obtain rfl : i = b := by omega
          have HE5 := Lib.hid hE
          have HN5 := Lib.hid (hR.num HI.out 0 16 16 rfl)
          clear hR hE HL hhl HR5
          go_wp2_with fail
          refine Calls.mono HN5.out ?_
          rintro en w6 ⟨s6, p6, e6, rfl, E6, hs16, hR6, -⟩
          have HE6 := Lib.hid E6
          have HR6 := Lib.hid hR6
          clear E6 hR6 HN5
          go_wp2_with fail
          go_loopw [13, 14] (fun nv iv wr => ∃ (j : Nat) (xs : List (Nat × SesD)), j ≤ s6 ∧ iv = .int .i64 (j : Int) ∧ nv = .int .i64 (sesNext xs : Int) ∧ Hid (∃ p e, (∀ x ∈ xs, x.1 < 16) ∧ RdAt bs A n c g Z w0 wr d pv hv ps hs (tk : Int) (azOf xs) p e ∧ El (oMany (oSes bs) j) sesAll p6 e6 xs p e)) (fun _ i _ => s6 - (intOf i).toNat)
          case atStart => exact ⟨0, [], by omega, rfl, rfl, Lib.hid ⟨_, _, fun x hx => by (cases hx), HR6.out, El.many0 ⟨fun x hx => by (cases hx), List.Pairwise.nil⟩ _ _⟩⟩
          case round =>
            rename World => wr3
            obtain ⟨t, xs, ht, rfl, rfl, HS⟩ := hrel
            obtain ⟨p, e, hx16, hR, hE⟩ := HS.out
            by_cases hlt3 : t < s6
            · have hti : (t : Int) < (s6 : Int) := by omega
              have HT := Lib.hid (hR.num HI.out (sesNext xs : Int) 15 15 rfl)
              have HE0 := Lib.hid (And.intro hE hx16)
              clear hR hE hx16 HS HR6
              go_wp2_with fail
              refine Calls.mono HT.out ?_
              rintro en w7 ⟨q, p7, e7, rfl, E7, hq15, hR7, -⟩
              have HE7 := Lib.hid E7
              obtain ⟨g9, hg9⟩ : ∃ g, g = w7.heap.size := ⟨_, rfl⟩
              have hft : ∀ k, DFoot d pv hv hs k → k < g9 := fun k hk => by rw [hg9]; exact (hR7.dr.foot hk).2
              have hwN : w0.heap.size ≤ g9 := by rw [hg9]; exact hR7.kp.size
              have hgN : g < g9 := Nat.lt_of_lt_of_le HI.out.lt hwN
              go_upto_region 32 with (fail)
              generalize hw8 : World.alloc w7 _ = w8
              have hb8 : Blk w8 g9 104 #[.bool true, .int .i64 0, .int .i64 0, .int .i64 0, str [], .int .i64 0] := by
                rw [← hw8, hg9]
                exact Blk.new _ _ _
              have hf8 : Fresh w7 w8 := by rw [← hw8]; exact (Keep.refl _ w7).alloc _
              have hR8 := hR7.later hf8
              rw [← hg9]
              have HQ := Lib.hid (And.intro hft (And.intro hwN hgN))
              have HBk := Lib.hid hb8
              clear HT
              have HT := Lib.hid (hR8.num HI.out 1 4611686018427387904 4611686018427387904 rfl)
              clear hw8 hb8 hf8 hR8 hR7 E7 hft hg9 hwN hgN
              go_wp2_with fail
              refine Calls.mono HT.out ?_
              rintro en w9 ⟨si, p8s, e8s, rfl, E8s, hsi, hR9, hk9⟩
              have hb9 := HBk.out.keep hk9 (Nat.ne_of_gt HQ.out.2.2)
              have u0 := hb9.cell 1
              have y0 := hb9.frozen 1
              simp at u0
              have lu := hb9.lt
              have hb10 := hb9.set 1 (.int .i64 (si : Int))
              have hR10 := hR9.behind HI.out HQ.out.2.1 HQ.out.1 (w2 := w9.setCell ⟨g9, 1, none⟩ (.int .i64 (si : Int))) (keep_at _ _ _ _)
              obtain ⟨w10, hw10⟩ : ∃ w10, w10 = w9.setCell ⟨g9, 1, none⟩ (.int .i64 (si : Int)) := ⟨_, rfl⟩
              rw [← hw10] at hb10 hR10
              have HE8s := Lib.hid E8s
              clear HBk
              have HBk := Lib.hid hb10
              clear HT
              have HT := Lib.hid (hR10.num HI.out 1 4611686018427387904 4611686018427387904 rfl)
              clear hR9 hk9 E8s hb9 hb10 hR10
              go_upto_region 33 with (fail)
              rw [← hw10]
              clear hw10 u0 y0 lu
              go_wp2_with fail
              refine Calls.mono HT.out ?_
              rintro en w9 ⟨sr, p9s, e9s, rfl, E9s, hsr, hR9, hk9⟩
              have hb9 := HBk.out.keep hk9 (Nat.ne_of_gt HQ.out.2.2)
              have u0 := hb9.cell 2
              have y0 := hb9.frozen 2
              simp at u0
              have lu := hb9.lt
              have hb10 := hb9.set 2 (.int .i64 (sr : Int))
              have hR10 := hR9.behind HI.out HQ.out.2.1 HQ.out.1 (w2 := w9.setCell ⟨g9, 2, none⟩ (.int .i64 (sr : Int))) (keep_at _ _ _ _)
              obtain ⟨w10, hw10⟩ : ∃ w10, w10 = w9.setCell ⟨g9, 2, none⟩ (.int .i64 (sr : Int)) := ⟨_, rfl⟩
              rw [← hw10] at hb10 hR10
              have HE9s := Lib.hid E9s
              clear HBk
              have HBk := Lib.hid hb10
              clear HT
              have HT := Lib.hid (hR10.num HI.out 1 11 11 rfl)
              clear hR9 hk9 E9s hb9 hb10 hR10
              go_upto_region 34 with (fail)
              rw [← hw10]
              clear hw10 u0 y0 lu
              go_wp2_with fail
              refine Calls.mono HT.out ?_
              rintro en w9 ⟨sc, p10s, e10s, rfl, E10s, hsc, hR9, hk9⟩
              have hb9 := HBk.out.keep hk9 (Nat.ne_of_gt HQ.out.2.2)
              have u0 := hb9.cell 3
              have y0 := hb9.frozen 3
              simp at u0
              have lu := hb9.lt
              have hb10 := hb9.set 3 (.int .i64 (sc : Int))
              have hR10 := hR9.behind HI.out HQ.out.2.1 HQ.out.1 (w2 := w9.setCell ⟨g9, 3, none⟩ (.int .i64 (sc : Int))) (keep_at _ _ _ _)
              obtain ⟨w10, hw10⟩ : ∃ w10, w10 = w9.setCell ⟨g9, 3, none⟩ (.int .i64 (sc : Int)) := ⟨_, rfl⟩
              rw [← hw10] at hb10 hR10
              have HE10s := Lib.hid E10s
              clear HBk
              have HBk := Lib.hid hb10
              clear HT
              have HT := Lib.hid (hR10.txt HI.out)
              clear hR9 hk9 E10s hb9 hb10 hR10
              go_upto_region 35 with (fail)
              rw [← hw10]
              clear hw10 u0 y0 lu
              go_wp2_with fail
              refine Calls.mono HT.out ?_
              rintro en w9 ⟨sv, p11s, e11s, rfl, E11s, hsv, hR9, hk9⟩
              have hb9 := HBk.out.keep hk9 (Nat.ne_of_gt HQ.out.2.2)
              have u0 := hb9.cell 4
              have y0 := hb9.frozen 4
              simp at u0
              have lu := hb9.lt
              have hb10 := hb9.set 4 (str sv)
              have hR10 := hR9.behind HI.out HQ.out.2.1 HQ.out.1 (w2 := w9.setCell ⟨g9, 4, none⟩ (str sv)) (keep_at _ _ _ _)
              obtain ⟨w10, hw10⟩ : ∃ w10, w10 = w9.setCell ⟨g9, 4, none⟩ (str sv) := ⟨_, rfl⟩
              rw [← hw10] at hb10 hR10
              have HE11s := Lib.hid E11s
              clear HBk
              have HBk := Lib.hid hb10
              clear HT
              have HT := Lib.hid (hR10.num HI.out 0 99999999 99999999 rfl)
              clear hR9 hk9 E11s hb9 hb10 hR10
              go_upto_region 36 with (fail)
              rw [← hw10]
              clear hw10 u0 y0 lu
              go_wp2_with fail
              refine Calls.mono HT.out ?_
              rintro en w9 ⟨sn, p12s, e12s, rfl, E12s, hsn, hR9, hk9⟩
              have hb9 := HBk.out.keep hk9 (Nat.ne_of_gt HQ.out.2.2)
              have u0 := hb9.cell 5
              have y0 := hb9.frozen 5
              simp at u0
              have lu := hb9.lt
              have hb10 := hb9.set 5 (.int .i64 (sn : Int))
              have hR10 := hR9.behind HI.out HQ.out.2.1 HQ.out.1 (w2 := w9.setCell ⟨g9, 5, none⟩ (.int .i64 (sn : Int))) (keep_at _ _ _ _)
              obtain ⟨w10, hw10⟩ : ∃ w10, w10 = w9.setCell ⟨g9, 5, none⟩ (.int .i64 (sn : Int)) := ⟨_, rfl⟩
              rw [← hw10] at hb10 hR10
              have HE12s := Lib.hid E12s
              clear HBk
              have HBk := Lib.hid hb10
              clear HT
              have HF12 := Lib.hid hR10
              clear hR9 hk9 E12s hb9 hb10 hR10
              go_upto_region 37 with (fail)
              rw [← hw10]
              clear hw10 u0 y0 lu
              have hbf := HBk.out
              simp only [List.setIfInBounds_toArray, List.set_cons_zero, List.set_cons_succ] at hbf
              have hq16 : q < 16 := by omega
              have hqi : (q : Int) < 16 := by omega
              have u0 := hbf.cell 0; have u1 := hbf.cell 1; have u2 := hbf.cell 2; have u3 := hbf.cell 3; have u4 := hbf.cell 4; have u5 := hbf.cell 5
              simp at u0 u1 u2 u3 u4 u5
              have lu := hbf.lt
              have hdr := HF12.out.dr
              have n0 := hdr.ask hq16 0 (by omega); have n1 := hdr.ask hq16 1 (by omega); have n2 := hdr.ask hq16 2 (by omega); have n3 := hdr.ask hq16 3 (by omega); have n4 := hdr.ask hq16 4 (by omega); have n5 := hdr.ask hq16 5 (by omega)
              simp only [askR, List.getElem?_cons_zero, List.getElem?_cons_succ, Nat.add_zero] at n0 n1 n2 n3 n4 n5
              have m0 := hdr.blk.frozen (3 + q * 6)
              have m1 := hdr.blk.frozen (3 + q * 6 + 1)
              have m2 := hdr.blk.frozen (3 + q * 6 + 2)
              have m3 := hdr.blk.frozen (3 + q * 6 + 3)
              have m4 := hdr.blk.frozen (3 + q * 6 + 4)
              have m5 := hdr.blk.frozen (3 + q * 6 + 5)
              have ld := hdr.blk.lt
              have hgd : g9 ≠ d := fun e => by have := HQ.out.1 d (.inl rfl); omega
              have HKS : Hid (∀ w', Keep (fun k => k ≠ d) w10 w' → w'.cell? ⟨g9, 0, none⟩ = some (.bool true) ∧ w'.cell? ⟨g9, 1, none⟩ = some (.int .i64 (si : Int)) ∧ w'.cell? ⟨g9, 2, none⟩ = some (.int .i64 (sr : Int)) ∧ w'.cell? ⟨g9, 3, none⟩ = some (.int .i64 (sc : Int)) ∧ w'.cell? ⟨g9, 4, none⟩ = some (str sv) ∧ w'.cell? ⟨g9, 5, none⟩ = some (.int .i64 (sn : Int))) := Lib.hid fun w' hk => ⟨hk.cellAt u0 hgd, hk.cellAt u1 hgd, hk.cellAt u2 hgd, hk.cellAt u3 hgd, hk.cellAt u4 hgd, hk.cellAt u5 hgd⟩
              have hR13 := (HF12.out.setAsk HI.out hq16 ⟨(si : Int), (sr : Int), ⟨(sc : Int), sv, (sn : Int)⟩⟩).later ((Keep.refl _ _).drew)
              have hE13 := El.manyS (G := sesAll) (gd := fun ys y => sesGood (sesNext ys) y) (fun ys y => sesAll_snoc ys y) HE0.out.1 (El.ses HE7.out HE8s.out HE9s.out HE10s.out HE11s.out HE12s.out)
              have hx13 : ∀ x ∈ xs ++ [(q, (⟨(si : Int), (sr : Int), ⟨(sc : Int), sv, (sn : Int)⟩⟩ : SesD))], x.1 < 16 := (all_snoc (g := fun x : Nat × SesD => x.1 < 16) _ _).2 ⟨HE0.out.2, hq16⟩
              rw [← azOf_snoc xs (q, ⟨(si : Int), (sr : Int), ⟨(sc : Int), sv, (sn : Int)⟩⟩)] at hR13
              have H13 := Lib.hid (And.intro hx13 (And.intro hR13 hE13))
              clear hbf hR13 hE13 hx13 HF12 HBk
              go_region_held3 (fun w' => w'.cell? ⟨g9, 0, none⟩ = some (.bool true) ∧ w'.cell? ⟨g9, 1, none⟩ = some (.int .i64 (si : Int)) ∧ w'.cell? ⟨g9, 2, none⟩ = some (.int .i64 (sr : Int)) ∧ w'.cell? ⟨g9, 3, none⟩ = some (.int .i64 (sc : Int)) ∧ w'.cell? ⟨g9, 4, none⟩ = some (str sv) ∧ w'.cell? ⟨g9, 5, none⟩ = some (.int .i64 (sn : Int)))
                ((refine HKS.out _ ?_; repeat (first | with_reducible exact Keep.refl _ _ | with_reducible refine Keep.drew ?_ | with_reducible refine Keep.alloc ?_ _ | refine Keep.setCell ?_ (fun _ h => h rfl) _)))
                (fail)
              go_wp2_with fail
              exact ⟨⟨t + 1, xs ++ [(q, ⟨(si : Int), (sr : Int), ⟨(sc : Int), sv, (sn : Int)⟩⟩)], by omega, by simp, by rw [sesNext_snoc]; simp, Lib.hid ⟨_, _, H13.out.1, H13.out.2.1, H13.out.2.2⟩⟩, by simp only [intOf]; omega⟩
            · obtain rfl : t = s6 := by omega
              have HF := Lib.hid (And.intro hR hE)
              clear hR hE HS hx16 HR6
              go_wp2_with fail
              go_ret
              exact ⟨d, pv, hv, hs, ⟨tk, ps, hs.map DLk.d, xs⟩, _, _, rfl, El.raw HE1.out HE2.out HE3.out HE4.out HE5.out HE6.out HF.out.2, HF.out.1, rfl⟩
end Go.Proofs.YtioinjcdkmiafaaDoor
