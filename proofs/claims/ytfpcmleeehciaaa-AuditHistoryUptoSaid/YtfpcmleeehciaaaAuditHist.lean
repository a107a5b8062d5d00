/-
  WALK OF quoratelaw17's 'AuditHistory'.
-/
import Derived.Test.YtfpcmleeehciaaaKept
import Derived.Test.YtfpcmleeehciaaaTurned
import Derived.Test.YtfpcmleeehciaaaSameHist
import Derived.Deep.RegionHeld3
namespace Go.Proofs.Ytfpcmleeehciaaa
set_option linter.unusedVariables false
set_option linter.unusedSimpArgs false
open Go.RowKit

theorem Mks.cut {w : World} {Z : Nat → Prop} {A : Option Addr} {n m : Nat} {hs : List MkV} (h : Mks w Z A n hs) (hm : m ≤ n) : Mks w Z A m (hs.take m) := by
  refine ⟨by rw [List.length_take, h.len]; omega, ⟨by rw [rcells_len mk_len, List.length_take, h.len, Nat.min_eq_left hm], fun h0 => ?_⟩, by have := h.le; omega, fun x hx => h.fit x (List.mem_of_mem_take hx), fun x hx => h.one x (List.mem_of_mem_take hx)⟩
  obtain ⟨b, o, hA, hz, hc⟩ := h.rd.2 (by omega)
  refine ⟨b, o, hA, hz, fun j u hu => hc j u ?_⟩
  have e : mcells hs = mcells (hs.take m) ++ mcells (hs.drop m) := by
    unfold mcells
    rw [← rcells_append, List.take_append_drop]
  rw [e, List.getElem?_append_left]
  · exact hu
  · rcases Nat.lt_or_ge j (mcells (hs.take m)).length with h1 | h1
    · exact h1
    · rw [List.getElem?_eq_none h1] at hu; cases hu
/-- An owned row of marks, read. -/
theorem mks_own {w : World} {base : Nat} {v : Value} {n : Nat} {ks : List MkV} (h : w.ownsRow base 50 26 v n (mcells ks)) (hl : ks.length = n) (hle : n ≤ 1048576) (hf : ∀ x ∈ ks, MkFit x.d) (h1 : ∀ x ∈ ks, MkOne x) :
    ∃ A c, v = .slice A n c ∧ Mks w (fun _ => True) A n ks := by
  obtain ⟨A, c, hv, hr, -⟩ := own_rd h
  exact ⟨A, c, hv, hl, hr.weaken fun _ _ => trivial, hle, hf, h1⟩
theorem own_setCells {base e size n : Nat} {g c : Nat} : ∀ (vs : List Value) (o : Nat) (w : World) (xs : List Value), w.ownsRow base e size (.slice (some ⟨g, 0, none⟩) n c) n xs → o + vs.length ≤ n * size → ∃ xs', (w.setCells g o vs).ownsRow base e size (.slice (some ⟨g, 0, none⟩) n c) n xs'
  | [], _, _, xs, h, _ => ⟨xs, h⟩
  | v :: r, o, w, xs, h, hl => own_setCells r (o + 1) _ _ (own_set h rfl (by simp at hl; omega) v) (by simp at hl; omega)

def opCmd (z : Int) : Array Value := #[.int .i64 0, .int .i64 0, .int .i64 0, .int .i64 z, tx [], tx [], tx []]
theorem opCmd_one (z : Int) : (opCmd z).all (·.oneCell') = true := by simp [opCmd, Value.oneCell']
theorem opCmd_mem (z : Int) : ∀ u ∈ (opCmd z).toList, u.oneCell' = true := by
  intro u hu
  simp [opCmd] at hu
  rcases hu with rfl | rfl | rfl <;> rfl
theorem own_rd1 {w : World} {base e size n q : Nat} {P : Option Addr} {xs : List Value} (h : w.ownsRow base e size (.slice P n q) n xs) : Rd w (fun _ => True) size P n xs := by
  obtain ⟨A, c, hv, hr, -⟩ := own_rd h
  injection hv with h1
  subst h1
  exact hr.weaken fun _ _ => trivial
set_option maxRecDepth 20000 in
set_option maxHeartbeats 1000000 in
theorem audithist_any (A A2 : Option Addr) (n c n2 c2 : Nat) (K : Int) (hs : List MkV) (w : World) (h : Mks w (fun _ => True) A n hs) (ho : ∀ h ∈ hs, MkOk w (fun _ => True) h) (hnc : n ≤ c) :
    Calls Try.prog 5 #[.agg #[.slice A n c, .slice A2 n2 c2, .int .i64 K]] w fun e w' => e = .returned (.bool true) ∧ Fresh w w' := by
  have HM := Lib.hid (And.intro h ho)
  have hle := h.le
  clear h ho
  have HLo := Lib.hid (fun w' (hf : Fresh w w') => loosely_any (fun _ => True) A n c hs w' (HM.out.1.keep hf) (fun x hx => (HM.out.2 x hx).keep hf))
  go_enter Try.func5, Try.ntmps5
  go_wp2_with fail
  refine (HLo.out _ ((Keep.refl _ w).alloc _)).mono ?_
  rintro e w1 ⟨⟨X, ps, vL, vM, vT, vB, rfl, hX⟩, hf1⟩
  have hf1' := ((Keep.refl (fun _ => True) w).alloc _).trans hf1
  obtain ⟨AL, cL, rfl, hm1, hok1⟩ := hX.mks HM.out.1.len hle HM.out.1.fit
  have cX0 : w1.cell? ⟨X, 0, none⟩ = some (.slice AL n cL) := hX.blk.cell 0
  have b1 : Blk w1 w.heap.size 25 #[.slice A n c, .slice A2 n2 c2, .int .i64 K] := (Blk.new w _ _).keep hf1 trivial
  have cc0 : w1.cell? ⟨w.heap.size, 0, none⟩ = some (.slice A n c) := b1.cell 0
  have hds := hX.all HM.out.1.len
  have HH := Lib.hid (fun w' (hf : Fresh w1 w') => hds ▸ ahist_any (fun _ => True) AL n cL (ps.map LMk.x) w' (hm1.keep hf))
  have H1 := Lib.hid (And.intro hX (And.intro hf1' b1))
  clear hX hf1 hf1' b1 hm1 hok1 hds
  go_wp2_with fail
  refine (HH.out _ (Keep.refl _ w1)).mono ?_
  rintro e w2 ⟨⟨v1, cs, rfl, hh1, hl1, ho1⟩, hf2⟩
  obtain ⟨P1, q1, rfl, -, -⟩ := own_rd ho1
  have cX0' := hf2.cellAt cX0 trivial
  have cc0' := hf2.cellAt cc0 trivial
  have H2 := Lib.hid (And.intro hh1 (And.intro ho1 hf2))
  clear cX0 cc0 hh1 ho1 hf2
  obtain ⟨m, hmn⟩ : ∃ m, m = n / 2 := ⟨_, rfl⟩
  have hn2 : (n : Int) / 2 = (m : Int) := by omega
  have hn3 : m ≤ c := by omega
  have hn4 : m ≤ n := by omega
  clear hmn
  go_wp2_with fail
  have hF2 : Fresh w w2 := H1.out.2.1.trans H2.out.2.2
  have HC := Lib.hid (copied_marks (fun _ => True) A m c (hs.take m) w2 ((HM.out.1.keep hF2).cut hn4) (fun x hx => (HM.out.2 x (List.mem_of_mem_take hx)).keep hF2))
  refine HC.out.mono ?_
  rintro e w3 ⟨⟨v3, ks, rfl, hcp⟩, hf3⟩
  have hlm : (hs.take m).length = m := by rw [List.length_take, HM.out.1.len]; omega
  have hdk : dsOf ks = dsOf (hs.take m) := by rw [hcp.same, List.take_of_length_le (by omega)]
  obtain ⟨A3, c3, rfl, hm3⟩ := mks_own hcp.own hcp.len (by omega) (fit_of_ds (fun x hx => HM.out.1.fit x (List.mem_of_mem_take hx)) hdk) hcp.one
  have HC2 := Lib.hid (ahist_any (fun _ => True) A3 m c3 ks w3 hm3)
  have cX03 := hf3.cellAt cX0' trivial
  have cc03 := hf3.cellAt cc0' trivial
  have H3 := Lib.hid hf3
  clear HC hcp hlm hdk hm3 hf3 cX0' cc0' hF2
  go_wp2_with fail
  refine HC2.out.mono ?_
  rintro e w4 ⟨⟨v4, cs4, rfl, -, -, -⟩, hf4⟩
  have cX04 := hf4.cellAt cX03 trivial
  have cc04 := hf4.cellAt cc03 trivial
  have H4 := Lib.hid ((H2.out.2.2.trans H3.out).trans hf4)
  have H24 := Lib.hid (H3.out.trans hf4)
  clear HC2 hf4 cX03 cc03
  go_wp2_with fail
  refine (HH.out _ H4.out).mono ?_
  rintro e w5 ⟨⟨v5, cs5, rfl, hh5, -, ho5⟩, hf5⟩
  obtain rfl : cs = cs5 := H2.out.1.uniq hh5
  obtain ⟨P5, q5, rfl, -, -⟩ := own_rd ho5
  have cX05 := hf5.cellAt cX04 trivial
  have cc05 := hf5.cellAt cc04 trivial
  have H5 := Lib.hid (And.intro ho5 (And.intro (H4.out.trans hf5) (And.intro hf5 H4.out.size)))
  clear hh5 ho5 hf5 cX04 cc04
  have HG := Lib.hid (rhist_any (fun _ => True) A n c hs w5 (HM.out.1.keep (H1.out.2.1.trans H5.out.2.1)))
  go_wp2_with fail
  refine HG.out.mono ?_
  rintro e w6 ⟨⟨v6, cs6, rfl, hh6, -, ho6⟩, hf6⟩
  obtain rfl : cs = cs6 := H2.out.1.uniq hh6
  obtain ⟨P6, q6, rfl, -, -⟩ := own_rd ho6
  have cX06 := hf6.cellAt cX05 trivial
  have cc06 := hf6.cellAt cc05 trivial
  have hF26 : Fresh w2 w6 := (H24.out.trans H5.out.2.2.1).trans hf6
  have hF16 : Fresh w1 w6 := H5.out.2.1.trans hf6
  have r1 : w6.ownsRow w1.heap.size 45 7 (.slice P1 cs.length q1) cs.length (ccells cs) := own_keep H2.out.2.1 hF26 (fun _ _ => trivial)
  have r5 : w6.ownsRow w4.heap.size 45 7 (.slice P5 cs.length q5) cs.length (ccells cs) := own_keep H5.out.1 hf6 (fun _ _ => trivial)
  have a5 : ∀ k, (Value.slice P5 cs.length q5).ownBlock = some k → (Value.slice P1 cs.length q1).ownBlock ≠ some k := fun k e1 e2 => by
    have h1 := (own_lt H5.out.1 e1).1
    have h2 := (own_lt H2.out.2.1 e2).2
    have h3 := H24.out.size
    omega
  have a6 : ∀ k, (Value.slice P6 cs.length q6).ownBlock = some k → (Value.slice P1 cs.length q1).ownBlock ≠ some k := fun k e1 e2 => by
    have h1 := (own_lt ho6 e1).1
    have h2 := (own_lt H2.out.2.1 e2).2
    have h3 := (H24.out.trans H5.out.2.2.1).size
    omega
  have H6 := Lib.hid (And.intro r1 (And.intro r5 (And.intro ho6 (And.intro a5 (And.intro a6 hF16)))))
  have HE1 := Lib.hid (fun k => samehist_any (fun _ => True) (fun _ => True) P1 P6 cs.length q1 q6 cs (w6.drewN k) rfl (own_rd1 r1) (own_rd1 ho6) (by omega))
  have HE2 := Lib.hid (fun k => samehist_any (fun _ => True) (fun _ => True) P5 P6 cs.length q5 q6 cs (w6.drewN k) rfl (own_rd1 r5) (own_rd1 ho6) (by omega))
  clear hF26 hF16 r1 r5 a5 a6 ho6 hf6 hh6 HG cX05 cc05
  go_wp2_with fail
  refine (HE1.out 0).mono ?_
  rintro e _ ⟨rfl, k1, rfl⟩
  go_wp2_with fail
  refine (HE2.out _).mono ?_
  rintro e _ ⟨rfl, k2, rfl⟩
  obtain ⟨w7, hw7⟩ : ∃ w7, w7 = (w6.drewN k1).drewN k2 := ⟨_, rfl⟩
  have hk67 : Keep (fun k => (Value.slice P1 cs.length q1).ownBlock ≠ some k) w6 w7 := hw7 ▸ ((Keep.refl _ w6).drewN k1).drewN k2
  have hx7 : ∃ xs, w7.ownsRow w1.heap.size 45 7 (.slice P1 cs.length q1) cs.length xs := ⟨ccells cs, by rw [hw7]; exact H6.out.1⟩
  rw [← hw7]
  clear hw7 HE1
  go_wp2_with fail
  go_loopw [9] (fun i wr => ∃ j : Nat, j ≤ cs.length ∧ i = .int .i64 (j : Int) ∧ Hid ((∃ xs, wr.ownsRow w1.heap.size 45 7 (.slice P1 cs.length q1) cs.length xs) ∧ Keep (fun k => (Value.slice P1 cs.length q1).ownBlock ≠ some k) w6 wr)) (fun i _ => cs.length - (intOf i).toNat)
  case atStart => exact ⟨0, Nat.zero_le _, rfl, Lib.hid ⟨hx7, hk67⟩⟩
  case round =>
    rename World => wr
    obtain ⟨j, hj, rfl, HW⟩ := hrel
    by_cases hlt : j < cs.length
    · obtain ⟨⟨xs, hxs⟩, hkk⟩ := HW.out
      obtain ⟨g1, c1, hv, -, -⟩ := own_form hxs (by omega)
      injection hv with hv1 _ hv3
      subst hv1
      subst hv3
      have HT := Lib.hid (show wr.there g1 (j * 7) (opCmd (-1 - (j : Int))).size from fun i hi => by
        have hi : i < 7 := hi
        obtain ⟨u, hu⟩ := own_has hxs rfl (g := g1) (j := j * 7 + i) (by omega)
        exact ⟨by rw [hu]; rfl, own_frozen hxs _ rfl⟩)
      clear hxs hkk
      go_wp2_with ((refine wpList_store_to rfl 45 (.tmp 62) (.tmp 61) rfl g1 (j * 7) (opCmd (-1 - (j : Int))) rfl rfl HT.out (by kernel_rfl) (opCmd_one _) ?_))
      intro w8 hw8
      have HN := Lib.hid (show (∃ xs, w8.ownsRow w1.heap.size 45 7 (.slice (some ⟨g1, 0, none⟩) cs.length q1) cs.length xs) ∧ Keep (fun k => (Value.slice (some ⟨g1, 0, none⟩) cs.length q1).ownBlock ≠ some k) w6 w8 by
        obtain ⟨⟨xs, hxs⟩, hkk⟩ := HW.out
        rw [hw8.out]
        exact ⟨own_setCells _ _ _ _ hxs (by simp [opCmd]; omega), Keep.setCells _ _ _ hkk (fun _ h => h rfl)⟩)
      clear hw8
      go_wp2_with fail
      exact ⟨⟨j + 1, by omega, congrArg _ (by omega), HN⟩, by simp [intOf]; omega⟩
    · have hj2 : j = cs.length := by omega
      subst hj2
      clear hj
      go_wp2_with fail
      go_loopw [4, 10] (fun v i w8 => ∃ j : Nat, j ≤ 64 ∧ i = .int .i64 (j : Int) ∧ Hid ((∃ xs, w8.ownsRow w1.heap.size 45 7 v (cs.length + j) xs) ∧ Keep (fun k => (Value.slice P1 cs.length q1).ownBlock ≠ some k) w6 w8 ∧ Next w6.heap.size (.slice P1 cs.length q1) v)) (fun _ i _ => 64 - (intOf i).toNat)
      case atStart => exact ⟨0, Nat.zero_le _, rfl, Lib.hid ⟨HW.out.1, HW.out.2, Next.refl _ _⟩⟩
      case round =>
        rename World => w8
        obtain ⟨i, hi, rfl, HV⟩ := hrel
        by_cases hlt2 : i < 64
        · have HB := Lib.hid (Nat.le_trans H6.out.2.2.2.2.2.size HV.out.2.1.size)
          obtain ⟨xs, HX⟩ : ∃ xs, Hid (w8.ownsRow w1.heap.size 45 7 u4 (cs.length + i) xs) := by
            obtain ⟨xs, hx⟩ := HV.out.1
            exact ⟨xs, Lib.hid hx⟩
          go_wp2_with (at_builtin; refine wpList_appK etCmd rfl (.tmp 67) (.tmp 71) rfl (opCmd (1000 + (i : Int))) _ rfl (opCmd_mem _) w1.heap.size _ (cs.length + i) xs rfl rfl HX.out (by omega) HB.out ?_)
          intro v9 w9 ho9 hk9 hn9
          have HN := Lib.hid (show (∃ xs, w9.ownsRow w1.heap.size 45 7 v9 (cs.length + (i + 1)) xs) ∧ Keep (fun k => (Value.slice P1 cs.length q1).ownBlock ≠ some k) w6 w9 ∧ Next w6.heap.size (.slice P1 cs.length q1) v9 from
            ⟨⟨_, ho9⟩, HV.out.2.1.next hk9 HV.out.2.2, HV.out.2.2.trans hn9 HV.out.2.1.size⟩)
          clear ho9 hk9 hn9 HX HB
          go_wp2_with fail
          exact ⟨⟨i + 1, by omega, congrArg _ (by omega), HN⟩, by simp [intOf]; omega⟩
        · obtain rfl : i = 64 := by omega
          obtain ⟨r1, r5, r6, a5, a6, hF16⟩ := H6.out
          have hF18 : Fresh w1 w8 := hF16.comp HV.out.2.1 (fun _ _ h => h) (fun i hi _ e => by have := (own_lt r1 e).1; omega)
          have r58 := own_keep r5 HV.out.2.1 a5
          have r68 := own_keep r6 HV.out.2.1 a6
          have HE3 := Lib.hid (samehist_any (fun _ => True) (fun _ => True) P5 P6 cs.length q5 q6 cs w8 rfl (own_rd1 r58) (own_rd1 r68) (by omega))
          have H8 := Lib.hid (And.intro hF18 r68)
          clear r1 r5 r6 a5 a6 hF16 hF18 r58 r68 HE2 H6 HV HW
          go_wp2_with fail
          refine HE3.out.mono ?_
          rintro e _ ⟨rfl, k3, rfl⟩
          obtain ⟨w9, hw9⟩ : ∃ w9, w9 = w8.drewN k3 := ⟨_, rfl⟩
          have hF19 : Fresh w1 w9 := by rw [hw9]; exact H8.out.1.drewN k3
          have r69 : w9.ownsRow w5.heap.size 45 7 (.slice P6 cs.length q6) cs.length (ccells cs) := by rw [hw9]; exact H8.out.2
          have cX09 : w9.cell? ⟨X, 0, none⟩ = some (.slice AL n cL) := (H1.out.1.keep hF19).blk.cell 0
          have cc09 : w9.cell? ⟨w.heap.size, 0, none⟩ = some (.slice A n c) := (H1.out.2.2.keep hF19 trivial).cell 0
          have H9 := Lib.hid (And.intro hF19 r69)
          rw [← hw9]
          clear hw9 hF19 r69 HE3 H8 cX06 cc06
          go_wp2_with fail
          refine (HH.out _ H9.out.1).mono ?_
          rintro e w10 ⟨⟨v10, cs10, rfl, hh10, -, ho10⟩, hf10⟩
          obtain rfl : cs = cs10 := H2.out.1.uniq hh10
          obtain ⟨P10, q10, rfl, -, -⟩ := own_rd ho10
          have HE4 := Lib.hid (samehist_any (fun _ => True) (fun _ => True) P10 P6 cs.length q10 q6 cs w10 rfl (own_rd1 ho10) (own_rd1 (own_keep H9.out.2 hf10 (fun _ _ => trivial))) (by omega))
          have H10 := Lib.hid (H9.out.1.trans hf10)
          clear hh10 ho10 hf10 cX09 cc09
          go_wp2_with fail
          refine HE4.out.mono ?_
          rintro e _ ⟨rfl, k4, rfl⟩
          obtain ⟨w11, hw11⟩ : ∃ w11, w11 = w10.drewN k4 := ⟨_, rfl⟩
          have hF11 : Fresh w1 w11 := by rw [hw11]; exact H10.out.drewN k4
          have cc11 : w11.cell? ⟨w.heap.size, 0, none⟩ = some (.slice A n c) := (H1.out.2.2.keep hF11 trivial).cell 0
          have HK := Lib.hid (kept_any (fun _ => True) A n c hs _ w11 X ps _ vM vT vB (HM.out.1.keep (H1.out.2.1.trans hF11)) (fun x hx => (HM.out.2 x hx).keep (H1.out.2.1.trans hF11)) (H1.out.1.keep hF11))
          have H11 := Lib.hid hF11
          rw [← hw11]
          clear hw11 hF11 HE4 H10 H9
          go_wp2_with fail
          refine HK.out.mono ?_
          rintro e w12 ⟨rfl, hf12⟩
          have hF12 := H11.out.trans hf12
          have hX12 := H1.out.1.keep hF12
          have cX12 : w12.cell? ⟨X, 0, none⟩ = some (.slice AL n cL) := hX12.blk.cell 0
          have HT := Lib.hid (turned_any _ (.slice AL n cL) n (ps.map LMk.x) w12 hle (by simp [hX12.len]) hX12.L (fit_of_ds HM.out.1.fit (hX12.all HM.out.1.len)) (fun x hx => by
            obtain ⟨p, hp, rfl⟩ := List.mem_map.1 hx
            exact (hX12.rows p hp).one))
          have H12 := Lib.hid (And.intro hF12 hX12)
          clear hf12 hF12 hX12 HK H11 cc11
          go_wp2_with fail
          refine HT.out.mono ?_
          rintro e w13 ⟨rfl, ⟨kk, hlk, hok, hfk, h1k⟩, hk13⟩
          obtain ⟨hF12, hX12⟩ := H12.out
          have hm13 : Mks w13 (fun _ => True) AL n kk := ⟨hlk, own_rd1 hok, hle, hfk, h1k⟩
          have cX13 : w13.cell? ⟨X, 0, none⟩ = some (.slice AL n cL) := hk13.cellAt cX12 (own_ne_blk hX12.L hX12.blk (by decide))
          have hF13 : Fresh w w13 := (H1.out.2.1.trans hF12).comp hk13 (fun _ _ h => h) (fun i hi _ e => by
            have := (own_lt hX12.L e).1
            simp at this
            omega)
          have HA := Lib.hid (fun w' (hf : Fresh w13 w') => ahist_any (fun _ => True) AL n cL kk w' (hm13.keep hf))
          have HRr := Lib.hid (fun w' (hf : Fresh w13 w') => rhist_any (fun _ => True) AL n cL kk w' (hm13.keep hf))
          have HS := Lib.hid (show ∀ w', Fresh w13 w' → Fresh w13 w' ∧ w'.cell? ⟨X, 0, none⟩ = some (.slice AL n cL) from fun w' hf => ⟨hf, hf.cellAt cX13 trivial⟩)
          have HF := Lib.hid hF13
          clear hF12 hX12 hm13 hF13 hok hlk hfk h1k hk13 HT H12 cX12
          go_wp2_with fail
          go_region_held3 (fun w' => Fresh w13 w' ∧ w'.cell? ⟨X, 0, none⟩ = some (.slice AL n cL))
            (first | exact HS.out _ ((Keep.refl _ w13).drew) | exact HS.out _ fa2 | exact HS.out _ fb2 | exact HS.out _ (fa2.drewN _) | exact HS.out _ (fb2.drewN _))
            (first
              | (go_at_call 12; refine (HA.out _ ((Keep.refl (fun _ => True) w13).drew)).mono ?_; rintro e wa ⟨⟨va, ca, rfl, ha, la, oa⟩, fa⟩; obtain ⟨Pa, qa, rfl, -, -⟩ := own_rd oa; have fa2 := ((Keep.refl (fun _ => True) w13).drew).trans fa)
              | (go_at_call 12; refine (HA.out _ fb2).mono ?_; rintro e wa ⟨⟨va, ca, rfl, ha, la, oa⟩, fa⟩; obtain ⟨Pa, qa, rfl, -, -⟩ := own_rd oa; have fa2 := fb2.trans fa)
              | (go_at_call 13; refine (HRr.out _ ((Keep.refl (fun _ => True) w13).drew)).mono ?_; rintro e wb ⟨⟨vb, cb, rfl, hb, lb, ob⟩, fb⟩; obtain ⟨Pb, qb, rfl, -, -⟩ := own_rd ob; have fb2 := ((Keep.refl (fun _ => True) w13).drew).trans fb)
              | (go_at_call 13; refine (HRr.out _ fa2).mono ?_; rintro e wb ⟨⟨vb, cb, rfl, hb, lb, ob⟩, fb⟩; obtain ⟨Pb, qb, rfl, -, -⟩ := own_rd ob; have fb2 := fa2.trans fb)
              | (go_at_call 14; obtain rfl : ca = cb := ha.uniq hb; refine (samehist_any (fun _ => True) (fun _ => True) Pa Pb ca.length qa qb ca wb rfl (own_rd1 (own_keep oa fb (fun _ _ => trivial))) (own_rd1 ob) (by omega)).mono ?_; rintro e _ ⟨rfl, kz, rfl⟩)
              | (go_at_call 14; obtain rfl : ca = cb := ha.uniq hb; refine (samehist_any (fun _ => True) (fun _ => True) Pa Pb ca.length qa qb ca wa rfl (own_rd1 oa) (own_rd1 (own_keep ob fa (fun _ _ => trivial))) (by omega)).mono ?_; rintro e _ ⟨rfl, kz, rfl⟩))
          all_goals
            go_wp2_with fail
            go_ret
            first | exact ⟨rfl, HF.out.trans (fb2.drewN _)⟩ | exact ⟨rfl, HF.out.trans (fa2.drewN _)⟩
end Go.Proofs.Ytfpcmleeehciaaa
