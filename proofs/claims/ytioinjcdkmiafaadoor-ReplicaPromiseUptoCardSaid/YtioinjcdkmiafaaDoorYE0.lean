/-
  MERGED: RepU
-/
import Derived.Test.YtioinjcdkmiafaaDoorYD9
namespace Go.Proofs.YtioinjcdkmiafaaDoor
set_option linter.unusedVariables false
set_option linter.unusedSimpArgs false
open Go.RowKit

/-- The counts that the document looks at. -/
noncomputable def docNs (d : RecD) : List Int :=
  if d.kind = 1 then (if docOk d.body = true then [((doc1 d.body).1 : Int), ((doc2 d.body).1 : Int)] else [])
  else if d.kind = 4 then [if oneOk d.body = true then ((rCount d.body 0 false mxC).1 : Int) else -1]
  else []
theorem recS_nn {b : Int} (hb : 0 ≤ b) (d : RecD) : 0 ≤ recS b d := by
  unfold recS
  split
  · split <;> omega
  · split
    · split <;> omega
    · exact hb
theorem promD_nn (l : List RecD) : 0 ≤ promD l := by
  unfold promD
  suffices h : ∀ (l : List RecD) (b : Int), 0 ≤ b → 0 ≤ l.foldl recS b from h l 0 (by decide)
  intro l
  induction l with
  | nil => exact fun b h => h
  | cons d l ih => exact fun b h => ih _ (recS_nn h d)
theorem docNs_max (d : RecD) (hl : (d.body.length : Int) ≤ mxC) (b : Int) (hb : 0 ≤ b) : (docNs d).foldl max b = recS b d := by
  unfold docNs recS
  obtain ⟨h1, h2⟩ := doc_same d.body hl
  split
  · rw [h1]
    split
    · rename_i h
      obtain ⟨e1, e2⟩ := h2 h
      rw [e1, e2]
      rfl
    · rfl
  · split
    · split
      · rfl
      · simp only [List.foldl_cons, List.foldl_nil]
        omega
    · rfl
theorem docNs_len (d : RecD) : (docNs d).length ≤ 2 := by
  unfold docNs
  split
  · split <;> simp
  · split <;> simp
theorem rd_pre {w : World} {Z : Nat → Prop} {A : Option Addr} {x y z : Int} (h : Rd w Z 1 A 3 (ics [x, y, z])) : Rd w Z 1 A 2 (ics [x, y]) := by
  refine ⟨rfl, fun _ => ?_⟩
  obtain ⟨b, o, e, hz, hc⟩ := h.2 (by decide)
  refine ⟨b, o, e, hz, fun j u hu => hc j u ?_⟩
  match j, hu with
  | 0, hu => exact hu
  | 1, hu => exact hu
theorem foldl_take {ns : List Int} {b : Int} {j : Nat} (hj : j < ns.length) : (ns.take (j + 1)).foldl max b = max ((ns.take j).foldl max b) ns[j] := by
  rw [List.take_succ_eq_append_getElem hj, List.foldl_append]
  rfl
set_option maxRecDepth 20000 in
set_option maxHeartbeats 2000000 in
theorem rpromise_any (A : Option Addr) (n c : Nat) (hs : List RecV) (w : World) (h : Recs w A n hs) :
    Calls Tryd.prog 6 #[.slice A n c] w fun e w' => e = .returned (.int .i64 (promD (rdsOf hs))) ∧ Fresh w w' := by
  have H := Lib.hid h
  have hle := h.le
  clear h
  go_enter Tryd.func6, Tryd.ntmps6
  go_wp2_with fail
  go_loopw [3, 4] (fun mv iv wr => ∃ k : Nat, k ≤ n ∧ mv = .int .i64 (promD (rdsOf (hs.take k))) ∧ iv = .int .i64 (k : Int) ∧ Hid (Fresh w wr)) (fun _ i _ => n - (intOf i).toNat)
  case atStart => exact ⟨0, Nat.zero_le _, rfl, rfl, Lib.hid (Keep.refl _ _)⟩
  case round =>
    rename World => wr
    obtain ⟨k, hk, rfl, rfl, HF⟩ := hrel
    by_cases hlt : k < n
    · obtain ⟨b, o, Ab, cb, hl, hA, k0, k1, hbc, hbn, hbr, hbf⟩ := (H.out.keep HF.out).at1 hlt
      subst hA
      have hS := prom_take hl
      have hnn := promD_nn (rdsOf (hs.take k))
      obtain ⟨best, hbest⟩ : ∃ z, z = promD (rdsOf (hs.take k)) := ⟨_, rfl⟩
      rw [← hbest] at hS hnn ⊢
      obtain ⟨kd, hkd⟩ : ∃ z, z = hs[k].d.kind := ⟨_, rfl⟩
      obtain ⟨bs, hbs⟩ : ∃ z, z = hs[k].d.body := ⟨_, rfl⟩
      have hrc : hs[k].d = ⟨kd, bs⟩ := by rw [hkd, hbs]
      rw [hrc] at hS
      rw [← hkd] at k0
      rw [← hbs] at k1 hbc hbn hbr hbf
      obtain ⟨ns, hns⟩ : ∃ z, z = docNs ⟨kd, bs⟩ := ⟨_, rfl⟩
      have hmx := docNs_max ⟨kd, bs⟩ (by simp only [mxC]; omega) best hnn
      have hnl := docNs_len ⟨kd, bs⟩
      rw [← hns] at hmx hnl
      rw [← hmx] at hS
      have HS := Lib.hid hS
      have HNs := Lib.hid (And.intro hns hnl)
      have HTk := Lib.hid (take_any Ab bs.length cb bs wr hbr hbc hbn hbf)
      have HOn := Lib.hid (rone_any Ab bs.length cb bs wr hbr (by omega))
      have lb := lt_of_cell k0
      have hki : (k : Int) < (n : Int) := by omega
      clear hbest hkd hbs hrc hS hbc hbn hbr hl hmx hnl hns hnn
      go_upto_block 2 with (fail)
      go_cut [5] (fun s5 wx => ∃ A5 n5 c5, s5 = .slice A5 n5 c5 ∧ Hid (n5 ≤ c5 ∧ Rd wx (fun _ => True) 1 A5 n5 (ics ns) ∧ Fresh wr wx))
      case first =>
        by_cases a1 : kd = 1
        · subst a1
          clear HOn
          go_wp2_with fail
          refine HTk.out.mono ?_
          rintro e w2 ⟨⟨A1, n1, c1, v2, v3, ok, rfl, hok, hrd⟩, hf2⟩
          have HF2 := Lib.hid hf2
          have hns1 : ns = if ok = true then [((doc1 bs).1 : Int), ((doc2 bs).1 : Int)] else [] := by
            rw [HNs.out.1, hok]
            unfold docNs
            rw [if_pos rfl]
          have HN := Lib.hid hns1
          clear hok hf2 hns1 HTk k0 k1 lb
          cases ok
          · clear hrd
            go_wp2_with fail
            go_meet
            exact ⟨_, _, _, rfl, Lib.hid ⟨Nat.le_refl _, by rw [HN.out]; exact Rd.nil _ _ _ _, HF2.out⟩⟩
          · obtain ⟨rfl, hc1, hr1⟩ := hrd rfl
            obtain ⟨b1, o1, rfl, -, hcc⟩ := hr1.2 (by decide)
            have HR1 := Lib.hid (And.intro hc1 hr1)
            have hc1i : (2 : Int) ≤ (c1 : Int) := by omega
            have hc2 : 2 ≤ c1 := by omega
            clear hrd hr1 hcc
            go_wp2_with fail
            go_meet
            exact ⟨_, _, _, rfl, Lib.hid ⟨hc2, by rw [HN.out]; exact rd_pre HR1.out.2, HF2.out⟩⟩
        · have d1 : (kd == 1) = false := by simpa using a1
          by_cases a4 : kd = 4
          · subst a4
            clear HTk
            go_wp2_with fail
            refine HOn.out.mono ?_
            rintro e w2 ⟨rfl, hf2⟩
            have hns1 : ns = [if oneOk bs = true then ((rCount bs 0 false mxC).1 : Int) else -1] := by
              rw [HNs.out.1]
              unfold docNs
              rw [if_neg (show ¬ (4 : Int) = 1 by decide), if_pos rfl]
            obtain ⟨z, hz⟩ : ∃ z : Int, z = if oneOk bs = true then ((rCount bs 0 false mxC).1 : Int) else -1 := ⟨_, rfl⟩
            rw [← hz] at hns1 ⊢
            have HN := Lib.hid hns1
            have HF2 := Lib.hid hf2
            clear hz hns1 hf2 HOn k0 k1 lb
            go_wp2_with (at_builtin; refine wpList_app1 etInt2 rfl (.tmp 40) (.tmp 47) rfl (.int .i64 z) _ rfl w2.heap.size _ 0 [] rfl rfl (World.ownsRow_nil _ _ _ _) (by omega) (Nat.le_refl _) ?_)
            intro v3 w3 ho3 hk3 hn3
            obtain ⟨A3, c3, rfl, hr3, -⟩ := own_rd ho3
            have HR3 := Lib.hid (And.intro (own_cap6 ho3).1 (And.intro hr3 (HF2.out.trans (hk3.weaken fun _ _ _ => by simp [Value.ownBlock]))))
            clear ho3 hk3 hn3 hr3
            go_wp2_with fail
            go_meet
            exact ⟨_, _, _, rfl, Lib.hid ⟨HR3.out.1, by rw [HN.out]; exact HR3.out.2.1.weaken fun _ _ => trivial, HR3.out.2.2⟩⟩
          · have d4 : (kd == 4) = false := by simpa using a4
            have hns1 : ns = [] := by
              rw [HNs.out.1]
              unfold docNs
              rw [if_neg a1, if_neg a4]
            have HN := Lib.hid hns1
            clear HTk HOn a1 a4 hns1
            go_wp2_with fail
            go_meet
            exact ⟨_, _, _, rfl, Lib.hid ⟨Nat.le_refl _, by rw [HN.out]; exact Rd.nil _ _ _ _, Keep.refl _ _⟩⟩
      case rest =>
        rename World => wx
        obtain ⟨A5, n5, c5, rfl, h5⟩ := hcut
        have H5 := Lib.hid h5.out
        have hn5 : n5 ≤ 2 := by
          have h1 := H5.out.2.1.1
          have h2 := HNs.out.2
          simp [ics] at h1
          omega
        clear h5 k0 k1 lb HTk HOn
        go_wp2_with fail
        go_loopw [3, 10] (fun mv iv wy => ∃ j : Nat, j ≤ n5 ∧ mv = .int .i64 ((ns.take j).foldl max best) ∧ iv = .int .i64 (j : Int) ∧ wy = wx) (fun _ i _ => n5 - (intOf i).toNat)
        case atStart => exact ⟨0, Nat.zero_le _, rfl, rfl, rfl⟩
        case round =>
          obtain ⟨j, hj, rfl, rfl, rfl⟩ := hrel
          have hlen : ns.length = n5 := by simpa [ics] using H5.out.2.1.1
          by_cases hjlt : j < n5
          · obtain ⟨b5, o5, hA5, -, hjl, y5⟩ := H5.out.2.1.at1 hjlt
            subst hA5
            have hjn : j < ns.length := by omega
            have hfd := foldl_take (b := best) hjn
            have hge : (ics ns)[j] = .int .i64 ns[j] := by simp [ics]
            rw [hge] at y5
            obtain ⟨z, hz⟩ : ∃ z, z = ns[j] := ⟨_, rfl⟩
            rw [← hz] at y5 hfd
            obtain ⟨m, hm⟩ : ∃ z, z = (ns.take j).foldl max best := ⟨_, rfl⟩
            rw [← hm] at hfd ⊢
            have hj1 : IntKind.i64.wrap ((j : Int) + 1) = (j : Int) + 1 := by rw [IntWalk.i64_in _ (by omega)]
            have hji : (j : Int) < (n5 : Int) := by omega
            have HFd := Lib.hid hfd
            have HL := Lib.hid hlen
            have l5 := lt_of_cell y5
            clear hfd hge hz hm hlen hjn hjl
            by_cases hg : m < z
            · have hgb : decide (m < z) = true := decide_eq_true hg
              go_wp2_with fail
              refine ⟨⟨j + 1, by omega, ?_, rfl, trivial⟩, by simp [intOf]; omega⟩
              rw [HFd.out, Int.max_eq_right (by omega)]
            · have hgb : decide (m < z) = false := decide_eq_false hg
              go_wp2_with fail
              refine ⟨⟨j + 1, by omega, ?_, rfl, trivial⟩, by simp [intOf]; omega⟩
              rw [HFd.out, Int.max_eq_left (by omega)]
          · obtain rfl : j = n5 := by omega
            have ht : ns.take j = ns := List.take_of_length_le (by omega)
            rw [ht]
            have HF5 := Lib.hid (HF.out.trans H5.out.2.2)
            clear ht hjlt hlen H5
            have hk1 : IntKind.i64.wrap ((k : Int) + 1) = (k : Int) + 1 := by rw [IntWalk.i64_in _ (by omega)]
            rw [← HS.out]
            clear HS
            go_wp2_with fail
            exact ⟨⟨k + 1, by omega, rfl, rfl, HF5⟩, by simp [intOf]; omega⟩
    · obtain rfl : k = n := by omega
      have hS : hs.take k = hs := List.take_of_length_le (by rw [H.out.len]; exact Nat.le_refl _)
      rw [hS]
      clear hS hlt
      go_wp2_with fail
      go_ret
      exact ⟨rfl, HF.out⟩
end Go.Proofs.YtioinjcdkmiafaaDoor
