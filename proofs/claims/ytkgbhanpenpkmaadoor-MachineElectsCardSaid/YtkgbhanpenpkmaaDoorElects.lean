/-
  WALK OF THE LAW 'MachineElects'.
-/
import Derived.Test.YtkgbhanpenpkmaaDoorApply
import Derived.Test.YtkgbhanpenpkmaaDoorWriter
namespace Go.Proofs.YtkgbhanpenpkmaaDoor
set_option linter.unusedVariables false
set_option linter.unusedSimpArgs false
open Go.RowKit

abbrev lead : List UInt8 := [108, 101, 97, 100]
abbrev tcs (ts : List (List UInt8)) : List Value := ts.map str
theorem valid_cas (q : Nat) (r : Int) (v d : List UInt8) (hq : q < 16) (hr : 1 ≤ r ∧ r ≤ 4611686018427387904) (hv : v.length ≤ 8) (hd : d.length ≤ 8) : validB (q : Int) 2 r 3 lead v d = true := by
  have h1 : countB r = true := by simp [countB, hr]
  have h2 : countB 2 = true := by simp [countB]
  have h3 : keyB lead = true := by kernel_rfl
  have h4 : valB v = true := by simp [valB, hv]
  have h5 : valB d = true := by simp [valB, hd]
  have e : shapeTab.getD (3 : Int).toNat 0 = 7 := by kernel_rfl
  have b1 : hasB 7 1 = true := by kernel_rfl
  have b2 : hasB 7 2 = true := by kernel_rfl
  have b4 : hasB 7 4 = true := by kernel_rfl
  unfold validB fitsB
  rw [h1, h2, e, b1, b2, b4, h3, h4, h5]
  have q1 : ¬ (q : Int) < 0 := by omega
  have q2 : ¬ 16 ≤ (q : Int) := by omega
  simp [q1, q2]
theorem valid_set (v : List UInt8) (hv : v.length ≤ 8) : validB ((0 : Nat) : Int) 1 1 1 lead v [] = true := by
  have h2 : countB 1 = true := by simp [countB]
  have h3 : keyB lead = true := by kernel_rfl
  have h4 : valB v = true := by simp [valB, hv]
  have h5 : valB [] = true := by kernel_rfl
  have e : shapeTab.getD (1 : Int).toNat 0 = 3 := by kernel_rfl
  have b1 : hasB 3 1 = true := by kernel_rfl
  have b2 : hasB 3 2 = true := by kernel_rfl
  have b4 : hasB 3 4 = false := by kernel_rfl
  unfold validB fitsB
  rw [h2, e, b1, b2, b4, h3, h4, h5]
  simp

theorem take8 (f : List UInt8) : Value.string (({ data := f.toArray } : ByteArray).extract 0 8) = str (f.take 8) := by
  congr 1
  apply ByteArray.ext
  simp [ByteArray.data_extract]
/-- What holds of the sessions ahead of round k. -/
def Early (k : Nat) (ss : List MSess) : Prop := ∀ s ∈ ss, s.inc < 2 ∨ (s.inc = 2 ∧ s.req < (k : Int) + 1)
theorem Early.set {k : Nat} {ss : List MSess} (h : Early k ss) (q : Nat) (R : MRes) : Early (k + 1) (ss.set q ⟨2, (k : Int) + 1, R⟩) := by
  intro s hs
  rcases List.mem_or_eq_of_mem_set hs with h1 | rfl
  · rcases h s h1 with h2 | ⟨h2, h3⟩
    · exact .inl h2
    · exact .inr ⟨h2, by omega⟩
  · exact .inr ⟨rfl, by simp; omega⟩
theorem Early.skip {k : Nat} {ss : List MSess} (h : Early k ss) : Early (k + 1) ss := fun s hs => by
  rcases h s hs with h2 | ⟨h2, h3⟩
  · exact .inl h2
  · exact .inr ⟨h2, by omega⟩

set_option maxRecDepth 20000 in
set_option maxHeartbeats 4000000 in
theorem elects_any (A1 A2 : Option Addr) (n1 c1 n2 c2 : Nat) (zs : List Int) (ts : List (List UInt8)) (f : List UInt8) (w : World) (hT : Tabs w) (h1 : Rd w (fun _ => True) 1 A1 n1 (ics zs)) (h2 : Rd w (fun _ => True) 1 A2 n2 (tcs ts)) (hz : ∀ z ∈ zs, -9223372036854775808 ≤ z ∧ z < 9223372036854775808) :
    Calls Tryd.prog 5 #[.slice A1 n1 c1, str f, .slice A2 n2 c2] w fun e w' => e = .returned (.bool true) ∧ Fresh w w' := by
  have HA := Lib.hid (And.intro hT (And.intro h1 (And.intro h2 hz)))
  clear hT h1 h2 hz
  obtain ⟨fr, hfr⟩ : ∃ fr, fr = f.take 8 := ⟨_, rfl⟩
  have hfl : fr.length ≤ 8 := by rw [hfr]; simp; omega
  have HN := Lib.hid (new_any w)
  have HR := Lib.hid (And.intro hfr hfl)
  clear hfr hfl
  go_enter Tryd.func5, Tryd.ntmps5
  go_upto_if 19 with (fail)
  go_cut [1] (fun s1 wx => s1 = str fr ∧ wx = w)
  case first =>
    go_wp2_with fail
    · go_meet
      exact ⟨by rw [HR.out.1]; exact take8 f, rfl⟩
    · go_meet
      exact ⟨by rw [HR.out.1, List.take_of_length_le (by omega)], rfl⟩
  case rest =>
    rename World => Wx
    obtain ⟨rfl, hw⟩ := hcut
    obtain rfl : w = Wx := hw.symm
    go_wp2_with fail
    refine HN.out.mono ?_
    rintro e w1 ⟨⟨m, bp, bl, rfl, hm, hmw, hbw, hlw⟩, hf1⟩
    have HS0 := apply_any m bp bl [] 0 (List.replicate 16 zeroSess) 0 1 1 1 lead fr [] w1 hm (HA.out.1.fresh hf1) (by omega) (valid_set fr HR.out.2) (.inl rfl) (by simp) (.inl (by simp [zeroSess]))
    rw [show doR 1 lead fr [] [] = ⟨1, [], 0⟩ from rfl, show doP 1 lead fr [] [] = [(lead, fr)] from rfl] at HS0
    have HS := Lib.hid HS0
    have H1 := Lib.hid (And.intro hf1 (And.intro hmw (And.intro hbw hlw)))
    clear hm hf1 hmw hbw hlw HN HS0
    go_wp2_with fail
    refine HS.out.mono ?_
    rintro e w2 ⟨rfl, hm2, hk2⟩
    have H2 : Hid (MOn w2 m bp bl [(lead, fr)] 0 ((List.replicate 16 zeroSess).set 0 ⟨1, 1, ⟨1, [], 0⟩⟩) ∧ Fresh w w2) := Lib.hid ⟨hm2, H1.out.1.comp hk2 (fun _ _ _ => trivial) (fun j hj _ => by have := H1.out.2.1; have := H1.out.2.2.1; omega)⟩
    clear hm2 hk2 HS
    go_wp2_with fail
    go_loopw [8, 9, 10] (fun cv dv iv wr => ∃ (k : Nat) (ch : List UInt8) (dn : Bool) (ss : List MSess), k ≤ 40 ∧ cv = str ch ∧ dv = .bool dn ∧ iv = .int .i64 (k : Int) ∧ Hid (MOn wr m bp bl [(lead, ch)] 0 ss ∧ Fresh w wr ∧ Early k ss ∧ k ≤ n1 ∧ k ≤ n2 ∧ (dn = false → ch = fr) ∧ (dn = true → ch ≠ fr))) (fun _ _ i _ => 40 - (intOf i).toNat)
    case atStart => exact ⟨0, fr, false, _, by omega, rfl, rfl, rfl, Lib.hid ⟨H2.out.1, H2.out.2, fun s hs => by
      rcases List.mem_or_eq_of_mem_set hs with h1 | rfl
      · rw [List.eq_of_mem_replicate h1]; exact .inl (by simp [zeroSess])
      · exact .inl (by simp), by omega, by omega, fun _ => rfl, fun h => by cases h⟩⟩
    case round =>
      obtain ⟨k, ch, dn, ss, hk, rfl, rfl, rfl, HW⟩ := hrel
      by_cases hlt : k < n1 ∧ k < n2 ∧ k < 40
      · obtain ⟨l1, l2, l3⟩ := hlt
        obtain ⟨b1, o1, rfl, -, hl1, g1⟩ := (HA.out.2.1.keep (HW.out.2.1)).at1 l1
        obtain ⟨b2, o2, rfl, -, hl2, g2⟩ := (HA.out.2.2.1.keep (HW.out.2.1)).at1 l2
        have hz1 : k < zs.length := by simpa [ics] using hl1
        have ht1 : k < ts.length := by simpa [tcs] using hl2
        obtain ⟨z, hz⟩ : ∃ z, z = zs[k] := ⟨_, rfl⟩
        obtain ⟨t, ht⟩ : ∃ t, t = ts[k] := ⟨_, rfl⟩
        rw [show (ics zs)[k] = .int .i64 z by rw [hz]; simp [ics]] at g1
        rw [show (tcs ts)[k] = str t by rw [ht]; simp [tcs]] at g2
        have hzr : -9223372036854775808 ≤ z ∧ z < 9223372036854775808 := by rw [hz]; exact HA.out.2.2.2 _ (List.getElem_mem hz1)
        clear hl1 hl2 hz1 ht1 hz ht
        go_upto_if 57 with (fail)
        go_cut [11] (fun s11 wx => ∃ y : Int, s11 = .int .i64 y ∧ 0 ≤ y ∧ y < 9223372036854775808 ∧ wx = wr)
        case first =>
          by_cases hneg : z < 0
          · have e1 : IntKind.i64.wrap (z + 1) = z + 1 := by rw [IntKind.wrap_i64]; omega
            have e2 : IntKind.i64.wrap (-(z + 1)) = -(z + 1) := by rw [IntKind.wrap_i64]; omega
            go_wp2_with fail
            go_meet
            exact ⟨_, rfl, by omega, by omega, rfl⟩
          · go_wp2_with fail
            go_meet
            exact ⟨_, rfl, by omega, by omega, rfl⟩
        case rest =>
          rename World => Wx
          obtain ⟨y, rfl, hy0, hy1, hw⟩ := hcut
          obtain rfl : wr = Wx := hw.symm
          obtain ⟨v, hv⟩ : ∃ v, v = t.take 8 := ⟨_, rfl⟩
          have HV := Lib.hid hv
          have hvl : v.length ≤ 8 := by rw [hv]; simp; omega
          clear hv
          go_upto_if 63 with (fail)
          go_cut [12] (fun s12 wx => s12 = str v ∧ wx = wr)
          case first =>
            go_wp2_with fail
            · go_meet
              exact ⟨by rw [HV.out]; exact take8 t, rfl⟩
            · go_meet
              exact ⟨by rw [HV.out, List.take_of_length_le (by omega)], rfl⟩
          case rest =>
            rename World => Wx
            obtain ⟨rfl, hw⟩ := hcut
            obtain rfl : wr = Wx := hw.symm
            by_cases hvf : v = fr
            · have hb : (v == fr) = true := by simp [hvf]
              clear HV
              go_wp2_with fail
              exact ⟨⟨k + 1, ch, dn, ss, by omega, rfl, rfl, congrArg _ (by omega), Lib.hid ⟨HW.out.1, HW.out.2.1, HW.out.2.2.1.skip, by omega, by omega, HW.out.2.2.2.2.2.1, HW.out.2.2.2.2.2.2⟩⟩, by simp [intOf]; omega⟩
            · have hb : (v == fr) = false := by simp [hvf]
              have HX := Lib.hid hvf
              have hqe : (((y % 16).toNat : Nat) : Int) = y % 16 := by omega
              have hqn : (y % 16).toNat < 16 := by omega
              have hss : (y % 16).toNat < ss.length := by rw [HW.out.1.len]; exact hqn
              have HC := apply_any m bp bl [(lead, ch)] 0 ss (y % 16).toNat 2 ((k : Int) + 1) 3 lead v fr wr HW.out.1 (HA.out.1.fresh HW.out.2.1) hqn (valid_cas _ _ v fr hqn (by omega) hvl HR.out.2) (.inr rfl) (by simp) (HW.out.2.2.1 _ (List.getElem_mem hss))
              rw [hqe] at HC
              cases dn with
              | false =>
                obtain rfl : fr = ch := (HW.out.2.2.2.2.2.1 rfl).symm
                have er : doR 3 lead v fr [(lead, fr)] = ⟨1, fr, 1⟩ := by simp [doR, casR, pfind]
                have ep : doP 3 lead v fr [(lead, fr)] = [(lead, v)] := by simp [doP, casP, pfind, pput, pdel, pins]
                rw [er, ep] at HC
                have HS := Lib.hid HC
                clear HC hvf hqe hqn hss er ep HV
                go_wp2_with fail
                refine HS.out.mono ?_
                rintro e w3 ⟨rfl, hm3, hk3⟩
                have H3 : Hid (MOn w3 m bp bl [(lead, v)] 0 _ ∧ Fresh w w3) := Lib.hid ⟨hm3, HW.out.2.1.comp hk3 (fun _ _ _ => trivial) (fun j hj _ => by have := H1.out.2.1; have := H1.out.2.2.1; omega)⟩
                clear hm3 hk3 HS
                go_wp2_with fail
                exact ⟨⟨k + 1, v, true, _, by omega, rfl, rfl, congrArg _ (by omega), Lib.hid ⟨H3.out.1.keep (((Keep.refl (fun _ => True) _).alloc _).alloc _) trivial trivial trivial, (H3.out.2.alloc _).alloc _, HW.out.2.2.1.set _ _, by omega, by omega, (fun h => by cases h), fun _ => HX.out⟩⟩, by simp [intOf]; omega⟩
              | true =>
                have hcf : ch ≠ fr := HW.out.2.2.2.2.2.2 rfl
                have er : doR 3 lead v fr [(lead, ch)] = ⟨3, ch, 1⟩ := by simp [doR, casR, pfind, hcf]
                have ep : doP 3 lead v fr [(lead, ch)] = [(lead, ch)] := by simp [doP, casP, pfind, hcf]
                rw [er, ep] at HC
                have HS := Lib.hid HC
                clear HC hvf hqe hqn hss er ep HV hcf
                go_wp2_with fail
                refine HS.out.mono ?_
                rintro e w3 ⟨rfl, hm3, hk3⟩
                have H3 : Hid (MOn w3 m bp bl [(lead, ch)] 0 _ ∧ Fresh w w3) := Lib.hid ⟨hm3, HW.out.2.1.comp hk3 (fun _ _ _ => trivial) (fun j hj _ => by have := H1.out.2.1; have := H1.out.2.2.1; omega)⟩
                clear hm3 hk3 HS
                go_wp2_with fail
                exact ⟨⟨k + 1, ch, true, _, by omega, rfl, rfl, congrArg _ (by omega), Lib.hid ⟨H3.out.1.keep (((Keep.refl (fun _ => True) _).alloc _).alloc _) trivial trivial trivial, (H3.out.2.alloc _).alloc _, HW.out.2.2.1.set _ _, by omega, by omega, (fun h => by cases h), fun _ => HW.out.2.2.2.2.2.2 trivial⟩⟩, by simp [intOf]; omega⟩
      · have HG0 := get_any m bp [(lead, ch)] lead wr (HW.out.1.cell 0) HW.out.1.pm (by simp)
        rw [show (pfind lead [(lead, ch)]).getD [] = ch by simp [pfind], show (pfind lead [(lead, ch)]).isSome = true by simp [pfind]] at HG0
        have HG := Lib.hid HG0
        have hk1 := HW.out.2.2.2.1
        have hk2 := HW.out.2.2.2.2.1
        clear HG0
        go_wp2_with fail
        all_goals
          refine HG.out.mono ?_
          rintro e _ ⟨rfl, rfl⟩
          go_wp2_with fail
          go_ret
          exact ⟨rfl, HW.out.2.1⟩
end Go.Proofs.YtkgbhanpenpkmaaDoor
