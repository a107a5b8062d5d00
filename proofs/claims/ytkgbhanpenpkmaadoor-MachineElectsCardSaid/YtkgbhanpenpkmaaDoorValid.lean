/-
  WALKS OF machine's 'valid', 'CheckCommand'.
-/
import Derived.Test.YtkgbhanpenpkmaaDoorCheck
namespace Go.Proofs.YtkgbhanpenpkmaaDoor
set_option linter.unusedVariables false
set_option linter.unusedSimpArgs false
open Go.RowKit

def validB (c i r o : Int) (k v d : List UInt8) : Bool :=
  if c < 0 then false else if 16 ≤ c then false else if countB i = false then false else if countB r = false then false else if o < 1 then false else if 10 ≤ o then false
  else fitsB (shapeTab.getD o.toNat 0) k v d

set_option maxHeartbeats 4000000 in
theorem valid_any (c i r o : Int) (k v d : List UInt8) (w : World) (hT : Tabs w) :
    Calls Tryd.prog 24 #[cmdV c i r o k v d] w fun e w' => e = .returned (.bool (validB c i r o k v d)) ∧ Fresh w w' := by
  obtain ⟨t, ht⟩ : ∃ t, t = validB c i r o k v d := ⟨_, rfl⟩
  rw [← ht]
  unfold validB at ht
  have I := count_any i
  have R := count_any r
  generalize countB i = bi at I ht
  generalize countB r = br at R ht
  replace I := Lib.hid I
  replace R := Lib.hid R
  have e1 : c < 0 → false = t := fun h => by rw [ht, if_pos h]
  have e2 : 16 ≤ c → false = t := fun h => by rw [ht, if_neg (by omega), if_pos h]
  have e3 : bi = false → false = t := fun h => by rw [ht, if_pos h]; split <;> first | rfl | (split <;> rfl)
  have e4 : br = false → false = t := fun h => by rw [ht, if_pos h]; split <;> first | rfl | (split <;> first | rfl | (split <;> rfl))
  have e5 : o < 1 → false = t := fun h => by rw [ht, if_pos h]; split <;> first | rfl | (split <;> first | rfl | (split <;> first | rfl | (split <;> rfl)))
  have e6 : 10 ≤ o → false = t := fun h => by rw [ht, if_pos h]; split <;> first | rfl | (split <;> first | rfl | (split <;> first | rfl | (split <;> first | rfl | (split <;> rfl))))
  have e7 : 0 ≤ c → c < 16 → bi = true → br = true → 1 ≤ o → o < 10 → t = fitsB (shapeTab.getD o.toNat 0) k v d := fun h1 h2 h3 h4 h5 h6 => by
    rw [ht, if_neg (by omega), if_neg (by omega), if_neg (by simp [h3]), if_neg (by simp [h4]), if_neg (by omega), if_neg (by omega)]
  clear ht
  replace e1 := Lib.hid e1
  replace e2 := Lib.hid e2
  replace e3 := Lib.hid e3
  replace e4 := Lib.hid e4
  replace e5 := Lib.hid e5
  replace e6 := Lib.hid e6
  replace e7 := Lib.hid e7
  have HT := Lib.hid hT
  clear hT
  go_enter Tryd.func24, Tryd.ntmps24
  go_wp2_with fail
  · obtain ⟨B, hB⟩ : ∃ B, B = w.heap.size := ⟨_, rfl⟩
    obtain ⟨W, hW⟩ : ∃ W, W = w.alloc (.cells #[.int .i64 c, .int .i64 i, .int .i64 r, .int .i64 o, str k, str v, str d] 23) := ⟨_, rfl⟩
    rw [← hW, ← hB]
    have hf : Fresh w W := hW ▸ (Keep.refl _ w).alloc _
    have c0 : W.cell? ⟨B, 0, none⟩ = some (.int .i64 c) := by rw [hW, hB]; simp
    have c1 : W.cell? ⟨B, 1, none⟩ = some (.int .i64 i) := by rw [hW, hB]; simp
    have c2 : W.cell? ⟨B, 2, none⟩ = some (.int .i64 r) := by rw [hW, hB]; simp
    have c3 : W.cell? ⟨B, 3, none⟩ = some (.int .i64 o) := by rw [hW, hB]; simp
    have c4 : W.cell? ⟨B, 4, none⟩ = some (str k) := by rw [hW, hB]; simp
    have c5 : W.cell? ⟨B, 5, none⟩ = some (str v) := by rw [hW, hB]; simp
    have c6 : W.cell? ⟨B, 6, none⟩ = some (str d) := by rw [hW, hB]; simp
    have HF := Lib.hid hf
    clear hf hW hB
    refine (I.out W).mono ?_
    rintro e _ ⟨rfl, rfl⟩
    cases bi
    · go_wp2_with fail
      go_ret
      exact ⟨ret_bool (e3.out (by simp)), HF.out⟩
    · go_wp2_with fail
      refine (R.out W).mono ?_
      rintro e _ ⟨rfl, rfl⟩
      cases br
      · go_wp2_with fail
        go_ret
        exact ⟨ret_bool (e4.out (by simp)), HF.out⟩
      · by_cases h5 : o < 1
        · go_wp2_with fail
          go_ret
          exact ⟨ret_bool (e5.out h5), HF.out⟩
        · by_cases h6 : 10 ≤ o
          · go_wp2_with fail
            go_ret
            exact ⟨ret_bool (e6.out h6), HF.out⟩
          · have hE := e7.out (by omega) (by omega) (by simp) (by simp) (by omega) (by omega)
            obtain ⟨on, rfl⟩ : ∃ on : Nat, o = (on : Int) := ⟨o.toNat, by omega⟩
            have HG := Lib.hid (fits_any c i r on k v d W (HT.out.fresh HF.out) (by omega))
            simp only [Int.toNat_natCast] at hE
            have HE := Lib.hid hE
            clear hE
            go_wp2_with fail
            refine HG.out.mono ?_
            rintro e w1 ⟨rfl, hk⟩
            go_wp2_with fail
            go_ret
            exact ⟨ret_bool HE.out.symm, HF.out.trans hk⟩
  · go_ret
    exact ⟨ret_bool (e2.out (by assumption)), (Keep.refl _ w).alloc _⟩
  · go_ret
    exact ⟨ret_bool (e1.out (by assumption)), (Keep.refl _ w).alloc _⟩

set_option maxHeartbeats 400000 in
theorem check_any (c i r o : Int) (k v d : List UInt8) (w : World) (hT : Tabs w) :
    Calls Tryd.prog 7 #[cmdV c i r o k v d] w fun e w' => e = .returned (.int .i64 (if validB c i r o k v d = true then 0 else 130)) ∧ Fresh w w' := by
  have hk0 : Fresh w (w.alloc (.cells #[.int .i64 c, .int .i64 i, .int .i64 r, .int .i64 o, str k, str v, str d] 23)) := (Keep.refl _ w).alloc _
  have HC := Lib.hid (valid_any c i r o k v d _ (hT.fresh hk0))
  have HK := Lib.hid hk0
  clear hk0 hT
  generalize validB c i r o k v d = b at HC ⊢
  go_enter Tryd.func7, Tryd.ntmps7
  go_wp2_with fail
  refine HC.out.mono ?_
  rintro e w1 ⟨rfl, hk⟩
  cases b
  all_goals
    go_wp2_with fail
    go_ret
    exact ⟨by simp, HK.out.trans hk⟩
end Go.Proofs.YtkgbhanpenpkmaaDoor
