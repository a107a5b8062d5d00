/-
  MERGED: RCheck
-/
import Derived.Test.YtohnmaindbgngaaGreatDoorD3
import Derived.Test.YtohnmaindbgngaaGreatDoorQ4
namespace Go.Proofs.YtohnmaindbgngaaGreatDoor
set_option linter.unusedVariables false
set_option linter.unusedSimpArgs false
open Go.RowKit

/-- The document's words for a command's texts, by the operation. -/
def rfits (o : Int) (k v d : List UInt8) : Bool :=
  (if o = 9 then k == [] else keyB k) &&
  (if o = 1 ∨ o = 3 then valB v else if o = 5 then (numb v).2 else if o = 8 then (numb v).2 && decide (0 < (numb v).1) else if o = 9 then (numb v).2 && (decide (0 ≤ (numb v).1) && decide ((numb v).1 < 16)) else v == []) &&
  (if o = 3 then valB d else d == [])
theorem rfits_eq (on : Nat) (k v d : List UInt8) (h1 : 1 ≤ on) (h9 : on ≤ 9) : fitsB (shapeTab.getD on 0) k v d = rfits (on : Int) k v d := by
  have hk : keyB [] = false := rfl
  have hd : valB [] = true := rfl
  have hc : on = 1 ∨ on = 2 ∨ on = 3 ∨ on = 4 ∨ on = 5 ∨ on = 6 ∨ on = 7 ∨ on = 8 ∨ on = 9 := by omega
  rcases hc with rfl | rfl | rfl | rfl | rfl | rfl | rfl | rfl | rfl
  · unfold fitsB rfits
    rw [show hasB (shapeTab.getD 1 0) 1 = true by decide, show hasB (shapeTab.getD 1 0) 4 = false by decide, show hasB (shapeTab.getD 1 0) 2 = true by decide]
    cases keyB k <;> cases d <;> simp [hd]
  · unfold fitsB rfits
    rw [show hasB (shapeTab.getD 2 0) 1 = true by decide, show hasB (shapeTab.getD 2 0) 4 = false by decide, show hasB (shapeTab.getD 2 0) 2 = false by decide, show hasB (shapeTab.getD 2 0) 8 = false by decide, show hasB (shapeTab.getD 2 0) 16 = false by decide, show hasB (shapeTab.getD 2 0) 32 = false by decide]
    cases keyB k <;> cases d <;> simp [hd]
  · unfold fitsB rfits
    rw [show hasB (shapeTab.getD 3 0) 1 = true by decide, show hasB (shapeTab.getD 3 0) 4 = true by decide, show hasB (shapeTab.getD 3 0) 2 = true by decide]
    cases keyB k <;> cases hv : valB d <;> simp [hd]
  · unfold fitsB rfits
    rw [show hasB (shapeTab.getD 4 0) 1 = true by decide, show hasB (shapeTab.getD 4 0) 4 = false by decide, show hasB (shapeTab.getD 4 0) 2 = false by decide, show hasB (shapeTab.getD 4 0) 8 = false by decide, show hasB (shapeTab.getD 4 0) 16 = false by decide, show hasB (shapeTab.getD 4 0) 32 = false by decide]
    cases keyB k <;> cases d <;> simp [hd]
  · unfold fitsB rfits
    rw [show hasB (shapeTab.getD 5 0) 1 = true by decide, show hasB (shapeTab.getD 5 0) 4 = false by decide, show hasB (shapeTab.getD 5 0) 2 = false by decide, show hasB (shapeTab.getD 5 0) 8 = true by decide]
    cases keyB k <;> cases d <;> simp [hd]
  · unfold fitsB rfits
    rw [show hasB (shapeTab.getD 6 0) 1 = true by decide, show hasB (shapeTab.getD 6 0) 4 = false by decide, show hasB (shapeTab.getD 6 0) 2 = false by decide, show hasB (shapeTab.getD 6 0) 8 = false by decide, show hasB (shapeTab.getD 6 0) 16 = false by decide, show hasB (shapeTab.getD 6 0) 32 = false by decide]
    cases keyB k <;> cases d <;> simp [hd]
  · unfold fitsB rfits
    rw [show hasB (shapeTab.getD 7 0) 1 = true by decide, show hasB (shapeTab.getD 7 0) 4 = false by decide, show hasB (shapeTab.getD 7 0) 2 = false by decide, show hasB (shapeTab.getD 7 0) 8 = false by decide, show hasB (shapeTab.getD 7 0) 16 = false by decide, show hasB (shapeTab.getD 7 0) 32 = false by decide]
    cases keyB k <;> cases d <;> simp [hd]
  · unfold fitsB rfits
    rw [show hasB (shapeTab.getD 8 0) 1 = true by decide, show hasB (shapeTab.getD 8 0) 4 = false by decide, show hasB (shapeTab.getD 8 0) 2 = false by decide, show hasB (shapeTab.getD 8 0) 8 = false by decide, show hasB (shapeTab.getD 8 0) 16 = true by decide]
    cases keyB k <;> cases d <;> simp [hd]
  · unfold fitsB rfits
    rw [show hasB (shapeTab.getD 9 0) 1 = false by decide, show hasB (shapeTab.getD 9 0) 4 = false by decide, show hasB (shapeTab.getD 9 0) 2 = false by decide, show hasB (shapeTab.getD 9 0) 8 = false by decide, show hasB (shapeTab.getD 9 0) 16 = false by decide, show hasB (shapeTab.getD 9 0) 32 = true by decide]
    cases k <;> cases d <;> simp [hd, hk]
    all_goals cases hkk : keyB (_ :: _) <;> simp

set_option maxRecDepth 20000 in
set_option maxHeartbeats 8000000 in
theorem rcheck_any (c i r o : Int) (k v d : List UInt8) (w : World) :
    Calls Tryz.prog 61 #[cmdV c i r o k v d] w fun e w' => e = .returned (.int .i64 (if validB c i r o k v d = true then 0 else 130)) ∧ Fresh w w' := by
  obtain ⟨t, ht⟩ : ∃ t, t = validB c i r o k v d := ⟨_, rfl⟩
  rw [← ht]
  obtain ⟨q, hq⟩ : ∃ q : Int, q = (if t = true then 0 else 130) := ⟨_, rfl⟩
  rw [← hq]
  replace hq := Lib.hid hq
  by_cases hr : (0 ≤ c ∧ c < 16) ∧ (1 ≤ i ∧ i ≤ 4611686018427387904) ∧ (1 ≤ r ∧ r ≤ 4611686018427387904) ∧ (1 ≤ o ∧ o ≤ 9)
  · have HT : t = rfits o k v d := by
      obtain ⟨h1, h2, h3, h4⟩ := hr
      rw [ht]
      unfold validB
      rw [if_neg (by omega), if_neg (by omega), if_neg (by simp [countB]; omega), if_neg (by simp [countB]; omega), if_neg (by omega), if_neg (by omega)]
      have := rfits_eq o.toNat k v d (by omega) (by omega)
      rw [this, show ((o.toNat : Nat) : Int) = o by omega]
    obtain ⟨⟨a1, a2⟩, ⟨a3, a4⟩, ⟨a5, a6⟩, ⟨a7, a8⟩⟩ := hr
    replace HT := Lib.hid HT
    clear ht
    have HN := Lib.hid (rnumber_any v)
    rw [rnum_eq] at HN
    obtain ⟨nz, hnz⟩ : ∃ nz : Int, nz = if (numb v).2 = true then (numb v).1 else 0 := ⟨_, rfl⟩
    obtain ⟨nb, hnb⟩ : ∃ nb : Bool, nb = (numb v).2 := ⟨_, rfl⟩
    rw [← hnz, ← hnb] at HN
    have HZ := Lib.hid (And.intro hnz hnb)
    clear hnz hnb
    dsimp only at HN
    have hoc : o = 1 ∨ o = 2 ∨ o = 3 ∨ o = 4 ∨ o = 5 ∨ o = 6 ∨ o = 7 ∨ o = 8 ∨ o = 9 := by omega
    clear a7 a8
    rcases hoc with rfl | rfl | rfl | rfl | rfl | rfl | rfl | rfl | rfl
    all_goals
      go_enter Tryz.func61, Tryz.ntmps61
      go_wp2_with fail
      all_goals
        refine (HN.out _).mono ?_
        rintro e _ ⟨rfl, rfl⟩
        go_wp2_with fail
        all_goals
          go_ret
          refine ⟨ret_int ?_, (Keep.refl _ w).alloc _⟩
          rw [hq.out, HT.out]
          obtain ⟨hz1, hz2⟩ := HZ.out
          first
            | (simp_all [rfits, keyB, valB]; done)
            | (simp_all [rfits, keyB, valB]; omega)
  · have HT : t = false := by
      cases t with
      | false => rfl
      | true =>
        obtain ⟨h1, h2, h3, h4, _⟩ := valid_ok ht.symm
        exact absurd ⟨h1, h2, h3, by omega⟩ hr
    have hq130 : q = 130 := by rw [hq.out, HT]; rfl
    clear ht HT hq
    replace hq130 := Lib.hid hq130
    have hor : (c < 0) ∨ (0 ≤ c ∧ 16 ≤ c) ∨ (0 ≤ c ∧ c < 16 ∧ i < 1) ∨ (0 ≤ c ∧ c < 16 ∧ 1 ≤ i ∧ 4611686018427387904 < i) ∨ (0 ≤ c ∧ c < 16 ∧ 1 ≤ i ∧ i ≤ 4611686018427387904 ∧ r < 1) ∨ (0 ≤ c ∧ c < 16 ∧ 1 ≤ i ∧ i ≤ 4611686018427387904 ∧ 1 ≤ r ∧ 4611686018427387904 < r)
      ∨ (0 ≤ c ∧ c < 16 ∧ 1 ≤ i ∧ i ≤ 4611686018427387904 ∧ 1 ≤ r ∧ r ≤ 4611686018427387904 ∧ o < 1) ∨ (0 ≤ c ∧ c < 16 ∧ 1 ≤ i ∧ i ≤ 4611686018427387904 ∧ 1 ≤ r ∧ r ≤ 4611686018427387904 ∧ 1 ≤ o ∧ 9 < o) := by omega
    clear hr
    rcases hor with b1 | ⟨b1, b2⟩ | ⟨b1, b2, b3⟩ | ⟨b1, b2, b3, b4⟩ | ⟨b1, b2, b3, b4, b5⟩ | ⟨b1, b2, b3, b4, b5, b6⟩ | ⟨b1, b2, b3, b4, b5, b6, b7⟩ | ⟨b1, b2, b3, b4, b5, b6, b7, b8⟩
    all_goals
      go_enter Tryz.func61, Tryz.ntmps61
      go_wp2_with fail
      go_ret
      exact ⟨ret_int hq130.out.symm, (Keep.refl _ w).alloc _⟩
end Go.Proofs.YtohnmaindbgngaaGreatDoor
