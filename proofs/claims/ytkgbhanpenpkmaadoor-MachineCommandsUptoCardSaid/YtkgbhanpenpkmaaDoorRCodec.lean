/-
  PLAIN LEAN: what the document's reader reads is what the program's reader reads. No program in sight.
-/
import Derived.Test.YtkgbhanpenpkmaaDoorCodec
namespace Go.Proofs.YtkgbhanpenpkmaaDoor
set_option linter.unusedVariables false
set_option linter.unusedSimpArgs false

/-- The document's next count: the number, the place, what was amiss. -/
def nNum (bs : List UInt8) (p : Nat) (e lo hi : Int) : Nat × Nat × Int :=
  if e ≠ 0 then (0, p, e)
  else if (takeB (bs.drop p)).2.2 ≠ 0 then (0, p, (takeB (bs.drop p)).2.2)
  else if ((takeB (bs.drop p)).1 : Int) < lo ∨ hi < ((takeB (bs.drop p)).1 : Int) then (0, p + (takeB (bs.drop p)).2.1, 16)
  else ((takeB (bs.drop p)).1, p + (takeB (bs.drop p)).2.1, 0)
/-- The document's next list of bytes. -/
def nByt (bs : List UInt8) (p : Nat) (e hi : Int) : List UInt8 × Nat × Int :=
  if (nNum bs p e 0 hi).2.2 ≠ 0 then ([], (nNum bs p e 0 hi).2.1, (nNum bs p e 0 hi).2.2)
  else if bs.length < (nNum bs p e 0 hi).2.1 + (nNum bs p e 0 hi).1 then ([], (nNum bs p e 0 hi).2.1, 10)
  else ((bs.drop (nNum bs p e 0 hi).2.1).take (nNum bs p e 0 hi).1, (nNum bs p e 0 hi).2.1 + (nNum bs p e 0 hi).1, 0)
theorem nNum_stick {bs : List UInt8} {p : Nat} {e lo hi : Int} (h : e ≠ 0) : nNum bs p e lo hi = (0, p, e) := by rw [nNum, if_pos h]
theorem nNum_le (bs : List UInt8) (p : Nat) (e lo hi : Int) (hp : p ≤ bs.length) : (nNum bs p e lo hi).2.1 ≤ bs.length := by
  have h1 : (takeB (bs.drop p)).2.2 = 0 → p + (takeB (bs.drop p)).2.1 ≤ bs.length := fun h2 => by
    have := takeGo_le 9 (bs.drop p) 0 0 h2
    rw [List.length_drop] at this
    unfold takeB
    omega
  unfold nNum
  split
  · exact hp
  · split
    · exact hp
    · rename_i h2
      have h3 := h1 (Classical.not_not.1 h2)
      split
      · exact h3
      · exact h3
theorem nByt_le (bs : List UInt8) (p : Nat) (e hi : Int) (hp : p ≤ bs.length) : (nByt bs p e hi).2.1 ≤ bs.length := by
  have := nNum_le bs p e 0 hi hp
  unfold nByt
  split
  · exact this
  · split
    · exact this
    · show _ + _ ≤ _
      omega
theorem count_of_num {bs : List UInt8} {p v p' : Nat} {lo hi most : Int} (h : nNum bs p 0 lo hi = (v, p', 0)) (hm : hi ≤ most) : rCount bs p false most = (v, p', false) ∧ lo ≤ (v : Int) ∧ (v : Int) ≤ hi := by
  unfold nNum at h
  rw [if_neg (by simp)] at h
  split at h
  · rename_i h1
    injection h with _ h
    injection h with _ h
    exact absurd h h1
  · rename_i h1
    split at h
    · injection h with _ h
      injection h with _ h
      exact absurd h (by decide)
    · rename_i h2
      injection h with e1 h
      injection h with e2 _
      refine ⟨?_, by omega, by omega⟩
      rw [rCount, if_neg (by rintro (h3 | h3 | h3); exact absurd h3 (by decide); exact h1 h3; omega), e1, e2]
theorem num_of_count {bs : List UInt8} {p : Nat} {bad : Bool} {lo hi most : Int} (h : (rCount bs p bad most).2.2 = false) (h1 : lo ≤ ((rCount bs p bad most).1 : Int)) (h2 : ((rCount bs p bad most).1 : Int) ≤ hi) :
    nNum bs p 0 lo hi = ((rCount bs p bad most).1, (rCount bs p bad most).2.1, 0) ∧ bad = false := by
  unfold rCount at h h1 h2 ⊢
  split at h
  · cases h
  · rename_i hc
    rw [if_neg hc] at h1 h2 ⊢
    have h3 : (takeB (bs.drop p)).2.2 = 0 := Classical.not_not.1 fun h3 => hc (.inr (.inl h3))
    refine ⟨?_, ?_⟩
    · rw [nNum, if_neg (by simp), if_neg (by simpa using h3), if_neg (by omega)]
    · cases bad with
      | false => rfl
      | true => exact absurd (.inl rfl) hc
theorem text_of_byt {bs l : List UInt8} {p p' : Nat} {hi : Int} (h : nByt bs p 0 hi = (l, p', 0)) : rText bs p false hi = (l, p', false) := by
  unfold nByt at h
  split at h
  · rename_i h1
    injection h with _ h
    injection h with _ h
    exact absurd h h1
  · rename_i h1
    obtain ⟨q, hq⟩ : ∃ q, q = nNum bs p 0 0 hi := ⟨_, rfl⟩
    rw [← hq] at h h1
    obtain ⟨v, p1, e1⟩ := q
    obtain rfl : e1 = 0 := Classical.not_not.1 h1
    obtain ⟨hc, _, _⟩ := count_of_num hq.symm (Int.le_refl hi)
    split at h
    · injection h with _ h
      injection h with _ h
      exact absurd h (by decide)
    · rename_i h2
      injection h with e1 h
      injection h with e2 _
      dsimp only at e1 e2 h2
      rw [rText, hc, if_neg (by rintro (h3 | h3); simp at h3; exact h2 h3)]
      dsimp only
      rw [e1, e2]
theorem byt_of_text {bs : List UInt8} {p : Nat} {bad : Bool} {hi : Int} (h : (rText bs p bad hi).2.2 = false) : nByt bs p 0 hi = ((rText bs p bad hi).1, (rText bs p bad hi).2.1, 0) ∧ bad = false := by
  unfold rText at h ⊢
  split at h
  · cases h
  · rename_i hc
    rw [if_neg hc]
    have h1 : (rCount bs p bad hi).2.2 = false := by
      cases hb : (rCount bs p bad hi).2.2 with
      | false => rfl
      | true => exact absurd (.inl hb) hc
    have hle : ((rCount bs p bad hi).1 : Int) ≤ hi := by
      unfold rCount at h1 ⊢
      split at h1
      · cases h1
      · rename_i h3
        rw [if_neg h3]
        dsimp only
        have : ¬ hi < ((takeB (bs.drop p)).1 : Int) := fun h4 => h3 (.inr (.inr h4))
        omega
    obtain ⟨h2, hb⟩ := num_of_count (lo := 0) h1 (by omega) hle
    refine ⟨?_, hb⟩
    rw [nByt, h2, if_neg (by simp), if_neg (fun h5 => hc (.inr h5))]
/-- Behind j of the document's four counts; of its three texts. -/
def nlo : Nat → Int
  | 0 => 0
  | _ => 1
def nhi : Nat → Int
  | 0 => 15
  | 1 => 4611686018427387904
  | 2 => 4611686018427387904
  | _ => 9
def nst (bs : List UInt8) : Nat → Nat × Nat × Int
  | 0 => (0, 0, 0)
  | j + 1 => nNum bs (nst bs j).2.1 (nst bs j).2.2 (nlo j) (nhi j)
def ntt (bs : List UInt8) : Nat → List UInt8 × Nat × Int
  | 0 => ([], (nst bs 4).2.1, (nst bs 4).2.2)
  | j + 1 => nByt bs (ntt bs j).2.1 (ntt bs j).2.2 8
theorem nst_le (bs : List UInt8) (j : Nat) : (nst bs j).2.1 ≤ bs.length := by
  induction j with
  | zero => simp [nst]
  | succ j ih => exact nNum_le bs _ _ _ _ ih
theorem ntt_le (bs : List UInt8) (j : Nat) : (ntt bs j).2.1 ≤ bs.length := by
  induction j with
  | zero => exact nst_le bs 4
  | succ j ih => exact nByt_le bs _ _ _ ih
def nsound (bs : List UInt8) : Bool := decide ((ntt bs 3).2.2 = 0) && decide ((ntt bs 3).2.1 = bs.length)
def nOk (bs : List UInt8) : Bool := nsound bs && validB ((nst bs 1).1 : Int) ((nst bs 2).1 : Int) ((nst bs 3).1 : Int) ((nst bs 4).1 : Int) (ntt bs 1).1 (ntt bs 2).1 (ntt bs 3).1
theorem nst_err {bs : List UInt8} {j : Nat} (h : (nst bs (j + 1)).2.2 = 0) : (nst bs j).2.2 = 0 := Classical.not_not.1 fun h1 => by
  rw [nst, nNum_stick h1] at h
  exact h1 h
theorem ntt_err {bs : List UInt8} {j : Nat} (h : (ntt bs (j + 1)).2.2 = 0) : (ntt bs j).2.2 = 0 := Classical.not_not.1 fun h1 => by
  rw [ntt, nByt, nNum_stick h1, if_pos h1] at h
  exact h1 h
theorem cst_bad {bs : List UInt8} {j : Nat} (h : (cst bs (j + 1)).2.2 = false) : (cst bs j).2.2 = false := by
  cases hb : (cst bs j).2.2 with
  | false => rfl
  | true => rw [cst, hb, rCount, if_pos (.inl rfl)] at h; cases h
theorem tst_bad {bs : List UInt8} {j : Nat} (h : (tst bs (j + 1)).2.2 = false) : (tst bs j).2.2 = false := (byt_of_text h).2
theorem nhi_le (j : Nat) : nhi j ≤ 4611686018427387904 := by
  unfold nhi
  split <;> decide
theorem cst_of_nst {bs : List UInt8} : ∀ j, (nst bs j).2.2 = 0 → cst bs j = ((nst bs j).1, (nst bs j).2.1, false)
  | 0, _ => rfl
  | j + 1, h => by
    have h0 := nst_err h
    have ih := cst_of_nst j h0
    have e : nst bs (j + 1) = nNum bs (nst bs j).2.1 0 (nlo j) (nhi j) := by rw [nst, h0]
    have h1 : nNum bs (nst bs j).2.1 0 (nlo j) (nhi j) = ((nst bs (j + 1)).1, (nst bs (j + 1)).2.1, 0) := by
      rw [← e]; exact Prod.ext rfl (Prod.ext rfl h)
    rw [cst, ih]
    exact (count_of_num h1 (nhi_le j)).1
theorem tst_of_ntt {bs : List UInt8} : ∀ j, (ntt bs j).2.2 = 0 → tst bs j = ((ntt bs j).1, (ntt bs j).2.1, false)
  | 0, h => by
    have := cst_of_nst 4 h
    rw [tst, this]; rfl
  | j + 1, h => by
    have h0 := ntt_err h
    have ih := tst_of_ntt j h0
    have e : ntt bs (j + 1) = nByt bs (ntt bs j).2.1 0 8 := by rw [ntt, h0]
    have h1 : nByt bs (ntt bs j).2.1 0 8 = ((ntt bs (j + 1)).1, (ntt bs (j + 1)).2.1, 0) := by
      rw [← e]; exact Prod.ext rfl (Prod.ext rfl h)
    rw [tst, ih]
    exact text_of_byt h1
theorem nst_step {bs : List UInt8} {j : Nat} (hn : nst bs j = ((cst bs j).1, (cst bs j).2.1, 0)) (h : (cst bs (j + 1)).2.2 = false) (h1 : nlo j ≤ ((cst bs (j + 1)).1 : Int)) (h2 : ((cst bs (j + 1)).1 : Int) ≤ nhi j) : nst bs (j + 1) = ((cst bs (j + 1)).1, (cst bs (j + 1)).2.1, 0) := by
  rw [nst, hn]
  exact (num_of_count h h1 h2).1
theorem ntt_step {bs : List UInt8} {j : Nat} (hn : ntt bs j = ((tst bs j).1, (tst bs j).2.1, 0)) (h : (tst bs (j + 1)).2.2 = false) : ntt bs (j + 1) = ((tst bs (j + 1)).1, (tst bs (j + 1)).2.1, 0) := by
  rw [ntt, hn]
  exact (byt_of_text h).1
theorem nst_of_cst {bs : List UInt8} (hs : soundB bs = true) (hv : validB ((cst bs 1).1 : Int) ((cst bs 2).1 : Int) ((cst bs 3).1 : Int) ((cst bs 4).1 : Int) (tst bs 1).1 (tst bs 2).1 (tst bs 3).1 = true) :
    (∀ j, j ≤ 4 → nst bs j = ((cst bs j).1, (cst bs j).2.1, 0)) ∧ (∀ j, j ≤ 3 → ntt bs j = ((tst bs j).1, (tst bs j).2.1, 0)) := by
  obtain ⟨h1, h2, h3, h4, _⟩ := valid_ok hv
  have t3 : (tst bs 3).2.2 = false := by
    cases hb : (tst bs 3).2.2 with
    | false => rfl
    | true => rw [soundB, hb] at hs; cases hs
  have t2 := tst_bad t3
  have t1 := tst_bad t2
  have t0 : (cst bs 4).2.2 = false := tst_bad t1
  have c3 := cst_bad t0
  have c2 := cst_bad c3
  have c1 := cst_bad c2
  have n0 : nst bs 0 = ((cst bs 0).1, (cst bs 0).2.1, 0) := rfl
  have n1 := nst_step n0 c1 (by show (0 : Int) ≤ ((cst bs 1).1 : Int); omega) (by show ((cst bs 1).1 : Int) ≤ 15; omega)
  have n2 := nst_step n1 c2 (by show (1 : Int) ≤ ((cst bs 2).1 : Int); omega) (by show ((cst bs 2).1 : Int) ≤ 4611686018427387904; omega)
  have n3 := nst_step n2 c3 (by show (1 : Int) ≤ ((cst bs 3).1 : Int); omega) (by show ((cst bs 3).1 : Int) ≤ 4611686018427387904; omega)
  have n4 := nst_step n3 t0 (by show (1 : Int) ≤ ((cst bs 4).1 : Int); omega) (by show ((cst bs 4).1 : Int) ≤ 9; omega)
  have m0 : ntt bs 0 = ((tst bs 0).1, (tst bs 0).2.1, 0) := by rw [ntt, n4]; rfl
  have m1 := ntt_step m0 t1
  have m2 := ntt_step m1 t2
  have m3 := ntt_step m2 t3
  refine ⟨fun j hj => ?_, fun j hj => ?_⟩
  · have : j = 0 ∨ j = 1 ∨ j = 2 ∨ j = 3 ∨ j = 4 := by omega
    rcases this with rfl | rfl | rfl | rfl | rfl <;> assumption
  · have : j = 0 ∨ j = 1 ∨ j = 2 ∨ j = 3 := by omega
    rcases this with rfl | rfl | rfl | rfl <;> assumption
theorem nOk_eq (bs : List UInt8) : nOk bs = decOk bs := by
  cases hd : decOk bs with
  | true =>
    rw [decOk, Bool.and_eq_true] at hd
    obtain ⟨hn, ht⟩ := nst_of_cst hd.1 hd.2
    have h3 : (tst bs 3).2.1 = bs.length := by
      have := hd.1
      rw [soundB, Bool.and_eq_true] at this
      exact of_decide_eq_true this.2
    rw [nOk, nsound, ht 3 (by omega), ht 2 (by omega), ht 1 (by omega), hn 1 (by omega), hn 2 (by omega), hn 3 (by omega), hn 4 (by omega)]
    simp [hd.2, h3]
  | false =>
    cases hn : nOk bs with
    | false => rfl
    | true =>
      rw [nOk, nsound, Bool.and_eq_true, Bool.and_eq_true] at hn
      obtain ⟨⟨h1, h2⟩, h3⟩ := hn
      have h1 := of_decide_eq_true h1
      have h2 := of_decide_eq_true h2
      have e2 := ntt_err h1
      have e1 := ntt_err e2
      have e0 : (nst bs 4).2.2 = 0 := ntt_err e1
      have f3 := nst_err e0
      have f2 := nst_err f3
      have f1 := nst_err f2
      rw [decOk, soundB, tst_of_ntt 3 h1, tst_of_ntt 2 e2, tst_of_ntt 1 e1, cst_of_nst 4 e0, cst_of_nst 3 f3, cst_of_nst 2 f2, cst_of_nst 1 f1] at hd
      simp [h2, h3] at hd
/-- What the document decodes, if all is well, is what the program decodes. -/
theorem nV_eq {bs : List UInt8} (h : decOk bs = true) : cmdV ((nst bs 1).1 : Int) ((nst bs 2).1 : Int) ((nst bs 3).1 : Int) ((nst bs 4).1 : Int) (ntt bs 1).1 (ntt bs 2).1 (ntt bs 3).1 = decV bs := by
  rw [decOk, Bool.and_eq_true] at h
  obtain ⟨hn, ht⟩ := nst_of_cst h.1 h.2
  rw [ht 3 (by omega), ht 2 (by omega), ht 1 (by omega), hn 1 (by omega), hn 2 (by omega), hn 3 (by omega), hn 4 (by omega)]
end Go.Proofs.YtkgbhanpenpkmaaDoor
