/-
  MERGED: Codec RCodec
-/
import Derived.Test.YtioinjcdkmiafaaDoorYC7
import Derived.Test.YtioinjcdkmiafaaDoorYA5
namespace Go.Proofs.YtioinjcdkmiafaaDoor
set_option linter.unusedVariables false
set_option linter.unusedSimpArgs false

/-! ### one count, one text -/
/-! ### whole commands -/
theorem encodeB_eq (c i r o : Int) (k v d : List UInt8) : encodeB c i r o k v d = putB c.toNat ++ (putB i.toNat ++ (putB r.toNat ++ (putB o.toNat ++ (txt k ++ (txt v ++ txt d))))) := by
  simp [encodeB, encs, txts]
theorem cst1_put {bs : List UInt8} {c : Int} {X : List UInt8} (h : bs = putB c.toNat ++ X) (hc : 0 ≤ c ∧ c ≤ 4611686018427387904) : cst bs 1 = (c.toNat, (putB c.toNat).length, false) := by
  have := count_put (bs := bs) (p := 0) (x := c.toNat) (most := 4611686018427387904) (X := X) (by simpa using h) (by omega) (by omega)
  simpa [cst] using this
theorem decode_encode {c i r o : Int} {k v d : List UInt8} (h : validB c i r o k v d = true) :
    soundB (encodeB c i r o k v d) = true ∧ cst (encodeB c i r o k v d) 1 = (c.toNat, (putB c.toNat).length, false) ∧ (cst (encodeB c i r o k v d) 2).1 = i.toNat ∧ (cst (encodeB c i r o k v d) 3).1 = r.toNat ∧ (cst (encodeB c i r o k v d) 4).1 = o.toNat ∧
      (tst (encodeB c i r o k v d) 1).1 = k ∧ (tst (encodeB c i r o k v d) 2).1 = v ∧ (tst (encodeB c i r o k v d) 3).1 = d := by
  obtain ⟨h1, h2, h3, h4, h5⟩ := valid_ok h
  obtain ⟨l1, l2, l3⟩ := fits_len h5
  have hbs := encodeB_eq c i r o k v d
  generalize encodeB c i r o k v d = bs at hbs ⊢
  have d0 : bs.drop 0 = _ := hbs
  have e1 := count_put d0 (most := 4611686018427387904) (by omega) (by omega)
  have d1 := drop_next d0
  have e2 := count_put d1 (most := 4611686018427387904) (by omega) (by omega)
  have d2 := drop_next d1
  have e3 := count_put d2 (most := 4611686018427387904) (by omega) (by omega)
  have d3 := drop_next d2
  have e4 := count_put d3 (most := 4611686018427387904) (by omega) (by omega)
  have d4 := drop_next d3
  have e5 := text_put d4 (most := 8) (by omega) (by omega)
  have d5 := drop_next d4
  have e6 := text_put d5 (most := 8) (by omega) (by omega)
  have d6 := drop_next d5
  rw [← List.append_nil (txt d)] at d6
  have e7 := text_put d6 (most := 8) (by omega) (by omega)
  have d7 := drop_next d6
  have c1 : cst bs 1 = _ := e1
  have c2 : cst bs 2 = _ := (congrArg (fun q : Nat × Nat × Bool => rCount bs q.2.1 q.2.2 4611686018427387904) c1).trans e2
  have c3 : cst bs 3 = _ := (congrArg (fun q : Nat × Nat × Bool => rCount bs q.2.1 q.2.2 4611686018427387904) c2).trans e3
  have c4 : cst bs 4 = _ := (congrArg (fun q : Nat × Nat × Bool => rCount bs q.2.1 q.2.2 4611686018427387904) c3).trans e4
  have t1 : tst bs 1 = _ := (congrArg (fun q : Nat × Nat × Bool => rText bs q.2.1 q.2.2 8) c4).trans e5
  have t2 : tst bs 2 = _ := (congrArg (fun q : List UInt8 × Nat × Bool => rText bs q.2.1 q.2.2 8) t1).trans e6
  have t3 : tst bs 3 = _ := (congrArg (fun q : List UInt8 × Nat × Bool => rText bs q.2.1 q.2.2 8) t2).trans e7
  have hlen := congrArg List.length hbs
  simp only [List.length_append] at hlen
  refine ⟨?_, by rw [c1, Nat.zero_add], by rw [c2], by rw [c3], by rw [c4], by rw [t1], by rw [t2], by rw [t3]⟩
  rw [soundB, t3]
  simp only [Bool.not_false, Bool.true_and, decide_eq_true_eq]
  omega
theorem decOk_encode {c i r o : Int} {k v d : List UInt8} (h : validB c i r o k v d = true) : decOk (encodeB c i r o k v d) = true ∧ decV (encodeB c i r o k v d) = cmdV c i r o k v d := by
  obtain ⟨g1, g2, g3, g4, g5, g6, g7, g8⟩ := decode_encode h
  obtain ⟨h1, h2, h3, h4, h5⟩ := valid_ok h
  have e1 : ((c.toNat : Nat) : Int) = c := by omega
  have e2 : ((i.toNat : Nat) : Int) = i := by omega
  have e3 : ((r.toNat : Nat) : Int) = r := by omega
  have e4 : ((o.toNat : Nat) : Int) = o := by omega
  refine ⟨?_, ?_⟩
  · rw [decOk, g1, Bool.true_and, g2, g3, g4, g5, g6, g7, g8]
    show validB ((c.toNat : Nat) : Int) _ _ _ _ _ _ = true
    rw [e1, e2, e3, e4, h]
  · show cmdV ((cst _ 1).1 : Int) _ _ _ _ _ _ = _
    rw [g2, g3, g4, g5, g6, g7, g8]
    show cmdV ((c.toNat : Nat) : Int) _ _ _ _ _ _ = _
    rw [e1, e2, e3, e4]
theorem encode_decode {bs : List UInt8} (h : soundB bs = true) : encodeB ((cst bs 1).1 : Int) ((cst bs 2).1 : Int) ((cst bs 3).1 : Int) ((cst bs 4).1 : Int) (tst bs 1).1 (tst bs 2).1 (tst bs 3).1 = bs := by
  rw [soundB] at h
  simp only [Bool.and_eq_true, Bool.not_eq_true', decide_eq_true_eq] at h
  obtain ⟨hb3, hp3⟩ := h
  obtain ⟨hb2, _, _, d7⟩ := text_inv (bs := bs) (p := (tst bs 2).2.1) (bad := (tst bs 2).2.2) (most := 8) hb3
  obtain ⟨hb1, _, _, d6⟩ := text_inv (bs := bs) (p := (tst bs 1).2.1) (bad := (tst bs 1).2.2) (most := 8) hb2
  obtain ⟨hb0, _, _, d5⟩ := text_inv (bs := bs) (p := (tst bs 0).2.1) (bad := (tst bs 0).2.2) (most := 8) hb1
  obtain ⟨hc3, _, _, _, d4⟩ := count_inv (bs := bs) (p := (cst bs 3).2.1) (bad := (cst bs 3).2.2) (most := 4611686018427387904) hb0
  obtain ⟨hc2, _, _, _, d3⟩ := count_inv (bs := bs) (p := (cst bs 2).2.1) (bad := (cst bs 2).2.2) (most := 4611686018427387904) hc3
  obtain ⟨hc1, _, _, _, d2⟩ := count_inv (bs := bs) (p := (cst bs 1).2.1) (bad := (cst bs 1).2.2) (most := 4611686018427387904) hc2
  obtain ⟨_, _, _, _, d1⟩ := count_inv (bs := bs) (p := (cst bs 0).2.1) (bad := (cst bs 0).2.2) (most := 4611686018427387904) hc1
  have e7 : bs.drop (tst bs 2).2.1 = txt (tst bs 3).1 ++ bs.drop (tst bs 3).2.1 := d7
  have e6 : bs.drop (tst bs 1).2.1 = txt (tst bs 2).1 ++ bs.drop (tst bs 2).2.1 := d6
  have e5 : bs.drop (cst bs 4).2.1 = txt (tst bs 1).1 ++ bs.drop (tst bs 1).2.1 := d5
  have e4 : bs.drop (cst bs 3).2.1 = putB (cst bs 4).1 ++ bs.drop (cst bs 4).2.1 := d4
  have e3 : bs.drop (cst bs 2).2.1 = putB (cst bs 3).1 ++ bs.drop (cst bs 3).2.1 := d3
  have e2 : bs.drop (cst bs 1).2.1 = putB (cst bs 2).1 ++ bs.drop (cst bs 2).2.1 := d2
  have e1 : bs.drop 0 = putB (cst bs 1).1 ++ bs.drop (cst bs 1).2.1 := d1
  rw [e7, hp3, List.drop_length, List.append_nil] at e6
  rw [e6] at e5
  rw [e5] at e4
  rw [e4] at e3
  rw [e3] at e2
  rw [e2] at e1
  rw [encodeB_eq]
  simp only [Int.toNat_natCast]
  rw [← e1]
  rfl
theorem encodeB_len {c i r o : Int} {k v d : List UInt8} (h : validB c i r o k v d = true) : 8 ≤ (encodeB c i r o k v d).length ∧ (encodeB c i r o k v d).length ≤ 47 := by
  obtain ⟨h1, h2, h3, h4, h5⟩ := valid_ok h
  obtain ⟨l1, l2, l3⟩ := fits_len h5
  have p1 := putB_one (v := c.toNat) (by omega)
  have p2 := putB_len9 (v := i.toNat) (by omega)
  have p3 := putB_len9 (v := r.toNat) (by omega)
  have p4 := putB_one (v := o.toNat) (by omega)
  have q2 := putB_pos i.toNat
  have q3 := putB_pos r.toNat
  have t1 := putB_one (v := k.length) (by omega)
  have t2 := putB_one (v := v.length) (by omega)
  have t3 := putB_one (v := d.length) (by omega)
  have k1 : 1 ≤ k.length ∨ 1 ≤ v.length := by
    have hK : hasB (shapeTab.getD o.toNat 0) 1 = true → 1 ≤ k.length := by
      intro hb
      unfold fitsB at h5
      split at h5
      · cases h5
      · rename_i hn
        have : keyB k = true := by
          rcases hk : keyB k with _ | _
          · exact absurd (.inl (by rw [hb, hk]; simp)) hn
          · rfl
        simp [keyB] at this
        omega
    by_cases ho : o.toNat = 9
    · refine .inr ?_
      rw [ho] at h5
      cases v with
      | nil =>
        unfold fitsB at h5
        rw [show hasB (shapeTab.getD 9 0) 2 = false by decide, show hasB (shapeTab.getD 9 0) 8 = false by decide, show hasB (shapeTab.getD 9 0) 16 = false by decide, show hasB (shapeTab.getD 9 0) 32 = true by decide] at h5
        simp [numb, Lib.atoi] at h5
      | cons a v => simp
    · refine .inl (hK ?_)
      have hc : o.toNat = 1 ∨ o.toNat = 2 ∨ o.toNat = 3 ∨ o.toNat = 4 ∨ o.toNat = 5 ∨ o.toNat = 6 ∨ o.toNat = 7 ∨ o.toNat = 8 := by omega
      rcases hc with hc | hc | hc | hc | hc | hc | hc | hc <;> rw [hc] <;> decide
  rw [encodeB_eq]
  simp only [List.length_append, txt, p1, p4, t1, t2, t3]
  omega
end Go.Proofs.YtioinjcdkmiafaaDoor
namespace Go.Proofs.YtioinjcdkmiafaaDoor
set_option linter.unusedVariables false
set_option linter.unusedSimpArgs false

/-- Behind j of the document's four counts; of its three texts. -/
def nlo : Nat → Int
  | 0 => 0
  | _ => 1
def nhi : Nat → Int
  | 0 => 15
  | 1 => 4611686018427387904
  | 2 => 4611686018427387904
  | _ => 9
def nst (bs : List UInt8) : Nat → Nat × Nat × Int
  | 0 => (0, 0, 0)
  | j + 1 => nNum bs (nst bs j).2.1 (nst bs j).2.2 (nlo j) (nhi j)
def ntt (bs : List UInt8) : Nat → List UInt8 × Nat × Int
  | 0 => ([], (nst bs 4).2.1, (nst bs 4).2.2)
  | j + 1 => nByt bs (ntt bs j).2.1 (ntt bs j).2.2 8
theorem nst_le (bs : List UInt8) (j : Nat) : (nst bs j).2.1 ≤ bs.length := by
  induction j with
  | zero => simp [nst]
  | succ j ih => exact nNum_le bs _ _ _ _ ih
theorem ntt_le (bs : List UInt8) (j : Nat) : (ntt bs j).2.1 ≤ bs.length := by
  induction j with
  | zero => exact nst_le bs 4
  | succ j ih => exact nByt_le bs _ _ _ ih
def nsound (bs : List UInt8) : Bool := decide ((ntt bs 3).2.2 = 0) && decide ((ntt bs 3).2.1 = bs.length)
def nOk (bs : List UInt8) : Bool := nsound bs && validB ((nst bs 1).1 : Int) ((nst bs 2).1 : Int) ((nst bs 3).1 : Int) ((nst bs 4).1 : Int) (ntt bs 1).1 (ntt bs 2).1 (ntt bs 3).1
theorem nst_err {bs : List UInt8} {j : Nat} (h : (nst bs (j + 1)).2.2 = 0) : (nst bs j).2.2 = 0 := Classical.not_not.1 fun h1 => by
  rw [nst, nNum_stick h1] at h
  exact h1 h
theorem ntt_err {bs : List UInt8} {j : Nat} (h : (ntt bs (j + 1)).2.2 = 0) : (ntt bs j).2.2 = 0 := Classical.not_not.1 fun h1 => by
  rw [ntt, nByt, nNum_stick h1, if_pos h1] at h
  exact h1 h
theorem cst_bad {bs : List UInt8} {j : Nat} (h : (cst bs (j + 1)).2.2 = false) : (cst bs j).2.2 = false := by
  cases hb : (cst bs j).2.2 with
  | false => rfl
  | true => rw [cst, hb, rCount, if_pos (.inl rfl)] at h; cases h
theorem tst_bad {bs : List UInt8} {j : Nat} (h : (tst bs (j + 1)).2.2 = false) : (tst bs j).2.2 = false := (byt_of_text h).2
theorem nhi_le (j : Nat) : nhi j ≤ 4611686018427387904 := by
  unfold nhi
  split <;> decide
theorem cst_of_nst {bs : List UInt8} : ∀ j, (nst bs j).2.2 = 0 → cst bs j = ((nst bs j).1, (nst bs j).2.1, false)
  | 0, _ => rfl
  | j + 1, h => by
    have h0 := nst_err h
    have ih := cst_of_nst j h0
    have e : nst bs (j + 1) = nNum bs (nst bs j).2.1 0 (nlo j) (nhi j) := by rw [nst, h0]
    have h1 : nNum bs (nst bs j).2.1 0 (nlo j) (nhi j) = ((nst bs (j + 1)).1, (nst bs (j + 1)).2.1, 0) := by
      rw [← e]; exact Prod.ext rfl (Prod.ext rfl h)
    rw [cst, ih]
    exact (count_of_num h1 (nhi_le j)).1
theorem tst_of_ntt {bs : List UInt8} : ∀ j, (ntt bs j).2.2 = 0 → tst bs j = ((ntt bs j).1, (ntt bs j).2.1, false)
  | 0, h => by
    have := cst_of_nst 4 h
    rw [tst, this]; rfl
  | j + 1, h => by
    have h0 := ntt_err h
    have ih := tst_of_ntt j h0
    have e : ntt bs (j + 1) = nByt bs (ntt bs j).2.1 0 8 := by rw [ntt, h0]
    have h1 : nByt bs (ntt bs j).2.1 0 8 = ((ntt bs (j + 1)).1, (ntt bs (j + 1)).2.1, 0) := by
      rw [← e]; exact Prod.ext rfl (Prod.ext rfl h)
    rw [tst, ih]
    exact text_of_byt h1
theorem nst_step {bs : List UInt8} {j : Nat} (hn : nst bs j = ((cst bs j).1, (cst bs j).2.1, 0)) (h : (cst bs (j + 1)).2.2 = false) (h1 : nlo j ≤ ((cst bs (j + 1)).1 : Int)) (h2 : ((cst bs (j + 1)).1 : Int) ≤ nhi j) : nst bs (j + 1) = ((cst bs (j + 1)).1, (cst bs (j + 1)).2.1, 0) := by
  rw [nst, hn]
  exact (num_of_count h h1 h2).1
theorem ntt_step {bs : List UInt8} {j : Nat} (hn : ntt bs j = ((tst bs j).1, (tst bs j).2.1, 0)) (h : (tst bs (j + 1)).2.2 = false) : ntt bs (j + 1) = ((tst bs (j + 1)).1, (tst bs (j + 1)).2.1, 0) := by
  rw [ntt, hn]
  exact (byt_of_text h).1
theorem nst_of_cst {bs : List UInt8} (hs : soundB bs = true) (hv : validB ((cst bs 1).1 : Int) ((cst bs 2).1 : Int) ((cst bs 3).1 : Int) ((cst bs 4).1 : Int) (tst bs 1).1 (tst bs 2).1 (tst bs 3).1 = true) :
    (∀ j, j ≤ 4 → nst bs j = ((cst bs j).1, (cst bs j).2.1, 0)) ∧ (∀ j, j ≤ 3 → ntt bs j = ((tst bs j).1, (tst bs j).2.1, 0)) := by
  obtain ⟨h1, h2, h3, h4, _⟩ := valid_ok hv
  have t3 : (tst bs 3).2.2 = false := by
    cases hb : (tst bs 3).2.2 with
    | false => rfl
    | true => rw [soundB, hb] at hs; cases hs
  have t2 := tst_bad t3
  have t1 := tst_bad t2
  have t0 : (cst bs 4).2.2 = false := tst_bad t1
  have c3 := cst_bad t0
  have c2 := cst_bad c3
  have c1 := cst_bad c2
  have n0 : nst bs 0 = ((cst bs 0).1, (cst bs 0).2.1, 0) := rfl
  have n1 := nst_step n0 c1 (by show (0 : Int) ≤ ((cst bs 1).1 : Int); omega) (by show ((cst bs 1).1 : Int) ≤ 15; omega)
  have n2 := nst_step n1 c2 (by show (1 : Int) ≤ ((cst bs 2).1 : Int); omega) (by show ((cst bs 2).1 : Int) ≤ 4611686018427387904; omega)
  have n3 := nst_step n2 c3 (by show (1 : Int) ≤ ((cst bs 3).1 : Int); omega) (by show ((cst bs 3).1 : Int) ≤ 4611686018427387904; omega)
  have n4 := nst_step n3 t0 (by show (1 : Int) ≤ ((cst bs 4).1 : Int); omega) (by show ((cst bs 4).1 : Int) ≤ 9; omega)
  have m0 : ntt bs 0 = ((tst bs 0).1, (tst bs 0).2.1, 0) := by rw [ntt, n4]; rfl
  have m1 := ntt_step m0 t1
  have m2 := ntt_step m1 t2
  have m3 := ntt_step m2 t3
  refine ⟨fun j hj => ?_, fun j hj => ?_⟩
  · have : j = 0 ∨ j = 1 ∨ j = 2 ∨ j = 3 ∨ j = 4 := by omega
    rcases this with rfl | rfl | rfl | rfl | rfl <;> assumption
  · have : j = 0 ∨ j = 1 ∨ j = 2 ∨ j = 3 := by omega
    rcases this with rfl | rfl | rfl | rfl <;> assumption
theorem nOk_eq (bs : List UInt8) : nOk bs = decOk bs := by
  cases hd : decOk bs with
  | true =>
    rw [decOk, Bool.and_eq_true] at hd
    obtain ⟨hn, ht⟩ := nst_of_cst hd.1 hd.2
    have h3 : (tst bs 3).2.1 = bs.length := by
      have := hd.1
      rw [soundB, Bool.and_eq_true] at this
      exact of_decide_eq_true this.2
    rw [nOk, nsound, ht 3 (by omega), ht 2 (by omega), ht 1 (by omega), hn 1 (by omega), hn 2 (by omega), hn 3 (by omega), hn 4 (by omega)]
    simp [hd.2, h3]
  | false =>
    cases hn : nOk bs with
    | false => rfl
    | true =>
      rw [nOk, nsound, Bool.and_eq_true, Bool.and_eq_true] at hn
      obtain ⟨⟨h1, h2⟩, h3⟩ := hn
      have h1 := of_decide_eq_true h1
      have h2 := of_decide_eq_true h2
      have e2 := ntt_err h1
      have e1 := ntt_err e2
      have e0 : (nst bs 4).2.2 = 0 := ntt_err e1
      have f3 := nst_err e0
      have f2 := nst_err f3
      have f1 := nst_err f2
      rw [decOk, soundB, tst_of_ntt 3 h1, tst_of_ntt 2 e2, tst_of_ntt 1 e1, cst_of_nst 4 e0, cst_of_nst 3 f3, cst_of_nst 2 f2, cst_of_nst 1 f1] at hd
      simp [h2, h3] at hd
/-- What the document decodes, if all is well, is what the program decodes. -/
theorem nV_eq {bs : List UInt8} (h : decOk bs = true) : cmdV ((nst bs 1).1 : Int) ((nst bs 2).1 : Int) ((nst bs 3).1 : Int) ((nst bs 4).1 : Int) (ntt bs 1).1 (ntt bs 2).1 (ntt bs 3).1 = decV bs := by
  rw [decOk, Bool.and_eq_true] at h
  obtain ⟨hn, ht⟩ := nst_of_cst h.1 h.2
  rw [ht 3 (by omega), ht 2 (by omega), ht 1 (by omega), hn 1 (by omega), hn 2 (by omega), hn 3 (by omega), hn 4 (by omega)]
end Go.Proofs.YtioinjcdkmiafaaDoor
