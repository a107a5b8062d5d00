/-
  PLAIN LEAN: what 'encodeB' writes, the reader reads back; what the reader reads whole, 'encodeB' writes. No program in sight.
-/
import Derived.Test.YtkgbhanpenpkmaaDoorEncode
import Derived.Test.YtkgbhanpenpkmaaDoorDecode
namespace Go.Proofs.YtkgbhanpenpkmaaDoor
set_option linter.unusedVariables false
set_option linter.unusedSimpArgs false

theorem toNat_ofNat (a : Nat) (h : a < 256) : (UInt8.ofNat a).toNat = a := by rw [UInt8.toNat_ofNat', Nat.mod_eq_of_lt h]
theorem ofNat_toNat (c : UInt8) : UInt8.ofNat c.toNat = c := by simp
theorem takeGo_put : ∀ (f x i v : Nat) (r : List UInt8), x < 128 ^ (f + 1) → (x ≠ 0 ∨ i = 0) → v + x * 2 ^ (7 * i) ≤ 4611686018427387904 →
    takeGo (f + 1) (putB x ++ r) i v = (v + x * 2 ^ (7 * i), i + (putB x).length, 0) := by
  intro f
  induction f with
  | zero =>
    intro x i v r hx hi hv
    rw [putB_small (by omega)]
    have e : (UInt8.ofNat x).toNat = x := toNat_ofNat x (by omega)
    have e2 : x % 128 = x := Nat.mod_eq_of_lt (by omega)
    simp only [List.cons_append, List.nil_append, takeGo, e, e2, List.length_cons, List.length_nil]
    rw [if_neg (by omega), if_neg (by omega)]
  | succ f ih =>
    intro x i v r hx hi hv
    by_cases hs : x ≤ 127
    · rw [putB_small hs]
      have e : (UInt8.ofNat x).toNat = x := toNat_ofNat x (by omega)
      have e2 : x % 128 = x := Nat.mod_eq_of_lt (by omega)
      simp only [List.cons_append, List.nil_append, takeGo, e, e2, List.length_cons, List.length_nil]
      rw [if_neg (by omega), if_neg (by omega)]
    · rw [putB_big (by omega)]
      have e : (UInt8.ofNat (x % 128 + 128)).toNat = x % 128 + 128 := toNat_ofNat _ (by omega)
      have e2 : (x % 128 + 128) % 128 = x % 128 := by omega
      have e3 : v + x % 128 * 2 ^ (7 * i) + x / 128 * 2 ^ (7 * (i + 1)) = v + x * 2 ^ (7 * i) := by
        have h7 : 2 ^ (7 * (i + 1)) = 128 * 2 ^ (7 * i) := by rw [show 7 * (i + 1) = 7 * i + 7 by omega, Nat.pow_add, Nat.mul_comm]
        rw [h7, ← Nat.mul_assoc, Nat.add_assoc, ← Nat.add_mul, show x % 128 + x / 128 * 128 = x by omega]
      have h1 := ih (x / 128) (i + 1) (v + x % 128 * 2 ^ (7 * i)) r (by rw [Nat.pow_succ] at hx; omega) (.inl (by omega)) (by rw [e3]; exact hv)
      rw [List.cons_append, takeGo, e, if_pos (by omega), e2, h1, e3]
      simp only [List.length_cons]
      rw [show i + 1 + (putB (x / 128)).length = i + ((putB (x / 128)).length + 1) by omega]
theorem takeB_put (x : Nat) (r : List UInt8) (hx : x ≤ 4611686018427387904) : takeB (putB x ++ r) = (x, (putB x).length, 0) := by
  have h := takeGo_put 8 x 0 0 r (by omega) (.inr rfl) (by omega)
  simpa [takeB] using h
theorem takeGo_inv : ∀ (f : Nat) (l : List UInt8) (i v y k : Nat), takeGo f l i v = (y, k, 0) →
    ∃ x r, l = putB x ++ r ∧ k = i + (putB x).length ∧ y = v + x * 2 ^ (7 * i) ∧ (x ≠ 0 ∨ i = 0) ∧ y ≤ 4611686018427387904 := by
  intro f
  induction f with
  | zero => intro l i v y k h; simp [takeGo] at h
  | succ f ih =>
    intro l i v y k h
    cases l with
    | nil => simp [takeGo] at h
    | cons c r =>
      rw [takeGo] at h
      have hc : c.toNat < 256 := c.toNat_lt
      split at h
      · rename_i hb
        obtain ⟨x, r', rfl, hk, hy, hx, hm⟩ := ih r (i + 1) _ y k h
        have hx0 : x ≠ 0 := by omega
        have hbig : 127 < c.toNat % 128 + 128 * x := by omega
        refine ⟨c.toNat % 128 + 128 * x, r', ?_, ?_, ?_, .inl (by omega), hm⟩
        · rw [putB_big hbig, show (c.toNat % 128 + 128 * x) % 128 + 128 = c.toNat by omega, show (c.toNat % 128 + 128 * x) / 128 = x by omega, ofNat_toNat]
          rfl
        · rw [putB_big hbig, show (c.toNat % 128 + 128 * x) / 128 = x by omega, List.length_cons]
          omega
        · have h7 : 2 ^ (7 * (i + 1)) = 128 * 2 ^ (7 * i) := by rw [show 7 * (i + 1) = 7 * i + 7 by omega, Nat.pow_add, Nat.mul_comm]
          rw [hy, h7, Nat.add_mul, Nat.add_assoc, ← Nat.mul_assoc, Nat.mul_comm x 128]
      · rename_i hb
        have e2 : c.toNat % 128 = c.toNat := Nat.mod_eq_of_lt (by omega)
        split at h
        · simp at h
        · rename_i hn
          simp only [Prod.mk.injEq, and_true] at h
          obtain ⟨hy, hk⟩ := h
          rw [e2] at hy hn
          refine ⟨c.toNat, r, ?_, ?_, hy.symm, ?_, by omega⟩
          · rw [putB_small (by omega), ofNat_toNat]; rfl
          · rw [putB_small (by omega)]; simp; omega
          · rcases Nat.eq_zero_or_pos i with h0 | h0
            · exact .inr h0
            · exact .inl (fun hz => hn (.inl ⟨hz, h0⟩))
theorem takeB_inv {l : List UInt8} {y k : Nat} (h : takeB l = (y, k, 0)) : ∃ r, l = putB y ++ r ∧ k = (putB y).length ∧ y ≤ 4611686018427387904 := by
  obtain ⟨x, r, hl, hk, hy, _, hm⟩ := takeGo_inv 9 l 0 0 y k h
  have : y = x := by simpa using hy
  subst this
  exact ⟨r, hl, by omega, hm⟩

/-! ### one count, one text -/
theorem drop_next {bs a X : List UInt8} {p : Nat} (h : bs.drop p = a ++ X) : bs.drop (p + a.length) = X := by
  rw [← List.drop_drop, h]; simp
theorem count_put {bs X : List UInt8} {p x : Nat} {most : Int} (h : bs.drop p = putB x ++ X) (hx : x ≤ 4611686018427387904) (hm : (x : Int) ≤ most) : rCount bs p false most = (x, p + (putB x).length, false) := by
  rw [rCount, h, takeB_put x X hx, if_neg]
  rintro (h | h | h)
  · cases h
  · exact h rfl
  · exact absurd h (by show ¬ (most < (x : Int)); omega)
theorem count_inv {bs : List UInt8} {p : Nat} {bad : Bool} {most : Int} (h : (rCount bs p bad most).2.2 = false) :
    bad = false ∧ ((rCount bs p bad most).1 : Int) ≤ most ∧ (rCount bs p bad most).1 ≤ 4611686018427387904 ∧ (rCount bs p bad most).2.1 = p + (putB (rCount bs p bad most).1).length ∧ bs.drop p = putB (rCount bs p bad most).1 ++ bs.drop (rCount bs p bad most).2.1 := by
  unfold rCount at h ⊢
  split at h
  · cases h
  · rename_i hn
    rw [if_neg hn]
    have hb : bad = false := by
      cases bad
      · rfl
      · exact absurd (.inl rfl) hn
    have he : (takeB (bs.drop p)).2.2 = 0 := Classical.byContradiction fun he => hn (.inr (.inl he))
    have hm : ¬ (most < ((takeB (bs.drop p)).1 : Int)) := fun hm => hn (.inr (.inr hm))
    obtain ⟨r, hl, hk, hy⟩ := takeB_inv (l := bs.drop p) (y := (takeB (bs.drop p)).1) (k := (takeB (bs.drop p)).2.1) (by rw [← he])
    refine ⟨hb, by show _ ≤ _; omega, hy, by show p + _ = _; rw [hk], ?_⟩
    have h2 := drop_next hl
    show bs.drop p = putB (takeB (bs.drop p)).1 ++ bs.drop (p + (takeB (bs.drop p)).2.1)
    rw [hk, h2]
    exact hl
theorem text_put {bs X s : List UInt8} {p : Nat} {most : Int} (h : bs.drop p = txt s ++ X) (hx : s.length ≤ 4611686018427387904) (hm : (s.length : Int) ≤ most) : rText bs p false most = (s, p + (txt s).length, false) := by
  have h1 : bs.drop p = putB s.length ++ (s ++ X) := by rw [h, txt, List.append_assoc]
  have hc := count_put h1 hx hm
  have h2 := drop_next h1
  have hl : p + (putB s.length).length + s.length ≤ bs.length := by
    have h3 := congrArg List.length h2
    rw [List.length_drop, List.length_append] at h3
    rcases Nat.eq_zero_or_pos s.length with h0 | h0
    · have h4 := congrArg List.length h1
      rw [List.length_drop, List.length_append] at h4
      have := putB_pos s.length
      omega
    · omega
  rw [rText, hc, if_neg (by rintro (h | h); cases h; dsimp only at h; omega)]
  show ((bs.drop (p + (putB s.length).length)).take s.length, p + (putB s.length).length + s.length, false) = _
  rw [h2, List.take_left]
  simp only [txt, List.length_append]
  rw [Nat.add_assoc]
theorem text_inv {bs : List UInt8} {p : Nat} {bad : Bool} {most : Int} (h : (rText bs p bad most).2.2 = false) :
    bad = false ∧ ((rText bs p bad most).1.length : Int) ≤ most ∧ (rText bs p bad most).2.1 = p + (txt (rText bs p bad most).1).length ∧ bs.drop p = txt (rText bs p bad most).1 ++ bs.drop (rText bs p bad most).2.1 := by
  unfold rText at h ⊢
  split at h
  · cases h
  · rename_i hn
    rw [if_neg hn]
    have hb : (rCount bs p bad most).2.2 = false := by
      cases hb : (rCount bs p bad most).2.2
      · rfl
      · exact absurd (.inl hb) hn
    have hl : ¬ (bs.length < (rCount bs p bad most).2.1 + (rCount bs p bad most).1) := fun hm => hn (.inr hm)
    obtain ⟨h1, h2, h3, h4, h5⟩ := count_inv hb
    generalize rCount bs p bad most = q at *
    have hlen : ((bs.drop q.2.1).take q.1).length = q.1 := by simp; omega
    have ht : txt ((bs.drop q.2.1).take q.1) = putB q.1 ++ (bs.drop q.2.1).take q.1 := by rw [txt, hlen]
    dsimp only
    refine ⟨h1, by omega, ?_, ?_⟩
    · rw [ht, List.length_append, hlen, h4]; omega
    · rw [ht, h5, List.append_assoc]
      congr 1
      rw [← List.drop_drop]
      exact (List.take_append_drop _ _).symm

/-! ### whole commands -/
theorem encodeB_eq (c i r o : Int) (k v d : List UInt8) : encodeB c i r o k v d = putB c.toNat ++ (putB i.toNat ++ (putB r.toNat ++ (putB o.toNat ++ (txt k ++ (txt v ++ txt d))))) := by
  simp [encodeB, encs, txts]
theorem cst1_put {bs : List UInt8} {c : Int} {X : List UInt8} (h : bs = putB c.toNat ++ X) (hc : 0 ≤ c ∧ c ≤ 4611686018427387904) : cst bs 1 = (c.toNat, (putB c.toNat).length, false) := by
  have := count_put (bs := bs) (p := 0) (x := c.toNat) (most := 4611686018427387904) (X := X) (by simpa using h) (by omega) (by omega)
  simpa [cst] using this
theorem decode_encode {c i r o : Int} {k v d : List UInt8} (h : validB c i r o k v d = true) :
    soundB (encodeB c i r o k v d) = true ∧ cst (encodeB c i r o k v d) 1 = (c.toNat, (putB c.toNat).length, false) ∧ (cst (encodeB c i r o k v d) 2).1 = i.toNat ∧ (cst (encodeB c i r o k v d) 3).1 = r.toNat ∧ (cst (encodeB c i r o k v d) 4).1 = o.toNat ∧
      (tst (encodeB c i r o k v d) 1).1 = k ∧ (tst (encodeB c i r o k v d) 2).1 = v ∧ (tst (encodeB c i r o k v d) 3).1 = d := by
  obtain ⟨h1, h2, h3, h4, h5⟩ := valid_ok h
  obtain ⟨l1, l2, l3⟩ := fits_len h5
  have hbs := encodeB_eq c i r o k v d
  generalize encodeB c i r o k v d = bs at hbs ⊢
  have d0 : bs.drop 0 = _ := hbs
  have e1 := count_put d0 (most := 4611686018427387904) (by omega) (by omega)
  have d1 := drop_next d0
  have e2 := count_put d1 (most := 4611686018427387904) (by omega) (by omega)
  have d2 := drop_next d1
  have e3 := count_put d2 (most := 4611686018427387904) (by omega) (by omega)
  have d3 := drop_next d2
  have e4 := count_put d3 (most := 4611686018427387904) (by omega) (by omega)
  have d4 := drop_next d3
  have e5 := text_put d4 (most := 8) (by omega) (by omega)
  have d5 := drop_next d4
  have e6 := text_put d5 (most := 8) (by omega) (by omega)
  have d6 := drop_next d5
  rw [← List.append_nil (txt d)] at d6
  have e7 := text_put d6 (most := 8) (by omega) (by omega)
  have d7 := drop_next d6
  have c1 : cst bs 1 = _ := e1
  have c2 : cst bs 2 = _ := (congrArg (fun q : Nat × Nat × Bool => rCount bs q.2.1 q.2.2 4611686018427387904) c1).trans e2
  have c3 : cst bs 3 = _ := (congrArg (fun q : Nat × Nat × Bool => rCount bs q.2.1 q.2.2 4611686018427387904) c2).trans e3
  have c4 : cst bs 4 = _ := (congrArg (fun q : Nat × Nat × Bool => rCount bs q.2.1 q.2.2 4611686018427387904) c3).trans e4
  have t1 : tst bs 1 = _ := (congrArg (fun q : Nat × Nat × Bool => rText bs q.2.1 q.2.2 8) c4).trans e5
  have t2 : tst bs 2 = _ := (congrArg (fun q : List UInt8 × Nat × Bool => rText bs q.2.1 q.2.2 8) t1).trans e6
  have t3 : tst bs 3 = _ := (congrArg (fun q : List UInt8 × Nat × Bool => rText bs q.2.1 q.2.2 8) t2).trans e7
  have hlen := congrArg List.length hbs
  simp only [List.length_append] at hlen
  refine ⟨?_, by rw [c1, Nat.zero_add], by rw [c2], by rw [c3], by rw [c4], by rw [t1], by rw [t2], by rw [t3]⟩
  rw [soundB, t3]
  simp only [Bool.not_false, Bool.true_and, decide_eq_true_eq]
  omega
theorem decOk_encode {c i r o : Int} {k v d : List UInt8} (h : validB c i r o k v d = true) : decOk (encodeB c i r o k v d) = true ∧ decV (encodeB c i r o k v d) = cmdV c i r o k v d := by
  obtain ⟨g1, g2, g3, g4, g5, g6, g7, g8⟩ := decode_encode h
  obtain ⟨h1, h2, h3, h4, h5⟩ := valid_ok h
  have e1 : ((c.toNat : Nat) : Int) = c := by omega
  have e2 : ((i.toNat : Nat) : Int) = i := by omega
  have e3 : ((r.toNat : Nat) : Int) = r := by omega
  have e4 : ((o.toNat : Nat) : Int) = o := by omega
  refine ⟨?_, ?_⟩
  · rw [decOk, g1, Bool.true_and, g2, g3, g4, g5, g6, g7, g8]
    show validB ((c.toNat : Nat) : Int) _ _ _ _ _ _ = true
    rw [e1, e2, e3, e4, h]
  · show cmdV ((cst _ 1).1 : Int) _ _ _ _ _ _ = _
    rw [g2, g3, g4, g5, g6, g7, g8]
    show cmdV ((c.toNat : Nat) : Int) _ _ _ _ _ _ = _
    rw [e1, e2, e3, e4]
theorem encode_decode {bs : List UInt8} (h : soundB bs = true) : encodeB ((cst bs 1).1 : Int) ((cst bs 2).1 : Int) ((cst bs 3).1 : Int) ((cst bs 4).1 : Int) (tst bs 1).1 (tst bs 2).1 (tst bs 3).1 = bs := by
  rw [soundB] at h
  simp only [Bool.and_eq_true, Bool.not_eq_true', decide_eq_true_eq] at h
  obtain ⟨hb3, hp3⟩ := h
  obtain ⟨hb2, _, _, d7⟩ := text_inv (bs := bs) (p := (tst bs 2).2.1) (bad := (tst bs 2).2.2) (most := 8) hb3
  obtain ⟨hb1, _, _, d6⟩ := text_inv (bs := bs) (p := (tst bs 1).2.1) (bad := (tst bs 1).2.2) (most := 8) hb2
  obtain ⟨hb0, _, _, d5⟩ := text_inv (bs := bs) (p := (tst bs 0).2.1) (bad := (tst bs 0).2.2) (most := 8) hb1
  obtain ⟨hc3, _, _, _, d4⟩ := count_inv (bs := bs) (p := (cst bs 3).2.1) (bad := (cst bs 3).2.2) (most := 4611686018427387904) hb0
  obtain ⟨hc2, _, _, _, d3⟩ := count_inv (bs := bs) (p := (cst bs 2).2.1) (bad := (cst bs 2).2.2) (most := 4611686018427387904) hc3
  obtain ⟨hc1, _, _, _, d2⟩ := count_inv (bs := bs) (p := (cst bs 1).2.1) (bad := (cst bs 1).2.2) (most := 4611686018427387904) hc2
  obtain ⟨_, _, _, _, d1⟩ := count_inv (bs := bs) (p := (cst bs 0).2.1) (bad := (cst bs 0).2.2) (most := 4611686018427387904) hc1
  have e7 : bs.drop (tst bs 2).2.1 = txt (tst bs 3).1 ++ bs.drop (tst bs 3).2.1 := d7
  have e6 : bs.drop (tst bs 1).2.1 = txt (tst bs 2).1 ++ bs.drop (tst bs 2).2.1 := d6
  have e5 : bs.drop (cst bs 4).2.1 = txt (tst bs 1).1 ++ bs.drop (tst bs 1).2.1 := d5
  have e4 : bs.drop (cst bs 3).2.1 = putB (cst bs 4).1 ++ bs.drop (cst bs 4).2.1 := d4
  have e3 : bs.drop (cst bs 2).2.1 = putB (cst bs 3).1 ++ bs.drop (cst bs 3).2.1 := d3
  have e2 : bs.drop (cst bs 1).2.1 = putB (cst bs 2).1 ++ bs.drop (cst bs 2).2.1 := d2
  have e1 : bs.drop 0 = putB (cst bs 1).1 ++ bs.drop (cst bs 1).2.1 := d1
  rw [e7, hp3, List.drop_length, List.append_nil] at e6
  rw [e6] at e5
  rw [e5] at e4
  rw [e4] at e3
  rw [e3] at e2
  rw [e2] at e1
  rw [encodeB_eq]
  simp only [Int.toNat_natCast]
  rw [← e1]
  rfl
theorem putB_one {v : Nat} (h : v ≤ 127) : (putB v).length = 1 := by rw [putB_small h]; rfl
theorem encodeB_len {c i r o : Int} {k v d : List UInt8} (h : validB c i r o k v d = true) : 8 ≤ (encodeB c i r o k v d).length ∧ (encodeB c i r o k v d).length ≤ 47 := by
  obtain ⟨h1, h2, h3, h4, h5⟩ := valid_ok h
  obtain ⟨l1, l2, l3⟩ := fits_len h5
  have p1 := putB_one (v := c.toNat) (by omega)
  have p2 := putB_len9 (v := i.toNat) (by omega)
  have p3 := putB_len9 (v := r.toNat) (by omega)
  have p4 := putB_one (v := o.toNat) (by omega)
  have q2 := putB_pos i.toNat
  have q3 := putB_pos r.toNat
  have t1 := putB_one (v := k.length) (by omega)
  have t2 := putB_one (v := v.length) (by omega)
  have t3 := putB_one (v := d.length) (by omega)
  have k1 : 1 ≤ k.length ∨ 1 ≤ v.length := by
    have hK : hasB (shapeTab.getD o.toNat 0) 1 = true → 1 ≤ k.length := by
      intro hb
      unfold fitsB at h5
      split at h5
      · cases h5
      · rename_i hn
        have : keyB k = true := by
          rcases hk : keyB k with _ | _
          · exact absurd (.inl (by rw [hb, hk]; simp)) hn
          · rfl
        simp [keyB] at this
        omega
    by_cases ho : o.toNat = 9
    · refine .inr ?_
      rw [ho] at h5
      cases v with
      | nil =>
        unfold fitsB at h5
        rw [show hasB (shapeTab.getD 9 0) 2 = false by decide, show hasB (shapeTab.getD 9 0) 8 = false by decide, show hasB (shapeTab.getD 9 0) 16 = false by decide, show hasB (shapeTab.getD 9 0) 32 = true by decide] at h5
        simp [numb, Lib.atoi] at h5
      | cons a v => simp
    · refine .inl (hK ?_)
      have hc : o.toNat = 1 ∨ o.toNat = 2 ∨ o.toNat = 3 ∨ o.toNat = 4 ∨ o.toNat = 5 ∨ o.toNat = 6 ∨ o.toNat = 7 ∨ o.toNat = 8 := by omega
      rcases hc with hc | hc | hc | hc | hc | hc | hc | hc <;> rw [hc] <;> decide
  rw [encodeB_eq]
  simp only [List.length_append, txt, p1, p4, t1, t2, t3]
  omega
end Go.Proofs.YtkgbhanpenpkmaaDoor
