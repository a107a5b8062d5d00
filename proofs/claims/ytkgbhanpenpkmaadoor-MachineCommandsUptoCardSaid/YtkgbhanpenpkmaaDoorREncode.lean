/-
  WALK OF quorateref13's 'EncodeCommand'.
-/
import Derived.Test.YtkgbhanpenpkmaaDoorRPut
import Derived.Test.YtkgbhanpenpkmaaDoorRCheck
import Derived.Test.YtkgbhanpenpkmaaDoorCodec
namespace Go.Proofs.YtkgbhanpenpkmaaDoor
set_option linter.unusedVariables false
set_option linter.unusedSimpArgs false
open Go.RowKit

/-- One more count, one more text, behind what stands there: the world from which all is new is kept. -/
structure Enc (w0 w : World) (v : Value) (bs : List UInt8) : Prop where
  row : w.ownsRow w0.heap.size 5 1 v bs.length (Lib.byteCells bs)
  fr : Fresh w0 w
theorem Enc.count {w0 w : World} {v : Value} {bs : List UInt8} (h : Enc w0 w v bs) (x : Int) (h0 : 0 ≤ x) (hx : x ≤ 4611686018427387904) (hn : bs.length ≤ 1099500000000) :
    Calls Tryd.prog 28 #[v, .int .i64 x] w fun e w' => ∃ u, e = .returned u ∧ Enc w0 w' u (bs ++ putB x.toNat) :=
  (putCount_any w0.heap.size v bs x w h0 hx h.row (by omega) h.fr.size).mono fun _ _ ⟨⟨u, he, ho⟩, hf⟩ => ⟨u, he, ho, h.fr.trans hf⟩
theorem Enc.text {w0 w : World} {v : Value} {bs : List UInt8} (h : Enc w0 w v bs) (l : List UInt8) (hl : l.length ≤ 1048576) (hn : bs.length ≤ 1099500000000) :
    Calls Tryd.prog 29 #[v, str l] w fun e w' => ∃ u, e = .returned u ∧ Enc w0 w' u (bs ++ txt l) :=
  (putText_any w0.heap.size v bs l w h.row hl hn h.fr.size).mono fun _ _ ⟨⟨u, he, ho, hn⟩, hk⟩ => ⟨u, he, ho, h.fr.comp hk (fun _ _ h => h) (fun i hi _ e => by have := (own_lt h.row e).1; omega)⟩
theorem Enc.nil (w : World) : Enc w w (.slice none 0 0) [] := ⟨w.ownsRow_nil _ _ _, Keep.refl _ _⟩

set_option maxRecDepth 20000 in
set_option maxHeartbeats 2000000 in
theorem rencode_any (c i r o : Int) (k v d : List UInt8) (w : World) :
    Calls Tryd.prog 10 #[cmdV c i r o k v d] w fun e w' => EncPost w (validB c i r o k v d) (encodeB c i r o k v d) e w' := by
  have hk0 : Fresh w (w.alloc (.cells #[.int .i64 c, .int .i64 i, .int .i64 r, .int .i64 o, str k, str v, str d] 23)) := (Keep.refl _ w).alloc _
  have HC := rcheck_any c i r o k v d (w.alloc (.cells #[.int .i64 c, .int .i64 i, .int .i64 r, .int .i64 o, str k, str v, str d] 23))
  obtain ⟨ok, hok⟩ : ∃ ok, ok = validB c i r o k v d := ⟨_, rfl⟩
  rw [← hok] at HC ⊢
  have HO := Lib.hid hok
  clear hok
  replace HC := Lib.hid HC
  obtain ⟨W, hW⟩ : ∃ W, W = w.alloc (.cells #[.int .i64 c, .int .i64 i, .int .i64 r, .int .i64 o, str k, str v, str d] 23) := ⟨_, rfl⟩
  obtain ⟨B, hB⟩ : ∃ B, B = w.heap.size := ⟨_, rfl⟩
  have hbox : Blk W B 23 #[.int .i64 c, .int .i64 i, .int .i64 r, .int .i64 o, str k, str v, str d] := by rw [hW, hB]; exact Blk.new _ _ _
  rw [← hW] at hk0 HC
  have HX := Lib.hid (And.intro hbox (And.intro hB hk0))
  clear hbox hk0
  go_enter Tryd.func10, Tryd.ntmps10
  go_wp2_with fail
  rw [← hW]
  simp only [← hB]
  clear hW hB
  refine HC.out.mono ?_
  rintro e w1 ⟨rfl, hk⟩
  have hbox := HX.out.1.keep hk trivial
  have HK1 := Lib.hid (And.intro (HX.out.2.2.trans hk) hbox)
  have c0 := hbox.cell 0
  have hlt := hbox.lt
  simp at c0
  clear hk HC HX
  cases ok with
  | false =>
    clear hbox c0 hlt
    go_wp2_with fail
    go_ret2
    exact ⟨HK1.out.1, fun _ => rfl, fun h => by cases h⟩
  | true =>
    have hv := valid_ok HO.out.symm
    have hl3 := fits_len hv.2.2.2.2
    obtain ⟨h1, h2, h3, h4, -⟩ := hv
    have HV := Lib.hid (And.intro h1 (And.intro h2 (And.intro h3 (And.intro h4 hl3))))
    have E0 := Lib.hid ((Enc.nil w1).count c (by omega) (by omega) (by simp))
    clear hbox h1 h2 h3 h4 hl3
    go_wp2_with fail
    refine E0.out.mono ?_
    rintro e w2 ⟨u2, rfl, e2⟩
    obtain ⟨b2, hb2⟩ : ∃ b, b = putB c.toNat := ⟨_, rfl⟩
    rw [List.nil_append, ← hb2] at e2
    have hl2 : b2.length ≤ 9 := by rw [hb2]; exact putB_len9 (by have := HV.out.1; omega)
    have hbx2 := HK1.out.2.keep e2.fr trivial
    have c1 := hbx2.cell 1
    have hlt2 := hbx2.lt
    simp at c1
    have E2 := Lib.hid (e2.count i (by have := HV.out.2.1; omega) (by have := HV.out.2.1; omega) (by omega))
    clear hbx2 e2 c0 hlt
    go_wp2_with fail
    refine E2.out.mono ?_
    rintro e w3 ⟨u3, rfl, e3⟩
    obtain ⟨b3, hb3⟩ : ∃ b, b = b2 ++ putB i.toNat := ⟨_, rfl⟩
    rw [← hb3] at e3
    have hl3 : b3.length ≤ 18 := by rw [hb3, List.length_append]; have := putB_len9 (v := i.toNat) (by have := HV.out.2.1; omega); omega
    have hbx3 := HK1.out.2.keep e3.fr trivial
    have c2 := hbx3.cell 2
    have hlt3 := hbx3.lt
    simp at c2
    have E3 := Lib.hid (e3.count r (by have := HV.out.2.2.1; omega) (by have := HV.out.2.2.1; omega) (by omega))
    clear hbx3 e3 c1 hlt2
    go_wp2_with fail
    refine E3.out.mono ?_
    rintro e w4 ⟨u4, rfl, e4⟩
    obtain ⟨b4, hb4⟩ : ∃ b, b = b3 ++ putB r.toNat := ⟨_, rfl⟩
    rw [← hb4] at e4
    have hl4 : b4.length ≤ 27 := by rw [hb4, List.length_append]; have := putB_len9 (v := r.toNat) (by have := HV.out.2.2.1; omega); omega
    have hbx4 := HK1.out.2.keep e4.fr trivial
    have c3 := hbx4.cell 3
    have hlt4 := hbx4.lt
    simp at c3
    have E4 := Lib.hid (e4.count o (by have := HV.out.2.2.2.1; omega) (by have := HV.out.2.2.2.1; omega) (by omega))
    clear hbx4 e4 c2 hlt3
    go_wp2_with fail
    refine E4.out.mono ?_
    rintro e w5 ⟨u5, rfl, e5⟩
    obtain ⟨b5, hb5⟩ : ∃ b, b = b4 ++ putB o.toNat := ⟨_, rfl⟩
    rw [← hb5] at e5
    have hl5 : b5.length ≤ 36 := by rw [hb5, List.length_append]; have := putB_len9 (v := o.toNat) (by have := HV.out.2.2.2.1; omega); omega
    have hbx5 := HK1.out.2.keep e5.fr trivial
    have c4 := hbx5.cell 4
    have hlt5 := hbx5.lt
    simp at c4
    have E5 := Lib.hid (e5.text k (by have := HV.out.2.2.2.2.1; omega) (by omega))
    clear hbx5 e5 c3 hlt4
    go_wp2_with fail
    refine E5.out.mono ?_
    rintro e w6 ⟨u6, rfl, e6⟩
    obtain ⟨b6, hb6⟩ : ∃ b, b = b5 ++ txt k := ⟨_, rfl⟩
    rw [← hb6] at e6
    have hl6 : b6.length ≤ 1048621 := by rw [hb6, List.length_append]; have := txt_len ⟨k.toArray⟩ (by rw [str_size]; have := HV.out.2.2.2.2.1; omega); simp only at this; omega
    have hbx6 := HK1.out.2.keep e6.fr trivial
    have c5 := hbx6.cell 5
    have hlt6 := hbx6.lt
    simp at c5
    have E6 := Lib.hid (e6.text v (by have := HV.out.2.2.2.2.2.1; omega) (by omega))
    clear hbx6 e6 c4 hlt5
    go_wp2_with fail
    refine E6.out.mono ?_
    rintro e w7 ⟨u7, rfl, e7⟩
    obtain ⟨b7, hb7⟩ : ∃ b, b = b6 ++ txt v := ⟨_, rfl⟩
    rw [← hb7] at e7
    have hl7 : b7.length ≤ 2097206 := by rw [hb7, List.length_append]; have := txt_len ⟨v.toArray⟩ (by rw [str_size]; have := HV.out.2.2.2.2.2.1; omega); simp only at this; omega
    have hbx7 := HK1.out.2.keep e7.fr trivial
    have c6 := hbx7.cell 6
    have hlt7 := hbx7.lt
    simp at c6
    have E7 := Lib.hid (e7.text d (by have := HV.out.2.2.2.2.2.2; omega) (by omega))
    clear hbx7 e7 c5 hlt6
    go_wp2_with fail
    refine E7.out.mono ?_
    rintro e w8 ⟨u8, rfl, e8⟩
    obtain ⟨b8, hb8⟩ : ∃ b, b = b7 ++ txt d := ⟨_, rfl⟩
    rw [← hb8] at e8
    have hl8 : b8.length ≤ 3145791 := by rw [hb8, List.length_append]; have := txt_len ⟨d.toArray⟩ (by rw [str_size]; have := HV.out.2.2.2.2.2.2; omega); simp only at this; omega
    have HE := Lib.hid e8
    have HBS := Lib.hid (show b8 = encodeB c i r o k v d by rw [encodeB_eq, hb8, hb7, hb6, hb5, hb4, hb3, hb2]; simp only [List.append_assoc])
    clear e8 c6 hlt7 hb2 hb3 hb4 hb5 hb6 hb7 hb8 hl2 hl3 hl4 hl5 hl6 hl7 hl8
    obtain ⟨A8, c8, rfl⟩ : ∃ A c, u8 = .slice A b8.length c := by
      obtain ⟨A, c, h, _⟩ := own_rd HE.out.row
      exact ⟨A, c, h⟩
    go_wp2
    go_ret2
    refine ⟨HK1.out.1.trans HE.out.fr, fun h => (by cases h), fun _ => ⟨_, rfl, ?_⟩⟩
    rw [← HBS.out]
    exact own_base HE.out.row HK1.out.1.size
end Go.Proofs.YtkgbhanpenpkmaaDoor
