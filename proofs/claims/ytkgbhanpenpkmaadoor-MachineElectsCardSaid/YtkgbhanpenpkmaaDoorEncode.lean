/-
  WALK OF machine's 'EncodeCommand'.
-/
import Derived.Test.YtkgbhanpenpkmaaDoorValid
import Derived.Test.YtkgbhanpenpkmaaDoorWriter
namespace Go.Proofs.YtkgbhanpenpkmaaDoor
set_option linter.unusedVariables false
set_option linter.unusedSimpArgs false
open Go.RowKit

theorem fits_len {sh : Int} {k v d : List UInt8} (h : fitsB sh k v d = true) : k.length ≤ 8 ∧ v.length ≤ 8 ∧ d.length ≤ 8 := by
  unfold fitsB at h
  split at h
  · cases h
  · rename_i h1
    split at h
    · cases h
    · rename_i h2
      refine ⟨?_, ?_, ?_⟩
      · rcases hb : hasB sh 1 with _ | _
        · have : k = [] := Classical.byContradiction fun hk => h1 (.inr ⟨hb, hk⟩)
          simp [this]
        · have : keyB k = true := by
            rcases hk : keyB k with _ | _
            · exact absurd (.inl (by rw [hb, hk]; simp)) h1
            · rfl
          simp [keyB] at this
          omega
      · have hn : (numb v).2 = true → v.length ≤ 8 := by
          intro hn
          unfold numb at hn
          split at hn
          · cases hn
          · omega
        split at h
        · simp [valB] at h; omega
        · split at h
          · exact hn h
          · split at h
            · simp at h; exact hn h.1
            · split at h
              · simp at h; exact hn h.1
              · simp at h; simp [h]
      · have : valB d = true := by
          rcases hk : valB d with _ | _
          · exact absurd (.inr hk) h2
          · rfl
        simp [valB] at this
        omega
theorem valid_ok {c i r o : Int} {k v d : List UInt8} (h : validB c i r o k v d = true) :
    (0 ≤ c ∧ c < 16) ∧ (1 ≤ i ∧ i ≤ 4611686018427387904) ∧ (1 ≤ r ∧ r ≤ 4611686018427387904) ∧ (1 ≤ o ∧ o < 10) ∧ fitsB (shapeTab.getD o.toNat 0) k v d = true := by
  unfold validB at h
  split at h
  · cases h
  · split at h
    · cases h
    · split at h
      · cases h
      · split at h
        · cases h
        · split at h
          · cases h
          · split at h
            · cases h
            · rename_i hi hr _ _
              simp [countB] at hi hr
              exact ⟨by omega, by omega, by omega, by omega, h⟩
def encodeB (c i r o : Int) (k v d : List UInt8) : List UInt8 := encs [c, i, r, o] ++ txts [⟨k.toArray⟩, ⟨v.toArray⟩, ⟨d.toArray⟩]
/-- What 'EncodeCommand' hands back. -/
def EncPost (w : World) (ok : Bool) (bs : List UInt8) (e : Ending) (w' : World) : Prop :=
  Fresh w w' ∧ (ok = false → e = .returned (.tuple #[.slice none 0 0, .int .i64 130])) ∧ (ok = true → ∃ u, e = .returned (.tuple #[u, .int .i64 0]) ∧ w'.ownsRow w.heap.size 5 1 u bs.length (Lib.byteCells bs))

set_option maxHeartbeats 4000000 in
theorem encode_any (c i r o : Int) (k v d : List UInt8) (w : World) (hT : Tabs w) :
    Calls Tryd.prog 9 #[cmdV c i r o k v d] w fun e w' => EncPost w (validB c i r o k v d) (encodeB c i r o k v d) e w' := by
  have hk0 : Fresh w (w.alloc (.cells #[.int .i64 c, .int .i64 i, .int .i64 r, .int .i64 o, str k, str v, str d] 23)) := (Keep.refl _ w).alloc _
  have HC := Lib.hid (valid_any c i r o k v d _ (hT.fresh hk0))
  have HK := Lib.hid hk0
  clear hk0 hT
  obtain ⟨ok, hok⟩ : ∃ ok, ok = validB c i r o k v d := ⟨_, rfl⟩
  rw [← hok] at HC ⊢
  have HO := Lib.hid hok
  clear hok
  obtain ⟨bs, hbs⟩ : ∃ bs, bs = encodeB c i r o k v d := ⟨_, rfl⟩
  rw [← hbs]
  have HB := Lib.hid hbs
  clear hbs
  go_enter Tryd.func9, Tryd.ntmps9
  go_wp2_with fail
  obtain ⟨B, hB⟩ : ∃ B, B = w.heap.size := ⟨_, rfl⟩
  obtain ⟨W, hW⟩ : ∃ W, W = w.alloc (.cells #[.int .i64 c, .int .i64 i, .int .i64 r, .int .i64 o, str k, str v, str d] 23) := ⟨_, rfl⟩
  rw [← hW] at HC HK ⊢
  rw [← hB]
  have hbox : Blk W B 23 #[.int .i64 c, .int .i64 i, .int .i64 r, .int .i64 o, str k, str v, str d] := by rw [hW, hB]; exact Blk.new _ _ _
  have HX := Lib.hid (And.intro hbox hB)
  clear hbox hB hW
  refine HC.out.mono ?_
  rintro e w1 ⟨rfl, hk⟩
  have hbox := HX.out.1.keep hk trivial
  have c0 := hbox.cell 0
  have c1 := hbox.cell 1
  have c2 := hbox.cell 2
  have c3 := hbox.cell 3
  have c4 := hbox.cell 4
  have c5 := hbox.cell 5
  have c6 := hbox.cell 6
  have hlt := hbox.lt
  simp at c0 c1 c2 c3 c4 c5 c6
  have HK1 := Lib.hid (And.intro (HK.out.trans hk) hbox)
  clear hk hbox HC
  cases ok with
  | false =>
    go_wp2_with fail
    go_ret2
    exact ⟨HK1.out.1, fun _ => rfl, fun h => by cases h⟩
  | true =>
    go_wp2_with fail
    obtain ⟨G, hG⟩ : ∃ G, G = w1.heap.size := ⟨_, rfl⟩
    obtain ⟨w3, hw3⟩ : ∃ w3, w3 = (w1.alloc (.cells #[.slice none 0 0] 62)).alloc (.cells #[.int .i64 c, .int .i64 i, .int .i64 r, .int .i64 o] 3) := ⟨_, rfl⟩
    rw [← hw3, ← hG]
    have hb3 : Blk w3 G 62 #[.slice none 0 0] := by rw [hw3, hG]; exact (Blk.new _ _ _).alloc _
    have hi3 : Blk w3 (G + 1) 3 #[.int .i64 c, .int .i64 i, .int .i64 r, .int .i64 o] := by
      rw [hw3]
      have := Blk.new (w1.alloc (.cells #[.slice none 0 0] 62)) 3 #[.int .i64 c, .int .i64 i, .int .i64 r, .int .i64 o]
      simpa [hG] using this
    have hk3 : Fresh w1 w3 := hw3 ▸ ((Keep.refl _ w1).alloc _).alloc _
    have hv := valid_ok HO.out.symm
    have hx3 : okInts [c, i, r, o] := by
      obtain ⟨h1, h2, h3, h4, _⟩ := hv
      intro x hx
      simp only [List.mem_cons, List.not_mem_nil, or_false] at hx
      rcases hx with rfl | rfl | rfl | rfl <;> omega
    have hl3 := fits_len hv.2.2.2.2
    have hsz3 : G + 2 ≤ w3.heap.size := hi3.lt
    refine (counts_any G G (.slice none 0 0) [] (fun i => i = G + 1) _ 4 4 [c, i, r, o] w3 ⟨hb3, w3.ownsRow_nil _ _ _⟩ hx3 (hi3.rd rfl) (fun k hk => ⟨by omega, by simp [Value.ownBlock], by omega⟩) (by omega) (by simp)).mono ?_
    have hHL := Lib.hid (And.intro hx3 hl3)
    have hHK := Lib.hid (HK1.out.1.trans hk3)
    have hbox3 := HK1.out.2.keep hk3 trivial
    obtain ⟨b4, hb4⟩ : ∃ b4, b4 = encs [c, i, r, o] := ⟨_, rfl⟩
    rw [List.nil_append, ← hb4]
    rintro e w4 ⟨rfl, v4, ⟨hbl4, hown4⟩, hk4, hn4⟩
    have hbox4 := hbox3.keep hk4 ⟨by omega, by simp [Value.ownBlock]⟩
    have d4 := hbox4.cell 4
    have d5 := hbox4.cell 5
    have d6 := hbox4.cell 6
    have hlt4 := hbox4.lt
    simp at d4 d5 d6
    have HX4 := Lib.hid (And.intro hbl4 (And.intro hown4 (And.intro hk4 (And.intro hn4 (And.intro hb4 hsz3)))))
    clear c0 c1 c2 c3 c4 c5 c6 hbl4 hown4 hk4 hn4 hbox4 hbox3 hb4 hk3 hi3 hb3 hv hx3 hl3 hw3 hsz3 HX HK
    go_wp2_with fail
    rw [← hG]
    obtain ⟨hx3, hl3⟩ := hHL.out
    obtain ⟨hbl4, hown4, hk4, hn4, hb4, hsz3⟩ := HX4.out
    have hgl4 := hbl4.lt
    have hne4 : v4.ownBlock ≠ some w4.heap.size := fun h => by have := (own_lt hown4 h).2; omega
    have hb5 : (encs [c, i, r, o]).length ≤ 36 := encs_len _ hx3
    have hokt : okTxts [⟨k.toArray⟩, ⟨v.toArray⟩, ⟨d.toArray⟩] := by
      intro s hs
      simp only [List.mem_cons, List.not_mem_nil, or_false] at hs
      rcases hs with rfl | rfl | rfl <;> simp only [str_size] <;> omega
    refine (texts_any G G v4 b4 (fun i => i = w4.heap.size) _ 3 3 [⟨k.toArray⟩, ⟨v.toArray⟩, ⟨d.toArray⟩] _ ⟨hbl4.alloc _, hown4.alloc _⟩ hokt ((Blk.new w4 9 #[str k, str v, str d]).rd rfl) (fun k hk => ⟨by omega, by rw [hk]; exact hne4, by simp; omega⟩) (by simp; omega) (by rw [hb4]; omega)).mono ?_
    have hfin : b4 ++ txts [⟨k.toArray⟩, ⟨v.toArray⟩, ⟨d.toArray⟩] = bs := by rw [hb4, HB.out]; rfl
    rw [hfin]
    rintro e w5 ⟨rfl, v5, ⟨hbl5, hown5⟩, hk5, hn5⟩
    have e0 := hbl5.cell 0
    have hlt5 := hbl5.lt
    simp at e0
    have hk45 : Fresh w w5 := by
      have h34 : Keep (fun k => k < G) w3 w4 := hk4.weaken (fun k _ h => ⟨by omega, by simp [Value.ownBlock]⟩)
      have h45 : Keep (fun k => k < G) w4 w5 := ((Keep.refl _ w4).alloc _).comp hk5 (fun _ _ h => h) (fun k _ h => ⟨by omega, fun h1 => by have := (own_lt hown4 h1).1; omega⟩)
      have := HK1.out.1.size
      exact hHK.out.comp (h34.trans h45) (fun _ _ h => h) (fun k hk _ => by omega)
    have hge : w.heap.size ≤ G := by have := HK1.out.1.size; omega
    have HX5 := Lib.hid (And.intro hown5 (And.intro hk45 hge))
    clear hbl5 hown5 hk5 hn5 hk45 hge hfin hokt hb5 hne4 hgl4 hx3 hl3 hbl4 hown4 hk4 hn4 hb4 hsz3 d4 d5 d6 hG
    go_wp2_with fail

    go_ret2
    exact ⟨HX5.out.2.1, fun h => (by cases h), fun _ => ⟨_, rfl, own_base HX5.out.1 HX5.out.2.2⟩⟩
end Go.Proofs.YtkgbhanpenpkmaaDoor
