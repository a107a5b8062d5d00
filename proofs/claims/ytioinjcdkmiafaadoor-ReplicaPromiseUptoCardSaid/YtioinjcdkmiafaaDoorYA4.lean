/-
  MERGED: Check Valid
-/
import Derived.Test.YtioinjcdkmiafaaDoorYA2
import Derived.Test.YtioinjcdkmiafaaDoorShelf
import Derived.Lib.AtoiBound
import Derived.Lib.LaidTab
namespace Go.Proofs.YtioinjcdkmiafaaDoor
set_option linter.unusedVariables false
set_option linter.unusedSimpArgs false
open Go.RowKit

/-! ### the tables -/
def shapeTab : List Int := [0, 3, 1, 7, 1, 9, 1, 1, 17, 32]
/-- What the listed package-level variables hold. -/
structure Tabs (w : World) : Prop where
  pow : Lib.TabIs Tryd.prog w "internal/strconv.uint64pow10" .u64 Lib.pow10Tab
  shp : Lib.TabIs Tryd.prog w "quorate/machine.shapes" .i64 shapeTab
  syn : ∃ tp p, w.var? Tryd.prog "strconv.ErrSyntax" = some #[.iface tp p]
theorem gPow : Tryd.prog.globalNamed "internal/strconv.uint64pow10" = some 4 := by kernel_rfl
theorem gShp : Tryd.prog.globalNamed "quorate/machine.shapes" = some 1 := by kernel_rfl
theorem gSyn : Tryd.prog.globalNamed "strconv.ErrSyntax" = some 2 := by kernel_rfl
theorem var_lt {w : World} {s : String} {g : Nat} {cs : Array Value} (hg : Tryd.prog.globalNamed s = some g) (h : w.var? Tryd.prog s = some cs) : g < w.heap.size := by
  rcases Nat.lt_or_ge g w.heap.size with hlt | hge
  · exact hlt
  · simp [World.var?, hg, Array.getElem?_eq_none hge] at h
theorem var_keep {Z : Nat → Prop} {w w' : World} {s : String} {g : Nat} {cs : Array Value} (hg : Tryd.prog.globalNamed s = some g) (h : w.var? Tryd.prog s = some cs) (hk : Keep Z w w') (hz : Z g) : w'.var? Tryd.prog s = some cs := by
  have h1 := hk.block g (var_lt hg h) hz
  rw [← h]
  simp [World.var?, hg, h1]
theorem Tabs.keep {Z : Nat → Prop} {w w' : World} (h : Tabs w) (hk : Keep Z w w') (hz : ∀ k, k < 8 → Z k) : Tabs w' :=
  ⟨var_keep gPow h.pow hk (hz _ (by decide)), var_keep gShp h.shp hk (hz _ (by decide)), by
    obtain ⟨tp, p, hs⟩ := h.syn
    exact ⟨tp, p, var_keep gSyn hs hk (hz _ (by decide))⟩⟩
theorem Tabs.fresh {w w' : World} (h : Tabs w) (hk : Fresh w w') : Tabs w' := h.keep hk (fun _ _ => trivial)

/-! ### small ones -/
def keyB (l : List UInt8) : Bool := decide (1 ≤ l.length) && decide (l.length ≤ 8)
def valB (l : List UInt8) : Bool := decide (l.length ≤ 8)
def countB (v : Int) : Bool := decide (1 ≤ v) && decide (v ≤ 4611686018427387904)
abbrev str (l : List UInt8) : Value := .string ⟨l.toArray⟩
theorem str_size (l : List UInt8) : (ByteArray.mk l.toArray).size = l.length := rfl

theorem isKey_any (l : List UInt8) (w : World) : Calls Tryd.prog 50 #[str l] w fun e w' => e = .returned (.bool (keyB l)) ∧ w = w' := by
  by_cases h : (1 : Int) ≤ (l.length : Int)
  · go_enter Tryd.func50, Tryd.ntmps50
    go_wp2
    go_ret
    exact ⟨ret_bool (by rw [Bool.eq_iff_iff]; simp [keyB, str_size]; omega), rfl⟩
  · go_enter Tryd.func50, Tryd.ntmps50
    go_wp2
    go_ret
    exact ⟨ret_bool (by rw [Bool.eq_iff_iff]; simp [keyB]; omega), rfl⟩

theorem isValue_any (l : List UInt8) (w : World) : Calls Tryd.prog 51 #[str l] w fun e w' => e = .returned (.bool (valB l)) ∧ w = w' := by
  go_enter Tryd.func51, Tryd.ntmps51
  go_wp2
  go_ret
  exact ⟨ret_bool (by rw [Bool.eq_iff_iff]; simp [valB, str_size]; omega), rfl⟩

theorem count_any (v : Int) (w : World) : Calls Tryd.prog 47 #[.int .i64 v] w fun e w' => e = .returned (.bool (countB v)) ∧ w = w' := by
  by_cases h : (1 : Int) ≤ v
  · go_enter Tryd.func47, Tryd.ntmps47
    go_wp2
    go_ret
    exact ⟨ret_bool (by simp [countB, h]), rfl⟩
  · go_enter Tryd.func47, Tryd.ntmps47
    go_wp2
    go_ret
    exact ⟨ret_bool (by rw [Bool.eq_iff_iff]; simp [countB]; omega), rfl⟩

/-! ### numbers in texts -/
def numb (l : List UInt8) : Int × Bool := if 8 < l.length then (0, false) else match Lib.atoi l with
  | none => (0, false)
  | some n => (n, Lib.itoa n == l)
theorem Fresh.bytesWorld (w : World) (e : TypeId) (s : ByteArray) : Fresh w (Lib.bytesWorld w e s) := Fresh.of_below (Lib.bytesWorld_below w e s)
theorem Fresh.growN (w : World) (k : Nat) (os : Array Obj) : Fresh w (Go.Sort.grow (w.drewN k) os) :=
  ⟨rfl, rfl, rfl, by simp [Go.Sort.grow, World.drewN], fun j hj _ => by simp [Go.Sort.grow, World.drewN, Array.getElem?_append, hj]⟩
theorem str_eq (a b : List UInt8) : ((ByteArray.mk a.toArray) = (ByteArray.mk b.toArray)) ↔ a = b := by
  constructor
  · intro h
    injection h with h
    simpa using h
  · rintro rfl; rfl
theorem atoi_small {l : List UInt8} {n : Int} (hl : l.length ≤ 8) (h : Lib.atoi l = some n) : -9223372036854775808 ≤ n ∧ n ≤ 9223372036854775807 := by
  have := Lib.atoi_bound h (by omega)
  omega

set_option maxHeartbeats 400000 in
theorem number_any (l : List UInt8) (w : World) (hT : Tabs w) : Calls Tryd.prog 52 #[str l] w fun e w' => e = .returned (.tuple #[.int .i64 (numb l).1, .bool (numb l).2]) ∧ Fresh w w' := by
  obtain ⟨r, hr⟩ : ∃ r, r = numb l := ⟨_, rfl⟩
  rw [← hr]
  unfold numb at hr
  by_cases h8 : 8 < l.length
  · rw [if_pos h8] at hr
    obtain rfl := hr
    have h8' : (8 : Int) < (l.length : Int) := by omega
    go_enter Tryd.func52, Tryd.ntmps52
    go_wp2_with fail
    all_goals go_ret2
    exact ⟨rfl, Keep.refl _ _⟩
  · rw [if_neg h8] at hr
    have h8' : (l.length : Int) ≤ 8 := by omega
    have h18 : (ByteArray.mk l.toArray).size ≤ 18 := by rw [str_size]; omega
    have HT := Lib.hid hT
    clear hT
    cases ha : Lib.atoi l with
    | none =>
      rw [ha] at hr
      obtain rfl := hr
      obtain ⟨tp, p, hs⟩ := HT.out.syn
      have HC := Tryd.strconv_Atoi_err_var ⟨l.toArray⟩ h18 (by simpa using ha) tp p w hs
      have HC := Lib.hid HC
      clear hs
      go_enter Tryd.func52, Tryd.ntmps52
      go_wp2_with fail
      refine HC.out.mono ?_
      rintro e w1 ⟨N, rfl, hN, -, hb⟩
      have HB := Lib.hid hb
      clear hb
      go_wp2_with fail
      go_ret2
      exact ⟨rfl, Fresh.of_below HB.out⟩
    | some n =>
      rw [ha] at hr
      obtain rfl := hr
      have HC := Lib.hid (Tryd.strconv_Atoi ⟨l.toArray⟩ n h18 (by simpa using ha) w)
      go_enter Tryd.func52, Tryd.ntmps52
      go_wp2_with fail
      refine HC.out.mono ?_
      rintro e w1 ⟨rfl, t, rfl⟩
      obtain ⟨w1, hw1⟩ : ∃ w1, w1 = Lib.bytesWorld w 5 t := ⟨_, rfl⟩
      rw [← hw1]
      have hk1 : Fresh w w1 := hw1 ▸ Fresh.bytesWorld w 5 t
      clear hw1
      obtain ⟨hlo, hhi⟩ := atoi_small (by omega) ha
      have HI := Lib.hid (Tryd.strconv_Itoa n hlo hhi w1 (HT.out.fresh hk1).pow)
      have HK := Lib.hid hk1
      clear hk1 ha HC
      go_wp2_with fail
      refine HI.out.mono ?_
      rintro e w2 ⟨rfl, k, os, rfl⟩
      go_wp2_with fail
      go_ret2
      exact ⟨rfl, HK.out.trans (Fresh.growN _ _ _)⟩


/-! ### what an operation wants -/
def hasB (sh x : Int) : Bool := bits BinOp.and IntKind.i64 sh x != 0
theorem has_any (x : Int) (p : Addr) (sh : Int) (w : World) (hp : w.cell? p = some (.int .i64 sh)) : Calls Tryd.prog 49 #[.int .i64 x, .pointer (some p)] w fun e w' => e = .returned (.bool (hasB sh x)) ∧ w = w' := by
  go_enter Tryd.func49, Tryd.ntmps49
  go_wp2_with fail
  go_ret
  exact ⟨rfl, rfl⟩
/-- A call that leaves the world as it was, in a region that is quiet. -/
theorem quiet_same {P : Program} {f : FuncId} {args : Array Value} {w : World} {n : Nat} {v : Value}
    (h : Calls P f args (w.drewN n) fun e w' => e = .returned v ∧ w.drewN n = w') : Calls P f args (w.drewN n) fun e w'' => e = .returned v ∧ ∃ m, w'' = w.drewN m :=
  h.mono fun _ _ ⟨he, hm⟩ => ⟨he, n, hm.symm⟩
abbrev cmdV (c i r o : Int) (k v d : List UInt8) : Value := .agg #[.int .i64 c, .int .i64 i, .int .i64 r, .int .i64 o, str k, str v, str d]
def fitsB (sh : Int) (k v d : List UInt8) : Bool :=
  if hasB sh 1 ≠ keyB k ∨ (hasB sh 1 = false ∧ k ≠ []) then false
  else if (hasB sh 4 = false ∧ d ≠ []) ∨ valB d = false then false
  else if hasB sh 2 = true then valB v
  else if hasB sh 8 = true then (numb v).2
  else if hasB sh 16 = true then (numb v).2 && decide (0 < (numb v).1)
  else if hasB sh 32 = true then (numb v).2 && (decide (0 ≤ (numb v).1) && decide ((numb v).1 < 16))
  else v == []

set_option maxHeartbeats 8000000 in
theorem fits_any (c i r : Int) (on : Nat) (k v d : List UInt8) (w : World) (hT : Tabs w) (ho : on < 10) :
    Calls Tryd.prog 48 #[cmdV c i r on k v d] w fun e w' => e = .returned (.bool (fitsB (shapeTab.getD on 0) k v d)) ∧ Fresh w w' := by
  obtain ⟨sh, hsh⟩ : ∃ sh, sh = shapeTab.getD on 0 := ⟨_, rfl⟩
  have hs : w.cell? ⟨1, on, none⟩ = some (.int .i64 sh) := hsh ▸ hT.shp.cell gShp on ho
  have hlt : 1 < w.heap.size := var_lt gShp hT.shp
  rw [← hsh]
  have HT := Lib.hid hT
  clear hT hsh
  obtain ⟨t, ht⟩ : ∃ t, t = fitsB sh k v d := ⟨_, rfl⟩
  rw [← ht]
  unfold fitsB at ht
  have H := fun x p w h => has_any x p sh w h
  have K := isKey_any k
  have V := isValue_any d
  have H1 := fun p w h => H 1 p w h
  have H4 := fun p w h => H 4 p w h
  have H2 := fun p w h => H 2 p w h
  have H8 := fun p w h => H 8 p w h
  have H16 := fun p w h => H 16 p w h
  have H32 := fun p w h => H 32 p w h
  clear H
  have N := number_any v
  generalize hasB sh 1 = b1 at H1 ht
  generalize hasB sh 4 = b4 at H4 ht
  generalize hasB sh 2 = b2 at H2 ht
  generalize hasB sh 8 = b8 at H8 ht
  generalize hasB sh 16 = b16 at H16 ht
  generalize hasB sh 32 = b32 at H32 ht
  generalize keyB k = kb at K ht
  generalize valB d = vb at V ht
  obtain ⟨⟨z, nb⟩, hn⟩ : ∃ n, n = numb v := ⟨_, rfl⟩
  rw [← hn] at N ht
  dsimp only at N ht
  clear hn
  replace H1 := Lib.hid H1
  replace H4 := Lib.hid H4
  replace H2 := Lib.hid H2
  replace H8 := Lib.hid H8
  replace H16 := Lib.hid H16
  replace H32 := Lib.hid H32
  replace K := Lib.hid K
  replace V := Lib.hid V
  have V2 := Lib.hid (isValue_any v)
  replace N := Lib.hid N
  have HE := Lib.hid ht
  clear ht
  go_enter Tryd.func48, Tryd.ntmps48
  go_wp2_with fail
  obtain ⟨B, hB⟩ : ∃ B, B = w.heap.size := ⟨_, rfl⟩
  obtain ⟨W, hW⟩ : ∃ W, W = (w.alloc (.cells #[.int .i64 c, .int .i64 i, .int .i64 r, .int .i64 on, str k, str v, str d] 57)).alloc (.cells #[.int .i64 sh] 3) := ⟨_, rfl⟩
  rw [← hW, ← hB]
  have hf : Fresh w W := hW ▸ ((Keep.refl _ w).alloc _).alloc _
  have cK : W.cell? ⟨B, 4, none⟩ = some (str k) := by rw [hW, hB]; simp
  have cV : W.cell? ⟨B, 5, none⟩ = some (str v) := by rw [hW, hB]; simp
  have cD : W.cell? ⟨B, 6, none⟩ = some (str d) := by rw [hW, hB]; simp
  have cS : W.cell? ⟨B + 1, 0, none⟩ = some (.int .i64 sh) := by rw [hW, hB]; simp
  have HF := Lib.hid hf
  clear hf hW hB hs hlt
  by_cases hp : kb = b1 ∧ (b1 = false → k = [])
  · obtain ⟨rfl, hk⟩ := hp
    have hE : t = if (b4 = false ∧ d ≠ []) ∨ vb = false then false else if b2 = true then valB v else if b8 = true then nb else if b16 = true then nb && decide (0 < z) else if b32 = true then nb && (decide (0 ≤ z) && decide (z < 16)) else v == [] := by
      rw [HE.out, if_neg (by rintro (h | ⟨h1, h2⟩); exact h rfl; exact h2 (hk h1))]
    clear HE
    have HE := Lib.hid hE
    clear hE
    have hkk : kb = true ∨ (kb = false ∧ k = []) := by
      cases kb
      · exact .inr ⟨rfl, hk rfl⟩
      · exact .inl rfl
    clear hk
    rcases hkk with rfl | ⟨rfl, rfl⟩
    all_goals
      go_quiet (first | (go_at_call 49; exact quiet_same (H1.out _ _ cS)) | (go_at_call 50; exact quiet_same (K.out _)))
      go_wp2_with fail
      clear cK
      refine (H4.out _ (W.drewN nq) cS).mono ?_
      rintro e _ ⟨rfl, rfl⟩
      by_cases hd : b4 = false ∧ d ≠ []
      · obtain ⟨rfl, hd⟩ := hd
        have he : d.isEmpty = false := by simpa using hd
        go_wp2_with fail
        go_ret
        exact ⟨ret_bool (by rw [HE.out]; simp [hd]), HF.out.drewN _⟩
      · have hd2 : b4 = true ∨ (b4 = false ∧ d = []) := by
          cases b4
          · exact .inr ⟨rfl, Classical.byContradiction fun h => hd ⟨rfl, h⟩⟩
          · exact .inl rfl
        rcases hd2 with rfl | ⟨rfl, rfl⟩
        all_goals
          go_wp2_with fail
          refine (V.out _).mono ?_
          rintro e _ ⟨rfl, rfl⟩
          cases vb
          · go_wp2_with fail
            go_ret
            exact ⟨ret_bool (by rw [HE.out]; simp), HF.out.drewN _⟩
          · have hE : t = if b2 = true then valB v else if b8 = true then nb else if b16 = true then nb && decide (0 < z) else if b32 = true then nb && (decide (0 ≤ z) && decide (z < 16)) else v == [] := by
              rw [HE.out]
              simp
            clear HE
            have HE := Lib.hid hE
            clear hE hd
            go_wp2_with fail
            refine (N.out (W.drewN nq) (HT.out.fresh (HF.out.drewN nq))).mono ?_
            rintro e w1 ⟨rfl, hk1⟩
            have cV1 := hk1.cellAt cV trivial
            have cS1 := hk1.cellAt cS trivial
            have HF1 := Lib.hid ((HF.out.drewN nq).trans hk1)
            clear hk1 cV cS cD
            go_wp2_with fail
            refine (H2.out _ w1 cS1).mono ?_
            rintro e _ ⟨rfl, rfl⟩
            cases b2
            · go_wp2_with fail
              refine (H8.out _ w1 cS1).mono ?_
              rintro e _ ⟨rfl, rfl⟩
              cases b8
              · go_wp2_with fail
                refine (H16.out _ w1 cS1).mono ?_
                rintro e _ ⟨rfl, rfl⟩
                cases b16
                · go_wp2_with fail
                  refine (H32.out _ w1 cS1).mono ?_
                  rintro e _ ⟨rfl, rfl⟩
                  cases b32
                  · go_wp2_with fail
                    go_ret
                    exact ⟨ret_bool (by rw [HE.out]; simp), HF1.out⟩
                  · cases nb
                    · go_wp2_with fail
                      go_ret
                      exact ⟨ret_bool (by rw [HE.out]; simp), HF1.out⟩
                    · by_cases hz : (0 : Int) ≤ z
                      all_goals
                        go_wp2_with fail
                        go_ret
                        exact ⟨ret_bool (by rw [HE.out]; simp; omega), HF1.out⟩
                · cases nb
                  all_goals
                    go_wp2_with fail
                    go_ret
                    exact ⟨ret_bool (by rw [HE.out]; simp), HF1.out⟩
              · go_wp2_with fail
                go_ret
                exact ⟨ret_bool (by rw [HE.out]; simp), HF1.out⟩
            · go_wp2_with fail
              refine (V2.out w1).mono ?_
              rintro e _ ⟨rfl, rfl⟩
              go_wp2_with fail
              go_ret
              exact ⟨ret_bool (by rw [HE.out]; simp), HF1.out⟩
  · have hE : t = false := by
      rw [HE.out, if_pos]
      rcases Classical.em (kb = b1) with h | h
      · refine .inr ⟨Classical.byContradiction fun h1 => hp ⟨h, fun h2 => absurd h2 h1⟩, fun h1 => hp ⟨h, fun _ => h1⟩⟩
      · exact .inl (fun h1 => h h1.symm)
    obtain rfl := hE
    clear HE
    have hkk : kb = (!b1) ∨ (kb = false ∧ b1 = false ∧ k ≠ []) := by
      revert hp
      cases kb <;> cases b1 <;> simp
    clear hp
    rcases hkk with rfl | ⟨rfl, rfl, hk⟩
    · cases b1
      all_goals
        go_quiet (first | (go_at_call 49; exact quiet_same (H1.out _ _ cS)) | (go_at_call 50; exact quiet_same (K.out _)))
        go_wp2_with fail
        go_ret
        exact ⟨rfl, HF.out.drewN _⟩
    · have he : k.isEmpty = false := by simpa using hk
      go_quiet (first | (go_at_call 49; exact quiet_same (H1.out _ _ cS)) | (go_at_call 50; exact quiet_same (K.out _)))
      go_wp2_with fail
      go_ret
      exact ⟨rfl, HF.out.drewN _⟩

end Go.Proofs.YtioinjcdkmiafaaDoor
namespace Go.Proofs.YtioinjcdkmiafaaDoor
set_option linter.unusedVariables false
set_option linter.unusedSimpArgs false
open Go.RowKit

def validB (c i r o : Int) (k v d : List UInt8) : Bool :=
  if c < 0 then false else if 16 ≤ c then false else if countB i = false then false else if countB r = false then false else if o < 1 then false else if 10 ≤ o then false
  else fitsB (shapeTab.getD o.toNat 0) k v d

set_option maxHeartbeats 4000000 in
theorem valid_any (c i r o : Int) (k v d : List UInt8) (w : World) (hT : Tabs w) :
    Calls Tryd.prog 46 #[cmdV c i r o k v d] w fun e w' => e = .returned (.bool (validB c i r o k v d)) ∧ Fresh w w' := by
  obtain ⟨t, ht⟩ : ∃ t, t = validB c i r o k v d := ⟨_, rfl⟩
  rw [← ht]
  unfold validB at ht
  have I := count_any i
  have R := count_any r
  generalize countB i = bi at I ht
  generalize countB r = br at R ht
  replace I := Lib.hid I
  replace R := Lib.hid R
  have e1 : c < 0 → false = t := fun h => by rw [ht, if_pos h]
  have e2 : 16 ≤ c → false = t := fun h => by rw [ht, if_neg (by omega), if_pos h]
  have e3 : bi = false → false = t := fun h => by rw [ht, if_pos h]; split <;> first | rfl | (split <;> rfl)
  have e4 : br = false → false = t := fun h => by rw [ht, if_pos h]; split <;> first | rfl | (split <;> first | rfl | (split <;> rfl))
  have e5 : o < 1 → false = t := fun h => by rw [ht, if_pos h]; split <;> first | rfl | (split <;> first | rfl | (split <;> first | rfl | (split <;> rfl)))
  have e6 : 10 ≤ o → false = t := fun h => by rw [ht, if_pos h]; split <;> first | rfl | (split <;> first | rfl | (split <;> first | rfl | (split <;> first | rfl | (split <;> rfl))))
  have e7 : 0 ≤ c → c < 16 → bi = true → br = true → 1 ≤ o → o < 10 → t = fitsB (shapeTab.getD o.toNat 0) k v d := fun h1 h2 h3 h4 h5 h6 => by
    rw [ht, if_neg (by omega), if_neg (by omega), if_neg (by simp [h3]), if_neg (by simp [h4]), if_neg (by omega), if_neg (by omega)]
  clear ht
  replace e1 := Lib.hid e1
  replace e2 := Lib.hid e2
  replace e3 := Lib.hid e3
  replace e4 := Lib.hid e4
  replace e5 := Lib.hid e5
  replace e6 := Lib.hid e6
  replace e7 := Lib.hid e7
  have HT := Lib.hid hT
  clear hT
  go_enter Tryd.func46, Tryd.ntmps46
  go_wp2_with fail
  · obtain ⟨B, hB⟩ : ∃ B, B = w.heap.size := ⟨_, rfl⟩
    obtain ⟨W, hW⟩ : ∃ W, W = w.alloc (.cells #[.int .i64 c, .int .i64 i, .int .i64 r, .int .i64 o, str k, str v, str d] 57) := ⟨_, rfl⟩
    rw [← hW, ← hB]
    have hf : Fresh w W := hW ▸ (Keep.refl _ w).alloc _
    have c0 : W.cell? ⟨B, 0, none⟩ = some (.int .i64 c) := by rw [hW, hB]; simp
    have c1 : W.cell? ⟨B, 1, none⟩ = some (.int .i64 i) := by rw [hW, hB]; simp
    have c2 : W.cell? ⟨B, 2, none⟩ = some (.int .i64 r) := by rw [hW, hB]; simp
    have c3 : W.cell? ⟨B, 3, none⟩ = some (.int .i64 o) := by rw [hW, hB]; simp
    have c4 : W.cell? ⟨B, 4, none⟩ = some (str k) := by rw [hW, hB]; simp
    have c5 : W.cell? ⟨B, 5, none⟩ = some (str v) := by rw [hW, hB]; simp
    have c6 : W.cell? ⟨B, 6, none⟩ = some (str d) := by rw [hW, hB]; simp
    have HF := Lib.hid hf
    clear hf hW hB
    refine (I.out W).mono ?_
    rintro e _ ⟨rfl, rfl⟩
    cases bi
    · go_wp2_with fail
      go_ret
      exact ⟨ret_bool (e3.out (by simp)), HF.out⟩
    · go_wp2_with fail
      refine (R.out W).mono ?_
      rintro e _ ⟨rfl, rfl⟩
      cases br
      · go_wp2_with fail
        go_ret
        exact ⟨ret_bool (e4.out (by simp)), HF.out⟩
      · by_cases h5 : o < 1
        · go_wp2_with fail
          go_ret
          exact ⟨ret_bool (e5.out h5), HF.out⟩
        · by_cases h6 : 10 ≤ o
          · go_wp2_with fail
            go_ret
            exact ⟨ret_bool (e6.out h6), HF.out⟩
          · have hE := e7.out (by omega) (by omega) (by simp) (by simp) (by omega) (by omega)
            obtain ⟨on, rfl⟩ : ∃ on : Nat, o = (on : Int) := ⟨o.toNat, by omega⟩
            have HG := Lib.hid (fits_any c i r on k v d W (HT.out.fresh HF.out) (by omega))
            simp only [Int.toNat_natCast] at hE
            have HE := Lib.hid hE
            clear hE
            go_wp2_with fail
            refine HG.out.mono ?_
            rintro e w1 ⟨rfl, hk⟩
            go_wp2_with fail
            go_ret
            exact ⟨ret_bool HE.out.symm, HF.out.trans hk⟩
  · go_ret
    exact ⟨ret_bool (e2.out (by assumption)), (Keep.refl _ w).alloc _⟩
  · go_ret
    exact ⟨ret_bool (e1.out (by assumption)), (Keep.refl _ w).alloc _⟩

theorem fits_len {sh : Int} {k v d : List UInt8} (h : fitsB sh k v d = true) : k.length ≤ 8 ∧ v.length ≤ 8 ∧ d.length ≤ 8 := by
  unfold fitsB at h
  split at h
  · cases h
  · rename_i h1
    split at h
    · cases h
    · rename_i h2
      refine ⟨?_, ?_, ?_⟩
      · rcases hb : hasB sh 1 with _ | _
        · have : k = [] := Classical.byContradiction fun hk => h1 (.inr ⟨hb, hk⟩)
          simp [this]
        · have : keyB k = true := by
            rcases hk : keyB k with _ | _
            · exact absurd (.inl (by rw [hb, hk]; simp)) h1
            · rfl
          simp [keyB] at this
          omega
      · have hn : (numb v).2 = true → v.length ≤ 8 := by
          intro hn
          unfold numb at hn
          split at hn
          · cases hn
          · omega
        split at h
        · simp [valB] at h; omega
        · split at h
          · exact hn h
          · split at h
            · simp at h; exact hn h.1
            · split at h
              · simp at h; exact hn h.1
              · simp at h; simp [h]
      · have : valB d = true := by
          rcases hk : valB d with _ | _
          · exact absurd (.inr hk) h2
          · rfl
        simp [valB] at this
        omega
theorem valid_ok {c i r o : Int} {k v d : List UInt8} (h : validB c i r o k v d = true) :
    (0 ≤ c ∧ c < 16) ∧ (1 ≤ i ∧ i ≤ 4611686018427387904) ∧ (1 ≤ r ∧ r ≤ 4611686018427387904) ∧ (1 ≤ o ∧ o < 10) ∧ fitsB (shapeTab.getD o.toNat 0) k v d = true := by
  unfold validB at h
  split at h
  · cases h
  · split at h
    · cases h
    · split at h
      · cases h
      · split at h
        · cases h
        · split at h
          · cases h
          · split at h
            · cases h
            · rename_i hi hr _ _
              simp [countB] at hi hr
              exact ⟨by omega, by omega, by omega, by omega, h⟩
end Go.Proofs.YtioinjcdkmiafaaDoor
