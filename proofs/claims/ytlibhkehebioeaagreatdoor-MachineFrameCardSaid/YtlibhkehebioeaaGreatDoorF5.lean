/-
  MERGED: Check Valid Mach Mach2
-/
import Derived.Test.YtlibhkehebioeaaGreatDoorF3
import Derived.Test.YtlibhkehebioeaaGreatDoorF4
import Derived.Lib.AtoiBound
import Derived.Lib.LaidTab
import Derived.Test.YtlibhkehebioeaaGreatDoorF1
import Derived.Test.YtlibhkehebioeaaGreatDoorF2
import Derived.StillTailTactics
namespace Go.Proofs.YtlibhkehebioeaaGreatDoor
set_option linter.unusedVariables false
set_option linter.unusedSimpArgs false
open Go.RowKit

/-! ### the tables -/
def shapeTab : List Int := [0, 3, 1, 7, 1, 9, 1, 1, 17, 32]
/-- What the listed package-level variables hold. -/
structure Tabs (w : World) : Prop where
  pow : Lib.TabIs Tryz.prog w "internal/strconv.uint64pow10" .u64 Lib.pow10Tab
  shp : Lib.TabIs Tryz.prog w "quorate/machine.shapes" .i64 shapeTab
  syn : ∃ tp p, w.var? Tryz.prog "strconv.ErrSyntax" = some #[.iface tp p]
theorem gPow : Tryz.prog.globalNamed "internal/strconv.uint64pow10" = some 4 := by kernel_rfl
theorem gShp : Tryz.prog.globalNamed "quorate/machine.shapes" = some 1 := by kernel_rfl
theorem gSyn : Tryz.prog.globalNamed "strconv.ErrSyntax" = some 2 := by kernel_rfl
theorem var_lt {w : World} {s : String} {g : Nat} {cs : Array Value} (hg : Tryz.prog.globalNamed s = some g) (h : w.var? Tryz.prog s = some cs) : g < w.heap.size := by
  rcases Nat.lt_or_ge g w.heap.size with hlt | hge
  · exact hlt
  · simp [World.var?, hg, Array.getElem?_eq_none hge] at h
theorem var_keep {Z : Nat → Prop} {w w' : World} {s : String} {g : Nat} {cs : Array Value} (hg : Tryz.prog.globalNamed s = some g) (h : w.var? Tryz.prog s = some cs) (hk : Keep Z w w') (hz : Z g) : w'.var? Tryz.prog s = some cs := by
  have h1 := hk.block g (var_lt hg h) hz
  rw [← h]
  simp [World.var?, hg, h1]
theorem Tabs.keep {Z : Nat → Prop} {w w' : World} (h : Tabs w) (hk : Keep Z w w') (hz : ∀ k, k < 8 → Z k) : Tabs w' :=
  ⟨var_keep gPow h.pow hk (hz _ (by decide)), var_keep gShp h.shp hk (hz _ (by decide)), by
    obtain ⟨tp, p, hs⟩ := h.syn
    exact ⟨tp, p, var_keep gSyn hs hk (hz _ (by decide))⟩⟩
theorem Tabs.fresh {w w' : World} (h : Tabs w) (hk : Fresh w w') : Tabs w' := h.keep hk (fun _ _ => trivial)

/-! ### small ones -/
def keyB (l : List UInt8) : Bool := decide (1 ≤ l.length) && decide (l.length ≤ 8)
def valB (l : List UInt8) : Bool := decide (l.length ≤ 8)
def countB (v : Int) : Bool := decide (1 ≤ v) && decide (v ≤ 4611686018427387904)
abbrev str (l : List UInt8) : Value := .string ⟨l.toArray⟩
theorem str_size (l : List UInt8) : (ByteArray.mk l.toArray).size = l.length := rfl

theorem isKey_any (l : List UInt8) (w : World) : Calls Tryz.prog 110 #[str l] w fun e w' => e = .returned (.bool (keyB l)) ∧ w = w' := by
  by_cases h : (1 : Int) ≤ (l.length : Int)
  · go_enter Tryz.func110, Tryz.ntmps110
    go_wp2
    go_ret
    exact ⟨ret_bool (by rw [Bool.eq_iff_iff]; simp [keyB, str_size]; omega), rfl⟩
  · go_enter Tryz.func110, Tryz.ntmps110
    go_wp2
    go_ret
    exact ⟨ret_bool (by rw [Bool.eq_iff_iff]; simp [keyB]; omega), rfl⟩

theorem isValue_any (l : List UInt8) (w : World) : Calls Tryz.prog 111 #[str l] w fun e w' => e = .returned (.bool (valB l)) ∧ w = w' := by
  go_enter Tryz.func111, Tryz.ntmps111
  go_wp2
  go_ret
  exact ⟨ret_bool (by rw [Bool.eq_iff_iff]; simp [valB, str_size]; omega), rfl⟩

theorem count_any (v : Int) (w : World) : Calls Tryz.prog 69 #[.int .i64 v] w fun e w' => e = .returned (.bool (countB v)) ∧ w = w' := by
  by_cases h : (1 : Int) ≤ v
  · go_enter Tryz.func69, Tryz.ntmps69
    go_wp2
    go_ret
    exact ⟨ret_bool (by simp [countB, h]), rfl⟩
  · go_enter Tryz.func69, Tryz.ntmps69
    go_wp2
    go_ret
    exact ⟨ret_bool (by rw [Bool.eq_iff_iff]; simp [countB]; omega), rfl⟩

/-! ### numbers in texts -/
def numb (l : List UInt8) : Int × Bool := if 8 < l.length then (0, false) else match Lib.atoi l with
  | none => (0, false)
  | some n => (n, Lib.itoa n == l)
theorem Fresh.bytesWorld (w : World) (e : TypeId) (s : ByteArray) : Fresh w (Lib.bytesWorld w e s) := Fresh.of_below (Lib.bytesWorld_below w e s)
theorem Fresh.growN (w : World) (k : Nat) (os : Array Obj) : Fresh w (Go.Sort.grow (w.drewN k) os) :=
  ⟨rfl, rfl, rfl, by simp [Go.Sort.grow, World.drewN], fun j hj _ => by simp [Go.Sort.grow, World.drewN, Array.getElem?_append, hj]⟩
theorem str_eq (a b : List UInt8) : ((ByteArray.mk a.toArray) = (ByteArray.mk b.toArray)) ↔ a = b := by
  constructor
  · intro h
    injection h with h
    simpa using h
  · rintro rfl; rfl
theorem atoi_small {l : List UInt8} {n : Int} (hl : l.length ≤ 8) (h : Lib.atoi l = some n) : -9223372036854775808 ≤ n ∧ n ≤ 9223372036854775807 := by
  have := Lib.atoi_bound h (by omega)
  omega

set_option maxHeartbeats 400000 in
theorem number_any (l : List UInt8) (w : World) (hT : Tabs w) : Calls Tryz.prog 112 #[str l] w fun e w' => e = .returned (.tuple #[.int .i64 (numb l).1, .bool (numb l).2]) ∧ Fresh w w' := by
  obtain ⟨r, hr⟩ : ∃ r, r = numb l := ⟨_, rfl⟩
  rw [← hr]
  unfold numb at hr
  by_cases h8 : 8 < l.length
  · rw [if_pos h8] at hr
    obtain rfl := hr
    have h8' : (8 : Int) < (l.length : Int) := by omega
    go_enter Tryz.func112, Tryz.ntmps112
    go_wp2_with fail
    all_goals go_ret2
    exact ⟨rfl, Keep.refl _ _⟩
  · rw [if_neg h8] at hr
    have h8' : (l.length : Int) ≤ 8 := by omega
    have h18 : (ByteArray.mk l.toArray).size ≤ 18 := by rw [str_size]; omega
    have HT := Lib.hid hT
    clear hT
    cases ha : Lib.atoi l with
    | none =>
      rw [ha] at hr
      obtain rfl := hr
      obtain ⟨tp, p, hs⟩ := HT.out.syn
      have HC := Tryz.strconv_Atoi_err_var ⟨l.toArray⟩ h18 (by simpa using ha) tp p w hs
      have HC := Lib.hid HC
      clear hs
      go_enter Tryz.func112, Tryz.ntmps112
      go_wp2_with fail
      refine HC.out.mono ?_
      rintro e w1 ⟨N, rfl, hN, -, hb⟩
      have HB := Lib.hid hb
      clear hb
      go_wp2_with fail
      go_ret2
      exact ⟨rfl, Fresh.of_below HB.out⟩
    | some n =>
      rw [ha] at hr
      obtain rfl := hr
      have HC := Lib.hid (Tryz.strconv_Atoi ⟨l.toArray⟩ n h18 (by simpa using ha) w)
      go_enter Tryz.func112, Tryz.ntmps112
      go_wp2_with fail
      refine HC.out.mono ?_
      rintro e w1 ⟨rfl, t, rfl⟩
      obtain ⟨w1, hw1⟩ : ∃ w1, w1 = Lib.bytesWorld w 5 t := ⟨_, rfl⟩
      rw [← hw1]
      have hk1 : Fresh w w1 := hw1 ▸ Fresh.bytesWorld w 5 t
      clear hw1
      obtain ⟨hlo, hhi⟩ := atoi_small (by omega) ha
      have HI := Lib.hid (Tryz.strconv_Itoa n hlo hhi w1 (HT.out.fresh hk1).pow)
      have HK := Lib.hid hk1
      clear hk1 ha HC
      go_wp2_with fail
      refine HI.out.mono ?_
      rintro e w2 ⟨rfl, k, os, rfl⟩
      go_wp2_with fail
      go_ret2
      exact ⟨rfl, HK.out.trans (Fresh.growN _ _ _)⟩


/-! ### what an operation wants -/
def hasB (sh x : Int) : Bool := bits BinOp.and IntKind.i64 sh x != 0
theorem has_any (x : Int) (p : Addr) (sh : Int) (w : World) (hp : w.cell? p = some (.int .i64 sh)) : Calls Tryz.prog 109 #[.int .i64 x, .pointer (some p)] w fun e w' => e = .returned (.bool (hasB sh x)) ∧ w = w' := by
  go_enter Tryz.func109, Tryz.ntmps109
  go_wp2_with fail
  go_ret
  exact ⟨rfl, rfl⟩
/-- A call that leaves the world as it was, in a region that is quiet. -/
theorem quiet_same {P : Program} {f : FuncId} {args : Array Value} {w : World} {n : Nat} {v : Value}
    (h : Calls P f args (w.drewN n) fun e w' => e = .returned v ∧ w.drewN n = w') : Calls P f args (w.drewN n) fun e w'' => e = .returned v ∧ ∃ m, w'' = w.drewN m :=
  h.mono fun _ _ ⟨he, hm⟩ => ⟨he, n, hm.symm⟩
abbrev cmdV (c i r o : Int) (k v d : List UInt8) : Value := .agg #[.int .i64 c, .int .i64 i, .int .i64 r, .int .i64 o, str k, str v, str d]
def fitsB (sh : Int) (k v d : List UInt8) : Bool :=
  if hasB sh 1 ≠ keyB k ∨ (hasB sh 1 = false ∧ k ≠ []) then false
  else if (hasB sh 4 = false ∧ d ≠ []) ∨ valB d = false then false
  else if hasB sh 2 = true then valB v
  else if hasB sh 8 = true then (numb v).2
  else if hasB sh 16 = true then (numb v).2 && decide (0 < (numb v).1)
  else if hasB sh 32 = true then (numb v).2 && (decide (0 ≤ (numb v).1) && decide ((numb v).1 < 16))
  else v == []

set_option maxHeartbeats 8000000 in
theorem fits_any (c i r : Int) (on : Nat) (k v d : List UInt8) (w : World) (hT : Tabs w) (ho : on < 10) :
    Calls Tryz.prog 70 #[cmdV c i r on k v d] w fun e w' => e = .returned (.bool (fitsB (shapeTab.getD on 0) k v d)) ∧ Fresh w w' := by
  obtain ⟨sh, hsh⟩ : ∃ sh, sh = shapeTab.getD on 0 := ⟨_, rfl⟩
  have hs : w.cell? ⟨1, on, none⟩ = some (.int .i64 sh) := hsh ▸ hT.shp.cell gShp on ho
  have hlt : 1 < w.heap.size := var_lt gShp hT.shp
  rw [← hsh]
  have HT := Lib.hid hT
  clear hT hsh
  obtain ⟨t, ht⟩ : ∃ t, t = fitsB sh k v d := ⟨_, rfl⟩
  rw [← ht]
  unfold fitsB at ht
  have H := fun x p w h => has_any x p sh w h
  have K := isKey_any k
  have V := isValue_any d
  have H1 := fun p w h => H 1 p w h
  have H4 := fun p w h => H 4 p w h
  have H2 := fun p w h => H 2 p w h
  have H8 := fun p w h => H 8 p w h
  have H16 := fun p w h => H 16 p w h
  have H32 := fun p w h => H 32 p w h
  clear H
  have N := number_any v
  generalize hasB sh 1 = b1 at H1 ht
  generalize hasB sh 4 = b4 at H4 ht
  generalize hasB sh 2 = b2 at H2 ht
  generalize hasB sh 8 = b8 at H8 ht
  generalize hasB sh 16 = b16 at H16 ht
  generalize hasB sh 32 = b32 at H32 ht
  generalize keyB k = kb at K ht
  generalize valB d = vb at V ht
  obtain ⟨⟨z, nb⟩, hn⟩ : ∃ n, n = numb v := ⟨_, rfl⟩
  rw [← hn] at N ht
  dsimp only at N ht
  clear hn
  replace H1 := Lib.hid H1
  replace H4 := Lib.hid H4
  replace H2 := Lib.hid H2
  replace H8 := Lib.hid H8
  replace H16 := Lib.hid H16
  replace H32 := Lib.hid H32
  replace K := Lib.hid K
  replace V := Lib.hid V
  have V2 := Lib.hid (isValue_any v)
  replace N := Lib.hid N
  have HE := Lib.hid ht
  clear ht
  go_enter Tryz.func70, Tryz.ntmps70
  go_wp2_with fail
  obtain ⟨B, hB⟩ : ∃ B, B = w.heap.size := ⟨_, rfl⟩
  obtain ⟨W, hW⟩ : ∃ W, W = (w.alloc (.cells #[.int .i64 c, .int .i64 i, .int .i64 r, .int .i64 on, str k, str v, str d] 30)).alloc (.cells #[.int .i64 sh] 3) := ⟨_, rfl⟩
  rw [← hW, ← hB]
  have hf : Fresh w W := hW ▸ ((Keep.refl _ w).alloc _).alloc _
  have cK : W.cell? ⟨B, 4, none⟩ = some (str k) := by rw [hW, hB]; simp
  have cV : W.cell? ⟨B, 5, none⟩ = some (str v) := by rw [hW, hB]; simp
  have cD : W.cell? ⟨B, 6, none⟩ = some (str d) := by rw [hW, hB]; simp
  have cS : W.cell? ⟨B + 1, 0, none⟩ = some (.int .i64 sh) := by rw [hW, hB]; simp
  have HF := Lib.hid hf
  clear hf hW hB hs hlt
  by_cases hp : kb = b1 ∧ (b1 = false → k = [])
  · obtain ⟨rfl, hk⟩ := hp
    have hE : t = if (b4 = false ∧ d ≠ []) ∨ vb = false then false else if b2 = true then valB v else if b8 = true then nb else if b16 = true then nb && decide (0 < z) else if b32 = true then nb && (decide (0 ≤ z) && decide (z < 16)) else v == [] := by
      rw [HE.out, if_neg (by rintro (h | ⟨h1, h2⟩); exact h rfl; exact h2 (hk h1))]
    clear HE
    have HE := Lib.hid hE
    clear hE
    have hkk : kb = true ∨ (kb = false ∧ k = []) := by
      cases kb
      · exact .inr ⟨rfl, hk rfl⟩
      · exact .inl rfl
    clear hk
    rcases hkk with rfl | ⟨rfl, rfl⟩
    all_goals
      go_quiet (first | (go_at_call 109; exact quiet_same (H1.out _ _ cS)) | (go_at_call 110; exact quiet_same (K.out _)))
      go_wp2_with fail
      clear cK
      refine (H4.out _ (W.drewN nq) cS).mono ?_
      rintro e _ ⟨rfl, rfl⟩
      by_cases hd : b4 = false ∧ d ≠ []
      · obtain ⟨rfl, hd⟩ := hd
        have he : d.isEmpty = false := by simpa using hd
        go_wp2_with fail
        go_ret
        exact ⟨ret_bool (by rw [HE.out]; simp [hd]), HF.out.drewN _⟩
      · have hd2 : b4 = true ∨ (b4 = false ∧ d = []) := by
          cases b4
          · exact .inr ⟨rfl, Classical.byContradiction fun h => hd ⟨rfl, h⟩⟩
          · exact .inl rfl
        rcases hd2 with rfl | ⟨rfl, rfl⟩
        all_goals
          go_wp2_with fail
          refine (V.out _).mono ?_
          rintro e _ ⟨rfl, rfl⟩
          cases vb
          · go_wp2_with fail
            go_ret
            exact ⟨ret_bool (by rw [HE.out]; simp), HF.out.drewN _⟩
          · have hE : t = if b2 = true then valB v else if b8 = true then nb else if b16 = true then nb && decide (0 < z) else if b32 = true then nb && (decide (0 ≤ z) && decide (z < 16)) else v == [] := by
              rw [HE.out]
              simp
            clear HE
            have HE := Lib.hid hE
            clear hE hd
            go_wp2_with fail
            refine (N.out (W.drewN nq) (HT.out.fresh (HF.out.drewN nq))).mono ?_
            rintro e w1 ⟨rfl, hk1⟩
            have cV1 := hk1.cellAt cV trivial
            have cS1 := hk1.cellAt cS trivial
            have HF1 := Lib.hid ((HF.out.drewN nq).trans hk1)
            clear hk1 cV cS cD
            go_wp2_with fail
            refine (H2.out _ w1 cS1).mono ?_
            rintro e _ ⟨rfl, rfl⟩
            cases b2
            · go_wp2_with fail
              refine (H8.out _ w1 cS1).mono ?_
              rintro e _ ⟨rfl, rfl⟩
              cases b8
              · go_wp2_with fail
                refine (H16.out _ w1 cS1).mono ?_
                rintro e _ ⟨rfl, rfl⟩
                cases b16
                · go_wp2_with fail
                  refine (H32.out _ w1 cS1).mono ?_
                  rintro e _ ⟨rfl, rfl⟩
                  cases b32
                  · go_wp2_with fail
                    go_ret
                    exact ⟨ret_bool (by rw [HE.out]; simp), HF1.out⟩
                  · cases nb
                    · go_wp2_with fail
                      go_ret
                      exact ⟨ret_bool (by rw [HE.out]; simp), HF1.out⟩
                    · by_cases hz : (0 : Int) ≤ z
                      all_goals
                        go_wp2_with fail
                        go_ret
                        exact ⟨ret_bool (by rw [HE.out]; simp; omega), HF1.out⟩
                · cases nb
                  all_goals
                    go_wp2_with fail
                    go_ret
                    exact ⟨ret_bool (by rw [HE.out]; simp), HF1.out⟩
              · go_wp2_with fail
                go_ret
                exact ⟨ret_bool (by rw [HE.out]; simp), HF1.out⟩
            · go_wp2_with fail
              refine (V2.out w1).mono ?_
              rintro e _ ⟨rfl, rfl⟩
              go_wp2_with fail
              go_ret
              exact ⟨ret_bool (by rw [HE.out]; simp), HF1.out⟩
  · have hE : t = false := by
      rw [HE.out, if_pos]
      rcases Classical.em (kb = b1) with h | h
      · refine .inr ⟨Classical.byContradiction fun h1 => hp ⟨h, fun h2 => absurd h2 h1⟩, fun h1 => hp ⟨h, fun _ => h1⟩⟩
      · exact .inl (fun h1 => h h1.symm)
    obtain rfl := hE
    clear HE
    have hkk : kb = (!b1) ∨ (kb = false ∧ b1 = false ∧ k ≠ []) := by
      revert hp
      cases kb <;> cases b1 <;> simp
    clear hp
    rcases hkk with rfl | ⟨rfl, rfl, hk⟩
    · cases b1
      all_goals
        go_quiet (first | (go_at_call 109; exact quiet_same (H1.out _ _ cS)) | (go_at_call 110; exact quiet_same (K.out _)))
        go_wp2_with fail
        go_ret
        exact ⟨rfl, HF.out.drewN _⟩
    · have he : k.isEmpty = false := by simpa using hk
      go_quiet (first | (go_at_call 109; exact quiet_same (H1.out _ _ cS)) | (go_at_call 110; exact quiet_same (K.out _)))
      go_wp2_with fail
      go_ret
      exact ⟨rfl, HF.out.drewN _⟩

end Go.Proofs.YtlibhkehebioeaaGreatDoor
namespace Go.Proofs.YtlibhkehebioeaaGreatDoor
set_option linter.unusedVariables false
set_option linter.unusedSimpArgs false
open Go.RowKit

def validB (c i r o : Int) (k v d : List UInt8) : Bool :=
  if c < 0 then false else if 16 ≤ c then false else if countB i = false then false else if countB r = false then false else if o < 1 then false else if 10 ≤ o then false
  else fitsB (shapeTab.getD o.toNat 0) k v d

set_option maxHeartbeats 4000000 in
theorem valid_any (c i r o : Int) (k v d : List UInt8) (w : World) (hT : Tabs w) :
    Calls Tryz.prog 42 #[cmdV c i r o k v d] w fun e w' => e = .returned (.bool (validB c i r o k v d)) ∧ Fresh w w' := by
  obtain ⟨t, ht⟩ : ∃ t, t = validB c i r o k v d := ⟨_, rfl⟩
  rw [← ht]
  unfold validB at ht
  have I := count_any i
  have R := count_any r
  generalize countB i = bi at I ht
  generalize countB r = br at R ht
  replace I := Lib.hid I
  replace R := Lib.hid R
  have e1 : c < 0 → false = t := fun h => by rw [ht, if_pos h]
  have e2 : 16 ≤ c → false = t := fun h => by rw [ht, if_neg (by omega), if_pos h]
  have e3 : bi = false → false = t := fun h => by rw [ht, if_pos h]; split <;> first | rfl | (split <;> rfl)
  have e4 : br = false → false = t := fun h => by rw [ht, if_pos h]; split <;> first | rfl | (split <;> first | rfl | (split <;> rfl))
  have e5 : o < 1 → false = t := fun h => by rw [ht, if_pos h]; split <;> first | rfl | (split <;> first | rfl | (split <;> first | rfl | (split <;> rfl)))
  have e6 : 10 ≤ o → false = t := fun h => by rw [ht, if_pos h]; split <;> first | rfl | (split <;> first | rfl | (split <;> first | rfl | (split <;> first | rfl | (split <;> rfl))))
  have e7 : 0 ≤ c → c < 16 → bi = true → br = true → 1 ≤ o → o < 10 → t = fitsB (shapeTab.getD o.toNat 0) k v d := fun h1 h2 h3 h4 h5 h6 => by
    rw [ht, if_neg (by omega), if_neg (by omega), if_neg (by simp [h3]), if_neg (by simp [h4]), if_neg (by omega), if_neg (by omega)]
  clear ht
  replace e1 := Lib.hid e1
  replace e2 := Lib.hid e2
  replace e3 := Lib.hid e3
  replace e4 := Lib.hid e4
  replace e5 := Lib.hid e5
  replace e6 := Lib.hid e6
  replace e7 := Lib.hid e7
  have HT := Lib.hid hT
  clear hT
  go_enter Tryz.func42, Tryz.ntmps42
  go_wp2_with fail
  · obtain ⟨B, hB⟩ : ∃ B, B = w.heap.size := ⟨_, rfl⟩
    obtain ⟨W, hW⟩ : ∃ W, W = w.alloc (.cells #[.int .i64 c, .int .i64 i, .int .i64 r, .int .i64 o, str k, str v, str d] 30) := ⟨_, rfl⟩
    rw [← hW, ← hB]
    have hf : Fresh w W := hW ▸ (Keep.refl _ w).alloc _
    have c0 : W.cell? ⟨B, 0, none⟩ = some (.int .i64 c) := by rw [hW, hB]; simp
    have c1 : W.cell? ⟨B, 1, none⟩ = some (.int .i64 i) := by rw [hW, hB]; simp
    have c2 : W.cell? ⟨B, 2, none⟩ = some (.int .i64 r) := by rw [hW, hB]; simp
    have c3 : W.cell? ⟨B, 3, none⟩ = some (.int .i64 o) := by rw [hW, hB]; simp
    have c4 : W.cell? ⟨B, 4, none⟩ = some (str k) := by rw [hW, hB]; simp
    have c5 : W.cell? ⟨B, 5, none⟩ = some (str v) := by rw [hW, hB]; simp
    have c6 : W.cell? ⟨B, 6, none⟩ = some (str d) := by rw [hW, hB]; simp
    have HF := Lib.hid hf
    clear hf hW hB
    refine (I.out W).mono ?_
    rintro e _ ⟨rfl, rfl⟩
    cases bi
    · go_wp2_with fail
      go_ret
      exact ⟨ret_bool (e3.out (by simp)), HF.out⟩
    · go_wp2_with fail
      refine (R.out W).mono ?_
      rintro e _ ⟨rfl, rfl⟩
      cases br
      · go_wp2_with fail
        go_ret
        exact ⟨ret_bool (e4.out (by simp)), HF.out⟩
      · by_cases h5 : o < 1
        · go_wp2_with fail
          go_ret
          exact ⟨ret_bool (e5.out h5), HF.out⟩
        · by_cases h6 : 10 ≤ o
          · go_wp2_with fail
            go_ret
            exact ⟨ret_bool (e6.out h6), HF.out⟩
          · have hE := e7.out (by omega) (by omega) (by simp) (by simp) (by omega) (by omega)
            obtain ⟨on, rfl⟩ : ∃ on : Nat, o = (on : Int) := ⟨o.toNat, by omega⟩
            have HG := Lib.hid (fits_any c i r on k v d W (HT.out.fresh HF.out) (by omega))
            simp only [Int.toNat_natCast] at hE
            have HE := Lib.hid hE
            clear hE
            go_wp2_with fail
            refine HG.out.mono ?_
            rintro e w1 ⟨rfl, hk⟩
            go_wp2_with fail
            go_ret
            exact ⟨ret_bool HE.out.symm, HF.out.trans hk⟩
  · go_ret
    exact ⟨ret_bool (e2.out (by assumption)), (Keep.refl _ w).alloc _⟩
  · go_ret
    exact ⟨ret_bool (e1.out (by assumption)), (Keep.refl _ w).alloc _⟩

theorem fits_len {sh : Int} {k v d : List UInt8} (h : fitsB sh k v d = true) : k.length ≤ 8 ∧ v.length ≤ 8 ∧ d.length ≤ 8 := by
  unfold fitsB at h
  split at h
  · cases h
  · rename_i h1
    split at h
    · cases h
    · rename_i h2
      refine ⟨?_, ?_, ?_⟩
      · rcases hb : hasB sh 1 with _ | _
        · have : k = [] := Classical.byContradiction fun hk => h1 (.inr ⟨hb, hk⟩)
          simp [this]
        · have : keyB k = true := by
            rcases hk : keyB k with _ | _
            · exact absurd (.inl (by rw [hb, hk]; simp)) h1
            · rfl
          simp [keyB] at this
          omega
      · have hn : (numb v).2 = true → v.length ≤ 8 := by
          intro hn
          unfold numb at hn
          split at hn
          · cases hn
          · omega
        split at h
        · simp [valB] at h; omega
        · split at h
          · exact hn h
          · split at h
            · simp at h; exact hn h.1
            · split at h
              · simp at h; exact hn h.1
              · simp at h; simp [h]
      · have : valB d = true := by
          rcases hk : valB d with _ | _
          · exact absurd (.inr hk) h2
          · rfl
        simp [valB] at this
        omega
theorem valid_ok {c i r o : Int} {k v d : List UInt8} (h : validB c i r o k v d = true) :
    (0 ≤ c ∧ c < 16) ∧ (1 ≤ i ∧ i ≤ 4611686018427387904) ∧ (1 ≤ r ∧ r ≤ 4611686018427387904) ∧ (1 ≤ o ∧ o < 10) ∧ fitsB (shapeTab.getD o.toNat 0) k v d = true := by
  unfold validB at h
  split at h
  · cases h
  · split at h
    · cases h
    · split at h
      · cases h
      · split at h
        · cases h
        · split at h
          · cases h
          · split at h
            · cases h
            · rename_i hi hr _ _
              simp [countB] at hi hr
              exact ⟨by omega, by omega, by omega, by omega, h⟩
end Go.Proofs.YtlibhkehebioeaaGreatDoor
namespace Go.Proofs.YtlibhkehebioeaaGreatDoor
set_option linter.unusedVariables false
set_option linter.unusedSimpArgs false
open Go.RowKit

abbrev Ps := List (List UInt8 × List UInt8)
def sk (ps : Ps) : List Kv := ps.map fun p => (p.1, str p.2)
def pfind (k : List UInt8) (ps : Ps) : Option (List UInt8) := (ps.find? fun p => p.1 == k).map (·.2)
def pins (x : List UInt8 × List UInt8) : Ps → Ps
  | [] => [x]
  | y :: r => if bytesBefore x.1 y.1 then x :: y :: r else y :: pins x r
def pdel (k : List UInt8) (ps : Ps) : Ps := ps.filter fun p => !(p.1 == k)
def pput (k v : List UInt8) (ps : Ps) : Ps := pins (k, v) (pdel k ps)
theorem sk_len (ps : Ps) : (sk ps).length = ps.length := by simp [sk]
theorem sk_find (k : List UInt8) (ps : Ps) : mfind k (sk ps) = (pfind k ps).map str := by
  unfold mfind pfind sk
  induction ps with
  | nil => rfl
  | cons p ps ih =>
    simp only [List.map_cons, List.find?_cons]
    cases h : p.1 == k
    · exact ih
    · rfl
theorem sk_ins (x : List UInt8 × List UInt8) : ∀ ps : Ps, mins (x.1, str x.2) (sk ps) = sk (pins x ps)
  | [] => rfl
  | y :: r => by
    have e : sk (y :: r) = (y.1, str y.2) :: sk r := rfl
    rw [e, mins, pins]
    dsimp only
    split
    · rfl
    · rw [sk_ins x r]; rfl
theorem sk_del (k : List UInt8) (ps : Ps) : mdel k (sk ps) = sk (pdel k ps) := by
  unfold mdel sk pdel
  rw [List.filter_map]
  rfl
theorem sk_put (k v : List UInt8) (ps : Ps) : mput k (str v) (sk ps) = sk (pput k v ps) := by
  unfold mput pput
  rw [sk_del]
  exact sk_ins (k, v) _

/-- A result. -/
abbrev MRes := ResD
abbrev resV (r : MRes) : Value := .agg #[.int .i64 r.code, str r.val, .int .i64 r.n]
/-- A client's session. -/
abbrev MSess := SesD
def MSess.cells (s : MSess) : List Value := [.int .i64 s.inc, .int .i64 s.req, .int .i64 s.last.code, str s.last.val, .int .i64 s.last.n]
theorem sess_five (s : MSess) : s.cells.length = 5 := rfl
def mcells (bp bl : Nat) (tok : Int) (ss : List MSess) : List Value := [.map (some bp), .map (some bl), .int .i64 tok] ++ rcells MSess.cells ss

theorem run_zero_str (w : World) : (zeroValue 9).run Tryz.prog w = .ok (str []) w := by kernel_rfl
/-- 'm[k]' of a map of strings, for the walk. -/
theorem look_str {w : World} {b : Nat} {ps : Ps} (h : MapIs Tryz.prog 9 w b (sk ps)) {l : List UInt8} (hl : l.length ≤ 1048576) (k : Nat) :
    (Instr.lookup 87 (.map (some b)) (str l) true).run Tryz.prog (w.drewN k) = .ok (.tuple #[str ((pfind l ps).getD []), .bool (pfind l ps).isSome]) (w.drewN k) := by
  have h1 := MapIs.look_ok (h.keep (Keep.drewN (Keep.refl (fun _ => True) w) k) trivial) Tryz.underlying9 Tryz.underlying87 (run_zero_str _) (l := l) (by simp only [maxLen]; omega)
  rw [h1, sk_find]
  cases pfind l ps <;> rfl

def zeroSess : MSess := ⟨0, 0, ⟨0, [], 0⟩⟩
theorem results_one {P : Program} {fn : Func} {p : Tmp} {ty : TypeId} (h : fn.results = #[.cell p ty]) (tmps : Array Value) (w : World) (g : Nat) (t : TypeId) (cs : Array Value) (d : TypeDesc)
    (hp : tmps.getD p undef = .pointer (some ⟨g, 0, none⟩)) (hg : Blk w g t cs) (hu : P.underlying ty = some d) (hd : (match d with | .struct _ | .array _ _ => true | _ => false) = true) (hi : (P.info? ty).map (·.size) = some cs.size) :
    (results fn tmps).run P w = .ok (.agg cs) w := results_cell_row h tmps w g t cs (0, 0) d hp hg hu hd hi
theorem done_any (l : List UInt8) (n : Int) (w : World) : Calls Tryz.prog 117 #[str l, .int .i64 n] w fun e w' => e = .returned (resV ⟨1, l, n⟩) ∧ Fresh w w' := by
  go_enter Tryz.func117, Tryz.ntmps117
  go_wp2
  refine bodyPost_ret (results_one rfl _ _ w.heap.size 33 #[.int .i64 1, str l, .int .i64 n] _ rfl (Blk.new _ _ _) Tryz.underlying33 rfl (by kernel_rfl)) rfl ?_
  exact ⟨rfl, (Keep.refl _ w).alloc _⟩
theorem code_any (n : Int) (w : World) : Calls Tryz.prog 118 #[.int .i64 n] w fun e w' => e = .returned (resV ⟨n, [], 0⟩) ∧ Fresh w w' := by
  go_enter Tryz.func118, Tryz.ntmps118
  go_wp2
  refine bodyPost_ret (results_one rfl _ _ w.heap.size 33 #[.int .i64 n, str [], .int .i64 0] _ rfl (Blk.new _ _ _) Tryz.underlying33 rfl (by kernel_rfl)) rfl ?_
  exact ⟨rfl, (Keep.refl _ w).alloc _⟩
/-- The machine in block m: its pairs, its tokens, its sessions; no lock. -/
structure MOn (w : World) (m bp bl : Nat) (ps : Ps) (tok : Int) (ss : List MSess) : Prop where
  blk : Blk w m 91 (mcells bp bl tok ss).toArray
  len : ss.length = 16
  pm : MapIs Tryz.prog 9 w bp (sk ps)
  lm : MapIs Tryz.prog 9 w bl []
  ne : bp ≠ bl
theorem new_any (w : World) : Calls Tryz.prog 14 #[] w fun e w' => (∃ m bp bl : Nat, e = .returned (.pointer (some ⟨m, 0, none⟩)) ∧ MOn w' m bp bl [] 0 (List.replicate 16 zeroSess) ∧ w.heap.size ≤ m ∧ w.heap.size ≤ bp ∧ w.heap.size ≤ bl) ∧ Fresh w w' := by
  have hmm := @run_makeMap Tryz.prog
  go_enter Tryz.func14, Tryz.ntmps14
  go_wp2
  go_ret
  have h1 : ∀ a b : Nat, (Tryz.zeroCells91.setIfInBounds 0 (.map (some a))).setIfInBounds 1 (.map (some b)) = (mcells a b 0 (List.replicate 16 zeroSess)).toArray := fun a b => by kernel_rfl
  rw [h1]
  refine ⟨⟨_, _, _, rfl, ⟨Blk.newAt (by simp), by simp, ?_, ?_, by omega⟩, by omega, by omega, by omega⟩, (((Keep.refl _ w).alloc _).alloc _).alloc _⟩
  · exact (MapIs.made w Tryz.prog 9).keep (((Keep.refl (fun _ => True) _).alloc _).alloc _) trivial
  · have h2 := (MapIs.made (w.alloc (.map #[] 0)) Tryz.prog 9).keep ((Keep.refl (fun _ => True) _).alloc (.cells (mcells w.heap.size (w.heap.size + 1) 0 (List.replicate 16 zeroSess)).toArray 91)) trivial
    simpa using h2
end Go.Proofs.YtlibhkehebioeaaGreatDoor
namespace Go.Proofs.YtlibhkehebioeaaGreatDoor
set_option linter.unusedVariables false
set_option linter.unusedSimpArgs false
open Go.RowKit

def setP (k v : List UInt8) (ps : Ps) : Ps := match pfind k ps with
  | some _ => pput k v ps
  | none => if 16 ≤ ps.length then ps else pput k v ps
def setR (k v : List UInt8) (ps : Ps) : MRes := match pfind k ps with
  | some u => ⟨1, u, 1⟩
  | none => if 16 ≤ ps.length then ⟨4, [], 0⟩ else ⟨1, [], 0⟩

set_option maxRecDepth 20000 in
set_option maxHeartbeats 1000000 in
theorem set_any (m bp : Nat) (ps : Ps) (c i r o : Int) (k v d : List UInt8) (w : World) (h0 : w.cell? ⟨m, 0, none⟩ = some (.map (some bp))) (hm : MapIs Tryz.prog 9 w bp (sk ps)) (hk : k.length ≤ 8) (hps : ps.length ≤ 1048576) :
    Calls Tryz.prog 73 #[.pointer (some ⟨m, 0, none⟩), cmdV c i r o k v d] w fun e w' => e = .returned (resV (setR k v ps)) ∧ MapIs Tryz.prog 9 w' bp (sk (setP k v ps)) ∧ Keep (fun j => j ≠ bp) w w' := by
  obtain ⟨R, hR⟩ : ∃ R, R = setR k v ps := ⟨_, rfl⟩
  obtain ⟨P', hP'⟩ : ∃ P', P' = setP k v ps := ⟨_, rfl⟩
  rw [← hR, ← hP']
  have hmlt := lt_of_cell h0
  have hblt := hm.lt
  obtain ⟨G, hG⟩ : ∃ G, G = w.heap.size := ⟨_, rfl⟩
  obtain ⟨W, hW⟩ : ∃ W, W = (w.alloc (.cells #[.int .i64 c, .int .i64 i, .int .i64 r, .int .i64 o, str k, str v, str d] 30)).alloc (.cells #[.int .i64 0, str [], .int .i64 0] 33) := ⟨_, rfl⟩
  have hf : Fresh w W := hW ▸ ((Keep.refl _ w).alloc _).alloc _
  have hbx : Blk W G 30 #[.int .i64 c, .int .i64 i, .int .i64 r, .int .i64 o, str k, str v, str d] := by rw [hW, hG]; exact (Blk.new _ _ _).alloc _
  have hbr : Blk W (G + 1) 33 #[.int .i64 0, str [], .int .i64 0] := by rw [hW]; exact Blk.newAt (by simp [hG])
  have hmW := hm.keep hf trivial
  have HL := Lib.hid (fun q => look_str hmW (l := k) (by omega) q)
  have x0 := hf.cellAt h0 trivial
  have k4 := hbx.cell 4
  have k5 := hbx.cell 5
  simp at k4 k5
  have HA := Lib.hid (And.intro hmW (And.intro hf (And.intro hbr (And.intro hbx (And.intro hG (And.intro hmlt hblt))))))
  clear hmW hf hbr hbx hmlt hblt hm h0
  go_enter Tryz.func73, Tryz.ntmps73
  go_wp2_with fail
  simp only [← hG]
  rw [← hW]
  clear hW hG
  have hlk := HL.out
  go_quiet (fail)
  obtain ⟨W2, hW2⟩ : ∃ W2, W2 = W.drewN nq := ⟨_, rfl⟩
  rw [← hW2]
  obtain ⟨hmW, hf, hbr, hbx, hG, hmlt, hblt⟩ := HA.out
  have hf2 : Fresh w W2 := hW2 ▸ hf.drewN nq
  have y0 : W2.cell? ⟨m, 0, none⟩ = some (.map (some bp)) := by rw [hW2]; exact x0
  have y4 : W2.cell? ⟨G, 4, none⟩ = some (str k) := by rw [hW2]; exact k4
  have y5 : W2.cell? ⟨G, 5, none⟩ = some (str v) := by rw [hW2]; exact k5
  have HB := Lib.hid (And.intro (show MapIs Tryz.prog 9 W2 bp (sk ps) by rw [hW2]; exact hmW.keep (Keep.drewN (Keep.refl (fun _ => True) W) nq) trivial) (And.intro hf2 (And.intro (show Blk W2 (G + 1) 33 #[.int .i64 0, str [], .int .i64 0] by rw [hW2]; exact hbr.drewN nq) (And.intro (show Blk W2 G 30 _ by rw [hW2]; exact hbx.drewN nq) (And.intro (show bp < G by omega) hG)))))
  clear hmW hf hbr hbx hG hmlt hblt hf2 hW2 x0 k4 k5 HL hlk HA
  cases hpf : pfind k ps with
  | some u =>
    have HE : Hid (R = ⟨1, u, 1⟩ ∧ P' = pput k v ps) := ⟨by simp [hR, setR, hpf], by simp [hP', setP, hpf]⟩
    clear hpf hR hP'
    have HD := Lib.hid (done_any u 1)
    go_wp2_with fail
    refine wp_region_still_tail 8 (by kernel_rfl) (by kernel_rfl) ?_
    simp only [List.take_succ_cons, List.take_zero, List.drop_succ_cons, List.drop_zero]
    repeat still_step
    refine wpStill_nil ?_
    change wpList _ _ _ _ _ W2.drew
    refine wpList_mstore rfl (.tmp 22) (.tmp 24) (.tmp 26) rfl Tryz.underlying9 Tryz.underlying87 rfl (HB.out.1.keep ((Keep.refl (fun _ => True) W2).drew) trivial) (by rw [sk_len]; simp only [maxLen]; omega) (l := k) (by simp only [maxLen]; omega) rfl (str v) rfl ?_
    intro W3 hm3 hk3
    rw [sk_put] at hm3
    obtain ⟨-, hf, hbr, hbx, hlt, hww⟩ := HB.out
    have hk23 : Keep (fun j => j ≠ bp) W2 W3 := (Keep.refl _ W2).drew.trans hk3
    have hbr3 := hbr.keep hk23 (by omega)
    have H3 := Lib.hid (And.intro hm3 (And.intro (hf.comp hk23 (fun _ _ _ => trivial) (fun _ _ h => h)) (And.intro hbr3 (And.intro hlt hww))))
    clear hm3 hk3 hf hbr hbx hlt hww hk23 hbr3 y0 y4 y5
    go_wp2_with fail
    refine (HD.out W3).mono ?_
    rintro e W4 ⟨rfl, f4⟩
    obtain ⟨hm3, hf3, hbr3, hlt, hww⟩ := H3.out
    have hbr4 := hbr3.keep f4 trivial
    have r0 := hbr4.cell 0
    have r1 := hbr4.cell 1
    have r2 := hbr4.cell 2
    have s0 := hbr4.frozen 0
    have s1 := hbr4.frozen 1
    have s2 := hbr4.frozen 2
    have rl := hbr4.lt
    simp at r0 r1 r2
    have H4 := Lib.hid (And.intro (hm3.keep f4 trivial) (And.intro (hf3.comp f4 (fun _ _ h => h) (fun _ _ _ => trivial)) (And.intro hbr4 (And.intro hlt hww))))
    clear hm3 hf3 hbr3 hlt hbr4 f4 HD H3 hww
    go_wp2_with fail
    obtain ⟨hm4, hf4, hbr4, hlt, hww⟩ := H4.out
    rw [HE.out.1]
    refine bodyPost_ret (results_one rfl _ _ (G + 1) 33 #[.int .i64 1, str u, .int .i64 1] _ rfl (((hbr4.set 0 _).set 1 _).set 2 _) Tryz.underlying33 rfl (by kernel_rfl)) rfl ?_
    refine ⟨rfl, ?_, ?_⟩
    · rw [HE.out.2]
      exact ((hm4.keep ((((Keep.refl (fun j => j ≠ G + 1) _).setCell (fun _ h => h rfl) _).setCell (fun _ h => h rfl) _).setCell (fun _ h => h rfl) _) (by omega)))
    · exact ((hf4.setCell (fun h => by simp at h; omega) _).setCell (fun h => by simp at h; omega) _).setCell (fun h => by simp at h; omega) _
  | none =>
    by_cases hful : (16 : Int) ≤ (ps.length : Int)
    · have hful2 : 16 ≤ ps.length := by omega
      have HE : Hid (R = ⟨4, [], 0⟩ ∧ P' = ps) := ⟨by simp [hR, setR, hpf, hful2], by simp [hP', setP, hpf, hful2]⟩
      clear hpf hR hP'
      have HD := Lib.hid (code_any 4)
      have hskl := sk_len ps
      go_wp2_with (at_len; refine wpList_mlen rfl (.tmp 33) rfl Tryz.underlying87 rfl HB.out.1 ?_)
      go_wp2_with fail
      refine (HD.out W2).mono ?_
      rintro e W4 ⟨rfl, f4⟩
      obtain ⟨hm3, hf3, hbr3, -, hlt, hww⟩ := HB.out
      have hbr4 := hbr3.keep f4 trivial
      have r0 := hbr4.cell 0
      have r1 := hbr4.cell 1
      have r2 := hbr4.cell 2
      have s0 := hbr4.frozen 0
      have s1 := hbr4.frozen 1
      have s2 := hbr4.frozen 2
      have rl := hbr4.lt
      simp at r0 r1 r2
      have H4 := Lib.hid (And.intro (hm3.keep f4 trivial) (And.intro (hf3.trans f4) (And.intro hbr4 (And.intro hlt hww))))
      clear hm3 hf3 hbr3 hlt hbr4 f4 HD HB hww y0 y4 y5 hskl
      go_wp2_with fail
      obtain ⟨hm4, hf4, hbr4, hlt, hww⟩ := H4.out
      rw [HE.out.1]
      refine bodyPost_ret (results_one rfl _ _ (G + 1) 33 #[.int .i64 4, str [], .int .i64 0] _ rfl (((hbr4.set 0 _).set 1 _).set 2 _) Tryz.underlying33 rfl (by kernel_rfl)) rfl ?_
      refine ⟨rfl, ?_, ?_⟩
      · rw [HE.out.2]
        exact ((hm4.keep ((((Keep.refl (fun j => j ≠ G + 1) _).setCell (fun _ h => h rfl) _).setCell (fun _ h => h rfl) _).setCell (fun _ h => h rfl) _) (by omega)))
      · exact (((hf4.setCell (fun h => by simp at h; omega) _).setCell (fun h => by simp at h; omega) _).setCell (fun h => by simp at h; omega) _).weaken (fun _ _ _ => trivial)
    · have hful2 : ¬ 16 ≤ ps.length := by omega
      have HE : Hid (R = ⟨1, [], 0⟩ ∧ P' = pput k v ps) := ⟨by simp [hR, setR, hpf, hful2], by simp [hP', setP, hpf, hful2]⟩
      clear hpf hR hP'
      have HD := Lib.hid (done_any [] 0)
      have hskl := sk_len ps
      go_wp2_with (at_len; refine wpList_mlen rfl (.tmp 33) rfl Tryz.underlying87 rfl HB.out.1 ?_)
      refine wp_region_still_tail 8 (by kernel_rfl) (by kernel_rfl) ?_
      simp only [List.take_succ_cons, List.take_zero, List.drop_succ_cons, List.drop_zero]
      repeat still_step
      refine wpStill_nil ?_
      change wpList _ _ _ _ _ W2.drew
      refine wpList_mstore rfl (.tmp 40) (.tmp 42) (.tmp 44) rfl Tryz.underlying9 Tryz.underlying87 rfl (HB.out.1.keep ((Keep.refl (fun _ => True) W2).drew) trivial) (by rw [sk_len]; simp only [maxLen]; omega) (l := k) (by simp only [maxLen]; omega) rfl (str v) rfl ?_
      intro W3 hm3 hk3
      rw [sk_put] at hm3
      obtain ⟨-, hf, hbr, hbx, hlt, hww⟩ := HB.out
      have hk23 : Keep (fun j => j ≠ bp) W2 W3 := (Keep.refl _ W2).drew.trans hk3
      have hbr3 := hbr.keep hk23 (by omega)
      have H3 := Lib.hid (And.intro hm3 (And.intro (hf.comp hk23 (fun _ _ _ => trivial) (fun _ _ h => h)) (And.intro hbr3 (And.intro hlt hww))))
      clear hm3 hk3 hf hbr hbx hlt hww hk23 hbr3 y0 y4 y5
      go_wp2_with fail
      refine (HD.out W3).mono ?_
      rintro e W4 ⟨rfl, f4⟩
      obtain ⟨hm3, hf3, hbr3, hlt, hww⟩ := H3.out
      have hbr4 := hbr3.keep f4 trivial
      have r0 := hbr4.cell 0
      have r1 := hbr4.cell 1
      have r2 := hbr4.cell 2
      have s0 := hbr4.frozen 0
      have s1 := hbr4.frozen 1
      have s2 := hbr4.frozen 2
      have rl := hbr4.lt
      simp at r0 r1 r2
      have H4 := Lib.hid (And.intro (hm3.keep f4 trivial) (And.intro (hf3.comp f4 (fun _ _ h => h) (fun _ _ _ => trivial)) (And.intro hbr4 (And.intro hlt hww))))
      clear hm3 hf3 hbr3 hlt hbr4 f4 HD H3 hww
      go_wp2_with fail
      obtain ⟨hm4, hf4, hbr4, hlt, hww⟩ := H4.out
      rw [HE.out.1]
      refine bodyPost_ret (results_one rfl _ _ (G + 1) 33 #[.int .i64 1, str [], .int .i64 0] _ rfl (((hbr4.set 0 _).set 1 _).set 2 _) Tryz.underlying33 rfl (by kernel_rfl)) rfl ?_
      refine ⟨rfl, ?_, ?_⟩
      · rw [HE.out.2]
        exact ((hm4.keep ((((Keep.refl (fun j => j ≠ G + 1) _).setCell (fun _ h => h rfl) _).setCell (fun _ h => h rfl) _).setCell (fun _ h => h rfl) _) (by omega)))
      · exact ((hf4.setCell (fun h => by simp at h; omega) _).setCell (fun h => by simp at h; omega) _).setCell (fun h => by simp at h; omega) _
end Go.Proofs.YtlibhkehebioeaaGreatDoor
