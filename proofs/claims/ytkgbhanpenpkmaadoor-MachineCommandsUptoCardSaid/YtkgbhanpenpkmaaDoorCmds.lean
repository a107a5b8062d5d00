/-
  WALK OF quoratelaw13's 'MachineCommands'.
-/
import Derived.Test.YtkgbhanpenpkmaaDoorBack
import Derived.Test.YtkgbhanpenpkmaaDoorREncode
import Derived.Test.YtkgbhanpenpkmaaDoorRDecode
import Derived.Test.YtkgbhanpenpkmaaDoorLoose
import Derived.Test.YtkgbhanpenpkmaaDoorBook3
import Derived.Test.YtkgbhanpenpkmaaDoorBook4
import Derived.Test.YtkgbhanpenpkmaaDoorBook5
namespace Go.Proofs.YtkgbhanpenpkmaaDoor
set_option linter.unusedVariables false
set_option linter.unusedSimpArgs false
open Go.RowKit

theorem rcheck_reg (c i r o : Int) (k v d : List UInt8) (w : World) (q : Nat) (os : Array Obj) (b : Bool) (hb : b = validB c i r o k v d) : Calls Tryd.prog 8 #[cmdV c i r o k v d] (Go.Sort.grow (redrawn w q) os) fun e w'' => e = .returned (.int .i64 (if b = true then 0 else 130)) ∧ ∃ p : Regrown, w'' = Go.Sort.grow (redrawn w p.d) p.os := by
  subst hb
  exact Calls.regrown_of ((rcheck_any c i r o k v d _).mono fun _ _ ⟨he, hf⟩ => ⟨he, hf.below⟩)
/-- What an encoding hands back, valid or not. -/
def encX (ok : Bool) (bs : List UInt8) : List UInt8 := if ok = true then bs else []
theorem EncPost.both {w w' : World} {ok : Bool} {bs : List UInt8} {e : Ending} (h : EncPost w ok bs e w') : ∃ u, e = .returned (.tuple #[u, .int .i64 (if ok = true then 0 else 130)]) ∧ w'.ownsRow w.heap.size 5 1 u (encX ok bs).length (Lib.byteCells (encX ok bs)) ∧ Fresh w w' := by
  cases ok with
  | false =>
    refine ⟨.slice none 0 0, ?_, World.ownsRow_nil _ _ _ _, h.1⟩
    rw [h.2.1 rfl]; rfl
  | true =>
    obtain ⟨u, he, ho⟩ := h.2.2 rfl
    exact ⟨u, by rw [he]; rfl, ho, h.1⟩
theorem encX_len {c i r o : Int} {k v d : List UInt8} : (encX (validB c i r o k v d) (encodeB c i r o k v d)).length ≤ 47 := by
  cases h : validB c i r o k v d with
  | false => simp [encX]
  | true => exact (encodeB_len h).2
/-- What a decoding hands back. -/
theorem dec_form (bs : List UInt8) : ∃ (c i r o : Int) (k v d : List UInt8) (code : Int), ∀ w e w', DecPost bs w e w' → e = .returned (.tuple #[cmdV c i r o k v d, .int .i64 code]) ∧ Fresh w w' := by
  cases hd : decOk bs with
  | false => exact ⟨0, 0, 0, 0, [], [], [], 130, fun w e w' h => ⟨by rw [h.1, hd]; rfl, h.2⟩⟩
  | true => exact ⟨_, _, _, _, _, _, _, 0, fun w e w' h => ⟨by rw [h.1, hd]; rfl, h.2⟩⟩
theorem other_ok : validB 1 2 3 2 [111, 116, 104, 101, 114] [] [] = true := by decide
theorem own_in {w : World} {b n lo hi : Nat} {u : Value} {xs : List Value} (h : w.ownsRow b 5 1 u n xs) (h1 : lo ≤ b) (h2 : w.heap.size ≤ hi) : ∀ k, u.ownBlock = some k → lo ≤ k ∧ k < hi := fun k e => by
  have := own_lt h e
  omega

theorem Tabs.keepOld {Z : Nat → Prop} {w0 w w' : World} (h0 : Tabs w0) (h : Tabs w) (hk : Keep Z w w') (hz : ∀ k, k < w0.heap.size → Z k) : Tabs w' :=
  ⟨var_keep gPow h.pow hk (hz _ (var_lt gPow h0.pow)), var_keep gShp h.shp hk (hz _ (var_lt gShp h0.shp)), by
    obtain ⟨tp, p, hs⟩ := h.syn
    obtain ⟨tp0, p0, hs0⟩ := h0.syn
    exact ⟨tp, p, var_keep gSyn hs hk (hz _ (var_lt gSyn hs0))⟩⟩
theorem BookOk.new {w : World} {b K : Nat} (h : Blk w K 43 #[.slice none 0 0, .slice none 0 0, .int .i64 0]) : BookOk w b K (fun k => k = K) := by
  refine ⟨.slice none 0 0, 0, [], ⟨h, World.ownsRow_nil _ _ _ _, ?_, List.Pairwise.nil, ?_, ?_, ?_, rfl, ?_, ?_⟩, ?_⟩
  · intro p hp; cases hp
  · show 0 ≤ 96; omega
  · omega
  · show (0 : Int) ≤ ((0 : Nat) : Int); omega
  · intro k e; simp [Value.ownBlock] at e
  · intro p hp; cases hp
  · intro p hp; cases hp
/-- What stays while the book is worked on: what was there ahead of the call, the box, the document's text, the loose copy, the two commands. -/
structure CF (w0 : World) (B h4 h5 lg lc n P1 P2 : Nat) (A : Option Addr) (bs ls : List UInt8) (box D1 D2 : Array Value) (uw : Value) (X : List UInt8) (wr : World) : Prop where
  tabs : Tabs wr
  rb : Rd wr (fun k => k < B) 1 A n (Lib.byteCells bs)
  box : Blk wr B 23 box
  ow : wr.ownsRow h4 5 1 uw X.length (Lib.byteCells X)
  ol : wr.ownsRow h5 5 1 (.slice (some ⟨lg, 0, none⟩) (n + 64) lc) (n + 64) (Lib.byteCells (ls ++ pats 7000000 64))
  p1 : Blk wr P1 23 D1
  p2 : Blk wr P2 23 D2
  kp : Keep (fun k => k < B) w0 wr
/-- The numbers of its blocks. -/
structure CN (w0 : World) (B h1 h4 h5 lg P1 P2 K : Nat) (uw : Value) : Prop where
  t0 : Tabs w0
  b0 : B = w0.heap.size
  b1 : B < h1
  h14 : h1 ≤ h4
  h45 : h4 ≤ h5
  l5 : h5 ≤ lg
  l6 : lg < P1
  p12 : P1 < P2
  p2K : P2 < K
  iw : ∀ k, uw.ownBlock = some k → h4 ≤ k ∧ k < h5
section
variable {w0 wr w' : World} {B h1 h4 h5 lg lc n P1 P2 K : Nat} {A : Option Addr} {bs ls : List UInt8} {box D1 D2 : Array Value} {uw : Value} {X : List UInt8} {Z : Nat → Prop}
theorem CF.keep (h : CF w0 B h4 h5 lg lc n P1 P2 A bs ls box D1 D2 uw X wr) (c : CN w0 B h1 h4 h5 lg P1 P2 K uw) (hk : Keep Z wr w') (hz : ∀ k, k < h1 ∨ (h4 ≤ k ∧ k < K) → Z k) : CF w0 B h4 h5 lg lc n P1 P2 A bs ls box D1 D2 uw X w' := by
  have := c.b1; have := c.h14; have := c.h45; have := c.l5; have := c.l6; have := c.p12; have := c.p2K; have := c.b0
  exact ⟨c.t0.keepOld h.tabs hk (fun k hk => hz k (.inl (by omega))), h.rb.keep (hk.weaken (fun k _ hk => hz k (.inl (by omega)))), h.box.keep hk (hz _ (.inl (by omega))),
    own_keep h.ow hk (fun k e => hz k (.inr (by have := c.iw k e; omega))), own_keep h.ol hk (fun k e => hz k (.inr (by simp [Value.ownBlock] at e; omega))), h.p1.keep hk (hz _ (.inr (by omega))), h.p2.keep hk (hz _ (.inr (by omega))),
    h.kp.comp hk (fun _ _ h => h) (fun k _ hk => hz k (.inl (by omega)))⟩
theorem CF.fresh (h : CF w0 B h4 h5 lg lc n P1 P2 A bs ls box D1 D2 uw X wr) (c : CN w0 B h1 h4 h5 lg P1 P2 K uw) (hk : Fresh wr w') : CF w0 B h4 h5 lg lc n P1 P2 A bs ls box D1 D2 uw X w' := h.keep c hk (fun _ _ => trivial)
theorem CF.loose (h : CF w0 B h4 h5 lg lc n P1 P2 A bs ls box D1 D2 uw X wr) (c : CN w0 B h1 h4 h5 lg P1 P2 K uw) {k : Nat} (hl : ls.length = n) (hk : k < n) (ch : UInt8) :
    CF w0 B h4 h5 lg lc n P1 P2 A bs (ls.set k ch) box D1 D2 uw X (wr.setCell ⟨lg, k, none⟩ (.int .u8 (ch.toNat : Int))) := by
  have := c.b1; have := c.h14; have := c.h45; have := c.l5; have := c.l6; have := c.p12; have := c.p2K; have := c.b0
  have hkk : Keep (fun i => i ≠ lg) wr (wr.setCell ⟨lg, k, none⟩ (.int .u8 (ch.toNat : Int))) := (Keep.refl _ wr).setCell (fun _ h => h rfl) _
  refine ⟨c.t0.keepOld h.tabs hkk (fun k hk => by omega), h.rb.keep (hkk.weaken (fun k _ hk => by omega)), h.box.keep hkk (by omega), own_keep h.ow hkk (fun k e => by have := c.iw k e; omega), ?_, h.p1.keep hkk (by omega), h.p2.keep hkk (by omega), h.kp.comp hkk (fun _ _ h => h) (fun k _ hk => by omega)⟩
  have h1 := own_set h.ol (g := lg) rfl (i := k) (by omega) (.int .u8 (ch.toNat : Int))
  rw [byteCells_set, List.set_append_left _ _ (by omega)] at h1
  exact h1
theorem CF.set1 {D : Array Value} (h : CF w0 B h4 h5 lg lc n P1 P2 A bs ls box D1 D2 uw X wr) (c : CN w0 B h1 h4 h5 lg P1 P2 K uw) (hkk : Keep (fun i => i ≠ P1) wr w') (hb : Blk w' P1 23 D) : CF w0 B h4 h5 lg lc n P1 P2 A bs ls box D D2 uw X w' := by
  have := c.b1; have := c.h14; have := c.h45; have := c.l5; have := c.l6; have := c.p12; have := c.p2K; have := c.b0
  exact ⟨c.t0.keepOld h.tabs hkk (fun k hk => by omega), h.rb.keep (hkk.weaken (fun k _ hk => by omega)), h.box.keep hkk (by omega), own_keep h.ow hkk (fun k e => by have := c.iw k e; omega), own_keep h.ol hkk (fun k e => by simp [Value.ownBlock] at e; omega), hb, h.p2.keep hkk (by omega), h.kp.comp hkk (fun _ _ h => h) (fun k _ hk => by omega)⟩
theorem CF.set2 {D : Array Value} (h : CF w0 B h4 h5 lg lc n P1 P2 A bs ls box D1 D2 uw X wr) (c : CN w0 B h1 h4 h5 lg P1 P2 K uw) (hkk : Keep (fun i => i ≠ P2) wr w') (hb : Blk w' P2 23 D) : CF w0 B h4 h5 lg lc n P1 P2 A bs ls box D1 D uw X w' := by
  have := c.b1; have := c.h14; have := c.h45; have := c.l5; have := c.l6; have := c.p12; have := c.p2K; have := c.b0
  exact ⟨c.t0.keepOld h.tabs hkk (fun k hk => by omega), h.rb.keep (hkk.weaken (fun k _ hk => by omega)), h.box.keep hkk (by omega), own_keep h.ow hkk (fun k e => by have := c.iw k e; omega), own_keep h.ol hkk (fun k e => by simp [Value.ownBlock] at e; omega), h.p1.keep hkk (by omega), hb, h.kp.comp hkk (fun _ _ h => h) (fun k _ hk => by omega)⟩
/-- Seven cells are written. -/
theorem keep7 (w : World) (P : Nat) (a b c d e f g : Value) : Keep (fun i => i ≠ P) w (((((((w.setCell ⟨P, 0, none⟩ a).setCell ⟨P, 1, none⟩ b).setCell ⟨P, 2, none⟩ c).setCell ⟨P, 3, none⟩ d).setCell ⟨P, 4, none⟩ e).setCell ⟨P, 5, none⟩ f).setCell ⟨P, 6, none⟩ g) :=
  (((((((Keep.refl _ w).setCell (fun _ h => h rfl) _).setCell (fun _ h => h rfl) _).setCell (fun _ h => h rfl) _).setCell (fun _ h => h rfl) _).setCell (fun _ h => h rfl) _).setCell (fun _ h => h rfl) _).setCell (fun _ h => h rfl) _
theorem blk7 {w : World} {P : Nat} {t : TypeId} {a0 b0 c0 d0 e0 f0 g0 : Value} (h : Blk w P t #[a0, b0, c0, d0, e0, f0, g0]) (a b c d e f g : Value) :
    Blk (((((((w.setCell ⟨P, 0, none⟩ a).setCell ⟨P, 1, none⟩ b).setCell ⟨P, 2, none⟩ c).setCell ⟨P, 3, none⟩ d).setCell ⟨P, 4, none⟩ e).setCell ⟨P, 5, none⟩ f).setCell ⟨P, 6, none⟩ g) P t #[a, b, c, d, e, f, g] := by
  have h1 := ((((((h.set 0 a).set 1 b).set 2 c).set 3 d).set 4 e).set 5 f).set 6 g
  simpa using h1
end

set_option maxRecDepth 20000 in
set_option maxHeartbeats 8000000 in
theorem cmds_any (c i r o : Int) (k v d : List UInt8) (Z : Nat → Prop) (A : Option Addr) (n cp : Nat) (bs : List UInt8) (w : World) (hT : Tabs w) (hb : Rd w Z 1 A n (Lib.byteCells bs)) (hnc : n ≤ cp) (hn : n ≤ 1048576) (hnil : n = 0 → cp = 0 ∨ A ≠ none) :
    Calls Tryd.prog 3 #[cmdV c i r o k v d, .slice A n cp] w fun e w' => e = .returned (.bool true) ∧ Keep (fun i => i < w.heap.size) w w' := by
  have hlen : bs.length = n := by simpa [Lib.byteCells] using hb.1
  replace hb := hb.old (by decide)
  obtain ⟨B, hB⟩ : ∃ B, B = w.heap.size := ⟨_, rfl⟩
  rw [← hB] at hb ⊢
  have HA := Lib.hid (And.intro hT (And.intro hb (And.intro hnc (And.intro hnil (And.intro hlen hB)))))
  obtain ⟨ok, hok⟩ : ∃ ok, ok = validB c i r o k v d := ⟨_, rfl⟩
  have HO := Lib.hid hok
  obtain ⟨W, hW⟩ : ∃ W, W = w.alloc (.cells #[.int .i64 c, .int .i64 i, .int .i64 r, .int .i64 o, str k, str v, str d] 23) := ⟨_, rfl⟩
  have hbox : Blk W B 23 #[.int .i64 c, .int .i64 i, .int .i64 r, .int .i64 o, str k, str v, str d] := by rw [hW, hB]; exact Blk.new _ _ _
  have hfW : Fresh w W := hW ▸ (Keep.refl _ w).alloc _
  have HX := Lib.hid (And.intro hbox hfW)
  have CC := Lib.hid (fun q os => check_reg c i r o k v d W (hT.fresh hfW) q os _ hok)
  have CR := Lib.hid (fun q os => rcheck_reg c i r o k v d W q os _ hok)
  have CN := Lib.hid (num_reg W)
  obtain ⟨cd, hcd⟩ : ∃ cd : Int, cd = (if ok = true then 0 else 130) := ⟨_, rfl⟩
  rw [← hcd] at CC CR
  obtain ⟨X, hX⟩ : ∃ X, X = encX ok (encodeB c i r o k v d) := ⟨_, rfl⟩
  have hX47 : X.length ≤ 47 := by rw [hX, hok]; exact encX_len
  obtain ⟨Y, hY⟩ : ∃ Y, Y = encodeB 1 2 3 2 [111, 116, 104, 101, 114] [] [] := ⟨_, rfl⟩
  have hY47 : Y.length ≤ 47 := by rw [hY]; exact (encodeB_len other_ok).2
  have HENC : Hid (∀ wj, Tabs wj → Calls Tryd.prog 9 #[cmdV c i r o k v d] wj fun e w' => ∃ u, e = .returned (.tuple #[u, .int .i64 cd]) ∧ w'.ownsRow wj.heap.size 5 1 u X.length (Lib.byteCells X) ∧ Fresh wj w') := by
    intro wj hj
    rw [hcd, hX, hok]
    exact (encode_any c i r o k v d wj hj).mono fun _ _ h => h.both
  have HREN : Hid (∀ wj, Calls Tryd.prog 10 #[cmdV c i r o k v d] wj fun e w' => ∃ u, e = .returned (.tuple #[u, .int .i64 cd]) ∧ w'.ownsRow wj.heap.size 5 1 u X.length (Lib.byteCells X) ∧ Fresh wj w') := by
    intro wj
    rw [hcd, hX, hok]
    exact (rencode_any c i r o k v d wj).mono fun _ _ h => h.both
  have HOTH : Hid (∀ wj, Tabs wj → Calls Tryd.prog 9 #[cmdV 1 2 3 2 [111, 116, 104, 101, 114] [] []] wj fun e w' => ∃ u, e = .returned (.tuple #[u, .int .i64 0]) ∧ w'.ownsRow wj.heap.size 5 1 u Y.length (Lib.byteCells Y) ∧ Fresh wj w') := by
    intro wj hj
    have h := encode_any 1 2 3 2 [111, 116, 104, 101, 114] [] [] wj hj
    rw [other_ok, ← hY] at h
    exact h.mono fun _ _ h => by
      obtain ⟨u, he, ho⟩ := h.2.2 rfl
      exact ⟨u, he, ho, h.1⟩
  clear hT hb hnc hnil hlen hok hfW hcd hX hY HO
  have x0 := hbox.cell 0
  have x1 := hbox.cell 1
  have x2 := hbox.cell 2
  have x3 := hbox.cell 3
  have x4 := hbox.cell 4
  have x5 := hbox.cell 5
  have x6 := hbox.cell 6
  simp at x0 x1 x2 x3 x4 x5 x6
  clear hbox
  have k0 := cell_regrown x0
  have k1 := cell_regrown x1
  have k2 := cell_regrown x2
  have k3 := cell_regrown x3
  have k4 := cell_regrown x4
  have k5 := cell_regrown x5
  have k6 := cell_regrown x6
  clear x0 x1 x2 x3 x4 x5 x6
  go_enter Tryd.func3, Tryd.ntmps3
  go_wp2_with fail
  rw [← hW]
  simp only [← hB]
  clear hW hB
  refine wp_region_quiet_below (by kernel_rfl) (by kernel_rfl) ?_
  repeat (quiet_step (first | exact CN.out _ _ _ | exact CC.out _ _ | exact CR.out _ _))
  refine wpQuiet_nil ?_
  intro _ hw'
  obtain ⟨⟨dq, osq⟩, hw''⟩ := hw'
  subst hw''
  obtain ⟨wq, hwq⟩ : ∃ wq, wq = Go.Sort.grow (redrawn W dq) osq := ⟨_, rfl⟩
  have hfq : Fresh w wq := hwq ▸ HX.out.2.trans (Fresh.regrown W dq osq)
  have hbq : Blk wq B _ _ := HX.out.1.keep (hwq ▸ Fresh.regrown W dq osq) trivial
  have c0 := hbq.cell 0
  have c1 := hbq.cell 1
  have c2 := hbq.cell 2
  have c3 := hbq.cell 3
  have c4 := hbq.cell 4
  have c5 := hbq.cell 5
  have c6 := hbq.cell 6
  have hlt := hbq.lt
  simp at c0 c1 c2 c3 c4 c5 c6
  rw [← hwq]
  have HE1 := Lib.hid (HENC.out wq (HA.out.1.fresh hfq))
  have HQ := Lib.hid (And.intro hfq hbq)
  clear hfq hbq hwq k0 k1 k2 k3 k4 k5 k6 CC CR CN HX
  go_wp2_with fail
  refine HE1.out.mono ?_
  rintro e w1 ⟨ux, rfl, ox, f1⟩
  have hf1 := HQ.out.1.trans f1
  have HOT := Lib.hid (HOTH.out w1 (HA.out.1.fresh hf1))
  have H1 := Lib.hid (And.intro ox (And.intro f1 hf1))
  clear ox f1 hf1 HE1 c0 c1 c2 c3 c4 c5 c6 hlt
  go_wp2_with fail
  refine HOT.out.mono ?_
  rintro e w2 ⟨uo, rfl, oo, f2⟩
  have hf2 := H1.out.2.2.trans f2
  have hb2 := HQ.out.2.keep (H1.out.2.1.trans f2) trivial
  have c0 := hb2.cell 0
  have c1 := hb2.cell 1
  have c2 := hb2.cell 2
  have c3 := hb2.cell 3
  have c4 := hb2.cell 4
  have c5 := hb2.cell 5
  have c6 := hb2.cell 6
  have hlt := hb2.lt
  simp at c0 c1 c2 c3 c4 c5 c6
  have HE2 := Lib.hid (HENC.out w2 (HA.out.1.fresh hf2))
  have H2 := Lib.hid (And.intro oo (And.intro f2 (And.intro hf2 hb2)))
  clear oo f2 hf2 hb2 HOT HOTH
  go_wp2_with fail
  refine HE2.out.mono ?_
  rintro e w3 ⟨uy, rfl, oy, f3⟩
  have hf3 := H2.out.2.2.1.trans f3
  have hb3 := H2.out.2.2.2.keep f3 trivial
  clear c0 c1 c2 c3 c4 c5 c6 hlt
  have c0 := hb3.cell 0
  have c1 := hb3.cell 1
  have c2 := hb3.cell 2
  have c3 := hb3.cell 3
  have c4 := hb3.cell 4
  have c5 := hb3.cell 5
  have c6 := hb3.cell 6
  have hlt := hb3.lt
  simp at c0 c1 c2 c3 c4 c5 c6
  have HE3 := Lib.hid (HREN.out w3)
  have H3 := Lib.hid (And.intro oy (And.intro f3 (And.intro hf3 hb3)))
  clear oy f3 hf3 hb3 HE2 HREN
  go_wp2_with fail
  refine HE3.out.mono ?_
  rintro e w4 ⟨uw, rfl, ow, f4⟩
  have hf4 := H3.out.2.2.1.trans f4
  have hb4 := H3.out.2.2.2.keep f4 trivial
  have ox4 := own_keep H1.out.1 ((H2.out.2.1.trans H3.out.2.1).trans f4) (fun _ _ => trivial)
  have oo4 := own_keep H2.out.1 (H3.out.2.1.trans f4) (fun _ _ => trivial)
  have oy4 := own_keep H3.out.1 f4 (fun _ _ => trivial)
  obtain ⟨Ax, px, rfl, rx, -, -⟩ := own_open ox4
  obtain ⟨Ay, py, rfl, ry, -, -⟩ := own_open oy4
  obtain ⟨Aw, pw, rfl, rw4, -, -⟩ := own_open ow
  obtain ⟨Ao, po, rfl, -, -, -⟩ := own_open oo4
  have HS1 := same_any _ _ Ax Aw X.length px X.length pw X X w4 rx rw4 (by omega) (by omega)
  have HS2 := fun d => same_any _ _ Ay Aw X.length py X.length pw X X (w4.drewN d) (ry.drewN d) (rw4.drewN d) (by omega) (by omega)
  rw [decide_eq_true rfl] at HS1
  simp only [decide_eq_true_eq, decide_true] at HS2
  replace HS1 := Lib.hid HS1
  replace HS2 := Lib.hid HS2
  have HN := Lib.hid num_any
  have i1 := own_in H1.out.1 (Nat.le_refl _) (Nat.le_refl _)
  have i2 := own_in H2.out.1 (Nat.le_refl _) (Nat.le_refl _)
  have i3 := own_in H3.out.1 (Nat.le_refl _) (Nat.le_refl _)
  have i4 := own_in ow (Nat.le_refl _) (Nat.le_refl _)
  have sB : B < wq.heap.size := HQ.out.2.lt
  have s1 := H1.out.2.1.size
  have s2 := H2.out.2.1.size
  have s3 := H3.out.2.1.size
  have s4 := f4.size
  obtain ⟨h1, eh1⟩ : ∃ h, h = wq.heap.size := ⟨_, rfl⟩
  obtain ⟨h2, eh2⟩ : ∃ h, h = w1.heap.size := ⟨_, rfl⟩
  obtain ⟨h3, eh3⟩ : ∃ h, h = w2.heap.size := ⟨_, rfl⟩
  obtain ⟨h4, eh4⟩ : ∃ h, h = w3.heap.size := ⟨_, rfl⟩
  rw [← eh1] at i1 s1 sB ox4
  rw [← eh2] at i1 i2 s1 s2 oo4
  rw [← eh3] at i2 i3 s2 s3 oy4
  rw [← eh4] at i3 i4 s3 s4 ow
  have HI := Lib.hid (And.intro i1 (And.intro i2 (And.intro i3 (And.intro i4 (And.intro sB (And.intro s1 (And.intro s2 s3)))))))
  have H4 := Lib.hid (And.intro ox4 (And.intro oo4 (And.intro oy4 (And.intro ow (And.intro hf4 (And.intro hb4 s4))))))
  clear i1 i2 i3 i4 sB s1 s2 s3 s4 eh1 eh2 eh3 eh4 ox4 oo4 oy4 ow hf4 hb4 rx ry rw4 c0 c1 c2 c3 c4 c5 c6 hlt HE3 HQ H1 H2 H3 f4
  go_wp2_with fail
  refine (HN.out _ _).mono ?_
  rintro e _ ⟨rfl, rfl⟩
  go_wp2_with fail
  refine (HN.out _ _).mono ?_
  rintro e _ ⟨rfl, rfl⟩
  go_wp2_with fail
  refine (HN.out _ _).mono ?_
  rintro e _ ⟨rfl, rfl⟩
  go_wp2_with fail
  refine HS1.out.mono ?_
  rintro e _ ⟨rfl, d1, rfl⟩
  go_wp2_with fail
  refine (HS2.out d1).mono ?_
  rintro e _ ⟨rfl, d2, rfl⟩
  obtain ⟨w5, hw5⟩ : ∃ w5, w5 = (w4.drewN d1).drewN d2 := ⟨_, rfl⟩
  rw [← hw5]
  have f5 : Fresh w4 w5 := hw5 ▸ ((Keep.refl _ w4).drewN d1).drewN d2
  have hs5 : w5.heap.size = w4.heap.size := by rw [hw5]; rfl
  obtain ⟨ox, oo, oy, ow, hf, hb, s4⟩ := H4.out
  rw [← hs5] at s4
  have H5 := Lib.hid (And.intro (own_keep ox f5 (fun _ _ => trivial)) (And.intro (own_keep oo f5 (fun _ _ => trivial)) (And.intro (own_keep oy f5 (fun _ _ => trivial)) (And.intro (own_keep ow f5 (fun _ _ => trivial)) (And.intro (hf.trans f5) (And.intro (hb.keep f5 trivial) (And.intro s4 (own_in (own_keep ow f5 (fun _ _ => trivial)) (Nat.le_refl _) (Nat.le_refl _)))))))))
  have HL := Lib.hid (loose_any _ A n cp bs w5 (HA.out.2.1.keep ((hf.trans f5).weaken (fun _ _ _ => trivial))) (by omega) HA.out.2.2.2.1)
  clear hw5 f5 hs5 ox oo oy ow hf hb s4 HS1 HS2 H4
  go_wp2_with fail
  refine HL.out.mono ?_
  rintro e w6 ⟨⟨ul, rfl, ol⟩, f6⟩
  obtain ⟨lg, lc, rfl, hlg1, hlg2, hlc⟩ := own_nonnil ol (by omega)
  obtain ⟨dc, di, dr, dop, dk, dv, dd, dcode, hform⟩ := dec_form bs
  obtain ⟨ox, oo, oy, ow, hf, hb, s4, i4⟩ := H5.out
  obtain ⟨h5, eh5⟩ : ∃ h, h = w5.heap.size := ⟨_, rfl⟩
  rw [← eh5] at s4 i4 ol hlg1
  have hf6 := hf.trans f6
  have oc := own_cut (n := n) (m := 64) (xs := Lib.byteCells bs) (ys := Lib.byteCells (pats 7000000 64)) (by rw [← Lib.byteCells_append]; exact ol) (by simp [Lib.byteCells, HA.out.2.2.2.2.1])
  have HD1 := (decode_any _ (some ⟨lg, 0, none⟩) n lc bs w6 (HA.out.1.fresh hf6) (Blk.rdOwn oc) (by omega) (by omega)).mono (fun e w' h => hform w6 e w' h)
  replace HD1 := Lib.hid HD1
  have HFORM := Lib.hid hform
  have H6 := Lib.hid (And.intro (own_keep ox f6 (fun _ _ => trivial)) (And.intro (own_keep oo f6 (fun _ _ => trivial)) (And.intro (own_keep oy f6 (fun _ _ => trivial)) (And.intro (own_keep ow f6 (fun _ _ => trivial)) (And.intro hf6 (And.intro (hb.keep f6 trivial) (And.intro ol (And.intro s4 (And.intro i4 (And.intro hlg1 hlg2))))))))))
  clear ox oo oy ow hf hb s4 i4 hf6 oc hform ol f6 eh5 hlg1 hlg2 HL H5
  go_wp2_with fail
  refine HD1.out.mono ?_
  rintro e w7 ⟨rfl, f7⟩
  obtain ⟨P1, eP1⟩ : ∃ h, h = w7.heap.size := ⟨_, rfl⟩
  obtain ⟨w8, hw8⟩ : ∃ w8, w8 = w7.alloc (.cells #[.int .i64 dc, .int .i64 di, .int .i64 dr, .int .i64 dop, str dk, str dv, str dd] 23) := ⟨_, rfl⟩
  have hbP1 : Blk w8 P1 23 #[.int .i64 dc, .int .i64 di, .int .i64 dr, .int .i64 dop, str dk, str dv, str dd] := by rw [hw8]; exact Blk.newAt eP1.symm
  have f68 : Fresh w6 w8 := f7.trans (hw8 ▸ (Keep.refl _ w7).alloc _)
  have hs8 : w8.heap.size = P1 + 1 := by rw [hw8, eP1]; simp
  have s67 := f7.size
  rw [← eP1] at s67
  obtain ⟨ox, oo, oy, ow, hf, hb, ol, s4, i4, hlg1, hlg2⟩ := H6.out
  have HD2 := (rdecode_any _ A n cp bs w8 (HA.out.2.1.keep ((hf.trans f68).weaken (fun _ _ _ => trivial))) HA.out.2.2.1 HA.out.2.2.2.1 (by omega)).mono (fun e w' h => HFORM.out w8 e w' h)
  replace HD2 := Lib.hid HD2
  have H8 := Lib.hid (And.intro (own_keep ox f68 (fun _ _ => trivial)) (And.intro (own_keep oo f68 (fun _ _ => trivial)) (And.intro (own_keep oy f68 (fun _ _ => trivial)) (And.intro (own_keep ow f68 (fun _ _ => trivial)) (And.intro (hf.trans f68) (And.intro (hb.keep f68 trivial) (And.intro (own_keep ol f68 (fun _ _ => trivial)) (And.intro s4 (And.intro i4 (And.intro hlg1 (And.intro (show lg < P1 by omega) (And.intro hbP1 hs8))))))))))))
  clear ox oo oy ow hf hb ol s4 i4 hlg1 hlg2 hbP1 f68 hs8 s67 f7 HD1 H6
  go_wp2_with fail
  rw [← hw8]
  simp only [← eP1]
  clear hw8 eP1
  refine HD2.out.mono ?_
  rintro e w9 ⟨rfl, f9⟩
  obtain ⟨P2, eP2⟩ : ∃ h, h = w9.heap.size := ⟨_, rfl⟩
  obtain ⟨wA, hwA⟩ : ∃ wA, wA = (w9.alloc (.cells #[.int .i64 dc, .int .i64 di, .int .i64 dr, .int .i64 dop, str dk, str dv, str dd] 23)).alloc (.cells #[.slice none 0 0, .slice none 0 0, .int .i64 0] 43) := ⟨_, rfl⟩
  have hK1 : wA.heap.size = P2 + 2 := by rw [hwA, eP2]; simp
  have hbP2 : Blk wA P2 23 #[.int .i64 dc, .int .i64 di, .int .i64 dr, .int .i64 dop, str dk, str dv, str dd] := by rw [hwA]; exact (Blk.newAt eP2.symm).alloc _
  have hbK : Blk wA (P2 + 1) 43 #[.slice none 0 0, .slice none 0 0, .int .i64 0] := by rw [hwA]; exact Blk.newAt (by simp [eP2])
  have f8A : Fresh w8 wA := f9.trans (hwA ▸ ((Keep.refl _ w9).alloc _).alloc _)
  have s89 := f9.size
  rw [← eP2] at s89
  obtain ⟨ox, oo, oy, ow, hf, hb, ol, s4, i4, hlg1, hlg2, hbP1, hs8⟩ := H8.out
  obtain ⟨i1, i2, i3, -, sB, s12, s23, s34⟩ := HI.out
  have HCN : Hid (CN w B h1 h4 h5 lg P1 P2 (P2 + 1) (.slice Aw X.length pw)) := ⟨HA.out.1, HA.out.2.2.2.2.2, sB, by omega, s4, hlg1, hlg2, by omega, by omega, i4⟩
  have fA : Fresh w wA := hf.trans f8A
  have HCF : Hid (CF w B h4 h5 lg lc n P1 P2 A bs bs #[.int .i64 c, .int .i64 i, .int .i64 r, .int .i64 o, str k, str v, str d] #[.int .i64 dc, .int .i64 di, .int .i64 dr, .int .i64 dop, str dk, str dv, str dd] #[.int .i64 dc, .int .i64 di, .int .i64 dr, .int .i64 dop, str dk, str dv, str dd] (.slice Aw X.length pw) X wA) :=
    ⟨HA.out.1.fresh fA, HA.out.2.1.keep (fA.weaken (fun _ _ _ => trivial)), hb.keep f8A trivial, own_keep ow f8A (fun _ _ => trivial), own_keep ol f8A (fun _ _ => trivial), hbP1.keep f8A trivial, hbP2, fA.weaken (fun _ _ _ => trivial)⟩
  have oxA := own_keep ox f8A (fun _ _ => trivial)
  have ooA := own_base (own_keep oo f8A (fun _ _ => trivial)) s12
  have oyA := own_base (own_keep oy f8A (fun _ _ => trivial)) (base' := h1) (by omega)
  have hbook : BookOk wA h1 (P2 + 1) (fun k => k = P2 + 1) := BookOk.new hbK
  have HK1 := Lib.hid (bkeep_any h1 (P2 + 1) _ wA hbook (.slice Ax X.length px) X oxA (by omega) (fun k e => by have := i1 k e; omega) (by omega))
  have HR := Lib.hid (And.intro ooA (And.intro oyA (show P2 + 2 ≤ wA.heap.size by omega)))
  clear hK1 hbP2 hbK f8A s89 ox oo oy ow hf hb ol s4 i4 hlg1 hlg2 hbP1 hs8 i1 i2 i3 sB s12 s23 s34 fA oxA ooA oyA hbook f9 HD2 H8 HFORM
  go_wp2_with fail
  rw [← hwA]
  simp only [← eP2]
  clear hwA eP2
  refine HK1.out.mono ?_
  rintro e wB ⟨rfl, hbkB, kB⟩
  obtain ⟨i1, i2, i3, -, sB, s12, s23, s34⟩ := HI.out
  obtain ⟨ooA, oyA, sA⟩ := HR.out
  have n45 := HCN.out.h45
  have n5 := HCN.out.l5
  have n6 := HCN.out.l6
  have n7 := HCN.out.p12
  have hcfB := HCF.out.keep HCN.out kB (fun i hi => by omega)
  have ooB := own_keep ooA kB (fun k e => by have := i2 k e; omega)
  have oyB := own_keep oyA kB (fun k e => by have := i3 k e; omega)
  have hbB := hbkB.weaken (S' := fun k => P2 + 1 ≤ k ∨ (h1 ≤ k ∧ k < h2)) (fun k hk => by
    rcases hk with e | e | e
    · omega
    · exact .inr (i1 k e)
    · omega)
  have sBs := kB.size
  have HK2 := Lib.hid (bwrite_any h1 (P2 + 1) _ wB hbB (.slice Ay X.length py) X oyB (by omega) (fun k e => by have := i3 k e; omega) (by omega))
  have HRB := Lib.hid (And.intro ooB (show P2 + 2 ≤ wB.heap.size by omega))
  have HCFB := Lib.hid hcfB
  clear i1 i2 i3 sB s12 s23 s34 ooA oyA sA hcfB ooB oyB hbB sBs kB hbkB HK1 HCF HR n45 n5 n6 n7
  go_wp2_with fail
  refine HK2.out.mono ?_
  rintro e wC ⟨rfl, hbkC, kC⟩
  obtain ⟨i1, i2, i3, -, sB, s12, s23, s34⟩ := HI.out
  obtain ⟨ooB, sA⟩ := HRB.out
  have n45 := HCN.out.h45
  have n5 := HCN.out.l5
  have n6 := HCN.out.l6
  have n7 := HCN.out.p12
  have hcfC := HCFB.out.keep HCN.out kC (fun i hi => ⟨by omega, fun e => by have := i3 i e; omega⟩)
  have ooC := own_keep ooB kC (fun k e => ⟨by have := i2 k e; omega, fun e2 => by have := i2 k e; have := i3 k e2; omega⟩)
  have hbC := hbkC.weaken (S' := fun k => P2 + 1 ≤ k ∨ (h1 ≤ k ∧ k < h2) ∨ (h3 ≤ k ∧ k < h4)) (fun k hk => by
    rcases hk with e | e | e
    · omega
    · exact .inr (.inr (i3 k e))
    · omega)
  have sBs := kC.size
  have HK3 := Lib.hid (bkeep_any h1 (P2 + 1) _ wC hbC (.slice Ao Y.length po) Y ooC (by omega) (fun k e => by have := i2 k e; omega) (by omega))
  have HRC := Lib.hid (show P2 + 2 ≤ wC.heap.size by omega)
  have HCFC := Lib.hid hcfC
  clear i1 i2 i3 sB s12 s23 s34 sA hcfC ooB ooC hbC sBs kC hbkC HK2 HCFB HRB n45 n5 n6 n7
  go_wp2_with fail
  refine HK3.out.mono ?_
  rintro e wD ⟨rfl, hbkD, kD⟩
  obtain ⟨i1, i2, i3, -, sB, s12, s23, s34⟩ := HI.out
  have sA := HRC.out
  have n45 := HCN.out.h45
  have n5 := HCN.out.l5
  have n6 := HCN.out.l6
  have n7 := HCN.out.p12
  have hcfD := HCFC.out.keep HCN.out kD (fun i hi => by omega)
  have hbD := hbkD.weaken (S' := fun k => P2 + 1 ≤ k ∨ (h1 ≤ k ∧ k < h4)) (fun k hk => by
    rcases hk with e | e | e
    · omega
    · have := i2 k e; omega
    · omega)
  have sBs := kD.size
  have HBD := Lib.hid (And.intro hbD (show h1 ≤ wD.heap.size by omega))
  have HCFD := Lib.hid hcfD
  have a0 := hcfD.p1.cell 0
  have a1 := hcfD.p1.cell 1
  have a2 := hcfD.p1.cell 2
  have a3 := hcfD.p1.cell 3
  have a4 := hcfD.p1.cell 4
  have a5 := hcfD.p1.cell 5
  have a6 := hcfD.p1.cell 6
  have b0 := hcfD.p2.cell 0
  have b1 := hcfD.p2.cell 1
  have b2 := hcfD.p2.cell 2
  have b3 := hcfD.p2.cell 3
  have b4 := hcfD.p2.cell 4
  have b5 := hcfD.p2.cell 5
  have b6 := hcfD.p2.cell 6
  simp at a0 a1 a2 a3 a4 a5 a6 b0 b1 b2 b3 b4 b5 b6
  clear i1 i2 i3 sB s12 s23 s34 sA hcfD hbD sBs kD hbkD HK3 HCFC HRC n45 n5 n6 n7
  go_wp2_with fail
  have HUN := Lib.hid (unspoilt_any (fun k => k < B) h5 lg lc A n cp bs wD HCFD.out.ol HCFD.out.rb (by omega))
  have HSET := Lib.hid (fun m => settle_any h1 (P2 + 1) _ (wD.drewN m) (HBD.out.1.keep ((Keep.refl (fun _ => True) wD).drewN m) (fun _ _ => trivial)) HBD.out.2)
  clear a0 a1 a2 a3 a4 a5 a6 b0 b1 b2 b3 b4 b5 b6
  refine (HN.out _ _).mono ?_
  rintro e _ ⟨rfl, rfl⟩
  go_wp2_with fail
  refine HUN.out.mono ?_
  rintro e _ ⟨rfl, d3, rfl⟩
  go_wp2_with fail
  refine (HSET.out d3).mono ?_
  rintro e wE ⟨rfl, hbE, kE⟩
  have n14 := HCN.out.h14
  have n45 := HCN.out.h45
  have n5 := HCN.out.l5
  have n6 := HCN.out.l6
  have n7 := HCN.out.p12
  have hcfE := (HCFD.out.fresh HCN.out ((Keep.refl (fun _ => True) wD).drewN d3)).keep HCN.out kE (fun i hi => by omega)
  have hbE2 := hbE.weaken (S' := fun k => P2 + 1 ≤ k ∨ (h1 ≤ k ∧ k < h4)) (fun k hk => by
    rcases hk with e | e
    · exact e
    · have h8 := HCFD.out.p2.lt
      have h9 : (wD.drewN d3).heap.size = wD.heap.size := rfl
      have h10 := e.1
      rw [h9] at h10
      omega)
  have c0 := hcfE.box.cell 0
  have c1 := hcfE.box.cell 1
  have c2 := hcfE.box.cell 2
  have c3 := hcfE.box.cell 3
  have c4 := hcfE.box.cell 4
  have c5 := hcfE.box.cell 5
  have c6 := hcfE.box.cell 6
  simp at c0 c1 c2 c3 c4 c5 c6
  have hBl := hcfE.box.lt
  have HZ := Lib.hid (HENC.out wE hcfE.tabs)
  have HE5 := Lib.hid (And.intro hcfE (And.intro hbE2 (show P2 + 1 < wE.heap.size by
    have := hbE2
    obtain ⟨V, nx, ps, hb, _⟩ := this
    exact hb.blk.lt)))
  clear hcfE hbE2 hbE kE n14 n45 n5 n6 n7 HUN HSET HBD HCFD HENC
  go_wp2_with fail
  refine HZ.out.mono ?_
  rintro e wF ⟨uz, rfl, oz, fF⟩
  obtain ⟨Az, pz, rfl⟩ := own_form0 oz
  obtain ⟨hz0, ehz⟩ : ∃ h, h = wE.heap.size := ⟨_, rfl⟩
  rw [← ehz] at oz
  have HF5 := Lib.hid (And.intro (HE5.out.1.fresh HCN.out fF) (And.intro (HE5.out.2.1.keep fF (fun _ _ => trivial)) (And.intro oz (show P2 + 1 < hz0 by rw [ehz]; exact HE5.out.2.2))))
  clear oz fF ehz c0 c1 c2 c3 c4 c5 c6 hBl HZ HE5
  go_wp2
  go_loopw [21] (fun iv wr => ∃ (j : Nat) (ls : List UInt8), j ≤ n ∧ iv = .int .i64 (j : Int) ∧ Hid (ls.length = n ∧ CF w B h4 h5 lg lc n P1 P2 A bs ls #[.int .i64 c, .int .i64 i, .int .i64 r, .int .i64 o, str k, str v, str d] #[.int .i64 dc, .int .i64 di, .int .i64 dr, .int .i64 dop, str dk, str dv, str dd] #[.int .i64 dc, .int .i64 di, .int .i64 dr, .int .i64 dop, str dk, str dv, str dd] (.slice Aw X.length pw) X wr ∧ BookOk wr h1 (P2 + 1) (fun k => P2 + 1 ≤ k ∨ (h1 ≤ k ∧ k < h4)) ∧ wr.ownsRow hz0 5 1 (.slice Az X.length pz) X.length (Lib.byteCells X))) (fun iv _ => n - (intOf iv).toNat)
  case atStart => exact ⟨0, bs, Nat.zero_le _, rfl, HA.out.2.2.2.2.1, HF5.out.1, HF5.out.2.1, HF5.out.2.2.1⟩
  case round =>
    obtain ⟨j, ls, hj, rfl, HL⟩ := hrel
    by_cases hlt : j < n
    · obtain ⟨hll, hcf, hbk, hoz⟩ := HL.out
      obtain ⟨x, hx⟩ : ∃ x : Int, x = (ls[j].toNat : Int) := ⟨_, rfl⟩
      have y0 := own_byte (z := x) (k := j) hcf.ol (by rw [List.length_append]; omega) (by rw [hx, List.getElem_append_left (by omega)])
      have yf := own_frozen hcf.ol (g := lg) j rfl
      have yl := (own_lt hcf.ol (g := lg) rfl).2
      obtain ⟨ch, hch⟩ := xor_u8 x 1
      have HCH := Lib.hid hch
      clear hll hcf hbk hoz hx hch
      go_wp2
      refine ⟨⟨j + 1, ls.set j ch, by omega, congrArg _ (by omega), ?_⟩, by simp [intOf]; omega⟩
      obtain ⟨hll, hcf, hbk, hoz⟩ := HL.out
      have n5 := HCN.out.l5
      have n45 := HCN.out.h45
      have n14 := HCN.out.h14
      have n6 := HCN.out.l6
      have n7 := HCN.out.p12
      have n8 := HF5.out.2.2.2
      rw [HCH.out]
      have hkk : Keep (fun i => i ≠ lg) wr (wr.setCell ⟨lg, j, none⟩ (.int .u8 (ch.toNat : Int))) := (Keep.refl _ wr).setCell (fun _ h => h rfl) _
      exact ⟨by rw [List.length_set]; exact hll, hcf.loose HCN.out hll hlt ch, hbk.keep hkk (fun k hk => by omega), own_keep hoz hkk (fun k e => by have := (own_lt hoz e).1; omega)⟩
    · obtain rfl : j = n := by omega
      obtain ⟨hll, hcf, hbk, hoz⟩ := HL.out
      have oc := own_cut (n := j) (m := 64) (xs := Lib.byteCells ls) (ys := Lib.byteCells (pats 7000000 64)) (by rw [← Lib.byteCells_append]; exact hcf.ol) (by simp [Lib.byteCells, hll])
      have HCP := Lib.hid (copied_any _ (some ⟨lg, 0, none⟩) j lc ls wr (Blk.rdOwn oc) (by omega) (fun _ => .inr (by simp)))
      have HG := Lib.hid (And.intro hll (And.intro hcf (And.intro hbk hoz)))
      clear hll hcf hbk hoz oc HL
      go_wp2_with fail
      refine HCP.out.mono ?_
      rintro e wH ⟨⟨ut, rfl, ot⟩, fH⟩
      obtain ⟨At, pt, rfl, rt, hpt, hntl⟩ := own_open ot
      obtain ⟨hll, hcf, hbk, hoz⟩ := HG.out
      have hcfH := hcf.fresh HCN.out fH
      have oc := own_cut (n := j) (m := 64) (xs := Lib.byteCells ls) (ys := Lib.byteCells (pats 7000000 64)) (by rw [← Lib.byteCells_append]; exact hcfH.ol) (by simp [Lib.byteCells, hll])
      obtain ⟨ec, ei, er, eop, ek, ev, ed, ecode, hform⟩ := dec_form ls
      have HD3 := (decode_any _ (some ⟨lg, 0, none⟩) j lc ls wH hcfH.tabs (Blk.rdOwn oc) (by omega) (by omega)).mono (fun e w' h => hform wH e w' h)
      replace HD3 := Lib.hid HD3
      have HFM := Lib.hid hform
      have wrs : wr.heap.size ≤ wr.heap.size := Nat.le_refl _
      have HH := Lib.hid (And.intro hcfH (And.intro (hbk.keep fH (fun _ _ => trivial)) (And.intro (own_keep hoz fH (fun _ _ => trivial)) (And.intro ot (And.intro hpt (And.intro hntl (show P2 < wr.heap.size from hcf.p2.lt)))))))
      clear hll hcf hbk hoz hcfH oc hform ot fH rt hpt hntl wrs HCP
      go_wp2_with fail
      refine HD3.out.mono ?_
      rintro e wI ⟨rfl, fI⟩
      obtain ⟨hcfH, hbk, hoz, ot, hpt, hntl, sP2⟩ := HH.out
      have hcfI := hcfH.fresh HCN.out fI
      have q0 := hcfI.p1.cell 0
      have q1 := hcfI.p1.cell 1
      have q2 := hcfI.p1.cell 2
      have q3 := hcfI.p1.cell 3
      have q4 := hcfI.p1.cell 4
      have q5 := hcfI.p1.cell 5
      have q6 := hcfI.p1.cell 6
      have r0 := hcfI.p1.frozen 0
      have r1 := hcfI.p1.frozen 1
      have r2 := hcfI.p1.frozen 2
      have r3 := hcfI.p1.frozen 3
      have r4 := hcfI.p1.frozen 4
      have r5 := hcfI.p1.frozen 5
      have r6 := hcfI.p1.frozen 6
      have ql := hcfI.p1.lt
      simp at q0 q1 q2 q3 q4 q5 q6
      have n5 := HCN.out.l5
      have n45 := HCN.out.h45
      have n14 := HCN.out.h14
      have n6 := HCN.out.l6
      have n7 := HCN.out.p12
      have n8 := HF5.out.2.2.2
      obtain ⟨wJ, hwJ⟩ : ∃ wJ, wJ = (((((((wI.setCell ⟨P1, 0, none⟩ (.int .i64 ec)).setCell ⟨P1, 1, none⟩ (.int .i64 ei)).setCell ⟨P1, 2, none⟩ (.int .i64 er)).setCell ⟨P1, 3, none⟩ (.int .i64 eop)).setCell ⟨P1, 4, none⟩ (.string ⟨ek.toArray⟩)).setCell ⟨P1, 5, none⟩ (.string ⟨ev.toArray⟩)).setCell ⟨P1, 6, none⟩ (.string ⟨ed.toArray⟩)) := ⟨_, rfl⟩
      have kJ : Keep (fun i => i ≠ P1) wI wJ := by rw [hwJ]; exact keep7 wI P1 _ _ _ _ _ _ _
      have hcfJ := hcfI.set1 HCN.out kJ (D := #[.int .i64 ec, .int .i64 ei, .int .i64 er, .int .i64 eop, str ek, str ev, str ed]) (by rw [hwJ]; exact blk7 hcfI.p1 _ _ _ _ _ _ _)
      have otJ := own_keep (own_keep ot fI (fun _ _ => trivial)) kJ (fun k e => by have := (own_lt ot e).1; omega)
      have ozJ := own_keep (own_keep hoz fI (fun _ _ => trivial)) kJ (fun k e => by have := (own_lt hoz e).1; omega)
      have hbkJ := (hbk.keep fI (fun _ _ => trivial)).keep kJ (fun k hk => by omega)
      obtain ⟨At2, pt2, e2, rt2, -, -⟩ := own_open otJ
      injection e2 with e2a _ e2b
      subst e2a e2b
      have HD4 := (rdecode_any _ At j pt ls wJ rt2 hpt hntl (by omega)).mono (fun e w' h => HFM.out wJ e w' h)
      replace HD4 := Lib.hid HD4
      have HJ := Lib.hid (And.intro hcfJ (And.intro hbkJ (And.intro ozJ (And.intro otJ sP2))))
      clear hcfH hbk hoz ot hpt hntl hcfI kJ hcfJ otJ ozJ hbkJ rt2 fI n5 n45 n14 n6 n7 n8 sP2 HD3 HH
      go_wp2_with fail
      rw [← hwJ]
      clear hwJ q0 q1 q2 q3 q4 q5 q6 r0 r1 r2 r3 r4 r5 r6 ql
      refine HD4.out.mono ?_
      rintro e wK ⟨rfl, fK⟩
      obtain ⟨hcfJ, hbk, hoz, ot, sP2⟩ := HJ.out
      have hcfK := hcfJ.fresh HCN.out fK
      have q0 := hcfK.p2.cell 0
      have q1 := hcfK.p2.cell 1
      have q2 := hcfK.p2.cell 2
      have q3 := hcfK.p2.cell 3
      have q4 := hcfK.p2.cell 4
      have q5 := hcfK.p2.cell 5
      have q6 := hcfK.p2.cell 6
      have r0 := hcfK.p2.frozen 0
      have r1 := hcfK.p2.frozen 1
      have r2 := hcfK.p2.frozen 2
      have r3 := hcfK.p2.frozen 3
      have r4 := hcfK.p2.frozen 4
      have r5 := hcfK.p2.frozen 5
      have r6 := hcfK.p2.frozen 6
      have ql := hcfK.p2.lt
      simp at q0 q1 q2 q3 q4 q5 q6
      have n5 := HCN.out.l5
      have n45 := HCN.out.h45
      have n14 := HCN.out.h14
      have n6 := HCN.out.l6
      have n7 := HCN.out.p12
      have n8 := HF5.out.2.2.2
      obtain ⟨wL, hwL⟩ : ∃ wL, wL = (((((((wK.setCell ⟨P2, 0, none⟩ (.int .i64 ec)).setCell ⟨P2, 1, none⟩ (.int .i64 ei)).setCell ⟨P2, 2, none⟩ (.int .i64 er)).setCell ⟨P2, 3, none⟩ (.int .i64 eop)).setCell ⟨P2, 4, none⟩ (.string ⟨ek.toArray⟩)).setCell ⟨P2, 5, none⟩ (.string ⟨ev.toArray⟩)).setCell ⟨P2, 6, none⟩ (.string ⟨ed.toArray⟩)) := ⟨_, rfl⟩
      have kL : Keep (fun i => i ≠ P2) wK wL := by rw [hwL]; exact keep7 wK P2 _ _ _ _ _ _ _
      have hcfL := hcfK.set2 HCN.out kL (D := #[.int .i64 ec, .int .i64 ei, .int .i64 er, .int .i64 eop, str ek, str ev, str ed]) (by rw [hwL]; exact blk7 hcfK.p2 _ _ _ _ _ _ _)
      have otL := own_keep (own_keep ot fK (fun _ _ => trivial)) kL (fun k e => by have := (own_lt ot e).1; omega)
      have ozL := own_keep (own_keep hoz fK (fun _ _ => trivial)) kL (fun k e => by have := (own_lt hoz e).1; omega)
      have hbkL := (hbk.keep fK (fun _ _ => trivial)).keep kL (fun k hk => by omega)
      obtain ⟨Aw2, pw2, e2, rw2, -, -⟩ := own_open hcfL.ow
      injection e2 with e2a _ e2b
      subst e2a e2b
      obtain ⟨At2, pt2, e3, rt2, -, -⟩ := own_open otL
      injection e3 with e3a _ e3b
      subst e3a e3b
      obtain ⟨Az2, pz2, e4, rz2, -, -⟩ := own_open ozL
      injection e4 with e4a _ e4b
      subst e4a e4b
      have HUN2 := Lib.hid (unspoilt_any _ h5 lg lc At j pt ls wL hcfL.ol rt2 (by omega))
      have HSB := fun m => same_any _ _ Az Aw X.length pz X.length pw X X (wL.drewN m) (rz2.drewN m) (rw2.drewN m) (by omega) (by omega)
      simp only [decide_true] at HSB
      replace HSB := Lib.hid HSB
      have HIN := Lib.hid (fun m => intact_any h1 (P2 + 1) _ (wL.drewN m) (hbkL.keep ((Keep.refl (fun _ => True) wL).drewN m) (fun _ _ => trivial)))
      have a0 := hcfL.p1.cell 0
      have a1 := hcfL.p1.cell 1
      have a2 := hcfL.p1.cell 2
      have a3 := hcfL.p1.cell 3
      have a4 := hcfL.p1.cell 4
      have a5 := hcfL.p1.cell 5
      have a6 := hcfL.p1.cell 6
      have b0 := hcfL.p2.cell 0
      have b1 := hcfL.p2.cell 1
      have b2 := hcfL.p2.cell 2
      have b3 := hcfL.p2.cell 3
      have b4 := hcfL.p2.cell 4
      have b5 := hcfL.p2.cell 5
      have b6 := hcfL.p2.cell 6
      simp at a0 a1 a2 a3 a4 a5 a6 b0 b1 b2 b3 b4 b5 b6
      have HL5 := Lib.hid hcfL.kp
      clear hcfJ hbk hoz ot hcfK kL hcfL otL ozL hbkL rw2 rt2 rz2 fK n5 n45 n14 n6 n7 n8 sP2 HD4 HJ
      go_upto_region 26 with (fail)
      rw [← hwL]
      clear hwL q0 q1 q2 q3 q4 q5 q6 r0 r1 r2 r3 r4 r5 r6 ql
      go_wp2_with fail
      refine (HN.out _ _).mono ?_
      rintro e _ ⟨rfl, rfl⟩
      go_wp2_with fail
      refine HUN2.out.mono ?_
      rintro e _ ⟨rfl, d4, rfl⟩
      go_wp2_with fail
      refine (HN.out _ _).mono ?_
      rintro e _ ⟨rfl, rfl⟩
      go_wp2_with fail
      refine (HSB.out d4).mono ?_
      rintro e _ ⟨rfl, d5, rfl⟩
      go_wp2_with fail
      refine (HIN.out (d4 + d5)).mono ?_
      rintro e wM ⟨rfl, fM⟩
      go_wp2_with fail
      go_ret
      exact ⟨rfl, (HL5.out.drewN (d4 + d5)).comp fM (fun _ _ h => h) (fun _ _ _ => trivial)⟩
end Go.Proofs.YtkgbhanpenpkmaaDoor
