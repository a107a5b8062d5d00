/-
  MERGED: Valid Mach Mach2 Mach3
-/
import Derived.Test.YtohnmaindbgngaaGreatDoorQ3
import Derived.Test.YtohnmaindbgngaaGreatDoorQ1
import Derived.Test.YtohnmaindbgngaaGreatDoorQ2
import Derived.StillTailTactics
import Derived.Laws.EntriesVeiled
namespace Go.Proofs.YtohnmaindbgngaaGreatDoor
set_option linter.unusedVariables false
set_option linter.unusedSimpArgs false
open Go.RowKit

def validB (c i r o : Int) (k v d : List UInt8) : Bool :=
  if c < 0 then false else if 16 ≤ c then false else if countB i = false then false else if countB r = false then false else if o < 1 then false else if 10 ≤ o then false
  else fitsB (shapeTab.getD o.toNat 0) k v d

set_option maxHeartbeats 4000000 in
theorem valid_any (c i r o : Int) (k v d : List UInt8) (w : World) (hT : Tabs w) :
    Calls Tryz.prog 24 #[cmdV c i r o k v d] w fun e w' => e = .returned (.bool (validB c i r o k v d)) ∧ Fresh w w' := by
  obtain ⟨t, ht⟩ : ∃ t, t = validB c i r o k v d := ⟨_, rfl⟩
  rw [← ht]
  unfold validB at ht
  have I := count_any i
  have R := count_any r
  generalize countB i = bi at I ht
  generalize countB r = br at R ht
  replace I := Lib.hid I
  replace R := Lib.hid R
  have e1 : c < 0 → false = t := fun h => by rw [ht, if_pos h]
  have e2 : 16 ≤ c → false = t := fun h => by rw [ht, if_neg (by omega), if_pos h]
  have e3 : bi = false → false = t := fun h => by rw [ht, if_pos h]; split <;> first | rfl | (split <;> rfl)
  have e4 : br = false → false = t := fun h => by rw [ht, if_pos h]; split <;> first | rfl | (split <;> first | rfl | (split <;> rfl))
  have e5 : o < 1 → false = t := fun h => by rw [ht, if_pos h]; split <;> first | rfl | (split <;> first | rfl | (split <;> first | rfl | (split <;> rfl)))
  have e6 : 10 ≤ o → false = t := fun h => by rw [ht, if_pos h]; split <;> first | rfl | (split <;> first | rfl | (split <;> first | rfl | (split <;> first | rfl | (split <;> rfl))))
  have e7 : 0 ≤ c → c < 16 → bi = true → br = true → 1 ≤ o → o < 10 → t = fitsB (shapeTab.getD o.toNat 0) k v d := fun h1 h2 h3 h4 h5 h6 => by
    rw [ht, if_neg (by omega), if_neg (by omega), if_neg (by simp [h3]), if_neg (by simp [h4]), if_neg (by omega), if_neg (by omega)]
  clear ht
  replace e1 := Lib.hid e1
  replace e2 := Lib.hid e2
  replace e3 := Lib.hid e3
  replace e4 := Lib.hid e4
  replace e5 := Lib.hid e5
  replace e6 := Lib.hid e6
  replace e7 := Lib.hid e7
  have HT := Lib.hid hT
  clear hT
  go_enter Tryz.func24, Tryz.ntmps24
  go_wp2_with fail
  · obtain ⟨B, hB⟩ : ∃ B, B = w.heap.size := ⟨_, rfl⟩
    obtain ⟨W, hW⟩ : ∃ W, W = w.alloc (.cells #[.int .i64 c, .int .i64 i, .int .i64 r, .int .i64 o, str k, str v, str d] 43) := ⟨_, rfl⟩
    rw [← hW, ← hB]
    have hf : Fresh w W := hW ▸ (Keep.refl _ w).alloc _
    have c0 : W.cell? ⟨B, 0, none⟩ = some (.int .i64 c) := by rw [hW, hB]; simp
    have c1 : W.cell? ⟨B, 1, none⟩ = some (.int .i64 i) := by rw [hW, hB]; simp
    have c2 : W.cell? ⟨B, 2, none⟩ = some (.int .i64 r) := by rw [hW, hB]; simp
    have c3 : W.cell? ⟨B, 3, none⟩ = some (.int .i64 o) := by rw [hW, hB]; simp
    have c4 : W.cell? ⟨B, 4, none⟩ = some (str k) := by rw [hW, hB]; simp
    have c5 : W.cell? ⟨B, 5, none⟩ = some (str v) := by rw [hW, hB]; simp
    have c6 : W.cell? ⟨B, 6, none⟩ = some (str d) := by rw [hW, hB]; simp
    have HF := Lib.hid hf
    clear hf hW hB
    refine (I.out W).mono ?_
    rintro e _ ⟨rfl, rfl⟩
    cases bi
    · go_wp2_with fail
      go_ret
      exact ⟨ret_bool (e3.out (by simp)), HF.out⟩
    · go_wp2_with fail
      refine (R.out W).mono ?_
      rintro e _ ⟨rfl, rfl⟩
      cases br
      · go_wp2_with fail
        go_ret
        exact ⟨ret_bool (e4.out (by simp)), HF.out⟩
      · by_cases h5 : o < 1
        · go_wp2_with fail
          go_ret
          exact ⟨ret_bool (e5.out h5), HF.out⟩
        · by_cases h6 : 10 ≤ o
          · go_wp2_with fail
            go_ret
            exact ⟨ret_bool (e6.out h6), HF.out⟩
          · have hE := e7.out (by omega) (by omega) (by simp) (by simp) (by omega) (by omega)
            obtain ⟨on, rfl⟩ : ∃ on : Nat, o = (on : Int) := ⟨o.toNat, by omega⟩
            have HG := Lib.hid (fits_any c i r on k v d W (HT.out.fresh HF.out) (by omega))
            simp only [Int.toNat_natCast] at hE
            have HE := Lib.hid hE
            clear hE
            go_wp2_with fail
            refine HG.out.mono ?_
            rintro e w1 ⟨rfl, hk⟩
            go_wp2_with fail
            go_ret
            exact ⟨ret_bool HE.out.symm, HF.out.trans hk⟩
  · go_ret
    exact ⟨ret_bool (e2.out (by assumption)), (Keep.refl _ w).alloc _⟩
  · go_ret
    exact ⟨ret_bool (e1.out (by assumption)), (Keep.refl _ w).alloc _⟩

theorem fits_len {sh : Int} {k v d : List UInt8} (h : fitsB sh k v d = true) : k.length ≤ 8 ∧ v.length ≤ 8 ∧ d.length ≤ 8 := by
  unfold fitsB at h
  split at h
  · cases h
  · rename_i h1
    split at h
    · cases h
    · rename_i h2
      refine ⟨?_, ?_, ?_⟩
      · rcases hb : hasB sh 1 with _ | _
        · have : k = [] := Classical.byContradiction fun hk => h1 (.inr ⟨hb, hk⟩)
          simp [this]
        · have : keyB k = true := by
            rcases hk : keyB k with _ | _
            · exact absurd (.inl (by rw [hb, hk]; simp)) h1
            · rfl
          simp [keyB] at this
          omega
      · have hn : (numb v).2 = true → v.length ≤ 8 := by
          intro hn
          unfold numb at hn
          split at hn
          · cases hn
          · omega
        split at h
        · simp [valB] at h; omega
        · split at h
          · exact hn h
          · split at h
            · simp at h; exact hn h.1
            · split at h
              · simp at h; exact hn h.1
              · simp at h; simp [h]
      · have : valB d = true := by
          rcases hk : valB d with _ | _
          · exact absurd (.inr hk) h2
          · rfl
        simp [valB] at this
        omega
theorem valid_ok {c i r o : Int} {k v d : List UInt8} (h : validB c i r o k v d = true) :
    (0 ≤ c ∧ c < 16) ∧ (1 ≤ i ∧ i ≤ 4611686018427387904) ∧ (1 ≤ r ∧ r ≤ 4611686018427387904) ∧ (1 ≤ o ∧ o < 10) ∧ fitsB (shapeTab.getD o.toNat 0) k v d = true := by
  unfold validB at h
  split at h
  · cases h
  · split at h
    · cases h
    · split at h
      · cases h
      · split at h
        · cases h
        · split at h
          · cases h
          · split at h
            · cases h
            · rename_i hi hr _ _
              simp [countB] at hi hr
              exact ⟨by omega, by omega, by omega, by omega, h⟩
end Go.Proofs.YtohnmaindbgngaaGreatDoor
namespace Go.Proofs.YtohnmaindbgngaaGreatDoor
set_option linter.unusedVariables false
set_option linter.unusedSimpArgs false
open Go.RowKit

abbrev Ps := List (List UInt8 × List UInt8)
def sk (ps : Ps) : List Kv := ps.map fun p => (p.1, str p.2)
def pfind (k : List UInt8) (ps : Ps) : Option (List UInt8) := (ps.find? fun p => p.1 == k).map (·.2)
def pins (x : List UInt8 × List UInt8) : Ps → Ps
  | [] => [x]
  | y :: r => if bytesBefore x.1 y.1 then x :: y :: r else y :: pins x r
def pdel (k : List UInt8) (ps : Ps) : Ps := ps.filter fun p => !(p.1 == k)
def pput (k v : List UInt8) (ps : Ps) : Ps := pins (k, v) (pdel k ps)
theorem sk_len (ps : Ps) : (sk ps).length = ps.length := by simp [sk]
theorem sk_find (k : List UInt8) (ps : Ps) : mfind k (sk ps) = (pfind k ps).map str := by
  unfold mfind pfind sk
  induction ps with
  | nil => rfl
  | cons p ps ih =>
    simp only [List.map_cons, List.find?_cons]
    cases h : p.1 == k
    · exact ih
    · rfl
theorem sk_ins (x : List UInt8 × List UInt8) : ∀ ps : Ps, mins (x.1, str x.2) (sk ps) = sk (pins x ps)
  | [] => rfl
  | y :: r => by
    have e : sk (y :: r) = (y.1, str y.2) :: sk r := rfl
    rw [e, mins, pins]
    dsimp only
    split
    · rfl
    · rw [sk_ins x r]; rfl
theorem sk_del (k : List UInt8) (ps : Ps) : mdel k (sk ps) = sk (pdel k ps) := by
  unfold mdel sk pdel
  rw [List.filter_map]
  rfl
theorem sk_put (k v : List UInt8) (ps : Ps) : mput k (str v) (sk ps) = sk (pput k v ps) := by
  unfold mput pput
  rw [sk_del]
  exact sk_ins (k, v) _

/-- A result. -/
abbrev MRes := ResD
abbrev resV (r : MRes) : Value := .agg #[.int .i64 r.code, str r.val, .int .i64 r.n]
/-- A client's session. -/
abbrev MSess := SesD
def MSess.cells (s : MSess) : List Value := [.int .i64 s.inc, .int .i64 s.req, .int .i64 s.last.code, str s.last.val, .int .i64 s.last.n]
theorem sess_five (s : MSess) : s.cells.length = 5 := rfl
def mchcells (bp bl : Nat) (tok : Int) (ss : List MSess) : List Value := [.map (some bp), .map (some bl), .int .i64 tok] ++ rcells MSess.cells ss

theorem run_zero_str (w : World) : (zeroValue 9).run Tryz.prog w = .ok (str []) w := by kernel_rfl
/-- 'm[k]' of a map of strings, for the walk. -/
theorem look_str {w : World} {b : Nat} {ps : Ps} (h : MapIs Tryz.prog 9 w b (sk ps)) {l : List UInt8} (hl : l.length ≤ 1099511627776) (k : Nat) :
    (Instr.lookup 74 (.map (some b)) (str l) true).run Tryz.prog (w.drewN k) = .ok (.tuple #[str ((pfind l ps).getD []), .bool (pfind l ps).isSome]) (w.drewN k) := by
  have h1 := MapIs.look_ok (h.keep (Keep.drewN (Keep.refl (fun _ => True) w) k) trivial) Tryz.underlying9 Tryz.underlying74 (run_zero_str _) (l := l) (by simp only [maxLen]; omega)
  rw [h1, sk_find]
  cases pfind l ps <;> rfl

def zeroSess : MSess := ⟨0, 0, ⟨0, [], 0⟩⟩
theorem results_one {P : Program} {fn : Func} {p : Tmp} {ty : TypeId} (h : fn.results = #[.cell p ty]) (tmps : Array Value) (w : World) (g : Nat) (t : TypeId) (cs : Array Value) (d : TypeDesc)
    (hp : tmps.getD p undef = .pointer (some ⟨g, 0, none⟩)) (hg : Blk w g t cs) (hu : P.underlying ty = some d) (hd : (match d with | .struct _ | .array _ _ => true | _ => false) = true) (hi : (P.info? ty).map (·.size) = some cs.size) :
    (results fn tmps).run P w = .ok (.agg cs) w := results_cell_row h tmps w g t cs (0, 0) d hp hg hu hd hi
theorem done_any (l : List UInt8) (n : Int) (w : World) : Calls Tryz.prog 86 #[str l, .int .i64 n] w fun e w' => e = .returned (resV ⟨1, l, n⟩) ∧ Fresh w w' := by
  go_enter Tryz.func86, Tryz.ntmps86
  go_wp2
  refine bodyPost_ret (results_one rfl _ _ w.heap.size 49 #[.int .i64 1, str l, .int .i64 n] _ rfl (Blk.new _ _ _) Tryz.underlying49 rfl (by kernel_rfl)) rfl ?_
  exact ⟨rfl, (Keep.refl _ w).alloc _⟩
theorem code_any (n : Int) (w : World) : Calls Tryz.prog 87 #[.int .i64 n] w fun e w' => e = .returned (resV ⟨n, [], 0⟩) ∧ Fresh w w' := by
  go_enter Tryz.func87, Tryz.ntmps87
  go_wp2
  refine bodyPost_ret (results_one rfl _ _ w.heap.size 49 #[.int .i64 n, str [], .int .i64 0] _ rfl (Blk.new _ _ _) Tryz.underlying49 rfl (by kernel_rfl)) rfl ?_
  exact ⟨rfl, (Keep.refl _ w).alloc _⟩
/-- The machine in block m: its pairs, its tokens, its sessions; no lock. -/
structure MOn (w : World) (m bp bl : Nat) (ps : Ps) (tok : Int) (ss : List MSess) : Prop where
  blk : Blk w m 80 (mchcells bp bl tok ss).toArray
  len : ss.length = 16
  pm : MapIs Tryz.prog 9 w bp (sk ps)
  lm : MapIs Tryz.prog 9 w bl []
  ne : bp ≠ bl
theorem new_any (w : World) : Calls Tryz.prog 13 #[] w fun e w' => (∃ m bp bl : Nat, e = .returned (.pointer (some ⟨m, 0, none⟩)) ∧ MOn w' m bp bl [] 0 (List.replicate 16 zeroSess) ∧ w.heap.size ≤ m ∧ w.heap.size ≤ bp ∧ w.heap.size ≤ bl) ∧ Fresh w w' := by
  have hmm := @run_makeMap Tryz.prog
  go_enter Tryz.func13, Tryz.ntmps13
  go_wp2
  go_ret
  have h1 : ∀ a b : Nat, (Tryz.zeroCells80.setIfInBounds 0 (.map (some a))).setIfInBounds 1 (.map (some b)) = (mchcells a b 0 (List.replicate 16 zeroSess)).toArray := fun a b => by kernel_rfl
  rw [h1]
  refine ⟨⟨_, _, _, rfl, ⟨Blk.newAt (by simp), by simp, ?_, ?_, by omega⟩, by omega, by omega, by omega⟩, (((Keep.refl _ w).alloc _).alloc _).alloc _⟩
  · exact (MapIs.made w Tryz.prog 9).keep (((Keep.refl (fun _ => True) _).alloc _).alloc _) trivial
  · have h2 := (MapIs.made (w.alloc (.map #[] 0)) Tryz.prog 9).keep ((Keep.refl (fun _ => True) _).alloc (.cells (mchcells w.heap.size (w.heap.size + 1) 0 (List.replicate 16 zeroSess)).toArray 80)) trivial
    simpa using h2
end Go.Proofs.YtohnmaindbgngaaGreatDoor
namespace Go.Proofs.YtohnmaindbgngaaGreatDoor
set_option linter.unusedVariables false
set_option linter.unusedSimpArgs false
open Go.RowKit

def setP (k v : List UInt8) (ps : Ps) : Ps := match pfind k ps with
  | some _ => pput k v ps
  | none => if 16 ≤ ps.length then ps else pput k v ps
def setR (k v : List UInt8) (ps : Ps) : MRes := match pfind k ps with
  | some u => ⟨1, u, 1⟩
  | none => if 16 ≤ ps.length then ⟨4, [], 0⟩ else ⟨1, [], 0⟩

set_option maxRecDepth 20000 in
set_option maxHeartbeats 1000000 in
theorem set_any (m bp : Nat) (ps : Ps) (c i r o : Int) (k v d : List UInt8) (w : World) (h0 : w.cell? ⟨m, 0, none⟩ = some (.map (some bp))) (hm : MapIs Tryz.prog 9 w bp (sk ps)) (hk : k.length ≤ 8) (hps : ps.length ≤ 1048576) :
    Calls Tryz.prog 46 #[.pointer (some ⟨m, 0, none⟩), cmdV c i r o k v d] w fun e w' => e = .returned (resV (setR k v ps)) ∧ MapIs Tryz.prog 9 w' bp (sk (setP k v ps)) ∧ Keep (fun j => j ≠ bp) w w' := by
  obtain ⟨R, hR⟩ : ∃ R, R = setR k v ps := ⟨_, rfl⟩
  obtain ⟨P', hP'⟩ : ∃ P', P' = setP k v ps := ⟨_, rfl⟩
  rw [← hR, ← hP']
  have hmlt := lt_of_cell h0
  have hblt := hm.lt
  obtain ⟨G, hG⟩ : ∃ G, G = w.heap.size := ⟨_, rfl⟩
  obtain ⟨W, hW⟩ : ∃ W, W = (w.alloc (.cells #[.int .i64 c, .int .i64 i, .int .i64 r, .int .i64 o, str k, str v, str d] 43)).alloc (.cells #[.int .i64 0, str [], .int .i64 0] 49) := ⟨_, rfl⟩
  have hf : Fresh w W := hW ▸ ((Keep.refl _ w).alloc _).alloc _
  have hbx : Blk W G 43 #[.int .i64 c, .int .i64 i, .int .i64 r, .int .i64 o, str k, str v, str d] := by rw [hW, hG]; exact (Blk.new _ _ _).alloc _
  have hbr : Blk W (G + 1) 49 #[.int .i64 0, str [], .int .i64 0] := by rw [hW]; exact Blk.newAt (by simp [hG])
  have hmW := hm.keep hf trivial
  have HL := Lib.hid (fun q => look_str hmW (l := k) (by omega) q)
  have x0 := hf.cellAt h0 trivial
  have k4 := hbx.cell 4
  have k5 := hbx.cell 5
  simp at k4 k5
  have HA := Lib.hid (And.intro hmW (And.intro hf (And.intro hbr (And.intro hbx (And.intro hG (And.intro hmlt hblt))))))
  clear hmW hf hbr hbx hmlt hblt hm h0
  go_enter Tryz.func46, Tryz.ntmps46
  go_wp2_with fail
  simp only [← hG]
  rw [← hW]
  clear hW hG
  have hlk := HL.out
  go_quiet (fail)
  obtain ⟨W2, hW2⟩ : ∃ W2, W2 = W.drewN nq := ⟨_, rfl⟩
  rw [← hW2]
  obtain ⟨hmW, hf, hbr, hbx, hG, hmlt, hblt⟩ := HA.out
  have hf2 : Fresh w W2 := hW2 ▸ hf.drewN nq
  have y0 : W2.cell? ⟨m, 0, none⟩ = some (.map (some bp)) := by rw [hW2]; exact x0
  have y4 : W2.cell? ⟨G, 4, none⟩ = some (str k) := by rw [hW2]; exact k4
  have y5 : W2.cell? ⟨G, 5, none⟩ = some (str v) := by rw [hW2]; exact k5
  have HB := Lib.hid (And.intro (show MapIs Tryz.prog 9 W2 bp (sk ps) by rw [hW2]; exact hmW.keep (Keep.drewN (Keep.refl (fun _ => True) W) nq) trivial) (And.intro hf2 (And.intro (show Blk W2 (G + 1) 49 #[.int .i64 0, str [], .int .i64 0] by rw [hW2]; exact hbr.drewN nq) (And.intro (show Blk W2 G 43 _ by rw [hW2]; exact hbx.drewN nq) (And.intro (show bp < G by omega) hG)))))
  clear hmW hf hbr hbx hG hmlt hblt hf2 hW2 x0 k4 k5 HL hlk HA
  cases hpf : pfind k ps with
  | some u =>
    have HE : Hid (R = ⟨1, u, 1⟩ ∧ P' = pput k v ps) := ⟨by simp [hR, setR, hpf], by simp [hP', setP, hpf]⟩
    clear hpf hR hP'
    have HD := Lib.hid (done_any u 1)
    go_wp2_with fail
    refine wp_region_still_tail 8 (by kernel_rfl) (by kernel_rfl) ?_
    simp only [List.take_succ_cons, List.take_zero, List.drop_succ_cons, List.drop_zero]
    repeat still_step
    refine wpStill_nil ?_
    change wpList _ _ _ _ _ W2.drew
    refine wpList_mstore rfl (.tmp 22) (.tmp 24) (.tmp 26) rfl Tryz.underlying9 Tryz.underlying74 rfl (HB.out.1.keep ((Keep.refl (fun _ => True) W2).drew) trivial) (by rw [sk_len]; simp only [maxLen]; omega) (l := k) (by simp only [maxLen]; omega) rfl (str v) rfl ?_
    intro W3 hm3 hk3
    rw [sk_put] at hm3
    obtain ⟨-, hf, hbr, hbx, hlt, hww⟩ := HB.out
    have hk23 : Keep (fun j => j ≠ bp) W2 W3 := (Keep.refl _ W2).drew.trans hk3
    have hbr3 := hbr.keep hk23 (by omega)
    have H3 := Lib.hid (And.intro hm3 (And.intro (hf.comp hk23 (fun _ _ _ => trivial) (fun _ _ h => h)) (And.intro hbr3 (And.intro hlt hww))))
    clear hm3 hk3 hf hbr hbx hlt hww hk23 hbr3 y0 y4 y5
    go_wp2_with fail
    refine (HD.out W3).mono ?_
    rintro e W4 ⟨rfl, f4⟩
    obtain ⟨hm3, hf3, hbr3, hlt, hww⟩ := H3.out
    have hbr4 := hbr3.keep f4 trivial
    have r0 := hbr4.cell 0
    have r1 := hbr4.cell 1
    have r2 := hbr4.cell 2
    have s0 := hbr4.frozen 0
    have s1 := hbr4.frozen 1
    have s2 := hbr4.frozen 2
    have rl := hbr4.lt
    simp at r0 r1 r2
    have H4 := Lib.hid (And.intro (hm3.keep f4 trivial) (And.intro (hf3.comp f4 (fun _ _ h => h) (fun _ _ _ => trivial)) (And.intro hbr4 (And.intro hlt hww))))
    clear hm3 hf3 hbr3 hlt hbr4 f4 HD H3 hww
    go_wp2_with fail
    obtain ⟨hm4, hf4, hbr4, hlt, hww⟩ := H4.out
    rw [HE.out.1]
    refine bodyPost_ret (results_one rfl _ _ (G + 1) 49 #[.int .i64 1, str u, .int .i64 1] _ rfl (((hbr4.set 0 _).set 1 _).set 2 _) Tryz.underlying49 rfl (by kernel_rfl)) rfl ?_
    refine ⟨rfl, ?_, ?_⟩
    · rw [HE.out.2]
      exact ((hm4.keep ((((Keep.refl (fun j => j ≠ G + 1) _).setCell (fun _ h => h rfl) _).setCell (fun _ h => h rfl) _).setCell (fun _ h => h rfl) _) (by omega)))
    · exact ((hf4.setCell (fun h => by simp at h; omega) _).setCell (fun h => by simp at h; omega) _).setCell (fun h => by simp at h; omega) _
  | none =>
    by_cases hful : (16 : Int) ≤ (ps.length : Int)
    · have hful2 : 16 ≤ ps.length := by omega
      have HE : Hid (R = ⟨4, [], 0⟩ ∧ P' = ps) := ⟨by simp [hR, setR, hpf, hful2], by simp [hP', setP, hpf, hful2]⟩
      clear hpf hR hP'
      have HD := Lib.hid (code_any 4)
      have hskl := sk_len ps
      go_wp2_with (at_len; refine wpList_mlen rfl (.tmp 33) rfl Tryz.underlying74 rfl HB.out.1 ?_)
      go_wp2_with fail
      refine (HD.out W2).mono ?_
      rintro e W4 ⟨rfl, f4⟩
      obtain ⟨hm3, hf3, hbr3, -, hlt, hww⟩ := HB.out
      have hbr4 := hbr3.keep f4 trivial
      have r0 := hbr4.cell 0
      have r1 := hbr4.cell 1
      have r2 := hbr4.cell 2
      have s0 := hbr4.frozen 0
      have s1 := hbr4.frozen 1
      have s2 := hbr4.frozen 2
      have rl := hbr4.lt
      simp at r0 r1 r2
      have H4 := Lib.hid (And.intro (hm3.keep f4 trivial) (And.intro (hf3.trans f4) (And.intro hbr4 (And.intro hlt hww))))
      clear hm3 hf3 hbr3 hlt hbr4 f4 HD HB hww y0 y4 y5 hskl
      go_wp2_with fail
      obtain ⟨hm4, hf4, hbr4, hlt, hww⟩ := H4.out
      rw [HE.out.1]
      refine bodyPost_ret (results_one rfl _ _ (G + 1) 49 #[.int .i64 4, str [], .int .i64 0] _ rfl (((hbr4.set 0 _).set 1 _).set 2 _) Tryz.underlying49 rfl (by kernel_rfl)) rfl ?_
      refine ⟨rfl, ?_, ?_⟩
      · rw [HE.out.2]
        exact ((hm4.keep ((((Keep.refl (fun j => j ≠ G + 1) _).setCell (fun _ h => h rfl) _).setCell (fun _ h => h rfl) _).setCell (fun _ h => h rfl) _) (by omega)))
      · exact (((hf4.setCell (fun h => by simp at h; omega) _).setCell (fun h => by simp at h; omega) _).setCell (fun h => by simp at h; omega) _).weaken (fun _ _ _ => trivial)
    · have hful2 : ¬ 16 ≤ ps.length := by omega
      have HE : Hid (R = ⟨1, [], 0⟩ ∧ P' = pput k v ps) := ⟨by simp [hR, setR, hpf, hful2], by simp [hP', setP, hpf, hful2]⟩
      clear hpf hR hP'
      have HD := Lib.hid (done_any [] 0)
      have hskl := sk_len ps
      go_wp2_with (at_len; refine wpList_mlen rfl (.tmp 33) rfl Tryz.underlying74 rfl HB.out.1 ?_)
      refine wp_region_still_tail 8 (by kernel_rfl) (by kernel_rfl) ?_
      simp only [List.take_succ_cons, List.take_zero, List.drop_succ_cons, List.drop_zero]
      repeat still_step
      refine wpStill_nil ?_
      change wpList _ _ _ _ _ W2.drew
      refine wpList_mstore rfl (.tmp 40) (.tmp 42) (.tmp 44) rfl Tryz.underlying9 Tryz.underlying74 rfl (HB.out.1.keep ((Keep.refl (fun _ => True) W2).drew) trivial) (by rw [sk_len]; simp only [maxLen]; omega) (l := k) (by simp only [maxLen]; omega) rfl (str v) rfl ?_
      intro W3 hm3 hk3
      rw [sk_put] at hm3
      obtain ⟨-, hf, hbr, hbx, hlt, hww⟩ := HB.out
      have hk23 : Keep (fun j => j ≠ bp) W2 W3 := (Keep.refl _ W2).drew.trans hk3
      have hbr3 := hbr.keep hk23 (by omega)
      have H3 := Lib.hid (And.intro hm3 (And.intro (hf.comp hk23 (fun _ _ _ => trivial) (fun _ _ h => h)) (And.intro hbr3 (And.intro hlt hww))))
      clear hm3 hk3 hf hbr hbx hlt hww hk23 hbr3 y0 y4 y5
      go_wp2_with fail
      refine (HD.out W3).mono ?_
      rintro e W4 ⟨rfl, f4⟩
      obtain ⟨hm3, hf3, hbr3, hlt, hww⟩ := H3.out
      have hbr4 := hbr3.keep f4 trivial
      have r0 := hbr4.cell 0
      have r1 := hbr4.cell 1
      have r2 := hbr4.cell 2
      have s0 := hbr4.frozen 0
      have s1 := hbr4.frozen 1
      have s2 := hbr4.frozen 2
      have rl := hbr4.lt
      simp at r0 r1 r2
      have H4 := Lib.hid (And.intro (hm3.keep f4 trivial) (And.intro (hf3.comp f4 (fun _ _ h => h) (fun _ _ _ => trivial)) (And.intro hbr4 (And.intro hlt hww))))
      clear hm3 hf3 hbr3 hlt hbr4 f4 HD H3 hww
      go_wp2_with fail
      obtain ⟨hm4, hf4, hbr4, hlt, hww⟩ := H4.out
      rw [HE.out.1]
      refine bodyPost_ret (results_one rfl _ _ (G + 1) 49 #[.int .i64 1, str [], .int .i64 0] _ rfl (((hbr4.set 0 _).set 1 _).set 2 _) Tryz.underlying49 rfl (by kernel_rfl)) rfl ?_
      refine ⟨rfl, ?_, ?_⟩
      · rw [HE.out.2]
        exact ((hm4.keep ((((Keep.refl (fun j => j ≠ G + 1) _).setCell (fun _ h => h rfl) _).setCell (fun _ h => h rfl) _).setCell (fun _ h => h rfl) _) (by omega)))
      · exact ((hf4.setCell (fun h => by simp at h; omega) _).setCell (fun h => by simp at h; omega) _).setCell (fun h => by simp at h; omega) _
end Go.Proofs.YtohnmaindbgngaaGreatDoor
namespace Go.Proofs.YtohnmaindbgngaaGreatDoor
set_option linter.unusedVariables false
set_option linter.unusedSimpArgs false
open Go.RowKit

def casP (k v d : List UInt8) (ps : Ps) : Ps := match pfind k ps with
  | some u => if u = d then pput k v ps else ps
  | none => ps
def casR (k d : List UInt8) (ps : Ps) : MRes := match pfind k ps with
  | some u => if u = d then ⟨1, d, 1⟩ else ⟨3, u, 1⟩
  | none => ⟨2, [], 0⟩

set_option maxRecDepth 20000 in
set_option maxHeartbeats 1000000 in
theorem cas_any (m bp : Nat) (ps : Ps) (c i r o : Int) (k v d : List UInt8) (w : World) (h0 : w.cell? ⟨m, 0, none⟩ = some (.map (some bp))) (hm : MapIs Tryz.prog 9 w bp (sk ps)) (hk : k.length ≤ 8) (hps : ps.length ≤ 1048576) :
    Calls Tryz.prog 48 #[.pointer (some ⟨m, 0, none⟩), cmdV c i r o k v d] w fun e w' => e = .returned (resV (casR k d ps)) ∧ MapIs Tryz.prog 9 w' bp (sk (casP k v d ps)) ∧ Keep (fun j => j ≠ bp) w w' := by
  obtain ⟨R, hR⟩ : ∃ R, R = casR k d ps := ⟨_, rfl⟩
  obtain ⟨P', hP'⟩ : ∃ P', P' = casP k v d ps := ⟨_, rfl⟩
  rw [← hR, ← hP']
  have hmlt := lt_of_cell h0
  have hblt := hm.lt
  obtain ⟨G, hG⟩ : ∃ G, G = w.heap.size := ⟨_, rfl⟩
  obtain ⟨W, hW⟩ : ∃ W, W = (w.alloc (.cells #[.int .i64 c, .int .i64 i, .int .i64 r, .int .i64 o, str k, str v, str d] 43)).alloc (.cells #[.int .i64 0, str [], .int .i64 0] 49) := ⟨_, rfl⟩
  have hf : Fresh w W := hW ▸ ((Keep.refl _ w).alloc _).alloc _
  have hbx : Blk W G 43 #[.int .i64 c, .int .i64 i, .int .i64 r, .int .i64 o, str k, str v, str d] := by rw [hW, hG]; exact (Blk.new _ _ _).alloc _
  have hbr : Blk W (G + 1) 49 #[.int .i64 0, str [], .int .i64 0] := by rw [hW]; exact Blk.newAt (by simp [hG])
  have hmW := hm.keep hf trivial
  have HL := Lib.hid (fun q => look_str hmW (l := k) (by omega) q)
  have x0 := hf.cellAt h0 trivial
  have k4 := hbx.cell 4
  have k5 := hbx.cell 5
  have k6 := hbx.cell 6
  simp at k4 k5 k6
  have HA := Lib.hid (And.intro hmW (And.intro hf (And.intro hbr (And.intro hbx (And.intro hG (And.intro hmlt hblt))))))
  clear hmW hf hbr hbx hmlt hblt hm h0
  go_enter Tryz.func48, Tryz.ntmps48
  go_wp2_with fail
  simp only [← hG]
  rw [← hW]
  clear hW hG
  have hlk := HL.out
  go_quiet (fail)
  obtain ⟨W2, hW2⟩ : ∃ W2, W2 = W.drewN nq := ⟨_, rfl⟩
  rw [← hW2]
  obtain ⟨hmW, hf, hbr, hbx, hG, hmlt, hblt⟩ := HA.out
  have hf2 : Fresh w W2 := hW2 ▸ hf.drewN nq
  have y0 : W2.cell? ⟨m, 0, none⟩ = some (.map (some bp)) := by rw [hW2]; exact x0
  have y4 : W2.cell? ⟨G, 4, none⟩ = some (str k) := by rw [hW2]; exact k4
  have y5 : W2.cell? ⟨G, 5, none⟩ = some (str v) := by rw [hW2]; exact k5
  have y6 : W2.cell? ⟨G, 6, none⟩ = some (str d) := by rw [hW2]; exact k6
  have HB := Lib.hid (And.intro (show MapIs Tryz.prog 9 W2 bp (sk ps) by rw [hW2]; exact hmW.keep (Keep.drewN (Keep.refl (fun _ => True) W) nq) trivial) (And.intro hf2 (And.intro (show Blk W2 (G + 1) 49 #[.int .i64 0, str [], .int .i64 0] by rw [hW2]; exact hbr.drewN nq) (And.intro (show Blk W2 G 43 _ by rw [hW2]; exact hbx.drewN nq) (And.intro (show bp < G by omega) hG)))))
  clear hmW hf hbr hbx hG hmlt hblt hf2 hW2 x0 k4 k5 k6 HL hlk HA
  cases hpf : pfind k ps with
  | none =>
    have HE : Hid (R = ⟨2, [], 0⟩ ∧ P' = ps) := ⟨by simp [hR, casR, hpf], by simp [hP', casP, hpf]⟩
    clear hpf hR hP'
    have HD := Lib.hid (code_any 2)
    go_wp2_with fail
    refine (HD.out W2).mono ?_
    rintro e W4 ⟨rfl, f4⟩
    obtain ⟨hm3, hf3, hbr3, -, hlt, hww⟩ := HB.out
    have hbr4 := hbr3.keep f4 trivial
    have r0 := hbr4.cell 0
    have r1 := hbr4.cell 1
    have r2 := hbr4.cell 2
    have s0 := hbr4.frozen 0
    have s1 := hbr4.frozen 1
    have s2 := hbr4.frozen 2
    have rl := hbr4.lt
    simp at r0 r1 r2
    have H4 := Lib.hid (And.intro (hm3.keep f4 trivial) (And.intro (hf3.trans f4) (And.intro hbr4 (And.intro hlt hww))))
    clear hm3 hf3 hbr3 hlt hbr4 f4 HD HB hww y0 y4 y5 y6
    go_wp2_with fail
    obtain ⟨hm4, hf4, hbr4, hlt, hww⟩ := H4.out
    rw [HE.out.1]
    refine bodyPost_ret (results_one rfl _ _ (G + 1) 49 #[.int .i64 2, str [], .int .i64 0] _ rfl (((hbr4.set 0 _).set 1 _).set 2 _) Tryz.underlying49 rfl (by kernel_rfl)) rfl ?_
    refine ⟨rfl, ?_, ?_⟩
    · rw [HE.out.2]
      exact ((hm4.keep ((((Keep.refl (fun j => j ≠ G + 1) _).setCell (fun _ h => h rfl) _).setCell (fun _ h => h rfl) _).setCell (fun _ h => h rfl) _) (by omega)))
    · exact (((hf4.setCell (fun h => by simp at h; omega) _).setCell (fun h => by simp at h; omega) _).setCell (fun h => by simp at h; omega) _).weaken (fun _ _ _ => trivial)
  | some u =>
    by_cases hud : u = d
    · subst hud
      have HE : Hid (R = ⟨1, u, 1⟩ ∧ P' = pput k v ps) := ⟨by simp [hR, casR, hpf], by simp [hP', casP, hpf]⟩
      clear hpf hR hP'
      have HD := Lib.hid (done_any u 1)
      go_wp2_with fail
      refine wp_region_still_tail 8 (by kernel_rfl) (by kernel_rfl) ?_
      simp only [List.take_succ_cons, List.take_zero, List.drop_succ_cons, List.drop_zero]
      repeat still_step
      refine wpStill_nil ?_
      change wpList _ _ _ _ _ W2.drew
      refine wpList_mstore rfl (.tmp 31) (.tmp 33) (.tmp 35) rfl Tryz.underlying9 Tryz.underlying74 rfl (HB.out.1.keep ((Keep.refl (fun _ => True) W2).drew) trivial) (by rw [sk_len]; simp only [maxLen]; omega) (l := k) (by simp only [maxLen]; omega) rfl (str v) rfl ?_
      intro W3 hm3 hk3
      rw [sk_put] at hm3
      obtain ⟨-, hf, hbr, hbx, hlt, hww⟩ := HB.out
      have hk23 : Keep (fun j => j ≠ bp) W2 W3 := (Keep.refl _ W2).drew.trans hk3
      have hbr3 := hbr.keep hk23 (by omega)
      have hbx3 := hbx.keep hk23 (by omega)
      have z6 := hbx3.cell 6
      have zl := hbx3.lt
      simp at z6
      clear hbx3
      have H3 := Lib.hid (And.intro hm3 (And.intro (hf.comp hk23 (fun _ _ _ => trivial) (fun _ _ h => h)) (And.intro hbr3 (And.intro hlt hww))))
      clear hm3 hk3 hf hbr hbx hlt hww hk23 hbr3 y0 y4 y5
      go_wp2_with fail
      refine (HD.out W3).mono ?_
      rintro e W4 ⟨rfl, f4⟩
      obtain ⟨hm3, hf3, hbr3, hlt, hww⟩ := H3.out
      have hbr4 := hbr3.keep f4 trivial
      have r0 := hbr4.cell 0
      have r1 := hbr4.cell 1
      have r2 := hbr4.cell 2
      have s0 := hbr4.frozen 0
      have s1 := hbr4.frozen 1
      have s2 := hbr4.frozen 2
      have rl := hbr4.lt
      simp at r0 r1 r2
      have H4 := Lib.hid (And.intro (hm3.keep f4 trivial) (And.intro (hf3.comp f4 (fun _ _ h => h) (fun _ _ _ => trivial)) (And.intro hbr4 (And.intro hlt hww))))
      clear hm3 hf3 hbr3 hlt hbr4 f4 HD H3 hww
      go_wp2_with fail
      obtain ⟨hm4, hf4, hbr4, hlt, hww⟩ := H4.out
      rw [HE.out.1]
      refine bodyPost_ret (results_one rfl _ _ (G + 1) 49 #[.int .i64 1, str u, .int .i64 1] _ rfl (((hbr4.set 0 _).set 1 _).set 2 _) Tryz.underlying49 rfl (by kernel_rfl)) rfl ?_
      refine ⟨rfl, ?_, ?_⟩
      · rw [HE.out.2]
        exact ((hm4.keep ((((Keep.refl (fun j => j ≠ G + 1) _).setCell (fun _ h => h rfl) _).setCell (fun _ h => h rfl) _).setCell (fun _ h => h rfl) _) (by omega)))
      · exact ((hf4.setCell (fun h => by simp at h; omega) _).setCell (fun h => by simp at h; omega) _).setCell (fun h => by simp at h; omega) _
    · have HE : Hid (R = ⟨3, u, 1⟩ ∧ P' = ps) := ⟨by simp [hR, casR, hpf, hud], by simp [hP', casP, hpf, hud]⟩
      clear hpf hR hP'
      have hudb : (u == d) = false := by simpa using hud
      obtain ⟨hm3, hf3, hbr3, -, hlt, hww⟩ := HB.out
      have r0 := hbr3.cell 0
      have r1 := hbr3.cell 1
      have r2 := hbr3.cell 2
      have s0 := hbr3.frozen 0
      have s1 := hbr3.frozen 1
      have s2 := hbr3.frozen 2
      have rl := hbr3.lt
      simp at r0 r1 r2
      clear hm3 hf3 hbr3 hlt hww
      go_wp2_with fail
      obtain ⟨hm4, hf4, hbr4, -, hlt, hww⟩ := HB.out
      rw [HE.out.1]
      refine bodyPost_ret (results_one rfl _ _ (G + 1) 49 #[.int .i64 3, str u, .int .i64 1] _ rfl (((hbr4.set 0 _).set 1 _).set 2 _) Tryz.underlying49 rfl (by kernel_rfl)) rfl ?_
      refine ⟨rfl, ?_, ?_⟩
      · rw [HE.out.2]
        exact ((hm4.keep ((((Keep.refl (fun j => j ≠ G + 1) _).setCell (fun _ h => h rfl) _).setCell (fun _ h => h rfl) _).setCell (fun _ h => h rfl) _) (by omega)))
      · exact (((hf4.setCell (fun h => by simp at h; omega) _).setCell (fun h => by simp at h; omega) _).setCell (fun h => by simp at h; omega) _).weaken (fun _ _ _ => trivial)

/-- Which function does an operation. -/
theorem opOf_any (o : Int) (f : Nat) (w : World) (h : (o = 1 ∧ f = 46) ∨ (o = 3 ∧ f = 48)) : Calls Tryz.prog 26 #[.int .i64 o] w fun e w' => e = .returned (.agg #[.func (Fn.func f) #[] #[]]) ∧ Fresh w w' := by
  rcases h with ⟨rfl, rfl⟩ | ⟨rfl, rfl⟩
  all_goals
    go_enter Tryz.func26, Tryz.ntmps26
    go_wp2
    refine bodyPost_ret (results_one rfl _ _ w.heap.size 86 _ _ rfl (Blk.new _ _ _) Tryz.underlying86 rfl (by kernel_rfl)) rfl ?_
    exact ⟨rfl, (Keep.refl _ w).alloc _⟩
end Go.Proofs.YtohnmaindbgngaaGreatDoor
