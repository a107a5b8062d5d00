/-
  MERGED: RepC Map Mach Mach2 Mach3
-/
import Derived.Test.YtioinjcdkmiafaaDoorYA8
import Derived.Test.YtioinjcdkmiafaaDoorYA9
import Derived.Test.YtioinjcdkmiafaaDoorYB1
import Derived.Test.YtioinjcdkmiafaaDoorYA0
import Derived.Maps.OwnSet
import Derived.Test.YtioinjcdkmiafaaDoorYA3
import Derived.Test.YtioinjcdkmiafaaDoorYA7
import Derived.Test.YtioinjcdkmiafaaDoorYA4
import Derived.StillTailTactics
import Derived.Laws.EntriesVeiled
namespace Go.Proofs.YtioinjcdkmiafaaDoor
set_option linter.unusedVariables false
set_option linter.unusedSimpArgs false
open Go.RowKit

theorem fresh_of {w w1 w' : World} {g : Nat} (h1 : Fresh w w1) (h2 : Keep (fun k => k ≠ g) w1 w') (hg : w.heap.size ≤ g) : Fresh w w' :=
  h1.comp h2 (fun _ _ h => h) (fun j hj _ e => by omega)
set_option maxRecDepth 20000 in
set_option maxHeartbeats 800000 in
theorem pone_any (A : Option Addr) (n c : Nat) (bs : List UInt8) (w : World) (hb : Rd w (fun _ => True) 1 A n (Lib.byteCells bs)) (hn : n ≤ 1099511627770) :
    Calls Tryd.prog 9 #[.slice A n c] w fun e w' => (∃ ev, e = .returned (.tuple #[.int .i64 ((rCount bs 0 false mxC).1 : Int), ev]) ∧ Amiss (!oneOk bs) ev) ∧ Fresh w w' := by
  have hlen : bs.length = n := by simpa [Lib.byteCells] using hb.1
  obtain ⟨w1, hw1⟩ : ∃ w1, w1 = w.alloc (.cells #[.slice A n c, .int .i64 0, .iface 45 (.int .i64 121), .nilIface] 47) := ⟨_, rfl⟩
  obtain ⟨g, hg⟩ : ∃ b, b = w.heap.size := ⟨_, rfl⟩
  have hf1 : Fresh w w1 := by rw [hw1]; exact (Keep.refl _ w).alloc _
  have hp1 : PR w1 g A n c 121 0 false := ⟨.nilIface, by rw [hw1, hg]; exact Blk.new _ _ _, .inl ⟨rfl, rfl⟩⟩
  have hb1 : Rd w1 (fun _ => True) 1 A n (Lib.byteCells bs) := hb.keep hf1
  have HC := Lib.hid (pcount_any g (fun _ => True) A n c bs 121 0 false { data := #[99, 111, 117, 110, 116] } w1 hp1 (Nat.zero_le _) hb1 hn)
  have hle := rCount_le bs 0 false mxC (Nat.zero_le _)
  obtain ⟨r, hr⟩ : ∃ r, r = rCount bs 0 false mxC := ⟨_, rfl⟩
  have HO : Hid ((!oneOk bs) = (r.2.2 || !decide (r.2.1 = n))) := Lib.hid (by
    unfold oneOk
    rw [← hr, hlen]
    cases r.2.2 <;> simp)
  rw [← hr] at HC hle ⊢
  obtain ⟨rv, rp, rb⟩ := r
  dsimp only at HC HO hle ⊢
  have HE := Lib.hid (fun (u : World) (hu : PR u g A n c 121 rp rb) => pend_any g A n c 121 rp rb u hu (by omega) hn)
  have HF1 := Lib.hid (And.intro hf1 (show w.heap.size ≤ g by omega))
  clear hb hf1 hp1 hb1 hr hlen
  go_enter Tryd.func9, Tryd.ntmps9
  go_upto_region 2 with (fail)
  rw [← hg]
  generalize hwx : World.alloc w _ = wx
  obtain rfl : w1 = wx := hw1.trans hwx
  clear hwx hw1 hg
  go_wp2_with fail
  refine HC.out.mono ?_
  rintro e w2 ⟨rfl, hp2, hk2⟩
  have HE2 := Lib.hid (HE.out w2 hp2)
  have H2 := Lib.hid hk2
  clear hp2 hk2 HC HE
  go_wp2_with fail
  refine HE2.out.mono ?_
  rintro e w3 ⟨⟨ev, rfl, hev⟩, hp3, hk3⟩
  have H3 := Lib.hid (And.intro hev (fresh_of HF1.out.1 (H2.out.trans hk3) HF1.out.2))
  clear hev hp3 hk3 HE2
  go_wp2_with fail
  go_ret2
  exact ⟨⟨ev, rfl, by rw [HO.out]; exact H3.out.1⟩, H3.out.2⟩
set_option maxRecDepth 20000 in
set_option maxHeartbeats 800000 in
theorem rone_any (A : Option Addr) (n c : Nat) (bs : List UInt8) (w : World) (hb : Rd w (fun _ => True) 1 A n (Lib.byteCells bs)) (hn : n ≤ 1099511627770) :
    Calls Tryd.prog 11 #[.slice A n c] w fun e w' => e = .returned (.int .i64 (if oneOk bs = true then ((rCount bs 0 false mxC).1 : Int) else -1)) ∧ Fresh w w' := by
  have hlen : bs.length = n := by simpa [Lib.byteCells] using hb.1
  obtain ⟨w1, hw1⟩ : ∃ w1, w1 = w.alloc (.cells #[.slice A n c, .int .i64 0, .int .i64 0] 53) := ⟨_, rfl⟩
  obtain ⟨g, hg⟩ : ∃ b, b = w.heap.size := ⟨_, rfl⟩
  have hf1 : Fresh w w1 := by rw [hw1]; exact (Keep.refl _ w).alloc _
  have hp1 : RRd w1 g A n c 0 0 := by rw [hw1, hg]; exact Blk.new _ _ _
  have HC := Lib.hid (readNum_any g (fun _ => True) A n c bs 0 0 0 mxC w1 hp1 (Nat.zero_le _) (hb.keep hf1) hn)
  obtain ⟨h1, h2⟩ := one_same bs
  obtain ⟨r, hr⟩ : ∃ r, r = nNum bs 0 0 0 mxC := ⟨_, rfl⟩
  have hd : doc1 bs = r := hr.symm
  rw [hd, hlen] at h1
  rw [hd] at h2
  rw [← hr] at HC
  obtain ⟨R, hR⟩ : ∃ R : Int, R = if oneOk bs = true then ((rCount bs 0 false mxC).1 : Int) else -1 := ⟨_, rfl⟩
  rw [← hR]
  obtain ⟨rv, rp, re⟩ := r
  dsimp only at HC h1 h2
  have HO : Hid (R = if re = 0 ∧ rp = n then (rv : Int) else -1) := Lib.hid (by
    rw [hR]
    by_cases ho : oneOk bs = true
    · rw [if_pos ho]
      rw [ho] at h1
      simp at h1
      rw [if_pos h1, ← h2 ho]
    · rw [if_neg ho]
      rw [Bool.not_eq_true] at ho
      rw [ho] at h1
      rw [if_neg]
      rintro ⟨h3, h4⟩
      simp [h3, h4] at h1)
  have HF1 := Lib.hid (And.intro hf1 (show w.heap.size ≤ g by omega))
  have HE := Lib.hid (fun (u : World) (hu : RRd u g A n c rp re) => readEnd_any g A n c rp re u hu)
  clear hb hf1 hp1 hr hlen hd h1 h2 hR
  go_enter Tryd.func11, Tryd.ntmps11
  go_upto_region 2 with (fail)
  rw [← hg]
  generalize hwx : World.alloc w _ = wx
  obtain rfl : w1 = wx := hw1.trans hwx
  clear hwx hw1 hg
  go_wp2_with fail
  refine HC.out.mono ?_
  rintro e w2 ⟨rfl, hp2, hk2⟩
  have HE2 := Lib.hid (HE.out w2 hp2)
  have H2 := Lib.hid hk2
  clear hp2 hk2 HC HE
  go_wp2_with fail
  refine HE2.out.mono ?_
  rintro e w3 ⟨rfl, hp3, hk3⟩
  have c2 := hp3.cell 2; have lg := hp3.lt
  simp at c2
  have H3 := Lib.hid (fresh_of HF1.out.1 (H2.out.trans hk3) HF1.out.2)
  clear hp3 hk3 HE2
  by_cases a1 : re = 0
  · subst a1
    by_cases a2 : rp = n
    · subst a2
      rw [if_neg (by simp)] at c2
      obtain rfl : R = (rv : Int) := by rw [HO.out, if_pos ⟨rfl, rfl⟩]
      go_wp2_with fail
      go_ret
      exact ⟨rfl, H3.out⟩
    · rw [if_pos ⟨rfl, a2⟩] at c2
      obtain rfl : R = -1 := by rw [HO.out, if_neg (fun h => a2 h.2)]
      go_wp2_with fail
      go_ret
      exact ⟨rfl, H3.out⟩
  · rw [if_neg (fun h => a1 h.1)] at c2
    have d1 : (re != 0) = true := by simpa using a1
    obtain rfl : R = -1 := by rw [HO.out, if_neg (fun h => a1 h.1)]
    clear a1
    go_wp2_with fail
    go_ret
    exact ⟨rfl, H3.out⟩
end Go.Proofs.YtioinjcdkmiafaaDoor
namespace Go.Proofs.YtioinjcdkmiafaaDoor
set_option linter.unusedVariables false
set_option linter.unusedSimpArgs false
open Go.RowKit
open Go.Maps (Keyed)

abbrev Kv := List UInt8 × Value
/-- Every element reads as itself. -/
def Rv (v : Value) : Option (DataW Value × List MemPlace) := some (.held v, [])
def mEnt (p : Kv) : Lit × DataW Value := (.string p.1, .held p.2)
def mD (ps : List Kv) : DataW Value := .map (ps.map mEnt)
/-- Block b is a map that holds just these. -/
def MapIs (P : Program) (k : TypeId) (w : World) (b : Nat) (ps : List Kv) : Prop := w.ownsMap P k Rv b ps.length (mD ps)
def mfind (k : List UInt8) (ps : List Kv) : Option Value := (ps.find? fun p => p.1 == k).map (·.2)
def mins (x : Kv) : List Kv → List Kv
  | [] => [x]
  | y :: r => if bytesBefore x.1 y.1 then x :: y :: r else y :: mins x r
def mdel (k : List UInt8) (ps : List Kv) : List Kv := ps.filter fun p => !(p.1 == k)
def mput (k : List UInt8) (v : Value) (ps : List Kv) : List Kv := mins (k, v) (mdel k ps)

theorem mD_insert (x : Kv) : ∀ ps : List Kv, DataW.insert (mEnt x) (ps.map mEnt) = (mins x ps).map mEnt
  | [] => rfl
  | y :: r => by
    simp only [List.map_cons, DataW.insert, mins]
    have e : (mEnt x).1.before (mEnt y).1 = bytesBefore x.1 y.1 := rfl
    rw [e]
    split
    · rfl
    · rw [mD_insert x r]; rfl
theorem mD_filter (k : List UInt8) (ps : List Kv) : (ps.map mEnt).filter (fun p => !p.1.sameKey (.string k)) = (mdel k ps).map mEnt := by
  unfold mdel
  rw [List.filter_map]
  rfl
theorem mD_put (k : List UInt8) (v : Value) (ps : List Kv) : (mD ps).put (.string k) (.held v) = mD (mput k v ps) := by
  unfold mD DataW.put
  simp only
  rw [mD_filter]
  exact congrArg DataW.map (mD_insert (k, v) _)
theorem mD_del (k : List UInt8) (ps : List Kv) : (mD ps).del (.string k) = mD (mdel k ps) := by
  unfold mD DataW.del
  simp only
  rw [mD_filter]
theorem mD_has (k : List UInt8) (ps : List Kv) : Maps.has (mD ps) (.string k) = (mfind k ps).isSome := by
  unfold mD Maps.has mfind
  simp only
  induction ps with
  | nil => rfl
  | cons p ps ih =>
    simp only [List.map_cons, List.any_cons, List.find?_cons]
    rw [ih]
    have e : (mEnt p).1.sameKey (.string k) = (p.1 == k) := rfl
    rw [e]
    cases h : p.1 == k <;> simp
theorem mD_at (k : List UInt8) (z : Value) (ps : List Kv) : (mD ps).atKey (.string k) (.held z) = .held ((mfind k ps).getD z) := by
  unfold mD DataW.atKey mfind
  simp only
  induction ps with
  | nil => rfl
  | cons p ps ih =>
    simp only [List.map_cons, List.find?_cons]
    have e : (mEnt p).1.sameKey (.string k) = (p.1 == k) := rfl
    rw [e]
    cases h : p.1 == k
    · exact ih
    · rfl
theorem mD_size (ps : List Kv) : Maps.size (mD ps) = ps.length := by simp [mD, Maps.size]
theorem mins_len (x : Kv) : ∀ ps : List Kv, (mins x ps).length = ps.length + 1
  | [] => rfl
  | y :: r => by
    unfold mins
    split
    · rfl
    · simp [mins_len x r]
theorem mdel_len (k : List UInt8) (ps : List Kv) : (mdel k ps).length ≤ ps.length := List.length_filter_le _ _
theorem mput_len (k : List UInt8) (v : Value) (ps : List Kv) : (mput k v ps).length ≤ ps.length + 1 := by
  unfold mput
  rw [mins_len]
  have := mdel_len k ps
  omega

section
variable {P : Program} {k : TypeId} {w w' : World} {b : Nat} {ps : List Kv}
theorem MapIs.of {n : Nat} {D : DataW Value} (h : w.ownsMap P k Rv b n D) (hD : D = mD ps) : MapIs P k w b ps := by
  subst hD
  obtain ⟨es, clock, hb, F, _, hD⟩ := h
  refine ⟨es, clock, hb, F, ?_, hD⟩
  have h1 := congrArg Maps.size hD
  rw [mD_size] at h1
  simp [Maps.size, length_sorted] at h1
  omega
theorem MapIs.made (w : World) (P : Program) (k : TypeId) : MapIs P k (w.alloc (.map #[] 0)) w.heap.size [] := World.ownsMap_made w P k Rv
theorem MapIs.lt (h : MapIs P k w b ps) : b < w.heap.size := World.ownsMap.lt h
theorem MapIs.blk (h : MapIs P k w b ps) (hb : w'.heap[b]? = w.heap[b]?) : MapIs P k w' b ps := by
  obtain ⟨es, clock, hh, F, hs, hD⟩ := h
  exact ⟨es, clock, hb.trans hh, F, hs, hD⟩
theorem MapIs.keep {Z : Nat → Prop} (h : MapIs P k w b ps) (hk : Keep Z w w') (hz : Z b) : MapIs P k w' b ps := h.blk (hk.block b h.lt hz)
theorem MapIs.ne_blk {g : Nat} {t : TypeId} {cs : Array Value} (h : MapIs P k w b ps) (hg : Blk w g t cs) : b ≠ g := by
  rintro rfl
  obtain ⟨es, clock, hh, _⟩ := h
  unfold Blk at hg
  rw [hg] at hh
  cases hh
theorem str_key (hk : P.underlying k = some .string) {l : List UInt8} (hl : l.length ≤ maxLen) : keyOf P k (.string ⟨l.toArray⟩) = some (.string l) := by
  have := Go.WideMaps.keyOf_string_mk (P := P) hk (s := ⟨l.toArray⟩) (by show l.length ≤ maxLen; exact hl)
  simpa using this
theorem MapIs.look_ok {t e : TypeId} (h : MapIs P k w b ps) (hk : P.underlying k = some .string) (ht : P.underlying t = some (.map k e)) {z : Value} (hz : (zeroValue e).run P w = .ok z w) {l : List UInt8} (hl : l.length ≤ maxLen) :
    (Instr.lookup t (.map (some b)) (.string ⟨l.toArray⟩) true).run P w = .ok (.tuple #[(mfind l ps).getD z, .bool (mfind l ps).isSome]) w := by
  obtain ⟨v, qs, hrun, hv⟩ := World.ownsMap.look_ok h (Maps.string_keyed hk) ht hz (zd := .held z) (zp := []) rfl (str_key hk hl)
  rw [mD_has] at hrun
  rw [mD_at] at hv
  unfold Rv at hv
  injection hv with hv
  injection hv with hv _
  injection hv with hv
  rw [hrun, hv]
theorem MapIs.look {t e : TypeId} (h : MapIs P k w b ps) (hk : P.underlying k = some .string) (ht : P.underlying t = some (.map k e)) {z : Value} (hz : (zeroValue e).run P w = .ok z w) {l : List UInt8} (hl : l.length ≤ maxLen) :
    (Instr.lookup t (.map (some b)) (.string ⟨l.toArray⟩) false).run P w = .ok ((mfind l ps).getD z) w := by
  obtain ⟨v, qs, hrun, hv⟩ := World.ownsMap.lookup h (Maps.string_keyed hk) ht hz (zd := .held z) (zp := []) rfl (str_key hk hl)
  rw [mD_at] at hv
  unfold Rv at hv
  injection hv with hv
  injection hv with hv _
  injection hv with hv
  rw [hrun, hv]
theorem MapIs.len {t e : TypeId} (h : MapIs P k w b ps) (ht : P.underlying t = some (.map k e)) (ty : TypeId) : (Builtin.len_ #[t] ty #[.map (some b)]).run P w = .ok (.int .i64 (ps.length : Int)) w := by
  have := World.ownsMap.len h ht ty
  rwa [mD_size] at this
theorem Keep.of_turned (h : w.mapTurned w' b) : Keep (fun i => i ≠ b) w w' := (Keep.of_grown h.grown).weaken fun i _ hi e => hi (by injection e with e; exact e.symm)
theorem MapIs.store {t e : TypeId} (h : MapIs P k w b ps) (hk : P.underlying k = some .string) (ht : P.underlying t = some (.map k e)) (hn : ps.length < maxLen) {l : List UInt8} (hl : l.length ≤ maxLen) (v : Value) :
    ∃ w', (Instr.mapUpdate t (.map (some b)) (.string ⟨l.toArray⟩) v).run P w = .ok () w' ∧ MapIs P k w' b (mput l v ps) ∧ Keep (fun i => i ≠ b) w w' := by
  obtain ⟨w', hrun, ho, ht'⟩ := World.ownsMap.store h (Maps.string_keyed hk) ht hn (str_key hk hl) (val := v) (d := .held v) (ps := []) rfl
  exact ⟨w', hrun, MapIs.of ho (mD_put l v ps), Keep.of_turned ht'⟩
theorem MapIs.drop {t e : TypeId} (h : MapIs P k w b ps) (hk : P.underlying k = some .string) (ht : P.underlying t = some (.map k e)) {l : List UInt8} (hl : l.length ≤ maxLen) (ty : TypeId) :
    ∃ w', (Builtin.delete_ #[t, k] ty #[.map (some b), .string ⟨l.toArray⟩]).run P w = .ok (.tuple #[]) w' ∧ MapIs P k w' b (mdel l ps) ∧ Keep (fun i => i ≠ b) w w' := by
  obtain ⟨w', hrun, ho, ht'⟩ := World.ownsMap.drop h (Maps.string_keyed hk) ht (str_key hk hl) ty
  exact ⟨w', hrun, MapIs.of ho (mD_del l ps), Keep.of_turned ht'⟩
/-- The operation, for the walk. -/
theorem wpList_mstore {t e : TypeId} {ops : Array Oper} {rest : List Oper} {o : Oper} {a : Act} {Q : Exit → Act → World → Prop} (hgd : o.guard = none) (m x v : Operand) (hop : o.op = Op.mapUpdate t m x v)
    (hk : P.underlying k = some .string) (ht : P.underlying t = some (.map k e)) (hm : a.eval m = .map (some b)) (h : MapIs P k w b ps) (hn : ps.length < maxLen) {l : List UInt8} (hl : l.length ≤ maxLen) (hx : a.eval x = .string ⟨l.toArray⟩) (u : Value) (hv : a.eval v = u)
    (hK : ∀ w', MapIs P k w' b (mput l u ps) → Keep (fun i => i ≠ b) w w' → wpList P ops Q rest (a.put o.dst undef) w') : wpList P ops Q (o :: rest) a w := by
  refine wpList_plain hgd fun K' hK' => ?_
  obtain ⟨w', hrun, r1, r2⟩ := h.store hk ht hn hl u
  unfold Oper.wp
  simp [execOp, hop, hm, hx, hv, hrun, Result.andThen]
  exact hK' _ _ (hK w' r1 r2)
theorem wpList_mlen {t e : TypeId} {ops : Array Oper} {rest : List Oper} {o : Oper} {a : Act} {Q : Exit → Act → World → Prop} (hgd : o.guard = none) (m : Operand) (hop : o.op = Op.call { callee := Callee.builtin Builtin.len, args := #[m], argTypes := #[t] })
    (ht : P.underlying t = some (.map k e)) (hm : a.eval m = .map (some b)) (h : MapIs P k w b ps) (hK : wpList P ops Q rest (a.put o.dst (.int .i64 (ps.length : Int))) w) : wpList P ops Q (o :: rest) a w := by
  refine wpList_plain hgd fun K' hK' => ?_
  have hrun := h.len ht o.type
  unfold Oper.wp execOp
  simp only [hop, resolve, invoke, builtin, Sem.run_bind, Sem.run_pure, Result.andThen_ok, List.map_toArray, List.map_cons, List.map_nil, hm, hrun]
  exact hK' _ _ hK
theorem wpList_mdrop {t e : TypeId} {ops : Array Oper} {rest : List Oper} {o : Oper} {a : Act} {Q : Exit → Act → World → Prop} (hgd : o.guard = none) (m x : Operand) (hop : o.op = Op.call { callee := Callee.builtin Builtin.delete, args := #[m, x], argTypes := #[t, k] })
    (hk : P.underlying k = some .string) (ht : P.underlying t = some (.map k e)) (hm : a.eval m = .map (some b)) (h : MapIs P k w b ps) {l : List UInt8} (hl : l.length ≤ maxLen) (hx : a.eval x = .string ⟨l.toArray⟩)
    (hK : ∀ w', MapIs P k w' b (mdel l ps) → Keep (fun i => i ≠ b) w w' → wpList P ops Q rest (a.put o.dst (.tuple #[])) w') : wpList P ops Q (o :: rest) a w := by
  refine wpList_plain hgd fun K' hK' => ?_
  obtain ⟨w', hrun, r1, r2⟩ := h.drop hk ht hl o.type
  unfold Oper.wp execOp
  simp only [hop, resolve, invoke, builtin, Sem.run_bind, Sem.run_pure, Result.andThen_ok, List.map_toArray, List.map_cons, List.map_nil, hm, hx, hrun]
  exact hK' _ _ (hK w' r1 r2)
end
end Go.Proofs.YtioinjcdkmiafaaDoor
namespace Go.Proofs.YtioinjcdkmiafaaDoor
set_option linter.unusedVariables false
set_option linter.unusedSimpArgs false
open Go.RowKit

abbrev Ps := List (List UInt8 × List UInt8)
def sk (ps : Ps) : List Kv := ps.map fun p => (p.1, str p.2)
def pfind (k : List UInt8) (ps : Ps) : Option (List UInt8) := (ps.find? fun p => p.1 == k).map (·.2)
def pins (x : List UInt8 × List UInt8) : Ps → Ps
  | [] => [x]
  | y :: r => if bytesBefore x.1 y.1 then x :: y :: r else y :: pins x r
def pdel (k : List UInt8) (ps : Ps) : Ps := ps.filter fun p => !(p.1 == k)
def pput (k v : List UInt8) (ps : Ps) : Ps := pins (k, v) (pdel k ps)
theorem sk_len (ps : Ps) : (sk ps).length = ps.length := by simp [sk]
theorem sk_find (k : List UInt8) (ps : Ps) : mfind k (sk ps) = (pfind k ps).map str := by
  unfold mfind pfind sk
  induction ps with
  | nil => rfl
  | cons p ps ih =>
    simp only [List.map_cons, List.find?_cons]
    cases h : p.1 == k
    · exact ih
    · rfl
theorem sk_ins (x : List UInt8 × List UInt8) : ∀ ps : Ps, mins (x.1, str x.2) (sk ps) = sk (pins x ps)
  | [] => rfl
  | y :: r => by
    have e : sk (y :: r) = (y.1, str y.2) :: sk r := rfl
    rw [e, mins, pins]
    dsimp only
    split
    · rfl
    · rw [sk_ins x r]; rfl
theorem sk_del (k : List UInt8) (ps : Ps) : mdel k (sk ps) = sk (pdel k ps) := by
  unfold mdel sk pdel
  rw [List.filter_map]
  rfl
theorem sk_put (k v : List UInt8) (ps : Ps) : mput k (str v) (sk ps) = sk (pput k v ps) := by
  unfold mput pput
  rw [sk_del]
  exact sk_ins (k, v) _

/-- A result. -/
abbrev MRes := ResD
abbrev resV (r : MRes) : Value := .agg #[.int .i64 r.code, str r.val, .int .i64 r.n]
/-- A client's session. -/
abbrev MSess := SesD
def MSess.cells (s : MSess) : List Value := [.int .i64 s.inc, .int .i64 s.req, .int .i64 s.last.code, str s.last.val, .int .i64 s.last.n]
theorem sess_five (s : MSess) : s.cells.length = 5 := rfl
def mchcells (bp bl : Nat) (tok : Int) (ss : List MSess) : List Value := [.map (some bp), .map (some bl), .int .i64 tok] ++ rcells MSess.cells ss

theorem run_zero_str (w : World) : (zeroValue 9).run Tryd.prog w = .ok (str []) w := by kernel_rfl
/-- 'm[k]' of a map of strings, for the walk. -/
theorem look_str {w : World} {b : Nat} {ps : Ps} (h : MapIs Tryd.prog 9 w b (sk ps)) {l : List UInt8} (hl : l.length ≤ 1099511627776) (k : Nat) :
    (Instr.lookup 87 (.map (some b)) (str l) true).run Tryd.prog (w.drewN k) = .ok (.tuple #[str ((pfind l ps).getD []), .bool (pfind l ps).isSome]) (w.drewN k) := by
  have h1 := MapIs.look_ok (h.keep (Keep.drewN (Keep.refl (fun _ => True) w) k) trivial) Tryd.underlying9 Tryd.underlying87 (run_zero_str _) (l := l) (by simp only [maxLen]; omega)
  rw [h1, sk_find]
  cases pfind l ps <;> rfl

def zeroSess : MSess := ⟨0, 0, ⟨0, [], 0⟩⟩
theorem results_one {P : Program} {fn : Func} {p : Tmp} {ty : TypeId} (h : fn.results = #[.cell p ty]) (tmps : Array Value) (w : World) (g : Nat) (t : TypeId) (cs : Array Value) (d : TypeDesc)
    (hp : tmps.getD p undef = .pointer (some ⟨g, 0, none⟩)) (hg : Blk w g t cs) (hu : P.underlying ty = some d) (hd : (match d with | .struct _ | .array _ _ => true | _ => false) = true) (hi : (P.info? ty).map (·.size) = some cs.size) :
    (results fn tmps).run P w = .ok (.agg cs) w := results_cell_row h tmps w g t cs (0, 0) d hp hg hu hd hi
/-- The machine in block m: its pairs, its tokens, its sessions; no lock. -/
structure MOn (w : World) (m bp bl : Nat) (ps : Ps) (tok : Int) (ss : List MSess) : Prop where
  blk : Blk w m 95 (mchcells bp bl tok ss).toArray
  len : ss.length = 16
  pm : MapIs Tryd.prog 9 w bp (sk ps)
  lm : MapIs Tryd.prog 9 w bl []
  ne : bp ≠ bl
theorem new_any (w : World) : Calls Tryd.prog 34 #[] w fun e w' => (∃ m bp bl : Nat, e = .returned (.pointer (some ⟨m, 0, none⟩)) ∧ MOn w' m bp bl [] 0 (List.replicate 16 zeroSess) ∧ w.heap.size ≤ m ∧ w.heap.size ≤ bp ∧ w.heap.size ≤ bl) ∧ Fresh w w' := by
  have hmm := @run_makeMap Tryd.prog
  go_enter Tryd.func34, Tryd.ntmps34
  go_wp2
  go_ret
  have h1 : ∀ a b : Nat, (Tryd.zeroCells95.setIfInBounds 0 (.map (some a))).setIfInBounds 1 (.map (some b)) = (mchcells a b 0 (List.replicate 16 zeroSess)).toArray := fun a b => by kernel_rfl
  rw [h1]
  refine ⟨⟨_, _, _, rfl, ⟨Blk.newAt (by simp), by simp, ?_, ?_, by omega⟩, by omega, by omega, by omega⟩, (((Keep.refl _ w).alloc _).alloc _).alloc _⟩
  · exact (MapIs.made w Tryd.prog 9).keep (((Keep.refl (fun _ => True) _).alloc _).alloc _) trivial
  · have h2 := (MapIs.made (w.alloc (.map #[] 0)) Tryd.prog 9).keep ((Keep.refl (fun _ => True) _).alloc (.cells (mchcells w.heap.size (w.heap.size + 1) 0 (List.replicate 16 zeroSess)).toArray 95)) trivial
    simpa using h2
end Go.Proofs.YtioinjcdkmiafaaDoor
namespace Go.Proofs.YtioinjcdkmiafaaDoor
set_option linter.unusedVariables false
set_option linter.unusedSimpArgs false
open Go.RowKit

def setP (k v : List UInt8) (ps : Ps) : Ps := match pfind k ps with
  | some _ => pput k v ps
  | none => if 16 ≤ ps.length then ps else pput k v ps
def setR (k v : List UInt8) (ps : Ps) : MRes := match pfind k ps with
  | some u => ⟨1, u, 1⟩
  | none => if 16 ≤ ps.length then ⟨4, [], 0⟩ else ⟨1, [], 0⟩

end Go.Proofs.YtioinjcdkmiafaaDoor
namespace Go.Proofs.YtioinjcdkmiafaaDoor
set_option linter.unusedVariables false
set_option linter.unusedSimpArgs false
open Go.RowKit

def casP (k v d : List UInt8) (ps : Ps) : Ps := match pfind k ps with
  | some u => if u = d then pput k v ps else ps
  | none => ps
def casR (k d : List UInt8) (ps : Ps) : MRes := match pfind k ps with
  | some u => if u = d then ⟨1, d, 1⟩ else ⟨3, u, 1⟩
  | none => ⟨2, [], 0⟩

end Go.Proofs.YtioinjcdkmiafaaDoor
