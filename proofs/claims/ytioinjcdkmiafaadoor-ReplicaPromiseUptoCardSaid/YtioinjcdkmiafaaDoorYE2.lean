/-
  MERGED: Close OpenRecs LaidR
-/
import Derived.Test.YtioinjcdkmiafaaDoorYA0
import Derived.Carry
import Derived.ChangeVars
import Derived.WalkLawsBesides
import Derived.ChangeSame
import Derived.OpenShut
import Derived.Deep.DeepHandedRow
import Derived.Lib.SmallJoins
import Derived.Test.YtioinjcdkmiafaaDoorYE1
import Derived.ProofKit
import Derived.Deep.Slices
import Derived.Test.YtioinjcdkmiafaaDoorCards
import Derived.Test.YtioinjcdkmiafaaDoorTie
import Derived.Stop.LaidErr
import Derived.Deep.DeepLaidRun
namespace Go.Proofs.YtioinjcdkmiafaaDoor
set_option linter.unusedVariables false
set_option linter.unusedSimpArgs false
open Go.ChangeShapes Go.WideShapes Go.ChangeAt Go.RowKit

theorem laidOut : laidOutB Tryd.prog = true := by kernel_rfl
theorem trodAll_below {H : Type} {enc : TypeId × Value → H} {P : Program} (hl : laidOutB P = true) {W W' : World} (hb : Below W.heap.size W W') :
    ∀ {ts : List TypeId} {vs : List Value} {ds : List (DataW H)} {ps : List MemPlace}, (∀ t ∈ ts, P.readableRec t = true ∧ t < P.types.size) → DataW.TrodAll enc P W 0 (fun _ => true) true ts vs ds ps → (∀ x ∈ ps, x.block < W.heap.size) →
      DataW.TrodAll enc P W' 0 (fun b => decide (b < W.heap.size)) true ts vs ds ps
  | [], _, _, _, _, h, _ => by
    obtain ⟨rfl, rfl, rfl⟩ := trodAll_nil h
    exact trodAll_mk0
  | t :: ts, _, _, _, hr, h, hlt => by
    obtain ⟨v0, vs0, d0, ds0, p0, q0, rfl, rfl, rfl, h0, r0⟩ := trodAll_cons h
    have ht := hr t (by simp)
    exact trodAll_cons_mk (Below.trod hl ht.1 ht.2 h0 hb (fun x hx => hlt x (by simp [hx]))) (trodAll_below hl hb (fun t ht => hr t (by simp [ht])) r0 (fun x hx => hlt x (by simp [hx])))
/-- What a law's contract owes, where nothing old has turned and the answer is true. -/
theorem post_true {H : Type} {enc : TypeId × Value → H} {P : Program} {f : Func} {s : ChangeSpec} {W W' : World} {args : Array Value} {ds gs : List (DataW H)} {before : List MemPlace} {tb : TypeId}
    (hl : laidOutB P = true) (hpar : f.params.toList.all (fun t => P.readableRec t && decide (t < P.types.size)) = true) (hrt : f.resultTypes = #[tb]) (htb : P.underlying tb = some .bool) (hv : s.vars = [])
    (hW : DataW.Whole enc P f.params.toList s.vars false W args.toList ds gs before) (hfn : s.fn H ds = { results := [.lit (.bool true)], args := ds }) (hb : Below W.heap.size W W') :
    s.post enc P f false true false false W args (.bool true) W' := by
  have hW' := hW
  obtain ⟨p, q, hA, hV, rfl, hfz, hnd⟩ := hW
  rw [hv] at hV
  obtain ⟨rfl, rfl⟩ := trodVars_none hV
  have hlt : ∀ x ∈ p, x.block < W.heap.size := fun x hx => by simpa using hW'.lt x (by simp [hx])
  have hp : ∀ t ∈ f.params.toList, P.readableRec t = true ∧ t < P.types.size := fun t ht => by
    have := List.all_eq_true.1 hpar t ht
    simpa using this
  refine ⟨ds, [], p ++ [], [], p, [], hW', ?_, ?_, ?_, hb.frame _, fun h => by cases h⟩
  · rw [List.append_nil, hfn, hrt]
    exact trodAll_mk1 (shut_bool htb _)
  · rw [List.append_nil, hfn]
    exact trodAll_below hl hb hp hA hlt
  · rw [hv, List.append_nil, hfn]
    exact rfl
end Go.Proofs.YtioinjcdkmiafaaDoor
namespace Go.Proofs.YtioinjcdkmiafaaDoor
set_option linter.unusedVariables false
set_option linter.unusedSimpArgs false
open Go.ChangeShapes Go.WideShapes Go.ChangeAt Go.RowKit Go.Joins

theorem cI : Tryd.prog.cellsOf 3 = 1 := by kernel_rfl
theorem cU : Tryd.prog.cellsOf 5 = 1 := by kernel_rfl
theorem cBs : Tryd.prog.cellsOf 27 = 1 := by kernel_rfl
theorem cRec : Tryd.prog.cellsOf 29 = 2 := by kernel_rfl
theorem bulk_one {H : Type} (d : DataW H) : 1 ≤ Rows.uptoBulk d := by
  cases d with
  | lit l => cases l <;> simp [Rows.uptoBulk]
  | _ => simp [Rows.uptoBulk]
theorem bulks_len {H : Type} : ∀ l : List (DataW H), l.length ≤ Rows.uptoBulkAll l
  | [] => Nat.zero_le _
  | d :: r => by
    have h := bulks_len r
    have h1 := bulk_one d
    simp only [Rows.uptoBulkAll, List.length_cons]
    omega
theorem bulk_mem {H : Type} {d : DataW H} : ∀ {l : List (DataW H)}, d ∈ l → Rows.uptoBulk d ≤ Rows.uptoBulkAll l
  | x :: r, h => by
    simp only [Rows.uptoBulkAll]
    rcases List.mem_cons.1 h with rfl | h
    · omega
    · have := bulk_mem h
      omega
section
variable {H : Type} {enc : TypeId × Value → H}
set_option maxRecDepth 100000 in
theorem open_bs {W : World} {n : Nat} {c : Value} {y : DataW H × List MemPlace} (h : DataW.trod enc Tryd.prog W 0 (fun _ => true) true n 27 [c] = some y) :
    ∃ bs : List UInt8, (∃ (A : Option Addr) (cap : Nat), c = .slice A bs.length cap ∧ bs.length ≤ cap ∧ (bs.length = 0 → cap = 0 ∨ A ≠ none) ∧ Rd W (fun _ => True) 1 A bs.length (Lib.byteCells bs)) ∧ bs.length ≤ Rows.uptoBulk y.1 ∧ c.oneCell' = true := by
  rcases open_ints Tryd.underlying27 Tryd.underlying5 cU h with ⟨hcs, rfl⟩ | ⟨a, len, cap, zs, hcs, _, hl, hm, hz, rfl, hcell, hwz⟩
  · obtain rfl : c = .slice none 0 0 := by simpa using hcs
    exact ⟨[], ⟨none, 0, rfl, Nat.le_refl _, fun _ => .inl rfl, Rd.nil _ _ _ _⟩, Nat.zero_le _, rfl⟩
  · obtain rfl : c = .slice (some a) len cap := by simpa using hcs
    simp only [if_true] at hz
    have hbl : ((zs.take len).map fun n => UInt8.ofNat n.toNat).length = len := by simp; omega
    refine ⟨(zs.take len).map fun n => UInt8.ofNat n.toNat, ?_, ?_, rfl⟩
    · rw [hbl]
      refine ⟨some a, cap, rfl, hl, fun _ => .inr (by simp), by simp [Lib.byteCells]; omega, fun hn => ?_⟩
      obtain ⟨ab, ao, spot⟩ := a
      have hspot : spot = none := by simpa [Addr.add] using World.cell?_spot (hcell 0 (by omega))
      subst hspot
      refine ⟨ab, ao, rfl, trivial, fun j u hu => ?_⟩
      have hj : j < len := by
        rcases Nat.lt_or_ge j len with h | h
        · exact h
        · rw [List.getElem?_eq_none (by simp [Lib.byteCells]; omega)] at hu; cases hu
      have hjz : j < zs.length := by omega
      have hc := hcell j hjz
      rw [Addr.add_lit] at hc
      rw [hc]
      have hb := range_u8 hwz j
      simp only [List.getElem?_eq_getElem hjz, Option.getD_some] at hb
      simp only [Lib.byteCells, List.getElem?_map, List.getElem?_take, hj, if_true, List.getElem?_eq_getElem hjz, Option.map_some, Option.some.injEq] at hu
      rw [← hu]
      simp only [List.getD, List.getElem?_eq_getElem hjz, Option.getD_some]
      congr 2
      rw [UInt8.toNat_ofNat']
      omega
    · simp only [Rows.uptoBulk]
      have := bulks_len (lits (H := H) .u8 (zs.take len))
      simp [lits] at this
      simp [lits]
      omega
theorem open_i {W : World} {n : Nat} {c : Value} {y : DataW H × List MemPlace} (h : DataW.trod enc Tryd.prog W 0 (fun _ => true) true n 3 [c] = some y) : ∃ z, c = .int .i64 z ∧ -9223372036854775808 ≤ z ∧ z < 9223372036854775808 := by
  obtain ⟨z, e, _, hw⟩ := DataW.trod_int Tryd.underlying3 h
  simp [Lit.wf, IntKind.min, IntKind.max, IntKind.signed, IntKind.bits] at hw
  exact ⟨z, by simpa using e, hw.1, by omega⟩
/-- A slice of structs, opened at each index. -/
theorem open_rows {α : Type} {f : α → List Value} {k : Nat} {W : World} {n : Nat} {c : Value} {y : DataW H × List MemPlace} {t e : TypeId} (ht : Tryd.prog.underlying t = some (.slice e)) (hk : Tryd.prog.cellsOf e = k) (hf : ∀ a, (f a).length = k) (hk0 : 0 < k) {p : α → DataW H → Prop}
    (he : ∀ n cs y, DataW.trod enc Tryd.prog W 0 (fun _ => true) true n e cs = some y → ∃ x, cs = f x ∧ p x y.1) (h : DataW.trod enc Tryd.prog W 0 (fun _ => true) true n t [c] = some y) :
    ∃ xs : List α, (∃ (A : Option Addr) (cap : Nat), c = .slice A xs.length cap ∧ xs.length ≤ cap ∧ (xs.length = 0 → cap = 0 ∨ A ≠ none) ∧ Rd W (fun _ => True) k A xs.length (rcells f xs)) ∧ xs.length ≤ Rows.uptoBulk y.1 ∧ c.oneCell' = true ∧ ∀ x ∈ xs, ∃ d, p x d ∧ Rows.uptoBulk d ≤ Rows.uptoBulk y.1 := by
  rcases Go.Deep.open_slice ht h with ⟨hcs, rfl⟩ | ⟨a, len, cap, m, n', D, Pl, hcs, _, hl, hm, hmm, hy, hel⟩
  · obtain rfl : c = .slice none 0 0 := by simpa using hcs
    exact ⟨[], ⟨none, 0, rfl, Nat.le_refl _, fun _ => .inl rfl, Rd.nil _ _ _ _⟩, Nat.zero_le _, rfl, fun x hx => by cases hx⟩
  · obtain rfl : c = .slice (some a) len cap := by simpa using hcs
    simp only [if_true] at hmm
    rw [hmm] at hy hel
    clear hmm
    subst hy
    have hx : ∀ i, i < len → ∃ x : α, p x (D i) ∧ W.cells? 0 (a.add (i * k)) k = some (f x) := fun i hi => by
      obtain ⟨cs', h1, h2⟩ := hel i (by omega)
      rw [hk] at h1
      obtain ⟨x, rfl, hp⟩ := he _ _ _ h2
      exact ⟨x, hp, h1⟩
    obtain ⟨xs, hxl, hxs⟩ : ∃ xs : List α, xs.length = len ∧ ∀ i (hi : i < xs.length), p xs[i] (D i) ∧ W.cells? 0 (a.add (i * k)) k = some (f xs[i]) := by
      clear hel hl hm h hcs
      induction len with
      | zero => exact ⟨[], rfl, fun i hi => by cases hi⟩
      | succ len ih =>
        obtain ⟨xs, h1, h2⟩ := ih (fun i hi => hx i (by omega))
        obtain ⟨x, hx1, hx2⟩ := hx len (by omega)
        refine ⟨xs ++ [x], by simp [h1], fun i hi => ?_⟩
        by_cases hlt : i < xs.length
        · rw [List.getElem_append_left hlt]
          exact h2 i hlt
        · have : i = len := by simp at hi; omega
          subst this
          rw [List.getElem_append_right (by omega)]
          simp only [h1, Nat.sub_self, List.getElem_cons_zero]
          exact ⟨hx1, hx2⟩
    have hbulk : Rows.uptoBulkAll ((List.range len).map D) ≤ Rows.uptoBulk (DataW.slice ((List.range len).map D) ((List.range (cap - len)).map fun j => D (len + j))) := by
      simp only [Rows.uptoBulk]
      omega
    refine ⟨xs, ?_, ?_, rfl, fun x hx => ?_⟩
    · rw [hxl]
      refine ⟨some a, cap, rfl, hl, fun _ => .inr (by simp), by rw [rcells_len hf, hxl], fun hn => ?_⟩
      have hcell : ∀ i (hi : i < xs.length) j u, (f xs[i])[j]? = some u → W.cell? (a.add (i * k + j)) = some u := fun i hi j u hu => by
        have hj : j < k := by
          rcases Nat.lt_or_ge j k with h1 | h1
          · exact h1
          · rw [List.getElem?_eq_none (by rw [hf]; exact h1)] at hu; cases hu
        have := (World.cells?_some (hxs i hi).2).2.2 j hj
        rw [hu] at this
        rwa [Go.Deep.add_add] at this
      have h0 : 0 < xs.length := by omega
      have hf0 : 0 < (f xs[0]).length := by rw [hf]; exact hk0
      obtain ⟨ab, ao, spot⟩ := a
      have hspot : spot = none := by simpa [Addr.add] using World.cell?_spot (hcell 0 h0 0 _ (List.getElem?_eq_getElem hf0))
      subst hspot
      refine ⟨ab, ao, rfl, trivial, fun j u hu => ?_⟩
      have hj : j < len * k := by
        rcases Nat.lt_or_ge j (len * k) with h | h
        · exact h
        · rw [List.getElem?_eq_none (by rw [rcells_len hf, hxl]; exact h)] at hu; cases hu
      have hd : j / k < xs.length := by rw [hxl]; exact Nat.div_lt_of_lt_mul (by rw [Nat.mul_comm]; exact hj)
      have hjk : j / k * k + j % k = j := Nat.div_add_mod' j k
      have h1 := hcell (j / k) hd (j % k) u (by rw [← rcells_get hf xs _ hd (j % k) (Nat.mod_lt _ hk0), hjk]; exact hu)
      rw [hjk, Addr.add_lit] at h1
      exact h1
    · have h1 := bulks_len ((List.range len).map D)
      rw [List.length_map, List.length_range] at h1
      show xs.length ≤ Rows.uptoBulk (DataW.slice _ _)
      omega
    · obtain ⟨i, hi, rfl⟩ := List.mem_iff_getElem.1 hx
      refine ⟨D i, (hxs i hi).1, Nat.le_trans (bulk_mem ?_) hbulk⟩
      exact List.mem_map_of_mem (List.mem_range.2 (by omega))

set_option maxRecDepth 100000 in
theorem open_rec {W : World} {n : Nat} {cs : List Value} {y : DataW H × List MemPlace} (h : DataW.trod enc Tryd.prog W 0 (fun _ => true) true n 29 cs = some y) : ∃ x : RecV, cs = x.cells ∧ RecOk W x ∧ x.d.body.length ≤ Rows.uptoBulk y.1 := by
  obtain ⟨xs, n, _, hy, hlc, hlen, hg⟩ := DataW.trod_struct Tryd.underlying29 h
  match cs, hlc.trans cRec, xs, hlen with
  | [c0, c1], _, [y0, y1], _ =>
    have g0 : DataW.trod enc Tryd.prog W 0 (fun _ => true) true n 3 (([c0, c1].drop 0).take (Tryd.prog.cellsOf 3)) = some y0 := hg 0 _ rfl
    rw [cI] at g0
    have g1 : DataW.trod enc Tryd.prog W 0 (fun _ => true) true n 27 (([c0, c1].drop 1).take (Tryd.prog.cellsOf 27)) = some y1 := hg 1 _ rfl
    rw [cBs] at g1
    obtain ⟨z0, rfl, hz0⟩ := open_i (c := c0) g0
    obtain ⟨bs, hb, hl, -⟩ := open_bs (c := c1) g1
    have hB : ∀ d ∈ [y0, y1].map (·.1), Rows.uptoBulk d ≤ Rows.uptoBulk y.1 := fun d hd => by
      rw [hy]
      simp only [Rows.uptoBulk]
      have := bulk_mem hd
      omega
    exact ⟨⟨⟨z0, bs⟩, c1⟩, rfl, hb, Nat.le_trans hl (hB y1.1 (by simp))⟩
set_option maxRecDepth 100000 in
theorem open_recs {W : World} {base : Nat} {v : Value} {d : DataW H} {p : List MemPlace} (hval : Value.okWide Tryd.prog W .any base 22 v) (h : DataW.Trod enc Tryd.prog W 0 (fun _ => true) true 22 v d p) (hs : Rows.uptoBulk d ≤ 1048576) :
    ∃ (A : Option Addr) (n c : Nat) (hs : List RecV), v = .slice A n c ∧ Recs W A n hs := by
  obtain ⟨a1, len, cap, rfl⟩ := okWide_slice Tryd.underlying22 hval
  obtain ⟨fuel, hf⟩ := h
  have hf' : DataW.trod enc Tryd.prog W 0 (fun _ => true) true fuel 22 [.slice a1 len cap] = some (d, p) := hf
  obtain ⟨xs, ⟨A, c, e, _, _, hr⟩, hbk, _, hal⟩ := open_rows (f := RecV.cells) (p := fun x d => RecOk W x ∧ x.d.body.length ≤ Rows.uptoBulk d) Tryd.underlying22 cRec rec_two (by omega) (fun n cs y h => open_rec h) hf'
  have hbk' : xs.length ≤ Rows.uptoBulk d := hbk
  refine ⟨A, xs.length, c, xs, e, rfl, hr, by omega, fun x hx => ?_, fun x hx => ?_⟩
  · obtain ⟨d', ⟨h1, -⟩, -⟩ := hal x hx
    exact h1
  · obtain ⟨d', ⟨-, h2⟩, h3⟩ := hal x hx
    have h3' : Rows.uptoBulk d' ≤ Rows.uptoBulk d := h3
    omega
end
end Go.Proofs.YtioinjcdkmiafaaDoor
namespace Go.Proofs.YtioinjcdkmiafaaDoor
set_option linter.unusedVariables false
set_option linter.unusedSimpArgs false
open Go.ChangeShapes Go.WideShapes Go.ChangeAt Go.RowKit

theorem own : ownKnob Tryd.prog.godebug = none := by kernel_rfl
theorem gPowT : (Tryd.prog.globals[4]?).map (·.type) = some 154 := by kernel_rfl
theorem gShpT : (Tryd.prog.globals[1]?).map (·.type) = some 125 := by kernel_rfl
theorem gSynT : (Tryd.prog.globals[2]?).map (·.type) = some 34 := by kernel_rfl
theorem starErr : "*" ++ "errors.errorString" = "*errors.errorString" := by decide
theorem rowErr (u : TypeId) (h : Tryd.prog.typeName? 3 u = some "*errors.errorString") : u = 150 :=
  typeName_ptr_named (nm := "errors.errorString") (by rw [starErr]; kernel_rfl) (by kernel_rfl) (by decide) u (by rw [starErr]; exact h)

theorem gNibT : (Tryd.prog.globals[0]?).map (·.type) = some 123 := by kernel_rfl
theorem tabsN_of_laid {W : World} (h : laidMetH Tryd.prog Rows.replicaPromiseRow.laid W) : TabsN W := by
  have h0 : laidMet Tryd.prog Rows.replicaPromiseRow.laid W := h
  have h2 := h0.tail.tail
  have h4 := h2.tail.tail
  have h5 := h4.tail
  have h6 := h5.tail
  obtain ⟨a, s, hs, _, _, _⟩ := laid_sentinel h4 gSyn gSynT Tryd.underlying34 rowErr Tryd.underlying150 Tryd.underlying152 rfl rfl Tryd.underlying9 (by kernel_rfl) (by kernel_rfl)
  exact ⟨⟨Lib.tabIs_of_head (zs := Lib.pow10Tab) (rest := _) gPow gPowT Tryd.underlying154 Tryd.underlying136 (by kernel_rfl) (by kernel_rfl) h2,
    Lib.tabIs_of_head (zs := shapeTab) (rest := []) gShp gShpT Tryd.underlying125 Tryd.underlying3 (by kernel_rfl) (by kernel_rfl) h6, _, _, hs⟩,
    Lib.tabIs_of_head (zs := nibInts) (rest := _) gNib gNibT Tryd.underlying123 Tryd.underlying121 (by kernel_rfl) (by kernel_rfl) h5⟩

/-! ### a world for the witness -/
abbrev rangeS : ByteArray := { data := #[118, 97, 108, 117, 101, 32, 111, 117, 116, 32, 111, 102, 32, 114, 97, 110, 103, 101] }
abbrev syntaxS : ByteArray := { data := #[105, 110, 118, 97, 108, 105, 100, 32, 115, 121, 110, 116, 97, 120] }
def litCell : DataW Unit → Value
  | .lit (.int k z) => .int k z
  | _ => undef
def tabCells : DataW Unit → Array Value
  | .agg l => (l.map litCell).toArray
  | _ => #[]
noncomputable def low : Nat := (World.holding Tryd.prog default ⟨#[], #[], []⟩).heap.size
def put (cs : Array Value) : Obj → Obj
  | .cells _ t frozen => .cells cs t frozen
  | o => o
noncomputable def laidWorld (os : Os) : World :=
  let w0 := World.holding Tryd.prog os ⟨#[.cells #[.string rangeS] 152, .cells #[.string syntaxS] 152], #[], []⟩
  { w0 with heap := ((((((w0.heap.modify 5 (put (tabCells Rows.laid_math_bits_deBruijn32tab))).modify 6 (put (tabCells Rows.laid_math_bits_deBruijn64tab))).modify 4 (put (tabCells Rows.laid_internal_strconv_uint64pow10))).modify
      3 (put #[.iface 150 (.pointer (some ⟨low, 0, none⟩))])).modify 2 (put #[.iface 150 (.pointer (some ⟨low + 1, 0, none⟩))])).modify 0 (put (tabCells Rows.laid_quorate_wire_nibble))).modify 1 (put (tabCells Rows.laid_quorate_machine_shapes)) }
end Go.Proofs.YtioinjcdkmiafaaDoor
