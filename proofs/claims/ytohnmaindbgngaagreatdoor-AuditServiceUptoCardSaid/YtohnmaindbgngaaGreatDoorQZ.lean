/-
  MERGED: Close OpenMarks OpenCase
-/
import Derived.Test.YtohnmaindbgngaaGreatDoorQ1
import Derived.Carry
import Derived.ChangeVars
import Derived.WalkLawsBesides
import Derived.ChangeSame
import Derived.OpenShut
import Derived.Deep.DeepHandedRow
import Derived.Lib.SmallJoins
import Derived.Test.YtohnmaindbgngaaGreatDoorQD
import Derived.ProofKit
import Derived.Deep.Slices
import Derived.Test.YtohnmaindbgngaaGreatDoorQF
import Derived.Test.YtohnmaindbgngaaGreatDoorQE
import Derived.JoinedCond
namespace Go.Proofs.YtohnmaindbgngaaGreatDoor
set_option linter.unusedVariables false
set_option linter.unusedSimpArgs false
open Go.ChangeShapes Go.WideShapes Go.ChangeAt Go.RowKit

theorem laidOut : laidOutB Tryz.prog = true := by kernel_rfl
theorem trodAll_below {H : Type} {enc : TypeId × Value → H} {P : Program} (hl : laidOutB P = true) {W W' : World} (hb : Below W.heap.size W W') :
    ∀ {ts : List TypeId} {vs : List Value} {ds : List (DataW H)} {ps : List MemPlace}, (∀ t ∈ ts, P.readableRec t = true ∧ t < P.types.size) → DataW.TrodAll enc P W 0 (fun _ => true) true ts vs ds ps → (∀ x ∈ ps, x.block < W.heap.size) →
      DataW.TrodAll enc P W' 0 (fun b => decide (b < W.heap.size)) true ts vs ds ps
  | [], _, _, _, _, h, _ => by
    obtain ⟨rfl, rfl, rfl⟩ := trodAll_nil h
    exact trodAll_mk0
  | t :: ts, _, _, _, hr, h, hlt => by
    obtain ⟨v0, vs0, d0, ds0, p0, q0, rfl, rfl, rfl, h0, r0⟩ := trodAll_cons h
    have ht := hr t (by simp)
    exact trodAll_cons_mk (Below.trod hl ht.1 ht.2 h0 hb (fun x hx => hlt x (by simp [hx]))) (trodAll_below hl hb (fun t ht => hr t (by simp [ht])) r0 (fun x hx => hlt x (by simp [hx])))
/-- What a law's contract owes, where nothing old has turned and the answer is true. -/
theorem post_true {H : Type} {enc : TypeId × Value → H} {P : Program} {f : Func} {s : ChangeSpec} {W W' : World} {args : Array Value} {ds gs : List (DataW H)} {before : List MemPlace} {tb : TypeId}
    (hl : laidOutB P = true) (hpar : f.params.toList.all (fun t => P.readableRec t && decide (t < P.types.size)) = true) (hrt : f.resultTypes = #[tb]) (htb : P.underlying tb = some .bool) (hv : s.vars = [])
    (hW : DataW.Whole enc P f.params.toList s.vars false W args.toList ds gs before) (hfn : s.fn H ds = { results := [.lit (.bool true)], args := ds }) (hb : Below W.heap.size W W') :
    s.post enc P f false true false false W args (.bool true) W' := by
  have hW' := hW
  obtain ⟨p, q, hA, hV, rfl, hfz, hnd⟩ := hW
  rw [hv] at hV
  obtain ⟨rfl, rfl⟩ := trodVars_none hV
  have hlt : ∀ x ∈ p, x.block < W.heap.size := fun x hx => by simpa using hW'.lt x (by simp [hx])
  have hp : ∀ t ∈ f.params.toList, P.readableRec t = true ∧ t < P.types.size := fun t ht => by
    have := List.all_eq_true.1 hpar t ht
    simpa using this
  refine ⟨ds, [], p ++ [], [], p, [], hW', ?_, ?_, ?_, hb.frame _, fun h => by cases h⟩
  · rw [List.append_nil, hfn, hrt]
    exact trodAll_mk1 (shut_bool htb _)
  · rw [List.append_nil, hfn]
    exact trodAll_below hl hb hp hA hlt
  · rw [hv, List.append_nil, hfn]
    exact rfl
end Go.Proofs.YtohnmaindbgngaaGreatDoor
namespace Go.Proofs.YtohnmaindbgngaaGreatDoor
set_option linter.unusedVariables false
set_option linter.unusedSimpArgs false
open Go.ChangeShapes Go.WideShapes Go.ChangeAt Go.RowKit Go.Joins

theorem cI : Tryz.prog.cellsOf 3 = 1 := by kernel_rfl
theorem cU : Tryz.prog.cellsOf 5 = 1 := by kernel_rfl
theorem cS : Tryz.prog.cellsOf 9 = 1 := by kernel_rfl
theorem cV : Tryz.prog.cellsOf 45 = 4 := by kernel_rfl
theorem cMs : Tryz.prog.cellsOf 46 = 1 := by kernel_rfl
theorem cIs : Tryz.prog.cellsOf 23 = 1 := by kernel_rfl
theorem cBs : Tryz.prog.cellsOf 47 = 1 := by kernel_rfl
theorem cC : Tryz.prog.cellsOf 43 = 7 := by kernel_rfl
theorem cR : Tryz.prog.cellsOf 49 = 3 := by kernel_rfl
theorem cE : Tryz.prog.cellsOf 30 = 1 := by kernel_rfl
theorem cM : Tryz.prog.cellsOf 59 = 3 := by kernel_rfl
theorem cMk : Tryz.prog.cellsOf 51 = 26 := by kernel_rfl
theorem cMks : Tryz.prog.cellsOf 22 = 1 := by kernel_rfl
theorem cCase : Tryz.prog.cellsOf 25 = 3 := by kernel_rfl

theorem bulk_one {H : Type} (d : DataW H) : 1 ≤ Rows.uptoBulk d := by
  cases d with
  | lit l => cases l <;> simp [Rows.uptoBulk]
  | _ => simp [Rows.uptoBulk]
theorem bulks_len {H : Type} : ∀ l : List (DataW H), l.length ≤ Rows.uptoBulkAll l
  | [] => Nat.zero_le _
  | d :: r => by
    have h := bulks_len r
    have h1 := bulk_one d
    simp only [Rows.uptoBulkAll, List.length_cons]
    omega
theorem bulk_mem {H : Type} {d : DataW H} : ∀ {l : List (DataW H)}, d ∈ l → Rows.uptoBulk d ≤ Rows.uptoBulkAll l
  | x :: r, h => by
    simp only [Rows.uptoBulkAll]
    rcases List.mem_cons.1 h with rfl | h
    · omega
    · have := bulk_mem h
      omega
theorem tx_of (s : ByteArray) : Value.string s = tx s.data.toList := by
  obtain ⟨a⟩ := s
  simp [tx]
section
variable {H : Type} {enc : TypeId × Value → H}
set_option maxRecDepth 100000 in
theorem open_bs {W : World} {n : Nat} {c : Value} {y : DataW H × List MemPlace} (h : DataW.trod enc Tryz.prog W 0 (fun _ => true) true n 47 [c] = some y) :
    ∃ bs : List UInt8, SlOk W (fun _ => True) 1 bs.length c (Lib.byteCells bs) ∧ bs.length ≤ Rows.uptoBulk y.1 ∧ c.oneCell' = true := by
  rcases open_ints Tryz.underlying47 Tryz.underlying5 cU h with ⟨hcs, rfl⟩ | ⟨a, len, cap, zs, hcs, _, hl, hm, hz, rfl, hcell, hwz⟩
  · obtain rfl : c = .slice none 0 0 := by simpa using hcs
    exact ⟨[], ⟨none, 0, rfl, Nat.le_refl _, fun _ => .inl rfl, Rd.nil _ _ _ _⟩, Nat.zero_le _, rfl⟩
  · obtain rfl : c = .slice (some a) len cap := by simpa using hcs
    simp only [if_true] at hz
    have hbl : ((zs.take len).map fun n => UInt8.ofNat n.toNat).length = len := by simp; omega
    refine ⟨(zs.take len).map fun n => UInt8.ofNat n.toNat, ?_, ?_, rfl⟩
    · rw [hbl]
      refine ⟨some a, cap, rfl, hl, fun _ => .inr (by simp), by simp [Lib.byteCells]; omega, fun hn => ?_⟩
      obtain ⟨ab, ao, spot⟩ := a
      have hspot : spot = none := by simpa [Addr.add] using World.cell?_spot (hcell 0 (by omega))
      subst hspot
      refine ⟨ab, ao, rfl, trivial, fun j u hu => ?_⟩
      have hj : j < len := by
        rcases Nat.lt_or_ge j len with h | h
        · exact h
        · rw [List.getElem?_eq_none (by simp [Lib.byteCells]; omega)] at hu; cases hu
      have hjz : j < zs.length := by omega
      have hc := hcell j hjz
      rw [Addr.add_lit] at hc
      rw [hc]
      have hb := range_u8 hwz j
      simp only [List.getElem?_eq_getElem hjz, Option.getD_some] at hb
      simp only [Lib.byteCells, List.getElem?_map, List.getElem?_take, hj, if_true, List.getElem?_eq_getElem hjz, Option.map_some, Option.some.injEq] at hu
      rw [← hu]
      simp only [List.getD, List.getElem?_eq_getElem hjz, Option.getD_some]
      congr 2
      rw [UInt8.toNat_ofNat']
      omega
    · simp only [Rows.uptoBulk]
      have := bulks_len (lits (H := H) .u8 (zs.take len))
      simp [lits] at this
      simp [lits]
      omega
set_option maxRecDepth 100000 in
theorem open_is {W : World} {n : Nat} {c : Value} {y : DataW H × List MemPlace} (h : DataW.trod enc Tryz.prog W 0 (fun _ => true) true n 23 [c] = some y) :
    ∃ zs : List Int, SlOk W (fun _ => True) 1 zs.length c (ics zs) ∧ zs.length ≤ Rows.uptoBulk y.1 ∧ c.oneCell' = true := by
  rcases open_ints Tryz.underlying23 Tryz.underlying3 cI h with ⟨hcs, rfl⟩ | ⟨a, len, cap, zs, hcs, _, hl, hm, hz, rfl, hcell, hwz⟩
  · obtain rfl : c = .slice none 0 0 := by simpa using hcs
    exact ⟨[], ⟨none, 0, rfl, Nat.le_refl _, fun _ => .inl rfl, Rd.nil _ _ _ _⟩, Nat.zero_le _, rfl⟩
  · obtain rfl : c = .slice (some a) len cap := by simpa using hcs
    simp only [if_true] at hz
    have hbl : (zs.take len).length = len := by simp; omega
    refine ⟨zs.take len, ?_, ?_, rfl⟩
    · rw [hbl]
      refine ⟨some a, cap, rfl, hl, fun _ => .inr (by simp), by simp [ics]; omega, fun hn => ?_⟩
      obtain ⟨ab, ao, spot⟩ := a
      have hspot : spot = none := by simpa [Addr.add] using World.cell?_spot (hcell 0 (by omega))
      subst hspot
      refine ⟨ab, ao, rfl, trivial, fun j u hu => ?_⟩
      have hj : j < len := by
        rcases Nat.lt_or_ge j len with h | h
        · exact h
        · rw [List.getElem?_eq_none (by simp [ics]; omega)] at hu; cases hu
      have hjz : j < zs.length := by omega
      have hc := hcell j hjz
      rw [Addr.add_lit] at hc
      rw [hc]
      simp only [ics, List.getElem?_map, List.getElem?_take, hj, if_true, List.getElem?_eq_getElem hjz, Option.map_some, Option.some.injEq] at hu
      rw [← hu]
      simp only [List.getD, List.getElem?_eq_getElem hjz, Option.getD_some]
    · simp only [Rows.uptoBulk]
      have := bulks_len (lits (H := H) .i64 (zs.take len))
      simp [lits] at this
      simp [lits]
      omega
/-- One cell that is an int. -/
abbrev B64 (z : Int) : Prop := -9223372036854775808 ≤ z ∧ z < 9223372036854775808
theorem open_i {W : World} {n : Nat} {c : Value} {y : DataW H × List MemPlace} (h : DataW.trod enc Tryz.prog W 0 (fun _ => true) true n 3 [c] = some y) : ∃ z, c = .int .i64 z ∧ -9223372036854775808 ≤ z ∧ z < 9223372036854775808 := by
  obtain ⟨z, e, _, hw⟩ := DataW.trod_int Tryz.underlying3 h
  simp [Lit.wf, IntKind.min, IntKind.max, IntKind.signed, IntKind.bits] at hw
  exact ⟨z, by simpa using e, hw.1, by omega⟩
theorem open_sB {W : World} {n : Nat} {c : Value} {y : DataW H × List MemPlace} (h : DataW.trod enc Tryz.prog W 0 (fun _ => true) true n 9 [c] = some y) : ∃ l, c = tx l ∧ l.length ≤ Rows.uptoBulk y.1 := by
  obtain ⟨s, e, hy, _⟩ := DataW.trod_string Tryz.underlying9 h
  refine ⟨s.data.toList, by rw [← tx_of]; simpa using e, ?_⟩
  rw [hy]
  simp only [Rows.uptoBulk]
  omega
theorem open_s {W : World} {n : Nat} {c : Value} {y : DataW H × List MemPlace} (h : DataW.trod enc Tryz.prog W 0 (fun _ => true) true n 9 [c] = some y) : ∃ l, c = tx l := by
  obtain ⟨l, e, _⟩ := open_sB h
  exact ⟨l, e⟩
theorem open_e {W : World} {n : Nat} {c : Value} {y : DataW H × List MemPlace} (h : DataW.trod enc Tryz.prog W 0 (fun _ => true) true n 30 [c] = some y) : ∃ z, c = .int .i64 z := by
  obtain ⟨z, e, _, hw⟩ := DataW.trod_int Tryz.underlying30 h
  exact ⟨z, by simpa using e⟩
set_option maxRecDepth 100000 in
theorem open_m {W : World} {n : Nat} {cs : List Value} {y : DataW H × List MemPlace} (h : DataW.trod enc Tryz.prog W 0 (fun _ => true) true n 59 cs = some y) : ∃ x : MemD, cs = x.cells ∧ B64 x.p ∧ B64 x.i ∧ B64 x.c := by
  obtain ⟨xs, n, _, _, hlc, hlen, hg⟩ := DataW.trod_struct Tryz.underlying59 h
  match cs, hlc.trans cM, xs, hlen with
  | [c0, c1, c2], _, [y0, y1, y2], _ =>
    have g0 : DataW.trod enc Tryz.prog W 0 (fun _ => true) true n 3 (([c0, c1, c2].drop 0).take (Tryz.prog.cellsOf 3)) = some y0 := hg 0 _ rfl
    rw [cI] at g0
    have g1 : DataW.trod enc Tryz.prog W 0 (fun _ => true) true n 3 (([c0, c1, c2].drop 1).take (Tryz.prog.cellsOf 3)) = some y1 := hg 1 _ rfl
    rw [cI] at g1
    have g2 : DataW.trod enc Tryz.prog W 0 (fun _ => true) true n 3 (([c0, c1, c2].drop 2).take (Tryz.prog.cellsOf 3)) = some y2 := hg 2 _ rfl
    rw [cI] at g2
    obtain ⟨z0, rfl, hz0⟩ := open_i (c := c0) g0
    obtain ⟨z1, rfl, hz1⟩ := open_i (c := c1) g1
    obtain ⟨z2, rfl, hz2⟩ := open_i (c := c2) g2
    exact ⟨⟨z0, z1, z2⟩, rfl, hz0, hz1, hz2⟩
/-- A slice of structs, opened at each index. -/
theorem open_rows {α : Type} {f : α → List Value} {k : Nat} {W : World} {n : Nat} {c : Value} {y : DataW H × List MemPlace} {t e : TypeId} (ht : Tryz.prog.underlying t = some (.slice e)) (hk : Tryz.prog.cellsOf e = k) (hf : ∀ a, (f a).length = k) (hk0 : 0 < k) {p : α → DataW H → Prop}
    (he : ∀ n cs y, DataW.trod enc Tryz.prog W 0 (fun _ => true) true n e cs = some y → ∃ x, cs = f x ∧ p x y.1) (h : DataW.trod enc Tryz.prog W 0 (fun _ => true) true n t [c] = some y) :
    ∃ xs : List α, SlOk W (fun _ => True) k xs.length c (rcells f xs) ∧ xs.length ≤ Rows.uptoBulk y.1 ∧ c.oneCell' = true ∧ ∀ x ∈ xs, ∃ d, p x d ∧ Rows.uptoBulk d ≤ Rows.uptoBulk y.1 := by
  rcases Go.Deep.open_slice ht h with ⟨hcs, rfl⟩ | ⟨a, len, cap, m, n', D, Pl, hcs, _, hl, hm, hmm, hy, hel⟩
  · obtain rfl : c = .slice none 0 0 := by simpa using hcs
    exact ⟨[], ⟨none, 0, rfl, Nat.le_refl _, fun _ => .inl rfl, Rd.nil _ _ _ _⟩, Nat.zero_le _, rfl, fun x hx => by cases hx⟩
  · obtain rfl : c = .slice (some a) len cap := by simpa using hcs
    simp only [if_true] at hmm
    rw [hmm] at hy hel
    clear hmm
    subst hy
    have hx : ∀ i, i < len → ∃ x : α, p x (D i) ∧ W.cells? 0 (a.add (i * k)) k = some (f x) := fun i hi => by
      obtain ⟨cs', h1, h2⟩ := hel i (by omega)
      rw [hk] at h1
      obtain ⟨x, rfl, hp⟩ := he _ _ _ h2
      exact ⟨x, hp, h1⟩
    obtain ⟨xs, hxl, hxs⟩ : ∃ xs : List α, xs.length = len ∧ ∀ i (hi : i < xs.length), p xs[i] (D i) ∧ W.cells? 0 (a.add (i * k)) k = some (f xs[i]) := by
      clear hel hl hm h hcs
      induction len with
      | zero => exact ⟨[], rfl, fun i hi => by cases hi⟩
      | succ len ih =>
        obtain ⟨xs, h1, h2⟩ := ih (fun i hi => hx i (by omega))
        obtain ⟨x, hx1, hx2⟩ := hx len (by omega)
        refine ⟨xs ++ [x], by simp [h1], fun i hi => ?_⟩
        by_cases hlt : i < xs.length
        · rw [List.getElem_append_left hlt]
          exact h2 i hlt
        · have : i = len := by simp at hi; omega
          subst this
          rw [List.getElem_append_right (by omega)]
          simp only [h1, Nat.sub_self, List.getElem_cons_zero]
          exact ⟨hx1, hx2⟩
    have hbulk : Rows.uptoBulkAll ((List.range len).map D) ≤ Rows.uptoBulk (DataW.slice ((List.range len).map D) ((List.range (cap - len)).map fun j => D (len + j))) := by
      simp only [Rows.uptoBulk]
      omega
    refine ⟨xs, ?_, ?_, rfl, fun x hx => ?_⟩
    · rw [hxl]
      refine ⟨some a, cap, rfl, hl, fun _ => .inr (by simp), by rw [rcells_len hf, hxl], fun hn => ?_⟩
      have hcell : ∀ i (hi : i < xs.length) j u, (f xs[i])[j]? = some u → W.cell? (a.add (i * k + j)) = some u := fun i hi j u hu => by
        have hj : j < k := by
          rcases Nat.lt_or_ge j k with h1 | h1
          · exact h1
          · rw [List.getElem?_eq_none (by rw [hf]; exact h1)] at hu; cases hu
        have := (World.cells?_some (hxs i hi).2).2.2 j hj
        rw [hu] at this
        rwa [Go.Deep.add_add] at this
      have h0 : 0 < xs.length := by omega
      have hf0 : 0 < (f xs[0]).length := by rw [hf]; exact hk0
      obtain ⟨ab, ao, spot⟩ := a
      have hspot : spot = none := by simpa [Addr.add] using World.cell?_spot (hcell 0 h0 0 _ (List.getElem?_eq_getElem hf0))
      subst hspot
      refine ⟨ab, ao, rfl, trivial, fun j u hu => ?_⟩
      have hj : j < len * k := by
        rcases Nat.lt_or_ge j (len * k) with h | h
        · exact h
        · rw [List.getElem?_eq_none (by rw [rcells_len hf, hxl]; exact h)] at hu; cases hu
      have hd : j / k < xs.length := by rw [hxl]; exact Nat.div_lt_of_lt_mul (by rw [Nat.mul_comm]; exact hj)
      have hjk : j / k * k + j % k = j := Nat.div_add_mod' j k
      have h1 := hcell (j / k) hd (j % k) u (by rw [← rcells_get hf xs _ hd (j % k) (Nat.mod_lt _ hk0), hjk]; exact hu)
      rw [hjk, Addr.add_lit] at h1
      exact h1
    · have h1 := bulks_len ((List.range len).map D)
      rw [List.length_map, List.length_range] at h1
      show xs.length ≤ Rows.uptoBulk (DataW.slice _ _)
      omega
    · obtain ⟨i, hi, rfl⟩ := List.mem_iff_getElem.1 hx
      refine ⟨D i, (hxs i hi).1, Nat.le_trans (bulk_mem ?_) hbulk⟩
      exact List.mem_map_of_mem (List.mem_range.2 (by omega))

/-- What an opened mark gives. -/
structure Opened (W : World) (x : MkV) (D : DataW H) : Prop where
  ok : MkOk W (fun _ => True) x
  one : MkOne x
  nl : -9223372036854775808 ≤ x.d.n
  nh : x.d.n < 9223372036854775808
  m : x.d.mem.length ≤ Rows.uptoBulk D
  t : x.d.tr.length ≤ Rows.uptoBulk D
  b : x.d.body.length ≤ Rows.uptoBulk D
  ints : B64 x.d.at_ ∧ B64 x.d.kind ∧ B64 x.d.node ∧ B64 x.d.inc ∧ B64 x.d.e1 ∧ B64 x.d.e2 ∧ B64 x.d.e3 ∧ B64 x.d.e4 ∧ B64 x.d.sender ∧ B64 x.d.seq ∧ B64 x.d.pos ∧ B64 x.d.n ∧ (∀ y ∈ x.d.mem, B64 y.p ∧ B64 y.i ∧ B64 y.c) ∧ B64 x.d.cmd.c ∧ B64 x.d.cmd.i ∧ B64 x.d.cmd.r ∧ B64 x.d.cmd.o ∧ B64 x.d.rc ∧ B64 x.d.rn
  ck : x.d.cmd.k.length ≤ Rows.uptoBulk D
  cv : x.d.cmd.v.length ≤ Rows.uptoBulk D
  cd : x.d.cmd.d.length ≤ Rows.uptoBulk D
  rs : x.d.rv.length ≤ Rows.uptoBulk D
set_option maxRecDepth 100000 in
theorem open_v {W : World} {n : Nat} {cs : List Value} {y : DataW H × List MemPlace} (h : DataW.trod enc Tryz.prog W 0 (fun _ => true) true n 45 cs = some y) : ∃ a b c d : Int, cs = [.int .i64 a, .int .i64 b, .int .i64 c, .int .i64 d] ∧ B64 a ∧ B64 b ∧ B64 c ∧ B64 d := by
  obtain ⟨xs, n, _, _, hlc, hlen, hg⟩ := DataW.trod_struct Tryz.underlying45 h
  match cs, hlc.trans cV, xs, hlen with
  | [c0, c1, c2, c3], _, [y0, y1, y2, y3], _ =>
    have g0 : DataW.trod enc Tryz.prog W 0 (fun _ => true) true n 3 (([c0, c1, c2, c3].drop 0).take (Tryz.prog.cellsOf 3)) = some y0 := hg 0 _ rfl
    rw [cI] at g0
    have g1 : DataW.trod enc Tryz.prog W 0 (fun _ => true) true n 3 (([c0, c1, c2, c3].drop 1).take (Tryz.prog.cellsOf 3)) = some y1 := hg 1 _ rfl
    rw [cI] at g1
    have g2 : DataW.trod enc Tryz.prog W 0 (fun _ => true) true n 3 (([c0, c1, c2, c3].drop 2).take (Tryz.prog.cellsOf 3)) = some y2 := hg 2 _ rfl
    rw [cI] at g2
    have g3 : DataW.trod enc Tryz.prog W 0 (fun _ => true) true n 3 (([c0, c1, c2, c3].drop 3).take (Tryz.prog.cellsOf 3)) = some y3 := hg 3 _ rfl
    rw [cI] at g3
    obtain ⟨z0, rfl, hz0⟩ := open_i (c := c0) g0
    obtain ⟨z1, rfl, hz1⟩ := open_i (c := c1) g1
    obtain ⟨z2, rfl, hz2⟩ := open_i (c := c2) g2
    obtain ⟨z3, rfl, hz3⟩ := open_i (c := c3) g3
    exact ⟨z0, z1, z2, z3, rfl, hz0, hz1, hz2, hz3⟩
set_option maxRecDepth 100000 in
theorem open_c {W : World} {n : Nat} {cs : List Value} {y : DataW H × List MemPlace} (h : DataW.trod enc Tryz.prog W 0 (fun _ => true) true n 43 cs = some y) : ∃ x : CmdD, cs = x.cells ∧ B64 x.c ∧ B64 x.i ∧ B64 x.r ∧ B64 x.o ∧ x.k.length ≤ Rows.uptoBulk y.1 ∧ x.v.length ≤ Rows.uptoBulk y.1 ∧ x.d.length ≤ Rows.uptoBulk y.1 := by
  obtain ⟨xs, n, _, hy, hlc, hlen, hg⟩ := DataW.trod_struct Tryz.underlying43 h
  match cs, hlc.trans cC, xs, hlen with
  | [c0, c1, c2, c3, c4, c5, c6], _, [y0, y1, y2, y3, y4, y5, y6], _ =>
    have g0 : DataW.trod enc Tryz.prog W 0 (fun _ => true) true n 3 (([c0, c1, c2, c3, c4, c5, c6].drop 0).take (Tryz.prog.cellsOf 3)) = some y0 := hg 0 _ rfl
    rw [cI] at g0
    have g1 : DataW.trod enc Tryz.prog W 0 (fun _ => true) true n 3 (([c0, c1, c2, c3, c4, c5, c6].drop 1).take (Tryz.prog.cellsOf 3)) = some y1 := hg 1 _ rfl
    rw [cI] at g1
    have g2 : DataW.trod enc Tryz.prog W 0 (fun _ => true) true n 3 (([c0, c1, c2, c3, c4, c5, c6].drop 2).take (Tryz.prog.cellsOf 3)) = some y2 := hg 2 _ rfl
    rw [cI] at g2
    have g3 : DataW.trod enc Tryz.prog W 0 (fun _ => true) true n 3 (([c0, c1, c2, c3, c4, c5, c6].drop 3).take (Tryz.prog.cellsOf 3)) = some y3 := hg 3 _ rfl
    rw [cI] at g3
    have g4 : DataW.trod enc Tryz.prog W 0 (fun _ => true) true n 9 (([c0, c1, c2, c3, c4, c5, c6].drop 4).take (Tryz.prog.cellsOf 9)) = some y4 := hg 4 _ rfl
    rw [cS] at g4
    have g5 : DataW.trod enc Tryz.prog W 0 (fun _ => true) true n 9 (([c0, c1, c2, c3, c4, c5, c6].drop 5).take (Tryz.prog.cellsOf 9)) = some y5 := hg 5 _ rfl
    rw [cS] at g5
    have g6 : DataW.trod enc Tryz.prog W 0 (fun _ => true) true n 9 (([c0, c1, c2, c3, c4, c5, c6].drop 6).take (Tryz.prog.cellsOf 9)) = some y6 := hg 6 _ rfl
    rw [cS] at g6
    obtain ⟨z0, rfl, hz0⟩ := open_i (c := c0) g0
    obtain ⟨z1, rfl, hz1⟩ := open_i (c := c1) g1
    obtain ⟨z2, rfl, hz2⟩ := open_i (c := c2) g2
    obtain ⟨z3, rfl, hz3⟩ := open_i (c := c3) g3
    obtain ⟨z4, rfl, b4⟩ := open_sB (c := c4) g4
    obtain ⟨z5, rfl, b5⟩ := open_sB (c := c5) g5
    obtain ⟨z6, rfl, b6⟩ := open_sB (c := c6) g6
    have hB : ∀ d ∈ [y0, y1, y2, y3, y4, y5, y6].map (·.1), Rows.uptoBulk d ≤ Rows.uptoBulk y.1 := fun d hd => by
      rw [hy]
      simp only [Rows.uptoBulk]
      have := bulk_mem hd
      omega
    exact ⟨⟨z0, z1, z2, z3, z4, z5, z6⟩, rfl, hz0, hz1, hz2, hz3, Nat.le_trans b4 (hB y4.1 (by simp)), Nat.le_trans b5 (hB y5.1 (by simp)), Nat.le_trans b6 (hB y6.1 (by simp))⟩
set_option maxRecDepth 100000 in
theorem open_r {W : World} {n : Nat} {cs : List Value} {y : DataW H × List MemPlace} (h : DataW.trod enc Tryz.prog W 0 (fun _ => true) true n 49 cs = some y) : ∃ (a : Int) (l : List UInt8) (b : Int), cs = [.int .i64 a, tx l, .int .i64 b] ∧ B64 a ∧ B64 b ∧ l.length ≤ Rows.uptoBulk y.1 := by
  obtain ⟨xs, n, _, hy, hlc, hlen, hg⟩ := DataW.trod_struct Tryz.underlying49 h
  match cs, hlc.trans cR, xs, hlen with
  | [c0, c1, c2], _, [y0, y1, y2], _ =>
    have g0 : DataW.trod enc Tryz.prog W 0 (fun _ => true) true n 3 (([c0, c1, c2].drop 0).take (Tryz.prog.cellsOf 3)) = some y0 := hg 0 _ rfl
    rw [cI] at g0
    have g1 : DataW.trod enc Tryz.prog W 0 (fun _ => true) true n 9 (([c0, c1, c2].drop 1).take (Tryz.prog.cellsOf 9)) = some y1 := hg 1 _ rfl
    rw [cS] at g1
    have g2 : DataW.trod enc Tryz.prog W 0 (fun _ => true) true n 3 (([c0, c1, c2].drop 2).take (Tryz.prog.cellsOf 3)) = some y2 := hg 2 _ rfl
    rw [cI] at g2
    obtain ⟨z0, rfl, hz0⟩ := open_i (c := c0) g0
    obtain ⟨z1, rfl, b1⟩ := open_sB (c := c1) g1
    obtain ⟨z2, rfl, hz2⟩ := open_i (c := c2) g2
    have hB : ∀ d ∈ [y0, y1, y2].map (·.1), Rows.uptoBulk d ≤ Rows.uptoBulk y.1 := fun d hd => by
      rw [hy]
      simp only [Rows.uptoBulk]
      have := bulk_mem hd
      omega
    exact ⟨z0, z1, z2, rfl, hz0, hz2, Nat.le_trans b1 (hB y1.1 (by simp))⟩
set_option maxRecDepth 100000 in
set_option maxHeartbeats 1000000 in
theorem open_mark {W : World} {n : Nat} {cs : List Value} {y : DataW H × List MemPlace} (h : DataW.trod enc Tryz.prog W 0 (fun _ => true) true n 51 cs = some y) : ∃ x : MkV, cs = x.cells ∧ Opened W x y.1 := by
  obtain ⟨xs, n, _, hy, hlc, hlen, hg⟩ := DataW.trod_struct Tryz.underlying51 h
  match cs, hlc.trans cMk, xs, hlen with
  | [c0, c1, c2, c3, c4, c5, c6, c7, c8, c9, c10, c11, c12, c13, c14, c15, c16, c17, c18, c19, c20, c21, c22, c23, c24, c25], _, [y0, y1, y2, y3, y4, y5, y6, y7, y8, y9, y10, y11, y12, y13, y14], _ =>
    have g0 : DataW.trod enc Tryz.prog W 0 (fun _ => true) true n 3 (([c0, c1, c2, c3, c4, c5, c6, c7, c8, c9, c10, c11, c12, c13, c14, c15, c16, c17, c18, c19, c20, c21, c22, c23, c24, c25].drop 0).take (Tryz.prog.cellsOf 3)) = some y0 := hg 0 _ rfl
    rw [cI] at g0
    have g1 : DataW.trod enc Tryz.prog W 0 (fun _ => true) true n 3 (([c0, c1, c2, c3, c4, c5, c6, c7, c8, c9, c10, c11, c12, c13, c14, c15, c16, c17, c18, c19, c20, c21, c22, c23, c24, c25].drop 1).take (Tryz.prog.cellsOf 3)) = some y1 := hg 1 _ rfl
    rw [cI] at g1
    have g2 : DataW.trod enc Tryz.prog W 0 (fun _ => true) true n 3 (([c0, c1, c2, c3, c4, c5, c6, c7, c8, c9, c10, c11, c12, c13, c14, c15, c16, c17, c18, c19, c20, c21, c22, c23, c24, c25].drop 2).take (Tryz.prog.cellsOf 3)) = some y2 := hg 2 _ rfl
    rw [cI] at g2
    have g3 : DataW.trod enc Tryz.prog W 0 (fun _ => true) true n 3 (([c0, c1, c2, c3, c4, c5, c6, c7, c8, c9, c10, c11, c12, c13, c14, c15, c16, c17, c18, c19, c20, c21, c22, c23, c24, c25].drop 3).take (Tryz.prog.cellsOf 3)) = some y3 := hg 3 _ rfl
    rw [cI] at g3
    have g4 : DataW.trod enc Tryz.prog W 0 (fun _ => true) true n 45 (([c0, c1, c2, c3, c4, c5, c6, c7, c8, c9, c10, c11, c12, c13, c14, c15, c16, c17, c18, c19, c20, c21, c22, c23, c24, c25].drop 4).take (Tryz.prog.cellsOf 45)) = some y4 := hg 4 _ rfl
    rw [cV] at g4
    have g5 : DataW.trod enc Tryz.prog W 0 (fun _ => true) true n 46 (([c0, c1, c2, c3, c4, c5, c6, c7, c8, c9, c10, c11, c12, c13, c14, c15, c16, c17, c18, c19, c20, c21, c22, c23, c24, c25].drop 8).take (Tryz.prog.cellsOf 46)) = some y5 := hg 5 _ rfl
    rw [cMs] at g5
    have g6 : DataW.trod enc Tryz.prog W 0 (fun _ => true) true n 23 (([c0, c1, c2, c3, c4, c5, c6, c7, c8, c9, c10, c11, c12, c13, c14, c15, c16, c17, c18, c19, c20, c21, c22, c23, c24, c25].drop 9).take (Tryz.prog.cellsOf 23)) = some y6 := hg 6 _ rfl
    rw [cIs] at g6
    have g7 : DataW.trod enc Tryz.prog W 0 (fun _ => true) true n 3 (([c0, c1, c2, c3, c4, c5, c6, c7, c8, c9, c10, c11, c12, c13, c14, c15, c16, c17, c18, c19, c20, c21, c22, c23, c24, c25].drop 10).take (Tryz.prog.cellsOf 3)) = some y7 := hg 7 _ rfl
    rw [cI] at g7
    have g8 : DataW.trod enc Tryz.prog W 0 (fun _ => true) true n 3 (([c0, c1, c2, c3, c4, c5, c6, c7, c8, c9, c10, c11, c12, c13, c14, c15, c16, c17, c18, c19, c20, c21, c22, c23, c24, c25].drop 11).take (Tryz.prog.cellsOf 3)) = some y8 := hg 8 _ rfl
    rw [cI] at g8
    have g9 : DataW.trod enc Tryz.prog W 0 (fun _ => true) true n 3 (([c0, c1, c2, c3, c4, c5, c6, c7, c8, c9, c10, c11, c12, c13, c14, c15, c16, c17, c18, c19, c20, c21, c22, c23, c24, c25].drop 12).take (Tryz.prog.cellsOf 3)) = some y9 := hg 9 _ rfl
    rw [cI] at g9
    have g10 : DataW.trod enc Tryz.prog W 0 (fun _ => true) true n 3 (([c0, c1, c2, c3, c4, c5, c6, c7, c8, c9, c10, c11, c12, c13, c14, c15, c16, c17, c18, c19, c20, c21, c22, c23, c24, c25].drop 13).take (Tryz.prog.cellsOf 3)) = some y10 := hg 10 _ rfl
    rw [cI] at g10
    have g11 : DataW.trod enc Tryz.prog W 0 (fun _ => true) true n 47 (([c0, c1, c2, c3, c4, c5, c6, c7, c8, c9, c10, c11, c12, c13, c14, c15, c16, c17, c18, c19, c20, c21, c22, c23, c24, c25].drop 14).take (Tryz.prog.cellsOf 47)) = some y11 := hg 11 _ rfl
    rw [cBs] at g11
    have g12 : DataW.trod enc Tryz.prog W 0 (fun _ => true) true n 43 (([c0, c1, c2, c3, c4, c5, c6, c7, c8, c9, c10, c11, c12, c13, c14, c15, c16, c17, c18, c19, c20, c21, c22, c23, c24, c25].drop 15).take (Tryz.prog.cellsOf 43)) = some y12 := hg 12 _ rfl
    rw [cC] at g12
    have g13 : DataW.trod enc Tryz.prog W 0 (fun _ => true) true n 49 (([c0, c1, c2, c3, c4, c5, c6, c7, c8, c9, c10, c11, c12, c13, c14, c15, c16, c17, c18, c19, c20, c21, c22, c23, c24, c25].drop 22).take (Tryz.prog.cellsOf 49)) = some y13 := hg 13 _ rfl
    rw [cR] at g13
    have g14 : DataW.trod enc Tryz.prog W 0 (fun _ => true) true n 30 (([c0, c1, c2, c3, c4, c5, c6, c7, c8, c9, c10, c11, c12, c13, c14, c15, c16, c17, c18, c19, c20, c21, c22, c23, c24, c25].drop 25).take (Tryz.prog.cellsOf 30)) = some y14 := hg 14 _ rfl
    rw [cE] at g14
    obtain ⟨z0, rfl, hz0⟩ := open_i (c := c0) g0
    obtain ⟨z1, rfl, hz1⟩ := open_i (c := c1) g1
    obtain ⟨z2, rfl, hz2⟩ := open_i (c := c2) g2
    obtain ⟨z3, rfl, hz3⟩ := open_i (c := c3) g3
    obtain ⟨e1, e2, e3, e4, he, hv1, hv2, hv3, hv4⟩ := open_v (cs := [c4, c5, c6, c7]) g4
    injection he with he1 he
    injection he with he2 he
    injection he with he3 he
    injection he with he4 _
    subst he1 he2 he3 he4
    obtain ⟨ms, hm, bm, om, am⟩ := open_rows (c := c8) (f := MemD.cells) (p := fun x _ => B64 x.p ∧ B64 x.i ∧ B64 x.c) Tryz.underlying46 cM mem_three (by omega) (fun n cs y h => by obtain ⟨x, hx, hb⟩ := open_m h; exact ⟨x, hx, hb⟩) g5
    obtain ⟨ts, ht, bt, ot⟩ := open_is (c := c9) g6
    obtain ⟨z7, rfl, hz7⟩ := open_i (c := c10) g7
    obtain ⟨z8, rfl, hz8⟩ := open_i (c := c11) g8
    obtain ⟨z9, rfl, hz9⟩ := open_i (c := c12) g9
    obtain ⟨z10, rfl, l10, u10⟩ := open_i (c := c13) g10
    obtain ⟨bs, hb, bb, ob⟩ := open_bs (c := c14) g11
    obtain ⟨cm, hc, hk0, hk1, hk2, hk3, bk, bv, bd⟩ := open_c (cs := [c15, c16, c17, c18, c19, c20, c21]) g12
    obtain ⟨r1, r2, r3, hr, hr10, hr30, br⟩ := open_r (cs := [c22, c23, c24]) g13
    obtain ⟨z14, rfl⟩ := open_e (c := c25) g14
    injection hr with hr1 hr
    injection hr with hr2 hr
    injection hr with hr3 _
    subst hr1 hr2 hr3
    simp only [CmdD.cells] at hc
    injection hc with hc0 hc
    injection hc with hc1 hc
    injection hc with hc2 hc
    injection hc with hc3 hc
    injection hc with hc4 hc
    injection hc with hc5 hc
    injection hc with hc6 _
    subst hc0 hc1 hc2 hc3 hc4 hc5 hc6
    have hB : ∀ d ∈ [y0, y1, y2, y3, y4, y5, y6, y7, y8, y9, y10, y11, y12, y13, y14].map (·.1), Rows.uptoBulk d ≤ Rows.uptoBulk y.1 := fun d hd => by
      rw [hy]
      simp only [Rows.uptoBulk]
      have := bulk_mem hd
      omega
    have b5 := hB y5.1 (by simp)
    have b6 := hB y6.1 (by simp)
    have b11 := hB y11.1 (by simp)
    have b12 := hB y12.1 (by simp)
    have b13 := hB y13.1 (by simp)
    exact ⟨⟨⟨z0, z1, z2, z3, e1, e2, e3, e4, ms, ts, z7, z8, z9, z10, bs, cm, r1, r2, r3, z14⟩, c8, c9, c14⟩, rfl, ⟨hm, ht, hb⟩, ⟨om, ot, ob⟩, l10, u10, by show ms.length ≤ _; omega, by show ts.length ≤ _; omega, by show bs.length ≤ _; omega, ⟨hz0, hz1, hz2, hz3, hv1, hv2, hv3, hv4, hz7, hz8, hz9, ⟨l10, u10⟩, fun y hy => by obtain ⟨d, hd, _⟩ := am y hy; exact hd, hk0, hk1, hk2, hk3, hr10, hr30⟩, Nat.le_trans bk b12, Nat.le_trans bv b12, Nat.le_trans bd b12, Nat.le_trans br b13⟩
end
end Go.Proofs.YtohnmaindbgngaaGreatDoor
namespace Go.Proofs.YtohnmaindbgngaaGreatDoor
set_option linter.unusedVariables false
set_option linter.unusedSimpArgs false
open Go.ChangeShapes Go.WideShapes Go.ChangeAt Go.RowKit

set_option maxRecDepth 100000 in
/-- The argument, opened. -/
theorem open_case {H : Type} {enc : TypeId × Value → H} {W : World} {base : Nat} {v : Value} {d : DataW H} {p : List MemPlace} (hval : Value.okWide Tryz.prog W .any base 25 v) (h : DataW.Trod enc Tryz.prog W 0 (fun _ => true) true 25 v d p) (hb : Rows.uptoBulk d ≤ 1048576) :
    ∃ (A A2 : Option Addr) (n c n2 c2 : Nat) (K : Int) (hs : List MkV) (vs : List Int), v = .agg #[.slice A n c, .slice A2 n2 c2, .int .i64 K] ∧ n ≤ c ∧ n ≤ 1048575 ∧ Mks W (fun _ => True) A n hs ∧ (∀ x ∈ hs, MkOk W (fun _ => True) x) ∧ (∀ x ∈ hs, MkInt x.d) ∧ (∀ x ∈ hs, InC x.d.cmd) ∧
      Rd W (fun _ => True) 1 A2 n2 (ics vs) ∧ vs.length = n2 ∧ n2 ≤ 1048576 ∧ (n2 = 0 → c2 = 0 ∨ A2 ≠ none) := by
  obtain ⟨cs, rfl, hsz⟩ := okWide_struct Tryz.underlying25 hval
  obtain ⟨l⟩ := cs
  match l, hsz.trans cCase with
  | [c0, c1, c2], _ =>
    obtain ⟨fuel, hf⟩ := h
    obtain ⟨xs, n, _, hy, _, hlen, hg⟩ := DataW.trod_struct Tryz.underlying25 hf
    match xs, hlen with
    | [y0, y1, y2], _ =>
      have g0 : DataW.trod enc Tryz.prog W 0 (fun _ => true) true n 22 (([c0, c1, c2].drop 0).take (Tryz.prog.cellsOf 22)) = some y0 := hg 0 _ rfl
      rw [cMks] at g0
      have g1 : DataW.trod enc Tryz.prog W 0 (fun _ => true) true n 23 (([c0, c1, c2].drop 1).take (Tryz.prog.cellsOf 23)) = some y1 := hg 1 _ rfl
      rw [cIs] at g1
      have g2 : DataW.trod enc Tryz.prog W 0 (fun _ => true) true n 3 (([c0, c1, c2].drop 2).take (Tryz.prog.cellsOf 3)) = some y2 := hg 2 _ rfl
      rw [cI] at g2
      obtain ⟨hs, ⟨A, c, rfl, hnc, -, hrd⟩, hbl, -, hall⟩ := open_rows (c := c0) (f := MkV.cells) (p := Opened W) Tryz.underlying22 cMk mk_len (by omega) (fun n cs y h => open_mark h) g0
      obtain ⟨zs, ⟨A2, c2', rfl, -, hnl2, hrd2⟩, hbz, -⟩ := open_is (c := c1) g1
      obtain ⟨K, rfl, -, -⟩ := open_i (c := c2) g2
      have hB : Rows.uptoBulk y0.1 + 1 ≤ Rows.uptoBulk d := by
        have hd : d = (DataW.agg (List.map (·.1) [y0, y1, y2])) := congrArg Prod.fst hy
        rw [hd]
        simp only [Rows.uptoBulk]
        have := bulk_mem (d := y0.1) (l := List.map (·.1) [y0, y1, y2]) (by simp)
        omega
      have hB2 : Rows.uptoBulk y1.1 + 1 ≤ Rows.uptoBulk d := by
        have hd : d = (DataW.agg (List.map (·.1) [y0, y1, y2])) := congrArg Prod.fst hy
        rw [hd]
        simp only [Rows.uptoBulk]
        have := bulk_mem (d := y1.1) (l := List.map (·.1) [y0, y1, y2]) (by simp)
        omega
      refine ⟨A, A2, hs.length, c, zs.length, c2', K, hs, zs, rfl, hnc, by omega, ⟨rfl, hrd, by omega, fun x hx => ?_, fun x hx => ?_⟩, fun x hx => ?_, fun x hx => ?_, fun x hx => ?_, hrd2, rfl, by omega, hnl2⟩
      · obtain ⟨dd, ho, hb2⟩ := hall x hx
        exact ⟨by have := ho.m; omega, by have := ho.t; omega, by have := ho.b; omega, ho.nl, ho.nh⟩
      · obtain ⟨dd, ho, hb2⟩ := hall x hx
        exact ho.one
      · obtain ⟨dd, ho, hb2⟩ := hall x hx
        exact ho.ok
      · obtain ⟨dd, ho, hb2⟩ := hall x hx
        have hh := ho.ints
        exact ⟨hh.2.2.1, hh.2.2.2.1, hh.2.2.2.2.1, hh.2.2.2.2.2.1, hh.2.2.2.2.2.2.1, hh.2.2.2.2.2.2.2.1, hh.2.2.2.2.2.2.2.2.1, hh.2.2.2.2.2.2.2.2.2.1, fun y hy => ⟨(hh.2.2.2.2.2.2.2.2.2.2.2.2.1 y hy).1, (hh.2.2.2.2.2.2.2.2.2.2.2.2.1 y hy).2.1⟩⟩
      · obtain ⟨dd, ho, hb2⟩ := hall x hx
        have hh := ho.ints
        exact ⟨hh.2.2.2.2.2.2.2.2.2.2.2.2.2.1, hh.2.2.2.2.2.2.2.2.2.2.2.2.2.2.1, hh.2.2.2.2.2.2.2.2.2.2.2.2.2.2.2.1, hh.2.2.2.2.2.2.2.2.2.2.2.2.2.2.2.2.1, by have := ho.ck; omega, by have := ho.cv; omega, by have := ho.cd; omega⟩
theorem small_one {H : Type} {d : DataW H} (h : Rows.uptoSmall H [d] = true) : Rows.uptoBulk d ≤ 1048576 := by
  have h1 : Rows.uptoBulkAll [d] ≤ 1048576 := of_decide_eq_true h
  simp only [Rows.uptoBulkAll] at h1
  omega
end Go.Proofs.YtohnmaindbgngaaGreatDoor
