/-
  OPENING ARGUMENTS: a slice of bytes, a command.
-/
import Derived.Test.YtkgbhanpenpkmaaDoorClose
import Derived.Test.YtkgbhanpenpkmaaDoorCheck
namespace Go.Proofs.YtkgbhanpenpkmaaDoor
set_option linter.unusedVariables false
set_option linter.unusedSimpArgs false
open Go.ChangeShapes Go.WideShapes Go.ChangeAt Go.RowKit Go.Joins

theorem cellsU8 : Tryd.prog.cellsOf 5 = 1 := by kernel_rfl
theorem cellsInt : Tryd.prog.cellsOf 3 = 1 := by kernel_rfl
theorem cellsStr : Tryd.prog.cellsOf 9 = 1 := by kernel_rfl
theorem cellsCmd : Tryd.prog.cellsOf 23 = 7 := by kernel_rfl
theorem bulkAll_len {H : Type} : ∀ l : List (DataW H), l.length ≤ Rows.uptoBulkAll l
  | [] => Nat.zero_le _
  | d :: r => by
    have h := bulkAll_len r
    have h1 : 1 ≤ Rows.uptoBulk d := by cases d with
      | lit l => cases l <;> simp [Rows.uptoBulk]
      | _ => simp [Rows.uptoBulk]
    simp only [Rows.uptoBulkAll, List.length_cons]
    omega
section
variable {H : Type} {enc : TypeId × Value → H}
set_option maxRecDepth 100000 in
theorem open_byts {W : World} {base : Nat} {v : Value} {d : DataW H} {p : List MemPlace} (hval : Value.okWide Tryd.prog W .any base 24 v) (h : DataW.Trod enc Tryd.prog W 0 (fun _ => true) true 24 v d p) :
    ∃ (A : Option Addr) (n c : Nat) (bs : List UInt8), v = .slice A n c ∧ n ≤ c ∧ Rd W (fun _ => True) 1 A n (Lib.byteCells bs) ∧ (n = 0 → c = 0 ∨ A ≠ none) ∧ n ≤ Rows.uptoBulk d := by
  obtain ⟨a1, len, cap, rfl⟩ := okWide_slice Tryd.underlying24 hval
  obtain ⟨fuel, hf⟩ := h
  rcases open_ints Tryd.underlying24 Tryd.underlying5 cellsU8 hf with ⟨hcs, hx⟩ | ⟨a, len', cap', zs, hcs, _, hl, hm, hz, hx, hcell, hwz⟩
  · simp [Value.cells] at hcs
    obtain ⟨rfl, rfl, rfl⟩ := hcs
    exact ⟨none, 0, 0, [], rfl, Nat.le_refl _, Rd.nil _ _ _ _, fun _ => .inl rfl, Nat.zero_le _⟩
  · simp [Value.cells] at hcs
    obtain ⟨rfl, rfl, rfl⟩ := hcs
    simp only [Prod.mk.injEq] at hx
    obtain ⟨rfl, rfl⟩ := hx
    simp only [if_true] at hz
    refine ⟨some a, len, cap, (zs.take len).map fun n => UInt8.ofNat n.toNat, rfl, hl, ⟨by simp [Lib.byteCells]; omega, fun hn => ?_⟩, fun _ => .inr (by simp), ?_⟩
    · obtain ⟨ab, ao, spot⟩ := a
      have hspot : spot = none := by simpa [Addr.add] using World.cell?_spot (hcell 0 (by omega))
      subst hspot
      refine ⟨ab, ao, rfl, trivial, fun j u hu => ?_⟩
      have hj : j < len := by
        rcases Nat.lt_or_ge j len with h | h
        · exact h
        · rw [List.getElem?_eq_none (by simp [Lib.byteCells]; omega)] at hu; cases hu
      have hjz : j < zs.length := by omega
      have hc := hcell j hjz
      rw [Addr.add_lit] at hc
      rw [hc]
      have hb := range_u8 hwz j
      simp only [List.getElem?_eq_getElem hjz, Option.getD_some] at hb
      simp only [Lib.byteCells, List.getElem?_map, List.getElem?_take, hj, if_true, List.getElem?_eq_getElem hjz, Option.map_some, Option.some.injEq] at hu
      rw [← hu]
      simp only [List.getD, List.getElem?_eq_getElem hjz, Option.getD_some]
      congr 2
      rw [UInt8.toNat_ofNat']
      omega
    · simp only [Rows.uptoBulk]
      have := bulkAll_len (lits (H := H) .u8 (zs.take len))
      simp [lits] at this
      simp [lits]
      omega
theorem str_of (s : ByteArray) : Value.string s = str s.data.toList := by
  obtain ⟨a⟩ := s
  simp [str]
set_option maxRecDepth 100000 in
theorem open_cmd {W : World} {base : Nat} {v : Value} {d : DataW H} {p : List MemPlace} (hval : Value.okWide Tryd.prog W .any base 23 v) (h : DataW.Trod enc Tryd.prog W 0 (fun _ => true) true 23 v d p) :
    ∃ (c i r o : Int) (k x y : List UInt8), v = cmdV c i r o k x y := by
  obtain ⟨cs, rfl, hsz⟩ := okWide_struct Tryd.underlying23 hval
  obtain ⟨l⟩ := cs
  match l, hsz.trans cellsCmd with
  | [c0, c1, c2, c3, c4, c5, c6], _ =>
    obtain ⟨fuel, hf⟩ := h
    obtain ⟨xs, n, _, _, _, hlen, hg⟩ := DataW.trod_struct Tryd.underlying23 hf
    match xs, hlen with
    | [y0, y1, y2, y3, y4, y5, y6], _ =>
      have g0 := hg 0 _ rfl
      have g1 := hg 1 _ rfl
      have g2 := hg 2 _ rfl
      have g3 := hg 3 _ rfl
      have g4 := hg 4 _ rfl
      have g5 := hg 5 _ rfl
      have g6 := hg 6 _ rfl
      simp only [Value.cells, cellsInt, cellsStr, List.drop, List.take] at g0 g1 g2 g3 g4 g5 g6
      obtain ⟨n0, e0, _⟩ := DataW.trod_int Tryd.underlying3 g0
      obtain ⟨n1, e1, _⟩ := DataW.trod_int Tryd.underlying3 g1
      obtain ⟨n2, e2, _⟩ := DataW.trod_int Tryd.underlying3 g2
      obtain ⟨n3, e3, _⟩ := DataW.trod_int Tryd.underlying3 g3
      obtain ⟨s4, e4, _⟩ := DataW.trod_string Tryd.underlying9 g4
      obtain ⟨s5, e5, _⟩ := DataW.trod_string Tryd.underlying9 g5
      obtain ⟨s6, e6, _⟩ := DataW.trod_string Tryd.underlying9 g6
      obtain rfl : c0 = .int .i64 n0 := by simpa [cellsInt, cellsStr] using e0
      obtain rfl : c1 = .int .i64 n1 := by simpa [cellsInt, cellsStr] using e1
      obtain rfl : c2 = .int .i64 n2 := by simpa [cellsInt, cellsStr] using e2
      obtain rfl : c3 = .int .i64 n3 := by simpa [cellsInt, cellsStr] using e3
      obtain rfl : c4 = .string s4 := by simpa [cellsInt, cellsStr] using e4
      obtain rfl : c5 = .string s5 := by simpa [cellsInt, cellsStr] using e5
      obtain rfl : c6 = .string s6 := by simpa [cellsInt, cellsStr] using e6
      exact ⟨n0, n1, n2, n3, s4.data.toList, s5.data.toList, s6.data.toList, by rw [str_of s4, str_of s5, str_of s6]⟩
end
end Go.Proofs.YtkgbhanpenpkmaaDoor
