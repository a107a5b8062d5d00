/-
  THE MARKS AS DATA, AND THE COMMANDS IN THEIR ONE ORDER: the plain law.
-/
import Derived.Test.YtfpcmleeehciaaaRow
namespace Go.Proofs.Ytfpcmleeehciaaa
set_option linter.unusedVariables false
set_option linter.unusedSimpArgs false
open Go.RowKit

structure CmdD where
  c : Int
  i : Int
  r : Int
  o : Int
  k : List UInt8
  v : List UInt8
  d : List UInt8
deriving DecidableEq
abbrev tx (l : List UInt8) : Value := .string ⟨l.toArray⟩
def CmdD.cells (x : CmdD) : List Value := [.int .i64 x.c, .int .i64 x.i, .int .i64 x.r, .int .i64 x.o, tx x.k, tx x.v, tx x.d]
theorem cmd_seven (x : CmdD) : x.cells.length = 7 := rfl
structure MemD where
  p : Int
  i : Int
  c : Int
deriving DecidableEq
def MemD.cells (x : MemD) : List Value := [.int .i64 x.p, .int .i64 x.i, .int .i64 x.c]
theorem mem_three (x : MemD) : x.cells.length = 3 := rfl
structure MarkD where
  at_ : Int
  kind : Int
  node : Int
  inc : Int
  e1 : Int
  e2 : Int
  e3 : Int
  e4 : Int
  mem : List MemD
  tr : List Int
  sender : Int
  seq : Int
  pos : Int
  n : Int
  body : List UInt8
  cmd : CmdD
  rc : Int
  rv : List UInt8
  rn : Int
  err : Int
deriving DecidableEq
/-- A mark's cells: its three lists stand elsewhere. -/
def MarkD.cells (x : MarkD) (vm vt vb : Value) : List Value :=
  [.int .i64 x.at_, .int .i64 x.kind, .int .i64 x.node, .int .i64 x.inc, .int .i64 x.e1, .int .i64 x.e2, .int .i64 x.e3, .int .i64 x.e4, vm, vt, .int .i64 x.sender, .int .i64 x.seq, .int .i64 x.pos, .int .i64 x.n, vb] ++ x.cmd.cells ++ [.int .i64 x.rc, tx x.rv, .int .i64 x.rn, .int .i64 x.err]

/-- The first command that was done at an index. -/
def hfind (ds : List MarkD) (n : Int) : Option CmdD := (ds.find? fun d => d.kind == 12 && d.n == n).map (·.cmd)
def IsHist (ds : List MarkD) (cs : List CmdD) : Prop := (∀ (i : Nat) (h : i < cs.length), hfind ds ((i : Int) + 1) = some cs[i]) ∧ hfind ds ((cs.length : Int) + 1) = none
theorem IsHist.le {ds : List MarkD} {a b : List CmdD} (ha : IsHist ds a) (hb : IsHist ds b) : a.length ≤ b.length := by
  rcases Nat.lt_or_ge b.length a.length with h | h
  · have h1 := ha.1 b.length h
    rw [hb.2] at h1
    cases h1
  · exact h
theorem IsHist.uniq {ds : List MarkD} {a b : List CmdD} (ha : IsHist ds a) (hb : IsHist ds b) : a = b := by
  have hl : a.length = b.length := Nat.le_antisymm (ha.le hb) (hb.le ha)
  refine List.ext_getElem hl fun i h1 h2 => ?_
  have e1 := ha.1 i h1
  have e2 := hb.1 i h2
  rw [e1] at e2
  exact Option.some.inj e2
theorem hfind_snoc (ds : List MarkD) (d : MarkD) (n : Int) : hfind (ds ++ [d]) n = (hfind ds n).or (if d.kind = 12 ∧ d.n = n then some d.cmd else none) := by
  unfold hfind
  rw [List.find?_append]
  cases h : ds.find? (fun d => d.kind == 12 && d.n == n) with
  | some x => simp
  | none =>
    simp only [Option.map_none, Option.none_or]
    by_cases hc : d.kind = 12 ∧ d.n = n
    · simp [hc.1, hc.2]
    · rw [if_neg hc]
      have : (d.kind == 12 && d.n == n) = false := by
        rw [Bool.and_eq_false_iff]
        rcases Decidable.not_and_iff_or_not.1 hc with h1 | h1
        · exact .inl (by simp [h1])
        · exact .inr (by simp [h1])
      simp [this]
theorem hfind_filter (ds : List MarkD) (n m : Int) (h : n ≠ m) : hfind (ds.filter fun d => !(d.n == m)) n = hfind ds n := by
  unfold hfind
  rw [List.find?_filter]
  congr 2
  funext d
  by_cases hd : d.n = n
  · rw [hd]
    rw [beq_eq_false_iff_ne.2 h]
    cases d.kind == 12 <;> simp
  · simp [hd]
/-- There are no more indexes in a row than marks. -/
theorem hfind_many : ∀ (j : Nat) (ds : List MarkD), (∀ i : Nat, i < j → (hfind ds ((i : Int) + 1)).isSome = true) → j ≤ ds.length
  | 0, _, _ => Nat.zero_le _
  | j + 1, ds, h => by
    have h1 := hfind_many j (ds.filter fun d => !(d.n == (j : Int) + 1)) (fun i hi => by
      rw [hfind_filter _ _ _ (by omega)]
      exact h i (by omega))
    have h2 := h j (by omega)
    have h3 : (ds.filter fun d => !(d.n == (j : Int) + 1)).length < ds.length := by
      unfold hfind at h2
      cases hf : ds.find? (fun d => d.kind == 12 && d.n == (j : Int) + 1) with
      | none => rw [hf] at h2; cases h2
      | some x =>
        have hp := List.find?_some hf
        have hm := List.mem_of_find?_eq_some hf
        refine Nat.lt_of_le_of_ne (List.length_filter_le _ _) fun he => ?_
        have := List.length_filter_eq_length_iff.1 he x hm
        simp at hp this
        exact this hp.2
    omega
/-- A rising list of numbers above 0 that starts as 1, 2, .. j: is j + 1 in it? -/
theorem next_in {L : List Int} {j : Nat} (hs : L.Pairwise (· ≤ ·)) (hn : L.Nodup) (hp : ∀ x ∈ L, 0 < x) (hb : ∀ (i : Nat) (h : i < L.length), i < j → L[i] = (i : Int) + 1) (hj : j ≤ L.length) (hne : ∀ h : j < L.length, L[j] ≠ (j : Int) + 1) : ((j : Int) + 1) ∉ L := by
  intro hm
  obtain ⟨i, hi, he⟩ := List.mem_iff_getElem.1 hm
  rcases Nat.lt_or_ge i j with h | h
  · have := hb i hi h
    omega
  · have hjl : j < L.length := by omega
    have hje := hne hjl
    have hle : ∀ (a b : Nat) (ha : a < L.length) (hb : b < L.length), a ≤ b → L[a] ≤ L[b] := fun a b ha hb hab => by
      rcases Nat.lt_or_eq_of_le hab with h | h
      · exact List.pairwise_iff_getElem.1 hs a b ha hb h
      · subst h; exact Int.le_refl _
    have hne2 : ∀ (a b : Nat) (ha : a < L.length) (hb : b < L.length), a < b → L[a] ≠ L[b] := fun a b ha hb hab => List.pairwise_iff_getElem.1 hn a b ha hb hab
    have hlow : (j : Int) < L[j] := by
      rcases Nat.eq_zero_or_pos j with h0 | h0
      · subst h0
        have := hp _ (List.getElem_mem hjl)
        exact this
      · have e1 := hb (j - 1) (by omega) (by omega)
        have e2 := hle (j - 1) j (by omega) hjl (by omega)
        have e3 := hne2 (j - 1) j (by omega) hjl (by omega)
        omega
    have := hle j i hjl hi h
    omega
end Go.Proofs.Ytfpcmleeehciaaa
