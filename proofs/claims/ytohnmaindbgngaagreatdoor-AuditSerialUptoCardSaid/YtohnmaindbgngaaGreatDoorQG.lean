/-
  MERGED: New HMap
-/
import Derived.Test.YtohnmaindbgngaaGreatDoorQD
import Derived.Test.YtohnmaindbgngaaGreatDoorShelf
import Derived.Sort.OwnSortedInts
import Derived.Test.YtohnmaindbgngaaGreatDoorQ1
import Derived.Test.YtohnmaindbgngaaGreatDoorQC
namespace Go.Proofs.YtohnmaindbgngaaGreatDoor
set_option linter.unusedVariables false
set_option linter.unusedSimpArgs false
open Go.RowKit

/-! ### sorted -/
theorem sort_any (base : Nat) (v : Value) (zs : List Int) (w : World) (h : w.ownsRow base 3 1 v zs.length (ics zs)) (hn : zs.length < 4611686018427387904) :
    Calls Tryz.prog 23 #[v] w fun e w' => e = .returned (.tuple #[]) ∧ w'.ownsRow base 3 1 v zs.length (ics (zs.mergeSort fun x y => decide (x ≤ y))) ∧ Keep (fun k => v.ownBlock ≠ some k) w w' := by
  rcases h.2 with ⟨rfl, h0⟩ | ⟨g, cap, cur, rfl, hb, hh, hc, hm, hs, ht⟩
  · have hz : zs = [] := List.eq_nil_of_length_eq_zero h0
    subst hz
    refine (Tryz.slices_Sort_int_none none 0 w).mono ?_
    rintro e _ ⟨rfl, rfl⟩
    exact ⟨rfl, by simpa [ics] using h, Keep.refl _ _⟩
  · have ht' : cur.toList.take zs.length = zs.map (Value.int .i64) := by simpa [ics] using ht
    refine (Tryz.slices_Sort_int g 0 cap zs w (holds_of_blockI hh ht') (lt_of_block hh) hn).mono ?_
    rintro e w' ⟨rfl, n, os, rfl⟩
    have hl : (zs.mergeSort fun x y => decide (x ≤ y)).length = zs.length := List.length_mergeSort _
    exact ⟨rfl, ownsRow_sortedI hl hb hh hc hm hs, Keep.of_grown (grownBy_sortedI _)⟩
end Go.Proofs.YtohnmaindbgngaaGreatDoor
namespace Go.Proofs.YtohnmaindbgngaaGreatDoor
set_option linter.unusedVariables false
set_option linter.unusedSimpArgs false
open Go.RowKit

def cmdA (x : CmdD) : Value := .agg x.cells.toArray
def HMap (ds : List MarkD) (ps : List Ke) : Prop := ∀ m : Int, kfind (.int .i64 m) ps = if 0 < m then (hfind ds m).map cmdA else none
theorem hmap_nil : HMap [] [] := fun m => by
  simp [kfind, hfind]
theorem hmap_skip {ds : List MarkD} {ps : List Ke} {d : MarkD} (h : HMap ds ps) (hd : ¬ (d.kind = 12 ∧ 0 < d.n ∧ kfind (.int .i64 d.n) ps = none)) : HMap (ds ++ [d]) ps := fun m => by
  rw [h m, hfind_snoc]
  by_cases hm : 0 < m
  · rw [if_pos hm, if_pos hm]
    cases hf : hfind ds m with
    | some x => rfl
    | none =>
      by_cases hc : d.kind = 12 ∧ d.n = m
      · exfalso
        refine hd ⟨hc.1, by omega, ?_⟩
        rw [hc.2, h m, if_pos hm, hf]
        rfl
      · rw [if_neg hc]
        rfl
  · rw [if_neg hm, if_neg hm]
theorem hmap_put {ds : List MarkD} {ps : List Ke} {d : MarkD} (h : HMap ds ps) (hk : d.kind = 12) (hn : 0 < d.n) (hf : kfind (.int .i64 d.n) ps = none) : HMap (ds ++ [d]) (kput (.int .i64 d.n) (cmdA d.cmd) ps) := fun m => by
  rw [kfind_put, hfind_snoc]
  by_cases hm : d.n = m
  · subst hm
    have h1 := h d.n
    rw [hf, if_pos hn] at h1
    have h2 : hfind ds d.n = none := by
      cases hx : hfind ds d.n with
      | none => rfl
      | some x => rw [hx] at h1; cases h1
    rw [h2]
    simp [Lit.sameKey, hk, hn]
  · have e : Lit.sameKey (.int .i64 d.n) (.int .i64 m) = false := by simp [Lit.sameKey, hm]
    rw [e, h m]
    have hc : ¬ (d.kind = 12 ∧ d.n = m) := fun h => hm h.2
    rw [if_neg hc]
    cases hfind ds m <;> simp
theorem hmap_some {ds : List MarkD} {ps : List Ke} (h : HMap ds ps) {m : Int} {v : Value} (hv : kfind (.int .i64 m) ps = some v) : 0 < m ∧ ∃ c, hfind ds m = some c ∧ v = cmdA c := by
  have := h m
  rw [hv] at this
  by_cases hm : 0 < m
  · rw [if_pos hm] at this
    cases hf : hfind ds m with
    | none => rw [hf] at this; cases this
    | some c =>
      rw [hf] at this
      exact ⟨hm, c, rfl, Option.some.inj this⟩
  · rw [if_neg hm] at this; cases this
/-- The keys that came out of a map, in rising order, told apart. -/
structure Keys (ds : List MarkD) (L : List Int) : Prop where
  sorted : L.Pairwise (· ≤ ·)
  nodup : L.Nodup
  mem : ∀ x, x ∈ L ↔ 0 < x ∧ (hfind ds x).isSome = true
theorem keys_sorted {ds : List MarkD} {L : List Int} (hn : L.Nodup) (hm : ∀ x, x ∈ L ↔ 0 < x ∧ (hfind ds x).isSome = true) : Keys ds (L.mergeSort fun x y => decide (x ≤ y)) := by
  have hp := List.mergeSort_perm L (fun x y => decide (x ≤ y))
  refine ⟨?_, hp.nodup_iff.2 hn, fun x => by rw [hp.mem_iff]; exact hm x⟩
  have := List.pairwise_mergeSort (le := fun x y : Int => decide (x ≤ y)) (by intro a b c; simp; omega) (by intro a b; simp; omega) L
  exact this.imp (by intro a b; simp)
/-- Where the way through the keys ends. -/
theorem keys_end {ds : List MarkD} {L : List Int} {cs : List CmdD} (hK : Keys ds L) (hb : ∀ (i : Nat) (h : i < L.length), i < cs.length → L[i] = (i : Int) + 1) (hl : cs.length ≤ L.length) (hne : ∀ h : cs.length < L.length, L[cs.length] ≠ (cs.length : Int) + 1)
    (hc : ∀ (i : Nat) (h : i < cs.length), hfind ds ((i : Int) + 1) = some cs[i]) : IsHist ds cs := by
  refine ⟨hc, ?_⟩
  have h1 := next_in hK.sorted hK.nodup (fun x hx => ((hK.mem x).1 hx).1) hb hl hne
  cases hf : hfind ds ((cs.length : Int) + 1) with
  | none => rfl
  | some c =>
    exact absurd ((hK.mem _).2 ⟨by omega, by rw [hf]; rfl⟩) h1
end Go.Proofs.YtohnmaindbgngaaGreatDoor
