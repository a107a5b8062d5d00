/-
  A VARIABLE OF SEVERAL CELLS THAT HAS JUST BEEN MADE IS WRITTEN WHOLE; A ROW OF INTS IS SORTED.
-/
import Derived.Test.YtfpcmleeehciaaaMarks
import Derived.Test.YtfpcmleeehciaaaShelf
import Derived.Sort.OwnSortedInts
namespace Go.Proofs.Ytfpcmleeehciaaa
set_option linter.unusedVariables false
set_option linter.unusedSimpArgs false
open Go.RowKit

/-! ### sorted -/
theorem sort_any (base : Nat) (v : Value) (zs : List Int) (w : World) (h : w.ownsRow base 3 1 v zs.length (ics zs)) (hn : zs.length < 4611686018427387904) :
    Calls Try.prog 20 #[v] w fun e w' => e = .returned (.tuple #[]) ∧ w'.ownsRow base 3 1 v zs.length (ics (zs.mergeSort fun x y => decide (x ≤ y))) ∧ Keep (fun k => v.ownBlock ≠ some k) w w' := by
  rcases h.2 with ⟨rfl, h0⟩ | ⟨g, cap, cur, rfl, hb, hh, hc, hm, hs, ht⟩
  · have hz : zs = [] := List.eq_nil_of_length_eq_zero h0
    subst hz
    refine (Try.slices_Sort_int_none none 0 w).mono ?_
    rintro e _ ⟨rfl, rfl⟩
    exact ⟨rfl, by simpa [ics] using h, Keep.refl _ _⟩
  · have ht' : cur.toList.take zs.length = zs.map (Value.int .i64) := by simpa [ics] using ht
    refine (Try.slices_Sort_int g 0 cap zs w (holds_of_blockI hh ht') (lt_of_block hh) hn).mono ?_
    rintro e w' ⟨rfl, n, os, rfl⟩
    have hl : (zs.mergeSort fun x y => decide (x ≤ y)).length = zs.length := List.length_mergeSort _
    exact ⟨rfl, ownsRow_sortedI hl hb hh hc hm hs, Keep.of_grown (grownBy_sortedI _)⟩
end Go.Proofs.Ytfpcmleeehciaaa
