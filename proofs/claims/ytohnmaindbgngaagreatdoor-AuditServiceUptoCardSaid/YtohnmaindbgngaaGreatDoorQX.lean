/-
  MERGED: SrvJ
-/
import Derived.Test.YtohnmaindbgngaaGreatDoorQV
import Derived.Test.YtohnmaindbgngaaGreatDoorQW
namespace Go.Proofs.YtohnmaindbgngaaGreatDoor
set_option linter.unusedVariables false
set_option linter.unusedSimpArgs false
open Go.RowKit Go.Shelf

theorem dsOf_memS {hs ks : List MkV} (h : dsOf ks = dsOf hs) {x : MkV} (hx : x ∈ ks) : ∃ y ∈ hs, y.d = x.d := by
  have h1 : x.d ∈ dsOf ks := List.mem_map_of_mem hx
  rw [h] at h1
  exact List.mem_map.1 h1
theorem rcells_takeS {α : Type} {f : α → List Value} {c : Nat} (hc : ∀ a, (f a).length = c) : ∀ (xs : List α) (k : Nat), rcells f (xs.take k) = (rcells f xs).take (k * c)
  | [], k => by simp [rcells]
  | x :: r, 0 => by simp [rcells]
  | x :: r, k + 1 => by
    have e1 : rcells f (x :: r) = f x ++ rcells f r := by simp [rcells]
    have e2 : rcells f ((x :: r).take (k + 1)) = f x ++ rcells f (r.take k) := by simp [rcells]
    have e3 : (f x).take ((k + 1) * c) = f x := List.take_of_length_le (by rw [hc, Nat.succ_mul]; omega)
    rw [e1, e2, rcells_takeS hc r k, List.take_append, hc, e3, show (k + 1) * c - c = k * c from by rw [Nat.succ_mul]; omega]
theorem Rd.take26S {w : World} {Z : Nat → Prop} {size n k : Nat} {A : Option Addr} {xs : List Value} (h : Rd w Z size A n xs) (hk : k ≤ n) : Rd w Z size A k (xs.take (k * size)) := by
  refine ⟨by rw [List.length_take, h.1]; exact Nat.min_eq_left (Nat.mul_le_mul_right size hk), fun hn => ?_⟩
  obtain ⟨b, o, e, hz, hc⟩ := h.2 (by omega)
  refine ⟨b, o, e, hz, fun j u hu => hc j u ?_⟩
  rw [List.getElem?_take] at hu
  split at hu
  · exact hu
  · cases hu
/-- The marks ahead of a place. -/
theorem Mks.takeS {w : World} {Z : Nat → Prop} {A : Option Addr} {n k : Nat} {hs : List MkV} (h : Mks w Z A n hs) (hk : k ≤ n) : Mks w Z A k (hs.take k) :=
  ⟨by rw [List.length_take, h.len]; omega, by
    have e : mcells (hs.take k) = (mcells hs).take (k * 26) := rcells_takeS mk_len hs k
    rw [e]
    exact h.rd.take26S hk, Nat.le_trans hk h.le, fun x hx => h.fit x (List.mem_of_mem_take hx), fun x hx => h.one x (List.mem_of_mem_take hx)⟩

end Go.Proofs.YtohnmaindbgngaaGreatDoor
