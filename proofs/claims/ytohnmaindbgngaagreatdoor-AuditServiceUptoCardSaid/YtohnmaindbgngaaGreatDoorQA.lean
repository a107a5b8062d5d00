/-
  MERGED: Does Ask
-/
import Derived.Test.YtohnmaindbgngaaGreatDoorQ9
import Derived.Test.YtohnmaindbgngaaGreatDoorQ8
import Derived.Test.YtohnmaindbgngaaGreatDoorQ6
import Derived.Test.YtohnmaindbgngaaGreatDoorQ7
import Derived.Test.YtohnmaindbgngaaGreatDoorQ5
import Derived.BigRegion
namespace Go.Proofs.YtohnmaindbgngaaGreatDoor
set_option linter.unusedVariables false
set_option linter.unusedSimpArgs false
open Go.RowKit

theorem vcmd_of {c i r o : Int} {k v d : Txt} (h : validB c i r o k v d = true) : VCmd numb c i r o k v d := by
  obtain ⟨⟨hc0, hc1⟩, ⟨hi0, hi1⟩, ⟨hr0, hr1⟩, ⟨ho1, ho9⟩, hf⟩ := valid_ok h
  obtain ⟨l1, l2, l3⟩ := fits_len hf
  have hK : o ≤ 8 → 1 ≤ k.length := by
    intro ho
    have hs : hasB (shapeTab.getD o.toNat 0) 1 = true := by
      obtain ⟨n, rfl⟩ : ∃ n : Nat, o = (n : Int) := ⟨o.toNat, by omega⟩
      have hn : n = 1 ∨ n = 2 ∨ n = 3 ∨ n = 4 ∨ n = 5 ∨ n = 6 ∨ n = 7 ∨ n = 8 := by omega
      rcases hn with rfl | rfl | rfl | rfl | rfl | rfl | rfl | rfl <;> decide
    unfold fitsB at hf
    split at hf
    · cases hf
    · rename_i h1
      have : keyB k = true := by
        rcases hk : keyB k with _ | _
        · exact absurd (.inl (by rw [hs, hk]; simp)) h1
        · rfl
      simp [keyB] at this
      omega
  have hE : o = 9 → 0 ≤ (numb v).1 ∧ (numb v).1 < 16 := by
    rintro rfl
    have e : shapeTab.getD (9 : Int).toNat 0 = 32 := by decide
    have b2 : hasB 32 2 = false := by decide
    have b8 : hasB 32 8 = false := by decide
    have b16 : hasB 32 16 = false := by decide
    have b32 : hasB 32 32 = true := by decide
    rw [e] at hf
    unfold fitsB at hf
    rw [b2, b8, b16, b32] at hf
    split at hf
    · cases hf
    · split at hf
      · cases hf
      · simp at hf
        exact hf.2
  exact ⟨hc0, hc1, hi0, hi1, hr0, hr1, ho1, by omega, fun ho => ⟨hK ho, l1⟩, l2, hE⟩

def opFn (o : Int) : Nat := if o = 1 then 46 else if o = 2 then 47 else if o = 3 then 48 else if o = 4 then 49 else if o = 5 then 50
  else if o = 6 then 51 else if o = 7 then 52 else if o = 8 then 53 else 54
theorem op_nine {o : Int} (h1 : 1 ≤ o) (h9 : o ≤ 9) : o = 1 ∨ o = 2 ∨ o = 3 ∨ o = 4 ∨ o = 5 ∨ o = 6 ∨ o = 7 ∨ o = 8 ∨ o = 9 := by omega
theorem opOf_one (o : Int) (f : Nat) (w : World) (h : (o = 1 ∧ f = 46) ∨ (o = 2 ∧ f = 47) ∨ (o = 3 ∧ f = 48) ∨ (o = 4 ∧ f = 49) ∨ (o = 5 ∧ f = 50) ∨ (o = 6 ∧ f = 51) ∨ (o = 7 ∧ f = 52) ∨ (o = 8 ∧ f = 53) ∨ (o = 9 ∧ f = 54)) :
    Calls Tryz.prog 26 #[.int .i64 o] w fun e w' => e = .returned (.agg #[.func (Fn.func f) #[] #[]]) ∧ Fresh w w' := by
  rcases h with ⟨rfl, rfl⟩ | ⟨rfl, rfl⟩ | ⟨rfl, rfl⟩ | ⟨rfl, rfl⟩ | ⟨rfl, rfl⟩ | ⟨rfl, rfl⟩ | ⟨rfl, rfl⟩ | ⟨rfl, rfl⟩ | ⟨rfl, rfl⟩
  all_goals
    go_enter Tryz.func26, Tryz.ntmps26
    go_wp2
    refine bodyPost_ret (results_one rfl _ _ w.heap.size 86 _ _ rfl (Blk.new _ _ _) Tryz.underlying86 rfl (by kernel_rfl)) rfl ?_
    exact ⟨rfl, (Keep.refl _ w).alloc _⟩
theorem opOf_all {o : Int} (h1 : 1 ≤ o) (h9 : o ≤ 9) (w : World) : Calls Tryz.prog 26 #[.int .i64 o] w fun e w' => e = .returned (.agg #[.func (Fn.func (opFn o)) #[] #[]]) ∧ Fresh w w' := by
  refine opOf_one o (opFn o) w ?_
  rcases op_nine h1 h9 with rfl | rfl | rfl | rfl | rfl | rfl | rfl | rfl | rfl <;> simp [opFn]
theorem op_does (S : Nat → Prop) (m bp bl : Nat) (s : StD) (c i r o : Int) (k v d : Txt) (w : World) (hm : MSt S w m bp bl s) (hi : LInv s.locks s.tok) (hp : PInv s.pairs) (hT : Tabs w) (hv : VCmd numb c i r o k v d) :
    Calls Tryz.prog (opFn o) #[.pointer (some ⟨m, 0, none⟩), cmdV c i r o k v d] w (OpPost S m bp bl (doesD numb Lib.itoa c o k v d s) w) := by
  have hk := hv.kl
  rcases op_nine hv.o1 hv.o9 with rfl | rfl | rfl | rfl | rfl | rfl | rfl | rfl | rfl
  · rw [show doesD numb Lib.itoa c 1 k v d s = onKeyD numb Lib.itoa 1 k v d s by simp [doesD], show opFn 1 = 46 from rfl]
    exact setop_any Lib.itoa S m bp bl s c i r 1 k v d w hm hp (hk (by omega)).2
  · rw [show doesD numb Lib.itoa c 2 k v d s = onKeyD numb Lib.itoa 2 k v d s by simp [doesD], show opFn 2 = 47 from rfl]
    exact getop_any Lib.itoa S m bp bl s c i r k v d w hm (hk (by omega)).2
  · rw [show doesD numb Lib.itoa c 3 k v d s = onKeyD numb Lib.itoa 3 k v d s by simp [doesD], show opFn 3 = 48 from rfl]
    exact casop_any Lib.itoa S m bp bl s c i r k v d w hm hp (hk (by omega)).2
  · rw [show doesD numb Lib.itoa c 4 k v d s = onKeyD numb Lib.itoa 4 k v d s by simp [doesD], show opFn 4 = 49 from rfl]
    exact delop_any Lib.itoa S m bp bl s c i r k v d w hm (hk (by omega)).2
  · rw [show doesD numb Lib.itoa c 5 k v d s = onKeyD numb Lib.itoa 5 k v d s by simp [doesD], show opFn 5 = 50 from rfl]
    exact addop_any S m bp bl s c i r k v d w hm hp (hk (by omega)).2 hv.vl hT
  · rw [show doesD numb Lib.itoa c 6 k v d s = onLockD numb c 6 k v s by simp [doesD], show opFn 6 = 51 from rfl]
    exact lock_any S m bp bl s c i r k v d w hm hi (hk (by omega)).2
  · rw [show doesD numb Lib.itoa c 7 k v d s = onLockD numb c 7 k v s by simp [doesD], show opFn 7 = 52 from rfl]
    exact unlock_any S m bp bl s c i r k v d w hm hi (hk (by omega)).2
  · rw [show doesD numb Lib.itoa c 8 k v d s = onLockD numb c 8 k v s by simp [doesD], show opFn 8 = 53 from rfl]
    exact fence_any S m bp bl s c i r k v d w hm (hk (by omega)).2 hT hv.vl
  · rw [show doesD numb Lib.itoa c 9 k v d s = endD numb v s by simp [doesD], show opFn 9 = 54 from rfl]
    exact end_any S m bp bl s c i r k v d w hm hi hT (hv.e rfl)
end Go.Proofs.YtohnmaindbgngaaGreatDoor
namespace Go.Proofs.YtohnmaindbgngaaGreatDoor
set_option linter.unusedVariables false
set_option linter.unusedSimpArgs false
open Go.RowKit

theorem newm_any (w : World) : Calls Tryz.prog 13 #[] w fun e w' => (∃ m bp bl : Nat, e = .returned (.pointer (some ⟨m, 0, none⟩)) ∧ MSt (fun j => j = bl) w' m bp bl newD ∧ w.heap.size ≤ m ∧ w.heap.size ≤ bp ∧ w.heap.size ≤ bl) ∧ Fresh w w' := by
  refine (new_any w).mono ?_
  rintro e w' ⟨⟨m, bp, bl, rfl, hm, h1, h2, h3⟩, hf⟩
  refine ⟨⟨m, bp, bl, rfl, ⟨hm.blk, by simp [newD], hm.pm, ⟨[], hm.lm, (fun x hx => by cases hx), List.Pairwise.nil, rfl, rfl⟩, fun e => ?_, fun e => ?_⟩, h1, h2, h3⟩, hf⟩
  · exact hm.lm.ne_blk hm.blk e.symm
  · exact hm.ne e

/-! ### Session -/
def sesA (z : SesD) : Array Value := #[.int .i64 z.inc, .int .i64 z.req, .int .i64 z.last.code, str z.last.val, .int .i64 z.last.n]
abbrev sesV (z : SesD) : Value := .agg (sesA z)
/-- What 'Session' tells. -/
def sessD (q : Int) (s : StD) : SesD × Bool := if q < 0 ∨ 16 ≤ q ∨ (s.ss.getD q.toNat noSes).inc = 0 then (noSes, false) else (s.ss.getD q.toNat noSes, true)
theorem MSt.ses {S : Nat → Prop} {w : World} {m bp bl : Nat} {s : StD} (h : MSt S w m bp bl s) {q : Nat} (hq : q < 16) (j : Nat) (hj : j < 5) : w.cell? ⟨m, 3 + q * 5 + j, none⟩ = (MSess.cells (s.ss.getD q noSes))[j]? := by
  have hqs : q < s.ss.length := by rw [h.len]; exact hq
  rw [h.cell, mcell_sess hqs hj, List.getD_eq_getElem?_getD, List.getElem?_eq_getElem hqs]
  rfl

/-- Five cells are stored into a block that the call made. -/
def sesStored (w : World) (g : Nat) (z : SesD) : World := ((((w.setCell ⟨g, 0, none⟩ (.int .i64 z.inc)).setCell ⟨g, 1, none⟩ (.int .i64 z.req)).setCell ⟨g, 2, none⟩ (.int .i64 z.last.code)).setCell ⟨g, 3, none⟩ (str z.last.val)).setCell ⟨g, 4, none⟩ (.int .i64 z.last.n)
theorem ses_stored {w W : World} {g : Nat} {cs : Array Value} (hf : Fresh w W) (hb : Blk W g 77 cs) (hc : cs = sesA noSes) (hg : g = w.heap.size) (z : SesD) : Blk (sesStored W g z) g 77 (sesA z) ∧ Fresh w (sesStored W g z) := by
  subst hc
  have h : g < w.heap.size → ¬ True := fun h => absurd h (by rw [hg]; exact Nat.lt_irrefl _)
  exact ⟨((((hb.set 0 _).set 1 _).set 2 _).set 3 _).set 4 _, ((((hf.setCell h _).setCell h _).setCell h _).setCell h _).setCell h _⟩

/-! ### Locks, Holder -/
theorem lks_rise {S : Nat → Prop} {w : World} {bl : Nat} {ms : List LkM} {ls : List LockD} (h : Lks S w bl ms ls) : (ms.map LkM.kv).map Prod.fst = ls.map LockD.name := by
  rw [← h.keys, List.map_map]
  rfl
abbrev holdA (h : Int × Int × Int) : Array Value := #[.int .i64 h.1, .int .i64 h.2.1, .int .i64 h.2.2]
/-- What 'Holder' tells: the client, its incarnation, the token. -/
def holdD (k : Txt) (s : StD) : (Int × Int × Int) × Bool := match lfind k s.locks with
  | none => ((0, 0, 0), false)
  | some l => ((l.holder, (s.ss.getD l.holder.toNat noSes).inc, l.token), true)
end Go.Proofs.YtohnmaindbgngaaGreatDoor
