/-
  MERGED: Unlock Lock Add Does Appl Mat Sealed
-/
import Derived.Test.YtioinjcdkmiafaaDoorYC3
import Derived.Deep.RegionHeld3
import Derived.Deep.RegionLaw
import Derived.RegionCalls
import Derived.Lib.AtoiBound
import Derived.Test.YtioinjcdkmiafaaDoorYB5
import Derived.Deep.DeepCutAuto
import Derived.Deep.CutBlock
import Derived.Test.YtioinjcdkmiafaaDoorYC1
import Derived.Test.YtioinjcdkmiafaaDoorYA7
import Derived.Test.YtioinjcdkmiafaaDoorYC0
import Derived.Test.YtioinjcdkmiafaaDoorYB1
namespace Go.Proofs.YtioinjcdkmiafaaDoor
set_option linter.unusedVariables false
set_option linter.unusedSimpArgs false
open Go.RowKit

/-- One lock is turned where it lies. -/
theorem MSt.turned {S : Nat → Prop} {w w' : World} {m bp bl : Nat} {s : StD} {ms : List LkM} {x x' : LkM} (h : MSt S w m bp bl s) (hr : Rise (s.locks.map LockD.name)) (hl : Lks S w bl ms s.locks) (hx : x ∈ ms) (hh : x'.h = x.h) (hn : x'.d.name = x.d.name)
    (hx' : LkIs (fun j => S j ∨ w.heap.size ≤ j) w' x') (hv : Next w.heap.size x.v x'.v) (hk : Keep (fun j => j ≠ x.h ∧ x.v.ownBlock ≠ some j) w w') :
    MSt (fun j => S j ∨ w.heap.size ≤ j) w' m bp bl { s with locks := setK LockD.name x'.d s.locks } ∧ Keep (fun j => j ≠ m ∧ j ≠ bp ∧ ¬ S j) w w' := by
  have hxi := hl.each x hx
  have hml := h.blk.lt
  have hbl := h.pm.lt
  have hkS : Keep (fun j => ¬ S j) w w' := hk.weaken fun j _ hj => ⟨fun e => hj (by rw [e]; exact hxi.sh), fun e => hj (hxi.sv j e)⟩
  exact ⟨⟨h.blk.keep hkS h.nm, h.len, h.pm.keep hkS h.nb, ⟨_, hl.turn hr hx hk (fun j _ h1 h2 => ⟨h1, h2⟩) hx' hh hn (fun _ h => .inl h) hv⟩, fun e => e.elim h.nm fun e => by omega, fun e => e.elim h.nb fun e => by omega⟩, hkS.weaken fun _ _ h => h.2.2⟩
theorem setK_same {l : LockD} {ls : List LockD} (hr : Rise (ls.map LockD.name)) (hl : l ∈ ls) : setK LockD.name l ls = ls := by
  unfold setK
  have : ∀ y ∈ ls, (if y.name == l.name then l else y) = y := by
    intro y hy
    split
    · rename_i h
      have h1 := findK_of (key := LockD.name) hr hl rfl
      have h2 := findK_of (key := LockD.name) hr hy (by simpa using h)
      rw [h1] at h2
      injection h2
    · rfl
  rw [List.map_congr_left this, List.map_id']
theorem leave_not {c : Int} {l : LockD} (h : c ∉ l.queue) : leaveL c l = l := by
  unfold leaveL
  rw [List.filter_eq_self.2 fun y hy => by
    have : y ≠ c := fun e => h (e ▸ hy)
    simpa using this]

end Go.Proofs.YtioinjcdkmiafaaDoor
namespace Go.Proofs.YtioinjcdkmiafaaDoor
set_option linter.unusedVariables false
set_option linter.unusedSimpArgs false
open Go.RowKit

section
variable {P : Program} {w : World} {t e : TypeId} {bytes : Nat} {z : Value}
/-- 'append(q, y)' as a step of a region that draws its order. -/
theorem step_appAt (E : ET P t e 1 bytes z) {ops : Array Oper} {o : Oper} {a : Act} {K : Act → World → Prop} {Q : Exit → Act → World → Prop} {Els : Prop} (hgd : o.guard = none) (s x : Operand)
    (ho : o.op = .call { callee := .builtin .append, args := #[s, x], argTypes := #[t, t] })
    (base : Nat) (v : Value) (n : Nat) (xs : List Value) (hs : a.eval s = v) (hown : OwnAt w base e v n xs) (Z : Nat → Prop) (ad : Addr) (c : Nat) (y : Value) (hx : a.eval x = .slice (some ad) 1 c) (hr : Rd w Z 1 (some ad) 1 [y])
    (h1 : y.oneCell' = true) (hb : (n + 1) * bytes ≤ 140737488355328) (hbase : base ≤ w.heap.size)
    (h : ∀ v' w', OwnAt w' base e v' (n + 1) (xs ++ [y]) → Keep (fun k => v.ownBlock ≠ some k) w w' → Next w.heap.size v v' → K (a.put o.dst v') w') :
    if Region.wanted o (yielded ops a.tmps) = true then Oper.wp P o a w K Q else Els := by
  have hw : Region.wanted o (yielded ops a.tmps) = true := by simp [Region.wanted, hgd]
  rw [if_pos hw]
  obtain ⟨v', w', hrun, h2, h3, h4⟩ := run_app_at E o.type (c := c) hown hr h1 hb hbase
  unfold Oper.wp execOp
  simp only [ho, resolve, invoke, builtin, Sem.run_bind, Sem.run_pure, Result.andThen_ok, List.map_toArray, List.map_cons, List.map_nil, hs, hx, hrun]
  exact h v' w' h2 h3 h4
/- 'm[k] = v' as such a step (not used: the tactic takes laws at calls alone). -/
theorem step_mstore {k : TypeId} {b : Nat} {ps : List Kv} {ops : Array Oper} {o : Oper} {a : Act} {K : Act → World → Prop} {Q : Exit → Act → World → Prop} {Els : Prop} (hgd : o.guard = none) (m x v : Operand) (hop : o.op = Op.mapUpdate t m x v)
    (hk : P.underlying k = some .string) (ht : P.underlying t = some (.map k e)) (hm : a.eval m = .map (some b)) (h : MapIs P k w b ps) (hn : ps.length < maxLen) {l : List UInt8} (hl : l.length ≤ maxLen) (hx : a.eval x = .string ⟨l.toArray⟩) (u : Value) (hv : a.eval v = u)
    (hK : ∀ w', MapIs P k w' b (mput l u ps) → Keep (fun i => i ≠ b) w w' → K (a.put o.dst undef) w') : if Region.wanted o (yielded ops a.tmps) = true then Oper.wp P o a w K Q else Els := by
  have hw : Region.wanted o (yielded ops a.tmps) = true := by simp [Region.wanted, hgd]
  rw [if_pos hw]
  obtain ⟨w', hrun, r1, r2⟩ := h.store hk ht hn hl u
  unfold Oper.wp
  simp [execOp, hop, hm, hx, hv, hrun, Result.andThen]
  exact hK w' r1 r2
end
theorem size_setCell_drewN (w : World) (q : Nat) (p : Addr) (u : Value) : ((w.drewN q).setCell p u).heap.size = w.heap.size := by simp [World.setCell, World.drewN]
theorem int_infoL : (Tryd.prog.info? 3).map (fun i => (i.zero, i.size, i.bytes)) = some (some (.int .i64 0), 1, 8) := by kernel_rfl
theorem etIntL : ET Tryd.prog 39 3 1 8 (.int .i64 0) := ⟨Tryd.underlying39, int_infoL, rfl, by decide, by decide⟩

end Go.Proofs.YtioinjcdkmiafaaDoor
namespace Go.Proofs.YtioinjcdkmiafaaDoor
set_option linter.unusedVariables false
set_option linter.unusedSimpArgs false
open Go.RowKit

theorem numb_bound (l : Txt) : -1000000000000000000 < (numb l).1 ∧ (numb l).1 < 1000000000000000000 := by
  unfold numb
  split
  · simp
  · cases h : Lib.atoi l with
    | none => simp
    | some n => exact Lib.atoi_bound h (by omega)
theorem itoa_any (n : Int) (h0 : -2000000000000000000 ≤ n) (h1 : n ≤ 2000000000000000000) (w : World) (hT : Tabs w) : Calls Tryd.prog 54 #[.int .i64 n] w fun e w' => e = .returned (str (Lib.itoa n)) ∧ Fresh w w' := by
  refine (Tryd.strconv_Itoa n (by omega) (by omega) w hT.pow).mono ?_
  rintro e w' ⟨rfl, k, os, rfl⟩
  exact ⟨rfl, Fresh.growN _ _ _⟩

end Go.Proofs.YtioinjcdkmiafaaDoor
namespace Go.Proofs.YtioinjcdkmiafaaDoor
set_option linter.unusedVariables false
set_option linter.unusedSimpArgs false
open Go.RowKit

theorem vcmd_of {c i r o : Int} {k v d : Txt} (h : validB c i r o k v d = true) : VCmd numb c i r o k v d := by
  obtain ⟨⟨hc0, hc1⟩, ⟨hi0, hi1⟩, ⟨hr0, hr1⟩, ⟨ho1, ho9⟩, hf⟩ := valid_ok h
  obtain ⟨l1, l2, l3⟩ := fits_len hf
  have hK : o ≤ 8 → 1 ≤ k.length := by
    intro ho
    have hs : hasB (shapeTab.getD o.toNat 0) 1 = true := by
      obtain ⟨n, rfl⟩ : ∃ n : Nat, o = (n : Int) := ⟨o.toNat, by omega⟩
      have hn : n = 1 ∨ n = 2 ∨ n = 3 ∨ n = 4 ∨ n = 5 ∨ n = 6 ∨ n = 7 ∨ n = 8 := by omega
      rcases hn with rfl | rfl | rfl | rfl | rfl | rfl | rfl | rfl <;> decide
    unfold fitsB at hf
    split at hf
    · cases hf
    · rename_i h1
      have : keyB k = true := by
        rcases hk : keyB k with _ | _
        · exact absurd (.inl (by rw [hs, hk]; simp)) h1
        · rfl
      simp [keyB] at this
      omega
  have hE : o = 9 → 0 ≤ (numb v).1 ∧ (numb v).1 < 16 := by
    rintro rfl
    have e : shapeTab.getD (9 : Int).toNat 0 = 32 := by decide
    have b2 : hasB 32 2 = false := by decide
    have b8 : hasB 32 8 = false := by decide
    have b16 : hasB 32 16 = false := by decide
    have b32 : hasB 32 32 = true := by decide
    rw [e] at hf
    unfold fitsB at hf
    rw [b2, b8, b16, b32] at hf
    split at hf
    · cases hf
    · split at hf
      · cases hf
      · simp at hf
        exact hf.2
  exact ⟨hc0, hc1, hi0, hi1, hr0, hr1, ho1, by omega, fun ho => ⟨hK ho, l1⟩, l2, hE⟩

theorem op_nine {o : Int} (h1 : 1 ≤ o) (h9 : o ≤ 9) : o = 1 ∨ o = 2 ∨ o = 3 ∨ o = 4 ∨ o = 5 ∨ o = 6 ∨ o = 7 ∨ o = 8 ∨ o = 9 := by omega
end Go.Proofs.YtioinjcdkmiafaaDoor
namespace Go.Proofs.YtioinjcdkmiafaaDoor
set_option linter.unusedVariables false
set_option linter.unusedSimpArgs false
open Go.RowKit

/-- A command, whatever it is. -/
def applyD (c i r o : Int) (k v d : Txt) (s : StD) : ResD × StD := if validB c i r o k v d = true then applyV numb Lib.itoa c i r o k v d s else (⟨10, [], 0⟩, s)
theorem MSt.sess {S : Nat → Prop} {w : World} {m bp bl : Nat} {s : StD} (h : MSt S w m bp bl s) {q : Nat} (hq : q < 16) (i r : Int) (R : ResD) :
    MSt S (((((w.setCell ⟨m, 3 + q * 5, none⟩ (.int .i64 i)).setCell ⟨m, 3 + q * 5 + 1, none⟩ (.int .i64 r)).setCell ⟨m, 3 + q * 5 + 2, none⟩ (.int .i64 R.code)).setCell ⟨m, 3 + q * 5 + 3, none⟩ (str R.val)).setCell ⟨m, 3 + q * 5 + 4, none⟩ (.int .i64 R.n)) m bp bl { s with ss := s.ss.set q ⟨i, r, R⟩ } := by
  have hqs : q < s.ss.length := by rw [h.len]; exact hq
  have b5 := ((((h.blk.set (3 + q * 5) (.int .i64 i)).set (3 + q * 5 + 1) (.int .i64 r)).set (3 + q * 5 + 2) (.int .i64 R.code)).set (3 + q * 5 + 3) (str R.val)).set (3 + q * 5 + 4) (.int .i64 R.n)
  rw [mcells_store hqs i r R] at b5
  have hk : Keep (fun j => j ≠ m) w (((((w.setCell ⟨m, 3 + q * 5, none⟩ (.int .i64 i)).setCell ⟨m, 3 + q * 5 + 1, none⟩ (.int .i64 r)).setCell ⟨m, 3 + q * 5 + 2, none⟩ (.int .i64 R.code)).setCell ⟨m, 3 + q * 5 + 3, none⟩ (str R.val)).setCell ⟨m, 3 + q * 5 + 4, none⟩ (.int .i64 R.n)) :=
    (((((Keep.refl _ w).setCell (fun _ h => h rfl) _).setCell (fun _ h => h rfl) _).setCell (fun _ h => h rfl) _).setCell (fun _ h => h rfl) _).setCell (fun _ h => h rfl) _
  obtain ⟨ms, hl⟩ := h.lk
  exact ⟨b5, by simp [h.len], h.pm.keep hk (fun e => h.mp e.symm), ⟨ms, hl.keep hk fun j hj e => h.nm (by rw [← e]; exact hj)⟩, h.nm, h.nb⟩

end Go.Proofs.YtioinjcdkmiafaaDoor
namespace Go.Proofs.YtioinjcdkmiafaaDoor
set_option linter.unusedVariables false
set_option linter.unusedSimpArgs false
open Go.RowKit

theorem Nib.keep {Z : Nat → Prop} {w w' : World} (h : Nib w) (hk : Keep Z w w') (hz : Z 0) : Nib w' := var_keep gNib h hk hz
/-- The tables that the machine looks into are there, in every world that grew out of W. -/
structure TabsN (W : World) : Prop where
  t : Tabs W
  n : Nib W
theorem TabsN.fresh {W w : World} (h : TabsN W) (hk : Fresh W w) : TabsN w := ⟨h.t.fresh hk, h.n.keep hk trivial⟩
/-- A machine m, with its blocks F, all made behind B; it stands at s. -/
structure MAt (B : Nat) (w : World) (F : Nat → Prop) (m : Nat) (s : StD) : Prop where
  ex : ∃ bp bl, MSt (fun j => F j ∧ j ≠ m ∧ j ≠ bp) w m bp bl s ∧ F bp
  fm : F m
  lo : ∀ j, F j → B ≤ j
  hi : ∀ j, F j → j < w.heap.size
  inv : Inv s
section
variable {B : Nat} {w w' : World} {F : Nat → Prop} {m : Nat} {s : StD}
theorem MAt.keep {Z : Nat → Prop} (h : MAt B w F m s) (hk : Keep Z w w') (hz : ∀ j, F j → Z j) : MAt B w' F m s := by
  obtain ⟨bp, bl, hm, hb⟩ := h.ex
  exact ⟨⟨bp, bl, hm.keep hk (hz m h.fm) (hz bp hb) (fun j hj => hz j hj.1), hb⟩, h.fm, h.lo, fun j hj => Nat.lt_of_lt_of_le (h.hi j hj) hk.size, h.inv⟩
theorem MAt.fresh (h : MAt B w F m s) (hk : Fresh w w') : MAt B w' F m s := h.keep hk (fun _ _ => trivial)
theorem MAt.lt (h : MAt B w F m s) : m < w.heap.size := h.hi m h.fm
theorem MAt.lower {B' : Nat} (h : MAt B w F m s) (hb : B' ≤ B) : MAt B' w F m s := ⟨h.ex, h.fm, fun j hj => Nat.le_trans hb (h.lo j hj), h.hi, h.inv⟩
/-- Two machines that share nothing. -/
theorem MAt.of {bp bl : Nat} {S : Nat → Prop} (hm : MSt S w m bp bl s) (hi : Inv s) (h1 : B ≤ m) (h2 : B ≤ bp) (h3 : ∀ j, S j → j < w.heap.size → B ≤ j) : MAt B w (fun j => j = m ∨ j = bp ∨ (S j ∧ j < w.heap.size)) m s :=
  ⟨⟨bp, bl, hm.tight.widen (fun j hj => ⟨.inr (.inr hj), fun e => hm.nm (e ▸ hj.1), fun e => hm.nb (e ▸ hj.1)⟩) (fun h => h.2.1 rfl) (fun h => h.2.2 rfl), .inr (.inl rfl)⟩, .inl rfl,
    fun j hj => hj.elim (fun e => e ▸ h1) fun hj => hj.elim (fun e => e ▸ h2) fun hj => h3 j hj.1 hj.2,
    fun j hj => hj.elim (fun e => e ▸ hm.blk.lt) fun hj => hj.elim (fun e => e ▸ hm.pm.lt) fun hj => hj.2, hi⟩
end
theorem applyD_inv {c i r o : Int} {k v d : Txt} {s : StD} (h : Inv s) : Inv (applyD c i r o k v d s).2 := by
  unfold applyD
  split
  · rename_i hv
    exact (apply_ok h (vcmd_of hv)).2
  · exact h

/-! ### the contracts -/
section
variable {B : Nat} {w : World} {F : Nat → Prop} {m : Nat} {s : StD}
theorem mat_new (w : World) : Calls Tryd.prog 34 #[] w fun e w' => (∃ (m : Nat) (F : Nat → Prop), e = .returned (.pointer (some ⟨m, 0, none⟩)) ∧ MAt w.heap.size w' F m newD) ∧ Fresh w w' := by
  refine (newm_any w).mono ?_
  rintro e w' ⟨⟨m, bp, bl, rfl, hm, h1, h2, h3⟩, hf⟩
  exact ⟨⟨m, _, rfl, MAt.of hm inv_new h1 h2 (fun j hj _ => by rw [hj]; exact h3)⟩, hf⟩
end
end Go.Proofs.YtioinjcdkmiafaaDoor
namespace Go.Proofs.YtioinjcdkmiafaaDoor
set_option linter.unusedVariables false
set_option linter.unusedSimpArgs false
open Go.RowKit

theorem Rd.front {w : World} {Z : Nat → Prop} {A : Option Addr} {n : Nat} {xs : List Value} (h : Rd w Z 1 A n xs) (m : Nat) (hm : m ≤ n) : Rd w Z 1 A m (xs.take m) := by
  refine ⟨by have := h.1; simp; omega, fun hp => ?_⟩
  obtain ⟨b, o, e, hb, hc⟩ := h.2 (by omega)
  refine ⟨b, o, e, hb, fun j u hu => hc j u ?_⟩
  have hj : j < m := by
    rcases Nat.lt_or_ge j m with h1 | h1
    · exact h1
    · rw [List.getElem?_eq_none (by rw [List.length_take]; omega)] at hu
      cases hu
  rw [List.getElem?_take_of_lt hj] at hu
  exact hu
theorem four_of {α : Type} {l : List α} (h : l.length = 4) : ∃ a b c d, l = [a, b, c, d] := by
  match l, h with
  | [a, b, c, d], _ => exact ⟨a, b, c, d, rfl⟩
/-- The first k of the last four bytes are the sum's. -/
def sealTo (sm : Nat) (ts : Txt) (k : Nat) : Prop := ∀ j, j < k → ∃ h : j < ts.length, (ts[j]).toNat = sm / 256 ^ j % 256
theorem seal_all {sm : Nat} {bs ts : Txt} (hs : sm = crcB bs) (h4 : ts.length = 4) : sealTo sm ts 4 ↔ ts = sumB bs := by
  obtain ⟨a, b, c, d, rfl⟩ := four_of h4
  have hlt := crcB_lt bs
  rw [← hs] at hlt
  have ha := a.toNat_lt
  have hb := b.toNat_lt
  have hc := c.toNat_lt
  have hd := d.toNat_lt
  constructor
  · intro h
    obtain ⟨_, h0⟩ := h 0 (by omega)
    obtain ⟨_, h1⟩ := h 1 (by omega)
    obtain ⟨_, h2⟩ := h 2 (by omega)
    obtain ⟨_, h3⟩ := h 3 (by omega)
    simp at h0 h1 h2 h3
    rw [sumB_iff, ← hs]
    omega
  · intro h
    rw [sumB_iff, ← hs] at h
    intro j hj
    refine ⟨by simp; omega, ?_⟩
    have : j = 0 ∨ j = 1 ∨ j = 2 ∨ j = 3 := by omega
    rcases this with rfl | rfl | rfl | rfl <;> simp <;> omega

def SealPost (bs : Txt) (e : Ending) : Prop := ∃ r : Bool, e = .returned (.bool r) ∧ (r = true ↔ sealedB bs)
set_option maxRecDepth 20000 in
theorem sealed_any (Z : Nat → Prop) (A : Option Addr) (n c : Nat) (bs : Txt) (w : World) (hb : Rd w Z 1 A n (Lib.byteCells bs)) (hn : n ≤ 1099511627770) (hnc : n ≤ c) (hT : Nib w) :
    Calls Tryd.prog 33 #[.slice A n c] w fun e w' => SealPost bs e ∧ w = w' := by
  have hlen : bs.length = n := by simpa [Lib.byteCells] using hb.1
  have HB := Lib.hid (And.intro hb hlen)
  have HT := Lib.hid hT
  by_cases h11 : n < 11
  · clear hb hlen hT
    go_enter Tryd.func33, Tryd.ntmps33
    go_wp2
    go_ret
    exact ⟨⟨false, rfl, by unfold sealedB; rw [HB.out.2]; simp; intro h; omega⟩, rfl⟩
  · obtain ⟨b, o, rfl, -, hcl⟩ := hb.2 (by omega)
    have hcell : ∀ j, (hj : j < bs.length) → w.cell? ⟨b, o + j, none⟩ = some (.int .u8 ((bs[j]).toNat : Int)) := fun j hj => hcl j _ (by simp [Lib.byteCells, hj])
    obtain ⟨x0, hx0⟩ : ∃ x : Nat, x = (bs[0]'(by omega)).toNat := ⟨_, rfl⟩
    obtain ⟨x1, hx1⟩ : ∃ x : Nat, x = (bs[1]'(by omega)).toNat := ⟨_, rfl⟩
    obtain ⟨x2, hx2⟩ : ∃ x : Nat, x = (bs[2]'(by omega)).toNat := ⟨_, rfl⟩
    have c0 := hcell 0 (by omega)
    have c1 := hcell 1 (by omega)
    have c2 := hcell 2 (by omega)
    rw [← hx0, Nat.add_zero] at c0
    rw [← hx1] at c1
    rw [← hx2] at c2
    have h3 : sealedB bs → x0 = 81 ∧ x1 = 83 ∧ x2 = 1 := fun h => by
      have e := h.2.1
      have e0 := congrArg (fun l => l[0]?) e
      have e1 := congrArg (fun l => l[1]?) e
      have e2 := congrArg (fun l => l[2]?) e
      simp [headB, show 0 < bs.length by omega, show 1 < bs.length by omega, show 2 < bs.length by omega] at e0 e1 e2
      rw [hx0, hx1, hx2, e0, e1, e2]
      exact ⟨rfl, rfl, rfl⟩
    have h3' : x0 = 81 → x1 = 83 → x2 = 1 → bs.take 3 = headB := fun a0 a1 a2 => by
      have f0 : bs[0]'(by omega) = 81 := UInt8.toNat_inj.1 (by rw [← hx0, a0]; rfl)
      have f1 : bs[1]'(by omega) = 83 := UInt8.toNat_inj.1 (by rw [← hx1, a1]; rfl)
      have f2 : bs[2]'(by omega) = 1 := UInt8.toNat_inj.1 (by rw [← hx2, a2]; rfl)
      refine List.ext_getElem? fun j => ?_
      by_cases hj : j < 3
      · have : j = 0 ∨ j = 1 ∨ j = 2 := by omega
        rcases this with rfl | rfl | rfl
        · rw [List.getElem?_take_of_lt (by omega), List.getElem?_eq_getElem (by omega), f0]; rfl
        · rw [List.getElem?_take_of_lt (by omega), List.getElem?_eq_getElem (by omega), f1]; rfl
        · rw [List.getElem?_take_of_lt (by omega), List.getElem?_eq_getElem (by omega), f2]; rfl
      · rw [List.getElem?_eq_none (by simp; omega), List.getElem?_eq_none (by simp [headB]; omega)]
    have H3 := Lib.hid (And.intro h3 (And.intro h3' hcell))
    clear hb hlen hT hcl hx0 hx1 hx2 h3 h3' hcell
    by_cases g0 : x0 = 81
    · subst g0
      by_cases g1 : x1 = 83
      · subst g1
        by_cases g2 : x2 = 1
        · subst g2
          go_enter Tryd.func33, Tryd.ntmps33
          have HS := Lib.hid (sum_any Z (some ⟨b, o, none⟩) (n - 4) c (bs.take (n - 4)) w (by have h1 := HB.out.1.front (n - 4) (by omega); simpa [Lib.byteCells, List.map_take] using h1) (by omega) HT.out)
          obtain ⟨sm, hsm⟩ : ∃ sm, sm = crcB (bs.take (n - 4)) := ⟨_, rfl⟩
          have hs32 : sm < 4294967296 := hsm ▸ crcB_lt _
          rw [← hsm] at HS
          have HM := Lib.hid hsm
          clear hsm
          go_wp2_with fail
          refine Calls.mono HS.out ?_
          rintro e _ ⟨rfl, rfl⟩
          clear HS
          go_wp2_with fail
          obtain ⟨ts, hts⟩ : ∃ ts, ts = bs.drop (n - 4) := ⟨_, rfl⟩
          have h4 : ts.length = 4 := by rw [hts, List.length_drop, HB.out.2]; omega
          have HD : Hid (sealTo sm ts 4 ↔ sealedB bs) := Lib.hid (by
            rw [seal_all HM.out h4, hts]
            unfold sealedB
            rw [HB.out.2]
            exact ⟨fun h => ⟨by omega, H3.out.2.1 (by simp) (by simp) (by simp), h⟩, fun h => h.2.2⟩)
          have hcT : ∀ j, (hj : j < 4) → w.cell? ⟨b, o + (n - 4) + j, none⟩ = some (.int .u8 ((ts[j]'(by omega)).toNat : Int)) := fun j hj => by
            have h1 := H3.out.2.2 (n - 4 + j) (by have := HB.out.2; omega)
            rw [← Nat.add_assoc] at h1
            rw [h1]
            congr 4
            simp [hts]
          have hi0 : 0 ≤ (sm : Int) := by omega
          have hi1 : (sm : Int) < 4294967296 := by omega
          have hn4 : n - (n - 4) = 4 := by omega
          obtain ⟨o2, ho2⟩ : ∃ o2, o2 = o + (n - 4) := ⟨_, rfl⟩
          obtain ⟨c2', hc2⟩ : ∃ c2, c2 = c - (n - 4) := ⟨_, rfl⟩
          rw [← ho2] at hcT
          rw [hn4, ← ho2, ← hc2]
          have HC := Lib.hid hcT
          clear hcT hts H3 c0 c1 c2 HM hn4 ho2 hc2
          go_loop [39] (fun i => ∃ k : Nat, k ≤ 4 ∧ i = .int .i64 (k : Int) ∧ Hid (sealTo sm ts k)) (fun i => 4 - (intOf i).toNat)
          case atStart => exact ⟨0, by omega, rfl, fun j hj => absurd hj (by omega)⟩
          case round =>
            obtain ⟨k, hk, rfl, HK⟩ := hrel
            by_cases hlt : k < 4
            · have ck := HC.out k hlt
              obtain ⟨x, hx⟩ : ∃ x : Nat, x = (ts[k]'(by omega)).toNat := ⟨_, rfl⟩
              rw [← hx] at ck
              have hx256 : x < 256 := hx ▸ (ts[k]'(by omega)).toNat_lt
              have HX := Lib.hid hx
              have hstep : x = sm / 256 ^ k % 256 → sealTo sm ts (k + 1) := fun e j hj => by
                rcases Nat.lt_or_ge j k with h1 | h1
                · exact HK.out j h1
                · obtain rfl : j = k := by omega
                  exact ⟨by omega, by rw [← HX.out]; exact e⟩
              have hstop : x ≠ sm / 256 ^ k % 256 → ¬ sealTo sm ts 4 := fun e h => by
                obtain ⟨_, h1⟩ := h k hlt
                exact e (by rw [HX.out]; exact h1)
              have HS := Lib.hid (And.intro hstep hstop)
              clear hx hstep hstop
              have hki : (k : Int) < 4 := by omega
              go_upto_region 7 with (fail)
              have hy : Hid (∀ y : Int, y = (sm : Int) / 256 ^ k % 256 → ((x : Int) != y) = true → ¬ sealTo sm ts 4) := Lib.hid fun y hy h => HS.out.2 fun e => by
                rw [hy, e] at h
                simp at h
              have hz : Hid (∀ y : Int, y = (sm : Int) / 256 ^ k % 256 → ((x : Int) != y) = false → sealTo sm ts (k + 1)) := Lib.hid fun y hy h => HS.out.1 (by
                simp at h
                rw [hy] at h
                have : ((sm / 256 ^ k % 256 : Nat) : Int) = (sm : Int) / 256 ^ k % 256 := by simp
                omega)
              clear ck HS hx256
              have hk8 : 0 ≤ 8 * (k : Int) := by omega
              have hk9 : 8 * (k : Int) ≤ 64 := by omega
              obtain ⟨kk, hkk⟩ : ∃ kk : Int, kk = 8 * (k : Int) := ⟨_, rfl⟩
              have hkw : IntKind.i64.wrap (8 * (k : Int)) = kk := by rw [hkk]; exact IntWalk.i64_in _ ⟨by omega, by omega⟩
              rw [← hkk] at hk8 hk9
              have HKK := Lib.hid hkk
              clear hkk hk8 hk9 hkw hi0 hi1 hs32 hki
              have h2k : (2 : Int) ^ (8 * k) = 256 ^ k := by
                have : k = 0 ∨ k = 1 ∨ k = 2 ∨ k = 3 := by omega
                rcases this with rfl | rfl | rfl | rfl <;> rfl
              have H2k := Lib.hid h2k
              clear h2k
              go_wp2
              · go_ret
                rename_i hbad _
                exact ⟨⟨false, rfl, by simp; intro h; exact hy.out _ (by rw [H2k.out]) hbad (HD.out.2 h)⟩, rfl⟩
              · rename_i hgood
                exact ⟨⟨k + 1, by omega, by simp, Lib.hid (hz.out _ (by rw [H2k.out]) hgood)⟩, by simp only [intOf]; omega⟩
            · obtain rfl : k = 4 := by omega
              clear hi0 hi1 hs32
              go_wp2
              go_ret
              exact ⟨⟨true, rfl, by simp; exact HD.out.1 HK.out⟩, rfl⟩
        · have g2' : ((x2 : Int) != 1) = true := by simp; omega
          go_enter Tryd.func33, Tryd.ntmps33
          go_wp2
          go_ret
          exact ⟨⟨false, rfl, by simp; intro h; exact g2 (H3.out.1 h).2.2⟩, rfl⟩
      · have g1' : ((x1 : Int) != 83) = true := by simp; omega
        go_enter Tryd.func33, Tryd.ntmps33
        go_wp2
        go_ret
        exact ⟨⟨false, rfl, by simp; intro h; exact g1 (H3.out.1 h).2.1⟩, rfl⟩
    · have g0' : ((x0 : Int) != 81) = true := by simp; omega
      go_enter Tryd.func33, Tryd.ntmps33
      go_wp2
      go_ret
      exact ⟨⟨false, rfl, by simp; intro h; exact g0 (H3.out.1 h).1⟩, rfl⟩
end Go.Proofs.YtioinjcdkmiafaaDoor
