/-
  'm[k] op= v' IN audit.Group's MAPS: the order, the counts, who is up.
-/
import Derived.Test.YtfpcmleeehciaaaGrpV
import Derived.Test.YtfpcmleeehciaaaKent
namespace Go.Proofs.Ytfpcmleeehciaaa
set_option linter.unusedVariables false
set_option linter.unusedSimpArgs false
open Go.RowKit Go.Shelf

/-- Up and last: the entry of a key, and what its writing leaves. -/
theorem IntMap.entry {w : World} {b k : Nat} {f : Int → Int} (h : IntMap w b k f) (hk : k ≤ 4194304) {z : Int} (hz : I64 z) :
    ∃ (v0 st : Value) (w1 : World), (Instr.mapEntry 67 (.map (some b)) (.int .i64 z)).run Try.prog w = .ok (.tuple #[v0, st]) w1 ∧ Keep (fun i => i ≠ b) w w1 ∧
      ∀ w2 v, w2.heap[b]? = w1.heap[b]? → ∃ w3, (Instr.entryStore 67 (.map (some b)) st (.int .i64 v)).run Try.prog w2 = .ok () w3 ∧ IntMap w3 b (k + 1) (upd f z v) ∧ Keep (fun i => i ≠ b) w2 w3 := by
  obtain ⟨ps, h1, h2, h3⟩ := h
  obtain ⟨st, w1, hrun, hE⟩ := h1.entry kint0 Try.underlying67 (small_max (Nat.le_trans h2 hk)) (fun u => Try.zeroValue3 u) (ikey hz)
  refine ⟨_, st, w1, hrun, hE.keep, fun w2 v hw => ?_⟩
  obtain ⟨w3, r1, r2, r3⟩ := hE.put w2 (.int .i64 v) hw
  refine ⟨w3, r1, ⟨_, r2, Nat.le_trans (kput_len _ _ ps) (Nat.succ_le_succ h2), fun y hy => ?_⟩, r3⟩
  rw [kfind_put]
  by_cases e : y = z
  · subst e; simp [Lit.sameKey]
  · have : Lit.sameKey (.int .i64 z) (.int .i64 y) = false := by simp [Lit.sameKey]; exact fun h => e h.symm
    rw [this, upd_ne _ _ e]
    simpa using h3 y hy
theorem Cnts.entry {w : World} {b k : Nat} {f : V4 × Who → Nat} (h : Cnts w b k f) (hk : k ≤ 4194304) {x : V4 × Who} (hv : InV x.1) (hw : InW x.2) :
    ∃ (st : Value) (w1 : World), (Instr.mapEntry 73 (.map (some b)) (spotA x)).run Try.prog w = .ok (.tuple #[.int .i64 (f x : Int), st]) w1 ∧ Keep (fun i => i ≠ b) w w1 ∧
      (∀ w', Fresh w1 w' → (Instr.lookup 73 (.map (some b)) (spotA x) false).run Try.prog w' = .ok (.int .i64 (f x : Int)) w') ∧
      ∀ w2 (n : Nat), w2.heap[b]? = w1.heap[b]? → ∃ w3, (Instr.entryStore 73 (.map (some b)) st (.int .i64 (n : Int))).run Try.prog w2 = .ok () w3 ∧ Cnts w3 b (k + 1) (upd f x n) ∧ Keep (fun i => i ≠ b) w2 w3 := by
  obtain ⟨ps, h1, h2, h3⟩ := h
  obtain ⟨st, w1, hrun, hE⟩ := h1.entry kspot Try.underlying73 (small_max (Nat.le_trans h2 hk)) (fun u => Try.zeroValue3 u) (keyL_of (key_spot hv hw))
  have e0 := h3 x hv hw
  refine ⟨st, w1, by rw [hrun]; exact congrArg (fun v => Result.ok (Value.tuple #[v, st]) w1) e0, hE.keep, fun w' hf => ?_, fun w2 n hw2 => ?_⟩
  · obtain ⟨ps1, m1, m2, m3⟩ := hE.map
    have := (m1.keep hf trivial).look kspot Try.underlying73 (Try.zeroValue3 w') (keyL_of (key_spot hv hw))
    rw [m2] at this
    rw [this]
    exact congrArg (fun v => Result.ok v w') e0
  · obtain ⟨w3, r1, r2, r3⟩ := hE.put w2 (.int .i64 (n : Int)) hw2
    refine ⟨w3, r1, ⟨_, r2, Nat.le_trans (kput_len _ _ ps) (Nat.succ_le_succ h2), fun y hy hy2 => ?_⟩, r3⟩
    rw [kfind_upd kspot spotA_inj (key_spot hv hw) (key_spot hy hy2)]
    by_cases e : y = x
    · subst e; rw [if_pos rfl, upd_self]; rfl
    · rw [if_neg e, upd_ne _ _ e]; exact h3 y hy hy2
/-- The order of a view: read, looked for, grown. -/
theorem GM.ord {w : World} {B : Nat} {T : Nat → Tag} {F : Fix} {K : Nat} {s : GrpD} (hG : GM w B T F K s) (hK : K ≤ 4000002) {i : V4} (hi : InV i) {lo : List TolD} (hlo : lo = s.order i) :
    ∃ (Ao : Option Addr) (co : Nat), RowM w T B 115 4 (.ordR i) (.slice Ao lo.length co) lo.length (rcells TolD.cells lo) ∧
      (∀ w', Fresh w w' → (Instr.lookup 72 (.map (some F.o)) (viewA i) false).run Try.prog w' = .ok (.slice Ao lo.length co) w') ∧
      ∀ wX, Fresh w wX → ∃ (st : Value) (wE : World), (Instr.mapEntry 72 (.map (some F.o)) (viewA i)).run Try.prog wX = .ok (.tuple #[.slice Ao lo.length co, st]) wE ∧ Keep (fun j => j ≠ F.o) wX wE ∧
        ∀ (wE' wA : World) (v' : Value) (y : TolD), Fresh wE wE' → wA.ownsRow B 115 4 v' (lo.length + 1) (rcells TolD.cells lo ++ y.cells) → Keep (fun j => (Value.slice Ao lo.length co).ownBlock ≠ some j) wE' wA → Next wE'.heap.size (.slice Ao lo.length co) v' →
          Keep (fun j => (Value.slice Ao lo.length co).ownBlock ≠ some j ∧ j ≠ F.o) w wA ∧ ∃ wS, (Instr.entryStore 72 (.map (some F.o)) st v').run Try.prog wA = .ok () wS ∧ Keep (fun j => (Value.slice Ao lo.length co).ownBlock ≠ some j ∧ j ≠ F.o) w wS ∧ Keep (fun j => j ≠ F.o) wA wS ∧
            ∃ T2, More T T2 ∧ GM wS B T2 F (K + 1) { s with order := upd s.order i (lo ++ [y]) } := by
  obtain ⟨ps, h1, h2, h3⟩ := hG.order
  have hr := h3 i hi
  rw [← hlo] at hr
  obtain ⟨Ao, co, hv, -, -⟩ := own_rd hr.1
  rw [hv] at hr
  refine ⟨Ao, co, hr, fun w' hf => ?_, fun wX hf => ?_⟩
  · have := (h1.keep hf trivial).look kview Try.underlying72 (Try.zeroValue116 w') (keyL_of (key_view hi))
    rw [hv] at this
    exact this
  · obtain ⟨st, wE, hrun, hE⟩ := (h1.keep hf trivial).entry kview Try.underlying72 (small_max (by omega)) (fun u => Try.zeroValue116 u) (keyL_of (key_view hi))
    refine ⟨st, wE, by rw [hrun]; exact congrArg (fun v => Result.ok (Value.tuple #[v, st]) wE) hv, hE.keep, fun wE' wA v' y hfE ho hka hn => ?_⟩
    have hob : (Value.slice Ao lo.length co).ownBlock ≠ some F.o := fun e => by have := hr.2 _ e; rw [hG.fix.o] at this; cases this
    have hA : wA.heap[F.o]? = wE.heap[F.o]? := by
      have l1 : F.o < wE.heap.size := by
        obtain ⟨ps1, m1, _, _⟩ := hE.map
        exact m1.lt
      rw [hka.block F.o (Nat.lt_of_lt_of_le l1 hfE.size) hob, hfE.block F.o l1 trivial]
    obtain ⟨wS, r1, r2, r3⟩ := hE.put wA v' hA
    have kE : Keep (fun j => (Value.slice Ao lo.length co).ownBlock ≠ some j ∧ j ≠ F.o) w wE' := ((hf.weaken fun _ _ _ => trivial).trans (hE.keep.weaken fun _ _ h => h.2)).trans (hfE.weaken fun _ _ _ => trivial)
    have kA : Keep (fun j => (Value.slice Ao lo.length co).ownBlock ≠ some j ∧ j ≠ F.o) w wA := kE.trans (hka.weaken fun _ _ h => h.1)
    have kS : Keep (fun j => (Value.slice Ao lo.length co).ownBlock ≠ some j ∧ j ≠ F.o) w wS := kA.trans (r3.weaken fun _ _ h => h.2)
    have hM : More T (rowT T v' (.ordR i)) := fun j hj => by
      unfold rowT
      split
      · rename_i e
        rcases hn with hn | ⟨g, hg, hl⟩
        · rw [hn] at e
          exact (hr.2 j e).symm
        · rw [hg] at e
          obtain rfl : g = j := Option.some.inj e
          have h1 := (hG.low g hj).2
          have h2 := kE.size
          exact absurd (Nat.lt_of_lt_of_le h1 (Nat.le_trans h2 hl)) (Nat.lt_irrefl _)
      · rfl
    have hTo := hM.at hG.fix.o (by simp)
    have hzr : ∀ j (y : V4), (rowT T v' (.ordR i)) j = .ordR y → j ≠ F.o := fun j y hj e => by subst e; rw [hTo] at hj; cases hj
    have hnew : RowM wA (rowT T v' (.ordR i)) B 115 4 (.ordR i) v' (lo ++ [y]).length (rcells TolD.cells (lo ++ [y])) := by
      have e1 : (lo ++ [y]).length = lo.length + 1 := by simp
      have e2 : rcells TolD.cells [y] = y.cells := by simp [rcells]
      rw [e1, rcells_append, e2]
      exact rowT_row ho
    have hO : Ords wS (rowT T v' (.ordR i)) B F.o (K + 1) (upd s.order i (lo ++ [y])) := by
      refine ⟨_, r2, Nat.le_trans (kput_len _ _ ps) (Nat.succ_le_succ h2), fun q hq => ?_⟩
      rw [kfind_upd kview viewA_inj (key_view hi) (key_view hq)]
      by_cases e : q = i
      · subst e
        rw [if_pos rfl, upd_self]
        exact hnew.keep (by simp) r3 (fun j hj => hzr j _ hj) (More.refl _)
      · rw [if_neg e, upd_ne _ _ e]
        exact ((h3 q hq).keep (by simp) kA (fun j hj => ⟨fun e2 => by have h5 := hr.2 j e2; rw [hj] at h5; injection h5 with h5; exact e h5, tag_ne hj hG.fix.o (by simp)⟩) hM).keep (by simp) r3 (fun j hj => hzr j _ hj) (More.refl _)
    refine ⟨kA, wS, r1, kS, r3, _, hM, hG.with_order kS (fun j hj hp => ⟨fun e => ?_, fun e => ?_⟩) hM (fun j hj => ?_) (Nat.le_succ K) hO⟩
    · rw [hr.2 j e] at hp; exact hp rfl
    · rw [e, hG.fix.o] at hp; exact hp rfl
    · unfold rowT at hj
      split at hj
      · rename_i e
        have := own_lt ho e
        exact ⟨this.1, Nat.lt_of_lt_of_le this.2 r3.size⟩
      · exact ⟨(hG.low j hj).1, Nat.lt_of_lt_of_le (hG.low j hj).2 kS.size⟩
end Go.Proofs.Ytfpcmleeehciaaa
