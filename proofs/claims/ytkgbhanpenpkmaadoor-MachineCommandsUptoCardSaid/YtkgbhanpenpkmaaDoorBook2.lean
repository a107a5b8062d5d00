/-
  WALKS OF quoratelaw01's Book: 'Keep', 'Write', 'Intact', 'Settle'.
-/
import Derived.Test.YtkgbhanpenpkmaaDoorBook
namespace Go.Proofs.YtkgbhanpenpkmaaDoor
set_option linter.unusedVariables false
set_option linter.unusedSimpArgs false
open Go.RowKit

theorem page_info : (Tryd.prog.info? 81).map (fun i => (i.zero, i.size, i.bytes)) = some (some (.agg #[.slice none 0 0, .slice none 0 0, .slice none 0 0, .int .i64 0, .bool false]), 5, 88) := by kernel_rfl
theorem etPage : ET Tryd.prog 40 81 5 88 (.agg #[.slice none 0 0, .slice none 0 0, .slice none 0 0, .int .i64 0, .bool false]) := ⟨Tryd.underlying40, page_info, rfl, by decide, by decide⟩

theorem page_one (A1 A2 A3 : Option Addr) (n1 c1 n2 c2 n3 c3 : Nat) (id : Int) (d : Bool) : ∀ u ∈ [Value.slice A1 n1 c1, .slice A2 n2 c2, .slice A3 n3 c3, .int .i64 id, .bool d], u.oneCell' = true := by
  intro u hu
  simp only [List.mem_cons, List.not_mem_nil, or_false] at hu
  rcases hu with rfl | rfl | rfl | rfl | rfl <;> rfl
theorem BookIs.at {w : World} {B K : Nat} {S : Nat → Prop} {V : Value} {nx : Int} {ps : List Pg} (h : BookIs w B K S V nx ps) {i : Nat} (hi : i < ps.length) : ∃ g c, V = .slice (some ⟨g, 0, none⟩) ps.length c ∧ g < w.heap.size ∧ PgAt w g (i * 5) ps[i] ∧ ps[i].b.ownBlock ≠ some g ∧ S g := by
  obtain ⟨g, c, hV, _, hg, _⟩ := own_nonnil h.row (by omega)
  have hVg : V.ownBlock = some g := by rw [hV]; rfl
  have hc : ∀ j, j < 5 → ∀ u, ps[i].cells[j]? = some u → w.cell? ⟨g, i * 5 + j, none⟩ = some u := fun j hj u hu => own_cell h.row hVg (by rw [rcells_get pg_five ps i hi j hj]; exact hu)
  refine ⟨g, c, hV, hg, ⟨hc 0 (by omega) _ rfl, hc 1 (by omega) _ rfl, hc 2 (by omega) _ rfl, hc 3 (by omega) _ rfl, hc 4 (by omega) _ rfl, fun j => own_frozen h.row j hVg⟩, fun e => ?_, h.inV g hVg⟩
  exact own_ne_own h.row (h.pages _ (List.getElem_mem hi)).own (by decide) hVg e

set_option maxRecDepth 20000 in
set_option maxHeartbeats 1000000 in
theorem intact_any (B K : Nat) (S : Nat → Prop) (w : World) (h : BookOk w B K S) :
    Calls Tryd.prog 20 #[.pointer (some ⟨K, 0, none⟩)] w fun e w' => e = .returned (.bool true) ∧ Fresh w w' := by
  obtain ⟨V, nx, ps, h, hst⟩ := h
  have HB := Lib.hid (And.intro h hst)
  obtain ⟨A, c, rfl⟩ := own_form0 h.row
  obtain ⟨n, hn⟩ : ∃ n, n = ps.length := ⟨_, rfl⟩
  rw [← hn] at HB h
  have hn96 := h.len
  rw [← hn] at hn96
  have x0 := h.blk.cell 0
  have x1 := h.blk.cell 1
  simp at x0 x1
  have X := Lib.hid (And.intro x0 (And.intro x1 hn))
  clear h hst x0 x1 hn
  go_enter Tryd.func20, Tryd.ntmps20
  go_wp2
  go_loopw [3] (fun i wr => ∃ k : Nat, k ≤ n ∧ i = .int .i64 (k : Int) ∧ Hid (Fresh w wr)) (fun i _ => n - (intOf i).toNat)
  case atStart => exact ⟨0, Nat.zero_le _, rfl, Keep.refl _ _⟩
  case round =>
    obtain ⟨k, hk, rfl, HW⟩ := hrel
    have y0 := HW.out.cellAt X.out.1 trivial
    by_cases hlt : k < n
    · have hk2 : k < ps.length := by rw [← X.out.2.2]; exact hlt
      have hbk := HB.out.1.keep HW.out (fun _ _ => trivial)
      obtain ⟨g, c2, hV, hg, hat, -, -⟩ := hbk.at hk2
      obtain ⟨p, hp⟩ : ∃ p, p = ps[k] := ⟨_, rfl⟩
      rw [← hp] at hat
      have HC := Lib.hid (shows_any p B wr (by rw [hp]; exact hbk.pages _ (List.getElem_mem hk2)) (by rw [hp]; exact HB.out.2 _ (List.getElem_mem hk2)))
      injection hV with hV1 hV2 hV3
      subst hV1 hV3
      obtain ⟨c0, c1, c2', c3, c4, -⟩ := hat
      clear hp hbk hk2 hV2
      go_wp2_with fail
      refine HC.out.mono ?_
      rintro e w1 ⟨rfl, hf⟩
      have HN := Lib.hid (HW.out.trans hf)
      clear hf HC c0 c1 c2' c3 c4 y0 HW hg
      go_wp2
      exact ⟨⟨k + 1, by omega, congrArg _ (by omega), HN.out⟩, by simp [intOf]; omega⟩
    · have y1 := HW.out.cellAt X.out.2.1 trivial
      go_wp2
      go_loopw [4] (fun i wr2 => i = .int .i64 0 ∧ wr2 = wr) (fun i _ => 0)
      case atStart => exact ⟨rfl, rfl⟩
      case round =>
        obtain ⟨rfl, rfl⟩ := hrel
        go_wp2
        go_ret
        exact ⟨rfl, HW.out⟩

/-- What the walk of 'Keep' leaves, put together. -/
theorem bkeep_close {B K n m c c1 c2 c3 : Nat} {S : Nat → Prop} {A A1 A2 A3 : Option Addr} {nx : Int} {ps : List Pg} {bs : List UInt8} {w W W1 w1 wX w3 : World} (h : BookIs w B K S (.slice A n c) nx ps) (hst : ∀ p ∈ ps, p.st ≠ 1) (hm : m = bs.length) (hn : n = ps.length)
    (hown : w.ownsRow B 5 1 (.slice A1 m c1) m (Lib.byteCells bs)) (hlen : m ≤ 1099511627000) (hnew : ∀ k, (Value.slice A1 m c1).ownBlock = some k → ¬ S k) (hB : B ≤ w.heap.size) (hn96 : n < 96)
    (hkW : Keep (fun k => k ≠ K) w W) (hs : W.heap.size = w.heap.size) (hk01 : Fresh W W1) (hblk : Blk W K 43 #[.slice A n c, .slice none 0 0, .int .i64 (nx + 1)])
    (ho1 : w1.ownsRow B 5 1 (.slice A2 m c2) m (Lib.byteCells bs)) (hk1 : Keep (fun k => (Value.slice (some ⟨W.heap.size, 0, none⟩) 0 0).ownBlock ≠ some k) W1 w1) (hn1 : Next W1.heap.size (.slice (some ⟨W.heap.size, 0, none⟩) 0 0) (.slice A2 m c2)) (hkX : Fresh w1 wX)
    (ho3 : w3.ownsRow B 81 5 (.slice A3 (n + 1) c3) (n + 1) (pcells ps ++ [Value.slice A1 m c1, .slice none 0 0, .slice A2 m c2, .int .i64 (nx + 1), .bool false])) (hk3 : Keep (fun k => (Value.slice A n c).ownBlock ≠ some k) wX w3) (hn3 : Next wX.heap.size (.slice A n c) (.slice A3 (n + 1) c3)) :
    BookOk (w3.setCell ⟨K, 0, none⟩ (.slice A3 (n + 1) c3)) B K (fun k => S k ∨ (Value.slice A1 m c1).ownBlock = some k ∨ (w.heap.size ≤ k ∧ k < (w3.setCell ⟨K, 0, none⟩ (.slice A3 (n + 1) c3)).heap.size)) ∧ Keep (fun k => ¬ S k) w (w3.setCell ⟨K, 0, none⟩ (.slice A3 (n + 1) c3)) := by
  have hfs : (w3.setCell ⟨K, 0, none⟩ (.slice A3 (n + 1) c3)).heap.size = w3.heap.size := by simp [World.setCell]
  have hW1 : Keep (fun k => k ≠ W.heap.size) W1 w1 := hk1.weaken fun k _ hk => by simp [Value.ownBlock]; omega
  have hA : Keep (fun k => k ≠ K) w w1 := (hkW.comp hk01 (fun _ _ h => h) (fun _ _ _ => trivial)).comp hW1 (fun _ _ h => h) (fun k hk _ => by omega)
  have hkB : Keep (fun k => k ≠ K ∧ (Value.slice A n c).ownBlock ≠ some k) w w3 := (hA.comp hkX (fun _ _ h => h) (fun _ _ _ => trivial)).comp hk3 (fun _ _ h => h.1) (fun _ _ h => h.2)
  have hkF : Keep (fun k => k ≠ K ∧ (Value.slice A n c).ownBlock ≠ some k) w (w3.setCell ⟨K, 0, none⟩ (.slice A3 (n + 1) c3)) := hkB.setCell (fun _ h => h.1 rfl) _
  have hA2 : ∀ k, (Value.slice A2 m c2).ownBlock = some k → w.heap.size ≤ k := by
    intro k hk
    rcases hn1 with e | ⟨g, e, hg⟩
    · rw [e] at hk
      simp [Value.ownBlock] at hk
      omega
    · rw [e] at hk
      injection hk with hk
      have := hk01.size
      omega
  have hVlt : ∀ k, (Value.slice A n c).ownBlock = some k → k < w.heap.size := fun k e => (own_lt h.row e).2
  have hVK : (Value.slice A n c).ownBlock ≠ some K := own_ne_blk h.row h.blk (by decide)
  have hKlt := h.blk.lt
  have hs13 : w1.heap.size ≤ w3.heap.size := Nat.le_trans hkX.size hk3.size
  have hk13 : Keep (fun k => (Value.slice A n c).ownBlock ≠ some k ∧ k ≠ K) w1 (w3.setCell ⟨K, 0, none⟩ (.slice A3 (n + 1) c3)) := (hkX.comp hk3 (fun _ _ _ => trivial) (fun _ _ h => h.1)).setCell (fun _ h => h.2 rfl) _
  obtain ⟨q, hq⟩ : ∃ q : Pg, q = ⟨.slice A1 m c1, .slice none 0 0, .slice A2 m c2, nx + 1, 0, bs⟩ := ⟨_, rfl⟩
  have hqb : ∀ k, q.blk k ↔ ((Value.slice A1 m c1).ownBlock = some k ∨ (Value.slice A2 m c2).ownBlock = some k) := by
    intro k
    rw [hq]
    simp [Pg.blk]
  have hqcells : q.cells = [Value.slice A1 m c1, .slice none 0 0, .slice A2 m c2, .int .i64 (nx + 1), .bool false] := by rw [hq]; rfl
  have hqok : q.ok (w3.setCell ⟨K, 0, none⟩ (.slice A3 (n + 1) c3)) B := by
    have h1 := own_keep hown hkF (fun k e => ⟨fun e2 => hnew k e (e2 ▸ h.inK), fun e2 => hnew k e (h.inV k e2)⟩)
    have h2 := own_keep ho1 hk13 (fun k e => ⟨fun e2 => by have := hVlt k e2; have := hA2 k e; omega, fun e2 => by have := hA2 k e; omega⟩)
    rw [hq]
    refine ⟨?_, ?_, ?_, ?_, ?_, fun _ => ?_, fun h => absurd h (by simp), fun h => by simp at h⟩
    · rw [← hm]; exact h1
    · show bs.length ≤ _; omega
    · show (0 : Int) ≤ nx + 1; have := h.nlo; omega
    · show nx + 1 ≤ (1000000 : Int); have := h.nhi; omega
    · show 0 ≤ 2; omega
    · rw [← hm]; exact h2
  have hblk3 : Blk (w3.setCell ⟨K, 0, none⟩ (.slice A3 (n + 1) c3)) K 43 #[.slice A3 (n + 1) c3, .slice none 0 0, .int .i64 (nx + 1)] := by
    have h1 := ((hblk.keep hk01 trivial).keep hW1 (by omega)).keep hkX trivial
    have h2 := (h1.keep hk3 hVK).set 0 (.slice A3 (n + 1) c3)
    simpa using h2
  have hrow3 : (w3.setCell ⟨K, 0, none⟩ (.slice A3 (n + 1) c3)).ownsRow B 81 5 (.slice A3 (n + 1) c3) (ps.length + 1) (pcells (ps ++ [q])) := by
    have h1 := own_far ho3 (p := ⟨K, 0, none⟩) (fun e => by
      rcases hn3 with e2 | ⟨g, e2, hg⟩
      · exact hVK (e2.symm.trans e)
      · rw [e2] at e
        injection e with e
        have e3 : g = K := e
        have := hkX.size
        have := hA.size
        omega) (.slice A3 (n + 1) c3)
    have e1 : pcells (ps ++ [q]) = pcells ps ++ [Value.slice A1 m c1, .slice none 0 0, .slice A2 m c2, .int .i64 (nx + 1), .bool false] := by
      rw [← hqcells]
      show rcells _ _ = _
      rw [rcells_append]
      congr 1
    rw [e1, ← hn]
    exact h1
  refine ⟨⟨.slice A3 (n + 1) c3, nx + 1, ps ++ [q], ?_, fun p hp => ?_⟩, hkF.weaken fun k _ hk => ⟨fun e => hk (e ▸ h.inK), fun e => hk (h.inV k e)⟩⟩
  · refine h.push hqok hblk3 (by omega) hrow3 (hkF.weaken fun k _ hk => ⟨hk.1, hk.2.1⟩) (fun p hp k e hqk => ?_) (fun k hk => .inl hk) (fun k hk => ?_) (fun k hk => ?_)
    · rcases (hqb k).1 hqk with e2 | e2
      · exact hnew k e2 (h.inP p hp k e)
      · have := (h.pages p hp).lt e
        have := hA2 k e2
        omega
    · rcases (hqb k).1 hk with e2 | e2
      · exact .inr (.inl e2)
      · refine .inr (.inr ⟨hA2 k e2, ?_⟩)
        have := (own_lt ho1 e2).2
        omega
    · rcases hn3 with e2 | ⟨g, e2, hg⟩
      · exact .inl (h.inV k (e2 ▸ hk))
      · refine .inr (.inr ⟨?_, ?_⟩)
        · rw [e2] at hk
          injection hk with hk
          have := hkX.size
          have := hA.size
          omega
        · have := (own_lt ho3 hk).2
          omega
  · rcases List.mem_append.1 hp with hp | hp
    · exact hst p hp
    · obtain rfl : p = q := by simpa using hp
      rw [hq]
      show 0 ≠ 1
      omega

end Go.Proofs.YtkgbhanpenpkmaaDoor
