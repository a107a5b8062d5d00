/-
  WALK OF quoratelaw01's Book: 'Write'.
-/
import Derived.Test.YtkgbhanpenpkmaaDoorBook2
namespace Go.Proofs.YtkgbhanpenpkmaaDoor
set_option linter.unusedVariables false
set_option linter.unusedSimpArgs false
open Go.RowKit

/-- A page that has been made is put behind the others. -/
theorem bpush {B K n c c3 : Nat} {S T : Nat → Prop} {A A3 : Option Addr} {nx : Int} {ps : List Pg} {w w3 : World} {q : Pg} (h : BookIs w B K S (.slice A n c) nx ps) (hst : ∀ p ∈ ps, p.st ≠ 1) (hn : n = ps.length) (hn96 : n < 96) (hqst : q.st ≠ 1)
    (hqok : q.ok w3 B) (hk : Keep (fun k => k ≠ K ∧ (Value.slice A n c).ownBlock ≠ some k ∧ ¬ T k) w w3) (hblk : Blk w3 K 43 #[.slice A n c, .slice none 0 0, .int .i64 (nx + 1)])
    (ho3 : w3.ownsRow B 81 5 (.slice A3 (n + 1) c3) (n + 1) (pcells ps ++ q.cells)) (hn3 : Next w.heap.size (.slice A n c) (.slice A3 (n + 1) c3))
    (hqb : ∀ k, q.blk k → T k ∨ w.heap.size ≤ k) (hT : ∀ k, T k → ¬ S k) :
    BookOk (w3.setCell ⟨K, 0, none⟩ (.slice A3 (n + 1) c3)) B K (fun k => S k ∨ T k ∨ (w.heap.size ≤ k ∧ k < (w3.setCell ⟨K, 0, none⟩ (.slice A3 (n + 1) c3)).heap.size)) ∧ Keep (fun k => ¬ S k ∧ ¬ T k) w (w3.setCell ⟨K, 0, none⟩ (.slice A3 (n + 1) c3)) := by
  have hfs : (w3.setCell ⟨K, 0, none⟩ (.slice A3 (n + 1) c3)).heap.size = w3.heap.size := by simp [World.setCell]
  have hkF : Keep (fun k => k ≠ K ∧ (Value.slice A n c).ownBlock ≠ some k ∧ ¬ T k) w (w3.setCell ⟨K, 0, none⟩ (.slice A3 (n + 1) c3)) := hk.setCell (fun _ h => h.1 rfl) _
  have hVK : (Value.slice A n c).ownBlock ≠ some K := own_ne_blk h.row h.blk (by decide)
  have hKlt := h.blk.lt
  have hqnb : ¬ q.blk K := hqok.not_blk hblk (by decide)
  have hqok' : q.ok (w3.setCell ⟨K, 0, none⟩ (.slice A3 (n + 1) c3)) B := hqok.keep ((Keep.refl (fun k => k ≠ K) w3).setCell (fun _ h => h rfl) _) (fun k e e2 => hqnb (e2 ▸ e))
  have hblk3 : Blk (w3.setCell ⟨K, 0, none⟩ (.slice A3 (n + 1) c3)) K 43 #[.slice A3 (n + 1) c3, .slice none 0 0, .int .i64 (nx + 1)] := by
    have h2 := hblk.set 0 (.slice A3 (n + 1) c3)
    simpa using h2
  have hrow3 : (w3.setCell ⟨K, 0, none⟩ (.slice A3 (n + 1) c3)).ownsRow B 81 5 (.slice A3 (n + 1) c3) (ps.length + 1) (pcells (ps ++ [q])) := by
    have h1 := own_far ho3 (p := ⟨K, 0, none⟩) (fun e => by
      rcases hn3 with e2 | ⟨g, e2, hg⟩
      · exact hVK (e2.symm.trans e)
      · rw [e2] at e
        injection e with e
        have e3 : g = K := e
        omega) (.slice A3 (n + 1) c3)
    have e1 : pcells (ps ++ [q]) = pcells ps ++ q.cells := by
      show rcells _ _ = _
      rw [rcells_append]
      congr 1
    rw [e1, ← hn]
    exact h1
  refine ⟨⟨.slice A3 (n + 1) c3, nx + 1, ps ++ [q], ?_, fun p hp => ?_⟩, hkF.weaken fun k _ hk => ⟨fun e => hk.1 (e ▸ h.inK), fun e => hk.1 (h.inV k e), hk.2⟩⟩
  · have hqa : ∀ p ∈ ps, ∀ k, p.blk k → ¬ q.blk k := fun p hp k e hqk => by
      rcases hqb k hqk with e2 | e2
      · exact hT k e2 (h.inP p hp k e)
      · have := (h.pages p hp).lt e
        omega
    have hkG : Keep (fun k => k ≠ K ∧ (Value.slice A n c).ownBlock ≠ some k ∧ ¬ T k) w (w3.setCell ⟨K, 0, none⟩ (.slice A3 (n + 1) c3)) := hkF
    have hnT : ∀ p ∈ ps, ∀ k, p.blk k → ¬ T k := fun p hp k e e2 => hT k e2 (h.inP p hp k e)
    have hVp : ∀ p ∈ ps, ∀ k, p.blk k → (Value.slice A n c).ownBlock ≠ some k := fun p hp k e hv => (h.pages p hp).not_own h.row (by decide) hv e
    refine ⟨hblk3, by simpa using hrow3, ?_, ?_, by simp; omega, by have := h.nlo; omega, by have := h.nhi; simp; omega, .inl h.inK, fun k e => ?_, ?_⟩
    · intro p hp
      rcases List.mem_append.1 hp with hp | hp
      · exact (h.pages p hp).keep hkG (fun k e => ⟨fun e2 => (h.pages p hp).not_blk h.blk (by decide) (e2 ▸ e), hVp p hp k e, hnT p hp k e⟩)
      · obtain rfl : p = q := by simpa using hp
        exact hqok'
    · rw [List.pairwise_append]
      refine ⟨h.apart, by simp, fun p hp q' hq' => ?_⟩
      obtain rfl : q' = q := by simpa using hq'
      exact hqa p hp
    · rcases hn3 with e2 | ⟨g, e2, hg⟩
      · exact .inl (h.inV k (e2 ▸ e))
      · refine .inr (.inr ⟨?_, ?_⟩)
        · rw [e2] at e
          injection e with e
          omega
        · have := (own_lt ho3 e).2
          omega
    · intro p hp k e
      rcases List.mem_append.1 hp with hp | hp
      · exact .inl (h.inP p hp k e)
      · obtain rfl : p = q := by simpa using hp
        rcases hqb k e with e2 | e2
        · exact .inr (.inl e2)
        · refine .inr (.inr ⟨e2, ?_⟩)
          have := hqok'.lt e
          exact this
  · rcases List.mem_append.1 hp with hp | hp
    · exact hst p hp
    · obtain rfl : p = q := by simpa using hp
      exact hqst

theorem Blk.newAt' {w : World} {k : Nat} {t : TypeId} {cs : Array Value} (h : w.heap.size = k) : Blk (w.alloc (.cells cs t)) k t cs := h ▸ Blk.new _ _ _
theorem PgAt.of_blk {w : World} {P : Nat} {p : Pg} (h : Blk w P 81 p.cells.toArray) : PgAt w P 0 p :=
  ⟨h.cell 0, h.cell 1, h.cell 2, h.cell 3, h.cell 4, fun j => h.frozen j⟩

set_option maxRecDepth 20000 in
set_option maxHeartbeats 2000000 in
theorem bwrite_any (B K : Nat) (S : Nat → Prop) (w : World) (h : BookOk w B K S) (v : Value) (bs : List UInt8) (hown : w.ownsRow B 5 1 v bs.length (Lib.byteCells bs)) (hlen : bs.length ≤ 1099511627000) (hnew : ∀ k, v.ownBlock = some k → ¬ S k) (hB : B ≤ w.heap.size) :
    Calls Tryd.prog 16 #[.pointer (some ⟨K, 0, none⟩), v] w fun e w' => e = .returned (.tuple #[]) ∧ BookOk w' B K (fun k => S k ∨ v.ownBlock = some k ∨ (w.heap.size ≤ k ∧ k < w'.heap.size)) ∧ Keep (fun k => ¬ S k ∧ ¬ v.ownBlock = some k) w w' := by
  obtain ⟨V, nx, ps, h, hst⟩ := h
  have HB := Lib.hid (And.intro h (And.intro hst (And.intro hown (And.intro hlen (And.intro hnew hB)))))
  obtain ⟨A, c, rfl⟩ := own_form0 h.row
  obtain ⟨n, hn⟩ : ∃ n, n = ps.length := ⟨_, rfl⟩
  rw [← hn] at HB h
  have hn96 := h.len
  rw [← hn] at hn96
  have hnx1 : nx ≤ 96 := by have := h.nhi; omega
  have hnx0 := h.nlo
  obtain ⟨A1, c1, rfl⟩ := own_form0 hown
  obtain ⟨m, hm⟩ : ∃ m, m = bs.length := ⟨_, rfl⟩
  rw [← hm] at HB hlen ⊢
  have x0 := h.blk.cell 0
  have x2 := h.blk.cell 2
  have f0 := h.blk.frozen 0
  have f2 := h.blk.frozen 2
  have hKlt := h.blk.lt
  simp at x0 x2
  have HM := Lib.hid (And.intro hm hn)
  clear h hst hown hnew hB hn hm
  by_cases hful : (96 : Int) ≤ (n : Int)
  · go_enter Tryd.func16, Tryd.ntmps16
    go_wp2
    refine bodyPost_ret (results_none rfl _ _ _) rfl ?_
    exact ⟨rfl, ⟨_, nx, ps, HB.out.1.weaken fun k hk => .inl hk, HB.out.2.1⟩, Keep.refl _ _⟩
  · go_enter Tryd.func16, Tryd.ntmps16
    go_wp2_with fail
    obtain ⟨P, hP⟩ : ∃ P, P = w.heap.size := ⟨_, rfl⟩
    obtain ⟨W1, hW1⟩ : ∃ W1, W1 = (w.setCell ⟨K, 2, none⟩ (.int .i64 (nx + 1))).alloc (.cells #[.slice A1 m c1, .slice none 0 0, .slice none 0 0, .int .i64 (nx + 1), .bool false] 81) := ⟨_, rfl⟩
    rw [← hW1]
    simp only [← hP]
    obtain ⟨h, hst, hown, hlen2, hnew, hB⟩ := HB.out
    have hsz1 : W1.heap.size = P + 1 := by rw [hW1, hP]; simp [World.setCell]
    have hbP : Blk W1 P 81 #[.slice A1 m c1, .slice none 0 0, .slice none 0 0, .int .i64 (nx + 1), .bool false] := by rw [hW1]; exact Blk.newAt' (by rw [hP]; simp [World.setCell])
    have hbK : Blk W1 K 43 #[.slice A n c, .slice none 0 0, .int .i64 (nx + 1)] := by
      rw [hW1]
      have := (h.blk.set 2 (.int .i64 (nx + 1))).alloc (.cells #[.slice A1 m c1, .slice none 0 0, .slice none 0 0, .int .i64 (nx + 1), .bool false] 81)
      simpa using this
    have hk01 : Keep (fun k => k ≠ K) w W1 := by rw [hW1]; exact ((Keep.refl _ w).setCell (fun _ h => h rfl) _).alloc _
    have hKP : K ≠ P := by omega
    have hvK : ∀ k, (Value.slice A1 m c1).ownBlock = some k → k ≠ K := fun k e e2 => hnew k e (e2 ▸ h.inK)
    have hvP : (Value.slice A1 m c1).ownBlock ≠ some P := fun e => by have := (own_lt hown e).2; omega
    have hVP : (Value.slice A n c).ownBlock ≠ some P := fun e => by have := (own_lt h.row e).2; omega
    have hVK : (Value.slice A n c).ownBlock ≠ some K := own_ne_blk h.row h.blk (by decide)
    have hVv : ∀ k, (Value.slice A n c).ownBlock = some k → (Value.slice A1 m c1).ownBlock ≠ some k := fun k e e2 => hnew k e2 (h.inV k e)
    have hown1 := own_keep hown hk01 hvK
    have hrow1 := own_keep h.row hk01 (fun k e e2 => hVK (e2 ▸ e))
    rw [← HM.out.2] at hrow1
    have HF := fill_any ⟨.slice A1 m c1, .slice none 0 0, .slice none 0 0, nx + 1, 0, bs⟩ B P 0 W1 (PgAt.of_blk hbP) (by show W1.ownsRow _ _ _ _ bs.length _; rw [← HM.out.1]; exact hown1) (by show bs.length ≤ _; rw [← HM.out.1]; exact hlen) hvP
    replace HF := Lib.hid HF
    have HN := Lib.hid (And.intro hKP (And.intro hvP (And.intro hVP (And.intro hVK (And.intro hVv (And.intro hvK hB))))))
    have H1 := Lib.hid (And.intro hbP (And.intro hbK (And.intro hk01 (And.intro hown1 (And.intro hrow1 (And.intro hsz1 hP))))))
    clear hbP hbK hk01 hown1 hrow1 hsz1 hP hKP hvP hVP hVK hVv hvK hB h hst hown hlen2 hnew hW1 x0 x2 f0 f2 hKlt
    refine HF.out.mono ?_
    rintro e W2 ⟨rfl, w2, hW2, ho2, hk2⟩
    change w2.ownsRow B 5 1 (.slice A1 m c1) bs.length (Lib.byteCells (pats (nx + 1) bs.length)) at ho2
    change Keep (fun k => (Value.slice A1 m c1).ownBlock ≠ some k) W1 w2 at hk2
    rw [← HM.out.1] at ho2
    obtain ⟨hbP, hbK, hk01, hown1, hrow1, hsz1, hP⟩ := H1.out
    obtain ⟨hKP, hvP, hVP, hVK, hVv, hvK, hB⟩ := HN.out
    have hbP2 : Blk W2 P 81 #[.slice A1 m c1, .slice none 0 0, .slice none 0 0, .int .i64 (nx + 1), .bool true] := by
      rw [hW2]
      have := (hbP.keep hk2 hvP).set 4 (.bool true)
      simpa using this
    have hbK2 : Blk W2 K 43 #[.slice A n c, .slice none 0 0, .int .i64 (nx + 1)] := by
      rw [hW2]
      exact (hbK.keep hk2 (fun e => hvK K e rfl)).far hKP _
    have hk12 : Keep (fun k => (Value.slice A1 m c1).ownBlock ≠ some k ∧ k ≠ P) W1 W2 := by rw [hW2]; exact (hk2.weaken (fun k _ h => h.1)).setCell (fun _ h => h.2 rfl) _
    have ho2' : W2.ownsRow B 5 1 (.slice A1 m c1) m (Lib.byteCells (pats (nx + 1) m)) := by rw [hW2]; exact own_far ho2 hvP _
    have hrow2 := own_keep hrow1 hk12 (fun k e => ⟨hVv k e, fun e2 => hVP (e2 ▸ e)⟩)
    have hB2 : B ≤ W2.heap.size := Nat.le_trans (by omega) hk12.size
    have hpl : (pats (nx + 1) m).length = m := pats_len _ _
    have HG := grow_any ⟨.slice A1 m c1, .slice none 0 0, .slice none 0 0, nx + 1, 1, pats (nx + 1) m⟩ B P 0 W2 (PgAt.of_blk hbP2) (by show W2.ownsRow _ _ _ _ (pats (nx + 1) m).length _; rw [hpl]; exact ho2') (by show (pats (nx + 1) m).length ≤ _; rw [hpl]; exact hlen) (by show (0 : Int) ≤ nx + 1; omega) (by show nx + 1 ≤ (1000000 : Int); omega) hvP hB2
    replace HG := Lib.hid HG
    have H2 := Lib.hid (And.intro hbP2 (And.intro hbK2 (And.intro hk12 (And.intro ho2' hrow2))))
    clear hbP hbK hk01 hown1 hrow1 hsz1 hP hKP hvP hVP hVK hVv hvK hB hbP2 hbK2 hk12 ho2' hrow2 hB2 hpl ho2 hk2 hW2
    go_wp2_with fail
    refine HG.out.mono ?_
    rintro e W3 ⟨rfl, w3, G, hW3, ho3, hG, hk3, hnG⟩
    change w3.ownsRow B 5 1 (.slice A1 m c1) (pats (nx + 1) m).length (Lib.byteCells (pats (nx + 1) m)) at ho3
    change w3.ownsRow B 5 1 G ((pats (nx + 1) m).length + 64) (Lib.byteCells (pats (nx + 1) m ++ pats (nx + 1 + 100000) 64)) at hG
    change Keep (fun k => (Value.slice A1 m c1).ownBlock ≠ some k) W2 w3 at hk3
    change Next W2.heap.size (.slice A1 m c1) G at hnG
    rw [pats_len] at ho3 hG
    obtain ⟨A3, c3, rfl⟩ := own_form0 hG
    obtain ⟨hbP, hbK, hk01, hown1, hrow1, hsz1, hP⟩ := H1.out
    obtain ⟨hbP2, hbK2, hk12, ho2, hrow2⟩ := H2.out
    obtain ⟨hKP, hvP, hVP, hVK, hVv, hvK, hB⟩ := HN.out
    have hs12 := hk12.size
    have hGP : (Value.slice A3 (m + 64) c3).ownBlock ≠ some P := fun e => by
      rcases hnG with e2 | ⟨g, e2, hg⟩
      · exact hvP (e2.symm.trans e)
      · rw [e2] at e; injection e with e; omega
    have hbP3 : Blk W3 P 81 #[.slice A1 m c1, .slice A3 (m + 64) c3, .slice none 0 0, .int .i64 (nx + 1), .bool true] := by
      rw [hW3]
      have := (hbP2.keep hk3 hvP).set 1 (.slice A3 (m + 64) c3)
      simpa using this
    have hbK3 : Blk W3 K 43 #[.slice A n c, .slice none 0 0, .int .i64 (nx + 1)] := by
      rw [hW3]
      exact (hbK2.keep hk3 (fun e => hvK K e rfl)).far hKP _
    have hk23 : Keep (fun k => (Value.slice A1 m c1).ownBlock ≠ some k ∧ k ≠ P) W2 W3 := by rw [hW3]; exact (hk3.weaken (fun k _ h => h.1)).setCell (fun _ h => h.2 rfl) _
    have ho3' : W3.ownsRow B 5 1 (.slice A1 m c1) m (Lib.byteCells (pats (nx + 1) m)) := by rw [hW3]; exact own_far ho3 hvP _
    have hG' : W3.ownsRow B 5 1 (.slice A3 (m + 64) c3) (m + 64) (Lib.byteCells (pats (nx + 1) m ++ pats (nx + 1 + 100000) 64)) := by rw [hW3]; exact own_far hG hGP _
    have hrow3 := own_keep hrow2 hk23 (fun k e => ⟨hVv k e, fun e2 => hVP (e2 ▸ e)⟩)
    have hB3 : B ≤ W3.heap.size := Nat.le_trans (by omega) hk23.size
    have hpl : (pats (nx + 1) m).length = m := pats_len _ _
    have hqok : Pg.ok W3 B ⟨.slice A1 m c1, .slice A3 (m + 64) c3, .slice none 0 0, nx + 1, 2, pats (nx + 1) m⟩ := by
      refine ⟨?_, ?_, ?_, ?_, ?_, fun h => by simp at h, fun _ => ?_, fun _ => ?_⟩
      · show W3.ownsRow _ _ _ _ (pats (nx + 1) m).length _; rw [hpl]; exact ho3'
      · show (pats (nx + 1) m).length ≤ _; rw [hpl]; exact hlen
      · show (0 : Int) ≤ nx + 1; omega
      · show nx + 1 ≤ (1000000 : Int); omega
      · show 2 ≤ 2; omega
      · show pats (nx + 1) m = pats (nx + 1) (pats (nx + 1) m).length; rw [hpl]
      · show W3.ownsRow _ _ _ _ ((pats (nx + 1) m).length + 64) _; rw [hpl]; exact hG'
    have hk03 : Keep (fun k => k ≠ K ∧ ¬ (Value.slice A1 m c1).ownBlock = some k) w W3 := (hk01.comp hk12 (fun _ _ h => h.1) (fun k hk h => ⟨h.2, by omega⟩)).comp hk23 (fun _ _ h => h) (fun k hk h => ⟨h.2, by omega⟩)
    have hGT : ∀ k, (Value.slice A3 (m + 64) c3).ownBlock = some k → (Value.slice A1 m c1).ownBlock = some k ∨ w.heap.size ≤ k := fun k e => by
      rcases hnG with e2 | ⟨g, e2, hg⟩
      · exact .inl (e2.symm.trans e)
      · rw [e2] at e; injection e with e; exact .inr (by omega)
    have p0 := hbP3.cell 0
    have p1 := hbP3.cell 1
    have p2 := hbP3.cell 2
    have p3 := hbP3.cell 3
    have p4 := hbP3.cell 4
    have y0 := hbK3.cell 0
    have g0 := hbK3.frozen 0
    have hK3 := hbK3.lt
    have hP3 := hbP3.lt
    simp at p0 p1 p2 p3 p4 y0
    have hkX : Fresh W3 (W3.alloc (.cells #[.slice A1 m c1, .slice A3 (m + 64) c3, .slice none 0 0, .int .i64 (nx + 1), .bool true] 81)).drew := ((Keep.refl (fun _ => True) W3).alloc _).drew
    have hrdX : Rd (W3.alloc (.cells #[.slice A1 m c1, .slice A3 (m + 64) c3, .slice none 0 0, .int .i64 (nx + 1), .bool true] 81)).drew (fun i => i = W3.heap.size) 5 (some ⟨W3.heap.size, 0, none⟩) 1 [.slice A1 m c1, .slice A3 (m + 64) c3, .slice none 0 0, .int .i64 (nx + 1), .bool true] := Rd.one_of ((Blk.new W3 81 #[.slice A1 m c1, .slice A3 (m + 64) c3, .slice none 0 0, .int .i64 (nx + 1), .bool true]).drew) rfl
    have HX := Lib.hid (And.intro (own_keep hrow3 hkX (fun _ _ => trivial)) (And.intro hrdX (And.intro (Nat.le_trans hB3 hkX.size) (And.intro (hkX.cellAt y0 trivial) (And.intro ((hkX.frozen (p := ⟨K, 0, none⟩) hK3 trivial).trans g0) (And.intro (Nat.lt_of_lt_of_le hK3 hkX.size) (And.intro hVK hkX)))))))
    have HQ := Lib.hid (And.intro hqok (And.intro hk03 (And.intro hGT (And.intro hbK3 hrow3))))
    have h02 : (n + 1) * 88 ≤ 140737488355328 := by omega
    replace h02 := Lib.hid h02
    clear hbP hbK hk01 hown1 hrow1 hsz1 hP hbP2 hbK2 hk12 ho2 hrow2 hKP hvP hVP hVK hVv hvK hB hs12 hGP hbP3 hbK3 hk23 ho3' hG' hrow3 hB3 hpl hqok hk03 hGT hkX hrdX HF HG hW3 ho3 hG hk3 hnG H1 H2 HN
    go_wp2_with fail
    go_region_law (first
      | (refine step_app etPage rfl (.tmp 30) (.tmp 32) rfl B _ n _ rfl HX.out.1 _ (some ⟨W3.heap.size, 0, none⟩) 1 1 _ rfl HX.out.2.1 (fun h => Nat.noConfusion h) (page_one _ _ _ _ _ _ _ _ _ _ _) h02.out HX.out.2.2.1 ?_
         intro v4 w4 ho4 hk4 hn4
         obtain ⟨A4, c4, rfl⟩ := own_form0 ho4
         have t0 := hk4.cellAt HX.out.2.2.2.1 HX.out.2.2.2.2.2.2.1
         have tg : w4.frozen? ⟨K, 0, none⟩ = false := (hk4.frozen (p := ⟨K, 0, none⟩) HX.out.2.2.2.2.2.1 HX.out.2.2.2.2.2.2.1).trans HX.out.2.2.2.2.1
         have tK : K < w4.heap.size := Nat.lt_of_lt_of_le HX.out.2.2.2.2.2.1 hk4.size
         have H4 := Lib.hid (And.intro ho4 (And.intro hk4 hn4))
         clear ho4 hk4 hn4))
    all_goals
      go_wp2
      go_end0
      obtain ⟨h, hst, hown, hlen2, hnew, hB⟩ := HB.out
      obtain ⟨hqok, hk03, hGT, hbK3, hrow3⟩ := HQ.out
      obtain ⟨-, -, -, -, -, -, hVK, hkX⟩ := HX.out
      obtain ⟨ho4, hk4, hn4⟩ := H4.out
      have hk34 : Keep (fun k => ¬ (Value.slice A n c).ownBlock = some k) W3 w4 := hkX.comp hk4 (fun _ _ _ => trivial) (fun _ _ h => h)
      have hbp := bpush (T := fun k => (Value.slice A1 m c1).ownBlock = some k) h hst HM.out.2 (by omega) (by simp) (hqok.keep hk34 (fun k e e2 => hqok.not_own hrow3 (by decide) e2 e)) (hk03.comp hk34 (fun _ _ h => ⟨h.1, h.2.2⟩) (fun _ _ h => h.2.1)) (hbK3.keep hk34 hVK) ho4
        (hn4.imp (fun h => h) (fun ⟨g, e, hg⟩ => ⟨g, e, Nat.le_trans (Nat.le_trans hk03.size hkX.size) hg⟩)) (fun k e => by
          rcases e with e | ⟨e1, e⟩ | ⟨e1, e⟩
          · exact .inl e
          · simp at e1
          · exact hGT k e) hnew
      exact ⟨rfl, hbp⟩
end Go.Proofs.YtkgbhanpenpkmaaDoor
