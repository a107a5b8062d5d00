/-
  WALK OF quoratelaw01's Book: 'Keep'.
-/
import Derived.Test.YtkgbhanpenpkmaaDoorBook2
namespace Go.Proofs.YtkgbhanpenpkmaaDoor
set_option linter.unusedVariables false
set_option linter.unusedSimpArgs false
open Go.RowKit

set_option maxRecDepth 20000 in
set_option maxHeartbeats 2000000 in
theorem bkeep_any (B K : Nat) (S : Nat → Prop) (w : World) (h : BookOk w B K S) (v : Value) (bs : List UInt8) (hown : w.ownsRow B 5 1 v bs.length (Lib.byteCells bs)) (hlen : bs.length ≤ 1099511627000) (hnew : ∀ k, v.ownBlock = some k → ¬ S k) (hB : B ≤ w.heap.size) :
    Calls Tryd.prog 15 #[.pointer (some ⟨K, 0, none⟩), v] w fun e w' => e = .returned (.tuple #[]) ∧ BookOk w' B K (fun k => S k ∨ v.ownBlock = some k ∨ (w.heap.size ≤ k ∧ k < w'.heap.size)) ∧ Keep (fun k => ¬ S k) w w' := by
  obtain ⟨V, nx, ps, h, hst⟩ := h
  have HB := Lib.hid (And.intro h (And.intro hst (And.intro hown (And.intro hlen (And.intro hnew hB)))))
  obtain ⟨A, c, rfl⟩ := own_form0 h.row
  obtain ⟨n, hn⟩ : ∃ n, n = ps.length := ⟨_, rfl⟩
  rw [← hn] at HB h
  have hn96 := h.len
  rw [← hn] at hn96
  have hnx1 : nx ≤ 96 := by have := h.nhi; omega
  have hnx0 := h.nlo
  obtain ⟨A1, c1, rfl⟩ := own_form0 hown
  obtain ⟨m, hm⟩ : ∃ m, m = bs.length := ⟨_, rfl⟩
  rw [← hm] at HB hlen ⊢
  have x0 := h.blk.cell 0
  have x2 := h.blk.cell 2
  have f0 := h.blk.frozen 0
  have f2 := h.blk.frozen 2
  have hKlt := h.blk.lt
  simp at x0 x2
  have HM := Lib.hid (And.intro hm hn)
  clear h hst hown hnew hB hn hm
  by_cases hful : (96 : Int) ≤ (n : Int)
  · go_enter Tryd.func15, Tryd.ntmps15
    go_wp2
    refine bodyPost_ret (results_none rfl _ _ _) rfl ?_
    exact ⟨rfl, ⟨_, nx, ps, HB.out.1.weaken fun k hk => .inl hk, HB.out.2.1⟩, Keep.refl _ _⟩
  · go_enter Tryd.func15, Tryd.ntmps15
    go_wp2_with fail
    obtain ⟨W, hW⟩ : ∃ W, W = w.setCell ⟨K, 2, none⟩ (.int .i64 (nx + 1)) := ⟨_, rfl⟩
    rw [← hW]
    obtain ⟨h, hst, hown, hlen2, hnew, hB⟩ := HB.out
    have hblk : Blk W K 43 #[.slice A n c, .slice none 0 0, .int .i64 (nx + 1)] := by rw [hW]; simpa using h.blk.set 2 (.int .i64 (nx + 1))
    have hkW : Keep (fun k => k ≠ K) w W := by rw [hW]; exact (Keep.refl _ w).setCell (fun _ h => h rfl) _
    have hvK : ∀ k, (Value.slice A1 m c1).ownBlock = some k → k ≠ K := fun k e e2 => hnew k e (e2 ▸ h.inK)
    have hownW := own_keep hown hkW hvK
    have hVK : ∀ k, (Value.slice A n c).ownBlock = some k → k ≠ K := fun k e e2 => own_ne_blk h.row h.blk (by decide) (e2 ▸ e)
    have hrowW := own_keep h.row hkW hVK
    have hs : W.heap.size = w.heap.size := by rw [hW]; simp [World.setCell]
    have hBW : B ≤ W.heap.size := by rw [hs]; exact hB
    obtain ⟨W1, hW1⟩ : ∃ W1, W1 = (W.alloc (.cells #[] 5)).drew := ⟨_, rfl⟩
    have hk1 : Fresh W W1 := hW1 ▸ ((Keep.refl _ W).alloc _).drew
    have hO : W1.ownsRow B 5 1 (.slice (some ⟨W.heap.size, 0, none⟩) 0 0) 0 [] :=
      ⟨rfl, .inr ⟨W.heap.size, 0, #[], rfl, hBW, by rw [hW1]; exact heap_alloc_new W _, Nat.le_refl _, by simp only [maxLen]; omega, rfl, rfl⟩⟩
    obtain ⟨A1', c1', hv', hrd, hnil⟩ := own_rd (own_keep hownW hk1 (fun _ _ => trivial))
    have hKne : (Value.slice (some ⟨W.heap.size, 0, none⟩) 0 0).ownBlock ≠ some K := by simp [Value.ownBlock]; omega
    have hsz1 : W1.heap.size = W.heap.size + 1 := by rw [hW1]; simp
    injection hv' with hv1 _ hv3
    subst hv1 hv3
    have y0 := hblk.cell 0
    have y2 := hblk.cell 2
    have g0 := hblk.frozen 0
    have hKW := hblk.lt
    simp at y0 y2
    have z0 := hk1.cellAt y0 trivial
    have z2 := hk1.cellAt y2 trivial
    have zg : W1.frozen? ⟨K, 0, none⟩ = false := (hk1.frozen (p := ⟨K, 0, none⟩) hKW trivial).trans g0
    have hB1 : B ≤ W1.heap.size := by rw [hsz1]; omega
    have hrow1 := own_keep hrowW hk1 (fun _ _ => trivial)
    rw [← HM.out.2] at hrow1
    have hV1 : ∀ k, (Value.slice A n c).ownBlock = some k → (Value.slice (some ⟨W.heap.size, 0, none⟩) 0 0).ownBlock ≠ some k := fun k e e2 => by have := (own_lt hrowW e).2; simp [Value.ownBlock] at e2; omega
    have hK1 : K < W1.heap.size := by rw [hsz1]; omega
    have hVK2 : (Value.slice A n c).ownBlock ≠ some K := fun e => hVK K e rfl
    have HF := Lib.hid (And.intro hO (And.intro hrd (And.intro hnil (And.intro hB1 (And.intro hKne (And.intro z0 (And.intro z2 (And.intro zg (And.intro hrow1 (And.intro hV1 (And.intro hsz1 (And.intro hkW (And.intro hs (And.intro hk1 (And.intro hblk (And.intro hK1 hVK2))))))))))))))))
    have h01 : (0 + m) * 1 ≤ 140737488355328 := by omega
    have h02 : (n + 1) * 88 ≤ 140737488355328 := by omega
    replace h01 := Lib.hid h01
    replace h02 := Lib.hid h02
    subst hW1
    clear x0 x2 f0 f2 hKlt h hst hown hlen2 hnew hB hblk hkW hvK hownW hVK hrowW hs hBW hk1 hO hrd hnil hKne hsz1 z0 z2 zg hB1 hrow1 hV1 hW hK1 hVK2
    go_region_law (first
      | (refine step_app etU8 rfl (.tmp 23) (.tmp 24) rfl B _ 0 [] rfl HF.out.1 _ A1 m c1 _ rfl HF.out.2.1 HF.out.2.2.1 (bcs_one _) h01.out HF.out.2.2.2.1 ?_
         intro v1 w1 ho1 hk1 hn1
         obtain ⟨A2, c2, rfl⟩ := own_form0 ho1
         rw [Nat.zero_add, List.nil_append] at ho1
         rw [Nat.zero_add] at hn1
         have u0 := hk1.cellAt HF.out.2.2.2.2.2.1 HF.out.2.2.2.2.1
         have u2 := hk1.cellAt HF.out.2.2.2.2.2.2.1 HF.out.2.2.2.2.1
         have ug : w1.frozen? ⟨K, 0, none⟩ = false := (hk1.frozen (p := ⟨K, 0, none⟩) HF.out.2.2.2.2.2.2.2.2.2.2.2.2.2.2.2.1 HF.out.2.2.2.2.1).trans HF.out.2.2.2.2.2.2.2.1
         have uK : K < w1.heap.size := Nat.lt_of_lt_of_le HF.out.2.2.2.2.2.2.2.2.2.2.2.2.2.2.2.1 hk1.size
         have hrow2 := own_keep HF.out.2.2.2.2.2.2.2.2.1 hk1 HF.out.2.2.2.2.2.2.2.2.2.1
         have hB2 := Nat.le_trans HF.out.2.2.2.1 hk1.size
         have hkX : Fresh w1 (w1.alloc (.cells #[.slice A1 m c1, .slice none 0 0, .slice A2 m c2, .int .i64 (nx + 1), .bool false] 81)) := (Keep.refl (fun _ => True) w1).alloc _
         have H1 := Lib.hid (And.intro ho1 (And.intro hk1 (And.intro hn1 (And.intro (own_keep hrow2 hkX (fun _ _ => trivial)) (And.intro (Nat.le_trans hB2 hkX.size) (And.intro (hkX.cellAt u0 trivial) (And.intro ((hkX.frozen (p := ⟨K, 0, none⟩) uK trivial).trans ug) (Nat.lt_of_lt_of_le uK hkX.size))))))))
         clear ho1 hk1 hn1 hrow2 hB2 hkX)
      | (refine step_app etPage rfl (.tmp 21) (.tmp 31) rfl B _ n _ rfl H1.out.2.2.2.1 _ (some ⟨w1.heap.size, 0, none⟩) 1 1 _ rfl (Rd.one_of (Blk.new _ _ _) rfl) (fun h => Nat.noConfusion h) (page_one _ _ _ _ _ _ _ _ _ _ _) h02.out H1.out.2.2.2.2.1 ?_
         intro v3 w3 ho3 hk3 hn3
         obtain ⟨A3, c3, rfl⟩ := own_form0 ho3
         have t0 := hk3.cellAt H1.out.2.2.2.2.2.1 HF.out.2.2.2.2.2.2.2.2.2.2.2.2.2.2.2.2
         have tg : w3.frozen? ⟨K, 0, none⟩ = false := (hk3.frozen (p := ⟨K, 0, none⟩) H1.out.2.2.2.2.2.2.2 HF.out.2.2.2.2.2.2.2.2.2.2.2.2.2.2.2.2).trans H1.out.2.2.2.2.2.2.1
         have tK : K < w3.heap.size := Nat.lt_of_lt_of_le H1.out.2.2.2.2.2.2.2 hk3.size
         have H3 := Lib.hid (And.intro ho3 (And.intro hk3 hn3))
         clear ho3 hk3 hn3))
    all_goals
      go_wp2
      go_end0
      obtain ⟨h, hst, hown, hlen2, hnew, hB⟩ := HB.out
      obtain ⟨-, -, -, -, -, -, -, -, -, -, -, hkW, hs, hk01, hblk, -, -⟩ := HF.out
      obtain ⟨ho1, hk1, hn1, -⟩ := H1.out
      obtain ⟨ho3, hk3, hn3⟩ := H3.out
      exact ⟨rfl, bkeep_close h hst HM.out.1 HM.out.2 hown hlen2 hnew hB (by omega) hkW hs hk01 hblk ho1 hk1 hn1 ((Keep.refl (fun _ => True) _).alloc _) ho3 hk3 hn3⟩
end Go.Proofs.YtkgbhanpenpkmaaDoor
