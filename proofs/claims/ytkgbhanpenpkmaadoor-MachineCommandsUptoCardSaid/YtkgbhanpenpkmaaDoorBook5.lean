/-
  WALK OF quoratelaw01's Book: 'Settle'.
-/
import Derived.Test.YtkgbhanpenpkmaaDoorBook2
namespace Go.Proofs.YtkgbhanpenpkmaaDoor
set_option linter.unusedVariables false
set_option linter.unusedSimpArgs false
open Go.RowKit

theorem bool_info : (Tryd.prog.info? 4).map (fun i => (i.zero, i.size, i.bytes)) = some (some (.bool false), 1, 1) := by kernel_rfl
theorem etBool : ET Tryd.prog 82 4 1 1 (.bool false) := ⟨Tryd.underlying82, bool_info, rfl, by decide, by decide⟩
def bools (fl : List Bool) : List Value := fl.map Value.bool
theorem BookIs.tight {w : World} {B K : Nat} {S : Nat → Prop} {V : Value} {nx : Int} {ps : List Pg} (h : BookIs w B K S V nx ps) : BookIs w B K (fun k => S k ∧ k < w.heap.size) V nx ps :=
  ⟨h.blk, h.row, h.pages, h.apart, h.len, h.nlo, h.nhi, ⟨h.inK, h.blk.lt⟩, fun k e => ⟨h.inV k e, (own_lt h.row e).2⟩, fun p hp k e => ⟨h.inP p hp k e, (h.pages p hp).lt e⟩⟩
/-- Where the first loop stands: the pages ahead of k are written over, and marked if they were not. -/
structure Fill (w wr : World) (B K gf n : Nat) (S : Nat → Prop) (V : Value) (nx : Int) (k : Nat) (qs : List Pg) (fl : List Bool) : Prop where
  len : qs.length = n
  book : BookIs wr B K S V nx qs
  row : wr.ownsRow w.heap.size 4 1 (.slice (some ⟨gf, 0, none⟩) n n) n (bools fl)
  done : ∀ i (hi : i < qs.length) (hf : i < fl.length), i < k → (qs[i].st = 1 ∧ fl[i] = true) ∨ (qs[i].st = 2 ∧ fl[i] = false)
  rest : ∀ i (hi : i < qs.length), k ≤ i → qs[i].st ≠ 1
  keep : Keep (fun k => ¬ S k) w wr
/-- .. the second: the marked pages ahead of k are made longer. -/
structure Grow (w wr : World) (B K gf n : Nat) (S : Nat → Prop) (V : Value) (nx : Int) (k : Nat) (qs : List Pg) (fl : List Bool) : Prop where
  len : qs.length = n
  book : BookIs wr B K (fun k => S k ∨ w.heap.size ≤ k) V nx qs
  row : wr.ownsRow w.heap.size 4 1 (.slice (some ⟨gf, 0, none⟩) n n) n (bools fl)
  done : ∀ i (hi : i < qs.length), i < k → qs[i].st = 2
  rest : ∀ i (hi : i < qs.length) (hf : i < fl.length), k ≤ i → (qs[i].st = 1 ∧ fl[i] = true) ∨ (qs[i].st = 2 ∧ fl[i] = false)
  keep : Keep (fun k => ¬ S k) w wr

theorem bools_get {fl : List Bool} {k : Nat} (hk : k < fl.length) : (bools fl)[k]? = some (.bool fl[k]) := by simp [bools, hk]
theorem bools_set (fl : List Bool) (k : Nat) (b : Bool) : (bools fl).set k (.bool b) = bools (fl.set k b) := by simp [bools, List.map_set]
theorem bools_len {w : World} {b n : Nat} {v : Value} {fl : List Bool} (h : w.ownsRow b 4 1 v n (bools fl)) : fl.length = n := by simpa [bools] using h.1
/-- The k-th mark is set. -/
theorem flag_row {w : World} {base gf n k : Nat} {fl : List Bool} (h : w.ownsRow base 4 1 (.slice (some ⟨gf, 0, none⟩) n n) n (bools fl)) (hk : k < n) (b : Bool) :
    (w.setCell ⟨gf, k, none⟩ (.bool b)).ownsRow base 4 1 (.slice (some ⟨gf, 0, none⟩) n n) n (bools (fl.set k b)) := by
  rw [← bools_set]
  exact own_set h rfl (by omega) _
theorem keep_flag (w : World) (gf k : Nat) (b : Bool) : Keep (fun i => i ≠ gf) w (w.setCell ⟨gf, k, none⟩ (.bool b)) := (Keep.refl _ w).setCell (fun _ h => h rfl) _
theorem get_set_ne {α : Type} {l : List α} {i k : Nat} {x : α} (hi : i < (l.set k x).length) (hne : i ≠ k) : (l.set k x)[i] = l[i]'(by simpa using hi) := List.getElem_set_ne (fun h => hne h.symm) _
theorem get_set_eq {α : Type} {l : List α} {k : Nat} {x : α} (hi : k < (l.set k x).length) : (l.set k x)[k] = x := by simp

/-- A page that was over already. -/
theorem Fill.over {w wr : World} {B K gf n k : Nat} {S : Nat → Prop} {V : Value} {nx : Int} {qs : List Pg} {fl : List Bool} (h : Fill w wr B K gf n S V nx k qs fl) (hS : ∀ i, S i → i ≠ gf) (hk : k < n) (hq : k < qs.length) (hst : qs[k].st = 2) :
    Fill w (wr.setCell ⟨gf, k, none⟩ (.bool false)) B K gf n S V nx (k + 1) qs (fl.set k false) := by
  refine ⟨h.len, h.book.keep (keep_flag wr gf k false) hS, flag_row h.row hk false, fun i hi hf hlt => ?_, fun i hi hle => h.rest i hi (by omega), h.keep.setCell (fun hlt hz => ?_) _⟩
  · have hf0 : i < fl.length := by simpa using hf
    by_cases e : i = k
    · subst e
      exact .inr ⟨hst, get_set_eq hf⟩
    · rw [get_set_ne hf e]
      exact h.done i hi hf0 (by omega)
  · have := (own_lt h.row (g := gf) rfl).1
    have e : gf < w.heap.size := hlt
    omega
/-- A page is written over. -/
theorem Fill.over0 {w wr w3 : World} {B K gf g c n k : Nat} {S : Nat → Prop} {nx : Int} {qs : List Pg} {fl : List Bool} (h : Fill w wr B K gf n S (.slice (some ⟨g, 0, none⟩) n c) nx k qs fl) (hS : ∀ i, S i → i ≠ gf) (hk : k < n) (hq : k < qs.length) (hst : qs[k].st = 0)
    (ho : w3.ownsRow B 5 1 qs[k].b qs[k].now.length (Lib.byteCells (pats qs[k].id qs[k].now.length))) (hk3 : Keep (fun i => qs[k].b.ownBlock ≠ some i) (wr.setCell ⟨gf, k, none⟩ (.bool true)) w3) :
    Fill w (w3.setCell ⟨g, k * 5 + 4, none⟩ (.bool true)) B K gf n S (.slice (some ⟨g, 0, none⟩) n c) nx (k + 1) (qs.set k { qs[k] with st := 1, now := pats qs[k].id qs[k].now.length }) (fl.set k true) := by
  have hb2 := h.book.keep (keep_flag wr gf k true) hS
  have hrow2 := flag_row h.row hk true
  have hmem := List.getElem_mem hq
  have hgV : (Value.slice (some ⟨g, 0, none⟩) n c).ownBlock = some g := rfl
  have hpg : qs[k].b.ownBlock ≠ some g := fun e => own_ne_own hb2.row (hb2.pages _ hmem).own (by decide) hgV e
  have hSp : ∀ i, qs[k].b.ownBlock = some i → S i := fun i e => h.book.inP _ hmem i (.inl e)
  have hbf : qs[k].b.ownBlock ≠ some gf := fun e => hS gf (hSp gf e) rfl
  have hggf : g ≠ gf := hS g (h.book.inV g hgV)
  have hq1 : Pg.ok (w3.setCell ⟨g, k * 5 + 4, none⟩ (.bool true)) B { qs[k] with st := 1, now := pats qs[k].id qs[k].now.length } := by
    have hp := hb2.pages _ hmem
    refine ⟨?_, ?_, hp.idl, hp.idh, by simp, fun h => by simp at h, fun _ => ?_, fun h => by simp at h⟩
    · show (w3.setCell ⟨g, k * 5 + 4, none⟩ (.bool true)).ownsRow B _ 1 qs[k].b (pats qs[k].id qs[k].now.length).length _
      rw [pats_len]
      exact own_far ho hpg _
    · show (pats qs[k].id qs[k].now.length).length ≤ _
      rw [pats_len]
      exact hp.len
    · show pats qs[k].id qs[k].now.length = pats qs[k].id (pats qs[k].id qs[k].now.length).length
      rw [pats_len]
  have hkk : Keep (fun i => (Value.slice (some ⟨g, 0, none⟩) n c).ownBlock ≠ some i ∧ ¬ qs[k].blk i) (wr.setCell ⟨gf, k, none⟩ (.bool true)) (w3.setCell ⟨g, k * 5 + 4, none⟩ (.bool true)) :=
    (hk3.weaken (fun i _ hi e => hi.2 (.inl e))).setCell (fun _ hi => hi.1 rfl) _
  have hrow : (w3.setCell ⟨g, k * 5 + 4, none⟩ (.bool true)).ownsRow B 81 5 (.slice (some ⟨g, 0, none⟩) n c) qs.length (pcells (qs.set k { qs[k] with st := 1, now := pats qs[k].id qs[k].now.length })) := by
    have h1 := own_keep hb2.row hk3 (fun i e e2 => by
      rw [hgV] at e
      injection e with e
      exact hpg (e ▸ e2))
    have h2 := own_set h1 hgV (i := k * 5 + 4) (by omega) (.bool true)
    rwa [show (pcells qs).set (k * 5 + 4) (.bool true) = pcells (qs.set k { qs[k] with st := 1, now := pats qs[k].id qs[k].now.length }) from rcells_set pg_five qs k hq 4 (.bool true) _ (by omega) rfl] at h2
  refine ⟨by simpa using h.len, hb2.turn hq hq1 hrow hkk (fun i e => ?_) (fun _ h => h) (fun i e => ?_), ?_, fun i hi hf hlt => ?_, fun i hi hle => ?_, ?_⟩
  · rcases e with e | ⟨e1, e⟩ | ⟨e1, e⟩
    · exact .inl (.inl e)
    · simp at e1
    · simp at e1
  · rcases e with e | ⟨e1, e⟩ | ⟨e1, e⟩
    · exact hSp i e
    · simp at e1
    · simp at e1
  · refine own_keep hrow2 hkk (fun i e => ?_)
    simp only [Value.ownBlock, Option.map_some] at e
    injection e with e
    subst e
    refine ⟨fun e2 => ?_, fun e2 => hS gf (h.book.inP _ hmem gf e2) rfl⟩
    rw [hgV] at e2
    injection e2 with e2
    exact hggf e2
  · have hi0 : i < qs.length := by simpa using hi
    have hf0 : i < fl.length := by simpa using hf
    by_cases e : i = k
    · subst e
      rw [get_set_eq hi, get_set_eq hf]
      exact .inl ⟨rfl, rfl⟩
    · rw [get_set_ne hi e, get_set_ne hf e]
      exact h.done i hi0 hf0 (by omega)
  · have hi0 : i < qs.length := by simpa using hi
    rw [get_set_ne hi (by omega)]
    exact h.rest i hi0 (by omega)
  · refine (h.keep.comp (keep_flag wr gf k true) (fun _ _ h => h) (fun i hi _ e => ?_)).comp hkk (fun _ _ h => h) (fun i hi hz => ⟨fun e => hz (h.book.inV i e), fun e => hz (h.book.inP _ hmem i e)⟩)
    have := (own_lt h.row (g := gf) rfl).1
    omega

theorem Grow.skip {w wr : World} {B K gf n k : Nat} {S : Nat → Prop} {V : Value} {nx : Int} {qs : List Pg} {fl : List Bool} (h : Grow w wr B K gf n S V nx k qs fl) (hq : k < qs.length) (hst : qs[k].st = 2) : Grow w wr B K gf n S V nx (k + 1) qs fl := by
  refine ⟨h.len, h.book, h.row, fun i hi hlt => ?_, fun i hi hf hle => h.rest i hi hf (by omega), h.keep⟩
  by_cases e : i = k
  · subst e; exact hst
  · exact h.done i hi (by omega)
/-- A page is made longer. -/
theorem Grow.long {w wr w3 : World} {B K gf g c n k : Nat} {S : Nat → Prop} {nx : Int} {qs : List Pg} {fl : List Bool} {G : Value} (h : Grow w wr B K gf n S (.slice (some ⟨g, 0, none⟩) n c) nx k qs fl) (hS : ∀ i, S i → i < w.heap.size) (hk : k < n) (hq : k < qs.length) (hst : qs[k].st = 1)
    (ho : w3.ownsRow B 5 1 qs[k].b qs[k].now.length (Lib.byteCells qs[k].now)) (hG : w3.ownsRow B 5 1 G (qs[k].now.length + 64) (Lib.byteCells (qs[k].now ++ pats (qs[k].id + 100000) 64)))
    (hk3 : Keep (fun i => qs[k].b.ownBlock ≠ some i) wr w3) (hnG : Next wr.heap.size qs[k].b G) :
    Grow w (w3.setCell ⟨g, k * 5 + 1, none⟩ G) B K gf n S (.slice (some ⟨g, 0, none⟩) n c) nx (k + 1) (qs.set k { qs[k] with g := G, st := 2 }) fl := by
  have hmem := List.getElem_mem hq
  have hgV : (Value.slice (some ⟨g, 0, none⟩) n c).ownBlock = some g := rfl
  have hb := h.book
  have hp := hb.pages _ hmem
  have hpg : qs[k].b.ownBlock ≠ some g := fun e => own_ne_own hb.row hp.own (by decide) hgV e
  have hrow3 := own_keep hb.row hk3 (fun i e e2 => by
    rw [hgV] at e
    injection e with e
    exact hpg (e ▸ e2))
  have hGg : G.ownBlock ≠ some g := fun e => own_ne_own hrow3 hG (by decide) hgV e
  have hflag3 := own_keep h.row hk3 (fun i e e2 => own_ne_own h.row hp.own (by decide) e e2)
  have hgf : (Value.slice (some ⟨gf, 0, none⟩) n n).ownBlock ≠ some g := own_ne_own hrow3 hflag3 (by decide) hgV
  have hq1 : Pg.ok (w3.setCell ⟨g, k * 5 + 1, none⟩ G) B { qs[k] with g := G, st := 2 } :=
    ⟨own_far ho hpg _, hp.len, hp.idl, hp.idh, by simp, fun h => by simp at h, fun _ => hp.full (by omega), fun _ => own_far hG hGg _⟩
  have hkk : Keep (fun i => (Value.slice (some ⟨g, 0, none⟩) n c).ownBlock ≠ some i ∧ ¬ qs[k].blk i) wr (w3.setCell ⟨g, k * 5 + 1, none⟩ G) :=
    (hk3.weaken (fun i _ hi e => hi.2 (.inl e))).setCell (fun _ hi => hi.1 rfl) _
  have hrow : (w3.setCell ⟨g, k * 5 + 1, none⟩ G).ownsRow B 81 5 (.slice (some ⟨g, 0, none⟩) n c) qs.length (pcells (qs.set k { qs[k] with g := G, st := 2 })) := by
    have h2 := own_set hrow3 hgV (i := k * 5 + 1) (by omega) G
    have hd : qs[k].done = true := by simp [Pg.done, hst]
    rwa [show (pcells qs).set (k * 5 + 1) G = pcells (qs.set k { qs[k] with g := G, st := 2 }) from rcells_set pg_five qs k hq 1 G _ (by omega) (by simp [Pg.cells, Pg.done, hst])] at h2
  have hnew : ∀ i, Pg.blk { qs[k] with g := G, st := 2 } i → qs[k].blk i ∨ wr.heap.size ≤ i := fun i e => by
    rcases e with e | ⟨e1, e⟩ | ⟨e1, e⟩
    · exact .inl (.inl e)
    · simp at e1
    · rcases hnG with e2 | ⟨j, e2, hj⟩
      · exact .inl (.inl (e2.symm.trans e))
      · have e3 : G.ownBlock = some i := e
        rw [e2] at e3
        injection e3 with e3
        exact .inr (by omega)
  refine ⟨by simpa using h.len, hb.turn hq hq1 hrow hkk hnew (fun _ h => h) (fun i e => ?_), own_far hflag3 hgf _, fun i hi hlt => ?_, fun i hi hf hle => ?_, ?_⟩
  · rcases hnew i e with e | e
    · exact hb.inP _ hmem i e
    · exact .inr (Nat.le_trans h.keep.size e)
  · by_cases e : i = k
    · subst e
      rw [get_set_eq hi]
    · rw [get_set_ne hi e]
      exact h.done i (by simpa using hi) (by omega)
  · rw [get_set_ne hi (by omega)]
    exact h.rest i (by simpa using hi) hf (by omega)
  · refine h.keep.comp hkk (fun _ _ h => h) (fun i hi hz => ⟨fun e => ?_, fun e => ?_⟩)
    · rcases hb.inV i e with e | e
      · exact hz e
      · omega
    · rcases hb.inP _ hmem i e with e | e
      · exact hz e
      · omega
theorem Fill.grow {w wr : World} {B K gf n : Nat} {S : Nat → Prop} {V : Value} {nx : Int} {qs : List Pg} {fl : List Bool} (h : Fill w wr B K gf n S V nx n qs fl) : Grow w wr B K gf n S V nx 0 qs fl :=
  ⟨h.len, h.book.weaken fun _ h => .inl h, h.row, fun i _ h => by omega, fun i hi hf _ => h.done i hi hf (by have := h.len; omega), h.keep⟩

set_option maxRecDepth 20000 in
set_option maxHeartbeats 2000000 in
theorem settle_any (B K : Nat) (S : Nat → Prop) (w : World) (h : BookOk w B K S) (hB : B ≤ w.heap.size) :
    Calls Tryd.prog 18 #[.pointer (some ⟨K, 0, none⟩)] w fun e w' => e = .returned (.bool true) ∧ BookOk w' B K (fun k => S k ∨ (w.heap.size ≤ k ∧ k < w'.heap.size)) ∧ Keep (fun k => ¬ S k) w w' := by
  have HI := Lib.hid (intact_any B K S w h)
  obtain ⟨V, nx, ps, h, hst⟩ := h
  obtain ⟨T, hT⟩ : ∃ T : Nat → Prop, T = fun k => S k ∧ k < w.heap.size := ⟨_, rfl⟩
  have ht := h.tight
  rw [← hT] at ht
  obtain ⟨A, c, rfl⟩ := own_form0 h.row
  obtain ⟨n, hn⟩ : ∃ n, n = ps.length := ⟨_, rfl⟩
  have hn96 := h.len
  rw [← hn] at ht hn96
  have HB := Lib.hid (And.intro ht (And.intro hst (And.intro hB (And.intro hT hn))))
  have x0 := ht.blk.cell 0
  have x1 := ht.blk.cell 1
  simp at x0 x1
  have X := Lib.hid (And.intro x0 x1)
  clear h hst ht hB hT hn x0 x1
  go_enter Tryd.func18, Tryd.ntmps18
  go_wp2_with fail
  refine HI.out.mono ?_
  rintro e w1 ⟨rfl, hf1⟩
  have y0 := hf1.cellAt X.out.1 trivial
  have HF1 := Lib.hid hf1
  clear hf1 HI
  have hw1 : Hid (w1.heap.size ≤ w1.heap.size) := Nat.le_refl _
  go_wp2_with (at_make; refine wpList_makeN etBool rfl rfl (.tmp 16) (.tmp 16) rfl w1.heap.size .i64 .i64 _ _ n n rfl rfl rfl rfl (Nat.le_refl _) ?_ hw1.out ?_)
  case refine_1 => omega
  intro w2 ho2 hk2 hs2
  obtain ⟨gf, hgf⟩ : ∃ gf, gf = w1.heap.size := ⟨_, rfl⟩
  simp only [← hgf] at ho2 ⊢
  have HL0 : Hid (Fill w w2 B K gf n T (.slice A n c) nx 0 ps (List.replicate n false)) := by
    obtain ⟨ht, hst, hB, hT, hn⟩ := HB.out
    have hf1 := HF1.out
    refine ⟨hn.symm, ht.keep (hf1.trans hk2) (fun _ _ => trivial), ?_, fun i _ _ h => by omega, fun i hi _ => hst _ (List.getElem_mem hi), (hf1.trans hk2).weaken (fun _ _ _ => trivial)⟩
    have h0 := own_base ho2 (base' := w.heap.size) (by have := hf1.size; omega)
    have e : bools (List.replicate n false) = List.replicate n (.bool false) := by simp [bools]
    rw [e]
    exact h0
  have HS : Hid ((∀ i, T i → i ≠ gf) ∧ (∀ i, T i → i < w.heap.size)) := by
    obtain ⟨ht, hst, hB, hT, hn⟩ := HB.out
    have := HF1.out.size
    rw [hT]
    exact ⟨fun i hi => by have := hi.2; omega, fun i hi => hi.2⟩
  clear ho2 hk2 hs2 hgf hw1 y0
  go_wp2
  go_loopw [4] (fun i wr => ∃ (k : Nat) (qs : List Pg) (fl : List Bool), k ≤ n ∧ i = .int .i64 (k : Int) ∧ Hid (Fill w wr B K gf n T (.slice A n c) nx k qs fl)) (fun i _ => n - (intOf i).toNat)
  case atStart => exact ⟨0, _, _, Nat.zero_le _, rfl, HL0.out⟩
  case round =>
    obtain ⟨k, qs, fl, hk, rfl, HL⟩ := hrel
    have hbk := HL.out.book.blk
    have y0 := hbk.cell 0
    have y1 := hbk.cell 1
    have hKlt := hbk.lt
    simp at y0 y1
    clear hbk
    by_cases hlt : k < n
    · have hq : k < qs.length := by have := HL.out.len; omega
      obtain ⟨g, c2, hV, hg, hat, -, hTg⟩ := HL.out.book.at hq
      injection hV with hV1 hVn hV3
      subst hV1 hV3
      clear hVn
      obtain ⟨uf, huf⟩ := own_has HL.out.row (g := gf) (j := k) rfl (by omega)
      have hff := own_frozen HL.out.row (g := gf) k rfl
      have hgfl := (own_lt HL.out.row (g := gf) rfl).2
      have hKgf : K ≠ gf := HS.out.1 K HL.out.book.inK
      have hggf : g ≠ gf := HS.out.1 g hTg
      have c4 := hat.c4
      have hst : qs[k].st = 0 ∨ qs[k].st = 2 := by
        have h1 := HL.out.rest k hq (Nat.le_refl _)
        have h2 := (HL.out.book.pages _ (List.getElem_mem hq)).stl
        omega
      rcases hst with hst | hst
      · rw [show qs[k].done = false by simp [Pg.done, hst]] at c4
        have hb2 := HL.out.book.keep (keep_flag wr gf k true) HS.out.1
        obtain ⟨g', c2', hV', hg', hat', hne', -⟩ := hb2.at hq
        obtain rfl : g = g' := by simpa [Value.ownBlock] using congrArg Value.ownBlock hV'
        clear hV'
        have hp2 := hb2.pages _ (List.getElem_mem hq)
        obtain ⟨p, hp⟩ : ∃ p, p = qs[k] := ⟨_, rfl⟩
        have HC := fill_any qs[k] B g (k * 5) _ hat' hp2.own hp2.len hne'
        rw [← hp] at HC
        replace HC := Lib.hid HC
        have z0 := hb2.blk.cell 0
        simp only [List.getElem?_toArray, List.getElem?_cons_zero] at z0
        have HQ : Hid (∃ hq : k < qs.length, qs[k].st = 0 ∧ p = qs[k]) := ⟨hq, hst, hp⟩
        clear hat hTg hb2 hg' hat' hne' hp2 hst hp
        clear hq
        go_wp2_with fail
        refine HC.out.mono ?_
        rintro e w3' ⟨rfl, w3, rfl, ho3, hk3⟩
        obtain ⟨hq, hst, hp⟩ := HQ.out
        rw [hp] at ho3 hk3
        have HN := Lib.hid (HL.out.over0 HS.out.1 hlt hq hst ho3 hk3)
        clear ho3 hk3 hp hst HC c4 huf hff hKgf hggf hKlt y0 y1 z0 HL hgfl hg
        go_wp2
        exact ⟨⟨k + 1, _, _, by omega, congrArg _ (by omega), HN.out⟩, by simp [intOf]; omega⟩
      · rw [show qs[k].done = true by simp [Pg.done, hst]] at c4
        have hb2 := HL.out.book.keep (keep_flag wr gf k false) HS.out.1
        have z0 := hb2.blk.cell 0
        simp only [List.getElem?_toArray, List.getElem?_cons_zero] at z0
        have HN := Lib.hid (HL.out.over HS.out.1 hlt hq hst)
        clear hat hTg hb2 hst HL hg
        clear hq
        go_wp2
        exact ⟨⟨k + 1, _, _, by omega, congrArg _ (by omega), HN.out⟩, by simp [intOf]; omega⟩
    · obtain rfl : k = n := by omega
      have HG0 := Lib.hid HL.out.grow
      have hw1 : Hid (wr.heap.size ≤ wr.heap.size) := Nat.le_refl _
      clear HL
      go_wp2_with (at_make; refine wpList_makeN etBool rfl rfl (.tmp 54) (.tmp 54) rfl wr.heap.size .i64 .i64 _ _ 0 0 rfl rfl rfl rfl (Nat.le_refl _) ?_ hw1.out ?_)
      case refine_1 => omega
      intro wl ho2 hk2 hs2
      have HG : Hid (Grow w wl B K gf k T (.slice A k c) nx 0 qs fl) := by
        have h0 := HG0.out
        exact ⟨h0.len, h0.book.keep hk2 (fun _ _ => trivial), own_keep h0.row hk2 (fun _ _ => trivial), h0.done, h0.rest, h0.keep.comp hk2 (fun _ _ h => h) (fun _ _ _ => trivial)⟩
      have z0 := hk2.cellAt y0 trivial
      have z1 := hk2.cellAt y1 trivial
      clear ho2 hk2 hs2 hw1 HG0 y0 y1 hKlt
      go_wp2
      go_loopw [6] (fun i wr2 => i = .int .i64 0 ∧ wr2 = wl) (fun i _ => 0)
      case atStart => exact ⟨rfl, rfl⟩
      case round =>
        obtain ⟨rfl, rfl⟩ := hrel
        go_wp2
        go_loopw [7] (fun i wr => ∃ (k2 : Nat) (qs : List Pg), k2 ≤ k ∧ i = .int .i64 (k2 : Int) ∧ Hid (Grow w wr B K gf k T (.slice A k c) nx k2 qs fl)) (fun i _ => k - (intOf i).toNat)
        case atStart => exact ⟨0, _, Nat.zero_le _, rfl, HG.out⟩
        case round =>
          obtain ⟨k2, qs2, hk2, rfl, HL⟩ := hrel
          have hbk := HL.out.book.blk
          have y0 := hbk.cell 0
          have y1 := hbk.cell 1
          have hKlt := hbk.lt
          simp at y0 y1
          clear hbk
          by_cases hlt2 : k2 < k
          · have hq : k2 < qs2.length := by have := HL.out.len; omega
            have hf : k2 < fl.length := by rw [bools_len HL.out.row]; exact hlt2
            obtain ⟨g, c2, hV, hg, hat, hne, -⟩ := HL.out.book.at hq
            injection hV with hV1 hVn hV3
            subst hV1 hV3
            clear hVn
            have huf := own_cell HL.out.row (g := gf) rfl (bools_get hf)
            have hgfl := (own_lt HL.out.row (g := gf) rfl).2
            have hp2 := HL.out.book.pages _ (List.getElem_mem hq)
            rcases HL.out.rest k2 hq hf (Nat.le_refl _) with ⟨hst, hfl⟩ | ⟨hst, hfl⟩
            · rw [hfl] at huf
              obtain ⟨p, hp⟩ : ∃ p, p = qs2[k2] := ⟨_, rfl⟩
              have HC := grow_any qs2[k2] B g (k2 * 5) wr hat hp2.own hp2.len hp2.idl hp2.idh hne (Nat.le_trans HB.out.2.2.1 HL.out.keep.size)
              rw [← hp] at HC
              replace HC := Lib.hid HC
              have HQ : Hid (qs2[k2].st = 1 ∧ p = qs2[k2]) := ⟨hst, hp⟩
              clear hat hne hp2 hst hfl hp
              go_wp2_with fail
              refine HC.out.mono ?_
              rintro e w3' ⟨rfl, w3, G, rfl, ho3, hG3, hk3, hnG⟩
              obtain ⟨hst, hp⟩ := HQ.out
              rw [hp] at ho3 hG3 hk3 hnG
              have HN := Lib.hid (HL.out.long HS.out.2 hlt2 hq hst ho3 hG3 hk3 hnG)
              clear ho3 hG3 hk3 hnG hp hst HC huf hgfl hKlt y0 y1 HL hg
              go_wp2
              exact ⟨⟨k2 + 1, _, by omega, congrArg _ (by omega), HN.out⟩, by simp [intOf]; omega⟩
            · rw [hfl] at huf
              have HN := Lib.hid (HL.out.skip hq hst)
              clear hat hne hp2 hst hfl HL hg
              go_wp2
              exact ⟨⟨k2 + 1, _, by omega, congrArg _ (by omega), HN.out⟩, by simp [intOf]; omega⟩
          · obtain rfl : k2 = k := by omega
            have hall : ∀ p ∈ qs2, p.st ≠ 1 := by
              intro p hp
              obtain ⟨j, hj, rfl⟩ := List.getElem_of_mem hp
              have := HL.out.done j hj (by have := HL.out.len; omega)
              omega
            have HI2 := Lib.hid (intact_any B K _ wr ⟨_, _, _, HL.out.book, hall⟩)
            replace hall := Lib.hid hall
            go_wp2
            go_loopw [8] (fun i wr2 => i = .int .i64 0 ∧ wr2 = wr) (fun i _ => 0)
            case atStart => exact ⟨rfl, rfl⟩
            case round =>
              obtain ⟨rfl, rfl⟩ := hrel
              go_wp2_with fail
              refine HI2.out.mono ?_
              rintro e w9 ⟨rfl, hf9⟩
              go_wp2
              go_ret
              obtain ⟨-, -, -, hT, -⟩ := HB.out
              have hb9 := (HL.out.book.keep hf9 (fun _ _ => trivial)).tight
              refine ⟨rfl, ⟨_, _, _, hb9.weaken (fun i hi => ?_), hall.out⟩, (HL.out.keep.comp hf9 (fun _ _ h => h) (fun _ _ _ => trivial)).weaken (fun i _ hi e => ?_)⟩
              · rcases hi.1 with h1 | h1
                · rw [hT] at h1; exact .inl h1.1
                · exact .inr ⟨h1, hi.2⟩
              · rw [hT] at e; exact hi e.1
end Go.Proofs.YtkgbhanpenpkmaaDoor
