/-
  MERGED: DPassP DMach DKey DTake
-/
import Derived.Test.YtioinjcdkmiafaaDoorYA7
import Derived.Test.YtioinjcdkmiafaaDoorYC4
import Derived.Test.YtioinjcdkmiafaaDoorYB7
namespace Go.Proofs.YtioinjcdkmiafaaDoor
set_option linter.unusedVariables false
set_option linter.unusedSimpArgs false

section
variable {α : Type} {key : α → Txt}
theorem rise_idx {l : List α} (hr : Rise (l.map key)) {i j : Nat} (hi : i < l.length) (hj : j < l.length) (h : key l[i] = key l[j]) : i = j := by
  have hp := List.pairwise_iff_getElem.1 hr
  rcases Nat.lt_trichotomy i j with hlt | he | hgt
  · have h1 := before_ne (hp i j (by simpa using hi) (by simpa using hj) hlt)
    simp only [List.getElem_map] at h1
    exact absurd h h1
  · exact he
  · have h1 := before_ne (hp j i (by simpa using hj) (by simpa using hi) hgt)
    simp only [List.getElem_map] at h1
    exact absurd h.symm h1
theorem setK_at {l : List α} (hr : Rise (l.map key)) {i : Nat} (hi : i < l.length) {x : α} (hx : key x = key l[i]) : setK key x l = l.set i x := by
  refine List.ext_getElem (by rw [setK_len, List.length_set]) fun n h1 h2 => ?_
  have hn : n < l.length := by rwa [setK_len] at h1
  have e0 : (setK key x l)[n] = if key l[n] == key x then x else l[n] := by simp [setK]
  rw [e0, List.getElem_set]
  by_cases e : i = n
  · subst e
    rw [if_pos rfl, if_pos (by rw [hx]; simp)]
  · rw [if_neg e, if_neg]
    intro h
    have h3 : key l[n] = key x := by simpa using h
    exact e (rise_idx hr hi hn (by rw [h3, hx]))
theorem delK_at {l : List α} (hr : Rise (l.map key)) {i : Nat} (hi : i < l.length) : delK key (key l[i]) l = l.eraseIdx i := by
  rw [List.eraseIdx_eq_take_drop_succ]
  unfold delK
  have e : l = l.take i ++ l[i] :: l.drop (i + 1) := by rw [← List.drop_eq_getElem_cons hi, List.take_append_drop]
  have h1 : (l.take i).filter (fun x => !(key x == key l[i])) = l.take i := List.filter_eq_self.2 fun x hx => by
    obtain ⟨n, hn, rfl⟩ := List.getElem_of_mem hx
    have hni : n < i := by rw [List.length_take] at hn; omega
    rw [List.getElem_take]
    have : key l[n] ≠ key l[i] := fun e => by have := rise_idx hr (by omega) hi e; omega
    simpa using this
  have h2 : (l.drop (i + 1)).filter (fun x => !(key x == key l[i])) = l.drop (i + 1) := List.filter_eq_self.2 fun x hx => by
    obtain ⟨n, hn, rfl⟩ := List.getElem_of_mem hx
    rw [List.length_drop] at hn
    rw [List.getElem_drop]
    have : key l[i + 1 + n] ≠ key l[i] := fun e => by have := rise_idx hr (by omega) hi e; omega
    simpa using this
  obtain ⟨k, hk⟩ : ∃ k, k = key l[i] := ⟨_, rfl⟩
  rw [← hk] at h1 h2 ⊢
  have h3 : l.filter (fun x => !(key x == k)) = (l.take i ++ l[i] :: l.drop (i + 1)).filter (fun x => !(key x == k)) := congrArg _ e
  rw [h3, List.filter_append, List.filter_cons, h1, h2, if_neg (by simp [hk])]
theorem erase_skip {l : List α} {i : Nat} (hi : i < l.length) : (l.take (i + 1)).eraseIdx i = (l.take i).eraseIdx i := by
  rw [List.eraseIdx_of_length_le (l := l.take i) (by rw [List.length_take]; omega), List.take_succ_eq_append_getElem hi, List.eraseIdx_append_of_length_le (by rw [List.length_take]; omega)]
  rw [List.length_take, Nat.min_eq_left (by omega), Nat.sub_self]
  simp
theorem erase_step {l : List α} {i j : Nat} (hj : j < l.length) (h : j ≠ i) : (l.take (j + 1)).eraseIdx i = (l.take j).eraseIdx i ++ [l[j]] := by
  rw [List.take_succ_eq_append_getElem hj]
  by_cases hij : i < j
  · rw [List.eraseIdx_append_of_lt_length (by rw [List.length_take]; omega)]
  · rw [List.eraseIdx_of_length_le (l := l.take j) (by rw [List.length_take]; omega), List.eraseIdx_of_length_le (by rw [List.length_append, List.length_take]; simp; omega)]
end
/-- What a passing on makes of the lock at a place. -/
theorem pass_at {s : StD} (hr : Rise (s.locks.map LockD.name)) {i : Nat} (hi : i < s.locks.length) :
    passD s.locks[i].name s = match s.locks[i].queue with
      | [] => (0, { s with locks := s.locks.eraseIdx i })
      | c :: q => if 99999999 ≤ s.tok then (0, { s with locks := s.locks.eraseIdx i }) else (s.tok + 1, { s with locks := s.locks.set i ⟨s.locks[i].name, c, s.tok + 1, q⟩, tok := s.tok + 1 }) := by
  have hf : lfind s.locks[i].name s.locks = some s.locks[i] := findK_of hr (List.getElem_mem hi) rfl
  unfold passD
  rw [hf]
  simp only
  rw [delK_at hr hi]
  cases s.locks[i].queue with
  | nil => rfl
  | cons c q =>
    simp only
    rw [setK_at (key := LockD.name) hr hi (x := ⟨s.locks[i].name, c, s.tok + 1, q⟩) rfl]
end Go.Proofs.YtioinjcdkmiafaaDoor
namespace Go.Proofs.YtioinjcdkmiafaaDoor
set_option linter.unusedVariables false
set_option linter.unusedSimpArgs false
open Go.RowKit

/-- A lock that is held, and its queue's slice. -/
structure DLk where
  d : LockD
  q : Value
def DLk.cells (x : DLk) : List Value := [str x.d.name, .int .i64 x.d.holder, .int .i64 x.d.token, x.q]
theorem dlk_four : ∀ x : DLk, x.cells.length = 4 := fun _ => rfl
def askC (z : SesD) : List Value := [.bool (decide (0 < z.inc)), .int .i64 z.inc, .int .i64 z.req, .int .i64 z.last.code, str z.last.val, .int .i64 z.last.n]
theorem ask_six : ∀ z : SesD, (askC z).length = 6 := fun _ => rfl
def dcells (pv hv : Value) (tok : Int) (ss : List SesD) : List Value := pv :: hv :: .int .i64 tok :: rcells askC ss
/-- The machine d, its lists pv and hv, its locks hs; F: its blocks. -/
structure DAt (B : Nat) (F : Nat → Prop) (w : World) (d : Nat) (pv hv : Value) (hs : List DLk) (s : StD) : Prop where
  blk : Blk w d 107 (dcells pv hv s.tok s.ss).toArray
  pr : w.ownsRow B 109 2 pv s.pairs.length (pcells s.pairs)
  lk : w.ownsRow B 111 4 hv s.locks.length (rcells DLk.cells hs)
  ds : hs.map DLk.d = s.locks
  qs : ∀ x ∈ hs, w.ownsRow B 3 1 x.q x.d.queue.length (ics x.d.queue)
  ap : hs.Pairwise fun a b => ∀ k, a.q.ownBlock = some k → b.q.ownBlock ≠ some k
  fd : F d
  fp : ∀ k, pv.ownBlock = some k → F k
  fh : ∀ k, hv.ownBlock = some k → F k
  fq : ∀ x ∈ hs, ∀ k, x.q.ownBlock = some k → F k
section
variable {B : Nat} {F : Nat → Prop} {w w' : World} {d : Nat} {pv hv : Value} {hs : List DLk} {s : StD}
theorem DAt.keep {Z : Nat → Prop} (h : DAt B F w d pv hv hs s) (hk : Keep Z w w') (hz : ∀ k, F k → Z k) : DAt B F w' d pv hv hs s :=
  ⟨h.blk.keep hk (hz d h.fd), own_keep h.pr hk fun k hk => hz k (h.fp k hk), own_keep h.lk hk fun k hk => hz k (h.fh k hk), h.ds, fun x hx => own_keep (h.qs x hx) hk fun k hk => hz k (h.fq x hx k hk), h.ap, h.fd, h.fp, h.fh, h.fq⟩
theorem DAt.fresh (h : DAt B F w d pv hv hs s) (hk : Fresh w w') : DAt B F w' d pv hv hs s := h.keep hk fun _ _ => trivial
theorem DAt.hlen (h : DAt B F w d pv hv hs s) : hs.length = s.locks.length := by rw [← h.ds, List.length_map]
theorem DAt.three (h : DAt B F w d pv hv hs s) : w.cell? ⟨d, 0, none⟩ = some pv ∧ w.cell? ⟨d, 1, none⟩ = some hv ∧ w.cell? ⟨d, 2, none⟩ = some (.int .i64 s.tok) := ⟨h.blk.cell 0, h.blk.cell 1, h.blk.cell 2⟩
theorem DAt.ask (h : DAt B F w d pv hv hs s) {q : Nat} (hq : q < s.ss.length) (j : Nat) (hj : j < 6) : w.cell? ⟨d, 3 + q * 6 + j, none⟩ = (askC (s.ss.getD q noSes))[j]? := by
  rw [h.blk.cell]
  have e : s.ss.getD q noSes = s.ss[q] := by rw [List.getD_eq_getElem?_getD, List.getElem?_eq_getElem hq]; rfl
  rw [e, List.getElem?_toArray, show 3 + q * 6 + j = (q * 6 + j) + 1 + 1 + 1 by omega]
  unfold dcells
  rw [List.getElem?_cons_succ, List.getElem?_cons_succ, List.getElem?_cons_succ, rcells_get ask_six s.ss q hq j hj]
end

/-! ### places -/
section
variable {α : Type} {key : α → Txt}
def placeK (key : α → Txt) (k : Txt) (l : List α) : Int := match l.findIdx? fun x => key x == k with
  | some i => (i : Int)
  | none => -1
theorem placeK_none {k : Txt} {l : List α} (h : ∀ x ∈ l, key x ≠ k) : placeK key k l = -1 := by
  unfold placeK
  have : l.findIdx? (fun x => key x == k) = none := List.findIdx?_eq_none_iff.2 fun x hx => by simpa using h x hx
  rw [this]
theorem placeK_some {k : Txt} {l : List α} {i : Nat} (hi : i < l.length) (h : key l[i] = k) (hb : ∀ j (hj : j < i), key (l[j]'(by omega)) ≠ k) : placeK key k l = (i : Int) := by
  unfold placeK
  have : l.findIdx? (fun x => key x == k) = some i := by
    rw [List.findIdx?_eq_some_iff_getElem]
    exact ⟨hi, by simpa using h, fun j hj => by simpa using hb j hj⟩
  rw [this]
theorem placeK_find {k : Txt} {l : List α} {x : α} (h : findK key k l = some x) : ∃ (i : Nat) (hi : i < l.length), l[i] = x ∧ placeK key k l = (i : Int) := by
  unfold findK at h
  rw [List.find?_eq_some_iff_getElem] at h
  obtain ⟨h1, i, hi, h2, h3⟩ := h
  exact ⟨i, hi, h2, placeK_some hi (by rw [h2]; simpa using h1) fun j hj => by simpa using h3 j hj⟩
end
theorem Rd.pairE {w : World} {Z : Nat → Prop} {A : Option Addr} {n k : Nat} {ps : List (Txt × Txt)} (h : Rd w Z 2 A n (pcells ps)) (hk : k < n) :
    ∃ (hl : k < ps.length) (b o : Nat), A = some ⟨b, o, none⟩ ∧ Z b ∧ w.cell? ⟨b, o + k * 2, none⟩ = some (str ps[k].1) ∧ w.cell? ⟨b, o + k * 2 + 1, none⟩ = some (str ps[k].2) := by
  have hl : k < ps.length := by
    have := h.1
    rw [rcells_len (f := pairC) (c := 2) (fun _ => rfl)] at this
    omega
  obtain ⟨b, o, hA, hz, hc⟩ := h.2 (by omega)
  have hg : ∀ j u, j < 2 → (pairC ps[k])[j]? = some u → w.cell? ⟨b, o + k * 2 + j, none⟩ = some u := fun j u hj hu => by
    have := hc (k * 2 + j) u (by rw [rcells_get (f := pairC) (c := 2) (fun _ => rfl) ps k hl j hj]; exact hu)
    rwa [← Nat.add_assoc] at this
  exact ⟨hl, b, o, hA, hz, hg 0 _ (by omega) rfl, hg 1 _ (by omega) rfl⟩
theorem Rd.lockE {w : World} {Z : Nat → Prop} {A : Option Addr} {n k : Nat} {xs : List DLk} (h : Rd w Z 4 A n (rcells DLk.cells xs)) (hk : k < n) :
    ∃ (hl : k < xs.length) (b o : Nat), A = some ⟨b, o, none⟩ ∧ Z b ∧ w.cell? ⟨b, o + k * 4, none⟩ = some (str xs[k].d.name) ∧ w.cell? ⟨b, o + k * 4 + 1, none⟩ = some (.int .i64 xs[k].d.holder) ∧ w.cell? ⟨b, o + k * 4 + 2, none⟩ = some (.int .i64 xs[k].d.token) ∧ w.cell? ⟨b, o + k * 4 + 3, none⟩ = some xs[k].q := by
  have hl : k < xs.length := by
    have := h.1
    rw [rcells_len dlk_four] at this
    omega
  obtain ⟨b, o, hA, hz, hc⟩ := h.2 (by omega)
  have hg : ∀ j u, j < 4 → (xs[k].cells)[j]? = some u → w.cell? ⟨b, o + k * 4 + j, none⟩ = some u := fun j u hj hu => by
    have := hc (k * 4 + j) u (by rw [rcells_get dlk_four xs k hl j hj]; exact hu)
    rwa [← Nat.add_assoc] at this
  exact ⟨hl, b, o, hA, hz, hg 0 _ (by omega) rfl, hg 1 _ (by omega) rfl, hg 2 _ (by omega) rfl, hg 3 _ (by omega) rfl⟩
def placeI (q : List Int) (c : Int) : Int := if c ∈ q then (q.idxOf c : Int) + 1 else 0
set_option maxRecDepth 20000 in
theorem placeOf_any (Z : Nat → Prop) (A : Option Addr) (n c : Nat) (q : List Int) (x : Int) (w : World) (h : Rd w Z 1 A n (ics q)) (hn : n ≤ 1000000) :
    Calls Tryd.prog 43 #[.slice A n c, .int .i64 x] w fun e w' => e = .returned (.int .i64 (placeI q x)) ∧ w = w' := by
  have hl : q.length = n := by simpa [ics] using h.1
  obtain ⟨r, hr⟩ : ∃ r, r = placeI q x := ⟨_, rfl⟩
  rw [← hr]
  have HA := Lib.hid (And.intro h (And.intro hl hr))
  clear h hl hr
  go_enter Tryd.func43, Tryd.ntmps43
  go_wp2_with fail
  go_loop [5] (fun i => ∃ j : Nat, j ≤ n ∧ i = .int .i64 (j : Int) ∧ Hid (x ∉ q.take j)) (fun i => n - (intOf i).toNat)
  case atStart => exact ⟨0, by omega, rfl, Lib.hid (by simp)⟩
  case round =>
    obtain ⟨j, hj, rfl, HJ⟩ := hrel
    by_cases hlt : j < n
    · obtain ⟨b, o, rfl, -, hlk, e1⟩ := HA.out.1.intAt hlt
      obtain ⟨y, hy⟩ : ∃ y, y = q[j] := ⟨_, rfl⟩
      rw [← hy] at e1
      have HT : Hid (q.take (j + 1) = q.take j ++ [y]) := Lib.hid (by rw [List.take_succ_eq_append_getElem hlk, ← hy])
      have hji : (j : Int) < (n : Int) := by omega
      have hlb := lt_of_cell e1
      by_cases he : y = x
      · have HE : Hid (r = (j : Int) + 1) := Lib.hid (by
          rw [HA.out.2.2]
          unfold placeI
          have hm : x ∈ q := by rw [← he, hy]; exact List.getElem_mem hlk
          rw [if_pos hm]
          have h1 : q.idxOf x = j := by
            have e : q = q.take j ++ q.drop j := (List.take_append_drop j q).symm
            rw [e, List.idxOf_append, if_neg HJ.out, List.drop_eq_getElem_cons hlk, ← hy, he, List.idxOf_cons_self, List.length_take]
            omega
          rw [h1])
        subst he
        clear hy hlk
        go_wp2_with fail
        go_ret
        exact ⟨ret_int HE.out.symm, rfl⟩
      · have HN : Hid (x ∉ q.take (j + 1)) := Lib.hid (by
          rw [HT.out]
          simp only [List.mem_append, List.mem_singleton]
          rintro (h | h)
          · exact HJ.out h
          · exact he h.symm)
        clear hy hlk HT
        go_wp2_with fail
        go_round
        case rel => exact ⟨j + 1, by omega, by go_num, HN⟩
        case measure => simp [intOf]; omega
    · obtain rfl : n = j := by omega
      have HE : Hid (r = 0) := Lib.hid (by
        rw [HA.out.2.2]
        unfold placeI
        rw [if_neg]
        have := HJ.out
        rwa [List.take_of_length_le (by rw [HA.out.2.1]; exact Nat.le_refl _)] at this)
      go_wp2_with fail
      go_ret
      exact ⟨ret_int HE.out.symm, rfl⟩

/-! ### New -/
/-! ### Get -/
end Go.Proofs.YtioinjcdkmiafaaDoor
namespace Go.Proofs.YtioinjcdkmiafaaDoor
set_option linter.unusedVariables false
set_option linter.unusedSimpArgs false
open Go.RowKit

section
variable {α : Type} {key : α → Txt}
def inB (key : α → Txt) (x : α) (l : List α) : Bool := l.any fun z => bytesBefore (key x) (key z)
def insT (key : α → Txt) (x : α) (l : List α) : List α := if inB key x l = true then insK key x l else l
theorem insK_end {x : α} : ∀ {l : List α}, inB key x l = false → insK key x l = l ++ [x]
  | [], _ => rfl
  | y :: r, h => by
    unfold inB at h
    simp only [List.any_cons, Bool.or_eq_false_iff] at h
    unfold insK
    rw [if_neg (by simp [h.1]), insK_end (l := r) h.2]
    rfl
theorem insK_in {x : α} : ∀ {l : List α} (m : List α), inB key x l = true → insK key x (l ++ m) = insK key x l ++ m
  | [], _, h => by cases h
  | y :: r, m, h => by
    unfold inB at h
    simp only [List.any_cons, Bool.or_eq_true] at h
    show insK key x (y :: (r ++ m)) = insK key x (y :: r) ++ m
    unfold insK
    by_cases hb : bytesBefore (key x) (key y) = true
    · rw [if_pos hb, if_pos hb]
      rfl
    · rw [if_neg hb, if_neg hb, insK_in m (h.resolve_left hb)]
      rfl
theorem inB_snoc (x y : α) (l : List α) : inB key x (l ++ [y]) = (inB key x l || bytesBefore (key x) (key y)) := by simp [inB]
theorem insT_in {x y : α} {l : List α} (h : inB key x l = true) : insT key x (l ++ [y]) = insT key x l ++ [y] := by
  unfold insT
  rw [inB_snoc, h, Bool.true_or, if_pos rfl, if_pos rfl, insK_in [y] h]
theorem insK_now {x y : α} (hb : bytesBefore (key x) (key y) = true) : ∀ {l : List α}, inB key x l = false → insK key x (l ++ [y]) = l ++ [x] ++ [y]
  | [], _ => by
    show insK key x [y] = [x, y]
    unfold insK
    rw [if_pos hb]
  | z :: r, h => by
    unfold inB at h
    simp only [List.any_cons, Bool.or_eq_false_iff] at h
    show insK key x (z :: (r ++ [y])) = z :: (r ++ [x] ++ [y])
    unfold insK
    rw [if_neg (by simp [h.1]), insK_now hb h.2]
theorem insT_now {x y : α} {l : List α} (h : inB key x l = false) (hb : bytesBefore (key x) (key y) = true) : insT key x (l ++ [y]) = insT key x l ++ [x] ++ [y] := by
  have h1 : insT key x l = l := by unfold insT; rw [if_neg (by simp [h])]
  rw [h1]
  unfold insT
  rw [inB_snoc, h, hb, Bool.false_or, if_pos rfl, insK_now hb h]
theorem insT_out {x y : α} {l : List α} (h : inB key x l = false) (hb : bytesBefore (key x) (key y) = false) : insT key x (l ++ [y]) = insT key x l ++ [y] := by
  unfold insT
  rw [inB_snoc, h, hb, Bool.false_or, if_neg (by simp), if_neg (by simp)]
theorem insT_end {x : α} {l : List α} : insK key x l = if inB key x l = true then insT key x l else insT key x l ++ [x] := by
  unfold insT
  by_cases h : inB key x l = true
  · rw [if_pos h, if_pos h]
  · rw [if_neg h, if_neg h, insK_end (by simpa using h)]
end
theorem dcells_0 (pv hv pv' : Value) (tok : Int) (ss : List SesD) : (dcells pv hv tok ss).toArray.setIfInBounds 0 pv' = (dcells pv' hv tok ss).toArray := by simp [dcells]
theorem dcells_1 (pv hv hv' : Value) (tok : Int) (ss : List SesD) : (dcells pv hv tok ss).toArray.setIfInBounds 1 hv' = (dcells pv hv' tok ss).toArray := by simp [dcells]
theorem dcells_2 (pv hv : Value) (tok tok' : Int) (ss : List SesD) : (dcells pv hv tok ss).toArray.setIfInBounds 2 (.int .i64 tok') = (dcells pv hv tok' ss).toArray := by simp [dcells]
section
variable {B : Nat} {F : Nat → Prop} {w w2 : World} {d : Nat} {pv hv : Value} {hs : List DLk} {s : StD}
/-- Other pairs are stored. -/
theorem DAt.setPairs (h : DAt B F w d pv hv hs s) (hk : Fresh w w2) {B' : Nat} (hB : B ≤ B') {pv' : Value} {ps' : List (Txt × Txt)} (ho : w2.ownsRow B' 109 2 pv' ps'.length (pcells ps')) :
    DAt B (fun j => F j ∨ pv'.ownBlock = some j) (w2.setCell ⟨d, 0, none⟩ pv') d pv' hv hs { s with pairs := ps' } := by
  have hb := h.blk.keep hk trivial
  refine ⟨?_, ?_, ?_, h.ds, fun x hx => ?_, h.ap, .inl h.fd, fun k hk => .inr hk, fun k hk => .inl (h.fh k hk), fun x hx k hk => .inl (h.fq x hx k hk)⟩
  · have := hb.set 0 pv'
    rwa [dcells_0] at this
  · exact own_far (own_base ho hB) (p := ⟨d, 0, none⟩) (own_ne_blk ho hb (by decide)) _
  · have h1 := own_keep h.lk hk fun _ _ => trivial
    exact own_far h1 (p := ⟨d, 0, none⟩) (own_ne_blk h1 hb (by decide)) _
  · have h1 := own_keep (h.qs x hx) hk fun _ _ => trivial
    exact own_far h1 (p := ⟨d, 0, none⟩) (own_ne_blk h1 hb (by decide)) _
end
end Go.Proofs.YtioinjcdkmiafaaDoor
namespace Go.Proofs.YtioinjcdkmiafaaDoor
set_option linter.unusedVariables false
set_option linter.unusedSimpArgs false
open Go.RowKit

abbrev DLk.key (x : DLk) : Txt := x.d.name
theorem dlk_ins (x : DLk) : ∀ hs : List DLk, (insK DLk.key x hs).map DLk.d = insK LockD.name x.d (hs.map DLk.d)
  | [] => rfl
  | y :: r => by
    unfold insK
    by_cases h : bytesBefore (DLk.key x) (DLk.key y) = true
    · rw [if_pos h]
      show _ = if bytesBefore x.d.name y.d.name = true then _ else _
      rw [if_pos h]
      rfl
    · rw [if_neg h]
      show _ = if bytesBefore x.d.name y.d.name = true then _ else _
      rw [if_neg h, List.map_cons, dlk_ins x r]
theorem pair_ins {α : Type} {key : α → Txt} {R : α → α → Prop} {x : α} : ∀ {l : List α}, (∀ y ∈ l, R x y ∧ R y x) → l.Pairwise R → (insK key x l).Pairwise R
  | [], _, _ => by
    show [x].Pairwise R
    simp
  | y :: r, h, hp => by
    obtain ⟨h1, h2⟩ := List.pairwise_cons.1 hp
    unfold insK
    split
    · exact List.pairwise_cons.2 ⟨fun z hz => (h z hz).1, hp⟩
    · refine List.pairwise_cons.2 ⟨fun z hz => ?_, pair_ins (fun z hz => h z (by simp [hz])) h2⟩
      rcases insK_mem.1 hz with rfl | hz
      · exact (h y (by simp)).2
      · exact h1 z hz
theorem lock_info : (Tryd.prog.info? 111).map (fun i => (i.zero, i.size, i.bytes)) = some (some (.agg #[str [], .int .i64 0, .int .i64 0, .slice none 0 0]), 4, 56) := by kernel_rfl
theorem etLock : ET Tryd.prog 102 111 4 56 (.agg #[str [], .int .i64 0, .int .i64 0, .slice none 0 0]) := ⟨Tryd.underlying102, lock_info, rfl, by decide, by decide⟩
theorem lockA_one (a : Txt) (i j : Int) (q : Value) (h : q.oneCell' = true) : (#[str a, .int .i64 i, .int .i64 j, q] : Array Value).all (·.oneCell') = true := by
  simp [h, show (str a).oneCell' = true from rfl, show (Value.int IntKind.i64 i).oneCell' = true from rfl, show (Value.int IntKind.i64 j).oneCell' = true from rfl]
theorem lockL_one (a : Txt) (i j : Int) (q : Value) (h : q.oneCell' = true) : ∀ u ∈ (#[str a, .int .i64 i, .int .i64 j, q] : Array Value).toList, u.oneCell' = true := by
  intro u hu
  simp only [List.mem_cons, List.not_mem_nil, or_false] at hu
  rcases hu with rfl | rfl | rfl | rfl
  · rfl
  · rfl
  · rfl
  · exact h
section
variable {B : Nat} {F : Nat → Prop} {w w2 : World} {d : Nat} {pv hv : Value} {hs : List DLk} {s : StD}
/-- The counter of tokens is stored. -/
theorem DAt.setTok (h : DAt B F w d pv hv hs s) (t : Int) : DAt B F (w.setCell ⟨d, 2, none⟩ (.int .i64 t)) d pv hv hs { s with tok := t } := by
  refine ⟨?_, ?_, ?_, h.ds, fun x hx => ?_, h.ap, h.fd, h.fp, h.fh, h.fq⟩
  · have := h.blk.set 2 (.int .i64 t)
    rwa [dcells_2] at this
  · exact own_far h.pr (p := ⟨d, 2, none⟩) (own_ne_blk h.pr h.blk (by decide)) _
  · exact own_far h.lk (p := ⟨d, 2, none⟩) (own_ne_blk h.lk h.blk (by decide)) _
  · exact own_far (h.qs x hx) (p := ⟨d, 2, none⟩) (own_ne_blk (h.qs x hx) h.blk (by decide)) _
/-- Other locks are stored. -/
theorem DAt.setLocks (h : DAt B F w d pv hv hs s) (hk : Fresh w w2) {B' : Nat} (hB : B ≤ B') {hv' : Value} {hs' : List DLk} {ls' : List LockD} (ho : w2.ownsRow B' 111 4 hv' ls'.length (rcells DLk.cells hs')) (hd : hs'.map DLk.d = ls')
    (hq : ∀ x ∈ hs', w2.ownsRow B 3 1 x.q x.d.queue.length (ics x.d.queue)) (hap : hs'.Pairwise fun a b => ∀ k, a.q.ownBlock = some k → b.q.ownBlock ≠ some k) :
    DAt B (fun j => F j ∨ hv'.ownBlock = some j ∨ ∃ x ∈ hs', x.q.ownBlock = some j) (w2.setCell ⟨d, 1, none⟩ hv') d pv hv' hs' { s with locks := ls' } := by
  have hb := h.blk.keep hk trivial
  refine ⟨?_, ?_, ?_, hd, fun x hx => ?_, hap, .inl h.fd, fun k hk => .inl (h.fp k hk), fun k hk => .inr (.inl hk), fun x hx k hk => .inr (.inr ⟨x, hx, hk⟩)⟩
  · have := hb.set 1 hv'
    rwa [dcells_1] at this
  · have h1 := own_keep h.pr hk fun _ _ => trivial
    exact own_far h1 (p := ⟨d, 1, none⟩) (own_ne_blk h1 hb (by decide)) _
  · exact own_far (own_base ho hB) (p := ⟨d, 1, none⟩) (own_ne_blk ho hb (by decide)) _
  · exact own_far (hq x hx) (p := ⟨d, 1, none⟩) (own_ne_blk (hq x hx) hb (by decide)) _
theorem DAt.one (h : DAt B F w d pv hv hs s) {x : DLk} (hx : x ∈ hs) : x.q.oneCell' = true := by
  obtain ⟨_, _, e, -⟩ := own_rd (h.qs x hx)
  rw [e]
  rfl
end
end Go.Proofs.YtioinjcdkmiafaaDoor
