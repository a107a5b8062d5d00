/-
  MERGED: Row RepW
-/
import Derived.Test.YtioinjcdkmiafaaDoorYA0
import Derived.Deep.DeepAppendRoom
import Derived.Deep.RegionLaw
import Derived.Test.YtioinjcdkmiafaaDoorYA2
namespace Go.Proofs.YtioinjcdkmiafaaDoor
set_option linter.unusedVariables false
set_option linter.unusedSimpArgs false
open Go.RowKit
section
variable {w w' : World} {base : Nat} {e : TypeId} {size n m : Nat} {v : Value} {xs ys : List Value}
/-- A cell of an owned row is written. -/
theorem own_set (h : w.ownsRow base e size v n xs) {g i : Nat} (hg : v.ownBlock = some g) (hi : i < n * size) (u : Value) : (w.setCell ⟨g, i, none⟩ u).ownsRow base e size v n (xs.set i u) := by
  refine ⟨by rw [List.length_set]; exact h.1, ?_⟩
  rcases h.2 with ⟨rfl, _⟩ | ⟨g', cap, cur, rfl, hb, hh, hn, hm, hs, ht⟩
  · simp [Value.ownBlock] at hg
  · simp [Value.ownBlock] at hg
    subst hg
    refine .inr ⟨g', cap, cur.setIfInBounds i u, rfl, hb, ?_, hn, hm, by simpa using hs, ?_⟩
    · simp [World.setCell, Array.getElem?_modify, hh]
    · rw [Array.toList_setIfInBounds, List.take_set, ht]
theorem own_cell (h : w.ownsRow base e size v n xs) {g j : Nat} (hg : v.ownBlock = some g) {u : Value} (hu : xs[j]? = some u) : w.cell? ⟨g, j, none⟩ = some u := by
  rcases h.2 with ⟨rfl, _⟩ | ⟨g', cap, cur, rfl, hb, hh, hn, hm, hs, ht⟩
  · simp [Value.ownBlock] at hg
  · simp [Value.ownBlock] at hg
    subst hg
    rw [cell_of_row w g' j cur e (0, 0) hh]
    rw [← ht, List.getElem?_take] at hu
    split at hu
    · simpa using hu
    · cases hu
theorem Blk.rdOwn {g cap : Nat} (h : w.ownsRow base e size (.slice (some ⟨g, 0, none⟩) n cap) n xs) : Rd w (fun k => k = g) size (some ⟨g, 0, none⟩) n xs := by
  obtain ⟨A, c, hv, hr, _⟩ := own_rd h
  injection hv with hA
  rw [hA]
  exact hr.weaken fun k hk => by simp [Value.ownBlock] at hk; exact hk.symm
theorem own_has (h : w.ownsRow base e size v n xs) {g j : Nat} (hg : v.ownBlock = some g) (hj : j < n * size) : ∃ u, w.cell? ⟨g, j, none⟩ = some u := by
  have hl : j < xs.length := by rw [h.1]; exact hj
  exact ⟨_, own_cell h hg (List.getElem?_eq_getElem hl)⟩
theorem own_frozen (h : w.ownsRow base e size v n xs) {g : Nat} (j : Nat) (hg : v.ownBlock = some g) : w.frozen? ⟨g, j, none⟩ = false := by
  rcases h.2 with ⟨rfl, _⟩ | ⟨g', cap, cur, rfl, hb, hh, hn, hm, hs, ht⟩
  · simp [Value.ownBlock] at hg
  · simp [Value.ownBlock] at hg
    subst hg
    simp [World.frozen?, hh]
/-- An owned row that is longer, cut. -/
theorem own_cut {g cap : Nat} (h : w.ownsRow base e size (.slice (some ⟨g, 0, none⟩) (n + m) cap) (n + m) (xs ++ ys)) (hx : xs.length = n * size) : w.ownsRow base e size (.slice (some ⟨g, 0, none⟩) n cap) n xs := by
  refine ⟨hx, ?_⟩
  rcases h.2 with ⟨hv, _⟩ | ⟨g', cap', cur, hv, hb, hh, hn, hm, hs, ht⟩
  · cases hv
  · cases hv
    refine .inr ⟨g, cap, cur, rfl, hb, hh, by omega, hm, hs, ?_⟩
    have h1 : cur.toList.take (n * size) = (cur.toList.take ((n + m) * size)).take (n * size) := by
      rw [List.take_take, Nat.min_eq_left (Nat.mul_le_mul_right _ (by omega))]
    rw [h1, ht, ← hx, List.take_left]
theorem own_nil_of (h : w.ownsRow base e size v 0 xs) : xs = [] := List.eq_nil_of_length_eq_zero (by simpa using h.1)
theorem own_nonnil (h : w.ownsRow base e size v n xs) (hn : 0 < n) : ∃ g cap, v = .slice (some ⟨g, 0, none⟩) n cap ∧ base ≤ g ∧ g < w.heap.size ∧ n ≤ cap := by
  rcases h.2 with ⟨rfl, rfl⟩ | ⟨g, cap, cur, rfl, hb, hh, hc, _⟩
  · omega
  · exact ⟨g, cap, rfl, hb, lt_of_block hh, hc⟩
end
section
variable {P : Program} {w : World} {t e : TypeId} {size bytes : Nat} {z : Value}
/-- 'append' behind which the elder slice still reads. -/
theorem run_app_both (E : ET P t e size bytes z) (ty : TypeId) {base : Nat} {v : Value} {n : Nat} {xs : List Value} (hown : w.ownsRow base e size v n xs) {Z : Nat → Prop} {ad : Addr} {m c : Nat} {news : List Value} (hr : Rd w Z size (some ad) m news)
    (h1 : ∀ u ∈ news, u.oneCell' = true) (hb : (n + m) * bytes ≤ 140737488355328) (hbase : base ≤ w.heap.size) :
    ∃ v' w', (Builtin.append_ #[t, t] ty #[v, .slice (some ad) m c]).run P w = .ok v' w' ∧ w'.ownsRow base e size v' (n + m) (xs ++ news) ∧ Keep (fun k => v.ownBlock ≠ some k) w w' ∧ (v'.ownBlock = v.ownBlock ∨ v'.ownBlock = some w.heap.size) ∧ w'.ownsRow base e size v n xs := by
  obtain ⟨v', w', hrun, h2, h3, h4⟩ := run_app E ty hown hr (fun _ => .inr (by simp)) h1 hb hbase
  refine ⟨v', w', hrun, h2, h3, h4, ?_⟩
  obtain ⟨i, hi, hz1, hz2, hz3⟩ := info_parts E.hi
  have hcells : ∀ j u, news[j]? = some u → w.cell? (ad.add j) = some u := by
    intro j u hu
    rcases Nat.eq_zero_or_pos m with h0 | h0
    · subst h0
      have hn : news = [] := List.eq_nil_of_length_eq_zero (by simpa using hr.1)
      subst hn
      simp at hu
    · obtain ⟨b, o, h, _, hc⟩ := hr.2 h0
      injection h with h
      subst h
      have := hc j u hu
      unfold Addr.add
      split
      · rename_i hj; subst hj; simpa using this
      · exact this
  rcases hown.2 with ⟨rfl, rfl⟩ | ⟨g, cap, cur, rfl, hbg, hg, hnc, hcm, hcs, htake⟩
  · exact ⟨hown.1, .inl ⟨rfl, rfl⟩⟩
  · by_cases hroom : n + m ≤ cap
    · obtain ⟨w2, hr2, ho2, _⟩ := run_append_own_spare (P := P) w base t ty e i size E.ht hi hz2 g n cap xs hown ad m c news hr.1 hcells h1 hroom
      rw [hrun] at hr2
      injection hr2 with e1 e2
      subst e1 e2
      exact own_cut ho2 hown.1
    · have h63 : n + m ≤ (n + m) * bytes := Nat.le_mul_of_pos_right _ E.hb
      have hr2 := run_append_grow (P := P) w t ty e i z E.ht hi hz1 ⟨g, 0, none⟩ n cap xs (by rw [hz2]; exact hown.1) (hown.cells (g := g) rfl) ad m c news (by rw [hz2]; exact hr.1) hcells (by omega) (by omega) (by rw [hz3]; exact growslice_fits (by omega) (by omega))
      rw [hrun] at hr2
      injection hr2 with e1 e2
      subst e1 e2
      exact own_keep hown (((Keep.refl (fun _ => True) w).drew).alloc _) (fun _ _ => trivial)
theorem wpList_app_both (E : ET P t e size bytes z) {ops : Array Oper} {rest : List Oper} {o : Oper} {a : Act} {Q : Exit → Act → World → Prop} (hgd : o.guard = none) (s x : Operand)
    (ho : o.op = .call { callee := .builtin .append, args := #[s, x], argTypes := #[t, t] })
    (base : Nat) (v : Value) (n : Nat) (xs : List Value) (hs : a.eval s = v) (hown : w.ownsRow base e size v n xs) (Z : Nat → Prop) (ad : Addr) (m c : Nat) (news : List Value) (hx : a.eval x = .slice (some ad) m c) (hr : Rd w Z size (some ad) m news)
    (h1 : ∀ u ∈ news, u.oneCell' = true) (hb : (n + m) * bytes ≤ 140737488355328) (hbase : base ≤ w.heap.size)
    (h : ∀ v' w', w'.ownsRow base e size v' (n + m) (xs ++ news) → Keep (fun k => v.ownBlock ≠ some k) w w' → Next w.heap.size v v' → w'.ownsRow base e size v n xs → wpList P ops Q rest (a.put o.dst v') w') :
    wpList P ops Q (o :: rest) a w := by
  refine wpList_plain hgd fun K hK => ?_
  obtain ⟨v', w', hrun, h2, h3, h4, h5⟩ := run_app_both E o.type (c := c) hown hr h1 hb hbase
  unfold Oper.wp execOp
  simp only [ho, resolve, invoke, builtin, Sem.run_bind, Sem.run_pure, Result.andThen_ok, List.map_toArray, List.map_cons, List.map_nil, hs, hx, hrun]
  exact hK _ _ (h v' w' h2 h3 (h4.imp id fun e => ⟨_, e, Nat.le_refl _⟩) h5)
end
section
variable {P : Program} {w : World} {t e : TypeId} {size bytes : Nat} {z : Value}
/-- 'append' as a step of a region that draws its order. -/
theorem step_app (E : ET P t e size bytes z) {ops : Array Oper} {o : Oper} {a : Act} {K : Act → World → Prop} {Q : Exit → Act → World → Prop} {Els : Prop} (hgd : o.guard = none) (s x : Operand)
    (ho : o.op = .call { callee := .builtin .append, args := #[s, x], argTypes := #[t, t] })
    (base : Nat) (v : Value) (n : Nat) (xs : List Value) (hs : a.eval s = v) (hown : w.ownsRow base e size v n xs) (Z : Nat → Prop) (A : Option Addr) (m c : Nat) (news : List Value) (hx : a.eval x = .slice A m c) (hr : Rd w Z size A m news)
    (hnil : m = 0 → c = 0 ∨ A ≠ none) (h1 : ∀ u ∈ news, u.oneCell' = true) (hb : (n + m) * bytes ≤ 140737488355328) (hbase : base ≤ w.heap.size)
    (h : ∀ v' w', w'.ownsRow base e size v' (n + m) (xs ++ news) → Keep (fun k => v.ownBlock ≠ some k) w w' → Next w.heap.size v v' → K (a.put o.dst v') w') :
    if Region.wanted o (yielded ops a.tmps) = true then Oper.wp P o a w K Q else Els := by
  have hw : Region.wanted o (yielded ops a.tmps) = true := by simp [Region.wanted, hgd]
  rw [if_pos hw]
  obtain ⟨v', w', hrun, h2, h3, h4⟩ := run_app E o.type (c := c) hown hr hnil h1 hb hbase
  unfold Oper.wp execOp
  simp only [ho, resolve, invoke, builtin, Sem.run_bind, Sem.run_pure, Result.andThen_ok, List.map_toArray, List.map_cons, List.map_nil, hs, hx, hrun]
  exact h v' w' h2 h3 (h4.imp (fun h => h) fun e => ⟨_, e, Nat.le_refl _⟩)
end
/-! ### elements of several cells -/
section
variable {α : Type} (f : α → List Value)
def rcells (ps : List α) : List Value := ps.flatMap f
theorem rcells_nil : rcells f [] = [] := rfl
theorem rcells_cons (p : α) (ps : List α) : rcells f (p :: ps) = f p ++ rcells f ps := rfl
theorem rcells_append (ps qs : List α) : rcells f (ps ++ qs) = rcells f ps ++ rcells f qs := by simp [rcells]
variable {f} {c : Nat} (hc : ∀ a, (f a).length = c)
include hc
theorem rcells_len (ps : List α) : (rcells f ps).length = ps.length * c := by
  induction ps with
  | nil => simp [rcells]
  | cons p ps ih => rw [rcells_cons, List.length_append, ih, hc, List.length_cons, Nat.add_mul]; omega
theorem rcells_get : ∀ (ps : List α) (i : Nat) (hi : i < ps.length) (j : Nat), j < c → (rcells f ps)[i * c + j]? = (f ps[i])[j]?
  | p :: ps, 0, _, j, hj => by
    rw [rcells_cons, List.getElem?_append_left (by rw [hc]; omega)]
    simp
  | p :: ps, i + 1, hi, j, hj => by
    have e : (i + 1) * c + j - (f p).length = i * c + j := by rw [hc, Nat.add_mul]; omega
    rw [rcells_cons, List.getElem?_append_right (by rw [hc, Nat.add_mul]; omega), e]
    exact rcells_get ps i (by simpa using hi) j hj
theorem rcells_set : ∀ (ps : List α) (i : Nat) (hi : i < ps.length) (j : Nat) (u : Value) (q : α), j < c → f q = (f ps[i]).set j u → (rcells f ps).set (i * c + j) u = rcells f (ps.set i q)
  | p :: ps, 0, _, j, u, q, hj, hq => by
    rw [rcells_cons, List.set_cons_zero, rcells_cons, hq]
    rw [show 0 * c + j = j by omega, List.set_append_left _ _ (by rw [hc]; omega)]
    rfl
  | p :: ps, i + 1, hi, j, u, q, hj, hq => by
    have e : (i + 1) * c + j - (f p).length = i * c + j := by rw [hc, Nat.add_mul]; omega
    rw [rcells_cons, List.set_cons_succ, rcells_cons, List.set_append_right _ _ (by rw [hc, Nat.add_mul]; omega), e]
    rw [rcells_set ps i (by simpa using hi) j u q hj (by simpa using hq)]
end
/-- One element of several cells, in a block of its own. -/
theorem Rd.one_of {w : World} {g size : Nat} {t : TypeId} {cs : Array Value} (h : Blk w g t cs) (hs : cs.size = size) : Rd w (fun i => i = g) size (some ⟨g, 0, none⟩) 1 cs.toList :=
  ⟨by simp [hs], fun _ => ⟨g, 0, rfl, rfl, fun j u hu => by
    rw [h.cell (0 + j), Nat.zero_add]
    simpa using hu⟩⟩
end Go.Proofs.YtioinjcdkmiafaaDoor
namespace Go.Proofs.YtioinjcdkmiafaaDoor
set_option linter.unusedVariables false
set_option linter.unusedSimpArgs false
open Go.RowKit

abbrev mxC : Int := 4611686018427387904
/-- An error, or none. -/
def Amiss (b : Bool) (ev : Value) : Prop := (b = false ∧ ev = .nilIface) ∨ (b = true ∧ ∃ t v, ev = .iface t v ∧ ev.oneCell' = true)
/-- Block g is a replica's reader of the bytes at A, at place p; z: the number that its flaws wrap. -/
def PR (w : World) (g : Nat) (A : Option Addr) (n c : Nat) (z : Int) (p : Nat) (bad : Bool) : Prop :=
  ∃ ev, Blk w g 47 #[.slice A n c, .int .i64 (p : Int), .iface 45 (.int .i64 z), ev] ∧ Amiss bad ev
theorem PR.keep {Z : Nat → Prop} {w w' : World} {g : Nat} {A : Option Addr} {n c : Nat} {z : Int} {p : Nat} {bad : Bool} (h : PR w g A n c z p bad) (hk : Keep Z w w') (hz : Z g) : PR w' g A n c z p bad := by
  obtain ⟨ev, h1, h2⟩ := h
  exact ⟨ev, h1.keep hk hz, h2⟩
theorem PR.drewN {w : World} {g : Nat} {A : Option Addr} {n c : Nat} {z : Int} {p : Nat} {bad : Bool} (h : PR w g A n c z p bad) (k : Nat) : PR (w.drewN k) g A n c z p bad := h
theorem PR.lt {w : World} {g : Nat} {A : Option Addr} {n c : Nat} {z : Int} {p : Nat} {bad : Bool} (h : PR w g A n c z p bad) : g < w.heap.size := by
  obtain ⟨ev, h1, -⟩ := h
  exact h1.lt
set_option maxRecDepth 20000 in
set_option maxHeartbeats 400000 in
theorem rfail_any (g : Nat) (A : Option Addr) (n c : Nat) (z : Int) (p : Nat) (bad : Bool) (s : ByteArray) (w : World) (h : PR w g A n c z p bad) :
    Calls Tryd.prog 22 #[.pointer (some ⟨g, 0, none⟩), .string s] w fun e w' => e = .returned (.tuple #[]) ∧ PR w' g A n c z p true ∧ Keep (fun k => k ≠ g) w w' := by
  obtain ⟨ev, hb, he⟩ := h
  have c2 := hb.cell 2; have c3 := hb.cell 3; have f3 := hb.frozen 3; have lg := hb.lt
  simp at c2 c3
  have HB := Lib.hid hb
  rcases he with ⟨rfl, rfl⟩ | ⟨rfl, t, v, rfl, ho⟩
  · clear hb
    go_enter Tryd.func22, Tryd.ntmps22
    go_wp2_with fail
    go_end0
    exact ⟨rfl, ⟨.iface 79 (.pointer (some ⟨w.heap.size, 0, none⟩)), (HB.out.set 3 _).alloc _, .inr ⟨rfl, _, _, rfl, rfl⟩⟩, ((Keep.refl _ w).setCell (fun _ h => h rfl) _).alloc _⟩
  · have HO := Lib.hid ho
    clear hb ho
    go_enter Tryd.func22, Tryd.ntmps22
    go_wp2_with fail
    go_end0
    exact ⟨rfl, ⟨_, HB.out, .inr ⟨rfl, _, _, rfl, HO.out⟩⟩, Keep.refl _ _⟩
theorem takeB_most (l : List UInt8) : ((takeB l).1 : Int) ≤ 4611686018427387904 := by
  obtain ⟨t, ht⟩ : ∃ t, t = takeB l := ⟨_, rfl⟩
  obtain ⟨y, k, e⟩ := t
  rw [← ht]
  by_cases he : e = 0
  · subst he
    obtain ⟨r, -, -, h⟩ := takeB_inv ht.symm
    show ((y : Nat) : Int) ≤ _
    omega
  · have key : ∀ (f : Nat) (l : List UInt8) (i v : Nat), (takeGo f l i v).2.2 ≠ 0 → (takeGo f l i v).1 = 0 := by
      intro f
      induction f with
      | zero => intro l i v _; rfl
      | succ f ih =>
        intro l i v h
        cases l with
        | nil => rfl
        | cons c r =>
          unfold takeGo at h ⊢
          split
          · rename_i hc
            rw [if_pos hc] at h
            exact ih r _ _ h
          · rename_i hc
            rw [if_neg hc] at h
            split
            · rfl
            · rename_i hc2
              rw [if_neg hc2] at h
              exact absurd rfl h
    have h1 := key 9 l 0 0 (by show (takeB l).2.2 ≠ 0; rw [← ht]; exact he)
    have h2 : y = 0 := by
      have : (takeB l).1 = 0 := h1
      rw [← ht] at this
      exact this
    show ((y : Nat) : Int) ≤ _
    omega
theorem rCountC (bs : List UInt8) (p : Nat) : rCount bs p false mxC = if (takeB (bs.drop p)).2.2 ≠ 0 then (0, p, true) else ((takeB (bs.drop p)).1, p + (takeB (bs.drop p)).2.1, false) := by
  have h := takeB_most (bs.drop p)
  unfold rCount
  by_cases h1 : (takeB (bs.drop p)).2.2 ≠ 0
  · rw [if_pos h1, if_pos (.inr (.inl h1))]
  · rw [if_neg h1, if_neg (by rintro (h2 | h2 | h2); exact absurd h2 (by decide); exact h1 h2; have h3 : (4611686018427387904 : Int) < _ := h2; omega)]
def CntPost (g : Nat) (A : Option Addr) (n c : Nat) (z : Int) (w : World) (r : Nat × Nat × Bool) (e : Ending) (w' : World) : Prop :=
  e = .returned (.int .i64 (r.1 : Int)) ∧ PR w' g A n c z r.2.1 r.2.2 ∧ Keep (fun k => k ≠ g) w w'
set_option maxRecDepth 20000 in
set_option maxHeartbeats 800000 in
theorem pcount_any (g : Nat) (Z : Nat → Prop) (A : Option Addr) (n c : Nat) (bs : List UInt8) (z : Int) (p : Nat) (bad : Bool) (s : ByteArray) (w : World) (hg : PR w g A n c z p bad) (hp : p ≤ n) (hb : Rd w Z 1 A n (Lib.byteCells bs)) (hn : n ≤ 1099511627770) :
    Calls Tryd.prog 13 #[.pointer (some ⟨g, 0, none⟩), .string s] w fun e w' => CntPost g A n c z w (rCount bs p bad mxC) e w' := by
  have HFl := Lib.hid (fun (q : Nat) (bd : Bool) (u : World) (hu : PR u g A n c z q bd) => rfail_any g A n c z q bd s u hu)
  obtain ⟨ev, hbl, he⟩ := hg
  have c0 := hbl.cell 0; have c1 := hbl.cell 1; have c3 := hbl.cell 3; have f1 := hbl.frozen 1; have lg := hbl.lt
  simp at c0 c1 c3
  have HB := Lib.hid hbl
  rcases he with ⟨rfl, rfl⟩ | ⟨rfl, t, v, rfl, ho⟩
  · have hT := fun k => TakeInt_in Z A n c bs p (w.drewN k) hp (hb.drewN k) hn
    have hR := rCountC bs p
    obtain ⟨r, hr⟩ : ∃ r, r = takeB (bs.drop p) := ⟨_, rfl⟩
    rw [← hr] at hT hR
    obtain ⟨rv, rl, re⟩ := r
    have HT := Lib.hid hT
    have HR := Lib.hid hR
    clear hT hR hr hb hbl
    by_cases h0 : re = 0
    · subst h0
      go_enter Tryd.func13, Tryd.ntmps13
      go_wp2_with fail
      go_quiet ((go_at_call 21; exact quiet_left (HT.out _)))
      go_wp2_with fail
      go_ret
      rw [HR.out, if_neg (by simp)]
      refine ⟨rfl, ⟨.nilIface, ?_, .inl ⟨rfl, rfl⟩⟩, keep_step _ _ _ _ _⟩
      have := (Blk.drewN HB.out nq).set 1 (.int .i64 ((p + rl : Nat) : Int))
      simpa using this
    · have hne : (re != 0) = true := by simpa using h0
      go_enter Tryd.func13, Tryd.ntmps13
      go_wp2_with fail
      go_quiet ((go_at_call 21; exact quiet_left (HT.out _)))
      go_wp2_with fail
      refine Calls.mono (HFl.out p false _ ⟨.nilIface, HB.out.drewN nq, .inl ⟨rfl, rfl⟩⟩) ?_
      rintro e w1 ⟨rfl, h1, hk1⟩
      have H1 := Lib.hid (And.intro h1 ((((Keep.refl (fun k => k ≠ g) w).drewN nq)).trans hk1))
      clear h1 hk1
      go_wp2_with fail
      go_ret
      rw [HR.out, if_pos h0]
      exact ⟨rfl, H1.out.1, H1.out.2⟩
  · have HO := Lib.hid ho
    clear hbl ho
    go_enter Tryd.func13, Tryd.ntmps13
    go_wp2_with fail
    go_ret
    have e : rCount bs p true mxC = (0, p, true) := by
      unfold rCount
      rw [if_pos (.inl rfl)]
    rw [e]
    exact ⟨rfl, ⟨_, HB.out, .inr ⟨rfl, _, _, rfl, HO.out⟩⟩, Keep.refl _ _⟩

/-! ### end -/
set_option maxRecDepth 20000 in
set_option maxHeartbeats 800000 in
theorem pend_any (g : Nat) (A : Option Addr) (n c : Nat) (z : Int) (p : Nat) (bad : Bool) (w : World) (hg : PR w g A n c z p bad) (hp : p ≤ n) (hn : n ≤ 1099511627770) :
    Calls Tryd.prog 15 #[.pointer (some ⟨g, 0, none⟩)] w fun e w' => (∃ ev, e = .returned ev ∧ Amiss (bad || !decide (p = n)) ev) ∧ PR w' g A n c z p (bad || !decide (p = n)) ∧ Keep (fun k => k ≠ g) w w' := by
  obtain ⟨q, hq⟩ : ∃ q, q = (bad || !decide (p = n)) := ⟨_, rfl⟩
  rw [← hq]
  have HQ := Lib.hid hq
  clear hq
  have HFl := Lib.hid (fun (u : World) (hu : PR u g A n c z p bad) => rfail_any g A n c z p bad { data := #[101, 110, 100] } u hu)
  obtain ⟨ev, hbl, he⟩ := hg
  have c0 := hbl.cell 0; have c1 := hbl.cell 1; have c3 := hbl.cell 3; have lg := hbl.lt
  simp at c0 c1 c3
  have HB := Lib.hid (And.intro hbl he)
  clear hbl he
  go_enter Tryd.func15, Tryd.ntmps15
  by_cases h : p = n
  · subst h
    go_wp2_with fail
    go_quiet (fail)
    go_wp2_with fail
    go_ret
    obtain rfl : q = bad := by rw [HQ.out]; simp
    exact ⟨⟨_, rfl, HB.out.2⟩, ⟨_, HB.out.1.drewN _, HB.out.2⟩, (Keep.refl _ w).drewN _⟩
  · have hne : ((p : Int) != (n : Int)) = true := by
      rw [bne_iff_ne]
      omega
    go_wp2_with fail
    go_quiet (fail)
    go_wp2_with fail
    refine Calls.mono (HFl.out _ ⟨ev, HB.out.1.drewN _, HB.out.2⟩) ?_
    rintro e w1 ⟨rfl, ⟨ev1, h1, h2⟩, hk1⟩
    have d3 := h1.cell 3; have ld := h1.lt
    simp at d3
    have H1 := Lib.hid (And.intro h1 (And.intro h2 (((Keep.refl (fun k => k ≠ g) w).drewN _).trans hk1)))
    clear h1 h2 hk1 c0 c1 c3 lg
    go_wp2_with fail
    go_ret
    obtain rfl : q = true := by rw [HQ.out, decide_eq_false h]; simp
    exact ⟨⟨_, rfl, H1.out.2.1⟩, ⟨_, H1.out.1, H1.out.2.1⟩, H1.out.2.2⟩
end Go.Proofs.YtioinjcdkmiafaaDoor
