/-
  MERGED: Off Range
-/
import Derived.Test.YtioinjcdkmiafaaDoorYA3
import Derived.ArgAppend
import Derived.Test.YtioinjcdkmiafaaDoorYB2
import Derived.Maps.RangeWalk
namespace Go.Proofs.YtioinjcdkmiafaaDoor
set_option linter.unusedVariables false
set_option linter.unusedSimpArgs false
open Go.RowKit

def OwnAt (w : World) (base e : Nat) (v : Value) (n : Nat) (xs : List Value) : Prop :=
  xs.length = n ∧ ((v = .slice none 0 0 ∧ n = 0) ∨ ∃ (g o cap : Nat) (cur : Array Value), v = .slice (some ⟨g, o, none⟩) n cap ∧ base ≤ g ∧ w.heap[g]? = some (.cells cur e (0, 0)) ∧ n ≤ cap ∧ cap ≤ maxLen ∧ o + cap ≤ cur.size ∧ ∀ j u, xs[j]? = some u → cur[o + j]? = some u)
section
variable {w w' : World} {base base' e n : Nat} {v : Value} {xs : List Value}
theorem OwnAt.nil (w : World) (base e : Nat) : OwnAt w base e (.slice none 0 0) 0 [] := ⟨rfl, .inl ⟨rfl, rfl⟩⟩
theorem OwnAt.of_own (h : w.ownsRow base e 1 v n xs) : OwnAt w base e v n xs := by
  refine ⟨by simpa using h.1, ?_⟩
  rcases h.2 with hn | ⟨g, cap, cur, rfl, hb, hh, hc, hm, hs, ht⟩
  · exact .inl hn
  · refine .inr ⟨g, 0, cap, cur, rfl, hb, hh, hc, hm, by omega, fun j u hu => ?_⟩
    rw [← ht, List.getElem?_take] at hu
    split at hu
    · simpa using hu
    · cases hu
theorem OwnAt.keep {Z : Nat → Prop} (h : OwnAt w base e v n xs) (hk : Keep Z w w') (hz : ∀ k, v.ownBlock = some k → Z k) : OwnAt w' base e v n xs := by
  refine ⟨h.1, ?_⟩
  rcases h.2 with hn | ⟨g, o, cap, cur, rfl, hb, hh, rest⟩
  · exact .inl hn
  · exact .inr ⟨g, o, cap, cur, rfl, hb, (hk.block g (lt_of_block hh) (hz g rfl)).trans hh, rest⟩
theorem OwnAt.far (h : OwnAt w base e v n xs) {p : Addr} (hp : v.ownBlock ≠ some p.block) (u : Value) : OwnAt (w.setCell p u) base e v n xs :=
  h.keep (Z := fun k => k ≠ p.block) ((Keep.refl _ w).setCell (fun _ h => h rfl) u) (fun k hk e => hp (e ▸ hk))
theorem OwnAt.lower (h : OwnAt w base e v n xs) (hb : base' ≤ base) : OwnAt w base' e v n xs := by
  refine ⟨h.1, ?_⟩
  rcases h.2 with hn | ⟨g, o, cap, cur, rfl, hbg, rest⟩
  · exact .inl hn
  · exact .inr ⟨g, o, cap, cur, rfl, by omega, rest⟩
theorem OwnAt.lt (h : OwnAt w base e v n xs) {g : Nat} (hg : v.ownBlock = some g) : base ≤ g ∧ g < w.heap.size := by
  rcases h.2 with ⟨rfl, _⟩ | ⟨g', o, cap, cur, rfl, hb, hh, _⟩
  · simp [Value.ownBlock] at hg
  · simp [Value.ownBlock] at hg
    subst hg
    exact ⟨hb, lt_of_block hh⟩
theorem OwnAt.ne_blk {g : Nat} {t : TypeId} {cs : Array Value} (h : OwnAt w base e v n xs) (hg : Blk w g t cs) (hne : e ≠ t) : v.ownBlock ≠ some g := by
  rcases h.2 with ⟨rfl, _⟩ | ⟨g', o, cap, cur, rfl, _, hh, _⟩
  · simp [Value.ownBlock]
  · intro he
    have : g' = g := by simpa [Value.ownBlock] using he
    subst this
    exact Blk.ne (t := e) hh hg hne rfl
theorem OwnAt.ne_own {b2 e2 s2 n2 : Nat} {v2 : Value} {xs2 : List Value} (h1 : OwnAt w base e v n xs) (h2 : w.ownsRow b2 e2 s2 v2 n2 xs2) (hne : e ≠ e2) {k : Nat} (hk : v.ownBlock = some k) : v2.ownBlock ≠ some k := by
  intro hk2
  rcases h1.2 with ⟨rfl, _⟩ | ⟨g, o, cap, cur, rfl, _, hh, _⟩
  · simp [Value.ownBlock] at hk
  · rcases h2.2 with ⟨rfl, _⟩ | ⟨g2, cap2, cur2, rfl, _, hh2, _⟩
    · simp [Value.ownBlock] at hk2
    · simp [Value.ownBlock] at hk hk2
      subst hk hk2
      rw [hh] at hh2
      injection hh2 with hh2
      injection hh2 with _ ht
      exact hne ht
theorem OwnAt.rd (h : OwnAt w base e v n xs) : ∃ A c, v = .slice A n c ∧ n ≤ c ∧ Rd w (fun k => v.ownBlock = some k) 1 A n xs ∧ (n = 0 → c = 0 ∨ A ≠ none) := by
  rcases h.2 with ⟨rfl, rfl⟩ | ⟨g, o, cap, cur, rfl, hb, hh, hn, hm, hs, hc⟩
  · have : xs = [] := List.eq_nil_of_length_eq_zero h.1
    subst this
    exact ⟨none, 0, rfl, Nat.le_refl _, Rd.nil _ _ _ _, fun _ => .inl rfl⟩
  · refine ⟨_, _, rfl, hn, ⟨by rw [Nat.mul_one]; exact h.1, fun _ => ⟨g, o, rfl, by simp [Value.ownBlock], fun j u hu => ?_⟩⟩, fun _ => .inr (by simp)⟩
    rw [cell_of_row w g (o + j) cur e (0, 0) hh]
    exact hc j u hu
theorem OwnAt.one (h : OwnAt w base e v n xs) : v.oneCell' = true := by
  rcases h.2 with ⟨rfl, _⟩ | ⟨g, o, cap, cur, rfl, _⟩ <;> rfl
/-- The value of 'q[1:]'. -/
def tailV : Value → Value
  | .slice (some a) n c => .slice (if c = 1 then some a else some ⟨a.block, a.off + 1, a.spot⟩) (n - 1) (c - 1)
  | v => v
theorem OwnAt.tail {x : Value} (h : OwnAt w base e v (n + 1) (x :: xs)) : OwnAt w base e (tailV v) n xs := by
  refine ⟨by have := h.1; simpa using this, ?_⟩
  rcases h.2 with ⟨_, h0⟩ | ⟨g, o, cap, cur, rfl, hb, hh, hn, hm, hs, hc⟩
  · omega
  · by_cases h1 : cap = 1
    · subst h1
      have hn0 : n = 0 := by omega
      subst hn0
      have hx : xs = [] := List.eq_nil_of_length_eq_zero (by have := h.1; simpa using this)
      subst hx
      exact .inr ⟨g, o, 0, cur, by simp [tailV], hb, hh, Nat.le_refl _, by simp [maxLen], by omega, fun j u hu => by cases hu⟩
    · refine .inr ⟨g, o + 1, cap - 1, cur, by simp [tailV, h1], hb, hh, by omega, by omega, by omega, fun j u hu => ?_⟩
      have := hc (j + 1) u (by simpa using hu)
      rwa [show o + 1 + j = o + (j + 1) by omega]
theorem tailV_own (h : OwnAt w base e v (n + 1) xs) : (tailV v).ownBlock = v.ownBlock := by
  rcases h.2 with ⟨_, h0⟩ | ⟨g, o, cap, cur, rfl, _⟩
  · omega
  · simp only [tailV]
    split <;> rfl
end
section
variable {P : Program} {w : World} {t e : TypeId} {bytes : Nat} {z : Value}
/-- 'append(q, y)'. -/
theorem run_app_at (E : ET P t e 1 bytes z) (ty : TypeId) {base : Nat} {v : Value} {n : Nat} {xs : List Value} (hown : OwnAt w base e v n xs) {Z : Nat → Prop} {ad : Addr} {c : Nat} {y : Value} (hr : Rd w Z 1 (some ad) 1 [y])
    (h1 : y.oneCell' = true) (hb : (n + 1) * bytes ≤ 140737488355328) (hbase : base ≤ w.heap.size) :
    ∃ v' w', (Builtin.append_ #[t, t] ty #[v, .slice (some ad) 1 c]).run P w = .ok v' w' ∧ OwnAt w' base e v' (n + 1) (xs ++ [y]) ∧ Keep (fun k => v.ownBlock ≠ some k) w w' ∧ Next w.heap.size v v' := by
  obtain ⟨i, hi, hz1, hz2, hz3⟩ := info_parts E.hi
  have hcells : ∀ j u, ([y] : List Value)[j]? = some u → w.cell? (ad.add j) = some u := by
    intro j u hu
    obtain ⟨b, o, h, _, hc⟩ := hr.2 (by omega)
    injection h with h
    subst h
    have := hc j u hu
    unfold Addr.add
    split
    · rename_i hj; subst hj; simpa using this
    · exact this
  have h63 : n + 1 ≤ maxLen := by
    have h2 := E.hb
    have h3 : n + 1 ≤ (n + 1) * bytes := Nat.le_mul_of_pos_right _ h2
    simp only [maxLen]
    omega
  rcases hown.2 with ⟨rfl, rfl⟩ | ⟨g, o, cap, cur, rfl, hbg, hh, hn, hm, hs, hc⟩
  · have hx : xs = [] := List.eq_nil_of_length_eq_zero hown.1
    subst hx
    obtain ⟨v', w', hrun, h2, h3, h4⟩ := run_app E ty (World.ownsRow_nil w base e 1) hr (c := c) (fun h => by cases h) (by simpa using h1) hb hbase
    exact ⟨v', w', hrun, OwnAt.of_own h2, h3, h4.imp id fun h => ⟨_, h, Nat.le_refl _⟩⟩
  · by_cases hroom : n + 1 ≤ cap
    · have hget : cur[o + n]? = some (cur[o + n]'(by omega)) := Array.getElem?_eq_getElem (by omega)
      have hr2 := run_append_room_cells (P := P) (w := w) t ty e i E.ht hi g o n cap ad 1 c [y] (by rw [hz2]; rfl) hcells (by simpa using h1) hroom (fun j hj => by
        have : j = 0 := by simpa using hj
        subst this
        rw [hz2, Nat.mul_one, Nat.add_zero, cell_of_row w g (o + n) cur e (0, 0) hh, hget]
        rfl) (fun j hj => by simp [World.frozen?, hh])
      rw [hz2, Nat.mul_one] at hr2
      refine ⟨_, _, hr2, ⟨by simp [hown.1], .inr ⟨g, o, cap, cur.setIfInBounds (o + n) y, rfl, hbg, ?_, hroom, hm, by simpa using hs, fun j u hu => ?_⟩⟩, ?_, .inl rfl⟩
      · simp [World.setCells, World.setCell, Array.getElem?_modify, hh]
      · rw [Array.getElem?_setIfInBounds]
        by_cases hj : j < xs.length
        · rw [List.getElem?_append_left hj] at hu
          rw [if_neg (by have := hown.1; omega)]
          exact hc j u hu
        · rw [List.getElem?_append_right (by omega)] at hu
          have hj2 : j = n := by
            have : j - xs.length < 1 := by
              rcases Nat.lt_or_ge (j - xs.length) 1 with h | h
              · exact h
              · rw [List.getElem?_eq_none (by simpa using h)] at hu; cases hu
            have := hown.1
            omega
          subst hj2
          rw [hown.1, Nat.sub_self] at hu
          rw [if_pos rfl, if_pos (by omega)]
          simpa using hu
      · exact (Keep.refl _ w).setCell (p := ⟨g, o + n, none⟩) (fun _ h => h rfl) y
    · have holds : ∀ j u, xs[j]? = some u → w.cell? ((⟨g, o, none⟩ : Addr).add j) = some u := fun j u hu => by
        have h3 : w.cell? ⟨g, o + j, none⟩ = some u := by
          rw [cell_of_row w g (o + j) cur e (0, 0) hh]
          exact hc j u hu
        unfold Addr.add
        split
        · rename_i hj; subst hj; simpa using h3
        · exact h3
      obtain ⟨v', w', hrun, ho, hg⟩ := run_append_arg_grows (P := P) (w := w) t ty e i z 1 bytes E.ht hi hz1 hz2 hz3 E.hz E.hs ⟨g, o, none⟩ n cap xs (by rw [Nat.mul_one]; exact hown.1) holds ad 1 c [y] rfl hcells (by omega) h63 hb
      refine ⟨v', w', hrun, OwnAt.of_own (own_base ho hbase), (Keep.of_grown hg).weaken (fun _ _ _ => by simp), ?_⟩
      obtain ⟨g', c', rfl, h5, _⟩ := own_form ho (by omega)
      exact .inr ⟨g', rfl, h5⟩
/-- .. for the walk: the element has just been laid in a block of its own. -/
theorem wpList_appAt (E : ET P t e 1 bytes z) {ops : Array Oper} {rest : List Oper} {o : Oper} {a : Act} {Q : Exit → Act → World → Prop} (hgd : o.guard = none) (s x : Operand)
    (ho : o.op = .call { callee := .builtin .append, args := #[s, x], argTypes := #[t, t] }) (y : Value) (te : TypeId) (hy : y.oneCell' = true)
    (base : Nat) (v : Value) (n : Nat) (xs : List Value) (B : Nat) (hB : B = w.heap.size) (hs : a.eval s = v) (hx : a.eval x = .slice (some ⟨B, 0, none⟩) 1 1) (hown : OwnAt w base e v n xs)
    (hb : (n + 1) * bytes ≤ 140737488355328) (hbase : base ≤ w.heap.size)
    (h : ∀ v' w', OwnAt w' base e v' (n + 1) (xs ++ [y]) → Keep (fun k => v.ownBlock ≠ some k) w w' → Next w.heap.size v v' → wpList P ops Q rest (a.put o.dst v') w') :
    wpList P ops Q (o :: rest) a (w.alloc (.cells #[y] te)) := by
  subst hB
  refine wpList_plain hgd fun K hK => ?_
  obtain ⟨v', w', hrun, h2, h3, h4⟩ := run_app_at E o.type (c := 1) (hown.keep (((Keep.refl (fun _ => True) w).alloc (.cells #[y] te))) (fun _ _ => trivial)) (Rd.one_new w y te) hy hb (by simp; omega)
  unfold Oper.wp execOp
  simp only [ho, resolve, invoke, builtin, Sem.run_bind, Sem.run_pure, Result.andThen_ok, List.map_toArray, List.map_cons, List.map_nil, hs, hx, hrun]
  exact hK _ _ (h v' w' h2 (((Keep.refl _ w).alloc _).comp h3 (fun _ _ h => h) (fun _ _ h => h)) (h4.imp id fun ⟨g, hg, hl⟩ => ⟨g, hg, by simp at hl; omega⟩))
end
end Go.Proofs.YtioinjcdkmiafaaDoor
namespace Go.Proofs.YtioinjcdkmiafaaDoor
set_option linter.unusedVariables false
set_option linter.unusedSimpArgs false
open Go.RowKit
open Go.Maps (Keyed)

def leftIs (todo : List (List UInt8)) (z : Lit) : Bool := todo.any fun t => (Lit.string t).sameKey z
theorem leftIs_str (todo : List (List UInt8)) (k : List UInt8) : leftIs todo (.string k) = true ↔ k ∈ todo := by
  unfold leftIs
  rw [List.any_eq_true]
  constructor
  · rintro ⟨t, ht, h⟩
    have : t = k := by simpa [Lit.sameKey] using h
    exact this ▸ ht
  · exact fun h => ⟨k, h, by simp [Lit.sameKey]⟩
theorem leftIs_nil {todo : List (List UInt8)} (h : ∀ z, leftIs todo z = false) : todo = [] := by
  cases todo with
  | nil => rfl
  | cons k r =>
    have := h (.string k)
    rw [(leftIs_str _ _).2 (by simp)] at this
    cases this
theorem leftIs_strike (todo : List (List UInt8)) (k : List UInt8) : (fun z => leftIs todo z && !z.sameKey (.string k)) = leftIs (todo.filter fun t => !(t == k)) := by
  funext z
  cases z with
  | string s =>
    have e : (Lit.string s).sameKey (.string k) = (s == k) := rfl
    rw [e]
    cases h1 : leftIs todo (.string s) && !(s == k) with
    | true =>
      rw [Bool.and_eq_true] at h1
      symm
      rw [leftIs_str]
      exact List.mem_filter.2 ⟨(leftIs_str _ _).1 h1.1, h1.2⟩
    | false =>
      cases h2 : leftIs (todo.filter fun t => !(t == k)) (.string s) with
      | false => rfl
      | true =>
        rw [leftIs_str] at h2
        obtain ⟨h3, h4⟩ := List.mem_filter.1 h2
        rw [(leftIs_str _ _).2 h3, h4] at h1
        cases h1
  | _ =>
    have n : ∀ l : List (List UInt8), (l.any fun _ => false) = false := fun l => by induction l <;> simp_all
    simp [leftIs, Lit.sameKey, n]
theorem leftIs_all (ps : List Kv) : Maps.has (mD ps) = leftIs (ps.map Prod.fst) := by
  funext z
  unfold mD Maps.has leftIs
  simp only [List.any_map]
  rfl

/-- Under way: these keys are still to come. -/
def RangeIs (P : Program) (k : TypeId) (w : World) (b r : Nat) (ps : List Kv) (todo : List (List UInt8)) : Prop := ∃ cnt, w.ranges P k Rv b r ps.length (mD ps) (leftIs todo) cnt
section
variable {P : Program} {k : TypeId} {w w' : World} {b r : Nat} {ps : List Kv} {todo : List (List UInt8)}
theorem RangeIs.map (h : RangeIs P k w b r ps todo) : MapIs P k w b ps := by
  obtain ⟨cnt, h⟩ := h
  exact h.owns
theorem RangeIs.ne (h : RangeIs P k w b r ps todo) : r ≠ b := by
  obtain ⟨cnt, h⟩ := h
  exact h.ne
theorem RangeIs.lt (h : RangeIs P k w b r ps todo) : r < w.heap.size := by
  obtain ⟨cnt, h⟩ := h
  exact h.lt
theorem RangeIs.keep {Z : Nat → Prop} (h : RangeIs P k w b r ps todo) (hk : Keep Z w w') (hb : Z b) (hr : Z r) : RangeIs P k w' b r ps todo := by
  have h1 := h.map.lt
  have h2 := h.lt
  obtain ⟨cnt, es, clock, since, seen, c0, e1, F, hs, hD, e2, rest⟩ := h
  exact ⟨cnt, es, clock, since, seen, c0, (hk.block b h1 hb).trans e1, F, hs, hD, (hk.block r h2 hr).trans e2, rest⟩
theorem RangeIs.left {Z : Nat → Prop} (h : RangeIs P k w b r ps todo) (hk : Keep Z w w') (hb : Z b) (hr : Z r) : w'.rangeLeft b r = w.rangeLeft b r := by
  unfold World.rangeLeft
  rw [hk.block b h.map.lt hb, hk.block r h.lt hr]
theorem RangeIs.ne_blk {g : Nat} {t : TypeId} {cs : Array Value} (h : RangeIs P k w b r ps todo) (hg : Blk w g t cs) : r ≠ g := by
  rintro rfl
  obtain ⟨cnt, es, clock, since, seen, c0, e1, F, hs, hD, e2, rest⟩ := h
  unfold Blk at hg
  rw [hg] at e2
  cases e2

/-- 'range m'. -/
theorem wpList_rangeIs {t e : TypeId} {ops : Array Oper} {rest : List Oper} {o : Oper} {a : Act} {Q : Exit → Act → World → Prop} (hgd : o.guard = none) (m : Operand) (hop : o.op = Op.range t m) (hk : P.underlying k = some .string) (ht : P.underlying t = some (.map k e))
    (hm : a.eval m = .map (some b)) (h : MapIs P k w b ps)
    (hK : ∀ w', RangeIs P k w' b w.heap.size ps (ps.map Prod.fst) → Keep (fun _ => True) w w' → w'.heap.size = w.heap.size + 1 → wpList P ops Q rest (a.put o.dst (.pointer (some ⟨w.heap.size, 0, none⟩))) w') : wpList P ops Q (o :: rest) a w := by
  refine wpList_plain hgd fun K' hK' => ?_
  obtain ⟨w', hrun, r1, r2, r3⟩ := World.ownsMap.range h (Maps.string_keyed hk) ht
  unfold Oper.wp
  simp [execOp, hop, hm, hrun, Result.andThen]
  rw [leftIs_all] at r1
  exact hK' _ _ (hK w' ⟨_, r1⟩ ((Keep.of_grown r2).weaken (fun _ _ _ => by simp)) r3)
theorem str_list (s : ByteArray) : (.string s : Value) = .string ⟨s.data.toList.toArray⟩ := by simp
theorem keyOf_str_inv (hk : P.underlying k = some .string) {key : Value} {kl : Lit} (h : keyOf P k key = some kl) : ∃ t : List UInt8, key = .string ⟨t.toArray⟩ ∧ kl = .string t := by
  cases key <;> simp [keyOf, hk, mapKey] at h
  rename_i s
  exact ⟨s.data.toList, str_list s, h.2.symm⟩
theorem atKey_find {t : List UInt8} {v : Value} (h : ∀ zd : DataW Value, (mD ps).atKey (.string t) zd = .held v) : mfind t ps = some v := by
  have h1 := h (.held (.bool true))
  have h2 := h (.held (.bool false))
  rw [mD_at] at h1 h2
  cases hf : mfind t ps with
  | some u =>
    rw [hf] at h1
    injection h1 with h1
    exact congrArg some h1
  | none =>
    rw [hf] at h1 h2
    have : (DataW.held (Value.bool true) : DataW Value) = .held (.bool false) := h1.trans h2.symm
    injection this with this
    injection this with this
    cases this
/-- The step. -/
theorem wpList_nextIs {ops : Array Oper} {rest : List Oper} {o : Oper} {a : Act} {Q : Exit → Act → World → Prop} (hgd : o.guard = none) (it : Operand) (hop : o.op = Op.next it false) (hk : P.underlying k = some .string)
    (hit : a.eval it = .pointer (some ⟨r, 0, none⟩)) (h : RangeIs P k w b r ps todo)
    (hDone : todo = [] → wpList P ops Q rest (a.put o.dst (.tuple #[.bool false])) w)
    (hMore : ∀ (t : List UInt8) (v : Value) (w' : World), t ∈ todo → mfind t ps = some v → RangeIs P k w' b r ps (todo.filter fun x => !(x == t)) → Keep (fun i => i ≠ r) w w' → w'.heap.size = w.heap.size → w'.rangeLeft b r < w.rangeLeft b r →
      (Instr.entry (.pointer (some ⟨r, 0, none⟩))).run P w' = .ok (.tuple #[.string ⟨t.toArray⟩, v]) w' → wpList P ops Q rest (a.put o.dst (.tuple #[.bool true, .string ⟨t.toArray⟩, v])) w') : wpList P ops Q (o :: rest) a w := by
  refine wpList_plain hgd fun K' hK' => ?_
  obtain ⟨cnt, h⟩ := h
  unfold Oper.wp
  rcases h.next (Maps.string_keyed hk) o.type with ⟨h0, hl, hrun⟩ | ⟨key, v, kl, y, w', cnt', hkey, hlk, hv, hat, hrun, hrg, hlt, hgr, hsz, hen⟩
  · simp [execOp, hop, hit, hrun, Result.andThen]
    exact hK' _ _ (hDone (leftIs_nil hl))
  · obtain ⟨t, rfl, rfl⟩ := keyOf_str_inv hk hkey
    unfold Rv at hv
    injection hv with hv
    subst hv
    rw [leftIs_strike] at hrg
    simp [execOp, hop, hit, hrun, Result.andThen]
    exact hK' _ _ (hMore t v w' ((leftIs_str _ _).1 hlk) (atKey_find hat) ⟨_, hrg⟩ ((Keep.of_grown hgr).weaken (fun i _ hi e => hi (by injection e with e; exact e.symm))) hsz (by rw [hrg.left_eq, h.left_eq]; exact hlt) hen)
end
end Go.Proofs.YtioinjcdkmiafaaDoor
