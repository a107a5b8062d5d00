/-
  MERGED: Off MacInv Range Lk Cells LQue
-/
import Derived.Test.YtohnmaindbgngaaGreatDoorQ1
import Derived.ArgAppend
import Derived.Test.YtohnmaindbgngaaGreatDoorQ2
import Derived.Maps.RangeWalk
import Derived.Test.YtohnmaindbgngaaGreatDoorQ4
import Derived.Deep.MidRow
import Derived.Test.YtohnmaindbgngaaGreatDoorShelf
import Derived.Sort.OwnSorted
namespace Go.Proofs.YtohnmaindbgngaaGreatDoor
set_option linter.unusedVariables false
set_option linter.unusedSimpArgs false
open Go.RowKit

def OwnAt (w : World) (base e : Nat) (v : Value) (n : Nat) (xs : List Value) : Prop :=
  xs.length = n ∧ ((v = .slice none 0 0 ∧ n = 0) ∨ ∃ (g o cap : Nat) (cur : Array Value), v = .slice (some ⟨g, o, none⟩) n cap ∧ base ≤ g ∧ w.heap[g]? = some (.cells cur e (0, 0)) ∧ n ≤ cap ∧ cap ≤ maxLen ∧ o + cap ≤ cur.size ∧ ∀ j u, xs[j]? = some u → cur[o + j]? = some u)
section
variable {w w' : World} {base base' e n : Nat} {v : Value} {xs : List Value}
theorem OwnAt.nil (w : World) (base e : Nat) : OwnAt w base e (.slice none 0 0) 0 [] := ⟨rfl, .inl ⟨rfl, rfl⟩⟩
theorem OwnAt.of_own (h : w.ownsRow base e 1 v n xs) : OwnAt w base e v n xs := by
  refine ⟨by simpa using h.1, ?_⟩
  rcases h.2 with hn | ⟨g, cap, cur, rfl, hb, hh, hc, hm, hs, ht⟩
  · exact .inl hn
  · refine .inr ⟨g, 0, cap, cur, rfl, hb, hh, hc, hm, by omega, fun j u hu => ?_⟩
    rw [← ht, List.getElem?_take] at hu
    split at hu
    · simpa using hu
    · cases hu
theorem OwnAt.keep {Z : Nat → Prop} (h : OwnAt w base e v n xs) (hk : Keep Z w w') (hz : ∀ k, v.ownBlock = some k → Z k) : OwnAt w' base e v n xs := by
  refine ⟨h.1, ?_⟩
  rcases h.2 with hn | ⟨g, o, cap, cur, rfl, hb, hh, rest⟩
  · exact .inl hn
  · exact .inr ⟨g, o, cap, cur, rfl, hb, (hk.block g (lt_of_block hh) (hz g rfl)).trans hh, rest⟩
theorem OwnAt.far (h : OwnAt w base e v n xs) {p : Addr} (hp : v.ownBlock ≠ some p.block) (u : Value) : OwnAt (w.setCell p u) base e v n xs :=
  h.keep (Z := fun k => k ≠ p.block) ((Keep.refl _ w).setCell (fun _ h => h rfl) u) (fun k hk e => hp (e ▸ hk))
theorem OwnAt.lower (h : OwnAt w base e v n xs) (hb : base' ≤ base) : OwnAt w base' e v n xs := by
  refine ⟨h.1, ?_⟩
  rcases h.2 with hn | ⟨g, o, cap, cur, rfl, hbg, rest⟩
  · exact .inl hn
  · exact .inr ⟨g, o, cap, cur, rfl, by omega, rest⟩
theorem OwnAt.lt (h : OwnAt w base e v n xs) {g : Nat} (hg : v.ownBlock = some g) : base ≤ g ∧ g < w.heap.size := by
  rcases h.2 with ⟨rfl, _⟩ | ⟨g', o, cap, cur, rfl, hb, hh, _⟩
  · simp [Value.ownBlock] at hg
  · simp [Value.ownBlock] at hg
    subst hg
    exact ⟨hb, lt_of_block hh⟩
theorem OwnAt.ne_blk {g : Nat} {t : TypeId} {cs : Array Value} (h : OwnAt w base e v n xs) (hg : Blk w g t cs) (hne : e ≠ t) : v.ownBlock ≠ some g := by
  rcases h.2 with ⟨rfl, _⟩ | ⟨g', o, cap, cur, rfl, _, hh, _⟩
  · simp [Value.ownBlock]
  · intro he
    have : g' = g := by simpa [Value.ownBlock] using he
    subst this
    exact Blk.ne (t := e) hh hg hne rfl
theorem OwnAt.ne_own {b2 e2 s2 n2 : Nat} {v2 : Value} {xs2 : List Value} (h1 : OwnAt w base e v n xs) (h2 : w.ownsRow b2 e2 s2 v2 n2 xs2) (hne : e ≠ e2) {k : Nat} (hk : v.ownBlock = some k) : v2.ownBlock ≠ some k := by
  intro hk2
  rcases h1.2 with ⟨rfl, _⟩ | ⟨g, o, cap, cur, rfl, _, hh, _⟩
  · simp [Value.ownBlock] at hk
  · rcases h2.2 with ⟨rfl, _⟩ | ⟨g2, cap2, cur2, rfl, _, hh2, _⟩
    · simp [Value.ownBlock] at hk2
    · simp [Value.ownBlock] at hk hk2
      subst hk hk2
      rw [hh] at hh2
      injection hh2 with hh2
      injection hh2 with _ ht
      exact hne ht
theorem OwnAt.rd (h : OwnAt w base e v n xs) : ∃ A c, v = .slice A n c ∧ n ≤ c ∧ Rd w (fun k => v.ownBlock = some k) 1 A n xs ∧ (n = 0 → c = 0 ∨ A ≠ none) := by
  rcases h.2 with ⟨rfl, rfl⟩ | ⟨g, o, cap, cur, rfl, hb, hh, hn, hm, hs, hc⟩
  · have : xs = [] := List.eq_nil_of_length_eq_zero h.1
    subst this
    exact ⟨none, 0, rfl, Nat.le_refl _, Rd.nil _ _ _ _, fun _ => .inl rfl⟩
  · refine ⟨_, _, rfl, hn, ⟨by rw [Nat.mul_one]; exact h.1, fun _ => ⟨g, o, rfl, by simp [Value.ownBlock], fun j u hu => ?_⟩⟩, fun _ => .inr (by simp)⟩
    rw [cell_of_row w g (o + j) cur e (0, 0) hh]
    exact hc j u hu
theorem OwnAt.one (h : OwnAt w base e v n xs) : v.oneCell' = true := by
  rcases h.2 with ⟨rfl, _⟩ | ⟨g, o, cap, cur, rfl, _⟩ <;> rfl
/-- The value of 'q[1:]'. -/
def tailV : Value → Value
  | .slice (some a) n c => .slice (if c = 1 then some a else some ⟨a.block, a.off + 1, a.spot⟩) (n - 1) (c - 1)
  | v => v
theorem OwnAt.tail {x : Value} (h : OwnAt w base e v (n + 1) (x :: xs)) : OwnAt w base e (tailV v) n xs := by
  refine ⟨by have := h.1; simpa using this, ?_⟩
  rcases h.2 with ⟨_, h0⟩ | ⟨g, o, cap, cur, rfl, hb, hh, hn, hm, hs, hc⟩
  · omega
  · by_cases h1 : cap = 1
    · subst h1
      have hn0 : n = 0 := by omega
      subst hn0
      have hx : xs = [] := List.eq_nil_of_length_eq_zero (by have := h.1; simpa using this)
      subst hx
      exact .inr ⟨g, o, 0, cur, by simp [tailV], hb, hh, Nat.le_refl _, by simp [maxLen], by omega, fun j u hu => by cases hu⟩
    · refine .inr ⟨g, o + 1, cap - 1, cur, by simp [tailV, h1], hb, hh, by omega, by omega, by omega, fun j u hu => ?_⟩
      have := hc (j + 1) u (by simpa using hu)
      rwa [show o + 1 + j = o + (j + 1) by omega]
theorem tailV_own (h : OwnAt w base e v (n + 1) xs) : (tailV v).ownBlock = v.ownBlock := by
  rcases h.2 with ⟨_, h0⟩ | ⟨g, o, cap, cur, rfl, _⟩
  · omega
  · simp only [tailV]
    split <;> rfl
end
section
variable {P : Program} {w : World} {t e : TypeId} {bytes : Nat} {z : Value}
/-- 'append(q, y)'. -/
theorem run_app_at (E : ET P t e 1 bytes z) (ty : TypeId) {base : Nat} {v : Value} {n : Nat} {xs : List Value} (hown : OwnAt w base e v n xs) {Z : Nat → Prop} {ad : Addr} {c : Nat} {y : Value} (hr : Rd w Z 1 (some ad) 1 [y])
    (h1 : y.oneCell' = true) (hb : (n + 1) * bytes ≤ 140737488355328) (hbase : base ≤ w.heap.size) :
    ∃ v' w', (Builtin.append_ #[t, t] ty #[v, .slice (some ad) 1 c]).run P w = .ok v' w' ∧ OwnAt w' base e v' (n + 1) (xs ++ [y]) ∧ Keep (fun k => v.ownBlock ≠ some k) w w' ∧ Next w.heap.size v v' := by
  obtain ⟨i, hi, hz1, hz2, hz3⟩ := info_parts E.hi
  have hcells : ∀ j u, ([y] : List Value)[j]? = some u → w.cell? (ad.add j) = some u := by
    intro j u hu
    obtain ⟨b, o, h, _, hc⟩ := hr.2 (by omega)
    injection h with h
    subst h
    have := hc j u hu
    unfold Addr.add
    split
    · rename_i hj; subst hj; simpa using this
    · exact this
  have h63 : n + 1 ≤ maxLen := by
    have h2 := E.hb
    have h3 : n + 1 ≤ (n + 1) * bytes := Nat.le_mul_of_pos_right _ h2
    simp only [maxLen]
    omega
  rcases hown.2 with ⟨rfl, rfl⟩ | ⟨g, o, cap, cur, rfl, hbg, hh, hn, hm, hs, hc⟩
  · have hx : xs = [] := List.eq_nil_of_length_eq_zero hown.1
    subst hx
    obtain ⟨v', w', hrun, h2, h3, h4⟩ := run_app E ty (World.ownsRow_nil w base e 1) hr (c := c) (fun h => by cases h) (by simpa using h1) hb hbase
    exact ⟨v', w', hrun, OwnAt.of_own h2, h3, h4.imp id fun h => ⟨_, h, Nat.le_refl _⟩⟩
  · by_cases hroom : n + 1 ≤ cap
    · have hget : cur[o + n]? = some (cur[o + n]'(by omega)) := Array.getElem?_eq_getElem (by omega)
      have hr2 := run_append_room_cells (P := P) (w := w) t ty e i E.ht hi g o n cap ad 1 c [y] (by rw [hz2]; rfl) hcells (by simpa using h1) hroom (fun j hj => by
        have : j = 0 := by simpa using hj
        subst this
        rw [hz2, Nat.mul_one, Nat.add_zero, cell_of_row w g (o + n) cur e (0, 0) hh, hget]
        rfl) (fun j hj => by simp [World.frozen?, hh])
      rw [hz2, Nat.mul_one] at hr2
      refine ⟨_, _, hr2, ⟨by simp [hown.1], .inr ⟨g, o, cap, cur.setIfInBounds (o + n) y, rfl, hbg, ?_, hroom, hm, by simpa using hs, fun j u hu => ?_⟩⟩, ?_, .inl rfl⟩
      · simp [World.setCells, World.setCell, Array.getElem?_modify, hh]
      · rw [Array.getElem?_setIfInBounds]
        by_cases hj : j < xs.length
        · rw [List.getElem?_append_left hj] at hu
          rw [if_neg (by have := hown.1; omega)]
          exact hc j u hu
        · rw [List.getElem?_append_right (by omega)] at hu
          have hj2 : j = n := by
            have : j - xs.length < 1 := by
              rcases Nat.lt_or_ge (j - xs.length) 1 with h | h
              · exact h
              · rw [List.getElem?_eq_none (by simpa using h)] at hu; cases hu
            have := hown.1
            omega
          subst hj2
          rw [hown.1, Nat.sub_self] at hu
          rw [if_pos rfl, if_pos (by omega)]
          simpa using hu
      · exact (Keep.refl _ w).setCell (p := ⟨g, o + n, none⟩) (fun _ h => h rfl) y
    · have holds : ∀ j u, xs[j]? = some u → w.cell? ((⟨g, o, none⟩ : Addr).add j) = some u := fun j u hu => by
        have h3 : w.cell? ⟨g, o + j, none⟩ = some u := by
          rw [cell_of_row w g (o + j) cur e (0, 0) hh]
          exact hc j u hu
        unfold Addr.add
        split
        · rename_i hj; subst hj; simpa using h3
        · exact h3
      obtain ⟨v', w', hrun, ho, hg⟩ := run_append_arg_grows (P := P) (w := w) t ty e i z 1 bytes E.ht hi hz1 hz2 hz3 E.hz E.hs ⟨g, o, none⟩ n cap xs (by rw [Nat.mul_one]; exact hown.1) holds ad 1 c [y] rfl hcells (by omega) h63 hb
      refine ⟨v', w', hrun, OwnAt.of_own (own_base ho hbase), (Keep.of_grown hg).weaken (fun _ _ _ => by simp), ?_⟩
      obtain ⟨g', c', rfl, h5, _⟩ := own_form ho (by omega)
      exact .inr ⟨g', rfl, h5⟩
/-- .. for the walk: the element has just been laid in a block of its own. -/
theorem wpList_appAt (E : ET P t e 1 bytes z) {ops : Array Oper} {rest : List Oper} {o : Oper} {a : Act} {Q : Exit → Act → World → Prop} (hgd : o.guard = none) (s x : Operand)
    (ho : o.op = .call { callee := .builtin .append, args := #[s, x], argTypes := #[t, t] }) (y : Value) (te : TypeId) (hy : y.oneCell' = true)
    (base : Nat) (v : Value) (n : Nat) (xs : List Value) (B : Nat) (hB : B = w.heap.size) (hs : a.eval s = v) (hx : a.eval x = .slice (some ⟨B, 0, none⟩) 1 1) (hown : OwnAt w base e v n xs)
    (hb : (n + 1) * bytes ≤ 140737488355328) (hbase : base ≤ w.heap.size)
    (h : ∀ v' w', OwnAt w' base e v' (n + 1) (xs ++ [y]) → Keep (fun k => v.ownBlock ≠ some k) w w' → Next w.heap.size v v' → wpList P ops Q rest (a.put o.dst v') w') :
    wpList P ops Q (o :: rest) a (w.alloc (.cells #[y] te)) := by
  subst hB
  refine wpList_plain hgd fun K hK => ?_
  obtain ⟨v', w', hrun, h2, h3, h4⟩ := run_app_at E o.type (c := 1) (hown.keep (((Keep.refl (fun _ => True) w).alloc (.cells #[y] te))) (fun _ _ => trivial)) (Rd.one_new w y te) hy hb (by simp; omega)
  unfold Oper.wp execOp
  simp only [ho, resolve, invoke, builtin, Sem.run_bind, Sem.run_pure, Result.andThen_ok, List.map_toArray, List.map_cons, List.map_nil, hs, hx, hrun]
  exact hK _ _ (h v' w' h2 (((Keep.refl _ w).alloc _).comp h3 (fun _ _ h => h) (fun _ _ h => h)) (h4.imp id fun ⟨g, hg, hl⟩ => ⟨g, hg, by simp at hl; omega⟩))
end
end Go.Proofs.YtohnmaindbgngaaGreatDoor
namespace Go.Proofs.YtohnmaindbgngaaGreatDoor
set_option linter.unusedVariables false
set_option linter.unusedSimpArgs false

structure VCmd (num : Txt → Int × Bool) (c i r o : Int) (k v d : Txt) : Prop where
  c0 : 0 ≤ c
  c1 : c < 16
  i0 : 1 ≤ i
  i1 : i ≤ 4611686018427387904
  r0 : 1 ≤ r
  r1 : r ≤ 4611686018427387904
  o1 : 1 ≤ o
  o9 : o ≤ 9
  kl : o ≤ 8 → 1 ≤ k.length ∧ k.length ≤ 8
  vl : v.length ≤ 8
  e : o = 9 → 0 ≤ (num v).1 ∧ (num v).1 < 16
theorem apart_ne {ls : List LockD} (h : ls.Pairwise fun a b => a.token ≠ b.token) : ∀ a ∈ ls, ∀ b ∈ ls, a ≠ b → a.token ≠ b.token := by
  induction ls with
  | nil => intro a ha; cases ha
  | cons x r ih =>
    obtain ⟨h1, h2⟩ := List.pairwise_cons.1 h
    intro a ha b hb hab
    rcases List.mem_cons.1 ha with e1 | ha1
    · rcases List.mem_cons.1 hb with e2 | hb1
      · exact absurd (e1.trans e2.symm) hab
      · rw [e1]
        exact h1 b hb1
    · rcases List.mem_cons.1 hb with e2 | hb1
      · rw [e2]
        exact (h1 a ha1).symm
      · exact ih h2 a ha1 b hb1 hab
theorem res_small {code n : Int} {val : Txt} (h1 : 1 ≤ code ∧ code ≤ 11 ∧ code ≠ 10) (hv : val.length ≤ 8) (h2 : 0 ≤ n ∧ n ≤ 99999999) : ResOk ⟨code, val, n⟩ := ⟨h1.1, h1.2.1, h1.2.2, hv, h2.1, h2.2⟩
section
variable {num : Txt → Int × Bool} {ita : Int → Txt} {s : StD} {c i r o : Int} {k v d : Txt}
theorem onKey_ok (h : PInv s.pairs) (hk : 1 ≤ k.length ∧ k.length ≤ 8) (hv : v.length ≤ 8) :
    ResOk (onKeyD num ita o k v d s).1 ∧ PInv (onKeyD num ita o k v d s).2.pairs ∧ (onKeyD num ita o k v d s).2.locks = s.locks ∧ (onKeyD num ita o k v d s).2.tok = s.tok ∧ (onKeyD num ita o k v d s).2.ss = s.ss := by
  unfold onKeyD
  cases hf : pfindD k s.pairs with
  | none =>
    simp only
    split
    · split
      · exact ⟨res_small (by omega) (by simp) (by omega), h, rfl, rfl, rfl⟩
      · rename_i hl
        refine ⟨res_small (by omega) ?_ (by omega), h.put hk hv (fun _ => by omega), rfl, rfl, rfl⟩
        split
        · exact hv
        · simp
    · exact ⟨res_small (by omega) (by simp) (by omega), h, rfl, rfl, rfl⟩
  | some x =>
    obtain ⟨a, u⟩ := x
    obtain ⟨hn, hm⟩ := findK_some hf
    have hu : u.length ≤ 8 := (h.each _ hm).2.2
    have hnf : pfindD k s.pairs = none → s.pairs.length < 16 := fun e => by rw [hf] at e; cases e
    simp only
    split
    · exact ⟨res_small (by omega) hu (by omega), h.put hk hv hnf, rfl, rfl, rfl⟩
    · split
      · split
        · exact ⟨res_small (by omega) hu (by omega), h.put hk hv hnf, rfl, rfl, rfl⟩
        · exact ⟨res_small (by omega) hu (by omega), h, rfl, rfl, rfl⟩
      · split
        · exact ⟨res_small (by omega) hu (by omega), h.del k, rfl, rfl, rfl⟩
        · split
          · split
            · exact ⟨res_small (by omega) hu (by omega), h, rfl, rfl, rfl⟩
            · split
              · exact ⟨res_small (by omega) hu (by omega), h, rfl, rfl, rfl⟩
              · rename_i hi
                exact ⟨res_small (by omega) (by omega) (by omega), h.put hk (by omega) hnf, rfl, rfl, rfl⟩
          · exact ⟨res_small (by omega) hu (by omega), h, rfl, rfl, rfl⟩
theorem pass_num (h : LInv s.locks s.tok) : 0 ≤ (passD k s).1 ∧ (passD k s).1 ≤ 99999999 := by
  have h0 := h.tok0
  unfold passD
  split
  · exact ⟨Int.le_refl _, by omega⟩
  · split
    · exact ⟨Int.le_refl _, by omega⟩
    · split
      · exact ⟨Int.le_refl _, by omega⟩
      · constructor <;> simp only <;> omega
theorem onLock_ok (h : LInv s.locks s.tok) (hc : 0 ≤ c ∧ c < 16) (hk : 1 ≤ k.length ∧ k.length ≤ 8) :
    ResOk (onLockD num c o k v s).1 ∧ LInv (onLockD num c o k v s).2.locks (onLockD num c o k v s).2.tok ∧ (onLockD num c o k v s).2.pairs = s.pairs ∧ (onLockD num c o k v s).2.ss = s.ss ∧ ∀ x, who (onLockD num c o k v s).2.locks x → who s.locks x ∨ x = c := by
  have t0 := h.tok0
  have t1 := h.tok1
  unfold onLockD
  cases hf : lfind k s.locks with
  | none =>
    simp only
    split
    · split
      · exact ⟨res_small (by omega) (by simp) (by omega), h, rfl, rfl, fun x hx => .inl hx⟩
      · split
        · exact ⟨res_small (by omega) (by simp) (by omega), h, rfl, rfl, fun x hx => .inl hx⟩
        · rename_i hl ht
          refine ⟨res_small (by omega) (by simp) (by omega), h.ins ⟨k, c, s.tok + 1, []⟩ ⟨hk.1, hk.2, hc.1, hc.2, by show 1 ≤ s.tok + 1; omega, Int.le_refl _, List.nodup_nil, by simp, by simp⟩ rfl (findK_none hf) (by omega) (by omega), rfl, rfl, fun x hx => ?_⟩
          obtain ⟨l, hl2, hh⟩ := hx
          rcases insK_mem.1 hl2 with rfl | h3
          · rcases hh with rfl | hh
            · exact .inr rfl
            · simp at hh
          · exact .inl ⟨l, h3, hh⟩
    · exact ⟨res_small (by omega) (by simp) (by omega), h, rfl, rfl, fun x hx => .inl hx⟩
  | some l =>
    obtain ⟨hn, hm⟩ := findK_some hf
    have hl := h.each l hm
    have lt1 := hl.t1
    have lt0 := hl.t0
    have hql := queue_len hl.nd hl.q
    have hset : ∀ x : LockD, x.name = k → x.token = l.token → LOk s.tok x → LInv (setK LockD.name x s.locks) s.tok := fun x hx hxt hok => h.set x hok (Int.le_refl _) t1 (fun m hm2 hne => by
      rw [hxt]
      exact apart_ne h.apart m hm2 l hm (fun e2 => hne (by rw [e2, hn, hx])))
    simp only
    split
    · split
      · exact ⟨res_small (by omega) (by simp) (by omega), h, rfl, rfl, fun x hx => .inl hx⟩
      · split
        · rename_i hq
          have := List.idxOf_lt_length_of_mem hq
          exact ⟨res_small (by omega) (by simp) (by omega), h, rfl, rfl, fun x hx => .inl hx⟩
        · rename_i hh hq
          refine ⟨res_small (by omega) (by simp) (by omega), hset _ hn rfl ⟨hl.n1, hl.n8, hl.h0, hl.h1, hl.t0, hl.t1, ?_, fun x hx => ?_, fun hx => ?_⟩, rfl, rfl, fun x hx => ?_⟩
          · show (l.queue ++ [c]).Nodup
            rw [List.nodup_append]
            exact ⟨hl.nd, by simp, fun a ha b hb => by
              simp at hb
              subst hb
              rintro rfl
              exact hq ha⟩
          · rcases List.mem_append.1 hx with h1 | h1
            · exact hl.q x h1
            · simp at h1; subst h1; exact hc
          · rcases List.mem_append.1 hx with h1 | h1
            · exact hl.hq h1
            · simp at h1; exact hh h1
          · obtain ⟨m, hm2, hmm⟩ := hx
            rcases setK_mem hm2 with rfl | ⟨h3, _⟩
            · rcases hmm with rfl | hmm
              · exact .inl ⟨l, hm, .inl rfl⟩
              · rcases List.mem_append.1 hmm with h1 | h1
                · exact .inl ⟨l, hm, .inr h1⟩
                · simp at h1; exact .inr h1
            · exact .inl ⟨m, h3, hmm⟩
    · split
      · split
        · have hp := pass_num (k := k) h
          exact ⟨res_small (by omega) (by simp) hp, h.pass k, (pass_rest k s).1, (pass_rest k s).2, fun x hx => .inl (who_pass hx)⟩
        · split
          · refine ⟨res_small (by omega) (by simp) (by omega), hset _ hn rfl (leave_ok hl), rfl, rfl, fun x hx => ?_⟩
            obtain ⟨m, hm2, hmm⟩ := hx
            rcases setK_mem hm2 with rfl | ⟨h3, _⟩
            · rcases hmm with rfl | hmm
              · exact .inl ⟨l, hm, .inl rfl⟩
              · exact .inl ⟨l, hm, .inr (List.mem_filter.1 hmm).1⟩
            · exact .inl ⟨m, h3, hmm⟩
          · exact ⟨res_small (by omega) (by simp) (by omega), h, rfl, rfl, fun x hx => .inl hx⟩
      · split
        · exact ⟨res_small (by omega) (by simp) (by omega), h, rfl, rfl, fun x hx => .inl hx⟩
        · exact ⟨res_small (by omega) (by simp) (by omega), h, rfl, rfl, fun x hx => .inl hx⟩
theorem lets_num (h : LInv s.locks s.tok) : 0 ≤ (letsD c s).1 ∧ (letsD c s).1 ≤ 8 := by
  have h1 : (heldBy c s.locks).length ≤ s.locks.length := by
    unfold heldBy
    rw [List.length_map]
    exact List.length_filter_le _ _
  have := h.len
  unfold letsD
  constructor <;> simp only <;> omega
theorem end_ok (h : LInv s.locks s.tok) :
    ResOk (endD num v s).1 ∧ LInv (endD num v s).2.locks (endD num v s).2.tok ∧ (endD num v s).2.pairs = s.pairs ∧ (endD num v s).2.ss = s.ss ∧ ∀ x, who (endD num v s).2.locks x → who s.locks x := by
  unfold endD
  split
  · exact ⟨res_small (by omega) (by simp) (by omega), h, rfl, rfl, fun x hx => hx⟩
  · have hn := lets_num (c := (num v).1) h
    exact ⟨res_small (by omega) (by simp) (by omega), h.lets _, (lets_rest _ _).1, (lets_rest _ _).2, fun x hx => who_lets hx⟩
theorem does_ok (h : LInv s.locks s.tok) (hp : PInv s.pairs) (hv : VCmd num c i r o k v d) :
    ResOk (doesD num ita c o k v d s).1 ∧ LInv (doesD num ita c o k v d s).2.locks (doesD num ita c o k v d s).2.tok ∧ PInv (doesD num ita c o k v d s).2.pairs ∧ (doesD num ita c o k v d s).2.ss = s.ss ∧ ∀ x, who (doesD num ita c o k v d s).2.locks x → who s.locks x ∨ x = c := by
  unfold doesD
  split
  · obtain ⟨h1, h2, h3, h4, h5⟩ := onKey_ok (num := num) (ita := ita) (o := o) (d := d) hp (hv.kl (by omega)) hv.vl
    exact ⟨h1, by rw [h3, h4]; exact h, h2, h5, fun x hx => .inl (h3 ▸ hx)⟩
  · split
    · obtain ⟨h1, h2, h3, h4, h5⟩ := onLock_ok (num := num) (o := o) (v := v) h ⟨hv.c0, hv.c1⟩ (hv.kl (by omega))
      exact ⟨h1, h2, by rw [h3]; exact hp, h4, h5⟩
    · obtain ⟨h1, h2, h3, h4, h5⟩ := end_ok (num := num) (v := v) h
      exact ⟨h1, h2, by rw [h3]; exact hp, h4, fun x hx => .inl (h5 x hx)⟩
theorem getD_mem {l : List SesD} {n : Nat} (h : n < l.length) : l.getD n noSes ∈ l := by
  rw [List.getD_eq_getElem?_getD, List.getElem?_eq_getElem h]
  exact List.getElem_mem h
/-- Behind every valid command. -/
theorem apply_ok (h : Inv s) (hv : VCmd num c i r o k v d) : ResOk (applyV num ita c i r o k v d s).1 ∧ Inv (applyV num ita c i r o k v d s).2 := by
  have hcl : c.toNat < s.ss.length := by rw [h.s16]; have := hv.c0; have := hv.c1; omega
  unfold applyV
  simp only
  split
  · exact ⟨res_small (by omega) (by simp) (by omega), h⟩
  · split
    · rename_i hz
      rcases h.ses _ (getD_mem hcl) with e | e
      · rw [e] at hz
        have := hv.i0
        simp [noSes] at hz
        omega
      · exact ⟨e.last, h⟩
    · have hs1 : ∀ s1 : StD, (LInv s1.locks s1.tok ∧ s1.pairs = s.pairs ∧ s1.ss = s.ss ∧ ∀ x, who s1.locks x → who s.locks x) → ResOk (doesD num ita c o k v d s1).1 ∧ Inv { (doesD num ita c o k v d s1).2 with ss := (doesD num ita c o k v d s1).2.ss.set c.toNat ⟨i, r, (doesD num ita c o k v d s1).1⟩ } := by
        rintro s1 ⟨a1, a2, a3, a4⟩
        obtain ⟨d1, d2, d3, d4, d5⟩ := does_ok (ita := ita) a1 (by rw [a2]; exact h.pr) hv
        refine ⟨d1, d2, d3, by rw [List.length_set, d4, a3]; exact h.s16, fun x hx => ?_, fun x hx => ?_⟩
        · rcases List.mem_or_eq_of_mem_set hx with h1 | rfl
          · rw [d4, a3] at h1
            exact h.ses x h1
          · exact .inr ⟨hv.i0, hv.i1, hv.r0, hv.r1, d1⟩
        · have hi0 := hv.i0
          by_cases hxc : x.toNat = c.toNat
          · rw [hxc, List.getD_eq_getElem?_getD, List.getElem?_set_self (by rw [d4, a3]; exact hcl)]
            show 0 < i
            omega
          · rw [List.getD_eq_getElem?_getD, List.getElem?_set_ne (fun e => hxc e.symm), d4, a3, ← List.getD_eq_getElem?_getD]
            rcases d5 x hx with h1 | rfl
            · exact h.link x (a4 x h1)
            · exact absurd rfl hxc
      split
      · exact hs1 _ ⟨h.lk.lets c, (lets_rest c s).1, (lets_rest c s).2, fun x hx => who_lets hx⟩
      · exact hs1 _ ⟨h.lk, rfl, rfl, fun x hx => hx⟩
end
end Go.Proofs.YtohnmaindbgngaaGreatDoor
namespace Go.Proofs.YtohnmaindbgngaaGreatDoor
set_option linter.unusedVariables false
set_option linter.unusedSimpArgs false
open Go.RowKit
open Go.Maps (Keyed)

def leftIs (todo : List (List UInt8)) (z : Lit) : Bool := todo.any fun t => (Lit.string t).sameKey z
theorem leftIs_str (todo : List (List UInt8)) (k : List UInt8) : leftIs todo (.string k) = true ↔ k ∈ todo := by
  unfold leftIs
  rw [List.any_eq_true]
  constructor
  · rintro ⟨t, ht, h⟩
    have : t = k := by simpa [Lit.sameKey] using h
    exact this ▸ ht
  · exact fun h => ⟨k, h, by simp [Lit.sameKey]⟩
theorem leftIs_nil {todo : List (List UInt8)} (h : ∀ z, leftIs todo z = false) : todo = [] := by
  cases todo with
  | nil => rfl
  | cons k r =>
    have := h (.string k)
    rw [(leftIs_str _ _).2 (by simp)] at this
    cases this
theorem leftIs_strike (todo : List (List UInt8)) (k : List UInt8) : (fun z => leftIs todo z && !z.sameKey (.string k)) = leftIs (todo.filter fun t => !(t == k)) := by
  funext z
  cases z with
  | string s =>
    have e : (Lit.string s).sameKey (.string k) = (s == k) := rfl
    rw [e]
    cases h1 : leftIs todo (.string s) && !(s == k) with
    | true =>
      rw [Bool.and_eq_true] at h1
      symm
      rw [leftIs_str]
      exact List.mem_filter.2 ⟨(leftIs_str _ _).1 h1.1, h1.2⟩
    | false =>
      cases h2 : leftIs (todo.filter fun t => !(t == k)) (.string s) with
      | false => rfl
      | true =>
        rw [leftIs_str] at h2
        obtain ⟨h3, h4⟩ := List.mem_filter.1 h2
        rw [(leftIs_str _ _).2 h3, h4] at h1
        cases h1
  | _ =>
    have n : ∀ l : List (List UInt8), (l.any fun _ => false) = false := fun l => by induction l <;> simp_all
    simp [leftIs, Lit.sameKey, n]
theorem leftIs_all (ps : List Kv) : Maps.has (mD ps) = leftIs (ps.map Prod.fst) := by
  funext z
  unfold mD Maps.has leftIs
  simp only [List.any_map]
  rfl

/-- Under way: these keys are still to come. -/
def RangeIs (P : Program) (k : TypeId) (w : World) (b r : Nat) (ps : List Kv) (todo : List (List UInt8)) : Prop := ∃ cnt, w.ranges P k Rv b r ps.length (mD ps) (leftIs todo) cnt
section
variable {P : Program} {k : TypeId} {w w' : World} {b r : Nat} {ps : List Kv} {todo : List (List UInt8)}
theorem RangeIs.map (h : RangeIs P k w b r ps todo) : MapIs P k w b ps := by
  obtain ⟨cnt, h⟩ := h
  exact h.owns
theorem RangeIs.ne (h : RangeIs P k w b r ps todo) : r ≠ b := by
  obtain ⟨cnt, h⟩ := h
  exact h.ne
theorem RangeIs.lt (h : RangeIs P k w b r ps todo) : r < w.heap.size := by
  obtain ⟨cnt, h⟩ := h
  exact h.lt
theorem RangeIs.keep {Z : Nat → Prop} (h : RangeIs P k w b r ps todo) (hk : Keep Z w w') (hb : Z b) (hr : Z r) : RangeIs P k w' b r ps todo := by
  have h1 := h.map.lt
  have h2 := h.lt
  obtain ⟨cnt, es, clock, since, seen, c0, e1, F, hs, hD, e2, rest⟩ := h
  exact ⟨cnt, es, clock, since, seen, c0, (hk.block b h1 hb).trans e1, F, hs, hD, (hk.block r h2 hr).trans e2, rest⟩
theorem RangeIs.left {Z : Nat → Prop} (h : RangeIs P k w b r ps todo) (hk : Keep Z w w') (hb : Z b) (hr : Z r) : w'.rangeLeft b r = w.rangeLeft b r := by
  unfold World.rangeLeft
  rw [hk.block b h.map.lt hb, hk.block r h.lt hr]
theorem RangeIs.ne_blk {g : Nat} {t : TypeId} {cs : Array Value} (h : RangeIs P k w b r ps todo) (hg : Blk w g t cs) : r ≠ g := by
  rintro rfl
  obtain ⟨cnt, es, clock, since, seen, c0, e1, F, hs, hD, e2, rest⟩ := h
  unfold Blk at hg
  rw [hg] at e2
  cases e2

/-- 'range m'. -/
theorem wpList_rangeIs {t e : TypeId} {ops : Array Oper} {rest : List Oper} {o : Oper} {a : Act} {Q : Exit → Act → World → Prop} (hgd : o.guard = none) (m : Operand) (hop : o.op = Op.range t m) (hk : P.underlying k = some .string) (ht : P.underlying t = some (.map k e))
    (hm : a.eval m = .map (some b)) (h : MapIs P k w b ps)
    (hK : ∀ w', RangeIs P k w' b w.heap.size ps (ps.map Prod.fst) → Keep (fun _ => True) w w' → w'.heap.size = w.heap.size + 1 → wpList P ops Q rest (a.put o.dst (.pointer (some ⟨w.heap.size, 0, none⟩))) w') : wpList P ops Q (o :: rest) a w := by
  refine wpList_plain hgd fun K' hK' => ?_
  obtain ⟨w', hrun, r1, r2, r3⟩ := World.ownsMap.range h (Maps.string_keyed hk) ht
  unfold Oper.wp
  simp [execOp, hop, hm, hrun, Result.andThen]
  rw [leftIs_all] at r1
  exact hK' _ _ (hK w' ⟨_, r1⟩ ((Keep.of_grown r2).weaken (fun _ _ _ => by simp)) r3)
theorem str_list (s : ByteArray) : (.string s : Value) = .string ⟨s.data.toList.toArray⟩ := by simp
theorem keyOf_str_inv (hk : P.underlying k = some .string) {key : Value} {kl : Lit} (h : keyOf P k key = some kl) : ∃ t : List UInt8, key = .string ⟨t.toArray⟩ ∧ kl = .string t := by
  cases key <;> simp [keyOf, hk, mapKey] at h
  rename_i s
  exact ⟨s.data.toList, str_list s, h.2.symm⟩
theorem atKey_find {t : List UInt8} {v : Value} (h : ∀ zd : DataW Value, (mD ps).atKey (.string t) zd = .held v) : mfind t ps = some v := by
  have h1 := h (.held (.bool true))
  have h2 := h (.held (.bool false))
  rw [mD_at] at h1 h2
  cases hf : mfind t ps with
  | some u =>
    rw [hf] at h1
    injection h1 with h1
    exact congrArg some h1
  | none =>
    rw [hf] at h1 h2
    have : (DataW.held (Value.bool true) : DataW Value) = .held (.bool false) := h1.trans h2.symm
    injection this with this
    injection this with this
    cases this
/-- The step. -/
theorem wpList_nextIs {ops : Array Oper} {rest : List Oper} {o : Oper} {a : Act} {Q : Exit → Act → World → Prop} (hgd : o.guard = none) (it : Operand) (hop : o.op = Op.next it false) (hk : P.underlying k = some .string)
    (hit : a.eval it = .pointer (some ⟨r, 0, none⟩)) (h : RangeIs P k w b r ps todo)
    (hDone : todo = [] → wpList P ops Q rest (a.put o.dst (.tuple #[.bool false])) w)
    (hMore : ∀ (t : List UInt8) (v : Value) (w' : World), t ∈ todo → mfind t ps = some v → RangeIs P k w' b r ps (todo.filter fun x => !(x == t)) → Keep (fun i => i ≠ r) w w' → w'.heap.size = w.heap.size → w'.rangeLeft b r < w.rangeLeft b r →
      (Instr.entry (.pointer (some ⟨r, 0, none⟩))).run P w' = .ok (.tuple #[.string ⟨t.toArray⟩, v]) w' → wpList P ops Q rest (a.put o.dst (.tuple #[.bool true, .string ⟨t.toArray⟩, v])) w') : wpList P ops Q (o :: rest) a w := by
  refine wpList_plain hgd fun K' hK' => ?_
  obtain ⟨cnt, h⟩ := h
  unfold Oper.wp
  rcases h.next (Maps.string_keyed hk) o.type with ⟨h0, hl, hrun⟩ | ⟨key, v, kl, y, w', cnt', hkey, hlk, hv, hat, hrun, hrg, hlt, hgr, hsz, hen⟩
  · simp [execOp, hop, hit, hrun, Result.andThen]
    exact hK' _ _ (hDone (leftIs_nil hl))
  · obtain ⟨t, rfl, rfl⟩ := keyOf_str_inv hk hkey
    unfold Rv at hv
    injection hv with hv
    subst hv
    rw [leftIs_strike] at hrg
    simp [execOp, hop, hit, hrun, Result.andThen]
    exact hK' _ _ (hMore t v w' ((leftIs_str _ _).1 hlk) (atKey_find hat) ⟨_, hrg⟩ ((Keep.of_grown hgr).weaken (fun i _ hi e => hi (by injection e with e; exact e.symm))) hsz (by rw [hrg.left_eq, h.left_eq]; exact hlt) hen)
end
end Go.Proofs.YtohnmaindbgngaaGreatDoor
namespace Go.Proofs.YtohnmaindbgngaaGreatDoor
set_option linter.unusedVariables false
set_option linter.unusedSimpArgs false
open Go.RowKit

/-! ### maps and rising lists -/
section
variable {α : Type} {key : α → Txt} {f : α → Kv}
theorem mfind_map (hf : ∀ x, (f x).1 = key x) (k : Txt) (l : List α) : mfind k (l.map f) = (findK key k l).map fun x => (f x).2 := by
  unfold mfind findK
  rw [List.find?_map]
  have e : ((fun p : Kv => p.1 == k) ∘ f) = fun x => key x == k := by funext x; simp [hf]
  rw [e, Option.map_map]
  rfl
theorem mdel_map (hf : ∀ x, (f x).1 = key x) (k : Txt) (l : List α) : mdel k (l.map f) = (delK key k l).map f := by
  unfold mdel delK
  rw [List.filter_map]
  have e : ((fun p : Kv => !(p.1 == k)) ∘ f) = fun x => !(key x == k) := by funext x; simp [hf]
  rw [e]
theorem mins_map (hf : ∀ x, (f x).1 = key x) (x : α) : ∀ l : List α, mins (f x) (l.map f) = (insK key x l).map f
  | [] => rfl
  | y :: r => by
    rw [List.map_cons, mins, insK, hf, hf]
    split
    · rfl
    · rw [mins_map hf x r]; rfl
theorem mput_new (hf : ∀ x, (f x).1 = key x) (x : α) (l : List α) (hn : ∀ y ∈ l, key y ≠ key x) : mput (key x) (f x).2 (l.map f) = (insK key x l).map f := by
  unfold mput
  rw [mdel_map hf, delK_none hn]
  have e : ((key x, (f x).2) : Kv) = f x := by rw [← hf]
  rw [e, mins_map hf]
theorem setK_ins {x : α} {l : List α} (hr : Rise (l.map key)) (hx : ∃ y ∈ l, key y = key x) : insK key x (delK key (key x) l) = setK key x l := by
  refine rise_ext (key := key) (insK_rise (delK_rise hr) (fun y hy => (delK_mem.1 hy).2)) (by rw [setK_keys]; exact hr) fun z => ?_
  rw [insK_mem, delK_mem]
  constructor
  · rintro (rfl | ⟨h1, h2⟩)
    · obtain ⟨y, hy, he⟩ := hx
      exact List.mem_map.2 ⟨y, hy, by simp [he]⟩
    · exact List.mem_map.2 ⟨z, h1, by simp [h2]⟩
  · exact setK_mem
theorem mput_old (hf : ∀ x, (f x).1 = key x) (x : α) (l : List α) (hr : Rise (l.map key)) (hx : ∃ y ∈ l, key y = key x) : mput (key x) (f x).2 (l.map f) = (setK key x l).map f := by
  unfold mput
  rw [mdel_map hf]
  have e : ((key x, (f x).2) : Kv) = f x := by rw [← hf]
  rw [e, mins_map hf, setK_ins hr hx]
end
theorem pdel_eq (k : Txt) (ps : Ps) : pdel k ps = delK Prod.fst k ps := rfl
theorem pins_eq (x : Txt × Txt) : ∀ ps : Ps, pins x ps = insK Prod.fst x ps
  | [] => rfl
  | y :: r => by
    rw [pins, insK]
    split
    · rfl
    · rw [pins_eq x r]
theorem pput_eq (k v : Txt) (ps : Ps) (hr : Rise (ps.map Prod.fst)) : pput k v ps = pputD k v ps := by
  unfold pput pputD
  rw [pins_eq, pdel_eq]
  cases hf : pfindD k ps with
  | none => rw [delK_none (findK_none hf)]
  | some x =>
    obtain ⟨h1, h2⟩ := findK_some hf
    exact setK_ins (key := Prod.fst) (x := (k, v)) hr ⟨x, h2, h1⟩
theorem pfind_eq (k : Txt) (ps : Ps) : pfind k ps = (pfindD k ps).map Prod.snd := rfl

/-! ### locks in memory -/
structure LkM where
  d : LockD
  h : Nat
  v : Value
abbrev LkM.key (x : LkM) : Txt := x.d.name
def LkM.kv (x : LkM) : Kv := (x.d.name, .pointer (some ⟨x.h, 0, none⟩))
structure LkIs (S : Nat → Prop) (w : World) (x : LkM) : Prop where
  blk : Blk w x.h 121 #[.int .i64 x.d.holder, .int .i64 x.d.token, x.v]
  row : OwnAt w 0 3 x.v x.d.queue.length (ics x.d.queue)
  sh : S x.h
  sv : ∀ k, x.v.ownBlock = some k → S k
def LApart (a b : LkM) : Prop := a.h ≠ b.h ∧ ∀ k, a.v.ownBlock = some k → b.v.ownBlock ≠ some k
structure Lks (S : Nat → Prop) (w : World) (bl : Nat) (ms : List LkM) (ls : List LockD) : Prop where
  map : MapIs Tryz.prog 9 w bl (ms.map LkM.kv)
  each : ∀ x ∈ ms, LkIs S w x
  apart : ms.Pairwise LApart
  data : ms.map LkM.d = ls
  sb : S bl
theorem LApart.symm {a b : LkM} (h : LApart a b) : LApart b a := ⟨h.1.symm, fun k hk e => h.2 k e hk⟩
section
variable {S S' : Nat → Prop} {w w' : World} {bl : Nat} {ms : List LkM} {ls : List LockD} {x y : LkM}
theorem LkIs.keep {Z : Nat → Prop} (h : LkIs S w x) (hk : Keep Z w w') (h1 : Z x.h) (h2 : ∀ k, x.v.ownBlock = some k → Z k) : LkIs S w' x := ⟨h.blk.keep hk h1, h.row.keep hk h2, h.sh, h.sv⟩
theorem LkIs.widen (h : LkIs S w x) (hs : ∀ j, S j → S' j) : LkIs S' w x := ⟨h.blk, h.row, hs _ h.sh, fun k hk => hs _ (h.sv k hk)⟩
theorem LkIs.lt (h : LkIs S w x) : x.h < w.heap.size := h.blk.lt
theorem LkIs.vlt (h : LkIs S w x) {k : Nat} (hk : x.v.ownBlock = some k) : k < w.heap.size := (h.row.lt hk).2
theorem LkIs.vne (h : LkIs S w x) (k : LkIs S w y) : x.v.ownBlock ≠ some y.h := h.row.ne_blk k.blk (by decide)
theorem MapIs.ne_own {P : Program} {k : TypeId} {b base e n : Nat} {ps : List Kv} {v : Value} {xs : List Value} (h : MapIs P k w b ps) (ho : OwnAt w base e v n xs) : v.ownBlock ≠ some b := by
  rcases ho.2 with ⟨rfl, _⟩ | ⟨g, o, cap, cur, rfl, _, hh, _⟩
  · simp [Value.ownBlock]
  · intro he
    have : g = b := by simpa [Value.ownBlock] using he
    subst this
    exact h.ne_blk (g := g) (t := e) hh rfl
theorem Lks.keep {Z : Nat → Prop} (h : Lks S w bl ms ls) (hk : Keep Z w w') (hz : ∀ j, S j → Z j) : Lks S w' bl ms ls :=
  ⟨h.map.keep hk (hz _ h.sb), fun x hx => (h.each x hx).keep hk (hz _ (h.each x hx).sh) (fun k hk => hz _ ((h.each x hx).sv k hk)), h.apart, h.data, h.sb⟩
theorem Lks.widen (h : Lks S w bl ms ls) (hs : ∀ j, S j → S' j) : Lks S' w bl ms ls := ⟨h.map, fun x hx => (h.each x hx).widen hs, h.apart, h.data, hs _ h.sb⟩
theorem Lks.tight (h : Lks S w bl ms ls) : Lks (fun j => S j ∧ j < w.heap.size) w bl ms ls :=
  ⟨h.map, fun x hx => ⟨(h.each x hx).blk, (h.each x hx).row, ⟨(h.each x hx).sh, (h.each x hx).lt⟩, fun k hk => ⟨(h.each x hx).sv k hk, (h.each x hx).vlt hk⟩⟩, h.apart, h.data, ⟨h.sb, h.map.lt⟩⟩
theorem Lks.keys (h : Lks S w bl ms ls) : ms.map LkM.key = ls.map LockD.name := by
  rw [← h.data, List.map_map]
  rfl
theorem findK_data (k : Txt) (ms : List LkM) : findK LockD.name k (ms.map LkM.d) = (findK LkM.key k ms).map LkM.d := by
  unfold findK
  rw [List.find?_map]
  rfl
/-- The lock of a name. -/
theorem Lks.find (h : Lks S w bl ms ls) {k : Txt} {l : LockD} (hl : lfind k ls = some l) : ∃ x ∈ ms, x.d = l ∧ x.d.name = k ∧ mfind k (ms.map LkM.kv) = some (.pointer (some ⟨x.h, 0, none⟩)) := by
  rw [← h.data] at hl
  have h1 := findK_data k ms
  rw [show findK LockD.name k (ms.map LkM.d) = _ from hl] at h1
  cases hf : findK LkM.key k ms with
  | none => rw [hf] at h1; cases h1
  | some x =>
    rw [hf] at h1
    injection h1 with h1
    obtain ⟨h2, h3⟩ := findK_some hf
    refine ⟨x, h3, h1.symm, h2, ?_⟩
    rw [mfind_map (key := LkM.key) (fun _ => rfl), hf]
    rfl
theorem Lks.gone (h : Lks S w bl ms ls) {k : Txt} (hl : lfind k ls = none) : mfind k (ms.map LkM.kv) = none := by
  rw [← h.data] at hl
  have h1 := findK_data k ms
  rw [show findK LockD.name k (ms.map LkM.d) = _ from hl] at h1
  rw [mfind_map (key := LkM.key) (fun _ => rfl)]
  cases hf : findK LkM.key k ms with
  | none => rfl
  | some x => rw [hf] at h1; cases h1
theorem Lks.len (h : Lks S w bl ms ls) : (ms.map LkM.kv).length = ls.length := by rw [← h.data]; simp
theorem Lks.apart_of (h : Lks S w bl ms ls) (hr : Rise (ls.map LockD.name)) (hx : x ∈ ms) (hy : y ∈ ms) (hne : y.d.name ≠ x.d.name) : LApart x y := by
  have h1 : ∀ a ∈ ms, ∀ b ∈ ms, a ≠ b → LApart a b := by
    have := h.apart
    intro a ha b hb hab
    have p1 : ms.Pairwise (fun a b => a ≠ b → LApart a b) := this.imp (fun {a b} (h : LApart a b) (_ : a ≠ b) => h)
    have p2 : ms.Pairwise (fun a b => b ≠ a → LApart b a) := this.imp (fun {a b} (h : LApart a b) (_ : b ≠ a) => h.symm)
    exact List.Pairwise.forall_of_forall_of_flip (R := fun a b => a ≠ b → LApart a b) (fun a _ h => absurd rfl h) p1 p2 ha hb hab
  exact h1 x hx y hy (fun e => hne (by rw [e]))
theorem name_inj (h : Lks S w bl ms ls) (hr : Rise (ls.map LockD.name)) (hx : x ∈ ms) (hy : y ∈ ms) (he : y.d.name = x.d.name) : y = x := by
  have h1 : Rise (ms.map LkM.key) := by rw [h.keys]; exact hr
  have h2 := findK_of (key := LkM.key) h1 hx rfl
  have h3 := findK_of (key := LkM.key) h1 hy he
  rw [h2] at h3
  injection h3 with h3
  exact h3.symm
theorem setK_kv (h : Lks S w bl ms ls) (hr : Rise (ls.map LockD.name)) (hx : x ∈ ms) {x' : LkM} (hh : x'.h = x.h) (hn : x'.d.name = x.d.name) : (setK LkM.key x' ms).map LkM.kv = ms.map LkM.kv := by
  unfold setK
  rw [List.map_map]
  refine List.map_congr_left fun y hy => ?_
  simp only [Function.comp]
  split
  · rename_i he
    have he2 : y.d.name = x.d.name := by rw [← hn]; simpa using he
    have := name_inj h hr hx hy he2
    subst this
    show (x'.d.name, Value.pointer (some ⟨x'.h, 0, .none⟩)) = _
    rw [hn, hh]
    rfl
  · rfl
theorem setK_data {x' : LkM} (ms : List LkM) : (setK LkM.key x' ms).map LkM.d = setK LockD.name x'.d (ms.map LkM.d) := by
  unfold setK
  rw [List.map_map, List.map_map]
  refine List.map_congr_left fun y _ => ?_
  simp only [Function.comp]
  split <;> rfl
/-- One lock is turned where it lies. -/
theorem Lks.turn (h : Lks S w bl ms ls) (hr : Rise (ls.map LockD.name)) (hx : x ∈ ms) {Z : Nat → Prop} (hk : Keep Z w w') (hz : ∀ j, S j → j ≠ x.h → x.v.ownBlock ≠ some j → Z j) {x' : LkM} (hx' : LkIs S' w' x') (hh : x'.h = x.h) (hn : x'.d.name = x.d.name) (hs : ∀ j, S j → S' j)
    (hv : Next w.heap.size x.v x'.v) : Lks S' w' bl (setK LkM.key x' ms) (setK LockD.name x'.d ls) := by
  have hxx := h.each x hx
  refine ⟨?_, ?_, ?_, by rw [setK_data, h.data], hs _ h.sb⟩
  · rw [setK_kv h hr hx hh hn]
    exact h.map.keep hk (hz _ h.sb (h.map.ne_blk hxx.blk) (h.map.ne_own hxx.row))
  · intro y hy
    rcases setK_mem hy with rfl | ⟨h2, h3⟩
    · exact hx'
    · have h3 : y.d.name ≠ x.d.name := by rw [← hn]; exact h3
      have ha := h.apart_of hr hx h2 h3
      have hy2 := h.each y h2
      refine (hy2.keep hk (hz _ hy2.sh ha.1.symm (hxx.vne hy2)) fun k hk2 => hz _ (hy2.sv k hk2) ?_ fun e => ha.2 k e hk2).widen hs
      intro e
      subst e
      exact hy2.vne hxx hk2
  · have hone : ∀ y ∈ ms, y.d.name ≠ x.d.name → LApart x' y := by
      intro y hy hne
      have ha := h.apart_of hr hx hy hne
      have hy2 := h.each y hy
      refine ⟨by rw [hh]; exact ha.1, fun k hk2 hk3 => ?_⟩
      rcases hv with hv | ⟨g, hg, hg2⟩
      · exact ha.2 k (hv ▸ hk2) hk3
      · rw [hg] at hk2
        injection hk2 with hk2
        have := hy2.vlt hk3
        omega
    have hr2 : ms.Pairwise fun a b => a.d.name ≠ b.d.name := by
      have : Rise (ms.map LkM.key) := by rw [h.keys]; exact hr
      unfold Rise at this
      rw [List.pairwise_map] at this
      exact this.imp before_ne
    unfold setK
    rw [List.pairwise_map]
    refine (h.apart.and hr2).imp_of_mem ?_
    intro a b ha hb ⟨h3, h4⟩
    by_cases e1 : a.d.name = x'.d.name
    · have e2 : b.d.name ≠ x'.d.name := fun e => h4 (e1.trans e.symm)
      simp only [e1, beq_self_eq_true, if_true, beq_iff_eq, e2, if_false]
      exact hone b hb (hn ▸ e2)
    · by_cases e2 : b.d.name = x'.d.name
      · simp only [e2, beq_self_eq_true, if_true, beq_iff_eq, e1, if_false]
        exact (hone a ha (hn ▸ e1)).symm
      · simp only [beq_iff_eq, e1, e2, if_false]
        exact h3
/-- A lock is gone. -/
theorem Lks.del (h : Lks S w bl ms ls) (k : Txt) (hm : MapIs Tryz.prog 9 w' bl (mdel k (ms.map LkM.kv))) {Z : Nat → Prop} (hk : Keep Z w w') (hz : ∀ j, S j → j ≠ bl → Z j) : Lks S w' bl (delK LkM.key k ms) (delK LockD.name k ls) := by
  rw [mdel_map (key := LkM.key) (fun _ => rfl)] at hm
  refine ⟨hm, fun x hx => ?_, h.apart.sublist List.filter_sublist, ?_, h.sb⟩
  · have h2 := h.each x (delK_mem.1 hx).1
    exact h2.keep hk (hz _ h2.sh fun e => h.map.ne_blk h2.blk e.symm) (fun k hk => hz _ (h2.sv k hk) fun e => h.map.ne_own h2.row (e ▸ hk))
  · rw [← h.data]
    unfold delK
    rw [List.filter_map]
    rfl
theorem insK_data (x : LkM) : ∀ ms : List LkM, (insK LkM.key x ms).map LkM.d = insK LockD.name x.d (ms.map LkM.d)
  | [] => rfl
  | y :: r => by
    rw [insK, List.map_cons, insK]
    split
    · rfl
    · rw [List.map_cons, insK_data x r]
/-- A lock has come. -/
theorem Lks.ins (h : Lks S w bl ms ls) (x : LkM) (hm : MapIs Tryz.prog 9 w' bl (mput x.d.name (.pointer (some ⟨x.h, 0, none⟩)) (ms.map LkM.kv))) {Z : Nat → Prop} (hk : Keep Z w w') (hz : ∀ j, S j → j ≠ bl → Z j) (hx : LkIs S' w' x) (hs : ∀ j, S j → S' j)
    (hn : ∀ l ∈ ls, l.name ≠ x.d.name) (h1 : w.heap.size ≤ x.h) (h2 : x.v.ownBlock = none) : Lks S' w' bl (insK LkM.key x ms) (insK LockD.name x.d ls) := by
  have hn2 : ∀ y ∈ ms, y.d.name ≠ x.d.name := fun y hy => hn y.d (by rw [← h.data]; exact List.mem_map.2 ⟨y, hy, rfl⟩)
  have e := mput_new (key := LkM.key) (f := LkM.kv) (fun _ => rfl) x ms hn2
  rw [show mput x.d.name (.pointer (some ⟨x.h, 0, .none⟩)) (ms.map LkM.kv) = _ from e] at hm
  have hone : ∀ y ∈ ms, LApart x y := fun y hy => ⟨fun e2 => by have := (h.each y hy).lt; omega, fun k hk2 => by rw [h2] at hk2; cases hk2⟩
  refine ⟨hm, fun y hy => ?_, ?_, by rw [insK_data, h.data], hs _ h.sb⟩
  · rcases insK_mem.1 hy with rfl | hy
    · exact hx
    · have h3 := h.each y hy
      exact (h3.keep hk (hz _ h3.sh fun e => h.map.ne_blk h3.blk e.symm) (fun k hk => hz _ (h3.sv k hk) fun e => h.map.ne_own h3.row (e ▸ hk))).widen hs
  · have gen : ∀ l : List LkM, (∀ y ∈ l, LApart x y) → l.Pairwise LApart → (insK LkM.key x l).Pairwise LApart := by
      intro l
      induction l with
      | nil => intro _ _; simp [insK]
      | cons y r ih =>
        intro g1 g2
        obtain ⟨c1, c2⟩ := List.pairwise_cons.1 g2
        unfold insK
        split
        · exact List.pairwise_cons.2 ⟨fun z hz => g1 z hz, g2⟩
        · refine List.pairwise_cons.2 ⟨fun z hz => ?_, ih (fun l hl => g1 l (by simp [hl])) c2⟩
          rcases insK_mem.1 hz with rfl | hz
          · exact (g1 y (by simp)).symm
          · exact c1 z hz
    exact gen ms hone h.apart
theorem Lks.made (w : World) : Lks (fun j => j = w.heap.size) (w.alloc (.map #[] 0)) w.heap.size [] [] := ⟨MapIs.made w _ _, (fun x hx => by cases hx), List.Pairwise.nil, rfl, rfl⟩
end

/-- The machine in block m: its pairs in block bp, its locks in block bl; S: the blocks of its locks. -/
structure MSt (S : Nat → Prop) (w : World) (m bp bl : Nat) (s : StD) : Prop where
  blk : Blk w m 80 (mchcells bp bl s.tok s.ss).toArray
  len : s.ss.length = 16
  pm : MapIs Tryz.prog 9 w bp (sk s.pairs)
  lk : ∃ ms, Lks S w bl ms s.locks
  nm : ¬ S m
  nb : ¬ S bp
section
variable {S S' : Nat → Prop} {w w' : World} {m bp bl : Nat} {s : StD}
theorem MSt.keep {Z : Nat → Prop} (h : MSt S w m bp bl s) (hk : Keep Z w w') (h1 : Z m) (h2 : Z bp) (h3 : ∀ j, S j → Z j) : MSt S w' m bp bl s := by
  obtain ⟨ms, hl⟩ := h.lk
  exact ⟨h.blk.keep hk h1, h.len, h.pm.keep hk h2, ⟨ms, hl.keep hk h3⟩, h.nm, h.nb⟩
theorem MSt.fresh (h : MSt S w m bp bl s) (hk : Fresh w w') : MSt S w' m bp bl s := h.keep hk trivial trivial (fun _ _ => trivial)
theorem MSt.sbl (h : MSt S w m bp bl s) : S bl := by
  obtain ⟨ms, hl⟩ := h.lk
  exact hl.sb
theorem MSt.ne (h : MSt S w m bp bl s) : bp ≠ bl := fun e => h.nb (e ▸ h.sbl)
theorem MSt.cell (h : MSt S w m bp bl s) (i : Nat) : w.cell? ⟨m, i, none⟩ = (mchcells bp bl s.tok s.ss)[i]? := by
  rw [h.blk.cell i]
  simp
theorem MSt.mp (h : MSt S w m bp bl s) : m ≠ bp := (h.pm.ne_blk h.blk).symm
end
end Go.Proofs.YtohnmaindbgngaaGreatDoor
namespace Go.Proofs.YtohnmaindbgngaaGreatDoor
set_option linter.unusedVariables false
set_option linter.unusedSimpArgs false
open Go.RowKit

theorem Blk.there {w : World} {g : Nat} {t : TypeId} {cs : Array Value} (h : Blk w g t cs) : w.there g 0 cs.size := fun j hj => by
  rw [h.cell (0 + j), Nat.zero_add]
  exact ⟨by simp [hj], h.frozen _⟩
theorem Blk.setCells {g : Nat} {t : TypeId} : ∀ (vs : List Value) (o : Nat) (w : World) (cs : Array Value), Blk w g t cs → o + vs.length ≤ cs.size → ∃ cs' : Array Value, Blk (w.setCells g o vs) g t cs' ∧ cs'.toList = cs.toList.take o ++ vs ++ cs.toList.drop (o + vs.length)
  | [], o, w, cs, h, _ => ⟨cs, h, by simp⟩
  | v :: r, o, w, cs, h, hl => by
    have hl' : o + (r.length + 1) ≤ cs.size := by simpa using hl
    obtain ⟨cs', h1, h2⟩ := Blk.setCells r (o + 1) _ _ (h.set o v) (by simp; omega)
    refine ⟨cs', h1, ?_⟩
    rw [h2, Array.toList_setIfInBounds]
    have ho : o < cs.toList.length := by simp; omega
    have e1 : (cs.toList.set o v).take (o + 1) = cs.toList.take o ++ [v] := by
      rw [List.take_succ_eq_append_getElem (by simpa using ho), List.take_set_of_le (Nat.le_refl _)]
      simp
    have e2 : (cs.toList.set o v).drop (o + 1 + r.length) = cs.toList.drop (o + (v :: r).length) := by
      rw [List.drop_set_of_lt (by omega)]
      congr 1
      simp
      omega
    rw [e1, e2]
    simp
theorem Keep.setCells {Z : Nat → Prop} {a : World} {g : Nat} : ∀ (vs : List Value) (o : Nat) (w : World), Keep Z a w → (g < a.heap.size → ¬ Z g) → Keep Z a (w.setCells g o vs)
  | [], _, _, h, _ => h
  | v :: r, o, w, h, hg => Keep.setCells r (o + 1) _ (h.setCell hg v) hg
theorem size_setCells {g : Nat} : ∀ (vs : List Value) (o : Nat) (w : World), (w.setCells g o vs).heap.size = w.heap.size
  | [], _, _ => rfl
  | v :: r, o, w => by
    rw [World.setCells, size_setCells r (o + 1)]
    simp [World.setCell]
theorem Blk.whole {w : World} {g : Nat} {t : TypeId} {cs0 cells : Array Value} (h : Blk w g t cs0) (hs : cs0.size = cells.size) : Blk (w.setCells g 0 cells.toList) g t cells := by
  obtain ⟨cs', h1, h2⟩ := Blk.setCells cells.toList 0 w cs0 h (by simp [hs])
  have : cs' = cells := by
    apply Array.ext'
    rw [h2]
    simp [hs]
  rwa [this] at h1
theorem wpList_store_new {P : Program} {w : World} {T : TypeId} {ops : Array Oper} {rest : List Oper} {o : Oper} {a : Act} {Q : Exit → Act → World → Prop} (hgd : o.guard = none) (x y : Operand) (ho : o.op = .store T x y) (cs0 cells : Array Value) (te : TypeId)
    (hx : a.eval x = .pointer (some ⟨w.heap.size, 0, none⟩)) (hy : a.eval y = .agg cells) (hsz : cs0.size = cells.size) (hi : (P.info? T).map (·.size) = some cells.size) (h1 : cells.all (·.oneCell') = true)
    (h : ∀ w', Blk w' w.heap.size te cells → Fresh w w' → w'.heap.size = w.heap.size + 1 → wpList P ops Q rest (a.put o.dst undef) w') :
    wpList P ops Q (o :: rest) a (w.alloc (.cells cs0 te)) := by
  have hb := Blk.new w te cs0
  have ht := hb.there
  rw [hsz] at ht
  refine wpList_store_mid hgd T x y ho w.heap.size 0 cells hx hy ht hi h1 (h _ (hb.whole hsz) ?_ ?_)
  · exact Keep.setCells _ _ _ ((Keep.refl _ w).alloc _) (fun h => absurd h (Nat.lt_irrefl _))
  · rw [size_setCells]
    simp

/-- A store of several cells, the world behind it a letter. -/
theorem wpList_store_to {P : Program} {ops : Array Oper} {rest : List Oper} {op : Oper} {a : Act} {w : World} {Q : Exit → Act → World → Prop} (hgd : op.guard = none) (ty : TypeId) (x y : Operand) (ho : op.op = .store ty x y)
    (b o : Nat) (cells : Array Value) (hx : a.eval x = .pointer (some ⟨b, o, none⟩)) (hy : a.eval y = .agg cells)
    (ht : w.there b o cells.size) (hi : (P.info? ty).map (·.size) = some cells.size) (h1 : cells.all (·.oneCell') = true)
    (h : ∀ w', Hid (w' = w.setCells b o cells.toList) → wpList P ops Q rest (a.put op.dst undef) w') : wpList P ops Q (op :: rest) a w :=
  wpList_store_mid hgd ty x y ho b o cells hx hy ht hi h1 (h _ (Lib.hid rfl))
/-- What 'buildSlice' makes of an element of many cells. -/
theorem fold_zip_at : ∀ (l : List Value) (o : Nat) (zs : Array Value), o + l.length ≤ zs.size → ((l.zipIdx o).foldl (fun cs x => cs.setIfInBounds x.snd x.fst) zs).toList = zs.toList.take o ++ l ++ zs.toList.drop (o + l.length)
  | [], o, zs, _ => by simp
  | v :: r, o, zs, hl => by
    have hl' : o + (r.length + 1) ≤ zs.size := by simpa using hl
    rw [List.zipIdx_cons, List.foldl_cons, fold_zip_at r (o + 1) _ (by simp; omega), Array.toList_setIfInBounds]
    have ho : o < zs.toList.length := by simp; omega
    have e1 : (zs.toList.set o v).take (o + 1) = zs.toList.take o ++ [v] := by
      rw [List.take_succ_eq_append_getElem (by simpa using ho), List.take_set_of_le (Nat.le_refl _)]
      simp
    have e2 : (zs.toList.set o v).drop (o + 1 + r.length) = zs.toList.drop (o + (v :: r).length) := by
      rw [List.drop_set_of_lt (by omega)]
      congr 1
      simp
      omega
    rw [e1, e2]
    simp
theorem fold_zip (l : List Value) (zs : Array Value) (h : zs.size = l.length) : l.zipIdx.foldl (fun cs x => cs.setIfInBounds x.snd x.fst) zs = l.toArray := by
  apply Array.ext'
  rw [fold_zip_at l 0 zs (by omega)]
  simp [← h]
end Go.Proofs.YtohnmaindbgngaaGreatDoor
namespace Go.Proofs.YtohnmaindbgngaaGreatDoor
set_option linter.unusedVariables false
set_option linter.unusedSimpArgs false
open Go.RowKit

theorem getD_at {l : List Int} {j : Nat} (h : j < l.length) : l.getD j 0 = l[j] := by rw [List.getD_eq_getElem?_getD, List.getElem?_eq_getElem h]; rfl
theorem OwnAt.cells {w : World} {base e n g o c : Nat} {xs : List Value} (h : OwnAt w base e (.slice (some ⟨g, o, none⟩) n c) n xs) : ∀ j u, xs[j]? = some u → w.cell? ⟨g, o + j, none⟩ = some u := by
  rcases h.2 with ⟨h1, _⟩ | ⟨g', o', cap, cur, h1, hb, hh, hn, hm, hs, hc⟩
  · cases h1
  · injection h1 with h1 h2 h3
    injection h1 with h1
    injection h1 with h4 h5 h6
    subst h4 h5 h3
    intro j u hu
    rw [cell_of_row w g (o + j) cur e (0, 0) hh]
    exact hc j u hu
theorem icells {w : World} {base e g o c : Nat} {q : List Int} (h : OwnAt w base e (.slice (some ⟨g, o, none⟩) q.length c) q.length (ics q)) : ∀ j, j < q.length → w.cell? ⟨g, o + j, none⟩ = some (.int .i64 (q.getD j 0)) := fun j hj => by
  refine h.cells j _ ?_
  rw [ics_get q j hj, getD_at hj]
theorem OwnAt.len_le {w : World} {base e n : Nat} {v : Value} {xs : List Value} (h : OwnAt w base e v n xs) : n ≤ maxLen := by
  rcases h.2 with ⟨_, rfl⟩ | ⟨g, o, cap, cur, rfl, hb, hh, hn, hm, hs, hc⟩
  · simp [maxLen]
  · omega
theorem index_any {base : Nat} {v : Value} (q : List Int) (x : Int) (w : World) (h : OwnAt w base 3 v q.length (ics q)) :
    Calls Tryz.prog 81 #[v, .int .i64 x] w fun e w' => e = .returned (.int .i64 (Lib.idxOf q x)) ∧ w = w' := by
  have hl := h.len_le
  have hr := h
  rcases h.2 with ⟨rfl, h0⟩ | ⟨g, o, cap, cur, rfl, hb, hh, hn, hm, hs, hc⟩
  · have : q = [] := List.eq_nil_of_length_eq_zero h0
    subst this
    exact (Tryz.slices_Index_int_empty none 0 x w).mono fun e w' h => ⟨h.1, h.2.symm⟩
  · have := Tryz.slices_Index_int g o q.length cap q x w (Nat.le_refl _) (by simp only [maxLen] at hl; omega) (icells hr)
    rw [List.take_length] at this
    exact this.mono fun e w' h => ⟨h.1, h.2.symm⟩
theorem contains_any {base : Nat} {v : Value} (q : List Int) (x : Int) (w : World) (h : OwnAt w base 3 v q.length (ics q)) :
    Calls Tryz.prog 89 #[v, .int .i64 x] w fun e w' => e = .returned (.bool (decide (x ∈ q))) ∧ w = w' := by
  have hl := h.len_le
  have hr := h
  have e : decide (x ∈ q) = q.contains x := by simp
  rw [e]
  rcases h.2 with ⟨rfl, h0⟩ | ⟨g, o, cap, cur, rfl, hb, hh, hn, hm, hs, hc⟩
  · have : q = [] := List.eq_nil_of_length_eq_zero h0
    subst this
    exact (Tryz.slices_Contains_int_empty none 0 x w).mono fun e w' h => ⟨h.1, h.2.symm⟩
  · have := Tryz.slices_Contains_int g o q.length cap q x w (Nat.le_refl _) (by simp only [maxLen] at hl; omega) (icells hr)
    rw [List.take_length] at this
    exact this.mono fun e w' h => ⟨h.1, h.2.symm⟩
theorem idx_memq {q : List Int} {x : Int} (h : x ∈ q) : Lib.idxOf q x = (q.idxOf x : Int) := by
  have hk := List.idxOf_lt_length_of_mem h
  have := Lib.idxOf_hit q q.length (q.idxOf x) x hk (Nat.le_refl _) (by rw [getD_at hk]; exact List.getElem_idxOf hk) (fun j hj => by
    rw [getD_at (l := q) (by omega)]
    intro e
    have h2 := List.not_of_lt_findIdx (p := (· == x)) (xs := q) (i := j) hj
    simp [e] at h2)
  rwa [List.take_length] at this
theorem idx_none {q : List Int} {x : Int} (h : x ∉ q) : Lib.idxOf q x = -1 := by
  have := Lib.idxOf_miss q q.length x (fun j hj e => h (by rw [getD_at hj] at e; exact e ▸ List.getElem_mem hj))
  rwa [List.take_length] at this
/-- Without the client: what 'Delete' leaves. -/
theorem cut_filter {q : List Int} {x : Int} (hn : q.Nodup) (h : x ∈ q) : q.take (q.idxOf x) ++ q.drop (q.idxOf x + 1) = q.filter fun y => !(y == x) := by
  rw [← List.eraseIdx_eq_take_drop_succ, ← List.erase_eq_eraseIdx_of_idxOf (l := q) (a := x) rfl, hn.erase_eq_filter]
  refine List.filter_congr fun y _ => ?_
  simp [bne]
/-- 'slices.Delete(slices.Clone(q), i, i+1)', the second call. -/
theorem delete_any (q : List Int) (x : Int) (v : Value) (base : Nat) (w : World) (hn : q.Nodup) (hx : x ∈ q) (h : w.ownsRow base 3 1 v q.length (ics q)) :
    Calls Tryz.prog 82 #[v, .int .i64 (q.idxOf x : Int), .int .i64 ((q.idxOf x : Int) + 1)] w fun e w' => ∃ v', e = .returned v' ∧ OwnAt w' base 3 v' (q.filter fun y => !(y == x)).length (ics (q.filter fun y => !(y == x))) ∧ v'.ownBlock = v.ownBlock ∧ Keep (fun k => v.ownBlock ≠ some k) w w' := by
  have hk := List.idxOf_lt_length_of_mem hx
  have hl := (OwnAt.of_own h).len_le
  obtain ⟨g, cap, rfl, hb, hlt, hnc⟩ := own_nonnil h (by omega)
  have ha := OwnAt.of_own h
  rcases h.2 with ⟨h1, _⟩ | ⟨g', cap', cur, h1, hbg, hh, hn2, hm, hs, ht⟩
  · cases h1
  injection h1 with h1 h2 h3
  injection h1 with h1
  injection h1 with h4 h5 h6
  subst h4 h3
  have h5 := Tryz.slices_Delete_int_cells g 0 q.length cap (q.idxOf x) (q.idxOf x + 1) q w (Nat.le_refl _) hnc (by simp only [maxLen] at hm; omega) (by omega) (by omega) (fun j hj => by have := icells ha j hj; simpa using this) (fun j hj => by simp [World.frozen?, hh])
  have e1 : ((q.idxOf x : Int) + 1) = ((q.idxOf x + 1 : Nat) : Int) := by omega
  rw [e1]
  refine h5.mono ?_
  rintro e w' ⟨rfl, n, rfl⟩
  rw [List.take_length, cut_filter hn hx]
  obtain ⟨F, hF⟩ : ∃ F, F = q.filter fun y => !(y == x) := ⟨_, rfl⟩
  have hFl : F.length + 1 = q.length := by
    rw [hF, ← cut_filter hn hx, List.length_append, List.length_take, List.length_drop]
    omega
  rw [← hF]
  have e2 : q.length - (q.idxOf x + 1 - q.idxOf x) = F.length := by omega
  have e3 : q.idxOf x + 1 - q.idxOf x = 1 := by omega
  rw [e2, e3]
  have hB : Blk (w.drewN n) g 3 cur := hh
  have hsz : cur.size = cap := by omega
  obtain ⟨cs', hb', hc'⟩ := Blk.setCells (((F ++ List.replicate 1 0).map (Value.int .i64))) 0 (w.drewN n) cur hB (by simp; omega)
  refine ⟨_, rfl, ⟨by simp [ics], .inr ⟨g, 0, cap, cs', rfl, hbg, hb', by omega, hm, ?_, ?_⟩⟩, rfl, Keep.setCells _ _ _ ((Keep.refl _ w).drewN n) (fun _ hne => hne rfl)⟩
  · have := congrArg List.length hc'
    simp at this
    omega
  · intro j u hu
    have hj : j < F.length := by
      rcases Nat.lt_or_ge j F.length with h | h
      · exact h
      · rw [List.getElem?_eq_none (by simpa [ics] using h)] at hu; cases hu
    rw [← Array.getElem?_toList, hc']
    simp only [List.take_zero, List.nil_append, Nat.zero_add, List.map_append]
    rw [List.append_assoc, List.getElem?_append_left (by simpa using hj)]
    exact hu
/-- 'slices.Clone(q)' of a queue that is not empty. -/
theorem clone_any {base : Nat} {v : Value} (q : List Int) (w : World) (h : OwnAt w base 3 v q.length (ics q)) (h0 : 0 < q.length) (hb : q.length ≤ 1000) :
    Calls Tryz.prog 83 #[v] w fun e w' => ∃ v', e = .returned v' ∧ w'.ownsRow w.heap.size 3 1 v' q.length (ics q) ∧ Fresh w w' := by
  have hr := h
  rcases h.2 with ⟨rfl, h1⟩ | ⟨g, o, cap, cur, rfl, hbg, hh, hn, hm, hs, hc⟩
  · omega
  · have := Tryz.slices_Clone_int g o q.length cap q w (Nat.le_refl _) (by omega) (icells hr)
    rw [List.take_length] at this
    refine this.mono ?_
    rintro e w' ⟨v', rfl, h1, -, h2⟩
    exact ⟨v', rfl, h1, Fresh.of_below h2⟩
/-! ### texts, sorted -/
theorem encStr_map (ss : List Txt) : ss.map encStr = ss.map str := rfl
theorem sortS_any (base : Nat) (v : Value) (ss : List Txt) (w : World) (h : w.ownsRow base 9 1 v ss.length (ss.map str)) (hn : ss.length < 4611686018427387904) :
    Calls Tryz.prog 84 #[v] w fun e w' => e = .returned (.tuple #[]) ∧ w'.ownsRow base 9 1 v ss.length ((ss.mergeSort fun x y => decide (x ≤ y)).map str) ∧ Keep (fun k => v.ownBlock ≠ some k) w w' := by
  rcases h.2 with ⟨rfl, h0⟩ | ⟨g, cap, cur, rfl, hb, hh, hc, hm, hs, ht⟩
  · have hz : ss = [] := List.eq_nil_of_length_eq_zero h0
    subst hz
    refine (Tryz.slices_Sort_string_none none 0 w).mono ?_
    rintro e _ ⟨rfl, rfl⟩
    exact ⟨rfl, by simpa using h, Keep.refl _ _⟩
  · have ht' : cur.toList.take ss.length = ss.map encStr := by simpa [encStr_map] using ht
    refine (Tryz.slices_Sort_string g 0 cap ss w (holds_of_block hh ht') (lt_of_block hh) hn).mono ?_
    rintro e w' ⟨rfl, n, os, rfl⟩
    have hl : (ss.mergeSort fun x y => decide (x ≤ y)).length = ss.length := List.length_mergeSort _
    exact ⟨rfl, ownsRow_sorted hl hb hh hc hm hs, Keep.of_grown (grownBy_sorted _)⟩
/-- A rising list is its own sorted one. -/
theorem before_lt : ∀ a b : Txt, bytesBefore a b = true ↔ a < b
  | [], [] => by simp [bytesBefore]
  | [], b :: s => by simp [bytesBefore]
  | a :: r, [] => by simp [bytesBefore]
  | a :: r, b :: s => by
    rw [List.cons_lt_cons_iff, ← before_lt r s]
    simp [bytesBefore]
theorem rise_sort {ss : List Txt} (hn : ss.Nodup) : Rise ((ss.mergeSort fun x y => decide (x ≤ y)).map id) := by
  rw [List.map_id]
  have hp := List.mergeSort_perm ss fun x y => decide (x ≤ y)
  have h1 : (ss.mergeSort fun x y => decide (x ≤ y)).Pairwise fun x y => decide (x ≤ y) = true := List.pairwise_mergeSort (fun a b c h1 h2 => by simp only [decide_eq_true_eq] at *; exact List.le_trans h1 h2) (fun a b => by simp only [Bool.or_eq_true, decide_eq_true_eq]; exact List.le_total a b) ss
  have h2 : (ss.mergeSort fun x y => decide (x ≤ y)).Pairwise fun x y => x ≠ y := hp.symm.pairwise hn (fun h => h.symm)
  refine (h1.and h2).imp ?_
  rintro a b ⟨h3, h4⟩
  rcases WideAt.bytes_total a b h4 with h5 | h5
  · exact h5
  · exact absurd ((before_lt b a).1 h5) (by simpa [List.not_lt] using h3)
theorem sort_rise {ss ks : List Txt} (hr : Rise ks) (hp : ss.Perm ks) : (ss.mergeSort fun x y => decide (x ≤ y)) = ks :=
  rise_ext (key := id) (rise_sort (hp.nodup_iff.2 hr.nodup)) (by rw [List.map_id]; exact hr) fun x => (((List.mergeSort_perm ss _).trans hp).mem_iff)
end Go.Proofs.YtohnmaindbgngaaGreatDoor
