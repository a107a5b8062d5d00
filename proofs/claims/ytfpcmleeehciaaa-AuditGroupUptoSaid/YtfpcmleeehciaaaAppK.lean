/-
  'append' OF AN ELEMENT OF SEVERAL CELLS THAT HAS JUST BEEN LAID.
-/
import Derived.Test.YtfpcmleeehciaaaRow
namespace Go.Proofs.Ytfpcmleeehciaaa
set_option linter.unusedVariables false
set_option linter.unusedSimpArgs false
open Go.RowKit

/-- 'append(s, x)' of an element of several cells that has just been laid in a block of its own. -/
theorem wpList_appK {P : Program} {w : World} {t e : TypeId} {size bytes : Nat} {z : Value} (E : ET P t e size bytes z) {ops : Array Oper} {rest : List Oper} {o : Oper} {a : Act} {Q : Exit → Act → World → Prop} (hgd : o.guard = none) (s x : Operand)
    (ho : o.op = .call { callee := .builtin .append, args := #[s, x], argTypes := #[t, t] }) (cs : Array Value) (te : TypeId) (hsz : cs.size = size) (hcs : ∀ u ∈ cs.toList, u.oneCell' = true)
    (base : Nat) (v : Value) (n : Nat) (xs : List Value) (hs : a.eval s = v) (hx : a.eval x = .slice (some ⟨w.heap.size, 0, none⟩) 1 1) (hown : w.ownsRow base e size v n xs)
    (hb : (n + 1) * bytes ≤ 140737488355328) (hbase : base ≤ w.heap.size)
    (h : ∀ v' w', w'.ownsRow base e size v' (n + 1) (xs ++ cs.toList) → Keep (fun k => v.ownBlock ≠ some k) w w' → Next w.heap.size v v' → wpList P ops Q rest (a.put o.dst v') w') :
    wpList P ops Q (o :: rest) a (w.alloc (.cells cs te)) :=
  wpList_app E hgd s x ho base v n xs hs (hown.alloc _) _ _ 1 1 cs.toList hx (Rd.one_of (Blk.new w te cs) hsz) (fun h => by cases h) hcs hb (by simp; omega) fun v' w' h1 h2 h3 =>
    h v' w' h1 (((Keep.refl _ w).alloc _).comp h2 (fun _ _ h => h) (fun _ _ h => h)) (h3.imp id fun ⟨g, hg, hl⟩ => ⟨g, hg, by simp at hl; omega⟩)
/-- .. where the walk has reckoned the new block's number in its own way. -/
theorem wpList_appB {P : Program} {w : World} {t e : TypeId} {size bytes : Nat} {z : Value} (E : ET P t e size bytes z) {ops : Array Oper} {rest : List Oper} {o : Oper} {a : Act} {Q : Exit → Act → World → Prop} (hgd : o.guard = none) (s x : Operand)
    (ho : o.op = .call { callee := .builtin .append, args := #[s, x], argTypes := #[t, t] }) (cs : Array Value) (te : TypeId) (hsz : cs.size = size) (hcs : ∀ u ∈ cs.toList, u.oneCell' = true)
    (base : Nat) (v : Value) (n : Nat) (xs : List Value) (B : Nat) (hB : B = w.heap.size) (hs : a.eval s = v) (hx : a.eval x = .slice (some ⟨B, 0, none⟩) 1 1) (hown : w.ownsRow base e size v n xs)
    (hb : (n + 1) * bytes ≤ 140737488355328) (hbase : base ≤ w.heap.size)
    (h : ∀ v' w', w'.ownsRow base e size v' (n + 1) (xs ++ cs.toList) → Keep (fun k => v.ownBlock ≠ some k) w w' → Next w.heap.size v v' → wpList P ops Q rest (a.put o.dst v') w') :
    wpList P ops Q (o :: rest) a (w.alloc (.cells cs te)) := by
  subst hB
  exact wpList_appK E hgd s x ho cs te hsz hcs base v n xs hs hx hown hb hbase h
theorem wpList_app1B {P : Program} {w : World} {t e : TypeId} {bytes : Nat} {z : Value} (E : ET P t e 1 bytes z) {ops : Array Oper} {rest : List Oper} {o : Oper} {a : Act} {Q : Exit → Act → World → Prop} (hgd : o.guard = none) (s x : Operand)
    (ho : o.op = .call { callee := .builtin .append, args := #[s, x], argTypes := #[t, t] }) (y : Value) (te : TypeId) (hy : y.oneCell' = true)
    (base : Nat) (v : Value) (n : Nat) (xs : List Value) (B : Nat) (hB : B = w.heap.size) (hs : a.eval s = v) (hx : a.eval x = .slice (some ⟨B, 0, none⟩) 1 1) (hown : w.ownsRow base e 1 v n xs)
    (hb : (n + 1) * bytes ≤ 140737488355328) (hbase : base ≤ w.heap.size)
    (h : ∀ v' w', w'.ownsRow base e 1 v' (n + 1) (xs ++ [y]) → Keep (fun k => v.ownBlock ≠ some k) w w' → Next w.heap.size v v' → wpList P ops Q rest (a.put o.dst v') w') :
    wpList P ops Q (o :: rest) a (w.alloc (.cells #[y] te)) := by
  subst hB
  exact wpList_app1 E hgd s x ho y te hy base v n xs hs hx hown hb hbase h
end Go.Proofs.Ytfpcmleeehciaaa
