/-
  WHAT audit.Group CARRIES ALONG, IN MEMORY: each block bears a tag, so that blocks of different use lie apart; what a step into one of them leaves alone.
-/
import Derived.Test.YtfpcmleeehciaaaGrpK
import Derived.Test.YtfpcmleeehciaaaGrpF
namespace Go.Proofs.Ytfpcmleeehciaaa
set_option linter.unusedVariables false
set_option linter.unusedSimpArgs false
open Go.RowKit
open Go.Maps (Keyed)

inductive Tag where
  | other | kept | seen | up | last | livs | ins | mms | snt | ord | cnt | imm
  | life (x : Who) | frm (x : Who) | insR (i : V4) | ordR (i : V4)
deriving DecidableEq
noncomputable abbrev whoL (x : Who) : Lit := keyL Try.prog 78 whoA x
noncomputable abbrev viewL (x : V4) : Lit := keyL Try.prog 41 viewA x
noncomputable abbrev spotL (x : V4 × Who) : Lit := keyL Try.prog 104 spotA x
noncomputable abbrev msgL (x : V4 × Who × Int) : Lit := keyL Try.prog 109 msgA x
abbrev nilS : Value := .slice none 0 0
def TolD.cells (x : TolD) : List Value := [.int .i64 x.pos, .int .i64 x.sender, .int .i64 x.seq, tx x.body]
theorem tol_four (x : TolD) : x.cells.length = 4 := rfl

/-- T' says of the tagged blocks what T says. -/
def More (T T' : Nat → Tag) : Prop := ∀ j, T j ≠ .other → T' j = T j
theorem More.refl (T : Nat → Tag) : More T T := fun _ _ => rfl
theorem More.at {T T' : Nat → Tag} {j : Nat} {t : Tag} (h : More T T') (hj : T j = t) (ht : t ≠ .other) : T' j = t := by rw [h j (by rw [hj]; exact ht), hj]

section
variable {w w' : World} {Z : Nat → Prop} {T T' : Nat → Tag}
/-- A map of ints. -/
def IntMap (w : World) (b k : Nat) (f : Int → Int) : Prop := ∃ ps, KMap Try.prog 3 w b ps ∧ ps.length ≤ k ∧ ∀ z, I64 z → (kfind (.int .i64 z) ps).getD (.int .i64 0) = .int .i64 (f z)
theorem IntMap.keep {b k : Nat} {f : Int → Int} (h : IntMap w b k f) (hk : Keep Z w w') (hz : Z b) : IntMap w' b k f := by
  obtain ⟨ps, h1, h2, h3⟩ := h
  exact ⟨ps, h1.keep hk hz, h2, h3⟩
theorem IntMap.lt {b k : Nat} {f : Int → Int} (h : IntMap w b k f) : b < w.heap.size := by
  obtain ⟨ps, h1, h2, h3⟩ := h
  exact h1.lt
theorem IntMap.mono {b k k' : Nat} {f : Int → Int} (h : IntMap w b k f) (hk : k ≤ k') : IntMap w b k' f := by
  obtain ⟨ps, h1, h2, h3⟩ := h
  exact ⟨ps, h1, by omega, h3⟩
theorem IntMap.made (w : World) (k : Nat) : IntMap (w.alloc (.map #[] 0)) w.heap.size k (fun _ => 0) := ⟨[], KMap.made w _ _, Nat.zero_le _, fun _ _ => rfl⟩
/-- A slice that nobody writes into. -/
def SlI (w : World) (T : Nat → Tag) (size n : Nat) (A : Option Addr) (c : Nat) (xs : List Value) : Prop := SlOk w (fun j => T j = .imm) size n (.slice A n c) xs
theorem SlI.keep {size n c : Nat} {A : Option Addr} {xs : List Value} (h : SlI w T size n A c xs) (hk : Keep Z w w') (hz : ∀ j, T j = .imm → Z j) (hT : More T T') : SlI w' T' size n A c xs :=
  ((SlOk.weaken (Z' := fun j => Z j ∧ T' j = .imm) h fun j hj => ⟨hz j hj, hT.at hj (by decide)⟩).keep (hk.weaken fun _ _ h => h.1)).weaken fun _ h => h.2
/-- A row of the call's own. -/
def RowM (w : World) (T : Nat → Tag) (B te size : Nat) (t : Tag) (v : Value) (n : Nat) (xs : List Value) : Prop := w.ownsRow B te size v n xs ∧ ∀ j, v.ownBlock = some j → T j = t
theorem RowM.keep {B te size n : Nat} {t : Tag} {v : Value} {xs : List Value} (h : RowM w T B te size t v n xs) (ht : t ≠ .other) (hk : Keep Z w w') (hz : ∀ j, T j = t → Z j) (hT : More T T') : RowM w' T' B te size t v n xs :=
  ⟨own_keep h.1 hk fun j hj => hz j (h.2 j hj), fun j hj => hT.at (h.2 j hj) ht⟩

/-! ### lives -/
def lifeV (l : LifeD) (A : Option Addr) (c f : Nat) : Array Value :=
  #[.bool l.halted, .bool l.blocked, .int .i64 l.id.1, .int .i64 l.id.2.1, .int .i64 l.id.2.2.1, .int .i64 l.id.2.2.2, .slice A l.mem.length c, .int .i64 (l.acc : Int), .int .i64 l.safe, .int .i64 (l.own : Int), .int .i64 l.lastPos, .map (some f)]
structure LifeM (w : World) (T : Nat → Tag) (x : Who) (b f k : Nat) (l : LifeD) (A : Option Addr) (c : Nat) : Prop where
  tb : T b = .life x
  tf : T f = .frm x
  blk : Blk w b 83 (lifeV l A c f)
  mem : SlI w T 3 l.mem.length A c (rcells MemD.cells l.mem)
  frm : IntMap w f k (fun z => (l.frm z : Int))
  le : l.mem.length ≤ 1048576
  ints : ∀ y ∈ l.mem, I64 y.p ∧ I64 y.i
  id : InV l.id
theorem LifeM.keep {x : Who} {b f k k' : Nat} {l : LifeD} {A : Option Addr} {c : Nat} (h : LifeM w T x b f k l A c) (hk : Keep Z w w') (hz : ∀ j, T j = .life x ∨ T j = .frm x ∨ T j = .imm → Z j) (hT : More T T') (hkk : k ≤ k') : LifeM w' T' x b f k' l A c :=
  ⟨hT.at h.tb (by simp), hT.at h.tf (by simp), h.blk.keep hk (hz _ (.inl h.tb)), h.mem.keep hk (fun j hj => hz j (.inr (.inr hj))) hT, (h.frm.keep hk (hz _ (.inr (.inl h.tf)))).mono hkk, h.le, h.ints, h.id⟩
def Lives (w : World) (T : Nat → Tag) (bv k : Nat) (lv : Who → Option LifeD) : Prop := ∃ ps, KMap Try.prog 78 w bv ps ∧ ps.length ≤ k ∧
  ∀ x, InW x → (lv x = none → kfind (whoL x) ps = none) ∧ ∀ l, lv x = some l → ∃ b f A c, kfind (whoL x) ps = some (.pointer (some ⟨b, 0, none⟩)) ∧ LifeM w T x b f k l A c
theorem Lives.keep {bv k k' : Nat} {lv : Who → Option LifeD} (h : Lives w T bv k lv) (hk : Keep Z w w') (hb : Z bv) (hz : ∀ j, (∃ x, T j = .life x) ∨ (∃ x, T j = .frm x) ∨ T j = .imm → Z j) (hT : More T T') (hkk : k ≤ k') : Lives w' T' bv k' lv := by
  obtain ⟨ps, h1, h2, h3⟩ := h
  refine ⟨ps, h1.keep hk hb, by omega, fun x hx => ⟨(h3 x hx).1, fun l hl => ?_⟩⟩
  obtain ⟨b, f, A, c, e, hm⟩ := (h3 x hx).2 l hl
  exact ⟨b, f, A, c, e, hm.keep hk (fun j hj => hz j (hj.imp (fun h => ⟨x, h⟩) (Or.imp (fun h => ⟨x, h⟩) id))) hT hkk⟩
theorem Lives.lt {bv k : Nat} {lv : Who → Option LifeD} (h : Lives w T bv k lv) : bv < w.heap.size := by
  obtain ⟨ps, h1, h2, h3⟩ := h
  exact h1.lt
/-! ### installs -/
def Insts (w : World) (T : Nat → Tag) (B bi k : Nat) (f : V4 → List EntD) : Prop := ∃ ps, KMap Try.prog 41 w bi ps ∧ ps.length ≤ k ∧
  ∀ i, InV i → ∃ vs : List EntV, vs.map EntV.d = f i ∧ RowM w T B 100 8 (.insR i) ((kfind (viewL i) ps).getD nilS) vs.length (rcells EntV.cells vs) ∧ ∀ v ∈ vs, SlI w T 1 v.d.tr.length v.A v.c (ics v.d.tr) ∧ v.d.tr.length ≤ 1048576
theorem Insts.keep {B bi k k' : Nat} {f : V4 → List EntD} (h : Insts w T B bi k f) (hk : Keep Z w w') (hb : Z bi) (hz : ∀ j, (∃ x, T j = .insR x) ∨ T j = .imm → Z j) (hT : More T T') (hkk : k ≤ k') : Insts w' T' B bi k' f := by
  obtain ⟨ps, h1, h2, h3⟩ := h
  refine ⟨ps, h1.keep hk hb, by omega, fun i hi => ?_⟩
  obtain ⟨vs, e, hr, hs⟩ := h3 i hi
  exact ⟨vs, e, hr.keep (by simp) hk (fun j hj => hz j (.inl ⟨i, hj⟩)) hT, fun v hv => ⟨(hs v hv).1.keep hk (fun j hj => hz j (.inr hj)) hT, (hs v hv).2⟩⟩
/-! ### members -/
def Mems (w : World) (T : Nat → Tag) (bm k : Nat) (f : V4 → List MemD) : Prop := ∃ ps, KMap Try.prog 41 w bm ps ∧ ps.length ≤ k ∧
  ∀ i, InV i → ∃ A c, (kfind (viewL i) ps).getD nilS = .slice A (f i).length c ∧ SlI w T 3 (f i).length A c (rcells MemD.cells (f i)) ∧ (f i).length ≤ 1048576
theorem Mems.keep {bm k k' : Nat} {f : V4 → List MemD} (h : Mems w T bm k f) (hk : Keep Z w w') (hb : Z bm) (hz : ∀ j, T j = .imm → Z j) (hT : More T T') (hkk : k ≤ k') : Mems w' T' bm k' f := by
  obtain ⟨ps, h1, h2, h3⟩ := h
  refine ⟨ps, h1.keep hk hb, by omega, fun i hi => ?_⟩
  obtain ⟨A, c, e, hr, hs⟩ := h3 i hi
  exact ⟨A, c, e, hr.keep hk hz hT, hs⟩
/-! ### sent -/
def Sents (w : World) (T : Nat → Tag) (bs k : Nat) (f : V4 × Who × Int → Option (List UInt8)) : Prop := ∃ ps, KMap Try.prog 109 w bs ps ∧ ps.length ≤ k ∧
  ∀ x, InV x.1 → InW x.2.1 → I64 x.2.2 → (f x = none → kfind (msgL x) ps = none) ∧ ∀ l, f x = some l → ∃ A c, kfind (msgL x) ps = some (.slice A l.length c) ∧ SlI w T 1 l.length A c (Lib.byteCells l) ∧ l.length ≤ 1048576
theorem Sents.keep {bs k k' : Nat} {f : V4 × Who × Int → Option (List UInt8)} (h : Sents w T bs k f) (hk : Keep Z w w') (hb : Z bs) (hz : ∀ j, T j = .imm → Z j) (hT : More T T') (hkk : k ≤ k') : Sents w' T' bs k' f := by
  obtain ⟨ps, h1, h2, h3⟩ := h
  refine ⟨ps, h1.keep hk hb, by omega, fun x a b c => ⟨(h3 x a b c).1, fun l hl => ?_⟩⟩
  obtain ⟨A, c, e, hr, hs⟩ := (h3 x a b c).2 l hl
  exact ⟨A, c, e, hr.keep hk hz hT, hs⟩
/-! ### the order -/
def Ords (w : World) (T : Nat → Tag) (B bo k : Nat) (f : V4 → List TolD) : Prop := ∃ ps, KMap Try.prog 41 w bo ps ∧ ps.length ≤ k ∧
  ∀ i, InV i → RowM w T B 115 4 (.ordR i) ((kfind (viewL i) ps).getD nilS) (f i).length (rcells TolD.cells (f i))
theorem Ords.keep {B bo k k' : Nat} {f : V4 → List TolD} (h : Ords w T B bo k f) (hk : Keep Z w w') (hb : Z bo) (hz : ∀ j, (∃ x, T j = .ordR x) → Z j) (hT : More T T') (hkk : k ≤ k') : Ords w' T' B bo k' f := by
  obtain ⟨ps, h1, h2, h3⟩ := h
  exact ⟨ps, h1.keep hk hb, by omega, fun i hi => (h3 i hi).keep (by simp) hk (fun j hj => hz j ⟨i, hj⟩) hT⟩
/-! ### how many were delivered -/
def Cnts (w : World) (bc k : Nat) (f : V4 × Who → Nat) : Prop := ∃ ps, KMap Try.prog 104 w bc ps ∧ ps.length ≤ k ∧ ∀ x, InV x.1 → InW x.2 → (kfind (spotL x) ps).getD (.int .i64 0) = .int .i64 (f x : Int)
theorem Cnts.keep {bc k k' : Nat} {f : V4 × Who → Nat} (h : Cnts w bc k f) (hk : Keep Z w w') (hb : Z bc) (hkk : k ≤ k') : Cnts w' bc k' f := by
  obtain ⟨ps, h1, h2, h3⟩ := h
  exact ⟨ps, h1.keep hk hb, by omega, h3⟩
end
/-- The blocks of 'seen' and of its eight maps. -/
structure Fix where
  g : Nat
  u : Nat
  l : Nat
  v : Nat
  i : Nat
  m : Nat
  s : Nat
  o : Nat
  c : Nat
def seenV (s : GrpD) (F : Fix) : Array Value := #[.int .i64 s.at_, .int .i64 (s.clock : Int), .map (some F.u), .map (some F.l), .map (some F.v), .map (some F.i), .map (some F.m), .map (some F.s), .map (some F.o), .map (some F.c)]
structure FixT (T : Nat → Tag) (F : Fix) : Prop where
  g : T F.g = .seen
  u : T F.u = .up
  l : T F.l = .last
  v : T F.v = .livs
  i : T F.i = .ins
  m : T F.m = .mms
  s : T F.s = .snt
  o : T F.o = .ord
  c : T F.c = .cnt
theorem FixT.more {T T' : Nat → Tag} {F : Fix} (h : FixT T F) (hT : More T T') : FixT T' F :=
  ⟨hT.at h.g (by simp), hT.at h.u (by simp), hT.at h.l (by simp), hT.at h.v (by simp), hT.at h.i (by simp), hT.at h.m (by simp), hT.at h.s (by simp), hT.at h.o (by simp), hT.at h.c (by simp)⟩
/-- The state s in memory, behind k marks at most; all of it is newer than B. -/
structure GM (w : World) (B : Nat) (T : Nat → Tag) (F : Fix) (k : Nat) (s : GrpD) : Prop where
  fix : FixT T F
  low : ∀ j, T j ≠ .other → B ≤ j ∧ j < w.heap.size
  blk : Blk w F.g 75 (seenV s F)
  up : IntMap w F.u k s.up
  last : IntMap w F.l k s.last
  lives : Lives w T F.v k s.lives
  inst : Insts w T B F.i k s.inst
  mem : Mems w T F.m k s.mem
  sent : Sents w T F.s k s.sent
  order : Ords w T B F.o k s.order
  count : Cnts w F.c k s.count
theorem GM.keep {w w' : World} {B : Nat} {T : Nat → Tag} {F : Fix} {k : Nat} {s : GrpD} {Z : Nat → Prop} (h : GM w B T F k s) (hk : Keep Z w w') (hz : ∀ j, T j ≠ .other → Z j) : GM w' B T F k s :=
  have ht : ∀ {j : Nat} {t : Tag}, T j = t → t ≠ .other → Z j := fun e ht => hz _ (by rw [e]; exact ht)
  ⟨h.fix, fun j hj => ⟨(h.low j hj).1, Nat.lt_of_lt_of_le (h.low j hj).2 hk.size⟩, h.blk.keep hk (ht h.fix.g (by simp)), h.up.keep hk (ht h.fix.u (by simp)), h.last.keep hk (ht h.fix.l (by simp)),
    h.lives.keep hk (ht h.fix.v (by simp)) (fun j hj => by rcases hj with ⟨x, e⟩ | ⟨x, e⟩ | e <;> exact ht e (by simp)) (More.refl T) (Nat.le_refl k),
    h.inst.keep hk (ht h.fix.i (by simp)) (fun j hj => by rcases hj with ⟨x, e⟩ | e <;> exact ht e (by simp)) (More.refl T) (Nat.le_refl k),
    h.mem.keep hk (ht h.fix.m (by simp)) (fun j e => ht e (by simp)) (More.refl T) (Nat.le_refl k), h.sent.keep hk (ht h.fix.s (by simp)) (fun j e => ht e (by simp)) (More.refl T) (Nat.le_refl k),
    h.order.keep hk (ht h.fix.o (by simp)) (fun j hj => by obtain ⟨x, e⟩ := hj; exact ht e (by simp)) (More.refl T) (Nat.le_refl k), h.count.keep hk (ht h.fix.c (by simp)) (Nat.le_refl k)⟩
theorem GM.fresh {w w' : World} {B : Nat} {T : Nat → Tag} {F : Fix} {k : Nat} {s : GrpD} (h : GM w B T F k s) (hk : Fresh w w') : GM w' B T F k s := h.keep hk fun _ _ => trivial
end Go.Proofs.Ytfpcmleeehciaaa
