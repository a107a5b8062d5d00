/-
  ONE PART OF audit.Group's STATE IS WRITTEN, THE OTHERS STAY.
-/
import Derived.Test.YtfpcmleeehciaaaGrpS
namespace Go.Proofs.Ytfpcmleeehciaaa
set_option linter.unusedVariables false
set_option linter.unusedSimpArgs false
open Go.RowKit Go.Shelf

section
variable {w w' : World} {B : Nat} {T T' : Nat → Tag} {F : Fix} {k k' : Nat} {s : GrpD} {Z : Nat → Prop}
/-- Tags of one part. -/
inductive Part where | seen | up | last | livs | ins | mms | snt | ord | cnt | none
deriving DecidableEq
def Tag.part : Tag → Part
  | .other => .none | .kept => .none | .imm => .none | .seen => .seen | .up => .up | .last => .last | .livs => .livs | .ins => .ins | .mms => .mms | .snt => .snt | .ord => .ord | .cnt => .cnt
  | .life _ => .livs | .frm _ => .livs | .insR _ => .ins | .ordR _ => .ord
theorem GM.with_blk (h : GM w B T F k s) (hk : Keep Z w w') (hz : ∀ j, T j ≠ .other → (T j).part ≠ .seen → Z j) (hT : More T T') (hlow : ∀ j, T' j ≠ .other → B ≤ j ∧ j < w'.heap.size) (hkk : k ≤ k') {s' : GrpD} (blk : Blk w' F.g 75 (seenV s' F)) (he : s'.up = s.up ∧ s'.last = s.last ∧ s'.lives = s.lives ∧ s'.inst = s.inst ∧ s'.mem = s.mem ∧ s'.sent = s.sent ∧ s'.order = s.order ∧ s'.count = s.count) : GM w' B T' F k' s' :=
  have ht : ∀ {j : Nat} {t : Tag}, T j = t → t ≠ .other → t.part ≠ .seen → Z j := fun e ht hp => hz _ (by rw [e]; exact ht) (by rw [e]; exact hp)
  ⟨h.fix.more hT, hlow, blk,
    (he.1 ▸ ((h.up.keep hk (ht h.fix.u (by simp) (by simp [Tag.part]))).mono hkk)),
    (he.2.1 ▸ ((h.last.keep hk (ht h.fix.l (by simp) (by simp [Tag.part]))).mono hkk)),
    (he.2.2.1 ▸ (h.lives.keep hk (ht h.fix.v (by simp) (by simp [Tag.part])) (fun j hj => by rcases hj with ⟨x, e⟩ | ⟨x, e⟩ | e <;> exact ht e (by simp) (by simp [Tag.part])) hT hkk)),
    (he.2.2.2.1 ▸ (h.inst.keep hk (ht h.fix.i (by simp) (by simp [Tag.part])) (fun j hj => by rcases hj with ⟨x, e⟩ | e <;> exact ht e (by simp) (by simp [Tag.part])) hT hkk)),
    (he.2.2.2.2.1 ▸ (h.mem.keep hk (ht h.fix.m (by simp) (by simp [Tag.part])) (fun j e => ht e (by simp) (by simp [Tag.part])) hT hkk)),
    (he.2.2.2.2.2.1 ▸ (h.sent.keep hk (ht h.fix.s (by simp) (by simp [Tag.part])) (fun j e => ht e (by simp) (by simp [Tag.part])) hT hkk)),
    (he.2.2.2.2.2.2.1 ▸ (h.order.keep hk (ht h.fix.o (by simp) (by simp [Tag.part])) (fun j hj => by obtain ⟨x, e⟩ := hj; exact ht e (by simp) (by simp [Tag.part])) hT hkk)),
    (he.2.2.2.2.2.2.2 ▸ (h.count.keep hk (ht h.fix.c (by simp) (by simp [Tag.part])) hkk))⟩
theorem GM.with_up (h : GM w B T F k s) (hk : Keep Z w w') (hz : ∀ j, T j ≠ .other → (T j).part ≠ .up → Z j) (hT : More T T') (hlow : ∀ j, T' j ≠ .other → B ≤ j ∧ j < w'.heap.size) (hkk : k ≤ k') {f : Int → Int} (n : IntMap w' F.u k' f) : GM w' B T' F k' { s with up := f } :=
  have ht : ∀ {j : Nat} {t : Tag}, T j = t → t ≠ .other → t.part ≠ .up → Z j := fun e ht hp => hz _ (by rw [e]; exact ht) (by rw [e]; exact hp)
  ⟨h.fix.more hT, hlow, h.blk.keep hk (ht h.fix.g (by simp) (by simp [Tag.part])),
    n,
    (h.last.keep hk (ht h.fix.l (by simp) (by simp [Tag.part]))).mono hkk,
    h.lives.keep hk (ht h.fix.v (by simp) (by simp [Tag.part])) (fun j hj => by rcases hj with ⟨x, e⟩ | ⟨x, e⟩ | e <;> exact ht e (by simp) (by simp [Tag.part])) hT hkk,
    h.inst.keep hk (ht h.fix.i (by simp) (by simp [Tag.part])) (fun j hj => by rcases hj with ⟨x, e⟩ | e <;> exact ht e (by simp) (by simp [Tag.part])) hT hkk,
    h.mem.keep hk (ht h.fix.m (by simp) (by simp [Tag.part])) (fun j e => ht e (by simp) (by simp [Tag.part])) hT hkk,
    h.sent.keep hk (ht h.fix.s (by simp) (by simp [Tag.part])) (fun j e => ht e (by simp) (by simp [Tag.part])) hT hkk,
    h.order.keep hk (ht h.fix.o (by simp) (by simp [Tag.part])) (fun j hj => by obtain ⟨x, e⟩ := hj; exact ht e (by simp) (by simp [Tag.part])) hT hkk,
    h.count.keep hk (ht h.fix.c (by simp) (by simp [Tag.part])) hkk⟩
theorem GM.with_last (h : GM w B T F k s) (hk : Keep Z w w') (hz : ∀ j, T j ≠ .other → (T j).part ≠ .last → Z j) (hT : More T T') (hlow : ∀ j, T' j ≠ .other → B ≤ j ∧ j < w'.heap.size) (hkk : k ≤ k') {f : Int → Int} (n : IntMap w' F.l k' f) : GM w' B T' F k' { s with last := f } :=
  have ht : ∀ {j : Nat} {t : Tag}, T j = t → t ≠ .other → t.part ≠ .last → Z j := fun e ht hp => hz _ (by rw [e]; exact ht) (by rw [e]; exact hp)
  ⟨h.fix.more hT, hlow, h.blk.keep hk (ht h.fix.g (by simp) (by simp [Tag.part])),
    (h.up.keep hk (ht h.fix.u (by simp) (by simp [Tag.part]))).mono hkk,
    n,
    h.lives.keep hk (ht h.fix.v (by simp) (by simp [Tag.part])) (fun j hj => by rcases hj with ⟨x, e⟩ | ⟨x, e⟩ | e <;> exact ht e (by simp) (by simp [Tag.part])) hT hkk,
    h.inst.keep hk (ht h.fix.i (by simp) (by simp [Tag.part])) (fun j hj => by rcases hj with ⟨x, e⟩ | e <;> exact ht e (by simp) (by simp [Tag.part])) hT hkk,
    h.mem.keep hk (ht h.fix.m (by simp) (by simp [Tag.part])) (fun j e => ht e (by simp) (by simp [Tag.part])) hT hkk,
    h.sent.keep hk (ht h.fix.s (by simp) (by simp [Tag.part])) (fun j e => ht e (by simp) (by simp [Tag.part])) hT hkk,
    h.order.keep hk (ht h.fix.o (by simp) (by simp [Tag.part])) (fun j hj => by obtain ⟨x, e⟩ := hj; exact ht e (by simp) (by simp [Tag.part])) hT hkk,
    h.count.keep hk (ht h.fix.c (by simp) (by simp [Tag.part])) hkk⟩
theorem GM.with_lives (h : GM w B T F k s) (hk : Keep Z w w') (hz : ∀ j, T j ≠ .other → (T j).part ≠ .livs → Z j) (hT : More T T') (hlow : ∀ j, T' j ≠ .other → B ≤ j ∧ j < w'.heap.size) (hkk : k ≤ k') {f : Who → Option LifeD} (n : Lives w' T' F.v k' f) : GM w' B T' F k' { s with lives := f } :=
  have ht : ∀ {j : Nat} {t : Tag}, T j = t → t ≠ .other → t.part ≠ .livs → Z j := fun e ht hp => hz _ (by rw [e]; exact ht) (by rw [e]; exact hp)
  ⟨h.fix.more hT, hlow, h.blk.keep hk (ht h.fix.g (by simp) (by simp [Tag.part])),
    (h.up.keep hk (ht h.fix.u (by simp) (by simp [Tag.part]))).mono hkk,
    (h.last.keep hk (ht h.fix.l (by simp) (by simp [Tag.part]))).mono hkk,
    n,
    h.inst.keep hk (ht h.fix.i (by simp) (by simp [Tag.part])) (fun j hj => by rcases hj with ⟨x, e⟩ | e <;> exact ht e (by simp) (by simp [Tag.part])) hT hkk,
    h.mem.keep hk (ht h.fix.m (by simp) (by simp [Tag.part])) (fun j e => ht e (by simp) (by simp [Tag.part])) hT hkk,
    h.sent.keep hk (ht h.fix.s (by simp) (by simp [Tag.part])) (fun j e => ht e (by simp) (by simp [Tag.part])) hT hkk,
    h.order.keep hk (ht h.fix.o (by simp) (by simp [Tag.part])) (fun j hj => by obtain ⟨x, e⟩ := hj; exact ht e (by simp) (by simp [Tag.part])) hT hkk,
    h.count.keep hk (ht h.fix.c (by simp) (by simp [Tag.part])) hkk⟩
theorem GM.with_inst (h : GM w B T F k s) (hk : Keep Z w w') (hz : ∀ j, T j ≠ .other → (T j).part ≠ .ins → Z j) (hT : More T T') (hlow : ∀ j, T' j ≠ .other → B ≤ j ∧ j < w'.heap.size) (hkk : k ≤ k') {f : V4 → List EntD} (n : Insts w' T' B F.i k' f) : GM w' B T' F k' { s with inst := f } :=
  have ht : ∀ {j : Nat} {t : Tag}, T j = t → t ≠ .other → t.part ≠ .ins → Z j := fun e ht hp => hz _ (by rw [e]; exact ht) (by rw [e]; exact hp)
  ⟨h.fix.more hT, hlow, h.blk.keep hk (ht h.fix.g (by simp) (by simp [Tag.part])),
    (h.up.keep hk (ht h.fix.u (by simp) (by simp [Tag.part]))).mono hkk,
    (h.last.keep hk (ht h.fix.l (by simp) (by simp [Tag.part]))).mono hkk,
    h.lives.keep hk (ht h.fix.v (by simp) (by simp [Tag.part])) (fun j hj => by rcases hj with ⟨x, e⟩ | ⟨x, e⟩ | e <;> exact ht e (by simp) (by simp [Tag.part])) hT hkk,
    n,
    h.mem.keep hk (ht h.fix.m (by simp) (by simp [Tag.part])) (fun j e => ht e (by simp) (by simp [Tag.part])) hT hkk,
    h.sent.keep hk (ht h.fix.s (by simp) (by simp [Tag.part])) (fun j e => ht e (by simp) (by simp [Tag.part])) hT hkk,
    h.order.keep hk (ht h.fix.o (by simp) (by simp [Tag.part])) (fun j hj => by obtain ⟨x, e⟩ := hj; exact ht e (by simp) (by simp [Tag.part])) hT hkk,
    h.count.keep hk (ht h.fix.c (by simp) (by simp [Tag.part])) hkk⟩
theorem GM.with_mem (h : GM w B T F k s) (hk : Keep Z w w') (hz : ∀ j, T j ≠ .other → (T j).part ≠ .mms → Z j) (hT : More T T') (hlow : ∀ j, T' j ≠ .other → B ≤ j ∧ j < w'.heap.size) (hkk : k ≤ k') {f : V4 → List MemD} (n : Mems w' T' F.m k' f) : GM w' B T' F k' { s with mem := f } :=
  have ht : ∀ {j : Nat} {t : Tag}, T j = t → t ≠ .other → t.part ≠ .mms → Z j := fun e ht hp => hz _ (by rw [e]; exact ht) (by rw [e]; exact hp)
  ⟨h.fix.more hT, hlow, h.blk.keep hk (ht h.fix.g (by simp) (by simp [Tag.part])),
    (h.up.keep hk (ht h.fix.u (by simp) (by simp [Tag.part]))).mono hkk,
    (h.last.keep hk (ht h.fix.l (by simp) (by simp [Tag.part]))).mono hkk,
    h.lives.keep hk (ht h.fix.v (by simp) (by simp [Tag.part])) (fun j hj => by rcases hj with ⟨x, e⟩ | ⟨x, e⟩ | e <;> exact ht e (by simp) (by simp [Tag.part])) hT hkk,
    h.inst.keep hk (ht h.fix.i (by simp) (by simp [Tag.part])) (fun j hj => by rcases hj with ⟨x, e⟩ | e <;> exact ht e (by simp) (by simp [Tag.part])) hT hkk,
    n,
    h.sent.keep hk (ht h.fix.s (by simp) (by simp [Tag.part])) (fun j e => ht e (by simp) (by simp [Tag.part])) hT hkk,
    h.order.keep hk (ht h.fix.o (by simp) (by simp [Tag.part])) (fun j hj => by obtain ⟨x, e⟩ := hj; exact ht e (by simp) (by simp [Tag.part])) hT hkk,
    h.count.keep hk (ht h.fix.c (by simp) (by simp [Tag.part])) hkk⟩
theorem GM.with_sent (h : GM w B T F k s) (hk : Keep Z w w') (hz : ∀ j, T j ≠ .other → (T j).part ≠ .snt → Z j) (hT : More T T') (hlow : ∀ j, T' j ≠ .other → B ≤ j ∧ j < w'.heap.size) (hkk : k ≤ k') {f : V4 × Who × Int → Option (List UInt8)} (n : Sents w' T' F.s k' f) : GM w' B T' F k' { s with sent := f } :=
  have ht : ∀ {j : Nat} {t : Tag}, T j = t → t ≠ .other → t.part ≠ .snt → Z j := fun e ht hp => hz _ (by rw [e]; exact ht) (by rw [e]; exact hp)
  ⟨h.fix.more hT, hlow, h.blk.keep hk (ht h.fix.g (by simp) (by simp [Tag.part])),
    (h.up.keep hk (ht h.fix.u (by simp) (by simp [Tag.part]))).mono hkk,
    (h.last.keep hk (ht h.fix.l (by simp) (by simp [Tag.part]))).mono hkk,
    h.lives.keep hk (ht h.fix.v (by simp) (by simp [Tag.part])) (fun j hj => by rcases hj with ⟨x, e⟩ | ⟨x, e⟩ | e <;> exact ht e (by simp) (by simp [Tag.part])) hT hkk,
    h.inst.keep hk (ht h.fix.i (by simp) (by simp [Tag.part])) (fun j hj => by rcases hj with ⟨x, e⟩ | e <;> exact ht e (by simp) (by simp [Tag.part])) hT hkk,
    h.mem.keep hk (ht h.fix.m (by simp) (by simp [Tag.part])) (fun j e => ht e (by simp) (by simp [Tag.part])) hT hkk,
    n,
    h.order.keep hk (ht h.fix.o (by simp) (by simp [Tag.part])) (fun j hj => by obtain ⟨x, e⟩ := hj; exact ht e (by simp) (by simp [Tag.part])) hT hkk,
    h.count.keep hk (ht h.fix.c (by simp) (by simp [Tag.part])) hkk⟩
theorem GM.with_order (h : GM w B T F k s) (hk : Keep Z w w') (hz : ∀ j, T j ≠ .other → (T j).part ≠ .ord → Z j) (hT : More T T') (hlow : ∀ j, T' j ≠ .other → B ≤ j ∧ j < w'.heap.size) (hkk : k ≤ k') {f : V4 → List TolD} (n : Ords w' T' B F.o k' f) : GM w' B T' F k' { s with order := f } :=
  have ht : ∀ {j : Nat} {t : Tag}, T j = t → t ≠ .other → t.part ≠ .ord → Z j := fun e ht hp => hz _ (by rw [e]; exact ht) (by rw [e]; exact hp)
  ⟨h.fix.more hT, hlow, h.blk.keep hk (ht h.fix.g (by simp) (by simp [Tag.part])),
    (h.up.keep hk (ht h.fix.u (by simp) (by simp [Tag.part]))).mono hkk,
    (h.last.keep hk (ht h.fix.l (by simp) (by simp [Tag.part]))).mono hkk,
    h.lives.keep hk (ht h.fix.v (by simp) (by simp [Tag.part])) (fun j hj => by rcases hj with ⟨x, e⟩ | ⟨x, e⟩ | e <;> exact ht e (by simp) (by simp [Tag.part])) hT hkk,
    h.inst.keep hk (ht h.fix.i (by simp) (by simp [Tag.part])) (fun j hj => by rcases hj with ⟨x, e⟩ | e <;> exact ht e (by simp) (by simp [Tag.part])) hT hkk,
    h.mem.keep hk (ht h.fix.m (by simp) (by simp [Tag.part])) (fun j e => ht e (by simp) (by simp [Tag.part])) hT hkk,
    h.sent.keep hk (ht h.fix.s (by simp) (by simp [Tag.part])) (fun j e => ht e (by simp) (by simp [Tag.part])) hT hkk,
    n,
    h.count.keep hk (ht h.fix.c (by simp) (by simp [Tag.part])) hkk⟩
theorem GM.with_count (h : GM w B T F k s) (hk : Keep Z w w') (hz : ∀ j, T j ≠ .other → (T j).part ≠ .cnt → Z j) (hT : More T T') (hlow : ∀ j, T' j ≠ .other → B ≤ j ∧ j < w'.heap.size) (hkk : k ≤ k') {f : V4 × Who → Nat} (n : Cnts w' F.c k' f) : GM w' B T' F k' { s with count := f } :=
  have ht : ∀ {j : Nat} {t : Tag}, T j = t → t ≠ .other → t.part ≠ .cnt → Z j := fun e ht hp => hz _ (by rw [e]; exact ht) (by rw [e]; exact hp)
  ⟨h.fix.more hT, hlow, h.blk.keep hk (ht h.fix.g (by simp) (by simp [Tag.part])),
    (h.up.keep hk (ht h.fix.u (by simp) (by simp [Tag.part]))).mono hkk,
    (h.last.keep hk (ht h.fix.l (by simp) (by simp [Tag.part]))).mono hkk,
    h.lives.keep hk (ht h.fix.v (by simp) (by simp [Tag.part])) (fun j hj => by rcases hj with ⟨x, e⟩ | ⟨x, e⟩ | e <;> exact ht e (by simp) (by simp [Tag.part])) hT hkk,
    h.inst.keep hk (ht h.fix.i (by simp) (by simp [Tag.part])) (fun j hj => by rcases hj with ⟨x, e⟩ | e <;> exact ht e (by simp) (by simp [Tag.part])) hT hkk,
    h.mem.keep hk (ht h.fix.m (by simp) (by simp [Tag.part])) (fun j e => ht e (by simp) (by simp [Tag.part])) hT hkk,
    h.sent.keep hk (ht h.fix.s (by simp) (by simp [Tag.part])) (fun j e => ht e (by simp) (by simp [Tag.part])) hT hkk,
    h.order.keep hk (ht h.fix.o (by simp) (by simp [Tag.part])) (fun j hj => by obtain ⟨x, e⟩ := hj; exact ht e (by simp) (by simp [Tag.part])) hT hkk,
    n⟩
end
theorem same_low {w w' : World} {B : Nat} {T : Nat → Tag} {F : Fix} {k : Nat} {s : GrpD} (h : GM w B T F k s) (hs : w.heap.size ≤ w'.heap.size) : ∀ j, T j ≠ .other → B ≤ j ∧ j < w'.heap.size := fun j hj => ⟨(h.low j hj).1, Nat.lt_of_lt_of_le (h.low j hj).2 hs⟩
theorem GM.mono {w : World} {B : Nat} {T : Nat → Tag} {F : Fix} {k k' : Nat} {s : GrpD} (h : GM w B T F k s) (hk : k ≤ k') : GM w B T F k' s := h.more (Keep.refl (fun _ => True) w) (fun _ _ => trivial) (More.refl T) h.low hk
end Go.Proofs.Ytfpcmleeehciaaa
