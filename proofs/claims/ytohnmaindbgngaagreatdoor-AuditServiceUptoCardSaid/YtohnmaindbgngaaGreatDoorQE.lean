/-
  MERGED: SrvM
-/
import Derived.Test.YtohnmaindbgngaaGreatDoorQC
import Derived.Test.YtohnmaindbgngaaGreatDoorQD
namespace Go.Proofs.YtohnmaindbgngaaGreatDoor
set_option linter.unusedVariables false
set_option linter.unusedSimpArgs false
open Go.RowKit
open Go.Maps (Keyed)

/-! ### keys -/
structure MK (α : Type) where
  k : TypeId
  enc : α → Value
  ok : α → Prop
  K : Keyed Tryz.prog k
  inj : ∀ a b, enc a = enc b → a = b
  key : ∀ a, ok a → (keyOf Tryz.prog k (enc a)).isSome = true
def reqA (x : Req) : Value := .agg #[.int .i64 x.1, .int .i64 x.2.1, .int .i64 x.2.2]
def cmdK (c : CmdD) : Value := .agg #[.int .i64 c.c, .int .i64 c.i, .int .i64 c.r, .int .i64 c.o, tx c.k, tx c.v, tx c.d]
def InR (x : Req) : Prop := I64 x.1 ∧ I64 x.2.1 ∧ I64 x.2.2
structure InC (x : CmdD) : Prop where
  c : I64 x.c
  i : I64 x.i
  r : I64 x.r
  o : I64 x.o
  k : x.k.length ≤ 1048576
  v : x.v.length ≤ 1048576
  d : x.d.length ≤ 1048576
theorem InC.req {c : CmdD} (h : InC c) : InR c.req := ⟨h.c, h.i, h.r⟩
theorem kreq : Keyed Tryz.prog 169 := Keyed.of_law (deep_law_laid laidOutA (m := 6) (by omega) (of_decide_eq_true (by kernel_rfl)) (by kernel_rfl) (by rw [Tryz.underlying169]))
theorem kcmd : Keyed Tryz.prog 43 := Keyed.of_law (deep_law_laid laidOutA (m := 6) (by omega) (of_decide_eq_true (by kernel_rfl)) (by kernel_rfl) (by rw [Tryz.underlying43]))
theorem lits_str {s : List UInt8} (h : s.length ≤ 1048576) (d : Nat) : Tryz.prog.keyLits (d + 1) 9 [tx s] = some [.string s] := by
  unfold Program.keyLits
  rw [Tryz.underlying9]
  have : s.length ≤ maxLen := by simp only [maxLen]; omega
  simp [ByteArray.size, this]
theorem cRq : Tryz.prog.cellsOf 169 = 3 := by kernel_rfl
theorem cCm : Tryz.prog.cellsOf 43 = 7 := by kernel_rfl
theorem cSt : Tryz.prog.cellsOf 9 = 1 := by kernel_rfl
theorem lits_req {x : Req} (h : InR x) (d : Nat) : Tryz.prog.keyLits (d + 2) 169 [.int .i64 x.1, .int .i64 x.2.1, .int .i64 x.2.2] = some [.int .i64 x.1, .int .i64 x.2.1, .int .i64 x.2.2] := by
  unfold Program.keyLits
  rw [Tryz.underlying169]
  simp [cRq, c1, lits_int h.1, lits_int h.2.1, lits_int h.2.2]
theorem lits_cmd {c : CmdD} (h : InC c) (d : Nat) : Tryz.prog.keyLits (d + 2) 43 [.int .i64 c.c, .int .i64 c.i, .int .i64 c.r, .int .i64 c.o, tx c.k, tx c.v, tx c.d] = some [.int .i64 c.c, .int .i64 c.i, .int .i64 c.r, .int .i64 c.o, .string c.k, .string c.v, .string c.d] := by
  unfold Program.keyLits
  rw [Tryz.underlying43]
  simp [cCm, c1, cSt, lits_int h.c, lits_int h.i, lits_int h.r, lits_int h.o, lits_str h.k, lits_str h.v, lits_str h.d]
theorem key_req {x : Req} (h : InR x) : (keyOf Tryz.prog 169 (reqA x)).isSome = true := by
  obtain ⟨d, hd⟩ := sizeP
  have h1 : Tryz.prog.keyType 169 = true := by kernel_rfl
  have h2 : (reqA x).formed Tryz.prog 169 = true := by simp [reqA, Value.formed, Tryz.underlying169, cRq]
  unfold keyOf
  rw [Tryz.underlying169]
  simp only [h1, h2, Bool.and_self, if_true, hd]
  have := lits_req h (d + 3)
  simp only [reqA, Value.cells] at this ⊢
  rw [this]
  rfl
theorem key_cmd {c : CmdD} (h : InC c) : (keyOf Tryz.prog 43 (cmdK c)).isSome = true := by
  obtain ⟨d, hd⟩ := sizeP
  have h1 : Tryz.prog.keyType 43 = true := by kernel_rfl
  have h2 : (cmdK c).formed Tryz.prog 43 = true := by simp [cmdK, Value.formed, Tryz.underlying43, cCm]
  unfold keyOf
  rw [Tryz.underlying43]
  simp only [h1, h2, Bool.and_self, if_true, hd]
  have := lits_cmd h (d + 3)
  simp only [cmdK, Value.cells] at this ⊢
  rw [this]
  rfl
theorem reqA_inj (a b : Req) (h : reqA a = reqA b) : a = b := by
  simp [reqA] at h
  exact Prod.ext h.1 (Prod.ext h.2.1 h.2.2)
theorem tx_inj {a b : List UInt8} (h : tx a = tx b) : a = b := by
  injection h with h
  injection h with h
  injection h
theorem cmdK_inj (a b : CmdD) (h : cmdK a = cmdK b) : a = b := by
  obtain ⟨a1, a2, a3, a4, a5, a6, a7⟩ := a
  obtain ⟨b1, b2, b3, b4, b5, b6, b7⟩ := b
  simp [cmdK] at h
  obtain ⟨rfl, rfl, rfl, rfl, e5, e6, e7⟩ := h
  subst e5 e6 e7
  rfl
def mkInt : MK Int := ⟨3, fun z => .int .i64 z, I64, kint0, intA_inj, fun _ h => key_int h⟩
def mkWho : MK Who := ⟨97, whoA, InW, kwho, whoA_inj, fun _ h => key_who h⟩
def mkReq : MK Req := ⟨169, reqA, InR, kreq, reqA_inj, fun _ h => key_req h⟩
def mkCmd : MK CmdD := ⟨43, cmdK, InC, kcmd, cmdK_inj, fun _ h => key_cmd h⟩
noncomputable abbrev MK.lit {α : Type} (M : MK α) (a : α) : Lit := keyL Tryz.prog M.k M.enc a

/-! ### maps as functions -/
theorem smaller_max {k : Nat} (h : k ≤ 4194304) : k < maxLen := by simp only [maxLen]; omega
def MapF {α β : Type} (M : MK α) (val : β → Value) (w : World) (b n : Nat) (f : α → Option β) : Prop :=
  ∃ ps, KMap Tryz.prog M.k w b ps ∧ ps.length ≤ n ∧ ∀ x, M.ok x → kfind (M.lit x) ps = (f x).map val
section
variable {α β : Type} {M : MK α} {val : β → Value} {w w' : World} {b n n' : Nat} {f : α → Option β} {Z : Nat → Prop}
theorem MapF.keep (h : MapF M val w b n f) (hk : Keep Z w w') (hz : Z b) : MapF M val w' b n f := by
  obtain ⟨ps, h1, h2, h3⟩ := h
  exact ⟨ps, h1.keep hk hz, h2, h3⟩
theorem MapF.lt (h : MapF M val w b n f) : b < w.heap.size := by
  obtain ⟨ps, h1, h2, h3⟩ := h
  exact h1.lt
theorem MapF.mono (h : MapF M val w b n f) (hn : n ≤ n') : MapF M val w b n' f := by
  obtain ⟨ps, h1, h2, h3⟩ := h
  exact ⟨ps, h1, Nat.le_trans h2 hn, h3⟩
theorem MapF.of_made {k : TypeId} {ps : List Ke} (hk : k = M.k) (h : KMap Tryz.prog k w b []) (n : Nat) : MapF M val w b n (fun _ => none) := by
  subst hk
  exact ⟨[], h, Nat.zero_le _, fun _ _ => rfl⟩
theorem MapF.lookF (h : MapF M val w b n f) {t e : TypeId} (ht : Tryz.prog.underlying t = some (.map M.k e)) {z : Value} (hz : ∀ u : World, (zeroValue e).run Tryz.prog u = .ok z u) {x : α} (hx : M.ok x) (w' : World) (hf : Fresh w w') :
    (Instr.lookup t (.map (some b)) (M.enc x) false).run Tryz.prog w' = .ok (((f x).map val).getD z) w' := by
  obtain ⟨ps, h1, h2, h3⟩ := h
  have := (h1.keep hf trivial).look M.K ht (hz w') (keyL_of (M.key x hx))
  rw [h3 x hx] at this
  exact this
theorem MapF.lookOk (h : MapF M val w b n f) {t e : TypeId} (ht : Tryz.prog.underlying t = some (.map M.k e)) {z : Value} (hz : ∀ u : World, (zeroValue e).run Tryz.prog u = .ok z u) {x : α} (hx : M.ok x) (w' : World) (hf : Fresh w w') :
    (Instr.lookup t (.map (some b)) (M.enc x) true).run Tryz.prog w' = .ok (.tuple #[((f x).map val).getD z, .bool (f x).isSome]) w' := by
  obtain ⟨ps, h1, h2, h3⟩ := h
  have := (h1.keep hf trivial).look_ok M.K ht (hz w') (keyL_of (M.key x hx))
  rw [h3 x hx] at this
  rw [this]
  cases f x <;> rfl
variable [DecidableEq α]
theorem MapF.put {ps : List Ke} {ps2 : List Ke} (h3 : ∀ x, M.ok x → kfind (M.lit x) ps = (f x).map val) {x : α} (hx : M.ok x) (v : β) : ∀ y, M.ok y → kfind (M.lit y) (kput (M.lit x) (val v) ps) = (upd f x (some v) y).map val := fun y hy => by
  rw [kfind_upd M.K M.inj (M.key x hx) (M.key y hy)]
  by_cases e : y = x
  · subst e; rw [if_pos rfl, upd_self]; rfl
  · rw [if_neg e, upd_ne _ _ e]; exact h3 y hy
theorem MapF.store (h : MapF M val w b n f) {t e : TypeId} (ht : Tryz.prog.underlying t = some (.map M.k e)) (hn : n ≤ 4194304) {x : α} (hx : M.ok x) (v : β) :
    ∃ w', (Instr.mapUpdate t (.map (some b)) (M.enc x) (val v)).run Tryz.prog w = .ok () w' ∧ MapF M val w' b (n + 1) (upd f x (some v)) ∧ Keep (fun j => j ≠ b) w w' := by
  obtain ⟨ps, h1, h2, h3⟩ := h
  obtain ⟨w', hrun, hm, hkp⟩ := h1.store M.K ht (smaller_max (Nat.le_trans h2 hn)) (keyL_of (M.key x hx)) (val v)
  exact ⟨w', hrun, ⟨_, hm, Nat.le_trans (kput_len _ _ ps) (Nat.succ_le_succ h2), MapF.put (ps2 := ps) h3 hx v⟩, hkp⟩
theorem MapF.entry (h : MapF M val w b n f) {t e : TypeId} (ht : Tryz.prog.underlying t = some (.map M.k e)) (hn : n ≤ 4194304) {z : Value} (hz : ∀ u : World, (zeroValue e).run Tryz.prog u = .ok z u) {x : α} (hx : M.ok x) :
    ∃ (st : Value) (w1 : World), (Instr.mapEntry t (.map (some b)) (M.enc x)).run Tryz.prog w = .ok (.tuple #[((f x).map val).getD z, st]) w1 ∧ Keep (fun i => i ≠ b) w w1 ∧
      (∀ w', Fresh w1 w' → (Instr.lookup t (.map (some b)) (M.enc x) false).run Tryz.prog w' = .ok (((f x).map val).getD z) w') ∧
      ∀ w2 (u : β), w2.heap[b]? = w1.heap[b]? → ∃ w3, (Instr.entryStore t (.map (some b)) st (val u)).run Tryz.prog w2 = .ok () w3 ∧ MapF M val w3 b (n + 1) (upd f x (some u)) ∧ Keep (fun i => i ≠ b) w2 w3 := by
  obtain ⟨ps, h1, h2, h3⟩ := h
  obtain ⟨st, w1, hrun, hE⟩ := h1.entry M.K ht (smaller_max (Nat.le_trans h2 hn)) hz (keyL_of (M.key x hx))
  refine ⟨st, w1, by rw [hrun, h3 x hx], hE.keep, fun w' hf => ?_, fun w2 u hw => ?_⟩
  · obtain ⟨ps1, m1, m2, m3⟩ := hE.map
    have := (m1.keep hf trivial).look M.K ht (hz w') (keyL_of (M.key x hx))
    rw [m2, h3 x hx] at this
    exact this
  obtain ⟨w3, r1, r2, r3⟩ := hE.put w2 (val u) hw
  exact ⟨w3, r1, ⟨_, r2, Nat.le_trans (kput_len _ _ ps) (Nat.succ_le_succ h2), MapF.put (ps2 := ps) h3 hx u⟩, r3⟩
end
/-! ### tags -/
inductive STag where
  | other | kept | srv | pts | ent | idx | ask | plc | fur | mac | vot
  | part (x : Who)
deriving DecidableEq
inductive SPart where
  | none | srv | pts | ent | idx | ask | plc | fur | mac | vot
deriving DecidableEq
def STag.part' : STag → SPart
  | .other => .none | .kept => .none | .srv => .srv | .pts => .pts | .ent => .ent | .idx => .idx | .ask => .ask | .plc => .plc | .fur => .fur | .mac => .mac | .vot => .vot | .part _ => .pts
def SMore (T T' : Nat → STag) : Prop := ∀ j, T j ≠ .other → T' j = T j
theorem SMore.refl (T : Nat → STag) : SMore T T := fun _ _ => rfl
theorem SMore.at {T T' : Nat → STag} {j : Nat} {t : STag} (h : SMore T T') (hj : T j = t) (ht : t ≠ .other) : T' j = t := by rw [h j (by rw [hj]; exact ht), hj]
theorem SMore.trans {T T' T'' : Nat → STag} (h : SMore T T') (k : SMore T' T'') : SMore T T'' := fun j hj => by rw [k j (by rw [h j hj]; exact hj), h j hj]
theorem stag_ne {T : Nat → STag} {a b : Nat} {t u : STag} (ha : T a = t) (hb : T b = u) (h : t ≠ u) : a ≠ b := fun e => h (by rw [← ha, ← hb, e])
def soneT (T : Nat → STag) (b : Nat) (t : STag) : Nat → STag := fun j => if j = b then t else T j

/-! ### the state -/
abbrev nilV : Value := .slice none 0 0
def partV (p : PartD) : Array Value := #[.int .i64 p.id.1, .int .i64 p.id.2.1, .int .i64 p.id.2.2.1, .int .i64 p.id.2.2.2, nilV, .bool p.viewed, .bool p.quorate, .bool p.adopted, .bool p.since, .int .i64 (p.asks : Int), .int .i64 p.last, .bool p.waits,
  .int .i64 p.pending.c, .int .i64 p.pending.i, .int .i64 p.pending.r, .int .i64 p.pending.o, tx p.pending.k, tx p.pending.v, tx p.pending.d]
def entA2 (x : CmdD × ResD) : Value := .agg #[.int .i64 x.1.c, .int .i64 x.1.i, .int .i64 x.1.r, .int .i64 x.1.o, tx x.1.k, tx x.1.v, tx x.1.d, .int .i64 x.2.code, tx x.2.val, .int .i64 x.2.n]
def iV (z : Int) : Value := .int .i64 z
def nV (z : Nat) : Value := .int .i64 (z : Int)
def pV (b : Nat) : Value := .pointer (some ⟨b, 0, none⟩)
/-- The blocks of 'served'; the votes' header. -/
structure SFix where
  g : Nat
  p : Nat
  e : Nat
  i : Nat
  a : Nat
  c : Nat
  u : Nat
  m : Nat
  va : Option Addr
  vc : Nat
def srvV (vs : List Int) (s : SrvD) (F : SFix) : Array Value := #[.slice F.va vs.length F.vc, .map (some F.p), .map (some F.e), .map (some F.i), .map (some F.a), .map (some F.c), .map (some F.u), .int .i64 (s.grown : Int), .pointer (some ⟨F.m, 0, none⟩)]
structure SFixT (T : Nat → STag) (F : SFix) : Prop where
  g : T F.g = .srv
  p : T F.p = .pts
  e : T F.e = .ent
  i : T F.i = .idx
  a : T F.a = .ask
  c : T F.c = .plc
  u : T F.u = .fur
theorem SFixT.more {T T' : Nat → STag} {F : SFix} (h : SFixT T F) (hT : SMore T T') : SFixT T' F :=
  ⟨hT.at h.g (by simp), hT.at h.p (by simp), hT.at h.e (by simp), hT.at h.i (by simp), hT.at h.a (by simp), hT.at h.c (by simp), hT.at h.u (by simp)⟩
section
variable {w w' : World} {Z : Nat → Prop} {T T' : Nat → STag}
def Parts (w : World) (T : Nat → STag) (b k : Nat) (f : Who → Option PartD) : Prop :=
  ∃ g : Who → Option Nat, MapF mkWho pV w b k g ∧ ∀ x, InW x → (f x = none → g x = none) ∧ ∀ p, f x = some p → ∃ c, g x = some c ∧ T c = .part x ∧ Blk w c 102 (partV p)
theorem Parts.keep {b k k' : Nat} {f : Who → Option PartD} (h : Parts w T b k f) (hk : Keep Z w w') (hb : Z b) (hz : ∀ j x, T j = .part x → Z j) (hT : SMore T T') (hkk : k ≤ k') : Parts w' T' b k' f := by
  obtain ⟨g, h1, h2⟩ := h
  refine ⟨g, (h1.keep hk hb).mono hkk, fun x hx => ⟨(h2 x hx).1, fun p hp => ?_⟩⟩
  obtain ⟨c, e, hc, hbl⟩ := (h2 x hx).2 p hp
  exact ⟨c, e, hT.at hc (by simp), hbl.keep hk (hz c x hc)⟩
def Asks (w : World) (b k : Nat) (f : CmdD → Nat) : Prop := ∃ g : CmdD → Option Nat, MapF mkCmd nV w b k g ∧ ∀ c, (g c).getD 0 = f c
theorem Asks.keep {b k k' : Nat} {f : CmdD → Nat} (h : Asks w b k f) (hk : Keep Z w w') (hb : Z b) (hkk : k ≤ k') : Asks w' b k' f := by
  obtain ⟨g, h1, h2⟩ := h
  exact ⟨g, (h1.keep hk hb).mono hkk, h2⟩
def Machs (W w : World) (T : Nat → STag) (m : Nat) (s : StD) : Prop := ∃ Fm : Nat → Prop, MAtS W.heap.size w Fm m s ∧ ∀ j, Fm j → T j = .mac
theorem Machs.keep {W : World} {m : Nat} {s : StD} (h : Machs W w T m s) (hk : Keep Z w w') (hz : ∀ j, T j = .mac → Z j) (hT : SMore T T') : Machs W w' T' m s := by
  obtain ⟨Fm, h1, h2⟩ := h
  exact ⟨Fm, h1.keep hk fun j hj => hz j (h2 j hj), fun j hj => hT.at (h2 j hj) (by simp)⟩
def Votes (w : World) (T : Nat → STag) (F : SFix) (vs : List Int) : Prop := SlOk w (fun j => T j = .vot) 1 vs.length (.slice F.va vs.length F.vc) (ics vs)
theorem Votes.keep {F : SFix} {vs : List Int} (h : Votes w T F vs) (hk : Keep Z w w') (hz : ∀ j, T j = .vot → Z j) (hT : SMore T T') : Votes w' T' F vs :=
  ((SlOk.weaken (Z' := fun j => Z j ∧ T' j = .vot) h fun j hj => ⟨hz j hj, hT.at hj (by decide)⟩).keep (hk.weaken fun _ _ h => h.1)).weaken fun _ h => h.2
end
/-- The state s in memory, behind k marks at most; all of it came behind W. -/
structure SM (W w : World) (T : Nat → STag) (F : SFix) (k : Nat) (vs : List Int) (s : SrvD) : Prop where
  tabs : Tabs W
  fresh : Fresh W w
  fix : SFixT T F
  low : ∀ j, T j ≠ .other → W.heap.size ≤ j ∧ j < w.heap.size
  votes : Votes w T F vs
  blk : Blk w F.g 95 (srvV vs s F)
  parts : Parts w T F.p k s.parts
  entries : MapF mkInt entA2 w F.e s.cnt s.entries
  index : MapF mkReq iV w F.i k s.index
  asked : Asks w F.a k s.asked
  place : MapF mkCmd iV w F.c k s.place
  furthest : MapF mkInt iV w F.u k s.furthest
  mach : Machs W w T F.m s.mach
section
variable {W w w' : World} {T T' : Nat → STag} {F : SFix} {k k' : Nat} {vs : List Int} {s : SrvD} {Z : Nat → Prop}
theorem SM.base (h : SM W w T F k vs s) : W.heap.size ≤ w.heap.size := h.fresh.size
theorem SM.newer (h : SM W w T F k vs s) (hk : Keep Z w w') (hz : ∀ j, j < W.heap.size → Z j) : Fresh W w' := h.fresh.comp hk (fun _ _ h => h) (fun j hj _ => hz j hj)

theorem SM.with_blk (h : SM W w T F k vs s) (hk : Keep Z w w') (hz : ∀ j, T j ≠ .other → (T j).part' ≠ .srv → Z j) (hb : ∀ j, j < W.heap.size → Z j) (hT : SMore T T') (hlow : ∀ j, T' j ≠ .other → W.heap.size ≤ j ∧ j < w'.heap.size) (hkk : k ≤ k') {g : Nat} (n : Blk w' F.g 95 (srvV vs { s with grown := g } F)) : SM W w' T' F k' vs { s with grown := g } :=
  have ht : ∀ {j : Nat} {t : STag}, T j = t → t ≠ .other → t.part' ≠ .srv → Z j := fun e ht hp => hz _ (by rw [e]; exact ht) (by rw [e]; exact hp)
  ⟨h.tabs, h.newer hk hb, h.fix.more hT, hlow, h.votes.keep hk (fun j e => ht e (by simp) (by simp [STag.part'])) hT,
    n,
    h.parts.keep hk (ht h.fix.p (by simp) (by simp [STag.part'])) (fun j x e => ht e (by simp) (by simp [STag.part'])) hT hkk,
    h.entries.keep hk (ht h.fix.e (by simp) (by simp [STag.part'])),
    (h.index.keep hk (ht h.fix.i (by simp) (by simp [STag.part']))).mono hkk,
    h.asked.keep hk (ht h.fix.a (by simp) (by simp [STag.part'])) hkk,
    (h.place.keep hk (ht h.fix.c (by simp) (by simp [STag.part']))).mono hkk,
    (h.furthest.keep hk (ht h.fix.u (by simp) (by simp [STag.part']))).mono hkk,
    h.mach.keep hk (fun j e => ht e (by simp) (by simp [STag.part'])) hT⟩
theorem SM.with_parts (h : SM W w T F k vs s) (hk : Keep Z w w') (hz : ∀ j, T j ≠ .other → (T j).part' ≠ .pts → Z j) (hb : ∀ j, j < W.heap.size → Z j) (hT : SMore T T') (hlow : ∀ j, T' j ≠ .other → W.heap.size ≤ j ∧ j < w'.heap.size) (hkk : k ≤ k') {f : Who → Option PartD} (n : Parts w' T' F.p k' f) : SM W w' T' F k' vs { s with parts := f } :=
  have ht : ∀ {j : Nat} {t : STag}, T j = t → t ≠ .other → t.part' ≠ .pts → Z j := fun e ht hp => hz _ (by rw [e]; exact ht) (by rw [e]; exact hp)
  ⟨h.tabs, h.newer hk hb, h.fix.more hT, hlow, h.votes.keep hk (fun j e => ht e (by simp) (by simp [STag.part'])) hT,
    h.blk.keep hk (ht h.fix.g (by simp) (by simp [STag.part'])),
    n,
    h.entries.keep hk (ht h.fix.e (by simp) (by simp [STag.part'])),
    (h.index.keep hk (ht h.fix.i (by simp) (by simp [STag.part']))).mono hkk,
    h.asked.keep hk (ht h.fix.a (by simp) (by simp [STag.part'])) hkk,
    (h.place.keep hk (ht h.fix.c (by simp) (by simp [STag.part']))).mono hkk,
    (h.furthest.keep hk (ht h.fix.u (by simp) (by simp [STag.part']))).mono hkk,
    h.mach.keep hk (fun j e => ht e (by simp) (by simp [STag.part'])) hT⟩
theorem SM.with_entries (h : SM W w T F k vs s) (hk : Keep Z w w') (hz : ∀ j, T j ≠ .other → (T j).part' ≠ .ent → Z j) (hb : ∀ j, j < W.heap.size → Z j) (hT : SMore T T') (hlow : ∀ j, T' j ≠ .other → W.heap.size ≤ j ∧ j < w'.heap.size) (hkk : k ≤ k') {f : Int → Option (CmdD × ResD)} {c : Nat} (n : MapF mkInt entA2 w' F.e c f) : SM W w' T' F k' vs { s with entries := f, cnt := c } :=
  have ht : ∀ {j : Nat} {t : STag}, T j = t → t ≠ .other → t.part' ≠ .ent → Z j := fun e ht hp => hz _ (by rw [e]; exact ht) (by rw [e]; exact hp)
  ⟨h.tabs, h.newer hk hb, h.fix.more hT, hlow, h.votes.keep hk (fun j e => ht e (by simp) (by simp [STag.part'])) hT,
    h.blk.keep hk (ht h.fix.g (by simp) (by simp [STag.part'])),
    h.parts.keep hk (ht h.fix.p (by simp) (by simp [STag.part'])) (fun j x e => ht e (by simp) (by simp [STag.part'])) hT hkk,
    n,
    (h.index.keep hk (ht h.fix.i (by simp) (by simp [STag.part']))).mono hkk,
    h.asked.keep hk (ht h.fix.a (by simp) (by simp [STag.part'])) hkk,
    (h.place.keep hk (ht h.fix.c (by simp) (by simp [STag.part']))).mono hkk,
    (h.furthest.keep hk (ht h.fix.u (by simp) (by simp [STag.part']))).mono hkk,
    h.mach.keep hk (fun j e => ht e (by simp) (by simp [STag.part'])) hT⟩
theorem SM.with_index (h : SM W w T F k vs s) (hk : Keep Z w w') (hz : ∀ j, T j ≠ .other → (T j).part' ≠ .idx → Z j) (hb : ∀ j, j < W.heap.size → Z j) (hT : SMore T T') (hlow : ∀ j, T' j ≠ .other → W.heap.size ≤ j ∧ j < w'.heap.size) (hkk : k ≤ k') {f : Req → Option Int} (n : MapF mkReq iV w' F.i k' f) : SM W w' T' F k' vs { s with index := f } :=
  have ht : ∀ {j : Nat} {t : STag}, T j = t → t ≠ .other → t.part' ≠ .idx → Z j := fun e ht hp => hz _ (by rw [e]; exact ht) (by rw [e]; exact hp)
  ⟨h.tabs, h.newer hk hb, h.fix.more hT, hlow, h.votes.keep hk (fun j e => ht e (by simp) (by simp [STag.part'])) hT,
    h.blk.keep hk (ht h.fix.g (by simp) (by simp [STag.part'])),
    h.parts.keep hk (ht h.fix.p (by simp) (by simp [STag.part'])) (fun j x e => ht e (by simp) (by simp [STag.part'])) hT hkk,
    h.entries.keep hk (ht h.fix.e (by simp) (by simp [STag.part'])),
    n,
    h.asked.keep hk (ht h.fix.a (by simp) (by simp [STag.part'])) hkk,
    (h.place.keep hk (ht h.fix.c (by simp) (by simp [STag.part']))).mono hkk,
    (h.furthest.keep hk (ht h.fix.u (by simp) (by simp [STag.part']))).mono hkk,
    h.mach.keep hk (fun j e => ht e (by simp) (by simp [STag.part'])) hT⟩
theorem SM.with_asked (h : SM W w T F k vs s) (hk : Keep Z w w') (hz : ∀ j, T j ≠ .other → (T j).part' ≠ .ask → Z j) (hb : ∀ j, j < W.heap.size → Z j) (hT : SMore T T') (hlow : ∀ j, T' j ≠ .other → W.heap.size ≤ j ∧ j < w'.heap.size) (hkk : k ≤ k') {f : CmdD → Nat} (n : Asks w' F.a k' f) : SM W w' T' F k' vs { s with asked := f } :=
  have ht : ∀ {j : Nat} {t : STag}, T j = t → t ≠ .other → t.part' ≠ .ask → Z j := fun e ht hp => hz _ (by rw [e]; exact ht) (by rw [e]; exact hp)
  ⟨h.tabs, h.newer hk hb, h.fix.more hT, hlow, h.votes.keep hk (fun j e => ht e (by simp) (by simp [STag.part'])) hT,
    h.blk.keep hk (ht h.fix.g (by simp) (by simp [STag.part'])),
    h.parts.keep hk (ht h.fix.p (by simp) (by simp [STag.part'])) (fun j x e => ht e (by simp) (by simp [STag.part'])) hT hkk,
    h.entries.keep hk (ht h.fix.e (by simp) (by simp [STag.part'])),
    (h.index.keep hk (ht h.fix.i (by simp) (by simp [STag.part']))).mono hkk,
    n,
    (h.place.keep hk (ht h.fix.c (by simp) (by simp [STag.part']))).mono hkk,
    (h.furthest.keep hk (ht h.fix.u (by simp) (by simp [STag.part']))).mono hkk,
    h.mach.keep hk (fun j e => ht e (by simp) (by simp [STag.part'])) hT⟩
theorem SM.with_place (h : SM W w T F k vs s) (hk : Keep Z w w') (hz : ∀ j, T j ≠ .other → (T j).part' ≠ .plc → Z j) (hb : ∀ j, j < W.heap.size → Z j) (hT : SMore T T') (hlow : ∀ j, T' j ≠ .other → W.heap.size ≤ j ∧ j < w'.heap.size) (hkk : k ≤ k') {f : CmdD → Option Int} (n : MapF mkCmd iV w' F.c k' f) : SM W w' T' F k' vs { s with place := f } :=
  have ht : ∀ {j : Nat} {t : STag}, T j = t → t ≠ .other → t.part' ≠ .plc → Z j := fun e ht hp => hz _ (by rw [e]; exact ht) (by rw [e]; exact hp)
  ⟨h.tabs, h.newer hk hb, h.fix.more hT, hlow, h.votes.keep hk (fun j e => ht e (by simp) (by simp [STag.part'])) hT,
    h.blk.keep hk (ht h.fix.g (by simp) (by simp [STag.part'])),
    h.parts.keep hk (ht h.fix.p (by simp) (by simp [STag.part'])) (fun j x e => ht e (by simp) (by simp [STag.part'])) hT hkk,
    h.entries.keep hk (ht h.fix.e (by simp) (by simp [STag.part'])),
    (h.index.keep hk (ht h.fix.i (by simp) (by simp [STag.part']))).mono hkk,
    h.asked.keep hk (ht h.fix.a (by simp) (by simp [STag.part'])) hkk,
    n,
    (h.furthest.keep hk (ht h.fix.u (by simp) (by simp [STag.part']))).mono hkk,
    h.mach.keep hk (fun j e => ht e (by simp) (by simp [STag.part'])) hT⟩
theorem SM.with_furthest (h : SM W w T F k vs s) (hk : Keep Z w w') (hz : ∀ j, T j ≠ .other → (T j).part' ≠ .fur → Z j) (hb : ∀ j, j < W.heap.size → Z j) (hT : SMore T T') (hlow : ∀ j, T' j ≠ .other → W.heap.size ≤ j ∧ j < w'.heap.size) (hkk : k ≤ k') {f : Int → Option Int} (n : MapF mkInt iV w' F.u k' f) : SM W w' T' F k' vs { s with furthest := f } :=
  have ht : ∀ {j : Nat} {t : STag}, T j = t → t ≠ .other → t.part' ≠ .fur → Z j := fun e ht hp => hz _ (by rw [e]; exact ht) (by rw [e]; exact hp)
  ⟨h.tabs, h.newer hk hb, h.fix.more hT, hlow, h.votes.keep hk (fun j e => ht e (by simp) (by simp [STag.part'])) hT,
    h.blk.keep hk (ht h.fix.g (by simp) (by simp [STag.part'])),
    h.parts.keep hk (ht h.fix.p (by simp) (by simp [STag.part'])) (fun j x e => ht e (by simp) (by simp [STag.part'])) hT hkk,
    h.entries.keep hk (ht h.fix.e (by simp) (by simp [STag.part'])),
    (h.index.keep hk (ht h.fix.i (by simp) (by simp [STag.part']))).mono hkk,
    h.asked.keep hk (ht h.fix.a (by simp) (by simp [STag.part'])) hkk,
    (h.place.keep hk (ht h.fix.c (by simp) (by simp [STag.part']))).mono hkk,
    n,
    h.mach.keep hk (fun j e => ht e (by simp) (by simp [STag.part'])) hT⟩
theorem SM.with_mach (h : SM W w T F k vs s) (hk : Keep Z w w') (hz : ∀ j, T j ≠ .other → (T j).part' ≠ .mac → Z j) (hb : ∀ j, j < W.heap.size → Z j) (hT : SMore T T') (hlow : ∀ j, T' j ≠ .other → W.heap.size ≤ j ∧ j < w'.heap.size) (hkk : k ≤ k') {f : StD} (n : Machs W w' T' F.m f) : SM W w' T' F k' vs { s with mach := f } :=
  have ht : ∀ {j : Nat} {t : STag}, T j = t → t ≠ .other → t.part' ≠ .mac → Z j := fun e ht hp => hz _ (by rw [e]; exact ht) (by rw [e]; exact hp)
  ⟨h.tabs, h.newer hk hb, h.fix.more hT, hlow, h.votes.keep hk (fun j e => ht e (by simp) (by simp [STag.part'])) hT,
    h.blk.keep hk (ht h.fix.g (by simp) (by simp [STag.part'])),
    h.parts.keep hk (ht h.fix.p (by simp) (by simp [STag.part'])) (fun j x e => ht e (by simp) (by simp [STag.part'])) hT hkk,
    h.entries.keep hk (ht h.fix.e (by simp) (by simp [STag.part'])),
    (h.index.keep hk (ht h.fix.i (by simp) (by simp [STag.part']))).mono hkk,
    h.asked.keep hk (ht h.fix.a (by simp) (by simp [STag.part'])) hkk,
    (h.place.keep hk (ht h.fix.c (by simp) (by simp [STag.part']))).mono hkk,
    (h.furthest.keep hk (ht h.fix.u (by simp) (by simp [STag.part']))).mono hkk,
    n⟩
theorem SM.more (h : SM W w T F k vs s) (hk : Keep Z w w') (hz : ∀ j, T j ≠ .other → Z j) (hb : ∀ j, j < W.heap.size → Z j) (hT : SMore T T') (hlow : ∀ j, T' j ≠ .other → W.heap.size ≤ j ∧ j < w'.heap.size) (hkk : k ≤ k') : SM W w' T' F k' vs s :=
  have ht : ∀ {j : Nat} {t : STag}, T j = t → t ≠ .other → t.part' ≠ .none → Z j := fun e ht hp => hz _ (by rw [e]; exact ht)
  ⟨h.tabs, h.newer hk hb, h.fix.more hT, hlow, h.votes.keep hk (fun j e => ht e (by simp) (by simp [STag.part'])) hT,
    h.blk.keep hk (ht h.fix.g (by simp) (by simp [STag.part'])),
    h.parts.keep hk (ht h.fix.p (by simp) (by simp [STag.part'])) (fun j x e => ht e (by simp) (by simp [STag.part'])) hT hkk,
    h.entries.keep hk (ht h.fix.e (by simp) (by simp [STag.part'])),
    (h.index.keep hk (ht h.fix.i (by simp) (by simp [STag.part']))).mono hkk,
    h.asked.keep hk (ht h.fix.a (by simp) (by simp [STag.part'])) hkk,
    (h.place.keep hk (ht h.fix.c (by simp) (by simp [STag.part']))).mono hkk,
    (h.furthest.keep hk (ht h.fix.u (by simp) (by simp [STag.part']))).mono hkk,
    h.mach.keep hk (fun j e => ht e (by simp) (by simp [STag.part'])) hT⟩
theorem SM.same_low (h : SM W w T F k vs s) (hs : w.heap.size ≤ w'.heap.size) : ∀ j, T j ≠ .other → W.heap.size ≤ j ∧ j < w'.heap.size := fun j hj => ⟨(h.low j hj).1, Nat.lt_of_lt_of_le (h.low j hj).2 hs⟩
theorem SM.keep (h : SM W w T F k vs s) (hk : Keep Z w w') (hz : ∀ j, T j ≠ .other → Z j) (hb : ∀ j, j < W.heap.size → Z j) : SM W w' T F k vs s := h.more hk hz hb (SMore.refl T) (h.same_low hk.size) (Nat.le_refl k)
theorem SM.then (h : SM W w T F k vs s) (hf : Fresh w w') : SM W w' T F k vs s := h.keep hf (fun _ _ => trivial) (fun _ _ => trivial)
theorem SM.mono (h : SM W w T F k vs s) (hk : k ≤ k') : SM W w T F k' vs s := h.more (Keep.refl (fun _ => True) w) (fun _ _ => trivial) (fun _ _ => trivial) (SMore.refl T) h.low hk
/-- A new block that bears a tag. -/
theorem SM.one (h : SM W w T F k vs s) (hs : w.heap.size < w'.heap.size) (t : STag) : SMore T (soneT T w.heap.size t) ∧ ∀ j, soneT T w.heap.size t j ≠ .other → W.heap.size ≤ j ∧ j < w'.heap.size := by
  refine ⟨fun j hj => ?_, fun j hj => ?_⟩
  · unfold soneT
    rw [if_neg]
    have := (h.low j hj).2
    omega
  · unfold soneT at hj
    by_cases e : j = w.heap.size
    · subst e
      exact ⟨h.base, hs⟩
    · rw [if_neg e] at hj
      have := h.low j hj
      omega
end
/-- What a step may write: what came behind W and is not kept. -/
def SB (W : World) (T : Nat → STag) (j : Nat) : Prop := j < W.heap.size ∨ T j = .kept
/-- What a mark's step leaves: what lies elsewhere, and where it breaks no rule the next state. -/
structure StepS (W w w' : World) (T : Nat → STag) (F : SFix) (k : Nat) (vs : List Int) (x : Int × SrvD) : Prop where
  keep : Keep (SB W T) w w'
  next : x.1 = 0 → ∃ T', SMore T T' ∧ SM W w' T' F k vs x.2
end Go.Proofs.YtohnmaindbgngaaGreatDoor
