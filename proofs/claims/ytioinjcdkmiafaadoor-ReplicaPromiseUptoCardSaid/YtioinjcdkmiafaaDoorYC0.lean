/-
  MERGED: RSessP Lets Ops Sum Writer
-/
import Derived.Test.YtioinjcdkmiafaaDoorYB9
import Derived.Test.YtioinjcdkmiafaaDoorYB4
import Derived.Test.YtioinjcdkmiafaaDoorYB5
import Derived.Test.YtioinjcdkmiafaaDoorYA0
import Derived.Test.YtioinjcdkmiafaaDoorYA1
import Derived.Test.YtioinjcdkmiafaaDoorYB0
import Derived.Lib.LaidTab
import Derived.Lib.AppendStr
namespace Go.Proofs.YtioinjcdkmiafaaDoor
set_option linter.unusedVariables false
set_option linter.unusedSimpArgs false
open Go.RowKit

def rdSes (bs : Txt) (p : Nat) (bad : Bool) : (Nat × SesD) × Nat × Bool :=
  let q := rCount bs p bad 15
  let i := rCount bs q.2.1 q.2.2 4611686018427387904
  let r := rCount bs i.2.1 i.2.2 4611686018427387904
  let c := rCount bs r.2.1 r.2.2 11
  let v := rText bs c.2.1 c.2.2 8
  let n := rCount bs v.2.1 v.2.2 99999999
  ((q.1, ⟨(i.1 : Int), (r.1 : Int), ⟨(c.1 : Int), v.1, (n.1 : Int)⟩⟩), n.2)
def schk (last : Int) (x : Nat × SesD) : Bool := decide (last < (x.1 : Int)) && !decide (x.2.inc = 0) && !decide (x.2.req = 0) && !decide (x.2.last.code = 0) && !decide (x.2.last.code = 10)
def snxt (last : Int) (x : Nat × SesD) : Int := (x.1 : Int)
abbrev rSess1 (bs : Txt) (p : Nat) (bad : Bool) : List (Nat × SesD) × Nat × Bool := runF (rdSes bs) schk snxt (rCount bs p bad 16).1 (rCount bs p bad 16).2.1 (rCount bs p bad 16).2.2 (-1)
theorem rdSes_stick {bs : Txt} {p : Nat} {bad : Bool} (h : (rdSes bs p bad).2.2 = false) : bad = false :=
  rCount_stick (rCount_stick (rCount_stick (rCount_stick (rText_stick (rCount_stick h)))))
/-- Each into its place. -/
def ssPut (l : List (Nat × SesD)) (ss : List SesD) : List SesD := l.foldl (fun ss x => ss.set x.1 x.2) ss
theorem ssPut_snoc (l : List (Nat × SesD)) (x : Nat × SesD) (ss : List SesD) : ssPut (l ++ [x]) ss = (ssPut l ss).set x.1 x.2 := by simp [ssPut]
theorem ssPut_len (l : List (Nat × SesD)) : ∀ ss : List SesD, (ssPut l ss).length = ss.length := by
  induction l with
  | nil => intro ss; rfl
  | cons x r ih => intro ss; show (ssPut r (ss.set x.1 x.2)).length = _; rw [ih]; simp
theorem ssPut_get : ∀ (l : List (Nat × SesD)) (ss : List SesD) (q : Nat), l.Pairwise (fun a b => a.1 < b.1) → q < ss.length →
    (ssPut l ss)[q]? = some (((l.find? fun x => x.1 == q).map (·.2)).getD (ss.getD q noSes))
  | [], ss, q, _, hq => by simp [ssPut, List.getD_eq_getElem?_getD, List.getElem?_eq_getElem hq]
  | x :: r, ss, q, hu, hq => by
    obtain ⟨h1, h2⟩ := List.pairwise_cons.1 hu
    have ih := ssPut_get r (ss.set x.1 x.2) q h2 (by simpa using hq)
    show (ssPut r (ss.set x.1 x.2))[q]? = _
    rw [ih]
    by_cases he : x.1 = q
    · have hn : r.find? (fun y => y.1 == q) = none := by
        rw [List.find?_eq_none]
        intro y hy
        have := h1 y hy
        simp
        omega
      rw [hn, List.find?_cons_of_pos (by simpa using he)]
      subst he
      simp [List.getD_eq_getElem?_getD, hq]
    · rw [List.find?_cons_of_neg (by simpa using he)]
      congr 2
      simp [List.getD_eq_getElem?_getD, List.getElem?_set_ne he]
theorem ssPut_all {l : List (Nat × SesD)} (hu : l.Pairwise fun a b => a.1 < b.1) : ssPut l (List.replicate 16 noSes) = (List.range 16).map (sesAt l) := by
  refine List.ext_getElem? fun q => ?_
  by_cases hq : q < 16
  · rw [ssPut_get l _ q hu (by simpa using hq)]
    have e : ∀ n : Nat, (List.replicate n noSes).getD q noSes = noSes := fun n => by
      rw [List.getD_eq_getElem?_getD, List.getElem?_replicate]
      split <;> rfl
    rw [e 16]
    simp [hq, sesAt]
  · rw [List.getElem?_eq_none (by rw [ssPut_len]; simp; omega), List.getElem?_eq_none (by simp; omega)]
/-- The second loop: does everybody who holds or waits have a session? -/
def sesMiss (ls : List LockD) (ss : List SesD) : Bool := ls.any fun l => (l.holder :: l.queue).any fun c => decide ((ss.getD c.toNat noSes).inc = 0)
end Go.Proofs.YtioinjcdkmiafaaDoor
namespace Go.Proofs.YtioinjcdkmiafaaDoor
set_option linter.unusedVariables false
set_option linter.unusedSimpArgs false
open Go.RowKit

/-! ### plain -/
def halfL (c : Int) (todo : List Txt) (l : LockD) : LockD := if l.name ∈ todo then l else leaveL c l
theorem half_name (c : Int) (todo : List Txt) (l : LockD) : (halfL c todo l).name = l.name := by unfold halfL; split <;> rfl
theorem half_all (c : Int) (ls : List LockD) : ls.map (halfL c (ls.map LockD.name)) = ls := by
  have : ∀ l ∈ ls, halfL c (ls.map LockD.name) l = l := fun l hl => if_pos (List.mem_map.2 ⟨l, hl, rfl⟩)
  rw [List.map_congr_left this, List.map_id']
theorem half_none (c : Int) (ls : List LockD) : ls.map (halfL c []) = ls.map (leaveL c) := List.map_congr_left fun l _ => if_neg (by simp)
theorem half_step {c : Int} {ls : List LockD} {todo : List Txt} {t : Txt} {d : LockD} (hr : Rise (ls.map LockD.name)) (ht : t ∈ todo) (hd : d ∈ ls.map (halfL c todo)) (hn : d.name = t) :
    d ∈ ls ∧ setK LockD.name (leaveL c d) (ls.map (halfL c todo)) = ls.map (halfL c (todo.filter fun x => !(x == t))) := by
  obtain ⟨l0, h0, rfl⟩ := List.mem_map.1 hd
  have hn0 : l0.name = t := by rw [← hn, half_name]
  have e0 : halfL c todo l0 = l0 := if_pos (by rw [hn0]; exact ht)
  rw [e0]
  refine ⟨h0, ?_⟩
  unfold setK
  rw [List.map_map]
  refine List.map_congr_left fun l hl => ?_
  simp only [Function.comp]
  have e1 : (leaveL c l0).name = t := hn0
  rw [e1, half_name]
  by_cases h : l.name = t
  · have h2 := findK_of (key := LockD.name) hr h0 hn0
    have h3 := findK_of (key := LockD.name) hr hl h
    rw [h2] at h3
    injection h3 with h3
    subst h3
    rw [if_pos (by simpa using h)]
    unfold halfL
    rw [if_neg (by simp [h])]
  · rw [if_neg (by simpa using h)]
    unfold halfL
    simp [h]
def heldB (c : Int) (s : StD) (k : Txt) : Bool := match lfind k s.locks with
  | some l => l.holder == c
  | none => false
theorem held_all {c : Int} {ls : List LockD} {s : StD} (hr : Rise (ls.map LockD.name)) (hs : s.locks = ls.map (leaveL c)) : (ls.map LockD.name).filter (heldB c s) = heldBy c ls := by
  unfold heldBy
  rw [List.filter_map]
  congr 1
  refine List.filter_congr fun l hl => ?_
  simp only [Function.comp]
  unfold heldB
  rw [hs]
  have e : lfind l.name (ls.map (leaveL c)) = some (leaveL c l) := by
    show findK _ _ _ = _
    have h1 : findK LockD.name l.name ls = some l := findK_of hr hl rfl
    unfold findK at h1 ⊢
    rw [List.find?_map]
    have h2 : ((fun x : LockD => x.name == l.name) ∘ leaveL c) = fun x => x.name == l.name := rfl
    rw [h2, h1]
    rfl
  rw [e]
  rfl
theorem passAll_other {k : Txt} : ∀ (ns : List Txt) (s : StD), k ∉ ns → lfind k (passAll ns s).locks = lfind k s.locks
  | [], s, _ => rfl
  | a :: r, s, h => by
    have e : passAll (a :: r) s = passAll r (passD a s).2 := rfl
    rw [e, passAll_other r _ (fun h2 => h (by simp [h2])), pass_other (fun h2 => h (by simp [h2]))]
theorem passAll_snoc (ns : List Txt) (k : Txt) (s : StD) : passAll (ns ++ [k]) s = (passD k (passAll ns s)).2 := by
  unfold passAll
  rw [List.foldl_append]
  rfl
/-- Behind k of the names. -/
def heldTo (c : Int) (s : StD) (ns : List Txt) (k : Nat) : List Txt := (ns.take k).filter (heldB c s)
theorem heldTo_succ (c : Int) (s : StD) (ns : List Txt) (k : Nat) (hk : k < ns.length) : heldTo c s ns (k + 1) = heldTo c s ns k ++ (if heldB c s ns[k] = true then [ns[k]] else []) := by
  unfold heldTo
  rw [← List.take_append_getElem hk, List.filter_append]
  congr 1
  cases h : heldB c s ns[k] <;> simp [List.filter, h]
theorem heldTo_not {c : Int} {s : StD} {ns : List Txt} {k : Nat} (hn : ns.Nodup) (hk : k < ns.length) : ns[k] ∉ heldTo c s ns k := by
  intro h
  have h1 := (List.mem_filter.1 h).1
  have h2 : (ns.take k ++ [ns[k]]).Nodup := by
    rw [List.take_append_getElem hk]
    exact hn.sublist (List.take_sublist _ _)
  exact (List.nodup_append.1 h2).2.2 _ h1 _ (by simp) rfl
theorem heldTo_len (c : Int) (s : StD) (ns : List Txt) (k : Nat) : (heldTo c s ns k).length ≤ ns.length := by
  unfold heldTo
  have h1 := List.length_filter_le (heldB c s) (ns.take k)
  have h2 := List.length_take_le k ns
  have h3 : (ns.take k).length ≤ ns.length := by rw [List.length_take]; omega
  omega

/-! ### in memory -/
theorem MSt.widen {S S' : Nat → Prop} {w : World} {m bp bl : Nat} {s : StD} (h : MSt S w m bp bl s) (hs : ∀ j, S j → S' j) (h1 : ¬ S' m) (h2 : ¬ S' bp) : MSt S' w m bp bl s := by
  obtain ⟨ms, hl⟩ := h.lk
  exact ⟨h.blk, h.len, h.pm, ⟨ms, hl.widen hs⟩, h1, h2⟩
/-- What stands within the first loop. -/
structure LetsAt (S T : Nat → Prop) (w wr : World) (bl : Nat) (c : Int) (ls : List LockD) (kvs : List Kv) (todo : List Txt) : Prop where
  rng : RangeIs Tryd.prog 9 wr bl w.heap.size kvs todo
  lks : ∃ ms, Lks T wr bl ms (ls.map (halfL c todo)) ∧ ms.map LkM.kv = kvs
  keep : Keep (fun j => ¬ S j) w wr
  sz : w.heap.size < wr.heap.size

end Go.Proofs.YtioinjcdkmiafaaDoor
namespace Go.Proofs.YtioinjcdkmiafaaDoor
set_option linter.unusedVariables false
set_option linter.unusedSimpArgs false
open Go.RowKit

section
variable {S S' : Nat → Prop} {w w' : World} {m bp bl g : Nat} {s : StD} {t : TypeId} {cs : Array Value}
theorem Lks.other {ms : List LkM} {ls : List LockD} (h : Lks S w bl ms ls) (hg : Blk w g t cs) (h1 : t ≠ 117) (h2 : t ≠ 3) (hk : Keep (fun j => j ≠ g) w w') : Lks S w' bl ms ls :=
  ⟨h.map.keep hk (h.map.ne_blk hg), fun x hx => (h.each x hx).keep hk (fun e => Blk.ne (h.each x hx).blk hg h1.symm e) (fun k hk2 e => (h.each x hx).row.ne_blk hg h2.symm (by rw [← e]; exact hk2)), h.apart, h.data, h.sb⟩
theorem MSt.other (h : MSt S w m bp bl s) (hg : Blk w g t cs) (h0 : t ≠ 95) (h1 : t ≠ 117) (h2 : t ≠ 3) (hk : Keep (fun j => j ≠ g) w w') : MSt S w' m bp bl s := by
  obtain ⟨ms, hl⟩ := h.lk
  exact ⟨h.blk.keep hk (fun e => Blk.ne h.blk hg h0.symm e), h.len, h.pm.keep hk (h.pm.ne_blk hg), ⟨ms, hl.other hg h1 h2 hk⟩, h.nm, h.nb⟩
end
theorem MSt.tight {S : Nat → Prop} {w : World} {m bp bl : Nat} {s : StD} (h : MSt S w m bp bl s) : MSt (fun j => S j ∧ j < w.heap.size) w m bp bl s := by
  obtain ⟨ms, hl⟩ := h.lk
  exact ⟨h.blk, h.len, h.pm, ⟨ms, hl.tight⟩, fun e => h.nm e.1, fun e => h.nb e.1⟩
abbrev resA (R : MRes) : Array Value := #[.int .i64 R.code, str R.val, .int .i64 R.n]
def resStored (w : World) (g : Nat) (R : MRes) : World := ((w.setCell ⟨g, 0, none⟩ (.int .i64 R.code)).setCell ⟨g, 1, none⟩ (str R.val)).setCell ⟨g, 2, none⟩ (.int .i64 R.n)
theorem res_keep {Z : Nat → Prop} {w0 w : World} {g : Nat} (h : Keep Z w0 w) (hg : g < w0.heap.size → ¬ Z g) (R : MRes) : Keep Z w0 (resStored w g R) := ((h.setCell hg _).setCell hg _).setCell hg _
theorem res_blk {w : World} {g : Nat} {R0 : MRes} (h : Blk w g 90 (resA R0)) (R : MRes) : Blk (resStored w g R) g 90 (resA R) := ((h.set 0 (.int .i64 R.code)).set 1 (str R.val)).set 2 (.int .i64 R.n)
theorem res_facts {w : World} {g : Nat} {R : MRes} (h : Blk w g 90 (resA R)) : w.cell? ⟨g, 0, none⟩ = some (.int .i64 R.code) ∧ w.cell? ⟨g, 1, none⟩ = some (str R.val) ∧ w.cell? ⟨g, 2, none⟩ = some (.int .i64 R.n) ∧
    w.frozen? ⟨g, 0, none⟩ = false ∧ w.frozen? ⟨g, 1, none⟩ = false ∧ w.frozen? ⟨g, 2, none⟩ = false ∧ g < w.heap.size := by
  have h0 := h.cell 0
  have h1 := h.cell 1
  have h2 := h.cell 2
  simp at h0 h1 h2
  exact ⟨h0, h1, h2, h.frozen 0, h.frozen 1, h.frozen 2, h.lt⟩
/-- What an operation does: its result, the machine behind it, what it kept. -/
structure OpPost (S : Nat → Prop) (m bp bl : Nat) (x : ResD × StD) (w : World) (e : Ending) (w' : World) : Prop where
  ret : e = .returned (resV x.1)
  st : MSt (fun j => S j ∨ w.heap.size ≤ j) w' m bp bl x.2
  keep : Keep (fun j => j ≠ m ∧ j ≠ bp ∧ ¬ S j) w w'
/-- Where an operation begins: the command and the result have blocks of their own. -/
structure OpAt (w W : World) (G : Nat) (c i r o : Int) (k v d : Txt) : Prop where
  fresh : Fresh w W
  cmd : Blk W G 57 #[.int .i64 c, .int .i64 i, .int .i64 r, .int .i64 o, str k, str v, str d]
  res : Blk W (G + 1) 90 (resA ⟨0, [], 0⟩)
  sz : G = w.heap.size
theorem op_at (w : World) (c i r o : Int) (k v d : Txt) : OpAt w ((w.alloc (.cells #[.int .i64 c, .int .i64 i, .int .i64 r, .int .i64 o, str k, str v, str d] 57)).alloc (.cells #[.int .i64 0, str [], .int .i64 0] 90)) w.heap.size c i r o k v d :=
  ⟨((Keep.refl _ w).alloc _).alloc _, (Blk.new _ _ _).alloc _, Blk.newAt (by simp), rfl⟩
theorem OpAt.cells {w W : World} {G : Nat} {c i r o : Int} {k v d : Txt} (h : OpAt w W G c i r o k v d) : W.cell? ⟨G, 0, none⟩ = some (.int .i64 c) ∧ W.cell? ⟨G, 4, none⟩ = some (str k) ∧ W.cell? ⟨G, 5, none⟩ = some (str v) ∧ W.cell? ⟨G, 6, none⟩ = some (str d) ∧ G < W.heap.size := by
  have h0 := h.cmd.cell 0
  have h4 := h.cmd.cell 4
  have h5 := h.cmd.cell 5
  have h6 := h.cmd.cell 6
  simp at h0 h4 h5 h6
  exact ⟨h0, h4, h5, h6, h.cmd.lt⟩
/-- The end of an operation's walk. -/
theorem op_ret {fn : Func} (hfn : fn.results = #[.cell 4 90]) {a : Act} {g : Nat} (ha : a.tmps.getD 4 undef = .pointer (some ⟨g, 0, none⟩)) (hd : a.defers = []) {S S1 : Nat → Prop} {w wx : World} {m bp bl : Nat} {x : ResD × StD} {R0 : MRes}
    (hm : MSt S1 wx m bp bl x.2) (hS : ∀ j, S1 j → S j ∨ w.heap.size ≤ j) (hm0 : m < w.heap.size) (hb0 : bp < w.heap.size) (hn1 : ¬ S m) (hn2 : ¬ S bp) (hb : Blk wx g 90 (resA R0)) (hg : w.heap.size ≤ g) (hk : Keep (fun j => j ≠ m ∧ j ≠ bp ∧ ¬ S j) w wx) :
    bodyPost Tryd.prog fn (OpPost S m bp bl x w) Exit.ret a (resStored wx g x.1) := by
  refine bodyPost_ret (results_one hfn _ _ g 90 (resA x.1) _ ha (res_blk hb x.1) Tryd.underlying90 rfl (by kernel_rfl)) hd ⟨rfl, ?_, res_keep hk (fun h => absurd h (by omega)) _⟩
  exact (hm.other hb (by decide) (by decide) (by decide) (res_keep (Keep.refl _ wx) (fun _ h => h rfl) _)).widen hS (fun h => h.elim hn1 fun h => by omega) (fun h => h.elim hn2 fun h => by omega)

/-- .. and something was made behind it. -/
theorem op_ret2 {fn : Func} (hfn : fn.results = #[.cell 4 90]) {a : Act} {g : Nat} (ha : a.tmps.getD 4 undef = .pointer (some ⟨g, 0, none⟩)) (hd : a.defers = []) {S S1 : Nat → Prop} {w wx wy : World} {m bp bl : Nat} {x : ResD × StD} {R0 : MRes}
    (hm : MSt S1 wx m bp bl x.2) (hS : ∀ j, S1 j → S j ∨ w.heap.size ≤ j) (hm0 : m < w.heap.size) (hb0 : bp < w.heap.size) (hn1 : ¬ S m) (hn2 : ¬ S bp) (hb : Blk wx g 90 (resA R0)) (hg : w.heap.size ≤ g) (hk : Keep (fun j => j ≠ m ∧ j ≠ bp ∧ ¬ S j) w wx) (hf : Fresh (resStored wx g x.1) wy) :
    bodyPost Tryd.prog fn (OpPost S m bp bl x w) Exit.ret a wy := by
  refine bodyPost_ret (results_one hfn _ _ g 90 (resA x.1) _ ha ((res_blk hb x.1).keep hf trivial) Tryd.underlying90 rfl (by kernel_rfl)) hd ⟨rfl, ?_, (res_keep hk (fun h => absurd h (by omega)) _).comp hf (fun _ _ h => h) (fun _ _ _ => trivial)⟩
  exact ((hm.other hb (by decide) (by decide) (by decide) (res_keep (Keep.refl _ wx) (fun _ h => h rfl) _)).fresh hf).widen hS (fun h => h.elim hn1 fun h => by omega) (fun h => h.elim hn2 fun h => by omega)
theorem pfindD_none {k : Txt} {ps : Ps} (h : pfind k ps = none) : pfindD k ps = none := by
  rw [pfind_eq] at h
  simpa using h
theorem pfindD_some {k u : Txt} {ps : Ps} (h : pfind k ps = some u) : ∃ a, pfindD k ps = some (a, u) := by
  rw [pfind_eq] at h
  obtain ⟨⟨a, b⟩, h1, h2⟩ := Option.map_eq_some_iff.1 h
  simp only at h2
  subst h2
  exact ⟨a, h1⟩
end Go.Proofs.YtioinjcdkmiafaaDoor
namespace Go.Proofs.YtioinjcdkmiafaaDoor
set_option linter.unusedVariables false
set_option linter.unusedSimpArgs false
open Go.RowKit

def nibInts : List Int := [0, 498536548, 997073096, 651767980, 1994146192, 1802195444, 1303535960, 1342533948, 3988292384, 4027552580, 3604390888, 3412177804, 2607071920, 2262029012, 2685067896, 3183342108]
/-- What the table of half bytes holds. -/
def Nib (w : World) : Prop := Lib.TabIs Tryd.prog w "quorate/wire.nibble" .u32 nibInts
theorem gNib : Tryd.prog.globalNamed "quorate/wire.nibble" = some 0 := by kernel_rfl
theorem nib_lt_heap {w : World} (h : Nib w) : 0 < w.heap.size := by
  rcases Nat.lt_or_ge 0 w.heap.size with hlt | hge
  · exact hlt
  · have h1 := h.cell gNib 0 (by decide)
    simp [World.cell?, Array.getElem?_eq_none hge] at h1
theorem nib_val (r : Nat) (hr : r < 16) : nibInts.getD r 0 = ((nibTab.getD r 0 : Nat) : Int) := by
  have : ∀ r, r < 16 → nibInts.getD r 0 = ((nibTab.getD r 0 : Nat) : Int) := by decide
  exact this r hr
theorem nibTab_lt (r : Nat) (hr : r < 16) : nibTab.getD r 0 < 4294967296 := by
  have : ∀ r, r < 16 → nibTab.getD r 0 < 4294967296 := by decide
  exact this r hr
theorem nibStep_lt {w : Nat} (h : w < 4294967296) : nibStep w < 4294967296 := xor_lt32 (by omega) (nibTab_lt _ (by omega))
theorem crc_take (bs : List UInt8) (k : Nat) (hk : k < bs.length) : crcAt (bs.take (k + 1)) = nibStep (nibStep (crcAt (bs.take k) ^^^ bs[k].toNat)) := by
  rw [← List.take_append_getElem hk, crcAt_snoc, nib_two]

set_option maxRecDepth 20000 in
theorem sum_any (Z : Nat → Prop) (A : Option Addr) (n c : Nat) (bs : List UInt8) (w : World) (hb : Rd w Z 1 A n (Lib.byteCells bs)) (hn : n ≤ 1099511627770) (hT : Nib w) :
    Calls Tryd.prog 44 #[.slice A n c] w fun e w' => e = .returned (.int .i64 (crcB bs : Int)) ∧ w = w' := by
  have HB := Lib.hid hb
  have hlen : bs.length = n := by simpa [Lib.byteCells] using hb.1
  have HN := Lib.hid hlen
  have HT := Lib.hid (fun (r : Nat) (hr : r < 16) => (show w.cell? ⟨0, r, none⟩ = some (.int .u32 ((nibTab.getD r 0 : Nat) : Int)) by rw [← nib_val r hr]; exact hT.cell gNib r hr))
  have hgl := nib_lt_heap hT
  clear hb hlen hT
  go_enter Tryd.func44, Tryd.ntmps44
  go_wp2
  go_loop [3, 8] (fun v i => ∃ (k : Nat) (y : Int), k ≤ n ∧ i = .int .i64 (k : Int) ∧ v = .int .u32 y ∧ Hid (y = (crcAt (bs.take k) : Int))) (fun _ i => ((n : Int) - intOf i).toNat)
  case atStart => exact ⟨0, 4294967295, by omega, rfl, rfl, rfl⟩
  case round =>
    obtain ⟨k, y, hk, rfl, rfl, HR⟩ := hrel
    by_cases hin : k < n
    · obtain ⟨b, o, rfl, hzb, hll, hcell⟩ := HB.out.at1 hin
      have hkb : k < bs.length := by rw [HN.out]; exact hin
      rw [show (Lib.byteCells bs)[k] = .int .u8 (bs[k].toNat : Int) by simp [Lib.byteCells]] at hcell
      obtain ⟨x, hx⟩ : ∃ x : Nat, x = crcAt (bs.take k) := ⟨_, rfl⟩
      have hx32 : x < 4294967296 := hx ▸ crcAt_lt _
      obtain ⟨ch, hch⟩ : ∃ ch : Nat, ch = bs[k].toNat := ⟨_, rfl⟩
      have hc : ch < 256 := hch ▸ bs[k].toNat_lt
      rw [← hch] at hcell
      have hE := crc_take bs k hkb
      rw [← hx, ← hch] at hE
      obtain rfl : y = (x : Int) := by rw [HR.out, hx]
      have HH := Lib.hid hE
      clear hE hx hch HR hzb hll
      go_upto_region 6 with (fail)
      rw [u32_xor_nat x ch hx32 (by omega)]
      obtain ⟨y1, hy1⟩ : ∃ y1, y1 = x ^^^ ch := ⟨_, rfl⟩
      have hy32 : y1 < 4294967296 := hy1 ▸ xor_lt32 hx32 (by omega)
      rw [← hy1] at HH ⊢
      obtain ⟨g1, hg1⟩ : ∃ g1 : Int, g1 = bits BinOp.and IntKind.u32 (y1 : Int) 15 := ⟨_, rfl⟩
      obtain ⟨t1, ht1⟩ : ∃ t1 : Nat, t1 = nibTab.getD (y1 % 16) 0 := ⟨_, rfl⟩
      have t32 : t1 < 4294967296 := ht1 ▸ nibTab_lt _ (by omega)
      have e1 : g1 = ((y1 % 16 : Nat) : Int) := by rw [hg1, show (15 : Int) = ((15 : Nat) : Int) from rfl, u32_and_nat y1 15 hy32 (by omega), nat_mask4]
      have c1 : w.cell? ⟨0, g1.toNat, none⟩ = some (.int .u32 (t1 : Int)) := by rw [e1, ht1]; exact HT.out (y1 % 16) (by omega)
      have r1 : 0 ≤ g1 := by omega
      have r2 : g1 < 16 := by omega
      have E1 := Lib.hid hg1
      obtain ⟨y2, hy2⟩ : ∃ y2, y2 = nibStep y1 := ⟨_, rfl⟩
      have y32 : y2 < 4294967296 := hy2 ▸ nibStep_lt hy32
      have X1 : bits BinOp.xor IntKind.u32 ((y1 : Int) / 16) (t1 : Int) = (y2 : Int) := by
        rw [show (y1 : Int) / 16 = ((y1 / 16 : Nat) : Int) by omega, u32_xor_nat (y1 / 16) t1 (by omega) t32, hy2, ht1]
        rfl
      rw [← hy2] at HH
      have HX := Lib.hid X1
      clear e1 hg1 hx32 hc hy1 ht1 t32 hy32 hy2 X1
      go_upto_region 7 with (first | simp only [← E1.out] | fail)
      rw [HX.out]
      clear c1 r1 r2 E1 HX
      obtain ⟨g2, hg2⟩ : ∃ g2 : Int, g2 = bits BinOp.and IntKind.u32 (y2 : Int) 15 := ⟨_, rfl⟩
      obtain ⟨t2, ht2⟩ : ∃ t2 : Nat, t2 = nibTab.getD (y2 % 16) 0 := ⟨_, rfl⟩
      have t32 : t2 < 4294967296 := ht2 ▸ nibTab_lt _ (by omega)
      have e2 : g2 = ((y2 % 16 : Nat) : Int) := by rw [hg2, show (15 : Int) = ((15 : Nat) : Int) from rfl, u32_and_nat y2 15 y32 (by omega), nat_mask4]
      have c2 : w.cell? ⟨0, g2.toNat, none⟩ = some (.int .u32 (t2 : Int)) := by rw [e2, ht2]; exact HT.out (y2 % 16) (by omega)
      have r1 : 0 ≤ g2 := by omega
      have r2 : g2 < 16 := by omega
      have E2 := Lib.hid hg2
      obtain ⟨y3, hy3⟩ : ∃ y3, y3 = nibStep y2 := ⟨_, rfl⟩
      have X2 : bits BinOp.xor IntKind.u32 ((y2 : Int) / 16) (t2 : Int) = (y3 : Int) := by
        rw [show (y2 : Int) / 16 = ((y2 / 16 : Nat) : Int) by omega, u32_xor_nat (y2 / 16) t2 (by omega) t32, hy3, ht2]
        rfl
      rw [← hy3] at HH
      have HX := Lib.hid X2
      clear e2 hg2 ht2 t32 y32 hy3 X2
      go_upto_region 8 with (first | simp only [← E2.out] | fail)
      rw [HX.out]
      go_wp2
      exact ⟨⟨k + 1, y3, by omega, by simp, rfl, congrArg (fun z : Nat => (z : Int)) HH.out.symm⟩, by simp [intOf]; omega⟩
    · have hE : crcAt (bs.take k) = crcAt bs := by rw [List.take_of_length_le (by have := HN.out; omega)]
      obtain ⟨x, hx⟩ : ∃ x : Nat, x = crcAt bs := ⟨_, rfl⟩
      have hx32 : x < 4294967296 := hx ▸ crcAt_lt _
      obtain rfl : y = (x : Int) := by rw [HR.out, hE, hx]
      have HC := Lib.hid (show crcB bs = x ^^^ 4294967295 by rw [hx]; rfl)
      clear hE HR hx
      have hX : wrap64 (bits BinOp.xor IntKind.u32 IntKind.u32.max (x : Int)) = (crcB bs : Int) := by
        have h1 : bits BinOp.xor IntKind.u32 IntKind.u32.max (x : Int) = ((4294967295 ^^^ x : Nat) : Int) := u32_xor_nat 4294967295 x (by omega) hx32
        have h2 := crcB_lt bs
        rw [h1, Nat.xor_comm, ← HC.out]
        simp only [wrap64]
        omega
      have HX := Lib.hid hX
      clear hX
      go_wp2
      go_ret
      exact ⟨by rw [← HX.out]; rfl, rfl⟩
end Go.Proofs.YtioinjcdkmiafaaDoor
namespace Go.Proofs.YtioinjcdkmiafaaDoor
set_option linter.unusedVariables false
set_option linter.unusedSimpArgs false
open Go.RowKit
def scs (ss : List ByteArray) : List Value := ss.map Value.string
def txts (ss : List ByteArray) : List UInt8 := ss.flatMap fun s => txt s.data.toList
def okTxts (ss : List ByteArray) : Prop := ∀ s ∈ ss, s.size ≤ 1048576
theorem txts_take (ss : List ByteArray) (k : Nat) (h : k < ss.length) : txts (ss.take (k + 1)) = txts (ss.take k) ++ txt ss[k].data.toList := by
  rw [List.take_succ_eq_append_getElem h, txts, List.flatMap_append]
  simp [txts]
theorem txt_len (s : ByteArray) (h : s.size ≤ 1048576) : (txt s.data.toList).length ≤ 1048585 := by
  have h1 : s.data.toList.length = s.size := Array.length_toList
  have h2 := putB_len9 (v := s.size) (by omega)
  simp only [txt, List.length_append, h1]
  omega
theorem txts_len (ss : List ByteArray) (h : okTxts ss) : (txts ss).length ≤ 1048585 * ss.length := by
  induction ss with
  | nil => simp [txts]
  | cons s ss ih =>
    have h1 := txt_len s (h s (by simp))
    have h2 := ih (fun y hy => h y (by simp [hy]))
    have e : txts (s :: ss) = txt s.data.toList ++ txts ss := rfl
    rw [e, List.length_append, List.length_cons]
    omega
theorem txts_take_len (ss : List ByteArray) (k : Nat) (h : okTxts ss) : (txts (ss.take k)).length ≤ 1048585 * ss.length := by
  have h1 := txts_len (ss.take k) (fun y hy => h y (List.mem_of_mem_take hy))
  have h2 : (ss.take k).length ≤ ss.length := List.length_take_le' _ _
  omega

end Go.Proofs.YtioinjcdkmiafaaDoor
