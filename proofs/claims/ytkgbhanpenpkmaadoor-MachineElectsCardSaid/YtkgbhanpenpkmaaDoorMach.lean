/-
  THE MACHINE's STATE IN MEMORY; WALKS OF 'New', 'done', 'code', 'set', 'cas', 'Get', 'operationOf'.
-/
import Derived.Test.YtkgbhanpenpkmaaDoorRow
import Derived.Test.YtkgbhanpenpkmaaDoorMap
import Derived.Test.YtkgbhanpenpkmaaDoorValid
import Derived.Test.YtkgbhanpenpkmaaDoorDecode
import Derived.StillTailTactics
namespace Go.Proofs.YtkgbhanpenpkmaaDoor
set_option linter.unusedVariables false
set_option linter.unusedSimpArgs false
open Go.RowKit

abbrev Ps := List (List UInt8 × List UInt8)
def sk (ps : Ps) : List Kv := ps.map fun p => (p.1, str p.2)
def pfind (k : List UInt8) (ps : Ps) : Option (List UInt8) := (ps.find? fun p => p.1 == k).map (·.2)
def pins (x : List UInt8 × List UInt8) : Ps → Ps
  | [] => [x]
  | y :: r => if bytesBefore x.1 y.1 then x :: y :: r else y :: pins x r
def pdel (k : List UInt8) (ps : Ps) : Ps := ps.filter fun p => !(p.1 == k)
def pput (k v : List UInt8) (ps : Ps) : Ps := pins (k, v) (pdel k ps)
theorem sk_len (ps : Ps) : (sk ps).length = ps.length := by simp [sk]
theorem sk_find (k : List UInt8) (ps : Ps) : mfind k (sk ps) = (pfind k ps).map str := by
  unfold mfind pfind sk
  induction ps with
  | nil => rfl
  | cons p ps ih =>
    simp only [List.map_cons, List.find?_cons]
    cases h : p.1 == k
    · exact ih
    · rfl
theorem sk_ins (x : List UInt8 × List UInt8) : ∀ ps : Ps, mins (x.1, str x.2) (sk ps) = sk (pins x ps)
  | [] => rfl
  | y :: r => by
    have e : sk (y :: r) = (y.1, str y.2) :: sk r := rfl
    rw [e, mins, pins]
    dsimp only
    split
    · rfl
    · rw [sk_ins x r]; rfl
theorem sk_del (k : List UInt8) (ps : Ps) : mdel k (sk ps) = sk (pdel k ps) := by
  unfold mdel sk pdel
  rw [List.filter_map]
  rfl
theorem sk_put (k v : List UInt8) (ps : Ps) : mput k (str v) (sk ps) = sk (pput k v ps) := by
  unfold mput pput
  rw [sk_del]
  exact sk_ins (k, v) _

/-- A result. -/
structure MRes where
  code : Int
  val : List UInt8
  n : Int
abbrev resV (r : MRes) : Value := .agg #[.int .i64 r.code, str r.val, .int .i64 r.n]
/-- A client's session. -/
structure MSess where
  inc : Int
  req : Int
  last : MRes
def MSess.cells (s : MSess) : List Value := [.int .i64 s.inc, .int .i64 s.req, .int .i64 s.last.code, str s.last.val, .int .i64 s.last.n]
theorem sess_five (s : MSess) : s.cells.length = 5 := rfl
def mcells (bp bl : Nat) (tok : Int) (ss : List MSess) : List Value := [.map (some bp), .map (some bl), .int .i64 tok] ++ rcells MSess.cells ss

theorem run_zero_str (w : World) : (zeroValue 9).run Tryd.prog w = .ok (str []) w := by kernel_rfl
/-- 'm[k]' of a map of strings, for the walk. -/
theorem look_str {w : World} {b : Nat} {ps : Ps} (h : MapIs Tryd.prog 9 w b (sk ps)) {l : List UInt8} (hl : l.length ≤ 1048576) (k : Nat) :
    (Instr.lookup 85 (.map (some b)) (str l) true).run Tryd.prog (w.drewN k) = .ok (.tuple #[str ((pfind l ps).getD []), .bool (pfind l ps).isSome]) (w.drewN k) := by
  have h1 := MapIs.look_ok (h.keep (Keep.drewN (Keep.refl (fun _ => True) w) k) trivial) Tryd.underlying9 Tryd.underlying85 (run_zero_str _) (l := l) (by simp only [maxLen]; omega)
  rw [h1, sk_find]
  cases pfind l ps <;> rfl

def zeroSess : MSess := ⟨0, 0, ⟨0, [], 0⟩⟩
theorem results_one {P : Program} {fn : Func} {p : Tmp} {ty : TypeId} (h : fn.results = #[.cell p ty]) (tmps : Array Value) (w : World) (g : Nat) (t : TypeId) (cs : Array Value) (d : TypeDesc)
    (hp : tmps.getD p undef = .pointer (some ⟨g, 0, none⟩)) (hg : Blk w g t cs) (hu : P.underlying ty = some d) (hd : (match d with | .struct _ | .array _ _ => true | _ => false) = true) (hi : (P.info? ty).map (·.size) = some cs.size) :
    (results fn tmps).run P w = .ok (.agg cs) w := results_cell_row h tmps w g t cs (0, 0) d hp hg hu hd hi
theorem done_any (l : List UInt8) (n : Int) (w : World) : Calls Tryd.prog 78 #[str l, .int .i64 n] w fun e w' => e = .returned (resV ⟨1, l, n⟩) ∧ Fresh w w' := by
  go_enter Tryd.func78, Tryd.ntmps78
  go_wp2
  refine bodyPost_ret (results_one rfl _ _ w.heap.size 52 #[.int .i64 1, str l, .int .i64 n] _ rfl (Blk.new _ _ _) Tryd.underlying52 rfl (by kernel_rfl)) rfl ?_
  exact ⟨rfl, (Keep.refl _ w).alloc _⟩
theorem code_any (n : Int) (w : World) : Calls Tryd.prog 79 #[.int .i64 n] w fun e w' => e = .returned (resV ⟨n, [], 0⟩) ∧ Fresh w w' := by
  go_enter Tryd.func79, Tryd.ntmps79
  go_wp2
  refine bodyPost_ret (results_one rfl _ _ w.heap.size 52 #[.int .i64 n, str [], .int .i64 0] _ rfl (Blk.new _ _ _) Tryd.underlying52 rfl (by kernel_rfl)) rfl ?_
  exact ⟨rfl, (Keep.refl _ w).alloc _⟩
/-- The machine in block m: its pairs, its tokens, its sessions; no lock. -/
structure MOn (w : World) (m bp bl : Nat) (ps : Ps) (tok : Int) (ss : List MSess) : Prop where
  blk : Blk w m 91 (mcells bp bl tok ss).toArray
  len : ss.length = 16
  pm : MapIs Tryd.prog 9 w bp (sk ps)
  lm : MapIs Tryd.prog 9 w bl []
  ne : bp ≠ bl
theorem new_any (w : World) : Calls Tryd.prog 21 #[] w fun e w' => (∃ m bp bl : Nat, e = .returned (.pointer (some ⟨m, 0, none⟩)) ∧ MOn w' m bp bl [] 0 (List.replicate 16 zeroSess) ∧ w.heap.size ≤ m ∧ w.heap.size ≤ bp ∧ w.heap.size ≤ bl) ∧ Fresh w w' := by
  have hmm := @run_makeMap Tryd.prog
  go_enter Tryd.func21, Tryd.ntmps21
  go_wp2
  go_ret
  have h1 : ∀ a b : Nat, (Tryd.zeroCells91.setIfInBounds 0 (.map (some a))).setIfInBounds 1 (.map (some b)) = (mcells a b 0 (List.replicate 16 zeroSess)).toArray := fun a b => by kernel_rfl
  rw [h1]
  refine ⟨⟨_, _, _, rfl, ⟨Blk.newAt (by simp), by simp, ?_, ?_, by omega⟩, by omega, by omega, by omega⟩, (((Keep.refl _ w).alloc _).alloc _).alloc _⟩
  · exact (MapIs.made w Tryd.prog 9).keep (((Keep.refl (fun _ => True) _).alloc _).alloc _) trivial
  · have h2 := (MapIs.made (w.alloc (.map #[] 0)) Tryd.prog 9).keep ((Keep.refl (fun _ => True) _).alloc (.cells (mcells w.heap.size (w.heap.size + 1) 0 (List.replicate 16 zeroSess)).toArray 91)) trivial
    simpa using h2
end Go.Proofs.YtkgbhanpenpkmaaDoor
