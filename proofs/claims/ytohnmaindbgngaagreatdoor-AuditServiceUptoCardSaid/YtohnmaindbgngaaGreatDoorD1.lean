/-
  MERGED: DBase DMach DKey DTake
-/
import Derived.Test.YtohnmaindbgngaaGreatDoorQ1
import Derived.Test.YtohnmaindbgngaaGreatDoorQ5
import Derived.Test.YtohnmaindbgngaaGreatDoorQ3
import Derived.Test.YtohnmaindbgngaaGreatDoorQB
import Derived.Test.YtohnmaindbgngaaGreatDoorQD
namespace Go.Proofs.YtohnmaindbgngaaGreatDoor
set_option linter.unusedVariables false
set_option linter.unusedSimpArgs false
open Go.RowKit

theorem int_info2 : (Tryz.prog.info? 3).map (fun i => (i.zero, i.size, i.bytes)) = some (some (.int .i64 0), 1, 8) := by kernel_rfl
theorem etInt2 : ET Tryz.prog 23 3 1 8 (.int .i64 0) := ⟨Tryz.underlying23, int_info2, rfl, by decide, by decide⟩
def pairC (p : Txt × Txt) : List Value := [str p.1, str p.2]
theorem pair_two (p : Txt × Txt) : (pairC p).length = 2 := rfl
abbrev pcells (ps : List (Txt × Txt)) : List Value := rcells pairC ps
theorem pair_info : (Tryz.prog.info? 222).map (fun i => (i.zero, i.size, i.bytes)) = some (some (.agg #[str [], str []]), 2, 32) := by kernel_rfl
theorem etPair : ET Tryz.prog 186 222 2 32 (.agg #[str [], str []]) := ⟨Tryz.underlying186, pair_info, rfl, by decide, by decide⟩
theorem pair_one (a b : Txt) : ∀ u ∈ (#[str a, str b] : Array Value).toList, u.oneCell' = true := by
  intro u hu
  simp only [List.mem_cons, List.not_mem_nil, or_false] at hu
  rcases hu with rfl | rfl <;> rfl
/-- A call that made blocks only, and a new variable behind it: all from one world. -/
theorem Fresh.then {a b c : World} (h : Fresh a b) (k : Fresh b c) : Fresh a c := h.comp k (fun _ _ h => h) (fun _ _ _ => trivial)

/-- An owned slice, read, with its room. -/
theorem own_rdc {w : World} {base e size n : Nat} {v : Value} {xs : List Value} (h : w.ownsRow base e size v n xs) : ∃ A c, v = .slice A n c ∧ n ≤ c ∧ Rd w (fun k => v.ownBlock = some k) size A n xs ∧ (n = 0 → c = 0 ∨ A ≠ none) := by
  obtain ⟨A, c, rfl, h1, h2⟩ := own_rd h
  refine ⟨A, c, rfl, ?_, h1, h2⟩
  rcases h.2 with ⟨e1, rfl⟩ | ⟨g, cap, cur, e1, hb, hh, hn, _⟩
  · exact Nat.zero_le _
  · injection e1 with e1 e2 e3
    rw [e3]
    exact hn
def lessD (q : List Int) (c : Int) : List Int := q.filter fun y => !(y == c)
theorem Rd.intAt {w : World} {Z : Nat → Prop} {A : Option Addr} {n k : Nat} {l : List Int} (h : Rd w Z 1 A n (ics l)) (hk : k < n) :
    ∃ b o, A = some ⟨b, o, none⟩ ∧ Z b ∧ ∃ (hl : k < l.length), w.cell? ⟨b, o + k, none⟩ = some (.int .i64 l[k]) := by
  obtain ⟨b, o, hA, hz, hl, hc⟩ := h.at1 hk
  have hl2 : k < l.length := by simpa [ics] using hl
  exact ⟨b, o, hA, hz, hl2, by rw [hc]; simp [ics]⟩
theorem less_le (q : List Int) (x : Int) : (lessD q x).length ≤ q.length := List.length_filter_le _ _
theorem less_snoc (q : List Int) (x y : Int) : lessD (q ++ [y]) x = lessD q x ++ (if y = x then [] else [y]) := by
  unfold lessD
  rw [List.filter_append]
  by_cases h : y = x <;> simp [h]
/-- The k-th byte of a slice, for the walk. -/
theorem Rd.byte {w : World} {Z : Nat → Prop} {A : Option Addr} {n k : Nat} {bs : List UInt8} (h : Rd w Z 1 A n (Lib.byteCells bs)) (hk : k < n) :
    ∃ b o x, A = some ⟨b, o, none⟩ ∧ Z b ∧ ∃ (hl : k < bs.length), x = (bs[k].toNat : Int) ∧ w.cell? ⟨b, o + k, none⟩ = some (.int .u8 x) := by
  obtain ⟨b, o, hA, hz, hl, hc⟩ := h.at1 hk
  have hl2 : k < bs.length := by simpa [Lib.byteCells] using hl
  exact ⟨b, o, _, hA, hz, hl2, rfl, by rw [hc]; simp [Lib.byteCells]⟩
theorem less_before : ∀ a b : Txt, Op.bytesLess a b = bytesBefore a b
  | [], [] => rfl
  | [], _ :: _ => rfl
  | _ :: _, [] => rfl
  | a :: r, b :: s => by
    show (a < b || (a == b && Op.bytesLess r s)) = (a < b || (a == b && bytesBefore r s))
    rw [less_before r s]
end Go.Proofs.YtohnmaindbgngaaGreatDoor
namespace Go.Proofs.YtohnmaindbgngaaGreatDoor
set_option linter.unusedVariables false
set_option linter.unusedSimpArgs false
open Go.RowKit

/-- A lock that is held, and its queue's slice. -/
structure DLk where
  d : LockD
  q : Value
def DLk.cells (x : DLk) : List Value := [str x.d.name, .int .i64 x.d.holder, .int .i64 x.d.token, x.q]
theorem dlk_four : ∀ x : DLk, x.cells.length = 4 := fun _ => rfl
def askC (z : SesD) : List Value := [.bool (decide (0 < z.inc)), .int .i64 z.inc, .int .i64 z.req, .int .i64 z.last.code, str z.last.val, .int .i64 z.last.n]
theorem ask_six : ∀ z : SesD, (askC z).length = 6 := fun _ => rfl
def dcells (pv hv : Value) (tok : Int) (ss : List SesD) : List Value := pv :: hv :: .int .i64 tok :: rcells askC ss
/-- The machine d, its lists pv and hv, its locks hs; F: its blocks. -/
structure DAt (B : Nat) (F : Nat → Prop) (w : World) (d : Nat) (pv hv : Value) (hs : List DLk) (s : StD) : Prop where
  blk : Blk w d 192 (dcells pv hv s.tok s.ss).toArray
  pr : w.ownsRow B 222 2 pv s.pairs.length (pcells s.pairs)
  lk : w.ownsRow B 206 4 hv s.locks.length (rcells DLk.cells hs)
  ds : hs.map DLk.d = s.locks
  qs : ∀ x ∈ hs, w.ownsRow B 3 1 x.q x.d.queue.length (ics x.d.queue)
  ap : hs.Pairwise fun a b => ∀ k, a.q.ownBlock = some k → b.q.ownBlock ≠ some k
  fd : F d
  fp : ∀ k, pv.ownBlock = some k → F k
  fh : ∀ k, hv.ownBlock = some k → F k
  fq : ∀ x ∈ hs, ∀ k, x.q.ownBlock = some k → F k
section
variable {B : Nat} {F : Nat → Prop} {w w' : World} {d : Nat} {pv hv : Value} {hs : List DLk} {s : StD}
theorem DAt.keep {Z : Nat → Prop} (h : DAt B F w d pv hv hs s) (hk : Keep Z w w') (hz : ∀ k, F k → Z k) : DAt B F w' d pv hv hs s :=
  ⟨h.blk.keep hk (hz d h.fd), own_keep h.pr hk fun k hk => hz k (h.fp k hk), own_keep h.lk hk fun k hk => hz k (h.fh k hk), h.ds, fun x hx => own_keep (h.qs x hx) hk fun k hk => hz k (h.fq x hx k hk), h.ap, h.fd, h.fp, h.fh, h.fq⟩
theorem DAt.fresh (h : DAt B F w d pv hv hs s) (hk : Fresh w w') : DAt B F w' d pv hv hs s := h.keep hk fun _ _ => trivial
theorem DAt.hlen (h : DAt B F w d pv hv hs s) : hs.length = s.locks.length := by rw [← h.ds, List.length_map]
theorem DAt.three (h : DAt B F w d pv hv hs s) : w.cell? ⟨d, 0, none⟩ = some pv ∧ w.cell? ⟨d, 1, none⟩ = some hv ∧ w.cell? ⟨d, 2, none⟩ = some (.int .i64 s.tok) := ⟨h.blk.cell 0, h.blk.cell 1, h.blk.cell 2⟩
theorem DAt.ask (h : DAt B F w d pv hv hs s) {q : Nat} (hq : q < s.ss.length) (j : Nat) (hj : j < 6) : w.cell? ⟨d, 3 + q * 6 + j, none⟩ = (askC (s.ss.getD q noSes))[j]? := by
  rw [h.blk.cell]
  have e : s.ss.getD q noSes = s.ss[q] := by rw [List.getD_eq_getElem?_getD, List.getElem?_eq_getElem hq]; rfl
  rw [e, List.getElem?_toArray, show 3 + q * 6 + j = (q * 6 + j) + 1 + 1 + 1 by omega]
  unfold dcells
  rw [List.getElem?_cons_succ, List.getElem?_cons_succ, List.getElem?_cons_succ, rcells_get ask_six s.ss q hq j hj]
end

/-! ### places -/
section
variable {α : Type} {key : α → Txt}
def placeK (key : α → Txt) (k : Txt) (l : List α) : Int := match l.findIdx? fun x => key x == k with
  | some i => (i : Int)
  | none => -1
theorem placeK_none {k : Txt} {l : List α} (h : ∀ x ∈ l, key x ≠ k) : placeK key k l = -1 := by
  unfold placeK
  have : l.findIdx? (fun x => key x == k) = none := List.findIdx?_eq_none_iff.2 fun x hx => by simpa using h x hx
  rw [this]
theorem placeK_some {k : Txt} {l : List α} {i : Nat} (hi : i < l.length) (h : key l[i] = k) (hb : ∀ j (hj : j < i), key (l[j]'(by omega)) ≠ k) : placeK key k l = (i : Int) := by
  unfold placeK
  have : l.findIdx? (fun x => key x == k) = some i := by
    rw [List.findIdx?_eq_some_iff_getElem]
    exact ⟨hi, by simpa using h, fun j hj => by simpa using hb j hj⟩
  rw [this]
theorem placeK_find {k : Txt} {l : List α} {x : α} (h : findK key k l = some x) : ∃ (i : Nat) (hi : i < l.length), l[i] = x ∧ placeK key k l = (i : Int) := by
  unfold findK at h
  rw [List.find?_eq_some_iff_getElem] at h
  obtain ⟨h1, i, hi, h2, h3⟩ := h
  exact ⟨i, hi, h2, placeK_some hi (by rw [h2]; simpa using h1) fun j hj => by simpa using h3 j hj⟩
end
theorem Rd.pairE {w : World} {Z : Nat → Prop} {A : Option Addr} {n k : Nat} {ps : List (Txt × Txt)} (h : Rd w Z 2 A n (pcells ps)) (hk : k < n) :
    ∃ (hl : k < ps.length) (b o : Nat), A = some ⟨b, o, none⟩ ∧ Z b ∧ w.cell? ⟨b, o + k * 2, none⟩ = some (str ps[k].1) ∧ w.cell? ⟨b, o + k * 2 + 1, none⟩ = some (str ps[k].2) := by
  have hl : k < ps.length := by
    have := h.1
    rw [rcells_len (f := pairC) (c := 2) (fun _ => rfl)] at this
    omega
  obtain ⟨b, o, hA, hz, hc⟩ := h.2 (by omega)
  have hg : ∀ j u, j < 2 → (pairC ps[k])[j]? = some u → w.cell? ⟨b, o + k * 2 + j, none⟩ = some u := fun j u hj hu => by
    have := hc (k * 2 + j) u (by rw [rcells_get (f := pairC) (c := 2) (fun _ => rfl) ps k hl j hj]; exact hu)
    rwa [← Nat.add_assoc] at this
  exact ⟨hl, b, o, hA, hz, hg 0 _ (by omega) rfl, hg 1 _ (by omega) rfl⟩
theorem Rd.lockE {w : World} {Z : Nat → Prop} {A : Option Addr} {n k : Nat} {xs : List DLk} (h : Rd w Z 4 A n (rcells DLk.cells xs)) (hk : k < n) :
    ∃ (hl : k < xs.length) (b o : Nat), A = some ⟨b, o, none⟩ ∧ Z b ∧ w.cell? ⟨b, o + k * 4, none⟩ = some (str xs[k].d.name) ∧ w.cell? ⟨b, o + k * 4 + 1, none⟩ = some (.int .i64 xs[k].d.holder) ∧ w.cell? ⟨b, o + k * 4 + 2, none⟩ = some (.int .i64 xs[k].d.token) ∧ w.cell? ⟨b, o + k * 4 + 3, none⟩ = some xs[k].q := by
  have hl : k < xs.length := by
    have := h.1
    rw [rcells_len dlk_four] at this
    omega
  obtain ⟨b, o, hA, hz, hc⟩ := h.2 (by omega)
  have hg : ∀ j u, j < 4 → (xs[k].cells)[j]? = some u → w.cell? ⟨b, o + k * 4 + j, none⟩ = some u := fun j u hj hu => by
    have := hc (k * 4 + j) u (by rw [rcells_get dlk_four xs k hl j hj]; exact hu)
    rwa [← Nat.add_assoc] at this
  exact ⟨hl, b, o, hA, hz, hg 0 _ (by omega) rfl, hg 1 _ (by omega) rfl, hg 2 _ (by omega) rfl, hg 3 _ (by omega) rfl⟩
def placeI (q : List Int) (c : Int) : Int := if c ∈ q then (q.idxOf c : Int) + 1 else 0
set_option maxRecDepth 20000 in
theorem keyAt_any {B : Nat} {F : Nat → Prop} {w : World} {d : Nat} {pv hv : Value} {hs : List DLk} {s : StD} (h : DAt B F w d pv hv hs s) (k : Txt) (hn : s.pairs.length ≤ 1000) :
    Calls Tryz.prog 146 #[.pointer (some ⟨d, 0, none⟩), str k] w fun e w' => e = .returned (.int .i64 (placeK Prod.fst k s.pairs)) ∧ w = w' := by
  obtain ⟨n, hnn⟩ : ∃ n, n = s.pairs.length := ⟨_, rfl⟩
  obtain ⟨ps, hps⟩ : ∃ ps, ps = s.pairs := ⟨_, rfl⟩
  obtain ⟨r, hr⟩ : ∃ r, r = placeK Prod.fst k ps := ⟨_, rfl⟩
  rw [← hps, ← hr]
  have x0 := h.three.1
  have ld := h.blk.lt
  have hpr := h.pr
  rw [← hnn, ← hps] at hpr
  obtain ⟨A, c, rfl, hrd, -⟩ := own_rd hpr
  have HR := Lib.hid (And.intro hrd (And.intro hr (show n = ps.length by rw [hnn, hps])))
  have hn' : n ≤ 1000 := by omega
  clear h hpr hrd hr hps hnn hn
  go_enter Tryz.func146, Tryz.ntmps146
  go_wp2_with fail
  go_loop [5] (fun i => ∃ j : Nat, j ≤ n ∧ i = .int .i64 (j : Int) ∧ Hid (∀ i (hi : i < ps.length), i < j → ps[i].1 ≠ k)) (fun i => n - (intOf i).toNat)
  case atStart => exact ⟨0, by omega, rfl, Lib.hid fun i _ hi => by omega⟩
  case round =>
    obtain ⟨j, hj, rfl, HJ⟩ := hrel
    by_cases hlt : j < n
    · obtain ⟨hl, b, o, hA, -, hc, -⟩ := HR.out.1.pairE hlt
      subst hA
      obtain ⟨kk, hkk⟩ : ∃ kk, kk = ps[j].1 := ⟨_, rfl⟩
      rw [← hkk] at hc
      have lb := lt_of_cell hc
      have hji : (j : Int) < (n : Int) := by omega
      have HK := Lib.hid hkk
      clear hkk
      by_cases he : kk = k
      · have HE : Hid (r = (j : Int)) := Lib.hid (by rw [HR.out.2.1]; exact placeK_some hl (by rw [← HK.out]; exact he) fun i hi => HJ.out i (by omega) hi)
        subst he
        clear HK hl
        go_wp2_with fail
        go_ret
        exact ⟨ret_int HE.out.symm, rfl⟩
      · have hb : (kk == k) = false := by simpa using he
        have HN : Hid (∀ i (hi : i < ps.length), i < j + 1 → ps[i].1 ≠ k) := Lib.hid fun i hi hij => by
          by_cases e : i = j
          · subst e; rw [← HK.out]; exact he
          · exact HJ.out i hi (by omega)
        clear he hl HK
        go_wp2_with fail
        go_round
        case rel => exact ⟨j + 1, by omega, by go_num, HN⟩
        case measure => simp [intOf]; omega
    · obtain rfl : n = j := by omega
      have HE : Hid (r = -1) := Lib.hid (by
        rw [HR.out.2.1]
        refine placeK_none fun x hx => ?_
        obtain ⟨i, hi, rfl⟩ := List.getElem_of_mem hx
        exact HJ.out i hi (by have := HR.out.2.2; omega))
      go_wp2_with fail
      go_ret
      exact ⟨ret_int HE.out.symm, rfl⟩
set_option maxRecDepth 20000 in
theorem lockAt_any {B : Nat} {F : Nat → Prop} {w : World} {d : Nat} {pv hv : Value} {hs : List DLk} {s : StD} (h : DAt B F w d pv hv hs s) (k : Txt) (hn : s.locks.length ≤ 1000) :
    Calls Tryz.prog 127 #[.pointer (some ⟨d, 0, none⟩), str k] w fun e w' => e = .returned (.int .i64 (placeK LockD.name k s.locks)) ∧ w = w' := by
  obtain ⟨n, hnn⟩ : ∃ n, n = s.locks.length := ⟨_, rfl⟩
  obtain ⟨ps, hps⟩ : ∃ ps, ps = s.locks := ⟨_, rfl⟩
  obtain ⟨r, hr⟩ : ∃ r, r = placeK LockD.name k ps := ⟨_, rfl⟩
  rw [← hps, ← hr]
  have x0 := h.three.2.1
  have ld := h.blk.lt
  have hpr := h.lk
  have hds := h.ds
  rw [← hnn] at hpr
  rw [← hps] at hds
  obtain ⟨A, c, rfl, hrd, -⟩ := own_rd hpr
  have HR := Lib.hid (And.intro hrd (And.intro hr (And.intro (show n = ps.length by rw [hnn, hps]) hds)))
  have hn' : n ≤ 1000 := by omega
  clear h hpr hrd hr hps hds hnn hn
  go_enter Tryz.func127, Tryz.ntmps127
  go_wp2_with fail
  go_loop [5] (fun i => ∃ j : Nat, j ≤ n ∧ i = .int .i64 (j : Int) ∧ Hid (∀ i (hi : i < ps.length), i < j → ps[i].name ≠ k)) (fun i => n - (intOf i).toNat)
  case atStart => exact ⟨0, by omega, rfl, Lib.hid fun i _ hi => by omega⟩
  case round =>
    obtain ⟨j, hj, rfl, HJ⟩ := hrel
    by_cases hlt : j < n
    · obtain ⟨hl, b, o, hA, -, hc, -⟩ := HR.out.1.lockE hlt
      subst hA
      have hlp : j < ps.length := by rw [← HR.out.2.2.1]; exact hlt
      have hdj : hs[j].d = ps[j] := by
        have h2 := HR.out.2.2.2
        subst h2
        simp
      rw [hdj] at hc
      obtain ⟨kk, hkk⟩ : ∃ kk, kk = ps[j].name := ⟨_, rfl⟩
      rw [← hkk] at hc
      have lb := lt_of_cell hc
      have hji : (j : Int) < (n : Int) := by omega
      have HK := Lib.hid hkk
      clear hkk
      by_cases he : kk = k
      · have HE : Hid (r = (j : Int)) := Lib.hid (by rw [HR.out.2.1]; exact placeK_some hlp (by rw [← HK.out]; exact he) fun i hi => HJ.out i (by omega) hi)
        subst he
        clear HK hl hlp hdj
        go_wp2_with fail
        go_ret
        exact ⟨ret_int HE.out.symm, rfl⟩
      · have hb : (kk == k) = false := by simpa using he
        have HN : Hid (∀ i (hi : i < ps.length), i < j + 1 → ps[i].name ≠ k) := Lib.hid fun i hi hij => by
          by_cases e : i = j
          · subst e; rw [← HK.out]; exact he
          · exact HJ.out i hi (by omega)
        clear he hl hlp hdj HK
        go_wp2_with fail
        go_round
        case rel => exact ⟨j + 1, by omega, by go_num, HN⟩
        case measure => simp [intOf]; omega
    · obtain rfl : n = j := by omega
      have HE : Hid (r = -1) := Lib.hid (by
        rw [HR.out.2.1]
        refine placeK_none fun x hx => ?_
        obtain ⟨i, hi, rfl⟩ := List.getElem_of_mem hx
        exact HJ.out i hi (by have := HR.out.2.2.1; omega))
      go_wp2_with fail
      go_ret
      exact ⟨ret_int HE.out.symm, rfl⟩
set_option maxRecDepth 20000 in
theorem without_any (Z : Nat → Prop) (A : Option Addr) (n c : Nat) (q : List Int) (x : Int) (w : World) (h : Rd w Z 1 A n (ics q)) (hn : n ≤ 1000000) :
    Calls Tryz.prog 126 #[.slice A n c, .int .i64 x] w fun e w' => (∃ v, e = .returned v ∧ w'.ownsRow w.heap.size 3 1 v (lessD q x).length (ics (lessD q x))) ∧ Fresh w w' := by
  have hl : q.length = n := by simpa [ics] using h.1
  have HA := Lib.hid (And.intro (h.weaken (Z' := fun _ => True) fun _ _ => trivial) hl)
  clear h hl
  go_enter Tryz.func126, Tryz.ntmps126
  go_wp2_with fail
  go_loopw [5, 6] (fun v i wr => ∃ k : Nat, k ≤ n ∧ i = .int .i64 (k : Int) ∧ Hid (wr.ownsRow w.heap.size 3 1 v (lessD (q.take k) x).length (ics (lessD (q.take k) x)) ∧ Fresh w wr)) (fun _ i _ => n - (intOf i).toNat)
  case atStart => exact ⟨0, by omega, rfl, Lib.hid ⟨by exact World.ownsRow_nil _ _ _ _, Keep.refl _ _⟩⟩
  case round =>
    rename World => wr
    obtain ⟨k, hk, rfl, HR⟩ := hrel
    by_cases hlt : k < n
    · obtain ⟨b, o, rfl, -, hlk, e1⟩ := (HA.out.1.keep HR.out.2).intAt hlt
      obtain ⟨y, hy⟩ : ∃ y, y = q[k] := ⟨_, rfl⟩
      rw [← hy] at e1
      have HS : Hid (lessD (q.take (k + 1)) x = lessD (q.take k) x ++ (if y = x then [] else [y])) := Lib.hid (by rw [List.take_succ_eq_append_getElem hlk, ← hy, less_snoc])
      have hle : (lessD (q.take k) x).length ≤ 1000000 := by
        have := less_le (q.take k) x
        have := List.length_take_le k q
        omega
      clear hy hlk
      by_cases hyx : y = x
      · subst hyx
        have HS2 : Hid (lessD (q.take (k + 1)) y = lessD (q.take k) y) := Lib.hid (by rw [HS.out, if_pos rfl]; simp)
        clear HS hle
        go_wp2_with fail
        exact ⟨⟨k + 1, by omega, by simp, Lib.hid ⟨by rw [HS2.out]; exact HR.out.1, HR.out.2⟩⟩, by simp only [intOf]; omega⟩
      · have HS2 : Hid (lessD (q.take (k + 1)) x = lessD (q.take k) x ++ [y]) := Lib.hid (by rw [HS.out, if_neg hyx])
        have HL := Lib.hid hle
        clear HS hle
        go_wp2_with (at_builtin; refine wpList_app1 etInt2 rfl (.tmp 19) (.tmp 24) rfl (.int .i64 y) _ rfl w.heap.size _ (lessD (q.take k) x).length (ics (lessD (q.take k) x)) rfl rfl HR.out.1 (by have := HL.out; omega) HR.out.2.size ?_)
        intro v2 w2 ho2 hk2 hn2
        have H2 := Lib.hid (And.intro ho2 hk2)
        clear ho2 hk2 hn2
        go_wp2_with fail
        refine ⟨⟨k + 1, by omega, by simp, Lib.hid ⟨?_, HR.out.2.comp H2.out.2 (fun _ _ h => h) (fun i hi _ e => by have := (own_lt HR.out.1 e).1; omega)⟩⟩, by simp only [intOf]; omega⟩
        rw [HS2.out]
        have h1 := H2.out.1
        simpa [ics] using h1
    · obtain rfl : k = n := by omega
      go_wp2_with fail
      go_ret
      have h1 := HR.out.1
      rw [List.take_of_length_le (by rw [HA.out.2]; exact Nat.le_refl _)] at h1
      exact ⟨⟨_, rfl, h1⟩, HR.out.2⟩
set_option maxRecDepth 20000 in
theorem placeOf_any (Z : Nat → Prop) (A : Option Addr) (n c : Nat) (q : List Int) (x : Int) (w : World) (h : Rd w Z 1 A n (ics q)) (hn : n ≤ 1000000) :
    Calls Tryz.prog 145 #[.slice A n c, .int .i64 x] w fun e w' => e = .returned (.int .i64 (placeI q x)) ∧ w = w' := by
  have hl : q.length = n := by simpa [ics] using h.1
  obtain ⟨r, hr⟩ : ∃ r, r = placeI q x := ⟨_, rfl⟩
  rw [← hr]
  have HA := Lib.hid (And.intro h (And.intro hl hr))
  clear h hl hr
  go_enter Tryz.func145, Tryz.ntmps145
  go_wp2_with fail
  go_loop [5] (fun i => ∃ j : Nat, j ≤ n ∧ i = .int .i64 (j : Int) ∧ Hid (x ∉ q.take j)) (fun i => n - (intOf i).toNat)
  case atStart => exact ⟨0, by omega, rfl, Lib.hid (by simp)⟩
  case round =>
    obtain ⟨j, hj, rfl, HJ⟩ := hrel
    by_cases hlt : j < n
    · obtain ⟨b, o, rfl, -, hlk, e1⟩ := HA.out.1.intAt hlt
      obtain ⟨y, hy⟩ : ∃ y, y = q[j] := ⟨_, rfl⟩
      rw [← hy] at e1
      have HT : Hid (q.take (j + 1) = q.take j ++ [y]) := Lib.hid (by rw [List.take_succ_eq_append_getElem hlk, ← hy])
      have hji : (j : Int) < (n : Int) := by omega
      have hlb := lt_of_cell e1
      by_cases he : y = x
      · have HE : Hid (r = (j : Int) + 1) := Lib.hid (by
          rw [HA.out.2.2]
          unfold placeI
          have hm : x ∈ q := by rw [← he, hy]; exact List.getElem_mem hlk
          rw [if_pos hm]
          have h1 : q.idxOf x = j := by
            have e : q = q.take j ++ q.drop j := (List.take_append_drop j q).symm
            rw [e, List.idxOf_append, if_neg HJ.out, List.drop_eq_getElem_cons hlk, ← hy, he, List.idxOf_cons_self, List.length_take]
            omega
          rw [h1])
        subst he
        clear hy hlk
        go_wp2_with fail
        go_ret
        exact ⟨ret_int HE.out.symm, rfl⟩
      · have HN : Hid (x ∉ q.take (j + 1)) := Lib.hid (by
          rw [HT.out]
          simp only [List.mem_append, List.mem_singleton]
          rintro (h | h)
          · exact HJ.out h
          · exact he h.symm)
        clear hy hlk HT
        go_wp2_with fail
        go_round
        case rel => exact ⟨j + 1, by omega, by go_num, HN⟩
        case measure => simp [intOf]; omega
    · obtain rfl : n = j := by omega
      have HE : Hid (r = 0) := Lib.hid (by
        rw [HA.out.2.2]
        unfold placeI
        rw [if_neg]
        have := HJ.out
        rwa [List.take_of_length_le (by rw [HA.out.2.1]; exact Nat.le_refl _)] at this)
      go_wp2_with fail
      go_ret
      exact ⟨ret_int HE.out.symm, rfl⟩

/-! ### New -/
theorem dnew_any (w : World) : Calls Tryz.prog 96 #[] w fun e w' => (∃ d, e = .returned (.pointer (some ⟨d, 0, none⟩)) ∧ DAt w.heap.size (fun j => j = d) w' d (.slice none 0 0) (.slice none 0 0) [] newD ∧ w.heap.size ≤ d ∧ d < w'.heap.size) ∧ Fresh w w' := by
  go_enter Tryz.func96, Tryz.ntmps96
  go_wp2_with fail
  go_ret
  refine ⟨⟨_, rfl, ⟨?_, by exact World.ownsRow_nil _ _ _ _, by exact World.ownsRow_nil _ _ _ _, rfl, fun x hx => by (cases hx), List.Pairwise.nil, rfl, fun k hk => by (simp [Value.ownBlock] at hk), fun k hk => by (simp [Value.ownBlock] at hk), fun x hx => by (cases hx)⟩, Nat.le_refl _, by simp⟩, (Keep.refl _ w).alloc _⟩
  exact Blk.new _ _ _
/-! ### Get -/
end Go.Proofs.YtohnmaindbgngaaGreatDoor
namespace Go.Proofs.YtohnmaindbgngaaGreatDoor
set_option linter.unusedVariables false
set_option linter.unusedSimpArgs false
open Go.RowKit

section
variable {α : Type} {key : α → Txt}
def inB (key : α → Txt) (x : α) (l : List α) : Bool := l.any fun z => bytesBefore (key x) (key z)
def insT (key : α → Txt) (x : α) (l : List α) : List α := if inB key x l = true then insK key x l else l
theorem insK_end {x : α} : ∀ {l : List α}, inB key x l = false → insK key x l = l ++ [x]
  | [], _ => rfl
  | y :: r, h => by
    unfold inB at h
    simp only [List.any_cons, Bool.or_eq_false_iff] at h
    unfold insK
    rw [if_neg (by simp [h.1]), insK_end (l := r) h.2]
    rfl
theorem insK_in {x : α} : ∀ {l : List α} (m : List α), inB key x l = true → insK key x (l ++ m) = insK key x l ++ m
  | [], _, h => by cases h
  | y :: r, m, h => by
    unfold inB at h
    simp only [List.any_cons, Bool.or_eq_true] at h
    show insK key x (y :: (r ++ m)) = insK key x (y :: r) ++ m
    unfold insK
    by_cases hb : bytesBefore (key x) (key y) = true
    · rw [if_pos hb, if_pos hb]
      rfl
    · rw [if_neg hb, if_neg hb, insK_in m (h.resolve_left hb)]
      rfl
theorem inB_snoc (x y : α) (l : List α) : inB key x (l ++ [y]) = (inB key x l || bytesBefore (key x) (key y)) := by simp [inB]
theorem insT_in {x y : α} {l : List α} (h : inB key x l = true) : insT key x (l ++ [y]) = insT key x l ++ [y] := by
  unfold insT
  rw [inB_snoc, h, Bool.true_or, if_pos rfl, if_pos rfl, insK_in [y] h]
theorem insK_now {x y : α} (hb : bytesBefore (key x) (key y) = true) : ∀ {l : List α}, inB key x l = false → insK key x (l ++ [y]) = l ++ [x] ++ [y]
  | [], _ => by
    show insK key x [y] = [x, y]
    unfold insK
    rw [if_pos hb]
  | z :: r, h => by
    unfold inB at h
    simp only [List.any_cons, Bool.or_eq_false_iff] at h
    show insK key x (z :: (r ++ [y])) = z :: (r ++ [x] ++ [y])
    unfold insK
    rw [if_neg (by simp [h.1]), insK_now hb h.2]
theorem insT_now {x y : α} {l : List α} (h : inB key x l = false) (hb : bytesBefore (key x) (key y) = true) : insT key x (l ++ [y]) = insT key x l ++ [x] ++ [y] := by
  have h1 : insT key x l = l := by unfold insT; rw [if_neg (by simp [h])]
  rw [h1]
  unfold insT
  rw [inB_snoc, h, hb, Bool.false_or, if_pos rfl, insK_now hb h]
theorem insT_out {x y : α} {l : List α} (h : inB key x l = false) (hb : bytesBefore (key x) (key y) = false) : insT key x (l ++ [y]) = insT key x l ++ [y] := by
  unfold insT
  rw [inB_snoc, h, hb, Bool.false_or, if_neg (by simp), if_neg (by simp)]
theorem insT_end {x : α} {l : List α} : insK key x l = if inB key x l = true then insT key x l else insT key x l ++ [x] := by
  unfold insT
  by_cases h : inB key x l = true
  · rw [if_pos h, if_pos h]
  · rw [if_neg h, if_neg h, insK_end (by simpa using h)]
end
theorem dcells_0 (pv hv pv' : Value) (tok : Int) (ss : List SesD) : (dcells pv hv tok ss).toArray.setIfInBounds 0 pv' = (dcells pv' hv tok ss).toArray := by simp [dcells]
theorem dcells_1 (pv hv hv' : Value) (tok : Int) (ss : List SesD) : (dcells pv hv tok ss).toArray.setIfInBounds 1 hv' = (dcells pv hv' tok ss).toArray := by simp [dcells]
theorem dcells_2 (pv hv : Value) (tok tok' : Int) (ss : List SesD) : (dcells pv hv tok ss).toArray.setIfInBounds 2 (.int .i64 tok') = (dcells pv hv tok' ss).toArray := by simp [dcells]
section
variable {B : Nat} {F : Nat → Prop} {w w2 : World} {d : Nat} {pv hv : Value} {hs : List DLk} {s : StD}
/-- Other pairs are stored. -/
theorem DAt.setPairs (h : DAt B F w d pv hv hs s) (hk : Fresh w w2) {B' : Nat} (hB : B ≤ B') {pv' : Value} {ps' : List (Txt × Txt)} (ho : w2.ownsRow B' 222 2 pv' ps'.length (pcells ps')) :
    DAt B (fun j => F j ∨ pv'.ownBlock = some j) (w2.setCell ⟨d, 0, none⟩ pv') d pv' hv hs { s with pairs := ps' } := by
  have hb := h.blk.keep hk trivial
  refine ⟨?_, ?_, ?_, h.ds, fun x hx => ?_, h.ap, .inl h.fd, fun k hk => .inr hk, fun k hk => .inl (h.fh k hk), fun x hx k hk => .inl (h.fq x hx k hk)⟩
  · have := hb.set 0 pv'
    rwa [dcells_0] at this
  · exact own_far (own_base ho hB) (p := ⟨d, 0, none⟩) (own_ne_blk ho hb (by decide)) _
  · have h1 := own_keep h.lk hk fun _ _ => trivial
    exact own_far h1 (p := ⟨d, 0, none⟩) (own_ne_blk h1 hb (by decide)) _
  · have h1 := own_keep (h.qs x hx) hk fun _ _ => trivial
    exact own_far h1 (p := ⟨d, 0, none⟩) (own_ne_blk h1 hb (by decide)) _
end
set_option maxRecDepth 20000 in
theorem joins_any {B : Nat} {F : Nat → Prop} {w : World} {d : Nat} {pv hv : Value} {hs : List DLk} {s : StD} (h : DAt B F w d pv hv hs s) (k v : Txt) (hn : s.pairs.length ≤ 1000) (hB : B ≤ w.heap.size) :
    Calls Tryz.prog 147 #[.pointer (some ⟨d, 0, none⟩), str k, str v] w fun e w' => e = .returned (.tuple #[]) ∧ (∃ pv' F', DAt B F' w' d pv' hv hs { s with pairs := insK Prod.fst (k, v) s.pairs } ∧ ∀ j, F' j → F j ∨ w.heap.size ≤ j) ∧ Keep (fun j => j ≠ d) w w' := by
  obtain ⟨n, hnn⟩ : ∃ n, n = s.pairs.length := ⟨_, rfl⟩
  obtain ⟨ps, hps⟩ : ∃ ps, ps = s.pairs := ⟨_, rfl⟩
  have hpr := h.pr
  rw [← hnn, ← hps] at hpr
  obtain ⟨A, c, rfl, hrd, -⟩ := own_rd hpr
  have HA := Lib.hid (And.intro h (And.intro hrd (And.intro hps (And.intro (show n = ps.length by rw [hnn, hps]) hB))))
  have hn' : n ≤ 1000 := by omega
  have ld := h.blk.lt
  clear h hpr hrd hps hnn hn hB
  go_enter Tryz.func147, Tryz.ntmps147
  go_wp2_with fail
  go_loopw [6, 7, 8] (fun v6 v7 iv wr => ∃ (j : Nat) (b : Bool), j ≤ n ∧ v7 = .bool b ∧ iv = .int .i64 (j : Int) ∧ Hid (b = inB Prod.fst (k, v) (ps.take j) ∧ wr.ownsRow w.heap.size 222 2 v6 (insT Prod.fst (k, v) (ps.take j)).length (pcells (insT Prod.fst (k, v) (ps.take j))) ∧ Fresh w wr)) (fun _ _ i _ => n - (intOf i).toNat)
  case atStart => exact ⟨0, false, by omega, rfl, rfl, Lib.hid ⟨rfl, by exact World.ownsRow_nil _ _ _ _, Keep.refl _ _⟩⟩
  case round =>
    rename World => wr
    obtain ⟨j, b, hj, rfl, rfl, HR⟩ := hrel
    have x0 := (HA.out.1.fresh HR.out.2.2).three.1
    have ldr : d < wr.heap.size := Nat.lt_of_lt_of_le ld HR.out.2.2.size
    by_cases hlt : j < n
    · obtain ⟨hl, b8, o8, hA, -, hcw0, hcw1⟩ := HA.out.2.1.pairE hlt
      subst hA
      obtain ⟨⟨kk, vv⟩, hkk⟩ : ∃ p, p = ps[j] := ⟨_, rfl⟩
      rw [← hkk] at hcw0 hcw1
      simp only at hcw0 hcw1
      have hc0 := HR.out.2.2.cellAt hcw0 trivial
      have hc1 := HR.out.2.2.cellAt hcw1 trivial
      have HC := Lib.hid (And.intro hcw0 hcw1)
      clear hcw0 hcw1
      have lb := lt_of_cell hc0
      have hji : (j : Int) < (n : Int) := by omega
      have HT : Hid (ps.take (j + 1) = ps.take j ++ [(kk, vv)]) := Lib.hid (by rw [List.take_succ_eq_append_getElem hl, ← hkk])
      have HLn : Hid ((insT Prod.fst (k, v) (ps.take j)).length ≤ 2000) := Lib.hid (by
        unfold insT
        split
        · rw [insK_len]; have := List.length_take_le j ps; omega
        · have := List.length_take_le j ps; omega)
      clear hkk hl
      cases b
      · by_cases hb : bytesBefore k kk = true
        · have hlb : Op.bytesLess k kk = true := by rw [less_before]; exact hb
          have HI : Hid (insT Prod.fst (k, v) (ps.take (j + 1)) = insT Prod.fst (k, v) (ps.take j) ++ [(k, v)] ++ [(kk, vv)] ∧ inB Prod.fst (k, v) (ps.take (j + 1)) = true) := Lib.hid (by
            rw [HT.out]
            exact ⟨insT_now (key := Prod.fst) HR.out.1.symm hb, by rw [inB_snoc]; simp [hb]⟩)
          clear hb
          go_wp2_with (at_builtin; refine wpList_appB etPair rfl (.tmp 32) (.tmp 36) rfl #[str k, str v] 222 rfl (pair_one k v) w.heap.size _ _ _ wr.heap.size rfl rfl rfl HR.out.2.1 (by have := HLn.out; omega) HR.out.2.2.size ?_)
          intro v2 w2 ho2 hk2 hn2
          have hf2 : Fresh w w2 := HR.out.2.2.comp hk2 (fun _ _ h => h) (fun i hi _ e => by have := (own_lt HR.out.2.1 e).1; omega)
          have x0 := (HA.out.1.fresh hf2).three.1
          have ldr : d < w2.heap.size := Nat.lt_of_lt_of_le ld hf2.size
          have hc0 := hf2.cellAt HC.out.1 trivial
          have hc1 := hf2.cellAt HC.out.2 trivial
          have lb := lt_of_cell hc0
          have H2 := Lib.hid (And.intro ho2 hf2)
          clear ho2 hk2 hn2 hf2
          go_wp2_with (at_builtin; refine wpList_appB etPair rfl (.tmp 38) (.tmp 46) rfl #[str kk, str vv] 222 rfl (pair_one kk vv) w.heap.size _ _ _ w2.heap.size rfl rfl rfl H2.out.1 (by have := HLn.out; omega) H2.out.2.size ?_)
          intro v3 w3 ho3 hk3 hn3
          have H3 : Hid (w3.ownsRow w.heap.size 222 2 v3 (insT Prod.fst (k, v) (ps.take (j + 1))).length (pcells (insT Prod.fst (k, v) (ps.take (j + 1)))) ∧ Fresh w w3) := Lib.hid ⟨by
            rw [HI.out.1]
            simpa [pcells, rcells_append, rcells_cons, rcells_nil, pairC] using ho3, H2.out.2.comp hk3 (fun _ _ h => h) (fun i hi _ e => by have := (own_lt H2.out.1 e).1; omega)⟩
          clear ho3 hk3 hn3
          go_wp2_with fail
          exact ⟨⟨j + 1, true, by omega, rfl, by simp, Lib.hid ⟨HI.out.2.symm, H3.out⟩⟩, by simp only [intOf]; omega⟩
        · have hlb : Op.bytesLess k kk = false := by rw [less_before]; simpa using hb
          have HI : Hid (insT Prod.fst (k, v) (ps.take (j + 1)) = insT Prod.fst (k, v) (ps.take j) ++ [(kk, vv)] ∧ inB Prod.fst (k, v) (ps.take (j + 1)) = false) := Lib.hid (by
            rw [HT.out]
            exact ⟨insT_out (key := Prod.fst) HR.out.1.symm (by simpa using hb), by rw [inB_snoc, ← HR.out.1]; simpa using hb⟩)
          clear hb
          go_wp2_with (at_builtin; refine wpList_appB etPair rfl (.tmp 38) (.tmp 46) rfl #[str kk, str vv] 222 rfl (pair_one kk vv) w.heap.size _ _ _ wr.heap.size rfl rfl rfl HR.out.2.1 (by have := HLn.out; omega) HR.out.2.2.size ?_)
          intro v3 w3 ho3 hk3 hn3
          have H3 : Hid (w3.ownsRow w.heap.size 222 2 v3 (insT Prod.fst (k, v) (ps.take (j + 1))).length (pcells (insT Prod.fst (k, v) (ps.take (j + 1)))) ∧ Fresh w w3) := Lib.hid ⟨by
            rw [HI.out.1]
            simpa [pcells, rcells_append, rcells_cons, rcells_nil, pairC] using ho3, HR.out.2.2.comp hk3 (fun _ _ h => h) (fun i hi _ e => by have := (own_lt HR.out.2.1 e).1; omega)⟩
          clear ho3 hk3 hn3
          go_wp2_with fail
          exact ⟨⟨j + 1, false, by omega, rfl, by simp, Lib.hid ⟨HI.out.2.symm, H3.out⟩⟩, by simp only [intOf]; omega⟩
      · have HI : Hid (insT Prod.fst (k, v) (ps.take (j + 1)) = insT Prod.fst (k, v) (ps.take j) ++ [(kk, vv)] ∧ inB Prod.fst (k, v) (ps.take (j + 1)) = true) := Lib.hid (by
          rw [HT.out]
          exact ⟨insT_in (key := Prod.fst) HR.out.1.symm, by rw [inB_snoc, ← HR.out.1]; rfl⟩)
        go_wp2_with (at_builtin; refine wpList_appB etPair rfl (.tmp 38) (.tmp 46) rfl #[str kk, str vv] 222 rfl (pair_one kk vv) w.heap.size _ _ _ wr.heap.size rfl rfl rfl HR.out.2.1 (by have := HLn.out; omega) HR.out.2.2.size ?_)
        intro v3 w3 ho3 hk3 hn3
        have H3 : Hid (w3.ownsRow w.heap.size 222 2 v3 (insT Prod.fst (k, v) (ps.take (j + 1))).length (pcells (insT Prod.fst (k, v) (ps.take (j + 1)))) ∧ Fresh w w3) := Lib.hid ⟨by
          rw [HI.out.1]
          simpa [pcells, rcells_append, rcells_cons, rcells_nil, pairC] using ho3, HR.out.2.2.comp hk3 (fun _ _ h => h) (fun i hi _ e => by have := (own_lt HR.out.2.1 e).1; omega)⟩
        clear ho3 hk3 hn3
        go_wp2_with fail
        exact ⟨⟨j + 1, true, by omega, rfl, by simp, Lib.hid ⟨HI.out.2.symm, H3.out⟩⟩, by simp only [intOf]; omega⟩
    · obtain rfl : n = j := by omega
      have HE : Hid (ps.take n = ps) := Lib.hid (List.take_of_length_le (by rw [HA.out.2.2.2.1]; exact Nat.le_refl _))
      have HLn : Hid ((insT Prod.fst (k, v) (ps.take n)).length ≤ 2000) := Lib.hid (by
        have := HA.out.2.2.2.1
        unfold insT
        split
        · rw [insK_len]; have := List.length_take_le n ps; omega
        · have := List.length_take_le n ps; omega)
      have hfin : ∀ w5 v5, Fresh w w5 → w5.ownsRow w.heap.size 222 2 v5 (insK Prod.fst (k, v) ps).length (pcells (insK Prod.fst (k, v) ps)) → (∃ pv' F', DAt B F' (w5.setCell ⟨d, 0, none⟩ v5) d pv' hv hs { s with pairs := insK Prod.fst (k, v) s.pairs } ∧ ∀ j, F' j → F j ∨ w.heap.size ≤ j) ∧ Keep (fun j => j ≠ d) w (w5.setCell ⟨d, 0, none⟩ v5) := fun w5 v5 hf ho => by
        rw [HA.out.2.2.1] at ho
        refine ⟨⟨_, _, HA.out.1.setPairs hf HA.out.2.2.2.2 ho, fun j hj => hj.imp id fun e => (own_lt ho e).1⟩, (hf.weaken fun _ _ _ => trivial).setCell (fun _ h => h rfl) _⟩
      have HF := Lib.hid hfin
      have hzd : ∀ w5, Fresh w w5 → w5.frozen? ⟨d, 0, none⟩ = false ∧ (∃ u, w5.cell? ⟨d, 0, none⟩ = some u) ∧ d < w5.heap.size := fun w5 hf => ⟨(HA.out.1.fresh hf).blk.frozen 0, ⟨_, (HA.out.1.fresh hf).three.1⟩, Nat.lt_of_lt_of_le ld hf.size⟩
      have HZ := Lib.hid hzd
      clear hfin hzd
      cases b
      · have hE : insK Prod.fst (k, v) ps = insT Prod.fst (k, v) (ps.take n) ++ [(k, v)] := by
          have h1 := HR.out.1
          rw [HE.out] at h1 ⊢
          rw [insT_end, if_neg (by rw [← h1]; simp)]
        have HI := Lib.hid hE
        clear hE
        go_wp2_with (at_builtin; refine wpList_appB etPair rfl (.tmp 50) (.tmp 54) rfl #[str k, str v] 222 rfl (pair_one k v) w.heap.size _ _ _ wr.heap.size rfl rfl rfl HR.out.2.1 (by have := HLn.out; omega) HR.out.2.2.size ?_)
        intro v2 w2 ho2 hk2 hn2
        have hf2 : Fresh w w2 := HR.out.2.2.comp hk2 (fun _ _ h => h) (fun i hi _ e => by have := (own_lt HR.out.2.1 e).1; omega)
        have ho3 : w2.ownsRow w.heap.size 222 2 v2 (insK Prod.fst (k, v) ps).length (pcells (insK Prod.fst (k, v) ps)) := by
          rw [HI.out]
          simpa [pcells, rcells_append, rcells_cons, rcells_nil, pairC] using ho2
        obtain ⟨A2, c2, rfl, -⟩ := own_rd ho3
        obtain ⟨z0, ⟨u0, x0⟩, l0⟩ := HZ.out w2 hf2
        have H2 := Lib.hid (HF.out w2 _ hf2 ho3)
        clear ho2 hk2 hn2 hf2 ho3
        go_wp2_with fail
        go_end0
        exact ⟨rfl, H2.out⟩
      · have hE : insK Prod.fst (k, v) ps = insT Prod.fst (k, v) (ps.take n) := by
          have h1 := HR.out.1
          rw [HE.out] at h1 ⊢
          rw [insT_end, if_pos (by rw [← h1])]
        have ho := HR.out.2.1
        rw [← hE] at ho
        obtain ⟨A2, c2, rfl, -⟩ := own_rd ho
        obtain ⟨z0, ⟨u0, x0⟩, l0⟩ := HZ.out wr HR.out.2.2
        have H2 := Lib.hid (HF.out wr _ HR.out.2.2 ho)
        clear ho hE
        go_wp2_with fail
        go_end0
        exact ⟨rfl, H2.out⟩
end Go.Proofs.YtohnmaindbgngaaGreatDoor
namespace Go.Proofs.YtohnmaindbgngaaGreatDoor
set_option linter.unusedVariables false
set_option linter.unusedSimpArgs false
open Go.RowKit

abbrev DLk.key (x : DLk) : Txt := x.d.name
theorem dlk_ins (x : DLk) : ∀ hs : List DLk, (insK DLk.key x hs).map DLk.d = insK LockD.name x.d (hs.map DLk.d)
  | [] => rfl
  | y :: r => by
    unfold insK
    by_cases h : bytesBefore (DLk.key x) (DLk.key y) = true
    · rw [if_pos h]
      show _ = if bytesBefore x.d.name y.d.name = true then _ else _
      rw [if_pos h]
      rfl
    · rw [if_neg h]
      show _ = if bytesBefore x.d.name y.d.name = true then _ else _
      rw [if_neg h, List.map_cons, dlk_ins x r]
theorem pair_ins {α : Type} {key : α → Txt} {R : α → α → Prop} {x : α} : ∀ {l : List α}, (∀ y ∈ l, R x y ∧ R y x) → l.Pairwise R → (insK key x l).Pairwise R
  | [], _, _ => by
    show [x].Pairwise R
    simp
  | y :: r, h, hp => by
    obtain ⟨h1, h2⟩ := List.pairwise_cons.1 hp
    unfold insK
    split
    · exact List.pairwise_cons.2 ⟨fun z hz => (h z hz).1, hp⟩
    · refine List.pairwise_cons.2 ⟨fun z hz => ?_, pair_ins (fun z hz => h z (by simp [hz])) h2⟩
      rcases insK_mem.1 hz with rfl | hz
      · exact (h y (by simp)).2
      · exact h1 z hz
theorem lock_info : (Tryz.prog.info? 206).map (fun i => (i.zero, i.size, i.bytes)) = some (some (.agg #[str [], .int .i64 0, .int .i64 0, .slice none 0 0]), 4, 56) := by kernel_rfl
theorem etLock : ET Tryz.prog 187 206 4 56 (.agg #[str [], .int .i64 0, .int .i64 0, .slice none 0 0]) := ⟨Tryz.underlying187, lock_info, rfl, by decide, by decide⟩
theorem lockA_one (a : Txt) (i j : Int) (q : Value) (h : q.oneCell' = true) : (#[str a, .int .i64 i, .int .i64 j, q] : Array Value).all (·.oneCell') = true := by
  simp [h, show (str a).oneCell' = true from rfl, show (Value.int IntKind.i64 i).oneCell' = true from rfl, show (Value.int IntKind.i64 j).oneCell' = true from rfl]
theorem lockL_one (a : Txt) (i j : Int) (q : Value) (h : q.oneCell' = true) : ∀ u ∈ (#[str a, .int .i64 i, .int .i64 j, q] : Array Value).toList, u.oneCell' = true := by
  intro u hu
  simp only [List.mem_cons, List.not_mem_nil, or_false] at hu
  rcases hu with rfl | rfl | rfl | rfl
  · rfl
  · rfl
  · rfl
  · exact h
section
variable {B : Nat} {F : Nat → Prop} {w w2 : World} {d : Nat} {pv hv : Value} {hs : List DLk} {s : StD}
/-- The counter of tokens is stored. -/
theorem DAt.setTok (h : DAt B F w d pv hv hs s) (t : Int) : DAt B F (w.setCell ⟨d, 2, none⟩ (.int .i64 t)) d pv hv hs { s with tok := t } := by
  refine ⟨?_, ?_, ?_, h.ds, fun x hx => ?_, h.ap, h.fd, h.fp, h.fh, h.fq⟩
  · have := h.blk.set 2 (.int .i64 t)
    rwa [dcells_2] at this
  · exact own_far h.pr (p := ⟨d, 2, none⟩) (own_ne_blk h.pr h.blk (by decide)) _
  · exact own_far h.lk (p := ⟨d, 2, none⟩) (own_ne_blk h.lk h.blk (by decide)) _
  · exact own_far (h.qs x hx) (p := ⟨d, 2, none⟩) (own_ne_blk (h.qs x hx) h.blk (by decide)) _
/-- Other locks are stored. -/
theorem DAt.setLocks (h : DAt B F w d pv hv hs s) (hk : Fresh w w2) {B' : Nat} (hB : B ≤ B') {hv' : Value} {hs' : List DLk} {ls' : List LockD} (ho : w2.ownsRow B' 206 4 hv' ls'.length (rcells DLk.cells hs')) (hd : hs'.map DLk.d = ls')
    (hq : ∀ x ∈ hs', w2.ownsRow B 3 1 x.q x.d.queue.length (ics x.d.queue)) (hap : hs'.Pairwise fun a b => ∀ k, a.q.ownBlock = some k → b.q.ownBlock ≠ some k) :
    DAt B (fun j => F j ∨ hv'.ownBlock = some j ∨ ∃ x ∈ hs', x.q.ownBlock = some j) (w2.setCell ⟨d, 1, none⟩ hv') d pv hv' hs' { s with locks := ls' } := by
  have hb := h.blk.keep hk trivial
  refine ⟨?_, ?_, ?_, hd, fun x hx => ?_, hap, .inl h.fd, fun k hk => .inl (h.fp k hk), fun k hk => .inr (.inl hk), fun x hx k hk => .inr (.inr ⟨x, hx, hk⟩)⟩
  · have := hb.set 1 hv'
    rwa [dcells_1] at this
  · have h1 := own_keep h.pr hk fun _ _ => trivial
    exact own_far h1 (p := ⟨d, 1, none⟩) (own_ne_blk h1 hb (by decide)) _
  · exact own_far (own_base ho hB) (p := ⟨d, 1, none⟩) (own_ne_blk ho hb (by decide)) _
  · exact own_far (hq x hx) (p := ⟨d, 1, none⟩) (own_ne_blk (hq x hx) hb (by decide)) _
theorem DAt.one (h : DAt B F w d pv hv hs s) {x : DLk} (hx : x ∈ hs) : x.q.oneCell' = true := by
  obtain ⟨_, _, e, -⟩ := own_rd (h.qs x hx)
  rw [e]
  rfl
end
set_option maxRecDepth 20000 in
theorem taken_any {B : Nat} {F : Nat → Prop} {w : World} {d : Nat} {pv hv : Value} {hs : List DLk} {s : StD} (h : DAt B F w d pv hv hs s) (nm : Txt) (c : Int) (hn : s.locks.length ≤ 1000) (hB : B ≤ w.heap.size) (ht : 0 ≤ s.tok ∧ s.tok ≤ 99999999) :
    Calls Tryz.prog 144 #[.pointer (some ⟨d, 0, none⟩), str nm, .int .i64 c] w fun e w' => e = .returned (.int .i64 (s.tok + 1)) ∧ (∃ hv' hs' F', DAt B F' w' d pv hv' hs' { s with locks := insK LockD.name ⟨nm, c, s.tok + 1, []⟩ s.locks, tok := s.tok + 1 } ∧ ∀ j, F' j → F j ∨ w.heap.size ≤ j) ∧ Keep (fun j => j ≠ d) w w' := by
  obtain ⟨n, hnn⟩ : ∃ n, n = s.locks.length := ⟨_, rfl⟩
  obtain ⟨tk, htk⟩ : ∃ t, t = s.tok := ⟨_, rfl⟩
  have hlk := h.lk
  rw [← hnn] at hlk
  obtain ⟨A, cc, rfl, hrd, -⟩ := own_rd hlk
  have hlen := h.hlen
  rw [← hnn] at hlen
  have x2 := h.three.2.2
  have z2 := h.blk.frozen 2
  have ld := h.blk.lt
  have hT := h.setTok (s.tok + 1)
  rw [← htk] at x2 ht hT ⊢
  obtain ⟨w1, hw1⟩ : ∃ w1, w1 = w.setCell ⟨d, 2, none⟩ (.int .i64 (tk + 1)) := ⟨_, rfl⟩
  rw [← hw1] at hT
  have hk1 : Keep (fun j => j ≠ d) w w1 := by rw [hw1]; exact (Keep.refl _ w).setCell (fun _ h => h rfl) _
  have hs1 : w1.heap.size = w.heap.size := by rw [hw1]; simp [World.setCell]
  have HRD0 := Lib.hid hrd
  have HA := Lib.hid (And.intro hT (And.intro hlen (And.intro hB (And.intro hk1 hs1))))
  have hn' : n ≤ 1000 := by omega
  obtain ⟨ht0, ht1⟩ := ht
  clear h hlk hrd hnn hn hlen hT hk1 hs1 hB htk
  go_enter Tryz.func144, Tryz.ntmps144
  go_upto_region 2 with (fail)
  rw [← hw1]
  have HRD : Hid (Rd w1 (fun _ => True) 4 A n (rcells DLk.cells hs)) := Lib.hid (by
    obtain ⟨A', c', e', hr', -⟩ := own_rd HA.out.1.lk
    injection e' with e1 e2 e3
    subst e1
    have h1 := hr'.weaken (Z' := fun _ => True) fun _ _ => trivial
    rw [← e2] at h1
    exact h1)
  clear hw1 x2 z2 ld
  have x2 := HA.out.1.three.2.2
  have ld := HA.out.1.blk.lt
  simp only at x2
  go_wp2_with (refine wpList_store_new rfl (.tmp 7) (.tmp 24) rfl _ #[str nm, .int .i64 c, .int .i64 (tk + 1), .slice none 0 0] _ rfl rfl rfl (by kernel_rfl) (lockA_one _ _ _ _ rfl) ?_)
  intro w3 hb3 hf3 hs3
  obtain ⟨g7, hg7⟩ : ∃ g, g = w1.heap.size := ⟨_, rfl⟩
  rw [← hg7] at hb3 ⊢
  have H3 := Lib.hid (And.intro hf3 hb3)
  clear hb3 hf3 hs3 hg7 x2
  go_wp2_with fail
  go_loopw [8, 9, 10] (fun v8 v9 iv wr => ∃ (j : Nat) (b : Bool), j ≤ n ∧ v9 = .bool b ∧ iv = .int .i64 (j : Int) ∧ Hid (b = inB DLk.key ⟨⟨nm, c, tk + 1, []⟩, .slice none 0 0⟩ (hs.take j) ∧ wr.ownsRow w3.heap.size 206 4 v8 (insT DLk.key ⟨⟨nm, c, tk + 1, []⟩, .slice none 0 0⟩ (hs.take j)).length (rcells DLk.cells (insT DLk.key ⟨⟨nm, c, tk + 1, []⟩, .slice none 0 0⟩ (hs.take j))) ∧ Fresh w3 wr)) (fun _ _ i _ => n - (intOf i).toNat)
  case atStart => exact ⟨0, false, by omega, rfl, rfl, Lib.hid ⟨rfl, by exact World.ownsRow_nil _ _ _ _, Keep.refl _ _⟩⟩
  case round =>
    rename World => wr
    obtain ⟨j, b, hj, rfl, rfl, HR⟩ := hrel
    have hfr := H3.out.1.then HR.out.2.2
    have x1 := (HA.out.1.fresh hfr).three.2.1
    have ldr : d < wr.heap.size := Nat.lt_of_lt_of_le ld hfr.size
    have hbw : w3.heap.size ≤ wr.heap.size := HR.out.2.2.size
    have HS := Lib.hid hbw
    have hb7 := H3.out.2.keep HR.out.2.2 trivial
    have n0 := hb7.cell 0; have n1 := hb7.cell 1; have n2 := hb7.cell 2; have n3 := hb7.cell 3
    simp at n0 n1 n2 n3
    have l7 := hb7.lt
    by_cases hlt : j < n
    · have hrd0 := HRD.out
      obtain ⟨hl, b8, o8, hA, -, hcw0, hcw1, hcw2, hcw3⟩ := hrd0.lockE hlt
      subst hA
      have hone := HA.out.1.one (List.getElem_mem hl)
      obtain ⟨y, hy⟩ : ∃ y, y = hs[j] := ⟨_, rfl⟩
      rw [← hy] at hcw0 hcw1 hcw2 hcw3 hone
      obtain ⟨⟨en, eh, et, eqq⟩, eq⟩ := y
      simp only at hcw0 hcw1 hcw2 hcw3 hone
      have hc0 := hfr.cellAt hcw0 trivial
      have hc1 := hfr.cellAt hcw1 trivial
      have hc2 := hfr.cellAt hcw2 trivial
      have hc3 := hfr.cellAt hcw3 trivial
      have HC := Lib.hid (And.intro hcw0 (And.intro hcw1 (And.intro hcw2 hcw3)))
      have lb := lt_of_cell hc0
      have hji : (j : Int) < (n : Int) := by omega
      have HT : Hid (hs.take (j + 1) = hs.take j ++ [⟨⟨en, eh, et, eqq⟩, eq⟩]) := Lib.hid (by rw [List.take_succ_eq_append_getElem hl, ← hy])
      have HLn : Hid ((insT DLk.key ⟨⟨nm, c, tk + 1, []⟩, .slice none 0 0⟩ (hs.take j)).length ≤ 2000) := Lib.hid (by
        unfold insT
        split
        · rw [insK_len]; have := List.length_take_le j hs; omega
        · have := List.length_take_le j hs; omega)
      clear hy hl hcw0 hcw1 hcw2 hcw3 hrd0 hbw hfr
      cases b
      · by_cases hb : bytesBefore nm en = true
        · have hlb : Op.bytesLess nm en = true := by rw [less_before]; exact hb
          have HI : Hid (insT DLk.key ⟨⟨nm, c, tk + 1, []⟩, .slice none 0 0⟩ (hs.take (j + 1)) = insT DLk.key ⟨⟨nm, c, tk + 1, []⟩, .slice none 0 0⟩ (hs.take j) ++ [⟨⟨nm, c, tk + 1, []⟩, .slice none 0 0⟩] ++ [⟨⟨en, eh, et, eqq⟩, eq⟩] ∧ inB DLk.key ⟨⟨nm, c, tk + 1, []⟩, .slice none 0 0⟩ (hs.take (j + 1)) = true) := Lib.hid (by
            rw [HT.out]
            exact ⟨insT_now (key := DLk.key) HR.out.1.symm hb, by rw [inB_snoc]; simp [hb]⟩)
          clear hb
          go_wp2_with (at_builtin; refine wpList_appB etLock rfl (.tmp 48) (.tmp 50) rfl #[str nm, .int .i64 c, .int .i64 (tk + 1), .slice none 0 0] 206 rfl (lockL_one _ _ _ _ rfl) w3.heap.size _ _ _ wr.heap.size rfl rfl rfl HR.out.2.1 (by have := HLn.out; omega) HS.out ?_)
          intro v4 w4 ho4 hk4 hn4
          have hf4 : Fresh w3 w4 := HR.out.2.2.comp hk4 (fun _ _ h => h) (fun i hi _ e => by have := (own_lt HR.out.2.1 e).1; omega)
          have hfr := H3.out.1.then hf4
          have x1 := (HA.out.1.fresh hfr).three.2.1
          have ldr : d < w4.heap.size := Nat.lt_of_lt_of_le ld hfr.size
          have hc0 := hfr.cellAt HC.out.1 trivial
          have hc1 := hfr.cellAt HC.out.2.1 trivial
          have hc2 := hfr.cellAt HC.out.2.2.1 trivial
          have hc3 := hfr.cellAt HC.out.2.2.2 trivial
          have lb := lt_of_cell hc0
          have H4 := Lib.hid (And.intro ho4 hf4)
          clear ho4 hk4 hn4 hf4 hfr
          go_wp2_with (at_builtin; refine wpList_appB etLock rfl (.tmp 52) (.tmp 60) rfl #[str en, .int .i64 eh, .int .i64 et, eq] 206 rfl (lockL_one _ _ _ _ hone) w3.heap.size _ _ _ w4.heap.size rfl rfl rfl H4.out.1 (by have := HLn.out; omega) H4.out.2.size ?_)
          intro v5 w5 ho5 hk5 hn5
          have H5 : Hid (w5.ownsRow w3.heap.size 206 4 v5 (insT DLk.key ⟨⟨nm, c, tk + 1, []⟩, .slice none 0 0⟩ (hs.take (j + 1))).length (rcells DLk.cells (insT DLk.key ⟨⟨nm, c, tk + 1, []⟩, .slice none 0 0⟩ (hs.take (j + 1)))) ∧ Fresh w3 w5) := Lib.hid ⟨by
            rw [HI.out.1]
            simpa [rcells_append, rcells_cons, rcells_nil, DLk.cells] using ho5, H4.out.2.comp hk5 (fun _ _ h => h) (fun i hi _ e => by have := (own_lt H4.out.1 e).1; omega)⟩
          clear ho5 hk5 hn5
          go_wp2_with fail
          exact ⟨⟨j + 1, true, by omega, rfl, by simp, Lib.hid ⟨HI.out.2.symm, H5.out⟩⟩, by simp only [intOf]; omega⟩
        · have hlb : Op.bytesLess nm en = false := by rw [less_before]; simpa using hb
          have HI : Hid (insT DLk.key ⟨⟨nm, c, tk + 1, []⟩, .slice none 0 0⟩ (hs.take (j + 1)) = insT DLk.key ⟨⟨nm, c, tk + 1, []⟩, .slice none 0 0⟩ (hs.take j) ++ [⟨⟨en, eh, et, eqq⟩, eq⟩] ∧ inB DLk.key ⟨⟨nm, c, tk + 1, []⟩, .slice none 0 0⟩ (hs.take (j + 1)) = false) := Lib.hid (by
            rw [HT.out]
            exact ⟨insT_out (key := DLk.key) HR.out.1.symm (by simpa using hb), by rw [inB_snoc, ← HR.out.1]; simpa using hb⟩)
          clear hb
          go_wp2_with (at_builtin; refine wpList_appB etLock rfl (.tmp 52) (.tmp 60) rfl #[str en, .int .i64 eh, .int .i64 et, eq] 206 rfl (lockL_one _ _ _ _ hone) w3.heap.size _ _ _ wr.heap.size rfl rfl rfl HR.out.2.1 (by have := HLn.out; omega) HS.out ?_)
          intro v5 w5 ho5 hk5 hn5
          have H5 : Hid (w5.ownsRow w3.heap.size 206 4 v5 (insT DLk.key ⟨⟨nm, c, tk + 1, []⟩, .slice none 0 0⟩ (hs.take (j + 1))).length (rcells DLk.cells (insT DLk.key ⟨⟨nm, c, tk + 1, []⟩, .slice none 0 0⟩ (hs.take (j + 1)))) ∧ Fresh w3 w5) := Lib.hid ⟨by
            rw [HI.out.1]
            simpa [rcells_append, rcells_cons, rcells_nil, DLk.cells] using ho5, HR.out.2.2.comp hk5 (fun _ _ h => h) (fun i hi _ e => by have := (own_lt HR.out.2.1 e).1; omega)⟩
          clear ho5 hk5 hn5
          go_wp2_with fail
          exact ⟨⟨j + 1, false, by omega, rfl, by simp, Lib.hid ⟨HI.out.2.symm, H5.out⟩⟩, by simp only [intOf]; omega⟩
      · have HI : Hid (insT DLk.key ⟨⟨nm, c, tk + 1, []⟩, .slice none 0 0⟩ (hs.take (j + 1)) = insT DLk.key ⟨⟨nm, c, tk + 1, []⟩, .slice none 0 0⟩ (hs.take j) ++ [⟨⟨en, eh, et, eqq⟩, eq⟩] ∧ inB DLk.key ⟨⟨nm, c, tk + 1, []⟩, .slice none 0 0⟩ (hs.take (j + 1)) = true) := Lib.hid (by
          rw [HT.out]
          exact ⟨insT_in (key := DLk.key) HR.out.1.symm, by rw [inB_snoc, ← HR.out.1]; rfl⟩)
        go_wp2_with (at_builtin; refine wpList_appB etLock rfl (.tmp 52) (.tmp 60) rfl #[str en, .int .i64 eh, .int .i64 et, eq] 206 rfl (lockL_one _ _ _ _ hone) w3.heap.size _ _ _ wr.heap.size rfl rfl rfl HR.out.2.1 (by have := HLn.out; omega) HS.out ?_)
        intro v5 w5 ho5 hk5 hn5
        have H5 : Hid (w5.ownsRow w3.heap.size 206 4 v5 (insT DLk.key ⟨⟨nm, c, tk + 1, []⟩, .slice none 0 0⟩ (hs.take (j + 1))).length (rcells DLk.cells (insT DLk.key ⟨⟨nm, c, tk + 1, []⟩, .slice none 0 0⟩ (hs.take (j + 1)))) ∧ Fresh w3 w5) := Lib.hid ⟨by
          rw [HI.out.1]
          simpa [rcells_append, rcells_cons, rcells_nil, DLk.cells] using ho5, HR.out.2.2.comp hk5 (fun _ _ h => h) (fun i hi _ e => by have := (own_lt HR.out.2.1 e).1; omega)⟩
        clear ho5 hk5 hn5
        go_wp2_with fail
        exact ⟨⟨j + 1, true, by omega, rfl, by simp, Lib.hid ⟨HI.out.2.symm, H5.out⟩⟩, by simp only [intOf]; omega⟩
    · obtain rfl : n = j := by omega
      have HE : Hid (hs.take n = hs) := Lib.hid (List.take_of_length_le (by rw [HA.out.2.1]; exact Nat.le_refl _))
      have HLn : Hid ((insT DLk.key ⟨⟨nm, c, tk + 1, []⟩, .slice none 0 0⟩ (hs.take n)).length ≤ 2000) := Lib.hid (by
        unfold insT
        split
        · rw [insK_len]; have := List.length_take_le n hs; omega
        · have := List.length_take_le n hs; omega)
      have hfin : ∀ w5 v5, Fresh w3 w5 → w5.ownsRow w3.heap.size 206 4 v5 (insK DLk.key ⟨⟨nm, c, tk + 1, []⟩, .slice none 0 0⟩ hs).length (rcells DLk.cells (insK DLk.key ⟨⟨nm, c, tk + 1, []⟩, .slice none 0 0⟩ hs)) → (∃ hv' hs' F', DAt B F' (w5.setCell ⟨d, 1, none⟩ v5) d pv hv' hs' { s with locks := insK LockD.name ⟨nm, c, tk + 1, []⟩ s.locks, tok := tk + 1 } ∧ ∀ j, F' j → F j ∨ w.heap.size ≤ j) ∧ Keep (fun j => j ≠ d) w (w5.setCell ⟨d, 1, none⟩ v5) := fun w5 v5 hf ho => by
        have hf15 := H3.out.1.then hf
        have hd : (insK DLk.key ⟨⟨nm, c, tk + 1, []⟩, .slice none 0 0⟩ hs).map DLk.d = insK LockD.name ⟨nm, c, tk + 1, []⟩ s.locks := by rw [dlk_ins, HA.out.1.ds]
        have hl : (insK DLk.key ⟨⟨nm, c, tk + 1, []⟩, .slice none 0 0⟩ hs).length = (insK LockD.name ⟨nm, c, tk + 1, []⟩ s.locks).length := by rw [← hd, List.length_map]
        rw [hl] at ho
        have hwN : w.heap.size ≤ w3.heap.size := by have := H3.out.1.size; have := HA.out.2.2.2.2; omega
        refine ⟨⟨_, _, _, HA.out.1.setLocks hf15 (Nat.le_trans HA.out.2.2.1 hwN) ho hd (fun x hx => ?_) (pair_ins (fun y hy => ⟨fun k hk => by (simp [Value.ownBlock] at hk), fun k hk e => by (simp [Value.ownBlock] at e)⟩) HA.out.1.ap), fun j hj => ?_⟩, (HA.out.2.2.2.1.comp hf15 (fun _ _ h => h) (fun _ _ _ => trivial)).setCell (fun _ h => h rfl) _⟩
        · rcases insK_mem.1 hx with rfl | hx
          · exact World.ownsRow_nil _ _ _ _
          · exact own_keep (HA.out.1.qs x hx) hf15 fun _ _ => trivial
        · rcases hj with hj | hj | ⟨x, hx, hj⟩
          · exact .inl hj
          · exact .inr (Nat.le_trans hwN (own_lt ho hj).1)
          · rcases insK_mem.1 hx with rfl | hx
            · simp [Value.ownBlock] at hj
            · exact .inl (HA.out.1.fq x hx j hj)
      have HF := Lib.hid hfin
      have hzd : ∀ w5, Fresh w3 w5 → w5.frozen? ⟨d, 1, none⟩ = false ∧ (∃ u, w5.cell? ⟨d, 1, none⟩ = some u) ∧ w5.cell? ⟨d, 2, none⟩ = some (.int .i64 (tk + 1)) ∧ d < w5.heap.size := fun w5 hf => ⟨(HA.out.1.fresh (H3.out.1.then hf)).blk.frozen 1, ⟨_, (HA.out.1.fresh (H3.out.1.then hf)).three.2.1⟩, (HA.out.1.fresh (H3.out.1.then hf)).three.2.2, Nat.lt_of_lt_of_le ld (H3.out.1.then hf).size⟩
      have HZ := Lib.hid hzd
      clear hfin hzd hfr hbw
      cases b
      · have hE : insK DLk.key ⟨⟨nm, c, tk + 1, []⟩, .slice none 0 0⟩ hs = insT DLk.key ⟨⟨nm, c, tk + 1, []⟩, .slice none 0 0⟩ (hs.take n) ++ [⟨⟨nm, c, tk + 1, []⟩, .slice none 0 0⟩] := by
          have h1 := HR.out.1
          rw [HE.out] at h1 ⊢
          rw [insT_end, if_neg (by rw [← h1]; simp)]
        have HI := Lib.hid hE
        clear hE
        go_wp2_with (at_builtin; refine wpList_appB etLock rfl (.tmp 64) (.tmp 66) rfl #[str nm, .int .i64 c, .int .i64 (tk + 1), .slice none 0 0] 206 rfl (lockL_one _ _ _ _ rfl) w3.heap.size _ _ _ wr.heap.size rfl rfl rfl HR.out.2.1 (by have := HLn.out; omega) HS.out ?_)
        intro v2 w2 ho2 hk2 hn2
        have hf2 : Fresh w3 w2 := HR.out.2.2.comp hk2 (fun _ _ h => h) (fun i hi _ e => by have := (own_lt HR.out.2.1 e).1; omega)
        have ho3 : w2.ownsRow w3.heap.size 206 4 v2 (insK DLk.key ⟨⟨nm, c, tk + 1, []⟩, .slice none 0 0⟩ hs).length (rcells DLk.cells (insK DLk.key ⟨⟨nm, c, tk + 1, []⟩, .slice none 0 0⟩ hs)) := by
          rw [HI.out]
          simpa [rcells_append, rcells_cons, rcells_nil, DLk.cells] using ho2
        obtain ⟨A2, c2, rfl, -⟩ := own_rd ho3
        obtain ⟨z0, ⟨u0, x0⟩, x2, l0⟩ := HZ.out w2 hf2
        have H2 := Lib.hid (HF.out w2 _ hf2 ho3)
        clear ho2 hk2 hn2 hf2 ho3
        go_wp2_with fail
        go_ret
        exact ⟨rfl, H2.out⟩
      · have hE : insK DLk.key ⟨⟨nm, c, tk + 1, []⟩, .slice none 0 0⟩ hs = insT DLk.key ⟨⟨nm, c, tk + 1, []⟩, .slice none 0 0⟩ (hs.take n) := by
          have h1 := HR.out.1
          rw [HE.out] at h1 ⊢
          rw [insT_end, if_pos (by rw [← h1])]
        have ho := HR.out.2.1
        rw [← hE] at ho
        obtain ⟨A2, c2, rfl, -⟩ := own_rd ho
        obtain ⟨z0, ⟨u0, x0⟩, x2, l0⟩ := HZ.out wr HR.out.2.2
        have H2 := Lib.hid (HF.out wr _ HR.out.2.2 ho)
        clear ho hE
        go_wp2_with fail
        go_ret
        exact ⟨rfl, H2.out⟩
end Go.Proofs.YtohnmaindbgngaaGreatDoor
