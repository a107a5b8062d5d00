/-
  MERGED: Ops Sum Writer Snap
-/
import Derived.Test.YtlibhkehebioeaaGreatDoorF11
import Derived.Test.YtlibhkehebioeaaGreatDoorF8
import Derived.Test.YtlibhkehebioeaaGreatDoorF1
import Derived.Test.YtlibhkehebioeaaGreatDoorF2
import Derived.Test.YtlibhkehebioeaaGreatDoorF9
import Derived.Lib.LaidTab
import Derived.Lib.AppendStr
import Derived.Test.YtlibhkehebioeaaGreatDoorF10
import Derived.Deep.RegionHeld3
import Derived.RegionCalls
namespace Go.Proofs.YtlibhkehebioeaaGreatDoor
set_option linter.unusedVariables false
set_option linter.unusedSimpArgs false
open Go.RowKit

section
variable {S S' : Nat → Prop} {w w' : World} {m bp bl g : Nat} {s : StD} {t : TypeId} {cs : Array Value}
theorem Lks.other {ms : List LkM} {ls : List LockD} (h : Lks S w bl ms ls) (hg : Blk w g t cs) (h1 : t ≠ 101) (h2 : t ≠ 3) (hk : Keep (fun j => j ≠ g) w w') : Lks S w' bl ms ls :=
  ⟨h.map.keep hk (h.map.ne_blk hg), fun x hx => (h.each x hx).keep hk (fun e => Blk.ne (h.each x hx).blk hg h1.symm e) (fun k hk2 e => (h.each x hx).row.ne_blk hg h2.symm (by rw [← e]; exact hk2)), h.apart, h.data, h.sb⟩
theorem MSt.other (h : MSt S w m bp bl s) (hg : Blk w g t cs) (h0 : t ≠ 91) (h1 : t ≠ 101) (h2 : t ≠ 3) (hk : Keep (fun j => j ≠ g) w w') : MSt S w' m bp bl s := by
  obtain ⟨ms, hl⟩ := h.lk
  exact ⟨h.blk.keep hk (fun e => Blk.ne h.blk hg h0.symm e), h.len, h.pm.keep hk (h.pm.ne_blk hg), ⟨ms, hl.other hg h1 h2 hk⟩, h.nm, h.nb⟩
end
theorem MSt.tight {S : Nat → Prop} {w : World} {m bp bl : Nat} {s : StD} (h : MSt S w m bp bl s) : MSt (fun j => S j ∧ j < w.heap.size) w m bp bl s := by
  obtain ⟨ms, hl⟩ := h.lk
  exact ⟨h.blk, h.len, h.pm, ⟨ms, hl.tight⟩, fun e => h.nm e.1, fun e => h.nb e.1⟩
abbrev resA (R : MRes) : Array Value := #[.int .i64 R.code, str R.val, .int .i64 R.n]
def resStored (w : World) (g : Nat) (R : MRes) : World := ((w.setCell ⟨g, 0, none⟩ (.int .i64 R.code)).setCell ⟨g, 1, none⟩ (str R.val)).setCell ⟨g, 2, none⟩ (.int .i64 R.n)
theorem res_keep {Z : Nat → Prop} {w0 w : World} {g : Nat} (h : Keep Z w0 w) (hg : g < w0.heap.size → ¬ Z g) (R : MRes) : Keep Z w0 (resStored w g R) := ((h.setCell hg _).setCell hg _).setCell hg _
theorem res_blk {w : World} {g : Nat} {R0 : MRes} (h : Blk w g 33 (resA R0)) (R : MRes) : Blk (resStored w g R) g 33 (resA R) := ((h.set 0 (.int .i64 R.code)).set 1 (str R.val)).set 2 (.int .i64 R.n)
theorem res_facts {w : World} {g : Nat} {R : MRes} (h : Blk w g 33 (resA R)) : w.cell? ⟨g, 0, none⟩ = some (.int .i64 R.code) ∧ w.cell? ⟨g, 1, none⟩ = some (str R.val) ∧ w.cell? ⟨g, 2, none⟩ = some (.int .i64 R.n) ∧
    w.frozen? ⟨g, 0, none⟩ = false ∧ w.frozen? ⟨g, 1, none⟩ = false ∧ w.frozen? ⟨g, 2, none⟩ = false ∧ g < w.heap.size := by
  have h0 := h.cell 0
  have h1 := h.cell 1
  have h2 := h.cell 2
  simp at h0 h1 h2
  exact ⟨h0, h1, h2, h.frozen 0, h.frozen 1, h.frozen 2, h.lt⟩
/-- What an operation does: its result, the machine behind it, what it kept. -/
structure OpPost (S : Nat → Prop) (m bp bl : Nat) (x : ResD × StD) (w : World) (e : Ending) (w' : World) : Prop where
  ret : e = .returned (resV x.1)
  st : MSt (fun j => S j ∨ w.heap.size ≤ j) w' m bp bl x.2
  keep : Keep (fun j => j ≠ m ∧ j ≠ bp ∧ ¬ S j) w w'
/-- Where an operation begins: the command and the result have blocks of their own. -/
structure OpAt (w W : World) (G : Nat) (c i r o : Int) (k v d : Txt) : Prop where
  fresh : Fresh w W
  cmd : Blk W G 30 #[.int .i64 c, .int .i64 i, .int .i64 r, .int .i64 o, str k, str v, str d]
  res : Blk W (G + 1) 33 (resA ⟨0, [], 0⟩)
  sz : G = w.heap.size
theorem op_at (w : World) (c i r o : Int) (k v d : Txt) : OpAt w ((w.alloc (.cells #[.int .i64 c, .int .i64 i, .int .i64 r, .int .i64 o, str k, str v, str d] 30)).alloc (.cells #[.int .i64 0, str [], .int .i64 0] 33)) w.heap.size c i r o k v d :=
  ⟨((Keep.refl _ w).alloc _).alloc _, (Blk.new _ _ _).alloc _, Blk.newAt (by simp), rfl⟩
theorem OpAt.cells {w W : World} {G : Nat} {c i r o : Int} {k v d : Txt} (h : OpAt w W G c i r o k v d) : W.cell? ⟨G, 0, none⟩ = some (.int .i64 c) ∧ W.cell? ⟨G, 4, none⟩ = some (str k) ∧ W.cell? ⟨G, 5, none⟩ = some (str v) ∧ W.cell? ⟨G, 6, none⟩ = some (str d) ∧ G < W.heap.size := by
  have h0 := h.cmd.cell 0
  have h4 := h.cmd.cell 4
  have h5 := h.cmd.cell 5
  have h6 := h.cmd.cell 6
  simp at h0 h4 h5 h6
  exact ⟨h0, h4, h5, h6, h.cmd.lt⟩
/-- The end of an operation's walk. -/
theorem op_ret {fn : Func} (hfn : fn.results = #[.cell 4 33]) {a : Act} {g : Nat} (ha : a.tmps.getD 4 undef = .pointer (some ⟨g, 0, none⟩)) (hd : a.defers = []) {S S1 : Nat → Prop} {w wx : World} {m bp bl : Nat} {x : ResD × StD} {R0 : MRes}
    (hm : MSt S1 wx m bp bl x.2) (hS : ∀ j, S1 j → S j ∨ w.heap.size ≤ j) (hm0 : m < w.heap.size) (hb0 : bp < w.heap.size) (hn1 : ¬ S m) (hn2 : ¬ S bp) (hb : Blk wx g 33 (resA R0)) (hg : w.heap.size ≤ g) (hk : Keep (fun j => j ≠ m ∧ j ≠ bp ∧ ¬ S j) w wx) :
    bodyPost Tryz.prog fn (OpPost S m bp bl x w) Exit.ret a (resStored wx g x.1) := by
  refine bodyPost_ret (results_one hfn _ _ g 33 (resA x.1) _ ha (res_blk hb x.1) Tryz.underlying33 rfl (by kernel_rfl)) hd ⟨rfl, ?_, res_keep hk (fun h => absurd h (by omega)) _⟩
  exact (hm.other hb (by decide) (by decide) (by decide) (res_keep (Keep.refl _ wx) (fun _ h => h rfl) _)).widen hS (fun h => h.elim hn1 fun h => by omega) (fun h => h.elim hn2 fun h => by omega)

/-- .. and something was made behind it. -/
theorem op_ret2 {fn : Func} (hfn : fn.results = #[.cell 4 33]) {a : Act} {g : Nat} (ha : a.tmps.getD 4 undef = .pointer (some ⟨g, 0, none⟩)) (hd : a.defers = []) {S S1 : Nat → Prop} {w wx wy : World} {m bp bl : Nat} {x : ResD × StD} {R0 : MRes}
    (hm : MSt S1 wx m bp bl x.2) (hS : ∀ j, S1 j → S j ∨ w.heap.size ≤ j) (hm0 : m < w.heap.size) (hb0 : bp < w.heap.size) (hn1 : ¬ S m) (hn2 : ¬ S bp) (hb : Blk wx g 33 (resA R0)) (hg : w.heap.size ≤ g) (hk : Keep (fun j => j ≠ m ∧ j ≠ bp ∧ ¬ S j) w wx) (hf : Fresh (resStored wx g x.1) wy) :
    bodyPost Tryz.prog fn (OpPost S m bp bl x w) Exit.ret a wy := by
  refine bodyPost_ret (results_one hfn _ _ g 33 (resA x.1) _ ha ((res_blk hb x.1).keep hf trivial) Tryz.underlying33 rfl (by kernel_rfl)) hd ⟨rfl, ?_, (res_keep hk (fun h => absurd h (by omega)) _).comp hf (fun _ _ h => h) (fun _ _ _ => trivial)⟩
  exact ((hm.other hb (by decide) (by decide) (by decide) (res_keep (Keep.refl _ wx) (fun _ h => h rfl) _)).fresh hf).widen hS (fun h => h.elim hn1 fun h => by omega) (fun h => h.elim hn2 fun h => by omega)
theorem pfindD_none {k : Txt} {ps : Ps} (h : pfind k ps = none) : pfindD k ps = none := by
  rw [pfind_eq] at h
  simpa using h
theorem pfindD_some {k u : Txt} {ps : Ps} (h : pfind k ps = some u) : ∃ a, pfindD k ps = some (a, u) := by
  rw [pfind_eq] at h
  obtain ⟨⟨a, b⟩, h1, h2⟩ := Option.map_eq_some_iff.1 h
  simp only at h2
  subst h2
  exact ⟨a, h1⟩
set_option maxRecDepth 20000 in
theorem getop_any (ita : Int → Txt) (S : Nat → Prop) (m bp bl : Nat) (s : StD) (c i r : Int) (k v d : Txt) (w : World) (hm : MSt S w m bp bl s) (hk : k.length ≤ 8) :
    Calls Tryz.prog 74 #[.pointer (some ⟨m, 0, none⟩), cmdV c i r 2 k v d] w (OpPost S m bp bl (onKeyD numb ita 2 k v d s) w) := by
  obtain ⟨X, hX⟩ : ∃ X, X = onKeyD numb ita 2 k v d s := ⟨_, rfl⟩
  rw [← hX]
  have HO := Lib.hid (op_at w c i r 2 k v d)
  obtain ⟨G, hG⟩ : ∃ G, G = w.heap.size := ⟨_, rfl⟩
  obtain ⟨W, hW⟩ : ∃ W, W = (w.alloc (.cells #[.int .i64 c, .int .i64 i, .int .i64 r, .int .i64 2, str k, str v, str d] 30)).alloc (.cells #[.int .i64 0, str [], .int .i64 0] 33) := ⟨_, rfl⟩
  rw [← hW, ← hG] at HO
  obtain ⟨k0, k4, k5, k6, kl⟩ := HO.out.cells
  have hmW := hm.fresh HO.out.fresh
  obtain ⟨x0, -, -⟩ := hmW.three
  have hmlt := hmW.blk.lt
  have hml := hm.blk.lt
  have hbl := hm.pm.lt
  have hlk := look_str hmW.pm (l := k) (by omega)
  have HA := Lib.hid (And.intro hm (And.intro hmW hX))
  clear hm hmW hX
  go_enter Tryz.func74, Tryz.ntmps74
  go_wp2_with fail
  simp only [← hG]
  rw [← hW]
  clear hW hG
  go_quiet (fail)
  have HD := Lib.hid (fun l n => done_any l n (W.drewN nq))
  have HC := Lib.hid (fun n => code_any n (W.drewN nq))
  have HQ := Lib.hid (show Fresh W (W.drewN nq) from (Keep.refl _ W).drewN nq)
  cases hpf : pfind k s.pairs with
  | none =>
    rw [hpf] at hlk
    go_wp2_with fail
    refine (HC.out _).mono ?_
    rintro e W4 ⟨rfl, f4⟩
    have HF := Lib.hid (HQ.out.trans f4)
    obtain ⟨r0, r1, r2, s0, s1, s2, rl⟩ := res_facts (HO.out.res.keep HF.out trivial)
    clear f4 HC HD HQ
    go_wp2_with fail
    obtain ⟨hm, hmW, hX⟩ := HA.out
    have e : X = (⟨2, [], 0⟩, s) := by rw [hX]; unfold onKeyD; rw [pfindD_none hpf]; simp
    rw [e]
    exact op_ret rfl rfl rfl (hmW.fresh HF.out) (fun j h => .inl h) hml hbl hm.nm hm.nb (HO.out.res.keep HF.out trivial) (by have := HO.out.sz; omega) ((HO.out.fresh.trans HF.out).weaken fun _ _ _ => trivial)
  | some u =>
    rw [hpf] at hlk
    go_wp2_with fail
    refine (HD.out u 1).mono ?_
    rintro e W4 ⟨rfl, f4⟩
    have HF := Lib.hid (HQ.out.trans f4)
    obtain ⟨r0, r1, r2, s0, s1, s2, rl⟩ := res_facts (HO.out.res.keep HF.out trivial)
    clear f4 HC HD HQ
    go_wp2_with fail
    obtain ⟨hm, hmW, hX⟩ := HA.out
    obtain ⟨a, ha⟩ := pfindD_some hpf
    have e : X = (⟨1, u, 1⟩, s) := by rw [hX]; unfold onKeyD; rw [ha]; simp
    rw [e]
    exact op_ret rfl rfl rfl (hmW.fresh HF.out) (fun j h => .inl h) hml hbl hm.nm hm.nb (HO.out.res.keep HF.out trivial) (by have := HO.out.sz; omega) ((HO.out.fresh.trans HF.out).weaken fun _ _ _ => trivial)

set_option maxRecDepth 20000 in
theorem fence_any (S : Nat → Prop) (m bp bl : Nat) (s : StD) (c i r : Int) (k v d : Txt) (w : World) (hm : MSt S w m bp bl s) (hk : k.length ≤ 8) (hT : Tabs w) (hv : v.length ≤ 8) :
    Calls Tryz.prog 80 #[.pointer (some ⟨m, 0, none⟩), cmdV c i r 8 k v d] w (OpPost S m bp bl (onLockD numb c 8 k v s) w) := by
  obtain ⟨X, hX⟩ : ∃ X, X = onLockD numb c 8 k v s := ⟨_, rfl⟩
  rw [← hX]
  have HO := Lib.hid (op_at w c i r 8 k v d)
  obtain ⟨G, hG⟩ : ∃ G, G = w.heap.size := ⟨_, rfl⟩
  obtain ⟨W, hW⟩ : ∃ W, W = (w.alloc (.cells #[.int .i64 c, .int .i64 i, .int .i64 r, .int .i64 8, str k, str v, str d] 30)).alloc (.cells #[.int .i64 0, str [], .int .i64 0] 33) := ⟨_, rfl⟩
  rw [← hW, ← hG] at HO
  obtain ⟨k0, k4, k5, k6, kl⟩ := HO.out.cells
  have hmW := hm.fresh HO.out.fresh
  obtain ⟨-, x1, -⟩ := hmW.three
  have hmlt := hmW.blk.lt
  have hml := hm.blk.lt
  have hbl := hm.pm.lt
  have HN := Lib.hid (fun q => number_any v (W.drewN q) (hT.fresh (HO.out.fresh.drewN q)))
  have HA := Lib.hid (And.intro hm (And.intro hmW hX))
  obtain ⟨ms, hls⟩ := hmW.lk
  have HLS := Lib.hid hls
  clear hm hmW hX hT
  cases hf : lfind k s.locks with
  | none =>
    have hlk := look_lk hls (k := k) (by omega) _ (show _ = .pointer none by rw [hls.gone hf]; rfl)
    clear hls
    go_enter Tryz.func80, Tryz.ntmps80
    go_wp2_with fail
    simp only [← hG]
    rw [← hW]
    clear hW hG
    go_quiet (fail)
    have HC := Lib.hid (fun n => code_any n (W.drewN nq))
    have HQ := Lib.hid (show Fresh W (W.drewN nq) from (Keep.refl _ W).drewN nq)
    go_wp2_with fail
    refine (HC.out _).mono ?_
    rintro e W4 ⟨rfl, f4⟩
    have HF := Lib.hid (HQ.out.trans f4)
    obtain ⟨r0, r1, r2, s0, s1, s2, rl⟩ := res_facts (HO.out.res.keep HF.out trivial)
    clear f4 HC HQ
    go_wp2_with fail
    obtain ⟨hm, hmW, hX⟩ := HA.out
    have e : X = (⟨2, [], 0⟩, s) := by rw [hX]; unfold onLockD; rw [hf]; simp
    rw [e]
    exact op_ret rfl rfl rfl (hmW.fresh HF.out) (fun j h => .inl h) hml hbl hm.nm hm.nb (HO.out.res.keep HF.out trivial) (by have := HO.out.sz; omega) ((HO.out.fresh.trans HF.out).weaken fun _ _ _ => trivial)
  | some l =>
    obtain ⟨x, hx, hxl, hxk, hxi, hxf⟩ := lk_find hls hf
    obtain ⟨-, y1, -⟩ := hxi.cells
    rw [hxl] at y1
    have hlk := look_lk hls (k := k) (by omega) _ hxf
    obtain ⟨h, hh⟩ : ∃ h, h = x.h := ⟨_, rfl⟩
    rw [← hh] at y1 hlk
    have hhl := hxi.lt
    rw [← hh] at hhl
    clear hls hx hxl hxk hxi hxf hh
    go_enter Tryz.func80, Tryz.ntmps80
    go_wp2_with fail
    simp only [← hG]
    rw [← hW]
    clear hW hG
    go_quiet (fail)
    go_wp2_with fail
    refine (HN.out _).mono ?_
    rintro e W3 ⟨rfl, f3⟩
    have f3' : Fresh W W3 := ((Keep.refl _ W).drewN nq).trans f3
    have z1 := f3'.cellAt y1 trivial
    have hhl3 : h < W3.heap.size := Nat.lt_of_lt_of_le hhl f3'.size
    have HF3 := Lib.hid f3'
    obtain ⟨r0, r1, r2, s0, s1, s2, rl⟩ := res_facts (HO.out.res.keep f3' trivial)
    have HD := Lib.hid (fun l n => done_any l n W3)
    obtain ⟨nv, hnv⟩ : ∃ z, z = (numb v).1 := ⟨_, rfl⟩
    obtain ⟨tk, htk⟩ : ∃ z, z = l.token := ⟨_, rfl⟩
    rw [← htk] at z1
    rw [← hnv]
    have HV := Lib.hid (And.intro hnv htk)
    clear hnv htk f3 f3' HN y1 x1
    by_cases hne : nv = tk
    · subst hne
      clear r0 r1 r2 s0 s1 s2 rl
      go_wp2_with fail
      refine (HD.out _ _).mono ?_
      rintro e W4 ⟨rfl, f4⟩
      have HF := Lib.hid (HF3.out.trans f4)
      obtain ⟨r0, r1, r2, s0, s1, s2, rl⟩ := res_facts (HO.out.res.keep HF.out trivial)
      clear f4 HD
      go_wp2_with fail
      obtain ⟨hm, hmW, hX⟩ := HA.out
      have e : X = (⟨1, [], nv⟩, s) := by rw [hX]; unfold onLockD; rw [hf]; simp only; rw [if_neg (by omega), if_neg (by omega), ← HV.out.1, ← HV.out.2, if_pos rfl]
      rw [e]
      exact op_ret rfl rfl rfl (hmW.fresh HF.out) (fun j h => .inl h) hml hbl hm.nm hm.nb (HO.out.res.keep HF.out trivial) (by have := HO.out.sz; omega) ((HO.out.fresh.trans HF.out).weaken fun _ _ _ => trivial)
    · go_wp2_with fail
      obtain ⟨hm, hmW, hX⟩ := HA.out
      have e : X = (⟨9, [], tk⟩, s) := by rw [hX]; unfold onLockD; rw [hf]; simp only; rw [if_neg (by omega), if_neg (by omega), ← HV.out.1, ← HV.out.2, if_neg hne]
      rw [e]
      exact op_ret rfl rfl rfl (hmW.fresh HF3.out) (fun j h => .inl h) hml hbl hm.nm hm.nb (HO.out.res.keep HF3.out trivial) (by have := HO.out.sz; omega) ((HO.out.fresh.trans HF3.out).weaken fun _ _ _ => trivial)

set_option maxRecDepth 20000 in
theorem end_any (S : Nat → Prop) (m bp bl : Nat) (s : StD) (c i r : Int) (k v d : Txt) (w : World) (hm : MSt S w m bp bl s) (hi : LInv s.locks s.tok) (hT : Tabs w) (he : 0 ≤ (numb v).1 ∧ (numb v).1 < 16) :
    Calls Tryz.prog 81 #[.pointer (some ⟨m, 0, none⟩), cmdV c i r 9 k v d] w (OpPost S m bp bl (endD numb v s) w) := by
  obtain ⟨X, hX⟩ : ∃ X, X = endD numb v s := ⟨_, rfl⟩
  rw [← hX]
  have HO := Lib.hid (op_at w c i r 9 k v d)
  obtain ⟨G, hG⟩ : ∃ G, G = w.heap.size := ⟨_, rfl⟩
  obtain ⟨W, hW⟩ : ∃ W, W = (w.alloc (.cells #[.int .i64 c, .int .i64 i, .int .i64 r, .int .i64 9, str k, str v, str d] 30)).alloc (.cells #[.int .i64 0, str [], .int .i64 0] 33) := ⟨_, rfl⟩
  rw [← hW, ← hG] at HO
  obtain ⟨k0, k4, k5, k6, kl⟩ := HO.out.cells
  have hmW := hm.fresh HO.out.fresh
  have hmlt := hmW.blk.lt
  have hml := hm.blk.lt
  have hbl := hm.pm.lt
  have HN := Lib.hid (number_any v W (hT.fresh HO.out.fresh))
  obtain ⟨q, hq⟩ : ∃ q : Nat, q = (numb v).1.toNat := ⟨_, rfl⟩
  have hq16 : q < 16 := by omega
  have hqi : (numb v).1 = (q : Int) := by omega
  rw [hqi] at HN
  have hqs : q < s.ss.length := by rw [hm.len]; exact hq16
  have hc1 : W.cell? ⟨m, 3 + q * 5, none⟩ = some (.int .i64 (s.ss.getD q noSes).inc) := by
    rw [hmW.cell]
    have := mcell_sess (bp := bp) (bl := bl) (tok := s.tok) (ss := s.ss) hqs (j := 0) (by omega)
    rw [Nat.add_zero] at this
    rw [this, List.getD_eq_getElem?_getD, List.getElem?_eq_getElem hqs]
    rfl
  obtain ⟨zi, hzi⟩ : ∃ z, z = (s.ss.getD q noSes).inc := ⟨_, rfl⟩
  rw [← hzi] at hc1
  have HA := Lib.hid (And.intro hm (And.intro hmW (And.intro hX (And.intro hi (And.intro hqi hzi)))))
  have hqi16 : (q : Int) < 16 := by omega
  clear hm hmW hX hT hi hq he hqi hzi hqs
  go_enter Tryz.func81, Tryz.ntmps81
  go_wp2_with fail
  simp only [← hG]
  rw [← hW]
  clear hW hG
  refine HN.out.mono ?_
  rintro e W3 ⟨rfl, f3⟩
  have z1 := f3.cellAt hc1 trivial
  have hml3 : m < W3.heap.size := Nat.lt_of_lt_of_le hmlt f3.size
  have HF3 := Lib.hid f3
  have HC := Lib.hid (fun n => code_any n W3)
  have HL := Lib.hid (lets_any (fun j => S j ∧ j < w.heap.size) m bp bl s (q : Int) W3 ((HA.out.1.tight.fresh HO.out.fresh).fresh f3) HA.out.2.2.2.1)
  clear f3 HN hc1
  by_cases h0 : zi = 0
  · subst h0
    go_wp2_with fail
    refine (HC.out _).mono ?_
    rintro e W4 ⟨rfl, f4⟩
    have HF := Lib.hid (HF3.out.trans f4)
    obtain ⟨r0, r1, r2, s0, s1, s2, rl⟩ := res_facts (HO.out.res.keep HF.out trivial)
    clear f4 HC HL
    go_wp2_with fail
    obtain ⟨hm, hmW, hX, hi, hqi, hzi⟩ := HA.out
    have e : X = (⟨2, [], 0⟩, s) := by rw [hX]; unfold endD; rw [hqi, show ((q : Int)).toNat = q by omega, ← hzi, if_pos rfl]
    rw [e]
    exact op_ret rfl rfl rfl (hmW.fresh HF.out) (fun j h => .inl h) hml hbl hm.nm hm.nb (HO.out.res.keep HF.out trivial) (by have := HO.out.sz; omega) ((HO.out.fresh.trans HF.out).weaken fun _ _ _ => trivial)
  · go_wp2_with fail
    refine HL.out.mono ?_
    rintro e W4 ⟨rfl, hm4, hk4⟩
    have HM4 := Lib.hid (And.intro hm4 hk4)
    have HD := Lib.hid (fun l n => done_any l n W4)
    clear hm4 hk4 HC HL
    go_wp2_with fail
    refine (HD.out _ _).mono ?_
    rintro e W5 ⟨rfl, f5⟩
    have hb5 : Blk W5 (G + 1) 33 (resA ⟨0, [], 0⟩) := ((HO.out.res.keep HF3.out trivial).keep HM4.out.2 (by
      have hsz := HO.out.sz
      exact ⟨by omega, fun h => by have := h.2; omega⟩)).keep f5 trivial
    obtain ⟨r0, r1, r2, s0, s1, s2, rl⟩ := res_facts hb5
    have H5 := Lib.hid (And.intro hb5 f5)
    clear f5 HD hb5
    go_wp2_with fail
    obtain ⟨hm, hmW, hX, hi, hqi, hzi⟩ := HA.out
    have e : X = (⟨1, [], (letsD (q : Int) s).1⟩, (letsD (q : Int) s).2) := by rw [hX]; unfold endD; rw [hqi, show ((q : Int)).toNat = q by omega, ← hzi, if_neg h0]
    rw [e]
    have hsz := HO.out.sz
    exact op_ret rfl rfl rfl (HM4.out.1.fresh H5.out.2) (fun j h => h.elim (fun h => .inl h.1) fun h => .inr (by have := HF3.out.size; have := HO.out.fresh.size; omega)) hml hbl hm.nm hm.nb H5.out.1 (by omega) (((HO.out.fresh.trans HF3.out).comp HM4.out.2 (fun _ _ _ => trivial) (fun _ _ h => ⟨h.1, fun e => h.2.2 e.1⟩)).comp H5.out.2 (fun _ _ h => h) (fun _ _ _ => trivial))
end Go.Proofs.YtlibhkehebioeaaGreatDoor
namespace Go.Proofs.YtlibhkehebioeaaGreatDoor
set_option linter.unusedVariables false
set_option linter.unusedSimpArgs false
open Go.RowKit

def nibInts : List Int := [0, 498536548, 997073096, 651767980, 1994146192, 1802195444, 1303535960, 1342533948, 3988292384, 4027552580, 3604390888, 3412177804, 2607071920, 2262029012, 2685067896, 3183342108]
/-- What the table of half bytes holds. -/
def Nib (w : World) : Prop := Lib.TabIs Tryz.prog w "quorate/wire.nibble" .u32 nibInts
theorem gNib : Tryz.prog.globalNamed "quorate/wire.nibble" = some 0 := by kernel_rfl
theorem nib_lt_heap {w : World} (h : Nib w) : 0 < w.heap.size := by
  rcases Nat.lt_or_ge 0 w.heap.size with hlt | hge
  · exact hlt
  · have h1 := h.cell gNib 0 (by decide)
    simp [World.cell?, Array.getElem?_eq_none hge] at h1
theorem nib_val (r : Nat) (hr : r < 16) : nibInts.getD r 0 = ((nibTab.getD r 0 : Nat) : Int) := by
  have : ∀ r, r < 16 → nibInts.getD r 0 = ((nibTab.getD r 0 : Nat) : Int) := by decide
  exact this r hr
theorem nibTab_lt (r : Nat) (hr : r < 16) : nibTab.getD r 0 < 4294967296 := by
  have : ∀ r, r < 16 → nibTab.getD r 0 < 4294967296 := by decide
  exact this r hr
theorem nibStep_lt {w : Nat} (h : w < 4294967296) : nibStep w < 4294967296 := xor_lt32 (by omega) (nibTab_lt _ (by omega))
theorem crc_take (bs : List UInt8) (k : Nat) (hk : k < bs.length) : crcAt (bs.take (k + 1)) = nibStep (nibStep (crcAt (bs.take k) ^^^ bs[k].toNat)) := by
  rw [← List.take_append_getElem hk, crcAt_snoc, nib_two]

set_option maxRecDepth 20000 in
theorem sum_any (Z : Nat → Prop) (A : Option Addr) (n c : Nat) (bs : List UInt8) (w : World) (hb : Rd w Z 1 A n (Lib.byteCells bs)) (hn : n ≤ 1099511627770) (hT : Nib w) :
    Calls Tryz.prog 41 #[.slice A n c] w fun e w' => e = .returned (.int .i64 (crcB bs : Int)) ∧ w = w' := by
  have HB := Lib.hid hb
  have hlen : bs.length = n := by simpa [Lib.byteCells] using hb.1
  have HN := Lib.hid hlen
  have HT := Lib.hid (fun (r : Nat) (hr : r < 16) => (show w.cell? ⟨0, r, none⟩ = some (.int .u32 ((nibTab.getD r 0 : Nat) : Int)) by rw [← nib_val r hr]; exact hT.cell gNib r hr))
  have hgl := nib_lt_heap hT
  clear hb hlen hT
  go_enter Tryz.func41, Tryz.ntmps41
  go_wp2
  go_loop [3, 8] (fun v i => ∃ (k : Nat) (y : Int), k ≤ n ∧ i = .int .i64 (k : Int) ∧ v = .int .u32 y ∧ Hid (y = (crcAt (bs.take k) : Int))) (fun _ i => ((n : Int) - intOf i).toNat)
  case atStart => exact ⟨0, 4294967295, by omega, rfl, rfl, rfl⟩
  case round =>
    obtain ⟨k, y, hk, rfl, rfl, HR⟩ := hrel
    by_cases hin : k < n
    · obtain ⟨b, o, rfl, hzb, hll, hcell⟩ := HB.out.at1 hin
      have hkb : k < bs.length := by rw [HN.out]; exact hin
      rw [show (Lib.byteCells bs)[k] = .int .u8 (bs[k].toNat : Int) by simp [Lib.byteCells]] at hcell
      obtain ⟨x, hx⟩ : ∃ x : Nat, x = crcAt (bs.take k) := ⟨_, rfl⟩
      have hx32 : x < 4294967296 := hx ▸ crcAt_lt _
      obtain ⟨ch, hch⟩ : ∃ ch : Nat, ch = bs[k].toNat := ⟨_, rfl⟩
      have hc : ch < 256 := hch ▸ bs[k].toNat_lt
      rw [← hch] at hcell
      have hE := crc_take bs k hkb
      rw [← hx, ← hch] at hE
      obtain rfl : y = (x : Int) := by rw [HR.out, hx]
      have HH := Lib.hid hE
      clear hE hx hch HR hzb hll
      go_upto_region 6 with (fail)
      rw [u32_xor_nat x ch hx32 (by omega)]
      obtain ⟨y1, hy1⟩ : ∃ y1, y1 = x ^^^ ch := ⟨_, rfl⟩
      have hy32 : y1 < 4294967296 := hy1 ▸ xor_lt32 hx32 (by omega)
      rw [← hy1] at HH ⊢
      obtain ⟨g1, hg1⟩ : ∃ g1 : Int, g1 = bits BinOp.and IntKind.u32 (y1 : Int) 15 := ⟨_, rfl⟩
      obtain ⟨t1, ht1⟩ : ∃ t1 : Nat, t1 = nibTab.getD (y1 % 16) 0 := ⟨_, rfl⟩
      have t32 : t1 < 4294967296 := ht1 ▸ nibTab_lt _ (by omega)
      have e1 : g1 = ((y1 % 16 : Nat) : Int) := by rw [hg1, show (15 : Int) = ((15 : Nat) : Int) from rfl, u32_and_nat y1 15 hy32 (by omega), nat_mask4]
      have c1 : w.cell? ⟨0, g1.toNat, none⟩ = some (.int .u32 (t1 : Int)) := by rw [e1, ht1]; exact HT.out (y1 % 16) (by omega)
      have r1 : 0 ≤ g1 := by omega
      have r2 : g1 < 16 := by omega
      have E1 := Lib.hid hg1
      obtain ⟨y2, hy2⟩ : ∃ y2, y2 = nibStep y1 := ⟨_, rfl⟩
      have y32 : y2 < 4294967296 := hy2 ▸ nibStep_lt hy32
      have X1 : bits BinOp.xor IntKind.u32 ((y1 : Int) / 16) (t1 : Int) = (y2 : Int) := by
        rw [show (y1 : Int) / 16 = ((y1 / 16 : Nat) : Int) by omega, u32_xor_nat (y1 / 16) t1 (by omega) t32, hy2, ht1]
        rfl
      rw [← hy2] at HH
      have HX := Lib.hid X1
      clear e1 hg1 hx32 hc hy1 ht1 t32 hy32 hy2 X1
      go_upto_region 7 with (first | simp only [← E1.out] | fail)
      rw [HX.out]
      clear c1 r1 r2 E1 HX
      obtain ⟨g2, hg2⟩ : ∃ g2 : Int, g2 = bits BinOp.and IntKind.u32 (y2 : Int) 15 := ⟨_, rfl⟩
      obtain ⟨t2, ht2⟩ : ∃ t2 : Nat, t2 = nibTab.getD (y2 % 16) 0 := ⟨_, rfl⟩
      have t32 : t2 < 4294967296 := ht2 ▸ nibTab_lt _ (by omega)
      have e2 : g2 = ((y2 % 16 : Nat) : Int) := by rw [hg2, show (15 : Int) = ((15 : Nat) : Int) from rfl, u32_and_nat y2 15 y32 (by omega), nat_mask4]
      have c2 : w.cell? ⟨0, g2.toNat, none⟩ = some (.int .u32 (t2 : Int)) := by rw [e2, ht2]; exact HT.out (y2 % 16) (by omega)
      have r1 : 0 ≤ g2 := by omega
      have r2 : g2 < 16 := by omega
      have E2 := Lib.hid hg2
      obtain ⟨y3, hy3⟩ : ∃ y3, y3 = nibStep y2 := ⟨_, rfl⟩
      have X2 : bits BinOp.xor IntKind.u32 ((y2 : Int) / 16) (t2 : Int) = (y3 : Int) := by
        rw [show (y2 : Int) / 16 = ((y2 / 16 : Nat) : Int) by omega, u32_xor_nat (y2 / 16) t2 (by omega) t32, hy3, ht2]
        rfl
      rw [← hy3] at HH
      have HX := Lib.hid X2
      clear e2 hg2 ht2 t32 y32 hy3 X2
      go_upto_region 8 with (first | simp only [← E2.out] | fail)
      rw [HX.out]
      go_wp2
      exact ⟨⟨k + 1, y3, by omega, by simp, rfl, congrArg (fun z : Nat => (z : Int)) HH.out.symm⟩, by simp [intOf]; omega⟩
    · have hE : crcAt (bs.take k) = crcAt bs := by rw [List.take_of_length_le (by have := HN.out; omega)]
      obtain ⟨x, hx⟩ : ∃ x : Nat, x = crcAt bs := ⟨_, rfl⟩
      have hx32 : x < 4294967296 := hx ▸ crcAt_lt _
      obtain rfl : y = (x : Int) := by rw [HR.out, hE, hx]
      have HC := Lib.hid (show crcB bs = x ^^^ 4294967295 by rw [hx]; rfl)
      clear hE HR hx
      have hX : wrap64 (bits BinOp.xor IntKind.u32 IntKind.u32.max (x : Int)) = (crcB bs : Int) := by
        have h1 : bits BinOp.xor IntKind.u32 IntKind.u32.max (x : Int) = ((4294967295 ^^^ x : Nat) : Int) := u32_xor_nat 4294967295 x (by omega) hx32
        have h2 := crcB_lt bs
        rw [h1, Nat.xor_comm, ← HC.out]
        simp only [wrap64]
        omega
      have HX := Lib.hid hX
      clear hX
      go_wp2
      go_ret
      exact ⟨by rw [← HX.out]; rfl, rfl⟩
end Go.Proofs.YtlibhkehebioeaaGreatDoor
namespace Go.Proofs.YtlibhkehebioeaaGreatDoor
set_option linter.unusedVariables false
set_option linter.unusedSimpArgs false
open Go.RowKit
/-- Block g is a writer that holds the bytes bs, in a row of the call's own, from block B on. -/
def Wr (w : World) (B g : Nat) (v : Value) (bs : List UInt8) : Prop := Blk w g 96 #[v] ∧ w.ownsRow B 5 1 v bs.length (Lib.byteCells bs)

set_option maxHeartbeats 400000 in
theorem counts_any (B g : Nat) (v : Value) (bs : List UInt8) (Z : Nat → Prop) (A : Option Addr) (m c : Nat) (xs : List Int) (w : World) (hw : Wr w B g v bs) (hx : okInts xs) (hl : Rd w Z 1 A m (ics xs)) (hz : ∀ k, Z k → k ≠ g ∧ v.ownBlock ≠ some k ∧ k < w.heap.size) (hB : B ≤ w.heap.size) (hn : bs.length + 9 * m ≤ 1099511627770) :
    Calls Tryz.prog 38 #[.pointer (some ⟨g, 0, none⟩), .slice A m c] w fun e w' => e = .returned (.tuple #[]) ∧ ∃ v', Wr w' B g v' (bs ++ encs xs) ∧ Keep (fun k => k ≠ g ∧ v.ownBlock ≠ some k) w w' ∧ Next w.heap.size v v' := by
  have hlen : xs.length = m := by simpa [ics] using hl.1
  subst hlen
  have HA := Lib.hid (And.intro hw (And.intro hx (And.intro hl hz)))
  clear hw hx hl hz
  go_enter Tryz.func38, Tryz.ntmps38
  go_wp2
  go_loopw [8] (fun i wr => ∃ (k : Nat) (vr : Value) (cs : List UInt8), k ≤ xs.length ∧ i = .int .i64 (k : Int) ∧ Hid (cs = bs ++ encs (xs.take k) ∧ Wr wr B g vr cs ∧ Keep (fun k => k ≠ g ∧ v.ownBlock ≠ some k) w wr ∧ Next w.heap.size v vr)) (fun i _ => xs.length - (intOf i).toNat)
  case atStart => exact ⟨0, v, bs, Nat.zero_le _, rfl, by simp [encs], HA.out.1, Keep.refl _ _, Next.refl _ _⟩
  case round =>
    obtain ⟨k, vr, cs, hk, rfl, HW⟩ := hrel
    by_cases hlt : k < xs.length
    · obtain ⟨hw0, hx, hl, hz⟩ := HA.out
      obtain ⟨hcs, ⟨hblk, hown⟩, hkk, hnn⟩ := HW.out
      have hlr := hl.keep (hkk.weaken (fun i _ hi => ⟨(hz i hi).1, (hz i hi).2.1⟩))
      obtain ⟨b, o, rfl, hzb, hll, hcell⟩ := hlr.at1 hlt
      have hxk := hx xs[k] (List.getElem_mem hlt)
      rw [show (ics xs)[k] = .int .i64 xs[k] by simp [ics]] at hcell
      have hvc := hblk.cell 0
      have hfr := hblk.frozen 0
      simp at hvc
      have hgl := hblk.lt
      have hbl := encs_take_len xs k hx
      have hln : cs.length ≤ 1099511627770 := by rw [hcs, List.length_append]; omega
      have hcs' : cs ++ putB xs[k].toNat = bs ++ encs (xs.take (k + 1)) := by rw [hcs, encs_take _ _ hlt, List.append_assoc]
      obtain ⟨A', c', rfl, hrd, _⟩ := own_rd hown
      have HX := Lib.hid (And.intro hxk (And.intro hown (And.intro hblk (And.intro hrd (And.intro hkk (And.intro hnn (And.intro hcs' hln)))))))
      clear hxk hown hblk hrd hl hlr hz hzb hll hbl hw0 hkk hnn hx HW hcs hcs' hln
      go_wp2_with fail
      refine (PutInt_any _ A' cs.length c' cs xs[k] _ HX.out.1.1 HX.out.1.2 HX.out.2.2.2.1 HX.out.2.2.2.2.2.2.2).mono ?_
      rintro e w1 ⟨g1, c1, rfl, ho1, hk1, hg1⟩
      obtain ⟨v1, hv1⟩ : ∃ v1, v1 = Value.slice (some ⟨g1, 0, none⟩) (cs.length + (putB xs[k].toNat).length) c1 := ⟨_, rfl⟩
      obtain ⟨-, hown, hblk, -, hkk, hnn, hcs', -⟩ := HX.out
      have hblk1 := hblk.keep hk1 trivial
      have hc1 := hblk1.cell 0
      have hf1 := hblk1.frozen 0
      simp at hc1
      rw [← hv1] at ho1
      have hw1 : Wr (w1.setCell ⟨g, 0, none⟩ v1) B g v1 (bs ++ encs (xs.take (k + 1))) := by
        refine ⟨by simpa using hblk1.set 0 v1, ?_⟩
        rw [← hcs', List.length_append]
        refine own_far (own_base ho1 (Nat.le_trans hB hkk.size)) ?_ v1
        rw [hv1]
        simp [Value.ownBlock]
        omega
      have hkk1 : Keep (fun k => k ≠ g ∧ v.ownBlock ≠ some k) w (w1.setCell ⟨g, 0, none⟩ v1) := (hkk.comp hk1 (fun _ _ h => h) (fun _ _ _ => trivial)).setCell (fun _ h => h.1 rfl) v1
      have hnn1 : Next w.heap.size v v1 := by
        exact .inr ⟨g1, by rw [hv1]; rfl, by have := hkk.size; omega⟩
      have HY := Lib.hid (And.intro hw1 (And.intro hkk1 hnn1))
      subst hv1
      clear hw1 hkk1 hnn1 ho1 hk1 hg1 hown hblk hblk1 hkk hnn hcs' HX
      go_wp2
      exact ⟨⟨k + 1, _, _, by omega, congrArg _ (by omega), rfl, HY.out⟩, by simp [intOf]; omega⟩
    · go_wp2
      go_end0
      obtain rfl : k = xs.length := by omega
      obtain ⟨hcs, h1, h2⟩ := HW.out
      rw [List.take_length] at hcs
      subst hcs
      exact ⟨rfl, vr, h1, h2⟩

def scs (ss : List ByteArray) : List Value := ss.map Value.string
def txts (ss : List ByteArray) : List UInt8 := ss.flatMap fun s => txt s.data.toList
def okTxts (ss : List ByteArray) : Prop := ∀ s ∈ ss, s.size ≤ 1048576
theorem txts_take (ss : List ByteArray) (k : Nat) (h : k < ss.length) : txts (ss.take (k + 1)) = txts (ss.take k) ++ txt ss[k].data.toList := by
  rw [List.take_succ_eq_append_getElem h, txts, List.flatMap_append]
  simp [txts]
theorem txt_len (s : ByteArray) (h : s.size ≤ 1048576) : (txt s.data.toList).length ≤ 1048585 := by
  have h1 : s.data.toList.length = s.size := Array.length_toList
  have h2 := putB_len9 (v := s.size) (by omega)
  simp only [txt, List.length_append, h1]
  omega
theorem txts_len (ss : List ByteArray) (h : okTxts ss) : (txts ss).length ≤ 1048585 * ss.length := by
  induction ss with
  | nil => simp [txts]
  | cons s ss ih =>
    have h1 := txt_len s (h s (by simp))
    have h2 := ih (fun y hy => h y (by simp [hy]))
    have e : txts (s :: ss) = txt s.data.toList ++ txts ss := rfl
    rw [e, List.length_append, List.length_cons]
    omega
theorem txts_take_len (ss : List ByteArray) (k : Nat) (h : okTxts ss) : (txts (ss.take k)).length ≤ 1048585 * ss.length := by
  have h1 := txts_len (ss.take k) (fun y hy => h y (List.mem_of_mem_take hy))
  have h2 : (ss.take k).length ≤ ss.length := List.length_take_le' _ _
  omega

set_option maxHeartbeats 400000 in
theorem texts_any (B g : Nat) (v : Value) (bs : List UInt8) (Z : Nat → Prop) (A : Option Addr) (m c : Nat) (ss : List ByteArray) (w : World) (hw : Wr w B g v bs) (hx : okTxts ss) (hl : Rd w Z 1 A m (scs ss)) (hz : ∀ k, Z k → k ≠ g ∧ v.ownBlock ≠ some k ∧ k < w.heap.size) (hB : B ≤ w.heap.size) (hn : bs.length + 1048585 * m ≤ 1099510000000) :
    Calls Tryz.prog 39 #[.pointer (some ⟨g, 0, none⟩), .slice A m c] w fun e w' => e = .returned (.tuple #[]) ∧ ∃ v', Wr w' B g v' (bs ++ txts ss) ∧ Keep (fun k => k ≠ g ∧ v.ownBlock ≠ some k) w w' ∧ Next w.heap.size v v' := by
  have hlen : ss.length = m := by simpa [scs] using hl.1
  subst hlen
  have HA := Lib.hid (And.intro hw (And.intro hx (And.intro hl hz)))
  clear hw hx hl hz
  go_enter Tryz.func39, Tryz.ntmps39
  go_wp2
  go_loopw [8] (fun i wr => ∃ (k : Nat) (vr : Value) (cs : List UInt8), k ≤ ss.length ∧ i = .int .i64 (k : Int) ∧ Hid (cs = bs ++ txts (ss.take k) ∧ Wr wr B g vr cs ∧ Keep (fun k => k ≠ g ∧ v.ownBlock ≠ some k) w wr ∧ Next w.heap.size v vr)) (fun i _ => ss.length - (intOf i).toNat)
  case atStart => exact ⟨0, v, bs, Nat.zero_le _, rfl, by simp [txts], HA.out.1, Keep.refl _ _, Next.refl _ _⟩
  case round =>
    obtain ⟨k, vr, cs, hk, rfl, HW⟩ := hrel
    by_cases hlt : k < ss.length
    · obtain ⟨hw0, hx, hl, hz⟩ := HA.out
      obtain ⟨hcs, hwr, hkk, hnn⟩ := HW.out
      have hlr := hl.keep (hkk.weaken (fun i _ hi => ⟨(hz i hi).1, (hz i hi).2.1⟩))
      obtain ⟨b, o, rfl, hzb, hll, hcell⟩ := hlr.at1 hlt
      have hxk := hx ss[k] (List.getElem_mem hlt)
      rw [show (scs ss)[k] = .string ss[k] by simp [scs]] at hcell
      have hbl := txts_take_len ss k hx
      have hln : cs.length ≤ 1099510000000 := by rw [hcs, List.length_append]; omega
      have hcs' : cs ++ txt ss[k].data.toList = bs ++ txts (ss.take (k + 1)) := by rw [hcs, txts_take _ _ hlt, List.append_assoc]
      have hi64 : (0 : Int) ≤ (ss[k].size : Int) ∧ (ss[k].size : Int) ≤ 4611686018427387904 := by omega
      have HX := Lib.hid (And.intro hxk (And.intro hwr (And.intro hkk (And.intro hnn (And.intro hcs' (And.intro hln hi64))))))
      clear hxk hwr hl hlr hz hzb hll hbl hw0 hkk hnn hx HW hcs hcs' hln hi64
      go_wp2_with fail
      obtain ⟨hxk, hwr, hkk, hnn, hcs', hln, hi64⟩ := HX.out
      have hgl := hwr.1.lt
      have hne1 : vr.ownBlock ≠ some wr.heap.size := fun h => by have := (own_lt hwr.2 h).2; omega
      have hwr1 : Wr (wr.alloc (.cells #[.int .i64 (ss[k].size : Int)] 3)) B g vr cs := ⟨hwr.1.alloc _, hwr.2.alloc _⟩
      refine (counts_any B g vr cs (fun i => i = wr.heap.size) _ 1 1 [(ss[k].size : Int)] _ hwr1 (by simpa [okInts] using hi64) (Rd.own1 _ _ _) (fun i hi => ⟨by omega, by rw [hi]; exact hne1, by simp; omega⟩) (by have := hkk.size; simp; omega) (by omega)).mono ?_
      obtain ⟨ds, hds⟩ : ∃ ds, ds = cs ++ encs [(ss[k].size : Int)] := ⟨_, rfl⟩
      rw [← hds]
      rintro e w1 ⟨rfl, v1, ⟨hb1, ho1⟩, hk1, hn1⟩
      have hk1' : Keep (fun k => k ≠ g ∧ vr.ownBlock ≠ some k) wr w1 := ((Keep.refl _ wr).alloc _).comp hk1 (fun _ _ h => h) (fun _ _ h => h)
      have hkk1 : Keep (fun k => k ≠ g ∧ v.ownBlock ≠ some k) w w1 := hkk.comp hk1' (fun _ _ h => h) (fun i hi h => ⟨h.1, fun e => by
        rcases hnn with hnn | ⟨g', hg', hl'⟩
        · exact h.2 (hnn.symm.trans e)
        · rw [hg'] at e; injection e with e; omega⟩)
      have hn1' : Next w.heap.size v v1 := hnn.trans hn1 (by have := hkk.size; simp; omega)
      have hne2 := own_ne_blk ho1 hb1 (by decide)
      obtain ⟨A1, c1, rfl, _, _⟩ := own_rd ho1
      have hc1 := hb1.cell 0
      have hf1 := hb1.frozen 0
      have hg1 := hb1.lt
      simp at hc1
      have HY := Lib.hid (And.intro hkk1 (And.intro hn1' (And.intro hb1 (And.intro ho1 hne2))))
      have hsz : (txt ss[k].data.toList).length ≤ 1048585 := txt_len _ hxk
      have htx : encs [(ss[k].size : Int)] ++ ss[k].data.toList = txt ss[k].data.toList := by
        simp only [encs, txt, List.flatMap_cons, List.flatMap_nil, List.append_nil, Int.toNat_natCast]
        rfl
      have hencl : (encs [(ss[k].size : Int)]).length ≤ 9 := encs_len [(ss[k].size : Int)] (by simpa [okInts] using hi64)
      have hdl : ds.length ≤ 1099510000009 := by rw [hds, List.length_append]; omega
      have hsum : ds.length + ss[k].size ≤ 140737488355328 := by omega
      have hfin : ds ++ ss[k].data.toList = bs ++ txts (ss.take (k + 1)) := by rw [hds, List.append_assoc, htx, hcs']
      have HZ := Lib.hid (And.intro hsum hfin)
      have HB2 : Hid (B ≤ w1.heap.size) := Nat.le_trans hB hkk1.size
      clear hxk hwr hkk hnn hcs' hln hi64 hgl hne1 hwr1 hk1 hn1 hk1' hkk1 hn1' hb1 ho1 hne2 hsz htx hencl hdl hsum hfin hds HX
      go_wp2_with (at_builtin; refine wpList_app_str etU8 Tryz.underlying9 rfl (.tmp 21) (.tmp 22) rfl B _ _ _ rfl HY.out.2.2.2.1 _ rfl HZ.out.1 HB2 ?_)
      intro v2 w2 ho2 hk2 hn2
      obtain ⟨hkk1, hn1', hb1, ho1, hne2⟩ := HY.out
      obtain ⟨A2, c2, rfl, _, _⟩ := own_rd ho2
      have hb2 := hb1.keep hk2 hne2
      have hc2 := hb2.cell 0
      have hf2 := hb2.frozen 0
      simp at hc2
      have hne3 := own_ne_blk ho2 hb2 (by decide)
      have hw2 : Wr (w2.setCell ⟨g, 0, none⟩ (.slice A2 (ds.length + ss[k].size) c2)) B g (.slice A2 (ds.length + ss[k].size) c2) (bs ++ txts (ss.take (k + 1))) := by
        refine ⟨by simpa using hb2.set 0 _, ?_⟩
        have e1 : ds ++ ss[k].data.toList = bs ++ txts (ss.take (k + 1)) := HZ.out.2
        have e2 : (bs ++ txts (ss.take (k + 1))).length = ds.length + ss[k].size := by rw [← e1, List.length_append]; rfl
        rw [e2, ← e1, Lib.byteCells_append]
        exact own_far ho2 hne3 _
      have hkk2 : Keep (fun k => k ≠ g ∧ v.ownBlock ≠ some k) w (w2.setCell ⟨g, 0, none⟩ (.slice A2 (ds.length + ss[k].size) c2)) :=
        (hkk1.comp hk2 (fun _ _ h => h) (fun i hi h e => by
          rcases hn1' with hnn | ⟨g', hg', hl'⟩
          · exact h.2 (hnn.symm.trans e)
          · rw [hg'] at e; injection e with e; omega)).setCell (fun _ h => h.1 rfl) _
      have hnn2 := hn1'.trans hn2 hkk1.size
      have HW := Lib.hid (And.intro hw2 (And.intro hkk2 hnn2))
      clear hkk1 hn1' hb1 ho1 hne2 hb2 hne3 hw2 hkk2 hnn2 hk2 hn2 ho2 HY HZ HB2
      go_wp2
      exact ⟨⟨k + 1, _, _, by omega, congrArg _ (by omega), rfl, HW.out⟩, by simp [intOf]; omega⟩
    · go_wp2
      go_end0
      obtain rfl : k = ss.length := by omega
      obtain ⟨hcs, h1, h2⟩ := HW.out
      rw [List.take_length] at hcs
      subst hcs
      exact ⟨rfl, vr, h1, h2⟩
end Go.Proofs.YtlibhkehebioeaaGreatDoor
namespace Go.Proofs.YtlibhkehebioeaaGreatDoor
set_option linter.unusedVariables false
set_option linter.unusedSimpArgs false
open Go.RowKit

/-! ### the writer from a world on -/
structure WrTo (wp : World) (vp : Value) (g : Nat) (wr : World) (vr : Value) : Prop where
  keep : Keep (fun k => k ≠ g ∧ vp.ownBlock ≠ some k) wp wr
  next : Next wp.heap.size vp vr
theorem WrTo.refl (w : World) (v : Value) (g : Nat) : WrTo w v g w v := ⟨Keep.refl _ _, Next.refl _ _⟩
theorem WrTo.fresh {wp wr w2 : World} {vp vr : Value} {g : Nat} (h : WrTo wp vp g wr vr) (hf : Fresh wr w2) : WrTo wp vp g w2 vr := ⟨h.keep.comp hf (fun _ _ h => h) (fun _ _ _ => trivial), h.next⟩
theorem WrTo.step {wp wr w2 : World} {vp vr v2 : Value} {g : Nat} (h : WrTo wp vp g wr vr) (hk : Keep (fun k => k ≠ g ∧ vr.ownBlock ≠ some k) wr w2) (hn : Next wr.heap.size vr v2) : WrTo wp vp g w2 v2 :=
  ⟨h.keep.comp hk (fun _ _ h => h) (fun i hi hj => ⟨hj.1, fun e => by
    rcases h.next with h1 | ⟨b, hb, hl⟩
    · exact hj.2 (h1.symm.trans e)
    · rw [hb] at e
      injection e with e
      omega⟩), h.next.trans hn h.keep.size⟩
/-- Block g is the writer, begun at w1. -/
structure WAt (w1 : World) (v1 : Value) (B g : Nat) (bs : Txt) (w : World) (v : Value) : Prop where
  wr : Wr w B g v bs
  tw : WrTo w1 v1 g w v
  b1 : B ≤ w.heap.size
section
variable {w1 w wa : World} {v1 v : Value} {B g : Nat} {bs : Txt}
theorem WAt.fresh (h : WAt w1 v1 B g bs w v) (hf : Fresh w wa) : WAt w1 v1 B g bs wa v := ⟨⟨h.wr.1.keep hf trivial, own_keep h.wr.2 hf (fun _ _ => trivial)⟩, h.tw.fresh hf, Nat.le_trans h.b1 hf.size⟩
/-- The writer's counts, out of a list that has just been laid. -/
theorem counts_step (h : WAt w1 v1 B g bs w v) (xs : List Int) (hx : okInts xs) (hf : Fresh w wa) (c : Nat) (A : Option Addr) (m : Nat) (Z : Nat → Prop) (hl : Rd wa Z 1 A m (ics xs)) (hz : ∀ k, Z k → k ≠ g ∧ v.ownBlock ≠ some k ∧ k < wa.heap.size) (hn : bs.length + 9 * m ≤ 1099511627770) :
    Calls Tryz.prog 38 #[.pointer (some ⟨g, 0, none⟩), .slice A m c] wa fun e w' => e = .returned (.tuple #[]) ∧ ∃ v', WAt w1 v1 B g (bs ++ encs xs) w' v' ∧ Keep (fun k => k ≠ g ∧ v.ownBlock ≠ some k) w w' ∧ Next w.heap.size v v' := by
  have ha := h.fresh hf
  refine (counts_any B g v bs Z A m c xs wa ha.wr hx hl hz ha.b1 hn).mono ?_
  rintro e w' ⟨rfl, v', hw', hk', hn'⟩
  exact ⟨rfl, v', ⟨hw', ha.tw.step hk' hn', Nat.le_trans ha.b1 hk'.size⟩, hf.comp hk' (fun _ _ _ => trivial) (fun _ _ h => h), by
    rcases hn' with e | ⟨b, hb, hl⟩
    · exact .inl e
    · exact .inr ⟨b, hb, Nat.le_trans hf.size hl⟩⟩
theorem texts_step (h : WAt w1 v1 B g bs w v) (ss : List ByteArray) (hx : okTxts ss) (hf : Fresh w wa) (c : Nat) (A : Option Addr) (m : Nat) (Z : Nat → Prop) (hl : Rd wa Z 1 A m (scs ss)) (hz : ∀ k, Z k → k ≠ g ∧ v.ownBlock ≠ some k ∧ k < wa.heap.size) (hn : bs.length + 1048585 * m ≤ 1099510000000) :
    Calls Tryz.prog 39 #[.pointer (some ⟨g, 0, none⟩), .slice A m c] wa fun e w' => e = .returned (.tuple #[]) ∧ ∃ v', WAt w1 v1 B g (bs ++ txts ss) w' v' ∧ Keep (fun k => k ≠ g ∧ v.ownBlock ≠ some k) w w' ∧ Next w.heap.size v v' := by
  have ha := h.fresh hf
  refine (texts_any B g v bs Z A m c ss wa ha.wr hx hl hz ha.b1 hn).mono ?_
  rintro e w' ⟨rfl, v', hw', hk', hn'⟩
  exact ⟨rfl, v', ⟨hw', ha.tw.step hk' hn', Nat.le_trans ha.b1 hk'.size⟩, hf.comp hk' (fun _ _ _ => trivial) (fun _ _ h => h), by
    rcases hn' with e | ⟨b, hb, hl⟩
    · exact .inl e
    · exact .inr ⟨b, hb, Nat.le_trans hf.size hl⟩⟩
theorem WAt.new (h : WAt w1 v1 B g bs w v) (hf : Fresh w wa) : ∀ k, k = wa.heap.size - 1 → w.heap.size < wa.heap.size → k ≠ g ∧ v.ownBlock ≠ some k ∧ k < wa.heap.size := fun k hk hl => by
  have h1 := h.wr.1.lt
  refine ⟨by omega, fun e => by have := (own_lt h.wr.2 e).2; omega, by omega⟩
end
/-- A block is a row of its own cells. -/
theorem own_of_blk {w : World} {g base : Nat} {t : TypeId} {cs : Array Value} (h : Blk w g t cs) (hb : base ≤ g) (hm : cs.size ≤ maxLen) (n : Nat) (hn : n = cs.size) : w.ownsRow base t 1 (.slice (some ⟨g, 0, none⟩) n n) n cs.toList := by
  subst hn
  exact ⟨by simp, .inr ⟨g, cs.size, cs, rfl, hb, h, Nat.le_refl _, hm, by simp, by rw [Nat.mul_one]; exact List.take_of_length_le (by simp)⟩⟩
/-- Ints, texts that lie in a block of their own. -/
theorem rd_ints {w : World} {b : Nat} {t : TypeId} {cs : Array Value} (h : Blk w b t cs) (xs : List Int) (hx : cs.toList = ics xs) (n : Nat) (hn : n = xs.length) : Rd w (fun k => k = b) 1 (some ⟨b, 0, none⟩) n (ics xs) := by
  rw [← hx]
  exact h.rd (by have := congrArg List.length hx; simp [ics] at this; omega)
theorem rd_txts {w : World} {b : Nat} {t : TypeId} {cs : Array Value} (h : Blk w b t cs) (ss : List ByteArray) (hx : cs.toList = scs ss) (n : Nat) (hn : n = ss.length) : Rd w (fun k => k = b) 1 (some ⟨b, 0, none⟩) n (scs ss) := by
  rw [← hx]
  exact h.rd (by have := congrArg List.length hx; simp [scs] at this; omega)
/-- What the snapshot holds behind k pairs; k locks; k sessions. -/
def sn1 (s : StD) : Txt := headB ++ encs [s.tok, (s.pairs.length : Int)]
def sn2 (s : StD) (k : Nat) : Txt := sn1 s ++ (s.pairs.take k).flatMap pairB
def sn3 (s : StD) : Txt := sn2 s s.pairs.length ++ encs [(s.locks.length : Int)]
def sn4 (s : StD) (k : Nat) : Txt := sn3 s ++ (s.locks.take k).flatMap lockB
def sn5 (s : StD) : Txt := sn4 s s.locks.length ++ encs [((askTo s.ss 16).length : Int)]
def sn6 (s : StD) (k : Nat) : Txt := sn5 s ++ ((asked s.ss).take k).flatMap sesB
theorem sn_all (s : StD) : sn6 s (asked s.ss).length = bodyB s := by
  unfold sn6 sn5 sn4 sn3 sn2 sn1 bodyB restB
  have h : ((askTo s.ss 16).length : Int).toNat = (asked s.ss).length := by rw [askTo_all]; simp
  simp only [List.take_length, encs_cons, encs_nil, List.append_nil, List.append_assoc, h, Int.toNat_natCast]
theorem map_len_at {w : World} {b : Nat} {ps : List Kv} (h : MapIs Tryz.prog 9 w b ps) : ∃ es cl, w.heap[b]? = some (.map es cl) ∧ es.size = ps.length := by
  have h2 := h
  obtain ⟨es, cl, hb, F, hle, hD⟩ := h2
  refine ⟨es, cl, hb, ?_⟩
  have e1 : Maps.size (mD ps) = es.size := by rw [hD]; simp [Maps.size, length_sorted]
  rw [mD_size] at e1
  exact e1.symm
theorem map_len_run {w : World} {b : Nat} {t k e : TypeId} (ht : Tryz.prog.underlying t = some (.map k e)) {es : Array MapEntry} {cl : Nat} (hb : w.heap[b]? = some (.map es cl)) (ty : TypeId) : Sem.run Tryz.prog (Builtin.len_ #[t] ty #[Value.map (some b)]) w = Result.ok (.int .i64 (es.size : Int)) w := by
  simp [Builtin.len_, run_underlying ht, MapKept.run_getObj_map hb, goInt, Result.andThen]
/-- Two rows of elements of different types lie apart. -/
theorem own_apart {w : World} {b1 e1 s1 n1 b2 e2 s2 n2 : Nat} {v1 v2 : Value} {x1 x2 : List Value} (h1 : w.ownsRow b1 e1 s1 v1 n1 x1) (h2 : w.ownsRow b2 e2 s2 v2 n2 x2) (hne : e1 ≠ e2) {k : Nat} (hk : v1.ownBlock = some k) : v2.ownBlock ≠ some k := by
  rcases h1.2 with ⟨rfl, _⟩ | ⟨g, cap, cur, rfl, _, hh, _⟩
  · cases hk
  · rcases h2.2 with ⟨rfl, _⟩ | ⟨g2, cap2, cur2, rfl, _, hh2, _⟩
    · simp [Value.ownBlock]
    · intro e
      simp only [Value.ownBlock] at hk e
      injection hk with hk
      injection e with e
      rw [hk] at hh
      rw [e, hh] at hh2
      injection hh2 with hh2
      injection hh2 with _ h3
      exact hne h3
theorem flat_le {α : Type} {f : α → Txt} {c : Nat} (l : List α) (h : ∀ x ∈ l, (f x).length ≤ c) : (l.flatMap f).length ≤ l.length * c := by
  induction l with
  | nil => simp
  | cons x r ih =>
    have h1 := h x (by simp)
    have h2 := ih fun y hy => h y (by simp [hy])
    rw [List.flatMap_cons, List.length_append, List.length_cons, Nat.add_mul]
    omega
theorem flat_take {α : Type} {f : α → Txt} (l : List α) (k : Nat) : ((l.take k).flatMap f).length ≤ (l.flatMap f).length := by
  have h : l.flatMap f = (l.take k).flatMap f ++ (l.drop k).flatMap f := by rw [← List.flatMap_append, List.take_append_drop]
  rw [h, List.length_append]
  omega
theorem sn_len {s : StD} (h : Inv s) : (∀ k, (sn2 s k).length ≤ 1070) ∧ (sn3 s).length ≤ 1070 ∧ (∀ k, (sn4 s k).length ≤ 1070) ∧ (sn5 s).length ≤ 1070 ∧ ∀ k, (sn6 s k).length ≤ 1070 := by
  have h0 := snap_len h
  have h1 : (sn6 s (asked s.ss).length).length ≤ 1070 := by
    rw [sn_all]
    unfold snapB at h0
    rw [List.length_append] at h0
    omega
  have e6 : ∀ k, (sn6 s k).length ≤ (sn6 s (asked s.ss).length).length := fun k => by
    unfold sn6
    rw [List.take_length, List.length_append, List.length_append]
    have := flat_take (f := sesB) (asked s.ss) k
    omega
  have e5 : (sn5 s).length ≤ (sn6 s (asked s.ss).length).length := by
    unfold sn6
    rw [List.length_append]
    omega
  have e4 : ∀ k, (sn4 s k).length ≤ (sn5 s).length := fun k => by
    unfold sn5 sn4
    rw [List.take_length, List.length_append, List.length_append, List.length_append]
    have := flat_take (f := lockB) s.locks k
    omega
  have e3 : (sn3 s).length ≤ (sn4 s 0).length := by
    unfold sn4
    rw [List.length_append]
    omega
  have e2 : ∀ k, (sn2 s k).length ≤ (sn3 s).length := fun k => by
    unfold sn3 sn2
    rw [List.take_length, List.length_append, List.length_append, List.length_append]
    have := flat_take (f := pairB) s.pairs k
    omega
  have f4 := e4 0
  refine ⟨fun k => ?_, by omega, fun k => ?_, by omega, fun k => ?_⟩
  · have := e2 k; omega
  · have := e4 k; omega
  · have := e6 k; omega
theorem sum_cells (bs : Txt) (sm : Nat) (h : sm = crcB bs) : [Value.int .u8 ((sm : Int) % 256), .int .u8 ((sm : Int) / 256 % 256), .int .u8 ((sm : Int) / 65536 % 256), .int .u8 ((sm : Int) / 16777216)] = Lib.byteCells (sumB bs) := by
  have h1 := crcB_lt bs
  unfold sumB
  rw [← h] at h1 ⊢
  have e : ∀ x : Nat, x < 256 → ((UInt8.ofNat x).toNat : Int) = (x : Int) := fun x hx => by rw [toNat_ofNat x hx]
  simp only [Lib.byteCells, List.map_cons, List.map_nil]
  rw [e _ (by omega), e _ (by omega), e _ (by omega), e _ (by omega)]
  have e4 : (sm : Int) / 16777216 = ((sm / 16777216 % 256 : Nat) : Int) := by omega
  rw [e4]
  simp
theorem okInts_one {a : Int} (h : 0 ≤ a) (h1 : a ≤ 4611686018427387904) : okInts [a] := fun x hx => by
  simp only [List.mem_cons, List.not_mem_nil, or_false] at hx
  subst hx
  exact ⟨h, h1⟩

set_option maxRecDepth 20000 in
set_option maxHeartbeats 4000000 in
theorem snapshot_any (S : Nat → Prop) (m bp bl : Nat) (s : StD) (w : World) (hm : MSt S w m bp bl s) (hi : Inv s) (hT : Nib w) (hTf : ∀ w', Fresh w w' → Nib w') :
    Calls Tryz.prog 16 #[.pointer (some ⟨m, 0, none⟩)] w fun e w' => (∃ v, e = .returned v ∧ w'.ownsRow w.heap.size 5 1 v (snapB s).length (Lib.byteCells (snapB s))) ∧ Fresh w w' := by
  obtain ⟨G, hG⟩ : ∃ G, G = w.heap.size := ⟨_, rfl⟩
  obtain ⟨W, hW⟩ : ∃ W, W = (w.alloc (.cells #[.int .u8 81, .int .u8 83, .int .u8 1] 5)).alloc (.cells #[.slice (some ⟨G, 0, none⟩) 3 3] 96) := ⟨_, rfl⟩
  have hf : Fresh w W := hW ▸ ((Keep.refl _ w).alloc _).alloc _
  have hb0 : Blk W G 5 #[.int .u8 81, .int .u8 83, .int .u8 1] := by rw [hW, hG]; exact (Blk.new _ _ _).alloc _
  have hb1 : Blk W (G + 1) 96 #[.slice (some ⟨G, 0, none⟩) 3 3] := by rw [hW]; exact Blk.newAt (by simp [hG])
  have hWA : WAt W (.slice (some ⟨G, 0, none⟩) 3 3) G (G + 1) headB W (.slice (some ⟨G, 0, none⟩) 3 3) := by
    refine ⟨⟨hb1, ?_⟩, WrTo.refl _ _ _, by have := hb1.lt; omega⟩
    have h1 := own_of_blk (base := G) hb0 (Nat.le_refl _) (by decide) 3 rfl
    exact h1
  have hmW := hm.fresh hf
  obtain ⟨x0, -, x2⟩ := hmW.three
  have ml := hmW.blk.lt
  have hgl := hb1.lt
  have htok := hi.lk.tok1
  have htok0 := hi.lk.tok0
  have hp16 := hi.pr.len
  obtain ⟨tok, htk⟩ : ∃ t, t = s.tok := ⟨_, rfl⟩
  rw [← htk] at x2 htok htok0
  have HA := Lib.hid (And.intro hm (And.intro hi (And.intro hf (And.intro hWA (And.intro hmW (And.intro hG (And.intro hTf htk)))))))
  clear hm hi hf hb0 hb1 hWA hmW hT hTf htk
  go_enter Tryz.func16, Tryz.ntmps16
  go_upto_region 2 with (fail)
  simp only [← hG]
  rw [← hW]
  clear hW hG
  obtain ⟨es, cl, hes, hen⟩ := map_len_at HA.out.2.2.2.2.1.pm
  rw [sk_len] at hen
  have hmG : m < G := by rw [HA.out.2.2.2.2.2.1]; exact HA.out.1.blk.lt
  have hbG : bp < G := by rw [HA.out.2.2.2.2.2.1]; exact HA.out.1.pm.lt
  have HS := Lib.hid (fun w' (hk : Keep (fun k => k < G) W w') => (⟨(hk.block _ HA.out.2.2.2.2.1.pm.lt hbG).trans hes, hk.cellAt x0 hmG, hk.cellAt x2 hmG⟩ : w'.heap[bp]? = some (.map es cl) ∧ w'.cell? ⟨m, 0, none⟩ = some (.map (some bp)) ∧ w'.cell? ⟨m, 2, none⟩ = some (.int .i64 tok)))
  have HC := Lib.hid (counts_step (wa := World.drew (W.alloc (.cells #[.int .i64 tok, .int .i64 (s.pairs.length : Int)] 3))) HA.out.2.2.2.1 [tok, (s.pairs.length : Int)] (by intro x hx; simp only [List.mem_cons, List.not_mem_nil, or_false] at hx; rcases hx with rfl | rfl <;> omega) (((Keep.refl _ W).alloc _).drew) 2 (some ⟨W.heap.size, 0, none⟩) 2 _ (rd_ints (Blk.new W _ _).drew _ rfl 2 rfl) (fun k hk => ⟨by have e : k = W.heap.size := hk; omega, by simp [Value.ownBlock]; have e : k = W.heap.size := hk; omega, by have e : k = W.heap.size := hk; show k < (W.alloc _).heap.size; simp; omega⟩) (by simp [headB]))
  have hlen : ∀ w' : World, w'.heap[bp]? = some (.map es cl) → Sem.run Tryz.prog (Builtin.len_ #[87] 3 #[Value.map (some bp)]) w' = Result.ok (.int .i64 (es.size : Int)) w' := fun w' h => map_len_run Tryz.underlying87 h _
  go_region_held3 (fun w' => w'.heap[bp]? = some (.map es cl) ∧ w'.cell? ⟨m, 0, none⟩ = some (.map (some bp)) ∧ w'.cell? ⟨m, 2, none⟩ = some (.int .i64 tok))
    (first | exact HS.out _ (Keep.refl _ W).drew | exact HS.out _ (((Keep.refl _ W).alloc _).drew) | exact HS.out _ (hk2.weaken fun k _ h => ⟨by omega, by simp [Value.ownBlock]; omega⟩))
    (first | (go_at_call 38; with_reducible refine Calls.mono HC.out ?_; rintro e w2 ⟨rfl, v2, hw2, hk2, -⟩))
  have hw2' : WAt W (.slice (some ⟨G, 0, none⟩) 3 3) G (G + 1) (sn1 s) w2 v2 := by unfold sn1; rw [← HA.out.2.2.2.2.2.2.2]; exact hw2
  obtain ⟨V1, hV1⟩ : ∃ V, V = Value.slice (some ⟨G, 0, none⟩) 3 3 := ⟨_, rfl⟩
  obtain ⟨S', hS'⟩ : ∃ S' : Nat → Prop, S' = fun j => S j ∧ j < w.heap.size := ⟨_, rfl⟩
  have HMk : Hid (∀ bs wr vr, WAt W V1 G (G + 1) bs wr vr → MSt S' wr m bp bl s ∧ Fresh w wr) := Lib.hid fun bs wr vr h => by
    have hk : Keep (fun k => k < G) W wr := h.tw.keep.weaken fun k _ hk => ⟨by omega, by rw [hV1]; simp [Value.ownBlock]; omega⟩
    have hG := HA.out.2.2.2.2.2.1
    have hF : Fresh w wr := HA.out.2.2.1.comp hk (fun _ _ h => h) (fun k hk _ => by omega)
    rw [hS']
    exact ⟨HA.out.1.tight.fresh hF, hF⟩
  have HSG : Hid (∀ j, S' j → j < G) := Lib.hid fun j h => by rw [hS'] at h; have := HA.out.2.2.2.2.2.1; omega
  rw [← hV1] at hw2'
  have H2 := Lib.hid hw2'
  have h2m := (HMk.out _ _ _ hw2').1
  have hml2 := h2m.blk.lt
  have HP := Lib.hid (pairs_any S' m bp bl s w2 h2m HA.out.2.1.pr)
  have hG2 : G + 1 < w2.heap.size := hw2'.wr.1.lt
  clear hw2 hw2' HC HS hlen hes hen hk2 h2m x0 x2 htok htok0 hV1 hS' ml hgl hmG hbG
  go_wp2_with fail
  refine HP.out.mono ?_
  rintro e w3 ⟨⟨vP, rfl, hoP⟩, f3⟩
  obtain ⟨AP, cP, rfl, hrP, -⟩ := own_rd hoP
  have H3 := Lib.hid (And.intro (H2.out.fresh f3) (And.intro hoP (And.intro hrP f3)))
  have hml3 : m < w3.heap.size := Nat.lt_of_lt_of_le hml2 f3.size
  have hG3 : G + 1 < w3.heap.size := Nat.lt_of_lt_of_le hG2 f3.size
  clear hoP hrP f3 HP hml2 hG2
  go_wp2_with fail
  go_loopw [31] (fun i wr => ∃ (k : Nat) (vr : Value), k ≤ s.pairs.length ∧ i = .int .i64 (k : Int) ∧ Hid (WAt W V1 G (G + 1) (sn2 s k) wr vr ∧ WrTo w3 v2 (G + 1) wr vr)) (fun i _ => s.pairs.length - (intOf i).toNat)
  case atStart => exact ⟨0, v2, by omega, rfl, Lib.hid ⟨by unfold sn2; simpa using H3.out.1, WrTo.refl _ _ _⟩⟩
  case round =>
    rename World => wr
    obtain ⟨k, vr, hk, rfl, HR⟩ := hrel
    by_cases hlt : k < s.pairs.length
    · obtain ⟨hwr, htw⟩ := HR.out
      have hz3 := htw.keep.size
      have hrr := H3.out.2.2.1.keep (htw.keep.weaken fun j hj h => ⟨fun e => own_ne_blk H3.out.2.1 H3.out.1.wr.1 (by decide) (e ▸ h), fun e => own_apart H3.out.1.wr.2 H3.out.2.1 (by decide) e h⟩)
      obtain ⟨b, o, rfl, -, hcl⟩ := hrr.2 (by omega)
      obtain ⟨t, ht⟩ : ∃ t, t = s.pairs[k].1 := ⟨_, rfl⟩
      obtain ⟨u, hu⟩ : ∃ u, u = s.pairs[k].2 := ⟨_, rfl⟩
      have c0 : wr.cell? ⟨b, o + k * 2, none⟩ = some (str t) := by
        have h1 := rcells_get pair_two s.pairs k hlt 0 (by omega)
        have h2 := hcl (k * 2 + 0) (str t) (by rw [h1, ht]; rfl)
        simpa [Nat.add_assoc] using h2
      have c1 : wr.cell? ⟨b, o + k * 2 + 1, none⟩ = some (str u) := by
        have h1 := rcells_get pair_two s.pairs k hlt 1 (by omega)
        have h2 := hcl (k * 2 + 1) (str u) (by rw [h1, hu]; rfl)
        simpa [Nat.add_assoc] using h2
      have hpe := HA.out.2.1.pr.each _ (List.getElem_mem hlt)
      have hki : (k : Int) < (s.pairs.length : Int) := by omega
      have hgr := hwr.wr.1.lt
      have hbl := (sn_len HA.out.2.1).1 k
      have hne : vr.ownBlock ≠ some (wr.heap.size + 1) := fun e => by have := (own_lt hwr.wr.2 e).2; omega
      have HC := Lib.hid (texts_step (wa := (wr.alloc (.cells #[str t, str u] 71)).alloc (.cells #[str t, str u] 9)) hwr [⟨t.toArray⟩, ⟨u.toArray⟩] (by intro x hx; simp only [List.mem_cons, List.not_mem_nil, or_false] at hx; rcases hx with rfl | rfl <;> (simp only [str_size]; first | (rw [ht]; omega) | (rw [hu]; omega))) (((Keep.refl _ wr).alloc _).alloc _) 2 (some ⟨wr.heap.size + 1, 0, none⟩) 2 _ (rd_txts (Blk.newAt (by simp)) _ rfl 2 rfl) (fun j hj => by have e : j = wr.heap.size + 1 := hj; exact ⟨by omega, by rw [e]; exact hne, by simp; omega⟩) (by omega))
      have HE := Lib.hid (show sn2 s k ++ txts [⟨t.toArray⟩, ⟨u.toArray⟩] = sn2 s (k + 1) by
        unfold sn2
        rw [← List.take_append_getElem hlt, List.flatMap_append, List.append_assoc]
        congr 1
        simp [txts, pairB, ht, hu])
      clear hwr htw hrr hcl ht hu hpe hne hbl
      go_wp2_with fail
      refine Calls.mono HC.out ?_
      rintro e w4 ⟨rfl, v4, hw4, hk4, hn4⟩
      rw [HE.out] at hw4
      have H4 := Lib.hid (And.intro hw4 (And.intro hk4 hn4))
      clear hw4 hk4 hn4 HC HE c0 c1
      go_wp2_with fail
      exact ⟨⟨k + 1, v4, by omega, by simp, Lib.hid ⟨H4.out.1, HR.out.2.step H4.out.2.1 H4.out.2.2⟩⟩, by simp only [intOf]; omega⟩
    · obtain rfl : k = s.pairs.length := by omega
      obtain ⟨hwr, -⟩ := HR.out
      have hmr := (HMk.out _ _ _ hwr).1
      obtain ⟨-, x1, -⟩ := hmr.three
      obtain ⟨ms, hls⟩ := hmr.lk
      have hll := hls.len
      have hl8 := HA.out.2.1.lk.len
      have HLS := Lib.hid hls
      have hmlr := hmr.blk.lt
      have hgr := hwr.wr.1.lt
      have hbl := (sn_len HA.out.2.1).1 s.pairs.length
      have hne : vr.ownBlock ≠ some wr.heap.size := fun e => by have := (own_lt hwr.wr.2 e).2; omega
      have HC := Lib.hid (counts_step (wa := wr.alloc (.cells #[.int .i64 (s.locks.length : Int)] 3)) hwr [(s.locks.length : Int)] (okInts_one (by omega) (by omega)) ((Keep.refl _ wr).alloc _) 1 (some ⟨wr.heap.size, 0, none⟩) 1 _ (rd_ints (Blk.new wr _ _) _ rfl 1 rfl) (fun j hj => by have e : j = wr.heap.size := hj; exact ⟨by omega, by rw [e]; exact hne, by simp; omega⟩) (by omega))
      clear hwr hmr hls hbl hne
      go_wp2_with (at_len; refine wpList_mlen rfl (.tmp 47) rfl Tryz.underlying88 rfl HLS.out.map ?_)
      refine Calls.mono HC.out ?_
      rintro e w5 ⟨rfl, v5, hw5, -, -⟩
      have hw5' : WAt W V1 G (G + 1) (sn3 s) w5 v5 := hw5
      have H5 := Lib.hid hw5'
      have hm5 := (HMk.out _ _ _ hw5').1
      have hml5 := hm5.blk.lt
      have HN := Lib.hid (locks_any S' m bp bl s w5 hm5 HA.out.2.1.lk)
      have hG5 : G + 1 < w5.heap.size := hw5'.wr.1.lt
      clear hw5 hw5' HC hm5 x1 hll HLS hmlr hgr
      go_wp2_with fail
      refine HN.out.mono ?_
      rintro e w6 ⟨⟨vN, rfl, hoN⟩, f6⟩
      obtain ⟨AN, cN, rfl, hrN, -⟩ := own_rd hoN
      have H6 := Lib.hid (And.intro (H5.out.fresh f6) (And.intro hoN (And.intro hrN f6)))
      have hml6 : m < w6.heap.size := Nat.lt_of_lt_of_le hml5 f6.size
      have hG6 : G + 1 < w6.heap.size := Nat.lt_of_lt_of_le hG5 f6.size
      clear hoN hrN f6 HN hml5 hG5
      go_wp2_with fail
      go_loopw [54] (fun i wr => ∃ (k : Nat) (vr : Value), k ≤ s.locks.length ∧ i = .int .i64 (k : Int) ∧ Hid (WAt W V1 G (G + 1) (sn4 s k) wr vr ∧ WrTo w6 v5 (G + 1) wr vr)) (fun i _ => s.locks.length - (intOf i).toNat)
      case atStart => exact ⟨0, v5, by omega, rfl, Lib.hid ⟨by unfold sn4; simpa using H6.out.1, WrTo.refl _ _ _⟩⟩
      case round =>
        rename World => wr
        obtain ⟨k, vr, hk, rfl, HR⟩ := hrel
        by_cases hlt : k < s.locks.length
        · obtain ⟨hwr, htw⟩ := HR.out
          have hz6 := htw.keep.size
          have hrr := H6.out.2.2.1.keep (htw.keep.weaken fun j hj h => ⟨fun e => own_ne_blk H6.out.2.1 H6.out.1.wr.1 (by decide) (e ▸ h), fun e => own_apart H6.out.1.wr.2 H6.out.2.1 (by decide) e h⟩)
          obtain ⟨b, o, rfl, -, hlx, hcl⟩ := hrr.at1 (by simpa using hlt)
          obtain ⟨l, hl⟩ : ∃ l, l = s.locks[k] := ⟨_, rfl⟩
          have hlm : l ∈ s.locks := hl ▸ List.getElem_mem hlt
          have hlo := HA.out.2.1.lk.each l hlm
          obtain ⟨t, ht⟩ : ∃ t, t = l.name := ⟨_, rfl⟩
          have c0 : wr.cell? ⟨b, o + k, none⟩ = some (str t) := by rw [hcl, ht, hl]; simp
          have hfl : lfind t s.locks = some l := by rw [ht]; exact findK_of HA.out.2.1.lk.rise hlm rfl
          have hmr := (HMk.out _ _ _ hwr).1
          obtain ⟨-, x1, -⟩ := hmr.three
          obtain ⟨ms, hls⟩ := hmr.lk
          obtain ⟨x, hx, hxl, hxk, hxi, hxf⟩ := lk_find hls hfl
          have ht8 : t.length ≤ 8 := by rw [ht]; exact hlo.n8
          have hlk := look_lk hls (k := t) (by omega) _ hxf 0
          rw [show wr.drewN 0 = wr from rfl] at hlk
          obtain ⟨h, hh⟩ : ∃ h, h = x.h := ⟨_, rfl⟩
          rw [← hh] at hlk
          have hmlr := hmr.blk.lt
          have hgr := hwr.wr.1.lt
          have hki : (k : Int) < (s.locks.length : Int) := by omega
          have hbl := (sn_len HA.out.2.1).2.2.1 k
          have hne : vr.ownBlock ≠ some wr.heap.size := fun e => by have := (own_lt hwr.wr.2 e).2; omega
          have HC := Lib.hid (texts_step (wa := wr.alloc (.cells #[str t] 9)) hwr [⟨t.toArray⟩] (by intro x hx; simp only [List.mem_cons, List.not_mem_nil, or_false] at hx; subst hx; simp only [str_size]; omega) ((Keep.refl _ wr).alloc _) 1 (some ⟨wr.heap.size, 0, none⟩) 1 _ (rd_txts (Blk.new wr _ _) _ rfl 1 rfl) (fun j hj => by have e : j = wr.heap.size := hj; exact ⟨by omega, by rw [e]; exact hne, by simp; omega⟩) (by omega))
          have HL := Lib.hid (And.intro hlm (And.intro hlo (And.intro ht (And.intro hl (And.intro hxl (And.intro hxi hh))))))
          clear hwr htw hrr hlx hcl hl hlm hlo ht hfl hmr hls hx hxl hxk hxi hxf hh hbl hne
          go_wp2_with fail
          refine Calls.mono HC.out ?_
          rintro e w7 ⟨rfl, v7, hw7, hk7, hn7⟩
          obtain ⟨hlm, hlo, ht, hl, hxl, hxi, hh⟩ := HL.out
          have hoG : ∀ bs wy vy, WAt W V1 G (G + 1) bs wy vy → ∀ wz, Keep (fun k => k ≠ G + 1 ∧ vy.ownBlock ≠ some k) wy wz → Keep (fun k => k < G) wy wz := fun bs wy vy h wz hk => hk.weaken fun k _ hk => ⟨by omega, fun e => by have := (own_lt h.wr.2 e).1; omega⟩
          have HoG := Lib.hid hoG
          have hk7G := hoG _ _ _ HR.out.1 _ hk7
          have hxi7 := hxi.keep hk7G (HSG.out _ hxi.sh) (fun k hk => HSG.out _ (hxi.sv k hk))
          obtain ⟨y0, y1, y2⟩ := hxi7.cells
          obtain ⟨AQ, cQ, hvQ, -, hrQ, -⟩ := hxi7.row.rd
          rw [hvQ] at y2
          rw [hxl] at y0 y1 y2 hvQ hrQ
          rw [← hh] at y0 y1 y2
          have hhl7 : h < w7.heap.size := by have := hxi7.blk.lt; rw [← hh] at this; exact this
          have hhG : h < G := by rw [hh]; exact HSG.out _ hxi.sh
          have hql := queue_len hlo.nd hlo.q
          have hqz : ∀ k, x.v.ownBlock = some k → k < G := fun k hk => HSG.out _ (hxi.sv k hk)
          rw [hvQ] at hrQ hqz
          obtain ⟨lh, hlh⟩ : ∃ z, z = l.holder := ⟨_, rfl⟩
          obtain ⟨lt, hlt2⟩ : ∃ z, z = l.token := ⟨_, rfl⟩
          obtain ⟨lq, hlq⟩ : ∃ z, z = l.queue := ⟨_, rfl⟩
          have b0 := hlo.h0; have b1 := hlo.h1; have b2 := hlo.t0; have b3 := hlo.t1; have b4 := HA.out.2.1.lk.tok1
          rw [← hlh] at y0 b0 b1
          rw [← hlt2] at y1 b2 b3
          rw [← hlq] at y2 hrQ hql hqz
          have hg7 := hw7.wr.1.lt
          have hl7 : (sn4 s k ++ txts [⟨t.toArray⟩]).length ≤ 1100 := by
            have h1 := (sn_len HA.out.2.1).2.2.1 k
            have h2 : (txts [⟨t.toArray⟩]).length ≤ 9 := by
              show (txt t ++ []).length ≤ 9
              rw [List.append_nil]
              exact txt_len9 ht8
            rw [List.length_append]
            omega
          have hne7 : v7.ownBlock ≠ some w7.heap.size := fun e => by have := (own_lt hw7.wr.2 e).2; omega
          have HC8 := Lib.hid (counts_step (wa := World.drew (w7.alloc (.cells #[.int .i64 lh, .int .i64 lt, .int .i64 (lq.length : Int)] 3))) hw7 [lh, lt, (lq.length : Int)] (by intro x hx; simp only [List.mem_cons, List.not_mem_nil, or_false] at hx; rcases hx with rfl | rfl | rfl <;> omega) (((Keep.refl _ w7).alloc _).drew) 3 (some ⟨w7.heap.size, 0, none⟩) 3 _ (rd_ints (Blk.new w7 _ _).drew _ rfl 3 rfl) (fun j hj => by have e : j = w7.heap.size := hj; exact ⟨by omega, by rw [e]; exact hne7, by show j < (w7.alloc _).heap.size; simp; omega⟩) (by omega))
          have HS7 := Lib.hid (fun w' (hk : Keep (fun k => k < G) w7 w') => (⟨hk.cellAt y0 hhG, hk.cellAt y1 hhG, hk.cellAt y2 hhG⟩ : w'.cell? ⟨h, 0, none⟩ = some (.int .i64 lh) ∧ w'.cell? ⟨h, 1, none⟩ = some (.int .i64 lt) ∧ w'.cell? ⟨h, 2, none⟩ = some (.slice AQ lq.length cQ)))
          have hto7 := HR.out.2.step hk7 hn7
          have H7 := Lib.hid (And.intro hw7 (And.intro hto7 (And.intro hrQ (And.intro hqz (And.intro hlo (And.intro ht (And.intro hl (And.intro hlh (And.intro hlt2 hlq)))))))))
          clear hlm hlo ht hl hxl hxi hh hoG hk7G hxi7 hvQ hrQ hqz hlh hlt2 hlq hl7 hne7 hw7 hto7 hk7 hn7 c0 x1 hlk HC hhl7
          go_upto_region 14 with (fail)
          go_region_held3 (fun w' => w'.cell? ⟨h, 0, none⟩ = some (.int .i64 lh) ∧ w'.cell? ⟨h, 1, none⟩ = some (.int .i64 lt) ∧ w'.cell? ⟨h, 2, none⟩ = some (.slice AQ lq.length cQ))
            (first | exact HS7.out _ (Keep.refl _ w7).drew | exact HS7.out _ (((Keep.refl _ w7).alloc _).drew) | exact HS7.out _ (HoG.out _ _ _ H7.out.1 _ hk8))
            (first | (go_at_call 38; with_reducible refine Calls.mono HC8.out ?_; rintro e w8 ⟨rfl, v8, hw8, hk8, hn8⟩))
          obtain ⟨y0, y1, y2⟩ := HS7.out _ (HoG.out _ _ _ H7.out.1 _ hk8)
          have hhl8 : h < w8.heap.size := lt_of_cell y2
          have hl8 : (sn4 s k ++ txts [⟨t.toArray⟩] ++ encs [lh, lt, (lq.length : Int)]).length ≤ 1200 := by
            have h1 := (sn_len HA.out.2.1).2.2.1 k
            have h2 : (txts [⟨t.toArray⟩]).length ≤ 9 := by
              show (txt t ++ []).length ≤ 9
              rw [List.append_nil]
              exact txt_len9 ht8
            have h3 : (encs [lh, lt, (lq.length : Int)]).length ≤ 9 * 3 := encs_len _ (by intro x hx; simp only [List.mem_cons, List.not_mem_nil, or_false] at hx; rcases hx with rfl | rfl | rfl <;> omega)
            rw [List.length_append, List.length_append]
            omega
          have hg8 := hw8.b1
          have HC9 := Lib.hid (counts_step (wa := w8) hw8 lq (by intro x hx; have h1 := H7.out.2.2.2.2.1.q x (by rw [← H7.out.2.2.2.2.2.2.2.2.2]; exact hx); omega) (Keep.refl _ w8) cQ AQ lq.length _ (H7.out.2.2.1.keep ((HoG.out _ _ _ H7.out.1 _ hk8).weaken fun k _ hk => H7.out.2.2.2.1 k hk)) (fun j hj => by have h1 := H7.out.2.2.2.1 j hj; exact ⟨by omega, fun e => by have := (own_lt hw8.wr.2 e).1; omega, by omega⟩) (by omega))
          have HE := Lib.hid (show sn4 s k ++ txts [⟨t.toArray⟩] ++ encs [lh, lt, (lq.length : Int)] ++ encs lq = sn4 s (k + 1) by
            obtain ⟨-, -, -, -, -, ht, hl, hlh, hlt2, hlq⟩ := H7.out
            have e : (s.locks.take (k + 1)).flatMap lockB = (s.locks.take k).flatMap lockB ++ lockB l := by rw [← List.take_append_getElem hlt, List.flatMap_append, ← hl]; simp
            unfold sn4
            rw [e, ht, hlh, hlt2, hlq]
            have e2 : txts [⟨l.name.toArray⟩] = txt l.name := by show txt l.name ++ [] = _; rw [List.append_nil]
            rw [e2]
            simp only [lockB, queueB, encs_cons, encs_nil, List.append_nil, List.append_assoc, Int.toNat_natCast]
            rfl)
          have H8 := Lib.hid (H7.out.2.1.step hk8 hn8)
          clear hw8 hk8 hn8 HC8 hl8
          go_wp2_with fail
          refine Calls.mono HC9.out ?_
          rintro e w9 ⟨rfl, v9, hw9, hk9, hn9⟩
          rw [HE.out] at hw9
          have H9 := Lib.hid (And.intro hw9 (H8.out.step hk9 hn9))
          clear hw9 hk9 hn9 HC9 HE y0 y1 y2
          go_wp2_with fail
          exact ⟨⟨k + 1, v9, by omega, by simp, H9⟩, by simp only [intOf]; omega⟩
        · obtain rfl : k = s.locks.length := by omega
          obtain ⟨hwr, -⟩ := HR.out
          have H0 := Lib.hid hwr
          have hmr := (HMk.out _ _ _ hwr).1
          have hmlr := hmr.blk.lt
          have hgr := hwr.wr.1.lt
          have HK := Lib.hid (asked_any S' m bp bl s wr hmr)
          have hal := askTo_len s.ss 16
          clear hwr hmr
          go_wp2_with fail
          refine Calls.mono HK.out ?_
          rintro e w10 ⟨⟨vK, rfl, hoK⟩, f10⟩
          obtain ⟨AK, cK, rfl, hrK, -⟩ := own_rd hoK
          have hw10 := H0.out.fresh f10
          have hg10 := hw10.wr.1.lt
          have hml10 : m < w10.heap.size := Nat.lt_of_lt_of_le hmlr f10.size
          have hb10 := (sn_len HA.out.2.1).2.2.1 s.locks.length
          have hne10 : vr.ownBlock ≠ some w10.heap.size := fun e => by have := (own_lt hw10.wr.2 e).2; omega
          have HC := Lib.hid (counts_step (wa := w10.alloc (.cells #[.int .i64 ((askTo s.ss 16).length : Int)] 3)) hw10 [((askTo s.ss 16).length : Int)] (okInts_one (by omega) (by omega)) ((Keep.refl _ w10).alloc _) 1 (some ⟨w10.heap.size, 0, none⟩) 1 _ (rd_ints (Blk.new w10 _ _) _ rfl 1 rfl) (fun j hj => by have e : j = w10.heap.size := hj; exact ⟨by omega, by rw [e]; exact hne10, by simp; omega⟩) (by omega))
          clear hoK hrK f10 HK hw10 hb10 hne10
          go_wp2_with fail
          refine Calls.mono HC.out ?_
          rintro e w11 ⟨rfl, v11, hw11, -, -⟩
          have hw11' : WAt W V1 G (G + 1) (sn5 s) w11 v11 := hw11
          have H11 := Lib.hid hw11'
          have hm11 := (HMk.out _ _ _ hw11').1
          have hml11 := hm11.blk.lt
          have HK := Lib.hid (asked_any S' m bp bl s w11 hm11)
          have hg11 := hw11'.wr.1.lt
          clear hw11 hw11' hm11 HC hml10 hg10
          go_wp2_with fail
          refine Calls.mono HK.out ?_
          rintro e w12 ⟨⟨vL, rfl, hoL⟩, f12⟩
          obtain ⟨AL, cL, rfl, hrL, -⟩ := own_rd hoL
          have H12 := Lib.hid (And.intro (H11.out.fresh f12) (And.intro hoL (And.intro hrL f12)))
          have hml12 : m < w12.heap.size := Nat.lt_of_lt_of_le hml11 f12.size
          have hg12 : G + 1 < w12.heap.size := Nat.lt_of_lt_of_le hg11 f12.size
          have hale : (askTo s.ss 16).length = (asked s.ss).length := by rw [askTo_all]; simp
          clear hoL hrL f12 HK hml11 hg11
          go_wp2_with fail
          have hoLi : Hid (∀ k (hk : k < (asked s.ss).length), (ics (askTo s.ss 16))[k]? = some (.int .i64 (((asked s.ss)[k]'hk).1 : Int))) := Lib.hid fun k hk => by
            rw [askTo_all]
            simp [ics, hk]
          go_loopw [100] (fun i wr => ∃ (k : Nat) (vr : Value), k ≤ (asked s.ss).length ∧ i = .int .i64 (k : Int) ∧ Hid (WAt W V1 G (G + 1) (sn6 s k) wr vr ∧ WrTo w12 v11 (G + 1) wr vr)) (fun i _ => (asked s.ss).length - (intOf i).toNat)
          case atStart => exact ⟨0, v11, by omega, rfl, Lib.hid ⟨by unfold sn6; simpa using H12.out.1, WrTo.refl _ _ _⟩⟩
          case round =>
            rename World => wr
            obtain ⟨k, vr, hk, rfl, HR⟩ := hrel
            by_cases hlt : k < (asked s.ss).length
            · obtain ⟨hwr, htw⟩ := HR.out
              have hz12 := htw.keep.size
              have hrr := H12.out.2.2.1.keep (htw.keep.weaken fun j hj h => ⟨fun e => own_ne_blk H12.out.2.1 H12.out.1.wr.1 (by decide) (e ▸ h), fun e => own_apart H12.out.1.wr.2 H12.out.2.1 (by decide) e h⟩)
              obtain ⟨b, o, rfl, -, hlx, hcl⟩ := hrr.at1 (by rw [hale]; exact hlt)
              obtain ⟨x, hx⟩ : ∃ x, x = (asked s.ss)[k] := ⟨_, rfl⟩
              obtain ⟨q, z⟩ := x
              have hxm : (q, z) ∈ asked s.ss := hx ▸ List.getElem_mem hlt
              obtain ⟨hq16, hso⟩ := ses_asked HA.out.2.1 hxm
              obtain ⟨-, hzq, -⟩ := asked_mem.1 hxm
              simp only at hq16 hso hzq
              have c0 : wr.cell? ⟨b, o + k, none⟩ = some (.int .i64 (q : Int)) := by
                have h1 := hoLi.out k hlt
                rw [← hx] at h1
                rw [List.getElem?_eq_getElem hlx] at h1
                rw [hcl]
                exact h1
              have hmr := (HMk.out _ _ _ hwr).1
              have hmlr := hmr.blk.lt
              have hgr := hwr.wr.1.lt
              have hqi : (q : Int) < 16 := by omega
              have hki : (k : Int) < ((asked s.ss).length : Int) := by omega
              have s0 := hmr.ses hq16 0 (by omega)
              have s1 := hmr.ses hq16 1 (by omega)
              have s2 := hmr.ses hq16 2 (by omega)
              have s3 := hmr.ses hq16 3 (by omega)
              have s4 := hmr.ses hq16 4 (by omega)
              rw [← hzq] at s0 s1 s2 s3 s4
              simp [MSess.cells] at s0 s1 s2 s3 s4
              have g0 := hso.i0; have g1 := hso.i1; have g2 := hso.r0; have g3 := hso.r1; have g4 := hso.last.c0; have g5 := hso.last.c1; have g6 := hso.last.n0; have g7 := hso.last.n1; have g8 := hso.last.v
              obtain ⟨zi, hzi⟩ : ∃ y, y = z.inc := ⟨_, rfl⟩
              obtain ⟨zr, hzr⟩ : ∃ y, y = z.req := ⟨_, rfl⟩
              obtain ⟨zc, hzc⟩ : ∃ y, y = z.last.code := ⟨_, rfl⟩
              obtain ⟨zv, hzv⟩ : ∃ y, y = z.last.val := ⟨_, rfl⟩
              obtain ⟨zn, hzn⟩ : ∃ y, y = z.last.n := ⟨_, rfl⟩
              rw [← hzi] at s0 g0 g1
              rw [← hzr] at s1 g2 g3
              rw [← hzc] at s2 g4 g5
              rw [← hzv] at s3 g8
              rw [← hzn] at s4 g6 g7
              have hbl := (sn_len HA.out.2.1).2.2.2.2 k
              have hfA : Fresh wr (wr.alloc (.cells #[.int .i64 zi, .int .i64 zr, .int .i64 zc, str zv, .int .i64 zn] 41)) := (Keep.refl _ wr).alloc _
              have hwA := hwr.fresh hfA
              have hbA : Blk (wr.alloc (.cells #[.int .i64 zi, .int .i64 zr, .int .i64 zc, str zv, .int .i64 zn] 41)) wr.heap.size 41 #[.int .i64 zi, .int .i64 zr, .int .i64 zc, str zv, .int .i64 zn] := Blk.new _ _ _
              have hne : vr.ownBlock ≠ some (wr.heap.size + 1) ∧ vr.ownBlock ≠ some wr.heap.size := ⟨fun e => by have := (own_lt hwr.wr.2 e).2; omega, fun e => by have := (own_lt hwr.wr.2 e).2; omega⟩
              have HC := Lib.hid (counts_step (wa := (wr.alloc (.cells #[.int .i64 zi, .int .i64 zr, .int .i64 zc, str zv, .int .i64 zn] 41)).alloc (.cells #[.int .i64 (q : Int), .int .i64 zi, .int .i64 zr, .int .i64 zc] 3)) hwA [(q : Int), zi, zr, zc] (by intro x hx; simp only [List.mem_cons, List.not_mem_nil, or_false] at hx; rcases hx with rfl | rfl | rfl | rfl <;> omega) ((Keep.refl _ _).alloc _) 4 (some ⟨wr.heap.size + 1, 0, none⟩) 4 _ (rd_ints (Blk.newAt (by simp)) _ rfl 4 rfl) (fun j hj => by have e : j = wr.heap.size + 1 := hj; exact ⟨by omega, by rw [e]; exact hne.1, by simp; omega⟩) (by omega))
              have HX := Lib.hid (And.intro hwA (And.intro hbA (And.intro hne (And.intro hx (And.intro hzi (And.intro hzr (And.intro hzc (And.intro hzv hzn))))))))
              have htA := Lib.hid (htw.fresh hfA)
              clear hwr htw hrr hlx hcl hx hxm hso hzq hmr hbl hfA hwA hbA hne hzi hzr hzc hzv hzn
              go_wp2_with fail
              refine Calls.mono HC.out ?_
              rintro e w13 ⟨rfl, v13, hw13, hk13, hn13⟩
              have hb13 := HX.out.2.1.keep hk13 ⟨by omega, HX.out.2.2.1.2⟩
              have d3 := hb13.cell 3
              have d4 := hb13.cell 4
              simp at d3 d4
              have hl13 := hb13.lt
              have hg13 := hw13.wr.1.lt
              have hne13 : v13.ownBlock ≠ some w13.heap.size := fun e => by have := (own_lt hw13.wr.2 e).2; omega
              have hlen13 : (sn6 s k ++ encs [(q : Int), zi, zr, zc]).length ≤ 1200 := by
                have h1 := (sn_len HA.out.2.1).2.2.2.2 k
                have h3 : (encs [(q : Int), zi, zr, zc]).length ≤ 9 * 4 := encs_len _ (by intro x hx; simp only [List.mem_cons, List.not_mem_nil, or_false] at hx; rcases hx with rfl | rfl | rfl | rfl <;> omega)
                rw [List.length_append]
                omega
              have HC2 := Lib.hid (texts_step (wa := w13.alloc (.cells #[str zv] 9)) hw13 [⟨zv.toArray⟩] (by intro x hx; simp only [List.mem_cons, List.not_mem_nil, or_false] at hx; subst hx; simp only [str_size]; omega) ((Keep.refl _ w13).alloc _) 1 (some ⟨w13.heap.size, 0, none⟩) 1 _ (rd_txts (Blk.new w13 _ _) _ rfl 1 rfl) (fun j hj => by have e : j = w13.heap.size := hj; exact ⟨by omega, by rw [e]; exact hne13, by simp; omega⟩) (by omega))
              have H13 := Lib.hid (And.intro hw13 (And.intro (htA.out.step hk13 hn13) (And.intro hb13 hlen13)))
              clear hw13 hk13 hn13 hb13 hne13 hlen13 HC c0 s0 s1 s2 s3 s4
              go_wp2_with fail
              refine Calls.mono HC2.out ?_
              rintro e w14 ⟨rfl, v14, hw14, hk14, hn14⟩
              have hneB : v13.ownBlock ≠ some wr.heap.size := fun e => own_ne_blk H13.out.1.wr.2 H13.out.2.2.1 (by decide) e
              have hb14 := H13.out.2.2.1.keep hk14 ⟨by omega, hneB⟩
              have d4 := hb14.cell 4
              simp at d4
              have hl14 := hb14.lt
              have hg14 := hw14.wr.1.lt
              have hne14 : v14.ownBlock ≠ some w14.heap.size := fun e => by have := (own_lt hw14.wr.2 e).2; omega
              have hlen14 : (sn6 s k ++ encs [(q : Int), zi, zr, zc] ++ txts [⟨zv.toArray⟩]).length ≤ 1300 := by
                have h1 := H13.out.2.2.2
                have h2 : (txts [⟨zv.toArray⟩]).length ≤ 9 := by
                  show (txt zv ++ []).length ≤ 9
                  rw [List.append_nil]
                  exact txt_len9 g8
                rw [List.length_append]
                omega
              have HC3 := Lib.hid (counts_step (wa := w14.alloc (.cells #[.int .i64 zn] 3)) hw14 [zn] (okInts_one (by omega) (by omega)) ((Keep.refl _ w14).alloc _) 1 (some ⟨w14.heap.size, 0, none⟩) 1 _ (rd_ints (Blk.new w14 _ _) _ rfl 1 rfl) (fun j hj => by have e : j = w14.heap.size := hj; exact ⟨by omega, by rw [e]; exact hne14, by simp; omega⟩) (by omega))
              have HE := Lib.hid (show sn6 s k ++ encs [(q : Int), zi, zr, zc] ++ txts [⟨zv.toArray⟩] ++ encs [zn] = sn6 s (k + 1) by
                obtain ⟨-, -, -, hx, hzi, hzr, hzc, hzv, hzn⟩ := HX.out
                have e : ((asked s.ss).take (k + 1)).flatMap sesB = ((asked s.ss).take k).flatMap sesB ++ sesB (q, z) := by rw [← List.take_append_getElem hlt, List.flatMap_append, ← hx]; simp
                unfold sn6
                rw [e, hzi, hzr, hzc, hzv, hzn]
                have e2 : txts [⟨z.last.val.toArray⟩] = txt z.last.val := by show txt z.last.val ++ [] = _; rw [List.append_nil]
                rw [e2]
                simp only [sesB, encs_cons, encs_nil, List.append_nil, List.append_assoc, Int.toNat_natCast])
              have H14 := Lib.hid (H13.out.2.1.step hk14 hn14)
              clear hw14 hk14 hn14 hb14 hne14 hlen14 hneB HC2
              go_wp2_with fail
              refine Calls.mono HC3.out ?_
              rintro e w15 ⟨rfl, v15, hw15, hk15, hn15⟩
              rw [HE.out] at hw15
              have H15 := Lib.hid (And.intro hw15 (H14.out.step hk15 hn15))
              clear hw15 hk15 hn15 HC3 HE
              go_wp2_with fail
              exact ⟨⟨k + 1, v15, by omega, by simp, H15⟩, by simp only [intOf]; omega⟩
            · obtain rfl : k = (asked s.ss).length := by omega
              obtain ⟨hwr, -⟩ := HR.out
              rw [sn_all] at hwr
              have hF := (HMk.out _ _ _ hwr).2
              have hNib := HA.out.2.2.2.2.2.2.1 _ hF
              obtain ⟨Av, cv, hvv, hrv, -⟩ := own_rd hwr.wr.2
              have hbv := hwr.wr.1
              have hov := hwr.wr.2
              have hbl : (bodyB s).length ≤ 1070 := by have := (sn_len HA.out.2.1).2.2.2.2 (asked s.ss).length; rw [sn_all] at this; exact this
              rw [hvv] at hbv hov
              have y0 := hbv.cell 0
              simp at y0
              have hgr := hbv.lt
              have HU := Lib.hid (sum_any _ Av (bodyB s).length cv (bodyB s) wr hrv (by omega) hNib)
              have HV := Lib.hid (And.intro hov (And.intro hF hwr.b1))
              obtain ⟨sm, hsm⟩ : ∃ sm, sm = crcB (bodyB s) := ⟨_, rfl⟩
              have hs32 : sm < 4294967296 := hsm ▸ crcB_lt _
              rw [← hsm] at HU
              have HSM := Lib.hid hsm
              clear hwr hF hNib hrv hbv hov hvv hsm
              go_wp2_with fail
              refine Calls.mono HU.out ?_
              rintro e _ ⟨rfl, rfl⟩
              have hi0 : 0 ≤ (sm : Int) := by omega
              have hi1 : (sm : Int) < 4294967296 := by omega
              go_upto_region 27 with (fail)
              have HN4 := Lib.hid (sum_cells (bodyB s) sm HSM.out)
              go_wp2_with (at_builtin; refine wpList_app etU8 rfl (.tmp 142) (.tmp 154) rfl G _ (bodyB s).length (Lib.byteCells (bodyB s)) rfl (HV.out.1.alloc _) _ (some ⟨wr.heap.size, 0, none⟩) 4 4 [.int .u8 ((sm : Int) % 256), .int .u8 ((sm : Int) / 256 % 256), .int .u8 ((sm : Int) / 65536 % 256), .int .u8 ((sm : Int) / 16777216)] rfl ((Blk.new wr _ _).rd rfl) (fun h => by cases h) (by intro u hu; simp only [List.mem_cons, List.not_mem_nil, or_false] at hu; rcases hu with rfl | rfl | rfl | rfl <;> rfl) (by omega) (by have := HV.out.2.2; simp; omega) ?_)
              intro vF wF hoF hkF hnF
              have HFin := Lib.hid (And.intro hoF hkF)
              clear hoF hkF hnF
              go_wp2_with fail
              go_ret
              obtain ⟨hoF, hkF⟩ := HFin.out
              obtain ⟨hov, hF, hB⟩ := HV.out
              rw [HN4.out] at hoF
              have hG := HA.out.2.2.2.2.2.1
              have e : Lib.byteCells (bodyB s) ++ Lib.byteCells (sumB (bodyB s)) = Lib.byteCells (snapB s) := by unfold snapB; simp [Lib.byteCells]
              have e2 : (bodyB s).length + 4 = (snapB s).length := by unfold snapB; rw [List.length_append, sumB_four]
              rw [e, e2, hG] at hoF
              exact ⟨⟨_, rfl, hoF⟩, (hF.comp ((Keep.refl (fun _ => True) wr).alloc _) (fun _ _ h => h) (fun _ _ _ => trivial)).comp hkF (fun _ _ h => h) (fun i hi _ e => by have := (own_lt hov e).1; omega)⟩
end Go.Proofs.YtlibhkehebioeaaGreatDoor
