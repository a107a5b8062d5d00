/-
  MERGED: Lock Add
-/
import Derived.Test.YtohnmaindbgngaaGreatDoorQ8
import Derived.Deep.RegionHeld3
import Derived.Deep.RegionLaw
import Derived.RegionCalls
import Derived.Lib.AtoiBound
namespace Go.Proofs.YtohnmaindbgngaaGreatDoor
set_option linter.unusedVariables false
set_option linter.unusedSimpArgs false
open Go.RowKit

section
variable {P : Program} {w : World} {t e : TypeId} {bytes : Nat} {z : Value}
/-- 'append(q, y)' as a step of a region that draws its order. -/
theorem step_appAt (E : ET P t e 1 bytes z) {ops : Array Oper} {o : Oper} {a : Act} {K : Act → World → Prop} {Q : Exit → Act → World → Prop} {Els : Prop} (hgd : o.guard = none) (s x : Operand)
    (ho : o.op = .call { callee := .builtin .append, args := #[s, x], argTypes := #[t, t] })
    (base : Nat) (v : Value) (n : Nat) (xs : List Value) (hs : a.eval s = v) (hown : OwnAt w base e v n xs) (Z : Nat → Prop) (ad : Addr) (c : Nat) (y : Value) (hx : a.eval x = .slice (some ad) 1 c) (hr : Rd w Z 1 (some ad) 1 [y])
    (h1 : y.oneCell' = true) (hb : (n + 1) * bytes ≤ 140737488355328) (hbase : base ≤ w.heap.size)
    (h : ∀ v' w', OwnAt w' base e v' (n + 1) (xs ++ [y]) → Keep (fun k => v.ownBlock ≠ some k) w w' → Next w.heap.size v v' → K (a.put o.dst v') w') :
    if Region.wanted o (yielded ops a.tmps) = true then Oper.wp P o a w K Q else Els := by
  have hw : Region.wanted o (yielded ops a.tmps) = true := by simp [Region.wanted, hgd]
  rw [if_pos hw]
  obtain ⟨v', w', hrun, h2, h3, h4⟩ := run_app_at E o.type (c := c) hown hr h1 hb hbase
  unfold Oper.wp execOp
  simp only [ho, resolve, invoke, builtin, Sem.run_bind, Sem.run_pure, Result.andThen_ok, List.map_toArray, List.map_cons, List.map_nil, hs, hx, hrun]
  exact h v' w' h2 h3 h4
/- 'm[k] = v' as such a step (not used: the tactic takes laws at calls alone). -/
theorem step_mstore {k : TypeId} {b : Nat} {ps : List Kv} {ops : Array Oper} {o : Oper} {a : Act} {K : Act → World → Prop} {Q : Exit → Act → World → Prop} {Els : Prop} (hgd : o.guard = none) (m x v : Operand) (hop : o.op = Op.mapUpdate t m x v)
    (hk : P.underlying k = some .string) (ht : P.underlying t = some (.map k e)) (hm : a.eval m = .map (some b)) (h : MapIs P k w b ps) (hn : ps.length < maxLen) {l : List UInt8} (hl : l.length ≤ maxLen) (hx : a.eval x = .string ⟨l.toArray⟩) (u : Value) (hv : a.eval v = u)
    (hK : ∀ w', MapIs P k w' b (mput l u ps) → Keep (fun i => i ≠ b) w w' → K (a.put o.dst undef) w') : if Region.wanted o (yielded ops a.tmps) = true then Oper.wp P o a w K Q else Els := by
  have hw : Region.wanted o (yielded ops a.tmps) = true := by simp [Region.wanted, hgd]
  rw [if_pos hw]
  obtain ⟨w', hrun, r1, r2⟩ := h.store hk ht hn hl u
  unfold Oper.wp
  simp [execOp, hop, hm, hx, hv, hrun, Result.andThen]
  exact hK w' r1 r2
end
theorem size_setCell_drewN (w : World) (q : Nat) (p : Addr) (u : Value) : ((w.drewN q).setCell p u).heap.size = w.heap.size := by simp [World.setCell, World.drewN]
theorem int_infoL : (Tryz.prog.info? 3).map (fun i => (i.zero, i.size, i.bytes)) = some (some (.int .i64 0), 1, 8) := by kernel_rfl
theorem etIntL : ET Tryz.prog 23 3 1 8 (.int .i64 0) := ⟨Tryz.underlying23, int_infoL, rfl, by decide, by decide⟩

set_option maxRecDepth 20000 in
set_option maxHeartbeats 2000000 in
theorem lock_any (S : Nat → Prop) (m bp bl : Nat) (s : StD) (c i r : Int) (k v d : Txt) (w : World) (hm : MSt S w m bp bl s) (hi : LInv s.locks s.tok) (hk : k.length ≤ 8) :
    Calls Tryz.prog 51 #[.pointer (some ⟨m, 0, none⟩), cmdV c i r 6 k v d] w (OpPost S m bp bl (onLockD numb c 6 k v s) w) := by
  obtain ⟨X, hX⟩ : ∃ X, X = onLockD numb c 6 k v s := ⟨_, rfl⟩
  rw [← hX]
  have HO := Lib.hid (op_at w c i r 6 k v d)
  obtain ⟨G, hG⟩ : ∃ G, G = w.heap.size := ⟨_, rfl⟩
  obtain ⟨W, hW⟩ : ∃ W, W = (w.alloc (.cells #[.int .i64 c, .int .i64 i, .int .i64 r, .int .i64 6, str k, str v, str d] 43)).alloc (.cells #[.int .i64 0, str [], .int .i64 0] 49) := ⟨_, rfl⟩
  rw [← hW, ← hG] at HO
  obtain ⟨k0, k4, k5, k6, kl⟩ := HO.out.cells
  have hmW := hm.tight.fresh HO.out.fresh
  obtain ⟨-, x1, x2⟩ := hmW.three
  have hmlt := hmW.blk.lt
  have hml := hm.blk.lt
  have hbl := hm.pm.lt
  have HA := Lib.hid (And.intro hm (And.intro hmW (And.intro hX hi)))
  obtain ⟨ms, hls⟩ := hmW.lk
  have HLS := Lib.hid hls
  clear hm hmW hX hi
  cases hf : lfind k s.locks with
  | none =>
    have hlk := look_lk hls (k := k) (by omega) _ (show _ = .pointer none by rw [hls.gone hf]; rfl)
    have hll := hls.len
    clear hls
    by_cases hful : 8 ≤ s.locks.length
    · have hfi : (8 : Int) ≤ (s.locks.length : Int) := by omega
      go_enter Tryz.func51, Tryz.ntmps51
      go_wp2_with fail
      simp only [← hG]
      rw [← hW]
      clear hW hG
      go_quiet (fail)
      go_wp2_with fail
      go_quiet (fail)
      go_wp2_with (at_len; refine wpList_mlen rfl (.tmp 65) rfl Tryz.underlying75 rfl (HLS.out.map.keep ((Keep.refl (fun _ => True) W).drewN _) trivial) ?_)
      refine (code_any _ _).mono ?_
      rintro e W4 ⟨rfl, f4⟩
      have HF := Lib.hid (((Keep.refl _ W).drewN _).trans f4)
      obtain ⟨r0, r1, r2, s0, s1, s2, rl⟩ := res_facts (HO.out.res.keep HF.out trivial)
      clear f4
      go_wp2_with fail
      obtain ⟨hm, hmW, hX, hi⟩ := HA.out
      have e : X = (⟨4, [], 0⟩, s) := by rw [hX]; unfold onLockD; rw [hf]; simp [hful]
      rw [e]
      exact op_ret rfl rfl rfl (hmW.fresh HF.out) (fun j h => .inl h.1) hml hbl hm.nm hm.nb (HO.out.res.keep HF.out trivial) (by have := HO.out.sz; omega) ((HO.out.fresh.trans HF.out).weaken fun _ _ _ => trivial)
    · have hfi : ¬ (8 : Int) ≤ (s.locks.length : Int) := by omega
      obtain ⟨tok, htok⟩ : ∃ t, t = s.tok := ⟨_, rfl⟩
      have ht0 := HA.out.2.2.2.tok0
      have ht1 := HA.out.2.2.2.tok1
      rw [← htok] at x2 ht0 ht1
      have HT := Lib.hid htok
      clear htok
      by_cases hsp : 99999999 ≤ tok
      · go_enter Tryz.func51, Tryz.ntmps51
        go_wp2_with fail
        simp only [← hG]
        rw [← hW]
        clear hW hG
        go_quiet (fail)
        go_wp2_with fail
        go_quiet (fail)
        go_wp2_with (at_len; refine wpList_mlen rfl (.tmp 65) rfl Tryz.underlying75 rfl (HLS.out.map.keep ((Keep.refl (fun _ => True) W).drewN _) trivial) ?_)
        refine (code_any _ _).mono ?_
        rintro e W4 ⟨rfl, f4⟩
        have HF := Lib.hid (((Keep.refl _ W).drewN _).trans f4)
        obtain ⟨r0, r1, r2, s0, s1, s2, rl⟩ := res_facts (HO.out.res.keep HF.out trivial)
        clear f4
        go_wp2_with fail
        obtain ⟨hm, hmW, hX, hi⟩ := HA.out
        have e : X = (⟨11, [], 0⟩, s) := by rw [hX]; unfold onLockD; rw [hf]; simp [hful, ← HT.out, hsp]
        rw [e]
        exact op_ret rfl rfl rfl (hmW.fresh HF.out) (fun j h => .inl h.1) hml hbl hm.nm hm.nb (HO.out.res.keep HF.out trivial) (by have := HO.out.sz; omega) ((HO.out.fresh.trans HF.out).weaken fun _ _ _ => trivial)
      · go_enter Tryz.func51, Tryz.ntmps51
        go_wp2_with fail
        simp only [← hG]
        rw [← hW]
        clear hW hG
        go_quiet (fail)
        obtain ⟨W1, hW1⟩ : ∃ z, z = W.drewN nq := ⟨_, rfl⟩
        have hQ1 : Fresh W W1 := hW1 ▸ (Keep.refl _ W).drewN nq
        rw [← hW1]
        replace x1 := hQ1.cellAt x1 trivial
        replace x2 := hQ1.cellAt x2 trivial
        replace k0 := hQ1.cellAt k0 trivial
        replace k4 := hQ1.cellAt k4 trivial
        have kl1 : G < W1.heap.size := Nat.lt_of_lt_of_le kl hQ1.size
        have hml1 : m < W1.heap.size := Nat.lt_of_lt_of_le hmlt hQ1.size
        have HQ1 := Lib.hid hQ1
        clear hW1 hlk k5 k6 hQ1
        go_wp2_with fail
        go_quiet (fail)
        obtain ⟨W2, hW2⟩ : ∃ z, z = W1.drewN nq := ⟨_, rfl⟩
        have hQ2 : Fresh W1 W2 := hW2 ▸ (Keep.refl _ W1).drewN nq
        rw [← hW2]
        replace x1 := hQ2.cellAt x1 trivial
        replace x2 := hQ2.cellAt x2 trivial
        replace k0 := hQ2.cellAt k0 trivial
        replace k4 := hQ2.cellAt k4 trivial
        have kl2 : G < W2.heap.size := Nat.lt_of_lt_of_le kl1 hQ2.size
        have hml2 : m < W2.heap.size := Nat.lt_of_lt_of_le hml1 hQ2.size
        have HQ2 := Lib.hid (HQ1.out.trans hQ2)
        clear hW2 hQ2 hml1 kl1
        have HLm := Lib.hid (HLS.out.map.keep HQ2.out trivial)
        go_wp2_with (at_len; refine wpList_mlen rfl (.tmp 65) rfl Tryz.underlying75 rfl HLm.out ?_)
        have hM2 := HA.out.2.1.fresh HQ2.out
        have hf2 := hM2.blk.frozen 2
        have HNx := Lib.hid (next_any m tok W2.drew x2 hf2 ht0 ht1)
        have hmb : m ≠ bl := fun e => HLS.out.map.ne_blk HA.out.2.1.blk e.symm
        have hGm : G ≠ m ∧ G ≠ bl := ⟨by have := HO.out.sz; omega, fun e => HLS.out.map.ne_blk HO.out.cmd e.symm⟩
        obtain ⟨W3, hW3⟩ : ∃ z, z = W2.drew.setCell ⟨m, 2, none⟩ (.int .i64 (tok + 1)) := ⟨_, rfl⟩
        have hk3 : Keep (fun j => j ≠ m) W2 W3 := hW3 ▸ ((Keep.refl _ W2).drew).setCell (fun _ h => h rfl) _
        have hb3 : Blk W3 m 80 (mchcells bp bl (tok + 1) s.ss).toArray := by
          have h1 := (hM2.blk.drew.set 2 (.int .i64 (tok + 1)))
          rw [mcells_tok] at h1
          rw [hW3]
          exact h1
        have hs3 : W2.heap.size ≤ W3.heap.size := hk3.size
        replace HNx := Lib.hid (HNx.out.mono fun e w' h => (⟨h.1, hW3.trans h.2.symm⟩ : e = .returned (.int .i64 (tok + 1)) ∧ W3 = w'))
        obtain ⟨W4, hW4⟩ : ∃ z, z = W3.alloc (.cells #[.int .i64 c, .int .i64 (tok + 1), .slice none 0 0] 121) := ⟨_, rfl⟩
        have hk4 : Fresh W3 W4 := hW4 ▸ (Keep.refl _ W3).alloc _
        have hb4 : Blk W4 W3.heap.size 121 #[.int .i64 c, .int .i64 (tok + 1), .slice none 0 0] := hW4 ▸ Blk.new _ _ _
        obtain ⟨W5, hrun, hm5, hk5⟩ := ((HLm.out.keep hk3 (fun e => hmb e.symm)).keep hk4 trivial).store Tryz.underlying9 Tryz.underlying75 (by rw [hll]; simp only [maxLen]; omega) (l := k) (by simp only [maxLen]; omega) (.pointer (some ⟨W3.heap.size, 0, none⟩))
        have hG3 : ∀ w', Keep (fun j => j ≠ m ∧ j ≠ bl) W2 w' → Blk w' m 80 (mchcells bp bl (tok + 1) s.ss).toArray → w'.cell? ⟨m, 1, none⟩ = some (.map (some bl)) ∧ w'.cell? ⟨G, 0, none⟩ = some (.int .i64 c) ∧ w'.cell? ⟨G, 4, none⟩ = some (str k) := fun w' h1 h2 => ⟨h2.cell 1, h1.cellAt k0 hGm, h1.cellAt k4 hGm⟩
        have hS3 := hG3 W3 (hk3.weaken fun _ _ h => h.1) hb3
        have hS4 := hG3 W4 ((hk3.comp hk4 (fun _ _ h => h.1) (fun _ _ _ => trivial))) (hb3.keep hk4 trivial)
        have hb5 := (hb3.keep hk4 trivial).keep hk5 hmb
        have x25 : W5.cell? ⟨m, 2, none⟩ = some (.int .i64 (tok + 1)) := hb5.cell 2
        have hml5 := hb5.lt
        have hr4 : Hid (∀ z : World, z = W4 → z = W4) := Lib.hid fun _ h => h
        have hS5 := hG3 W5 ((hk3.comp hk4 (fun _ _ h => h.1) (fun _ _ _ => trivial)).comp hk5 (fun _ _ h => h) (fun _ _ h => h.2)) hb5
        have HS := Lib.hid (And.intro hS3 hS4)
        have HS5 := Lib.hid hS5
        have H5 := Lib.hid (And.intro hm5 (And.intro hk5 (And.intro hb5 (And.intro hk3 (And.intro hk4 (And.intro hb4 hs3))))))
        rw [hW4] at hrun
        rw [hW4] at HS
        clear hM2 hS3 hS4 hS5 hm5 hk5 hb5 hk3 hk4 hb4 hb3 hG3 hr4 x2 hW3 hW4
        go_region_held3 (fun w' => w'.cell? ⟨m, 1, none⟩ = some (.map (some bl)) ∧ w'.cell? ⟨G, 0, none⟩ = some (.int .i64 c) ∧ w'.cell? ⟨G, 4, none⟩ = some (str k))
          (first | exact ⟨x1, k0, k4⟩ | exact HS.out.1 | exact HS.out.2 | exact HS5.out)
          (first
            | (go_at_call 85; refine HNx.out.mono ?_; rintro e _ ⟨rfl, rfl⟩))
        clear x1 k0 k4 hrun HNx
        go_wp2_with fail
        refine (done_any _ _ W5).mono ?_
        rintro e W6 ⟨rfl, f6⟩
        obtain ⟨hm5, hk5, hb5, hk3, hk4, hb4, -⟩ := H5.out
        have hblW := HLS.out.map.lt
        have hkW5 : Keep (fun j => j ≠ m ∧ j ≠ bl) W W5 := ((HQ2.out.comp hk3 (fun _ _ _ => trivial) (fun _ _ h => h.1)).comp hk4 (fun _ _ h => h) (fun _ _ _ => trivial)).comp hk5 (fun _ _ h => h) (fun _ _ h => h.2)
        have hsz := HO.out.sz
        have hz2 := HQ2.out.size
        have hbr := HO.out.res.keep hkW5 ⟨by omega, fun e => HLS.out.map.ne_blk HO.out.res e.symm⟩
        have hM2 := HA.out.2.1
        have hMS : MSt (fun j => (S j ∧ j < w.heap.size) ∨ W.heap.size ≤ j) W5 m bp bl { s with locks := insK LockD.name ⟨k, c, tok + 1, []⟩ s.locks, tok := tok + 1 } := by
          refine ⟨hb5, hM2.len, hM2.pm.keep hkW5 ⟨fun e => hM2.mp e.symm, hM2.ne⟩, ⟨_, HLS.out.ins ⟨⟨k, c, tok + 1, []⟩, W3.heap.size, .slice none 0 0⟩ hm5 hkW5 (fun j hj h => ⟨fun e => hM2.nm (by rw [← e]; exact hj), h⟩) (S' := fun j => (S j ∧ j < w.heap.size) ∨ W.heap.size ≤ j) ⟨hb4.keep hk5 (by omega), OwnAt.nil _ _ _, .inr (by show W.heap.size ≤ W3.heap.size; omega), fun k hk => by cases hk⟩ (fun _ h => .inl h) (findK_none hf) (by show W.heap.size ≤ W3.heap.size; omega) rfl⟩, fun e => e.elim hM2.nm fun e => by omega, fun e => e.elim hM2.nb fun e => by have := hM2.pm.lt; omega⟩
        have H6 := Lib.hid (And.intro hMS (And.intro hkW5 (And.intro f6 (hbr.keep f6 trivial))))
        obtain ⟨r0, r1, r2, s0, s1, s2, rl⟩ := res_facts H6.out.2.2.2
        clear hm5 hk5 hb5 hk3 hk4 hb4 hkW5 hsz hz2 hbr hM2 hMS f6 hblW
        go_wp2_with fail
        obtain ⟨hm, hmW, hX, hi⟩ := HA.out
        have e : X = (⟨1, [], tok + 1⟩, { s with locks := insK LockD.name ⟨k, c, tok + 1, []⟩ s.locks, tok := tok + 1 }) := by
          rw [hX]
          unfold onLockD
          rw [hf, ← HT.out]
          simp only [if_true]
          rw [if_neg hful, if_neg (by omega)]
        rw [e]
        have hsz := HO.out.sz
        have hz := HO.out.fresh.size
        exact op_ret rfl rfl rfl (H6.out.1.fresh H6.out.2.2.1) (fun j h => h.elim (fun h => .inl h.1) fun h => .inr (by omega)) hml hbl hm.nm hm.nb H6.out.2.2.2 (by omega) ((HO.out.fresh.comp H6.out.2.1 (fun _ _ _ => trivial) (fun _ _ h => ⟨h.1, fun e => h.2.2 (by rw [e]; exact hm.sbl)⟩)).comp H6.out.2.2.1 (fun _ _ h => h) (fun _ _ _ => trivial))
  | some l =>
    obtain ⟨x, hx, hxl, hxk, hxi, hxf⟩ := lk_find hls hf
    obtain ⟨y0, y1, y2⟩ := hxi.cells
    rw [hxl] at y0 y1
    have hrow := hxi.row
    rw [hxl] at hrow
    have hlk := look_lk hls (k := k) (by omega) _ hxf
    obtain ⟨h, hh⟩ : ∃ h, h = x.h := ⟨_, rfl⟩
    rw [← hh] at y0 y1 y2 hlk
    have hhl := hxi.lt
    rw [← hh] at hhl
    have HX := Lib.hid (And.intro hls (And.intro hx (And.intro hxl (And.intro hxk (And.intro hxi hh)))))
    obtain ⟨lh, hlh⟩ : ∃ lh, lh = l.holder := ⟨_, rfl⟩
    obtain ⟨lt, hlt⟩ : ∃ lt, lt = l.token := ⟨_, rfl⟩
    rw [← hlh] at y0
    rw [← hlt] at y1
    have HLH := Lib.hid (And.intro hlh hlt)
    obtain ⟨v0, hv0⟩ : ∃ v0, v0 = x.v := ⟨_, rfl⟩
    rw [← hv0] at hrow y2
    have HR := Lib.hid (And.intro hrow hv0)
    clear hls hx hxl hxk hxi hxf hh hlh hlt hrow hv0
    by_cases hc : lh = c
    · subst hc
      clear y2
      go_enter Tryz.func51, Tryz.ntmps51
      go_wp2_with fail
      simp only [← hG]
      rw [← hW]
      clear hW hG
      go_quiet (fail)
      go_wp2_with fail
      go_quiet (fail)
      go_wp2_with fail
      refine (done_any _ _ _).mono ?_
      rintro e W4 ⟨rfl, f4⟩
      have HF := Lib.hid (((Keep.refl _ W).drewN _).trans f4)
      obtain ⟨r0, r1, r2, s0, s1, s2, rl⟩ := res_facts (HO.out.res.keep HF.out trivial)
      clear f4
      go_wp2_with fail
      obtain ⟨hm, hmW, hX, hi⟩ := HA.out
      have e : X = (⟨1, [], lt⟩, s) := by
        rw [hX]
        unfold onLockD
        rw [hf]
        simp only [if_true]
        rw [if_pos HLH.out.1.symm, HLH.out.2]
      rw [e]
      exact op_ret rfl rfl rfl (hmW.fresh HF.out) (fun j h => .inl h.1) hml hbl hm.nm hm.nb (HO.out.res.keep HF.out trivial) (by have := HO.out.sz; omega) ((HO.out.fresh.trans HF.out).weaken fun _ _ _ => trivial)
    · obtain ⟨b, hb⟩ : ∃ b, b = decide (c ∈ l.queue) := ⟨_, rfl⟩
      have HCo : Hid (∀ q, Calls Tryz.prog 89 #[v0, .int .i64 c] (W.drewN q) fun e w' => e = .returned (.bool b) ∧ W.drewN q = w') := Lib.hid fun q => by
        rw [hb]
        exact (contains_any l.queue c (W.drewN q) (HR.out.1.keep ((Keep.refl (fun _ => True) W).drewN q) (fun _ _ => trivial)))
      have HB := Lib.hid hb
      clear hb
      go_enter Tryz.func51, Tryz.ntmps51
      go_wp2_with fail
      simp only [← hG]
      rw [← hW]
      clear hW hG
      go_quiet (fail)
      go_wp2_with fail
      go_quiet (fail)
      go_wp2_with fail
      go_quiet ((go_at_call 89; exact quiet_add_left (HCo.out _)))
      cases b
      · go_wp2_with fail
        generalize hW3 : World.drewN (World.drewN W _) nq = W3
        have hQ3 : Fresh W W3 := hW3 ▸ ((Keep.refl _ W).drewN _).drewN _
        clear hW3
        replace k0 := hQ3.cellAt k0 trivial
        replace y2 := hQ3.cellAt y2 trivial
        have kl3 : G < W3.heap.size := Nat.lt_of_lt_of_le kl hQ3.size
        have hhl3 : h < W3.heap.size := Nat.lt_of_lt_of_le hhl hQ3.size
        have hcq : c ∉ l.queue := by simpa using HB.out
        obtain ⟨hls, hx, hxl, hxk, hxi, hh⟩ := HX.out
        have hxi3 := hxi.keep hQ3 trivial (fun _ _ => trivial)
        have hlo := HA.out.2.2.2.each l (findK_some hf).2
        have hql := queue_len hlo.nd hlo.q
        have hrow3 : OwnAt W3 0 3 v0 l.queue.length (ics l.queue) := HR.out.1.keep hQ3 (fun _ _ => trivial)
        have hkA : Fresh W3 (W3.drew.alloc (.cells #[.int .i64 c] 3)) := ((Keep.refl (fun _ => True) W3).drew).alloc _
        have hrowA := hrow3.keep hkA (fun _ _ => trivial)
        have hvh : v0.ownBlock ≠ some h := by
          rw [hh]
          exact hrow3.ne_blk hxi3.blk (by decide)
        have hvG : v0.ownBlock ≠ some G := hrow3.ne_blk (HO.out.cmd.keep hQ3 trivial) (by decide)
        have zf : W3.frozen? ⟨h, 2, none⟩ = false := by rw [hh]; exact hxi3.blk.frozen 2
        have yA := hkA.cellAt y2 trivial
        have kA := hkA.cellAt k0 trivial
        have fA := (hkA.frozen (p := ⟨h, 2, none⟩) hhl3 trivial).trans zf
        have hlA : h < (W3.drew.alloc (.cells #[.int .i64 c] 3)).heap.size := Nat.lt_of_lt_of_le hhl3 hkA.size
        have hGA : G < (W3.drew.alloc (.cells #[.int .i64 c] 3)).heap.size := Nat.lt_of_lt_of_le kl3 hkA.size
        have hGh : G ≠ h := fun e => Blk.ne (HO.out.cmd.keep hQ3 trivial) (hh ▸ hxi3.blk) (by decide) e
        have HF := Lib.hid (And.intro hrowA (And.intro hvh (And.intro yA (And.intro fA (And.intro hlA (And.intro (show (l.queue.length + 1) * 8 ≤ 140737488355328 by omega) (And.intro kA (And.intro hGA (And.intro hvG hGh)))))))))
        have HQ3 := Lib.hid (And.intro hQ3 (And.intro hcq (And.intro hrow3 hql)))
        clear hQ3 hlk x1 x2 y0 y1 k4 k5 k6 HCo hls hx hxl hxk hxi hh hxi3 hlo hrow3 hkA hrowA hvh yA fA hlA hcq kA hGA hql hvG hGh
        go_region_law (first
          | (refine step_appAt etIntL rfl (.tmp 45) (.tmp 48) rfl 0 v0 l.queue.length (ics l.queue) rfl HF.out.1 _ ⟨W3.heap.size, 0, none⟩ _ (.int .i64 c) rfl (Rd.one_of (Blk.new _ _ _) rfl) rfl HF.out.2.2.2.2.2.1 (Nat.zero_le _) ?_
             intro v4 w4 ho4 hk4 hn4
             obtain ⟨A4, c4, hv4, -⟩ := ho4.rd
             subst hv4
             have t2 := hk4.cellAt HF.out.2.2.1 HF.out.2.1
             have t0 := hk4.cellAt HF.out.2.2.2.2.2.2.1 HF.out.2.2.2.2.2.2.2.2.1
             have tf : w4.frozen? ⟨h, 2, none⟩ = false := (hk4.frozen (p := ⟨h, 2, none⟩) HF.out.2.2.2.2.1 HF.out.2.1).trans HF.out.2.2.2.1
             have tl : h < w4.heap.size := Nat.lt_of_lt_of_le HF.out.2.2.2.2.1 hk4.size
             have tG : G < w4.heap.size := Nat.lt_of_lt_of_le HF.out.2.2.2.2.2.2.2.1 hk4.size
             have H4 := Lib.hid (And.intro ho4 (And.intro hk4 hn4))
             clear ho4 hk4 hn4))
        all_goals
          go_wp2_with fail
          obtain ⟨ho4, hk4, hn4⟩ := H4.out
          obtain ⟨hQ3, hcq, hrow3, hql⟩ := HQ3.out
          obtain ⟨hls, hx, hxl, hxk, hxi, hh⟩ := HX.out
          have hvh := HF.out.2.1
          have hvG := HF.out.2.2.2.2.2.2.2.2.1
          have hGh := HF.out.2.2.2.2.2.2.2.2.2
          obtain ⟨V4, hV4⟩ : ∃ V, V = Value.slice A4 (l.queue.length + 1) c4 := ⟨_, rfl⟩
          rw [← hV4] at ho4 hn4 ⊢
          have hV4h : V4.ownBlock ≠ some h := by
            rcases hn4 with e | ⟨g, hg, hle⟩
            · rw [e]; exact hvh
            · rw [hg]
              intro e
              injection e with e
              have : W3.heap.size ≤ (W3.alloc (.cells #[.int .i64 c] 3)).drew.heap.size := ((Keep.refl (fun _ => True) W3).alloc _).drew.size
              omega
          have hn4' : Next W3.heap.size v0 V4 := by
            rcases hn4 with e | ⟨g, hg, hle⟩
            · exact .inl e
            · exact .inr ⟨g, hg, Nat.le_trans ((Keep.refl (fun _ => True) W3).alloc (.cells #[.int .i64 c] 3)).drew.size hle⟩
          have K34 : Keep (fun k => v0.ownBlock ≠ some k) W3 w4 := ((Keep.refl (fun _ => True) W3).alloc _).drew.comp hk4 (fun _ _ _ => trivial) (fun _ _ h => h)
          have hb4 : Blk w4 h 121 #[.int .i64 x.d.holder, .int .i64 x.d.token, x.v] := ((hh ▸ hxi.blk).keep hQ3 trivial).keep K34 hvh
          have hb5 : Blk (w4.setCell ⟨h, 2, none⟩ V4) h 121 #[.int .i64 x.d.holder, .int .i64 x.d.token, V4] := hb4.set 2 V4
          have ho5 : OwnAt (w4.setCell ⟨h, 2, none⟩ V4) 0 3 V4 (l.queue ++ [c]).length (ics (l.queue ++ [c])) := by
            have h1 := ho4.far (p := ⟨h, 2, none⟩) hV4h V4
            simpa [ics] using h1
          have K35 : Keep (fun j => j ≠ h ∧ v0.ownBlock ≠ some j) W3 (w4.setCell ⟨h, 2, none⟩ V4) := (K34.weaken fun _ _ h => h.2).setCell (fun _ h => h.1 rfl) _
          generalize hW5 : World.setCell w4 ⟨h, 2, none⟩ V4 = W5 at hb5 ho5 K35 ⊢
          have u2 := hb5.cell 2
          simp at u2
          have u0 := K35.cellAt k0 ⟨hGh, hvG⟩
          have ul : G < W5.heap.size := Nat.lt_of_lt_of_le kl3 K35.size
          have uh := hb5.lt
          have hres5 := (HO.out.res.keep hQ3 trivial).keep K35 ⟨fun e => Blk.ne (HO.out.res.keep hQ3 trivial) ((hh ▸ hxi.blk).keep hQ3 trivial) (by decide) e, hrow3.ne_blk (HO.out.res.keep hQ3 trivial) (by decide)⟩
          obtain ⟨r0, r1, r2, s0, s1, s2, rl⟩ := res_facts hres5
          have hhG : h ≠ G + 1 := fun e => Blk.ne (HO.out.res.keep hQ3 trivial) ((hh ▸ hxi.blk).keep hQ3 trivial) (by decide) e.symm
          have hix : Lib.idxOf (l.queue ++ [c]) c = ((l.queue.length : Nat) : Int) := by
            rw [idx_memq (by simp), List.idxOf_append, if_neg hcq]
            simp
          obtain ⟨ix, hix2⟩ : ∃ ix, ix = l.queue.length := ⟨_, rfl⟩
          rw [← hix2] at hix hql
          have HIx : Hid (∀ q, Calls Tryz.prog 81 #[V4, .int .i64 c] (W5.drewN q) fun e w' => e = .returned (.int .i64 (ix : Int)) ∧ W5.drewN q = w') := Lib.hid fun q => by
            rw [← hix]
            exact index_any (l.queue ++ [c]) c (W5.drewN q) (ho5.keep ((Keep.refl (fun _ => True) W5).drewN q) (fun _ _ => trivial))
          have HRr := Lib.hid (fun w' (hk : Keep (fun j => j ≠ G + 1) W5 w') => (⟨hk.cellAt u2 hhG, hk.cellAt u0 (show G ≠ G + 1 by omega)⟩ : w'.cell? ⟨h, 2, none⟩ = some V4 ∧ w'.cell? ⟨G, 0, none⟩ = some (.int .i64 c)))
          have H5 := Lib.hid (And.intro hb5 (And.intro ho5 (And.intro K35 (And.intro hres5 (And.intro hix2 hn4')))))
          clear HF H4 ho4 hk4 hn4 hQ3 hcq hrow3 hls hx hxl hxk hxi hh hvh hvG hGh hV4 hV4h hn4' K34 hb4 hb5 ho5 K35 hres5 hix hix2 hW5 t0 t2 tf tl tG k0 y2 zf
          go_region_held3 (fun w' => w'.cell? ⟨h, 2, none⟩ = some V4 ∧ w'.cell? ⟨G, 0, none⟩ = some (.int .i64 c))
            (first | exact ⟨u2, u0⟩ | exact HRr.out _ (((((Keep.refl _ W5).drewN _).setCell (fun _ h => h rfl) _).setCell (fun _ h => h rfl) _).setCell (fun _ h => h rfl) _))
            (first | (go_at_call 81; refine (HIx.out _).mono ?_; rintro e _ ⟨rfl, rfl⟩))
          go_wp2_with fail
          rw [IntWalk.i64_in _ ⟨by omega, by omega⟩]
          obtain ⟨hm, hmW, hX, hi⟩ := HA.out
          obtain ⟨hQ3, hcq, hrow3, -⟩ := HQ3.out
          obtain ⟨hls, hx, hxl, hxk, hxi, hh⟩ := HX.out
          obtain ⟨hb5, ho5, K35, hres5, hix2, hn4⟩ := H5.out
          have e : X = (⟨7, [], (ix : Int) + 1⟩, { s with locks := setK LockD.name { l with queue := l.queue ++ [c] } s.locks }) := by
            rw [hX]
            unfold onLockD
            rw [hf]
            simp only [if_true]
            rw [if_neg (fun e => hc (by rw [HLH.out.1]; exact e)), if_neg hcq, hix2]
          rw [e]
          have hS5 : ∀ j, V4.ownBlock = some j → (S j ∧ j < w.heap.size) ∨ W3.heap.size ≤ j := fun j hj => by
            rcases hn4 with e | ⟨g, hg, hle⟩
            · exact .inl (hxi.sv j (by rw [← HR.out.2, ← e]; exact hj))
            · exact .inr (by rw [hg] at hj; injection hj with hj; omega)
          obtain ⟨hT, hTk⟩ := MSt.turned (hmW.fresh hQ3) hi.rise (hls.keep hQ3 (fun _ _ => trivial)) hx (x' := ⟨{ l with queue := l.queue ++ [c] }, h, V4⟩) hh (by rw [hxl])
            ⟨by rw [hxl] at hb5; exact hb5, ho5, .inl (hh ▸ hxi.sh), hS5⟩ (by rw [← HR.out.2]; exact hn4) (K35.weaken fun j _ hj => ⟨fun e => hj.1 (e.trans hh), by rw [HR.out.2]; exact hj.2⟩)
          have hQ4 : Fresh W5 (W5.drewN 1) := (Keep.refl _ W5).drewN 1
          have hz3 := (HO.out.fresh.trans hQ3).size
          exact op_ret rfl rfl rfl (hT.fresh hQ4) (fun j h => h.elim (fun h => .inl h.1) fun h => .inr (by omega)) hml hbl hm.nm hm.nb (hres5.keep hQ4 trivial) (by have := HO.out.sz; omega) (((HO.out.fresh.trans hQ3).comp hTk (fun _ _ _ => trivial) (fun _ _ h => ⟨h.1, h.2.1, fun e => h.2.2 e.1⟩)).comp hQ4 (fun _ _ h => h) (fun _ _ _ => trivial))
      · go_wp2_with fail
        generalize hW3 : World.drewN (World.drewN W _) nq = W3
        have hQ3 : Fresh W W3 := hW3 ▸ ((Keep.refl _ W).drewN _).drewN _
        clear hW3
        replace k0 := hQ3.cellAt k0 trivial
        replace y2 := hQ3.cellAt y2 trivial
        have kl3 : G < W3.heap.size := Nat.lt_of_lt_of_le kl hQ3.size
        have hhl3 : h < W3.heap.size := Nat.lt_of_lt_of_le hhl hQ3.size
        have hcq : c ∈ l.queue := by simpa using HB.out
        have hix : Lib.idxOf l.queue c = (l.queue.idxOf c : Int) := idx_memq hcq
        obtain ⟨ix, hix2⟩ : ∃ ix, ix = l.queue.idxOf c := ⟨_, rfl⟩
        rw [← hix2] at hix
        have hixb : ix ≤ 1000 := by
          have h1 := List.idxOf_lt_length_of_mem hcq
          have hxo := HA.out.2.2.2.each l (findK_some hf).2
          have := queue_len hxo.nd hxo.q
          omega
        have HIx : Hid (∀ q, Calls Tryz.prog 81 #[v0, .int .i64 c] (W3.drewN q) fun e w' => e = .returned (.int .i64 (ix : Int)) ∧ W3.drewN q = w') := Lib.hid fun q => by
          rw [← hix]
          exact index_any l.queue c (W3.drewN q) ((HR.out.1.keep hQ3 (fun _ _ => trivial)).keep ((Keep.refl (fun _ => True) W3).drewN q) (fun _ _ => trivial))
        have HQ3 := Lib.hid (And.intro hQ3 (And.intro hcq hix2))
        obtain ⟨r0, r1, r2, s0, s1, s2, rl⟩ := res_facts (HO.out.res.keep hQ3 trivial)
        clear hQ3 hcq hix hix2 hlk x1 x2 y0 y1 k4 k5 k6 HCo
        have hhG : h ≠ G + 1 := fun e => by
          obtain ⟨-, -, -, -, hxi, hh⟩ := HX.out
          exact Blk.ne (HO.out.res.keep HQ3.out.1 trivial) ((hh ▸ hxi.blk).keep HQ3.out.1 trivial) (by decide) e.symm
        have HRr := Lib.hid (fun w' (hk : Keep (fun j => j ≠ G + 1) W3 w') => (⟨hk.cellAt y2 hhG, hk.cellAt k0 (show G ≠ G + 1 by omega)⟩ : w'.cell? ⟨h, 2, none⟩ = some v0 ∧ w'.cell? ⟨G, 0, none⟩ = some (.int .i64 c)))
        go_region_held3 (fun w' => w'.cell? ⟨h, 2, none⟩ = some v0 ∧ w'.cell? ⟨G, 0, none⟩ = some (.int .i64 c))
          (first | exact ⟨y2, k0⟩ | exact HRr.out _ (((((Keep.refl _ W3).drewN _).setCell (fun _ h => h rfl) _).setCell (fun _ h => h rfl) _).setCell (fun _ h => h rfl) _))
          (first | (go_at_call 81; refine (HIx.out _).mono ?_; rintro e _ ⟨rfl, rfl⟩))
        go_wp2_with fail
        rw [IntWalk.i64_in _ ⟨by omega, by omega⟩]
        obtain ⟨hm, hmW, hX, hi⟩ := HA.out
        obtain ⟨hQ3, hcq, hix2⟩ := HQ3.out
        have e : X = (⟨7, [], (ix : Int) + 1⟩, s) := by
          rw [hX]
          unfold onLockD
          rw [hf]
          simp only [if_true]
          rw [if_neg (fun e => hc (by rw [HLH.out.1]; exact e)), if_pos hcq, hix2]
        rw [e]
        have hQ4 := hQ3.drewN 1
        exact op_ret rfl rfl rfl (hmW.fresh hQ4) (fun j h => .inl h.1) hml hbl hm.nm hm.nb (HO.out.res.keep hQ4 trivial) (by have := HO.out.sz; omega) ((HO.out.fresh.trans hQ4).weaken fun _ _ _ => trivial)
end Go.Proofs.YtohnmaindbgngaaGreatDoor
namespace Go.Proofs.YtohnmaindbgngaaGreatDoor
set_option linter.unusedVariables false
set_option linter.unusedSimpArgs false
open Go.RowKit

theorem numb_bound (l : Txt) : -1000000000000000000 < (numb l).1 ∧ (numb l).1 < 1000000000000000000 := by
  unfold numb
  split
  · simp
  · cases h : Lib.atoi l with
    | none => simp
    | some n => exact Lib.atoi_bound h (by omega)
theorem itoa_any (n : Int) (h0 : -2000000000000000000 ≤ n) (h1 : n ≤ 2000000000000000000) (w : World) (hT : Tabs w) : Calls Tryz.prog 88 #[.int .i64 n] w fun e w' => e = .returned (str (Lib.itoa n)) ∧ Fresh w w' := by
  refine (Tryz.strconv_Itoa n (by omega) (by omega) w hT.pow).mono ?_
  rintro e w' ⟨rfl, k, os, rfl⟩
  exact ⟨rfl, Fresh.growN _ _ _⟩

set_option maxRecDepth 20000 in
set_option maxHeartbeats 1000000 in
theorem addop_any (S : Nat → Prop) (m bp bl : Nat) (s : StD) (c i r : Int) (k v d : Txt) (w : World) (hm : MSt S w m bp bl s) (hp : PInv s.pairs) (hk : k.length ≤ 8) (hv : v.length ≤ 8) (hT : Tabs w) :
    Calls Tryz.prog 50 #[.pointer (some ⟨m, 0, none⟩), cmdV c i r 5 k v d] w (OpPost S m bp bl (onKeyD numb Lib.itoa 5 k v d s) w) := by
  obtain ⟨X, hX⟩ : ∃ X, X = onKeyD numb Lib.itoa 5 k v d s := ⟨_, rfl⟩
  rw [← hX]
  have HO := Lib.hid (op_at w c i r 5 k v d)
  obtain ⟨G, hG⟩ : ∃ G, G = w.heap.size := ⟨_, rfl⟩
  obtain ⟨W, hW⟩ : ∃ W, W = (w.alloc (.cells #[.int .i64 c, .int .i64 i, .int .i64 r, .int .i64 5, str k, str v, str d] 43)).alloc (.cells #[.int .i64 0, str [], .int .i64 0] 49) := ⟨_, rfl⟩
  rw [← hW, ← hG] at HO
  obtain ⟨k0, k4, k5, k6, kl⟩ := HO.out.cells
  have k1 := HO.out.cmd.cell 1
  have k2 := HO.out.cmd.cell 2
  have k3 := HO.out.cmd.cell 3
  simp at k1 k2 k3
  have hmW := hm.fresh HO.out.fresh
  obtain ⟨x0, -, -⟩ := hmW.three
  have hmlt := hmW.blk.lt
  have hml := hm.blk.lt
  have hbl := hm.pm.lt
  have hlk := look_str hmW.pm (l := k) (by omega)
  have hlen := hp.len
  have HA := Lib.hid (And.intro hm (And.intro hmW (And.intro hX (And.intro hp hT))))
  clear hm hmW hX hp hT
  go_enter Tryz.func50, Tryz.ntmps50
  go_wp2_with fail
  simp only [← hG]
  rw [← hW]
  clear hW hG
  go_quiet (fail)
  obtain ⟨W2, hW2⟩ : ∃ W2, W2 = W.drewN nq := ⟨_, rfl⟩
  have hQ : Fresh W W2 := hW2 ▸ (Keep.refl _ W).drewN nq
  rw [← hW2]
  have HQ := Lib.hid hQ
  replace x0 := hQ.cellAt x0 trivial
  replace k0 := hQ.cellAt k0 trivial
  replace k1 := hQ.cellAt k1 trivial
  replace k2 := hQ.cellAt k2 trivial
  replace k3 := hQ.cellAt k3 trivial
  replace k4 := hQ.cellAt k4 trivial
  replace k5 := hQ.cellAt k5 trivial
  replace k6 := hQ.cellAt k6 trivial
  replace hmlt : m < W2.heap.size := Nat.lt_of_lt_of_le hmlt hQ.size
  replace kl : G < W2.heap.size := Nat.lt_of_lt_of_le kl hQ.size
  clear hQ
  cases hpf : pfind k s.pairs with
  | none =>
    rw [hpf] at hlk
    have HSet := setop_any Lib.itoa (fun j => S j ∧ j < w.heap.size) m bp bl s c i r 5 k v d W2 ((HA.out.1.tight.fresh HO.out.fresh).fresh HQ.out) HA.out.2.2.2.1 hk
    by_cases hful : 16 ≤ s.pairs.length
    · have e1 : onKeyD numb Lib.itoa 1 k v d s = (⟨4, [], 0⟩, s) := by unfold onKeyD; rw [pfindD_none hpf]; simp [hful]
      have HE : Hid (X = (⟨4, [], 0⟩, s)) := by rw [HA.out.2.2.1]; unfold onKeyD; rw [pfindD_none hpf]; simp [hful]; trivial
      rw [e1] at HSet
      replace HSet := Lib.hid HSet
      clear hW2 hlk x0
      go_wp2_with fail
      refine HSet.out.mono ?_
      rintro e W4 ⟨rfl, hst, hkp⟩
      have hsz := HO.out.sz
      have hb4 := (HO.out.res.keep HQ.out trivial).keep hkp ⟨by omega, by omega, fun h => by have := h.2; omega⟩
      have H4 := Lib.hid (And.intro hst (And.intro hkp hb4))
      have r4 := res_facts hb4
      clear hst hkp hb4 HSet hsz
      obtain ⟨r0, r1, r2, s0, s1, s2, rl⟩ := r4
      go_wp2_with fail
      have hm := HA.out.1
      have hsz := HO.out.sz
      have hz1 := HO.out.fresh.size
      have hz2 := HQ.out.size
      rw [HE.out]
      exact op_ret2 rfl rfl rfl H4.out.1 (fun j h => h.elim (fun h => .inl h.1) fun h => .inr (by omega)) hml hbl hm.nm hm.nb H4.out.2.2 (by omega) ((HO.out.fresh.trans HQ.out).comp H4.out.2.1 (fun _ _ _ => trivial) (fun _ _ h => ⟨h.1, h.2.1, fun e => h.2.2 e.1⟩)) ((Keep.refl _ _).alloc _)
    · have e1 : onKeyD numb Lib.itoa 1 k v d s = (⟨1, [], 0⟩, { s with pairs := pputD k v s.pairs }) := by unfold onKeyD; rw [pfindD_none hpf]; simp [hful]
      have HE : Hid (X = (⟨1, v, 0⟩, { s with pairs := pputD k v s.pairs })) := by rw [HA.out.2.2.1]; unfold onKeyD; rw [pfindD_none hpf]; simp [hful]; trivial
      rw [e1] at HSet
      replace HSet := Lib.hid HSet
      clear hlk x0 hW2
      go_wp2_with fail
      refine HSet.out.mono ?_
      rintro e W4 ⟨rfl, hst, hkp⟩
      have hsz := HO.out.sz
      have hb4 := (HO.out.res.keep HQ.out trivial).keep hkp ⟨by omega, by omega, fun h => by have := h.2; omega⟩
      have k5' := hkp.cellAt k5 ⟨show G ≠ m by omega, show G ≠ bp by omega, fun h => by have : G < w.heap.size := h.2; omega⟩
      have kl4 : G < W4.heap.size := Nat.lt_of_lt_of_le kl hkp.size
      have H4 := Lib.hid (And.intro hst (And.intro hkp hb4))
      have r4 := res_facts hb4
      clear hst hkp hb4 HSet hsz
      obtain ⟨r0, r1, r2, s0, s1, s2, rl⟩ := r4
      have HK := Lib.hid (And.intro k0 (And.intro k4 kl))
      clear k0 k1 k2 k3 k4 k5 k6
      go_wp2_with fail
      have hm := HA.out.1
      have hsz := HO.out.sz
      have hz1 := HO.out.fresh.size
      have hz2 := HQ.out.size
      rw [HE.out]
      exact op_ret2 rfl rfl rfl H4.out.1 (fun j h => h.elim (fun h => .inl h.1) fun h => .inr (by omega)) hml hbl hm.nm hm.nb H4.out.2.2 (by omega) ((HO.out.fresh.trans HQ.out).comp H4.out.2.1 (fun _ _ _ => trivial) (fun _ _ h => ⟨h.1, h.2.1, fun e => h.2.2 e.1⟩)) ((Keep.refl _ _).alloc _)
  | some u =>
    rw [hpf] at hlk
    have HN := Lib.hid (number_any u W2 ((HA.out.2.2.2.2.fresh HO.out.fresh).fresh HQ.out))
    obtain ⟨na, hna⟩ : ∃ z, z = (numb u).1 := ⟨_, rfl⟩
    obtain ⟨fa, hfa⟩ : ∃ z, z = (numb u).2 := ⟨_, rfl⟩
    rw [← hna, ← hfa] at HN
    have hab := numb_bound u
    rw [← hna] at hab
    obtain ⟨hab1, hab2⟩ := hab
    have HV := Lib.hid (And.intro hna hfa)
    clear hna hfa hW2 k1 k2 k3
    go_wp2_with fail
    refine HN.out.mono ?_
    rintro e W3 ⟨rfl, f3⟩
    have HF3 := Lib.hid (HQ.out.trans f3)
    have hT3 := ((HA.out.2.2.2.2.fresh HO.out.fresh).fresh HQ.out).fresh f3
    replace x0 := f3.cellAt x0 trivial
    replace k4 := f3.cellAt k4 trivial
    replace k5 := f3.cellAt k5 trivial
    replace hmlt : m < W3.heap.size := Nat.lt_of_lt_of_le hmlt f3.size
    replace kl : G < W3.heap.size := Nat.lt_of_lt_of_le kl f3.size
    have HN2 := Lib.hid (number_any v W3 hT3)
    clear f3 HN k0 k6 hlk hT3
    cases fa with
    | false =>
      obtain ⟨r0, r1, r2, s0, s1, s2, rl⟩ := res_facts (HO.out.res.keep HF3.out trivial)
      go_wp2_with fail
      obtain ⟨hm, hmW, hX, hp, hT⟩ := HA.out
      obtain ⟨a, ha⟩ := pfindD_some hpf
      have e : X = (⟨5, u, 1⟩, s) := by rw [hX]; unfold onKeyD; rw [ha]; simp [← HV.out.2]
      rw [e]
      exact op_ret rfl rfl rfl (hmW.fresh HF3.out) (fun j h => .inl h) hml hbl hm.nm hm.nb (HO.out.res.keep HF3.out trivial) (by have := HO.out.sz; omega) ((HO.out.fresh.trans HF3.out).weaken fun _ _ _ => trivial)
    | true =>
      obtain ⟨nb, hnb⟩ : ∃ z, z = (numb v).1 := ⟨_, rfl⟩
      rw [← hnb] at HN2
      have hbb := numb_bound v
      rw [← hnb] at hbb
      obtain ⟨hbb1, hbb2⟩ := hbb
      have HB := Lib.hid hnb
      clear hnb
      go_wp2_with fail
      refine HN2.out.mono ?_
      rintro e W5 ⟨rfl, f5⟩
      have HF5 := Lib.hid (HF3.out.trans f5)
      replace x0 := f5.cellAt x0 trivial
      replace k4 := f5.cellAt k4 trivial
      replace hmlt : m < W5.heap.size := Nat.lt_of_lt_of_le hmlt f5.size
      replace kl : G < W5.heap.size := Nat.lt_of_lt_of_le kl f5.size
      have HI := Lib.hid (itoa_any (na + nb) (by omega) (by omega) W5 ((HA.out.2.2.2.2.fresh HO.out.fresh).fresh HF5.out))
      obtain ⟨L, hL⟩ : ∃ L, L = Lib.itoa (na + nb) := ⟨_, rfl⟩
      rw [← hL] at HI
      have HLL := Lib.hid hL
      clear f5 HN2 k5 hL
      go_wp2_with fail
      refine HI.out.mono ?_
      rintro e W6 ⟨rfl, f6⟩
      have HF6 := Lib.hid (HF5.out.trans f6)
      replace x0 := f6.cellAt x0 trivial
      replace k4 := f6.cellAt k4 trivial
      replace hmlt : m < W6.heap.size := Nat.lt_of_lt_of_le hmlt f6.size
      replace kl : G < W6.heap.size := Nat.lt_of_lt_of_le kl f6.size
      clear f6 HI
      by_cases h8 : 8 < L.length
      · obtain ⟨r0, r1, r2, s0, s1, s2, rl⟩ := res_facts (HO.out.res.keep HF6.out trivial)
        have h8i : (8 : Int) < (L.length : Int) := by omega
        go_wp2_with fail
        obtain ⟨hm, hmW, hX, hp, hT⟩ := HA.out
        obtain ⟨a, ha⟩ := pfindD_some hpf
        have e : X = (⟨6, u, 1⟩, s) := by rw [hX]; unfold onKeyD; rw [ha]; simp [← HV.out.2, ← HV.out.1, ← HB.out, ← HLL.out, h8]
        rw [e]
        exact op_ret rfl rfl rfl (hmW.fresh HF6.out) (fun j h => .inl h) hml hbl hm.nm hm.nb (HO.out.res.keep HF6.out trivial) (by have := HO.out.sz; omega) ((HO.out.fresh.trans HF6.out).weaken fun _ _ _ => trivial)
      · have h8i : ¬ (8 : Int) < (L.length : Int) := by omega
        go_wp2_with fail
        refine wp_region_still_tail 7 (by kernel_rfl) (by kernel_rfl) ?_
        simp only [List.take_succ_cons, List.take_zero, List.drop_succ_cons, List.drop_zero]
        repeat still_step
        refine wpStill_nil ?_
        change wpList _ _ _ _ _ W6.drew
        refine wpList_mstore rfl (.tmp 62) (.tmp 64) (.tmp 65) rfl Tryz.underlying9 Tryz.underlying74 rfl ((HA.out.2.1.fresh HF6.out).pm.keep ((Keep.refl (fun _ => True) W6).drew) trivial) (by rw [sk_len]; simp only [maxLen]; omega) (l := k) (by simp only [maxLen]; omega) rfl (str L) rfl ?_
        intro W7 hm7 hk7
        rw [sk_put] at hm7
        have hk67 : Keep (fun j => j ≠ bp) W6 W7 := (Keep.refl _ W6).drew.trans hk7
        have H7 := Lib.hid (And.intro hm7 hk67)
        have HD := Lib.hid (done_any L 1 W7)
        clear hm7 hk7 hk67 x0 k4
        go_wp2_with fail
        refine HD.out.mono ?_
        rintro e W8 ⟨rfl, f8⟩
        have hb2 := HO.out.res.keep HF6.out trivial
        have hbG : G + 1 ≠ bp := by have := HO.out.sz; omega
        have H8 := Lib.hid (And.intro f8 ((hb2.keep H7.out.2 hbG).keep f8 trivial))
        obtain ⟨r0, r1, r2, s0, s1, s2, rl⟩ := res_facts H8.out.2
        clear f8 HD hb2
        go_wp2_with fail
        obtain ⟨hm, hmW, hX, hp, hT⟩ := HA.out
        obtain ⟨a, ha⟩ := pfindD_some hpf
        have e : X = (⟨1, L, 1⟩, { s with pairs := pput k L s.pairs }) := by rw [hX, pput_eq k L _ hp.rise]; unfold onKeyD; rw [ha]; simp [← HV.out.2, ← HV.out.1, ← HB.out, ← HLL.out, h8]
        rw [e]
        have h2 := op_pairs (x := (⟨1, L, 1⟩, { s with pairs := pput k L s.pairs })) (hmW.fresh HF6.out) rfl H7.out.1 H7.out.2 rfl
        have hsz := HO.out.sz
        have hz1 := HO.out.fresh.size
        have hz2 := HF6.out.size
        exact op_ret rfl rfl rfl (h2.st.fresh H8.out.1) (fun j h => h.elim .inl fun h => .inr (by omega)) hml hbl hm.nm hm.nb H8.out.2 (by omega) ((((HO.out.fresh.trans HF6.out).comp H7.out.2 (fun _ _ _ => trivial) (fun _ _ h => h.2.1)).comp H8.out.1 (fun _ _ h => h) (fun _ _ _ => trivial)))
end Go.Proofs.YtohnmaindbgngaaGreatDoor
