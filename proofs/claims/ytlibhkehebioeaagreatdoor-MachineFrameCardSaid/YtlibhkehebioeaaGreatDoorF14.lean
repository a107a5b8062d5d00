/-
  MERGED: Lock Add Does Appl
-/
import Derived.Test.YtlibhkehebioeaaGreatDoorF13
import Derived.Deep.RegionHeld3
import Derived.Deep.RegionLaw
import Derived.RegionCalls
import Derived.Lib.AtoiBound
import Derived.Test.YtlibhkehebioeaaGreatDoorF8
import Derived.Deep.DeepCutAuto
import Derived.Deep.CutBlock
namespace Go.Proofs.YtlibhkehebioeaaGreatDoor
set_option linter.unusedVariables false
set_option linter.unusedSimpArgs false
open Go.RowKit

section
variable {P : Program} {w : World} {t e : TypeId} {bytes : Nat} {z : Value}
/-- 'append(q, y)' as a step of a region that draws its order. -/
theorem step_appAt (E : ET P t e 1 bytes z) {ops : Array Oper} {o : Oper} {a : Act} {K : Act → World → Prop} {Q : Exit → Act → World → Prop} {Els : Prop} (hgd : o.guard = none) (s x : Operand)
    (ho : o.op = .call { callee := .builtin .append, args := #[s, x], argTypes := #[t, t] })
    (base : Nat) (v : Value) (n : Nat) (xs : List Value) (hs : a.eval s = v) (hown : OwnAt w base e v n xs) (Z : Nat → Prop) (ad : Addr) (c : Nat) (y : Value) (hx : a.eval x = .slice (some ad) 1 c) (hr : Rd w Z 1 (some ad) 1 [y])
    (h1 : y.oneCell' = true) (hb : (n + 1) * bytes ≤ 140737488355328) (hbase : base ≤ w.heap.size)
    (h : ∀ v' w', OwnAt w' base e v' (n + 1) (xs ++ [y]) → Keep (fun k => v.ownBlock ≠ some k) w w' → Next w.heap.size v v' → K (a.put o.dst v') w') :
    if Region.wanted o (yielded ops a.tmps) = true then Oper.wp P o a w K Q else Els := by
  have hw : Region.wanted o (yielded ops a.tmps) = true := by simp [Region.wanted, hgd]
  rw [if_pos hw]
  obtain ⟨v', w', hrun, h2, h3, h4⟩ := run_app_at E o.type (c := c) hown hr h1 hb hbase
  unfold Oper.wp execOp
  simp only [ho, resolve, invoke, builtin, Sem.run_bind, Sem.run_pure, Result.andThen_ok, List.map_toArray, List.map_cons, List.map_nil, hs, hx, hrun]
  exact h v' w' h2 h3 h4
/- 'm[k] = v' as such a step (not used: the tactic takes laws at calls alone). -/
theorem step_mstore {k : TypeId} {b : Nat} {ps : List Kv} {ops : Array Oper} {o : Oper} {a : Act} {K : Act → World → Prop} {Q : Exit → Act → World → Prop} {Els : Prop} (hgd : o.guard = none) (m x v : Operand) (hop : o.op = Op.mapUpdate t m x v)
    (hk : P.underlying k = some .string) (ht : P.underlying t = some (.map k e)) (hm : a.eval m = .map (some b)) (h : MapIs P k w b ps) (hn : ps.length < maxLen) {l : List UInt8} (hl : l.length ≤ maxLen) (hx : a.eval x = .string ⟨l.toArray⟩) (u : Value) (hv : a.eval v = u)
    (hK : ∀ w', MapIs P k w' b (mput l u ps) → Keep (fun i => i ≠ b) w w' → K (a.put o.dst undef) w') : if Region.wanted o (yielded ops a.tmps) = true then Oper.wp P o a w K Q else Els := by
  have hw : Region.wanted o (yielded ops a.tmps) = true := by simp [Region.wanted, hgd]
  rw [if_pos hw]
  obtain ⟨w', hrun, r1, r2⟩ := h.store hk ht hn hl u
  unfold Oper.wp
  simp [execOp, hop, hm, hx, hv, hrun, Result.andThen]
  exact hK w' r1 r2
end
theorem size_setCell_drewN (w : World) (q : Nat) (p : Addr) (u : Value) : ((w.drewN q).setCell p u).heap.size = w.heap.size := by simp [World.setCell, World.drewN]
theorem int_info : (Tryz.prog.info? 3).map (fun i => (i.zero, i.size, i.bytes)) = some (some (.int .i64 0), 1, 8) := by kernel_rfl
theorem etInt : ET Tryz.prog 45 3 1 8 (.int .i64 0) := ⟨Tryz.underlying45, int_info, rfl, by decide, by decide⟩

set_option maxRecDepth 20000 in
set_option maxHeartbeats 2000000 in
theorem lock_any (S : Nat → Prop) (m bp bl : Nat) (s : StD) (c i r : Int) (k v d : Txt) (w : World) (hm : MSt S w m bp bl s) (hi : LInv s.locks s.tok) (hk : k.length ≤ 8) :
    Calls Tryz.prog 78 #[.pointer (some ⟨m, 0, none⟩), cmdV c i r 6 k v d] w (OpPost S m bp bl (onLockD numb c 6 k v s) w) := by
  obtain ⟨X, hX⟩ : ∃ X, X = onLockD numb c 6 k v s := ⟨_, rfl⟩
  rw [← hX]
  have HO := Lib.hid (op_at w c i r 6 k v d)
  obtain ⟨G, hG⟩ : ∃ G, G = w.heap.size := ⟨_, rfl⟩
  obtain ⟨W, hW⟩ : ∃ W, W = (w.alloc (.cells #[.int .i64 c, .int .i64 i, .int .i64 r, .int .i64 6, str k, str v, str d] 30)).alloc (.cells #[.int .i64 0, str [], .int .i64 0] 33) := ⟨_, rfl⟩
  rw [← hW, ← hG] at HO
  obtain ⟨k0, k4, k5, k6, kl⟩ := HO.out.cells
  have hmW := hm.tight.fresh HO.out.fresh
  obtain ⟨-, x1, x2⟩ := hmW.three
  have hmlt := hmW.blk.lt
  have hml := hm.blk.lt
  have hbl := hm.pm.lt
  have HA := Lib.hid (And.intro hm (And.intro hmW (And.intro hX hi)))
  obtain ⟨ms, hls⟩ := hmW.lk
  have HLS := Lib.hid hls
  clear hm hmW hX hi
  cases hf : lfind k s.locks with
  | none =>
    have hlk := look_lk hls (k := k) (by omega) _ (show _ = .pointer none by rw [hls.gone hf]; rfl)
    have hll := hls.len
    clear hls
    by_cases hful : 8 ≤ s.locks.length
    · have hfi : (8 : Int) ≤ (s.locks.length : Int) := by omega
      go_enter Tryz.func78, Tryz.ntmps78
      go_wp2_with fail
      simp only [← hG]
      rw [← hW]
      clear hW hG
      go_quiet (fail)
      go_wp2_with fail
      go_quiet (fail)
      go_wp2_with (at_len; refine wpList_mlen rfl (.tmp 65) rfl Tryz.underlying88 rfl (HLS.out.map.keep ((Keep.refl (fun _ => True) W).drewN _) trivial) ?_)
      refine (code_any _ _).mono ?_
      rintro e W4 ⟨rfl, f4⟩
      have HF := Lib.hid (((Keep.refl _ W).drewN _).trans f4)
      obtain ⟨r0, r1, r2, s0, s1, s2, rl⟩ := res_facts (HO.out.res.keep HF.out trivial)
      clear f4
      go_wp2_with fail
      obtain ⟨hm, hmW, hX, hi⟩ := HA.out
      have e : X = (⟨4, [], 0⟩, s) := by rw [hX]; unfold onLockD; rw [hf]; simp [hful]
      rw [e]
      exact op_ret rfl rfl rfl (hmW.fresh HF.out) (fun j h => .inl h.1) hml hbl hm.nm hm.nb (HO.out.res.keep HF.out trivial) (by have := HO.out.sz; omega) ((HO.out.fresh.trans HF.out).weaken fun _ _ _ => trivial)
    · have hfi : ¬ (8 : Int) ≤ (s.locks.length : Int) := by omega
      obtain ⟨tok, htok⟩ : ∃ t, t = s.tok := ⟨_, rfl⟩
      have ht0 := HA.out.2.2.2.tok0
      have ht1 := HA.out.2.2.2.tok1
      rw [← htok] at x2 ht0 ht1
      have HT := Lib.hid htok
      clear htok
      by_cases hsp : 99999999 ≤ tok
      · go_enter Tryz.func78, Tryz.ntmps78
        go_wp2_with fail
        simp only [← hG]
        rw [← hW]
        clear hW hG
        go_quiet (fail)
        go_wp2_with fail
        go_quiet (fail)
        go_wp2_with (at_len; refine wpList_mlen rfl (.tmp 65) rfl Tryz.underlying88 rfl (HLS.out.map.keep ((Keep.refl (fun _ => True) W).drewN _) trivial) ?_)
        refine (code_any _ _).mono ?_
        rintro e W4 ⟨rfl, f4⟩
        have HF := Lib.hid (((Keep.refl _ W).drewN _).trans f4)
        obtain ⟨r0, r1, r2, s0, s1, s2, rl⟩ := res_facts (HO.out.res.keep HF.out trivial)
        clear f4
        go_wp2_with fail
        obtain ⟨hm, hmW, hX, hi⟩ := HA.out
        have e : X = (⟨11, [], 0⟩, s) := by rw [hX]; unfold onLockD; rw [hf]; simp [hful, ← HT.out, hsp]
        rw [e]
        exact op_ret rfl rfl rfl (hmW.fresh HF.out) (fun j h => .inl h.1) hml hbl hm.nm hm.nb (HO.out.res.keep HF.out trivial) (by have := HO.out.sz; omega) ((HO.out.fresh.trans HF.out).weaken fun _ _ _ => trivial)
      · go_enter Tryz.func78, Tryz.ntmps78
        go_wp2_with fail
        simp only [← hG]
        rw [← hW]
        clear hW hG
        go_quiet (fail)
        obtain ⟨W1, hW1⟩ : ∃ z, z = W.drewN nq := ⟨_, rfl⟩
        have hQ1 : Fresh W W1 := hW1 ▸ (Keep.refl _ W).drewN nq
        rw [← hW1]
        replace x1 := hQ1.cellAt x1 trivial
        replace x2 := hQ1.cellAt x2 trivial
        replace k0 := hQ1.cellAt k0 trivial
        replace k4 := hQ1.cellAt k4 trivial
        have kl1 : G < W1.heap.size := Nat.lt_of_lt_of_le kl hQ1.size
        have hml1 : m < W1.heap.size := Nat.lt_of_lt_of_le hmlt hQ1.size
        have HQ1 := Lib.hid hQ1
        clear hW1 hlk k5 k6 hQ1
        go_wp2_with fail
        go_quiet (fail)
        obtain ⟨W2, hW2⟩ : ∃ z, z = W1.drewN nq := ⟨_, rfl⟩
        have hQ2 : Fresh W1 W2 := hW2 ▸ (Keep.refl _ W1).drewN nq
        rw [← hW2]
        replace x1 := hQ2.cellAt x1 trivial
        replace x2 := hQ2.cellAt x2 trivial
        replace k0 := hQ2.cellAt k0 trivial
        replace k4 := hQ2.cellAt k4 trivial
        have kl2 : G < W2.heap.size := Nat.lt_of_lt_of_le kl1 hQ2.size
        have hml2 : m < W2.heap.size := Nat.lt_of_lt_of_le hml1 hQ2.size
        have HQ2 := Lib.hid (HQ1.out.trans hQ2)
        clear hW2 hQ2 hml1 kl1
        have HLm := Lib.hid (HLS.out.map.keep HQ2.out trivial)
        go_wp2_with (at_len; refine wpList_mlen rfl (.tmp 65) rfl Tryz.underlying88 rfl HLm.out ?_)
        have hM2 := HA.out.2.1.fresh HQ2.out
        have hf2 := hM2.blk.frozen 2
        have HNx := Lib.hid (next_any m tok W2.drew x2 hf2 ht0 ht1)
        have hmb : m ≠ bl := fun e => HLS.out.map.ne_blk HA.out.2.1.blk e.symm
        have hGm : G ≠ m ∧ G ≠ bl := ⟨by have := HO.out.sz; omega, fun e => HLS.out.map.ne_blk HO.out.cmd e.symm⟩
        obtain ⟨W3, hW3⟩ : ∃ z, z = W2.drew.setCell ⟨m, 2, none⟩ (.int .i64 (tok + 1)) := ⟨_, rfl⟩
        have hk3 : Keep (fun j => j ≠ m) W2 W3 := hW3 ▸ ((Keep.refl _ W2).drew).setCell (fun _ h => h rfl) _
        have hb3 : Blk W3 m 91 (mcells bp bl (tok + 1) s.ss).toArray := by
          have h1 := (hM2.blk.drew.set 2 (.int .i64 (tok + 1)))
          rw [mcells_tok] at h1
          rw [hW3]
          exact h1
        have hs3 : W2.heap.size ≤ W3.heap.size := hk3.size
        replace HNx := Lib.hid (HNx.out.mono fun e w' h => (⟨h.1, hW3.trans h.2.symm⟩ : e = .returned (.int .i64 (tok + 1)) ∧ W3 = w'))
        obtain ⟨W4, hW4⟩ : ∃ z, z = W3.alloc (.cells #[.int .i64 c, .int .i64 (tok + 1), .slice none 0 0] 101) := ⟨_, rfl⟩
        have hk4 : Fresh W3 W4 := hW4 ▸ (Keep.refl _ W3).alloc _
        have hb4 : Blk W4 W3.heap.size 101 #[.int .i64 c, .int .i64 (tok + 1), .slice none 0 0] := hW4 ▸ Blk.new _ _ _
        obtain ⟨W5, hrun, hm5, hk5⟩ := ((HLm.out.keep hk3 (fun e => hmb e.symm)).keep hk4 trivial).store Tryz.underlying9 Tryz.underlying88 (by rw [hll]; simp only [maxLen]; omega) (l := k) (by simp only [maxLen]; omega) (.pointer (some ⟨W3.heap.size, 0, none⟩))
        have hG3 : ∀ w', Keep (fun j => j ≠ m ∧ j ≠ bl) W2 w' → Blk w' m 91 (mcells bp bl (tok + 1) s.ss).toArray → w'.cell? ⟨m, 1, none⟩ = some (.map (some bl)) ∧ w'.cell? ⟨G, 0, none⟩ = some (.int .i64 c) ∧ w'.cell? ⟨G, 4, none⟩ = some (str k) := fun w' h1 h2 => ⟨h2.cell 1, h1.cellAt k0 hGm, h1.cellAt k4 hGm⟩
        have hS3 := hG3 W3 (hk3.weaken fun _ _ h => h.1) hb3
        have hS4 := hG3 W4 ((hk3.comp hk4 (fun _ _ h => h.1) (fun _ _ _ => trivial))) (hb3.keep hk4 trivial)
        have hb5 := (hb3.keep hk4 trivial).keep hk5 hmb
        have x25 : W5.cell? ⟨m, 2, none⟩ = some (.int .i64 (tok + 1)) := hb5.cell 2
        have hml5 := hb5.lt
        have hr4 : Hid (∀ z : World, z = W4 → z = W4) := Lib.hid fun _ h => h
        have hS5 := hG3 W5 ((hk3.comp hk4 (fun _ _ h => h.1) (fun _ _ _ => trivial)).comp hk5 (fun _ _ h => h) (fun _ _ h => h.2)) hb5
        have HS := Lib.hid (And.intro hS3 hS4)
        have HS5 := Lib.hid hS5
        have H5 := Lib.hid (And.intro hm5 (And.intro hk5 (And.intro hb5 (And.intro hk3 (And.intro hk4 (And.intro hb4 hs3))))))
        rw [hW4] at hrun
        rw [hW4] at HS
        clear hM2 hS3 hS4 hS5 hm5 hk5 hb5 hk3 hk4 hb4 hb3 hG3 hr4 x2 hW3 hW4
        go_region_held3 (fun w' => w'.cell? ⟨m, 1, none⟩ = some (.map (some bl)) ∧ w'.cell? ⟨G, 0, none⟩ = some (.int .i64 c) ∧ w'.cell? ⟨G, 4, none⟩ = some (str k))
          (first | exact ⟨x1, k0, k4⟩ | exact HS.out.1 | exact HS.out.2 | exact HS5.out)
          (first
            | (go_at_call 116; refine HNx.out.mono ?_; rintro e _ ⟨rfl, rfl⟩))
        clear x1 k0 k4 hrun HNx
        go_wp2_with fail
        refine (done_any _ _ W5).mono ?_
        rintro e W6 ⟨rfl, f6⟩
        obtain ⟨hm5, hk5, hb5, hk3, hk4, hb4, -⟩ := H5.out
        have hblW := HLS.out.map.lt
        have hkW5 : Keep (fun j => j ≠ m ∧ j ≠ bl) W W5 := ((HQ2.out.comp hk3 (fun _ _ _ => trivial) (fun _ _ h => h.1)).comp hk4 (fun _ _ h => h) (fun _ _ _ => trivial)).comp hk5 (fun _ _ h => h) (fun _ _ h => h.2)
        have hsz := HO.out.sz
        have hz2 := HQ2.out.size
        have hbr := HO.out.res.keep hkW5 ⟨by omega, fun e => HLS.out.map.ne_blk HO.out.res e.symm⟩
        have hM2 := HA.out.2.1
        have hMS : MSt (fun j => (S j ∧ j < w.heap.size) ∨ W.heap.size ≤ j) W5 m bp bl { s with locks := insK LockD.name ⟨k, c, tok + 1, []⟩ s.locks, tok := tok + 1 } := by
          refine ⟨hb5, hM2.len, hM2.pm.keep hkW5 ⟨fun e => hM2.mp e.symm, hM2.ne⟩, ⟨_, HLS.out.ins ⟨⟨k, c, tok + 1, []⟩, W3.heap.size, .slice none 0 0⟩ hm5 hkW5 (fun j hj h => ⟨fun e => hM2.nm (by rw [← e]; exact hj), h⟩) (S' := fun j => (S j ∧ j < w.heap.size) ∨ W.heap.size ≤ j) ⟨hb4.keep hk5 (by omega), OwnAt.nil _ _ _, .inr (by show W.heap.size ≤ W3.heap.size; omega), fun k hk => by cases hk⟩ (fun _ h => .inl h) (findK_none hf) (by show W.heap.size ≤ W3.heap.size; omega) rfl⟩, fun e => e.elim hM2.nm fun e => by omega, fun e => e.elim hM2.nb fun e => by have := hM2.pm.lt; omega⟩
        have H6 := Lib.hid (And.intro hMS (And.intro hkW5 (And.intro f6 (hbr.keep f6 trivial))))
        obtain ⟨r0, r1, r2, s0, s1, s2, rl⟩ := res_facts H6.out.2.2.2
        clear hm5 hk5 hb5 hk3 hk4 hb4 hkW5 hsz hz2 hbr hM2 hMS f6 hblW
        go_wp2_with fail
        obtain ⟨hm, hmW, hX, hi⟩ := HA.out
        have e : X = (⟨1, [], tok + 1⟩, { s with locks := insK LockD.name ⟨k, c, tok + 1, []⟩ s.locks, tok := tok + 1 }) := by
          rw [hX]
          unfold onLockD
          rw [hf, ← HT.out]
          simp only [if_true]
          rw [if_neg hful, if_neg (by omega)]
        rw [e]
        have hsz := HO.out.sz
        have hz := HO.out.fresh.size
        exact op_ret rfl rfl rfl (H6.out.1.fresh H6.out.2.2.1) (fun j h => h.elim (fun h => .inl h.1) fun h => .inr (by omega)) hml hbl hm.nm hm.nb H6.out.2.2.2 (by omega) ((HO.out.fresh.comp H6.out.2.1 (fun _ _ _ => trivial) (fun _ _ h => ⟨h.1, fun e => h.2.2 (by rw [e]; exact hm.sbl)⟩)).comp H6.out.2.2.1 (fun _ _ h => h) (fun _ _ _ => trivial))
  | some l =>
    obtain ⟨x, hx, hxl, hxk, hxi, hxf⟩ := lk_find hls hf
    obtain ⟨y0, y1, y2⟩ := hxi.cells
    rw [hxl] at y0 y1
    have hrow := hxi.row
    rw [hxl] at hrow
    have hlk := look_lk hls (k := k) (by omega) _ hxf
    obtain ⟨h, hh⟩ : ∃ h, h = x.h := ⟨_, rfl⟩
    rw [← hh] at y0 y1 y2 hlk
    have hhl := hxi.lt
    rw [← hh] at hhl
    have HX := Lib.hid (And.intro hls (And.intro hx (And.intro hxl (And.intro hxk (And.intro hxi hh)))))
    obtain ⟨lh, hlh⟩ : ∃ lh, lh = l.holder := ⟨_, rfl⟩
    obtain ⟨lt, hlt⟩ : ∃ lt, lt = l.token := ⟨_, rfl⟩
    rw [← hlh] at y0
    rw [← hlt] at y1
    have HLH := Lib.hid (And.intro hlh hlt)
    obtain ⟨v0, hv0⟩ : ∃ v0, v0 = x.v := ⟨_, rfl⟩
    rw [← hv0] at hrow y2
    have HR := Lib.hid (And.intro hrow hv0)
    clear hls hx hxl hxk hxi hxf hh hlh hlt hrow hv0
    by_cases hc : lh = c
    · subst hc
      clear y2
      go_enter Tryz.func78, Tryz.ntmps78
      go_wp2_with fail
      simp only [← hG]
      rw [← hW]
      clear hW hG
      go_quiet (fail)
      go_wp2_with fail
      go_quiet (fail)
      go_wp2_with fail
      refine (done_any _ _ _).mono ?_
      rintro e W4 ⟨rfl, f4⟩
      have HF := Lib.hid (((Keep.refl _ W).drewN _).trans f4)
      obtain ⟨r0, r1, r2, s0, s1, s2, rl⟩ := res_facts (HO.out.res.keep HF.out trivial)
      clear f4
      go_wp2_with fail
      obtain ⟨hm, hmW, hX, hi⟩ := HA.out
      have e : X = (⟨1, [], lt⟩, s) := by
        rw [hX]
        unfold onLockD
        rw [hf]
        simp only [if_true]
        rw [if_pos HLH.out.1.symm, HLH.out.2]
      rw [e]
      exact op_ret rfl rfl rfl (hmW.fresh HF.out) (fun j h => .inl h.1) hml hbl hm.nm hm.nb (HO.out.res.keep HF.out trivial) (by have := HO.out.sz; omega) ((HO.out.fresh.trans HF.out).weaken fun _ _ _ => trivial)
    · obtain ⟨b, hb⟩ : ∃ b, b = decide (c ∈ l.queue) := ⟨_, rfl⟩
      have HCo : Hid (∀ q, Calls Tryz.prog 120 #[v0, .int .i64 c] (W.drewN q) fun e w' => e = .returned (.bool b) ∧ W.drewN q = w') := Lib.hid fun q => by
        rw [hb]
        exact (contains_any l.queue c (W.drewN q) (HR.out.1.keep ((Keep.refl (fun _ => True) W).drewN q) (fun _ _ => trivial)))
      have HB := Lib.hid hb
      clear hb
      go_enter Tryz.func78, Tryz.ntmps78
      go_wp2_with fail
      simp only [← hG]
      rw [← hW]
      clear hW hG
      go_quiet (fail)
      go_wp2_with fail
      go_quiet (fail)
      go_wp2_with fail
      go_quiet ((go_at_call 120; exact quiet_add_left (HCo.out _)))
      cases b
      · go_wp2_with fail
        generalize hW3 : World.drewN (World.drewN W _) nq = W3
        have hQ3 : Fresh W W3 := hW3 ▸ ((Keep.refl _ W).drewN _).drewN _
        clear hW3
        replace k0 := hQ3.cellAt k0 trivial
        replace y2 := hQ3.cellAt y2 trivial
        have kl3 : G < W3.heap.size := Nat.lt_of_lt_of_le kl hQ3.size
        have hhl3 : h < W3.heap.size := Nat.lt_of_lt_of_le hhl hQ3.size
        have hcq : c ∉ l.queue := by simpa using HB.out
        obtain ⟨hls, hx, hxl, hxk, hxi, hh⟩ := HX.out
        have hxi3 := hxi.keep hQ3 trivial (fun _ _ => trivial)
        have hlo := HA.out.2.2.2.each l (findK_some hf).2
        have hql := queue_len hlo.nd hlo.q
        have hrow3 : OwnAt W3 0 3 v0 l.queue.length (ics l.queue) := HR.out.1.keep hQ3 (fun _ _ => trivial)
        have hkA : Fresh W3 (W3.drew.alloc (.cells #[.int .i64 c] 3)) := ((Keep.refl (fun _ => True) W3).drew).alloc _
        have hrowA := hrow3.keep hkA (fun _ _ => trivial)
        have hvh : v0.ownBlock ≠ some h := by
          rw [hh]
          exact hrow3.ne_blk hxi3.blk (by decide)
        have hvG : v0.ownBlock ≠ some G := hrow3.ne_blk (HO.out.cmd.keep hQ3 trivial) (by decide)
        have zf : W3.frozen? ⟨h, 2, none⟩ = false := by rw [hh]; exact hxi3.blk.frozen 2
        have yA := hkA.cellAt y2 trivial
        have kA := hkA.cellAt k0 trivial
        have fA := (hkA.frozen (p := ⟨h, 2, none⟩) hhl3 trivial).trans zf
        have hlA : h < (W3.drew.alloc (.cells #[.int .i64 c] 3)).heap.size := Nat.lt_of_lt_of_le hhl3 hkA.size
        have hGA : G < (W3.drew.alloc (.cells #[.int .i64 c] 3)).heap.size := Nat.lt_of_lt_of_le kl3 hkA.size
        have hGh : G ≠ h := fun e => Blk.ne (HO.out.cmd.keep hQ3 trivial) (hh ▸ hxi3.blk) (by decide) e
        have HF := Lib.hid (And.intro hrowA (And.intro hvh (And.intro yA (And.intro fA (And.intro hlA (And.intro (show (l.queue.length + 1) * 8 ≤ 140737488355328 by omega) (And.intro kA (And.intro hGA (And.intro hvG hGh)))))))))
        have HQ3 := Lib.hid (And.intro hQ3 (And.intro hcq (And.intro hrow3 hql)))
        clear hQ3 hlk x1 x2 y0 y1 k4 k5 k6 HCo hls hx hxl hxk hxi hh hxi3 hlo hrow3 hkA hrowA hvh yA fA hlA hcq kA hGA hql hvG hGh
        go_region_law (first
          | (refine step_appAt etInt rfl (.tmp 45) (.tmp 48) rfl 0 v0 l.queue.length (ics l.queue) rfl HF.out.1 _ ⟨W3.heap.size, 0, none⟩ _ (.int .i64 c) rfl (Rd.one_of (Blk.new _ _ _) rfl) rfl HF.out.2.2.2.2.2.1 (Nat.zero_le _) ?_
             intro v4 w4 ho4 hk4 hn4
             obtain ⟨A4, c4, hv4, -⟩ := ho4.rd
             subst hv4
             have t2 := hk4.cellAt HF.out.2.2.1 HF.out.2.1
             have t0 := hk4.cellAt HF.out.2.2.2.2.2.2.1 HF.out.2.2.2.2.2.2.2.2.1
             have tf : w4.frozen? ⟨h, 2, none⟩ = false := (hk4.frozen (p := ⟨h, 2, none⟩) HF.out.2.2.2.2.1 HF.out.2.1).trans HF.out.2.2.2.1
             have tl : h < w4.heap.size := Nat.lt_of_lt_of_le HF.out.2.2.2.2.1 hk4.size
             have tG : G < w4.heap.size := Nat.lt_of_lt_of_le HF.out.2.2.2.2.2.2.2.1 hk4.size
             have H4 := Lib.hid (And.intro ho4 (And.intro hk4 hn4))
             clear ho4 hk4 hn4))
        all_goals
          go_wp2_with fail
          obtain ⟨ho4, hk4, hn4⟩ := H4.out
          obtain ⟨hQ3, hcq, hrow3, hql⟩ := HQ3.out
          obtain ⟨hls, hx, hxl, hxk, hxi, hh⟩ := HX.out
          have hvh := HF.out.2.1
          have hvG := HF.out.2.2.2.2.2.2.2.2.1
          have hGh := HF.out.2.2.2.2.2.2.2.2.2
          obtain ⟨V4, hV4⟩ : ∃ V, V = Value.slice A4 (l.queue.length + 1) c4 := ⟨_, rfl⟩
          rw [← hV4] at ho4 hn4 ⊢
          have hV4h : V4.ownBlock ≠ some h := by
            rcases hn4 with e | ⟨g, hg, hle⟩
            · rw [e]; exact hvh
            · rw [hg]
              intro e
              injection e with e
              have : W3.heap.size ≤ (W3.alloc (.cells #[.int .i64 c] 3)).drew.heap.size := ((Keep.refl (fun _ => True) W3).alloc _).drew.size
              omega
          have hn4' : Next W3.heap.size v0 V4 := by
            rcases hn4 with e | ⟨g, hg, hle⟩
            · exact .inl e
            · exact .inr ⟨g, hg, Nat.le_trans ((Keep.refl (fun _ => True) W3).alloc (.cells #[.int .i64 c] 3)).drew.size hle⟩
          have K34 : Keep (fun k => v0.ownBlock ≠ some k) W3 w4 := ((Keep.refl (fun _ => True) W3).alloc _).drew.comp hk4 (fun _ _ _ => trivial) (fun _ _ h => h)
          have hb4 : Blk w4 h 101 #[.int .i64 x.d.holder, .int .i64 x.d.token, x.v] := ((hh ▸ hxi.blk).keep hQ3 trivial).keep K34 hvh
          have hb5 : Blk (w4.setCell ⟨h, 2, none⟩ V4) h 101 #[.int .i64 x.d.holder, .int .i64 x.d.token, V4] := hb4.set 2 V4
          have ho5 : OwnAt (w4.setCell ⟨h, 2, none⟩ V4) 0 3 V4 (l.queue ++ [c]).length (ics (l.queue ++ [c])) := by
            have h1 := ho4.far (p := ⟨h, 2, none⟩) hV4h V4
            simpa [ics] using h1
          have K35 : Keep (fun j => j ≠ h ∧ v0.ownBlock ≠ some j) W3 (w4.setCell ⟨h, 2, none⟩ V4) := (K34.weaken fun _ _ h => h.2).setCell (fun _ h => h.1 rfl) _
          generalize hW5 : World.setCell w4 ⟨h, 2, none⟩ V4 = W5 at hb5 ho5 K35 ⊢
          have u2 := hb5.cell 2
          simp at u2
          have u0 := K35.cellAt k0 ⟨hGh, hvG⟩
          have ul : G < W5.heap.size := Nat.lt_of_lt_of_le kl3 K35.size
          have uh := hb5.lt
          have hres5 := (HO.out.res.keep hQ3 trivial).keep K35 ⟨fun e => Blk.ne (HO.out.res.keep hQ3 trivial) ((hh ▸ hxi.blk).keep hQ3 trivial) (by decide) e, hrow3.ne_blk (HO.out.res.keep hQ3 trivial) (by decide)⟩
          obtain ⟨r0, r1, r2, s0, s1, s2, rl⟩ := res_facts hres5
          have hhG : h ≠ G + 1 := fun e => Blk.ne (HO.out.res.keep hQ3 trivial) ((hh ▸ hxi.blk).keep hQ3 trivial) (by decide) e.symm
          have hix : Lib.idxOf (l.queue ++ [c]) c = ((l.queue.length : Nat) : Int) := by
            rw [idx_mem (by simp), List.idxOf_append, if_neg hcq]
            simp
          obtain ⟨ix, hix2⟩ : ∃ ix, ix = l.queue.length := ⟨_, rfl⟩
          rw [← hix2] at hix hql
          have HIx : Hid (∀ q, Calls Tryz.prog 113 #[V4, .int .i64 c] (W5.drewN q) fun e w' => e = .returned (.int .i64 (ix : Int)) ∧ W5.drewN q = w') := Lib.hid fun q => by
            rw [← hix]
            exact index_any (l.queue ++ [c]) c (W5.drewN q) (ho5.keep ((Keep.refl (fun _ => True) W5).drewN q) (fun _ _ => trivial))
          have HRr := Lib.hid (fun w' (hk : Keep (fun j => j ≠ G + 1) W5 w') => (⟨hk.cellAt u2 hhG, hk.cellAt u0 (show G ≠ G + 1 by omega)⟩ : w'.cell? ⟨h, 2, none⟩ = some V4 ∧ w'.cell? ⟨G, 0, none⟩ = some (.int .i64 c)))
          have H5 := Lib.hid (And.intro hb5 (And.intro ho5 (And.intro K35 (And.intro hres5 (And.intro hix2 hn4')))))
          clear HF H4 ho4 hk4 hn4 hQ3 hcq hrow3 hls hx hxl hxk hxi hh hvh hvG hGh hV4 hV4h hn4' K34 hb4 hb5 ho5 K35 hres5 hix hix2 hW5 t0 t2 tf tl tG k0 y2 zf
          go_region_held3 (fun w' => w'.cell? ⟨h, 2, none⟩ = some V4 ∧ w'.cell? ⟨G, 0, none⟩ = some (.int .i64 c))
            (first | exact ⟨u2, u0⟩ | exact HRr.out _ (((((Keep.refl _ W5).drewN _).setCell (fun _ h => h rfl) _).setCell (fun _ h => h rfl) _).setCell (fun _ h => h rfl) _))
            (first | (go_at_call 113; refine (HIx.out _).mono ?_; rintro e _ ⟨rfl, rfl⟩))
          go_wp2_with fail
          rw [IntWalk.i64_in _ ⟨by omega, by omega⟩]
          obtain ⟨hm, hmW, hX, hi⟩ := HA.out
          obtain ⟨hQ3, hcq, hrow3, -⟩ := HQ3.out
          obtain ⟨hls, hx, hxl, hxk, hxi, hh⟩ := HX.out
          obtain ⟨hb5, ho5, K35, hres5, hix2, hn4⟩ := H5.out
          have e : X = (⟨7, [], (ix : Int) + 1⟩, { s with locks := setK LockD.name { l with queue := l.queue ++ [c] } s.locks }) := by
            rw [hX]
            unfold onLockD
            rw [hf]
            simp only [if_true]
            rw [if_neg (fun e => hc (by rw [HLH.out.1]; exact e)), if_neg hcq, hix2]
          rw [e]
          have hS5 : ∀ j, V4.ownBlock = some j → (S j ∧ j < w.heap.size) ∨ W3.heap.size ≤ j := fun j hj => by
            rcases hn4 with e | ⟨g, hg, hle⟩
            · exact .inl (hxi.sv j (by rw [← HR.out.2, ← e]; exact hj))
            · exact .inr (by rw [hg] at hj; injection hj with hj; omega)
          obtain ⟨hT, hTk⟩ := MSt.turned (hmW.fresh hQ3) hi.rise (hls.keep hQ3 (fun _ _ => trivial)) hx (x' := ⟨{ l with queue := l.queue ++ [c] }, h, V4⟩) hh (by rw [hxl])
            ⟨by rw [hxl] at hb5; exact hb5, ho5, .inl (hh ▸ hxi.sh), hS5⟩ (by rw [← HR.out.2]; exact hn4) (K35.weaken fun j _ hj => ⟨fun e => hj.1 (e.trans hh), by rw [HR.out.2]; exact hj.2⟩)
          have hQ4 : Fresh W5 (W5.drewN 1) := (Keep.refl _ W5).drewN 1
          have hz3 := (HO.out.fresh.trans hQ3).size
          exact op_ret rfl rfl rfl (hT.fresh hQ4) (fun j h => h.elim (fun h => .inl h.1) fun h => .inr (by omega)) hml hbl hm.nm hm.nb (hres5.keep hQ4 trivial) (by have := HO.out.sz; omega) (((HO.out.fresh.trans hQ3).comp hTk (fun _ _ _ => trivial) (fun _ _ h => ⟨h.1, h.2.1, fun e => h.2.2 e.1⟩)).comp hQ4 (fun _ _ h => h) (fun _ _ _ => trivial))
      · go_wp2_with fail
        generalize hW3 : World.drewN (World.drewN W _) nq = W3
        have hQ3 : Fresh W W3 := hW3 ▸ ((Keep.refl _ W).drewN _).drewN _
        clear hW3
        replace k0 := hQ3.cellAt k0 trivial
        replace y2 := hQ3.cellAt y2 trivial
        have kl3 : G < W3.heap.size := Nat.lt_of_lt_of_le kl hQ3.size
        have hhl3 : h < W3.heap.size := Nat.lt_of_lt_of_le hhl hQ3.size
        have hcq : c ∈ l.queue := by simpa using HB.out
        have hix : Lib.idxOf l.queue c = (l.queue.idxOf c : Int) := idx_mem hcq
        obtain ⟨ix, hix2⟩ : ∃ ix, ix = l.queue.idxOf c := ⟨_, rfl⟩
        rw [← hix2] at hix
        have hixb : ix ≤ 1000 := by
          have h1 := List.idxOf_lt_length_of_mem hcq
          have hxo := HA.out.2.2.2.each l (findK_some hf).2
          have := queue_len hxo.nd hxo.q
          omega
        have HIx : Hid (∀ q, Calls Tryz.prog 113 #[v0, .int .i64 c] (W3.drewN q) fun e w' => e = .returned (.int .i64 (ix : Int)) ∧ W3.drewN q = w') := Lib.hid fun q => by
          rw [← hix]
          exact index_any l.queue c (W3.drewN q) ((HR.out.1.keep hQ3 (fun _ _ => trivial)).keep ((Keep.refl (fun _ => True) W3).drewN q) (fun _ _ => trivial))
        have HQ3 := Lib.hid (And.intro hQ3 (And.intro hcq hix2))
        obtain ⟨r0, r1, r2, s0, s1, s2, rl⟩ := res_facts (HO.out.res.keep hQ3 trivial)
        clear hQ3 hcq hix hix2 hlk x1 x2 y0 y1 k4 k5 k6 HCo
        have hhG : h ≠ G + 1 := fun e => by
          obtain ⟨-, -, -, -, hxi, hh⟩ := HX.out
          exact Blk.ne (HO.out.res.keep HQ3.out.1 trivial) ((hh ▸ hxi.blk).keep HQ3.out.1 trivial) (by decide) e.symm
        have HRr := Lib.hid (fun w' (hk : Keep (fun j => j ≠ G + 1) W3 w') => (⟨hk.cellAt y2 hhG, hk.cellAt k0 (show G ≠ G + 1 by omega)⟩ : w'.cell? ⟨h, 2, none⟩ = some v0 ∧ w'.cell? ⟨G, 0, none⟩ = some (.int .i64 c)))
        go_region_held3 (fun w' => w'.cell? ⟨h, 2, none⟩ = some v0 ∧ w'.cell? ⟨G, 0, none⟩ = some (.int .i64 c))
          (first | exact ⟨y2, k0⟩ | exact HRr.out _ (((((Keep.refl _ W3).drewN _).setCell (fun _ h => h rfl) _).setCell (fun _ h => h rfl) _).setCell (fun _ h => h rfl) _))
          (first | (go_at_call 113; refine (HIx.out _).mono ?_; rintro e _ ⟨rfl, rfl⟩))
        go_wp2_with fail
        rw [IntWalk.i64_in _ ⟨by omega, by omega⟩]
        obtain ⟨hm, hmW, hX, hi⟩ := HA.out
        obtain ⟨hQ3, hcq, hix2⟩ := HQ3.out
        have e : X = (⟨7, [], (ix : Int) + 1⟩, s) := by
          rw [hX]
          unfold onLockD
          rw [hf]
          simp only [if_true]
          rw [if_neg (fun e => hc (by rw [HLH.out.1]; exact e)), if_pos hcq, hix2]
        rw [e]
        have hQ4 := hQ3.drewN 1
        exact op_ret rfl rfl rfl (hmW.fresh hQ4) (fun j h => .inl h.1) hml hbl hm.nm hm.nb (HO.out.res.keep hQ4 trivial) (by have := HO.out.sz; omega) ((HO.out.fresh.trans hQ4).weaken fun _ _ _ => trivial)
end Go.Proofs.YtlibhkehebioeaaGreatDoor
namespace Go.Proofs.YtlibhkehebioeaaGreatDoor
set_option linter.unusedVariables false
set_option linter.unusedSimpArgs false
open Go.RowKit

theorem numb_bound (l : Txt) : -1000000000000000000 < (numb l).1 ∧ (numb l).1 < 1000000000000000000 := by
  unfold numb
  split
  · simp
  · cases h : Lib.atoi l with
    | none => simp
    | some n => exact Lib.atoi_bound h (by omega)
theorem itoa_any (n : Int) (h0 : -2000000000000000000 ≤ n) (h1 : n ≤ 2000000000000000000) (w : World) (hT : Tabs w) : Calls Tryz.prog 119 #[.int .i64 n] w fun e w' => e = .returned (str (Lib.itoa n)) ∧ Fresh w w' := by
  refine (Tryz.strconv_Itoa n (by omega) (by omega) w hT.pow).mono ?_
  rintro e w' ⟨rfl, k, os, rfl⟩
  exact ⟨rfl, Fresh.growN _ _ _⟩

set_option maxRecDepth 20000 in
set_option maxHeartbeats 1000000 in
theorem addop_any (S : Nat → Prop) (m bp bl : Nat) (s : StD) (c i r : Int) (k v d : Txt) (w : World) (hm : MSt S w m bp bl s) (hp : PInv s.pairs) (hk : k.length ≤ 8) (hv : v.length ≤ 8) (hT : Tabs w) :
    Calls Tryz.prog 77 #[.pointer (some ⟨m, 0, none⟩), cmdV c i r 5 k v d] w (OpPost S m bp bl (onKeyD numb Lib.itoa 5 k v d s) w) := by
  obtain ⟨X, hX⟩ : ∃ X, X = onKeyD numb Lib.itoa 5 k v d s := ⟨_, rfl⟩
  rw [← hX]
  have HO := Lib.hid (op_at w c i r 5 k v d)
  obtain ⟨G, hG⟩ : ∃ G, G = w.heap.size := ⟨_, rfl⟩
  obtain ⟨W, hW⟩ : ∃ W, W = (w.alloc (.cells #[.int .i64 c, .int .i64 i, .int .i64 r, .int .i64 5, str k, str v, str d] 30)).alloc (.cells #[.int .i64 0, str [], .int .i64 0] 33) := ⟨_, rfl⟩
  rw [← hW, ← hG] at HO
  obtain ⟨k0, k4, k5, k6, kl⟩ := HO.out.cells
  have k1 := HO.out.cmd.cell 1
  have k2 := HO.out.cmd.cell 2
  have k3 := HO.out.cmd.cell 3
  simp at k1 k2 k3
  have hmW := hm.fresh HO.out.fresh
  obtain ⟨x0, -, -⟩ := hmW.three
  have hmlt := hmW.blk.lt
  have hml := hm.blk.lt
  have hbl := hm.pm.lt
  have hlk := look_str hmW.pm (l := k) (by omega)
  have hlen := hp.len
  have HA := Lib.hid (And.intro hm (And.intro hmW (And.intro hX (And.intro hp hT))))
  clear hm hmW hX hp hT
  go_enter Tryz.func77, Tryz.ntmps77
  go_wp2_with fail
  simp only [← hG]
  rw [← hW]
  clear hW hG
  go_quiet (fail)
  obtain ⟨W2, hW2⟩ : ∃ W2, W2 = W.drewN nq := ⟨_, rfl⟩
  have hQ : Fresh W W2 := hW2 ▸ (Keep.refl _ W).drewN nq
  rw [← hW2]
  have HQ := Lib.hid hQ
  replace x0 := hQ.cellAt x0 trivial
  replace k0 := hQ.cellAt k0 trivial
  replace k1 := hQ.cellAt k1 trivial
  replace k2 := hQ.cellAt k2 trivial
  replace k3 := hQ.cellAt k3 trivial
  replace k4 := hQ.cellAt k4 trivial
  replace k5 := hQ.cellAt k5 trivial
  replace k6 := hQ.cellAt k6 trivial
  replace hmlt : m < W2.heap.size := Nat.lt_of_lt_of_le hmlt hQ.size
  replace kl : G < W2.heap.size := Nat.lt_of_lt_of_le kl hQ.size
  clear hQ
  cases hpf : pfind k s.pairs with
  | none =>
    rw [hpf] at hlk
    have HSet := setop_any Lib.itoa (fun j => S j ∧ j < w.heap.size) m bp bl s c i r 5 k v d W2 ((HA.out.1.tight.fresh HO.out.fresh).fresh HQ.out) HA.out.2.2.2.1 hk
    by_cases hful : 16 ≤ s.pairs.length
    · have e1 : onKeyD numb Lib.itoa 1 k v d s = (⟨4, [], 0⟩, s) := by unfold onKeyD; rw [pfindD_none hpf]; simp [hful]
      have HE : Hid (X = (⟨4, [], 0⟩, s)) := by rw [HA.out.2.2.1]; unfold onKeyD; rw [pfindD_none hpf]; simp [hful]; trivial
      rw [e1] at HSet
      replace HSet := Lib.hid HSet
      clear hW2 hlk x0
      go_wp2_with fail
      refine HSet.out.mono ?_
      rintro e W4 ⟨rfl, hst, hkp⟩
      have hsz := HO.out.sz
      have hb4 := (HO.out.res.keep HQ.out trivial).keep hkp ⟨by omega, by omega, fun h => by have := h.2; omega⟩
      have H4 := Lib.hid (And.intro hst (And.intro hkp hb4))
      have r4 := res_facts hb4
      clear hst hkp hb4 HSet hsz
      obtain ⟨r0, r1, r2, s0, s1, s2, rl⟩ := r4
      go_wp2_with fail
      have hm := HA.out.1
      have hsz := HO.out.sz
      have hz1 := HO.out.fresh.size
      have hz2 := HQ.out.size
      rw [HE.out]
      exact op_ret2 rfl rfl rfl H4.out.1 (fun j h => h.elim (fun h => .inl h.1) fun h => .inr (by omega)) hml hbl hm.nm hm.nb H4.out.2.2 (by omega) ((HO.out.fresh.trans HQ.out).comp H4.out.2.1 (fun _ _ _ => trivial) (fun _ _ h => ⟨h.1, h.2.1, fun e => h.2.2 e.1⟩)) ((Keep.refl _ _).alloc _)
    · have e1 : onKeyD numb Lib.itoa 1 k v d s = (⟨1, [], 0⟩, { s with pairs := pputD k v s.pairs }) := by unfold onKeyD; rw [pfindD_none hpf]; simp [hful]
      have HE : Hid (X = (⟨1, v, 0⟩, { s with pairs := pputD k v s.pairs })) := by rw [HA.out.2.2.1]; unfold onKeyD; rw [pfindD_none hpf]; simp [hful]; trivial
      rw [e1] at HSet
      replace HSet := Lib.hid HSet
      clear hlk x0 hW2
      go_wp2_with fail
      refine HSet.out.mono ?_
      rintro e W4 ⟨rfl, hst, hkp⟩
      have hsz := HO.out.sz
      have hb4 := (HO.out.res.keep HQ.out trivial).keep hkp ⟨by omega, by omega, fun h => by have := h.2; omega⟩
      have k5' := hkp.cellAt k5 ⟨show G ≠ m by omega, show G ≠ bp by omega, fun h => by have : G < w.heap.size := h.2; omega⟩
      have kl4 : G < W4.heap.size := Nat.lt_of_lt_of_le kl hkp.size
      have H4 := Lib.hid (And.intro hst (And.intro hkp hb4))
      have r4 := res_facts hb4
      clear hst hkp hb4 HSet hsz
      obtain ⟨r0, r1, r2, s0, s1, s2, rl⟩ := r4
      have HK := Lib.hid (And.intro k0 (And.intro k4 kl))
      clear k0 k1 k2 k3 k4 k5 k6
      go_wp2_with fail
      have hm := HA.out.1
      have hsz := HO.out.sz
      have hz1 := HO.out.fresh.size
      have hz2 := HQ.out.size
      rw [HE.out]
      exact op_ret2 rfl rfl rfl H4.out.1 (fun j h => h.elim (fun h => .inl h.1) fun h => .inr (by omega)) hml hbl hm.nm hm.nb H4.out.2.2 (by omega) ((HO.out.fresh.trans HQ.out).comp H4.out.2.1 (fun _ _ _ => trivial) (fun _ _ h => ⟨h.1, h.2.1, fun e => h.2.2 e.1⟩)) ((Keep.refl _ _).alloc _)
  | some u =>
    rw [hpf] at hlk
    have HN := Lib.hid (number_any u W2 ((HA.out.2.2.2.2.fresh HO.out.fresh).fresh HQ.out))
    obtain ⟨na, hna⟩ : ∃ z, z = (numb u).1 := ⟨_, rfl⟩
    obtain ⟨fa, hfa⟩ : ∃ z, z = (numb u).2 := ⟨_, rfl⟩
    rw [← hna, ← hfa] at HN
    have hab := numb_bound u
    rw [← hna] at hab
    obtain ⟨hab1, hab2⟩ := hab
    have HV := Lib.hid (And.intro hna hfa)
    clear hna hfa hW2 k1 k2 k3
    go_wp2_with fail
    refine HN.out.mono ?_
    rintro e W3 ⟨rfl, f3⟩
    have HF3 := Lib.hid (HQ.out.trans f3)
    have hT3 := ((HA.out.2.2.2.2.fresh HO.out.fresh).fresh HQ.out).fresh f3
    replace x0 := f3.cellAt x0 trivial
    replace k4 := f3.cellAt k4 trivial
    replace k5 := f3.cellAt k5 trivial
    replace hmlt : m < W3.heap.size := Nat.lt_of_lt_of_le hmlt f3.size
    replace kl : G < W3.heap.size := Nat.lt_of_lt_of_le kl f3.size
    have HN2 := Lib.hid (number_any v W3 hT3)
    clear f3 HN k0 k6 hlk hT3
    cases fa with
    | false =>
      obtain ⟨r0, r1, r2, s0, s1, s2, rl⟩ := res_facts (HO.out.res.keep HF3.out trivial)
      go_wp2_with fail
      obtain ⟨hm, hmW, hX, hp, hT⟩ := HA.out
      obtain ⟨a, ha⟩ := pfindD_some hpf
      have e : X = (⟨5, u, 1⟩, s) := by rw [hX]; unfold onKeyD; rw [ha]; simp [← HV.out.2]
      rw [e]
      exact op_ret rfl rfl rfl (hmW.fresh HF3.out) (fun j h => .inl h) hml hbl hm.nm hm.nb (HO.out.res.keep HF3.out trivial) (by have := HO.out.sz; omega) ((HO.out.fresh.trans HF3.out).weaken fun _ _ _ => trivial)
    | true =>
      obtain ⟨nb, hnb⟩ : ∃ z, z = (numb v).1 := ⟨_, rfl⟩
      rw [← hnb] at HN2
      have hbb := numb_bound v
      rw [← hnb] at hbb
      obtain ⟨hbb1, hbb2⟩ := hbb
      have HB := Lib.hid hnb
      clear hnb
      go_wp2_with fail
      refine HN2.out.mono ?_
      rintro e W5 ⟨rfl, f5⟩
      have HF5 := Lib.hid (HF3.out.trans f5)
      replace x0 := f5.cellAt x0 trivial
      replace k4 := f5.cellAt k4 trivial
      replace hmlt : m < W5.heap.size := Nat.lt_of_lt_of_le hmlt f5.size
      replace kl : G < W5.heap.size := Nat.lt_of_lt_of_le kl f5.size
      have HI := Lib.hid (itoa_any (na + nb) (by omega) (by omega) W5 ((HA.out.2.2.2.2.fresh HO.out.fresh).fresh HF5.out))
      obtain ⟨L, hL⟩ : ∃ L, L = Lib.itoa (na + nb) := ⟨_, rfl⟩
      rw [← hL] at HI
      have HLL := Lib.hid hL
      clear f5 HN2 k5 hL
      go_wp2_with fail
      refine HI.out.mono ?_
      rintro e W6 ⟨rfl, f6⟩
      have HF6 := Lib.hid (HF5.out.trans f6)
      replace x0 := f6.cellAt x0 trivial
      replace k4 := f6.cellAt k4 trivial
      replace hmlt : m < W6.heap.size := Nat.lt_of_lt_of_le hmlt f6.size
      replace kl : G < W6.heap.size := Nat.lt_of_lt_of_le kl f6.size
      clear f6 HI
      by_cases h8 : 8 < L.length
      · obtain ⟨r0, r1, r2, s0, s1, s2, rl⟩ := res_facts (HO.out.res.keep HF6.out trivial)
        have h8i : (8 : Int) < (L.length : Int) := by omega
        go_wp2_with fail
        obtain ⟨hm, hmW, hX, hp, hT⟩ := HA.out
        obtain ⟨a, ha⟩ := pfindD_some hpf
        have e : X = (⟨6, u, 1⟩, s) := by rw [hX]; unfold onKeyD; rw [ha]; simp [← HV.out.2, ← HV.out.1, ← HB.out, ← HLL.out, h8]
        rw [e]
        exact op_ret rfl rfl rfl (hmW.fresh HF6.out) (fun j h => .inl h) hml hbl hm.nm hm.nb (HO.out.res.keep HF6.out trivial) (by have := HO.out.sz; omega) ((HO.out.fresh.trans HF6.out).weaken fun _ _ _ => trivial)
      · have h8i : ¬ (8 : Int) < (L.length : Int) := by omega
        go_wp2_with fail
        refine wp_region_still_tail 7 (by kernel_rfl) (by kernel_rfl) ?_
        simp only [List.take_succ_cons, List.take_zero, List.drop_succ_cons, List.drop_zero]
        repeat still_step
        refine wpStill_nil ?_
        change wpList _ _ _ _ _ W6.drew
        refine wpList_mstore rfl (.tmp 62) (.tmp 64) (.tmp 65) rfl Tryz.underlying9 Tryz.underlying87 rfl ((HA.out.2.1.fresh HF6.out).pm.keep ((Keep.refl (fun _ => True) W6).drew) trivial) (by rw [sk_len]; simp only [maxLen]; omega) (l := k) (by simp only [maxLen]; omega) rfl (str L) rfl ?_
        intro W7 hm7 hk7
        rw [sk_put] at hm7
        have hk67 : Keep (fun j => j ≠ bp) W6 W7 := (Keep.refl _ W6).drew.trans hk7
        have H7 := Lib.hid (And.intro hm7 hk67)
        have HD := Lib.hid (done_any L 1 W7)
        clear hm7 hk7 hk67 x0 k4
        go_wp2_with fail
        refine HD.out.mono ?_
        rintro e W8 ⟨rfl, f8⟩
        have hb2 := HO.out.res.keep HF6.out trivial
        have hbG : G + 1 ≠ bp := by have := HO.out.sz; omega
        have H8 := Lib.hid (And.intro f8 ((hb2.keep H7.out.2 hbG).keep f8 trivial))
        obtain ⟨r0, r1, r2, s0, s1, s2, rl⟩ := res_facts H8.out.2
        clear f8 HD hb2
        go_wp2_with fail
        obtain ⟨hm, hmW, hX, hp, hT⟩ := HA.out
        obtain ⟨a, ha⟩ := pfindD_some hpf
        have e : X = (⟨1, L, 1⟩, { s with pairs := pput k L s.pairs }) := by rw [hX, pput_eq k L _ hp.rise]; unfold onKeyD; rw [ha]; simp [← HV.out.2, ← HV.out.1, ← HB.out, ← HLL.out, h8]
        rw [e]
        have h2 := op_pairs (x := (⟨1, L, 1⟩, { s with pairs := pput k L s.pairs })) (hmW.fresh HF6.out) rfl H7.out.1 H7.out.2 rfl
        have hsz := HO.out.sz
        have hz1 := HO.out.fresh.size
        have hz2 := HF6.out.size
        exact op_ret rfl rfl rfl (h2.st.fresh H8.out.1) (fun j h => h.elim .inl fun h => .inr (by omega)) hml hbl hm.nm hm.nb H8.out.2 (by omega) ((((HO.out.fresh.trans HF6.out).comp H7.out.2 (fun _ _ _ => trivial) (fun _ _ h => h.2.1)).comp H8.out.1 (fun _ _ h => h) (fun _ _ _ => trivial)))
end Go.Proofs.YtlibhkehebioeaaGreatDoor
namespace Go.Proofs.YtlibhkehebioeaaGreatDoor
set_option linter.unusedVariables false
set_option linter.unusedSimpArgs false
open Go.RowKit

theorem vcmd_of {c i r o : Int} {k v d : Txt} (h : validB c i r o k v d = true) : VCmd numb c i r o k v d := by
  obtain ⟨⟨hc0, hc1⟩, ⟨hi0, hi1⟩, ⟨hr0, hr1⟩, ⟨ho1, ho9⟩, hf⟩ := valid_ok h
  obtain ⟨l1, l2, l3⟩ := fits_len hf
  have hK : o ≤ 8 → 1 ≤ k.length := by
    intro ho
    have hs : hasB (shapeTab.getD o.toNat 0) 1 = true := by
      obtain ⟨n, rfl⟩ : ∃ n : Nat, o = (n : Int) := ⟨o.toNat, by omega⟩
      have hn : n = 1 ∨ n = 2 ∨ n = 3 ∨ n = 4 ∨ n = 5 ∨ n = 6 ∨ n = 7 ∨ n = 8 := by omega
      rcases hn with rfl | rfl | rfl | rfl | rfl | rfl | rfl | rfl <;> decide
    unfold fitsB at hf
    split at hf
    · cases hf
    · rename_i h1
      have : keyB k = true := by
        rcases hk : keyB k with _ | _
        · exact absurd (.inl (by rw [hs, hk]; simp)) h1
        · rfl
      simp [keyB] at this
      omega
  have hE : o = 9 → 0 ≤ (numb v).1 ∧ (numb v).1 < 16 := by
    rintro rfl
    have e : shapeTab.getD (9 : Int).toNat 0 = 32 := by decide
    have b2 : hasB 32 2 = false := by decide
    have b8 : hasB 32 8 = false := by decide
    have b16 : hasB 32 16 = false := by decide
    have b32 : hasB 32 32 = true := by decide
    rw [e] at hf
    unfold fitsB at hf
    rw [b2, b8, b16, b32] at hf
    split at hf
    · cases hf
    · split at hf
      · cases hf
      · simp at hf
        exact hf.2
  exact ⟨hc0, hc1, hi0, hi1, hr0, hr1, ho1, by omega, fun ho => ⟨hK ho, l1⟩, l2, hE⟩

def opFn (o : Int) : Nat := if o = 1 then 73 else if o = 2 then 74 else if o = 3 then 75 else if o = 4 then 76 else if o = 5 then 77
  else if o = 6 then 78 else if o = 7 then 79 else if o = 8 then 80 else 81
theorem op_nine {o : Int} (h1 : 1 ≤ o) (h9 : o ≤ 9) : o = 1 ∨ o = 2 ∨ o = 3 ∨ o = 4 ∨ o = 5 ∨ o = 6 ∨ o = 7 ∨ o = 8 ∨ o = 9 := by omega
theorem opOf_one (o : Int) (f : Nat) (w : World) (h : (o = 1 ∧ f = 73) ∨ (o = 2 ∧ f = 74) ∨ (o = 3 ∧ f = 75) ∨ (o = 4 ∧ f = 76) ∨ (o = 5 ∧ f = 77) ∨ (o = 6 ∧ f = 78) ∨ (o = 7 ∧ f = 79) ∨ (o = 8 ∧ f = 80) ∨ (o = 9 ∧ f = 81)) :
    Calls Tryz.prog 44 #[.int .i64 o] w fun e w' => e = .returned (.agg #[.func (Fn.func f) #[] #[]]) ∧ Fresh w w' := by
  rcases h with ⟨rfl, rfl⟩ | ⟨rfl, rfl⟩ | ⟨rfl, rfl⟩ | ⟨rfl, rfl⟩ | ⟨rfl, rfl⟩ | ⟨rfl, rfl⟩ | ⟨rfl, rfl⟩ | ⟨rfl, rfl⟩ | ⟨rfl, rfl⟩
  all_goals
    go_enter Tryz.func44, Tryz.ntmps44
    go_wp2
    refine bodyPost_ret (results_one rfl _ _ w.heap.size 110 _ _ rfl (Blk.new _ _ _) Tryz.underlying110 rfl (by kernel_rfl)) rfl ?_
    exact ⟨rfl, (Keep.refl _ w).alloc _⟩
theorem opOf_all {o : Int} (h1 : 1 ≤ o) (h9 : o ≤ 9) (w : World) : Calls Tryz.prog 44 #[.int .i64 o] w fun e w' => e = .returned (.agg #[.func (Fn.func (opFn o)) #[] #[]]) ∧ Fresh w w' := by
  refine opOf_one o (opFn o) w ?_
  rcases op_nine h1 h9 with rfl | rfl | rfl | rfl | rfl | rfl | rfl | rfl | rfl <;> simp [opFn]
theorem op_does (S : Nat → Prop) (m bp bl : Nat) (s : StD) (c i r o : Int) (k v d : Txt) (w : World) (hm : MSt S w m bp bl s) (hi : LInv s.locks s.tok) (hp : PInv s.pairs) (hT : Tabs w) (hv : VCmd numb c i r o k v d) :
    Calls Tryz.prog (opFn o) #[.pointer (some ⟨m, 0, none⟩), cmdV c i r o k v d] w (OpPost S m bp bl (doesD numb Lib.itoa c o k v d s) w) := by
  have hk := hv.kl
  rcases op_nine hv.o1 hv.o9 with rfl | rfl | rfl | rfl | rfl | rfl | rfl | rfl | rfl
  · rw [show doesD numb Lib.itoa c 1 k v d s = onKeyD numb Lib.itoa 1 k v d s by simp [doesD], show opFn 1 = 73 from rfl]
    exact setop_any Lib.itoa S m bp bl s c i r 1 k v d w hm hp (hk (by omega)).2
  · rw [show doesD numb Lib.itoa c 2 k v d s = onKeyD numb Lib.itoa 2 k v d s by simp [doesD], show opFn 2 = 74 from rfl]
    exact getop_any Lib.itoa S m bp bl s c i r k v d w hm (hk (by omega)).2
  · rw [show doesD numb Lib.itoa c 3 k v d s = onKeyD numb Lib.itoa 3 k v d s by simp [doesD], show opFn 3 = 75 from rfl]
    exact casop_any Lib.itoa S m bp bl s c i r k v d w hm hp (hk (by omega)).2
  · rw [show doesD numb Lib.itoa c 4 k v d s = onKeyD numb Lib.itoa 4 k v d s by simp [doesD], show opFn 4 = 76 from rfl]
    exact delop_any Lib.itoa S m bp bl s c i r k v d w hm (hk (by omega)).2
  · rw [show doesD numb Lib.itoa c 5 k v d s = onKeyD numb Lib.itoa 5 k v d s by simp [doesD], show opFn 5 = 77 from rfl]
    exact addop_any S m bp bl s c i r k v d w hm hp (hk (by omega)).2 hv.vl hT
  · rw [show doesD numb Lib.itoa c 6 k v d s = onLockD numb c 6 k v s by simp [doesD], show opFn 6 = 78 from rfl]
    exact lock_any S m bp bl s c i r k v d w hm hi (hk (by omega)).2
  · rw [show doesD numb Lib.itoa c 7 k v d s = onLockD numb c 7 k v s by simp [doesD], show opFn 7 = 79 from rfl]
    exact unlock_any S m bp bl s c i r k v d w hm hi (hk (by omega)).2
  · rw [show doesD numb Lib.itoa c 8 k v d s = onLockD numb c 8 k v s by simp [doesD], show opFn 8 = 80 from rfl]
    exact fence_any S m bp bl s c i r k v d w hm (hk (by omega)).2 hT hv.vl
  · rw [show doesD numb Lib.itoa c 9 k v d s = endD numb v s by simp [doesD], show opFn 9 = 81 from rfl]
    exact end_any S m bp bl s c i r k v d w hm hi hT (hv.e rfl)
end Go.Proofs.YtlibhkehebioeaaGreatDoor
namespace Go.Proofs.YtlibhkehebioeaaGreatDoor
set_option linter.unusedVariables false
set_option linter.unusedSimpArgs false
open Go.RowKit

/-- A command, whatever it is. -/
def applyD (c i r o : Int) (k v d : Txt) (s : StD) : ResD × StD := if validB c i r o k v d = true then applyV numb Lib.itoa c i r o k v d s else (⟨10, [], 0⟩, s)
theorem MSt.sess {S : Nat → Prop} {w : World} {m bp bl : Nat} {s : StD} (h : MSt S w m bp bl s) {q : Nat} (hq : q < 16) (i r : Int) (R : ResD) :
    MSt S (((((w.setCell ⟨m, 3 + q * 5, none⟩ (.int .i64 i)).setCell ⟨m, 3 + q * 5 + 1, none⟩ (.int .i64 r)).setCell ⟨m, 3 + q * 5 + 2, none⟩ (.int .i64 R.code)).setCell ⟨m, 3 + q * 5 + 3, none⟩ (str R.val)).setCell ⟨m, 3 + q * 5 + 4, none⟩ (.int .i64 R.n)) m bp bl { s with ss := s.ss.set q ⟨i, r, R⟩ } := by
  have hqs : q < s.ss.length := by rw [h.len]; exact hq
  have b5 := ((((h.blk.set (3 + q * 5) (.int .i64 i)).set (3 + q * 5 + 1) (.int .i64 r)).set (3 + q * 5 + 2) (.int .i64 R.code)).set (3 + q * 5 + 3) (str R.val)).set (3 + q * 5 + 4) (.int .i64 R.n)
  rw [mcells_store hqs i r R] at b5
  have hk : Keep (fun j => j ≠ m) w (((((w.setCell ⟨m, 3 + q * 5, none⟩ (.int .i64 i)).setCell ⟨m, 3 + q * 5 + 1, none⟩ (.int .i64 r)).setCell ⟨m, 3 + q * 5 + 2, none⟩ (.int .i64 R.code)).setCell ⟨m, 3 + q * 5 + 3, none⟩ (str R.val)).setCell ⟨m, 3 + q * 5 + 4, none⟩ (.int .i64 R.n)) :=
    (((((Keep.refl _ w).setCell (fun _ h => h rfl) _).setCell (fun _ h => h rfl) _).setCell (fun _ h => h rfl) _).setCell (fun _ h => h rfl) _).setCell (fun _ h => h rfl) _
  obtain ⟨ms, hl⟩ := h.lk
  exact ⟨b5, by simp [h.len], h.pm.keep hk (fun e => h.mp e.symm), ⟨ms, hl.keep hk fun j hj e => h.nm (by rw [← e]; exact hj)⟩, h.nm, h.nb⟩

set_option maxRecDepth 20000 in
set_option maxHeartbeats 40000000 in
theorem appl_any (S : Nat → Prop) (m bp bl : Nat) (s : StD) (c i r o : Int) (k v d : Txt) (w : World) (hm : MSt S w m bp bl s) (hi : LInv s.locks s.tok) (hp : PInv s.pairs) (hT : Tabs w) (hTk : ∀ w', Keep (fun j => j ≠ m ∧ j ≠ bp ∧ ¬ S j) w w' → Tabs w') :
    Calls Tryz.prog 17 #[.pointer (some ⟨m, 0, none⟩), cmdV c i r o k v d] w (OpPost S m bp bl (applyD c i r o k v d s) w) := by
  obtain ⟨X, hX⟩ : ∃ X, X = applyD c i r o k v d s := ⟨_, rfl⟩
  rw [← hX]
  obtain ⟨b, hb⟩ : ∃ b, b = validB c i r o k v d := ⟨_, rfl⟩
  have HO := Lib.hid (op_at w c i r o k v d)
  obtain ⟨G, hG⟩ : ∃ G, G = w.heap.size := ⟨_, rfl⟩
  obtain ⟨W, hW⟩ : ∃ W, W = (w.alloc (.cells #[.int .i64 c, .int .i64 i, .int .i64 r, .int .i64 o, str k, str v, str d] 30)).alloc (.cells #[.int .i64 0, str [], .int .i64 0] 33) := ⟨_, rfl⟩
  rw [← hW, ← hG] at HO
  have HV := valid_any c i r o k v d W (hT.fresh HO.out.fresh)
  rw [← hb] at HV
  replace HV := Lib.hid HV
  have hmt := hm.tight
  have HA := Lib.hid (And.intro hm (And.intro hmt (And.intro hX (And.intro hi (And.intro hp (And.intro hb hTk))))))
  clear hT hTk hm hmt hX hi hp hb
  go_enter Tryz.func17, Tryz.ntmps17
  go_wp2_with fail
  simp only [← hG]
  rw [← hW]
  clear hW hG
  refine HV.out.mono ?_
  rintro e W1 ⟨rfl, f1⟩
  have hf1 := HO.out.fresh.trans f1
  have hbx1 := HO.out.cmd.keep f1 trivial
  have hbr1 := HO.out.res.keep f1 trivial
  have hm1 := HA.out.2.1.fresh hf1
  cases b
  · obtain ⟨r0, r1, r2, s0, s1, s2, rl⟩ := res_facts hbr1
    have H1 := Lib.hid (And.intro hf1 (And.intro hbr1 hm1))
    clear hf1 hbx1 hbr1 hm1 f1 HV
    go_wp2_with fail
    obtain ⟨hm, hmt, hX, hi, hp, hb, hTk⟩ := HA.out
    obtain ⟨hf1, hbr1, hm1⟩ := H1.out
    have e : X = (⟨10, [], 0⟩, s) := by rw [hX]; unfold applyD; rw [← hb]; simp
    rw [e]
    exact op_ret rfl rfl rfl hm1 (fun j h => .inl h.1) hm.blk.lt hm.pm.lt hm.nm hm.nb hbr1 (by have := HO.out.sz; omega) (hf1.weaken fun _ _ _ => trivial)
  · have hV := vcmd_of HA.out.2.2.2.2.2.1.symm
    obtain ⟨q, rfl⟩ : ∃ q : Nat, c = (q : Int) := ⟨c.toNat, by have := hV.c0; omega⟩
    have hq16 : q < 16 := by have := hV.c1; omega
    have hqi : (q : Int) < 16 := by omega
    have hz0 := hm1.ses hq16 0 (by omega)
    have hz1 := hm1.ses hq16 1 (by omega)
    have hz2 := hm1.ses hq16 2 (by omega)
    have hz3 := hm1.ses hq16 3 (by omega)
    have hz4 := hm1.ses hq16 4 (by omega)
    obtain ⟨z, hz⟩ : ∃ z, z = s.ss.getD q noSes := ⟨_, rfl⟩
    rw [← hz] at hz0 hz1 hz2 hz3 hz4
    simp [MSess.cells] at hz0 hz1 hz2 hz3 hz4
    obtain ⟨si, hsi⟩ : ∃ si, si = z.inc := ⟨_, rfl⟩
    obtain ⟨sr, hsr⟩ : ∃ sr, sr = z.req := ⟨_, rfl⟩
    obtain ⟨sc, hsc⟩ : ∃ sc, sc = z.last.code := ⟨_, rfl⟩
    obtain ⟨sv, hsv⟩ : ∃ sv, sv = z.last.val := ⟨_, rfl⟩
    obtain ⟨sn, hsn⟩ : ∃ sn, sn = z.last.n := ⟨_, rfl⟩
    rw [← hsi] at hz0
    rw [← hsr] at hz1
    rw [← hsc] at hz2
    rw [← hsv] at hz3
    rw [← hsn] at hz4
    have k0 := hbx1.cell 0
    have k1 := hbx1.cell 1
    have k2 := hbx1.cell 2
    have k3 := hbx1.cell 3
    simp at k0 k1 k2 k3
    have xl := hbx1.lt
    have ml := hm1.blk.lt
    have HX : Hid (∀ R, z = ⟨si, sr, ⟨sc, sv, sn⟩⟩ ∧ (i < si ∨ (si = i ∧ r < sr) → R = (⟨9, [], 0⟩, s) → X = R) ∧ (si = i ∧ sr = r → R = (⟨sc, sv, sn⟩, s) → X = R) ∧
        (¬ (i < si ∨ (si = i ∧ r < sr)) → ¬ (si = i ∧ sr = r) → ∀ s1 x, s1 = (if 0 < si ∧ si < i then (letsD (q : Int) s).2 else s) → x = doesD numb Lib.itoa (q : Int) o k v d s1 → R = (x.1, { x.2 with ss := x.2.ss.set q ⟨i, r, x.1⟩ }) → X = R)) := Lib.hid fun R => by
      have e1 : z = ⟨si, sr, ⟨sc, sv, sn⟩⟩ := by rw [hsi, hsr, hsc, hsv, hsn]
      have e2 : X = applyV numb Lib.itoa (q : Int) i r o k v d s := by rw [HA.out.2.2.1]; unfold applyD; rw [← HA.out.2.2.2.2.2.1]; simp
      refine ⟨e1, fun h h2 => ?_, fun h h2 => ?_, fun h h2 s1 x h3 h4 h5 => ?_⟩
      · rw [h2, e2]
        unfold applyV
        rw [show ((q : Int)).toNat = q by omega, ← hz, e1]
        simp only
        rw [if_pos (by rcases h with h | h; exact .inl h; exact .inr h)]
      · rw [h2, e2]
        unfold applyV
        rw [show ((q : Int)).toNat = q by omega, ← hz, e1]
        simp only
        rw [if_neg (by omega), if_pos h]
      · rw [h5, h4, h3, e2]
        unfold applyV
        rw [show ((q : Int)).toNat = q by omega, ← hz, e1]
        simp only
        rw [if_neg h, if_neg h2]
    obtain ⟨r0, r1, r2, t0, t1, t2, rl⟩ := res_facts hbr1
    have H1 := Lib.hid (And.intro hf1 (And.intro hbx1 (And.intro hbr1 (And.intro hm1 hV))))
    clear hf1 hbx1 hbr1 hm1 f1 HV hV hz hsi hsr hsc hsv hsn
    by_cases hD : ¬ (i < si ∨ (si = i ∧ r < sr)) ∧ ¬ (si = i ∧ sr = r)
    · obtain ⟨s1, hs1⟩ : ∃ s1, s1 = if 0 < si ∧ si < i then (letsD (q : Int) s).2 else s := ⟨_, rfl⟩
      have HS1 := Lib.hid hs1
      have HL := Lib.hid (fun n => lets_any (fun j => S j ∧ j < w.heap.size) m bp bl s (q : Int) (W1.drewN n) (H1.out.2.2.2.1.fresh ((Keep.refl _ W1).drewN n)) HA.out.2.2.2.1)
      have HD := Lib.hid hD
      clear hs1 hD
      go_wp2_with fail
      go_quiet (fail)
      go_upto_block 0 with (fail)
      go_cut [] (fun wx => Hid (MSt (fun j => (S j ∧ j < w.heap.size) ∨ W1.heap.size ≤ j) wx m bp bl s1 ∧ Keep (fun j => j ≠ m ∧ ¬ (S j ∧ j < w.heap.size)) W1 wx))
      case first =>
        have HN : Hid (∀ wx, Fresh W1 wx → s1 = s → Hid (MSt (fun j => (S j ∧ j < w.heap.size) ∨ W1.heap.size ≤ j) wx m bp bl s1 ∧ Keep (fun j => j ≠ m ∧ ¬ (S j ∧ j < w.heap.size)) W1 wx)) := Lib.hid fun wx hf e => by
          rw [e]
          have hm1 := H1.out.2.2.2.1
          have hml := HA.out.1.blk.lt
          have hbl := HA.out.1.pm.lt
          have hz := H1.out.1.size
          exact Lib.hid ⟨(hm1.fresh hf).widen (fun j h => .inl h) (fun h => h.elim hm1.nm fun h => by omega) (fun h => h.elim hm1.nb fun h => by omega), hf.weaken fun _ _ _ => trivial⟩
        by_cases hE : si = i
        · subst hE
          have g1 : decide (si < si) = false := by simp
          have g2 : (si == si) = true := by simp
          have g3 : decide (r < sr) = false := by have := HD.out; simp; omega
          have g4 : (sr == r) = false := by have := HD.out; simp; omega
          have hi1 := H1.out.2.2.2.2.i0
          have g5 : decide (0 < si) = true := by simp; omega
          go_wp2_with fail
          go_quiet (fail)
          go_wp2_with fail
          go_quiet (fail)
          go_wp2_with fail
          go_quiet (fail)
          go_wp2_with fail
          go_meet
          exact HN.out _ ((((((Keep.refl _ W1).drewN _).drewN _).drewN _).drewN _)) (by rw [HS1.out]; simp)
        · have g1 : decide (i < si) = false := by have := HD.out; simp; omega
          have g2 : (si == i) = false := by simp; omega
          have g3 : decide (si < i) = true := by have := HD.out; simp; omega
          by_cases h0 : 0 < si
          · have g4 : decide (0 < si) = true := by simp; omega
            go_wp2_with fail
            go_quiet (fail)
            go_wp2_with fail
            go_quiet (fail)
            go_wp2_with fail
            go_quiet (fail)
            go_wp2_with fail
            refine (HL.out _).mono ?_
            rintro e w9 ⟨rfl, hm9, hk9⟩
            have H9 := Lib.hid (And.intro hm9 hk9)
            clear hm9 hk9
            go_wp2_with fail
            go_meet
            have e : s1 = (letsD (q : Int) s).2 := by rw [HS1.out, if_pos ⟨h0, by have := HD.out; omega⟩]
            rw [e]
            exact Lib.hid ⟨H9.out.1, (((Keep.refl (fun _ => True) W1).drewN _).weaken (fun _ _ _ => trivial)).trans H9.out.2⟩
          · have g4 : decide (0 < si) = false := by simp; omega
            go_wp2_with fail
            go_quiet (fail)
            go_wp2_with fail
            go_quiet (fail)
            go_wp2_with fail
            go_quiet (fail)
            go_wp2_with fail
            go_meet
            exact HN.out _ ((((((Keep.refl _ W1).drewN _).drewN _).drewN _).drewN _)) (by rw [HS1.out, if_neg (by omega)])
      case rest =>
        rename World => W2
        have HF := Lib.hid hcut
        clear hcut
        obtain ⟨hf1, hbx1, hbr1, hm1, hV⟩ := H1.out
        obtain ⟨hm2, hk2⟩ := HF.out.out
        have hz1 := hf1.size
        have hz2 := hk2.size
        have hsz := HO.out.sz
        have hrl := hbr1.lt
        have hml := HA.out.1.blk.lt
        have hbl := HA.out.1.pm.lt
        have hbG : G ≠ m ∧ ¬ (S G ∧ G < w.heap.size) := ⟨by omega, fun h => by omega⟩
        have hbR : G + 1 ≠ m ∧ ¬ (S (G + 1) ∧ G + 1 < w.heap.size) := ⟨by omega, fun h => by omega⟩
        have hbx2 := hbx1.keep hk2 hbG
        have hbr2 := hbr1.keep hk2 hbR
        have hi1 : LInv s1.locks s1.tok := by
          rw [HS1.out]
          split
          · exact HA.out.2.2.2.1.lets _
          · exact HA.out.2.2.2.1
        have hp1 : PInv s1.pairs := by
          rw [HS1.out]
          split
          · rw [(lets_rest _ _).1]; exact HA.out.2.2.2.2.1
          · exact HA.out.2.2.2.2.1
        have hkW : Keep (fun j => j ≠ m ∧ j ≠ bp ∧ ¬ S j) w W2 := hf1.comp hk2 (fun _ _ _ => trivial) (fun _ _ h => ⟨h.1, fun e => h.2.2 e.1⟩)
        have hT2 := HA.out.2.2.2.2.2.2 W2 hkW
        obtain ⟨S3, hS3⟩ : ∃ S3 : Nat → Prop, S3 = fun j => ((S j ∧ j < w.heap.size) ∨ W1.heap.size ≤ j) ∧ j < W2.heap.size := ⟨_, rfl⟩
        have hm3 : MSt S3 W2 m bp bl s1 := hS3 ▸ hm2.tight
        have hS3b : ∀ j, S3 j → j < W2.heap.size := fun j h => by rw [hS3] at h; exact h.2
        have hS3S : ∀ j, S3 j → S j ∨ w.heap.size ≤ j := fun j h => by
          rw [hS3] at h
          rcases h.1 with h | h
          · exact .inl h.1
          · exact .inr (by omega)
        have hG3 : ¬ S3 G ∧ ¬ S3 (G + 1) := by
          rw [hS3]
          constructor
          · rintro ⟨h | h, -⟩ <;> omega
          · rintro ⟨h | h, -⟩ <;> omega
        have hGb : G ≠ bp ∧ G + 1 ≠ bp := by constructor <;> omega
        clear hS3
        obtain ⟨R, hR⟩ : ∃ R, R = (doesD numb Lib.itoa (q : Int) o k v d s1).1 := ⟨_, rfl⟩
        obtain ⟨s2, hs2⟩ : ∃ s2, s2 = (doesD numb Lib.itoa (q : Int) o k v d s1).2 := ⟨_, rfl⟩
        have HC : Hid (∀ X, Fresh W2 X → Calls Tryz.prog (opFn o) #[.pointer (some ⟨m, 0, none⟩), cmdV (q : Int) i r o k v d] X fun e w' => e = .returned (resV R) ∧ MSt (fun j => S3 j ∨ W2.heap.size ≤ j) w' m bp bl s2 ∧ Keep (fun j => j ≠ m ∧ j ≠ bp ∧ ¬ S3 j) X w' ∧ Keep (fun j => j ≠ m ∧ j ≠ bp ∧ ¬ S3 j) W2 w') := Lib.hid fun X hX => by
          refine (op_does S3 m bp bl s1 (q : Int) i r o k v d X (hm3.fresh hX) hi1 hp1 (hT2.fresh hX) hV).mono ?_
          rintro e w' ⟨h2, h3, h4⟩
          rw [hR, hs2]
          have hz := hX.size
          have := hm3.blk.lt
          have := hm3.pm.lt
          exact ⟨h2, h3.widen (fun j h => h.elim .inl fun h => .inr (by omega)) (fun h => h.elim hm3.nm fun h => by omega) (fun h => h.elim hm3.nb fun h => by omega), h4, (hX.weaken (fun _ _ _ => trivial)).trans h4⟩
        have HCa := Lib.hid (fun (wq : World) (fq : Fresh W2.drew wq) (ob : Obj) => HC.out (wq.alloc ob) ((((Keep.refl _ W2).drew).trans fq).alloc ob))
        have HCb := Lib.hid (fun (wq : World) (fq : Fresh W2.drew wq) => HC.out wq (((Keep.refl _ W2).drew).trans fq))
        have HCc := Lib.hid (fun (wq : World) (ob : Obj) (fq : Fresh (World.drew (W2.alloc ob)) wq) => HC.out wq ((((Keep.refl _ W2).alloc ob).drew).trans fq))
        clear HC
        have HO2 := Lib.hid (fun w => opOf_all hV.o1 hV.o9 w)
        have hm3l := hm3.blk.lt
        have hb3l := hm3.pm.lt
        have hZ : ∀ g, W2.heap.size ≤ g → g ≠ m ∧ g ≠ bp ∧ ¬ S3 g := fun g hg => ⟨by omega, by omega, fun h => by have := hS3b g h; omega⟩
        have HZ3 := Lib.hid hZ
        have HK : Hid (∀ w', Keep (fun j => j ≠ m ∧ j ≠ bp ∧ ¬ S3 j) W2 w' → Keep (fun j => j ≠ m ∧ j ≠ bp ∧ ¬ S3 j) W2 w' ∧ w'.cell? ⟨G, 0, none⟩ = some (.int .i64 (q : Int)) ∧ w'.cell? ⟨G, 1, none⟩ = some (.int .i64 i) ∧ w'.cell? ⟨G, 2, none⟩ = some (.int .i64 r) ∧ w'.cell? ⟨G, 3, none⟩ = some (.int .i64 o) ∧ w'.cell? ⟨G, 4, none⟩ = some (str k) ∧ w'.cell? ⟨G, 5, none⟩ = some (str v) ∧ w'.cell? ⟨G, 6, none⟩ = some (str d)) := Lib.hid fun w' hk => by
          have hb := hbx2.keep hk ⟨hbG.1, hGb.1, hG3.1⟩
          have q0 := hb.cell 0
          have q1 := hb.cell 1
          have q2 := hb.cell 2
          have q3 := hb.cell 3
          have q4 := hb.cell 4
          have q5 := hb.cell 5
          have q6 := hb.cell 6
          simp at q0 q1 q2 q3 q4 q5 q6
          exact ⟨hk, q0, q1, q2, q3, q4, q5, q6⟩
        have xl2 := hbx2.lt
        have H2 := Lib.hid (And.intro hbx2 (And.intro hbr2 (And.intro hkW (And.intro hS3S (And.intro hG3 (And.intro hGb (And.intro hR (And.intro hs2 hm3))))))))
        obtain ⟨F, hF⟩ : ∃ F, F = opFn o := ⟨_, rfl⟩
        rw [← hF] at HCa HCb HCc HO2
        have hFF : F = 73 ∨ F = 74 ∨ F = 75 ∨ F = 76 ∨ F = 77 ∨ F = 78 ∨ F = 79 ∨ F = 80 ∨ F = 81 := by
          rw [hF]
          rcases op_nine hV.o1 hV.o9 with rfl | rfl | rfl | rfl | rfl | rfl | rfl | rfl | rfl <;> simp [opFn]
        have hfld : ∀ (f : Nat) (w : World), (Instr.field 110 (.agg #[.func (Fn.func f) #[] #[]]) 0).run Tryz.prog w = .ok (.func (Fn.func f) #[] #[]) w := fun f w => by rfl
        clear hsz hf1 hbx1 hbr1 hm1 hV hm2 hk2 hbx2 hbr2 hi1 hp1 hkW hT2 hm3 hS3b hS3S hG3 hGb hR hs2 hZ hF hbG hbR hz0 hz1 hz2 hz3 hz4 hrl k0 k1 k2 k3 r0 r1 r2 t0 t1 t2
        have HZ : Hid (∀ wx g, Keep (fun j => j ≠ m ∧ j ≠ bp ∧ ¬ S3 j) W2 wx → Blk wx g 33 (resA R) → MSt (fun j => S3 j ∨ W2.heap.size ≤ j) wx m bp bl s2 → W2.heap.size ≤ g →
            ∃ g' : Nat, (.pointer (some ⟨g, 0, none⟩) : Value) = .pointer (some ⟨g', 0, none⟩) ∧ Hid (Blk wx g' 33 (resA R) ∧ MSt (fun j => S3 j ∨ W2.heap.size ≤ j) wx m bp bl s2 ∧ Keep (fun j => j ≠ m ∧ j ≠ bp ∧ ¬ S3 j) W2 wx ∧ W2.heap.size ≤ g')) := Lib.hid fun wx g h1 h2 h3 h4 => ⟨g, rfl, h2, h3, h1, h4⟩
        go_upto_region 10 with (fail)
        go_cut [6] (fun s6 wx => ∃ g : Nat, s6 = .pointer (some ⟨g, 0, none⟩) ∧ Hid (Blk wx g 33 (resA R) ∧ MSt (fun j => S3 j ∨ W2.heap.size ≤ j) wx m bp bl s2 ∧ Keep (fun j => j ≠ m ∧ j ≠ bp ∧ ¬ S3 j) W2 wx ∧ W2.heap.size ≤ g))
        case first =>
          rcases hFF with rfl | rfl | rfl | rfl | rfl | rfl | rfl | rfl | rfl
          all_goals
            go_region_held3 (fun w' => Keep (fun j => j ≠ m ∧ j ≠ bp ∧ ¬ S3 j) W2 w' ∧ w'.cell? ⟨G, 0, none⟩ = some (.int .i64 (q : Int)) ∧ w'.cell? ⟨G, 1, none⟩ = some (.int .i64 i) ∧ w'.cell? ⟨G, 2, none⟩ = some (.int .i64 r) ∧ w'.cell? ⟨G, 3, none⟩ = some (.int .i64 o) ∧ w'.cell? ⟨G, 4, none⟩ = some (str k) ∧ w'.cell? ⟨G, 5, none⟩ = some (str v) ∧ w'.cell? ⟨G, 6, none⟩ = some (str d))
              (first | exact HK.out _ ((Keep.refl _ W2).drew) | exact HK.out _ (Keep.alloc (And.left (by assumption)) _) | exact HK.out _ (Keep.trans (And.left (by assumption)) (Keep.weaken fqa (fun _ _ _ => trivial))) | exact HK.out _ (Keep.trans (And.left (by assumption)) (Keep.weaken fqb (fun _ _ _ => trivial))) | exact HK.out _ hb3 | exact HK.out _ (Keep.alloc hb3 _) | exact HK.out _ (Keep.setCell (Keep.setCell (Keep.setCell hb3 hg _) hg _) hg _))
              (first
                | (go_at_call 44; with_reducible refine Calls.mono (HO2.out (World.drew W2)) ?_; rintro e wq ⟨rfl, fqa⟩)
                | (go_at_call 44; with_reducible refine Calls.mono (HO2.out (World.drew (World.alloc W2 (.cells #[.int .i64 0, str [], .int .i64 0] 33)))) ?_; rintro e wq ⟨rfl, fqb⟩)
                | (with_reducible show Calls _ _ _ _ _; with_reducible have hcc := HCa.out _ fqa (.cells #[.int .i64 0, str [], .int .i64 0] 33); with_reducible refine Calls.mono hcc ?_; clear hcc; rintro e wb ⟨rfl, hb1, hb2, hb3⟩
                   have bb : Blk wb wq.heap.size 33 #[.int .i64 0, str [], .int .i64 0] := Blk.keep (Blk.new wq _ _) hb2 (HZ3.out _ fqa.size)
                   have hg : wq.heap.size < W2.heap.size → ¬ (wq.heap.size ≠ m ∧ wq.heap.size ≠ bp ∧ ¬ S3 wq.heap.size) := by have h1 := fqa.size; have h2 : W2.drew.heap.size = W2.heap.size := rfl; omega
                   have bk := Lib.hid (And.intro bb hg)
                   have r0 := bb.cell 0; have r1 := bb.cell 1; have r2 := bb.cell 2
                   have e0 := bb.frozen 0; have e1 := bb.frozen 1; have e2 := bb.frozen 2
                   have rl := bb.lt
                   simp at r0 r1 r2)
                | (with_reducible show Calls _ _ _ _ _; with_reducible have hcc := HCb.out _ fqa; with_reducible refine Calls.mono hcc ?_; clear hcc; rintro e wb ⟨rfl, hb1, hb2, hb3⟩)
                | (with_reducible show Calls _ _ _ _ _; with_reducible have hcc := HCc.out _ _ fqb; with_reducible refine Calls.mono hcc ?_; clear hcc; rintro e wb ⟨rfl, hb1, hb2, hb3⟩
                   have bb : Blk wb W2.heap.size 33 #[.int .i64 0, str [], .int .i64 0] := Blk.keep (Blk.keep (Blk.new W2 _ _).drew fqb trivial) hb2 (HZ3.out _ (Nat.le_refl _))
                   have hg : W2.heap.size < W2.heap.size → ¬ (W2.heap.size ≠ m ∧ W2.heap.size ≠ bp ∧ ¬ S3 W2.heap.size) := by omega
                   have r0 := bb.cell 0; have r1 := bb.cell 1; have r2 := bb.cell 2
                   have e0 := bb.frozen 0; have e1 := bb.frozen 1; have e2 := bb.frozen 2
                   have rl := bb.lt
                   simp at r0 r1 r2))
            all_goals go_wp2_with fail
            all_goals go_meet
            · exact HZ.out _ _ (Keep.alloc hb3 _) (Blk.new _ _ _) (hb1.fresh ((Keep.refl _ _).alloc _)) hb3.size
            · have hk := res_keep hb3 hg R
              have hb := res_blk (R0 := ⟨0, [], 0⟩) bb R
              have hm := hb1.other bb (by decide) (by decide) (by decide) (res_keep (Keep.refl (fun j => j ≠ wq.heap.size) wb) (fun _ h => h rfl) R)
              exact HZ.out _ _ hk hb hm fqa.size
            · have hk := res_keep hb3 hg R
              have hb := res_blk (R0 := ⟨0, [], 0⟩) bb R
              have hm := hb1.other bb (by decide) (by decide) (by decide) (res_keep (Keep.refl (fun j => j ≠ W2.heap.size) wb) (fun _ h => h rfl) R)
              exact HZ.out _ _ hk hb hm (Nat.le_refl _)
        case rest =>
          rename World => W3
          obtain ⟨g, rfl, hcut⟩ := hcut
          obtain ⟨hbg, hm3, hk3, hge⟩ := hcut.out
          obtain ⟨hbx2, hbr2, hkW, hS3S, hG3, hGb, hR, hs2, -⟩ := H2.out
          have hsz := HO.out.sz
          have hrl2 := hbr2.lt
          have hbx3 := hbx2.keep hk3 ⟨by omega, hGb.1, hG3.1⟩
          have hbr3 := hbr2.keep hk3 ⟨by omega, hGb.2, hG3.2⟩
          have hkW3 : Keep (fun j => j ≠ m ∧ j ≠ bp ∧ ¬ S j) w W3 := hkW.comp hk3 (fun _ _ h => h) (fun j hj h => ⟨h.1, h.2.1, fun e => (hS3S j e).elim h.2.2 fun h2 => by omega⟩)
          have k1 := hbx3.cell 1
          have k2 := hbx3.cell 2
          have xl3 := hbx3.lt
          have gl := hbg.lt
          have c0 := hbg.cell 0
          have c1 := hbg.cell 1
          have c2 := hbg.cell 2
          simp at k1 k2 c0 c1 c2
          obtain ⟨r0, r1, r2, t0, t1, t2, rl3⟩ := res_facts hbr3
          have ml3 := hm3.blk.lt
          have m0 := hm3.blk.frozen (3 + q * 5)
          have m1 := hm3.blk.frozen (3 + q * 5 + 1)
          have m2 := hm3.blk.frozen (3 + q * 5 + 2)
          have m3 := hm3.blk.frozen (3 + q * 5 + 3)
          have m4 := hm3.blk.frozen (3 + q * 5 + 4)
          have n0 := hm3.ses hq16 0 (by omega)
          have n1 := hm3.ses hq16 1 (by omega)
          have n2 := hm3.ses hq16 2 (by omega)
          have n3 := hm3.ses hq16 3 (by omega)
          have n4 := hm3.ses hq16 4 (by omega)
          generalize s2.ss.getD q noSes = z2 at n0 n1 n2 n3 n4
          simp [MSess.cells] at n0 n1 n2 n3 n4
          have x1 : m ≠ g := by omega
          have x2 : m ≠ G + 1 := by omega
          have x3 : g ≠ G + 1 := by omega
          have x4 : g ≠ m := by omega
          have x5 : G + 1 ≠ m := by omega
          have x6 : G + 1 ≠ g := by omega
          have e := (HX.out (R, { s2 with ss := s2.ss.set q ⟨i, r, R⟩ })).2.2.2 HD.out.1 HD.out.2 s1 _ HS1.out rfl (by rw [hR, hs2])
          have HB := Lib.hid (And.intro hm3 (And.intro hkW3 (And.intro hbr3 (And.intro e (And.intro hS3S hge)))))
          clear hbg hm3 hk3 hge hbx2 hbr2 hkW hS3S hG3 hGb hR hs2 hbx3 hbr3 hkW3 hsz e
          go_wp2_with fail
          obtain ⟨hm3, hkW3, hbr3, e, hS3S, hge⟩ := HB.out
          obtain ⟨hm, hmt, hX, hi, hp, hb, hTk⟩ := HA.out
          have hsz := HO.out.sz
          rw [e]
          have hk5 : Keep (fun j => j ≠ m) W3 (((((W3.setCell ⟨m, 3 + q * 5, none⟩ (.int .i64 i)).setCell ⟨m, 3 + q * 5 + 1, none⟩ (.int .i64 r)).setCell ⟨m, 3 + q * 5 + 2, none⟩ (.int .i64 R.code)).setCell ⟨m, 3 + q * 5 + 3, none⟩ (str R.val)).setCell ⟨m, 3 + q * 5 + 4, none⟩ (.int .i64 R.n)) :=
            (((((Keep.refl _ W3).setCell (fun _ h => h rfl) _).setCell (fun _ h => h rfl) _).setCell (fun _ h => h rfl) _).setCell (fun _ h => h rfl) _).setCell (fun _ h => h rfl) _
          exact op_ret rfl rfl rfl (hm3.sess hq16 i r R) (fun j h => h.elim (hS3S j) fun h => .inr (by have := HF.out.out.2.size; have := H1.out.1.size; omega)) hml hbl hm.nm hm.nb (hbr3.keep hk5 x5) (by omega) (hkW3.comp hk5 (fun _ _ h => h) (fun _ _ h => h.1))
    · by_cases hA : i < si
      · have g1 : decide (i < si) = true := by simp; omega
        go_wp2_with fail
        go_quiet (fail)
        go_wp2_with fail
        go_quiet (fail)
        go_wp2_with fail
        obtain ⟨hm, hmt, hX, hi, hp, hb, hTk⟩ := HA.out
        obtain ⟨hf1, hbx1, hbr1, hm1, -⟩ := H1.out
        have e := (HX.out _).2.1 (.inl hA) rfl
        rw [e]
        have hQ : ∀ n, Fresh W1 (W1.drewN n) := fun n => (Keep.refl _ W1).drewN n
        exact op_ret rfl rfl rfl (hm1.fresh (hQ _)) (fun j h => .inl h.1) hm.blk.lt hm.pm.lt hm.nm hm.nb (hbr1.keep (hQ _) trivial) (by have := HO.out.sz; omega) ((hf1.trans (hQ _)).weaken fun _ _ _ => trivial)
      · have g1 : decide (i < si) = false := by simp; omega
        by_cases hE : si = i
        · subst hE
          have g2 : (si == si) = true := by simp
          by_cases hB : r < sr
          · have g3 : decide (r < sr) = true := by simp; omega
            go_wp2_with fail
            go_quiet (fail)
            go_wp2_with fail
            go_quiet (fail)
            go_wp2_with fail
            obtain ⟨hm, hmt, hX, hi, hp, hb, hTk⟩ := HA.out
            obtain ⟨hf1, hbx1, hbr1, hm1, -⟩ := H1.out
            have e := (HX.out _).2.1 (.inr (by first | exact ⟨rfl, hB⟩ | exact ⟨trivial, hB⟩)) rfl
            rw [e]
            have hQ : ∀ n, Fresh W1 (W1.drewN n) := fun n => (Keep.refl _ W1).drewN n
            exact op_ret rfl rfl rfl (hm1.fresh (hQ _)) (fun j h => .inl h.1) hm.blk.lt hm.pm.lt hm.nm hm.nb (hbr1.keep (hQ _) trivial) (by have := HO.out.sz; omega) ((hf1.trans (hQ _)).weaken fun _ _ _ => trivial)
          · have g3 : decide (r < sr) = false := by simp; omega
            by_cases hC : sr = r
            · subst hC
              have g4 : (sr == sr) = true := by simp
              go_wp2_with fail
              go_quiet (fail)
              go_wp2_with fail
              go_quiet (fail)
              go_wp2_with fail
              go_quiet (fail)
              go_wp2_with fail
              obtain ⟨hm, hmt, hX, hi, hp, hb, hTk⟩ := HA.out
              obtain ⟨hf1, hbx1, hbr1, hm1, -⟩ := H1.out
              have e := (HX.out _).2.2.1 (by simp) rfl
              rw [e]
              have hQ : ∀ n, Fresh W1 (W1.drewN n) := fun n => (Keep.refl _ W1).drewN n
              exact op_ret rfl rfl rfl (hm1.fresh (hQ _)) (fun j h => .inl h.1) hm.blk.lt hm.pm.lt hm.nm hm.nb (hbr1.keep (hQ _) trivial) (by have := HO.out.sz; omega) ((hf1.trans (hQ _)).weaken fun _ _ _ => trivial)
            · exact absurd ⟨by omega, by omega⟩ hD
        · exact absurd ⟨by omega, by omega⟩ hD
end Go.Proofs.YtlibhkehebioeaaGreatDoor
