/-
  MERGED: Ops2 Unlock
-/
import Derived.Test.YtohnmaindbgngaaGreatDoorQ7
namespace Go.Proofs.YtohnmaindbgngaaGreatDoor
set_option linter.unusedVariables false
set_option linter.unusedSimpArgs false
open Go.RowKit

/-- An operation that turns the pairs alone. -/
theorem op_pairs {S : Nat → Prop} {m bp bl : Nat} {s : StD} {w w' : World} {e : Ending} {R : MRes} {P' : Ps} {x : ResD × StD} (hm : MSt S w m bp bl s) (h1 : e = .returned (resV R)) (h2 : MapIs Tryz.prog 9 w' bp (sk P')) (hk : Keep (fun j => j ≠ bp) w w')
    (hx : x = (R, { s with pairs := P' })) : OpPost S m bp bl x w e w' := by
  subst hx
  obtain ⟨ms, hl⟩ := hm.lk
  have hml := hm.blk.lt
  have hbl := hm.pm.lt
  exact ⟨h1, ⟨hm.blk.keep hk hm.mp, hm.len, h2, ⟨ms, (hl.keep hk fun j hj e => hm.nb (by rw [← e]; exact hj)).widen fun j h => .inl h⟩, fun h => h.elim hm.nm fun h => by omega, fun h => h.elim hm.nb fun h => by omega⟩, hk.weaken fun j _ h => h.2.1⟩
theorem setop_any (ita : Int → Txt) (S : Nat → Prop) (m bp bl : Nat) (s : StD) (c i r o : Int) (k v d : Txt) (w : World) (hm : MSt S w m bp bl s) (hp : PInv s.pairs) (hk : k.length ≤ 8) :
    Calls Tryz.prog 46 #[.pointer (some ⟨m, 0, none⟩), cmdV c i r o k v d] w (OpPost S m bp bl (onKeyD numb ita 1 k v d s) w) := by
  have hl := hp.len
  refine (set_any m bp s.pairs c i r o k v d w hm.three.1 hm.pm hk (by omega)).mono ?_
  rintro e w' ⟨h1, h2, h3⟩
  refine op_pairs hm h1 h2 h3 ?_
  unfold setR setP onKeyD
  cases hf : pfind k s.pairs with
  | none =>
    rw [pfindD_none hf]
    simp only [true_or, if_true]
    split
    · rfl
    · rw [pput_eq k v _ hp.rise]; simp
  | some u =>
    obtain ⟨a, ha⟩ := pfindD_some hf
    rw [ha, pput_eq k v _ hp.rise]
    simp
theorem casop_any (ita : Int → Txt) (S : Nat → Prop) (m bp bl : Nat) (s : StD) (c i r : Int) (k v d : Txt) (w : World) (hm : MSt S w m bp bl s) (hp : PInv s.pairs) (hk : k.length ≤ 8) :
    Calls Tryz.prog 48 #[.pointer (some ⟨m, 0, none⟩), cmdV c i r 3 k v d] w (OpPost S m bp bl (onKeyD numb ita 3 k v d s) w) := by
  have hl := hp.len
  refine (cas_any m bp s.pairs c i r 3 k v d w hm.three.1 hm.pm hk (by omega)).mono ?_
  rintro e w' ⟨h1, h2, h3⟩
  refine op_pairs hm h1 h2 h3 ?_
  unfold casR casP onKeyD
  cases hf : pfind k s.pairs with
  | none =>
    rw [pfindD_none hf]
    simp
  | some u =>
    obtain ⟨a, ha⟩ := pfindD_some hf
    rw [ha]
    simp only
    rw [if_neg (by omega), if_pos trivial]
    by_cases hud : u = d
    · rw [if_pos hud, if_pos hud, if_pos hud, pput_eq k v _ hp.rise, hud]
    · rw [if_neg hud, if_neg hud, if_neg hud]

set_option maxRecDepth 20000 in
theorem delop_any (ita : Int → Txt) (S : Nat → Prop) (m bp bl : Nat) (s : StD) (c i r : Int) (k v d : Txt) (w : World) (hm : MSt S w m bp bl s) (hk : k.length ≤ 8) :
    Calls Tryz.prog 49 #[.pointer (some ⟨m, 0, none⟩), cmdV c i r 4 k v d] w (OpPost S m bp bl (onKeyD numb ita 4 k v d s) w) := by
  obtain ⟨X, hX⟩ : ∃ X, X = onKeyD numb ita 4 k v d s := ⟨_, rfl⟩
  rw [← hX]
  have HO := Lib.hid (op_at w c i r 4 k v d)
  obtain ⟨G, hG⟩ : ∃ G, G = w.heap.size := ⟨_, rfl⟩
  obtain ⟨W, hW⟩ : ∃ W, W = (w.alloc (.cells #[.int .i64 c, .int .i64 i, .int .i64 r, .int .i64 4, str k, str v, str d] 43)).alloc (.cells #[.int .i64 0, str [], .int .i64 0] 49) := ⟨_, rfl⟩
  rw [← hW, ← hG] at HO
  obtain ⟨k0, k4, k5, k6, kl⟩ := HO.out.cells
  have hmW := hm.fresh HO.out.fresh
  obtain ⟨x0, -, -⟩ := hmW.three
  have hmlt := hmW.blk.lt
  have hml := hm.blk.lt
  have hbl := hm.pm.lt
  have hlk := look_str hmW.pm (l := k) (by omega)
  have HA := Lib.hid (And.intro hm (And.intro hmW hX))
  clear hm hmW hX
  go_enter Tryz.func49, Tryz.ntmps49
  go_wp2_with fail
  simp only [← hG]
  rw [← hW]
  clear hW hG
  go_quiet (fail)
  have HQ := Lib.hid (show Fresh W (W.drewN nq) from (Keep.refl _ W).drewN nq)
  cases hpf : pfind k s.pairs with
  | none =>
    have HC := Lib.hid (fun n => code_any n (W.drewN nq))
    rw [hpf] at hlk
    go_wp2_with fail
    refine (HC.out _).mono ?_
    rintro e W4 ⟨rfl, f4⟩
    have HF := Lib.hid (HQ.out.trans f4)
    obtain ⟨r0, r1, r2, s0, s1, s2, rl⟩ := res_facts (HO.out.res.keep HF.out trivial)
    clear f4 HC HQ
    go_wp2_with fail
    obtain ⟨hm, hmW, hX⟩ := HA.out
    have e : X = (⟨2, [], 0⟩, s) := by rw [hX]; unfold onKeyD; rw [pfindD_none hpf]; simp
    rw [e]
    exact op_ret rfl rfl rfl (hmW.fresh HF.out) (fun j h => .inl h) hml hbl hm.nm hm.nb (HO.out.res.keep HF.out trivial) (by have := HO.out.sz; omega) ((HO.out.fresh.trans HF.out).weaken fun _ _ _ => trivial)
  | some u =>
    rw [hpf] at hlk
    obtain ⟨W2, hW2⟩ : ∃ W2, W2 = W.drewN nq := ⟨_, rfl⟩
    rw [← hW2] at HQ ⊢
    have x0' := HQ.out.cellAt x0 trivial
    have k4' := HQ.out.cellAt k4 trivial
    have hmlt2 : m < W2.heap.size := Nat.lt_of_lt_of_le hmlt HQ.out.size
    have kl2 : G < W2.heap.size := Nat.lt_of_lt_of_le kl HQ.out.size
    clear hW2 hlk x0 k0 k4 k5 k6 hmlt kl
    go_wp2_with fail
    refine wp_region_still_tail 6 (by kernel_rfl) (by kernel_rfl) ?_
    simp only [List.take_succ_cons, List.take_zero, List.drop_succ_cons, List.drop_zero]
    repeat still_step
    refine wpStill_nil ?_
    change wpList _ _ _ _ _ W2.drew
    refine wpList_mdrop rfl (.tmp 23) (.tmp 25) rfl Tryz.underlying9 Tryz.underlying74 rfl ((HA.out.2.1.fresh HQ.out).pm.keep ((Keep.refl (fun _ => True) W2).drew) trivial) (l := k) (by simp only [maxLen]; omega) rfl ?_
    intro W3 hm3 hk3
    rw [sk_del] at hm3
    have hk23 : Keep (fun j => j ≠ bp) W2 W3 := (Keep.refl _ W2).drew.trans hk3
    have H3 := Lib.hid (And.intro hm3 hk23)
    have HD := Lib.hid (done_any u 1 W3)
    clear hm3 hk3 hk23
    go_wp2_with fail
    refine HD.out.mono ?_
    rintro e W4 ⟨rfl, f4⟩
    have hb2 := HO.out.res.keep HQ.out trivial
    have hbG : G + 1 ≠ bp := by have := HO.out.sz; omega
    have H4 := Lib.hid (And.intro f4 ((hb2.keep H3.out.2 hbG).keep f4 trivial))
    obtain ⟨r0, r1, r2, s0, s1, s2, rl⟩ := res_facts H4.out.2
    clear f4 HD hb2
    go_wp2_with fail
    obtain ⟨hm, hmW, hX⟩ := HA.out
    obtain ⟨a, ha⟩ := pfindD_some hpf
    have e : X = (⟨1, u, 1⟩, { s with pairs := pdel k s.pairs }) := by rw [hX]; unfold onKeyD; rw [ha]; simp; rfl
    rw [e]
    have h2 := op_pairs (x := (⟨1, u, 1⟩, { s with pairs := pdel k s.pairs })) (hmW.fresh HQ.out) rfl H3.out.1 H3.out.2 rfl
    have hsz := HO.out.sz
    have hz1 := HO.out.fresh.size
    have hz2 := HQ.out.size
    exact op_ret rfl rfl rfl (h2.st.fresh H4.out.1) (fun j h => h.elim .inl fun h => .inr (by omega)) hml hbl hm.nm hm.nb H4.out.2 (by omega) ((((HO.out.fresh.trans HQ.out).comp H3.out.2 (fun _ _ _ => trivial) (fun _ _ h => h.2.1)).comp H4.out.1 (fun _ _ h => h) (fun _ _ _ => trivial)))
end Go.Proofs.YtohnmaindbgngaaGreatDoor
namespace Go.Proofs.YtohnmaindbgngaaGreatDoor
set_option linter.unusedVariables false
set_option linter.unusedSimpArgs false
open Go.RowKit

/-- One lock is turned where it lies. -/
theorem MSt.turned {S : Nat → Prop} {w w' : World} {m bp bl : Nat} {s : StD} {ms : List LkM} {x x' : LkM} (h : MSt S w m bp bl s) (hr : Rise (s.locks.map LockD.name)) (hl : Lks S w bl ms s.locks) (hx : x ∈ ms) (hh : x'.h = x.h) (hn : x'.d.name = x.d.name)
    (hx' : LkIs (fun j => S j ∨ w.heap.size ≤ j) w' x') (hv : Next w.heap.size x.v x'.v) (hk : Keep (fun j => j ≠ x.h ∧ x.v.ownBlock ≠ some j) w w') :
    MSt (fun j => S j ∨ w.heap.size ≤ j) w' m bp bl { s with locks := setK LockD.name x'.d s.locks } ∧ Keep (fun j => j ≠ m ∧ j ≠ bp ∧ ¬ S j) w w' := by
  have hxi := hl.each x hx
  have hml := h.blk.lt
  have hbl := h.pm.lt
  have hkS : Keep (fun j => ¬ S j) w w' := hk.weaken fun j _ hj => ⟨fun e => hj (by rw [e]; exact hxi.sh), fun e => hj (hxi.sv j e)⟩
  exact ⟨⟨h.blk.keep hkS h.nm, h.len, h.pm.keep hkS h.nb, ⟨_, hl.turn hr hx hk (fun j _ h1 h2 => ⟨h1, h2⟩) hx' hh hn (fun _ h => .inl h) hv⟩, fun e => e.elim h.nm fun e => by omega, fun e => e.elim h.nb fun e => by omega⟩, hkS.weaken fun _ _ h => h.2.2⟩
theorem setK_same {l : LockD} {ls : List LockD} (hr : Rise (ls.map LockD.name)) (hl : l ∈ ls) : setK LockD.name l ls = ls := by
  unfold setK
  have : ∀ y ∈ ls, (if y.name == l.name then l else y) = y := by
    intro y hy
    split
    · rename_i h
      have h1 := findK_of (key := LockD.name) hr hl rfl
      have h2 := findK_of (key := LockD.name) hr hy (by simpa using h)
      rw [h1] at h2
      injection h2
    · rfl
  rw [List.map_congr_left this, List.map_id']
theorem leave_not {c : Int} {l : LockD} (h : c ∉ l.queue) : leaveL c l = l := by
  unfold leaveL
  rw [List.filter_eq_self.2 fun y hy => by
    have : y ≠ c := fun e => h (e ▸ hy)
    simpa using this]

set_option maxRecDepth 20000 in
set_option maxHeartbeats 1000000 in
theorem unlock_any (S : Nat → Prop) (m bp bl : Nat) (s : StD) (c i r : Int) (k v d : Txt) (w : World) (hm : MSt S w m bp bl s) (hi : LInv s.locks s.tok) (hk : k.length ≤ 8) :
    Calls Tryz.prog 52 #[.pointer (some ⟨m, 0, none⟩), cmdV c i r 7 k v d] w (OpPost S m bp bl (onLockD numb c 7 k v s) w) := by
  obtain ⟨X, hX⟩ : ∃ X, X = onLockD numb c 7 k v s := ⟨_, rfl⟩
  rw [← hX]
  have HO := Lib.hid (op_at w c i r 7 k v d)
  obtain ⟨G, hG⟩ : ∃ G, G = w.heap.size := ⟨_, rfl⟩
  obtain ⟨W, hW⟩ : ∃ W, W = (w.alloc (.cells #[.int .i64 c, .int .i64 i, .int .i64 r, .int .i64 7, str k, str v, str d] 43)).alloc (.cells #[.int .i64 0, str [], .int .i64 0] 49) := ⟨_, rfl⟩
  rw [← hW, ← hG] at HO
  obtain ⟨k0, k4, k5, k6, kl⟩ := HO.out.cells
  have hmW := hm.tight.fresh HO.out.fresh
  obtain ⟨-, x1, -⟩ := hmW.three
  have hmlt := hmW.blk.lt
  have hml := hm.blk.lt
  have hbl := hm.pm.lt
  have HA := Lib.hid (And.intro hm (And.intro hmW (And.intro hX hi)))
  obtain ⟨ms, hls⟩ := hmW.lk
  have HLS := Lib.hid hls
  clear hm hmW hX hi
  cases hf : lfind k s.locks with
  | none =>
    have hlk := look_lk hls (k := k) (by omega) _ (show _ = .pointer none by rw [hls.gone hf]; rfl)
    clear hls
    go_enter Tryz.func52, Tryz.ntmps52
    go_wp2_with fail
    simp only [← hG]
    rw [← hW]
    clear hW hG
    go_quiet (fail)
    go_wp2_with fail
    go_quiet (fail)
    go_wp2_with fail
    refine (code_any _ _).mono ?_
    rintro e W4 ⟨rfl, f4⟩
    have HF := Lib.hid (((Keep.refl _ W).drewN _).trans f4)
    obtain ⟨r0, r1, r2, s0, s1, s2, rl⟩ := res_facts (HO.out.res.keep HF.out trivial)
    clear f4
    go_wp2_with fail
    obtain ⟨hm, hmW, hX, hi⟩ := HA.out
    have e : X = (⟨2, [], 0⟩, s) := by rw [hX]; unfold onLockD; rw [hf]; simp
    rw [e]
    exact op_ret rfl rfl rfl (hmW.fresh HF.out) (fun j h => .inl h.1) hml hbl hm.nm hm.nb (HO.out.res.keep HF.out trivial) (by have := HO.out.sz; omega) ((HO.out.fresh.trans HF.out).weaken fun _ _ _ => trivial)
  | some l =>
    obtain ⟨x, hx, hxl, hxk, hxi, hxf⟩ := lk_find hls hf
    obtain ⟨y0, -, -⟩ := hxi.cells
    rw [hxl] at y0
    have hlk := look_lk hls (k := k) (by omega) _ hxf
    obtain ⟨h, hh⟩ : ∃ h, h = x.h := ⟨_, rfl⟩
    rw [← hh] at y0 hlk
    have hhl := hxi.lt
    rw [← hh] at hhl
    have HX := Lib.hid (And.intro hls (And.intro hx (And.intro hxl (And.intro hxk (And.intro hxi hh)))))
    obtain ⟨lh, hlh⟩ : ∃ lh, lh = l.holder := ⟨_, rfl⟩
    rw [← hlh] at y0
    have HLH := Lib.hid hlh
    clear hls hx hxl hxk hxi hxf hh hlh
    by_cases hc : lh = c
    · subst hc
      go_enter Tryz.func52, Tryz.ntmps52
      go_wp2_with fail
      simp only [← hG]
      rw [← hW]
      clear hW hG
      go_quiet (fail)
      go_wp2_with fail
      go_quiet (fail)
      go_wp2_with fail
      refine (pass_any (fun j => S j ∧ j < w.heap.size) m bp bl s k l _ (HA.out.2.1.fresh ((Keep.refl _ W).drewN _)) HA.out.2.2.2 (by omega) hf).mono ?_
      rintro e W4 ⟨rfl, hm4, hk4⟩
      have hsz := HO.out.sz
      have hkW4 : Keep (fun j => j ≠ m ∧ ¬ (S j ∧ j < w.heap.size)) W W4 := (((Keep.refl (fun _ => True) W).drewN _).weaken (fun _ _ _ => trivial)).trans hk4
      have hb4 := HO.out.res.keep hkW4 ⟨by omega, fun h => by have := h.2; omega⟩
      have H4 := Lib.hid (And.intro hm4 (And.intro hkW4 hb4))
      clear hm4 hk4 hkW4 hb4 hsz
      go_wp2_with fail
      refine (done_any _ _ W4).mono ?_
      rintro e W5 ⟨rfl, f5⟩
      have H5 := Lib.hid (And.intro f5 (H4.out.2.2.keep f5 trivial))
      obtain ⟨r0, r1, r2, s0, s1, s2, rl⟩ := res_facts H5.out.2
      clear f5
      go_wp2_with fail
      obtain ⟨hm, hmW, hX, hi⟩ := HA.out
      have e : X = (⟨1, [], (passD k s).1⟩, (passD k s).2) := by rw [hX]; unfold onLockD; rw [hf]; simp only; rw [if_neg (by omega), if_pos trivial, if_pos HLH.out.symm]
      rw [e]
      have hsz := HO.out.sz
      exact op_ret rfl rfl rfl (H4.out.1.fresh H5.out.1) (fun j h => .inl h.1) hml hbl hm.nm hm.nb H5.out.2 (by omega) ((HO.out.fresh.comp H4.out.2.1 (fun _ _ _ => trivial) (fun _ _ h => ⟨h.1, fun e => h.2.2 e.1⟩)).comp H5.out.1 (fun _ _ h => h) (fun _ _ _ => trivial))
    · have hxo := HA.out.2.2.2.each l (findK_some hf).2
      obtain ⟨b, hb⟩ : ∃ b, b = decide (c ∈ l.queue) := ⟨_, rfl⟩
      have HL : Hid (∀ q, Calls Tryz.prog 43 #[.pointer (some ⟨h, 0, none⟩), .int .i64 c] (W.drewN q) fun e w' => e = .returned (.bool b) ∧
          (∃ v', LkIs (fun j => (S j ∧ j < w.heap.size) ∨ (W.drewN q).heap.size ≤ j) w' ⟨leaveL c x.d, x.h, v'⟩ ∧ Next (W.drewN q).heap.size x.v v') ∧ Keep (fun j => j ≠ x.h) (W.drewN q) w') := fun q => by
        have h1 := leave_any (fun j => S j ∧ j < w.heap.size) c x (W.drewN q) (HX.out.2.2.2.2.1.keep ((Keep.refl (fun _ => True) W).drewN _) trivial (fun _ _ => trivial)) (by rw [HX.out.2.2.1]; exact hxo.nd) (by rw [HX.out.2.2.1]; have := queue_len hxo.nd hxo.q; omega)
        rw [← HX.out.2.2.2.2.2, HX.out.2.2.1] at h1
        rw [HX.out.2.2.1, ← HX.out.2.2.2.2.2, hb]
        exact h1
      have HB := Lib.hid hb
      clear hxo hb
      go_enter Tryz.func52, Tryz.ntmps52
      go_wp2_with fail
      simp only [← hG]
      rw [← hW]
      clear hW hG
      go_quiet (fail)
      go_wp2_with fail
      go_quiet (fail)
      go_wp2_with fail
      refine (HL.out _).mono ?_
      rintro e W4 ⟨rfl, ⟨v', hx', hn'⟩, hk4⟩
      have hxl := HX.out.2.2.1
      have hT := (HA.out.2.1.fresh ((Keep.refl _ W).drewN _)).turned HA.out.2.2.2.rise (HX.out.1.keep ((Keep.refl (fun _ => True) W).drewN _) (fun _ _ => trivial)) HX.out.2.1 (x' := ⟨leaveL c x.d, x.h, v'⟩) rfl rfl hx' hn' (hk4.weaken fun _ _ h => h.1)
      have hsz := HO.out.sz
      have hkW4 : Keep (fun j => j ≠ m ∧ j ≠ bp ∧ ¬ (S j ∧ j < w.heap.size)) W W4 := (((Keep.refl (fun _ => True) W).drewN _).weaken (fun _ _ _ => trivial)).trans hT.2
      have hb4 := HO.out.res.keep hkW4 ⟨by omega, by omega, fun h => by have := h.2; omega⟩
      have hT1 := hT.1
      rw [show (⟨leaveL c x.d, x.h, v'⟩ : LkM).d = leaveL c l by rw [← hxl]] at hT1
      have H4 := Lib.hid (And.intro hT1 (And.intro hkW4 hb4))
      clear hx' hn' hk4 hT hT1 hsz hkW4 hb4 hxl HL
      cases b
      · go_wp2_with fail
        refine (code_any _ W4).mono ?_
        rintro e W5 ⟨rfl, f5⟩
        have H5 := Lib.hid (And.intro f5 (H4.out.2.2.keep f5 trivial))
        obtain ⟨r0, r1, r2, s0, s1, s2, rl⟩ := res_facts H5.out.2
        clear f5
        go_wp2_with fail
        obtain ⟨hm, hmW, hX, hi⟩ := HA.out
        have hcq : c ∉ l.queue := by simpa using HB.out
        have e : X = (⟨2, [], 0⟩, { s with locks := setK LockD.name (leaveL c l) s.locks }) := by
          rw [leave_not hcq, setK_same hi.rise (findK_some hf).2, hX]
          unfold onLockD
          rw [hf]
          simp only
          rw [if_neg (by omega), if_pos trivial, if_neg (fun e => hc (HLH.out.trans e)), if_neg hcq]
        rw [e]
        have hsz := HO.out.sz
        have hz := HO.out.fresh.size
        exact op_ret rfl rfl rfl (H4.out.1.fresh H5.out.1) (fun j h => h.elim (fun h => .inl h.1) fun h => .inr (by have h : W.heap.size ≤ j := h; omega)) hml hbl hm.nm hm.nb H5.out.2 (by omega) ((HO.out.fresh.comp H4.out.2.1 (fun _ _ _ => trivial) (fun _ _ h => ⟨h.1, h.2.1, fun e => h.2.2 e.1⟩)).comp H5.out.1 (fun _ _ h => h) (fun _ _ _ => trivial))
      · go_wp2_with fail
        refine (code_any _ W4).mono ?_
        rintro e W5 ⟨rfl, f5⟩
        have H5 := Lib.hid (And.intro f5 (H4.out.2.2.keep f5 trivial))
        obtain ⟨r0, r1, r2, s0, s1, s2, rl⟩ := res_facts H5.out.2
        clear f5
        go_wp2_with fail
        obtain ⟨hm, hmW, hX, hi⟩ := HA.out
        have hcq : c ∈ l.queue := by simpa using HB.out
        have e : X = (⟨8, [], 0⟩, { s with locks := setK LockD.name (leaveL c l) s.locks }) := by
          rw [hX]
          unfold onLockD
          rw [hf]
          simp only
          rw [if_neg (by omega), if_pos trivial, if_neg (fun e => hc (HLH.out.trans e)), if_pos hcq]
        rw [e]
        have hsz := HO.out.sz
        have hz := HO.out.fresh.size
        exact op_ret rfl rfl rfl (H4.out.1.fresh H5.out.1) (fun j h => h.elim (fun h => .inl h.1) fun h => .inr (by have h : W.heap.size ≤ j := h; omega)) hml hbl hm.nm hm.nb H5.out.2 (by omega) ((HO.out.fresh.comp H4.out.2.1 (fun _ _ _ => trivial) (fun _ _ h => ⟨h.1, h.2.1, fun e => h.2.2 e.1⟩)).comp H5.out.1 (fun _ _ h => h) (fun _ _ _ => trivial))
end Go.Proofs.YtohnmaindbgngaaGreatDoor
