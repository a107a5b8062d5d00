/-
  MERGED: Pass Leave Names
-/
import Derived.Test.YtohnmaindbgngaaGreatDoorQ5
import Derived.BigRegion
namespace Go.Proofs.YtohnmaindbgngaaGreatDoor
set_option linter.unusedVariables false
set_option linter.unusedSimpArgs false
open Go.RowKit

theorem next_any (m : Nat) (tok : Int) (w : World) (h : w.cell? ⟨m, 2, none⟩ = some (.int .i64 tok)) (hf : w.frozen? ⟨m, 2, none⟩ = false) (h0 : 0 ≤ tok) (h1 : tok ≤ 99999999) :
    Calls Tryz.prog 85 #[.pointer (some ⟨m, 0, none⟩)] w fun e w' => e = .returned (.int .i64 (tok + 1)) ∧ w' = w.setCell ⟨m, 2, none⟩ (.int .i64 (tok + 1)) := by
  go_enter Tryz.func85, Tryz.ntmps85
  go_wp2
  go_ret
  exact ⟨rfl, rfl⟩
theorem lkv_zero (w : World) : (zeroValue 117).run Tryz.prog w = .ok (.pointer none) w := by kernel_rfl
/-- 'm.locks[k]', for the walk. -/
theorem look_lk {S : Nat → Prop} {w : World} {bl : Nat} {ms : List LkM} {ls : List LockD} (h : Lks S w bl ms ls) {k : Txt} (hk : k.length ≤ 1099511627776) (x : Value) (hx : (mfind k (ms.map LkM.kv)).getD (.pointer none) = x) (n : Nat) :
    (Instr.lookup 75 (.map (some bl)) (str k) false).run Tryz.prog (w.drewN n) = .ok x (w.drewN n) := by
  have h1 := MapIs.look (h.map.keep (Keep.drewN (Keep.refl (fun _ => True) w) n) trivial) Tryz.underlying9 Tryz.underlying75 (lkv_zero _) (l := k) (by simp only [maxLen]; omega)
  rw [hx] at h1
  exact h1
theorem lk_find {S : Nat → Prop} {w : World} {bl : Nat} {ms : List LkM} {ls : List LockD} (h : Lks S w bl ms ls) {k : Txt} {l : LockD} (hl : lfind k ls = some l) : ∃ x ∈ ms, x.d = l ∧ x.d.name = k ∧ LkIs S w x ∧ (mfind k (ms.map LkM.kv)).getD (.pointer none) = .pointer (some ⟨x.h, 0, none⟩) := by
  obtain ⟨x, h1, h2, h3, h4⟩ := h.find hl
  exact ⟨x, h1, h2, h3, h.each x h1, by rw [h4]; rfl⟩
theorem LkIs.cells {S : Nat → Prop} {w : World} {x : LkM} (h : LkIs S w x) : w.cell? ⟨x.h, 0, none⟩ = some (.int .i64 x.d.holder) ∧ w.cell? ⟨x.h, 1, none⟩ = some (.int .i64 x.d.token) ∧ w.cell? ⟨x.h, 2, none⟩ = some x.v := by
  have h0 := h.blk.cell 0
  have h1 := h.blk.cell 1
  have h2 := h.blk.cell 2
  simp at h0 h1 h2
  exact ⟨h0, h1, h2⟩
theorem MSt.three {S : Nat → Prop} {w : World} {m bp bl : Nat} {s : StD} (h : MSt S w m bp bl s) : w.cell? ⟨m, 0, none⟩ = some (.map (some bp)) ∧ w.cell? ⟨m, 1, none⟩ = some (.map (some bl)) ∧ w.cell? ⟨m, 2, none⟩ = some (.int .i64 s.tok) := ⟨h.cell 0, h.cell 1, h.cell 2⟩
theorem mcells_tok (bp bl : Nat) (tok tok' : Int) (ss : List MSess) : (mchcells bp bl tok ss).toArray.setIfInBounds 2 (.int .i64 tok') = (mchcells bp bl tok' ss).toArray := rfl
/-- Without the lock k. -/
theorem MSt.cut {S : Nat → Prop} {w w' : World} {m bp bl : Nat} {s : StD} {ms : List LkM} (h : MSt S w m bp bl s) (hl : Lks S w bl ms s.locks) (k : Txt) (hm : MapIs Tryz.prog 9 w' bl (mdel k (ms.map LkM.kv))) (hk : Keep (fun j => j ≠ bl) w w') :
    MSt S w' m bp bl { s with locks := delK LockD.name k s.locks } :=
  ⟨h.blk.keep hk (fun e => h.nm (e ▸ hl.sb)), h.len, h.pm.keep hk h.ne, ⟨_, hl.del k hm hk (fun _ _ h => h)⟩, h.nm, h.nb⟩
theorem sk_key (q : List Int) (c : Int) : ics (c :: q) = .int .i64 c :: ics q := rfl

set_option maxRecDepth 20000 in
set_option maxHeartbeats 1000000 in
theorem pass_any (S : Nat → Prop) (m bp bl : Nat) (s : StD) (k : Txt) (l : LockD) (w : World) (hm : MSt S w m bp bl s) (hi : LInv s.locks s.tok) (hk : k.length ≤ 1048576) (hl : lfind k s.locks = some l) :
    Calls Tryz.prog 45 #[.pointer (some ⟨m, 0, none⟩), str k] w fun e w' => e = .returned (.int .i64 (passD k s).1) ∧ MSt S w' m bp bl (passD k s).2 ∧ Keep (fun j => j ≠ m ∧ ¬ S j) w w' := by
  obtain ⟨ms, hls⟩ := hm.lk
  obtain ⟨x, hx, hxl, hxk, hxi, hxf⟩ := lk_find hls hl
  obtain ⟨x0, x1, x2⟩ := hm.three
  obtain ⟨y0, y1, y2⟩ := hxi.cells
  have hlk := look_lk hls (by omega) _ hxf 0
  rw [show w.drewN 0 = w from rfl] at hlk
  have hrow := hxi.row
  obtain ⟨h, hh⟩ : ∃ h, h = x.h := ⟨_, rfl⟩
  rw [← hh] at hlk y0 y1 y2
  obtain ⟨v, hv⟩ : ∃ v, v = x.v := ⟨_, rfl⟩
  rw [← hv] at y2 hrow
  obtain ⟨A, c, rfl, hnc, hrd, hnil⟩ := hrow.rd
  obtain ⟨tok, htok⟩ : ∃ t, t = s.tok := ⟨_, rfl⟩
  rw [← htok] at x2
  have ht0 := hi.tok0
  have ht1 := hi.tok1
  rw [← htok] at ht0 ht1
  obtain ⟨R, hR⟩ : ∃ R, R = (passD k s).1 := ⟨_, rfl⟩
  rw [← hR]
  have hml := hm.blk.lt
  have hmap := hls.map.lt
  have hhl := hxi.lt
  rw [← hh] at hhl
  have HA := Lib.hid (And.intro hm (And.intro hi (And.intro hls (And.intro hx (And.intro hxl (And.intro hxk (And.intro hxi (And.intro hh (And.intro hv (And.intro htok hR))))))))))
  obtain ⟨n, hn⟩ : ∃ n, n = x.d.queue.length := ⟨_, rfl⟩
  rw [← hn] at y2 hrow hrd hnil hnc
  cases hq : x.d.queue with
  | nil =>
    have hn0 : n = 0 := by rw [hn, hq]; rfl
    subst hn0
    have HE : Hid (passD k s = (0, { s with locks := delK LockD.name k s.locks })) := by
      have h1 : l.queue = [] := by rw [← hxl]; exact hq
      unfold passD
      rw [hl]
      simp only [h1]
      trivial
    obtain ⟨w1, hrun, hm1, hk1⟩ := hls.map.drop Tryz.underlying9 Tryz.underlying75 (l := k) (by simp only [maxLen]; omega) 0
    have HD := Lib.hid (And.intro hm1 hk1)
    clear hm hi hls hx hxl hxk hxi hh hv htok hR hrow hrd hnil hq hn y0 y1 hm1 hk1
    go_enter Tryz.func45, Tryz.ntmps45
    go_wp2
    go_ret
    obtain ⟨hm, hi, hls, -, -, -, -, -, -, -, hR⟩ := HA.out
    rw [hR, HE.out]
    exact ⟨rfl, hm.cut hls k HD.out.1 HD.out.2, HD.out.2.weaken fun j _ h e => h.2 (by rw [e]; exact hls.sb)⟩
  | cons c0 q =>
    have hn0 : n = q.length + 1 := by rw [hn, hq]; rfl
    have hlq : l.queue = c0 :: q := by rw [← hxl]; exact hq
    by_cases hful : 99999999 ≤ tok
    · have HE : Hid (passD k s = (0, { s with locks := delK LockD.name k s.locks })) := by
        unfold passD
        rw [hl]
        simp only [hlq]
        rw [if_pos (by omega)]
        trivial
      obtain ⟨w1, hrun, hm1, hk1⟩ := hls.map.drop Tryz.underlying9 Tryz.underlying75 (l := k) (by simp only [maxLen]; omega) 0
      have HD := Lib.hid (And.intro hm1 hk1)
      have hne : ¬ (n : Int) = 0 := by omega
      clear hm hi hls hx hxl hxk hxi hh hv htok hR hrow hrd hnil hq hn y0 y1 hm1 hk1 hlq hn0
      go_enter Tryz.func45, Tryz.ntmps45
      go_wp2
      go_ret
      obtain ⟨hm, hi, hls, -, -, -, -, -, -, -, hR⟩ := HA.out
      rw [hR, HE.out]
      exact ⟨rfl, hm.cut hls k HD.out.1 HD.out.2, HD.out.2.weaken fun j _ h e => h.2 (by rw [e]; exact hls.sb)⟩
    · have HE : Hid (passD k s = (tok + 1, { s with locks := setK LockD.name ⟨k, c0, tok + 1, q⟩ s.locks, tok := tok + 1 })) := by
        unfold passD
        rw [hl]
        simp only [hlq]
        rw [if_neg (by omega), htok]
        trivial
      have hne : ¬ (n : Int) = 0 := by omega
      rw [hq, sk_key] at hrd hrow
      obtain ⟨g, o, hA, -, hcell⟩ := hrd.2 (by omega)
      subst hA
      have z0 := hcell 0 _ rfl
      rw [Nat.add_zero] at z0
      have fr1 : w.frozen? ⟨h, 0, none⟩ = false := by rw [hh]; exact hxi.blk.frozen 0
      have fr2 : w.frozen? ⟨h, 2, none⟩ = false := by rw [hh]; exact hxi.blk.frozen 2
      have fr3 : w.frozen? ⟨h, 1, none⟩ = false := by rw [hh]; exact hxi.blk.frozen 1
      have frm : w.frozen? ⟨m, 2, none⟩ = false := hm.blk.frozen 2
      have hgl : g < w.heap.size := lt_of_cell z0
      have hgh : g ≠ h := by
        intro e
        have := hxi.vne hxi
        rw [← hv, ← hh] at this
        exact this (by simp [Value.ownBlock, e])
      have hmh : m ≠ h := by rw [hh]; exact fun e => hm.nm (e ▸ hxi.sh)
      have hn1 : (1 : Int) ≤ (n : Int) := by omega
      have hcn : (n : Int) ≤ (c : Int) := by omega
      have HR := Lib.hid hrow
      clear hm hi hls hx hxl hxk hxi hh hv htok hR hrow hrd hnil hq hn hlq
      go_enter Tryz.func45, Tryz.ntmps45
      go_wp2
      go_region
      obtain ⟨V, hV⟩ : ∃ V, V = tailV (.slice (some ⟨g, o, none⟩) n c) := ⟨_, rfl⟩
      have hV2 : V = .slice (if c = 1 then some ⟨g, o, none⟩ else some ⟨g, o + 1, none⟩) q.length (c - 1) := by rw [hV, hn0]; rfl
      rw [← hV2]
      obtain ⟨W, hW⟩ : ∃ W, W = ((w.setCell ⟨h, 0, none⟩ (.int .i64 c0)).setCell ⟨h, 2, none⟩ V).drew := ⟨_, rfl⟩
      rw [← hW]
      have hkW : Keep (fun j => j ≠ h) w W := by rw [hW]; exact (((Keep.refl _ w).setCell (fun _ e => e rfl) _).setCell (fun _ e => e rfl) _).drew
      have x2W := hkW.cellAt x2 hmh
      have frW : W.frozen? ⟨m, 2, none⟩ = false := (hkW.frozen (p := ⟨m, 2, none⟩) hml hmh).trans frm
      have bW : Blk W h 121 #[.int .i64 c0, .int .i64 x.d.token, V] := by
        have b0 := HA.out.2.2.2.2.2.2.1.blk
        rw [← HA.out.2.2.2.2.2.2.2.1] at b0
        have b1 := (((b0.set 0 (.int .i64 c0)).set 2 V).drew)
        rw [← hW] at b1
        exact b1
      have y1W := bW.cell 1
      simp at y1W
      have fr3W := bW.frozen 1
      have hhm : h ≠ m := fun e => hmh e.symm
      have HK := Lib.hid (And.intro hkW (And.intro hW (And.intro hV bW)))
      clear hW hkW hV hV2 bW z0 hcell y0 y1 y2 fr1 fr2 fr3 frm x2
      go_wp2_with fail
      refine (next_any m tok W x2W frW ht0 ht1).mono ?_
      rintro e _ ⟨rfl, rfl⟩
      go_wp2
      go_ret
      obtain ⟨hm, hi, hls, hx, hxl, hxk, hxi, hh, hv, htok, hR⟩ := HA.out
      obtain ⟨hkW, hW, hV, bW⟩ := HK.out
      rw [hR, HE.out]
      have hkF : Keep (fun j => j ≠ m ∧ j ≠ h) w ((W.setCell ⟨m, 2, none⟩ (.int .i64 (tok + 1))).setCell ⟨h, 1, none⟩ (.int .i64 (tok + 1))) := ((hkW.weaken fun _ _ h => h.2).setCell (fun _ h => h.1 rfl) _).setCell (fun _ h => h.2 rfl) _
      have hbh : Blk ((W.setCell ⟨m, 2, none⟩ (.int .i64 (tok + 1))).setCell ⟨h, 1, none⟩ (.int .i64 (tok + 1))) h 121 #[.int .i64 c0, .int .i64 (tok + 1), V] := by
        exact ((bW.far (p := ⟨m, 2, none⟩) hhm _).set 1 _)
      have hown : OwnAt ((W.setCell ⟨m, 2, none⟩ (.int .i64 (tok + 1))).setCell ⟨h, 1, none⟩ (.int .i64 (tok + 1))) 0 3 V q.length (ics q) := by
        have h1 := HR.out
        rw [hn0] at h1
        have h2 := h1.tail
        rw [← hn0, ← hV] at h2
        have hVo : V.ownBlock = some g := by rw [hV, hn0, tailV_own h1]; rfl
        refine h2.keep hkF fun j hj => ?_
        rw [hVo] at hj
        injection hj with hj
        subst hj
        refine ⟨fun e => ?_, hgh⟩
        have h3 := hxi.sv g (by rw [← hv]; rfl)
        rw [e] at h3
        exact hm.nm h3
      have hVo : V.ownBlock = x.v.ownBlock := by
        have h1 := HR.out
        rw [hn0] at h1
        rw [hV, hn0, tailV_own h1, ← hv]
        rfl
      have hSh : S h := by rw [hh]; exact hxi.sh
      refine ⟨rfl, ⟨?_, hm.len, hm.pm.keep hkF ⟨fun e => hm.mp e.symm, fun e => hm.nb (by rw [e]; exact hSh)⟩, ⟨_, hls.turn hi.rise hx hkF (fun j hj h1 _ => ⟨fun e => hm.nm (by rw [← e]; exact hj), fun e => h1 (e.trans hh)⟩) (x' := ⟨⟨k, c0, tok + 1, q⟩, h, V⟩) ⟨hbh, hown, hSh, fun j hj => hxi.sv j (by rw [← hVo]; exact hj)⟩ hh hxk.symm (fun _ h => h) (.inl hVo)⟩, hm.nm, hm.nb⟩, hkF.weaken fun j _ h => ⟨h.1, fun e => h.2 (by rw [e, hh]; exact hxi.sh)⟩⟩
      have b1 := ((((hm.blk.far (p := ⟨h, 0, none⟩) hmh (.int .i64 c0)).far (p := ⟨h, 2, none⟩) hmh V).drew))
      rw [← hW] at b1
      have b2 := (b1.set 2 (.int .i64 (tok + 1))).far (p := ⟨h, 1, none⟩) hmh (.int .i64 (tok + 1))
      rw [mcells_tok] at b2
      exact b2
end Go.Proofs.YtohnmaindbgngaaGreatDoor
namespace Go.Proofs.YtohnmaindbgngaaGreatDoor
set_option linter.unusedVariables false
set_option linter.unusedSimpArgs false
open Go.RowKit

set_option maxRecDepth 20000 in
theorem leave_any (S : Nat → Prop) (c : Int) (x : LkM) (w : World) (hx : LkIs S w x) (hnd : x.d.queue.Nodup) (hql : x.d.queue.length ≤ 1000) :
    Calls Tryz.prog 43 #[.pointer (some ⟨x.h, 0, none⟩), .int .i64 c] w fun e w' => e = .returned (.bool (decide (c ∈ x.d.queue))) ∧
      (∃ v', LkIs (fun j => S j ∨ w.heap.size ≤ j) w' ⟨leaveL c x.d, x.h, v'⟩ ∧ Next w.heap.size x.v v') ∧ Keep (fun j => j ≠ x.h) w w' := by
  have HI := Lib.hid (index_any x.d.queue c w hx.row)
  obtain ⟨q, hq⟩ : ∃ q, q = x.d.queue := ⟨_, rfl⟩
  obtain ⟨h, hh⟩ : ∃ h, h = x.h := ⟨_, rfl⟩
  obtain ⟨v, hv⟩ : ∃ v, v = x.v := ⟨_, rfl⟩
  obtain ⟨y0, y1, y2⟩ := hx.cells
  rw [← hh, ← hv] at y2
  rw [← hv, ← hq] at HI
  have hhl := hx.lt
  have fr2 := hx.blk.frozen 2
  rw [← hh] at hhl fr2
  have HA := Lib.hid (And.intro hx (And.intro hnd (And.intro hql (And.intro hq (And.intro hh hv)))))
  rw [← hq, ← hh, ← hv]
  clear hx hnd hql hq hh y0 y1 hv
  by_cases hc : c ∈ q
  · have hi := idx_memq hc
    obtain ⟨i, hidx⟩ : ∃ i, i = q.idxOf c := ⟨_, rfl⟩
    rw [← hidx] at hi
    have hil : i < q.length := hidx ▸ List.idxOf_lt_length_of_mem hc
    have hb : i ≤ 1000 := by have := HA.out.2.2.1; have := HA.out.2.2.2.1; subst this; omega
    rw [hi] at HI
    have HX := Lib.hid (And.intro hidx (And.intro hil hc))
    clear hi hidx hil
    have HC := Lib.hid (fun (hq0 : 0 < q.length) (w : World) (h : OwnAt w 0 3 v q.length (ics q)) (hb : q.length ≤ 1000) => clone_any q w h hq0 hb)
    go_enter Tryz.func43, Tryz.ntmps43
    go_wp2_with fail
    refine HI.out.mono ?_
    rintro e _ ⟨rfl, rfl⟩
    go_wp2_with fail
    refine (HC.out (by have := HX.out.2.1; omega) _ (by have h1 := HA.out.1.row; have h2 := HA.out.2.2.2.1; have h3 := HA.out.2.2.2.2.2; rw [← h2, ← h3] at h1; exact h1) (by have h1 := HA.out.2.2.1; have h2 := HA.out.2.2.2.1; rw [← h2] at h1; exact h1)).mono ?_
    rintro e w1 ⟨v1, rfl, ho1, f1⟩
    have z2 := f1.cellAt y2 trivial
    have zf := (f1.frozen (p := ⟨h, 2, none⟩) hhl trivial).trans fr2
    have zl : h < w1.heap.size := Nat.lt_of_lt_of_le hhl f1.size
    have HO := Lib.hid (And.intro ho1 f1)
    have HD := Lib.hid (delete_any q c v1 w.heap.size w1 (by have h1 := HA.out.2.1; have h2 := HA.out.2.2.2.1; rw [← h2] at h1; exact h1) hc ho1)
    rw [← HX.out.1] at HD
    clear ho1 f1 y2 fr2 HI
    go_wp2_with fail
    refine HD.out.mono ?_
    rintro e w2 ⟨v2, rfl, ho2, hv2, hk2⟩
    obtain ⟨hw1, hf1⟩ := HO.out
    have hne : v1.ownBlock ≠ some h := fun e => by have := (own_lt hw1 e).1; omega
    have z2b := hk2.cellAt z2 hne
    have zfb := (hk2.frozen (p := ⟨h, 2, none⟩) zl hne).trans zf
    obtain ⟨A2, c2, rfl, -, -, -⟩ := ho2.rd
    have H2 := Lib.hid (And.intro ho2 (And.intro hv2 hk2))
    have zlb : h < w2.heap.size := Nat.lt_of_lt_of_le zl hk2.size
    clear z2 zf ho2 hv2 hk2 HD hw1 hf1 hne
    go_wp2
    go_ret
    obtain ⟨hx, hnd, hql, hq, hh, hv⟩ := HA.out
    obtain ⟨ho1, hf1⟩ := HO.out
    obtain ⟨ho2, hv2, hk2⟩ := H2.out
    obtain ⟨V2, hV2⟩ : ∃ V2, V2 = Value.slice A2 (q.filter fun y => !(y == c)).length c2 := ⟨_, rfl⟩
    rw [← hV2] at ho2 hv2 ⊢
    obtain ⟨g1, cap1, hv1, hb1, -, -⟩ := own_nonnil ho1 (by have := HX.out.2.1; omega)
    have hVo : V2.ownBlock = some g1 := by rw [hv2, hv1]; rfl
    have hgh : g1 ≠ h := by omega
    have hne : v1.ownBlock ≠ some h := by rw [← hv2, hVo]; intro e; injection e with e; exact hgh e
    have hk : Keep (fun j => j ≠ h) w (w2.setCell ⟨h, 2, none⟩ V2) := ((hf1.comp hk2 (fun _ _ _ => trivial) (fun j hj _ e => by rw [← hv2, hVo] at e; injection e with e; omega)).weaken (fun _ _ _ => trivial)).setCell (fun _ e => e rfl) _
    refine ⟨ret_bool (by simp [hc]), ⟨V2, ⟨?_, ?_, .inl (by rw [hh]; exact hx.sh), fun k hk => .inr ?_⟩, .inr ⟨g1, hVo, hb1⟩⟩, hk⟩
    · have b0 := hx.blk
      rw [← hh, ← hv] at b0
      have b1 := ((b0.keep hf1 trivial).keep hk2 hne).set 2 V2
      exact b1
    · have h1 : OwnAt w2 0 3 V2 (leaveL c x.d).queue.length (ics (leaveL c x.d).queue) := by
        unfold leaveL
        rw [← hq]
        exact ho2.lower (Nat.zero_le _)
      exact h1.far (by rw [hVo]; intro e; injection e with e; exact hgh e) _
    · rw [hVo] at hk
      injection hk with hk
      omega
  · have hi := idx_none hc
    rw [hi] at HI
    go_enter Tryz.func43, Tryz.ntmps43
    go_wp2_with fail
    refine HI.out.mono ?_
    rintro e _ ⟨rfl, rfl⟩
    go_wp2
    go_ret
    obtain ⟨hx, hnd, hql, hq, hh, hv⟩ := HA.out
    have hl : leaveL c x.d = x.d := by
      unfold leaveL
      rw [← hq, List.filter_eq_self.2 fun y hy => by
        have : y ≠ c := fun e => hc (e ▸ hy)
        simpa using this]
      rw [hq]
    refine ⟨ret_bool (by simp [hc]), ⟨v, ?_, Next.refl _ _⟩, Keep.refl _ _⟩
    rw [hl, hh, hv]
    exact hx.widen fun _ h => .inl h
end Go.Proofs.YtohnmaindbgngaaGreatDoor
namespace Go.Proofs.YtohnmaindbgngaaGreatDoor
set_option linter.unusedVariables false
set_option linter.unusedSimpArgs false
open Go.RowKit

theorem str_info : (Tryz.prog.info? 9).map (fun i => (i.zero, i.size, i.bytes)) = some (some (str []), 1, 16) := by kernel_rfl
theorem etStr : ET Tryz.prog 118 9 1 16 (str []) := ⟨Tryz.underlying118, str_info, rfl, by decide, by decide⟩
structure NamesAt (P : Program) (w wr : World) (b r : Nat) (ps : List Kv) (l : Value) (xs todo : List Txt) : Prop where
  rng : RangeIs P 9 wr b r ps todo
  own : wr.ownsRow w.heap.size 9 1 l xs.length (xs.map str)
  perm : (xs ++ todo).Perm (ps.map Prod.fst)
  fresh : Fresh w wr
theorem range_ne_own {P : Program} {k : TypeId} {w : World} {b r base e s n : Nat} {ps : List Kv} {todo : List Txt} {v : Value} {xs : List Value} (h : RangeIs P k w b r ps todo) (ho : w.ownsRow base e s v n xs) : v.ownBlock ≠ some r := by
  obtain ⟨cnt, h⟩ := h
  exact fun e => row_ne_iter ho h e.symm
theorem perm_step {xs todo ks : List Txt} {t : Txt} (h : (xs ++ todo).Perm ks) (ht : t ∈ todo) (hn : todo.Nodup) : ((xs ++ [t]) ++ todo.filter fun x => !(x == t)).Perm ks := by
  refine List.Perm.trans ?_ h
  rw [List.append_assoc]
  refine List.Perm.append_left _ ?_
  have e : (todo.filter fun x => !(x == t)) = todo.erase t := by
    rw [hn.erase_eq_filter]
    refine List.filter_congr fun y _ => ?_
    simp [bne]
  rw [e]
  exact (List.perm_cons_erase ht).symm

set_option maxRecDepth 20000 in
theorem names_l_any (b : Nat) (ps : List Kv) (w : World) (h : MapIs Tryz.prog 9 w b ps) (hr : Rise (ps.map Prod.fst)) (hn : ps.length ≤ 1000) :
    Calls Tryz.prog 44 #[.map (some b)] w fun e w' => (∃ v, e = .returned v ∧ w'.ownsRow w.heap.size 9 1 v ps.length ((ps.map Prod.fst).map str)) ∧ Fresh w w' := by
  have HA := Lib.hid (And.intro h (And.intro hr hn))
  have hbl := h.lt
  clear h hr hn
  go_enter Tryz.func44, Tryz.ntmps44
  go_wp2_with (at_range; refine wpList_rangeIs rfl (.tmp 5) rfl Tryz.underlying9 Tryz.underlying75 rfl HA.out.1 ?_)
  intro w0 hr0 hk0 hs0
  have HR0 := Lib.hid (And.intro hr0 hk0)
  clear hr0 hk0
  go_wp2_with fail
  go_loopw [3] (fun l wr => ∃ xs todo, Hid (NamesAt Tryz.prog w wr b w.heap.size ps l xs todo)) (fun _ wr => wr.rangeLeft b w.heap.size)
  case atStart => exact ⟨[], ps.map Prod.fst, Lib.hid ⟨HR0.out.1, by exact World.ownsRow_nil _ _ _ _, by simp, HR0.out.2⟩⟩
  case round =>
    rename World => wr
    obtain ⟨xs, todo, HW⟩ := hrel
    go_wp2_with (at_next; refine wpList_nextIs rfl (.tmp 6) rfl Tryz.underlying9 rfl HW.out.1 ?_ ?_)
    · intro hd
      have HP : Hid (xs.Perm (ps.map Prod.fst) ∧ xs.length = ps.length) := by
        have h1 := HW.out.perm
        rw [hd, List.append_nil] at h1
        exact ⟨h1, by have := h1.length_eq; simpa using this⟩
      have HS := Lib.hid (sortS_any w.heap.size _ xs wr HW.out.own (by have := HP.out.2; have := HA.out.2.2; omega))
      clear hd
      go_wp2_with fail
      refine HS.out.mono ?_
      rintro e w2 ⟨rfl, ho2, hk2⟩
      rw [sort_rise HA.out.2.1 HP.out.1, HP.out.2] at ho2
      have HO := Lib.hid (And.intro ho2 hk2)
      clear ho2 hk2
      go_wp2
      go_ret
      exact ⟨⟨_, rfl, HO.out.1⟩, HW.out.fresh.comp HO.out.2 (fun _ _ h => h) (fun i hi _ e => by have := (own_lt HW.out.own e).1; omega)⟩
    · intro t v w1 ht hv hr1 hk1 hs1 hlt hen
      have ho1 := own_keep HW.out.own hk1 (fun k hk e => range_ne_own HW.out.rng HW.out.own (e ▸ hk))
      have hb1 : w.heap.size ≤ w1.heap.size := by have := HW.out.fresh.size; omega
      have hxl : xs.length ≤ 1000 := by
        have h1 := HW.out.perm.length_eq
        have h2 := HA.out.2.2
        simp at h1
        omega
      have HS := Lib.hid (And.intro ht (And.intro hr1 (And.intro hk1 (And.intro hs1 (And.intro ho1 (And.intro hb1 hlt))))))
      clear ht hr1 hk1 hv hs1 ho1 hb1 hlt
      go_wp2_with (at_builtin; refine wpList_app1 etStr rfl (.tmp 11) (.tmp 13) rfl (str t) _ rfl w.heap.size _ xs.length (xs.map str) rfl rfl HS.out.2.2.2.2.1 (by omega) HS.out.2.2.2.2.2.1 ?_)
      intro v2 w2 ho2 hk2 hn2
      have H2 := Lib.hid (And.intro ho2 (And.intro hk2 hn2))
      clear ho2 hk2 hn2
      go_wp2
      obtain ⟨ht, hr1, hk1, hs1, ho1, hb1, hlt⟩ := HS.out
      obtain ⟨ho2, hk2, hn2⟩ := H2.out
      have hnr := range_ne_own hr1 ho1
      have hnb := (fun e => by have := (own_lt ho1 e).1; omega : ¬ Value.ownBlock _ = some b)
      have hnd : todo.Nodup := (List.nodup_append.1 (HW.out.perm.nodup_iff.2 HA.out.2.1.nodup)).2.1
      refine ⟨⟨xs ++ [t], _, Lib.hid ⟨hr1.keep hk2 hnb hnr, by simpa using ho2, perm_step HW.out.perm ht hnd, (HW.out.fresh.comp hk1 (fun _ _ h => h) (fun i hi _ => by omega)).comp hk2 (fun _ _ h => h) (fun i hi _ e => by have := (own_lt ho1 e).1; omega)⟩⟩, ?_⟩
      rw [hr1.left hk2 hnb hnr]
      exact hlt
end Go.Proofs.YtohnmaindbgngaaGreatDoor
