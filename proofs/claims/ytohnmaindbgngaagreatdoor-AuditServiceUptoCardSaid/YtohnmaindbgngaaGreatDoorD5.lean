/-
  MERGED: DOnLock
-/
import Derived.Test.YtohnmaindbgngaaGreatDoorD4
import Derived.Test.YtohnmaindbgngaaGreatDoorD2
import Derived.Test.YtohnmaindbgngaaGreatDoorD3
namespace Go.Proofs.YtohnmaindbgngaaGreatDoor
set_option linter.unusedVariables false
set_option linter.unusedSimpArgs false
open Go.RowKit

theorem placeI_zero {q : List Int} {c : Int} (h : c ∉ q) : placeI q c = 0 := if_neg h
theorem placeI_some {q : List Int} {c : Int} (h : c ∈ q) : placeI q c = (q.idxOf c : Int) + 1 := if_pos h
set_option maxRecDepth 20000 in
set_option maxHeartbeats 4000000 in
theorem donLock_any {B : Nat} {F : Nat → Prop} {w : World} {d : Nat} {pv hv : Value} {hs : List DLk} {s : StD} (h : DAt B F w d pv hv hs s) (hFb : ∀ j, F j → j < w.heap.size) (hi : LInv s.locks s.tok) (hB : B ≤ w.heap.size) (c i r o : Int) (k v ol : Txt) (hv8 : o = 8 → (numb v).2 = true) (ho6 : 6 ≤ o) (ho8 : o ≤ 8) :
    Calls Tryz.prog 129 #[.pointer (some ⟨d, 0, none⟩), cmdV c i r o k v ol] w (DOp B F w d (onLockD numb c o k v s)) := by
  obtain ⟨X, hX⟩ : ∃ X, X = onLockD numb c o k v s := ⟨_, rfl⟩
  rw [← hX]
  have HO := Lib.hid (op_at w c i r o k v ol)
  obtain ⟨G, hG⟩ : ∃ G, G = w.heap.size := ⟨_, rfl⟩
  obtain ⟨W, hW⟩ : ∃ W, W = (w.alloc (.cells #[.int .i64 c, .int .i64 i, .int .i64 r, .int .i64 o, str k, str v, str ol] 43)).alloc (.cells #[.int .i64 0, str [], .int .i64 0] 49) := ⟨_, rfl⟩
  rw [← hW, ← hG] at HO
  have hdW := h.fresh HO.out.fresh
  have hlen := hi.len
  have HKA := Lib.hid (lockAt_any hdW k (by omega))
  obtain ⟨n, hnn⟩ : ∃ n, n = s.locks.length := ⟨_, rfl⟩
  rw [← hnn] at hlen
  have hlk := hdW.lk
  rw [← hnn] at hlk
  obtain ⟨Ap, cp, rfl, -⟩ := own_rd hlk
  have x1 := hdW.three.2.1
  have x2 := hdW.three.2.2
  obtain ⟨tk, htk⟩ : ∃ tk, tk = s.tok := ⟨_, rfl⟩
  rw [← htk] at x2
  have ld := hdW.blk.lt
  have hcm := HO.out.cmd
  have k0 := hcm.cell 0; have k3 := hcm.cell 3; have k4 := hcm.cell 4; have k5 := hcm.cell 5
  simp at k0 k3 k4 k5
  have kl := hcm.lt
  obtain ⟨r0, r1, r2, s0, s1, s2, rl⟩ := res_facts HO.out.res
  have HA := Lib.hid (And.intro hdW (And.intro hX (And.intro hi (And.intro hB (And.intro htk (And.intro hnn hlk))))))
  have hBW := Nat.le_trans hB HO.out.fresh.size
  have HBW := Lib.hid hBW
  have HFB := Lib.hid hFb
  clear h hdW hX hi hB hFb hnn hcm hlk htk hBW
  go_enter Tryz.func129, Tryz.ntmps129
  go_wp2_with fail
  simp only [← hG]
  rw [← hW]
  clear hW hG
  cases hpf : lfind k s.locks with
  | none =>
    rw [placeK_none (findK_none hpf)] at HKA
    have HPF := Lib.hid hpf
    clear hpf
    have HE1 : Hid (X = if o = 6 then (if 8 ≤ n then (⟨4, [], 0⟩, s) else if 99999999 ≤ tk then (⟨11, [], 0⟩, s) else (⟨1, [], tk + 1⟩, { s with locks := insK LockD.name ⟨k, c, tk + 1, []⟩ s.locks, tok := tk + 1 })) else (⟨2, [], 0⟩, s)) := Lib.hid (by
      rw [HA.out.2.1]
      unfold onLockD
      rw [HPF.out]
      simp only
      rw [HA.out.2.2.2.2.1, HA.out.2.2.2.2.2.1])
    have hcs : (o = 6 ∧ 8 ≤ n) ∨ (o = 6 ∧ n < 8 ∧ 99999999 ≤ tk) ∨ (o = 6 ∧ n < 8 ∧ tk < 99999999) ∨ o = 7 ∨ o = 8 := by omega
    rcases hcs with ⟨rfl, hn⟩ | ⟨rfl, hn, ht⟩ | ⟨rfl, hn, ht⟩ | rfl | rfl
    · have HE : Hid (X = (⟨4, [], 0⟩, s)) := Lib.hid (by rw [HE1.out]; rw [if_pos rfl, if_pos hn])
      have hni : (8 : Int) ≤ (n : Int) := by omega
      clear HE1
      go_wp2_with fail
      refine Calls.mono HKA.out ?_
      rintro e _ ⟨rfl, rfl⟩
      go_wp2_with fail
      rw [HE.out]
      exact dop_ret (w := w) rfl rfl rfl (HA.out.1.stay' HO.out.fresh) HO.out.res (by have := HO.out.sz; omega)
    · have HE : Hid (X = (⟨11, [], 0⟩, s)) := Lib.hid (by rw [HE1.out]; rw [if_pos rfl, if_neg (by omega), if_pos ht])
      have hni : ¬ (8 : Int) ≤ (n : Int) := by omega
      clear HE1
      go_wp2_with fail
      refine Calls.mono HKA.out ?_
      rintro e _ ⟨rfl, rfl⟩
      go_wp2_with fail
      rw [HE.out]
      exact dop_ret (w := w) rfl rfl rfl (HA.out.1.stay' HO.out.fresh) HO.out.res (by have := HO.out.sz; omega)
    · have HE : Hid (X = (⟨1, [], tk + 1⟩, { s with locks := insK LockD.name ⟨k, c, tk + 1, []⟩ s.locks, tok := tk + 1 })) := Lib.hid (by rw [HE1.out, if_pos rfl, if_neg (by omega), if_neg (by omega)])
      have hni : ¬ (8 : Int) ≤ (n : Int) := by omega
      have hnt : ¬ (99999999 : Int) ≤ tk := by omega
      have hj := taken_any HA.out.1 k c (by have := HA.out.2.2.1.len; omega) HBW.out ⟨HA.out.2.2.1.tok0, HA.out.2.2.1.tok1⟩
      rw [← HA.out.2.2.2.2.1] at hj
      have HJ := Lib.hid hj
      clear HE1 hj
      go_wp2_with fail
      refine Calls.mono HKA.out ?_
      rintro e _ ⟨rfl, rfl⟩
      go_wp2_with fail
      refine Calls.mono HJ.out ?_
      rintro e w4 ⟨rfl, ⟨hv4, hs4, F4, hd4, hF4⟩, hk4⟩
      have hRd : G + 1 ≠ d := HO.out.res.ne HA.out.1.blk (by decide)
      have hb4 := HO.out.res.keep hk4 hRd
      obtain ⟨r0, r1, r2, s0, s1, s2, rl⟩ := res_facts hb4
      have hst : DStep B F w d { s with locks := insK LockD.name ⟨k, c, tk + 1, []⟩ s.locks, tok := tk + 1 } w4 := DStep.next (F1 := F) (w1 := W) ⟨⟨_, _, _, _, hd4, hF4⟩, hk4.weaken fun j _ hj e => hj (e ▸ HA.out.1.fd)⟩ (fun j hj => .inl hj) (HO.out.fresh.weaken fun _ _ _ => trivial)
      have H4 := Lib.hid (And.intro hst hb4)
      clear hd4 hF4 hk4 hb4 hst HJ HKA
      go_wp2_with fail
      rw [HE.out]
      exact dop_ret (w := w) rfl rfl rfl H4.out.1 H4.out.2 (by have := HO.out.sz; omega)
    · have HE : Hid (X = (⟨2, [], 0⟩, s)) := Lib.hid (by rw [HE1.out]; simp)
      clear HE1
      go_wp2_with fail
      refine Calls.mono HKA.out ?_
      rintro e _ ⟨rfl, rfl⟩
      go_wp2_with fail
      rw [HE.out]
      exact dop_ret (w := w) rfl rfl rfl (HA.out.1.stay' HO.out.fresh) HO.out.res (by have := HO.out.sz; omega)
    · have HE : Hid (X = (⟨2, [], 0⟩, s)) := Lib.hid (by rw [HE1.out]; simp)
      clear HE1
      go_wp2_with fail
      refine Calls.mono HKA.out ?_
      rintro e _ ⟨rfl, rfl⟩
      go_wp2_with fail
      rw [HE.out]
      exact dop_ret (w := w) rfl rfl rfl (HA.out.1.stay' HO.out.fresh) HO.out.res (by have := HO.out.sz; omega)
  | some l =>
    obtain ⟨i0, hi0, hix, hpl⟩ := placeK_find hpf
    rw [hpl] at HKA
    have hnk := (findK_some hpf).1
    have hi1 : i0 < n := by rw [HA.out.2.2.2.2.2.1]; exact hi0
    have hii : (i0 : Int) < (n : Int) := by omega
    obtain ⟨g, cp2, e, -, hgl⟩ := own_form HA.out.2.2.2.2.2.2 (by omega)
    injection e with e1 e2 e3
    subst e1 e3
    obtain ⟨hl, b, o0, e0, -, c0, c1, c2, c3⟩ := (Blk.rdOwn HA.out.2.2.2.2.2.2).lockE hi1
    injection e0 with e0
    injection e0 with e0 e00
    subst e0 e00
    have hdi : hs[i0].d = l := by
      have h3 : (hs.map DLk.d)[i0]'(by simpa using hl) = hs[i0].d := by simp
      rw [← h3]
      exact (List.getElem_of_eq HA.out.1.ds _).trans hix
    have hown := HA.out.1.qs _ (List.getElem_mem hl)
    rw [Nat.zero_add] at c0 c1 c2 c3
    rw [hdi] at c0 c1 c2
    rw [hdi] at hown
    have hok := HA.out.2.2.1.each l (by rw [← hix]; exact List.getElem_mem hi0)
    have hq16 := queue_len hok.nd hok.q
    obtain ⟨Aq, cq, eqv, hrq, -⟩ := own_rd hown
    rw [eqv] at c3
    have hgq : ∀ k, hs[i0].q.ownBlock = some k → k ≠ g := fun k hk e => HA.out.1.ngq (List.getElem_mem hl) (g := g) (by simp [Value.ownBlock]) (e ▸ hk)
    have hset : ∀ x : LockD, x.name = l.name → setK LockD.name x s.locks = s.locks.set i0 x := fun x hx => setK_at HA.out.2.2.1.rise hi0 (by rw [hix]; exact hx)
    have HIx := Lib.hid (show ∃ h : i0 < s.locks.length, s.locks[i0].name = k from ⟨hi0, by rw [hix, hnk]⟩)
    have f3 := own_frozen HA.out.2.2.2.2.2.2 (g := g) (i0 * 4 + 3) (by simp [Value.ownBlock])
    obtain ⟨⟨nm, lh, lt, lq⟩, hll⟩ : ∃ x, x = l := ⟨_, rfl⟩
    rw [← hll] at c0 c1 c2 c3 hown hok hq16 hrq eqv
    simp only at c0 c1 c2 c3 hown hq16 hrq eqv
    have HE1 : Hid (X = (if o = 6 then (if lh = c then (⟨1, [], lt⟩, s) else if c ∈ lq then (⟨7, [], (lq.idxOf c : Int) + 1⟩, s) else (⟨7, [], (lq.length : Int) + 1⟩, { s with locks := s.locks.set i0 ⟨nm, lh, lt, lq ++ [c]⟩ }))
      else if o = 7 then (if lh = c then (⟨1, [], (passD k s).1⟩, (passD k s).2) else if c ∈ lq then (⟨8, [], 0⟩, { s with locks := s.locks.set i0 ⟨nm, lh, lt, lessD lq c⟩ }) else (⟨2, [], 0⟩, s))
      else if (numb v).1 = lt then (⟨1, [], lt⟩, s) else (⟨9, [], lt⟩, s))) := Lib.hid (by
      rw [HA.out.2.1]
      unfold onLockD
      rw [hpf, ← hll]
      simp only
      rw [hset ⟨nm, lh, lt, lq ++ [c]⟩ (by rw [← hll]), hset (leaveL c ⟨nm, lh, lt, lq⟩) (by rw [← hll]; rfl)]
      rfl)
    obtain ⟨nq, hnq⟩ : ∃ nq, nq = lq.length := ⟨_, rfl⟩
    rw [← hnq] at c3 hrq hown eqv
    rw [eqv] at hown
    have hgd : d ≠ g := fun e => HA.out.1.nd (by simp [Value.ownBlock, e])
    have hgG : G ≠ g := fun e => own_ne_blk HA.out.1.lk HO.out.cmd (by decide) (by simp [Value.ownBlock, e])
    have hgR : G + 1 ≠ g := fun e => own_ne_blk HA.out.1.lk HO.out.res (by decide) (by simp [Value.ownBlock, e])
    have hdl : hs[i0].d = ⟨nm, lh, lt, lq⟩ := hdi.trans hll.symm
    have HQ := Lib.hid (And.intro hl (And.intro hdl (And.intro hown (And.intro hrq (And.intro hgq (And.intro eqv (And.intro hnq hq16)))))))
    have lg := lt_of_cell c0
    clear hset hdi hdl hown hrq hgq hnk hix hpl hpf hll hok eqv hnq
    go_wp2_with fail
    refine Calls.mono HKA.out ?_
    rintro e _ ⟨rfl, rfl⟩
    go_wp2_with (refine wpList_store_new rfl (.tmp 7) (.tmp 50) rfl _ #[str nm, .int .i64 lh, .int .i64 lt, .slice Aq nq cq] _ rfl rfl rfl (by kernel_rfl) (lockA_one _ _ _ _ rfl) ?_)
    intro w5 hb5 hf5 hs5
    obtain ⟨g7, hg7⟩ : ∃ g, g = W.heap.size := ⟨_, rfl⟩
    rw [← hg7] at hb5 ⊢
    have hbr5 := HO.out.res.keep hf5 trivial
    have hbc5 := HO.out.cmd.keep hf5 trivial
    have hd5 := HA.out.1.fresh hf5
    have k0 := hf5.cellAt k0 trivial; have k3 := hf5.cellAt k3 trivial; have k5 := hf5.cellAt k5 trivial
    have kl := Nat.lt_of_lt_of_le kl hf5.size
    have x1 := hf5.cellAt x1 trivial
    have ld := hd5.blk.lt
    have c3' := hf5.cellAt c3 trivial
    have f3' := (hf5.frozen (p := ⟨g, i0 * 4 + 3, none⟩) lg trivial).trans f3
    have lg := lt_of_cell c3'
    have u1 := hb5.cell 1; have u2 := hb5.cell 2; have u3 := hb5.cell 3
    simp at u1 u2 u3
    have lu := hb5.lt
    obtain ⟨r0, r1, r2, s0, s1, s2, rl⟩ := res_facts hbr5
    have hg7g : g7 ≠ g := by omega
    have H5 := Lib.hid (And.intro hf5 (And.intro hbr5 (And.intro hbc5 (And.intro hd5 (And.intro hb5 (HO.out.fresh.then hf5))))))
    have hpl := placeOf_any _ Aq nq cq lq c w5 (HQ.out.2.2.2.1.keep (hf5.weaken fun _ _ _ => trivial)) (by have := HQ.out.2.2.2.2.2.2.1; have := HQ.out.2.2.2.2.2.2.2; omega)
    obtain ⟨pl, hpe⟩ : ∃ pl, pl = placeI lq c := ⟨_, rfl⟩
    rw [← hpe] at hpl
    have HPl := Lib.hid hpl
    have HPE := Lib.hid hpe
    clear hf5 hbr5 hbc5 hd5 hb5 hs5 hg7 hpl hpe c0 c1 c2 c3 f3 k4 x2 HKA hq16
    obtain ⟨mine, hmine⟩ : ∃ b : Bool, b = (lh == c) := ⟨_, rfl⟩
    have hst5 : Hid (DStep B F w d s w5) := Lib.hid (H5.out.2.2.2.1.stay' H5.out.2.2.2.2.2)
    have hG1 : w.heap.size ≤ G + 1 := by have := HO.out.sz; omega
    have hcs : o = 6 ∨ o = 7 ∨ o = 8 := by omega
    rcases hcs with rfl | rfl | rfl
    · have hcs : lh = c ∨ (lh ≠ c ∧ c ∈ lq) ∨ (lh ≠ c ∧ c ∉ lq) := by
        by_cases h1 : lh = c
        · exact .inl h1
        · by_cases h2 : c ∈ lq
          · exact .inr (.inl ⟨h1, h2⟩)
          · exact .inr (.inr ⟨h1, h2⟩)
      rcases hcs with rfl | ⟨h1, h2⟩ | ⟨h1, h2⟩
      · have HE : Hid (X = (⟨1, [], lt⟩, s)) := Lib.hid (by rw [HE1.out]; simp)
        go_wp2_with fail
        refine Calls.mono HPl.out ?_
        rintro e _ ⟨rfl, rfl⟩
        go_wp2_with fail
        rw [HE.out]
        exact dop_ret (w := w) rfl rfl rfl hst5.out H5.out.2.1 hG1
      · have HE : Hid (X = (⟨7, [], pl⟩, s)) := Lib.hid (by rw [HE1.out, if_pos rfl, if_neg h1, if_pos h2, HPE.out, placeI_some h2])
        have hb : (lh == c) = false := by simpa using h1
        have hp0 : (pl == 0) = false := by
          have : pl ≠ 0 := by rw [HPE.out, placeI_some h2]; omega
          simpa using this
        go_wp2_with fail
        refine Calls.mono HPl.out ?_
        rintro e _ ⟨rfl, rfl⟩
        go_wp2_with fail
        rw [HE.out]
        exact dop_ret (w := w) rfl rfl rfl hst5.out H5.out.2.1 hG1
      · have hb : (lh == c) = false := by simpa using h1
        obtain rfl : pl = 0 := by rw [HPE.out, placeI_zero h2]
        have HE : Hid (X = (⟨7, [], ((nq + 1 : Nat) : Int)⟩, { s with locks := s.locks.set i0 ⟨nm, lh, lt, lq ++ [c]⟩ })) := Lib.hid (by rw [HE1.out, if_pos rfl, if_neg h1, if_neg h2, HQ.out.2.2.2.2.2.2.1]; simp)
        clear HE1 hmine
        go_wp2_with fail
        refine Calls.mono HPl.out ?_
        rintro e _ ⟨rfl, rfl⟩
        go_upto_region 19 with (fail)
        go_cut [] (fun wz => Hid (∃ q', wz.cell? ⟨g, i0 * 4 + 3, none⟩ = some q' ∧ wz.cell? ⟨d, 1, none⟩ = some (.slice (some ⟨g, 0, none⟩) n cp) ∧ (∃ A' c', q' = .slice A' (nq + 1) c') ∧ DStep B F w d { s with locks := s.locks.set i0 ⟨nm, lh, lt, lq ++ [c]⟩ } wz ∧ Blk wz (G + 1) 49 (resA ⟨0, [], 0⟩)))
        case first =>
          have HFin : Hid (∀ w' v', w'.ownsRow B 3 1 v' (nq + 1) (ics lq ++ [.int .i64 c]) → Keep (fun k => (Value.slice Aq nq cq).ownBlock ≠ some k) w5 w' → Next w5.heap.size (.slice Aq nq cq) v' → ∃ q', (w'.setCell ⟨g, i0 * 4 + 3, none⟩ v').cell? ⟨g, i0 * 4 + 3, none⟩ = some q' ∧ (w'.setCell ⟨g, i0 * 4 + 3, none⟩ v').cell? ⟨d, 1, none⟩ = some (.slice (some ⟨g, 0, none⟩) n cp) ∧ (∃ A' c', q' = .slice A' (nq + 1) c') ∧ DStep B F w d { s with locks := s.locks.set i0 ⟨nm, lh, lt, lq ++ [c]⟩ } (w'.setCell ⟨g, i0 * 4 + 3, none⟩ v') ∧ Blk (w'.setCell ⟨g, i0 * 4 + 3, none⟩ v') (G + 1) 49 (resA ⟨0, [], 0⟩)) := Lib.hid fun w' v' ho hk hn => by
            have hl := HQ.out.1
            have hd5 := H5.out.2.2.2.1
            have hqe : hs[i0].q = .slice Aq nq cq := HQ.out.2.2.2.2.2.1
            obtain ⟨A', c', e', -⟩ := own_rd ho
            have hgq : ∀ k, (Value.slice Aq nq cq).ownBlock = some k → k ≠ g := fun k hk => HQ.out.2.2.2.2.1 k (by rw [hqe]; exact hk)
            have ho2 : w'.ownsRow B 3 1 v' (lq ++ [c]).length (ics (lq ++ [c])) := by
              rw [List.length_append, ← HQ.out.2.2.2.2.2.2.1]
              simpa [ics] using ho
            have h1 := hd5.setQ hl (g := g) (by simp [Value.ownBlock]) (w2 := w') (by rw [hqe]; exact hk) ho2 (fun k hk2 => by
              rw [hqe]
              rcases hn with h | ⟨g2, h, h3⟩
              · exact .inl (h ▸ hk2)
              · rw [h] at hk2
                injection hk2 with hk2
                exact .inr (by omega))
            rw [HQ.out.2.1] at h1
            have hdc := h1.three.2.1
            have hdq : ∀ k, (Value.slice Aq nq cq).ownBlock = some k → k ≠ d := fun k hk2 e => hd5.nq (List.getElem_mem hl) (by rw [hqe]; exact e ▸ hk2)
            have hRq : ∀ k, (Value.slice Aq nq cq).ownBlock = some k → k ≠ G + 1 := fun k hk2 e => by
              have h3 := hd5.qs _ (List.getElem_mem hl)
              exact own_ne_blk h3 H5.out.2.1 (by decide) (by rw [hqe]; exact e ▸ hk2)
            have hgF := hd5.fh g (by simp [Value.ownBlock])
            refine ⟨v', ?_, hdc, ⟨A', c', e'⟩, ⟨⟨_, _, _, _, h1, fun j hj => hj.elim .inl fun e => ?_⟩, ?_⟩, ?_⟩
            · exact World.cell?_setCell_same _ _ _ (hk.cellAt c3' fun e => hgq g e rfl)
            · rcases hn with h | ⟨g2, h, h3⟩
              · exact .inl (hd5.fq _ (List.getElem_mem hl) j (by rw [hqe]; exact h ▸ e))
              · rw [h] at e
                injection e with e
                exact .inr (by have := H5.out.2.2.2.2.2.size; omega)
            · exact (H5.out.2.2.2.2.2.comp hk (fun _ _ _ => trivial) fun j _ hj e => hj (hd5.fq _ (List.getElem_mem hl) j (by rw [hqe]; exact e))).setCell (fun _ h => h hgF) _
            · exact (H5.out.2.1.keep hk fun e => hRq _ e rfl).far (p := ⟨g, i0 * 4 + 3, none⟩) hgR _
          have hW1 : Fresh w5 ((World.drew w5).alloc (.cells #[.int .i64 c] 3)) := ((Keep.refl _ w5).drew).alloc _
          have ho1 := own_keep HQ.out.2.2.1 (H5.out.1.then hW1) fun _ _ => trivial
          have hdq : ∀ k, (Value.slice Aq nq cq).ownBlock = some k → k ≠ d := fun k hk2 e => own_ne_blk HQ.out.2.2.1 HA.out.1.blk (by decide) (e ▸ hk2)
          have hGq : ∀ k, (Value.slice Aq nq cq).ownBlock = some k → k ≠ G := fun k hk2 e => own_ne_blk HQ.out.2.2.1 HO.out.cmd (by decide) (e ▸ hk2)
          have hgq2 : ∀ k, (Value.slice Aq nq cq).ownBlock = some k → k ≠ g := fun k hk => HQ.out.2.2.2.2.1 k (by rw [HQ.out.2.2.2.2.2.1]; exact hk)
          have HN := Lib.hid (And.intro hdq (And.intro hGq hgq2))
          have HW1 := Lib.hid (And.intro hW1 (And.intro ho1 (Nat.le_trans HBW.out (H5.out.1.then hW1).size)))
          have xA := hW1.cellAt x1 trivial
          have kA := hW1.cellAt k0 trivial
          have cA := hW1.cellAt c3' trivial
          have lA := lt_of_cell cA
          have hq100 : nq ≤ 100 := by have := HQ.out.2.2.2.2.2.2.1; have := HQ.out.2.2.2.2.2.2.2; omega
          have HS : Hid (∀ w9 w', Keep (fun k => (Value.slice Aq nq cq).ownBlock ≠ some k) w5 w9 → Keep (fun k => k ≠ g) w9 w' → w'.cell? ⟨d, 1, none⟩ = some (.slice (some ⟨g, 0, none⟩) n cp) ∧ w'.cell? ⟨G, 0, none⟩ = some (.int .i64 c)) := Lib.hid fun w9 w' h1 h2 => ⟨h2.cellAt (h1.cellAt x1 fun e => HN.out.1 _ e rfl) hgd, h2.cellAt (h1.cellAt k0 fun e => HN.out.2.1 _ e rfl) hgG⟩
          have HC3 : Hid (∀ w9, Keep (fun k => (Value.slice Aq nq cq).ownBlock ≠ some k) w5 w9 → w9.cell? ⟨g, i0 * 4 + 3, none⟩ = some (.slice Aq nq cq) ∧ w9.frozen? ⟨g, i0 * 4 + 3, none⟩ = false ∧ g < w9.heap.size) := Lib.hid fun w9 h1 => ⟨h1.cellAt c3' fun e => HN.out.2.2 _ e rfl, (h1.frozen (p := ⟨g, i0 * 4 + 3, none⟩) lg fun e => HN.out.2.2 _ e rfl).trans f3', Nat.lt_of_lt_of_le lg h1.size⟩
          clear hW1 ho1 hdq hGq hgq2
          refine wp_region_held_drew (S := fun w' => w'.cell? ⟨d, 1, none⟩ = some (.slice (some ⟨g, 0, none⟩) n cp) ∧ w'.cell? ⟨G, 0, none⟩ = some (.int .i64 c)) (by kernel_rfl) ⟨x1, k0⟩ (fun hHeld => ?_)
          refine wpAnyH_take (i := 0) (v := .pointer (some ⟨d, 0, none⟩)) rfl (by kernel_rfl) (by kernel_rfl) (by kernel_rfl) (fun _ _ _ h => h) (Or.inl ⟨by rfl, by intro w hSw; go_simp⟩) hHeld ?_
          simp only [Act.put, List.setIfInBounds_toArray, List.set_cons_zero, List.set_cons_succ]
          refine wpAnyH_take (i := 1) (v := .pointer (some ⟨d, 0, none⟩)) rfl (by kernel_rfl) (by kernel_rfl) (by kernel_rfl) (fun _ _ _ h => h) (Or.inl ⟨by rfl, by intro w hSw; go_simp⟩) hHeld ?_
          simp only [Act.put, List.setIfInBounds_toArray, List.set_cons_zero, List.set_cons_succ]
          refine wpAnyH_take (i := 2) (v := .pointer (some ⟨d, 1, none⟩)) rfl (by kernel_rfl) (by kernel_rfl) (by kernel_rfl) (fun _ _ _ h => h) (Or.inl ⟨by rfl, by intro w hSw; go_simp⟩) hHeld ?_
          simp only [Act.put, List.setIfInBounds_toArray, List.set_cons_zero, List.set_cons_succ]
          refine wpAnyH_take (i := 3) (v := .slice (some ⟨g, 0, none⟩) n cp) rfl (by kernel_rfl) (by kernel_rfl) (by kernel_rfl) (fun _ _ _ h => h) (Or.inl ⟨by rfl, by intro w hSw; go_simp⟩) hHeld ?_
          simp only [Act.put, List.setIfInBounds_toArray, List.set_cons_zero, List.set_cons_succ]
          refine wpAnyH_take (i := 4) (v := .int .i64 (i0 : Int)) rfl (by kernel_rfl) (by kernel_rfl) (by kernel_rfl) (fun _ _ _ h => h) (Or.inl ⟨by rfl, by intro w hSw; go_simp⟩) hHeld ?_
          simp only [Act.put, List.setIfInBounds_toArray, List.set_cons_zero, List.set_cons_succ]
          refine wpAnyH_take (i := 5) (v := .pointer (some ⟨d, 0, none⟩)) rfl (by kernel_rfl) (by kernel_rfl) (by kernel_rfl) (fun _ _ _ h => h) (Or.inl ⟨by rfl, by intro w hSw; go_simp⟩) hHeld ?_
          simp only [Act.put, List.setIfInBounds_toArray, List.set_cons_zero, List.set_cons_succ]
          refine wpAnyH_take (i := 6) (v := .pointer (some ⟨d, 0, none⟩)) rfl (by kernel_rfl) (by kernel_rfl) (by kernel_rfl) (fun _ _ _ h => h) (Or.inl ⟨by rfl, by intro w hSw; go_simp⟩) hHeld ?_
          simp only [Act.put, List.setIfInBounds_toArray, List.set_cons_zero, List.set_cons_succ]
          refine wpAnyH_take (i := 7) (v := .pointer (some ⟨d, 1, none⟩)) rfl (by kernel_rfl) (by kernel_rfl) (by kernel_rfl) (fun _ _ _ h => h) (Or.inl ⟨by rfl, by intro w hSw; go_simp⟩) hHeld ?_
          simp only [Act.put, List.setIfInBounds_toArray, List.set_cons_zero, List.set_cons_succ]
          refine wpAnyH_take (i := 8) (v := .slice (some ⟨g, 0, none⟩) n cp) rfl (by kernel_rfl) (by kernel_rfl) (by kernel_rfl) (fun _ _ _ h => h) (Or.inl ⟨by rfl, by intro w hSw; go_simp⟩) hHeld ?_
          simp only [Act.put, List.setIfInBounds_toArray, List.set_cons_zero, List.set_cons_succ]
          refine wpAnyH_take (i := 9) (v := .int .i64 (i0 : Int)) rfl (by kernel_rfl) (by kernel_rfl) (by kernel_rfl) (fun _ _ _ h => h) (Or.inl ⟨by rfl, by intro w hSw; go_simp⟩) hHeld ?_
          simp only [Act.put, List.setIfInBounds_toArray, List.set_cons_zero, List.set_cons_succ]
          refine wpAnyH_take (i := 10) (v := .pointer (some ⟨g, i0 * 4, none⟩)) rfl (by kernel_rfl) (by kernel_rfl) (by kernel_rfl) (fun _ _ _ h => h) (Or.inl ⟨by rfl, by intro w hSw; go_simp⟩) hHeld ?_
          simp only [Act.put, List.setIfInBounds_toArray, List.set_cons_zero, List.set_cons_succ]
          refine wpAnyH_take (i := 11) (v := .pointer (some ⟨g, i0 * 4 + 3, none⟩)) rfl (by kernel_rfl) (by kernel_rfl) (by kernel_rfl) (fun _ _ _ h => h) (Or.inl ⟨by rfl, by intro w hSw; go_simp⟩) hHeld ?_
          simp only [Act.put, List.setIfInBounds_toArray, List.set_cons_zero, List.set_cons_succ]
          refine wpAnyH_take (i := 13) (v := .pointer (some ⟨G, 0, none⟩)) rfl (by kernel_rfl) (by kernel_rfl) (by kernel_rfl) (fun _ _ _ h => h) (Or.inl ⟨by rfl, by intro w hSw; go_simp⟩) hHeld ?_
          simp only [Act.put, List.setIfInBounds_toArray, List.set_cons_zero, List.set_cons_succ]
          refine wpAnyH_take (i := 14) (v := .int .i64 c) rfl (by kernel_rfl) (by kernel_rfl) (by kernel_rfl) (fun _ _ _ h => h) (Or.inl ⟨by rfl, by intro w hSw; go_simp⟩) hHeld ?_
          simp only [Act.put, List.setIfInBounds_toArray, List.set_cons_zero, List.set_cons_succ]
          refine wpAnyH_ready (rs := [12, 15]) (by kernel_rfl) (by simp) ?_
          refine AllReadyH.cons rfl (fun K hK => ?_) (AllReadyH.cons rfl (fun K hK => ?_) AllReadyH.nil)
          · go_simp
            refine hK.out _ _ hHeld (fun hHeld => ?_)
            clear hK K
            try simp only [Act.put, List.setIfInBounds_toArray, List.set_cons_zero, List.set_cons_succ]
            refine wpAnyH_ready (rs := [15]) (by kernel_rfl) (by simp) ?_
            refine AllReadyH.cons rfl (fun K hK => ?_) AllReadyH.nil
            go_simp
            refine hK.out _ _ ⟨xA, kA⟩ (fun hHeld => ?_)
            clear hK K
            try simp only [Act.put, List.setIfInBounds_toArray, List.set_cons_zero, List.set_cons_succ]
            refine wpAnyH_ready (rs := [16]) (by kernel_rfl) (by simp) ?_
            refine AllReadyH.cons rfl (fun K hK => ?_) AllReadyH.nil
            refine step_app etInt2 rfl (.tmp 83) (.tmp 86) rfl B (.slice Aq nq cq) nq (ics lq) rfl HW1.out.2.1 (fun _ => True) (some ⟨(World.drew w5).heap.size, 0, none⟩) 1 1 [.int .i64 c] rfl ((Rd.one_of (Blk.new (World.drew w5) 3 #[.int .i64 c]) rfl).weaken fun _ _ => trivial) (fun h => Nat.noConfusion h) (by simp [Value.oneCell']) (by omega) HW1.out.2.2 ?_
            intro v9 w9 ho9 hk9 hn9
            obtain ⟨A9, c9, rfl, -⟩ := own_rd ho9
            have hk59 : Keep (fun k => (Value.slice Aq nq cq).ownBlock ≠ some k) w5 w9 := HW1.out.1.comp hk9 (fun _ _ _ => trivial) fun _ _ h => h
            have hfin := HFin.out w9 _ ho9 hk59 (hn9.imp id fun ⟨g9, a9, b9⟩ => ⟨g9, a9, Nat.le_trans HW1.out.1.size b9⟩)
            have HF9 := Lib.hid hfin
            obtain ⟨c39, f39, lg9⟩ := HC3.out w9 hk59
            have h9 := HS.out w9 w9 hk59 (Keep.refl _ _)
            have HT9 := Lib.hid (HS.out w9 (w9.setCell ⟨g, i0 * 4 + 3, none⟩ (.slice A9 (nq + 1) c9)) hk59 ((Keep.refl _ w9).setCell (fun _ h => h rfl) _))
            clear ho9 hk9 hn9 hk59 hfin
            refine hK.out _ _ h9 (fun hHeld => ?_)
            clear hK K
            try simp only [Act.put, List.setIfInBounds_toArray, List.set_cons_zero, List.set_cons_succ]
            refine wpAnyH_take (i := 17) (v := .pointer (some ⟨g, i0 * 4, none⟩)) rfl (by kernel_rfl) (by kernel_rfl) (by kernel_rfl) (fun _ _ _ h => h) (Or.inl ⟨by rfl, by intro w hSw; go_simp⟩) hHeld ?_
            simp only [Act.put, List.setIfInBounds_toArray, List.set_cons_zero, List.set_cons_succ]
            refine wpAnyH_take (i := 18) (v := .pointer (some ⟨g, i0 * 4 + 3, none⟩)) rfl (by kernel_rfl) (by kernel_rfl) (by kernel_rfl) (fun _ _ _ h => h) (Or.inl ⟨by rfl, by intro w hSw; go_simp⟩) hHeld ?_
            simp only [Act.put, List.setIfInBounds_toArray, List.set_cons_zero, List.set_cons_succ]
            refine wpAnyH_ready (rs := [19]) (by kernel_rfl) (by simp) ?_
            refine AllReadyH.cons rfl (fun K hK => ?_) AllReadyH.nil
            go_simp
            refine hK.out _ _ HT9.out (fun hHeld => ?_)
            clear hK K
            try simp only [Act.put, List.setIfInBounds_toArray, List.set_cons_zero, List.set_cons_succ]
            refine wpAnyH_done (by kernel_rfl) ?_ _
            go_wp2_with fail
            go_meet
            exact HF9
          · go_simp
            refine hK.out _ _ ⟨xA, kA⟩ (fun hHeld => ?_)
            clear hK K
            try simp only [Act.put, List.setIfInBounds_toArray, List.set_cons_zero, List.set_cons_succ]
            refine wpAnyH_ready (rs := [12]) (by kernel_rfl) (by simp) ?_
            refine AllReadyH.cons rfl (fun K hK => ?_) AllReadyH.nil
            go_simp
            refine hK.out _ _ hHeld (fun hHeld => ?_)
            clear hK K
            try simp only [Act.put, List.setIfInBounds_toArray, List.set_cons_zero, List.set_cons_succ]
            refine wpAnyH_ready (rs := [16]) (by kernel_rfl) (by simp) ?_
            refine AllReadyH.cons rfl (fun K hK => ?_) AllReadyH.nil
            refine step_app etInt2 rfl (.tmp 83) (.tmp 86) rfl B (.slice Aq nq cq) nq (ics lq) rfl HW1.out.2.1 (fun _ => True) (some ⟨(World.drew w5).heap.size, 0, none⟩) 1 1 [.int .i64 c] rfl ((Rd.one_of (Blk.new (World.drew w5) 3 #[.int .i64 c]) rfl).weaken fun _ _ => trivial) (fun h => Nat.noConfusion h) (by simp [Value.oneCell']) (by omega) HW1.out.2.2 ?_
            intro v9 w9 ho9 hk9 hn9
            obtain ⟨A9, c9, rfl, -⟩ := own_rd ho9
            have hk59 : Keep (fun k => (Value.slice Aq nq cq).ownBlock ≠ some k) w5 w9 := HW1.out.1.comp hk9 (fun _ _ _ => trivial) fun _ _ h => h
            have hfin := HFin.out w9 _ ho9 hk59 (hn9.imp id fun ⟨g9, a9, b9⟩ => ⟨g9, a9, Nat.le_trans HW1.out.1.size b9⟩)
            have HF9 := Lib.hid hfin
            obtain ⟨c39, f39, lg9⟩ := HC3.out w9 hk59
            have h9 := HS.out w9 w9 hk59 (Keep.refl _ _)
            have HT9 := Lib.hid (HS.out w9 (w9.setCell ⟨g, i0 * 4 + 3, none⟩ (.slice A9 (nq + 1) c9)) hk59 ((Keep.refl _ w9).setCell (fun _ h => h rfl) _))
            clear ho9 hk9 hn9 hk59 hfin
            refine hK.out _ _ h9 (fun hHeld => ?_)
            clear hK K
            try simp only [Act.put, List.setIfInBounds_toArray, List.set_cons_zero, List.set_cons_succ]
            refine wpAnyH_take (i := 17) (v := .pointer (some ⟨g, i0 * 4, none⟩)) rfl (by kernel_rfl) (by kernel_rfl) (by kernel_rfl) (fun _ _ _ h => h) (Or.inl ⟨by rfl, by intro w hSw; go_simp⟩) hHeld ?_
            simp only [Act.put, List.setIfInBounds_toArray, List.set_cons_zero, List.set_cons_succ]
            refine wpAnyH_take (i := 18) (v := .pointer (some ⟨g, i0 * 4 + 3, none⟩)) rfl (by kernel_rfl) (by kernel_rfl) (by kernel_rfl) (fun _ _ _ h => h) (Or.inl ⟨by rfl, by intro w hSw; go_simp⟩) hHeld ?_
            simp only [Act.put, List.setIfInBounds_toArray, List.set_cons_zero, List.set_cons_succ]
            refine wpAnyH_ready (rs := [19]) (by kernel_rfl) (by simp) ?_
            refine AllReadyH.cons rfl (fun K hK => ?_) AllReadyH.nil
            go_simp
            refine hK.out _ _ HT9.out (fun hHeld => ?_)
            clear hK K
            try simp only [Act.put, List.setIfInBounds_toArray, List.set_cons_zero, List.set_cons_succ]
            refine wpAnyH_done (by kernel_rfl) ?_ _
            go_wp2_with fail
            go_meet
            exact HF9
        case rest =>
        rename World => wz
        obtain ⟨q', z3, z1, ⟨A', c', rfl⟩, hst, hbz⟩ := hcut.out
        obtain ⟨r0, r1, r2, s0, s1, s2, rl⟩ := res_facts hbz
        have lg := lt_of_cell z3
        have ld := lt_of_cell z1
        have H4 := Lib.hid (And.intro hst hbz)
        clear hst hbz hcut
        go_wp2_with fail
        rw [HE.out]
        exact dop_ret (w := w) rfl rfl rfl H4.out.1 H4.out.2 hG1
    · have hcs : lh = c ∨ (lh ≠ c ∧ c ∈ lq) ∨ (lh ≠ c ∧ c ∉ lq) := by
        by_cases h1 : lh = c
        · exact .inl h1
        · by_cases h2 : c ∈ lq
          · exact .inr (.inl ⟨h1, h2⟩)
          · exact .inr (.inr ⟨h1, h2⟩)
      rcases hcs with rfl | ⟨h1, h2⟩ | ⟨h1, h2⟩
      · have hpass := passed_any H5.out.2.2.2.1 HA.out.2.2.1 HIx.out.1 (Nat.le_trans HBW.out H5.out.1.size)
        rw [HIx.out.2] at hpass
        have HE : Hid (X = (⟨1, [], (passD k s).1⟩, (passD k s).2)) := Lib.hid (by rw [HE1.out, if_neg (by decide), if_pos rfl, if_pos rfl])
        obtain ⟨⟨p1, p2⟩, hp⟩ : ∃ P, P = passD k s := ⟨_, rfl⟩
        rw [← hp] at hpass HE
        have HPass := Lib.hid hpass
        clear hpass hp HE1
        go_wp2_with fail
        refine Calls.mono HPl.out ?_
        rintro e _ ⟨rfl, rfl⟩
        go_wp2_with fail
        refine Calls.mono HPass.out ?_
        rintro e w6 ⟨rfl, ⟨hv6, hs6, F6, hd6, hF6⟩, hk6⟩
        have hRF : ¬ F (G + 1) := fun e => by have := HO.out.sz; have := HFB.out _ e; omega
        have hb6 := H5.out.2.1.keep hk6 hRF
        have hst : DStep B F w d p2 w6 := DStep.next (F1 := F) (w1 := w5) ⟨⟨_, _, _, _, hd6, hF6⟩, hk6⟩ (fun j hj => .inl hj) (H5.out.2.2.2.2.2.weaken fun _ _ _ => trivial)
        obtain ⟨r0, r1, r2, s0, s1, s2, rl⟩ := res_facts hb6
        have H6 := Lib.hid (And.intro hst hb6)
        clear hd6 hF6 hk6 hb6 hst hRF
        go_wp2_with fail
        rw [HE.out]
        exact dop_ret (w := w) rfl rfl rfl H6.out.1 H6.out.2 hG1
      · have hb : (lh == c) = false := by simpa using h1
        have hpp : 0 < pl := by rw [HPE.out, placeI_some h2]; omega
        have HE : Hid (X = (⟨8, [], 0⟩, { s with locks := s.locks.set i0 ⟨nm, lh, lt, lessD lq c⟩ })) := Lib.hid (by rw [HE1.out, if_neg (by decide), if_pos rfl, if_neg h1, if_pos h2])
        have hq1000 : nq ≤ 1000000 := by have := HQ.out.2.2.2.2.2.2.1; have := HQ.out.2.2.2.2.2.2.2; omega
        have h0d : Fresh w5 (World.drew w5) := (Keep.refl _ w5).drew
        have HD0 := Lib.hid h0d
        have HWo := Lib.hid (without_any _ Aq nq cq lq c (World.drew w5) (HQ.out.2.2.2.1.keep ((H5.out.1.then h0d).weaken fun _ _ _ => trivial)) hq1000)
        have HKS : Hid (∀ w', Fresh w5 w' → (w'.cell? ⟨d, 1, none⟩ = some (.slice (some ⟨g, 0, none⟩) n cp) ∧ w'.cell? ⟨g7, 3, none⟩ = some (.slice Aq nq cq) ∧ w'.cell? ⟨G, 0, none⟩ = some (.int .i64 c)) ∧ ∃ u, w'.cell? ⟨g, i0 * 4 + 3, none⟩ = some u ∧ w'.frozen? ⟨g, i0 * 4 + 3, none⟩ = false ∧ g < w'.heap.size) := Lib.hid fun w' hf => ⟨⟨hf.cellAt x1 trivial, hf.cellAt u3 trivial, hf.cellAt k0 trivial⟩, _, hf.cellAt c3' trivial, (hf.frozen (p := ⟨g, i0 * 4 + 3, none⟩) lg trivial).trans f3', Nat.lt_of_lt_of_le lg hf.size⟩
        have HS : Hid (∀ w9 w', Fresh w5 w9 → Keep (fun k => k ≠ g) w9 w' → w'.cell? ⟨d, 1, none⟩ = some (.slice (some ⟨g, 0, none⟩) n cp) ∧ w'.cell? ⟨g7, 3, none⟩ = some (.slice Aq nq cq) ∧ w'.cell? ⟨G, 0, none⟩ = some (.int .i64 c)) := Lib.hid fun w9 w' h1 h2 => ⟨h2.cellAt (HKS.out w9 h1).1.1 hgd, h2.cellAt (HKS.out w9 h1).1.2.1 hg7g, h2.cellAt (HKS.out w9 h1).1.2.2 hgG⟩
        have HFin : Hid (∀ w' v', w'.ownsRow (World.drew w5).heap.size 3 1 v' (lessD lq c).length (ics (lessD lq c)) → Fresh w5 w' → DStep B F w d { s with locks := s.locks.set i0 ⟨nm, lh, lt, lessD lq c⟩ } (w'.setCell ⟨g, i0 * 4 + 3, none⟩ v') ∧ Blk (w'.setCell ⟨g, i0 * 4 + 3, none⟩ v') (G + 1) 49 (resA ⟨0, [], 0⟩)) := Lib.hid fun w' v' ho hf => by
          have hl := HQ.out.1
          have hd5 := H5.out.2.2.2.1
          have hBw : B ≤ (World.drew w5).heap.size := Nat.le_trans HBW.out H5.out.1.size
          have h3 := hd5.setQ hl (g := g) (by simp [Value.ownBlock]) (w2 := w') (hf.weaken fun _ _ _ => trivial) (own_base ho hBw) (fun k hk2 => .inr (own_lt ho hk2).1)
          rw [HQ.out.2.1] at h3
          have hgF := hd5.fh g (by simp [Value.ownBlock])
          refine ⟨⟨⟨_, _, _, _, h3, fun j hj => hj.elim .inl fun e => .inr ?_⟩, ((H5.out.2.2.2.2.2.then hf).weaken fun _ _ _ => trivial).setCell (fun _ h => h hgF) _⟩, (H5.out.2.1.keep hf trivial).far (p := ⟨g, i0 * 4 + 3, none⟩) hgR _⟩
          have h4 := (own_lt ho e).1
          have h5 := H5.out.2.2.2.2.2.size
          exact Nat.le_trans h5 h4
        clear HE1 hmine h0d
        go_wp2_with fail
        refine Calls.mono HPl.out ?_
        rintro e _ ⟨rfl, rfl⟩
        go_upto_region 27 with (fail)
        go_cut [] (fun wz => Hid (DStep B F w d { s with locks := s.locks.set i0 ⟨nm, lh, lt, lessD lq c⟩ } wz ∧ Blk wz (G + 1) 49 (resA ⟨0, [], 0⟩)))
        case first =>
          go_region_held3 (fun w' => w'.cell? ⟨d, 1, none⟩ = some (.slice (some ⟨g, 0, none⟩) n cp) ∧ w'.cell? ⟨g7, 3, none⟩ = some (.slice Aq nq cq) ∧ w'.cell? ⟨G, 0, none⟩ = some (.int .i64 c))
            (first | exact (HKS.out _ HD0.out).1 | exact (HKS.out _ hfa).1 | exact HS.out _ _ hfa ((Keep.refl _ _).setCell (fun _ h => h rfl) _))
            (first
              | (go_at_call 126; (with_reducible refine Calls.mono HWo.out ?_); rintro e wa ⟨⟨v9, rfl, hov⟩, hfb⟩; have hfa := HD0.out.then hfb; have HOv := Lib.hid (HFin.out wa _ hov hfa); obtain ⟨Av, cv, rfl, -⟩ := own_rd hov; obtain ⟨-, u9, c3a, f3a, lga⟩ := HKS.out wa hfa; clear hov))
          all_goals
            go_wp2_with fail
            go_meet
            exact HOv
        case rest =>
        rename World => wz
        obtain ⟨hst, hbz⟩ := hcut.out
        obtain ⟨r0, r1, r2, s0, s1, s2, rl⟩ := res_facts hbz
        have H4 := Lib.hid (And.intro hst hbz)
        clear hst hbz hcut
        go_wp2_with fail
        rw [HE.out]
        exact dop_ret (w := w) rfl rfl rfl H4.out.1 H4.out.2 hG1
      · have HE : Hid (X = (⟨2, [], 0⟩, s)) := Lib.hid (by rw [HE1.out, if_neg (by decide), if_pos rfl, if_neg h1, if_neg h2])
        have hb : (lh == c) = false := by simpa using h1
        obtain rfl : pl = 0 := by rw [HPE.out, placeI_zero h2]
        go_wp2_with fail
        refine Calls.mono HPl.out ?_
        rintro e _ ⟨rfl, rfl⟩
        go_wp2_with fail
        rw [HE.out]
        exact dop_ret (w := w) rfl rfl rfl hst5.out H5.out.2.1 hG1
    · have hvn := rnum_numb (hv8 rfl)
      have hn := rnumber_any v w5
      rw [hvn] at hn
      obtain ⟨nv, hnv⟩ : ∃ x, x = (numb v).1 := ⟨_, rfl⟩
      rw [← hnv] at hn
      rw [← hnv] at HE1
      have HN := Lib.hid hn
      clear hn hvn hnv hmine
      by_cases h1 : nv = lt
      · subst h1
        have HE : Hid (X = (⟨1, [], nv⟩, s)) := Lib.hid (by rw [HE1.out, if_neg (by decide), if_neg (by decide), if_pos rfl])
        clear HE1
        go_wp2_with fail
        refine Calls.mono HPl.out ?_
        rintro e _ ⟨rfl, rfl⟩
        go_wp2_with fail
        refine Calls.mono HN.out ?_
        rintro e _ ⟨rfl, rfl⟩
        go_wp2_with fail
        rw [HE.out]
        exact dop_ret (w := w) rfl rfl rfl hst5.out H5.out.2.1 hG1
      · have hb : (nv == lt) = false := by simpa using h1
        have HE : Hid (X = (⟨9, [], lt⟩, s)) := Lib.hid (by rw [HE1.out, if_neg (by decide), if_neg (by decide), if_neg h1])
        clear HE1
        go_wp2_with fail
        refine Calls.mono HPl.out ?_
        rintro e _ ⟨rfl, rfl⟩
        go_wp2_with fail
        refine Calls.mono HN.out ?_
        rintro e _ ⟨rfl, rfl⟩
        go_wp2_with fail
        rw [HE.out]
        exact dop_ret (w := w) rfl rfl rfl hst5.out H5.out.2.1 hG1
end Go.Proofs.YtohnmaindbgngaaGreatDoor
