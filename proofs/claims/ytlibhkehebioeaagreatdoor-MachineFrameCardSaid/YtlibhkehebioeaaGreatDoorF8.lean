/-
  MERGED: Leave Names Sess Ask
-/
import Derived.Test.YtlibhkehebioeaaGreatDoorF7
import Derived.Test.YtlibhkehebioeaaGreatDoorF5
import Derived.BigRegion
namespace Go.Proofs.YtlibhkehebioeaaGreatDoor
set_option linter.unusedVariables false
set_option linter.unusedSimpArgs false
open Go.RowKit

set_option maxRecDepth 20000 in
theorem leave_any (S : Nat → Prop) (c : Int) (x : LkM) (w : World) (hx : LkIs S w x) (hnd : x.d.queue.Nodup) (hql : x.d.queue.length ≤ 1000) :
    Calls Tryz.prog 71 #[.pointer (some ⟨x.h, 0, none⟩), .int .i64 c] w fun e w' => e = .returned (.bool (decide (c ∈ x.d.queue))) ∧
      (∃ v', LkIs (fun j => S j ∨ w.heap.size ≤ j) w' ⟨leaveL c x.d, x.h, v'⟩ ∧ Next w.heap.size x.v v') ∧ Keep (fun j => j ≠ x.h) w w' := by
  have HI := Lib.hid (index_any x.d.queue c w hx.row)
  obtain ⟨q, hq⟩ : ∃ q, q = x.d.queue := ⟨_, rfl⟩
  obtain ⟨h, hh⟩ : ∃ h, h = x.h := ⟨_, rfl⟩
  obtain ⟨v, hv⟩ : ∃ v, v = x.v := ⟨_, rfl⟩
  obtain ⟨y0, y1, y2⟩ := hx.cells
  rw [← hh, ← hv] at y2
  rw [← hv, ← hq] at HI
  have hhl := hx.lt
  have fr2 := hx.blk.frozen 2
  rw [← hh] at hhl fr2
  have HA := Lib.hid (And.intro hx (And.intro hnd (And.intro hql (And.intro hq (And.intro hh hv)))))
  rw [← hq, ← hh, ← hv]
  clear hx hnd hql hq hh y0 y1 hv
  by_cases hc : c ∈ q
  · have hi := idx_mem hc
    obtain ⟨i, hidx⟩ : ∃ i, i = q.idxOf c := ⟨_, rfl⟩
    rw [← hidx] at hi
    have hil : i < q.length := hidx ▸ List.idxOf_lt_length_of_mem hc
    have hb : i ≤ 1000 := by have := HA.out.2.2.1; have := HA.out.2.2.2.1; subst this; omega
    rw [hi] at HI
    have HX := Lib.hid (And.intro hidx (And.intro hil hc))
    clear hi hidx hil
    have HC := Lib.hid (fun (hq0 : 0 < q.length) (w : World) (h : OwnAt w 0 3 v q.length (ics q)) (hb : q.length ≤ 1000) => clone_any q w h hq0 hb)
    go_enter Tryz.func71, Tryz.ntmps71
    go_wp2_with fail
    refine HI.out.mono ?_
    rintro e _ ⟨rfl, rfl⟩
    go_wp2_with fail
    refine (HC.out (by have := HX.out.2.1; omega) _ (by have h1 := HA.out.1.row; have h2 := HA.out.2.2.2.1; have h3 := HA.out.2.2.2.2.2; rw [← h2, ← h3] at h1; exact h1) (by have h1 := HA.out.2.2.1; have h2 := HA.out.2.2.2.1; rw [← h2] at h1; exact h1)).mono ?_
    rintro e w1 ⟨v1, rfl, ho1, f1⟩
    have z2 := f1.cellAt y2 trivial
    have zf := (f1.frozen (p := ⟨h, 2, none⟩) hhl trivial).trans fr2
    have zl : h < w1.heap.size := Nat.lt_of_lt_of_le hhl f1.size
    have HO := Lib.hid (And.intro ho1 f1)
    have HD := Lib.hid (delete_any q c v1 w.heap.size w1 (by have h1 := HA.out.2.1; have h2 := HA.out.2.2.2.1; rw [← h2] at h1; exact h1) hc ho1)
    rw [← HX.out.1] at HD
    clear ho1 f1 y2 fr2 HI
    go_wp2_with fail
    refine HD.out.mono ?_
    rintro e w2 ⟨v2, rfl, ho2, hv2, hk2⟩
    obtain ⟨hw1, hf1⟩ := HO.out
    have hne : v1.ownBlock ≠ some h := fun e => by have := (own_lt hw1 e).1; omega
    have z2b := hk2.cellAt z2 hne
    have zfb := (hk2.frozen (p := ⟨h, 2, none⟩) zl hne).trans zf
    obtain ⟨A2, c2, rfl, -, -, -⟩ := ho2.rd
    have H2 := Lib.hid (And.intro ho2 (And.intro hv2 hk2))
    have zlb : h < w2.heap.size := Nat.lt_of_lt_of_le zl hk2.size
    clear z2 zf ho2 hv2 hk2 HD hw1 hf1 hne
    go_wp2
    go_ret
    obtain ⟨hx, hnd, hql, hq, hh, hv⟩ := HA.out
    obtain ⟨ho1, hf1⟩ := HO.out
    obtain ⟨ho2, hv2, hk2⟩ := H2.out
    obtain ⟨V2, hV2⟩ : ∃ V2, V2 = Value.slice A2 (q.filter fun y => !(y == c)).length c2 := ⟨_, rfl⟩
    rw [← hV2] at ho2 hv2 ⊢
    obtain ⟨g1, cap1, hv1, hb1, -, -⟩ := own_nonnil ho1 (by have := HX.out.2.1; omega)
    have hVo : V2.ownBlock = some g1 := by rw [hv2, hv1]; rfl
    have hgh : g1 ≠ h := by omega
    have hne : v1.ownBlock ≠ some h := by rw [← hv2, hVo]; intro e; injection e with e; exact hgh e
    have hk : Keep (fun j => j ≠ h) w (w2.setCell ⟨h, 2, none⟩ V2) := ((hf1.comp hk2 (fun _ _ _ => trivial) (fun j hj _ e => by rw [← hv2, hVo] at e; injection e with e; omega)).weaken (fun _ _ _ => trivial)).setCell (fun _ e => e rfl) _
    refine ⟨ret_bool (by simp [hc]), ⟨V2, ⟨?_, ?_, .inl (by rw [hh]; exact hx.sh), fun k hk => .inr ?_⟩, .inr ⟨g1, hVo, hb1⟩⟩, hk⟩
    · have b0 := hx.blk
      rw [← hh, ← hv] at b0
      have b1 := ((b0.keep hf1 trivial).keep hk2 hne).set 2 V2
      exact b1
    · have h1 : OwnAt w2 0 3 V2 (leaveL c x.d).queue.length (ics (leaveL c x.d).queue) := by
        unfold leaveL
        rw [← hq]
        exact ho2.lower (Nat.zero_le _)
      exact h1.far (by rw [hVo]; intro e; injection e with e; exact hgh e) _
    · rw [hVo] at hk
      injection hk with hk
      omega
  · have hi := idx_none hc
    rw [hi] at HI
    go_enter Tryz.func71, Tryz.ntmps71
    go_wp2_with fail
    refine HI.out.mono ?_
    rintro e _ ⟨rfl, rfl⟩
    go_wp2
    go_ret
    obtain ⟨hx, hnd, hql, hq, hh, hv⟩ := HA.out
    have hl : leaveL c x.d = x.d := by
      unfold leaveL
      rw [← hq, List.filter_eq_self.2 fun y hy => by
        have : y ≠ c := fun e => hc (e ▸ hy)
        simpa using this]
      rw [hq]
    refine ⟨ret_bool (by simp [hc]), ⟨v, ?_, Next.refl _ _⟩, Keep.refl _ _⟩
    rw [hl, hh, hv]
    exact hx.widen fun _ h => .inl h
end Go.Proofs.YtlibhkehebioeaaGreatDoor
namespace Go.Proofs.YtlibhkehebioeaaGreatDoor
set_option linter.unusedVariables false
set_option linter.unusedSimpArgs false
open Go.RowKit

theorem str_info : (Tryz.prog.info? 9).map (fun i => (i.zero, i.size, i.bytes)) = some (some (str []), 1, 16) := by kernel_rfl
theorem etStr : ET Tryz.prog 50 9 1 16 (str []) := ⟨Tryz.underlying50, str_info, rfl, by decide, by decide⟩
structure NamesAt (P : Program) (w wr : World) (b r : Nat) (ps : List Kv) (l : Value) (xs todo : List Txt) : Prop where
  rng : RangeIs P 9 wr b r ps todo
  own : wr.ownsRow w.heap.size 9 1 l xs.length (xs.map str)
  perm : (xs ++ todo).Perm (ps.map Prod.fst)
  fresh : Fresh w wr
theorem range_ne_own {P : Program} {k : TypeId} {w : World} {b r base e s n : Nat} {ps : List Kv} {todo : List Txt} {v : Value} {xs : List Value} (h : RangeIs P k w b r ps todo) (ho : w.ownsRow base e s v n xs) : v.ownBlock ≠ some r := by
  obtain ⟨cnt, h⟩ := h
  exact fun e => row_ne_iter ho h e.symm
theorem perm_step {xs todo ks : List Txt} {t : Txt} (h : (xs ++ todo).Perm ks) (ht : t ∈ todo) (hn : todo.Nodup) : ((xs ++ [t]) ++ todo.filter fun x => !(x == t)).Perm ks := by
  refine List.Perm.trans ?_ h
  rw [List.append_assoc]
  refine List.Perm.append_left _ ?_
  have e : (todo.filter fun x => !(x == t)) = todo.erase t := by
    rw [hn.erase_eq_filter]
    refine List.filter_congr fun y _ => ?_
    simp [bne]
  rw [e]
  exact (List.perm_cons_erase ht).symm

set_option maxRecDepth 20000 in
theorem names_s_any (b : Nat) (ps : List Kv) (w : World) (h : MapIs Tryz.prog 9 w b ps) (hr : Rise (ps.map Prod.fst)) (hn : ps.length ≤ 1000) :
    Calls Tryz.prog 54 #[.map (some b)] w fun e w' => (∃ v, e = .returned v ∧ w'.ownsRow w.heap.size 9 1 v ps.length ((ps.map Prod.fst).map str)) ∧ Fresh w w' := by
  have HA := Lib.hid (And.intro h (And.intro hr hn))
  have hbl := h.lt
  clear h hr hn
  go_enter Tryz.func54, Tryz.ntmps54
  go_wp2_with (at_range; refine wpList_rangeIs rfl (.tmp 5) rfl Tryz.underlying9 Tryz.underlying87 rfl HA.out.1 ?_)
  intro w0 hr0 hk0 hs0
  have HR0 := Lib.hid (And.intro hr0 hk0)
  clear hr0 hk0
  go_wp2_with fail
  go_loopw [3] (fun l wr => ∃ xs todo, Hid (NamesAt Tryz.prog w wr b w.heap.size ps l xs todo)) (fun _ wr => wr.rangeLeft b w.heap.size)
  case atStart => exact ⟨[], ps.map Prod.fst, Lib.hid ⟨HR0.out.1, by exact World.ownsRow_nil _ _ _ _, by simp, HR0.out.2⟩⟩
  case round =>
    rename World => wr
    obtain ⟨xs, todo, HW⟩ := hrel
    go_wp2_with (at_next; refine wpList_nextIs rfl (.tmp 6) rfl Tryz.underlying9 rfl HW.out.1 ?_ ?_)
    · intro hd
      have HP : Hid (xs.Perm (ps.map Prod.fst) ∧ xs.length = ps.length) := by
        have h1 := HW.out.perm
        rw [hd, List.append_nil] at h1
        exact ⟨h1, by have := h1.length_eq; simpa using this⟩
      have HS := Lib.hid (sortS_any w.heap.size _ xs wr HW.out.own (by have := HP.out.2; have := HA.out.2.2; omega))
      clear hd
      go_wp2_with fail
      refine HS.out.mono ?_
      rintro e w2 ⟨rfl, ho2, hk2⟩
      rw [sort_rise HA.out.2.1 HP.out.1, HP.out.2] at ho2
      have HO := Lib.hid (And.intro ho2 hk2)
      clear ho2 hk2
      go_wp2
      go_ret
      exact ⟨⟨_, rfl, HO.out.1⟩, HW.out.fresh.comp HO.out.2 (fun _ _ h => h) (fun i hi _ e => by have := (own_lt HW.out.own e).1; omega)⟩
    · intro t v w1 ht hv hr1 hk1 hs1 hlt hen
      have ho1 := own_keep HW.out.own hk1 (fun k hk e => range_ne_own HW.out.rng HW.out.own (e ▸ hk))
      have hb1 : w.heap.size ≤ w1.heap.size := by have := HW.out.fresh.size; omega
      have hxl : xs.length ≤ 1000 := by
        have h1 := HW.out.perm.length_eq
        have h2 := HA.out.2.2
        simp at h1
        omega
      have HS := Lib.hid (And.intro ht (And.intro hr1 (And.intro hk1 (And.intro hs1 (And.intro ho1 (And.intro hb1 hlt))))))
      clear ht hr1 hk1 hv hs1 ho1 hb1 hlt
      go_wp2_with (at_builtin; refine wpList_app1 etStr rfl (.tmp 11) (.tmp 13) rfl (str t) _ rfl w.heap.size _ xs.length (xs.map str) rfl rfl HS.out.2.2.2.2.1 (by omega) HS.out.2.2.2.2.2.1 ?_)
      intro v2 w2 ho2 hk2 hn2
      have H2 := Lib.hid (And.intro ho2 (And.intro hk2 hn2))
      clear ho2 hk2 hn2
      go_wp2
      obtain ⟨ht, hr1, hk1, hs1, ho1, hb1, hlt⟩ := HS.out
      obtain ⟨ho2, hk2, hn2⟩ := H2.out
      have hnr := range_ne_own hr1 ho1
      have hnb := (fun e => by have := (own_lt ho1 e).1; omega : ¬ Value.ownBlock _ = some b)
      have hnd : todo.Nodup := (List.nodup_append.1 (HW.out.perm.nodup_iff.2 HA.out.2.1.nodup)).2.1
      refine ⟨⟨xs ++ [t], _, Lib.hid ⟨hr1.keep hk2 hnb hnr, by simpa using ho2, perm_step HW.out.perm ht hnd, (HW.out.fresh.comp hk1 (fun _ _ h => h) (fun i hi _ => by omega)).comp hk2 (fun _ _ h => h) (fun i hi _ e => by have := (own_lt ho1 e).1; omega)⟩⟩, ?_⟩
      rw [hr1.left hk2 hnb hnr]
      exact hlt

set_option maxRecDepth 20000 in
theorem names_l_any (b : Nat) (ps : List Kv) (w : World) (h : MapIs Tryz.prog 9 w b ps) (hr : Rise (ps.map Prod.fst)) (hn : ps.length ≤ 1000) :
    Calls Tryz.prog 55 #[.map (some b)] w fun e w' => (∃ v, e = .returned v ∧ w'.ownsRow w.heap.size 9 1 v ps.length ((ps.map Prod.fst).map str)) ∧ Fresh w w' := by
  have HA := Lib.hid (And.intro h (And.intro hr hn))
  have hbl := h.lt
  clear h hr hn
  go_enter Tryz.func55, Tryz.ntmps55
  go_wp2_with (at_range; refine wpList_rangeIs rfl (.tmp 5) rfl Tryz.underlying9 Tryz.underlying88 rfl HA.out.1 ?_)
  intro w0 hr0 hk0 hs0
  have HR0 := Lib.hid (And.intro hr0 hk0)
  clear hr0 hk0
  go_wp2_with fail
  go_loopw [3] (fun l wr => ∃ xs todo, Hid (NamesAt Tryz.prog w wr b w.heap.size ps l xs todo)) (fun _ wr => wr.rangeLeft b w.heap.size)
  case atStart => exact ⟨[], ps.map Prod.fst, Lib.hid ⟨HR0.out.1, by exact World.ownsRow_nil _ _ _ _, by simp, HR0.out.2⟩⟩
  case round =>
    rename World => wr
    obtain ⟨xs, todo, HW⟩ := hrel
    go_wp2_with (at_next; refine wpList_nextIs rfl (.tmp 6) rfl Tryz.underlying9 rfl HW.out.1 ?_ ?_)
    · intro hd
      have HP : Hid (xs.Perm (ps.map Prod.fst) ∧ xs.length = ps.length) := by
        have h1 := HW.out.perm
        rw [hd, List.append_nil] at h1
        exact ⟨h1, by have := h1.length_eq; simpa using this⟩
      have HS := Lib.hid (sortS_any w.heap.size _ xs wr HW.out.own (by have := HP.out.2; have := HA.out.2.2; omega))
      clear hd
      go_wp2_with fail
      refine HS.out.mono ?_
      rintro e w2 ⟨rfl, ho2, hk2⟩
      rw [sort_rise HA.out.2.1 HP.out.1, HP.out.2] at ho2
      have HO := Lib.hid (And.intro ho2 hk2)
      clear ho2 hk2
      go_wp2
      go_ret
      exact ⟨⟨_, rfl, HO.out.1⟩, HW.out.fresh.comp HO.out.2 (fun _ _ h => h) (fun i hi _ e => by have := (own_lt HW.out.own e).1; omega)⟩
    · intro t v w1 ht hv hr1 hk1 hs1 hlt hen
      have ho1 := own_keep HW.out.own hk1 (fun k hk e => range_ne_own HW.out.rng HW.out.own (e ▸ hk))
      have hb1 : w.heap.size ≤ w1.heap.size := by have := HW.out.fresh.size; omega
      have hxl : xs.length ≤ 1000 := by
        have h1 := HW.out.perm.length_eq
        have h2 := HA.out.2.2
        simp at h1
        omega
      have HS := Lib.hid (And.intro ht (And.intro hr1 (And.intro hk1 (And.intro hs1 (And.intro ho1 (And.intro hb1 hlt))))))
      clear ht hr1 hk1 hv hs1 ho1 hb1 hlt
      go_wp2_with (at_builtin; refine wpList_app1 etStr rfl (.tmp 11) (.tmp 13) rfl (str t) _ rfl w.heap.size _ xs.length (xs.map str) rfl rfl HS.out.2.2.2.2.1 (by omega) HS.out.2.2.2.2.2.1 ?_)
      intro v2 w2 ho2 hk2 hn2
      have H2 := Lib.hid (And.intro ho2 (And.intro hk2 hn2))
      clear ho2 hk2 hn2
      go_wp2
      obtain ⟨ht, hr1, hk1, hs1, ho1, hb1, hlt⟩ := HS.out
      obtain ⟨ho2, hk2, hn2⟩ := H2.out
      have hnr := range_ne_own hr1 ho1
      have hnb := (fun e => by have := (own_lt ho1 e).1; omega : ¬ Value.ownBlock _ = some b)
      have hnd : todo.Nodup := (List.nodup_append.1 (HW.out.perm.nodup_iff.2 HA.out.2.1.nodup)).2.1
      refine ⟨⟨xs ++ [t], _, Lib.hid ⟨hr1.keep hk2 hnb hnr, by simpa using ho2, perm_step HW.out.perm ht hnd, (HW.out.fresh.comp hk1 (fun _ _ h => h) (fun i hi _ => by omega)).comp hk2 (fun _ _ h => h) (fun i hi _ e => by have := (own_lt ho1 e).1; omega)⟩⟩, ?_⟩
      rw [hr1.left hk2 hnb hnr]
      exact hlt
end Go.Proofs.YtlibhkehebioeaaGreatDoor
namespace Go.Proofs.YtlibhkehebioeaaGreatDoor
set_option linter.unusedVariables false
set_option linter.unusedSimpArgs false
open Go.RowKit

theorem mcell_head {bp bl : Nat} {tok : Int} {ss : List MSess} : (mcells bp bl tok ss)[0]? = some (.map (some bp)) ∧ (mcells bp bl tok ss)[1]? = some (.map (some bl)) := ⟨rfl, rfl⟩
theorem mcell_sess {bp bl : Nat} {tok : Int} {ss : List MSess} {q j : Nat} (hq : q < ss.length) (hj : j < 5) : (mcells bp bl tok ss)[3 + q * 5 + j]? = ss[q].cells[j]? := by
  unfold mcells
  rw [List.getElem?_append_right (by simp; omega)]
  simp only [List.length_cons, List.length_nil]
  rw [show 3 + q * 5 + j - (0 + 1 + 1 + 1) = q * 5 + j by omega]
  exact rcells_get sess_five ss q hq j hj
theorem mcell_put {bp bl : Nat} {tok : Int} {ss : List MSess} {q j : Nat} (hq : q < ss.length) (hj : j < 5) (u : Value) (p : MSess) (hp : p.cells = ss[q].cells.set j u) :
    (mcells bp bl tok ss).toArray.setIfInBounds (3 + q * 5 + j) u = (mcells bp bl tok (ss.set q p)).toArray := by
  rw [List.setIfInBounds_toArray]
  unfold mcells
  rw [List.set_append_right _ _ (by simp; omega)]
  simp only [List.length_cons, List.length_nil]
  rw [show 3 + q * 5 + j - (0 + 1 + 1 + 1) = q * 5 + j by omega]
  rw [rcells_set sess_five ss q hq j u p hj hp]
theorem mcells_store {bp bl : Nat} {tok : Int} {ss : List MSess} {q : Nat} (hq : q < ss.length) (i r : Int) (R : MRes) :
    ((((((mcells bp bl tok ss).toArray.setIfInBounds (3 + q * 5) (.int .i64 i)).setIfInBounds (3 + q * 5 + 1) (.int .i64 r)).setIfInBounds (3 + q * 5 + 2) (.int .i64 R.code)).setIfInBounds (3 + q * 5 + 3) (str R.val)).setIfInBounds (3 + q * 5 + 4) (.int .i64 R.n)) = (mcells bp bl tok (ss.set q ⟨i, r, R⟩)).toArray := by
  have l1 : q < (ss.set q ⟨i, ss[q].req, ss[q].last⟩).length := by simpa using hq
  have l2 : q < (ss.set q ⟨i, r, ss[q].last⟩).length := by simpa using hq
  have l3 : q < (ss.set q ⟨i, r, ⟨R.code, ss[q].last.val, ss[q].last.n⟩⟩).length := by simpa using hq
  have l4 : q < (ss.set q ⟨i, r, ⟨R.code, R.val, ss[q].last.n⟩⟩).length := by simpa using hq
  have e0 : (mcells bp bl tok ss).toArray.setIfInBounds (3 + q * 5) (.int .i64 i) = _ := mcell_put (j := 0) hq (by omega) (.int .i64 i) ⟨i, ss[q].req, ss[q].last⟩ rfl
  rw [e0, mcell_put (j := 1) l1 (by omega) _ ⟨i, r, ss[q].last⟩ (by simp [MSess.cells]), List.set_set,
    mcell_put (j := 2) l2 (by omega) _ ⟨i, r, ⟨R.code, ss[q].last.val, ss[q].last.n⟩⟩ (by simp [MSess.cells]), List.set_set,
    mcell_put (j := 3) l3 (by omega) _ ⟨i, r, ⟨R.code, R.val, ss[q].last.n⟩⟩ (by simp [MSess.cells]), List.set_set,
    mcell_put (j := 4) l4 (by omega) _ ⟨i, r, R⟩ (by simp [MSess.cells]), List.set_set]

end Go.Proofs.YtlibhkehebioeaaGreatDoor
namespace Go.Proofs.YtlibhkehebioeaaGreatDoor
set_option linter.unusedVariables false
set_option linter.unusedSimpArgs false
open Go.RowKit

theorem newm_any (w : World) : Calls Tryz.prog 14 #[] w fun e w' => (∃ m bp bl : Nat, e = .returned (.pointer (some ⟨m, 0, none⟩)) ∧ MSt (fun j => j = bl) w' m bp bl newD ∧ w.heap.size ≤ m ∧ w.heap.size ≤ bp ∧ w.heap.size ≤ bl) ∧ Fresh w w' := by
  refine (new_any w).mono ?_
  rintro e w' ⟨⟨m, bp, bl, rfl, hm, h1, h2, h3⟩, hf⟩
  refine ⟨⟨m, bp, bl, rfl, ⟨hm.blk, by simp [newD], hm.pm, ⟨[], hm.lm, (fun x hx => by cases hx), List.Pairwise.nil, rfl, rfl⟩, fun e => ?_, fun e => ?_⟩, h1, h2, h3⟩, hf⟩
  · exact hm.lm.ne_blk hm.blk e.symm
  · exact hm.ne e

/-! ### Session -/
def sesA (z : SesD) : Array Value := #[.int .i64 z.inc, .int .i64 z.req, .int .i64 z.last.code, str z.last.val, .int .i64 z.last.n]
abbrev sesV (z : SesD) : Value := .agg (sesA z)
/-- What 'Session' tells. -/
def sessD (q : Int) (s : StD) : SesD × Bool := if q < 0 ∨ 16 ≤ q ∨ (s.ss.getD q.toNat noSes).inc = 0 then (noSes, false) else (s.ss.getD q.toNat noSes, true)
theorem MSt.ses {S : Nat → Prop} {w : World} {m bp bl : Nat} {s : StD} (h : MSt S w m bp bl s) {q : Nat} (hq : q < 16) (j : Nat) (hj : j < 5) : w.cell? ⟨m, 3 + q * 5 + j, none⟩ = (MSess.cells (s.ss.getD q noSes))[j]? := by
  have hqs : q < s.ss.length := by rw [h.len]; exact hq
  rw [h.cell, mcell_sess hqs hj, List.getD_eq_getElem?_getD, List.getElem?_eq_getElem hqs]
  rfl

/-- Five cells are stored into a block that the call made. -/
def sesStored (w : World) (g : Nat) (z : SesD) : World := ((((w.setCell ⟨g, 0, none⟩ (.int .i64 z.inc)).setCell ⟨g, 1, none⟩ (.int .i64 z.req)).setCell ⟨g, 2, none⟩ (.int .i64 z.last.code)).setCell ⟨g, 3, none⟩ (str z.last.val)).setCell ⟨g, 4, none⟩ (.int .i64 z.last.n)
theorem ses_stored {w W : World} {g : Nat} {cs : Array Value} (hf : Fresh w W) (hb : Blk W g 41 cs) (hc : cs = sesA noSes) (hg : g = w.heap.size) (z : SesD) : Blk (sesStored W g z) g 41 (sesA z) ∧ Fresh w (sesStored W g z) := by
  subst hc
  have h : g < w.heap.size → ¬ True := fun h => absurd h (by rw [hg]; exact Nat.lt_irrefl _)
  exact ⟨((((hb.set 0 _).set 1 _).set 2 _).set 3 _).set 4 _, ((((hf.setCell h _).setCell h _).setCell h _).setCell h _).setCell h _⟩

set_option maxRecDepth 20000 in
theorem session_any (S : Nat → Prop) (m bp bl : Nat) (s : StD) (q : Int) (w : World) (hm : MSt S w m bp bl s) :
    Calls Tryz.prog 20 #[.pointer (some ⟨m, 0, none⟩), .int .i64 q] w fun e w' => e = .returned (.tuple #[sesV (sessD q s).1, .bool (sessD q s).2]) ∧ Fresh w w' := by
  obtain ⟨X, hX⟩ : ∃ X, X = sessD q s := ⟨_, rfl⟩
  rw [← hX]
  obtain ⟨G, hG⟩ : ∃ G, G = w.heap.size := ⟨_, rfl⟩
  obtain ⟨W, hW⟩ : ∃ W, W = w.alloc (.cells #[.int .i64 0, .int .i64 0, .int .i64 0, str [], .int .i64 0] 41) := ⟨_, rfl⟩
  have hf : Fresh w W := hW ▸ (Keep.refl _ w).alloc _
  have hb : Blk W G 41 #[.int .i64 0, .int .i64 0, .int .i64 0, str [], .int .i64 0] := by rw [hW, hG]; exact Blk.new _ _ _
  have c0 := hb.cell 0; have c1 := hb.cell 1; have c2 := hb.cell 2; have c3 := hb.cell 3; have c4 := hb.cell 4
  have z0 := hb.frozen 0; have z1 := hb.frozen 1; have z2 := hb.frozen 2; have z3 := hb.frozen 3; have z4 := hb.frozen 4
  have gl := hb.lt
  simp at c0 c1 c2 c3 c4
  have hmW := hm.fresh hf
  have ml := hmW.blk.lt
  have HB := Lib.hid (And.intro hf (And.intro hb (And.intro hmW (And.intro hX hG))))
  by_cases h1 : q < 0
  · clear hf hb hmW hX hm
    go_enter Tryz.func20, Tryz.ntmps20
    go_upto_region 1 with (fail)
    simp only [← hG]
    rw [← hW]
    clear hW hG
    go_wp2_with fail
    obtain ⟨hf, hb, hmW, hX, hG⟩ := HB.out
    have e : X = (noSes, false) := by rw [hX]; unfold sessD; rw [if_pos (by omega)]
    rw [e]
    obtain ⟨hb5, hf5⟩ := ses_stored hf hb rfl hG noSes
    refine bodyPost_ret (results_blk rfl _ _ G 41 (sesA noSes) _ (.bool false) rfl hb5 Tryz.underlying41 rfl (by kernel_rfl) rfl) rfl ?_
    exact ⟨rfl, hf5⟩
  · by_cases h2 : 16 ≤ q
    · clear hf hb hmW hX hm
      go_enter Tryz.func20, Tryz.ntmps20
      go_upto_region 1 with (fail)
      simp only [← hG]
      rw [← hW]
      clear hW hG
      go_wp2_with fail
      obtain ⟨hf, hb, hmW, hX, hG⟩ := HB.out
      have e : X = (noSes, false) := by rw [hX]; unfold sessD; rw [if_pos (by omega)]
      rw [e]
      obtain ⟨hb5, hf5⟩ := ses_stored hf hb rfl hG noSes
      refine bodyPost_ret (results_blk rfl _ _ G 41 (sesA noSes) _ (.bool false) rfl hb5 Tryz.underlying41 rfl (by kernel_rfl) rfl) rfl ?_
      exact ⟨rfl, hf5⟩
    · obtain ⟨n, rfl⟩ : ∃ n : Nat, q = (n : Int) := ⟨q.toNat, by omega⟩
      have hn : n < 16 := by omega
      obtain ⟨z, hz⟩ : ∃ z, z = s.ss.getD n noSes := ⟨_, rfl⟩
      have s0 := hmW.ses hn 0 (by omega)
      have s1 := hmW.ses hn 1 (by omega)
      have s2 := hmW.ses hn 2 (by omega)
      have s3 := hmW.ses hn 3 (by omega)
      have s4 := hmW.ses hn 4 (by omega)
      rw [← hz] at s0 s1 s2 s3 s4
      simp [MSess.cells] at s0 s1 s2 s3 s4
      have HZ := Lib.hid hz
      clear hf hb hmW hX hm hz
      by_cases h3 : z.inc = 0
      · go_enter Tryz.func20, Tryz.ntmps20
        go_upto_region 1 with (fail)
        simp only [← hG]
        rw [← hW]
        clear hW hG
        go_wp2_with fail
        obtain ⟨hf, hb, hmW, hX, hG⟩ := HB.out
        have e : X = (noSes, false) := by rw [hX]; unfold sessD; rw [show ((n : Int)).toNat = n by omega, ← HZ.out, if_pos (.inr (.inr h3))]
        rw [e]
        obtain ⟨hb5, hf5⟩ := ses_stored hf hb rfl hG noSes
        refine bodyPost_ret (results_blk rfl _ _ G 41 (sesA noSes) _ (.bool false) rfl hb5 Tryz.underlying41 rfl (by kernel_rfl) rfl) rfl ?_
        exact ⟨rfl, hf5⟩
      · go_enter Tryz.func20, Tryz.ntmps20
        go_upto_region 1 with (fail)
        simp only [← hG]
        rw [← hW]
        clear hW hG
        go_wp2_with fail
        obtain ⟨hf, hb, hmW, hX, hG⟩ := HB.out
        have e : X = (z, true) := by rw [hX]; unfold sessD; rw [show ((n : Int)).toNat = n by omega, ← HZ.out, if_neg (by omega)]
        rw [e]
        obtain ⟨hb5, hf5⟩ := ses_stored hf hb rfl hG z
        refine bodyPost_ret (results_blk rfl _ _ G 41 (sesA z) _ (.bool true) rfl hb5 Tryz.underlying41 rfl (by kernel_rfl) rfl) rfl ?_
        exact ⟨rfl, hf5⟩

/-! ### Locks, Holder -/
theorem lks_rise {S : Nat → Prop} {w : World} {bl : Nat} {ms : List LkM} {ls : List LockD} (h : Lks S w bl ms ls) : (ms.map LkM.kv).map Prod.fst = ls.map LockD.name := by
  rw [← h.keys, List.map_map]
  rfl
theorem locks_any (S : Nat → Prop) (m bp bl : Nat) (s : StD) (w : World) (hm : MSt S w m bp bl s) (hi : LInv s.locks s.tok) :
    Calls Tryz.prog 31 #[.pointer (some ⟨m, 0, none⟩)] w fun e w' => (∃ v, e = .returned v ∧ w'.ownsRow w.heap.size 9 1 v s.locks.length ((s.locks.map LockD.name).map str)) ∧ Fresh w w' := by
  obtain ⟨ms, hl⟩ := hm.lk
  obtain ⟨-, x1, -⟩ := hm.three
  have ml := hm.blk.lt
  have hk := lks_rise hl
  have HN := names_l_any bl (ms.map LkM.kv) w hl.map (by rw [hk]; exact hi.rise) (by rw [hl.len]; have := hi.len; omega)
  rw [hk, hl.len] at HN
  replace HN := Lib.hid HN
  clear hm hi hl hk
  go_enter Tryz.func31, Tryz.ntmps31
  go_wp2_with fail
  refine HN.out.mono ?_
  rintro e w' ⟨⟨v, rfl, ho⟩, hf⟩
  have H := Lib.hid (And.intro ho hf)
  clear ho hf
  go_wp2_with fail
  go_ret
  exact ⟨⟨v, rfl, H.out.1⟩, H.out.2⟩
abbrev holdA (h : Int × Int × Int) : Array Value := #[.int .i64 h.1, .int .i64 h.2.1, .int .i64 h.2.2]
/-- What 'Holder' tells: the client, its incarnation, the token. -/
def holdD (k : Txt) (s : StD) : (Int × Int × Int) × Bool := match lfind k s.locks with
  | none => ((0, 0, 0), false)
  | some l => ((l.holder, (s.ss.getD l.holder.toNat noSes).inc, l.token), true)
set_option maxRecDepth 20000 in
theorem holder_any (S : Nat → Prop) (m bp bl : Nat) (s : StD) (k : Txt) (w : World) (hm : MSt S w m bp bl s) (hi : LInv s.locks s.tok) (hk : k.length ≤ 1048576) :
    Calls Tryz.prog 26 #[.pointer (some ⟨m, 0, none⟩), str k] w fun e w' => e = .returned (.tuple #[.agg (holdA (holdD k s).1), .bool (holdD k s).2]) ∧ Fresh w w' := by
  obtain ⟨X, hX⟩ : ∃ X, X = holdD k s := ⟨_, rfl⟩
  rw [← hX]
  obtain ⟨G, hG⟩ : ∃ G, G = w.heap.size := ⟨_, rfl⟩
  obtain ⟨W, hW⟩ : ∃ W, W = w.alloc (.cells #[.int .i64 0, .int .i64 0, .int .i64 0] 56) := ⟨_, rfl⟩
  have hf : Fresh w W := hW ▸ (Keep.refl _ w).alloc _
  have hb : Blk W G 56 #[.int .i64 0, .int .i64 0, .int .i64 0] := by rw [hW, hG]; exact Blk.new _ _ _
  have c0 := hb.cell 0; have c1 := hb.cell 1; have c2 := hb.cell 2
  have z0 := hb.frozen 0; have z1 := hb.frozen 1; have z2 := hb.frozen 2
  have gl := hb.lt
  simp at c0 c1 c2
  have hmW := hm.fresh hf
  have ml := hmW.blk.lt
  obtain ⟨-, x1, -⟩ := hmW.three
  obtain ⟨ms, hls⟩ := hmW.lk
  have HB := Lib.hid (And.intro hf (And.intro hb (And.intro hmW (And.intro hX (And.intro hG (And.intro hi hls))))))
  have hg : G < w.heap.size → ¬ True := fun h => absurd h (by rw [hG]; exact Nat.lt_irrefl _)
  have HG := Lib.hid hg
  cases hfl : lfind k s.locks with
  | none =>
    have hlk := look_lk hls (k := k) hk _ (show _ = .pointer none by rw [hls.gone hfl]; rfl)
    replace hlk := hlk 0
    rw [show W.drewN 0 = W from rfl] at hlk
    have e : X = ((0, 0, 0), false) := by rw [hX]; unfold holdD; rw [hfl]
    have HE := Lib.hid e
    clear hf hb hmW hX hm hi hls e hg
    go_enter Tryz.func26, Tryz.ntmps26
    go_upto_region 1 with (fail)
    simp only [← hG]
    rw [← hW]
    clear hW hG
    go_wp2_with fail
    obtain ⟨hf, hb, hmW, hX, hG, -⟩ := HB.out
    rw [HE.out]
    refine bodyPost_ret (results_blk rfl _ _ G 56 (holdA (0, 0, 0)) _ (.bool false) rfl (((hb.set 0 _).set 1 _).set 2 _) Tryz.underlying56 rfl (by kernel_rfl) rfl) rfl ?_
    exact ⟨rfl, ((hf.setCell HG.out _).setCell HG.out _).setCell HG.out _⟩
  | some l =>
    obtain ⟨x, hx, hxl, hxk, hxi, hxf⟩ := lk_find hls hfl
    obtain ⟨y0, y1, -⟩ := hxi.cells
    rw [hxl] at y0 y1
    have hlk := look_lk hls (k := k) hk _ hxf 0
    rw [show W.drewN 0 = W from rfl] at hlk
    obtain ⟨h, hh⟩ : ∃ h, h = x.h := ⟨_, rfl⟩
    rw [← hh] at y0 y1 hlk
    have hhl := hxi.lt
    rw [← hh] at hhl
    have hlo := hi.each l (findK_some hfl).2
    obtain ⟨q, hq⟩ : ∃ q : Nat, l.holder = (q : Int) := ⟨l.holder.toNat, by have := hlo.h0; omega⟩
    have hq16 : q < 16 := by have := hlo.h1; omega
    have sq := hmW.ses hq16 0 (by omega)
    simp [MSess.cells] at sq
    obtain ⟨z, hz⟩ : ∃ z, z = (s.ss.getD q noSes).inc := ⟨_, rfl⟩
    have s0 : W.cell? ⟨m, 3 + q * 5, none⟩ = some (.int .i64 z) := by
      rw [hz]
      simpa [List.getD_eq_getElem?_getD] using sq
    obtain ⟨tk, htk⟩ : ∃ t, t = l.token := ⟨_, rfl⟩
    rw [hq] at y0
    rw [← htk] at y1
    have e : X = (((q : Int), z, tk), true) := by rw [hX]; unfold holdD; rw [hfl]; simp only; rw [hq, hz, htk]; simp
    have HE := Lib.hid e
    clear hf hb hmW hX hm hi hls e hg hx hxl hxk hxi hxf hh hlo hq hz htk sq
    go_enter Tryz.func26, Tryz.ntmps26
    go_upto_region 1 with (fail)
    simp only [← hG]
    rw [← hW]
    clear hW hG
    go_upto_region 4 with (fail)
    go_region
    all_goals
      go_wp2
      obtain ⟨hf, hb, hmW, hX, hG, -⟩ := HB.out
      rw [HE.out]
      refine bodyPost_ret (results_blk rfl _ _ G 56 (holdA ((q : Int), z, tk)) _ (.bool true) rfl ((((hb.set 0 _).set 1 _).set 2 _).drew) Tryz.underlying56 rfl (by kernel_rfl) rfl) rfl ?_
      exact ⟨rfl, (((hf.setCell HG.out _).setCell HG.out _).setCell HG.out _).drew⟩
end Go.Proofs.YtlibhkehebioeaaGreatDoor
