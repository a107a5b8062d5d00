/-
  MERGED: DDoes Splice DApply
-/
import Derived.Test.YtohnmaindbgngaaGreatDoorD4
import Derived.Test.YtohnmaindbgngaaGreatDoorD5
import Derived.Test.YtohnmaindbgngaaGreatDoorQ1
import Derived.Test.YtohnmaindbgngaaGreatDoorQ5
import Derived.Test.YtohnmaindbgngaaGreatDoorD7
namespace Go.Proofs.YtohnmaindbgngaaGreatDoor
set_option linter.unusedVariables false
set_option linter.unusedSimpArgs false
open Go.RowKit

set_option maxRecDepth 20000 in
set_option maxHeartbeats 1000000 in
theorem ddoes_any {B : Nat} {F : Nat → Prop} {w : World} {d : Nat} {pv hv : Value} {hs : List DLk} {s : StD} (h : DAt B F w d pv hv hs s) (hFb : ∀ j, F j → j < w.heap.size) (hi : LInv s.locks s.tok) (hp : PInv s.pairs) (hs16 : s.ss.length = 16) (hz00 : ∀ z ∈ s.ss, 0 ≤ z.inc) (hB : B ≤ w.heap.size) (hT : ∀ w', Keep (fun j => ¬ F j) w w' → Tabs w') (c i r o : Int) (k v ol : Txt) (hv : validB c i r o k v ol = true) :
    Calls Tryz.prog 112 #[.pointer (some ⟨d, 0, none⟩), cmdV c i r o k v ol] w (DOp B F w d (doesD numb Lib.itoa c o k v ol s)) := by
  have hV := vcmd_of hv
  have ho1 := hV.o1
  have ho9 := hV.o9
  have hE := hV.e
  have HO := Lib.hid (op_at w c i r o k v ol)
  obtain ⟨G, hG⟩ : ∃ G, G = w.heap.size := ⟨_, rfl⟩
  obtain ⟨W, hW⟩ : ∃ W, W = (w.alloc (.cells #[.int .i64 c, .int .i64 i, .int .i64 r, .int .i64 o, str k, str v, str ol] 43)).alloc (.cells #[.int .i64 0, str [], .int .i64 0] 49) := ⟨_, rfl⟩
  rw [← hW, ← hG] at HO
  have hdW := h.fresh HO.out.fresh
  have hTW : ∀ w', Keep (fun j => ¬ F j) W w' → Tabs w' := fun w' hk => hT w' (HO.out.fresh.comp hk (fun _ _ _ => trivial) fun _ _ h => h)
  have hBW := Nat.le_trans hB HO.out.fresh.size
  have hFW : ∀ j, F j → j < W.heap.size := fun j hj => Nat.lt_of_lt_of_le (hFb j hj) HO.out.fresh.size
  have hRF : ¬ F (G + 1) := fun e => by have := HO.out.sz; have := hFb _ e; omega
  have hcm := HO.out.cmd
  have k0 := hcm.cell 0; have k1 := hcm.cell 1; have k2 := hcm.cell 2; have k3 := hcm.cell 3; have k4 := hcm.cell 4; have k5 := hcm.cell 5; have k6 := hcm.cell 6
  simp at k0 k1 k2 k3 k4 k5 k6
  have kl := hcm.lt
  obtain ⟨r0, r1, r2, s0, s1, s2, rl⟩ := res_facts HO.out.res
  have ld := hdW.blk.lt
  have HOut : Hid (∀ w4 s4, DStep B F W d s4 w4 → DStep B F w d s4 w4 ∧ Blk w4 (G + 1) 49 (resA ⟨0, [], 0⟩)) := Lib.hid fun w4 s4 hst => ⟨DStep.next (F1 := F) (w1 := W) hst (fun j hj => .inl hj) (HO.out.fresh.weaken fun _ _ _ => trivial), HO.out.res.keep hst.2 hRF⟩
  have hG1 : w.heap.size ≤ G + 1 := by have := HO.out.sz; omega
  have hcs : o ≤ 5 ∨ (5 < o ∧ o ≤ 8) ∨ o = 9 := by omega
  rcases hcs with ho | ⟨ho, ho2⟩ | rfl
  · have hx := donKey_any hdW hp hBW hTW c i r o k v ol (fun h => valid_num hv (.inl h)) ho1 ho
    have hX : doesD numb Lib.itoa c o k v ol s = onKeyD numb Lib.itoa o k v ol s := by unfold doesD; rw [if_pos ho]
    rw [hX]
    obtain ⟨⟨⟨rc, rv, rn⟩, st⟩, hP⟩ : ∃ P, P = onKeyD numb Lib.itoa o k v ol s := ⟨_, rfl⟩
    rw [← hP] at hx ⊢
    have HX := Lib.hid hx
    have g6 : (o == 6) = false := by have : o ≠ 6 := by omega
                                     simpa using this
    have g7 : (o == 7) = false := by have : o ≠ 7 := by omega
                                     simpa using this
    have g8 : (o == 8) = false := by have : o ≠ 8 := by omega
                                     simpa using this
    have g9 : (o == 9) = false := by have : o ≠ 9 := by omega
                                     simpa using this
    clear hx hP hX h hdW hT hTW hB hBW hFW hFb hi hp hv hV hE hcm
    go_enter Tryz.func112, Tryz.ntmps112
    go_wp2_with fail
    simp only [← hG]
    rw [← hW]
    clear hW hG
    refine Calls.mono HX.out ?_
    rintro e w4 ⟨rfl, hst⟩
    have hb := HOut.out w4 st hst
    have H4 := Lib.hid hb
    obtain ⟨r0, r1, r2, s0, s1, s2, rl⟩ := res_facts hb.2
    clear hb hst
    go_wp2_with fail
    exact dop_ret (w := w) rfl rfl rfl H4.out.1 H4.out.2 hG1
  · have hx := donLock_any hdW hFW hi hBW c i r o k v ol (fun h => valid_num hv (.inr (.inl h))) (by omega) ho2
    have hX : doesD numb Lib.itoa c o k v ol s = onLockD numb c o k v s := by unfold doesD; rw [if_neg (by omega), if_pos ho2]
    rw [hX]
    obtain ⟨⟨⟨rc, rv, rn⟩, st⟩, hP⟩ : ∃ P, P = onLockD numb c o k v s := ⟨_, rfl⟩
    rw [← hP] at hx ⊢
    have HX := Lib.hid hx
    have h3 : o = 6 ∨ o = 7 ∨ o = 8 := by omega
    clear hx hP hX h hdW hT hTW hB hBW hFW hFb hi hp hv hV hE hcm ho ho2 ho1 ho9
    rcases h3 with rfl | rfl | rfl
    all_goals
      go_enter Tryz.func112, Tryz.ntmps112
      go_wp2_with fail
      simp only [← hG]
      rw [← hW]
      clear hW hG
      refine Calls.mono HX.out ?_
      rintro e w4 ⟨rfl, hst⟩
      have hb := HOut.out w4 st hst
      have H4 := Lib.hid hb
      obtain ⟨r0, r1, r2, s0, s1, s2, rl⟩ := res_facts hb.2
      clear hb hst
      go_wp2_with fail
      exact dop_ret (w := w) rfl rfl rfl H4.out.1 H4.out.2 hG1
  · obtain ⟨hn0, hn16⟩ := hE rfl
    have hvn := rnum_numb (valid_num hv (.inr (.inr rfl)))
    have hn := rnumber_any v W
    rw [hvn] at hn
    have hX : doesD numb Lib.itoa c 9 k v ol s = endD numb v s := by unfold doesD; rw [if_neg (by decide), if_neg (by decide)]
    rw [hX]
    obtain ⟨q, hq⟩ : ∃ q : Nat, (numb v).1 = (q : Int) := ⟨(numb v).1.toNat, by omega⟩
    have hqt : ((q : Int)).toNat = q := by omega
    have hq16 : q < 16 := by omega
    rw [hq] at hn
    have hz0 := hdW.ask (q := q) (by omega) 0 (by omega)
    rw [Nat.add_zero] at hz0
    obtain ⟨z, hz⟩ : ∃ z, z = s.ss.getD q noSes := ⟨_, rfl⟩
    rw [← hz] at hz0
    replace hz0 : W.cell? ⟨d, 3 + q * 6, none⟩ = some (.bool (decide (0 < z.inc))) := hz0
    have hEn : endD numb v s = if z.inc = 0 then (⟨2, [], 0⟩, s) else (⟨1, [], (letsD (q : Int) s).1⟩, (letsD (q : Int) s).2) := by
      unfold endD
      rw [hq, hqt, ← hz]
    rw [hEn]
    obtain ⟨zi, hzi⟩ : ∃ zi, zi = z.inc := ⟨_, rfl⟩
    rw [← hzi] at hz0 ⊢
    have hzp : 0 ≤ zi := by rw [hzi, hz]; exact hz00 _ (getD_mem (by omega))
    have HN := Lib.hid hn
    have hqi : (q : Int) < 16 := by omega
    have hL := dlets_any hdW hi (q : Int) hBW
    by_cases h0 : zi = 0
    · subst h0
      rw [if_pos rfl]
      have hst := hdW.stay' HO.out.fresh
      have H4 := Lib.hid (And.intro hst HO.out.res)
      clear hst hL h hdW hT hTW hB hBW hFW hFb hi hp hv hV hE hcm hEn hX hn hvn hq hz hzi
      go_enter Tryz.func112, Tryz.ntmps112
      go_wp2_with fail
      simp only [← hG]
      rw [← hW]
      clear hW hG
      refine Calls.mono HN.out ?_
      rintro e _ ⟨rfl, rfl⟩
      go_wp2_with fail
      exact dop_ret (w := w) rfl rfl rfl H4.out.1 H4.out.2 hG1
    · rw [if_neg h0]
      obtain ⟨⟨l1, l2⟩, hl⟩ : ∃ P, P = letsD (q : Int) s := ⟨_, rfl⟩
      rw [← hl] at hL ⊢
      have HL := Lib.hid hL
      have hzd : decide (0 < zi) = true := by simp; omega
      clear hL h hdW hT hTW hB hBW hFW hFb hi hp hv hV hE hcm hEn hX hn hvn hq hz hzi hl
      go_enter Tryz.func112, Tryz.ntmps112
      go_wp2_with fail
      simp only [← hG]
      rw [← hW]
      clear hW hG
      refine Calls.mono HN.out ?_
      rintro e _ ⟨rfl, rfl⟩
      go_wp2_with fail
      refine Calls.mono HL.out ?_
      rintro e w4 ⟨rfl, hst⟩
      have hb := HOut.out w4 l2 hst
      have H4 := Lib.hid hb
      obtain ⟨r0, r1, r2, s0, s1, s2, rl⟩ := res_facts hb.2
      clear hb hst
      go_wp2_with fail
      exact dop_ret (w := w) rfl rfl rfl H4.out.1 H4.out.2 hG1
end Go.Proofs.YtohnmaindbgngaaGreatDoor
namespace Go.Proofs.YtohnmaindbgngaaGreatDoor
set_option linter.unusedVariables false
set_option linter.unusedSimpArgs false
open Go.RowKit

/-- One element among many is written over. -/
theorem rcells_splice {α : Type} {f : α → List Value} {k : Nat} (hf : ∀ a, (f a).length = k) : ∀ (ps : List α) (q : Nat) (hq : q < ps.length) (x : α), (rcells f ps).take (q * k) ++ f x ++ (rcells f ps).drop (q * k + (f x).length) = rcells f (ps.set q x)
  | p :: ps, 0, _, x => by
    rw [rcells_cons, List.set_cons_zero, rcells_cons, hf]
    simp only [Nat.zero_mul, List.take_zero, List.nil_append, Nat.zero_add]
    rw [List.drop_append_of_le_length (by rw [hf]; exact Nat.le_refl _), List.drop_of_length_le (by rw [hf]; exact Nat.le_refl _), List.nil_append]
  | p :: ps, q + 1, hq, x => by
    have ih := rcells_splice hf ps q (by simpa using hq) x
    have e1 : (q + 1) * k = (f p).length + q * k := by rw [hf, Nat.add_mul]; omega
    rw [rcells_cons, List.set_cons_succ, rcells_cons, e1, List.take_length_add_append, Nat.add_assoc, List.drop_length_add_append, ← ih]
    simp only [List.append_assoc]
theorem Blk.splice {α : Type} {f : α → List Value} {k : Nat} (hf : ∀ a, (f a).length = k) {w : World} {g : Nat} {t : TypeId} {ps : List α} (h : Blk w g t (rcells f ps).toArray) {q : Nat} (hq : q < ps.length) (x : α) : Blk (w.setCells g (q * k) (f x)) g t (rcells f (ps.set q x)).toArray := by
  have hl : q * k + (f x).length ≤ (rcells f ps).toArray.size := by
    rw [List.size_toArray, rcells_len hf, hf]
    have := Nat.mul_le_mul_right k (show q + 1 ≤ ps.length from hq)
    rw [Nat.add_mul] at this
    omega
  obtain ⟨cs', h1, h2⟩ := Blk.setCells (f x) (q * k) w _ h hl
  have : cs' = (rcells f (ps.set q x)).toArray := by
    apply Array.ext'
    rw [h2, ← rcells_splice hf ps q hq x]
  rwa [this] at h1
theorem Blk.thereAt {α : Type} {f : α → List Value} {k : Nat} (hf : ∀ a, (f a).length = k) {w : World} {g : Nat} {t : TypeId} {ps : List α} (h : Blk w g t (rcells f ps).toArray) {q : Nat} (hq : q < ps.length) : w.there g (q * k) k := fun j hj => by
  have h1 := h.there (q * k + j) (by
    rw [List.size_toArray, rcells_len hf]
    have := Nat.mul_le_mul_right k (show q + 1 ≤ ps.length from hq)
    rw [Nat.add_mul] at this
    omega)
  simpa using h1
theorem Blk.elem {α : Type} {f : α → List Value} {k : Nat} (hf : ∀ a, (f a).length = k) {w : World} {g : Nat} {t : TypeId} {ps : List α} (h : Blk w g t (rcells f ps).toArray) {q : Nat} (hq : q < ps.length) (j : Nat) (hj : j < k) : w.cell? ⟨g, q * k + j, none⟩ = (f ps[q])[j]? := by
  rw [h.cell, List.getElem?_toArray, rcells_get hf ps q hq j hj]
end Go.Proofs.YtohnmaindbgngaaGreatDoor
namespace Go.Proofs.YtohnmaindbgngaaGreatDoor
set_option linter.unusedVariables false
set_option linter.unusedSimpArgs false
open Go.RowKit

def askA (z : SesD) : Array Value := #[.bool (decide (0 < z.inc)), .int .i64 z.inc, .int .i64 z.req, .int .i64 z.last.code, str z.last.val, .int .i64 z.last.n]
theorem dcells_ask {pv hv : Value} {tok : Int} {ss : List SesD} {q : Nat} (hq : q < ss.length) (i r : Int) (R : ResD) (hi : 0 < i) :
    ((((((dcells pv hv tok ss).toArray.setIfInBounds (3 + q * 6) (.bool true)).setIfInBounds (3 + q * 6 + 1) (.int .i64 i)).setIfInBounds (3 + q * 6 + 2) (.int .i64 r)).setIfInBounds (3 + q * 6 + 3) (.int .i64 R.code)).setIfInBounds (3 + q * 6 + 4) (str R.val)).setIfInBounds (3 + q * 6 + 5) (.int .i64 R.n) = (dcells pv hv tok (ss.set q ⟨i, r, R⟩)).toArray := by
  have e : ∀ (xs : List Value) (j : Nat) (u : Value), (pv :: hv :: Value.int .i64 tok :: xs).toArray.setIfInBounds (3 + j) u = (pv :: hv :: Value.int .i64 tok :: xs.set j u).toArray := fun xs j u => by
    rw [List.setIfInBounds_toArray, show 3 + j = j + 1 + 1 + 1 by omega]
    rfl
  unfold dcells
  have h : ∀ j, 3 + q * 6 + j = 3 + (q * 6 + j) := fun j => by omega
  rw [h 1, h 2, h 3, h 4, h 5, e, e, e, e, e, e]
  have c0 := rcells_splice (f := askC) ask_six ss q hq ⟨i, r, R⟩
  have hl : q * 6 + 6 ≤ (rcells askC ss).length := by
    rw [rcells_len ask_six]
    have := Nat.mul_le_mul_right 6 (show q + 1 ≤ ss.length from hq)
    omega
  have hb : decide (0 < i) = true := by simpa using hi
  have e6 : ∀ (xs : List Value) (n : Nat) (a b c d f g : Value), n + 6 ≤ xs.length → (((((xs.set n a).set (n + 1) b).set (n + 2) c).set (n + 3) d).set (n + 4) f).set (n + 5) g = xs.take n ++ [a, b, c, d, f, g] ++ xs.drop (n + 6) := fun xs n a b c d f g hn => by
    refine List.ext_getElem? fun m => ?_
    simp only [List.getElem?_set, List.length_set, List.append_assoc]
    rcases Nat.lt_or_ge m n with h1 | h1
    · rw [List.getElem?_append_left (by simp; omega), List.getElem?_take, if_pos h1]
      simp only [show ¬ n + 5 = m by omega, show ¬ n + 4 = m by omega, show ¬ n + 3 = m by omega, show ¬ n + 2 = m by omega, show ¬ n + 1 = m by omega, show ¬ n = m by omega, if_false]
    · have e0 : (xs.take n).length = n := by simp; omega
      rw [List.getElem?_append_right (by omega), e0]
      have hm : m - n = 0 ∨ m - n = 1 ∨ m - n = 2 ∨ m - n = 3 ∨ m - n = 4 ∨ m - n = 5 ∨ 6 ≤ m - n := by omega
      rcases hm with h2 | h2 | h2 | h2 | h2 | h2 | h2
      · obtain rfl : m = n := by omega
        simp [show m < xs.length by omega]
      · obtain rfl : m = n + 1 := by omega
        simp [show n + 1 < xs.length by omega]
      · obtain rfl : m = n + 2 := by omega
        simp [show n + 2 < xs.length by omega]
      · obtain rfl : m = n + 3 := by omega
        simp [show n + 3 < xs.length by omega]
      · obtain rfl : m = n + 4 := by omega
        simp [show n + 4 < xs.length by omega]
      · obtain rfl : m = n + 5 := by omega
        simp [show n + 5 < xs.length by omega]
      · obtain ⟨p, rfl⟩ : ∃ p, m = n + 6 + p := ⟨m - n - 6, by omega⟩
        rw [List.getElem?_append_right (by simp; omega), List.getElem?_drop]
        simp only [show ¬ n + 5 = n + 6 + p by omega, show ¬ n + 4 = n + 6 + p by omega, show ¬ n + 3 = n + 6 + p by omega, show ¬ n + 2 = n + 6 + p by omega, show ¬ n + 1 = n + 6 + p by omega, show ¬ n = n + 6 + p by omega, if_false]
        congr 1
        simp
        omega
  rw [e6 _ _ _ _ _ _ _ _ hl]
  have e7 : askC ⟨i, r, R⟩ = [Value.bool true, .int .i64 i, .int .i64 r, .int .i64 R.code, str R.val, .int .i64 R.n] := by unfold askC; rw [hb]
  rw [e7] at c0
  rw [← c0]
  rfl
section
variable {B : Nat} {F : Nat → Prop} {w w2 : World} {d : Nat} {pv hv : Value} {hs : List DLk} {s : StD}
/-- A client's ask is stored. -/
theorem DAt.setAsk (h : DAt B F w d pv hv hs s) {q : Nat} (hq : q < s.ss.length) (i r : Int) (R : ResD) (hi : 0 < i) :
    DAt B F ((((((w.setCell ⟨d, 3 + q * 6, none⟩ (.bool true)).setCell ⟨d, 3 + q * 6 + 1, none⟩ (.int .i64 i)).setCell ⟨d, 3 + q * 6 + 2, none⟩ (.int .i64 r)).setCell ⟨d, 3 + q * 6 + 3, none⟩ (.int .i64 R.code)).setCell ⟨d, 3 + q * 6 + 4, none⟩ (str R.val)).setCell ⟨d, 3 + q * 6 + 5, none⟩ (.int .i64 R.n)) d pv hv hs { s with ss := s.ss.set q ⟨i, r, R⟩ } := by
  have b6 := (((((h.blk.set (3 + q * 6) (.bool true)).set (3 + q * 6 + 1) (.int .i64 i)).set (3 + q * 6 + 2) (.int .i64 r)).set (3 + q * 6 + 3) (.int .i64 R.code)).set (3 + q * 6 + 4) (str R.val)).set (3 + q * 6 + 5) (.int .i64 R.n)
  rw [dcells_ask hq i r R hi] at b6
  have hk : Keep (fun k => k ≠ d) w ((((((w.setCell ⟨d, 3 + q * 6, none⟩ (.bool true)).setCell ⟨d, 3 + q * 6 + 1, none⟩ (.int .i64 i)).setCell ⟨d, 3 + q * 6 + 2, none⟩ (.int .i64 r)).setCell ⟨d, 3 + q * 6 + 3, none⟩ (.int .i64 R.code)).setCell ⟨d, 3 + q * 6 + 4, none⟩ (str R.val)).setCell ⟨d, 3 + q * 6 + 5, none⟩ (.int .i64 R.n)) :=
    ((((((Keep.refl _ w).setCell (fun _ h => h rfl) _).setCell (fun _ h => h rfl) _).setCell (fun _ h => h rfl) _).setCell (fun _ h => h rfl) _).setCell (fun _ h => h rfl) _).setCell (fun _ h => h rfl) _
  exact ⟨b6, own_keep h.pr hk fun k hk e => own_ne_blk h.pr h.blk (by decide) (e ▸ hk), own_keep h.lk hk fun k hk e => own_ne_blk h.lk h.blk (by decide) (e ▸ hk), h.ds, fun x hx => own_keep (h.qs x hx) hk fun k hk e => own_ne_blk (h.qs x hx) h.blk (by decide) (e ▸ hk), h.ap, h.fd, h.fp, h.fh, h.fq⟩
end

theorem ses_ge {s : StD} (h : Inv s) : ∀ z ∈ s.ss, 0 ≤ z.inc := fun z hz => by
  rcases h.ses z hz with rfl | h1
  · exact Int.le_refl _
  · have := h1.i0; omega
set_option maxRecDepth 20000 in
set_option maxHeartbeats 40000000 in
theorem dappl_any {B : Nat} {F : Nat → Prop} {w : World} {d : Nat} {pv hv : Value} {hs : List DLk} {s : StD} (h : DAt B F w d pv hv hs s) (hI : Inv s) (hFb : ∀ j, F j → j < w.heap.size) (hB : B ≤ w.heap.size) (hT : ∀ w', Keep (fun j => ¬ F j) w w' → Tabs w') (c i r o : Int) (k v ol : Txt) :
    Calls Tryz.prog 97 #[.pointer (some ⟨d, 0, none⟩), cmdV c i r o k v ol] w (DOp B F w d (applyD c i r o k v ol s)) := by
  obtain ⟨X, hX⟩ : ∃ X, X = applyD c i r o k v ol s := ⟨_, rfl⟩
  rw [← hX]
  obtain ⟨b, hb⟩ : ∃ b, b = validB c i r o k v ol := ⟨_, rfl⟩
  have HO := Lib.hid (op_at w c i r o k v ol)
  obtain ⟨G, hG⟩ : ∃ G, G = w.heap.size := ⟨_, rfl⟩
  obtain ⟨W, hW⟩ : ∃ W, W = (w.alloc (.cells #[.int .i64 c, .int .i64 i, .int .i64 r, .int .i64 o, str k, str v, str ol] 43)).alloc (.cells #[.int .i64 0, str [], .int .i64 0] 49) := ⟨_, rfl⟩
  rw [← hW, ← hG] at HO
  have HV := rcheck_any c i r o k v ol W
  rw [← hb] at HV
  replace HV := Lib.hid HV
  have hdW := h.fresh HO.out.fresh
  have hcm := HO.out.cmd
  have k0 := hcm.cell 0; have k1 := hcm.cell 1; have k2 := hcm.cell 2; have k3 := hcm.cell 3; have k4 := hcm.cell 4; have k5 := hcm.cell 5; have k6 := hcm.cell 6
  simp at k0 k1 k2 k3 k4 k5 k6
  have kl := hcm.lt
  have hG1 : w.heap.size ≤ G + 1 := by omega
  have HA0 := Lib.hid (And.intro hdW (And.intro hX (And.intro hI (And.intro hB (And.intro hT hb)))))
  clear hT hdW hX hI hb hFb h hcm hB
  go_enter Tryz.func97, Tryz.ntmps97
  go_wp2_with fail
  simp only [← hG]
  rw [← hW]
  clear hW hG
  refine HV.out.mono ?_
  rintro e W1 ⟨rfl, f1⟩
  have hf1 := HO.out.fresh.then f1
  have hbc1 := HO.out.cmd.keep f1 trivial
  have hbr1 := HO.out.res.keep f1 trivial
  have hd1 := HA0.out.1.fresh f1
  clear k0 k1 k2 k3 k4 k5 k6 kl HV
  cases b
  · obtain ⟨r0, r1, r2, t0, t1, t2, rl⟩ := res_facts hbr1
    have HE : Hid (X = (⟨10, [], 0⟩, s)) := Lib.hid (by rw [HA0.out.2.1]; unfold applyD; rw [← HA0.out.2.2.2.2.2]; simp)
    have H1 := Lib.hid (And.intro (hd1.stay' hf1) hbr1)
    clear hf1 hbc1 hbr1 hd1 f1
    go_wp2_with fail
    rw [HE.out]
    exact dop_ret (w := w) rfl rfl rfl H1.out.1 H1.out.2 hG1
  · have hV := vcmd_of HA0.out.2.2.2.2.2.symm
    obtain ⟨q, rfl⟩ : ∃ q : Nat, c = (q : Int) := ⟨c.toNat, by have := hV.c0; omega⟩
    have hq16 : q < 16 := by have := hV.c1; omega
    have hqi : (q : Int) < 16 := by omega
    have hi0 : 0 < i := by have := hV.i0; omega
    have hql : q < s.ss.length := by rw [HA0.out.2.2.1.s16]; exact hq16
    have n0 := hd1.ask hql 0 (by omega); have n1 := hd1.ask hql 1 (by omega); have n2 := hd1.ask hql 2 (by omega); have n3 := hd1.ask hql 3 (by omega); have n4 := hd1.ask hql 4 (by omega); have n5 := hd1.ask hql 5 (by omega)
    obtain ⟨⟨zi, zr, ⟨zc, zv, zn⟩⟩, hz⟩ : ∃ z, z = s.ss.getD q noSes := ⟨_, rfl⟩
    rw [← hz] at n0 n1 n2 n3 n4 n5
    simp only [askC, List.getElem?_cons_zero, List.getElem?_cons_succ, Nat.add_zero] at n0 n1 n2 n3 n4 n5
    have hzi0 : 0 ≤ zi := by
      have h1 := ses_ge HA0.out.2.2.1 _ (getD_mem hql)
      rw [← hz] at h1
      exact h1
    have HX : Hid (∀ R, (i < zi ∨ (zi = i ∧ r < zr) → R = (⟨9, [], 0⟩, s) → X = R) ∧ (zi = i ∧ zr = r → R = (⟨zc, zv, zn⟩, s) → X = R) ∧
        (¬ (i < zi ∨ (zi = i ∧ r < zr)) → ¬ (zi = i ∧ zr = r) → ∀ s1 x, s1 = (if 0 < zi ∧ zi < i then (letsD (q : Int) s).2 else s) → x = doesD numb Lib.itoa (q : Int) o k v ol s1 → R = (x.1, { x.2 with ss := x.2.ss.set q ⟨i, r, x.1⟩ }) → X = R)) := Lib.hid fun R => by
      have e2 : X = applyV numb Lib.itoa (q : Int) i r o k v ol s := by rw [HA0.out.2.1]; unfold applyD; rw [← HA0.out.2.2.2.2.2]; simp
      refine ⟨fun h h2 => ?_, fun h h2 => ?_, fun h h2 s1 x h3 h4 h5 => ?_⟩
      · rw [h2, e2]
        unfold applyV
        rw [show ((q : Int)).toNat = q by omega, ← hz]
        simp only
        rw [if_pos (by rcases h with h | h; exact .inl h; exact .inr h)]
      · rw [h2, e2]
        unfold applyV
        rw [show ((q : Int)).toNat = q by omega, ← hz]
        simp only
        rw [if_neg (by omega), if_pos h]
      · rw [h5, h4, h3, e2]
        unfold applyV
        rw [show ((q : Int)).toNat = q by omega, ← hz]
        simp only
        rw [if_neg h, if_neg h2]
    have HA := Lib.hid (And.intro hd1 (And.intro HA0.out.2.2.1 (And.intro hf1 (And.intro HA0.out.2.2.2.1 (And.intro HA0.out.2.2.2.2.1 HA0.out.2.2.2.2.2.symm)))))
    have H1 := Lib.hid (And.intro hbc1 hbr1)
    have k0 := hbc1.cell 0
    simp at k0
    have kl := hbc1.lt
    have ld := hd1.blk.lt
    have HK3 : Hid (∀ w', Fresh W1 w' → w'.cell? ⟨G, 0, none⟩ = some (.int .i64 (q : Int)) ∧ w'.cell? ⟨d, 3 + q * 6, none⟩ = some (.bool (decide (0 < zi))) ∧ w'.cell? ⟨d, 3 + q * 6 + 1, none⟩ = some (.int .i64 zi) ∧ w'.cell? ⟨d, 3 + q * 6 + 2, none⟩ = some (.int .i64 zr) ∧ w'.cell? ⟨d, 3 + q * 6 + 3, none⟩ = some (.int .i64 zc) ∧ w'.cell? ⟨d, 3 + q * 6 + 4, none⟩ = some (str zv) ∧ w'.cell? ⟨d, 3 + q * 6 + 5, none⟩ = some (.int .i64 zn)) := Lib.hid fun w' hf => ⟨hf.cellAt k0 trivial, hf.cellAt n0 trivial, hf.cellAt n1 trivial, hf.cellAt n2 trivial, hf.cellAt n3 trivial, hf.cellAt n4 trivial, hf.cellAt n5 trivial⟩
    clear hf1 hbc1 hbr1 hd1 f1 hz HA0 HO
    go_upto_region 3 with (fail)
    go_cut [5] (fun s5 wx => ∃ z5 : Nat, s5 = .pointer (some ⟨z5, 0, none⟩) ∧ Hid (Blk wx z5 189 (askA ⟨zi, zr, ⟨zc, zv, zn⟩⟩) ∧ Fresh W1 wx))
    case first =>
      have hsz : (World.drew W1).heap.size = W1.heap.size := rfl
      go_region_held3 (fun w' => w'.cell? ⟨G, 0, none⟩ = some (.int .i64 (q : Int)) ∧ w'.cell? ⟨d, 3 + q * 6, none⟩ = some (.bool (decide (0 < zi))) ∧ w'.cell? ⟨d, 3 + q * 6 + 1, none⟩ = some (.int .i64 zi) ∧ w'.cell? ⟨d, 3 + q * 6 + 2, none⟩ = some (.int .i64 zr) ∧ w'.cell? ⟨d, 3 + q * 6 + 3, none⟩ = some (.int .i64 zc) ∧ w'.cell? ⟨d, 3 + q * 6 + 4, none⟩ = some (str zv) ∧ w'.cell? ⟨d, 3 + q * 6 + 5, none⟩ = some (.int .i64 zn))
        (first | with_reducible exact HK3.out _ ((Keep.refl _ W1).drew) | exact HK3.out _ (((Keep.refl _ W1).alloc _).drew))
        (fail)
      all_goals
        go_wp2_with fail
        go_meet
        exact ⟨_, rfl, Lib.hid ⟨(Blk.new W1 189 (askA ⟨zi, zr, ⟨zc, zv, zn⟩⟩)).drew, ((Keep.refl _ W1).alloc _).drew⟩⟩
    case rest =>
    rename World => W2
    obtain ⟨z5, rfl, HC⟩ := hcut
    clear n0 n1 n2 n3 n4 n5 k0 kl HK3
    have hbc2 := H1.out.1.keep HC.out.2 trivial
    have hbr2 := H1.out.2.keep HC.out.2 trivial
    have hf2 := HA.out.2.2.1.then HC.out.2
    have hd2 := HA.out.1.fresh HC.out.2
    have y0 := HC.out.1.cell 0; have y1 := HC.out.1.cell 1; have y2 := HC.out.1.cell 2; have y3 := HC.out.1.cell 3; have y4 := HC.out.1.cell 4; have y5 := HC.out.1.cell 5
    simp [askA] at y0 y1 y2 y3 y4 y5
    have yl := HC.out.1.lt
    have k0 := hbc2.cell 0; have k1 := hbc2.cell 1; have k2 := hbc2.cell 2
    simp at k0 k1 k2
    have kl := hbc2.lt
    obtain ⟨r0, r1, r2, t0, t1, t2, rl⟩ := res_facts hbr2
    have H2 := Lib.hid (And.intro hd2 (And.intro hf2 (And.intro hbc2 hbr2)))
    clear hbc2 hbr2 hf2 hd2
    have hcs : i < zi ∨ (zi = i ∧ r < zr) ∨ (zi = i ∧ zr = r) ∨ (zi = i ∧ zr < r) ∨ (0 < zi ∧ zi < i) ∨ zi = 0 := by omega
    rcases hcs with h1 | ⟨rfl, h1⟩ | ⟨rfl, rfl⟩ | ⟨rfl, h1⟩ | ⟨h1, h2⟩ | rfl
    · have g0 : decide (0 < zi) = true := by simp; omega
      have g1 : decide (i < zi) = true := by simp; omega
      have HE := Lib.hid ((HX.out (⟨9, [], 0⟩, s)).1 (.inl h1) rfl)
      go_wp2_with fail
      rw [HE.out]
      exact dop_ret (w := w) rfl rfl rfl (H2.out.1.stay' H2.out.2.1) H2.out.2.2.2 hG1
    · have g0 : decide (0 < zi) = true := by simp; omega
      have g1 : decide (zi < zi) = false := by simp
      have g2 : decide (r < zr) = true := by simp; omega
      have HE := Lib.hid ((HX.out (⟨9, [], 0⟩, s)).1 (.inr ⟨rfl, h1⟩) rfl)
      go_wp2_with fail
      rw [HE.out]
      exact dop_ret (w := w) rfl rfl rfl (H2.out.1.stay' H2.out.2.1) H2.out.2.2.2 hG1
    · have g0 : decide (0 < zi) = true := by simp; omega
      have g1 : decide (zi < zi) = false := by simp
      have g2 : decide (zr < zr) = false := by simp
      have HE := Lib.hid ((HX.out (⟨zc, zv, zn⟩, s)).2.1 ⟨rfl, rfl⟩ rfl)
      go_wp2_with fail
      rw [HE.out]
      exact dop_ret (w := w) rfl rfl rfl (H2.out.1.stay' H2.out.2.1) H2.out.2.2.2 hG1
    · have g0 : decide (0 < zi) = true := by simp; omega
      have g1 : decide (zi < zi) = false := by simp
      have g2 : decide (r < zr) = false := by simp; omega
      have g3 : (zr == r) = false := by have : zr ≠ r := by omega
                                        simpa using this
      obtain ⟨s1, hs1⟩ : ∃ s1, s1 = if 0 < zi ∧ zi < zi then (letsD (q : Int) s).2 else s := ⟨_, rfl⟩
      have HS1 := Lib.hid hs1
      have HD : Hid (¬ (zi < zi ∨ (zi = zi ∧ r < zr)) ∧ ¬ (zi = zi ∧ zr = r)) := Lib.hid ⟨by omega, by omega⟩
      obtain rfl : s1 = s := by rw [hs1, if_neg (by omega)]
      have HST : Hid (DStep B F w d s1 W2 ∧ Blk W2 G 43 #[.int .i64 (q : Int), .int .i64 zi, .int .i64 r, .int .i64 o, str k, str v, str ol] ∧ Blk W2 (G + 1) 49 (resA ⟨0, [], 0⟩)) := Lib.hid ⟨H2.out.1.stay' H2.out.2.1, H2.out.2.2⟩
      have HV1 : Hid (LInv s1.locks s1.tok ∧ PInv s1.pairs ∧ s1.ss.length = 16 ∧ ∀ z ∈ s1.ss, 0 ≤ z.inc) := Lib.hid ⟨HA.out.2.1.lk, HA.out.2.1.pr, HA.out.2.1.s16, ses_ge HA.out.2.1⟩
      clear hs1
      go_upto_region 10 with (fail)
      clear y0 y1 y2 y3 y4 y5 yl k0 k1 k2 kl r0 r1 r2 t0 t1 t2 rl
      obtain ⟨⟨pv1, hv1, hs1, F1, hd1, hF1⟩, hk1⟩ := HST.out.1
      have hnG := hd1.footN HST.out.2.1 (by decide) (by decide) (by decide) (by decide)
      have hnR := hd1.footN HST.out.2.2 (by decide) (by decide) (by decide) (by decide)
      have hF1w : ∀ j, DFoot d pv1 hv1 hs1 j → F j ∨ w.heap.size ≤ j := fun j hj => hF1 j (hd1.footF hj)
      have hdo := ddoes_any hd1.min (fun j hj => hd1.footL hj) HV1.out.1 HV1.out.2.1 HV1.out.2.2.1 HV1.out.2.2.2 (Nat.le_trans HA.out.2.2.2.1 hk1.size) (fun w' hk => HA.out.2.2.2.2.1 w' (hk1.comp hk (fun _ _ h => h) fun j hj h hF => (hF1w j hF).elim h fun h2 => by omega)) (q : Int) zi r o k v ol HA.out.2.2.2.2.2
      obtain ⟨⟨⟨rc, rv, rn⟩, s2⟩, hP⟩ : ∃ P, P = doesD numb Lib.itoa (q : Int) o k v ol s1 := ⟨_, rfl⟩
      rw [← hP] at hdo
      have hok := does_ok (num := numb) (ita := Lib.itoa) (o := o) (k := k) (v := v) (d := ol) (c := (q : Int)) (i := zi) (r := r) HV1.out.1 HV1.out.2.1 (vcmd_of HA.out.2.2.2.2.2)
      rw [← hP] at hok
      have hs2l : s2.ss.length = 16 := by rw [hok.2.2.2.1]; exact HV1.out.2.2.1
      have HE := Lib.hid ((HX.out ((⟨rc, rv, rn⟩ : ResD), { s2 with ss := s2.ss.set q ⟨zi, r, ⟨rc, rv, rn⟩⟩ })).2.2 HD.out.1 HD.out.2 s1 _ HS1.out hP rfl)
      have HB1 := Lib.hid (And.intro hnG (And.intro hnR (And.intro hF1w (And.intro hk1 (And.intro hs2l hd1)))))
      have HDo := Lib.hid hdo
      have k0 := HST.out.2.1.cell 0; have k1 := HST.out.2.1.cell 1; have k2 := HST.out.2.1.cell 2; have k3 := HST.out.2.1.cell 3; have k4 := HST.out.2.1.cell 4; have k5 := HST.out.2.1.cell 5; have k6 := HST.out.2.1.cell 6
      simp at k0 k1 k2 k3 k4 k5 k6
      have kl := HST.out.2.1.lt
      clear hd1 hnG hnR hF1w hdo hP hok hs2l hk1 hF1
      go_wp2_with fail
      refine Calls.mono HDo.out ?_
      rintro e w6 ⟨rfl, hst6⟩
      have hbc6 := HST.out.2.1.keep hst6.2 HB1.out.1
      have hbr6 := HST.out.2.2.keep hst6.2 HB1.out.2.1
      have hst6w : DStep B F w d s2 w6 := DStep.next hst6 HB1.out.2.2.1 HB1.out.2.2.2.1
      have H6 := Lib.hid (And.intro hst6w (And.intro hbc6 hbr6))
      clear hst6 hbc6 hbr6 hst6w HDo k0 k1 k2 k3 k4 k5 k6 kl
      go_wp2_with (refine wpList_store_new rfl (.tmp 6) (.tmp 75) rfl _ (resA ⟨rc, rv, rn⟩) _ rfl rfl rfl (by kernel_rfl) (by simp [resA, Value.oneCell']) ?_)
      intro w7 hb7 hf7 hs7
      obtain ⟨g6, hg6⟩ : ∃ g, g = w6.heap.size := ⟨_, rfl⟩
      rw [← hg6] at hb7 ⊢
      have hst7 := H6.out.1.fresh hf7
      have hbc7 := H6.out.2.1.keep hf7 trivial
      have hbr7 := H6.out.2.2.keep hf7 trivial
      have H7 := Lib.hid (And.intro hst7 (And.intro hbc7 (And.intro hbr7 hb7)))
      clear hst7 hbc7 hbr7 hb7 hf7 hs7 hg6 H6
      obtain ⟨⟨pv7, hv7, hs7, F7, hd7, hF7⟩, hk7⟩ := H7.out.1
      have hq2 : q < s2.ss.length := by rw [HB1.out.2.2.2.2.1]; exact hq16
      have n0 := hd7.ask hq2 0 (by omega); have n1 := hd7.ask hq2 1 (by omega); have n2 := hd7.ask hq2 2 (by omega); have n3 := hd7.ask hq2 3 (by omega); have n4 := hd7.ask hq2 4 (by omega); have n5 := hd7.ask hq2 5 (by omega)
      obtain ⟨z2, hz2⟩ : ∃ z2, z2 = s2.ss.getD q noSes := ⟨_, rfl⟩
      rw [← hz2] at n0 n1 n2 n3 n4 n5
      simp only [askC, List.getElem?_cons_zero, List.getElem?_cons_succ, Nat.add_zero] at n0 n1 n2 n3 n4 n5
      have m0 := hd7.blk.frozen (3 + q * 6)
      have m1 := hd7.blk.frozen (3 + q * 6 + 1)
      have m2 := hd7.blk.frozen (3 + q * 6 + 2)
      have m3 := hd7.blk.frozen (3 + q * 6 + 3)
      have m4 := hd7.blk.frozen (3 + q * 6 + 4)
      have m5 := hd7.blk.frozen (3 + q * 6 + 5)
      have ld7 := hd7.blk.lt
      have j0 := H7.out.2.1.cell 0; have j1 := H7.out.2.1.cell 1; have j2 := H7.out.2.1.cell 2
      simp at j0 j1 j2
      have v0 := H7.out.2.2.2.cell 0; have v1 := H7.out.2.2.2.cell 1; have v2 := H7.out.2.2.2.cell 2
      simp [resA] at v0 v1 v2
      have hGd : G ≠ d := H7.out.2.1.ne hd7.blk (by decide)
      have hRd : G + 1 ≠ d := H7.out.2.2.1.ne hd7.blk (by decide)
      have hgd : g6 ≠ d := H7.out.2.2.2.ne hd7.blk (by decide)
      have HKS : Hid (∀ w', Keep (fun k => k ≠ d) w7 w' → w'.cell? ⟨G, 0, none⟩ = some (.int .i64 (q : Int)) ∧ w'.cell? ⟨G, 1, none⟩ = some (.int .i64 zi) ∧ w'.cell? ⟨G, 2, none⟩ = some (.int .i64 r) ∧ w'.cell? ⟨g6, 0, none⟩ = some (.int .i64 rc) ∧ w'.cell? ⟨g6, 1, none⟩ = some (str rv) ∧ w'.cell? ⟨g6, 2, none⟩ = some (.int .i64 rn)) := Lib.hid fun w' hk => ⟨hk.cellAt j0 hGd, hk.cellAt j1 hGd, hk.cellAt j2 hGd, hk.cellAt v0 hgd, hk.cellAt v1 hgd, hk.cellAt v2 hgd⟩
      have hD8 := (hd7.setAsk hq2 zi r ⟨rc, rv, rn⟩ hi0).fresh ((Keep.refl _ _).drew)
      have hk8 : Keep (fun k => k ≠ d) w7 (World.drew ((((((w7.setCell ⟨d, 3 + q * 6, none⟩ (.bool true)).setCell ⟨d, 3 + q * 6 + 1, none⟩ (.int .i64 zi)).setCell ⟨d, 3 + q * 6 + 2, none⟩ (.int .i64 r)).setCell ⟨d, 3 + q * 6 + 3, none⟩ (.int .i64 rc)).setCell ⟨d, 3 + q * 6 + 4, none⟩ (str rv)).setCell ⟨d, 3 + q * 6 + 5, none⟩ (.int .i64 rn))) :=
        (((((((Keep.refl _ w7).setCell (fun _ h => h rfl) _).setCell (fun _ h => h rfl) _).setCell (fun _ h => h rfl) _).setCell (fun _ h => h rfl) _).setCell (fun _ h => h rfl) _).setCell (fun _ h => h rfl) _).drew
      obtain ⟨w8, hw8⟩ : ∃ w8, w8 = World.drew ((((((w7.setCell ⟨d, 3 + q * 6, none⟩ (.bool true)).setCell ⟨d, 3 + q * 6 + 1, none⟩ (.int .i64 zi)).setCell ⟨d, 3 + q * 6 + 2, none⟩ (.int .i64 r)).setCell ⟨d, 3 + q * 6 + 3, none⟩ (.int .i64 rc)).setCell ⟨d, 3 + q * 6 + 4, none⟩ (str rv)).setCell ⟨d, 3 + q * 6 + 5, none⟩ (.int .i64 rn)) := ⟨_, rfl⟩
      have hD8w : DAt B F7 w8 d pv7 hv7 hs7 { s2 with ss := s2.ss.set q ⟨zi, r, ⟨rc, rv, rn⟩⟩ } := by rw [hw8]; exact hD8
      rw [← hw8] at hk8
      have hst8 : DStep B F w d { s2 with ss := s2.ss.set q ⟨zi, r, ⟨rc, rv, rn⟩⟩ } w8 := ⟨⟨_, _, _, _, hD8w, hF7⟩, hk7.comp hk8 (fun _ _ h => h) fun j _ hj e => hj (by rw [e]; exact HA.out.1.fd)⟩
      have H8 := Lib.hid (And.intro hst8 (And.intro (H7.out.2.2.1.keep hk8 hRd) (H7.out.2.2.2.keep hk8 hgd)))
      have HW8 := Lib.hid hw8
      clear hd7 hF7 hk7 hD8 hD8w hk8 hst8 hw8 hz2 hq2
      go_upto_region 11 with (fail)
      go_region_held3 (fun w' => w'.cell? ⟨G, 0, none⟩ = some (.int .i64 (q : Int)) ∧ w'.cell? ⟨G, 1, none⟩ = some (.int .i64 zi) ∧ w'.cell? ⟨G, 2, none⟩ = some (.int .i64 r) ∧ w'.cell? ⟨g6, 0, none⟩ = some (.int .i64 rc) ∧ w'.cell? ⟨g6, 1, none⟩ = some (str rv) ∧ w'.cell? ⟨g6, 2, none⟩ = some (.int .i64 rn))
        ((refine HKS.out _ ?_; repeat (first | with_reducible exact Keep.refl _ _ | with_reducible refine Keep.drew ?_ | with_reducible refine Keep.alloc ?_ _ | refine Keep.setCell ?_ (fun _ h => h rfl) _)))
        (fail)
      generalize hwN : World.drew _ = wN
      obtain rfl : w8 = wN := HW8.out.trans hwN
      clear hwN n0 n1 n2 n3 n4 n5 m0 m1 m2 m3 m4 m5 j0 j1 j2 v0 v1 v2
      obtain ⟨r0, r1, r2, t0, t1, t2, rl⟩ := res_facts H8.out.2.1
      obtain ⟨v0, v1, v2, -, -, -, vl⟩ := res_facts H8.out.2.2
      simp only at v0 v1 v2
      go_wp2_with fail
      rw [HE.out]
      exact dop_ret (w := w) rfl rfl rfl H8.out.1 H8.out.2.1 hG1
    · have g0 : decide (0 < zi) = true := by simp; omega
      have g1 : decide (i < zi) = false := by simp; omega
      have g2 : (zi == i) = false := by have : zi ≠ i := by omega
                                        simpa using this
      have g3 : decide (zi < i) = true := by simp; omega
      obtain ⟨s1, hs1⟩ : ∃ s1, s1 = if 0 < zi ∧ zi < i then (letsD (q : Int) s).2 else s := ⟨_, rfl⟩
      have HS1 := Lib.hid hs1
      have HD : Hid (¬ (i < zi ∨ (zi = i ∧ r < zr)) ∧ ¬ (zi = i ∧ zr = r)) := Lib.hid ⟨by omega, by omega⟩
      rw [if_pos ⟨h1, h2⟩] at hs1
      have hL := dlets_any H2.out.1.min HA.out.2.1.lk (q : Int) (Nat.le_trans HA.out.2.2.2.1 H2.out.2.1.size)
      rw [← hs1] at hL
      have HL := Lib.hid hL
      have HV1 : Hid (LInv s1.locks s1.tok ∧ PInv s1.pairs ∧ s1.ss.length = 16 ∧ ∀ z ∈ s1.ss, 0 ≤ z.inc) := Lib.hid (by
        rw [hs1]
        have hr := lets_rest (q : Int) s
        exact ⟨HA.out.2.1.lk.lets _, by rw [hr.1]; exact HA.out.2.1.pr, by rw [hr.2]; exact HA.out.2.1.s16, by rw [hr.2]; exact ses_ge HA.out.2.1⟩)
      clear hs1 hL
      go_wp2_with fail
      refine Calls.mono HL.out ?_
      rintro e W3 ⟨rfl, hst⟩
      have hnG := H2.out.1.footN H2.out.2.2.1 (by decide) (by decide) (by decide) (by decide)
      have hnR := H2.out.1.footN H2.out.2.2.2 (by decide) (by decide) (by decide) (by decide)
      have HST : Hid (DStep B F w d s1 W3 ∧ Blk W3 G 43 #[.int .i64 (q : Int), .int .i64 i, .int .i64 r, .int .i64 o, str k, str v, str ol] ∧ Blk W3 (G + 1) 49 (resA ⟨0, [], 0⟩)) := Lib.hid ⟨DStep.next hst (fun j hj => .inl (H2.out.1.footF hj)) (H2.out.2.1.weaken fun _ _ _ => trivial), H2.out.2.2.1.keep hst.2 hnG, H2.out.2.2.2.keep hst.2 hnR⟩
      clear hst hnG hnR HL
      go_upto_region 10 with (fail)
      clear y0 y1 y2 y3 y4 y5 yl k0 k1 k2 kl r0 r1 r2 t0 t1 t2 rl
      obtain ⟨⟨pv1, hv1, hs1, F1, hd1, hF1⟩, hk1⟩ := HST.out.1
      have hnG := hd1.footN HST.out.2.1 (by decide) (by decide) (by decide) (by decide)
      have hnR := hd1.footN HST.out.2.2 (by decide) (by decide) (by decide) (by decide)
      have hF1w : ∀ j, DFoot d pv1 hv1 hs1 j → F j ∨ w.heap.size ≤ j := fun j hj => hF1 j (hd1.footF hj)
      have hdo := ddoes_any hd1.min (fun j hj => hd1.footL hj) HV1.out.1 HV1.out.2.1 HV1.out.2.2.1 HV1.out.2.2.2 (Nat.le_trans HA.out.2.2.2.1 hk1.size) (fun w' hk => HA.out.2.2.2.2.1 w' (hk1.comp hk (fun _ _ h => h) fun j hj h hF => (hF1w j hF).elim h fun h2 => by omega)) (q : Int) i r o k v ol HA.out.2.2.2.2.2
      obtain ⟨⟨⟨rc, rv, rn⟩, s2⟩, hP⟩ : ∃ P, P = doesD numb Lib.itoa (q : Int) o k v ol s1 := ⟨_, rfl⟩
      rw [← hP] at hdo
      have hok := does_ok (num := numb) (ita := Lib.itoa) (o := o) (k := k) (v := v) (d := ol) (c := (q : Int)) (i := i) (r := r) HV1.out.1 HV1.out.2.1 (vcmd_of HA.out.2.2.2.2.2)
      rw [← hP] at hok
      have hs2l : s2.ss.length = 16 := by rw [hok.2.2.2.1]; exact HV1.out.2.2.1
      have HE := Lib.hid ((HX.out ((⟨rc, rv, rn⟩ : ResD), { s2 with ss := s2.ss.set q ⟨i, r, ⟨rc, rv, rn⟩⟩ })).2.2 HD.out.1 HD.out.2 s1 _ HS1.out hP rfl)
      have HB1 := Lib.hid (And.intro hnG (And.intro hnR (And.intro hF1w (And.intro hk1 (And.intro hs2l hd1)))))
      have HDo := Lib.hid hdo
      have k0 := HST.out.2.1.cell 0; have k1 := HST.out.2.1.cell 1; have k2 := HST.out.2.1.cell 2; have k3 := HST.out.2.1.cell 3; have k4 := HST.out.2.1.cell 4; have k5 := HST.out.2.1.cell 5; have k6 := HST.out.2.1.cell 6
      simp at k0 k1 k2 k3 k4 k5 k6
      have kl := HST.out.2.1.lt
      clear hd1 hnG hnR hF1w hdo hP hok hs2l hk1 hF1
      go_wp2_with fail
      refine Calls.mono HDo.out ?_
      rintro e w6 ⟨rfl, hst6⟩
      have hbc6 := HST.out.2.1.keep hst6.2 HB1.out.1
      have hbr6 := HST.out.2.2.keep hst6.2 HB1.out.2.1
      have hst6w : DStep B F w d s2 w6 := DStep.next hst6 HB1.out.2.2.1 HB1.out.2.2.2.1
      have H6 := Lib.hid (And.intro hst6w (And.intro hbc6 hbr6))
      clear hst6 hbc6 hbr6 hst6w HDo k0 k1 k2 k3 k4 k5 k6 kl
      go_wp2_with (refine wpList_store_new rfl (.tmp 6) (.tmp 75) rfl _ (resA ⟨rc, rv, rn⟩) _ rfl rfl rfl (by kernel_rfl) (by simp [resA, Value.oneCell']) ?_)
      intro w7 hb7 hf7 hs7
      obtain ⟨g6, hg6⟩ : ∃ g, g = w6.heap.size := ⟨_, rfl⟩
      rw [← hg6] at hb7 ⊢
      have hst7 := H6.out.1.fresh hf7
      have hbc7 := H6.out.2.1.keep hf7 trivial
      have hbr7 := H6.out.2.2.keep hf7 trivial
      have H7 := Lib.hid (And.intro hst7 (And.intro hbc7 (And.intro hbr7 hb7)))
      clear hst7 hbc7 hbr7 hb7 hf7 hs7 hg6 H6
      obtain ⟨⟨pv7, hv7, hs7, F7, hd7, hF7⟩, hk7⟩ := H7.out.1
      have hq2 : q < s2.ss.length := by rw [HB1.out.2.2.2.2.1]; exact hq16
      have n0 := hd7.ask hq2 0 (by omega); have n1 := hd7.ask hq2 1 (by omega); have n2 := hd7.ask hq2 2 (by omega); have n3 := hd7.ask hq2 3 (by omega); have n4 := hd7.ask hq2 4 (by omega); have n5 := hd7.ask hq2 5 (by omega)
      obtain ⟨z2, hz2⟩ : ∃ z2, z2 = s2.ss.getD q noSes := ⟨_, rfl⟩
      rw [← hz2] at n0 n1 n2 n3 n4 n5
      simp only [askC, List.getElem?_cons_zero, List.getElem?_cons_succ, Nat.add_zero] at n0 n1 n2 n3 n4 n5
      have m0 := hd7.blk.frozen (3 + q * 6)
      have m1 := hd7.blk.frozen (3 + q * 6 + 1)
      have m2 := hd7.blk.frozen (3 + q * 6 + 2)
      have m3 := hd7.blk.frozen (3 + q * 6 + 3)
      have m4 := hd7.blk.frozen (3 + q * 6 + 4)
      have m5 := hd7.blk.frozen (3 + q * 6 + 5)
      have ld7 := hd7.blk.lt
      have j0 := H7.out.2.1.cell 0; have j1 := H7.out.2.1.cell 1; have j2 := H7.out.2.1.cell 2
      simp at j0 j1 j2
      have v0 := H7.out.2.2.2.cell 0; have v1 := H7.out.2.2.2.cell 1; have v2 := H7.out.2.2.2.cell 2
      simp [resA] at v0 v1 v2
      have hGd : G ≠ d := H7.out.2.1.ne hd7.blk (by decide)
      have hRd : G + 1 ≠ d := H7.out.2.2.1.ne hd7.blk (by decide)
      have hgd : g6 ≠ d := H7.out.2.2.2.ne hd7.blk (by decide)
      have HKS : Hid (∀ w', Keep (fun k => k ≠ d) w7 w' → w'.cell? ⟨G, 0, none⟩ = some (.int .i64 (q : Int)) ∧ w'.cell? ⟨G, 1, none⟩ = some (.int .i64 i) ∧ w'.cell? ⟨G, 2, none⟩ = some (.int .i64 r) ∧ w'.cell? ⟨g6, 0, none⟩ = some (.int .i64 rc) ∧ w'.cell? ⟨g6, 1, none⟩ = some (str rv) ∧ w'.cell? ⟨g6, 2, none⟩ = some (.int .i64 rn)) := Lib.hid fun w' hk => ⟨hk.cellAt j0 hGd, hk.cellAt j1 hGd, hk.cellAt j2 hGd, hk.cellAt v0 hgd, hk.cellAt v1 hgd, hk.cellAt v2 hgd⟩
      have hD8 := (hd7.setAsk hq2 i r ⟨rc, rv, rn⟩ hi0).fresh ((Keep.refl _ _).drew)
      have hk8 : Keep (fun k => k ≠ d) w7 (World.drew ((((((w7.setCell ⟨d, 3 + q * 6, none⟩ (.bool true)).setCell ⟨d, 3 + q * 6 + 1, none⟩ (.int .i64 i)).setCell ⟨d, 3 + q * 6 + 2, none⟩ (.int .i64 r)).setCell ⟨d, 3 + q * 6 + 3, none⟩ (.int .i64 rc)).setCell ⟨d, 3 + q * 6 + 4, none⟩ (str rv)).setCell ⟨d, 3 + q * 6 + 5, none⟩ (.int .i64 rn))) :=
        (((((((Keep.refl _ w7).setCell (fun _ h => h rfl) _).setCell (fun _ h => h rfl) _).setCell (fun _ h => h rfl) _).setCell (fun _ h => h rfl) _).setCell (fun _ h => h rfl) _).setCell (fun _ h => h rfl) _).drew
      obtain ⟨w8, hw8⟩ : ∃ w8, w8 = World.drew ((((((w7.setCell ⟨d, 3 + q * 6, none⟩ (.bool true)).setCell ⟨d, 3 + q * 6 + 1, none⟩ (.int .i64 i)).setCell ⟨d, 3 + q * 6 + 2, none⟩ (.int .i64 r)).setCell ⟨d, 3 + q * 6 + 3, none⟩ (.int .i64 rc)).setCell ⟨d, 3 + q * 6 + 4, none⟩ (str rv)).setCell ⟨d, 3 + q * 6 + 5, none⟩ (.int .i64 rn)) := ⟨_, rfl⟩
      have hD8w : DAt B F7 w8 d pv7 hv7 hs7 { s2 with ss := s2.ss.set q ⟨i, r, ⟨rc, rv, rn⟩⟩ } := by rw [hw8]; exact hD8
      rw [← hw8] at hk8
      have hst8 : DStep B F w d { s2 with ss := s2.ss.set q ⟨i, r, ⟨rc, rv, rn⟩⟩ } w8 := ⟨⟨_, _, _, _, hD8w, hF7⟩, hk7.comp hk8 (fun _ _ h => h) fun j _ hj e => hj (by rw [e]; exact HA.out.1.fd)⟩
      have H8 := Lib.hid (And.intro hst8 (And.intro (H7.out.2.2.1.keep hk8 hRd) (H7.out.2.2.2.keep hk8 hgd)))
      have HW8 := Lib.hid hw8
      clear hd7 hF7 hk7 hD8 hD8w hk8 hst8 hw8 hz2 hq2
      go_upto_region 11 with (fail)
      go_region_held3 (fun w' => w'.cell? ⟨G, 0, none⟩ = some (.int .i64 (q : Int)) ∧ w'.cell? ⟨G, 1, none⟩ = some (.int .i64 i) ∧ w'.cell? ⟨G, 2, none⟩ = some (.int .i64 r) ∧ w'.cell? ⟨g6, 0, none⟩ = some (.int .i64 rc) ∧ w'.cell? ⟨g6, 1, none⟩ = some (str rv) ∧ w'.cell? ⟨g6, 2, none⟩ = some (.int .i64 rn))
        ((refine HKS.out _ ?_; repeat (first | with_reducible exact Keep.refl _ _ | with_reducible refine Keep.drew ?_ | with_reducible refine Keep.alloc ?_ _ | refine Keep.setCell ?_ (fun _ h => h rfl) _)))
        (fail)
      generalize hwN : World.drew _ = wN
      obtain rfl : w8 = wN := HW8.out.trans hwN
      clear hwN n0 n1 n2 n3 n4 n5 m0 m1 m2 m3 m4 m5 j0 j1 j2 v0 v1 v2
      obtain ⟨r0, r1, r2, t0, t1, t2, rl⟩ := res_facts H8.out.2.1
      obtain ⟨v0, v1, v2, -, -, -, vl⟩ := res_facts H8.out.2.2
      simp only at v0 v1 v2
      go_wp2_with fail
      rw [HE.out]
      exact dop_ret (w := w) rfl rfl rfl H8.out.1 H8.out.2.1 hG1
    · have g0 : decide ((0 : Int) < 0) = false := by decide
      obtain ⟨s1, hs1⟩ : ∃ s1, s1 = if (0 : Int) < 0 ∧ 0 < i then (letsD (q : Int) s).2 else s := ⟨_, rfl⟩
      have HS1 := Lib.hid hs1
      have HD : Hid (¬ (i < 0 ∨ (0 = i ∧ r < zr)) ∧ ¬ (0 = i ∧ zr = r)) := Lib.hid ⟨by omega, by omega⟩
      obtain rfl : s1 = s := by rw [hs1, if_neg (by omega)]
      have HST : Hid (DStep B F w d s1 W2 ∧ Blk W2 G 43 #[.int .i64 (q : Int), .int .i64 i, .int .i64 r, .int .i64 o, str k, str v, str ol] ∧ Blk W2 (G + 1) 49 (resA ⟨0, [], 0⟩)) := Lib.hid ⟨H2.out.1.stay' H2.out.2.1, H2.out.2.2⟩
      have HV1 : Hid (LInv s1.locks s1.tok ∧ PInv s1.pairs ∧ s1.ss.length = 16 ∧ ∀ z ∈ s1.ss, 0 ≤ z.inc) := Lib.hid ⟨HA.out.2.1.lk, HA.out.2.1.pr, HA.out.2.1.s16, ses_ge HA.out.2.1⟩
      clear hs1
      go_upto_region 10 with (fail)
      clear y0 y1 y2 y3 y4 y5 yl k0 k1 k2 kl r0 r1 r2 t0 t1 t2 rl
      obtain ⟨⟨pv1, hv1, hs1, F1, hd1, hF1⟩, hk1⟩ := HST.out.1
      have hnG := hd1.footN HST.out.2.1 (by decide) (by decide) (by decide) (by decide)
      have hnR := hd1.footN HST.out.2.2 (by decide) (by decide) (by decide) (by decide)
      have hF1w : ∀ j, DFoot d pv1 hv1 hs1 j → F j ∨ w.heap.size ≤ j := fun j hj => hF1 j (hd1.footF hj)
      have hdo := ddoes_any hd1.min (fun j hj => hd1.footL hj) HV1.out.1 HV1.out.2.1 HV1.out.2.2.1 HV1.out.2.2.2 (Nat.le_trans HA.out.2.2.2.1 hk1.size) (fun w' hk => HA.out.2.2.2.2.1 w' (hk1.comp hk (fun _ _ h => h) fun j hj h hF => (hF1w j hF).elim h fun h2 => by omega)) (q : Int) i r o k v ol HA.out.2.2.2.2.2
      obtain ⟨⟨⟨rc, rv, rn⟩, s2⟩, hP⟩ : ∃ P, P = doesD numb Lib.itoa (q : Int) o k v ol s1 := ⟨_, rfl⟩
      rw [← hP] at hdo
      have hok := does_ok (num := numb) (ita := Lib.itoa) (o := o) (k := k) (v := v) (d := ol) (c := (q : Int)) (i := i) (r := r) HV1.out.1 HV1.out.2.1 (vcmd_of HA.out.2.2.2.2.2)
      rw [← hP] at hok
      have hs2l : s2.ss.length = 16 := by rw [hok.2.2.2.1]; exact HV1.out.2.2.1
      have HE := Lib.hid ((HX.out ((⟨rc, rv, rn⟩ : ResD), { s2 with ss := s2.ss.set q ⟨i, r, ⟨rc, rv, rn⟩⟩ })).2.2 HD.out.1 HD.out.2 s1 _ HS1.out hP rfl)
      have HB1 := Lib.hid (And.intro hnG (And.intro hnR (And.intro hF1w (And.intro hk1 (And.intro hs2l hd1)))))
      have HDo := Lib.hid hdo
      have k0 := HST.out.2.1.cell 0; have k1 := HST.out.2.1.cell 1; have k2 := HST.out.2.1.cell 2; have k3 := HST.out.2.1.cell 3; have k4 := HST.out.2.1.cell 4; have k5 := HST.out.2.1.cell 5; have k6 := HST.out.2.1.cell 6
      simp at k0 k1 k2 k3 k4 k5 k6
      have kl := HST.out.2.1.lt
      clear hd1 hnG hnR hF1w hdo hP hok hs2l hk1 hF1
      go_wp2_with fail
      refine Calls.mono HDo.out ?_
      rintro e w6 ⟨rfl, hst6⟩
      have hbc6 := HST.out.2.1.keep hst6.2 HB1.out.1
      have hbr6 := HST.out.2.2.keep hst6.2 HB1.out.2.1
      have hst6w : DStep B F w d s2 w6 := DStep.next hst6 HB1.out.2.2.1 HB1.out.2.2.2.1
      have H6 := Lib.hid (And.intro hst6w (And.intro hbc6 hbr6))
      clear hst6 hbc6 hbr6 hst6w HDo k0 k1 k2 k3 k4 k5 k6 kl
      go_wp2_with (refine wpList_store_new rfl (.tmp 6) (.tmp 75) rfl _ (resA ⟨rc, rv, rn⟩) _ rfl rfl rfl (by kernel_rfl) (by simp [resA, Value.oneCell']) ?_)
      intro w7 hb7 hf7 hs7
      obtain ⟨g6, hg6⟩ : ∃ g, g = w6.heap.size := ⟨_, rfl⟩
      rw [← hg6] at hb7 ⊢
      have hst7 := H6.out.1.fresh hf7
      have hbc7 := H6.out.2.1.keep hf7 trivial
      have hbr7 := H6.out.2.2.keep hf7 trivial
      have H7 := Lib.hid (And.intro hst7 (And.intro hbc7 (And.intro hbr7 hb7)))
      clear hst7 hbc7 hbr7 hb7 hf7 hs7 hg6 H6
      obtain ⟨⟨pv7, hv7, hs7, F7, hd7, hF7⟩, hk7⟩ := H7.out.1
      have hq2 : q < s2.ss.length := by rw [HB1.out.2.2.2.2.1]; exact hq16
      have n0 := hd7.ask hq2 0 (by omega); have n1 := hd7.ask hq2 1 (by omega); have n2 := hd7.ask hq2 2 (by omega); have n3 := hd7.ask hq2 3 (by omega); have n4 := hd7.ask hq2 4 (by omega); have n5 := hd7.ask hq2 5 (by omega)
      obtain ⟨z2, hz2⟩ : ∃ z2, z2 = s2.ss.getD q noSes := ⟨_, rfl⟩
      rw [← hz2] at n0 n1 n2 n3 n4 n5
      simp only [askC, List.getElem?_cons_zero, List.getElem?_cons_succ, Nat.add_zero] at n0 n1 n2 n3 n4 n5
      have m0 := hd7.blk.frozen (3 + q * 6)
      have m1 := hd7.blk.frozen (3 + q * 6 + 1)
      have m2 := hd7.blk.frozen (3 + q * 6 + 2)
      have m3 := hd7.blk.frozen (3 + q * 6 + 3)
      have m4 := hd7.blk.frozen (3 + q * 6 + 4)
      have m5 := hd7.blk.frozen (3 + q * 6 + 5)
      have ld7 := hd7.blk.lt
      have j0 := H7.out.2.1.cell 0; have j1 := H7.out.2.1.cell 1; have j2 := H7.out.2.1.cell 2
      simp at j0 j1 j2
      have v0 := H7.out.2.2.2.cell 0; have v1 := H7.out.2.2.2.cell 1; have v2 := H7.out.2.2.2.cell 2
      simp [resA] at v0 v1 v2
      have hGd : G ≠ d := H7.out.2.1.ne hd7.blk (by decide)
      have hRd : G + 1 ≠ d := H7.out.2.2.1.ne hd7.blk (by decide)
      have hgd : g6 ≠ d := H7.out.2.2.2.ne hd7.blk (by decide)
      have HKS : Hid (∀ w', Keep (fun k => k ≠ d) w7 w' → w'.cell? ⟨G, 0, none⟩ = some (.int .i64 (q : Int)) ∧ w'.cell? ⟨G, 1, none⟩ = some (.int .i64 i) ∧ w'.cell? ⟨G, 2, none⟩ = some (.int .i64 r) ∧ w'.cell? ⟨g6, 0, none⟩ = some (.int .i64 rc) ∧ w'.cell? ⟨g6, 1, none⟩ = some (str rv) ∧ w'.cell? ⟨g6, 2, none⟩ = some (.int .i64 rn)) := Lib.hid fun w' hk => ⟨hk.cellAt j0 hGd, hk.cellAt j1 hGd, hk.cellAt j2 hGd, hk.cellAt v0 hgd, hk.cellAt v1 hgd, hk.cellAt v2 hgd⟩
      have hD8 := (hd7.setAsk hq2 i r ⟨rc, rv, rn⟩ hi0).fresh ((Keep.refl _ _).drew)
      have hk8 : Keep (fun k => k ≠ d) w7 (World.drew ((((((w7.setCell ⟨d, 3 + q * 6, none⟩ (.bool true)).setCell ⟨d, 3 + q * 6 + 1, none⟩ (.int .i64 i)).setCell ⟨d, 3 + q * 6 + 2, none⟩ (.int .i64 r)).setCell ⟨d, 3 + q * 6 + 3, none⟩ (.int .i64 rc)).setCell ⟨d, 3 + q * 6 + 4, none⟩ (str rv)).setCell ⟨d, 3 + q * 6 + 5, none⟩ (.int .i64 rn))) :=
        (((((((Keep.refl _ w7).setCell (fun _ h => h rfl) _).setCell (fun _ h => h rfl) _).setCell (fun _ h => h rfl) _).setCell (fun _ h => h rfl) _).setCell (fun _ h => h rfl) _).setCell (fun _ h => h rfl) _).drew
      obtain ⟨w8, hw8⟩ : ∃ w8, w8 = World.drew ((((((w7.setCell ⟨d, 3 + q * 6, none⟩ (.bool true)).setCell ⟨d, 3 + q * 6 + 1, none⟩ (.int .i64 i)).setCell ⟨d, 3 + q * 6 + 2, none⟩ (.int .i64 r)).setCell ⟨d, 3 + q * 6 + 3, none⟩ (.int .i64 rc)).setCell ⟨d, 3 + q * 6 + 4, none⟩ (str rv)).setCell ⟨d, 3 + q * 6 + 5, none⟩ (.int .i64 rn)) := ⟨_, rfl⟩
      have hD8w : DAt B F7 w8 d pv7 hv7 hs7 { s2 with ss := s2.ss.set q ⟨i, r, ⟨rc, rv, rn⟩⟩ } := by rw [hw8]; exact hD8
      rw [← hw8] at hk8
      have hst8 : DStep B F w d { s2 with ss := s2.ss.set q ⟨i, r, ⟨rc, rv, rn⟩⟩ } w8 := ⟨⟨_, _, _, _, hD8w, hF7⟩, hk7.comp hk8 (fun _ _ h => h) fun j _ hj e => hj (by rw [e]; exact HA.out.1.fd)⟩
      have H8 := Lib.hid (And.intro hst8 (And.intro (H7.out.2.2.1.keep hk8 hRd) (H7.out.2.2.2.keep hk8 hgd)))
      have HW8 := Lib.hid hw8
      clear hd7 hF7 hk7 hD8 hD8w hk8 hst8 hw8 hz2 hq2
      go_upto_region 11 with (fail)
      go_region_held3 (fun w' => w'.cell? ⟨G, 0, none⟩ = some (.int .i64 (q : Int)) ∧ w'.cell? ⟨G, 1, none⟩ = some (.int .i64 i) ∧ w'.cell? ⟨G, 2, none⟩ = some (.int .i64 r) ∧ w'.cell? ⟨g6, 0, none⟩ = some (.int .i64 rc) ∧ w'.cell? ⟨g6, 1, none⟩ = some (str rv) ∧ w'.cell? ⟨g6, 2, none⟩ = some (.int .i64 rn))
        ((refine HKS.out _ ?_; repeat (first | with_reducible exact Keep.refl _ _ | with_reducible refine Keep.drew ?_ | with_reducible refine Keep.alloc ?_ _ | refine Keep.setCell ?_ (fun _ h => h rfl) _)))
        (fail)
      generalize hwN : World.drew _ = wN
      obtain rfl : w8 = wN := HW8.out.trans hwN
      clear hwN n0 n1 n2 n3 n4 n5 m0 m1 m2 m3 m4 m5 j0 j1 j2 v0 v1 v2
      obtain ⟨r0, r1, r2, t0, t1, t2, rl⟩ := res_facts H8.out.2.1
      obtain ⟨v0, v1, v2, -, -, -, vl⟩ := res_facts H8.out.2.2
      simp only at v0 v1 v2
      go_wp2_with fail
      rw [HE.out]
      exact dop_ret (w := w) rfl rfl rfl H8.out.1 H8.out.2.1 hG1
end Go.Proofs.YtohnmaindbgngaaGreatDoor
