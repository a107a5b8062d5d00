/-
  WALKS OF quorateref01's 'put', 'Within', 'PutInt', 'PutBytes'; of quorateref13's 'putCount', 'putText'.
-/
import Derived.Test.YtkgbhanpenpkmaaDoorRow
import Derived.Test.YtkgbhanpenpkmaaDoorBytes
import Derived.Test.YtkgbhanpenpkmaaDoorWriter
import Derived.Lib.ConvBytes
import Derived.Lib.AtoiErrMem
namespace Go.Proofs.YtkgbhanpenpkmaaDoor
set_option linter.unusedVariables false
set_option linter.unusedSimpArgs false
open Go.RowKit

set_option maxRecDepth 20000 in
set_option maxHeartbeats 400000 in
theorem rput_any (base : Nat) (v : Value) (n : Nat) (bs : List UInt8) (x : Nat) (w : World) (hx : x ≤ 4611686018427387904) (hown : w.ownsRow base 5 1 v n (Lib.byteCells bs)) (hn : n ≤ 1099511627776) (hbase : base ≤ w.heap.size) :
    Calls Tryd.prog 72 #[v, .int .i64 (x : Int)] w fun e w' => ∃ v', e = .returned v' ∧ w'.ownsRow base 5 1 v' (n + (putB x).length) (Lib.byteCells (bs ++ putB x)) ∧ Keep (fun k => v.ownBlock ≠ some k) w w' ∧ Next w.heap.size v v' := by
  have hl9 := putB_len9 hx
  go_enter Tryd.func72, Tryd.ntmps72
  go_wp2
  go_loopw [0, 1] (fun b y wr => ∃ (m y' : Nat) (cs : List UInt8), y = .int .i64 (y' : Int) ∧ Hid (PutRel x m y' cs) ∧ wr.ownsRow base 5 1 b (n + m) (Lib.byteCells (bs ++ cs)) ∧ Keep (fun k => v.ownBlock ≠ some k) w wr ∧ Next w.heap.size v b) (fun _ y _ => (intOf y).toNat)
  case atStart => exact ⟨0, x, [], rfl, ⟨Nat.le_refl _, rfl, by simp, rfl⟩, by simpa using hown, Keep.refl _ _, Next.refl _ _⟩
  case round =>
    obtain ⟨m, y', cs, rfl, hp, ho, hk, hnx⟩ := hrel
    have hm : m + 1 ≤ 9 := by have := hp.out.2.2.1; have := putB_pos y'; omega
    have HB := Lib.hid (Nat.le_trans hbase hk.size)
    have hy9 : y' ≤ 4611686018427387904 := by have := hp.out.1; omega
    clear hx hl9 hown
    by_cases h : 128 ≤ y'
    · go_wp2_with (at_builtin; refine wpList_app1 etU8 rfl (.tmp 7) (.tmp 12) rfl _ _ rfl base _ (n + m) _ rfl rfl ho ?_ HB.out ?_)
      case refine_1 => omega
      intro v1 w1 ho1 hk1 hn1
      have ho2 : w1.ownsRow base 5 1 v1 (n + (m + 1)) (Lib.byteCells (bs ++ (cs ++ [UInt8.ofNat (y' % 128 + 128)]))) := by
        have e : Lib.byteCells (bs ++ (cs ++ [UInt8.ofNat (y' % 128 + 128)])) = Lib.byteCells (bs ++ cs) ++ [Value.int .u8 ((y' : Int) % 128 + 128)] := by
          simp only [Lib.byteCells, List.map_append, List.map_cons, List.map_nil, List.append_assoc]
          rw [u8_toNat _ (by omega)]
          congr 4
        rw [e]
        exact ho1
      have hk2 := hk.next hk1 hnx
      have hn2 := hnx.trans hn1 hk.size
      have hp2 := Lib.hid (hp.out.step (by omega))
      clear ho1 ho hk hnx hp HB hk1 hn1
      go_wp2
      exact ⟨⟨m + 1, y' / 128, _, congrArg _ (by omega), hp2, ho2, hk2, hn2⟩, by simp [intOf]; omega⟩
    · go_wp2_with (at_builtin; refine wpList_app1 etU8 rfl (.tmp 16) (.tmp 19) rfl _ _ rfl base _ (n + m) _ rfl rfl ho ?_ HB.out ?_)
      case refine_1 => omega
      intro v1 w1 ho1 hk1 hn1
      have hk2 := hk.next hk1 hnx
      have hn2 := hnx.trans hn1 hk.size
      have ho2 : w1.ownsRow base 5 1 v1 (n + (putB x).length) (Lib.byteCells (bs ++ putB x)) := by
        obtain ⟨_, h2, h3, h4⟩ := hp.out
        have e1 : putB y' = [UInt8.ofNat y'] := putB_small (by omega)
        rw [e1] at h3 h4
        have e2 : Lib.byteCells (bs ++ putB x) = Lib.byteCells (bs ++ cs) ++ [Value.int .u8 (y' : Int)] := by
          rw [← h4]
          simp only [Lib.byteCells, List.map_append, List.map_cons, List.map_nil, List.append_assoc]
          rw [u8_toNat _ (by omega)]
        rw [e2, ← h3]
        exact ho1
      clear ho1 ho hk hnx hp HB hk1 hn1
      go_wp2
      go_ret
      exact ⟨v1, rfl, ho2, hk2, hn2⟩
theorem rput_int (base : Nat) (v : Value) (n : Nat) (bs : List UInt8) (x : Int) (w : World) (h0 : 0 ≤ x) (hx : x ≤ 4611686018427387904) (hown : w.ownsRow base 5 1 v n (Lib.byteCells bs)) (hn : n ≤ 1099511627776) (hbase : base ≤ w.heap.size) :
    Calls Tryd.prog 72 #[v, .int .i64 x] w fun e w' => ∃ v', e = .returned v' ∧ w'.ownsRow base 5 1 v' (n + (putB x.toNat).length) (Lib.byteCells (bs ++ putB x.toNat)) ∧ Keep (fun k => v.ownBlock ≠ some k) w w' ∧ Next w.heap.size v v' := by
  obtain ⟨k, rfl⟩ := Int.eq_ofNat_of_zero_le h0
  exact rput_any base v n bs k w (by omega) hown hn hbase

theorem within_any (v lo hi : Int) (w : World) : Calls Tryd.prog 71 #[.int .i64 v, .int .i64 lo, .int .i64 hi] w fun e w' => e = .returned (.bool (decide (lo ≤ v) && decide (v ≤ hi))) ∧ w = w' := by
  by_cases h : lo ≤ v
  · go_enter Tryd.func71, Tryd.ntmps71
    go_wp2
    go_ret
    exact ⟨ret_bool (by simp [h]), rfl⟩
  · go_enter Tryd.func71, Tryd.ntmps71
    go_wp2
    go_ret
    exact ⟨ret_bool (by simp; omega), rfl⟩

set_option maxHeartbeats 400000 in
theorem rPutInt_any (Z : Nat → Prop) (A : Option Addr) (n c : Nat) (bs : List UInt8) (x : Int) (w : World) (h0 : 0 ≤ x) (hx : x ≤ 4611686018427387904) (hb : Rd w Z 1 A n (Lib.byteCells bs)) (hnil : n = 0 → c = 0 ∨ A ≠ none) (hn : n ≤ 1099511627770) :
    Calls Tryd.prog 48 #[.slice A n c, .int .i64 x] w fun e w' => (∃ u, e = .returned (.tuple #[u, .int .i64 0]) ∧ w'.ownsRow w.heap.size 5 1 u (n + (putB x.toNat).length) (Lib.byteCells (bs ++ putB x.toNat))) ∧ Fresh w w' := by
  have HW := within_any x 0 4611686018427387904 w
  rw [show (decide ((0 : Int) ≤ x) && decide (x ≤ 4611686018427387904)) = true by simp [h0, hx]] at HW
  replace HW := Lib.hid HW
  have HC := Lib.hid (copied_any Z A n c bs w hb hn hnil)
  have HX := Lib.hid (And.intro h0 hx)
  clear h0 hx hb hnil
  go_enter Tryd.func48, Tryd.ntmps48
  go_wp2_with fail
  refine HW.out.mono ?_
  rintro e _ ⟨rfl, rfl⟩
  go_wp2_with fail
  refine HC.out.mono ?_
  rintro e w1 ⟨⟨u, rfl, hown⟩, hf⟩
  have HP := Lib.hid (rput_int w.heap.size u n bs x w1 HX.out.1 HX.out.2 hown (by omega) hf.size)
  have HF := Lib.hid (And.intro hf hown)
  clear hf hown
  go_wp2_with fail
  refine HP.out.mono ?_
  rintro e w2 ⟨v2, rfl, ho2, hk2, hn2⟩
  have hfr : Fresh w w2 := HF.out.1.comp hk2 (fun _ _ h => h) (fun i hi _ e => by have := (own_lt HF.out.2 e).1; omega)
  have HN := Lib.hid (And.intro ho2 hfr)
  clear ho2 hk2 hn2 hfr
  go_wp2
  go_ret2
  exact ⟨⟨v2, rfl, HN.out.1⟩, HN.out.2⟩

/-- 'putCount' onto a row of the call's own. -/
theorem putCount_any (base : Nat) (v : Value) (bs : List UInt8) (x : Int) (w : World) (h0 : 0 ≤ x) (hx : x ≤ 4611686018427387904) (hown : w.ownsRow base 5 1 v bs.length (Lib.byteCells bs)) (hn : bs.length ≤ 1099511627770) (hbase : base ≤ w.heap.size) :
    Calls Tryd.prog 28 #[v, .int .i64 x] w fun e w' => (∃ u, e = .returned u ∧ w'.ownsRow base 5 1 u (bs ++ putB x.toNat).length (Lib.byteCells (bs ++ putB x.toNat))) ∧ Fresh w w' := by
  obtain ⟨A, c, rfl, hr, hnil⟩ := own_rd hown
  obtain ⟨n, hnl⟩ : ∃ n, n = bs.length := ⟨_, rfl⟩
  rw [← hnl] at hr hnil hn ⊢
  have HC := Lib.hid (rPutInt_any _ A n c bs x w h0 hx hr hnil hn)
  have HB := Lib.hid (And.intro hbase hnl)
  clear hown hr hnil hbase h0 hx hnl
  go_enter Tryd.func28, Tryd.ntmps28
  go_wp2_with fail
  refine HC.out.mono ?_
  rintro e w1 ⟨⟨u, rfl, ho⟩, hf⟩
  have HN := Lib.hid (And.intro ho hf)
  clear ho hf HC
  go_wp2
  go_ret
  refine ⟨⟨u, rfl, ?_⟩, HN.out.2⟩
  rw [List.length_append, ← HB.out.2]
  exact own_base HN.out.1 HB.out.1

set_option maxRecDepth 20000 in
set_option maxHeartbeats 400000 in
theorem rPutBytes_any (base : Nat) (v : Value) (bs : List UInt8) (Z : Nat → Prop) (A : Option Addr) (n c : Nat) (l : List UInt8) (w : World) (hown : w.ownsRow base 5 1 v bs.length (Lib.byteCells bs)) (hl : Rd w Z 1 A n (Lib.byteCells l)) (hz : ∀ k, Z k → v.ownBlock ≠ some k ∧ k < w.heap.size) (hn : bs.length + n ≤ 1099511627760) (hbase : base ≤ w.heap.size) :
    Calls Tryd.prog 49 #[v, .slice A n c] w fun e w' => (∃ u, e = .returned u ∧ w'.ownsRow base 5 1 u (bs ++ txt l).length (Lib.byteCells (bs ++ txt l)) ∧ Next w.heap.size v u) ∧ Keep (fun k => v.ownBlock ≠ some k) w w' := by
  have hll : l.length = n := by simpa [Lib.byteCells] using hl.1
  obtain ⟨m, hm⟩ : ∃ m, m = bs.length := ⟨_, rfl⟩
  rw [← hm] at hown hn
  have HC := Lib.hid (rput_any base v m bs n w (by omega) hown (by omega) hbase)
  have HA := Lib.hid (And.intro hown (And.intro hl (And.intro hz (And.intro hbase (And.intro hll hm)))))
  have hl9 : (putB n).length ≤ 9 := putB_len9 (by omega)
  have HL9 := Lib.hid hl9
  clear hown hl hz hbase hll hm hl9
  go_enter Tryd.func49, Tryd.ntmps49
  go_wp2_with fail
  refine HC.out.mono ?_
  rintro e w1 ⟨v1, rfl, ho1, hk1, hn1⟩
  obtain ⟨m1, hm1⟩ : ∃ m1, m1 = m + (putB n).length := ⟨_, rfl⟩
  rw [← hm1] at ho1
  have hm19 : m1 ≤ m + 9 := by have := HL9.out; omega
  have H1 := Lib.hid (And.intro ho1 (And.intro hk1 (And.intro hn1 hm1)))
  clear ho1 hk1 hn1 hm1 HC
  go_wp2
  go_loopw [0, 5] (fun b i wr => ∃ k : Nat, k ≤ n ∧ i = .int .i64 (k : Int) ∧ Hid (wr.ownsRow base 5 1 b (m1 + k) (Lib.byteCells (bs ++ putB n ++ l.take k)) ∧ Keep (fun k => v.ownBlock ≠ some k) w wr ∧ Next w.heap.size v b)) (fun _ i _ => n - (intOf i).toNat)
  case atStart => exact ⟨0, Nat.zero_le _, rfl, by rw [List.take_zero, List.append_nil]; exact H1.out.1, H1.out.2.1, H1.out.2.2.1⟩
  case round =>
    obtain ⟨k, hk, rfl, HW⟩ := hrel
    by_cases hlt : k < n
    · obtain ⟨ho, hkk, hnn⟩ := HW.out
      obtain ⟨b2, o2, x, rfl, hzb, hl2, hx, e2⟩ := HA.out.2.1.byte hlt
      have e3 := hkk.cellAt e2 (HA.out.2.2.1 b2 hzb).1
      have HO := Lib.hid ho
      have HB := Lib.hid (Nat.le_trans HA.out.2.2.2.1 hkk.size)
      have HXX := Lib.hid hx
      clear ho hkk hnn hzb e2 hx
      go_wp2_with (at_builtin; refine wpList_app1 etU8 rfl (.tmp 16) (.tmp 21) rfl _ _ rfl base _ (m1 + k) _ rfl rfl HO.out ?_ HB.out ?_)
      case refine_1 => omega
      intro v2 w2 ho2 hk2 hn2
      obtain ⟨ho, hkk, hnn⟩ := HW.out
      have hrow : w2.ownsRow base 5 1 v2 (m1 + (k + 1)) (Lib.byteCells (bs ++ putB n ++ l.take (k + 1))) := by
        rw [List.take_succ_eq_append_getElem hl2, ← List.append_assoc, Lib.byteCells_append]
        have e : Lib.byteCells [l[k]] = [.int .u8 x] := by rw [HXX.out]; rfl
        rw [e, List.append_assoc bs (putB n)]
        exact ho2
      have HN := Lib.hid (And.intro hrow (And.intro (hkk.next hk2 hnn) (hnn.trans hn2 hkk.size)))
      clear hrow ho2 hk2 hn2 ho hkk hnn HO HB HXX e3 HW
      go_wp2
      exact ⟨⟨k + 1, by omega, congrArg _ (by omega), HN.out⟩, by simp [intOf]; omega⟩
    · obtain rfl : k = n := by omega
      go_wp2
      go_ret
      obtain ⟨ho, hkk, hnn⟩ := HW.out
      have e1 : bs ++ txt l = bs ++ putB k ++ l.take k := by
        rw [List.take_of_length_le (by rw [HA.out.2.2.2.2.1]; exact Nat.le_refl _)]
        unfold txt
        rw [HA.out.2.2.2.2.1, List.append_assoc]
      have e2 : (bs ++ txt l).length = m1 + k := by
        rw [e1]
        simp only [List.length_append, List.length_take, HA.out.2.2.2.2.1, ← HA.out.2.2.2.2.2, H1.out.2.2.2, Nat.min_self]
      refine ⟨⟨_, rfl, ?_, hnn⟩, hkk⟩
      rw [e2, e1]
      exact ho

set_option maxRecDepth 20000 in
theorem putText_any (base : Nat) (v : Value) (bs l : List UInt8) (w : World) (hown : w.ownsRow base 5 1 v bs.length (Lib.byteCells bs)) (hl : l.length ≤ 1048576) (hn : bs.length ≤ 1099500000000) (hbase : base ≤ w.heap.size) :
    Calls Tryd.prog 29 #[v, .string ⟨l.toArray⟩] w fun e w' => (∃ u, e = .returned u ∧ w'.ownsRow base 5 1 u (bs ++ txt l).length (Lib.byteCells (bs ++ txt l)) ∧ Next w.heap.size v u) ∧ Keep (fun k => v.ownBlock ≠ some k) w w' := by
  have HA := Lib.hid (And.intro hown (And.intro hbase (And.intro hl hn)))
  obtain ⟨s, hs⟩ : ∃ s : ByteArray, s = ⟨l.toArray⟩ := ⟨_, rfl⟩
  rw [← hs]
  have hsz : s.size = l.length := by rw [hs]; rfl
  have hdl : s.data.toList = l := by rw [hs]
  have HS := Lib.hid (And.intro hsz hdl)
  have hcv := fun w => Lib.run_convert_string_bytes (P := Tryd.prog) w 9 24 5 s Tryd.underlying9 Tryd.underlying24 Tryd.underlying5
  clear hown hbase hs hsz hdl hl hn
  go_enter Tryd.func29, Tryd.ntmps29
  go_wp2_with fail
  obtain ⟨hown, hbase, hl, hn⟩ := HA.out
  obtain ⟨hsz, hdl⟩ := HS.out
  have hfr : Fresh w (Lib.bytesWorld w 5 s) := Fresh.of_below (Lib.bytesWorld_below w 5 s)
  have hrd : Rd (Lib.bytesWorld w 5 s) (fun k => k = w.heap.size) 1 (some ⟨w.heap.size, 0, none⟩) s.size (Lib.byteCells l) := by
    refine ⟨by simp [Lib.byteCells, hsz], fun _ => ⟨_, _, rfl, rfl, fun j u hu => ?_⟩⟩
    have hj : j < l.length := by
      rcases Nat.lt_or_ge j l.length with h | h
      · exact h
      · rw [List.getElem?_eq_none (by simpa [Lib.byteCells] using h)] at hu; cases hu
    rw [bcs_get l j hj] at hu
    injection hu with hu
    rw [Nat.zero_add, Lib.bytesWorld_cell w 5 s j (by omega), hdl, ← hu]
    simp [List.getD, hj]
  have hne : v.ownBlock ≠ some w.heap.size := fun e => by have := (own_lt hown e).2; omega
  have hsz1 : (Lib.bytesWorld w 5 s).heap.size = w.heap.size + 1 := Lib.bytesWorld_size w 5 s
  have HC := rPutBytes_any base v bs _ _ s.size (grownCap w s.size 0 5) l (Lib.bytesWorld w 5 s) (own_keep hown hfr (fun _ _ => trivial)) hrd (fun k hk => ⟨by rw [hk]; exact hne, by omega⟩) (by omega) (by omega)
  refine HC.mono ?_
  rintro e w2 ⟨⟨u, rfl, ho2, hn2⟩, hk2⟩
  have HN := Lib.hid (And.intro ho2 (And.intro (hn2.imp (fun h => h) (fun ⟨g, e, hg⟩ => (⟨g, e, by omega⟩ : ∃ g, u.ownBlock = some g ∧ w.heap.size ≤ g))) (hfr.comp hk2 (fun _ _ _ => trivial) (fun _ _ h => h))))
  clear hown hbase hl hn hsz hdl hfr hrd hne hsz1 HC ho2 hn2 hk2 hcv
  go_wp2
  go_ret
  exact ⟨⟨_, rfl, HN.out.1, HN.out.2.1⟩, HN.out.2.2⟩
end Go.Proofs.YtkgbhanpenpkmaaDoor
