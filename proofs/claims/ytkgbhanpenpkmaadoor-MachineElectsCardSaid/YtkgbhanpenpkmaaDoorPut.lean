/-
  WALKS OF wire.put, wire.PutInt and of the reference's: what they hand back is 'putB' behind what was there.
-/
import Derived.Test.YtkgbhanpenpkmaaDoorBase
import Derived.Test.YtkgbhanpenpkmaaDoorPure
import Derived.Laws.CopyOwn
namespace Go.Proofs.YtkgbhanpenpkmaaDoor
set_option linter.unusedVariables false
set_option linter.unusedSimpArgs false
open Go.RowKit
theorem u8_info : (Tryd.prog.info? 5).map (fun i => (i.zero, i.size, i.bytes)) = some (some (.int .u8 0), 1, 1) := by kernel_rfl

theorem etU8 : ET Tryd.prog 24 5 1 1 (.int .u8 0) := ⟨Tryd.underlying24, u8_info, rfl, by decide, by decide⟩

/-- What holds at each round's head of 'put''s loop. -/
def PutRel (x m y' : Nat) (cs : List UInt8) : Prop :=
  y' ≤ x ∧ cs.length = m ∧ m + (putB y').length = (putB x).length ∧ cs ++ putB y' = putB x
theorem PutRel.step {x m y' : Nat} {cs : List UInt8} (h : PutRel x m y' cs) (hy : 127 < y') :
    PutRel x (m + 1) (y' / 128) (cs ++ [UInt8.ofNat (y' % 128 + 128)]) := by
  obtain ⟨h1, h2, h3, h4⟩ := h
  have hp := putB_big hy
  rw [hp] at h3 h4
  refine ⟨by omega, by simp [h2], ?_, by simp [← h4]⟩
  simp at h3
  omega

set_option maxHeartbeats 400000 in
theorem put_any (base : Nat) (v : Value) (n : Nat) (bs : List UInt8) (x : Nat) (w : World) (hx : x ≤ 4611686018427387904) (hown : w.ownsRow base 5 1 v n (Lib.byteCells bs)) (hn : n ≤ 1099511627776) (hbase : base ≤ w.heap.size) :
    Calls Tryd.prog 70 #[v, .int .i64 (x : Int)] w fun e w' => ∃ v', e = .returned v' ∧ w'.ownsRow base 5 1 v' (n + (putB x).length) (Lib.byteCells (bs ++ putB x)) ∧ Keep (fun k => v.ownBlock ≠ some k) w w' ∧ Next w.heap.size v v' := by
  have hl9 := putB_len9 hx
  go_enter Tryd.func70, Tryd.ntmps70
  go_wp2
  go_loopw [0, 1] (fun b y wr => ∃ (m y' : Nat) (cs : List UInt8), y = .int .i64 (y' : Int) ∧ Hid (PutRel x m y' cs) ∧ wr.ownsRow base 5 1 b (n + m) (Lib.byteCells (bs ++ cs)) ∧ Keep (fun k => v.ownBlock ≠ some k) w wr ∧ Next w.heap.size v b) (fun _ y _ => (intOf y).toNat)
  case atStart => exact ⟨0, x, [], rfl, ⟨Nat.le_refl _, rfl, by simp, rfl⟩, by simpa using hown, Keep.refl _ _, Next.refl _ _⟩
  case round =>
    obtain ⟨m, y', cs, rfl, hp, ho, hk, hnx⟩ := hrel
    have hm : m + 1 ≤ 9 := by have := hp.out.2.2.1; have := putB_pos y'; omega
    have hy9 : y' < 9223372036854775808 := by have := hp.out.1; omega
    have HA := Lib.hid (i64_and_127 y' hy9)
    have HO := Lib.hid (i64_or_128 (y' % 128) (Nat.mod_lt _ (by decide)))
    have HB := Lib.hid (Nat.le_trans hbase hk.size)
    clear hy9 hx hl9 hown
    by_cases h : 127 < y'
    · go_wp2_with (at_builtin; refine wpList_app1 etU8 rfl (.tmp 7) (.tmp 12) rfl _ _ rfl base _ (n + m) _ rfl rfl ho ?_ HB.out ?_)
      case refine_2 =>
        intro v1 w1 ho1 hk1 hn1
        rw [HA.out, HO.out] at ho1
        have ho2 : w1.ownsRow base 5 1 v1 (n + (m + 1)) (Lib.byteCells (bs ++ (cs ++ [UInt8.ofNat (y' % 128 + 128)]))) := by
          have e : Lib.byteCells (bs ++ (cs ++ [UInt8.ofNat (y' % 128 + 128)])) = Lib.byteCells (bs ++ cs) ++ [Value.int .u8 (((y' % 128 + 128 : Nat) : Int) % 256)] := by
            simp only [Lib.byteCells, List.map_append, List.map_cons, List.map_nil, List.append_assoc]
            rw [u8_toNat _ (by omega)]
            congr 4
            omega
          rw [e]
          exact ho1
        have hk2 := hk.next hk1 hnx
        have hn2 := hnx.trans hn1 hk.size
        have hp2 := Lib.hid (hp.out.step h)
        clear ho1 ho hk hnx hp HA HO HB hk1 hn1
        go_wp2
        exact ⟨⟨m + 1, y' / 128, _, congrArg _ (by omega), hp2, ho2, hk2, hn2⟩, by simp [intOf]; omega⟩
      · omega
    · go_wp2_with (at_builtin; refine wpList_app1 etU8 rfl (.tmp 16) (.tmp 19) rfl _ _ rfl base _ (n + m) _ rfl rfl ho ?_ HB.out ?_)
      case refine_2 =>
        intro v1 w1 ho1 hk1 hn1
        have hk2 := hk.next hk1 hnx
        have hn2 := hnx.trans hn1 hk.size
        have ho2 : w1.ownsRow base 5 1 v1 (n + (putB x).length) (Lib.byteCells (bs ++ putB x)) := by
          obtain ⟨_, h2, h3, h4⟩ := hp.out
          have e1 : putB y' = [UInt8.ofNat y'] := putB_small (by omega)
          rw [e1] at h3 h4
          have e2 : Lib.byteCells (bs ++ putB x) = Lib.byteCells (bs ++ cs) ++ [Value.int .u8 (y' : Int)] := by
            rw [← h4]
            simp only [Lib.byteCells, List.map_append, List.map_cons, List.map_nil, List.append_assoc]
            rw [u8_toNat _ (by omega)]
          rw [e2, ← h3]
          exact ho1
        clear ho1 ho hk hnx hp HA HO HB hk1 hn1
        go_wp2
        go_ret
        exact ⟨v1, rfl, ho2, hk2, hn2⟩
      · omega

/-- 'PutInt' of a number that is none. -/
theorem PutInt_bad (b : Value) (x : Int) (w : World) (hx : x < 0 ∨ 4611686018427387904 < x) :
    Calls Tryd.prog 47 #[b, .int .i64 x] w fun e w' => e = .returned (.tuple #[.slice none 0 0, .int .i64 1]) ∧ w = w' := by
  rcases hx with hx | hx
  · go_enter Tryd.func47, Tryd.ntmps47
    go_wp2
    go_ret2
    exact ⟨rfl, rfl⟩
  · have h0 : ¬ x < 0 := by omega
    go_enter Tryd.func47, Tryd.ntmps47
    go_wp2
    go_ret2
    exact ⟨rfl, rfl⟩


theorem put_int (base : Nat) (v : Value) (n : Nat) (bs : List UInt8) (x : Int) (w : World) (h0 : 0 ≤ x) (hx : x ≤ 4611686018427387904) (hown : w.ownsRow base 5 1 v n (Lib.byteCells bs)) (hn : n ≤ 1099511627776) (hbase : base ≤ w.heap.size) :
    Calls Tryd.prog 70 #[v, .int .i64 x] w fun e w' => ∃ v', e = .returned v' ∧ w'.ownsRow base 5 1 v' (n + (putB x.toNat).length) (Lib.byteCells (bs ++ putB x.toNat)) ∧ Keep (fun k => v.ownBlock ≠ some k) w w' ∧ Next w.heap.size v v' := by
  obtain ⟨k, rfl⟩ := Int.eq_ofNat_of_zero_le h0
  exact put_any base v n bs k w (by omega) hown hn hbase

set_option maxHeartbeats 400000 in
theorem PutInt_any (Z : Nat → Prop) (A : Option Addr) (n c : Nat) (bs : List UInt8) (x : Int) (w : World) (h0 : 0 ≤ x) (hx : x ≤ 4611686018427387904) (hb : Rd w Z 1 A n (Lib.byteCells bs)) (hn : n ≤ 1099511627770) :
    Calls Tryd.prog 47 #[.slice A n c, .int .i64 x] w fun e w' => ∃ g c', e = .returned (.tuple #[.slice (some ⟨g, 0, none⟩) (n + (putB x.toNat).length) c', .int .i64 0]) ∧ w'.ownsRow w.heap.size 5 1 (.slice (some ⟨g, 0, none⟩) (n + (putB x.toNat).length) c') (n + (putB x.toNat).length) (Lib.byteCells (bs ++ putB x.toNat)) ∧ Fresh w w' ∧ w.heap.size ≤ g := by
  have hlen : bs.length = n := by simpa [Lib.byteCells] using hb.1
  have HL := Lib.hid hlen
  clear hlen
  have HX := Lib.hid (And.intro h0 hx)
  have g0 : ¬ x < 0 := by omega
  have g1 : ¬ (4611686018427387904 : Int) < x := by omega
  clear h0 hx
  go_enter Tryd.func47, Tryd.ntmps47
  go_wp2_with (at_make; refine wpList_makeN etU8 rfl rfl (.tmp 14) (.tmp 17) rfl w.heap.size .i64 .i64 _ _ n (n + 9) rfl rfl rfl (by omega) (by omega) (by omega) (Nat.le_refl _) ?_)
  intro w1 ho1 hk1 hs1
  have hb1 := hb.keep (hk1.weaken (fun _ _ _ => trivial))
  go_wp2_with (refine wpList_copyN etU8 rfl (.tmp 19) (.tmp 20) rfl w.heap.size w.heap.size n (n + 9) _ rfl ho1 Z A n c _ rfl hb1 (Nat.le_refl _) (bcs_one _) ?_)
  intro w2 ho2 hk2
  have hs2 : w.heap.size ≤ w2.heap.size := Nat.le_trans hk1.size hk2.size
  have hk12 : Fresh w w2 := hk1.comp hk2 (fun _ _ h => h) (fun i hi _ => by omega)
  clear ho1 hb1 hb hs1
  go_wp2_with fail
  refine (put_int w.heap.size _ n bs x _ HX.out.1 HX.out.2 ho2 (by omega) hs2).mono ?_
  rintro e w3 ⟨v3, rfl, ho3, hk3, hn3⟩
  have hk13 : Fresh w w3 := hk12.comp hk3 (fun _ _ h => h) (fun i hi _ => by simp [Value.ownBlock]; omega)
  have hpos := putB_pos x.toNat
  obtain ⟨g3, c3, rfl, hg3, _⟩ := own_form ho3 (by omega)
  clear hk1 hk2 hk12 hk3 hn3 ho2 HX HL hpos
  go_wp2
  go_ret2
  exact ⟨g3, c3, rfl, ho3, hk13, hg3⟩
end Go.Proofs.YtkgbhanpenpkmaaDoor
