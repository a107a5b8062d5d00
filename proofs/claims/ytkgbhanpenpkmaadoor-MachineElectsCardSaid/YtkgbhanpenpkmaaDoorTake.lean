/-
  WALK OF wire.TakeInt: it reads what 'takeB' reads.
-/
import Derived.Test.YtkgbhanpenpkmaaDoorPut
namespace Go.Proofs.YtkgbhanpenpkmaaDoor
set_option linter.unusedVariables false
set_option linter.unusedSimpArgs false
open Go.RowKit
/-- Read a number off the bytes l, i bytes of it read already, v so far: (number, bytes read, error). -/
def takeGo : Nat → List UInt8 → Nat → Nat → Nat × Nat × Int
  | 0, _, _, _ => (0, 0, 14)
  | _ + 1, [], _, _ => (0, 0, 10)
  | f + 1, c :: r, i, v =>
    if 127 < c.toNat then takeGo f r (i + 1) (v + (c.toNat % 128) * 2 ^ (7 * i))
    else if (c.toNat = 0 ∧ 0 < i) ∨ 4611686018427387904 < v + (c.toNat % 128) * 2 ^ (7 * i) then (0, 0, 14)
    else (v + (c.toNat % 128) * 2 ^ (7 * i), i + 1, 0)
def takeB (l : List UInt8) : Nat × Nat × Int := takeGo 9 l 0 0

theorem takeGo_cons (f : Nat) (l : List UInt8) (p i v : Nat) (h : p < l.length) : takeGo (f + 1) (l.drop p) i v =
    if 127 < l[p].toNat then takeGo f (l.drop (p + 1)) (i + 1) (v + (l[p].toNat % 128) * 2 ^ (7 * i))
    else if (l[p].toNat = 0 ∧ 0 < i) ∨ 4611686018427387904 < v + (l[p].toNat % 128) * 2 ^ (7 * i) then (0, 0, 14)
    else (v + (l[p].toNat % 128) * 2 ^ (7 * i), i + 1, 0) := by
  rw [List.drop_eq_getElem_cons h]; rfl
theorem takeGo_end (f : Nat) (l : List UInt8) (p i v : Nat) (h : l.length ≤ p) : takeGo (f + 1) (l.drop p) i v = (0, 0, 10) := by
  rw [List.drop_of_length_le h]; rfl
/-- What TakeInt hands back. -/
def TakeRes (p : Nat) (r : Nat × Nat × Int) (e : Ending) : Prop := e = .returned (.tuple #[.int .i64 (r.1 : Int), .int .i64 (if r.2.2 = 0 then ((p + r.2.1 : Nat) : Int) else 0), .int .i64 r.2.2])

set_option maxHeartbeats 400000 in
theorem TakeInt_in (Z : Nat → Prop) (A : Option Addr) (n c : Nat) (bs : List UInt8) (p : Nat) (w : World) (hp : p ≤ n) (hb : Rd w Z 1 A n (Lib.byteCells bs)) (hn : n ≤ 1099511627770) :
    Calls Tryd.prog 50 #[.slice A n c, .int .i64 (p : Int)] w fun e w' => TakeRes p (takeB (bs.drop p)) e ∧ w = w' := by
  have HB := Lib.hid hb
  have hlen : bs.length = n := by simpa [Lib.byteCells] using hb.1
  have HN := Lib.hid hlen
  clear hlen hb
  have h0 : ¬ (p : Int) < 0 := by omega
  have h1 : ¬ (n : Int) < (p : Int) := by omega
  go_enter Tryd.func50, Tryd.ntmps50
  go_wp2
  go_loop [7, 18] (fun v i => ∃ (k : Nat) (y : Int), k ≤ 9 ∧ i = .int .i64 (k : Int) ∧ v = .int .i64 y ∧ Hid (∃ v' : Nat, y = (v' : Int) ∧ p + k ≤ n ∧ v' < 2 ^ (7 * k) ∧ takeGo (9 - k) (bs.drop (p + k)) k v' = takeB (bs.drop p))) (fun _ i => 9 - (intOf i).toNat)
  case atStart => exact ⟨0, 0, by omega, rfl, rfl, 0, rfl, by omega, by decide, rfl⟩
  case round =>
    obtain ⟨k, y, hk, rfl, rfl, HR⟩ := hrel
    obtain ⟨v', hy, hpk, hv', hgo⟩ := HR.out
    by_cases hk9 : k < 9
    · obtain ⟨f, hf⟩ : ∃ f, 9 - k = f + 1 := ⟨8 - k, by omega⟩
      rw [hf] at hgo
      by_cases hin : p + k < n
      · obtain ⟨b, o, rfl, hzb, hll, hcell⟩ := HB.out.at1 hin
        have hkb : p + k < bs.length := by rw [HN.out]; exact hin
        rw [show (Lib.byteCells bs)[p + k] = .int .u8 (bs[p + k].toNat : Int) by simp [Lib.byteCells]] at hcell
        rw [takeGo_cons f bs (p + k) k v' hkb] at hgo
        obtain ⟨ch, hch⟩ : ∃ ch : UInt8, ch = bs[p + k] := ⟨_, rfl⟩
        rw [← hch] at hcell hgo
        obtain ⟨cz, hcz⟩ : ∃ cz : Int, cz = (ch.toNat : Int) := ⟨_, rfl⟩
        have hE := take_step v' ch.toNat k hv' ch.toNat_lt hk9
        have hlt := take_lt v' ch.toNat k hv'
        have hz63 : v' + (ch.toNat % 128) * 2 ^ (7 * k) < 2 ^ 63 := Nat.lt_of_lt_of_le hlt (Nat.pow_le_pow_right (by decide) (by omega))
        obtain ⟨z, hz⟩ : ∃ z : Nat, z = v' + (ch.toNat % 128) * 2 ^ (7 * k) := ⟨_, rfl⟩
        obtain ⟨zi, hzi⟩ : ∃ zi : Int, zi = (z : Int) := ⟨_, rfl⟩
        rw [← hz] at hgo hlt hz63 hE
        rw [← hy, ← hcz, ← hzi] at hE
        rw [← hcz] at hcell
        have hc0 : 0 ≤ cz := by omega
        have hc256 : cz < 256 := by have := ch.toNat_lt; omega
        have g0 : 0 ≤ zi := by omega
        have HE := Lib.hid hE
        have HH := Lib.hid (And.intro hcz (And.intro hzi (And.intro hlt (And.intro hz63 (And.intro hgo hf)))))
        clear hzb hll hch hcz hE hlt hz63 hz hzi hgo hv' hpk hy hf HR
        go_upto_region 11 with (fail)
        rw [HE.out]
        have HV := Lib.hid HH.out
        by_cases hbig : 127 < cz
        · have hfin : ∃ v' : Nat, zi = (v' : Int) ∧ p + (k + 1) ≤ n ∧ v' < 2 ^ (7 * (k + 1)) ∧ takeGo (9 - (k + 1)) (bs.drop (p + (k + 1))) (k + 1) v' = takeB (bs.drop p) := by
            obtain ⟨hcz, hzi, hlt, _, hgo, hf⟩ := HV.out
            rw [if_pos (by omega)] at hgo
            refine ⟨z, hzi, by omega, hlt, ?_⟩
            rw [show 9 - (k + 1) = f by omega, show p + (k + 1) = p + k + 1 by omega]
            exact hgo
          have HF := Lib.hid hfin
          clear hfin HV HH HE
          go_wp2
          exact ⟨⟨k + 1, zi, by omega, congrArg _ (by omega), rfl, HF.out⟩, by simp [intOf]; omega⟩
        · by_cases hzero : cz = 0 ∧ 0 < k
          · obtain ⟨rfl, hk0⟩ := hzero
            have hfin : TakeRes p (takeB (bs.drop p)) (.returned (.tuple #[.int .i64 0, .int .i64 0, .int .i64 14])) := by
              obtain ⟨hcz, hzi, hlt, _, hgo, hf⟩ := HV.out
              rw [if_neg (by omega), if_pos (.inl ⟨by omega, hk0⟩)] at hgo
              rw [← hgo]; rfl
            have HF := Lib.hid hfin
            clear hfin HV HH HE
            go_wp2
            go_ret3
            exact ⟨HF.out, rfl⟩
          · by_cases hbz : (4611686018427387904 : Int) < zi
            · have hfin : TakeRes p (takeB (bs.drop p)) (.returned (.tuple #[.int .i64 0, .int .i64 0, .int .i64 14])) := by
                obtain ⟨hcz, hzi, hlt, _, hgo, hf⟩ := HV.out
                rw [if_neg (by omega), if_pos (.inr (by omega))] at hgo
                rw [← hgo]; rfl
              have HF := Lib.hid hfin
              clear hfin HV HH HE
              by_cases hc00 : cz = 0
              · obtain rfl : k = 0 := by omega
                subst hc00
                go_wp2
                go_ret3
                exact ⟨HF.out, rfl⟩
              · go_wp2
                go_ret3
                exact ⟨HF.out, rfl⟩
            · have hfin : TakeRes p (takeB (bs.drop p)) (.returned (.tuple #[.int .i64 zi, .int .i64 ((p : Int) + (k : Int) + 1), .int .i64 0])) := by
                obtain ⟨hcz, hzi, hlt, _, hgo, hf⟩ := HV.out
                rw [if_neg (by omega), if_neg (by omega)] at hgo
                rw [← hgo]
                unfold TakeRes
                rw [hzi]
                simp
                omega
              have HF := Lib.hid hfin
              clear hfin HV HH HE
              by_cases hc00 : cz = 0
              · obtain rfl : k = 0 := by omega
                subst hc00
                go_wp2
                go_ret3
                exact ⟨HF.out, rfl⟩
              · go_wp2
                go_ret3
                exact ⟨HF.out, rfl⟩
      · have hfin : TakeRes p (takeB (bs.drop p)) (.returned (.tuple #[.int .i64 0, .int .i64 0, .int .i64 10])) := by
          rw [takeGo_end f bs (p + k) k v' (by rw [HN.out]; omega)] at hgo
          rw [← hgo]; rfl
        have HF := Lib.hid hfin
        clear hfin hgo hf hv' hpk HR hy
        go_wp2
        go_ret3
        exact ⟨HF.out, rfl⟩
    · obtain rfl : k = 9 := by omega
      have hfin : TakeRes p (takeB (bs.drop p)) (.returned (.tuple #[.int .i64 0, .int .i64 0, .int .i64 14])) := by
        rw [← hgo]; rfl
      have HF := Lib.hid hfin
      clear hfin hgo hv' hpk HR hy
      go_wp2
      go_ret3
      exact ⟨HF.out, rfl⟩
end Go.Proofs.YtkgbhanpenpkmaaDoor
