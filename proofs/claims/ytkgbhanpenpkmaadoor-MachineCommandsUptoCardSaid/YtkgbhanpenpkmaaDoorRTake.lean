/-
  WALK OF quorateref01's 'TakeInt': it reads what 'takeB' reads.
-/
import Derived.Test.YtkgbhanpenpkmaaDoorTake
namespace Go.Proofs.YtkgbhanpenpkmaaDoor
set_option linter.unusedVariables false
set_option linter.unusedSimpArgs false
open Go.RowKit

/-- 'v + c%128*worth'. -/
theorem rtake_step (v a k : Nat) (hv : v < 2 ^ (7 * k)) (ha : a < 256) (hk : k < 9) (wo : Int) (hw : wo = 2 ^ (7 * k)) :
    wrap64 ((v : Int) + wrap64 ((a : Int) % 128 * wo)) = ((v + (a % 128) * 2 ^ (7 * k) : Nat) : Int) := by
  have hm : a % 128 < 128 := Nat.mod_lt _ (by decide)
  have hp : 2 ^ (7 * k) ≤ 2 ^ 56 := Nat.pow_le_pow_right (by decide) (by omega)
  have hb : (a % 128) * 2 ^ (7 * k) ≤ 127 * 2 ^ 56 := Nat.mul_le_mul (by omega) hp
  have e2 : (a : Int) % 128 * wo = (((a % 128) * 2 ^ (7 * k) : Nat) : Int) := by
    rw [hw, Int.natCast_mul, Int.natCast_pow]; rfl
  rw [e2]
  have e3 : wrap64 (((a % 128) * 2 ^ (7 * k) : Nat) : Int) = (((a % 128) * 2 ^ (7 * k) : Nat) : Int) := by unfold wrap64; omega
  rw [e3]
  unfold wrap64
  omega

set_option maxRecDepth 20000 in
set_option maxHeartbeats 1000000 in
theorem rTakeInt_in (Z : Nat → Prop) (A : Option Addr) (n c : Nat) (bs : List UInt8) (p : Nat) (w : World) (hp : p ≤ n) (hb : Rd w Z 1 A n (Lib.byteCells bs)) (hn : n ≤ 1099511627770) :
    Calls Tryd.prog 51 #[.slice A n c, .int .i64 (p : Int)] w fun e w' => TakeRes p (takeB (bs.drop p)) e ∧ w = w' := by
  have HB := Lib.hid hb
  have hlen : bs.length = n := by simpa [Lib.byteCells] using hb.1
  have HN := Lib.hid hlen
  clear hlen hb
  have h0 : ¬ (p : Int) < 0 := by omega
  have h1 : ¬ (n : Int) < (p : Int) := by omega
  go_enter Tryd.func51, Tryd.ntmps51
  go_wp2
  go_loop [7, 8, 9, 10] (fun v wo i _ => ∃ (k : Nat) (y u : Int), k ≤ 9 ∧ i = .int .i64 (k : Int) ∧ v = .int .i64 y ∧ wo = .int .i64 u ∧ Hid ((∃ v' : Nat, y = (v' : Int) ∧ p + k ≤ n ∧ v' < 2 ^ (7 * k) ∧ takeGo (9 - k) (bs.drop (p + k)) k v' = takeB (bs.drop p)) ∧ (k < 9 → u = 2 ^ (7 * k)))) (fun _ _ i _ => 9 - (intOf i).toNat)
  case atStart => exact ⟨0, 0, 1, by omega, rfl, rfl, rfl, ⟨0, rfl, by omega, by decide, rfl⟩, fun _ => rfl⟩
  case round =>
    obtain ⟨k, y, u, hk, rfl, rfl, rfl, HR⟩ := hrel
    obtain ⟨⟨v', hy, hpk, hv', hgo⟩, hu0⟩ := HR.out
    by_cases hk9 : k < 9
    · have hu := hu0 hk9
      clear hu0
      obtain ⟨f, hf⟩ : ∃ f, 9 - k = f + 1 := ⟨8 - k, by omega⟩
      rw [hf] at hgo
      by_cases hin : p + k < n
      · obtain ⟨b, o, rfl, hzb, hll, hcell⟩ := HB.out.at1 hin
        have hkb : p + k < bs.length := by rw [HN.out]; exact hin
        rw [show (Lib.byteCells bs)[p + k] = .int .u8 (bs[p + k].toNat : Int) by simp [Lib.byteCells]] at hcell
        rw [takeGo_cons f bs (p + k) k v' hkb] at hgo
        obtain ⟨ch, hch⟩ : ∃ ch : UInt8, ch = bs[p + k] := ⟨_, rfl⟩
        rw [← hch] at hcell hgo
        obtain ⟨cz, hcz⟩ : ∃ cz : Int, cz = (ch.toNat : Int) := ⟨_, rfl⟩
        have hE := rtake_step v' ch.toNat k hv' ch.toNat_lt hk9 u hu
        have hlt := take_lt v' ch.toNat k hv'
        have hz63 : v' + (ch.toNat % 128) * 2 ^ (7 * k) < 2 ^ 63 := Nat.lt_of_lt_of_le hlt (Nat.pow_le_pow_right (by decide) (by omega))
        obtain ⟨z, hz⟩ : ∃ z : Nat, z = v' + (ch.toNat % 128) * 2 ^ (7 * k) := ⟨_, rfl⟩
        obtain ⟨zi, hzi⟩ : ∃ zi : Int, zi = (z : Int) := ⟨_, rfl⟩
        rw [← hz] at hgo hlt hz63 hE
        rw [← hy, ← hcz, ← hzi] at hE
        rw [← hcz] at hcell
        have hc0 : 0 ≤ cz := by omega
        have hc256 : cz < 256 := by have := ch.toNat_lt; omega
        have g0 : 0 ≤ zi := by omega
        have HE := Lib.hid hE
        have hu8 : k < 8 → wrap64 (u * 128) = 2 ^ (7 * (k + 1)) := fun h8 => by
          have hp : (2 : Nat) ^ (7 * k) ≤ 2 ^ 49 := Nat.pow_le_pow_right (by decide) (by omega)
          have e1 : u = ((2 ^ (7 * k) : Nat) : Int) := by rw [hu, Int.natCast_pow]; rfl
          have e2 : (2 : Int) ^ (7 * (k + 1)) = ((2 ^ (7 * (k + 1)) : Nat) : Int) := by rw [Int.natCast_pow]; rfl
          rw [e2, show 7 * (k + 1) = 7 * k + 7 by omega, Nat.pow_add, e1]
          unfold wrap64
          omega
        have HH := Lib.hid (And.intro hcz (And.intro hzi (And.intro hlt (And.intro hz63 (And.intro hgo (And.intro hf hu8))))))
        clear hzb hll hch hcz hE hlt hz63 hz hzi hgo hv' hpk hy hf HR hu hu8
        go_upto_region 12 with (fail)
        rw [HE.out]
        have HV := Lib.hid HH.out
        by_cases hbig : 127 < cz
        · have hfin : ∃ v' : Nat, zi = (v' : Int) ∧ p + (k + 1) ≤ n ∧ v' < 2 ^ (7 * (k + 1)) ∧ takeGo (9 - (k + 1)) (bs.drop (p + (k + 1))) (k + 1) v' = takeB (bs.drop p) := by
            obtain ⟨hcz, hzi, hlt, _, hgo, hf, _⟩ := HV.out
            rw [if_pos (by omega)] at hgo
            refine ⟨z, hzi, by omega, hlt, ?_⟩
            rw [show 9 - (k + 1) = f by omega, show p + (k + 1) = p + k + 1 by omega]
            exact hgo
          have HF := Lib.hid (And.intro hfin HV.out.2.2.2.2.2.2)
          clear hfin HV HH HE
          by_cases hk8 : k < 8
          · go_wp2
            exact ⟨⟨k + 1, zi, _, by omega, congrArg _ (by omega), rfl, rfl, HF.out.1, fun _ => HF.out.2 hk8⟩, by simp [intOf]; omega⟩
          · go_wp2
            exact ⟨⟨k + 1, zi, _, by omega, congrArg _ (by omega), rfl, rfl, HF.out.1, fun h => by omega⟩, by simp [intOf]; omega⟩
        · by_cases hzero : cz = 0 ∧ 0 < k
          · obtain ⟨rfl, hk0⟩ := hzero
            have hfin : TakeRes p (takeB (bs.drop p)) (.returned (.tuple #[.int .i64 0, .int .i64 0, .int .i64 14])) := by
              obtain ⟨hcz, hzi, hlt, _, hgo, hf, _⟩ := HV.out
              rw [if_neg (by omega), if_pos (.inl ⟨by omega, hk0⟩)] at hgo
              rw [← hgo]; rfl
            have HF := Lib.hid hfin
            clear hfin HV HH HE
            go_wp2
            go_ret3
            exact ⟨HF.out, rfl⟩
          · by_cases hbz : (4611686018427387904 : Int) < zi
            · have hfin : TakeRes p (takeB (bs.drop p)) (.returned (.tuple #[.int .i64 0, .int .i64 0, .int .i64 14])) := by
                obtain ⟨hcz, hzi, hlt, _, hgo, hf, _⟩ := HV.out
                rw [if_neg (by omega), if_pos (.inr (by omega))] at hgo
                rw [← hgo]; rfl
              have HF := Lib.hid hfin
              clear hfin HV HH HE
              by_cases hc00 : cz = 0
              · obtain rfl : k = 0 := by omega
                subst hc00
                go_wp2
                go_ret3
                exact ⟨HF.out, rfl⟩
              · go_wp2
                go_ret3
                exact ⟨HF.out, rfl⟩
            · have hfin : TakeRes p (takeB (bs.drop p)) (.returned (.tuple #[.int .i64 zi, .int .i64 ((p : Int) + (k : Int) + 1), .int .i64 0])) := by
                obtain ⟨hcz, hzi, hlt, _, hgo, hf, _⟩ := HV.out
                rw [if_neg (by omega), if_neg (by omega)] at hgo
                rw [← hgo]
                unfold TakeRes
                rw [hzi]
                simp
                omega
              have HF := Lib.hid hfin
              clear hfin HV HH HE
              by_cases hc00 : cz = 0
              · obtain rfl : k = 0 := by omega
                subst hc00
                go_wp2
                go_ret3
                exact ⟨HF.out, rfl⟩
              · go_wp2
                go_ret3
                exact ⟨HF.out, rfl⟩
      · have hfin : TakeRes p (takeB (bs.drop p)) (.returned (.tuple #[.int .i64 0, .int .i64 0, .int .i64 10])) := by
          rw [takeGo_end f bs (p + k) k v' (by rw [HN.out]; omega)] at hgo
          rw [← hgo]; rfl
        have HF := Lib.hid hfin
        clear hfin hgo hf hv' hpk HR hy hu
        go_wp2
        go_ret3
        exact ⟨HF.out, rfl⟩
    · obtain rfl : k = 9 := by omega
      have hfin : TakeRes p (takeB (bs.drop p)) (.returned (.tuple #[.int .i64 0, .int .i64 0, .int .i64 14])) := by
        rw [← hgo]; rfl
      have HF := Lib.hid hfin
      clear hfin hgo hv' hpk HR hy hu0
      go_wp2
      go_ret3
      exact ⟨HF.out, rfl⟩
end Go.Proofs.YtkgbhanpenpkmaaDoor
