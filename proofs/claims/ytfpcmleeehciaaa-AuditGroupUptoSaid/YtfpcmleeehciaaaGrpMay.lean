/-
  WALK OF mayMark: RULE 1.
-/
import Derived.Test.YtfpcmleeehciaaaGrpQ
namespace Go.Proofs.Ytfpcmleeehciaaa
set_option linter.unusedVariables false
set_option linter.unusedSimpArgs false
open Go.RowKit Go.Shelf

set_option maxRecDepth 20000 in
set_option maxHeartbeats 4000000 in
theorem may_any {w : World} {B : Nat} {T : Nat → Tag} {F : Fix} {K k : Nat} {s : GrpD} (hG : GM w B T F K s) (hB : BdG s k) (hk : k ≤ 1048576) (x : MkV) (hx : MkInt x.d) :
    Calls Try.prog 22 #[.pointer (some ⟨F.g, 0, none⟩), .agg x.cells.toArray] w fun e w' => e = .returned (.bool (mayB s x.d)) ∧ Fresh w w' := by
  obtain ⟨r, hr⟩ : ∃ r, r = mayB s x.d := ⟨_, rfl⟩
  rw [← hr]
  have HR := Lib.hid hr
  have H := Lib.hid (And.intro hG (And.intro hB hx))
  have hcl := hB.clock
  clear hG hB hx hr
  go_enter Try.func22, Try.ntmps22
  go_wp2_with fail
  obtain ⟨w1, hw1⟩ : ∃ w1, w1 = w.alloc (.cells x.cells.toArray 50) := ⟨_, rfl⟩
  obtain ⟨b, hb⟩ : ∃ b, b = w.heap.size := ⟨_, rfl⟩
  rw [← hw1, ← hb]
  have hf1 : Fresh w w1 := hw1 ▸ (Keep.refl _ w).alloc _
  have hm : MkB w1 b x := by rw [hw1, hb]; exact MkB.new w x
  have hg := (H.out.1.fresh hf1).blk
  have g0 : w1.cell? ⟨F.g, 0, none⟩ = some (.int .i64 s.at_) := hg.cell 0
  have g1 : w1.cell? ⟨F.g, 1, none⟩ = some (.int .i64 (s.clock : Int)) := hg.cell 1
  have g2 : w1.cell? ⟨F.g, 2, none⟩ = some (.map (some F.u)) := hg.cell 2
  have g3 : w1.cell? ⟨F.g, 3, none⟩ = some (.map (some F.l)) := hg.cell 3
  have g4 : w1.cell? ⟨F.g, 4, none⟩ = some (.map (some F.v)) := hg.cell 4
  have c0 := hm.at_; have c1 := hm.kind; have c2 := hm.node; have c3 := hm.inc; have c13 := hm.n
  have H1 := Lib.hid (And.intro hf1 (H.out.1.fresh hf1))
  obtain ⟨za, hza⟩ : ∃ z, z = x.d.at_ := ⟨_, rfl⟩
  obtain ⟨zk, hzk⟩ : ∃ z, z = x.d.kind := ⟨_, rfl⟩
  obtain ⟨zn, hzn⟩ : ∃ z, z = x.d.node := ⟨_, rfl⟩
  obtain ⟨zi, hzi⟩ : ∃ z, z = x.d.inc := ⟨_, rfl⟩
  obtain ⟨zm, hzm⟩ : ∃ z, z = x.d.n := ⟨_, rfl⟩
  obtain ⟨sa, hsa⟩ : ∃ z, z = s.at_ := ⟨_, rfl⟩
  obtain ⟨sc, hsc⟩ : ∃ z, z = s.clock := ⟨_, rfl⟩
  rw [← hza] at c0; rw [← hzk] at c1; rw [← hzn] at c2; rw [← hzi] at c3; rw [← hzm] at c13; rw [← hsa] at g0; rw [← hsc] at g1 hcl
  have E := Lib.hid (And.intro hza (And.intro hzk (And.intro hzn (And.intro hzi (And.intro hzm (And.intro hsa hsc))))))
  have HD := Lib.hid (show r = (if za < 0 ∨ za < sa ∨ zk < 1 ∨ 16 < zk then false else if zk = 15 then decide (zn = 0 ∧ zi = 0 ∧ zm = (sc : Int) + 1) else if zn < 0 ∨ 16 ≤ zn then false else if zk = 1 then decide (s.up zn = 0 ∧ s.last zn < zi) else if s.up zn = 0 ∨ zi ≠ s.up zn then false else decide (zk = 2) || !(s.life (zn, zi)).halted) by
    rw [HR.out, hza, hzk, hzn, hzi, hzm, hsa, hsc]; rfl)
  clear hw1 hb hf1 hm hg hza hzk hzn hzi hzm hsa hsc HR
  by_cases h1 : za < 0 ∨ za < sa ∨ zk < 1 ∨ 16 < zk
  · have hfin := HD.out
    rw [if_pos h1] at hfin
    subst hfin
    have hcs : za < 0 ∨ (¬ za < 0 ∧ za < sa) ∨ (¬ za < 0 ∧ ¬ za < sa ∧ zk < 1) ∨ (¬ za < 0 ∧ ¬ za < sa ∧ ¬ zk < 1 ∧ 16 < zk) := by omega
    clear h1
    rcases hcs with h | ⟨n1, h⟩ | ⟨n1, n2, h⟩ | ⟨n1, n2, n3, h⟩
    all_goals
      go_quiet (fail)
      go_wp2_with fail
      go_ret
      exact ⟨rfl, by (repeat' (with_reducible refine Keep.drewN ?_ _)); exact H1.out.1⟩
  · have hfin := HD.out
    rw [if_neg h1] at hfin
    have n1 : ¬ za < 0 := fun h => h1 (.inl h)
    have n2 : ¬ za < sa := fun h => h1 (.inr (.inl h))
    have n3 : ¬ zk < 1 := fun h => h1 (.inr (.inr (.inl h)))
    have n4 : ¬ 16 < zk := fun h => h1 (.inr (.inr (.inr h)))
    clear h1 HD
    have HD := Lib.hid hfin
    clear hfin
    go_quiet (fail)
    rename_i q1
    clear g0 c0
    by_cases hk15 : zk = 15
    · subst hk15
      have hfin := HD.out
      rw [if_pos rfl] at hfin
      have b15 : ((15 : Int) == 15) = true := by decide
      go_wp2_with fail
      have hcs : zn ≠ 0 ∨ (zn = 0 ∧ zi ≠ 0) ∨ (zn = 0 ∧ zi = 0 ∧ zm ≠ (sc : Int) + 1) ∨ (zn = 0 ∧ zi = 0 ∧ zm = (sc : Int) + 1) := by omega
      have hw : IntKind.i64.wrap ((sc : Int) + 1) = (sc : Int) + 1 := by rw [IntWalk.i64_in _ (by omega)]
      rcases hcs with h | ⟨rfl, h⟩ | ⟨rfl, rfl, h⟩ | ⟨rfl, rfl, rfl⟩
      · have hb : (zn == 0) = false := by simpa using h
        obtain rfl : r = false := by rw [hfin]; simp [h]
        clear hfin
        go_quiet (fail)
        go_wp2_with fail
        go_ret
        exact ⟨rfl, by (repeat' (with_reducible refine Keep.drewN ?_ _)); exact H1.out.1⟩
      · have hb : (zi == 0) = false := by simpa using h
        obtain rfl : r = false := by rw [hfin]; simp [h]
        clear hfin
        go_quiet (fail)
        go_wp2_with fail
        go_ret
        exact ⟨rfl, by (repeat' (with_reducible refine Keep.drewN ?_ _)); exact H1.out.1⟩
      · have hb : (zm == (sc : Int) + 1) = false := by simpa using h
        obtain rfl : r = false := by rw [hfin]; simp [h]
        clear hfin
        go_quiet (fail)
        go_wp2_with fail
        go_ret
        exact ⟨rfl, by (repeat' (with_reducible refine Keep.drewN ?_ _)); exact H1.out.1⟩
      · obtain rfl : r = true := by rw [hfin]; simp
        clear hfin
        go_quiet (fail)
        go_wp2_with fail
        go_ret
        exact ⟨rfl, by (repeat' (with_reducible refine Keep.drewN ?_ _)); exact H1.out.1⟩
    · have hfin := HD.out
      rw [if_neg hk15] at hfin
      have b15 : (zk == 15) = false := by simpa using hk15
      clear hk15 HD g1 c13
      by_cases h2 : zn < 0 ∨ 16 ≤ zn
      · rw [if_pos h2] at hfin
        subst hfin
        have hcs : zn < 0 ∨ (¬ zn < 0 ∧ 16 ≤ zn) := by omega
        clear h2
        rcases hcs with h | ⟨m1, h⟩
        all_goals
          go_wp2_with fail
          go_ret
          exact ⟨rfl, by (repeat' (with_reducible refine Keep.drewN ?_ _)); exact H1.out.1⟩
      · rw [if_neg h2] at hfin
        have m1 : ¬ zn < 0 := fun h => h2 (.inl h)
        have m2 : ¬ 16 ≤ zn := fun h => h2 (.inr h)
        clear h2
        have HD := Lib.hid hfin
        clear hfin
        have Lu := H1.out.2.up.look (z := zn) ⟨by omega, by omega⟩
        have Ll := H1.out.2.last.look (z := zn) ⟨by omega, by omega⟩
        obtain ⟨u, hu⟩ : ∃ u, u = s.up zn := ⟨_, rfl⟩
        obtain ⟨l, hl⟩ : ∃ l, l = s.last zn := ⟨_, rfl⟩
        rw [← hu] at Lu
        rw [← hl] at Ll
        have EU := Lib.hid (And.intro hu hl)
        clear hu hl
        go_wp2_with fail
        go_quiet (fail)
        rename_i q2
        clear Lu g2
        by_cases hk1 : zk = 1
        · subst hk1
          have hfin := HD.out
          rw [if_pos rfl, ← EU.out.1, ← EU.out.2] at hfin
          go_wp2_with fail
          have hcs : u ≠ 0 ∨ (u = 0 ∧ ¬ l < zi) ∨ (u = 0 ∧ l < zi) := by omega
          rcases hcs with h | ⟨rfl, h⟩ | ⟨rfl, h⟩
          · have hb : (u == 0) = false := by simpa using h
            obtain rfl : r = false := by rw [hfin]; simp [h]
            clear hfin
            go_quiet (fail)
            go_wp2_with fail
            go_ret
            exact ⟨rfl, by (repeat' (with_reducible refine Keep.drewN ?_ _)); exact H1.out.1⟩
          · obtain rfl : r = false := by rw [hfin]; simp [h]
            clear hfin
            go_quiet (fail)
            go_wp2_with fail
            go_ret
            exact ⟨rfl, by (repeat' (with_reducible refine Keep.drewN ?_ _)); exact H1.out.1⟩
          · obtain rfl : r = true := by rw [hfin]; simp [h]
            clear hfin
            go_quiet (fail)
            go_wp2_with fail
            go_ret
            exact ⟨rfl, by (repeat' (with_reducible refine Keep.drewN ?_ _)); exact H1.out.1⟩
        · have hfin := HD.out
          rw [if_neg hk1, ← EU.out.1] at hfin
          have b1 : (zk == 1) = false := by simpa using hk1
          clear hk1 HD Ll g3
          by_cases h3 : u = 0 ∨ zi ≠ u
          · rw [if_pos h3] at hfin
            subst hfin
            have hcs : u = 0 ∨ (u ≠ 0 ∧ zi ≠ u) := by omega
            clear h3
            rcases hcs with rfl | ⟨h, h'⟩
            · go_wp2_with fail
              go_ret
              exact ⟨rfl, by (repeat' (with_reducible refine Keep.drewN ?_ _)); exact H1.out.1⟩
            · have hb : (u == 0) = false := by simpa using h
              have hb' : (zi == u) = false := by simpa using h'
              go_wp2_with fail
              go_ret
              exact ⟨rfl, by (repeat' (with_reducible refine Keep.drewN ?_ _)); exact H1.out.1⟩
          · rw [if_neg h3] at hfin
            have h4 : u ≠ 0 := fun h => h3 (.inl h)
            obtain rfl : u = zi := by omega
            clear h3
            have hb : (u == 0) = false := by simpa using h4
            by_cases hk2 : zk = 2
            · subst hk2
              obtain rfl : r = true := by rw [hfin]; simp
              clear hfin
              go_wp2_with fail
              go_quiet (fail)
              go_wp2_with fail
              go_ret
              exact ⟨rfl, by (repeat' (with_reducible refine Keep.drewN ?_ _)); exact H1.out.1⟩
            · have b2 : (zk == 2) = false := by simpa using hk2
              obtain ⟨v, hv⟩ := Option.isSome_iff_exists.1 (H.out.2.1.up zn (by rw [← EU.out.1]; exact h4))
              rw [← EU.out.1] at hv
              obtain ⟨bl, f, A, c, hlm, LL⟩ := H1.out.2.lives.look (x := (zn, u)) (by
                have := H.out.2.2.who
                rw [show x.d.who = (zn, u) from by rw [E.out.2.2.1, E.out.2.2.2.1]; rfl] at this
                exact this) hv
              have l0 : w1.cell? ⟨bl, 0, none⟩ = some (.bool v.halted) := hlm.blk.cell 0
              obtain ⟨hh, hhh⟩ : ∃ z, z = v.halted := ⟨_, rfl⟩
              rw [← hhh] at l0
              obtain rfl : r = !hh := by rw [hfin, life_of hv, hhh]; simp [hk2]
              simp only [whoA] at LL
              clear hfin hlm hv hhh hk2
              go_wp2_with fail
              go_quiet (fail)
              go_wp2_with fail
              go_ret
              exact ⟨rfl, by (repeat' (with_reducible refine Keep.drewN ?_ _)); exact H1.out.1⟩
end Go.Proofs.Ytfpcmleeehciaaa
