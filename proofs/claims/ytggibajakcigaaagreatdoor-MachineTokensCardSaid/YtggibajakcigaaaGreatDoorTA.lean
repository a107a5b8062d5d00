/-
  MERGED: Bytes Mat Sealed Rest First OnceP SameM
-/
import Derived.Test.YtggibajakcigaaaGreatDoorT1
import Derived.Test.YtggibajakcigaaaGreatDoorAppl
import Derived.Test.YtggibajakcigaaaGreatDoorT8
import Derived.Test.YtggibajakcigaaaGreatDoorT7
import Derived.Test.YtggibajakcigaaaGreatDoorT5
import Derived.Deep.RegionHeld3
namespace Go.Proofs.YtggibajakcigaaaGreatDoor
set_option linter.unusedVariables false
set_option linter.unusedSimpArgs false
open Go.RowKit

theorem num_any (z : Int) (w : World) : Calls Tryz.prog 17 #[.int .i64 z] w fun e w' => e = .returned (.int .i64 z) ∧ w = w' := by
  go_enter Tryz.func17, Tryz.ntmps17
  go_wp2
  go_ret
  exact ⟨rfl, rfl⟩

/-- The k-th byte of a slice, for the walk. -/
theorem Rd.byte {w : World} {Z : Nat → Prop} {A : Option Addr} {n k : Nat} {bs : List UInt8} (h : Rd w Z 1 A n (Lib.byteCells bs)) (hk : k < n) :
    ∃ b o x, A = some ⟨b, o, none⟩ ∧ Z b ∧ ∃ (hl : k < bs.length), x = (bs[k].toNat : Int) ∧ w.cell? ⟨b, o + k, none⟩ = some (.int .u8 x) := by
  obtain ⟨b, o, hA, hz, hl, hc⟩ := h.at1 hk
  have hl2 : k < bs.length := by simpa [Lib.byteCells] using hl
  exact ⟨b, o, _, hA, hz, hl2, rfl, by rw [hc]; simp [Lib.byteCells]⟩
theorem take_eq_step {l m : List UInt8} {k : Nat} (h : l.take k = m.take k) (hl : k < l.length) (hm : k < m.length) (he : l[k] = m[k]) : l.take (k + 1) = m.take (k + 1) := by
  rw [List.take_succ_eq_append_getElem hl, List.take_succ_eq_append_getElem hm, h, he]
theorem toNat_inj {a b : UInt8} (h : (a.toNat : Int) = (b.toNat : Int)) : a = b := UInt8.toNat_inj.1 (by omega)

end Go.Proofs.YtggibajakcigaaaGreatDoor
namespace Go.Proofs.YtggibajakcigaaaGreatDoor
set_option linter.unusedVariables false
set_option linter.unusedSimpArgs false
open Go.RowKit

theorem Nib.keep {Z : Nat → Prop} {w w' : World} (h : Nib w) (hk : Keep Z w w') (hz : Z 0) : Nib w' := var_keep gNib h hk hz
/-- The tables that the machine looks into are there, in every world that grew out of W. -/
structure TabsN (W : World) : Prop where
  t : Tabs W
  n : Nib W
theorem TabsN.fresh {W w : World} (h : TabsN W) (hk : Fresh W w) : TabsN w := ⟨h.t.fresh hk, h.n.keep hk trivial⟩
/-- A machine m, with its blocks F, all made behind B; it stands at s. -/
structure MAt (B : Nat) (w : World) (F : Nat → Prop) (m : Nat) (s : StD) : Prop where
  ex : ∃ bp bl, MSt (fun j => F j ∧ j ≠ m ∧ j ≠ bp) w m bp bl s ∧ F bp
  fm : F m
  lo : ∀ j, F j → B ≤ j
  hi : ∀ j, F j → j < w.heap.size
  inv : Inv s
section
variable {B : Nat} {w w' : World} {F : Nat → Prop} {m : Nat} {s : StD}
theorem MAt.keep {Z : Nat → Prop} (h : MAt B w F m s) (hk : Keep Z w w') (hz : ∀ j, F j → Z j) : MAt B w' F m s := by
  obtain ⟨bp, bl, hm, hb⟩ := h.ex
  exact ⟨⟨bp, bl, hm.keep hk (hz m h.fm) (hz bp hb) (fun j hj => hz j hj.1), hb⟩, h.fm, h.lo, fun j hj => Nat.lt_of_lt_of_le (h.hi j hj) hk.size, h.inv⟩
theorem MAt.fresh (h : MAt B w F m s) (hk : Fresh w w') : MAt B w' F m s := h.keep hk (fun _ _ => trivial)
theorem MAt.lt (h : MAt B w F m s) : m < w.heap.size := h.hi m h.fm
theorem MAt.lower {B' : Nat} (h : MAt B w F m s) (hb : B' ≤ B) : MAt B' w F m s := ⟨h.ex, h.fm, fun j hj => Nat.le_trans hb (h.lo j hj), h.hi, h.inv⟩
/-- Two machines that share nothing. -/
theorem MAt.of {bp bl : Nat} {S : Nat → Prop} (hm : MSt S w m bp bl s) (hi : Inv s) (h1 : B ≤ m) (h2 : B ≤ bp) (h3 : ∀ j, S j → j < w.heap.size → B ≤ j) : MAt B w (fun j => j = m ∨ j = bp ∨ (S j ∧ j < w.heap.size)) m s :=
  ⟨⟨bp, bl, hm.tight.widen (fun j hj => ⟨.inr (.inr hj), fun e => hm.nm (e ▸ hj.1), fun e => hm.nb (e ▸ hj.1)⟩) (fun h => h.2.1 rfl) (fun h => h.2.2 rfl), .inr (.inl rfl)⟩, .inl rfl,
    fun j hj => hj.elim (fun e => e ▸ h1) fun hj => hj.elim (fun e => e ▸ h2) fun hj => h3 j hj.1 hj.2,
    fun j hj => hj.elim (fun e => e ▸ hm.blk.lt) fun hj => hj.elim (fun e => e ▸ hm.pm.lt) fun hj => hj.2, hi⟩
end
theorem applyD_inv {c i r o : Int} {k v d : Txt} {s : StD} (h : Inv s) : Inv (applyD c i r o k v d s).2 := by
  unfold applyD
  split
  · rename_i hv
    exact (apply_ok h (vcmd_of hv)).2
  · exact h

/-! ### the contracts -/
section
variable {B : Nat} {w : World} {F : Nat → Prop} {m : Nat} {s : StD}
theorem mat_new (w : World) : Calls Tryz.prog 4 #[] w fun e w' => (∃ (m : Nat) (F : Nat → Prop), e = .returned (.pointer (some ⟨m, 0, none⟩)) ∧ MAt w.heap.size w' F m newD) ∧ Fresh w w' := by
  refine (newm_any w).mono ?_
  rintro e w' ⟨⟨m, bp, bl, rfl, hm, h1, h2, h3⟩, hf⟩
  exact ⟨⟨m, _, rfl, MAt.of hm inv_new h1 h2 (fun j hj _ => by rw [hj]; exact h3)⟩, hf⟩
/-- Apply, from a world that grew out of W. -/
theorem mat_apply {W : World} (hT : TabsN W) (hf : Fresh W w) (h : MAt W.heap.size w F m s) (c i r o : Int) (k v d : Txt) :
    Calls Tryz.prog 9 #[.pointer (some ⟨m, 0, none⟩), cmdV c i r o k v d] w fun e w' =>
      e = .returned (resV (applyD c i r o k v d s).1) ∧ (∃ F' : Nat → Prop, MAt W.heap.size w' F' m (applyD c i r o k v d s).2 ∧ (∀ j, F' j → F j ∨ w.heap.size ≤ j)) ∧ Keep (fun j => ¬ F j) w w' ∧ Fresh W w' := by
  obtain ⟨bp, bl, hm, hb⟩ := h.ex
  have hT0 := hT.fresh hf
  refine (appl_any _ m bp bl s c i r o k v d w hm h.inv.lk h.inv.pr hT0.t (fun w' hk => hT.t.fresh ?_)).mono ?_
  · exact hf.comp hk (fun _ _ _ => trivial) (fun j hj _ => ⟨fun e => by have := h.lo m h.fm; omega, fun e => by have := h.lo bp hb; omega, fun e => by have := h.lo j e.1; omega⟩)
  · rintro e w' ⟨he, hst, hk⟩
    have hkF : Keep (fun j => ¬ F j) w w' := hk.weaken fun j _ hj => ⟨fun e => hj (e ▸ h.fm), fun e => hj (e ▸ hb), fun e => hj e.1⟩
    refine ⟨he, ⟨_, MAt.of hst (applyD_inv h.inv) (h.lo m h.fm) (h.lo bp hb) (fun j hj _ => ?_), fun j hj => ?_⟩, hkF, hf.comp hkF (fun _ _ _ => trivial) (fun j hj _ e => by have := h.lo j e; omega)⟩
    · rcases hj with hj | hj
      · exact h.lo j hj.1
      · exact Nat.le_trans hf.size hj
    · rcases hj with rfl | rfl | ⟨hj | hj, _⟩
      · exact .inl h.fm
      · exact .inl hb
      · exact .inl hj.1
      · exact .inr hj
theorem mat_snap (hT : TabsN w) (h : MAt B w F m s) :
    Calls Tryz.prog 16 #[.pointer (some ⟨m, 0, none⟩)] w fun e w' => (∃ v, e = .returned v ∧ w'.ownsRow w.heap.size 5 1 v (snapB s).length (Lib.byteCells (snapB s))) ∧ Fresh w w' := by
  obtain ⟨bp, bl, hm, hb⟩ := h.ex
  exact snapshot_any _ m bp bl s w hm h.inv hT.n (fun w' hf => (hT.fresh hf).n)
theorem mat_get (h : MAt B w F m s) (k : Txt) (hk : k.length ≤ 1099511627776) :
    Calls Tryz.prog 18 #[.pointer (some ⟨m, 0, none⟩), str k] w fun e w' => e = .returned (.tuple #[str ((pfind k s.pairs).getD []), .bool (pfind k s.pairs).isSome]) ∧ w = w' := by
  obtain ⟨bp, bl, hm, hb⟩ := h.ex
  exact get_any m bp s.pairs k w hm.three.1 hm.pm hk
theorem mat_holder (h : MAt B w F m s) (k : Txt) (hk : k.length ≤ 1099511627776) :
    Calls Tryz.prog 14 #[.pointer (some ⟨m, 0, none⟩), str k] w fun e w' => e = .returned (.tuple #[.agg (holdA (holdD k s).1), .bool (holdD k s).2]) ∧ Fresh w w' := by
  obtain ⟨bp, bl, hm, hb⟩ := h.ex
  exact holder_any _ m bp bl s k w hm h.inv.lk hk
theorem mat_session (h : MAt B w F m s) (q : Int) :
    Calls Tryz.prog 8 #[.pointer (some ⟨m, 0, none⟩), .int .i64 q] w fun e w' => e = .returned (.tuple #[sesV (sessD q s).1, .bool (sessD q s).2]) ∧ Fresh w w' := by
  obtain ⟨bp, bl, hm, hb⟩ := h.ex
  exact session_any _ m bp bl s q w hm
theorem mat_locks (h : MAt B w F m s) :
    Calls Tryz.prog 20 #[.pointer (some ⟨m, 0, none⟩)] w fun e w' => (∃ v, e = .returned v ∧ w'.ownsRow w.heap.size 9 1 v s.locks.length ((s.locks.map LockD.name).map str)) ∧ Fresh w w' := by
  obtain ⟨bp, bl, hm, hb⟩ := h.ex
  exact locks_any _ m bp bl s w hm h.inv.lk
theorem mat_pairs (h : MAt B w F m s) :
    Calls Tryz.prog 19 #[.pointer (some ⟨m, 0, none⟩)] w fun e w' => (∃ v, e = .returned v ∧ w'.ownsRow w.heap.size 94 2 v s.pairs.length (pcells s.pairs)) ∧ Fresh w w' := by
  obtain ⟨bp, bl, hm, hb⟩ := h.ex
  exact pairs_any _ m bp bl s w hm h.inv.pr
theorem mat_waiting (h : MAt B w F m s) (k : Txt) (hk : k.length ≤ 1099511627776) :
    Calls Tryz.prog 21 #[.pointer (some ⟨m, 0, none⟩), str k] w fun e w' => (∃ v, e = .returned v ∧ w'.ownsRow w.heap.size 69 2 v (waitD k s).length (wcells (waitD k s))) ∧ Fresh w w' := by
  obtain ⟨bp, bl, hm, hb⟩ := h.ex
  exact waiting_any _ m bp bl s k w hm h.inv.lk hk
end
end Go.Proofs.YtggibajakcigaaaGreatDoor
namespace Go.Proofs.YtggibajakcigaaaGreatDoor
set_option linter.unusedVariables false
set_option linter.unusedSimpArgs false
open Go.RowKit

theorem Rd.front {w : World} {Z : Nat → Prop} {A : Option Addr} {n : Nat} {xs : List Value} (h : Rd w Z 1 A n xs) (m : Nat) (hm : m ≤ n) : Rd w Z 1 A m (xs.take m) := by
  refine ⟨by have := h.1; simp; omega, fun hp => ?_⟩
  obtain ⟨b, o, e, hb, hc⟩ := h.2 (by omega)
  refine ⟨b, o, e, hb, fun j u hu => hc j u ?_⟩
  have hj : j < m := by
    rcases Nat.lt_or_ge j m with h1 | h1
    · exact h1
    · rw [List.getElem?_eq_none (by rw [List.length_take]; omega)] at hu
      cases hu
  rw [List.getElem?_take_of_lt hj] at hu
  exact hu
theorem four_of {α : Type} {l : List α} (h : l.length = 4) : ∃ a b c d, l = [a, b, c, d] := by
  match l, h with
  | [a, b, c, d], _ => exact ⟨a, b, c, d, rfl⟩
/-- The first k of the last four bytes are the sum's. -/
def sealTo (sm : Nat) (ts : Txt) (k : Nat) : Prop := ∀ j, j < k → ∃ h : j < ts.length, (ts[j]).toNat = sm / 256 ^ j % 256
theorem seal_all {sm : Nat} {bs ts : Txt} (hs : sm = crcB bs) (h4 : ts.length = 4) : sealTo sm ts 4 ↔ ts = sumB bs := by
  obtain ⟨a, b, c, d, rfl⟩ := four_of h4
  have hlt := crcB_lt bs
  rw [← hs] at hlt
  have ha := a.toNat_lt
  have hb := b.toNat_lt
  have hc := c.toNat_lt
  have hd := d.toNat_lt
  constructor
  · intro h
    obtain ⟨_, h0⟩ := h 0 (by omega)
    obtain ⟨_, h1⟩ := h 1 (by omega)
    obtain ⟨_, h2⟩ := h 2 (by omega)
    obtain ⟨_, h3⟩ := h 3 (by omega)
    simp at h0 h1 h2 h3
    rw [sumB_iff, ← hs]
    omega
  · intro h
    rw [sumB_iff, ← hs] at h
    intro j hj
    refine ⟨by simp; omega, ?_⟩
    have : j = 0 ∨ j = 1 ∨ j = 2 ∨ j = 3 := by omega
    rcases this with rfl | rfl | rfl | rfl <;> simp <;> omega

def SealPost (bs : Txt) (e : Ending) : Prop := ∃ r : Bool, e = .returned (.bool r) ∧ (r = true ↔ sealedB bs)
set_option maxRecDepth 20000 in
theorem sealed_any (Z : Nat → Prop) (A : Option Addr) (n c : Nat) (bs : Txt) (w : World) (hb : Rd w Z 1 A n (Lib.byteCells bs)) (hn : n ≤ 1099511627770) (hnc : n ≤ c) (hT : Nib w) :
    Calls Tryz.prog 28 #[.slice A n c] w fun e w' => SealPost bs e ∧ w = w' := by
  have hlen : bs.length = n := by simpa [Lib.byteCells] using hb.1
  have HB := Lib.hid (And.intro hb hlen)
  have HT := Lib.hid hT
  by_cases h11 : n < 11
  · clear hb hlen hT
    go_enter Tryz.func28, Tryz.ntmps28
    go_wp2
    go_ret
    exact ⟨⟨false, rfl, by unfold sealedB; rw [HB.out.2]; simp; intro h; omega⟩, rfl⟩
  · obtain ⟨b, o, rfl, -, hcl⟩ := hb.2 (by omega)
    have hcell : ∀ j, (hj : j < bs.length) → w.cell? ⟨b, o + j, none⟩ = some (.int .u8 ((bs[j]).toNat : Int)) := fun j hj => hcl j _ (by simp [Lib.byteCells, hj])
    obtain ⟨x0, hx0⟩ : ∃ x : Nat, x = (bs[0]'(by omega)).toNat := ⟨_, rfl⟩
    obtain ⟨x1, hx1⟩ : ∃ x : Nat, x = (bs[1]'(by omega)).toNat := ⟨_, rfl⟩
    obtain ⟨x2, hx2⟩ : ∃ x : Nat, x = (bs[2]'(by omega)).toNat := ⟨_, rfl⟩
    have c0 := hcell 0 (by omega)
    have c1 := hcell 1 (by omega)
    have c2 := hcell 2 (by omega)
    rw [← hx0, Nat.add_zero] at c0
    rw [← hx1] at c1
    rw [← hx2] at c2
    have h3 : sealedB bs → x0 = 81 ∧ x1 = 83 ∧ x2 = 1 := fun h => by
      have e := h.2.1
      have e0 := congrArg (fun l => l[0]?) e
      have e1 := congrArg (fun l => l[1]?) e
      have e2 := congrArg (fun l => l[2]?) e
      simp [headB, show 0 < bs.length by omega, show 1 < bs.length by omega, show 2 < bs.length by omega] at e0 e1 e2
      rw [hx0, hx1, hx2, e0, e1, e2]
      exact ⟨rfl, rfl, rfl⟩
    have h3' : x0 = 81 → x1 = 83 → x2 = 1 → bs.take 3 = headB := fun a0 a1 a2 => by
      have f0 : bs[0]'(by omega) = 81 := UInt8.toNat_inj.1 (by rw [← hx0, a0]; rfl)
      have f1 : bs[1]'(by omega) = 83 := UInt8.toNat_inj.1 (by rw [← hx1, a1]; rfl)
      have f2 : bs[2]'(by omega) = 1 := UInt8.toNat_inj.1 (by rw [← hx2, a2]; rfl)
      refine List.ext_getElem? fun j => ?_
      by_cases hj : j < 3
      · have : j = 0 ∨ j = 1 ∨ j = 2 := by omega
        rcases this with rfl | rfl | rfl
        · rw [List.getElem?_take_of_lt (by omega), List.getElem?_eq_getElem (by omega), f0]; rfl
        · rw [List.getElem?_take_of_lt (by omega), List.getElem?_eq_getElem (by omega), f1]; rfl
        · rw [List.getElem?_take_of_lt (by omega), List.getElem?_eq_getElem (by omega), f2]; rfl
      · rw [List.getElem?_eq_none (by simp; omega), List.getElem?_eq_none (by simp [headB]; omega)]
    have H3 := Lib.hid (And.intro h3 (And.intro h3' hcell))
    clear hb hlen hT hcl hx0 hx1 hx2 h3 h3' hcell
    by_cases g0 : x0 = 81
    · subst g0
      by_cases g1 : x1 = 83
      · subst g1
        by_cases g2 : x2 = 1
        · subst g2
          go_enter Tryz.func28, Tryz.ntmps28
          have HS := Lib.hid (sum_any Z (some ⟨b, o, none⟩) (n - 4) c (bs.take (n - 4)) w (by have h1 := HB.out.1.front (n - 4) (by omega); simpa [Lib.byteCells, List.map_take] using h1) (by omega) HT.out)
          obtain ⟨sm, hsm⟩ : ∃ sm, sm = crcB (bs.take (n - 4)) := ⟨_, rfl⟩
          have hs32 : sm < 4294967296 := hsm ▸ crcB_lt _
          rw [← hsm] at HS
          have HM := Lib.hid hsm
          clear hsm
          go_wp2_with fail
          refine Calls.mono HS.out ?_
          rintro e _ ⟨rfl, rfl⟩
          clear HS
          go_wp2_with fail
          obtain ⟨ts, hts⟩ : ∃ ts, ts = bs.drop (n - 4) := ⟨_, rfl⟩
          have h4 : ts.length = 4 := by rw [hts, List.length_drop, HB.out.2]; omega
          have HD : Hid (sealTo sm ts 4 ↔ sealedB bs) := Lib.hid (by
            rw [seal_all HM.out h4, hts]
            unfold sealedB
            rw [HB.out.2]
            exact ⟨fun h => ⟨by omega, H3.out.2.1 (by simp) (by simp) (by simp), h⟩, fun h => h.2.2⟩)
          have hcT : ∀ j, (hj : j < 4) → w.cell? ⟨b, o + (n - 4) + j, none⟩ = some (.int .u8 ((ts[j]'(by omega)).toNat : Int)) := fun j hj => by
            have h1 := H3.out.2.2 (n - 4 + j) (by have := HB.out.2; omega)
            rw [← Nat.add_assoc] at h1
            rw [h1]
            congr 4
            simp [hts]
          have hi0 : 0 ≤ (sm : Int) := by omega
          have hi1 : (sm : Int) < 4294967296 := by omega
          have hn4 : n - (n - 4) = 4 := by omega
          obtain ⟨o2, ho2⟩ : ∃ o2, o2 = o + (n - 4) := ⟨_, rfl⟩
          obtain ⟨c2', hc2⟩ : ∃ c2, c2 = c - (n - 4) := ⟨_, rfl⟩
          rw [← ho2] at hcT
          rw [hn4, ← ho2, ← hc2]
          have HC := Lib.hid hcT
          clear hcT hts H3 c0 c1 c2 HM hn4 ho2 hc2
          go_loop [39] (fun i => ∃ k : Nat, k ≤ 4 ∧ i = .int .i64 (k : Int) ∧ Hid (sealTo sm ts k)) (fun i => 4 - (intOf i).toNat)
          case atStart => exact ⟨0, by omega, rfl, fun j hj => absurd hj (by omega)⟩
          case round =>
            obtain ⟨k, hk, rfl, HK⟩ := hrel
            by_cases hlt : k < 4
            · have ck := HC.out k hlt
              obtain ⟨x, hx⟩ : ∃ x : Nat, x = (ts[k]'(by omega)).toNat := ⟨_, rfl⟩
              rw [← hx] at ck
              have hx256 : x < 256 := hx ▸ (ts[k]'(by omega)).toNat_lt
              have HX := Lib.hid hx
              have hstep : x = sm / 256 ^ k % 256 → sealTo sm ts (k + 1) := fun e j hj => by
                rcases Nat.lt_or_ge j k with h1 | h1
                · exact HK.out j h1
                · obtain rfl : j = k := by omega
                  exact ⟨by omega, by rw [← HX.out]; exact e⟩
              have hstop : x ≠ sm / 256 ^ k % 256 → ¬ sealTo sm ts 4 := fun e h => by
                obtain ⟨_, h1⟩ := h k hlt
                exact e (by rw [HX.out]; exact h1)
              have HS := Lib.hid (And.intro hstep hstop)
              clear hx hstep hstop
              have hki : (k : Int) < 4 := by omega
              go_upto_region 7 with (fail)
              have hy : Hid (∀ y : Int, y = (sm : Int) / 256 ^ k % 256 → ((x : Int) != y) = true → ¬ sealTo sm ts 4) := Lib.hid fun y hy h => HS.out.2 fun e => by
                rw [hy, e] at h
                simp at h
              have hz : Hid (∀ y : Int, y = (sm : Int) / 256 ^ k % 256 → ((x : Int) != y) = false → sealTo sm ts (k + 1)) := Lib.hid fun y hy h => HS.out.1 (by
                simp at h
                rw [hy] at h
                have : ((sm / 256 ^ k % 256 : Nat) : Int) = (sm : Int) / 256 ^ k % 256 := by simp
                omega)
              clear ck HS hx256
              have hk8 : 0 ≤ 8 * (k : Int) := by omega
              have hk9 : 8 * (k : Int) ≤ 64 := by omega
              obtain ⟨kk, hkk⟩ : ∃ kk : Int, kk = 8 * (k : Int) := ⟨_, rfl⟩
              have hkw : IntKind.i64.wrap (8 * (k : Int)) = kk := by rw [hkk]; exact IntWalk.i64_in _ ⟨by omega, by omega⟩
              rw [← hkk] at hk8 hk9
              have HKK := Lib.hid hkk
              clear hkk hk8 hk9 hkw hi0 hi1 hs32 hki
              have h2k : (2 : Int) ^ (8 * k) = 256 ^ k := by
                have : k = 0 ∨ k = 1 ∨ k = 2 ∨ k = 3 := by omega
                rcases this with rfl | rfl | rfl | rfl <;> rfl
              have H2k := Lib.hid h2k
              clear h2k
              go_wp2
              · go_ret
                rename_i hbad _
                exact ⟨⟨false, rfl, by simp; intro h; exact hy.out _ (by rw [H2k.out]) hbad (HD.out.2 h)⟩, rfl⟩
              · rename_i hgood
                exact ⟨⟨k + 1, by omega, by simp, Lib.hid (hz.out _ (by rw [H2k.out]) hgood)⟩, by simp only [intOf]; omega⟩
            · obtain rfl : k = 4 := by omega
              clear hi0 hi1 hs32
              go_wp2
              go_ret
              exact ⟨⟨true, rfl, by simp; exact HD.out.1 HK.out⟩, rfl⟩
        · have g2' : ((x2 : Int) != 1) = true := by simp; omega
          go_enter Tryz.func28, Tryz.ntmps28
          go_wp2
          go_ret
          exact ⟨⟨false, rfl, by simp; intro h; exact g2 (H3.out.1 h).2.2⟩, rfl⟩
      · have g1' : ((x1 : Int) != 83) = true := by simp; omega
        go_enter Tryz.func28, Tryz.ntmps28
        go_wp2
        go_ret
        exact ⟨⟨false, rfl, by simp; intro h; exact g1 (H3.out.1 h).2.1⟩, rfl⟩
    · have g0' : ((x0 : Int) != 81) = true := by simp; omega
      go_enter Tryz.func28, Tryz.ntmps28
      go_wp2
      go_ret
      exact ⟨⟨false, rfl, by simp; intro h; exact g0 (H3.out.1 h).1⟩, rfl⟩
end Go.Proofs.YtggibajakcigaaaGreatDoor
namespace Go.Proofs.YtggibajakcigaaaGreatDoor
set_option linter.unusedVariables false
set_option linter.unusedSimpArgs false
open Go.RowKit

/-- A machine just where the text tells one. -/
def RestPost (bs : Txt) (w : World) (e : Ending) (w' : World) : Prop :=
  Fresh w w' ∧ ((∃ (s : StD) (F : Nat → Prop) (m : Nat), Restored bs s ∧ e = .returned (.tuple #[.pointer (some ⟨m, 0, none⟩), .int .i64 0]) ∧ MAt w.heap.size w' F m s) ∨ ((∀ s, ¬ Restored bs s) ∧ e = .returned (.tuple #[.pointer none, .int .i64 131])))
theorem good_stick {bs : Txt} (h : (rsS bs).2.2 = false) : (rsL bs).2.2 = false ∧ (rsP bs).2.2 = false := by
  obtain ⟨s1, s2, s3⟩ := runF_ok (one := oSes bs) rdSes_ok _ _ _ _ h
  obtain ⟨t1, t2⟩ := o_of_count (hi := 16) s1
  have htok : (rsT bs).1 ≤ 99999999 := by
    have := rCount_most bs 3 false (most := 99999999) (by omega)
    show (rCount bs 3 false 99999999).1 ≤ 99999999
    omega
  obtain ⟨l1, l2, l3⟩ := runF_ok (one := oLockT bs (rsT bs).1) (rdLock_ok htok) _ _ _ _ t1
  obtain ⟨u1, u2⟩ := o_of_count (hi := 8) l1
  exact ⟨t1, u1⟩
set_option maxRecDepth 20000 in
set_option maxHeartbeats 2000000 in
theorem restore_any (Z0 : Nat → Prop) (A : Option Addr) (n c : Nat) (bs : Txt) (w : World) (hb0 : Rd w Z0 1 A n (Lib.byteCells bs)) (hn : n ≤ 1099511627770) (hnc : n ≤ c) (hT : Nib w) :
    Calls Tryz.prog 15 #[.slice A n c] w (RestPost bs w) := by
  have hlen : bs.length = n := by simpa [Lib.byteCells] using hb0.1
  have hb := hb0.old (by omega)
  obtain ⟨b, hbs⟩ : ∃ b, b = bs.take (n - 4) := ⟨_, rfl⟩
  have hf : Rd w (fun k => k < w.heap.size) 1 A (n - 4) (Lib.byteCells b) := by
    have h1 := hb.front (n - 4) (by omega)
    rw [hbs]
    simpa [Lib.byteCells, List.map_take] using h1
  have hbl : b.length = n - 4 := by rw [hbs, List.length_take]; omega
  have HS := Lib.hid (sealed_any _ A n c bs w hb0 hn hnc hT)
  have HN := Lib.hid (newm_any w)
  have HB := Lib.hid (And.intro hlen (And.intro hbs (And.intro hf hbl)))
  clear hlen hb0 hb hbs hf hT hbl
  go_enter Tryz.func15, Tryz.ntmps15
  go_wp2_with fail
  refine Calls.mono HS.out ?_
  rintro e _ ⟨⟨sl, rfl, hsl⟩, rfl⟩
  have H0 := Lib.hid hsl
  clear hsl HS
  cases sl with
  | false =>
    go_wp2_with fail
    go_ret2
    refine ⟨Keep.refl _ _, .inr ⟨fun s hs => ?_, rfl⟩⟩
    exact absurd (H0.out.2 (good_restored hs).1) (by simp)
  | true =>
    have hse := H0.out.1 rfl
    have h11 : 11 ≤ n := by have := hse.1; have := HB.out.1; omega
    have HSE := Lib.hid hse
    clear H0 hse
    go_wp2_with fail
    refine Calls.mono HN.out ?_
    rintro e w1 ⟨⟨m, bp, bl, rfl, hm, h1, h2, h3⟩, hf1⟩
    have H1 := Lib.hid (And.intro hm (And.intro hf1 (And.intro h1 (And.intro h2 h3))))
    clear hm hf1 h1 h2 h3 HN
    have hnc4 : n - 4 ≤ c := by omega
    have hn4 : n - 4 ≤ 1099511627770 := by omega
    have h3n : 3 ≤ n - 4 := by omega
    obtain ⟨T, hT⟩ : ∃ T, T = rsT b := ⟨_, rfl⟩
    have hTle : T.2.1 ≤ n - 4 := by
      have := rCount_le b 3 false 99999999 (by rw [HB.out.2.2.2]; exact h3n)
      rw [HB.out.2.2.2] at this
      rw [hT]
      exact this
    have hTm : (T.1 : Int) ≤ 99999999 := by rw [hT]; exact rCount_most b 3 false (most := 99999999) (by omega)
    have HTd := Lib.hid hT
    have hzz : ∀ W, Fresh w W → Rd W (fun k => k < w.heap.size) 1 A (n - 4) (Lib.byteCells b) := fun W hf => HB.out.2.2.1.keep (hf.weaken fun _ _ _ => trivial)
    have HZ := Lib.hid hzz
    clear hT hzz
    go_upto_region 5 with (fail)
    obtain ⟨g, hgs⟩ : ∃ g, g = w1.heap.size := ⟨_, rfl⟩
    rw [← hgs]
    have hkW1 : Fresh w1 (w1.alloc (.cells #[.slice A (n - 4) c, .int .i64 3, .bool false] 87)) := (Keep.refl (fun _ => True) w1).alloc _
    have hgW1 : Rdr (w1.alloc (.cells #[.slice A (n - 4) c, .int .i64 3, .bool false] 87)) g A (n - 4) c 3 false := Blk.newAt hgs.symm
    generalize w1.alloc (.cells #[.slice A (n - 4) c, .int .i64 3, .bool false] 87) = W1 at hkW1 hgW1 ⊢
    have hf01 : Fresh w W1 := H1.out.2.1.comp hkW1 (fun _ _ h => h) (fun _ _ _ => trivial)
    have HC := Lib.hid (rcount_any g _ A (n - 4) c b 3 false 99999999 W1 hgW1 h3n (HZ.out _ hf01) hn4)
    have hgw : w.heap.size ≤ g := by rw [hgs]; exact H1.out.2.1.size
    obtain ⟨hm, hf1, hmw, hbw, hlw⟩ := H1.out
    have hmg : m ≠ g := by have := hm.blk.lt; omega
    have hbg : bp ≠ g := by have := hm.pm.lt; omega
    obtain ⟨ms0, hl0⟩ := hm.lk
    obtain rfl : ms0 = [] := by have := hl0.data; simpa [newD] using this
    have hlg : bl ≠ g := by have := hl0.map.lt; omega
    have hmb := hm.mp
    have hml : m ≠ bl := (hl0.map.ne_blk hm.blk).symm
    have hbl := hm.ne
    have HD := Lib.hid (And.intro hmg (And.intro hbg (And.intro hlg (And.intro hmb (And.intro hml hbl)))))
    have HW := Lib.hid (And.intro hgw (And.intro hmw (And.intro hbw hlw)))
    have HM := Lib.hid (And.intro (hm.blk.keep hkW1 trivial) (And.intro (hm.pm.keep hkW1 trivial) (And.intro (hl0.map.keep hkW1 trivial) hf01)))
    clear hgs hkW1 hgW1 hf01 hgw hm hf1 hmw hbw hlw hmg hbg hl0 hlg hmb hml hbl
    go_wp2_with fail
    refine Calls.mono HC.out ?_
    rintro e w2 ⟨rfl, hg2, hk2⟩
    rw [show rCount b 3 false 99999999 = T from HTd.out.symm] at hg2 ⊢
    have hb2 := HM.out.1.keep hk2 HD.out.1
    have z2 := hb2.frozen 2
    have hm2 := hb2.lt
    have x2 : w2.cell? ⟨m, 2, none⟩ = some (.int .i64 0) := hb2.cell 2
    have H2 := Lib.hid (And.intro hg2 (And.intro hk2 hb2))
    clear hg2 hk2 hb2 HC
    go_upto_region 6 with (fail)
    have hb3 : Blk (w2.setCell ⟨m, 2, none⟩ (.int .i64 (T.1 : Int))) m 55 (mchcells bp bl (T.1 : Int) (List.replicate 16 noSes)).toArray := by
      have h := H2.out.2.2.set 2 (.int .i64 (T.1 : Int))
      exact h
    have hk23 : Keep (fun j => j ≠ m) w2 (w2.setCell ⟨m, 2, none⟩ (.int .i64 (T.1 : Int))) := (Keep.refl _ w2).setCell (fun _ h => h rfl) _
    generalize w2.setCell ⟨m, 2, none⟩ (.int .i64 (T.1 : Int)) = W3 at hb3 hk23 ⊢
    have hg3 := H2.out.1.keep hk23 (fun e => HD.out.1 e.symm)
    have hp3 := (HM.out.2.1.keep H2.out.2.1 HD.out.2.1).keep hk23 (fun e => HD.out.2.2.2.1 e.symm)
    have hl3 := (HM.out.2.2.1.keep H2.out.2.1 HD.out.2.2.1).keep hk23 (fun e => HD.out.2.2.2.2.1 e.symm)
    have hf3 : Fresh w W3 := (HM.out.2.2.2.comp H2.out.2.1 (fun _ _ h => h) (fun j hj _ => by have := HW.out.1; omega)).comp hk23 (fun _ _ h => h) (fun j hj _ => by have := HW.out.2.1; omega)
    have HP := Lib.hid (rpairs_any m g bp (fun k => k < w.heap.size) A (n - 4) c b T.2.1 T.2.2 W3 (hb3.cell 0) HD.out.1 HD.out.2.2.2.1 hp3 hg3 (fun k hk => by have := HW.out.1; have := HW.out.2.2.1; omega) hTle hnc4 (HZ.out _ hf3) hn4)
    have H3 := Lib.hid (And.intro hb3 (And.intro hl3 hf3))
    clear hb3 hk23 hg3 hp3 hl3 hf3 x2 z2 hm2
    go_wp2_with fail
    refine Calls.mono HP.out ?_
    rintro e w4 ⟨rfl, ⟨ps, hps, hpr, hpl, hpe⟩, hg4, hn44, hk4⟩
    have hb4 := H3.out.1.keep hk4 ⟨HD.out.1, HD.out.2.2.2.1⟩
    have hl4 := H3.out.2.1.keep hk4 ⟨HD.out.2.2.1, HD.out.2.2.2.2.2.symm⟩
    have hf4 : Fresh w w4 := H3.out.2.2.comp hk4 (fun _ _ h => h) (fun j hj _ => by have := HW.out.1; have := HW.out.2.2.1; omega)
    obtain ⟨P, hP⟩ : ∃ P, P = rPairs b T.2.1 T.2.2 := ⟨_, rfl⟩
    rw [← hP] at hg4 hn44 hpe
    have HL := Lib.hid (rlocks_any m g bl (T.1 : Int) (fun k => k < w.heap.size) A (n - 4) c b P.2.1 P.2.2 w4 (hb4.cell 1) (hb4.cell 2) (by omega) hTm HD.out.1 HD.out.2.2.2.2.1 hl4 hg4 (fun k hk => by have := HW.out.1; have := HW.out.2.2.2; omega) hn44 hnc4 (HZ.out _ hf4) hn4)
    have H4 := Lib.hid (And.intro hb4 (And.intro hf4 (And.intro hps (And.intro hpe hP))))
    have hm4 := hb4.lt
    have hg4l := hg4.lt
    have hp4l := hps.lt
    clear hb4 hl4 hf4 hg4 hk4 hps hpr hpe hpl hP HP
    go_wp2_with fail
    refine Calls.mono HL.out ?_
    rintro e w5 ⟨rfl, ⟨S, ms, ls, hls, hS, hlr, hl8, hlsafe, hlq, hle⟩, hg5, hn5, hk5⟩
    have hb5 := H4.out.1.keep hk5 ⟨HD.out.1, HD.out.2.2.2.2.1⟩
    have hps5 := H4.out.2.2.1.keep hk5 ⟨HD.out.2.1, HD.out.2.2.2.2.2⟩
    have hf5 : Fresh w w5 := H4.out.2.1.comp hk5 (fun _ _ h => h) (fun j hj _ => by have := HW.out.1; have := HW.out.2.2.2; omega)
    obtain ⟨L, hL⟩ : ∃ L, L = rLocks b (T.1 : Int) P.2.1 P.2.2 := ⟨_, rfl⟩
    rw [← hL] at hg5 hn5 hle
    have hSg : ∀ j, S j → j ≠ g ∧ j ≠ m := fun j hj => by
      rcases hS j hj with rfl | h
      · exact ⟨HD.out.2.2.1, HD.out.2.2.2.2.1.symm⟩
      · omega
    have hSb : ¬ S bp := fun h => by
      rcases hS bp h with e | h
      · exact HD.out.2.2.2.2.2 e
      · omega
    have hSw : ∀ j, S j → w.heap.size ≤ j := fun j hj => by
      rcases hS j hj with rfl | h
      · exact HW.out.2.2.2
      · exact Nat.le_trans H4.out.2.1.size h
    have HSS := Lib.hid (rsess_any m g bp bl (T.1 : Int) (fun k => k < w.heap.size) A (n - 4) c b L.2.1 L.2.2 w5 hb5 HD.out.1 hg5 (fun k hk => by have := HW.out.1; have := HW.out.2.1; omega) hn5 hnc4 (HZ.out _ hf5) hn4 S ls ⟨ms, hls⟩ hlr hlsafe hlq hSg)
    have H5 := Lib.hid (And.intro hps5 (And.intro hf5 (And.intro hls (And.intro hle (And.intro hL (And.intro hSg (And.intro hSb hSw)))))))
    clear hb5 hps5 hf5 hg5 hk5 hls hS hlr hl8 hlsafe hlq hle hL hSg hSb hSw HL hm4 hg4l hp4l
    go_wp2_with fail
    refine Calls.mono HSS.out ?_
    rintro e w6 ⟨rfl, hb6, hg6, hn6, hk6⟩
    obtain ⟨R, hR⟩ : ∃ R, R = rSess1 b L.2.1 L.2.2 := ⟨_, rfl⟩
    rw [← hR] at hb6 hg6 hn6
    have HO := Lib.hid (rsound_any g A (n - 4) c _ _ w6 hg6)
    have H6 := Lib.hid (And.intro hb6 (And.intro hk6 hR))
    clear hb6 hg6 hk6 hR HSS
    go_wp2_with fail
    refine Calls.mono HO.out ?_
    rintro e w7 ⟨rfl, k7, rfl⟩
    obtain ⟨hs5, hf5, hls5, hle5, hL5, hSg5, hSb5, hSw5⟩ := H5.out
    obtain ⟨hb6, hk6, hR6⟩ := H6.out
    have hP4 := H4.out.2.2.2.2
    have hpe4 := H4.out.2.2.2.1
    have eT : rsT b = T := HTd.out.symm
    have eP : rsP b = P := by unfold rsP; rw [eT]; exact hP4.symm
    have eL : rsL b = L := by unfold rsL; rw [eT, eP]; exact hL5.symm
    have eR : rsS b = R := by unfold rsS; rw [eL]; exact hR6.symm
    have hf7 : Fresh w (w6.drewN k7) := (hf5.comp hk6 (fun _ _ h => h) (fun j hj _ => by have := HW.out.1; have := HW.out.2.1; omega)).drewN k7
    have hgood : ((!(R.2.2 || sesMiss ls (ssPut R.1 (List.replicate 16 noSes))) && decide (R.2.1 = n - 4)) = true) ↔ rsGood b := by
      unfold rsGood rsSs
      rw [eR, eL]
      simp only [Bool.and_eq_true, Bool.not_eq_true', Bool.or_eq_false_iff, decide_eq_true_eq]
      constructor
      · rintro ⟨⟨h1, h2⟩, h3⟩
        have h4 := (good_stick (bs := b) (by rw [eR]; exact h1)).1
        rw [eL] at h4
        rw [hle5 h4] at h2
        exact ⟨h1, h2, by rw [h3, HB.out.2.2.2]⟩
      · rintro ⟨h1, h2, h3⟩
        have h4 := (good_stick (bs := b) (by rw [eR]; exact h1)).1
        rw [eL] at h4
        rw [hle5 h4]
        exact ⟨⟨h1, h2⟩, by rw [h3, HB.out.2.2.2]⟩
    have hbb : bs.take (bs.length - 4) = b := by rw [HB.out.1]; exact HB.out.2.1.symm
    have hout : (rsGood b → ∃ (s : StD) (F : Nat → Prop), Restored bs s ∧ MAt w.heap.size (w6.drewN k7) F m s) := fun hgd => by
      have hres := restored_good HSE.out (by rw [hbb]; exact hgd)
      rw [hbb] at hres
      obtain ⟨g1, g2⟩ := good_stick hgd.1
      rw [eL] at g1
      rw [eP] at g2
      have hst : MSt S (w6.drewN k7) m bp bl ⟨(rsP b).1, (rsL b).1, ((rsT b).1 : Int), rsSs b⟩ := by
        unfold rsSs
        rw [eP, eL, eT, eR]
        have hk67 : Keep (fun j => j ≠ g ∧ j ≠ m) w5 (w6.drewN k7) := hk6.drewN k7
        refine ⟨hb6.drewN k7, by simp [ssPut_len], ?_, ⟨ms, ?_⟩, fun h => (hSg5 m h).2 rfl, hSb5⟩
        · rw [← hpe4 g2]
          exact hs5.keep hk67 ⟨HD.out.2.1, HD.out.2.2.2.1.symm⟩
        · rw [← hle5 g1]
          exact hls5.keep hk67 hSg5
      exact ⟨_, _, hres, MAt.of hst (restored_inv hres).2 HW.out.2.1 HW.out.2.2.1 (fun j hj _ => hSw5 j hj)⟩
    have hbadd : ¬ rsGood b → ∀ s, ¬ Restored bs s := fun hng s hs => hng (by have := (good_restored hs).2; rw [hbb] at this; exact this)
    obtain ⟨q, hq⟩ : ∃ q, q = (!(R.2.2 || sesMiss ls (ssPut R.1 (List.replicate 16 noSes))) && decide (R.2.1 = n - 4)) := ⟨_, rfl⟩
    rw [← hq] at hgood ⊢
    have HF := Lib.hid (And.intro hf7 (And.intro hgood (And.intro hout hbadd)))
    clear hq hs5 hf5 hls5 hle5 hL5 hSg5 hSb5 hSw5 hb6 hk6 hR6 hP4 hpe4 eT eP eL eR hf7 hgood hbb hout hbadd
    cases q with
    | false =>
      go_wp2_with fail
      go_ret2
      exact ⟨HF.out.1, .inr ⟨HF.out.2.2.2 (fun h => by have := HF.out.2.1.2 h; cases this), rfl⟩⟩
    | true =>
      obtain ⟨s, F, h1, h2⟩ := HF.out.2.2.1 (HF.out.2.1.1 rfl)
      have HG := Lib.hid (And.intro h1 h2)
      clear h1 h2
      go_wp2_with fail
      go_ret2
      exact ⟨HF.out.1, .inl ⟨s, F, m, HG.out.1, rfl, HG.out.2⟩⟩
end Go.Proofs.YtggibajakcigaaaGreatDoor
namespace Go.Proofs.YtggibajakcigaaaGreatDoor
set_option linter.unusedVariables false
set_option linter.unusedSimpArgs false
open Go.RowKit

def fS1 : StD := ⟨[([107], [118])], [], 0, (List.replicate 16 noSes).set 1 ⟨1, 1, ⟨1, [], 0⟩⟩⟩
def fS2 : StD := ⟨[([107], [118])], [], 0, (List.replicate 16 noSes).set 1 ⟨1, 2, ⟨1, [118], 1⟩⟩⟩
def fS3 : StD := ⟨[([107], [118])], [⟨[108], 1, 1, []⟩], 1, (List.replicate 16 noSes).set 1 ⟨1, 3, ⟨1, [], 1⟩⟩⟩
def fS4 : StD := ⟨[([107], [118])], [⟨[108], 1, 1, [2]⟩], 1, ((List.replicate 16 noSes).set 1 ⟨1, 3, ⟨1, [], 1⟩⟩).set 2 ⟨1, 1, ⟨7, [], 1⟩⟩⟩
theorem fa1 : applyD 1 1 1 1 [107] [118] [] newD = (⟨1, [], 0⟩, fS1) := by kernel_rfl
theorem fa2 : applyD 1 1 2 2 [107] [] [] fS1 = (⟨1, [118], 1⟩, fS2) := by kernel_rfl
theorem fa3 : applyD 1 1 3 6 [108] [] [] fS2 = (⟨1, [], 1⟩, fS3) := by kernel_rfl
theorem fa4 : applyD 2 1 1 6 [108] [] [] fS3 = (⟨7, [], 1⟩, fS4) := by kernel_rfl
theorem fget : (pfind [107] fS3.pairs) = some [118] := by kernel_rfl
theorem fhold : holdD [108] fS3 = ((1, 1, 1), true) := by kernel_rfl
theorem fses : sessD 1 fS3 = (⟨1, 3, ⟨1, [], 1⟩⟩, true) := by kernel_rfl
theorem fwait : (waitD [108] fS4).length = 1 := by kernel_rfl
/-- A call that made blocks only, and a new variable behind it: all from one world. -/
theorem Fresh.then {a b c : World} (h : Fresh a b) (k : Fresh b c) : Fresh a c := h.comp k (fun _ _ h => h) (fun _ _ _ => trivial)

/-- An owned slice, read, with its room. -/
theorem own_rdc {w : World} {base e size n : Nat} {v : Value} {xs : List Value} (h : w.ownsRow base e size v n xs) : ∃ A c, v = .slice A n c ∧ n ≤ c ∧ Rd w (fun k => v.ownBlock = some k) size A n xs ∧ (n = 0 → c = 0 ∨ A ≠ none) := by
  obtain ⟨A, c, rfl, h1, h2⟩ := own_rd h
  refine ⟨A, c, rfl, ?_, h1, h2⟩
  rcases h.2 with ⟨e1, rfl⟩ | ⟨g, cap, cur, e1, hb, hh, hn, _⟩
  · exact Nat.zero_le _
  · injection e1 with e1 e2 e3
    rw [e3]
    exact hn
theorem aside {F F' : Nat → Prop} {b n : Nat} (hb : b < n) (h : ¬ F b) (hF : ∀ j, F' j → F j ∨ n ≤ j) : ¬ F' b := fun e => (hF b e).elim h (fun e => by omega)
set_option maxRecDepth 20000 in
set_option maxHeartbeats 4000000 in
theorem first_any {W : World} (hT : TabsN W) : Calls Tryz.prog 5 #[] W fun e w' => e = .returned (.bool true) ∧ Fresh W w' := by
  have HT := Lib.hid hT
  have HN := Lib.hid (mat_new W)
  clear hT
  go_enter Tryz.func5, Tryz.ntmps5
  go_wp2_with fail
  refine Calls.mono HN.out ?_
  rintro e w1 ⟨⟨m, F, rfl, hm⟩, hf⟩
  have h1 := mat_apply HT.out hf hm 1 1 1 1 [107] [118] []
  rw [fa1] at h1
  have HA1 := Lib.hid h1
  clear hm HN hf h1
  go_wp2_with fail
  refine Calls.mono HA1.out ?_
  rintro e w2 ⟨rfl, ⟨F2, hm2, -⟩, -, hf2⟩
  have H2 := Lib.hid (And.intro hm2 hf2)
  clear hm2 hf2 HA1
  go_wp2_with (refine wpList_store_new rfl (.tmp 2) (.tmp 22) rfl _ #[.int .i64 1, str [], .int .i64 0] _ rfl rfl rfl (by kernel_rfl) (by kernel_rfl) ?_)
  intro w3 hb3 hf3 hs3
  have h3 := mat_apply HT.out (H2.out.2.then hf3) (H2.out.1.fresh hf3) 1 1 2 2 [107] [] []
  rw [fa2] at h3
  have HA3 := Lib.hid h3
  obtain ⟨b1, hb1⟩ : ∃ b, b = w2.heap.size := ⟨_, rfl⟩
  rw [← hb1] at hb3 ⊢
  have H3 := Lib.hid (And.intro hb3 (And.intro (H2.out.1.fresh hf3) (And.intro (H2.out.2.then hf3) (And.intro hb1 hs3))))
  clear hb3 hf3 hs3 h3 hb1
  go_wp2_with fail
  refine Calls.mono HA3.out ?_
  rintro e w4 ⟨rfl, ⟨F4, hm4, hF4⟩, hk4, hf4⟩
  have hz0 : ¬ F2 b1 := fun hj => by have := H2.out.1.hi _ hj; have := H3.out.2.2.2.1; omega
  have hb4 := H3.out.1.keep hk4 hz0
  have hz4 := aside H3.out.1.lt hz0 hF4
  have H4 := Lib.hid (And.intro hm4 (And.intro hf4 (And.intro hb4 hz4)))
  clear hm4 hk4 hf4 hb4 HA3 H2 H3 hz0 hz4 hF4
  go_wp2_with (refine wpList_store_new rfl (.tmp 3) (.tmp 25) rfl _ #[.int .i64 1, str [118], .int .i64 1] _ rfl rfl rfl (by kernel_rfl) (by kernel_rfl) ?_)
  intro w5 hb5 hf5 hs5
  have h5 := mat_apply HT.out (H4.out.2.1.then hf5) (H4.out.1.fresh hf5) 1 1 3 6 [108] [] []
  rw [fa3] at h5
  have HA5 := Lib.hid h5
  obtain ⟨b2, hb2⟩ : ∃ b, b = w4.heap.size := ⟨_, rfl⟩
  rw [← hb2] at hb5 ⊢
  have H5 := Lib.hid (And.intro hb5 (And.intro (H4.out.2.2.1.keep hf5 trivial) hb2))
  clear hb5 hf5 hs5 h5 hb2
  go_wp2_with fail
  refine Calls.mono HA5.out ?_
  rintro e w6 ⟨rfl, ⟨F6, hm6, hF6⟩, hk6, hf6⟩
  have hz2 : ¬ F4 b2 := fun hj => by have := H4.out.1.hi _ hj; have := H5.out.2.2; omega
  have hb6 := H5.out.2.1.keep hk6 H4.out.2.2.2
  have hb6' := H5.out.1.keep hk6 hz2
  have H6 := Lib.hid (And.intro hm6 (And.intro hf6 (And.intro hb6 hb6')))
  clear hm6 hk6 hf6 hb6 hb6' HA5 H4 H5 hz2 hF6
  go_wp2_with (refine wpList_store_new rfl (.tmp 4) (.tmp 28) rfl _ #[.int .i64 1, str [], .int .i64 1] _ rfl rfl rfl (by kernel_rfl) (by kernel_rfl) ?_)
  intro w7 hb7 hf7 hs7
  obtain ⟨b3, hb3⟩ : ∃ b, b = w6.heap.size := ⟨_, rfl⟩
  rw [← hb3] at hb7 ⊢
  have hc1 := H6.out.2.2.1.keep hf7 trivial
  have hc2 := H6.out.2.2.2.keep hf7 trivial
  have x1 := hc1.cell 0; have x2 := hc2.cell 0; have x3 := hc2.cell 1; have x4 := hb7.cell 0; have x5 := hb7.cell 2
  simp at x1 x2 x3 x4 x5
  have hl1 := hc1.lt; have hl2 := hc2.lt; have hl3 := hb7.lt
  have hm7 := H6.out.1.fresh hf7
  have hf07 := H6.out.2.1.then hf7
  have HS := Lib.hid (mat_snap (HT.out.fresh hf07) hm7)
  have H7 := Lib.hid (And.intro hf07 hm7.inv)
  clear hb7 hf7 hs7 hb3 hc1 hc2 hm7 hf07 H6
  go_wp2_with fail
  refine Calls.mono HS.out ?_
  rintro e w8 ⟨⟨v, rfl, hv⟩, hf8⟩
  obtain ⟨A, c, rfl, hlc, hr8, -⟩ := own_rdc hv
  have hf08 := H7.out.1.then hf8
  have HR := Lib.hid (restore_any _ A _ c _ w8 hr8 (by have := snap_len H7.out.2; omega) hlc (HT.out.fresh hf08).n)
  have H8 := Lib.hid hf08
  clear hv hf8 hlc hr8 hf08 HS x1 x2 x3 x4 x5 hl1 hl2 hl3
  go_wp2_with fail
  refine Calls.mono HR.out ?_
  rintro e w9 ⟨hf9, ⟨s, F9, n, hs, rfl, hm9⟩ | ⟨hno, -⟩⟩
  rotate_left
  · exact absurd (restored_snap H7.out.2) (hno _)
  have es : s = fS3 := restored_uniq hs (restored_snap H7.out.2)
  subst es
  have hm9' := hm9.lower H8.out.size
  have hf09 := H8.out.then hf9
  have HG := Lib.hid (mat_get hm9' [107] (by decide))
  rw [fget] at HG
  have HNum := Lib.hid (num_any 0 w9)
  have H9 := Lib.hid (And.intro hm9' hf09)
  clear hm9 hm9' hf9 hf09 hs HR
  go_wp2_with fail
  refine Calls.mono HNum.out ?_
  rintro e _ ⟨rfl, rfl⟩
  go_wp2_with fail
  refine Calls.mono HG.out ?_
  rintro e _ ⟨rfl, rfl⟩
  have h10 := mat_holder H9.out.1 [108] (by decide)
  rw [fhold] at h10
  have HH := Lib.hid h10
  clear h10 HG HNum
  go_wp2_with fail
  refine Calls.mono HH.out ?_
  rintro e w10 ⟨rfl, hf10⟩
  have H10 := Lib.hid hf10
  clear hf10 HH
  go_wp2_with (refine wpList_store_new rfl (.tmp 9) (.tmp 73) rfl _ #[.int .i64 1, .int .i64 1, .int .i64 1] _ rfl rfl rfl (by kernel_rfl) (by kernel_rfl) ?_)
  intro w11 hb11 hf11 hs11
  obtain ⟨b4, hb4⟩ : ∃ b, b = w10.heap.size := ⟨_, rfl⟩
  rw [← hb4] at hb11 ⊢
  have hf12 := H10.out.then hf11
  have HP := Lib.hid (mat_pairs (H9.out.1.fresh hf12))
  have hz4 : ¬ F9 b4 := fun hj => by have := H9.out.1.hi _ hj; have := H10.out.size; omega
  have H11 := Lib.hid (And.intro (H9.out.1.fresh hf12) (And.intro (H9.out.2.then hf12) (And.intro hb11 hz4)))
  clear hb11 hf11 hs11 hb4 hf12 hz4 H10 H9
  go_wp2_with fail
  refine Calls.mono HP.out ?_
  rintro e w12 ⟨⟨v, rfl, hv⟩, hf12⟩
  obtain ⟨A1, c1, hv1, -⟩ := own_rd hv
  replace hv1 : v = .slice A1 1 c1 := hv1
  subst hv1
  have h13 := mat_session (H11.out.1.fresh hf12) 1
  rw [fses] at h13
  have HSe := Lib.hid h13
  have H12 := Lib.hid hf12
  clear hv hf12 h13 HP
  go_wp2_with fail
  refine Calls.mono HSe.out ?_
  rintro e w13 ⟨rfl, hf13⟩
  have H13 := Lib.hid (H12.out.then hf13)
  clear hf13 HSe H12
  go_wp2_with (refine wpList_store_new rfl (.tmp 12) (.tmp 80) rfl _ (sesA ⟨1, 3, ⟨1, [], 1⟩⟩) _ rfl rfl rfl (by kernel_rfl) (by kernel_rfl) ?_)
  intro w14 hb14 hf14 hs14
  obtain ⟨b5, hb5⟩ : ∃ b, b = w13.heap.size := ⟨_, rfl⟩
  rw [← hb5] at hb14 ⊢
  have hf15 := H13.out.then hf14
  have hz5 : ¬ F9 b5 := fun hj => by have := H11.out.1.hi _ hj; have := H13.out.size; omega
  have HL := Lib.hid (mat_locks (H11.out.1.fresh hf15))
  have H14 := Lib.hid (And.intro (H11.out.1.fresh hf15) (And.intro (H11.out.2.1.then hf15) (And.intro (H11.out.2.2.1.keep hf15 trivial) (And.intro hb14 (And.intro H11.out.2.2.2 hz5)))))
  clear hb14 hf14 hs14 hb5 hf15 hz5 H13 H11
  go_wp2_with fail
  refine Calls.mono HL.out ?_
  rintro e w15 ⟨⟨v, rfl, hv⟩, hf15⟩
  obtain ⟨A2, c2, hv2, -⟩ := own_rd hv
  replace hv2 : v = .slice A2 1 c2 := hv2
  subst hv2
  have h16 := mat_apply HT.out (H14.out.2.1.then hf15) (H14.out.1.fresh hf15) 2 1 1 6 [108] [] []
  rw [fa4] at h16
  have HA := Lib.hid h16
  have H15 := Lib.hid (And.intro (H14.out.2.2.1.keep hf15 trivial) (And.intro (H14.out.2.2.2.1.keep hf15 trivial) H14.out.2.2.2.2))
  clear hv hf15 h16 HL H14
  go_wp2_with fail
  refine Calls.mono HA.out ?_
  rintro e w16 ⟨rfl, ⟨F16, hm16, hF16⟩, hk16, hf16⟩
  have hz4 := aside H15.out.1.lt H15.out.2.2.1 hF16
  have hz5 := aside H15.out.2.1.lt H15.out.2.2.2 hF16
  have H16 := Lib.hid (And.intro hm16 (And.intro hf16 (And.intro (H15.out.1.keep hk16 H15.out.2.2.1) (And.intro (H15.out.2.1.keep hk16 H15.out.2.2.2) (And.intro hz4 hz5)))))
  clear hm16 hF16 hk16 hf16 hz4 hz5 HA H15
  go_wp2_with (refine wpList_store_new rfl (.tmp 15) (.tmp 86) rfl _ #[.int .i64 7, str [], .int .i64 1] _ rfl rfl rfl (by kernel_rfl) (by kernel_rfl) ?_)
  intro w17 hb17 hf17 hs17
  obtain ⟨b6, hb6⟩ : ∃ b, b = w16.heap.size := ⟨_, rfl⟩
  rw [← hb6] at hb17 ⊢
  have HWt := Lib.hid (mat_waiting (H16.out.1.fresh hf17) [108] (by decide))
  have H17 := Lib.hid (And.intro (H16.out.2.1.then hf17) (And.intro (H16.out.2.2.1.keep hf17 trivial) (And.intro (H16.out.2.2.2.1.keep hf17 trivial) hb17)))
  clear hb17 hf17 hs17 hb6 H16
  go_wp2_with fail
  refine Calls.mono HWt.out ?_
  rintro e w18 ⟨⟨v, rfl, hv⟩, hf18⟩
  obtain ⟨A3, c3, hv3, -⟩ := own_rd hv
  replace hv3 : v = .slice A3 1 c3 := hv3
  subst hv3
  have d4 := H17.out.2.1.keep hf18 trivial
  have d5 := H17.out.2.2.1.keep hf18 trivial
  have d6 := H17.out.2.2.2.keep hf18 trivial
  have y1 := d4.cell 0; have y2 := d4.cell 1; have y3 := d4.cell 2; have y4 := d5.cell 1; have y5 := d6.cell 0
  simp [sesA] at y1 y2 y3 y4 y5
  have hl1 := d4.lt; have hl2 := d5.lt; have hl3 := d6.lt
  have H18 := Lib.hid (H17.out.1.then hf18)
  clear d4 d5 d6 hv hf18 HWt H17
  go_wp2_with fail
  go_ret
  exact ⟨rfl, H18.out⟩
end Go.Proofs.YtggibajakcigaaaGreatDoor
namespace Go.Proofs.YtggibajakcigaaaGreatDoor
set_option linter.unusedVariables false
set_option linter.unusedSimpArgs false

section
variable {s : StD} {c i r o : Int} {k v d : Txt}
theorem applyD_bad (h : validB c i r o k v d = false) : applyD c i r o k v d s = (⟨10, [], 0⟩, s) := by
  unfold applyD
  rw [h]
  rfl
theorem applyD_stale (h : validB c i r o k v d = true) {z : SesD} (hz : s.ss.getD c.toNat noSes = z) (hs : z.inc > i ∨ (z.inc = i ∧ z.req > r)) : applyD c i r o k v d s = (⟨9, [], 0⟩, s) := by
  unfold applyD applyV
  rw [if_pos h]
  simp only [hz]
  rw [if_pos hs]
theorem applyD_again (h : validB c i r o k v d = true) {z : SesD} (hz : s.ss.getD c.toNat noSes = z) (h1 : z.inc = i) (h2 : z.req = r) : applyD c i r o k v d s = (z.last, s) := by
  unfold applyD applyV
  rw [if_pos h]
  simp only [hz]
  rw [if_neg (by omega), if_pos ⟨h1, h2⟩]
theorem does_ss (num : Txt → Int × Bool) (ita : Int → Txt) (c o : Int) (k v d : Txt) (s : StD) : (doesD num ita c o k v d s).2.ss = s.ss := by
  unfold doesD
  split
  · unfold onKeyD
    repeat' split
    all_goals rfl
  · split
    · unfold onLockD
      split
      · repeat' split
        all_goals rfl
      · repeat' split
        all_goals first | rfl | exact (pass_rest _ _).2
    · unfold endD
      split
      · rfl
      · exact (lets_rest _ _).2
/-- A new request: the session tells it, and what was answered. -/
theorem applyD_new (hi : Inv s) (h : validB c i r o k v d = true) {z : SesD} (hz : s.ss.getD c.toNat noSes = z) (hs : ¬ (z.inc > i ∨ (z.inc = i ∧ z.req > r))) (ha : ¬ (z.inc = i ∧ z.req = r)) :
    (applyD c i r o k v d s).2.ss = s.ss.set c.toNat ⟨i, r, (applyD c i r o k v d s).1⟩ ∧ ResOk (applyD c i r o k v d s).1 := by
  have hr := (apply_ok hi (vcmd_of h) (ita := Lib.itoa)).1
  unfold applyD
  rw [if_pos h]
  refine ⟨?_, hr⟩
  unfold applyV
  simp only [hz]
  rw [if_neg hs, if_neg ha]
  simp only [does_ss]
  split
  · rw [(lets_rest c s).2]
  · rfl
end

/-! ### the last request of each client -/
structure CmD where
  c : Int
  i : Int
  r : Int
  o : Int
  k : Txt
  v : Txt
  d : Txt
deriving DecidableEq
def noCm : CmD := ⟨0, 0, 0, 0, [], [], []⟩
def noRs : ResD := ⟨0, [], 0⟩
abbrev applyC (x : CmD) (s : StD) : ResD × StD := applyD x.c x.i x.r x.o x.k x.v x.d s
abbrev validC (x : CmD) : Bool := validB x.c x.i x.r x.o x.k x.v x.d
/-- Of one client. -/
def OnceOf (q : Nat) (z : SesD) (x : CmD) (t : ResD) : Prop := (x = noCm ∧ t = noRs ∧ z = noSes) ∨ (validC x = true ∧ x.c = (q : Int) ∧ 0 < x.i ∧ z = ⟨x.i, x.r, t⟩)
structure Once (s : StD) (last : List CmD) (told : List ResD) : Prop where
  l16 : last.length = 16
  t16 : told.length = 16
  each : ∀ q, q < 16 → OnceOf q (s.ss.getD q noSes) (last.getD q noCm) (told.getD q noRs)
theorem once_new : Once newD (List.replicate 16 noCm) (List.replicate 16 noRs) := by
  refine ⟨by simp, by simp, fun q hq => .inl ?_⟩
  have : ∀ {α : Type} (a : α), (List.replicate 16 a).getD q a = a := fun a => by
    rw [List.getD_eq_getElem?_getD, List.getElem?_replicate, if_pos hq]
    rfl
  exact ⟨this _, this _, this _⟩
section
variable {s : StD} {last : List CmD} {told : List ResD}
theorem Once.inc (h : Once s last told) {q : Nat} (hq : q < 16) : (s.ss.getD q noSes).inc = (last.getD q noCm).i ∧ (s.ss.getD q noSes).req = (last.getD q noCm).r ∧ (s.ss.getD q noSes).last = told.getD q noRs := by
  rcases h.each q hq with ⟨h1, h2, h3⟩ | ⟨h1, h2, h3, h4⟩
  · rw [h1, h2, h3]; exact ⟨rfl, rfl, rfl⟩
  · rw [h4]; exact ⟨rfl, rfl, rfl⟩
theorem valid_client {x : CmD} (h : validC x = true) : ∃ q : Nat, x.c = (q : Int) ∧ q < 16 := by
  have hv := vcmd_of h
  exact ⟨x.c.toNat, by have := hv.c0; omega, by have := hv.c0; have := hv.c1; omega⟩
theorem Once.stale (h : Once s last told) {x : CmD} (hv : validC x = true) (hs : (last.getD x.c.toNat noCm).i > x.i ∨ ((last.getD x.c.toNat noCm).i = x.i ∧ (last.getD x.c.toNat noCm).r > x.r)) : applyC x s = (⟨9, [], 0⟩, s) := by
  obtain ⟨q, hc, hq⟩ := valid_client hv
  obtain ⟨h1, h2, h3⟩ := h.inc hq
  have e : x.c.toNat = q := by omega
  rw [e] at hs
  exact applyD_stale hv rfl (by rw [e, h1, h2]; exact hs)
theorem Once.again (h : Once s last told) {x : CmD} (hv : validC x = true) (h1 : (last.getD x.c.toNat noCm).i = x.i) (h2 : (last.getD x.c.toNat noCm).r = x.r) : applyC x s = (told.getD x.c.toNat noRs, s) := by
  obtain ⟨q, hc, hq⟩ := valid_client hv
  obtain ⟨g1, g2, g3⟩ := h.inc hq
  have e : x.c.toNat = q := by omega
  rw [e] at h1 h2 ⊢
  rw [← g3, ← e]
  exact applyD_again hv rfl (by rw [e, g1]; exact h1) (by rw [e, g2]; exact h2)
theorem getD_set_self {α : Type} {l : List α} {q : Nat} (hq : q < l.length) (a d : α) : (l.set q a).getD q d = a := by
  rw [List.getD_eq_getElem?_getD, List.getElem?_set_self hq]
  rfl
theorem getD_set_ne {α : Type} {l : List α} {p q : Nat} (h : p ≠ q) (a d : α) : (l.set p a).getD q d = l.getD q d := by
  rw [List.getD_eq_getElem?_getD, List.getElem?_set_ne h, ← List.getD_eq_getElem?_getD]
theorem Once.new (h : Once s last told) (hi : Inv s) {x : CmD} (hv : validC x = true) (hs : ¬ ((last.getD x.c.toNat noCm).i > x.i ∨ ((last.getD x.c.toNat noCm).i = x.i ∧ (last.getD x.c.toNat noCm).r > x.r))) (ha : ¬ ((last.getD x.c.toNat noCm).i = x.i ∧ (last.getD x.c.toNat noCm).r = x.r)) :
    Once (applyC x s).2 (last.set x.c.toNat x) (told.set x.c.toNat (applyC x s).1) ∧ applyC x (applyC x s).2 = ((applyC x s).1, (applyC x s).2) ∧ ResOk (applyC x s).1 := by
  obtain ⟨q, hc, hq⟩ := valid_client hv
  obtain ⟨g1, g2, g3⟩ := h.inc hq
  have e : x.c.toNat = q := by omega
  rw [e] at hs ha ⊢
  obtain ⟨n1, n2⟩ := applyD_new (k := x.k) (v := x.v) (d := x.d) (o := x.o) hi hv rfl (by rw [e, g1, g2]; exact hs) (by rw [e, g1, g2]; exact ha)
  have hql : q < s.ss.length := by rw [hi.s16]; exact hq
  have hself : (applyC x s).2.ss.getD x.c.toNat noSes = ⟨x.i, x.r, (applyC x s).1⟩ := by
    show (applyD x.c x.i x.r x.o x.k x.v x.d s).2.ss.getD x.c.toNat noSes = _
    rw [n1, getD_set_self (by rw [e]; exact hql)]
  refine ⟨⟨by simp [h.l16], by simp [h.t16], fun p hp => ?_⟩, ?_, n2⟩
  · by_cases hpq : q = p
    · subst hpq
      rw [← e, hself, e, getD_set_self (by rw [h.l16]; exact hq), getD_set_self (by rw [h.t16]; exact hq)]
      exact .inr ⟨hv, hc, by have := (vcmd_of hv).i0; omega, rfl⟩
    · have e2 : (applyC x s).2.ss.getD p noSes = s.ss.getD p noSes := by
        show (applyD x.c x.i x.r x.o x.k x.v x.d s).2.ss.getD p noSes = _
        rw [n1, getD_set_ne (by rw [e]; exact hpq)]
      rw [e2, getD_set_ne hpq, getD_set_ne hpq]
      exact h.each p hp
  · exact applyD_again hv hself rfl rfl
/-- At the end: what is asked of each client's session. -/
theorem Once.end (h : Once s last told) {q : Nat} (hq : q < 16) (h0 : 0 < (last.getD q noCm).i) : applyC (last.getD q noCm) s = (told.getD q noRs, s) := by
  rcases h.each q hq with ⟨h1, _⟩ | ⟨h1, h2, h3, h4⟩
  · rw [h1] at h0
    exact absurd h0 (by decide)
  · have e : (last.getD q noCm).c.toNat = q := by rw [h2]; omega
    have := applyD_again (s := s) h1 (z := ⟨(last.getD q noCm).i, (last.getD q noCm).r, told.getD q noRs⟩) (by rw [e]; exact h4) rfl rfl
    exact this
/-- What each client's session says at the end. -/
theorem Once.ses (h : Once s last told) {q : Nat} (hq : q < 16) : (0 < (last.getD q noCm).i ∧ sessD (q : Int) s = (⟨(last.getD q noCm).i, (last.getD q noCm).r, told.getD q noRs⟩, true)) ∨ ((last.getD q noCm).i = 0 ∧ sessD (q : Int) s = (noSes, false)) := by
  have e : ((q : Int)).toNat = q := by omega
  have hn : ¬ ((q : Int) < 0 ∨ 16 ≤ (q : Int)) := by omega
  rcases h.each q hq with ⟨h1, h2, h3⟩ | ⟨h1, h2, h3, h4⟩
  · right
    refine ⟨by rw [h1]; rfl, ?_⟩
    unfold sessD
    rw [e, h3]
    rw [if_pos (.inr (.inr rfl))]
  · left
    refine ⟨h3, ?_⟩
    unfold sessD
    rw [e, h4]
    rw [if_neg]
    rintro (h | h | h)
    · omega
    · omega
    · simp only at h; omega
end
end Go.Proofs.YtggibajakcigaaaGreatDoor
namespace Go.Proofs.YtggibajakcigaaaGreatDoor
set_option linter.unusedVariables false
set_option linter.unusedSimpArgs false
open Go.RowKit

def CmD.cells (x : CmD) : List Value := [.int .i64 x.c, .int .i64 x.i, .int .i64 x.r, .int .i64 x.o, str x.k, str x.v, str x.d]
theorem cm_seven : ∀ x : CmD, x.cells.length = 7 := fun _ => rfl
/-- The cells of one command among a slice's. -/
def CmAt (w : World) (b o : Nat) (x : CmD) : Prop :=
  w.cell? ⟨b, o, none⟩ = some (.int .i64 x.c) ∧ w.cell? ⟨b, o + 1, none⟩ = some (.int .i64 x.i) ∧ w.cell? ⟨b, o + 2, none⟩ = some (.int .i64 x.r) ∧ w.cell? ⟨b, o + 3, none⟩ = some (.int .i64 x.o) ∧ w.cell? ⟨b, o + 4, none⟩ = some (str x.k) ∧ w.cell? ⟨b, o + 5, none⟩ = some (str x.v) ∧ w.cell? ⟨b, o + 6, none⟩ = some (str x.d)
theorem CmAt.keep {w w' : World} {Z : Nat → Prop} {b o : Nat} {x : CmD} (h : CmAt w b o x) (hk : Keep Z w w') (hz : Z b) : CmAt w' b o x :=
  ⟨hk.cellAt h.1 hz, hk.cellAt h.2.1 hz, hk.cellAt h.2.2.1 hz, hk.cellAt h.2.2.2.1 hz, hk.cellAt h.2.2.2.2.1 hz, hk.cellAt h.2.2.2.2.2.1 hz, hk.cellAt h.2.2.2.2.2.2 hz⟩
theorem Rd.cmd {w : World} {Z : Nat → Prop} {A : Option Addr} {n k : Nat} {cs : List CmD} (h : Rd w Z 7 A n (rcells CmD.cells cs)) (hk : k < n) :
    ∃ (hl : k < cs.length) (b o : Nat), A = some ⟨b, o, none⟩ ∧ Z b ∧ b < w.heap.size ∧ CmAt w b (o + k * 7) cs[k] := by
  have hl : k < cs.length := by
    have := h.1
    rw [rcells_len cm_seven] at this
    omega
  obtain ⟨b, o, hA, hz, hc⟩ := h.2 (by omega)
  have hg : ∀ j u, j < 7 → (cs[k]).cells[j]? = some u → w.cell? ⟨b, o + k * 7 + j, none⟩ = some u := fun j u hj hu => by
    have := hc (k * 7 + j) u (by rw [rcells_get cm_seven cs k hl j hj]; exact hu)
    rwa [← Nat.add_assoc] at this
  have h0 := hg 0 _ (by omega) rfl
  exact ⟨hl, b, o, hA, hz, lt_of_cell h0, h0, hg 1 _ (by omega) rfl, hg 2 _ (by omega) rfl, hg 3 _ (by omega) rfl, hg 4 _ (by omega) rfl, hg 5 _ (by omega) rfl, hg 6 _ (by omega) rfl⟩
/-- Two machines that stand alike and share nothing. -/
def Two (W w : World) (a b : Nat) (s : StD) : Prop := ∃ Fa Fb : Nat → Prop, MAt W.heap.size w Fa a s ∧ MAt W.heap.size w Fb b s ∧ (∀ j, Fa j → ¬ Fb j) ∧ Fresh W w
theorem Two.symm {W w : World} {a b : Nat} {s : StD} (h : Two W w a b s) : Two W w b a s := by
  obtain ⟨Fa, Fb, h1, h2, h3, h4⟩ := h
  exact ⟨Fb, Fa, h2, h1, fun j hj e => h3 j e hj, h4⟩
theorem Two.fresh {W w w' : World} {a b : Nat} {s : StD} (h : Two W w a b s) (hf : Fresh w w') : Two W w' a b s := by
  obtain ⟨Fa, Fb, h1, h2, h3, h4⟩ := h
  exact ⟨Fa, Fb, h1.fresh hf, h2.fresh hf, h3, h4.then hf⟩
theorem Two.step {W w w1 w2 : World} {a b : Nat} {s s' : StD} {Fa Fb Fa' Fb' : Nat → Prop} (hb : MAt W.heap.size w Fb b s) (hd : ∀ j, Fa j → ¬ Fb j)
    (h1 : MAt W.heap.size w1 Fa' a s') (g1 : ∀ j, Fa' j → Fa j ∨ w.heap.size ≤ j) (h2 : MAt W.heap.size w2 Fb' b s') (g2 : ∀ j, Fb' j → Fb j ∨ w1.heap.size ≤ j) (k2 : Keep (fun j => ¬ Fb j) w1 w2) (hf : Fresh W w2) : Two W w2 a b s' := by
  have hab : ∀ j, Fa' j → ¬ Fb j := fun j hj e => by
    rcases g1 j hj with h | h
    · exact hd j h e
    · have := hb.hi j e; omega
  refine ⟨Fa', Fb', h1.keep k2 hab, h2, fun j hj e => ?_, hf⟩
  rcases g2 j e with h | h
  · exact hab j hj h
  · have := h1.hi j hj; omega

end Go.Proofs.YtggibajakcigaaaGreatDoor
