/-
  MERGED: Bytes Mat Sealed Rest
-/
import Derived.Test.YtlibhkehebioeaaGreatDoorF2
import Derived.Test.YtlibhkehebioeaaGreatDoorF14
import Derived.Test.YtlibhkehebioeaaGreatDoorF12
import Derived.Test.YtlibhkehebioeaaGreatDoorF9
import Derived.Test.YtlibhkehebioeaaGreatDoorF13
namespace Go.Proofs.YtlibhkehebioeaaGreatDoor
set_option linter.unusedVariables false
set_option linter.unusedSimpArgs false
open Go.RowKit

theorem num_any (z : Int) (w : World) : Calls Tryz.prog 28 #[.int .i64 z] w fun e w' => e = .returned (.int .i64 z) ∧ w = w' := by
  go_enter Tryz.func28, Tryz.ntmps28
  go_wp2
  go_ret
  exact ⟨rfl, rfl⟩

set_option maxHeartbeats 400000 in
theorem copied_any (Z : Nat → Prop) (A : Option Addr) (n c : Nat) (bs : List UInt8) (w : World) (hb : Rd w Z 1 A n (Lib.byteCells bs)) (hn : n ≤ 1099511627770) (hnil : n = 0 → c = 0 ∨ A ≠ none) :
    Calls Tryz.prog 91 #[.slice A n c] w fun e w' => (∃ u, e = .returned u ∧ w'.ownsRow w.heap.size 5 1 u n (Lib.byteCells bs)) ∧ Fresh w w' := by
  have HB := Lib.hid hb
  have HN := Lib.hid (And.intro hn hnil)
  clear hb hn hnil
  go_enter Tryz.func91, Tryz.ntmps91
  have hown : (w.alloc (.cells #[] 5)).ownsRow w.heap.size 5 1 (.slice (some ⟨w.heap.size, 0, none⟩) 0 0) 0 [] :=
    ⟨rfl, .inr ⟨w.heap.size, 0, #[], rfl, Nat.le_refl _, heap_alloc_new w _, Nat.le_refl _, by simp only [maxLen]; omega, rfl, rfl⟩⟩
  have HO := Lib.hid hown
  clear hown
  go_wp2_with (at_builtin; refine wpList_app etU8 rfl (.tmp 3) (.tmp 4) rfl w.heap.size _ _ _ rfl HO.out Z A n c _ rfl (HB.out.keep (((Keep.refl Z w).alloc _))) HN.out.2 (bcs_one _) (by have := HN.out.1; omega) (by simp) ?_)
  intro v' w' ho hk hnx
  have HX := Lib.hid (And.intro ho hk)
  clear ho hk hnx
  go_wp2
  go_ret
  refine ⟨⟨_, rfl, ?_⟩, ?_⟩
  · have := HX.out.1
    simpa using this
  · exact ((Keep.refl _ w).alloc _).comp HX.out.2 (fun _ _ h => h) (fun i hi _ => by simp [Value.ownBlock]; omega)

/-- The k-th byte of a slice, for the walk. -/
theorem Rd.byte {w : World} {Z : Nat → Prop} {A : Option Addr} {n k : Nat} {bs : List UInt8} (h : Rd w Z 1 A n (Lib.byteCells bs)) (hk : k < n) :
    ∃ b o x, A = some ⟨b, o, none⟩ ∧ Z b ∧ ∃ (hl : k < bs.length), x = (bs[k].toNat : Int) ∧ w.cell? ⟨b, o + k, none⟩ = some (.int .u8 x) := by
  obtain ⟨b, o, hA, hz, hl, hc⟩ := h.at1 hk
  have hl2 : k < bs.length := by simpa [Lib.byteCells] using hl
  exact ⟨b, o, _, hA, hz, hl2, rfl, by rw [hc]; simp [Lib.byteCells]⟩
theorem take_eq_step {l m : List UInt8} {k : Nat} (h : l.take k = m.take k) (hl : k < l.length) (hm : k < m.length) (he : l[k] = m[k]) : l.take (k + 1) = m.take (k + 1) := by
  rw [List.take_succ_eq_append_getElem hl, List.take_succ_eq_append_getElem hm, h, he]
theorem toNat_inj {a b : UInt8} (h : (a.toNat : Int) = (b.toNat : Int)) : a = b := UInt8.toNat_inj.1 (by omega)

set_option maxHeartbeats 400000 in
theorem same_any (Z1 Z2 : Nat → Prop) (A1 A2 : Option Addr) (n1 c1 n2 c2 : Nat) (bs1 bs2 : List UInt8) (w : World) (h1 : Rd w Z1 1 A1 n1 (Lib.byteCells bs1)) (h2 : Rd w Z2 1 A2 n2 (Lib.byteCells bs2)) (hn : n1 ≤ 1099511627770) (hn2 : n2 ≤ 1099511627770) :
    Calls Tryz.prog 19 #[.slice A1 n1 c1, .slice A2 n2 c2] w fun e w' => e = .returned (.bool (decide (bs1 = bs2))) ∧ ∃ k, w' = w.drewN k := by
  have hl1 : bs1.length = n1 := by simpa [Lib.byteCells] using h1.1
  have hl2 : bs2.length = n2 := by simpa [Lib.byteCells] using h2.1
  obtain ⟨r, hr⟩ : ∃ r, r = decide (bs1 = bs2) := ⟨_, rfl⟩
  rw [← hr]
  by_cases hne : n1 = n2
  · subst hne
    have HA := Lib.hid (And.intro h1 (And.intro h2 (And.intro hl1 (And.intro hl2 hr))))
    clear h1 h2 hl1 hl2 hr
    go_enter Tryz.func19, Tryz.ntmps19
    go_wp2
    go_loopw [5] (fun i wr => ∃ (k d : Nat), k ≤ n1 ∧ i = .int .i64 (k : Int) ∧ wr = w.drewN d ∧ Hid (bs1.take k = bs2.take k)) (fun i _ => n1 - (intOf i).toNat)
    case atStart => exact ⟨0, 0, Nat.zero_le _, rfl, rfl, rfl⟩
    case round =>
      obtain ⟨k, d, hk, rfl, rfl, HW⟩ := hrel
      by_cases hlt : k < n1
      · obtain ⟨b1, o1, x, rfl, -, g1, hx, e1⟩ := HA.out.1.byte hlt
        obtain ⟨b2, o2, y, rfl, -, g2, hy, e2⟩ := HA.out.2.1.byte hlt
        have HX := Lib.hid (And.intro hx hy)
        clear hx hy
        by_cases hxy : x = y
        · have hs := take_eq_step HW.out g1 g2 (toNat_inj (by rw [← HX.out.1, ← HX.out.2, hxy]))
          have HS := Lib.hid hs
          clear hs HX HW g1 g2
          go_wp2_with fail
          go_quiet (fail)
          go_wp2_with fail
          exact ⟨⟨k + 1, _, by omega, congrArg _ (by omega), rfl, HS.out⟩, by simp [intOf]; omega⟩
        · have hf : r = false := by
            rw [HA.out.2.2.2.2]
            refine decide_eq_false fun h => hxy ?_
            subst h
            rw [HX.out.1, HX.out.2]
          clear HX HW g1 g2
          subst hf
          go_wp2_with fail
          go_quiet (fail)
          go_wp2_with fail
          go_ret
          exact ⟨rfl, _, World.drewN_drewN _ _ _⟩
      · obtain rfl : k = n1 := by omega
        have ht : r = true := by
          rw [HA.out.2.2.2.2]
          have := HW.out
          rw [List.take_of_length_le (by rw [HA.out.2.2.1]; exact Nat.le_refl _), List.take_of_length_le (by rw [HA.out.2.2.2.1]; exact Nat.le_refl _)] at this
          exact decide_eq_true this
        subst ht
        clear HW
        go_wp2_with fail
        go_ret
        exact ⟨rfl, _, rfl⟩
  · have hf : r = false := by
      rw [hr]
      exact decide_eq_false fun h => hne (by rw [← hl1, ← hl2, h])
    subst hf
    have hne' : ¬ ((n1 : Int) = (n2 : Int)) := by omega
    clear hr h1 h2 hl1 hl2
    go_enter Tryz.func19, Tryz.ntmps19
    go_wp2_with fail
    go_ret
    exact ⟨rfl, 0, rfl⟩
end Go.Proofs.YtlibhkehebioeaaGreatDoor
namespace Go.Proofs.YtlibhkehebioeaaGreatDoor
set_option linter.unusedVariables false
set_option linter.unusedSimpArgs false
open Go.RowKit

theorem Nib.keep {Z : Nat → Prop} {w w' : World} (h : Nib w) (hk : Keep Z w w') (hz : Z 0) : Nib w' := var_keep gNib h hk hz
/-- The tables that the machine looks into are there, in every world that grew out of W. -/
structure TabsN (W : World) : Prop where
  t : Tabs W
  n : Nib W
theorem TabsN.fresh {W w : World} (h : TabsN W) (hk : Fresh W w) : TabsN w := ⟨h.t.fresh hk, h.n.keep hk trivial⟩
/-- A machine m, with its blocks F, all made behind B; it stands at s. -/
structure MAt (B : Nat) (w : World) (F : Nat → Prop) (m : Nat) (s : StD) : Prop where
  ex : ∃ bp bl, MSt (fun j => F j ∧ j ≠ m ∧ j ≠ bp) w m bp bl s ∧ F bp
  fm : F m
  lo : ∀ j, F j → B ≤ j
  hi : ∀ j, F j → j < w.heap.size
  inv : Inv s
section
variable {B : Nat} {w w' : World} {F : Nat → Prop} {m : Nat} {s : StD}
theorem MAt.keep {Z : Nat → Prop} (h : MAt B w F m s) (hk : Keep Z w w') (hz : ∀ j, F j → Z j) : MAt B w' F m s := by
  obtain ⟨bp, bl, hm, hb⟩ := h.ex
  exact ⟨⟨bp, bl, hm.keep hk (hz m h.fm) (hz bp hb) (fun j hj => hz j hj.1), hb⟩, h.fm, h.lo, fun j hj => Nat.lt_of_lt_of_le (h.hi j hj) hk.size, h.inv⟩
theorem MAt.fresh (h : MAt B w F m s) (hk : Fresh w w') : MAt B w' F m s := h.keep hk (fun _ _ => trivial)
theorem MAt.lt (h : MAt B w F m s) : m < w.heap.size := h.hi m h.fm
theorem MAt.lower {B' : Nat} (h : MAt B w F m s) (hb : B' ≤ B) : MAt B' w F m s := ⟨h.ex, h.fm, fun j hj => Nat.le_trans hb (h.lo j hj), h.hi, h.inv⟩
/-- Two machines that share nothing. -/
theorem MAt.of {bp bl : Nat} {S : Nat → Prop} (hm : MSt S w m bp bl s) (hi : Inv s) (h1 : B ≤ m) (h2 : B ≤ bp) (h3 : ∀ j, S j → j < w.heap.size → B ≤ j) : MAt B w (fun j => j = m ∨ j = bp ∨ (S j ∧ j < w.heap.size)) m s :=
  ⟨⟨bp, bl, hm.tight.widen (fun j hj => ⟨.inr (.inr hj), fun e => hm.nm (e ▸ hj.1), fun e => hm.nb (e ▸ hj.1)⟩) (fun h => h.2.1 rfl) (fun h => h.2.2 rfl), .inr (.inl rfl)⟩, .inl rfl,
    fun j hj => hj.elim (fun e => e ▸ h1) fun hj => hj.elim (fun e => e ▸ h2) fun hj => h3 j hj.1 hj.2,
    fun j hj => hj.elim (fun e => e ▸ hm.blk.lt) fun hj => hj.elim (fun e => e ▸ hm.pm.lt) fun hj => hj.2, hi⟩
end
theorem applyD_inv {c i r o : Int} {k v d : Txt} {s : StD} (h : Inv s) : Inv (applyD c i r o k v d s).2 := by
  unfold applyD
  split
  · rename_i hv
    exact (apply_ok h (vcmd_of hv)).2
  · exact h

/-! ### the contracts -/
section
variable {B : Nat} {w : World} {F : Nat → Prop} {m : Nat} {s : StD}
theorem mat_new (w : World) : Calls Tryz.prog 14 #[] w fun e w' => (∃ (m : Nat) (F : Nat → Prop), e = .returned (.pointer (some ⟨m, 0, none⟩)) ∧ MAt w.heap.size w' F m newD) ∧ Fresh w w' := by
  refine (newm_any w).mono ?_
  rintro e w' ⟨⟨m, bp, bl, rfl, hm, h1, h2, h3⟩, hf⟩
  exact ⟨⟨m, _, rfl, MAt.of hm inv_new h1 h2 (fun j hj _ => by rw [hj]; exact h3)⟩, hf⟩
/-- Apply, from a world that grew out of W. -/
theorem mat_apply {W : World} (hT : TabsN W) (hf : Fresh W w) (h : MAt W.heap.size w F m s) (c i r o : Int) (k v d : Txt) :
    Calls Tryz.prog 17 #[.pointer (some ⟨m, 0, none⟩), cmdV c i r o k v d] w fun e w' =>
      e = .returned (resV (applyD c i r o k v d s).1) ∧ (∃ F' : Nat → Prop, MAt W.heap.size w' F' m (applyD c i r o k v d s).2 ∧ (∀ j, F' j → F j ∨ w.heap.size ≤ j)) ∧ Keep (fun j => ¬ F j) w w' ∧ Fresh W w' := by
  obtain ⟨bp, bl, hm, hb⟩ := h.ex
  have hT0 := hT.fresh hf
  refine (appl_any _ m bp bl s c i r o k v d w hm h.inv.lk h.inv.pr hT0.t (fun w' hk => hT.t.fresh ?_)).mono ?_
  · exact hf.comp hk (fun _ _ _ => trivial) (fun j hj _ => ⟨fun e => by have := h.lo m h.fm; omega, fun e => by have := h.lo bp hb; omega, fun e => by have := h.lo j e.1; omega⟩)
  · rintro e w' ⟨he, hst, hk⟩
    have hkF : Keep (fun j => ¬ F j) w w' := hk.weaken fun j _ hj => ⟨fun e => hj (e ▸ h.fm), fun e => hj (e ▸ hb), fun e => hj e.1⟩
    refine ⟨he, ⟨_, MAt.of hst (applyD_inv h.inv) (h.lo m h.fm) (h.lo bp hb) (fun j hj _ => ?_), fun j hj => ?_⟩, hkF, hf.comp hkF (fun _ _ _ => trivial) (fun j hj _ e => by have := h.lo j e; omega)⟩
    · rcases hj with hj | hj
      · exact h.lo j hj.1
      · exact Nat.le_trans hf.size hj
    · rcases hj with rfl | rfl | ⟨hj | hj, _⟩
      · exact .inl h.fm
      · exact .inl hb
      · exact .inl hj.1
      · exact .inr hj
theorem mat_snap (hT : TabsN w) (h : MAt B w F m s) :
    Calls Tryz.prog 16 #[.pointer (some ⟨m, 0, none⟩)] w fun e w' => (∃ v, e = .returned v ∧ w'.ownsRow w.heap.size 5 1 v (snapB s).length (Lib.byteCells (snapB s))) ∧ Fresh w w' := by
  obtain ⟨bp, bl, hm, hb⟩ := h.ex
  exact snapshot_any _ m bp bl s w hm h.inv hT.n (fun w' hf => (hT.fresh hf).n)
theorem mat_get (h : MAt B w F m s) (k : Txt) (hk : k.length ≤ 8) :
    Calls Tryz.prog 32 #[.pointer (some ⟨m, 0, none⟩), str k] w fun e w' => e = .returned (.tuple #[str ((pfind k s.pairs).getD []), .bool (pfind k s.pairs).isSome]) ∧ w = w' := by
  obtain ⟨bp, bl, hm, hb⟩ := h.ex
  exact get_any m bp s.pairs k w hm.three.1 hm.pm hk
theorem mat_holder (h : MAt B w F m s) (k : Txt) (hk : k.length ≤ 1048576) :
    Calls Tryz.prog 26 #[.pointer (some ⟨m, 0, none⟩), str k] w fun e w' => e = .returned (.tuple #[.agg (holdA (holdD k s).1), .bool (holdD k s).2]) ∧ Fresh w w' := by
  obtain ⟨bp, bl, hm, hb⟩ := h.ex
  exact holder_any _ m bp bl s k w hm h.inv.lk hk
theorem mat_session (h : MAt B w F m s) (q : Int) :
    Calls Tryz.prog 20 #[.pointer (some ⟨m, 0, none⟩), .int .i64 q] w fun e w' => e = .returned (.tuple #[sesV (sessD q s).1, .bool (sessD q s).2]) ∧ Fresh w w' := by
  obtain ⟨bp, bl, hm, hb⟩ := h.ex
  exact session_any _ m bp bl s q w hm
theorem mat_locks (h : MAt B w F m s) :
    Calls Tryz.prog 31 #[.pointer (some ⟨m, 0, none⟩)] w fun e w' => (∃ v, e = .returned v ∧ w'.ownsRow w.heap.size 9 1 v s.locks.length ((s.locks.map LockD.name).map str)) ∧ Fresh w w' := by
  obtain ⟨bp, bl, hm, hb⟩ := h.ex
  exact locks_any _ m bp bl s w hm h.inv.lk
theorem mat_pairs (h : MAt B w F m s) :
    Calls Tryz.prog 30 #[.pointer (some ⟨m, 0, none⟩)] w fun e w' => (∃ v, e = .returned v ∧ w'.ownsRow w.heap.size 71 2 v s.pairs.length (pcells s.pairs)) ∧ Fresh w w' := by
  obtain ⟨bp, bl, hm, hb⟩ := h.ex
  exact pairs_any _ m bp bl s w hm h.inv.pr
theorem mat_waiting (h : MAt B w F m s) (k : Txt) (hk : k.length ≤ 1048576) :
    Calls Tryz.prog 37 #[.pointer (some ⟨m, 0, none⟩), str k] w fun e w' => (∃ v, e = .returned v ∧ w'.ownsRow w.heap.size 115 2 v (waitD k s).length (wcells (waitD k s))) ∧ Fresh w w' := by
  obtain ⟨bp, bl, hm, hb⟩ := h.ex
  exact waiting_any _ m bp bl s k w hm h.inv.lk hk
/-- 'same': two machines have one snapshot. -/
theorem samem_any {B' : Nat} {F' : Nat → Prop} {m' : Nat} {s' : StD} (hT : TabsN w) (h : MAt B w F m s) (h' : MAt B' w F' m' s') :
    Calls Tryz.prog 29 #[.pointer (some ⟨m, 0, none⟩), .pointer (some ⟨m', 0, none⟩)] w fun e w' => e = .returned (.bool (decide (snapB s = snapB s'))) ∧ Fresh w w' := by
  have HS := Lib.hid (mat_snap hT h)
  have hl1 := snap_len h.inv
  have hl2 := snap_len h'.inv
  have HA := Lib.hid (And.intro hT (And.intro h h'))
  clear h h' hT
  go_enter Tryz.func29, Tryz.ntmps29
  go_wp2_with fail
  refine HS.out.mono ?_
  rintro e w1 ⟨⟨v, rfl, hv⟩, hf1⟩
  have HS2 := Lib.hid (mat_snap (HA.out.1.fresh hf1) (HA.out.2.2.fresh hf1))
  have H1 := Lib.hid (And.intro hv hf1)
  clear hv hf1 HS
  go_wp2_with fail
  refine HS2.out.mono ?_
  rintro e w2 ⟨⟨v2, rfl, hv2⟩, hf2⟩
  obtain ⟨A1, c1, rfl, hr1, -⟩ := own_rd (own_keep H1.out.1 hf2 (fun _ _ => trivial))
  obtain ⟨A2, c2, rfl, hr2, -⟩ := own_rd hv2
  have HC := Lib.hid (same_any _ _ A1 A2 _ c1 _ c2 _ _ w2 hr1 hr2 (by omega) (by omega))
  have H2 := Lib.hid hf2
  clear hr1 hr2 hv2 hf2 HS2
  go_wp2_with fail
  refine HC.out.mono ?_
  rintro e w3 ⟨rfl, k, rfl⟩
  go_wp2_with fail
  go_ret
  exact ⟨rfl, (H1.out.2.comp H2.out (fun _ _ h => h) (fun _ _ _ => trivial)).drewN k⟩
end
end Go.Proofs.YtlibhkehebioeaaGreatDoor
namespace Go.Proofs.YtlibhkehebioeaaGreatDoor
set_option linter.unusedVariables false
set_option linter.unusedSimpArgs false
open Go.RowKit

theorem Rd.front {w : World} {Z : Nat → Prop} {A : Option Addr} {n : Nat} {xs : List Value} (h : Rd w Z 1 A n xs) (m : Nat) (hm : m ≤ n) : Rd w Z 1 A m (xs.take m) := by
  refine ⟨by have := h.1; simp; omega, fun hp => ?_⟩
  obtain ⟨b, o, e, hb, hc⟩ := h.2 (by omega)
  refine ⟨b, o, e, hb, fun j u hu => hc j u ?_⟩
  have hj : j < m := by
    rcases Nat.lt_or_ge j m with h1 | h1
    · exact h1
    · rw [List.getElem?_eq_none (by rw [List.length_take]; omega)] at hu
      cases hu
  rw [List.getElem?_take_of_lt hj] at hu
  exact hu
theorem four_of {α : Type} {l : List α} (h : l.length = 4) : ∃ a b c d, l = [a, b, c, d] := by
  match l, h with
  | [a, b, c, d], _ => exact ⟨a, b, c, d, rfl⟩
/-- The first k of the last four bytes are the sum's. -/
def sealTo (sm : Nat) (ts : Txt) (k : Nat) : Prop := ∀ j, j < k → ∃ h : j < ts.length, (ts[j]).toNat = sm / 256 ^ j % 256
theorem seal_all {sm : Nat} {bs ts : Txt} (hs : sm = crcB bs) (h4 : ts.length = 4) : sealTo sm ts 4 ↔ ts = sumB bs := by
  obtain ⟨a, b, c, d, rfl⟩ := four_of h4
  have hlt := crcB_lt bs
  rw [← hs] at hlt
  have ha := a.toNat_lt
  have hb := b.toNat_lt
  have hc := c.toNat_lt
  have hd := d.toNat_lt
  constructor
  · intro h
    obtain ⟨_, h0⟩ := h 0 (by omega)
    obtain ⟨_, h1⟩ := h 1 (by omega)
    obtain ⟨_, h2⟩ := h 2 (by omega)
    obtain ⟨_, h3⟩ := h 3 (by omega)
    simp at h0 h1 h2 h3
    rw [sumB_iff, ← hs]
    omega
  · intro h
    rw [sumB_iff, ← hs] at h
    intro j hj
    refine ⟨by simp; omega, ?_⟩
    have : j = 0 ∨ j = 1 ∨ j = 2 ∨ j = 3 := by omega
    rcases this with rfl | rfl | rfl | rfl <;> simp <;> omega

def SealPost (bs : Txt) (e : Ending) : Prop := ∃ r : Bool, e = .returned (.bool r) ∧ (r = true ↔ sealedB bs)
set_option maxRecDepth 20000 in
theorem sealed_any (Z : Nat → Prop) (A : Option Addr) (n c : Nat) (bs : Txt) (w : World) (hb : Rd w Z 1 A n (Lib.byteCells bs)) (hn : n ≤ 1099511627770) (hnc : n ≤ c) (hT : Nib w) :
    Calls Tryz.prog 48 #[.slice A n c] w fun e w' => SealPost bs e ∧ w = w' := by
  have hlen : bs.length = n := by simpa [Lib.byteCells] using hb.1
  have HB := Lib.hid (And.intro hb hlen)
  have HT := Lib.hid hT
  by_cases h11 : n < 11
  · clear hb hlen hT
    go_enter Tryz.func48, Tryz.ntmps48
    go_wp2
    go_ret
    exact ⟨⟨false, rfl, by unfold sealedB; rw [HB.out.2]; simp; intro h; omega⟩, rfl⟩
  · obtain ⟨b, o, rfl, -, hcl⟩ := hb.2 (by omega)
    have hcell : ∀ j, (hj : j < bs.length) → w.cell? ⟨b, o + j, none⟩ = some (.int .u8 ((bs[j]).toNat : Int)) := fun j hj => hcl j _ (by simp [Lib.byteCells, hj])
    obtain ⟨x0, hx0⟩ : ∃ x : Nat, x = (bs[0]'(by omega)).toNat := ⟨_, rfl⟩
    obtain ⟨x1, hx1⟩ : ∃ x : Nat, x = (bs[1]'(by omega)).toNat := ⟨_, rfl⟩
    obtain ⟨x2, hx2⟩ : ∃ x : Nat, x = (bs[2]'(by omega)).toNat := ⟨_, rfl⟩
    have c0 := hcell 0 (by omega)
    have c1 := hcell 1 (by omega)
    have c2 := hcell 2 (by omega)
    rw [← hx0, Nat.add_zero] at c0
    rw [← hx1] at c1
    rw [← hx2] at c2
    have h3 : sealedB bs → x0 = 81 ∧ x1 = 83 ∧ x2 = 1 := fun h => by
      have e := h.2.1
      have e0 := congrArg (fun l => l[0]?) e
      have e1 := congrArg (fun l => l[1]?) e
      have e2 := congrArg (fun l => l[2]?) e
      simp [headB, show 0 < bs.length by omega, show 1 < bs.length by omega, show 2 < bs.length by omega] at e0 e1 e2
      rw [hx0, hx1, hx2, e0, e1, e2]
      exact ⟨rfl, rfl, rfl⟩
    have h3' : x0 = 81 → x1 = 83 → x2 = 1 → bs.take 3 = headB := fun a0 a1 a2 => by
      have f0 : bs[0]'(by omega) = 81 := UInt8.toNat_inj.1 (by rw [← hx0, a0]; rfl)
      have f1 : bs[1]'(by omega) = 83 := UInt8.toNat_inj.1 (by rw [← hx1, a1]; rfl)
      have f2 : bs[2]'(by omega) = 1 := UInt8.toNat_inj.1 (by rw [← hx2, a2]; rfl)
      refine List.ext_getElem? fun j => ?_
      by_cases hj : j < 3
      · have : j = 0 ∨ j = 1 ∨ j = 2 := by omega
        rcases this with rfl | rfl | rfl
        · rw [List.getElem?_take_of_lt (by omega), List.getElem?_eq_getElem (by omega), f0]; rfl
        · rw [List.getElem?_take_of_lt (by omega), List.getElem?_eq_getElem (by omega), f1]; rfl
        · rw [List.getElem?_take_of_lt (by omega), List.getElem?_eq_getElem (by omega), f2]; rfl
      · rw [List.getElem?_eq_none (by simp; omega), List.getElem?_eq_none (by simp [headB]; omega)]
    have H3 := Lib.hid (And.intro h3 (And.intro h3' hcell))
    clear hb hlen hT hcl hx0 hx1 hx2 h3 h3' hcell
    by_cases g0 : x0 = 81
    · subst g0
      by_cases g1 : x1 = 83
      · subst g1
        by_cases g2 : x2 = 1
        · subst g2
          go_enter Tryz.func48, Tryz.ntmps48
          have HS := Lib.hid (sum_any Z (some ⟨b, o, none⟩) (n - 4) c (bs.take (n - 4)) w (by have h1 := HB.out.1.front (n - 4) (by omega); simpa [Lib.byteCells, List.map_take] using h1) (by omega) HT.out)
          obtain ⟨sm, hsm⟩ : ∃ sm, sm = crcB (bs.take (n - 4)) := ⟨_, rfl⟩
          have hs32 : sm < 4294967296 := hsm ▸ crcB_lt _
          rw [← hsm] at HS
          have HM := Lib.hid hsm
          clear hsm
          go_wp2_with fail
          refine Calls.mono HS.out ?_
          rintro e _ ⟨rfl, rfl⟩
          clear HS
          go_wp2_with fail
          obtain ⟨ts, hts⟩ : ∃ ts, ts = bs.drop (n - 4) := ⟨_, rfl⟩
          have h4 : ts.length = 4 := by rw [hts, List.length_drop, HB.out.2]; omega
          have HD : Hid (sealTo sm ts 4 ↔ sealedB bs) := Lib.hid (by
            rw [seal_all HM.out h4, hts]
            unfold sealedB
            rw [HB.out.2]
            exact ⟨fun h => ⟨by omega, H3.out.2.1 (by simp) (by simp) (by simp), h⟩, fun h => h.2.2⟩)
          have hcT : ∀ j, (hj : j < 4) → w.cell? ⟨b, o + (n - 4) + j, none⟩ = some (.int .u8 ((ts[j]'(by omega)).toNat : Int)) := fun j hj => by
            have h1 := H3.out.2.2 (n - 4 + j) (by have := HB.out.2; omega)
            rw [← Nat.add_assoc] at h1
            rw [h1]
            congr 4
            simp [hts]
          have hi0 : 0 ≤ (sm : Int) := by omega
          have hi1 : (sm : Int) < 4294967296 := by omega
          have hn4 : n - (n - 4) = 4 := by omega
          obtain ⟨o2, ho2⟩ : ∃ o2, o2 = o + (n - 4) := ⟨_, rfl⟩
          obtain ⟨c2', hc2⟩ : ∃ c2, c2 = c - (n - 4) := ⟨_, rfl⟩
          rw [← ho2] at hcT
          rw [hn4, ← ho2, ← hc2]
          have HC := Lib.hid hcT
          clear hcT hts H3 c0 c1 c2 HM hn4 ho2 hc2
          go_loop [39] (fun i => ∃ k : Nat, k ≤ 4 ∧ i = .int .i64 (k : Int) ∧ Hid (sealTo sm ts k)) (fun i => 4 - (intOf i).toNat)
          case atStart => exact ⟨0, by omega, rfl, fun j hj => absurd hj (by omega)⟩
          case round =>
            obtain ⟨k, hk, rfl, HK⟩ := hrel
            by_cases hlt : k < 4
            · have ck := HC.out k hlt
              obtain ⟨x, hx⟩ : ∃ x : Nat, x = (ts[k]'(by omega)).toNat := ⟨_, rfl⟩
              rw [← hx] at ck
              have hx256 : x < 256 := hx ▸ (ts[k]'(by omega)).toNat_lt
              have HX := Lib.hid hx
              have hstep : x = sm / 256 ^ k % 256 → sealTo sm ts (k + 1) := fun e j hj => by
                rcases Nat.lt_or_ge j k with h1 | h1
                · exact HK.out j h1
                · obtain rfl : j = k := by omega
                  exact ⟨by omega, by rw [← HX.out]; exact e⟩
              have hstop : x ≠ sm / 256 ^ k % 256 → ¬ sealTo sm ts 4 := fun e h => by
                obtain ⟨_, h1⟩ := h k hlt
                exact e (by rw [HX.out]; exact h1)
              have HS := Lib.hid (And.intro hstep hstop)
              clear hx hstep hstop
              have hki : (k : Int) < 4 := by omega
              go_upto_region 7 with (fail)
              have hy : Hid (∀ y : Int, y = (sm : Int) / 256 ^ k % 256 → ((x : Int) != y) = true → ¬ sealTo sm ts 4) := Lib.hid fun y hy h => HS.out.2 fun e => by
                rw [hy, e] at h
                simp at h
              have hz : Hid (∀ y : Int, y = (sm : Int) / 256 ^ k % 256 → ((x : Int) != y) = false → sealTo sm ts (k + 1)) := Lib.hid fun y hy h => HS.out.1 (by
                simp at h
                rw [hy] at h
                have : ((sm / 256 ^ k % 256 : Nat) : Int) = (sm : Int) / 256 ^ k % 256 := by simp
                omega)
              clear ck HS hx256
              have hk8 : 0 ≤ 8 * (k : Int) := by omega
              have hk9 : 8 * (k : Int) ≤ 64 := by omega
              obtain ⟨kk, hkk⟩ : ∃ kk : Int, kk = 8 * (k : Int) := ⟨_, rfl⟩
              have hkw : IntKind.i64.wrap (8 * (k : Int)) = kk := by rw [hkk]; exact IntWalk.i64_in _ ⟨by omega, by omega⟩
              rw [← hkk] at hk8 hk9
              have HKK := Lib.hid hkk
              clear hkk hk8 hk9 hkw hi0 hi1 hs32 hki
              have h2k : (2 : Int) ^ (8 * k) = 256 ^ k := by
                have : k = 0 ∨ k = 1 ∨ k = 2 ∨ k = 3 := by omega
                rcases this with rfl | rfl | rfl | rfl <;> rfl
              have H2k := Lib.hid h2k
              clear h2k
              go_wp2
              · go_ret
                rename_i hbad _
                exact ⟨⟨false, rfl, by simp; intro h; exact hy.out _ (by rw [H2k.out]) hbad (HD.out.2 h)⟩, rfl⟩
              · rename_i hgood
                exact ⟨⟨k + 1, by omega, by simp, Lib.hid (hz.out _ (by rw [H2k.out]) hgood)⟩, by simp only [intOf]; omega⟩
            · obtain rfl : k = 4 := by omega
              clear hi0 hi1 hs32
              go_wp2
              go_ret
              exact ⟨⟨true, rfl, by simp; exact HD.out.1 HK.out⟩, rfl⟩
        · have g2' : ((x2 : Int) != 1) = true := by simp; omega
          go_enter Tryz.func48, Tryz.ntmps48
          go_wp2
          go_ret
          exact ⟨⟨false, rfl, by simp; intro h; exact g2 (H3.out.1 h).2.2⟩, rfl⟩
      · have g1' : ((x1 : Int) != 83) = true := by simp; omega
        go_enter Tryz.func48, Tryz.ntmps48
        go_wp2
        go_ret
        exact ⟨⟨false, rfl, by simp; intro h; exact g1 (H3.out.1 h).2.1⟩, rfl⟩
    · have g0' : ((x0 : Int) != 81) = true := by simp; omega
      go_enter Tryz.func48, Tryz.ntmps48
      go_wp2
      go_ret
      exact ⟨⟨false, rfl, by simp; intro h; exact g0 (H3.out.1 h).1⟩, rfl⟩
end Go.Proofs.YtlibhkehebioeaaGreatDoor
namespace Go.Proofs.YtlibhkehebioeaaGreatDoor
set_option linter.unusedVariables false
set_option linter.unusedSimpArgs false
open Go.RowKit

/-- A machine just where the text tells one. -/
def RestPost (bs : Txt) (w : World) (e : Ending) (w' : World) : Prop :=
  Fresh w w' ∧ ((∃ (s : StD) (F : Nat → Prop) (m : Nat), Restored bs s ∧ e = .returned (.tuple #[.pointer (some ⟨m, 0, none⟩), .int .i64 0]) ∧ MAt w.heap.size w' F m s) ∨ ((∀ s, ¬ Restored bs s) ∧ e = .returned (.tuple #[.pointer none, .int .i64 131])))
theorem good_stick {bs : Txt} (h : (rsS bs).2.2 = false) : (rsL bs).2.2 = false ∧ (rsP bs).2.2 = false := by
  obtain ⟨s1, s2, s3⟩ := runF_ok (one := oSes bs) rdSes_ok _ _ _ _ h
  obtain ⟨t1, t2⟩ := o_of_count (hi := 16) s1
  have htok : (rsT bs).1 ≤ 99999999 := by
    have := rCount_most bs 3 false (most := 99999999) (by omega)
    show (rCount bs 3 false 99999999).1 ≤ 99999999
    omega
  obtain ⟨l1, l2, l3⟩ := runF_ok (one := oLockT bs (rsT bs).1) (rdLock_ok htok) _ _ _ _ t1
  obtain ⟨u1, u2⟩ := o_of_count (hi := 8) l1
  exact ⟨t1, u1⟩
set_option maxRecDepth 20000 in
set_option maxHeartbeats 2000000 in
theorem restore_any (Z0 : Nat → Prop) (A : Option Addr) (n c : Nat) (bs : Txt) (w : World) (hb0 : Rd w Z0 1 A n (Lib.byteCells bs)) (hn : n ≤ 1099511627770) (hnc : n ≤ c) (hT : Nib w) :
    Calls Tryz.prog 27 #[.slice A n c] w (RestPost bs w) := by
  have hlen : bs.length = n := by simpa [Lib.byteCells] using hb0.1
  have hb := hb0.old (by omega)
  obtain ⟨b, hbs⟩ : ∃ b, b = bs.take (n - 4) := ⟨_, rfl⟩
  have hf : Rd w (fun k => k < w.heap.size) 1 A (n - 4) (Lib.byteCells b) := by
    have h1 := hb.front (n - 4) (by omega)
    rw [hbs]
    simpa [Lib.byteCells, List.map_take] using h1
  have hbl : b.length = n - 4 := by rw [hbs, List.length_take]; omega
  have HS := Lib.hid (sealed_any _ A n c bs w hb0 hn hnc hT)
  have HN := Lib.hid (newm_any w)
  have HB := Lib.hid (And.intro hlen (And.intro hbs (And.intro hf hbl)))
  clear hlen hb0 hb hbs hf hT hbl
  go_enter Tryz.func27, Tryz.ntmps27
  go_wp2_with fail
  refine Calls.mono HS.out ?_
  rintro e _ ⟨⟨sl, rfl, hsl⟩, rfl⟩
  have H0 := Lib.hid hsl
  clear hsl HS
  cases sl with
  | false =>
    go_wp2_with fail
    go_ret2
    refine ⟨Keep.refl _ _, .inr ⟨fun s hs => ?_, rfl⟩⟩
    exact absurd (H0.out.2 (good_restored hs).1) (by simp)
  | true =>
    have hse := H0.out.1 rfl
    have h11 : 11 ≤ n := by have := hse.1; have := HB.out.1; omega
    have HSE := Lib.hid hse
    clear H0 hse
    go_wp2_with fail
    refine Calls.mono HN.out ?_
    rintro e w1 ⟨⟨m, bp, bl, rfl, hm, h1, h2, h3⟩, hf1⟩
    have H1 := Lib.hid (And.intro hm (And.intro hf1 (And.intro h1 (And.intro h2 h3))))
    clear hm hf1 h1 h2 h3 HN
    have hnc4 : n - 4 ≤ c := by omega
    have hn4 : n - 4 ≤ 1099511627770 := by omega
    have h3n : 3 ≤ n - 4 := by omega
    obtain ⟨T, hT⟩ : ∃ T, T = rsT b := ⟨_, rfl⟩
    have hTle : T.2.1 ≤ n - 4 := by
      have := rCount_le b 3 false 99999999 (by rw [HB.out.2.2.2]; exact h3n)
      rw [HB.out.2.2.2] at this
      rw [hT]
      exact this
    have hTm : (T.1 : Int) ≤ 99999999 := by rw [hT]; exact rCount_most b 3 false (most := 99999999) (by omega)
    have HTd := Lib.hid hT
    have hzz : ∀ W, Fresh w W → Rd W (fun k => k < w.heap.size) 1 A (n - 4) (Lib.byteCells b) := fun W hf => HB.out.2.2.1.keep (hf.weaken fun _ _ _ => trivial)
    have HZ := Lib.hid hzz
    clear hT hzz
    go_upto_region 5 with (fail)
    obtain ⟨g, hgs⟩ : ∃ g, g = w1.heap.size := ⟨_, rfl⟩
    rw [← hgs]
    have hkW1 : Fresh w1 (w1.alloc (.cells #[.slice A (n - 4) c, .int .i64 3, .bool false] 121)) := (Keep.refl (fun _ => True) w1).alloc _
    have hgW1 : Rdr (w1.alloc (.cells #[.slice A (n - 4) c, .int .i64 3, .bool false] 121)) g A (n - 4) c 3 false := Blk.newAt hgs.symm
    generalize w1.alloc (.cells #[.slice A (n - 4) c, .int .i64 3, .bool false] 121) = W1 at hkW1 hgW1 ⊢
    have hf01 : Fresh w W1 := H1.out.2.1.comp hkW1 (fun _ _ h => h) (fun _ _ _ => trivial)
    have HC := Lib.hid (rcount_any g _ A (n - 4) c b 3 false 99999999 W1 hgW1 h3n (HZ.out _ hf01) hn4)
    have hgw : w.heap.size ≤ g := by rw [hgs]; exact H1.out.2.1.size
    obtain ⟨hm, hf1, hmw, hbw, hlw⟩ := H1.out
    have hmg : m ≠ g := by have := hm.blk.lt; omega
    have hbg : bp ≠ g := by have := hm.pm.lt; omega
    obtain ⟨ms0, hl0⟩ := hm.lk
    obtain rfl : ms0 = [] := by have := hl0.data; simpa [newD] using this
    have hlg : bl ≠ g := by have := hl0.map.lt; omega
    have hmb := hm.mp
    have hml : m ≠ bl := (hl0.map.ne_blk hm.blk).symm
    have hbl := hm.ne
    have HD := Lib.hid (And.intro hmg (And.intro hbg (And.intro hlg (And.intro hmb (And.intro hml hbl)))))
    have HW := Lib.hid (And.intro hgw (And.intro hmw (And.intro hbw hlw)))
    have HM := Lib.hid (And.intro (hm.blk.keep hkW1 trivial) (And.intro (hm.pm.keep hkW1 trivial) (And.intro (hl0.map.keep hkW1 trivial) hf01)))
    clear hgs hkW1 hgW1 hf01 hgw hm hf1 hmw hbw hlw hmg hbg hl0 hlg hmb hml hbl
    go_wp2_with fail
    refine Calls.mono HC.out ?_
    rintro e w2 ⟨rfl, hg2, hk2⟩
    rw [show rCount b 3 false 99999999 = T from HTd.out.symm] at hg2 ⊢
    have hb2 := HM.out.1.keep hk2 HD.out.1
    have z2 := hb2.frozen 2
    have hm2 := hb2.lt
    have x2 : w2.cell? ⟨m, 2, none⟩ = some (.int .i64 0) := hb2.cell 2
    have H2 := Lib.hid (And.intro hg2 (And.intro hk2 hb2))
    clear hg2 hk2 hb2 HC
    go_upto_region 6 with (fail)
    have hb3 : Blk (w2.setCell ⟨m, 2, none⟩ (.int .i64 (T.1 : Int))) m 91 (mcells bp bl (T.1 : Int) (List.replicate 16 noSes)).toArray := by
      have h := H2.out.2.2.set 2 (.int .i64 (T.1 : Int))
      exact h
    have hk23 : Keep (fun j => j ≠ m) w2 (w2.setCell ⟨m, 2, none⟩ (.int .i64 (T.1 : Int))) := (Keep.refl _ w2).setCell (fun _ h => h rfl) _
    generalize w2.setCell ⟨m, 2, none⟩ (.int .i64 (T.1 : Int)) = W3 at hb3 hk23 ⊢
    have hg3 := H2.out.1.keep hk23 (fun e => HD.out.1 e.symm)
    have hp3 := (HM.out.2.1.keep H2.out.2.1 HD.out.2.1).keep hk23 (fun e => HD.out.2.2.2.1 e.symm)
    have hl3 := (HM.out.2.2.1.keep H2.out.2.1 HD.out.2.2.1).keep hk23 (fun e => HD.out.2.2.2.2.1 e.symm)
    have hf3 : Fresh w W3 := (HM.out.2.2.2.comp H2.out.2.1 (fun _ _ h => h) (fun j hj _ => by have := HW.out.1; omega)).comp hk23 (fun _ _ h => h) (fun j hj _ => by have := HW.out.2.1; omega)
    have HP := Lib.hid (rpairs_any m g bp (fun k => k < w.heap.size) A (n - 4) c b T.2.1 T.2.2 W3 (hb3.cell 0) HD.out.1 HD.out.2.2.2.1 hp3 hg3 (fun k hk => by have := HW.out.1; have := HW.out.2.2.1; omega) hTle hnc4 (HZ.out _ hf3) hn4)
    have H3 := Lib.hid (And.intro hb3 (And.intro hl3 hf3))
    clear hb3 hk23 hg3 hp3 hl3 hf3 x2 z2 hm2
    go_wp2_with fail
    refine Calls.mono HP.out ?_
    rintro e w4 ⟨rfl, ⟨ps, hps, hpr, hpl, hpe⟩, hg4, hn44, hk4⟩
    have hb4 := H3.out.1.keep hk4 ⟨HD.out.1, HD.out.2.2.2.1⟩
    have hl4 := H3.out.2.1.keep hk4 ⟨HD.out.2.2.1, HD.out.2.2.2.2.2.symm⟩
    have hf4 : Fresh w w4 := H3.out.2.2.comp hk4 (fun _ _ h => h) (fun j hj _ => by have := HW.out.1; have := HW.out.2.2.1; omega)
    obtain ⟨P, hP⟩ : ∃ P, P = rPairs b T.2.1 T.2.2 := ⟨_, rfl⟩
    rw [← hP] at hg4 hn44 hpe
    have HL := Lib.hid (rlocks_any m g bl (T.1 : Int) (fun k => k < w.heap.size) A (n - 4) c b P.2.1 P.2.2 w4 (hb4.cell 1) (hb4.cell 2) (by omega) hTm HD.out.1 HD.out.2.2.2.2.1 hl4 hg4 (fun k hk => by have := HW.out.1; have := HW.out.2.2.2; omega) hn44 hnc4 (HZ.out _ hf4) hn4)
    have H4 := Lib.hid (And.intro hb4 (And.intro hf4 (And.intro hps (And.intro hpe hP))))
    have hm4 := hb4.lt
    have hg4l := hg4.lt
    have hp4l := hps.lt
    clear hb4 hl4 hf4 hg4 hk4 hps hpr hpe hpl hP HP
    go_wp2_with fail
    refine Calls.mono HL.out ?_
    rintro e w5 ⟨rfl, ⟨S, ms, ls, hls, hS, hlr, hl8, hlsafe, hlq, hle⟩, hg5, hn5, hk5⟩
    have hb5 := H4.out.1.keep hk5 ⟨HD.out.1, HD.out.2.2.2.2.1⟩
    have hps5 := H4.out.2.2.1.keep hk5 ⟨HD.out.2.1, HD.out.2.2.2.2.2⟩
    have hf5 : Fresh w w5 := H4.out.2.1.comp hk5 (fun _ _ h => h) (fun j hj _ => by have := HW.out.1; have := HW.out.2.2.2; omega)
    obtain ⟨L, hL⟩ : ∃ L, L = rLocks b (T.1 : Int) P.2.1 P.2.2 := ⟨_, rfl⟩
    rw [← hL] at hg5 hn5 hle
    have hSg : ∀ j, S j → j ≠ g ∧ j ≠ m := fun j hj => by
      rcases hS j hj with rfl | h
      · exact ⟨HD.out.2.2.1, HD.out.2.2.2.2.1.symm⟩
      · omega
    have hSb : ¬ S bp := fun h => by
      rcases hS bp h with e | h
      · exact HD.out.2.2.2.2.2 e
      · omega
    have hSw : ∀ j, S j → w.heap.size ≤ j := fun j hj => by
      rcases hS j hj with rfl | h
      · exact HW.out.2.2.2
      · exact Nat.le_trans H4.out.2.1.size h
    have HSS := Lib.hid (rsess_any m g bp bl (T.1 : Int) (fun k => k < w.heap.size) A (n - 4) c b L.2.1 L.2.2 w5 hb5 HD.out.1 hg5 (fun k hk => by have := HW.out.1; have := HW.out.2.1; omega) hn5 hnc4 (HZ.out _ hf5) hn4 S ls ⟨ms, hls⟩ hlr hlsafe hlq hSg)
    have H5 := Lib.hid (And.intro hps5 (And.intro hf5 (And.intro hls (And.intro hle (And.intro hL (And.intro hSg (And.intro hSb hSw)))))))
    clear hb5 hps5 hf5 hg5 hk5 hls hS hlr hl8 hlsafe hlq hle hL hSg hSb hSw HL hm4 hg4l hp4l
    go_wp2_with fail
    refine Calls.mono HSS.out ?_
    rintro e w6 ⟨rfl, hb6, hg6, hn6, hk6⟩
    obtain ⟨R, hR⟩ : ∃ R, R = rSess1 b L.2.1 L.2.2 := ⟨_, rfl⟩
    rw [← hR] at hb6 hg6 hn6
    have HO := Lib.hid (rsound_any g A (n - 4) c _ _ w6 hg6)
    have H6 := Lib.hid (And.intro hb6 (And.intro hk6 hR))
    clear hb6 hg6 hk6 hR HSS
    go_wp2_with fail
    refine Calls.mono HO.out ?_
    rintro e w7 ⟨rfl, k7, rfl⟩
    obtain ⟨hs5, hf5, hls5, hle5, hL5, hSg5, hSb5, hSw5⟩ := H5.out
    obtain ⟨hb6, hk6, hR6⟩ := H6.out
    have hP4 := H4.out.2.2.2.2
    have hpe4 := H4.out.2.2.2.1
    have eT : rsT b = T := HTd.out.symm
    have eP : rsP b = P := by unfold rsP; rw [eT]; exact hP4.symm
    have eL : rsL b = L := by unfold rsL; rw [eT, eP]; exact hL5.symm
    have eR : rsS b = R := by unfold rsS; rw [eL]; exact hR6.symm
    have hf7 : Fresh w (w6.drewN k7) := (hf5.comp hk6 (fun _ _ h => h) (fun j hj _ => by have := HW.out.1; have := HW.out.2.1; omega)).drewN k7
    have hgood : ((!(R.2.2 || sesMiss ls (ssPut R.1 (List.replicate 16 noSes))) && decide (R.2.1 = n - 4)) = true) ↔ rsGood b := by
      unfold rsGood rsSs
      rw [eR, eL]
      simp only [Bool.and_eq_true, Bool.not_eq_true', Bool.or_eq_false_iff, decide_eq_true_eq]
      constructor
      · rintro ⟨⟨h1, h2⟩, h3⟩
        have h4 := (good_stick (bs := b) (by rw [eR]; exact h1)).1
        rw [eL] at h4
        rw [hle5 h4] at h2
        exact ⟨h1, h2, by rw [h3, HB.out.2.2.2]⟩
      · rintro ⟨h1, h2, h3⟩
        have h4 := (good_stick (bs := b) (by rw [eR]; exact h1)).1
        rw [eL] at h4
        rw [hle5 h4]
        exact ⟨⟨h1, h2⟩, by rw [h3, HB.out.2.2.2]⟩
    have hbb : bs.take (bs.length - 4) = b := by rw [HB.out.1]; exact HB.out.2.1.symm
    have hout : (rsGood b → ∃ (s : StD) (F : Nat → Prop), Restored bs s ∧ MAt w.heap.size (w6.drewN k7) F m s) := fun hgd => by
      have hres := restored_good HSE.out (by rw [hbb]; exact hgd)
      rw [hbb] at hres
      obtain ⟨g1, g2⟩ := good_stick hgd.1
      rw [eL] at g1
      rw [eP] at g2
      have hst : MSt S (w6.drewN k7) m bp bl ⟨(rsP b).1, (rsL b).1, ((rsT b).1 : Int), rsSs b⟩ := by
        unfold rsSs
        rw [eP, eL, eT, eR]
        have hk67 : Keep (fun j => j ≠ g ∧ j ≠ m) w5 (w6.drewN k7) := hk6.drewN k7
        refine ⟨hb6.drewN k7, by simp [ssPut_len], ?_, ⟨ms, ?_⟩, fun h => (hSg5 m h).2 rfl, hSb5⟩
        · rw [← hpe4 g2]
          exact hs5.keep hk67 ⟨HD.out.2.1, HD.out.2.2.2.1.symm⟩
        · rw [← hle5 g1]
          exact hls5.keep hk67 hSg5
      exact ⟨_, _, hres, MAt.of hst (restored_inv hres).2 HW.out.2.1 HW.out.2.2.1 (fun j hj _ => hSw5 j hj)⟩
    have hbadd : ¬ rsGood b → ∀ s, ¬ Restored bs s := fun hng s hs => hng (by have := (good_restored hs).2; rw [hbb] at this; exact this)
    obtain ⟨q, hq⟩ : ∃ q, q = (!(R.2.2 || sesMiss ls (ssPut R.1 (List.replicate 16 noSes))) && decide (R.2.1 = n - 4)) := ⟨_, rfl⟩
    rw [← hq] at hgood ⊢
    have HF := Lib.hid (And.intro hf7 (And.intro hgood (And.intro hout hbadd)))
    clear hq hs5 hf5 hls5 hle5 hL5 hSg5 hSb5 hSw5 hb6 hk6 hR6 hP4 hpe4 eT eP eL eR hf7 hgood hbb hout hbadd
    cases q with
    | false =>
      go_wp2_with fail
      go_ret2
      exact ⟨HF.out.1, .inr ⟨HF.out.2.2.2 (fun h => by have := HF.out.2.1.2 h; cases this), rfl⟩⟩
    | true =>
      obtain ⟨s, F, h1, h2⟩ := HF.out.2.2.1 (HF.out.2.1.1 rfl)
      have HG := Lib.hid (And.intro h1 h2)
      clear h1 h2
      go_wp2_with fail
      go_ret2
      exact ⟨HF.out.1, .inl ⟨s, F, m, HG.out.1, rfl, HG.out.2⟩⟩
end Go.Proofs.YtlibhkehebioeaaGreatDoor
