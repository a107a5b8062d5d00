/-
  WALKS OF quoratelaw01's Page and Book, of 'Loose' and 'Unspoilt'.
-/
import Derived.Test.YtkgbhanpenpkmaaDoorPages
import Derived.StillTailTactics
namespace Go.Proofs.YtkgbhanpenpkmaaDoor
set_option linter.unusedVariables false
set_option linter.unusedSimpArgs false
open Go.RowKit

theorem Pat_still (id : Int) (k : Nat) (hk : k ≤ 1099511627770) (w : World) : Calls Tryd.prog 30 #[.int .i64 id, .int .i64 (k : Int)] w fun e w' => e = .returned (.int .u8 ((pat id k).toNat : Int)) ∧ w' = w :=
  (Pat_any id k hk w).mono fun _ _ ⟨h1, h2⟩ => ⟨h1, h2.symm⟩
/-- A page's cells at a place. -/
structure PgAt (w : World) (g o : Nat) (p : Pg) : Prop where
  c0 : w.cell? ⟨g, o, none⟩ = some p.b
  c1 : w.cell? ⟨g, o + 1, none⟩ = some p.g
  c2 : w.cell? ⟨g, o + 2, none⟩ = some p.was
  c3 : w.cell? ⟨g, o + 3, none⟩ = some (.int .i64 p.id)
  c4 : w.cell? ⟨g, o + 4, none⟩ = some (.bool p.done)
  fr : ∀ j, w.frozen? ⟨g, j, none⟩ = false
theorem own_form0 {w : World} {base e size n : Nat} {v : Value} {xs : List Value} (h : w.ownsRow base e size v n xs) : ∃ A c, v = .slice A n c := by
  obtain ⟨A, c, hv, _⟩ := own_rd h
  exact ⟨A, c, hv⟩

set_option maxRecDepth 20000 in
set_option maxHeartbeats 1000000 in
theorem fill_any (p : Pg) (B g o : Nat) (w : World) (hat : PgAt w g o p) (hown : w.ownsRow B 5 1 p.b p.now.length (Lib.byteCells p.now)) (hlen : p.now.length ≤ 1099511627000) (hg : p.b.ownBlock ≠ some g) :
    Calls Tryd.prog 37 #[.pointer (some ⟨g, o, none⟩)] w fun e w' => e = .returned (.tuple #[]) ∧ ∃ w1, w' = w1.setCell ⟨g, o + 4, none⟩ (.bool true) ∧ w1.ownsRow B 5 1 p.b p.now.length (Lib.byteCells (pats p.id p.now.length)) ∧ Keep (fun k => p.b.ownBlock ≠ some k) w w1 := by
  obtain ⟨hc0, -, -, hc3, hc4, hf⟩ := hat
  have hf4 := hf (o + 4)
  obtain ⟨dn, hdn⟩ : ∃ dn, dn = p.done := ⟨_, rfl⟩
  rw [← hdn] at hc4
  clear hf hdn
  obtain ⟨b, hb⟩ : ∃ b, b = p.b := ⟨_, rfl⟩
  obtain ⟨l, hl⟩ : ∃ l, l = p.now := ⟨_, rfl⟩
  obtain ⟨id, hid⟩ : ∃ id, id = p.id := ⟨_, rfl⟩
  rw [← hb] at hc0 hg hown ⊢
  rw [← hl] at hown hlen ⊢
  rw [← hid] at hc3 ⊢
  clear hb hl hid
  obtain ⟨A, c, rfl⟩ := own_form0 hown
  obtain ⟨n, hn⟩ : ∃ n, n = l.length := ⟨_, rfl⟩
  rw [← hn] at hown hc0 hg hlen ⊢
  have hglt := lt_of_cell hc0
  have hfr0 : w.heap.size = w.heap.size := rfl
  have HA := Lib.hid (And.intro hc0 (And.intro hc3 (And.intro hf4 (And.intro hown (And.intro hg (And.intro hn hc4))))))
  clear hown hn hc0 hc3 hf4 hc4
  go_enter Tryd.func37, Tryd.ntmps37
  go_wp2
  go_loopw [2] (fun i wr => ∃ k : Nat, k ≤ n ∧ i = .int .i64 (k : Int) ∧ Hid (wr.ownsRow B 5 1 (.slice A n c) n (Lib.byteCells (pats id k ++ l.drop k)) ∧ Keep (fun k => (Value.slice A n c).ownBlock ≠ some k) w wr)) (fun i _ => n - (intOf i).toNat)
  case atStart => exact ⟨0, Nat.zero_le _, rfl, by simpa [pats] using HA.out.2.2.2.1, Keep.refl _ _⟩
  case round =>
    obtain ⟨k, hk, rfl, HW⟩ := hrel
    obtain ⟨hc0, hc3, hf4, hown, hg, hn, hc4⟩ := HA.out
    have x0 := HW.out.2.cellAt hc0 hg
    have x3 := HW.out.2.cellAt hc3 hg
    by_cases hlt : k < n
    · obtain ⟨gb, cap, hA, hB, hgl, hcap⟩ := own_nonnil HW.out.1 (by omega)
      have hA2 : A = some ⟨gb, 0, none⟩ := by injection hA
      subst hA2
      have hfr := own_frozen HW.out.1 k (g := gb) rfl
      obtain ⟨uk, huk⟩ := own_has HW.out.1 (g := gb) (j := k) rfl (by omega)
      obtain ⟨z, hz⟩ : ∃ z : Int, z = ((pat id k).toNat : Int) := ⟨_, rfl⟩
      have HP := Pat_still id k (by omega)
      rw [← hz] at HP
      replace HP := Lib.hid HP
      replace hz := Lib.hid hz
      clear hc0 hc3 hf4 hown hg hn hA hB hc4
      go_wp2_with fail
      refine wp_region_still_tail 12 (by kernel_rfl) (by kernel_rfl) ?_
      simp only [List.take_succ_cons, List.take_zero, List.drop_succ_cons, List.drop_zero]
      repeat (first | still_step | still_call (HP.out _))
      refine wpStill_nil ?_
      change wpList _ _ _ _ _ wr.drew
      have hrow := own_set (own_keep HW.out.1 ((Keep.refl (fun _ => True) wr).drew) (fun _ _ => trivial)) (g := gb) (i := k) rfl (by omega) (.int .u8 z)
      have hkk := (HW.out.2.drew).setCell (p := ⟨gb, k, none⟩) (fun _ h => h rfl) (.int .u8 z)
      rw [hz.out, byteCells_set, pats_set id k l (by have := HA.out.2.2.2.2.2.1; omega), ← hz.out] at hrow
      have HN := Lib.hid (And.intro hrow hkk)
      clear hrow hkk HW HP
      have hfr2 : wr.drew.frozen? ⟨gb, k, none⟩ = false := hfr
      have hgl2 : gb < wr.drew.heap.size := hgl
      have huk2 : wr.drew.cell? ⟨gb, k, none⟩ = some uk := huk
      obtain ⟨w2, hw2⟩ : ∃ w2, w2 = wr.drew := ⟨_, rfl⟩
      rw [← hw2] at HN hfr2 hgl2 huk2 ⊢
      clear hw2 x0 x3 hfr hgl huk
      go_wp2
      exact ⟨⟨k + 1, by omega, congrArg _ (by omega), HN.out⟩, by simp [intOf]; omega⟩
    · have xf : wr.frozen? ⟨g, o + 4, none⟩ = false := (HW.out.2.frozen (p := ⟨g, o + 4, none⟩) hglt hg).trans hf4
      have hgl2 : g < wr.heap.size := Nat.lt_of_lt_of_le hglt HW.out.2.size
      have x4 := HW.out.2.cellAt hc4 hg
      clear hc0 hc3 hf4 hown hg hn hc4
      go_wp2
      go_end0
      obtain rfl : k = n := by omega
      have hd : l.drop k = [] := List.drop_of_length_le (by have := HA.out.2.2.2.2.2.1; omega)
      have hr := HW.out.1
      rw [hd, List.append_nil] at hr
      exact ⟨rfl, _, rfl, hr, HW.out.2⟩

set_option maxRecDepth 20000 in
set_option maxHeartbeats 1000000 in
theorem grow_any (p : Pg) (B g o : Nat) (w : World) (hat : PgAt w g o p) (hown : w.ownsRow B 5 1 p.b p.now.length (Lib.byteCells p.now)) (hlen : p.now.length ≤ 1099511627000) (hid0 : 0 ≤ p.id) (hid1 : p.id ≤ 1000000) (hg : p.b.ownBlock ≠ some g) (hB : B ≤ w.heap.size) :
    Calls Tryd.prog 38 #[.pointer (some ⟨g, o, none⟩)] w fun e w' => e = .returned (.tuple #[]) ∧ ∃ w1 G, w' = w1.setCell ⟨g, o + 1, none⟩ G ∧ w1.ownsRow B 5 1 p.b p.now.length (Lib.byteCells p.now) ∧ w1.ownsRow B 5 1 G (p.now.length + 64) (Lib.byteCells (p.now ++ pats (p.id + 100000) 64)) ∧ Keep (fun k => p.b.ownBlock ≠ some k) w w1 ∧ Next w.heap.size p.b G := by
  obtain ⟨hc0, hc1, -, hc3, -, hf⟩ := hat
  have hf1 := hf (o + 1)
  obtain ⟨b, hb⟩ : ∃ b, b = p.b := ⟨_, rfl⟩
  obtain ⟨l, hl⟩ : ∃ l, l = p.now := ⟨_, rfl⟩
  obtain ⟨id, hid⟩ : ∃ id, id = p.id := ⟨_, rfl⟩
  obtain ⟨gv, hgv⟩ : ∃ gv, gv = p.g := ⟨_, rfl⟩
  rw [← hb] at hc0 hg hown ⊢
  rw [← hl] at hown hlen ⊢
  rw [← hid] at hc3 hid0 hid1 ⊢
  rw [← hgv] at hc1
  clear hb hl hid hf hgv
  obtain ⟨A, c, rfl⟩ := own_form0 hown
  obtain ⟨n, hn⟩ : ∃ n, n = l.length := ⟨_, rfl⟩
  rw [← hn] at hown hc0 hg hlen ⊢
  have hglt := lt_of_cell hc0
  have HA := Lib.hid (And.intro hc0 (And.intro hc3 (And.intro hf1 (And.intro hown (And.intro hg (And.intro hn (And.intro hc1 hB)))))))
  clear hown hn hc0 hc3 hf1 hc1 hB
  go_enter Tryd.func38, Tryd.ntmps38
  go_wp2
  go_loopw [2, 3] (fun tl i wr => ∃ k : Nat, k ≤ 64 ∧ i = .int .i64 (k : Int) ∧ Hid (wr.ownsRow w.heap.size 5 1 tl k (Lib.byteCells (pats (id + 100000) k)) ∧ Fresh w wr)) (fun _ i _ => 64 - (intOf i).toNat)
  case atStart => exact ⟨0, Nat.zero_le _, rfl, w.ownsRow_nil _ _ _, Keep.refl _ _⟩
  case round =>
    obtain ⟨k, hk, rfl, HW⟩ := hrel
    obtain ⟨hc0, hc3, hf1, hown, hg, hn, hc1, hB⟩ := HA.out
    have x0 := HW.out.2.cellAt hc0 trivial
    have x3 := HW.out.2.cellAt hc3 trivial
    by_cases hlt : k < 64
    · obtain ⟨z, hz⟩ : ∃ z : Int, z = ((pat (id + 100000) k).toNat : Int) := ⟨_, rfl⟩
      have HP := Pat_any (id + 100000) k (by omega)
      rw [← hz] at HP
      replace HP := Lib.hid HP
      replace hz := Lib.hid hz
      clear hc0 hc3 hf1 hown hg hn hc1 hB
      go_wp2_with fail
      refine (HP.out _).mono ?_
      rintro e _ ⟨rfl, rfl⟩
      have HB := Lib.hid HW.out.2.size
      have HO := Lib.hid HW.out.1
      go_wp2_with (at_builtin; refine wpList_app1 etU8 rfl (.tmp 8) (.tmp 16) rfl _ _ rfl w.heap.size _ k _ rfl rfl HO.out ?_ HB.out ?_)
      case refine_1 => omega
      intro v1 w1 ho1 hk1 hn1
      have hrow : w1.ownsRow w.heap.size 5 1 v1 (k + 1) (Lib.byteCells (pats (id + 100000) (k + 1))) := by
        rw [pats_succ, Lib.byteCells_append]
        have e : Lib.byteCells [pat (id + 100000) k] = [.int .u8 z] := by rw [hz.out]; rfl
        rw [e]
        exact ho1
      have hfr : Fresh w w1 := HW.out.2.comp hk1 (fun _ _ h => h) (fun i hi _ e => by have := (own_lt HW.out.1 e).1; omega)
      have HN := Lib.hid (And.intro hrow hfr)
      clear hrow hfr ho1 hk1 hn1 HW HP x0 x3
      go_wp2
      exact ⟨⟨k + 1, by omega, congrArg _ (by omega), HN.out⟩, by simp [intOf]; omega⟩
    · have xf : wr.frozen? ⟨g, o + 1, none⟩ = false := (HW.out.2.frozen (p := ⟨g, o + 1, none⟩) hglt trivial).trans hf1
      have hgl2 : g < wr.heap.size := Nat.lt_of_lt_of_le hglt HW.out.2.size
      have x1 := HW.out.2.cellAt hc1 trivial
      obtain rfl : k = 64 := by omega
      clear hc0 hc3 hf1 hown hg hn hc1 hB
      obtain ⟨gt, ct, rfl, hgt, hgt2, hct⟩ := own_nonnil HW.out.1 (by omega)
      have HO := Lib.hid (And.intro (own_keep HA.out.2.2.2.1 HW.out.2 (fun _ _ => trivial)) (And.intro (Blk.rdOwn HW.out.1) (Nat.le_trans HA.out.2.2.2.2.2.2.2 HW.out.2.size)))
      go_wp2_with (at_builtin; refine wpList_app_both etU8 rfl (.tmp 22) (.tmp 23) rfl B _ n _ rfl HO.out.1 _ _ 64 _ _ rfl HO.out.2.1 (bcs_one _) ?_ HO.out.2.2 ?_)
      case refine_1 => omega
      intro v2 w2 ho2 hk2 hn2 ho3
      obtain ⟨A2, c2, rfl⟩ := own_form0 ho2
      rw [← Lib.byteCells_append] at ho2
      obtain ⟨hc0, hc3, hf1, hown, hg, hn, hc1, hB⟩ := HA.out
      have y1 := hk2.cellAt x1 hg
      have yf : w2.frozen? ⟨g, o + 1, none⟩ = false := (hk2.frozen (p := ⟨g, o + 1, none⟩) hgl2 hg).trans xf
      have hgl3 : g < w2.heap.size := Nat.lt_of_lt_of_le hgl2 hk2.size
      have hkk : Keep (fun k => (Value.slice A n c).ownBlock ≠ some k) w w2 := HW.out.2.comp hk2 (fun _ _ _ => trivial) (fun _ _ h => h)
      have hnn : Next w.heap.size (Value.slice A n c) (Value.slice A2 (n + 64) c2) := hn2.imp (fun h => h) fun ⟨i, hi, hl⟩ => ⟨i, hi, Nat.le_trans HW.out.2.size hl⟩
      have HN := Lib.hid (And.intro ho3 (And.intro ho2 (And.intro hkk hnn)))
      clear hc0 hc3 hf1 hown hg hn hc1 hB ho2 hk2 hn2 ho3 x0 x1 x3 xf hgl2 hkk hnn HO HW
      go_wp2
      go_end0
      exact ⟨rfl, w2, _, rfl, HN.out⟩

theorem own_byte {w : World} {base n c g k : Nat} {l : List UInt8} {z : Int} (h : w.ownsRow base 5 1 (.slice (some ⟨g, 0, none⟩) n c) n (Lib.byteCells l)) (hk : k < l.length) (hz : z = (l[k].toNat : Int)) : w.cell? ⟨g, k, none⟩ = some (.int .u8 z) := by
  subst hz
  exact own_cell h (g := g) rfl (bcs_get l k hk)
theorem Pat_quiet (id : Int) (k : Nat) (hk : k ≤ 1099511627770) (w : World) (m : Nat) : Calls Tryd.prog 30 #[.int .i64 id, .int .i64 (k : Int)] (w.drewN m) fun e w'' => e = .returned (.int .u8 ((pat id k).toNat : Int)) ∧ ∃ m, w'' = w.drewN m :=
  quiet_left ((Pat_any id k hk (w.drewN m)).mono fun _ _ h => h)

set_option maxRecDepth 20000 in
set_option maxHeartbeats 2000000 in
theorem shows_any (p : Pg) (B : Nat) (w : World) (hok : p.ok w B) (hst : p.st ≠ 1) :
    Calls Tryd.prog 41 #[.agg #[p.b, p.g, p.was, .int .i64 p.id, .bool p.done]] w fun e w' => e = .returned (.bool true) ∧ Fresh w w' := by
  obtain ⟨b, hb⟩ : ∃ b, b = p.b := ⟨_, rfl⟩
  obtain ⟨l, hl⟩ : ∃ l, l = p.now := ⟨_, rfl⟩
  obtain ⟨id, hid⟩ : ∃ id, id = p.id := ⟨_, rfl⟩
  obtain ⟨gv, hgv⟩ : ∃ gv, gv = p.g := ⟨_, rfl⟩
  obtain ⟨wv, hwv⟩ : ∃ wv, wv = p.was := ⟨_, rfl⟩
  obtain ⟨own, len, idl, idh, stl, kept, full, long⟩ := hok
  rw [← hb, ← hl] at own
  rw [← hl] at len
  rw [← hid] at idl idh
  rw [← hwv, ← hl] at kept
  rw [← hl, ← hid] at full
  rw [← hgv, ← hl, ← hid] at long
  rw [← hb, ← hgv, ← hwv, ← hid]
  clear hb hl hid hgv hwv
  obtain ⟨A, c, rfl⟩ := own_form0 own
  obtain ⟨n, hn⟩ : ∃ n, n = l.length := ⟨_, rfl⟩
  rw [← hn] at own len kept full long ⊢
  have hst2 : p.st = 0 ∨ p.st = 2 := by omega
  rcases hst2 with hs | hs
  · have hdn : p.done = false := by simp [Pg.done, hs]
    rw [hdn]
    have hk := kept hs
    obtain ⟨A2, c2, rfl⟩ := own_form0 hk
    have HA := Lib.hid (And.intro own (And.intro hk hn))
    clear own hk hn kept full long hdn hs stl hst
    go_enter Tryd.func41, Tryd.ntmps41
    go_wp2_with fail
    obtain ⟨G, hG⟩ : ∃ G, G = w.heap.size := ⟨_, rfl⟩
    obtain ⟨w0, hw0⟩ : ∃ w0, w0 = w.alloc (.cells #[.slice A n c, gv, .slice A2 n c2, .int .i64 id, .bool false] 81) := ⟨_, rfl⟩
    rw [← hw0]
    simp only [← hG]
    have hb0 : Blk w0 G 81 #[.slice A n c, gv, .slice A2 n c2, .int .i64 id, .bool false] := by rw [hw0, hG]; exact Blk.new _ _ _
    have hfr : Fresh w w0 := hw0 ▸ (Keep.refl _ w).alloc _
    have c0 := hb0.cell 0
    have c2' := hb0.cell 2
    simp at c0 c2'
    have HF := Lib.hid (And.intro hfr (And.intro (own_keep HA.out.1 hfr (fun _ _ => trivial)) (And.intro (own_keep HA.out.2.1 hfr (fun _ _ => trivial)) HA.out.2.2)))
    clear hw0 hb0 hfr HA hG
    go_loopw [4] (fun i wr => ∃ k d : Nat, k ≤ n ∧ i = .int .i64 (k : Int) ∧ wr = w0.drewN d) (fun i _ => n - (intOf i).toNat)
    case atStart => exact ⟨0, 0, Nat.zero_le _, rfl, rfl⟩
    case round =>
      obtain ⟨k, d, hk, rfl, rfl⟩ := hrel
      by_cases hlt : k < n
      · obtain ⟨hfr, h1, h2, hn⟩ := HF.out
        obtain ⟨g1, k1, e1, -, -, -⟩ := own_nonnil h1 (by omega)
        obtain ⟨g2, k2, e2, -, -, -⟩ := own_nonnil h2 (by omega)
        injection e1 with e1 _ e1c
        injection e2 with e2 _ e2c
        subst e1 e2 e1c e2c
        obtain ⟨z, hz⟩ : ∃ z : Int, z = (l[k].toNat : Int) := ⟨_, rfl⟩
        have x1 := own_byte h1 (by omega) hz
        have x2 := own_byte h2 (by omega) hz
        clear hfr h1 h2 hn hz
        go_wp2_with fail
        go_quiet (fail)
        go_wp2_with fail
        exact ⟨⟨k + 1, _, by omega, congrArg _ (by omega), rfl⟩, by simp [intOf]; omega⟩
      · go_wp2_with fail
        go_ret
        exact ⟨rfl, HF.out.1.drewN _⟩
  · have hdn : p.done = true := by simp [Pg.done, hs]
    rw [hdn]
    have hk := long hs
    have hfull := full (by omega)
    obtain ⟨A2, c2, rfl⟩ := own_form0 hk
    have HA := Lib.hid (And.intro own (And.intro hk (And.intro hn hfull)))
    clear own hk hn kept full long hdn hs stl hst hfull
    go_enter Tryd.func41, Tryd.ntmps41
    go_wp2_with fail
    obtain ⟨G, hG⟩ : ∃ G, G = w.heap.size := ⟨_, rfl⟩
    obtain ⟨w0, hw0⟩ : ∃ w0, w0 = w.alloc (.cells #[.slice A n c, .slice A2 (n + 64) c2, wv, .int .i64 id, .bool true] 81) := ⟨_, rfl⟩
    rw [← hw0]
    simp only [← hG]
    have hb0 : Blk w0 G 81 #[.slice A n c, .slice A2 (n + 64) c2, wv, .int .i64 id, .bool true] := by rw [hw0, hG]; exact Blk.new _ _ _
    have hfr : Fresh w w0 := hw0 ▸ (Keep.refl _ w).alloc _
    have c0 := hb0.cell 0
    have c1 := hb0.cell 1
    have c3 := hb0.cell 3
    simp at c0 c1 c3
    have HF := Lib.hid (And.intro hfr (And.intro (own_keep HA.out.1 hfr (fun _ _ => trivial)) (And.intro (own_keep HA.out.2.1 hfr (fun _ _ => trivial)) HA.out.2.2)))
    clear hw0 hb0 hfr HA hG
    go_loopw [5] (fun i wr => ∃ k d : Nat, k ≤ n ∧ i = .int .i64 (k : Int) ∧ wr = w0.drewN d) (fun i _ => n - (intOf i).toNat)
    case atStart => exact ⟨0, 0, Nat.zero_le _, rfl, rfl⟩
    case round =>
      obtain ⟨k, d, hk, rfl, rfl⟩ := hrel
      by_cases hlt : k < n
      · obtain ⟨hfr, h1, h2, hn, hp⟩ := HF.out
        obtain ⟨g1, k1, e1, -, -, -⟩ := own_nonnil h1 (by omega)
        obtain ⟨g2, k2, e2, -, -, -⟩ := own_nonnil h2 (by omega)
        injection e1 with e1 _ e1c
        injection e2 with e2 _ e2c
        subst e1 e2 e1c e2c
        obtain ⟨z, hz⟩ : ∃ z : Int, z = ((pat id k).toNat : Int) := ⟨_, rfl⟩
        have HQ := fun m => Pat_any id k (by omega) (w0.drewN m)
        rw [← hz] at HQ
        replace HQ := Lib.hid HQ
        have hl : k < l.length := by omega
        have hpk : l[k] = pat id k := by
          have : (l[k]? = (pats id n)[k]?) := by rw [← hp]
          rw [List.getElem?_eq_getElem hl, List.getElem?_eq_getElem (by rw [pats_len]; omega), pats_get] at this
          injection this
        have x1 := own_byte (z := z) h1 hl (by rw [hz, hpk])
        have x2 := own_byte (z := z) (k := k) h2 (by rw [List.length_append]; omega) (by rw [hz, List.getElem_append_left hl, hpk])
        clear hfr h1 h2 hn hz hp hl hpk
        go_wp2_with fail
        go_quiet ((go_at_call 30; exact quiet_add_left (HQ.out _)))
        go_wp2_with fail
        exact ⟨⟨k + 1, _, by omega, congrArg _ (by omega), rfl⟩, by simp [intOf]; omega⟩
      · go_wp2_with fail
        go_loopw [6] (fun i wr => ∃ k d : Nat, k ≤ 64 ∧ i = .int .i64 (k : Int) ∧ wr = w0.drewN d) (fun i _ => 64 - (intOf i).toNat)
        case atStart => exact ⟨0, d, Nat.zero_le _, rfl, rfl⟩
        case round =>
          obtain ⟨k3, d3, hk3, rfl, rfl⟩ := hrel
          by_cases hlt3 : k3 < 64
          · obtain ⟨hfr, h1, h2, hn, hp⟩ := HF.out
            obtain ⟨g2, k2, e2, -, -, -⟩ := own_nonnil h2 (by omega)
            injection e2 with e2 _ e2c
            subst e2 e2c
            obtain ⟨z, hz⟩ : ∃ z : Int, z = ((pat (id + 100000) k3).toNat : Int) := ⟨_, rfl⟩
            have HQ := fun m => Pat_any (id + 100000) k3 (by omega) (w0.drewN m)
            rw [← hz] at HQ
            replace HQ := Lib.hid HQ
            have x2 := own_byte (z := z) (k := n + k3) h2 (by rw [List.length_append, pats_len]; omega) (by rw [hz, List.getElem_append_right (by omega)]; rw [pats_get]; congr 3; omega)
            clear hfr h1 h2 hn hz hp
            go_wp2_with fail
            go_quiet ((go_at_call 30; exact quiet_add_left (HQ.out _)))
            go_wp2_with fail
            exact ⟨⟨k3 + 1, _, by omega, congrArg _ (by omega), rfl⟩, by simp [intOf]; omega⟩
          · go_wp2_with fail
            go_ret
            exact ⟨rfl, HF.out.1.drewN _⟩
end Go.Proofs.YtkgbhanpenpkmaaDoor
