/-
  MERGED: Mach3 Off MacInv Range
-/
import Derived.Test.YtlibhkehebioeaaGreatDoorF5
import Derived.Laws.EntriesVeiled
import Derived.Test.YtlibhkehebioeaaGreatDoorF1
import Derived.ArgAppend
import Derived.Test.YtlibhkehebioeaaGreatDoorF2
import Derived.Maps.RangeWalk
namespace Go.Proofs.YtlibhkehebioeaaGreatDoor
set_option linter.unusedVariables false
set_option linter.unusedSimpArgs false
open Go.RowKit

def casP (k v d : List UInt8) (ps : Ps) : Ps := match pfind k ps with
  | some u => if u = d then pput k v ps else ps
  | none => ps
def casR (k d : List UInt8) (ps : Ps) : MRes := match pfind k ps with
  | some u => if u = d then ⟨1, d, 1⟩ else ⟨3, u, 1⟩
  | none => ⟨2, [], 0⟩

set_option maxRecDepth 20000 in
set_option maxHeartbeats 1000000 in
theorem cas_any (m bp : Nat) (ps : Ps) (c i r o : Int) (k v d : List UInt8) (w : World) (h0 : w.cell? ⟨m, 0, none⟩ = some (.map (some bp))) (hm : MapIs Tryz.prog 9 w bp (sk ps)) (hk : k.length ≤ 8) (hps : ps.length ≤ 1048576) :
    Calls Tryz.prog 75 #[.pointer (some ⟨m, 0, none⟩), cmdV c i r o k v d] w fun e w' => e = .returned (resV (casR k d ps)) ∧ MapIs Tryz.prog 9 w' bp (sk (casP k v d ps)) ∧ Keep (fun j => j ≠ bp) w w' := by
  obtain ⟨R, hR⟩ : ∃ R, R = casR k d ps := ⟨_, rfl⟩
  obtain ⟨P', hP'⟩ : ∃ P', P' = casP k v d ps := ⟨_, rfl⟩
  rw [← hR, ← hP']
  have hmlt := lt_of_cell h0
  have hblt := hm.lt
  obtain ⟨G, hG⟩ : ∃ G, G = w.heap.size := ⟨_, rfl⟩
  obtain ⟨W, hW⟩ : ∃ W, W = (w.alloc (.cells #[.int .i64 c, .int .i64 i, .int .i64 r, .int .i64 o, str k, str v, str d] 30)).alloc (.cells #[.int .i64 0, str [], .int .i64 0] 33) := ⟨_, rfl⟩
  have hf : Fresh w W := hW ▸ ((Keep.refl _ w).alloc _).alloc _
  have hbx : Blk W G 30 #[.int .i64 c, .int .i64 i, .int .i64 r, .int .i64 o, str k, str v, str d] := by rw [hW, hG]; exact (Blk.new _ _ _).alloc _
  have hbr : Blk W (G + 1) 33 #[.int .i64 0, str [], .int .i64 0] := by rw [hW]; exact Blk.newAt (by simp [hG])
  have hmW := hm.keep hf trivial
  have HL := Lib.hid (fun q => look_str hmW (l := k) (by omega) q)
  have x0 := hf.cellAt h0 trivial
  have k4 := hbx.cell 4
  have k5 := hbx.cell 5
  have k6 := hbx.cell 6
  simp at k4 k5 k6
  have HA := Lib.hid (And.intro hmW (And.intro hf (And.intro hbr (And.intro hbx (And.intro hG (And.intro hmlt hblt))))))
  clear hmW hf hbr hbx hmlt hblt hm h0
  go_enter Tryz.func75, Tryz.ntmps75
  go_wp2_with fail
  simp only [← hG]
  rw [← hW]
  clear hW hG
  have hlk := HL.out
  go_quiet (fail)
  obtain ⟨W2, hW2⟩ : ∃ W2, W2 = W.drewN nq := ⟨_, rfl⟩
  rw [← hW2]
  obtain ⟨hmW, hf, hbr, hbx, hG, hmlt, hblt⟩ := HA.out
  have hf2 : Fresh w W2 := hW2 ▸ hf.drewN nq
  have y0 : W2.cell? ⟨m, 0, none⟩ = some (.map (some bp)) := by rw [hW2]; exact x0
  have y4 : W2.cell? ⟨G, 4, none⟩ = some (str k) := by rw [hW2]; exact k4
  have y5 : W2.cell? ⟨G, 5, none⟩ = some (str v) := by rw [hW2]; exact k5
  have y6 : W2.cell? ⟨G, 6, none⟩ = some (str d) := by rw [hW2]; exact k6
  have HB := Lib.hid (And.intro (show MapIs Tryz.prog 9 W2 bp (sk ps) by rw [hW2]; exact hmW.keep (Keep.drewN (Keep.refl (fun _ => True) W) nq) trivial) (And.intro hf2 (And.intro (show Blk W2 (G + 1) 33 #[.int .i64 0, str [], .int .i64 0] by rw [hW2]; exact hbr.drewN nq) (And.intro (show Blk W2 G 30 _ by rw [hW2]; exact hbx.drewN nq) (And.intro (show bp < G by omega) hG)))))
  clear hmW hf hbr hbx hG hmlt hblt hf2 hW2 x0 k4 k5 k6 HL hlk HA
  cases hpf : pfind k ps with
  | none =>
    have HE : Hid (R = ⟨2, [], 0⟩ ∧ P' = ps) := ⟨by simp [hR, casR, hpf], by simp [hP', casP, hpf]⟩
    clear hpf hR hP'
    have HD := Lib.hid (code_any 2)
    go_wp2_with fail
    refine (HD.out W2).mono ?_
    rintro e W4 ⟨rfl, f4⟩
    obtain ⟨hm3, hf3, hbr3, -, hlt, hww⟩ := HB.out
    have hbr4 := hbr3.keep f4 trivial
    have r0 := hbr4.cell 0
    have r1 := hbr4.cell 1
    have r2 := hbr4.cell 2
    have s0 := hbr4.frozen 0
    have s1 := hbr4.frozen 1
    have s2 := hbr4.frozen 2
    have rl := hbr4.lt
    simp at r0 r1 r2
    have H4 := Lib.hid (And.intro (hm3.keep f4 trivial) (And.intro (hf3.trans f4) (And.intro hbr4 (And.intro hlt hww))))
    clear hm3 hf3 hbr3 hlt hbr4 f4 HD HB hww y0 y4 y5 y6
    go_wp2_with fail
    obtain ⟨hm4, hf4, hbr4, hlt, hww⟩ := H4.out
    rw [HE.out.1]
    refine bodyPost_ret (results_one rfl _ _ (G + 1) 33 #[.int .i64 2, str [], .int .i64 0] _ rfl (((hbr4.set 0 _).set 1 _).set 2 _) Tryz.underlying33 rfl (by kernel_rfl)) rfl ?_
    refine ⟨rfl, ?_, ?_⟩
    · rw [HE.out.2]
      exact ((hm4.keep ((((Keep.refl (fun j => j ≠ G + 1) _).setCell (fun _ h => h rfl) _).setCell (fun _ h => h rfl) _).setCell (fun _ h => h rfl) _) (by omega)))
    · exact (((hf4.setCell (fun h => by simp at h; omega) _).setCell (fun h => by simp at h; omega) _).setCell (fun h => by simp at h; omega) _).weaken (fun _ _ _ => trivial)
  | some u =>
    by_cases hud : u = d
    · subst hud
      have HE : Hid (R = ⟨1, u, 1⟩ ∧ P' = pput k v ps) := ⟨by simp [hR, casR, hpf], by simp [hP', casP, hpf]⟩
      clear hpf hR hP'
      have HD := Lib.hid (done_any u 1)
      go_wp2_with fail
      refine wp_region_still_tail 8 (by kernel_rfl) (by kernel_rfl) ?_
      simp only [List.take_succ_cons, List.take_zero, List.drop_succ_cons, List.drop_zero]
      repeat still_step
      refine wpStill_nil ?_
      change wpList _ _ _ _ _ W2.drew
      refine wpList_mstore rfl (.tmp 31) (.tmp 33) (.tmp 35) rfl Tryz.underlying9 Tryz.underlying87 rfl (HB.out.1.keep ((Keep.refl (fun _ => True) W2).drew) trivial) (by rw [sk_len]; simp only [maxLen]; omega) (l := k) (by simp only [maxLen]; omega) rfl (str v) rfl ?_
      intro W3 hm3 hk3
      rw [sk_put] at hm3
      obtain ⟨-, hf, hbr, hbx, hlt, hww⟩ := HB.out
      have hk23 : Keep (fun j => j ≠ bp) W2 W3 := (Keep.refl _ W2).drew.trans hk3
      have hbr3 := hbr.keep hk23 (by omega)
      have hbx3 := hbx.keep hk23 (by omega)
      have z6 := hbx3.cell 6
      have zl := hbx3.lt
      simp at z6
      clear hbx3
      have H3 := Lib.hid (And.intro hm3 (And.intro (hf.comp hk23 (fun _ _ _ => trivial) (fun _ _ h => h)) (And.intro hbr3 (And.intro hlt hww))))
      clear hm3 hk3 hf hbr hbx hlt hww hk23 hbr3 y0 y4 y5
      go_wp2_with fail
      refine (HD.out W3).mono ?_
      rintro e W4 ⟨rfl, f4⟩
      obtain ⟨hm3, hf3, hbr3, hlt, hww⟩ := H3.out
      have hbr4 := hbr3.keep f4 trivial
      have r0 := hbr4.cell 0
      have r1 := hbr4.cell 1
      have r2 := hbr4.cell 2
      have s0 := hbr4.frozen 0
      have s1 := hbr4.frozen 1
      have s2 := hbr4.frozen 2
      have rl := hbr4.lt
      simp at r0 r1 r2
      have H4 := Lib.hid (And.intro (hm3.keep f4 trivial) (And.intro (hf3.comp f4 (fun _ _ h => h) (fun _ _ _ => trivial)) (And.intro hbr4 (And.intro hlt hww))))
      clear hm3 hf3 hbr3 hlt hbr4 f4 HD H3 hww
      go_wp2_with fail
      obtain ⟨hm4, hf4, hbr4, hlt, hww⟩ := H4.out
      rw [HE.out.1]
      refine bodyPost_ret (results_one rfl _ _ (G + 1) 33 #[.int .i64 1, str u, .int .i64 1] _ rfl (((hbr4.set 0 _).set 1 _).set 2 _) Tryz.underlying33 rfl (by kernel_rfl)) rfl ?_
      refine ⟨rfl, ?_, ?_⟩
      · rw [HE.out.2]
        exact ((hm4.keep ((((Keep.refl (fun j => j ≠ G + 1) _).setCell (fun _ h => h rfl) _).setCell (fun _ h => h rfl) _).setCell (fun _ h => h rfl) _) (by omega)))
      · exact ((hf4.setCell (fun h => by simp at h; omega) _).setCell (fun h => by simp at h; omega) _).setCell (fun h => by simp at h; omega) _
    · have HE : Hid (R = ⟨3, u, 1⟩ ∧ P' = ps) := ⟨by simp [hR, casR, hpf, hud], by simp [hP', casP, hpf, hud]⟩
      clear hpf hR hP'
      have hudb : (u == d) = false := by simpa using hud
      obtain ⟨hm3, hf3, hbr3, -, hlt, hww⟩ := HB.out
      have r0 := hbr3.cell 0
      have r1 := hbr3.cell 1
      have r2 := hbr3.cell 2
      have s0 := hbr3.frozen 0
      have s1 := hbr3.frozen 1
      have s2 := hbr3.frozen 2
      have rl := hbr3.lt
      simp at r0 r1 r2
      clear hm3 hf3 hbr3 hlt hww
      go_wp2_with fail
      obtain ⟨hm4, hf4, hbr4, -, hlt, hww⟩ := HB.out
      rw [HE.out.1]
      refine bodyPost_ret (results_one rfl _ _ (G + 1) 33 #[.int .i64 3, str u, .int .i64 1] _ rfl (((hbr4.set 0 _).set 1 _).set 2 _) Tryz.underlying33 rfl (by kernel_rfl)) rfl ?_
      refine ⟨rfl, ?_, ?_⟩
      · rw [HE.out.2]
        exact ((hm4.keep ((((Keep.refl (fun j => j ≠ G + 1) _).setCell (fun _ h => h rfl) _).setCell (fun _ h => h rfl) _).setCell (fun _ h => h rfl) _) (by omega)))
      · exact (((hf4.setCell (fun h => by simp at h; omega) _).setCell (fun h => by simp at h; omega) _).setCell (fun h => by simp at h; omega) _).weaken (fun _ _ _ => trivial)

set_option maxRecDepth 20000 in
theorem get_any (m bp : Nat) (ps : Ps) (k : List UInt8) (w : World) (h0 : w.cell? ⟨m, 0, none⟩ = some (.map (some bp))) (hm : MapIs Tryz.prog 9 w bp (sk ps)) (hk : k.length ≤ 8) :
    Calls Tryz.prog 32 #[.pointer (some ⟨m, 0, none⟩), str k] w fun e w' => e = .returned (.tuple #[str ((pfind k ps).getD []), .bool (pfind k ps).isSome]) ∧ w = w' := by
  have hlk := look_str hm (l := k) (by omega) 0
  rw [show w.drewN 0 = w from rfl] at hlk
  clear hm
  go_enter Tryz.func32, Tryz.ntmps32
  go_wp2
  go_ret2
  exact ⟨rfl, rfl⟩
/-- Which function does an operation. -/
theorem opOf_any (o : Int) (f : Nat) (w : World) (h : (o = 1 ∧ f = 73) ∨ (o = 3 ∧ f = 75)) : Calls Tryz.prog 44 #[.int .i64 o] w fun e w' => e = .returned (.agg #[.func (Fn.func f) #[] #[]]) ∧ Fresh w w' := by
  rcases h with ⟨rfl, rfl⟩ | ⟨rfl, rfl⟩
  all_goals
    go_enter Tryz.func44, Tryz.ntmps44
    go_wp2
    refine bodyPost_ret (results_one rfl _ _ w.heap.size 110 _ _ rfl (Blk.new _ _ _) Tryz.underlying110 rfl (by kernel_rfl)) rfl ?_
    exact ⟨rfl, (Keep.refl _ w).alloc _⟩
end Go.Proofs.YtlibhkehebioeaaGreatDoor
namespace Go.Proofs.YtlibhkehebioeaaGreatDoor
set_option linter.unusedVariables false
set_option linter.unusedSimpArgs false
open Go.RowKit

def OwnAt (w : World) (base e : Nat) (v : Value) (n : Nat) (xs : List Value) : Prop :=
  xs.length = n ∧ ((v = .slice none 0 0 ∧ n = 0) ∨ ∃ (g o cap : Nat) (cur : Array Value), v = .slice (some ⟨g, o, none⟩) n cap ∧ base ≤ g ∧ w.heap[g]? = some (.cells cur e (0, 0)) ∧ n ≤ cap ∧ cap ≤ maxLen ∧ o + cap ≤ cur.size ∧ ∀ j u, xs[j]? = some u → cur[o + j]? = some u)
section
variable {w w' : World} {base base' e n : Nat} {v : Value} {xs : List Value}
theorem OwnAt.nil (w : World) (base e : Nat) : OwnAt w base e (.slice none 0 0) 0 [] := ⟨rfl, .inl ⟨rfl, rfl⟩⟩
theorem OwnAt.of_own (h : w.ownsRow base e 1 v n xs) : OwnAt w base e v n xs := by
  refine ⟨by simpa using h.1, ?_⟩
  rcases h.2 with hn | ⟨g, cap, cur, rfl, hb, hh, hc, hm, hs, ht⟩
  · exact .inl hn
  · refine .inr ⟨g, 0, cap, cur, rfl, hb, hh, hc, hm, by omega, fun j u hu => ?_⟩
    rw [← ht, List.getElem?_take] at hu
    split at hu
    · simpa using hu
    · cases hu
theorem OwnAt.keep {Z : Nat → Prop} (h : OwnAt w base e v n xs) (hk : Keep Z w w') (hz : ∀ k, v.ownBlock = some k → Z k) : OwnAt w' base e v n xs := by
  refine ⟨h.1, ?_⟩
  rcases h.2 with hn | ⟨g, o, cap, cur, rfl, hb, hh, rest⟩
  · exact .inl hn
  · exact .inr ⟨g, o, cap, cur, rfl, hb, (hk.block g (lt_of_block hh) (hz g rfl)).trans hh, rest⟩
theorem OwnAt.far (h : OwnAt w base e v n xs) {p : Addr} (hp : v.ownBlock ≠ some p.block) (u : Value) : OwnAt (w.setCell p u) base e v n xs :=
  h.keep (Z := fun k => k ≠ p.block) ((Keep.refl _ w).setCell (fun _ h => h rfl) u) (fun k hk e => hp (e ▸ hk))
theorem OwnAt.lower (h : OwnAt w base e v n xs) (hb : base' ≤ base) : OwnAt w base' e v n xs := by
  refine ⟨h.1, ?_⟩
  rcases h.2 with hn | ⟨g, o, cap, cur, rfl, hbg, rest⟩
  · exact .inl hn
  · exact .inr ⟨g, o, cap, cur, rfl, by omega, rest⟩
theorem OwnAt.lt (h : OwnAt w base e v n xs) {g : Nat} (hg : v.ownBlock = some g) : base ≤ g ∧ g < w.heap.size := by
  rcases h.2 with ⟨rfl, _⟩ | ⟨g', o, cap, cur, rfl, hb, hh, _⟩
  · simp [Value.ownBlock] at hg
  · simp [Value.ownBlock] at hg
    subst hg
    exact ⟨hb, lt_of_block hh⟩
theorem OwnAt.ne_blk {g : Nat} {t : TypeId} {cs : Array Value} (h : OwnAt w base e v n xs) (hg : Blk w g t cs) (hne : e ≠ t) : v.ownBlock ≠ some g := by
  rcases h.2 with ⟨rfl, _⟩ | ⟨g', o, cap, cur, rfl, _, hh, _⟩
  · simp [Value.ownBlock]
  · intro he
    have : g' = g := by simpa [Value.ownBlock] using he
    subst this
    exact Blk.ne (t := e) hh hg hne rfl
theorem OwnAt.ne_own {b2 e2 s2 n2 : Nat} {v2 : Value} {xs2 : List Value} (h1 : OwnAt w base e v n xs) (h2 : w.ownsRow b2 e2 s2 v2 n2 xs2) (hne : e ≠ e2) {k : Nat} (hk : v.ownBlock = some k) : v2.ownBlock ≠ some k := by
  intro hk2
  rcases h1.2 with ⟨rfl, _⟩ | ⟨g, o, cap, cur, rfl, _, hh, _⟩
  · simp [Value.ownBlock] at hk
  · rcases h2.2 with ⟨rfl, _⟩ | ⟨g2, cap2, cur2, rfl, _, hh2, _⟩
    · simp [Value.ownBlock] at hk2
    · simp [Value.ownBlock] at hk hk2
      subst hk hk2
      rw [hh] at hh2
      injection hh2 with hh2
      injection hh2 with _ ht
      exact hne ht
theorem OwnAt.rd (h : OwnAt w base e v n xs) : ∃ A c, v = .slice A n c ∧ n ≤ c ∧ Rd w (fun k => v.ownBlock = some k) 1 A n xs ∧ (n = 0 → c = 0 ∨ A ≠ none) := by
  rcases h.2 with ⟨rfl, rfl⟩ | ⟨g, o, cap, cur, rfl, hb, hh, hn, hm, hs, hc⟩
  · have : xs = [] := List.eq_nil_of_length_eq_zero h.1
    subst this
    exact ⟨none, 0, rfl, Nat.le_refl _, Rd.nil _ _ _ _, fun _ => .inl rfl⟩
  · refine ⟨_, _, rfl, hn, ⟨by rw [Nat.mul_one]; exact h.1, fun _ => ⟨g, o, rfl, by simp [Value.ownBlock], fun j u hu => ?_⟩⟩, fun _ => .inr (by simp)⟩
    rw [cell_of_row w g (o + j) cur e (0, 0) hh]
    exact hc j u hu
theorem OwnAt.one (h : OwnAt w base e v n xs) : v.oneCell' = true := by
  rcases h.2 with ⟨rfl, _⟩ | ⟨g, o, cap, cur, rfl, _⟩ <;> rfl
/-- The value of 'q[1:]'. -/
def tailV : Value → Value
  | .slice (some a) n c => .slice (if c = 1 then some a else some ⟨a.block, a.off + 1, a.spot⟩) (n - 1) (c - 1)
  | v => v
theorem OwnAt.tail {x : Value} (h : OwnAt w base e v (n + 1) (x :: xs)) : OwnAt w base e (tailV v) n xs := by
  refine ⟨by have := h.1; simpa using this, ?_⟩
  rcases h.2 with ⟨_, h0⟩ | ⟨g, o, cap, cur, rfl, hb, hh, hn, hm, hs, hc⟩
  · omega
  · by_cases h1 : cap = 1
    · subst h1
      have hn0 : n = 0 := by omega
      subst hn0
      have hx : xs = [] := List.eq_nil_of_length_eq_zero (by have := h.1; simpa using this)
      subst hx
      exact .inr ⟨g, o, 0, cur, by simp [tailV], hb, hh, Nat.le_refl _, by simp [maxLen], by omega, fun j u hu => by cases hu⟩
    · refine .inr ⟨g, o + 1, cap - 1, cur, by simp [tailV, h1], hb, hh, by omega, by omega, by omega, fun j u hu => ?_⟩
      have := hc (j + 1) u (by simpa using hu)
      rwa [show o + 1 + j = o + (j + 1) by omega]
theorem tailV_own (h : OwnAt w base e v (n + 1) xs) : (tailV v).ownBlock = v.ownBlock := by
  rcases h.2 with ⟨_, h0⟩ | ⟨g, o, cap, cur, rfl, _⟩
  · omega
  · simp only [tailV]
    split <;> rfl
end
section
variable {P : Program} {w : World} {t e : TypeId} {bytes : Nat} {z : Value}
/-- 'append(q, y)'. -/
theorem run_app_at (E : ET P t e 1 bytes z) (ty : TypeId) {base : Nat} {v : Value} {n : Nat} {xs : List Value} (hown : OwnAt w base e v n xs) {Z : Nat → Prop} {ad : Addr} {c : Nat} {y : Value} (hr : Rd w Z 1 (some ad) 1 [y])
    (h1 : y.oneCell' = true) (hb : (n + 1) * bytes ≤ 140737488355328) (hbase : base ≤ w.heap.size) :
    ∃ v' w', (Builtin.append_ #[t, t] ty #[v, .slice (some ad) 1 c]).run P w = .ok v' w' ∧ OwnAt w' base e v' (n + 1) (xs ++ [y]) ∧ Keep (fun k => v.ownBlock ≠ some k) w w' ∧ Next w.heap.size v v' := by
  obtain ⟨i, hi, hz1, hz2, hz3⟩ := info_parts E.hi
  have hcells : ∀ j u, ([y] : List Value)[j]? = some u → w.cell? (ad.add j) = some u := by
    intro j u hu
    obtain ⟨b, o, h, _, hc⟩ := hr.2 (by omega)
    injection h with h
    subst h
    have := hc j u hu
    unfold Addr.add
    split
    · rename_i hj; subst hj; simpa using this
    · exact this
  have h63 : n + 1 ≤ maxLen := by
    have h2 := E.hb
    have h3 : n + 1 ≤ (n + 1) * bytes := Nat.le_mul_of_pos_right _ h2
    simp only [maxLen]
    omega
  rcases hown.2 with ⟨rfl, rfl⟩ | ⟨g, o, cap, cur, rfl, hbg, hh, hn, hm, hs, hc⟩
  · have hx : xs = [] := List.eq_nil_of_length_eq_zero hown.1
    subst hx
    obtain ⟨v', w', hrun, h2, h3, h4⟩ := run_app E ty (World.ownsRow_nil w base e 1) hr (c := c) (fun h => by cases h) (by simpa using h1) hb hbase
    exact ⟨v', w', hrun, OwnAt.of_own h2, h3, h4.imp id fun h => ⟨_, h, Nat.le_refl _⟩⟩
  · by_cases hroom : n + 1 ≤ cap
    · have hget : cur[o + n]? = some (cur[o + n]'(by omega)) := Array.getElem?_eq_getElem (by omega)
      have hr2 := run_append_room_cells (P := P) (w := w) t ty e i E.ht hi g o n cap ad 1 c [y] (by rw [hz2]; rfl) hcells (by simpa using h1) hroom (fun j hj => by
        have : j = 0 := by simpa using hj
        subst this
        rw [hz2, Nat.mul_one, Nat.add_zero, cell_of_row w g (o + n) cur e (0, 0) hh, hget]
        rfl) (fun j hj => by simp [World.frozen?, hh])
      rw [hz2, Nat.mul_one] at hr2
      refine ⟨_, _, hr2, ⟨by simp [hown.1], .inr ⟨g, o, cap, cur.setIfInBounds (o + n) y, rfl, hbg, ?_, hroom, hm, by simpa using hs, fun j u hu => ?_⟩⟩, ?_, .inl rfl⟩
      · simp [World.setCells, World.setCell, Array.getElem?_modify, hh]
      · rw [Array.getElem?_setIfInBounds]
        by_cases hj : j < xs.length
        · rw [List.getElem?_append_left hj] at hu
          rw [if_neg (by have := hown.1; omega)]
          exact hc j u hu
        · rw [List.getElem?_append_right (by omega)] at hu
          have hj2 : j = n := by
            have : j - xs.length < 1 := by
              rcases Nat.lt_or_ge (j - xs.length) 1 with h | h
              · exact h
              · rw [List.getElem?_eq_none (by simpa using h)] at hu; cases hu
            have := hown.1
            omega
          subst hj2
          rw [hown.1, Nat.sub_self] at hu
          rw [if_pos rfl, if_pos (by omega)]
          simpa using hu
      · exact (Keep.refl _ w).setCell (p := ⟨g, o + n, none⟩) (fun _ h => h rfl) y
    · have holds : ∀ j u, xs[j]? = some u → w.cell? ((⟨g, o, none⟩ : Addr).add j) = some u := fun j u hu => by
        have h3 : w.cell? ⟨g, o + j, none⟩ = some u := by
          rw [cell_of_row w g (o + j) cur e (0, 0) hh]
          exact hc j u hu
        unfold Addr.add
        split
        · rename_i hj; subst hj; simpa using h3
        · exact h3
      obtain ⟨v', w', hrun, ho, hg⟩ := run_append_arg_grows (P := P) (w := w) t ty e i z 1 bytes E.ht hi hz1 hz2 hz3 E.hz E.hs ⟨g, o, none⟩ n cap xs (by rw [Nat.mul_one]; exact hown.1) holds ad 1 c [y] rfl hcells (by omega) h63 hb
      refine ⟨v', w', hrun, OwnAt.of_own (own_base ho hbase), (Keep.of_grown hg).weaken (fun _ _ _ => by simp), ?_⟩
      obtain ⟨g', c', rfl, h5, _⟩ := own_form ho (by omega)
      exact .inr ⟨g', rfl, h5⟩
/-- .. for the walk: the element has just been laid in a block of its own. -/
theorem wpList_appAt (E : ET P t e 1 bytes z) {ops : Array Oper} {rest : List Oper} {o : Oper} {a : Act} {Q : Exit → Act → World → Prop} (hgd : o.guard = none) (s x : Operand)
    (ho : o.op = .call { callee := .builtin .append, args := #[s, x], argTypes := #[t, t] }) (y : Value) (te : TypeId) (hy : y.oneCell' = true)
    (base : Nat) (v : Value) (n : Nat) (xs : List Value) (B : Nat) (hB : B = w.heap.size) (hs : a.eval s = v) (hx : a.eval x = .slice (some ⟨B, 0, none⟩) 1 1) (hown : OwnAt w base e v n xs)
    (hb : (n + 1) * bytes ≤ 140737488355328) (hbase : base ≤ w.heap.size)
    (h : ∀ v' w', OwnAt w' base e v' (n + 1) (xs ++ [y]) → Keep (fun k => v.ownBlock ≠ some k) w w' → Next w.heap.size v v' → wpList P ops Q rest (a.put o.dst v') w') :
    wpList P ops Q (o :: rest) a (w.alloc (.cells #[y] te)) := by
  subst hB
  refine wpList_plain hgd fun K hK => ?_
  obtain ⟨v', w', hrun, h2, h3, h4⟩ := run_app_at E o.type (c := 1) (hown.keep (((Keep.refl (fun _ => True) w).alloc (.cells #[y] te))) (fun _ _ => trivial)) (Rd.one_new w y te) hy hb (by simp; omega)
  unfold Oper.wp execOp
  simp only [ho, resolve, invoke, builtin, Sem.run_bind, Sem.run_pure, Result.andThen_ok, List.map_toArray, List.map_cons, List.map_nil, hs, hx, hrun]
  exact hK _ _ (h v' w' h2 (((Keep.refl _ w).alloc _).comp h3 (fun _ _ h => h) (fun _ _ h => h)) (h4.imp id fun ⟨g, hg, hl⟩ => ⟨g, hg, by simp at hl; omega⟩))
end
end Go.Proofs.YtlibhkehebioeaaGreatDoor
namespace Go.Proofs.YtlibhkehebioeaaGreatDoor
set_option linter.unusedVariables false
set_option linter.unusedSimpArgs false

structure VCmd (num : Txt → Int × Bool) (c i r o : Int) (k v d : Txt) : Prop where
  c0 : 0 ≤ c
  c1 : c < 16
  i0 : 1 ≤ i
  i1 : i ≤ 4611686018427387904
  r0 : 1 ≤ r
  r1 : r ≤ 4611686018427387904
  o1 : 1 ≤ o
  o9 : o ≤ 9
  kl : o ≤ 8 → 1 ≤ k.length ∧ k.length ≤ 8
  vl : v.length ≤ 8
  e : o = 9 → 0 ≤ (num v).1 ∧ (num v).1 < 16
theorem apart_ne {ls : List LockD} (h : ls.Pairwise fun a b => a.token ≠ b.token) : ∀ a ∈ ls, ∀ b ∈ ls, a ≠ b → a.token ≠ b.token := by
  induction ls with
  | nil => intro a ha; cases ha
  | cons x r ih =>
    obtain ⟨h1, h2⟩ := List.pairwise_cons.1 h
    intro a ha b hb hab
    rcases List.mem_cons.1 ha with e1 | ha1
    · rcases List.mem_cons.1 hb with e2 | hb1
      · exact absurd (e1.trans e2.symm) hab
      · rw [e1]
        exact h1 b hb1
    · rcases List.mem_cons.1 hb with e2 | hb1
      · rw [e2]
        exact (h1 a ha1).symm
      · exact ih h2 a ha1 b hb1 hab
theorem res_small {code n : Int} {val : Txt} (h1 : 1 ≤ code ∧ code ≤ 11 ∧ code ≠ 10) (hv : val.length ≤ 8) (h2 : 0 ≤ n ∧ n ≤ 99999999) : ResOk ⟨code, val, n⟩ := ⟨h1.1, h1.2.1, h1.2.2, hv, h2.1, h2.2⟩
section
variable {num : Txt → Int × Bool} {ita : Int → Txt} {s : StD} {c i r o : Int} {k v d : Txt}
theorem onKey_ok (h : PInv s.pairs) (hk : 1 ≤ k.length ∧ k.length ≤ 8) (hv : v.length ≤ 8) :
    ResOk (onKeyD num ita o k v d s).1 ∧ PInv (onKeyD num ita o k v d s).2.pairs ∧ (onKeyD num ita o k v d s).2.locks = s.locks ∧ (onKeyD num ita o k v d s).2.tok = s.tok ∧ (onKeyD num ita o k v d s).2.ss = s.ss := by
  unfold onKeyD
  cases hf : pfindD k s.pairs with
  | none =>
    simp only
    split
    · split
      · exact ⟨res_small (by omega) (by simp) (by omega), h, rfl, rfl, rfl⟩
      · rename_i hl
        refine ⟨res_small (by omega) ?_ (by omega), h.put hk hv (fun _ => by omega), rfl, rfl, rfl⟩
        split
        · exact hv
        · simp
    · exact ⟨res_small (by omega) (by simp) (by omega), h, rfl, rfl, rfl⟩
  | some x =>
    obtain ⟨a, u⟩ := x
    obtain ⟨hn, hm⟩ := findK_some hf
    have hu : u.length ≤ 8 := (h.each _ hm).2.2
    have hnf : pfindD k s.pairs = none → s.pairs.length < 16 := fun e => by rw [hf] at e; cases e
    simp only
    split
    · exact ⟨res_small (by omega) hu (by omega), h.put hk hv hnf, rfl, rfl, rfl⟩
    · split
      · split
        · exact ⟨res_small (by omega) hu (by omega), h.put hk hv hnf, rfl, rfl, rfl⟩
        · exact ⟨res_small (by omega) hu (by omega), h, rfl, rfl, rfl⟩
      · split
        · exact ⟨res_small (by omega) hu (by omega), h.del k, rfl, rfl, rfl⟩
        · split
          · split
            · exact ⟨res_small (by omega) hu (by omega), h, rfl, rfl, rfl⟩
            · split
              · exact ⟨res_small (by omega) hu (by omega), h, rfl, rfl, rfl⟩
              · rename_i hi
                exact ⟨res_small (by omega) (by omega) (by omega), h.put hk (by omega) hnf, rfl, rfl, rfl⟩
          · exact ⟨res_small (by omega) hu (by omega), h, rfl, rfl, rfl⟩
theorem pass_num (h : LInv s.locks s.tok) : 0 ≤ (passD k s).1 ∧ (passD k s).1 ≤ 99999999 := by
  have h0 := h.tok0
  unfold passD
  split
  · exact ⟨Int.le_refl _, by omega⟩
  · split
    · exact ⟨Int.le_refl _, by omega⟩
    · split
      · exact ⟨Int.le_refl _, by omega⟩
      · constructor <;> simp only <;> omega
theorem onLock_ok (h : LInv s.locks s.tok) (hc : 0 ≤ c ∧ c < 16) (hk : 1 ≤ k.length ∧ k.length ≤ 8) :
    ResOk (onLockD num c o k v s).1 ∧ LInv (onLockD num c o k v s).2.locks (onLockD num c o k v s).2.tok ∧ (onLockD num c o k v s).2.pairs = s.pairs ∧ (onLockD num c o k v s).2.ss = s.ss ∧ ∀ x, who (onLockD num c o k v s).2.locks x → who s.locks x ∨ x = c := by
  have t0 := h.tok0
  have t1 := h.tok1
  unfold onLockD
  cases hf : lfind k s.locks with
  | none =>
    simp only
    split
    · split
      · exact ⟨res_small (by omega) (by simp) (by omega), h, rfl, rfl, fun x hx => .inl hx⟩
      · split
        · exact ⟨res_small (by omega) (by simp) (by omega), h, rfl, rfl, fun x hx => .inl hx⟩
        · rename_i hl ht
          refine ⟨res_small (by omega) (by simp) (by omega), h.ins ⟨k, c, s.tok + 1, []⟩ ⟨hk.1, hk.2, hc.1, hc.2, by show 1 ≤ s.tok + 1; omega, Int.le_refl _, List.nodup_nil, by simp, by simp⟩ rfl (findK_none hf) (by omega) (by omega), rfl, rfl, fun x hx => ?_⟩
          obtain ⟨l, hl2, hh⟩ := hx
          rcases insK_mem.1 hl2 with rfl | h3
          · rcases hh with rfl | hh
            · exact .inr rfl
            · simp at hh
          · exact .inl ⟨l, h3, hh⟩
    · exact ⟨res_small (by omega) (by simp) (by omega), h, rfl, rfl, fun x hx => .inl hx⟩
  | some l =>
    obtain ⟨hn, hm⟩ := findK_some hf
    have hl := h.each l hm
    have lt1 := hl.t1
    have lt0 := hl.t0
    have hql := queue_len hl.nd hl.q
    have hset : ∀ x : LockD, x.name = k → x.token = l.token → LOk s.tok x → LInv (setK LockD.name x s.locks) s.tok := fun x hx hxt hok => h.set x hok (Int.le_refl _) t1 (fun m hm2 hne => by
      rw [hxt]
      exact apart_ne h.apart m hm2 l hm (fun e2 => hne (by rw [e2, hn, hx])))
    simp only
    split
    · split
      · exact ⟨res_small (by omega) (by simp) (by omega), h, rfl, rfl, fun x hx => .inl hx⟩
      · split
        · rename_i hq
          have := List.idxOf_lt_length_of_mem hq
          exact ⟨res_small (by omega) (by simp) (by omega), h, rfl, rfl, fun x hx => .inl hx⟩
        · rename_i hh hq
          refine ⟨res_small (by omega) (by simp) (by omega), hset _ hn rfl ⟨hl.n1, hl.n8, hl.h0, hl.h1, hl.t0, hl.t1, ?_, fun x hx => ?_, fun hx => ?_⟩, rfl, rfl, fun x hx => ?_⟩
          · show (l.queue ++ [c]).Nodup
            rw [List.nodup_append]
            exact ⟨hl.nd, by simp, fun a ha b hb => by
              simp at hb
              subst hb
              rintro rfl
              exact hq ha⟩
          · rcases List.mem_append.1 hx with h1 | h1
            · exact hl.q x h1
            · simp at h1; subst h1; exact hc
          · rcases List.mem_append.1 hx with h1 | h1
            · exact hl.hq h1
            · simp at h1; exact hh h1
          · obtain ⟨m, hm2, hmm⟩ := hx
            rcases setK_mem hm2 with rfl | ⟨h3, _⟩
            · rcases hmm with rfl | hmm
              · exact .inl ⟨l, hm, .inl rfl⟩
              · rcases List.mem_append.1 hmm with h1 | h1
                · exact .inl ⟨l, hm, .inr h1⟩
                · simp at h1; exact .inr h1
            · exact .inl ⟨m, h3, hmm⟩
    · split
      · split
        · have hp := pass_num (k := k) h
          exact ⟨res_small (by omega) (by simp) hp, h.pass k, (pass_rest k s).1, (pass_rest k s).2, fun x hx => .inl (who_pass hx)⟩
        · split
          · refine ⟨res_small (by omega) (by simp) (by omega), hset _ hn rfl (leave_ok hl), rfl, rfl, fun x hx => ?_⟩
            obtain ⟨m, hm2, hmm⟩ := hx
            rcases setK_mem hm2 with rfl | ⟨h3, _⟩
            · rcases hmm with rfl | hmm
              · exact .inl ⟨l, hm, .inl rfl⟩
              · exact .inl ⟨l, hm, .inr (List.mem_filter.1 hmm).1⟩
            · exact .inl ⟨m, h3, hmm⟩
          · exact ⟨res_small (by omega) (by simp) (by omega), h, rfl, rfl, fun x hx => .inl hx⟩
      · split
        · exact ⟨res_small (by omega) (by simp) (by omega), h, rfl, rfl, fun x hx => .inl hx⟩
        · exact ⟨res_small (by omega) (by simp) (by omega), h, rfl, rfl, fun x hx => .inl hx⟩
theorem lets_num (h : LInv s.locks s.tok) : 0 ≤ (letsD c s).1 ∧ (letsD c s).1 ≤ 8 := by
  have h1 : (heldBy c s.locks).length ≤ s.locks.length := by
    unfold heldBy
    rw [List.length_map]
    exact List.length_filter_le _ _
  have := h.len
  unfold letsD
  constructor <;> simp only <;> omega
theorem end_ok (h : LInv s.locks s.tok) :
    ResOk (endD num v s).1 ∧ LInv (endD num v s).2.locks (endD num v s).2.tok ∧ (endD num v s).2.pairs = s.pairs ∧ (endD num v s).2.ss = s.ss ∧ ∀ x, who (endD num v s).2.locks x → who s.locks x := by
  unfold endD
  split
  · exact ⟨res_small (by omega) (by simp) (by omega), h, rfl, rfl, fun x hx => hx⟩
  · have hn := lets_num (c := (num v).1) h
    exact ⟨res_small (by omega) (by simp) (by omega), h.lets _, (lets_rest _ _).1, (lets_rest _ _).2, fun x hx => who_lets hx⟩
theorem does_ok (h : LInv s.locks s.tok) (hp : PInv s.pairs) (hv : VCmd num c i r o k v d) :
    ResOk (doesD num ita c o k v d s).1 ∧ LInv (doesD num ita c o k v d s).2.locks (doesD num ita c o k v d s).2.tok ∧ PInv (doesD num ita c o k v d s).2.pairs ∧ (doesD num ita c o k v d s).2.ss = s.ss ∧ ∀ x, who (doesD num ita c o k v d s).2.locks x → who s.locks x ∨ x = c := by
  unfold doesD
  split
  · obtain ⟨h1, h2, h3, h4, h5⟩ := onKey_ok (num := num) (ita := ita) (o := o) (d := d) hp (hv.kl (by omega)) hv.vl
    exact ⟨h1, by rw [h3, h4]; exact h, h2, h5, fun x hx => .inl (h3 ▸ hx)⟩
  · split
    · obtain ⟨h1, h2, h3, h4, h5⟩ := onLock_ok (num := num) (o := o) (v := v) h ⟨hv.c0, hv.c1⟩ (hv.kl (by omega))
      exact ⟨h1, h2, by rw [h3]; exact hp, h4, h5⟩
    · obtain ⟨h1, h2, h3, h4, h5⟩ := end_ok (num := num) (v := v) h
      exact ⟨h1, h2, by rw [h3]; exact hp, h4, fun x hx => .inl (h5 x hx)⟩
theorem getD_mem {l : List SesD} {n : Nat} (h : n < l.length) : l.getD n noSes ∈ l := by
  rw [List.getD_eq_getElem?_getD, List.getElem?_eq_getElem h]
  exact List.getElem_mem h
/-- Behind every valid command. -/
theorem apply_ok (h : Inv s) (hv : VCmd num c i r o k v d) : ResOk (applyV num ita c i r o k v d s).1 ∧ Inv (applyV num ita c i r o k v d s).2 := by
  have hcl : c.toNat < s.ss.length := by rw [h.s16]; have := hv.c0; have := hv.c1; omega
  unfold applyV
  simp only
  split
  · exact ⟨res_small (by omega) (by simp) (by omega), h⟩
  · split
    · rename_i hz
      rcases h.ses _ (getD_mem hcl) with e | e
      · rw [e] at hz
        have := hv.i0
        simp [noSes] at hz
        omega
      · exact ⟨e.last, h⟩
    · have hs1 : ∀ s1 : StD, (LInv s1.locks s1.tok ∧ s1.pairs = s.pairs ∧ s1.ss = s.ss ∧ ∀ x, who s1.locks x → who s.locks x) → ResOk (doesD num ita c o k v d s1).1 ∧ Inv { (doesD num ita c o k v d s1).2 with ss := (doesD num ita c o k v d s1).2.ss.set c.toNat ⟨i, r, (doesD num ita c o k v d s1).1⟩ } := by
        rintro s1 ⟨a1, a2, a3, a4⟩
        obtain ⟨d1, d2, d3, d4, d5⟩ := does_ok (ita := ita) a1 (by rw [a2]; exact h.pr) hv
        refine ⟨d1, d2, d3, by rw [List.length_set, d4, a3]; exact h.s16, fun x hx => ?_, fun x hx => ?_⟩
        · rcases List.mem_or_eq_of_mem_set hx with h1 | rfl
          · rw [d4, a3] at h1
            exact h.ses x h1
          · exact .inr ⟨hv.i0, hv.i1, hv.r0, hv.r1, d1⟩
        · have hi0 := hv.i0
          by_cases hxc : x.toNat = c.toNat
          · rw [hxc, List.getD_eq_getElem?_getD, List.getElem?_set_self (by rw [d4, a3]; exact hcl)]
            show 0 < i
            omega
          · rw [List.getD_eq_getElem?_getD, List.getElem?_set_ne (fun e => hxc e.symm), d4, a3, ← List.getD_eq_getElem?_getD]
            rcases d5 x hx with h1 | rfl
            · exact h.link x (a4 x h1)
            · exact absurd rfl hxc
      split
      · exact hs1 _ ⟨h.lk.lets c, (lets_rest c s).1, (lets_rest c s).2, fun x hx => who_lets hx⟩
      · exact hs1 _ ⟨h.lk, rfl, rfl, fun x hx => hx⟩
end
end Go.Proofs.YtlibhkehebioeaaGreatDoor
namespace Go.Proofs.YtlibhkehebioeaaGreatDoor
set_option linter.unusedVariables false
set_option linter.unusedSimpArgs false
open Go.RowKit
open Go.Maps (Keyed)

def leftIs (todo : List (List UInt8)) (z : Lit) : Bool := todo.any fun t => (Lit.string t).sameKey z
theorem leftIs_str (todo : List (List UInt8)) (k : List UInt8) : leftIs todo (.string k) = true ↔ k ∈ todo := by
  unfold leftIs
  rw [List.any_eq_true]
  constructor
  · rintro ⟨t, ht, h⟩
    have : t = k := by simpa [Lit.sameKey] using h
    exact this ▸ ht
  · exact fun h => ⟨k, h, by simp [Lit.sameKey]⟩
theorem leftIs_nil {todo : List (List UInt8)} (h : ∀ z, leftIs todo z = false) : todo = [] := by
  cases todo with
  | nil => rfl
  | cons k r =>
    have := h (.string k)
    rw [(leftIs_str _ _).2 (by simp)] at this
    cases this
theorem leftIs_strike (todo : List (List UInt8)) (k : List UInt8) : (fun z => leftIs todo z && !z.sameKey (.string k)) = leftIs (todo.filter fun t => !(t == k)) := by
  funext z
  cases z with
  | string s =>
    have e : (Lit.string s).sameKey (.string k) = (s == k) := rfl
    rw [e]
    cases h1 : leftIs todo (.string s) && !(s == k) with
    | true =>
      rw [Bool.and_eq_true] at h1
      symm
      rw [leftIs_str]
      exact List.mem_filter.2 ⟨(leftIs_str _ _).1 h1.1, h1.2⟩
    | false =>
      cases h2 : leftIs (todo.filter fun t => !(t == k)) (.string s) with
      | false => rfl
      | true =>
        rw [leftIs_str] at h2
        obtain ⟨h3, h4⟩ := List.mem_filter.1 h2
        rw [(leftIs_str _ _).2 h3, h4] at h1
        cases h1
  | _ =>
    have n : ∀ l : List (List UInt8), (l.any fun _ => false) = false := fun l => by induction l <;> simp_all
    simp [leftIs, Lit.sameKey, n]
theorem leftIs_all (ps : List Kv) : Maps.has (mD ps) = leftIs (ps.map Prod.fst) := by
  funext z
  unfold mD Maps.has leftIs
  simp only [List.any_map]
  rfl

/-- Under way: these keys are still to come. -/
def RangeIs (P : Program) (k : TypeId) (w : World) (b r : Nat) (ps : List Kv) (todo : List (List UInt8)) : Prop := ∃ cnt, w.ranges P k Rv b r ps.length (mD ps) (leftIs todo) cnt
section
variable {P : Program} {k : TypeId} {w w' : World} {b r : Nat} {ps : List Kv} {todo : List (List UInt8)}
theorem RangeIs.map (h : RangeIs P k w b r ps todo) : MapIs P k w b ps := by
  obtain ⟨cnt, h⟩ := h
  exact h.owns
theorem RangeIs.ne (h : RangeIs P k w b r ps todo) : r ≠ b := by
  obtain ⟨cnt, h⟩ := h
  exact h.ne
theorem RangeIs.lt (h : RangeIs P k w b r ps todo) : r < w.heap.size := by
  obtain ⟨cnt, h⟩ := h
  exact h.lt
theorem RangeIs.keep {Z : Nat → Prop} (h : RangeIs P k w b r ps todo) (hk : Keep Z w w') (hb : Z b) (hr : Z r) : RangeIs P k w' b r ps todo := by
  have h1 := h.map.lt
  have h2 := h.lt
  obtain ⟨cnt, es, clock, since, seen, c0, e1, F, hs, hD, e2, rest⟩ := h
  exact ⟨cnt, es, clock, since, seen, c0, (hk.block b h1 hb).trans e1, F, hs, hD, (hk.block r h2 hr).trans e2, rest⟩
theorem RangeIs.left {Z : Nat → Prop} (h : RangeIs P k w b r ps todo) (hk : Keep Z w w') (hb : Z b) (hr : Z r) : w'.rangeLeft b r = w.rangeLeft b r := by
  unfold World.rangeLeft
  rw [hk.block b h.map.lt hb, hk.block r h.lt hr]
theorem RangeIs.ne_blk {g : Nat} {t : TypeId} {cs : Array Value} (h : RangeIs P k w b r ps todo) (hg : Blk w g t cs) : r ≠ g := by
  rintro rfl
  obtain ⟨cnt, es, clock, since, seen, c0, e1, F, hs, hD, e2, rest⟩ := h
  unfold Blk at hg
  rw [hg] at e2
  cases e2

/-- 'range m'. -/
theorem wpList_rangeIs {t e : TypeId} {ops : Array Oper} {rest : List Oper} {o : Oper} {a : Act} {Q : Exit → Act → World → Prop} (hgd : o.guard = none) (m : Operand) (hop : o.op = Op.range t m) (hk : P.underlying k = some .string) (ht : P.underlying t = some (.map k e))
    (hm : a.eval m = .map (some b)) (h : MapIs P k w b ps)
    (hK : ∀ w', RangeIs P k w' b w.heap.size ps (ps.map Prod.fst) → Keep (fun _ => True) w w' → w'.heap.size = w.heap.size + 1 → wpList P ops Q rest (a.put o.dst (.pointer (some ⟨w.heap.size, 0, none⟩))) w') : wpList P ops Q (o :: rest) a w := by
  refine wpList_plain hgd fun K' hK' => ?_
  obtain ⟨w', hrun, r1, r2, r3⟩ := World.ownsMap.range h (Maps.string_keyed hk) ht
  unfold Oper.wp
  simp [execOp, hop, hm, hrun, Result.andThen]
  rw [leftIs_all] at r1
  exact hK' _ _ (hK w' ⟨_, r1⟩ ((Keep.of_grown r2).weaken (fun _ _ _ => by simp)) r3)
theorem str_list (s : ByteArray) : (.string s : Value) = .string ⟨s.data.toList.toArray⟩ := by simp
theorem keyOf_str_inv (hk : P.underlying k = some .string) {key : Value} {kl : Lit} (h : keyOf P k key = some kl) : ∃ t : List UInt8, key = .string ⟨t.toArray⟩ ∧ kl = .string t := by
  cases key <;> simp [keyOf, hk, mapKey] at h
  rename_i s
  exact ⟨s.data.toList, str_list s, h.2.symm⟩
theorem atKey_find {t : List UInt8} {v : Value} (h : ∀ zd : DataW Value, (mD ps).atKey (.string t) zd = .held v) : mfind t ps = some v := by
  have h1 := h (.held (.bool true))
  have h2 := h (.held (.bool false))
  rw [mD_at] at h1 h2
  cases hf : mfind t ps with
  | some u =>
    rw [hf] at h1
    injection h1 with h1
    exact congrArg some h1
  | none =>
    rw [hf] at h1 h2
    have : (DataW.held (Value.bool true) : DataW Value) = .held (.bool false) := h1.trans h2.symm
    injection this with this
    injection this with this
    cases this
/-- The step. -/
theorem wpList_nextIs {ops : Array Oper} {rest : List Oper} {o : Oper} {a : Act} {Q : Exit → Act → World → Prop} (hgd : o.guard = none) (it : Operand) (hop : o.op = Op.next it false) (hk : P.underlying k = some .string)
    (hit : a.eval it = .pointer (some ⟨r, 0, none⟩)) (h : RangeIs P k w b r ps todo)
    (hDone : todo = [] → wpList P ops Q rest (a.put o.dst (.tuple #[.bool false])) w)
    (hMore : ∀ (t : List UInt8) (v : Value) (w' : World), t ∈ todo → mfind t ps = some v → RangeIs P k w' b r ps (todo.filter fun x => !(x == t)) → Keep (fun i => i ≠ r) w w' → w'.heap.size = w.heap.size → w'.rangeLeft b r < w.rangeLeft b r →
      (Instr.entry (.pointer (some ⟨r, 0, none⟩))).run P w' = .ok (.tuple #[.string ⟨t.toArray⟩, v]) w' → wpList P ops Q rest (a.put o.dst (.tuple #[.bool true, .string ⟨t.toArray⟩, v])) w') : wpList P ops Q (o :: rest) a w := by
  refine wpList_plain hgd fun K' hK' => ?_
  obtain ⟨cnt, h⟩ := h
  unfold Oper.wp
  rcases h.next (Maps.string_keyed hk) o.type with ⟨h0, hl, hrun⟩ | ⟨key, v, kl, y, w', cnt', hkey, hlk, hv, hat, hrun, hrg, hlt, hgr, hsz, hen⟩
  · simp [execOp, hop, hit, hrun, Result.andThen]
    exact hK' _ _ (hDone (leftIs_nil hl))
  · obtain ⟨t, rfl, rfl⟩ := keyOf_str_inv hk hkey
    unfold Rv at hv
    injection hv with hv
    subst hv
    rw [leftIs_strike] at hrg
    simp [execOp, hop, hit, hrun, Result.andThen]
    exact hK' _ _ (hMore t v w' ((leftIs_str _ _).1 hlk) (atKey_find hat) ⟨_, hrg⟩ ((Keep.of_grown hgr).weaken (fun i _ hi e => hi (by injection e with e; exact e.symm))) hsz (by rw [hrg.left_eq, h.left_eq]; exact hlt) hen)
end
end Go.Proofs.YtlibhkehebioeaaGreatDoor
