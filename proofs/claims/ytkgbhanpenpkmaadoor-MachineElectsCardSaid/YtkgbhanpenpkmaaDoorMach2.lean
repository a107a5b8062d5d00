/-
  WALKS OF machine's 'set', 'cas', 'Get', 'operationOf'.
-/
import Derived.Test.YtkgbhanpenpkmaaDoorMach
namespace Go.Proofs.YtkgbhanpenpkmaaDoor
set_option linter.unusedVariables false
set_option linter.unusedSimpArgs false
open Go.RowKit

def setP (k v : List UInt8) (ps : Ps) : Ps := match pfind k ps with
  | some _ => pput k v ps
  | none => if 16 ≤ ps.length then ps else pput k v ps
def setR (k v : List UInt8) (ps : Ps) : MRes := match pfind k ps with
  | some u => ⟨1, u, 1⟩
  | none => if 16 ≤ ps.length then ⟨4, [], 0⟩ else ⟨1, [], 0⟩

set_option maxRecDepth 20000 in
set_option maxHeartbeats 1000000 in
theorem set_any (m bp : Nat) (ps : Ps) (c i r o : Int) (k v d : List UInt8) (w : World) (h0 : w.cell? ⟨m, 0, none⟩ = some (.map (some bp))) (hm : MapIs Tryd.prog 9 w bp (sk ps)) (hk : k.length ≤ 8) (hps : ps.length ≤ 1048576) :
    Calls Tryd.prog 57 #[.pointer (some ⟨m, 0, none⟩), cmdV c i r o k v d] w fun e w' => e = .returned (resV (setR k v ps)) ∧ MapIs Tryd.prog 9 w' bp (sk (setP k v ps)) ∧ Keep (fun j => j ≠ bp) w w' := by
  obtain ⟨R, hR⟩ : ∃ R, R = setR k v ps := ⟨_, rfl⟩
  obtain ⟨P', hP'⟩ : ∃ P', P' = setP k v ps := ⟨_, rfl⟩
  rw [← hR, ← hP']
  have hmlt := lt_of_cell h0
  have hblt := hm.lt
  obtain ⟨G, hG⟩ : ∃ G, G = w.heap.size := ⟨_, rfl⟩
  obtain ⟨W, hW⟩ : ∃ W, W = (w.alloc (.cells #[.int .i64 c, .int .i64 i, .int .i64 r, .int .i64 o, str k, str v, str d] 23)).alloc (.cells #[.int .i64 0, str [], .int .i64 0] 52) := ⟨_, rfl⟩
  have hf : Fresh w W := hW ▸ ((Keep.refl _ w).alloc _).alloc _
  have hbx : Blk W G 23 #[.int .i64 c, .int .i64 i, .int .i64 r, .int .i64 o, str k, str v, str d] := by rw [hW, hG]; exact (Blk.new _ _ _).alloc _
  have hbr : Blk W (G + 1) 52 #[.int .i64 0, str [], .int .i64 0] := by rw [hW]; exact Blk.newAt (by simp [hG])
  have hmW := hm.keep hf trivial
  have HL := Lib.hid (fun q => look_str hmW (l := k) (by omega) q)
  have x0 := hf.cellAt h0 trivial
  have k4 := hbx.cell 4
  have k5 := hbx.cell 5
  simp at k4 k5
  have HA := Lib.hid (And.intro hmW (And.intro hf (And.intro hbr (And.intro hbx (And.intro hG (And.intro hmlt hblt))))))
  clear hmW hf hbr hbx hmlt hblt hm h0
  go_enter Tryd.func57, Tryd.ntmps57
  go_wp2_with fail
  simp only [← hG]
  rw [← hW]
  clear hW hG
  have hlk := HL.out
  go_quiet (fail)
  obtain ⟨W2, hW2⟩ : ∃ W2, W2 = W.drewN nq := ⟨_, rfl⟩
  rw [← hW2]
  obtain ⟨hmW, hf, hbr, hbx, hG, hmlt, hblt⟩ := HA.out
  have hf2 : Fresh w W2 := hW2 ▸ hf.drewN nq
  have y0 : W2.cell? ⟨m, 0, none⟩ = some (.map (some bp)) := by rw [hW2]; exact x0
  have y4 : W2.cell? ⟨G, 4, none⟩ = some (str k) := by rw [hW2]; exact k4
  have y5 : W2.cell? ⟨G, 5, none⟩ = some (str v) := by rw [hW2]; exact k5
  have HB := Lib.hid (And.intro (show MapIs Tryd.prog 9 W2 bp (sk ps) by rw [hW2]; exact hmW.keep (Keep.drewN (Keep.refl (fun _ => True) W) nq) trivial) (And.intro hf2 (And.intro (show Blk W2 (G + 1) 52 #[.int .i64 0, str [], .int .i64 0] by rw [hW2]; exact hbr.drewN nq) (And.intro (show Blk W2 G 23 _ by rw [hW2]; exact hbx.drewN nq) (And.intro (show bp < G by omega) hG)))))
  clear hmW hf hbr hbx hG hmlt hblt hf2 hW2 x0 k4 k5 HL hlk HA
  cases hpf : pfind k ps with
  | some u =>
    have HE : Hid (R = ⟨1, u, 1⟩ ∧ P' = pput k v ps) := ⟨by simp [hR, setR, hpf], by simp [hP', setP, hpf]⟩
    clear hpf hR hP'
    have HD := Lib.hid (done_any u 1)
    go_wp2_with fail
    refine wp_region_still_tail 8 (by kernel_rfl) (by kernel_rfl) ?_
    simp only [List.take_succ_cons, List.take_zero, List.drop_succ_cons, List.drop_zero]
    repeat still_step
    refine wpStill_nil ?_
    change wpList _ _ _ _ _ W2.drew
    refine wpList_mstore rfl (.tmp 22) (.tmp 24) (.tmp 26) rfl Tryd.underlying9 Tryd.underlying85 rfl (HB.out.1.keep ((Keep.refl (fun _ => True) W2).drew) trivial) (by rw [sk_len]; simp only [maxLen]; omega) (l := k) (by simp only [maxLen]; omega) rfl (str v) rfl ?_
    intro W3 hm3 hk3
    rw [sk_put] at hm3
    obtain ⟨-, hf, hbr, hbx, hlt, hww⟩ := HB.out
    have hk23 : Keep (fun j => j ≠ bp) W2 W3 := (Keep.refl _ W2).drew.trans hk3
    have hbr3 := hbr.keep hk23 (by omega)
    have H3 := Lib.hid (And.intro hm3 (And.intro (hf.comp hk23 (fun _ _ _ => trivial) (fun _ _ h => h)) (And.intro hbr3 (And.intro hlt hww))))
    clear hm3 hk3 hf hbr hbx hlt hww hk23 hbr3 y0 y4 y5
    go_wp2_with fail
    refine (HD.out W3).mono ?_
    rintro e W4 ⟨rfl, f4⟩
    obtain ⟨hm3, hf3, hbr3, hlt, hww⟩ := H3.out
    have hbr4 := hbr3.keep f4 trivial
    have r0 := hbr4.cell 0
    have r1 := hbr4.cell 1
    have r2 := hbr4.cell 2
    have s0 := hbr4.frozen 0
    have s1 := hbr4.frozen 1
    have s2 := hbr4.frozen 2
    have rl := hbr4.lt
    simp at r0 r1 r2
    have H4 := Lib.hid (And.intro (hm3.keep f4 trivial) (And.intro (hf3.comp f4 (fun _ _ h => h) (fun _ _ _ => trivial)) (And.intro hbr4 (And.intro hlt hww))))
    clear hm3 hf3 hbr3 hlt hbr4 f4 HD H3 hww
    go_wp2_with fail
    obtain ⟨hm4, hf4, hbr4, hlt, hww⟩ := H4.out
    rw [HE.out.1]
    refine bodyPost_ret (results_one rfl _ _ (G + 1) 52 #[.int .i64 1, str u, .int .i64 1] _ rfl (((hbr4.set 0 _).set 1 _).set 2 _) Tryd.underlying52 rfl (by kernel_rfl)) rfl ?_
    refine ⟨rfl, ?_, ?_⟩
    · rw [HE.out.2]
      exact ((hm4.keep ((((Keep.refl (fun j => j ≠ G + 1) _).setCell (fun _ h => h rfl) _).setCell (fun _ h => h rfl) _).setCell (fun _ h => h rfl) _) (by omega)))
    · exact ((hf4.setCell (fun h => by simp at h; omega) _).setCell (fun h => by simp at h; omega) _).setCell (fun h => by simp at h; omega) _
  | none =>
    by_cases hful : (16 : Int) ≤ (ps.length : Int)
    · have hful2 : 16 ≤ ps.length := by omega
      have HE : Hid (R = ⟨4, [], 0⟩ ∧ P' = ps) := ⟨by simp [hR, setR, hpf, hful2], by simp [hP', setP, hpf, hful2]⟩
      clear hpf hR hP'
      have HD := Lib.hid (code_any 4)
      have hskl := sk_len ps
      go_wp2_with (at_len; refine wpList_mlen rfl (.tmp 33) rfl Tryd.underlying85 rfl HB.out.1 ?_)
      go_wp2_with fail
      refine (HD.out W2).mono ?_
      rintro e W4 ⟨rfl, f4⟩
      obtain ⟨hm3, hf3, hbr3, -, hlt, hww⟩ := HB.out
      have hbr4 := hbr3.keep f4 trivial
      have r0 := hbr4.cell 0
      have r1 := hbr4.cell 1
      have r2 := hbr4.cell 2
      have s0 := hbr4.frozen 0
      have s1 := hbr4.frozen 1
      have s2 := hbr4.frozen 2
      have rl := hbr4.lt
      simp at r0 r1 r2
      have H4 := Lib.hid (And.intro (hm3.keep f4 trivial) (And.intro (hf3.trans f4) (And.intro hbr4 (And.intro hlt hww))))
      clear hm3 hf3 hbr3 hlt hbr4 f4 HD HB hww y0 y4 y5 hskl
      go_wp2_with fail
      obtain ⟨hm4, hf4, hbr4, hlt, hww⟩ := H4.out
      rw [HE.out.1]
      refine bodyPost_ret (results_one rfl _ _ (G + 1) 52 #[.int .i64 4, str [], .int .i64 0] _ rfl (((hbr4.set 0 _).set 1 _).set 2 _) Tryd.underlying52 rfl (by kernel_rfl)) rfl ?_
      refine ⟨rfl, ?_, ?_⟩
      · rw [HE.out.2]
        exact ((hm4.keep ((((Keep.refl (fun j => j ≠ G + 1) _).setCell (fun _ h => h rfl) _).setCell (fun _ h => h rfl) _).setCell (fun _ h => h rfl) _) (by omega)))
      · exact (((hf4.setCell (fun h => by simp at h; omega) _).setCell (fun h => by simp at h; omega) _).setCell (fun h => by simp at h; omega) _).weaken (fun _ _ _ => trivial)
    · have hful2 : ¬ 16 ≤ ps.length := by omega
      have HE : Hid (R = ⟨1, [], 0⟩ ∧ P' = pput k v ps) := ⟨by simp [hR, setR, hpf, hful2], by simp [hP', setP, hpf, hful2]⟩
      clear hpf hR hP'
      have HD := Lib.hid (done_any [] 0)
      have hskl := sk_len ps
      go_wp2_with (at_len; refine wpList_mlen rfl (.tmp 33) rfl Tryd.underlying85 rfl HB.out.1 ?_)
      refine wp_region_still_tail 8 (by kernel_rfl) (by kernel_rfl) ?_
      simp only [List.take_succ_cons, List.take_zero, List.drop_succ_cons, List.drop_zero]
      repeat still_step
      refine wpStill_nil ?_
      change wpList _ _ _ _ _ W2.drew
      refine wpList_mstore rfl (.tmp 40) (.tmp 42) (.tmp 44) rfl Tryd.underlying9 Tryd.underlying85 rfl (HB.out.1.keep ((Keep.refl (fun _ => True) W2).drew) trivial) (by rw [sk_len]; simp only [maxLen]; omega) (l := k) (by simp only [maxLen]; omega) rfl (str v) rfl ?_
      intro W3 hm3 hk3
      rw [sk_put] at hm3
      obtain ⟨-, hf, hbr, hbx, hlt, hww⟩ := HB.out
      have hk23 : Keep (fun j => j ≠ bp) W2 W3 := (Keep.refl _ W2).drew.trans hk3
      have hbr3 := hbr.keep hk23 (by omega)
      have H3 := Lib.hid (And.intro hm3 (And.intro (hf.comp hk23 (fun _ _ _ => trivial) (fun _ _ h => h)) (And.intro hbr3 (And.intro hlt hww))))
      clear hm3 hk3 hf hbr hbx hlt hww hk23 hbr3 y0 y4 y5
      go_wp2_with fail
      refine (HD.out W3).mono ?_
      rintro e W4 ⟨rfl, f4⟩
      obtain ⟨hm3, hf3, hbr3, hlt, hww⟩ := H3.out
      have hbr4 := hbr3.keep f4 trivial
      have r0 := hbr4.cell 0
      have r1 := hbr4.cell 1
      have r2 := hbr4.cell 2
      have s0 := hbr4.frozen 0
      have s1 := hbr4.frozen 1
      have s2 := hbr4.frozen 2
      have rl := hbr4.lt
      simp at r0 r1 r2
      have H4 := Lib.hid (And.intro (hm3.keep f4 trivial) (And.intro (hf3.comp f4 (fun _ _ h => h) (fun _ _ _ => trivial)) (And.intro hbr4 (And.intro hlt hww))))
      clear hm3 hf3 hbr3 hlt hbr4 f4 HD H3 hww
      go_wp2_with fail
      obtain ⟨hm4, hf4, hbr4, hlt, hww⟩ := H4.out
      rw [HE.out.1]
      refine bodyPost_ret (results_one rfl _ _ (G + 1) 52 #[.int .i64 1, str [], .int .i64 0] _ rfl (((hbr4.set 0 _).set 1 _).set 2 _) Tryd.underlying52 rfl (by kernel_rfl)) rfl ?_
      refine ⟨rfl, ?_, ?_⟩
      · rw [HE.out.2]
        exact ((hm4.keep ((((Keep.refl (fun j => j ≠ G + 1) _).setCell (fun _ h => h rfl) _).setCell (fun _ h => h rfl) _).setCell (fun _ h => h rfl) _) (by omega)))
      · exact ((hf4.setCell (fun h => by simp at h; omega) _).setCell (fun h => by simp at h; omega) _).setCell (fun h => by simp at h; omega) _
end Go.Proofs.YtkgbhanpenpkmaaDoor
