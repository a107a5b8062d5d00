/-
  MERGED: Lets Ops Sum Writer
-/
import Derived.Test.YtggibajakcigaaaGreatDoorT4
import Derived.Test.YtggibajakcigaaaGreatDoorT5
import Derived.Test.YtggibajakcigaaaGreatDoorT1
import Derived.Lib.LaidTab
import Derived.Lib.AppendStr
namespace Go.Proofs.YtggibajakcigaaaGreatDoor
set_option linter.unusedVariables false
set_option linter.unusedSimpArgs false
open Go.RowKit

/-! ### plain -/
def halfL (c : Int) (todo : List Txt) (l : LockD) : LockD := if l.name ∈ todo then l else leaveL c l
theorem half_name (c : Int) (todo : List Txt) (l : LockD) : (halfL c todo l).name = l.name := by unfold halfL; split <;> rfl
theorem half_all (c : Int) (ls : List LockD) : ls.map (halfL c (ls.map LockD.name)) = ls := by
  have : ∀ l ∈ ls, halfL c (ls.map LockD.name) l = l := fun l hl => if_pos (List.mem_map.2 ⟨l, hl, rfl⟩)
  rw [List.map_congr_left this, List.map_id']
theorem half_none (c : Int) (ls : List LockD) : ls.map (halfL c []) = ls.map (leaveL c) := List.map_congr_left fun l _ => if_neg (by simp)
theorem half_step {c : Int} {ls : List LockD} {todo : List Txt} {t : Txt} {d : LockD} (hr : Rise (ls.map LockD.name)) (ht : t ∈ todo) (hd : d ∈ ls.map (halfL c todo)) (hn : d.name = t) :
    d ∈ ls ∧ setK LockD.name (leaveL c d) (ls.map (halfL c todo)) = ls.map (halfL c (todo.filter fun x => !(x == t))) := by
  obtain ⟨l0, h0, rfl⟩ := List.mem_map.1 hd
  have hn0 : l0.name = t := by rw [← hn, half_name]
  have e0 : halfL c todo l0 = l0 := if_pos (by rw [hn0]; exact ht)
  rw [e0]
  refine ⟨h0, ?_⟩
  unfold setK
  rw [List.map_map]
  refine List.map_congr_left fun l hl => ?_
  simp only [Function.comp]
  have e1 : (leaveL c l0).name = t := hn0
  rw [e1, half_name]
  by_cases h : l.name = t
  · have h2 := findK_of (key := LockD.name) hr h0 hn0
    have h3 := findK_of (key := LockD.name) hr hl h
    rw [h2] at h3
    injection h3 with h3
    subst h3
    rw [if_pos (by simpa using h)]
    unfold halfL
    rw [if_neg (by simp [h])]
  · rw [if_neg (by simpa using h)]
    unfold halfL
    simp [h]
def heldB (c : Int) (s : StD) (k : Txt) : Bool := match lfind k s.locks with
  | some l => l.holder == c
  | none => false
theorem held_all {c : Int} {ls : List LockD} {s : StD} (hr : Rise (ls.map LockD.name)) (hs : s.locks = ls.map (leaveL c)) : (ls.map LockD.name).filter (heldB c s) = heldBy c ls := by
  unfold heldBy
  rw [List.filter_map]
  congr 1
  refine List.filter_congr fun l hl => ?_
  simp only [Function.comp]
  unfold heldB
  rw [hs]
  have e : lfind l.name (ls.map (leaveL c)) = some (leaveL c l) := by
    show findK _ _ _ = _
    have h1 : findK LockD.name l.name ls = some l := findK_of hr hl rfl
    unfold findK at h1 ⊢
    rw [List.find?_map]
    have h2 : ((fun x : LockD => x.name == l.name) ∘ leaveL c) = fun x => x.name == l.name := rfl
    rw [h2, h1]
    rfl
  rw [e]
  rfl
theorem passAll_other {k : Txt} : ∀ (ns : List Txt) (s : StD), k ∉ ns → lfind k (passAll ns s).locks = lfind k s.locks
  | [], s, _ => rfl
  | a :: r, s, h => by
    have e : passAll (a :: r) s = passAll r (passD a s).2 := rfl
    rw [e, passAll_other r _ (fun h2 => h (by simp [h2])), pass_other (fun h2 => h (by simp [h2]))]
theorem passAll_snoc (ns : List Txt) (k : Txt) (s : StD) : passAll (ns ++ [k]) s = (passD k (passAll ns s)).2 := by
  unfold passAll
  rw [List.foldl_append]
  rfl
/-- Behind k of the names. -/
def heldTo (c : Int) (s : StD) (ns : List Txt) (k : Nat) : List Txt := (ns.take k).filter (heldB c s)
theorem heldTo_succ (c : Int) (s : StD) (ns : List Txt) (k : Nat) (hk : k < ns.length) : heldTo c s ns (k + 1) = heldTo c s ns k ++ (if heldB c s ns[k] = true then [ns[k]] else []) := by
  unfold heldTo
  rw [← List.take_append_getElem hk, List.filter_append]
  congr 1
  cases h : heldB c s ns[k] <;> simp [List.filter, h]
theorem heldTo_not {c : Int} {s : StD} {ns : List Txt} {k : Nat} (hn : ns.Nodup) (hk : k < ns.length) : ns[k] ∉ heldTo c s ns k := by
  intro h
  have h1 := (List.mem_filter.1 h).1
  have h2 : (ns.take k ++ [ns[k]]).Nodup := by
    rw [List.take_append_getElem hk]
    exact hn.sublist (List.take_sublist _ _)
  exact (List.nodup_append.1 h2).2.2 _ h1 _ (by simp) rfl
theorem heldTo_len (c : Int) (s : StD) (ns : List Txt) (k : Nat) : (heldTo c s ns k).length ≤ ns.length := by
  unfold heldTo
  have h1 := List.length_filter_le (heldB c s) (ns.take k)
  have h2 := List.length_take_le k ns
  have h3 : (ns.take k).length ≤ ns.length := by rw [List.length_take]; omega
  omega

/-! ### in memory -/
theorem MSt.widen {S S' : Nat → Prop} {w : World} {m bp bl : Nat} {s : StD} (h : MSt S w m bp bl s) (hs : ∀ j, S j → S' j) (h1 : ¬ S' m) (h2 : ¬ S' bp) : MSt S' w m bp bl s := by
  obtain ⟨ms, hl⟩ := h.lk
  exact ⟨h.blk, h.len, h.pm, ⟨ms, hl.widen hs⟩, h1, h2⟩
/-- What stands within the first loop. -/
structure LetsAt (S T : Nat → Prop) (w wr : World) (bl : Nat) (c : Int) (ls : List LockD) (kvs : List Kv) (todo : List Txt) : Prop where
  rng : RangeIs Tryz.prog 9 wr bl w.heap.size kvs todo
  lks : ∃ ms, Lks T wr bl ms (ls.map (halfL c todo)) ∧ ms.map LkM.kv = kvs
  keep : Keep (fun j => ¬ S j) w wr
  sz : w.heap.size < wr.heap.size

set_option maxRecDepth 20000 in
set_option maxHeartbeats 1000000 in
theorem lets_any (S : Nat → Prop) (m bp bl : Nat) (s : StD) (c : Int) (w : World) (hm : MSt S w m bp bl s) (hi : LInv s.locks s.tok) :
    Calls Tryz.prog 23 #[.pointer (some ⟨m, 0, none⟩), .int .i64 c] w fun e w' => e = .returned (.int .i64 (letsD c s).1) ∧ MSt (fun j => S j ∨ w.heap.size ≤ j) w' m bp bl (letsD c s).2 ∧ Keep (fun j => j ≠ m ∧ ¬ S j) w w' := by
  obtain ⟨ms, hls⟩ := hm.lk
  obtain ⟨x0, x1, x2⟩ := hm.three
  have hml := hm.blk.lt
  obtain ⟨T, hT⟩ : ∃ T : Nat → Prop, T = fun j => (S j ∧ j < w.heap.size) ∨ w.heap.size < j := ⟨_, rfl⟩
  have hLT : Lks T w bl ms s.locks := hT ▸ hls.tight.widen fun j h => .inl h
  have hrT : ¬ T w.heap.size := by rw [hT]; rintro (⟨_, h⟩ | h) <;> omega
  have hTS : ∀ j, j < w.heap.size → T j → S j := by
    intro j hj h
    rw [hT] at h
    rcases h with h | h
    · exact h.1
    · omega
  have hTn : ∀ j, w.heap.size < j → T j := fun j h => by rw [hT]; exact .inr h
  have hkvs : (ms.map LkM.kv).map Prod.fst = s.locks.map LockD.name := by rw [← hls.keys, List.map_map]; rfl
  have hn8 := hi.len
  have HA := Lib.hid (And.intro hm (And.intro hi (And.intro hls (And.intro hLT (And.intro hrT (And.intro hTS (And.intro hTn hkvs)))))))
  clear hm hi hls hLT hrT hTS hTn hkvs x0 x2
  go_enter Tryz.func23, Tryz.ntmps23
  go_wp2_with (at_range; refine wpList_rangeIs rfl (.tmp 13) rfl Tryz.underlying9 Tryz.underlying52 rfl HA.out.2.2.1.map ?_)
  intro w0 hr0 hk0 hs0
  have HR0 := Lib.hid (And.intro hr0 hk0)
  clear hr0 hk0
  go_wp2_with fail
  go_loopw [6] (fun _ wr => ∃ todo, Hid (LetsAt S T w wr bl c s.locks (ms.map LkM.kv) todo)) (fun _ wr => wr.rangeLeft bl w.heap.size)
  case atStart =>
    obtain ⟨hr0, hk0⟩ := HR0.out
    obtain ⟨hm, hi, hls, hLT, hrT, hTS, hTn, hkvs⟩ := HA.out
    replace hr0 : RangeIs Tryz.prog 9 w0 bl w.heap.size (ms.map LkM.kv) (s.locks.map LockD.name) := by rw [← hkvs, List.map_map]; exact hr0
    exact ⟨_, Lib.hid ⟨hr0, ⟨ms, by rw [half_all]; exact hLT.keep hk0 (fun _ _ => trivial), rfl⟩, hk0.weaken (fun _ _ _ => trivial), by omega⟩⟩
  case round =>
    rename World => wr
    obtain ⟨todo, HW⟩ := hrel
    go_wp2_with (at_next; refine wpList_nextIs rfl (.tmp 14) rfl Tryz.underlying9 rfl HW.out.1 ?_ ?_)
    · intro hd
      subst hd
      obtain ⟨hm, hi, hls, hLT, hrT, hTS, hTn, hkvs⟩ := HA.out
      obtain ⟨-, ⟨ms', hl', hkv'⟩, hkW, hsz⟩ := HW.out
      rw [half_none] at hl'
      have x1W := hkW.cellAt x1 hm.nm
      have hkeys : (ms'.map LkM.kv).map Prod.fst = s.locks.map LockD.name := by rw [hkv']; exact hkvs
      have HN := Lib.hid (names_l_any bl (ms'.map LkM.kv) wr hl'.map (by rw [hkeys]; exact hi.rise) (by rw [hl'.len, List.length_map]; omega))
      obtain ⟨s0, hs0e⟩ : ∃ s0 : StD, s0 = { s with locks := s.locks.map (leaveL c) } := ⟨_, rfl⟩
      obtain ⟨T2, hT2⟩ : ∃ T2 : Nat → Prop, T2 = fun j => T j ∧ j < wr.heap.size := ⟨_, rfl⟩
      have hM0 : MSt T2 wr m bp bl s0 := by
        rw [hs0e, hT2]
        exact ⟨hm.blk.keep hkW hm.nm, hm.len, hm.pm.keep hkW hm.nb, ⟨ms', hl'.tight⟩, fun h => hm.nm (hTS m hml h.1), fun h => hm.nb (hTS bp hm.pm.lt h.1)⟩
      have hT2b : ∀ j, T2 j → j < wr.heap.size := fun j h => by rw [hT2] at h; exact h.2
      have hT2S : ∀ j, T2 j → S j ∨ w.heap.size ≤ j := fun j h => by
        rw [hT2] at h
        rcases Nat.lt_or_ge j w.heap.size with h2 | h2
        · exact .inl (hTS j h2 h.1)
        · exact .inr h2
      have hi0 : LInv s0.locks s0.tok := by rw [hs0e]; exact hi.leave c
      have hheld : (s.locks.map LockD.name).filter (heldB c s0) = heldBy c s.locks := held_all hi.rise (by rw [hs0e])
      have hlets : letsD c s = (((heldBy c s.locks).length : Int), passAll (heldBy c s.locks) s0) := by rw [hs0e]; rfl
      have hnod : (s.locks.map LockD.name).Nodup := hi.rise.nodup
      have hfind0 : ∀ nm ∈ s.locks.map LockD.name, ∃ l, lfind nm s0.locks = some l := by
        intro nm hnm
        obtain ⟨l, h1, h2⟩ := List.mem_map.1 hnm
        have h3 : findK LockD.name nm s0.locks = some (leaveL c l) := by
          refine findK_of hi0.rise (by rw [hs0e]; exact List.mem_map.2 ⟨l, h1, rfl⟩) h2
        exact ⟨_, h3⟩
      have hlen8 : ∀ nm ∈ s.locks.map LockD.name, nm.length ≤ 8 := by
        intro nm hnm
        obtain ⟨l, h1, rfl⟩ := List.mem_map.1 hnm
        exact (hi.each l h1).n8
      obtain ⟨ns, hns⟩ : ∃ ns, ns = s.locks.map LockD.name := ⟨_, rfl⟩
      have hnsl : ns.length ≤ 8 := by rw [hns]; simpa using hn8
      have hkl : (ms'.map LkM.kv).length = ns.length := by rw [hns, hl'.len]; simp
      rw [hkeys, ← hns, hkl] at HN
      rw [← hns] at hheld hnod hfind0 hlen8
      have HB := Lib.hid (And.intro hM0 (And.intro hT2b (And.intro hT2S (And.intro hi0 (And.intro hheld (And.intro hlets (And.intro hnod (And.intro hfind0 (And.intro hlen8 hkW)))))))))
      clear hm hi hls hLT hrT hTS hTn hkvs hl' hkv' hkW hkeys hs0e hM0 hT2 hT2b hT2S hi0 hheld hlets hnod hfind0 hlen8 hns HR0 hkl
      go_wp2_with fail
      refine HN.out.mono ?_
      rintro e w2 ⟨⟨vn, rfl, hon⟩, f2⟩
      obtain ⟨A, cn, rfl, hrdn, -⟩ := own_rd hon
      have HO := Lib.hid (And.intro hon (And.intro hrdn f2))
      have x1X := f2.cellAt x1W trivial
      clear hon hrdn f2 HN x1W
      go_wp2_with fail
      go_loopw [7, 28] (fun n i wx => ∃ k : Nat, k ≤ ns.length ∧ i = .int .i64 (k : Int) ∧ n = .int .i64 ((heldTo c s0 ns k).length : Int) ∧ Hid (MSt T2 wx m bp bl (passAll (heldTo c s0 ns k) s0) ∧ Keep (fun j => j ≠ m ∧ ¬ T2 j) w2 wx)) (fun _ i _ => ns.length - (intOf i).toNat)
      case atStart => exact ⟨0, Nat.zero_le _, rfl, rfl, Lib.hid ⟨HB.out.1.fresh HO.out.2.2, Keep.refl _ _⟩⟩
      case round =>
        rename World => wx
        obtain ⟨k, hk, rfl, rfl, HX⟩ := hrel
        by_cases hlt : k < ns.length
        · obtain ⟨t, ht⟩ : ∃ t, t = ns[k] := ⟨_, rfl⟩
          have htm : t ∈ ns := ht ▸ List.getElem_mem hlt
          have HT : Hid (heldTo c s0 ns (k + 1) = heldTo c s0 ns k ++ (if heldB c s0 t = true then [t] else [])) := by rw [ht]; exact heldTo_succ c s0 ns k hlt
          have hnb : Hid (A ≠ none → ∃ b o, A = some ⟨b, o, none⟩ ∧ wx.cell? ⟨b, o + k, none⟩ = some (str t)) := by
            intro _
            have h1 := (HO.out.2.1.keep (HX.out.2.weaken fun j hj h => ⟨fun e => by have h2 := (own_lt HO.out.1 h).1; have h3 := HW.out.sz; omega, fun h2 => by have h3 := (own_lt HO.out.1 h).1; have h4 := HB.out.2.1 j h2; omega⟩)).at1 hlt
            obtain ⟨b, o, h2, -, h3, h4⟩ := h1
            refine ⟨b, o, h2, ?_⟩
            rw [h4, ht]
            simp
          have hA : A ≠ none := by
            have h1 := HO.out.2.1.2 (by omega)
            obtain ⟨b, o, h2, _⟩ := h1
            rw [h2]
            simp
          obtain ⟨b, o, rfl, hcell⟩ := hnb.out hA
          obtain ⟨l, hl0⟩ := HB.out.2.2.2.2.2.2.2.1 t htm
          have hlx0 : lfind t (passAll (heldTo c s0 ns k) s0).locks = some l := by rw [passAll_other _ _ (by rw [ht]; exact heldTo_not HB.out.2.2.2.2.2.2.1 hlt)]; exact hl0
          obtain ⟨msx, hlx⟩ := HX.out.1.lk
          obtain ⟨y, hy, hyl, hyk, hyi, hyf⟩ := lk_find hlx hlx0
          obtain ⟨y0, -, -⟩ := hyi.cells
          obtain ⟨-, z1, -⟩ := HX.out.1.three
          have ht8 : t.length ≤ 1048576 := by have := HB.out.2.2.2.2.2.2.2.2.1 t htm; omega
          have hlk := look_lk hlx (by omega) _ hyf 0
          rw [show wx.drewN 0 = wx from rfl] at hlk
          rw [hyl] at y0
          obtain ⟨hb, hhb⟩ : ∃ hb, hb = y.h := ⟨_, rfl⟩
          rw [← hhb] at y0 hlk
          have hbB : heldB c s0 t = (l.holder == c) := by unfold heldB; rw [hl0]
          rw [hbB] at HT
          have hcnt := heldTo_len c s0 ns k
          have hcnt2 : ((heldTo c s0 ns k).length : Int) ≤ 8 := by omega
          obtain ⟨lh, hlh⟩ : ∃ lh, lh = l.holder := ⟨_, rfl⟩
          rw [← hlh] at y0 HT
          have HP := Lib.hid (pass_any T2 m bp bl _ t l wx HX.out.1 (HB.out.2.2.2.1.passAll _) ht8 hlx0)
          obtain ⟨cnt, hcn⟩ : ∃ cnt, cnt = (heldTo c s0 ns k).length := ⟨_, rfl⟩
          rw [← hcn] at hcnt hcnt2
          have HCN := Lib.hid hcn
          clear hy hyl hyk hyi hyf hlx hlx0 hl0 hhb hbB hlh hnb hA htm ht
          rw [← hcn]
          clear hcn
          by_cases hh : lh = c
          · subst hh
            simp only [beq_self_eq_true, if_true] at HT
            go_wp2_with fail
            refine HP.out.mono ?_
            rintro e w4 ⟨rfl, hm4, hk4⟩
            have H4 := Lib.hid (And.intro hm4 hk4)
            clear hm4 hk4 HP
            go_wp2
            refine ⟨⟨k + 1, by omega, by simp, ?_, Lib.hid ⟨?_, ?_⟩⟩, ?_⟩
            · rw [HT.out, List.length_append, ← HCN.out]; simp
            · rw [HT.out, passAll_snoc]; exact H4.out.1
            · exact HX.out.2.trans H4.out.2
            · simp only [intOf]; omega
          · have hh2 : (lh == c) = false := by simpa using hh
            rw [hh2] at HT
            simp only [Bool.false_eq_true, if_false, List.append_nil] at HT
            go_wp2_with fail
            refine ⟨⟨k + 1, by omega, by simp, ?_, Lib.hid ⟨?_, HX.out.2⟩⟩, ?_⟩
            · rw [HT.out, HCN.out]
            · rw [HT.out]; exact HX.out.1
            · simp only [intOf]; omega
        · obtain rfl : k = ns.length := by omega
          go_wp2_with fail
          go_ret
          obtain ⟨hM0, hT2b, hT2S, hi0, hheld, hlets, hnod, hfind0, hlen8, hkW⟩ := HB.out
          obtain ⟨hMx, hkx⟩ := HX.out
          have hfull : heldTo c s0 ns ns.length = heldBy c s.locks := by unfold heldTo; rw [List.take_length]; exact hheld
          rw [hfull] at hMx ⊢
          rw [hlets]
          have hm := HA.out.1
          refine ⟨rfl, hMx.widen hT2S (fun h => h.elim hm.nm fun h => by omega) (fun h => h.elim hm.nb fun h => by have := hm.pm.lt; omega), (hkW.comp HO.out.2.2 (fun _ _ h => h.2) (fun _ _ _ => trivial)).comp hkx (fun _ _ h => h) fun j hj h => ⟨h.1, fun h2 => (hT2S j h2).elim h.2 fun h => by omega⟩⟩
    · intro t v w1 ht hv hr1 hk1 hs1 hlt hen
      obtain ⟨hm, hi, hls, hLT, hrT, hTS, hTn, hkvs⟩ := HA.out
      obtain ⟨-, ⟨ms', hl', hkv'⟩, hkW, hsz⟩ := HW.out
      rw [← hkv', mfind_map (key := LkM.key) (fun _ => rfl)] at hv
      obtain ⟨y, hfy, hvy⟩ := Option.map_eq_some_iff.1 hv
      obtain ⟨hyk, hy⟩ := findK_some hfy
      have hvy2 : v = .pointer (some ⟨y.h, 0, none⟩) := hvy.symm
      have hl1 := hl'.keep hk1 (fun j hj e => hrT (e ▸ hj))
      have hyd : y.d ∈ s.locks.map (halfL c todo) := by rw [← hl'.data]; exact List.mem_map.2 ⟨y, hy, rfl⟩
      obtain ⟨hyl, hset⟩ := half_step hi.rise ht hyd hyk
      have hyo := hi.each y.d hyl
      have hyi := hl1.each y hy
      have HL := Lib.hid (leave_any T c y w1 hyi hyo.nd (by have := queue_len hyo.nd hyo.q; omega))
      have HY := Lib.hid (And.intro hy (And.intro hset (And.intro hyi (And.intro hl1 (And.intro hr1 (And.intro hk1 (And.intro hs1 (And.intro hkW (And.intro hsz (And.intro hkv' hlt))))))))))
      obtain ⟨h, hh⟩ : ∃ h, h = y.h := ⟨_, rfl⟩
      rw [← hh] at hvy2 HL
      have HH := Lib.hid hh
      rw [hvy2] at hen
      clear hm hi hls hLT hrT hTS hTn hkvs hl' hkv' hkW hsz hfy hvy hyk hy hvy2 hl1 hyd hyl hset hyo hyi hr1 hk1 hs1 hlt ht hv hh
      go_wp2_with fail
      refine HL.out.mono ?_
      rintro e w2 ⟨rfl, ⟨v', hx', hn'⟩, hk2⟩
      have H2 := Lib.hid (And.intro hx' (And.intro hn' hk2))
      clear hx' hn' hk2 HL
      go_wp2
      obtain ⟨hm, hi, hls, hLT, hrT, hTS, hTn, hkvs⟩ := HA.out
      obtain ⟨hy, hset, hyi, hl1, hr1, hk1, hs1, hkW, hsz, hkv', hlt⟩ := HY.out
      obtain ⟨hx', hn', hk2⟩ := H2.out
      have hh := HH.out
      have hrise : Rise ((s.locks.map (halfL c todo)).map LockD.name) := by
        rw [List.map_map]
        have e : LockD.name ∘ halfL c todo = LockD.name := by funext l; exact half_name c todo l
        rw [e]
        exact hi.rise
      have hbh : bl ≠ h := by rw [hh]; exact hl1.map.ne_blk hyi.blk
      have hrh : w.heap.size ≠ h := by rw [hh]; exact hr1.ne_blk hyi.blk
      refine ⟨⟨_, Lib.hid ⟨hr1.keep hk2 hbh hrh, ⟨setK LkM.key ⟨leaveL c y.d, h, v'⟩ ms', ?_, ?_⟩, ?_, ?_⟩⟩, ?_⟩
      · have := hl1.turn hrise hy hk2 (S' := T) (fun j _ h1 _ => fun e => h1 (e.trans hh)) (x' := ⟨leaveL c y.d, h, v'⟩) (hx'.widen fun j hj => hj.elim id fun h2 => hTn j (by omega)) hh rfl (fun _ h => h) hn'
        rw [hset] at this
        exact this
      · rw [setK_kv hl1 hrise hy (x' := ⟨leaveL c y.d, h, v'⟩) hh rfl]
        exact hkv'
      · refine (hkW.comp hk1 (fun _ _ h => h) (fun j hj _ => by omega)).comp hk2 (fun _ _ h => h) fun j hj h2 e => h2 (hTS j hj ?_)
        rw [e, hh]
        exact hyi.sh
      · have := hk2.size
        omega
      · rw [hr1.left hk2 hbh hrh]
        exact hlt
end Go.Proofs.YtggibajakcigaaaGreatDoor
namespace Go.Proofs.YtggibajakcigaaaGreatDoor
set_option linter.unusedVariables false
set_option linter.unusedSimpArgs false
open Go.RowKit

section
variable {S S' : Nat → Prop} {w w' : World} {m bp bl g : Nat} {s : StD} {t : TypeId} {cs : Array Value}
theorem Lks.other {ms : List LkM} {ls : List LockD} (h : Lks S w bl ms ls) (hg : Blk w g t cs) (h1 : t ≠ 83) (h2 : t ≠ 3) (hk : Keep (fun j => j ≠ g) w w') : Lks S w' bl ms ls :=
  ⟨h.map.keep hk (h.map.ne_blk hg), fun x hx => (h.each x hx).keep hk (fun e => Blk.ne (h.each x hx).blk hg h1.symm e) (fun k hk2 e => (h.each x hx).row.ne_blk hg h2.symm (by rw [← e]; exact hk2)), h.apart, h.data, h.sb⟩
theorem MSt.other (h : MSt S w m bp bl s) (hg : Blk w g t cs) (h0 : t ≠ 55) (h1 : t ≠ 83) (h2 : t ≠ 3) (hk : Keep (fun j => j ≠ g) w w') : MSt S w' m bp bl s := by
  obtain ⟨ms, hl⟩ := h.lk
  exact ⟨h.blk.keep hk (fun e => Blk.ne h.blk hg h0.symm e), h.len, h.pm.keep hk (h.pm.ne_blk hg), ⟨ms, hl.other hg h1 h2 hk⟩, h.nm, h.nb⟩
end
theorem MSt.tight {S : Nat → Prop} {w : World} {m bp bl : Nat} {s : StD} (h : MSt S w m bp bl s) : MSt (fun j => S j ∧ j < w.heap.size) w m bp bl s := by
  obtain ⟨ms, hl⟩ := h.lk
  exact ⟨h.blk, h.len, h.pm, ⟨ms, hl.tight⟩, fun e => h.nm e.1, fun e => h.nb e.1⟩
abbrev resA (R : MRes) : Array Value := #[.int .i64 R.code, str R.val, .int .i64 R.n]
def resStored (w : World) (g : Nat) (R : MRes) : World := ((w.setCell ⟨g, 0, none⟩ (.int .i64 R.code)).setCell ⟨g, 1, none⟩ (str R.val)).setCell ⟨g, 2, none⟩ (.int .i64 R.n)
theorem res_keep {Z : Nat → Prop} {w0 w : World} {g : Nat} (h : Keep Z w0 w) (hg : g < w0.heap.size → ¬ Z g) (R : MRes) : Keep Z w0 (resStored w g R) := ((h.setCell hg _).setCell hg _).setCell hg _
theorem res_blk {w : World} {g : Nat} {R0 : MRes} (h : Blk w g 36 (resA R0)) (R : MRes) : Blk (resStored w g R) g 36 (resA R) := ((h.set 0 (.int .i64 R.code)).set 1 (str R.val)).set 2 (.int .i64 R.n)
theorem res_facts {w : World} {g : Nat} {R : MRes} (h : Blk w g 36 (resA R)) : w.cell? ⟨g, 0, none⟩ = some (.int .i64 R.code) ∧ w.cell? ⟨g, 1, none⟩ = some (str R.val) ∧ w.cell? ⟨g, 2, none⟩ = some (.int .i64 R.n) ∧
    w.frozen? ⟨g, 0, none⟩ = false ∧ w.frozen? ⟨g, 1, none⟩ = false ∧ w.frozen? ⟨g, 2, none⟩ = false ∧ g < w.heap.size := by
  have h0 := h.cell 0
  have h1 := h.cell 1
  have h2 := h.cell 2
  simp at h0 h1 h2
  exact ⟨h0, h1, h2, h.frozen 0, h.frozen 1, h.frozen 2, h.lt⟩
/-- What an operation does: its result, the machine behind it, what it kept. -/
structure OpPost (S : Nat → Prop) (m bp bl : Nat) (x : ResD × StD) (w : World) (e : Ending) (w' : World) : Prop where
  ret : e = .returned (resV x.1)
  st : MSt (fun j => S j ∨ w.heap.size ≤ j) w' m bp bl x.2
  keep : Keep (fun j => j ≠ m ∧ j ≠ bp ∧ ¬ S j) w w'
/-- Where an operation begins: the command and the result have blocks of their own. -/
structure OpAt (w W : World) (G : Nat) (c i r o : Int) (k v d : Txt) : Prop where
  fresh : Fresh w W
  cmd : Blk W G 27 #[.int .i64 c, .int .i64 i, .int .i64 r, .int .i64 o, str k, str v, str d]
  res : Blk W (G + 1) 36 (resA ⟨0, [], 0⟩)
  sz : G = w.heap.size
theorem op_at (w : World) (c i r o : Int) (k v d : Txt) : OpAt w ((w.alloc (.cells #[.int .i64 c, .int .i64 i, .int .i64 r, .int .i64 o, str k, str v, str d] 27)).alloc (.cells #[.int .i64 0, str [], .int .i64 0] 36)) w.heap.size c i r o k v d :=
  ⟨((Keep.refl _ w).alloc _).alloc _, (Blk.new _ _ _).alloc _, Blk.newAt (by simp), rfl⟩
theorem OpAt.cells {w W : World} {G : Nat} {c i r o : Int} {k v d : Txt} (h : OpAt w W G c i r o k v d) : W.cell? ⟨G, 0, none⟩ = some (.int .i64 c) ∧ W.cell? ⟨G, 4, none⟩ = some (str k) ∧ W.cell? ⟨G, 5, none⟩ = some (str v) ∧ W.cell? ⟨G, 6, none⟩ = some (str d) ∧ G < W.heap.size := by
  have h0 := h.cmd.cell 0
  have h4 := h.cmd.cell 4
  have h5 := h.cmd.cell 5
  have h6 := h.cmd.cell 6
  simp at h0 h4 h5 h6
  exact ⟨h0, h4, h5, h6, h.cmd.lt⟩
/-- The end of an operation's walk. -/
theorem op_ret {fn : Func} (hfn : fn.results = #[.cell 4 36]) {a : Act} {g : Nat} (ha : a.tmps.getD 4 undef = .pointer (some ⟨g, 0, none⟩)) (hd : a.defers = []) {S S1 : Nat → Prop} {w wx : World} {m bp bl : Nat} {x : ResD × StD} {R0 : MRes}
    (hm : MSt S1 wx m bp bl x.2) (hS : ∀ j, S1 j → S j ∨ w.heap.size ≤ j) (hm0 : m < w.heap.size) (hb0 : bp < w.heap.size) (hn1 : ¬ S m) (hn2 : ¬ S bp) (hb : Blk wx g 36 (resA R0)) (hg : w.heap.size ≤ g) (hk : Keep (fun j => j ≠ m ∧ j ≠ bp ∧ ¬ S j) w wx) :
    bodyPost Tryz.prog fn (OpPost S m bp bl x w) Exit.ret a (resStored wx g x.1) := by
  refine bodyPost_ret (results_one hfn _ _ g 36 (resA x.1) _ ha (res_blk hb x.1) Tryz.underlying36 rfl (by kernel_rfl)) hd ⟨rfl, ?_, res_keep hk (fun h => absurd h (by omega)) _⟩
  exact (hm.other hb (by decide) (by decide) (by decide) (res_keep (Keep.refl _ wx) (fun _ h => h rfl) _)).widen hS (fun h => h.elim hn1 fun h => by omega) (fun h => h.elim hn2 fun h => by omega)

/-- .. and something was made behind it. -/
theorem op_ret2 {fn : Func} (hfn : fn.results = #[.cell 4 36]) {a : Act} {g : Nat} (ha : a.tmps.getD 4 undef = .pointer (some ⟨g, 0, none⟩)) (hd : a.defers = []) {S S1 : Nat → Prop} {w wx wy : World} {m bp bl : Nat} {x : ResD × StD} {R0 : MRes}
    (hm : MSt S1 wx m bp bl x.2) (hS : ∀ j, S1 j → S j ∨ w.heap.size ≤ j) (hm0 : m < w.heap.size) (hb0 : bp < w.heap.size) (hn1 : ¬ S m) (hn2 : ¬ S bp) (hb : Blk wx g 36 (resA R0)) (hg : w.heap.size ≤ g) (hk : Keep (fun j => j ≠ m ∧ j ≠ bp ∧ ¬ S j) w wx) (hf : Fresh (resStored wx g x.1) wy) :
    bodyPost Tryz.prog fn (OpPost S m bp bl x w) Exit.ret a wy := by
  refine bodyPost_ret (results_one hfn _ _ g 36 (resA x.1) _ ha ((res_blk hb x.1).keep hf trivial) Tryz.underlying36 rfl (by kernel_rfl)) hd ⟨rfl, ?_, (res_keep hk (fun h => absurd h (by omega)) _).comp hf (fun _ _ h => h) (fun _ _ _ => trivial)⟩
  exact ((hm.other hb (by decide) (by decide) (by decide) (res_keep (Keep.refl _ wx) (fun _ h => h rfl) _)).fresh hf).widen hS (fun h => h.elim hn1 fun h => by omega) (fun h => h.elim hn2 fun h => by omega)
theorem pfindD_none {k : Txt} {ps : Ps} (h : pfind k ps = none) : pfindD k ps = none := by
  rw [pfind_eq] at h
  simpa using h
theorem pfindD_some {k u : Txt} {ps : Ps} (h : pfind k ps = some u) : ∃ a, pfindD k ps = some (a, u) := by
  rw [pfind_eq] at h
  obtain ⟨⟨a, b⟩, h1, h2⟩ := Option.map_eq_some_iff.1 h
  simp only at h2
  subst h2
  exact ⟨a, h1⟩
set_option maxRecDepth 20000 in
theorem getop_any (ita : Int → Txt) (S : Nat → Prop) (m bp bl : Nat) (s : StD) (c i r : Int) (k v d : Txt) (w : World) (hm : MSt S w m bp bl s) (hk : k.length ≤ 8) :
    Calls Tryz.prog 45 #[.pointer (some ⟨m, 0, none⟩), cmdV c i r 2 k v d] w (OpPost S m bp bl (onKeyD numb ita 2 k v d s) w) := by
  obtain ⟨X, hX⟩ : ∃ X, X = onKeyD numb ita 2 k v d s := ⟨_, rfl⟩
  rw [← hX]
  have HO := Lib.hid (op_at w c i r 2 k v d)
  obtain ⟨G, hG⟩ : ∃ G, G = w.heap.size := ⟨_, rfl⟩
  obtain ⟨W, hW⟩ : ∃ W, W = (w.alloc (.cells #[.int .i64 c, .int .i64 i, .int .i64 r, .int .i64 2, str k, str v, str d] 27)).alloc (.cells #[.int .i64 0, str [], .int .i64 0] 36) := ⟨_, rfl⟩
  rw [← hW, ← hG] at HO
  obtain ⟨k0, k4, k5, k6, kl⟩ := HO.out.cells
  have hmW := hm.fresh HO.out.fresh
  obtain ⟨x0, -, -⟩ := hmW.three
  have hmlt := hmW.blk.lt
  have hml := hm.blk.lt
  have hbl := hm.pm.lt
  have hlk := look_str hmW.pm (l := k) (by omega)
  have HA := Lib.hid (And.intro hm (And.intro hmW hX))
  clear hm hmW hX
  go_enter Tryz.func45, Tryz.ntmps45
  go_wp2_with fail
  simp only [← hG]
  rw [← hW]
  clear hW hG
  go_quiet (fail)
  have HD := Lib.hid (fun l n => done_any l n (W.drewN nq))
  have HC := Lib.hid (fun n => code_any n (W.drewN nq))
  have HQ := Lib.hid (show Fresh W (W.drewN nq) from (Keep.refl _ W).drewN nq)
  cases hpf : pfind k s.pairs with
  | none =>
    rw [hpf] at hlk
    go_wp2_with fail
    refine (HC.out _).mono ?_
    rintro e W4 ⟨rfl, f4⟩
    have HF := Lib.hid (HQ.out.trans f4)
    obtain ⟨r0, r1, r2, s0, s1, s2, rl⟩ := res_facts (HO.out.res.keep HF.out trivial)
    clear f4 HC HD HQ
    go_wp2_with fail
    obtain ⟨hm, hmW, hX⟩ := HA.out
    have e : X = (⟨2, [], 0⟩, s) := by rw [hX]; unfold onKeyD; rw [pfindD_none hpf]; simp
    rw [e]
    exact op_ret rfl rfl rfl (hmW.fresh HF.out) (fun j h => .inl h) hml hbl hm.nm hm.nb (HO.out.res.keep HF.out trivial) (by have := HO.out.sz; omega) ((HO.out.fresh.trans HF.out).weaken fun _ _ _ => trivial)
  | some u =>
    rw [hpf] at hlk
    go_wp2_with fail
    refine (HD.out u 1).mono ?_
    rintro e W4 ⟨rfl, f4⟩
    have HF := Lib.hid (HQ.out.trans f4)
    obtain ⟨r0, r1, r2, s0, s1, s2, rl⟩ := res_facts (HO.out.res.keep HF.out trivial)
    clear f4 HC HD HQ
    go_wp2_with fail
    obtain ⟨hm, hmW, hX⟩ := HA.out
    obtain ⟨a, ha⟩ := pfindD_some hpf
    have e : X = (⟨1, u, 1⟩, s) := by rw [hX]; unfold onKeyD; rw [ha]; simp
    rw [e]
    exact op_ret rfl rfl rfl (hmW.fresh HF.out) (fun j h => .inl h) hml hbl hm.nm hm.nb (HO.out.res.keep HF.out trivial) (by have := HO.out.sz; omega) ((HO.out.fresh.trans HF.out).weaken fun _ _ _ => trivial)

set_option maxRecDepth 20000 in
theorem fence_any (S : Nat → Prop) (m bp bl : Nat) (s : StD) (c i r : Int) (k v d : Txt) (w : World) (hm : MSt S w m bp bl s) (hk : k.length ≤ 8) (hT : Tabs w) (hv : v.length ≤ 8) :
    Calls Tryz.prog 51 #[.pointer (some ⟨m, 0, none⟩), cmdV c i r 8 k v d] w (OpPost S m bp bl (onLockD numb c 8 k v s) w) := by
  obtain ⟨X, hX⟩ : ∃ X, X = onLockD numb c 8 k v s := ⟨_, rfl⟩
  rw [← hX]
  have HO := Lib.hid (op_at w c i r 8 k v d)
  obtain ⟨G, hG⟩ : ∃ G, G = w.heap.size := ⟨_, rfl⟩
  obtain ⟨W, hW⟩ : ∃ W, W = (w.alloc (.cells #[.int .i64 c, .int .i64 i, .int .i64 r, .int .i64 8, str k, str v, str d] 27)).alloc (.cells #[.int .i64 0, str [], .int .i64 0] 36) := ⟨_, rfl⟩
  rw [← hW, ← hG] at HO
  obtain ⟨k0, k4, k5, k6, kl⟩ := HO.out.cells
  have hmW := hm.fresh HO.out.fresh
  obtain ⟨-, x1, -⟩ := hmW.three
  have hmlt := hmW.blk.lt
  have hml := hm.blk.lt
  have hbl := hm.pm.lt
  have HN := Lib.hid (fun q => number_any v (W.drewN q) (hT.fresh (HO.out.fresh.drewN q)))
  have HA := Lib.hid (And.intro hm (And.intro hmW hX))
  obtain ⟨ms, hls⟩ := hmW.lk
  have HLS := Lib.hid hls
  clear hm hmW hX hT
  cases hf : lfind k s.locks with
  | none =>
    have hlk := look_lk hls (k := k) (by omega) _ (show _ = .pointer none by rw [hls.gone hf]; rfl)
    clear hls
    go_enter Tryz.func51, Tryz.ntmps51
    go_wp2_with fail
    simp only [← hG]
    rw [← hW]
    clear hW hG
    go_quiet (fail)
    have HC := Lib.hid (fun n => code_any n (W.drewN nq))
    have HQ := Lib.hid (show Fresh W (W.drewN nq) from (Keep.refl _ W).drewN nq)
    go_wp2_with fail
    refine (HC.out _).mono ?_
    rintro e W4 ⟨rfl, f4⟩
    have HF := Lib.hid (HQ.out.trans f4)
    obtain ⟨r0, r1, r2, s0, s1, s2, rl⟩ := res_facts (HO.out.res.keep HF.out trivial)
    clear f4 HC HQ
    go_wp2_with fail
    obtain ⟨hm, hmW, hX⟩ := HA.out
    have e : X = (⟨2, [], 0⟩, s) := by rw [hX]; unfold onLockD; rw [hf]; simp
    rw [e]
    exact op_ret rfl rfl rfl (hmW.fresh HF.out) (fun j h => .inl h) hml hbl hm.nm hm.nb (HO.out.res.keep HF.out trivial) (by have := HO.out.sz; omega) ((HO.out.fresh.trans HF.out).weaken fun _ _ _ => trivial)
  | some l =>
    obtain ⟨x, hx, hxl, hxk, hxi, hxf⟩ := lk_find hls hf
    obtain ⟨-, y1, -⟩ := hxi.cells
    rw [hxl] at y1
    have hlk := look_lk hls (k := k) (by omega) _ hxf
    obtain ⟨h, hh⟩ : ∃ h, h = x.h := ⟨_, rfl⟩
    rw [← hh] at y1 hlk
    have hhl := hxi.lt
    rw [← hh] at hhl
    clear hls hx hxl hxk hxi hxf hh
    go_enter Tryz.func51, Tryz.ntmps51
    go_wp2_with fail
    simp only [← hG]
    rw [← hW]
    clear hW hG
    go_quiet (fail)
    go_wp2_with fail
    refine (HN.out _).mono ?_
    rintro e W3 ⟨rfl, f3⟩
    have f3' : Fresh W W3 := ((Keep.refl _ W).drewN nq).trans f3
    have z1 := f3'.cellAt y1 trivial
    have hhl3 : h < W3.heap.size := Nat.lt_of_lt_of_le hhl f3'.size
    have HF3 := Lib.hid f3'
    obtain ⟨r0, r1, r2, s0, s1, s2, rl⟩ := res_facts (HO.out.res.keep f3' trivial)
    have HD := Lib.hid (fun l n => done_any l n W3)
    obtain ⟨nv, hnv⟩ : ∃ z, z = (numb v).1 := ⟨_, rfl⟩
    obtain ⟨tk, htk⟩ : ∃ z, z = l.token := ⟨_, rfl⟩
    rw [← htk] at z1
    rw [← hnv]
    have HV := Lib.hid (And.intro hnv htk)
    clear hnv htk f3 f3' HN y1 x1
    by_cases hne : nv = tk
    · subst hne
      clear r0 r1 r2 s0 s1 s2 rl
      go_wp2_with fail
      refine (HD.out _ _).mono ?_
      rintro e W4 ⟨rfl, f4⟩
      have HF := Lib.hid (HF3.out.trans f4)
      obtain ⟨r0, r1, r2, s0, s1, s2, rl⟩ := res_facts (HO.out.res.keep HF.out trivial)
      clear f4 HD
      go_wp2_with fail
      obtain ⟨hm, hmW, hX⟩ := HA.out
      have e : X = (⟨1, [], nv⟩, s) := by rw [hX]; unfold onLockD; rw [hf]; simp only; rw [if_neg (by omega), if_neg (by omega), ← HV.out.1, ← HV.out.2, if_pos rfl]
      rw [e]
      exact op_ret rfl rfl rfl (hmW.fresh HF.out) (fun j h => .inl h) hml hbl hm.nm hm.nb (HO.out.res.keep HF.out trivial) (by have := HO.out.sz; omega) ((HO.out.fresh.trans HF.out).weaken fun _ _ _ => trivial)
    · go_wp2_with fail
      obtain ⟨hm, hmW, hX⟩ := HA.out
      have e : X = (⟨9, [], tk⟩, s) := by rw [hX]; unfold onLockD; rw [hf]; simp only; rw [if_neg (by omega), if_neg (by omega), ← HV.out.1, ← HV.out.2, if_neg hne]
      rw [e]
      exact op_ret rfl rfl rfl (hmW.fresh HF3.out) (fun j h => .inl h) hml hbl hm.nm hm.nb (HO.out.res.keep HF3.out trivial) (by have := HO.out.sz; omega) ((HO.out.fresh.trans HF3.out).weaken fun _ _ _ => trivial)

set_option maxRecDepth 20000 in
theorem end_any (S : Nat → Prop) (m bp bl : Nat) (s : StD) (c i r : Int) (k v d : Txt) (w : World) (hm : MSt S w m bp bl s) (hi : LInv s.locks s.tok) (hT : Tabs w) (he : 0 ≤ (numb v).1 ∧ (numb v).1 < 16) :
    Calls Tryz.prog 52 #[.pointer (some ⟨m, 0, none⟩), cmdV c i r 9 k v d] w (OpPost S m bp bl (endD numb v s) w) := by
  obtain ⟨X, hX⟩ : ∃ X, X = endD numb v s := ⟨_, rfl⟩
  rw [← hX]
  have HO := Lib.hid (op_at w c i r 9 k v d)
  obtain ⟨G, hG⟩ : ∃ G, G = w.heap.size := ⟨_, rfl⟩
  obtain ⟨W, hW⟩ : ∃ W, W = (w.alloc (.cells #[.int .i64 c, .int .i64 i, .int .i64 r, .int .i64 9, str k, str v, str d] 27)).alloc (.cells #[.int .i64 0, str [], .int .i64 0] 36) := ⟨_, rfl⟩
  rw [← hW, ← hG] at HO
  obtain ⟨k0, k4, k5, k6, kl⟩ := HO.out.cells
  have hmW := hm.fresh HO.out.fresh
  have hmlt := hmW.blk.lt
  have hml := hm.blk.lt
  have hbl := hm.pm.lt
  have HN := Lib.hid (number_any v W (hT.fresh HO.out.fresh))
  obtain ⟨q, hq⟩ : ∃ q : Nat, q = (numb v).1.toNat := ⟨_, rfl⟩
  have hq16 : q < 16 := by omega
  have hqi : (numb v).1 = (q : Int) := by omega
  rw [hqi] at HN
  have hqs : q < s.ss.length := by rw [hm.len]; exact hq16
  have hc1 : W.cell? ⟨m, 3 + q * 5, none⟩ = some (.int .i64 (s.ss.getD q noSes).inc) := by
    rw [hmW.cell]
    have := mcell_sess (bp := bp) (bl := bl) (tok := s.tok) (ss := s.ss) hqs (j := 0) (by omega)
    rw [Nat.add_zero] at this
    rw [this, List.getD_eq_getElem?_getD, List.getElem?_eq_getElem hqs]
    rfl
  obtain ⟨zi, hzi⟩ : ∃ z, z = (s.ss.getD q noSes).inc := ⟨_, rfl⟩
  rw [← hzi] at hc1
  have HA := Lib.hid (And.intro hm (And.intro hmW (And.intro hX (And.intro hi (And.intro hqi hzi)))))
  have hqi16 : (q : Int) < 16 := by omega
  clear hm hmW hX hT hi hq he hqi hzi hqs
  go_enter Tryz.func52, Tryz.ntmps52
  go_wp2_with fail
  simp only [← hG]
  rw [← hW]
  clear hW hG
  refine HN.out.mono ?_
  rintro e W3 ⟨rfl, f3⟩
  have z1 := f3.cellAt hc1 trivial
  have hml3 : m < W3.heap.size := Nat.lt_of_lt_of_le hmlt f3.size
  have HF3 := Lib.hid f3
  have HC := Lib.hid (fun n => code_any n W3)
  have HL := Lib.hid (lets_any (fun j => S j ∧ j < w.heap.size) m bp bl s (q : Int) W3 ((HA.out.1.tight.fresh HO.out.fresh).fresh f3) HA.out.2.2.2.1)
  clear f3 HN hc1
  by_cases h0 : zi = 0
  · subst h0
    go_wp2_with fail
    refine (HC.out _).mono ?_
    rintro e W4 ⟨rfl, f4⟩
    have HF := Lib.hid (HF3.out.trans f4)
    obtain ⟨r0, r1, r2, s0, s1, s2, rl⟩ := res_facts (HO.out.res.keep HF.out trivial)
    clear f4 HC HL
    go_wp2_with fail
    obtain ⟨hm, hmW, hX, hi, hqi, hzi⟩ := HA.out
    have e : X = (⟨2, [], 0⟩, s) := by rw [hX]; unfold endD; rw [hqi, show ((q : Int)).toNat = q by omega, ← hzi, if_pos rfl]
    rw [e]
    exact op_ret rfl rfl rfl (hmW.fresh HF.out) (fun j h => .inl h) hml hbl hm.nm hm.nb (HO.out.res.keep HF.out trivial) (by have := HO.out.sz; omega) ((HO.out.fresh.trans HF.out).weaken fun _ _ _ => trivial)
  · go_wp2_with fail
    refine HL.out.mono ?_
    rintro e W4 ⟨rfl, hm4, hk4⟩
    have HM4 := Lib.hid (And.intro hm4 hk4)
    have HD := Lib.hid (fun l n => done_any l n W4)
    clear hm4 hk4 HC HL
    go_wp2_with fail
    refine (HD.out _ _).mono ?_
    rintro e W5 ⟨rfl, f5⟩
    have hb5 : Blk W5 (G + 1) 36 (resA ⟨0, [], 0⟩) := ((HO.out.res.keep HF3.out trivial).keep HM4.out.2 (by
      have hsz := HO.out.sz
      exact ⟨by omega, fun h => by have := h.2; omega⟩)).keep f5 trivial
    obtain ⟨r0, r1, r2, s0, s1, s2, rl⟩ := res_facts hb5
    have H5 := Lib.hid (And.intro hb5 f5)
    clear f5 HD hb5
    go_wp2_with fail
    obtain ⟨hm, hmW, hX, hi, hqi, hzi⟩ := HA.out
    have e : X = (⟨1, [], (letsD (q : Int) s).1⟩, (letsD (q : Int) s).2) := by rw [hX]; unfold endD; rw [hqi, show ((q : Int)).toNat = q by omega, ← hzi, if_neg h0]
    rw [e]
    have hsz := HO.out.sz
    exact op_ret rfl rfl rfl (HM4.out.1.fresh H5.out.2) (fun j h => h.elim (fun h => .inl h.1) fun h => .inr (by have := HF3.out.size; have := HO.out.fresh.size; omega)) hml hbl hm.nm hm.nb H5.out.1 (by omega) (((HO.out.fresh.trans HF3.out).comp HM4.out.2 (fun _ _ _ => trivial) (fun _ _ h => ⟨h.1, fun e => h.2.2 e.1⟩)).comp H5.out.2 (fun _ _ h => h) (fun _ _ _ => trivial))
end Go.Proofs.YtggibajakcigaaaGreatDoor
namespace Go.Proofs.YtggibajakcigaaaGreatDoor
set_option linter.unusedVariables false
set_option linter.unusedSimpArgs false
open Go.RowKit

def nibInts : List Int := [0, 498536548, 997073096, 651767980, 1994146192, 1802195444, 1303535960, 1342533948, 3988292384, 4027552580, 3604390888, 3412177804, 2607071920, 2262029012, 2685067896, 3183342108]
/-- What the table of half bytes holds. -/
def Nib (w : World) : Prop := Lib.TabIs Tryz.prog w "quorate/wire.nibble" .u32 nibInts
theorem gNib : Tryz.prog.globalNamed "quorate/wire.nibble" = some 0 := by kernel_rfl
theorem nib_lt_heap {w : World} (h : Nib w) : 0 < w.heap.size := by
  rcases Nat.lt_or_ge 0 w.heap.size with hlt | hge
  · exact hlt
  · have h1 := h.cell gNib 0 (by decide)
    simp [World.cell?, Array.getElem?_eq_none hge] at h1
theorem nib_val (r : Nat) (hr : r < 16) : nibInts.getD r 0 = ((nibTab.getD r 0 : Nat) : Int) := by
  have : ∀ r, r < 16 → nibInts.getD r 0 = ((nibTab.getD r 0 : Nat) : Int) := by decide
  exact this r hr
theorem nibTab_lt (r : Nat) (hr : r < 16) : nibTab.getD r 0 < 4294967296 := by
  have : ∀ r, r < 16 → nibTab.getD r 0 < 4294967296 := by decide
  exact this r hr
theorem nibStep_lt {w : Nat} (h : w < 4294967296) : nibStep w < 4294967296 := xor_lt32 (by omega) (nibTab_lt _ (by omega))
theorem crc_take (bs : List UInt8) (k : Nat) (hk : k < bs.length) : crcAt (bs.take (k + 1)) = nibStep (nibStep (crcAt (bs.take k) ^^^ bs[k].toNat)) := by
  rw [← List.take_append_getElem hk, crcAt_snoc, nib_two]

set_option maxRecDepth 20000 in
theorem sum_any (Z : Nat → Prop) (A : Option Addr) (n c : Nat) (bs : List UInt8) (w : World) (hb : Rd w Z 1 A n (Lib.byteCells bs)) (hn : n ≤ 1099511627770) (hT : Nib w) :
    Calls Tryz.prog 37 #[.slice A n c] w fun e w' => e = .returned (.int .i64 (crcB bs : Int)) ∧ w = w' := by
  have HB := Lib.hid hb
  have hlen : bs.length = n := by simpa [Lib.byteCells] using hb.1
  have HN := Lib.hid hlen
  have HT := Lib.hid (fun (r : Nat) (hr : r < 16) => (show w.cell? ⟨0, r, none⟩ = some (.int .u32 ((nibTab.getD r 0 : Nat) : Int)) by rw [← nib_val r hr]; exact hT.cell gNib r hr))
  have hgl := nib_lt_heap hT
  clear hb hlen hT
  go_enter Tryz.func37, Tryz.ntmps37
  go_wp2
  go_loop [3, 8] (fun v i => ∃ (k : Nat) (y : Int), k ≤ n ∧ i = .int .i64 (k : Int) ∧ v = .int .u32 y ∧ Hid (y = (crcAt (bs.take k) : Int))) (fun _ i => ((n : Int) - intOf i).toNat)
  case atStart => exact ⟨0, 4294967295, by omega, rfl, rfl, rfl⟩
  case round =>
    obtain ⟨k, y, hk, rfl, rfl, HR⟩ := hrel
    by_cases hin : k < n
    · obtain ⟨b, o, rfl, hzb, hll, hcell⟩ := HB.out.at1 hin
      have hkb : k < bs.length := by rw [HN.out]; exact hin
      rw [show (Lib.byteCells bs)[k] = .int .u8 (bs[k].toNat : Int) by simp [Lib.byteCells]] at hcell
      obtain ⟨x, hx⟩ : ∃ x : Nat, x = crcAt (bs.take k) := ⟨_, rfl⟩
      have hx32 : x < 4294967296 := hx ▸ crcAt_lt _
      obtain ⟨ch, hch⟩ : ∃ ch : Nat, ch = bs[k].toNat := ⟨_, rfl⟩
      have hc : ch < 256 := hch ▸ bs[k].toNat_lt
      rw [← hch] at hcell
      have hE := crc_take bs k hkb
      rw [← hx, ← hch] at hE
      obtain rfl : y = (x : Int) := by rw [HR.out, hx]
      have HH := Lib.hid hE
      clear hE hx hch HR hzb hll
      go_upto_region 6 with (fail)
      rw [u32_xor_nat x ch hx32 (by omega)]
      obtain ⟨y1, hy1⟩ : ∃ y1, y1 = x ^^^ ch := ⟨_, rfl⟩
      have hy32 : y1 < 4294967296 := hy1 ▸ xor_lt32 hx32 (by omega)
      rw [← hy1] at HH ⊢
      obtain ⟨g1, hg1⟩ : ∃ g1 : Int, g1 = bits BinOp.and IntKind.u32 (y1 : Int) 15 := ⟨_, rfl⟩
      obtain ⟨t1, ht1⟩ : ∃ t1 : Nat, t1 = nibTab.getD (y1 % 16) 0 := ⟨_, rfl⟩
      have t32 : t1 < 4294967296 := ht1 ▸ nibTab_lt _ (by omega)
      have e1 : g1 = ((y1 % 16 : Nat) : Int) := by rw [hg1, show (15 : Int) = ((15 : Nat) : Int) from rfl, u32_and_nat y1 15 hy32 (by omega), nat_mask4]
      have c1 : w.cell? ⟨0, g1.toNat, none⟩ = some (.int .u32 (t1 : Int)) := by rw [e1, ht1]; exact HT.out (y1 % 16) (by omega)
      have r1 : 0 ≤ g1 := by omega
      have r2 : g1 < 16 := by omega
      have E1 := Lib.hid hg1
      obtain ⟨y2, hy2⟩ : ∃ y2, y2 = nibStep y1 := ⟨_, rfl⟩
      have y32 : y2 < 4294967296 := hy2 ▸ nibStep_lt hy32
      have X1 : bits BinOp.xor IntKind.u32 ((y1 : Int) / 16) (t1 : Int) = (y2 : Int) := by
        rw [show (y1 : Int) / 16 = ((y1 / 16 : Nat) : Int) by omega, u32_xor_nat (y1 / 16) t1 (by omega) t32, hy2, ht1]
        rfl
      rw [← hy2] at HH
      have HX := Lib.hid X1
      clear e1 hg1 hx32 hc hy1 ht1 t32 hy32 hy2 X1
      go_upto_region 7 with (first | simp only [← E1.out] | fail)
      rw [HX.out]
      clear c1 r1 r2 E1 HX
      obtain ⟨g2, hg2⟩ : ∃ g2 : Int, g2 = bits BinOp.and IntKind.u32 (y2 : Int) 15 := ⟨_, rfl⟩
      obtain ⟨t2, ht2⟩ : ∃ t2 : Nat, t2 = nibTab.getD (y2 % 16) 0 := ⟨_, rfl⟩
      have t32 : t2 < 4294967296 := ht2 ▸ nibTab_lt _ (by omega)
      have e2 : g2 = ((y2 % 16 : Nat) : Int) := by rw [hg2, show (15 : Int) = ((15 : Nat) : Int) from rfl, u32_and_nat y2 15 y32 (by omega), nat_mask4]
      have c2 : w.cell? ⟨0, g2.toNat, none⟩ = some (.int .u32 (t2 : Int)) := by rw [e2, ht2]; exact HT.out (y2 % 16) (by omega)
      have r1 : 0 ≤ g2 := by omega
      have r2 : g2 < 16 := by omega
      have E2 := Lib.hid hg2
      obtain ⟨y3, hy3⟩ : ∃ y3, y3 = nibStep y2 := ⟨_, rfl⟩
      have X2 : bits BinOp.xor IntKind.u32 ((y2 : Int) / 16) (t2 : Int) = (y3 : Int) := by
        rw [show (y2 : Int) / 16 = ((y2 / 16 : Nat) : Int) by omega, u32_xor_nat (y2 / 16) t2 (by omega) t32, hy3, ht2]
        rfl
      rw [← hy3] at HH
      have HX := Lib.hid X2
      clear e2 hg2 ht2 t32 y32 hy3 X2
      go_upto_region 8 with (first | simp only [← E2.out] | fail)
      rw [HX.out]
      go_wp2
      exact ⟨⟨k + 1, y3, by omega, by simp, rfl, congrArg (fun z : Nat => (z : Int)) HH.out.symm⟩, by simp [intOf]; omega⟩
    · have hE : crcAt (bs.take k) = crcAt bs := by rw [List.take_of_length_le (by have := HN.out; omega)]
      obtain ⟨x, hx⟩ : ∃ x : Nat, x = crcAt bs := ⟨_, rfl⟩
      have hx32 : x < 4294967296 := hx ▸ crcAt_lt _
      obtain rfl : y = (x : Int) := by rw [HR.out, hE, hx]
      have HC := Lib.hid (show crcB bs = x ^^^ 4294967295 by rw [hx]; rfl)
      clear hE HR hx
      have hX : wrap64 (bits BinOp.xor IntKind.u32 IntKind.u32.max (x : Int)) = (crcB bs : Int) := by
        have h1 : bits BinOp.xor IntKind.u32 IntKind.u32.max (x : Int) = ((4294967295 ^^^ x : Nat) : Int) := u32_xor_nat 4294967295 x (by omega) hx32
        have h2 := crcB_lt bs
        rw [h1, Nat.xor_comm, ← HC.out]
        simp only [wrap64]
        omega
      have HX := Lib.hid hX
      clear hX
      go_wp2
      go_ret
      exact ⟨by rw [← HX.out]; rfl, rfl⟩
end Go.Proofs.YtggibajakcigaaaGreatDoor
namespace Go.Proofs.YtggibajakcigaaaGreatDoor
set_option linter.unusedVariables false
set_option linter.unusedSimpArgs false
open Go.RowKit
/-- Block g is a writer that holds the bytes bs, in a row of the call's own, from block B on. -/
def Wr (w : World) (B g : Nat) (v : Value) (bs : List UInt8) : Prop := Blk w g 91 #[v] ∧ w.ownsRow B 5 1 v bs.length (Lib.byteCells bs)

set_option maxHeartbeats 400000 in
theorem counts_any (B g : Nat) (v : Value) (bs : List UInt8) (Z : Nat → Prop) (A : Option Addr) (m c : Nat) (xs : List Int) (w : World) (hw : Wr w B g v bs) (hx : okInts xs) (hl : Rd w Z 1 A m (ics xs)) (hz : ∀ k, Z k → k ≠ g ∧ v.ownBlock ≠ some k ∧ k < w.heap.size) (hB : B ≤ w.heap.size) (hn : bs.length + 9 * m ≤ 1099511627770) :
    Calls Tryz.prog 34 #[.pointer (some ⟨g, 0, none⟩), .slice A m c] w fun e w' => e = .returned (.tuple #[]) ∧ ∃ v', Wr w' B g v' (bs ++ encs xs) ∧ Keep (fun k => k ≠ g ∧ v.ownBlock ≠ some k) w w' ∧ Next w.heap.size v v' := by
  have hlen : xs.length = m := by simpa [ics] using hl.1
  subst hlen
  have HA := Lib.hid (And.intro hw (And.intro hx (And.intro hl hz)))
  clear hw hx hl hz
  go_enter Tryz.func34, Tryz.ntmps34
  go_wp2
  go_loopw [8] (fun i wr => ∃ (k : Nat) (vr : Value) (cs : List UInt8), k ≤ xs.length ∧ i = .int .i64 (k : Int) ∧ Hid (cs = bs ++ encs (xs.take k) ∧ Wr wr B g vr cs ∧ Keep (fun k => k ≠ g ∧ v.ownBlock ≠ some k) w wr ∧ Next w.heap.size v vr)) (fun i _ => xs.length - (intOf i).toNat)
  case atStart => exact ⟨0, v, bs, Nat.zero_le _, rfl, by simp [encs], HA.out.1, Keep.refl _ _, Next.refl _ _⟩
  case round =>
    obtain ⟨k, vr, cs, hk, rfl, HW⟩ := hrel
    by_cases hlt : k < xs.length
    · obtain ⟨hw0, hx, hl, hz⟩ := HA.out
      obtain ⟨hcs, ⟨hblk, hown⟩, hkk, hnn⟩ := HW.out
      have hlr := hl.keep (hkk.weaken (fun i _ hi => ⟨(hz i hi).1, (hz i hi).2.1⟩))
      obtain ⟨b, o, rfl, hzb, hll, hcell⟩ := hlr.at1 hlt
      have hxk := hx xs[k] (List.getElem_mem hlt)
      rw [show (ics xs)[k] = .int .i64 xs[k] by simp [ics]] at hcell
      have hvc := hblk.cell 0
      have hfr := hblk.frozen 0
      simp at hvc
      have hgl := hblk.lt
      have hbl := encs_take_len xs k hx
      have hln : cs.length ≤ 1099511627770 := by rw [hcs, List.length_append]; omega
      have hcs' : cs ++ putB xs[k].toNat = bs ++ encs (xs.take (k + 1)) := by rw [hcs, encs_take _ _ hlt, List.append_assoc]
      obtain ⟨A', c', rfl, hrd, _⟩ := own_rd hown
      have HX := Lib.hid (And.intro hxk (And.intro hown (And.intro hblk (And.intro hrd (And.intro hkk (And.intro hnn (And.intro hcs' hln)))))))
      clear hxk hown hblk hrd hl hlr hz hzb hll hbl hw0 hkk hnn hx HW hcs hcs' hln
      go_wp2_with fail
      refine (PutInt_any _ A' cs.length c' cs xs[k] _ HX.out.1.1 HX.out.1.2 HX.out.2.2.2.1 HX.out.2.2.2.2.2.2.2).mono ?_
      rintro e w1 ⟨g1, c1, rfl, ho1, hk1, hg1⟩
      obtain ⟨v1, hv1⟩ : ∃ v1, v1 = Value.slice (some ⟨g1, 0, none⟩) (cs.length + (putB xs[k].toNat).length) c1 := ⟨_, rfl⟩
      obtain ⟨-, hown, hblk, -, hkk, hnn, hcs', -⟩ := HX.out
      have hblk1 := hblk.keep hk1 trivial
      have hc1 := hblk1.cell 0
      have hf1 := hblk1.frozen 0
      simp at hc1
      rw [← hv1] at ho1
      have hw1 : Wr (w1.setCell ⟨g, 0, none⟩ v1) B g v1 (bs ++ encs (xs.take (k + 1))) := by
        refine ⟨by simpa using hblk1.set 0 v1, ?_⟩
        rw [← hcs', List.length_append]
        refine own_far (own_base ho1 (Nat.le_trans hB hkk.size)) ?_ v1
        rw [hv1]
        simp [Value.ownBlock]
        omega
      have hkk1 : Keep (fun k => k ≠ g ∧ v.ownBlock ≠ some k) w (w1.setCell ⟨g, 0, none⟩ v1) := (hkk.comp hk1 (fun _ _ h => h) (fun _ _ _ => trivial)).setCell (fun _ h => h.1 rfl) v1
      have hnn1 : Next w.heap.size v v1 := by
        exact .inr ⟨g1, by rw [hv1]; rfl, by have := hkk.size; omega⟩
      have HY := Lib.hid (And.intro hw1 (And.intro hkk1 hnn1))
      subst hv1
      clear hw1 hkk1 hnn1 ho1 hk1 hg1 hown hblk hblk1 hkk hnn hcs' HX
      go_wp2
      exact ⟨⟨k + 1, _, _, by omega, congrArg _ (by omega), rfl, HY.out⟩, by simp [intOf]; omega⟩
    · go_wp2
      go_end0
      obtain rfl : k = xs.length := by omega
      obtain ⟨hcs, h1, h2⟩ := HW.out
      rw [List.take_length] at hcs
      subst hcs
      exact ⟨rfl, vr, h1, h2⟩

def scs (ss : List ByteArray) : List Value := ss.map Value.string
def txts (ss : List ByteArray) : List UInt8 := ss.flatMap fun s => txt s.data.toList
def okTxts (ss : List ByteArray) : Prop := ∀ s ∈ ss, s.size ≤ 1048576
theorem txts_take (ss : List ByteArray) (k : Nat) (h : k < ss.length) : txts (ss.take (k + 1)) = txts (ss.take k) ++ txt ss[k].data.toList := by
  rw [List.take_succ_eq_append_getElem h, txts, List.flatMap_append]
  simp [txts]
theorem txt_len (s : ByteArray) (h : s.size ≤ 1048576) : (txt s.data.toList).length ≤ 1048585 := by
  have h1 : s.data.toList.length = s.size := Array.length_toList
  have h2 := putB_len9 (v := s.size) (by omega)
  simp only [txt, List.length_append, h1]
  omega
theorem txts_len (ss : List ByteArray) (h : okTxts ss) : (txts ss).length ≤ 1048585 * ss.length := by
  induction ss with
  | nil => simp [txts]
  | cons s ss ih =>
    have h1 := txt_len s (h s (by simp))
    have h2 := ih (fun y hy => h y (by simp [hy]))
    have e : txts (s :: ss) = txt s.data.toList ++ txts ss := rfl
    rw [e, List.length_append, List.length_cons]
    omega
theorem txts_take_len (ss : List ByteArray) (k : Nat) (h : okTxts ss) : (txts (ss.take k)).length ≤ 1048585 * ss.length := by
  have h1 := txts_len (ss.take k) (fun y hy => h y (List.mem_of_mem_take hy))
  have h2 : (ss.take k).length ≤ ss.length := List.length_take_le' _ _
  omega

set_option maxHeartbeats 400000 in
theorem texts_any (B g : Nat) (v : Value) (bs : List UInt8) (Z : Nat → Prop) (A : Option Addr) (m c : Nat) (ss : List ByteArray) (w : World) (hw : Wr w B g v bs) (hx : okTxts ss) (hl : Rd w Z 1 A m (scs ss)) (hz : ∀ k, Z k → k ≠ g ∧ v.ownBlock ≠ some k ∧ k < w.heap.size) (hB : B ≤ w.heap.size) (hn : bs.length + 1048585 * m ≤ 1099510000000) :
    Calls Tryz.prog 35 #[.pointer (some ⟨g, 0, none⟩), .slice A m c] w fun e w' => e = .returned (.tuple #[]) ∧ ∃ v', Wr w' B g v' (bs ++ txts ss) ∧ Keep (fun k => k ≠ g ∧ v.ownBlock ≠ some k) w w' ∧ Next w.heap.size v v' := by
  have hlen : ss.length = m := by simpa [scs] using hl.1
  subst hlen
  have HA := Lib.hid (And.intro hw (And.intro hx (And.intro hl hz)))
  clear hw hx hl hz
  go_enter Tryz.func35, Tryz.ntmps35
  go_wp2
  go_loopw [8] (fun i wr => ∃ (k : Nat) (vr : Value) (cs : List UInt8), k ≤ ss.length ∧ i = .int .i64 (k : Int) ∧ Hid (cs = bs ++ txts (ss.take k) ∧ Wr wr B g vr cs ∧ Keep (fun k => k ≠ g ∧ v.ownBlock ≠ some k) w wr ∧ Next w.heap.size v vr)) (fun i _ => ss.length - (intOf i).toNat)
  case atStart => exact ⟨0, v, bs, Nat.zero_le _, rfl, by simp [txts], HA.out.1, Keep.refl _ _, Next.refl _ _⟩
  case round =>
    obtain ⟨k, vr, cs, hk, rfl, HW⟩ := hrel
    by_cases hlt : k < ss.length
    · obtain ⟨hw0, hx, hl, hz⟩ := HA.out
      obtain ⟨hcs, hwr, hkk, hnn⟩ := HW.out
      have hlr := hl.keep (hkk.weaken (fun i _ hi => ⟨(hz i hi).1, (hz i hi).2.1⟩))
      obtain ⟨b, o, rfl, hzb, hll, hcell⟩ := hlr.at1 hlt
      have hxk := hx ss[k] (List.getElem_mem hlt)
      rw [show (scs ss)[k] = .string ss[k] by simp [scs]] at hcell
      have hbl := txts_take_len ss k hx
      have hln : cs.length ≤ 1099510000000 := by rw [hcs, List.length_append]; omega
      have hcs' : cs ++ txt ss[k].data.toList = bs ++ txts (ss.take (k + 1)) := by rw [hcs, txts_take _ _ hlt, List.append_assoc]
      have hi64 : (0 : Int) ≤ (ss[k].size : Int) ∧ (ss[k].size : Int) ≤ 4611686018427387904 := by omega
      have HX := Lib.hid (And.intro hxk (And.intro hwr (And.intro hkk (And.intro hnn (And.intro hcs' (And.intro hln hi64))))))
      clear hxk hwr hl hlr hz hzb hll hbl hw0 hkk hnn hx HW hcs hcs' hln hi64
      go_wp2_with fail
      obtain ⟨hxk, hwr, hkk, hnn, hcs', hln, hi64⟩ := HX.out
      have hgl := hwr.1.lt
      have hne1 : vr.ownBlock ≠ some wr.heap.size := fun h => by have := (own_lt hwr.2 h).2; omega
      have hwr1 : Wr (wr.alloc (.cells #[.int .i64 (ss[k].size : Int)] 3)) B g vr cs := ⟨hwr.1.alloc _, hwr.2.alloc _⟩
      refine (counts_any B g vr cs (fun i => i = wr.heap.size) _ 1 1 [(ss[k].size : Int)] _ hwr1 (by simpa [okInts] using hi64) (Rd.own1 _ _ _) (fun i hi => ⟨by omega, by rw [hi]; exact hne1, by simp; omega⟩) (by have := hkk.size; simp; omega) (by omega)).mono ?_
      obtain ⟨ds, hds⟩ : ∃ ds, ds = cs ++ encs [(ss[k].size : Int)] := ⟨_, rfl⟩
      rw [← hds]
      rintro e w1 ⟨rfl, v1, ⟨hb1, ho1⟩, hk1, hn1⟩
      have hk1' : Keep (fun k => k ≠ g ∧ vr.ownBlock ≠ some k) wr w1 := ((Keep.refl _ wr).alloc _).comp hk1 (fun _ _ h => h) (fun _ _ h => h)
      have hkk1 : Keep (fun k => k ≠ g ∧ v.ownBlock ≠ some k) w w1 := hkk.comp hk1' (fun _ _ h => h) (fun i hi h => ⟨h.1, fun e => by
        rcases hnn with hnn | ⟨g', hg', hl'⟩
        · exact h.2 (hnn.symm.trans e)
        · rw [hg'] at e; injection e with e; omega⟩)
      have hn1' : Next w.heap.size v v1 := hnn.trans hn1 (by have := hkk.size; simp; omega)
      have hne2 := own_ne_blk ho1 hb1 (by decide)
      obtain ⟨A1, c1, rfl, _, _⟩ := own_rd ho1
      have hc1 := hb1.cell 0
      have hf1 := hb1.frozen 0
      have hg1 := hb1.lt
      simp at hc1
      have HY := Lib.hid (And.intro hkk1 (And.intro hn1' (And.intro hb1 (And.intro ho1 hne2))))
      have hsz : (txt ss[k].data.toList).length ≤ 1048585 := txt_len _ hxk
      have htx : encs [(ss[k].size : Int)] ++ ss[k].data.toList = txt ss[k].data.toList := by
        simp only [encs, txt, List.flatMap_cons, List.flatMap_nil, List.append_nil, Int.toNat_natCast]
        rfl
      have hencl : (encs [(ss[k].size : Int)]).length ≤ 9 := encs_len [(ss[k].size : Int)] (by simpa [okInts] using hi64)
      have hdl : ds.length ≤ 1099510000009 := by rw [hds, List.length_append]; omega
      have hsum : ds.length + ss[k].size ≤ 140737488355328 := by omega
      have hfin : ds ++ ss[k].data.toList = bs ++ txts (ss.take (k + 1)) := by rw [hds, List.append_assoc, htx, hcs']
      have HZ := Lib.hid (And.intro hsum hfin)
      have HB2 : Hid (B ≤ w1.heap.size) := Nat.le_trans hB hkk1.size
      clear hxk hwr hkk hnn hcs' hln hi64 hgl hne1 hwr1 hk1 hn1 hk1' hkk1 hn1' hb1 ho1 hne2 hsz htx hencl hdl hsum hfin hds HX
      go_wp2_with (at_builtin; refine wpList_app_str etU8 Tryz.underlying9 rfl (.tmp 21) (.tmp 22) rfl B _ _ _ rfl HY.out.2.2.2.1 _ rfl HZ.out.1 HB2 ?_)
      intro v2 w2 ho2 hk2 hn2
      obtain ⟨hkk1, hn1', hb1, ho1, hne2⟩ := HY.out
      obtain ⟨A2, c2, rfl, _, _⟩ := own_rd ho2
      have hb2 := hb1.keep hk2 hne2
      have hc2 := hb2.cell 0
      have hf2 := hb2.frozen 0
      simp at hc2
      have hne3 := own_ne_blk ho2 hb2 (by decide)
      have hw2 : Wr (w2.setCell ⟨g, 0, none⟩ (.slice A2 (ds.length + ss[k].size) c2)) B g (.slice A2 (ds.length + ss[k].size) c2) (bs ++ txts (ss.take (k + 1))) := by
        refine ⟨by simpa using hb2.set 0 _, ?_⟩
        have e1 : ds ++ ss[k].data.toList = bs ++ txts (ss.take (k + 1)) := HZ.out.2
        have e2 : (bs ++ txts (ss.take (k + 1))).length = ds.length + ss[k].size := by rw [← e1, List.length_append]; rfl
        rw [e2, ← e1, Lib.byteCells_append]
        exact own_far ho2 hne3 _
      have hkk2 : Keep (fun k => k ≠ g ∧ v.ownBlock ≠ some k) w (w2.setCell ⟨g, 0, none⟩ (.slice A2 (ds.length + ss[k].size) c2)) :=
        (hkk1.comp hk2 (fun _ _ h => h) (fun i hi h e => by
          rcases hn1' with hnn | ⟨g', hg', hl'⟩
          · exact h.2 (hnn.symm.trans e)
          · rw [hg'] at e; injection e with e; omega)).setCell (fun _ h => h.1 rfl) _
      have hnn2 := hn1'.trans hn2 hkk1.size
      have HW := Lib.hid (And.intro hw2 (And.intro hkk2 hnn2))
      clear hkk1 hn1' hb1 ho1 hne2 hb2 hne3 hw2 hkk2 hnn2 hk2 hn2 ho2 HY HZ HB2
      go_wp2
      exact ⟨⟨k + 1, _, _, by omega, congrArg _ (by omega), rfl, HW.out⟩, by simp [intOf]; omega⟩
    · go_wp2
      go_end0
      obtain rfl : k = ss.length := by omega
      obtain ⟨hcs, h1, h2⟩ := HW.out
      rw [List.take_length] at hcs
      subst hcs
      exact ⟨rfl, vr, h1, h2⟩
end Go.Proofs.YtggibajakcigaaaGreatDoor
