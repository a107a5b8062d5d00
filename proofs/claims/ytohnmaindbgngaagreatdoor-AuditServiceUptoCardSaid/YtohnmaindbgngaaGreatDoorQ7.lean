/-
  MERGED: Lets Sess Ops
-/
import Derived.Test.YtohnmaindbgngaaGreatDoorQ6
import Derived.Test.YtohnmaindbgngaaGreatDoorQ4
namespace Go.Proofs.YtohnmaindbgngaaGreatDoor
set_option linter.unusedVariables false
set_option linter.unusedSimpArgs false
open Go.RowKit

/-! ### plain -/
def halfL (c : Int) (todo : List Txt) (l : LockD) : LockD := if l.name ∈ todo then l else leaveL c l
theorem half_name (c : Int) (todo : List Txt) (l : LockD) : (halfL c todo l).name = l.name := by unfold halfL; split <;> rfl
theorem half_all (c : Int) (ls : List LockD) : ls.map (halfL c (ls.map LockD.name)) = ls := by
  have : ∀ l ∈ ls, halfL c (ls.map LockD.name) l = l := fun l hl => if_pos (List.mem_map.2 ⟨l, hl, rfl⟩)
  rw [List.map_congr_left this, List.map_id']
theorem half_none (c : Int) (ls : List LockD) : ls.map (halfL c []) = ls.map (leaveL c) := List.map_congr_left fun l _ => if_neg (by simp)
theorem half_step {c : Int} {ls : List LockD} {todo : List Txt} {t : Txt} {d : LockD} (hr : Rise (ls.map LockD.name)) (ht : t ∈ todo) (hd : d ∈ ls.map (halfL c todo)) (hn : d.name = t) :
    d ∈ ls ∧ setK LockD.name (leaveL c d) (ls.map (halfL c todo)) = ls.map (halfL c (todo.filter fun x => !(x == t))) := by
  obtain ⟨l0, h0, rfl⟩ := List.mem_map.1 hd
  have hn0 : l0.name = t := by rw [← hn, half_name]
  have e0 : halfL c todo l0 = l0 := if_pos (by rw [hn0]; exact ht)
  rw [e0]
  refine ⟨h0, ?_⟩
  unfold setK
  rw [List.map_map]
  refine List.map_congr_left fun l hl => ?_
  simp only [Function.comp]
  have e1 : (leaveL c l0).name = t := hn0
  rw [e1, half_name]
  by_cases h : l.name = t
  · have h2 := findK_of (key := LockD.name) hr h0 hn0
    have h3 := findK_of (key := LockD.name) hr hl h
    rw [h2] at h3
    injection h3 with h3
    subst h3
    rw [if_pos (by simpa using h)]
    unfold halfL
    rw [if_neg (by simp [h])]
  · rw [if_neg (by simpa using h)]
    unfold halfL
    simp [h]
def heldB (c : Int) (s : StD) (k : Txt) : Bool := match lfind k s.locks with
  | some l => l.holder == c
  | none => false
theorem held_all {c : Int} {ls : List LockD} {s : StD} (hr : Rise (ls.map LockD.name)) (hs : s.locks = ls.map (leaveL c)) : (ls.map LockD.name).filter (heldB c s) = heldBy c ls := by
  unfold heldBy
  rw [List.filter_map]
  congr 1
  refine List.filter_congr fun l hl => ?_
  simp only [Function.comp]
  unfold heldB
  rw [hs]
  have e : lfind l.name (ls.map (leaveL c)) = some (leaveL c l) := by
    show findK _ _ _ = _
    have h1 : findK LockD.name l.name ls = some l := findK_of hr hl rfl
    unfold findK at h1 ⊢
    rw [List.find?_map]
    have h2 : ((fun x : LockD => x.name == l.name) ∘ leaveL c) = fun x => x.name == l.name := rfl
    rw [h2, h1]
    rfl
  rw [e]
  rfl
theorem passAll_other {k : Txt} : ∀ (ns : List Txt) (s : StD), k ∉ ns → lfind k (passAll ns s).locks = lfind k s.locks
  | [], s, _ => rfl
  | a :: r, s, h => by
    have e : passAll (a :: r) s = passAll r (passD a s).2 := rfl
    rw [e, passAll_other r _ (fun h2 => h (by simp [h2])), pass_other (fun h2 => h (by simp [h2]))]
theorem passAll_snoc (ns : List Txt) (k : Txt) (s : StD) : passAll (ns ++ [k]) s = (passD k (passAll ns s)).2 := by
  unfold passAll
  rw [List.foldl_append]
  rfl
/-- Behind k of the names. -/
def heldTo (c : Int) (s : StD) (ns : List Txt) (k : Nat) : List Txt := (ns.take k).filter (heldB c s)
theorem heldTo_succ (c : Int) (s : StD) (ns : List Txt) (k : Nat) (hk : k < ns.length) : heldTo c s ns (k + 1) = heldTo c s ns k ++ (if heldB c s ns[k] = true then [ns[k]] else []) := by
  unfold heldTo
  rw [← List.take_append_getElem hk, List.filter_append]
  congr 1
  cases h : heldB c s ns[k] <;> simp [List.filter, h]
theorem heldTo_not {c : Int} {s : StD} {ns : List Txt} {k : Nat} (hn : ns.Nodup) (hk : k < ns.length) : ns[k] ∉ heldTo c s ns k := by
  intro h
  have h1 := (List.mem_filter.1 h).1
  have h2 : (ns.take k ++ [ns[k]]).Nodup := by
    rw [List.take_append_getElem hk]
    exact hn.sublist (List.take_sublist _ _)
  exact (List.nodup_append.1 h2).2.2 _ h1 _ (by simp) rfl
theorem heldTo_len (c : Int) (s : StD) (ns : List Txt) (k : Nat) : (heldTo c s ns k).length ≤ ns.length := by
  unfold heldTo
  have h1 := List.length_filter_le (heldB c s) (ns.take k)
  have h2 := List.length_take_le k ns
  have h3 : (ns.take k).length ≤ ns.length := by rw [List.length_take]; omega
  omega

/-! ### in memory -/
theorem MSt.widen {S S' : Nat → Prop} {w : World} {m bp bl : Nat} {s : StD} (h : MSt S w m bp bl s) (hs : ∀ j, S j → S' j) (h1 : ¬ S' m) (h2 : ¬ S' bp) : MSt S' w m bp bl s := by
  obtain ⟨ms, hl⟩ := h.lk
  exact ⟨h.blk, h.len, h.pm, ⟨ms, hl.widen hs⟩, h1, h2⟩
/-- What stands within the first loop. -/
structure LetsAt (S T : Nat → Prop) (w wr : World) (bl : Nat) (c : Int) (ls : List LockD) (kvs : List Kv) (todo : List Txt) : Prop where
  rng : RangeIs Tryz.prog 9 wr bl w.heap.size kvs todo
  lks : ∃ ms, Lks T wr bl ms (ls.map (halfL c todo)) ∧ ms.map LkM.kv = kvs
  keep : Keep (fun j => ¬ S j) w wr
  sz : w.heap.size < wr.heap.size

set_option maxRecDepth 20000 in
set_option maxHeartbeats 1000000 in
theorem lets_any (S : Nat → Prop) (m bp bl : Nat) (s : StD) (c : Int) (w : World) (hm : MSt S w m bp bl s) (hi : LInv s.locks s.tok) :
    Calls Tryz.prog 25 #[.pointer (some ⟨m, 0, none⟩), .int .i64 c] w fun e w' => e = .returned (.int .i64 (letsD c s).1) ∧ MSt (fun j => S j ∨ w.heap.size ≤ j) w' m bp bl (letsD c s).2 ∧ Keep (fun j => j ≠ m ∧ ¬ S j) w w' := by
  obtain ⟨ms, hls⟩ := hm.lk
  obtain ⟨x0, x1, x2⟩ := hm.three
  have hml := hm.blk.lt
  obtain ⟨T, hT⟩ : ∃ T : Nat → Prop, T = fun j => (S j ∧ j < w.heap.size) ∨ w.heap.size < j := ⟨_, rfl⟩
  have hLT : Lks T w bl ms s.locks := hT ▸ hls.tight.widen fun j h => .inl h
  have hrT : ¬ T w.heap.size := by rw [hT]; rintro (⟨_, h⟩ | h) <;> omega
  have hTS : ∀ j, j < w.heap.size → T j → S j := by
    intro j hj h
    rw [hT] at h
    rcases h with h | h
    · exact h.1
    · omega
  have hTn : ∀ j, w.heap.size < j → T j := fun j h => by rw [hT]; exact .inr h
  have hkvs : (ms.map LkM.kv).map Prod.fst = s.locks.map LockD.name := by rw [← hls.keys, List.map_map]; rfl
  have hn8 := hi.len
  have HA := Lib.hid (And.intro hm (And.intro hi (And.intro hls (And.intro hLT (And.intro hrT (And.intro hTS (And.intro hTn hkvs)))))))
  clear hm hi hls hLT hrT hTS hTn hkvs x0 x2
  go_enter Tryz.func25, Tryz.ntmps25
  go_wp2_with (at_range; refine wpList_rangeIs rfl (.tmp 13) rfl Tryz.underlying9 Tryz.underlying75 rfl HA.out.2.2.1.map ?_)
  intro w0 hr0 hk0 hs0
  have HR0 := Lib.hid (And.intro hr0 hk0)
  clear hr0 hk0
  go_wp2_with fail
  go_loopw [6] (fun _ wr => ∃ todo, Hid (LetsAt S T w wr bl c s.locks (ms.map LkM.kv) todo)) (fun _ wr => wr.rangeLeft bl w.heap.size)
  case atStart =>
    obtain ⟨hr0, hk0⟩ := HR0.out
    obtain ⟨hm, hi, hls, hLT, hrT, hTS, hTn, hkvs⟩ := HA.out
    replace hr0 : RangeIs Tryz.prog 9 w0 bl w.heap.size (ms.map LkM.kv) (s.locks.map LockD.name) := by rw [← hkvs, List.map_map]; exact hr0
    exact ⟨_, Lib.hid ⟨hr0, ⟨ms, by rw [half_all]; exact hLT.keep hk0 (fun _ _ => trivial), rfl⟩, hk0.weaken (fun _ _ _ => trivial), by omega⟩⟩
  case round =>
    rename World => wr
    obtain ⟨todo, HW⟩ := hrel
    go_wp2_with (at_next; refine wpList_nextIs rfl (.tmp 14) rfl Tryz.underlying9 rfl HW.out.1 ?_ ?_)
    · intro hd
      subst hd
      obtain ⟨hm, hi, hls, hLT, hrT, hTS, hTn, hkvs⟩ := HA.out
      obtain ⟨-, ⟨ms', hl', hkv'⟩, hkW, hsz⟩ := HW.out
      rw [half_none] at hl'
      have x1W := hkW.cellAt x1 hm.nm
      have hkeys : (ms'.map LkM.kv).map Prod.fst = s.locks.map LockD.name := by rw [hkv']; exact hkvs
      have HN := Lib.hid (names_l_any bl (ms'.map LkM.kv) wr hl'.map (by rw [hkeys]; exact hi.rise) (by rw [hl'.len, List.length_map]; omega))
      obtain ⟨s0, hs0e⟩ : ∃ s0 : StD, s0 = { s with locks := s.locks.map (leaveL c) } := ⟨_, rfl⟩
      obtain ⟨T2, hT2⟩ : ∃ T2 : Nat → Prop, T2 = fun j => T j ∧ j < wr.heap.size := ⟨_, rfl⟩
      have hM0 : MSt T2 wr m bp bl s0 := by
        rw [hs0e, hT2]
        exact ⟨hm.blk.keep hkW hm.nm, hm.len, hm.pm.keep hkW hm.nb, ⟨ms', hl'.tight⟩, fun h => hm.nm (hTS m hml h.1), fun h => hm.nb (hTS bp hm.pm.lt h.1)⟩
      have hT2b : ∀ j, T2 j → j < wr.heap.size := fun j h => by rw [hT2] at h; exact h.2
      have hT2S : ∀ j, T2 j → S j ∨ w.heap.size ≤ j := fun j h => by
        rw [hT2] at h
        rcases Nat.lt_or_ge j w.heap.size with h2 | h2
        · exact .inl (hTS j h2 h.1)
        · exact .inr h2
      have hi0 : LInv s0.locks s0.tok := by rw [hs0e]; exact hi.leave c
      have hheld : (s.locks.map LockD.name).filter (heldB c s0) = heldBy c s.locks := held_all hi.rise (by rw [hs0e])
      have hlets : letsD c s = (((heldBy c s.locks).length : Int), passAll (heldBy c s.locks) s0) := by rw [hs0e]; rfl
      have hnod : (s.locks.map LockD.name).Nodup := hi.rise.nodup
      have hfind0 : ∀ nm ∈ s.locks.map LockD.name, ∃ l, lfind nm s0.locks = some l := by
        intro nm hnm
        obtain ⟨l, h1, h2⟩ := List.mem_map.1 hnm
        have h3 : findK LockD.name nm s0.locks = some (leaveL c l) := by
          refine findK_of hi0.rise (by rw [hs0e]; exact List.mem_map.2 ⟨l, h1, rfl⟩) h2
        exact ⟨_, h3⟩
      have hlen8 : ∀ nm ∈ s.locks.map LockD.name, nm.length ≤ 8 := by
        intro nm hnm
        obtain ⟨l, h1, rfl⟩ := List.mem_map.1 hnm
        exact (hi.each l h1).n8
      obtain ⟨ns, hns⟩ : ∃ ns, ns = s.locks.map LockD.name := ⟨_, rfl⟩
      have hnsl : ns.length ≤ 8 := by rw [hns]; simpa using hn8
      have hkl : (ms'.map LkM.kv).length = ns.length := by rw [hns, hl'.len]; simp
      rw [hkeys, ← hns, hkl] at HN
      rw [← hns] at hheld hnod hfind0 hlen8
      have HB := Lib.hid (And.intro hM0 (And.intro hT2b (And.intro hT2S (And.intro hi0 (And.intro hheld (And.intro hlets (And.intro hnod (And.intro hfind0 (And.intro hlen8 hkW)))))))))
      clear hm hi hls hLT hrT hTS hTn hkvs hl' hkv' hkW hkeys hs0e hM0 hT2 hT2b hT2S hi0 hheld hlets hnod hfind0 hlen8 hns HR0 hkl
      go_wp2_with fail
      refine HN.out.mono ?_
      rintro e w2 ⟨⟨vn, rfl, hon⟩, f2⟩
      obtain ⟨A, cn, rfl, hrdn, -⟩ := own_rd hon
      have HO := Lib.hid (And.intro hon (And.intro hrdn f2))
      have x1X := f2.cellAt x1W trivial
      clear hon hrdn f2 HN x1W
      go_wp2_with fail
      go_loopw [7, 28] (fun n i wx => ∃ k : Nat, k ≤ ns.length ∧ i = .int .i64 (k : Int) ∧ n = .int .i64 ((heldTo c s0 ns k).length : Int) ∧ Hid (MSt T2 wx m bp bl (passAll (heldTo c s0 ns k) s0) ∧ Keep (fun j => j ≠ m ∧ ¬ T2 j) w2 wx)) (fun _ i _ => ns.length - (intOf i).toNat)
      case atStart => exact ⟨0, Nat.zero_le _, rfl, rfl, Lib.hid ⟨HB.out.1.fresh HO.out.2.2, Keep.refl _ _⟩⟩
      case round =>
        rename World => wx
        obtain ⟨k, hk, rfl, rfl, HX⟩ := hrel
        by_cases hlt : k < ns.length
        · obtain ⟨t, ht⟩ : ∃ t, t = ns[k] := ⟨_, rfl⟩
          have htm : t ∈ ns := ht ▸ List.getElem_mem hlt
          have HT : Hid (heldTo c s0 ns (k + 1) = heldTo c s0 ns k ++ (if heldB c s0 t = true then [t] else [])) := by rw [ht]; exact heldTo_succ c s0 ns k hlt
          have hnb : Hid (A ≠ none → ∃ b o, A = some ⟨b, o, none⟩ ∧ wx.cell? ⟨b, o + k, none⟩ = some (str t)) := by
            intro _
            have h1 := (HO.out.2.1.keep (HX.out.2.weaken fun j hj h => ⟨fun e => by have h2 := (own_lt HO.out.1 h).1; have h3 := HW.out.sz; omega, fun h2 => by have h3 := (own_lt HO.out.1 h).1; have h4 := HB.out.2.1 j h2; omega⟩)).at1 hlt
            obtain ⟨b, o, h2, -, h3, h4⟩ := h1
            refine ⟨b, o, h2, ?_⟩
            rw [h4, ht]
            simp
          have hA : A ≠ none := by
            have h1 := HO.out.2.1.2 (by omega)
            obtain ⟨b, o, h2, _⟩ := h1
            rw [h2]
            simp
          obtain ⟨b, o, rfl, hcell⟩ := hnb.out hA
          obtain ⟨l, hl0⟩ := HB.out.2.2.2.2.2.2.2.1 t htm
          have hlx0 : lfind t (passAll (heldTo c s0 ns k) s0).locks = some l := by rw [passAll_other _ _ (by rw [ht]; exact heldTo_not HB.out.2.2.2.2.2.2.1 hlt)]; exact hl0
          obtain ⟨msx, hlx⟩ := HX.out.1.lk
          obtain ⟨y, hy, hyl, hyk, hyi, hyf⟩ := lk_find hlx hlx0
          obtain ⟨y0, -, -⟩ := hyi.cells
          obtain ⟨-, z1, -⟩ := HX.out.1.three
          have ht8 : t.length ≤ 1048576 := by have := HB.out.2.2.2.2.2.2.2.2.1 t htm; omega
          have hlk := look_lk hlx (by omega) _ hyf 0
          rw [show wx.drewN 0 = wx from rfl] at hlk
          rw [hyl] at y0
          obtain ⟨hb, hhb⟩ : ∃ hb, hb = y.h := ⟨_, rfl⟩
          rw [← hhb] at y0 hlk
          have hbB : heldB c s0 t = (l.holder == c) := by unfold heldB; rw [hl0]
          rw [hbB] at HT
          have hcnt := heldTo_len c s0 ns k
          have hcnt2 : ((heldTo c s0 ns k).length : Int) ≤ 8 := by omega
          obtain ⟨lh, hlh⟩ : ∃ lh, lh = l.holder := ⟨_, rfl⟩
          rw [← hlh] at y0 HT
          have HP := Lib.hid (pass_any T2 m bp bl _ t l wx HX.out.1 (HB.out.2.2.2.1.passAll _) ht8 hlx0)
          obtain ⟨cnt, hcn⟩ : ∃ cnt, cnt = (heldTo c s0 ns k).length := ⟨_, rfl⟩
          rw [← hcn] at hcnt hcnt2
          have HCN := Lib.hid hcn
          clear hy hyl hyk hyi hyf hlx hlx0 hl0 hhb hbB hlh hnb hA htm ht
          rw [← hcn]
          clear hcn
          by_cases hh : lh = c
          · subst hh
            simp only [beq_self_eq_true, if_true] at HT
            go_wp2_with fail
            refine HP.out.mono ?_
            rintro e w4 ⟨rfl, hm4, hk4⟩
            have H4 := Lib.hid (And.intro hm4 hk4)
            clear hm4 hk4 HP
            go_wp2
            refine ⟨⟨k + 1, by omega, by simp, ?_, Lib.hid ⟨?_, ?_⟩⟩, ?_⟩
            · rw [HT.out, List.length_append, ← HCN.out]; simp
            · rw [HT.out, passAll_snoc]; exact H4.out.1
            · exact HX.out.2.trans H4.out.2
            · simp only [intOf]; omega
          · have hh2 : (lh == c) = false := by simpa using hh
            rw [hh2] at HT
            simp only [Bool.false_eq_true, if_false, List.append_nil] at HT
            go_wp2_with fail
            refine ⟨⟨k + 1, by omega, by simp, ?_, Lib.hid ⟨?_, HX.out.2⟩⟩, ?_⟩
            · rw [HT.out, HCN.out]
            · rw [HT.out]; exact HX.out.1
            · simp only [intOf]; omega
        · obtain rfl : k = ns.length := by omega
          go_wp2_with fail
          go_ret
          obtain ⟨hM0, hT2b, hT2S, hi0, hheld, hlets, hnod, hfind0, hlen8, hkW⟩ := HB.out
          obtain ⟨hMx, hkx⟩ := HX.out
          have hfull : heldTo c s0 ns ns.length = heldBy c s.locks := by unfold heldTo; rw [List.take_length]; exact hheld
          rw [hfull] at hMx ⊢
          rw [hlets]
          have hm := HA.out.1
          refine ⟨rfl, hMx.widen hT2S (fun h => h.elim hm.nm fun h => by omega) (fun h => h.elim hm.nb fun h => by have := hm.pm.lt; omega), (hkW.comp HO.out.2.2 (fun _ _ h => h.2) (fun _ _ _ => trivial)).comp hkx (fun _ _ h => h) fun j hj h => ⟨h.1, fun h2 => (hT2S j h2).elim h.2 fun h => by omega⟩⟩
    · intro t v w1 ht hv hr1 hk1 hs1 hlt hen
      obtain ⟨hm, hi, hls, hLT, hrT, hTS, hTn, hkvs⟩ := HA.out
      obtain ⟨-, ⟨ms', hl', hkv'⟩, hkW, hsz⟩ := HW.out
      rw [← hkv', mfind_map (key := LkM.key) (fun _ => rfl)] at hv
      obtain ⟨y, hfy, hvy⟩ := Option.map_eq_some_iff.1 hv
      obtain ⟨hyk, hy⟩ := findK_some hfy
      have hvy2 : v = .pointer (some ⟨y.h, 0, none⟩) := hvy.symm
      have hl1 := hl'.keep hk1 (fun j hj e => hrT (e ▸ hj))
      have hyd : y.d ∈ s.locks.map (halfL c todo) := by rw [← hl'.data]; exact List.mem_map.2 ⟨y, hy, rfl⟩
      obtain ⟨hyl, hset⟩ := half_step hi.rise ht hyd hyk
      have hyo := hi.each y.d hyl
      have hyi := hl1.each y hy
      have HL := Lib.hid (leave_any T c y w1 hyi hyo.nd (by have := queue_len hyo.nd hyo.q; omega))
      have HY := Lib.hid (And.intro hy (And.intro hset (And.intro hyi (And.intro hl1 (And.intro hr1 (And.intro hk1 (And.intro hs1 (And.intro hkW (And.intro hsz (And.intro hkv' hlt))))))))))
      obtain ⟨h, hh⟩ : ∃ h, h = y.h := ⟨_, rfl⟩
      rw [← hh] at hvy2 HL
      have HH := Lib.hid hh
      rw [hvy2] at hen
      clear hm hi hls hLT hrT hTS hTn hkvs hl' hkv' hkW hsz hfy hvy hyk hy hvy2 hl1 hyd hyl hset hyo hyi hr1 hk1 hs1 hlt ht hv hh
      go_wp2_with fail
      refine HL.out.mono ?_
      rintro e w2 ⟨rfl, ⟨v', hx', hn'⟩, hk2⟩
      have H2 := Lib.hid (And.intro hx' (And.intro hn' hk2))
      clear hx' hn' hk2 HL
      go_wp2
      obtain ⟨hm, hi, hls, hLT, hrT, hTS, hTn, hkvs⟩ := HA.out
      obtain ⟨hy, hset, hyi, hl1, hr1, hk1, hs1, hkW, hsz, hkv', hlt⟩ := HY.out
      obtain ⟨hx', hn', hk2⟩ := H2.out
      have hh := HH.out
      have hrise : Rise ((s.locks.map (halfL c todo)).map LockD.name) := by
        rw [List.map_map]
        have e : LockD.name ∘ halfL c todo = LockD.name := by funext l; exact half_name c todo l
        rw [e]
        exact hi.rise
      have hbh : bl ≠ h := by rw [hh]; exact hl1.map.ne_blk hyi.blk
      have hrh : w.heap.size ≠ h := by rw [hh]; exact hr1.ne_blk hyi.blk
      refine ⟨⟨_, Lib.hid ⟨hr1.keep hk2 hbh hrh, ⟨setK LkM.key ⟨leaveL c y.d, h, v'⟩ ms', ?_, ?_⟩, ?_, ?_⟩⟩, ?_⟩
      · have := hl1.turn hrise hy hk2 (S' := T) (fun j _ h1 _ => fun e => h1 (e.trans hh)) (x' := ⟨leaveL c y.d, h, v'⟩) (hx'.widen fun j hj => hj.elim id fun h2 => hTn j (by omega)) hh rfl (fun _ h => h) hn'
        rw [hset] at this
        exact this
      · rw [setK_kv hl1 hrise hy (x' := ⟨leaveL c y.d, h, v'⟩) hh rfl]
        exact hkv'
      · refine (hkW.comp hk1 (fun _ _ h => h) (fun j hj _ => by omega)).comp hk2 (fun _ _ h => h) fun j hj h2 e => h2 (hTS j hj ?_)
        rw [e, hh]
        exact hyi.sh
      · have := hk2.size
        omega
      · rw [hr1.left hk2 hbh hrh]
        exact hlt
end Go.Proofs.YtohnmaindbgngaaGreatDoor
namespace Go.Proofs.YtohnmaindbgngaaGreatDoor
set_option linter.unusedVariables false
set_option linter.unusedSimpArgs false
open Go.RowKit

theorem mcell_head {bp bl : Nat} {tok : Int} {ss : List MSess} : (mchcells bp bl tok ss)[0]? = some (.map (some bp)) ∧ (mchcells bp bl tok ss)[1]? = some (.map (some bl)) := ⟨rfl, rfl⟩
theorem mcell_sess {bp bl : Nat} {tok : Int} {ss : List MSess} {q j : Nat} (hq : q < ss.length) (hj : j < 5) : (mchcells bp bl tok ss)[3 + q * 5 + j]? = ss[q].cells[j]? := by
  unfold mchcells
  rw [List.getElem?_append_right (by simp; omega)]
  simp only [List.length_cons, List.length_nil]
  rw [show 3 + q * 5 + j - (0 + 1 + 1 + 1) = q * 5 + j by omega]
  exact rcells_get sess_five ss q hq j hj
theorem mcell_put {bp bl : Nat} {tok : Int} {ss : List MSess} {q j : Nat} (hq : q < ss.length) (hj : j < 5) (u : Value) (p : MSess) (hp : p.cells = ss[q].cells.set j u) :
    (mchcells bp bl tok ss).toArray.setIfInBounds (3 + q * 5 + j) u = (mchcells bp bl tok (ss.set q p)).toArray := by
  rw [List.setIfInBounds_toArray]
  unfold mchcells
  rw [List.set_append_right _ _ (by simp; omega)]
  simp only [List.length_cons, List.length_nil]
  rw [show 3 + q * 5 + j - (0 + 1 + 1 + 1) = q * 5 + j by omega]
  rw [rcells_set sess_five ss q hq j u p hj hp]
theorem mcells_store {bp bl : Nat} {tok : Int} {ss : List MSess} {q : Nat} (hq : q < ss.length) (i r : Int) (R : MRes) :
    ((((((mchcells bp bl tok ss).toArray.setIfInBounds (3 + q * 5) (.int .i64 i)).setIfInBounds (3 + q * 5 + 1) (.int .i64 r)).setIfInBounds (3 + q * 5 + 2) (.int .i64 R.code)).setIfInBounds (3 + q * 5 + 3) (str R.val)).setIfInBounds (3 + q * 5 + 4) (.int .i64 R.n)) = (mchcells bp bl tok (ss.set q ⟨i, r, R⟩)).toArray := by
  have l1 : q < (ss.set q ⟨i, ss[q].req, ss[q].last⟩).length := by simpa using hq
  have l2 : q < (ss.set q ⟨i, r, ss[q].last⟩).length := by simpa using hq
  have l3 : q < (ss.set q ⟨i, r, ⟨R.code, ss[q].last.val, ss[q].last.n⟩⟩).length := by simpa using hq
  have l4 : q < (ss.set q ⟨i, r, ⟨R.code, R.val, ss[q].last.n⟩⟩).length := by simpa using hq
  have e0 : (mchcells bp bl tok ss).toArray.setIfInBounds (3 + q * 5) (.int .i64 i) = _ := mcell_put (j := 0) hq (by omega) (.int .i64 i) ⟨i, ss[q].req, ss[q].last⟩ rfl
  rw [e0, mcell_put (j := 1) l1 (by omega) _ ⟨i, r, ss[q].last⟩ (by simp [MSess.cells]), List.set_set,
    mcell_put (j := 2) l2 (by omega) _ ⟨i, r, ⟨R.code, ss[q].last.val, ss[q].last.n⟩⟩ (by simp [MSess.cells]), List.set_set,
    mcell_put (j := 3) l3 (by omega) _ ⟨i, r, ⟨R.code, R.val, ss[q].last.n⟩⟩ (by simp [MSess.cells]), List.set_set,
    mcell_put (j := 4) l4 (by omega) _ ⟨i, r, R⟩ (by simp [MSess.cells]), List.set_set]

end Go.Proofs.YtohnmaindbgngaaGreatDoor
namespace Go.Proofs.YtohnmaindbgngaaGreatDoor
set_option linter.unusedVariables false
set_option linter.unusedSimpArgs false
open Go.RowKit

section
variable {S S' : Nat → Prop} {w w' : World} {m bp bl g : Nat} {s : StD} {t : TypeId} {cs : Array Value}
theorem Lks.other {ms : List LkM} {ls : List LockD} (h : Lks S w bl ms ls) (hg : Blk w g t cs) (h1 : t ≠ 121) (h2 : t ≠ 3) (hk : Keep (fun j => j ≠ g) w w') : Lks S w' bl ms ls :=
  ⟨h.map.keep hk (h.map.ne_blk hg), fun x hx => (h.each x hx).keep hk (fun e => Blk.ne (h.each x hx).blk hg h1.symm e) (fun k hk2 e => (h.each x hx).row.ne_blk hg h2.symm (by rw [← e]; exact hk2)), h.apart, h.data, h.sb⟩
theorem MSt.other (h : MSt S w m bp bl s) (hg : Blk w g t cs) (h0 : t ≠ 80) (h1 : t ≠ 121) (h2 : t ≠ 3) (hk : Keep (fun j => j ≠ g) w w') : MSt S w' m bp bl s := by
  obtain ⟨ms, hl⟩ := h.lk
  exact ⟨h.blk.keep hk (fun e => Blk.ne h.blk hg h0.symm e), h.len, h.pm.keep hk (h.pm.ne_blk hg), ⟨ms, hl.other hg h1 h2 hk⟩, h.nm, h.nb⟩
end
theorem MSt.tight {S : Nat → Prop} {w : World} {m bp bl : Nat} {s : StD} (h : MSt S w m bp bl s) : MSt (fun j => S j ∧ j < w.heap.size) w m bp bl s := by
  obtain ⟨ms, hl⟩ := h.lk
  exact ⟨h.blk, h.len, h.pm, ⟨ms, hl.tight⟩, fun e => h.nm e.1, fun e => h.nb e.1⟩
abbrev resA (R : MRes) : Array Value := #[.int .i64 R.code, str R.val, .int .i64 R.n]
def resStored (w : World) (g : Nat) (R : MRes) : World := ((w.setCell ⟨g, 0, none⟩ (.int .i64 R.code)).setCell ⟨g, 1, none⟩ (str R.val)).setCell ⟨g, 2, none⟩ (.int .i64 R.n)
theorem res_keep {Z : Nat → Prop} {w0 w : World} {g : Nat} (h : Keep Z w0 w) (hg : g < w0.heap.size → ¬ Z g) (R : MRes) : Keep Z w0 (resStored w g R) := ((h.setCell hg _).setCell hg _).setCell hg _
theorem res_blk {w : World} {g : Nat} {R0 : MRes} (h : Blk w g 49 (resA R0)) (R : MRes) : Blk (resStored w g R) g 49 (resA R) := ((h.set 0 (.int .i64 R.code)).set 1 (str R.val)).set 2 (.int .i64 R.n)
theorem res_facts {w : World} {g : Nat} {R : MRes} (h : Blk w g 49 (resA R)) : w.cell? ⟨g, 0, none⟩ = some (.int .i64 R.code) ∧ w.cell? ⟨g, 1, none⟩ = some (str R.val) ∧ w.cell? ⟨g, 2, none⟩ = some (.int .i64 R.n) ∧
    w.frozen? ⟨g, 0, none⟩ = false ∧ w.frozen? ⟨g, 1, none⟩ = false ∧ w.frozen? ⟨g, 2, none⟩ = false ∧ g < w.heap.size := by
  have h0 := h.cell 0
  have h1 := h.cell 1
  have h2 := h.cell 2
  simp at h0 h1 h2
  exact ⟨h0, h1, h2, h.frozen 0, h.frozen 1, h.frozen 2, h.lt⟩
/-- What an operation does: its result, the machine behind it, what it kept. -/
structure OpPost (S : Nat → Prop) (m bp bl : Nat) (x : ResD × StD) (w : World) (e : Ending) (w' : World) : Prop where
  ret : e = .returned (resV x.1)
  st : MSt (fun j => S j ∨ w.heap.size ≤ j) w' m bp bl x.2
  keep : Keep (fun j => j ≠ m ∧ j ≠ bp ∧ ¬ S j) w w'
/-- Where an operation begins: the command and the result have blocks of their own. -/
structure OpAt (w W : World) (G : Nat) (c i r o : Int) (k v d : Txt) : Prop where
  fresh : Fresh w W
  cmd : Blk W G 43 #[.int .i64 c, .int .i64 i, .int .i64 r, .int .i64 o, str k, str v, str d]
  res : Blk W (G + 1) 49 (resA ⟨0, [], 0⟩)
  sz : G = w.heap.size
theorem op_at (w : World) (c i r o : Int) (k v d : Txt) : OpAt w ((w.alloc (.cells #[.int .i64 c, .int .i64 i, .int .i64 r, .int .i64 o, str k, str v, str d] 43)).alloc (.cells #[.int .i64 0, str [], .int .i64 0] 49)) w.heap.size c i r o k v d :=
  ⟨((Keep.refl _ w).alloc _).alloc _, (Blk.new _ _ _).alloc _, Blk.newAt (by simp), rfl⟩
theorem OpAt.cells {w W : World} {G : Nat} {c i r o : Int} {k v d : Txt} (h : OpAt w W G c i r o k v d) : W.cell? ⟨G, 0, none⟩ = some (.int .i64 c) ∧ W.cell? ⟨G, 4, none⟩ = some (str k) ∧ W.cell? ⟨G, 5, none⟩ = some (str v) ∧ W.cell? ⟨G, 6, none⟩ = some (str d) ∧ G < W.heap.size := by
  have h0 := h.cmd.cell 0
  have h4 := h.cmd.cell 4
  have h5 := h.cmd.cell 5
  have h6 := h.cmd.cell 6
  simp at h0 h4 h5 h6
  exact ⟨h0, h4, h5, h6, h.cmd.lt⟩
/-- The end of an operation's walk. -/
theorem op_ret {fn : Func} (hfn : fn.results = #[.cell 4 49]) {a : Act} {g : Nat} (ha : a.tmps.getD 4 undef = .pointer (some ⟨g, 0, none⟩)) (hd : a.defers = []) {S S1 : Nat → Prop} {w wx : World} {m bp bl : Nat} {x : ResD × StD} {R0 : MRes}
    (hm : MSt S1 wx m bp bl x.2) (hS : ∀ j, S1 j → S j ∨ w.heap.size ≤ j) (hm0 : m < w.heap.size) (hb0 : bp < w.heap.size) (hn1 : ¬ S m) (hn2 : ¬ S bp) (hb : Blk wx g 49 (resA R0)) (hg : w.heap.size ≤ g) (hk : Keep (fun j => j ≠ m ∧ j ≠ bp ∧ ¬ S j) w wx) :
    bodyPost Tryz.prog fn (OpPost S m bp bl x w) Exit.ret a (resStored wx g x.1) := by
  refine bodyPost_ret (results_one hfn _ _ g 49 (resA x.1) _ ha (res_blk hb x.1) Tryz.underlying49 rfl (by kernel_rfl)) hd ⟨rfl, ?_, res_keep hk (fun h => absurd h (by omega)) _⟩
  exact (hm.other hb (by decide) (by decide) (by decide) (res_keep (Keep.refl _ wx) (fun _ h => h rfl) _)).widen hS (fun h => h.elim hn1 fun h => by omega) (fun h => h.elim hn2 fun h => by omega)

/-- .. and something was made behind it. -/
theorem op_ret2 {fn : Func} (hfn : fn.results = #[.cell 4 49]) {a : Act} {g : Nat} (ha : a.tmps.getD 4 undef = .pointer (some ⟨g, 0, none⟩)) (hd : a.defers = []) {S S1 : Nat → Prop} {w wx wy : World} {m bp bl : Nat} {x : ResD × StD} {R0 : MRes}
    (hm : MSt S1 wx m bp bl x.2) (hS : ∀ j, S1 j → S j ∨ w.heap.size ≤ j) (hm0 : m < w.heap.size) (hb0 : bp < w.heap.size) (hn1 : ¬ S m) (hn2 : ¬ S bp) (hb : Blk wx g 49 (resA R0)) (hg : w.heap.size ≤ g) (hk : Keep (fun j => j ≠ m ∧ j ≠ bp ∧ ¬ S j) w wx) (hf : Fresh (resStored wx g x.1) wy) :
    bodyPost Tryz.prog fn (OpPost S m bp bl x w) Exit.ret a wy := by
  refine bodyPost_ret (results_one hfn _ _ g 49 (resA x.1) _ ha ((res_blk hb x.1).keep hf trivial) Tryz.underlying49 rfl (by kernel_rfl)) hd ⟨rfl, ?_, (res_keep hk (fun h => absurd h (by omega)) _).comp hf (fun _ _ h => h) (fun _ _ _ => trivial)⟩
  exact ((hm.other hb (by decide) (by decide) (by decide) (res_keep (Keep.refl _ wx) (fun _ h => h rfl) _)).fresh hf).widen hS (fun h => h.elim hn1 fun h => by omega) (fun h => h.elim hn2 fun h => by omega)
theorem pfindD_none {k : Txt} {ps : Ps} (h : pfind k ps = none) : pfindD k ps = none := by
  rw [pfind_eq] at h
  simpa using h
theorem pfindD_some {k u : Txt} {ps : Ps} (h : pfind k ps = some u) : ∃ a, pfindD k ps = some (a, u) := by
  rw [pfind_eq] at h
  obtain ⟨⟨a, b⟩, h1, h2⟩ := Option.map_eq_some_iff.1 h
  simp only at h2
  subst h2
  exact ⟨a, h1⟩
set_option maxRecDepth 20000 in
theorem getop_any (ita : Int → Txt) (S : Nat → Prop) (m bp bl : Nat) (s : StD) (c i r : Int) (k v d : Txt) (w : World) (hm : MSt S w m bp bl s) (hk : k.length ≤ 8) :
    Calls Tryz.prog 47 #[.pointer (some ⟨m, 0, none⟩), cmdV c i r 2 k v d] w (OpPost S m bp bl (onKeyD numb ita 2 k v d s) w) := by
  obtain ⟨X, hX⟩ : ∃ X, X = onKeyD numb ita 2 k v d s := ⟨_, rfl⟩
  rw [← hX]
  have HO := Lib.hid (op_at w c i r 2 k v d)
  obtain ⟨G, hG⟩ : ∃ G, G = w.heap.size := ⟨_, rfl⟩
  obtain ⟨W, hW⟩ : ∃ W, W = (w.alloc (.cells #[.int .i64 c, .int .i64 i, .int .i64 r, .int .i64 2, str k, str v, str d] 43)).alloc (.cells #[.int .i64 0, str [], .int .i64 0] 49) := ⟨_, rfl⟩
  rw [← hW, ← hG] at HO
  obtain ⟨k0, k4, k5, k6, kl⟩ := HO.out.cells
  have hmW := hm.fresh HO.out.fresh
  obtain ⟨x0, -, -⟩ := hmW.three
  have hmlt := hmW.blk.lt
  have hml := hm.blk.lt
  have hbl := hm.pm.lt
  have hlk := look_str hmW.pm (l := k) (by omega)
  have HA := Lib.hid (And.intro hm (And.intro hmW hX))
  clear hm hmW hX
  go_enter Tryz.func47, Tryz.ntmps47
  go_wp2_with fail
  simp only [← hG]
  rw [← hW]
  clear hW hG
  go_quiet (fail)
  have HD := Lib.hid (fun l n => done_any l n (W.drewN nq))
  have HC := Lib.hid (fun n => code_any n (W.drewN nq))
  have HQ := Lib.hid (show Fresh W (W.drewN nq) from (Keep.refl _ W).drewN nq)
  cases hpf : pfind k s.pairs with
  | none =>
    rw [hpf] at hlk
    go_wp2_with fail
    refine (HC.out _).mono ?_
    rintro e W4 ⟨rfl, f4⟩
    have HF := Lib.hid (HQ.out.trans f4)
    obtain ⟨r0, r1, r2, s0, s1, s2, rl⟩ := res_facts (HO.out.res.keep HF.out trivial)
    clear f4 HC HD HQ
    go_wp2_with fail
    obtain ⟨hm, hmW, hX⟩ := HA.out
    have e : X = (⟨2, [], 0⟩, s) := by rw [hX]; unfold onKeyD; rw [pfindD_none hpf]; simp
    rw [e]
    exact op_ret rfl rfl rfl (hmW.fresh HF.out) (fun j h => .inl h) hml hbl hm.nm hm.nb (HO.out.res.keep HF.out trivial) (by have := HO.out.sz; omega) ((HO.out.fresh.trans HF.out).weaken fun _ _ _ => trivial)
  | some u =>
    rw [hpf] at hlk
    go_wp2_with fail
    refine (HD.out u 1).mono ?_
    rintro e W4 ⟨rfl, f4⟩
    have HF := Lib.hid (HQ.out.trans f4)
    obtain ⟨r0, r1, r2, s0, s1, s2, rl⟩ := res_facts (HO.out.res.keep HF.out trivial)
    clear f4 HC HD HQ
    go_wp2_with fail
    obtain ⟨hm, hmW, hX⟩ := HA.out
    obtain ⟨a, ha⟩ := pfindD_some hpf
    have e : X = (⟨1, u, 1⟩, s) := by rw [hX]; unfold onKeyD; rw [ha]; simp
    rw [e]
    exact op_ret rfl rfl rfl (hmW.fresh HF.out) (fun j h => .inl h) hml hbl hm.nm hm.nb (HO.out.res.keep HF.out trivial) (by have := HO.out.sz; omega) ((HO.out.fresh.trans HF.out).weaken fun _ _ _ => trivial)

set_option maxRecDepth 20000 in
theorem fence_any (S : Nat → Prop) (m bp bl : Nat) (s : StD) (c i r : Int) (k v d : Txt) (w : World) (hm : MSt S w m bp bl s) (hk : k.length ≤ 8) (hT : Tabs w) (hv : v.length ≤ 8) :
    Calls Tryz.prog 53 #[.pointer (some ⟨m, 0, none⟩), cmdV c i r 8 k v d] w (OpPost S m bp bl (onLockD numb c 8 k v s) w) := by
  obtain ⟨X, hX⟩ : ∃ X, X = onLockD numb c 8 k v s := ⟨_, rfl⟩
  rw [← hX]
  have HO := Lib.hid (op_at w c i r 8 k v d)
  obtain ⟨G, hG⟩ : ∃ G, G = w.heap.size := ⟨_, rfl⟩
  obtain ⟨W, hW⟩ : ∃ W, W = (w.alloc (.cells #[.int .i64 c, .int .i64 i, .int .i64 r, .int .i64 8, str k, str v, str d] 43)).alloc (.cells #[.int .i64 0, str [], .int .i64 0] 49) := ⟨_, rfl⟩
  rw [← hW, ← hG] at HO
  obtain ⟨k0, k4, k5, k6, kl⟩ := HO.out.cells
  have hmW := hm.fresh HO.out.fresh
  obtain ⟨-, x1, -⟩ := hmW.three
  have hmlt := hmW.blk.lt
  have hml := hm.blk.lt
  have hbl := hm.pm.lt
  have HN := Lib.hid (fun q => number_any v (W.drewN q) (hT.fresh (HO.out.fresh.drewN q)))
  have HA := Lib.hid (And.intro hm (And.intro hmW hX))
  obtain ⟨ms, hls⟩ := hmW.lk
  have HLS := Lib.hid hls
  clear hm hmW hX hT
  cases hf : lfind k s.locks with
  | none =>
    have hlk := look_lk hls (k := k) (by omega) _ (show _ = .pointer none by rw [hls.gone hf]; rfl)
    clear hls
    go_enter Tryz.func53, Tryz.ntmps53
    go_wp2_with fail
    simp only [← hG]
    rw [← hW]
    clear hW hG
    go_quiet (fail)
    have HC := Lib.hid (fun n => code_any n (W.drewN nq))
    have HQ := Lib.hid (show Fresh W (W.drewN nq) from (Keep.refl _ W).drewN nq)
    go_wp2_with fail
    refine (HC.out _).mono ?_
    rintro e W4 ⟨rfl, f4⟩
    have HF := Lib.hid (HQ.out.trans f4)
    obtain ⟨r0, r1, r2, s0, s1, s2, rl⟩ := res_facts (HO.out.res.keep HF.out trivial)
    clear f4 HC HQ
    go_wp2_with fail
    obtain ⟨hm, hmW, hX⟩ := HA.out
    have e : X = (⟨2, [], 0⟩, s) := by rw [hX]; unfold onLockD; rw [hf]; simp
    rw [e]
    exact op_ret rfl rfl rfl (hmW.fresh HF.out) (fun j h => .inl h) hml hbl hm.nm hm.nb (HO.out.res.keep HF.out trivial) (by have := HO.out.sz; omega) ((HO.out.fresh.trans HF.out).weaken fun _ _ _ => trivial)
  | some l =>
    obtain ⟨x, hx, hxl, hxk, hxi, hxf⟩ := lk_find hls hf
    obtain ⟨-, y1, -⟩ := hxi.cells
    rw [hxl] at y1
    have hlk := look_lk hls (k := k) (by omega) _ hxf
    obtain ⟨h, hh⟩ : ∃ h, h = x.h := ⟨_, rfl⟩
    rw [← hh] at y1 hlk
    have hhl := hxi.lt
    rw [← hh] at hhl
    clear hls hx hxl hxk hxi hxf hh
    go_enter Tryz.func53, Tryz.ntmps53
    go_wp2_with fail
    simp only [← hG]
    rw [← hW]
    clear hW hG
    go_quiet (fail)
    go_wp2_with fail
    refine (HN.out _).mono ?_
    rintro e W3 ⟨rfl, f3⟩
    have f3' : Fresh W W3 := ((Keep.refl _ W).drewN nq).trans f3
    have z1 := f3'.cellAt y1 trivial
    have hhl3 : h < W3.heap.size := Nat.lt_of_lt_of_le hhl f3'.size
    have HF3 := Lib.hid f3'
    obtain ⟨r0, r1, r2, s0, s1, s2, rl⟩ := res_facts (HO.out.res.keep f3' trivial)
    have HD := Lib.hid (fun l n => done_any l n W3)
    obtain ⟨nv, hnv⟩ : ∃ z, z = (numb v).1 := ⟨_, rfl⟩
    obtain ⟨tk, htk⟩ : ∃ z, z = l.token := ⟨_, rfl⟩
    rw [← htk] at z1
    rw [← hnv]
    have HV := Lib.hid (And.intro hnv htk)
    clear hnv htk f3 f3' HN y1 x1
    by_cases hne : nv = tk
    · subst hne
      clear r0 r1 r2 s0 s1 s2 rl
      go_wp2_with fail
      refine (HD.out _ _).mono ?_
      rintro e W4 ⟨rfl, f4⟩
      have HF := Lib.hid (HF3.out.trans f4)
      obtain ⟨r0, r1, r2, s0, s1, s2, rl⟩ := res_facts (HO.out.res.keep HF.out trivial)
      clear f4 HD
      go_wp2_with fail
      obtain ⟨hm, hmW, hX⟩ := HA.out
      have e : X = (⟨1, [], nv⟩, s) := by rw [hX]; unfold onLockD; rw [hf]; simp only; rw [if_neg (by omega), if_neg (by omega), ← HV.out.1, ← HV.out.2, if_pos rfl]
      rw [e]
      exact op_ret rfl rfl rfl (hmW.fresh HF.out) (fun j h => .inl h) hml hbl hm.nm hm.nb (HO.out.res.keep HF.out trivial) (by have := HO.out.sz; omega) ((HO.out.fresh.trans HF.out).weaken fun _ _ _ => trivial)
    · go_wp2_with fail
      obtain ⟨hm, hmW, hX⟩ := HA.out
      have e : X = (⟨9, [], tk⟩, s) := by rw [hX]; unfold onLockD; rw [hf]; simp only; rw [if_neg (by omega), if_neg (by omega), ← HV.out.1, ← HV.out.2, if_neg hne]
      rw [e]
      exact op_ret rfl rfl rfl (hmW.fresh HF3.out) (fun j h => .inl h) hml hbl hm.nm hm.nb (HO.out.res.keep HF3.out trivial) (by have := HO.out.sz; omega) ((HO.out.fresh.trans HF3.out).weaken fun _ _ _ => trivial)

set_option maxRecDepth 20000 in
theorem end_any (S : Nat → Prop) (m bp bl : Nat) (s : StD) (c i r : Int) (k v d : Txt) (w : World) (hm : MSt S w m bp bl s) (hi : LInv s.locks s.tok) (hT : Tabs w) (he : 0 ≤ (numb v).1 ∧ (numb v).1 < 16) :
    Calls Tryz.prog 54 #[.pointer (some ⟨m, 0, none⟩), cmdV c i r 9 k v d] w (OpPost S m bp bl (endD numb v s) w) := by
  obtain ⟨X, hX⟩ : ∃ X, X = endD numb v s := ⟨_, rfl⟩
  rw [← hX]
  have HO := Lib.hid (op_at w c i r 9 k v d)
  obtain ⟨G, hG⟩ : ∃ G, G = w.heap.size := ⟨_, rfl⟩
  obtain ⟨W, hW⟩ : ∃ W, W = (w.alloc (.cells #[.int .i64 c, .int .i64 i, .int .i64 r, .int .i64 9, str k, str v, str d] 43)).alloc (.cells #[.int .i64 0, str [], .int .i64 0] 49) := ⟨_, rfl⟩
  rw [← hW, ← hG] at HO
  obtain ⟨k0, k4, k5, k6, kl⟩ := HO.out.cells
  have hmW := hm.fresh HO.out.fresh
  have hmlt := hmW.blk.lt
  have hml := hm.blk.lt
  have hbl := hm.pm.lt
  have HN := Lib.hid (number_any v W (hT.fresh HO.out.fresh))
  obtain ⟨q, hq⟩ : ∃ q : Nat, q = (numb v).1.toNat := ⟨_, rfl⟩
  have hq16 : q < 16 := by omega
  have hqi : (numb v).1 = (q : Int) := by omega
  rw [hqi] at HN
  have hqs : q < s.ss.length := by rw [hm.len]; exact hq16
  have hc1 : W.cell? ⟨m, 3 + q * 5, none⟩ = some (.int .i64 (s.ss.getD q noSes).inc) := by
    rw [hmW.cell]
    have := mcell_sess (bp := bp) (bl := bl) (tok := s.tok) (ss := s.ss) hqs (j := 0) (by omega)
    rw [Nat.add_zero] at this
    rw [this, List.getD_eq_getElem?_getD, List.getElem?_eq_getElem hqs]
    rfl
  obtain ⟨zi, hzi⟩ : ∃ z, z = (s.ss.getD q noSes).inc := ⟨_, rfl⟩
  rw [← hzi] at hc1
  have HA := Lib.hid (And.intro hm (And.intro hmW (And.intro hX (And.intro hi (And.intro hqi hzi)))))
  have hqi16 : (q : Int) < 16 := by omega
  clear hm hmW hX hT hi hq he hqi hzi hqs
  go_enter Tryz.func54, Tryz.ntmps54
  go_wp2_with fail
  simp only [← hG]
  rw [← hW]
  clear hW hG
  refine HN.out.mono ?_
  rintro e W3 ⟨rfl, f3⟩
  have z1 := f3.cellAt hc1 trivial
  have hml3 : m < W3.heap.size := Nat.lt_of_lt_of_le hmlt f3.size
  have HF3 := Lib.hid f3
  have HC := Lib.hid (fun n => code_any n W3)
  have HL := Lib.hid (lets_any (fun j => S j ∧ j < w.heap.size) m bp bl s (q : Int) W3 ((HA.out.1.tight.fresh HO.out.fresh).fresh f3) HA.out.2.2.2.1)
  clear f3 HN hc1
  by_cases h0 : zi = 0
  · subst h0
    go_wp2_with fail
    refine (HC.out _).mono ?_
    rintro e W4 ⟨rfl, f4⟩
    have HF := Lib.hid (HF3.out.trans f4)
    obtain ⟨r0, r1, r2, s0, s1, s2, rl⟩ := res_facts (HO.out.res.keep HF.out trivial)
    clear f4 HC HL
    go_wp2_with fail
    obtain ⟨hm, hmW, hX, hi, hqi, hzi⟩ := HA.out
    have e : X = (⟨2, [], 0⟩, s) := by rw [hX]; unfold endD; rw [hqi, show ((q : Int)).toNat = q by omega, ← hzi, if_pos rfl]
    rw [e]
    exact op_ret rfl rfl rfl (hmW.fresh HF.out) (fun j h => .inl h) hml hbl hm.nm hm.nb (HO.out.res.keep HF.out trivial) (by have := HO.out.sz; omega) ((HO.out.fresh.trans HF.out).weaken fun _ _ _ => trivial)
  · go_wp2_with fail
    refine HL.out.mono ?_
    rintro e W4 ⟨rfl, hm4, hk4⟩
    have HM4 := Lib.hid (And.intro hm4 hk4)
    have HD := Lib.hid (fun l n => done_any l n W4)
    clear hm4 hk4 HC HL
    go_wp2_with fail
    refine (HD.out _ _).mono ?_
    rintro e W5 ⟨rfl, f5⟩
    have hb5 : Blk W5 (G + 1) 49 (resA ⟨0, [], 0⟩) := ((HO.out.res.keep HF3.out trivial).keep HM4.out.2 (by
      have hsz := HO.out.sz
      exact ⟨by omega, fun h => by have := h.2; omega⟩)).keep f5 trivial
    obtain ⟨r0, r1, r2, s0, s1, s2, rl⟩ := res_facts hb5
    have H5 := Lib.hid (And.intro hb5 f5)
    clear f5 HD hb5
    go_wp2_with fail
    obtain ⟨hm, hmW, hX, hi, hqi, hzi⟩ := HA.out
    have e : X = (⟨1, [], (letsD (q : Int) s).1⟩, (letsD (q : Int) s).2) := by rw [hX]; unfold endD; rw [hqi, show ((q : Int)).toNat = q by omega, ← hzi, if_neg h0]
    rw [e]
    have hsz := HO.out.sz
    exact op_ret rfl rfl rfl (HM4.out.1.fresh H5.out.2) (fun j h => h.elim (fun h => .inl h.1) fun h => .inr (by have := HF3.out.size; have := HO.out.fresh.size; omega)) hml hbl hm.nm hm.nb H5.out.1 (by omega) (((HO.out.fresh.trans HF3.out).comp HM4.out.2 (fun _ _ _ => trivial) (fun _ _ h => ⟨h.1, fun e => h.2.2 e.1⟩)).comp H5.out.2 (fun _ _ h => h) (fun _ _ _ => trivial))
end Go.Proofs.YtohnmaindbgngaaGreatDoor
