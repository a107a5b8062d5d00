/-
  WALK OF newSeen: THE STATE AT THE BEGINNING.
-/
import Derived.Test.YtfpcmleeehciaaaGrpM
namespace Go.Proofs.Ytfpcmleeehciaaa
set_option linter.unusedVariables false
set_option linter.unusedSimpArgs false
open Go.RowKit Go.Shelf

def fix0 (b : Nat) : Fix := ⟨b + 8, b, b + 1, b + 2, b + 3, b + 4, b + 5, b + 6, b + 7⟩
def tag0 (b : Nat) (j : Nat) : Tag :=
  if j < b then .other else match j - b with
  | 0 => .up | 1 => .last | 2 => .livs | 3 => .ins | 4 => .mms | 5 => .snt | 6 => .ord | 7 => .cnt | 8 => .seen | _ => .other
theorem tag0_at (b i : Nat) : tag0 b (b + i) = match i with
  | 0 => .up | 1 => .last | 2 => .livs | 3 => .ins | 4 => .mms | 5 => .snt | 6 => .ord | 7 => .cnt | 8 => .seen | _ => .other := by
  unfold tag0
  rw [if_neg (by omega), Nat.add_sub_cancel_left]
theorem tag0_low {b j : Nat} (h : tag0 b j ≠ .other) : b ≤ j ∧ j < b + 9 := by
  unfold tag0 at h
  split at h
  · exact absurd rfl h
  · refine ⟨by omega, ?_⟩
    rcases Nat.lt_or_ge j (b + 9) with h1 | h1
    · exact h1
    · exfalso
      obtain ⟨d, hd⟩ : ∃ d, j - b = d + 9 := ⟨j - b - 9, by omega⟩
      rw [hd] at h
      exact h rfl
theorem fix0_tag (b : Nat) : FixT (tag0 b) (fix0 b) := ⟨tag0_at b 8, tag0_at b 0, tag0_at b 1, tag0_at b 2, tag0_at b 3, tag0_at b 4, tag0_at b 5, tag0_at b 6, tag0_at b 7⟩
/-- A world behind eight empty maps. -/
def World.maps (w : World) : Nat → World
  | 0 => w
  | n + 1 => (World.maps w n).alloc (.map #[] 0)
theorem maps_size (w : World) (n : Nat) : (World.maps w n).heap.size = w.heap.size + n := by
  induction n with
  | zero => rfl
  | succ n ih =>
    have e : (World.maps w (n + 1)).heap.size = (World.maps w n).heap.size + 1 := Array.size_push _
    omega
theorem maps_fresh (w : World) (n m : Nat) : Fresh (World.maps w n) (World.maps w (n + m)) := by
  induction m with
  | zero => exact Keep.refl _ _
  | succ m ih => exact ih.alloc _
theorem maps_map (w : World) (k i n : Nat) (h : i < n) : KMap Try.prog k (World.maps w n) (w.heap.size + i) [] := by
  have h1 : KMap Try.prog k (World.maps w (i + 1)) (World.maps w i).heap.size [] := KMap.made _ _ _
  rw [maps_size] at h1
  have h2 := maps_fresh w (i + 1) (n - (i + 1))
  rw [show i + 1 + (n - (i + 1)) = n from by omega] at h2
  exact h1.keep h2 trivial
/-- The state at the beginning. -/
theorem gm_new (w : World) : GM ((World.maps w 8).alloc (.cells (seenV grp0 (fix0 w.heap.size)) 75)) w.heap.size (tag0 w.heap.size) (fix0 w.heap.size) 0 grp0 := by
  have hf : Fresh (World.maps w 8) ((World.maps w 8).alloc (.cells (seenV grp0 (fix0 w.heap.size)) 75)) := (Keep.refl _ _).alloc _
  have hm := fun k i (h : i < 8) => (maps_map w k i 8 h).keep hf trivial
  have hsz : ((World.maps w 8).alloc (.cells (seenV grp0 (fix0 w.heap.size)) 75)).heap.size = w.heap.size + 9 := by
    have h1 := maps_size w 8
    have h2 : ((World.maps w 8).alloc (.cells (seenV grp0 (fix0 w.heap.size)) 75)).heap.size = (World.maps w 8).heap.size + 1 := Array.size_push _
    omega
  refine ⟨fix0_tag _, fun j hj => ?_, ?_, ⟨_, hm _ 0 (by omega), Nat.zero_le _, fun _ _ => rfl⟩, ⟨_, hm _ 1 (by omega), Nat.zero_le _, fun _ _ => rfl⟩,
    ⟨_, hm _ 2 (by omega), Nat.zero_le _, fun _ _ => ⟨fun _ => rfl, fun l hl => by simp [grp0] at hl⟩⟩,
    ⟨_, hm _ 3 (by omega), Nat.zero_le _, fun i hi => ⟨[], rfl, ⟨World.ownsRow_nil _ _ _ _, fun j hj => by simp [kfind, nilS, Value.ownBlock] at hj⟩, fun v hv => by cases hv⟩⟩,
    ⟨_, hm _ 4 (by omega), Nat.zero_le _, fun i hi => ⟨none, 0, rfl, ⟨none, 0, rfl, Nat.le_refl _, fun _ => .inl rfl, Rd.nil _ _ _ _⟩, Nat.zero_le _⟩⟩,
    ⟨_, hm _ 5 (by omega), Nat.zero_le _, fun _ _ _ _ => ⟨fun _ => rfl, fun l hl => by simp [grp0] at hl⟩⟩,
    ⟨_, hm _ 6 (by omega), Nat.zero_le _, fun i hi => ⟨World.ownsRow_nil _ _ _ _, fun j hj => by simp [kfind, nilS, Value.ownBlock] at hj⟩⟩,
    ⟨_, hm _ 7 (by omega), Nat.zero_le _, fun _ _ _ => rfl⟩⟩
  · rw [hsz]
    exact tag0_low hj
  · have := Blk.new (World.maps w 8) 75 (seenV grp0 (fix0 w.heap.size))
    rw [maps_size] at this
    exact this

theorem newseen_any (w : World) : Calls Try.prog 15 #[] w fun e w' =>
    (∃ F T, e = .returned (.pointer (some ⟨F.g, 0, none⟩)) ∧ GM w' w.heap.size T F 0 grp0) ∧ Fresh w w' := by
  have HG := Lib.hid (gm_new w)
  have HF : Hid (Fresh w ((World.maps w 8).alloc (.cells (seenV grp0 (fix0 w.heap.size)) 75))) := Lib.hid ((maps_fresh w 0 8).alloc _)
  have HS := Lib.hid (maps_size w 8)
  have hmm := @run_makeMap Try.prog
  go_enter Try.func15, Try.ntmps15
  go_wp2
  go_ret
  exact ⟨⟨fix0 w.heap.size, tag0 w.heap.size, rfl, HG.out⟩, HF.out⟩
end Go.Proofs.Ytfpcmleeehciaaa
