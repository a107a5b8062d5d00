/-
  WHAT deliver LEAVES (rules 7 and 8).
-/
import Derived.Test.YtfpcmleeehciaaaGrpInst
import Derived.Test.YtfpcmleeehciaaaGrpX
namespace Go.Proofs.Ytfpcmleeehciaaa
set_option linter.unusedVariables false
set_option linter.unusedSimpArgs false
open Go.RowKit Go.Shelf

def delN (s : GrpD) (m : MarkD) : GrpD :=
  { s with order := (if s.count (m.id, m.who) = (s.order m.id).length then upd s.order m.id (s.order m.id ++ [m.told]) else s.order), count := upd s.count (m.id, m.who) (s.count (m.id, m.who) + 1),
           lives := upd s.lives m.who (some { s.life m.who with frm := upd (s.life m.who).frm m.sender ((s.life m.who).frm m.sender + 1), lastPos := m.pos, own := (if m.sender = m.who.1 then (s.life m.who).own + 1 else (s.life m.who).own) }) }
theorem nextG_del (s : GrpD) (m : MarkD) (h : m.kind = 8) : nextG s m = delN { s with at_ := m.at_ } m := by
  unfold nextG delN
  simp only [h]
  rfl
set_option maxHeartbeats 2000000 in
/-- What deliver leaves. -/
theorem del_end {w w13 w14 w15 wE : World} {B : Nat} {T T2 : Nat → Tag} {F : Fix} {K : Nat} {s sN : GrpD} (hG : GM w B T F K s) {who : Who} {snd : Int} {i : V4} {v v' : LifeD} {b' f : Nat} {A : Option Addr} {c fr : Nat} (hm : LifeM w T who b' f K v A c)
    (hset : ∀ (Z : Nat → Prop) (w' : World) (T' : Nat → Tag) (k' : Nat) (l' : LifeD) (f' : Nat) (A' : Option Addr) (c' : Nat), Keep Z w w' → Z F.v → (∀ j, (∃ y, y ≠ who ∧ (T j = .life y ∨ T j = .frm y)) ∨ T j = .imm → Z j) → More T T' → K ≤ k' → LifeM w' T' who b' f' k' l' A' c' → Lives w' T' F.v k' (upd s.lives who (some l')))
    {Ao : Option Addr} {lo : List TolD} {co : Nat} (hrow : RowM w T B 115 4 (.ordR i) (.slice Ao lo.length co) lo.length (rcells TolD.cells lo))
    {ord : V4 → List TolD} {cnt : V4 × Who → Nat} (hw13 : Keep (fun j => (Value.slice Ao lo.length co).ownBlock ≠ some j ∧ j ≠ F.o) w w13) (hT2 : More T T2) (hG14 : GM w14 B T2 F (K + 2) { s with order := ord, count := cnt }) (hk14 : Keep (fun j => j ≠ F.c) w13 w14) (hlm14 : LifeM w14 T2 who b' f (K + 2) v A c)
    (hI15 : IntMap w15 f (K + 3) (upd (fun z => (v.frm z : Int)) snd ((fr : Int) + 1))) (hk15 : Keep (fun j => j ≠ f) w14 w15) (hkE : Keep (fun j => j ≠ b') w15 wE) (hv' : v'.mem = v.mem ∧ v'.id = v.id ∧ v'.frm = upd v.frm snd (fr + 1)) (hbE : Blk wE b' 83 (lifeV v' A c f))
    (hN : sN = { s with order := ord, count := cnt, lives := upd s.lives who (some v') }) : StepP T w wE B F K 0 sN := by
  have hlm := hlm14
  have hk45 : Keep (fun j => j ≠ f ∧ j ≠ b') w14 wE := (hk15.weaken fun _ _ h => h.1).trans (hkE.weaken fun _ _ h => h.2)
  have hkw : Keep (fun j => (Value.slice Ao lo.length co).ownBlock ≠ some j ∧ j ≠ F.o ∧ j ≠ F.c ∧ j ≠ f ∧ j ≠ b') w wE := (hw13.weaken fun _ _ h => ⟨h.1, h.2.1⟩).trans ((hk14.weaken fun _ _ h => h.2.2.1).trans (hk45.weaken fun _ _ h => h.2.2.2))
  have nbf : f ≠ b' := tag_ne hlm.tf hlm.tb (by simp)
  have hm5 : LifeM wE T2 who b' f (K + 3) v' A c := by
    refine ⟨hlm.tb, hlm.tf, hbE, ?_, ?_, by rw [hv'.1]; exact hlm.le, by rw [hv'.1]; exact hlm.ints, by rw [hv'.2.1]; exact hlm.id⟩
    · rw [hv'.1]
      exact hlm.mem.keep hk45 (fun j hj => ⟨tag_ne hj hlm.tf (by simp), tag_ne hj hlm.tb (by simp)⟩) (More.refl T2)
    rw [hv'.2.2]
    have := hI15.keep hkE nbf
    have e : (fun z => ((upd v.frm snd (fr + 1)) z : Int)) = upd (fun z => (v.frm z : Int)) snd ((fr : Int) + 1) := by
      funext z
      unfold upd
      split
      · simp
      · rfl
    rw [← e] at this
    exact this
  have hZo : ∀ j, (∃ y, y ≠ who ∧ (T j = .life y ∨ T j = .frm y)) ∨ T j = .imm → ((Value.slice Ao lo.length co).ownBlock ≠ some j ∧ j ≠ F.o ∧ j ≠ F.c ∧ j ≠ f ∧ j ≠ b') := fun j hj => by
    have key : ∀ t : Tag, T j = t → t.part ≠ .ord → t.part ≠ .cnt → t ≠ .life who → t ≠ .frm who → ((Value.slice Ao lo.length co).ownBlock ≠ some j ∧ j ≠ F.o ∧ j ≠ F.c ∧ j ≠ f ∧ j ≠ b') := fun t ht h1 h2 h3 h4 =>
      ⟨fun e => by have := hrow.2 _ e; rw [ht] at this; subst this; exact h1 rfl, fun e => by subst e; rw [hG.fix.o] at ht; subst ht; exact h1 rfl, fun e => by subst e; rw [hG.fix.c] at ht; subst ht; exact h2 rfl, fun e => by subst e; rw [hm.tf] at ht; exact h4 ht.symm, fun e => by subst e; rw [hm.tb] at ht; exact h3 ht.symm⟩
    rcases hj with ⟨y, hy, hj | hj⟩ | hj
    · exact key _ hj (by simp [Tag.part]) (by simp [Tag.part]) (by simp [hy]) (by simp)
    · exact key _ hj (by simp [Tag.part]) (by simp [Tag.part]) (by simp) (by simp [hy])
    · exact key _ hj (by simp [Tag.part]) (by simp [Tag.part]) (by simp) (by simp)
  have hZv : (Value.slice Ao lo.length co).ownBlock ≠ some F.v ∧ F.v ≠ F.o ∧ F.v ≠ F.c ∧ F.v ≠ f ∧ F.v ≠ b' := ⟨(fun e => by have := hrow.2 _ e; rw [hG.fix.v] at this; cases this), tag_ne hG.fix.v hG.fix.o (by simp), tag_ne hG.fix.v hG.fix.c (by simp), tag_ne hG.fix.v hm.tf (by simp), tag_ne hG.fix.v hm.tb (by simp)⟩
  have hL5 := hset (fun j => (Value.slice Ao lo.length co).ownBlock ≠ some j ∧ j ≠ F.o ∧ j ≠ F.c ∧ j ≠ f ∧ j ≠ b') wE T2 (K + 3) _ f A c hkw hZv hZo hT2 (by omega) hm5
  have hG5 := hG14.with_lives hk45 (fun j hj hp => ⟨fun e => by rw [e, hlm.tf] at hp; exact hp rfl, fun e => by rw [e, hlm.tb] at hp; exact hp rfl⟩) (More.refl T2) (same_low hG14 hk45.size) (Nat.le_succ (K + 2)) hL5
  refine ⟨hkw.weaken fun j _ hj => ⟨hj.row hG hrow.2 (by simp) (by simp), hj.ne hG hG.fix.o (by simp) (by simp), hj.ne hG hG.fix.c (by simp) (by simp), hj.ne hG hm.tf (by simp) (by simp), hj.ne hG hm.tb (by simp) (by simp)⟩, fun _ => ⟨T2, hT2, ?_⟩⟩
  rw [hN]
  exact hG5
end Go.Proofs.Ytfpcmleeehciaaa
