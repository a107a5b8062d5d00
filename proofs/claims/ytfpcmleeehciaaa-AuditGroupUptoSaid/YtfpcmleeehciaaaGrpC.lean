/-
  WALKS OF THE CLOSURES THAT audit.Group HANDS OVER.
-/
import Derived.Test.YtfpcmleeehciaaaGrpQ
namespace Go.Proofs.Ytfpcmleeehciaaa
set_option linter.unusedVariables false
set_option linter.unusedSimpArgs false
open Go.RowKit Go.Shelf

/-! ### sameness of structs, by parts -/
theorem who_ne {x y : Who} (h : x ≠ y) : (x.1 == y.1) = false ∨ (x.1 = y.1 ∧ (x.2 == y.2) = false) := by
  by_cases e1 : x.1 = y.1
  · exact .inr ⟨e1, by simpa using fun e2 => h (Prod.ext e1 e2)⟩
  · exact .inl (by simpa using e1)
theorem view_ne {x y : V4} (h : x ≠ y) : (x.1 == y.1) = false ∨ (x.1 = y.1 ∧ (x.2.1 == y.2.1) = false) ∨ (x.1 = y.1 ∧ x.2.1 = y.2.1 ∧ (x.2.2.1 == y.2.2.1) = false) ∨ (x.1 = y.1 ∧ x.2.1 = y.2.1 ∧ x.2.2.1 = y.2.2.1 ∧ (x.2.2.2 == y.2.2.2) = false) := by
  by_cases e1 : x.1 = y.1
  · by_cases e2 : x.2.1 = y.2.1
    · by_cases e3 : x.2.2.1 = y.2.2.1
      · exact .inr (.inr (.inr ⟨e1, e2, e3, by simpa using fun e4 => h (Prod.ext e1 (Prod.ext e2 (Prod.ext e3 e4)))⟩))
      · exact .inr (.inr (.inl ⟨e1, e2, by simpa using e3⟩))
    · exact .inr (.inl ⟨e1, by simpa using e2⟩)
  · exact .inl (by simpa using e1)

theorem eqwho (x y : Who) (w : World) : Sem.run Try.prog (binOp BinOp.eql 78 (.agg #[.int .i64 x.1, .int .i64 x.2]) (.agg #[.int .i64 y.1, .int .i64 y.2])) w = .ok (.bool (decide (x = y))) w := by
  by_cases h : x = y
  · subst h
    rw [decide_eq_true rfl]
    go_simp
  · rw [decide_eq_false h]
    rcases who_ne h with hb | ⟨e, hb⟩
    · go_simp
    · go_simp
theorem eqview (x y : V4) (w : World) : Sem.run Try.prog (binOp BinOp.eql 41 (.agg #[.int .i64 x.1, .int .i64 x.2.1, .int .i64 x.2.2.1, .int .i64 x.2.2.2]) (.agg #[.int .i64 y.1, .int .i64 y.2.1, .int .i64 y.2.2.1, .int .i64 y.2.2.2])) w = .ok (.bool (decide (x = y))) w := by
  by_cases h : x = y
  · subst h
    rw [decide_eq_true rfl]
    go_simp
  · rw [decide_eq_false h]
    rcases view_ne h with hb | ⟨e1, hb⟩ | ⟨e1, e2, hb⟩ | ⟨e1, e2, e3, hb⟩
    · go_simp
    · go_simp
    · go_simp
    · go_simp
theorem neview (x y : V4) (w : World) : Sem.run Try.prog (binOp BinOp.neq 41 (.agg #[.int .i64 x.1, .int .i64 x.2.1, .int .i64 x.2.2.1, .int .i64 x.2.2.2]) (.agg #[.int .i64 y.1, .int .i64 y.2.1, .int .i64 y.2.2.1, .int .i64 y.2.2.2])) w = .ok (.bool (decide (x ≠ y))) w := by
  by_cases h : x = y
  · subst h
    rw [decide_eq_false (by simp)]
    go_simp
  · rw [decide_eq_true h]
    rcases view_ne h with hb | ⟨e1, hb⟩ | ⟨e1, e2, hb⟩ | ⟨e1, e2, e3, hb⟩
    · go_simp
    · go_simp
    · go_simp
    · go_simp
theorem tol_ne {x y : TolD} (h : x ≠ y) : (x.pos == y.pos) = false ∨ (x.pos = y.pos ∧ (x.sender == y.sender) = false) ∨ (x.pos = y.pos ∧ x.sender = y.sender ∧ (x.seq == y.seq) = false) ∨ (x.pos = y.pos ∧ x.sender = y.sender ∧ x.seq = y.seq ∧ (x.body == y.body) = false) := by
  obtain ⟨p, s, q, b⟩ := x
  obtain ⟨p', s', q', b'⟩ := y
  by_cases e1 : p = p'
  · by_cases e2 : s = s'
    · by_cases e3 : q = q'
      · refine .inr (.inr (.inr ⟨e1, e2, e3, ?_⟩))
        simp only [beq_eq_false_iff_ne]
        intro e4
        subst e1 e2 e3 e4
        exact h rfl
      · exact .inr (.inr (.inl ⟨e1, e2, by simpa using e3⟩))
    · exact .inr (.inl ⟨e1, by simpa using e2⟩)
  · exact .inl (by simpa using e1)
theorem netol (x y : TolD) (w : World) : Sem.run Try.prog (binOp BinOp.neq 115 (.agg #[.int .i64 x.pos, .int .i64 x.sender, .int .i64 x.seq, tx x.body]) (.agg #[.int .i64 y.pos, .int .i64 y.sender, .int .i64 y.seq, tx y.body])) w = .ok (.bool (decide (x ≠ y))) w := by
  by_cases h : x = y
  · subst h
    rw [decide_eq_false (by simp)]
    go_simp
  · rw [decide_eq_true h]
    rcases tol_ne h with hb | ⟨e1, hb⟩ | ⟨e1, e2, hb⟩ | ⟨e1, e2, e3, hb⟩
    · go_simp
    · go_simp
    · go_simp
    · go_simp

/-! ### wellFormed's -/
theorem fits_any (x : MemD) (W : World) : Calls Try.prog 74 #[memA x] W fun e w' => e = .returned (.bool (fitB x)) ∧ Fresh W w' := by
  obtain ⟨p, i, c⟩ := x
  have hcs : p < 0 ∨ (0 ≤ p ∧ 16 ≤ p) ∨ (0 ≤ p ∧ p < 16 ∧ i ≤ 0) ∨ (0 ≤ p ∧ p < 16 ∧ 0 < i ∧ c ≤ 0) ∨ (0 ≤ p ∧ p < 16 ∧ 0 < i ∧ 0 < c) := by omega
  unfold memA
  rcases hcs with h | ⟨h1, h⟩ | ⟨h1, h2, h⟩ | ⟨h1, h2, h3, h⟩ | ⟨h1, h2, h3, h⟩
  · have e : fitB ⟨p, i, c⟩ = false := by unfold fitB; exact decide_eq_false (by simp only; omega)
    rw [e]; clear e
    go_enter Try.func74, Try.ntmps74
    go_wp2
    go_ret
    exact ⟨rfl, (Keep.refl _ W).alloc _⟩
  · have e : fitB ⟨p, i, c⟩ = false := by unfold fitB; exact decide_eq_false (by simp only; omega)
    rw [e]; clear e
    go_enter Try.func74, Try.ntmps74
    go_wp2
    go_ret
    exact ⟨rfl, (Keep.refl _ W).alloc _⟩
  · have e : fitB ⟨p, i, c⟩ = false := by unfold fitB; exact decide_eq_false (by simp only; omega)
    rw [e]; clear e
    go_enter Try.func74, Try.ntmps74
    go_wp2
    go_ret
    exact ⟨rfl, (Keep.refl _ W).alloc _⟩
  · have e : fitB ⟨p, i, c⟩ = false := by unfold fitB; exact decide_eq_false (by simp only; omega)
    have hd : decide (0 < c) = false := decide_eq_false (by omega)
    rw [e]; clear e
    go_enter Try.func74, Try.ntmps74
    go_wp2
    go_ret
    exact ⟨rfl, (Keep.refl _ W).alloc _⟩
  · have e : fitB ⟨p, i, c⟩ = true := by unfold fitB; exact decide_eq_true (by simp only; omega)
    rw [e]; clear e
    go_enter Try.func74, Try.ntmps74
    go_wp2
    go_ret
    exact ⟨rfl, (Keep.refl _ W).alloc _⟩
theorem fits_pred (xs : List MemD) (w : World) : PredF 74 #[] memA fitB xs w := fun W x _ _ => by simpa using fits_any x W
def isWho (u : Who) (x : MemD) : Bool := decide (x.p = u.1) && decide (x.i = u.2)
theorem iswho_any (u : Who) (b : Nat) (x : MemD) (W : World) (h : Blk W b 78 #[.int .i64 u.1, .int .i64 u.2]) : Calls Try.prog 78 #[memA x, .pointer (some ⟨b, 0, none⟩)] W fun e w' => e = .returned (.bool (isWho u x)) ∧ Fresh W w' := by
  obtain ⟨p, i, c⟩ := x
  obtain ⟨u1, u2⟩ := u
  have c0 : W.cell? ⟨b, 0, none⟩ = some (.int .i64 u1) := h.cell 0
  have c1 : W.cell? ⟨b, 1, none⟩ = some (.int .i64 u2) := h.cell 1
  have hlt := h.lt
  unfold memA
  clear h
  by_cases h1 : p = u1
  · subst h1
    by_cases h2 : i = u2
    · subst h2
      have e : isWho (p, i) ⟨p, i, c⟩ = true := by simp [isWho]
      rw [e]; clear e
      go_enter Try.func78, Try.ntmps78
      go_wp2
      go_ret
      exact ⟨rfl, (Keep.refl _ W).alloc _⟩
    · have e : isWho (p, u2) ⟨p, i, c⟩ = false := by simp [isWho, h2]
      have hb : (i == u2) = false := by simpa using h2
      rw [e]; clear e
      go_enter Try.func78, Try.ntmps78
      go_wp2
      go_ret
      exact ⟨rfl, (Keep.refl _ W).alloc _⟩
  · have e : isWho (u1, u2) ⟨p, i, c⟩ = false := by simp [isWho, h1]
    have hb : (p == u1) = false := by simpa using h1
    rw [e]; clear e
    go_enter Try.func78, Try.ntmps78
    go_wp2
    go_ret
    exact ⟨rfl, (Keep.refl _ W).alloc _⟩
theorem iswho_pred (u : Who) (b : Nat) (xs : List MemD) (w : World) (h : Blk w b 78 #[.int .i64 u.1, .int .i64 u.2]) : PredF 78 #[.pointer (some ⟨b, 0, none⟩)] memA (isWho u) xs w := fun W x _ hf => by simpa using iswho_any u b x W (h.keep hf trivial)

/-! ### together's -/
theorem ispid_any (z : Int) (b : Nat) (x : MemD) (W : World) (h : W.cell? ⟨b, 0, none⟩ = some (.int .i64 z)) : Calls Try.prog 81 #[memA x, .pointer (some ⟨b, 0, none⟩)] W fun e w' => e = .returned (.bool (decide (x.p = z))) ∧ Fresh W w' := by
  obtain ⟨p, i, c⟩ := x
  have hlt := lt_of_cell h
  unfold memA
  simp only
  by_cases h1 : p = z
  · subst h1
    rw [decide_eq_true rfl]
    go_enter Try.func81, Try.ntmps81
    go_wp2
    go_ret
    exact ⟨rfl, (Keep.refl _ W).alloc _⟩
  · have hb : (p == z) = false := by simpa using h1
    rw [decide_eq_false h1]
    go_enter Try.func81, Try.ntmps81
    go_wp2
    go_ret
    exact ⟨rfl, (Keep.refl _ W).alloc _⟩
theorem ispid_pred (z : Int) (b : Nat) (xs : List MemD) (w : World) (h : w.cell? ⟨b, 0, none⟩ = some (.int .i64 z)) : PredF 81 #[.pointer (some ⟨b, 0, none⟩)] memA (fun x => decide (x.p = z)) xs w := fun W x _ hf => by simpa using ispid_any z b x W (hf.cellAt h trivial)
theorem member_any (b : Nat) (A : Option Addr) (c : Nat) (ms : List MemD) (Z : Nat → Prop) (z : Int) (W : World) (h : W.cell? ⟨b, 8, none⟩ = some (.slice A ms.length c)) (hr : Rd W Z 3 A ms.length (rcells MemD.cells ms)) (hl : ms.length ≤ 1048576) :
    Calls Try.prog 80 #[intA z, .pointer (some ⟨b, 0, none⟩)] W fun e w' => e = .returned (.bool (memB ms z)) ∧ Fresh W w' := by
  have hlt := lt_of_cell h
  have eg : Enters Try.prog 81 := enters_of Try.func81 (by kernel_rfl) rfl
  have HC := Lib.hid (cont_mem eg (fun x => decide (x.p = z)) Z A ms.length c ms (W.alloc (.cells #[.int .i64 z] 3)) (hr.keep ((Keep.refl _ W).alloc _)) rfl hl (ispid_pred z W.heap.size ms _ ((Blk.new W 3 #[.int .i64 z]).cell 0)))
  unfold intA
  clear hr eg
  go_enter Try.func80, Try.ntmps80
  go_wp2_with fail
  refine Calls.mono HC.out ?_
  rintro e w1 ⟨rfl, hf1⟩
  have H1 := Lib.hid (((Keep.refl _ W).alloc _).trans hf1 : Fresh W w1)
  clear hf1 HC
  go_wp2_with fail
  go_ret
  exact ⟨rfl, H1.out⟩
theorem member_pred (b : Nat) (A : Option Addr) (c : Nat) (ms : List MemD) (Z : Nat → Prop) (zs : List Int) (w : World) (h : w.cell? ⟨b, 8, none⟩ = some (.slice A ms.length c)) (hr : Rd w Z 3 A ms.length (rcells MemD.cells ms)) (hl : ms.length ≤ 1048576) :
    PredF 80 #[.pointer (some ⟨b, 0, none⟩)] intA (memB ms) zs w := fun W z _ hf => by simpa using member_any b A c ms Z z W (hf.cellAt h trivial) (hr.keep (hf.weaken fun _ _ _ => trivial)) hl

/-! ### install's and stable's -/
theorem sameWho_any (u : Who) (b : Nat) (x : EntV) (W : World) (h : Blk W b 78 #[.int .i64 u.1, .int .i64 u.2]) : Calls Try.prog 39 #[entA x, .pointer (some ⟨b, 0, none⟩)] W fun e w' => e = .returned (.bool (decide (x.d.w = u))) ∧ Fresh W w' := by
  obtain ⟨⟨⟨x1, x2⟩, ⟨f1, f2, f3, f4⟩, tr, dn⟩, A, c⟩ := x
  obtain ⟨u1, u2⟩ := u
  have c0 : W.cell? ⟨b, 0, none⟩ = some (.int .i64 u1) := h.cell 0
  have c1 : W.cell? ⟨b, 1, none⟩ = some (.int .i64 u2) := h.cell 1
  have hlt := h.lt
  unfold entA
  simp only
  clear h
  by_cases h1 : (x1, x2) = (u1, u2)
  · rw [decide_eq_true h1]
    injection h1 with e1 e2
    subst e1 e2
    go_enter Try.func39, Try.ntmps39
    go_wp2
    go_ret
    exact ⟨rfl, (Keep.refl _ W).alloc _⟩
  · rw [decide_eq_false h1]
    rcases who_ne h1 with hb | ⟨e, hb⟩
    · simp only at hb
      clear h1
      go_enter Try.func39, Try.ntmps39
      go_wp2
      go_ret
      exact ⟨rfl, (Keep.refl _ W).alloc _⟩
    · simp only at e hb
      subst e
      clear h1
      go_enter Try.func39, Try.ntmps39
      go_wp2
      go_ret
      exact ⟨rfl, (Keep.refl _ W).alloc _⟩
theorem sameWho_pred (u : Who) (b : Nat) (xs : List EntV) (w : World) (h : Blk w b 78 #[.int .i64 u.1, .int .i64 u.2]) : PredF 39 #[.pointer (some ⟨b, 0, none⟩)] entA (fun x => decide (x.d.w = u)) xs w := fun W x _ hf => by simpa using sameWho_any u b x W (h.keep hf trivial)

theorem sender_any (z : Int) (b : Nat) (x : MemD) (W : World) (h : W.cell? ⟨b, 10, none⟩ = some (.int .i64 z)) : Calls Try.prog 47 #[memA x, .pointer (some ⟨b, 0, none⟩)] W fun e w' => e = .returned (.bool (decide (x.p = z))) ∧ Fresh W w' := by
  obtain ⟨p, i, c⟩ := x
  have hlt := lt_of_cell h
  unfold memA
  simp only
  by_cases h1 : p = z
  · subst h1
    rw [decide_eq_true rfl]
    go_enter Try.func47, Try.ntmps47
    go_wp2
    go_ret
    exact ⟨rfl, (Keep.refl _ W).alloc _⟩
  · have hb : (p == z) = false := by simpa using h1
    rw [decide_eq_false h1]
    go_enter Try.func47, Try.ntmps47
    go_wp2
    go_ret
    exact ⟨rfl, (Keep.refl _ W).alloc _⟩
theorem sender_pred (z : Int) (b : Nat) (xs : List MemD) (w : World) (h : w.cell? ⟨b, 10, none⟩ = some (.int .i64 z)) : PredF 47 #[.pointer (some ⟨b, 0, none⟩)] memA (fun x => decide (x.p = z)) xs w := fun W x _ hf => by simpa using sender_any z b x W (hf.cellAt h trivial)
theorem both_any (frm : V4) (tr : List Int) (u : Who) (b1 b2 b3 b4 : Nat) (At : Option Addr) (ct : Nat) (Zt Z : Nat → Prop) (x : EntV) (W : World)
    (h1 : Blk W b1 41 #[.int .i64 frm.1, .int .i64 frm.2.1, .int .i64 frm.2.2.1, .int .i64 frm.2.2.2]) (h2 : Blk W b2 41 #[.int .i64 0, .int .i64 0, .int .i64 0, .int .i64 0]) (h3 : W.cell? ⟨b3, 9, none⟩ = some (.slice At tr.length ct)) (h4 : W.cell? ⟨b4, 0, none⟩ = some (.int .i64 u.1))
    (hr : Rd W Zt 1 At tr.length (ics tr)) (hl : tr.length ≤ 1048576) (hx : Rd W Z 1 x.A x.d.tr.length (ics x.d.tr)) (hxl : x.d.tr.length ≤ 1048576) :
    Calls Try.prog 86 #[entA x, .pointer (some ⟨b1, 0, none⟩), .pointer (some ⟨b2, 0, none⟩), .pointer (some ⟨b3, 0, none⟩), .pointer (some ⟨b4, 0, none⟩)] W fun e w' => e = .returned (.bool (bothB u frm tr x.d)) ∧ Fresh W w' := by
  obtain ⟨r, hr0⟩ : ∃ r, r = bothB u frm tr x.d := ⟨_, rfl⟩
  rw [← hr0]
  have f0 := h1.cell 0; have f1 := h1.cell 1; have f2 := h1.cell 2; have f3 := h1.cell 3
  have n0 := h2.cell 0; have n1 := h2.cell 1; have n2 := h2.cell 2; have n3 := h2.cell 3
  simp at f0 f1 f2 f3 n0 n1 n2 n3
  have l1 := h1.lt; have l2 := h2.lt; have l3 := lt_of_cell h3; have l4 := lt_of_cell h4
  have Q1 := fun w => neview frm nov w
  have Q2 := fun w => eqview x.d.frm frm w
  obtain ⟨d1, hd1⟩ : ∃ d, d = decide (frm ≠ nov) := ⟨_, rfl⟩
  obtain ⟨d2, hd2⟩ : ∃ d, d = decide (x.d.frm = frm) := ⟨_, rfl⟩
  rw [← hd1] at Q1
  rw [← hd2] at Q2
  simp only [nov] at Q1
  obtain ⟨⟨⟨x1, x2⟩, ⟨g1, g2, g3, g4⟩, xt, dn⟩, A, c⟩ := x
  obtain ⟨t1, ht1⟩ : ∃ d, d = tr.contains x1 := ⟨_, rfl⟩
  obtain ⟨t2, ht2⟩ : ∃ d, d = xt.contains u.1 := ⟨_, rfl⟩
  have HE : Hid (r = ((t1 == (d1 && d2)) && (t2 == (d1 && d2)))) := Lib.hid (by rw [hr0, ht1, ht2, hd1, hd2]; rfl)
  have HT1 := Lib.hid (fun w' (hf : Fresh W w') => has_int Zt At tr.length ct tr x1 w' (hr.keep (hf.weaken fun _ _ _ => trivial)) rfl hl)
  have HT2 := Lib.hid (fun w' (hf : Fresh W w') => has_int Z A xt.length c xt u.1 w' (hx.keep (hf.weaken fun _ _ _ => trivial)) rfl hxl)
  rw [← ht1] at HT1
  rw [← ht2] at HT2
  simp only at hx hxl
  unfold entA
  simp only at Q2 ⊢
  clear h1 h2 hr hx hd1 hd2 ht1 ht2 hr0
  cases d1
  · go_enter Try.func86, Try.ntmps86
    go_wp2_with fail
    refine Calls.mono (HT1.out _ ((Keep.refl _ W).alloc _)) ?_
    rintro e _ ⟨rfl, rfl⟩
    cases t1
    · clear HT1
      go_wp2_with fail
      refine Calls.mono (HT2.out _ ((Keep.refl _ W).alloc _)) ?_
      rintro e _ ⟨rfl, rfl⟩
      clear HT2
      cases t2
      · go_wp2_with fail
        go_ret
        exact ⟨ret_bool (by rw [HE.out]; rfl), (Keep.refl _ W).alloc _⟩
      · go_wp2_with fail
        go_ret
        exact ⟨ret_bool (by rw [HE.out]; rfl), (Keep.refl _ W).alloc _⟩
    · go_wp2_with fail
      go_ret
      exact ⟨ret_bool (by rw [HE.out]; rfl), (Keep.refl _ W).alloc _⟩
  · cases d2
    · go_enter Try.func86, Try.ntmps86
      go_wp2_with fail
      refine Calls.mono (HT1.out _ ((Keep.refl _ W).alloc _)) ?_
      rintro e _ ⟨rfl, rfl⟩
      cases t1
      · clear HT1
        go_wp2_with fail
        refine Calls.mono (HT2.out _ ((Keep.refl _ W).alloc _)) ?_
        rintro e _ ⟨rfl, rfl⟩
        clear HT2
        cases t2
        · go_wp2_with fail
          go_ret
          exact ⟨ret_bool (by rw [HE.out]; rfl), (Keep.refl _ W).alloc _⟩
        · go_wp2_with fail
          go_ret
          exact ⟨ret_bool (by rw [HE.out]; rfl), (Keep.refl _ W).alloc _⟩
      · go_wp2_with fail
        go_ret
        exact ⟨ret_bool (by rw [HE.out]; rfl), (Keep.refl _ W).alloc _⟩
    · go_enter Try.func86, Try.ntmps86
      go_wp2_with fail
      refine Calls.mono (HT1.out _ ((Keep.refl _ W).alloc _)) ?_
      rintro e _ ⟨rfl, rfl⟩
      cases t1
      · go_wp2_with fail
        go_ret
        exact ⟨ret_bool (by rw [HE.out]; rfl), (Keep.refl _ W).alloc _⟩
      · clear HT1
        go_wp2_with fail
        refine Calls.mono (HT2.out _ ((Keep.refl _ W).alloc _)) ?_
        rintro e _ ⟨rfl, rfl⟩
        clear HT2
        cases t2
        · go_wp2_with fail
          go_ret
          exact ⟨ret_bool (by rw [HE.out]; rfl), (Keep.refl _ W).alloc _⟩
        · go_wp2_with fail
          go_ret
          exact ⟨ret_bool (by rw [HE.out]; rfl), (Keep.refl _ W).alloc _⟩
end Go.Proofs.Ytfpcmleeehciaaa
