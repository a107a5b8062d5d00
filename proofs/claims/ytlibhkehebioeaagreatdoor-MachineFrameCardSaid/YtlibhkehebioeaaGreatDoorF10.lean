/-
  MERGED: Parse RPairs AppK Lists
-/
import Derived.Test.YtlibhkehebioeaaGreatDoorF9
import Derived.Test.YtlibhkehebioeaaGreatDoorF8
import Derived.Test.YtlibhkehebioeaaGreatDoorF3
import Derived.Test.YtlibhkehebioeaaGreatDoorF1
namespace Go.Proofs.YtlibhkehebioeaaGreatDoor
set_option linter.unusedVariables false
set_option linter.unusedSimpArgs false

/-! ### the two readers and 'oNum', 'oTxt' -/
section
variable {bs : List UInt8} {p p' : Nat}
theorem count_of_o {v hi : Nat} (h : oNum bs p hi = some (v, p')) : rCount bs p false (hi : Int) = (v, p', false) := by
  unfold oNum at h
  split at h
  · rename_i hc
    injection h with h
    injection h with h1 h2
    rw [rCount, if_neg, h1, h2]
    rintro (h3 | h3 | h3)
    · cases h3
    · exact h3 hc.1
    · have := hc.2; omega
  · cases h
theorem o_of_count {bad : Bool} {hi : Nat} (h : (rCount bs p bad (hi : Int)).2.2 = false) : bad = false ∧ oNum bs p hi = some ((rCount bs p bad (hi : Int)).1, (rCount bs p bad (hi : Int)).2.1) := by
  unfold rCount at h ⊢
  split at h
  · cases h
  · rename_i hc
    rw [if_neg hc]
    have h1 : bad = false := by cases bad with
      | false => rfl
      | true => exact absurd (.inl rfl) hc
    have h2 : (takeB (bs.drop p)).2.2 = 0 := Classical.not_not.1 fun h => hc (.inr (.inl h))
    have h3 : ¬ (hi : Int) < ((takeB (bs.drop p)).1 : Int) := fun h => hc (.inr (.inr h))
    refine ⟨h1, ?_⟩
    unfold oNum
    rw [if_pos ⟨h2, by omega⟩]
theorem text_of_o {t : Txt} (h : oTxt bs p = some (t, p')) : rText bs p false 8 = (t, p', false) := by
  unfold oTxt at h
  obtain ⟨⟨x, q⟩, h1, h⟩ := some_bind h
  have h2 : rCount bs p false 8 = (x, q, false) := count_of_o h1
  simp only at h
  split at h
  · rename_i hl
    injection h with h
    injection h with e1 e2
    rw [rText, h2, if_neg, ← e1, ← e2]
    rintro (h3 | h3)
    · cases h3
    · simp only at h3; omega
  · cases h
theorem o_of_text {bad : Bool} (h : (rText bs p bad 8).2.2 = false) : bad = false ∧ oTxt bs p = some ((rText bs p bad 8).1, (rText bs p bad 8).2.1) := by
  unfold rText at h ⊢
  split at h
  · cases h
  · rename_i hc
    rw [if_neg hc]
    have h1 : (rCount bs p bad 8).2.2 = false := by
      cases hb : (rCount bs p bad 8).2.2 with
      | false => rfl
      | true => exact absurd (.inl hb) hc
    obtain ⟨hb, ho⟩ := o_of_count (hi := 8) h1
    have h3 : ¬ bs.length < (rCount bs p bad 8).2.1 + (rCount bs p bad 8).1 := fun h => hc (.inr h)
    refine ⟨hb, ?_⟩
    unfold oTxt
    rw [ho]
    simp only [Option.bind_some]
    rw [if_pos (by have := h3; show (rCount bs p bad (8 : Nat)).2.1 + (rCount bs p bad (8 : Nat)).1 ≤ bs.length; simpa using h3)]
    rfl
theorem num_of_o {v hi : Nat} {lo : Int} (h : oNum bs p hi = some (v, p')) (hl : lo ≤ (v : Int)) : nNum bs p 0 lo (hi : Int) = (v, p', 0) := by
  unfold oNum at h
  split at h
  · rename_i hc
    injection h with h
    injection h with h1 h2
    rw [nNum, if_neg (by simp), if_neg (by simpa using hc.1), if_neg, h1, h2]
    have := hc.2
    rintro (h3 | h3) <;> omega
  · cases h
theorem o_of_num {hi : Nat} {e lo : Int} (h : (nNum bs p e lo (hi : Int)).2.2 = 0) : e = 0 ∧ oNum bs p hi = some ((nNum bs p e lo (hi : Int)).1, (nNum bs p e lo (hi : Int)).2.1) ∧ lo ≤ ((nNum bs p e lo (hi : Int)).1 : Int) := by
  unfold nNum at h ⊢
  split at h
  · rename_i h1; exact absurd h h1
  · rename_i h1
    rw [if_neg h1]
    split at h
    · rename_i h2; exact absurd h h2
    · rename_i h2
      rw [if_neg h2]
      split at h
      · exact absurd h (show ¬((16 : Int) = 0) by decide)
      · rename_i h3
        rw [if_neg h3]
        refine ⟨Classical.not_not.1 h1, ?_, by show lo ≤ ((takeB (bs.drop p)).1 : Int); omega⟩
        unfold oNum
        rw [if_pos ⟨Classical.not_not.1 h2, by omega⟩]
end

/-! ### a list read with a flag -/
section
variable {α σ : Type}
/-- One after the other: what is read, where the reader stands, is something amiss? 'chk': what else must be, from what came before. -/
def runF (rd : Nat → Bool → α × Nat × Bool) (chk : σ → α → Bool) (nxt : σ → α → σ) : Nat → Nat → Bool → σ → List α × Nat × Bool
  | 0, p, bad, _ => ([], p, bad)
  | n + 1, p, bad, s =>
    let x := rd p bad
    let r := runF rd chk nxt n x.2.1 (x.2.2 || !chk s x.1) (nxt s x.1)
    (x.1 :: r.1, r.2)
def chkAll (chk : σ → α → Bool) (nxt : σ → α → σ) : σ → List α → Prop
  | _, [] => True
  | s, x :: r => chk s x = true ∧ chkAll chk nxt (nxt s x) r
variable {rd : Nat → Bool → α × Nat × Bool} {chk : σ → α → Bool} {nxt : σ → α → σ} {one : Nat → Option (α × Nat)}
theorem runF_bad (hbad : ∀ p, (rd p true).2.2 = true) : ∀ (n p : Nat) (s : σ), (runF rd chk nxt n p true s).2.2 = true
  | 0, _, _ => rfl
  | n + 1, p, s => by
    show (runF rd chk nxt n _ ((rd p true).2.2 || !chk s (rd p true).1) _).2.2 = true
    rw [hbad p]
    exact runF_bad hbad n _ _
theorem runF_ok (h1 : ∀ p bad, (rd p bad).2.2 = false → bad = false ∧ one p = some ((rd p bad).1, (rd p bad).2.1)) :
    ∀ (n p : Nat) (bad : Bool) (s : σ), (runF rd chk nxt n p bad s).2.2 = false → bad = false ∧ oMany one n p = some ((runF rd chk nxt n p bad s).1, (runF rd chk nxt n p bad s).2.1) ∧ chkAll chk nxt s (runF rd chk nxt n p bad s).1
  | 0, p, bad, s, h => ⟨h, rfl, trivial⟩
  | n + 1, p, bad, s, h => by
    have h2 : (runF rd chk nxt n (rd p bad).2.1 ((rd p bad).2.2 || !chk s (rd p bad).1) (nxt s (rd p bad).1)).2.2 = false := h
    obtain ⟨a1, a2, a3⟩ := runF_ok h1 n _ _ _ h2
    rw [Bool.or_eq_false_iff] at a1
    obtain ⟨b1, b2⟩ := h1 p bad a1.1
    refine ⟨b1, ?_, ⟨by simpa using a1.2, a3⟩⟩
    rw [oMany, b2]
    simp only [Option.bind_some]
    rw [a2]
    rfl
theorem runF_of (h1 : ∀ p x p', one p = some (x, p') → rd p false = (x, p', false)) :
    ∀ (n p p' : Nat) (s : σ) (l : List α), oMany one n p = some (l, p') → chkAll chk nxt s l → runF rd chk nxt n p false s = (l, p', false)
  | 0, p, p', s, l, h, _ => by
    simp [oMany] at h
    obtain ⟨rfl, rfl⟩ := h
    rfl
  | n + 1, p, p', s, l, h, hc => by
    rw [oMany] at h
    obtain ⟨⟨x, q⟩, h2, h⟩ := some_bind h
    obtain ⟨⟨r, q2⟩, h3, h⟩ := some_bind h
    injection h with h
    injection h with e1 e2
    subst e1
    simp only at h3 e2
    subst e2
    have h4 := h1 p x q h2
    show ((rd p false).1 :: (runF rd chk nxt n (rd p false).2.1 ((rd p false).2.2 || !chk s (rd p false).1) (nxt s (rd p false).1)).1, (runF rd chk nxt n (rd p false).2.1 ((rd p false).2.2 || !chk s (rd p false).1) (nxt s (rd p false).1)).2) = _
    rw [h4]
    simp only [hc.1, Bool.not_true, Bool.or_false]
    rw [runF_of h1 n q q2 (nxt s x) r h3 hc.2]
end

/-! ### no snapshot is longer than 1070 bytes -/
theorem flat_len {α : Type} {f : α → List UInt8} {k : Nat} : ∀ (l : List α), (∀ x ∈ l, (f x).length ≤ k) → (l.flatMap f).length ≤ l.length * k
  | [], _ => by simp
  | x :: r, h => by
    have h1 := flat_len r (fun y hy => h y (by simp [hy]))
    have h2 := h x (by simp)
    rw [List.flatMap_cons, List.length_append, List.length_cons, Nat.add_mul]
    omega
theorem txt_len9 {t : Txt} (h : t.length ≤ 8) : (txt t).length ≤ 9 := by
  unfold txt
  rw [List.length_append, putB_one (by omega)]
  omega
theorem snap_len {s : StD} (h : Inv s) : (snapB s).length ≤ 1070 := by
  have t0 := h.lk.tok0
  have t1 := h.lk.tok1
  have l4 : ∀ v : Nat, v ≤ 99999999 → (putB v).length ≤ 4 := fun v hv => putB_len 3 v (by omega)
  have hpl := h.pr.len
  have hll := h.lk.len
  have hal := asked_len s.ss
  have h1 : (s.pairs.flatMap pairB).length ≤ s.pairs.length * 18 := flat_len _ fun x hx => by
    have := txt_len9 (h.pr.each x hx).2.1
    have := txt_len9 (h.pr.each x hx).2.2
    unfold pairB
    rw [List.length_append]
    omega
  have h2 : (s.locks.flatMap lockB).length ≤ s.locks.length * 30 := flat_len _ fun l hl => by
    have hk := h.lk.each l hl
    have a1 := txt_len9 hk.n8
    have a2 : (putB l.holder.toNat).length = 1 := putB_one (by have := hk.h1; omega)
    have a3 := l4 l.token.toNat (by have := hk.t1; omega)
    have hq15 : l.queue.length ≤ 15 := by
      have h1 : (l.holder :: l.queue).length ≤ 16 := queue_len (List.nodup_cons.2 ⟨hk.hq, hk.nd⟩) (fun c hc => by
        rcases List.mem_cons.1 hc with rfl | hc
        · exact ⟨hk.h0, hk.h1⟩
        · exact hk.q c hc)
      simpa using h1
    have a4 : (putB l.queue.length).length = 1 := putB_one (by omega)
    have a5 : (queueB l.queue).length ≤ l.queue.length * 1 := flat_len _ fun c hc => by
      rw [putB_one (by have := hk.q c hc; omega)]
      exact Nat.le_refl _
    unfold lockB
    simp only [List.length_append]
    omega
  have h3 : ((asked s.ss).flatMap sesB).length ≤ (asked s.ss).length * 33 := flat_len _ fun x hx => by
    obtain ⟨hx1, hk⟩ := ses_asked h hx
    have a1 : (putB x.1).length = 1 := putB_one (by omega)
    have a2 := putB_len9 (v := x.2.inc.toNat) (by have := hk.i1; omega)
    have a3 := putB_len9 (v := x.2.req.toNat) (by have := hk.r1; omega)
    have a4 : (putB x.2.last.code.toNat).length = 1 := putB_one (by have := hk.last.c1; omega)
    have a5 := txt_len9 hk.last.v
    have a6 := l4 x.2.last.n.toNat (by have := hk.last.n1; omega)
    unfold sesB
    simp only [List.length_append]
    omega
  have b1 := l4 s.tok.toNat (by omega)
  have b2 : (putB s.pairs.length).length = 1 := putB_one (by omega)
  have b3 : (putB s.locks.length).length = 1 := putB_one (by omega)
  have b4 : (putB (asked s.ss).length).length = 1 := putB_one (by omega)
  have hh : headB.length = 3 := rfl
  unfold snapB bodyB restB
  simp only [List.length_append, sumB_four]
  omega
end Go.Proofs.YtlibhkehebioeaaGreatDoor
namespace Go.Proofs.YtlibhkehebioeaaGreatDoor
set_option linter.unusedVariables false
set_option linter.unusedSimpArgs false
open Go.RowKit

/-! ### plain -/
theorem rCount_most (bs : Txt) (p : Nat) (bad : Bool) {most : Int} (h : 0 ≤ most) : ((rCount bs p bad most).1 : Int) ≤ most := by
  unfold rCount
  split
  · exact h
  · rename_i h1
    simp only
    omega
theorem rText_len (bs : Txt) (p : Nat) (bad : Bool) {most : Int} (h : 0 ≤ most) : ((rText bs p bad most).1.length : Int) ≤ most := by
  have h1 := rCount_most bs p bad h
  unfold rText
  split
  · exact h
  · have h2 := List.length_take_le (rCount bs p bad most).1 (bs.drop (rCount bs p bad most).2.1)
    simp only
    omega
def rdPair (bs : Txt) (p : Nat) (bad : Bool) : (Txt × Txt) × Nat × Bool := (((rText bs p bad 8).1, (rText bs (rText bs p bad 8).2.1 (rText bs p bad 8).2.2 8).1), (rText bs (rText bs p bad 8).2.1 (rText bs p bad 8).2.2 8).2)
def pchk (last : Txt) (x : Txt × Txt) : Bool := bytesBefore last x.1
def pnxt (last : Txt) (x : Txt × Txt) : Txt := x.1
abbrev rPairs (bs : Txt) (p : Nat) (bad : Bool) : List (Txt × Txt) × Nat × Bool := runF (rdPair bs) pchk pnxt (rCount bs p bad 16).1 (rCount bs p bad 16).2.1 (rCount bs p bad 16).2.2 []
theorem runF_succ {α σ : Type} (rd : Nat → Bool → α × Nat × Bool) (chk : σ → α → Bool) (nxt : σ → α → σ) (n p : Nat) (bad : Bool) (s : σ) :
    runF rd chk nxt (n + 1) p bad s = ((rd p bad).1 :: (runF rd chk nxt n (rd p bad).2.1 ((rd p bad).2.2 || !chk s (rd p bad).1) (nxt s (rd p bad).1)).1, (runF rd chk nxt n (rd p bad).2.1 ((rd p bad).2.2 || !chk s (rd p bad).1) (nxt s (rd p bad).1)).2) := rfl
theorem pput_last {k v : Txt} : ∀ {ps : Ps}, (∀ y ∈ ps, bytesBefore y.1 k = true) → pput k v ps = ps ++ [(k, v)] := by
  intro ps h
  have hd : pdel k ps = ps := by
    unfold pdel
    refine List.filter_eq_self.2 fun x hx => ?_
    have := before_ne (h x hx)
    simpa using this
  unfold pput
  rw [hd]
  clear hd
  induction ps with
  | nil => rfl
  | cons y r ih =>
    have h1 := before_asymm (h y (by simp))
    rw [pins, if_neg (by simp [h1]), ih fun z hz => h z (by simp [hz])]
    rfl
theorem pput_rise {k v : Txt} {ps : Ps} (h : Rise (ps.map Prod.fst)) : Rise ((pput k v ps).map Prod.fst) := by
  rw [pput_eq k v ps h]
  unfold pputD
  cases hf : pfindD k ps with
  | some x => simp only; rw [setK_keys]; exact h
  | none => exact insK_rise h (findK_none hf)
theorem pput_len (k v : Txt) (ps : Ps) : (pput k v ps).length ≤ ps.length + 1 := by
  have h := mput_len k (str v) (sk ps)
  rw [sk_put, sk_len, sk_len] at h
  exact h

theorem less_before : ∀ a b : Txt, Op.bytesLess a b = bytesBefore a b
  | [], [] => rfl
  | [], _ :: _ => rfl
  | _ :: _, [] => rfl
  | a :: r, b :: s => by
    show (a < b || (a == b && Op.bytesLess r s)) = (a < b || (a == b && bytesBefore r s))
    rw [less_before r s]
theorem leq_before {t last : Txt} (h : Op.bytesLess t last = true ∨ (t == last) = true) : bytesBefore last t = false := by
  rw [less_before] at h
  rcases h with h | h
  · exact before_asymm h
  · have e : t = last := by simpa using h
    rw [e]
    exact before_irrefl last
theorem gt_before {t last : Txt} (h : Op.bytesLess t last = false ∧ (t == last) = false) : bytesBefore last t = true := by
  rw [less_before] at h
  exact before_not h.1 (by simpa using h.2)
structure RPAt (bs : Txt) (R : List (Txt × Txt) × Nat × Bool) (cnt k : Nat) (last : Txt) (g bp : Nat) (A : Option Addr) (n c : Nat) (w wr : World) (pk : Nat) (badk : Bool) (pre ps : Ps) : Prop where
  eq : R = (pre ++ (runF (rdPair bs) pchk pnxt (cnt - k) pk badk last).1, (runF (rdPair bs) pchk pnxt (cnt - k) pk badk last).2)
  rd : Rdr wr g A n c pk badk
  pn : pk ≤ n
  mp : MapIs Tryz.prog 9 wr bp (sk ps)
  rise : Rise (ps.map Prod.fst)
  len : ps.length ≤ k
  ok : badk = false → ps = pre ∧ ∀ y ∈ pre, y.1 = last ∨ bytesBefore y.1 last = true
  keep : Keep (fun j => j ≠ g ∧ j ≠ bp) w wr
/-- One pair more. -/
theorem rp_step {bs : Txt} {R : List (Txt × Txt) × Nat × Bool} {cnt k : Nat} {last t1 t2 : Txt} {g bp : Nat} {A : Option Addr} {n c : Nat} {w wr w2 : World} {pk : Nat} {badk : Bool} {pre ps : Ps} {q1 q2 : Txt × Nat × Bool} {bad2 : Bool}
    (h : RPAt bs R cnt k last g bp A n c w wr pk badk pre ps) (hk : k < cnt) (h1 : q1 = rText bs pk badk 8) (h2 : q2 = rText bs q1.2.1 q1.2.2 8) (e1 : t1 = q1.1) (e2 : t2 = q2.1) (hb : bad2 = (q2.2.2 || !bytesBefore last t1)) (hg : Rdr w2 g A n c q2.2.1 bad2) (hp : q2.2.1 ≤ n)
    (hm : MapIs Tryz.prog 9 w2 bp (sk (pput t1 t2 ps))) (hkw : Keep (fun j => j ≠ g ∧ j ≠ bp) w w2) : RPAt bs R cnt (k + 1) t1 g bp A n c w w2 q2.2.1 bad2 (pre ++ [(t1, t2)]) (pput t1 t2 ps) := by
  have hr : rdPair bs pk badk = ((t1, t2), q2.2) := by unfold rdPair; rw [← h1, ← h2, e1, e2]
  refine ⟨?_, hg, hp, hm, pput_rise h.rise, Nat.le_trans (pput_len t1 t2 ps) (by have := h.len; omega), fun hf => ?_, hkw⟩
  · rw [h.eq, show cnt - k = (cnt - (k + 1)) + 1 by omega, runF_succ, hr]
    simp only [pchk, pnxt, ← hb, List.append_assoc, List.singleton_append]
  · rw [hb, Bool.or_eq_false_iff] at hf
    have hlt : bytesBefore last t1 = true := by simpa using hf.2
    have hbk : badk = false := by
      have a1 := (o_of_text (bs := bs) (p := q1.2.1) (bad := q1.2.2) (by rw [← h2]; exact hf.1)).1
      exact (o_of_text (bs := bs) (p := pk) (bad := badk) (by rw [← h1]; exact a1)).1
    obtain ⟨e3, h4⟩ := h.ok hbk
    have hall : ∀ y ∈ pre, bytesBefore y.1 t1 = true := fun y hy => by
      rcases h4 y hy with e | e
      · rw [e]; exact hlt
      · exact before_trans e hlt
    refine ⟨by rw [e3]; exact pput_last hall, fun y hy => ?_⟩
    rcases List.mem_append.1 hy with hy | hy
    · exact .inr (hall y hy)
    · simp only [List.mem_cons, List.not_mem_nil, or_false] at hy
      rw [hy]
      exact .inl rfl

/-! ### the walk -/
def RPPost (bs : Txt) (R : List (Txt × Txt) × Nat × Bool) (g bp : Nat) (A : Option Addr) (n c : Nat) (w : World) (e : Ending) (w' : World) : Prop :=
  e = .returned (.tuple #[]) ∧ (∃ ps : Ps, MapIs Tryz.prog 9 w' bp (sk ps) ∧ Rise (ps.map Prod.fst) ∧ ps.length ≤ 16 ∧ (R.2.2 = false → ps = R.1)) ∧ Rdr w' g A n c R.2.1 R.2.2 ∧ R.2.1 ≤ n ∧ Keep (fun j => j ≠ g ∧ j ≠ bp) w w'

set_option maxRecDepth 20000 in
set_option maxHeartbeats 1000000 in
theorem rpairs_any (m g bp : Nat) (Z : Nat → Prop) (A : Option Addr) (n c : Nat) (bs : Txt) (p : Nat) (bad : Bool) (w : World) (h0 : w.cell? ⟨m, 0, none⟩ = some (.map (some bp))) (hmg : m ≠ g) (hmb : m ≠ bp) (hmp : MapIs Tryz.prog 9 w bp (sk [])) (hg : Rdr w g A n c p bad) (hz : ∀ k, Z k → k ≠ g ∧ k ≠ bp) (hp : p ≤ n) (hnc : n ≤ c) (hb : Rd w Z 1 A n (Lib.byteCells bs)) (hn : n ≤ 1099511627770) :
    Calls Tryz.prog 50 #[.pointer (some ⟨m, 0, none⟩), .pointer (some ⟨g, 0, none⟩)] w (RPPost bs (rPairs bs p bad) g bp A n c w) := by
  have hlen : bs.length = n := by simpa [Lib.byteCells] using hb.1
  obtain ⟨R, hR⟩ : ∃ R, R = rPairs bs p bad := ⟨_, rfl⟩
  rw [← hR]
  have hbg : bp ≠ g := hmp.ne_blk hg
  have HC := Lib.hid (rcount_any g Z A n c bs p bad 16 w hg hp hb hn)
  have hle := rCount_le bs p bad 16 (by omega)
  have hmost := rCount_most bs p bad (most := 16) (by omega)
  unfold rPairs at hR
  generalize rCount bs p bad 16 = q at HC hR hle hmost
  obtain ⟨cnt, p1, bad1⟩ := q
  simp only at HC hR hle hmost
  have HB := Lib.hid (And.intro hb (And.intro hz (And.intro hmp (And.intro hR (And.intro hmg (And.intro hmb (And.intro hbg hlen)))))))
  have hml := lt_of_cell h0
  have H0 := Lib.hid h0
  clear hb hz hmp hR hg hlen
  go_enter Tryz.func50, Tryz.ntmps50
  go_wp2_with fail
  refine Calls.mono HC.out ?_
  rintro e w1 ⟨rfl, hg1, hk1⟩
  have H1 := Lib.hid (And.intro hg1 hk1)
  have x0 := hk1.cellAt h0 hmg
  have hml1 := lt_of_cell x0
  clear hg1 hk1 HC h0 hml
  go_wp2_with fail
  go_loopw [4, 9] (fun l i wr => ∃ (k : Nat) (last : Txt), k ≤ cnt ∧ i = .int .i64 (k : Int) ∧ l = str last ∧ Hid (∃ pk badk pre ps, RPAt bs R cnt k last g bp A n c w wr pk badk pre ps)) (fun _ i _ => cnt - (intOf i).toNat)
  case atStart => exact ⟨0, [], by omega, rfl, rfl, Lib.hid ⟨p1, bad1, [], [], ⟨by rw [HB.out.2.2.2.1]; rfl, H1.out.1, by have := HB.out.2.2.2.2.2.2.2; omega, HB.out.2.2.1.keep H1.out.2 HB.out.2.2.2.2.2.2.1, by simp [Rise], by simp, fun _ => ⟨rfl, by simp⟩, H1.out.2.weaken fun _ _ h => h.1⟩⟩⟩
  case round =>
    rename World => wr
    obtain ⟨k, last, hk, rfl, rfl, HR⟩ := hrel
    obtain ⟨pk, badk, pre, ps, hat⟩ := HR.out
    have HA := Lib.hid hat
    clear hat HR
    by_cases hlt : k < cnt
    · have hbw := HB.out.1.keep (HA.out.keep.weaken fun j _ h => HB.out.2.1 j h)
      have HT1 := Lib.hid (rtext_any g Z A n c bs pk badk 8 wr HA.out.rd (fun j h => (HB.out.2.1 j h).1) HA.out.pn hnc hbw hn)
      have hl1 := rText_le bs pk badk 8 (by have := HB.out.2.2.2.2.2.2.2; have := HA.out.pn; omega)
      have hn1 := rText_len bs pk badk (most := 8) (by omega)
      obtain ⟨q1, hq1⟩ : ∃ q1, q1 = rText bs pk badk 8 := ⟨_, rfl⟩
      rw [← hq1] at HT1 hl1 hn1
      have HQ1 := Lib.hid hq1
      have hkg := HA.out.keep
      clear hq1 hbw
      go_wp2_with fail
      refine Calls.mono HT1.out ?_
      rintro e wA ⟨rfl, hgA, hkA⟩
      have hkWA : Keep (fun j => j ≠ g ∧ j ≠ bp) w wA := hkg.comp hkA (fun _ _ h => h) (fun _ _ h => h.1)
      have hbw := HB.out.1.keep (hkWA.weaken fun j _ h => HB.out.2.1 j h)
      have hlq : q1.2.1 ≤ n := by have := HB.out.2.2.2.2.2.2.2; omega
      have HT2 := Lib.hid (rtext_any g Z A n c bs q1.2.1 q1.2.2 8 wA hgA (fun j h => (HB.out.2.1 j h).1) hlq hnc hbw hn)
      have hl2 := rText_le bs q1.2.1 q1.2.2 8 (by have := HB.out.2.2.2.2.2.2.2; omega)
      have hn2 := rText_len bs q1.2.1 q1.2.2 (most := 8) (by omega)
      obtain ⟨q2, hq2⟩ : ∃ q2, q2 = rText bs q1.2.1 q1.2.2 8 := ⟨_, rfl⟩
      rw [← hq2] at HT2 hl2 hn2
      have HQ2 := Lib.hid hq2
      have HKA := Lib.hid (And.intro hkA hkWA)
      clear hq2 hbw hkWA hgA hkA hkg HT1
      go_wp2_with fail
      refine Calls.mono HT2.out ?_
      rintro e wB ⟨rfl, hgB, hkB⟩
      have hkWB : Keep (fun j => j ≠ g ∧ j ≠ bp) w wB := HKA.out.2.comp hkB (fun _ _ h => h) (fun _ _ h => h.1)
      have hmpB := (HA.out.mp.keep (HKA.out.1) hbg).keep hkB hbg
      have x0 := hkWB.cellAt H0.out ⟨hmg, hmb⟩
      have hmlB := lt_of_cell x0
      have e2 := hgB.cell 2
      have ez := hgB.frozen 2
      have egl := hgB.lt
      simp at e2
      obtain ⟨t1, ht1⟩ : ∃ t, t = q1.1 := ⟨_, rfl⟩
      obtain ⟨t2, ht2⟩ : ∃ t, t = q2.1 := ⟨_, rfl⟩
      have HBB := Lib.hid (And.intro hgB (And.intro hkWB (And.intro hmpB (And.intro ht1 ht2))))
      rw [← ht1] at hn1
      rw [← ht2] at hn2
      rw [← ht1, ← ht2]
      clear hgB hkWB hmpB ht1 ht2 HT2 hkB
      have hps := HA.out.len
      go_upto_region 5 with (fail)
      by_cases hcmp : bytesBefore last t1 = true
      · have hc0 : Op.bytesLess t1 last = false := by rw [less_before]; exact before_asymm hcmp
        have hc1 : (t1 == last) = false := by have := before_ne hcmp; simp; exact fun e => this e.symm
        have HCM := Lib.hid hcmp
        clear hcmp
        go_wp2_with (at_mapUpdate; refine wpList_mstore rfl (.tmp 24) (.tmp 25) (.tmp 26) rfl Tryz.underlying9 Tryz.underlying87 rfl HBB.out.2.2.1 (by rw [sk_len]; simp only [maxLen]; omega) (l := t1) (by simp only [maxLen]; omega) rfl (str t2) rfl ?_)
        intro wC hmC hkC
        rw [sk_put] at hmC
        have HCC := Lib.hid (And.intro hmC hkC)
        clear hmC hkC hc0 hc1
        go_wp2_with fail
        obtain ⟨hgB, hkWB, hmpB, ht1, ht2⟩ := HBB.out
        refine ⟨⟨k + 1, t1, by omega, by simp, rfl, Lib.hid ⟨_, _, _, _, rp_step HA.out hlt HQ1.out HQ2.out ht1 ht2 (bad2 := q2.2.2) (by rw [HCM.out]; simp) (hgB.keep HCC.out.2 (fun e => hbg e.symm)) (by have := HB.out.2.2.2.2.2.2.2; omega) HCC.out.1 (hkWB.comp HCC.out.2 (fun _ _ h => h) (fun _ _ h => h.2))⟩⟩, by simp only [intOf]; omega⟩
      · have hcmp' : bytesBefore last t1 = false := by simpa using hcmp
        have HCM := Lib.hid hcmp'
        have hc : Op.bytesLess t1 last = true ∨ (t1 == last) = true := by
          rw [less_before]
          by_cases he : t1 = last
          · exact .inr (by simpa using he)
          · exact .inl (before_not hcmp' (fun e => he e.symm))
        have hgs : Rdr (wB.setCell ⟨g, 2, none⟩ (.bool true)) g A n c q2.2.1 true := HBB.out.1.set 2 (.bool true)
        have hks : Keep (fun j => j ≠ g) wB (wB.setCell ⟨g, 2, none⟩ (.bool true)) := (Keep.refl _ wB).setCell (fun _ h => h rfl) _
        have x1 := hks.cellAt x0 hmg
        have HGS := Lib.hid (And.intro hgs hks)
        have hmlC := lt_of_cell x1
        clear hcmp hcmp' hgs hks x1 hmlC
        rcases hc with hc0 | hc1
        all_goals
          go_wp2_with (at_mapUpdate; refine wpList_mstore rfl (.tmp 24) (.tmp 25) (.tmp 26) rfl Tryz.underlying9 Tryz.underlying87 rfl (HBB.out.2.2.1.keep HGS.out.2 hbg) (by rw [sk_len]; simp only [maxLen]; omega) (l := t1) (by simp only [maxLen]; omega) rfl (str t2) rfl ?_)
          intro wC hmC hkC
          rw [sk_put] at hmC
          have HCC := Lib.hid (And.intro hmC hkC)
          clear hmC hkC
          go_wp2_with fail
          obtain ⟨hgB, hkWB, hmpB, ht1, ht2⟩ := HBB.out
          refine ⟨⟨k + 1, t1, by omega, by simp, rfl, Lib.hid ⟨_, _, _, _, rp_step HA.out hlt HQ1.out HQ2.out ht1 ht2 (bad2 := true) (by rw [HCM.out]; simp) (HGS.out.1.keep HCC.out.2 (fun e => hbg e.symm)) (by have := HB.out.2.2.2.2.2.2.2; omega) HCC.out.1 ((hkWB.comp HGS.out.2 (fun _ _ h => h) (fun _ _ h => h.1)).comp HCC.out.2 (fun _ _ h => h) (fun _ _ h => h.2))⟩⟩, by simp only [intOf]; omega⟩
    · obtain rfl : k = cnt := by omega
      go_wp2_with fail
      go_end0
      have hat := HA.out
      have e := hat.eq
      rw [Nat.sub_self] at e
      have e' : R = (pre, pk, badk) := by rw [e]; simp [runF]
      refine ⟨rfl, ⟨ps, hat.mp, hat.rise, by have := hat.len; omega, fun hf => ?_⟩, by rw [e']; exact hat.rd, by rw [e']; exact hat.pn, hat.keep⟩
      rw [e'] at hf ⊢
      exact (hat.ok hf).1
end Go.Proofs.YtlibhkehebioeaaGreatDoor
namespace Go.Proofs.YtlibhkehebioeaaGreatDoor
set_option linter.unusedVariables false
set_option linter.unusedSimpArgs false
open Go.RowKit

/-- 'append(s, x)' of an element of several cells that has just been laid in a block of its own. -/
theorem wpList_appK {P : Program} {w : World} {t e : TypeId} {size bytes : Nat} {z : Value} (E : ET P t e size bytes z) {ops : Array Oper} {rest : List Oper} {o : Oper} {a : Act} {Q : Exit → Act → World → Prop} (hgd : o.guard = none) (s x : Operand)
    (ho : o.op = .call { callee := .builtin .append, args := #[s, x], argTypes := #[t, t] }) (cs : Array Value) (te : TypeId) (hsz : cs.size = size) (hcs : ∀ u ∈ cs.toList, u.oneCell' = true)
    (base : Nat) (v : Value) (n : Nat) (xs : List Value) (hs : a.eval s = v) (hx : a.eval x = .slice (some ⟨w.heap.size, 0, none⟩) 1 1) (hown : w.ownsRow base e size v n xs)
    (hb : (n + 1) * bytes ≤ 140737488355328) (hbase : base ≤ w.heap.size)
    (h : ∀ v' w', w'.ownsRow base e size v' (n + 1) (xs ++ cs.toList) → Keep (fun k => v.ownBlock ≠ some k) w w' → Next w.heap.size v v' → wpList P ops Q rest (a.put o.dst v') w') :
    wpList P ops Q (o :: rest) a (w.alloc (.cells cs te)) :=
  wpList_app E hgd s x ho base v n xs hs (hown.alloc _) _ _ 1 1 cs.toList hx (Rd.one_of (Blk.new w te cs) hsz) (fun h => by cases h) hcs hb (by simp; omega) fun v' w' h1 h2 h3 =>
    h v' w' h1 (((Keep.refl _ w).alloc _).comp h2 (fun _ _ h => h) (fun _ _ h => h)) (h3.imp id fun ⟨g, hg, hl⟩ => ⟨g, hg, by simp at hl; omega⟩)
/-- .. where the walk has reckoned the new block's number in its own way. -/
theorem wpList_appB {P : Program} {w : World} {t e : TypeId} {size bytes : Nat} {z : Value} (E : ET P t e size bytes z) {ops : Array Oper} {rest : List Oper} {o : Oper} {a : Act} {Q : Exit → Act → World → Prop} (hgd : o.guard = none) (s x : Operand)
    (ho : o.op = .call { callee := .builtin .append, args := #[s, x], argTypes := #[t, t] }) (cs : Array Value) (te : TypeId) (hsz : cs.size = size) (hcs : ∀ u ∈ cs.toList, u.oneCell' = true)
    (base : Nat) (v : Value) (n : Nat) (xs : List Value) (B : Nat) (hB : B = w.heap.size) (hs : a.eval s = v) (hx : a.eval x = .slice (some ⟨B, 0, none⟩) 1 1) (hown : w.ownsRow base e size v n xs)
    (hb : (n + 1) * bytes ≤ 140737488355328) (hbase : base ≤ w.heap.size)
    (h : ∀ v' w', w'.ownsRow base e size v' (n + 1) (xs ++ cs.toList) → Keep (fun k => v.ownBlock ≠ some k) w w' → Next w.heap.size v v' → wpList P ops Q rest (a.put o.dst v') w') :
    wpList P ops Q (o :: rest) a (w.alloc (.cells cs te)) := by
  subst hB
  exact wpList_appK E hgd s x ho cs te hsz hcs base v n xs hs hx hown hb hbase h
theorem wpList_app1B {P : Program} {w : World} {t e : TypeId} {bytes : Nat} {z : Value} (E : ET P t e 1 bytes z) {ops : Array Oper} {rest : List Oper} {o : Oper} {a : Act} {Q : Exit → Act → World → Prop} (hgd : o.guard = none) (s x : Operand)
    (ho : o.op = .call { callee := .builtin .append, args := #[s, x], argTypes := #[t, t] }) (y : Value) (te : TypeId) (hy : y.oneCell' = true)
    (base : Nat) (v : Value) (n : Nat) (xs : List Value) (B : Nat) (hB : B = w.heap.size) (hs : a.eval s = v) (hx : a.eval x = .slice (some ⟨B, 0, none⟩) 1 1) (hown : w.ownsRow base e 1 v n xs)
    (hb : (n + 1) * bytes ≤ 140737488355328) (hbase : base ≤ w.heap.size)
    (h : ∀ v' w', w'.ownsRow base e 1 v' (n + 1) (xs ++ [y]) → Keep (fun k => v.ownBlock ≠ some k) w w' → Next w.heap.size v v' → wpList P ops Q rest (a.put o.dst v') w') :
    wpList P ops Q (o :: rest) a (w.alloc (.cells #[y] te)) := by
  subst hB
  exact wpList_app1 E hgd s x ho y te hy base v n xs hs hx hown hb hbase h
end Go.Proofs.YtlibhkehebioeaaGreatDoor
namespace Go.Proofs.YtlibhkehebioeaaGreatDoor
set_option linter.unusedVariables false
set_option linter.unusedSimpArgs false
open Go.RowKit

/-! ### asked -/
theorem int_info2 : (Tryz.prog.info? 3).map (fun i => (i.zero, i.size, i.bytes)) = some (some (.int .i64 0), 1, 8) := by kernel_rfl
theorem etInt2 : ET Tryz.prog 45 3 1 8 (.int .i64 0) := ⟨Tryz.underlying45, int_info2, rfl, by decide, by decide⟩
def askTo (ss : List SesD) (k : Nat) : List Int := ((List.range k).filter fun q => decide (0 < (ss.getD q noSes).inc)).map fun q : Nat => (q : Int)
theorem askTo_succ (ss : List SesD) (k : Nat) : askTo ss (k + 1) = askTo ss k ++ (if 0 < (ss.getD k noSes).inc then [(k : Int)] else []) := by
  unfold askTo
  rw [List.range_succ, List.filter_append, List.map_append]
  congr 1
  simp only [List.filter]
  generalize (ss.getD k noSes).inc = z
  by_cases h : 0 < z <;> simp [h]
theorem askTo_len (ss : List SesD) (k : Nat) : (askTo ss k).length ≤ k := by
  unfold askTo
  rw [List.length_map]
  exact Nat.le_trans (List.length_filter_le _ _) (by simp)
theorem askTo_all (ss : List SesD) : askTo ss 16 = (asked ss).map fun x => (x.1 : Int) := by
  unfold askTo asked
  rw [List.filter_map, List.map_map]
  rfl
set_option maxRecDepth 20000 in
theorem asked_any (S : Nat → Prop) (m bp bl : Nat) (s : StD) (w : World) (hm : MSt S w m bp bl s) :
    Calls Tryz.prog 40 #[.pointer (some ⟨m, 0, none⟩)] w fun e w' => (∃ v, e = .returned v ∧ w'.ownsRow w.heap.size 3 1 v (askTo s.ss 16).length (ics (askTo s.ss 16))) ∧ Fresh w w' := by
  have HM := Lib.hid hm
  clear hm
  go_enter Tryz.func40, Tryz.ntmps40
  go_wp2_with fail
  go_loopw [3, 5] (fun v i wr => ∃ k : Nat, k ≤ 16 ∧ i = .int .i64 (k : Int) ∧ Hid (wr.ownsRow w.heap.size 3 1 v (askTo s.ss k).length (ics (askTo s.ss k)) ∧ Fresh w wr)) (fun _ i _ => 16 - (intOf i).toNat)
  case atStart => exact ⟨0, by omega, rfl, Lib.hid ⟨by exact World.ownsRow_nil _ _ _ _, Keep.refl _ _⟩⟩
  case round =>
    rename World => wr
    obtain ⟨k, hk, rfl, HR⟩ := hrel
    by_cases hlt : k < 16
    · have hmr := HM.out.fresh HR.out.2
      have ml := hmr.blk.lt
      have s0 := hmr.ses hlt 0 (by omega)
      simp only [MSess.cells, List.getElem?_cons_zero, Nat.add_zero] at s0
      obtain ⟨z, hz⟩ : ∃ z, z = (s.ss.getD k noSes).inc := ⟨_, rfl⟩
      rw [← hz] at s0
      have HS := Lib.hid (askTo_succ s.ss k)
      have hki : (k : Int) < 16 := by omega
      by_cases h0 : 0 < z
      · have HS2 : Hid (askTo s.ss (k + 1) = askTo s.ss k ++ [(k : Int)]) := Lib.hid (by rw [HS.out, if_pos (by rw [← hz]; exact h0)])
        clear hmr hz HS
        go_wp2_with (at_builtin; refine wpList_app1 etInt2 rfl (.tmp 16) (.tmp 18) rfl (.int .i64 (k : Int)) _ rfl w.heap.size _ (askTo s.ss k).length (ics (askTo s.ss k)) rfl rfl HR.out.1 (by have := askTo_len s.ss k; omega) HR.out.2.size ?_)
        intro v2 w2 ho2 hk2 hn2
        have H2 := Lib.hid (And.intro ho2 hk2)
        clear ho2 hk2 hn2
        go_wp2_with fail
        refine ⟨⟨k + 1, by omega, by simp, Lib.hid ⟨?_, HR.out.2.comp H2.out.2 (fun _ _ h => h) (fun i hi _ e => by have := (own_lt HR.out.1 e).1; omega)⟩⟩, by simp only [intOf]; omega⟩
        rw [HS2.out]
        have h1 := H2.out.1
        simpa [ics] using h1
      · have HS2 : Hid (askTo s.ss (k + 1) = askTo s.ss k) := Lib.hid (by rw [HS.out, if_neg (by rw [← hz]; exact h0)]; simp)
        clear hmr hz HS
        go_wp2_with fail
        exact ⟨⟨k + 1, by omega, by simp, Lib.hid ⟨by rw [HS2.out]; exact HR.out.1, HR.out.2⟩⟩, by simp only [intOf]; omega⟩
    · obtain rfl : k = 16 := by omega
      go_wp2_with fail
      go_ret
      exact ⟨⟨_, rfl, HR.out.1⟩, HR.out.2⟩

/-! ### Pairs -/
def pairC (p : Txt × Txt) : List Value := [str p.1, str p.2]
theorem pair_two (p : Txt × Txt) : (pairC p).length = 2 := rfl
abbrev pcells (ps : List (Txt × Txt)) : List Value := rcells pairC ps
theorem pair_info : (Tryz.prog.info? 71).map (fun i => (i.zero, i.size, i.bytes)) = some (some (.agg #[str [], str []]), 2, 32) := by kernel_rfl
theorem etPair : ET Tryz.prog 65 71 2 32 (.agg #[str [], str []]) := ⟨Tryz.underlying65, pair_info, rfl, by decide, by decide⟩
theorem pair_one (a b : Txt) : ∀ u ∈ (#[str a, str b] : Array Value).toList, u.oneCell' = true := by
  intro u hu
  simp only [List.mem_cons, List.not_mem_nil, or_false] at hu
  rcases hu with rfl | rfl <;> rfl
theorem look_pair {w : World} {b : Nat} {ps : Ps} (h : MapIs Tryz.prog 9 w b (sk ps)) {l : Txt} (hl : l.length ≤ 1048576) (u : Txt) (hu : pfind l ps = some u) :
    (Instr.lookup 87 (.map (some b)) (str l) false).run Tryz.prog w = .ok (str u) w := by
  have h1 := MapIs.look h Tryz.underlying9 Tryz.underlying87 (run_zero_str _) (l := l) (by simp only [maxLen]; omega)
  rw [sk_find, hu] at h1
  exact h1
theorem sk_keys (ps : Ps) : (sk ps).map Prod.fst = ps.map Prod.fst := by simp [sk]
theorem pfind_at {ps : Ps} (hr : Rise (ps.map Prod.fst)) {k : Nat} (hk : k < ps.length) : pfind ps[k].1 ps = some ps[k].2 := by
  rw [pfind_eq]
  have h1 : findK Prod.fst ps[k].1 ps = some ps[k] := findK_of hr (List.getElem_mem hk) rfl
  show (findK Prod.fst ps[k].1 ps).map Prod.snd = _
  rw [h1]
  rfl
set_option maxRecDepth 20000 in
theorem pairs_any (S : Nat → Prop) (m bp bl : Nat) (s : StD) (w : World) (hm : MSt S w m bp bl s) (hp : PInv s.pairs) :
    Calls Tryz.prog 30 #[.pointer (some ⟨m, 0, none⟩)] w fun e w' => (∃ v, e = .returned v ∧ w'.ownsRow w.heap.size 71 2 v s.pairs.length (pcells s.pairs)) ∧ Fresh w w' := by
  obtain ⟨x0, -, -⟩ := hm.three
  have ml := hm.blk.lt
  have HN := names_s_any bp (sk s.pairs) w hm.pm (by rw [sk_keys]; exact hp.rise) (by rw [sk_len]; have := hp.len; omega)
  rw [sk_keys, sk_len] at HN
  replace HN := Lib.hid HN
  have HM := Lib.hid (And.intro hm hp)
  clear hm hp
  go_enter Tryz.func30, Tryz.ntmps30
  go_wp2_with fail
  refine HN.out.mono ?_
  rintro e w2 ⟨⟨vn, rfl, hon⟩, f2⟩
  obtain ⟨A, cn, rfl, hrdn, -⟩ := own_rd hon
  have HO := Lib.hid (And.intro hon (And.intro hrdn f2))
  clear hon hrdn f2 HN x0 ml
  go_wp2_with fail
  go_loopw [3, 12] (fun v i wr => ∃ k : Nat, k ≤ s.pairs.length ∧ i = .int .i64 (k : Int) ∧ Hid (wr.ownsRow w2.heap.size 71 2 v k (pcells (s.pairs.take k)) ∧ Fresh w2 wr)) (fun _ i _ => s.pairs.length - (intOf i).toNat)
  case atStart => exact ⟨0, by omega, rfl, Lib.hid ⟨by exact World.ownsRow_nil _ _ _ _, Keep.refl _ _⟩⟩
  case round =>
    rename World => wr
    obtain ⟨k, hk, rfl, HR⟩ := hrel
    by_cases hlt : k < s.pairs.length
    · obtain ⟨hm, hp⟩ := HM.out
      have hmr := (hm.fresh HO.out.2.2).fresh HR.out.2
      have ml := hmr.blk.lt
      obtain ⟨x0, -, -⟩ := hmr.three
      have h1 := (HO.out.2.1.keep (HR.out.2.weaken fun _ _ _ => trivial)).at1 (k := k) (by simpa using hlt)
      obtain ⟨b, o, rfl, hzb, hll, hcell⟩ := h1
      obtain ⟨t, ht⟩ : ∃ t, t = s.pairs[k].1 := ⟨_, rfl⟩
      obtain ⟨u, hu⟩ : ∃ u, u = s.pairs[k].2 := ⟨_, rfl⟩
      have hcell2 : wr.cell? ⟨b, o + k, none⟩ = some (str t) := by rw [hcell, ht]; simp
      have hlk := look_pair hmr.pm (l := t) (by have := (hp.each _ (List.getElem_mem hlt)).2.1; rw [ht]; omega) u (by rw [ht, hu]; exact pfind_at hp.rise hlt)
      have hn16 := hp.len
      have hki : (k : Int) < (s.pairs.length : Int) := by omega
      have HT := Lib.hid (show s.pairs.take (k + 1) = s.pairs.take k ++ [(t, u)] by rw [ht, hu, List.take_append_getElem hlt])
      clear hm hp hmr hzb hll hcell ht hu
      go_wp2_with (at_builtin; refine wpList_appB etPair rfl (.tmp 16) (.tmp 25) rfl #[str t, str u] 71 rfl (pair_one t u) w2.heap.size _ k (pcells (s.pairs.take k)) wr.heap.size rfl rfl rfl HR.out.1 (by omega) HR.out.2.size ?_)
      intro v3 w3 ho3 hk3 hn3
      have H3 := Lib.hid (And.intro ho3 hk3)
      clear ho3 hk3 hn3
      go_wp2_with fail
      refine ⟨⟨k + 1, by omega, by simp, Lib.hid ⟨?_, HR.out.2.comp H3.out.2 (fun _ _ h => h) (fun i hi _ e => by have := (own_lt HR.out.1 e).1; omega)⟩⟩, by simp only [intOf]; omega⟩
      rw [HT.out]
      have h1 := H3.out.1
      simpa [pcells, rcells_append, rcells_cons, rcells_nil, pairC] using h1
    · obtain rfl : k = s.pairs.length := by omega
      go_wp2_with fail
      go_ret
      obtain ⟨ho, hf⟩ := HR.out
      rw [List.take_length] at ho
      exact ⟨⟨_, rfl, own_base ho HO.out.2.2.size⟩, HO.out.2.2.trans hf⟩

/-! ### Waiting -/
def waitC (x : Int × Int) : List Value := [.int .i64 x.1, .int .i64 x.2]
abbrev wcells (xs : List (Int × Int)) : List Value := rcells waitC xs
/-- Who waits, each with its incarnation. -/
def waitD (k : Txt) (s : StD) : List (Int × Int) := match lfind k s.locks with
  | none => []
  | some l => l.queue.map fun c => (c, (s.ss.getD c.toNat noSes).inc)
theorem wait_info : (Tryz.prog.info? 115).map (fun i => (i.zero, i.size, i.bytes)) = some (some (.agg #[.int .i64 0, .int .i64 0]), 2, 16) := by kernel_rfl
theorem etWait : ET Tryz.prog 92 115 2 16 (.agg #[.int .i64 0, .int .i64 0]) := ⟨Tryz.underlying92, wait_info, rfl, by decide, by decide⟩
theorem wait_one (a b : Int) : ∀ u ∈ (#[.int .i64 a, .int .i64 b] : Array Value).toList, u.oneCell' = true := by
  intro u hu
  simp only [List.mem_cons, List.not_mem_nil, or_false] at hu
  rcases hu with rfl | rfl <;> rfl
set_option maxRecDepth 20000 in
theorem waiting_any (S : Nat → Prop) (m bp bl : Nat) (s : StD) (k : Txt) (w : World) (hm : MSt S w m bp bl s) (hi : LInv s.locks s.tok) (hk : k.length ≤ 1048576) :
    Calls Tryz.prog 37 #[.pointer (some ⟨m, 0, none⟩), str k] w fun e w' => (∃ v, e = .returned v ∧ w'.ownsRow w.heap.size 115 2 v (waitD k s).length (wcells (waitD k s))) ∧ Fresh w w' := by
  obtain ⟨X, hX⟩ : ∃ X, X = waitD k s := ⟨_, rfl⟩
  rw [← hX]
  obtain ⟨-, x1, -⟩ := hm.three
  have ml := hm.blk.lt
  obtain ⟨ms, hls⟩ := hm.lk
  have HM := Lib.hid (And.intro hm (And.intro hi hX))
  cases hfl : lfind k s.locks with
  | none =>
    have hlk := look_lk hls (k := k) hk _ (show _ = .pointer none by rw [hls.gone hfl]; rfl) 0
    rw [show w.drewN 0 = w from rfl] at hlk
    clear hm hi hls hX
    go_enter Tryz.func37, Tryz.ntmps37
    go_wp2_with fail
    go_ret
    obtain ⟨hm, hi, hX⟩ := HM.out
    have e : X = [] := by rw [hX]; unfold waitD; rw [hfl]
    rw [e]
    exact ⟨⟨_, rfl, by exact World.ownsRow_nil _ _ _ _⟩, Keep.refl _ _⟩
  | some l =>
    obtain ⟨x, hx, hxl, hxk, hxi, hxf⟩ := lk_find hls hfl
    obtain ⟨-, -, y2⟩ := hxi.cells
    have hlk := look_lk hls (k := k) hk _ hxf 0
    rw [show w.drewN 0 = w from rfl] at hlk
    obtain ⟨h, hh⟩ : ∃ h, h = x.h := ⟨_, rfl⟩
    rw [← hh] at y2 hlk
    have hhl := hxi.lt
    rw [← hh] at hhl
    have hlo := hi.each l (findK_some hfl).2
    have hql := queue_len hlo.nd hlo.q
    obtain ⟨A, c, hv, hnc, hrd, -⟩ := hxi.row.rd
    rw [hxl] at hv hrd
    rw [hv] at y2
    have hrd2 : Rd w (fun _ => True) 1 A l.queue.length (ics l.queue) := hrd.weaken fun _ _ => trivial
    have e : X = l.queue.map fun c => (c, (s.ss.getD c.toNat noSes).inc) := by rw [hX]; unfold waitD; rw [hfl]
    have HQ := Lib.hid (And.intro hrd2 (And.intro hlo e))
    clear hm hi hls hX hx hxl hxk hxi hxf hh hlo hv hrd hrd2 e hnc
    go_enter Tryz.func37, Tryz.ntmps37
    go_wp2_with fail
    go_loopw [5, 22] (fun v i wr => ∃ k : Nat, k ≤ l.queue.length ∧ i = .int .i64 (k : Int) ∧ Hid (wr.ownsRow w.heap.size 115 2 v k (wcells (X.take k)) ∧ Fresh w wr)) (fun _ i _ => l.queue.length - (intOf i).toNat)
    case atStart => exact ⟨0, by omega, rfl, Lib.hid ⟨by exact World.ownsRow_nil _ _ _ _, Keep.refl _ _⟩⟩
    case round =>
      rename World => wr
      obtain ⟨j, hj, rfl, HR⟩ := hrel
      by_cases hlt : j < l.queue.length
      · have hmr := HM.out.1.fresh HR.out.2
        have ml := hmr.blk.lt
        have h1 := (HQ.out.1.keep HR.out.2).at1 (k := j) (by simpa using hlt)
        obtain ⟨b, o, rfl, hzb, hll, hcell⟩ := h1
        have hcb := HQ.out.2.1.q l.queue[j] (List.getElem_mem hlt)
        obtain ⟨q, hq⟩ : ∃ q : Nat, l.queue[j] = (q : Int) := ⟨l.queue[j].toNat, by omega⟩
        have hq16 : q < 16 := by omega
        have hqi : (q : Int) < 16 := by omega
        have s0 := hmr.ses hq16 0 (by omega)
        simp only [MSess.cells, List.getElem?_cons_zero, Nat.add_zero] at s0
        obtain ⟨z, hz⟩ : ∃ z, z = (s.ss.getD q noSes).inc := ⟨_, rfl⟩
        rw [← hz] at s0
        have hcell2 : wr.cell? ⟨b, o + j, none⟩ = some (.int .i64 (q : Int)) := by rw [hcell]; simp [ics, hq]
        have hjx : j < X.length := by rw [HQ.out.2.2]; simpa using hlt
        have hXj : X[j] = ((q : Int), z) := by
          have e := HQ.out.2.2
          subst e
          simp [hq, hz]
        have HT := Lib.hid (show X.take (j + 1) = X.take j ++ [((q : Int), z)] by rw [← hXj, List.take_append_getElem hjx])
        have hji : (j : Int) < (l.queue.length : Int) := by omega
        clear hmr hzb hll hcell hcb hq hz hXj
        go_wp2_with (at_builtin; refine wpList_appB etWait rfl (.tmp 26) (.tmp 36) rfl #[.int .i64 (q : Int), .int .i64 z] 115 rfl (wait_one (q : Int) z) w.heap.size _ j (wcells (X.take j)) wr.heap.size rfl rfl rfl HR.out.1 (by omega) HR.out.2.size ?_)
        intro v3 w3 ho3 hk3 hn3
        have H3 := Lib.hid (And.intro ho3 hk3)
        clear ho3 hk3 hn3
        go_wp2_with fail
        refine ⟨⟨j + 1, by omega, by simp, Lib.hid ⟨?_, HR.out.2.comp H3.out.2 (fun _ _ h => h) (fun i hi _ e => by have := (own_lt HR.out.1 e).1; omega)⟩⟩, by simp only [intOf]; omega⟩
        rw [HT.out]
        have h1 := H3.out.1
        simpa [wcells, rcells_append, rcells_cons, rcells_nil, waitC] using h1
      · obtain rfl : j = l.queue.length := by omega
        go_wp2_with fail
        go_ret
        obtain ⟨ho, hf⟩ := HR.out
        have hxlen : X.length = l.queue.length := by rw [HQ.out.2.2]; simp
        rw [← hxlen, List.take_length] at ho
        exact ⟨⟨_, rfl, ho⟩, hf⟩
end Go.Proofs.YtlibhkehebioeaaGreatDoor
