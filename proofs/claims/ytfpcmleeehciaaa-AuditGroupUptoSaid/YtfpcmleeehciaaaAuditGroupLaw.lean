/-
  'quoratelaw17.AuditGroup' returns true for every case, and the case reads afterwards as it read before. (AuditGroupUptoSaid.)
  Condition: what the call reads is of bulk at most 1048576 (Rows.uptoSmall), as the given statement says.
-/
import Derived.Test.YtfpcmleeehciaaaAuditGroup
import Derived.Test.YtfpcmleeehciaaaOpenMarks
import Derived.JoinedCond
namespace Go.Proofs.Ytfpcmleeehciaaa.auditGroup
set_option linter.unusedVariables false
set_option linter.unusedSimpArgs false
open Go.ChangeShapes Go.WideShapes Go.ChangeAt Go.RowKit

theorem own : ownKnob Try.prog.godebug = none := by kernel_rfl
set_option maxRecDepth 100000 in
/-- The argument, opened. -/
theorem open_case {H : Type} {enc : TypeId × Value → H} {W : World} {base : Nat} {v : Value} {d : DataW H} {p : List MemPlace} (hval : Value.okWide Try.prog W .any base 25 v) (h : DataW.Trod enc Try.prog W 0 (fun _ => true) true 25 v d p) (hb : Rows.uptoBulk d ≤ 1048576) :
    ∃ (A A2 : Option Addr) (n c n2 c2 : Nat) (K : Int) (hs : List MkV), v = .agg #[.slice A n c, .slice A2 n2 c2, .int .i64 K] ∧ n ≤ c ∧ n ≤ 1048575 ∧ Mks W (fun _ => True) A n hs ∧ (∀ x ∈ hs, MkOk W (fun _ => True) x) ∧ ∀ x ∈ hs, MkInt x.d := by
  obtain ⟨cs, rfl, hsz⟩ := okWide_struct Try.underlying25 hval
  obtain ⟨l⟩ := cs
  match l, hsz.trans cCase with
  | [c0, c1, c2], _ =>
    obtain ⟨fuel, hf⟩ := h
    obtain ⟨xs, n, _, hy, _, hlen, hg⟩ := DataW.trod_struct Try.underlying25 hf
    match xs, hlen with
    | [y0, y1, y2], _ =>
      have g0 : DataW.trod enc Try.prog W 0 (fun _ => true) true n 22 (([c0, c1, c2].drop 0).take (Try.prog.cellsOf 22)) = some y0 := hg 0 _ rfl
      rw [cMks] at g0
      have g1 : DataW.trod enc Try.prog W 0 (fun _ => true) true n 23 (([c0, c1, c2].drop 1).take (Try.prog.cellsOf 23)) = some y1 := hg 1 _ rfl
      rw [cIs] at g1
      have g2 : DataW.trod enc Try.prog W 0 (fun _ => true) true n 3 (([c0, c1, c2].drop 2).take (Try.prog.cellsOf 3)) = some y2 := hg 2 _ rfl
      rw [cI] at g2
      obtain ⟨hs, ⟨A, c, rfl, hnc, -, hrd⟩, hbl, -, hall⟩ := open_rows (c := c0) (f := MkV.cells) (p := Opened W) Try.underlying22 cMk mk_len (by omega) (fun n cs y h => open_mark h) g0
      obtain ⟨zs, ⟨A2, c2', rfl, -, -, -⟩, -, -⟩ := open_is (c := c1) g1
      obtain ⟨K, rfl, -, -⟩ := open_i (c := c2) g2
      have hB : Rows.uptoBulk y0.1 + 1 ≤ Rows.uptoBulk d := by
        have hd : d = (DataW.agg (List.map (·.1) [y0, y1, y2])) := congrArg Prod.fst hy
        rw [hd]
        simp only [Rows.uptoBulk]
        have := bulk_mem (d := y0.1) (l := List.map (·.1) [y0, y1, y2]) (by simp)
        omega
      refine ⟨A, A2, hs.length, c, zs.length, c2', K, hs, rfl, hnc, by omega, ⟨rfl, hrd, by omega, fun x hx => ?_, fun x hx => ?_⟩, fun x hx => ?_, fun x hx => ?_⟩
      · obtain ⟨dd, ho, hb2⟩ := hall x hx
        exact ⟨by have := ho.m; omega, by have := ho.t; omega, by have := ho.b; omega, ho.nl, ho.nh⟩
      · obtain ⟨dd, ho, hb2⟩ := hall x hx
        exact ho.one
      · obtain ⟨dd, ho, hb2⟩ := hall x hx
        exact ho.ok
      · obtain ⟨dd, ho, hb2⟩ := hall x hx
        have hh := ho.ints
        exact ⟨hh.2.2.1, hh.2.2.2.1, hh.2.2.2.2.1, hh.2.2.2.2.2.1, hh.2.2.2.2.2.2.1, hh.2.2.2.2.2.2.2.1, hh.2.2.2.2.2.2.2.2.1, hh.2.2.2.2.2.2.2.2.2.1, fun y hy => ⟨(hh.2.2.2.2.2.2.2.2.2.2.2.2.1 y hy).1, (hh.2.2.2.2.2.2.2.2.2.2.2.2.1 y hy).2.1⟩⟩
theorem small_one {H : Type} {d : DataW H} (h : Rows.uptoSmall H [d] = true) : Rows.uptoBulk d ≤ 1048576 := by
  have h1 : Rows.uptoBulkAll [d] ≤ 1048576 := of_decide_eq_true h
  simp only [Rows.uptoBulkAll] at h1
  omega
set_option maxRecDepth 100000 in
theorem contract (H : Type) (enc : TypeId × Value → H) (W : World) (base : Nat) (args : Array Value) (ds gs : List (DataW H)) (before : List MemPlace)
    (hval : ∀ (j : Nat) t v, Try.f3.params[j]? = some t → args[j]? = some v → Value.okWide Try.prog W .any base t v)
    (hW : DataW.Whole enc Try.prog Try.f3.params.toList Rows.auditGroupSpec.vars false W args.toList ds gs before) (hS : Rows.uptoSmall H (ds ++ gs) = true) :
    Calls Try.prog 3 args W fun e W' => ∃ v, e = .returned v ∧ Rows.auditGroupSpec.post enc Try.prog Try.f3 false true false false W args v W' := by
  have hW' := hW
  obtain ⟨p, q, hA0, hV, rfl, hfz, hnd⟩ := hW
  have hA : DataW.TrodAll enc Try.prog W 0 (fun _ => true) true Try.f3.params.toList args.toList ds p := hA0
  rw [Try.params3] at hA hval
  obtain ⟨v0, vs0, d0, ds0, p0, q0, hargs, rfl, rfl, h0, r0⟩ := trodAll_cons hA
  obtain ⟨rfl, rfl, rfl⟩ := trodAll_nil r0
  obtain rfl : args = #[v0] := by cases args; simp_all
  obtain ⟨rfl, rfl⟩ := trodVars_none hV
  obtain ⟨A, A2, n, c, n2, c2, K, hs, rfl, hnc, hn, hm, hok, hi⟩ := open_case (hval 0 _ v0 rfl rfl) h0 (small_one (by simpa using hS))
  refine (auditgroup_any A A2 n c n2 c2 K hs W hm hok hi hnc).mono fun e W' ⟨he, hf⟩ => ?_
  subst he
  exact ⟨_, rfl, post_true laidOut (by kernel_rfl) rfl Try.underlying4 rfl hW' rfl hf.below⟩

set_option maxRecDepth 100000 in
theorem liftedUpto (os : Os) (started : os.Started) (H : Type) (enc : TypeId × Value → H) (F : Stop.Interp) :
    ReturnsInHanded {} Try.checked os 3 .any ((Rows.OpenSpec.upto Rows.auditGroupSpec).pre6 enc Try.prog Try.f3 Rows.auditGroupUptoRow.domain false) (((Rows.OpenSpec.upto Rows.auditGroupSpec).at F).post enc Try.prog Try.f3 false true false false) := by
  refine returnsInHanded_of_cond (C := Try.checked) (s := Rows.OpenSpec.upto Rows.auditGroupSpec) (k := Rows.uptoSmall) rfl own started (by kernel_rfl) Try.func3
    (OpenSpec.witness (enc := enc) (C := Try.checked) (s := Rows.OpenSpec.upto Rows.auditGroupSpec) (k := Rows.uptoSmall) rfl false ⟨#[], #[.agg #[.slice none 0 0, .slice none 0 0, .int .i64 0]], []⟩ 8 (by kernel_rfl) (by kernel_rfl) (by kernel_rfl)
      (x := ([.agg [.nil, .nil, .lit (.int .i64 0)]], [], [])) (by kernel_rfl) rfl (by kernel_rfl)) ?_
  intro W base args ds gs before hval hW _ hk _
  exact contract H enc W base args ds gs before hval hW hk

theorem saidUpto : Rows.AuditGroupUptoSaid :=
  OpenClaim.holds_of_cond 3 Try.f3 rfl rfl rfl rfl rfl rfl rfl ⟨rfl, rfl, rfl, rfl, rfl⟩ rfl rfl rfl rfl rfl (by kernel_rfl) Try.func3 (by kernel_rfl)
    (of_decide_eq_true (by kernel_rfl)) (by unfold Func.isWrapper; first | (rw [if_pos (by decide +kernel)]; kernel_rfl) | (rw [if_neg (by decide +kernel)]; exact ⟨rfl, rfl⟩))
    (fun os started H enc _ F => liftedUpto os started H enc F)
end Go.Proofs.Ytfpcmleeehciaaa.auditGroup
