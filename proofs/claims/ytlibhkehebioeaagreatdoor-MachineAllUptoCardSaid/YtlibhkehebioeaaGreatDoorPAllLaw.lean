/-
  THE STATEMENT MachineAll: WHATEVER SCRIPT OF A BULK OF AT MOST 1048576, THE PROGRAM'S MACHINES ANSWER AS THE DOCUMENT'S; AND ITS CARD. No other condition.
-/
import Derived.Test.YtlibhkehebioeaaGreatDoorP23
namespace Go.Proofs.YtlibhkehebioeaaGreatDoor.machineAll
set_option linter.unusedVariables false
set_option linter.unusedSimpArgs false
open Go.ChangeShapes Go.WideShapes Go.ChangeAt Go.RowKit
theorem any {W0:World}(hT:TabsN W0){Z:Nat→Prop}{A:Option Addr}{n cp:Nat}{os:List OpD}(hs:Rd W0 Z 12 A n (rcells OpD.cells os))(hok:∀o∈os,OpOk W0 o)(hn:n≤1099511627000) :
 Calls Tryz.prog 8 #[.slice A n cp] W0 λe w'=>e=.returned (.bool true)∧Fresh W0 w':=by
 have HP:=hdz (play_any (cp:=cp) hT hs hok hn 1 11)
 clear hT hs hok
 go_enter Tryz.func8,Tryz.ntmps8
 go_wp2_with fail
 refine HP.out.mono ?_
 rintro e w1 ⟨rfl,hf⟩
 have HF:=hdz hf
 clear hf HP
 go_wp2_with fail
 go_ret
 exact⟨by first | rfl | trivial,HF.out⟩
set_option maxRecDepth 100000 in
theorem contract (H:Type)(enc:TypeId×Value→H)(W:World)(base:Nat)(args:Array Value)(ds gs:List (DataW H))(before:List MemPlace)
 (hval:∀ (j:Nat) t v,Tryz.f8.params[j]?=some t→args[j]?=some v→Value.okWide Tryz.prog W .any base t v)
 (hW:DataW.Whole enc Tryz.prog Tryz.f8.params.toList Rows.machineAllSpec.vars false W args.toList ds gs before) (hL:laidMetH Tryz.prog Rows.machineAllUptoRow.laid W) (hS:Rows.uptoSmall H (ds++gs)=true) :
 Calls Tryz.prog 8 args W λe W'=>∃v,e=.returned v∧Rows.machineAllSpec.post enc Tryz.prog Tryz.f8 false true false false W args v W':=by
 have hW':=hW
 obtain⟨p,q,hA0,hV,rfl,hfz,hnd⟩:=hW
 have hA:DataW.TrodAll enc Tryz.prog W 0 (λ_=>true) true Tryz.f8.params.toList args.toList ds p:=hA0
 rw[Tryz.params8] at hA hval
 obtain⟨v0,vs0,d0,ds0,p0,q0,hargs,rfl,rfl,h0,r0⟩:=trodAll_cons hA
 obtain⟨rfl,rfl,rfl⟩:=trodAll_nil r0
 obtain rfl:args=#[v0]:=by cases args;simp_all
 obtain⟨rfl,rfl⟩:=trodVars_none hV
 have hsm:=small_one (by simpa using hS)
 obtain⟨A,c,os,rfl,hb,hlen,hall⟩:=open_ops (hval 0 _ v0 rfl rfl) h0 hsm
 refine (any (tabsN_of_laid hL) hb hall (by omega)).mono λe W' ⟨he,hf⟩=>?_
 subst he
 exact⟨_,rfl,post_true laidOut (by kernel_rfl) rfl Tryz.underlying4 rfl hW' rfl hf.below⟩
abbrev zeroArgs:Array Value:=#[.slice none 0 0]
set_option maxRecDepth 100000 in
theorem laid_met (os:Os):laidMet Tryz.prog Rows.machineAllUptoRow.laid ((laidWorld os).forCall (λ_ _=>0) ⟨#[],zeroArgs,[]⟩).memory:=
 laidMet_of_run' 8 (by kernel_rfl) (by kernel_rfl)
theorem reads (os:Os){H:Type}(enc:TypeId×Value→H):∃places,DataW.whole enc Tryz.prog ((laidWorld os).forCall (λ_ _=>0) ⟨#[],zeroArgs,[]⟩).memory Tryz.f8.params.toList Rows.machineAllSpec.vars false zeroArgs.toList 8=some ([.nil],[],places):=
 ⟨[],by kernel_rfl⟩
set_option maxRecDepth 100000 in
theorem liftedUpto (os:Os) (started:os.Started) (H:Type) (enc:TypeId×Value→H) (F:Stop.Interp) :
 ReturnsInHanded {} Tryz.checked os 8 .any ((Rows.OpenSpec.upto Rows.machineAllSpec).preRow enc Tryz.prog Tryz.f8 Rows.machineAllUptoRow.domain false Rows.machineAllUptoRow.laid) (((Rows.OpenSpec.upto Rows.machineAllSpec).at F).post enc Tryz.prog Tryz.f8 false true false false):=by
 obtain⟨places,hx⟩:=reads os enc
 refine returnsInHanded_of_row (C:=Tryz.checked) (s:=Rows.OpenSpec.upto Rows.machineAllSpec) own started (by kernel_rfl) Tryz.func8
  (witness_row_at (enc:=enc) (C:=Tryz.checked) false (laidWorld os) zeroArgs rfl (by kernel_rfl) (by kernel_rfl) (by kernel_rfl)
   (OpenSpec.preRow_of_cond 8 hx (by kernel_rfl) (λk hk=>by cases hk;kernel_rfl) (by kernel_rfl) (laid_met os))) ?_
 intro W base args ds gs before hval hW _ hcond _ hL _ _
 exact contract H enc W base args ds gs before hval hW hL (hcond _ rfl)
theorem saidUpto:Rows.MachineAllUptoSaid:=
 OpenClaim.holds_of_cond 8 Tryz.f8 rfl rfl rfl rfl rfl rfl rfl ⟨rfl,rfl,rfl,rfl,rfl⟩ rfl rfl rfl rfl rfl (by kernel_rfl) Tryz.func8 (by kernel_rfl)
  (of_decide_eq_true (by kernel_rfl)) (by unfold Func.isWrapper;first | (rw[if_pos (by decide +kernel)];kernel_rfl) | (rw[if_neg (by decide +kernel)];exact⟨rfl,rfl⟩))
  (λos started H enc _ F=>by rw[OpenClaim.pre_eq_preRow];exact liftedUpto os started H enc F)
theorem plain (f : FuncId)(fn : Func)(hf : Tryz.pinned.checked.prog.funcNamed "quorate/quoratelaw13.MachineAll" = some f)(hfn : Tryz.pinned.checked.prog.funcs[f]? = some fn) :
 true=Tryz.pinned.checked.prog.looks []∧∀ (j:Nat) t,fn.params[j]?=some t→Tryz.pinned.checked.prog.wantsStandIn t=false:=by
 obtain rfl : f = 8 := Option.some.inj ((show Tryz.prog.funcNamed "quorate/quoratelaw13.MachineAll" = some 8 by kernel_rfl).symm.trans hf) |>.symm
 obtain rfl:fn=Tryz.f8:=(Option.some.inj (Tryz.func8.symm.trans hfn)).symm
 refine⟨by kernel_rfl,λj t ht=>?_⟩
 rw[Tryz.params8] at ht
 have hm:=Array.mem_of_getElem? ht
 simp only[List.mem_toArray,List.mem_cons,List.not_mem_nil,or_false] at hm
 obtain rfl:=hm
 exact (show Tryz.prog.wantsStandIn 22=false by kernel_rfl)
theorem cardUpto:Rows.MachineAllUptoCardSaid:=
 Claim7.holds_tied_plain_at .later [] _ _ _ _ saidUpto (λ_ h=>by cases h) (by kernel_rfl) (λ_ h=>by cases h) machineAllUpto_row_tie rfl ⟨rfl,rfl⟩ (by kernel_rfl) rfl plain (by kernel_rfl)
end Go.Proofs.YtlibhkehebioeaaGreatDoor.machineAll
