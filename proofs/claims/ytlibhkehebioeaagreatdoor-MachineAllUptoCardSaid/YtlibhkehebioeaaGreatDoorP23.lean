/- A PART OF THE PROOF. No condition. -/
import Derived.Test.YtlibhkehebioeaaGreatDoorP9
import Derived.Test.YtlibhkehebioeaaGreatDoorP22
import Derived.Test.YtlibhkehebioeaaGreatDoorP0
namespace Go.Proofs.YtlibhkehebioeaaGreatDoor
set_option linter.unusedVariables false
set_option linter.unusedSimpArgs false
set_option maxRecDepth 100000
set_option maxHeartbeats 40000000
open Go.ChangeShapes Go.WideShapes Go.ChangeAt Go.RowKit Go.Joins
theorem cU8:Tryz.prog.cellsOf 5=1:=by kernel_rfl
theorem cBs:Tryz.prog.cellsOf 35=1:=by kernel_rfl
theorem cOp:Tryz.prog.cellsOf 85=12:=by kernel_rfl
section
variable {H:Type}{enc:TypeId×Value→H}
theorem open_bsL {W:World} {n:Nat} {c:Value} {y:DataW H×List MemPlace} (h:DataW.trod enc Tryz.prog W 0 (λ_=>true) true n 35 [c]=some y) :
 ∃ (A:Option Addr) (m cap:Nat) (bs:List UInt8),c=.slice A m cap∧m≤cap∧(m=0→cap=0∨A≠none)∧Rd W (λ_=>True) 1 A m (Lib.byteCells bs)∧m≤Rows.uptoBulk y.1:=by
 rcases open_ints Tryz.underlying35 Tryz.underlying5 cU8 h with ⟨hcs,rfl⟩ | ⟨a,len,cap,zs,hcs,_,hl,hm,hz,rfl,hcell,hwz⟩
 ·obtain rfl:c=.slice none 0 0:=by simpa using hcs
  exact⟨none,0,0,[],rfl,lrz _,λ_=>.inl rfl,Rd.nil _ _ _ _,Nat.zero_le _⟩
 ·obtain rfl:c=.slice (some a) len cap:=by simpa using hcs
  simp only[if_true] at hz
  refine⟨some a,len,cap,(zs.take len).map λn=>UInt8.ofNat n.toNat,rfl,hl,λ_=>.inr (by simp),⟨by simp[Lib.byteCells];omega,λhn=>?_⟩,?_⟩
  ·obtain⟨ab,ao,spot⟩:=a
   have hspot:spot=none:=by simpa[Addr.add] using World.cell?_spot (hcell 0 (by omega))
   subst hspot
   refine⟨ab,ao,rfl,trivial,λj u hu=>?_⟩
   have hj:j<len:=by
    rcases Nat.lt_or_ge j len with h | h
    ·exact h
    ·rw[List.getElem?_eq_none (by simp[Lib.byteCells];omega)] at hu;cases hu
   have hjz:j<zs.length:=by omega
   have hc:=hcell j hjz
   rw[Addr.add_lit] at hc
   rw[hc]
   have hb:=range_u8 hwz j
   simp only[List.getElem?_eq_getElem hjz,Option.getD_some] at hb
   simp only[Lib.byteCells,List.getElem?_map,List.getElem?_take,hj,if_true,List.getElem?_eq_getElem hjz,Option.map_some,Option.some.injEq] at hu
   rw[←hu]
   simp only[List.getD,List.getElem?_eq_getElem hjz,Option.getD_some]
   congr 2
   rw[UInt8.toNat_ofNat']
   omega
  ·simp only[Rows.uptoBulk]
   have:=bulks_len (lits (H:=H) .u8 (zs.take len))
   simp[lits] at this
   simp[lits]
   omega
theorem open_i1 {W:World}{n:Nat}{c:Value}{y:DataW H×List MemPlace}(h:DataW.trod enc Tryz.prog W 0 (λ_=>true) true n 3 [c]=some y):∃z,c=.int .i64 z:=by
 obtain⟨z,e,_,hw⟩:=DataW.trod_int Tryz.underlying3 h
 exact⟨z,by simpa using e⟩
theorem open_s1 {W:World}{n:Nat}{c:Value}{y:DataW H×List MemPlace}(h:DataW.trod enc Tryz.prog W 0 (λ_=>true) true n 9 [c]=some y):∃l:Txt,c=str l∧l.length≤Rows.uptoBulk y.1:=by
 obtain⟨s,e,rfl,_⟩:=DataW.trod_string Tryz.underlying9 h
 exact⟨s.data.toList,by rw[←str_of];simpa using e,by simp[Rows.uptoBulk]⟩
theorem open_op {W:World} {n:Nat} {cs:List Value} {y:DataW H×List MemPlace} (h:DataW.trod enc Tryz.prog W 0 (λ_=>true) true n 85 cs=some y):∃x:OpD,cs=x.cells∧(Rows.uptoBulk y.1≤1048576→OpOk W x):=by
 obtain⟨xs,n,_,hy,hlc,hlen,hg⟩:=DataW.trod_struct Tryz.underlying85 h
 match cs,hlc.trans cOp,xs,hlen with
 | [c0,c1,c2,c3,c4,c5,c6,c7,c8,c9,c10,c11],_,[y0,y1,y2,y3,y4,y5],_=>
  have g0:DataW.trod enc Tryz.prog W 0 (λ_=>true) true n 3 (([c0,c1,c2,c3,c4,c5,c6,c7,c8,c9,c10,c11].drop 0).take (Tryz.prog.cellsOf 3))=some y0:=hg 0 _ rfl
  rw[cI] at g0
  have g1:DataW.trod enc Tryz.prog W 0 (λ_=>true) true n 3 (([c0,c1,c2,c3,c4,c5,c6,c7,c8,c9,c10,c11].drop 1).take (Tryz.prog.cellsOf 3))=some y1:=hg 1 _ rfl
  rw[cI] at g1
  have g2:DataW.trod enc Tryz.prog W 0 (λ_=>true) true n 3 (([c0,c1,c2,c3,c4,c5,c6,c7,c8,c9,c10,c11].drop 2).take (Tryz.prog.cellsOf 3))=some y2:=hg 2 _ rfl
  rw[cI] at g2
  have g3:DataW.trod enc Tryz.prog W 0 (λ_=>true) true n 30 (([c0,c1,c2,c3,c4,c5,c6,c7,c8,c9,c10,c11].drop 3).take (Tryz.prog.cellsOf 30))=some y3:=hg 3 _ rfl
  rw[cC] at g3
  have g4:DataW.trod enc Tryz.prog W 0 (λ_=>true) true n 9 (([c0,c1,c2,c3,c4,c5,c6,c7,c8,c9,c10,c11].drop 10).take (Tryz.prog.cellsOf 9))=some y4:=hg 4 _ rfl
  rw[cS] at g4
  have g5:DataW.trod enc Tryz.prog W 0 (λ_=>true) true n 35 (([c0,c1,c2,c3,c4,c5,c6,c7,c8,c9,c10,c11].drop 11).take (Tryz.prog.cellsOf 35))=some y5:=hg 5 _ rfl
  rw[cBs] at g5
  obtain⟨z0,rfl⟩:=open_i1 (c:=c0) g0
  obtain⟨z1,rfl⟩:=open_i1 (c:=c1) g1
  obtain⟨z2,rfl⟩:=open_i1 (c:=c2) g2
  obtain⟨⟨a0,a1,a2,a3,a4,a5,a6⟩,hx⟩:=open_c (cs:=[c3,c4,c5,c6,c7,c8,c9]) g3
  simp only[CmD.cells,List.cons.injEq,and_true] at hx
  obtain⟨rfl,rfl,rfl,rfl,rfl,rfl,rfl⟩:=hx
  obtain⟨key,rfl,hkey⟩:=open_s1 (c:=c10) g4
  obtain⟨A,m,cap,bs,rfl,hmc,hnil,hrd,hm⟩:=open_bsL (c:=c11) g5
  refine⟨⟨z0,z1,z2,a0,a1,a2,a3,a4,a5,a6,key,A,m,cap,bs⟩,rfl,λhb=>?_⟩
  subst hy
  simp only[List.map_cons,List.map_nil,Rows.uptoBulk,Rows.uptoBulkAll] at hb
  exact⟨hrd,by show m≤_;omega,hmc,hnil,by show key.length≤_;omega⟩
theorem open_ops {W:World} {base:Nat} {v:Value} {d:DataW H} {p:List MemPlace} (hval:Value.okWide Tryz.prog W .any base 22 v) (h:DataW.Trod enc Tryz.prog W 0 (λ_=>true) true 22 v d p) (hd:Rows.uptoBulk d≤1048576) :
 ∃ (A:Option Addr) (c:Nat) (os:List OpD),v=.slice A os.length c∧Rd W (λ_=>True) 12 A os.length (rcells OpD.cells os)∧os.length≤Rows.uptoBulk d∧∀o∈os,OpOk W o:=by
 obtain⟨a1,len,cap,rfl⟩:=okWide_slice Tryz.underlying22 hval
 obtain⟨fuel,hf⟩:=h
 have hf':DataW.trod enc Tryz.prog W 0 (λ_=>true) true fuel 22 [.slice a1 len cap]=some (d,p):=hf
 obtain⟨xs,⟨A,c,e,_,_,hr⟩,hbk,_,hall⟩:=open_rows (f:=OpD.cells) (p:=λx D=>Rows.uptoBulk D≤1048576→OpOk W x) Tryz.underlying22 cOp op_twelve (by omega) (λn cs y h=>open_op h) hf'
 exact⟨A,c,xs,e,hr,hbk,λx hx=>by
  obtain⟨D,h1,h2⟩:=hall x hx
  exact h1 (lez h2 hd)⟩
end
theorem small_one {H:Type}{d1:DataW H}(h:Rows.uptoSmall H [d1]=true):Rows.uptoBulk d1≤1048576:=by
 have h1:Rows.uptoBulkAll [d1]≤1048576:=of_decide_eq_true h
 simp only[Rows.uptoBulkAll] at h1
 omega
end Go.Proofs.YtlibhkehebioeaaGreatDoor
namespace Go.Proofs.YtlibhkehebioeaaGreatDoor
set_option linter.unusedVariables false
set_option linter.unusedSimpArgs false
set_option maxRecDepth 100000
set_option maxHeartbeats 40000000
open Go.ChangeShapes Go.WideShapes Go.ChangeAt Go.RowKit
theorem own:ownKnob Tryz.prog.godebug=none:=by kernel_rfl
theorem gPowT:(Tryz.prog.globals[4]?).map (·.type)=some 236:=by kernel_rfl
theorem gShpT:(Tryz.prog.globals[1]?).map (·.type)=some 164:=by kernel_rfl
theorem gSynT:(Tryz.prog.globals[2]?).map (·.type)=some 187:=by kernel_rfl
theorem starErr : "*" ++ "errors.errorString" = "*errors.errorString" := by decide
theorem rowErr (u : TypeId)(h : Tryz.prog.typeName? 3 u = some "*errors.errorString") : u = 240 :=
 typeName_ptr_named (nm := "errors.errorString") (by rw [starErr]; kernel_rfl) (by kernel_rfl) (by decide) u (by rw [starErr]; exact h)
theorem gNibT:(Tryz.prog.globals[0]?).map (·.type)=some 134:=by kernel_rfl
theorem tabsN_of_laid {W:World} (h:laidMetH Tryz.prog Rows.machineSameRow.laid W):TabsN W:=by
 have h0:laidMet Tryz.prog Rows.machineSameRow.laid W:=h
 have h2:=h0.tail.tail
 have h4:=h2.tail.tail
 have h5:=h4.tail
 have h6:=h5.tail
 obtain⟨a,s,hs,_,_,_⟩:=laid_sentinel h4 gSyn gSynT Tryz.underlying187 rowErr Tryz.underlying240 Tryz.underlying242 rfl rfl Tryz.underlying9 (by kernel_rfl) (by kernel_rfl)
 exact⟨⟨Lib.tabIs_of_head (zs:=Lib.pow10Tab) (rest:=_) gPow gPowT Tryz.underlying236 Tryz.underlying200 (by kernel_rfl) (by kernel_rfl) h2,
  Lib.tabIs_of_head (zs:=shapeTab) (rest:=[]) gShp gShpT Tryz.underlying164 Tryz.underlying3 (by kernel_rfl) (by kernel_rfl) h6,_,_,hs⟩,
  Lib.tabIs_of_head (zs:=nibInts) (rest:=_) gNib gNibT Tryz.underlying134 Tryz.underlying133 (by kernel_rfl) (by kernel_rfl) h5⟩
abbrev rangeS:ByteArray:={ data:=#[118,97,108,117,101,32,111,117,116,32,111,102,32,114,97,110,103,101] }
abbrev syntaxS:ByteArray:={ data:=#[105,110,118,97,108,105,100,32,115,121,110,116,97,120] }
def litCell:DataW Unit→Value
 | .lit (.int k z)=>.int k z
 | _=>undef
def tabCells:DataW Unit→Array Value
 | .agg l=>(l.map litCell).toArray
 | _=>#[]
noncomputable def low:Nat:=(World.holding Tryz.prog default ⟨#[],#[],[]⟩).heap.size
def put (cs:Array Value):Obj→Obj
 | .cells _ t frozen=>.cells cs t frozen
 | o=>o
noncomputable def laidWorld (os:Os):World:=
 let w0:=World.holding Tryz.prog os ⟨#[.cells #[.string rangeS] 242,.cells #[.string syntaxS] 242],#[],[]⟩
 { w0 with heap:=((((((w0.heap.modify 5 (put (tabCells Rows.laid_math_bits_deBruijn32tab))).modify 6 (put (tabCells Rows.laid_math_bits_deBruijn64tab))).modify 4 (put (tabCells Rows.laid_internal_strconv_uint64pow10))).modify
  3 (put #[.iface 240 (.pointer (some ⟨low,0,none⟩))])).modify 2 (put #[.iface 240 (.pointer (some ⟨low+1,0,none⟩))])).modify 0 (put (tabCells Rows.laid_quorate_wire_nibble))).modify 1 (put (tabCells Rows.laid_quorate_machine_shapes)) }
end Go.Proofs.YtlibhkehebioeaaGreatDoor
