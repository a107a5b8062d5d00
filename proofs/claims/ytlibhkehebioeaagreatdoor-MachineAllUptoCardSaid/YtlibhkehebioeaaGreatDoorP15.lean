/- A PART OF THE PROOF. No condition. -/
import Derived.Test.YtlibhkehebioeaaGreatDoorP14
import Derived.Test.YtlibhkehebioeaaGreatDoorP9
import Derived.Test.YtlibhkehebioeaaGreatDoorP4
import Derived.Test.YtlibhkehebioeaaGreatDoorP0
import Derived.Test.YtlibhkehebioeaaGreatDoorP12
import Derived.Test.YtlibhkehebioeaaGreatDoorP11
namespace Go.Proofs.YtlibhkehebioeaaGreatDoor
set_option linter.unusedVariables false
set_option linter.unusedSimpArgs false
set_option maxRecDepth 100000
set_option maxHeartbeats 40000000
open Go.RowKit
theorem dseal_any (Z:Nat→Prop) (A:Option Addr) (n c:Nat) (bs:Txt) (w:World) (hb:Rd w Z 1 A n (Lib.byteCells bs)) (h4:4≤n) (hn:n≤1099511627770) (hnc:n≤c) :
 Calls Tryz.prog 125 #[.slice A n c] w λe w'=>(∃r:Bool,e=.returned (.bool r)∧(r=true↔bs.drop (n - 4)=sumB (bs.take (n - 4))))∧∃k,w'=w.drewN k:=by
 have hlen:bs.length=n:=by simpa[Lib.byteCells] using hb.1
 obtain⟨m,hm4⟩:∃m,n=m+4:=⟨n - 4,by omega⟩
 rw[show n - 4=m by omega]
 obtain⟨b,o,rfl,-,hcl⟩:=hb.2 (by omega)
 have hS:=dsum_any Z (some ⟨b,o,none⟩) m c (bs.take m) w (by have h1:=hb.front m (by omega);simpa[Lib.byteCells,List.map_take] using h1) (by omega)
 obtain⟨sm,hsm⟩:=exz (crcB (bs.take m))
 rw[←hsm] at hS
 have hcell:∀j,(hj:j<bs.length)→w.cell? ⟨b,o+j,none⟩=some (.int .u8 ((bs[j]).toNat:Int)):=λj hj=>hcl j _ (by simp[Lib.byteCells,hj])
 have c0:=hcell m (by omega)
 have c1:=hcell (m+1) (by omega)
 have c2:=hcell (m+2) (by omega)
 have c3:=hcell (m+3) (by omega)
 have htl:(bs.drop m).length=4:=by rw[List.length_drop];omega
 have hfin:=sumB_at (bs.take m) (bs.drop m) htl
 simp only[List.getElem_drop,Nat.add_zero] at hfin
 have q0:=(bs[m]'(by omega)).toNat_lt
 have q1:=(bs[m+1]'(by omega)).toNat_lt
 have q2:=(bs[m+2]'(by omega)).toNat_lt
 have q3:=(bs[m+3]'(by omega)).toNat_lt
 obtain⟨x0,hx0⟩:∃x:Nat,x=(bs[m]'(by omega)).toNat:=⟨_,rfl⟩
 obtain⟨x1,hx1⟩:∃x:Nat,x=(bs[m+1]'(by omega)).toNat:=⟨_,rfl⟩
 obtain⟨x2,hx2⟩:∃x:Nat,x=(bs[m+2]'(by omega)).toNat:=⟨_,rfl⟩
 obtain⟨x3,hx3⟩:∃x:Nat,x=(bs[m+3]'(by omega)).toNat:=⟨_,rfl⟩
 rw[←hx0] at c0 q0
 rw[←hx1] at c1 q1
 rw[←hx2] at c2 q2
 rw[←hx3] at c3 q3
 rw[←hx0,←hx1,←hx2,←hx3,←hsm] at hfin
 have lb:=lt_of_cell c0
 have HF:=hdz hfin
 have HS:=hdz hS
 have hm:m≤1099511627766:=by omega
 have hmc:n≤c:=hnc
 have hsub:(n:Int) - 4=(m:Int):=by omega
 have i0:(m:Int)<(n:Int):=by omega
 obtain⟨m1,hm1⟩:∃j,j=m+1:=⟨_,rfl⟩
 have s1:(m:Int)+1=(m1:Int):=by omega
 have i1:(m1:Int)<(n:Int):=by omega
 have j1:m1≤1099511627770:=by omega
 rw[←hm1] at c1
 obtain⟨m2,hm2⟩:∃j,j=m+2:=⟨_,rfl⟩
 have s2:(m:Int)+2=(m2:Int):=by omega
 have i2:(m2:Int)<(n:Int):=by omega
 have j2:m2≤1099511627770:=by omega
 rw[←hm2] at c2
 obtain⟨m3,hm3⟩:∃j,j=m+3:=⟨_,rfl⟩
 have s3:(m:Int)+3=(m3:Int):=by omega
 have i3:(m3:Int)<(n:Int):=by omega
 have j3:m3≤1099511627770:=by omega
 rw[←hm3] at c3
 have hmn:(m:Int)≤(c:Int):=by omega
 have hn0:n≤1099511627770:=hn
 clear hb hlen hcl hcell hx0 hx1 hx2 hx3 hfin hS hsm htl h4 hn hnc hm4 hm1 hm2 hm3
 go_enter Tryz.func125,Tryz.ntmps125
 go_wp2_with fail
 refine Calls.mono HS.out ?_
 rintro e _ ⟨rfl,rfl⟩
 go_wp2_with fail
 have HK:Hid (∀w',Fresh w w'→w'.cell? ⟨b,o+m,none⟩=some (.int .u8 (x0:Int))∧w'.cell? ⟨b,o+m1,none⟩=some (.int .u8 (x1:Int))∧w'.cell? ⟨b,o+m2,none⟩=some (.int .u8 (x2:Int))∧w'.cell? ⟨b,o+m3,none⟩=some (.int .u8 (x3:Int))):=hdz λw' hf=>⟨hf.cellAt c0 trivial,hf.cellAt c1 trivial,hf.cellAt c2 trivial,hf.cellAt c3 trivial⟩
 go_region
 go_wp2_with fail
 go_ret
 refine⟨⟨_,rfl,?_⟩,⟨_,rfl⟩⟩
 rw[HF.out]
 rw[beq_iff_eq]
 constructor
 ·intro h
  omega
 ·intro h
  omega
theorem putB_len4 {v:Nat}(h:v≤99999999):(putB v).length≤4:=putB_len 3 v (by omega)
theorem flat_most {α:Type} {f:α→List UInt8} {c:Nat}:∀ (l:List α),(∀x∈l,(f x).length≤c)→(l.flatMap f).length≤c*l.length
 | [],_=>by simp
 | x::l,h=>by
  have h1:=h x (by simp)
  have h2:=flat_most l λy hy=>h y (by simp[hy])
  rw[List.flatMap_cons,lapz,List.length_cons,Nat.mul_succ]
  omega
theorem txt_most {t:Txt}(h:t.length≤8):(txt t).length≤9:=by
 unfold txt
 rw[lapz,putB_one (by omega)]
 omega
theorem snap_most {s:StD} (h:Inv s):(snapB s).length≤1070:=by
 have h1:(putB s.tok.toNat).length≤4:=putB_len4 (by have:=h.lk.tok1;have:=h.lk.tok0;omega)
 have h2:(putB s.pairs.length).length=1:=putB_one (by have:=h.pr.len;omega)
 have h3:(s.pairs.flatMap pairB).length≤18*s.pairs.length:=flat_most _ λx hx=>by
  have hp:=h.pr.each x hx
  unfold pairB
  rw[lapz]
  have:=txt_most hp.2.1
  have:=txt_most hp.2.2
  omega
 have h4:(putB s.locks.length).length=1:=putB_one (by have:=h.lk.len;omega)
 have h5:(s.locks.flatMap lockB).length≤30*s.locks.length:=flat_most _ λx hx=>by
  have ok:=h.lk.each x hx
  have hq:=queue_len ok.nd ok.q
  have e:(lockB x).length=(txt x.name).length+((putB x.holder.toNat).length+((putB x.token.toNat).length+((putB x.queue.length).length+(x.queue.flatMap λc=>putB c.toNat).length))):=by
   unfold lockB queueB
   simp only[lapz]
  rw[e]
  clear e
  have a1:=txt_most (t:=x.name) ok.n8
  have a2:(putB x.holder.toNat).length=1:=putB_one (by have:=ok.h1;omega)
  have a3:(putB x.token.toNat).length≤4:=putB_len4 (by have:=ok.t1;have:=h.lk.tok1;omega)
  have a4:(putB x.queue.length).length=1:=putB_one (by omega)
  have a5:(x.queue.flatMap λc=>putB c.toNat).length≤1*x.queue.length:=flat_most _ λc hc=>Nat.le_of_eq (putB_one (by have:=ok.q c hc;omega))
  have a6:x.queue.length≤15:=by
   have:=queue_len (q:=x.holder::x.queue) (List.nodup_cons.2 ⟨ok.hq,ok.nd⟩) (λc hc=>by
    rcases List.mem_cons.1 hc with rfl | h1
    ·exact⟨ok.h0,ok.h1⟩
    ·exact ok.q c h1)
   rw[List.length_cons] at this
   omega
  omega
 have h6:(putB (asked s.ss).length).length=1:=putB_one (by have:=asked_len s.ss;omega)
 have h7:((asked s.ss).flatMap sesB).length≤33*(asked s.ss).length:=flat_most _ λx hx=>by
  obtain⟨q1,ok⟩:=ses_asked h hx
  have e:(sesB x).length=(putB x.1).length+((putB x.2.inc.toNat).length+((putB x.2.req.toNat).length+((putB x.2.last.code.toNat).length+((txt x.2.last.val).length+(putB x.2.last.n.toNat).length)))):=by
   unfold sesB
   simp only[lapz]
  rw[e]
  clear e
  have a1:(putB x.1).length=1:=putB_one (by omega)
  have a2:(putB x.2.inc.toNat).length≤9:=putB_len9 (by have:=ok.i1;omega)
  have a3:(putB x.2.req.toNat).length≤9:=putB_len9 (by have:=ok.r1;omega)
  have a4:(putB x.2.last.code.toNat).length=1:=putB_one (by have:=ok.last.c1;omega)
  have a5:=txt_most (t:=x.2.last.val) ok.last.v
  have a6:(putB x.2.last.n.toNat).length≤4:=putB_len4 (by have:=ok.last.n1;omega)
  omega
 unfold snapB bodyB restB
 simp only[lapz]
 have h8:headB.length=3:=rfl
 have h9:(sumB (bodyB s)).length=4:=rfl
 have:=h.pr.len
 have:=h.lk.len
 have:=asked_len s.ss
 unfold bodyB restB at h9
 omega
theorem DAt.base {B B':Nat}{F:Nat→Prop}{w:World}{d:Nat}{pv hv:Value}{hs:List DLk}{s:StD}(h:DAt B F w d pv hv hs s)(hb:B'≤B):DAt B' F w d pv hv hs s:=
 ⟨h.blk,own_base h.pr hb,own_base h.lk hb,h.ds,λx hx=>own_base (h.qs x hx) hb,h.ap,h.fd,h.fp,h.fh,h.fq⟩
def DRestPost (bs:Txt)(w:World)(e:Ending)(w':World):Prop:=
 Fresh w w'∧((∃ (s:StD) (d:Nat) (pv hv:Value) (hs:List DLk),Restored bs s∧e=.returned (.tuple #[.pointer (some ⟨d,0,none⟩),.int .i64 0])∧DAt w.heap.size (DFoot d pv hv hs) w' d pv hv hs s∧∀k,DFoot d pv hv hs k→w.heap.size≤k)∨((∀s,¬Restored bs s)∧e=.returned (.tuple #[.pointer none,.int .i64 131])))
theorem drest_no {bs:Txt}{w w':World}(hf:Fresh w w')(h:∀s,¬Restored bs s):DRestPost bs w (.returned (.tuple #[.pointer none,.int .i64 131])) w':=⟨hf,.inr ⟨h,rfl⟩⟩
theorem drestore_any (Z0:Nat→Prop) (A:Option Addr) (n c:Nat) (bs:Txt) (w:World) (hb0:Rd w Z0 1 A n (Lib.byteCells bs)) (hn:n≤1099511627770) (hnc:n≤c) :
 Calls Tryz.prog 89 #[.slice A n c] w (DRestPost bs w):=by
 have hlen:bs.length=n:=by simpa[Lib.byteCells] using hb0.1
 by_cases h11:n<11
 ·have H:Hid (∀s,¬Restored bs s):=hdz λs hs=>by have:=hs.1.1;omega
  have h11i:(n:Int)<11:=by omega
  clear hb0 hlen h11
  go_enter Tryz.func89,Tryz.ntmps89
  go_wp2_with fail
  go_ret2
  exact drest_no (krz _ _) H.out
 have h11i:¬(n:Int)<11:=by omega
 by_cases h70:1070<n
 ·have H:Hid (∀s,¬Restored bs s):=hdz λs hs=>by
   obtain⟨e,hi⟩:=restored_inv hs
   have:=snap_most hi
   rw[←e] at this
   omega
  have h70i:(1070:Int)<(n:Int):=by omega
  clear hb0 hlen h11 h70
  go_enter Tryz.func89,Tryz.ntmps89
  go_wp2_with fail
  go_ret2
  exact drest_no (krz _ _) H.out
 have h70i:¬(1070:Int)<(n:Int):=by omega
 obtain⟨b,o,rfl,-,hcl⟩:=hb0.2 (by omega)
 have hcell:∀j,(hj:j<bs.length)→w.cell? ⟨b,o+j,none⟩=some (.int .u8 ((bs[j]).toNat:Int)):=λj hj=>hcl j _ (by simp[Lib.byteCells,hj])
 obtain⟨x0,hx0⟩:∃x:Nat,x=(bs[0]'(by omega)).toNat:=⟨_,rfl⟩
 obtain⟨x1,hx1⟩:∃x:Nat,x=(bs[1]'(by omega)).toNat:=⟨_,rfl⟩
 obtain⟨x2,hx2⟩:∃x:Nat,x=(bs[2]'(by omega)).toNat:=⟨_,rfl⟩
 have c0:=hcell 0 (by omega)
 have c1:=hcell 1 (by omega)
 have c2:=hcell 2 (by omega)
 rw[←hx0,Nat.add_zero] at c0
 rw[←hx1] at c1
 rw[←hx2] at c2
 have h3:∀s,Restored bs s→x0=81∧x1=83∧x2=1:=λs h=>by
  have e:=h.1.2.1
  have e0:=congrArg (λl=>l[0]?) e
  have e1:=congrArg (λl=>l[1]?) e
  have e2:=congrArg (λl=>l[2]?) e
  simp[headB,show 0<bs.length by omega,show 1<bs.length by omega,show 2<bs.length by omega] at e0 e1 e2
  rw[hx0,hx1,hx2,e0,e1,e2]
  exact⟨rfl,rfl,rfl⟩
 have h3':x0=81→x1=83→x2=1→bs.take 3=headB:=λa0 a1 a2=>by
  have f0:bs[0]'(by omega)=81:=UInt8.toNat_inj.1 (by rw[←hx0,a0];rfl)
  have f1:bs[1]'(by omega)=83:=UInt8.toNat_inj.1 (by rw[←hx1,a1];rfl)
  have f2:bs[2]'(by omega)=1:=UInt8.toNat_inj.1 (by rw[←hx2,a2];rfl)
  refine List.ext_getElem? λj=>?_
  by_cases hj:j<3
  ·have:j=0∨j=1∨j=2:=by omega
   rcases this with rfl | rfl | rfl
   ·rw[List.getElem?_take_of_lt (by omega),List.getElem?_eq_getElem (by omega),f0];rfl
   ·rw[List.getElem?_take_of_lt (by omega),List.getElem?_eq_getElem (by omega),f1];rfl
   ·rw[List.getElem?_take_of_lt (by omega),List.getElem?_eq_getElem (by omega),f2];rfl
  ·rw[List.getElem?_eq_none (by simp;omega),List.getElem?_eq_none (by simp[headB];omega)]
 have lb:=lt_of_cell c0
 have HS:=hdz (dseal_any Z0 (some ⟨b,o,none⟩) n c bs w hb0 (by omega) hn hnc)
 obtain⟨b4,hb4⟩:∃l,l=bs.take (n - 4):=⟨_,rfl⟩
 have hb4l:b4.length=n - 4:=by rw[hb4,List.length_take];omega
 have hRd:Rd w (λk=>k<w.heap.size) 1 (some ⟨b,o,none⟩) (n - 4) (Lib.byteCells b4):=by
  have h1:=(hb0.old (by omega)).front (n - 4) (by omega)
  rw[hb4]
  simpa[Lib.byteCells,List.map_take] using h1
 have H3:=hdz (aiz h3 (aiz h3' (aiz hb4 (aiz hb4l (aiz hRd hlen)))))
 have hn':n≤1070:=by omega
 have hn11:11≤n:=by omega
 obtain⟨m,hm⟩:=exz (n - 4)
 have hsub:(n:Int) - 4=(m:Int):=by omega
 have hmc:m≤c:=by omega
 have hmn:m≤n:=by omega
 have HMn:Hid (n - 4=m∧7≤m):=hdz ⟨hm.symm,by omega⟩
 clear hb0 hlen hcl hcell hx0 hx1 hx2 h3 h3' hb4 hb4l hRd h11 h70 hm
 obtain⟨t0,ht0⟩:∃t,(x0==81)=t:=⟨_,rfl⟩
 by_cases g0:x0=81
 case neg=>
  have HN:Hid (∀s,¬Restored bs s):=hdz λs hs=>g0 (H3.out.1 s hs).1
  have hd0:((x0:Int)==81)=false:=by simp;omega
  have g0':¬(x0:Int)=81:=by omega
  go_enter Tryz.func89,Tryz.ntmps89
  go_wp2_with fail
  go_ret2
  exact drest_no (krz _ _) HN.out
 subst g0
 by_cases g1:x1=83
 case neg=>
  have HN:Hid (∀s,¬Restored bs s):=hdz λs hs=>g1 (H3.out.1 s hs).2.1
  have hd0:((x1:Int)==83)=false:=by simp;omega
  have g1':¬(x1:Int)=83:=by omega
  go_enter Tryz.func89,Tryz.ntmps89
  go_wp2_with fail
  go_ret2
  exact drest_no (krz _ _) HN.out
 subst g1
 by_cases g2:x2=1
 case neg=>
  have HN:Hid (∀s,¬Restored bs s):=hdz λs hs=>g2 (H3.out.1 s hs).2.2
  have hd0:((x2:Int)==1)=false:=by simp;omega
  have g2':¬(x2:Int)=1:=by omega
  go_enter Tryz.func89,Tryz.ntmps89
  go_wp2_with fail
  go_ret2
  exact drest_no (krz _ _) HN.out
 subst g2
 have HT:=hdz (H3.out.2.1 rfl rfl rfl)
 go_enter Tryz.func89,Tryz.ntmps89
 go_wp2_with fail
 refine Calls.mono HS.out ?_
 rintro e _ ⟨⟨sl,rfl,hsl⟩,⟨k,rfl⟩⟩
 have HSl:=hdz hsl
 clear hsl HS c0 c1 c2
 cases sl
 ·have HN:Hid (∀s,¬Restored bs s):=hdz λs hs=>by
   have h1:=hs.1.2.2
   rw[H3.out.2.2.2.2.2] at h1
   have:=HSl.out.2 h1
   cases this
  go_wp2_with fail
  go_ret2
  exact drest_no ((krz _ _).drewN _) HN.out
 ·have hsum:=HSl.out.1 rfl
  have hseal:sealedB bs:=⟨by have:=H3.out.2.2.2.2.2;omega,HT.out,by rw[H3.out.2.2.2.2.2];exact hsum⟩
  have hres:∀s,Restored bs s→∃r,oRaw b4 3=some (r,m)∧RawOk r∧s=toSt r:=λs hs=>by
   obtain⟨-,r,h1,h2,h3⟩:=hs
   rw[H3.out.2.2.2.2.2,←H3.out.2.2.1,HMn.out.1] at h1
   exact⟨r,h1,h2,h3⟩
  have hres2:∀r,oRaw b4 3=some (r,m)→RawOk r→Restored bs (toSt r):=λr h1 h2=>by
   refine⟨hseal,r,?_,h2,rfl⟩
   rw[H3.out.2.2.2.2.2,←H3.out.2.2.1,HMn.out.1]
   exact h1
  have HR:=hdz (aiz hres hres2)
  clear hsum hseal hres hres2 HSl
  go_upto_region 4 with (fail)
  generalize hw1:World.alloc (w.drewN k) _=w1
  obtain⟨g,hg⟩:=exz (w.heap.size)
  rw[←hg]
  have hgW1:RRd w1 g (some ⟨b,o,none⟩) m c 3 0:=by rw[←hw1];exact Blk.newAt hg.symm
  have hf1:Fresh w w1:=by rw[←hw1];exact ((krz _ w).drewN k).alloc _
  have hgl:=hgW1.lt
  have hI:RdIn b4 (some ⟨b,o,none⟩) m c g (λk=>k<w.heap.size) w1:=⟨λk hk e=>by omega,by omega,λh=>by have:=HMn.out.2;omega,by
   have h1:=H3.out.2.2.2.2.1
   rw[HMn.out.1] at h1
   exact h1.keep (hf1.weaken λ_ _ _=>trivial),by omega,hgl⟩
  have HRd:=hdz (dread_any hI hgW1 (by have:=HMn.out.2;omega))
  have HW1:=hdz (aiz hf1 (aiz hg hI))
  clear hw1 hg hgW1 hf1 hI hgl
  go_wp2_with fail
  refine Calls.mono HRd.out ?_
  rintro e w2 ⟨d,pv,hv,hs,r,p,er,rfl,hE,hR,hmap⟩
  have HE:=hdz (aiz hE hmap)
  have HEn:=hdz (readEnd_any g (some ⟨b,o,none⟩) m c p er w2 hR.rd)
  have HRA:=hdz hR
  clear hE hR hmap HRd
  go_wp2_with fail
  refine Calls.mono HEn.out ?_
  rintro e w3 ⟨rfl,hg3,hk3⟩
  have hf3:Fresh w w3:=by
   have h1:=HW1.out.1.comp HRA.out.kp (λ_ _ h=>h) (λi hi _ e=>by have:=HW1.out.2.1;omega)
   exact h1.comp hk3 (λ_ _ h=>h) (λi hi _ e=>by have:=HW1.out.2.1;omega)
  have hd3:=HRA.out.dr.other HRA.out.rd (by decide) (by decide) (by decide) (by decide) hk3
  have y2:=hg3.cell 2
  simp at y2
  have lg:=hg3.lt
  have H4:=hdz (aiz hf3 hd3)
  have hle:=HRA.out.le
  clear hg3 hk3 hf3 hd3 HEn
  by_cases hok:er=0∧p=m
  ·obtain⟨rfl,rfl⟩:=hok
   have hgot:=(HE.out.1.r rfl).ok rfl
   obtain⟨-,-,hrr⟩:=oRaw_inv hgot.1
   have hvr:=valid_raw hgot.2 hrr
   have HV:=hdz (dvalid_any H4.out.2 hrr.pl (by have h1:=congrArg List.length HE.out.2;rw[List.length_map] at h1;have:=hrr.ll;omega) (λx hx=>by
    have hk:=hrr.l x.d (by rw[←HE.out.2];exact List.mem_map_of_mem hx)
    exact⟨hk.h0,hk.h1,hk.ql,hk.q⟩))
   have HG:=hdz (aiz hgot (aiz hrr hvr))
   rw[if_neg (by omega)] at y2
   clear hgot hrr hvr
   go_wp2_with fail
   refine Calls.mono HV.out ?_
   rintro e w4 ⟨⟨vb,rfl,hvb⟩,hf4⟩
   rw[HE.out.2,HG.out.2.2] at hvb
   have HVb:=hdz (aiz hvb hf4)
   clear hvb hf4 HV
   cases vb
   ·go_wp2_with fail
    go_ret2
    refine drest_no (H4.out.1.then HVb.out.2) λs hs=>?_
    obtain⟨r',h1,h2,-⟩:=HR.out.1 s hs
    rw[HG.out.1.1] at h1
    injection h1 with h1
    injection h1 with h1 _
    subst h1
    have:=HVb.out.1.2 h2
    cases this
   ·have hro:=HVb.out.1.1 rfl
    have HRo:=hdz hro
    clear hro
    go_wp2_with fail
    go_ret2
    have hd4:=H4.out.2.fresh HVb.out.2
    have hda:=(hd4.at (azOf_all HG.out.1.2.2.2.2 λx hx=>(HG.out.1.2.2.2.1 x hx).1)).base HW1.out.1.size
    rw[HE.out.2] at hda
    exact⟨H4.out.1.then HVb.out.2,.inl ⟨toSt r,d,pv,hv,hs,HR.out.2 r HG.out.1.1 HRo.out,rfl,hda,λk hk=>lez HW1.out.1.size (hd4.foot hk).1⟩⟩
  ·have hev:¬(if er=0∧p≠m then (15:Int) else er)=0:=by
    split
    ·omega
    ·rename_i h
     intro h2
     exact hok ⟨h2,Classical.byContradiction λh3=>h ⟨h2,h3⟩⟩
   obtain⟨ev,hevd⟩:=exz ((if er=0∧p≠m then (15:Int) else er))
   rw[←hevd] at hev y2
   have hevb:(ev==0)=false:=by simpa using hev
   have HOk:=hdz hok
   clear hok hevd
   go_wp2_with fail
   go_ret2
   refine drest_no H4.out.1 λs hs=>?_
   obtain⟨r',h1,h2,-⟩:=HR.out.1 s hs
   have hgot:=HE.out.1.r rfl
   have he:=hgot.on r' m h1 (raw_isgood h2)
   have h3:=(hgot.ok he).1
   rw[h1] at h3
   injection h3 with h3
   injection h3 with _ h3
   exact HOk.out ⟨he,h3.symm⟩
def PlH.p (q:PlH):Nat→Value
 | 0=>q.p0
 | 1=>q.p1
 | _=>q.p2
def PlH.d (q:PlH):Nat→Value
 | 0=>q.d0
 | 1=>q.d1
 | _=>q.d2
def PlH.setP (q:PlH)(i:Nat)(v:Value):PlH:=
 match i with
 | 0=>{ q with p0:=v }
 | 1=>{ q with p1:=v }
 | _=>{ q with p2:=v }
def PlH.setD (q:PlH)(i:Nat)(v:Value):PlH:=
 match i with
 | 0=>{ q with d0:=v }
 | 1=>{ q with d1:=v }
 | _=>{ q with d2:=v }
section
variable {q:PlH}{i j:Nat}{u v V:Value}{nx:Int}
theorem bookC_p (hi:i<3):(bookC q V nx)[i]?=some (q.p i):=by
 rcases (by omega:i=0∨i=1∨i=2) with rfl | rfl | rfl <;> rfl
theorem bookC_d (hi:i<3):(bookC q V nx)[3+i]?=some (q.d i):=by
 rcases (by omega:i=0∨i=1∨i=2) with rfl | rfl | rfl <;> rfl
theorem bookC_setP (hi:i<3):(bookC q V nx).setIfInBounds i v=bookC (q.setP i v) V nx:=by
 rcases (by omega:i=0∨i=1∨i=2) with rfl | rfl | rfl <;> rfl
theorem bookC_setD (hi:i<3):(bookC q V nx).setIfInBounds (3+i) v=bookC (q.setD i v) V nx:=by
 rcases (by omega:i=0∨i=1∨i=2) with rfl | rfl | rfl <;> rfl
theorem bookC_setL:(bookC q V nx).setIfInBounds 9 v=bookC { q with l:=v } V nx:=rfl
theorem setP_p (hi:i<3)(hj:j<3):(q.setP i v).p j=if j=i then v else q.p j:=by
 rcases (by omega:i=0∨i=1∨i=2) with rfl | rfl | rfl <;> rcases (by omega:j=0∨j=1∨j=2) with rfl | rfl | rfl <;> rfl
theorem setP_d (hi:i<3)(hj:j<3):(q.setP i v).d j=q.d j:=by
 rcases (by omega:i=0∨i=1∨i=2) with rfl | rfl | rfl <;> rcases (by omega:j=0∨j=1∨j=2) with rfl | rfl | rfl <;> rfl
theorem setD_d (hi:i<3)(hj:j<3):(q.setD i v).d j=if j=i then v else q.d j:=by
 rcases (by omega:i=0∨i=1∨i=2) with rfl | rfl | rfl <;> rcases (by omega:j=0∨j=1∨j=2) with rfl | rfl | rfl <;> rfl
theorem setD_p (hi:i<3)(hj:j<3):(q.setD i v).p j=q.p j:=by
 rcases (by omega:i=0∨i=1∨i=2) with rfl | rfl | rfl <;> rcases (by omega:j=0∨j=1∨j=2) with rfl | rfl | rfl <;> rfl
theorem setP_l (hi:i<3):(q.setP i v).l=q.l:=by
 rcases (by omega:i=0∨i=1∨i=2) with rfl | rfl | rfl <;> rfl
theorem setD_l (hi:i<3):(q.setD i v).l=q.l:=by
 rcases (by omega:i=0∨i=1∨i=2) with rfl | rfl | rfl <;> rfl
end
def upd {α:Type}(f:Nat→α)(i:Nat)(x:α):Nat→α:=λj=>if j=i then x else f j
theorem upd_same {α:Type}(f:Nat→α)(i:Nat)(x:α):upd f i x i=x:=by simp[upd]
theorem upd_ne {α:Type}(f:Nat→α){i j:Nat}(x:α)(h:j≠i):upd f i x j=f j:=by simp[upd,h]
structure Regs (B n:Nat)(own:Nat→Nat→Prop):Prop where
 dis:∀a b,a<8→b<8→a≠b→∀k,own a k→¬own b k
 bd:∀a,a<8→∀k,own a k→B≤k∧k<n
theorem Regs.grow {B n n':Nat}{own:Nat→Nat→Prop}(h:Regs B n own)(hn:n≤n'):Regs B n' own:=
 ⟨h.dis,λa ha k e=>⟨(h.bd a ha k e).1,ltz (h.bd a ha k e).2 hn⟩⟩
theorem Regs.upd {B n n':Nat} {own:Nat→Nat→Prop} (h:Regs B n own) (hn:n≤n') {i:Nat} {F:Nat→Prop} (hF:∀k,F k→B≤k∧k<n') (ho:∀k,F k→∀a,a<8→a≠i→¬own a k):Regs B n' (upd own i F):=by
 refine⟨λa b ha hb hab k e1 e2=>?_,λa ha k e=>?_⟩
 ·by_cases h1:a=i
  ·subst h1
   rw[upd_same] at e1
   rw[upd_ne _ _ (Ne.symm hab)] at e2
   exact ho k e1 b hb (Ne.symm hab) e2
  ·rw[upd_ne _ _ h1] at e1
   by_cases h2:b=i
   ·subst h2
    rw[upd_same] at e2
    exact ho k e2 a ha hab e1
   ·rw[upd_ne _ _ h2] at e2
    exact h.dis a b ha hb hab k e1 e2
 ·by_cases h1:a=i
  ·subst h1
   rw[upd_same] at e
   exact hF k e
  ·rw[upd_ne _ _ h1] at e
   exact⟨(h.bd a ha k e).1,ltz (h.bd a ha k e).2 hn⟩
theorem Regs.other {B n:Nat}{own:Nat→Nat→Prop}(h:Regs B n own){i:Nat}(hi:i<8){F:Nat→Prop}(hF:∀k,F k→own i k∨n≤k):∀k,F k→∀a,a<8→a≠i→¬own a k:=by
 intro k hk a ha hai e
 rcases hF k hk with h1 | h1
 ·exact h.dis a i ha hi hai k e h1
 ·have:=(h.bd a ha k e).2;omega
structure PlSt where
 hd:PlH
 n:Nat
 m:Nat→Nat
 d:Nat→Nat
 pv:Nat→Value
 hv:Nat→Value
 hs:Nat→List DLk
 s:Nat→StD
 own:Nat→Nat→Prop
def PagesOk (w:World)(B:Nat)(S:Nat→Prop)(L:Value):Prop:=∃ps,PagesIs w B S L ps∧∀p∈ps,p.st≠1
theorem PagesOk.keep {w w':World}{B:Nat}{S Z:Nat→Prop}{L:Value}(h:PagesOk w B S L)(hk:Keep Z w w')(hz:∀k,S k→Z k):PagesOk w' B S L:=by
 obtain⟨ps,h,hst⟩:=h
 exact⟨ps,h.keep hk hz,hst⟩
structure PlayR (W0 w:World)(K:Nat)(st:PlSt):Prop where
 fr:Fresh W0 w
 n3:st.n≤3
 mp:∀i,i<st.n→st.hd.p i=.pointer (some ⟨st.m i,0,none⟩)∧st.hd.d i=.pointer (some ⟨st.d i,0,none⟩)
 ma:∀i,i<st.n→MAt W0.heap.size w (st.own i) (st.m i) (st.s i)
 da:∀i,i<st.n→DAt W0.heap.size (st.own (3+i)) w (st.d i) (st.pv i) (st.hv i) (st.hs i) (st.s i)
 bk:BookOk w st.hd W0.heap.size K (st.own 6)
 pg:PagesOk w W0.heap.size (st.own 7) st.hd.l
 rg:Regs W0.heap.size w.heap.size st.own
section
variable {W0 w w':World}{K:Nat}{st:PlSt}
theorem PlayR.fresh (h:PlayR W0 w K st)(hf:Fresh w w'):PlayR W0 w' K st:=
 ⟨h.fr.trans hf,h.n3,h.mp,λi hi=>(h.ma i hi).fresh hf,λi hi=>(h.da i hi).fresh hf,h.bk.keep hf λ_ _=>trivial,h.pg.keep hf λ_ _=>trivial,h.rg.grow hf.size⟩
theorem PlayR.newer (h:PlayR W0 w K st){k:Nat}(hk:w.heap.size≤k):∀a,a<8→¬st.own a k:=λa ha e=>by have:=(h.rg.bd a ha k e).2;omega
theorem BookOk.blkK {Hd:PlH}{B:Nat}{S:Nat→Prop}(h:BookOk w Hd B K S):∃V nx,Blk w K 83 (bookC Hd V nx):=by
 obtain⟨V,nx,ps,h,-⟩:=h
 exact⟨V,nx,h.blk⟩
theorem BookOk.inK {Hd:PlH}{B:Nat}{S:Nat→Prop}(h:BookOk w Hd B K S):S K:=by
 obtain⟨V,nx,ps,h,-⟩:=h
 exact h.inK
theorem BookOk.head {Hd Hd':PlH}{B j:Nat}{u:Value}{S:Nat→Prop}(h:BookOk w Hd B K S)(he:∀V nx,(bookC Hd V nx).setIfInBounds j u=bookC Hd' V nx):BookOk (w.setCell ⟨K,j,none⟩ u) Hd' B K S:=by
 obtain⟨V,nx,ps,h,hst⟩:=h
 have hb:=h.blk.set j u
 rw[he] at hb
 have hV:V.ownBlock≠some K:=own_ne_blk h.row h.blk (by decide)
 have hk:Keep (λk=>k≠K) w (w.setCell ⟨K,j,none⟩ u):=(krz _ w).setCell (λ_ h=>h rfl) _
 exact⟨V,nx,ps,⟨hb,own_far h.row hV _,λp hp=>(h.pages p hp).keep hk λk e e2=>(h.pages p hp).not_blk h.blk (by decide) (e2 ▸ e),h.apart,h.len,h.nlo,h.nhi,h.inK,h.inV,h.inP⟩,hst⟩
theorem keepK (w:World)(K j:Nat)(u:Value):Keep (λk=>k≠K) w (w.setCell ⟨K,j,none⟩ u):=(krz _ w).setCell (λ_ h=>h rfl) _
theorem PlayR.neK (h:PlayR W0 w K st){a:Nat}(ha:a<8)(h6:a≠6):∀k,st.own a k→k≠K:=λk e e2=>h.rg.dis a 6 ha (by omega) h6 k e (e2 ▸ h.bk.inK)
theorem PlayR.place (h:PlayR W0 w K st) {i:Nat} (hi:i<3) (hin:i≤st.n) {wd:World} {F F2:Nat→Prop} {m d:Nat} {s':StD} {pv hv:Value} {hs:List DLk} (hm:MAt W0.heap.size w F m s') (hF:∀j,F j→∀a,a<8→¬st.own a j)
 (hfd:Fresh (w.setCell ⟨K,i,none⟩ (.pointer (some ⟨m,0,none⟩))) wd) (hd:DAt W0.heap.size F2 wd d pv hv hs s') (hF2:∀j,F2 j→W0.heap.size≤j∧¬F j∧∀a,a<8→¬st.own a j) :
 ∃st',PlayR W0 (wd.setCell ⟨K,3+i,none⟩ (.pointer (some ⟨d,0,none⟩))) K st'∧st'.n=max st.n (i+1):=by
 have h3:=h.n3
 have hi8:i<8:=by omega
 have hi8':3+i<8:=by omega
 obtain⟨wk,hwk⟩:=exz (w.setCell ⟨K,i,none⟩ (.pointer (some ⟨m,0,none⟩)))
 rw[←hwk] at hfd
 have k1:Keep (λk=>k≠K) w wk:=hwk ▸ keepK _ _ _ _
 obtain⟨we,hwe⟩:=exz (wd.setCell ⟨K,3+i,none⟩ (.pointer (some ⟨d,0,none⟩)))
 rw[←hwe]
 have k3:Keep (λk=>k≠K) wd we:=hwe ▸ keepK _ _ _ _
 have k13:Keep (λk=>k≠K) w we:=(k1.comp hfd (λ_ _ h=>h) (λ_ _ _=>trivial)).comp k3 (λ_ _ h=>h) (λ_ _ h=>h)
 have hKlt:K<w.heap.size:=(h.rg.bd 6 (by omega) K h.bk.inK).2
 have hK0:W0.heap.size≤K:=(h.rg.bd 6 (by omega) K h.bk.inK).1
 have hFK:∀j,F j→j≠K:=λj e e2=>hF j e 6 (by omega) (e2 ▸ h.bk.inK)
 have hF2K:∀j,F2 j→j≠K:=λj e e2=>(hF2 j e).2.2 6 (by omega) (e2 ▸ h.bk.inK)
 have hmin:=(hd.keep k3 hF2K).min
 have hft:∀j,DFoot d pv hv hs j→F2 j:=λj hj=>hd.footF hj
 have hW:=h.fr.size
 have hlt:∀j,DFoot d pv hv hs j→j<we.heap.size:=by
  have hd':=hd.keep k3 hF2K
  rintro j (rfl | e | e | ⟨x,hx,e⟩)
  ·exact hd'.blk.lt
  ·exact (own_lt hd'.pr e).2
  ·exact (own_lt hd'.lk e).2
  ·exact (own_lt (hd'.qs x hx) e).2
 have r1:=h.rg.upd (lrz _) (i:=i) (F:=F) (λk e=>⟨hm.lo k e,hm.hi k e⟩) (λk e a ha hne e2=>hF k e a ha e2)
 have r2:=r1.upd k13.size (i:=3+i) (F:=DFoot d pv hv hs) (λk e=>⟨(hF2 k (hft k e)).1,hlt k e⟩) (λk e a ha hne e2=>by
  by_cases hai:a=i
  ·subst hai
   rw[upd_same] at e2
   exact (hF2 k (hft k e)).2.1 e2
  ·rw[upd_ne _ _ hai] at e2
   exact (hF2 k (hft k e)).2.2 a ha e2)
 have b1:BookOk wk (st.hd.setP i (.pointer (some ⟨m,0,none⟩))) W0.heap.size K (st.own 6):=by
  rw[hwk]
  exact h.bk.head λV nx=>bookC_setP hi
 have b2:=b1.keep hfd (λ_ _=>trivial)
 have b3:BookOk we ((st.hd.setP i (.pointer (some ⟨m,0,none⟩))).setD i (.pointer (some ⟨d,0,none⟩))) W0.heap.size K (st.own 6):=by
  rw[hwe]
  exact b2.head λV nx=>bookC_setD hi
 refine⟨{ hd:=(st.hd.setP i (.pointer (some ⟨m,0,none⟩))).setD i (.pointer (some ⟨d,0,none⟩)),n:=max st.n (i+1),m:=upd st.m i m,d:=upd st.d i d,pv:=upd st.pv i pv,hv:=upd st.hv i hv,hs:=upd st.hs i hs,s:=upd st.s i s',own:=upd (upd st.own i F) (3+i) (DFoot d pv hv hs) },
  ⟨?_,?_,λa ha=>?_,λa ha=>?_,λa ha=>?_,?_,?_,r2⟩,rfl⟩
 ·exact h.fr.comp k13 (λ_ _ h=>h) (λj hj _=>by omega)
 ·show max st.n (i+1)≤3
  omega
 ·have ha':a<max st.n (i+1):=ha
  have ha3:a<3:=by omega
  show ((st.hd.setP i _).setD i _).p a=.pointer (some ⟨upd st.m i m a,0,none⟩)∧((st.hd.setP i _).setD i _).d a=.pointer (some ⟨upd st.d i d a,0,none⟩)
  rw[setD_p hi ha3,setP_p hi ha3,setD_d hi ha3,setP_d hi ha3]
  by_cases e:a=i
  ·subst e
   rw[if_pos rfl,if_pos rfl,upd_same,upd_same]
   exact⟨rfl,rfl⟩
  ·rw[if_neg e,if_neg e,upd_ne _ _ e,upd_ne _ _ e]
   exact h.mp a (by omega)
 ·have ha':a<max st.n (i+1):=ha
  show MAt W0.heap.size we (upd (upd st.own i F) (3+i) _ a) (upd st.m i m a) (upd st.s i s' a)
  rw[upd_ne _ _ (show a≠3+i by omega)]
  by_cases e:a=i
  ·subst e
   rw[upd_same,upd_same,upd_same]
   exact hm.keep k13 hFK
  ·rw[upd_ne _ _ e,upd_ne _ _ e,upd_ne _ _ e]
   exact (h.ma a (by omega)).keep k13 (h.neK (by omega) (by omega))
 ·have ha':a<max st.n (i+1):=ha
  show DAt W0.heap.size (upd (upd st.own i F) (3+i) _ (3+a)) we (upd st.d i d a) (upd st.pv i pv a) (upd st.hv i hv a) (upd st.hs i hs a) (upd st.s i s' a)
  by_cases e:a=i
  ·subst e
   rw[upd_same,upd_same,upd_same,upd_same,upd_same,upd_same]
   exact hmin
  ·rw[upd_ne _ _ (show 3+a≠3+i by omega),upd_ne _ _ (show 3+a≠i by omega),upd_ne _ _ e,upd_ne _ _ e,upd_ne _ _ e,upd_ne _ _ e,upd_ne _ _ e]
   exact (h.da a (by omega)).keep k13 (h.neK (by omega) (by omega))
 ·show BookOk we _ W0.heap.size K (upd (upd st.own i F) (3+i) _ 6)
  rw[upd_ne _ _ (show 6≠3+i by omega),upd_ne _ _ (show 6≠i by omega)]
  exact b3
 ·show PagesOk we W0.heap.size (upd (upd st.own i F) (3+i) _ 7) ((st.hd.setP i _).setD i _).l
  rw[upd_ne _ _ (show 7≠3+i by omega),upd_ne _ _ (show 7≠i by omega),setD_l hi,setP_l hi]
  exact h.pg.keep k13 (h.neK (by omega) (by omega))
theorem PlayR.book (h:PlayR W0 w K st) {S:Nat→Prop} {vs:Nat→Prop} (hk:Keep (λk=>¬st.own 6 k∧¬vs k) w w') (hb:BookOk w' st.hd W0.heap.size K S) (hS:∀k,S k→st.own 6 k∨vs k∨w.heap.size≤k) (hv:∀k,vs k→W0.heap.size≤k∧k<w.heap.size∧∀a,a<8→¬st.own a k) :
 PlayR W0 w' K { st with own:=upd st.own 6 (λk=>S k∧k<w'.heap.size) }:=by
 have h3:=h.n3
 have hoth:∀k,(S k∧k<w'.heap.size)→∀a,a<8→a≠6→¬st.own a k:=by
  rintro k ⟨hk1,_⟩ a ha hne e
  rcases hS k hk1 with h1 | h1 | h1
  ·exact h.rg.dis a 6 ha (by omega) hne k e h1
  ·exact (hv k h1).2.2 a ha e
  ·exact h.newer h1 a ha e
 have hb':BookOk w' st.hd W0.heap.size K (λk=>S k∧k<w'.heap.size):=by
  obtain⟨V,nx,ps,hb,hst⟩:=hb
  exact⟨V,nx,ps,hb.tight,hst⟩
 have r1:=h.rg.upd hk.size (i:=6) (F:=λk=>S k∧k<w'.heap.size) (λk e=>⟨by
  rcases hS k e.1 with h1 | h1 | h1
  ·exact (h.rg.bd 6 (by omega) k h1).1
  ·exact (hv k h1).1
  ·exact lez h.fr.size h1,e.2⟩) hoth
 have nk:∀a,a<8→a≠6→∀k,st.own a k→¬st.own 6 k∧¬vs k:=λa ha hne k e=>⟨λe2=>h.rg.dis a 6 ha (by omega) hne k e e2,λe2=>(hv k e2).2.2 a ha e⟩
 refine⟨?_,h.n3,h.mp,λa ha=>?_,λa ha=>?_,?_,?_,r1⟩
 ·exact h.fr.comp hk (λ_ _ h=>h) (λj hj _=>⟨λe=>by have:=(h.rg.bd 6 (by omega) j e).1;omega,λe=>by have:=(hv j e).1;omega⟩)
 ·have ha':a<st.n:=ha
  show MAt W0.heap.size w' (upd st.own 6 (λk=>S k∧k<w'.heap.size) a) (st.m a) (st.s a)
  rw[upd_ne _ _ (show a≠6 by omega)]
  exact (h.ma a ha).keep hk (nk a (by omega) (by omega))
 ·have ha':a<st.n:=ha
  show DAt W0.heap.size (upd st.own 6 (λk=>S k∧k<w'.heap.size) (3+a)) w' (st.d a) (st.pv a) (st.hv a) (st.hs a) (st.s a)
  rw[upd_ne _ _ (show 3+a≠6 by omega)]
  exact (h.da a ha).keep hk (nk (3+a) (by omega) (by omega))
 ·show BookOk w' st.hd W0.heap.size K (upd st.own 6 (λk=>S k∧k<w'.heap.size) 6)
  rw[upd_same]
  exact hb'
 ·show PagesOk w' W0.heap.size (upd st.own 6 (λk=>S k∧k<w'.heap.size) 7) st.hd.l
  rw[upd_ne _ _ (show 7≠6 by omega)]
  exact h.pg.keep hk (nk 7 (by omega) (by omega))
theorem PlayR.pages (h:PlayR W0 w K st) {S:Nat→Prop} (hk:Keep (λk=>¬st.own 7 k) w w') (hp:PagesOk w' W0.heap.size S st.hd.l) (hS:∀k,S k→st.own 7 k∨w.heap.size≤k) :
 PlayR W0 w' K { st with own:=upd st.own 7 (λk=>S k∧W0.heap.size≤k∧k<w'.heap.size) }:=by
 have h3:=h.n3
 have hp':PagesOk w' W0.heap.size (λk=>S k∧W0.heap.size≤k∧k<w'.heap.size) st.hd.l:=by
  obtain⟨ps,hp,hst⟩:=hp
  exact⟨ps,hp.tight,hst⟩
 have r1:=h.rg.upd hk.size (i:=7) (F:=λk=>S k∧W0.heap.size≤k∧k<w'.heap.size) (λk e=>e.2) (h.rg.other (by omega) λk e=>hS k e.1)
 have nk:∀a,a<8→a≠7→∀k,st.own a k→¬st.own 7 k:=λa ha hne k e e2=>h.rg.dis a 7 ha (by omega) hne k e e2
 refine⟨?_,h.n3,h.mp,λa ha=>?_,λa ha=>?_,?_,?_,r1⟩
 ·exact h.fr.comp hk (λ_ _ h=>h) (λj hj _ e=>by have:=(h.rg.bd 7 (by omega) j e).1;omega)
 ·have ha':a<st.n:=ha
  show MAt W0.heap.size w' (upd st.own 7 (λk=>S k∧W0.heap.size≤k∧k<w'.heap.size) a) (st.m a) (st.s a)
  rw[upd_ne _ _ (show a≠7 by omega)]
  exact (h.ma a ha).keep hk (nk a (by omega) (by omega))
 ·have ha':a<st.n:=ha
  show DAt W0.heap.size (upd st.own 7 (λk=>S k∧W0.heap.size≤k∧k<w'.heap.size) (3+a)) w' (st.d a) (st.pv a) (st.hv a) (st.hs a) (st.s a)
  rw[upd_ne _ _ (show 3+a≠7 by omega)]
  exact (h.da a ha).keep hk (nk (3+a) (by omega) (by omega))
 ·show BookOk w' st.hd W0.heap.size K (upd st.own 7 (λk=>S k∧W0.heap.size≤k∧k<w'.heap.size) 6)
  rw[upd_ne _ _ (show 6≠7 by omega)]
  exact h.bk.keep hk (nk 6 (by omega) (by omega))
 ·show PagesOk w' W0.heap.size (upd st.own 7 (λk=>S k∧W0.heap.size≤k∧k<w'.heap.size) 7) st.hd.l
  rw[upd_same]
  exact hp'
theorem PlayR.kept (h:PlayR W0 w K st) {S vs:Nat→Prop} {w1:World} {L:Value} (hk:Keep (λk=>¬st.own 7 k∧¬vs k) w w1) (hp:PagesOk w1 W0.heap.size S L) (hS:∀k,S k→st.own 7 k∨vs k∨w.heap.size≤k) (hv:∀k,vs k→W0.heap.size≤k∧k<w.heap.size∧∀a,a<8→¬st.own a k) :
 PlayR W0 (w1.setCell ⟨K,9,none⟩ L) K { st with hd:={ st.hd with l:=L },own:=upd st.own 7 (λk=>S k∧W0.heap.size≤k∧k<w1.heap.size) }:=by
 have h3:=h.n3
 obtain⟨w',hw'⟩:=exz (w1.setCell ⟨K,9,none⟩ L)
 have kK:Keep (λk=>k≠K) w1 w':=hw' ▸ keepK _ _ _ _
 have hsz:w'.heap.size=w1.heap.size:=by rw[hw'];simp[World.setCell]
 have hKlt:K<w.heap.size:=(h.rg.bd 6 (by omega) K h.bk.inK).2
 have hK0:W0.heap.size≤K:=(h.rg.bd 6 (by omega) K h.bk.inK).1
 have hSK:∀k,S k→k≠K:=λk e e2=>by
  subst e2
  rcases hS _ e with h1 | h1 | h1
  ·exact h.neK (a:=7) (by omega) (by omega) _ h1 rfl
  ·exact (hv _ h1).2.2 6 (by omega) h.bk.inK
  ·omega
 rw[←hw']
 have hp':PagesOk w' W0.heap.size (λk=>S k∧W0.heap.size≤k∧k<w1.heap.size) L:=by
  obtain⟨ps,hp,hst⟩:=hp
  exact⟨ps,hp.tight.keep kK λk e=>hSK k e.1,hst⟩
 have r1:=h.rg.upd (n':=w'.heap.size) (by rw[hsz];exact hk.size) (i:=7) (F:=λk=>S k∧W0.heap.size≤k∧k<w1.heap.size) (λk e=>⟨e.2.1,by rw[hsz];exact e.2.2⟩) (λk e a ha hne e2=>by
  rcases hS k e.1 with h1 | h1 | h1
  ·exact h.rg.dis a 7 ha (by omega) hne k e2 h1
  ·exact (hv k h1).2.2 a ha e2
  ·exact h.newer h1 a ha e2)
 have nk:∀a,a<8→a≠7→∀k,st.own a k→¬st.own 7 k∧¬vs k:=λa ha hne k e=>⟨λe2=>h.rg.dis a 7 ha (by omega) hne k e e2,λe2=>(hv k e2).2.2 a ha e⟩
 refine⟨?_,h.n3,h.mp,λa ha=>?_,λa ha=>?_,?_,?_,r1⟩
 ·exact (h.fr.comp hk (λ_ _ h=>h) (λj hj _=>⟨λe=>by have:=(h.rg.bd 7 (by omega) j e).1;omega,λe=>by have:=(hv j e).1;omega⟩)).comp kK (λ_ _ h=>h) (λj hj _=>by omega)
 ·have ha':a<st.n:=ha
  show MAt W0.heap.size w' (upd st.own 7 (λk=>S k∧W0.heap.size≤k∧k<w1.heap.size) a) (st.m a) (st.s a)
  rw[upd_ne _ _ (show a≠7 by omega)]
  exact ((h.ma a ha).keep hk (nk a (by omega) (by omega))).keep kK (h.neK (by omega) (by omega))
 ·have ha':a<st.n:=ha
  show DAt W0.heap.size (upd st.own 7 (λk=>S k∧W0.heap.size≤k∧k<w1.heap.size) (3+a)) w' (st.d a) (st.pv a) (st.hv a) (st.hs a) (st.s a)
  rw[upd_ne _ _ (show 3+a≠7 by omega)]
  exact ((h.da a ha).keep hk (nk (3+a) (by omega) (by omega))).keep kK (h.neK (by omega) (by omega))
 ·show BookOk w' _ W0.heap.size K (upd st.own 7 (λk=>S k∧W0.heap.size≤k∧k<w1.heap.size) 6)
  rw[upd_ne _ _ (show 6≠7 by omega),hw']
  exact (h.bk.keep hk (nk 6 (by omega) (by omega))).head λV nx=>bookC_setL
 ·show PagesOk w' W0.heap.size (upd st.own 7 (λk=>S k∧W0.heap.size≤k∧k<w1.heap.size) 7) L
  rw[upd_same]
  exact hp'
end
structure PairAt (W0 w:World)(F1 F2:Nat→Prop)(m d:Nat)(pv hv:Value)(hs:List DLk)(s:StD):Prop where
 ma:MAt W0.heap.size w F1 m s
 da:DAt W0.heap.size F2 w d pv hv hs s
theorem PlayR.pair {W0 w:World}{K:Nat}{st:PlSt}(h:PlayR W0 w K st){i:Nat}(hi:i<st.n):PairAt W0 w (st.own i) (st.own (3+i)) (st.m i) (st.d i) (st.pv i) (st.hv i) (st.hs i) (st.s i):=⟨h.ma i hi,h.da i hi⟩
theorem PlayR.cellP {W0 w:World}{K:Nat}{st:PlSt}(h:PlayR W0 w K st){i:Nat}(hi:i<st.n):w.cell? ⟨K,i,none⟩=some (.pointer (some ⟨st.m i,0,none⟩))∧w.cell? ⟨K,3+i,none⟩=some (.pointer (some ⟨st.d i,0,none⟩)):=by
 obtain⟨V,nx,hb⟩:=h.bk.blkK
 have h3:=h.n3
 rw[hb.cell,hb.cell,bookC_p (by omega),bookC_d (by omega),(h.mp i hi).1,(h.mp i hi).2]
 exact⟨rfl,rfl⟩
theorem PlayR.cellL {W0 w:World}{K:Nat}{st:PlSt}(h:PlayR W0 w K st):w.cell? ⟨K,9,none⟩=some st.hd.l∧K<w.heap.size∧∀j,w.frozen? ⟨K,j,none⟩=false:=by
 obtain⟨V,nx,hb⟩:=h.bk.blkK
 exact⟨hb.cell 9,hb.lt,λj=>hb.frozen j⟩
section
variable {W0 w:World}{F1 F2:Nat→Prop}{m d:Nat}{pv hv:Value}{hs:List DLk}{s:StD}
theorem PairAt.fresh {w':World}(h:PairAt W0 w F1 F2 m d pv hv hs s)(hf:Fresh w w'):PairAt W0 w' F1 F2 m d pv hv hs s:=⟨h.ma.fresh hf,h.da.fresh hf⟩
end
theorem op_box (w:World)(who kd n c ci cr co:Int)(k v dd key:Txt)(bv:Value):∃ (w0:World) (g:Nat),w0=w.alloc (.cells #[.int .i64 who,.int .i64 kd,.int .i64 n,.int .i64 c,.int .i64 ci,.int .i64 cr,.int .i64 co,str k,str v,str dd,str key,bv] 85)∧g=w.heap.size∧Fresh w w0∧g<w0.heap.size∧w0.cell? ⟨g,0,none⟩=some (.int .i64 who)∧w0.cell? ⟨g,1,none⟩=some (.int .i64 kd)∧w0.cell? ⟨g,2,none⟩=some (.int .i64 n)∧w0.cell? ⟨g,3,none⟩=some (.int .i64 c)∧w0.cell? ⟨g,4,none⟩=some (.int .i64 ci)∧w0.cell? ⟨g,5,none⟩=some (.int .i64 cr)∧w0.cell? ⟨g,6,none⟩=some (.int .i64 co)∧w0.cell? ⟨g,7,none⟩=some (str k)∧w0.cell? ⟨g,8,none⟩=some (str v)∧w0.cell? ⟨g,9,none⟩=some (str dd)∧w0.cell? ⟨g,10,none⟩=some (str key)∧w0.cell? ⟨g,11,none⟩=some (bv):=by
 have hb:=Blk.new w 85 #[.int .i64 who,.int .i64 kd,.int .i64 n,.int .i64 c,.int .i64 ci,.int .i64 cr,.int .i64 co,str k,str v,str dd,str key,bv]
 exact⟨_,_,rfl,rfl,(krz _ w).alloc _,hb.lt,hb.cell 0,hb.cell 1,hb.cell 2,hb.cell 3,hb.cell 4,hb.cell 5,hb.cell 6,hb.cell 7,hb.cell 8,hb.cell 9,hb.cell 10,hb.cell 11⟩
structure FillP (W0 w wr:World)(gf n:Nat)(S:Nat→Prop)(L:Value)(k:Nat)(qs:List PgD)(fl:List Bool):Prop where
 len:qs.length=n
 pgs:PagesIs wr W0.heap.size S L qs
 row:wr.ownsRow w.heap.size 4 1 (.slice (some ⟨gf,0,none⟩) n n) n (bools fl)
 done:∀i (hi:i<qs.length) (hf:i<fl.length),i<k→(qs[i].st=1∧fl[i]=true)∨(qs[i].st=2∧fl[i]=false)
 rest:∀i (hi:i<qs.length),k≤i→qs[i].st≠1
 keep:Keep (λk=>¬S k) w wr
structure GrowP (W0 w wr:World)(gf n:Nat)(S:Nat→Prop)(L:Value)(k:Nat)(qs:List PgD)(fl:List Bool):Prop where
 len:qs.length=n
 pgs:PagesIs wr W0.heap.size (λk=>S k∨w.heap.size≤k) L qs
 row:wr.ownsRow w.heap.size 4 1 (.slice (some ⟨gf,0,none⟩) n n) n (bools fl)
 done:∀i (hi:i<qs.length),i<k→qs[i].st=2
 rest:∀i (hi:i<qs.length) (hf:i<fl.length),k≤i→(qs[i].st=1∧fl[i]=true)∨(qs[i].st=2∧fl[i]=false)
 keep:Keep (λk=>¬S k) w wr
section
variable {W0 w wr w3:World}{gf g c n k:Nat}{S:Nat→Prop}{L:Value}{qs:List PgD}{fl:List Bool}{cs:Array Value}
theorem FillP.over (h:FillP W0 w wr gf n S L k qs fl) (hS:∀i,S i→i≠gf) (hk:k<n) (hq:k<qs.length) (hst:qs[k].st=2) :
 FillP W0 w (wr.setCell ⟨gf,k,none⟩ (.bool false)) gf n S L (k+1) qs (fl.set k false):=by
 refine⟨h.len,h.pgs.keep (keep_flag wr gf k false) hS,flag_row h.row hk false,λi hi hf hlt=>?_,λi hi hle=>h.rest i hi (by omega),h.keep.setCell (λhlt hz=>?_) _⟩
 ·have hf0:i<fl.length:=by simpa using hf
  by_cases e:i=k
  ·subst e
   exact .inr ⟨hst,get_set_eq hf⟩
  ·rw[get_set_ne hf e]
   exact h.done i hi hf0 (by omega)
 ·have:=(own_lt h.row (g:=gf) rfl).1
  have e:gf<w.heap.size:=hlt
  omega
theorem FillP.over0 (h:FillP W0 w wr gf n S (.slice (some ⟨g,0,none⟩) n c) k qs fl) (hS:∀i,S i→i≠gf) (hk:k<n) (hq:k<qs.length) (hst:qs[k].st=0)
 (hb:Blk (wr.setCell ⟨gf,k,none⟩ (.bool true)) g 129 cs) (hb3:Blk w3 g 129 (cs.setIfInBounds (k*11+10) (.bool true)))
 (oa:w3.ownsRow W0.heap.size 71 2 qs[k].a1 qs[k].la.length (pcells (fulls fullP qs[k].mrk qs[k].la.length))) (ob:w3.ownsRow W0.heap.size 115 2 qs[k].b1 qs[k].lb.length (wcells (fulls fullW qs[k].mrk qs[k].lb.length))) (oc:w3.ownsRow W0.heap.size 9 1 qs[k].c1 qs[k].lc.length ((fulls wordT qs[k].mrk qs[k].lc.length).map str))
 (hk3:Keep (λi=>i≠g∧qs[k].a1.ownBlock≠some i∧qs[k].b1.ownBlock≠some i∧qs[k].c1.ownBlock≠some i) (wr.setCell ⟨gf,k,none⟩ (.bool true)) w3) :
 FillP W0 w w3 gf n S (.slice (some ⟨g,0,none⟩) n c) (k+1) (qs.set k qs[k].over) (fl.set k true):=by
 have hb2:=h.pgs.keep (keep_flag wr gf k true) hS
 have hrow2:=flag_row h.row hk true
 have hmem:=List.getElem_mem hq
 have hgV:(Value.slice (some ⟨g,0,none⟩) n c).ownBlock=some g:=rfl
 have hp2:=hb2.pages _ hmem
 have hSg:S g:=h.pgs.inL g hgV
 have hggf:g≠gf:=hS g hSg
 have hkk:Keep (λi=>(Value.slice (some ⟨g,0,none⟩) n c).ownBlock≠some i∧¬qs[k].blk i) (wr.setCell ⟨gf,k,none⟩ (.bool true)) w3:=
  hk3.weaken (λi _ hi=>⟨λe=>hi.1 (e ▸ hgV),λe=>hi.2 (.inl (.inl e)),λe=>hi.2 (.inl (.inr (.inl e))),λe=>hi.2 (.inl (.inr (.inr e)))⟩)
 have hq1:PgD.ok w3 W0.heap.size qs[k].over:=PgD.over_ok hp2 oa ob oc
 have hln:=h.len
 have hrow:w3.ownsRow W0.heap.size 129 11 (.slice (some ⟨g,0,none⟩) n c) qs.length (kcells (qs.set k qs[k].over)):=by
  have h2:=own_set hb2.row hgV (i:=k*11+10) (by omega) (.bool true)
  rw[rcells_turn qs hq (by omega) (.bool true) qs[k].over (PgD.over_cells _)] at h2
  exact own_as h2 hgV (hb.set _ _) hb3
 have hob:∀i,qs[k].over.blk i→qs[k].blk i:=λi e=>.inl (PgD.over_blk e)
 refine⟨by simpa using h.len,hb2.turn hq hq1 hrow hkk (λi e=>.inl (hob i e)) (λ_ h=>h) (λi e=>h.pgs.inP _ hmem i (hob i e)),?_,λi hi hf hlt=>?_,λi hi hle=>?_,?_⟩
 ·refine own_keep hrow2 hkk (λi e=>?_)
  simp only[Value.ownBlock,Option.map_some] at e
  injection e with e
  subst e
  refine⟨λe2=>?_,λe2=>hS gf (h.pgs.inP _ hmem gf e2) rfl⟩
  rw[hgV] at e2
  injection e2 with e2
  exact hggf e2
 ·have hi0:i<qs.length:=by simpa using hi
  have hf0:i<fl.length:=by simpa using hf
  by_cases e:i=k
  ·subst e
   rw[get_set_eq hi,get_set_eq hf]
   exact .inl ⟨rfl,rfl⟩
  ·rw[get_set_ne hi e,get_set_ne hf e]
   exact h.done i hi0 hf0 (by omega)
 ·have hi0:i<qs.length:=by simpa using hi
  rw[get_set_ne hi (by omega)]
  exact h.rest i hi0 (by omega)
 ·refine (h.keep.comp (keep_flag wr gf k true) (λ_ _ h=>h) (λi hi _ e=>?_)).comp hkk (λ_ _ h=>h) (λi hi hz=>⟨λe=>hz (h.pgs.inL i e),λe=>hz (h.pgs.inP _ hmem i e)⟩)
  have:=(own_lt h.row (g:=gf) rfl).1
  omega
theorem GrowP.skip (h:GrowP W0 w wr gf n S L k qs fl)(hq:k<qs.length)(hst:qs[k].st=2):GrowP W0 w wr gf n S L (k+1) qs fl:=by
 refine⟨h.len,h.pgs,h.row,λi hi hlt=>?_,λi hi hf hle=>h.rest i hi hf (by omega),h.keep⟩
 by_cases e:i=k
 ·subst e;exact hst
 ·exact h.done i hi (by omega)
theorem GrowP.long {w1:World} {Ga Gb Gc:Value} (h:GrowP W0 w wr gf n S (.slice (some ⟨g,0,none⟩) n c) k qs fl) (hS:∀i,S i→i<w.heap.size) (hk:k<n) (hq:k<qs.length) (hst:qs[k].st=1)
 (hb:Blk wr g 129 cs) (hsz:k*11+11≤cs.size) (hs1:w1.heap.size=wr.heap.size) (hk1:Keep (λi=>i≠g) wr w1)
 (hg:GAt W0 w1 w3 g (k*11) cs qs[k].a1 qs[k].b1 qs[k].c1 qs[k].la qs[k].lb qs[k].lc qs[k].la.length qs[k].lb.length qs[k].lc.length qs[k].mrk 64 64 64 Ga Gb Gc) :
 GrowP W0 w w3 gf n S (.slice (some ⟨g,0,none⟩) n c) (k+1) (qs.set k (qs[k].long Ga Gb Gc)) fl:=by
 have hmem:=List.getElem_mem hq
 have hgV:(Value.slice (some ⟨g,0,none⟩) n c).ownBlock=some g:=rfl
 have hb0:=h.pgs
 have hp:=hb0.pages _ hmem
 obtain⟨hq1,hnew⟩:=PgD.grown hp hst hs1 hg
 have hln:=h.len
 have hk3:Keep (λi=>i≠g∧qs[k].a1.ownBlock≠some i∧qs[k].b1.ownBlock≠some i∧qs[k].c1.ownBlock≠some i) wr w3:=hk1.comp hg.kp (λ_ _ h=>h.1) (λ_ _ h=>h)
 have hkk:Keep (λi=>(Value.slice (some ⟨g,0,none⟩) n c).ownBlock≠some i∧¬qs[k].blk i) wr w3:=
  hk3.weaken (λi _ hi=>⟨λe=>hi.1 (e ▸ hgV),λe=>hi.2 (.inl (.inl e)),λe=>hi.2 (.inl (.inr (.inl e))),λe=>hi.2 (.inl (.inr (.inr e)))⟩)
 have hrow:w3.ownsRow W0.heap.size 129 11 (.slice (some ⟨g,0,none⟩) n c) qs.length (kcells (qs.set k (qs[k].long Ga Gb Gc))):=by
  have h1:=own_set hb0.row hgV (i:=k*11+1) (by omega) Ga
  have h2:=own_set h1 hgV (i:=k*11+4) (by omega) Gb
  have h3:=own_set h2 hgV (i:=k*11+7) (by omega) Gc
  have e:(((kcells qs).set (k*11+1) Ga).set (k*11+4) Gb).set (k*11+7) Gc=kcells (qs.set k (qs[k].long Ga Gb Gc)):=by
   have l0:qs[k]=qs[k]:=rfl
   rw[rcells_turn qs hq (j:=1) (by omega) Ga { qs[k] with a2:=Ga } rfl]
   have hq1:k<(qs.set k { qs[k] with a2:=Ga }).length:=by simpa using hq
   rw[rcells_turn _ hq1 (j:=4) (by omega) Gb { qs[k] with a2:=Ga,b2:=Gb } (by rw[get_set_eq hq1];rfl),List.set_set]
   have hq2:k<(qs.set k { qs[k] with a2:=Ga,b2:=Gb }).length:=by simpa using hq
   rw[rcells_turn _ hq2 (j:=7) (by omega) Gc (qs[k].long Ga Gb Gc) (by rw[get_set_eq hq2,PgD.long_cells _ hst];rfl),List.set_set]
  rw[e] at h3
  exact own_as h3 hgV (((hb.set _ _).set _ _).set _ _) hg.bk
 refine⟨by simpa using h.len,hb0.turn hq hq1 hrow hkk hnew (λ_ h=>h) (λi e=>?_),?_,λi hi hlt=>?_,λi hi hf hle=>?_,?_⟩
 ·rcases hnew i e with e | e
  ·exact hb0.inP _ hmem i e
  ·exact .inr (lez h.keep.size e)
 ·refine own_keep h.row hkk (λi e=>?_)
  have hgf0:=own_lt h.row e
  refine⟨λe2=>?_,λe2=>own_ne_own2 h.row hb0.row (by decide) e ?_⟩
  ·exact own_ne_own2 h.row hb0.row (by decide) e e2
  ·obtain⟨cs2,hb2⟩:=own_blk h.row e
   exact absurd e2 (hp.far hb2 (by decide) (by decide) (by decide))
 ·by_cases e:i=k
  ·subst e
   rw[get_set_eq hi]
   rfl
  ·rw[get_set_ne hi e]
   exact h.done i (by simpa using hi) (by omega)
 ·rw[get_set_ne hi (by omega)]
  exact h.rest i (by simpa using hi) hf (by omega)
 ·refine h.keep.comp hkk (λ_ _ h=>h) (λi hi hz=>⟨λe=>?_,λe=>?_⟩)
  ·rcases hb0.inL i e with e | e
   ·exact hz e
   ·omega
  ·rcases hb0.inP _ hmem i e with e | e
   ·exact hz e
   ·omega
theorem FillP.grow (h:FillP W0 w wr gf n S L n qs fl):GrowP W0 w wr gf n S L 0 qs fl:=
 ⟨h.len,h.pgs.weaken λ_ h=>.inl h,h.row,λi _ h=>by omega,λi hi hf _=>h.done i hi hf (by have:=h.len;omega),h.keep⟩
end
end Go.Proofs.YtlibhkehebioeaaGreatDoor
namespace Go.Proofs.YtlibhkehebioeaaGreatDoor
set_option linter.unusedVariables false
set_option linter.unusedSimpArgs false
set_option maxRecDepth 100000
set_option maxHeartbeats 40000000
open Go.RowKit Go.BigFrame
theorem still_any {W0 w:World} (hT:TabsN W0) (hW:Fresh W0 w) {p:PgD} (h:p.ok w W0.heap.size) (hst:p.st≠1) :
 Calls Tryz.prog 101 #[.agg p.cells.toArray] w λe w'=>e=.returned (.bool true)∧Fresh w w':=by
 obtain⟨A1,n1,c1,A2,n2,c2,A3,n3,c3,A4,n4,c4,A5,n5,c5,A6,n6,c6,A7,n7,c7,A8,n8,c8,A9,n9,c9,hcs⟩:=h.slices
 obtain⟨mk,hmk⟩:∃m,m=p.mrk:=⟨_,rfl⟩
 obtain⟨dn,hdn⟩:∃d,d=p.done:=⟨_,rfl⟩
 rw[←hmk,←hdn] at hcs
 have ev:p.cells.toArray=pgA A1 A2 A3 A4 A5 A6 A7 A8 A9 n1 c1 n2 c2 n3 c3 n4 c4 n5 c5 n6 c6 n7 c7 n8 c8 n9 c9 mk dn:=by rw[hcs]
 rw[ev]
 unfold PgD.cells at hcs
 simp only[List.cons.injEq,and_true] at hcs
 obtain⟨e1,e2,e3,e4,e5,e6,e7,e8,e9,-,-⟩:=hcs
 clear ev
 have oa:=h.oa;have ob:=h.ob;have oc:=h.oc
 rw[e1] at oa;rw[e4] at ob;rw[e7] at oc
 obtain⟨_,_,q1,-,-⟩:=own_rd oa
 obtain⟨_,_,q2,-,-⟩:=own_rd ob
 obtain⟨_,_,q3,-,-⟩:=own_rd oc
 obtain rfl:n1=p.la.length:=by injection q1
 obtain rfl:n4=p.lb.length:=by injection q2
 obtain rfl:n7=p.lc.length:=by injection q3
 clear q1 q2 q3
 obtain⟨w1,hw1⟩:=exz (w.alloc (.cells (pgA A1 A2 A3 A4 A5 A6 A7 A8 A9 p.la.length c1 n2 c2 n3 c3 p.lb.length c4 n5 c5 n6 c6 p.lc.length c7 n8 c8 n9 c9 mk dn) 129))
 obtain⟨g,hg⟩:=exz (w.heap.size)
 have hb1:Blk w1 g 129 (pgA A1 A2 A3 A4 A5 A6 A7 A8 A9 p.la.length c1 n2 c2 n3 c3 p.lb.length c4 n5 c5 n6 c6 p.lc.length c7 n8 c8 n9 c9 mk dn):=by rw[hw1];exact Blk.newAt hg.symm
 have hf1:Fresh w w1:=by rw[hw1];exact (krz _ w).alloc _
 have hs:p.st=0∨p.st=2:=by have:=h.stl;omega
 rcases hs with hs | hs
 ·have hd:dn=false:=by rw[hdn];simp[PgD.done,hs]
  subst hd
  have ka:=h.ka hs;have kb:=h.kb hs;have kc:=h.kc hs
  rw[e3] at ka;rw[e6] at kb;rw[e9] at kc
  obtain⟨_,_,q1,ra3,-⟩:=own_rd (own_keep ka hf1 λ_ _=>trivial)
  obtain⟨_,_,q2,rb3,-⟩:=own_rd (own_keep kb hf1 λ_ _=>trivial)
  obtain⟨_,_,q3,rc3,-⟩:=own_rd (own_keep kc hf1 λ_ _=>trivial)
  injection q1 with q1 q1n q1c
  injection q2 with q2 q2n q2c
  injection q3 with q3 q3n q3c
  subst q1 q2 q3 q1c q2c q3c
  obtain⟨_,_,q4,ra1,-⟩:=own_rd (own_keep oa hf1 λ_ _=>trivial)
  obtain⟨_,_,q5,rb1,-⟩:=own_rd (own_keep ob hf1 λ_ _=>trivial)
  obtain⟨_,_,q6,rc1,-⟩:=own_rd (own_keep oc hf1 λ_ _=>trivial)
  injection q4 with q4 _ q4c
  injection q5 with q5 _ q5c
  injection q6 with q6 _ q6c
  subst q4 q5 q6 q4c q5c q6c
  have na:=h.na;have nb:=h.nb;have nc:=h.nc
  have HP:=hdz (λwx (hf:Fresh w1 wx)=>samepairs_eq _ _ _ _ _ c1 c3 p.la wx (ra1.keep (hf.weaken λ_ _ _=>trivial)) (ra3.keep (hf.weaken λ_ _ _=>trivial)) (by omega))
  have HQ:=hdz (λwx (hf:Fresh w1 wx)=>samewaits_eq _ _ _ _ _ c4 c6 p.lb wx (rb1.keep (hf.weaken λ_ _ _=>trivial)) (rb3.keep (hf.weaken λ_ _ _=>trivial)) (by omega))
  have HR:=hdz (λwx (hf:Fresh w1 wx)=>samenames_eq _ _ _ _ _ c7 c9 p.lc wx (rc1.keep (hf.weaken λ_ _ _=>trivial)) (rc3.keep (hf.weaken λ_ _ _=>trivial)) (by omega))
  subst q1n q2n q3n
  have HW1:=hdz (aiz hw1 (aiz hg (aiz hb1 hf1)))
  clear h hT hW hdn hmk e1 e2 e3 e4 e5 e6 e7 e8 e9 oa ob oc ka kb kc ra1 rb1 rc1 ra3 rb3 rc3 na nb nc hst hs hw1 hg hb1 hf1
  go_enter Tryz.func101,Tryz.ntmps101
  go_upto_region 1 with (fail)
  rw[←HW1.out.1,←HW1.out.2.1]
  have x0:=HW1.out.2.2.1.cell 0
  have x2:=HW1.out.2.2.1.cell 2
  have x3:=HW1.out.2.2.1.cell 3
  have x5:=HW1.out.2.2.1.cell 5
  have x6:=HW1.out.2.2.1.cell 6
  have x8:=HW1.out.2.2.1.cell 8
  have x10:=HW1.out.2.2.1.cell 10
  simp at x0 x2 x3 x5 x6 x8 x10
  have lg:=HW1.out.2.2.1.lt
  have HC:Hid (∀wx,Fresh w1 wx→wx.cell? ⟨g,3,none⟩=w1.cell? ⟨g,3,none⟩∧wx.cell? ⟨g,5,none⟩=w1.cell? ⟨g,5,none⟩∧wx.cell? ⟨g,6,none⟩=w1.cell? ⟨g,6,none⟩∧wx.cell? ⟨g,8,none⟩=w1.cell? ⟨g,8,none⟩∧g<wx.heap.size):=hdz λwx hf=>⟨(hf.cellAt x3 trivial).trans x3.symm,(hf.cellAt x5 trivial).trans x5.symm,(hf.cellAt x6 trivial).trans x6.symm,(hf.cellAt x8 trivial).trans x8.symm,ltz lg hf.size⟩
  go_wp2_with fail
  refine Calls.mono (HP.out _ (krz _ _)) ?_
  rintro e w2 ⟨rfl,hf2⟩
  obtain⟨y3,y5,y6,y8,lg2⟩:=HC.out w2 hf2
  rw[x3] at y3
  rw[x5] at y5
  rw[x6] at y6
  rw[x8] at y8
  have HF2:=hdz hf2
  clear hf2 lg
  go_wp2_with fail
  refine Calls.mono (HQ.out _ HF2.out) ?_
  rintro e w3 ⟨rfl,hf3⟩
  obtain⟨z3,z5,z6,z8,lg3⟩:=HC.out w3 (HF2.out.trans hf3)
  rw[x6] at z6
  rw[x8] at z8
  have HF3:=hdz (HF2.out.trans hf3)
  clear hf3 lg2 z3 z5 y3 y5 y6 y8
  go_wp2_with fail
  refine Calls.mono (HR.out _ HF3.out) ?_
  rintro e w4 ⟨rfl,hf4⟩
  have HF4:=hdz (HF3.out.trans hf4)
  clear hf4
  go_wp2_with fail
  go_ret
  exact⟨rfl,HW1.out.2.2.2.trans HF4.out⟩
 ·have hd:dn=true:=by rw[hdn];simp[PgD.done,hs]
  subst hd
  have ga:=h.ga hs;have gb:=h.gb hs;have gc:=h.gc hs
  rw[e2] at ga;rw[e5] at gb;rw[e8] at gc
  obtain⟨_,_,q1,-,-⟩:=own_rd ga
  obtain⟨_,_,q2,-,-⟩:=own_rd gb
  obtain⟨_,_,q3,-,-⟩:=own_rd gc
  obtain rfl:n2=p.la.length+64:=by injection q1
  obtain rfl:n5=p.lb.length+64:=by injection q2
  obtain rfl:n8=p.lc.length+64:=by injection q3
  clear q1 q2 q3
  have na:=h.na;have nb:=h.nb;have nc:=h.nc
  have m0:=h.m0;have m1:=h.m1
  rw[←hmk] at m0 m1
  have hlen:(p.la++tails fullP p.mrk 64).length=p.la.length+64∧(p.lb++tails fullW p.mrk 64).length=p.lb.length+64∧(p.lc++tails wordT p.mrk 64).length=p.lc.length+64:=by simp[tails_len]
  have HL:=hdz hlen
  have HH:=hdz (aiz h (aiz hs hmk))
  have HO:=hdz (λwx (hf:Fresh w1 wx)=>aiz (own_keep (own_keep oa hf1 λ_ _=>trivial) hf λ_ _=>trivial) (aiz (own_keep (own_keep ob hf1 λ_ _=>trivial) hf λ_ _=>trivial) (own_keep (own_keep oc hf1 λ_ _=>trivial) hf λ_ _=>trivial)))
  have HG:=hdz (λwx (hf:Fresh w1 wx)=>aiz (own_keep (own_keep ga hf1 λ_ _=>trivial) hf λ_ _=>trivial) (aiz (own_keep (own_keep gb hf1 λ_ _=>trivial) hf λ_ _=>trivial) (own_keep (own_keep gc hf1 λ_ _=>trivial) hf λ_ _=>trivial)))
  have HT:=hdz (λwx (hf:Fresh w1 wx)=>(hT.fresh ((hW.trans hf1).trans hf)).t)
  have HC:Hid (∀w',Fresh w1 w'→w'.cell? ⟨g,0,none⟩=some (.slice A1 p.la.length c1)∧w'.cell? ⟨g,1,none⟩=some (.slice A2 (p.la.length+64) c2)∧w'.cell? ⟨g,2,none⟩=some (.slice A3 n3 c3)∧w'.cell? ⟨g,3,none⟩=some (.slice A4 p.lb.length c4)∧w'.cell? ⟨g,4,none⟩=some (.slice A5 (p.lb.length+64) c5)∧w'.cell? ⟨g,5,none⟩=some (.slice A6 n6 c6)∧w'.cell? ⟨g,6,none⟩=some (.slice A7 p.lc.length c7)∧w'.cell? ⟨g,7,none⟩=some (.slice A8 (p.lc.length+64) c8)∧w'.cell? ⟨g,8,none⟩=some (.slice A9 n9 c9)∧w'.cell? ⟨g,9,none⟩=some (.int .i64 mk)∧w'.cell? ⟨g,10,none⟩=some (.bool true)∧g<w'.heap.size):=hdz λwx hf=>by
   have hb:=Blk.keep hb1 hf trivial
   exact⟨hb.cell 0,hb.cell 1,hb.cell 2,hb.cell 3,hb.cell 4,hb.cell 5,hb.cell 6,hb.cell 7,hb.cell 8,hb.cell 9,hb.cell 10,hb.lt⟩
  have HW1:=hdz (aiz hw1 (aiz hg hf1))
  clear h hT hW hdn hmk e1 e2 e3 e4 e5 e6 e7 e8 e9 oa ob oc ga gb gc hst hs hw1 hg hb1 hf1 hlen
  go_enter Tryz.func101,Tryz.ntmps101
  go_upto_region 1 with (fail)
  rw[←HW1.out.1,←HW1.out.2.1]
  obtain⟨x0,x1,x2,x3,x4,x5,x6,x7,x8,x9,x10,lg⟩:=HC.out w1 (krz _ _)
  go_wp2_with fail
  have HSt:Hid (Fresh w1 w1):=hdz (krz _ _)
  -- LOOPS
  go_loopw [3] (λiv wr=>∃i:Nat,i≤p.la.length+64∧iv=.int .i64 (i:Int)∧Hid (Fresh w1 wr)) (λi _=>p.la.length+64 - (intOf i).toNat)
  case atStart=>exact⟨0,Nat.zero_le _,rfl,HSt⟩
  case round=>
   rename World=>wr
   obtain⟨i,hi,rfl,HR⟩:=hrel
   clear x0 x1 x2 x3 x4 x5 x6 x7 x8 x9 x10 lg HSt
   obtain⟨x0,x1,x2,x3,x4,x5,x6,x7,x8,x9,x10,lg⟩:=HC.out wr HR.out
   by_cases hlt:i<p.la.length+64
   ·have hil:i<(p.la++tails fullP p.mrk 64).length:=by rw[HL.out.1];exact hlt
    obtain⟨g2,cc2,hv2,d2,l2,-⟩:=own_pairC (HG.out wr HR.out).1 hil
    obtain⟨rfl,-⟩:A2=some ⟨g2,0,none⟩∧True:=by injection hv2 with hv2;exact⟨hv2,trivial⟩
    rw[long_get (HH.out.1.fa (by rw[HH.out.2.1];omega)) hil,←HH.out.2.2] at d2
    obtain⟨mI,hmI⟩:∃m,m=mAt mk p.la.length i:=⟨_,rfl⟩
    rw[←hmI] at d2
    have hat:=hdz (λwx (_:Fresh wr wx)=>at_any (A1:=A1) (n1:=p.la.length) (c1:=c1) (A2:=(some ⟨g2,0,none⟩)) (n2:=(p.la.length+64)) (c2:=c2) (A3:=A3) (n3:=n3) (c3:=c3) (A4:=A4) (n4:=p.lb.length) (c4:=c4) (A5:=A5) (n5:=(p.lb.length+64)) (c5:=c5) (A6:=A6) (n6:=n6) (c6:=c6) (A7:=A7) (n7:=p.lc.length) (c7:=c7) (A8:=A8) (n8:=(p.lc.length+64)) (c8:=c8) (A9:=A9) (n9:=n9) (c9:=c9) (dn:=true) mk (i:Int) (p.la.length:Int) (by omega) m1 (by omega) (by omega) (by omega) (by omega) wx)
    rw[show (if (i:Int)<(p.la.length:Int) then mk+(i:Int) else -mk - ((i:Int) - (p.la.length:Int)))=mI from hmI.symm] at hat
    have hmb : -1000000≤mI∧mI≤1000000:=by rw[hmI];unfold mAt;split <;> omega
    have hwd:=hdz (λwx (hf:Fresh wr wx)=>word_any mI hmb.1 hmb.2 wx (HT.out wx (HR.out.trans hf)))
    obtain⟨tx,htx⟩:=exz (wordT mI)
    rw[←htx] at hwd
    rw[show (fullP mI).1=tx from htx.symm] at d2
    have HAT:=hdz (fun (q:Nat) (os:Array Obj)=>Calls.regrown_of (w:=wr) (d:=q) (os:=os) ((hat.out _ (Fresh.of_below (below_regrown wr q os))).mono λ_ _ ⟨he,hf⟩=>⟨he,hf.below⟩))
    have HWD:=hdz (fun (q:Nat) (os:Array Obj)=>Calls.regrown_of (w:=wr) (d:=q) (os:=os) ((hwd.out _ (Fresh.of_below (below_regrown wr q os))).mono λ_ _ ⟨he,hf⟩=>⟨he,hf.below⟩))
    have hji:(i:Int)<(p.la.length:Int)+64:=by omega
    by_cases hin:i<p.la.length
    ·obtain⟨g1,cc1,hv1,d1,l1,-⟩:=own_pairC (HO.out wr HR.out).1 hin
     obtain⟨rfl,-⟩:A1=some ⟨g1,0,none⟩∧True:=by injection hv1 with hv1;exact⟨hv1,trivial⟩
     have hmi:mI=mk+(i:Int):=by rw[hmI];unfold mAt;rw[if_pos (by omega)]
     rw[full_get (HH.out.1.fa (by rw[HH.out.2.1];omega)) hin,←HH.out.2.2,show (fullP (mk+(i:Int))).1=tx by rw[htx,hmi];rfl] at d1
     have hini:(i:Int)<(p.la.length:Int):=by omega
     have hdec:decide ((i:Int)<(p.la.length:Int))=true:=decide_eq_true hini
     have hwr:IntKind.i64.wrap (mk+(i:Int))=mI:=by rw[IntKind.wrap_i64,hmi];omega
     go_wp2_with fail
     have kx0:=cell_regrown x0
     have kx1:=cell_regrown x1
     have kx2:=cell_regrown x2
     have kx3:=cell_regrown x3
     have kx4:=cell_regrown x4
     have kx5:=cell_regrown x5
     have kx6:=cell_regrown x6
     have kx7:=cell_regrown x7
     have kx8:=cell_regrown x8
     have kx9:=cell_regrown x9
     have kx10:=cell_regrown x10
     have kd2:=cell_regrown d2
     have kd1:=cell_regrown d1
     clear hmI hmb hil hat d2 x0 x1 x2 x3 x4 x5 x6 x7 x8 x9 x10 htx hwd hmi d1
     refine wp_region_quiet_below (by kernel_rfl) (by kernel_rfl) ?_
     repeat (go_big_quiet_step (first | exact HAT.out _ _ | exact HWD.out _ _))
     refine wpQuiet_nil ?_
     intro _ hw'
     obtain⟨⟨dq,osq⟩,hw''⟩:=hw'
     subst hw''
     go_wp2_with fail
     exact⟨⟨i+1,by omega,by simp,hdz (HR.out.trans (Fresh.of_below (below_regrown wr dq osq)))⟩,by simp only[intOf];omega⟩
    ·have hini:¬(i:Int)<(p.la.length:Int):=by omega
     have hdec:decide (i<p.la.length)=false:=decide_eq_false hin
     have hdec2:decide ((i:Int)<(p.la.length:Int))=false:=decide_eq_false hini
     go_wp2_with fail
     have kx0:=cell_regrown x0
     have kx1:=cell_regrown x1
     have kx2:=cell_regrown x2
     have kx3:=cell_regrown x3
     have kx4:=cell_regrown x4
     have kx5:=cell_regrown x5
     have kx6:=cell_regrown x6
     have kx7:=cell_regrown x7
     have kx8:=cell_regrown x8
     have kx9:=cell_regrown x9
     have kx10:=cell_regrown x10
     have kd2:=cell_regrown d2
     clear hmI hmb hil hat d2 x0 x1 x2 x3 x4 x5 x6 x7 x8 x9 x10 htx hwd
     refine wp_region_quiet_below (by kernel_rfl) (by kernel_rfl) ?_
     repeat (go_big_quiet_step (first | exact HAT.out _ _ | exact HWD.out _ _))
     refine wpQuiet_nil ?_
     intro _ hw'
     obtain⟨⟨dq,osq⟩,hw''⟩:=hw'
     subst hw''
     go_wp2_with fail
     exact⟨⟨i+1,by omega,by simp,hdz (HR.out.trans (Fresh.of_below (below_regrown wr dq osq)))⟩,by simp only[intOf];omega⟩
   ·have hji:¬(i:Int)<(p.la.length:Int)+64:=by omega
    have HSt:Hid (Fresh w1 wr):=HR
    clear HR hlt hi
    go_wp2_with fail
    go_loopw [4] (λiv wr=>∃i:Nat,i≤p.lb.length+64∧iv=.int .i64 (i:Int)∧Hid (Fresh w1 wr)) (λi _=>p.lb.length+64 - (intOf i).toNat)
    case atStart=>exact⟨0,Nat.zero_le _,rfl,HSt⟩
    case round=>
     rename World=>wr
     obtain⟨i,hi,rfl,HR⟩:=hrel
     clear x0 x1 x2 x3 x4 x5 x6 x7 x8 x9 x10 lg HSt
     obtain⟨x0,x1,x2,x3,x4,x5,x6,x7,x8,x9,x10,lg⟩:=HC.out wr HR.out
     by_cases hlt:i<p.lb.length+64
     ·have hil:i<(p.lb++tails fullW p.mrk 64).length:=by rw[HL.out.2.1];exact hlt
      obtain⟨g2,cc2,hv2,d2,l2,-⟩:=own_waitC (HG.out wr HR.out).2.1 hil
      obtain⟨rfl,-⟩:A5=some ⟨g2,0,none⟩∧True:=by injection hv2 with hv2;exact⟨hv2,trivial⟩
      rw[long_get (HH.out.1.fb (by rw[HH.out.2.1];omega)) hil,←HH.out.2.2] at d2
      obtain⟨mI,hmI⟩:∃m,m=mAt mk p.lb.length i:=⟨_,rfl⟩
      rw[←hmI] at d2
      have hat:=hdz (λwx (_:Fresh wr wx)=>at_any (A1:=A1) (n1:=p.la.length) (c1:=c1) (A2:=A2) (n2:=(p.la.length+64)) (c2:=c2) (A3:=A3) (n3:=n3) (c3:=c3) (A4:=A4) (n4:=p.lb.length) (c4:=c4) (A5:=(some ⟨g2,0,none⟩)) (n5:=(p.lb.length+64)) (c5:=c5) (A6:=A6) (n6:=n6) (c6:=c6) (A7:=A7) (n7:=p.lc.length) (c7:=c7) (A8:=A8) (n8:=(p.lc.length+64)) (c8:=c8) (A9:=A9) (n9:=n9) (c9:=c9) (dn:=true) mk (i:Int) (p.lb.length:Int) (by omega) m1 (by omega) (by omega) (by omega) (by omega) wx)
      rw[show (if (i:Int)<(p.lb.length:Int) then mk+(i:Int) else -mk - ((i:Int) - (p.lb.length:Int)))=mI from hmI.symm] at hat
      have hmb : -1000000≤mI∧mI≤1000000:=by rw[hmI];unfold mAt;split <;> omega
      replace d2:wr.cell? ⟨g2,i*2,none⟩=some (.int .i64 mI):=d2
      have HAT:=hdz (fun (q:Nat) (os:Array Obj)=>Calls.regrown_of (w:=wr) (d:=q) (os:=os) ((hat.out _ (Fresh.of_below (below_regrown wr q os))).mono λ_ _ ⟨he,hf⟩=>⟨he,hf.below⟩))
      have hji:(i:Int)<(p.lb.length:Int)+64:=by omega
      by_cases hin:i<p.lb.length
      ·obtain⟨g1,cc1,hv1,d1,l1,-⟩:=own_waitC (HO.out wr HR.out).2.1 hin
       obtain⟨rfl,-⟩:A4=some ⟨g1,0,none⟩∧True:=by injection hv1 with hv1;exact⟨hv1,trivial⟩
       have hmi:mI=mk+(i:Int):=by rw[hmI];unfold mAt;rw[if_pos (by omega)]
       rw[full_get (HH.out.1.fb (by rw[HH.out.2.1];omega)) hin,←HH.out.2.2] at d1
       replace d1:wr.cell? ⟨g1,i*2,none⟩=some (.int .i64 (mk+(i:Int))):=d1
       rw[←hmi] at d1
       have hini:(i:Int)<(p.lb.length:Int):=by omega
       have hdec:decide ((i:Int)<(p.lb.length:Int))=true:=decide_eq_true hini
       have hwr:IntKind.i64.wrap (mk+(i:Int))=mI:=by rw[IntKind.wrap_i64,hmi];omega
       go_wp2_with fail
       have kx0:=cell_regrown x0
       have kx1:=cell_regrown x1
       have kx2:=cell_regrown x2
       have kx3:=cell_regrown x3
       have kx4:=cell_regrown x4
       have kx5:=cell_regrown x5
       have kx6:=cell_regrown x6
       have kx7:=cell_regrown x7
       have kx8:=cell_regrown x8
       have kx9:=cell_regrown x9
       have kx10:=cell_regrown x10
       have kd2:=cell_regrown d2
       have kd1:=cell_regrown d1
       clear hmI hmb hil hat d2 x0 x1 x2 x3 x4 x5 x6 x7 x8 x9 x10 hmi d1
       refine wp_region_quiet_below (by kernel_rfl) (by kernel_rfl) ?_
       repeat (go_big_quiet_step (exact HAT.out _ _))
       refine wpQuiet_nil ?_
       intro _ hw'
       obtain⟨⟨dq,osq⟩,hw''⟩:=hw'
       subst hw''
       go_wp2_with fail
       exact⟨⟨i+1,by omega,by simp,hdz (HR.out.trans (Fresh.of_below (below_regrown wr dq osq)))⟩,by simp only[intOf];omega⟩
      ·have hini:¬(i:Int)<(p.lb.length:Int):=by omega
       have hdec:decide (i<p.lb.length)=false:=decide_eq_false hin
       have hdec2:decide ((i:Int)<(p.lb.length:Int))=false:=decide_eq_false hini
       go_wp2_with fail
       have kx0:=cell_regrown x0
       have kx1:=cell_regrown x1
       have kx2:=cell_regrown x2
       have kx3:=cell_regrown x3
       have kx4:=cell_regrown x4
       have kx5:=cell_regrown x5
       have kx6:=cell_regrown x6
       have kx7:=cell_regrown x7
       have kx8:=cell_regrown x8
       have kx9:=cell_regrown x9
       have kx10:=cell_regrown x10
       have kd2:=cell_regrown d2
       clear hmI hmb hil hat d2 x0 x1 x2 x3 x4 x5 x6 x7 x8 x9 x10
       refine wp_region_quiet_below (by kernel_rfl) (by kernel_rfl) ?_
       repeat (go_big_quiet_step (exact HAT.out _ _))
       refine wpQuiet_nil ?_
       intro _ hw'
       obtain⟨⟨dq,osq⟩,hw''⟩:=hw'
       subst hw''
       go_wp2_with fail
       exact⟨⟨i+1,by omega,by simp,hdz (HR.out.trans (Fresh.of_below (below_regrown wr dq osq)))⟩,by simp only[intOf];omega⟩
     ·have hji:¬(i:Int)<(p.lb.length:Int)+64:=by omega
      have HSt:Hid (Fresh w1 wr):=HR
      clear HR hlt hi
      go_wp2_with fail
      go_loopw [5] (λiv wr=>∃i:Nat,i≤p.lc.length+64∧iv=.int .i64 (i:Int)∧Hid (Fresh w1 wr)) (λi _=>p.lc.length+64 - (intOf i).toNat)
      case atStart=>exact⟨0,Nat.zero_le _,rfl,HSt⟩
      case round=>
       rename World=>wr
       obtain⟨i,hi,rfl,HR⟩:=hrel
       clear x0 x1 x2 x3 x4 x5 x6 x7 x8 x9 x10 lg HSt
       obtain⟨x0,x1,x2,x3,x4,x5,x6,x7,x8,x9,x10,lg⟩:=HC.out wr HR.out
       by_cases hlt:i<p.lc.length+64
       ·have hil:i<(p.lc++tails wordT p.mrk 64).length:=by rw[HL.out.2.2];exact hlt
        obtain⟨g2,cc2,hv2,d2,l2,-⟩:=own_nameC (HG.out wr HR.out).2.2 hil
        obtain⟨rfl,-⟩:A8=some ⟨g2,0,none⟩∧True:=by injection hv2 with hv2;exact⟨hv2,trivial⟩
        rw[long_get (HH.out.1.fc (by rw[HH.out.2.1];omega)) hil,←HH.out.2.2] at d2
        obtain⟨mI,hmI⟩:∃m,m=mAt mk p.lc.length i:=⟨_,rfl⟩
        rw[←hmI] at d2
        have hat:=hdz (λwx (_:Fresh wr wx)=>at_any (A1:=A1) (n1:=p.la.length) (c1:=c1) (A2:=A2) (n2:=(p.la.length+64)) (c2:=c2) (A3:=A3) (n3:=n3) (c3:=c3) (A4:=A4) (n4:=p.lb.length) (c4:=c4) (A5:=A5) (n5:=(p.lb.length+64)) (c5:=c5) (A6:=A6) (n6:=n6) (c6:=c6) (A7:=A7) (n7:=p.lc.length) (c7:=c7) (A8:=(some ⟨g2,0,none⟩)) (n8:=(p.lc.length+64)) (c8:=c8) (A9:=A9) (n9:=n9) (c9:=c9) (dn:=true) mk (i:Int) (p.lc.length:Int) (by omega) m1 (by omega) (by omega) (by omega) (by omega) wx)
        rw[show (if (i:Int)<(p.lc.length:Int) then mk+(i:Int) else -mk - ((i:Int) - (p.lc.length:Int)))=mI from hmI.symm] at hat
        have hmb : -1000000≤mI∧mI≤1000000:=by rw[hmI];unfold mAt;split <;> omega
        have hwd:=hdz (λwx (hf:Fresh wr wx)=>word_any mI hmb.1 hmb.2 wx (HT.out wx (HR.out.trans hf)))
        obtain⟨tx,htx⟩:=exz (wordT mI)
        rw[←htx] at hwd
        rw[show wordT mI=tx from htx.symm] at d2
        have HAT:=hdz (fun (q:Nat) (os:Array Obj)=>Calls.regrown_of (w:=wr) (d:=q) (os:=os) ((hat.out _ (Fresh.of_below (below_regrown wr q os))).mono λ_ _ ⟨he,hf⟩=>⟨he,hf.below⟩))
        have HWD:=hdz (fun (q:Nat) (os:Array Obj)=>Calls.regrown_of (w:=wr) (d:=q) (os:=os) ((hwd.out _ (Fresh.of_below (below_regrown wr q os))).mono λ_ _ ⟨he,hf⟩=>⟨he,hf.below⟩))
        have hji:(i:Int)<(p.lc.length:Int)+64:=by omega
        by_cases hin:i<p.lc.length
        ·obtain⟨g1,cc1,hv1,d1,l1,-⟩:=own_nameC (HO.out wr HR.out).2.2 hin
         obtain⟨rfl,-⟩:A7=some ⟨g1,0,none⟩∧True:=by injection hv1 with hv1;exact⟨hv1,trivial⟩
         have hmi:mI=mk+(i:Int):=by rw[hmI];unfold mAt;rw[if_pos (by omega)]
         rw[full_get (HH.out.1.fc (by rw[HH.out.2.1];omega)) hin,←HH.out.2.2,show wordT (mk+(i:Int))=tx by rw[htx,hmi]] at d1
         have hini:(i:Int)<(p.lc.length:Int):=by omega
         have hdec:decide ((i:Int)<(p.lc.length:Int))=true:=decide_eq_true hini
         have hwr:IntKind.i64.wrap (mk+(i:Int))=mI:=by rw[IntKind.wrap_i64,hmi];omega
         go_wp2_with fail
         have kx0:=cell_regrown x0
         have kx1:=cell_regrown x1
         have kx2:=cell_regrown x2
         have kx3:=cell_regrown x3
         have kx4:=cell_regrown x4
         have kx5:=cell_regrown x5
         have kx6:=cell_regrown x6
         have kx7:=cell_regrown x7
         have kx8:=cell_regrown x8
         have kx9:=cell_regrown x9
         have kx10:=cell_regrown x10
         have kd2:=cell_regrown d2
         have kd1:=cell_regrown d1
         clear hmI hmb hil hat d2 x0 x1 x2 x3 x4 x5 x6 x7 x8 x9 x10 htx hwd hmi d1
         refine wp_region_quiet_below (by kernel_rfl) (by kernel_rfl) ?_
         repeat (go_big_quiet_step (first | exact HAT.out _ _ | exact HWD.out _ _))
         refine wpQuiet_nil ?_
         intro _ hw'
         obtain⟨⟨dq,osq⟩,hw''⟩:=hw'
         subst hw''
         go_wp2_with fail
         exact⟨⟨i+1,by omega,by simp,hdz (HR.out.trans (Fresh.of_below (below_regrown wr dq osq)))⟩,by simp only[intOf];omega⟩
        ·have hini:¬(i:Int)<(p.lc.length:Int):=by omega
         have hdec:decide (i<p.lc.length)=false:=decide_eq_false hin
         have hdec2:decide ((i:Int)<(p.lc.length:Int))=false:=decide_eq_false hini
         go_wp2_with fail
         have kx0:=cell_regrown x0
         have kx1:=cell_regrown x1
         have kx2:=cell_regrown x2
         have kx3:=cell_regrown x3
         have kx4:=cell_regrown x4
         have kx5:=cell_regrown x5
         have kx6:=cell_regrown x6
         have kx7:=cell_regrown x7
         have kx8:=cell_regrown x8
         have kx9:=cell_regrown x9
         have kx10:=cell_regrown x10
         have kd2:=cell_regrown d2
         clear hmI hmb hil hat d2 x0 x1 x2 x3 x4 x5 x6 x7 x8 x9 x10 htx hwd
         refine wp_region_quiet_below (by kernel_rfl) (by kernel_rfl) ?_
         repeat (go_big_quiet_step (first | exact HAT.out _ _ | exact HWD.out _ _))
         refine wpQuiet_nil ?_
         intro _ hw'
         obtain⟨⟨dq,osq⟩,hw''⟩:=hw'
         subst hw''
         go_wp2_with fail
         exact⟨⟨i+1,by omega,by simp,hdz (HR.out.trans (Fresh.of_below (below_regrown wr dq osq)))⟩,by simp only[intOf];omega⟩
       ·have hji:¬(i:Int)<(p.lc.length:Int)+64:=by omega
        go_wp2_with fail
        go_ret
        exact⟨rfl,HW1.out.2.2.trans HR.out⟩
end Go.Proofs.YtlibhkehebioeaaGreatDoor
namespace Go.Proofs.YtlibhkehebioeaaGreatDoor
set_option linter.unusedVariables false
set_option linter.unusedSimpArgs false
set_option maxRecDepth 100000
set_option maxHeartbeats 40000000
open Go.RowKit
theorem PagesIs.cells {w:World}{B:Nat}{S:Nat→Prop}{L:Value}{ps:List PgD}(h:PagesIs w B S L ps){i:Nat}(hi:i<ps.length):∃g c,L=.slice (some ⟨g,0,none⟩) ps.length c∧g<w.heap.size∧∀j,j<11→w.cell? ⟨g,i*11+j,none⟩=ps[i].cells[j]?:=by
 obtain⟨g,c,cs,hL,_,hg,_,hb,_,hc⟩:=h.cell hi
 exact⟨g,c,hL,hg,λj hj=>by rw[hb.cell,hc j hj]⟩
theorem intactP_any {W0 w:World} (hT:TabsN W0) {K:Nat} {st:PlSt} (h:PlayR W0 w K st) :
 Calls Tryz.prog 61 #[.pointer (some ⟨K,0,none⟩)] w λe w'=>e=.returned (.bool true)∧Fresh w w':=by
 obtain⟨ps,hp,hst⟩:=h.pg
 obtain⟨V,nx,hblk⟩:=h.bk.blkK
 obtain⟨A,c,hL⟩:=own_form0 hp.row
 obtain⟨n,hn⟩:=exz (ps.length)
 have hn48:=hp.len
 rw[←hn] at hL hn48
 have x0:=hblk.cell 9
 simp at x0
 rw[hL] at x0
 have HB:=hdz (aiz h (aiz hp (aiz hst (aiz hT hL))))
 have X:=hdz (aiz x0 hn)
 clear h hp hst hblk hL x0 hn hT
 go_enter Tryz.func61,Tryz.ntmps61
 go_wp2
 go_loopw [3] (λi wr=>∃k:Nat,k≤n∧i=.int .i64 (k:Int)∧Hid (Fresh w wr)) (λi _=>n - (intOf i).toNat)
 case atStart=>exact⟨0,Nat.zero_le _,rfl,krz _ _⟩
 case round=>
  rename World=>wr
  obtain⟨k,hk,rfl,HW⟩:=hrel
  have y0:=HW.out.cellAt X.out.1 trivial
  by_cases hlt:k<n
  ·have hk2:k<ps.length:=by rw[←X.out.2];exact hlt
   have hpk:=HB.out.2.1.keep HW.out (λ_ _=>trivial)
   obtain⟨g,c2,hV,hg,hc⟩:=hpk.cells hk2
   rw[HB.out.2.2.2.2,←X.out.2] at hV
   obtain⟨p,hp⟩:=exz (ps[k])
   rw[←hp] at hc
   have HC:=hdz (show Calls Tryz.prog 101 #[.agg #[p.a1,p.a2,p.a3,p.b1,p.b2,p.b3,p.c1,p.c2,p.c3,.int .i64 p.mrk,.bool p.done]] wr λe w'=>e=.returned (.bool true)∧Fresh wr w' from
    still_any HB.out.2.2.2.1 (HB.out.1.fr.trans HW.out) (by rw[hp];exact hpk.pages _ (List.getElem_mem hk2)) (by rw[hp];exact HB.out.2.2.1 _ (List.getElem_mem hk2)))
   injection hV with hV1 hV2 hV3
   subst hV1 hV3
   have c0:=hc 0 (by omega);have c1:=hc 1 (by omega);have c2:=hc 2 (by omega);have c3:=hc 3 (by omega);have c4:=hc 4 (by omega);have c5:=hc 5 (by omega)
   have c6:=hc 6 (by omega);have c7:=hc 7 (by omega);have c8:=hc 8 (by omega);have c9:=hc 9 (by omega);have c10:=hc 10 (by omega)
   simp only[PgD.cells,List.getElem?_cons_zero,List.getElem?_cons_succ] at c0 c1 c2 c3 c4 c5 c6 c7 c8 c9 c10
   rw[Nat.add_zero] at c0
   clear hp hpk hk2 hV2 hc
   go_wp2_with fail
   refine HC.out.mono ?_
   rintro e w1 ⟨rfl,hf⟩
   have HN:=hdz (HW.out.trans hf)
   clear hf HC c0 c1 c2 c3 c4 c5 c6 c7 c8 c9 c10 y0 HW hg
   go_wp2
   exact⟨⟨k+1,by omega,congrArg _ (by omega),HN.out⟩,by simp[intOf];omega⟩
  ·have HI:=hdz (intact_any _ _ _ _ wr (HB.out.1.bk.keep HW.out λ_ _=>trivial))
   have lK:K<wr.heap.size:=lt_of_cell y0
   go_wp2_with fail
   refine HI.out.mono ?_
   rintro e w1 ⟨rfl,hf⟩
   have HN:=hdz (HW.out.trans hf)
   clear hf HI
   go_wp2
   go_ret
   exact⟨rfl,HN.out⟩
end Go.Proofs.YtlibhkehebioeaaGreatDoor
