/- A PART OF THE PROOF. No condition. -/
import Derived.Test.YtlibhkehebioeaaGreatDoorP18
import Derived.Test.YtlibhkehebioeaaGreatDoorP13
import Derived.Test.YtlibhkehebioeaaGreatDoorP19
import Derived.Test.YtlibhkehebioeaaGreatDoorP12
namespace Go.Proofs.YtlibhkehebioeaaGreatDoor
set_option linter.unusedVariables false
set_option linter.unusedSimpArgs false
set_option maxRecDepth 100000
set_option maxHeartbeats 40000000
open Go.RowKit
def askA (z:SesD):Array Value:=#[.bool (decide (0<z.inc)),.int .i64 z.inc,.int .i64 z.req,.int .i64 z.last.code,str z.last.val,.int .i64 z.last.n]
theorem dcells_ask {pv hv:Value} {tok:Int} {ss:List SesD} {q:Nat} (hq:q<ss.length) (i r:Int) (R:ResD) (hi:0<i) :
 ((((((dcells pv hv tok ss).toArray.setIfInBounds (3+q*6) (.bool true)).setIfInBounds (3+q*6+1) (.int .i64 i)).setIfInBounds (3+q*6+2) (.int .i64 r)).setIfInBounds (3+q*6+3) (.int .i64 R.code)).setIfInBounds (3+q*6+4) (str R.val)).setIfInBounds (3+q*6+5) (.int .i64 R.n)=(dcells pv hv tok (ss.set q ⟨i,r,R⟩)).toArray:=by
 have e:∀ (xs:List Value) (j:Nat) (u:Value),(pv::hv::Value.int .i64 tok::xs).toArray.setIfInBounds (3+j) u=(pv::hv::Value.int .i64 tok::xs.set j u).toArray:=λxs j u=>by
  rw[zp1,show 3+j=j+1+1+1 by omega]
  rfl
 unfold dcells
 have h:∀j,3+q*6+j=3+(q*6+j):=λj=>by omega
 rw[h 1,h 2,h 3,h 4,h 5,e,e,e,e,e,e]
 have c0:=rcells_splice (f:=askC) ask_six ss q hq ⟨i,r,R⟩
 have hl:q*6+6≤(rcells askC ss).length:=by
  rw[rcells_len ask_six]
  have:=Nat.mul_le_mul_right 6 (show q+1≤ss.length from hq)
  omega
 have hb:decide (0<i)=true:=by simpa using hi
 have e6:∀ (xs:List Value) (n:Nat) (a b c d f g:Value),n+6≤xs.length→(((((xs.set n a).set (n+1) b).set (n+2) c).set (n+3) d).set (n+4) f).set (n+5) g=xs.take n++[a,b,c,d,f,g]++xs.drop (n+6):=λxs n a b c d f g hn=>by
  refine List.ext_getElem? λm=>?_
  simp only[List.getElem?_set,List.length_set,List.append_assoc]
  rcases Nat.lt_or_ge m n with h1 | h1
  ·rw[List.getElem?_append_left (by simp;omega),List.getElem?_take,if_pos h1]
   simp only[show ¬n+5=m by omega,show ¬n+4=m by omega,show ¬n+3=m by omega,show ¬n+2=m by omega,show ¬n+1=m by omega,show ¬n=m by omega,if_false]
  ·have e0:(xs.take n).length=n:=by simp;omega
   rw[List.getElem?_append_right (by omega),e0]
   have hm:m - n=0∨m - n=1∨m - n=2∨m - n=3∨m - n=4∨m - n=5∨6≤m - n:=by omega
   rcases hm with h2 | h2 | h2 | h2 | h2 | h2 | h2
   ·obtain rfl:m=n:=by omega
    simp[show m<xs.length by omega]
   ·obtain rfl:m=n+1:=by omega
    simp[show n+1<xs.length by omega]
   ·obtain rfl:m=n+2:=by omega
    simp[show n+2<xs.length by omega]
   ·obtain rfl:m=n+3:=by omega
    simp[show n+3<xs.length by omega]
   ·obtain rfl:m=n+4:=by omega
    simp[show n+4<xs.length by omega]
   ·obtain rfl:m=n+5:=by omega
    simp[show n+5<xs.length by omega]
   ·obtain⟨p,rfl⟩:∃p,m=n+6+p:=⟨m - n - 6,by omega⟩
    rw[List.getElem?_append_right (by simp;omega),List.getElem?_drop]
    simp only[show ¬n+5=n+6+p by omega,show ¬n+4=n+6+p by omega,show ¬n+3=n+6+p by omega,show ¬n+2=n+6+p by omega,show ¬n+1=n+6+p by omega,show ¬n=n+6+p by omega,if_false]
    congr 1
    simp
    omega
 rw[e6 _ _ _ _ _ _ _ _ hl]
 have e7:askC ⟨i,r,R⟩=[Value.bool true,.int .i64 i,.int .i64 r,.int .i64 R.code,str R.val,.int .i64 R.n]:=by unfold askC;rw[hb]
 rw[e7] at c0
 rw[←c0]
 rfl
section
variable {B:Nat}{F:Nat→Prop}{w w2:World}{d:Nat}{pv hv:Value}{hs:List DLk}{s:StD}
theorem DAt.setAsk (h:DAt B F w d pv hv hs s) {q:Nat} (hq:q<s.ss.length) (i r:Int) (R:ResD) (hi:0<i) :
 DAt B F ((((((w.setCell ⟨d,3+q*6,none⟩ (.bool true)).setCell ⟨d,3+q*6+1,none⟩ (.int .i64 i)).setCell ⟨d,3+q*6+2,none⟩ (.int .i64 r)).setCell ⟨d,3+q*6+3,none⟩ (.int .i64 R.code)).setCell ⟨d,3+q*6+4,none⟩ (str R.val)).setCell ⟨d,3+q*6+5,none⟩ (.int .i64 R.n)) d pv hv hs { s with ss:=s.ss.set q ⟨i,r,R⟩ }:=by
 have b6:=(((((h.blk.set (3+q*6) (.bool true)).set (3+q*6+1) (.int .i64 i)).set (3+q*6+2) (.int .i64 r)).set (3+q*6+3) (.int .i64 R.code)).set (3+q*6+4) (str R.val)).set (3+q*6+5) (.int .i64 R.n)
 rw[dcells_ask hq i r R hi] at b6
 have hk:Keep (λk=>k≠d) w ((((((w.setCell ⟨d,3+q*6,none⟩ (.bool true)).setCell ⟨d,3+q*6+1,none⟩ (.int .i64 i)).setCell ⟨d,3+q*6+2,none⟩ (.int .i64 r)).setCell ⟨d,3+q*6+3,none⟩ (.int .i64 R.code)).setCell ⟨d,3+q*6+4,none⟩ (str R.val)).setCell ⟨d,3+q*6+5,none⟩ (.int .i64 R.n)):=
  ((((((krz _ w).setCell (λ_ h=>h rfl) _).setCell (λ_ h=>h rfl) _).setCell (λ_ h=>h rfl) _).setCell (λ_ h=>h rfl) _).setCell (λ_ h=>h rfl) _).setCell (λ_ h=>h rfl) _
 exact⟨b6,own_keep h.pr hk λk hk e=>own_ne_blk h.pr h.blk (by decide) (e ▸ hk),own_keep h.lk hk λk hk e=>own_ne_blk h.lk h.blk (by decide) (e ▸ hk),h.ds,λx hx=>own_keep (h.qs x hx) hk λk hk e=>own_ne_blk (h.qs x hx) h.blk (by decide) (e ▸ hk),h.ap,h.fd,h.fp,h.fh,h.fq⟩
end
theorem ses_ge {s:StD}(h:Inv s):∀z∈s.ss,0≤z.inc:=λz hz=>by
 rcases h.ses z hz with rfl | h1
 ·exact Int.le_refl _
 ·have:=h1.i0;omega
theorem dappl_any {B : Nat} {F : Nat → Prop} {w:World} {d:Nat} {pv hv:Value} {hs:List DLk} {s:StD} (h:DAt B F w d pv hv hs s) (hI:Inv s) (hFb:∀j,F j→j<w.heap.size) (hB:B≤w.heap.size) (hT:∀w',Keep (λj=>¬F j) w w'→Tabs w') (c i r o:Int) (k v ol:Txt) :
 Calls Tryz.prog 96 #[.pointer (some ⟨d,0,none⟩),cmdV c i r o k v ol] w (DOp B F w d (applyD c i r o k v ol s)):=by
 obtain⟨X,hX⟩:=exz (applyD c i r o k v ol s)
 rw[←hX]
 obtain⟨b,hb⟩:=exz (validB c i r o k v ol)
 have HO:=hdz (op_at w c i r o k v ol)
 obtain⟨G,hG⟩:=exz (w.heap.size)
 obtain⟨W,hW⟩:=exz ((w.alloc (.cells #[.int .i64 c,.int .i64 i,.int .i64 r,.int .i64 o,str k,str v,str ol] 30)).alloc (.cells #[.int .i64 0,str [],.int .i64 0] 33))
 rw[←hW,←hG] at HO
 have HV:=rcheck_any c i r o k v ol W
 rw[←hb] at HV
 replace HV:=hdz HV
 have hdW:=h.fresh HO.out.fresh
 have hcm:=HO.out.cmd
 have k0:=hcm.cell 0;have k1:=hcm.cell 1;have k2:=hcm.cell 2;have k3:=hcm.cell 3;have k4:=hcm.cell 4;have k5:=hcm.cell 5;have k6:=hcm.cell 6
 simp at k0 k1 k2 k3 k4 k5 k6
 have kl:=hcm.lt
 have hG1:w.heap.size≤G+1:=by omega
 have HA0:=hdz (aiz hdW (aiz hX (aiz hI (aiz hB (aiz hT hb)))))
 clear hT hdW hX hI hb hFb h hcm hB
 go_enter Tryz.func96,Tryz.ntmps96
 go_wp2_with fail
 simp only[←hG]
 rw[←hW]
 clear hW hG
 refine HV.out.mono ?_
 rintro e W1 ⟨rfl,f1⟩
 have hf1:=HO.out.fresh.then f1
 have hbc1:=HO.out.cmd.keep f1 trivial
 have hbr1:=HO.out.res.keep f1 trivial
 have hd1:=HA0.out.1.fresh f1
 clear k0 k1 k2 k3 k4 k5 k6 kl HV
 cases b
 ·obtain⟨r0,r1,r2,t0,t1,t2,rl⟩:=res_facts hbr1
  have HE:Hid (X=(⟨10,[],0⟩,s)):=hdz (by rw[HA0.out.2.1];unfold applyD;rw[←HA0.out.2.2.2.2.2];simp)
  have H1:=hdz (aiz (hd1.stay' hf1) hbr1)
  clear hf1 hbc1 hbr1 hd1 f1
  go_wp2_with fail
  rw[HE.out]
  exact dop_ret (w:=w) rfl rfl rfl H1.out.1 H1.out.2 hG1
 ·have hV:=vcmd_of HA0.out.2.2.2.2.2.symm
  obtain⟨q,rfl⟩:∃q:Nat,c=(q:Int):=⟨c.toNat,by have:=hV.c0;omega⟩
  have hq16:q<16:=by have:=hV.c1;omega
  have hqi:(q:Int)<16:=by omega
  have hi0:0<i:=by have:=hV.i0;omega
  have hql:q<s.ss.length:=by rw[HA0.out.2.2.1.s16];exact hq16
  have n0:=hd1.ask hql 0 (by omega);have n1:=hd1.ask hql 1 (by omega);have n2:=hd1.ask hql 2 (by omega);have n3:=hd1.ask hql 3 (by omega);have n4:=hd1.ask hql 4 (by omega);have n5:=hd1.ask hql 5 (by omega)
  obtain⟨⟨zi,zr,⟨zc,zv,zn⟩⟩,hz⟩:∃z,z=s.ss.getD q noSes:=⟨_,rfl⟩
  rw[←hz] at n0 n1 n2 n3 n4 n5
  simp only[askC,List.getElem?_cons_zero,List.getElem?_cons_succ,Nat.add_zero] at n0 n1 n2 n3 n4 n5
  have hzi0:0≤zi:=by
   have h1:=ses_ge HA0.out.2.2.1 _ (getD_mem hql)
   rw[←hz] at h1
   exact h1
  have HX:Hid (∀R,(i<zi∨(zi=i∧r<zr)→R=(⟨9,[],0⟩,s)→X=R)∧(zi=i∧zr=r→R=(⟨zc,zv,zn⟩,s)→X=R) ∧
   (¬(i<zi∨(zi=i∧r<zr))→¬(zi=i∧zr=r)→∀s1 x,s1=(if 0<zi∧zi<i then (letsD (q:Int) s).2 else s)→x=doesD numb Lib.itoa (q:Int) o k v ol s1→R=(x.1,{ x.2 with ss:=x.2.ss.set q ⟨i,r,x.1⟩ })→X=R)):=hdz λR=>by
   have e2:X=applyV numb Lib.itoa (q:Int) i r o k v ol s:=by rw[HA0.out.2.1];unfold applyD;rw[←HA0.out.2.2.2.2.2];simp
   refine⟨λh h2=>?_,λh h2=>?_,λh h2 s1 x h3 h4 h5=>?_⟩
   ·rw[h2,e2]
    unfold applyV
    rw[show ((q:Int)).toNat=q by omega,←hz]
    simp only
    rw[if_pos (by rcases h with h | h;exact .inl h;exact .inr h)]
   ·rw[h2,e2]
    unfold applyV
    rw[show ((q:Int)).toNat=q by omega,←hz]
    simp only
    rw[if_neg (by omega),if_pos h]
   ·rw[h5,h4,h3,e2]
    unfold applyV
    rw[show ((q:Int)).toNat=q by omega,←hz]
    simp only
    rw[if_neg h,if_neg h2]
  have HA:=hdz (aiz hd1 (aiz HA0.out.2.2.1 (aiz hf1 (aiz HA0.out.2.2.2.1 (aiz HA0.out.2.2.2.2.1 HA0.out.2.2.2.2.2.symm)))))
  have H1:=hdz (aiz hbc1 hbr1)
  have k0:=hbc1.cell 0
  simp at k0
  have kl:=hbc1.lt
  have ld:=hd1.blk.lt
  have HK3:Hid (∀w',Fresh W1 w'→w'.cell? ⟨G,0,none⟩=some (.int .i64 (q:Int))∧w'.cell? ⟨d,3+q*6,none⟩=some (.bool (decide (0<zi)))∧w'.cell? ⟨d,3+q*6+1,none⟩=some (.int .i64 zi)∧w'.cell? ⟨d,3+q*6+2,none⟩=some (.int .i64 zr)∧w'.cell? ⟨d,3+q*6+3,none⟩=some (.int .i64 zc)∧w'.cell? ⟨d,3+q*6+4,none⟩=some (str zv)∧w'.cell? ⟨d,3+q*6+5,none⟩=some (.int .i64 zn)):=hdz λw' hf=>⟨hf.cellAt k0 trivial,hf.cellAt n0 trivial,hf.cellAt n1 trivial,hf.cellAt n2 trivial,hf.cellAt n3 trivial,hf.cellAt n4 trivial,hf.cellAt n5 trivial⟩
  clear hf1 hbc1 hbr1 hd1 f1 hz HA0 HO
  go_upto_region 3 with (fail)
  go_cut [5] (λs5 wx=>∃z5:Nat,s5=.pointer (some ⟨z5,0,none⟩)∧Hid (Blk wx z5 144 (askA ⟨zi,zr,⟨zc,zv,zn⟩⟩)∧Fresh W1 wx))
  case first=>
   have hsz:(World.drew W1).heap.size=W1.heap.size:=rfl
   go_region_held3 (λw'=>w'.cell? ⟨G,0,none⟩=some (.int .i64 (q:Int))∧w'.cell? ⟨d,3+q*6,none⟩=some (.bool (decide (0<zi)))∧w'.cell? ⟨d,3+q*6+1,none⟩=some (.int .i64 zi)∧w'.cell? ⟨d,3+q*6+2,none⟩=some (.int .i64 zr)∧w'.cell? ⟨d,3+q*6+3,none⟩=some (.int .i64 zc)∧w'.cell? ⟨d,3+q*6+4,none⟩=some (str zv)∧w'.cell? ⟨d,3+q*6+5,none⟩=some (.int .i64 zn))
    (first | with_reducible exact HK3.out _ ((krz _ W1).drew) | exact HK3.out _ (((krz _ W1).alloc _).drew))
    (fail)
   all_goals
    go_wp2_with fail
    go_meet
    exact⟨_,rfl,hdz ⟨(Blk.new W1 144 (askA ⟨zi,zr,⟨zc,zv,zn⟩⟩)).drew,((krz _ W1).alloc _).drew⟩⟩
  case rest=>
  rename World=>W2
  obtain⟨z5,rfl,HC⟩:=hcut
  clear n0 n1 n2 n3 n4 n5 k0 kl HK3
  have hbc2:=H1.out.1.keep HC.out.2 trivial
  have hbr2:=H1.out.2.keep HC.out.2 trivial
  have hf2:=HA.out.2.2.1.then HC.out.2
  have hd2:=HA.out.1.fresh HC.out.2
  have y0:=HC.out.1.cell 0;have y1:=HC.out.1.cell 1;have y2:=HC.out.1.cell 2;have y3:=HC.out.1.cell 3;have y4:=HC.out.1.cell 4;have y5:=HC.out.1.cell 5
  simp[askA] at y0 y1 y2 y3 y4 y5
  have yl:=HC.out.1.lt
  have k0:=hbc2.cell 0;have k1:=hbc2.cell 1;have k2:=hbc2.cell 2
  simp at k0 k1 k2
  have kl:=hbc2.lt
  obtain⟨r0,r1,r2,t0,t1,t2,rl⟩:=res_facts hbr2
  have H2:=hdz (aiz hd2 (aiz hf2 (aiz hbc2 hbr2)))
  clear hbc2 hbr2 hf2 hd2
  have hcs:i<zi∨(zi=i∧r<zr)∨(zi=i∧zr=r)∨(zi=i∧zr<r)∨(0<zi∧zi<i)∨zi=0:=by omega
  rcases hcs with h1 | ⟨rfl,h1⟩ | ⟨rfl,rfl⟩ | ⟨rfl,h1⟩ | ⟨h1,h2⟩ | rfl
  ·have g0:decide (0<zi)=true:=by simp;omega
   have g1:decide (i<zi)=true:=by simp;omega
   have HE:=hdz ((HX.out (⟨9,[],0⟩,s)).1 (.inl h1) rfl)
   go_wp2_with fail
   rw[HE.out]
   exact dop_ret (w:=w) rfl rfl rfl (H2.out.1.stay' H2.out.2.1) H2.out.2.2.2 hG1
  ·have g0:decide (0<zi)=true:=by simp;omega
   have g1:decide (zi<zi)=false:=by simp
   have g2:decide (r<zr)=true:=by simp;omega
   have HE:=hdz ((HX.out (⟨9,[],0⟩,s)).1 (.inr ⟨rfl,h1⟩) rfl)
   go_wp2_with fail
   rw[HE.out]
   exact dop_ret (w:=w) rfl rfl rfl (H2.out.1.stay' H2.out.2.1) H2.out.2.2.2 hG1
  ·have g0:decide (0<zi)=true:=by simp;omega
   have g1:decide (zi<zi)=false:=by simp
   have g2:decide (zr<zr)=false:=by simp
   have HE:=hdz ((HX.out (⟨zc,zv,zn⟩,s)).2.1 ⟨rfl,rfl⟩ rfl)
   go_wp2_with fail
   rw[HE.out]
   exact dop_ret (w:=w) rfl rfl rfl (H2.out.1.stay' H2.out.2.1) H2.out.2.2.2 hG1
  ·have g0:decide (0<zi)=true:=by simp;omega
   have g1:decide (zi<zi)=false:=by simp
   have g2:decide (r<zr)=false:=by simp;omega
   have g3 : (zr == r) = false := by have:zr≠r:=by omega
                                     simpa using this
   obtain⟨s1,hs1⟩:=exz (if 0<zi∧zi<zi then (letsD (q:Int) s).2 else s)
   have HS1:=hdz hs1
   have HD:Hid (¬(zi<zi∨(zi=zi∧r<zr))∧¬(zi=zi∧zr=r)):=hdz ⟨by omega,by omega⟩
   obtain rfl:s1=s:=by rw[hs1,if_neg (by omega)]
   have HST:Hid (DStep B F w d s1 W2∧Blk W2 G 30 #[.int .i64 (q:Int),.int .i64 zi,.int .i64 r,.int .i64 o,str k,str v,str ol]∧Blk W2 (G+1) 33 (resA ⟨0,[],0⟩)):=hdz ⟨H2.out.1.stay' H2.out.2.1,H2.out.2.2⟩
   have HV1:Hid (LInv s1.locks s1.tok∧PInv s1.pairs∧s1.ss.length=16∧∀z∈s1.ss,0≤z.inc):=hdz ⟨HA.out.2.1.lk,HA.out.2.1.pr,HA.out.2.1.s16,ses_ge HA.out.2.1⟩
   clear hs1
   go_upto_region 10 with (fail)
   clear y0 y1 y2 y3 y4 y5 yl k0 k1 k2 kl r0 r1 r2 t0 t1 t2 rl
   obtain⟨⟨pv1,hv1,hs1,F1,hd1,hF1⟩,hk1⟩:=HST.out.1
   have hnG:=hd1.footN HST.out.2.1 (by decide) (by decide) (by decide) (by decide)
   have hnR:=hd1.footN HST.out.2.2 (by decide) (by decide) (by decide) (by decide)
   have hF1w:∀j,DFoot d pv1 hv1 hs1 j→F j∨w.heap.size≤j:=λj hj=>hF1 j (hd1.footF hj)
   have hdo:=ddoes_any hd1.min (λj hj=>hd1.footL hj) HV1.out.1 HV1.out.2.1 HV1.out.2.2.1 HV1.out.2.2.2 (lez HA.out.2.2.2.1 hk1.size) (λw' hk=>HA.out.2.2.2.2.1 w' (hk1.comp hk (λ_ _ h=>h) λj hj h hF=>(hF1w j hF).elim h λh2=>by omega)) (q:Int) zi r o k v ol HA.out.2.2.2.2.2
   obtain⟨⟨⟨rc,rv,rn⟩,s2⟩,hP⟩:∃P,P=doesD numb Lib.itoa (q:Int) o k v ol s1:=⟨_,rfl⟩
   rw[←hP] at hdo
   have hok:=does_ok (num:=numb) (ita:=Lib.itoa) (o:=o) (k:=k) (v:=v) (d:=ol) (c:=(q:Int)) (i:=zi) (r:=r) HV1.out.1 HV1.out.2.1 (vcmd_of HA.out.2.2.2.2.2)
   rw[←hP] at hok
   have hs2l:s2.ss.length=16:=by rw[hok.2.2.2.1];exact HV1.out.2.2.1
   have HE:=hdz ((HX.out ((⟨rc,rv,rn⟩:ResD),{ s2 with ss:=s2.ss.set q ⟨zi,r,⟨rc,rv,rn⟩⟩ })).2.2 HD.out.1 HD.out.2 s1 _ HS1.out hP rfl)
   have HB1:=hdz (aiz hnG (aiz hnR (aiz hF1w (aiz hk1 (aiz hs2l hd1)))))
   have HDo:=hdz hdo
   have k0:=HST.out.2.1.cell 0;have k1:=HST.out.2.1.cell 1;have k2:=HST.out.2.1.cell 2;have k3:=HST.out.2.1.cell 3;have k4:=HST.out.2.1.cell 4;have k5:=HST.out.2.1.cell 5;have k6:=HST.out.2.1.cell 6
   simp at k0 k1 k2 k3 k4 k5 k6
   have kl:=HST.out.2.1.lt
   clear hd1 hnG hnR hF1w hdo hP hok hs2l hk1 hF1
   go_wp2_with fail
   refine Calls.mono HDo.out ?_
   rintro e w6 ⟨rfl,hst6⟩
   have hbc6:=HST.out.2.1.keep hst6.2 HB1.out.1
   have hbr6:=HST.out.2.2.keep hst6.2 HB1.out.2.1
   have hst6w:DStep B F w d s2 w6:=DStep.next hst6 HB1.out.2.2.1 HB1.out.2.2.2.1
   have H6:=hdz (aiz hst6w (aiz hbc6 hbr6))
   clear hst6 hbc6 hbr6 hst6w HDo k0 k1 k2 k3 k4 k5 k6 kl
   go_wp2_with (refine wpList_store_new rfl (.tmp 6) (.tmp 75) rfl _ (resA ⟨rc,rv,rn⟩) _ rfl rfl rfl (by kernel_rfl) (by simp[resA,Value.oneCell']) ?_)
   intro w7 hb7 hf7 hs7
   obtain⟨g6,hg6⟩:∃g,g=w6.heap.size:=⟨_,rfl⟩
   rw[←hg6] at hb7 ⊢
   have hst7:=H6.out.1.fresh hf7
   have hbc7:=H6.out.2.1.keep hf7 trivial
   have hbr7:=H6.out.2.2.keep hf7 trivial
   have H7:=hdz (aiz hst7 (aiz hbc7 (aiz hbr7 hb7)))
   clear hst7 hbc7 hbr7 hb7 hf7 hs7 hg6 H6
   obtain⟨⟨pv7,hv7,hs7,F7,hd7,hF7⟩,hk7⟩:=H7.out.1
   have hq2:q<s2.ss.length:=by rw[HB1.out.2.2.2.2.1];exact hq16
   have n0:=hd7.ask hq2 0 (by omega);have n1:=hd7.ask hq2 1 (by omega);have n2:=hd7.ask hq2 2 (by omega);have n3:=hd7.ask hq2 3 (by omega);have n4:=hd7.ask hq2 4 (by omega);have n5:=hd7.ask hq2 5 (by omega)
   obtain⟨z2,hz2⟩:=exz (s2.ss.getD q noSes)
   rw[←hz2] at n0 n1 n2 n3 n4 n5
   simp only[askC,List.getElem?_cons_zero,List.getElem?_cons_succ,Nat.add_zero] at n0 n1 n2 n3 n4 n5
   have m0:=hd7.blk.frozen (3+q*6)
   have m1:=hd7.blk.frozen (3+q*6+1)
   have m2:=hd7.blk.frozen (3+q*6+2)
   have m3:=hd7.blk.frozen (3+q*6+3)
   have m4:=hd7.blk.frozen (3+q*6+4)
   have m5:=hd7.blk.frozen (3+q*6+5)
   have ld7:=hd7.blk.lt
   have j0:=H7.out.2.1.cell 0;have j1:=H7.out.2.1.cell 1;have j2:=H7.out.2.1.cell 2
   simp at j0 j1 j2
   have v0:=H7.out.2.2.2.cell 0;have v1:=H7.out.2.2.2.cell 1;have v2:=H7.out.2.2.2.cell 2
   simp[resA] at v0 v1 v2
   have hGd:G≠d:=H7.out.2.1.ne hd7.blk (by decide)
   have hRd:G+1≠d:=H7.out.2.2.1.ne hd7.blk (by decide)
   have hgd:g6≠d:=H7.out.2.2.2.ne hd7.blk (by decide)
   have HKS:Hid (∀w',Keep (λk=>k≠d) w7 w'→w'.cell? ⟨G,0,none⟩=some (.int .i64 (q:Int))∧w'.cell? ⟨G,1,none⟩=some (.int .i64 zi)∧w'.cell? ⟨G,2,none⟩=some (.int .i64 r)∧w'.cell? ⟨g6,0,none⟩=some (.int .i64 rc)∧w'.cell? ⟨g6,1,none⟩=some (str rv)∧w'.cell? ⟨g6,2,none⟩=some (.int .i64 rn)):=hdz λw' hk=>⟨hk.cellAt j0 hGd,hk.cellAt j1 hGd,hk.cellAt j2 hGd,hk.cellAt v0 hgd,hk.cellAt v1 hgd,hk.cellAt v2 hgd⟩
   have hD8:=(hd7.setAsk hq2 zi r ⟨rc,rv,rn⟩ hi0).fresh ((krz _ _).drew)
   have hk8:Keep (λk=>k≠d) w7 (World.drew ((((((w7.setCell ⟨d,3+q*6,none⟩ (.bool true)).setCell ⟨d,3+q*6+1,none⟩ (.int .i64 zi)).setCell ⟨d,3+q*6+2,none⟩ (.int .i64 r)).setCell ⟨d,3+q*6+3,none⟩ (.int .i64 rc)).setCell ⟨d,3+q*6+4,none⟩ (str rv)).setCell ⟨d,3+q*6+5,none⟩ (.int .i64 rn))):=
    (((((((krz _ w7).setCell (λ_ h=>h rfl) _).setCell (λ_ h=>h rfl) _).setCell (λ_ h=>h rfl) _).setCell (λ_ h=>h rfl) _).setCell (λ_ h=>h rfl) _).setCell (λ_ h=>h rfl) _).drew
   obtain⟨w8,hw8⟩:=exz (World.drew ((((((w7.setCell ⟨d,3+q*6,none⟩ (.bool true)).setCell ⟨d,3+q*6+1,none⟩ (.int .i64 zi)).setCell ⟨d,3+q*6+2,none⟩ (.int .i64 r)).setCell ⟨d,3+q*6+3,none⟩ (.int .i64 rc)).setCell ⟨d,3+q*6+4,none⟩ (str rv)).setCell ⟨d,3+q*6+5,none⟩ (.int .i64 rn)))
   have hD8w:DAt B F7 w8 d pv7 hv7 hs7 { s2 with ss:=s2.ss.set q ⟨zi,r,⟨rc,rv,rn⟩⟩ }:=by rw[hw8];exact hD8
   rw[←hw8] at hk8
   have hst8:DStep B F w d { s2 with ss:=s2.ss.set q ⟨zi,r,⟨rc,rv,rn⟩⟩ } w8:=⟨⟨_,_,_,_,hD8w,hF7⟩,hk7.comp hk8 (λ_ _ h=>h) λj _ hj e=>hj (by rw[e];exact HA.out.1.fd)⟩
   have H8:=hdz (aiz hst8 (aiz (H7.out.2.2.1.keep hk8 hRd) (H7.out.2.2.2.keep hk8 hgd)))
   have HW8:=hdz hw8
   clear hd7 hF7 hk7 hD8 hD8w hk8 hst8 hw8 hz2 hq2
   go_upto_region 11 with (fail)
   go_region_held3 (λw'=>w'.cell? ⟨G,0,none⟩=some (.int .i64 (q:Int))∧w'.cell? ⟨G,1,none⟩=some (.int .i64 zi)∧w'.cell? ⟨G,2,none⟩=some (.int .i64 r)∧w'.cell? ⟨g6,0,none⟩=some (.int .i64 rc)∧w'.cell? ⟨g6,1,none⟩=some (str rv)∧w'.cell? ⟨g6,2,none⟩=some (.int .i64 rn))
    ((refine HKS.out _ ?_;repeat (first | with_reducible exact krz _ _ | with_reducible refine Keep.drew ?_ | with_reducible refine Keep.alloc ?_ _ | refine Keep.setCell ?_ (λ_ h=>h rfl) _)))
    (fail)
   generalize hwN:World.drew _=wN
   obtain rfl:w8=wN:=HW8.out.trans hwN
   clear hwN n0 n1 n2 n3 n4 n5 m0 m1 m2 m3 m4 m5 j0 j1 j2 v0 v1 v2
   obtain⟨r0,r1,r2,t0,t1,t2,rl⟩:=res_facts H8.out.2.1
   obtain⟨v0,v1,v2,-,-,-,vl⟩:=res_facts H8.out.2.2
   simp only at v0 v1 v2
   go_wp2_with fail
   rw[HE.out]
   exact dop_ret (w:=w) rfl rfl rfl H8.out.1 H8.out.2.1 hG1
  ·have g0:decide (0<zi)=true:=by simp;omega
   have g1:decide (i<zi)=false:=by simp;omega
   have g2 : (zi == i) = false := by have:zi≠i:=by omega
                                     simpa using this
   have g3:decide (zi<i)=true:=by simp;omega
   obtain⟨s1,hs1⟩:=exz (if 0<zi∧zi<i then (letsD (q:Int) s).2 else s)
   have HS1:=hdz hs1
   have HD:Hid (¬(i<zi∨(zi=i∧r<zr))∧¬(zi=i∧zr=r)):=hdz ⟨by omega,by omega⟩
   rw[if_pos ⟨h1,h2⟩] at hs1
   have hL:=dlets_any H2.out.1.min HA.out.2.1.lk (q:Int) (lez HA.out.2.2.2.1 H2.out.2.1.size)
   rw[←hs1] at hL
   have HL:=hdz hL
   have HV1:Hid (LInv s1.locks s1.tok∧PInv s1.pairs∧s1.ss.length=16∧∀z∈s1.ss,0≤z.inc):=hdz (by
    rw[hs1]
    have hr:=lets_rest (q:Int) s
    exact⟨HA.out.2.1.lk.lets _,by rw[hr.1];exact HA.out.2.1.pr,by rw[hr.2];exact HA.out.2.1.s16,by rw[hr.2];exact ses_ge HA.out.2.1⟩)
   clear hs1 hL
   go_wp2_with fail
   refine Calls.mono HL.out ?_
   rintro e W3 ⟨rfl,hst⟩
   have hnG:=H2.out.1.footN H2.out.2.2.1 (by decide) (by decide) (by decide) (by decide)
   have hnR:=H2.out.1.footN H2.out.2.2.2 (by decide) (by decide) (by decide) (by decide)
   have HST:Hid (DStep B F w d s1 W3∧Blk W3 G 30 #[.int .i64 (q:Int),.int .i64 i,.int .i64 r,.int .i64 o,str k,str v,str ol]∧Blk W3 (G+1) 33 (resA ⟨0,[],0⟩)):=hdz ⟨DStep.next hst (λj hj=>.inl (H2.out.1.footF hj)) (H2.out.2.1.weaken λ_ _ _=>trivial),H2.out.2.2.1.keep hst.2 hnG,H2.out.2.2.2.keep hst.2 hnR⟩
   clear hst hnG hnR HL
   go_upto_region 10 with (fail)
   clear y0 y1 y2 y3 y4 y5 yl k0 k1 k2 kl r0 r1 r2 t0 t1 t2 rl
   obtain⟨⟨pv1,hv1,hs1,F1,hd1,hF1⟩,hk1⟩:=HST.out.1
   have hnG:=hd1.footN HST.out.2.1 (by decide) (by decide) (by decide) (by decide)
   have hnR:=hd1.footN HST.out.2.2 (by decide) (by decide) (by decide) (by decide)
   have hF1w:∀j,DFoot d pv1 hv1 hs1 j→F j∨w.heap.size≤j:=λj hj=>hF1 j (hd1.footF hj)
   have hdo:=ddoes_any hd1.min (λj hj=>hd1.footL hj) HV1.out.1 HV1.out.2.1 HV1.out.2.2.1 HV1.out.2.2.2 (lez HA.out.2.2.2.1 hk1.size) (λw' hk=>HA.out.2.2.2.2.1 w' (hk1.comp hk (λ_ _ h=>h) λj hj h hF=>(hF1w j hF).elim h λh2=>by omega)) (q:Int) i r o k v ol HA.out.2.2.2.2.2
   obtain⟨⟨⟨rc,rv,rn⟩,s2⟩,hP⟩:∃P,P=doesD numb Lib.itoa (q:Int) o k v ol s1:=⟨_,rfl⟩
   rw[←hP] at hdo
   have hok:=does_ok (num:=numb) (ita:=Lib.itoa) (o:=o) (k:=k) (v:=v) (d:=ol) (c:=(q:Int)) (i:=i) (r:=r) HV1.out.1 HV1.out.2.1 (vcmd_of HA.out.2.2.2.2.2)
   rw[←hP] at hok
   have hs2l:s2.ss.length=16:=by rw[hok.2.2.2.1];exact HV1.out.2.2.1
   have HE:=hdz ((HX.out ((⟨rc,rv,rn⟩:ResD),{ s2 with ss:=s2.ss.set q ⟨i,r,⟨rc,rv,rn⟩⟩ })).2.2 HD.out.1 HD.out.2 s1 _ HS1.out hP rfl)
   have HB1:=hdz (aiz hnG (aiz hnR (aiz hF1w (aiz hk1 (aiz hs2l hd1)))))
   have HDo:=hdz hdo
   have k0:=HST.out.2.1.cell 0;have k1:=HST.out.2.1.cell 1;have k2:=HST.out.2.1.cell 2;have k3:=HST.out.2.1.cell 3;have k4:=HST.out.2.1.cell 4;have k5:=HST.out.2.1.cell 5;have k6:=HST.out.2.1.cell 6
   simp at k0 k1 k2 k3 k4 k5 k6
   have kl:=HST.out.2.1.lt
   clear hd1 hnG hnR hF1w hdo hP hok hs2l hk1 hF1
   go_wp2_with fail
   refine Calls.mono HDo.out ?_
   rintro e w6 ⟨rfl,hst6⟩
   have hbc6:=HST.out.2.1.keep hst6.2 HB1.out.1
   have hbr6:=HST.out.2.2.keep hst6.2 HB1.out.2.1
   have hst6w:DStep B F w d s2 w6:=DStep.next hst6 HB1.out.2.2.1 HB1.out.2.2.2.1
   have H6:=hdz (aiz hst6w (aiz hbc6 hbr6))
   clear hst6 hbc6 hbr6 hst6w HDo k0 k1 k2 k3 k4 k5 k6 kl
   go_wp2_with (refine wpList_store_new rfl (.tmp 6) (.tmp 75) rfl _ (resA ⟨rc,rv,rn⟩) _ rfl rfl rfl (by kernel_rfl) (by simp[resA,Value.oneCell']) ?_)
   intro w7 hb7 hf7 hs7
   obtain⟨g6,hg6⟩:∃g,g=w6.heap.size:=⟨_,rfl⟩
   rw[←hg6] at hb7 ⊢
   have hst7:=H6.out.1.fresh hf7
   have hbc7:=H6.out.2.1.keep hf7 trivial
   have hbr7:=H6.out.2.2.keep hf7 trivial
   have H7:=hdz (aiz hst7 (aiz hbc7 (aiz hbr7 hb7)))
   clear hst7 hbc7 hbr7 hb7 hf7 hs7 hg6 H6
   obtain⟨⟨pv7,hv7,hs7,F7,hd7,hF7⟩,hk7⟩:=H7.out.1
   have hq2:q<s2.ss.length:=by rw[HB1.out.2.2.2.2.1];exact hq16
   have n0:=hd7.ask hq2 0 (by omega);have n1:=hd7.ask hq2 1 (by omega);have n2:=hd7.ask hq2 2 (by omega);have n3:=hd7.ask hq2 3 (by omega);have n4:=hd7.ask hq2 4 (by omega);have n5:=hd7.ask hq2 5 (by omega)
   obtain⟨z2,hz2⟩:=exz (s2.ss.getD q noSes)
   rw[←hz2] at n0 n1 n2 n3 n4 n5
   simp only[askC,List.getElem?_cons_zero,List.getElem?_cons_succ,Nat.add_zero] at n0 n1 n2 n3 n4 n5
   have m0:=hd7.blk.frozen (3+q*6)
   have m1:=hd7.blk.frozen (3+q*6+1)
   have m2:=hd7.blk.frozen (3+q*6+2)
   have m3:=hd7.blk.frozen (3+q*6+3)
   have m4:=hd7.blk.frozen (3+q*6+4)
   have m5:=hd7.blk.frozen (3+q*6+5)
   have ld7:=hd7.blk.lt
   have j0:=H7.out.2.1.cell 0;have j1:=H7.out.2.1.cell 1;have j2:=H7.out.2.1.cell 2
   simp at j0 j1 j2
   have v0:=H7.out.2.2.2.cell 0;have v1:=H7.out.2.2.2.cell 1;have v2:=H7.out.2.2.2.cell 2
   simp[resA] at v0 v1 v2
   have hGd:G≠d:=H7.out.2.1.ne hd7.blk (by decide)
   have hRd:G+1≠d:=H7.out.2.2.1.ne hd7.blk (by decide)
   have hgd:g6≠d:=H7.out.2.2.2.ne hd7.blk (by decide)
   have HKS:Hid (∀w',Keep (λk=>k≠d) w7 w'→w'.cell? ⟨G,0,none⟩=some (.int .i64 (q:Int))∧w'.cell? ⟨G,1,none⟩=some (.int .i64 i)∧w'.cell? ⟨G,2,none⟩=some (.int .i64 r)∧w'.cell? ⟨g6,0,none⟩=some (.int .i64 rc)∧w'.cell? ⟨g6,1,none⟩=some (str rv)∧w'.cell? ⟨g6,2,none⟩=some (.int .i64 rn)):=hdz λw' hk=>⟨hk.cellAt j0 hGd,hk.cellAt j1 hGd,hk.cellAt j2 hGd,hk.cellAt v0 hgd,hk.cellAt v1 hgd,hk.cellAt v2 hgd⟩
   have hD8:=(hd7.setAsk hq2 i r ⟨rc,rv,rn⟩ hi0).fresh ((krz _ _).drew)
   have hk8:Keep (λk=>k≠d) w7 (World.drew ((((((w7.setCell ⟨d,3+q*6,none⟩ (.bool true)).setCell ⟨d,3+q*6+1,none⟩ (.int .i64 i)).setCell ⟨d,3+q*6+2,none⟩ (.int .i64 r)).setCell ⟨d,3+q*6+3,none⟩ (.int .i64 rc)).setCell ⟨d,3+q*6+4,none⟩ (str rv)).setCell ⟨d,3+q*6+5,none⟩ (.int .i64 rn))):=
    (((((((krz _ w7).setCell (λ_ h=>h rfl) _).setCell (λ_ h=>h rfl) _).setCell (λ_ h=>h rfl) _).setCell (λ_ h=>h rfl) _).setCell (λ_ h=>h rfl) _).setCell (λ_ h=>h rfl) _).drew
   obtain⟨w8,hw8⟩:=exz (World.drew ((((((w7.setCell ⟨d,3+q*6,none⟩ (.bool true)).setCell ⟨d,3+q*6+1,none⟩ (.int .i64 i)).setCell ⟨d,3+q*6+2,none⟩ (.int .i64 r)).setCell ⟨d,3+q*6+3,none⟩ (.int .i64 rc)).setCell ⟨d,3+q*6+4,none⟩ (str rv)).setCell ⟨d,3+q*6+5,none⟩ (.int .i64 rn)))
   have hD8w:DAt B F7 w8 d pv7 hv7 hs7 { s2 with ss:=s2.ss.set q ⟨i,r,⟨rc,rv,rn⟩⟩ }:=by rw[hw8];exact hD8
   rw[←hw8] at hk8
   have hst8:DStep B F w d { s2 with ss:=s2.ss.set q ⟨i,r,⟨rc,rv,rn⟩⟩ } w8:=⟨⟨_,_,_,_,hD8w,hF7⟩,hk7.comp hk8 (λ_ _ h=>h) λj _ hj e=>hj (by rw[e];exact HA.out.1.fd)⟩
   have H8:=hdz (aiz hst8 (aiz (H7.out.2.2.1.keep hk8 hRd) (H7.out.2.2.2.keep hk8 hgd)))
   have HW8:=hdz hw8
   clear hd7 hF7 hk7 hD8 hD8w hk8 hst8 hw8 hz2 hq2
   go_upto_region 11 with (fail)
   go_region_held3 (λw'=>w'.cell? ⟨G,0,none⟩=some (.int .i64 (q:Int))∧w'.cell? ⟨G,1,none⟩=some (.int .i64 i)∧w'.cell? ⟨G,2,none⟩=some (.int .i64 r)∧w'.cell? ⟨g6,0,none⟩=some (.int .i64 rc)∧w'.cell? ⟨g6,1,none⟩=some (str rv)∧w'.cell? ⟨g6,2,none⟩=some (.int .i64 rn))
    ((refine HKS.out _ ?_;repeat (first | with_reducible exact krz _ _ | with_reducible refine Keep.drew ?_ | with_reducible refine Keep.alloc ?_ _ | refine Keep.setCell ?_ (λ_ h=>h rfl) _)))
    (fail)
   generalize hwN:World.drew _=wN
   obtain rfl:w8=wN:=HW8.out.trans hwN
   clear hwN n0 n1 n2 n3 n4 n5 m0 m1 m2 m3 m4 m5 j0 j1 j2 v0 v1 v2
   obtain⟨r0,r1,r2,t0,t1,t2,rl⟩:=res_facts H8.out.2.1
   obtain⟨v0,v1,v2,-,-,-,vl⟩:=res_facts H8.out.2.2
   simp only at v0 v1 v2
   go_wp2_with fail
   rw[HE.out]
   exact dop_ret (w:=w) rfl rfl rfl H8.out.1 H8.out.2.1 hG1
  ·have g0:decide ((0:Int)<0)=false:=by decide
   obtain⟨s1,hs1⟩:=exz (if (0:Int)<0∧0<i then (letsD (q:Int) s).2 else s)
   have HS1:=hdz hs1
   have HD:Hid (¬(i<0∨(0=i∧r<zr))∧¬(0=i∧zr=r)):=hdz ⟨by omega,by omega⟩
   obtain rfl:s1=s:=by rw[hs1,if_neg (by omega)]
   have HST:Hid (DStep B F w d s1 W2∧Blk W2 G 30 #[.int .i64 (q:Int),.int .i64 i,.int .i64 r,.int .i64 o,str k,str v,str ol]∧Blk W2 (G+1) 33 (resA ⟨0,[],0⟩)):=hdz ⟨H2.out.1.stay' H2.out.2.1,H2.out.2.2⟩
   have HV1:Hid (LInv s1.locks s1.tok∧PInv s1.pairs∧s1.ss.length=16∧∀z∈s1.ss,0≤z.inc):=hdz ⟨HA.out.2.1.lk,HA.out.2.1.pr,HA.out.2.1.s16,ses_ge HA.out.2.1⟩
   clear hs1
   go_upto_region 10 with (fail)
   clear y0 y1 y2 y3 y4 y5 yl k0 k1 k2 kl r0 r1 r2 t0 t1 t2 rl
   obtain⟨⟨pv1,hv1,hs1,F1,hd1,hF1⟩,hk1⟩:=HST.out.1
   have hnG:=hd1.footN HST.out.2.1 (by decide) (by decide) (by decide) (by decide)
   have hnR:=hd1.footN HST.out.2.2 (by decide) (by decide) (by decide) (by decide)
   have hF1w:∀j,DFoot d pv1 hv1 hs1 j→F j∨w.heap.size≤j:=λj hj=>hF1 j (hd1.footF hj)
   have hdo:=ddoes_any hd1.min (λj hj=>hd1.footL hj) HV1.out.1 HV1.out.2.1 HV1.out.2.2.1 HV1.out.2.2.2 (lez HA.out.2.2.2.1 hk1.size) (λw' hk=>HA.out.2.2.2.2.1 w' (hk1.comp hk (λ_ _ h=>h) λj hj h hF=>(hF1w j hF).elim h λh2=>by omega)) (q:Int) i r o k v ol HA.out.2.2.2.2.2
   obtain⟨⟨⟨rc,rv,rn⟩,s2⟩,hP⟩:∃P,P=doesD numb Lib.itoa (q:Int) o k v ol s1:=⟨_,rfl⟩
   rw[←hP] at hdo
   have hok:=does_ok (num:=numb) (ita:=Lib.itoa) (o:=o) (k:=k) (v:=v) (d:=ol) (c:=(q:Int)) (i:=i) (r:=r) HV1.out.1 HV1.out.2.1 (vcmd_of HA.out.2.2.2.2.2)
   rw[←hP] at hok
   have hs2l:s2.ss.length=16:=by rw[hok.2.2.2.1];exact HV1.out.2.2.1
   have HE:=hdz ((HX.out ((⟨rc,rv,rn⟩:ResD),{ s2 with ss:=s2.ss.set q ⟨i,r,⟨rc,rv,rn⟩⟩ })).2.2 HD.out.1 HD.out.2 s1 _ HS1.out hP rfl)
   have HB1:=hdz (aiz hnG (aiz hnR (aiz hF1w (aiz hk1 (aiz hs2l hd1)))))
   have HDo:=hdz hdo
   have k0:=HST.out.2.1.cell 0;have k1:=HST.out.2.1.cell 1;have k2:=HST.out.2.1.cell 2;have k3:=HST.out.2.1.cell 3;have k4:=HST.out.2.1.cell 4;have k5:=HST.out.2.1.cell 5;have k6:=HST.out.2.1.cell 6
   simp at k0 k1 k2 k3 k4 k5 k6
   have kl:=HST.out.2.1.lt
   clear hd1 hnG hnR hF1w hdo hP hok hs2l hk1 hF1
   go_wp2_with fail
   refine Calls.mono HDo.out ?_
   rintro e w6 ⟨rfl,hst6⟩
   have hbc6:=HST.out.2.1.keep hst6.2 HB1.out.1
   have hbr6:=HST.out.2.2.keep hst6.2 HB1.out.2.1
   have hst6w:DStep B F w d s2 w6:=DStep.next hst6 HB1.out.2.2.1 HB1.out.2.2.2.1
   have H6:=hdz (aiz hst6w (aiz hbc6 hbr6))
   clear hst6 hbc6 hbr6 hst6w HDo k0 k1 k2 k3 k4 k5 k6 kl
   go_wp2_with (refine wpList_store_new rfl (.tmp 6) (.tmp 75) rfl _ (resA ⟨rc,rv,rn⟩) _ rfl rfl rfl (by kernel_rfl) (by simp[resA,Value.oneCell']) ?_)
   intro w7 hb7 hf7 hs7
   obtain⟨g6,hg6⟩:∃g,g=w6.heap.size:=⟨_,rfl⟩
   rw[←hg6] at hb7 ⊢
   have hst7:=H6.out.1.fresh hf7
   have hbc7:=H6.out.2.1.keep hf7 trivial
   have hbr7:=H6.out.2.2.keep hf7 trivial
   have H7:=hdz (aiz hst7 (aiz hbc7 (aiz hbr7 hb7)))
   clear hst7 hbc7 hbr7 hb7 hf7 hs7 hg6 H6
   obtain⟨⟨pv7,hv7,hs7,F7,hd7,hF7⟩,hk7⟩:=H7.out.1
   have hq2:q<s2.ss.length:=by rw[HB1.out.2.2.2.2.1];exact hq16
   have n0:=hd7.ask hq2 0 (by omega);have n1:=hd7.ask hq2 1 (by omega);have n2:=hd7.ask hq2 2 (by omega);have n3:=hd7.ask hq2 3 (by omega);have n4:=hd7.ask hq2 4 (by omega);have n5:=hd7.ask hq2 5 (by omega)
   obtain⟨z2,hz2⟩:=exz (s2.ss.getD q noSes)
   rw[←hz2] at n0 n1 n2 n3 n4 n5
   simp only[askC,List.getElem?_cons_zero,List.getElem?_cons_succ,Nat.add_zero] at n0 n1 n2 n3 n4 n5
   have m0:=hd7.blk.frozen (3+q*6)
   have m1:=hd7.blk.frozen (3+q*6+1)
   have m2:=hd7.blk.frozen (3+q*6+2)
   have m3:=hd7.blk.frozen (3+q*6+3)
   have m4:=hd7.blk.frozen (3+q*6+4)
   have m5:=hd7.blk.frozen (3+q*6+5)
   have ld7:=hd7.blk.lt
   have j0:=H7.out.2.1.cell 0;have j1:=H7.out.2.1.cell 1;have j2:=H7.out.2.1.cell 2
   simp at j0 j1 j2
   have v0:=H7.out.2.2.2.cell 0;have v1:=H7.out.2.2.2.cell 1;have v2:=H7.out.2.2.2.cell 2
   simp[resA] at v0 v1 v2
   have hGd:G≠d:=H7.out.2.1.ne hd7.blk (by decide)
   have hRd:G+1≠d:=H7.out.2.2.1.ne hd7.blk (by decide)
   have hgd:g6≠d:=H7.out.2.2.2.ne hd7.blk (by decide)
   have HKS:Hid (∀w',Keep (λk=>k≠d) w7 w'→w'.cell? ⟨G,0,none⟩=some (.int .i64 (q:Int))∧w'.cell? ⟨G,1,none⟩=some (.int .i64 i)∧w'.cell? ⟨G,2,none⟩=some (.int .i64 r)∧w'.cell? ⟨g6,0,none⟩=some (.int .i64 rc)∧w'.cell? ⟨g6,1,none⟩=some (str rv)∧w'.cell? ⟨g6,2,none⟩=some (.int .i64 rn)):=hdz λw' hk=>⟨hk.cellAt j0 hGd,hk.cellAt j1 hGd,hk.cellAt j2 hGd,hk.cellAt v0 hgd,hk.cellAt v1 hgd,hk.cellAt v2 hgd⟩
   have hD8:=(hd7.setAsk hq2 i r ⟨rc,rv,rn⟩ hi0).fresh ((krz _ _).drew)
   have hk8:Keep (λk=>k≠d) w7 (World.drew ((((((w7.setCell ⟨d,3+q*6,none⟩ (.bool true)).setCell ⟨d,3+q*6+1,none⟩ (.int .i64 i)).setCell ⟨d,3+q*6+2,none⟩ (.int .i64 r)).setCell ⟨d,3+q*6+3,none⟩ (.int .i64 rc)).setCell ⟨d,3+q*6+4,none⟩ (str rv)).setCell ⟨d,3+q*6+5,none⟩ (.int .i64 rn))):=
    (((((((krz _ w7).setCell (λ_ h=>h rfl) _).setCell (λ_ h=>h rfl) _).setCell (λ_ h=>h rfl) _).setCell (λ_ h=>h rfl) _).setCell (λ_ h=>h rfl) _).setCell (λ_ h=>h rfl) _).drew
   obtain⟨w8,hw8⟩:=exz (World.drew ((((((w7.setCell ⟨d,3+q*6,none⟩ (.bool true)).setCell ⟨d,3+q*6+1,none⟩ (.int .i64 i)).setCell ⟨d,3+q*6+2,none⟩ (.int .i64 r)).setCell ⟨d,3+q*6+3,none⟩ (.int .i64 rc)).setCell ⟨d,3+q*6+4,none⟩ (str rv)).setCell ⟨d,3+q*6+5,none⟩ (.int .i64 rn)))
   have hD8w:DAt B F7 w8 d pv7 hv7 hs7 { s2 with ss:=s2.ss.set q ⟨i,r,⟨rc,rv,rn⟩⟩ }:=by rw[hw8];exact hD8
   rw[←hw8] at hk8
   have hst8:DStep B F w d { s2 with ss:=s2.ss.set q ⟨i,r,⟨rc,rv,rn⟩⟩ } w8:=⟨⟨_,_,_,_,hD8w,hF7⟩,hk7.comp hk8 (λ_ _ h=>h) λj _ hj e=>hj (by rw[e];exact HA.out.1.fd)⟩
   have H8:=hdz (aiz hst8 (aiz (H7.out.2.2.1.keep hk8 hRd) (H7.out.2.2.2.keep hk8 hgd)))
   have HW8:=hdz hw8
   clear hd7 hF7 hk7 hD8 hD8w hk8 hst8 hw8 hz2 hq2
   go_upto_region 11 with (fail)
   go_region_held3 (λw'=>w'.cell? ⟨G,0,none⟩=some (.int .i64 (q:Int))∧w'.cell? ⟨G,1,none⟩=some (.int .i64 i)∧w'.cell? ⟨G,2,none⟩=some (.int .i64 r)∧w'.cell? ⟨g6,0,none⟩=some (.int .i64 rc)∧w'.cell? ⟨g6,1,none⟩=some (str rv)∧w'.cell? ⟨g6,2,none⟩=some (.int .i64 rn))
    ((refine HKS.out _ ?_;repeat (first | with_reducible exact krz _ _ | with_reducible refine Keep.drew ?_ | with_reducible refine Keep.alloc ?_ _ | refine Keep.setCell ?_ (λ_ h=>h rfl) _)))
    (fail)
   generalize hwN:World.drew _=wN
   obtain rfl:w8=wN:=HW8.out.trans hwN
   clear hwN n0 n1 n2 n3 n4 n5 m0 m1 m2 m3 m4 m5 j0 j1 j2 v0 v1 v2
   obtain⟨r0,r1,r2,t0,t1,t2,rl⟩:=res_facts H8.out.2.1
   obtain⟨v0,v1,v2,-,-,-,vl⟩:=res_facts H8.out.2.2
   simp only at v0 v1 v2
   go_wp2_with fail
   rw[HE.out]
   exact dop_ret (w:=w) rfl rfl rfl H8.out.1 H8.out.2.1 hG1
theorem bkeep_any (Hd:PlH) (B K:Nat) (S:Nat→Prop) (w:World) (h:BookOk w Hd B K S) (v:Value) (bs:List UInt8) (hown:w.ownsRow B 5 1 v bs.length (Lib.byteCells bs)) (hlen:bs.length≤1099511627000) (hnew:∀k,v.ownBlock=some k→¬S k) (hB:B≤w.heap.size) :
 Calls Tryz.prog 100 #[.pointer (some ⟨K,6,none⟩),v] w λe w'=>e=.returned (.tuple #[])∧BookOk w' Hd B K (λk=>S k∨v.ownBlock=some k∨(w.heap.size≤k∧k<w'.heap.size))∧Keep (λk=>¬S k) w w':=by
 obtain⟨V,nx,ps,h,hst⟩:=h
 have HB:=hdz (aiz h (aiz hst (aiz hown (aiz hlen (aiz hnew hB)))))
 obtain⟨A,c,rfl⟩:=own_form0 h.row
 obtain⟨n,hn⟩:=exz (ps.length)
 rw[←hn] at HB h
 have hn96:=h.len
 rw[←hn] at hn96
 have hnx1:nx≤96:=by have:=h.nhi;omega
 have hnx0:=h.nlo
 obtain⟨A1,c1,rfl⟩:=own_form0 hown
 obtain⟨m,hm⟩:=exz (bs.length)
 rw[←hm] at HB hlen ⊢
 have x0:=h.blk.cell 6
 have x2:=h.blk.cell 8
 have f0:=h.blk.frozen 6
 have f2:=h.blk.frozen 8
 have hKlt:=h.blk.lt
 simp at x0 x2
 have HM:=hdz (aiz hm hn)
 clear h hst hown hnew hB hn hm
 by_cases hful:(96:Int)≤(n:Int)
 ·go_enter Tryz.func100,Tryz.ntmps100
  go_wp2
  refine bodyPost_ret (results_none rfl _ _ _) rfl ?_
  exact⟨rfl,⟨_,nx,ps,HB.out.1.weaken λk hk=>.inl hk,HB.out.2.1⟩,krz _ _⟩
 ·go_enter Tryz.func100,Tryz.ntmps100
  go_wp2_with fail
  obtain⟨W,hW⟩:=exz (w.setCell ⟨K,8,none⟩ (.int .i64 (nx+1)))
  rw[←hW]
  obtain⟨h,hst,hown,hlen2,hnew,hB⟩:=HB.out
  have hblk:Blk W K 83 (bookC Hd (.slice A n c) (nx+1)):=by rw[hW];simpa using h.blk.set 8 (.int .i64 (nx+1))
  have hkW:Keep (λk=>k≠K) w W:=by rw[hW];exact (krz _ w).setCell (λ_ h=>h rfl) _
  have hvK:∀k,(Value.slice A1 m c1).ownBlock=some k→k≠K:=λk e e2=>hnew k e (e2 ▸ h.inK)
  have hownW:=own_keep hown hkW hvK
  have hVK:∀k,(Value.slice A n c).ownBlock=some k→k≠K:=λk e e2=>own_ne_blk h.row h.blk (by decide) (e2 ▸ e)
  have hrowW:=own_keep h.row hkW hVK
  have hs:W.heap.size=w.heap.size:=by rw[hW];simp[World.setCell]
  have hBW:B≤W.heap.size:=by rw[hs];exact hB
  obtain⟨W1,hW1⟩:=exz ((W.alloc (.cells #[] 5)).drew)
  have hk1:Fresh W W1:=hW1 ▸ ((krz _ W).alloc _).drew
  have hO:W1.ownsRow B 5 1 (.slice (some ⟨W.heap.size,0,none⟩) 0 0) 0 []:=
   ⟨rfl,.inr ⟨W.heap.size,0,#[],rfl,hBW,by rw[hW1];exact heap_alloc_new W _,lrz _,by simp only[maxLen];omega,rfl,rfl⟩⟩
  obtain⟨A1',c1',hv',hrd,hnil⟩:=own_rd (own_keep hownW hk1 (λ_ _=>trivial))
  have hKne:(Value.slice (some ⟨W.heap.size,0,none⟩) 0 0).ownBlock≠some K:=by simp[Value.ownBlock];omega
  have hsz1:W1.heap.size=W.heap.size+1:=by rw[hW1];simp
  injection hv' with hv1 _ hv3
  subst hv1 hv3
  have y0:=hblk.cell 6
  have y2:=hblk.cell 8
  have g0:=hblk.frozen 6
  have hKW:=hblk.lt
  simp at y0 y2
  have z0:=hk1.cellAt y0 trivial
  have z2:=hk1.cellAt y2 trivial
  have zg:W1.frozen? ⟨K,6,none⟩=false:=(hk1.frozen (p:=⟨K,6,none⟩) hKW trivial).trans g0
  have hB1:B≤W1.heap.size:=by rw[hsz1];omega
  have hrow1:=own_keep hrowW hk1 (λ_ _=>trivial)
  rw[←HM.out.2] at hrow1
  have hV1:∀k,(Value.slice A n c).ownBlock=some k→(Value.slice (some ⟨W.heap.size,0,none⟩) 0 0).ownBlock≠some k:=λk e e2=>by have:=(own_lt hrowW e).2;simp[Value.ownBlock] at e2;omega
  have hK1:K<W1.heap.size:=by rw[hsz1];omega
  have hVK2:(Value.slice A n c).ownBlock≠some K:=λe=>hVK K e rfl
  have HF:=hdz (aiz hO (aiz hrd (aiz hnil (aiz hB1 (aiz hKne (aiz z0 (aiz z2 (aiz zg (aiz hrow1 (aiz hV1 (aiz hsz1 (aiz hkW (aiz hs (aiz hk1 (aiz hblk (aiz hK1 hVK2))))))))))))))))
  have h01:(0+m)*1≤140737488355328:=by omega
  have h02:(n+1)*88≤140737488355328:=by omega
  replace h01:=hdz h01
  replace h02:=hdz h02
  subst hW1
  clear x0 x2 f0 f2 hKlt h hst hown hlen2 hnew hB hblk hkW hvK hownW hVK hrowW hs hBW hk1 hO hrd hnil hKne hsz1 z0 z2 zg hB1 hrow1 hV1 hW hK1 hVK2
  go_region_law (first
   | (refine step_app etU8 rfl (.tmp 23) (.tmp 24) rfl B _ 0 [] rfl HF.out.1 _ A1 m c1 _ rfl HF.out.2.1 HF.out.2.2.1 (bcs_one _) h01.out HF.out.2.2.2.1 ?_
      intro v1 w1 ho1 hk1 hn1
      obtain⟨A2,c2,rfl⟩:=own_form0 ho1
      rw[Nat.zero_add,List.nil_append] at ho1
      rw[Nat.zero_add] at hn1
      have u0:=hk1.cellAt HF.out.2.2.2.2.2.1 HF.out.2.2.2.2.1
      have u2:=hk1.cellAt HF.out.2.2.2.2.2.2.1 HF.out.2.2.2.2.1
      have ug:w1.frozen? ⟨K,6,none⟩=false:=(hk1.frozen (p:=⟨K,6,none⟩) HF.out.2.2.2.2.2.2.2.2.2.2.2.2.2.2.2.1 HF.out.2.2.2.2.1).trans HF.out.2.2.2.2.2.2.2.1
      have uK:K<w1.heap.size:=ltz HF.out.2.2.2.2.2.2.2.2.2.2.2.2.2.2.2.1 hk1.size
      have hrow2:=own_keep HF.out.2.2.2.2.2.2.2.2.1 hk1 HF.out.2.2.2.2.2.2.2.2.2.1
      have hB2:=lez HF.out.2.2.2.1 hk1.size
      have hkX:Fresh w1 (w1.alloc (.cells #[.slice A1 m c1,.slice none 0 0,.slice A2 m c2,.int .i64 (nx+1),.bool false] 161)):=(krz (λ_=>True) w1).alloc _
      have H1:=hdz (aiz ho1 (aiz hk1 (aiz hn1 (aiz (own_keep hrow2 hkX (λ_ _=>trivial)) (aiz (lez hB2 hkX.size) (aiz (hkX.cellAt u0 trivial) (aiz ((hkX.frozen (p:=⟨K,6,none⟩) uK trivial).trans ug) (ltz uK hkX.size))))))))
      clear ho1 hk1 hn1 hrow2 hB2 hkX)
   | (refine step_app etPage rfl (.tmp 21) (.tmp 31) rfl B _ n _ rfl H1.out.2.2.2.1 _ (some ⟨w1.heap.size,0,none⟩) 1 1 _ rfl (Rd.one_of (Blk.new _ _ _) rfl) (λh=>Nat.noConfusion h) (page_one _ _ _ _ _ _ _ _ _ _ _) h02.out H1.out.2.2.2.2.1 ?_
      intro v3 w3 ho3 hk3 hn3
      obtain⟨A3,c3,rfl⟩:=own_form0 ho3
      have t0:=hk3.cellAt H1.out.2.2.2.2.2.1 HF.out.2.2.2.2.2.2.2.2.2.2.2.2.2.2.2.2
      have tg:w3.frozen? ⟨K,6,none⟩=false:=(hk3.frozen (p:=⟨K,6,none⟩) H1.out.2.2.2.2.2.2.2 HF.out.2.2.2.2.2.2.2.2.2.2.2.2.2.2.2.2).trans H1.out.2.2.2.2.2.2.1
      have tK:K<w3.heap.size:=ltz H1.out.2.2.2.2.2.2.2 hk3.size
      have H3:=hdz (aiz ho3 (aiz hk3 hn3))
      clear ho3 hk3 hn3))
  all_goals
   go_wp2
   go_end0
   obtain⟨h,hst,hown,hlen2,hnew,hB⟩:=HB.out
   obtain⟨-,-,-,-,-,-,-,-,-,-,-,hkW,hs,hk01,hblk,-,-⟩:=HF.out
   obtain⟨ho1,hk1,hn1,-⟩:=H1.out
   obtain⟨ho3,hk3,hn3⟩:=H3.out
   exact⟨rfl,bkeep_close h hst HM.out.1 HM.out.2 hown hlen2 hnew hB (by omega) hkW hs hk01 hblk ho1 hk1 hn1 ((krz (λ_=>True) _).alloc _) ho3 hk3 hn3⟩
theorem bpush {Hd:PlH} {B K n c c3:Nat} {S T:Nat→Prop} {A A3:Option Addr} {nx:Int} {ps:List Pg} {w w3:World} {q:Pg} (h:BookIs w Hd B K S (.slice A n c) nx ps) (hst:∀p∈ps,p.st≠1) (hn:n=ps.length) (hn96:n<96) (hqst:q.st≠1)
 (hqok:q.ok w3 B) (hk:Keep (λk=>k≠K∧(Value.slice A n c).ownBlock≠some k∧¬T k) w w3) (hblk:Blk w3 K 83 (bookC Hd (.slice A n c) (nx+1)))
 (ho3:w3.ownsRow B 161 5 (.slice A3 (n+1) c3) (n+1) (gcells ps++q.cells)) (hn3:Next w.heap.size (.slice A n c) (.slice A3 (n+1) c3))
 (hqb:∀k,q.blk k→T k∨w.heap.size≤k) (hT:∀k,T k→¬S k) :
 BookOk (w3.setCell ⟨K,6,none⟩ (.slice A3 (n+1) c3)) Hd B K (λk=>S k∨T k∨(w.heap.size≤k∧k<(w3.setCell ⟨K,6,none⟩ (.slice A3 (n+1) c3)).heap.size))∧Keep (λk=>¬S k∧¬T k) w (w3.setCell ⟨K,6,none⟩ (.slice A3 (n+1) c3)):=by
 have hfs:(w3.setCell ⟨K,6,none⟩ (.slice A3 (n+1) c3)).heap.size=w3.heap.size:=by simp[World.setCell]
 have hkF:Keep (λk=>k≠K∧(Value.slice A n c).ownBlock≠some k∧¬T k) w (w3.setCell ⟨K,6,none⟩ (.slice A3 (n+1) c3)):=hk.setCell (λ_ h=>h.1 rfl) _
 have hVK:(Value.slice A n c).ownBlock≠some K:=own_ne_blk h.row h.blk (by decide)
 have hKlt:=h.blk.lt
 have hqnb:¬q.blk K:=hqok.not_blk hblk (by decide)
 have hqok':q.ok (w3.setCell ⟨K,6,none⟩ (.slice A3 (n+1) c3)) B:=hqok.keep ((krz (λk=>k≠K) w3).setCell (λ_ h=>h rfl) _) (λk e e2=>hqnb (e2 ▸ e))
 have hblk3:Blk (w3.setCell ⟨K,6,none⟩ (.slice A3 (n+1) c3)) K 83 (bookC Hd (.slice A3 (n+1) c3) (nx+1)):=by
  have h2:=hblk.set 6 (.slice A3 (n+1) c3)
  simpa using h2
 have hrow3:(w3.setCell ⟨K,6,none⟩ (.slice A3 (n+1) c3)).ownsRow B 161 5 (.slice A3 (n+1) c3) (ps.length+1) (gcells (ps++[q])):=by
  have h1:=own_far ho3 (p:=⟨K,6,none⟩) (λe=>by
   rcases hn3 with e2 | ⟨g,e2,hg⟩
   ·exact hVK (e2.symm.trans e)
   ·rw[e2] at e
    injection e with e
    have e3:g=K:=e
    omega) (.slice A3 (n+1) c3)
  have e1:gcells (ps++[q])=gcells ps++q.cells:=by
   show rcells _ _=_
   rw[rcells_append]
   congr 1
  rw[e1,←hn]
  exact h1
 refine⟨⟨.slice A3 (n+1) c3,nx+1,ps++[q],?_,λp hp=>?_⟩,hkF.weaken λk _ hk=>⟨λe=>hk.1 (e ▸ h.inK),λe=>hk.1 (h.inV k e),hk.2⟩⟩
 ·have hqa:∀p∈ps,∀k,p.blk k→¬q.blk k:=λp hp k e hqk=>by
   rcases hqb k hqk with e2 | e2
   ·exact hT k e2 (h.inP p hp k e)
   ·have:=(h.pages p hp).lt e
    omega
  have hkG:Keep (λk=>k≠K∧(Value.slice A n c).ownBlock≠some k∧¬T k) w (w3.setCell ⟨K,6,none⟩ (.slice A3 (n+1) c3)):=hkF
  have hnT:∀p∈ps,∀k,p.blk k→¬T k:=λp hp k e e2=>hT k e2 (h.inP p hp k e)
  have hVp:∀p∈ps,∀k,p.blk k→(Value.slice A n c).ownBlock≠some k:=λp hp k e hv=>(h.pages p hp).not_own h.row (by decide) hv e
  refine⟨hblk3,by simpa using hrow3,?_,?_,by simp;omega,by have:=h.nlo;omega,by have:=h.nhi;simp;omega,.inl h.inK,λk e=>?_,?_⟩
  ·intro p hp
   rcases List.mem_append.1 hp with hp | hp
   ·exact (h.pages p hp).keep hkG (λk e=>⟨λe2=>(h.pages p hp).not_blk h.blk (by decide) (e2 ▸ e),hVp p hp k e,hnT p hp k e⟩)
   ·obtain rfl:p=q:=by simpa using hp
    exact hqok'
  ·rw[List.pairwise_append]
   refine⟨h.apart,by simp,λp hp q' hq'=>?_⟩
   obtain rfl:q'=q:=by simpa using hq'
   exact hqa p hp
  ·rcases hn3 with e2 | ⟨g,e2,hg⟩
   ·exact .inl (h.inV k (e2 ▸ e))
   ·refine .inr (.inr ⟨?_,?_⟩)
    ·rw[e2] at e
     injection e with e
     omega
    ·have:=(own_lt ho3 e).2
     omega
  ·intro p hp k e
   rcases List.mem_append.1 hp with hp | hp
   ·exact .inl (h.inP p hp k e)
   ·obtain rfl:p=q:=by simpa using hp
    rcases hqb k e with e2 | e2
    ·exact .inr (.inl e2)
    ·refine .inr (.inr ⟨e2,?_⟩)
     have:=hqok'.lt e
     exact this
 ·rcases List.mem_append.1 hp with hp | hp
  ·exact hst p hp
  ·obtain rfl:p=q:=by simpa using hp
   exact hqst
theorem Blk.newAt' {w:World}{k:Nat}{t:TypeId}{cs:Array Value}(h:w.heap.size=k):Blk (w.alloc (.cells cs t)) k t cs:=h ▸ Blk.new _ _ _
theorem PgAt.of_blk {w:World}{P:Nat}{p:Pg}(h:Blk w P 161 p.cells.toArray):PgAt w P 0 p:=
 ⟨h.cell 0,h.cell 1,h.cell 2,h.cell 3,h.cell 4,λj=>h.frozen j⟩
theorem bwrite_any (Hd:PlH) (B K:Nat) (S:Nat→Prop) (w:World) (h:BookOk w Hd B K S) (v:Value) (bs:List UInt8) (hown:w.ownsRow B 5 1 v bs.length (Lib.byteCells bs)) (hlen:bs.length≤1099511627000) (hnew:∀k,v.ownBlock=some k→¬S k) (hB:B≤w.heap.size) :
 Calls Tryz.prog 92 #[.pointer (some ⟨K,6,none⟩),v] w λe w'=>e=.returned (.tuple #[])∧BookOk w' Hd B K (λk=>S k∨v.ownBlock=some k∨(w.heap.size≤k∧k<w'.heap.size))∧Keep (λk=>¬S k∧¬v.ownBlock=some k) w w':=by
 obtain⟨V,nx,ps,h,hst⟩:=h
 have HB:=hdz (aiz h (aiz hst (aiz hown (aiz hlen (aiz hnew hB)))))
 obtain⟨A,c,rfl⟩:=own_form0 h.row
 obtain⟨n,hn⟩:=exz (ps.length)
 rw[←hn] at HB h
 have hn96:=h.len
 rw[←hn] at hn96
 have hnx1:nx≤96:=by have:=h.nhi;omega
 have hnx0:=h.nlo
 obtain⟨A1,c1,rfl⟩:=own_form0 hown
 obtain⟨m,hm⟩:=exz (bs.length)
 rw[←hm] at HB hlen ⊢
 have x0:=h.blk.cell 6
 have x2:=h.blk.cell 8
 have f0:=h.blk.frozen 6
 have f2:=h.blk.frozen 8
 have hKlt:=h.blk.lt
 simp at x0 x2
 have HM:=hdz (aiz hm hn)
 clear h hst hown hnew hB hn hm
 by_cases hful:(96:Int)≤(n:Int)
 ·go_enter Tryz.func92,Tryz.ntmps92
  go_wp2
  refine bodyPost_ret (results_none rfl _ _ _) rfl ?_
  exact⟨rfl,⟨_,nx,ps,HB.out.1.weaken λk hk=>.inl hk,HB.out.2.1⟩,krz _ _⟩
 ·go_enter Tryz.func92,Tryz.ntmps92
  go_wp2_with fail
  obtain⟨P,hP⟩:=exz (w.heap.size)
  obtain⟨W1,hW1⟩:=exz ((w.setCell ⟨K,8,none⟩ (.int .i64 (nx+1))).alloc (.cells #[.slice A1 m c1,.slice none 0 0,.slice none 0 0,.int .i64 (nx+1),.bool false] 161))
  rw[←hW1]
  simp only[←hP]
  obtain⟨h,hst,hown,hlen2,hnew,hB⟩:=HB.out
  have hsz1:W1.heap.size=P+1:=by rw[hW1,hP];simp[World.setCell]
  have hbP:Blk W1 P 161 #[.slice A1 m c1,.slice none 0 0,.slice none 0 0,.int .i64 (nx+1),.bool false]:=by rw[hW1];exact Blk.newAt' (by rw[hP];simp[World.setCell])
  have hbK:Blk W1 K 83 (bookC Hd (.slice A n c) (nx+1)):=by
   rw[hW1]
   have:=(h.blk.set 8 (.int .i64 (nx+1))).alloc (.cells #[.slice A1 m c1,.slice none 0 0,.slice none 0 0,.int .i64 (nx+1),.bool false] 161)
   simpa using this
  have hk01:Keep (λk=>k≠K) w W1:=by rw[hW1];exact ((krz _ w).setCell (λ_ h=>h rfl) _).alloc _
  have hKP:K≠P:=by omega
  have hvK:∀k,(Value.slice A1 m c1).ownBlock=some k→k≠K:=λk e e2=>hnew k e (e2 ▸ h.inK)
  have hvP:(Value.slice A1 m c1).ownBlock≠some P:=λe=>by have:=(own_lt hown e).2;omega
  have hVP:(Value.slice A n c).ownBlock≠some P:=λe=>by have:=(own_lt h.row e).2;omega
  have hVK:(Value.slice A n c).ownBlock≠some K:=own_ne_blk h.row h.blk (by decide)
  have hVv:∀k,(Value.slice A n c).ownBlock=some k→(Value.slice A1 m c1).ownBlock≠some k:=λk e e2=>hnew k e2 (h.inV k e)
  have hown1:=own_keep hown hk01 hvK
  have hrow1:=own_keep h.row hk01 (λk e e2=>hVK (e2 ▸ e))
  rw[←HM.out.2] at hrow1
  have HF:=fill_any ⟨.slice A1 m c1,.slice none 0 0,.slice none 0 0,nx+1,0,bs⟩ B P 0 W1 (PgAt.of_blk hbP) (by show W1.ownsRow _ _ _ _ bs.length _;rw[←HM.out.1];exact hown1) (by show bs.length≤_;rw[←HM.out.1];exact hlen) hvP
  replace HF:=hdz HF
  have HN:=hdz (aiz hKP (aiz hvP (aiz hVP (aiz hVK (aiz hVv (aiz hvK hB))))))
  have H1:=hdz (aiz hbP (aiz hbK (aiz hk01 (aiz hown1 (aiz hrow1 (aiz hsz1 hP))))))
  clear hbP hbK hk01 hown1 hrow1 hsz1 hP hKP hvP hVP hVK hVv hvK hB h hst hown hlen2 hnew hW1 x0 x2 f0 f2 hKlt
  refine HF.out.mono ?_
  rintro e W2 ⟨rfl,w2,hW2,ho2,hk2⟩
  change w2.ownsRow B 5 1 (.slice A1 m c1) bs.length (Lib.byteCells (pats (nx+1) bs.length)) at ho2
  change Keep (λk=>(Value.slice A1 m c1).ownBlock≠some k) W1 w2 at hk2
  rw[←HM.out.1] at ho2
  obtain⟨hbP,hbK,hk01,hown1,hrow1,hsz1,hP⟩:=H1.out
  obtain⟨hKP,hvP,hVP,hVK,hVv,hvK,hB⟩:=HN.out
  have hbP2:Blk W2 P 161 #[.slice A1 m c1,.slice none 0 0,.slice none 0 0,.int .i64 (nx+1),.bool true]:=by
   rw[hW2]
   have:=(hbP.keep hk2 hvP).set 4 (.bool true)
   simpa using this
  have hbK2:Blk W2 K 83 (bookC Hd (.slice A n c) (nx+1)):=by
   rw[hW2]
   exact (hbK.keep hk2 (λe=>hvK K e rfl)).far hKP _
  have hk12:Keep (λk=>(Value.slice A1 m c1).ownBlock≠some k∧k≠P) W1 W2:=by rw[hW2];exact (hk2.weaken (λk _ h=>h.1)).setCell (λ_ h=>h.2 rfl) _
  have ho2':W2.ownsRow B 5 1 (.slice A1 m c1) m (Lib.byteCells (pats (nx+1) m)):=by rw[hW2];exact own_far ho2 hvP _
  have hrow2:=own_keep hrow1 hk12 (λk e=>⟨hVv k e,λe2=>hVP (e2 ▸ e)⟩)
  have hB2:B≤W2.heap.size:=lez (by omega) hk12.size
  have hpl:(pats (nx+1) m).length=m:=pats_len _ _
  have HG:=grow_any ⟨.slice A1 m c1,.slice none 0 0,.slice none 0 0,nx+1,1,pats (nx+1) m⟩ B P 0 W2 (PgAt.of_blk hbP2) (by show W2.ownsRow _ _ _ _ (pats (nx+1) m).length _;rw[hpl];exact ho2') (by show (pats (nx+1) m).length≤_;rw[hpl];exact hlen) (by show (0:Int)≤nx+1;omega) (by show nx+1≤(1000000:Int);omega) hvP hB2
  replace HG:=hdz HG
  have H2:=hdz (aiz hbP2 (aiz hbK2 (aiz hk12 (aiz ho2' hrow2))))
  clear hbP hbK hk01 hown1 hrow1 hsz1 hP hKP hvP hVP hVK hVv hvK hB hbP2 hbK2 hk12 ho2' hrow2 hB2 hpl ho2 hk2 hW2
  go_wp2_with fail
  refine HG.out.mono ?_
  rintro e W3 ⟨rfl,w3,G,hW3,ho3,hG,hk3,hnG⟩
  change w3.ownsRow B 5 1 (.slice A1 m c1) (pats (nx+1) m).length (Lib.byteCells (pats (nx+1) m)) at ho3
  change w3.ownsRow B 5 1 G ((pats (nx+1) m).length+64) (Lib.byteCells (pats (nx+1) m++pats (nx+1+100000) 64)) at hG
  change Keep (λk=>(Value.slice A1 m c1).ownBlock≠some k) W2 w3 at hk3
  change Next W2.heap.size (.slice A1 m c1) G at hnG
  rw[pats_len] at ho3 hG
  obtain⟨A3,c3,rfl⟩:=own_form0 hG
  obtain⟨hbP,hbK,hk01,hown1,hrow1,hsz1,hP⟩:=H1.out
  obtain⟨hbP2,hbK2,hk12,ho2,hrow2⟩:=H2.out
  obtain⟨hKP,hvP,hVP,hVK,hVv,hvK,hB⟩:=HN.out
  have hs12:=hk12.size
  have hGP:(Value.slice A3 (m+64) c3).ownBlock≠some P:=λe=>by
   rcases hnG with e2 | ⟨g,e2,hg⟩
   ·exact hvP (e2.symm.trans e)
   ·rw[e2] at e;injection e with e;omega
  have hbP3:Blk W3 P 161 #[.slice A1 m c1,.slice A3 (m+64) c3,.slice none 0 0,.int .i64 (nx+1),.bool true]:=by
   rw[hW3]
   have:=(hbP2.keep hk3 hvP).set 1 (.slice A3 (m+64) c3)
   simpa using this
  have hbK3:Blk W3 K 83 (bookC Hd (.slice A n c) (nx+1)):=by
   rw[hW3]
   exact (hbK2.keep hk3 (λe=>hvK K e rfl)).far hKP _
  have hk23:Keep (λk=>(Value.slice A1 m c1).ownBlock≠some k∧k≠P) W2 W3:=by rw[hW3];exact (hk3.weaken (λk _ h=>h.1)).setCell (λ_ h=>h.2 rfl) _
  have ho3':W3.ownsRow B 5 1 (.slice A1 m c1) m (Lib.byteCells (pats (nx+1) m)):=by rw[hW3];exact own_far ho3 hvP _
  have hG':W3.ownsRow B 5 1 (.slice A3 (m+64) c3) (m+64) (Lib.byteCells (pats (nx+1) m++pats (nx+1+100000) 64)):=by rw[hW3];exact own_far hG hGP _
  have hrow3:=own_keep hrow2 hk23 (λk e=>⟨hVv k e,λe2=>hVP (e2 ▸ e)⟩)
  have hB3:B≤W3.heap.size:=lez (by omega) hk23.size
  have hpl:(pats (nx+1) m).length=m:=pats_len _ _
  have hqok:Pg.ok W3 B ⟨.slice A1 m c1,.slice A3 (m+64) c3,.slice none 0 0,nx+1,2,pats (nx+1) m⟩:=by
   refine⟨?_,?_,?_,?_,?_,λh=>by simp at h,λ_=>?_,λ_=>?_⟩
   ·show W3.ownsRow _ _ _ _ (pats (nx+1) m).length _;rw[hpl];exact ho3'
   ·show (pats (nx+1) m).length≤_;rw[hpl];exact hlen
   ·show (0:Int)≤nx+1;omega
   ·show nx+1≤(1000000:Int);omega
   ·show 2≤2;omega
   ·show pats (nx+1) m=pats (nx+1) (pats (nx+1) m).length;rw[hpl]
   ·show W3.ownsRow _ _ _ _ ((pats (nx+1) m).length+64) _;rw[hpl];exact hG'
  have hk03:Keep (λk=>k≠K∧¬(Value.slice A1 m c1).ownBlock=some k) w W3:=(hk01.comp hk12 (λ_ _ h=>h.1) (λk hk h=>⟨h.2,by omega⟩)).comp hk23 (λ_ _ h=>h) (λk hk h=>⟨h.2,by omega⟩)
  have hGT:∀k,(Value.slice A3 (m+64) c3).ownBlock=some k→(Value.slice A1 m c1).ownBlock=some k∨w.heap.size≤k:=λk e=>by
   rcases hnG with e2 | ⟨g,e2,hg⟩
   ·exact .inl (e2.symm.trans e)
   ·rw[e2] at e;injection e with e;exact .inr (by omega)
  have p0:=hbP3.cell 0
  have p1:=hbP3.cell 1
  have p2:=hbP3.cell 2
  have p3:=hbP3.cell 3
  have p4:=hbP3.cell 4
  have y0:=hbK3.cell 6
  have g0:=hbK3.frozen 6
  have hK3:=hbK3.lt
  have hP3:=hbP3.lt
  simp at p0 p1 p2 p3 p4 y0
  have hkX:Fresh W3 (W3.alloc (.cells #[.slice A1 m c1,.slice A3 (m+64) c3,.slice none 0 0,.int .i64 (nx+1),.bool true] 161)).drew:=((krz (λ_=>True) W3).alloc _).drew
  have hrdX:Rd (W3.alloc (.cells #[.slice A1 m c1,.slice A3 (m+64) c3,.slice none 0 0,.int .i64 (nx+1),.bool true] 161)).drew (λi=>i=W3.heap.size) 5 (some ⟨W3.heap.size,0,none⟩) 1 [.slice A1 m c1,.slice A3 (m+64) c3,.slice none 0 0,.int .i64 (nx+1),.bool true]:=Rd.one_of ((Blk.new W3 161 #[.slice A1 m c1,.slice A3 (m+64) c3,.slice none 0 0,.int .i64 (nx+1),.bool true]).drew) rfl
  have HX:=hdz (aiz (own_keep hrow3 hkX (λ_ _=>trivial)) (aiz hrdX (aiz (lez hB3 hkX.size) (aiz (hkX.cellAt y0 trivial) (aiz ((hkX.frozen (p:=⟨K,6,none⟩) hK3 trivial).trans g0) (aiz (ltz hK3 hkX.size) (aiz hVK hkX)))))))
  have HQ:=hdz (aiz hqok (aiz hk03 (aiz hGT (aiz hbK3 hrow3))))
  have h02:(n+1)*88≤140737488355328:=by omega
  replace h02:=hdz h02
  clear hbP hbK hk01 hown1 hrow1 hsz1 hP hbP2 hbK2 hk12 ho2 hrow2 hKP hvP hVP hVK hVv hvK hB hs12 hGP hbP3 hbK3 hk23 ho3' hG' hrow3 hB3 hpl hqok hk03 hGT hkX hrdX HF HG hW3 ho3 hG hk3 hnG H1 H2 HN
  go_wp2_with fail
  go_region_law (first
   | (refine step_app etPage rfl (.tmp 30) (.tmp 32) rfl B _ n _ rfl HX.out.1 _ (some ⟨W3.heap.size,0,none⟩) 1 1 _ rfl HX.out.2.1 (λh=>Nat.noConfusion h) (page_one _ _ _ _ _ _ _ _ _ _ _) h02.out HX.out.2.2.1 ?_
      intro v4 w4 ho4 hk4 hn4
      obtain⟨A4,c4,rfl⟩:=own_form0 ho4
      have t0:=hk4.cellAt HX.out.2.2.2.1 HX.out.2.2.2.2.2.2.1
      have tg:w4.frozen? ⟨K,6,none⟩=false:=(hk4.frozen (p:=⟨K,6,none⟩) HX.out.2.2.2.2.2.1 HX.out.2.2.2.2.2.2.1).trans HX.out.2.2.2.2.1
      have tK:K<w4.heap.size:=ltz HX.out.2.2.2.2.2.1 hk4.size
      have H4:=hdz (aiz ho4 (aiz hk4 hn4))
      clear ho4 hk4 hn4))
  all_goals
   go_wp2
   go_end0
   obtain⟨h,hst,hown,hlen2,hnew,hB⟩:=HB.out
   obtain⟨hqok,hk03,hGT,hbK3,hrow3⟩:=HQ.out
   obtain⟨-,-,-,-,-,-,hVK,hkX⟩:=HX.out
   obtain⟨ho4,hk4,hn4⟩:=H4.out
   have hk34:Keep (λk=>¬(Value.slice A n c).ownBlock=some k) W3 w4:=hkX.comp hk4 (λ_ _ _=>trivial) (λ_ _ h=>h)
   have hbp:=bpush (T:=λk=>(Value.slice A1 m c1).ownBlock=some k) h hst HM.out.2 (by omega) (by simp) (hqok.keep hk34 (λk e e2=>hqok.not_own hrow3 (by decide) e2 e)) (hk03.comp hk34 (λ_ _ h=>⟨h.1,h.2.2⟩) (λ_ _ h=>h.2.1)) (hbK3.keep hk34 hVK) ho4
    (hn4.imp (λh=>h) (λ⟨g,e,hg⟩=>⟨g,e,lez (lez hk03.size hkX.size) hg⟩)) (λk e=>by
     rcases e with e | ⟨e1,e⟩ | ⟨e1,e⟩
     ·exact .inl e
     ·simp at e1
     ·exact hGT k e) hnew
   exact⟨rfl,hbp⟩
end Go.Proofs.YtlibhkehebioeaaGreatDoor
