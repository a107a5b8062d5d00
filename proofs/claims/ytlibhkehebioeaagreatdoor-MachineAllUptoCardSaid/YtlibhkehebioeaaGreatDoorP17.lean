/- A PART OF THE PROOF. No condition. -/
import Derived.Test.YtlibhkehebioeaaGreatDoorP9
import Derived.Test.YtlibhkehebioeaaGreatDoorP10
import Derived.Test.YtlibhkehebioeaaGreatDoorP0
namespace Go.Proofs.YtlibhkehebioeaaGreatDoor
set_option linter.unusedVariables false
set_option linter.unusedSimpArgs false
set_option maxRecDepth 100000
set_option maxHeartbeats 40000000
open Go.RowKit
theorem str_byte (l:List UInt8)(s:ByteArray)(hs:s=ByteArray.mk l.toArray)(k:Nat)(hk:k<l.length)(h:k<s.size):(s[k]'h).toNat=l[k].toNat:=by subst hs;rfl
theorem idx_str (s:ByteArray)(k:Nat)(z x:Int)(hk:k<s.size)(hz:z=(k:Int))(hx:((s[k]'hk).toNat:Int)=x)(w:World) :
 (Instr.index 9 (.string s) (.int .i64 z)).run Tryz.prog w=.ok (.int .u8 x) w:=by
 subst hz hx
 rw[run_index_string w 9 _ .i64 _ Tryz.underlying9,dif_pos ⟨by omega,by omega⟩]
 simp only[Int.toNat_natCast]
theorem drop_cons {l:List UInt8}{k:Nat}(hk:k<l.length):l.drop k=l[k]::l.drop (k+1):=List.drop_eq_getElem_cons hk
theorem rdig_none {l:List UInt8}{i0:Nat}{neg:Bool}(h:l.length≤i0):rdig l (l.drop i0) neg=(0,false):=by
 rw[List.drop_of_length_le h];rfl
theorem rdig_lead {l:List UInt8}{i0:Nat}{neg:Bool}(h:i0<l.length)(hc:l[i0].toNat<49∨57<l[i0].toNat):rdig l (l.drop i0) neg=(0,false):=by
 rw[drop_cons h,rdig,if_pos hc]
theorem rdig_dec {l:List UInt8}{i0:Nat}{neg:Bool}(h:i0<l.length)(hc:¬(l[i0].toNat<49∨57<l[i0].toNat)):rdig l (l.drop i0) neg=match Lib.decFrom 0 (l.drop i0) with
 | none=>(0,false)
 | some m=>(if neg=true then -(m:Int) else (m:Int),true):=by
 rw[drop_cons h,rdig,if_neg hc]
 all_goals rfl
theorem decFrom_bad {xs ys:List UInt8}{b:UInt8}{a m:Nat}(h:Lib.decFrom a xs=some m)(hb:Lib.digitVal b=none):Lib.decFrom a (xs++b::ys)=none:=by
 rw[decFrom_append,h]
 simp[Lib.decFrom,hb]
theorem take_drop_step {l:List UInt8}{i0 k:Nat}(hi:i0≤k)(hk:k<l.length):(l.drop i0).take (k+1 - i0)=(l.drop i0).take (k - i0)++[l[k]]:=by
 rw[show k+1 - i0=(k - i0)+1 by omega,List.take_succ_eq_append_getElem (by simp;omega)]
 congr 2
 simp only[List.getElem_drop]
 congr 1
 omega
theorem drop_split {l:List UInt8}{i0 k:Nat}(hi:i0≤k)(hk:k<l.length):l.drop i0=(l.drop i0).take (k - i0)++l[k]::l.drop (k+1):=by
 have h:=(List.take_append_drop (k - i0) (l.drop i0)).symm
 rw[List.drop_drop,show i0+(k - i0)=k by omega,drop_cons hk] at h
 exact h
theorem decFrom_small {l:List UInt8}{i0 k m:Nat}(h:Lib.decFrom 0 ((l.drop i0).take (k - i0))=some m)(hl:l.length≤8):m<100000000:=by
 have h1:=Lib.decFrom_lt _ _ _ h
 have h2:((l.drop i0).take (k - i0)).length≤8:=by simp;omega
 have h3:10 ^ ((l.drop i0).take (k - i0)).length≤10 ^ 8:=Nat.pow_le_pow_right (by decide) h2
 omega
theorem rnumber_any (l:List UInt8) (w:World):Calls Tryz.prog 45 #[str l] w λe w'=>e=.returned (.tuple #[.int .i64 (rnum l).1,.bool (rnum l).2])∧w=w':=by
 obtain⟨t,ht⟩:=exz (rnum l)
 rw[←ht]
 unfold rnum at ht
 by_cases hl:l.length=0∨8<l.length
 ·rw[if_pos hl] at ht
  subst ht
  rcases hl with hl | hl
  ·obtain rfl:l=[]:=List.eq_nil_of_length_eq_zero hl
   clear hl
   go_enter Tryz.func45,Tryz.ntmps45
   go_wp2_with fail
   all_goals
    go_ret2
    exact⟨rfl,rfl⟩
  ·have h8:(8:Int)<(l.length:Int):=by omega
   clear hl
   go_enter Tryz.func45,Tryz.ntmps45
   go_wp2_with fail
   all_goals
    go_ret2
    exact⟨rfl,rfl⟩
 ·rw[if_neg hl] at ht
  by_cases hz:l=[48]
  ·rw[if_pos hz] at ht
   subst hz ht
   clear hl
   go_enter Tryz.func45,Tryz.ntmps45
   go_wp2_with fail
   all_goals
    go_ret2
    exact⟨rfl,rfl⟩
  ·rw[if_neg hz] at ht
   obtain⟨s,hs⟩:∃s:ByteArray,s=ByteArray.mk l.toArray:=⟨_,rfl⟩
   have hsl:s.size=l.length:=by rw[hs];rfl
   have h0:0<s.size:=by omega
   obtain⟨x0,hx0⟩:∃x0:Int,((s[0]'h0).toNat:Int)=x0:=⟨_,rfl⟩
   have ht2:t=if x0=45 then rdig l (l.drop 1) true else rdig l (l.drop 0) false:=by
    cases l with
    | nil=>simp at hl
    | cons b r=>
     rw[ht]
     have e:(b=45)=(x0=45):=by
      subst hs
      rw[←hx0]
      apply propext
      constructor
      ·rintro rfl;rfl
      ·intro h
       have h:(b.toNat:Int)=45:=h
       exact UInt8.toNat_inj.1 (by rw[show b.toNat=45 by omega];rfl)
     simp only[e]
     rfl
   have g0:(0:Int)<(s.size:Int):=by omega
   have g8:(s.size:Int)≤8:=by omega
   have q1:¬(s=ByteArray.mk #[48]):=λh=>hz (by rw[hs] at h;injection h with h;simpa using congrArg Array.toList h)
   have q2:((s.size:Int)==0)=false:=beq_eq_false_iff_ne.2 (by omega)
   have q4:(s.toList==[48])=false:=by rw[hs];simpa using hz
   rw[show str l=Value.string s by rw[hs]]
   have HL:=hdz (aiz hl (aiz hs hsl))
   clear hs hsl
   have i0:=idx_str s 0 0 x0 h0 rfl hx0 w
   replace hx0:=hdz hx0
   have HT:=hdz ht2
   clear hl ht ht2
   by_cases hx:x0=45
   ·have hT2:=HT.out
    rw[if_pos hx] at hT2
    have hx45:(s[0]'h0).toNat=45:=by have:=hx0.out;omega
    clear hx0
    subst hx
    clear hx45
    by_cases h1:l.length≤1
    ·rw[rdig_none h1] at hT2
     have g1:(s.size:Int)≤1:=by have:=HL.out.2.2;omega
     subst hT2
     clear h1 HT
     go_enter Tryz.func45,Tryz.ntmps45
     go_wp2_with fail
     all_goals
      go_ret2
      exact⟨rfl,rfl⟩
    ·have h1':1<s.size:=by have:=HL.out.2.2;omega
     have g1:(1:Int)<(s.size:Int):=by omega
     obtain⟨x1,hx1⟩:∃x1:Int,((s[1]'h1').toNat:Int)=x1:=⟨_,rfl⟩
     have i1:=idx_str s 1 1 x1 h1' rfl hx1 w
     by_cases hc:x1<49∨57<x1
     ·have hl1:1<l.length:=by have:=HL.out.2.2;omega
      rw[rdig_lead hl1 (by rw[←str_byte l s HL.out.2.1 1 hl1 h1'];omega)] at hT2
      subst hT2
      clear h1 HT hx1
      rcases hc with hc | hc
      all_goals
       go_enter Tryz.func45,Tryz.ntmps45
       go_wp2_with fail
       all_goals
        go_ret2
        exact⟨rfl,rfl⟩
     ·have hl1:1<l.length:=by have:=HL.out.2.2;omega
      rw[rdig_dec hl1 (by rw[←str_byte l s HL.out.2.1 1 hl1 h1'];omega)] at hT2
      have HT2:=hdz hT2
      have c1:49≤x1:=by omega
      have c2:x1≤57:=by omega
      clear hc hT2 h1 HT hx1
      go_enter Tryz.func45,Tryz.ntmps45
      go_wp2_with fail
      clear i0 i1
      go_loopw [5,6] (λa i wr=>∃ (k:Nat) (z:Int),1≤k∧k≤s.size∧i=.int .i64 (k:Int)∧a=.int .i64 z∧wr=w∧Hid (∃m:Nat,z=(m:Int)∧Lib.decFrom 0 ((l.drop 1).take (k - 1))=some m)) (λ_ i _=>s.size - (intOf i).toNat)
      case atStart=>exact⟨1,0,by omega,by omega,rfl,rfl,rfl,hdz ⟨0,rfl,by simp[Lib.decFrom]⟩⟩
      case round=>
       obtain⟨k,z,hk1,hk,rfl,rfl,rfl,HW⟩:=hrel
       by_cases hlt:k<s.size
       ·obtain⟨x,hx⟩:∃x:Int,((s[k]'hlt).toNat:Int)=x:=⟨_,rfl⟩
        have hll:k<l.length:=by have:=HL.out.2.2;omega
        have ik:=idx_str s k _ x hlt rfl hx wr
        obtain⟨hz0,hz9⟩:0≤z∧z<100000000:=by
         obtain⟨m,hm,hW⟩:=HW.out
         have:=decFrom_small hW (by have:=HL.out.1;omega)
         omega
        by_cases hd:48≤x∧x≤57
        ·obtain⟨hd1,hd2⟩:=hd
         obtain⟨y,hy⟩:∃y:Nat,x=(y:Int)+48:=⟨(x - 48).toNat,by omega⟩
         have hv:Lib.digitVal l[k]=some y:=by
          have:=str_byte l s HL.out.2.1 k hll hlt
          unfold Lib.digitVal
          rw[if_pos (by omega)]
          congr 1
          omega
         have hs:∃m:Nat,10*z+(x - 48)=(m:Int)∧Lib.decFrom 0 ((l.drop 1).take (k+1 - 1))=some m:=by
          obtain⟨m,hm,hW⟩:=HW.out
          refine⟨10*m+y,by omega,?_⟩
          rw[take_drop_step hk1 hll,decFrom_append,hW]
          simp[Lib.decFrom,hv,Nat.mul_comm]
         have HS:=hdz hs
         have HY:=hdz hy
         clear hs hv HW hx hy
         go_wp2_with fail
         have hy:=HY.out
         refine⟨⟨k+1,10*z+(x - 48),by omega,by omega,congrArg _ (by omega),congrArg _ (by omega),(by simp),HS⟩,by simp[intOf];omega⟩
        ·have hv:Lib.digitVal l[k]=none:=by
          have:=str_byte l s HL.out.2.1 k hll hlt
          unfold Lib.digitVal
          rw[if_neg (by omega)]
         have hT:t=(0,false):=by
          obtain⟨m,hm,hW⟩:=HW.out
          rw[HT2.out,drop_split hk1 hll,decFrom_bad hW hv]
         subst hT
         clear hv HW HT2 hx
         by_cases hd1:x<48
         all_goals
          go_wp2_with fail
          all_goals
           go_ret2
           exact⟨rfl,rfl⟩
       ·have hT:t=(-z,true):=by
         rw[HT2.out]
         obtain⟨m,hm,this⟩:=HW.out
         rw[List.take_of_length_le (by have:=HL.out.2.2;simp;omega)] at this
         rw[this,hm]
         simp
        subst hT
        clear HT2
        obtain⟨hz0,hz9⟩:0≤z∧z<100000000:=by
         obtain⟨m,hm,hW⟩:=HW.out
         have:=decFrom_small hW (by have:=HL.out.1;omega)
         omega
        clear HW
        go_wp2_with fail
        go_ret2
        exact⟨rfl,rfl⟩
   ·have hT2:=HT.out
    rw[if_neg hx] at hT2
    have q5:(x0==45)=false:=by simpa using hx
    have q6:¬(s=ByteArray.empty):=by rintro rfl;simp at h0
    have h1':0<s.size:=h0
    by_cases hc:x0<49∨57<x0
    ·have hl1:0<l.length:=by have:=HL.out.2.2;omega
     rw[rdig_lead hl1 (by rw[←str_byte l s HL.out.2.1 0 hl1 h1'];have:=hx0.out;omega)] at hT2
     subst hT2
     clear HT hx0
     rcases hc with hc | hc
     all_goals
      go_enter Tryz.func45,Tryz.ntmps45
      go_wp2_with fail
      all_goals
       go_ret2
       exact⟨rfl,rfl⟩
    ·have hl1:0<l.length:=by have:=HL.out.2.2;omega
     rw[rdig_dec hl1 (by rw[←str_byte l s HL.out.2.1 0 hl1 h1'];have:=hx0.out;omega)] at hT2
     have HT2:=hdz hT2
     have c1:49≤x0:=by omega
     have c2:x0≤57:=by omega
     clear hc hT2 HT
     ·go_enter Tryz.func45,Tryz.ntmps45
      go_wp2_with fail
      clear i0
      go_loopw [5,6] (λa i wr=>∃ (k:Nat) (z:Int),0≤k∧k≤s.size∧i=.int .i64 (k:Int)∧a=.int .i64 z∧wr=w∧Hid (∃m:Nat,z=(m:Int)∧Lib.decFrom 0 ((l.drop 0).take (k - 0))=some m)) (λ_ i _=>s.size - (intOf i).toNat)
      case atStart=>exact⟨0,0,by omega,by omega,rfl,rfl,rfl,hdz ⟨0,rfl,by simp[Lib.decFrom]⟩⟩
      case round=>
       obtain⟨k,z,hk1,hk,rfl,rfl,rfl,HW⟩:=hrel
       by_cases hlt:k<s.size
       ·obtain⟨x,hx⟩:∃x:Int,((s[k]'hlt).toNat:Int)=x:=⟨_,rfl⟩
        have hll:k<l.length:=by have:=HL.out.2.2;omega
        have ik:=idx_str s k _ x hlt rfl hx wr
        obtain⟨hz0,hz9⟩:0≤z∧z<100000000:=by
         obtain⟨m,hm,hW⟩:=HW.out
         have:=decFrom_small hW (by have:=HL.out.1;omega)
         omega
        by_cases hd:48≤x∧x≤57
        ·obtain⟨hd1,hd2⟩:=hd
         obtain⟨y,hy⟩:∃y:Nat,x=(y:Int)+48:=⟨(x - 48).toNat,by omega⟩
         have hv:Lib.digitVal l[k]=some y:=by
          have:=str_byte l s HL.out.2.1 k hll hlt
          unfold Lib.digitVal
          rw[if_pos (by omega)]
          congr 1
          omega
         have hs:∃m:Nat,10*z+(x - 48)=(m:Int)∧Lib.decFrom 0 ((l.drop 0).take (k+1 - 0))=some m:=by
          obtain⟨m,hm,hW⟩:=HW.out
          refine⟨10*m+y,by omega,?_⟩
          rw[take_drop_step hk1 hll,decFrom_append,hW]
          simp[Lib.decFrom,hv,Nat.mul_comm]
         have HS:=hdz hs
         have HY:=hdz hy
         clear hs hv HW hx hy
         go_wp2_with fail
         have hy:=HY.out
         refine⟨⟨k+1,10*z+(x - 48),by omega,by omega,congrArg _ (by omega),congrArg _ (by omega),(by simp),HS⟩,by simp[intOf];omega⟩
        ·have hv:Lib.digitVal l[k]=none:=by
          have:=str_byte l s HL.out.2.1 k hll hlt
          unfold Lib.digitVal
          rw[if_neg (by omega)]
         have hT:t=(0,false):=by
          obtain⟨m,hm,hW⟩:=HW.out
          rw[HT2.out,drop_split hk1 hll,decFrom_bad hW hv]
         subst hT
         clear hv HW HT2 hx
         by_cases hd1:x<48
         all_goals
          go_wp2_with fail
          all_goals
           go_ret2
           exact⟨rfl,rfl⟩
       ·have hT:t=(z,true):=by
         rw[HT2.out]
         obtain⟨m,hm,this⟩:=HW.out
         rw[List.take_of_length_le (by have:=HL.out.2.2;simp;omega)] at this
         rw[this,hm]
         simp
        subst hT
        clear HT2
        go_wp2_with fail
        go_ret2
        exact⟨rfl,rfl⟩
theorem pput_at {ps:List (Txt×Txt)}(hr:Rise (ps.map Prod.fst)){i:Nat}(hi:i<ps.length)(v:Txt):pputD ps[i].1 v ps=ps.set i (ps[i].1,v):=by
 have hf:pfindD ps[i].1 ps=some ps[i]:=findK_of hr (List.getElem_mem hi) rfl
 unfold pputD
 rw[hf]
 exact setK_at hr hi rfl
theorem pput_new {ps:List (Txt×Txt)}{k:Txt}(h:pfindD k ps=none)(v:Txt):pputD k v ps=insK Prod.fst (k,v) ps:=by
 unfold pputD
 rw[h]
section
variable {B:Nat}{F:Nat→Prop}{w w2:World}{d:Nat}{pv hv:Value}{hs:List DLk}{s:StD}
theorem DAt.setVal (h:DAt B F w d pv hv hs s){i:Nat}(hi:i<s.pairs.length){g:Nat}(hg:pv.ownBlock=some g)(v:Txt) :
 DAt B F (w.setCell ⟨g,i*2+1,none⟩ (str v)) d pv hv hs { s with pairs:=s.pairs.set i (s.pairs[i].1,v) }:=by
 have hs2:=own_set h.pr hg (i:=i*2+1) (by omega) (str v)
 have e:(pcells s.pairs).set (i*2+1) (str v)=pcells (s.pairs.set i (s.pairs[i].1,v)):=rcells_set (f:=pairC) (c:=2) (λ_=>rfl) s.pairs i hi 1 (str v) (s.pairs[i].1,v) (by omega) rfl
 rw[e] at hs2
 have hgd:d≠g:=λe=>own_ne_blk h.pr h.blk (by decide) (e ▸ hg)
 refine⟨h.blk.far hgd _,by rw[List.length_set];exact hs2,own_far h.lk (p:=⟨g,i*2+1,none⟩) (λe=>h.ngp e hg) _,h.ds,λx hx=>own_far (h.qs x hx) (p:=⟨g,i*2+1,none⟩) (λe=>h.npq hx e hg) _,h.ap,h.fd,h.fp,h.fh,h.fq⟩
end
theorem donKey_any {B:Nat} {F:Nat→Prop} {w:World} {d:Nat} {pv hv:Value} {hs:List DLk} {s:StD} (h:DAt B F w d pv hv hs s) (hp:PInv s.pairs) (hB:B≤w.heap.size) (hT:∀w',Keep (λj=>¬F j) w w'→Tabs w') (c i r o:Int) (k v ol:Txt) (hv5:o=5→(numb v).2=true) (ho1:1≤o) (ho5:o≤5) :
 Calls Tryz.prog 161 #[.pointer (some ⟨d,0,none⟩),cmdV c i r o k v ol] w (DOp B F w d (onKeyD numb Lib.itoa o k v ol s)):=by
 obtain⟨X,hX⟩:=exz (onKeyD numb Lib.itoa o k v ol s)
 rw[←hX]
 have HO:=hdz (op_at w c i r o k v ol)
 obtain⟨G,hG⟩:=exz (w.heap.size)
 obtain⟨W,hW⟩:=exz ((w.alloc (.cells #[.int .i64 c,.int .i64 i,.int .i64 r,.int .i64 o,str k,str v,str ol] 30)).alloc (.cells #[.int .i64 0,str [],.int .i64 0] 33))
 rw[←hW,←hG] at HO
 have hdW:=h.fresh HO.out.fresh
 have HKA:=hdz (keyAt_any hdW k (by have:=hp.len;omega))
 have hlen:=hp.len
 obtain⟨n,hnn⟩:=exz (s.pairs.length)
 rw[←hnn] at hlen
 have hpr:=hdW.pr
 rw[←hnn] at hpr
 obtain⟨Ap,cp,rfl,-⟩:=own_rd hpr
 have x0:=hdW.three.1
 have ld:=hdW.blk.lt
 have hcm:=HO.out.cmd
 have k3:=hcm.cell 3;have k4:=hcm.cell 4;have k5:=hcm.cell 5;have k6:=hcm.cell 6
 simp at k3 k4 k5 k6
 have kl:=hcm.lt
 obtain⟨r0,r1,r2,s0,s1,s2,rl⟩:=res_facts HO.out.res
 have HA:=hdz (aiz hdW (aiz hX (aiz hp (aiz hB (aiz hT (aiz hnn hpr))))))
 clear h hdW hX hp hB hT hnn hcm hpr
 go_enter Tryz.func161,Tryz.ntmps161
 go_wp2_with fail
 simp only[←hG]
 rw[←hW]
 clear hW hG
 cases hpf:pfindD k s.pairs with
 | none=>
  rw[placeK_none (findK_none hpf)] at HKA
  have HPF:=hdz hpf
  clear hpf
  have HJ:=hdz (joins_any HA.out.1 k v (by have:=HA.out.2.2.1.len;omega) (lez HA.out.2.2.2.1 HO.out.fresh.size))
  have HE1:Hid (X=if o=1∨o=5 then (if 16≤n then (⟨4,[],0⟩,s) else (⟨1,if o=5 then v else [],0⟩,{ s with pairs:=insK Prod.fst (k,v) s.pairs })) else (⟨2,[],0⟩,s)):=hdz (by
   rw[HA.out.2.1]
   unfold onKeyD
   rw[HPF.out]
   simp only
   rw[pput_new HPF.out,HA.out.2.2.2.2.2.1])
  have hcs:(o=1∧16≤n)∨(o=1∧n<16)∨(o=5∧16≤n)∨(o=5∧n<16)∨(o≠1∧o≠5):=by omega
  rcases hcs with ⟨rfl,hn⟩ | ⟨rfl,hn⟩ | ⟨rfl,hn⟩ | ⟨rfl,hn⟩ | ⟨h1,h5⟩
  ·have HE:Hid (X=(⟨4,[],0⟩,s)):=hdz (by rw[HE1.out];simp;omega)
   have hni:(16:Int)≤(n:Int):=by omega
   clear HE1 HJ
   go_wp2_with fail
   refine Calls.mono HKA.out ?_
   rintro e _ ⟨rfl,rfl⟩
   go_wp2_with fail
   rw[HE.out]
   exact dop_ret (w:=w) rfl rfl rfl (HA.out.1.stay' HO.out.fresh) HO.out.res (by have:=HO.out.sz;omega)
  ·have HE:Hid (X=(⟨1,[],0⟩,{ s with pairs:=insK Prod.fst (k,v) s.pairs })):=hdz (by rw[HE1.out];simp;omega)
   have hni:(n:Int)<16:=by omega
   clear HE1
   go_wp2_with fail
   refine Calls.mono HKA.out ?_
   rintro e _ ⟨rfl,rfl⟩
   go_wp2_with fail
   refine Calls.mono HJ.out ?_
   rintro e w4 ⟨rfl,⟨pv4,F4,hd4,hF4⟩,hk4⟩
   have hGd:G≠d:=HO.out.cmd.ne HA.out.1.blk (by decide)
   have hRd:G+1≠d:=HO.out.res.ne HA.out.1.blk (by decide)
   have k3:=hk4.cellAt k3 hGd
   have k5:=hk4.cellAt k5 hGd
   have kl:=ltz kl hk4.size
   have hb4:=HO.out.res.keep hk4 hRd
   obtain⟨r0,r1,r2,s0,s1,s2,rl⟩:=res_facts hb4
   have hst:DStep B F w d { s with pairs:=insK Prod.fst (k,v) s.pairs } w4:=DStep.next (F1:=F) (w1:=W) ⟨⟨_,_,_,_,hd4,hF4⟩,hk4.weaken λj _ hj e=>hj (e ▸ HA.out.1.fd)⟩ (λj hj=>.inl hj) (HO.out.fresh.weaken λ_ _ _=>trivial)
   have H4:=hdz (aiz hst hb4)
   clear hd4 hF4 hk4 hb4 hst HJ HKA
   go_wp2_with fail
   rw[HE.out]
   exact dop_ret (w:=w) rfl rfl rfl H4.out.1 H4.out.2 (by have:=HO.out.sz;omega)
  ·have HE:Hid (X=(⟨4,[],0⟩,s)):=hdz (by rw[HE1.out];simp;omega)
   have hni:(16:Int)≤(n:Int):=by omega
   clear HE1 HJ
   go_wp2_with fail
   refine Calls.mono HKA.out ?_
   rintro e _ ⟨rfl,rfl⟩
   go_wp2_with fail
   rw[HE.out]
   exact dop_ret (w:=w) rfl rfl rfl (HA.out.1.stay' HO.out.fresh) HO.out.res (by have:=HO.out.sz;omega)
  ·have HE:Hid (X=(⟨1,v,0⟩,{ s with pairs:=insK Prod.fst (k,v) s.pairs })):=hdz (by rw[HE1.out];simp;omega)
   have hni:(n:Int)<16:=by omega
   clear HE1
   go_wp2_with fail
   refine Calls.mono HKA.out ?_
   rintro e _ ⟨rfl,rfl⟩
   go_wp2_with fail
   refine Calls.mono HJ.out ?_
   rintro e w4 ⟨rfl,⟨pv4,F4,hd4,hF4⟩,hk4⟩
   have hGd:G≠d:=HO.out.cmd.ne HA.out.1.blk (by decide)
   have hRd:G+1≠d:=HO.out.res.ne HA.out.1.blk (by decide)
   have k3:=hk4.cellAt k3 hGd
   have k5:=hk4.cellAt k5 hGd
   have kl:=ltz kl hk4.size
   have hb4:=HO.out.res.keep hk4 hRd
   obtain⟨r0,r1,r2,s0,s1,s2,rl⟩:=res_facts hb4
   have hst:DStep B F w d { s with pairs:=insK Prod.fst (k,v) s.pairs } w4:=DStep.next (F1:=F) (w1:=W) ⟨⟨_,_,_,_,hd4,hF4⟩,hk4.weaken λj _ hj e=>hj (e ▸ HA.out.1.fd)⟩ (λj hj=>.inl hj) (HO.out.fresh.weaken λ_ _ _=>trivial)
   have H4:=hdz (aiz hst hb4)
   clear hd4 hF4 hk4 hb4 hst HJ HKA
   go_wp2_with fail
   rw[HE.out]
   exact dop_ret (w:=w) rfl rfl rfl H4.out.1 H4.out.2 (by have:=HO.out.sz;omega)
  ·have HE:Hid (X=(⟨2,[],0⟩,s)):=hdz (by rw[HE1.out];simp;omega)
   have g1:(!(o==1))=true:=by simpa using h1
   have g5:(!(o==5))=true:=by simpa using h5
   have g2:(o==1)=false:=by simpa using h1
   have g6:(o==5)=false:=by simpa using h5
   have g7:(o != 1)=true:=by simpa using h1
   have g8:(o != 5)=true:=by simpa using h5
   clear HE1 HJ
   go_wp2_with fail
   refine Calls.mono HKA.out ?_
   rintro e _ ⟨rfl,rfl⟩
   go_wp2_with fail
   rw[HE.out]
   exact dop_ret (w:=w) rfl rfl rfl (HA.out.1.stay' HO.out.fresh) HO.out.res (by have:=HO.out.sz;omega)
 | some q=>
  obtain⟨i0,hi0,hix,hpl⟩:=placeK_find hpf
  rw[hpl] at HKA
  have hkq:=(findK_some hpf).1
  obtain⟨u,hu⟩:=exz (q.2)
  have hq:q=(k,u):=Prod.ext hkq hu.symm
  have hi1:i0<n:=by rw[HA.out.2.2.2.2.2.1];exact hi0
  have hii:(i0:Int)<(n:Int):=by omega
  obtain⟨g,cp2,e,-,hgl⟩:=own_form HA.out.2.2.2.2.2.2 (by omega)
  injection e with e1 e2 e3
  subst e1 e3
  obtain⟨hl,b,o0,e0,-,c0,c1⟩:=(Blk.rdOwn HA.out.2.2.2.2.2.2).pairE hi1
  injection e0 with e0
  injection e0 with e0 e00
  subst e0 e00
  rw[hix,hq,Nat.zero_add] at c0 c1
  simp only at c0 c1
  have f1:=own_frozen HA.out.2.2.2.2.2.2 (g:=g) (i0*2+1) (by simp[Value.ownBlock])
  have hps:s.pairs[i0]=(k,u):=hix.trans hq
  have hput:∀v',pputD k v' s.pairs=s.pairs.set i0 (k,v'):=λv'=>by
   have h1:=pput_at HA.out.2.2.1.rise hi0 v'
   rw[hps] at h1
   exact h1
  have hdel:delK Prod.fst k s.pairs=s.pairs.eraseIdx i0:=by
   have h1:=delK_at HA.out.2.2.1.rise hi0
   rw[hps] at h1
   exact h1
  have HE1:Hid (X=(if o=1 then (⟨1,u,1⟩,{ s with pairs:=s.pairs.set i0 (k,v) })
   else if o=3 then (if u=ol then (⟨1,u,1⟩,{ s with pairs:=s.pairs.set i0 (k,v) }) else (⟨3,u,1⟩,s))
   else if o=4 then (⟨1,u,1⟩,{ s with pairs:=s.pairs.eraseIdx i0 })
   else if o=5 then (if (numb u).2=false then (⟨5,u,1⟩,s) else if 8<(Lib.itoa ((numb u).1+(numb v).1)).length then (⟨6,u,1⟩,s) else (⟨1,Lib.itoa ((numb u).1+(numb v).1),1⟩,{ s with pairs:=s.pairs.set i0 (k,Lib.itoa ((numb u).1+(numb v).1)) }))
   else (⟨1,u,1⟩,s))):=hdz (by
   rw[HA.out.2.1]
   unfold onKeyD
   rw[hpf,hq]
   simp only[hput,hdel])
  have HSet:Hid (∀w2 v',Fresh W w2→DAt B F (w2.setCell ⟨g,i0*2+1,none⟩ (str v')) d (.slice (some ⟨g,0,none⟩) n cp) hv hs { s with pairs:=s.pairs.set i0 (k,v') }∧Keep (λj=>¬F j) w (w2.setCell ⟨g,i0*2+1,none⟩ (str v'))):=hdz λw2 v' hf=>by
   have h1:=(HA.out.1.fresh hf).setVal hi0 (g:=g) (by simp[Value.ownBlock]) v'
   rw[hps] at h1
   refine⟨h1,((HO.out.fresh.then hf).weaken λ_ _ _=>trivial).setCell (λ_ h=>h (HA.out.1.fp g (by simp[Value.ownBlock]))) _⟩
  have hgd:d≠g:=λe=>own_ne_blk HA.out.1.pr HA.out.1.blk (by decide) (by simp[Value.ownBlock,e])
  have hgG:G≠g:=λe=>own_ne_blk HA.out.1.pr HO.out.cmd (by decide) (by simp[Value.ownBlock,e])
  have hgR:G+1≠g:=λe=>own_ne_blk HA.out.1.pr HO.out.res (by decide) (by simp[Value.ownBlock,e])
  clear hput hdel hq hkq hu hix hpl hpf
  have hcs:o=1∨o=2∨o=3∨o=4∨o=5:=by omega
  rcases hcs with rfl | rfl | rfl | rfl | rfl
  ·have HE:Hid (X=(⟨1,u,1⟩,{ s with pairs:=s.pairs.set i0 (k,v) })):=hdz (by rw[HE1.out];simp)
   clear HE1
   go_wp2_with fail
   refine Calls.mono HKA.out ?_
   rintro e _ ⟨rfl,rfl⟩
   have HK:Hid (∀w',Keep (λj=>j≠g) W w'→w'.cell? ⟨d,0,none⟩=some (.slice (some ⟨g,0,none⟩) n cp)∧w'.cell? ⟨G,5,none⟩=some (str v)):=hdz λw' hk=>⟨hk.cellAt x0 hgd,hk.cellAt k5 hgG⟩
   have h2:DAt B F (World.drew (W.setCell ⟨g,i0*2+1,none⟩ (str v))) d (.slice (some ⟨g,0,none⟩) n cp) hv hs { s with pairs:=s.pairs.set i0 (k,v) }∧Keep (λj=>¬F j) w (World.drew (W.setCell ⟨g,i0*2+1,none⟩ (str v))):=⟨(HSet.out W v (krz _ W)).1.fresh ((krz _ _).drew),(HSet.out W v (krz _ W)).2.drew⟩
   obtain⟨w6,hw6⟩:=exz (World.drew (W.setCell ⟨g,i0*2+1,none⟩ (str v)))
   have hb6:Blk w6 (G+1) 33 (resA ⟨0,[],0⟩):=by rw[hw6];exact HO.out.res.keep (((krz (λj=>j≠g) W).setCell (λ_ h=>h rfl) _).drew) hgR
   rw[←hw6] at h2
   have H4:=hdz (aiz h2 hb6)
   have HR6:=hdz (res_facts hb6)
   have HW6:=hdz hw6
   clear h2 hb6 hw6
   go_upto_region 14 with (fail)
   go_region_held3 (λw'=>w'.cell? ⟨d,0,none⟩=some (.slice (some ⟨g,0,none⟩) n cp)∧w'.cell? ⟨G,5,none⟩=some (str v))
    (first | exact HK.out _ ((krz _ W).drew) | exact HK.out _ (((krz _ W).drew).setCell (λ_ h=>h rfl) _))
    (fail)
   generalize hwN:World.drew _=wN
   obtain rfl:w6=wN:=HW6.out.trans hwN
   clear hwN
   clear r0 r1 r2 s0 s1 s2 rl
   obtain⟨r0,r1,r2,s0,s1,s2,rl⟩:=HR6.out
   go_wp2_with fail
   rw[HE.out]
   exact dop_ret (w:=w) rfl rfl rfl ⟨⟨_,_,_,_,H4.out.1.1,λj hj=>.inl hj⟩,H4.out.1.2⟩ H4.out.2 (by have:=HO.out.sz;omega)
  ·have HE:Hid (X=(⟨1,u,1⟩,s)):=hdz (by rw[HE1.out];simp)
   clear HE1
   go_wp2_with fail
   refine Calls.mono HKA.out ?_
   rintro e _ ⟨rfl,rfl⟩
   go_wp2_with fail
   rw[HE.out]
   exact dop_ret (w:=w) rfl rfl rfl (HA.out.1.stay' HO.out.fresh) HO.out.res (by have:=HO.out.sz;omega)
  ·by_cases he:u=ol
   ·subst he
    have HE:Hid (X=(⟨1,u,1⟩,{ s with pairs:=s.pairs.set i0 (k,v) })):=hdz (by rw[HE1.out];simp)
    clear HE1
    go_wp2_with fail
    refine Calls.mono HKA.out ?_
    rintro e _ ⟨rfl,rfl⟩
    have HK:Hid (∀w',Keep (λj=>j≠g) W w'→w'.cell? ⟨d,0,none⟩=some (.slice (some ⟨g,0,none⟩) n cp)∧w'.cell? ⟨G,5,none⟩=some (str v)):=hdz λw' hk=>⟨hk.cellAt x0 hgd,hk.cellAt k5 hgG⟩
    have h2:DAt B F (World.drew (W.setCell ⟨g,i0*2+1,none⟩ (str v))) d (.slice (some ⟨g,0,none⟩) n cp) hv hs { s with pairs:=s.pairs.set i0 (k,v) }∧Keep (λj=>¬F j) w (World.drew (W.setCell ⟨g,i0*2+1,none⟩ (str v))):=⟨(HSet.out W v (krz _ W)).1.fresh ((krz _ _).drew),(HSet.out W v (krz _ W)).2.drew⟩
    obtain⟨w6,hw6⟩:=exz (World.drew (W.setCell ⟨g,i0*2+1,none⟩ (str v)))
    have hb6:Blk w6 (G+1) 33 (resA ⟨0,[],0⟩):=by rw[hw6];exact HO.out.res.keep (((krz (λj=>j≠g) W).setCell (λ_ h=>h rfl) _).drew) hgR
    rw[←hw6] at h2
    have H4:=hdz (aiz h2 hb6)
    have HR6:=hdz (res_facts hb6)
    have HW6:=hdz hw6
    clear h2 hb6 hw6
    go_upto_region 18 with (fail)
    go_region_held3 (λw'=>w'.cell? ⟨d,0,none⟩=some (.slice (some ⟨g,0,none⟩) n cp)∧w'.cell? ⟨G,5,none⟩=some (str v))
     (first | exact HK.out _ ((krz _ W).drew) | exact HK.out _ (((krz _ W).drew).setCell (λ_ h=>h rfl) _))
     (fail)
    generalize hwN:World.drew _=wN
    obtain rfl:w6=wN:=HW6.out.trans hwN
    clear hwN
    clear r0 r1 r2 s0 s1 s2 rl
    obtain⟨r0,r1,r2,s0,s1,s2,rl⟩:=HR6.out
    go_wp2_with fail
    rw[HE.out]
    exact dop_ret (w:=w) rfl rfl rfl ⟨⟨_,_,_,_,H4.out.1.1,λj hj=>.inl hj⟩,H4.out.1.2⟩ H4.out.2 (by have:=HO.out.sz;omega)
   ·have HE:Hid (X=(⟨3,u,1⟩,s)):=hdz (by rw[HE1.out];simp[he])
    have hb:(!(u==ol))=true:=by simpa using he
    clear HE1
    go_wp2_with fail
    refine Calls.mono HKA.out ?_
    rintro e _ ⟨rfl,rfl⟩
    go_wp2_with fail
    rw[HE.out]
    exact dop_ret (w:=w) rfl rfl rfl (HA.out.1.stay' HO.out.fresh) HO.out.res (by have:=HO.out.sz;omega)
  ·have HE:Hid (X=(⟨1,u,1⟩,{ s with pairs:=s.pairs.eraseIdx i0 })):=hdz (by rw[HE1.out];simp)
   clear HE1
   go_wp2_with fail
   refine Calls.mono HKA.out ?_
   rintro e _ ⟨rfl,rfl⟩
   go_wp2_with fail
   go_loopw [7,8] (λv7 iv wr=>∃j:Nat,j≤n∧iv=.int .i64 (j:Int)∧Hid (wr.ownsRow W.heap.size 71 2 v7 ((s.pairs.take j).eraseIdx i0).length (pcells ((s.pairs.take j).eraseIdx i0))∧Fresh W wr)) (λ_ i _=>n - (intOf i).toNat)
   case atStart=>exact⟨0,by omega,rfl,hdz ⟨by exact onz _ _ _ _,krz _ _⟩⟩
   case round=>
    rename World=>wr
    obtain⟨j,hj,rfl,HR⟩:=hrel
    have hfr:=HR.out.2
    have x0:=hfr.cellAt x0 trivial
    have ldr:=ltz ld hfr.size
    by_cases hlt:j<n
    ·obtain⟨hjl,b8,o8,e8,-,d0,d1⟩:=(Blk.rdOwn HA.out.2.2.2.2.2.2).pairE hlt
     injection e8 with e8
     injection e8 with e8 e80
     subst e8 e80
     rw[Nat.zero_add] at d0 d1
     obtain⟨⟨kk,vv⟩,hy⟩:∃y,y=s.pairs[j]:=⟨_,rfl⟩
     rw[←hy] at d0 d1
     simp only at d0 d1
     have d0:=hfr.cellAt d0 trivial
     have d1:=hfr.cellAt d1 trivial
     have lg:=lt_of_cell d0
     have hji:(j:Int)<(n:Int):=by omega
     by_cases hij:j=i0
     ·subst hij
      have HT:Hid ((s.pairs.take (j+1)).eraseIdx j=(s.pairs.take j).eraseIdx j):=hdz (erase_skip hjl)
      clear hy hjl hfr
      go_wp2_with fail
      exact⟨⟨j+1,by omega,by simp,hdz ⟨by rw[HT.out];exact HR.out.1,HR.out.2⟩⟩,by simp only[intOf];omega⟩
     ·have HT:Hid ((s.pairs.take (j+1)).eraseIdx i0=(s.pairs.take j).eraseIdx i0++[(kk,vv)]):=hdz (by rw[erase_step hjl hij,←hy])
      have HLn:Hid (((s.pairs.take j).eraseIdx i0).length≤100):=hdz (by
       have:=List.length_eraseIdx_le (s.pairs.take j) i0
       have:=List.length_take_le j s.pairs
       have:=List.length_take (l:=s.pairs) (i:=j)
       omega)
      have hb:(!((j:Int)==(i0:Int)))=true:=by simp;omega
      clear hy hjl hfr
      go_wp2_with (at_builtin;refine wpList_appB etPair rfl (.tmp 100) (.tmp 108) rfl #[str kk,str vv] 71 rfl (pair_one kk vv) W.heap.size _ _ _ wr.heap.size rfl rfl rfl HR.out.1 (by have:=HLn.out;omega) HR.out.2.size ?_)
      intro v5 w5 ho5 hk5 hn5
      have H5:Hid (w5.ownsRow W.heap.size 71 2 v5 ((s.pairs.take (j+1)).eraseIdx i0).length (pcells ((s.pairs.take (j+1)).eraseIdx i0))∧Fresh W w5):=hdz ⟨by
       rw[HT.out]
       simpa[pcells,rcells_append,rcells_cons,rcells_nil,pairC] using ho5,HR.out.2.comp hk5 (λ_ _ h=>h) (λi hi _ e=>by have:=(own_lt HR.out.1 e).1;omega)⟩
      clear ho5 hk5 hn5
      go_wp2_with fail
      exact⟨⟨j+1,by omega,by simp,H5⟩,by simp only[intOf];omega⟩
    ·obtain rfl:n=j:=by omega
     have hall:s.pairs.take n=s.pairs:=List.take_of_length_le (by rw[HA.out.2.2.2.2.2.1];exact lrz _)
     have ho:=HR.out.1
     rw[hall] at ho
     obtain⟨A5,c5,rfl,-⟩:=own_rd ho
     have hD:=HA.out.1.setPairs hfr (lez HA.out.2.2.2.1 HO.out.fresh.size) ho
     have z0:=(HA.out.1.fresh hfr).blk.frozen 0
     have hRd:G+1≠d:=HO.out.res.ne HA.out.1.blk (by decide)
     have hb5:=(HO.out.res.keep hfr trivial).far (p:=⟨d,0,none⟩) hRd (.slice A5 (s.pairs.eraseIdx i0).length c5)
     have hst:DStep B F w d { s with pairs:=s.pairs.eraseIdx i0 } (wr.setCell ⟨d,0,none⟩ (.slice A5 (s.pairs.eraseIdx i0).length c5)):=⟨⟨_,_,_,_,hD,λj hj=>hj.imp id λe=>by have:=(own_lt ho e).1;have:=HO.out.fresh.size;omega⟩,((HO.out.fresh.then hfr).weaken λ_ _ _=>trivial).setCell (λ_ h=>h HA.out.1.fd) _⟩
     obtain⟨w6,hw6⟩:=exz (wr.setCell ⟨d,0,none⟩ (.slice A5 (s.pairs.eraseIdx i0).length c5))
     rw[←hw6] at hb5 hst
     obtain⟨r0,r1,r2,s0,s1,s2,rl⟩:=res_facts hb5
     have H4:=hdz (aiz hst hb5)
     clear hall ho hD hfr hst hb5
     go_upto_region 36 with (fail)
     rw[←hw6]
     clear hw6
     go_wp2_with fail
     rw[HE.out]
     exact dop_ret (w:=w) rfl rfl rfl H4.out.1 H4.out.2 (by have:=HO.out.sz;omega)
  ·have hvn:=rnum_numb (hv5 rfl)
   have HN1:=hdz (rnumber_any u W)
   have HN2:=hdz (rnumber_any v W)
   rw[hvn] at HN2
   have hr1:rnum u=(if (numb u).2=true then (numb u).1 else 0,(numb u).2):=rnum_eq u
   rw[hr1] at HN1
   have hb1:=numb_bound u
   have hb2:=numb_bound v
   obtain⟨na,hna⟩:∃x,x=(numb u).1:=⟨_,rfl⟩
   obtain⟨nb,hnb⟩:∃x,x=(numb v).1:=⟨_,rfl⟩
   obtain⟨fa,hfa⟩:∃x,x=(numb u).2:=⟨_,rfl⟩
   rw[←hna] at hb1
   rw[←hnb] at hb2
   rw[←hna,←hfa] at HN1
   rw[←hnb] at HN2
   rw[←hna,←hnb,←hfa] at HE1
   clear hvn hr1 hna hnb hfa hv5
   cases fa
   ·have HE:Hid (X=(⟨5,u,1⟩,s)):=hdz (by rw[HE1.out];simp)
    clear HE1
    go_wp2_with fail
    refine Calls.mono HKA.out ?_
    rintro e _ ⟨rfl,rfl⟩
    go_wp2_with fail
    refine Calls.mono HN1.out ?_
    rintro e _ ⟨rfl,rfl⟩
    go_wp2_with fail
    refine Calls.mono HN2.out ?_
    rintro e _ ⟨rfl,rfl⟩
    go_wp2_with fail
    rw[HE.out]
    exact dop_ret (w:=w) rfl rfl rfl (HA.out.1.stay' HO.out.fresh) HO.out.res (by have:=HO.out.sz;omega)
   ·have hwr:IntKind.i64.wrap (na+nb)=na+nb:=by rw[IntKind.wrap_i64];omega
    have hit:=itoa_long (na+nb)
    by_cases hov:na+nb < -9999999∨99999999<na+nb
    ·have HE:Hid (X=(⟨6,u,1⟩,s)):=hdz (by rw[HE1.out];simp[hit.2 hov])
     clear HE1 hit
     have hcs:na+nb < -9999999∨(¬na+nb < -9999999∧99999999<na+nb):=by omega
     rcases hcs with h1 | ⟨h1,h2⟩
     all_goals
      go_wp2_with fail
      refine Calls.mono HKA.out ?_
      rintro e _ ⟨rfl,rfl⟩
      go_wp2_with fail
      refine Calls.mono HN1.out ?_
      rintro e _ ⟨rfl,rfl⟩
      go_wp2_with fail
      refine Calls.mono HN2.out ?_
      rintro e _ ⟨rfl,rfl⟩
      go_wp2_with fail
      rw[HE.out]
      exact dop_ret (w:=w) rfl rfl rfl (HA.out.1.stay' HO.out.fresh) HO.out.res (by have:=HO.out.sz;omega)
    ·obtain⟨tx,htx⟩:=exz (Lib.itoa (na+nb))
     have HE:Hid (X=(⟨1,tx,1⟩,{ s with pairs:=s.pairs.set i0 (k,tx) })):=hdz (by rw[HE1.out,if_neg (by decide),if_neg (by decide),if_neg (by decide),if_pos rfl,if_neg (by simp),if_neg (λh=>hov (hit.1 h)),htx])
     have HIt:=hdz (fun (w':World) (hf:Fresh W w')=>itoa_any (na+nb) (by omega) (by omega) w' (HA.out.2.2.2.2.1 w' ((HO.out.fresh.then hf).weaken λ_ _ _=>trivial)))
     rw[←htx] at HIt
     have HTx:=hdz htx
     have h1:¬na+nb < -9999999:=by omega
     have h2:¬99999999<na+nb:=by omega
     clear HE1 hit htx hov
     go_wp2_with fail
     refine Calls.mono HKA.out ?_
     rintro e _ ⟨rfl,rfl⟩
     go_wp2_with fail
     refine Calls.mono HN1.out ?_
     rintro e _ ⟨rfl,rfl⟩
     go_wp2_with fail
     refine Calls.mono HN2.out ?_
     rintro e _ ⟨rfl,rfl⟩
     go_upto_region 34 with (fail)
     go_cut [] (λwz=>Hid (∃w2,Fresh W w2∧wz=w2.setCell ⟨g,i0*2+1,none⟩ (str tx)))
     case first=>
      have HK:Hid (∀w',Keep (λj=>j≠g) W w'→w'.cell? ⟨d,0,none⟩=some (.slice (some ⟨g,0,none⟩) n cp)):=hdz λw' hk=>hk.cellAt x0 hgd
      have hd0:Hid (Fresh W W.drew):=hdz ((krz _ W).drew)
      go_region_held3 (λw'=>w'.cell? ⟨d,0,none⟩=some (.slice (some ⟨g,0,none⟩) n cp))
       (first | exact HK.out _ ((krz _ W).drew) | exact HK.out _ (hfa.weaken λ_ _ _=>trivial) | exact HK.out _ ((hfa.weaken λ_ _ _=>trivial).setCell (λ_ h=>h rfl) _))
       (first
        | (go_at_call 119;(with_reducible refine Calls.mono (HIt.out _ hd0.out) ?_);rintro e wa ⟨rfl,hfb⟩;have hfa:=hd0.out.then hfb;have c1a:=hfa.cellAt c1 trivial;have f1a:=(hfa.frozen (p:=⟨g,i0*2+1,none⟩) (lt_of_cell c1) trivial).trans f1;have lga:=lt_of_cell c1a))
      all_goals
       go_wp2_with fail
       go_meet
       exact hdz ⟨_,hfa,rfl⟩
     case rest=>
     rename World=>wz
     obtain⟨w2,hf2,hwz⟩:=hcut.out
     have hk2:Keep (λj=>j≠g) W wz:=by rw[hwz];exact (hf2.weaken λ_ _ _=>trivial).setCell (λ_ h=>h rfl) _
     have h2:=HSet.out w2 tx hf2
     rw[←hwz] at h2
     have HIt2:=hdz (itoa_any (na+nb) (by omega) (by omega) wz (HA.out.2.2.2.2.1 wz h2.2))
     rw[←HTx.out] at HIt2
     have hbz:=HO.out.res.keep hk2 hgR
     have HZ:=hdz (aiz h2 hbz)
     clear h2 hbz hk2 hcut hwz
     go_wp2_with fail
     refine Calls.mono HIt2.out ?_
     rintro e w7 ⟨rfl,hf7⟩
     have hb7:=HZ.out.2.keep hf7 trivial
     obtain⟨r0,r1,r2,s0,s1,s2,rl⟩:=res_facts hb7
     have hst:DStep B F w d { s with pairs:=s.pairs.set i0 (k,tx) } w7:=DStep.fresh ⟨⟨_,_,_,_,HZ.out.1.1,λj hj=>.inl hj⟩,HZ.out.1.2⟩ hf7
     have H4:=hdz (aiz hst hb7)
     clear hst hb7 hf7
     go_wp2_with fail
     rw[HE.out]
     exact dop_ret (w:=w) rfl rfl rfl H4.out.1 H4.out.2 (by have:=HO.out.sz;omega)
theorem pair_erase {α:Type}{R:α→α→Prop}{l:List α}(h:l.Pairwise R)(i:Nat):(l.eraseIdx i).Pairwise R:=h.sublist (List.eraseIdx_sublist l i)
theorem map_erase {α β:Type}(f:α→β)(l:List α)(i:Nat):(l.eraseIdx i).map f=(l.map f).eraseIdx i:=by
 rw[List.eraseIdx_eq_take_drop_succ,List.eraseIdx_eq_take_drop_succ,List.map_append,List.map_take,List.map_drop]
def PassPost (B:Nat)(F:Nat→Prop)(w:World)(d:Nat)(pv:Value)(P:Int×StD)(e:Ending)(w':World):Prop:=
 e=.returned (.int .i64 P.1)∧(∃hv' hs' F',DAt B F' w' d pv hv' hs' P.2∧∀j,F' j→F j∨w.heap.size≤j)∧Keep (λj=>¬F j) w w'
theorem passed_any {B:Nat} {F:Nat→Prop} {w:World} {d:Nat} {pv hv:Value} {hs:List DLk} {s:StD} (h:DAt B F w d pv hv hs s) (hi:LInv s.locks s.tok) {i:Nat} (hl:i<s.locks.length) (hB:B≤w.heap.size) :
 Calls Tryz.prog 159 #[.pointer (some ⟨d,0,none⟩),.int .i64 (i:Int)] w (PassPost B F w d pv (passD s.locks[i].name s)):=by
 have hn:=hi.len
 have hpa:=pass_at hi.rise hl
 obtain⟨P,hP⟩:=exz (passD s.locks[i].name s)
 rw[←hP] at hpa ⊢
 clear hP
 obtain⟨n,hnn⟩:=exz (s.locks.length)
 obtain⟨tk,htk⟩:∃t,t=s.tok:=⟨_,rfl⟩
 have hlen:=h.hlen
 have hih:i<hs.length:=by omega
 have hdi:hs[i].d=s.locks[i]:=by
  have h2:=h.ds
  have h3:(hs.map DLk.d)[i]'(by simpa using hih)=hs[i].d:=by simp
  rw[←h3]
  exact List.getElem_of_eq h2 _
 rw[←hdi] at hpa
 have hlk:=h.lk
 rw[←hnn] at hlk hl hn hlen
 obtain⟨g,cc,rfl,hbg,hgl⟩:=own_form hlk (by omega)
 have hrd:Rd w (λk=>k=g) 4 (some ⟨g,0,none⟩) n (rcells DLk.cells hs):=Blk.rdOwn hlk
 have hone:=h.one (List.getElem_mem hih)
 have hown:=h.qs _ (List.getElem_mem hih)
 obtain⟨x,hx⟩:=exz (hs[i])
 have hqi:=queue_len (hi.each _ (List.getElem_mem (by rw[←hnn];exact hl))).nd (hi.each _ (List.getElem_mem (by rw[←hnn];exact hl))).q
 rw[←hdi] at hqi
 rw[←hx] at hone hown hpa hqi
 obtain⟨_,b0,o0,e0,-,c0,c1,c2,c3⟩:=hrd.lockE hl
 injection e0 with e0
 injection e0 with e0 e00
 subst e0 e00
 rw[←hx] at c0 c1 c2 c3
 obtain⟨⟨nm,ho,t0,q⟩,qv⟩:=x
 simp only at hone hown c0 c1 c2 c3 hpa hqi
 rw[Nat.zero_add] at c0 c1 c2 c3
 obtain⟨Aq,cq,rfl,hcq,hrq,-⟩:=own_rdc hown
 obtain⟨nq,hnq⟩:=exz (q.length)
 rw[←hnq] at hcq hrq hqi c3
 have x1:=h.three.2.1
 have x2:=h.three.2.2
 rw[←htk] at x2 hpa
 have ld:=h.blk.lt
 have hii:(i:Int)<(n:Int):=by omega
 have htk0:=hi.tok0
 have htk1:=hi.tok1
 rw[←htk] at htk0 htk1
 have HA:=hdz (aiz h (aiz hi (aiz hlk (aiz hrd (aiz hrq (aiz hx (aiz hpa (aiz hB (aiz hlen (aiz htk (aiz hnn (aiz hnq hown))))))))))))
 have HRow:=hdz (aiz c0 (aiz c1 (aiz c2 c3)))
 clear h hi hlk hrd hrq hx hpa hB hdi htk hnn hnq hown hlen hone
 go_enter Tryz.func159,Tryz.ntmps159
 go_wp2_with (refine wpList_store_new rfl (.tmp 5) (.tmp 16) rfl _ #[str nm,.int .i64 ho,.int .i64 t0,.slice Aq nq cq] _ rfl rfl rfl (by kernel_rfl) (lockA_one _ _ _ _ rfl) ?_)
 intro w1 hb1 hf1 hs1
 obtain⟨g5,hg5⟩:∃g,g=w.heap.size:=⟨_,rfl⟩
 rw[←hg5] at hb1 ⊢
 have k0:=hb1.cell 0;have k3:=hb1.cell 3
 simp at k0 k3
 have l5:=hb1.lt
 have x1:=hf1.cellAt x1 trivial
 have x2:=hf1.cellAt x2 trivial
 have ld:=ltz ld hf1.size
 have H1:=hdz (aiz hf1 (aiz hb1 hg5))
 clear hb1 hf1 hs1 hg5 c0 c1 c2 c3
 have hcs:nq=0∨(0<nq∧99999999≤tk)∨(0<nq∧tk<99999999):=by omega
 rcases hcs with hq | ⟨hq,ht⟩ | ⟨hq,ht⟩
 ·subst hq
  have HP:Hid (P=(0,{ s with locks:=s.locks.eraseIdx i })):=hdz (by
   have h1:=HA.out.2.2.2.2.2.2.1
   have h2:=HA.out.2.2.2.2.2.2.2.2.2.2.2.1
   rw[h1]
   have h3:tk=s.tok:=HA.out.2.2.2.2.2.2.2.2.2.1
   obtain rfl:q=[]:=List.eq_nil_of_length_eq_zero h2.symm
   simp only
   rw[h3])
  go_wp2_with fail
  go_loopw [8,9] (λv8 iv wr=>∃j:Nat,j≤n∧iv=.int .i64 (j:Int)∧Hid (wr.ownsRow w1.heap.size 157 4 v8 ((hs.take j).eraseIdx i).length (rcells DLk.cells ((hs.take j).eraseIdx i))∧Fresh w1 wr)) (λ_ i _=>n - (intOf i).toNat)
  case atStart=>exact⟨0,by omega,rfl,hdz ⟨by exact onz _ _ _ _,krz _ _⟩⟩
  case round=>
   rename World=>wr
   obtain⟨j,hj,rfl,HR⟩:=hrel
   have hfr:=H1.out.1.then HR.out.2
   have x1:=HR.out.2.cellAt x1 trivial
   have ldr:=ltz ld HR.out.2.size
   by_cases hlt:j<n
   ·obtain⟨hjl,b8,o8,e8,-,d0,d1,d2,d3⟩:=HA.out.2.2.2.1.lockE hlt
    injection e8 with e8
    injection e8 with e8 e80
    subst e8 e80
    rw[Nat.zero_add] at d0 d1 d2 d3
    have hone:=HA.out.1.one (List.getElem_mem hjl)
    obtain⟨y,hy⟩:=exz (hs[j])
    rw[←hy] at d0 d1 d2 d3 hone
    obtain⟨⟨en,eh,et,eqq⟩,eq⟩:=y
    simp only at d0 d1 d2 d3 hone
    have d0:=hfr.cellAt d0 trivial
    have d1:=hfr.cellAt d1 trivial
    have d2:=hfr.cellAt d2 trivial
    have d3:=hfr.cellAt d3 trivial
    have lg:=lt_of_cell d0
    have hji:(j:Int)<(n:Int):=by omega
    by_cases hij:j=i
    ·subst hij
     have HT:Hid ((hs.take (j+1)).eraseIdx j=(hs.take j).eraseIdx j):=hdz (erase_skip hjl)
     clear hy hjl hone hfr
     go_wp2_with fail
     exact⟨⟨j+1,by omega,by simp,hdz ⟨by rw[HT.out];exact HR.out.1,HR.out.2⟩⟩,by simp only[intOf];omega⟩
    ·have HT:Hid ((hs.take (j+1)).eraseIdx i=(hs.take j).eraseIdx i++[⟨⟨en,eh,et,eqq⟩,eq⟩]):=hdz (by rw[erase_step hjl hij,←hy])
     have HLn:Hid (((hs.take j).eraseIdx i).length≤100):=hdz (by
      have:=List.length_eraseIdx_le (hs.take j) i
      have:=List.length_take_le j hs
      omega)
     have hb:(!((j:Int)==(i:Int)))=true:=by simp;omega
     clear hy hjl hfr
     go_wp2_with (at_builtin;refine wpList_appB etLock rfl (.tmp 84) (.tmp 92) rfl #[str en,.int .i64 eh,.int .i64 et,eq] 157 rfl (lockL_one _ _ _ _ hone) w1.heap.size _ _ _ wr.heap.size rfl rfl rfl HR.out.1 (by have:=HLn.out;omega) HR.out.2.size ?_)
     intro v5 w5 ho5 hk5 hn5
     have H5:Hid (w5.ownsRow w1.heap.size 157 4 v5 ((hs.take (j+1)).eraseIdx i).length (rcells DLk.cells ((hs.take (j+1)).eraseIdx i))∧Fresh w1 w5):=hdz ⟨by
      rw[HT.out]
      simpa[rcells_append,rcells_cons,rcells_nil,DLk.cells] using ho5,HR.out.2.comp hk5 (λ_ _ h=>h) (λi hi _ e=>by have:=(own_lt HR.out.1 e).1;omega)⟩
     clear ho5 hk5 hn5
     go_wp2_with fail
     exact⟨⟨j+1,by omega,by simp,H5⟩,by simp only[intOf];omega⟩
   ·obtain rfl:n=j:=by omega
    have hall:hs.take n=hs:=List.take_of_length_le (by rw[HA.out.2.2.2.2.2.2.2.2.1];exact lrz _)
    have ho:=HR.out.1
    rw[hall] at ho
    have hd:(hs.eraseIdx i).map DLk.d=s.locks.eraseIdx i:=by rw[map_erase,HA.out.1.ds]
    have hle:(hs.eraseIdx i).length=(s.locks.eraseIdx i).length:=by rw[←hd,List.length_map]
    rw[hle] at ho
    have hsub:∀y∈hs.eraseIdx i,y∈hs:=λy hy=>(List.eraseIdx_sublist hs i).subset hy
    have hD:=HA.out.1.setLocks hfr (lez HA.out.2.2.2.2.2.2.2.1 H1.out.1.size) ho hd (λy hy=>own_keep (HA.out.1.qs y (hsub y hy)) hfr λ_ _=>trivial) (pair_erase HA.out.1.ap i)
    obtain⟨A5,c5,rfl,-⟩:=own_rd ho
    have z1:=(HA.out.1.fresh hfr).blk.frozen 1
    have hpost:PassPost B F w d pv (0,{ s with locks:=s.locks.eraseIdx i }) (.returned (.int .i64 0)) (wr.setCell ⟨d,1,none⟩ (.slice A5 (s.locks.eraseIdx i).length c5)):=⟨rfl,⟨_,_,_,hD,λj hj=>by
     rcases hj with hj | hj | ⟨y,hy,hj⟩
     ·exact .inl hj
     ·exact .inr (lez H1.out.1.size (own_lt ho hj).1)
     ·exact .inl (HA.out.1.fq y (hsub y hy) j hj)⟩,(hfr.weaken λ_ _ _=>trivial).setCell (λ_ h=>h HA.out.1.fd) _⟩
    have HPo:=hdz hpost
    clear hall ho hd hle hsub hD hpost hfr
    go_wp2_with fail
    go_ret
    rw[HP.out]
    exact HPo.out
 ·have hqi2:(0:Int)<(nq:Int):=by omega
  have HP:Hid (P=(0,{ s with locks:=s.locks.eraseIdx i })):=hdz (by
   have h1:=HA.out.2.2.2.2.2.2.1
   have h2:=HA.out.2.2.2.2.2.2.2.2.2.2.2.1
   rw[h1]
   obtain⟨qc,qs,rfl⟩:∃a b,q=a::b:=by
    cases q
    ·simp at h2;omega
    ·exact⟨_,_,rfl⟩
   have h3:tk=s.tok:=HA.out.2.2.2.2.2.2.2.2.2.1
   simp only
   rw[if_pos ht,h3])
  go_wp2_with fail
  go_loopw [8,9] (λv8 iv wr=>∃j:Nat,j≤n∧iv=.int .i64 (j:Int)∧Hid (wr.ownsRow w1.heap.size 157 4 v8 ((hs.take j).eraseIdx i).length (rcells DLk.cells ((hs.take j).eraseIdx i))∧Fresh w1 wr)) (λ_ i _=>n - (intOf i).toNat)
  case atStart=>exact⟨0,by omega,rfl,hdz ⟨by exact onz _ _ _ _,krz _ _⟩⟩
  case round=>
   rename World=>wr
   obtain⟨j,hj,rfl,HR⟩:=hrel
   have hfr:=H1.out.1.then HR.out.2
   have x1:=HR.out.2.cellAt x1 trivial
   have ldr:=ltz ld HR.out.2.size
   by_cases hlt:j<n
   ·obtain⟨hjl,b8,o8,e8,-,d0,d1,d2,d3⟩:=HA.out.2.2.2.1.lockE hlt
    injection e8 with e8
    injection e8 with e8 e80
    subst e8 e80
    rw[Nat.zero_add] at d0 d1 d2 d3
    have hone:=HA.out.1.one (List.getElem_mem hjl)
    obtain⟨y,hy⟩:=exz (hs[j])
    rw[←hy] at d0 d1 d2 d3 hone
    obtain⟨⟨en,eh,et,eqq⟩,eq⟩:=y
    simp only at d0 d1 d2 d3 hone
    have d0:=hfr.cellAt d0 trivial
    have d1:=hfr.cellAt d1 trivial
    have d2:=hfr.cellAt d2 trivial
    have d3:=hfr.cellAt d3 trivial
    have lg:=lt_of_cell d0
    have hji:(j:Int)<(n:Int):=by omega
    by_cases hij:j=i
    ·subst hij
     have HT:Hid ((hs.take (j+1)).eraseIdx j=(hs.take j).eraseIdx j):=hdz (erase_skip hjl)
     clear hy hjl hone hfr
     go_wp2_with fail
     exact⟨⟨j+1,by omega,by simp,hdz ⟨by rw[HT.out];exact HR.out.1,HR.out.2⟩⟩,by simp only[intOf];omega⟩
    ·have HT:Hid ((hs.take (j+1)).eraseIdx i=(hs.take j).eraseIdx i++[⟨⟨en,eh,et,eqq⟩,eq⟩]):=hdz (by rw[erase_step hjl hij,←hy])
     have HLn:Hid (((hs.take j).eraseIdx i).length≤100):=hdz (by
      have:=List.length_eraseIdx_le (hs.take j) i
      have:=List.length_take_le j hs
      omega)
     have hb:(!((j:Int)==(i:Int)))=true:=by simp;omega
     clear hy hjl hfr
     go_wp2_with (at_builtin;refine wpList_appB etLock rfl (.tmp 84) (.tmp 92) rfl #[str en,.int .i64 eh,.int .i64 et,eq] 157 rfl (lockL_one _ _ _ _ hone) w1.heap.size _ _ _ wr.heap.size rfl rfl rfl HR.out.1 (by have:=HLn.out;omega) HR.out.2.size ?_)
     intro v5 w5 ho5 hk5 hn5
     have H5:Hid (w5.ownsRow w1.heap.size 157 4 v5 ((hs.take (j+1)).eraseIdx i).length (rcells DLk.cells ((hs.take (j+1)).eraseIdx i))∧Fresh w1 w5):=hdz ⟨by
      rw[HT.out]
      simpa[rcells_append,rcells_cons,rcells_nil,DLk.cells] using ho5,HR.out.2.comp hk5 (λ_ _ h=>h) (λi hi _ e=>by have:=(own_lt HR.out.1 e).1;omega)⟩
     clear ho5 hk5 hn5
     go_wp2_with fail
     exact⟨⟨j+1,by omega,by simp,H5⟩,by simp only[intOf];omega⟩
   ·obtain rfl:n=j:=by omega
    have hall:hs.take n=hs:=List.take_of_length_le (by rw[HA.out.2.2.2.2.2.2.2.2.1];exact lrz _)
    have ho:=HR.out.1
    rw[hall] at ho
    have hd:(hs.eraseIdx i).map DLk.d=s.locks.eraseIdx i:=by rw[map_erase,HA.out.1.ds]
    have hle:(hs.eraseIdx i).length=(s.locks.eraseIdx i).length:=by rw[←hd,List.length_map]
    rw[hle] at ho
    have hsub:∀y∈hs.eraseIdx i,y∈hs:=λy hy=>(List.eraseIdx_sublist hs i).subset hy
    have hD:=HA.out.1.setLocks hfr (lez HA.out.2.2.2.2.2.2.2.1 H1.out.1.size) ho hd (λy hy=>own_keep (HA.out.1.qs y (hsub y hy)) hfr λ_ _=>trivial) (pair_erase HA.out.1.ap i)
    obtain⟨A5,c5,rfl,-⟩:=own_rd ho
    have z1:=(HA.out.1.fresh hfr).blk.frozen 1
    have hpost:PassPost B F w d pv (0,{ s with locks:=s.locks.eraseIdx i }) (.returned (.int .i64 0)) (wr.setCell ⟨d,1,none⟩ (.slice A5 (s.locks.eraseIdx i).length c5)):=⟨rfl,⟨_,_,_,hD,λj hj=>by
     rcases hj with hj | hj | ⟨y,hy,hj⟩
     ·exact .inl hj
     ·exact .inr (lez H1.out.1.size (own_lt ho hj).1)
     ·exact .inl (HA.out.1.fq y (hsub y hy) j hj)⟩,(hfr.weaken λ_ _ _=>trivial).setCell (λ_ h=>h HA.out.1.fd) _⟩
    have HPo:=hdz hpost
    clear hall ho hd hle hsub hD hpost hfr
    go_wp2_with fail
    go_ret
    rw[HP.out]
    exact HPo.out
 ·have hqi2:(0:Int)<(nq:Int):=by omega
  have ht0:tk<99999999:=ht
  obtain⟨qc,qs,rfl⟩:∃a b,q=a::b:=by
   have h2:=HA.out.2.2.2.2.2.2.2.2.2.2.2.1
   cases q
   ·simp at h2;omega
   ·exact⟨_,_,rfl⟩
  have HP:Hid (P=(tk+1,{ s with locks:=s.locks.set i ⟨nm,qc,tk+1,qs⟩,tok:=tk+1 })):=hdz (by
   have h1:=HA.out.2.2.2.2.2.2.1
   rw[h1]
   have h3:tk=s.tok:=HA.out.2.2.2.2.2.2.2.2.2.1
   simp only
   rw[if_neg (by omega),h3])
  have HNq:Hid (nq=qs.length+1):=hdz (by have h2:=HA.out.2.2.2.2.2.2.2.2.2.2.2.1;simpa using h2)
  have hqd:(Value.slice Aq nq cq).ownBlock≠some d:=by
   have h1:=own_ne_blk HA.out.2.2.2.2.2.2.2.2.2.2.2.2 HA.out.1.blk (by decide)
   rwa [←HA.out.2.2.2.2.2.2.2.2.2.2.2.1] at h1
  have hqg:(Value.slice Aq nq cq).ownBlock≠some g:=by
   have h1:=own_ne_own2 (k:=g) HA.out.2.2.1 HA.out.2.2.2.2.2.2.2.2.2.2.2.2 (by decide) (by simp[Value.ownBlock])
   rwa [←HA.out.2.2.2.2.2.2.2.2.2.2.2.1] at h1
  have HQG:=hdz hqg
  have HQR:=hdz (fun (w':World) (hk:Keep (λk=>k≠d) w w')=>HA.out.2.2.2.2.1.keep (hk.weaken λk _ (h:(Value.slice Aq nq cq).ownBlock=some k) e=>hqd (e ▸ h)))
  clear hqd hqg
  have hT:=(HA.out.1.fresh H1.out.1).setTok (tk+1)
  have z2:=(HA.out.1.fresh H1.out.1).blk.frozen 2
  have hgd:=H1.out.2.1.ne (HA.out.1.fresh H1.out.1).blk (by decide)
  obtain⟨w2,hw2⟩:=exz (w1.setCell ⟨d,2,none⟩ (.int .i64 (tk+1)))
  rw[←hw2] at hT
  have hk2:Keep (λj=>j≠d) w w2:=by rw[hw2];exact (H1.out.1.weaken λ_ _ _=>trivial).setCell (λ_ h=>h rfl) _
  have hb2:Blk w2 g5 157 #[str nm,.int .i64 ho,.int .i64 t0,.slice Aq nq cq]:=by rw[hw2];exact H1.out.2.1.far hgd _
  have hs2:w2.heap.size=w1.heap.size:=by rw[hw2];simp[World.setCell]
  have H2:=hdz (aiz hT (aiz hk2 (aiz hb2 hs2)))
  clear hT hk2 hb2 hs2 hgd
  go_upto_region 4 with (fail)
  rw[←hw2]
  clear hw2 x1 x2 z2 k0 k3 l5 ld
  have k0:=H2.out.2.2.1.cell 0;have k3:=H2.out.2.2.1.cell 3
  simp at k0 k3
  have l5:=H2.out.2.2.1.lt
  have x1:=H2.out.1.three.2.1
  have x2:=H2.out.1.three.2.2
  simp only at x2
  have ld:=H2.out.1.blk.lt
  go_wp2_with fail
  go_loopw [6,7] (λv6 iv wr=>∃j:Nat,1≤j∧j≤nq∧iv=.int .i64 (j:Int)∧Hid (wr.ownsRow w2.heap.size 3 1 v6 (qs.take (j - 1)).length (ics (qs.take (j - 1)))∧Fresh w2 wr)) (λ_ i _=>nq - (intOf i).toNat)
  case atStart=>exact⟨1,by omega,by omega,rfl,hdz ⟨by exact onz _ _ _ _,krz _ _⟩⟩
  case round=>
   rename World=>wr
   obtain⟨j,hj1,hj,rfl,HR⟩:=hrel
   have hb5:=H2.out.2.2.1.keep HR.out.2 trivial
   have k0:=hb5.cell 0;have k3:=hb5.cell 3
   simp at k0 k3
   have l5:=hb5.lt
   have hdr:=H2.out.1.fresh HR.out.2
   have x1:=hdr.three.2.1
   have x2:=hdr.three.2.2
   simp only at x2
   have ld:=hdr.blk.lt
   by_cases hlt:j<nq
   ·have hrq:=HQR.out wr (H2.out.2.1.comp HR.out.2 (λ_ _ h=>h) λ_ _ _=>trivial)
    obtain⟨b,o,rfl,-,hlk,e1⟩:=hrq.intAt hlt
    obtain⟨y,hy⟩:=exz ((qc::qs)[j])
    rw[←hy] at e1
    have HT:Hid (qs.take (j+1 - 1)=qs.take (j - 1)++[y]):=hdz (by
     obtain⟨m,rfl⟩:∃m,j=m+1:=⟨j - 1,by omega⟩
     have hm:m<qs.length:=by have:=HNq.out;omega
     have e:y=qs[m]:=by rw[hy];rfl
     rw[Nat.add_sub_cancel,Nat.add_sub_cancel,List.take_succ_eq_append_getElem hm,e])
    have HLn:Hid ((qs.take (j - 1)).length≤100):=hdz (by
     have:=List.length_take_le (j - 1) qs
     have:=HNq.out
     have:=List.length_take_le' (j - 1) qs
     omega)
    have hji:(j:Int)<(nq:Int):=by omega
    have lbq:=lt_of_cell e1
    clear hy hlk hrq hb5 hdr
    go_wp2_with (at_builtin;refine wpList_app1 etInt2 rfl (.tmp 42) (.tmp 48) rfl (.int .i64 y) _ rfl w2.heap.size _ _ _ rfl rfl HR.out.1 (by have:=HLn.out;omega) HR.out.2.size ?_)
    intro v5 w5 ho5 hk5 hn5
    have H5:=hdz (aiz ho5 hk5)
    clear ho5 hk5 hn5
    go_wp2_with fail
    refine⟨⟨j+1,by omega,by omega,by simp,hdz ⟨?_,HR.out.2.comp H5.out.2 (λ_ _ h=>h) (λi hi _ e=>by have:=(own_lt HR.out.1 e).1;omega)⟩⟩,by simp only[intOf];omega⟩
    rw[HT.out]
    have h1:=H5.out.1
    simpa[ics] using h1
   ·obtain rfl:nq=j:=by omega
    have ho6:=HR.out.1
    have hall:qs.take (nq - 1)=qs:=List.take_of_length_le (by have:=HNq.out;omega)
    rw[hall] at ho6
    obtain⟨A6,c6,rfl,-⟩:=own_rd ho6
    have hrq:=HQR.out wr (H2.out.2.1.comp HR.out.2 (λ_ _ h=>h) λ_ _ _=>trivial)
    obtain⟨b,o,rfl,hzb,hlk,e1⟩:=hrq.intAt (k:=0) (by omega)
    rw[Nat.add_zero] at e1
    have e1:wr.cell? ⟨b,o,none⟩=some (.int .i64 qc):=e1
    have hlr:=hdr.lk
    have hih:i<hs.length:=by have:=HA.out.2.2.2.2.2.2.2.2.1;omega
    obtain⟨_,b0,o0,e0,-,c0,c1,c2,c3⟩:=(Blk.rdOwn (by rw[←HA.out.2.2.2.2.2.2.2.2.2.2.1] at hlr;exact hlr)).lockE hl
    injection e0 with e0
    injection e0 with e0 e00
    subst e0 e00
    rw[Nat.zero_add] at c0 c1 c2 c3
    have f0:=own_frozen hlr (g:=g) (i*4) (by simp[Value.ownBlock])
    have f1:=own_frozen hlr (g:=g) (i*4+1) (by simp[Value.ownBlock])
    have f2:=own_frozen hlr (g:=g) (i*4+2) (by simp[Value.ownBlock])
    have f3:=own_frozen hlr (g:=g) (i*4+3) (by simp[Value.ownBlock])
    have lg:=lt_of_cell c0
    have ngd:d≠g:=λe=>hdr.nd (by simp[Value.ownBlock,e])
    have ng5:g5≠g:=by have:=H1.out.2.2;omega
    have hbg:b≠g:=λe=>HQG.out (e ▸ hzb)
    have HS:Hid (∀w',Keep (λk=>k≠g) wr w'→w'.cell? ⟨d,1,none⟩=some (.slice (some ⟨g,0,none⟩) n cc)∧w'.cell? ⟨d,2,none⟩=some (.int .i64 (tk+1))∧w'.cell? ⟨g5,0,none⟩=some (str nm)∧w'.cell? ⟨g5,3,none⟩=some (.slice (some ⟨b,o,none⟩) nq cq)∧w'.cell? ⟨b,o,none⟩=some (.int .i64 qc)):=hdz λw' hk=>⟨hk.cellAt x1 ngd,hk.cellAt x2 ngd,hk.cellAt k0 ng5,hk.cellAt k3 ng5,hk.cellAt e1 hbg⟩
    have hwB:B≤w2.heap.size:=by have:=HA.out.2.2.2.2.2.2.2.1;have:=H2.out.2.1.size;omega
    have hD:=H2.out.1.setLock4 hih ⟨⟨nm,qc,tk+1,qs⟩,.slice A6 qs.length c6⟩ (g:=g) (by simp[Value.ownBlock]) (w2:=wr.drew) HR.out.2.drew (own_base (own_keep ho6 ((krz (λ_=>True) wr).drew) λ_ _=>trivial) hwB) (λk hk=>.inr (own_lt ho6 hk).1)
    have hgF:=HA.out.1.fh g (by simp[Value.ownBlock])
    have hkF:Keep (λj=>¬F j) w ((((wr.drew.setCell ⟨g,i*4,none⟩ (str nm)).setCell ⟨g,i*4+1,none⟩ (.int .i64 qc)).setCell ⟨g,i*4+2,none⟩ (.int .i64 (tk+1))).setCell ⟨g,i*4+3,none⟩ (.slice A6 qs.length c6)):=
     (((((H2.out.2.1.comp HR.out.2.drew (Y:=λj=>¬F j) (λk _ h e=>h (e ▸ HA.out.1.fd)) λ_ _ _=>trivial).setCell (λ_ h=>h hgF) _).setCell (λ_ h=>h hgF) _).setCell (λ_ h=>h hgF) _).setCell (λ_ h=>h hgF) _)
    have HF6:Hid (∀k,(Value.slice A6 qs.length c6).ownBlock=some k→w.heap.size≤k):=hdz λk hk=>by have:=(own_lt ho6 hk).1;have:=H2.out.2.1.size;omega
    have HD:=hdz (aiz hD hkF)
    clear hD hkF hgF hwB hrq ho6 hall hlr hb5 hdr
    go_upto_region 9 with (fail)
    go_cut [] (λwz=>Hid (DAt B (λk=>F k∨(Value.slice A6 qs.length c6).ownBlock=some k) wz d pv (.slice (some ⟨g,0,none⟩) n cc) (hs.set i ⟨⟨nm,qc,tk+1,qs⟩,.slice A6 qs.length c6⟩) { s with locks:=s.locks.set i ⟨nm,qc,tk+1,qs⟩,tok:=tk+1 }∧Keep (λj=>¬F j) w wz))
    case first=>
     go_region_held3 (λw'=>w'.cell? ⟨d,1,none⟩=some (.slice (some ⟨g,0,none⟩) n cc)∧w'.cell? ⟨d,2,none⟩=some (.int .i64 (tk+1))∧w'.cell? ⟨g5,0,none⟩=some (str nm)∧w'.cell? ⟨g5,3,none⟩=some (.slice (some ⟨b,o,none⟩) nq cq)∧w'.cell? ⟨b,o,none⟩=some (.int .i64 qc))
      (first | exact HS.out _ ((krz _ wr).drew) | exact HS.out _ ((((((krz _ wr).drew).setCell (λ_ h=>h rfl) _).setCell (λ_ h=>h rfl) _).setCell (λ_ h=>h rfl) _).setCell (λ_ h=>h rfl) _))
      (fail)
     all_goals
      go_wp2_with fail
      go_meet
      exact HD
    case rest=>
    rename World=>wz
    have x2:=hcut.out.1.three.2.2
    simp only at x2
    have ldz:=hcut.out.1.blk.lt
    go_wp2_with fail
    go_ret
    rw[HP.out]
    exact⟨rfl,⟨_,_,_,hcut.out.1,λj hj=>hj.imp id (HF6.out j)⟩,hcut.out.2⟩
theorem placeI_zero {q:List Int}{c:Int}(h:c ∉ q):placeI q c=0:=if_neg h
theorem placeI_some {q:List Int}{c:Int}(h:c∈q):placeI q c=(q.idxOf c:Int)+1:=if_pos h
theorem donLock_any {B:Nat} {F:Nat→Prop} {w:World} {d:Nat} {pv hv:Value} {hs:List DLk} {s:StD} (h:DAt B F w d pv hv hs s) (hFb:∀j,F j→j<w.heap.size) (hi:LInv s.locks s.tok) (hB:B≤w.heap.size) (c i r o:Int) (k v ol:Txt) (hv8:o=8→(numb v).2=true) (ho6:6≤o) (ho8:o≤8) :
 Calls Tryz.prog 160 #[.pointer (some ⟨d,0,none⟩),cmdV c i r o k v ol] w (DOp B F w d (onLockD numb c o k v s)):=by
 obtain⟨X,hX⟩:=exz (onLockD numb c o k v s)
 rw[←hX]
 have HO:=hdz (op_at w c i r o k v ol)
 obtain⟨G,hG⟩:=exz (w.heap.size)
 obtain⟨W,hW⟩:=exz ((w.alloc (.cells #[.int .i64 c,.int .i64 i,.int .i64 r,.int .i64 o,str k,str v,str ol] 30)).alloc (.cells #[.int .i64 0,str [],.int .i64 0] 33))
 rw[←hW,←hG] at HO
 have hdW:=h.fresh HO.out.fresh
 have hlen:=hi.len
 have HKA:=hdz (lockAt_any hdW k (by omega))
 obtain⟨n,hnn⟩:=exz (s.locks.length)
 rw[←hnn] at hlen
 have hlk:=hdW.lk
 rw[←hnn] at hlk
 obtain⟨Ap,cp,rfl,-⟩:=own_rd hlk
 have x1:=hdW.three.2.1
 have x2:=hdW.three.2.2
 obtain⟨tk,htk⟩:=exz (s.tok)
 rw[←htk] at x2
 have ld:=hdW.blk.lt
 have hcm:=HO.out.cmd
 have k0:=hcm.cell 0;have k3:=hcm.cell 3;have k4:=hcm.cell 4;have k5:=hcm.cell 5
 simp at k0 k3 k4 k5
 have kl:=hcm.lt
 obtain⟨r0,r1,r2,s0,s1,s2,rl⟩:=res_facts HO.out.res
 have HA:=hdz (aiz hdW (aiz hX (aiz hi (aiz hB (aiz htk (aiz hnn hlk))))))
 have hBW:=lez hB HO.out.fresh.size
 have HBW:=hdz hBW
 have HFB:=hdz hFb
 clear h hdW hX hi hB hFb hnn hcm hlk htk hBW
 go_enter Tryz.func160,Tryz.ntmps160
 go_wp2_with fail
 simp only[←hG]
 rw[←hW]
 clear hW hG
 cases hpf:lfind k s.locks with
 | none=>
  rw[placeK_none (findK_none hpf)] at HKA
  have HPF:=hdz hpf
  clear hpf
  have HE1:Hid (X=if o=6 then (if 8≤n then (⟨4,[],0⟩,s) else if 99999999≤tk then (⟨11,[],0⟩,s) else (⟨1,[],tk+1⟩,{ s with locks:=insK LockD.name ⟨k,c,tk+1,[]⟩ s.locks,tok:=tk+1 })) else (⟨2,[],0⟩,s)):=hdz (by
   rw[HA.out.2.1]
   unfold onLockD
   rw[HPF.out]
   simp only
   rw[HA.out.2.2.2.2.1,HA.out.2.2.2.2.2.1])
  have hcs:(o=6∧8≤n)∨(o=6∧n<8∧99999999≤tk)∨(o=6∧n<8∧tk<99999999)∨o=7∨o=8:=by omega
  rcases hcs with ⟨rfl,hn⟩ | ⟨rfl,hn,ht⟩ | ⟨rfl,hn,ht⟩ | rfl | rfl
  ·have HE:Hid (X=(⟨4,[],0⟩,s)):=hdz (by rw[HE1.out];rw[if_pos rfl,if_pos hn])
   have hni:(8:Int)≤(n:Int):=by omega
   clear HE1
   go_wp2_with fail
   refine Calls.mono HKA.out ?_
   rintro e _ ⟨rfl,rfl⟩
   go_wp2_with fail
   rw[HE.out]
   exact dop_ret (w:=w) rfl rfl rfl (HA.out.1.stay' HO.out.fresh) HO.out.res (by have:=HO.out.sz;omega)
  ·have HE:Hid (X=(⟨11,[],0⟩,s)):=hdz (by rw[HE1.out];rw[if_pos rfl,if_neg (by omega),if_pos ht])
   have hni:¬(8:Int)≤(n:Int):=by omega
   clear HE1
   go_wp2_with fail
   refine Calls.mono HKA.out ?_
   rintro e _ ⟨rfl,rfl⟩
   go_wp2_with fail
   rw[HE.out]
   exact dop_ret (w:=w) rfl rfl rfl (HA.out.1.stay' HO.out.fresh) HO.out.res (by have:=HO.out.sz;omega)
  ·have HE:Hid (X=(⟨1,[],tk+1⟩,{ s with locks:=insK LockD.name ⟨k,c,tk+1,[]⟩ s.locks,tok:=tk+1 })):=hdz (by rw[HE1.out,if_pos rfl,if_neg (by omega),if_neg (by omega)])
   have hni:¬(8:Int)≤(n:Int):=by omega
   have hnt:¬(99999999:Int)≤tk:=by omega
   have hj:=taken_any HA.out.1 k c (by have:=HA.out.2.2.1.len;omega) HBW.out ⟨HA.out.2.2.1.tok0,HA.out.2.2.1.tok1⟩
   rw[←HA.out.2.2.2.2.1] at hj
   have HJ:=hdz hj
   clear HE1 hj
   go_wp2_with fail
   refine Calls.mono HKA.out ?_
   rintro e _ ⟨rfl,rfl⟩
   go_wp2_with fail
   refine Calls.mono HJ.out ?_
   rintro e w4 ⟨rfl,⟨hv4,hs4,F4,hd4,hF4⟩,hk4⟩
   have hRd:G+1≠d:=HO.out.res.ne HA.out.1.blk (by decide)
   have hb4:=HO.out.res.keep hk4 hRd
   obtain⟨r0,r1,r2,s0,s1,s2,rl⟩:=res_facts hb4
   have hst:DStep B F w d { s with locks:=insK LockD.name ⟨k,c,tk+1,[]⟩ s.locks,tok:=tk+1 } w4:=DStep.next (F1:=F) (w1:=W) ⟨⟨_,_,_,_,hd4,hF4⟩,hk4.weaken λj _ hj e=>hj (e ▸ HA.out.1.fd)⟩ (λj hj=>.inl hj) (HO.out.fresh.weaken λ_ _ _=>trivial)
   have H4:=hdz (aiz hst hb4)
   clear hd4 hF4 hk4 hb4 hst HJ HKA
   go_wp2_with fail
   rw[HE.out]
   exact dop_ret (w:=w) rfl rfl rfl H4.out.1 H4.out.2 (by have:=HO.out.sz;omega)
  ·have HE:Hid (X=(⟨2,[],0⟩,s)):=hdz (by rw[HE1.out];simp)
   clear HE1
   go_wp2_with fail
   refine Calls.mono HKA.out ?_
   rintro e _ ⟨rfl,rfl⟩
   go_wp2_with fail
   rw[HE.out]
   exact dop_ret (w:=w) rfl rfl rfl (HA.out.1.stay' HO.out.fresh) HO.out.res (by have:=HO.out.sz;omega)
  ·have HE:Hid (X=(⟨2,[],0⟩,s)):=hdz (by rw[HE1.out];simp)
   clear HE1
   go_wp2_with fail
   refine Calls.mono HKA.out ?_
   rintro e _ ⟨rfl,rfl⟩
   go_wp2_with fail
   rw[HE.out]
   exact dop_ret (w:=w) rfl rfl rfl (HA.out.1.stay' HO.out.fresh) HO.out.res (by have:=HO.out.sz;omega)
 | some l=>
  obtain⟨i0,hi0,hix,hpl⟩:=placeK_find hpf
  rw[hpl] at HKA
  have hnk:=(findK_some hpf).1
  have hi1:i0<n:=by rw[HA.out.2.2.2.2.2.1];exact hi0
  have hii:(i0:Int)<(n:Int):=by omega
  obtain⟨g,cp2,e,-,hgl⟩:=own_form HA.out.2.2.2.2.2.2 (by omega)
  injection e with e1 e2 e3
  subst e1 e3
  obtain⟨hl,b,o0,e0,-,c0,c1,c2,c3⟩:=(Blk.rdOwn HA.out.2.2.2.2.2.2).lockE hi1
  injection e0 with e0
  injection e0 with e0 e00
  subst e0 e00
  have hdi:hs[i0].d=l:=by
   have h3:(hs.map DLk.d)[i0]'(by simpa using hl)=hs[i0].d:=by simp
   rw[←h3]
   exact (List.getElem_of_eq HA.out.1.ds _).trans hix
  have hown:=HA.out.1.qs _ (List.getElem_mem hl)
  rw[Nat.zero_add] at c0 c1 c2 c3
  rw[hdi] at c0 c1 c2
  rw[hdi] at hown
  have hok:=HA.out.2.2.1.each l (by rw[←hix];exact List.getElem_mem hi0)
  have hq16:=queue_len hok.nd hok.q
  obtain⟨Aq,cq,eqv,hrq,-⟩:=own_rd hown
  rw[eqv] at c3
  have hgq:∀k,hs[i0].q.ownBlock=some k→k≠g:=λk hk e=>HA.out.1.ngq (List.getElem_mem hl) (g:=g) (by simp[Value.ownBlock]) (e ▸ hk)
  have hset:∀x:LockD,x.name=l.name→setK LockD.name x s.locks=s.locks.set i0 x:=λx hx=>setK_at HA.out.2.2.1.rise hi0 (by rw[hix];exact hx)
  have HIx:=hdz (show ∃h:i0<s.locks.length,s.locks[i0].name=k from ⟨hi0,by rw[hix,hnk]⟩)
  have f3:=own_frozen HA.out.2.2.2.2.2.2 (g:=g) (i0*4+3) (by simp[Value.ownBlock])
  obtain⟨⟨nm,lh,lt,lq⟩,hll⟩:∃x,x=l:=⟨_,rfl⟩
  rw[←hll] at c0 c1 c2 c3 hown hok hq16 hrq eqv
  simp only at c0 c1 c2 c3 hown hq16 hrq eqv
  have HE1:Hid (X=(if o=6 then (if lh=c then (⟨1,[],lt⟩,s) else if c∈lq then (⟨7,[],(lq.idxOf c:Int)+1⟩,s) else (⟨7,[],(lq.length:Int)+1⟩,{ s with locks:=s.locks.set i0 ⟨nm,lh,lt,lq++[c]⟩ }))
   else if o=7 then (if lh=c then (⟨1,[],(passD k s).1⟩,(passD k s).2) else if c∈lq then (⟨8,[],0⟩,{ s with locks:=s.locks.set i0 ⟨nm,lh,lt,lessD lq c⟩ }) else (⟨2,[],0⟩,s))
   else if (numb v).1=lt then (⟨1,[],lt⟩,s) else (⟨9,[],lt⟩,s))):=hdz (by
   rw[HA.out.2.1]
   unfold onLockD
   rw[hpf,←hll]
   simp only
   rw[hset ⟨nm,lh,lt,lq++[c]⟩ (by rw[←hll]),hset (leaveL c ⟨nm,lh,lt,lq⟩) (by rw[←hll];rfl)]
   rfl)
  obtain⟨nq,hnq⟩:=exz (lq.length)
  rw[←hnq] at c3 hrq hown eqv
  rw[eqv] at hown
  have hgd:d≠g:=λe=>HA.out.1.nd (by simp[Value.ownBlock,e])
  have hgG:G≠g:=λe=>own_ne_blk HA.out.1.lk HO.out.cmd (by decide) (by simp[Value.ownBlock,e])
  have hgR:G+1≠g:=λe=>own_ne_blk HA.out.1.lk HO.out.res (by decide) (by simp[Value.ownBlock,e])
  have hdl:hs[i0].d=⟨nm,lh,lt,lq⟩:=hdi.trans hll.symm
  have HQ:=hdz (aiz hl (aiz hdl (aiz hown (aiz hrq (aiz hgq (aiz eqv (aiz hnq hq16)))))))
  have lg:=lt_of_cell c0
  clear hset hdi hdl hown hrq hgq hnk hix hpl hpf hll hok eqv hnq
  go_wp2_with fail
  refine Calls.mono HKA.out ?_
  rintro e _ ⟨rfl,rfl⟩
  go_wp2_with (refine wpList_store_new rfl (.tmp 7) (.tmp 50) rfl _ #[str nm,.int .i64 lh,.int .i64 lt,.slice Aq nq cq] _ rfl rfl rfl (by kernel_rfl) (lockA_one _ _ _ _ rfl) ?_)
  intro w5 hb5 hf5 hs5
  obtain⟨g7,hg7⟩:∃g,g=W.heap.size:=⟨_,rfl⟩
  rw[←hg7] at hb5 ⊢
  have hbr5:=HO.out.res.keep hf5 trivial
  have hbc5:=HO.out.cmd.keep hf5 trivial
  have hd5:=HA.out.1.fresh hf5
  have k0:=hf5.cellAt k0 trivial;have k3:=hf5.cellAt k3 trivial;have k5:=hf5.cellAt k5 trivial
  have kl:=ltz kl hf5.size
  have x1:=hf5.cellAt x1 trivial
  have ld:=hd5.blk.lt
  have c3':=hf5.cellAt c3 trivial
  have f3':=(hf5.frozen (p:=⟨g,i0*4+3,none⟩) lg trivial).trans f3
  have lg:=lt_of_cell c3'
  have u1:=hb5.cell 1;have u2:=hb5.cell 2;have u3:=hb5.cell 3
  simp at u1 u2 u3
  have lu:=hb5.lt
  obtain⟨r0,r1,r2,s0,s1,s2,rl⟩:=res_facts hbr5
  have hg7g:g7≠g:=by omega
  have H5:=hdz (aiz hf5 (aiz hbr5 (aiz hbc5 (aiz hd5 (aiz hb5 (HO.out.fresh.then hf5))))))
  have hpl:=placeOf_any _ Aq nq cq lq c w5 (HQ.out.2.2.2.1.keep (hf5.weaken λ_ _ _=>trivial)) (by have:=HQ.out.2.2.2.2.2.2.1;have:=HQ.out.2.2.2.2.2.2.2;omega)
  obtain⟨pl,hpe⟩:=exz (placeI lq c)
  rw[←hpe] at hpl
  have HPl:=hdz hpl
  have HPE:=hdz hpe
  clear hf5 hbr5 hbc5 hd5 hb5 hs5 hg7 hpl hpe c0 c1 c2 c3 f3 k4 x2 HKA hq16
  obtain⟨mine,hmine⟩:∃b:Bool,b=(lh==c):=⟨_,rfl⟩
  have hst5:Hid (DStep B F w d s w5):=hdz (H5.out.2.2.2.1.stay' H5.out.2.2.2.2.2)
  have hG1:w.heap.size≤G+1:=by have:=HO.out.sz;omega
  have hcs:o=6∨o=7∨o=8:=by omega
  rcases hcs with rfl | rfl | rfl
  ·have hcs:lh=c∨(lh≠c∧c∈lq)∨(lh≠c∧c ∉ lq):=by
    by_cases h1:lh=c
    ·exact .inl h1
    ·by_cases h2:c∈lq
     ·exact .inr (.inl ⟨h1,h2⟩)
     ·exact .inr (.inr ⟨h1,h2⟩)
   rcases hcs with rfl | ⟨h1,h2⟩ | ⟨h1,h2⟩
   ·have HE:Hid (X=(⟨1,[],lt⟩,s)):=hdz (by rw[HE1.out];simp)
    go_wp2_with fail
    refine Calls.mono HPl.out ?_
    rintro e _ ⟨rfl,rfl⟩
    go_wp2_with fail
    rw[HE.out]
    exact dop_ret (w:=w) rfl rfl rfl hst5.out H5.out.2.1 hG1
   ·have HE:Hid (X=(⟨7,[],pl⟩,s)):=hdz (by rw[HE1.out,if_pos rfl,if_neg h1,if_pos h2,HPE.out,placeI_some h2])
    have hb:(lh==c)=false:=by simpa using h1
    have hp0:(pl==0)=false:=by
     have:pl≠0:=by rw[HPE.out,placeI_some h2];omega
     simpa using this
    go_wp2_with fail
    refine Calls.mono HPl.out ?_
    rintro e _ ⟨rfl,rfl⟩
    go_wp2_with fail
    rw[HE.out]
    exact dop_ret (w:=w) rfl rfl rfl hst5.out H5.out.2.1 hG1
   ·have hb:(lh==c)=false:=by simpa using h1
    obtain rfl:pl=0:=by rw[HPE.out,placeI_zero h2]
    have HE:Hid (X=(⟨7,[],((nq+1:Nat):Int)⟩,{ s with locks:=s.locks.set i0 ⟨nm,lh,lt,lq++[c]⟩ })):=hdz (by rw[HE1.out,if_pos rfl,if_neg h1,if_neg h2,HQ.out.2.2.2.2.2.2.1];simp)
    clear HE1 hmine
    go_wp2_with fail
    refine Calls.mono HPl.out ?_
    rintro e _ ⟨rfl,rfl⟩
    go_upto_region 19 with (fail)
    go_cut [] (λwz=>Hid (∃q',wz.cell? ⟨g,i0*4+3,none⟩=some q'∧wz.cell? ⟨d,1,none⟩=some (.slice (some ⟨g,0,none⟩) n cp)∧(∃A' c',q'=.slice A' (nq+1) c')∧DStep B F w d { s with locks:=s.locks.set i0 ⟨nm,lh,lt,lq++[c]⟩ } wz∧Blk wz (G+1) 33 (resA ⟨0,[],0⟩)))
    case first=>
     have HFin:Hid (∀w' v',w'.ownsRow B 3 1 v' (nq+1) (ics lq++[.int .i64 c])→Keep (λk=>(Value.slice Aq nq cq).ownBlock≠some k) w5 w'→Next w5.heap.size (.slice Aq nq cq) v'→∃q',(w'.setCell ⟨g,i0*4+3,none⟩ v').cell? ⟨g,i0*4+3,none⟩=some q'∧(w'.setCell ⟨g,i0*4+3,none⟩ v').cell? ⟨d,1,none⟩=some (.slice (some ⟨g,0,none⟩) n cp)∧(∃A' c',q'=.slice A' (nq+1) c')∧DStep B F w d { s with locks:=s.locks.set i0 ⟨nm,lh,lt,lq++[c]⟩ } (w'.setCell ⟨g,i0*4+3,none⟩ v')∧Blk (w'.setCell ⟨g,i0*4+3,none⟩ v') (G+1) 33 (resA ⟨0,[],0⟩)):=hdz λw' v' ho hk hn=>by
      have hl:=HQ.out.1
      have hd5:=H5.out.2.2.2.1
      have hqe:hs[i0].q=.slice Aq nq cq:=HQ.out.2.2.2.2.2.1
      obtain⟨A',c',e',-⟩:=own_rd ho
      have hgq:∀k,(Value.slice Aq nq cq).ownBlock=some k→k≠g:=λk hk=>HQ.out.2.2.2.2.1 k (by rw[hqe];exact hk)
      have ho2:w'.ownsRow B 3 1 v' (lq++[c]).length (ics (lq++[c])):=by
       rw[lapz,←HQ.out.2.2.2.2.2.2.1]
       simpa[ics] using ho
      have h1:=hd5.setQ hl (g:=g) (by simp[Value.ownBlock]) (w2:=w') (by rw[hqe];exact hk) ho2 (λk hk2=>by
       rw[hqe]
       rcases hn with h | ⟨g2,h,h3⟩
       ·exact .inl (h ▸ hk2)
       ·rw[h] at hk2
        injection hk2 with hk2
        exact .inr (by omega))
      rw[HQ.out.2.1] at h1
      have hdc:=h1.three.2.1
      have hdq:∀k,(Value.slice Aq nq cq).ownBlock=some k→k≠d:=λk hk2 e=>hd5.nq (List.getElem_mem hl) (by rw[hqe];exact e ▸ hk2)
      have hRq:∀k,(Value.slice Aq nq cq).ownBlock=some k→k≠G+1:=λk hk2 e=>by
       have h3:=hd5.qs _ (List.getElem_mem hl)
       exact own_ne_blk h3 H5.out.2.1 (by decide) (by rw[hqe];exact e ▸ hk2)
      have hgF:=hd5.fh g (by simp[Value.ownBlock])
      refine⟨v',?_,hdc,⟨A',c',e'⟩,⟨⟨_,_,_,_,h1,λj hj=>hj.elim .inl λe=>?_⟩,?_⟩,?_⟩
      ·exact World.cell?_setCell_same _ _ _ (hk.cellAt c3' λe=>hgq g e rfl)
      ·rcases hn with h | ⟨g2,h,h3⟩
       ·exact .inl (hd5.fq _ (List.getElem_mem hl) j (by rw[hqe];exact h ▸ e))
       ·rw[h] at e
        injection e with e
        exact .inr (by have:=H5.out.2.2.2.2.2.size;omega)
      ·exact (H5.out.2.2.2.2.2.comp hk (λ_ _ _=>trivial) λj _ hj e=>hj (hd5.fq _ (List.getElem_mem hl) j (by rw[hqe];exact e))).setCell (λ_ h=>h hgF) _
      ·exact (H5.out.2.1.keep hk λe=>hRq _ e rfl).far (p:=⟨g,i0*4+3,none⟩) hgR _
     have hW1:Fresh w5 ((World.drew w5).alloc (.cells #[.int .i64 c] 3)):=((krz _ w5).drew).alloc _
     have ho1:=own_keep HQ.out.2.2.1 (H5.out.1.then hW1) λ_ _=>trivial
     have hdq:∀k,(Value.slice Aq nq cq).ownBlock=some k→k≠d:=λk hk2 e=>own_ne_blk HQ.out.2.2.1 HA.out.1.blk (by decide) (e ▸ hk2)
     have hGq:∀k,(Value.slice Aq nq cq).ownBlock=some k→k≠G:=λk hk2 e=>own_ne_blk HQ.out.2.2.1 HO.out.cmd (by decide) (e ▸ hk2)
     have hgq2:∀k,(Value.slice Aq nq cq).ownBlock=some k→k≠g:=λk hk=>HQ.out.2.2.2.2.1 k (by rw[HQ.out.2.2.2.2.2.1];exact hk)
     have HN:=hdz (aiz hdq (aiz hGq hgq2))
     have HW1:=hdz (aiz hW1 (aiz ho1 (lez HBW.out (H5.out.1.then hW1).size)))
     have xA:=hW1.cellAt x1 trivial
     have kA:=hW1.cellAt k0 trivial
     have cA:=hW1.cellAt c3' trivial
     have lA:=lt_of_cell cA
     have hq100:nq≤100:=by have:=HQ.out.2.2.2.2.2.2.1;have:=HQ.out.2.2.2.2.2.2.2;omega
     have HS:Hid (∀w9 w',Keep (λk=>(Value.slice Aq nq cq).ownBlock≠some k) w5 w9→Keep (λk=>k≠g) w9 w'→w'.cell? ⟨d,1,none⟩=some (.slice (some ⟨g,0,none⟩) n cp)∧w'.cell? ⟨G,0,none⟩=some (.int .i64 c)):=hdz λw9 w' h1 h2=>⟨h2.cellAt (h1.cellAt x1 λe=>HN.out.1 _ e rfl) hgd,h2.cellAt (h1.cellAt k0 λe=>HN.out.2.1 _ e rfl) hgG⟩
     have HC3:Hid (∀w9,Keep (λk=>(Value.slice Aq nq cq).ownBlock≠some k) w5 w9→w9.cell? ⟨g,i0*4+3,none⟩=some (.slice Aq nq cq)∧w9.frozen? ⟨g,i0*4+3,none⟩=false∧g<w9.heap.size):=hdz λw9 h1=>⟨h1.cellAt c3' λe=>HN.out.2.2 _ e rfl,(h1.frozen (p:=⟨g,i0*4+3,none⟩) lg λe=>HN.out.2.2 _ e rfl).trans f3',ltz lg h1.size⟩
     clear hW1 ho1 hdq hGq hgq2
     refine wp_region_held_drew (S:=λw'=>w'.cell? ⟨d,1,none⟩=some (.slice (some ⟨g,0,none⟩) n cp)∧w'.cell? ⟨G,0,none⟩=some (.int .i64 c)) (by kernel_rfl) ⟨x1,k0⟩ (λhHeld=>?_)
     refine wpAnyH_take (i:=0) (v:=.pointer (some ⟨d,0,none⟩)) rfl (by kernel_rfl) (by kernel_rfl) (by kernel_rfl) (λ_ _ _ h=>h) (Or.inl ⟨by rfl,by intro w hSw;go_simp⟩) hHeld ?_
     simp only[Act.put,zp1,zp2,zp3]
     refine wpAnyH_take (i:=1) (v:=.pointer (some ⟨d,0,none⟩)) rfl (by kernel_rfl) (by kernel_rfl) (by kernel_rfl) (λ_ _ _ h=>h) (Or.inl ⟨by rfl,by intro w hSw;go_simp⟩) hHeld ?_
     simp only[Act.put,zp1,zp2,zp3]
     refine wpAnyH_take (i:=2) (v:=.pointer (some ⟨d,1,none⟩)) rfl (by kernel_rfl) (by kernel_rfl) (by kernel_rfl) (λ_ _ _ h=>h) (Or.inl ⟨by rfl,by intro w hSw;go_simp⟩) hHeld ?_
     simp only[Act.put,zp1,zp2,zp3]
     refine wpAnyH_take (i:=3) (v:=.slice (some ⟨g,0,none⟩) n cp) rfl (by kernel_rfl) (by kernel_rfl) (by kernel_rfl) (λ_ _ _ h=>h) (Or.inl ⟨by rfl,by intro w hSw;go_simp⟩) hHeld ?_
     simp only[Act.put,zp1,zp2,zp3]
     refine wpAnyH_take (i:=4) (v:=.int .i64 (i0:Int)) rfl (by kernel_rfl) (by kernel_rfl) (by kernel_rfl) (λ_ _ _ h=>h) (Or.inl ⟨by rfl,by intro w hSw;go_simp⟩) hHeld ?_
     simp only[Act.put,zp1,zp2,zp3]
     refine wpAnyH_take (i:=5) (v:=.pointer (some ⟨d,0,none⟩)) rfl (by kernel_rfl) (by kernel_rfl) (by kernel_rfl) (λ_ _ _ h=>h) (Or.inl ⟨by rfl,by intro w hSw;go_simp⟩) hHeld ?_
     simp only[Act.put,zp1,zp2,zp3]
     refine wpAnyH_take (i:=6) (v:=.pointer (some ⟨d,0,none⟩)) rfl (by kernel_rfl) (by kernel_rfl) (by kernel_rfl) (λ_ _ _ h=>h) (Or.inl ⟨by rfl,by intro w hSw;go_simp⟩) hHeld ?_
     simp only[Act.put,zp1,zp2,zp3]
     refine wpAnyH_take (i:=7) (v:=.pointer (some ⟨d,1,none⟩)) rfl (by kernel_rfl) (by kernel_rfl) (by kernel_rfl) (λ_ _ _ h=>h) (Or.inl ⟨by rfl,by intro w hSw;go_simp⟩) hHeld ?_
     simp only[Act.put,zp1,zp2,zp3]
     refine wpAnyH_take (i:=8) (v:=.slice (some ⟨g,0,none⟩) n cp) rfl (by kernel_rfl) (by kernel_rfl) (by kernel_rfl) (λ_ _ _ h=>h) (Or.inl ⟨by rfl,by intro w hSw;go_simp⟩) hHeld ?_
     simp only[Act.put,zp1,zp2,zp3]
     refine wpAnyH_take (i:=9) (v:=.int .i64 (i0:Int)) rfl (by kernel_rfl) (by kernel_rfl) (by kernel_rfl) (λ_ _ _ h=>h) (Or.inl ⟨by rfl,by intro w hSw;go_simp⟩) hHeld ?_
     simp only[Act.put,zp1,zp2,zp3]
     refine wpAnyH_take (i:=10) (v:=.pointer (some ⟨g,i0*4,none⟩)) rfl (by kernel_rfl) (by kernel_rfl) (by kernel_rfl) (λ_ _ _ h=>h) (Or.inl ⟨by rfl,by intro w hSw;go_simp⟩) hHeld ?_
     simp only[Act.put,zp1,zp2,zp3]
     refine wpAnyH_take (i:=11) (v:=.pointer (some ⟨g,i0*4+3,none⟩)) rfl (by kernel_rfl) (by kernel_rfl) (by kernel_rfl) (λ_ _ _ h=>h) (Or.inl ⟨by rfl,by intro w hSw;go_simp⟩) hHeld ?_
     simp only[Act.put,zp1,zp2,zp3]
     refine wpAnyH_take (i:=13) (v:=.pointer (some ⟨G,0,none⟩)) rfl (by kernel_rfl) (by kernel_rfl) (by kernel_rfl) (λ_ _ _ h=>h) (Or.inl ⟨by rfl,by intro w hSw;go_simp⟩) hHeld ?_
     simp only[Act.put,zp1,zp2,zp3]
     refine wpAnyH_take (i:=14) (v:=.int .i64 c) rfl (by kernel_rfl) (by kernel_rfl) (by kernel_rfl) (λ_ _ _ h=>h) (Or.inl ⟨by rfl,by intro w hSw;go_simp⟩) hHeld ?_
     simp only[Act.put,zp1,zp2,zp3]
     refine wpAnyH_ready (rs:=[12,15]) (by kernel_rfl) (by simp) ?_
     refine AllReadyH.cons rfl (λK hK=>?_) (AllReadyH.cons rfl (λK hK=>?_) AllReadyH.nil)
     ·go_simp
      refine hK.out _ _ hHeld (λhHeld=>?_)
      clear hK K
      try simp only[Act.put,zp1,zp2,zp3]
      refine wpAnyH_ready (rs:=[15]) (by kernel_rfl) (by simp) ?_
      refine AllReadyH.cons rfl (λK hK=>?_) AllReadyH.nil
      go_simp
      refine hK.out _ _ ⟨xA,kA⟩ (λhHeld=>?_)
      clear hK K
      try simp only[Act.put,zp1,zp2,zp3]
      refine wpAnyH_ready (rs:=[16]) (by kernel_rfl) (by simp) ?_
      refine AllReadyH.cons rfl (λK hK=>?_) AllReadyH.nil
      refine step_app etInt2 rfl (.tmp 83) (.tmp 86) rfl B (.slice Aq nq cq) nq (ics lq) rfl HW1.out.2.1 (λ_=>True) (some ⟨(World.drew w5).heap.size,0,none⟩) 1 1 [.int .i64 c] rfl ((Rd.one_of (Blk.new (World.drew w5) 3 #[.int .i64 c]) rfl).weaken λ_ _=>trivial) (λh=>Nat.noConfusion h) (by simp[Value.oneCell']) (by omega) HW1.out.2.2 ?_
      intro v9 w9 ho9 hk9 hn9
      obtain⟨A9,c9,rfl,-⟩:=own_rd ho9
      have hk59:Keep (λk=>(Value.slice Aq nq cq).ownBlock≠some k) w5 w9:=HW1.out.1.comp hk9 (λ_ _ _=>trivial) λ_ _ h=>h
      have hfin:=HFin.out w9 _ ho9 hk59 (hn9.imp id λ⟨g9,a9,b9⟩=>⟨g9,a9,lez HW1.out.1.size b9⟩)
      have HF9:=hdz hfin
      obtain⟨c39,f39,lg9⟩:=HC3.out w9 hk59
      have h9:=HS.out w9 w9 hk59 (krz _ _)
      have HT9:=hdz (HS.out w9 (w9.setCell ⟨g,i0*4+3,none⟩ (.slice A9 (nq+1) c9)) hk59 ((krz _ w9).setCell (λ_ h=>h rfl) _))
      clear ho9 hk9 hn9 hk59 hfin
      refine hK.out _ _ h9 (λhHeld=>?_)
      clear hK K
      try simp only[Act.put,zp1,zp2,zp3]
      refine wpAnyH_take (i:=17) (v:=.pointer (some ⟨g,i0*4,none⟩)) rfl (by kernel_rfl) (by kernel_rfl) (by kernel_rfl) (λ_ _ _ h=>h) (Or.inl ⟨by rfl,by intro w hSw;go_simp⟩) hHeld ?_
      simp only[Act.put,zp1,zp2,zp3]
      refine wpAnyH_take (i:=18) (v:=.pointer (some ⟨g,i0*4+3,none⟩)) rfl (by kernel_rfl) (by kernel_rfl) (by kernel_rfl) (λ_ _ _ h=>h) (Or.inl ⟨by rfl,by intro w hSw;go_simp⟩) hHeld ?_
      simp only[Act.put,zp1,zp2,zp3]
      refine wpAnyH_ready (rs:=[19]) (by kernel_rfl) (by simp) ?_
      refine AllReadyH.cons rfl (λK hK=>?_) AllReadyH.nil
      go_simp
      refine hK.out _ _ HT9.out (λhHeld=>?_)
      clear hK K
      try simp only[Act.put,zp1,zp2,zp3]
      refine wpAnyH_done (by kernel_rfl) ?_ _
      go_wp2_with fail
      go_meet
      exact HF9
     ·go_simp
      refine hK.out _ _ ⟨xA,kA⟩ (λhHeld=>?_)
      clear hK K
      try simp only[Act.put,zp1,zp2,zp3]
      refine wpAnyH_ready (rs:=[12]) (by kernel_rfl) (by simp) ?_
      refine AllReadyH.cons rfl (λK hK=>?_) AllReadyH.nil
      go_simp
      refine hK.out _ _ hHeld (λhHeld=>?_)
      clear hK K
      try simp only[Act.put,zp1,zp2,zp3]
      refine wpAnyH_ready (rs:=[16]) (by kernel_rfl) (by simp) ?_
      refine AllReadyH.cons rfl (λK hK=>?_) AllReadyH.nil
      refine step_app etInt2 rfl (.tmp 83) (.tmp 86) rfl B (.slice Aq nq cq) nq (ics lq) rfl HW1.out.2.1 (λ_=>True) (some ⟨(World.drew w5).heap.size,0,none⟩) 1 1 [.int .i64 c] rfl ((Rd.one_of (Blk.new (World.drew w5) 3 #[.int .i64 c]) rfl).weaken λ_ _=>trivial) (λh=>Nat.noConfusion h) (by simp[Value.oneCell']) (by omega) HW1.out.2.2 ?_
      intro v9 w9 ho9 hk9 hn9
      obtain⟨A9,c9,rfl,-⟩:=own_rd ho9
      have hk59:Keep (λk=>(Value.slice Aq nq cq).ownBlock≠some k) w5 w9:=HW1.out.1.comp hk9 (λ_ _ _=>trivial) λ_ _ h=>h
      have hfin:=HFin.out w9 _ ho9 hk59 (hn9.imp id λ⟨g9,a9,b9⟩=>⟨g9,a9,lez HW1.out.1.size b9⟩)
      have HF9:=hdz hfin
      obtain⟨c39,f39,lg9⟩:=HC3.out w9 hk59
      have h9:=HS.out w9 w9 hk59 (krz _ _)
      have HT9:=hdz (HS.out w9 (w9.setCell ⟨g,i0*4+3,none⟩ (.slice A9 (nq+1) c9)) hk59 ((krz _ w9).setCell (λ_ h=>h rfl) _))
      clear ho9 hk9 hn9 hk59 hfin
      refine hK.out _ _ h9 (λhHeld=>?_)
      clear hK K
      try simp only[Act.put,zp1,zp2,zp3]
      refine wpAnyH_take (i:=17) (v:=.pointer (some ⟨g,i0*4,none⟩)) rfl (by kernel_rfl) (by kernel_rfl) (by kernel_rfl) (λ_ _ _ h=>h) (Or.inl ⟨by rfl,by intro w hSw;go_simp⟩) hHeld ?_
      simp only[Act.put,zp1,zp2,zp3]
      refine wpAnyH_take (i:=18) (v:=.pointer (some ⟨g,i0*4+3,none⟩)) rfl (by kernel_rfl) (by kernel_rfl) (by kernel_rfl) (λ_ _ _ h=>h) (Or.inl ⟨by rfl,by intro w hSw;go_simp⟩) hHeld ?_
      simp only[Act.put,zp1,zp2,zp3]
      refine wpAnyH_ready (rs:=[19]) (by kernel_rfl) (by simp) ?_
      refine AllReadyH.cons rfl (λK hK=>?_) AllReadyH.nil
      go_simp
      refine hK.out _ _ HT9.out (λhHeld=>?_)
      clear hK K
      try simp only[Act.put,zp1,zp2,zp3]
      refine wpAnyH_done (by kernel_rfl) ?_ _
      go_wp2_with fail
      go_meet
      exact HF9
    case rest=>
    rename World=>wz
    obtain⟨q',z3,z1,⟨A',c',rfl⟩,hst,hbz⟩:=hcut.out
    obtain⟨r0,r1,r2,s0,s1,s2,rl⟩:=res_facts hbz
    have lg:=lt_of_cell z3
    have ld:=lt_of_cell z1
    have H4:=hdz (aiz hst hbz)
    clear hst hbz hcut
    go_wp2_with fail
    rw[HE.out]
    exact dop_ret (w:=w) rfl rfl rfl H4.out.1 H4.out.2 hG1
  ·have hcs:lh=c∨(lh≠c∧c∈lq)∨(lh≠c∧c ∉ lq):=by
    by_cases h1:lh=c
    ·exact .inl h1
    ·by_cases h2:c∈lq
     ·exact .inr (.inl ⟨h1,h2⟩)
     ·exact .inr (.inr ⟨h1,h2⟩)
   rcases hcs with rfl | ⟨h1,h2⟩ | ⟨h1,h2⟩
   ·have hpass:=passed_any H5.out.2.2.2.1 HA.out.2.2.1 HIx.out.1 (lez HBW.out H5.out.1.size)
    rw[HIx.out.2] at hpass
    have HE:Hid (X=(⟨1,[],(passD k s).1⟩,(passD k s).2)):=hdz (by rw[HE1.out,if_neg (by decide),if_pos rfl,if_pos rfl])
    obtain⟨⟨p1,p2⟩,hp⟩:∃P,P=passD k s:=⟨_,rfl⟩
    rw[←hp] at hpass HE
    have HPass:=hdz hpass
    clear hpass hp HE1
    go_wp2_with fail
    refine Calls.mono HPl.out ?_
    rintro e _ ⟨rfl,rfl⟩
    go_wp2_with fail
    refine Calls.mono HPass.out ?_
    rintro e w6 ⟨rfl,⟨hv6,hs6,F6,hd6,hF6⟩,hk6⟩
    have hRF:¬F (G+1):=λe=>by have:=HO.out.sz;have:=HFB.out _ e;omega
    have hb6:=H5.out.2.1.keep hk6 hRF
    have hst:DStep B F w d p2 w6:=DStep.next (F1:=F) (w1:=w5) ⟨⟨_,_,_,_,hd6,hF6⟩,hk6⟩ (λj hj=>.inl hj) (H5.out.2.2.2.2.2.weaken λ_ _ _=>trivial)
    obtain⟨r0,r1,r2,s0,s1,s2,rl⟩:=res_facts hb6
    have H6:=hdz (aiz hst hb6)
    clear hd6 hF6 hk6 hb6 hst hRF
    go_wp2_with fail
    rw[HE.out]
    exact dop_ret (w:=w) rfl rfl rfl H6.out.1 H6.out.2 hG1
   ·have hb:(lh==c)=false:=by simpa using h1
    have hpp:0<pl:=by rw[HPE.out,placeI_some h2];omega
    have HE:Hid (X=(⟨8,[],0⟩,{ s with locks:=s.locks.set i0 ⟨nm,lh,lt,lessD lq c⟩ })):=hdz (by rw[HE1.out,if_neg (by decide),if_pos rfl,if_neg h1,if_pos h2])
    have hq1000:nq≤1000000:=by have:=HQ.out.2.2.2.2.2.2.1;have:=HQ.out.2.2.2.2.2.2.2;omega
    have h0d:Fresh w5 (World.drew w5):=(krz _ w5).drew
    have HD0:=hdz h0d
    have HWo:=hdz (without_any _ Aq nq cq lq c (World.drew w5) (HQ.out.2.2.2.1.keep ((H5.out.1.then h0d).weaken λ_ _ _=>trivial)) hq1000)
    have HKS:Hid (∀w',Fresh w5 w'→(w'.cell? ⟨d,1,none⟩=some (.slice (some ⟨g,0,none⟩) n cp)∧w'.cell? ⟨g7,3,none⟩=some (.slice Aq nq cq)∧w'.cell? ⟨G,0,none⟩=some (.int .i64 c))∧∃u,w'.cell? ⟨g,i0*4+3,none⟩=some u∧w'.frozen? ⟨g,i0*4+3,none⟩=false∧g<w'.heap.size):=hdz λw' hf=>⟨⟨hf.cellAt x1 trivial,hf.cellAt u3 trivial,hf.cellAt k0 trivial⟩,_,hf.cellAt c3' trivial,(hf.frozen (p:=⟨g,i0*4+3,none⟩) lg trivial).trans f3',ltz lg hf.size⟩
    have HS:Hid (∀w9 w',Fresh w5 w9→Keep (λk=>k≠g) w9 w'→w'.cell? ⟨d,1,none⟩=some (.slice (some ⟨g,0,none⟩) n cp)∧w'.cell? ⟨g7,3,none⟩=some (.slice Aq nq cq)∧w'.cell? ⟨G,0,none⟩=some (.int .i64 c)):=hdz λw9 w' h1 h2=>⟨h2.cellAt (HKS.out w9 h1).1.1 hgd,h2.cellAt (HKS.out w9 h1).1.2.1 hg7g,h2.cellAt (HKS.out w9 h1).1.2.2 hgG⟩
    have HFin:Hid (∀w' v',w'.ownsRow (World.drew w5).heap.size 3 1 v' (lessD lq c).length (ics (lessD lq c))→Fresh w5 w'→DStep B F w d { s with locks:=s.locks.set i0 ⟨nm,lh,lt,lessD lq c⟩ } (w'.setCell ⟨g,i0*4+3,none⟩ v')∧Blk (w'.setCell ⟨g,i0*4+3,none⟩ v') (G+1) 33 (resA ⟨0,[],0⟩)):=hdz λw' v' ho hf=>by
     have hl:=HQ.out.1
     have hd5:=H5.out.2.2.2.1
     have hBw:B≤(World.drew w5).heap.size:=lez HBW.out H5.out.1.size
     have h3:=hd5.setQ hl (g:=g) (by simp[Value.ownBlock]) (w2:=w') (hf.weaken λ_ _ _=>trivial) (own_base ho hBw) (λk hk2=>.inr (own_lt ho hk2).1)
     rw[HQ.out.2.1] at h3
     have hgF:=hd5.fh g (by simp[Value.ownBlock])
     refine⟨⟨⟨_,_,_,_,h3,λj hj=>hj.elim .inl λe=>.inr ?_⟩,((H5.out.2.2.2.2.2.then hf).weaken λ_ _ _=>trivial).setCell (λ_ h=>h hgF) _⟩,(H5.out.2.1.keep hf trivial).far (p:=⟨g,i0*4+3,none⟩) hgR _⟩
     have h4:=(own_lt ho e).1
     have h5:=H5.out.2.2.2.2.2.size
     exact lez h5 h4
    clear HE1 hmine h0d
    go_wp2_with fail
    refine Calls.mono HPl.out ?_
    rintro e _ ⟨rfl,rfl⟩
    go_upto_region 27 with (fail)
    go_cut [] (λwz=>Hid (DStep B F w d { s with locks:=s.locks.set i0 ⟨nm,lh,lt,lessD lq c⟩ } wz∧Blk wz (G+1) 33 (resA ⟨0,[],0⟩)))
    case first=>
     go_region_held3 (λw'=>w'.cell? ⟨d,1,none⟩=some (.slice (some ⟨g,0,none⟩) n cp)∧w'.cell? ⟨g7,3,none⟩=some (.slice Aq nq cq)∧w'.cell? ⟨G,0,none⟩=some (.int .i64 c))
      (first | exact (HKS.out _ HD0.out).1 | exact (HKS.out _ hfa).1 | exact HS.out _ _ hfa ((krz _ _).setCell (λ_ h=>h rfl) _))
      (first
       | (go_at_call 158;(with_reducible refine Calls.mono HWo.out ?_);rintro e wa ⟨⟨v9,rfl,hov⟩,hfb⟩;have hfa:=HD0.out.then hfb;have HOv:=hdz (HFin.out wa _ hov hfa);obtain⟨Av,cv,rfl,-⟩:=own_rd hov;obtain⟨-,u9,c3a,f3a,lga⟩:=HKS.out wa hfa;clear hov))
     all_goals
      go_wp2_with fail
      go_meet
      exact HOv
    case rest=>
    rename World=>wz
    obtain⟨hst,hbz⟩:=hcut.out
    obtain⟨r0,r1,r2,s0,s1,s2,rl⟩:=res_facts hbz
    have H4:=hdz (aiz hst hbz)
    clear hst hbz hcut
    go_wp2_with fail
    rw[HE.out]
    exact dop_ret (w:=w) rfl rfl rfl H4.out.1 H4.out.2 hG1
   ·have HE:Hid (X=(⟨2,[],0⟩,s)):=hdz (by rw[HE1.out,if_neg (by decide),if_pos rfl,if_neg h1,if_neg h2])
    have hb:(lh==c)=false:=by simpa using h1
    obtain rfl:pl=0:=by rw[HPE.out,placeI_zero h2]
    go_wp2_with fail
    refine Calls.mono HPl.out ?_
    rintro e _ ⟨rfl,rfl⟩
    go_wp2_with fail
    rw[HE.out]
    exact dop_ret (w:=w) rfl rfl rfl hst5.out H5.out.2.1 hG1
  ·have hvn:=rnum_numb (hv8 rfl)
   have hn:=rnumber_any v w5
   rw[hvn] at hn
   obtain⟨nv,hnv⟩:∃x,x=(numb v).1:=⟨_,rfl⟩
   rw[←hnv] at hn
   rw[←hnv] at HE1
   have HN:=hdz hn
   clear hn hvn hnv hmine
   by_cases h1:nv=lt
   ·subst h1
    have HE:Hid (X=(⟨1,[],nv⟩,s)):=hdz (by rw[HE1.out,if_neg (by decide),if_neg (by decide),if_pos rfl])
    clear HE1
    go_wp2_with fail
    refine Calls.mono HPl.out ?_
    rintro e _ ⟨rfl,rfl⟩
    go_wp2_with fail
    refine Calls.mono HN.out ?_
    rintro e _ ⟨rfl,rfl⟩
    go_wp2_with fail
    rw[HE.out]
    exact dop_ret (w:=w) rfl rfl rfl hst5.out H5.out.2.1 hG1
   ·have hb:(nv==lt)=false:=by simpa using h1
    have HE:Hid (X=(⟨9,[],lt⟩,s)):=hdz (by rw[HE1.out,if_neg (by decide),if_neg (by decide),if_neg h1])
    clear HE1
    go_wp2_with fail
    refine Calls.mono HPl.out ?_
    rintro e _ ⟨rfl,rfl⟩
    go_wp2_with fail
    refine Calls.mono HN.out ?_
    rintro e _ ⟨rfl,rfl⟩
    go_wp2_with fail
    rw[HE.out]
    exact dop_ret (w:=w) rfl rfl rfl hst5.out H5.out.2.1 hG1
end Go.Proofs.YtlibhkehebioeaaGreatDoor
