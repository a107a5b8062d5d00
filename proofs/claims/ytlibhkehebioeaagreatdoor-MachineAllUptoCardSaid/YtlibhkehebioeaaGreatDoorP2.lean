/- A PART OF THE PROOF. No condition. -/
import Derived.Test.YtlibhkehebioeaaGreatDoorP1
import Derived.Test.YtlibhkehebioeaaGreatDoorP0
namespace Go.Proofs.YtlibhkehebioeaaGreatDoor
set_option linter.unusedVariables false
set_option linter.unusedSimpArgs false
set_option maxRecDepth 100000
set_option maxHeartbeats 40000000
open Go.RowKit
def TakeRes (p:Nat)(r:Nat×Nat×Int)(e:Ending):Prop:=e=.returned (.tuple #[.int .i64 (r.1:Int),.int .i64 (if r.2.2=0 then ((p+r.2.1:Nat):Int) else 0),.int .i64 r.2.2])
theorem TakeInt_in (Z:Nat→Prop) (A:Option Addr) (n c:Nat) (bs:List UInt8) (p:Nat) (w:World) (hp:p≤n) (hb:Rd w Z 1 A n (Lib.byteCells bs)) (hn:n≤1099511627770) :
 Calls Tryz.prog 82 #[.slice A n c,.int .i64 (p:Int)] w λe w'=>TakeRes p (takeB (bs.drop p)) e∧w=w':=by
 have HB:=hdz hb
 have hlen:bs.length=n:=by simpa[Lib.byteCells] using hb.1
 have HN:=hdz hlen
 clear hlen hb
 have h0:¬(p:Int)<0:=by omega
 have h1:¬(n:Int)<(p:Int):=by omega
 go_enter Tryz.func82,Tryz.ntmps82
 go_wp2
 go_loop [7,18] (λv i=>∃ (k:Nat) (y:Int),k≤9∧i=.int .i64 (k:Int)∧v=.int .i64 y∧Hid (∃v':Nat,y=(v':Int)∧p+k≤n∧v'<2 ^ (7*k)∧takeGo (9 - k) (bs.drop (p+k)) k v'=takeB (bs.drop p))) (λ_ i=>9 - (intOf i).toNat)
 case atStart=>exact⟨0,0,by omega,rfl,rfl,0,rfl,by omega,by decide,rfl⟩
 case round=>
  obtain⟨k,y,hk,rfl,rfl,HR⟩:=hrel
  obtain⟨v',hy,hpk,hv',hgo⟩:=HR.out
  by_cases hk9:k<9
  ·obtain⟨f,hf⟩:∃f,9 - k=f+1:=⟨8 - k,by omega⟩
   rw[hf] at hgo
   by_cases hin:p+k<n
   ·obtain⟨b,o,rfl,hzb,hll,hcell⟩:=HB.out.at1 hin
    have hkb:p+k<bs.length:=by rw[HN.out];exact hin
    rw[show (Lib.byteCells bs)[p+k]=.int .u8 (bs[p+k].toNat:Int) by simp[Lib.byteCells]] at hcell
    rw[takeGo_cons f bs (p+k) k v' hkb] at hgo
    obtain⟨ch,hch⟩:∃ch:UInt8,ch=bs[p+k]:=⟨_,rfl⟩
    rw[←hch] at hcell hgo
    obtain⟨cz,hcz⟩:∃cz:Int,cz=(ch.toNat:Int):=⟨_,rfl⟩
    have hE:=take_step v' ch.toNat k hv' ch.toNat_lt hk9
    have hlt:=take_lt v' ch.toNat k hv'
    have hz63:v'+(ch.toNat % 128)*2 ^ (7*k)<2 ^ 63:=ltz hlt (Nat.pow_le_pow_right (by decide) (by omega))
    obtain⟨z,hz⟩:∃z:Nat,z=v'+(ch.toNat % 128)*2 ^ (7*k):=⟨_,rfl⟩
    obtain⟨zi,hzi⟩:∃zi:Int,zi=(z:Int):=⟨_,rfl⟩
    rw[←hz] at hgo hlt hz63 hE
    rw[←hy,←hcz,←hzi] at hE
    rw[←hcz] at hcell
    have hc0:0≤cz:=by omega
    have hc256:cz<256:=by have:=ch.toNat_lt;omega
    have g0:0≤zi:=by omega
    have HE:=hdz hE
    have HH:=hdz (aiz hcz (aiz hzi (aiz hlt (aiz hz63 (aiz hgo hf)))))
    clear hzb hll hch hcz hE hlt hz63 hz hzi hgo hv' hpk hy hf HR
    go_upto_region 11 with (fail)
    rw[HE.out]
    have HV:=hdz HH.out
    by_cases hbig:127<cz
    ·have hfin:∃v':Nat,zi=(v':Int)∧p+(k+1)≤n∧v'<2 ^ (7*(k+1))∧takeGo (9 - (k+1)) (bs.drop (p+(k+1))) (k+1) v'=takeB (bs.drop p):=by
      obtain⟨hcz,hzi,hlt,_,hgo,hf⟩:=HV.out
      rw[if_pos (by omega)] at hgo
      refine⟨z,hzi,by omega,hlt,?_⟩
      rw[show 9 - (k+1)=f by omega,show p+(k+1)=p+k+1 by omega]
      exact hgo
     have HF:=hdz hfin
     clear hfin HV HH HE
     go_wp2
     exact⟨⟨k+1,zi,by omega,congrArg _ (by omega),rfl,HF.out⟩,by simp[intOf];omega⟩
    ·by_cases hzero:cz=0∧0<k
     ·obtain⟨rfl,hk0⟩:=hzero
      have hfin:TakeRes p (takeB (bs.drop p)) (.returned (.tuple #[.int .i64 0,.int .i64 0,.int .i64 14])):=by
       obtain⟨hcz,hzi,hlt,_,hgo,hf⟩:=HV.out
       rw[if_neg (by omega),if_pos (.inl ⟨by omega,hk0⟩)] at hgo
       rw[←hgo];rfl
      have HF:=hdz hfin
      clear hfin HV HH HE
      go_wp2
      go_ret3
      exact⟨HF.out,rfl⟩
     ·by_cases hbz:(4611686018427387904:Int)<zi
      ·have hfin:TakeRes p (takeB (bs.drop p)) (.returned (.tuple #[.int .i64 0,.int .i64 0,.int .i64 14])):=by
        obtain⟨hcz,hzi,hlt,_,hgo,hf⟩:=HV.out
        rw[if_neg (by omega),if_pos (.inr (by omega))] at hgo
        rw[←hgo];rfl
       have HF:=hdz hfin
       clear hfin HV HH HE
       by_cases hc00:cz=0
       ·obtain rfl:k=0:=by omega
        subst hc00
        go_wp2
        go_ret3
        exact⟨HF.out,rfl⟩
       ·go_wp2
        go_ret3
        exact⟨HF.out,rfl⟩
      ·have hfin:TakeRes p (takeB (bs.drop p)) (.returned (.tuple #[.int .i64 zi,.int .i64 ((p:Int)+(k:Int)+1),.int .i64 0])):=by
        obtain⟨hcz,hzi,hlt,_,hgo,hf⟩:=HV.out
        rw[if_neg (by omega),if_neg (by omega)] at hgo
        rw[←hgo]
        unfold TakeRes
        rw[hzi]
        simp
        omega
       have HF:=hdz hfin
       clear hfin HV HH HE
       by_cases hc00:cz=0
       ·obtain rfl:k=0:=by omega
        subst hc00
        go_wp2
        go_ret3
        exact⟨HF.out,rfl⟩
       ·go_wp2
        go_ret3
        exact⟨HF.out,rfl⟩
   ·have hfin:TakeRes p (takeB (bs.drop p)) (.returned (.tuple #[.int .i64 0,.int .i64 0,.int .i64 10])):=by
     rw[takeGo_end f bs (p+k) k v' (by rw[HN.out];omega)] at hgo
     rw[←hgo];rfl
    have HF:=hdz hfin
    clear hfin hgo hf hv' hpk HR hy
    go_wp2
    go_ret3
    exact⟨HF.out,rfl⟩
  ·obtain rfl:k=9:=by omega
   have hfin:TakeRes p (takeB (bs.drop p)) (.returned (.tuple #[.int .i64 0,.int .i64 0,.int .i64 14])):=by
    rw[←hgo];rfl
   have HF:=hdz hfin
   clear hfin hgo hv' hpk HR hy
   go_wp2
   go_ret3
   exact⟨HF.out,rfl⟩
def Rdr (w:World)(g:Nat)(A:Option Addr)(n c p:Nat)(bad:Bool):Prop:=Blk w g 121 #[.slice A n c,.int .i64 (p:Int),.bool bad]
theorem Rdr.spoilt {w:World}{g:Nat}{A:Option Addr}{n c p:Nat}{bad:Bool}(h:Rdr w g A n c p bad)(k:Nat):Rdr ((w.drewN k).setCell ⟨g,2,none⟩ (.bool true)) g A n c p true:=by
 simpa[Rdr] using (Blk.drewN h k).set 2 (.bool true)
theorem Rdr.goes {w:World}{g:Nat}{A:Option Addr}{n c p:Nat}{bad:Bool}(h:Rdr w g A n c p bad)(k p':Nat):Rdr ((w.drewN k).setCell ⟨g,1,none⟩ (.int .i64 (p':Int))) g A n c p' bad:=by
 simpa[Rdr] using (Blk.drewN h k).set 1 (.int .i64 (p':Int))
theorem keep_step (g i k:Nat)(w:World)(u:Value):Keep (λk=>k≠g) w ((w.drewN k).setCell ⟨g,i,none⟩ u):=((krz _ w).drewN k).setCell (λ_ h=>h rfl) u
def CountPost (g:Nat)(A:Option Addr)(n c:Nat)(w:World)(r:Nat×Nat×Bool)(e:Ending)(w':World):Prop:=
 e=.returned (.int .i64 (r.1:Int))∧Rdr w' g A n c r.2.1 r.2.2∧Keep (λk=>k≠g) w w'
theorem rcount_any (g:Nat) (Z:Nat→Prop) (A:Option Addr) (n c:Nat) (bs:List UInt8) (p:Nat) (bad:Bool) (most:Int) (w:World) (hg:Rdr w g A n c p bad) (hp:p≤n) (hb:Rd w Z 1 A n (Lib.byteCells bs)) (hn:n≤1099511627770) :
 Calls Tryz.prog 49 #[.pointer (some ⟨g,0,none⟩),.int .i64 most] w λe w'=>CountPost g A n c w (rCount bs p bad most) e w':=by
 have c0:=hg.cell 0
 have c1:=hg.cell 1
 have c2:=hg.cell 2
 have f1:=hg.frozen 1
 have f2:=hg.frozen 2
 simp at c0 c1 c2
 obtain⟨r,hr⟩:=exz (takeB (bs.drop p))
 have hT:=λk=>TakeInt_in Z A n c bs p (w.drewN k) hp (hb.drewN k) hn
 rw[←hr] at hT
 have HT:=hdz hT
 have HG:=hdz hg
 have HR:=hdz hr
 clear hT hg hr hb
 obtain⟨rv,rl,re⟩:=r
 cases bad with
 | true=>
  go_enter Tryz.func49,Tryz.ntmps49
  go_wp2_with fail
  go_quiet ((go_at_call 82;exact quiet_left (HT.out _)))
  go_wp2_with fail
  all_goals
   go_ret
   refine⟨ret_int (by simp[rCount]),?_,keep_step _ _ _ _ _⟩
   have:=HG.out.spoilt nq
   simpa[rCount] using this
 | false=>
  by_cases he:re=0
  ·subst he
   by_cases hm:most<(rv:Int)
   ·go_enter Tryz.func49,Tryz.ntmps49
    go_wp2_with fail
    go_quiet ((go_at_call 82;exact quiet_left (HT.out _)))
    go_wp2_with fail
    go_ret
    have e1:rCount bs p false most=(0,p,true):=by rw[rCount,if_pos (.inr (.inr (by rw[←HR.out];exact hm)))]
    rw[e1]
    exact⟨rfl,HG.out.spoilt nq,keep_step _ _ _ _ _⟩
   ·go_enter Tryz.func49,Tryz.ntmps49
    go_wp2_with fail
    go_quiet ((go_at_call 82;exact quiet_left (HT.out _)))
    go_wp2_with fail
    go_ret
    have e1:rCount bs p false most=(rv,p+rl,false):=by
     rw[rCount,←HR.out]
     rw[if_neg (by simp;omega)]
    rw[e1]
    exact⟨rfl,by simpa using HG.out.goes nq (p+rl),keep_step _ _ _ _ _⟩
  ·go_enter Tryz.func49,Tryz.ntmps49
   go_wp2_with fail
   go_quiet ((go_at_call 82;exact quiet_left (HT.out _)))
   go_wp2_with fail
   go_ret
   have e1:rCount bs p false most=(0,p,true):=by rw[rCount,if_pos (.inr (.inl (by rw[←HR.out];exact he)))]
   rw[e1]
   exact⟨rfl,HG.out.spoilt nq,keep_step _ _ _ _ _⟩
def TextPost (g:Nat)(A:Option Addr)(n c:Nat)(w:World)(r:List UInt8×Nat×Bool)(e:Ending)(w':World):Prop:=
 e=.returned (.string ⟨r.1.toArray⟩)∧Rdr w' g A n c r.2.1 r.2.2∧Keep (λk=>k≠g) w w'
theorem rtext_any (g : Nat) (Z : Nat → Prop) (A:Option Addr) (n c:Nat) (bs:List UInt8) (p:Nat) (bad:Bool) (most:Int) (w:World) (hg:Rdr w g A n c p bad) (hz:∀k,Z k→k≠g) (hp:p≤n) (hnc:n≤c) (hb:Rd w Z 1 A n (Lib.byteCells bs)) (hn:n≤1099511627770) :
 Calls Tryz.prog 83 #[.pointer (some ⟨g,0,none⟩),.int .i64 most] w λe w'=>TextPost g A n c w (rText bs p bad most) e w':=by
 have hC:=rcount_any g Z A n c bs p bad most w hg hp hb hn
 have hle := rCount_le bs p bad most (by have:bs.length=n:=by simpa[Lib.byteCells] using hb.1
                                         omega)
 have hlen:bs.length=n:=by simpa[Lib.byteCells] using hb.1
 obtain⟨r,hr⟩:=exz (rCount bs p bad most)
 have hT:rText bs p bad most=if r.2.2=true∨bs.length<r.2.1+r.1 then ([],r.2.1,true) else ((bs.drop r.2.1).take r.1,r.2.1+r.1,false):=by rw[hr];rfl
 rw[←hr] at hC hle
 obtain⟨t,ht⟩:=exz (rText bs p bad most)
 rw[←ht] at hT ⊢
 clear ht
 obtain⟨rv,rp,rb⟩:=r
 dsimp only at hC hle hT
 have HC:=hdz hC
 have HN:=hdz (aiz hlen (aiz hle (aiz hr hT)))
 have HB:=hdz hb
 clear hC hle hlen hr hT hg hb
 go_enter Tryz.func83,Tryz.ntmps83
 go_wp2_with fail
 refine HC.out.mono ?_
 rintro e w1 ⟨rfl,hg1,hk1⟩
 have hb1:=HB.out.keep (hk1.weaken (λk _ hk=>hz k hk))
 have c0:=hg1.cell 0
 have c1:=hg1.cell 1
 have c2:=hg1.cell 2
 have f1:=hg1.frozen 1
 have f2:=hg1.frozen 2
 simp at c0 c1 c2
 have HG:=hdz (aiz hg1 (aiz hk1 hb1))
 clear hg1 hk1 hb1
 cases rb with
 | true=>
  go_wp2_with fail
  go_quiet (fail)
  go_wp2_with fail
  go_ret
  obtain⟨_,_,_,hT⟩:=HN.out
  rw[if_pos (by simp)] at hT
  rw[hT]
  exact⟨rfl,HG.out.1.spoilt _,HG.out.2.1.comp (keep_step g 2 _ w1 _) (λ_ _ h=>h) (λ_ _ h=>h)⟩
 | false=>
  obtain⟨hlen,hle,_,hT⟩:=HN.out
  have hpn:rp≤n:=by omega
  by_cases hbig:(n:Int) - (rp:Int)<(rv:Int)
  ·have hlt:bs.length<rp+rv:=by omega
   rw[if_pos (.inr hlt)] at hT
   have HL:=hdz hT
   clear hlt hlen hle hT HN
   go_wp2_with fail
   go_quiet (fail)
   go_wp2_with fail
   go_ret
   rw[HL.out]
   exact⟨rfl,HG.out.1.spoilt _,HG.out.2.1.comp (keep_step g 2 _ w1 _) (λ_ _ h=>h) (λ_ _ h=>h)⟩
  ·have hlt:rp+rv≤n:=by omega
   rw[if_neg (by rintro (h | h);exact absurd h (by decide);omega)] at hT
   have HL:=hdz hT
   clear hlen hle hT HN
   go_wp2_with fail
   go_quiet (fail)
   go_wp2_with fail
   have hcut:∀k,Sem.run Tryz.prog (convert 35 9 (.slice (if c=rp then A else Option.map (λx=>x.add rp) A) rv (c - rp))) (w1.drewN k)=.ok (.string ⟨((bs.drop rp).take rv).toArray⟩) (w1.drewN k):=λk=>by
    have h1:=(HG.out.2.2.drewN k).cut1 hlt hnc
    rw[byteCells_cut] at h1
    exact run_conv_str Tryz.underlying35 Tryz.underlying5 Tryz.underlying9 h1 (c - rp)
   go_quiet (fail)
   have HX:=hdz hcut
   clear hcut
   go_wp2_with fail
   go_ret
   ·rename_i h
    rw[HL.out]
    rw[show TextPost g A n rp w=TextPost g A n c w by rw[h]]
    exact⟨rfl,by simpa using HG.out.1.goes _ (rp+rv),HG.out.2.1.comp (keep_step g 1 _ w1 _) (λ_ _ h=>h) (λ_ _ h=>h)⟩
   ·go_ret
    rw[HL.out]
    exact⟨rfl,by simpa using HG.out.1.goes _ (rp+rv),HG.out.2.1.comp (keep_step g 1 _ w1 _) (λ_ _ h=>h) (λ_ _ h=>h)⟩
theorem rsound_any (g:Nat) (A:Option Addr) (n c p:Nat) (bad:Bool) (w:World) (hg:Rdr w g A n c p bad) :
 Calls Tryz.prog 53 #[.pointer (some ⟨g,0,none⟩)] w λe w'=>e=.returned (.bool (!bad && decide (p=n)))∧∃k,w'=w.drewN k:=by
 have c0:=hg.cell 0
 have c1:=hg.cell 1
 have c2:=hg.cell 2
 simp at c0 c1 c2
 clear hg
 go_enter Tryz.func53,Tryz.ntmps53
 cases bad with
 | true=>
  go_wp2_with fail
  go_quiet (fail)
  go_wp2_with fail
  go_ret
  exact⟨by simp,_,rfl⟩
 | false=>
  go_wp2_with fail
  go_quiet (fail)
  go_wp2_with fail
  go_ret
  exact⟨ret_bool (by rw[Bool.eq_iff_iff];simp;exact Int.ofNat_inj),_,rfl⟩
end Go.Proofs.YtlibhkehebioeaaGreatDoor
namespace Go.Proofs
open Go.Shelf
def Tryz.lays172_ren:Go.Shelf.Ren:=⟨fun | 172=>139 | 244=>162 | 245=>163 | 247=>174 | 279=>175 | 280=>176 | 281=>177 | 282=>178 | 287=>184 | 316=>185 | 171=>119 | 205=>186 | 321=>191 | 322=>192 | 243=>140 | 246=>164 | 283=>179 | 284=>180 | 285=>181 | 286=>182 | 129=>151 | 317=>187 | 318=>188 | 319=>189 | 320=>190 | 337=>193 | 338=>194 | n=>n,fun | 9=>9 | 3=>3 | 75=>187 | 76=>188 | 4=>4 | 5=>5 | 167=>216 | 37=>35 | 0=>0 | 85=>217 | 2=>2 | 168=>219 | 53=>200 | 175=>229 | 46=>104 | 210=>233 | 127=>239 | 145=>242 | 143=>240 | 21=>21 | 171=>222 | 173=>224 | 212=>236 | 51=>133 | 20=>20 | 213=>237 | 232=>243 | 233=>244 | 80=>245 | n=>n,fun | 15=>2 | 16=>3 | 17=>4 | 18=>5 | 19=>6 | n=>n⟩
theorem Tryz.lays172:Go.Proofs.Lays.n172 Tryz.prog Tryz.lays172_ren:={
 mixed:=by kernel_rfl
 f129:=Tryz.func151.trans (congrArg some (by kernel_rfl))
 f171:=Tryz.func119.trans (congrArg some (by kernel_rfl))
 f172:=Tryz.func139.trans (congrArg some (by kernel_rfl))
 f205:=Tryz.func186.trans (congrArg some (by kernel_rfl))
 f243:=Tryz.func140.trans (congrArg some (by kernel_rfl))
 f244:=Tryz.func162.trans (congrArg some (by kernel_rfl))
 f245:=Tryz.func163.trans (congrArg some (by kernel_rfl))
 f246:=Tryz.func164.trans (congrArg some (by kernel_rfl))
 f247:=Tryz.func174.trans (congrArg some (by kernel_rfl))
 f279:=Tryz.func175.trans (congrArg some (by kernel_rfl))
 f280:=Tryz.func176.trans (congrArg some (by kernel_rfl))
 f281:=Tryz.func177.trans (congrArg some (by kernel_rfl))
 f282:=Tryz.func178.trans (congrArg some (by kernel_rfl))
 f283:=Tryz.func179.trans (congrArg some (by kernel_rfl))
 f284:=Tryz.func180.trans (congrArg some (by kernel_rfl))
 f285:=Tryz.func181.trans (congrArg some (by kernel_rfl))
 f286:=Tryz.func182.trans (congrArg some (by kernel_rfl))
 f287:=Tryz.func184.trans (congrArg some (by kernel_rfl))
 f316:=Tryz.func185.trans (congrArg some (by kernel_rfl))
 f317:=Tryz.func187.trans (congrArg some (by kernel_rfl))
 f318:=Tryz.func188.trans (congrArg some (by kernel_rfl))
 f319:=Tryz.func189.trans (congrArg some (by kernel_rfl))
 f320:=Tryz.func190.trans (congrArg some (by kernel_rfl))
 f321:=Tryz.func191.trans (congrArg some (by kernel_rfl))
 f322:=Tryz.func192.trans (congrArg some (by kernel_rfl))
 f337:=Tryz.func193.trans (congrArg some (by kernel_rfl))
 f338:=Tryz.func194.trans (congrArg some (by kernel_rfl))
 t0:=Tryz.underlying0
 a0:=Tryz.isAgg0
 z0:=Tryz.sizeOf0
 v0:=Tryz.zeroValue0
 t2:=Tryz.underlying2
 a2:=Tryz.isAgg2
 z2:=Tryz.sizeOf2
 v2:=Tryz.zeroValue2
 t3:=Tryz.underlying3
 a3:=Tryz.isAgg3
 z3:=Tryz.sizeOf3
 v3:=Tryz.zeroValue3
 t4:=Tryz.underlying4
 a4:=Tryz.isAgg4
 z4:=Tryz.sizeOf4
 v4:=Tryz.zeroValue4
 t5:=Tryz.underlying5
 a5:=Tryz.isAgg5
 z5:=Tryz.sizeOf5
 v5:=Tryz.zeroValue5
 t9:=Tryz.underlying9
 a9:=Tryz.isAgg9
 z9:=Tryz.sizeOf9
 v9:=Tryz.zeroValue9
 t20:=Tryz.underlying20
 a20:=Tryz.isAgg20
 z20:=Tryz.sizeOf20
 v20:=Tryz.zeroValue20
 t21:=Tryz.underlying21
 a21:=Tryz.isAgg21
 z21:=Tryz.sizeOf21
 v21:=Tryz.zeroValue21
 t37:=Tryz.underlying35
 a37:=Tryz.isAgg35
 z37:=Tryz.sizeOf35
 v37:=Tryz.zeroValue35
 t46:=Tryz.underlying104
 a46:=Tryz.isAgg104
 z46:=Tryz.sizeOf104
 v46:=Tryz.zeroValue104
 t51:=Tryz.underlying133
 a51:=Tryz.isAgg133
 z51:=Tryz.sizeOf133
 v51:=Tryz.zeroValue133
 t53:=Tryz.underlying200
 a53:=Tryz.isAgg200
 z53:=Tryz.sizeOf200
 v53:=Tryz.zeroValue200
 t75:=Tryz.underlying187
 a75:=Tryz.isAgg187
 z75:=Tryz.sizeOf187
 v75:=Tryz.zeroValue187
 t76:=Tryz.underlying188
 a76:=Tryz.isAgg188
 z76:=Tryz.sizeOf188
 v76:=Tryz.zeroValue188
 t85:=Tryz.underlying217
 a85:=Tryz.isAgg217
 z85:=Tryz.sizeOf217
 v85:=Tryz.zeroValue217
 t127:=Tryz.underlying239
 a127:=Tryz.isAgg239
 z127:=Tryz.sizeOf239
 v127:=Tryz.zeroValue239
 t143:=Tryz.underlying240
 a143:=Tryz.isAgg240
 z143:=Tryz.sizeOf240
 v143:=Tryz.zeroValue240
 t145:=Tryz.underlying242
 a145:=Tryz.isAgg242
 z145:=Tryz.sizeOf242
 v145:=Tryz.zeroValue242
 t167:=Tryz.underlying216
 a167:=Tryz.isAgg216
 z167:=Tryz.sizeOf216
 v167:=Tryz.zeroValue216
 t168:=Tryz.underlying219
 a168:=Tryz.isAgg219
 z168:=Tryz.sizeOf219
 v168:=Tryz.zeroValue219
 t171:=Tryz.underlying222
 a171:=Tryz.isAgg222
 z171:=Tryz.sizeOf222
 v171:=Tryz.zeroValue222
 t173:=Tryz.underlying224
 a173:=Tryz.isAgg224
 z173:=Tryz.sizeOf224
 v173:=Tryz.zeroValue224
 t175:=Tryz.underlying229
 a175:=Tryz.isAgg229
 z175:=Tryz.sizeOf229
 v175:=Tryz.zeroValue229
 t210:=Tryz.underlying233
 a210:=Tryz.isAgg233
 z210:=Tryz.sizeOf233
 v210:=Tryz.zeroValue233
 t212:=Tryz.underlying236
 a212:=Tryz.isAgg236
 z212:=Tryz.sizeOf236
 v212:=Tryz.zeroValue236
 t213:=Tryz.underlying237
 a213:=Tryz.isAgg237
 z213:=Tryz.sizeOf237
 t232:=Tryz.underlying243
 a232:=Tryz.isAgg243
 z232:=Tryz.sizeOf243
 v232:=Tryz.zeroValue243
 t233:=Tryz.underlying244
 a233:=Tryz.isAgg244
 z233:=Tryz.sizeOf244
 v233:=Tryz.zeroValue244
 g15:=by kernel_rfl
 g16:=by kernel_rfl
 g17:=by kernel_rfl
 g18:=by kernel_rfl
 g19:=by kernel_rfl }
open Go.RowKit in
theorem Tryz.strconv_Atoi (s:ByteArray)(n:Int)(hl:s.size≤18)(h:Lib.atoi s.data.toList=some n)(w:World) :
 Calls Tryz.prog 139 #[.string s] w λe w'=>e=.returned (.tuple #[.int .i64 n,.nilIface])∧∃t,w'=Lib.bytesWorld w 5 t:=Any.strconv_Atoi Tryz.lays172 s n hl h w
def Tryz.laysM171_ren:Go.Shelf.Ren:=⟨fun | 171=>119 | 243=>140 | 246=>164 | 283=>179 | 284=>180 | 285=>181 | 286=>182 | 129=>151 | 317=>187 | 318=>188 | 319=>189 | 320=>190 | 337=>193 | 338=>194 | n=>n,fun | 3=>3 | 9=>9 | 2=>2 | 4=>4 | 171=>222 | 0=>0 | 53=>200 | 37=>35 | 5=>5 | 173=>224 | 212=>236 | 51=>133 | 20=>20 | 213=>237 | 46=>104 | 232=>243 | 233=>244 | n=>n,fun | 17=>4 | 18=>5 | 19=>6 | n=>n⟩
theorem Tryz.laysM171:Go.Proofs.LaysM.n171 Tryz.prog Tryz.laysM171_ren:={
 mixed:=by kernel_rfl
 f129:=Tryz.func151.trans (congrArg some (by kernel_rfl))
 f171:=Tryz.func119.trans (congrArg some (by kernel_rfl))
 f243:=Tryz.func140.trans (congrArg some (by kernel_rfl))
 f246:=Tryz.func164.trans (congrArg some (by kernel_rfl))
 f283:=Tryz.func179.trans (congrArg some (by kernel_rfl))
 f284:=Tryz.func180.trans (congrArg some (by kernel_rfl))
 f285:=Tryz.func181.trans (congrArg some (by kernel_rfl))
 f286:=Tryz.func182.trans (congrArg some (by kernel_rfl))
 f317:=Tryz.func187.trans (congrArg some (by kernel_rfl))
 f318:=Tryz.func188.trans (congrArg some (by kernel_rfl))
 f319:=Tryz.func189.trans (congrArg some (by kernel_rfl))
 f320:=Tryz.func190.trans (congrArg some (by kernel_rfl))
 f337:=Tryz.func193.trans (congrArg some (by kernel_rfl))
 f338:=Tryz.func194.trans (congrArg some (by kernel_rfl))
 t0:=Tryz.underlying0
 a0:=Tryz.isAgg0
 z0:=Tryz.sizeOf0
 v0:=Tryz.zeroValue0
 t2:=Tryz.underlying2
 a2:=Tryz.isAgg2
 z2:=Tryz.sizeOf2
 v2:=Tryz.zeroValue2
 t3:=Tryz.underlying3
 a3:=Tryz.isAgg3
 z3:=Tryz.sizeOf3
 v3:=Tryz.zeroValue3
 t4:=Tryz.underlying4
 a4:=Tryz.isAgg4
 z4:=Tryz.sizeOf4
 v4:=Tryz.zeroValue4
 t5:=Tryz.underlying5
 a5:=Tryz.isAgg5
 z5:=Tryz.sizeOf5
 v5:=Tryz.zeroValue5
 t9:=Tryz.underlying9
 a9:=Tryz.isAgg9
 z9:=Tryz.sizeOf9
 v9:=Tryz.zeroValue9
 t20:=Tryz.underlying20
 a20:=Tryz.isAgg20
 z20:=Tryz.sizeOf20
 v20:=Tryz.zeroValue20
 t37:=Tryz.underlying35
 a37:=Tryz.isAgg35
 z37:=Tryz.sizeOf35
 v37:=Tryz.zeroValue35
 t46:=Tryz.underlying104
 a46:=Tryz.isAgg104
 z46:=Tryz.sizeOf104
 v46:=Tryz.zeroValue104
 t51:=Tryz.underlying133
 a51:=Tryz.isAgg133
 z51:=Tryz.sizeOf133
 v51:=Tryz.zeroValue133
 t53:=Tryz.underlying200
 a53:=Tryz.isAgg200
 z53:=Tryz.sizeOf200
 v53:=Tryz.zeroValue200
 t171:=Tryz.underlying222
 a171:=Tryz.isAgg222
 z171:=Tryz.sizeOf222
 v171:=Tryz.zeroValue222
 t173:=Tryz.underlying224
 a173:=Tryz.isAgg224
 z173:=Tryz.sizeOf224
 v173:=Tryz.zeroValue224
 t212:=Tryz.underlying236
 a212:=Tryz.isAgg236
 z212:=Tryz.sizeOf236
 v212:=Tryz.zeroValue236
 t213:=Tryz.underlying237
 a213:=Tryz.isAgg237
 z213:=Tryz.sizeOf237
 t232:=Tryz.underlying243
 a232:=Tryz.isAgg243
 z232:=Tryz.sizeOf243
 v232:=Tryz.zeroValue243
 t233:=Tryz.underlying244
 a233:=Tryz.isAgg244
 z233:=Tryz.sizeOf244
 v233:=Tryz.zeroValue244
 g17:=by kernel_rfl
 g18:=by kernel_rfl
 g19:=by kernel_rfl
 i0:=by kernel_rfl
 i2:=by kernel_rfl
 i3:=by kernel_rfl
 i4:=by kernel_rfl
 i5:=by kernel_rfl
 i9:=by kernel_rfl
 i20:=by kernel_rfl
 i37:=by kernel_rfl
 i46:=by kernel_rfl
 i51:=by kernel_rfl
 i53:=by kernel_rfl
 i171:=by kernel_rfl
 i173:=by kernel_rfl
 i212:=by kernel_rfl
 i232:=by kernel_rfl
 i233:=by kernel_rfl
 m17:=by kernel_rfl
 m18:=by kernel_rfl
 m19:=by kernel_rfl }
open Go.RowKit Go.Sort Go.Lib in
theorem Tryz.strconv_Itoa (n : Int)(h0 : -9223372036854775808 ≤ n)(h1 : n ≤ 9223372036854775807)(w : World)(htab : Lib.TabIs Tryz.prog w "internal/strconv.uint64pow10" .u64 Lib.pow10Tab) :
 Calls Tryz.prog 119 #[.int .i64 n] w λe w'=>e=.returned (.string ⟨(Lib.itoa n).toArray⟩)∧∃k os,w'=grow (w.drewN k) os:=Any.strconv_Itoa Tryz.laysM171 n h0 h1 w htab
def Tryz.laysC172_ren:Go.Shelf.Ren:=⟨fun | 172=>139 | 244=>162 | 245=>163 | 247=>174 | 279=>175 | 280=>176 | 281=>177 | 282=>178 | 287=>184 | 316=>185 | 171=>119 | 205=>186 | 321=>191 | 322=>192 | 243=>140 | 246=>164 | 283=>179 | 284=>180 | 285=>181 | 286=>182 | 129=>151 | 317=>187 | 318=>188 | 319=>189 | 320=>190 | 337=>193 | 338=>194 | n=>n,fun | 9=>9 | 3=>3 | 75=>187 | 76=>188 | 4=>4 | 5=>5 | 167=>216 | 37=>35 | 0=>0 | 85=>217 | 2=>2 | 168=>219 | 53=>200 | 175=>229 | 46=>104 | 210=>233 | 127=>239 | 145=>242 | 143=>240 | 21=>21 | 171=>222 | 173=>224 | 212=>236 | 51=>133 | 20=>20 | 213=>237 | 232=>243 | 233=>244 | 80=>245 | n=>n,fun | 15=>2 | 16=>3 | 17=>4 | 18=>5 | 19=>6 | n=>n⟩
theorem Tryz.laysC172:Go.Proofs.LaysC.n172 Tryz.prog Tryz.laysC172_ren:={
 mixed:=by kernel_rfl
 f129:=Tryz.func151.trans (congrArg some (by kernel_rfl))
 f171:=Tryz.func119.trans (congrArg some (by kernel_rfl))
 f172:=Tryz.func139.trans (congrArg some (by kernel_rfl))
 f205:=Tryz.func186.trans (congrArg some (by kernel_rfl))
 f243:=Tryz.func140.trans (congrArg some (by kernel_rfl))
 f244:=Tryz.func162.trans (congrArg some (by kernel_rfl))
 f245:=Tryz.func163.trans (congrArg some (by kernel_rfl))
 f246:=Tryz.func164.trans (congrArg some (by kernel_rfl))
 f247:=Tryz.func174.trans (congrArg some (by kernel_rfl))
 f279:=Tryz.func175.trans (congrArg some (by kernel_rfl))
 f280:=Tryz.func176.trans (congrArg some (by kernel_rfl))
 f281:=Tryz.func177.trans (congrArg some (by kernel_rfl))
 f282:=Tryz.func178.trans (congrArg some (by kernel_rfl))
 f283:=Tryz.func179.trans (congrArg some (by kernel_rfl))
 f284:=Tryz.func180.trans (congrArg some (by kernel_rfl))
 f285:=Tryz.func181.trans (congrArg some (by kernel_rfl))
 f286:=Tryz.func182.trans (congrArg some (by kernel_rfl))
 f287:=Tryz.func184.trans (congrArg some (by kernel_rfl))
 f316:=Tryz.func185.trans (congrArg some (by kernel_rfl))
 f317:=Tryz.func187.trans (congrArg some (by kernel_rfl))
 f318:=Tryz.func188.trans (congrArg some (by kernel_rfl))
 f319:=Tryz.func189.trans (congrArg some (by kernel_rfl))
 f320:=Tryz.func190.trans (congrArg some (by kernel_rfl))
 f321:=Tryz.func191.trans (congrArg some (by kernel_rfl))
 f322:=Tryz.func192.trans (congrArg some (by kernel_rfl))
 f337:=Tryz.func193.trans (congrArg some (by kernel_rfl))
 f338:=Tryz.func194.trans (congrArg some (by kernel_rfl))
 t0:=Tryz.underlying0
 a0:=Tryz.isAgg0
 z0:=Tryz.sizeOf0
 v0:=Tryz.zeroValue0
 t2:=Tryz.underlying2
 a2:=Tryz.isAgg2
 z2:=Tryz.sizeOf2
 v2:=Tryz.zeroValue2
 t3:=Tryz.underlying3
 a3:=Tryz.isAgg3
 z3:=Tryz.sizeOf3
 v3:=Tryz.zeroValue3
 t4:=Tryz.underlying4
 a4:=Tryz.isAgg4
 z4:=Tryz.sizeOf4
 v4:=Tryz.zeroValue4
 t5:=Tryz.underlying5
 a5:=Tryz.isAgg5
 z5:=Tryz.sizeOf5
 v5:=Tryz.zeroValue5
 t9:=Tryz.underlying9
 a9:=Tryz.isAgg9
 z9:=Tryz.sizeOf9
 v9:=Tryz.zeroValue9
 t20:=Tryz.underlying20
 a20:=Tryz.isAgg20
 z20:=Tryz.sizeOf20
 v20:=Tryz.zeroValue20
 t21:=Tryz.underlying21
 a21:=Tryz.isAgg21
 z21:=Tryz.sizeOf21
 v21:=Tryz.zeroValue21
 t37:=Tryz.underlying35
 a37:=Tryz.isAgg35
 z37:=Tryz.sizeOf35
 v37:=Tryz.zeroValue35
 t46:=Tryz.underlying104
 a46:=Tryz.isAgg104
 z46:=Tryz.sizeOf104
 v46:=Tryz.zeroValue104
 t51:=Tryz.underlying133
 a51:=Tryz.isAgg133
 z51:=Tryz.sizeOf133
 v51:=Tryz.zeroValue133
 t53:=Tryz.underlying200
 a53:=Tryz.isAgg200
 z53:=Tryz.sizeOf200
 v53:=Tryz.zeroValue200
 t75:=Tryz.underlying187
 a75:=Tryz.isAgg187
 z75:=Tryz.sizeOf187
 v75:=Tryz.zeroValue187
 t76:=Tryz.underlying188
 a76:=Tryz.isAgg188
 z76:=Tryz.sizeOf188
 v76:=Tryz.zeroValue188
 t85:=Tryz.underlying217
 a85:=Tryz.isAgg217
 z85:=Tryz.sizeOf217
 v85:=Tryz.zeroValue217
 t127:=Tryz.underlying239
 a127:=Tryz.isAgg239
 z127:=Tryz.sizeOf239
 v127:=Tryz.zeroValue239
 t143:=Tryz.underlying240
 a143:=Tryz.isAgg240
 z143:=Tryz.sizeOf240
 v143:=Tryz.zeroValue240
 t145:=Tryz.underlying242
 a145:=Tryz.isAgg242
 z145:=Tryz.sizeOf242
 v145:=Tryz.zeroValue242
 t167:=Tryz.underlying216
 a167:=Tryz.isAgg216
 z167:=Tryz.sizeOf216
 v167:=Tryz.zeroValue216
 t168:=Tryz.underlying219
 a168:=Tryz.isAgg219
 z168:=Tryz.sizeOf219
 v168:=Tryz.zeroValue219
 t171:=Tryz.underlying222
 a171:=Tryz.isAgg222
 z171:=Tryz.sizeOf222
 v171:=Tryz.zeroValue222
 t173:=Tryz.underlying224
 a173:=Tryz.isAgg224
 z173:=Tryz.sizeOf224
 v173:=Tryz.zeroValue224
 t175:=Tryz.underlying229
 a175:=Tryz.isAgg229
 z175:=Tryz.sizeOf229
 v175:=Tryz.zeroValue229
 t210:=Tryz.underlying233
 a210:=Tryz.isAgg233
 z210:=Tryz.sizeOf233
 v210:=Tryz.zeroValue233
 t212:=Tryz.underlying236
 a212:=Tryz.isAgg236
 z212:=Tryz.sizeOf236
 v212:=Tryz.zeroValue236
 t213:=Tryz.underlying237
 a213:=Tryz.isAgg237
 z213:=Tryz.sizeOf237
 t232:=Tryz.underlying243
 a232:=Tryz.isAgg243
 z232:=Tryz.sizeOf243
 v232:=Tryz.zeroValue243
 t233:=Tryz.underlying244
 a233:=Tryz.isAgg244
 z233:=Tryz.sizeOf244
 v233:=Tryz.zeroValue244
 g15:=by kernel_rfl
 g16:=by kernel_rfl
 g17:=by kernel_rfl
 g18:=by kernel_rfl
 g19:=by kernel_rfl
 t80:=Tryz.underlying245
 a80:=Tryz.isAgg245
 z80:=Tryz.sizeOf245
 v80:=Tryz.zeroValue245
 i0:=by kernel_rfl
 i2:=by kernel_rfl
 i3:=by kernel_rfl
 i4:=by kernel_rfl
 i5:=by kernel_rfl
 i9:=by kernel_rfl
 i20:=by kernel_rfl
 i21:=by kernel_rfl
 i37:=by kernel_rfl
 i46:=by kernel_rfl
 i51:=by kernel_rfl
 i53:=by kernel_rfl
 i75:=by kernel_rfl
 i76:=by kernel_rfl
 i80:=by kernel_rfl
 i85:=by kernel_rfl
 i127:=by kernel_rfl
 i143:=by kernel_rfl
 i145:=by kernel_rfl
 i167:=by kernel_rfl
 i168:=by kernel_rfl
 i171:=by kernel_rfl
 i173:=by kernel_rfl
 i175:=by kernel_rfl
 i210:=by kernel_rfl
 i212:=by kernel_rfl
 i232:=by kernel_rfl
 i233:=by kernel_rfl
 m15:=by kernel_rfl
 m16:=by kernel_rfl
 m17:=by kernel_rfl
 m18:=by kernel_rfl
 m19:=by kernel_rfl
 c0:=by kernel_rfl
 c2:=by kernel_rfl
 c3:=by kernel_rfl
 c4:=by kernel_rfl
 c5:=by kernel_rfl
 c9:=by kernel_rfl
 c20:=by kernel_rfl
 c21:=by kernel_rfl
 c37:=by kernel_rfl
 c46:=by kernel_rfl
 c51:=by kernel_rfl
 c53:=by kernel_rfl
 c75:=by kernel_rfl
 c76:=by kernel_rfl
 c80:=by kernel_rfl
 c85:=by kernel_rfl
 c127:=by kernel_rfl
 c143:=by kernel_rfl
 c145:=by kernel_rfl
 c167:=by kernel_rfl
 c168:=by kernel_rfl
 c171:=by kernel_rfl
 c173:=by kernel_rfl
 c175:=by kernel_rfl
 c210:=by kernel_rfl
 c212:=by kernel_rfl
 c213:=by kernel_rfl
 c232:=by kernel_rfl
 c233:=by kernel_rfl }
open Go.RowKit in
theorem Tryz.strconv_Atoi_err_var (s : ByteArray)(hl : s.size ≤ 18)(h : Lib.atoi s.data.toList = none)(tp : TypeId)(p : Value)(w : World)(hvar : w.var? Tryz.prog "strconv.ErrSyntax" = some #[.iface tp p]) :
 Calls Tryz.prog 139 #[.string s] w λe w'=>∃N,e=.returned (.tuple #[.int .i64 0,.iface 219 (.pointer (some ⟨N,0,none⟩))])∧w.heap.size≤N∧w'.heap[N]?=some (.cells #[.string ⟨#[65,116,111,105]⟩,.string s,.iface tp p] 233 (0,0))∧Below w.heap.size w w':=Any.strconv_Atoi_err_var Tryz.laysC172 s hl h tp p w hvar
def Tryz.lays190_ren:Go.Shelf.Ren:=⟨fun | 190=>84 | 125=>122 | 258=>121 | 128=>150 | 129=>151 | 302=>141 | 303=>142 | 304=>143 | 305=>144 | 306=>145 | 307=>146 | 308=>147 | 309=>148 | 310=>149 | 333=>165 | 329=>166 | 330=>167 | 334=>168 | 335=>169 | 336=>170 | 344=>183 | n=>n,fun | 31=>50 | 9=>9 | 3=>3 | 46=>104 | 0=>0 | 51=>133 | 53=>200 | 4=>4 | 183=>192 | 182=>191 | 131=>112 | 5=>5 | 218=>206 | 222=>210 | 228=>226 | 229=>227 | n=>n,fun | n=>n⟩
theorem Tryz.lays190:Go.Proofs.Lays.n190 Tryz.prog Tryz.lays190_ren:={
 mixed:=by kernel_rfl
 f125:=Tryz.func122.trans (congrArg some (by kernel_rfl))
 f128:=Tryz.func150.trans (congrArg some (by kernel_rfl))
 f129:=Tryz.func151.trans (congrArg some (by kernel_rfl))
 f190:=Tryz.func84.trans (congrArg some (by kernel_rfl))
 f258:=Tryz.func121.trans (congrArg some (by kernel_rfl))
 f302:=Tryz.func141.trans (congrArg some (by kernel_rfl))
 f303:=Tryz.func142.trans (congrArg some (by kernel_rfl))
 f304:=Tryz.func143.trans (congrArg some (by kernel_rfl))
 f305:=Tryz.func144.trans (congrArg some (by kernel_rfl))
 f306:=Tryz.func145.trans (congrArg some (by kernel_rfl))
 f307:=Tryz.func146.trans (congrArg some (by kernel_rfl))
 f308:=Tryz.func147.trans (congrArg some (by kernel_rfl))
 f309:=Tryz.func148.trans (congrArg some (by kernel_rfl))
 f310:=Tryz.func149.trans (congrArg some (by kernel_rfl))
 f329:=Tryz.func166.trans (congrArg some (by kernel_rfl))
 f330:=Tryz.func167.trans (congrArg some (by kernel_rfl))
 f333:=Tryz.func165.trans (congrArg some (by kernel_rfl))
 f334:=Tryz.func168.trans (congrArg some (by kernel_rfl))
 f335:=Tryz.func169.trans (congrArg some (by kernel_rfl))
 f336:=Tryz.func170.trans (congrArg some (by kernel_rfl))
 f344:=Tryz.func183.trans (congrArg some (by kernel_rfl))
 t0:=Tryz.underlying0
 a0:=Tryz.isAgg0
 z0:=Tryz.sizeOf0
 v0:=Tryz.zeroValue0
 t3:=Tryz.underlying3
 a3:=Tryz.isAgg3
 z3:=Tryz.sizeOf3
 v3:=Tryz.zeroValue3
 t4:=Tryz.underlying4
 a4:=Tryz.isAgg4
 z4:=Tryz.sizeOf4
 v4:=Tryz.zeroValue4
 t5:=Tryz.underlying5
 a5:=Tryz.isAgg5
 z5:=Tryz.sizeOf5
 v5:=Tryz.zeroValue5
 t9:=Tryz.underlying9
 a9:=Tryz.isAgg9
 z9:=Tryz.sizeOf9
 v9:=Tryz.zeroValue9
 t31:=Tryz.underlying50
 a31:=Tryz.isAgg50
 z31:=Tryz.sizeOf50
 v31:=Tryz.zeroValue50
 t46:=Tryz.underlying104
 a46:=Tryz.isAgg104
 z46:=Tryz.sizeOf104
 v46:=Tryz.zeroValue104
 t51:=Tryz.underlying133
 a51:=Tryz.isAgg133
 z51:=Tryz.sizeOf133
 v51:=Tryz.zeroValue133
 t53:=Tryz.underlying200
 a53:=Tryz.isAgg200
 z53:=Tryz.sizeOf200
 v53:=Tryz.zeroValue200
 t131:=Tryz.underlying112
 a131:=Tryz.isAgg112
 z131:=Tryz.sizeOf112
 v131:=Tryz.zeroValue112
 t182:=Tryz.underlying191
 a182:=Tryz.isAgg191
 z182:=Tryz.sizeOf191
 v182:=Tryz.zeroValue191
 t183:=Tryz.underlying192
 a183:=Tryz.isAgg192
 z183:=Tryz.sizeOf192
 v183:=Tryz.zeroValue192
 t218:=Tryz.underlying206
 a218:=Tryz.isAgg206
 z218:=Tryz.sizeOf206
 v218:=Tryz.zeroValue206
 t222:=Tryz.underlying210
 a222:=Tryz.isAgg210
 z222:=Tryz.sizeOf210
 v222:=Tryz.zeroValue210
 t228:=Tryz.underlying226
 a228:=Tryz.isAgg226
 z228:=Tryz.sizeOf226
 v228:=Tryz.zeroValue226
 t229:=Tryz.underlying227
 a229:=Tryz.isAgg227
 z229:=Tryz.sizeOf227
 v229:=Tryz.zeroValue227 }
open Go.Sort Go.RowKit in
theorem Tryz.slices_Sort_string (blk off cap:Nat) (ss:List (List UInt8)) (w:World) (hH:Holds encStr w blk off ss.toArray) (hblk:blk<w.heap.size) (hsz:ss.length<4611686018427387904) :
 Calls Tryz.prog 84 #[.slice (some ⟨blk,off,none⟩) ss.length cap] w λe w'=>
  e=.returned (.tuple #[])∧∃n os,w'=grow (putRow encStr (Sort.ahead w n) blk off (ss.mergeSort λx y=>decide (x≤y)).toArray) os:=Any.slices_Sort_string Tryz.lays190 blk off cap ss w hH hblk hsz
def Tryz.lays108_ren:Go.Shelf.Ren:=⟨fun | 108=>113 | n=>n,fun | 28=>45 | 3=>3 | 0=>0 | 4=>4 | n=>n,fun | n=>n⟩
theorem Tryz.lays108:Go.Proofs.Lays.n108 Tryz.prog Tryz.lays108_ren:={
 mixed:=by kernel_rfl
 f108:=Tryz.func113.trans (congrArg some (by kernel_rfl))
 t0:=Tryz.underlying0
 a0:=Tryz.isAgg0
 z0:=Tryz.sizeOf0
 v0:=Tryz.zeroValue0
 t3:=Tryz.underlying3
 a3:=Tryz.isAgg3
 z3:=Tryz.sizeOf3
 v3:=Tryz.zeroValue3
 t4:=Tryz.underlying4
 a4:=Tryz.isAgg4
 z4:=Tryz.sizeOf4
 v4:=Tryz.zeroValue4
 t28:=Tryz.underlying45
 a28:=Tryz.isAgg45
 z28:=Tryz.sizeOf45
 v28:=Tryz.zeroValue45 }
open Go.Lib in
theorem Tryz.slices_Index_int (b off n c:Nat)(zs:List Int)(x:Int)(w:World)(hz:n≤zs.length)(hbig:n≤9223372036854775807)(hc:∀j,j<zs.length→w.cell? ⟨b,off+j,none⟩=some (.int .i64 (zs.getD j 0))) :
 Calls Tryz.prog 113 #[.slice (some ⟨b,off,none⟩) n c,.int .i64 x] w λe w'=>e=.returned (.int .i64 (Lib.idxOf (zs.take n) x))∧w'=w:=Any.slices_Index_int Tryz.lays108 b off n c zs x w hz hbig hc
open Go.Lib in
theorem Tryz.slices_Index_int_empty (a:Option Addr)(c:Nat)(x:Int)(w:World) :
 Calls Tryz.prog 113 #[.slice a 0 c,.int .i64 x] w λe w'=>e=.returned (.int .i64 (Lib.idxOf [] x))∧w'=w:=Any.slices_Index_int_empty Tryz.lays108 a c x w
def Tryz.lays107_ren:Go.Shelf.Ren:=⟨fun | 107=>120 | 108=>113 | n=>n,fun | 28=>45 | 3=>3 | 4=>4 | 0=>0 | n=>n,fun | n=>n⟩
theorem Tryz.lays107:Go.Proofs.Lays.n107 Tryz.prog Tryz.lays107_ren:={
 mixed:=by kernel_rfl
 f107:=Tryz.func120.trans (congrArg some (by kernel_rfl))
 f108:=Tryz.func113.trans (congrArg some (by kernel_rfl))
 t0:=Tryz.underlying0
 a0:=Tryz.isAgg0
 z0:=Tryz.sizeOf0
 v0:=Tryz.zeroValue0
 t3:=Tryz.underlying3
 a3:=Tryz.isAgg3
 z3:=Tryz.sizeOf3
 v3:=Tryz.zeroValue3
 t4:=Tryz.underlying4
 a4:=Tryz.isAgg4
 z4:=Tryz.sizeOf4
 v4:=Tryz.zeroValue4
 t28:=Tryz.underlying45
 a28:=Tryz.isAgg45
 z28:=Tryz.sizeOf45
 v28:=Tryz.zeroValue45 }
open Go.Lib in
theorem Tryz.slices_Contains_int (b off n c:Nat)(zs:List Int)(x:Int)(w:World)(hz:n≤zs.length)(hbig:n≤9223372036854775807)(hc:∀j,j<zs.length→w.cell? ⟨b,off+j,none⟩=some (.int .i64 (zs.getD j 0))) :
 Calls Tryz.prog 120 #[.slice (some ⟨b,off,none⟩) n c,.int .i64 x] w λe w'=>e=.returned (.bool ((zs.take n).contains x))∧w'=w:=Any.slices_Contains_int Tryz.lays107 b off n c zs x w hz hbig hc
open Go.Lib in
theorem Tryz.slices_Contains_int_empty (a:Option Addr)(c:Nat)(x:Int)(w:World) :
 Calls Tryz.prog 120 #[.slice a 0 c,.int .i64 x] w λe w'=>e=.returned (.bool false)∧w'=w:=Any.slices_Contains_int_empty Tryz.lays107 a c x w
def Tryz.laysNm215_ren:Go.Shelf.Ren:=⟨fun | 15=>115 | n=>n,fun | 22=>45 | 3=>3 | 4=>4 | n=>n,fun | n=>n⟩
theorem Tryz.laysNm215:Go.Proofs.Lays2.n15 Tryz.prog Tryz.laysNm215_ren:={
 mixed:=by kernel_rfl
 f15:=Tryz.func115.trans (congrArg some (by kernel_rfl))
 t3:=Tryz.underlying3
 a3:=Tryz.isAgg3
 z3:=Tryz.sizeOf3
 v3:=Tryz.zeroValue3
 t4:=Tryz.underlying4
 a4:=Tryz.isAgg4
 z4:=Tryz.sizeOf4
 v4:=Tryz.zeroValue4
 t22:=Tryz.underlying45
 a22:=Tryz.isAgg45
 z22:=Tryz.sizeOf45
 v22:=Tryz.zeroValue45
 i3:=by kernel_rfl }
open Go.RowKit Go.Lib in
theorem Tryz.slices_Clone_int (b off n c:Nat)(zs:List Int)(w:World)(hz:n≤zs.length)(hbig:n*8≤140737488355328)(hc:∀j,j<zs.length→w.cell? ⟨b,off+j,none⟩=some (.int .i64 (zs.getD j 0))) :
 Calls Tryz.prog 115 #[.slice (some ⟨b,off,none⟩) n c] w λe w'=>∃v',e=.returned v'∧w'.ownsRow w.heap.size 3 1 v' n ((zs.take n).map (Value.int .i64))∧v'≠.slice none 0 0∧Below w.heap.size w w':=Any.slices_Clone_int Tryz.laysNm215 b off n c zs w hz hbig hc
def Tryz.laysNm223_ren:Go.Shelf.Ren:=⟨fun | 23=>114 | n=>n,fun | 22=>45 | 3=>3 | 4=>4 | 0=>0 | n=>n,fun | n=>n⟩
theorem Tryz.laysNm223:Go.Proofs.Lays2.n23 Tryz.prog Tryz.laysNm223_ren:={
 mixed:=by kernel_rfl
 f23:=Tryz.func114.trans (congrArg some (by kernel_rfl))
 t0:=Tryz.underlying0
 a0:=Tryz.isAgg0
 z0:=Tryz.sizeOf0
 v0:=Tryz.zeroValue0
 t3:=Tryz.underlying3
 a3:=Tryz.isAgg3
 z3:=Tryz.sizeOf3
 v3:=Tryz.zeroValue3
 t4:=Tryz.underlying4
 a4:=Tryz.isAgg4
 z4:=Tryz.sizeOf4
 v4:=Tryz.zeroValue4
 t22:=Tryz.underlying45
 a22:=Tryz.isAgg45
 z22:=Tryz.sizeOf45
 v22:=Tryz.zeroValue45
 i3:=by kernel_rfl }
open Go.RowKit Go.Lib Go.Sort in
theorem Tryz.slices_Delete_int_cells (b off n c i j:Nat)(zs:List Int)(w:World)(hz:n≤zs.length)(hcap:n≤c)(hm:c≤9223372036854775807)(hij:i≤j)(hj:j≤n)(hc:∀j,j<zs.length→w.cell? ⟨b,off+j,none⟩=some (.int .i64 (zs.getD j 0)))(hf:∀j,j<n→w.frozen? ⟨b,off+j,none⟩=false) :
 Calls Tryz.prog 114 #[.slice (some ⟨b,off,none⟩) n c,.int .i64 i,.int .i64 j] w λe w'=>e=.returned (.slice (some ⟨b,off,none⟩) (n - (j - i)) c)∧∃q,w'=(w.drewN q).setCells b off (((zs.take n).take i++(zs.take n).drop j++List.replicate (j - i) 0).map (Value.int .i64)):=Any.slices_Delete_int_cells Tryz.laysNm223 b off n c i j zs w hz hcap hm hij hj hc hf
open Go.RowKit Go.Sort in
theorem Tryz.slices_Sort_string_none (p:Option Addr)(cap:Nat)(w:World) :
 Calls Tryz.prog 84 #[.slice p 0 cap] w λe w'=>e=.returned (.tuple #[])∧w'=w:=Any.slices_Sort_string_none Tryz.lays190 p cap w
end Go.Proofs
namespace Go.Proofs.YtlibhkehebioeaaGreatDoor
set_option linter.unusedVariables false
set_option linter.unusedSimpArgs false
set_option maxRecDepth 100000
set_option maxHeartbeats 40000000
open Go.RowKit
def shapeTab:List Int:=[0,3,1,7,1,9,1,1,17,32]
structure Tabs (w:World):Prop where
 pow : Lib.TabIs Tryz.prog w "internal/strconv.uint64pow10" .u64 Lib.pow10Tab
 shp : Lib.TabIs Tryz.prog w "quorate/machine.shapes" .i64 shapeTab
 syn : ∃ tp p, w.var? Tryz.prog "strconv.ErrSyntax" = some #[.iface tp p]
theorem gPow : Tryz.prog.globalNamed "internal/strconv.uint64pow10" = some 4 := by kernel_rfl
theorem gShp : Tryz.prog.globalNamed "quorate/machine.shapes" = some 1 := by kernel_rfl
theorem gSyn : Tryz.prog.globalNamed "strconv.ErrSyntax" = some 2 := by kernel_rfl
theorem var_lt {w:World}{s:String}{g:Nat}{cs:Array Value}(hg:Tryz.prog.globalNamed s=some g)(h:w.var? Tryz.prog s=some cs):g<w.heap.size:=by
 rcases Nat.lt_or_ge g w.heap.size with hlt | hge
 ·exact hlt
 ·simp[World.var?,hg,Array.getElem?_eq_none hge] at h
theorem var_keep {Z:Nat→Prop}{w w':World}{s:String}{g:Nat}{cs:Array Value}(hg:Tryz.prog.globalNamed s=some g)(h:w.var? Tryz.prog s=some cs)(hk:Keep Z w w')(hz:Z g):w'.var? Tryz.prog s=some cs:=by
 have h1:=hk.block g (var_lt hg h) hz
 rw[←h]
 simp[World.var?,hg,h1]
theorem Tabs.keep {Z:Nat→Prop} {w w':World} (h:Tabs w) (hk:Keep Z w w') (hz:∀k,k<8→Z k):Tabs w':=
 ⟨var_keep gPow h.pow hk (hz _ (by decide)),var_keep gShp h.shp hk (hz _ (by decide)),by
  obtain⟨tp,p,hs⟩:=h.syn
  exact⟨tp,p,var_keep gSyn hs hk (hz _ (by decide))⟩⟩
theorem Tabs.fresh {w w':World}(h:Tabs w)(hk:Fresh w w'):Tabs w':=h.keep hk (λ_ _=>trivial)
def keyB (l:List UInt8):Bool:=decide (1≤l.length) && decide (l.length≤8)
def valB (l:List UInt8):Bool:=decide (l.length≤8)
def countB (v:Int):Bool:=decide (1≤v) && decide (v≤4611686018427387904)
abbrev str (l:List UInt8):Value:=.string ⟨l.toArray⟩
theorem str_size (l:List UInt8):(ByteArray.mk l.toArray).size=l.length:=rfl
theorem isKey_any (l:List UInt8) (w:World):Calls Tryz.prog 110 #[str l] w λe w'=>e=.returned (.bool (keyB l))∧w=w':=by
 by_cases h:(1:Int)≤(l.length:Int)
 ·go_enter Tryz.func110,Tryz.ntmps110
  go_wp2
  go_ret
  exact⟨ret_bool (by rw[Bool.eq_iff_iff];simp[keyB,str_size];omega),rfl⟩
 ·go_enter Tryz.func110,Tryz.ntmps110
  go_wp2
  go_ret
  exact⟨ret_bool (by rw[Bool.eq_iff_iff];simp[keyB];omega),rfl⟩
theorem isValue_any (l:List UInt8)(w:World):Calls Tryz.prog 111 #[str l] w λe w'=>e=.returned (.bool (valB l))∧w=w':=by
 go_enter Tryz.func111,Tryz.ntmps111
 go_wp2
 go_ret
 exact⟨ret_bool (by rw[Bool.eq_iff_iff];simp[valB,str_size];omega),rfl⟩
theorem count_any (v:Int) (w:World):Calls Tryz.prog 69 #[.int .i64 v] w λe w'=>e=.returned (.bool (countB v))∧w=w':=by
 by_cases h:(1:Int)≤v
 ·go_enter Tryz.func69,Tryz.ntmps69
  go_wp2
  go_ret
  exact⟨ret_bool (by simp[countB,h]),rfl⟩
 ·go_enter Tryz.func69,Tryz.ntmps69
  go_wp2
  go_ret
  exact⟨ret_bool (by rw[Bool.eq_iff_iff];simp[countB];omega),rfl⟩
def numb (l:List UInt8):Int×Bool:=if 8<l.length then (0,false) else match Lib.atoi l with
 | none=>(0,false)
 | some n=>(n,Lib.itoa n==l)
theorem Fresh.bytesWorld (w:World)(e:TypeId)(s:ByteArray):Fresh w (Lib.bytesWorld w e s):=Fresh.of_below (Lib.bytesWorld_below w e s)
theorem Fresh.growN (w:World)(k:Nat)(os:Array Obj):Fresh w (Go.Sort.grow (w.drewN k) os):=
 ⟨rfl,rfl,rfl,by simp[Go.Sort.grow,World.drewN],λj hj _=>by simp[Go.Sort.grow,World.drewN,Array.getElem?_append,hj]⟩
theorem atoi_small {l:List UInt8}{n:Int}(hl:l.length≤8)(h:Lib.atoi l=some n) : -9223372036854775808≤n∧n≤9223372036854775807:=by
 have:=Lib.atoi_bound h (by omega)
 omega
theorem number_any (l:List UInt8) (w:World) (hT:Tabs w):Calls Tryz.prog 112 #[str l] w λe w'=>e=.returned (.tuple #[.int .i64 (numb l).1,.bool (numb l).2])∧Fresh w w':=by
 obtain⟨r,hr⟩:=exz (numb l)
 rw[←hr]
 unfold numb at hr
 by_cases h8:8<l.length
 ·rw[if_pos h8] at hr
  obtain rfl:=hr
  have h8':(8:Int)<(l.length:Int):=by omega
  go_enter Tryz.func112,Tryz.ntmps112
  go_wp2_with fail
  all_goals go_ret2
  exact⟨rfl,krz _ _⟩
 ·rw[if_neg h8] at hr
  have h8':(l.length:Int)≤8:=by omega
  have h18:(ByteArray.mk l.toArray).size≤18:=by rw[str_size];omega
  have HT:=hdz hT
  clear hT
  cases ha:Lib.atoi l with
  | none=>
   rw[ha] at hr
   obtain rfl:=hr
   obtain⟨tp,p,hs⟩:=HT.out.syn
   have HC:=Tryz.strconv_Atoi_err_var ⟨l.toArray⟩ h18 (by simpa using ha) tp p w hs
   have HC:=hdz HC
   clear hs
   go_enter Tryz.func112,Tryz.ntmps112
   go_wp2_with fail
   refine HC.out.mono ?_
   rintro e w1 ⟨N,rfl,hN,-,hb⟩
   have HB:=hdz hb
   clear hb
   go_wp2_with fail
   go_ret2
   exact⟨rfl,Fresh.of_below HB.out⟩
  | some n=>
   rw[ha] at hr
   obtain rfl:=hr
   have HC:=hdz (Tryz.strconv_Atoi ⟨l.toArray⟩ n h18 (by simpa using ha) w)
   go_enter Tryz.func112,Tryz.ntmps112
   go_wp2_with fail
   refine HC.out.mono ?_
   rintro e w1 ⟨rfl,t,rfl⟩
   obtain⟨w1,hw1⟩:=exz (Lib.bytesWorld w 5 t)
   rw[←hw1]
   have hk1:Fresh w w1:=hw1 ▸ Fresh.bytesWorld w 5 t
   clear hw1
   obtain⟨hlo,hhi⟩:=atoi_small (by omega) ha
   have HI:=hdz (Tryz.strconv_Itoa n hlo hhi w1 (HT.out.fresh hk1).pow)
   have HK:=hdz hk1
   clear hk1 ha HC
   go_wp2_with fail
   refine HI.out.mono ?_
   rintro e w2 ⟨rfl,k,os,rfl⟩
   go_wp2_with fail
   go_ret2
   exact⟨rfl,HK.out.trans (Fresh.growN _ _ _)⟩
def hasB (sh x:Int):Bool:=bits BinOp.and IntKind.i64 sh x != 0
theorem has_any (x:Int)(p:Addr)(sh:Int)(w:World)(hp:w.cell? p=some (.int .i64 sh)):Calls Tryz.prog 109 #[.int .i64 x,.pointer (some p)] w λe w'=>e=.returned (.bool (hasB sh x))∧w=w':=by
 go_enter Tryz.func109,Tryz.ntmps109
 go_wp2_with fail
 go_ret
 exact⟨rfl,rfl⟩
theorem quiet_same {P:Program}{f:FuncId}{args:Array Value}{w:World}{n:Nat}{v:Value}
 (h:Calls P f args (w.drewN n) λe w'=>e=.returned v∧w.drewN n=w'):Calls P f args (w.drewN n) λe w''=>e=.returned v∧∃m,w''=w.drewN m:=
 h.mono λ_ _ ⟨he,hm⟩=>⟨he,n,hm.symm⟩
abbrev cmdV (c i r o:Int)(k v d:List UInt8):Value:=.agg #[.int .i64 c,.int .i64 i,.int .i64 r,.int .i64 o,str k,str v,str d]
def fitsB (sh:Int)(k v d:List UInt8):Bool:=
 if hasB sh 1≠keyB k∨(hasB sh 1=false∧k≠[]) then false
 else if (hasB sh 4=false∧d≠[])∨valB d=false then false
 else if hasB sh 2=true then valB v
 else if hasB sh 8=true then (numb v).2
 else if hasB sh 16=true then (numb v).2 && decide (0<(numb v).1)
 else if hasB sh 32=true then (numb v).2 && (decide (0≤(numb v).1) && decide ((numb v).1<16))
 else v==[]
theorem fits_any (c i r:Int) (on:Nat) (k v d:List UInt8) (w:World) (hT:Tabs w) (ho:on<10) :
 Calls Tryz.prog 70 #[cmdV c i r on k v d] w λe w'=>e=.returned (.bool (fitsB (shapeTab.getD on 0) k v d))∧Fresh w w':=by
 obtain⟨sh,hsh⟩:=exz (shapeTab.getD on 0)
 have hs:w.cell? ⟨1,on,none⟩=some (.int .i64 sh):=hsh ▸ hT.shp.cell gShp on ho
 have hlt:1<w.heap.size:=var_lt gShp hT.shp
 rw[←hsh]
 have HT:=hdz hT
 clear hT hsh
 obtain⟨t,ht⟩:=exz (fitsB sh k v d)
 rw[←ht]
 unfold fitsB at ht
 have H:=λx p w h=>has_any x p sh w h
 have K:=isKey_any k
 have V:=isValue_any d
 have H1:=λp w h=>H 1 p w h
 have H4:=λp w h=>H 4 p w h
 have H2:=λp w h=>H 2 p w h
 have H8:=λp w h=>H 8 p w h
 have H16:=λp w h=>H 16 p w h
 have H32:=λp w h=>H 32 p w h
 clear H
 have N:=number_any v
 generalize hasB sh 1=b1 at H1 ht
 generalize hasB sh 4=b4 at H4 ht
 generalize hasB sh 2=b2 at H2 ht
 generalize hasB sh 8=b8 at H8 ht
 generalize hasB sh 16=b16 at H16 ht
 generalize hasB sh 32=b32 at H32 ht
 generalize keyB k=kb at K ht
 generalize valB d=vb at V ht
 obtain⟨⟨z,nb⟩,hn⟩:∃n,n=numb v:=⟨_,rfl⟩
 rw[←hn] at N ht
 dsimp only at N ht
 clear hn
 replace H1:=hdz H1
 replace H4:=hdz H4
 replace H2:=hdz H2
 replace H8:=hdz H8
 replace H16:=hdz H16
 replace H32:=hdz H32
 replace K:=hdz K
 replace V:=hdz V
 have V2:=hdz (isValue_any v)
 replace N:=hdz N
 have HE:=hdz ht
 clear ht
 go_enter Tryz.func70,Tryz.ntmps70
 go_wp2_with fail
 obtain⟨B,hB⟩:=exz (w.heap.size)
 obtain⟨W,hW⟩:=exz ((w.alloc (.cells #[.int .i64 c,.int .i64 i,.int .i64 r,.int .i64 on,str k,str v,str d] 30)).alloc (.cells #[.int .i64 sh] 3))
 rw[←hW,←hB]
 have hf:Fresh w W:=hW ▸ ((krz _ w).alloc _).alloc _
 have cK:W.cell? ⟨B,4,none⟩=some (str k):=by rw[hW,hB];simp
 have cV:W.cell? ⟨B,5,none⟩=some (str v):=by rw[hW,hB];simp
 have cD:W.cell? ⟨B,6,none⟩=some (str d):=by rw[hW,hB];simp
 have cS:W.cell? ⟨B+1,0,none⟩=some (.int .i64 sh):=by rw[hW,hB];simp
 have HF:=hdz hf
 clear hf hW hB hs hlt
 by_cases hp:kb=b1∧(b1=false→k=[])
 ·obtain⟨rfl,hk⟩:=hp
  have hE:t=if (b4=false∧d≠[])∨vb=false then false else if b2=true then valB v else if b8=true then nb else if b16=true then nb && decide (0<z) else if b32=true then nb && (decide (0≤z) && decide (z<16)) else v==[]:=by
   rw[HE.out,if_neg (by rintro (h | ⟨h1,h2⟩);exact h rfl;exact h2 (hk h1))]
  clear HE
  have HE:=hdz hE
  clear hE
  have hkk:kb=true∨(kb=false∧k=[]):=by
   cases kb
   ·exact .inr ⟨rfl,hk rfl⟩
   ·exact .inl rfl
  clear hk
  rcases hkk with rfl | ⟨rfl,rfl⟩
  all_goals
   go_quiet (first | (go_at_call 109;exact quiet_same (H1.out _ _ cS)) | (go_at_call 110;exact quiet_same (K.out _)))
   go_wp2_with fail
   clear cK
   refine (H4.out _ (W.drewN nq) cS).mono ?_
   rintro e _ ⟨rfl,rfl⟩
   by_cases hd:b4=false∧d≠[]
   ·obtain⟨rfl,hd⟩:=hd
    have he:d.isEmpty=false:=by simpa using hd
    go_wp2_with fail
    go_ret
    exact⟨ret_bool (by rw[HE.out];simp[hd]),HF.out.drewN _⟩
   ·have hd2:b4=true∨(b4=false∧d=[]):=by
     cases b4
     ·exact .inr ⟨rfl,Classical.byContradiction λh=>hd ⟨rfl,h⟩⟩
     ·exact .inl rfl
    rcases hd2 with rfl | ⟨rfl,rfl⟩
    all_goals
     go_wp2_with fail
     refine (V.out _).mono ?_
     rintro e _ ⟨rfl,rfl⟩
     cases vb
     ·go_wp2_with fail
      go_ret
      exact⟨ret_bool (by rw[HE.out];simp),HF.out.drewN _⟩
     ·have hE:t=if b2=true then valB v else if b8=true then nb else if b16=true then nb && decide (0<z) else if b32=true then nb && (decide (0≤z) && decide (z<16)) else v==[]:=by
       rw[HE.out]
       simp
      clear HE
      have HE:=hdz hE
      clear hE hd
      go_wp2_with fail
      refine (N.out (W.drewN nq) (HT.out.fresh (HF.out.drewN nq))).mono ?_
      rintro e w1 ⟨rfl,hk1⟩
      have cV1:=hk1.cellAt cV trivial
      have cS1:=hk1.cellAt cS trivial
      have HF1:=hdz ((HF.out.drewN nq).trans hk1)
      clear hk1 cV cS cD
      go_wp2_with fail
      refine (H2.out _ w1 cS1).mono ?_
      rintro e _ ⟨rfl,rfl⟩
      cases b2
      ·go_wp2_with fail
       refine (H8.out _ w1 cS1).mono ?_
       rintro e _ ⟨rfl,rfl⟩
       cases b8
       ·go_wp2_with fail
        refine (H16.out _ w1 cS1).mono ?_
        rintro e _ ⟨rfl,rfl⟩
        cases b16
        ·go_wp2_with fail
         refine (H32.out _ w1 cS1).mono ?_
         rintro e _ ⟨rfl,rfl⟩
         cases b32
         ·go_wp2_with fail
          go_ret
          exact⟨ret_bool (by rw[HE.out];simp),HF1.out⟩
         ·cases nb
          ·go_wp2_with fail
           go_ret
           exact⟨ret_bool (by rw[HE.out];simp),HF1.out⟩
          ·by_cases hz:(0:Int)≤z
           all_goals
            go_wp2_with fail
            go_ret
            exact⟨ret_bool (by rw[HE.out];simp;omega),HF1.out⟩
        ·cases nb
         all_goals
          go_wp2_with fail
          go_ret
          exact⟨ret_bool (by rw[HE.out];simp),HF1.out⟩
       ·go_wp2_with fail
        go_ret
        exact⟨ret_bool (by rw[HE.out];simp),HF1.out⟩
      ·go_wp2_with fail
       refine (V2.out w1).mono ?_
       rintro e _ ⟨rfl,rfl⟩
       go_wp2_with fail
       go_ret
       exact⟨ret_bool (by rw[HE.out];simp),HF1.out⟩
 ·have hE:t=false:=by
   rw[HE.out,if_pos]
   rcases Classical.em (kb=b1) with h | h
   ·refine .inr ⟨Classical.byContradiction λh1=>hp ⟨h,λh2=>absurd h2 h1⟩,λh1=>hp ⟨h,λ_=>h1⟩⟩
   ·exact .inl (λh1=>h h1.symm)
  obtain rfl:=hE
  clear HE
  have hkk:kb=(!b1)∨(kb=false∧b1=false∧k≠[]):=by
   revert hp
   cases kb <;> cases b1 <;> simp
  clear hp
  rcases hkk with rfl | ⟨rfl,rfl,hk⟩
  ·cases b1
   all_goals
    go_quiet (first | (go_at_call 109;exact quiet_same (H1.out _ _ cS)) | (go_at_call 110;exact quiet_same (K.out _)))
    go_wp2_with fail
    go_ret
    exact⟨rfl,HF.out.drewN _⟩
  ·have he:k.isEmpty=false:=by simpa using hk
   go_quiet (first | (go_at_call 109;exact quiet_same (H1.out _ _ cS)) | (go_at_call 110;exact quiet_same (K.out _)))
   go_wp2_with fail
   go_ret
   exact⟨rfl,HF.out.drewN _⟩
def validB (c i r o:Int)(k v d:List UInt8):Bool:=
 if c<0 then false else if 16≤c then false else if countB i=false then false else if countB r=false then false else if o<1 then false else if 10≤o then false
 else fitsB (shapeTab.getD o.toNat 0) k v d
theorem valid_any (c i r o:Int) (k v d:List UInt8) (w:World) (hT:Tabs w) :
 Calls Tryz.prog 42 #[cmdV c i r o k v d] w λe w'=>e=.returned (.bool (validB c i r o k v d))∧Fresh w w':=by
 obtain⟨t,ht⟩:=exz (validB c i r o k v d)
 rw[←ht]
 unfold validB at ht
 have I:=count_any i
 have R:=count_any r
 generalize countB i=bi at I ht
 generalize countB r=br at R ht
 replace I:=hdz I
 replace R:=hdz R
 have e1:c<0→false=t:=λh=>by rw[ht,if_pos h]
 have e2:16≤c→false=t:=λh=>by rw[ht,if_neg (by omega),if_pos h]
 have e3:bi=false→false=t:=λh=>by rw[ht,if_pos h];split <;> first | rfl | (split <;> rfl)
 have e4:br=false→false=t:=λh=>by rw[ht,if_pos h];split <;> first | rfl | (split <;> first | rfl | (split <;> rfl))
 have e5:o<1→false=t:=λh=>by rw[ht,if_pos h];split <;> first | rfl | (split <;> first | rfl | (split <;> first | rfl | (split <;> rfl)))
 have e6:10≤o→false=t:=λh=>by rw[ht,if_pos h];split <;> first | rfl | (split <;> first | rfl | (split <;> first | rfl | (split <;> first | rfl | (split <;> rfl))))
 have e7:0≤c→c<16→bi=true→br=true→1≤o→o<10→t=fitsB (shapeTab.getD o.toNat 0) k v d:=λh1 h2 h3 h4 h5 h6=>by
  rw[ht,if_neg (by omega),if_neg (by omega),if_neg (by simp[h3]),if_neg (by simp[h4]),if_neg (by omega),if_neg (by omega)]
 clear ht
 replace e1:=hdz e1
 replace e2:=hdz e2
 replace e3:=hdz e3
 replace e4:=hdz e4
 replace e5:=hdz e5
 replace e6:=hdz e6
 replace e7:=hdz e7
 have HT:=hdz hT
 clear hT
 go_enter Tryz.func42,Tryz.ntmps42
 go_wp2_with fail
 ·obtain⟨B,hB⟩:=exz (w.heap.size)
  obtain⟨W,hW⟩:=exz (w.alloc (.cells #[.int .i64 c,.int .i64 i,.int .i64 r,.int .i64 o,str k,str v,str d] 30))
  rw[←hW,←hB]
  have hf:Fresh w W:=hW ▸ (krz _ w).alloc _
  have c0:W.cell? ⟨B,0,none⟩=some (.int .i64 c):=by rw[hW,hB];simp
  have c1:W.cell? ⟨B,1,none⟩=some (.int .i64 i):=by rw[hW,hB];simp
  have c2:W.cell? ⟨B,2,none⟩=some (.int .i64 r):=by rw[hW,hB];simp
  have c3:W.cell? ⟨B,3,none⟩=some (.int .i64 o):=by rw[hW,hB];simp
  have c4:W.cell? ⟨B,4,none⟩=some (str k):=by rw[hW,hB];simp
  have c5:W.cell? ⟨B,5,none⟩=some (str v):=by rw[hW,hB];simp
  have c6:W.cell? ⟨B,6,none⟩=some (str d):=by rw[hW,hB];simp
  have HF:=hdz hf
  clear hf hW hB
  refine (I.out W).mono ?_
  rintro e _ ⟨rfl,rfl⟩
  cases bi
  ·go_wp2_with fail
   go_ret
   exact⟨ret_bool (e3.out (by simp)),HF.out⟩
  ·go_wp2_with fail
   refine (R.out W).mono ?_
   rintro e _ ⟨rfl,rfl⟩
   cases br
   ·go_wp2_with fail
    go_ret
    exact⟨ret_bool (e4.out (by simp)),HF.out⟩
   ·by_cases h5:o<1
    ·go_wp2_with fail
     go_ret
     exact⟨ret_bool (e5.out h5),HF.out⟩
    ·by_cases h6:10≤o
     ·go_wp2_with fail
      go_ret
      exact⟨ret_bool (e6.out h6),HF.out⟩
     ·have hE:=e7.out (by omega) (by omega) (by simp) (by simp) (by omega) (by omega)
      obtain⟨on,rfl⟩:∃on:Nat,o=(on:Int):=⟨o.toNat,by omega⟩
      have HG:=hdz (fits_any c i r on k v d W (HT.out.fresh HF.out) (by omega))
      simp only[Int.toNat_natCast] at hE
      have HE:=hdz hE
      clear hE
      go_wp2_with fail
      refine HG.out.mono ?_
      rintro e w1 ⟨rfl,hk⟩
      go_wp2_with fail
      go_ret
      exact⟨ret_bool HE.out.symm,HF.out.trans hk⟩
 ·go_ret
  exact⟨ret_bool (e2.out (by assumption)),(krz _ w).alloc _⟩
 ·go_ret
  exact⟨ret_bool (e1.out (by assumption)),(krz _ w).alloc _⟩
theorem fits_len {sh:Int} {k v d:List UInt8} (h:fitsB sh k v d=true):k.length≤8∧v.length≤8∧d.length≤8:=by
 unfold fitsB at h
 split at h
 ·cases h
 ·rename_i h1
  split at h
  ·cases h
  ·rename_i h2
   refine⟨?_,?_,?_⟩
   ·rcases hb:hasB sh 1 with _ | _
    ·have:k=[]:=Classical.byContradiction λhk=>h1 (.inr ⟨hb,hk⟩)
     simp[this]
    ·have:keyB k=true:=by
      rcases hk:keyB k with _ | _
      ·exact absurd (.inl (by rw[hb,hk];simp)) h1
      ·rfl
     simp[keyB] at this
     omega
   ·have hn:(numb v).2=true→v.length≤8:=by
     intro hn
     unfold numb at hn
     split at hn
     ·cases hn
     ·omega
    split at h
    ·simp[valB] at h;omega
    ·split at h
     ·exact hn h
     ·split at h
      ·simp at h;exact hn h.1
      ·split at h
       ·simp at h;exact hn h.1
       ·simp at h;simp[h]
   ·have:valB d=true:=by
     rcases hk:valB d with _ | _
     ·exact absurd (.inr hk) h2
     ·rfl
    simp[valB] at this
    omega
theorem valid_ok {c i r o:Int} {k v d:List UInt8} (h:validB c i r o k v d=true) :
 (0≤c∧c<16)∧(1≤i∧i≤4611686018427387904)∧(1≤r∧r≤4611686018427387904)∧(1≤o∧o<10)∧fitsB (shapeTab.getD o.toNat 0) k v d=true:=by
 unfold validB at h
 split at h
 ·cases h
 ·split at h
  ·cases h
  ·split at h
   ·cases h
   ·split at h
    ·cases h
    ·split at h
     ·cases h
     ·split at h
      ·cases h
      ·rename_i hi hr _ _
       simp[countB] at hi hr
       exact⟨by omega,by omega,by omega,by omega,h⟩
abbrev Ps:=List (List UInt8×List UInt8)
def sk (ps:Ps):List Kv:=ps.map λp=>(p.1,str p.2)
def pfind (k:List UInt8)(ps:Ps):Option (List UInt8):=(ps.find? λp=>p.1==k).map (·.2)
def pins (x:List UInt8×List UInt8):Ps→Ps
 | []=>[x]
 | y::r=>if bytesBefore x.1 y.1 then x::y::r else y::pins x r
def pdel (k:List UInt8)(ps:Ps):Ps:=ps.filter λp=>!(p.1==k)
def pput (k v:List UInt8)(ps:Ps):Ps:=pins (k,v) (pdel k ps)
theorem sk_len (ps:Ps):(sk ps).length=ps.length:=by simp[sk]
theorem sk_find (k:List UInt8) (ps:Ps):mfind k (sk ps)=(pfind k ps).map str:=by
 unfold mfind pfind sk
 induction ps with
 | nil=>rfl
 | cons p ps ih=>
  simp only[List.map_cons,List.find?_cons]
  cases h:p.1==k
  ·exact ih
  ·rfl
theorem sk_ins (x:List UInt8×List UInt8):∀ps:Ps,mins (x.1,str x.2) (sk ps)=sk (pins x ps)
 | []=>rfl
 | y::r=>by
  have e:sk (y::r)=(y.1,str y.2)::sk r:=rfl
  rw[e,mins,pins]
  dsimp only
  split
  ·rfl
  ·rw[sk_ins x r];rfl
theorem sk_del (k:List UInt8)(ps:Ps):mdel k (sk ps)=sk (pdel k ps):=by
 unfold mdel sk pdel
 rw[List.filter_map]
 rfl
theorem sk_put (k v:List UInt8)(ps:Ps):mput k (str v) (sk ps)=sk (pput k v ps):=by
 unfold mput pput
 rw[sk_del]
 exact sk_ins (k,v) _
abbrev MRes:=ResD
abbrev resV (r:MRes):Value:=.agg #[.int .i64 r.code,str r.val,.int .i64 r.n]
abbrev MSess:=SesD
def MSess.cells (s:MSess):List Value:=[.int .i64 s.inc,.int .i64 s.req,.int .i64 s.last.code,str s.last.val,.int .i64 s.last.n]
theorem sess_five (s:MSess):s.cells.length=5:=rfl
def mcells (bp bl:Nat)(tok:Int)(ss:List MSess):List Value:=[.map (some bp),.map (some bl),.int .i64 tok]++rcells MSess.cells ss
theorem run_zero_str (w:World):(zeroValue 9).run Tryz.prog w=.ok (str []) w:=by kernel_rfl
theorem look_str {w:World}{b:Nat}{ps:Ps}(h:MapIs Tryz.prog 9 w b (sk ps)){l:List UInt8}(hl:l.length≤1099511627776)(k:Nat) :
 (Instr.lookup 87 (.map (some b)) (str l) true).run Tryz.prog (w.drewN k)=.ok (.tuple #[str ((pfind l ps).getD []),.bool (pfind l ps).isSome]) (w.drewN k):=by
 have h1:=MapIs.look_ok (h.keep (Keep.drewN (krz (λ_=>True) w) k) trivial) Tryz.underlying9 Tryz.underlying87 (run_zero_str _) (l:=l) (by simp only[maxLen];omega)
 rw[h1,sk_find]
 cases pfind l ps <;> rfl
def zeroSess:MSess:=⟨0,0,⟨0,[],0⟩⟩
theorem results_one {P:Program}{fn:Func}{p:Tmp}{ty:TypeId}(h:fn.results=#[.cell p ty])(tmps:Array Value)(w:World)(g:Nat)(t:TypeId)(cs:Array Value)(d:TypeDesc)
 (hp:tmps.getD p undef=.pointer (some ⟨g,0,none⟩)) (hg:Blk w g t cs) (hu:P.underlying ty=some d) (hd:(match d with | .struct _ | .array _ _=>true | _=>false)=true) (hi:(P.info? ty).map (·.size)=some cs.size) :
 (results fn tmps).run P w=.ok (.agg cs) w:=results_cell_row h tmps w g t cs (0,0) d hp hg hu hd hi
theorem done_any (l:List UInt8)(n:Int)(w:World):Calls Tryz.prog 117 #[str l,.int .i64 n] w λe w'=>e=.returned (resV ⟨1,l,n⟩)∧Fresh w w':=by
 go_enter Tryz.func117,Tryz.ntmps117
 go_wp2
 refine bodyPost_ret (results_one rfl _ _ w.heap.size 33 #[.int .i64 1,str l,.int .i64 n] _ rfl (Blk.new _ _ _) Tryz.underlying33 rfl (by kernel_rfl)) rfl ?_
 exact⟨rfl,(krz _ w).alloc _⟩
theorem code_any (n:Int)(w:World):Calls Tryz.prog 118 #[.int .i64 n] w λe w'=>e=.returned (resV ⟨n,[],0⟩)∧Fresh w w':=by
 go_enter Tryz.func118,Tryz.ntmps118
 go_wp2
 refine bodyPost_ret (results_one rfl _ _ w.heap.size 33 #[.int .i64 n,str [],.int .i64 0] _ rfl (Blk.new _ _ _) Tryz.underlying33 rfl (by kernel_rfl)) rfl ?_
 exact⟨rfl,(krz _ w).alloc _⟩
structure MOn (w:World)(m bp bl:Nat)(ps:Ps)(tok:Int)(ss:List MSess):Prop where
 blk:Blk w m 91 (mcells bp bl tok ss).toArray
 len:ss.length=16
 pm:MapIs Tryz.prog 9 w bp (sk ps)
 lm:MapIs Tryz.prog 9 w bl []
 ne:bp≠bl
theorem new_any (w:World):Calls Tryz.prog 14 #[] w λe w'=>(∃m bp bl:Nat,e=.returned (.pointer (some ⟨m,0,none⟩))∧MOn w' m bp bl [] 0 (List.replicate 16 zeroSess)∧w.heap.size≤m∧w.heap.size≤bp∧w.heap.size≤bl)∧Fresh w w':=by
 have hmm:=@run_makeMap Tryz.prog
 go_enter Tryz.func14,Tryz.ntmps14
 go_wp2
 go_ret
 have h1:∀a b:Nat,(Tryz.zeroCells91.setIfInBounds 0 (.map (some a))).setIfInBounds 1 (.map (some b))=(mcells a b 0 (List.replicate 16 zeroSess)).toArray:=λa b=>by kernel_rfl
 rw[h1]
 refine⟨⟨_,_,_,rfl,⟨Blk.newAt (by simp),by simp,?_,?_,by omega⟩,by omega,by omega,by omega⟩,(((krz _ w).alloc _).alloc _).alloc _⟩
 ·exact (MapIs.made w Tryz.prog 9).keep (((krz (λ_=>True) _).alloc _).alloc _) trivial
 ·have h2:=(MapIs.made (w.alloc (.map #[] 0)) Tryz.prog 9).keep ((krz (λ_=>True) _).alloc (.cells (mcells w.heap.size (w.heap.size+1) 0 (List.replicate 16 zeroSess)).toArray 91)) trivial
  simpa using h2
def setP (k v:List UInt8)(ps:Ps):Ps:=match pfind k ps with
 | some _=>pput k v ps
 | none=>if 16≤ps.length then ps else pput k v ps
def setR (k v:List UInt8)(ps:Ps):MRes:=match pfind k ps with
 | some u=>⟨1,u,1⟩
 | none=>if 16≤ps.length then ⟨4,[],0⟩ else ⟨1,[],0⟩
theorem set_any (m bp:Nat) (ps:Ps) (c i r o:Int) (k v d:List UInt8) (w:World) (h0:w.cell? ⟨m,0,none⟩=some (.map (some bp))) (hm:MapIs Tryz.prog 9 w bp (sk ps)) (hk:k.length≤8) (hps:ps.length≤1048576) :
 Calls Tryz.prog 73 #[.pointer (some ⟨m,0,none⟩),cmdV c i r o k v d] w λe w'=>e=.returned (resV (setR k v ps))∧MapIs Tryz.prog 9 w' bp (sk (setP k v ps))∧Keep (λj=>j≠bp) w w':=by
 obtain⟨R,hR⟩:=exz (setR k v ps)
 obtain⟨P',hP'⟩:=exz (setP k v ps)
 rw[←hR,←hP']
 have hmlt:=lt_of_cell h0
 have hblt:=hm.lt
 obtain⟨G,hG⟩:=exz (w.heap.size)
 obtain⟨W,hW⟩:=exz ((w.alloc (.cells #[.int .i64 c,.int .i64 i,.int .i64 r,.int .i64 o,str k,str v,str d] 30)).alloc (.cells #[.int .i64 0,str [],.int .i64 0] 33))
 have hf:Fresh w W:=hW ▸ ((krz _ w).alloc _).alloc _
 have hbx:Blk W G 30 #[.int .i64 c,.int .i64 i,.int .i64 r,.int .i64 o,str k,str v,str d]:=by rw[hW,hG];exact (Blk.new _ _ _).alloc _
 have hbr:Blk W (G+1) 33 #[.int .i64 0,str [],.int .i64 0]:=by rw[hW];exact Blk.newAt (by simp[hG])
 have hmW:=hm.keep hf trivial
 have HL:=hdz (λq=>look_str hmW (l:=k) (by omega) q)
 have x0:=hf.cellAt h0 trivial
 have k4:=hbx.cell 4
 have k5:=hbx.cell 5
 simp at k4 k5
 have HA:=hdz (aiz hmW (aiz hf (aiz hbr (aiz hbx (aiz hG (aiz hmlt hblt))))))
 clear hmW hf hbr hbx hmlt hblt hm h0
 go_enter Tryz.func73,Tryz.ntmps73
 go_wp2_with fail
 simp only[←hG]
 rw[←hW]
 clear hW hG
 have hlk:=HL.out
 go_quiet (fail)
 obtain⟨W2,hW2⟩:=exz (W.drewN nq)
 rw[←hW2]
 obtain⟨hmW,hf,hbr,hbx,hG,hmlt,hblt⟩:=HA.out
 have hf2:Fresh w W2:=hW2 ▸ hf.drewN nq
 have y0:W2.cell? ⟨m,0,none⟩=some (.map (some bp)):=by rw[hW2];exact x0
 have y4:W2.cell? ⟨G,4,none⟩=some (str k):=by rw[hW2];exact k4
 have y5:W2.cell? ⟨G,5,none⟩=some (str v):=by rw[hW2];exact k5
 have HB:=hdz (aiz (show MapIs Tryz.prog 9 W2 bp (sk ps) by rw[hW2];exact hmW.keep (Keep.drewN (krz (λ_=>True) W) nq) trivial) (aiz hf2 (aiz (show Blk W2 (G+1) 33 #[.int .i64 0,str [],.int .i64 0] by rw[hW2];exact hbr.drewN nq) (aiz (show Blk W2 G 30 _ by rw[hW2];exact hbx.drewN nq) (aiz (show bp<G by omega) hG)))))
 clear hmW hf hbr hbx hG hmlt hblt hf2 hW2 x0 k4 k5 HL hlk HA
 cases hpf:pfind k ps with
 | some u=>
  have HE:Hid (R=⟨1,u,1⟩∧P'=pput k v ps):=⟨by simp[hR,setR,hpf],by simp[hP',setP,hpf]⟩
  clear hpf hR hP'
  have HD:=hdz (done_any u 1)
  go_wp2_with fail
  refine wp_region_still_tail 8 (by kernel_rfl) (by kernel_rfl) ?_
  simp only[List.take_succ_cons,List.take_zero,List.drop_succ_cons,List.drop_zero]
  repeat still_step
  refine wpStill_nil ?_
  change wpList _ _ _ _ _ W2.drew
  refine wpList_mstore rfl (.tmp 22) (.tmp 24) (.tmp 26) rfl Tryz.underlying9 Tryz.underlying87 rfl (HB.out.1.keep ((krz (λ_=>True) W2).drew) trivial) (by rw[sk_len];simp only[maxLen];omega) (l:=k) (by simp only[maxLen];omega) rfl (str v) rfl ?_
  intro W3 hm3 hk3
  rw[sk_put] at hm3
  obtain⟨-,hf,hbr,hbx,hlt,hww⟩:=HB.out
  have hk23:Keep (λj=>j≠bp) W2 W3:=(krz _ W2).drew.trans hk3
  have hbr3:=hbr.keep hk23 (by omega)
  have H3:=hdz (aiz hm3 (aiz (hf.comp hk23 (λ_ _ _=>trivial) (λ_ _ h=>h)) (aiz hbr3 (aiz hlt hww))))
  clear hm3 hk3 hf hbr hbx hlt hww hk23 hbr3 y0 y4 y5
  go_wp2_with fail
  refine (HD.out W3).mono ?_
  rintro e W4 ⟨rfl,f4⟩
  obtain⟨hm3,hf3,hbr3,hlt,hww⟩:=H3.out
  have hbr4:=hbr3.keep f4 trivial
  have r0:=hbr4.cell 0
  have r1:=hbr4.cell 1
  have r2:=hbr4.cell 2
  have s0:=hbr4.frozen 0
  have s1:=hbr4.frozen 1
  have s2:=hbr4.frozen 2
  have rl:=hbr4.lt
  simp at r0 r1 r2
  have H4:=hdz (aiz (hm3.keep f4 trivial) (aiz (hf3.comp f4 (λ_ _ h=>h) (λ_ _ _=>trivial)) (aiz hbr4 (aiz hlt hww))))
  clear hm3 hf3 hbr3 hlt hbr4 f4 HD H3 hww
  go_wp2_with fail
  obtain⟨hm4,hf4,hbr4,hlt,hww⟩:=H4.out
  rw[HE.out.1]
  refine bodyPost_ret (results_one rfl _ _ (G+1) 33 #[.int .i64 1,str u,.int .i64 1] _ rfl (((hbr4.set 0 _).set 1 _).set 2 _) Tryz.underlying33 rfl (by kernel_rfl)) rfl ?_
  refine⟨rfl,?_,?_⟩
  ·rw[HE.out.2]
   exact ((hm4.keep ((((krz (λj=>j≠G+1) _).setCell (λ_ h=>h rfl) _).setCell (λ_ h=>h rfl) _).setCell (λ_ h=>h rfl) _) (by omega)))
  ·exact ((hf4.setCell (λh=>by simp at h;omega) _).setCell (λh=>by simp at h;omega) _).setCell (λh=>by simp at h;omega) _
 | none=>
  by_cases hful:(16:Int)≤(ps.length:Int)
  ·have hful2:16≤ps.length:=by omega
   have HE:Hid (R=⟨4,[],0⟩∧P'=ps):=⟨by simp[hR,setR,hpf,hful2],by simp[hP',setP,hpf,hful2]⟩
   clear hpf hR hP'
   have HD:=hdz (code_any 4)
   have hskl:=sk_len ps
   go_wp2_with (at_len;refine wpList_mlen rfl (.tmp 33) rfl Tryz.underlying87 rfl HB.out.1 ?_)
   go_wp2_with fail
   refine (HD.out W2).mono ?_
   rintro e W4 ⟨rfl,f4⟩
   obtain⟨hm3,hf3,hbr3,-,hlt,hww⟩:=HB.out
   have hbr4:=hbr3.keep f4 trivial
   have r0:=hbr4.cell 0
   have r1:=hbr4.cell 1
   have r2:=hbr4.cell 2
   have s0:=hbr4.frozen 0
   have s1:=hbr4.frozen 1
   have s2:=hbr4.frozen 2
   have rl:=hbr4.lt
   simp at r0 r1 r2
   have H4:=hdz (aiz (hm3.keep f4 trivial) (aiz (hf3.trans f4) (aiz hbr4 (aiz hlt hww))))
   clear hm3 hf3 hbr3 hlt hbr4 f4 HD HB hww y0 y4 y5 hskl
   go_wp2_with fail
   obtain⟨hm4,hf4,hbr4,hlt,hww⟩:=H4.out
   rw[HE.out.1]
   refine bodyPost_ret (results_one rfl _ _ (G+1) 33 #[.int .i64 4,str [],.int .i64 0] _ rfl (((hbr4.set 0 _).set 1 _).set 2 _) Tryz.underlying33 rfl (by kernel_rfl)) rfl ?_
   refine⟨rfl,?_,?_⟩
   ·rw[HE.out.2]
    exact ((hm4.keep ((((krz (λj=>j≠G+1) _).setCell (λ_ h=>h rfl) _).setCell (λ_ h=>h rfl) _).setCell (λ_ h=>h rfl) _) (by omega)))
   ·exact (((hf4.setCell (λh=>by simp at h;omega) _).setCell (λh=>by simp at h;omega) _).setCell (λh=>by simp at h;omega) _).weaken (λ_ _ _=>trivial)
  ·have hful2:¬16≤ps.length:=by omega
   have HE:Hid (R=⟨1,[],0⟩∧P'=pput k v ps):=⟨by simp[hR,setR,hpf,hful2],by simp[hP',setP,hpf,hful2]⟩
   clear hpf hR hP'
   have HD:=hdz (done_any [] 0)
   have hskl:=sk_len ps
   go_wp2_with (at_len;refine wpList_mlen rfl (.tmp 33) rfl Tryz.underlying87 rfl HB.out.1 ?_)
   refine wp_region_still_tail 8 (by kernel_rfl) (by kernel_rfl) ?_
   simp only[List.take_succ_cons,List.take_zero,List.drop_succ_cons,List.drop_zero]
   repeat still_step
   refine wpStill_nil ?_
   change wpList _ _ _ _ _ W2.drew
   refine wpList_mstore rfl (.tmp 40) (.tmp 42) (.tmp 44) rfl Tryz.underlying9 Tryz.underlying87 rfl (HB.out.1.keep ((krz (λ_=>True) W2).drew) trivial) (by rw[sk_len];simp only[maxLen];omega) (l:=k) (by simp only[maxLen];omega) rfl (str v) rfl ?_
   intro W3 hm3 hk3
   rw[sk_put] at hm3
   obtain⟨-,hf,hbr,hbx,hlt,hww⟩:=HB.out
   have hk23:Keep (λj=>j≠bp) W2 W3:=(krz _ W2).drew.trans hk3
   have hbr3:=hbr.keep hk23 (by omega)
   have H3:=hdz (aiz hm3 (aiz (hf.comp hk23 (λ_ _ _=>trivial) (λ_ _ h=>h)) (aiz hbr3 (aiz hlt hww))))
   clear hm3 hk3 hf hbr hbx hlt hww hk23 hbr3 y0 y4 y5
   go_wp2_with fail
   refine (HD.out W3).mono ?_
   rintro e W4 ⟨rfl,f4⟩
   obtain⟨hm3,hf3,hbr3,hlt,hww⟩:=H3.out
   have hbr4:=hbr3.keep f4 trivial
   have r0:=hbr4.cell 0
   have r1:=hbr4.cell 1
   have r2:=hbr4.cell 2
   have s0:=hbr4.frozen 0
   have s1:=hbr4.frozen 1
   have s2:=hbr4.frozen 2
   have rl:=hbr4.lt
   simp at r0 r1 r2
   have H4:=hdz (aiz (hm3.keep f4 trivial) (aiz (hf3.comp f4 (λ_ _ h=>h) (λ_ _ _=>trivial)) (aiz hbr4 (aiz hlt hww))))
   clear hm3 hf3 hbr3 hlt hbr4 f4 HD H3 hww
   go_wp2_with fail
   obtain⟨hm4,hf4,hbr4,hlt,hww⟩:=H4.out
   rw[HE.out.1]
   refine bodyPost_ret (results_one rfl _ _ (G+1) 33 #[.int .i64 1,str [],.int .i64 0] _ rfl (((hbr4.set 0 _).set 1 _).set 2 _) Tryz.underlying33 rfl (by kernel_rfl)) rfl ?_
   refine⟨rfl,?_,?_⟩
   ·rw[HE.out.2]
    exact ((hm4.keep ((((krz (λj=>j≠G+1) _).setCell (λ_ h=>h rfl) _).setCell (λ_ h=>h rfl) _).setCell (λ_ h=>h rfl) _) (by omega)))
   ·exact ((hf4.setCell (λh=>by simp at h;omega) _).setCell (λh=>by simp at h;omega) _).setCell (λh=>by simp at h;omega) _
def casP (k v d:List UInt8)(ps:Ps):Ps:=match pfind k ps with
 | some u=>if u=d then pput k v ps else ps
 | none=>ps
def casR (k d:List UInt8)(ps:Ps):MRes:=match pfind k ps with
 | some u=>if u=d then ⟨1,d,1⟩ else ⟨3,u,1⟩
 | none=>⟨2,[],0⟩
theorem cas_any (m bp:Nat) (ps:Ps) (c i r o:Int) (k v d:List UInt8) (w:World) (h0:w.cell? ⟨m,0,none⟩=some (.map (some bp))) (hm:MapIs Tryz.prog 9 w bp (sk ps)) (hk:k.length≤8) (hps:ps.length≤1048576) :
 Calls Tryz.prog 75 #[.pointer (some ⟨m,0,none⟩),cmdV c i r o k v d] w λe w'=>e=.returned (resV (casR k d ps))∧MapIs Tryz.prog 9 w' bp (sk (casP k v d ps))∧Keep (λj=>j≠bp) w w':=by
 obtain⟨R,hR⟩:=exz (casR k d ps)
 obtain⟨P',hP'⟩:=exz (casP k v d ps)
 rw[←hR,←hP']
 have hmlt:=lt_of_cell h0
 have hblt:=hm.lt
 obtain⟨G,hG⟩:=exz (w.heap.size)
 obtain⟨W,hW⟩:=exz ((w.alloc (.cells #[.int .i64 c,.int .i64 i,.int .i64 r,.int .i64 o,str k,str v,str d] 30)).alloc (.cells #[.int .i64 0,str [],.int .i64 0] 33))
 have hf:Fresh w W:=hW ▸ ((krz _ w).alloc _).alloc _
 have hbx:Blk W G 30 #[.int .i64 c,.int .i64 i,.int .i64 r,.int .i64 o,str k,str v,str d]:=by rw[hW,hG];exact (Blk.new _ _ _).alloc _
 have hbr:Blk W (G+1) 33 #[.int .i64 0,str [],.int .i64 0]:=by rw[hW];exact Blk.newAt (by simp[hG])
 have hmW:=hm.keep hf trivial
 have HL:=hdz (λq=>look_str hmW (l:=k) (by omega) q)
 have x0:=hf.cellAt h0 trivial
 have k4:=hbx.cell 4
 have k5:=hbx.cell 5
 have k6:=hbx.cell 6
 simp at k4 k5 k6
 have HA:=hdz (aiz hmW (aiz hf (aiz hbr (aiz hbx (aiz hG (aiz hmlt hblt))))))
 clear hmW hf hbr hbx hmlt hblt hm h0
 go_enter Tryz.func75,Tryz.ntmps75
 go_wp2_with fail
 simp only[←hG]
 rw[←hW]
 clear hW hG
 have hlk:=HL.out
 go_quiet (fail)
 obtain⟨W2,hW2⟩:=exz (W.drewN nq)
 rw[←hW2]
 obtain⟨hmW,hf,hbr,hbx,hG,hmlt,hblt⟩:=HA.out
 have hf2:Fresh w W2:=hW2 ▸ hf.drewN nq
 have y0:W2.cell? ⟨m,0,none⟩=some (.map (some bp)):=by rw[hW2];exact x0
 have y4:W2.cell? ⟨G,4,none⟩=some (str k):=by rw[hW2];exact k4
 have y5:W2.cell? ⟨G,5,none⟩=some (str v):=by rw[hW2];exact k5
 have y6:W2.cell? ⟨G,6,none⟩=some (str d):=by rw[hW2];exact k6
 have HB:=hdz (aiz (show MapIs Tryz.prog 9 W2 bp (sk ps) by rw[hW2];exact hmW.keep (Keep.drewN (krz (λ_=>True) W) nq) trivial) (aiz hf2 (aiz (show Blk W2 (G+1) 33 #[.int .i64 0,str [],.int .i64 0] by rw[hW2];exact hbr.drewN nq) (aiz (show Blk W2 G 30 _ by rw[hW2];exact hbx.drewN nq) (aiz (show bp<G by omega) hG)))))
 clear hmW hf hbr hbx hG hmlt hblt hf2 hW2 x0 k4 k5 k6 HL hlk HA
 cases hpf:pfind k ps with
 | none=>
  have HE:Hid (R=⟨2,[],0⟩∧P'=ps):=⟨by simp[hR,casR,hpf],by simp[hP',casP,hpf]⟩
  clear hpf hR hP'
  have HD:=hdz (code_any 2)
  go_wp2_with fail
  refine (HD.out W2).mono ?_
  rintro e W4 ⟨rfl,f4⟩
  obtain⟨hm3,hf3,hbr3,-,hlt,hww⟩:=HB.out
  have hbr4:=hbr3.keep f4 trivial
  have r0:=hbr4.cell 0
  have r1:=hbr4.cell 1
  have r2:=hbr4.cell 2
  have s0:=hbr4.frozen 0
  have s1:=hbr4.frozen 1
  have s2:=hbr4.frozen 2
  have rl:=hbr4.lt
  simp at r0 r1 r2
  have H4:=hdz (aiz (hm3.keep f4 trivial) (aiz (hf3.trans f4) (aiz hbr4 (aiz hlt hww))))
  clear hm3 hf3 hbr3 hlt hbr4 f4 HD HB hww y0 y4 y5 y6
  go_wp2_with fail
  obtain⟨hm4,hf4,hbr4,hlt,hww⟩:=H4.out
  rw[HE.out.1]
  refine bodyPost_ret (results_one rfl _ _ (G+1) 33 #[.int .i64 2,str [],.int .i64 0] _ rfl (((hbr4.set 0 _).set 1 _).set 2 _) Tryz.underlying33 rfl (by kernel_rfl)) rfl ?_
  refine⟨rfl,?_,?_⟩
  ·rw[HE.out.2]
   exact ((hm4.keep ((((krz (λj=>j≠G+1) _).setCell (λ_ h=>h rfl) _).setCell (λ_ h=>h rfl) _).setCell (λ_ h=>h rfl) _) (by omega)))
  ·exact (((hf4.setCell (λh=>by simp at h;omega) _).setCell (λh=>by simp at h;omega) _).setCell (λh=>by simp at h;omega) _).weaken (λ_ _ _=>trivial)
 | some u=>
  by_cases hud:u=d
  ·subst hud
   have HE:Hid (R=⟨1,u,1⟩∧P'=pput k v ps):=⟨by simp[hR,casR,hpf],by simp[hP',casP,hpf]⟩
   clear hpf hR hP'
   have HD:=hdz (done_any u 1)
   go_wp2_with fail
   refine wp_region_still_tail 8 (by kernel_rfl) (by kernel_rfl) ?_
   simp only[List.take_succ_cons,List.take_zero,List.drop_succ_cons,List.drop_zero]
   repeat still_step
   refine wpStill_nil ?_
   change wpList _ _ _ _ _ W2.drew
   refine wpList_mstore rfl (.tmp 31) (.tmp 33) (.tmp 35) rfl Tryz.underlying9 Tryz.underlying87 rfl (HB.out.1.keep ((krz (λ_=>True) W2).drew) trivial) (by rw[sk_len];simp only[maxLen];omega) (l:=k) (by simp only[maxLen];omega) rfl (str v) rfl ?_
   intro W3 hm3 hk3
   rw[sk_put] at hm3
   obtain⟨-,hf,hbr,hbx,hlt,hww⟩:=HB.out
   have hk23:Keep (λj=>j≠bp) W2 W3:=(krz _ W2).drew.trans hk3
   have hbr3:=hbr.keep hk23 (by omega)
   have hbx3:=hbx.keep hk23 (by omega)
   have z6:=hbx3.cell 6
   have zl:=hbx3.lt
   simp at z6
   clear hbx3
   have H3:=hdz (aiz hm3 (aiz (hf.comp hk23 (λ_ _ _=>trivial) (λ_ _ h=>h)) (aiz hbr3 (aiz hlt hww))))
   clear hm3 hk3 hf hbr hbx hlt hww hk23 hbr3 y0 y4 y5
   go_wp2_with fail
   refine (HD.out W3).mono ?_
   rintro e W4 ⟨rfl,f4⟩
   obtain⟨hm3,hf3,hbr3,hlt,hww⟩:=H3.out
   have hbr4:=hbr3.keep f4 trivial
   have r0:=hbr4.cell 0
   have r1:=hbr4.cell 1
   have r2:=hbr4.cell 2
   have s0:=hbr4.frozen 0
   have s1:=hbr4.frozen 1
   have s2:=hbr4.frozen 2
   have rl:=hbr4.lt
   simp at r0 r1 r2
   have H4:=hdz (aiz (hm3.keep f4 trivial) (aiz (hf3.comp f4 (λ_ _ h=>h) (λ_ _ _=>trivial)) (aiz hbr4 (aiz hlt hww))))
   clear hm3 hf3 hbr3 hlt hbr4 f4 HD H3 hww
   go_wp2_with fail
   obtain⟨hm4,hf4,hbr4,hlt,hww⟩:=H4.out
   rw[HE.out.1]
   refine bodyPost_ret (results_one rfl _ _ (G+1) 33 #[.int .i64 1,str u,.int .i64 1] _ rfl (((hbr4.set 0 _).set 1 _).set 2 _) Tryz.underlying33 rfl (by kernel_rfl)) rfl ?_
   refine⟨rfl,?_,?_⟩
   ·rw[HE.out.2]
    exact ((hm4.keep ((((krz (λj=>j≠G+1) _).setCell (λ_ h=>h rfl) _).setCell (λ_ h=>h rfl) _).setCell (λ_ h=>h rfl) _) (by omega)))
   ·exact ((hf4.setCell (λh=>by simp at h;omega) _).setCell (λh=>by simp at h;omega) _).setCell (λh=>by simp at h;omega) _
  ·have HE:Hid (R=⟨3,u,1⟩∧P'=ps):=⟨by simp[hR,casR,hpf,hud],by simp[hP',casP,hpf,hud]⟩
   clear hpf hR hP'
   have hudb:(u==d)=false:=by simpa using hud
   obtain⟨hm3,hf3,hbr3,-,hlt,hww⟩:=HB.out
   have r0:=hbr3.cell 0
   have r1:=hbr3.cell 1
   have r2:=hbr3.cell 2
   have s0:=hbr3.frozen 0
   have s1:=hbr3.frozen 1
   have s2:=hbr3.frozen 2
   have rl:=hbr3.lt
   simp at r0 r1 r2
   clear hm3 hf3 hbr3 hlt hww
   go_wp2_with fail
   obtain⟨hm4,hf4,hbr4,-,hlt,hww⟩:=HB.out
   rw[HE.out.1]
   refine bodyPost_ret (results_one rfl _ _ (G+1) 33 #[.int .i64 3,str u,.int .i64 1] _ rfl (((hbr4.set 0 _).set 1 _).set 2 _) Tryz.underlying33 rfl (by kernel_rfl)) rfl ?_
   refine⟨rfl,?_,?_⟩
   ·rw[HE.out.2]
    exact ((hm4.keep ((((krz (λj=>j≠G+1) _).setCell (λ_ h=>h rfl) _).setCell (λ_ h=>h rfl) _).setCell (λ_ h=>h rfl) _) (by omega)))
   ·exact (((hf4.setCell (λh=>by simp at h;omega) _).setCell (λh=>by simp at h;omega) _).setCell (λh=>by simp at h;omega) _).weaken (λ_ _ _=>trivial)
theorem get_any (m bp:Nat)(ps:Ps)(k:List UInt8)(w:World)(h0:w.cell? ⟨m,0,none⟩=some (.map (some bp)))(hm:MapIs Tryz.prog 9 w bp (sk ps))(hk:k.length≤1099511627776) :
 Calls Tryz.prog 32 #[.pointer (some ⟨m,0,none⟩),str k] w λe w'=>e=.returned (.tuple #[str ((pfind k ps).getD []),.bool (pfind k ps).isSome])∧w=w':=by
 have hlk:=look_str hm (l:=k) (by omega) 0
 rw[show w.drewN 0=w from rfl] at hlk
 clear hm
 go_enter Tryz.func32,Tryz.ntmps32
 go_wp2
 go_ret2
 exact⟨rfl,rfl⟩
def OwnAt (w:World)(base e:Nat)(v:Value)(n:Nat)(xs:List Value):Prop:=
 xs.length=n∧((v=.slice none 0 0∧n=0)∨∃ (g o cap:Nat) (cur:Array Value),v=.slice (some ⟨g,o,none⟩) n cap∧base≤g∧w.heap[g]?=some (.cells cur e (0,0))∧n≤cap∧cap≤maxLen∧o+cap≤cur.size∧∀j u,xs[j]?=some u→cur[o+j]?=some u)
section
variable {w w':World}{base base' e n:Nat}{v:Value}{xs:List Value}
theorem OwnAt.nil (w:World)(base e:Nat):OwnAt w base e (.slice none 0 0) 0 []:=⟨rfl,.inl ⟨rfl,rfl⟩⟩
theorem OwnAt.of_own (h:w.ownsRow base e 1 v n xs):OwnAt w base e v n xs:=by
 refine⟨by simpa using h.1,?_⟩
 rcases h.2 with hn | ⟨g,cap,cur,rfl,hb,hh,hc,hm,hs,ht⟩
 ·exact .inl hn
 ·refine .inr ⟨g,0,cap,cur,rfl,hb,hh,hc,hm,by omega,λj u hu=>?_⟩
  rw[←ht,List.getElem?_take] at hu
  split at hu
  ·simpa using hu
  ·cases hu
theorem OwnAt.keep {Z:Nat→Prop}(h:OwnAt w base e v n xs)(hk:Keep Z w w')(hz:∀k,v.ownBlock=some k→Z k):OwnAt w' base e v n xs:=by
 refine⟨h.1,?_⟩
 rcases h.2 with hn | ⟨g,o,cap,cur,rfl,hb,hh,rest⟩
 ·exact .inl hn
 ·exact .inr ⟨g,o,cap,cur,rfl,hb,(hk.block g (lt_of_block hh) (hz g rfl)).trans hh,rest⟩
theorem OwnAt.far (h:OwnAt w base e v n xs){p:Addr}(hp:v.ownBlock≠some p.block)(u:Value):OwnAt (w.setCell p u) base e v n xs:=
 h.keep (Z:=λk=>k≠p.block) ((krz _ w).setCell (λ_ h=>h rfl) u) (λk hk e=>hp (e ▸ hk))
theorem OwnAt.lower (h:OwnAt w base e v n xs)(hb:base'≤base):OwnAt w base' e v n xs:=by
 refine⟨h.1,?_⟩
 rcases h.2 with hn | ⟨g,o,cap,cur,rfl,hbg,rest⟩
 ·exact .inl hn
 ·exact .inr ⟨g,o,cap,cur,rfl,by omega,rest⟩
theorem OwnAt.lt (h:OwnAt w base e v n xs) {g:Nat} (hg:v.ownBlock=some g):base≤g∧g<w.heap.size:=by
 rcases h.2 with ⟨rfl,_⟩ | ⟨g',o,cap,cur,rfl,hb,hh,_⟩
 ·simp[Value.ownBlock] at hg
 ·simp[Value.ownBlock] at hg
  subst hg
  exact⟨hb,lt_of_block hh⟩
theorem OwnAt.ne_blk {g:Nat} {t:TypeId} {cs:Array Value} (h:OwnAt w base e v n xs) (hg:Blk w g t cs) (hne:e≠t):v.ownBlock≠some g:=by
 rcases h.2 with ⟨rfl,_⟩ | ⟨g',o,cap,cur,rfl,_,hh,_⟩
 ·simp[Value.ownBlock]
 ·intro he
  have:g'=g:=by simpa[Value.ownBlock] using he
  subst this
  exact Blk.ne (t:=e) hh hg hne rfl
theorem OwnAt.rd (h:OwnAt w base e v n xs):∃A c,v=.slice A n c∧n≤c∧Rd w (λk=>v.ownBlock=some k) 1 A n xs∧(n=0→c=0∨A≠none):=by
 rcases h.2 with ⟨rfl,rfl⟩ | ⟨g,o,cap,cur,rfl,hb,hh,hn,hm,hs,hc⟩
 ·have:xs=[]:=List.eq_nil_of_length_eq_zero h.1
  subst this
  exact⟨none,0,rfl,lrz _,Rd.nil _ _ _ _,λ_=>.inl rfl⟩
 ·refine⟨_,_,rfl,hn,⟨by rw[Nat.mul_one];exact h.1,λ_=>⟨g,o,rfl,by simp[Value.ownBlock],λj u hu=>?_⟩⟩,λ_=>.inr (by simp)⟩
  rw[cell_of_row w g (o+j) cur e (0,0) hh]
  exact hc j u hu
def tailV:Value→Value
 | .slice (some a) n c=>.slice (if c=1 then some a else some ⟨a.block,a.off+1,a.spot⟩) (n - 1) (c - 1)
 | v=>v
theorem OwnAt.tail {x:Value} (h:OwnAt w base e v (n+1) (x::xs)):OwnAt w base e (tailV v) n xs:=by
 refine⟨by have:=h.1;simpa using this,?_⟩
 rcases h.2 with ⟨_,h0⟩ | ⟨g,o,cap,cur,rfl,hb,hh,hn,hm,hs,hc⟩
 ·omega
 ·by_cases h1:cap=1
  ·subst h1
   have hn0:n=0:=by omega
   subst hn0
   have hx:xs=[]:=List.eq_nil_of_length_eq_zero (by have:=h.1;simpa using this)
   subst hx
   exact .inr ⟨g,o,0,cur,by simp[tailV],hb,hh,lrz _,by simp[maxLen],by omega,λj u hu=>by cases hu⟩
  ·refine .inr ⟨g,o+1,cap - 1,cur,by simp[tailV,h1],hb,hh,by omega,by omega,by omega,λj u hu=>?_⟩
   have:=hc (j+1) u (by simpa using hu)
   rwa [show o+1+j=o+(j+1) by omega]
theorem tailV_own (h:OwnAt w base e v (n+1) xs):(tailV v).ownBlock=v.ownBlock:=by
 rcases h.2 with ⟨_,h0⟩ | ⟨g,o,cap,cur,rfl,_⟩
 ·omega
 ·simp only[tailV]
  split <;> rfl
end
section
variable {P:Program}{w:World}{t e:TypeId}{bytes:Nat}{z:Value}
theorem run_app_at (E:ET P t e 1 bytes z) (ty:TypeId) {base:Nat} {v:Value} {n:Nat} {xs:List Value} (hown:OwnAt w base e v n xs) {Z:Nat→Prop} {ad:Addr} {c:Nat} {y:Value} (hr:Rd w Z 1 (some ad) 1 [y])
 (h1:y.oneCell'=true) (hb:(n+1)*bytes≤140737488355328) (hbase:base≤w.heap.size) :
 ∃v' w',(Builtin.append_ #[t,t] ty #[v,.slice (some ad) 1 c]).run P w=.ok v' w'∧OwnAt w' base e v' (n+1) (xs++[y])∧Keep (λk=>v.ownBlock≠some k) w w'∧Next w.heap.size v v':=by
 obtain⟨i,hi,hz1,hz2,hz3⟩:=info_parts E.hi
 have hcells:∀j u,([y]:List Value)[j]?=some u→w.cell? (ad.add j)=some u:=by
  intro j u hu
  obtain⟨b,o,h,_,hc⟩:=hr.2 (by omega)
  injection h with h
  subst h
  have:=hc j u hu
  unfold Addr.add
  split
  ·rename_i hj;subst hj;simpa using this
  ·exact this
 have h63:n+1≤maxLen:=by
  have h2:=E.hb
  have h3:n+1≤(n+1)*bytes:=Nat.le_mul_of_pos_right _ h2
  simp only[maxLen]
  omega
 rcases hown.2 with ⟨rfl,rfl⟩ | ⟨g,o,cap,cur,rfl,hbg,hh,hn,hm,hs,hc⟩
 ·have hx:xs=[]:=List.eq_nil_of_length_eq_zero hown.1
  subst hx
  obtain⟨v',w',hrun,h2,h3,h4⟩:=run_app E ty (onz w base e 1) hr (c:=c) (λh=>by cases h) (by simpa using h1) hb hbase
  exact⟨v',w',hrun,OwnAt.of_own h2,h3,h4.imp id λh=>⟨_,h,lrz _⟩⟩
 ·by_cases hroom:n+1≤cap
  ·have hget:cur[o+n]?=some (cur[o+n]'(by omega)):=Array.getElem?_eq_getElem (by omega)
   have hr2:=run_append_room_cells (P:=P) (w:=w) t ty e i E.ht hi g o n cap ad 1 c [y] (by rw[hz2];rfl) hcells (by simpa using h1) hroom (λj hj=>by
    have:j=0:=by simpa using hj
    subst this
    rw[hz2,Nat.mul_one,Nat.add_zero,cell_of_row w g (o+n) cur e (0,0) hh,hget]
    rfl) (λj hj=>by simp[World.frozen?,hh])
   rw[hz2,Nat.mul_one] at hr2
   refine⟨_,_,hr2,⟨by simp[hown.1],.inr ⟨g,o,cap,cur.setIfInBounds (o+n) y,rfl,hbg,?_,hroom,hm,by simpa using hs,λj u hu=>?_⟩⟩,?_,.inl rfl⟩
   ·simp[World.setCells,World.setCell,Array.getElem?_modify,hh]
   ·rw[Array.getElem?_setIfInBounds]
    by_cases hj:j<xs.length
    ·rw[List.getElem?_append_left hj] at hu
     rw[if_neg (by have:=hown.1;omega)]
     exact hc j u hu
    ·rw[List.getElem?_append_right (by omega)] at hu
     have hj2:j=n:=by
      have:j - xs.length<1:=by
       rcases Nat.lt_or_ge (j - xs.length) 1 with h | h
       ·exact h
       ·rw[List.getElem?_eq_none (by simpa using h)] at hu;cases hu
      have:=hown.1
      omega
     subst hj2
     rw[hown.1,Nat.sub_self] at hu
     rw[if_pos rfl,if_pos (by omega)]
     simpa using hu
   ·exact (krz _ w).setCell (p:=⟨g,o+n,none⟩) (λ_ h=>h rfl) y
  ·have holds:∀j u,xs[j]?=some u→w.cell? ((⟨g,o,none⟩:Addr).add j)=some u:=λj u hu=>by
    have h3:w.cell? ⟨g,o+j,none⟩=some u:=by
     rw[cell_of_row w g (o+j) cur e (0,0) hh]
     exact hc j u hu
    unfold Addr.add
    split
    ·rename_i hj;subst hj;simpa using h3
    ·exact h3
   obtain⟨v',w',hrun,ho,hg⟩:=run_append_arg_grows (P:=P) (w:=w) t ty e i z 1 bytes E.ht hi hz1 hz2 hz3 E.hz E.hs ⟨g,o,none⟩ n cap xs (by rw[Nat.mul_one];exact hown.1) holds ad 1 c [y] rfl hcells (by omega) h63 hb
   refine⟨v',w',hrun,OwnAt.of_own (own_base ho hbase),(Keep.of_grown hg).weaken (λ_ _ _=>by simp),?_⟩
   obtain⟨g',c',rfl,h5,_⟩:=own_form ho (by omega)
   exact .inr ⟨g',rfl,h5⟩
end
end Go.Proofs.YtlibhkehebioeaaGreatDoor
