/- A PART OF THE PROOF. No condition. -/
import Derived.Test.YtlibhkehebioeaaGreatDoorP2
import Derived.Test.YtlibhkehebioeaaGreatDoorP1
import Derived.Test.YtlibhkehebioeaaGreatDoorP9
import Derived.Test.YtlibhkehebioeaaGreatDoorP0
import Derived.Test.YtlibhkehebioeaaGreatDoorP4
import Derived.Test.YtlibhkehebioeaaGreatDoorP3
import Derived.Test.YtlibhkehebioeaaGreatDoorP10
namespace Go.Proofs.YtlibhkehebioeaaGreatDoor
set_option linter.unusedVariables false
set_option linter.unusedSimpArgs false
set_option maxRecDepth 100000
set_option maxHeartbeats 40000000
open Go.RowKit
theorem rtake_step (v a k:Nat) (hv:v<2 ^ (7*k)) (ha:a<256) (hk:k<9) (wo:Int) (hw:wo=2 ^ (7*k)) :
 wrap64 ((v:Int)+wrap64 ((a:Int) % 128*wo))=((v+(a % 128)*2 ^ (7*k):Nat):Int):=by
 have hm:a % 128<128:=Nat.mod_lt _ (by decide)
 have hp:2 ^ (7*k)≤2 ^ 56:=Nat.pow_le_pow_right (by decide) (by omega)
 have hb:(a % 128)*2 ^ (7*k)≤127*2 ^ 56:=Nat.mul_le_mul (by omega) hp
 have e2:(a:Int) % 128*wo=(((a % 128)*2 ^ (7*k):Nat):Int):=by
  rw[hw,Int.natCast_mul,Int.natCast_pow];rfl
 rw[e2]
 have e3:wrap64 (((a % 128)*2 ^ (7*k):Nat):Int)=(((a % 128)*2 ^ (7*k):Nat):Int):=by unfold wrap64;omega
 rw[e3]
 unfold wrap64
 omega
theorem rTakeInt_in (Z:Nat→Prop) (A:Option Addr) (n c:Nat) (bs:List UInt8) (p:Nat) (w:World) (hp:p≤n) (hb:Rd w Z 1 A n (Lib.byteCells bs)) (hn:n≤1099511627770) :
 Calls Tryz.prog 171 #[.slice A n c,.int .i64 (p:Int)] w λe w'=>TakeRes p (takeB (bs.drop p)) e∧w=w':=by
 have HB:=hdz hb
 have hlen:bs.length=n:=by simpa[Lib.byteCells] using hb.1
 have HN:=hdz hlen
 clear hlen hb
 have h0:¬(p:Int)<0:=by omega
 have h1:¬(n:Int)<(p:Int):=by omega
 go_enter Tryz.func171,Tryz.ntmps171
 go_wp2
 go_loop [7,8,9,10] (λv wo i _=>∃ (k:Nat) (y u:Int),k≤9∧i=.int .i64 (k:Int)∧v=.int .i64 y∧wo=.int .i64 u∧Hid ((∃v':Nat,y=(v':Int)∧p+k≤n∧v'<2 ^ (7*k)∧takeGo (9 - k) (bs.drop (p+k)) k v'=takeB (bs.drop p))∧(k<9→u=2 ^ (7*k)))) (λ_ _ i _=>9 - (intOf i).toNat)
 case atStart=>exact⟨0,0,1,by omega,rfl,rfl,rfl,⟨0,rfl,by omega,by decide,rfl⟩,λ_=>rfl⟩
 case round=>
  obtain⟨k,y,u,hk,rfl,rfl,rfl,HR⟩:=hrel
  obtain⟨⟨v',hy,hpk,hv',hgo⟩,hu0⟩:=HR.out
  by_cases hk9:k<9
  ·have hu:=hu0 hk9
   clear hu0
   obtain⟨f,hf⟩:∃f,9 - k=f+1:=⟨8 - k,by omega⟩
   rw[hf] at hgo
   by_cases hin:p+k<n
   ·obtain⟨b,o,rfl,hzb,hll,hcell⟩:=HB.out.at1 hin
    have hkb:p+k<bs.length:=by rw[HN.out];exact hin
    rw[show (Lib.byteCells bs)[p+k]=.int .u8 (bs[p+k].toNat:Int) by simp[Lib.byteCells]] at hcell
    rw[takeGo_cons f bs (p+k) k v' hkb] at hgo
    obtain⟨ch,hch⟩:∃ch:UInt8,ch=bs[p+k]:=⟨_,rfl⟩
    rw[←hch] at hcell hgo
    obtain⟨cz,hcz⟩:∃cz:Int,cz=(ch.toNat:Int):=⟨_,rfl⟩
    have hE:=rtake_step v' ch.toNat k hv' ch.toNat_lt hk9 u hu
    have hlt:=take_lt v' ch.toNat k hv'
    have hz63:v'+(ch.toNat % 128)*2 ^ (7*k)<2 ^ 63:=ltz hlt (Nat.pow_le_pow_right (by decide) (by omega))
    obtain⟨z,hz⟩:∃z:Nat,z=v'+(ch.toNat % 128)*2 ^ (7*k):=⟨_,rfl⟩
    obtain⟨zi,hzi⟩:∃zi:Int,zi=(z:Int):=⟨_,rfl⟩
    rw[←hz] at hgo hlt hz63 hE
    rw[←hy,←hcz,←hzi] at hE
    rw[←hcz] at hcell
    have hc0:0≤cz:=by omega
    have hc256:cz<256:=by have:=ch.toNat_lt;omega
    have g0:0≤zi:=by omega
    have HE:=hdz hE
    have hu8:k<8→wrap64 (u*128)=2 ^ (7*(k+1)):=λh8=>by
     have hp:(2:Nat) ^ (7*k)≤2 ^ 49:=Nat.pow_le_pow_right (by decide) (by omega)
     have e1:u=((2 ^ (7*k):Nat):Int):=by rw[hu,Int.natCast_pow];rfl
     have e2:(2:Int) ^ (7*(k+1))=((2 ^ (7*(k+1)):Nat):Int):=by rw[Int.natCast_pow];rfl
     rw[e2,show 7*(k+1)=7*k+7 by omega,Nat.pow_add,e1]
     unfold wrap64
     omega
    have HH:=hdz (aiz hcz (aiz hzi (aiz hlt (aiz hz63 (aiz hgo (aiz hf hu8))))))
    clear hzb hll hch hcz hE hlt hz63 hz hzi hgo hv' hpk hy hf HR hu hu8
    go_upto_region 12 with (fail)
    rw[HE.out]
    have HV:=hdz HH.out
    by_cases hbig:127<cz
    ·have hfin:∃v':Nat,zi=(v':Int)∧p+(k+1)≤n∧v'<2 ^ (7*(k+1))∧takeGo (9 - (k+1)) (bs.drop (p+(k+1))) (k+1) v'=takeB (bs.drop p):=by
      obtain⟨hcz,hzi,hlt,_,hgo,hf,_⟩:=HV.out
      rw[if_pos (by omega)] at hgo
      refine⟨z,hzi,by omega,hlt,?_⟩
      rw[show 9 - (k+1)=f by omega,show p+(k+1)=p+k+1 by omega]
      exact hgo
     have HF:=hdz (aiz hfin HV.out.2.2.2.2.2.2)
     clear hfin HV HH HE
     by_cases hk8:k<8
     ·go_wp2
      exact⟨⟨k+1,zi,_,by omega,congrArg _ (by omega),rfl,rfl,HF.out.1,λ_=>HF.out.2 hk8⟩,by simp[intOf];omega⟩
     ·go_wp2
      exact⟨⟨k+1,zi,_,by omega,congrArg _ (by omega),rfl,rfl,HF.out.1,λh=>by omega⟩,by simp[intOf];omega⟩
    ·by_cases hzero:cz=0∧0<k
     ·obtain⟨rfl,hk0⟩:=hzero
      have hfin:TakeRes p (takeB (bs.drop p)) (.returned (.tuple #[.int .i64 0,.int .i64 0,.int .i64 14])):=by
       obtain⟨hcz,hzi,hlt,_,hgo,hf,_⟩:=HV.out
       rw[if_neg (by omega),if_pos (.inl ⟨by omega,hk0⟩)] at hgo
       rw[←hgo];rfl
      have HF:=hdz hfin
      clear hfin HV HH HE
      go_wp2
      go_ret3
      exact⟨HF.out,rfl⟩
     ·by_cases hbz:(4611686018427387904:Int)<zi
      ·have hfin:TakeRes p (takeB (bs.drop p)) (.returned (.tuple #[.int .i64 0,.int .i64 0,.int .i64 14])):=by
        obtain⟨hcz,hzi,hlt,_,hgo,hf,_⟩:=HV.out
        rw[if_neg (by omega),if_pos (.inr (by omega))] at hgo
        rw[←hgo];rfl
       have HF:=hdz hfin
       clear hfin HV HH HE
       by_cases hc00:cz=0
       ·obtain rfl:k=0:=by omega
        subst hc00
        go_wp2
        go_ret3
        exact⟨HF.out,rfl⟩
       ·go_wp2
        go_ret3
        exact⟨HF.out,rfl⟩
      ·have hfin:TakeRes p (takeB (bs.drop p)) (.returned (.tuple #[.int .i64 zi,.int .i64 ((p:Int)+(k:Int)+1),.int .i64 0])):=by
        obtain⟨hcz,hzi,hlt,_,hgo,hf,_⟩:=HV.out
        rw[if_neg (by omega),if_neg (by omega)] at hgo
        rw[←hgo]
        unfold TakeRes
        rw[hzi]
        simp
        omega
       have HF:=hdz hfin
       clear hfin HV HH HE
       by_cases hc00:cz=0
       ·obtain rfl:k=0:=by omega
        subst hc00
        go_wp2
        go_ret3
        exact⟨HF.out,rfl⟩
       ·go_wp2
        go_ret3
        exact⟨HF.out,rfl⟩
   ·have hfin:TakeRes p (takeB (bs.drop p)) (.returned (.tuple #[.int .i64 0,.int .i64 0,.int .i64 10])):=by
     rw[takeGo_end f bs (p+k) k v' (by rw[HN.out];omega)] at hgo
     rw[←hgo];rfl
    have HF:=hdz hfin
    clear hfin hgo hf hv' hpk HR hy hu
    go_wp2
    go_ret3
    exact⟨HF.out,rfl⟩
  ·obtain rfl:k=9:=by omega
   have hfin:TakeRes p (takeB (bs.drop p)) (.returned (.tuple #[.int .i64 0,.int .i64 0,.int .i64 14])):=by
    rw[←hgo];rfl
   have HF:=hdz hfin
   clear hfin hgo hv' hpk HR hy hu0
   go_wp2
   go_ret3
   exact⟨HF.out,rfl⟩
def RRd (w:World)(g:Nat)(A:Option Addr)(n c p:Nat)(e:Int):Prop:=Blk w g 178 #[.slice A n c,.int .i64 (p:Int),.int .i64 e]
theorem RRd.err {w:World}{g:Nat}{A:Option Addr}{n c p:Nat}{e:Int}(h:RRd w g A n c p e)(k:Nat)(e':Int):RRd ((w.drewN k).setCell ⟨g,2,none⟩ (.int .i64 e')) g A n c p e':=by
 simpa[RRd] using (Blk.drewN h k).set 2 (.int .i64 e')
theorem RRd.goes {w:World}{g:Nat}{A:Option Addr}{n c p:Nat}{e:Int}(h:RRd w g A n c p e)(k p':Nat):RRd ((w.drewN k).setCell ⟨g,1,none⟩ (.int .i64 (p':Int))) g A n c p' e:=by
 simpa[RRd] using (Blk.drewN h k).set 1 (.int .i64 (p':Int))
def NumPost (g:Nat)(A:Option Addr)(n c:Nat)(w:World)(r:Nat×Nat×Int)(e:Ending)(w':World):Prop:=
 e=.returned (.int .i64 (r.1:Int))∧RRd w' g A n c r.2.1 r.2.2∧Keep (λk=>k≠g) w w'
theorem readNum_any (g:Nat) (Z:Nat→Prop) (A:Option Addr) (n c:Nat) (bs:List UInt8) (p:Nat) (er lo hi:Int) (w:World) (hg:RRd w g A n c p er) (hp:p≤n) (hb:Rd w Z 1 A n (Lib.byteCells bs)) (hn:n≤1099511627770) :
 Calls Tryz.prog 152 #[.pointer (some ⟨g,0,none⟩),.int .i64 lo,.int .i64 hi] w λe w'=>NumPost g A n c w (nNum bs p er lo hi) e w':=by
 have c0:=hg.cell 0
 have c1:=hg.cell 1
 have c2:=hg.cell 2
 have f1:=hg.frozen 1
 have f2:=hg.frozen 2
 simp at c0 c1 c2
 obtain⟨t,ht⟩:=exz (nNum bs p er lo hi)
 rw[←ht]
 unfold nNum at ht
 obtain⟨r,hr⟩:=exz (takeB (bs.drop p))
 have hT:=λk=>rTakeInt_in Z A n c bs p (w.drewN k) hp (hb.drewN k) hn
 rw[←hr] at hT ht
 have HT:=hdz hT
 have HG:=hdz hg
 clear hT hg hr hb
 obtain⟨rv,rl,re⟩:=r
 dsimp only at ht
 by_cases he0:er=0
 ·subst he0
  rw[if_neg (by simp)] at ht
  by_cases he:re=0
  ·subst he
   rw[if_neg (by simp)] at ht
   by_cases hm:(rv:Int)<lo
   ·rw[if_pos (.inl hm)] at ht
    subst ht
    go_enter Tryz.func152,Tryz.ntmps152
    go_wp2_with fail
    go_quiet ((go_at_call 171;exact quiet_left (HT.out _)))
    go_wp2_with fail
    go_ret
    refine⟨rfl,?_,?_⟩
    ·simpa[RRd] using ((Blk.drewN HG.out nq).set 1 (.int .i64 ((p+rl:Nat):Int))).set 2 (.int .i64 16)
    ·exact ((keep_step g 1 nq w _).setCell (λ_ h=>h rfl) _)
   ·by_cases hm2:hi<(rv:Int)
    ·rw[if_pos (.inr hm2)] at ht
     subst ht
     go_enter Tryz.func152,Tryz.ntmps152
     go_wp2_with fail
     go_quiet ((go_at_call 171;exact quiet_left (HT.out _)))
     go_wp2_with fail
     go_ret
     refine⟨rfl,?_,?_⟩
     ·simpa[RRd] using ((Blk.drewN HG.out nq).set 1 (.int .i64 ((p+rl:Nat):Int))).set 2 (.int .i64 16)
     ·exact ((keep_step g 1 nq w _).setCell (λ_ h=>h rfl) _)
    ·rw[if_neg (by omega)] at ht
     subst ht
     go_enter Tryz.func152,Tryz.ntmps152
     go_wp2_with fail
     go_quiet ((go_at_call 171;exact quiet_left (HT.out _)))
     go_wp2_with fail
     go_ret
     exact⟨rfl,by simpa using HG.out.goes nq (p+rl),keep_step _ _ _ _ _⟩
  ·rw[if_pos (by simpa using he)] at ht
   subst ht
   go_enter Tryz.func152,Tryz.ntmps152
   go_wp2_with fail
   go_quiet ((go_at_call 171;exact quiet_left (HT.out _)))
   go_wp2_with fail
   go_ret
   exact⟨rfl,HG.out.err nq re,keep_step _ _ _ _ _⟩
 ·rw[if_pos he0] at ht
  subst ht
  go_enter Tryz.func152,Tryz.ntmps152
  go_wp2_with fail
  go_ret
  exact⟨rfl,HG.out,krz _ _⟩
theorem nNum_val (bs:List UInt8) (p:Nat) (e lo hi:Int) (h0:0≤hi):((nNum bs p e lo hi).1:Int)≤hi:=by
 unfold nNum
 split
 ·exact h0
 ·split
  ·exact h0
  ·split
   ·exact h0
   ·dsimp only;omega
def BytPost (g:Nat)(A:Option Addr)(n c:Nat)(w:World)(r:List UInt8×Nat×Int)(e:Ending)(w':World):Prop:=
 (∃u,e=.returned u∧w'.ownsRow w.heap.size 5 1 u r.1.length (Lib.byteCells r.1))∧RRd w' g A n c r.2.1 r.2.2∧Keep (λk=>k≠g) w w'
theorem readByt_any (g:Nat) (Z:Nat→Prop) (A:Option Addr) (n c:Nat) (bs:List UInt8) (p:Nat) (er hi:Int) (w:World) (hg:RRd w g A n c p er) (hz:∀k,Z k→k≠g) (hp:p≤n) (hnc:n≤c) (hnil:n=0→c=0∨A≠none) (hb:Rd w Z 1 A n (Lib.byteCells bs)) (hn:n≤1099511627770) (hh0:0≤hi) (hhi:hi≤1048576) :
 Calls Tryz.prog 153 #[.pointer (some ⟨g,0,none⟩),.int .i64 0,.int .i64 hi] w λe w'=>BytPost g A n c w (nByt bs p er hi) e w':=by
 have hlen:bs.length=n:=by simpa[Lib.byteCells] using hb.1
 have hC:=readNum_any g Z A n c bs p er 0 hi w hg hp hb hn
 have hle:=nNum_le bs p er 0 hi (by omega)
 have hglt:=hg.lt
 have hval:=nNum_val bs p er 0 hi hh0
 obtain⟨r,hr⟩:=exz (nNum bs p er 0 hi)
 obtain⟨t,ht⟩:=exz (nByt bs p er hi)
 rw[←ht]
 unfold nByt at ht
 rw[←hr] at hC hle ht hval
 clear hr
 obtain⟨rv,rp,re⟩:=r
 dsimp only at hC hle ht hval
 have hrv:(rv:Int)≤1048576:=by omega
 have hrp:(rp:Int)≤1099511627770:=by omega
 clear hval
 have HC:=hdz hC
 have HN:=hdz (aiz hlen (aiz hle (aiz hz (aiz hnc hnil))))
 have HB:=hdz hb
 clear hC hz hg hb hnil
 go_enter Tryz.func153,Tryz.ntmps153
 go_wp2_with fail
 refine HC.out.mono ?_
 rintro e w1 ⟨rfl,hg1,hk1⟩
 have hb1:=HB.out.keep (hk1.weaken (λk _ hk=>HN.out.2.2.1 k hk))
 have c0:=hg1.cell 0
 have c1:=hg1.cell 1
 have c2:=hg1.cell 2
 have f1:=hg1.frozen 1
 have f2:=hg1.frozen 2
 have hgl:=hg1.lt
 simp at c0 c1 c2
 have HG:=hdz (aiz hg1 (aiz hk1 hb1))
 clear hg1 hk1 hb1
 by_cases he:re=0
 ·subst he
  rw[if_neg (by simp)] at ht
  by_cases hbig:(n:Int)<(rp:Int)+(rv:Int)
  ·rw[if_pos (by omega)] at ht
   subst ht
   clear hlen hle
   go_wp2_with fail
   go_quiet (fail)
   go_wp2_with fail
   go_ret
   exact⟨⟨_,rfl,onz _ _ _ _⟩,HG.out.1.err _ 10,HG.out.2.1.comp (keep_step g 2 _ w1 _) (λ_ _ h=>h) (λ_ _ h=>h)⟩
  ·rw[if_neg (by omega)] at ht
   subst ht
   have hpv:rp+rv≤n:=by omega
   have hpc:rp≤c:=by omega
   clear hlen hle
   go_wp2_with fail
   go_quiet (fail)
   go_wp2_with fail
   obtain⟨W,hW⟩:=exz (w1.drewN nq)
   rw[←hW]
   have y0:W.cell? ⟨g,0,none⟩=some (.slice A n c):=by rw[hW];exact c0
   have y1:W.cell? ⟨g,1,none⟩=some (.int .i64 (rp:Int)):=by rw[hW];exact c1
   have HG2:=hdz (show RRd W g A n c rp 0∧Keep (λk=>k≠g) w W∧Rd W Z 1 A n (Lib.byteCells bs) from ⟨by rw[hW];exact HG.out.1.drewN nq,by rw[hW];exact HG.out.2.1.drewN nq,by rw[hW];exact HG.out.2.2⟩)
   clear hW HG c0 c1 c2 f1 f2 hgl HC
   refine wp_region_still_tail 14 (by kernel_rfl) (by kernel_rfl) ?_
   simp only[List.take_succ_cons,List.take_zero,List.drop_succ_cons,List.drop_zero]
   repeat still_step
   refine wpStill_nil ?_
   change wpList _ _ _ _ _ W.drew
   rw[show IntKind.i64.wrap ((rp:Int)+(rv:Int))=(rp:Int)+(rv:Int) by rw[IntKind.wrap_i64];omega]
   have hcut:=(show Rd W.drew Z 1 A n (Lib.byteCells bs) from HG2.out.2.2).cut1 hpv hnc
   rw[byteCells_cut] at hcut
   have hl2:((bs.drop rp).take rv).length=rv:=by have:=HN.out.1;simp;omega
   have hCC:(c=rp→Calls Tryz.prog 91 #[.slice A rv 0] W.drew λe w'=>(∃u,e=.returned u∧w'.ownsRow W.drew.heap.size 5 1 u rv (Lib.byteCells ((bs.drop rp).take rv)))∧Fresh W.drew w') ∧
    (c≠rp→Calls Tryz.prog 91 #[.slice (Option.map (λx=>x.add rp) A) rv (c - rp)] W.drew λe w'=>(∃u,e=.returned u∧w'.ownsRow W.drew.heap.size 5 1 u rv (Lib.byteCells ((bs.drop rp).take rv)))∧Fresh W.drew w'):=by
    refine⟨λhc=>?_,λhc=>?_⟩
    ·rw[if_pos hc] at hcut
     exact copied_any Z A rv 0 _ W.drew hcut (by omega) (λ_=>.inl rfl)
    ·rw[if_neg hc] at hcut
     refine copied_any Z _ rv (c - rp) _ W.drew hcut (by omega) (λh0=>?_)
     rcases A with _ | a
     ·rcases Nat.eq_zero_or_pos n with h1 | h1
      ·rcases HN.out.2.2.2.2 h1 with h2 | h2
       ·omega
       ·exact absurd rfl h2
      ·obtain⟨_,_,h3,_⟩:=HG2.out.2.2.2 h1
       cases h3
     ·exact .inr (by simp)
   replace hCC:=hdz hCC
   have HL2:=hdz hl2
   clear hcut hl2
   by_cases hcr:c=rp
   ·go_wp2_with fail
    refine (hCC.out.1 hcr).mono ?_
    rintro e w2 ⟨⟨u,rfl,ho⟩,hf⟩
    have hg2:=Blk.keep (show Blk W.drew g _ _ from HG2.out.1) hf trivial
    have z1:=hg2.cell 1
    have zf:=hg2.frozen 1
    have zl:=hg2.lt
    simp at z1
    have hneq:u.ownBlock≠some g:=λe=>by have h1:=(own_lt ho e).1;have h2:=HG2.out.1.lt;simp at h1;omega
    have HU:=hdz (aiz ho (aiz (show Fresh W w2 from (krz _ W).drew.trans hf) (aiz hg2 hneq)))
    clear ho hf hg2 hneq
    go_wp2_with fail
    go_ret
    obtain⟨ho,hf,hg2,hneq⟩:=HU.out
    have hkk:Keep (λk=>k≠g) w w2:=HG2.out.2.1.comp hf (λ_ _ h=>h) (λ_ _ _=>trivial)
    refine⟨⟨u,rfl,?_⟩,?_,hkk.setCell (λ_ h=>h rfl) _⟩
    ·have h1:=own_far (own_base ho (base':=w.heap.size) (by have:=HG2.out.2.1.size;simp;omega)) (p:=⟨g,1,none⟩) hneq (.int .i64 ((rp:Int)+(rv:Int)))
     show World.ownsRow _ _ _ _ _ ((bs.drop rp).take rv).length _
     rw[HL2.out]
     exact h1
    ·have h1:=hg2.set 1 (.int .i64 ((rp:Int)+(rv:Int)))
     simpa[RRd] using h1
   ·go_wp2_with fail
    refine (hCC.out.2 hcr).mono ?_
    rintro e w2 ⟨⟨u,rfl,ho⟩,hf⟩
    have hg2:=Blk.keep (show Blk W.drew g _ _ from HG2.out.1) hf trivial
    have z1:=hg2.cell 1
    have zf:=hg2.frozen 1
    have zl:=hg2.lt
    simp at z1
    have hneq:u.ownBlock≠some g:=λe=>by have h1:=(own_lt ho e).1;have h2:=HG2.out.1.lt;simp at h1;omega
    have HU:=hdz (aiz ho (aiz (show Fresh W w2 from (krz _ W).drew.trans hf) (aiz hg2 hneq)))
    clear ho hf hg2 hneq
    go_wp2_with fail
    go_ret
    obtain⟨ho,hf,hg2,hneq⟩:=HU.out
    have hkk:Keep (λk=>k≠g) w w2:=HG2.out.2.1.comp hf (λ_ _ h=>h) (λ_ _ _=>trivial)
    refine⟨⟨u,rfl,?_⟩,?_,hkk.setCell (λ_ h=>h rfl) _⟩
    ·have h1:=own_far (own_base ho (base':=w.heap.size) (by have:=HG2.out.2.1.size;simp;omega)) (p:=⟨g,1,none⟩) hneq (.int .i64 ((rp:Int)+(rv:Int)))
     show World.ownsRow _ _ _ _ _ ((bs.drop rp).take rv).length _
     rw[HL2.out]
     exact h1
    ·have h1:=hg2.set 1 (.int .i64 ((rp:Int)+(rv:Int)))
     simpa[RRd] using h1
 ·rw[if_pos he] at ht
  subst ht
  clear hlen hle
  go_wp2_with fail
  go_ret
  exact⟨⟨_,rfl,onz _ _ _ _⟩,HG.out.1,HG.out.2.1⟩
theorem readEnd_any (g:Nat) (A:Option Addr) (n c p:Nat) (er:Int) (w:World) (hg:RRd w g A n c p er) :
 Calls Tryz.prog 127 #[.pointer (some ⟨g,0,none⟩)] w λe w'=>e=.returned (.tuple #[])∧RRd w' g A n c p (if er=0∧p≠n then 15 else er)∧Keep (λk=>k≠g) w w':=by
 have c0:=hg.cell 0
 have c1:=hg.cell 1
 have c2:=hg.cell 2
 have f2:=hg.frozen 2
 simp at c0 c1 c2
 obtain⟨e2,he2⟩:∃e2:Int,e2=(if er=0∧p≠n then 15 else er):=⟨_,rfl⟩
 rw[←he2]
 have HG:=hdz hg
 clear hg
 by_cases he0:er=0
 ·subst he0
  by_cases hpn:p=n
  ·rw[if_neg (by simp[hpn])] at he2
   subst hpn he2
   go_enter Tryz.func127,Tryz.ntmps127
   go_wp2_with fail
   go_quiet (fail)
   go_wp2_with fail
   go_end0
   exact⟨rfl,HG.out.drewN _,(krz _ w).drewN _⟩
  ·have hpi:¬(p:Int)=(n:Int):=by omega
   rw[if_pos ⟨rfl,hpn⟩] at he2
   subst he2
   go_enter Tryz.func127,Tryz.ntmps127
   go_wp2_with fail
   go_quiet (fail)
   go_wp2_with fail
   go_end0
   exact⟨rfl,HG.out.err _ 15,keep_step _ _ _ _ _⟩
 ·rw[if_neg (λh=>he0 h.1)] at he2
  subst he2
  go_enter Tryz.func127,Tryz.ntmps127
  go_wp2_with fail
  go_quiet (fail)
  go_wp2_with fail
  go_end0
  exact⟨rfl,HG.out.drewN _,(krz _ w).drewN _⟩
def TxtPost (g:Nat)(A:Option Addr)(n c:Nat)(w:World)(r:List UInt8×Nat×Int)(e:Ending)(w':World):Prop:=
 e=.returned (str r.1)∧RRd w' g A n c r.2.1 r.2.2∧Keep (λk=>k≠g) w w'
theorem readTxt_any (g:Nat)(Z:Nat→Prop)(A:Option Addr)(n c:Nat)(bs:List UInt8)(p:Nat)(er hi:Int)(w:World)(hg:RRd w g A n c p er)(hz:∀k,Z k→k≠g)(hp:p≤n)(hnc:n≤c)(hnil:n=0→c=0∨A≠none)(hb:Rd w Z 1 A n (Lib.byteCells bs))(hn:n≤1099511627770)(hh0:0≤hi)(hhi:hi≤1048576) :
 Calls Tryz.prog 154 #[.pointer (some ⟨g,0,none⟩),.int .i64 hi] w λe w'=>TxtPost g A n c w (nByt bs p er hi) e w':=by
 have HC:=readByt_any g Z A n c bs p er hi w hg hz hp hnc hnil hb hn hh0 hhi
 obtain⟨r,hr⟩:=exz (nByt bs p er hi)
 rw[←hr] at HC ⊢
 clear hr hg hz hp hnc hnil hb hn hh0 hhi
 replace HC:=hdz HC
 go_enter Tryz.func154,Tryz.ntmps154
 go_wp2_with fail
 refine HC.out.mono ?_
 rintro e w1 ⟨⟨u,rfl,ho⟩,hg1,hk1⟩
 obtain⟨A1,c1,rfl,hrd,-⟩:=own_rd ho
 have hcv:(convert 35 9 (.slice A1 r.1.length c1)).run Tryz.prog w1=.ok (str r.1) w1:=run_conv_str Tryz.underlying35 Tryz.underlying5 Tryz.underlying9 hrd c1
 have HN:=hdz (aiz hg1 hk1)
 clear ho hrd hg1 hk1 HC
 obtain⟨s,hs⟩:=exz (str r.1)
 rw[←hs] at hcv
 obtain⟨m,hm⟩:=exz (r.1.length)
 rw[←hm] at hcv ⊢
 have HS:=hdz hs
 obtain⟨sv,hsv⟩:∃sv:ByteArray,s=.string sv:=⟨_,hs⟩
 subst hsv
 clear hs hm
 go_wp2
 go_ret
 exact⟨by rw[HS.out];rfl,HN.out.1,HN.out.2⟩
structure Got {α:Type}(o:Option (α×Nat))(good:α→Prop)(x:α)(p:Nat)(e:Int):Prop where
 ok:e=0→o=some (x,p)∧good x
 on:∀y q,o=some (y,q)→good y→e=0
section
variable {α β:Type}{bs:List UInt8}{o:Option (α×Nat)}{g:α→Prop}{x:α}{p:Nat}{e:Int}
theorem Got.start (p:Nat):Got (some ((),p)) (λ_=>True) () p 0:=⟨λ_=>⟨rfl,trivial⟩,λ_ _ _ _=>rfl⟩
theorem Got.as (h:Got o g x p e) {o':Option (β×Nat)} {g':β→Prop} {x':β} (f:α→β) (ho:o'=o.map λy=>(f y.1,y.2)) (hg:∀y q,o=some (y,q)→(g y↔g' (f y))) (hx:x'=f x):Got o' g' x' p e:=by
 subst ho hx
 refine⟨λh0=>?_,λy q h1 h2=>?_⟩
 ·obtain⟨h1,h2⟩:=h.ok h0
  exact⟨by rw[h1];rfl,(hg x p h1).1 h2⟩
 ·cases ho:o with
  | none=>rw[ho] at h1;cases h1
  | some z=>
   obtain⟨z,r⟩:=z
   rw[ho] at h1
   injection h1 with h1
   injection h1 with e1 e2
   simp only at e1 e2
   subst e1
   exact h.on z r ho ((hg z r ho).2 h2)
theorem Got.num (h:Got o g x p e) (lo:Int) (hi:Nat) :
 Got (o.bind λy=>(oNum bs y.2 hi).bind λv=>some ((y.1,v.1),v.2)) (λz:α×Nat=>g z.1∧lo≤(z.2:Int)) (x,(nNum bs p e lo (hi:Int)).1) (nNum bs p e lo (hi:Int)).2.1 (nNum bs p e lo (hi:Int)).2.2:=by
 refine⟨λh0=>?_,λy q h1 h2=>?_⟩
 ·obtain⟨h1,h2,h3⟩:=o_of_num h0
  obtain⟨h4,h5⟩:=h.ok h1
  refine⟨?_,h5,h3⟩
  rw[h4]
  show (oNum bs p hi).bind _=_
  rw[h2]
  rfl
 ·obtain⟨⟨y0,q0⟩,h3,h4⟩:=some_bind h1
  obtain⟨⟨v,q1⟩,h5,h6⟩:=some_bind h4
  injection h6 with h6
  injection h6 with e1 e2
  subst e1 e2
  have he:=h.on y0 q0 h3 h2.1
  subst he
  obtain⟨h7,-⟩:=h.ok rfl
  rw[h3] at h7
  injection h7 with h7
  injection h7 with e3 e4
  subst e3 e4
  rw[num_of_o h5 h2.2]
def nBytL (bs:List UInt8)(p:Nat)(e lo hi:Int):List UInt8×Nat×Int:=
 if (nNum bs p e lo hi).2.2≠0 then ([],(nNum bs p e lo hi).2.1,(nNum bs p e lo hi).2.2)
 else if bs.length<(nNum bs p e lo hi).2.1+(nNum bs p e lo hi).1 then ([],(nNum bs p e lo hi).2.1,10)
 else ((bs.drop (nNum bs p e lo hi).2.1).take (nNum bs p e lo hi).1,(nNum bs p e lo hi).2.1+(nNum bs p e lo hi).1,0)
theorem nByt_L (bs:List UInt8)(p:Nat)(e hi:Int):nByt bs p e hi=nBytL bs p e 0 hi:=rfl
theorem Got.txt (h:Got o g x p e) (lo:Nat) :
 Got (o.bind λy=>(oTxt bs y.2).bind λv=>some ((y.1,v.1),v.2)) (λz:α×Txt=>g z.1∧lo≤z.2.length) (x,(nBytL bs p e (lo:Int) 8).1) (nBytL bs p e (lo:Int) 8).2.1 (nBytL bs p e (lo:Int) 8).2.2:=by
 have hn:=h.num (bs:=bs) (lo:Int) 8
 obtain⟨r,hr⟩:=exz (nNum bs p e (lo:Int) ((8:Nat):Int))
 have hr2:nNum bs p e (lo:Int) 8=r:=hr.symm
 rw[←hr] at hn
 obtain⟨v,q,e1⟩:=r
 unfold nBytL
 rw[hr2]
 simp only at hn ⊢
 by_cases h1:e1=0
 ·subst h1
  rw[if_neg (by simp)]
  obtain⟨h2,h3,h4⟩:=hn.ok rfl
  obtain⟨⟨y0,q0⟩,h5,h6⟩:=some_bind h2
  obtain⟨⟨v0,q1⟩,h7,h8⟩:=some_bind h6
  injection h8 with h8
  injection h8 with e2 e3
  injection e2 with e4 e5
  subst e3 e4 e5
  simp only at h3 h4 h7
  by_cases hb:bs.length<q1+v0
  ·rw[if_pos hb]
   refine⟨λh=>absurd h (by simp),λy q h9 h10=>?_⟩
   rw[h5] at h9
   have h11:oTxt bs q0=none:=by
    unfold oTxt
    rw[h7]
    show (if q1+v0≤bs.length then _ else _)=_
    rw[if_neg (by omega)]
   have h9:(oTxt bs q0).bind (λv=>some ((y0,v.1),v.2))=some (y,q):=h9
   rw[h11] at h9
   cases h9
  ·rw[if_neg hb]
   have h11:oTxt bs q0=some ((bs.drop q1).take v0,q1+v0):=by
    unfold oTxt
    rw[h7]
    show (if q1+v0≤bs.length then _ else _)=_
    rw[if_pos (by omega)]
   refine⟨λ_=>⟨?_,h3,?_⟩,λ_ _ _ _=>rfl⟩
   ·rw[h5]
    show (oTxt bs q0).bind _=_
    rw[h11]
    rfl
   ·simp only[List.length_take,List.length_drop]
    omega
 ·rw[if_pos h1]
  refine⟨λh=>absurd h h1,λy q h9 h10=>?_⟩
  obtain⟨⟨y0,q0⟩,h5,h6⟩:=some_bind h9
  obtain⟨⟨t,q1⟩,h7,h8⟩:=some_bind h6
  injection h8 with h8
  injection h8 with e2 e3
  subst e2 e3
  simp only at h7 h10
  unfold oTxt at h7
  obtain⟨⟨v0,q2⟩,h11,h12⟩:=some_bind h7
  simp only at h12
  split at h12
  ·injection h12 with h12
   injection h12 with e4 e5
   refine hn.on (y0,v0) q2 ?_ ⟨h10.1,?_⟩
   ·rw[h5]
    show (oNum bs q0 8).bind _=_
    rw[h11]
    rfl
   ·have hl:=h10.2
    rw[←e4] at hl
    simp only[List.length_take,List.length_drop] at hl
    omega
  ·cases h12
end
theorem oMany_snoc {α:Type} {one:Nat→Option (α×Nat)}:∀ (n p:Nat),oMany one (n+1) p=(oMany one n p).bind λxs=>(one xs.2).bind λy=>some (xs.1++[y.1],y.2)
 | 0,p=>by
  show (one p).bind (λx=>(oMany one 0 x.2).bind λy=>some (x.1::y.1,y.2))=(one p).bind λy=>some ([]++[y.1],y.2)
  rfl
 | n + 1,p=>by
  have ih:=λq=>oMany_snoc (one:=one) n q
  show (one p).bind (λx=>(oMany one (n+1) x.2).bind λy=>some (x.1::y.1,y.2))=((one p).bind λx=>(oMany one n x.2).bind λy=>some (x.1::y.1,y.2)).bind _
  cases h1:one p with
  | none=>rfl
  | some x=>
   show (oMany one (n+1) x.2).bind _=((oMany one n x.2).bind _).bind _
   rw[ih]
   cases h2:oMany one n x.2 with
   | none=>rfl
   | some ys=>
    show ((one ys.2).bind _).bind _=(one ys.2).bind _
    cases h3:one ys.2 with
    | none=>rfl
    | some z=>rfl
structure El {β:Type}(one:Nat→Option (β×Nat))(good:β→Prop)(p:Nat)(e:Int)(b:β)(p':Nat)(e':Int):Prop where
 z:e≠0→e'≠0
 r:e=0→Got (one p) good b p' e'
section
variable {β γ:Type}{bs:List UInt8}{p p1 p2:Nat}{e e1 e2:Int}
theorem El.num (p:Nat) (e lo:Int) (hi:Nat):El (λp=>oNum bs p hi) (λv=>lo≤(v:Int)) p e (nNum bs p e lo (hi:Int)).1 (nNum bs p e lo (hi:Int)).2.1 (nNum bs p e lo (hi:Int)).2.2:=by
 refine⟨λh=>by rw[nNum_stick h];exact h,λh=>?_⟩
 subst h
 refine⟨λh0=>?_,λy q h1 h2=>?_⟩
 ·obtain⟨-,h1,h2⟩:=o_of_num h0
  exact⟨h1,h2⟩
 ·rw[num_of_o h1 h2]
theorem El.txt (p:Nat) (e:Int) (lo:Nat):El (λp=>oTxt bs p) (λt=>lo≤t.length) p e (nBytL bs p e (lo:Int) 8).1 (nBytL bs p e (lo:Int) 8).2.1 (nBytL bs p e (lo:Int) 8).2.2:=by
 refine⟨λh=>?_,λh=>?_⟩
 ·unfold nBytL
  rw[nNum_stick h,if_pos h]
  exact h
 ·subst h
  have h:=(Got.start p).txt (bs:=bs) lo
  refine⟨λh0=>?_,λy q h1 h2=>?_⟩
  ·obtain⟨h1,-,h2⟩:=h.ok h0
   obtain⟨⟨v,q⟩,h3,h4⟩:=some_bind (show (oTxt bs p).bind (λv=>some (((),v.1),v.2))=_ from h1)
   injection h4 with h4
   injection h4 with e1 e2
   injection e1 with _ e3
   simp only at e2 e3
   subst e3
   rw[←e2]
   exact⟨h3,h2⟩
  ·exact h.on ((),y) q (by show (oTxt bs p).bind _=_;rw[h1];rfl) ⟨trivial,h2⟩
theorem El.map {one:Nat→Option (β×Nat)}{good:β→Prop}{b:β}(h:El one good p e b p1 e1){one':Nat→Option (γ×Nat)}{good':γ→Prop}(f:β→γ)(ho:one' p=(one p).map λy=>(f y.1,y.2))(hg:∀y q,one p=some (y,q)→(good y↔good' (f y))):El one' good' p e (f b) p1 e1:=
 ⟨h.z,λh0=>(h.r h0).as f ho hg rfl⟩
theorem El.seq {one1:Nat→Option (β×Nat)} {one2:Nat→Option (γ×Nat)} {g1:β→Prop} {g2:γ→Prop} {b:β} {c:γ} (h:El one1 g1 p e b p1 e1) (k:El one2 g2 p1 e1 c p2 e2) :
 El (λp=>(one1 p).bind λu=>(one2 u.2).bind λv=>some ((u.1,v.1),v.2)) (λz=>g1 z.1∧g2 z.2) p e (b,c) p2 e2:=by
 refine⟨λh0=>k.z (h.z h0),λh0=>?_⟩
 have hg:=h.r h0
 by_cases h1:e1=0
 ·have kg:=k.r h1
  obtain⟨a1,a2⟩:=hg.ok h1
  refine⟨λh2=>?_,λy q h3 h4=>?_⟩
  ·obtain⟨a3,a4⟩:=kg.ok h2
   refine⟨?_,a2,a4⟩
   show (one1 p).bind _=_
   rw[a1]
   show (one2 p1).bind _=_
   rw[a3]
   rfl
  ·obtain⟨⟨u,q1⟩,h5,h6⟩:=some_bind h3
   obtain⟨⟨v,q2⟩,h7,h8⟩:=some_bind h6
   rw[a1] at h5
   injection h5 with h5
   injection h5 with e3 e4
   subst e3 e4
   injection h8 with h8
   injection h8 with e5 e6
   subst e5
   exact kg.on v q2 h7 h4.2
 ·refine⟨λh2=>absurd h2 (k.z h1),λy q h3 h4=>?_⟩
  obtain⟨⟨u,q1⟩,h5,h6⟩:=some_bind h3
  obtain⟨⟨v,q2⟩,h7,h8⟩:=some_bind h6
  injection h8 with h8
  injection h8 with e5 e6
  subst e5
  exact absurd (hg.on u q1 h5 h4.1) h1
theorem El.cnt {one1:Nat→Option (β×Nat)} {one:Nat→Option (γ×Nat)} {g1:β→Prop} {G:List γ→Prop} {b:β} (n:β→Nat) {xs:List γ} (h:El one1 g1 p e b p1 e1) (k:El (oMany one (n b)) G p1 e1 xs p2 e2) :
 El (λp=>(one1 p).bind λu=>(oMany one (n u.1) u.2).bind λv=>some ((u.1,v.1),v.2)) (λz=>g1 z.1∧G z.2) p e (b,xs) p2 e2:=by
 refine⟨λh0=>k.z (h.z h0),λh0=>?_⟩
 have hg:=h.r h0
 by_cases h1:e1=0
 ·have kg:=k.r h1
  obtain⟨a1,a2⟩:=hg.ok h1
  refine⟨λh2=>?_,λy q h3 h4=>?_⟩
  ·obtain⟨a3,a4⟩:=kg.ok h2
   refine⟨?_,a2,a4⟩
   show (one1 p).bind _=_
   rw[a1]
   show (oMany one (n b) p1).bind _=_
   rw[a3]
   rfl
  ·obtain⟨⟨u,q1⟩,h5,h6⟩:=some_bind h3
   obtain⟨⟨v,q2⟩,h7,h8⟩:=some_bind h6
   rw[a1] at h5
   injection h5 with h5
   injection h5 with e3 e4
   subst e3 e4
   injection h8 with h8
   injection h8 with e5 e6
   subst e5
   exact kg.on v q2 h7 h4.2
 ·refine⟨λh2=>absurd h2 (k.z h1),λy q h3 h4=>?_⟩
  obtain⟨⟨u,q1⟩,h5,h6⟩:=some_bind h3
  obtain⟨⟨v,q2⟩,h7,h8⟩:=some_bind h6
  injection h8 with h8
  injection h8 with e5 e6
  subst e5
  exact absurd (hg.on u q1 h5 h4.1) h1
theorem El.many0 {one:Nat→Option (β×Nat)}{G:List β→Prop}(hG:G [])(p:Nat)(e:Int):El (oMany one 0) G p e [] p e:=
 ⟨id,λh=>⟨λ_=>⟨rfl,hG⟩,λ_ _ _ _=>h⟩⟩
theorem El.manyS {one:Nat→Option (β×Nat)} {G:List β→Prop} {gd:List β→β→Prop} (hG:∀ys y,G (ys++[y])↔G ys∧gd ys y) {j:Nat} {xs:List β} {b:β} (h:El (oMany one j) G p e xs p1 e1) (k:El one (gd xs) p1 e1 b p2 e2) :
 El (oMany one (j+1)) G p e (xs++[b]) p2 e2:=by
 refine⟨λh0=>k.z (h.z h0),λh0=>?_⟩
 have hg:=h.r h0
 by_cases h1:e1=0
 ·have kg:=k.r h1
  obtain⟨a1,a2⟩:=hg.ok h1
  refine⟨λh2=>?_,λy q h3 h4=>?_⟩
  ·obtain⟨a3,a4⟩:=kg.ok h2
   refine⟨?_,(hG _ _).2 ⟨a2,a4⟩⟩
   rw[oMany_snoc,a1]
   show (one p1).bind _=_
   rw[a3]
   rfl
  ·rw[oMany_snoc,a1] at h3
   obtain⟨⟨v,q2⟩,h7,h8⟩:=some_bind (show (one p1).bind (λy=>some (xs++[y.1],y.2))=_ from h3)
   injection h8 with h8
   injection h8 with e5 e6
   simp only at e5
   rw[←e5] at h4
   exact kg.on v q2 h7 ((hG _ _).1 h4).2
 ·refine⟨λh2=>absurd h2 (k.z h1),λy q h3 h4=>?_⟩
  rw[oMany_snoc] at h3
  obtain⟨⟨u,q1⟩,h5,h6⟩:=some_bind h3
  obtain⟨⟨v,q2⟩,h7,h8⟩:=some_bind h6
  injection h8 with h8
  injection h8 with e5 e6
  simp only at e5
  rw[←e5] at h4
  exact absurd (hg.on u q1 h5 ((hG _ _).1 h4).1) h1
end
theorem all_snoc {β:Type} {g:β→Prop} (ys:List β) (y:β):(∀x∈ys++[y],g x)↔(∀x∈ys,g x)∧g y:=by
 constructor
 ·intro h
  exact⟨λx hx=>h x (by simp[hx]),h y (by simp)⟩
 ·rintro ⟨h1,h2⟩ x hx
  rcases List.mem_append.1 hx with h | h
  ·exact h1 x h
  ·rw[List.mem_singleton.1 h];exact h2
section
variable {bs:List UInt8}{p p1 p2 p3 p4 p5 p6:Nat}{e e1 e2 e3 e4 e5 e6:Int}
theorem El.pair {k v:Txt} (h1:El (λp=>oTxt bs p) (λt=>1≤t.length) p e k p1 e1) (h2:El (λp=>oTxt bs p) (λt=>0≤t.length) p1 e1 v p2 e2) :
 El (oPair bs) (λx=>x.1≠[]) p e (k,v) p2 e2:=by
 refine (h1.seq h2).map id ?_ λy q _=>?_
 ·unfold oPair
  cases oTxt bs p with
  | none=>rfl
  | some u=>
   show (oTxt bs u.2).bind _=((oTxt bs u.2).bind _).map _
   cases oTxt bs u.2 <;> rfl
 ·obtain⟨a,b⟩:=y
  cases a <;> simp
theorem El.cl {c:Nat} (h1:El (λp=>oNum bs p 15) (λv=>(0:Int)≤(v:Int)) p e c p1 e1):El (oCl bs) (λ_=>True) p e (c:Int) p1 e1:=by
 refine h1.map (λc:Nat=>(c:Int)) ?_ λy q _=>?_
 ·unfold oCl
  cases oNum bs p 15 <;> rfl
 ·exact⟨λ_=>trivial,λ_=>by omega⟩
def lkGood (l:LockD):Prop:=l.name≠[]∧1≤l.token
theorem El.lock {nm:Txt} {ho tk wn:Nat} {q:List Int} (h1:El (λp=>oTxt bs p) (λt=>1≤t.length) p e nm p1 e1) (h2:El (λp=>oNum bs p 15) (λv=>(0:Int)≤(v:Int)) p1 e1 ho p2 e2)
 (h3:El (λp=>oNum bs p 99999999) (λv=>(1:Int)≤(v:Int)) p2 e2 tk p3 e3) (h4:El (λp=>oNum bs p 15) (λv=>(0:Int)≤(v:Int)) p3 e3 wn p4 e4) (h5:El (oMany (oCl bs) wn) (λl=>∀x∈l,True) p4 e4 q p5 e5) :
 El (oLock bs) lkGood p e ⟨nm,(ho:Int),(tk:Int),q⟩ p5 e5:=by
 refine ((((h1.seq h2).seq h3).seq h4).cnt (λz=>z.2) h5).map (λz=>(⟨z.1.1.1.1,(z.1.1.1.2:Int),(z.1.1.2:Int),z.2⟩:LockD)) ?_ λy qq _=>?_
 ·unfold oLock
  cases oTxt bs p with
  | none=>rfl
  | some a=>
   simp only[Option.bind_some]
   cases oNum bs a.2 15 with
   | none=>rfl
   | some b=>
    simp only[Option.bind_some]
    cases oNum bs b.2 99999999 with
    | none=>rfl
    | some c=>
     simp only[Option.bind_some]
     cases oNum bs c.2 15 with
     | none=>rfl
     | some d=>
      simp only[Option.bind_some]
      cases oMany (oCl bs) d.1 d.2 <;> rfl
 ·obtain⟨⟨⟨⟨a,b⟩,c⟩,d⟩,l⟩:=y
  unfold lkGood
  simp only
  constructor
  ·rintro ⟨⟨⟨⟨h,-⟩,h2⟩,-⟩,-⟩
   exact⟨λe=>by rw[e] at h;simp at h,h2⟩
  ·rintro ⟨h,h2⟩
   refine⟨⟨⟨⟨?_,by omega⟩,h2⟩,by omega⟩,λ_ _=>trivial⟩
   cases a with
   | nil=>exact absurd rfl h
   | cons x r=>simp
def sesGood (lo:Nat)(x:Nat×SesD):Prop:=lo≤x.1∧1≤x.2.inc∧1≤x.2.req∧1≤x.2.last.code
theorem El.ses {lo q i r c n:Nat} {v:Txt} (h1:El (λp=>oNum bs p 15) (λv=>(lo:Int)≤(v:Int)) p e q p1 e1) (h2:El (λp=>oNum bs p 4611686018427387904) (λv=>(1:Int)≤(v:Int)) p1 e1 i p2 e2)
 (h3:El (λp=>oNum bs p 4611686018427387904) (λv=>(1:Int)≤(v:Int)) p2 e2 r p3 e3) (h4:El (λp=>oNum bs p 11) (λv=>(1:Int)≤(v:Int)) p3 e3 c p4 e4) (h5:El (λp=>oTxt bs p) (λt=>0≤t.length) p4 e4 v p5 e5)
 (h6:El (λp=>oNum bs p 99999999) (λv=>(0:Int)≤(v:Int)) p5 e5 n p6 e6) :
 El (oSes bs) (sesGood lo) p e (q,⟨(i:Int),(r:Int),⟨(c:Int),v,(n:Int)⟩⟩) p6 e6:=by
 refine (((((h1.seq h2).seq h3).seq h4).seq h5).seq h6).map (λz=>(z.1.1.1.1.1,(⟨(z.1.1.1.1.2:Int),(z.1.1.1.2:Int),⟨(z.1.1.2:Int),z.1.2,(z.2:Int)⟩⟩:SesD))) ?_ λy qq _=>?_
 ·unfold oSes
  cases oNum bs p 15 with
  | none=>rfl
  | some a=>
   simp only[Option.bind_some]
   cases oNum bs a.2 4611686018427387904 with
   | none=>rfl
   | some b=>
    simp only[Option.bind_some]
    cases oNum bs b.2 4611686018427387904 with
    | none=>rfl
    | some c=>
     simp only[Option.bind_some]
     cases oNum bs c.2 11 with
     | none=>rfl
     | some d=>
      simp only[Option.bind_some]
      cases oTxt bs d.2 with
      | none=>rfl
      | some f=>
       simp only[Option.bind_some]
       cases oNum bs f.2 99999999 <;> rfl
 ·obtain⟨⟨⟨⟨⟨a,b⟩,c⟩,d⟩,f⟩,g⟩:=y
  unfold sesGood
  simp only
  constructor
  ·rintro ⟨⟨⟨⟨⟨h1,h2⟩,h3⟩,h4⟩,-⟩,-⟩
   exact⟨by omega,h2,h3,h4⟩
  ·rintro ⟨h1,h2,h3,h4⟩
   exact⟨⟨⟨⟨⟨by omega,h2⟩,h3⟩,h4⟩,by omega⟩,by omega⟩
def sesNext (l:List (Nat×SesD)):Nat:=match l.getLast? with
 | some x=>x.1+1
 | none=>0
def sesAll:List (Nat×SesD)→Prop:=λl=>(∀x∈l,1≤x.2.inc∧1≤x.2.req∧1≤x.2.last.code)∧l.Pairwise λa b=>a.1<b.1
theorem sesAll_snoc (ys:List (Nat×SesD)) (y:Nat×SesD):sesAll (ys++[y])↔sesAll ys∧sesGood (sesNext ys) y:=by
 unfold sesAll sesGood
 rw[all_snoc (g:=λx:Nat×SesD=>1≤x.2.inc∧1≤x.2.req∧1≤x.2.last.code),List.pairwise_append]
 have h:ys.Pairwise (λa b=>a.1<b.1)→((∀a∈ys,∀b∈[y],a.1<b.1)↔sesNext ys≤y.1):=λhp=>by
  unfold sesNext
  cases hl:ys.getLast? with
  | none=>
   rw[List.getLast?_eq_none_iff] at hl
   subst hl
   simp
  | some z=>
   obtain⟨zs,rfl⟩:=List.getLast?_eq_some_iff.1 hl
   constructor
   ·intro h
    have:=h z (by simp) y (by simp)
    show z.1+1≤y.1
    omega
   ·intro h a ha b hb
    rw[List.mem_singleton.1 hb]
    have h3:z.1+1≤y.1:=h
    rcases List.mem_append.1 ha with h1 | h1
    ·have:=(List.pairwise_append.1 hp).2.2 a h1 z (by simp)
     omega
    ·rw[List.mem_singleton.1 h1];omega
 constructor
 ·rintro ⟨⟨h1,h2,h3,h4⟩,h5,-,h6⟩
  exact⟨⟨h1,h5⟩,(h h5).1 h6,h2,h3,h4⟩
 ·rintro ⟨⟨h1,h5⟩,h6,h2,h3,h4⟩
  exact⟨⟨h1,h2,h3,h4⟩,h5,List.pairwise_singleton _ _,(h h5).2 h6⟩
def rawGood (r:RawD):Prop:=(∀x∈r.pairs,x.1≠[])∧(∀l∈r.locks,lkGood l)∧sesAll r.sess
theorem El.raw {t a b c:Nat} {ps:List (Txt×Txt)} {ls:List LockD} {ss:List (Nat×SesD)} (h1:El (λp=>oNum bs p 99999999) (λv=>(0:Int)≤(v:Int)) p e t p1 e1) (h2:El (λp=>oNum bs p 16) (λv=>(0:Int)≤(v:Int)) p1 e1 a p2 e2)
 (h3:El (oMany (oPair bs) a) (λl=>∀x∈l,x.1≠[]) p2 e2 ps p3 e3) (h4:El (λp=>oNum bs p 8) (λv=>(0:Int)≤(v:Int)) p3 e3 b p4 e4) (h5:El (oMany (oLock bs) b) (λl=>∀x∈l,lkGood x) p4 e4 ls p5 e5)
 {p7:Nat} {e7:Int} (h6:El (λp=>oNum bs p 16) (λv=>(0:Int)≤(v:Int)) p5 e5 c p6 e6) (h7:El (oMany (oSes bs) c) sesAll p6 e6 ss p7 e7) :
 El (oRaw bs) rawGood p e ⟨t,ps,ls,ss⟩ p7 e7:=by
 refine ((((((h1.seq h2).cnt (λz=>z.2) h3).seq h4).cnt (λz=>z.2) h5).seq h6).cnt (λz=>z.2) h7).map (λz=>(⟨z.1.1.1.1.1.1,z.1.1.1.1.2,z.1.1.2,z.2⟩:RawD)) ?_ λy qq _=>?_
 ·unfold oRaw
  cases oNum bs p 99999999 with
  | none=>rfl
  | some a=>
   simp only[Option.bind_some]
   cases oNum bs a.2 16 with
   | none=>rfl
   | some b=>
    simp only[Option.bind_some]
    cases oMany (oPair bs) b.1 b.2 with
    | none=>rfl
    | some c=>
     simp only[Option.bind_some]
     cases oNum bs c.2 8 with
     | none=>rfl
     | some d=>
      simp only[Option.bind_some]
      cases oMany (oLock bs) d.1 d.2 with
      | none=>rfl
      | some f=>
       simp only[Option.bind_some]
       cases oNum bs f.2 16 with
       | none=>rfl
       | some g=>
        simp only[Option.bind_some]
        cases oMany (oSes bs) g.1 g.2 <;> rfl
 ·obtain⟨⟨⟨⟨⟨⟨a,b⟩,c⟩,d⟩,f⟩,g⟩,l⟩:=y
  unfold rawGood
  simp only
  constructor
  ·rintro ⟨⟨⟨⟨⟨⟨-,-⟩,h1⟩,-⟩,h2⟩,-⟩,h3⟩
   exact⟨h1,h2,h3⟩
  ·rintro ⟨h1,h2,h3⟩
   exact⟨⟨⟨⟨⟨⟨by omega,by omega⟩,h1⟩,by omega⟩,h2⟩,by omega⟩,h3⟩
end
theorem rcells_splice {α:Type} {f:α→List Value} {k:Nat} (hf:∀a,(f a).length=k):∀ (ps:List α) (q:Nat) (hq:q<ps.length) (x:α),(rcells f ps).take (q*k)++f x++(rcells f ps).drop (q*k+(f x).length)=rcells f (ps.set q x)
 | p::ps,0,_,x=>by
  rw[rcells_cons,zp2,rcells_cons,hf]
  simp only[Nat.zero_mul,List.take_zero,List.nil_append,Nat.zero_add]
  rw[List.drop_append_of_le_length (by rw[hf];exact lrz _),List.drop_of_length_le (by rw[hf];exact lrz _),List.nil_append]
 | p::ps,q+1,hq,x=>by
  have ih:=rcells_splice hf ps q (by simpa using hq) x
  have e1:(q+1)*k=(f p).length+q*k:=by rw[hf,Nat.add_mul];omega
  rw[rcells_cons,zp3,rcells_cons,e1,List.take_length_add_append,Nat.add_assoc,List.drop_length_add_append,←ih]
  simp only[List.append_assoc]
theorem readBytL_any (g:Nat) (Z:Nat→Prop) (A:Option Addr) (n c:Nat) (bs:List UInt8) (p:Nat) (er lo hi:Int) (w:World) (hg:RRd w g A n c p er) (hz:∀k,Z k→k≠g) (hp:p≤n) (hnc:n≤c) (hnil:n=0→c=0∨A≠none) (hb:Rd w Z 1 A n (Lib.byteCells bs)) (hn:n≤1099511627770) (hh0:0≤hi) (hhi:hi≤1048576) :
 Calls Tryz.prog 153 #[.pointer (some ⟨g,0,none⟩),.int .i64 lo,.int .i64 hi] w λe w'=>BytPost g A n c w (nBytL bs p er lo hi) e w':=by
 have hlen:bs.length=n:=by simpa[Lib.byteCells] using hb.1
 have hC:=readNum_any g Z A n c bs p er lo hi w hg hp hb hn
 have hle:=nNum_le bs p er lo hi (by omega)
 have hglt:=hg.lt
 have hval:=nNum_val bs p er lo hi hh0
 obtain⟨r,hr⟩:=exz (nNum bs p er lo hi)
 obtain⟨t,ht⟩:=exz (nBytL bs p er lo hi)
 rw[←ht]
 unfold nBytL at ht
 rw[←hr] at hC hle ht hval
 clear hr
 obtain⟨rv,rp,re⟩:=r
 dsimp only at hC hle ht hval
 have hrv:(rv:Int)≤1048576:=by omega
 have hrp:(rp:Int)≤1099511627770:=by omega
 clear hval
 have HC:=hdz hC
 have HN:=hdz (aiz hlen (aiz hle (aiz hz (aiz hnc hnil))))
 have HB:=hdz hb
 clear hC hz hg hb hnil
 go_enter Tryz.func153,Tryz.ntmps153
 go_wp2_with fail
 refine HC.out.mono ?_
 rintro e w1 ⟨rfl,hg1,hk1⟩
 have hb1:=HB.out.keep (hk1.weaken (λk _ hk=>HN.out.2.2.1 k hk))
 have c0:=hg1.cell 0
 have c1:=hg1.cell 1
 have c2:=hg1.cell 2
 have f1:=hg1.frozen 1
 have f2:=hg1.frozen 2
 have hgl:=hg1.lt
 simp at c0 c1 c2
 have HG:=hdz (aiz hg1 (aiz hk1 hb1))
 clear hg1 hk1 hb1
 by_cases he:re=0
 ·subst he
  rw[if_neg (by simp)] at ht
  by_cases hbig:(n:Int)<(rp:Int)+(rv:Int)
  ·rw[if_pos (by omega)] at ht
   subst ht
   clear hlen hle
   go_wp2_with fail
   go_quiet (fail)
   go_wp2_with fail
   go_ret
   exact⟨⟨_,rfl,onz _ _ _ _⟩,HG.out.1.err _ 10,HG.out.2.1.comp (keep_step g 2 _ w1 _) (λ_ _ h=>h) (λ_ _ h=>h)⟩
  ·rw[if_neg (by omega)] at ht
   subst ht
   have hpv:rp+rv≤n:=by omega
   have hpc:rp≤c:=by omega
   clear hlen hle
   go_wp2_with fail
   go_quiet (fail)
   go_wp2_with fail
   obtain⟨W,hW⟩:=exz (w1.drewN nq)
   rw[←hW]
   have y0:W.cell? ⟨g,0,none⟩=some (.slice A n c):=by rw[hW];exact c0
   have y1:W.cell? ⟨g,1,none⟩=some (.int .i64 (rp:Int)):=by rw[hW];exact c1
   have HG2:=hdz (show RRd W g A n c rp 0∧Keep (λk=>k≠g) w W∧Rd W Z 1 A n (Lib.byteCells bs) from ⟨by rw[hW];exact HG.out.1.drewN nq,by rw[hW];exact HG.out.2.1.drewN nq,by rw[hW];exact HG.out.2.2⟩)
   clear hW HG c0 c1 c2 f1 f2 hgl HC
   refine wp_region_still_tail 14 (by kernel_rfl) (by kernel_rfl) ?_
   simp only[List.take_succ_cons,List.take_zero,List.drop_succ_cons,List.drop_zero]
   repeat still_step
   refine wpStill_nil ?_
   change wpList _ _ _ _ _ W.drew
   rw[show IntKind.i64.wrap ((rp:Int)+(rv:Int))=(rp:Int)+(rv:Int) by rw[IntKind.wrap_i64];omega]
   have hcut:=(show Rd W.drew Z 1 A n (Lib.byteCells bs) from HG2.out.2.2).cut1 hpv hnc
   rw[byteCells_cut] at hcut
   have hl2:((bs.drop rp).take rv).length=rv:=by have:=HN.out.1;simp;omega
   have hCC:(c=rp→Calls Tryz.prog 91 #[.slice A rv 0] W.drew λe w'=>(∃u,e=.returned u∧w'.ownsRow W.drew.heap.size 5 1 u rv (Lib.byteCells ((bs.drop rp).take rv)))∧Fresh W.drew w') ∧
    (c≠rp→Calls Tryz.prog 91 #[.slice (Option.map (λx=>x.add rp) A) rv (c - rp)] W.drew λe w'=>(∃u,e=.returned u∧w'.ownsRow W.drew.heap.size 5 1 u rv (Lib.byteCells ((bs.drop rp).take rv)))∧Fresh W.drew w'):=by
    refine⟨λhc=>?_,λhc=>?_⟩
    ·rw[if_pos hc] at hcut
     exact copied_any Z A rv 0 _ W.drew hcut (by omega) (λ_=>.inl rfl)
    ·rw[if_neg hc] at hcut
     refine copied_any Z _ rv (c - rp) _ W.drew hcut (by omega) (λh0=>?_)
     rcases A with _ | a
     ·rcases Nat.eq_zero_or_pos n with h1 | h1
      ·rcases HN.out.2.2.2.2 h1 with h2 | h2
       ·omega
       ·exact absurd rfl h2
      ·obtain⟨_,_,h3,_⟩:=HG2.out.2.2.2 h1
       cases h3
     ·exact .inr (by simp)
   replace hCC:=hdz hCC
   have HL2:=hdz hl2
   clear hcut hl2
   by_cases hcr:c=rp
   ·go_wp2_with fail
    refine (hCC.out.1 hcr).mono ?_
    rintro e w2 ⟨⟨u,rfl,ho⟩,hf⟩
    have hg2:=Blk.keep (show Blk W.drew g _ _ from HG2.out.1) hf trivial
    have z1:=hg2.cell 1
    have zf:=hg2.frozen 1
    have zl:=hg2.lt
    simp at z1
    have hneq:u.ownBlock≠some g:=λe=>by have h1:=(own_lt ho e).1;have h2:=HG2.out.1.lt;simp at h1;omega
    have HU:=hdz (aiz ho (aiz (show Fresh W w2 from (krz _ W).drew.trans hf) (aiz hg2 hneq)))
    clear ho hf hg2 hneq
    go_wp2_with fail
    go_ret
    obtain⟨ho,hf,hg2,hneq⟩:=HU.out
    have hkk:Keep (λk=>k≠g) w w2:=HG2.out.2.1.comp hf (λ_ _ h=>h) (λ_ _ _=>trivial)
    refine⟨⟨u,rfl,?_⟩,?_,hkk.setCell (λ_ h=>h rfl) _⟩
    ·have h1:=own_far (own_base ho (base':=w.heap.size) (by have:=HG2.out.2.1.size;simp;omega)) (p:=⟨g,1,none⟩) hneq (.int .i64 ((rp:Int)+(rv:Int)))
     show World.ownsRow _ _ _ _ _ ((bs.drop rp).take rv).length _
     rw[HL2.out]
     exact h1
    ·have h1:=hg2.set 1 (.int .i64 ((rp:Int)+(rv:Int)))
     simpa[RRd] using h1
   ·go_wp2_with fail
    refine (hCC.out.2 hcr).mono ?_
    rintro e w2 ⟨⟨u,rfl,ho⟩,hf⟩
    have hg2:=Blk.keep (show Blk W.drew g _ _ from HG2.out.1) hf trivial
    have z1:=hg2.cell 1
    have zf:=hg2.frozen 1
    have zl:=hg2.lt
    simp at z1
    have hneq:u.ownBlock≠some g:=λe=>by have h1:=(own_lt ho e).1;have h2:=HG2.out.1.lt;simp at h1;omega
    have HU:=hdz (aiz ho (aiz (show Fresh W w2 from (krz _ W).drew.trans hf) (aiz hg2 hneq)))
    clear ho hf hg2 hneq
    go_wp2_with fail
    go_ret
    obtain⟨ho,hf,hg2,hneq⟩:=HU.out
    have hkk:Keep (λk=>k≠g) w w2:=HG2.out.2.1.comp hf (λ_ _ h=>h) (λ_ _ _=>trivial)
    refine⟨⟨u,rfl,?_⟩,?_,hkk.setCell (λ_ h=>h rfl) _⟩
    ·have h1:=own_far (own_base ho (base':=w.heap.size) (by have:=HG2.out.2.1.size;simp;omega)) (p:=⟨g,1,none⟩) hneq (.int .i64 ((rp:Int)+(rv:Int)))
     show World.ownsRow _ _ _ _ _ ((bs.drop rp).take rv).length _
     rw[HL2.out]
     exact h1
    ·have h1:=hg2.set 1 (.int .i64 ((rp:Int)+(rv:Int)))
     simpa[RRd] using h1
 ·rw[if_pos he] at ht
  subst ht
  clear hlen hle
  go_wp2_with fail
  go_ret
  exact⟨⟨_,rfl,onz _ _ _ _⟩,HG.out.1,HG.out.2.1⟩
def askR (x:Bool×SesD):List Value:=[.bool x.1,.int .i64 x.2.inc,.int .i64 x.2.req,.int .i64 x.2.last.code,str x.2.last.val,.int .i64 x.2.last.n]
theorem askR_six:∀x,(askR x).length=6:=λ_=>rfl
def rcl (pv hv:Value)(tok:Int)(az:List (Bool×SesD)):List Value:=pv::hv::.int .i64 tok::rcells askR az
structure DRw (B:Nat)(w:World)(d:Nat)(pv hv:Value)(ps:List (Txt×Txt))(hs:List DLk)(tok:Int)(az:List (Bool×SesD)):Prop where
 blk:Blk w d 147 (rcl pv hv tok az).toArray
 bd:B≤d
 pr:w.ownsRow B 71 2 pv ps.length (pcells ps)
 lk:w.ownsRow B 157 4 hv hs.length (rcells DLk.cells hs)
 qs:∀x∈hs,w.ownsRow B 3 1 x.q x.d.queue.length (ics x.d.queue)
 ap:hs.Pairwise λa b=>∀k,a.q.ownBlock=some k→b.q.ownBlock≠some k
 s16:az.length=16
section
variable {B:Nat}{w w' w2:World}{d:Nat}{pv hv v:Value}{ps:List (Txt×Txt)}{hs:List DLk}{tok:Int}{az:List (Bool×SesD)}
theorem DRw.keep {Z:Nat→Prop}(h:DRw B w d pv hv ps hs tok az)(hk:Keep Z w w')(hz:∀k,B≤k→Z k):DRw B w' d pv hv ps hs tok az:=
 ⟨h.blk.keep hk (hz d h.bd),h.bd,own_keep h.pr hk λk hk=>hz k (own_lt h.pr hk).1,own_keep h.lk hk λk hk=>hz k (own_lt h.lk hk).1,λx hx=>own_keep (h.qs x hx) hk λk hk=>hz k (own_lt (h.qs x hx) hk).1,h.ap,h.s16⟩
theorem DRw.fresh (h:DRw B w d pv hv ps hs tok az)(hk:Fresh w w'):DRw B w' d pv hv ps hs tok az:=h.keep hk λ_ _=>trivial
theorem DRw.three (h:DRw B w d pv hv ps hs tok az):w.cell? ⟨d,0,none⟩=some pv∧w.cell? ⟨d,1,none⟩=some hv∧w.cell? ⟨d,2,none⟩=some (.int .i64 tok)∧w.frozen? ⟨d,0,none⟩=false∧w.frozen? ⟨d,1,none⟩=false∧w.frozen? ⟨d,2,none⟩=false∧d<w.heap.size:=⟨h.blk.cell 0,h.blk.cell 1,h.blk.cell 2,h.blk.frozen 0,h.blk.frozen 1,h.blk.frozen 2,h.blk.lt⟩
theorem DRw.other (h:DRw B w d pv hv ps hs tok az){g:Nat}{t:TypeId}{cs:Array Value}(hb:Blk w g t cs)(h1:147≠t)(h2:71≠t)(h3:157≠t)(h4:3≠t)(hk:Keep (λk=>k≠g) w w2):DRw B w2 d pv hv ps hs tok az:=
 ⟨h.blk.keep hk (h.blk.ne hb h1),h.bd,own_keep h.pr hk λk hk e=>own_ne_blk h.pr hb h2 (e ▸ hk),own_keep h.lk hk λk hk e=>own_ne_blk h.lk hb h3 (e ▸ hk),λx hx=>own_keep (h.qs x hx) hk λk hk e=>own_ne_blk (h.qs x hx) hb h4 (e ▸ hk),h.ap,h.s16⟩
theorem DRw.setTok (h:DRw B w d pv hv ps hs tok az)(t:Int):DRw B (w.setCell ⟨d,2,none⟩ (.int .i64 t)) d pv hv ps hs t az:=by
 refine⟨?_,h.bd,own_far h.pr (p:=⟨d,2,none⟩) (own_ne_blk h.pr h.blk (by decide)) _,own_far h.lk (p:=⟨d,2,none⟩) (own_ne_blk h.lk h.blk (by decide)) _,λx hx=>own_far (h.qs x hx) (p:=⟨d,2,none⟩) (own_ne_blk (h.qs x hx) h.blk (by decide)) _,h.ap,h.s16⟩
 have:=h.blk.set 2 (.int .i64 t)
 simpa[rcl] using this
theorem DRw.addPair (h:DRw B w d pv hv ps hs tok az) {x:Txt×Txt} (ho:w2.ownsRow B 71 2 v (ps.length+1) (pcells ps++pairC x)) (hk:Keep (λk=>pv.ownBlock≠some k) w w2) :
 DRw B (w2.setCell ⟨d,0,none⟩ v) d v hv (ps++[x]) hs tok az:=by
 have hb:=h.blk.keep hk (own_ne_blk h.pr h.blk (by decide))
 have hl:=own_keep h.lk hk λk hk e=>own_ne_own2 h.pr h.lk (by decide) e hk
 have hq:∀x∈hs,w2.ownsRow B 3 1 x.q x.d.queue.length (ics x.d.queue):=λx hx=>own_keep (h.qs x hx) hk λk hk e=>own_ne_own2 h.pr (h.qs x hx) (by decide) e hk
 refine⟨?_,h.bd,?_,own_far hl (p:=⟨d,0,none⟩) (own_ne_blk hl hb (by decide)) _,λx hx=>own_far (hq x hx) (p:=⟨d,0,none⟩) (own_ne_blk (hq x hx) hb (by decide)) _,h.ap,h.s16⟩
 ·have:=hb.set 0 v
  simpa[rcl] using this
 ·have h2:=own_far ho (p:=⟨d,0,none⟩) (own_ne_blk ho hb (by decide)) v
  have e:pcells (ps++[x])=pcells ps++pairC x:=by simp[pcells,rcells_append,rcells_cons,rcells_nil]
  rw[e,lapz]
  exact h2
theorem DRw.addLock (h:DRw B w d pv hv ps hs tok az) {x:DLk} (ho:w2.ownsRow B 157 4 v (hs.length+1) (rcells DLk.cells hs++DLk.cells x)) (hk:Keep (λk=>hv.ownBlock≠some k) w w2)
 (hq:w.ownsRow B 3 1 x.q x.d.queue.length (ics x.d.queue)) (ha:∀y∈hs,∀k,y.q.ownBlock=some k→x.q.ownBlock≠some k) :
 DRw B (w2.setCell ⟨d,1,none⟩ v) d pv v ps (hs++[x]) tok az:=by
 have hb:=h.blk.keep hk (own_ne_blk h.lk h.blk (by decide))
 have hp:=own_keep h.pr hk λk hk e=>own_ne_own2 h.lk h.pr (by decide) e hk
 have hq2:∀y∈hs++[x],w2.ownsRow B 3 1 y.q y.d.queue.length (ics y.d.queue):=λy hy=>by
  rcases List.mem_append.1 hy with h1 | h1
  ·exact own_keep (h.qs y h1) hk λk hk e=>own_ne_own2 h.lk (h.qs y h1) (by decide) e hk
  ·rw[List.mem_singleton.1 h1]
   exact own_keep hq hk λk hk e=>own_ne_own2 h.lk hq (by decide) e hk
 refine⟨?_,h.bd,own_far hp (p:=⟨d,1,none⟩) (own_ne_blk hp hb (by decide)) _,?_,λy hy=>own_far (hq2 y hy) (p:=⟨d,1,none⟩) (own_ne_blk (hq2 y hy) hb (by decide)) _,?_,h.s16⟩
 ·have:=hb.set 1 v
  simpa[rcl] using this
 ·have h2:=own_far ho (p:=⟨d,1,none⟩) (own_ne_blk ho hb (by decide)) v
  have e:rcells DLk.cells (hs++[x])=rcells DLk.cells hs++DLk.cells x:=by simp[rcells_append,rcells_cons,rcells_nil]
  rw[e,lapz]
  exact h2
 ·rw[List.pairwise_append]
  exact⟨h.ap,List.pairwise_singleton _ _,λa ha' b hb'=>by rw[List.mem_singleton.1 hb'];exact ha a ha'⟩
theorem DRw.ask (h:DRw B w d pv hv ps hs tok az){q:Nat}(hq:q<16)(j:Nat)(hj:j<6):w.cell? ⟨d,3+q*6+j,none⟩=(askR (az[q]'(by rw[h.s16];exact hq)))[j]?:=by
 rw[h.blk.cell,List.getElem?_toArray,show 3+q*6+j=(q*6+j)+1+1+1 by omega]
 unfold rcl
 rw[List.getElem?_cons_succ,List.getElem?_cons_succ,List.getElem?_cons_succ,rcells_get askR_six az q (by rw[h.s16];exact hq) j hj]
theorem DRw.at (h:DRw B w d pv hv ps hs tok az) {ss:List SesD} (ha:az=ss.map λz=>(decide (0<z.inc),z)):DAt B (DFoot d pv hv hs) w d pv hv hs ⟨ps,hs.map DLk.d,tok,ss⟩:=by
 have e:rcells askR az=rcells askC ss:=by
  rw[ha]
  unfold rcells
  rw[List.flatMap_map]
  rfl
 refine⟨?_,h.pr,by rw[List.length_map];exact h.lk,rfl,h.qs,h.ap,.inl rfl,λk hk=>.inr (.inl hk),λk hk=>.inr (.inr (.inl hk)),λx hx k hk=>.inr (.inr (.inr ⟨x,hx,hk⟩))⟩
 have hb:=h.blk
 unfold rcl at hb
 rw[e] at hb
 exact hb
end
structure RdAt (bs:Txt)(A:Option Addr)(n c g:Nat)(Z:Nat→Prop)(w0 w:World)(d:Nat)(pv hv:Value)(ps:List (Txt×Txt))(hs:List DLk)(tok:Int)(az:List (Bool×SesD))(p:Nat)(e:Int):Prop where
 dr:DRw w0.heap.size w d pv hv ps hs tok az
 rd:RRd w g A n c p e
 le:p≤n
 kp:Keep (λk=>k≠g) w0 w
structure RdIn (bs:Txt)(A:Option Addr)(n c g:Nat)(Z:Nat→Prop)(w0:World):Prop where
 zg:∀k,Z k→k≠g
 hnc:n≤c
 nil:n=0→c=0∨A≠none
 rd:Rd w0 Z 1 A n (Lib.byteCells bs)
 hn:n≤1099511627770
 lt:g<w0.heap.size
section
variable {bs:Txt}{A:Option Addr}{n c g:Nat}{Z:Nat→Prop}{w0 w w':World}{d:Nat}{pv hv:Value}{ps:List (Txt×Txt)}{hs:List DLk}{tok:Int}{az:List (Bool×SesD)}{p:Nat}{e:Int}
theorem RdAt.step (hI:RdIn bs A n c g Z w0)(h:RdAt bs A n c g Z w0 w d pv hv ps hs tok az p e){p':Nat}{e':Int}(hr:RRd w' g A n c p' e')(hl:p'≤n)(hk:Keep (λk=>k≠g) w w'):RdAt bs A n c g Z w0 w' d pv hv ps hs tok az p' e':=
 ⟨h.dr.keep hk λk hk e=>by have:=hI.lt;omega,hr,hl,h.kp.trans hk⟩
theorem RdIn.len (hI:RdIn bs A n c g Z w0):bs.length=n:=by simpa[Lib.byteCells] using hI.rd.1
def NumP (bs:Txt)(A:Option Addr)(n c g:Nat)(Z:Nat→Prop)(w0 w:World)(d:Nat)(pv hv:Value)(ps:List (Txt×Txt))(hs:List DLk)(tok:Int)(az:List (Bool×SesD))(p:Nat)(e lo:Int)(hi:Nat)(en:Ending)(w':World):Prop:=
 ∃ (v p':Nat) (e':Int),en=.returned (.int .i64 (v:Int))∧El (λp=>oNum bs p hi) (λv=>lo≤(v:Int)) p e v p' e'∧v≤hi∧RdAt bs A n c g Z w0 w' d pv hv ps hs tok az p' e'∧Keep (λk=>k≠g) w w'
theorem RdAt.num (hI:RdIn bs A n c g Z w0)(h:RdAt bs A n c g Z w0 w d pv hv ps hs tok az p e)(lo hiI:Int)(hi:Nat)(hh:hiI=(hi:Int)) :
 Calls Tryz.prog 152 #[.pointer (some ⟨g,0,none⟩),.int .i64 lo,.int .i64 hiI] w (NumP bs A n c g Z w0 w d pv hv ps hs tok az p e lo hi):=by
 subst hh
 refine (readNum_any g Z A n c bs p e lo (hi:Int) w h.rd h.le (hI.rd.keep (h.kp.weaken λk _ hk=>hI.zg k hk)) hI.hn).mono ?_
 rintro en w' ⟨rfl,hr,hk⟩
 have hle:=nNum_le bs p e lo (hi:Int) (by rw[hI.len];exact h.le)
 rw[hI.len] at hle
 exact⟨_,_,_,rfl,El.num p e lo hi,by have:=nNum_val bs p e lo (hi:Int) (by omega);omega,h.step hI hr hle hk,hk⟩
theorem nBytL_le (bs:Txt) (p:Nat) (e lo hi:Int) (hp:p≤bs.length):(nBytL bs p e lo hi).2.1≤bs.length:=by
 have:=nNum_le bs p e lo hi hp
 unfold nBytL
 split
 ·exact this
 ·split
  ·exact this
  ·dsimp only;omega
theorem nBytL_len (bs:Txt) (p:Nat) (e lo hi:Int) (h0:0≤hi):((nBytL bs p e lo hi).1.length:Int)≤hi:=by
 have:=nNum_val bs p e lo hi h0
 unfold nBytL
 split
 ·simpa using h0
 ·split
  ·simpa using h0
  ·simp only[List.length_take,List.length_drop];omega
def TxtP (bs:Txt)(A:Option Addr)(n c g:Nat)(Z:Nat→Prop)(w0 w:World)(d:Nat)(pv hv:Value)(ps:List (Txt×Txt))(hs:List DLk)(tok:Int)(az:List (Bool×SesD))(p:Nat)(e:Int)(en:Ending)(w':World):Prop:=
 ∃ (t:Txt) (p':Nat) (e':Int),en=.returned (str t)∧El (λp=>oTxt bs p) (λt=>0≤t.length) p e t p' e'∧t.length≤8∧RdAt bs A n c g Z w0 w' d pv hv ps hs tok az p' e'∧Keep (λk=>k≠g) w w'
theorem RdAt.txt (hI:RdIn bs A n c g Z w0)(h:RdAt bs A n c g Z w0 w d pv hv ps hs tok az p e) :
 Calls Tryz.prog 154 #[.pointer (some ⟨g,0,none⟩),.int .i64 8] w (TxtP bs A n c g Z w0 w d pv hv ps hs tok az p e):=by
 refine (readTxt_any g Z A n c bs p e 8 w h.rd hI.zg h.le hI.hnc hI.nil (hI.rd.keep (h.kp.weaken λk _ hk=>hI.zg k hk)) hI.hn (by decide) (by decide)).mono ?_
 rintro en w' ⟨rfl,hr,hk⟩
 rw[nByt_L] at hr ⊢
 have hle:=nBytL_le bs p e 0 8 (by rw[hI.len];exact h.le)
 rw[hI.len] at hle
 exact⟨_,_,_,rfl,El.txt p e 0,by have:=nBytL_len bs p e 0 8 (by decide);omega,h.step hI hr hle hk,hk⟩
def BytP (bs:Txt)(A:Option Addr)(n c g:Nat)(Z:Nat→Prop)(w0 w:World)(d:Nat)(pv hv:Value)(ps:List (Txt×Txt))(hs:List DLk)(tok:Int)(az:List (Bool×SesD))(p:Nat)(e:Int)(en:Ending)(w':World):Prop:=
 ∃ (t:Txt) (u:Value) (p':Nat) (e':Int),en=.returned u∧w'.ownsRow w.heap.size 5 1 u t.length (Lib.byteCells t)∧El (λp=>oTxt bs p) (λt=>1≤t.length) p e t p' e'∧t.length≤8∧RdAt bs A n c g Z w0 w' d pv hv ps hs tok az p' e'∧Keep (λk=>k≠g) w w'
theorem RdAt.byt (hI:RdIn bs A n c g Z w0)(h:RdAt bs A n c g Z w0 w d pv hv ps hs tok az p e) :
 Calls Tryz.prog 153 #[.pointer (some ⟨g,0,none⟩),.int .i64 1,.int .i64 8] w (BytP bs A n c g Z w0 w d pv hv ps hs tok az p e):=by
 refine (readBytL_any g Z A n c bs p e 1 8 w h.rd hI.zg h.le hI.hnc hI.nil (hI.rd.keep (h.kp.weaken λk _ hk=>hI.zg k hk)) hI.hn (by decide) (by decide)).mono ?_
 rintro en w' ⟨⟨u,rfl,ho⟩,hr,hk⟩
 have hle:=nBytL_le bs p e 1 8 (by rw[hI.len];exact h.le)
 rw[hI.len] at hle
 exact⟨_,u,_,_,rfl,ho,El.txt p e 1,by have:=nBytL_len bs p e 1 8 (by decide);omega,h.step hI hr hle hk,hk⟩
end
end Go.Proofs.YtlibhkehebioeaaGreatDoor
