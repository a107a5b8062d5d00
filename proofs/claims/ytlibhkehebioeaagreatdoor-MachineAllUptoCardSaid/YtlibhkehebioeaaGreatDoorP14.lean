/- A PART OF THE PROOF. No condition. -/
import Derived.Test.YtlibhkehebioeaaGreatDoorP13
import Derived.Test.YtlibhkehebioeaaGreatDoorP10
import Derived.Test.YtlibhkehebioeaaGreatDoorP4
import Derived.Test.YtlibhkehebioeaaGreatDoorP9
import Derived.Test.YtlibhkehebioeaaGreatDoorP1
namespace Go.Proofs.YtlibhkehebioeaaGreatDoor
set_option linter.unusedVariables false
set_option linter.unusedSimpArgs false
set_option maxRecDepth 100000
set_option maxHeartbeats 40000000
open Go.RowKit
theorem keep_at (w:World)(g i:Nat)(u:Value):Keep (λk=>k<g) w (w.setCell ⟨g,i,none⟩ u):=(krz (λk=>k<g) w).setCell (p:=⟨g,i,none⟩) (λ_ h=>absurd h (Nat.lt_irrefl g)) _
def azOf (l:List (Nat×SesD)):List (Bool×SesD):=l.foldl (λaz x=>az.set x.1 (true,x.2)) (List.replicate 16 (false,noSes))
theorem azOf_snoc (l:List (Nat×SesD))(x:Nat×SesD):azOf (l++[x])=(azOf l).set x.1 (true,x.2):=by
 unfold azOf
 rw[List.foldl_append]
 rfl
theorem sesNext_snoc (l:List (Nat×SesD))(x:Nat×SesD):sesNext (l++[x])=x.1+1:=by
 unfold sesNext
 rw[List.getLast?_concat]
section
variable {bs:Txt}{A:Option Addr}{n c g:Nat}{Z:Nat→Prop}{w0 w w2:World}{d:Nat}{pv hv v:Value}{ps:List (Txt×Txt)}{hs:List DLk}{tok:Int}{az:List (Bool×SesD)}{p:Nat}{e:Int}
theorem DRw.foot {B:Nat}(h:DRw B w d pv hv ps hs tok az){k:Nat}(hk:DFoot d pv hv hs k):B≤k∧k<w.heap.size:=by
 rcases hk with rfl | hk | hk | ⟨x,hx,hk⟩
 ·exact⟨h.bd,h.blk.lt⟩
 ·exact own_lt h.pr hk
 ·exact own_lt h.lk hk
 ·exact own_lt (h.qs x hx) hk
theorem DRw.keepF {B:Nat}{Z':Nat→Prop}{w':World}(h:DRw B w d pv hv ps hs tok az)(hk:Keep Z' w w')(hz:∀k,DFoot d pv hv hs k→Z' k):DRw B w' d pv hv ps hs tok az:=
 ⟨h.blk.keep hk (hz d (.inl rfl)),h.bd,own_keep h.pr hk λk hk=>hz k (.inr (.inl hk)),own_keep h.lk hk λk hk=>hz k (.inr (.inr (.inl hk))),λx hx=>own_keep (h.qs x hx) hk λk hk=>hz k (.inr (.inr (.inr ⟨x,hx,hk⟩))),h.ap,h.s16⟩
theorem RdAt.gd (hI:RdIn bs A n c g Z w0)(h:RdAt bs A n c g Z w0 w d pv hv ps hs tok az p e):g<d:=ltz hI.lt h.dr.bd
theorem RdAt.later (h:RdAt bs A n c g Z w0 w d pv hv ps hs tok az p e)(hf:Fresh w w2):RdAt bs A n c g Z w0 w2 d pv hv ps hs tok az p e:=
 ⟨h.dr.fresh hf,Blk.keep h.rd hf trivial,h.le,h.kp.comp hf (λ_ _ h=>h) λ_ _ _=>trivial⟩
theorem RdAt.behind (hI:RdIn bs A n c g Z w0)(h:RdAt bs A n c g Z w0 w d pv hv ps hs tok az p e){N:Nat}(hN:w0.heap.size≤N)(hl:∀k,DFoot d pv hv hs k→k<N)(hk:Keep (λk=>k<N) w w2):RdAt bs A n c g Z w0 w2 d pv hv ps hs tok az p e:=by
 have:=hI.lt
 exact⟨h.dr.keepF hk hl,Blk.keep h.rd hk (show g<N by omega),h.le,h.kp.comp hk (λ_ _ h=>h) λk hk _=>by omega⟩
theorem RdAt.setTok (hI:RdIn bs A n c g Z w0)(h:RdAt bs A n c g Z w0 w d pv hv ps hs tok az p e)(t:Int):RdAt bs A n c g Z w0 (w.setCell ⟨d,2,none⟩ (.int .i64 t)) d pv hv ps hs t az p e:=by
 have:=h.gd hI
 have:=h.dr.bd
 exact⟨h.dr.setTok t,Blk.far h.rd (p:=⟨d,2,none⟩) (by simp;omega) _,h.le,h.kp.setCell (λh=>absurd h (by simp;omega)) _⟩
theorem RdAt.addPair (hI:RdIn bs A n c g Z w0)(h:RdAt bs A n c g Z w0 w d pv hv ps hs tok az p e){x:Txt×Txt}(ho:w2.ownsRow w0.heap.size 71 2 v (ps.length+1) (pcells ps++pairC x))(hk:Keep (λk=>pv.ownBlock≠some k) w w2) :
 RdAt bs A n c g Z w0 (w2.setCell ⟨d,0,none⟩ v) d v hv (ps++[x]) hs tok az p e:=by
 have:=h.gd hI
 have:=h.dr.bd
 exact⟨h.dr.addPair ho hk,(Blk.keep h.rd hk (own_ne_blk h.dr.pr h.rd (by decide))).far (p:=⟨d,0,none⟩) (by simp;omega) _,h.le,(h.kp.comp hk (λ_ _ h=>h) λk hk2 _ e=>by have:=(own_lt h.dr.pr e).1;omega).setCell (λh=>absurd h (by simp;omega)) _⟩
theorem RdAt.addLock (hI:RdIn bs A n c g Z w0)(h:RdAt bs A n c g Z w0 w d pv hv ps hs tok az p e){x:DLk}(ho:w2.ownsRow w0.heap.size 157 4 v (hs.length+1) (rcells DLk.cells hs++DLk.cells x))(hk:Keep (λk=>hv.ownBlock≠some k) w w2)
 (hq:w.ownsRow w0.heap.size 3 1 x.q x.d.queue.length (ics x.d.queue)) (ha:∀y∈hs,∀k,y.q.ownBlock=some k→x.q.ownBlock≠some k) :
 RdAt bs A n c g Z w0 (w2.setCell ⟨d,1,none⟩ v) d pv v ps (hs++[x]) tok az p e:=by
 have:=h.gd hI
 have:=h.dr.bd
 exact⟨h.dr.addLock ho hk hq ha,(Blk.keep h.rd hk (own_ne_blk h.dr.lk h.rd (by decide))).far (p:=⟨d,1,none⟩) (by simp;omega) _,h.le,(h.kp.comp hk (λ_ _ h=>h) λk hk2 _ e=>by have:=(own_lt h.dr.lk e).1;omega).setCell (λh=>absurd h (by simp;omega)) _⟩
theorem rcl_ask {q:Nat} (hq:q<az.length) (z:SesD) :
 ((((((rcl pv hv tok az).toArray.setIfInBounds (3+q*6) (.bool true)).setIfInBounds (3+q*6+1) (.int .i64 z.inc)).setIfInBounds (3+q*6+2) (.int .i64 z.req)).setIfInBounds (3+q*6+3) (.int .i64 z.last.code)).setIfInBounds (3+q*6+4) (str z.last.val)).setIfInBounds (3+q*6+5) (.int .i64 z.last.n)=(rcl pv hv tok (az.set q (true,z))).toArray:=by
 have e:∀ (xs:List Value) (j:Nat) (u:Value),(pv::hv::Value.int .i64 tok::xs).toArray.setIfInBounds (3+j) u=(pv::hv::Value.int .i64 tok::xs.set j u).toArray:=λxs j u=>by
  rw[zp1,show 3+j=j+1+1+1 by omega]
  rfl
 unfold rcl
 have h:∀j,3+q*6+j=3+(q*6+j):=λj=>by omega
 rw[h 1,h 2,h 3,h 4,h 5,e,e,e,e,e,e]
 have g0:=rcells_set askR_six az q hq 0 (.bool true) (true,az[q].2) (by omega) rfl
 rw[Nat.add_zero] at g0
 have g1:=rcells_set askR_six (az.set q (true,az[q].2)) q (by simpa using hq) 1 (.int .i64 z.inc) (true,⟨z.inc,az[q].2.req,az[q].2.last⟩) (by omega) (by rw[List.getElem_set_self];rfl)
 rw[List.set_set] at g1
 have g2:=rcells_set askR_six (az.set q (true,⟨z.inc,az[q].2.req,az[q].2.last⟩)) q (by simpa using hq) 2 (.int .i64 z.req) (true,⟨z.inc,z.req,az[q].2.last⟩) (by omega) (by rw[List.getElem_set_self];rfl)
 rw[List.set_set] at g2
 have g3:=rcells_set askR_six (az.set q (true,⟨z.inc,z.req,az[q].2.last⟩)) q (by simpa using hq) 3 (.int .i64 z.last.code) (true,⟨z.inc,z.req,⟨z.last.code,az[q].2.last.val,az[q].2.last.n⟩⟩) (by omega) (by rw[List.getElem_set_self];rfl)
 rw[List.set_set] at g3
 have g4:=rcells_set askR_six (az.set q (true,⟨z.inc,z.req,⟨z.last.code,az[q].2.last.val,az[q].2.last.n⟩⟩)) q (by simpa using hq) 4 (str z.last.val) (true,⟨z.inc,z.req,⟨z.last.code,z.last.val,az[q].2.last.n⟩⟩) (by omega) (by rw[List.getElem_set_self];rfl)
 rw[List.set_set] at g4
 have g5:=rcells_set askR_six (az.set q (true,⟨z.inc,z.req,⟨z.last.code,z.last.val,az[q].2.last.n⟩⟩)) q (by simpa using hq) 5 (.int .i64 z.last.n) (true,z) (by omega) (by rw[List.getElem_set_self];rfl)
 rw[List.set_set] at g5
 rw[g0,g1,g2,g3,g4,g5]
theorem RdAt.setAsk (hI:RdIn bs A n c g Z w0) (h:RdAt bs A n c g Z w0 w d pv hv ps hs tok az p e) {q:Nat} (hq:q<16) (z:SesD) :
 RdAt bs A n c g Z w0 ((((((w.setCell ⟨d,3+q*6,none⟩ (.bool true)).setCell ⟨d,3+q*6+1,none⟩ (.int .i64 z.inc)).setCell ⟨d,3+q*6+2,none⟩ (.int .i64 z.req)).setCell ⟨d,3+q*6+3,none⟩ (.int .i64 z.last.code)).setCell ⟨d,3+q*6+4,none⟩ (str z.last.val)).setCell ⟨d,3+q*6+5,none⟩ (.int .i64 z.last.n)) d pv hv ps hs tok (az.set q (true,z)) p e:=by
 have b6:=(((((h.dr.blk.set (3+q*6) (.bool true)).set (3+q*6+1) (.int .i64 z.inc)).set (3+q*6+2) (.int .i64 z.req)).set (3+q*6+3) (.int .i64 z.last.code)).set (3+q*6+4) (str z.last.val)).set (3+q*6+5) (.int .i64 z.last.n)
 rw[rcl_ask (by rw[h.dr.s16];exact hq) z] at b6
 have hk:Keep (λk=>k≠d) w ((((((w.setCell ⟨d,3+q*6,none⟩ (.bool true)).setCell ⟨d,3+q*6+1,none⟩ (.int .i64 z.inc)).setCell ⟨d,3+q*6+2,none⟩ (.int .i64 z.req)).setCell ⟨d,3+q*6+3,none⟩ (.int .i64 z.last.code)).setCell ⟨d,3+q*6+4,none⟩ (str z.last.val)).setCell ⟨d,3+q*6+5,none⟩ (.int .i64 z.last.n)):=
  ((((((krz _ w).setCell (λ_ h=>h rfl) _).setCell (λ_ h=>h rfl) _).setCell (λ_ h=>h rfl) _).setCell (λ_ h=>h rfl) _).setCell (λ_ h=>h rfl) _).setCell (λ_ h=>h rfl) _
 have hgd:=h.gd hI
 have hbd:=h.dr.bd
 refine⟨⟨b6,hbd,own_keep h.dr.pr hk λk hk e=>own_ne_blk h.dr.pr h.dr.blk (by decide) (e ▸ hk),own_keep h.dr.lk hk λk hk e=>own_ne_blk h.dr.lk h.dr.blk (by decide) (e ▸ hk),λx hx=>own_keep (h.dr.qs x hx) hk λk hk e=>own_ne_blk (h.dr.qs x hx) h.dr.blk (by decide) (e ▸ hk),h.dr.ap,by rw[List.length_set];exact h.dr.s16⟩,Blk.keep h.rd hk (by omega),h.le,h.kp.comp hk (λ_ _ h=>h) λk hk2 _ e=>by omega⟩
end
def ReadP' (bs:Txt)(A:Option Addr)(n c g:Nat)(Z:Nat→Prop)(w0:World)(en:Ending)(w':World):Prop:=
 ∃ (d:Nat) (pv hv:Value) (hs:List DLk) (r:RawD) (p:Nat) (er:Int),en=.returned (.pointer (some ⟨d,0,none⟩))∧El (oRaw bs) rawGood 3 0 r p er∧RdAt bs A n c g Z w0 w' d pv hv r.pairs hs (r.tok:Int) (azOf r.sess) p er∧hs.map DLk.d=r.locks
theorem dread_any {bs:Txt} {A:Option Addr} {n c g:Nat} {Z:Nat→Prop} {w0:World} (hI:RdIn bs A n c g Z w0) (hg:RRd w0 g A n c 3 0) (h3:3≤n) :
 Calls Tryz.prog 126 #[.pointer (some ⟨g,0,none⟩)] w0 (ReadP' bs A n c g Z w0):=by
 have HI:=hdz hI
 have HG:=hdz (aiz hg h3)
 clear hI hg h3
 go_enter Tryz.func126,Tryz.ntmps126
 go_upto_region 2 with (fail)
 generalize hw1:World.alloc w0 _=w1
 obtain⟨d,hd⟩:=exz (w0.heap.size)
 have hb1:Blk w1 d 147 (rcl (.slice none 0 0) (.slice none 0 0) 0 (azOf [])).toArray:=by
  rw[←hw1,hd]
  exact Blk.new _ _ _
 have hf1:Fresh w0 w1:=by rw[←hw1];exact (krz _ w0).alloc _
 have hR1:RdAt bs A n c g Z w0 w1 d (.slice none 0 0) (.slice none 0 0) [] [] 0 (azOf []) 3 0:=⟨⟨hb1,by omega,by exact onz _ _ _ _,by exact onz _ _ _ _,λx hx=>by (cases hx),List.Pairwise.nil,rfl⟩,Blk.keep HG.out.1 hf1 trivial,HG.out.2,hf1.weaken λ_ _ _=>trivial⟩
 have HN1:=hdz (hR1.num HI.out 0 99999999 99999999 rfl)
 rw[←hd]
 have HD:=hdz hd
 clear hb1 hf1 hR1 hw1 hd
 go_wp2_with fail
 refine Calls.mono HN1.out ?_
 rintro en w2 ⟨tk,p1,e1,rfl,E1,hv1,hR2,-⟩
 obtain⟨-,-,x2,-,-,z2,ld⟩:=hR2.dr.three
 have hR3:=hR2.setTok HI.out (tk:Int)
 obtain⟨w3,hw3⟩:=exz (w2.setCell ⟨d,2,none⟩ (.int .i64 (tk:Int)))
 rw[←hw3] at hR3
 have HE1:=hdz E1
 have HN2:=hdz (hR3.num HI.out 0 16 16 rfl)
 clear hR2 hR3 E1 HN1
 go_upto_region 3 with (fail)
 rw[←hw3]
 clear hw3 x2 z2 ld
 go_wp2_with fail
 refine Calls.mono HN2.out ?_
 rintro en w4 ⟨a,p2,e2,rfl,E2,ha16,hR4,-⟩
 have HE2:=hdz E2
 have HR4:=hdz hR4
 clear E2 hR4 HN2
 go_wp2_with fail
 go_loopw [5] (λiv wr=>∃j:Nat,j≤a∧iv=.int .i64 (j:Int)∧Hid (∃pv ps p e,ps.length=j∧RdAt bs A n c g Z w0 wr d pv (.slice none 0 0) ps [] (tk:Int) (azOf []) p e∧El (oMany (oPair bs) j) (λl=>∀x∈l,x.1≠[]) p2 e2 ps p e)) (λi _=>a - (intOf i).toNat)
 case atStart=>exact⟨0,by omega,rfl,hdz ⟨_,[],_,_,rfl,HR4.out,El.many0 (by intro x hx;cases hx) _ _⟩⟩
 case round=>
  rename World=>wr
  obtain⟨j,hj,rfl,HR⟩:=hrel
  obtain⟨pv,ps,p,e,hpl,hR,hE⟩:=HR.out
  by_cases hlt:j<a
  ·have hji:(j:Int)<(a:Int):=by omega
   have HB:=hdz (hR.byt HI.out)
   have HE:=hdz (aiz hE hpl)
   clear hR hE hpl HR
   go_wp2_with fail
   refine Calls.mono HB.out ?_
   rintro en w5 ⟨kk,u5,p5,e5,rfl,ho5,E5,hk8,hR5,-⟩
   obtain⟨A5,c5,rfl,hrd5,-⟩:=own_rd ho5
   have hcv:(convert 35 9 (.slice A5 kk.length c5)).run Tryz.prog w5=.ok (str kk) w5:=run_conv_str Tryz.underlying35 Tryz.underlying5 Tryz.underlying9 hrd5 c5
   have HT:=hdz (hR5.txt HI.out)
   have HE5:=hdz E5
   obtain⟨m,hm⟩:=exz (kk.length)
   rw[←hm] at hcv ⊢
   clear ho5 hrd5 hR5 E5 HB hm
   go_wp2_with fail
   refine Calls.mono HT.out ?_
   rintro en w6 ⟨vv,p6,e6,rfl,E6,hv8,hR6,-⟩
   have HE6:=hdz E6
   have HR6:=hdz hR6
   obtain⟨x0,-,-,z0,-,-,ld⟩:=hR6.dr.three
   clear E6 hR6 HT hcv
   go_wp2_with (at_builtin;refine wpList_appB etPair rfl (.tmp 40) (.tmp 44) rfl #[str kk,str vv] 71 rfl (pair_one kk vv) w0.heap.size _ _ _ w6.heap.size rfl rfl rfl HR6.out.dr.pr (by have:=HE.out.2;omega) HR6.out.kp.size ?_)
   intro v7 w7 ho7 hk7 hn7
   have hR8:=HR6.out.addPair HI.out (x:=(kk,vv)) (v:=v7) (by simpa[pairC] using ho7) hk7
   have hpb:pv.ownBlock≠some d:=own_ne_blk HR6.out.dr.pr HR6.out.dr.blk (by decide)
   have x0:=hk7.cellAt x0 hpb
   have z0:=(hk7.frozen (p:=⟨d,0,none⟩) ld hpb).trans z0
   have ld:=ltz ld hk7.size
   obtain⟨A7,c7,rfl,-⟩:=own_rd ho7
   obtain⟨w8,hw8⟩:=exz (w7.setCell ⟨d,0,none⟩ (.slice A7 (ps.length+1) c7))
   rw[←hw8] at hR8
   have hE8:=El.manyS (G:=λl:List (Txt×Txt)=>∀x∈l,x.1≠[]) (gd:=λ_ x=>x.1≠[]) (λys y=>all_snoc (g:=λx:Txt×Txt=>x.1≠[]) ys y) HE.out.1 (El.pair HE5.out HE6.out)
   have H8:=hdz (aiz hR8 hE8)
   have HPL:=hdz HE.out.2
   clear ho7 hk7 hn7 hR8 hE8 hpb HR6
   go_upto_region 6 with (fail)
   rw[←hw8]
   clear hw8 x0 z0 ld
   go_wp2_with fail
   exact⟨⟨j+1,by omega,by simp,hdz ⟨_,_,_,_,by rw[lapz,HPL.out];rfl,H8.out.1,H8.out.2⟩⟩,by simp only[intOf];omega⟩
  ·obtain rfl:j=a:=by omega
   have HE3:=hdz hE
   have HN3:=hdz (hR.num HI.out 0 8 8 rfl)
   clear hR hE HR hpl HR4
   go_wp2_with fail
   refine Calls.mono HN3.out ?_
   rintro en w5 ⟨b,p4,e4,rfl,E4,hb8,hR5,-⟩
   have HE4:=hdz E4
   have HR5:=hdz hR5
   clear E4 hR5 HN3
   go_wp2_with fail
   go_loopw [8] (λiv wr=>∃j:Nat,j≤b∧iv=.int .i64 (j:Int)∧Hid (∃hv hs p e,hs.length=j∧RdAt bs A n c g Z w0 wr d pv hv ps hs (tk:Int) (azOf []) p e∧El (oMany (oLock bs) j) (λl=>∀x∈l,lkGood x) p4 e4 (hs.map DLk.d) p e)) (λi _=>b - (intOf i).toNat)
   case atStart=>exact⟨0,by omega,rfl,hdz ⟨_,[],_,_,rfl,HR5.out,El.many0 (by intro x hx;cases hx) _ _⟩⟩
   case round=>
    rename World=>wr2
    obtain⟨i,hi,rfl,HL⟩:=hrel
    obtain⟨hv,hs,p,e,hhl,hR,hE⟩:=HL.out
    by_cases hlt2:i<b
    ·have hii:(i:Int)<(b:Int):=by omega
     obtain⟨g9,hg9⟩:∃g,g=wr2.heap.size:=⟨_,rfl⟩
     have hft:∀k,DFoot d pv hv hs k→k<g9:=λk hk=>by rw[hg9];exact (hR.dr.foot hk).2
     have hwN:w0.heap.size≤g9:=by rw[hg9];exact hR.kp.size
     have hgN:g<g9:=ltz HI.out.lt hwN
     go_upto_region 15 with (fail)
     generalize hw4:World.alloc wr2 _=w4
     have hb4:Blk w4 g9 157 #[str [],.int .i64 0,.int .i64 0,.slice none 0 0]:=by
      rw[←hw4,hg9]
      exact Blk.new _ _ _
     have hf4:Fresh wr2 w4:=by rw[←hw4];exact (krz _ wr2).alloc _
     have hR4:=hR.later hf4
     have hlt9:g9<w4.heap.size:=hb4.lt
     rw[←hg9]
     have HB:=hdz (hR4.byt HI.out)
     have HQ:=hdz (aiz hft (aiz hwN (aiz hgN (aiz hE hhl))))
     have HBk:=hdz hb4
     clear hw4 hb4 hf4 hR4 hR hE HL hhl hft hg9 hwN hgN
     go_wp2_with fail
     refine Calls.mono HB.out ?_
     rintro en w5 ⟨nm,u5,p5,e5,rfl,ho5,E5,hn8,hR5,hk5⟩
     obtain⟨A5,c5,rfl,hrd5,-⟩:=own_rd ho5
     have hcv:(convert 35 9 (.slice A5 nm.length c5)).run Tryz.prog w5=.ok (str nm) w5:=run_conv_str Tryz.underlying35 Tryz.underlying5 Tryz.underlying9 hrd5 c5
     obtain⟨m,hm⟩:=exz (nm.length)
     rw[←hm] at hcv ⊢
     have hb5:=HBk.out.keep hk5 (Nat.ne_of_gt HQ.out.2.2.1)
     have u0:=hb5.cell 0
     have y0:=hb5.frozen 0
     simp at u0
     have lu:=hb5.lt
     have hb6:=hb5.set 0 (str nm)
     have hR6:=hR5.behind HI.out HQ.out.2.1 HQ.out.1 (w2:=w5.setCell ⟨g9,0,none⟩ (str nm)) (keep_at _ _ _ _)
     obtain⟨w6,hw6⟩:=exz (w5.setCell ⟨g9,0,none⟩ (str nm))
     rw[←hw6] at hb6 hR6
     have HE5:=hdz E5
     have HB6:=hdz hb6
     have HT:=hdz (hR6.num HI.out 0 15 15 rfl)
     clear ho5 hrd5 hR5 hk5 E5 HB hm hb5 hb6 hR6 HBk hlt9
     go_upto_region 16 with (fail)
     rw[←hw6]
     clear hw6 hcv u0 y0 lu
     go_wp2_with fail
     refine Calls.mono HT.out ?_
     rintro en w7 ⟨ho,p6b,e6b,rfl,E6b,hho15,hR7,hk7⟩
     have hb7:=HB6.out.keep hk7 (Nat.ne_of_gt HQ.out.2.2.1)
     have u0:=hb7.cell 1
     have y0:=hb7.frozen 1
     simp at u0
     have lu:=hb7.lt
     have hb8:=hb7.set 1 (.int .i64 (ho:Int))
     have hR8:=hR7.behind HI.out HQ.out.2.1 HQ.out.1 (w2:=w7.setCell ⟨g9,1,none⟩ (.int .i64 (ho:Int))) (keep_at _ _ _ _)
     obtain⟨w8,hw8⟩:=exz (w7.setCell ⟨g9,1,none⟩ (.int .i64 (ho:Int)))
     rw[←hw8] at hb8 hR8
     have HE6b:=hdz E6b
     clear HB6
     have HB6:=hdz hb8
     clear HT
     have HT:=hdz (hR8.num HI.out 1 99999999 99999999 rfl)
     clear hR7 hk7 E6b hb7 hb8 hR8
     go_upto_region 17 with (fail)
     rw[←hw8]
     clear hw8 u0 y0 lu
     go_wp2_with fail
     refine Calls.mono HT.out ?_
     rintro en w7 ⟨tkn,p7b,e7b,rfl,E7b,htkn15,hR7,hk7⟩
     have hb7:=HB6.out.keep hk7 (Nat.ne_of_gt HQ.out.2.2.1)
     have u0:=hb7.cell 2
     have y0:=hb7.frozen 2
     simp at u0
     have lu:=hb7.lt
     have hb8:=hb7.set 2 (.int .i64 (tkn:Int))
     have hR8:=hR7.behind HI.out HQ.out.2.1 HQ.out.1 (w2:=w7.setCell ⟨g9,2,none⟩ (.int .i64 (tkn:Int))) (keep_at _ _ _ _)
     obtain⟨w8,hw8⟩:=exz (w7.setCell ⟨g9,2,none⟩ (.int .i64 (tkn:Int)))
     rw[←hw8] at hb8 hR8
     have HE7b:=hdz E7b
     clear HB6
     have HB6:=hdz hb8
     clear HT
     have HT:=hdz (hR8.num HI.out 0 15 15 rfl)
     clear hR7 hk7 E7b hb7 hb8 hR8
     go_upto_region 18 with (fail)
     rw[←hw8]
     clear hw8 u0 y0 lu
     go_wp2_with fail
     refine Calls.mono HT.out ?_
     rintro en w9 ⟨wn,p8,e8,rfl,E8,hwn15,hR9,hk9⟩
     have hb9:=HB6.out.keep hk9 (Nat.ne_of_gt HQ.out.2.2.1)
     simp only[zp1,zp2,zp3] at hb9
     have HE8:=hdz E8
     have H9:=hdz (aiz hR9 hb9)
     clear hR9 hk9 hb9 E8 HT HB6
     go_wp2_with fail
     go_loopw [11] (λiv wq=>∃t:Nat,t≤wn∧iv=.int .i64 (t:Int)∧Hid (∃qv ql p e,ql.length=t∧RdAt bs A n c g Z w0 wq d pv hv ps hs (tk:Int) (azOf []) p e∧El (oMany (oCl bs) t) (λl=>∀x∈l,True) p8 e8 ql p e∧wq.ownsRow (g9+1) 3 1 qv ql.length (ics ql)∧Blk wq g9 157 #[str nm,.int .i64 (ho:Int),.int .i64 (tkn:Int),qv])) (λi _=>wn - (intOf i).toNat)
     case atStart=>exact⟨0,by omega,rfl,hdz ⟨_,[],_,_,rfl,H9.out.1,El.many0 (λ_ _=>trivial) _ _,by exact onz _ _ _ _,H9.out.2⟩⟩
     case round=>
      rename World=>wq
      obtain⟨t,ht,rfl,HW⟩:=hrel
      obtain⟨qv,ql,p,e,hql,hR,hE,ho,hb⟩:=HW.out
      by_cases htl:t<wn
      ·have hti:(t:Int)<(wn:Int):=by omega
       have HT:=hdz (hR.num HI.out 0 15 15 rfl)
       have HW2:=hdz (aiz hql (aiz hE (aiz ho hb)))
       clear hR hql hE ho hb HW
       go_wp2_with fail
       refine Calls.mono HT.out ?_
       rintro en w10 ⟨cq,p10,e10,rfl,E10,hcq15,hR10,hk10⟩
       have hb10:=HW2.out.2.2.2.keep hk10 (Nat.ne_of_gt HQ.out.2.2.1)
       have ho10:=own_keep HW2.out.2.2.1 hk10 λk hk=>by have:=(own_lt HW2.out.2.2.1 hk).1;have:=HQ.out.2.2.1;omega
       have u3:=hb10.cell 3
       have y3:=hb10.frozen 3
       simp at u3
       have lu:=hb10.lt
       have HE10:=hdz E10
       have H10:=hdz (aiz hR10 (aiz hb10 ho10))
       clear hR10 hb10 ho10 E10 HT hk10
       go_wp2_with (at_builtin;refine wpList_app1 etInt2 rfl (.tmp 76) (.tmp 78) rfl (.int .i64 (cq:Int)) _ rfl (g9+1) _ _ _ rfl rfl H10.out.2.2 (by have:=HW2.out.1;omega) (by have:=H10.out.2.1.lt;omega) ?_)
       intro v11 w11 ho11 hk11 hn11
       have hqN:∀k,qv.ownBlock=some k→g9<k:=λk hk=>by have:=(own_lt H10.out.2.2 hk).1;omega
       have hR11:=H10.out.1.behind HI.out HQ.out.2.1 HQ.out.1 (hk11.weaken λk _ (hk:k<g9) e=>by have:=hqN k e;omega)
       have hb11:=H10.out.2.1.keep hk11 λe=>by have:=hqN g9 e;omega
       have u3:=hb11.cell 3
       have y3:=hb11.frozen 3
       simp at u3
       have lu:=hb11.lt
       have hl11:(ql.length+1:Nat)=(ql++[(cq:Int)]).length:=by simp
       have ho11:w11.ownsRow (g9+1) 3 1 v11 (ql++[(cq:Int)]).length (ics (ql++[(cq:Int)])):=by
        rw[←hl11]
        simpa[ics] using ho11
       obtain⟨A11,c11,rfl,-⟩:=own_rd ho11
       obtain⟨lx,hlx⟩:∃l,l=(ql++[(cq:Int)]).length:=⟨_,rfl⟩
       have hlx1:ql.length+1=lx:=by rw[hlx];exact hl11
       have hb12:=hb11.set 3 (.slice A11 lx c11)
       have hR12:=hR11.behind HI.out HQ.out.2.1 HQ.out.1 (w2:=w11.setCell ⟨g9,3,none⟩ (.slice A11 lx c11)) (keep_at _ _ _ _)
       rw[←hlx] at ho11 ⊢
       have ho12:=own_far ho11 (p:=⟨g9,3,none⟩) (λe=>by have:=(own_lt ho11 e).1;simp at this;omega) (.slice A11 lx c11)
       obtain⟨w12,hw12⟩:=exz (w11.setCell ⟨g9,3,none⟩ (.slice A11 lx c11))
       rw[←hw12] at hb12 hR12 ho12
       simp only[zp1,zp2,zp3] at hb12
       have hE12:=El.manyS (G:=λl:List Int=>∀x∈l,True) (gd:=λ_ _=>True) (λys y=>all_snoc (g:=λ_:Int=>True) ys y) HW2.out.2.1 (El.cl HE10.out)
       have HLx:=hdz (show lx=(ql++[(cq:Int)]).length∧(ql++[(cq:Int)]).length=t+1 from ⟨hlx,by rw[lapz,HW2.out.1];rfl⟩)
       have H12:=hdz (aiz hR12 (aiz hE12 (aiz ho12 hb12)))
       clear ho11 hk11 hn11 hqN hR11 hb11 hb12 hR12 ho12 hE12 hl11 hlx hlx1 H10
       go_upto_region 21 with (fail)
       rw[←hw12]
       clear hw12 u3 y3 lu
       go_wp2_with fail
       exact⟨⟨t+1,by omega,by simp,hdz ⟨_,ql++[(cq:Int)],_,_,HLx.out.2,H12.out.1,H12.out.2.1,by rw[←HLx.out.1];exact H12.out.2.2.1,H12.out.2.2.2⟩⟩,by simp only[intOf];omega⟩
      ·obtain rfl:t=wn:=by omega
       have hEl:=El.lock HE5.out HE6b.out HE7b.out HE8.out hE
       have hEm:=El.manyS (G:=λl:List LockD=>∀x∈l,lkGood x) (gd:=λ_ x=>lkGood x) (λys y=>all_snoc (g:=lkGood) ys y) HQ.out.2.2.2.1 hEl
       obtain⟨Aq,cq,rfl,-⟩:=own_rd ho
       obtain⟨lx,hlx⟩:∃l,l=ql.length:=⟨_,rfl⟩
       rw[←hlx] at ho hb
       have u0:=hb.cell 0;have u1:=hb.cell 1;have u2:=hb.cell 2;have u3:=hb.cell 3
       simp at u0 u1 u2 u3
       have lu:=hb.lt
       obtain⟨-,x1,-,-,z1,-,ld⟩:=hR.dr.three
       have H13:=hdz (aiz hR (aiz ho (aiz hb (aiz hlx hEm))))
       clear hR hE ho hb hEl hEm HW hql hlx H9 HR5
       obtain⟨Ah,ch,rfl,-⟩:=own_rd H13.out.1.dr.lk
       obtain⟨nh,hnh⟩:∃n,n=hs.length:=⟨_,rfl⟩
       rw[←hnh] at x1
       have hW1:Fresh wq ((World.drew wq).alloc (.cells #[str nm,.int .i64 (ho:Int),.int .i64 (tkn:Int),.slice Aq lx cq] 157)):=((krz _ wq).drew).alloc _
       have hRW:=H13.out.1.later hW1
       have hlkW:=hRW.dr.lk
       rw[←hnh] at hlkW
       have hvl:∀k,(Value.slice Ah nh ch).ownBlock=some k→k<g9:=λk hk=>HQ.out.1 k (.inr (.inr (.inl (by rw[←hnh];exact hk))))
       have hvd:(Value.slice Ah nh ch).ownBlock≠some d:=own_ne_blk hlkW hRW.dr.blk (by decide)
       have HW1:=hdz (aiz hW1 (aiz hlkW (aiz hRW.kp.size (aiz hRW (aiz hvl hvd)))))
       have xA:=hW1.cellAt x1 trivial
       have uA:=aiz (hW1.cellAt u0 trivial) (aiz (hW1.cellAt u1 trivial) (aiz (hW1.cellAt u2 trivial) (hW1.cellAt u3 trivial)))
       have hnh8:nh≤100:=by have:=HQ.out.2.2.2.2;omega
       have HNh:=hdz hnh
       have HS:Hid (∀w',Keep (λk=>k≠d∧(Value.slice Ah nh ch).ownBlock≠some k) wq w'→w'.cell? ⟨g9,0,none⟩=some (str nm)∧w'.cell? ⟨g9,1,none⟩=some (.int .i64 (ho:Int))∧w'.cell? ⟨g9,2,none⟩=some (.int .i64 (tkn:Int))∧w'.cell? ⟨g9,3,none⟩=some (.slice Aq lx cq)):=hdz λw' hk=>by
        have hgd:g9≠d:=λe=>by have:=HQ.out.1 d (.inl rfl);omega
        have hgv:(Value.slice Ah nh ch).ownBlock≠some g9:=λe=>by have:=HW1.out.2.2.2.2.1 g9 e;omega
        exact⟨hk.cellAt u0 ⟨hgd,hgv⟩,hk.cellAt u1 ⟨hgd,hgv⟩,hk.cellAt u2 ⟨hgd,hgv⟩,hk.cellAt u3 ⟨hgd,hgv⟩⟩
       have HX:Hid (∀w',Keep (λk=>(Value.slice Ah nh ch).ownBlock≠some k) wq w'→w'.cell? ⟨d,1,none⟩=some (.slice Ah nh ch)∧w'.frozen? ⟨d,1,none⟩=false∧d<w'.heap.size):=hdz λw' hk=>⟨hk.cellAt x1 HW1.out.2.2.2.2.2,(hk.frozen (p:=⟨d,1,none⟩) ld HW1.out.2.2.2.2.2).trans z1,ltz ld hk.size⟩
       clear hW1 hRW hlkW hvl hvd hnh
       go_upto_region 24 with (fail)
       refine wp_region_held_drew (S:=λw'=>w'.cell? ⟨g9,0,none⟩=some (str nm)∧w'.cell? ⟨g9,1,none⟩=some (.int .i64 (ho:Int))∧w'.cell? ⟨g9,2,none⟩=some (.int .i64 (tkn:Int))∧w'.cell? ⟨g9,3,none⟩=some (.slice Aq lx cq)) (by kernel_rfl) ⟨u0,u1,u2,u3⟩ (λhHeld=>?_)
       refine wpAnyH_take (i:=0) (v:=.pointer (some ⟨d,0,none⟩)) rfl (by kernel_rfl) (by kernel_rfl) (by kernel_rfl) (λ_ _ _ h=>h) (Or.inl ⟨by rfl,by intro w hSw;go_simp⟩) hHeld ?_
       simp only[Act.put,zp1,zp2,zp3]
       refine wpAnyH_take (i:=1) (v:=.pointer (some ⟨d,0,none⟩)) rfl (by kernel_rfl) (by kernel_rfl) (by kernel_rfl) (λ_ _ _ h=>h) (Or.inl ⟨by rfl,by intro w hSw;go_simp⟩) hHeld ?_
       simp only[Act.put,zp1,zp2,zp3]
       refine wpAnyH_take (i:=2) (v:=.pointer (some ⟨d,0,none⟩)) rfl (by kernel_rfl) (by kernel_rfl) (by kernel_rfl) (λ_ _ _ h=>h) (Or.inl ⟨by rfl,by intro w hSw;go_simp⟩) hHeld ?_
       simp only[Act.put,zp1,zp2,zp3]
       refine wpAnyH_take (i:=3) (v:=.pointer (some ⟨d,1,none⟩)) rfl (by kernel_rfl) (by kernel_rfl) (by kernel_rfl) (λ_ _ _ h=>h) (Or.inl ⟨by rfl,by intro w hSw;go_simp⟩) hHeld ?_
       simp only[Act.put,zp1,zp2,zp3]
       refine wpAnyH_take (i:=5) (v:=.agg #[str nm,.int .i64 (ho:Int),.int .i64 (tkn:Int),.slice Aq lx cq]) rfl (by kernel_rfl) (by kernel_rfl) (by kernel_rfl) (λ_ _ _ h=>h) (Or.inl ⟨by rfl,by intro w hSw;go_simp⟩) hHeld ?_
       simp only[Act.put,zp1,zp2,zp3]
       refine wpAnyH_ready (rs:=[4,6]) (by kernel_rfl) (by simp) ?_
       refine AllReadyH.cons rfl (λK hK=>?_) (AllReadyH.cons rfl (λK hK=>?_) AllReadyH.nil)
       ·go_simp
        refine hK.out _ _ hHeld (λhHeld=>?_)
        clear hK K
        try simp only[Act.put,zp1,zp2,zp3]
        refine wpAnyH_ready (rs:=[6]) (by kernel_rfl) (by simp) ?_
        refine AllReadyH.cons rfl (λK hK=>?_) AllReadyH.nil
        go_simp
        refine hK.out _ _ uA (λhHeld=>?_)
        clear hK K
        try simp only[Act.put,zp1,zp2,zp3]
        refine wpAnyH_ready (rs:=[7]) (by kernel_rfl) (by simp) ?_
        refine AllReadyH.cons rfl (λK hK=>?_) AllReadyH.nil
        refine step_app etLock rfl (.tmp 85) (.tmp 87) rfl w0.heap.size (.slice Ah nh ch) nh (rcells DLk.cells hs) rfl HW1.out.2.1 (λ_=>True) (some ⟨(World.drew wq).heap.size,0,none⟩) 1 1 [str nm,.int .i64 (ho:Int),.int .i64 (tkn:Int),.slice Aq lx cq] rfl ((Rd.one_of (Blk.new (World.drew wq) 157 #[str nm,.int .i64 (ho:Int),.int .i64 (tkn:Int),.slice Aq lx cq]) rfl).weaken λ_ _=>trivial) (λh=>Nat.noConfusion h) (lockL_one nm (ho:Int) (tkn:Int) (.slice Aq lx cq) rfl) (by omega) HW1.out.2.2.1 ?_
        intro v9 w9 ho9 hk9 hn9
        have hk59:Keep (λk=>(Value.slice Ah nh ch).ownBlock≠some k) wq w9:=HW1.out.1.comp hk9 (λ_ _ _=>trivial) λ_ _ h=>h
        have hRn:=HW1.out.2.2.2.1.addLock HI.out (x:=⟨⟨nm,(ho:Int),(tkn:Int),ql⟩,.slice Aq lx cq⟩) (v:=v9) (w2:=w9) (by rw[←HNh.out];exact ho9) (by rw[←HNh.out];exact hk9) (by have h9:=own_base (own_keep H13.out.2.1 HW1.out.1 λ_ _=>trivial) (base':=w0.heap.size) (by have:=HQ.out.2.1;omega);show World.ownsRow _ _ _ _ _ ql.length _;rw[←H13.out.2.2.2.1];exact h9) (λy hy k hk e=>by have h1:=HQ.out.1 k (.inr (.inr (.inr ⟨y,hy,hk⟩)));have h2:=(own_lt H13.out.2.1 e).1;omega)
        obtain⟨A9,c9,rfl,-⟩:=own_rd ho9
        obtain⟨x19,z19,ld9⟩:=HX.out w9 hk59
        have h9:=HS.out w9 (hk59.weaken λ_ _ h=>h.2)
        have HT9:=hdz (HS.out (w9.setCell ⟨d,1,none⟩ (.slice A9 (nh+1) c9)) ((hk59.weaken λk _ (h:k≠d∧(Value.slice Ah nh ch).ownBlock≠some k)=>h.2).setCell (p:=⟨d,1,none⟩) (λ_ h=>h.1 rfl) _))
        have HRn:=hdz hRn
        clear ho9 hk9 hn9 hk59 hRn
        refine hK.out _ _ h9 (λhHeld=>?_)
        clear hK K
        try simp only[Act.put,zp1,zp2,zp3]
        refine wpAnyH_take (i:=8) (v:=.pointer (some ⟨d,0,none⟩)) rfl (by kernel_rfl) (by kernel_rfl) (by kernel_rfl) (λ_ _ _ h=>h) (Or.inl ⟨by rfl,by intro w hSw;go_simp⟩) hHeld ?_
        simp only[Act.put,zp1,zp2,zp3]
        refine wpAnyH_take (i:=9) (v:=.pointer (some ⟨d,1,none⟩)) rfl (by kernel_rfl) (by kernel_rfl) (by kernel_rfl) (λ_ _ _ h=>h) (Or.inl ⟨by rfl,by intro w hSw;go_simp⟩) hHeld ?_
        simp only[Act.put,zp1,zp2,zp3]
        refine wpAnyH_ready (rs:=[10]) (by kernel_rfl) (by simp) ?_
        refine AllReadyH.cons rfl (λK hK=>?_) AllReadyH.nil
        go_simp
        refine hK.out _ _ HT9.out (λhHeld=>?_)
        clear hK K
        try simp only[Act.put,zp1,zp2,zp3]
        refine wpAnyH_done (by kernel_rfl) ?_ _
        go_wp2_with fail
        exact⟨⟨i+1,by omega,by simp,hdz ⟨_,hs++[⟨⟨nm,(ho:Int),(tkn:Int),ql⟩,.slice Aq lx cq⟩],_,_,by rw[lapz,HQ.out.2.2.2.2];rfl,HRn.out,by rw[List.map_append];exact H13.out.2.2.2.2⟩⟩,by simp only[intOf];omega⟩
       ·go_simp
        refine hK.out _ _ uA (λhHeld=>?_)
        clear hK K
        try simp only[Act.put,zp1,zp2,zp3]
        refine wpAnyH_ready (rs:=[4]) (by kernel_rfl) (by simp) ?_
        refine AllReadyH.cons rfl (λK hK=>?_) AllReadyH.nil
        go_simp
        refine hK.out _ _ hHeld (λhHeld=>?_)
        clear hK K
        try simp only[Act.put,zp1,zp2,zp3]
        refine wpAnyH_ready (rs:=[7]) (by kernel_rfl) (by simp) ?_
        refine AllReadyH.cons rfl (λK hK=>?_) AllReadyH.nil
        refine step_app etLock rfl (.tmp 85) (.tmp 87) rfl w0.heap.size (.slice Ah nh ch) nh (rcells DLk.cells hs) rfl HW1.out.2.1 (λ_=>True) (some ⟨(World.drew wq).heap.size,0,none⟩) 1 1 [str nm,.int .i64 (ho:Int),.int .i64 (tkn:Int),.slice Aq lx cq] rfl ((Rd.one_of (Blk.new (World.drew wq) 157 #[str nm,.int .i64 (ho:Int),.int .i64 (tkn:Int),.slice Aq lx cq]) rfl).weaken λ_ _=>trivial) (λh=>Nat.noConfusion h) (lockL_one nm (ho:Int) (tkn:Int) (.slice Aq lx cq) rfl) (by omega) HW1.out.2.2.1 ?_
        intro v9 w9 ho9 hk9 hn9
        have hk59:Keep (λk=>(Value.slice Ah nh ch).ownBlock≠some k) wq w9:=HW1.out.1.comp hk9 (λ_ _ _=>trivial) λ_ _ h=>h
        have hRn:=HW1.out.2.2.2.1.addLock HI.out (x:=⟨⟨nm,(ho:Int),(tkn:Int),ql⟩,.slice Aq lx cq⟩) (v:=v9) (w2:=w9) (by rw[←HNh.out];exact ho9) (by rw[←HNh.out];exact hk9) (by have h9:=own_base (own_keep H13.out.2.1 HW1.out.1 λ_ _=>trivial) (base':=w0.heap.size) (by have:=HQ.out.2.1;omega);show World.ownsRow _ _ _ _ _ ql.length _;rw[←H13.out.2.2.2.1];exact h9) (λy hy k hk e=>by have h1:=HQ.out.1 k (.inr (.inr (.inr ⟨y,hy,hk⟩)));have h2:=(own_lt H13.out.2.1 e).1;omega)
        obtain⟨A9,c9,rfl,-⟩:=own_rd ho9
        obtain⟨x19,z19,ld9⟩:=HX.out w9 hk59
        have h9:=HS.out w9 (hk59.weaken λ_ _ h=>h.2)
        have HT9:=hdz (HS.out (w9.setCell ⟨d,1,none⟩ (.slice A9 (nh+1) c9)) ((hk59.weaken λk _ (h:k≠d∧(Value.slice Ah nh ch).ownBlock≠some k)=>h.2).setCell (p:=⟨d,1,none⟩) (λ_ h=>h.1 rfl) _))
        have HRn:=hdz hRn
        clear ho9 hk9 hn9 hk59 hRn
        refine hK.out _ _ h9 (λhHeld=>?_)
        clear hK K
        try simp only[Act.put,zp1,zp2,zp3]
        refine wpAnyH_take (i:=8) (v:=.pointer (some ⟨d,0,none⟩)) rfl (by kernel_rfl) (by kernel_rfl) (by kernel_rfl) (λ_ _ _ h=>h) (Or.inl ⟨by rfl,by intro w hSw;go_simp⟩) hHeld ?_
        simp only[Act.put,zp1,zp2,zp3]
        refine wpAnyH_take (i:=9) (v:=.pointer (some ⟨d,1,none⟩)) rfl (by kernel_rfl) (by kernel_rfl) (by kernel_rfl) (λ_ _ _ h=>h) (Or.inl ⟨by rfl,by intro w hSw;go_simp⟩) hHeld ?_
        simp only[Act.put,zp1,zp2,zp3]
        refine wpAnyH_ready (rs:=[10]) (by kernel_rfl) (by simp) ?_
        refine AllReadyH.cons rfl (λK hK=>?_) AllReadyH.nil
        go_simp
        refine hK.out _ _ HT9.out (λhHeld=>?_)
        clear hK K
        try simp only[Act.put,zp1,zp2,zp3]
        refine wpAnyH_done (by kernel_rfl) ?_ _
        go_wp2_with fail
        exact⟨⟨i+1,by omega,by simp,hdz ⟨_,hs++[⟨⟨nm,(ho:Int),(tkn:Int),ql⟩,.slice Aq lx cq⟩],_,_,by rw[lapz,HQ.out.2.2.2.2];rfl,HRn.out,by rw[List.map_append];exact H13.out.2.2.2.2⟩⟩,by simp only[intOf];omega⟩
    ·obtain rfl:i=b:=by omega
     have HE5:=hdz hE
     have HN5:=hdz (hR.num HI.out 0 16 16 rfl)
     clear hR hE HL hhl HR5
     go_wp2_with fail
     refine Calls.mono HN5.out ?_
     rintro en w6 ⟨s6,p6,e6,rfl,E6,hs16,hR6,-⟩
     have HE6:=hdz E6
     have HR6:=hdz hR6
     clear E6 hR6 HN5
     go_wp2_with fail
     go_loopw [13,14] (λnv iv wr=>∃ (j:Nat) (xs:List (Nat×SesD)),j≤s6∧iv=.int .i64 (j:Int)∧nv=.int .i64 (sesNext xs:Int)∧Hid (∃p e,(∀x∈xs,x.1<16)∧RdAt bs A n c g Z w0 wr d pv hv ps hs (tk:Int) (azOf xs) p e∧El (oMany (oSes bs) j) sesAll p6 e6 xs p e)) (λ_ i _=>s6 - (intOf i).toNat)
     case atStart=>exact⟨0,[],by omega,rfl,rfl,hdz ⟨_,_,λx hx=>by (cases hx),HR6.out,El.many0 ⟨λx hx=>by (cases hx),List.Pairwise.nil⟩ _ _⟩⟩
     case round=>
      rename World=>wr3
      obtain⟨t,xs,ht,rfl,rfl,HS⟩:=hrel
      obtain⟨p,e,hx16,hR,hE⟩:=HS.out
      by_cases hlt3:t<s6
      ·have hti:(t:Int)<(s6:Int):=by omega
       have HT:=hdz (hR.num HI.out (sesNext xs:Int) 15 15 rfl)
       have HE0:=hdz (aiz hE hx16)
       clear hR hE hx16 HS HR6
       go_wp2_with fail
       refine Calls.mono HT.out ?_
       rintro en w7 ⟨q,p7,e7,rfl,E7,hq15,hR7,-⟩
       have HE7:=hdz E7
       obtain⟨g9,hg9⟩:∃g,g=w7.heap.size:=⟨_,rfl⟩
       have hft:∀k,DFoot d pv hv hs k→k<g9:=λk hk=>by rw[hg9];exact (hR7.dr.foot hk).2
       have hwN:w0.heap.size≤g9:=by rw[hg9];exact hR7.kp.size
       have hgN:g<g9:=ltz HI.out.lt hwN
       go_upto_region 32 with (fail)
       generalize hw8:World.alloc w7 _=w8
       have hb8:Blk w8 g9 144 #[.bool true,.int .i64 0,.int .i64 0,.int .i64 0,str [],.int .i64 0]:=by
        rw[←hw8,hg9]
        exact Blk.new _ _ _
       have hf8:Fresh w7 w8:=by rw[←hw8];exact (krz _ w7).alloc _
       have hR8:=hR7.later hf8
       rw[←hg9]
       have HQ:=hdz (aiz hft (aiz hwN hgN))
       have HBk:=hdz hb8
       clear HT
       have HT:=hdz (hR8.num HI.out 1 4611686018427387904 4611686018427387904 rfl)
       clear hw8 hb8 hf8 hR8 hR7 E7 hft hg9 hwN hgN
       go_wp2_with fail
       refine Calls.mono HT.out ?_
       rintro en w9 ⟨si,p8s,e8s,rfl,E8s,hsi,hR9,hk9⟩
       have hb9:=HBk.out.keep hk9 (Nat.ne_of_gt HQ.out.2.2)
       have u0:=hb9.cell 1
       have y0:=hb9.frozen 1
       simp at u0
       have lu:=hb9.lt
       have hb10:=hb9.set 1 (.int .i64 (si:Int))
       have hR10:=hR9.behind HI.out HQ.out.2.1 HQ.out.1 (w2:=w9.setCell ⟨g9,1,none⟩ (.int .i64 (si:Int))) (keep_at _ _ _ _)
       obtain⟨w10,hw10⟩:=exz (w9.setCell ⟨g9,1,none⟩ (.int .i64 (si:Int)))
       rw[←hw10] at hb10 hR10
       have HE8s:=hdz E8s
       clear HBk
       have HBk:=hdz hb10
       clear HT
       have HT:=hdz (hR10.num HI.out 1 4611686018427387904 4611686018427387904 rfl)
       clear hR9 hk9 E8s hb9 hb10 hR10
       go_upto_region 33 with (fail)
       rw[←hw10]
       clear hw10 u0 y0 lu
       go_wp2_with fail
       refine Calls.mono HT.out ?_
       rintro en w9 ⟨sr,p9s,e9s,rfl,E9s,hsr,hR9,hk9⟩
       have hb9:=HBk.out.keep hk9 (Nat.ne_of_gt HQ.out.2.2)
       have u0:=hb9.cell 2
       have y0:=hb9.frozen 2
       simp at u0
       have lu:=hb9.lt
       have hb10:=hb9.set 2 (.int .i64 (sr:Int))
       have hR10:=hR9.behind HI.out HQ.out.2.1 HQ.out.1 (w2:=w9.setCell ⟨g9,2,none⟩ (.int .i64 (sr:Int))) (keep_at _ _ _ _)
       obtain⟨w10,hw10⟩:=exz (w9.setCell ⟨g9,2,none⟩ (.int .i64 (sr:Int)))
       rw[←hw10] at hb10 hR10
       have HE9s:=hdz E9s
       clear HBk
       have HBk:=hdz hb10
       clear HT
       have HT:=hdz (hR10.num HI.out 1 11 11 rfl)
       clear hR9 hk9 E9s hb9 hb10 hR10
       go_upto_region 34 with (fail)
       rw[←hw10]
       clear hw10 u0 y0 lu
       go_wp2_with fail
       refine Calls.mono HT.out ?_
       rintro en w9 ⟨sc,p10s,e10s,rfl,E10s,hsc,hR9,hk9⟩
       have hb9:=HBk.out.keep hk9 (Nat.ne_of_gt HQ.out.2.2)
       have u0:=hb9.cell 3
       have y0:=hb9.frozen 3
       simp at u0
       have lu:=hb9.lt
       have hb10:=hb9.set 3 (.int .i64 (sc:Int))
       have hR10:=hR9.behind HI.out HQ.out.2.1 HQ.out.1 (w2:=w9.setCell ⟨g9,3,none⟩ (.int .i64 (sc:Int))) (keep_at _ _ _ _)
       obtain⟨w10,hw10⟩:=exz (w9.setCell ⟨g9,3,none⟩ (.int .i64 (sc:Int)))
       rw[←hw10] at hb10 hR10
       have HE10s:=hdz E10s
       clear HBk
       have HBk:=hdz hb10
       clear HT
       have HT:=hdz (hR10.txt HI.out)
       clear hR9 hk9 E10s hb9 hb10 hR10
       go_upto_region 35 with (fail)
       rw[←hw10]
       clear hw10 u0 y0 lu
       go_wp2_with fail
       refine Calls.mono HT.out ?_
       rintro en w9 ⟨sv,p11s,e11s,rfl,E11s,hsv,hR9,hk9⟩
       have hb9:=HBk.out.keep hk9 (Nat.ne_of_gt HQ.out.2.2)
       have u0:=hb9.cell 4
       have y0:=hb9.frozen 4
       simp at u0
       have lu:=hb9.lt
       have hb10:=hb9.set 4 (str sv)
       have hR10:=hR9.behind HI.out HQ.out.2.1 HQ.out.1 (w2:=w9.setCell ⟨g9,4,none⟩ (str sv)) (keep_at _ _ _ _)
       obtain⟨w10,hw10⟩:=exz (w9.setCell ⟨g9,4,none⟩ (str sv))
       rw[←hw10] at hb10 hR10
       have HE11s:=hdz E11s
       clear HBk
       have HBk:=hdz hb10
       clear HT
       have HT:=hdz (hR10.num HI.out 0 99999999 99999999 rfl)
       clear hR9 hk9 E11s hb9 hb10 hR10
       go_upto_region 36 with (fail)
       rw[←hw10]
       clear hw10 u0 y0 lu
       go_wp2_with fail
       refine Calls.mono HT.out ?_
       rintro en w9 ⟨sn,p12s,e12s,rfl,E12s,hsn,hR9,hk9⟩
       have hb9:=HBk.out.keep hk9 (Nat.ne_of_gt HQ.out.2.2)
       have u0:=hb9.cell 5
       have y0:=hb9.frozen 5
       simp at u0
       have lu:=hb9.lt
       have hb10:=hb9.set 5 (.int .i64 (sn:Int))
       have hR10:=hR9.behind HI.out HQ.out.2.1 HQ.out.1 (w2:=w9.setCell ⟨g9,5,none⟩ (.int .i64 (sn:Int))) (keep_at _ _ _ _)
       obtain⟨w10,hw10⟩:=exz (w9.setCell ⟨g9,5,none⟩ (.int .i64 (sn:Int)))
       rw[←hw10] at hb10 hR10
       have HE12s:=hdz E12s
       clear HBk
       have HBk:=hdz hb10
       clear HT
       have HF12:=hdz hR10
       clear hR9 hk9 E12s hb9 hb10 hR10
       go_upto_region 37 with (fail)
       rw[←hw10]
       clear hw10 u0 y0 lu
       have hbf:=HBk.out
       simp only[zp1,zp2,zp3] at hbf
       have hq16:q<16:=by omega
       have hqi:(q:Int)<16:=by omega
       have u0:=hbf.cell 0;have u1:=hbf.cell 1;have u2:=hbf.cell 2;have u3:=hbf.cell 3;have u4:=hbf.cell 4;have u5:=hbf.cell 5
       simp at u0 u1 u2 u3 u4 u5
       have lu:=hbf.lt
       have hdr:=HF12.out.dr
       have n0:=hdr.ask hq16 0 (by omega);have n1:=hdr.ask hq16 1 (by omega);have n2:=hdr.ask hq16 2 (by omega);have n3:=hdr.ask hq16 3 (by omega);have n4:=hdr.ask hq16 4 (by omega);have n5:=hdr.ask hq16 5 (by omega)
       simp only[askR,List.getElem?_cons_zero,List.getElem?_cons_succ,Nat.add_zero] at n0 n1 n2 n3 n4 n5
       have m0:=hdr.blk.frozen (3+q*6)
       have m1:=hdr.blk.frozen (3+q*6+1)
       have m2:=hdr.blk.frozen (3+q*6+2)
       have m3:=hdr.blk.frozen (3+q*6+3)
       have m4:=hdr.blk.frozen (3+q*6+4)
       have m5:=hdr.blk.frozen (3+q*6+5)
       have ld:=hdr.blk.lt
       have hgd:g9≠d:=λe=>by have:=HQ.out.1 d (.inl rfl);omega
       have HKS:Hid (∀w',Keep (λk=>k≠d) w10 w'→w'.cell? ⟨g9,0,none⟩=some (.bool true)∧w'.cell? ⟨g9,1,none⟩=some (.int .i64 (si:Int))∧w'.cell? ⟨g9,2,none⟩=some (.int .i64 (sr:Int))∧w'.cell? ⟨g9,3,none⟩=some (.int .i64 (sc:Int))∧w'.cell? ⟨g9,4,none⟩=some (str sv)∧w'.cell? ⟨g9,5,none⟩=some (.int .i64 (sn:Int))):=hdz λw' hk=>⟨hk.cellAt u0 hgd,hk.cellAt u1 hgd,hk.cellAt u2 hgd,hk.cellAt u3 hgd,hk.cellAt u4 hgd,hk.cellAt u5 hgd⟩
       have hR13:=(HF12.out.setAsk HI.out hq16 ⟨(si:Int),(sr:Int),⟨(sc:Int),sv,(sn:Int)⟩⟩).later ((krz _ _).drew)
       have hE13:=El.manyS (G:=sesAll) (gd:=λys y=>sesGood (sesNext ys) y) (λys y=>sesAll_snoc ys y) HE0.out.1 (El.ses HE7.out HE8s.out HE9s.out HE10s.out HE11s.out HE12s.out)
       have hx13:∀x∈xs++[(q,(⟨(si:Int),(sr:Int),⟨(sc:Int),sv,(sn:Int)⟩⟩:SesD))],x.1<16:=(all_snoc (g:=λx:Nat×SesD=>x.1<16) _ _).2 ⟨HE0.out.2,hq16⟩
       rw[←azOf_snoc xs (q,⟨(si:Int),(sr:Int),⟨(sc:Int),sv,(sn:Int)⟩⟩)] at hR13
       have H13:=hdz (aiz hx13 (aiz hR13 hE13))
       clear hbf hR13 hE13 hx13 HF12 HBk
       go_region_held3 (λw'=>w'.cell? ⟨g9,0,none⟩=some (.bool true)∧w'.cell? ⟨g9,1,none⟩=some (.int .i64 (si:Int))∧w'.cell? ⟨g9,2,none⟩=some (.int .i64 (sr:Int))∧w'.cell? ⟨g9,3,none⟩=some (.int .i64 (sc:Int))∧w'.cell? ⟨g9,4,none⟩=some (str sv)∧w'.cell? ⟨g9,5,none⟩=some (.int .i64 (sn:Int)))
        ((refine HKS.out _ ?_;repeat (first | with_reducible exact krz _ _ | with_reducible refine Keep.drew ?_ | with_reducible refine Keep.alloc ?_ _ | refine Keep.setCell ?_ (λ_ h=>h rfl) _)))
        (fail)
       go_wp2_with fail
       exact⟨⟨t+1,xs++[(q,⟨(si:Int),(sr:Int),⟨(sc:Int),sv,(sn:Int)⟩⟩)],by omega,by simp,by rw[sesNext_snoc];simp,hdz ⟨_,_,H13.out.1,H13.out.2.1,H13.out.2.2⟩⟩,by simp only[intOf];omega⟩
      ·obtain rfl:t=s6:=by omega
       have HF:=hdz (aiz hR hE)
       clear hR hE HS hx16 HR6
       go_wp2_with fail
       go_ret
       exact⟨d,pv,hv,hs,⟨tk,ps,hs.map DLk.d,xs⟩,_,_,rfl,El.raw HE1.out HE2.out HE3.out HE4.out HE5.out HE6.out HF.out.2,HF.out.1,rfl⟩
def lkAt (ls:List LockD)(i:Nat):LockD:=ls.getD i ⟨[],0,0,[]⟩
def azAt (az:List (Bool×SesD))(q:Nat):Bool×SesD:=az.getD q (false,noSes)
def prAt (ps:List (Txt×Txt))(i:Nat):Txt:=(ps.getD i ([],[])).1
structure VLk (tok:Int)(az:List (Bool×SesD))(ls:List LockD)(i:Nat):Prop where
 nm:0<i→Op.bytesLess (lkAt ls (i - 1)).name (lkAt ls i).name=true
 tk:decide (tok<(lkAt ls i).token)=false
 ho:(azAt az (lkAt ls i).holder.toNat).1=true
 hq:decide (0<placeI (lkAt ls i).queue (lkAt ls i).holder)=false
structure VLq (az:List (Bool×SesD))(q:List Int)(j:Nat):Prop where
 has:(azAt az (q.getD j 0).toNat).1=true
 pl:placeI q (q.getD j 0)=(j:Int)+1
structure ValidD (ps:List (Txt×Txt))(ls:List LockD)(tok:Int)(az:List (Bool×SesD)):Prop where
 pr:∀i,i+1<ps.length→Op.bytesLess (prAt ps i) (prAt ps (i+1))=true
 lk:∀i,i<ls.length→VLk tok az ls i
 ap:∀i,i<ls.length→∀j,j<i→(lkAt ls j).token≠(lkAt ls i).token
 qs:∀i,i<ls.length→∀j,j<(lkAt ls i).queue.length→VLq az (lkAt ls i).queue j
 bad:∀q,q<16→¬((azAt az q).1=true∧(azAt az q).2.last.code=10)
section
variable {B:Nat}{w:World}{d:Nat}{pv hv:Value}{ps:List (Txt×Txt)}{hs:List DLk}{tok:Int}{az:List (Bool×SesD)}
theorem lkAt_of {hs:List DLk}{i:Nat}(hi:i<hs.length):lkAt (hs.map DLk.d) i=hs[i].d:=by
 unfold lkAt
 rw[List.getD_eq_getElem?_getD,List.getElem?_map,List.getElem?_eq_getElem hi]
 rfl
theorem azAt_of {q:Nat}(hq:q<az.length):azAt az q=az[q]:=by
 unfold azAt
 rw[List.getD_eq_getElem?_getD,List.getElem?_eq_getElem hq]
 rfl
theorem prAt_of {i:Nat}(hi:i<ps.length):prAt ps i=ps[i].1:=by
 unfold prAt
 rw[List.getD_eq_getElem?_getD,List.getElem?_eq_getElem hi]
 rfl
def VPost (w:World)(ps:List (Txt×Txt))(ls:List LockD)(tok:Int)(az:List (Bool×SesD))(e:Ending)(w':World):Prop:=
 (∃b:Bool,e=.returned (.bool b)∧(b=true↔ValidD ps ls tok az))∧Fresh w w'
theorem vpost_no {w w':World}{ls:List LockD}(hn:¬ValidD ps ls tok az)(hf:Fresh w w'):VPost w ps ls tok az (.returned (.bool false)) w':=
 ⟨⟨false,rfl,by simp,λh=>absurd h hn⟩,hf⟩
theorem dvalid_any (h:DRw B w d pv hv ps hs tok az) (hp:ps.length≤16) (hl:hs.length≤8) (hq:∀x∈hs,0≤x.d.holder∧x.d.holder<16∧x.d.queue.length≤15∧∀c∈x.d.queue,0≤c∧c<16) :
 Calls Tryz.prog 128 #[.pointer (some ⟨d,0,none⟩)] w (VPost w ps (hs.map DLk.d) tok az):=by
 obtain⟨np,hnp⟩:∃n,n=ps.length:=⟨_,rfl⟩
 obtain⟨nl,hnl⟩:∃n,n=hs.length:=⟨_,rfl⟩
 obtain⟨ls,hls⟩:∃l,l=hs.map DLk.d:=⟨_,rfl⟩
 rw[←hls]
 have hpr:=h.pr
 have hlk:=h.lk
 rw[←hnp] at hpr
 rw[←hnl] at hlk
 obtain⟨Ap,cp,rfl,hrp,-⟩:=own_rd hpr
 obtain⟨Al,cl,rfl,hrl,-⟩:=own_rd hlk
 have hnp16:np≤16:=by omega
 have hnl8:nl≤8:=by omega
 have hlsl:ls.length=nl:=by rw[hls,List.length_map,hnl]
 have HA:=hdz (aiz hnp (aiz hlsl (aiz hq h.s16)))
 have HL:Hid (∀i (hi:i<hs.length),hs[i].d=lkAt ls i):=hdz λi hi=>by rw[hls,lkAt_of hi]
 have HM:Hid (∀w',Fresh w w'→w'.cell? ⟨d,0,none⟩=some (.slice Ap np cp)∧w'.cell? ⟨d,1,none⟩=some (.slice Al nl cl)∧w'.cell? ⟨d,2,none⟩=some (.int .i64 tok)∧d<w'.heap.size∧Rd w' (λ_=>True) 2 Ap np (pcells ps)∧Rd w' (λ_=>True) 4 Al nl (rcells DLk.cells hs)∧DRw B w' d (.slice Ap np cp) (.slice Al nl cl) ps hs tok az):=hdz λw' hf=>by
  have hd:=h.fresh hf
  exact⟨hd.three.1,hd.three.2.1,hd.three.2.2.1,hd.blk.lt,(hrp.weaken λ_ _=>trivial).keep (hf.weaken λ_ _ _=>trivial),(hrl.weaken λ_ _=>trivial).keep (hf.weaken λ_ _ _=>trivial),hd⟩
 clear h hpr hlk hrp hrl hnp hnl hls hlsl hq hp hl
 obtain⟨x0,-,-,ld,-⟩:=HM.out w (krz _ _)
 go_enter Tryz.func128,Tryz.ntmps128
 go_wp2_with fail
 go_loopw [3] (λiv wr=>∃j:Nat,(j<np∨j=0)∧iv=.int .i64 ((j:Int)+1)∧Hid (Fresh w wr∧∀i,i<j→Op.bytesLess (prAt ps i) (prAt ps (i+1))=true)) (λi _=>np+1 - (intOf i).toNat)
 case atStart=>exact⟨0,.inr rfl,by simp,hdz ⟨krz _ _,λi hi=>by omega⟩⟩
 case round =>
  rename World=>wr
  obtain⟨j,hj,rfl,HR⟩:=hrel
  clear x0 ld
  obtain⟨x0,x1,-,ld,hrp,-,-⟩:=HM.out wr HR.out.1
  by_cases hlt:j+1<np
  ·skip
   obtain⟨hl0,b,o,rfl,-,c0,-⟩:=hrp.pairE (k:=j) (by omega)
   obtain⟨hl1,b',o',eA,-,c1,-⟩:=hrp.pairE (k:=j+1) hlt
   injection eA with eA
   injection eA with eA eA2
   subst eA eA2
   rw[←prAt_of hl0] at c0
   rw[←prAt_of hl1] at c1
   have lb:=lt_of_cell c0
   have hji:(j:Int)+1<(np:Int):=by omega
   obtain⟨ka,hka⟩:∃k,k=prAt ps j:=⟨_,rfl⟩
   obtain⟨kb,hkb⟩:∃k,k=prAt ps (j+1):=⟨_,rfl⟩
   rw[←hka] at c0
   rw[←hkb] at c1
   obtain⟨lbb,hlb⟩:∃b,Op.bytesLess ka kb=b:=⟨_,rfl⟩
   have HK:=hdz (aiz hka hkb)
   clear hrp hl0 hl1 hka hkb x1
   cases lbb
   ·go_wp2_with fail
    go_quiet (fail)
    go_wp2_with fail
    go_ret
    refine vpost_no (λhv=>?_) (HR.out.1.drewN _)
    have h1:=hv.pr j (by rw[←HA.out.1];omega)
    rw[←HK.out.1,←HK.out.2,hlb] at h1
    cases h1
   ·go_wp2_with fail
    go_quiet (fail)
    go_wp2_with fail
    refine⟨⟨j+1,.inl hlt,by simp,hdz ⟨HR.out.1.drewN _,λi hi=>?_⟩⟩,by simp only[intOf];omega⟩
    rcases Nat.lt_or_ge i j with h1 | h1
    ·exact HR.out.2 i h1
    ·obtain rfl:i=j:=by omega
     rw[←HK.out.1,←HK.out.2,hlb]
  ·have hP:Hid (∀i,i+1<ps.length→Op.bytesLess (prAt ps i) (prAt ps (i+1))=true):=hdz λi hi=>HR.out.2 i (by have:=HA.out.1;omega)
   have HF:=hdz HR.out.1
   have hji:¬(j:Int)+1<(np:Int):=by omega
   clear hrp HR hlt hj
   go_wp2_with fail
   go_loopw [4] (λiv wq=>∃i:Nat,i≤nl∧iv=.int .i64 (i:Int)∧Hid (Fresh w wq∧∀k,k<i→VLk tok az ls k∧(∀j,j<k→(lkAt ls j).token≠(lkAt ls k).token)∧∀j,j<(lkAt ls k).queue.length→VLq az (lkAt ls k).queue j)) (λi _=>nl - (intOf i).toNat)
   case atStart=>exact⟨0,by omega,rfl,hdz ⟨HF.out,λk hk=>by omega⟩⟩
   case round =>
    rename World=>wq
    obtain⟨i,hi,rfl,HR⟩:=hrel
    clear x0 x1 ld HF
    obtain⟨x0,x1,x2,ld,-,hrl,hdr⟩:=HM.out wq HR.out.1
    by_cases hlt:i<nl
    ·obtain⟨hil,b,o,rfl,-,c0,c1,c2,c3⟩:=hrl.lockE hlt
     have hown:=hdr.qs _ (List.getElem_mem hil)
     have hok:=HA.out.2.2.1 _ (List.getElem_mem hil)
     rw[HL.out i hil] at c0 c1 c2 hown hok
     obtain⟨⟨nm,lh,lt,lq⟩,hy⟩:∃y,y=lkAt ls i:=⟨_,rfl⟩
     rw[←hy] at c0 c1 c2 hown hok
     simp only at c0 c1 c2 hown hok
     obtain⟨Aq,cq,eqv,hrq,-⟩:=own_rd hown
     rw[eqv] at c3
     obtain⟨nq,hnq⟩:∃n,n=lq.length:=⟨_,rfl⟩
     rw[←hnq] at c3 hrq
     have hq15:nq≤15:=by omega
     have lb:=lt_of_cell c0
     have hii:(i:Int)<(nl:Int):=by omega
     obtain⟨h0n,hh0⟩:∃n:Nat,lh=(n:Int):=⟨lh.toNat,by omega⟩
     have hh16:h0n<16:=by omega
     subst hh0
     have HQ:=hdz (aiz hy (aiz hok (aiz (hrq.weaken (Z':=λ_=>True) λ_ _=>trivial) hnq)))
     clear hrl hown hok hy eqv hrq hnq hdr
     go_wp2_with (refine wpList_store_new rfl (.tmp 5) (.tmp 51) rfl _ #[str nm,.int .i64 (h0n:Int),.int .i64 lt,.slice Aq nq cq] _ rfl rfl rfl (by kernel_rfl) (lockA_one _ _ _ _ rfl) ?_)
     intro w5 hb5 hf5 hs5
     obtain⟨g5,hg5⟩:∃g,g=wq.heap.size:=⟨_,rfl⟩
     rw[←hg5] at hb5 ⊢
     have HB:Hid (∀wx,Fresh w5 wx→Fresh w wx∧Blk wx g5 157 #[str nm,.int .i64 (h0n:Int),.int .i64 lt,.slice Aq nq cq]):=hdz λwx hf=>⟨HR.out.1.trans (Keep.trans hf5 hf),Blk.keep hb5 hf trivial⟩
     have HC:Hid (∀wx,Fresh w5 wx→(wx.cell? ⟨g5,0,none⟩=some (str nm)∧wx.cell? ⟨g5,1,none⟩=some (.int .i64 (h0n:Int))∧wx.cell? ⟨g5,2,none⟩=some (.int .i64 lt)∧wx.cell? ⟨g5,3,none⟩=some (.slice Aq nq cq))∧g5<wx.heap.size):=hdz λwx hf=>by
      have hb:=(HB.out wx hf).2
      exact⟨⟨hb.cell 0,hb.cell 1,hb.cell 2,hb.cell 3⟩,hb.lt⟩
     have HPl:Hid (∀wx,Fresh w5 wx→∀x,Calls Tryz.prog 155 #[.slice Aq nq cq,.int .i64 x] wx λe w'=>e=.returned (.int .i64 (placeI lq x))∧wx=w'):=hdz λwx hf x=>placeOf_any _ Aq nq cq lq x wx (HQ.out.2.2.1.keep ((Keep.trans hf5 hf).weaken λ_ _ _=>trivial)) (by omega)
     have HFw:Hid (Fresh wq w5):=hdz hf5
     clear hb5 hf5 hs5 hg5 c0 c1 c2 c3 lb x0 x1 x2 ld
     obtain⟨x0,x1,x2,ld,-,hrl,hdr⟩:=HM.out w5 (HB.out w5 (krz _ _)).1
     obtain⟨⟨u0,u1,u2,u3⟩,lu⟩:=HC.out w5 (krz _ _)
     have a0:=hdr.ask hh16 0 (by omega)
     rw[Nat.add_zero,←azAt_of] at a0
     replace a0:w5.cell? ⟨d,3+h0n*6,none⟩=some (.bool (azAt az h0n).1):=a0
     obtain⟨hb,hhb⟩:∃b,b=(azAt az h0n).1:=⟨_,rfl⟩
     rw[←hhb] at a0
     obtain⟨pl,hpl⟩:∃p,p=placeI lq (h0n:Int):=⟨_,rfl⟩
     have HP1:Hid (∀wx,Fresh w5 wx→Calls Tryz.prog 155 #[.slice Aq nq cq,.int .i64 (h0n:Int)] wx λe w'=>e=.returned (.int .i64 pl)∧wx=w'):=hdz λwx hf=>by rw[hpl];exact HPl.out wx hf _
     have hprev:i=0∨∃ (m:Nat) (bo oo:Nat) (na:Txt),i=m+1∧na=(lkAt ls m).name∧some (⟨b,o,none⟩:Addr)=some ⟨bo,oo,none⟩∧w5.cell? ⟨bo,oo+m*4,none⟩=some (str na):=by
      rcases Nat.eq_zero_or_pos i with h | h
      ·exact .inl h
      ·obtain⟨hml,b',o',eA,-,e0,-⟩:=hrl.lockE (k:=i - 1) (by omega)
       exact .inr ⟨i - 1,b',o',_,by omega,rfl,eA,by rw[e0,HL.out _ hml]⟩
     have HH:=hdz (aiz hhb hpl)
     clear hrl hdr hhb hpl
     go_upto_region 10 with (fail)
     go_cut [95] (λs wx=>∃bd:Bool,s=.bool bd∧Hid (Fresh w5 wx∧(bd=false↔VLk tok az ls i)))
     case first=>
      have htk:∃b,decide (tok<lt)=b:=⟨_,rfl⟩
      obtain⟨tb,htb⟩:=htk
      obtain⟨qb,hqb⟩:∃b,decide (0<pl)=b:=⟨_,rfl⟩
      have hV:∀nmo:0<i→Op.bytesLess (lkAt ls (i - 1)).name (lkAt ls i).name=true,tb=false→hb=true→qb=false→VLk tok az ls i:=λh1 h2 h3 h4=>by
       refine⟨h1,?_,?_,?_⟩
       ·rw[←HQ.out.1,htb,h2]
       ·rw[←HQ.out.1]
        simpa[←HH.out.1] using h3
       ·rw[←HQ.out.1]
        simp only
        rw[←HH.out.2,hqb,h4]
      have hN:VLk tok az ls i→(0<i→Op.bytesLess (lkAt ls (i - 1)).name nm=true)∧tb=false∧hb=true∧qb=false:=λh=>by
       obtain⟨h1,h2,h3,h4⟩:=h
       rw[←HQ.out.1] at h1 h2 h3 h4
       refine⟨h1,by rw[←htb];exact h2,?_,?_⟩
       ·rw[HH.out.1];simpa using h3
       ·rw[←hqb,HH.out.2];exact h4
      have HV:=hdz hV
      have HN:=hdz hN
      have HNm:Hid (nm=(lkAt ls i).name):=hdz (by rw[←HQ.out.1])
      clear hV hN
      have fin:∀ (bd:Bool) (k:Nat),(bd=false↔VLk tok az ls i)→∃b,Value.bool bd=.bool b∧Hid (Fresh w5 (w5.drewN k)∧(b=false↔VLk tok az ls i)):=λbd k h=>⟨bd,rfl,hdz ⟨(krz _ w5).drewN k,h⟩⟩
      have FIN:=hdz fin
      clear fin
      rcases hprev with rfl | ⟨m,bo,oo,na,hm,hna,eA,ca⟩
      ·skip
       cases tb
       ·cases hb
        ·go_wp2_with fail
         go_quiet ((go_at_call 155;exact quiet_same (HP1.out _ ((krz _ w5).drewN _))))
         go_wp2_with fail
         go_meet
         exact FIN.out true _ ⟨λh=>by (cases h),λh=>by have h1:=(HN.out h).2.2.1;cases h1⟩
        ·cases qb
         ·go_wp2_with fail
          go_quiet ((go_at_call 155;exact quiet_same (HP1.out _ ((krz _ w5).drewN _))))
          go_wp2_with fail
          go_meet
          exact FIN.out false _ ⟨λ_=>HV.out (λh=>absurd h (by omega)) (by first | rfl | trivial) (by first | rfl | trivial) (by first | rfl | trivial),λ_=>rfl⟩
         ·go_wp2_with fail
          go_quiet ((go_at_call 155;exact quiet_same (HP1.out _ ((krz _ w5).drewN _))))
          go_wp2_with fail
          go_meet
          exact FIN.out true _ ⟨λh=>by (cases h),λh=>by have h1:=(HN.out h).2.2.2;cases h1⟩
       ·go_wp2_with fail
        go_quiet ((go_at_call 155;exact quiet_same (HP1.out _ ((krz _ w5).drewN _))))
        go_wp2_with fail
        go_meet
        exact FIN.out true _ ⟨λh=>by (cases h),λh=>by have h1:=(HN.out h).2.1;cases h1⟩
      ·injection eA with eA
       injection eA with eA eA2
       subst eA eA2
       have hmi:(i:Int) - 1=(m:Int):=by omega
       have hi0:decide (0<i)=true:=decide_eq_true (by omega)
       have hml:(m:Int)<(nl:Int):=by omega
       have lb:=lt_of_cell ca
       obtain⟨sb,hsb⟩:∃b,Op.bytesLess na nm=b:=⟨_,rfl⟩
       have HSb:Hid ((0<i→Op.bytesLess (lkAt ls (i - 1)).name (lkAt ls i).name=true)↔sb=true):=hdz (by
        rw[←HNm.out,show i - 1=m by omega,←hna,hsb]
        exact⟨λh=>h (by omega),λh _=>h⟩)
       clear hna hm
       cases sb
       ·go_wp2_with fail
        go_quiet ((go_at_call 155;exact quiet_same (HP1.out _ ((krz _ w5).drewN _))))
        go_wp2_with fail
        go_meet
        exact FIN.out true _ ⟨λh=>by (cases h),λh=>by have h1:=HSb.out.1 h.nm;cases h1⟩
       ·cases tb
        ·cases hb
         ·go_wp2_with fail
          go_quiet ((go_at_call 155;exact quiet_same (HP1.out _ ((krz _ w5).drewN _))))
          go_wp2_with fail
          go_meet
          exact FIN.out true _ ⟨λh=>by (cases h),λh=>by have h1:=(HN.out h).2.2.1;cases h1⟩
         ·cases qb
          ·go_wp2_with fail
           go_quiet ((go_at_call 155;exact quiet_same (HP1.out _ ((krz _ w5).drewN _))))
           go_wp2_with fail
           go_meet
           exact FIN.out false _ ⟨λ_=>HV.out (HSb.out.2 (by first | rfl | trivial)) (by first | rfl | trivial) (by first | rfl | trivial) (by first | rfl | trivial),λ_=>rfl⟩
          ·go_wp2_with fail
           go_quiet ((go_at_call 155;exact quiet_same (HP1.out _ ((krz _ w5).drewN _))))
           go_wp2_with fail
           go_meet
           exact FIN.out true _ ⟨λh=>by (cases h),λh=>by have h1:=(HN.out h).2.2.2;cases h1⟩
        ·go_wp2_with fail
         go_quiet ((go_at_call 155;exact quiet_same (HP1.out _ ((krz _ w5).drewN _))))
         go_wp2_with fail
         go_meet
         exact FIN.out true _ ⟨λh=>by (cases h),λh=>by have h1:=(HN.out h).2.1;cases h1⟩
     case rest=>
     rename World=>w6
     obtain⟨bd,rfl,HX⟩:=hcut
     have HT:=hdz (λwx (hf:Fresh w6 wx)=>(HX.out.1.then hf))
     clear hprev a0
     cases bd
     ·have HV:=hdz (HX.out.2.1 rfl)
      clear x0 x1 x2 ld u0 u1 u2 u3 lu HX
      go_wp2_with fail
      go_loopw [6] (λiv wx=>∃j:Nat,j≤i∧iv=.int .i64 (j:Int)∧Hid (Fresh w6 wx∧∀k,k<j→(lkAt ls k).token≠lt)) (λj _=>i - (intOf j).toNat)
      case atStart=>exact⟨0,by omega,rfl,hdz ⟨krz _ _,λk hk=>by omega⟩⟩
      case round=>
       rename World=>wx
       obtain⟨j2,hj2,rfl,HR3⟩:=hrel
       by_cases hjl:j2<i
       ·obtain⟨x0,x1,x2,ld,-,hrl,hdr⟩:=HM.out wx (HB.out wx (HT.out wx HR3.out.1)).1
        obtain⟨⟨u0,u1,u2,u3⟩,lu⟩:=HC.out wx (HT.out wx HR3.out.1)
        obtain⟨hml,b',o',eA,-,-,-,e2,-⟩:=hrl.lockE (k:=j2) (by omega)
        injection eA with eA
        injection eA with eA eA2
        subst eA eA2
        rw[HL.out _ hml] at e2
        obtain⟨tk2,htk2⟩:∃t,t=(lkAt ls j2).token:=⟨_,rfl⟩
        rw[←htk2] at e2
        have lb2:=lt_of_cell e2
        have hji2:(j2:Int)<(i:Int):=by omega
        have hjl2:(j2:Int)<(nl:Int):=by omega
        have HK2:=hdz htk2
        clear hrl hdr hml htk2 u0 u1 u3 x0 x2
        by_cases hq:tk2=lt
        ·have hqd:(tk2==lt)=true:=by simpa using hq
         have HQ2:=hdz hq
         clear hq
         go_wp2_with fail
         go_quiet (fail)
         go_wp2_with fail
         go_ret
         refine vpost_no (λhv=>?_) ((HB.out wx (HT.out wx HR3.out.1)).1.drewN _)
         refine hv.ap i (by rw[HA.out.2.1];exact hlt) j2 hjl ?_
         rw[←HK2.out,HQ2.out,←HQ.out.1]
        ·have hqd:(tk2==lt)=false:=by simpa using hq
         have HQ2:=hdz hq
         clear hq
         go_wp2_with fail
         go_quiet (fail)
         go_wp2_with fail
         refine⟨⟨j2+1,by omega,by simp,hdz ⟨HR3.out.1.drewN _,λk hk=>?_⟩⟩,by simp only[intOf];omega⟩
         rcases Nat.lt_or_ge k j2 with h1 | h1
         ·exact HR3.out.2 k h1
         ·obtain rfl:k=j2:=by omega
          rw[←HK2.out]
          exact HQ2.out
       ·have HT3:Hid (∀k,k<i→(lkAt ls k).token≠lt):=hdz λk hk=>HR3.out.2 k (by omega)
        have HF3:=hdz (HT.out wx HR3.out.1)
        have hji2:¬(j2:Int)<(i:Int):=by omega
        clear HR3 HT hjl hj2
        go_wp2_with fail
        go_loopw [7] (λiv wy=>∃j:Nat,j≤nq∧iv=.int .i64 (j:Int)∧Hid (Fresh w5 wy∧∀k,k<j→VLq az lq k)) (λj _=>nq - (intOf j).toNat)
        case atStart=>exact⟨0,by omega,rfl,hdz ⟨HF3.out,λk hk=>by omega⟩⟩
        case round=>
         rename World=>wy
         obtain⟨j3,hj3,rfl,HR4⟩:=hrel
         obtain⟨⟨u0,u1,u2,u3⟩,lu⟩:=HC.out wy HR4.out.1
         by_cases hjl:j3<nq
         ·obtain⟨x0,x1,x2,ld,-,hrl,hdr⟩:=HM.out wy (HB.out wy HR4.out.1).1
          obtain⟨b2,o2,rfl,-,hlk2,e1⟩:=(HQ.out.2.2.1.keep ((Keep.trans HFw.out HR4.out.1).weaken λ_ _ _=>trivial)).intAt hjl
          have hc16:=HQ.out.2.1.2.2.2 _ (List.getElem_mem hlk2)
          have hgd:lq.getD j3 0=lq[j3]:=by rw[List.getD_eq_getElem?_getD,List.getElem?_eq_getElem hlk2];rfl
          obtain⟨cN,hcN⟩:∃n:Nat,lq[j3]=(n:Int):=⟨(lq[j3]).toNat,by omega⟩
          rw[hcN] at e1 hc16 hgd
          have hcn16:cN<16:=by omega
          have a0:=hdr.ask hcn16 0 (by omega)
          rw[Nat.add_zero,←azAt_of] at a0
          replace a0:wy.cell? ⟨d,3+cN*6,none⟩=some (.bool (azAt az cN).1):=a0
          obtain⟨hb2,hhb2⟩:∃b,b=(azAt az cN).1:=⟨_,rfl⟩
          rw[←hhb2] at a0
          obtain⟨pl2,hpl2⟩:∃p,p=placeI lq (cN:Int):=⟨_,rfl⟩
          have HP2:Hid (∀wz,Fresh w5 wz→Calls Tryz.prog 155 #[.slice (some ⟨b2,o2,none⟩) nq cq,.int .i64 (cN:Int)] wz λe w'=>e=.returned (.int .i64 pl2)∧wz=w'):=hdz λwz hf=>by rw[hpl2];exact HPl.out wz hf _
          have lb3:=lt_of_cell e1
          have hji3:(j3:Int)<(nq:Int):=by omega
          have HS3:Hid (VLq az lq j3↔hb2=true∧(pl2==(j3:Int)+1)=true):=hdz (by
           constructor
           ·rintro ⟨h1,h2⟩
            rw[hgd] at h1 h2
            refine⟨by rw[hhb2];simpa using h1,by rw[hpl2,h2];simp⟩
           ·rintro ⟨h1,h2⟩
            refine⟨by rw[hgd];simpa[hhb2] using h1,by rw[hgd,←hpl2];simpa using h2⟩)
          clear hrl hdr hlk2 hc16 hgd hcN hhb2 hpl2 x0 x1 x2 u0 u1 u2
          have hno:∀kk:Nat,¬(hb2=true∧(pl2==(j3:Int)+1)=true)→VPost w ps ls tok az (.returned (.bool false)) (wy.drewN kk):=λkk h=>by
           refine vpost_no (λhv=>h (HS3.out.1 ?_)) ((HB.out wy HR4.out.1).1.drewN _)
           have h1:=hv.qs i (by rw[HA.out.2.1];exact hlt) j3 (by rw[←HQ.out.1];simp only;rw[←HQ.out.2.2.2];exact hjl)
           rw[←HQ.out.1] at h1
           exact h1
          have HNO:=hdz hno
          clear hno
          obtain⟨eb,heb⟩:∃b,(pl2==(j3:Int)+1)=b:=⟨_,rfl⟩
          rw[heb] at HS3 HNO
          cases hb2
          ·go_wp2_with fail
           go_quiet ((go_at_call 155;exact quiet_same (HP2.out _ (HR4.out.1.drewN _))))
           go_wp2_with fail
           go_ret
           exact HNO.out _ (λh=>by cases h.1)
          ·cases eb
           ·go_wp2_with fail
            go_quiet ((go_at_call 155;exact quiet_same (HP2.out _ (HR4.out.1.drewN _))))
            go_wp2_with fail
            go_ret
            exact HNO.out _ (λh=>by cases h.2)
           ·go_wp2_with fail
            go_quiet ((go_at_call 155;exact quiet_same (HP2.out _ (HR4.out.1.drewN _))))
            go_wp2_with fail
            refine⟨⟨j3+1,by omega,by simp,hdz ⟨HR4.out.1.drewN _,λk hk=>?_⟩⟩,by simp only[intOf];omega⟩
            rcases Nat.lt_or_ge k j3 with h1 | h1
            ·exact HR4.out.2 k h1
            ·obtain rfl:k=j3:=by omega
             exact HS3.out.2 (by simp)
         ·have HT4:Hid (∀k,k<nq→VLq az lq k):=hdz λk hk=>HR4.out.2 k (by omega)
          have HF4:=hdz HR4.out.1
          have hji3:¬(j3:Int)<(nq:Int):=by omega
          clear HR4 hjl hj3
          go_wp2_with fail
          refine⟨⟨i+1,by omega,by simp,hdz ⟨(HB.out _ HF4.out).1,λk hk=>?_⟩⟩,by simp only[intOf];omega⟩
          rcases Nat.lt_or_ge k i with h1 | h1
          ·exact HR.out.2 k h1
          ·obtain rfl:k=i:=by omega
           refine⟨HV.out,λj hj=>?_,λj hj=>?_⟩
           ·rw[←HQ.out.1]
            exact HT3.out j hj
           ·rw[←HQ.out.1] at hj ⊢
            exact HT4.out j (by rw[HQ.out.2.2.2];exact hj)
     ·have HV:Hid (¬VLk tok az ls i):=hdz λh=>by have:=HX.out.2.2 h;cases this
      go_wp2_with fail
      go_ret
      exact vpost_no (λhv=>HV.out (hv.lk i (by rw[HA.out.2.1];exact hlt))) (HB.out w6 HX.out.1).1
    ·obtain rfl:nl=i:=by omega
     have hL:Hid (∀k,k<nl→VLk tok az ls k∧(∀j,j<k→(lkAt ls j).token≠(lkAt ls k).token)∧∀j,j<(lkAt ls k).queue.length→VLq az (lkAt ls k).queue j):=hdz HR.out.2
     have HF:=hdz HR.out.1
     clear hrl hdr HR x0 x2 hlt
     go_wp2_with fail
     go_loopw [8] (λiv wx=>∃q:Nat,q≤16∧iv=.int .i64 (q:Int)∧Hid (wx=wq∧∀k,k<q→¬((azAt az k).1=true∧(azAt az k).2.last.code=10))) (λq _=>16 - (intOf q).toNat)
     case atStart=>exact⟨0,by omega,rfl,hdz ⟨rfl,λk hk=>by omega⟩⟩
     case round=>
      rename World=>wx
      obtain⟨q,hq,rfl,HR5⟩:=hrel
      obtain rfl:=HR5.out.1
      by_cases hq16:q<16
      ·obtain⟨-,-,-,ld,-,-,hdr⟩:=HM.out wx HF.out
       have hqi:(q:Int)<16:=by omega
       have a0:=hdr.ask hq16 0 (by omega)
       have a3:=hdr.ask hq16 3 (by omega)
       rw[Nat.add_zero,←azAt_of] at a0
       rw[←azAt_of] at a3
       replace a0:wx.cell? ⟨d,3+q*6,none⟩=some (.bool (azAt az q).1):=a0
       replace a3:wx.cell? ⟨d,3+q*6+3,none⟩=some (.int .i64 (azAt az q).2.last.code):=a3
       obtain⟨hb2,hhb2⟩:∃b,b=(azAt az q).1:=⟨_,rfl⟩
       obtain⟨cd,hcd⟩:∃b,b=(azAt az q).2.last.code:=⟨_,rfl⟩
       rw[←hhb2] at a0
       rw[←hcd] at a3
       obtain⟨eb,heb⟩:∃b,(cd==10)=b:=⟨_,rfl⟩
       have HS:Hid (((azAt az q).1=true∧(azAt az q).2.last.code=10)↔hb2=true∧eb=true):=hdz (by
        rw[←hhb2,←hcd,←heb]
        simp)
       clear hdr hhb2 hcd x1
       have hgo:¬(hb2=true∧eb=true)→∀k,k<q+1→¬((azAt az k).1=true∧(azAt az k).2.last.code=10):=λh k hk=>by
        rcases Nat.lt_or_ge k q with h1 | h1
        ·exact HR5.out.2 k h1
        ·obtain rfl:k=q:=by omega
         exact λh2=>h (HS.out.1 h2)
       have HGO:=hdz hgo
       clear hgo
       cases hb2
       ·go_wp2_with fail
        exact⟨⟨q+1,by omega,by simp,hdz ⟨by first | rfl | trivial,HGO.out (by simp)⟩⟩,by simp only[intOf];omega⟩
       ·cases eb
        ·go_wp2_with fail
         exact⟨⟨q+1,by omega,by simp,hdz ⟨by first | rfl | trivial,HGO.out (by simp)⟩⟩,by simp only[intOf];omega⟩
        ·go_wp2_with fail
         go_ret
         exact vpost_no (λhv=>hv.bad q hq16 (HS.out.2 (by simp))) HF.out
      ·have hqi:¬(q:Int)<16:=by omega
       have HB5:Hid (∀k,k<16→¬((azAt az k).1=true∧(azAt az k).2.last.code=10)):=hdz λk hk=>HR5.out.2 k (by omega)
       clear HR5 x1
       go_wp2_with fail
       go_ret
       refine⟨⟨true,rfl,λ_=>?_,λ_=>rfl⟩,HF.out⟩
       exact⟨hP.out,λk hk=>(hL.out k (by rw[←HA.out.2.1];exact hk)).1,λk hk=>(hL.out k (by rw[←HA.out.2.1];exact hk)).2.1,λk hk=>(hL.out k (by rw[←HA.out.2.1];exact hk)).2.2,HB5.out⟩
end
theorem azOf_len (l:List (Nat×SesD)):(azOf l).length=16:=by
 unfold azOf
 suffices h:∀ (l:List (Nat×SesD)) (az:List (Bool×SesD)),(l.foldl (λaz x=>az.set x.1 (true,x.2)) az).length=az.length by rw[h];simp
 intro l
 induction l with
 | nil=>intro az;rfl
 | cons x l ih=>intro az;rw[List.foldl_cons,ih,List.length_set]
theorem sesAt_cons (x:Nat×SesD) (l:List (Nat×SesD)) (q:Nat):sesAt (x::l) q=if x.1=q then x.2 else sesAt l q:=by
 unfold sesAt
 rw[List.find?_cons]
 by_cases h:x.1=q
 ·simp[h]
 ·have:(x.1==q)=false:=by simpa using h
  rw[this,if_neg h]
theorem sesAt_snoc:∀ (l:List (Nat×SesD)) (x:Nat×SesD) (q:Nat),(∀y∈l,y.1≠x.1)→sesAt (l++[x]) q=if x.1=q then x.2 else sesAt l q
 | [],x,q,_=>sesAt_cons x [] q
 | y::l,x,q,h=>by
  rw[List.cons_append,sesAt_cons,sesAt_cons,sesAt_snoc l x q λz hz=>h z (by simp[hz])]
  by_cases h1:y.1=q
  ·have h2:x.1≠q:=λe=>h y (by simp) (h1.trans e.symm)
   rw[if_pos h1,if_neg h2,if_pos h1]
  ·rw[if_neg h1,if_neg h1]
theorem azOf_at:∀ (k:Nat) (l:List (Nat×SesD)),l.length=k→l.Pairwise (λa b=>a.1<b.1)→(∀x∈l,1≤x.2.inc)→∀q,q<16→azAt (azOf l) q=(decide (0<(sesAt l q).inc),sesAt l q)
 | 0,l,hk,_,_,q,hq=>by
  obtain rfl:=List.length_eq_zero_iff.1 hk
  unfold azAt azOf
  simp only[List.foldl_nil]
  rw[List.getD_eq_getElem?_getD,List.getElem?_replicate,if_pos hq]
  rfl
 | k+1,l,hk,hp,hi,q,hq=>by
  obtain⟨m,x,rfl⟩:∃m x,l=m++[x]:=⟨l.dropLast,l.getLast (by intro h;rw[h] at hk;simp at hk),(List.dropLast_concat_getLast _).symm⟩
  have hm:m.length=k:=by simpa using hk
  have hp2:=List.pairwise_append.1 hp
  have hd:∀y∈m,y.1≠x.1:=λy hy=>by have:=hp2.2.2 y hy x (by simp);omega
  have ih:=azOf_at k m hm hp2.1 (λy hy=>hi y (by simp[hy])) q hq
  have hl:=azOf_len m
  rw[azOf_snoc,sesAt_snoc m x q hd]
  unfold azAt at ih ⊢
  rw[List.getD_eq_getElem?_getD] at ih ⊢
  rw[List.getElem?_set]
  by_cases h:x.1=q
  ·have:=hi x (by simp)
   rw[if_pos h,if_pos (by omega),if_pos h]
   have h0:decide (0<x.2.inc)=true:=decide_eq_true (by omega)
   rw[h0]
   rfl
  ·rw[if_neg h,if_neg h]
   exact ih
theorem azOf_all {l:List (Nat×SesD)} (hp:l.Pairwise (λa b=>a.1<b.1)) (hi:∀x∈l,1≤x.2.inc):azOf l=((List.range 16).map (sesAt l)).map λz=>(decide (0<z.inc),z):=by
 refine List.ext_getElem? λq=>?_
 by_cases hq:q<16
 ·have h1:=azOf_at l.length l rfl hp hi q hq
  rw[azAt_of (by rw[azOf_len];exact hq)] at h1
  rw[List.getElem?_eq_getElem (by rw[azOf_len];exact hq),h1]
  simp[hq]
 ·rw[List.getElem?_eq_none (by rw[azOf_len];omega),List.getElem?_eq_none (by simp;omega)]
theorem rise_next {l:List Txt}:(∀i (h:i+1<l.length),Op.bytesLess (l[i]'(by omega)) l[i+1]=true)→Rise l:=by
 induction l with
 | nil=>intro _;exact List.Pairwise.nil
 | cons a r ih=>
  intro h
  have hr:Rise r:=ih λi hi=>h (i+1) (by simpa using hi)
  refine List.pairwise_cons.2 ⟨λb hb=>?_,hr⟩
  cases r with
  | nil=>cases hb
  | cons c r=>
   have h0:=h 0 (by simp)
   rw[less_before] at h0
   rcases List.mem_cons.1 hb with rfl | h1
   ·exact h0
   ·exact before_trans h0 ((List.pairwise_cons.1 hr).1 b h1)
theorem next_rise {l:List Txt}(h:Rise l){i j:Nat}(hij:i<j)(hj:j<l.length):Op.bytesLess (l[i]'(by omega)) l[j]=true:=by
 rw[less_before]
 exact List.pairwise_iff_getElem.1 h i j (by omega) hj hij
theorem placeI_mem {q:List Int}{c:Int}:0<placeI q c↔c∈q:=by
 unfold placeI
 split
 ·rename_i h;exact⟨λ_=>h,λ_=>by omega⟩
 ·rename_i h;exact⟨λh=>absurd h (by omega),λh2=>absurd h2 h⟩
theorem nodup_place {q:List Int}:(∀j (h:j<q.length),placeI q q[j]=(j:Int)+1)↔q.Nodup:=by
 constructor
 ·intro h
  refine List.pairwise_iff_getElem.2 λi j hi hj hij e=>?_
  have h1:=h i (by omega)
  have h2:=h j hj
  rw[e,h2] at h1
  omega
 ·intro h j hj
  unfold placeI
  rw[if_pos (List.getElem_mem hj)]
  have hl:=List.idxOf_lt_length_of_mem (List.getElem_mem hj)
  have he:=List.getElem_idxOf hl
  have hp:=List.pairwise_iff_getElem.1 h
  rcases Nat.lt_trichotomy (q.idxOf q[j]) j with h1 | h1 | h1
  ·exact absurd he (hp _ _ hl hj h1)
  ·rw[h1]
  ·exact absurd he.symm (hp _ _ hj hl h1)
theorem valid_raw {r:RawD} (hg:rawGood r) (hr:RRead r):ValidD r.pairs r.locks (r.tok:Int) (azOf r.sess)↔RawOk r:=by
 have hp:=hg.2.2.2
 have hi:∀x∈r.sess,1≤x.2.inc:=λx hx=>(hg.2.2.1 x hx).1
 have haz:∀q,q<16→azAt (azOf r.sess) q=(decide (0<(sesAt r.sess q).inc),sesAt r.sess q):=λq hq=>azOf_at _ r.sess rfl hp hi q hq
 have hla:∀i (h:i<r.locks.length),lkAt r.locks i=r.locks[i]:=λi h=>by
  unfold lkAt
  rw[List.getD_eq_getElem?_getD,List.getElem?_eq_getElem h]
  rfl
 have hqd:∀ (q:List Int) j (h:j<q.length),q.getD j 0=q[j]:=λq j h=>by rw[List.getD_eq_getElem?_getD,List.getElem?_eq_getElem h];rfl
 constructor
 ·intro h
  refine⟨hg.1,rise_next λi hi=>?_,λl hl=>(hg.2.1 l hl).1,rise_next λi hi=>?_,λl hl=>?_,?_,λl hl=>?_,hp,λx hx=>?_,λc hc=>?_⟩
  ·rw[List.length_map] at hi
   have h1:=h.pr i hi
   rw[prAt_of (by omega),prAt_of hi] at h1
   simpa using h1
  ·rw[List.length_map] at hi
   have h1:=(h.lk (i+1) hi).nm (by omega)
   rw[Nat.add_sub_cancel,hla _ (by omega),hla _ hi] at h1
   simpa using h1
  ·obtain⟨i,hi,rfl⟩:=List.getElem_of_mem hl
   have h1:=(h.lk i hi).tk
   rw[hla _ hi] at h1
   have h2:=of_decide_eq_false h1
   exact⟨(hg.2.1 _ hl).2,by omega⟩
  ·refine List.pairwise_iff_getElem.2 λi j hi hj hij=>?_
   have h1:=h.ap j hj i hij
   rwa [hla _ hi,hla _ hj] at h1
  ·obtain⟨i,hi,rfl⟩:=List.getElem_of_mem hl
   have h1:=(h.lk i hi).hq
   rw[hla _ hi] at h1
   refine⟨nodup_place.1 λj hj=>?_,λhm=>?_⟩
   ·have h2:=(h.qs i hi j (by rw[hla _ hi];exact hj)).pl
    rwa [hla _ hi,hqd _ _ hj] at h2
   ·have:=placeI_mem.2 hm
    rw[decide_eq_true this] at h1
    cases h1
  ·have h1:=hg.2.2.1 x hx
   refine⟨h1.1,h1.2.1,h1.2.2,λe=>?_⟩
   have hx16:=(hr.s x hx).q
   refine h.bad x.1 hx16 ?_
   rw[haz _ hx16,sesAt_of hp hx]
   exact⟨decide_eq_true (by have:=h1.1;omega),e⟩
  ·obtain⟨l,hl,hc⟩:=hc
   obtain⟨i,hi,rfl⟩:=List.getElem_of_mem hl
   have hk:=hr.l _ hl
   rcases hc with rfl | hc
   ·have h1:=(h.lk i hi).ho
    rw[hla _ hi,haz _ (by have:=hk.h0;have:=hk.h1;omega)] at h1
    exact of_decide_eq_true h1
   ·obtain⟨j,hj,rfl⟩:=List.getElem_of_mem hc
    have h1:=(h.qs i hi j (by rw[hla _ hi];exact hj)).has
    rw[hla _ hi,hqd _ _ hj,haz _ (by have:=hk.q _ hc;omega)] at h1
    exact of_decide_eq_true h1
 ·intro h
  refine⟨λi hi=>?_,λi hi=>⟨λh0=>?_,?_,?_,?_⟩,λi hi j hj=>?_,λi hi j hj=>?_,λq hq=>?_⟩
  ·rw[prAt_of (by omega),prAt_of hi]
   have h1:=next_rise h.pr (i:=i) (j:=i+1) (by omega) (by rw[List.length_map];exact hi)
   simpa using h1
  ·rw[hla _ (by omega),hla _ hi]
   have h1:=next_rise h.lr (i:=i - 1) (j:=i) (by omega) (by rw[List.length_map];exact hi)
   simpa using h1
  ·rw[hla _ hi]
   exact decide_eq_false (by have:=(h.lt _ (List.getElem_mem hi)).2;omega)
  ·rw[hla _ hi]
   have hk:=hr.l _ (List.getElem_mem hi)
   rw[haz _ (by have:=hk.h0;have:=hk.h1;omega)]
   exact decide_eq_true (h.link _ ⟨_,List.getElem_mem hi,.inl rfl⟩)
  ·rw[hla _ hi]
   exact decide_eq_false λh1=>(h.lq _ (List.getElem_mem hi)).2 (placeI_mem.1 h1)
  ·rw[hla _ hi,hla _ (by omega)]
   exact List.pairwise_iff_getElem.1 h.la j i (by omega) hi hj
  ·rw[hla _ hi] at hj ⊢
   have hk:=hr.l _ (List.getElem_mem hi)
   have hm:=List.getElem_mem hj
   refine⟨?_,?_⟩
   ·rw[hqd _ _ hj,haz _ (by have:=hk.q _ hm;omega)]
    exact decide_eq_true (h.link _ ⟨_,List.getElem_mem hi,.inr hm⟩)
   ·rw[hqd _ _ hj]
    exact nodup_place.2 (h.lq _ (List.getElem_mem hi)).1 j hj
  ·rw[haz _ hq]
   rintro ⟨h1,h2⟩
   by_cases hx:∃x∈r.sess,x.1=q
   ·obtain⟨x,hx,rfl⟩:=hx
    simp only at h2
    rw[sesAt_of hp hx] at h2
    exact (h.s1 x hx).2.2.2 h2
   ·simp only at h1
    rw[sesAt_none λx hx2 e=>hx ⟨x,hx2,e⟩] at h1
    cases h1
theorem raw_isgood {r:RawD}(h:RawOk r):rawGood r:=⟨h.pn,λl hl=>⟨h.ln l hl,(h.lt l hl).1⟩,λx hx=>⟨(h.s1 x hx).1,(h.s1 x hx).2.1,(h.s1 x hx).2.2.1⟩,h.sr⟩
theorem i64_xor_nat (a b:Nat)(ha:a<4294967296)(hb:b<4294967296):bits .xor .i64 (a:Int) (b:Int)=((a ^^^ b:Nat):Int):=by
 have hx:a ^^^ b<2 ^ 32:=Nat.xor_lt_two_pow (by omega) (by omega)
 show IntKind.i64.wrap ((BitVec.ofInt 64 (a:Int) ^^^ BitVec.ofInt 64 (b:Int)).toNat:Int)=_
 rw[BitVec.toNat_xor,BitVec.ofInt_natCast,BitVec.ofInt_natCast,BitVec.toNat_ofNat,BitVec.toNat_ofNat,Nat.mod_eq_of_lt (by omega),Nat.mod_eq_of_lt (by omega),IntKind.wrap_i64]
 omega
def bitN:Nat→Nat→Nat
 | 0,w=>w
 | j+1,w=>bitStep (bitN j w)
theorem bitN_lt {w:Nat}(h:w<4294967296):∀j,bitN j w<4294967296
 | 0=>h
 | j+1=>bitStep_lt (bitN_lt h j)
theorem crc_step (bs:List UInt8)(k:Nat)(hk:k<bs.length):crcAt (bs.take (k+1))=bitN 8 (crcAt (bs.take k) ^^^ bs[k].toNat):=by
 rw[List.take_succ_eq_append_getElem hk,crcAt_snoc]
 rfl
theorem dsum_any (Z:Nat→Prop) (A:Option Addr) (n c:Nat) (bs:List UInt8) (w:World) (hb:Rd w Z 1 A n (Lib.byteCells bs)) (hn:n≤1099511627770) :
 Calls Tryz.prog 131 #[.slice A n c] w λe w'=>e=.returned (.int .i64 (crcB bs:Int))∧w=w':=by
 have HB:=hdz hb
 have hlen:bs.length=n:=by simpa[Lib.byteCells] using hb.1
 have HN:=hdz hlen
 clear hb hlen
 go_enter Tryz.func131,Tryz.ntmps131
 go_wp2_with fail
 go_loopw [3,4] (λv i wr=>∃ (k x:Nat),k≤n∧i=.int .i64 (k:Int)∧v=.int .i64 (x:Int)∧wr=w∧Hid (x=crcAt (bs.take k))) (λ_ i _=>n - (intOf i).toNat)
 case atStart=>exact⟨0,4294967295,by omega,rfl,rfl,rfl,rfl⟩
 case round=>
  rename World=>wr
  obtain⟨k,x,hk,rfl,rfl,rfl,HR⟩:=hrel
  by_cases hin:k<n
  ·obtain⟨b,o,rfl,hzb,hll,hcell⟩:=HB.out.at1 hin
   have hkb:k<bs.length:=by rw[HN.out];exact hin
   rw[show (Lib.byteCells bs)[k]=.int .u8 (bs[k].toNat:Int) by simp[Lib.byteCells]] at hcell
   have hx32:x<4294967296:=HR.out ▸ crcAt_lt _
   obtain⟨ch,hch⟩:∃ch:Nat,ch=bs[k].toNat:=⟨_,rfl⟩
   have hc:ch<256:=hch ▸ bs[k].toNat_lt
   rw[←hch] at hcell
   have hE:=crc_step bs k hkb
   rw[←HR.out,←hch] at hE
   obtain⟨y,hy⟩:=exz (x ^^^ ch)
   have X1:bits BinOp.xor IntKind.i64 (x:Int) (ch:Int)=(y:Int):=by rw[i64_xor_nat x ch hx32 (by omega),hy]
   have hy32:y<4294967296:=hy ▸ xor_lt32 hx32 (by omega)
   rw[←hy] at hE
   have HE:=hdz hE
   have HY:=hdz hy32
   have hki:(k:Int)<(n:Int):=by omega
   have lb:=lt_of_cell hcell
   clear hE hch HR hzb hll hkb hy hy32
   go_wp2_with fail
   go_loopw [3,5] (λv i wq=>∃ (j z:Nat),j≤8∧i=.int .i64 (j:Int)∧v=.int .i64 (z:Int)∧wq=wr∧Hid (z=bitN j y)) (λ_ i _=>8 - (intOf i).toNat)
   case atStart=>exact⟨0,y,by omega,rfl,rfl,rfl,rfl⟩
   case round=>
    rename World=>wq
    obtain⟨j,z,hj,rfl,rfl,rfl,HZ⟩:=hrel
    have hz32:z<4294967296:=HZ.out ▸ bitN_lt HY.out j
    by_cases hj8:j<8
    ·have hji:(j:Int)<8:=by omega
     have hz0:(0:Int)≤(z:Int):=by omega
     obtain⟨z2,hz2⟩:=exz (bitStep z)
     have HZ2:Hid (z2=bitN (j+1) y):=hdz (by rw[hz2,HZ.out];rfl)
     by_cases hl:z % 2=1
     ·have hl2:(z:Int) % 2=1:=by omega
      have X2:bits BinOp.xor IntKind.i64 ((z:Int) / 2) 3988292384=(z2:Int):=by
       rw[show (z:Int) / 2=((z / 2:Nat):Int) by omega,show (3988292384:Int)=((3988292384:Nat):Int) from rfl,i64_xor_nat (z / 2) 3988292384 (by omega) (by decide),hz2]
       unfold bitStep
       rw[if_pos hl]
       rfl
      clear hz2 HZ
      go_wp2_with fail
      exact⟨⟨j+1,z2,by omega,by simp,by first | rfl | trivial,by first | rfl | trivial,HZ2⟩,by simp only[intOf];omega⟩
     ·have hl2:(z:Int) % 2=0:=by omega
      have hz3:z2=z / 2:=by rw[hz2];unfold bitStep;rw[if_neg hl]
      clear hz2 HZ
      go_wp2_with fail
      exact⟨⟨j+1,z2,by omega,by simp,by rw[hz3];simp,by first | rfl | trivial,HZ2⟩,by simp only[intOf];omega⟩
    ·obtain rfl:j=8:=by omega
     go_wp2_with fail
     exact⟨⟨k+1,z,by omega,by simp,by first | rfl | trivial,by first | rfl | trivial,hdz (by rw[HE.out];exact HZ.out)⟩,by simp only[intOf];omega⟩
  ·obtain rfl:n=k:=by omega
   have hx32:x<4294967296:=HR.out ▸ crcAt_lt _
   have hC:crcB bs=x ^^^ 4294967295:=by
    have h1:=HR.out
    rw[List.take_of_length_le (by rw[HN.out];exact lrz _)] at h1
    rw[h1]
    rfl
   have X3:bits BinOp.xor IntKind.i64 (x:Int) 4294967295=(crcB bs:Int):=by
    rw[show (4294967295:Int)=((4294967295:Nat):Int) from rfl,i64_xor_nat x 4294967295 hx32 (by decide),hC]
   clear hC
   go_wp2_with fail
   go_ret
   exact⟨rfl,rfl⟩
def shr (s j:Nat):Nat:=s / 256 ^ j
theorem shr_zero (s:Nat):shr s 0=s:=by simp[shr]
theorem shr_succ (s j:Nat):shr s (j+1)=shr s j / 256:=by unfold shr;rw[Nat.pow_succ,Nat.div_div_eq_div_mul]
def sumTo (s j:Nat):List UInt8:=(List.range j).map λi=>UInt8.ofNat (shr s i % 256)
theorem sumTo_succ (s j:Nat):sumTo s (j+1)=sumTo s j++[UInt8.ofNat (shr s j % 256)]:=by
 unfold sumTo
 rw[List.range_succ,List.map_append]
 rfl
theorem sumTo_four (bs:List UInt8):sumTo (crcB bs) 4=sumB bs:=by
 unfold sumTo sumB shr
 simp[List.range_succ]
theorem dsealed_any (base:Nat) (v:Value) (bs:List UInt8) (w:World) (hown:w.ownsRow base 5 1 v bs.length (Lib.byteCells bs)) (hn:bs.length≤1099511627000) (hbase:base≤w.heap.size) :
 Calls Tryz.prog 95 #[v] w λe w'=>(∃u,e=.returned u∧w'.ownsRow base 5 1 u (bs++sumB bs).length (Lib.byteCells (bs++sumB bs)))∧Keep (λk=>v.ownBlock≠some k) w w':=by
 obtain⟨n,hnl⟩:=exz (bs.length)
 obtain⟨A,c,rfl,hrd,-⟩:=own_rd hown
 rw[←hnl] at hown hrd hn ⊢
 obtain⟨sm,hsm⟩:∃s,s=crcB bs:=⟨_,rfl⟩
 have hlt:=crcB_lt bs
 rw[←hsm] at hlt
 have hS:=dsum_any _ A n c bs w hrd (by omega)
 rw[←hsm] at hS
 have HS:=hdz hS
 have HA:=hdz (aiz hown (aiz hsm (aiz hnl (aiz hbase hn))))
 have HLt:=hdz hlt
 clear hown hrd hsm hnl hS hbase hlt hn
 go_enter Tryz.func95,Tryz.ntmps95
 go_wp2_with fail
 refine Calls.mono HS.out ?_
 rintro e _ ⟨rfl,rfl⟩
 go_wp2_with fail
 go_loopw [0,3,4] (λv s i wr=>∃ (j x:Nat),j≤4∧i=.int .i64 (j:Int)∧s=.int .i64 (x:Int)∧Hid (x=shr sm j∧wr.ownsRow base 5 1 v (n+j) (Lib.byteCells (bs++sumTo sm j))∧Keep (λk=>(Value.slice A n c).ownBlock≠some k) w wr∧Next w.heap.size (.slice A n c) v)) (λ_ _ i _=>4 - (intOf i).toNat)
 case atStart=>exact⟨0,sm,by omega,rfl,rfl,hdz ⟨(shr_zero sm).symm,by simpa[sumTo] using HA.out.1,krz _ _,Next.refl _ _⟩⟩
 case round=>
  rename World=>wr
  obtain⟨j,x,hj,rfl,rfl,HR⟩:=hrel
  have hx32:x<4294967296:=by
   rw[HR.out.1]
   exact Nat.lt_of_le_of_lt (Nat.div_le_self _ _) HLt.out
  by_cases hj4:j<4
  ·have hji:(j:Int)<4:=by omega
   have hx0:(0:Int)≤(x:Int):=by omega
   have HN5:Hid (n+j+1≤1099511627005):=hdz (by have:=HA.out.2.2.2.2;omega)
   go_wp2_with (at_builtin;refine wpList_app1 etU8 rfl (.tmp 11) (.tmp 15) rfl (.int .u8 ((x:Int) % 256)) _ rfl base _ (n+j) _ rfl rfl HR.out.2.1 (by have:=HN5.out;omega) (lez HA.out.2.2.2.1 HR.out.2.2.1.size) ?_)
   intro v5 w5 ho5 hk5 hn5
   have h5:w5.ownsRow base 5 1 v5 (n+(j+1)) (Lib.byteCells (bs++sumTo sm (j+1)))∧Keep (λk=>(Value.slice A n c).ownBlock≠some k) w w5∧Next w.heap.size (.slice A n c) v5:=by
    refine⟨?_,HR.out.2.2.1.next hk5 HR.out.2.2.2,HR.out.2.2.2.trans hn5 HR.out.2.2.1.size⟩
    have e:Lib.byteCells (bs++sumTo sm (j+1))=Lib.byteCells (bs++sumTo sm j)++[.int .u8 ((x:Int) % 256)]:=by
     rw[sumTo_succ,←List.append_assoc,Lib.byteCells_append (bs++sumTo sm j)]
     congr 1
     have h1:(UInt8.ofNat (x % 256)).toNat=x % 256:=by simp
     simp only[Lib.byteCells,List.map_cons,List.map_nil]
     rw[←HR.out.1,h1]
     congr 2
    rw[e]
    simpa[Nat.add_assoc] using ho5
   have H5:=hdz h5
   clear ho5 hk5 hn5 h5
   go_wp2_with fail
   exact⟨⟨j+1,x / 256,by omega,by simp,by simp,hdz ⟨by rw[shr_succ,HR.out.1],H5.out⟩⟩,by simp only[intOf];omega⟩
  ·obtain rfl:j=4:=by omega
   go_wp2_with fail
   go_ret
   have h1:=HR.out.2.1
   rw[HA.out.2.1,sumTo_four] at h1
   refine⟨⟨_,rfl,?_⟩,HR.out.2.2.1⟩
   rw[lapz,←HA.out.2.2.1]
   exact h1
theorem sumB_at (bs ts:List UInt8)(h4:ts.length=4):ts=sumB bs↔(ts[0]'(by omega)).toNat+256*(ts[1]'(by omega)).toNat+65536*(ts[2]'(by omega)).toNat+16777216*(ts[3]'(by omega)).toNat=crcB bs:=by
 obtain⟨a,b,c,d,rfl⟩:=four_of h4
 exact sumB_iff bs a b c d
end Go.Proofs.YtlibhkehebioeaaGreatDoor
