/- A PART OF THE PROOF. No condition. -/
import Derived.Test.YtlibhkehebioeaaGreatDoorP11
namespace Go.Proofs.YtlibhkehebioeaaGreatDoor
set_option linter.unusedVariables false
set_option linter.unusedSimpArgs false
set_option maxRecDepth 100000
set_option maxHeartbeats 40000000
open Go.RowKit
structure GAt (W0 w1 wr:World)(g o:Nat)(cs:Array Value)(va vb vc:Value)(la:List (Txt×Txt))(lb:List (Int×Int))(lc:List Txt)(a b c:Nat)(mk:Int)(ja jb jc:Nat)(Ga Gb Gc:Value):Prop where
 bk:Blk wr g 129 (set3 cs o Ga Gb Gc)
 ga:GrowAt w1 wr W0.heap.size 71 2 va Ga a ja (pcells la) (pcells (tails fullP mk ja))
 gb:GrowAt w1 wr W0.heap.size 115 2 vb Gb b jb (wcells lb) (wcells (tails fullW mk jb))
 gc:GrowAt w1 wr W0.heap.size 9 1 vc Gc c jc (lc.map str) ((tails wordT mk jc).map str)
 kp:Keep (λk=>k≠g∧va.ownBlock≠some k∧vb.ownBlock≠some k∧vc.ownBlock≠some k) w1 wr
 base:W0.heap.size≤wr.heap.size
 la0:∀k,va.ownBlock=some k→k<w1.heap.size
 lb0:∀k,vb.ownBlock=some k→k<w1.heap.size
 lc0:∀k,vc.ownBlock=some k→k<w1.heap.size
section
variable {W0 w1 wr w' w2:World}{g o:Nat}{cs:Array Value}{va vb vc Ga Gb Gc G':Value}{la:List (Txt×Txt)}{lb:List (Int×Int)}{lc:List Txt}{a b c ja jb jc:Nat}{mk:Int}
theorem GAt.fresh (h:GAt W0 w1 wr g o cs va vb vc la lb lc a b c mk ja jb jc Ga Gb Gc)(hf:Fresh wr w'):GAt W0 w1 w' g o cs va vb vc la lb lc a b c mk ja jb jc Ga Gb Gc:=
 ⟨h.bk.keep hf trivial,h.ga.keep hf (λ_ _=>trivial) (λ_ _=>trivial),h.gb.keep hf (λ_ _=>trivial) (λ_ _=>trivial),h.gc.keep hf (λ_ _=>trivial) (λ_ _=>trivial),h.kp.comp hf (λ_ _ h=>h) (λ_ _ _=>trivial),lez h.base hf.size,h.la0,h.lb0,h.lc0⟩
theorem GAt.blkA (h:GAt W0 w1 wr g o cs va vb vc la lb lc a b c mk ja jb jc Ga Gb Gc)(hk:Keep (λi=>Ga.ownBlock≠some i) wr w'):Blk w' g 129 (set3 cs o Ga Gb Gc):=h.bk.keep hk (own_ne_blk h.ga.long h.bk (by decide))
theorem GAt.blkB (h:GAt W0 w1 wr g o cs va vb vc la lb lc a b c mk ja jb jc Ga Gb Gc)(hk:Keep (λi=>Gb.ownBlock≠some i) wr w'):Blk w' g 129 (set3 cs o Ga Gb Gc):=h.bk.keep hk (own_ne_blk h.gb.long h.bk (by decide))
theorem GAt.blkC (h:GAt W0 w1 wr g o cs va vb vc la lb lc a b c mk ja jb jc Ga Gb Gc)(hk:Keep (λi=>Gc.ownBlock≠some i) wr w'):Blk w' g 129 (set3 cs o Ga Gb Gc):=h.bk.keep hk (own_ne_blk h.gc.long h.bk (by decide))
theorem set_far {w2:World}{e:TypeId}{k n j:Nat}{v G u:Value}{xs ys:List Value}{B:Nat}{t:TypeId}{cs:Array Value}{i:Nat}(h:GrowAt w1 w2 B e k v G n j xs ys)(hb:Blk w2 g t cs)(hne:e≠t):GrowAt w1 (w2.setCell ⟨g,i,none⟩ u) B e k v G n j xs ys:=
 ⟨own_far h.own (own_ne_blk h.own hb hne) _,own_far h.long (own_ne_blk h.long hb hne) _,h.rel⟩
theorem GAt.stepA (h:GAt W0 w1 wr g o cs va vb vc la lb lc a b c mk ja jb jc Ga Gb Gc){tx:Txt}(ho:w2.ownsRow W0.heap.size 71 2 G' (a+ja+1) (pcells la++pcells (tails fullP mk ja)++[str tx,str []]))(htx:tx=wordT (-mk - (ja:Int)))(hk:Keep (λi=>Ga.ownBlock≠some i) wr w2)
 (hr:(∃g cp,Ga=.slice (some ⟨g,0,none⟩) (a+ja) cp∧G'=.slice (some ⟨g,0,none⟩) (a+ja+1) cp)∨(G'.ownBlock=some wr.heap.size∧Fresh wr w2)):GAt W0 w1 (w2.setCell ⟨g,o+1,none⟩ G') g o cs va vb vc la lb lc a b c mk (ja+1) (jb) (jc) (G') (Gb) (Gc):=by
 have hb:=h.blkA hk
 have ey:pcells (tails fullP mk ja)++[str tx,str []]=pcells (tails fullP mk (ja+1)):=by rw[tails_succ];simp[pcells,rcells_append,rcells_cons,rcells_nil,pairC,fullP,htx]
 have hn:=h.ga.next h.la0 h.kp.size 1 ho hk hr
 rw[ey] at hn
 have hb2:=h.gb.keep hk (λi hi e=>own_ne_own2 h.gb.own h.ga.long (by decide) hi e) (λi hi e=>own_ne_own2 h.gb.long h.ga.long (by decide) hi e)
 have hc:=h.gc.keep hk (λi hi e=>own_ne_own2 h.gc.own h.ga.long (by decide) hi e) (λi hi e=>own_ne_own2 h.gc.long h.ga.long (by decide) hi e)
 have h3:=hb.set (o+1) G'
 rw[set3_1] at h3
 refine⟨h3,set_far hn hb (by decide),set_far hb2 hb (by decide),set_far hc hb (by decide),?_,lez h.base (by have:=hk.size;simpa[World.setCell] using this),h.la0,h.lb0,h.lc0⟩
 refine (h.kp.comp hk (λ_ _ h=>h) λi hi hz e=>?_).setCell (λ_ h=>h.1 rfl) _
 rcases h.ga.where e with h1 | h1
 ·exact hz.2.1 h1
 ·omega
theorem GAt.stepB (h:GAt W0 w1 wr g o cs va vb vc la lb lc a b c mk ja jb jc Ga Gb Gc)  (ho:w2.ownsRow W0.heap.size 115 2 G' (b+jb+1) (wcells lb++wcells (tails fullW mk jb)++[.int .i64 (-mk - (jb:Int)),.int .i64 0]))(htx:True)(hk:Keep (λi=>Gb.ownBlock≠some i) wr w2)
 (hr:(∃g cp,Gb=.slice (some ⟨g,0,none⟩) (b+jb) cp∧G'=.slice (some ⟨g,0,none⟩) (b+jb+1) cp)∨(G'.ownBlock=some wr.heap.size∧Fresh wr w2)):GAt W0 w1 (w2.setCell ⟨g,o+4,none⟩ G') g o cs va vb vc la lb lc a b c mk (ja) (jb+1) (jc) (Ga) (G') (Gc):=by
 have hb:=h.blkB hk
 have ey:wcells (tails fullW mk jb)++[.int .i64 (-mk - (jb:Int)),.int .i64 0]=wcells (tails fullW mk (jb+1)):=by rw[tails_succ];simp[wcells,rcells_append,rcells_cons,rcells_nil,waitC,fullW]
 have hn:=h.gb.next h.lb0 h.kp.size 1 ho hk hr
 rw[ey] at hn
 have ha:=h.ga.keep hk (λi hi e=>own_ne_own2 h.ga.own h.gb.long (by decide) hi e) (λi hi e=>own_ne_own2 h.ga.long h.gb.long (by decide) hi e)
 have hc:=h.gc.keep hk (λi hi e=>own_ne_own2 h.gc.own h.gb.long (by decide) hi e) (λi hi e=>own_ne_own2 h.gc.long h.gb.long (by decide) hi e)
 have h3:=hb.set (o+4) G'
 rw[set3_4] at h3
 refine⟨h3,set_far ha hb (by decide),set_far hn hb (by decide),set_far hc hb (by decide),?_,lez h.base (by have:=hk.size;simpa[World.setCell] using this),h.la0,h.lb0,h.lc0⟩
 refine (h.kp.comp hk (λ_ _ h=>h) λi hi hz e=>?_).setCell (λ_ h=>h.1 rfl) _
 rcases h.gb.where e with h1 | h1
 ·exact hz.2.2.1 h1
 ·omega
theorem GAt.stepC (h:GAt W0 w1 wr g o cs va vb vc la lb lc a b c mk ja jb jc Ga Gb Gc){tx:Txt}(ho:w2.ownsRow W0.heap.size 9 1 G' (c+jc+1) (lc.map str++(tails wordT mk jc).map str++[str tx]))(htx:tx=wordT (-mk - (jc:Int)))(hk:Keep (λi=>Gc.ownBlock≠some i) wr w2)
 (hr:(∃g cp,Gc=.slice (some ⟨g,0,none⟩) (c+jc) cp∧G'=.slice (some ⟨g,0,none⟩) (c+jc+1) cp)∨(G'.ownBlock=some wr.heap.size∧Fresh wr w2)):GAt W0 w1 (w2.setCell ⟨g,o+7,none⟩ G') g o cs va vb vc la lb lc a b c mk (ja) (jb) (jc+1) (Ga) (Gb) (G'):=by
 have hb:=h.blkC hk
 have ey:(tails wordT mk jc).map str++[str tx]=(tails wordT mk (jc+1)).map str:=by rw[tails_succ];simp[htx]
 have hn:=h.gc.next h.lc0 h.kp.size 1 ho hk hr
 rw[ey] at hn
 have ha:=h.ga.keep hk (λi hi e=>own_ne_own2 h.ga.own h.gc.long (by decide) hi e) (λi hi e=>own_ne_own2 h.ga.long h.gc.long (by decide) hi e)
 have hb2:=h.gb.keep hk (λi hi e=>own_ne_own2 h.gb.own h.gc.long (by decide) hi e) (λi hi e=>own_ne_own2 h.gb.long h.gc.long (by decide) hi e)
 have h3:=hb.set (o+7) G'
 rw[set3_7] at h3
 refine⟨h3,set_far ha hb (by decide),set_far hb2 hb (by decide),set_far hn hb (by decide),?_,lez h.base (by have:=hk.size;simpa[World.setCell] using this),h.la0,h.lb0,h.lc0⟩
 refine (h.kp.comp hk (λ_ _ h=>h) λi hi hz e=>?_).setCell (λ_ h=>h.1 rfl) _
 rcases h.gc.where e with h1 | h1
 ·exact hz.2.2.2 h1
 ·omega
end
theorem pgrow_any {W0 w:World} (hT:TabsN W0) (hW:Fresh W0 w) {g o:Nat} {cs:Array Value} {mk:Int} {va vb vc:Value} {la:List (Txt×Txt)} {lb:List (Int×Int)} {lc:List Txt}
 (hb:Blk w g 129 cs) (hsz:o+11≤cs.size) (h0:cs[o]?=some va) (h3:cs[o+3]?=some vb) (h6:cs[o+6]?=some vc) (h9:cs[o+9]?=some (.int .i64 mk)) (hg0:W0.heap.size≤g)
 (ha:w.ownsRow W0.heap.size 71 2 va la.length (pcells la)) (hbb:w.ownsRow W0.heap.size 115 2 vb lb.length (wcells lb)) (hc:w.ownsRow W0.heap.size 9 1 vc lc.length (lc.map str))
 (na:la.length≤1000) (nb:lb.length≤1000) (nc:lc.length≤1000) (hm0:1000≤mk) (hm1:mk≤100000) :
 Calls Tryz.prog 63 #[.pointer (some ⟨g,o,none⟩)] w λe w'=>e=.returned (.tuple #[])∧∃w1 Ga Gb Gc,w1.heap.size=w.heap.size∧Keep (λk=>k≠g) w w1∧GAt W0 w1 w' g o cs va vb vc la lb lc la.length lb.length lc.length mk 64 64 64 Ga Gb Gc:=by
 obtain⟨Aa,ca,rfl⟩:=own_form0 ha
 obtain⟨Ab,cb,rfl⟩:=own_form0 hbb
 obtain⟨Ac,cc,rfl⟩:=own_form0 hc
 obtain⟨a,han⟩:∃n,n=la.length:=⟨_,rfl⟩
 obtain⟨b,hbn⟩:∃n,n=lb.length:=⟨_,rfl⟩
 obtain⟨c,hcn⟩:∃n,n=lc.length:=⟨_,rfl⟩
 rw[←han] at ha na h0 ⊢
 rw[←hbn] at hbb nb h3 ⊢
 rw[←hcn] at hc nc h6 ⊢
 obtain⟨w1,hw1⟩:=exz (((w.setCell ⟨g,o+1,none⟩ (.slice Aa a ca)).setCell ⟨g,o+4,none⟩ (.slice Ab b cb)).setCell ⟨g,o+7,none⟩ (.slice Ac c cc))
 have hs1:w1.heap.size=w.heap.size:=by rw[hw1];simp[World.setCell]
 have hk1:Keep (λk=>k≠g) w w1:=by rw[hw1];exact (((krz _ w).setCell (λ_ h=>h rfl) _).setCell (λ_ h=>h rfl) _).setCell (λ_ h=>h rfl) _
 have hb1:Blk w1 g 129 (set3 cs o (.slice Aa a ca) (.slice Ab b cb) (.slice Ac c cc)):=by rw[hw1];exact ((hb.set _ _).set _ _).set _ _
 have nga:=own_ne_blk ha hb (by decide)
 have ngb:=own_ne_blk hbb hb (by decide)
 have ngc:=own_ne_blk hc hb (by decide)
 have hstart:GAt W0 w1 w1 g o cs (.slice Aa a ca) (.slice Ab b cb) (.slice Ac c cc) la lb lc a b c mk 0 0 0 (.slice Aa a ca) (.slice Ab b cb) (.slice Ac c cc):=
  ⟨hb1,GrowAt.start (own_keep ha hk1 λk e e2=>nga (e2 ▸ e)),GrowAt.start (own_keep hbb hk1 λk e e2=>ngb (e2 ▸ e)),GrowAt.start (own_keep hc hk1 λk e e2=>ngc (e2 ▸ e)),krz _ _,by rw[hs1];exact hW.size,λk e=>by rw[hs1];exact (own_lt ha e).2,λk e=>by rw[hs1];exact (own_lt hbb e).2,λk e=>by rw[hs1];exact (own_lt hc e).2⟩
 have hZ:∀wx,Keep (λk=>k≠g∧(Value.slice Aa a ca).ownBlock≠some k∧(Value.slice Ab b cb).ownBlock≠some k∧(Value.slice Ac c cc).ownBlock≠some k) w1 wx→Tabs wx:=λwx hk=>(hT.fresh ((hW.comp hk1 (λ_ _ _=>trivial) (λi hi _=>by omega)).comp hk (λ_ _ _=>trivial) λi hi _=>⟨by omega,λe=>by have:=(own_lt ha e).1;omega,λe=>by have:=(own_lt hbb e).1;omega,λe=>by have:=(own_lt hc e).1;omega⟩)).t
 have x0:=(hb.cell o).trans h0
 have x3:=(hb.cell (o+3)).trans h3
 have x6:=(hb.cell (o+6)).trans h6
 have x9:=(hb.cell (o+9)).trans h9
 have f1:=hb.frozen (o+1)
 have f4:=hb.frozen (o+4)
 have f7:=hb.frozen (o+7)
 have u1:∃u,w.cell? ⟨g,o+1,none⟩=some u:=⟨_,(hb.cell (o+1)).trans (Array.getElem?_eq_getElem (by omega))⟩
 have u4:∃u,w.cell? ⟨g,o+4,none⟩=some u:=⟨_,(hb.cell (o+4)).trans (Array.getElem?_eq_getElem (by omega))⟩
 have u7:∃u,w.cell? ⟨g,o+7,none⟩=some u:=⟨_,(hb.cell (o+7)).trans (Array.getElem?_eq_getElem (by omega))⟩
 obtain⟨q1,u1⟩:=u1
 obtain⟨q4,u4⟩:=u4
 obtain⟨q7,u7⟩:=u7
 have lg:=hb.lt
 have HY1:Hid (∀wx Ga Gb Gc,Blk wx g 129 (set3 cs o Ga Gb Gc)→(wx.cell? ⟨g,o+1,none⟩=some Ga∧wx.cell? ⟨g,o+4,none⟩=some Gb∧wx.cell? ⟨g,o+7,none⟩=some Gc∧wx.cell? ⟨g,o+9,none⟩=some (.int .i64 mk))∧(∀i,wx.frozen? ⟨g,i,none⟩=false)∧g<wx.heap.size):=hdz λwx Ga Gb Gc h=>by
  obtain⟨e1,e2,e3⟩:=set3_at (cs:=cs) (o:=o) (a:=Ga) (b:=Gb) (c:=Gc) (by omega)
  exact⟨⟨(h.cell _).trans e1,(h.cell _).trans e2,(h.cell _).trans e3,(h.cell _).trans ((set3_far (by omega) (by omega) (by omega)).trans h9)⟩,λi=>h.frozen i,h.lt⟩
 have H0:=hdz hstart
 have HS1:=hdz (aiz hs1 hk1)
 have HW1:=hdz hw1
 have HZ:=hdz hZ
 clear hT hW hb h0 h3 h6 h9 hg0 ha hbb hc han hbn hcn nga ngb ngc hstart hZ hs1 hk1 hb1 hw1 hsz
 go_enter Tryz.func63,Tryz.ntmps63
 go_upto_region 3 with (fail)
 rw[←HW1.out]
 clear x0 x3 x6 x9 f1 f4 f7 u1 u4 u7 lg HW1
 go_wp2_with fail
 go_loopw [2] (λi wr=>∃j:Nat,j≤64∧i=.int .i64 (j:Int)∧Hid (∃Ga Gb Gc,GAt W0 w1 wr g o cs (.slice Aa a ca) (.slice Ab b cb) (.slice Ac c cc) la lb lc a b c mk j j j Ga Gb Gc)) (λi _=>64 - (intOf i).toNat)
 case atStart=>exact⟨0,Nat.zero_le _,rfl,hdz ⟨_,_,_,H0.out⟩⟩
 case round=>
  rename World=>wr
  obtain⟨j,hj,rfl,HR0⟩:=hrel
  by_cases hlt:j<64
  ·have hji:(j:Int)<64:=by omega
   have hwr0:IntKind.i64.wrap (-mk) = -mk:=by rw[IntKind.wrap_i64];omega
   have hwr1:IntKind.i64.wrap (-mk - (j:Int)) = -mk - (j:Int):=by rw[IntKind.wrap_i64];omega
   obtain⟨Ga,Gb,Gc,hR⟩:=HR0.out
   have HR:=hdz hR
   clear hR HR0
   obtain⟨A2,c2,rfl⟩:∃A2 c2,Ga=.slice A2 (a+j) c2:=own_form0 HR.out.ga.long
   have HY:Hid (∀wx,Fresh wr wx→wx.cell? ⟨g,o+1,none⟩=some (.slice A2 (a+j) c2)∧wx.cell? ⟨g,o+9,none⟩=some (.int .i64 mk)∧g<wx.heap.size):=hdz λwx hf=>by
    have h1:=HY1.out wx _ _ _ (HR.out.bk.keep hf trivial)
    exact⟨h1.1.1,h1.1.2.2.2,h1.2.2⟩
   have HY3:Hid (∀wx,Blk wx g 129 (set3 cs o (.slice A2 (a+j) c2) Gb Gc)→wx.cell? ⟨g,o+1,none⟩=some (.slice A2 (a+j) c2)∧wx.cell? ⟨g,o+9,none⟩=some (.int .i64 mk)∧wx.frozen? ⟨g,o+1,none⟩=false∧g<wx.heap.size):=hdz λwx hb=>by
    have h1:=HY1.out wx _ _ _ hb
    exact⟨h1.1.1,h1.1.2.2.2,h1.2.1 _,h1.2.2⟩
   have HY4:Hid (∀wx {G9:Value},GAt W0 w1 wx g o cs (.slice Aa a ca) (.slice Ab b cb) (.slice Ac c cc) la lb lc a b c mk (j+1) j j G9 Gb Gc→wx.cell? ⟨g,o+9,none⟩=some (.int .i64 mk)):=hdz λwx G9 h=>(HY1.out wx _ _ _ h.bk).1.2.2.2
   have hwd:Hid (∀wx,Fresh wr wx→Calls Tryz.prog 103 #[.int .i64 (-mk - (j:Int))] wx λe w'=>e=.returned (str (wordT (-mk - (j:Int))))∧Fresh wx w'):=hdz λwx hf=>word_any _ (by omega) (by omega) wx (HZ.out wx (HR.out.kp.comp hf (λ_ _ h=>h) λ_ _ _=>trivial))
   obtain⟨tx,htx⟩:=exz (wordT (-mk - (j:Int)))
   rw[←htx] at hwd
   have HTx:=hdz htx
   clear htx
   have HLn:Hid (a+j≤1064):=hdz (by omega)
   go_upto_region 6 with (fail)
   obtain⟨y1,y9,yl⟩:=HY.out wr.drew ((krz _ wr).drew)
   go_cut [] (λwz=>Hid (∃G9,GAt W0 w1 wz g o cs (.slice Aa a ca) (.slice Ab b cb) (.slice Ac c cc) la lb lc a b c mk (j+1) j j G9 Gb Gc))
   case first=>
    refine wp_region_held_drew (S:=λw'=>w'.cell? ⟨g,o+9,none⟩=some (.int .i64 mk)) (by kernel_rfl) y9 (λhHeld=>?_)
    refine wpAnyH_take (i:=0) (v:=.pointer (some ⟨g,o,none⟩)) rfl (by kernel_rfl) (by kernel_rfl) (by kernel_rfl) (λ_ _ _ h=>h) (Or.inl ⟨by rfl,by intro w hSw;go_simp⟩) hHeld ?_
    simp only[Act.put,zp1,zp2,zp3]
    refine wpAnyH_take (i:=1) (v:=.pointer (some ⟨g,o,none⟩)) rfl (by kernel_rfl) (by kernel_rfl) (by kernel_rfl) (λ_ _ _ h=>h) (Or.inl ⟨by rfl,by intro w hSw;go_simp⟩) hHeld ?_
    simp only[Act.put,zp1,zp2,zp3]
    refine wpAnyH_take (i:=2) (v:=.pointer (some ⟨g,o,none⟩)) rfl (by kernel_rfl) (by kernel_rfl) (by kernel_rfl) (λ_ _ _ h=>h) (Or.inl ⟨by rfl,by intro w hSw;go_simp⟩) hHeld ?_
    simp only[Act.put,zp1,zp2,zp3]
    refine wpAnyH_take (i:=3) (v:=.pointer (some ⟨g,o+1,none⟩)) rfl (by kernel_rfl) (by kernel_rfl) (by kernel_rfl) (λ_ _ _ h=>h) (Or.inl ⟨by rfl,by intro w hSw;go_simp⟩) hHeld ?_
    simp only[Act.put,zp1,zp2,zp3]
    refine wpAnyH_take (i:=5) (v:=.pointer (some ⟨g,o,none⟩)) rfl (by kernel_rfl) (by kernel_rfl) (by kernel_rfl) (λ_ _ _ h=>h) (Or.inl ⟨by rfl,by intro w hSw;go_simp⟩) hHeld ?_
    simp only[Act.put,zp1,zp2,zp3]
    refine wpAnyH_take (i:=6) (v:=.pointer (some ⟨g,o,none⟩)) rfl (by kernel_rfl) (by kernel_rfl) (by kernel_rfl) (λ_ _ _ h=>h) (Or.inl ⟨by rfl,by intro w hSw;go_simp⟩) hHeld ?_
    simp only[Act.put,zp1,zp2,zp3]
    refine wpAnyH_take (i:=7) (v:=.pointer (some ⟨g,o+9,none⟩)) rfl (by kernel_rfl) (by kernel_rfl) (by kernel_rfl) (λ_ _ _ h=>h) (Or.inl ⟨by rfl,by intro w hSw;go_simp⟩) hHeld ?_
    simp only[Act.put,zp1,zp2,zp3]
    refine wpAnyH_take (i:=8) (v:=.int .i64 mk) rfl (by kernel_rfl) (by kernel_rfl) (by kernel_rfl) (λ_ _ _ h=>h) (Or.inl ⟨by rfl,by intro w hSw;go_simp⟩) hHeld ?_
    simp only[Act.put,zp1,zp2,zp3]
    refine wpAnyH_take (i:=9) (v:=.int .i64 (-mk)) rfl (by kernel_rfl) (by kernel_rfl) (by kernel_rfl) (λ_ _ _ h=>h) (Or.inl ⟨by rfl,by intro w hSw;go_simp⟩) hHeld ?_
    simp only[Act.put,zp1,zp2,zp3]
    refine wpAnyH_take (i:=10) (v:=.int .i64 (j:Int)) rfl (by kernel_rfl) (by kernel_rfl) (by kernel_rfl) (λ_ _ _ h=>h) (Or.inl ⟨by rfl,by intro w hSw;go_simp⟩) hHeld ?_
    simp only[Act.put,zp1,zp2,zp3]
    refine wpAnyH_take (i:=11) (v:=.int .i64 (-mk - (j:Int))) rfl (by kernel_rfl) (by kernel_rfl) (by kernel_rfl) (λ_ _ _ h=>h) (Or.inl ⟨by rfl,by intro w hSw;go_simp⟩) hHeld ?_
    simp only[Act.put,zp1,zp2,zp3]
    refine wpAnyH_ready (rs:=[4,12]) (by kernel_rfl) (by simp) ?_
    refine AllReadyH.cons rfl (λK hK=>?_) (AllReadyH.cons rfl (λK hK=>?_) AllReadyH.nil)
    ·go_simp
     refine hK.out _ _ y9 (λhHeld=>?_)
     clear hK K
     try simp only[Act.put,zp1,zp2,zp3]
     refine wpAnyH_ready (rs:=[12]) (by kernel_rfl) (by simp) ?_
     refine AllReadyH.cons rfl (λK hK=>?_) AllReadyH.nil
     go_simp
     (with_reducible refine Calls.mono (hwd.out _ ((krz _ wr).drew)) ?_)
     rintro e wa ⟨rfl,hfa0⟩
     have hfa:Fresh wr wa:=(((krz _ wr).drew)).trans hfa0
     have z:=HY.out wa hfa
     obtain⟨z1,z9,zl⟩:=HY.out wa hfa
     clear z hfa0
     refine hK.out _ _ z9 (λhHeld=>?_)
     clear hK K
     try simp only[Act.put,zp1,zp2,zp3]
     refine wpAnyH_take (i:=13) (v:=.agg #[str tx,str []]) rfl (by kernel_rfl) (by kernel_rfl) (by kernel_rfl) (λ_ _ _ h=>h) (Or.inl ⟨by rfl,by intro w hSw;go_simp⟩) hHeld ?_
     simp only[Act.put,zp1,zp2,zp3]
     refine wpAnyH_ready (rs:=[14]) (by kernel_rfl) (by simp) ?_
     refine AllReadyH.cons rfl (λK hK=>?_) AllReadyH.nil
     go_simp
     refine hK.out _ _ (HY.out _ (hfa.alloc _)).2.1 (λhHeld=>?_)
     clear hK K
     try simp only[Act.put,zp1,zp2,zp3]
     refine wpAnyH_ready (rs:=[15]) (by kernel_rfl) (by simp) ?_
     refine AllReadyH.cons rfl (λK hK=>?_) AllReadyH.nil
     have hfb:Fresh wr (wa.alloc (.cells #[str tx,str []] 71)):=hfa.alloc _
     have HB:=hdz (aiz (own_keep HR.out.ga.long hfb λ_ _=>trivial) (lez HR.out.base hfb.size))
     refine step_app_keep etPair rfl (.tmp 32) (.tmp 42) rfl W0.heap.size (.slice A2 (a+j) c2) _ _ rfl HB.out.1 _ ⟨wa.heap.size,0,none⟩ 1 1 [str tx,str []] rfl (Rd.one_of (Blk.new wa 71 #[str tx,str []]) rfl) (by omega) (pair_one tx []) (by have:=HLn.out;omega) HB.out.2 ?_
     intro v2 w2 ho2 hk2 hr2
     obtain⟨A3,c3,rfl⟩:=own_form0 ho2
     have hg2:=(HR.out.fresh hfb).stepA (G':=.slice A3 (a+j+1) c3) ho2 HTx.out hk2 hr2
     have hy:=((HR.out.fresh hfb).blkA hk2)
     have u1:=HY3.out w2 hy
     have hS3:=HY4.out _ hg2
     obtain⟨w3,hw3⟩:=exz (w2.setCell ⟨g,o+1,none⟩ (.slice A3 (a+j+1) c3))
     rw[←hw3] at hg2 hS3
     have HG3:=hdz hg2
     have HW3:=hdz hw3
     obtain⟨u1,u9,fu,lu⟩:=u1
     clear ho2 hk2 hr2 hg2 hy hw3 hfb HB
     refine hK.out _ _ u9 (λhHeld=>?_)
     clear hK K
     try simp only[Act.put,zp1,zp2,zp3]
     refine wpAnyH_take (i:=16) (v:=.pointer (some ⟨g,o,none⟩)) rfl (by kernel_rfl) (by kernel_rfl) (by kernel_rfl) (λ_ _ _ h=>h) (Or.inl ⟨by rfl,by intro w hSw;go_simp⟩) hHeld ?_
     simp only[Act.put,zp1,zp2,zp3]
     refine wpAnyH_take (i:=17) (v:=.pointer (some ⟨g,o+1,none⟩)) rfl (by kernel_rfl) (by kernel_rfl) (by kernel_rfl) (λ_ _ _ h=>h) (Or.inl ⟨by rfl,by intro w hSw;go_simp⟩) hHeld ?_
     simp only[Act.put,zp1,zp2,zp3]
     refine wpAnyH_ready (rs:=[18]) (by kernel_rfl) (by simp) ?_
     refine AllReadyH.cons rfl (λK hK=>?_) AllReadyH.nil
     go_simp
     rw[←HW3.out]
     refine hK.out _ _ hS3 (λhHeld=>?_)
     clear hK K hHeld
     refine wpAnyH_done (by kernel_rfl) ?_ _
     clear u1 u9 fu lu HW3 hS3
     go_wp2_with fail
     go_meet
     exact hdz ⟨_,HG3.out⟩
    ·go_simp
     (with_reducible refine Calls.mono (hwd.out _ ((krz _ wr).drew)) ?_)
     rintro e wa ⟨rfl,hfa0⟩
     have hfa:Fresh wr wa:=(((krz _ wr).drew)).trans hfa0
     have z:=HY.out wa hfa
     obtain⟨z1,z9,zl⟩:=HY.out wa hfa
     clear z hfa0
     refine hK.out _ _ z9 (λhHeld=>?_)
     clear hK K
     try simp only[Act.put,zp1,zp2,zp3]
     refine wpAnyH_take (i:=13) (v:=.agg #[str tx,str []]) rfl (by kernel_rfl) (by kernel_rfl) (by kernel_rfl) (λ_ _ _ h=>h) (Or.inl ⟨by rfl,by intro w hSw;go_simp⟩) hHeld ?_
     simp only[Act.put,zp1,zp2,zp3]
     refine wpAnyH_ready (rs:=[4,14]) (by kernel_rfl) (by simp) ?_
     refine AllReadyH.cons rfl (λK hK=>?_) (AllReadyH.cons rfl (λK hK=>?_) AllReadyH.nil)
     ·go_simp
      refine hK.out _ _ z9 (λhHeld=>?_)
      clear hK K
      try simp only[Act.put,zp1,zp2,zp3]
      refine wpAnyH_ready (rs:=[14]) (by kernel_rfl) (by simp) ?_
      refine AllReadyH.cons rfl (λK hK=>?_) AllReadyH.nil
      go_simp
      refine hK.out _ _ (HY.out _ (hfa.alloc _)).2.1 (λhHeld=>?_)
      clear hK K
      try simp only[Act.put,zp1,zp2,zp3]
      refine wpAnyH_ready (rs:=[15]) (by kernel_rfl) (by simp) ?_
      refine AllReadyH.cons rfl (λK hK=>?_) AllReadyH.nil
      have hfb:Fresh wr (wa.alloc (.cells #[str tx,str []] 71)):=hfa.alloc _
      have HB:=hdz (aiz (own_keep HR.out.ga.long hfb λ_ _=>trivial) (lez HR.out.base hfb.size))
      refine step_app_keep etPair rfl (.tmp 32) (.tmp 42) rfl W0.heap.size (.slice A2 (a+j) c2) _ _ rfl HB.out.1 _ ⟨wa.heap.size,0,none⟩ 1 1 [str tx,str []] rfl (Rd.one_of (Blk.new wa 71 #[str tx,str []]) rfl) (by omega) (pair_one tx []) (by have:=HLn.out;omega) HB.out.2 ?_
      intro v2 w2 ho2 hk2 hr2
      obtain⟨A3,c3,rfl⟩:=own_form0 ho2
      have hg2:=(HR.out.fresh hfb).stepA (G':=.slice A3 (a+j+1) c3) ho2 HTx.out hk2 hr2
      have hy:=((HR.out.fresh hfb).blkA hk2)
      have u1:=HY3.out w2 hy
      have hS3:=HY4.out _ hg2
      obtain⟨w3,hw3⟩:=exz (w2.setCell ⟨g,o+1,none⟩ (.slice A3 (a+j+1) c3))
      rw[←hw3] at hg2 hS3
      have HG3:=hdz hg2
      have HW3:=hdz hw3
      obtain⟨u1,u9,fu,lu⟩:=u1
      clear ho2 hk2 hr2 hg2 hy hw3 hfb HB
      refine hK.out _ _ u9 (λhHeld=>?_)
      clear hK K
      try simp only[Act.put,zp1,zp2,zp3]
      refine wpAnyH_take (i:=16) (v:=.pointer (some ⟨g,o,none⟩)) rfl (by kernel_rfl) (by kernel_rfl) (by kernel_rfl) (λ_ _ _ h=>h) (Or.inl ⟨by rfl,by intro w hSw;go_simp⟩) hHeld ?_
      simp only[Act.put,zp1,zp2,zp3]
      refine wpAnyH_take (i:=17) (v:=.pointer (some ⟨g,o+1,none⟩)) rfl (by kernel_rfl) (by kernel_rfl) (by kernel_rfl) (λ_ _ _ h=>h) (Or.inl ⟨by rfl,by intro w hSw;go_simp⟩) hHeld ?_
      simp only[Act.put,zp1,zp2,zp3]
      refine wpAnyH_ready (rs:=[18]) (by kernel_rfl) (by simp) ?_
      refine AllReadyH.cons rfl (λK hK=>?_) AllReadyH.nil
      go_simp
      rw[←HW3.out]
      refine hK.out _ _ hS3 (λhHeld=>?_)
      clear hK K hHeld
      refine wpAnyH_done (by kernel_rfl) ?_ _
      clear u1 u9 fu lu HW3 hS3
      go_wp2_with fail
      go_meet
      exact hdz ⟨_,HG3.out⟩
     ·go_simp
      obtain⟨q1,q9,ql⟩:=HY.out _ (hfa.alloc (.cells #[str tx,str []] 71))
      refine hK.out _ _ q9 (λhHeld=>?_)
      clear hK K
      try simp only[Act.put,zp1,zp2,zp3]
      refine wpAnyH_ready (rs:=[4]) (by kernel_rfl) (by simp) ?_
      refine AllReadyH.cons rfl (λK hK=>?_) AllReadyH.nil
      go_simp
      refine hK.out _ _ q9 (λhHeld=>?_)
      clear hK K
      try simp only[Act.put,zp1,zp2,zp3]
      refine wpAnyH_ready (rs:=[15]) (by kernel_rfl) (by simp) ?_
      refine AllReadyH.cons rfl (λK hK=>?_) AllReadyH.nil
      have hfb:Fresh wr (wa.alloc (.cells #[str tx,str []] 71)):=hfa.alloc _
      have HB:=hdz (aiz (own_keep HR.out.ga.long hfb λ_ _=>trivial) (lez HR.out.base hfb.size))
      refine step_app_keep etPair rfl (.tmp 32) (.tmp 42) rfl W0.heap.size (.slice A2 (a+j) c2) _ _ rfl HB.out.1 _ ⟨wa.heap.size,0,none⟩ 1 1 [str tx,str []] rfl (Rd.one_of (Blk.new wa 71 #[str tx,str []]) rfl) (by omega) (pair_one tx []) (by have:=HLn.out;omega) HB.out.2 ?_
      intro v2 w2 ho2 hk2 hr2
      obtain⟨A3,c3,rfl⟩:=own_form0 ho2
      have hg2:=(HR.out.fresh hfb).stepA (G':=.slice A3 (a+j+1) c3) ho2 HTx.out hk2 hr2
      have hy:=((HR.out.fresh hfb).blkA hk2)
      have u1:=HY3.out w2 hy
      have hS3:=HY4.out _ hg2
      obtain⟨w3,hw3⟩:=exz (w2.setCell ⟨g,o+1,none⟩ (.slice A3 (a+j+1) c3))
      rw[←hw3] at hg2 hS3
      have HG3:=hdz hg2
      have HW3:=hdz hw3
      obtain⟨u1,u9,fu,lu⟩:=u1
      clear ho2 hk2 hr2 hg2 hy hw3 hfb HB
      refine hK.out _ _ u9 (λhHeld=>?_)
      clear hK K
      try simp only[Act.put,zp1,zp2,zp3]
      refine wpAnyH_take (i:=16) (v:=.pointer (some ⟨g,o,none⟩)) rfl (by kernel_rfl) (by kernel_rfl) (by kernel_rfl) (λ_ _ _ h=>h) (Or.inl ⟨by rfl,by intro w hSw;go_simp⟩) hHeld ?_
      simp only[Act.put,zp1,zp2,zp3]
      refine wpAnyH_take (i:=17) (v:=.pointer (some ⟨g,o+1,none⟩)) rfl (by kernel_rfl) (by kernel_rfl) (by kernel_rfl) (λ_ _ _ h=>h) (Or.inl ⟨by rfl,by intro w hSw;go_simp⟩) hHeld ?_
      simp only[Act.put,zp1,zp2,zp3]
      refine wpAnyH_ready (rs:=[18]) (by kernel_rfl) (by simp) ?_
      refine AllReadyH.cons rfl (λK hK=>?_) AllReadyH.nil
      go_simp
      rw[←HW3.out]
      refine hK.out _ _ hS3 (λhHeld=>?_)
      clear hK K hHeld
      refine wpAnyH_done (by kernel_rfl) ?_ _
      clear u1 u9 fu lu HW3 hS3
      go_wp2_with fail
      go_meet
      exact hdz ⟨_,HG3.out⟩
   case rest=>
   rename World=>wr2
   obtain⟨Ga',hR⟩:=hcut.out
   have HR:=hdz hR
   clear hR hcut
   obtain⟨A2,c2,rfl⟩:∃A2 c2,Gb=.slice A2 (b+j) c2:=own_form0 HR.out.gb.long
   have HY:Hid (∀wx,Fresh wr2 wx→wx.cell? ⟨g,o+4,none⟩=some (.slice A2 (b+j) c2)∧wx.cell? ⟨g,o+9,none⟩=some (.int .i64 mk)∧g<wx.heap.size):=hdz λwx hf=>by
    have h1:=HY1.out wx _ _ _ (HR.out.bk.keep hf trivial)
    exact⟨h1.1.2.1,h1.1.2.2.2,h1.2.2⟩
   have HY3:Hid (∀wx,Blk wx g 129 (set3 cs o Ga' (.slice A2 (b+j) c2) Gc)→wx.cell? ⟨g,o+4,none⟩=some (.slice A2 (b+j) c2)∧wx.cell? ⟨g,o+9,none⟩=some (.int .i64 mk)∧wx.frozen? ⟨g,o+4,none⟩=false∧g<wx.heap.size):=hdz λwx hb=>by
    have h1:=HY1.out wx _ _ _ hb
    exact⟨h1.1.2.1,h1.1.2.2.2,h1.2.1 _,h1.2.2⟩
   have HY4:Hid (∀wx {G9:Value},GAt W0 w1 wx g o cs (.slice Aa a ca) (.slice Ab b cb) (.slice Ac c cc) la lb lc a b c mk (j+1) (j+1) j Ga' G9 Gc→wx.cell? ⟨g,o+9,none⟩=some (.int .i64 mk)):=hdz λwx G9 h=>(HY1.out wx _ _ _ h.bk).1.2.2.2
   have HTx:Hid True:=hdz trivial
   have HLn:Hid (b+j≤1064):=hdz (by omega)
   go_upto_region 7 with (fail)
   obtain⟨y1,y9,yl⟩:=HY.out wr2.drew ((krz _ wr2).drew)
   go_cut [] (λwz=>Hid (∃G9,GAt W0 w1 wz g o cs (.slice Aa a ca) (.slice Ab b cb) (.slice Ac c cc) la lb lc a b c mk (j+1) (j+1) j Ga' G9 Gc))
   case first=>
    refine wp_region_held_drew (S:=λw'=>w'.cell? ⟨g,o+9,none⟩=some (.int .i64 mk)) (by kernel_rfl) y9 (λhHeld=>?_)
    obtain⟨wq,hwq⟩:=exz (wr2.drew)
    have hdq:Fresh wr2 wq:=hwq ▸ (krz _ wr2).drew
    rw[←hwq] at hHeld y1 y9 yl ⊢
    clear hwq
    refine wpAnyH_take (i:=0) (v:=.pointer (some ⟨g,o,none⟩)) rfl (by kernel_rfl) (by kernel_rfl) (by kernel_rfl) (λ_ _ _ h=>h) (Or.inl ⟨by rfl,by intro w hSw;go_simp⟩) hHeld ?_
    simp only[Act.put,zp1,zp2,zp3]
    refine wpAnyH_take (i:=1) (v:=.pointer (some ⟨g,o,none⟩)) rfl (by kernel_rfl) (by kernel_rfl) (by kernel_rfl) (λ_ _ _ h=>h) (Or.inl ⟨by rfl,by intro w hSw;go_simp⟩) hHeld ?_
    simp only[Act.put,zp1,zp2,zp3]
    refine wpAnyH_take (i:=2) (v:=.pointer (some ⟨g,o,none⟩)) rfl (by kernel_rfl) (by kernel_rfl) (by kernel_rfl) (λ_ _ _ h=>h) (Or.inl ⟨by rfl,by intro w hSw;go_simp⟩) hHeld ?_
    simp only[Act.put,zp1,zp2,zp3]
    refine wpAnyH_take (i:=3) (v:=.pointer (some ⟨g,o+4,none⟩)) rfl (by kernel_rfl) (by kernel_rfl) (by kernel_rfl) (λ_ _ _ h=>h) (Or.inl ⟨by rfl,by intro w hSw;go_simp⟩) hHeld ?_
    simp only[Act.put,zp1,zp2,zp3]
    refine wpAnyH_take (i:=5) (v:=.pointer (some ⟨g,o,none⟩)) rfl (by kernel_rfl) (by kernel_rfl) (by kernel_rfl) (λ_ _ _ h=>h) (Or.inl ⟨by rfl,by intro w hSw;go_simp⟩) hHeld ?_
    simp only[Act.put,zp1,zp2,zp3]
    refine wpAnyH_take (i:=6) (v:=.pointer (some ⟨g,o,none⟩)) rfl (by kernel_rfl) (by kernel_rfl) (by kernel_rfl) (λ_ _ _ h=>h) (Or.inl ⟨by rfl,by intro w hSw;go_simp⟩) hHeld ?_
    simp only[Act.put,zp1,zp2,zp3]
    refine wpAnyH_take (i:=7) (v:=.pointer (some ⟨g,o+9,none⟩)) rfl (by kernel_rfl) (by kernel_rfl) (by kernel_rfl) (λ_ _ _ h=>h) (Or.inl ⟨by rfl,by intro w hSw;go_simp⟩) hHeld ?_
    simp only[Act.put,zp1,zp2,zp3]
    refine wpAnyH_take (i:=8) (v:=.int .i64 mk) rfl (by kernel_rfl) (by kernel_rfl) (by kernel_rfl) (λ_ _ _ h=>h) (Or.inl ⟨by rfl,by intro w hSw;go_simp⟩) hHeld ?_
    simp only[Act.put,zp1,zp2,zp3]
    refine wpAnyH_take (i:=9) (v:=.int .i64 (-mk)) rfl (by kernel_rfl) (by kernel_rfl) (by kernel_rfl) (λ_ _ _ h=>h) (Or.inl ⟨by rfl,by intro w hSw;go_simp⟩) hHeld ?_
    simp only[Act.put,zp1,zp2,zp3]
    refine wpAnyH_take (i:=10) (v:=.int .i64 (j:Int)) rfl (by kernel_rfl) (by kernel_rfl) (by kernel_rfl) (λ_ _ _ h=>h) (Or.inl ⟨by rfl,by intro w hSw;go_simp⟩) hHeld ?_
    simp only[Act.put,zp1,zp2,zp3]
    refine wpAnyH_take (i:=11) (v:=.int .i64 (-mk - (j:Int))) rfl (by kernel_rfl) (by kernel_rfl) (by kernel_rfl) (λ_ _ _ h=>h) (Or.inl ⟨by rfl,by intro w hSw;go_simp⟩) hHeld ?_
    simp only[Act.put,zp1,zp2,zp3]
    refine wpAnyH_take (i:=12) (v:=.agg #[.int .i64 (-mk - (j:Int)),.int .i64 0]) rfl (by kernel_rfl) (by kernel_rfl) (by kernel_rfl) (λ_ _ _ h=>h) (Or.inl ⟨by rfl,by intro w hSw;go_simp⟩) hHeld ?_
    simp only[Act.put,zp1,zp2,zp3]
    refine wpAnyH_ready (rs:=[4,13]) (by kernel_rfl) (by simp) ?_
    refine AllReadyH.cons rfl (λK hK=>?_) (AllReadyH.cons rfl (λK hK=>?_) AllReadyH.nil)
    ·go_simp
     refine hK.out _ _ y9 (λhHeld=>?_)
     clear hK K
     try simp only[Act.put,zp1,zp2,zp3]
     refine wpAnyH_ready (rs:=[13]) (by kernel_rfl) (by simp) ?_
     refine AllReadyH.cons rfl (λK hK=>?_) AllReadyH.nil
     go_simp
     refine hK.out _ _ (HY.out _ (hdq.alloc _)).2.1 (λhHeld=>?_)
     clear hK K
     try simp only[Act.put,zp1,zp2,zp3]
     refine wpAnyH_ready (rs:=[14]) (by kernel_rfl) (by simp) ?_
     refine AllReadyH.cons rfl (λK hK=>?_) AllReadyH.nil
     have hfb:Fresh wr2 (wq.alloc (.cells #[.int .i64 (-mk - (j:Int)),.int .i64 0] 115)):=hdq.alloc _
     have HB:=hdz (aiz (own_keep HR.out.gb.long hfb λ_ _=>trivial) (lez HR.out.base hfb.size))
     refine step_app_keep etWait rfl (.tmp 50) (.tmp 59) rfl W0.heap.size (.slice A2 (b+j) c2) _ _ rfl HB.out.1 _ ⟨wq.heap.size,0,none⟩ 1 1 [.int .i64 (-mk - (j:Int)),.int .i64 0] rfl (Rd.one_of (Blk.new wq 115 #[.int .i64 (-mk - (j:Int)),.int .i64 0]) rfl) (by omega) (wait_one (-mk - (j:Int)) 0) (by have:=HLn.out;omega) HB.out.2 ?_
     intro v2 w2 ho2 hk2 hr2
     obtain⟨A3,c3,rfl⟩:=own_form0 ho2
     have hg2:=(HR.out.fresh hfb).stepB (G':=.slice A3 (b+j+1) c3) ho2 HTx.out hk2 hr2
     have hy:=((HR.out.fresh hfb).blkB hk2)
     have u1:=HY3.out w2 hy
     have hS3:=HY4.out _ hg2
     obtain⟨w3,hw3⟩:=exz (w2.setCell ⟨g,o+4,none⟩ (.slice A3 (b+j+1) c3))
     rw[←hw3] at hg2 hS3
     have HG3:=hdz hg2
     have HW3:=hdz hw3
     obtain⟨u1,u9,fu,lu⟩:=u1
     clear ho2 hk2 hr2 hg2 hy hw3 hfb HB
     refine hK.out _ _ u9 (λhHeld=>?_)
     clear hK K
     try simp only[Act.put,zp1,zp2,zp3]
     refine wpAnyH_take (i:=15) (v:=.pointer (some ⟨g,o,none⟩)) rfl (by kernel_rfl) (by kernel_rfl) (by kernel_rfl) (λ_ _ _ h=>h) (Or.inl ⟨by rfl,by intro w hSw;go_simp⟩) hHeld ?_
     simp only[Act.put,zp1,zp2,zp3]
     refine wpAnyH_take (i:=16) (v:=.pointer (some ⟨g,o+4,none⟩)) rfl (by kernel_rfl) (by kernel_rfl) (by kernel_rfl) (λ_ _ _ h=>h) (Or.inl ⟨by rfl,by intro w hSw;go_simp⟩) hHeld ?_
     simp only[Act.put,zp1,zp2,zp3]
     refine wpAnyH_ready (rs:=[17]) (by kernel_rfl) (by simp) ?_
     refine AllReadyH.cons rfl (λK hK=>?_) AllReadyH.nil
     go_simp
     rw[←HW3.out]
     refine hK.out _ _ hS3 (λhHeld=>?_)
     clear hK K hHeld
     refine wpAnyH_done (by kernel_rfl) ?_ _
     clear u1 u9 fu lu HW3 hS3
     go_wp2_with fail
     go_meet
     exact hdz ⟨_,HG3.out⟩
    ·go_simp
     obtain⟨q1,q9,ql⟩:=HY.out _ (hdq.alloc (.cells #[.int .i64 (-mk - (j:Int)),.int .i64 0] 115))
     refine hK.out _ _ q9 (λhHeld=>?_)
     clear hK K
     try simp only[Act.put,zp1,zp2,zp3]
     refine wpAnyH_ready (rs:=[4]) (by kernel_rfl) (by simp) ?_
     refine AllReadyH.cons rfl (λK hK=>?_) AllReadyH.nil
     go_simp
     refine hK.out _ _ q9 (λhHeld=>?_)
     clear hK K
     try simp only[Act.put,zp1,zp2,zp3]
     refine wpAnyH_ready (rs:=[14]) (by kernel_rfl) (by simp) ?_
     refine AllReadyH.cons rfl (λK hK=>?_) AllReadyH.nil
     have hfb:Fresh wr2 (wq.alloc (.cells #[.int .i64 (-mk - (j:Int)),.int .i64 0] 115)):=hdq.alloc _
     have HB:=hdz (aiz (own_keep HR.out.gb.long hfb λ_ _=>trivial) (lez HR.out.base hfb.size))
     refine step_app_keep etWait rfl (.tmp 50) (.tmp 59) rfl W0.heap.size (.slice A2 (b+j) c2) _ _ rfl HB.out.1 _ ⟨wq.heap.size,0,none⟩ 1 1 [.int .i64 (-mk - (j:Int)),.int .i64 0] rfl (Rd.one_of (Blk.new wq 115 #[.int .i64 (-mk - (j:Int)),.int .i64 0]) rfl) (by omega) (wait_one (-mk - (j:Int)) 0) (by have:=HLn.out;omega) HB.out.2 ?_
     intro v2 w2 ho2 hk2 hr2
     obtain⟨A3,c3,rfl⟩:=own_form0 ho2
     have hg2:=(HR.out.fresh hfb).stepB (G':=.slice A3 (b+j+1) c3) ho2 HTx.out hk2 hr2
     have hy:=((HR.out.fresh hfb).blkB hk2)
     have u1:=HY3.out w2 hy
     have hS3:=HY4.out _ hg2
     obtain⟨w3,hw3⟩:=exz (w2.setCell ⟨g,o+4,none⟩ (.slice A3 (b+j+1) c3))
     rw[←hw3] at hg2 hS3
     have HG3:=hdz hg2
     have HW3:=hdz hw3
     obtain⟨u1,u9,fu,lu⟩:=u1
     clear ho2 hk2 hr2 hg2 hy hw3 hfb HB
     refine hK.out _ _ u9 (λhHeld=>?_)
     clear hK K
     try simp only[Act.put,zp1,zp2,zp3]
     refine wpAnyH_take (i:=15) (v:=.pointer (some ⟨g,o,none⟩)) rfl (by kernel_rfl) (by kernel_rfl) (by kernel_rfl) (λ_ _ _ h=>h) (Or.inl ⟨by rfl,by intro w hSw;go_simp⟩) hHeld ?_
     simp only[Act.put,zp1,zp2,zp3]
     refine wpAnyH_take (i:=16) (v:=.pointer (some ⟨g,o+4,none⟩)) rfl (by kernel_rfl) (by kernel_rfl) (by kernel_rfl) (λ_ _ _ h=>h) (Or.inl ⟨by rfl,by intro w hSw;go_simp⟩) hHeld ?_
     simp only[Act.put,zp1,zp2,zp3]
     refine wpAnyH_ready (rs:=[17]) (by kernel_rfl) (by simp) ?_
     refine AllReadyH.cons rfl (λK hK=>?_) AllReadyH.nil
     go_simp
     rw[←HW3.out]
     refine hK.out _ _ hS3 (λhHeld=>?_)
     clear hK K hHeld
     refine wpAnyH_done (by kernel_rfl) ?_ _
     clear u1 u9 fu lu HW3 hS3
     go_wp2_with fail
     go_meet
     exact hdz ⟨_,HG3.out⟩
   case rest=>
   rename World=>wr3
   obtain⟨Gb',hR⟩:=hcut.out
   have HR:=hdz hR
   clear hR hcut
   obtain⟨A2,c2,rfl⟩:∃A2 c2,Gc=.slice A2 (c+j) c2:=own_form0 HR.out.gc.long
   have HY:Hid (∀wx,Fresh wr3 wx→wx.cell? ⟨g,o+7,none⟩=some (.slice A2 (c+j) c2)∧wx.cell? ⟨g,o+9,none⟩=some (.int .i64 mk)∧g<wx.heap.size):=hdz λwx hf=>by
    have h1:=HY1.out wx _ _ _ (HR.out.bk.keep hf trivial)
    exact⟨h1.1.2.2.1,h1.1.2.2.2,h1.2.2⟩
   have HY3:Hid (∀wx,Blk wx g 129 (set3 cs o Ga' Gb' (.slice A2 (c+j) c2))→wx.cell? ⟨g,o+7,none⟩=some (.slice A2 (c+j) c2)∧wx.cell? ⟨g,o+9,none⟩=some (.int .i64 mk)∧wx.frozen? ⟨g,o+7,none⟩=false∧g<wx.heap.size):=hdz λwx hb=>by
    have h1:=HY1.out wx _ _ _ hb
    exact⟨h1.1.2.2.1,h1.1.2.2.2,h1.2.1 _,h1.2.2⟩
   have HY4:Hid (∀wx {G9:Value},GAt W0 w1 wx g o cs (.slice Aa a ca) (.slice Ab b cb) (.slice Ac c cc) la lb lc a b c mk (j+1) (j+1) (j+1) Ga' Gb' G9→wx.cell? ⟨g,o+9,none⟩=some (.int .i64 mk)):=hdz λwx G9 h=>(HY1.out wx _ _ _ h.bk).1.2.2.2
   have hwd:Hid (∀wx,Fresh wr3 wx→Calls Tryz.prog 103 #[.int .i64 (-mk - (j:Int))] wx λe w'=>e=.returned (str (wordT (-mk - (j:Int))))∧Fresh wx w'):=hdz λwx hf=>word_any _ (by omega) (by omega) wx (HZ.out wx (HR.out.kp.comp hf (λ_ _ h=>h) λ_ _ _=>trivial))
   obtain⟨tx,htx⟩:=exz (wordT (-mk - (j:Int)))
   rw[←htx] at hwd
   have HTx:=hdz htx
   clear htx
   have HLn:Hid (c+j≤1064):=hdz (by omega)
   go_upto_region 8 with (fail)
   obtain⟨y1,y9,yl⟩:=HY.out wr3.drew ((krz _ wr3).drew)
   refine wp_region_held_drew (S:=λw'=>w'.cell? ⟨g,o+9,none⟩=some (.int .i64 mk)) (by kernel_rfl) y9 (λhHeld=>?_)
   refine wpAnyH_take (i:=0) (v:=.pointer (some ⟨g,o,none⟩)) rfl (by kernel_rfl) (by kernel_rfl) (by kernel_rfl) (λ_ _ _ h=>h) (Or.inl ⟨by rfl,by intro w hSw;go_simp⟩) hHeld ?_
   simp only[Act.put,zp1,zp2,zp3]
   refine wpAnyH_take (i:=1) (v:=.pointer (some ⟨g,o,none⟩)) rfl (by kernel_rfl) (by kernel_rfl) (by kernel_rfl) (λ_ _ _ h=>h) (Or.inl ⟨by rfl,by intro w hSw;go_simp⟩) hHeld ?_
   simp only[Act.put,zp1,zp2,zp3]
   refine wpAnyH_take (i:=2) (v:=.pointer (some ⟨g,o,none⟩)) rfl (by kernel_rfl) (by kernel_rfl) (by kernel_rfl) (λ_ _ _ h=>h) (Or.inl ⟨by rfl,by intro w hSw;go_simp⟩) hHeld ?_
   simp only[Act.put,zp1,zp2,zp3]
   refine wpAnyH_take (i:=3) (v:=.pointer (some ⟨g,o+7,none⟩)) rfl (by kernel_rfl) (by kernel_rfl) (by kernel_rfl) (λ_ _ _ h=>h) (Or.inl ⟨by rfl,by intro w hSw;go_simp⟩) hHeld ?_
   simp only[Act.put,zp1,zp2,zp3]
   refine wpAnyH_take (i:=5) (v:=.pointer (some ⟨g,o,none⟩)) rfl (by kernel_rfl) (by kernel_rfl) (by kernel_rfl) (λ_ _ _ h=>h) (Or.inl ⟨by rfl,by intro w hSw;go_simp⟩) hHeld ?_
   simp only[Act.put,zp1,zp2,zp3]
   refine wpAnyH_take (i:=6) (v:=.pointer (some ⟨g,o,none⟩)) rfl (by kernel_rfl) (by kernel_rfl) (by kernel_rfl) (λ_ _ _ h=>h) (Or.inl ⟨by rfl,by intro w hSw;go_simp⟩) hHeld ?_
   simp only[Act.put,zp1,zp2,zp3]
   refine wpAnyH_take (i:=7) (v:=.pointer (some ⟨g,o+9,none⟩)) rfl (by kernel_rfl) (by kernel_rfl) (by kernel_rfl) (λ_ _ _ h=>h) (Or.inl ⟨by rfl,by intro w hSw;go_simp⟩) hHeld ?_
   simp only[Act.put,zp1,zp2,zp3]
   refine wpAnyH_take (i:=8) (v:=.int .i64 mk) rfl (by kernel_rfl) (by kernel_rfl) (by kernel_rfl) (λ_ _ _ h=>h) (Or.inl ⟨by rfl,by intro w hSw;go_simp⟩) hHeld ?_
   simp only[Act.put,zp1,zp2,zp3]
   refine wpAnyH_take (i:=9) (v:=.int .i64 (-mk)) rfl (by kernel_rfl) (by kernel_rfl) (by kernel_rfl) (λ_ _ _ h=>h) (Or.inl ⟨by rfl,by intro w hSw;go_simp⟩) hHeld ?_
   simp only[Act.put,zp1,zp2,zp3]
   refine wpAnyH_take (i:=10) (v:=.int .i64 (j:Int)) rfl (by kernel_rfl) (by kernel_rfl) (by kernel_rfl) (λ_ _ _ h=>h) (Or.inl ⟨by rfl,by intro w hSw;go_simp⟩) hHeld ?_
   simp only[Act.put,zp1,zp2,zp3]
   refine wpAnyH_take (i:=11) (v:=.int .i64 (-mk - (j:Int))) rfl (by kernel_rfl) (by kernel_rfl) (by kernel_rfl) (λ_ _ _ h=>h) (Or.inl ⟨by rfl,by intro w hSw;go_simp⟩) hHeld ?_
   simp only[Act.put,zp1,zp2,zp3]
   refine wpAnyH_ready (rs:=[4,12]) (by kernel_rfl) (by simp) ?_
   refine AllReadyH.cons rfl (λK hK=>?_) (AllReadyH.cons rfl (λK hK=>?_) AllReadyH.nil)
   ·go_simp
    refine hK.out _ _ y9 (λhHeld=>?_)
    clear hK K
    try simp only[Act.put,zp1,zp2,zp3]
    refine wpAnyH_ready (rs:=[12]) (by kernel_rfl) (by simp) ?_
    refine AllReadyH.cons rfl (λK hK=>?_) AllReadyH.nil
    go_simp
    (with_reducible refine Calls.mono (hwd.out _ ((krz _ wr3).drew)) ?_)
    rintro e wa ⟨rfl,hfa0⟩
    have hfa:Fresh wr3 wa:=(((krz _ wr3).drew)).trans hfa0
    have z:=HY.out wa hfa
    obtain⟨z1,z9,zl⟩:=HY.out wa hfa
    clear z hfa0
    refine hK.out _ _ z9 (λhHeld=>?_)
    clear hK K
    try simp only[Act.put,zp1,zp2,zp3]
    refine wpAnyH_ready (rs:=[13]) (by kernel_rfl) (by simp) ?_
    refine AllReadyH.cons rfl (λK hK=>?_) AllReadyH.nil
    go_simp
    refine hK.out _ _ (HY.out _ (hfa.alloc _)).2.1 (λhHeld=>?_)
    clear hK K
    try simp only[Act.put,zp1,zp2,zp3]
    refine wpAnyH_ready (rs:=[14]) (by kernel_rfl) (by simp) ?_
    refine AllReadyH.cons rfl (λK hK=>?_) AllReadyH.nil
    have hfb:Fresh wr3 (wa.alloc (.cells #[str tx] 9)):=hfa.alloc _
    have HB:=hdz (aiz (own_keep HR.out.gc.long hfb λ_ _=>trivial) (lez HR.out.base hfb.size))
    refine step_app_keep etStr rfl (.tmp 67) (.tmp 76) rfl W0.heap.size (.slice A2 (c+j) c2) _ _ rfl HB.out.1 _ ⟨wa.heap.size,0,none⟩ 1 1 [str tx] rfl (Rd.one_of (Blk.new wa 9 #[str tx]) rfl) (by omega) (by intro u hu;simp only[List.mem_singleton] at hu;subst hu;rfl) (by have:=HLn.out;omega) HB.out.2 ?_
    intro v2 w2 ho2 hk2 hr2
    obtain⟨A3,c3,rfl⟩:=own_form0 ho2
    have hg2:=(HR.out.fresh hfb).stepC (G':=.slice A3 (c+j+1) c3) ho2 HTx.out hk2 hr2
    have hy:=((HR.out.fresh hfb).blkC hk2)
    have u1:=HY3.out w2 hy
    have hS3:=HY4.out _ hg2
    obtain⟨w3,hw3⟩:=exz (w2.setCell ⟨g,o+7,none⟩ (.slice A3 (c+j+1) c3))
    rw[←hw3] at hg2 hS3
    have HG3:=hdz hg2
    have HW3:=hdz hw3
    obtain⟨u1,u9,fu,lu⟩:=u1
    clear ho2 hk2 hr2 hg2 hy hw3 hfb HB
    refine hK.out _ _ u9 (λhHeld=>?_)
    clear hK K
    try simp only[Act.put,zp1,zp2,zp3]
    refine wpAnyH_take (i:=15) (v:=.pointer (some ⟨g,o,none⟩)) rfl (by kernel_rfl) (by kernel_rfl) (by kernel_rfl) (λ_ _ _ h=>h) (Or.inl ⟨by rfl,by intro w hSw;go_simp⟩) hHeld ?_
    simp only[Act.put,zp1,zp2,zp3]
    refine wpAnyH_take (i:=16) (v:=.pointer (some ⟨g,o+7,none⟩)) rfl (by kernel_rfl) (by kernel_rfl) (by kernel_rfl) (λ_ _ _ h=>h) (Or.inl ⟨by rfl,by intro w hSw;go_simp⟩) hHeld ?_
    simp only[Act.put,zp1,zp2,zp3]
    refine wpAnyH_ready (rs:=[17]) (by kernel_rfl) (by simp) ?_
    refine AllReadyH.cons rfl (λK hK=>?_) AllReadyH.nil
    go_simp
    rw[←HW3.out]
    refine hK.out _ _ hS3 (λhHeld=>?_)
    clear hK K hHeld
    refine wpAnyH_done (by kernel_rfl) ?_ _
    clear u1 u9 fu lu HW3 hS3
    go_wp2_with fail
    exact⟨⟨j+1,by omega,by simp,hdz ⟨_,_,_,HG3.out⟩⟩,by simp only[intOf];omega⟩
   ·go_simp
    (with_reducible refine Calls.mono (hwd.out _ ((krz _ wr3).drew)) ?_)
    rintro e wa ⟨rfl,hfa0⟩
    have hfa:Fresh wr3 wa:=(((krz _ wr3).drew)).trans hfa0
    have z:=HY.out wa hfa
    obtain⟨z1,z9,zl⟩:=HY.out wa hfa
    clear z hfa0
    refine hK.out _ _ z9 (λhHeld=>?_)
    clear hK K
    try simp only[Act.put,zp1,zp2,zp3]
    refine wpAnyH_ready (rs:=[4,13]) (by kernel_rfl) (by simp) ?_
    refine AllReadyH.cons rfl (λK hK=>?_) (AllReadyH.cons rfl (λK hK=>?_) AllReadyH.nil)
    ·go_simp
     refine hK.out _ _ z9 (λhHeld=>?_)
     clear hK K
     try simp only[Act.put,zp1,zp2,zp3]
     refine wpAnyH_ready (rs:=[13]) (by kernel_rfl) (by simp) ?_
     refine AllReadyH.cons rfl (λK hK=>?_) AllReadyH.nil
     go_simp
     refine hK.out _ _ (HY.out _ (hfa.alloc _)).2.1 (λhHeld=>?_)
     clear hK K
     try simp only[Act.put,zp1,zp2,zp3]
     refine wpAnyH_ready (rs:=[14]) (by kernel_rfl) (by simp) ?_
     refine AllReadyH.cons rfl (λK hK=>?_) AllReadyH.nil
     have hfb:Fresh wr3 (wa.alloc (.cells #[str tx] 9)):=hfa.alloc _
     have HB:=hdz (aiz (own_keep HR.out.gc.long hfb λ_ _=>trivial) (lez HR.out.base hfb.size))
     refine step_app_keep etStr rfl (.tmp 67) (.tmp 76) rfl W0.heap.size (.slice A2 (c+j) c2) _ _ rfl HB.out.1 _ ⟨wa.heap.size,0,none⟩ 1 1 [str tx] rfl (Rd.one_of (Blk.new wa 9 #[str tx]) rfl) (by omega) (by intro u hu;simp only[List.mem_singleton] at hu;subst hu;rfl) (by have:=HLn.out;omega) HB.out.2 ?_
     intro v2 w2 ho2 hk2 hr2
     obtain⟨A3,c3,rfl⟩:=own_form0 ho2
     have hg2:=(HR.out.fresh hfb).stepC (G':=.slice A3 (c+j+1) c3) ho2 HTx.out hk2 hr2
     have hy:=((HR.out.fresh hfb).blkC hk2)
     have u1:=HY3.out w2 hy
     have hS3:=HY4.out _ hg2
     obtain⟨w3,hw3⟩:=exz (w2.setCell ⟨g,o+7,none⟩ (.slice A3 (c+j+1) c3))
     rw[←hw3] at hg2 hS3
     have HG3:=hdz hg2
     have HW3:=hdz hw3
     obtain⟨u1,u9,fu,lu⟩:=u1
     clear ho2 hk2 hr2 hg2 hy hw3 hfb HB
     refine hK.out _ _ u9 (λhHeld=>?_)
     clear hK K
     try simp only[Act.put,zp1,zp2,zp3]
     refine wpAnyH_take (i:=15) (v:=.pointer (some ⟨g,o,none⟩)) rfl (by kernel_rfl) (by kernel_rfl) (by kernel_rfl) (λ_ _ _ h=>h) (Or.inl ⟨by rfl,by intro w hSw;go_simp⟩) hHeld ?_
     simp only[Act.put,zp1,zp2,zp3]
     refine wpAnyH_take (i:=16) (v:=.pointer (some ⟨g,o+7,none⟩)) rfl (by kernel_rfl) (by kernel_rfl) (by kernel_rfl) (λ_ _ _ h=>h) (Or.inl ⟨by rfl,by intro w hSw;go_simp⟩) hHeld ?_
     simp only[Act.put,zp1,zp2,zp3]
     refine wpAnyH_ready (rs:=[17]) (by kernel_rfl) (by simp) ?_
     refine AllReadyH.cons rfl (λK hK=>?_) AllReadyH.nil
     go_simp
     rw[←HW3.out]
     refine hK.out _ _ hS3 (λhHeld=>?_)
     clear hK K hHeld
     refine wpAnyH_done (by kernel_rfl) ?_ _
     clear u1 u9 fu lu HW3 hS3
     go_wp2_with fail
     exact⟨⟨j+1,by omega,by simp,hdz ⟨_,_,_,HG3.out⟩⟩,by simp only[intOf];omega⟩
    ·go_simp
     obtain⟨q1,q9,ql⟩:=HY.out _ (hfa.alloc (.cells #[str tx] 9))
     refine hK.out _ _ q9 (λhHeld=>?_)
     clear hK K
     try simp only[Act.put,zp1,zp2,zp3]
     refine wpAnyH_ready (rs:=[4]) (by kernel_rfl) (by simp) ?_
     refine AllReadyH.cons rfl (λK hK=>?_) AllReadyH.nil
     go_simp
     refine hK.out _ _ q9 (λhHeld=>?_)
     clear hK K
     try simp only[Act.put,zp1,zp2,zp3]
     refine wpAnyH_ready (rs:=[14]) (by kernel_rfl) (by simp) ?_
     refine AllReadyH.cons rfl (λK hK=>?_) AllReadyH.nil
     have hfb:Fresh wr3 (wa.alloc (.cells #[str tx] 9)):=hfa.alloc _
     have HB:=hdz (aiz (own_keep HR.out.gc.long hfb λ_ _=>trivial) (lez HR.out.base hfb.size))
     refine step_app_keep etStr rfl (.tmp 67) (.tmp 76) rfl W0.heap.size (.slice A2 (c+j) c2) _ _ rfl HB.out.1 _ ⟨wa.heap.size,0,none⟩ 1 1 [str tx] rfl (Rd.one_of (Blk.new wa 9 #[str tx]) rfl) (by omega) (by intro u hu;simp only[List.mem_singleton] at hu;subst hu;rfl) (by have:=HLn.out;omega) HB.out.2 ?_
     intro v2 w2 ho2 hk2 hr2
     obtain⟨A3,c3,rfl⟩:=own_form0 ho2
     have hg2:=(HR.out.fresh hfb).stepC (G':=.slice A3 (c+j+1) c3) ho2 HTx.out hk2 hr2
     have hy:=((HR.out.fresh hfb).blkC hk2)
     have u1:=HY3.out w2 hy
     have hS3:=HY4.out _ hg2
     obtain⟨w3,hw3⟩:=exz (w2.setCell ⟨g,o+7,none⟩ (.slice A3 (c+j+1) c3))
     rw[←hw3] at hg2 hS3
     have HG3:=hdz hg2
     have HW3:=hdz hw3
     obtain⟨u1,u9,fu,lu⟩:=u1
     clear ho2 hk2 hr2 hg2 hy hw3 hfb HB
     refine hK.out _ _ u9 (λhHeld=>?_)
     clear hK K
     try simp only[Act.put,zp1,zp2,zp3]
     refine wpAnyH_take (i:=15) (v:=.pointer (some ⟨g,o,none⟩)) rfl (by kernel_rfl) (by kernel_rfl) (by kernel_rfl) (λ_ _ _ h=>h) (Or.inl ⟨by rfl,by intro w hSw;go_simp⟩) hHeld ?_
     simp only[Act.put,zp1,zp2,zp3]
     refine wpAnyH_take (i:=16) (v:=.pointer (some ⟨g,o+7,none⟩)) rfl (by kernel_rfl) (by kernel_rfl) (by kernel_rfl) (λ_ _ _ h=>h) (Or.inl ⟨by rfl,by intro w hSw;go_simp⟩) hHeld ?_
     simp only[Act.put,zp1,zp2,zp3]
     refine wpAnyH_ready (rs:=[17]) (by kernel_rfl) (by simp) ?_
     refine AllReadyH.cons rfl (λK hK=>?_) AllReadyH.nil
     go_simp
     rw[←HW3.out]
     refine hK.out _ _ hS3 (λhHeld=>?_)
     clear hK K hHeld
     refine wpAnyH_done (by kernel_rfl) ?_ _
     clear u1 u9 fu lu HW3 hS3
     go_wp2_with fail
     exact⟨⟨j+1,by omega,by simp,hdz ⟨_,_,_,HG3.out⟩⟩,by simp only[intOf];omega⟩
  ·obtain rfl:j=64:=by omega
   have hji:¬((64:Nat):Int)<64:=by omega
   obtain⟨Ga,Gb,Gc,hR⟩:=HR0.out
   have HR:=hdz hR
   clear hR HR0
   go_wp2_with fail
   go_end0
   first
    | exact⟨rfl,w1,HS1.out.1,HS1.out.2,Ga,Gb,Gc,HR.out⟩
    | exact⟨rfl,w1,Ga,Gb,Gc,HS1.out.1,HS1.out.2,HR.out⟩
theorem page_info:(Tryz.prog.info? 161).map (λi=>(i.zero,i.size,i.bytes))=some (some (.agg #[.slice none 0 0,.slice none 0 0,.slice none 0 0,.int .i64 0,.bool false]),5,88):=by kernel_rfl
theorem etPage:ET Tryz.prog 77 161 5 88 (.agg #[.slice none 0 0,.slice none 0 0,.slice none 0 0,.int .i64 0,.bool false]):=⟨Tryz.underlying77,page_info,rfl,by decide,by decide⟩
theorem page_one (A1 A2 A3:Option Addr)(n1 c1 n2 c2 n3 c3:Nat)(id:Int)(d:Bool):∀u∈[Value.slice A1 n1 c1,.slice A2 n2 c2,.slice A3 n3 c3,.int .i64 id,.bool d],u.oneCell'=true:=by
 intro u hu
 simp only[List.mem_cons,List.not_mem_nil,or_false] at hu
 rcases hu with rfl | rfl | rfl | rfl | rfl <;> rfl
theorem BookIs.at {w:World}{Hd:PlH}{B K:Nat}{S:Nat→Prop}{V:Value}{nx:Int}{ps:List Pg}(h:BookIs w Hd B K S V nx ps){i:Nat}(hi:i<ps.length):∃g c,V=.slice (some ⟨g,0,none⟩) ps.length c∧g<w.heap.size∧PgAt w g (i*5) ps[i]∧ps[i].b.ownBlock≠some g∧S g:=by
 obtain⟨g,c,hV,_,hg,_⟩:=own_nonnil h.row (by omega)
 have hVg:V.ownBlock=some g:=by rw[hV];rfl
 have hc:∀j,j<5→∀u,ps[i].cells[j]?=some u→w.cell? ⟨g,i*5+j,none⟩=some u:=λj hj u hu=>own_cell h.row hVg (by rw[rcells_get pg_five ps i hi j hj];exact hu)
 refine⟨g,c,hV,hg,⟨hc 0 (by omega) _ rfl,hc 1 (by omega) _ rfl,hc 2 (by omega) _ rfl,hc 3 (by omega) _ rfl,hc 4 (by omega) _ rfl,λj=>own_frozen h.row j hVg⟩,λe=>?_,h.inV g hVg⟩
 exact own_ne_own h.row (h.pages _ (List.getElem_mem hi)).own (by decide) hVg e
theorem intact_any (Hd:PlH) (B K:Nat) (S:Nat→Prop) (w:World) (h:BookOk w Hd B K S) :
 Calls Tryz.prog 102 #[.pointer (some ⟨K,6,none⟩)] w λe w'=>e=.returned (.bool true)∧Fresh w w':=by
 obtain⟨V,nx,ps,h,hst⟩:=h
 have HB:=hdz (aiz h hst)
 obtain⟨A,c,rfl⟩:=own_form0 h.row
 obtain⟨n,hn⟩:=exz (ps.length)
 rw[←hn] at HB h
 have hn96:=h.len
 rw[←hn] at hn96
 have x0:=h.blk.cell 6
 have x1:=h.blk.cell 7
 simp at x0 x1
 have X:=hdz (aiz x0 (aiz x1 hn))
 clear h hst x0 x1 hn
 go_enter Tryz.func102,Tryz.ntmps102
 go_wp2
 go_loopw [3] (λi wr=>∃k:Nat,k≤n∧i=.int .i64 (k:Int)∧Hid (Fresh w wr)) (λi _=>n - (intOf i).toNat)
 case atStart=>exact⟨0,Nat.zero_le _,rfl,krz _ _⟩
 case round=>
  obtain⟨k,hk,rfl,HW⟩:=hrel
  have y0:=HW.out.cellAt X.out.1 trivial
  by_cases hlt:k<n
  ·have hk2:k<ps.length:=by rw[←X.out.2.2];exact hlt
   have hbk:=HB.out.1.keep HW.out (λ_ _=>trivial)
   obtain⟨g,c2,hV,hg,hat,-,-⟩:=hbk.at hk2
   obtain⟨p,hp⟩:=exz (ps[k])
   rw[←hp] at hat
   have HC:=hdz (shows_any p B wr (by rw[hp];exact hbk.pages _ (List.getElem_mem hk2)) (by rw[hp];exact HB.out.2 _ (List.getElem_mem hk2)))
   injection hV with hV1 hV2 hV3
   subst hV1 hV3
   obtain⟨c0,c1,c2',c3,c4,-⟩:=hat
   clear hp hbk hk2 hV2
   go_wp2_with fail
   refine HC.out.mono ?_
   rintro e w1 ⟨rfl,hf⟩
   have HN:=hdz (HW.out.trans hf)
   clear hf HC c0 c1 c2' c3 c4 y0 HW hg
   go_wp2
   exact⟨⟨k+1,by omega,congrArg _ (by omega),HN.out⟩,by simp[intOf];omega⟩
  ·have y1:=HW.out.cellAt X.out.2.1 trivial
   go_wp2
   go_loopw [4] (λi wr2=>i=.int .i64 0∧wr2=wr) (λi _=>0)
   case atStart=>exact⟨rfl,rfl⟩
   case round=>
    obtain⟨rfl,rfl⟩:=hrel
    go_wp2
    go_ret
    exact⟨rfl,HW.out⟩
theorem bkeep_close {Hd:PlH} {B K n m c c1 c2 c3:Nat} {S:Nat→Prop} {A A1 A2 A3:Option Addr} {nx:Int} {ps:List Pg} {bs:List UInt8} {w W W1 w1 wX w3:World} (h:BookIs w Hd B K S (.slice A n c) nx ps) (hst:∀p∈ps,p.st≠1) (hm:m=bs.length) (hn:n=ps.length)
 (hown:w.ownsRow B 5 1 (.slice A1 m c1) m (Lib.byteCells bs)) (hlen:m≤1099511627000) (hnew:∀k,(Value.slice A1 m c1).ownBlock=some k→¬S k) (hB:B≤w.heap.size) (hn96:n<96)
 (hkW:Keep (λk=>k≠K) w W) (hs:W.heap.size=w.heap.size) (hk01:Fresh W W1) (hblk:Blk W K 83 (bookC Hd (.slice A n c) (nx+1)))
 (ho1:w1.ownsRow B 5 1 (.slice A2 m c2) m (Lib.byteCells bs)) (hk1:Keep (λk=>(Value.slice (some ⟨W.heap.size,0,none⟩) 0 0).ownBlock≠some k) W1 w1) (hn1:Next W1.heap.size (.slice (some ⟨W.heap.size,0,none⟩) 0 0) (.slice A2 m c2)) (hkX:Fresh w1 wX)
 (ho3:w3.ownsRow B 161 5 (.slice A3 (n+1) c3) (n+1) (gcells ps++[Value.slice A1 m c1,.slice none 0 0,.slice A2 m c2,.int .i64 (nx+1),.bool false])) (hk3:Keep (λk=>(Value.slice A n c).ownBlock≠some k) wX w3) (hn3:Next wX.heap.size (.slice A n c) (.slice A3 (n+1) c3)) :
 BookOk (w3.setCell ⟨K,6,none⟩ (.slice A3 (n+1) c3)) Hd B K (λk=>S k∨(Value.slice A1 m c1).ownBlock=some k∨(w.heap.size≤k∧k<(w3.setCell ⟨K,6,none⟩ (.slice A3 (n+1) c3)).heap.size))∧Keep (λk=>¬S k) w (w3.setCell ⟨K,6,none⟩ (.slice A3 (n+1) c3)):=by
 have hfs:(w3.setCell ⟨K,6,none⟩ (.slice A3 (n+1) c3)).heap.size=w3.heap.size:=by simp[World.setCell]
 have hW1:Keep (λk=>k≠W.heap.size) W1 w1:=hk1.weaken λk _ hk=>by simp[Value.ownBlock];omega
 have hA:Keep (λk=>k≠K) w w1:=(hkW.comp hk01 (λ_ _ h=>h) (λ_ _ _=>trivial)).comp hW1 (λ_ _ h=>h) (λk hk _=>by omega)
 have hkB:Keep (λk=>k≠K∧(Value.slice A n c).ownBlock≠some k) w w3:=(hA.comp hkX (λ_ _ h=>h) (λ_ _ _=>trivial)).comp hk3 (λ_ _ h=>h.1) (λ_ _ h=>h.2)
 have hkF:Keep (λk=>k≠K∧(Value.slice A n c).ownBlock≠some k) w (w3.setCell ⟨K,6,none⟩ (.slice A3 (n+1) c3)):=hkB.setCell (λ_ h=>h.1 rfl) _
 have hA2:∀k,(Value.slice A2 m c2).ownBlock=some k→w.heap.size≤k:=by
  intro k hk
  rcases hn1 with e | ⟨g,e,hg⟩
  ·rw[e] at hk
   simp[Value.ownBlock] at hk
   omega
  ·rw[e] at hk
   injection hk with hk
   have:=hk01.size
   omega
 have hVlt:∀k,(Value.slice A n c).ownBlock=some k→k<w.heap.size:=λk e=>(own_lt h.row e).2
 have hVK:(Value.slice A n c).ownBlock≠some K:=own_ne_blk h.row h.blk (by decide)
 have hKlt:=h.blk.lt
 have hs13:w1.heap.size≤w3.heap.size:=lez hkX.size hk3.size
 have hk13:Keep (λk=>(Value.slice A n c).ownBlock≠some k∧k≠K) w1 (w3.setCell ⟨K,6,none⟩ (.slice A3 (n+1) c3)):=(hkX.comp hk3 (λ_ _ _=>trivial) (λ_ _ h=>h.1)).setCell (λ_ h=>h.2 rfl) _
 obtain⟨q,hq⟩:∃q:Pg,q=⟨.slice A1 m c1,.slice none 0 0,.slice A2 m c2,nx+1,0,bs⟩:=⟨_,rfl⟩
 have hqb:∀k,q.blk k↔((Value.slice A1 m c1).ownBlock=some k∨(Value.slice A2 m c2).ownBlock=some k):=by
  intro k
  rw[hq]
  simp[Pg.blk]
 have hqcells:q.cells=[Value.slice A1 m c1,.slice none 0 0,.slice A2 m c2,.int .i64 (nx+1),.bool false]:=by rw[hq];rfl
 have hqok:q.ok (w3.setCell ⟨K,6,none⟩ (.slice A3 (n+1) c3)) B:=by
  have h1:=own_keep hown hkF (λk e=>⟨λe2=>hnew k e (e2 ▸ h.inK),λe2=>hnew k e (h.inV k e2)⟩)
  have h2:=own_keep ho1 hk13 (λk e=>⟨λe2=>by have:=hVlt k e2;have:=hA2 k e;omega,λe2=>by have:=hA2 k e;omega⟩)
  rw[hq]
  refine⟨?_,?_,?_,?_,?_,λ_=>?_,λh=>absurd h (by simp),λh=>by simp at h⟩
  ·rw[←hm];exact h1
  ·show bs.length≤_;omega
  ·show (0:Int)≤nx+1;have:=h.nlo;omega
  ·show nx+1≤(1000000:Int);have:=h.nhi;omega
  ·show 0≤2;omega
  ·rw[←hm];exact h2
 have hblk3:Blk (w3.setCell ⟨K,6,none⟩ (.slice A3 (n+1) c3)) K 83 (bookC Hd (.slice A3 (n+1) c3) (nx+1)):=by
  have h1:=((hblk.keep hk01 trivial).keep hW1 (by omega)).keep hkX trivial
  have h2:=(h1.keep hk3 hVK).set 6 (.slice A3 (n+1) c3)
  simpa using h2
 have hrow3:(w3.setCell ⟨K,6,none⟩ (.slice A3 (n+1) c3)).ownsRow B 161 5 (.slice A3 (n+1) c3) (ps.length+1) (gcells (ps++[q])):=by
  have h1:=own_far ho3 (p:=⟨K,6,none⟩) (λe=>by
   rcases hn3 with e2 | ⟨g,e2,hg⟩
   ·exact hVK (e2.symm.trans e)
   ·rw[e2] at e
    injection e with e
    have e3:g=K:=e
    have:=hkX.size
    have:=hA.size
    omega) (.slice A3 (n+1) c3)
  have e1:gcells (ps++[q])=gcells ps++[Value.slice A1 m c1,.slice none 0 0,.slice A2 m c2,.int .i64 (nx+1),.bool false]:=by
   rw[←hqcells]
   show rcells _ _=_
   rw[rcells_append]
   congr 1
  rw[e1,←hn]
  exact h1
 refine⟨⟨.slice A3 (n+1) c3,nx+1,ps++[q],?_,λp hp=>?_⟩,hkF.weaken λk _ hk=>⟨λe=>hk (e ▸ h.inK),λe=>hk (h.inV k e)⟩⟩
 ·refine h.push hqok hblk3 (by omega) hrow3 (hkF.weaken λk _ hk=>⟨hk.1,hk.2.1⟩) (λp hp k e hqk=>?_) (λk hk=>.inl hk) (λk hk=>?_) (λk hk=>?_)
  ·rcases (hqb k).1 hqk with e2 | e2
   ·exact hnew k e2 (h.inP p hp k e)
   ·have:=(h.pages p hp).lt e
    have:=hA2 k e2
    omega
  ·rcases (hqb k).1 hk with e2 | e2
   ·exact .inr (.inl e2)
   ·refine .inr (.inr ⟨hA2 k e2,?_⟩)
    have:=(own_lt ho1 e2).2
    omega
  ·rcases hn3 with e2 | ⟨g,e2,hg⟩
   ·exact .inl (h.inV k (e2 ▸ hk))
   ·refine .inr (.inr ⟨?_,?_⟩)
    ·rw[e2] at hk
     injection hk with hk
     have:=hkX.size
     have:=hA.size
     omega
    ·have:=(own_lt ho3 hk).2
     omega
 ·rcases List.mem_append.1 hp with hp | hp
  ·exact hst p hp
  ·obtain rfl:p=q:=by simpa using hp
   rw[hq]
   show 0≠1
   omega
theorem bool_info:(Tryz.prog.info? 4).map (λi=>(i.zero,i.size,i.bytes))=some (some (.bool false),1,1):=by kernel_rfl
theorem etBool:ET Tryz.prog 127 4 1 1 (.bool false):=⟨Tryz.underlying127,bool_info,rfl,by decide,by decide⟩
def bools (fl:List Bool):List Value:=fl.map Value.bool
theorem BookIs.tight {w:World}{Hd:PlH}{B K:Nat}{S:Nat→Prop}{V:Value}{nx:Int}{ps:List Pg}(h:BookIs w Hd B K S V nx ps):BookIs w Hd B K (λk=>S k∧k<w.heap.size) V nx ps:=
 ⟨h.blk,h.row,h.pages,h.apart,h.len,h.nlo,h.nhi,⟨h.inK,h.blk.lt⟩,λk e=>⟨h.inV k e,(own_lt h.row e).2⟩,λp hp k e=>⟨h.inP p hp k e,(h.pages p hp).lt e⟩⟩
structure Fill (w wr:World)(Hd:PlH)(B K gf n:Nat)(S:Nat→Prop)(V:Value)(nx:Int)(k:Nat)(qs:List Pg)(fl:List Bool):Prop where
 len:qs.length=n
 book:BookIs wr Hd B K S V nx qs
 row:wr.ownsRow w.heap.size 4 1 (.slice (some ⟨gf,0,none⟩) n n) n (bools fl)
 done:∀i (hi:i<qs.length) (hf:i<fl.length),i<k→(qs[i].st=1∧fl[i]=true)∨(qs[i].st=2∧fl[i]=false)
 rest:∀i (hi:i<qs.length),k≤i→qs[i].st≠1
 keep:Keep (λk=>¬S k) w wr
structure Grow (w wr:World)(Hd:PlH)(B K gf n:Nat)(S:Nat→Prop)(V:Value)(nx:Int)(k:Nat)(qs:List Pg)(fl:List Bool):Prop where
 len:qs.length=n
 book:BookIs wr Hd B K (λk=>S k∨w.heap.size≤k) V nx qs
 row:wr.ownsRow w.heap.size 4 1 (.slice (some ⟨gf,0,none⟩) n n) n (bools fl)
 done:∀i (hi:i<qs.length),i<k→qs[i].st=2
 rest:∀i (hi:i<qs.length) (hf:i<fl.length),k≤i→(qs[i].st=1∧fl[i]=true)∨(qs[i].st=2∧fl[i]=false)
 keep:Keep (λk=>¬S k) w wr
theorem bools_get {fl:List Bool}{k:Nat}(hk:k<fl.length):(bools fl)[k]?=some (.bool fl[k]):=by simp[bools,hk]
theorem bools_set (fl:List Bool)(k:Nat)(b:Bool):(bools fl).set k (.bool b)=bools (fl.set k b):=by simp[bools,List.map_set]
theorem bools_len {w:World}{b n:Nat}{v:Value}{fl:List Bool}(h:w.ownsRow b 4 1 v n (bools fl)):fl.length=n:=by simpa[bools] using h.1
theorem flag_row {w:World}{base gf n k:Nat}{fl:List Bool}(h:w.ownsRow base 4 1 (.slice (some ⟨gf,0,none⟩) n n) n (bools fl))(hk:k<n)(b:Bool) :
 (w.setCell ⟨gf,k,none⟩ (.bool b)).ownsRow base 4 1 (.slice (some ⟨gf,0,none⟩) n n) n (bools (fl.set k b)):=by
 rw[←bools_set]
 exact own_set h rfl (by omega) _
theorem keep_flag (w:World)(gf k:Nat)(b:Bool):Keep (λi=>i≠gf) w (w.setCell ⟨gf,k,none⟩ (.bool b)):=(krz _ w).setCell (λ_ h=>h rfl) _
theorem get_set_ne {α:Type}{l:List α}{i k:Nat}{x:α}(hi:i<(l.set k x).length)(hne:i≠k):(l.set k x)[i]=l[i]'(by simpa using hi):=List.getElem_set_ne (λh=>hne h.symm) _
theorem get_set_eq {α:Type}{l:List α}{k:Nat}{x:α}(hi:k<(l.set k x).length):(l.set k x)[k]=x:=by simp
theorem Fill.over {w wr:World} {Hd:PlH} {B K gf n k:Nat} {S:Nat→Prop} {V:Value} {nx:Int} {qs:List Pg} {fl:List Bool} (h:Fill w wr Hd B K gf n S V nx k qs fl) (hS:∀i,S i→i≠gf) (hk:k<n) (hq:k<qs.length) (hst:qs[k].st=2) :
 Fill w (wr.setCell ⟨gf,k,none⟩ (.bool false)) Hd B K gf n S V nx (k+1) qs (fl.set k false):=by
 refine⟨h.len,h.book.keep (keep_flag wr gf k false) hS,flag_row h.row hk false,λi hi hf hlt=>?_,λi hi hle=>h.rest i hi (by omega),h.keep.setCell (λhlt hz=>?_) _⟩
 ·have hf0:i<fl.length:=by simpa using hf
  by_cases e:i=k
  ·subst e
   exact .inr ⟨hst,get_set_eq hf⟩
  ·rw[get_set_ne hf e]
   exact h.done i hi hf0 (by omega)
 ·have:=(own_lt h.row (g:=gf) rfl).1
  have e:gf<w.heap.size:=hlt
  omega
theorem Fill.over0 {w wr w3:World} {Hd:PlH} {B K gf g c n k:Nat} {S:Nat→Prop} {nx:Int} {qs:List Pg} {fl:List Bool} (h:Fill w wr Hd B K gf n S (.slice (some ⟨g,0,none⟩) n c) nx k qs fl) (hS:∀i,S i→i≠gf) (hk:k<n) (hq:k<qs.length) (hst:qs[k].st=0)
 (ho:w3.ownsRow B 5 1 qs[k].b qs[k].now.length (Lib.byteCells (pats qs[k].id qs[k].now.length))) (hk3:Keep (λi=>qs[k].b.ownBlock≠some i) (wr.setCell ⟨gf,k,none⟩ (.bool true)) w3) :
 Fill w (w3.setCell ⟨g,k*5+4,none⟩ (.bool true)) Hd B K gf n S (.slice (some ⟨g,0,none⟩) n c) nx (k+1) (qs.set k { qs[k] with st:=1,now:=pats qs[k].id qs[k].now.length }) (fl.set k true):=by
 have hb2:=h.book.keep (keep_flag wr gf k true) hS
 have hrow2:=flag_row h.row hk true
 have hmem:=List.getElem_mem hq
 have hgV:(Value.slice (some ⟨g,0,none⟩) n c).ownBlock=some g:=rfl
 have hpg:qs[k].b.ownBlock≠some g:=λe=>own_ne_own hb2.row (hb2.pages _ hmem).own (by decide) hgV e
 have hSp:∀i,qs[k].b.ownBlock=some i→S i:=λi e=>h.book.inP _ hmem i (.inl e)
 have hbf:qs[k].b.ownBlock≠some gf:=λe=>hS gf (hSp gf e) rfl
 have hggf:g≠gf:=hS g (h.book.inV g hgV)
 have hq1:Pg.ok (w3.setCell ⟨g,k*5+4,none⟩ (.bool true)) B { qs[k] with st:=1,now:=pats qs[k].id qs[k].now.length }:=by
  have hp:=hb2.pages _ hmem
  refine⟨?_,?_,hp.idl,hp.idh,by simp,λh=>by simp at h,λ_=>?_,λh=>by simp at h⟩
  ·show (w3.setCell ⟨g,k*5+4,none⟩ (.bool true)).ownsRow B _ 1 qs[k].b (pats qs[k].id qs[k].now.length).length _
   rw[pats_len]
   exact own_far ho hpg _
  ·show (pats qs[k].id qs[k].now.length).length≤_
   rw[pats_len]
   exact hp.len
  ·show pats qs[k].id qs[k].now.length=pats qs[k].id (pats qs[k].id qs[k].now.length).length
   rw[pats_len]
 have hkk:Keep (λi=>(Value.slice (some ⟨g,0,none⟩) n c).ownBlock≠some i∧¬qs[k].blk i) (wr.setCell ⟨gf,k,none⟩ (.bool true)) (w3.setCell ⟨g,k*5+4,none⟩ (.bool true)):=
  (hk3.weaken (λi _ hi e=>hi.2 (.inl e))).setCell (λ_ hi=>hi.1 rfl) _
 have hrow:(w3.setCell ⟨g,k*5+4,none⟩ (.bool true)).ownsRow B 161 5 (.slice (some ⟨g,0,none⟩) n c) qs.length (gcells (qs.set k { qs[k] with st:=1,now:=pats qs[k].id qs[k].now.length })):=by
  have h1:=own_keep hb2.row hk3 (λi e e2=>by
   rw[hgV] at e
   injection e with e
   exact hpg (e ▸ e2))
  have h2:=own_set h1 hgV (i:=k*5+4) (by omega) (.bool true)
  rwa [show (gcells qs).set (k*5+4) (.bool true)=gcells (qs.set k { qs[k] with st:=1,now:=pats qs[k].id qs[k].now.length }) from rcells_set pg_five qs k hq 4 (.bool true) _ (by omega) rfl] at h2
 refine⟨by simpa using h.len,hb2.turn hq hq1 hrow hkk (λi e=>?_) (λ_ h=>h) (λi e=>?_),?_,λi hi hf hlt=>?_,λi hi hle=>?_,?_⟩
 ·rcases e with e | ⟨e1,e⟩ | ⟨e1,e⟩
  ·exact .inl (.inl e)
  ·simp at e1
  ·simp at e1
 ·rcases e with e | ⟨e1,e⟩ | ⟨e1,e⟩
  ·exact hSp i e
  ·simp at e1
  ·simp at e1
 ·refine own_keep hrow2 hkk (λi e=>?_)
  simp only[Value.ownBlock,Option.map_some] at e
  injection e with e
  subst e
  refine⟨λe2=>?_,λe2=>hS gf (h.book.inP _ hmem gf e2) rfl⟩
  rw[hgV] at e2
  injection e2 with e2
  exact hggf e2
 ·have hi0:i<qs.length:=by simpa using hi
  have hf0:i<fl.length:=by simpa using hf
  by_cases e:i=k
  ·subst e
   rw[get_set_eq hi,get_set_eq hf]
   exact .inl ⟨rfl,rfl⟩
  ·rw[get_set_ne hi e,get_set_ne hf e]
   exact h.done i hi0 hf0 (by omega)
 ·have hi0:i<qs.length:=by simpa using hi
  rw[get_set_ne hi (by omega)]
  exact h.rest i hi0 (by omega)
 ·refine (h.keep.comp (keep_flag wr gf k true) (λ_ _ h=>h) (λi hi _ e=>?_)).comp hkk (λ_ _ h=>h) (λi hi hz=>⟨λe=>hz (h.book.inV i e),λe=>hz (h.book.inP _ hmem i e)⟩)
  have:=(own_lt h.row (g:=gf) rfl).1
  omega
theorem Grow.skip {w wr:World}{Hd:PlH}{B K gf n k:Nat}{S:Nat→Prop}{V:Value}{nx:Int}{qs:List Pg}{fl:List Bool}(h:Grow w wr Hd B K gf n S V nx k qs fl)(hq:k<qs.length)(hst:qs[k].st=2):Grow w wr Hd B K gf n S V nx (k+1) qs fl:=by
 refine⟨h.len,h.book,h.row,λi hi hlt=>?_,λi hi hf hle=>h.rest i hi hf (by omega),h.keep⟩
 by_cases e:i=k
 ·subst e;exact hst
 ·exact h.done i hi (by omega)
theorem Grow.long {w wr w3:World} {Hd:PlH} {B K gf g c n k:Nat} {S:Nat→Prop} {nx:Int} {qs:List Pg} {fl:List Bool} {G:Value} (h:Grow w wr Hd B K gf n S (.slice (some ⟨g,0,none⟩) n c) nx k qs fl) (hS:∀i,S i→i<w.heap.size) (hk:k<n) (hq:k<qs.length) (hst:qs[k].st=1)
 (ho:w3.ownsRow B 5 1 qs[k].b qs[k].now.length (Lib.byteCells qs[k].now)) (hG:w3.ownsRow B 5 1 G (qs[k].now.length+64) (Lib.byteCells (qs[k].now++pats (qs[k].id+100000) 64)))
 (hk3:Keep (λi=>qs[k].b.ownBlock≠some i) wr w3) (hnG:Next wr.heap.size qs[k].b G) :
 Grow w (w3.setCell ⟨g,k*5+1,none⟩ G) Hd B K gf n S (.slice (some ⟨g,0,none⟩) n c) nx (k+1) (qs.set k { qs[k] with g:=G,st:=2 }) fl:=by
 have hmem:=List.getElem_mem hq
 have hgV:(Value.slice (some ⟨g,0,none⟩) n c).ownBlock=some g:=rfl
 have hb:=h.book
 have hp:=hb.pages _ hmem
 have hpg:qs[k].b.ownBlock≠some g:=λe=>own_ne_own hb.row hp.own (by decide) hgV e
 have hrow3:=own_keep hb.row hk3 (λi e e2=>by
  rw[hgV] at e
  injection e with e
  exact hpg (e ▸ e2))
 have hGg:G.ownBlock≠some g:=λe=>own_ne_own hrow3 hG (by decide) hgV e
 have hflag3:=own_keep h.row hk3 (λi e e2=>own_ne_own h.row hp.own (by decide) e e2)
 have hgf:(Value.slice (some ⟨gf,0,none⟩) n n).ownBlock≠some g:=own_ne_own hrow3 hflag3 (by decide) hgV
 have hq1:Pg.ok (w3.setCell ⟨g,k*5+1,none⟩ G) B { qs[k] with g:=G,st:=2 }:=
  ⟨own_far ho hpg _,hp.len,hp.idl,hp.idh,by simp,λh=>by simp at h,λ_=>hp.full (by omega),λ_=>own_far hG hGg _⟩
 have hkk:Keep (λi=>(Value.slice (some ⟨g,0,none⟩) n c).ownBlock≠some i∧¬qs[k].blk i) wr (w3.setCell ⟨g,k*5+1,none⟩ G):=
  (hk3.weaken (λi _ hi e=>hi.2 (.inl e))).setCell (λ_ hi=>hi.1 rfl) _
 have hrow:(w3.setCell ⟨g,k*5+1,none⟩ G).ownsRow B 161 5 (.slice (some ⟨g,0,none⟩) n c) qs.length (gcells (qs.set k { qs[k] with g:=G,st:=2 })):=by
  have h2:=own_set hrow3 hgV (i:=k*5+1) (by omega) G
  have hd:qs[k].done=true:=by simp[Pg.done,hst]
  rwa [show (gcells qs).set (k*5+1) G=gcells (qs.set k { qs[k] with g:=G,st:=2 }) from rcells_set pg_five qs k hq 1 G _ (by omega) (by simp[Pg.cells,Pg.done,hst])] at h2
 have hnew:∀i,Pg.blk { qs[k] with g:=G,st:=2 } i→qs[k].blk i∨wr.heap.size≤i:=λi e=>by
  rcases e with e | ⟨e1,e⟩ | ⟨e1,e⟩
  ·exact .inl (.inl e)
  ·simp at e1
  ·rcases hnG with e2 | ⟨j,e2,hj⟩
   ·exact .inl (.inl (e2.symm.trans e))
   ·have e3:G.ownBlock=some i:=e
    rw[e2] at e3
    injection e3 with e3
    exact .inr (by omega)
 refine⟨by simpa using h.len,hb.turn hq hq1 hrow hkk hnew (λ_ h=>h) (λi e=>?_),own_far hflag3 hgf _,λi hi hlt=>?_,λi hi hf hle=>?_,?_⟩
 ·rcases hnew i e with e | e
  ·exact hb.inP _ hmem i e
  ·exact .inr (lez h.keep.size e)
 ·by_cases e:i=k
  ·subst e
   rw[get_set_eq hi]
  ·rw[get_set_ne hi e]
   exact h.done i (by simpa using hi) (by omega)
 ·rw[get_set_ne hi (by omega)]
  exact h.rest i (by simpa using hi) hf (by omega)
 ·refine h.keep.comp hkk (λ_ _ h=>h) (λi hi hz=>⟨λe=>?_,λe=>?_⟩)
  ·rcases hb.inV i e with e | e
   ·exact hz e
   ·omega
  ·rcases hb.inP _ hmem i e with e | e
   ·exact hz e
   ·omega
theorem Fill.grow {w wr:World}{Hd:PlH}{B K gf n:Nat}{S:Nat→Prop}{V:Value}{nx:Int}{qs:List Pg}{fl:List Bool}(h:Fill w wr Hd B K gf n S V nx n qs fl):Grow w wr Hd B K gf n S V nx 0 qs fl:=
 ⟨h.len,h.book.weaken λ_ h=>.inl h,h.row,λi _ h=>by omega,λi hi hf _=>h.done i hi hf (by have:=h.len;omega),h.keep⟩
theorem settle_any (Hd:PlH) (B K:Nat) (S:Nat→Prop) (w:World) (h:BookOk w Hd B K S) (hB:B≤w.heap.size) :
 Calls Tryz.prog 64 #[.pointer (some ⟨K,6,none⟩)] w λe w'=>e=.returned (.bool true)∧BookOk w' Hd B K (λk=>S k∨(w.heap.size≤k∧k<w'.heap.size))∧Keep (λk=>¬S k) w w':=by
 have HI:=hdz (intact_any Hd B K S w h)
 obtain⟨V,nx,ps,h,hst⟩:=h
 obtain⟨T,hT⟩:∃T:Nat→Prop,T=λk=>S k∧k<w.heap.size:=⟨_,rfl⟩
 have ht:=h.tight
 rw[←hT] at ht
 obtain⟨A,c,rfl⟩:=own_form0 h.row
 obtain⟨n,hn⟩:=exz (ps.length)
 have hn96:=h.len
 rw[←hn] at ht hn96
 have HB:=hdz (aiz ht (aiz hst (aiz hB (aiz hT hn))))
 have x0:=ht.blk.cell 6
 have x1:=ht.blk.cell 7
 simp at x0 x1
 have X:=hdz (aiz x0 x1)
 clear h hst ht hB hT hn x0 x1
 go_enter Tryz.func64,Tryz.ntmps64
 go_wp2_with fail
 refine HI.out.mono ?_
 rintro e w1 ⟨rfl,hf1⟩
 have y0:=hf1.cellAt X.out.1 trivial
 have HF1:=hdz hf1
 clear hf1 HI
 have hw1:Hid (w1.heap.size≤w1.heap.size):=lrz _
 go_wp2_with (at_make;refine wpList_makeN etBool rfl rfl (.tmp 16) (.tmp 16) rfl w1.heap.size .i64 .i64 _ _ n n rfl rfl rfl rfl (lrz _) ?_ hw1.out ?_)
 case refine_1=>omega
 intro w2 ho2 hk2 hs2
 obtain⟨gf,hgf⟩:=exz (w1.heap.size)
 simp only[←hgf] at ho2 ⊢
 have HL0:Hid (Fill w w2 Hd B K gf n T (.slice A n c) nx 0 ps (List.replicate n false)):=by
  obtain⟨ht,hst,hB,hT,hn⟩:=HB.out
  have hf1:=HF1.out
  refine⟨hn.symm,ht.keep (hf1.trans hk2) (λ_ _=>trivial),?_,λi _ _ h=>by omega,λi hi _=>hst _ (List.getElem_mem hi),(hf1.trans hk2).weaken (λ_ _ _=>trivial)⟩
  have h0:=own_base ho2 (base':=w.heap.size) (by have:=hf1.size;omega)
  have e:bools (List.replicate n false)=List.replicate n (.bool false):=by simp[bools]
  rw[e]
  exact h0
 have HS:Hid ((∀i,T i→i≠gf)∧(∀i,T i→i<w.heap.size)):=by
  obtain⟨ht,hst,hB,hT,hn⟩:=HB.out
  have:=HF1.out.size
  rw[hT]
  exact⟨λi hi=>by have:=hi.2;omega,λi hi=>hi.2⟩
 clear ho2 hk2 hs2 hgf hw1 y0
 go_wp2
 go_loopw [4] (λi wr=>∃ (k:Nat) (qs:List Pg) (fl:List Bool),k≤n∧i=.int .i64 (k:Int)∧Hid (Fill w wr Hd B K gf n T (.slice A n c) nx k qs fl)) (λi _=>n - (intOf i).toNat)
 case atStart=>exact⟨0,_,_,Nat.zero_le _,rfl,HL0.out⟩
 case round=>
  obtain⟨k,qs,fl,hk,rfl,HL⟩:=hrel
  have hbk:=HL.out.book.blk
  have y0:=hbk.cell 6
  have y1:=hbk.cell 7
  have hKlt:=hbk.lt
  simp at y0 y1
  clear hbk
  by_cases hlt:k<n
  ·have hq:k<qs.length:=by have:=HL.out.len;omega
   obtain⟨g,c2,hV,hg,hat,-,hTg⟩:=HL.out.book.at hq
   injection hV with hV1 hVn hV3
   subst hV1 hV3
   clear hVn
   obtain⟨uf,huf⟩:=own_has HL.out.row (g:=gf) (j:=k) rfl (by omega)
   have hff:=own_frozen HL.out.row (g:=gf) k rfl
   have hgfl:=(own_lt HL.out.row (g:=gf) rfl).2
   have hKgf:K≠gf:=HS.out.1 K HL.out.book.inK
   have hggf:g≠gf:=HS.out.1 g hTg
   have c4:=hat.c4
   have hst:qs[k].st=0∨qs[k].st=2:=by
    have h1:=HL.out.rest k hq (lrz _)
    have h2:=(HL.out.book.pages _ (List.getElem_mem hq)).stl
    omega
   rcases hst with hst | hst
   ·rw[show qs[k].done=false by simp[Pg.done,hst]] at c4
    have hb2:=HL.out.book.keep (keep_flag wr gf k true) HS.out.1
    obtain⟨g',c2',hV',hg',hat',hne',-⟩:=hb2.at hq
    obtain rfl:g=g':=by simpa[Value.ownBlock] using congrArg Value.ownBlock hV'
    clear hV'
    have hp2:=hb2.pages _ (List.getElem_mem hq)
    obtain⟨p,hp⟩:=exz (qs[k])
    have HC:=fill_any qs[k] B g (k*5) _ hat' hp2.own hp2.len hne'
    rw[←hp] at HC
    replace HC:=hdz HC
    have z0:=hb2.blk.cell 6
    simp only[List.getElem?_toArray,List.getElem?_cons_zero] at z0
    have HQ:Hid (∃hq:k<qs.length,qs[k].st=0∧p=qs[k]):=⟨hq,hst,hp⟩
    clear hat hTg hb2 hg' hat' hne' hp2 hst hp
    clear hq
    go_wp2_with fail
    refine HC.out.mono ?_
    rintro e w3' ⟨rfl,w3,rfl,ho3,hk3⟩
    obtain⟨hq,hst,hp⟩:=HQ.out
    rw[hp] at ho3 hk3
    have HN:=hdz (HL.out.over0 HS.out.1 hlt hq hst ho3 hk3)
    clear ho3 hk3 hp hst HC c4 huf hff hKgf hggf hKlt y0 y1 z0 HL hgfl hg
    go_wp2
    exact⟨⟨k+1,_,_,by omega,congrArg _ (by omega),HN.out⟩,by simp[intOf];omega⟩
   ·rw[show qs[k].done=true by simp[Pg.done,hst]] at c4
    have hb2:=HL.out.book.keep (keep_flag wr gf k false) HS.out.1
    have z0:=hb2.blk.cell 6
    simp only[List.getElem?_toArray,List.getElem?_cons_zero] at z0
    have HN:=hdz (HL.out.over HS.out.1 hlt hq hst)
    clear hat hTg hb2 hst HL hg
    clear hq
    go_wp2
    exact⟨⟨k+1,_,_,by omega,congrArg _ (by omega),HN.out⟩,by simp[intOf];omega⟩
  ·obtain rfl:k=n:=by omega
   have HG0:=hdz HL.out.grow
   have hw1:Hid (wr.heap.size≤wr.heap.size):=lrz _
   clear HL
   go_wp2_with (at_make;refine wpList_makeN etBool rfl rfl (.tmp 54) (.tmp 54) rfl wr.heap.size .i64 .i64 _ _ 0 0 rfl rfl rfl rfl (lrz _) ?_ hw1.out ?_)
   case refine_1=>omega
   intro wl ho2 hk2 hs2
   have HG:Hid (Grow w wl Hd B K gf k T (.slice A k c) nx 0 qs fl):=by
    have h0:=HG0.out
    exact⟨h0.len,h0.book.keep hk2 (λ_ _=>trivial),own_keep h0.row hk2 (λ_ _=>trivial),h0.done,h0.rest,h0.keep.comp hk2 (λ_ _ h=>h) (λ_ _ _=>trivial)⟩
   have z0:=hk2.cellAt y0 trivial
   have z1:=hk2.cellAt y1 trivial
   clear ho2 hk2 hs2 hw1 HG0 y0 y1 hKlt
   go_wp2
   go_loopw [6] (λi wr2=>i=.int .i64 0∧wr2=wl) (λi _=>0)
   case atStart=>exact⟨rfl,rfl⟩
   case round=>
    obtain⟨rfl,rfl⟩:=hrel
    go_wp2
    go_loopw [7] (λi wr=>∃ (k2:Nat) (qs:List Pg),k2≤k∧i=.int .i64 (k2:Int)∧Hid (Grow w wr Hd B K gf k T (.slice A k c) nx k2 qs fl)) (λi _=>k - (intOf i).toNat)
    case atStart=>exact⟨0,_,Nat.zero_le _,rfl,HG.out⟩
    case round=>
     obtain⟨k2,qs2,hk2,rfl,HL⟩:=hrel
     have hbk:=HL.out.book.blk
     have y0:=hbk.cell 6
     have y1:=hbk.cell 7
     have hKlt:=hbk.lt
     simp at y0 y1
     clear hbk
     by_cases hlt2:k2<k
     ·have hq:k2<qs2.length:=by have:=HL.out.len;omega
      have hf:k2<fl.length:=by rw[bools_len HL.out.row];exact hlt2
      obtain⟨g,c2,hV,hg,hat,hne,-⟩:=HL.out.book.at hq
      injection hV with hV1 hVn hV3
      subst hV1 hV3
      clear hVn
      have huf:=own_cell HL.out.row (g:=gf) rfl (bools_get hf)
      have hgfl:=(own_lt HL.out.row (g:=gf) rfl).2
      have hp2:=HL.out.book.pages _ (List.getElem_mem hq)
      rcases HL.out.rest k2 hq hf (lrz _) with ⟨hst,hfl⟩ | ⟨hst,hfl⟩
      ·rw[hfl] at huf
       obtain⟨p,hp⟩:=exz (qs2[k2])
       have HC:=grow_any qs2[k2] B g (k2*5) wr hat hp2.own hp2.len hp2.idl hp2.idh hne (lez HB.out.2.2.1 HL.out.keep.size)
       rw[←hp] at HC
       replace HC:=hdz HC
       have HQ:Hid (qs2[k2].st=1∧p=qs2[k2]):=⟨hst,hp⟩
       clear hat hne hp2 hst hfl hp
       go_wp2_with fail
       refine HC.out.mono ?_
       rintro e w3' ⟨rfl,w3,G,rfl,ho3,hG3,hk3,hnG⟩
       obtain⟨hst,hp⟩:=HQ.out
       rw[hp] at ho3 hG3 hk3 hnG
       have HN:=hdz (HL.out.long HS.out.2 hlt2 hq hst ho3 hG3 hk3 hnG)
       clear ho3 hG3 hk3 hnG hp hst HC huf hgfl hKlt y0 y1 HL hg
       go_wp2
       exact⟨⟨k2+1,_,by omega,congrArg _ (by omega),HN.out⟩,by simp[intOf];omega⟩
      ·rw[hfl] at huf
       have HN:=hdz (HL.out.skip hq hst)
       clear hat hne hp2 hst hfl HL hg
       go_wp2
       exact⟨⟨k2+1,_,by omega,congrArg _ (by omega),HN.out⟩,by simp[intOf];omega⟩
     ·obtain rfl:k2=k:=by omega
      have hall:∀p∈qs2,p.st≠1:=by
       intro p hp
       obtain⟨j,hj,rfl⟩:=List.getElem_of_mem hp
       have:=HL.out.done j hj (by have:=HL.out.len;omega)
       omega
      have HI2:=hdz (intact_any Hd B K _ wr ⟨_,_,_,HL.out.book,hall⟩)
      replace hall:=hdz hall
      go_wp2
      go_loopw [8] (λi wr2=>i=.int .i64 0∧wr2=wr) (λi _=>0)
      case atStart=>exact⟨rfl,rfl⟩
      case round=>
       obtain⟨rfl,rfl⟩:=hrel
       go_wp2_with fail
       refine HI2.out.mono ?_
       rintro e w9 ⟨rfl,hf9⟩
       go_wp2
       go_ret
       obtain⟨-,-,-,hT,-⟩:=HB.out
       have hb9:=(HL.out.book.keep hf9 (λ_ _=>trivial)).tight
       refine⟨rfl,⟨_,_,_,hb9.weaken (λi hi=>?_),hall.out⟩,(HL.out.keep.comp hf9 (λ_ _ h=>h) (λ_ _ _=>trivial)).weaken (λi _ hi e=>?_)⟩
       ·rcases hi.1 with h1 | h1
        ·rw[hT] at h1;exact .inl h1.1
        ·exact .inr ⟨h1,hi.2⟩
       ·rw[hT] at e;exact hi e.1
abbrev kcells (ps:List PgD):List Value:=rcells PgD.cells ps
structure PagesIs (w:World)(B:Nat)(S:Nat→Prop)(L:Value)(ps:List PgD):Prop where
 row:w.ownsRow B 129 11 L ps.length (kcells ps)
 pages:∀p∈ps,p.ok w B
 apart:ps.Pairwise λp q=>∀k,p.blk k→¬q.blk k
 len:ps.length≤48
 inL:∀k,L.ownBlock=some k→S k
 inP:∀p∈ps,∀k,p.blk k→S k
section
variable {w w':World}{B:Nat}{S S' Z:Nat→Prop}{L L':Value}{ps:List PgD}{p q:PgD}
theorem PagesIs.keep (h:PagesIs w B S L ps)(hk:Keep Z w w')(hz:∀k,S k→Z k):PagesIs w' B S L ps:=
 ⟨own_keep h.row hk λk e=>hz k (h.inL k e),λp hp=>(h.pages p hp).keep hk λk e=>hz k (h.inP p hp k e),h.apart,h.len,h.inL,h.inP⟩
theorem PagesIs.weaken (h:PagesIs w B S L ps)(hs:∀k,S k→S' k):PagesIs w B S' L ps:=
 ⟨h.row,h.pages,h.apart,h.len,λk e=>hs k (h.inL k e),λp hp k e=>hs k (h.inP p hp k e)⟩
theorem PagesIs.tight (h:PagesIs w B S L ps):PagesIs w B (λk=>S k∧B≤k∧k<w.heap.size) L ps:=
 ⟨h.row,h.pages,h.apart,h.len,λk e=>⟨h.inL k e,own_lt h.row e⟩,λp hp k e=>⟨h.inP p hp k e,(h.pages p hp).bd e⟩⟩
theorem PgD.ok.not_row (h:p.ok w B){n:Nat}{xs:List Value}(hv:w.ownsRow B 129 11 L n xs){k:Nat}(hk:L.ownBlock=some k):¬p.blk k:=by
 obtain⟨cs,hb⟩:=own_blk hv hk
 exact h.far hb (by decide) (by decide) (by decide)
theorem apart_symP (p q:PgD)(h:∀k,p.blk k→¬q.blk k):∀k,q.blk k→¬p.blk k:=λk hq hp=>h k hp hq
theorem PagesIs.turn (h:PagesIs w B S L ps) {i:Nat} (hi:i<ps.length) (hq:q.ok w' B) (hrow:w'.ownsRow B 129 11 L ps.length (kcells (ps.set i q)))
 (hk:Keep (λk=>L.ownBlock≠some k∧¬ps[i].blk k) w w') (hqb:∀k,q.blk k→ps[i].blk k∨w.heap.size≤k) (hs:∀k,S k→S' k) (hqs:∀k,q.blk k→S' k):PagesIs w' B S' L (ps.set i q):=by
 have hVp:∀p∈ps,∀k,p.blk k→L.ownBlock≠some k:=λp hp k e hv=>(h.pages p hp).not_row h.row hv e
 have hget:∀j (hj:j<(ps.set i q).length),(j=i∧(ps.set i q)[j]=q)∨(j≠i∧∃hj':j<ps.length,(ps.set i q)[j]=ps[j]):=by
  intro j hj
  rw[List.length_set] at hj
  by_cases e:j=i
  ·subst e;exact .inl ⟨rfl,by simp⟩
  ·exact .inr ⟨e,hj,by rw[List.getElem_set_ne (λh=>e h.symm)]⟩
 refine⟨by simpa using hrow,?_,?_,by simpa using h.len,λk e=>hs k (h.inL k e),?_⟩
 ·intro p hp
  obtain⟨j,hj,rfl⟩:=List.getElem_of_mem hp
  rcases hget j hj with ⟨_,e⟩ | ⟨hne,hj',e⟩
  ·rw[e];exact hq
  ·rw[e]
   exact (h.pages _ (List.getElem_mem hj')).keep hk (λk hb=>⟨hVp _ (List.getElem_mem hj') k hb,pair_at apart_symP h.apart hj' hi hne k hb⟩)
 ·rw[List.pairwise_iff_getElem]
  intro a b ha hb hab k h1 h2
  rcases hget a ha with ⟨ea,e1⟩ | ⟨na,ha',e1⟩ <;> rcases hget b hb with ⟨eb,e2⟩ | ⟨nb,hb',e2⟩
  ·omega
  ·rw[e1] at h1
   rw[e2] at h2
   rcases hqb k h1 with h3 | h3
   ·exact pair_at apart_symP h.apart hi hb' (λe=>nb e.symm) k h3 h2
   ·have:=((h.pages _ (List.getElem_mem hb')).bd h2).2;omega
  ·rw[e1] at h1
   rw[e2] at h2
   rcases hqb k h2 with h3 | h3
   ·exact pair_at apart_symP h.apart ha' hi na k h1 h3
   ·have:=((h.pages _ (List.getElem_mem ha')).bd h1).2;omega
  ·rw[e1] at h1
   rw[e2] at h2
   exact pair_at apart_symP h.apart ha' hb' (by omega) k h1 h2
 ·intro p hp k hb
  obtain⟨j,hj,rfl⟩:=List.getElem_of_mem hp
  rcases hget j hj with ⟨_,e⟩ | ⟨hne,hj',e⟩
  ·rw[e] at hb;exact hqs k hb
  ·rw[e] at hb;exact hs k (h.inP _ (List.getElem_mem hj') k hb)
theorem PagesIs.push (h:PagesIs w B S L ps) (hq:q.ok w' B) (hlen:ps.length<48) (hrow:w'.ownsRow B 129 11 L' (ps.length+1) (kcells (ps++[q])))
 (hk:Keep (λk=>L.ownBlock≠some k∧¬q.blk k) w w') (hqa:∀p∈ps,∀k,p.blk k→¬q.blk k) (hs:∀k,S k→S' k) (hqs:∀k,q.blk k→S' k) (hL:∀k,L'.ownBlock=some k→S' k):PagesIs w' B S' L' (ps++[q]):=by
 refine⟨by simpa using hrow,?_,?_,by simp;omega,hL,?_⟩
 ·intro p hp
  rcases List.mem_append.1 hp with hp | hp
  ·exact (h.pages p hp).keep hk (λk e=>⟨λe2=>(h.pages p hp).not_row h.row e2 e,hqa p hp k e⟩)
  ·obtain rfl:p=q:=by simpa using hp
   exact hq
 ·rw[List.pairwise_append]
  refine⟨h.apart,by simp,λp hp q' hq'=>?_⟩
  obtain rfl:q'=q:=by simpa using hq'
  exact hqa p hp
 ·intro p hp k e
  rcases List.mem_append.1 hp with hp | hp
  ·exact hs k (h.inP p hp k e)
  ·obtain rfl:p=q:=by simpa using hp
   exact hqs k e
theorem PagesIs.cell (h:PagesIs w B S L ps) {i:Nat} (hi:i<ps.length):∃g c cs,L=.slice (some ⟨g,0,none⟩) ps.length c∧B≤g∧g<w.heap.size∧S g∧Blk w g 129 cs∧i*11+11≤cs.size∧∀j,j<11→cs[i*11+j]?=ps[i].cells[j]?:=by
 obtain⟨g,c,hV,hB,hg,_⟩:=own_nonnil h.row (by omega)
 have hVg:L.ownBlock=some g:=by rw[hV];rfl
 obtain⟨cs,hb⟩:=own_blk h.row hVg
 have hc:∀j,j<11→cs[i*11+j]?=ps[i].cells[j]?:=by
  intro j hj
  have hj2:j<ps[i].cells.length:=by rw[pgd_eleven];exact hj
  have h1:=own_cell h.row hVg (j:=i*11+j) (u:=ps[i].cells[j]) (by rw[rcells_get pgd_eleven ps i hi j hj,List.getElem?_eq_getElem hj2])
  rw[hb.cell] at h1
  rw[h1,List.getElem?_eq_getElem hj2]
 refine⟨g,c,cs,hV,hB,hg,h.inL g hVg,hb,?_,hc⟩
 have h1:=hc 10 (by omega)
 rcases Nat.lt_or_ge (i*11+10) cs.size with h2 | h2
 ·omega
 ·rw[Array.getElem?_eq_none h2] at h1
  exact absurd h1 (by simp[PgD.cells])
theorem rcells_turn (ps:List PgD){i:Nat}(hi:i<ps.length){j:Nat}(hj:j<11)(u:Value)(q:PgD)(he:q.cells=ps[i].cells.set j u):(kcells ps).set (i*11+j) u=kcells (ps.set i q):=rcells_set pgd_eleven ps i hi j u q hj he
def PgD.over (p:PgD):PgD:={ p with la:=fulls fullP p.mrk p.la.length,lb:=fulls fullW p.mrk p.lb.length,lc:=fulls wordT p.mrk p.lc.length,st:=1 }
def PgD.long (p:PgD)(a b c:Value):PgD:={ p with a2:=a,b2:=b,c2:=c,st:=2 }
theorem PgD.over_cells (p:PgD):p.over.cells=p.cells.set 10 (.bool true):=rfl
theorem PgD.long_cells (p:PgD)(h:p.st=1)(a b c:Value):(p.long a b c).cells=((p.cells.set 1 a).set 4 b).set 7 c:=by
 unfold PgD.cells PgD.long PgD.done
 rw[h]
 rfl
theorem PgD.over_ok (h:p.ok w B) (oa:w'.ownsRow B 71 2 p.a1 p.la.length (pcells (fulls fullP p.mrk p.la.length))) (ob:w'.ownsRow B 115 2 p.b1 p.lb.length (wcells (fulls fullW p.mrk p.lb.length))) (oc:w'.ownsRow B 9 1 p.c1 p.lc.length ((fulls wordT p.mrk p.lc.length).map str)):p.over.ok w' B:=by
 refine⟨?_,?_,?_,?_,?_,?_,h.m0,h.m1,by simp[PgD.over],λe=>by simp[PgD.over] at e,λe=>by simp[PgD.over] at e,λe=>by simp[PgD.over] at e,λ_=>?_,λ_=>?_,λ_=>?_,λe=>by simp[PgD.over] at e,λe=>by simp[PgD.over] at e,λe=>by simp[PgD.over] at e,h.s2,h.s3⟩
 ·show w'.ownsRow B _ 2 p.a1 (fulls fullP p.mrk p.la.length).length _
  rw[fulls_len];exact oa
 ·show w'.ownsRow B _ 2 p.b1 (fulls fullW p.mrk p.lb.length).length _
  rw[fulls_len];exact ob
 ·show w'.ownsRow B _ 1 p.c1 (fulls wordT p.mrk p.lc.length).length _
  rw[fulls_len];exact oc
 ·show (fulls fullP p.mrk p.la.length).length≤900
  rw[fulls_len];exact h.na
 ·show (fulls fullW p.mrk p.lb.length).length≤900
  rw[fulls_len];exact h.nb
 ·show (fulls wordT p.mrk p.lc.length).length≤900
  rw[fulls_len];exact h.nc
 ·show fulls fullP p.mrk p.la.length=fulls fullP p.mrk (fulls fullP p.mrk p.la.length).length
  rw[fulls_len]
 ·show fulls fullW p.mrk p.lb.length=fulls fullW p.mrk (fulls fullW p.mrk p.lb.length).length
  rw[fulls_len]
 ·show fulls wordT p.mrk p.lc.length=fulls wordT p.mrk (fulls wordT p.mrk p.lc.length).length
  rw[fulls_len]
theorem PgD.over_blk {k:Nat}(h:p.over.blk k):p.a1.ownBlock=some k∨p.b1.ownBlock=some k∨p.c1.ownBlock=some k:=by
 rcases h with h | ⟨e,_⟩ | ⟨e,_⟩
 ·exact h
 ·simp[PgD.over] at e
 ·simp[PgD.over] at e
theorem PgD.long_ok (h:p.ok w B)(hst:p.st=1){a b c:Value}(oa:w'.ownsRow B 71 2 p.a1 p.la.length (pcells p.la))(ob:w'.ownsRow B 115 2 p.b1 p.lb.length (wcells p.lb))(oc:w'.ownsRow B 9 1 p.c1 p.lc.length (p.lc.map str))
 (ga:w'.ownsRow B 71 2 a (p.la.length+64) (pcells (p.la++tails fullP p.mrk 64))) (gb:w'.ownsRow B 115 2 b (p.lb.length+64) (wcells (p.lb++tails fullW p.mrk 64))) (gc:w'.ownsRow B 9 1 c (p.lc.length+64) ((p.lc++tails wordT p.mrk 64).map str)):(p.long a b c).ok w' B:=by
 refine⟨oa,ob,oc,h.na,h.nb,h.nc,h.m0,h.m1,by simp[PgD.long],λe=>by simp[PgD.long] at e,λe=>by simp[PgD.long] at e,λe=>by simp[PgD.long] at e,λ_=>h.fa (by omega),λ_=>h.fb (by omega),λ_=>h.fc (by omega),λ_=>ga,λ_=>gb,λ_=>gc,⟨?_,?_,?_⟩,h.s3⟩
 ·obtain⟨A,c,e⟩:=own_form0 ga;exact⟨A,_,c,e⟩
 ·obtain⟨A,c,e⟩:=own_form0 gb;exact⟨A,_,c,e⟩
 ·obtain⟨A,c,e⟩:=own_form0 gc;exact⟨A,_,c,e⟩
end
theorem PgD.grown {W0 w w1 w':World} {g o:Nat} {cs:Array Value} {p:PgD} {Ga Gb Gc:Value} (h:p.ok w W0.heap.size) (hst:p.st=1) (hs:w1.heap.size=w.heap.size)
 (hg:GAt W0 w1 w' g o cs p.a1 p.b1 p.c1 p.la p.lb p.lc p.la.length p.lb.length p.lc.length p.mrk 64 64 64 Ga Gb Gc):(p.long Ga Gb Gc).ok w' W0.heap.size∧∀k,(p.long Ga Gb Gc).blk k→p.blk k∨w.heap.size≤k:=by
 refine⟨PgD.long_ok h hst hg.ga.own hg.gb.own hg.gc.own ?_ ?_ ?_,λk hk=>?_⟩
 ·have:=hg.ga.long
  rwa [←show pcells (p.la++tails fullP p.mrk 64)=pcells p.la++pcells (tails fullP p.mrk 64) from rcells_append _ _ _] at this
 ·have:=hg.gb.long
  rwa [←show wcells (p.lb++tails fullW p.mrk 64)=wcells p.lb++wcells (tails fullW p.mrk 64) from rcells_append _ _ _] at this
 ·have:=hg.gc.long
  rwa [←List.map_append] at this
 ·rcases hk with e | ⟨e,_⟩ | ⟨_,e | e | e⟩
  ·exact .inl (.inl e)
  ·simp[PgD.long] at e
  ·rcases hg.ga.where e with h1 | h1
   ·exact .inl (.inl (.inl h1))
   ·exact .inr (by omega)
  ·rcases hg.gb.where e with h1 | h1
   ·exact .inl (.inl (.inr (.inl h1)))
   ·exact .inr (by omega)
  ·rcases hg.gc.where e with h1 | h1
   ·exact .inl (.inl (.inr (.inr h1)))
   ·exact .inr (by omega)
end Go.Proofs.YtlibhkehebioeaaGreatDoor
