/- A PART OF THE PROOF. No condition. -/
import Derived.Test.YtlibhkehebioeaaGreatDoorP10
import Derived.Test.YtlibhkehebioeaaGreatDoorP0
import Derived.Test.YtlibhkehebioeaaGreatDoorP1
import Derived.Test.YtlibhkehebioeaaGreatDoorP9
import Derived.Test.YtlibhkehebioeaaGreatDoorP6
import Derived.Test.YtlibhkehebioeaaGreatDoorP14
import Derived.Test.YtlibhkehebioeaaGreatDoorP15
namespace Go.Proofs.YtlibhkehebioeaaGreatDoor
set_option linter.unusedVariables false
set_option linter.unusedSimpArgs false
set_option maxRecDepth 100000
set_option maxHeartbeats 40000000
open Go.RowKit
theorem pcells_one:∀ (ps:List (Txt×Txt)),∀u∈pcells ps,u.oneCell'=true
 | [],u,h=>by cases h
 | p::r,u,h=>by
  have e:pcells (p::r)=pairC p++pcells r:=rcells_cons _ _ _
  rw[e] at h
  rcases List.mem_append.1 h with h | h
  ·simp[pairC] at h
   rcases h with rfl | rfl <;> rfl
  ·exact pcells_one r u h
section
variable {B:Nat}{F:Nat→Prop}{w:World}{d:Nat}{pv hv:Value}{hs:List DLk}{s:StD}
theorem dpairs_any (h:DAt B F w d pv hv hs s) (hn:s.pairs.length≤1000) :
 Calls Tryz.prog 66 #[.pointer (some ⟨d,0,none⟩)] w λe w'=>(∃v,e=.returned v∧w'.ownsRow w.heap.size 71 2 v s.pairs.length (pcells s.pairs))∧Fresh w w':=by
 obtain⟨n,hnn⟩:=exz (s.pairs.length)
 obtain⟨ps,hps⟩:=exz (s.pairs)
 have hpr:=h.pr
 rw[←hnn,←hps] at hpr
 obtain⟨A,c,rfl,hrd,hnil⟩:=own_rd hpr
 have x0:=h.three.1
 have ld:=h.blk.lt
 rw[←hnn,←hps]
 have hf1:Fresh w (w.alloc (.cells #[] 71)):=(krz _ w).alloc _
 have hown:(w.alloc (.cells #[] 71)).ownsRow w.heap.size 71 2 (.slice (some ⟨w.heap.size,0,none⟩) 0 0) 0 []:=
  ⟨rfl,.inr ⟨w.heap.size,0,#[],rfl,lrz _,heap_alloc_new w _,lrz _,by simp only[maxLen];omega,rfl,rfl⟩⟩
 have HB:=hdz (aiz ((hrd.weaken (Z':=λ_=>True) λ_ _=>trivial).keep (hf1.weaken λ_ _ _=>trivial)) (aiz hnil (aiz hown (show n≤1000 by omega))))
 have x0:=hf1.cellAt x0 trivial
 have ld:=ltz ld hf1.size
 have hone:=pcells_one ps
 have HOne:=hdz hone
 clear h hpr hrd hnil hown hf1 hnn hps hn hone
 go_enter Tryz.func66,Tryz.ntmps66
 go_wp2_with (at_builtin;refine wpList_app etPair rfl (.tmp 3) (.tmp 7) rfl w.heap.size _ 0 [] rfl HB.out.2.2.1 _ A n c _ rfl HB.out.1 HB.out.2.1 HOne.out (by have:=HB.out.2.2.2;omega) (by simp) ?_)
 intro v' w' ho hk hnx
 have HX:=hdz (aiz ho hk)
 clear ho hk hnx
 go_wp2_with fail
 go_ret
 refine⟨⟨_,rfl,?_⟩,?_⟩
 ·have:=HX.out.1
  simpa using this
 ·exact ((krz _ w).alloc _).comp HX.out.2 (λ_ _ h=>h) (λi hi _=>by simp[Value.ownBlock];omega)
theorem dlocks_any (h:DAt B F w d pv hv hs s) (hn:s.locks.length≤1000) :
 Calls Tryz.prog 67 #[.pointer (some ⟨d,0,none⟩)] w λe w'=>(∃v,e=.returned v∧w'.ownsRow w.heap.size 9 1 v s.locks.length ((s.locks.map LockD.name).map str))∧Fresh w w':=by
 obtain⟨n,hnn⟩:=exz (s.locks.length)
 obtain⟨ns,hns⟩:=exz (s.locks.map LockD.name)
 have hlk:=h.lk
 rw[←hnn] at hlk
 obtain⟨A,c,rfl,hrd,-⟩:=own_rd hlk
 have x1:=h.three.2.1
 have ld:=h.blk.lt
 have hnl:ns.length=n:=by rw[hns,hnn];simp
 have hnm:∀j (hj:j<hs.length) (hj2:j<ns.length),hs[j].d.name=ns[j]:=λj hj hj2=>by
  subst hns
  have h2:=h.ds
  have h3:(hs.map DLk.d)[j]'(by simpa using hj)=hs[j].d:=by simp
  rw[←h3]
  simp only[h2,List.getElem_map]
 have HA:=hdz (aiz (hrd.weaken (Z':=λ_=>True) λ_ _=>trivial) (aiz hnl (aiz hnm (show n≤1000 by omega))))
 rw[←hnn,←hns]
 have hn':n≤1000:=by omega
 clear h hlk hrd hnn hns hn hnl hnm
 go_enter Tryz.func67,Tryz.ntmps67
 go_wp2_with fail
 go_loopw [3,4] (λv i wr=>∃j:Nat,j≤n∧i=.int .i64 (j:Int)∧Hid (wr.ownsRow w.heap.size 9 1 v (ns.take j).length ((ns.take j).map str)∧Fresh w wr)) (λ_ i _=>n - (intOf i).toNat)
 case atStart=>exact⟨0,by omega,rfl,hdz ⟨by exact onz _ _ _ _,krz _ _⟩⟩
 case round=>
  rename World=>wr
  obtain⟨j,hj,rfl,HR⟩:=hrel
  have x1:=HR.out.2.cellAt x1 trivial
  have ld:=ltz ld HR.out.2.size
  by_cases hlt:j<n
  ·obtain⟨hjl,b,o,rfl,-,c0,-⟩:=(HA.out.1.keep (HR.out.2.weaken λ_ _ _=>trivial)).lockE hlt
   have hj2:j<ns.length:=by rw[HA.out.2.1];exact hlt
   rw[HA.out.2.2.1 j hjl hj2] at c0
   obtain⟨y,hy⟩:=exz (ns[j])
   rw[←hy] at c0
   have HT:Hid (ns.take (j+1)=ns.take j++[y]):=hdz (by rw[List.take_succ_eq_append_getElem hj2,←hy])
   have HLn:Hid ((ns.take j).length≤1000):=hdz (by have:=List.length_take_le' j ns;have:=HA.out.2.1;have:=HA.out.2.2.2;omega)
   have lb:=lt_of_cell c0
   have hji:(j:Int)<(n:Int):=by omega
   clear hy hj2 hjl
   go_wp2_with (at_builtin;refine wpList_app1 etStr rfl (.tmp 14) (.tmp 23) rfl (str y) _ rfl w.heap.size _ _ _ rfl rfl HR.out.1 (by have:=HLn.out;omega) HR.out.2.size ?_)
   intro v2 w2 ho2 hk2 hn2
   have H2:=hdz (aiz ho2 hk2)
   clear ho2 hk2 hn2
   go_wp2_with fail
   refine⟨⟨j+1,by omega,by simp,hdz ⟨?_,HR.out.2.comp H2.out.2 (λ_ _ h=>h) (λi hi _ e=>by have:=(own_lt HR.out.1 e).1;omega)⟩⟩,by simp only[intOf];omega⟩
   rw[HT.out]
   have h1:=H2.out.1
   simpa using h1
  ·obtain rfl:n=j:=by omega
   go_wp2_with fail
   go_ret
   have h1:=HR.out.1
   rw[List.take_of_length_le (by rw[HA.out.2.1];exact lrz _),HA.out.2.1] at h1
   exact⟨⟨_,rfl,h1⟩,HR.out.2⟩
theorem dwaiting_any (h:DAt B F w d pv hv hs s) (hi:LInv s.locks s.tok) (hs16:s.ss.length=16) (k:Txt) :
 Calls Tryz.prog 86 #[.pointer (some ⟨d,0,none⟩),str k] w λe w'=>(∃v,e=.returned v∧w'.ownsRow w.heap.size 115 2 v (waitD k s).length (wcells (waitD k s)))∧Fresh w w':=by
 have hk:=lockAt_any h k (by have:=hi.len;omega)
 have x1:=h.three.2.1
 have ld:=h.blk.lt
 cases hf:lfind k s.locks with
 | none=>
  rw[placeK_none (findK_none hf)] at hk
  have e:waitD k s=[]:=by unfold waitD;rw[hf]
  rw[e]
  have HK:=hdz hk
  clear hk h hf e hi hs16
  go_enter Tryz.func86,Tryz.ntmps86
  go_wp2_with fail
  refine Calls.mono HK.out ?_
  rintro e _ ⟨rfl,rfl⟩
  go_wp2_with fail
  go_ret
  exact⟨⟨_,rfl,by exact onz _ _ _ _⟩,krz _ _⟩
 | some l=>
  obtain⟨i,hi0,hix,hp⟩:=placeK_find hf
  rw[hp] at hk
  obtain⟨n,hnn⟩:=exz (s.locks.length)
  have hlk:=h.lk
  rw[←hnn] at hlk
  obtain⟨g,cc,rfl,-,hgl⟩:=own_form hlk (by omega)
  have x1:=h.three.2.1
  have hin:i<n:=by omega
  obtain⟨hl,b0,o0,e0,-,-,-,-,c3⟩:=(Blk.rdOwn hlk).lockE hin
  injection e0 with e0
  injection e0 with e0 e00
  subst e0 e00
  have hdi:hs[i].d=l:=by
   have h3:(hs.map DLk.d)[i]'(by simpa using hl)=hs[i].d:=by simp
   rw[←h3]
   exact (List.getElem_of_eq h.ds _).trans hix
  have hown:=h.qs _ (List.getElem_mem hl)
  rw[hdi] at hown
  obtain⟨Aq,cq,eqv,hrq,-⟩:=own_rd hown
  rw[eqv,Nat.zero_add] at c3
  have hok:=hi.each l (by rw[←hix];exact List.getElem_mem hi0)
  have hq16:=queue_len hok.nd hok.q
  obtain⟨lq,hlq⟩:∃q,q=l.queue:=⟨_,rfl⟩
  obtain⟨nq,hnq⟩:∃n,n=l.queue.length:=⟨_,rfl⟩
  rw[←hnq] at c3 hrq hq16
  rw[←hlq] at hrq hnq
  obtain⟨ws,hws⟩:=exz (waitD k s)
  have hwe:ws=lq.map λc=>(c,(s.ss.getD c.toNat noSes).inc):=by rw[hws,hlq];unfold waitD;rw[hf]
  rw[←hws]
  have hc16:∀c∈lq,0≤c∧c<16:=by rw[hlq];exact hok.q
  have HA:=hdz (aiz h (aiz (hrq.weaken (Z':=λ_=>True) λ_ _=>trivial) (aiz hwe (aiz hc16 (aiz hnq hs16)))))
  have hii:(i:Int)<(n:Int):=by omega
  have HK:=hdz hk
  clear hk h hf hp hix hi0 hdi hown eqv hrq hok hlq hnq hws hwe hc16 hlk hnn hi hs16 hl
  go_enter Tryz.func86,Tryz.ntmps86
  go_wp2_with fail
  refine Calls.mono HK.out ?_
  rintro e _ ⟨rfl,rfl⟩
  go_wp2_with fail
  go_loopw [5,7] (λv iv wr=>∃j:Nat,j≤nq∧iv=.int .i64 (j:Int)∧Hid (wr.ownsRow w.heap.size 115 2 v (ws.take j).length (wcells (ws.take j))∧Fresh w wr)) (λ_ i _=>nq - (intOf i).toNat)
  case atStart=>exact⟨0,by omega,rfl,hdz ⟨by exact onz _ _ _ _,krz _ _⟩⟩
  case round=>
   rename World=>wr
   obtain⟨j,hj,rfl,HR⟩:=hrel
   have x1:=HR.out.2.cellAt x1 trivial
   have c3:=HR.out.2.cellAt c3 trivial
   have ld:=ltz ld HR.out.2.size
   have lg:=lt_of_cell c3
   by_cases hlt:j<nq
   ·obtain⟨b,o,rfl,-,hlk2,e1⟩:=(HA.out.2.1.keep (HR.out.2.weaken λ_ _ _=>trivial)).intAt hlt
    have hc:=HA.out.2.2.2.1 _ (List.getElem_mem hlk2)
    have hjw:j<ws.length:=by rw[HA.out.2.2.1,List.length_map];exact hlk2
    have hwj:ws[j]=(lq[j],(s.ss.getD lq[j].toNat noSes).inc):=by
     have h1:=HA.out.2.2.1
     subst h1
     simp
    obtain⟨y,hy⟩:=exz (lq[j])
    rw[←hy] at e1 hc hwj
    obtain⟨q,rfl⟩:∃q:Nat,y=(q:Int):=⟨y.toNat,by omega⟩
    have hq16:q<16:=by omega
    rw[show ((q:Int)).toNat=q by omega] at hwj
    have z1:=(HA.out.1.fresh HR.out.2).ask (q:=q) (by rw[HA.out.2.2.2.2.2];exact hq16) 1 (by omega)
    obtain⟨zi,hzi⟩:=exz ((s.ss.getD q noSes).inc)
    replace z1:wr.cell? ⟨d,3+q*6+1,none⟩=some (.int .i64 zi):=by rw[hzi];exact z1
    rw[←hzi] at hwj
    have HT:Hid (ws.take (j+1)=ws.take j++[((q:Int),zi)]):=hdz (by rw[List.take_succ_eq_append_getElem hjw,hwj])
    have HLn:Hid ((ws.take j).length≤1000):=hdz (by have:=List.length_take_le j ws;omega)
    have hji:(j:Int)<(nq:Int):=by omega
    have hqi:(q:Int)<16:=by omega
    have lb:=lt_of_cell e1
    clear hy hlk2 hc hjw hwj hzi
    go_wp2_with (at_builtin;refine wpList_appB etWait rfl (.tmp 39) (.tmp 49) rfl #[.int .i64 (q:Int),.int .i64 zi] 115 rfl (wait_one _ _) w.heap.size _ _ _ wr.heap.size rfl rfl rfl HR.out.1 (by have:=HLn.out;omega) HR.out.2.size ?_)
    intro v2 w2 ho2 hk2 hn2
    have H2:=hdz (aiz ho2 hk2)
    clear ho2 hk2 hn2
    go_wp2_with fail
    refine⟨⟨j+1,by omega,by simp,hdz ⟨?_,HR.out.2.comp H2.out.2 (λ_ _ h=>h) (λi hi _ e=>by have:=(own_lt HR.out.1 e).1;omega)⟩⟩,by simp only[intOf];omega⟩
    rw[HT.out]
    have h1:=H2.out.1
    simpa[wcells,rcells_append,rcells_cons,rcells_nil,waitC] using h1
   ·obtain rfl:nq=j:=by omega
    go_wp2_with fail
    go_ret
    have h1:=HR.out.1
    rw[List.take_of_length_le (by rw[HA.out.2.2.1,List.length_map,HA.out.2.2.2.2.1];exact lrz _)] at h1
    exact⟨⟨_,rfl,h1⟩,HR.out.2⟩
theorem dholder_any (h:DAt B F w d pv hv hs s) (hi:LInv s.locks s.tok) (hs16:s.ss.length=16) (k:Txt) :
 Calls Tryz.prog 98 #[.pointer (some ⟨d,0,none⟩),str k] w λe w'=>e=.returned (.tuple #[.agg (holdA (holdD k s).1),.bool (holdD k s).2])∧Fresh w w':=by
 obtain⟨X,hX⟩:=exz (holdD k s)
 rw[←hX]
 obtain⟨G,hG⟩:=exz (w.heap.size)
 obtain⟨W,hW⟩:=exz (w.alloc (.cells #[.int .i64 0,.int .i64 0,.int .i64 0] 56))
 have hf:Fresh w W:=hW ▸ (krz _ w).alloc _
 have hb:Blk W G 56 #[.int .i64 0,.int .i64 0,.int .i64 0]:=by rw[hW,hG];exact Blk.new _ _ _
 have c0:=hb.cell 0;have c1:=hb.cell 1;have c2:=hb.cell 2
 have z0:=hb.frozen 0;have z1:=hb.frozen 1;have z2:=hb.frozen 2
 have gl:=hb.lt
 simp at c0 c1 c2
 have hdW:=h.fresh hf
 have ld:=hdW.blk.lt
 have hk:=lockAt_any hdW k (by have:=hi.len;omega)
 have hg:G<w.heap.size→¬True:=λh=>absurd h (by rw[hG];exact Nat.lt_irrefl _)
 cases hfl:lfind k s.locks with
 | none=>
  rw[placeK_none (findK_none hfl)] at hk
  have e:X=((0,0,0),false):=by rw[hX];unfold holdD;rw[hfl]
  have HE:=hdz e
  have HK:=hdz hk
  have HB:=hdz (aiz hf (aiz hb hg))
  clear hf hb hX h hi e hg hk hs16 hdW hfl
  go_enter Tryz.func98,Tryz.ntmps98
  go_upto_region 1 with (fail)
  simp only[←hG]
  rw[←hW]
  clear hW hG
  go_wp2_with fail
  refine Calls.mono HK.out ?_
  rintro e _ ⟨rfl,rfl⟩
  go_wp2_with fail
  rw[HE.out]
  refine bodyPost_ret (results_blk rfl _ _ G 56 (holdA (0,0,0)) _ (.bool false) rfl (((HB.out.2.1.set 0 _).set 1 _).set 2 _) Tryz.underlying56 rfl (by kernel_rfl) rfl) rfl ?_
  exact⟨rfl,((HB.out.1.setCell HB.out.2.2 _).setCell HB.out.2.2 _).setCell HB.out.2.2 _⟩
 | some l=>
  obtain⟨i,hi0,hix,hp⟩:=placeK_find hfl
  rw[hp] at hk
  obtain⟨n,hnn⟩:=exz (s.locks.length)
  have hlk:=hdW.lk
  rw[←hnn] at hlk
  obtain⟨g,cc,rfl,-,hgl⟩:=own_form hlk (by omega)
  have x1:=hdW.three.2.1
  have hin:i<n:=by omega
  obtain⟨hl,b0,o0,e0,-,d0,d1,d2,d3⟩:=(Blk.rdOwn hlk).lockE hin
  injection e0 with e0
  injection e0 with e0 e00
  subst e0 e00
  have hdi:hs[i].d=l:=by
   have h3:(hs.map DLk.d)[i]'(by simpa using hl)=hs[i].d:=by simp
   rw[←h3]
   exact (List.getElem_of_eq hdW.ds _).trans hix
  have hone:=hdW.one (List.getElem_mem hl)
  rw[Nat.zero_add] at d0 d1 d2 d3
  rw[hdi] at d0 d1 d2
  obtain⟨qv,hqv⟩:=exz (hs[i].q)
  rw[←hqv] at d3 hone
  have hlo:=hi.each l (by rw[←hix];exact List.getElem_mem hi0)
  obtain⟨q,hq⟩:∃q:Nat,l.holder=(q:Int):=⟨l.holder.toNat,by have:=hlo.h0;omega⟩
  have hq16:q<16:=by have:=hlo.h1;omega
  have sq:=hdW.ask (q:=q) (by rw[hs16];exact hq16) 1 (by omega)
  obtain⟨zi,hzi⟩:=exz ((s.ss.getD q noSes).inc)
  replace sq:W.cell? ⟨d,3+q*6+1,none⟩=some (.int .i64 zi):=by rw[hzi];exact sq
  obtain⟨tk,htk⟩:∃t,t=l.token:=⟨_,rfl⟩
  obtain⟨nm,hnm⟩:∃t,t=l.name:=⟨_,rfl⟩
  rw[hq] at d1
  rw[←htk] at d2
  rw[←hnm] at d0
  have e:X=(((q:Int),zi,tk),true):=by rw[hX];unfold holdD;rw[hfl];simp only;rw[hq,hzi,htk];simp
  have HE:=hdz e
  have HK:=hdz hk
  have hii:(i:Int)<(n:Int):=by omega
  have hqi:(q:Int)<16:=by omega
  have lg:=lt_of_cell d0
  have HB:=hdz (aiz hf (aiz hb (aiz hg (aiz hone hdW))))
  clear hf hb hX h hi e hg hk hs16 hdW hfl hp hix hi0 hdi hone hqv hlo hq hzi htk hnm hlk hnn hl
  go_enter Tryz.func98,Tryz.ntmps98
  go_upto_region 1 with (fail)
  simp only[←hG]
  rw[←hW]
  clear hW hG
  go_wp2_with fail
  refine Calls.mono HK.out ?_
  rintro e _ ⟨rfl,rfl⟩
  go_wp2_with (refine wpList_store_new rfl (.tmp 7) (.tmp 20) rfl _ #[str nm,.int .i64 (q:Int),.int .i64 tk,qv] _ rfl rfl rfl (by kernel_rfl) (lockA_one _ _ _ _ HB.out.2.2.2.1) ?_)
  intro w5 hb5 hf5 hs5
  obtain⟨g7,hg7⟩:∃g,g=W.heap.size:=⟨_,rfl⟩
  rw[←hg7] at hb5 ⊢
  have hbG:=HB.out.2.1.keep hf5 trivial
  have c0:=hbG.cell 0;have c1:=hbG.cell 1;have c2:=hbG.cell 2
  have z0:=hbG.frozen 0;have z1:=hbG.frozen 1;have z2:=hbG.frozen 2
  have gl:=hbG.lt
  simp at c0 c1 c2
  have u1:=hb5.cell 1;have u2:=hb5.cell 2
  simp at u1 u2
  have lu:=hb5.lt
  have sq5:=hf5.cellAt sq trivial
  have ld5:=ltz ld hf5.size
  have h7G:g7≠G:=by omega
  have hdG:d≠G:=λe=>HB.out.2.1.ne HB.out.2.2.2.2.blk (by decide) e.symm
  have HS:Hid (∀w',Keep (λk=>k≠G) w5 w'→w'.cell? ⟨g7,1,none⟩=some (.int .i64 (q:Int))∧w'.cell? ⟨g7,2,none⟩=some (.int .i64 tk)∧w'.cell? ⟨d,3+q*6+1,none⟩=some (.int .i64 zi)):=hdz λw' hk=>⟨hk.cellAt u1 h7G,hk.cellAt u2 h7G,hk.cellAt sq5 hdG⟩
  have HB5:=hdz (aiz hbG (HB.out.1.then hf5))
  have HN:Hid (G<w.heap.size→¬True):=hdz HB.out.2.2.1
  clear hbG hb5 hf5 hs5 hg7
  go_upto_region 5 with (fail)
  go_region_held3 (λw'=>w'.cell? ⟨g7,1,none⟩=some (.int .i64 (q:Int))∧w'.cell? ⟨g7,2,none⟩=some (.int .i64 tk)∧w'.cell? ⟨d,3+q*6+1,none⟩=some (.int .i64 zi))
   (first | exact HS.out _ ((krz _ w5).drew) | exact HS.out _ (((((krz _ w5).drew).setCell (λ_ h=>h rfl) _).setCell (λ_ h=>h rfl) _).setCell (λ_ h=>h rfl) _))
   (fail)
  all_goals
   go_wp2_with fail
   rw[HE.out]
   refine bodyPost_ret (results_blk rfl _ _ G 56 (holdA ((q:Int),zi,tk)) _ (.bool true) rfl (((HB5.out.1.set 0 _).set 1 _).set 2 _) Tryz.underlying56 rfl (by kernel_rfl) rfl) rfl ?_
   exact⟨rfl,(((HB5.out.2.setCell (p:=⟨G,0,none⟩) HN.out _).setCell (p:=⟨G,1,none⟩) HN.out _).setCell (p:=⟨G,2,none⟩) HN.out _).drew⟩
theorem dsession_any (h:DAt B F w d pv hv hs s) (hs16:s.ss.length=16) (hz00:∀z∈s.ss,0≤z.inc) (q:Int) :
 Calls Tryz.prog 99 #[.pointer (some ⟨d,0,none⟩),.int .i64 q] w λe w'=>e=.returned (.tuple #[sesV (sessD q s).1,.bool (sessD q s).2])∧Fresh w w':=by
 obtain⟨X,hX⟩:=exz (sessD q s)
 rw[←hX]
 obtain⟨G,hG⟩:=exz (w.heap.size)
 obtain⟨W,hW⟩:=exz (w.alloc (.cells #[.int .i64 0,.int .i64 0,.int .i64 0,str [],.int .i64 0] 41))
 have hf:Fresh w W:=hW ▸ (krz _ w).alloc _
 have hb:Blk W G 41 #[.int .i64 0,.int .i64 0,.int .i64 0,str [],.int .i64 0]:=by rw[hW,hG];exact Blk.new _ _ _
 have c0:=hb.cell 0;have c1:=hb.cell 1;have c2:=hb.cell 2;have c3:=hb.cell 3;have c4:=hb.cell 4
 have z0:=hb.frozen 0;have z1:=hb.frozen 1;have z2:=hb.frozen 2;have z3:=hb.frozen 3;have z4:=hb.frozen 4
 have gl:=hb.lt
 simp at c0 c1 c2 c3 c4
 have hdW:=h.fresh hf
 have ld:=hdW.blk.lt
 have hcs:q<0∨16≤q∨(0≤q∧q<16):=by omega
 rcases hcs with h1 | h1 | ⟨h1,h2⟩
 ·have HE:Hid (X=(noSes,false)):=hdz (by rw[hX];unfold sessD;rw[if_pos (by omega)])
  have HB:=hdz (aiz hf (aiz hb hG))
  clear hf hb hX h hs16 hz00 hdW
  go_enter Tryz.func99,Tryz.ntmps99
  go_upto_region 1 with (fail)
  simp only[←hG]
  rw[←hW]
  clear hW hG
  go_wp2_with fail
  rw[HE.out]
  obtain⟨hb5,hf5⟩:=ses_stored HB.out.1 HB.out.2.1 rfl HB.out.2.2 noSes
  refine bodyPost_ret (results_blk rfl _ _ G 41 (sesA noSes) _ (.bool false) rfl hb5 Tryz.underlying41 rfl (by kernel_rfl) rfl) rfl ?_
  exact⟨rfl,hf5⟩
 ·have HE:Hid (X=(noSes,false)):=hdz (by rw[hX];unfold sessD;rw[if_pos (by omega)])
  have HB:=hdz (aiz hf (aiz hb hG))
  have h2:decide (q<0)=false:=by simp;omega
  clear hf hb hX h hs16 hz00 hdW
  go_enter Tryz.func99,Tryz.ntmps99
  go_upto_region 1 with (fail)
  simp only[←hG]
  rw[←hW]
  clear hW hG
  go_wp2_with fail
  rw[HE.out]
  obtain⟨hb5,hf5⟩:=ses_stored HB.out.1 HB.out.2.1 rfl HB.out.2.2 noSes
  refine bodyPost_ret (results_blk rfl _ _ G 41 (sesA noSes) _ (.bool false) rfl hb5 Tryz.underlying41 rfl (by kernel_rfl) rfl) rfl ?_
  exact⟨rfl,hf5⟩
 ·obtain⟨k,rfl⟩:∃k:Nat,q=(k:Int):=⟨q.toNat,by omega⟩
  have hk16:k<16:=by omega
  have hkl:k<s.ss.length:=by rw[hs16];exact hk16
  have n0:=hdW.ask hkl 0 (by omega);have n1:=hdW.ask hkl 1 (by omega);have n2:=hdW.ask hkl 2 (by omega);have n3:=hdW.ask hkl 3 (by omega);have n4:=hdW.ask hkl 4 (by omega);have n5:=hdW.ask hkl 5 (by omega)
  have hge:=hz00 _ (getD_mem hkl)
  have hXe:X=if (s.ss.getD k noSes).inc=0 then (noSes,false) else (s.ss.getD k noSes,true):=by
   rw[hX]
   unfold sessD
   rw[show ((k:Int)).toNat=k by omega]
   by_cases h3:(s.ss.getD k noSes).inc=0
   ·rw[if_pos (.inr (.inr h3)),if_pos h3]
   ·rw[if_neg (by omega),if_neg h3]
  obtain⟨⟨zi,zr,⟨zc,zv,zn⟩⟩,hz⟩:∃z,z=s.ss.getD k noSes:=⟨_,rfl⟩
  rw[←hz] at n0 n1 n2 n3 n4 n5 hXe hge
  simp only[askC,List.getElem?_cons_zero,List.getElem?_cons_succ,Nat.add_zero] at n0 n1 n2 n3 n4 n5 hXe hge
  have h3:¬(k:Int)<0:=by omega
  have h4:¬(16:Int)≤(k:Int):=by omega
  have HB:=hdz (aiz hf (aiz hb hG))
  by_cases h0:zi=0
  ·subst h0
   have HE:Hid (X=(noSes,false)):=hdz (by rw[hXe,if_pos rfl])
   clear hf hb hX h hs16 hz00 hdW hXe hz hge
   go_enter Tryz.func99,Tryz.ntmps99
   go_upto_region 1 with (fail)
   simp only[←hG]
   rw[←hW]
   clear hW hG
   go_wp2_with fail
   rw[HE.out]
   obtain⟨hb5,hf5⟩:=ses_stored HB.out.1 HB.out.2.1 rfl HB.out.2.2 noSes
   refine bodyPost_ret (results_blk rfl _ _ G 41 (sesA noSes) _ (.bool false) rfl hb5 Tryz.underlying41 rfl (by kernel_rfl) rfl) rfl ?_
   exact⟨rfl,hf5⟩
  ·have hzp:decide (0<zi)=true:=by simp;omega
   have HE:Hid (X=(⟨zi,zr,⟨zc,zv,zn⟩⟩,true)):=hdz (by rw[hXe,if_neg h0])
   clear hf hb hX h hs16 hz00 hdW hXe hz hge
   go_enter Tryz.func99,Tryz.ntmps99
   go_upto_region 1 with (fail)
   simp only[←hG]
   rw[←hW]
   clear hW hG
   go_wp2_with fail
   rw[HE.out]
   obtain⟨hb5,hf5⟩:=ses_stored HB.out.1 HB.out.2.1 rfl HB.out.2.2 ⟨zi,zr,⟨zc,zv,zn⟩⟩
   refine bodyPost_ret (results_blk rfl _ _ G 41 (sesA ⟨zi,zr,⟨zc,zv,zn⟩⟩) _ (.bool true) rfl (hb5.alloc _) Tryz.underlying41 rfl (by kernel_rfl) rfl) rfl ?_
   exact⟨rfl,hf5.alloc _⟩
end
theorem rput_any (base:Nat) (v:Value) (n:Nat) (bs:List UInt8) (x:Nat) (w:World) (hx:x≤4611686018427387904) (hown:w.ownsRow base 5 1 v n (Lib.byteCells bs)) (hn:n≤1099511627776) (hbase:base≤w.heap.size) :
 Calls Tryz.prog 157 #[v,.int .i64 (x:Int)] w λe w'=>∃v',e=.returned v'∧w'.ownsRow base 5 1 v' (n+(putB x).length) (Lib.byteCells (bs++putB x))∧Keep (λk=>v.ownBlock≠some k) w w'∧Next w.heap.size v v':=by
 have hl9:=putB_len9 hx
 go_enter Tryz.func157,Tryz.ntmps157
 go_wp2
 go_loopw [0,1] (λb y wr=>∃ (m y':Nat) (cs:List UInt8),y=.int .i64 (y':Int)∧Hid (PutRel x m y' cs)∧wr.ownsRow base 5 1 b (n+m) (Lib.byteCells (bs++cs))∧Keep (λk=>v.ownBlock≠some k) w wr∧Next w.heap.size v b) (λ_ y _=>(intOf y).toNat)
 case atStart=>exact⟨0,x,[],rfl,⟨lrz _,rfl,by simp,rfl⟩,by simpa using hown,krz _ _,Next.refl _ _⟩
 case round=>
  obtain⟨m,y',cs,rfl,hp,ho,hk,hnx⟩:=hrel
  have hm:m+1≤9:=by have:=hp.out.2.2.1;have:=putB_pos y';omega
  have HB:=hdz (lez hbase hk.size)
  have hy9:y'≤4611686018427387904:=by have:=hp.out.1;omega
  clear hx hl9 hown
  by_cases h:128≤y'
  ·go_wp2_with (at_builtin;refine wpList_app1 etU8 rfl (.tmp 7) (.tmp 12) rfl _ _ rfl base _ (n+m) _ rfl rfl ho ?_ HB.out ?_)
   case refine_1=>omega
   intro v1 w1 ho1 hk1 hn1
   have ho2:w1.ownsRow base 5 1 v1 (n+(m+1)) (Lib.byteCells (bs++(cs++[UInt8.ofNat (y' % 128+128)]))):=by
    have e:Lib.byteCells (bs++(cs++[UInt8.ofNat (y' % 128+128)]))=Lib.byteCells (bs++cs)++[Value.int .u8 ((y':Int) % 128+128)]:=by
     simp only[Lib.byteCells,List.map_append,List.map_cons,List.map_nil,List.append_assoc]
     rw[u8_toNat _ (by omega)]
     congr 4
    rw[e]
    exact ho1
   have hk2:=hk.next hk1 hnx
   have hn2:=hnx.trans hn1 hk.size
   have hp2:=hdz (hp.out.step (by omega))
   clear ho1 ho hk hnx hp HB hk1 hn1
   go_wp2
   exact⟨⟨m+1,y' / 128,_,congrArg _ (by omega),hp2,ho2,hk2,hn2⟩,by simp[intOf];omega⟩
  ·go_wp2_with (at_builtin;refine wpList_app1 etU8 rfl (.tmp 16) (.tmp 19) rfl _ _ rfl base _ (n+m) _ rfl rfl ho ?_ HB.out ?_)
   case refine_1=>omega
   intro v1 w1 ho1 hk1 hn1
   have hk2:=hk.next hk1 hnx
   have hn2:=hnx.trans hn1 hk.size
   have ho2:w1.ownsRow base 5 1 v1 (n+(putB x).length) (Lib.byteCells (bs++putB x)):=by
    obtain⟨_,h2,h3,h4⟩:=hp.out
    have e1:putB y'=[UInt8.ofNat y']:=putB_small (by omega)
    rw[e1] at h3 h4
    have e2:Lib.byteCells (bs++putB x)=Lib.byteCells (bs++cs)++[Value.int .u8 (y':Int)]:=by
     rw[←h4]
     simp only[Lib.byteCells,List.map_append,List.map_cons,List.map_nil,List.append_assoc]
     rw[u8_toNat _ (by omega)]
    rw[e2,←h3]
    exact ho1
   clear ho1 ho hk hnx hp HB hk1 hn1
   go_wp2
   go_ret
   exact⟨v1,rfl,ho2,hk2,hn2⟩
theorem rput_int (base:Nat)(v:Value)(n:Nat)(bs:List UInt8)(x:Int)(w:World)(h0:0≤x)(hx:x≤4611686018427387904)(hown:w.ownsRow base 5 1 v n (Lib.byteCells bs))(hn:n≤1099511627776)(hbase:base≤w.heap.size) :
 Calls Tryz.prog 157 #[v,.int .i64 x] w λe w'=>∃v',e=.returned v'∧w'.ownsRow base 5 1 v' (n+(putB x.toNat).length) (Lib.byteCells (bs++putB x.toNat))∧Keep (λk=>v.ownBlock≠some k) w w'∧Next w.heap.size v v':=by
 obtain⟨k,rfl⟩:=Int.eq_ofNat_of_zero_le h0
 exact rput_any base v n bs k w (by omega) hown hn hbase
theorem within_any (v lo hi:Int) (w:World):Calls Tryz.prog 156 #[.int .i64 v,.int .i64 lo,.int .i64 hi] w λe w'=>e=.returned (.bool (decide (lo≤v) && decide (v≤hi)))∧w=w':=by
 by_cases h:lo≤v
 ·go_enter Tryz.func156,Tryz.ntmps156
  go_wp2
  go_ret
  exact⟨ret_bool (by simp[h]),rfl⟩
 ·go_enter Tryz.func156,Tryz.ntmps156
  go_wp2
  go_ret
  exact⟨ret_bool (by simp;omega),rfl⟩
theorem rPutInt_any (Z:Nat→Prop)(A:Option Addr)(n c:Nat)(bs:List UInt8)(x:Int)(w:World)(h0:0≤x)(hx:x≤4611686018427387904)(hb:Rd w Z 1 A n (Lib.byteCells bs))(hnil:n=0→c=0∨A≠none)(hn:n≤1099511627770) :
 Calls Tryz.prog 129 #[.slice A n c,.int .i64 x] w λe w'=>(∃u,e=.returned (.tuple #[u,.int .i64 0])∧w'.ownsRow w.heap.size 5 1 u (n+(putB x.toNat).length) (Lib.byteCells (bs++putB x.toNat)))∧Fresh w w':=by
 have HW:=within_any x 0 4611686018427387904 w
 rw[show (decide ((0:Int)≤x) && decide (x≤4611686018427387904))=true by simp[h0,hx]] at HW
 replace HW:=hdz HW
 have HC:=hdz (copied_any Z A n c bs w hb hn hnil)
 have HX:=hdz (aiz h0 hx)
 clear h0 hx hb hnil
 go_enter Tryz.func129,Tryz.ntmps129
 go_wp2_with fail
 refine HW.out.mono ?_
 rintro e _ ⟨rfl,rfl⟩
 go_wp2_with fail
 refine HC.out.mono ?_
 rintro e w1 ⟨⟨u,rfl,hown⟩,hf⟩
 have HP:=hdz (rput_int w.heap.size u n bs x w1 HX.out.1 HX.out.2 hown (by omega) hf.size)
 have HF:=hdz (aiz hf hown)
 clear hf hown
 go_wp2_with fail
 refine HP.out.mono ?_
 rintro e w2 ⟨v2,rfl,ho2,hk2,hn2⟩
 have hfr:Fresh w w2:=HF.out.1.comp hk2 (λ_ _ h=>h) (λi hi _ e=>by have:=(own_lt HF.out.2 e).1;omega)
 have HN:=hdz (aiz ho2 hfr)
 clear ho2 hk2 hn2 hfr
 go_wp2
 go_ret2
 exact⟨⟨v2,rfl,HN.out.1⟩,HN.out.2⟩
theorem putCount_any (base:Nat)(v:Value)(bs:List UInt8)(x:Int)(w:World)(h0:0≤x)(hx:x≤4611686018427387904)(hown:w.ownsRow base 5 1 v bs.length (Lib.byteCells bs))(hn:bs.length≤1099511627770)(hbase:base≤w.heap.size) :
 Calls Tryz.prog 93 #[v,.int .i64 x] w λe w'=>(∃u,e=.returned u∧w'.ownsRow base 5 1 u (bs++putB x.toNat).length (Lib.byteCells (bs++putB x.toNat)))∧Fresh w w':=by
 obtain⟨A,c,rfl,hr,hnil⟩:=own_rd hown
 obtain⟨n,hnl⟩:=exz (bs.length)
 rw[←hnl] at hr hnil hn ⊢
 have HC:=hdz (rPutInt_any _ A n c bs x w h0 hx hr hnil hn)
 have HB:=hdz (aiz hbase hnl)
 clear hown hr hnil hbase h0 hx hnl
 go_enter Tryz.func93,Tryz.ntmps93
 go_wp2_with fail
 refine HC.out.mono ?_
 rintro e w1 ⟨⟨u,rfl,ho⟩,hf⟩
 have HN:=hdz (aiz ho hf)
 clear ho hf HC
 go_wp2
 go_ret
 refine⟨⟨u,rfl,?_⟩,HN.out.2⟩
 rw[lapz,←HB.out.2]
 exact own_base HN.out.1 HB.out.1
theorem rPutBytes_any (base:Nat) (v:Value) (bs:List UInt8) (Z:Nat→Prop) (A:Option Addr) (n c:Nat) (l:List UInt8) (w:World) (hown:w.ownsRow base 5 1 v bs.length (Lib.byteCells bs)) (hl:Rd w Z 1 A n (Lib.byteCells l)) (hz:∀k,Z k→v.ownBlock≠some k∧k<w.heap.size) (hn:bs.length+n≤1099511627760) (hbase:base≤w.heap.size) :
 Calls Tryz.prog 130 #[v,.slice A n c] w λe w'=>(∃u,e=.returned u∧w'.ownsRow base 5 1 u (bs++txt l).length (Lib.byteCells (bs++txt l))∧Next w.heap.size v u)∧Keep (λk=>v.ownBlock≠some k) w w':=by
 have hll:l.length=n:=by simpa[Lib.byteCells] using hl.1
 obtain⟨m,hm⟩:=exz (bs.length)
 rw[←hm] at hown hn
 have HC:=hdz (rput_any base v m bs n w (by omega) hown (by omega) hbase)
 have HA:=hdz (aiz hown (aiz hl (aiz hz (aiz hbase (aiz hll hm)))))
 have hl9:(putB n).length≤9:=putB_len9 (by omega)
 have HL9:=hdz hl9
 clear hown hl hz hbase hll hm hl9
 go_enter Tryz.func130,Tryz.ntmps130
 go_wp2_with fail
 refine HC.out.mono ?_
 rintro e w1 ⟨v1,rfl,ho1,hk1,hn1⟩
 obtain⟨m1,hm1⟩:=exz (m+(putB n).length)
 rw[←hm1] at ho1
 have hm19:m1≤m+9:=by have:=HL9.out;omega
 have H1:=hdz (aiz ho1 (aiz hk1 (aiz hn1 hm1)))
 clear ho1 hk1 hn1 hm1 HC
 go_wp2
 go_loopw [0,5] (λb i wr=>∃k:Nat,k≤n∧i=.int .i64 (k:Int)∧Hid (wr.ownsRow base 5 1 b (m1+k) (Lib.byteCells (bs++putB n++l.take k))∧Keep (λk=>v.ownBlock≠some k) w wr∧Next w.heap.size v b)) (λ_ i _=>n - (intOf i).toNat)
 case atStart=>exact⟨0,Nat.zero_le _,rfl,by rw[List.take_zero,List.append_nil];exact H1.out.1,H1.out.2.1,H1.out.2.2.1⟩
 case round=>
  obtain⟨k,hk,rfl,HW⟩:=hrel
  by_cases hlt:k<n
  ·obtain⟨ho,hkk,hnn⟩:=HW.out
   obtain⟨b2,o2,x,rfl,hzb,hl2,hx,e2⟩:=HA.out.2.1.byte hlt
   have e3:=hkk.cellAt e2 (HA.out.2.2.1 b2 hzb).1
   have HO:=hdz ho
   have HB:=hdz (lez HA.out.2.2.2.1 hkk.size)
   have HXX:=hdz hx
   clear ho hkk hnn hzb e2 hx
   go_wp2_with (at_builtin;refine wpList_app1 etU8 rfl (.tmp 16) (.tmp 21) rfl _ _ rfl base _ (m1+k) _ rfl rfl HO.out ?_ HB.out ?_)
   case refine_1=>omega
   intro v2 w2 ho2 hk2 hn2
   obtain⟨ho,hkk,hnn⟩:=HW.out
   have hrow:w2.ownsRow base 5 1 v2 (m1+(k+1)) (Lib.byteCells (bs++putB n++l.take (k+1))):=by
    rw[List.take_succ_eq_append_getElem hl2,←List.append_assoc,Lib.byteCells_append]
    have e:Lib.byteCells [l[k]]=[.int .u8 x]:=by rw[HXX.out];rfl
    rw[e,List.append_assoc bs (putB n)]
    exact ho2
   have HN:=hdz (aiz hrow (aiz (hkk.next hk2 hnn) (hnn.trans hn2 hkk.size)))
   clear hrow ho2 hk2 hn2 ho hkk hnn HO HB HXX e3 HW
   go_wp2
   exact⟨⟨k+1,by omega,congrArg _ (by omega),HN.out⟩,by simp[intOf];omega⟩
  ·obtain rfl:k=n:=by omega
   go_wp2
   go_ret
   obtain⟨ho,hkk,hnn⟩:=HW.out
   have e1:bs++txt l=bs++putB k++l.take k:=by
    rw[List.take_of_length_le (by rw[HA.out.2.2.2.2.1];exact lrz _)]
    unfold txt
    rw[HA.out.2.2.2.2.1,List.append_assoc]
   have e2:(bs++txt l).length=m1+k:=by
    rw[e1]
    simp only[lapz,List.length_take,HA.out.2.2.2.2.1,←HA.out.2.2.2.2.2,H1.out.2.2.2,Nat.min_self]
   refine⟨⟨_,rfl,?_,hnn⟩,hkk⟩
   rw[e2,e1]
   exact ho
theorem putText_any (base:Nat) (v:Value) (bs l:List UInt8) (w:World) (hown:w.ownsRow base 5 1 v bs.length (Lib.byteCells bs)) (hl:l.length≤1048576) (hn:bs.length≤1099500000000) (hbase:base≤w.heap.size) :
 Calls Tryz.prog 94 #[v,.string ⟨l.toArray⟩] w λe w'=>(∃u,e=.returned u∧w'.ownsRow base 5 1 u (bs++txt l).length (Lib.byteCells (bs++txt l))∧Next w.heap.size v u)∧Keep (λk=>v.ownBlock≠some k) w w':=by
 have HA:=hdz (aiz hown (aiz hbase (aiz hl hn)))
 obtain⟨s,hs⟩:∃s:ByteArray,s=⟨l.toArray⟩:=⟨_,rfl⟩
 rw[←hs]
 have hsz:s.size=l.length:=by rw[hs];rfl
 have hdl:s.data.toList=l:=by rw[hs]
 have HS:=hdz (aiz hsz hdl)
 have hcv:=λw=>Lib.run_convert_string_bytes (P:=Tryz.prog) w 9 35 5 s Tryz.underlying9 Tryz.underlying35 Tryz.underlying5
 clear hown hbase hs hsz hdl hl hn
 go_enter Tryz.func94,Tryz.ntmps94
 go_wp2_with fail
 obtain⟨hown,hbase,hl,hn⟩:=HA.out
 obtain⟨hsz,hdl⟩:=HS.out
 have hfr:Fresh w (Lib.bytesWorld w 5 s):=Fresh.of_below (Lib.bytesWorld_below w 5 s)
 have hrd:Rd (Lib.bytesWorld w 5 s) (λk=>k=w.heap.size) 1 (some ⟨w.heap.size,0,none⟩) s.size (Lib.byteCells l):=by
  refine⟨by simp[Lib.byteCells,hsz],λ_=>⟨_,_,rfl,rfl,λj u hu=>?_⟩⟩
  have hj:j<l.length:=by
   rcases Nat.lt_or_ge j l.length with h | h
   ·exact h
   ·rw[List.getElem?_eq_none (by simpa[Lib.byteCells] using h)] at hu;cases hu
  rw[bcs_get l j hj] at hu
  injection hu with hu
  rw[Nat.zero_add,Lib.bytesWorld_cell w 5 s j (by omega),hdl,←hu]
  simp[List.getD,hj]
 have hne:v.ownBlock≠some w.heap.size:=λe=>by have:=(own_lt hown e).2;omega
 have hsz1:(Lib.bytesWorld w 5 s).heap.size=w.heap.size+1:=Lib.bytesWorld_size w 5 s
 have HC:=rPutBytes_any base v bs _ _ s.size (grownCap w s.size 0 5) l (Lib.bytesWorld w 5 s) (own_keep hown hfr (λ_ _=>trivial)) hrd (λk hk=>⟨by rw[hk];exact hne,by omega⟩) (by omega) (by omega)
 refine HC.mono ?_
 rintro e w2 ⟨⟨u,rfl,ho2,hn2⟩,hk2⟩
 have HN:=hdz (aiz ho2 (aiz (hn2.imp (λh=>h) (λ⟨g,e,hg⟩=>(⟨g,e,by omega⟩:∃g,u.ownBlock=some g∧w.heap.size≤g))) (hfr.comp hk2 (λ_ _ _=>trivial) (λ_ _ h=>h))))
 clear hown hbase hl hn hsz hdl hfr hrd hne hsz1 HC ho2 hn2 hk2 hcv
 go_wp2
 go_ret
 exact⟨⟨_,rfl,HN.out.1,HN.out.2.1⟩,HN.out.2.2⟩
structure DEnc (w0 w:World)(v:Value)(bs:List UInt8):Prop where
 row:w.ownsRow w0.heap.size 5 1 v bs.length (Lib.byteCells bs)
 fr:Fresh w0 w
theorem DEnc.count {w0 w:World}{v:Value}{bs:List UInt8}(h:DEnc w0 w v bs)(x:Int)(h0:0≤x)(hx:x≤4611686018427387904)(hn:bs.length≤1099500000000) :
 Calls Tryz.prog 93 #[v,.int .i64 x] w λe w'=>∃u,e=.returned u∧DEnc w0 w' u (bs++putB x.toNat)∧Keep (λk=>v.ownBlock≠some k) w w':=
 (putCount_any w0.heap.size v bs x w h0 hx h.row (by omega) h.fr.size).mono λ_ _ ⟨⟨u,he,ho⟩,hf⟩=>⟨u,he,⟨ho,h.fr.trans hf⟩,hf.weaken λ_ _ _=>trivial⟩
theorem DEnc.text {w0 w:World}{v:Value}{bs:List UInt8}(h:DEnc w0 w v bs)(l:List UInt8)(hl:l.length≤1048576)(hn:bs.length≤1099500000000) :
 Calls Tryz.prog 94 #[v,str l] w λe w'=>∃u,e=.returned u∧DEnc w0 w' u (bs++txt l)∧Keep (λk=>v.ownBlock≠some k) w w':=
 (putText_any w0.heap.size v bs l w h.row hl hn h.fr.size).mono λ_ _ ⟨⟨u,he,ho,hn⟩,hk⟩=>⟨u,he,⟨ho,h.fr.comp hk (λ_ _ h=>h) (λi hi _ e=>by have:=(own_lt h.row e).1;omega)⟩,hk⟩
theorem DEnc.later {w0 w w1:World}{v:Value}{bs:List UInt8}(h:DEnc w0 w v bs)(hf:Fresh w w1):DEnc w0 w1 v bs:=⟨own_keep h.row hf λ_ _=>trivial,h.fr.then hf⟩
def askedTo (ss:List SesD)(q:Nat):List (Nat×SesD):=((List.range q).map λq=>(q,ss.getD q noSes)).filter λx=>decide (0<x.2.inc)
theorem askedTo_all (ss:List SesD):askedTo ss 16=asked ss:=rfl
theorem askedTo_succ (ss:List SesD)(q:Nat):askedTo ss (q+1)=askedTo ss q++(if 0<(ss.getD q noSes).inc then [(q,ss.getD q noSes)] else []):=by
 unfold askedTo
 rw[List.range_succ,List.map_append,List.filter_append]
 congr 1
 show List.filter _ [(q,ss.getD q noSes)]=_
 by_cases h:0<(ss.getD q noSes).inc
 ·rw[if_pos h,List.filter_cons,if_pos (by exact decide_eq_true h),List.filter_nil]
 ·rw[if_neg h,List.filter_cons,if_neg (by exact λe=>h (of_decide_eq_true e)),List.filter_nil]
theorem askedTo_le (ss:List SesD)(q:Nat):(askedTo ss q).length≤q:=by
 unfold askedTo
 refine lez (List.length_filter_le _ _) ?_
 simp
theorem flat_snoc {α:Type}{f:α→Txt}(l:List α)(k:Nat)(hk:k<l.length):(l.take (k+1)).flatMap f=(l.take k).flatMap f++f l[k]:=by
 rw[List.take_succ_eq_append_getElem hk,List.flatMap_append]
 simp
theorem askedTo_mem {ss:List SesD}{q:Nat}{x:Nat×SesD}(h:x∈askedTo ss q):x.1<q∧x.2=ss.getD x.1 noSes∧0<x.2.inc:=by
 unfold askedTo at h
 obtain⟨h1,h2⟩:=List.mem_filter.1 h
 obtain⟨k,hk,rfl⟩:=List.mem_map.1 h1
 exact⟨List.mem_range.1 hk,rfl,of_decide_eq_true h2⟩
theorem ses_up {s:StD} (h:Inv s) {q:Nat} (hq:q<16) (h0:0<(s.ss.getD q noSes).inc):SesOk (s.ss.getD q noSes):=by
 rcases h.ses _ (getD_mem (n:=q) (by rw[h.s16];exact hq)) with e | e
 ·rw[e] at h0
  exact absurd h0 (by decide)
 ·exact e
theorem sesB_le {q:Nat}{z:SesD}(hq:q<16)(h:SesOk z):(sesB (q,z)).length≤54:=by
 have h1:=putB_len9 (v:=q) (by omega)
 have h2:=putB_len9 (v:=z.inc.toNat) (by have:=h.i1;omega)
 have h3:=putB_len9 (v:=z.req.toNat) (by have:=h.r1;omega)
 have h4:=putB_len9 (v:=z.last.code.toNat) (by have:=h.last.c1;omega)
 have h5:=txt_len9 (t:=z.last.val) h.last.v
 have h6:=putB_len9 (v:=z.last.n.toNat) (by have:=h.last.n1;omega)
 unfold sesB
 simp only[lapz]
 omega
theorem askedTo_flat {s:StD} (h:Inv s) {q:Nat} (hq:q≤16):((askedTo s.ss q).flatMap sesB).length≤864:=by
 have h1:=flat_le (f:=sesB) (c:=54) (askedTo s.ss q) (λx hx=>by
  obtain⟨a,b,c⟩:=askedTo_mem hx
  obtain⟨k,z⟩:=x
  simp only at a b c
  subst b
  exact sesB_le (by omega) (ses_up h (by omega) c))
 have h2:=askedTo_le s.ss q
 omega
section
variable {B:Nat}{F:Nat→Prop}{w:World}{d:Nat}{pv hv:Value}{hs:List DLk}{s:StD}
theorem dsnap_any (h:DAt B F w d pv hv hs s) (hI:Inv s) :
 Calls Tryz.prog 59 #[.pointer (some ⟨d,0,none⟩)] w λe w'=>(∃v,e=.returned v∧w'.ownsRow w.heap.size 5 1 v (snapB s).length (Lib.byteCells (snapB s)))∧Fresh w w':=by
 obtain⟨np,hnp⟩:∃n,n=s.pairs.length:=⟨_,rfl⟩
 obtain⟨nl,hnl⟩:∃n,n=s.locks.length:=⟨_,rfl⟩
 obtain⟨tk,htk⟩:∃n,n=s.tok:=⟨_,rfl⟩
 have hpr:=h.pr
 have hlk:=h.lk
 rw[←hnp] at hpr
 rw[←hnl] at hlk
 obtain⟨Ap,cp,rfl,hrp,-⟩:=own_rd hpr
 obtain⟨Al,cl,rfl,hrl,-⟩:=own_rd hlk
 have hnp16:np≤16:=by have:=hI.pr.len;omega
 have hnl8:nl≤8:=by have:=hI.lk.len;omega
 obtain⟨w1,hw1⟩:=exz (w.alloc (.cells #[.int .u8 81,.int .u8 83,.int .u8 1] 5))
 have hf1:Fresh w w1:=hw1 ▸ (krz _ w).alloc _
 have e1:DEnc w w1 (.slice (some ⟨w.heap.size,0,none⟩) 3 3) headB:=⟨by
  rw[hw1]
  exact own_of_blk (Blk.new w 5 #[.int .u8 81,.int .u8 83,.int .u8 1]) (lrz _) (by decide) 3 rfl,hf1⟩
 have hln:=sn_len hI
 have HA:=hdz (aiz h (aiz hI (aiz (hrp.weaken (Z':=λ_=>True) λ_ _=>trivial) (aiz (hrl.weaken (Z':=λ_=>True) λ_ _=>trivial) (aiz hnp (aiz hnl (aiz htk hln)))))))
 have HC1:=hdz (e1.count tk (by rw[htk];exact hI.lk.tok0) (by rw[htk];have:=hI.lk.tok1;omega) (by decide))
 have x2:=(h.fresh hf1).three.2.2
 rw[←htk] at x2
 have ld:=(h.fresh hf1).blk.lt
 have HM:Hid (∀w',Fresh w w'→w'.cell? ⟨d,0,none⟩=some (.slice Ap np cp)∧w'.cell? ⟨d,1,none⟩=some (.slice Al nl cl)∧d<w'.heap.size∧Rd w' (λ_=>True) 2 Ap np (pcells s.pairs)∧Rd w' (λ_=>True) 4 Al nl (rcells DLk.cells hs)∧DAt B F w' d (.slice Ap np cp) (.slice Al nl cl) hs s):=hdz λw' hf=>by
  have hd:=HA.out.1.fresh hf
  exact⟨hd.three.1,hd.three.2.1,hd.blk.lt,HA.out.2.2.1.keep (hf.weaken λ_ _ _=>trivial),HA.out.2.2.2.1.keep (hf.weaken λ_ _ _=>trivial),hd⟩
 clear h hI hpr hlk hrp hrl hnp hnl htk e1 hln
 go_enter Tryz.func59,Tryz.ntmps59
 go_upto_region 2 with (fail)
 rw[←hw1]
 clear hw1 hf1
 go_wp2_with fail
 refine Calls.mono HC1.out ?_
 rintro e w2 ⟨v2,rfl,e2,-⟩
 obtain⟨x0,x1,ld2,-⟩:=HM.out w2 e2.fr
 have hb2:(headB++putB tk.toNat).length≤12:=by
  rw[lapz]
  have:=putB_len9 (v:=tk.toNat) (by have:=HA.out.2.2.2.2.2.2.1;have:=HA.out.2.1.lk.tok1;omega)
  have:headB.length=3:=rfl
  omega
 have HC2:=hdz (e2.count (np:Int) (by omega) (by omega) (by omega))
 clear e2 hb2 x2 HC1
 go_wp2_with fail
 refine Calls.mono HC2.out ?_
 rintro e w3 ⟨v3,rfl,e3,-⟩
 have hsn:(headB++putB tk.toNat)++putB ((np:Int)).toNat=sn2 s 0:=by
  unfold sn2 sn1
  rw[HA.out.2.2.2.2.2.2.1,HA.out.2.2.2.2.1]
  simp[encs_cons,encs_nil]
 rw[hsn] at e3
 have E3:=hdz e3
 clear e3 hsn HC2 x0 x1 ld2
 go_wp2_with fail
 go_loopw [3,4] (λv i wr=>∃j:Nat,j≤np∧i=.int .i64 (j:Int)∧Hid (DEnc w wr v (sn2 s j))) (λ_ i _=>np - (intOf i).toNat)
 case atStart=>exact⟨0,by omega,rfl,E3⟩
 case round =>
  rename World=>wr
  obtain⟨j,hj,rfl,HR⟩:=hrel
  obtain⟨x0,x1,ldr,hrp,-,-⟩:=HM.out wr HR.out.fr
  by_cases hlt:j<np
  ·obtain⟨hjl,b,o,rfl,-,c0,c1⟩:=hrp.pairE hlt
   have hpe:=HA.out.2.1.pr.each _ (List.getElem_mem hjl)
   obtain⟨⟨kk,vv⟩,hy⟩:∃y,y=s.pairs[j]:=⟨_,rfl⟩
   rw[←hy] at c0 c1 hpe
   simp only at c0 c1 hpe
   have hsn:sn2 s (j+1)=sn2 s j++txt kk++txt vv:=by
    unfold sn2
    rw[flat_snoc _ _ hjl,←hy]
    simp[pairB]
   have hl0:=HA.out.2.2.2.2.2.2.2.1 j
   have HT:=hdz (HR.out.text kk (by omega) (by omega))
   have HS:=hdz (aiz hsn (aiz hpe (aiz hl0 (aiz c0 c1))))
   have hji:(j:Int)<(np:Int):=by omega
   have lb:=lt_of_cell c0
   clear hrp hjl hpe hy hsn hl0
   go_wp2_with fail
   refine Calls.mono HT.out ?_
   rintro e w4 ⟨v4,rfl,e4,-⟩
   have hl4:(sn2 s j++txt kk).length≤1080:=by
    rw[lapz]
    have:=txt_len9 HS.out.2.1.2.1
    have:=HS.out.2.2.1
    omega
   obtain⟨x0,x1,ld4,hrp4,-,-⟩:=HM.out w4 e4.fr
   obtain⟨hjl,b',o',eA,-,d0,d1⟩:=hrp4.pairE hlt
   injection eA with eA
   injection eA with eA eA2
   subst eA eA2
   have hsn1:=HS.out.1
   have c1':w4.cell? ⟨b,o+j*2+1,none⟩=some (str vv):=by
    have h9:=(HM.out wr HR.out.fr).2.2.2.1
    obtain⟨hjl2,b2,o2,eB,-,f0,f1⟩:=h9.pairE hlt
    injection eB with eB
    injection eB with eB eB2
    subst eB eB2
    rw[d1,←f1,HS.out.2.2.2.2]
   clear d0 d1 hjl hrp4
   have lb4:=lt_of_cell c1'
   have HT2:=hdz (e4.text vv (by have:=HS.out.2.1.2.2;omega) (by omega))
   clear e4 HT hl4 c0 c1 lb
   go_wp2_with fail
   refine Calls.mono HT2.out ?_
   rintro e w5 ⟨v5,rfl,e5,-⟩
   rw[←HS.out.1] at e5
   have E5:=hdz e5
   clear e5 HT2 c1' lb4 x0 x1 ld4
   go_wp2_with fail
   exact⟨⟨j+1,by omega,by simp,E5⟩,by simp only[intOf];omega⟩
  ·obtain rfl:np=j:=by omega
   have hl0:=HA.out.2.2.2.2.2.2.2.1 np
   have HC3:=hdz (HR.out.count (nl:Int) (by omega) (by omega) (by omega))
   clear hrp hl0
   go_wp2_with fail
   refine Calls.mono HC3.out ?_
   rintro e w4 ⟨v4,rfl,e4,-⟩
   have hsn:sn2 s np++putB ((nl:Int)).toNat=sn4 s 0:=by
    unfold sn4 sn3
    rw[HA.out.2.2.2.2.1,HA.out.2.2.2.2.2.1]
    simp[encs_cons,encs_nil]
   rw[hsn] at e4
   have E4:=hdz e4
   clear e4 hsn HC3 x0 x1 ldr HR
   go_wp2_with fail
   go_loopw [3,5] (λv i wr=>∃j:Nat,j≤nl∧i=.int .i64 (j:Int)∧Hid (DEnc w wr v (sn4 s j))) (λ_ i _=>nl - (intOf i).toNat)
   case atStart=>exact⟨0,by omega,rfl,E4⟩
   case round=>
    rename World=>wr2
    obtain⟨j,hj,rfl,HR⟩:=hrel
    obtain⟨x0,x1,ldr,-,hrl,-⟩:=HM.out wr2 HR.out.fr
    by_cases hlt:j<nl
    ·skip
     obtain⟨hjl,b,o,rfl,-,c0,c1,c2,c3⟩:=hrl.lockE hlt
     have hown:=HA.out.1.qs _ (List.getElem_mem hjl)
     have hjs:j<s.locks.length:=by rw[←HA.out.2.2.2.2.2.1];exact hlt
     have hdj:hs[j].d=s.locks[j]:=by
      have h3:(hs.map DLk.d)[j]'(by simpa using hjl)=hs[j].d:=by simp
      rw[←h3]
      exact List.getElem_of_eq HA.out.1.ds _
     have hok:=HA.out.2.1.lk.each _ (List.getElem_mem hjs)
     have hsn:sn4 s (j+1)=sn4 s j++lockB s.locks[j]:=by
      unfold sn4
      rw[flat_snoc _ _ hjs,←List.append_assoc]
     rw[hdj] at c0 c1 c2 hown
     obtain⟨⟨nm,lh,lt,lq⟩,hy⟩:∃y,y=s.locks[j]:=⟨_,rfl⟩
     rw[←hy] at c0 c1 c2 hown hok hsn
     simp only at c0 c1 c2 hown
     obtain⟨Aq,cq,eqv,hrq,-⟩:=own_rd hown
     rw[eqv] at c3
     have hq16:=queue_len hok.nd hok.q
     simp only at hq16
     obtain⟨nq,hnq⟩:∃n,n=lq.length:=⟨_,rfl⟩
     rw[←hnq] at c3 hrq hq16
     have hl0:=HA.out.2.2.2.2.2.2.2.2.2.1 j
     have lb:=lt_of_cell c0
     have hji:(j:Int)<(nl:Int):=by omega
     have HQ:=hdz (aiz hsn (aiz hok (aiz (hrq.weaken (Z':=λ_=>True) λ_ _=>trivial) (aiz hnq hl0))))
     have hn8:=hok.n8
     have hh0:=hok.h0;have hh1:=hok.h1;have ht0:=hok.t0;have ht1:=hok.t1
     have htk:=HA.out.2.1.lk.tok1
     simp only at hn8 hh0 hh1 ht0 ht1
     clear hrl hown hjs hdj hok hsn hy eqv hrq hnq hl0 hjl
     go_wp2_with (refine wpList_store_new rfl (.tmp 6) (.tmp 77) rfl _ #[str nm,.int .i64 lh,.int .i64 lt,.slice Aq nq cq] _ rfl rfl rfl (by kernel_rfl) (lockA_one _ _ _ _ rfl) ?_)
     intro w5 hb5 hf5 hs5
     obtain⟨g6,hg6⟩:∃g,g=wr2.heap.size:=⟨_,rfl⟩
     rw[←hg6] at hb5 ⊢
     have u0:=hb5.cell 0
     simp at u0
     have lu:=hb5.lt
     have HE5:=hdz (HR.out.later hf5)
     have HB5:=hdz hb5
     obtain⟨p5,hp5⟩:∃p,p=sn4 s j:=⟨_,rfl⟩
     have hl5:p5.length≤1070:=by rw[hp5];exact HQ.out.2.2.2.2
     rw[←hp5] at HE5
     have HP5:=hdz hp5
     have HT:=hdz (HE5.out.text nm (by omega) (by omega))
     clear hb5 hf5 hs5 hg6 c0 c1 c2 c3 lb x0 x1 ldr hp5
     go_wp2_with fail
     refine Calls.mono HT.out ?_
     rintro e w6 ⟨v6,rfl,e6,hk6⟩
     obtain⟨p6,hp6⟩:∃p,p=p5++txt nm:=⟨_,rfl⟩
     rw[←hp6] at e6
     have hl6:p6.length≤1080:=by
      rw[hp6,lapz]
      have:=txt_len9 (t:=nm) hn8
      omega
     have hb6:=HB5.out.keep hk6 (own_ne_blk HE5.out.row HB5.out (by decide))
     have u:=hb6.cell 1
     simp at u
     clear lu u0
     have lu:=hb6.lt
     have u0:=u
     clear u
     have HE6:=hdz e6
     have HB6:=hdz hb6
     have HP6:=hdz hp6
     clear e6 hk6 hb6 hp6 HT
     have HT:=hdz (HE6.out.count lh hh0 (by omega) (by omega))
     go_wp2_with fail
     refine Calls.mono HT.out ?_
     rintro e w7 ⟨v7,rfl,e7,hk7⟩
     obtain⟨p7,hp7⟩:∃p,p=p6++putB lh.toNat:=⟨_,rfl⟩
     rw[←hp7] at e7
     have hl7:p7.length≤1090:=by
      rw[hp7,lapz]
      have:=putB_len9 (v:=lh.toNat) (by omega)
      omega
     have hb7:=HB6.out.keep hk7 (own_ne_blk HE6.out.row HB6.out (by decide))
     have u:=hb7.cell 2
     simp at u
     clear lu u0
     have lu:=hb7.lt
     have u0:=u
     clear u
     have HE7:=hdz e7
     have HB7:=hdz hb7
     have HP7:=hdz hp7
     clear e7 hk7 hb7 hp7 HT
     have HT:=hdz (HE7.out.count lt (by omega) (by omega) (by omega))
     go_wp2_with fail
     refine Calls.mono HT.out ?_
     rintro e w8 ⟨v8,rfl,e8,hk8⟩
     obtain⟨p8,hp8⟩:∃p,p=p7++putB lt.toNat:=⟨_,rfl⟩
     rw[←hp8] at e8
     have hl8:p8.length≤1100:=by
      rw[hp8,lapz]
      have:=putB_len9 (v:=lt.toNat) (by omega)
      omega
     have hb8:=HB7.out.keep hk8 (own_ne_blk HE7.out.row HB7.out (by decide))
     have u:=hb8.cell 3
     simp at u
     clear lu u0
     have lu:=hb8.lt
     have u0:=u
     clear u
     have HE8:=hdz e8
     have HB8:=hdz hb8
     have HP8:=hdz hp8
     clear e8 hk8 hb8 hp8 HT
     have HT:=hdz (HE8.out.count (nq:Int) (by omega) (by omega) (by omega))
     go_wp2_with fail
     refine Calls.mono HT.out ?_
     rintro e w9 ⟨v9,rfl,e9,hk9⟩
     obtain⟨p9,hp9⟩:∃p,p=p8++putB ((nq:Int)).toNat:=⟨_,rfl⟩
     rw[←hp9] at e9
     have hl9:p9.length≤1110:=by
      rw[hp9,lapz]
      have:=putB_len9 (v:=((nq:Int)).toNat) (by omega)
      omega
     have hb9:=HB8.out.keep hk9 (own_ne_blk HE8.out.row HB8.out (by decide))
     have u:=hb9.cell 3
     simp at u
     clear lu u0
     have lu:=hb9.lt
     have u0:=u
     clear u
     have HE9:=hdz e9
     have HB9:=hdz hb9
     have HP9:=hdz hp9
     clear e9 hk9 hb9 hp9 HT
     go_wp2_with fail
     go_loopw [3,7] (λv i wq=>∃t:Nat,t≤nq∧i=.int .i64 (t:Int)∧Hid (DEnc w wq v (p9++queueB (lq.take t))∧Blk wq g6 157 #[str nm,.int .i64 lh,.int .i64 lt,.slice Aq nq cq])) (λ_ i _=>nq - (intOf i).toNat)
     case atStart=>exact⟨0,by omega,rfl,hdz ⟨by simpa[queueB] using HE9.out,HB9.out⟩⟩
     case round=>
      rename World=>wq
      obtain⟨t,ht,rfl,HR2⟩:=hrel
      clear u0 lu
      have u0:=HR2.out.2.cell 3
      simp at u0
      have lu:=HR2.out.2.lt
      by_cases htl:t<nq
      ·obtain⟨b2,o2,rfl,-,hlk2,e1⟩:=(HQ.out.2.2.1.keep (HR2.out.1.fr.weaken λ_ _ _=>trivial)).intAt htl
       have hc:=HQ.out.2.1.q _ (List.getElem_mem hlk2)
       have hqs:queueB (lq.take (t+1))=queueB (lq.take t)++putB (lq[t]).toNat:=by unfold queueB;rw[flat_snoc _ _ hlk2]
       have hql:(queueB (lq.take t)).length≤144:=by
        have h1:=flat_le (f:=λc:Int=>putB c.toNat) (c:=9) (lq.take t) (λc hc=>putB_len9 (by have:=HQ.out.2.1.q c (List.mem_of_mem_take hc);omega))
        have h2:=List.length_take_le t lq
        unfold queueB
        omega
       obtain⟨y,hy⟩:=exz (lq[t])
       rw[←hy] at e1 hc hqs
       have HS2:=hdz hqs
       have hti:(t:Int)<(nq:Int):=by omega
       have lb2:=lt_of_cell e1
       have HT:=hdz (HR2.out.1.count y hc.1 (by omega) (by rw[lapz];omega))
       clear hlk2 hc hqs hql hy
       go_wp2_with fail
       refine Calls.mono HT.out ?_
       rintro e w10 ⟨v10,rfl,e10,hk10⟩
       have hb10:=HR2.out.2.keep hk10 (own_ne_blk HR2.out.1.row HR2.out.2 (by decide))
       rw[List.append_assoc,←HS2.out] at e10
       have H10:=hdz (aiz e10 hb10)
       clear e10 hk10 hb10 HT
       go_wp2_with fail
       exact⟨⟨t+1,by omega,by simp,H10⟩,by simp only[intOf];omega⟩
      ·obtain rfl:nq=t:=by omega
       have hfin:p9++queueB (lq.take nq)=sn4 s (j+1):=by
        rw[List.take_of_length_le (by rw[HQ.out.2.2.2.1];exact lrz _),HQ.out.1,HP9.out,HP8.out,HP7.out,HP6.out,HP5.out]
        unfold lockB
        simp only[List.append_assoc]
        rw[HQ.out.2.2.2.1]
        rfl
       have hfe:=HR2.out.1
       rw[hfin] at hfe
       have HF:=hdz hfe
       clear hfin hfe
       go_wp2_with fail
       exact⟨⟨j+1,by omega,by simp,HF⟩,by simp only[intOf];omega⟩
    ·obtain rfl:nl=j:=by omega
     clear hrl
     go_wp2_with fail
     go_loopw [8,9] (λnv qv wq=>∃q:Nat,q≤16∧qv=.int .i64 (q:Int)∧nv=.int .i64 ((askedTo s.ss q).length:Int)∧wq=wr2) (λ_ q _=>16 - (intOf q).toNat)
     case atStart=>exact⟨0,by omega,rfl,rfl,rfl⟩
     case round=>
      rename World=>wq
      obtain⟨q,hq,rfl,rfl,rfl⟩:=hrel
      by_cases hq16:q<16
      ·have hqi:(q:Int)<16:=by omega
       have n0:=(HM.out wq HR.out.fr).2.2.2.2.2.ask (q:=q) (by rw[HA.out.2.1.s16];exact hq16) 0 (by omega)
       rw[Nat.add_zero] at n0
       have hsc:=askedTo_succ s.ss q
       have hle:=askedTo_le s.ss q
       obtain⟨z,hz⟩:=exz (s.ss.getD q noSes)
       rw[←hz] at n0 hsc
       replace n0:wq.cell? ⟨d,3+q*6,none⟩=some (.bool (decide (0<z.inc))):=n0
       obtain⟨zi,hzi⟩:=exz (z.inc)
       rw[←hzi] at n0 hsc
       obtain⟨na,hna⟩:=exz ((askedTo s.ss q).length)
       rw[←hna] at hle ⊢
       by_cases h0:0<zi
       ·have hd0:decide (0<zi)=true:=by simpa using h0
        have hN:Hid ((askedTo s.ss (q+1)).length=na+1):=hdz (by rw[hsc,if_pos h0,lapz,←hna];rfl)
        clear hsc hz hzi hna
        go_wp2_with fail
        exact⟨⟨q+1,by omega,by simp,by rw[hN.out];simp,by first | rfl | trivial⟩,by simp only[intOf];omega⟩
       ·have hd0:decide (0<zi)=false:=by simpa using h0
        have hN:Hid ((askedTo s.ss (q+1)).length=na):=hdz (by rw[hsc,if_neg h0,List.append_nil,←hna])
        clear hsc hz hzi hna
        go_wp2_with fail
        exact⟨⟨q+1,by omega,by simp,by rw[hN.out],by first | rfl | trivial⟩,by simp only[intOf];omega⟩
      ·obtain rfl:q=16:=by omega
       have hle:=askedTo_le s.ss 16
       have hl0:=HA.out.2.2.2.2.2.2.2.2.2.1 nl
       have hsn:sn4 s nl++putB (((askedTo s.ss 16).length:Int)).toNat=sn6 s 0:=by
        unfold sn6 sn5
        rw[HA.out.2.2.2.2.2.1,askedTo_all,show (askTo s.ss 16).length=(asked s.ss).length by rw[askTo_all];simp]
        simp[encs_cons,encs_nil]
       have HC5:=HR.out.count ((askedTo s.ss 16).length:Int) (by omega) (by omega) (by omega)
       rw[hsn] at HC5
       obtain⟨na,hna⟩:=exz ((askedTo s.ss 16).length)
       rw[←hna] at HC5 ⊢
       have HC5:=hdz HC5
       clear hle hl0 hsn hna
       go_wp2_with fail
       refine Calls.mono HC5.out ?_
       rintro e w5 ⟨v5,rfl,e5,-⟩
       have E5:=hdz e5
       clear e5 HC5
       go_wp2_with fail
       go_loopw [3,10] (λv i wq=>∃q:Nat,q≤16∧i=.int .i64 (q:Int)∧Hid (DEnc w wq v (sn5 s++(askedTo s.ss q).flatMap sesB))) (λ_ i _=>16 - (intOf i).toNat)
       case atStart=>exact⟨0,by omega,rfl,hdz (by have h9:=E5.out;unfold sn6 at h9;simpa[askedTo] using h9)⟩
       case round=>
        rename World=>wq
        obtain⟨q,hq,rfl,HR3⟩:=hrel
        have hs5:=HA.out.2.2.2.2.2.2.2.2.2.2.1
        by_cases hq16:q<16
        ·have hqi:(q:Int)<16:=by omega
         have hdq:=(HM.out wq HR3.out.fr).2.2.2.2.2
         have hql:q<s.ss.length:=by rw[HA.out.2.1.s16];exact hq16
         have n0:=hdq.ask hql 0 (by omega);have n1:=hdq.ask hql 1 (by omega);have n2:=hdq.ask hql 2 (by omega);have n3:=hdq.ask hql 3 (by omega);have n4:=hdq.ask hql 4 (by omega);have n5:=hdq.ask hql 5 (by omega)
         have ldq:=hdq.blk.lt
         have hsc:=askedTo_succ s.ss q
         have hfl:=askedTo_flat HA.out.2.1 hq
         have hup:=ses_up HA.out.2.1 hq16
         obtain⟨⟨zi,zr,⟨zc,zv,zn⟩⟩,hz⟩:∃z,z=s.ss.getD q noSes:=⟨_,rfl⟩
         rw[←hz] at n0 n1 n2 n3 n4 n5 hsc hup
         simp only[askC,List.getElem?_cons_zero,List.getElem?_cons_succ,Nat.add_zero] at n0 n1 n2 n3 n4 n5 hsc hup
         obtain⟨p5,hp5⟩:∃p,p=sn5 s++(askedTo s.ss q).flatMap sesB:=⟨_,rfl⟩
         have hl5:p5.length≤1940:=by rw[hp5,lapz];omega
         obtain⟨g11,hg11⟩:∃g,g=wq.heap.size:=⟨_,rfl⟩
         by_cases h0:0<zi
         ·have hd0:decide (0<zi)=true:=by simpa using h0
          have hok:=hup h0
          have b1:=hok.i0;have b2:=hok.i1;have b3:=hok.r0;have b4:=hok.r1;have b5:=hok.last.c0;have b6:=hok.last.c1;have b7:=hok.last.v;have b8:=hok.last.n0;have b9:=hok.last.n1
          simp only at b1 b2 b3 b4 b5 b6 b7 b8 b9
          have hsn:sn5 s++(askedTo s.ss (q+1)).flatMap sesB=p5++sesB (q,⟨zi,zr,⟨zc,zv,zn⟩⟩):=by
           rw[hsc,if_pos h0,List.flatMap_append,←List.append_assoc,←hp5]
           simp
          obtain⟨W1,hW1⟩:=exz (wq.alloc (.cells #[.bool true,.int .i64 zi,.int .i64 zr,.int .i64 zc,str zv,.int .i64 zn] 144))
          have hfW:Fresh wq W1:=by rw[hW1];exact (krz _ wq).alloc _
          have hbW:Blk W1 g11 144 #[.bool true,.int .i64 zi,.int .i64 zr,.int .i64 zc,str zv,.int .i64 zn]:=by rw[hW1,hg11];exact Blk.new _ _ _
          have HE5:Hid (DEnc w W1 _ p5):=hdz (by rw[hp5];exact HR3.out.later hfW)
          have HB5:=hdz hbW
          have HSN:=hdz hsn
          have HT:=hdz (HE5.out.count (q:Int) (by omega) (by omega) (by omega))
          clear hdq hql hsc hfl hup hz hok hsn hfW hbW hs5 hp5
          go_upto_region 33 with (fail)
          generalize hwN:World.alloc _ _=wN
          obtain rfl:W1=wN:=hW1.trans hwN
          rw[←hg11]
          clear hwN hW1 hg11 n0 n1 n2 n3 n4 n5
          have u0:=HB5.out.cell 0
          simp at u0
          have lu:=HB5.out.lt
          go_wp2_with fail
          refine Calls.mono HT.out ?_
          rintro e w6 ⟨v6,rfl,e6,hk6⟩
          obtain⟨p6,hp6⟩:∃p,p=p5++putB ((q:Int)).toNat:=⟨_,rfl⟩
          rw[←hp6] at e6
          have hl6:p6.length≤1950:=by
           rw[hp6,lapz]
           have:=putB_len9 (v:=((q:Int)).toNat) (by omega)
           omega
          have hb6:=HB5.out.keep hk6 (own_ne_blk HE5.out.row HB5.out (by decide))
          have u:=hb6.cell 1
          simp at u
          clear lu u0
          have lu:=hb6.lt
          have u0:=u
          clear u
          have HE6:=hdz e6
          have HB6:=hdz hb6
          have HP6:=hdz hp6
          clear e6 hk6 hb6 hp6 HT
          have HT:=hdz (HE6.out.count zi (by omega) (by omega) (by omega))
          go_wp2_with fail
          refine Calls.mono HT.out ?_
          rintro e w7 ⟨v7,rfl,e7,hk7⟩
          obtain⟨p7,hp7⟩:∃p,p=p6++putB zi.toNat:=⟨_,rfl⟩
          rw[←hp7] at e7
          have hl7:p7.length≤1960:=by
           rw[hp7,lapz]
           have:=putB_len9 (v:=zi.toNat) (by omega)
           omega
          have hb7:=HB6.out.keep hk7 (own_ne_blk HE6.out.row HB6.out (by decide))
          have u:=hb7.cell 2
          simp at u
          clear lu u0
          have lu:=hb7.lt
          have u0:=u
          clear u
          have HE7:=hdz e7
          have HB7:=hdz hb7
          have HP7:=hdz hp7
          clear e7 hk7 hb7 hp7 HT
          have HT:=hdz (HE7.out.count zr (by omega) (by omega) (by omega))
          go_wp2_with fail
          refine Calls.mono HT.out ?_
          rintro e w8 ⟨v8,rfl,e8,hk8⟩
          obtain⟨p8,hp8⟩:∃p,p=p7++putB zr.toNat:=⟨_,rfl⟩
          rw[←hp8] at e8
          have hl8:p8.length≤1970:=by
           rw[hp8,lapz]
           have:=putB_len9 (v:=zr.toNat) (by omega)
           omega
          have hb8:=HB7.out.keep hk8 (own_ne_blk HE7.out.row HB7.out (by decide))
          have u:=hb8.cell 3
          simp at u
          clear lu u0
          have lu:=hb8.lt
          have u0:=u
          clear u
          have HE8:=hdz e8
          have HB8:=hdz hb8
          have HP8:=hdz hp8
          clear e8 hk8 hb8 hp8 HT
          have HT:=hdz (HE8.out.count zc (by omega) (by omega) (by omega))
          go_wp2_with fail
          refine Calls.mono HT.out ?_
          rintro e w9 ⟨v9,rfl,e9,hk9⟩
          obtain⟨p9,hp9⟩:∃p,p=p8++putB zc.toNat:=⟨_,rfl⟩
          rw[←hp9] at e9
          have hl9:p9.length≤1980:=by
           rw[hp9,lapz]
           have:=putB_len9 (v:=zc.toNat) (by omega)
           omega
          have hb9:=HB8.out.keep hk9 (own_ne_blk HE8.out.row HB8.out (by decide))
          have u:=hb9.cell 4
          simp at u
          clear lu u0
          have lu:=hb9.lt
          have u0:=u
          clear u
          have HE9:=hdz e9
          have HB9:=hdz hb9
          have HP9:=hdz hp9
          clear e9 hk9 hb9 hp9 HT
          have HT:=hdz (HE9.out.text zv (by omega) (by omega))
          go_wp2_with fail
          refine Calls.mono HT.out ?_
          rintro e w10 ⟨v10,rfl,e10,hk10⟩
          obtain⟨p10,hp10⟩:∃p,p=p9++txt zv:=⟨_,rfl⟩
          rw[←hp10] at e10
          have hl10:p10.length≤1990:=by
           rw[hp10,lapz]
           have:=txt_len9 (t:=zv) b7
           omega
          have hb10:=HB9.out.keep hk10 (own_ne_blk HE9.out.row HB9.out (by decide))
          have u:=hb10.cell 5
          simp at u
          clear lu u0
          have lu:=hb10.lt
          have u0:=u
          clear u
          have HE10:=hdz e10
          have HB10:=hdz hb10
          have HP10:=hdz hp10
          clear e10 hk10 hb10 hp10 HT
          have HT:=hdz (HE10.out.count zn (by omega) (by omega) (by omega))
          go_wp2_with fail
          refine Calls.mono HT.out ?_
          rintro e w11 ⟨v11,rfl,e11,-⟩
          have hfin:p10++putB zn.toNat=sn5 s++(askedTo s.ss (q+1)).flatMap sesB:=by
           rw[HSN.out,HP10.out,HP9.out,HP8.out,HP7.out,HP6.out]
           unfold sesB
           simp only[List.append_assoc]
           rfl
          rw[hfin] at e11
          have HF:=hdz e11
          clear hfin e11 HT
          go_wp2_with fail
          exact⟨⟨q+1,by omega,by simp,HF⟩,by simp only[intOf];omega⟩
         ·have hd0:decide (0<zi)=false:=by simpa using h0
          have hsn:sn5 s++(askedTo s.ss (q+1)).flatMap sesB=sn5 s++(askedTo s.ss q).flatMap sesB:=by rw[hsc,if_neg h0,List.append_nil]
          have HSN:=hdz hsn
          clear hdq hql hsc hfl hup hz hsn hs5 hp5
          go_wp2_with fail
          refine⟨⟨q+1,by omega,by simp,hdz ?_⟩,by simp only[intOf];omega⟩
          rw[HSN.out]
          exact HR3.out.later ((krz _ wq).alloc _)
        ·obtain rfl:q=16:=by omega
         have hbd:sn5 s++(askedTo s.ss 16).flatMap sesB=bodyB s:=by
          rw[←sn_all s,askedTo_all]
          unfold sn6
          rw[List.take_length]
         have he:=HR3.out
         rw[hbd] at he
         have hbl:(bodyB s).length≤1940:=by
          rw[←hbd,lapz]
          have:=askedTo_flat HA.out.2.1 (lrz 16)
          omega
         have HSe:=hdz (dsealed_any w.heap.size _ (bodyB s) wq he.row (by omega) he.fr.size)
         have HE:=hdz he
         clear he hbd hbl hs5
         go_wp2_with fail
         refine Calls.mono HSe.out ?_
         rintro e w12 ⟨⟨u12,rfl,ho12⟩,hk12⟩
         have H12:=hdz (aiz ho12 hk12)
         clear ho12 hk12 HSe
         go_wp2_with fail
         go_ret
         exact⟨⟨_,rfl,H12.out.1⟩,HE.out.fr.comp H12.out.2 (λ_ _ h=>h) (λi hi _ e=>by have:=(own_lt HE.out.row e).1;omega)⟩
end
theorem samebytes_eq (Z1 Z2:Nat→Prop)(A1 A2:Option Addr)(n c1 c2:Nat)(l:Txt)(w:World)(h1:Rd w Z1 1 A1 n (Lib.byteCells l))(h2:Rd w Z2 1 A2 n (Lib.byteCells l))(hn:n≤1000000) :
 Calls Tryz.prog 19 #[.slice A1 n c1,.slice A2 n c2] w λe w'=>e=.returned (.bool true)∧Fresh w w':=
 (same_any _ _ A1 A2 _ c1 _ c2 l l w h1 h2 (by omega) (by omega)).mono λe w' ⟨he,k,hk⟩=>⟨by rw[he];simp,hk ▸ (krz _ w).drewN k⟩
theorem settleP_any {W0 w:World} (hT:TabsN W0) {K:Nat} {st:PlSt} (h:PlayR W0 w K st) (hn3:st.n=3) :
 Calls Tryz.prog 36 #[.pointer (some ⟨K,0,none⟩)] w λe w'=>e=.returned (.bool true)∧Fresh W0 w':=by
 have HI:=hdz (intactP_any hT h)
 obtain⟨ps,hp,hst⟩:=h.pg
 obtain⟨T,hTT⟩:∃T:Nat→Prop,T=λk=>st.own 7 k∧W0.heap.size≤k∧k<w.heap.size:=⟨_,rfl⟩
 have ht:=hp.tight
 rw[←hTT] at ht
 obtain⟨A,c,hL⟩:=own_form0 ht.row
 obtain⟨n,hn⟩:=exz (ps.length)
 have hn48:=hp.len
 rw[←hn] at hn48 hL
 have x9:=h.cellL.1
 have lK:=h.cellL.2.1
 rw[hL] at x9 ht
 have HB:=hdz (aiz h (aiz ht (aiz hst (aiz hT (aiz hTT (aiz hn hL))))))
 have X:=hdz x9
 have hTK:Hid (∀i,T i→i≠K):=by
  rw[hTT]
  exact λi e=>h.neK (a:=7) (by omega) (by omega) i e.1
 clear h hp hst ht hTT hn hL hT x9
 go_enter Tryz.func36,Tryz.ntmps36
 go_wp2_with fail
 refine HI.out.mono ?_
 rintro e w1 ⟨rfl,hf1⟩
 have y0:=hf1.cellAt X.out trivial
 have HF1:=hdz hf1
 clear hf1 HI lK
 have hw1:Hid (w1.heap.size≤w1.heap.size):=lrz _
 go_wp2_with (at_make;refine wpList_makeN etBool rfl rfl (.tmp 14) (.tmp 14) rfl w1.heap.size .i64 .i64 _ _ n n rfl rfl rfl rfl (lrz _) ?_ hw1.out ?_)
 case refine_1=>omega
 intro w2 ho2 hk2 hs2
 obtain⟨gf,hgf⟩:=exz (w1.heap.size)
 simp only[←hgf] at ho2 ⊢
 have HL0:Hid (FillP W0 w w2 gf n T (.slice A n c) 0 ps (List.replicate n false)):=by
  obtain⟨h,ht,hst,hT,hTT,hn,hL⟩:=HB.out
  have hf1:=HF1.out
  refine⟨hn.symm,ht.keep (hf1.trans hk2) (λ_ _=>trivial),?_,λi _ _ h=>by omega,λi hi _=>hst _ (List.getElem_mem hi),(hf1.trans hk2).weaken (λ_ _ _=>trivial)⟩
  have h0:=own_base ho2 (base':=w.heap.size) (by have:=hf1.size;omega)
  have e:bools (List.replicate n false)=List.replicate n (.bool false):=by simp[bools]
  rw[e]
  exact h0
 have HS:Hid ((∀i,T i→i≠gf)∧(∀i,T i→i<w.heap.size)∧K<w.heap.size∧gf≠K):=by
  obtain⟨h,ht,hst,hT,hTT,hn,hL⟩:=HB.out
  have:=HF1.out.size
  have lK:=h.cellL.2.1
  rw[hTT]
  exact⟨λi hi=>by have:=hi.2.2;omega,λi hi=>hi.2.2,lK,by omega⟩
 clear ho2 hk2 hs2 hgf hw1 y0
 go_wp2
 go_loopw [4] (λi wr=>∃ (k:Nat) (qs:List PgD) (fl:List Bool),k≤n∧i=.int .i64 (k:Int)∧Hid (FillP W0 w wr gf n T (.slice A n c) k qs fl)) (λi _=>n - (intOf i).toNat)
 case atStart=>exact⟨0,_,_,Nat.zero_le _,rfl,HL0.out⟩
 case round=>
  rename World=>wr
  obtain⟨k,qs,fl,hk,rfl,HL⟩:=hrel
  have y9:=HL.out.keep.cellAt X.out (λe=>hTK.out _ e rfl)
  have hKlt:K<wr.heap.size:=lt_of_cell y9
  by_cases hlt:k<n
  ·have hq:k<qs.length:=by have:=HL.out.len;omega
   obtain⟨g,c2,cs,hV,hg0,hg,hTg,hb,hsz,hcc⟩:=HL.out.pgs.cell hq
   rw[HL.out.len] at hV
   injection hV with hV1 hVn hV3
   subst hV1 hV3
   clear hVn
   obtain⟨uf,huf⟩:=own_has HL.out.row (g:=gf) (j:=k) rfl (by omega)
   have hff:=own_frozen HL.out.row (g:=gf) k rfl
   have hgfl:=(own_lt HL.out.row (g:=gf) rfl).2
   have hKgf:K≠gf:=λe=>HS.out.2.2.2 e.symm
   have hggf:g≠gf:=HS.out.1 g hTg
   have c10:wr.cell? ⟨g,k*11+10,none⟩=some (.bool qs[k].done):=by rw[hb.cell,hcc 10 (by omega)];rfl
   have hst:qs[k].st=0∨qs[k].st=2:=by
    have h1:=HL.out.rest k hq (lrz _)
    have h2:=(HL.out.pgs.pages _ (List.getElem_mem hq)).stl
    omega
   rcases hst with hst | hst
   ·rw[show qs[k].done=false by simp[PgD.done,hst]] at c10
    have hb2:=HL.out.pgs.keep (keep_flag wr gf k true) HS.out.1
    have hbb2:=hb.keep (keep_flag wr gf k true) hggf
    have hp2:=hb2.pages _ (List.getElem_mem hq)
    obtain⟨p,hp⟩:=exz (qs[k])
    have hfW:Fresh W0 (wr.setCell ⟨gf,k,none⟩ (.bool true)):=by
     obtain⟨h,ht,hst,hT,hTT,hn,hL⟩:=HB.out
     have hs0:=h.fr.size
     have hgfw:=(own_lt HL.out.row (g:=gf) rfl).1
     exact (h.fr.comp HL.out.keep (λ_ _ h=>h) (λj hj _ e=>by rw[hTT] at e;omega)).setCell (λe=>by have e':gf<W0.heap.size:=e;omega) _
    have HC:=pwrite_any HB.out.2.2.2.1 hfW (g:=g) (o:=k*11) hbb2 (hcc 0 (by omega)) (hcc 3 (by omega)) (hcc 6 (by omega)) (hcc 9 (by omega)) (hcc 10 (by omega)) hg0 hp2.oa hp2.ob hp2.oc (by have:=hp2.na;omega) (by have:=hp2.nb;omega) (by have:=hp2.nc;omega) hp2.m0 hp2.m1
    rw[←hp] at HC
    replace HC:=hdz HC
    have HQ:Hid (∃hq:k<qs.length,qs[k].st=0∧p=qs[k]∧Blk (wr.setCell ⟨gf,k,none⟩ (.bool true)) g 129 cs):=⟨hq,hst,hp,hbb2⟩
    clear hb2 hbb2 hb hcc hsz hTg hp2 hst hp hfW
    clear hq
    go_wp2_with fail
    refine HC.out.mono ?_
    rintro e w3 ⟨rfl,hb3,oa3,ob3,oc3,hk3⟩
    obtain⟨hq,hst,hp,hbb2⟩:=HQ.out
    rw[hp] at oa3 ob3 oc3 hk3
    have HN:=hdz (HL.out.over0 HS.out.1 hlt hq hst hbb2 hb3 oa3 ob3 oc3 hk3)
    clear hb3 oa3 ob3 oc3 hk3 hp hst hbb2 HC c10 huf hff hKgf hggf hKlt y9 HL hgfl hg hg0
    go_wp2
    exact⟨⟨k+1,_,_,by omega,congrArg _ (by omega),HN.out⟩,by simp[intOf];omega⟩
   ·rw[show qs[k].done=true by simp[PgD.done,hst]] at c10
    have HN:=hdz (HL.out.over HS.out.1 hlt hq hst)
    clear hst HL hb hcc hsz hTg hg0
    clear hq
    go_wp2
    exact⟨⟨k+1,_,_,by omega,congrArg _ (by omega),HN.out⟩,by simp[intOf];omega⟩
  ·obtain rfl:k=n:=by omega
   have HG:=hdz HL.out.grow
   clear HL
   go_wp2_with fail
   go_loopw [5] (λi wr=>∃ (k2:Nat) (qs:List PgD),k2≤k∧i=.int .i64 (k2:Int)∧Hid (GrowP W0 w wr gf k T (.slice A k c) k2 qs fl)) (λi _=>k - (intOf i).toNat)
   case atStart=>exact⟨0,_,Nat.zero_le _,rfl,HG.out⟩
   case round=>
    rename World=>wr2
    obtain⟨k2,qs2,hk2,rfl,HL⟩:=hrel
    have y9:=HL.out.keep.cellAt X.out (λe=>hTK.out _ e rfl)
    have hKlt:K<wr2.heap.size:=lt_of_cell y9
    by_cases hlt2:k2<k
    ·have hq:k2<qs2.length:=by have:=HL.out.len;omega
     have hf:k2<fl.length:=by rw[bools_len HL.out.row];exact hlt2
     obtain⟨g,c2,cs,hV,hg0,hg,hTg,hb,hsz,hcc⟩:=HL.out.pgs.cell hq
     rw[HL.out.len] at hV
     injection hV with hV1 hVn hV3
     subst hV1 hV3
     clear hVn
     have huf:=own_cell HL.out.row (g:=gf) rfl (bools_get hf)
     have hgfl:=(own_lt HL.out.row (g:=gf) rfl).2
     have hp2:=HL.out.pgs.pages _ (List.getElem_mem hq)
     rcases HL.out.rest k2 hq hf (lrz _) with ⟨hst,hfl⟩ | ⟨hst,hfl⟩
     ·rw[hfl] at huf
      obtain⟨p,hp⟩:=exz (qs2[k2])
      have hfW:Fresh W0 wr2:=by
       obtain⟨h,ht,hst,hT,hTT,hn,hL⟩:=HB.out
       exact h.fr.comp HL.out.keep (λ_ _ h=>h) (λj hj _ e=>by rw[hTT] at e;omega)
      have HC:=pgrow_any HB.out.2.2.2.1 hfW (g:=g) (o:=k2*11) hb hsz (hcc 0 (by omega)) (hcc 3 (by omega)) (hcc 6 (by omega)) (hcc 9 (by omega)) hg0 hp2.oa hp2.ob hp2.oc (by have:=hp2.na;omega) (by have:=hp2.nb;omega) (by have:=hp2.nc;omega) hp2.m0 hp2.m1
      rw[←hp] at HC
      replace HC:=hdz HC
      have HQ:Hid (qs2[k2].st=1∧p=qs2[k2]∧Blk wr2 g 129 cs∧k2*11+11≤cs.size):=⟨hst,hp,hb,hsz⟩
      clear hp2 hst hfl hp hb hsz hcc hTg hfW
      go_wp2_with fail
      refine HC.out.mono ?_
      rintro e w3 ⟨rfl,w1',Ga,Gb,Gc,hs1,hk1,hgg⟩
      obtain⟨hst,hp,hb,hsz⟩:=HQ.out
      rw[hp] at hgg
      have HN:=hdz (HL.out.long HS.out.2.1 hlt2 hq hst hb hsz hs1 hk1 hgg)
      clear hs1 hk1 hgg hp hst hb hsz HC huf hgfl hKlt y9 HL hg hg0
      go_wp2
      exact⟨⟨k2+1,_,by omega,congrArg _ (by omega),HN.out⟩,by simp[intOf];omega⟩
     ·rw[hfl] at huf
      have HN:=hdz (HL.out.skip hq hst)
      clear hp2 hst hfl HL hb hsz hcc hTg hg0
      go_wp2
      exact⟨⟨k2+1,_,by omega,congrArg _ (by omega),HN.out⟩,by simp[intOf];omega⟩
    ·obtain rfl:k2=k:=by omega
     obtain ⟨st2,HP⟩:∃st2,Hid (PlayR W0 wr2 K st2∧st2.n=3):=by
      obtain⟨h,ht,hst,hT,hTT,hn,hL⟩:=HB.out
      have hall:∀p∈qs2,p.st≠1:=by
       intro p hp
       obtain⟨j,hj,rfl⟩:=List.getElem_of_mem hp
       have:=HL.out.done j hj (by have:=HL.out.len;omega)
       omega
      refine⟨_,h.pages (HL.out.keep.weaken λi _ hi e=>by rw[hTT] at e;exact hi e.1) (S:=λi=>T i∨w.heap.size≤i) ⟨qs2,by rw[hL];exact HL.out.pgs,hall⟩ (λi e=>?_),hn3⟩
      rcases e with e | e
      ·rw[hTT] at e;exact .inl e.1
      ·exact .inr e
     have HSe:=hdz (settle_any _ _ _ _ wr2 HP.out.1.bk HP.out.1.fr.size)
     clear HL
     go_wp2_with fail
     refine HSe.out.mono ?_
     rintro e w7 ⟨rfl,hbk7,hk7⟩
     obtain⟨st3,HP3⟩:∃st3,Hid (PlayR W0 w7 K st3∧st3.n=3):=
      ⟨_,HP.out.1.book (vs:=λ_=>False) (hk7.weaken λi _ hi=>hi.1) hbk7 (λi e=>by rcases e with e | e;exact .inl e;exact .inr (.inr e.1)) (λi e=>e.elim),HP.out.2⟩
     have HI7:=hdz (intactP_any HB.out.2.2.2.1 HP3.out.1)
     clear hbk7 hk7 HSe
     go_wp2_with fail
     refine HI7.out.mono ?_
     rintro e w8 ⟨rfl,hf8⟩
     have HP8:Hid (PlayR W0 w8 K st3∧st3.n=3):=⟨HP3.out.1.fresh hf8,HP3.out.2⟩
     clear hf8 HI7 HP
     go_wp2_with fail
     go_loopw [6] (λi wr3=>∃k3:Nat,k3≤3∧i=.int .i64 (k3:Int)∧Hid (Fresh w8 wr3)) (λi _=>3 - (intOf i).toNat)
     case atStart=>exact⟨0,by omega,rfl,krz _ _⟩
     case round=>
      rename World=>wr3
      obtain⟨k3,hk3,rfl,HW3⟩:=hrel
      by_cases hl3:k3<3
      ·have hl3i:(k3:Int)<3:=by omega
       have hP:=HP8.out.1.fresh HW3.out
       have hi3:k3<st3.n:=by rw[HP8.out.2];exact hl3
       obtain⟨y0,y3⟩:=hP.cellP hi3
       have hq:=hP.pair hi3
       have lK3:=hP.cellL.2.1
       obtain⟨m,hm⟩:=exz (st3.m k3)
       obtain⟨d,hd⟩:=exz (st3.d k3)
       obtain⟨s,hs⟩:=exz (st3.s k3)
       rw[←hm,←hd,←hs] at hq
       rw[←hm] at y0
       rw[←hd] at y3
       have hinv:=hq.ma.inv
       have hTw:=HB.out.2.2.2.1.fresh hP.fr
       have b1:s.pairs.length≤1000000:=by have:=hinv.pr.len;omega
       have b2:s.locks.length≤1000000:=by have:=hinv.lk.len;omega
       have b3:(snapB s).length≤1000000:=by have:=snap_most hinv;omega
       obtain⟨X,hX⟩:=exz (s.pairs)
       obtain⟨Y,hY⟩:=exz (s.locks.map LockD.name)
       obtain⟨Z,hZ⟩:=exz (snapB s)
       have hYl:s.locks.length=Y.length:=by rw[hY];simp
       have HPP:=hdz (λwx (hf:Fresh wr3 wx)=>show Calls Tryz.prog 30 #[.pointer (some ⟨m,0,none⟩)] wx λe w'=>(∃v,e=.returned v∧w'.ownsRow wx.heap.size 71 2 v X.length (pcells X))∧Fresh wx w' from by have HQ:=hq.fresh hf;have hc:=mat_pairs HQ.ma;rw[←hX] at hc;exact hc)
       have HDP:=hdz (λwx (hf:Fresh wr3 wx)=>show Calls Tryz.prog 66 #[.pointer (some ⟨d,0,none⟩)] wx λe w'=>(∃v,e=.returned v∧w'.ownsRow wx.heap.size 71 2 v X.length (pcells X))∧Fresh wx w' from by have HQ:=hq.fresh hf;have hc:=dpairs_any HQ.da (by have:=hinv.pr.len;omega);rw[←hX] at hc;exact hc)
       have HPL:=hdz (λwx (hf:Fresh wr3 wx)=>show Calls Tryz.prog 31 #[.pointer (some ⟨m,0,none⟩)] wx λe w'=>(∃v,e=.returned v∧w'.ownsRow wx.heap.size 9 1 v Y.length (Y.map str))∧Fresh wx w' from by have HQ:=hq.fresh hf;have hc:=mat_locks HQ.ma;rw[←hY,hYl] at hc;exact hc)
       have HDL:=hdz (λwx (hf:Fresh wr3 wx)=>show Calls Tryz.prog 67 #[.pointer (some ⟨d,0,none⟩)] wx λe w'=>(∃v,e=.returned v∧w'.ownsRow wx.heap.size 9 1 v Y.length (Y.map str))∧Fresh wx w' from by have HQ:=hq.fresh hf;have hc:=dlocks_any HQ.da (by have:=hinv.lk.len;omega);rw[←hY,hYl] at hc;exact hc)
       have HPS:=hdz (λwx (hf:Fresh wr3 wx)=>show Calls Tryz.prog 16 #[.pointer (some ⟨m,0,none⟩)] wx λe w'=>(∃v,e=.returned v∧w'.ownsRow wx.heap.size 5 1 v Z.length (Lib.byteCells Z))∧Fresh wx w' from by have HQ:=hq.fresh hf;have hc:=mat_snap (hTw.fresh hf) HQ.ma;rw[←hZ] at hc;exact hc)
       have HDS:=hdz (λwx (hf:Fresh wr3 wx)=>show Calls Tryz.prog 59 #[.pointer (some ⟨d,0,none⟩)] wx λe w'=>(∃v,e=.returned v∧w'.ownsRow wx.heap.size 5 1 v Z.length (Lib.byteCells Z))∧Fresh wx w' from by have HQ:=hq.fresh hf;have hc:=dsnap_any HQ.da hinv;rw[←hZ] at hc;exact hc)
       have b1':X.length≤1000000:=by rw[hX];exact b1
       have b2':Y.length≤1000000:=by rw[←hYl];exact b2
       have b3':Z.length≤1000000:=by rw[hZ];exact b3
       have hd0:Hid (Fresh wr3 wr3.drew):=hdz ((krz _ wr3).drew)
       have HS:Hid (∀w',Fresh wr3 w'→w'.cell? ⟨K,k3,none⟩=some (.pointer (some ⟨m,0,none⟩))∧w'.cell? ⟨K,3+k3,none⟩=some (.pointer (some ⟨d,0,none⟩))):=hdz λw' hf=>⟨hf.cellAt y0 trivial,hf.cellAt y3 trivial⟩
       clear hP hi3 hq hm hd hs hinv hTw b1 b2 b3 hX hY hZ hYl
       go_wp2_with fail
       go_region_held3 (λw'=>w'.cell? ⟨K,k3,none⟩=some (.pointer (some ⟨m,0,none⟩))∧w'.cell? ⟨K,3+k3,none⟩=some (.pointer (some ⟨d,0,none⟩)))
        (first | with_reducible exact HS.out _ hfa | with_reducible exact HS.out _ hd0.out)
        (first
         | (go_at_call 30;(with_reducible refine Calls.mono (HPP.out _ (by first | exact hfa | exact hd0.out)) ?_);rintro e wa ⟨⟨v,rfl,hv⟩,hfb⟩;obtain⟨A1,q1,rfl,hr,-⟩:=own_rd hv;have R1:=hdz (λwx (hx:Fresh wa wx)=>hr.keep (hx.weaken λ_ _ _=>trivial));have hfa:=(show Fresh wr3 _ from (by first | exact hfa | exact hd0.out)).trans hfb;clear hv hr)
         | (go_at_call 66;(with_reducible refine Calls.mono (HDP.out _ (by first | exact hfa | exact hd0.out)) ?_);rintro e wa ⟨⟨v,rfl,hv⟩,hfb⟩;obtain⟨A2,q2,rfl,hr,-⟩:=own_rd hv;have R2:=hdz (λwx (hx:Fresh wa wx)=>hr.keep (hx.weaken λ_ _ _=>trivial));have hfa:=(show Fresh wr3 _ from (by first | exact hfa | exact hd0.out)).trans hfb;clear hv hr)
         | (go_at_call 65;(refine Calls.mono (samepairs_eq _ _ A1 A2 _ q1 q2 X _ (R1.out _ (by first | exact krz _ _ | exact hfb)) (R2.out _ (by first | exact krz _ _ | exact hfb)) b1') ?_);rintro e wa ⟨rfl,hfb⟩;have hfa:=(show Fresh wr3 _ from (by first | exact hfa | exact hd0.out)).trans hfb)
         | (go_at_call 31;(with_reducible refine Calls.mono (HPL.out _ (by first | exact hfa | exact hd0.out)) ?_);rintro e wa ⟨⟨v,rfl,hv⟩,hfb⟩;obtain⟨A3,q3,rfl,hr,-⟩:=own_rd hv;have R3:=hdz (λwx (hx:Fresh wa wx)=>hr.keep (hx.weaken λ_ _ _=>trivial));have hfa:=(show Fresh wr3 _ from (by first | exact hfa | exact hd0.out)).trans hfb;clear hv hr)
         | (go_at_call 67;(with_reducible refine Calls.mono (HDL.out _ (by first | exact hfa | exact hd0.out)) ?_);rintro e wa ⟨⟨v,rfl,hv⟩,hfb⟩;obtain⟨A4,q4,rfl,hr,-⟩:=own_rd hv;have R4:=hdz (λwx (hx:Fresh wa wx)=>hr.keep (hx.weaken λ_ _ _=>trivial));have hfa:=(show Fresh wr3 _ from (by first | exact hfa | exact hd0.out)).trans hfb;clear hv hr)
         | (go_at_call 33;(refine Calls.mono (samenames_eq _ _ A3 A4 _ q3 q4 Y _ (R3.out _ (by first | exact krz _ _ | exact hfb)) (R4.out _ (by first | exact krz _ _ | exact hfb)) b2') ?_);rintro e wa ⟨rfl,hfb⟩;have hfa:=(show Fresh wr3 _ from (by first | exact hfa | exact hd0.out)).trans hfb)
         | (go_at_call 16;(with_reducible refine Calls.mono (HPS.out _ (by first | exact hfa | exact hd0.out)) ?_);rintro e wa ⟨⟨v,rfl,hv⟩,hfb⟩;obtain⟨A5,q5,rfl,hr,-⟩:=own_rd hv;have R5:=hdz (λwx (hx:Fresh wa wx)=>hr.keep (hx.weaken λ_ _ _=>trivial));have hfa:=(show Fresh wr3 _ from (by first | exact hfa | exact hd0.out)).trans hfb;clear hv hr)
         | (go_at_call 59;(with_reducible refine Calls.mono (HDS.out _ (by first | exact hfa | exact hd0.out)) ?_);rintro e wa ⟨⟨v,rfl,hv⟩,hfb⟩;obtain⟨A6,q6,rfl,hr,-⟩:=own_rd hv;have R6:=hdz (λwx (hx:Fresh wa wx)=>hr.keep (hx.weaken λ_ _ _=>trivial));have hfa:=(show Fresh wr3 _ from (by first | exact hfa | exact hd0.out)).trans hfb;clear hv hr)
         | (go_at_call 19;(refine Calls.mono (samebytes_eq _ _ A5 A6 _ q5 q6 Z _ (R5.out _ (by first | exact krz _ _ | exact hfb)) (R6.out _ (by first | exact krz _ _ | exact hfb)) b3') ?_);rintro e wa ⟨rfl,hfb⟩;have hfa:=(show Fresh wr3 _ from (by first | exact hfa | exact hd0.out)).trans hfb))
       all_goals
        go_wp2_with fail
        exact⟨⟨k3+1,by omega,congrArg _ (by omega),hdz (HW3.out.trans hfa)⟩,by simp[intOf];omega⟩
      ·have HI9:=hdz (intactP_any HB.out.2.2.2.1 (HP8.out.1.fresh HW3.out))
       have hl3i:¬(k3:Int)<3:=by omega
       go_wp2_with fail
       refine HI9.out.mono ?_
       rintro e w9 ⟨rfl,hf9⟩
       have HF9:=hdz hf9
       clear hf9 HI9
       go_wp2_with fail
       go_ret
       exact⟨by first | rfl | trivial,(HP8.out.1.fr.trans HW3.out).trans HF9.out⟩
end Go.Proofs.YtlibhkehebioeaaGreatDoor
