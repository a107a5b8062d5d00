/- A PART OF THE PROOF. No condition. -/
import Derived.Test.YtlibhkehebioeaaGreatDoorP15
import Derived.Test.YtlibhkehebioeaaGreatDoorP16
import Derived.Test.YtlibhkehebioeaaGreatDoorP21
import Derived.Test.YtlibhkehebioeaaGreatDoorP9
namespace Go.Proofs.YtlibhkehebioeaaGreatDoor
set_option linter.unusedVariables false
set_option linter.unusedSimpArgs false
set_option maxRecDepth 100000
set_option maxHeartbeats 40000000
open Go.RowKit
theorem ppage_info:(Tryz.prog.info? 129).map (λi=>(i.zero,i.size,i.bytes))=some (some (.agg #[.slice none 0 0,.slice none 0 0,.slice none 0 0,.slice none 0 0,.slice none 0 0,.slice none 0 0,.slice none 0 0,.slice none 0 0,.slice none 0 0,.int .i64 0,.bool false]),11,232):=by kernel_rfl
theorem etPPage:ET Tryz.prog 81 129 11 232 (.agg #[.slice none 0 0,.slice none 0 0,.slice none 0 0,.slice none 0 0,.slice none 0 0,.slice none 0 0,.slice none 0 0,.slice none 0 0,.slice none 0 0,.int .i64 0,.bool false]):=⟨Tryz.underlying81,ppage_info,rfl,by decide,by decide⟩
theorem pgA_one (A1 A2 A3 A4 A5 A6 A7 A8 A9:Option Addr)(n1 c1 n2 c2 n3 c3 n4 c4 n5 c5 n6 c6 n7 c7 n8 c8 n9 c9:Nat)(mk:Int)(d:Bool):∀u∈[Value.slice A1 n1 c1,.slice A2 n2 c2,.slice A3 n3 c3,.slice A4 n4 c4,.slice A5 n5 c5,.slice A6 n6 c6,.slice A7 n7 c7,.slice A8 n8 c8,.slice A9 n9 c9,.int .i64 mk,.bool d],u.oneCell'=true:=by
 intro u hu
 simp only[List.mem_cons,List.not_mem_nil,or_false] at hu
 rcases hu with rfl | rfl | rfl | rfl | rfl | rfl | rfl | rfl | rfl | rfl | rfl <;> rfl
def Own3 (va vb vc:Value)(k:Nat):Prop:=va.ownBlock=some k∨vb.ownBlock=some k∨vc.ownBlock=some k
structure Kept (W0 w:World)(K:Nat)(st:PlSt)(vs:Nat→Prop)(w':World)(st':PlSt):Prop where
 pl:PlayR W0 w' K st'
 n:st'.n=st.n
 own:∀a,a<8→∀k,st'.own a k→st.own a k∨vs k∨w.heap.size≤k
 kp:Keep (λk=>k≠K∧¬st.own 7 k∧¬vs k) w w'
theorem keep_close {W0 w wq wx w3:World} {K:Nat} {st:PlSt} {va vb vc L':Value} {ps:List PgD} {q:PgD} (h:PlayR W0 w K st) (hp:PagesIs w W0.heap.size (st.own 7) st.hd.l ps) (hst:∀p∈ps,p.st≠1) (hlen:ps.length<48)
 (hv:∀k,Own3 va vb vc k→W0.heap.size≤k∧k<w.heap.size∧∀a,a<8→¬st.own a k) (hkq:Keep (λk=>¬Own3 va vb vc k) w wq) (hq:q.ok wq W0.heap.size) (hqst:q.st≠1) (hqb:∀k,q.blk k→Own3 va vb vc k∨w.heap.size≤k) (hx:Fresh wq wx)
 (ho:w3.ownsRow W0.heap.size 129 11 L' (ps.length+1) (kcells ps++q.cells)) (hk3:Keep (λk=>st.hd.l.ownBlock≠some k) wx w3) (hn:Next wx.heap.size st.hd.l L') :
 ∃st',Kept W0 w K st (Own3 va vb vc) (w3.setCell ⟨K,9,none⟩ L') st':=by
 have hLown:∀k,st.hd.l.ownBlock=some k→st.own 7 k:=hp.inL
 have hLlt:∀k,st.hd.l.ownBlock=some k→k<w.heap.size:=λk e=>(own_lt hp.row e).2
 have hkx:Keep (λk=>¬Own3 va vb vc k) w wx:=hkq.comp hx (λ_ _ h=>h) (λ_ _ _=>trivial)
 have hqL:∀k,q.blk k→st.hd.l.ownBlock≠some k:=λk e e2=>by
  rcases hqb k e with h1 | h1
  ·exact (hv k h1).2.2 7 (by omega) (hLown k e2)
  ·have:=hLlt k e2;omega
 have hq3:q.ok w3 W0.heap.size:=(hq.keep hx (λ_ _=>trivial)).keep hk3 hqL
 have hpx:=hp.keep hkx (λk e e2=>(hv k e2).2.2 7 (by omega) e)
 have hkw3:Keep (λk=>¬st.own 7 k∧¬Own3 va vb vc k) w w3:=hkx.comp hk3 (λ_ _ h=>h.2) (λk _ h e=>h.1 (hLown k e))
 have e1:kcells ps++q.cells=kcells (ps++[q]):=by rw[show kcells (ps++[q])=kcells ps++kcells [q] from rcells_append _ _ _];simp[rcells_cons,rcells_nil]
 rw[e1] at ho
 have hL':∀k,L'.ownBlock=some k→st.own 7 k∨w.heap.size≤k:=λk e=>by
  rcases hn with e2 | ⟨g,e2,hg⟩
  ·exact .inl (hLown k (e2 ▸ e))
  ·rw[e2] at e
   injection e with e
   have:=hkx.size
   exact .inr (by omega)
 have hP:PagesOk w3 W0.heap.size (λk=>st.own 7 k∨Own3 va vb vc k∨w.heap.size≤k) L':=by
  refine⟨ps++[q],hpx.push hq3 hlen ho (hk3.weaken λk _ h=>h.1) (λp hp' k e e2=>?_) (λk e=>.inl e) (λk e=>.inr (hqb k e)) (λk e=>?_),λp hp'=>?_⟩
  ·have h1:=hp.inP p hp' k e
   rcases hqb k e2 with h2 | h2
   ·exact (hv k h2).2.2 7 (by omega) h1
   ·exact h.newer h2 7 (by omega) h1
  ·rcases hL' k e with h1 | h1
   ·exact .inl h1
   ·exact .inr (.inr h1)
  ·rcases List.mem_append.1 hp' with h1 | h1
   ·exact hst p h1
   ·obtain rfl:p=q:=by simpa using h1
    exact hqst
 refine⟨_,h.kept hkw3 hP (λk e=>e) hv,rfl,λa ha k e=>?_,?_⟩
 ·by_cases e7:a=7
  ·subst e7
   have e':upd st.own 7 _ 7 k:=e
   rw[upd_same] at e'
   exact e'.1
  ·have e':upd st.own 7 _ a k:=e
   rw[upd_ne _ _ e7] at e'
   exact .inl e'
 ·exact (hkw3.weaken λk _ h=>h.2).setCell (λ_ h=>h.1 rfl) _
def page0 (va vb vc A3 B3 C3:Value)(la:List (Txt×Txt))(lb:List (Int×Int))(lc:List Txt)(mk:Int):PgD:=
 ⟨va,.slice none 0 0,A3,vb,.slice none 0 0,B3,vc,.slice none 0 0,C3,la,lb,lc,mk,0⟩
theorem page0_ok {w:World} {B n0:Nat} {va vb vc A3 B3 C3:Value} {la:List (Txt×Txt)} {lb:List (Int×Int)} {lc:List Txt} {mk:Int} (oa:w.ownsRow B 71 2 va la.length (pcells la)) (ob:w.ownsRow B 115 2 vb lb.length (wcells lb)) (oc:w.ownsRow B 9 1 vc lc.length (lc.map str))
 (na:la.length≤900) (nb:lb.length≤900) (nc:lc.length≤900) (m0:1000≤mk) (m1:mk≤100000) (hB:B≤n0)
 (ka:w.ownsRow n0 71 2 A3 la.length (pcells la)) (kb:w.ownsRow n0 115 2 B3 lb.length (wcells lb)) (kc:w.ownsRow n0 9 1 C3 lc.length (lc.map str)) :
 (page0 va vb vc A3 B3 C3 la lb lc mk).ok w B∧∀k,(page0 va vb vc A3 B3 C3 la lb lc mk).blk k→Own3 va vb vc k∨n0≤k:=by
 refine⟨⟨oa,ob,oc,na,nb,nc,m0,m1,by simp[page0],λ_=>own_base ka hB,λ_=>own_base kb hB,λ_=>own_base kc hB,λe=>absurd e (Nat.lt_irrefl 0),λe=>absurd e (Nat.lt_irrefl 0),λe=>absurd e (Nat.lt_irrefl 0),λe=>by simp[page0] at e,λe=>by simp[page0] at e,λe=>by simp[page0] at e,⟨⟨_,_,_,rfl⟩,⟨_,_,_,rfl⟩,⟨_,_,_,rfl⟩⟩,?_,?_,?_⟩,λk hk=>?_⟩
 ·obtain⟨A,c,e⟩:=own_form0 ka;exact⟨A,_,c,e⟩
 ·obtain⟨A,c,e⟩:=own_form0 kb;exact⟨A,_,c,e⟩
 ·obtain⟨A,c,e⟩:=own_form0 kc;exact⟨A,_,c,e⟩
 ·rcases hk with e | ⟨_,e | e | e⟩ | ⟨e,_⟩
  ·exact .inl e
  ·exact .inr (own_lt ka e).1
  ·exact .inr (own_lt kb e).1
  ·exact .inr (own_lt kc e).1
  ·simp[page0] at e
theorem rcells_one {α:Type} {f:α→List Value} (h:∀x,∀u∈f x,u.oneCell'=true) (l:List α):∀u∈rcells f l,u.oneCell'=true:=by
 induction l with
 | nil=>intro u hu;simp[rcells_nil] at hu
 | cons x l ih=>
  intro u hu
  rw[rcells_cons] at hu
  rcases List.mem_append.1 hu with h1 | h1
  ·exact h x u h1
  ·exact ih u h1
theorem pairs_one (l:List (Txt×Txt)):∀u∈pcells l,u.oneCell'=true:=rcells_one (λx u hu=>by
 simp only[pairC,List.mem_cons,List.not_mem_nil,or_false] at hu
 rcases hu with rfl | rfl <;> rfl) l
theorem waits_one (l:List (Int×Int)):∀u∈wcells l,u.oneCell'=true:=rcells_one (λx u hu=>by
 simp only[waitC,List.mem_cons,List.not_mem_nil,or_false] at hu
 rcases hu with rfl | rfl <;> rfl) l
theorem names_one (l:List Txt):∀u∈l.map str,u.oneCell'=true:=by
 intro u hu
 obtain⟨t,_,rfl⟩:=List.mem_map.1 hu
 rfl
theorem keep_any {W0 w:World} (hT:TabsN W0) {K:Nat} {st:PlSt} (h:PlayR W0 w K st) {va vb vc:Value} {la:List (Txt×Txt)} {lb:List (Int×Int)} {lc:List Txt}
 (oa:w.ownsRow W0.heap.size 71 2 va la.length (pcells la)) (ob:w.ownsRow W0.heap.size 115 2 vb lb.length (wcells lb)) (oc:w.ownsRow W0.heap.size 9 1 vc lc.length (lc.map str))
 (na:la.length≤900) (nb:lb.length≤900) (nc:lc.length≤900) (hv:∀k,Own3 va vb vc k→∀a,a<8→¬st.own a k) (t:Bool) :
 Calls Tryz.prog 85 #[.pointer (some ⟨K,0,none⟩),.agg #[va,.slice none 0 0,.slice none 0 0,vb,.slice none 0 0,.slice none 0 0,vc,.slice none 0 0,.slice none 0 0,.int .i64 0,.bool false],.bool t] w λe w'=>e=.returned (.tuple #[])∧∃st',Kept W0 w K st (Own3 va vb vc) w' st':=by
 obtain⟨ps,hp,hst⟩:=h.pg
 have hv':∀k,Own3 va vb vc k→W0.heap.size≤k∧k<w.heap.size∧∀a,a<8→¬st.own a k:=λk e=>by
  have h1:W0.heap.size≤k∧k<w.heap.size:=by
   rcases e with e | e | e
   ·exact own_lt oa e
   ·exact own_lt ob e
   ·exact own_lt oc e
  exact⟨h1.1,h1.2,hv k e⟩
 obtain⟨V,nx,hblk⟩:=h.bk.blkK
 obtain⟨A0,c0,hL⟩:=own_form0 hp.row
 obtain⟨n,hn⟩:=exz (ps.length)
 have hn48:=hp.len
 rw[←hn] at hL hn48
 have x9:=hblk.cell 9
 have f9:=hblk.frozen 9
 have lK:=hblk.lt
 simp at x9
 rw[hL] at x9
 have HT:=hdz hT
 have HP:=hdz (aiz h (aiz hp (aiz hst (aiz hv' (aiz hL hn)))))
 obtain⟨Aa,ca,rfl⟩:=own_form0 oa
 obtain⟨Ab,cb,rfl⟩:=own_form0 ob
 obtain⟨Ac,cc,rfl⟩:=own_form0 oc
 obtain⟨m1,hm1⟩:∃m,m=la.length:=⟨_,rfl⟩
 obtain⟨m2,hm2⟩:∃m,m=lb.length:=⟨_,rfl⟩
 obtain⟨m3,hm3⟩:∃m,m=lc.length:=⟨_,rfl⟩
 rw[←hm1] at oa na
 rw[←hm2] at ob nb
 rw[←hm3] at oc nc
 have HO:=hdz (aiz oa (aiz ob (aiz oc (aiz hm1 (aiz hm2 hm3)))))
 rw[←hm1,←hm2,←hm3] at HP ⊢
 obtain⟨g,hg⟩:=exz (w.heap.size)
 have hgK:K≠g:=by omega
 by_cases hful:(48:Int)≤(n:Int)
 ·clear h hp hst hv hv' hblk hL hn oa ob oc hm1 hm2 hm3
  go_enter Tryz.func85,Tryz.ntmps85
  go_wp2
  refine bodyPost_ret (results_none rfl _ _ _) rfl ?_
  obtain⟨h,-⟩:=HP.out
  exact⟨rfl,st,h.fresh ((krz _ w).alloc _),rfl,λa _ k e=>.inl e,(krz _ w).alloc _⟩
 ·clear h hp hst hv hv' hblk hL hn oa ob oc hm1 hm2 hm3 hg hgK
  go_enter Tryz.func85,Tryz.ntmps85
  -- WALK
  go_upto_region 3 with (fail)
  obtain⟨mk,hmk⟩:∃mk:Int,mk=1000*(1+(n:Int)):=⟨_,rfl⟩
  rw[←hmk]
  obtain⟨w1,hw1⟩:=exz (w.alloc (.cells #[.slice Aa m1 ca,.slice none 0 0,.slice none 0 0,.slice Ab m2 cb,.slice none 0 0,.slice none 0 0,.slice Ac m3 cc,.slice none 0 0,.slice none 0 0,.int .i64 mk,.bool false] 129))
  obtain⟨g,hg⟩:=exz (w.heap.size)
  rw[←hw1,←hg]
  have hm0:1000≤mk:=by omega
  have hm1':mk≤100000:=by omega
  have hb1:Blk w1 g 129 #[.slice Aa m1 ca,.slice none 0 0,.slice none 0 0,.slice Ab m2 cb,.slice none 0 0,.slice none 0 0,.slice Ac m3 cc,.slice none 0 0,.slice none 0 0,.int .i64 mk,.bool false]:=by rw[hw1];exact Blk.newAt hg.symm
  have hf1:Fresh w w1:=by rw[hw1];exact (krz _ w).alloc _
  have hgK:g≠K:=by omega
  have HW1:=hdz (aiz hb1 (aiz hf1 hg))
  have HM:=hdz (aiz hm0 (aiz hm1' hmk))
  clear hw1 hmk x9 f9 lK hb1 hf1 hm0 hm1' hg
  have x0:=HW1.out.1.cell 0
  have x2:=HW1.out.1.cell 2
  have f2:=HW1.out.1.frozen 2
  have lg:=HW1.out.1.lt
  simp at x0 x2
  obtain⟨Ax,cx,hva,hrd,hnil⟩:=own_rd (own_keep HO.out.1 HW1.out.2.1 λ_ _=>trivial)
  injection hva with hva1 hva2 hva3
  subst hva1 hva3
  have HR0:=hdz (aiz hrd (aiz hnil HW1.out.2.1.size))
  have hbd0:Hid ((0+m1)*32≤140737488355328):=hdz (by omega)
  clear hrd hnil hva2
  go_wp2_with (at_builtin;refine wpList_app etPair rfl (.tmp 21) (.tmp 23) rfl w.heap.size _ 0 [] rfl (onz _ _ _ _) _ Aa m1 ca _ rfl HR0.out.1 HR0.out.2.1 (pairs_one _) hbd0.out HR0.out.2.2 ?_)
  intro v0 u0 ho0 hk0 hn0
  try simp only[Nat.zero_add,List.nil_append] at ho0
  obtain⟨B0,q0,rfl⟩:=own_form0 ho0
  have hF0:Fresh w1 u0:=hk0.weaken λ_ _ _=>by simp[Value.ownBlock]
  have hbb0:=HW1.out.1.keep hF0 trivial
  have x2':=hbb0.cell 2
  have f2':=hbb0.frozen 2
  have lg':=hbb0.lt
  simp at x2'
  have HB0:=hdz (aiz hbb0 (aiz hF0 ho0))
  clear x0 x2 f2 lg hbb0 hF0 ho0 hk0 hn0
  go_upto_region 4 with (fail)
  try simp only[Nat.zero_add]
  obtain⟨wA0,hwA0⟩:∃W,W=u0.setCell ⟨g,2,none⟩ (.slice B0 m1 q0):=⟨_,rfl⟩
  rw[←hwA0]
  have hbn:Blk wA0 g 129 #[.slice Aa m1 ca,.slice none 0 0,.slice B0 m1 q0,.slice Ab m2 cb,.slice none 0 0,.slice none 0 0,.slice Ac m3 cc,.slice none 0 0,.slice none 0 0,.int .i64 mk,.bool false]:=by rw[hwA0];simpa using HB0.out.1.set 2 (.slice B0 m1 q0)
  have hfn:Fresh w wA0:=by rw[hwA0];exact (HW1.out.2.1.trans HB0.out.2.1).setCell (λe=>absurd (HW1.out.2.2 ▸ e) (Nat.lt_irrefl _)) _
  have hon:wA0.ownsRow w.heap.size 71 2 (.slice B0 m1 q0) m1 (pcells la):=by rw[hwA0];exact own_far HB0.out.2.2 (own_ne_blk HB0.out.2.2 HB0.out.1 (by decide)) _
  have HS0:=hdz (aiz hbn (aiz hfn (aiz hon trivial)))
  clear hbn hfn hon hwA0 x2' f2' lg'
  have x3:=HS0.out.1.cell 3
  have x5:=HS0.out.1.cell 5
  have f5:=HS0.out.1.frozen 5
  have lg:=HS0.out.1.lt
  simp at x3 x5
  obtain⟨Ax,cx,hva,hrd,hnil⟩:=own_rd (own_keep HO.out.2.1 HS0.out.2.1 λ_ _=>trivial)
  injection hva with hva1 hva2 hva3
  subst hva1 hva3
  have HR1:=hdz (aiz hrd (aiz hnil HS0.out.2.1.size))
  have hbd1:Hid ((0+m2)*16≤140737488355328):=hdz (by omega)
  clear hrd hnil hva2
  go_wp2_with (at_builtin;refine wpList_app etWait rfl (.tmp 27) (.tmp 29) rfl w.heap.size _ 0 [] rfl (onz _ _ _ _) _ Ab m2 cb _ rfl HR1.out.1 HR1.out.2.1 (waits_one _) hbd1.out HR1.out.2.2 ?_)
  intro v1 u1 ho1 hk1 hn1
  try simp only[Nat.zero_add,List.nil_append] at ho1
  obtain⟨B1,q1,rfl⟩:=own_form0 ho1
  have hF1:Fresh wA0 u1:=hk1.weaken λ_ _ _=>by simp[Value.ownBlock]
  have hbb1:=HS0.out.1.keep hF1 trivial
  have x5':=hbb1.cell 5
  have f5':=hbb1.frozen 5
  have lg':=hbb1.lt
  simp at x5'
  have HB1:=hdz (aiz hbb1 (aiz hF1 ho1))
  clear x3 x5 f5 lg hbb1 hF1 ho1 hk1 hn1
  go_upto_region 5 with (fail)
  try simp only[Nat.zero_add]
  obtain⟨wA1,hwA1⟩:∃W,W=u1.setCell ⟨g,5,none⟩ (.slice B1 m2 q1):=⟨_,rfl⟩
  rw[←hwA1]
  have hbn:Blk wA1 g 129 #[.slice Aa m1 ca,.slice none 0 0,.slice B0 m1 q0,.slice Ab m2 cb,.slice none 0 0,.slice B1 m2 q1,.slice Ac m3 cc,.slice none 0 0,.slice none 0 0,.int .i64 mk,.bool false]:=by rw[hwA1];simpa using HB1.out.1.set 5 (.slice B1 m2 q1)
  have hfn:Fresh w wA1:=by rw[hwA1];exact (HS0.out.2.1.trans HB1.out.2.1).setCell (λe=>absurd (HW1.out.2.2 ▸ e) (Nat.lt_irrefl _)) _
  have hon:wA1.ownsRow w.heap.size 115 2 (.slice B1 m2 q1) m2 (wcells lb):=by rw[hwA1];exact own_far HB1.out.2.2 (own_ne_blk HB1.out.2.2 HB1.out.1 (by decide)) _
  have hoo0:wA1.ownsRow w.heap.size 71 2 (.slice B0 m1 q0) m1 (pcells la):=by rw[hwA1];exact own_far (own_keep HS0.out.2.2.1 HB1.out.2.1 λ_ _=>trivial) (own_ne_blk (own_keep HS0.out.2.2.1 HB1.out.2.1 λ_ _=>trivial) HB1.out.1 (by decide)) _
  have HS1:=hdz (aiz hbn (aiz hfn (aiz hoo0 (aiz hon trivial))))
  clear hbn hfn hon hoo0 hwA1 x5' f5' lg'
  have x6:=HS1.out.1.cell 6
  have x8:=HS1.out.1.cell 8
  have f8:=HS1.out.1.frozen 8
  have lg:=HS1.out.1.lt
  simp at x6 x8
  obtain⟨Ax,cx,hva,hrd,hnil⟩:=own_rd (own_keep HO.out.2.2.1 HS1.out.2.1 λ_ _=>trivial)
  injection hva with hva1 hva2 hva3
  subst hva1 hva3
  have HR2:=hdz (aiz hrd (aiz hnil HS1.out.2.1.size))
  have hbd2:Hid ((0+m3)*16≤140737488355328):=hdz (by omega)
  clear hrd hnil hva2
  go_wp2_with (at_builtin;refine wpList_app etStr rfl (.tmp 33) (.tmp 35) rfl w.heap.size _ 0 [] rfl (onz _ _ _ _) _ Ac m3 cc _ rfl HR2.out.1 HR2.out.2.1 (names_one _) hbd2.out HR2.out.2.2 ?_)
  intro v2 u2 ho2 hk2 hn2
  try simp only[Nat.zero_add,List.nil_append] at ho2
  obtain⟨B2,q2,rfl⟩:=own_form0 ho2
  have hF2:Fresh wA1 u2:=hk2.weaken λ_ _ _=>by simp[Value.ownBlock]
  have hbb2:=HS1.out.1.keep hF2 trivial
  have x8':=hbb2.cell 8
  have f8':=hbb2.frozen 8
  have lg':=hbb2.lt
  simp at x8'
  have HB2:=hdz (aiz hbb2 (aiz hF2 ho2))
  clear x6 x8 f8 lg hbb2 hF2 ho2 hk2 hn2
  go_upto_region 6 with (fail)
  try simp only[Nat.zero_add]
  obtain⟨wA2,hwA2⟩:∃W,W=u2.setCell ⟨g,8,none⟩ (.slice B2 m3 q2):=⟨_,rfl⟩
  rw[←hwA2]
  have hbn:Blk wA2 g 129 #[.slice Aa m1 ca,.slice none 0 0,.slice B0 m1 q0,.slice Ab m2 cb,.slice none 0 0,.slice B1 m2 q1,.slice Ac m3 cc,.slice none 0 0,.slice B2 m3 q2,.int .i64 mk,.bool false]:=by rw[hwA2];simpa using HB2.out.1.set 8 (.slice B2 m3 q2)
  have hfn:Fresh w wA2:=by rw[hwA2];exact (HS1.out.2.1.trans HB2.out.2.1).setCell (λe=>absurd (HW1.out.2.2 ▸ e) (Nat.lt_irrefl _)) _
  have hon:wA2.ownsRow w.heap.size 9 1 (.slice B2 m3 q2) m3 (lc.map str):=by rw[hwA2];exact own_far HB2.out.2.2 (own_ne_blk HB2.out.2.2 HB2.out.1 (by decide)) _
  have hoo0:wA2.ownsRow w.heap.size 71 2 (.slice B0 m1 q0) m1 (pcells la):=by rw[hwA2];exact own_far (own_keep HS1.out.2.2.1 HB2.out.2.1 λ_ _=>trivial) (own_ne_blk (own_keep HS1.out.2.2.1 HB2.out.2.1 λ_ _=>trivial) HB2.out.1 (by decide)) _
  have hoo1:wA2.ownsRow w.heap.size 115 2 (.slice B1 m2 q1) m2 (wcells lb):=by rw[hwA2];exact own_far (own_keep HS1.out.2.2.2.1 HB2.out.2.1 λ_ _=>trivial) (own_ne_blk (own_keep HS1.out.2.2.2.1 HB2.out.2.1 λ_ _=>trivial) HB2.out.1 (by decide)) _
  have HS2:=hdz (aiz hbn (aiz hfn (aiz hoo0 (aiz hoo1 (aiz hon trivial)))))
  clear hbn hfn hon hoo0 hoo1 hwA2 x8' f8' lg'
  obtain⟨q,hq⟩:=exz (page0 (.slice Aa m1 ca) (.slice Ab m2 cb) (.slice Ac m3 cc) (.slice B0 m1 q0) (.slice B1 m2 q1) (.slice B2 m3 q2) la lb lc mk)
  have HQ:Hid (Blk wA2 g 129 q.cells.toArray∧q.ok wA2 W0.heap.size∧(∀k,q.blk k→Own3 (.slice Aa m1 ca) (.slice Ab m2 cb) (.slice Ac m3 cc) k∨w.heap.size≤k)∧Fresh w wA2∧q.st=0∧g≠K):=by
   obtain⟨oa,ob,oc,h1,h2,h3⟩:=HO.out
   obtain⟨hb,hf,ka,kb,kc,-⟩:=HS2.out
   subst h1 h2 h3
   have hok:=page0_ok (mk:=mk) (own_keep oa hf λ_ _=>trivial) (own_keep ob hf λ_ _=>trivial) (own_keep oc hf λ_ _=>trivial) na nb nc HM.out.1 HM.out.2.1 HP.out.1.fr.size ka kb kc
   rw[←hq] at hok
   exact⟨by rw[hq];exact hb,hok.1,hok.2,hf,by rw[hq];rfl,hgK⟩
  cases t with
  | false=>
   have HQ0:Hid (Blk wA2 g 129 q.cells.toArray∧q.ok wA2 W0.heap.size∧(∀k,q.blk k→Own3 (.slice Aa m1 ca) (.slice Ab m2 cb) (.slice Ac m3 cc) k∨w.heap.size≤k)∧Keep (λk=>¬Own3 (.slice Aa m1 ca) (.slice Ab m2 cb) (.slice Ac m3 cc) k) w wA2∧q.st≠1∧True):=hdz ⟨HQ.out.1,HQ.out.2.1,HQ.out.2.2.1,HQ.out.2.2.2.1.weaken λ_ _ _=>trivial,by rw[HQ.out.2.2.2.2.1];decide,trivial⟩
   obtain⟨A1,n1,c1,A2,n2,c2,A3,n3,c3,A4,n4,c4,A5,n5,c5,A6,n6,c6,A7,n7,c7,A8,n8,c8,A9,n9,c9,hcs⟩:=HQ0.out.2.1.slices
   obtain⟨mq,hmq⟩:∃m,m=q.mrk:=⟨_,rfl⟩
   obtain⟨dq,hdq⟩:∃m,m=q.done:=⟨_,rfl⟩
   rw[←hmq,←hdq] at hcs
   have hbq:Blk wA2 g 129 (pgA A1 A2 A3 A4 A5 A6 A7 A8 A9 n1 c1 n2 c2 n3 c3 n4 c4 n5 c5 n6 c6 n7 c7 n8 c8 n9 c9 mq dq):=by have:=HQ0.out.1;rw[hcs] at this;exact this
   have k0:=hbq.cell 0
   have k1:=hbq.cell 1
   have k2:=hbq.cell 2
   have k3:=hbq.cell 3
   have k4:=hbq.cell 4
   have k5:=hbq.cell 5
   have k6:=hbq.cell 6
   have k7:=hbq.cell 7
   have k8:=hbq.cell 8
   have k9:=hbq.cell 9
   have k10:=hbq.cell 10
   simp at k0 k1 k2 k3 k4 k5 k6 k7 k8 k9 k10
   have lg:=hbq.lt
   obtain⟨h,hp,hst,hv,hL,hn⟩:=HP.out
   have hkq:=HQ0.out.2.2.2.1
   have y9:=h.cellL.1
   have hK6:=h.bk.inK
   have hKv:¬Own3 (.slice Aa m1 ca) (.slice Ab m2 cb) (.slice Ac m3 cc) K:=λe=>(hv _ e).2.2 6 (by omega) hK6
   have lK:=h.cellL.2.1
   have fK:=h.cellL.2.2 9
   rw[hL] at y9
   replace y9:=hkq.cellAt y9 hKv
   replace fK:=(hkq.frozen (p:=⟨K,9,none⟩) lK hKv).trans fK
   replace lK:=ltz lK hkq.size
   have hrow:=own_keep hp.row hkq λk e e2=>(hv k e2).2.2 7 (by omega) (hp.inL k e)
   rw[hL,←hn] at hrow
   have hfx:Fresh wA2 (wA2.drew.alloc (.cells (pgA A1 A2 A3 A4 A5 A6 A7 A8 A9 n1 c1 n2 c2 n3 c3 n4 c4 n5 c5 n6 c6 n7 c7 n8 c8 n9 c9 mq dq) 129)):=((krz _ wA2).drew).alloc _
   have hLK:(Value.slice A0 n c0).ownBlock≠some K:=λe=>h.neK (a:=7) (by omega) (by omega) K (hp.inL K (hL ▸ e)) rfl
   have HX:=hdz (aiz (own_keep hrow hfx λ_ _=>trivial) (aiz (lez (lez h.fr.size hkq.size) hfx.size) (aiz (hfx.cellAt y9 trivial) (aiz ((hfx.frozen (p:=⟨K,9,none⟩) lK trivial).trans fK) (aiz (ltz lK hfx.size) (aiz hLK (aiz hfx hcs)))))))
   have hbd9:Hid ((n+1)*232≤140737488355328):=hdz (by omega)
   clear h hp hst hv hL hn hkq hK6 hKv hrow hfx hLK hcs hbq hmq hdq
   go_upto_region 9 with (fail)
   go_region_law (first
    | (refine step_app etPPage rfl (.tmp 45) (.tmp 47) rfl W0.heap.size _ n _ rfl HX.out.1 _ (some ⟨wA2.heap.size,0,none⟩) 1 1 _ rfl (Rd.one_of (Blk.new _ _ _) rfl) (λh=>Nat.noConfusion h) (pgA_one _ _ _ _ _ _ _ _ _ _ _ _ _ _ _ _ _ _ _ _ _ _ _ _ _ _ _ _ _) hbd9.out HX.out.2.1 ?_
       intro v3 w3 ho3 hk3 hn3
       obtain⟨A0',c0',rfl⟩:=own_form0 ho3
       have t0:=hk3.cellAt HX.out.2.2.1 HX.out.2.2.2.2.2.1
       have tg:w3.frozen? ⟨K,9,none⟩=false:=(hk3.frozen (p:=⟨K,9,none⟩) HX.out.2.2.2.2.1 HX.out.2.2.2.2.2.1).trans HX.out.2.2.2.1
       have tK:K<w3.heap.size:=ltz HX.out.2.2.2.2.1 hk3.size
       have H3:=hdz (aiz ho3 (aiz hk3 hn3))
       clear ho3 hk3 hn3))
   all_goals
    go_wp2
    go_end0
    obtain⟨h,hp,hst,hv,hL,hn⟩:=HP.out
    obtain⟨ho3,hk3,hn3⟩:=H3.out
    obtain⟨hbq,hok,hblk,hkq,hqst,-⟩:=HQ0.out
    have hcs:=HX.out.2.2.2.2.2.2.2
    rw[←hL] at hk3 hn3
    have ho4:w3.ownsRow W0.heap.size 129 11 (.slice A0' (n+1) c0') (ps.length+1) (kcells ps++q.cells):=by rw[hcs,←hn];exact ho3
    exact⟨rfl,keep_close h hp hst (by omega) hv hkq hok hqst hblk HX.out.2.2.2.2.2.2.1 ho4 hk3 hn3⟩
  | true=>
   obtain⟨q1,hq1⟩:=exz (q.over)
   have hqd:q.cells.toArray[10]?=some (.bool false):=by have:=HQ.out.2.2.2.2.1;simp[PgD.cells,PgD.done,this]
   have HWr:=hdz (pwrite_any HT.out (HP.out.1.fr.trans HQ.out.2.2.2.1) HQ.out.1 (o:=0) (va:=q.a1) (vb:=q.b1) (vc:=q.c1) (mk:=q.mrk) (by rfl) (by rfl) (by rfl) (by rfl) hqd (by rw[HW1.out.2.2];exact HP.out.1.fr.size) HQ.out.2.1.oa HQ.out.2.1.ob HQ.out.2.1.oc (by have:=HQ.out.2.1.na;omega) (by have:=HQ.out.2.1.nb;omega) (by have:=HQ.out.2.1.nc;omega) HQ.out.2.1.m0 HQ.out.2.1.m1)
   go_upto_region 7 with (fail)
   go_wp2_with fail
   refine HWr.out.mono ?_
   rintro e w6 ⟨rfl,hb6,oa6,ob6,oc6,hk6⟩
   have HQ1:Hid (Blk w6 g 129 q1.cells.toArray∧q1.ok w6 W0.heap.size∧(∀k,q1.blk k→Own3 (.slice Aa m1 ca) (.slice Ab m2 cb) (.slice Ac m3 cc) k∨w.heap.size≤k)∧Keep (λk=>¬Own3 (.slice Aa m1 ca) (.slice Ab m2 cb) (.slice Ac m3 cc) k) w w6∧q1.st=1∧True):=by
    refine⟨?_,?_,λk e=>?_,?_,by rw[hq1];rfl,trivial⟩
    ·rw[hq1,PgD.over_cells]
     simpa using hb6
    ·rw[hq1]
     exact PgD.over_ok HQ.out.2.1 oa6 ob6 oc6
    ·rw[hq1] at e
     exact HQ.out.2.2.1 k (.inl (PgD.over_blk e))
    ·refine HQ.out.2.2.2.1.comp hk6 (λ_ _ _=>trivial) (λk hk hz=>⟨?_,?_,?_,?_⟩)
     ·have:=HW1.out.2.2;omega
     ·exact λe=>hz (.inl (by have e2:(page0 _ _ _ _ _ _ la lb lc mk).a1.ownBlock=some k:=hq ▸ e;exact e2))
     ·exact λe=>hz (.inr (.inl (by have e2:(page0 _ _ _ _ _ _ la lb lc mk).b1.ownBlock=some k:=hq ▸ e;exact e2)))
     ·exact λe=>hz (.inr (.inr (by have e2:(page0 _ _ _ _ _ _ la lb lc mk).c1.ownBlock=some k:=hq ▸ e;exact e2)))
   have HGr:=hdz (pgrow_any HT.out (HP.out.1.fr.comp HQ1.out.2.2.2.1 (λ_ _ h=>h) (λj hj _ e=>by have:=(HP.out.2.2.2.1 j e).1;omega)) HQ1.out.1 (o:=0) (va:=q1.a1) (vb:=q1.b1) (vc:=q1.c1) (mk:=q1.mrk) (by simp[PgD.cells]) (by rfl) (by rfl) (by rfl) (by rfl) (by rw[HW1.out.2.2];exact HP.out.1.fr.size) HQ1.out.2.1.oa HQ1.out.2.1.ob HQ1.out.2.1.oc (by have:=HQ1.out.2.1.na;omega) (by have:=HQ1.out.2.1.nb;omega) (by have:=HQ1.out.2.1.nc;omega) HQ1.out.2.1.m0 HQ1.out.2.1.m1)
   clear hb6 oa6 ob6 oc6 hk6 HWr hqd
   go_upto_region 8 with (fail)
   go_wp2_with fail
   refine HGr.out.mono ?_
   rintro e w7 ⟨rfl,w6',Ga,Gb,Gc,hs6,hk6,hgg⟩
   obtain⟨q2,hq2⟩:=exz (q1.long Ga Gb Gc)
   have HQ2:Hid (Blk w7 g 129 q2.cells.toArray∧q2.ok w7 W0.heap.size∧(∀k,q2.blk k→Own3 (.slice Aa m1 ca) (.slice Ab m2 cb) (.slice Ac m3 cc) k∨w.heap.size≤k)∧Keep (λk=>¬Own3 (.slice Aa m1 ca) (.slice Ab m2 cb) (.slice Ac m3 cc) k) w w7∧q2.st≠1∧True):=by
    obtain⟨hb1,hok1,hbk1,hkp1,hst1,-⟩:=HQ1.out
    obtain⟨hok2,hnew⟩:=PgD.grown hok1 hst1 hs6 hgg
    have hsz:=hkp1.size
    refine⟨?_,by rw[hq2];exact hok2,λk e=>?_,?_,by rw[hq2];simp[PgD.long],trivial⟩
    ·have:=hgg.bk
     rw[hq2,PgD.long_cells q1 hst1]
     simpa[set3] using this
    ·rw[hq2] at e
     rcases hnew k e with e2 | e2
     ·exact hbk1 k e2
     ·exact .inr (by omega)
    ·have hk67:=hk6.comp hgg.kp (Y:=λk=>k≠g∧q1.a1.ownBlock≠some k∧q1.b1.ownBlock≠some k∧q1.c1.ownBlock≠some k) (λ_ _ h=>h.1) (λ_ _ h=>h)
     refine hkp1.comp hk67 (λ_ _ h=>h) (λk hk hz=>⟨?_,?_,?_,?_⟩)
     ·have:=HW1.out.2.2;omega
     ·exact λe=>hz (.inl (by rw[hq1,hq] at e;exact e))
     ·exact λe=>hz (.inr (.inl (by rw[hq1,hq] at e;exact e)))
     ·exact λe=>hz (.inr (.inr (by rw[hq1,hq] at e;exact e)))
   clear hs6 hk6 hgg HGr
   obtain⟨A1,n1,c1,A2,n2,c2,A3,n3,c3,A4,n4,c4,A5,n5,c5,A6,n6,c6,A7,n7,c7,A8,n8,c8,A9,n9,c9,hcs⟩:=HQ2.out.2.1.slices
   obtain⟨mq,hmq⟩:∃m,m=q2.mrk:=⟨_,rfl⟩
   obtain⟨dq,hdq⟩:∃m,m=q2.done:=⟨_,rfl⟩
   rw[←hmq,←hdq] at hcs
   have hbq:Blk w7 g 129 (pgA A1 A2 A3 A4 A5 A6 A7 A8 A9 n1 c1 n2 c2 n3 c3 n4 c4 n5 c5 n6 c6 n7 c7 n8 c8 n9 c9 mq dq):=by have:=HQ2.out.1;rw[hcs] at this;exact this
   have k0:=hbq.cell 0
   have k1:=hbq.cell 1
   have k2:=hbq.cell 2
   have k3:=hbq.cell 3
   have k4:=hbq.cell 4
   have k5:=hbq.cell 5
   have k6:=hbq.cell 6
   have k7:=hbq.cell 7
   have k8:=hbq.cell 8
   have k9:=hbq.cell 9
   have k10:=hbq.cell 10
   simp at k0 k1 k2 k3 k4 k5 k6 k7 k8 k9 k10
   have lg:=hbq.lt
   obtain⟨h,hp,hst,hv,hL,hn⟩:=HP.out
   have hkq:=HQ2.out.2.2.2.1
   have y9:=h.cellL.1
   have hK6:=h.bk.inK
   have hKv:¬Own3 (.slice Aa m1 ca) (.slice Ab m2 cb) (.slice Ac m3 cc) K:=λe=>(hv _ e).2.2 6 (by omega) hK6
   have lK:=h.cellL.2.1
   have fK:=h.cellL.2.2 9
   rw[hL] at y9
   replace y9:=hkq.cellAt y9 hKv
   replace fK:=(hkq.frozen (p:=⟨K,9,none⟩) lK hKv).trans fK
   replace lK:=ltz lK hkq.size
   have hrow:=own_keep hp.row hkq λk e e2=>(hv k e2).2.2 7 (by omega) (hp.inL k e)
   rw[hL,←hn] at hrow
   have hfx:Fresh w7 (w7.drew.alloc (.cells (pgA A1 A2 A3 A4 A5 A6 A7 A8 A9 n1 c1 n2 c2 n3 c3 n4 c4 n5 c5 n6 c6 n7 c7 n8 c8 n9 c9 mq dq) 129)):=((krz _ w7).drew).alloc _
   have hLK:(Value.slice A0 n c0).ownBlock≠some K:=λe=>h.neK (a:=7) (by omega) (by omega) K (hp.inL K (hL ▸ e)) rfl
   have HX:=hdz (aiz (own_keep hrow hfx λ_ _=>trivial) (aiz (lez (lez h.fr.size hkq.size) hfx.size) (aiz (hfx.cellAt y9 trivial) (aiz ((hfx.frozen (p:=⟨K,9,none⟩) lK trivial).trans fK) (aiz (ltz lK hfx.size) (aiz hLK (aiz hfx hcs)))))))
   have hbd9:Hid ((n+1)*232≤140737488355328):=hdz (by omega)
   clear h hp hst hv hL hn hkq hK6 hKv hrow hfx hLK hcs hbq hmq hdq
   go_upto_region 9 with (fail)
   go_region_law (first
    | (refine step_app etPPage rfl (.tmp 45) (.tmp 47) rfl W0.heap.size _ n _ rfl HX.out.1 _ (some ⟨w7.heap.size,0,none⟩) 1 1 _ rfl (Rd.one_of (Blk.new _ _ _) rfl) (λh=>Nat.noConfusion h) (pgA_one _ _ _ _ _ _ _ _ _ _ _ _ _ _ _ _ _ _ _ _ _ _ _ _ _ _ _ _ _) hbd9.out HX.out.2.1 ?_
       intro v3 w3 ho3 hk3 hn3
       obtain⟨A0',c0',rfl⟩:=own_form0 ho3
       have t0:=hk3.cellAt HX.out.2.2.1 HX.out.2.2.2.2.2.1
       have tg:w3.frozen? ⟨K,9,none⟩=false:=(hk3.frozen (p:=⟨K,9,none⟩) HX.out.2.2.2.2.1 HX.out.2.2.2.2.2.1).trans HX.out.2.2.2.1
       have tK:K<w3.heap.size:=ltz HX.out.2.2.2.2.1 hk3.size
       have H3:=hdz (aiz ho3 (aiz hk3 hn3))
       clear ho3 hk3 hn3))
   all_goals
    go_wp2
    go_end0
    obtain⟨h,hp,hst,hv,hL,hn⟩:=HP.out
    obtain⟨ho3,hk3,hn3⟩:=H3.out
    obtain⟨hbq,hok,hblk,hkq,hqst,-⟩:=HQ2.out
    have hcs:=HX.out.2.2.2.2.2.2.2
    rw[←hL] at hk3 hn3
    have ho4:w3.ownsRow W0.heap.size 129 11 (.slice A0' (n+1) c0') (ps.length+1) (kcells ps++q2.cells):=by rw[hcs,←hn];exact ho3
    exact⟨rfl,keep_close h hp hst (by omega) hv hkq hok hqst hblk HX.out.2.2.2.2.2.2.1 ho4 hk3 hn3⟩
theorem Kept.next {W0 w w':World}{K:Nat}{st st':PlSt}{vs:Nat→Prop}(h:PlayR W0 w K st)(hk:Kept W0 w K st vs w' st'){b e s n:Nat}{v:Value}{xs:List Value}(ho:w.ownsRow b e s v n xs)(hv:∀k,v.ownBlock=some k→¬vs k∧∀a,a<8→¬st.own a k) :
 w'.ownsRow b e s v n xs∧∀k,v.ownBlock=some k→∀a,a<8→¬st'.own a k:=by
 refine⟨own_keep ho hk.kp λk e=>⟨λe2=>(hv k e).2 6 (by omega) (e2 ▸ h.bk.inK),(hv k e).2 7 (by omega),(hv k e).1⟩,λk e a ha e2=>?_⟩
 rcases hk.own a ha k e2 with h1 | h1 | h1
 ·exact (hv k e).2 a ha h1
 ·exact (hv k e).1 h1
 ·have:=(own_lt ho e).2;omega
theorem listsP_any {W0 w:World} (hT:TabsN W0) {K:Nat} {st:PlSt} (h:PlayR W0 w K st) (hn3:st.n=3) {i:Nat} (hi:i<3) (n c ci cr co:Int) (k v dd key:Txt) (Ab:Option Addr) (nb cb:Nat) (hkey:key.length≤1099511627000) :
 Calls Tryz.prog 57 #[.pointer (some ⟨K,0,none⟩),.agg #[.int .i64 (i:Int),.int .i64 3,.int .i64 n,.int .i64 c,.int .i64 ci,.int .i64 cr,.int .i64 co,str k,str v,str dd,str key,.slice Ab nb cb]] w λe w'=>e=.returned (.bool true)∧∃st',PlayR W0 w' K st'∧st'.n=3:=by
 obtain⟨m,hm⟩:=exz (st.m i)
 obtain⟨d,hd⟩:=exz (st.d i)
 obtain⟨s,hs⟩:=exz (st.s i)
 have hi3:i<st.n:=by omega
 have hq:=h.pair hi3
 rw[←hm,←hd,←hs] at hq
 have hinv:=hq.ma.inv
 obtain⟨y0,y3⟩:=h.cellP hi3
 rw[←hm] at y0
 rw[←hd] at y3
 have lK:=h.cellL.2.1
 obtain⟨X,hX⟩:=exz (s.pairs)
 have hb:X.length≤900:=by rw[hX];have:=hinv.pr.len;omega
 have H1:=hdz (λwx (hf:Fresh w wx)=>show Calls Tryz.prog 30 #[.pointer (some ⟨m,0,none⟩)] wx λe w'=>(∃v,e=.returned v∧w'.ownsRow wx.heap.size 71 2 v X.length (pcells X))∧Fresh wx w' from by have HQ:=hq.fresh hf;have hc:=mat_pairs HQ.ma;first | exact hX ▸ hc | (simpa[hX] using hc))
 have H2:=hdz (λwx (hf:Fresh w wx)=>show Calls Tryz.prog 31 #[.pointer (some ⟨m,0,none⟩)] wx λe w'=>∃v,e=.returned v∧Fresh wx w' from by have HQ:=hq.fresh hf;exact (mat_locks HQ.ma).mono λ_ _ ⟨⟨v,he,_⟩,hf⟩=>⟨v,he,hf⟩)
 have HD:=hdz (λwx (hf:Fresh w wx)=>show Calls Tryz.prog 66 #[.pointer (some ⟨d,0,none⟩)] wx λe w'=>(∃v,e=.returned v∧w'.ownsRow wx.heap.size 71 2 v X.length (pcells X))∧Fresh wx w' from by have HQ:=hq.fresh hf;have hc:=dpairs_any HQ.da (by have:=HQ.ma.inv.pr.len;omega);first | exact hX ▸ hc | (simpa[hX] using hc))
 have HB:=hdz (aiz h (aiz hn3 hT))
 obtain⟨w0,g,hw0,hg,hf0,lg,o0,o1,-,-,-,-,-,-,-,-,o10,-⟩:=op_box w (i:Int) 3 n c ci cr co k v dd key (.slice Ab nb cb)
 replace y0:=hf0.cellAt y0 trivial
 replace y3:=hf0.cellAt y3 trivial
 have lK0:=ltz lK hf0.size
 have HW:=hdz (aiz hw0 (aiz hg hf0))
 have hi0:(i:Int)<3:=by omega
 clear h hn3 hT hm hd hs hi3 hq hinv hX hw0 hg hf0 lK
 go_enter Tryz.func57,Tryz.ntmps57
 go_upto_region 1 with (fail)
 rw[←HW.out.1,←HW.out.2.1]
 go_quiet (fail)
 go_upto_region 2 with (fail)
 go_quiet (fail)
 go_upto_region 5 with (fail)
 generalize hW:World.drewN w0 _=W
 have hfW:Fresh w W:=by rw[←hW];exact HW.out.2.2.drewN _
 have HF0:=hdz hfW
 clear hW hfW y0 y3 o0 o1 o10 lg lK0
 go_wp2_with fail
 refine Calls.mono (H1.out W HF0.out) ?_
 rintro e wa ⟨⟨v1,rfl,hv1⟩,hfwa⟩
 obtain⟨A1,q1,rfl,hr1,-⟩:=own_rd hv1
 have HF1:=hdz (HF0.out.trans hfwa)
 have HV1:=hdz (aiz hv1 (aiz hr1 hfwa))
 clear hv1 hr1 hfwa
 go_wp2_with fail
 refine Calls.mono (H2.out wa HF1.out) ?_
 rintro e wb ⟨v0,rfl,hfwb⟩
 have HF2:=hdz (HF1.out.trans hfwb)
 have HFb:=hdz hfwb
 clear hfwb
 go_wp2_with fail
 refine Calls.mono (H1.out wb HF2.out) ?_
 rintro e wc ⟨⟨v2,rfl,hv2⟩,hfwc⟩
 obtain⟨A2,q2,rfl,hr2,-⟩:=own_rd hv2
 have HF3:=hdz (HF2.out.trans hfwc)
 have HV2:=hdz (aiz hv2 (aiz hr2 hfwc))
 clear hv2 hr2 hfwc
 go_wp2_with fail
 refine Calls.mono (HD.out wc HF3.out) ?_
 rintro e wd ⟨⟨v3,rfl,hv3⟩,hfwd⟩
 obtain⟨A3,q3,rfl,hr3,-⟩:=own_rd hv3
 have HF4:=hdz (HF3.out.trans hfwd)
 have HS1:=hdz (samepairs_eq _ _ A1 A3 _ q1 q3 X wd (HV1.out.2.1.keep (((HFb.out.trans HV2.out.2.2).trans hfwd).weaken (λ_ _ _=>trivial))) hr3 (by omega))
 have HS2:=hdz (λwx (hx:Fresh wd wx)=>samepairs_eq _ _ A2 A3 _ q2 q3 X wx (HV2.out.2.1.keep ((hfwd.trans hx).weaken (λ_ _ _=>trivial))) (hr3.keep (hx.weaken (λ_ _ _=>trivial))) (by omega))
 have HFd:=hdz hfwd
 clear hv3 hr3 hfwd
 go_wp2_with fail
 refine Calls.mono HS1.out ?_
 rintro e we ⟨rfl,hfe⟩
 have HFe:=hdz hfe
 clear hfe HS1
 go_wp2_with fail
 refine Calls.mono (HS2.out we HFe.out) ?_
 rintro e wf ⟨rfl,hff⟩
 have HFf:=hdz ((HFd.out.trans HFe.out).trans hff)
 clear hff HS2 HFe
 have HK1:=hdz (keep_any HB.out.2.2 (HB.out.1.fresh (HF3.out.trans HFf.out)) (va:=.slice A1 X.length q1) (vb:=.slice none 0 0) (vc:=.slice none 0 0) (la:=X) (lb:=[]) (lc:=[]) (own_base (own_keep HV1.out.1 ((HFb.out.trans HV2.out.2.2).trans HFf.out) λ_ _=>trivial) (lez HB.out.1.fr.size HF0.out.size)) (onz _ _ _ _) (onz _ _ _ _) hb (by simp) (by simp) (λk e a ha e2=>by
  rcases e with e | e | e
  ·exact HB.out.1.newer (lez HF0.out.size (own_lt HV1.out.1 e).1) a ha e2
  ·simp[Value.ownBlock] at e
  ·simp[Value.ownBlock] at e
  ) false)
 go_wp2_with fail
 refine Calls.mono HK1.out ?_
 rintro e wg ⟨rfl,st1,hk1⟩
 have hnx:=Kept.next (HB.out.1.fresh (HF3.out.trans HFf.out)) hk1 (own_base (own_keep HV2.out.1 HFf.out λ_ _=>trivial) (lez HB.out.1.fr.size HF2.out.size)) (λk e=>⟨λe2=>by
  rcases e2 with e2 | e2 | e2
  ·have h1:=(own_lt HV1.out.1 e2).2;have h2:=(own_lt HV2.out.1 e).1;have h3:=HFb.out.size;omega
  ·simp[Value.ownBlock] at e2
  ·simp[Value.ownBlock] at e2
  ,λa ha e2=>HB.out.1.newer (lez HF2.out.size (own_lt HV2.out.1 e).1) a ha e2⟩)
 have HK2:=hdz (keep_any HB.out.2.2 hk1.pl (va:=.slice A2 X.length q2) (vb:=.slice none 0 0) (vc:=.slice none 0 0) (la:=X) (lb:=[]) (lc:=[]) hnx.1 (onz _ _ _ _) (onz _ _ _ _) hb (by simp) (by simp) (λk e a ha e2=>by
  rcases e with e | e | e
  ·exact hnx.2 k e a ha e2
  ·simp[Value.ownBlock] at e
  ·simp[Value.ownBlock] at e
  ) true)
 have HN1:=hdz hk1.n
 clear hk1 hnx HK1
 go_wp2_with fail
 refine Calls.mono HK2.out ?_
 rintro e wh ⟨rfl,st2,hk2⟩
 have HN2:=hdz (aiz hk2.pl hk2.n)
 clear hk2 HK2
 go_wp2_with fail
 go_ret
 exact⟨by first | rfl | trivial,st2,HN2.out.1,by rw[HN2.out.2,HN1.out];exact HB.out.2.1⟩
theorem listsW_any {W0 w:World} (hT:TabsN W0) {K:Nat} {st:PlSt} (h:PlayR W0 w K st) (hn3:st.n=3) {i:Nat} (hi:i<3) (n c ci cr co:Int) (k v dd key:Txt) (Ab:Option Addr) (nb cb:Nat) (hkey:key.length≤1099511627000) :
 Calls Tryz.prog 57 #[.pointer (some ⟨K,0,none⟩),.agg #[.int .i64 (i:Int),.int .i64 5,.int .i64 n,.int .i64 c,.int .i64 ci,.int .i64 cr,.int .i64 co,str k,str v,str dd,str key,.slice Ab nb cb]] w λe w'=>e=.returned (.bool true)∧∃st',PlayR W0 w' K st'∧st'.n=3:=by
 obtain⟨m,hm⟩:=exz (st.m i)
 obtain⟨d,hd⟩:=exz (st.d i)
 obtain⟨s,hs⟩:=exz (st.s i)
 have hi3:i<st.n:=by omega
 have hq:=h.pair hi3
 rw[←hm,←hd,←hs] at hq
 have hinv:=hq.ma.inv
 obtain⟨y0,y3⟩:=h.cellP hi3
 rw[←hm] at y0
 rw[←hd] at y3
 have lK:=h.cellL.2.1
 obtain⟨X,hX⟩:=exz (waitD key s)
 have hb:X.length≤900:=by rw[hX];have:=wait_len (k:=key) (s:=s) hinv.lk;omega
 have H1:=hdz (λwx (hf:Fresh w wx)=>show Calls Tryz.prog 37 #[.pointer (some ⟨m,0,none⟩),str key] wx λe w'=>(∃v,e=.returned v∧w'.ownsRow wx.heap.size 115 2 v X.length (wcells X))∧Fresh wx w' from by have HQ:=hq.fresh hf;have hc:=mat_waiting HQ.ma key (by omega);first | exact hX ▸ hc | (simpa[hX] using hc))
 have H2:=hdz (λwx (hf:Fresh w wx)=>show Calls Tryz.prog 37 #[.pointer (some ⟨m,0,none⟩),str (key++[120])] wx λe w'=>∃v,e=.returned v∧Fresh wx w' from by have HQ:=hq.fresh hf;exact (mat_waiting HQ.ma (key++[120]) (by simp;omega)).mono λ_ _ ⟨⟨v,he,_⟩,hf⟩=>⟨v,he,hf⟩)
 have HD:=hdz (λwx (hf:Fresh w wx)=>show Calls Tryz.prog 86 #[.pointer (some ⟨d,0,none⟩),str key] wx λe w'=>(∃v,e=.returned v∧w'.ownsRow wx.heap.size 115 2 v X.length (wcells X))∧Fresh wx w' from by have HQ:=hq.fresh hf;have hc:=dwaiting_any HQ.da HQ.ma.inv.lk HQ.ma.inv.s16 key;first | exact hX ▸ hc | (simpa[hX] using hc))
 have HB:=hdz (aiz h (aiz hn3 hT))
 obtain⟨w0,g,hw0,hg,hf0,lg,o0,o1,-,-,-,-,-,-,-,-,o10,-⟩:=op_box w (i:Int) 5 n c ci cr co k v dd key (.slice Ab nb cb)
 replace y0:=hf0.cellAt y0 trivial
 replace y3:=hf0.cellAt y3 trivial
 have lK0:=ltz lK hf0.size
 have HW:=hdz (aiz hw0 (aiz hg hf0))
 have hi0:(i:Int)<3:=by omega
 clear h hn3 hT hm hd hs hi3 hq hinv hX hw0 hg hf0 lK
 go_enter Tryz.func57,Tryz.ntmps57
 go_upto_region 1 with (fail)
 rw[←HW.out.1,←HW.out.2.1]
 go_quiet (fail)
 go_upto_region 2 with (fail)
 go_quiet (fail)
 go_upto_region 14 with (fail)
 generalize hW:World.drewN w0 _=W
 have hfW:Fresh w W:=by rw[←hW];exact HW.out.2.2.drewN _
 have HF0:=hdz hfW
 have p10:W.cell? ⟨g,10,none⟩=some (str key):=by rw[←hW];exact ((krz (λ_=>True) w0).drewN _).cellAt o10 trivial
 clear hW hfW y0 y3 o0 o1 o10 lg lK0
 go_wp2_with fail
 refine Calls.mono (H1.out W HF0.out) ?_
 rintro e wa ⟨⟨v1,rfl,hv1⟩,hfwa⟩
 obtain⟨A1,q1,rfl,hr1,-⟩:=own_rd hv1
 have p10wa:=hfwa.cellAt p10 trivial
 clear p10
 have HF1:=hdz (HF0.out.trans hfwa)
 have HV1:=hdz (aiz hv1 (aiz hr1 hfwa))
 clear hv1 hr1 hfwa
 have hstr:(Value.string (⟨key.toArray⟩++⟨#[120]⟩):Value)=str (key++[120]):=by
  have e:((⟨key.toArray⟩:ByteArray)++⟨#[120]⟩)=⟨(key++[120]).toArray⟩:=by
   apply ByteArray.ext
   rw[ByteArray.data_append]
   simp
  simpa[str] using e
 go_wp2_with fail
 first | rw[hstr] | skip
 refine Calls.mono (H2.out wa HF1.out) ?_
 rintro e wb ⟨v0,rfl,hfwb⟩
 have p10wb:=hfwb.cellAt p10wa trivial
 clear p10wa hstr
 have HF2:=hdz (HF1.out.trans hfwb)
 have HFb:=hdz hfwb
 clear hfwb
 go_wp2_with fail
 refine Calls.mono (H1.out wb HF2.out) ?_
 rintro e wc ⟨⟨v2,rfl,hv2⟩,hfwc⟩
 obtain⟨A2,q2,rfl,hr2,-⟩:=own_rd hv2
 have p10wc:=hfwc.cellAt p10wb trivial
 clear p10wb
 have HF3:=hdz (HF2.out.trans hfwc)
 have HV2:=hdz (aiz hv2 (aiz hr2 hfwc))
 clear hv2 hr2 hfwc
 go_wp2_with fail
 refine Calls.mono (HD.out wc HF3.out) ?_
 rintro e wd ⟨⟨v3,rfl,hv3⟩,hfwd⟩
 obtain⟨A3,q3,rfl,hr3,-⟩:=own_rd hv3
 have HF4:=hdz (HF3.out.trans hfwd)
 clear p10wc
 have HS1:=hdz (samewaits_eq _ _ A1 A3 _ q1 q3 X wd (HV1.out.2.1.keep (((HFb.out.trans HV2.out.2.2).trans hfwd).weaken (λ_ _ _=>trivial))) hr3 (by omega))
 have HS2:=hdz (λwx (hx:Fresh wd wx)=>samewaits_eq _ _ A2 A3 _ q2 q3 X wx (HV2.out.2.1.keep ((hfwd.trans hx).weaken (λ_ _ _=>trivial))) (hr3.keep (hx.weaken (λ_ _ _=>trivial))) (by omega))
 have HFd:=hdz hfwd
 clear hv3 hr3 hfwd
 go_wp2_with fail
 refine Calls.mono HS1.out ?_
 rintro e we ⟨rfl,hfe⟩
 have HFe:=hdz hfe
 clear hfe HS1
 go_wp2_with fail
 refine Calls.mono (HS2.out we HFe.out) ?_
 rintro e wf ⟨rfl,hff⟩
 have HFf:=hdz ((HFd.out.trans HFe.out).trans hff)
 clear hff HS2 HFe
 have HK1:=hdz (keep_any HB.out.2.2 (HB.out.1.fresh (HF3.out.trans HFf.out)) (va:=.slice none 0 0) (vb:=.slice A1 X.length q1) (vc:=.slice none 0 0) (la:=[]) (lb:=X) (lc:=[]) (onz _ _ _ _) (own_base (own_keep HV1.out.1 ((HFb.out.trans HV2.out.2.2).trans HFf.out) λ_ _=>trivial) (lez HB.out.1.fr.size HF0.out.size)) (onz _ _ _ _) (by simp) hb (by simp) (λk e a ha e2=>by
  rcases e with e | e | e
  ·simp[Value.ownBlock] at e
  ·exact HB.out.1.newer (lez HF0.out.size (own_lt HV1.out.1 e).1) a ha e2
  ·simp[Value.ownBlock] at e
  ) false)
 go_wp2_with fail
 refine Calls.mono HK1.out ?_
 rintro e wg ⟨rfl,st1,hk1⟩
 have hnx:=Kept.next (HB.out.1.fresh (HF3.out.trans HFf.out)) hk1 (own_base (own_keep HV2.out.1 HFf.out λ_ _=>trivial) (lez HB.out.1.fr.size HF2.out.size)) (λk e=>⟨λe2=>by
  rcases e2 with e2 | e2 | e2
  ·simp[Value.ownBlock] at e2
  ·have h1:=(own_lt HV1.out.1 e2).2;have h2:=(own_lt HV2.out.1 e).1;have h3:=HFb.out.size;omega
  ·simp[Value.ownBlock] at e2
  ,λa ha e2=>HB.out.1.newer (lez HF2.out.size (own_lt HV2.out.1 e).1) a ha e2⟩)
 have HK2:=hdz (keep_any HB.out.2.2 hk1.pl (va:=.slice none 0 0) (vb:=.slice A2 X.length q2) (vc:=.slice none 0 0) (la:=[]) (lb:=X) (lc:=[]) (onz _ _ _ _) hnx.1 (onz _ _ _ _) (by simp) hb (by simp) (λk e a ha e2=>by
  rcases e with e | e | e
  ·simp[Value.ownBlock] at e
  ·exact hnx.2 k e a ha e2
  ·simp[Value.ownBlock] at e
  ) true)
 have HN1:=hdz hk1.n
 clear hk1 hnx HK1
 go_wp2_with fail
 refine Calls.mono HK2.out ?_
 rintro e wh ⟨rfl,st2,hk2⟩
 have HN2:=hdz (aiz hk2.pl hk2.n)
 clear hk2 HK2
 go_wp2_with fail
 go_ret
 exact⟨by first | rfl | trivial,st2,HN2.out.1,by rw[HN2.out.2,HN1.out];exact HB.out.2.1⟩
theorem listsL_any {W0 w:World} (hT:TabsN W0) {K:Nat} {st:PlSt} (h:PlayR W0 w K st) (hn3:st.n=3) {i:Nat} (hi:i<3) (n c ci cr co:Int) (k v dd key:Txt) (Ab:Option Addr) (nb cb:Nat) (hkey:key.length≤1099511627000) :
 Calls Tryz.prog 57 #[.pointer (some ⟨K,0,none⟩),.agg #[.int .i64 (i:Int),.int .i64 6,.int .i64 n,.int .i64 c,.int .i64 ci,.int .i64 cr,.int .i64 co,str k,str v,str dd,str key,.slice Ab nb cb]] w λe w'=>e=.returned (.bool true)∧∃st',PlayR W0 w' K st'∧st'.n=3:=by
 obtain⟨m,hm⟩:=exz (st.m i)
 obtain⟨d,hd⟩:=exz (st.d i)
 obtain⟨s,hs⟩:=exz (st.s i)
 have hi3:i<st.n:=by omega
 have hq:=h.pair hi3
 rw[←hm,←hd,←hs] at hq
 have hinv:=hq.ma.inv
 obtain⟨y0,y3⟩:=h.cellP hi3
 rw[←hm] at y0
 rw[←hd] at y3
 have lK:=h.cellL.2.1
 obtain⟨X,hX⟩:=exz (s.locks.map LockD.name)
 have hb:X.length≤900:=by rw[hX];have:=hinv.lk.len;simp;omega
 have H1:=hdz (λwx (hf:Fresh w wx)=>show Calls Tryz.prog 31 #[.pointer (some ⟨m,0,none⟩)] wx λe w'=>(∃v,e=.returned v∧w'.ownsRow wx.heap.size 9 1 v X.length (List.map str X))∧Fresh wx w' from by have HQ:=hq.fresh hf;have hc:=mat_locks HQ.ma;first | exact hX ▸ hc | (simpa[hX] using hc))
 have H2:=hdz (λwx (hf:Fresh w wx)=>show Calls Tryz.prog 30 #[.pointer (some ⟨m,0,none⟩)] wx λe w'=>∃v,e=.returned v∧Fresh wx w' from by have HQ:=hq.fresh hf;exact (mat_pairs HQ.ma).mono λ_ _ ⟨⟨v,he,_⟩,hf⟩=>⟨v,he,hf⟩)
 have HD:=hdz (λwx (hf:Fresh w wx)=>show Calls Tryz.prog 67 #[.pointer (some ⟨d,0,none⟩)] wx λe w'=>(∃v,e=.returned v∧w'.ownsRow wx.heap.size 9 1 v X.length (List.map str X))∧Fresh wx w' from by have HQ:=hq.fresh hf;have hc:=dlocks_any HQ.da (by have:=HQ.ma.inv.lk.len;omega);first | exact hX ▸ hc | (simpa[hX] using hc))
 have HB:=hdz (aiz h (aiz hn3 hT))
 obtain⟨w0,g,hw0,hg,hf0,lg,o0,o1,-,-,-,-,-,-,-,-,o10,-⟩:=op_box w (i:Int) 6 n c ci cr co k v dd key (.slice Ab nb cb)
 replace y0:=hf0.cellAt y0 trivial
 replace y3:=hf0.cellAt y3 trivial
 have lK0:=ltz lK hf0.size
 have HW:=hdz (aiz hw0 (aiz hg hf0))
 have hi0:(i:Int)<3:=by omega
 clear h hn3 hT hm hd hs hi3 hq hinv hX hw0 hg hf0 lK
 go_enter Tryz.func57,Tryz.ntmps57
 go_upto_region 1 with (fail)
 rw[←HW.out.1,←HW.out.2.1]
 go_quiet (fail)
 go_upto_region 2 with (fail)
 go_quiet (fail)
 go_upto_region 22 with (fail)
 generalize hW:World.drewN w0 _=W
 have hfW:Fresh w W:=by rw[←hW];exact HW.out.2.2.drewN _
 have HF0:=hdz hfW
 clear hW hfW y0 y3 o0 o1 o10 lg lK0
 go_wp2_with fail
 refine Calls.mono (H1.out W HF0.out) ?_
 rintro e wa ⟨⟨v1,rfl,hv1⟩,hfwa⟩
 obtain⟨A1,q1,rfl,hr1,-⟩:=own_rd hv1
 have HF1:=hdz (HF0.out.trans hfwa)
 have HV1:=hdz (aiz hv1 (aiz hr1 hfwa))
 clear hv1 hr1 hfwa
 go_wp2_with fail
 refine Calls.mono (H2.out wa HF1.out) ?_
 rintro e wb ⟨v0,rfl,hfwb⟩
 have HF2:=hdz (HF1.out.trans hfwb)
 have HFb:=hdz hfwb
 clear hfwb
 go_wp2_with fail
 refine Calls.mono (H1.out wb HF2.out) ?_
 rintro e wc ⟨⟨v2,rfl,hv2⟩,hfwc⟩
 obtain⟨A2,q2,rfl,hr2,-⟩:=own_rd hv2
 have HF3:=hdz (HF2.out.trans hfwc)
 have HV2:=hdz (aiz hv2 (aiz hr2 hfwc))
 clear hv2 hr2 hfwc
 go_wp2_with fail
 refine Calls.mono (HD.out wc HF3.out) ?_
 rintro e wd ⟨⟨v3,rfl,hv3⟩,hfwd⟩
 obtain⟨A3,q3,rfl,hr3,-⟩:=own_rd hv3
 have HF4:=hdz (HF3.out.trans hfwd)
 have HS1:=hdz (samenames_eq _ _ A1 A3 _ q1 q3 X wd (HV1.out.2.1.keep (((HFb.out.trans HV2.out.2.2).trans hfwd).weaken (λ_ _ _=>trivial))) hr3 (by omega))
 have HS2:=hdz (λwx (hx:Fresh wd wx)=>samenames_eq _ _ A2 A3 _ q2 q3 X wx (HV2.out.2.1.keep ((hfwd.trans hx).weaken (λ_ _ _=>trivial))) (hr3.keep (hx.weaken (λ_ _ _=>trivial))) (by omega))
 have HFd:=hdz hfwd
 clear hv3 hr3 hfwd
 go_wp2_with fail
 refine Calls.mono HS1.out ?_
 rintro e we ⟨rfl,hfe⟩
 have HFe:=hdz hfe
 clear hfe HS1
 go_wp2_with fail
 refine Calls.mono (HS2.out we HFe.out) ?_
 rintro e wf ⟨rfl,hff⟩
 have HFf:=hdz ((HFd.out.trans HFe.out).trans hff)
 clear hff HS2 HFe
 have HK1:=hdz (keep_any HB.out.2.2 (HB.out.1.fresh (HF3.out.trans HFf.out)) (va:=.slice none 0 0) (vb:=.slice none 0 0) (vc:=.slice A1 X.length q1) (la:=[]) (lb:=[]) (lc:=X) (onz _ _ _ _) (onz _ _ _ _) (own_base (own_keep HV1.out.1 ((HFb.out.trans HV2.out.2.2).trans HFf.out) λ_ _=>trivial) (lez HB.out.1.fr.size HF0.out.size)) (by simp) (by simp) hb (λk e a ha e2=>by
  rcases e with e | e | e
  ·simp[Value.ownBlock] at e
  ·simp[Value.ownBlock] at e
  ·exact HB.out.1.newer (lez HF0.out.size (own_lt HV1.out.1 e).1) a ha e2
  ) false)
 go_wp2_with fail
 refine Calls.mono HK1.out ?_
 rintro e wg ⟨rfl,st1,hk1⟩
 have hnx:=Kept.next (HB.out.1.fresh (HF3.out.trans HFf.out)) hk1 (own_base (own_keep HV2.out.1 HFf.out λ_ _=>trivial) (lez HB.out.1.fr.size HF2.out.size)) (λk e=>⟨λe2=>by
  rcases e2 with e2 | e2 | e2
  ·simp[Value.ownBlock] at e2
  ·simp[Value.ownBlock] at e2
  ·have h1:=(own_lt HV1.out.1 e2).2;have h2:=(own_lt HV2.out.1 e).1;have h3:=HFb.out.size;omega
  ,λa ha e2=>HB.out.1.newer (lez HF2.out.size (own_lt HV2.out.1 e).1) a ha e2⟩)
 have HK2:=hdz (keep_any HB.out.2.2 hk1.pl (va:=.slice none 0 0) (vb:=.slice none 0 0) (vc:=.slice A2 X.length q2) (la:=[]) (lb:=[]) (lc:=X) (onz _ _ _ _) (onz _ _ _ _) hnx.1 (by simp) (by simp) hb (λk e a ha e2=>by
  rcases e with e | e | e
  ·simp[Value.ownBlock] at e
  ·simp[Value.ownBlock] at e
  ·exact hnx.2 k e a ha e2
  ) true)
 have HN1:=hdz hk1.n
 clear hk1 hnx HK1
 go_wp2_with fail
 refine Calls.mono HK2.out ?_
 rintro e wh ⟨rfl,st2,hk2⟩
 have HN2:=hdz (aiz hk2.pl hk2.n)
 clear hk2 HK2
 go_wp2_with fail
 go_ret
 exact⟨by first | rfl | trivial,st2,HN2.out.1,by rw[HN2.out.2,HN1.out];exact HB.out.2.1⟩
theorem asks_any {W0 w:World} (hT:TabsN W0) {K:Nat} {st:PlSt} (h:PlayR W0 w K st) (hn3:st.n=3) {i:Nat} (hi:i<3) (kd n c ci cr co:Int) (k v dd key:Txt) (A:Option Addr) (nb cb:Nat) (hkey:key.length≤1099511627000) :
 Calls Tryz.prog 60 #[.pointer (some ⟨K,0,none⟩),.agg #[.int .i64 (i:Int),.int .i64 kd,.int .i64 n,.int .i64 c,.int .i64 ci,.int .i64 cr,.int .i64 co,str k,str v,str dd,str key,.slice A nb cb]] w λe w'=>e=.returned (.bool true)∧∃st',PlayR W0 w' K st'∧st'.n=3:=by
 by_cases e1:kd=1
 ·subst e1;exact asksA_any hT h hn3 hi n c ci cr co k v dd key A nb cb hkey
 by_cases e2:kd=2
 ·subst e2;exact asksG_any hT h hn3 hi n c ci cr co k v dd key A nb cb hkey
 by_cases e4:kd=4
 ·subst e4;exact asksH_any hT h hn3 hi n c ci cr co k v dd key A nb cb hkey
 by_cases e7:kd=7
 ·subst e7;exact asksS_any hT h hn3 hi n c ci cr co k v dd key A nb cb hkey
 by_cases e8:kd=8
 ·subst e8
  rcases (by omega:i=0∨i=1∨i=2) with rfl | rfl | rfl
  ·exact asksP_any hT h hn3 hi n c ci cr co k v dd key A nb cb hkey (j:=1) (by omega) (by decide)
  ·exact asksP_any hT h hn3 hi n c ci cr co k v dd key A nb cb hkey (j:=2) (by omega) (by decide)
  ·exact asksP_any hT h hn3 hi n c ci cr co k v dd key A nb cb hkey (j:=0) (by omega) (by decide)
 exact asksN_any hT h hn3 hi kd n c ci cr co k v dd key A nb cb hkey e1 e2 e4 e7 e8
theorem stepLo_any {W0 w:World}(hT:TabsN W0){K:Nat}{st:PlSt}(h:PlayR W0 w K st)(hn3:st.n=3)(who kd:Int)(n c ci cr co:Int)(k v dd key:Txt){A:Option Addr}{nb cb:Nat}{bs:Txt}{Z:Nat→Prop}(hb:Rd w Z 1 A nb (Lib.byteCells bs))(hnb:nb≤1099511626000)(hnc:nb≤cb)(hnil:nb=0→cb=0∨A≠none)(hkey:key.length≤1099511627000)(hw:who<0) :
 Calls Tryz.prog 35 #[.pointer (some ⟨K,0,none⟩),.agg #[.int .i64 who,.int .i64 kd,.int .i64 n,.int .i64 c,.int .i64 ci,.int .i64 cr,.int .i64 co,str k,str v,str dd,str key,.slice A nb cb]] w λe w'=>e=.returned (.bool true)∧∃st',PlayR W0 w' K st'∧st'.n=3:=by
 have hbF:=hb.weaken (Z':=λ_=>True) λ_ _=>trivial
 have HB:=hdz (aiz h (aiz hn3 (aiz hT (aiz hbF (aiz hnb (aiz hnc (aiz hnil hkey)))))))
 have lK:=h.cellL.2.1
 obtain⟨w0,g,hw0,hg,hf0,lg,p0,p1,p2,p3,p4,p5,p6,p7,p8,p9,p10,p11⟩:=op_box w who kd n c ci cr co k v dd key (.slice A nb cb)
 have lK0:=ltz lK hf0.size
 have HW:=hdz (aiz hw0 (aiz hg hf0))
 clear h hn3 hT hb hbF hw0 hg hf0 lK hnb hnil
 go_enter Tryz.func35,Tryz.ntmps35
 go_upto_region 1 with (fail)
 rw[←HW.out.1,←HW.out.2.1]
 go_wp2_with fail
 go_ret
 exact⟨by first | rfl | trivial,st,HB.out.1.fresh HW.out.2.2,HB.out.2.1⟩
theorem stepHi_any {W0 w:World}(hT:TabsN W0){K:Nat}{st:PlSt}(h:PlayR W0 w K st)(hn3:st.n=3)(who kd:Int)(n c ci cr co:Int)(k v dd key:Txt){A:Option Addr}{nb cb:Nat}{bs:Txt}{Z:Nat→Prop}(hb:Rd w Z 1 A nb (Lib.byteCells bs))(hnb:nb≤1099511626000)(hnc:nb≤cb)(hnil:nb=0→cb=0∨A≠none)(hkey:key.length≤1099511627000)(hw:2<who) :
 Calls Tryz.prog 35 #[.pointer (some ⟨K,0,none⟩),.agg #[.int .i64 who,.int .i64 kd,.int .i64 n,.int .i64 c,.int .i64 ci,.int .i64 cr,.int .i64 co,str k,str v,str dd,str key,.slice A nb cb]] w λe w'=>e=.returned (.bool true)∧∃st',PlayR W0 w' K st'∧st'.n=3:=by
 have hwn:¬who<0:=by omega
 have hbF:=hb.weaken (Z':=λ_=>True) λ_ _=>trivial
 have HB:=hdz (aiz h (aiz hn3 (aiz hT (aiz hbF (aiz hnb (aiz hnc (aiz hnil hkey)))))))
 have lK:=h.cellL.2.1
 obtain⟨w0,g,hw0,hg,hf0,lg,p0,p1,p2,p3,p4,p5,p6,p7,p8,p9,p10,p11⟩:=op_box w who kd n c ci cr co k v dd key (.slice A nb cb)
 have lK0:=ltz lK hf0.size
 have HW:=hdz (aiz hw0 (aiz hg hf0))
 clear h hn3 hT hb hbF hw0 hg hf0 lK hnb hnil
 go_enter Tryz.func35,Tryz.ntmps35
 go_upto_region 1 with (fail)
 rw[←HW.out.1,←HW.out.2.1]
 go_wp2_with fail
 go_ret
 exact⟨by first | rfl | trivial,st,HB.out.1.fresh HW.out.2.2,HB.out.2.1⟩
theorem step3_any {W0 w:World}(hT:TabsN W0){K:Nat}{st:PlSt}(h:PlayR W0 w K st)(hn3:st.n=3){i:Nat}(hi:i<3)(n c ci cr co:Int)(k v dd key:Txt){A:Option Addr}{nb cb:Nat}{bs:Txt}{Z:Nat→Prop}(hb:Rd w Z 1 A nb (Lib.byteCells bs))(hnb:nb≤1099511626000)(hnc:nb≤cb)(hnil:nb=0→cb=0∨A≠none)(hkey:key.length≤1099511627000) :
 Calls Tryz.prog 35 #[.pointer (some ⟨K,0,none⟩),.agg #[.int .i64 (i:Int),.int .i64 3,.int .i64 n,.int .i64 c,.int .i64 ci,.int .i64 cr,.int .i64 co,str k,str v,str dd,str key,.slice A nb cb]] w λe w'=>e=.returned (.bool true)∧∃st',PlayR W0 w' K st'∧st'.n=3:=by
 have hi0:(i:Int)<3:=by omega
 have hi2:¬(2:Int)<(i:Int):=by omega
 have hbF:=hb.weaken (Z':=λ_=>True) λ_ _=>trivial
 have HB:=hdz (aiz h (aiz hn3 (aiz hT (aiz hbF (aiz hnb (aiz hnc (aiz hnil hkey)))))))
 have lK:=h.cellL.2.1
 obtain⟨w0,g,hw0,hg,hf0,lg,p0,p1,p2,p3,p4,p5,p6,p7,p8,p9,p10,p11⟩:=op_box w (i:Int) 3 n c ci cr co k v dd key (.slice A nb cb)
 have lK0:=ltz lK hf0.size
 have HW:=hdz (aiz hw0 (aiz hg hf0))
 clear h hn3 hT hb hbF hw0 hg hf0 lK hnb hnil
 go_enter Tryz.func35,Tryz.ntmps35
 go_upto_region 1 with (fail)
 rw[←HW.out.1,←HW.out.2.1]
 have HC:=hdz (listsP_any HB.out.2.2.1 (HB.out.1.fresh HW.out.2.2) HB.out.2.1 hi n c ci cr co k v dd key A nb cb hkey)
 go_wp2_with fail
 refine HC.out.mono ?_
 rintro e w1 ⟨rfl,st1,hS⟩
 have HS:=hdz hS
 clear hS HC p0 p1 p2 p3 p4 p5 p6 p7 p8 p9 p10 p11
 have HI:=hdz (intactP_any HB.out.2.2.1 HS.out.1)
 go_wp2_with fail
 refine HI.out.mono ?_
 rintro e wz ⟨rfl,hfz⟩
 have HZ:=hdz (HS.out.1.fresh hfz)
 clear hfz HI
 go_wp2_with fail
 go_ret
 exact⟨by first | rfl | trivial,st1,HZ.out,HS.out.2⟩
theorem step5_any {W0 w:World}(hT:TabsN W0){K:Nat}{st:PlSt}(h:PlayR W0 w K st)(hn3:st.n=3){i:Nat}(hi:i<3)(n c ci cr co:Int)(k v dd key:Txt){A:Option Addr}{nb cb:Nat}{bs:Txt}{Z:Nat→Prop}(hb:Rd w Z 1 A nb (Lib.byteCells bs))(hnb:nb≤1099511626000)(hnc:nb≤cb)(hnil:nb=0→cb=0∨A≠none)(hkey:key.length≤1099511627000) :
 Calls Tryz.prog 35 #[.pointer (some ⟨K,0,none⟩),.agg #[.int .i64 (i:Int),.int .i64 5,.int .i64 n,.int .i64 c,.int .i64 ci,.int .i64 cr,.int .i64 co,str k,str v,str dd,str key,.slice A nb cb]] w λe w'=>e=.returned (.bool true)∧∃st',PlayR W0 w' K st'∧st'.n=3:=by
 have hi0:(i:Int)<3:=by omega
 have hi2:¬(2:Int)<(i:Int):=by omega
 have hbF:=hb.weaken (Z':=λ_=>True) λ_ _=>trivial
 have HB:=hdz (aiz h (aiz hn3 (aiz hT (aiz hbF (aiz hnb (aiz hnc (aiz hnil hkey)))))))
 have lK:=h.cellL.2.1
 obtain⟨w0,g,hw0,hg,hf0,lg,p0,p1,p2,p3,p4,p5,p6,p7,p8,p9,p10,p11⟩:=op_box w (i:Int) 5 n c ci cr co k v dd key (.slice A nb cb)
 have lK0:=ltz lK hf0.size
 have HW:=hdz (aiz hw0 (aiz hg hf0))
 clear h hn3 hT hb hbF hw0 hg hf0 lK hnb hnil
 go_enter Tryz.func35,Tryz.ntmps35
 go_upto_region 1 with (fail)
 rw[←HW.out.1,←HW.out.2.1]
 have HC:=hdz (listsW_any HB.out.2.2.1 (HB.out.1.fresh HW.out.2.2) HB.out.2.1 hi n c ci cr co k v dd key A nb cb hkey)
 go_wp2_with fail
 refine HC.out.mono ?_
 rintro e w1 ⟨rfl,st1,hS⟩
 have HS:=hdz hS
 clear hS HC p0 p1 p2 p3 p4 p5 p6 p7 p8 p9 p10 p11
 have HI:=hdz (intactP_any HB.out.2.2.1 HS.out.1)
 go_wp2_with fail
 refine HI.out.mono ?_
 rintro e wz ⟨rfl,hfz⟩
 have HZ:=hdz (HS.out.1.fresh hfz)
 clear hfz HI
 go_wp2_with fail
 go_ret
 exact⟨by first | rfl | trivial,st1,HZ.out,HS.out.2⟩
theorem step6_any {W0 w:World}(hT:TabsN W0){K:Nat}{st:PlSt}(h:PlayR W0 w K st)(hn3:st.n=3){i:Nat}(hi:i<3)(n c ci cr co:Int)(k v dd key:Txt){A:Option Addr}{nb cb:Nat}{bs:Txt}{Z:Nat→Prop}(hb:Rd w Z 1 A nb (Lib.byteCells bs))(hnb:nb≤1099511626000)(hnc:nb≤cb)(hnil:nb=0→cb=0∨A≠none)(hkey:key.length≤1099511627000) :
 Calls Tryz.prog 35 #[.pointer (some ⟨K,0,none⟩),.agg #[.int .i64 (i:Int),.int .i64 6,.int .i64 n,.int .i64 c,.int .i64 ci,.int .i64 cr,.int .i64 co,str k,str v,str dd,str key,.slice A nb cb]] w λe w'=>e=.returned (.bool true)∧∃st',PlayR W0 w' K st'∧st'.n=3:=by
 have hi0:(i:Int)<3:=by omega
 have hi2:¬(2:Int)<(i:Int):=by omega
 have hbF:=hb.weaken (Z':=λ_=>True) λ_ _=>trivial
 have HB:=hdz (aiz h (aiz hn3 (aiz hT (aiz hbF (aiz hnb (aiz hnc (aiz hnil hkey)))))))
 have lK:=h.cellL.2.1
 obtain⟨w0,g,hw0,hg,hf0,lg,p0,p1,p2,p3,p4,p5,p6,p7,p8,p9,p10,p11⟩:=op_box w (i:Int) 6 n c ci cr co k v dd key (.slice A nb cb)
 have lK0:=ltz lK hf0.size
 have HW:=hdz (aiz hw0 (aiz hg hf0))
 clear h hn3 hT hb hbF hw0 hg hf0 lK hnb hnil
 go_enter Tryz.func35,Tryz.ntmps35
 go_upto_region 1 with (fail)
 rw[←HW.out.1,←HW.out.2.1]
 have HC:=hdz (listsL_any HB.out.2.2.1 (HB.out.1.fresh HW.out.2.2) HB.out.2.1 hi n c ci cr co k v dd key A nb cb hkey)
 go_wp2_with fail
 refine HC.out.mono ?_
 rintro e w1 ⟨rfl,st1,hS⟩
 have HS:=hdz hS
 clear hS HC p0 p1 p2 p3 p4 p5 p6 p7 p8 p9 p10 p11
 have HI:=hdz (intactP_any HB.out.2.2.1 HS.out.1)
 go_wp2_with fail
 refine HI.out.mono ?_
 rintro e wz ⟨rfl,hfz⟩
 have HZ:=hdz (HS.out.1.fresh hfz)
 clear hfz HI
 go_wp2_with fail
 go_ret
 exact⟨by first | rfl | trivial,st1,HZ.out,HS.out.2⟩
theorem step9_any {W0 w:World} (hT:TabsN W0) {K:Nat} {st:PlSt} (h:PlayR W0 w K st) (hn3:st.n=3) {i:Nat} (hi:i<3) (n c ci cr co:Int) (k v dd key:Txt) {A:Option Addr} {nb cb:Nat} {bs:Txt} {Z:Nat→Prop} (hb:Rd w Z 1 A nb (Lib.byteCells bs)) (hnb:nb≤1099511626000) (hnc:nb≤cb) (hnil:nb=0→cb=0∨A≠none) (hkey:key.length≤1099511627000) :
 Calls Tryz.prog 35 #[.pointer (some ⟨K,0,none⟩),.agg #[.int .i64 (i:Int),.int .i64 9,.int .i64 n,.int .i64 c,.int .i64 ci,.int .i64 cr,.int .i64 co,str k,str v,str dd,str key,.slice A nb cb]] w λe w'=>e=.returned (.bool true)∧∃st',PlayR W0 w' K st'∧st'.n=3:=by
 have hi0:(i:Int)<3:=by omega
 have hi2:¬(2:Int)<(i:Int):=by omega
 have hbF:=hb.weaken (Z':=λ_=>True) λ_ _=>trivial
 have HB:=hdz (aiz h (aiz hn3 (aiz hT (aiz hbF (aiz hnb (aiz hnc (aiz hnil hkey)))))))
 have lK:=h.cellL.2.1
 obtain⟨w0,g,hw0,hg,hf0,lg,p0,p1,p2,p3,p4,p5,p6,p7,p8,p9,p10,p11⟩:=op_box w (i:Int) 9 n c ci cr co k v dd key (.slice A nb cb)
 have lK0:=ltz lK hf0.size
 have HW:=hdz (aiz hw0 (aiz hg hf0))
 clear h hn3 hT hb hbF hw0 hg hf0 lK hnb hnil
 go_enter Tryz.func35,Tryz.ntmps35
 go_upto_region 1 with (fail)
 rw[←HW.out.1,←HW.out.2.1]
 have HC:Hid (Calls Tryz.prog 58 #[.pointer (some ⟨K,0,none⟩),.int .i64 (i:Int),.slice A nb cb] w0 λe w'=>e=.returned (.bool true)∧∃st',PlayR W0 w' K st'∧st'.n=3):=by
  obtain⟨h,hn3,hT,hbF,hnb,hnc,hnil,-⟩:=HB.out
  have hb1:=hbF.keep HW.out.2.2
  by_cases hs:∃s,Restored bs s
  ·obtain⟨s,hs⟩:=hs
   exact restored_yes hT (h.fresh HW.out.2.2) hn3 hi hb1 hnb hnc hnil hs
  ·exact restored_no hT (h.fresh HW.out.2.2) hn3 hi hb1 hnb hnc hnil (λs h=>hs ⟨s,h⟩)
 go_wp2_with fail
 refine HC.out.mono ?_
 rintro e w1 ⟨rfl,st1,hS⟩
 have HS:=hdz hS
 clear hS HC p0 p1 p2 p3 p4 p5 p6 p7 p8 p9 p10 p11
 have HI:=hdz (intactP_any HB.out.2.2.1 HS.out.1)
 go_wp2_with fail
 refine HI.out.mono ?_
 rintro e wz ⟨rfl,hfz⟩
 have HZ:=hdz (HS.out.1.fresh hfz)
 clear hfz HI
 go_wp2_with fail
 go_ret
 exact⟨by first | rfl | trivial,st1,HZ.out,HS.out.2⟩
theorem stepN_any {W0 w:World}(hT:TabsN W0){K:Nat}{st:PlSt}(h:PlayR W0 w K st)(hn3:st.n=3)(kd:Int){i:Nat}(hi:i<3)(n c ci cr co:Int)(k v dd key:Txt){A:Option Addr}{nb cb:Nat}{bs:Txt}{Z:Nat→Prop}(hb:Rd w Z 1 A nb (Lib.byteCells bs))(hnb:nb≤1099511626000)(hnc:nb≤cb)(hnil:nb=0→cb=0∨A≠none)(hkey:key.length≤1099511627000)(e3:kd≠3)(e5:kd≠5)(e6:kd≠6)(e9:kd≠9)(e10:kd≠10)(e11:kd≠11) :
 Calls Tryz.prog 35 #[.pointer (some ⟨K,0,none⟩),.agg #[.int .i64 (i:Int),.int .i64 kd,.int .i64 n,.int .i64 c,.int .i64 ci,.int .i64 cr,.int .i64 co,str k,str v,str dd,str key,.slice A nb cb]] w λe w'=>e=.returned (.bool true)∧∃st',PlayR W0 w' K st'∧st'.n=3:=by
 have hi0:(i:Int)<3:=by omega
 have hi2:¬(2:Int)<(i:Int):=by omega
 have c3:(kd==3)=false:=by simpa using e3
 have c5:(kd==5)=false:=by simpa using e5
 have c6:(kd==6)=false:=by simpa using e6
 have c9:(kd==9)=false:=by simpa using e9
 have c10:(kd==10)=false:=by simpa using e10
 have c11:(kd==11)=false:=by simpa using e11
 clear e3 e5 e6 e9 e10 e11
 have hbF:=hb.weaken (Z':=λ_=>True) λ_ _=>trivial
 have HB:=hdz (aiz h (aiz hn3 (aiz hT (aiz hbF (aiz hnb (aiz hnc (aiz hnil hkey)))))))
 have lK:=h.cellL.2.1
 obtain⟨w0,g,hw0,hg,hf0,lg,p0,p1,p2,p3,p4,p5,p6,p7,p8,p9,p10,p11⟩:=op_box w (i:Int) kd n c ci cr co k v dd key (.slice A nb cb)
 have lK0:=ltz lK hf0.size
 have HW:=hdz (aiz hw0 (aiz hg hf0))
 clear h hn3 hT hb hbF hw0 hg hf0 lK hnb hnil
 go_enter Tryz.func35,Tryz.ntmps35
 go_upto_region 1 with (fail)
 rw[←HW.out.1,←HW.out.2.1]
 have HC:=hdz (asks_any HB.out.2.2.1 (HB.out.1.fresh HW.out.2.2) HB.out.2.1 hi kd n c ci cr co k v dd key A nb cb hkey)
 go_wp2_with fail
 refine HC.out.mono ?_
 rintro e w1 ⟨rfl,st1,hS⟩
 have HS:=hdz hS
 clear hS HC p0 p1 p2 p3 p4 p5 p6 p7 p8 p9 p10 p11
 have HI:=hdz (intactP_any HB.out.2.2.1 HS.out.1)
 go_wp2_with fail
 refine HI.out.mono ?_
 rintro e wz ⟨rfl,hfz⟩
 have HZ:=hdz (HS.out.1.fresh hfz)
 clear hfz HI
 go_wp2_with fail
 go_ret
 exact⟨by first | rfl | trivial,st1,HZ.out,HS.out.2⟩
theorem step11_any {W0 w:World} (hT:TabsN W0) {K:Nat} {st:PlSt} (h:PlayR W0 w K st) (hn3:st.n=3) {i:Nat} (hi:i<3) (n c ci cr co:Int) (k v dd key:Txt) {A:Option Addr} {nb cb:Nat} {bs:Txt} {Z:Nat→Prop} (hb:Rd w Z 1 A nb (Lib.byteCells bs)) (hnb:nb≤1099511626000) (hnc:nb≤cb) (hnil:nb=0→cb=0∨A≠none) (hkey:key.length≤1099511627000) :
 Calls Tryz.prog 35 #[.pointer (some ⟨K,0,none⟩),.agg #[.int .i64 (i:Int),.int .i64 11,.int .i64 n,.int .i64 c,.int .i64 ci,.int .i64 cr,.int .i64 co,str k,str v,str dd,str key,.slice A nb cb]] w λe w'=>e=.returned (.bool true)∧∃st',PlayR W0 w' K st'∧st'.n=3:=by
 have hi0:(i:Int)<3:=by omega
 have hi2:¬(2:Int)<(i:Int):=by omega
 obtain⟨y0,y3,-,fK⟩:=h.cellAny hi
 have f0:=fK i
 have HY:=hdz (aiz y0 f0)
 clear y0 y3 fK f0
 have hbF:=hb.weaken (Z':=λ_=>True) λ_ _=>trivial
 have HB:=hdz (aiz h (aiz hn3 (aiz hT (aiz hbF (aiz hnb (aiz hnc (aiz hnil hkey)))))))
 have lK:=h.cellL.2.1
 obtain⟨w0,g,hw0,hg,hf0,lg,p0,p1,p2,p3,p4,p5,p6,p7,p8,p9,p10,p11⟩:=op_box w (i:Int) 11 n c ci cr co k v dd key (.slice A nb cb)
 have lK0:=ltz lK hf0.size
 have HW:=hdz (aiz hw0 (aiz hg hf0))
 clear h hn3 hT hb hbF hw0 hg hf0 lK hnb hnil
 go_enter Tryz.func35,Tryz.ntmps35
 go_upto_region 1 with (fail)
 rw[←HW.out.1,←HW.out.2.1]
 have y0:=HW.out.2.2.cellAt HY.out.1 trivial
 have f0:w0.frozen? ⟨K,i,none⟩=false:=(HW.out.2.2.frozen (p:=⟨K,i,none⟩) (lt_of_cell HY.out.1) trivial).trans HY.out.2
 have hd0:Hid (Fresh w0 w0.drew):=hdz ((krz _ w0).drew)
 have HS0:Hid (∀w',Fresh w0 w'→w'.cell? ⟨g,0,none⟩=some (.int .i64 (i:Int))):=hdz λw' hf=>hf.cellAt p0 trivial
 have HN:=hdz (λwx=>mat_new wx)
 have HD:=hdz (λwx=>dnew_any wx)
 have hgK:g≠K:=by have:=HW.out.2.1;have:=HB.out.1.cellL.2.1;omega
 clear p2 p3 p4 p5 p6 p7 p8 p9 p10 p11
 go_upto_region 19 with (fail)
 go_region_held3 (λw'=>w'.cell? ⟨g,0,none⟩=some (.int .i64 (i:Int))) (first | with_reducible exact HS0.out _ hfa | with_reducible exact HS0.out _ hd0.out | exact HG0.out)
  (first | (go_at_call 14;(with_reducible refine Calls.mono (HN.out _) ?_);rintro e wa ⟨⟨m,F,rfl,hm⟩,hfb⟩;have hfa:=hd0.out.trans hfb;have c1:=hfa.cellAt y0 trivial;have f1:=(hfa.frozen (p:=⟨K,i,none⟩) lK0 trivial).trans f0;have lgk:=lt_of_cell c1;have HM:=hdz (aiz hfa hm);have HG0:Hid ((wa.setCell ⟨K,i,none⟩ (.pointer (some ⟨m,0,none⟩))).cell? ⟨g,0,none⟩=some (.int .i64 (i:Int))):=hdz (((keepK wa K i _).cellAt (hfa.cellAt p0 trivial) hgK));clear hm hfb))
 all_goals
  go_wp2_with fail
  obtain⟨wb,hwb⟩:=exz (wa.setCell ⟨K,i,none⟩ (.pointer (some ⟨m,0,none⟩)))
  rw[←hwb]
  have h1:=(HB.out.1.fresh HW.out.2.2).fresh HM.out.1
  obtain⟨V,nx,hbk⟩:=(h1.bk.head (u:=.pointer (some ⟨m,0,none⟩)) λV nx=>bookC_setP hi).blkK
  rw[←hwb] at hbk
  have z3:=hbk.cell (3+i)
  rw[bookC_d hi,setP_d hi hi] at z3
  have z0:=hbk.cell i
  rw[bookC_p hi,setP_p hi hi,if_pos rfl] at z0
  have g3:=hbk.frozen (3+i)
  have lb:=hbk.lt
  have q0:wb.cell? ⟨g,0,none⟩=some (.int .i64 (i:Int)):=by rw[hwb];exact HG0.out
  have lgb:=lt_of_cell q0
  have hd1:Hid (Fresh wb wb.drew):=hdz ((krz _ wb).drew)
  have HS1:Hid (∀w',Fresh wb w'→w'.cell? ⟨g,0,none⟩=some (.int .i64 (i:Int))):=hdz λw' hf=>hf.cellAt q0 trivial
  have HWb:=hdz hwb
  clear h1 hbk hwb c1 f1 lgk y0 f0 hd0 HN p0 p1 lg HS0 HG0
  go_region_held3 (λw'=>w'.cell? ⟨g,0,none⟩=some (.int .i64 (i:Int))) (first | with_reducible exact HS1.out _ hfe | with_reducible exact HS1.out _ hd1.out | exact HG1.out)
   (first | (go_at_call 56;(with_reducible refine Calls.mono (HD.out _) ?_);rintro e wd ⟨⟨d,rfl,hd,hd2,hd3⟩,hfb⟩;have hfe:=hd1.out.trans hfb;have e1:=hfe.cellAt z3 trivial;have e0:=hfe.cellAt z0 trivial;have g1:=(hfe.frozen (p:=⟨K,3+i,none⟩) lb trivial).trans g3;have ld:=lt_of_cell e1;have HE:=hdz (aiz hfe (aiz hd hd2));have HG1:Hid ((wd.setCell ⟨K,3+i,none⟩ (.pointer (some ⟨d,0,none⟩))).cell? ⟨g,0,none⟩=some (.int .i64 (i:Int))):=hdz (((keepK wd K (3+i) _).cellAt (hfe.cellAt q0 trivial) hgK));clear hd hd2 hd3 hfb))
  all_goals
   go_wp2_with fail
   obtain⟨wf,hwf⟩:=exz (wd.setCell ⟨K,3+i,none⟩ (.pointer (some ⟨d,0,none⟩)))
   rw[←hwf]
   obtain⟨st1,hp',hn'⟩:∃st',PlayR W0 wf K st'∧st'.n=3:=by
    obtain⟨h,hn,-⟩:=HB.out
    obtain⟨hfe,hd,hd2⟩:=HE.out
    have hs:(World.drew wb).heap.size=wb.heap.size:=rfl
    rw[hs] at hd hd2
    rw[HWb.out] at hfe hd hd2
    obtain⟨st',hp',hn'⟩:=(h.fresh HW.out.2.2).anew hi (by omega) HM.out.1 (HM.out.2) hfe hd hd2
    rw[←hwf] at hp'
    exact⟨st',hp',by omega⟩
   have q1:wf.cell? ⟨g,0,none⟩=some (.int .i64 (i:Int)):=by rw[hwf];exact HG1.out
   have r0:=(hp'.cellP (i:=i) (by omega)).1
   have lf:=lt_of_cell r0
   have lgf:=lt_of_cell q1
   have HS:=hdz (aiz hp' hn')
   clear hp' hn' hwf e1 e0 g1 ld z3 z0 g3 lb q0 lgb
   go_quiet (fail)
   have HI:=hdz (intactP_any HB.out.2.2.1 (HS.out.1.fresh ((krz _ wf).drewN nq)))
   go_wp2_with fail
   refine HI.out.mono ?_
   rintro e wz ⟨rfl,hfz⟩
   have HZ:=hdz ((HS.out.1.fresh ((krz _ wf).drewN nq)).fresh hfz)
   clear hfz HI
   go_wp2_with fail
   go_ret
   exact⟨by first | rfl | trivial,st1,HZ.out,HS.out.2⟩
theorem step10Lo_any {W0 w:World}(hT:TabsN W0){K:Nat}{st:PlSt}(h:PlayR W0 w K st)(hn3:st.n=3){i:Nat}(hi:i<3)(n c ci cr co:Int)(k v dd key:Txt){A:Option Addr}{nb cb:Nat}{bs:Txt}{Z:Nat→Prop}(hb:Rd w Z 1 A nb (Lib.byteCells bs))(hnb:nb≤1099511626000)(hnc:nb≤cb)(hnil:nb=0→cb=0∨A≠none)(hkey:key.length≤1099511627000)(hw:n<0) :
 Calls Tryz.prog 35 #[.pointer (some ⟨K,0,none⟩),.agg #[.int .i64 (i:Int),.int .i64 10,.int .i64 n,.int .i64 c,.int .i64 ci,.int .i64 cr,.int .i64 co,str k,str v,str dd,str key,.slice A nb cb]] w λe w'=>e=.returned (.bool true)∧∃st',PlayR W0 w' K st'∧st'.n=3:=by
 have hi0:(i:Int)<3:=by omega
 have hi2:¬(2:Int)<(i:Int):=by omega
 have hbF:=hb.weaken (Z':=λ_=>True) λ_ _=>trivial
 have HB:=hdz (aiz h (aiz hn3 (aiz hT (aiz hbF (aiz hnb (aiz hnc (aiz hnil hkey)))))))
 have lK:=h.cellL.2.1
 obtain⟨w0,g,hw0,hg,hf0,lg,p0,p1,p2,p3,p4,p5,p6,p7,p8,p9,p10,p11⟩:=op_box w (i:Int) 10 n c ci cr co k v dd key (.slice A nb cb)
 have lK0:=ltz lK hf0.size
 have HW:=hdz (aiz hw0 (aiz hg hf0))
 clear h hn3 hT hb hbF hw0 hg hf0 lK hnb hnil
 go_enter Tryz.func35,Tryz.ntmps35
 go_upto_region 1 with (fail)
 rw[←HW.out.1,←HW.out.2.1]
 go_wp2_with fail
 go_ret
 exact⟨by first | rfl | trivial,st,HB.out.1.fresh HW.out.2.2,HB.out.2.1⟩
theorem step10Hi_any {W0 w:World}(hT:TabsN W0){K:Nat}{st:PlSt}(h:PlayR W0 w K st)(hn3:st.n=3){i:Nat}(hi:i<3)(n c ci cr co:Int)(k v dd key:Txt){A:Option Addr}{nb cb:Nat}{bs:Txt}{Z:Nat→Prop}(hb:Rd w Z 1 A nb (Lib.byteCells bs))(hnb:nb≤1099511626000)(hnc:nb≤cb)(hnil:nb=0→cb=0∨A≠none)(hkey:key.length≤1099511627000)(hw:2<n) :
 Calls Tryz.prog 35 #[.pointer (some ⟨K,0,none⟩),.agg #[.int .i64 (i:Int),.int .i64 10,.int .i64 n,.int .i64 c,.int .i64 ci,.int .i64 cr,.int .i64 co,str k,str v,str dd,str key,.slice A nb cb]] w λe w'=>e=.returned (.bool true)∧∃st',PlayR W0 w' K st'∧st'.n=3:=by
 have hi0:(i:Int)<3:=by omega
 have hi2:¬(2:Int)<(i:Int):=by omega
 have hwn:¬n<0:=by omega
 have hbF:=hb.weaken (Z':=λ_=>True) λ_ _=>trivial
 have HB:=hdz (aiz h (aiz hn3 (aiz hT (aiz hbF (aiz hnb (aiz hnc (aiz hnil hkey)))))))
 have lK:=h.cellL.2.1
 obtain⟨w0,g,hw0,hg,hf0,lg,p0,p1,p2,p3,p4,p5,p6,p7,p8,p9,p10,p11⟩:=op_box w (i:Int) 10 n c ci cr co k v dd key (.slice A nb cb)
 have lK0:=ltz lK hf0.size
 have HW:=hdz (aiz hw0 (aiz hg hf0))
 clear h hn3 hT hb hbF hw0 hg hf0 lK hnb hnil
 go_enter Tryz.func35,Tryz.ntmps35
 go_upto_region 1 with (fail)
 rw[←HW.out.1,←HW.out.2.1]
 go_wp2_with fail
 go_ret
 exact⟨by first | rfl | trivial,st,HB.out.1.fresh HW.out.2.2,HB.out.2.1⟩
theorem step10_any {W0 w:World} (hT:TabsN W0) {K:Nat} {st:PlSt} (h:PlayR W0 w K st) (hn3:st.n=3) {i:Nat} (hi:i<3) {j:Nat} (hj:j<3) (n c ci cr co:Int) (k v dd key:Txt) {A:Option Addr} {nb cb:Nat} {bs:Txt} {Z:Nat→Prop} (hb:Rd w Z 1 A nb (Lib.byteCells bs)) (hnb:nb≤1099511626000) (hnc:nb≤cb) (hnil:nb=0→cb=0∨A≠none) (hkey:key.length≤1099511627000) :
 Calls Tryz.prog 35 #[.pointer (some ⟨K,0,none⟩),.agg #[.int .i64 (i:Int),.int .i64 10,.int .i64 (j:Int),.int .i64 c,.int .i64 ci,.int .i64 cr,.int .i64 co,str k,str v,str dd,str key,.slice A nb cb]] w λe w'=>e=.returned (.bool true)∧∃st',PlayR W0 w' K st'∧st'.n=3:=by
 have hi0:(i:Int)<3:=by omega
 have hi2:¬(2:Int)<(i:Int):=by omega
 have hj0:(j:Int)<3:=by omega
 have hj2:¬(2:Int)<(j:Int):=by omega
 obtain⟨m,hm⟩:=exz (st.m j)
 obtain⟨d,hd⟩:=exz (st.d j)
 obtain⟨s,hs⟩:=exz (st.s j)
 have hj3:j<st.n:=by omega
 have hq:=h.pair hj3
 rw[←hm,←hd,←hs] at hq
 have hinv:=hq.ma.inv
 obtain⟨y0,y3⟩:=h.cellP hj3
 rw[←hm] at y0
 rw[←hd] at y3
 have hTw:=hT.fresh h.fr
 obtain⟨Z,hZ⟩:=exz (snapB s)
 have hZl:Z.length≤1000000:=by have:=snap_most hinv;rw[hZ];omega
 have H1:=hdz (λwx (hf:Fresh w wx)=>show Calls Tryz.prog 16 #[.pointer (some ⟨m,0,none⟩)] wx λe w'=>(∃v,e=.returned v∧w'.ownsRow wx.heap.size 5 1 v Z.length (Lib.byteCells Z))∧Fresh wx w' from by have HQ:=hq.fresh hf;have hc:=mat_snap (hTw.fresh hf) HQ.ma;rw[←hZ] at hc;exact hc)
 have HD:=hdz (λwx (hf:Fresh w wx)=>show Calls Tryz.prog 59 #[.pointer (some ⟨d,0,none⟩)] wx λe w'=>(∃v,e=.returned v∧w'.ownsRow wx.heap.size 5 1 v Z.length (Lib.byteCells Z))∧Fresh wx w' from by have HQ:=hq.fresh hf;have hc:=dsnap_any HQ.da hinv;rw[←hZ] at hc;exact hc)
 have HRS:Hid (Restored Z s):=hdz (by rw[hZ];exact restored_snap hinv)
 have HY:=hdz (aiz y0 y3)
 clear hm hd hs hj3 hq hinv y0 y3 hTw hZ
 have hbF:=hb.weaken (Z':=λ_=>True) λ_ _=>trivial
 have HB:=hdz (aiz h (aiz hn3 (aiz hT (aiz hbF (aiz hnb (aiz hnc (aiz hnil hkey)))))))
 have lK:=h.cellL.2.1
 obtain⟨w0,g,hw0,hg,hf0,lg,p0,p1,p2,p3,p4,p5,p6,p7,p8,p9,p10,p11⟩:=op_box w (i:Int) 10 (j:Int) c ci cr co k v dd key (.slice A nb cb)
 have lK0:=ltz lK hf0.size
 have HW:=hdz (aiz hw0 (aiz hg hf0))
 clear h hn3 hT hb hbF hw0 hg hf0 lK hnb hnil
 go_enter Tryz.func35,Tryz.ntmps35
 go_upto_region 1 with (fail)
 rw[←HW.out.1,←HW.out.2.1]
 have y0:=HW.out.2.2.cellAt HY.out.1 trivial
 have y3:=HW.out.2.2.cellAt HY.out.2 trivial
 have hd0:Hid (Fresh w0 w0.drew):=hdz ((krz _ w0).drew)
 have HS0:Hid (∀w',Fresh w0 w'→w'.cell? ⟨g,2,none⟩=some (.int .i64 (j:Int))∧w'.cell? ⟨K,j,none⟩=some (.pointer (some ⟨m,0,none⟩))):=hdz λw' hf=>⟨hf.cellAt p2 trivial,hf.cellAt y0 trivial⟩
 clear p3 p4 p5 p6 p7 p8 p9 p10 p11
 go_upto_region 15 with (fail)
 go_region_held3 (λw'=>w'.cell? ⟨g,2,none⟩=some (.int .i64 (j:Int))∧w'.cell? ⟨K,j,none⟩=some (.pointer (some ⟨m,0,none⟩))) (first | with_reducible exact HS0.out _ hfa | with_reducible exact HS0.out _ hd0.out)
  (first | (go_at_call 16;(with_reducible refine Calls.mono (H1.out _ (HW.out.2.2.trans hd0.out)) ?_);rintro e wa ⟨⟨v1,rfl,hv1⟩,hfx⟩;obtain⟨A1,q1,rfl,hr1,hc1,hnil1⟩:=own_openL hv1;have HV1:=hdz (aiz hv1 (aiz hr1 (aiz hc1 hnil1)));have hfa:=hd0.out.trans hfx;clear hv1 hr1 hc1 hnil1 hfx))
 all_goals
  have HFa:=hdz hfa
  have z0:=hfa.cellAt p0 trivial
  have z2:=hfa.cellAt p2 trivial
  have z3:=hfa.cellAt y3 trivial
  have lKa:=lt_of_cell z3
  have lga:=lt_of_cell z0
  have hd1:Hid (Fresh wa wa.drew):=hdz ((krz _ wa).drew)
  have HS1:Hid (∀w',Fresh wa w'→w'.cell? ⟨g,2,none⟩=some (.int .i64 (j:Int))∧w'.cell? ⟨K,3+j,none⟩=some (.pointer (some ⟨d,0,none⟩))):=hdz λw' hf=>⟨hf.cellAt z2 trivial,hf.cellAt z3 trivial⟩
  clear p0 p1 p2 y0 y3 hfa hd0 HS0 lg lK0
  go_upto_region 16 with (fail)
  go_region_held3 (λw'=>w'.cell? ⟨g,2,none⟩=some (.int .i64 (j:Int))∧w'.cell? ⟨K,3+j,none⟩=some (.pointer (some ⟨d,0,none⟩))) (first | with_reducible exact HS1.out _ hfb | with_reducible exact HS1.out _ hd1.out)
   (first | (go_at_call 59;(with_reducible refine Calls.mono (HD.out _ ((HW.out.2.2.trans HFa.out).trans hd1.out)) ?_);rintro e wb ⟨⟨v2,rfl,hv2⟩,hfx⟩;obtain⟨A2,q2,rfl,hr2,-,-⟩:=own_openL hv2;have HV2:=hdz hr2;have hfb:=hd1.out.trans hfx;clear hv2 hr2 hfx))
  all_goals
   have HFb:=hdz hfb
   have HSB:=hdz (samebytes_eq _ _ A1 A2 _ q1 q2 Z wb (HV1.out.2.1.keep (hfb.weaken λ_ _ _=>trivial)) HV2.out hZl)
   have u0:=hfb.cellAt z0 trivial
   have lgb:=lt_of_cell u0
   clear hfb z0 z2 z3 hd1 HS1 lKa lga
   go_wp2_with fail
   refine HSB.out.mono ?_
   rintro e wc ⟨rfl,hfc⟩
   have HFc:=hdz (HFb.out.trans hfc)
   have t0:=hfc.cellAt u0 trivial
   have lgc:=lt_of_cell t0
   have HC:=hdz (restored_yes HB.out.2.2.1 (((HB.out.1.fresh HW.out.2.2).fresh HFa.out).fresh HFc.out) HB.out.2.1 hi (HV1.out.2.1.keep (HFc.out.weaken λ_ _ _=>trivial)) (by omega) HV1.out.2.2.1 HV1.out.2.2.2 HRS.out)
   clear hfc HSB u0 lgb
   go_wp2_with fail
   refine HC.out.mono ?_
   rintro e w1 ⟨rfl,st1,hS⟩
   have HS:=hdz hS
   clear hS HC
   have HI:=hdz (intactP_any HB.out.2.2.1 HS.out.1)
   go_wp2_with fail
   refine HI.out.mono ?_
   rintro e wz ⟨rfl,hfz⟩
   have HZ:=hdz (HS.out.1.fresh hfz)
   clear hfz HI
   go_wp2_with fail
   go_ret
   exact⟨by first | rfl | trivial,st1,HZ.out,HS.out.2⟩
theorem step_any {W0 w:World} (hT:TabsN W0) {K:Nat} {st:PlSt} (h:PlayR W0 w K st) (hn3:st.n=3) (who kd n c ci cr co:Int) (k v dd key:Txt) {A:Option Addr} {nb cb:Nat} {bs:Txt} {Z:Nat→Prop} (hb:Rd w Z 1 A nb (Lib.byteCells bs)) (hnb:nb≤1099511626000) (hnc:nb≤cb) (hnil:nb=0→cb=0∨A≠none) (hkey:key.length≤1099511627000) :
 Calls Tryz.prog 35 #[.pointer (some ⟨K,0,none⟩),.agg #[.int .i64 who,.int .i64 kd,.int .i64 n,.int .i64 c,.int .i64 ci,.int .i64 cr,.int .i64 co,str k,str v,str dd,str key,.slice A nb cb]] w λe w'=>e=.returned (.bool true)∧∃st',PlayR W0 w' K st'∧st'.n=3:=by
 by_cases w1:who<0
 ·exact stepLo_any hT h hn3 who kd n c ci cr co k v dd key hb hnb hnc hnil hkey w1
 by_cases w2:2<who
 ·exact stepHi_any hT h hn3 who kd n c ci cr co k v dd key hb hnb hnc hnil hkey w2
 obtain⟨i,rfl⟩:∃i:Nat,who=(i:Int):=⟨who.toNat,by omega⟩
 have hi:i<3:=by omega
 by_cases e3:kd=3
 ·subst e3;exact step3_any hT h hn3 hi n c ci cr co k v dd key hb hnb hnc hnil hkey
 by_cases e5:kd=5
 ·subst e5;exact step5_any hT h hn3 hi n c ci cr co k v dd key hb hnb hnc hnil hkey
 by_cases e6:kd=6
 ·subst e6;exact step6_any hT h hn3 hi n c ci cr co k v dd key hb hnb hnc hnil hkey
 by_cases e9:kd=9
 ·subst e9;exact step9_any hT h hn3 hi n c ci cr co k v dd key hb hnb hnc hnil hkey
 by_cases e10:kd=10
 ·subst e10
  by_cases n1:n<0
  ·exact step10Lo_any hT h hn3 hi n c ci cr co k v dd key hb hnb hnc hnil hkey n1
  by_cases n2:2<n
  ·exact step10Hi_any hT h hn3 hi n c ci cr co k v dd key hb hnb hnc hnil hkey n2
  obtain⟨j,rfl⟩:∃j:Nat,n=(j:Int):=⟨n.toNat,by omega⟩
  exact step10_any hT h hn3 hi (by omega) 0 c ci cr co k v dd key hb hnb hnc hnil hkey
 by_cases e11:kd=11
 ·subst e11;exact step11_any hT h hn3 hi n c ci cr co k v dd key hb hnb hnc hnil hkey
 exact stepN_any hT h hn3 kd hi n c ci cr co k v dd key hb hnb hnc hnil hkey e3 e5 e6 e9 e10 e11
structure OpD where
 who:Int
 kd:Int
 n:Int
 c:Int
 ci:Int
 cr:Int
 co:Int
 k:Txt
 v:Txt
 dd:Txt
 key:Txt
 bA:Option Addr
 bn:Nat
 bc:Nat
 bs:Txt
def OpD.cells (o:OpD):List Value:=[.int .i64 o.who,.int .i64 o.kd,.int .i64 o.n,.int .i64 o.c,.int .i64 o.ci,.int .i64 o.cr,.int .i64 o.co,str o.k,str o.v,str o.dd,str o.key,.slice o.bA o.bn o.bc]
theorem op_twelve (o:OpD):o.cells.length=12:=rfl
structure OpOk (W:World)(o:OpD):Prop where
 rd:Rd W (λ_=>True) 1 o.bA o.bn (Lib.byteCells o.bs)
 nb:o.bn≤1099511626000
 nc:o.bn≤o.bc
 nil:o.bn=0→o.bc=0∨o.bA≠none
 key:o.key.length≤1099511627000
theorem Rd.opAt {W:World}{Z:Nat→Prop}{A:Option Addr}{n k:Nat}{os:List OpD}(h:Rd W Z 12 A n (rcells OpD.cells os))(hk:k<n):∃ (hl:k<os.length) (b o:Nat),A=some ⟨b,o,none⟩∧∀j u,j<12→os[k].cells[j]?=some u→W.cell? ⟨b,o+k*12+j,none⟩=some u:=by
 have h1:os.length*12=n*12:=by have:=h.1;rwa [rcells_len (f:=OpD.cells) (c:=12) op_twelve] at this
 have hl:k<os.length:=by omega
 obtain⟨b,o,hA,-,hc⟩:=h.2 (by omega)
 refine⟨hl,b,o,hA,λj u hj hu=>?_⟩
 have:=hc (k*12+j) u (by rw[rcells_get op_twelve os k hl j hj];exact hu)
 rwa [←Nat.add_assoc] at this
def begin0 (K:Nat):PlSt:=⟨⟨.pointer none,.pointer none,.pointer none,.pointer none,.pointer none,.pointer none,.slice none 0 0⟩,0,λ_=>0,λ_=>0,λ_=>.slice none 0 0,λ_=>.slice none 0 0,λ_=>[],λ_=>newD,λa k=>a=6∧k=K⟩
theorem begin_ok {W0 w:World} {K:Nat} (hf:Fresh W0 w) (hb:Blk w K 83 #[.pointer none,.pointer none,.pointer none,.pointer none,.pointer none,.pointer none,.slice none 0 0,.slice none 0 0,.int .i64 0,.slice none 0 0]) (hK:W0.heap.size≤K):PlayR W0 w K (begin0 K):=by
 refine⟨hf,by simp[begin0],λi hi=>absurd hi (Nat.not_lt_zero i),λi hi=>absurd hi (Nat.not_lt_zero i),λi hi=>absurd hi (Nat.not_lt_zero i),?_,?_,?_⟩
 ·exact⟨.slice none 0 0,0,[],⟨hb,onz _ _ _ _,by simp,by simp,by simp,by simp,by simp,⟨rfl,rfl⟩,by simp[Value.ownBlock],by simp⟩,by simp⟩
 ·exact⟨[],⟨onz _ _ _ _,by simp,by simp,by simp,by simp[begin0,Value.ownBlock],by simp⟩,by simp⟩
 ·refine⟨λa b ha hb hab k e1 e2=>?_,λa ha k e=>?_⟩
  ·exact hab (e1.1.trans e2.1.symm)
  ·rw[e.2];exact⟨hK,hb.lt⟩
theorem play_any {W0:World} (hT:TabsN W0) {Z:Nat→Prop} {A:Option Addr} {n cp:Nat} {os:List OpD} (hs:Rd W0 Z 12 A n (rcells OpD.cells os)) (hok:∀o∈os,OpOk W0 o) (hn:n≤1099511627000) (lo hi:Int) :
 Calls Tryz.prog 13 #[.slice A n cp,.int .i64 lo,.int .i64 hi] W0 λe w'=>e=.returned (.bool true)∧Fresh W0 w':=by
 have HB:=hdz (aiz hT (aiz (hs.weaken (Z':=λ_=>True) λ_ _=>trivial) hok))
 clear hT hs hok
 go_enter Tryz.func13,Tryz.ntmps13
 go_upto_region 2 with (fail)
 obtain⟨K,hK⟩:=exz (W0.heap.size)
 rw[←hK]
 obtain⟨w1,hw1⟩:=exz (W0.alloc (.cells #[.pointer none,.pointer none,.pointer none,.pointer none,.pointer none,.pointer none,.slice none 0 0,.slice none 0 0,.int .i64 0,.slice none 0 0] 83))
 rw[←hw1]
 have HP0:Hid (PlayR W0 w1 K (begin0 K)):=hdz (begin_ok (by rw[hw1];exact (krz _ W0).alloc _) (by rw[hw1];exact Blk.newAt hK.symm) (by omega))
 have HBg:=hdz (begun_any HP0.out rfl)
 clear hw1 hK
 go_wp2_with fail
 refine HBg.out.mono ?_
 rintro e w2 ⟨rfl,st2,hS2⟩
 have HS2:=hdz hS2
 clear hS2 HBg
 go_wp2_with fail
 go_loopw [8,9] (λwv iv wr=>∃ (k:Nat) (st:PlSt),k≤n∧wv=.bool true∧iv=.int .i64 (k:Int)∧Hid (PlayR W0 wr K st∧st.n=3)) (λ_ iv _=>n - (intOf iv).toNat)
 case atStart=>exact⟨0,st2,Nat.zero_le _,rfl,rfl,HS2.out⟩
 case round=>
  rename World=>wr
  obtain⟨k,st,hk,rfl,rfl,HR⟩:=hrel
  by_cases hlt:k<n
  ·have hli:(k:Int)<(n:Int):=by omega
   by_cases h300:k<300
   ·have h3i:(k:Int)<300:=by omega
    obtain⟨hl,b,o,rfl,hc⟩:=HB.out.2.1.opAt hlt
    have hf:=HR.out.1.fr
    obtain⟨x,hx⟩:=exz (os[k])
    rw[←hx] at hc
    have HO:=hdz (show OpOk W0 x from by rw[hx];exact HB.out.2.2 _ (List.getElem_mem hl))
    have hc':∀j u,j<12→x.cells[j]?=some u→wr.cell? ⟨b,o+k*12+j,none⟩=some u:=λj u hj hu=>hf.cellAt (hc j u hj hu) trivial
    have c0:=hc' 0 _ (by omega) rfl
    have c1:=hc' 1 _ (by omega) rfl
    have c2:=hc' 2 _ (by omega) rfl
    have c3:=hc' 3 _ (by omega) rfl
    have c4:=hc' 4 _ (by omega) rfl
    have c5:=hc' 5 _ (by omega) rfl
    have c6:=hc' 6 _ (by omega) rfl
    have c7:=hc' 7 _ (by omega) rfl
    have c8:=hc' 8 _ (by omega) rfl
    have c9:=hc' 9 _ (by omega) rfl
    have c10:=hc' 10 _ (by omega) rfl
    have c11:=hc' 11 _ (by omega) rfl
    rw[Nat.add_zero] at c0
    obtain⟨who,kd,nn,ca,ci,cr,co,kk,vv,dd,key,bA,bn,bc,bs⟩:=x
    simp only at c0 c1 c2 c3 c4 c5 c6 c7 c8 c9 c10 c11
    have lb:=lt_of_cell c0
    have HSt:=hdz (λwx (hfx:Fresh wr wx)=>step_any HB.out.1 (HR.out.1.fresh hfx) HR.out.2 who kd nn ca ci cr co kk vv dd key (HO.out.rd.keep (hf.trans hfx)) HO.out.nb HO.out.nc HO.out.nil HO.out.key)
    clear hf hx hl hc hc'
    go_wp2_with fail
    refine (HSt.out _ ((krz _ wr).alloc _)).mono ?_
    rintro e w3 ⟨rfl,st3,hS3⟩
    have y0:=(hS3.1.cellP (i:=0) (by rw[hS3.2];omega)).1
    have y1:=(hS3.1.cellP (i:=1) (by rw[hS3.2];omega)).1
    have y2:=(hS3.1.cellP (i:=2) (by rw[hS3.2];omega)).1
    have lK:=hS3.1.cellL.2.1
    have HS3:=hdz hS3
    clear hS3 HSt c0 c1 c2 c3 c4 c5 c6 c7 c8 c9 c10 c11 lb HO
    go_wp2_with fail
    exact⟨⟨k+1,st3,by omega,rfl,congrArg _ (by omega),HS3.out⟩,by simp[intOf];omega⟩
   ·have h3i:¬(k:Int)<300:=by omega
    have HSe:=hdz (settleP_any HB.out.1 HR.out.1 HR.out.2)
    go_wp2_with fail
    refine HSe.out.mono ?_
    rintro e w5 ⟨rfl,hf5⟩
    have HFi:=hdz (first_any (HB.out.1.fresh hf5))
    have HF5:=hdz hf5
    clear hf5 HSe
    go_wp2_with fail
    refine HFi.out.mono ?_
    rintro e w6 ⟨rfl,hf6⟩
    have HF6:=hdz (HF5.out.trans hf6)
    clear hf6 HFi
    go_wp2_with fail
    go_ret
    exact⟨by first | rfl | trivial,HF6.out⟩
  ·have hli:¬(k:Int)<(n:Int):=by omega
   have HSe:=hdz (settleP_any HB.out.1 HR.out.1 HR.out.2)
   go_wp2_with fail
   refine HSe.out.mono ?_
   rintro e w5 ⟨rfl,hf5⟩
   have HFi:=hdz (first_any (HB.out.1.fresh hf5))
   have HF5:=hdz hf5
   clear hf5 HSe
   go_wp2_with fail
   refine HFi.out.mono ?_
   rintro e w6 ⟨rfl,hf6⟩
   have HF6:=hdz (HF5.out.trans hf6)
   clear hf6 HFi
   go_wp2_with fail
   go_ret
   exact⟨by first | rfl | trivial,HF6.out⟩
end Go.Proofs.YtlibhkehebioeaaGreatDoor
