/- A PART OF THE PROOF. No condition. -/
import Derived.Test.YtlibhkehebioeaaGreatDoorP16
import Derived.Test.YtlibhkehebioeaaGreatDoorP20
import Derived.Test.YtlibhkehebioeaaGreatDoorP15
import Derived.Test.YtlibhkehebioeaaGreatDoorP11
namespace Go.Proofs.YtlibhkehebioeaaGreatDoor
set_option linter.unusedVariables false
set_option linter.unusedSimpArgs false
set_option maxRecDepth 100000
set_option maxHeartbeats 40000000
open Go.RowKit
theorem PlayR.apply2 {W0 w w2:World} {K:Nat} {st:PlSt} (h:PlayR W0 w K st) {i:Nat} (hi:i<st.n) {F F2:Nat→Prop} {s':StD} {pv hv:Value} {hs:List DLk} (hk:Keep (λj=>¬st.own i j∧¬st.own (3+i) j) w w2) (hm:MAt W0.heap.size w2 F (st.m i) s') (hF:∀j,F j→st.own i j∨w.heap.size≤j)
 (hd:DAt W0.heap.size F2 w2 (st.d i) pv hv hs s') (hF2:∀j,F2 j→st.own (3+i) j∨w.heap.size≤j) (hFF:∀j,F j→¬F2 j):∃st',PlayR W0 w2 K st'∧st'.n=st.n:=by
 have h3:=h.n3
 have hi8:i<8:=by omega
 have hi8':3+i<8:=by omega
 have hmin:=hd.min
 have hft:∀j,DFoot (st.d i) pv hv hs j→F2 j:=λj hj=>hd.footF hj
 have hlow:∀j,F2 j→W0.heap.size≤j:=λj hj=>by
  rcases hF2 j hj with h1 | h1
  ·exact (h.rg.bd _ hi8' j h1).1
  ·exact lez h.fr.size h1
 have hlt:∀j,DFoot (st.d i) pv hv hs j→j<w2.heap.size:=by
  rintro j (rfl | e | e | ⟨x,hx,e⟩)
  ·exact hd.blk.lt
  ·exact (own_lt hd.pr e).2
  ·exact (own_lt hd.lk e).2
  ·exact (own_lt (hd.qs x hx) e).2
 have r1:=h.rg.upd hk.size (i:=i) (F:=F) (λk e=>⟨hm.lo k e,hm.hi k e⟩) (h.rg.other hi8 hF)
 have r2:=r1.upd (lrz _) (i:=3+i) (F:=DFoot (st.d i) pv hv hs) (λk e=>⟨hlow k (hft k e),hlt k e⟩) (λk e a ha hne e2=>by
  by_cases hai:a=i
  ·subst hai
   rw[upd_same] at e2
   exact hFF k e2 (hft k e)
  ·rw[upd_ne _ _ hai] at e2
   exact h.rg.other hi8' hF2 k (hft k e) a ha hne e2)
 have nk:∀a,a<8→a≠i→a≠3+i→∀k,st.own a k→¬st.own i k∧¬st.own (3+i) k:=λa ha h1 h2 k e=>⟨λe2=>h.rg.dis a i ha hi8 h1 k e e2,λe2=>h.rg.dis a _ ha hi8' h2 k e e2⟩
 refine⟨{ st with pv:=upd st.pv i pv,hv:=upd st.hv i hv,hs:=upd st.hs i hs,s:=upd st.s i s',own:=upd (upd st.own i F) (3+i) (DFoot (st.d i) pv hv hs) },⟨?_,h.n3,h.mp,λa ha=>?_,λa ha=>?_,?_,?_,r2⟩,rfl⟩
 ·exact h.fr.comp hk (λ_ _ h=>h) (λj hj _=>⟨λe=>by have:=(h.rg.bd _ hi8 j e).1;omega,λe=>by have:=(h.rg.bd _ hi8' j e).1;omega⟩)
 ·have ha':a<st.n:=ha
  show MAt W0.heap.size w2 (upd (upd st.own i F) (3+i) (DFoot (st.d i) pv hv hs) a) (st.m a) (upd st.s i s' a)
  rw[upd_ne _ _ (show a≠3+i by omega)]
  by_cases e:a=i
  ·subst e
   rw[upd_same,upd_same]
   exact hm
  ·rw[upd_ne _ _ e,upd_ne _ _ e]
   exact (h.ma a ha).keep hk (nk a (by omega) e (by omega))
 ·show DAt W0.heap.size (upd (upd st.own i F) (3+i) (DFoot (st.d i) pv hv hs) (3+a)) w2 (st.d a) (upd st.pv i pv a) (upd st.hv i hv a) (upd st.hs i hs a) (upd st.s i s' a)
  have ha':a<st.n:=ha
  by_cases e:a=i
  ·subst e
   rw[upd_same,upd_same,upd_same,upd_same,upd_same]
   exact hmin
  ·rw[upd_ne _ _ (show 3+a≠3+i by omega),upd_ne _ _ (show 3+a≠i by omega),upd_ne _ _ e,upd_ne _ _ e,upd_ne _ _ e,upd_ne _ _ e]
   exact (h.da a ha).keep hk (nk (3+a) (by omega) (by omega) (by omega))
 ·show BookOk w2 st.hd W0.heap.size K (upd (upd st.own i F) (3+i) (DFoot (st.d i) pv hv hs) 6)
  rw[upd_ne _ _ (show 6≠3+i by omega),upd_ne _ _ (show 6≠i by omega)]
  exact h.bk.keep hk (nk 6 (by omega) (by omega) (by omega))
 ·show PagesOk w2 W0.heap.size (upd (upd st.own i F) (3+i) (DFoot (st.d i) pv hv hs) 7) st.hd.l
  rw[upd_ne _ _ (show 7≠3+i by omega),upd_ne _ _ (show 7≠i by omega)]
  exact h.pg.keep hk (nk 7 (by omega) (by omega) (by omega))
theorem inc_nonneg {s:StD}(h:Inv s):∀z∈s.ss,0≤z.inc:=λz hz=>by
 rcases h.ses z hz with e | e
 ·rw[e];decide
 ·have:=e.i0;omega
theorem asksG_any {W0 w:World}(hT:TabsN W0){K:Nat}{st:PlSt}(h:PlayR W0 w K st)(hn3:st.n=3){i:Nat}(hi:i<3)(n c ci cr co:Int)(k v dd key:Txt)(Ab:Option Addr)(nb cb:Nat)(hkey:key.length≤1099511627000) :
 Calls Tryz.prog 60 #[.pointer (some ⟨K,0,none⟩),.agg #[.int .i64 (i:Int),.int .i64 2,.int .i64 n,.int .i64 c,.int .i64 ci,.int .i64 cr,.int .i64 co,str k,str v,str dd,str key,.slice Ab nb cb]] w λe w'=>e=.returned (.bool true)∧∃st',PlayR W0 w' K st'∧st'.n=3:=by
 obtain⟨m,hm⟩:=exz (st.m i)
 obtain⟨d,hd⟩:=exz (st.d i)
 obtain⟨s,hs⟩:=exz (st.s i)
 have hi3:i<st.n:=by omega
 have hq:=h.pair hi3
 rw[←hm,←hd,←hs] at hq
 have hinv:=hq.ma.inv
 obtain⟨y0,y3⟩:=h.cellP hi3
 rw[←hm] at y0
 rw[←hd] at y3
 have lK:=h.cellL.2.1
 have H1:=hdz (λwx (hf:Fresh w wx)=>show Calls Tryz.prog 32 #[.pointer (some ⟨m,0,none⟩),str key] wx λe w'=>e=.returned (.tuple #[str ((pfind key s.pairs).getD []),.bool (pfind key s.pairs).isSome])∧Fresh wx w' from by have HQ:=hq.fresh hf;exact (mat_get HQ.ma key (by omega)).mono λ_ _ ⟨he,hw⟩=>⟨he,hw ▸ krz _ _⟩)
 have H2:=hdz (λwx (hf:Fresh w wx)=>show Calls Tryz.prog 97 #[.pointer (some ⟨d,0,none⟩),str key] wx λe w'=>e=.returned (.tuple #[str ((pfind key s.pairs).getD []),.bool (pfind key s.pairs).isSome])∧Fresh wx w' from by have HQ:=hq.fresh hf;exact (dget_any HQ.da key (by have:=HQ.ma.inv.pr.len;omega)).mono λ_ _ ⟨he,hw⟩=>⟨he,hw ▸ krz _ _⟩)
 obtain⟨w0,g,hw0,hg,hf0,lg,o0,o1,o2,o3,o4,o5,o6,o7,o8,o9,o10,o11⟩:=op_box w (i:Int) 2 n c ci cr co k v dd key (.slice Ab nb cb)
 replace y0:=hf0.cellAt y0 trivial
 replace y3:=hf0.cellAt y3 trivial
 have lK0:=ltz lK hf0.size
 have HW:=hdz (aiz hw0 (aiz hg hf0))
 have hi0:(i:Int)<3:=by omega
 have HB:=hdz (aiz h (aiz hn3 (aiz hT (aiz hq (aiz hm (aiz hd hs))))))
 clear h hn3 hT hm hd hs hi3 hq hinv hw0 hg hf0 lK
 go_enter Tryz.func60,Tryz.ntmps60
 go_upto_region 1 with (fail)
 rw[←HW.out.1,←HW.out.2.1]
 go_quiet (fail)
 go_upto_region 2 with (fail)
 go_quiet (fail)
 go_upto_region 7 with (fail)
 generalize hW:World.drewN w0 _=W
 have hfw:Fresh w0 W:=by rw[←hW];exact (krz _ w0).drewN _
 have HF0:=hdz (HW.out.2.2.trans hfw)
 have p10:=hfw.cellAt o10 trivial
 have lgW:=ltz lg hfw.size
 clear hW hfw y0 y3 lg lK0 o0 o1 o2 o3 o4 o5 o6 o7 o8 o9 o10 o11
 obtain⟨x1,hx1⟩:∃x,x=(pfind key s.pairs).getD []:=⟨_,rfl⟩
 obtain⟨x2,hx2⟩:∃x,x=(pfind key s.pairs).isSome:=⟨_,rfl⟩
 rw[←hx1,←hx2] at H1 H2
 go_wp2_with fail
 refine Calls.mono (H1.out W HF0.out) ?_
 rintro e wa ⟨rfl,hfa⟩
 have q10:=hfa.cellAt p10 trivial
 have lga:=ltz lgW hfa.size
 have HF1:=hdz (HF0.out.trans hfa)
 clear hfa p10
 go_wp2_with fail
 refine Calls.mono (H2.out _ (by first | exact HF1.out | exact HF1.out.alloc _)) ?_
 rintro e wb ⟨rfl,hfb⟩
 have HFb:=hdz hfb
 go_wp2_with fail
 go_ret
 exact⟨by first | rfl | trivial | simp,st,HB.out.1.fresh (HF1.out.trans HFb.out),HB.out.2.1⟩
theorem asksH_any {W0 w:World}(hT:TabsN W0){K:Nat}{st:PlSt}(h:PlayR W0 w K st)(hn3:st.n=3){i:Nat}(hi:i<3)(n c ci cr co:Int)(k v dd key:Txt)(Ab:Option Addr)(nb cb:Nat)(hkey:key.length≤1099511627000) :
 Calls Tryz.prog 60 #[.pointer (some ⟨K,0,none⟩),.agg #[.int .i64 (i:Int),.int .i64 4,.int .i64 n,.int .i64 c,.int .i64 ci,.int .i64 cr,.int .i64 co,str k,str v,str dd,str key,.slice Ab nb cb]] w λe w'=>e=.returned (.bool true)∧∃st',PlayR W0 w' K st'∧st'.n=3:=by
 obtain⟨m,hm⟩:=exz (st.m i)
 obtain⟨d,hd⟩:=exz (st.d i)
 obtain⟨s,hs⟩:=exz (st.s i)
 have hi3:i<st.n:=by omega
 have hq:=h.pair hi3
 rw[←hm,←hd,←hs] at hq
 have hinv:=hq.ma.inv
 obtain⟨y0,y3⟩:=h.cellP hi3
 rw[←hm] at y0
 rw[←hd] at y3
 have lK:=h.cellL.2.1
 have H1:=hdz (λwx (hf:Fresh w wx)=>show Calls Tryz.prog 26 #[.pointer (some ⟨m,0,none⟩),str key] wx λe w'=>e=.returned (.tuple #[.agg #[.int .i64 (holdD key s).1.1,.int .i64 (holdD key s).1.2.1,.int .i64 (holdD key s).1.2.2],.bool (holdD key s).2])∧Fresh wx w' from by have HQ:=hq.fresh hf;exact mat_holder HQ.ma key (by omega))
 have H2:=hdz (λwx (hf:Fresh w wx)=>show Calls Tryz.prog 98 #[.pointer (some ⟨d,0,none⟩),str key] wx λe w'=>e=.returned (.tuple #[.agg #[.int .i64 (holdD key s).1.1,.int .i64 (holdD key s).1.2.1,.int .i64 (holdD key s).1.2.2],.bool (holdD key s).2])∧Fresh wx w' from by have HQ:=hq.fresh hf;exact dholder_any HQ.da HQ.ma.inv.lk HQ.ma.inv.s16 key)
 obtain⟨w0,g,hw0,hg,hf0,lg,o0,o1,o2,o3,o4,o5,o6,o7,o8,o9,o10,o11⟩:=op_box w (i:Int) 4 n c ci cr co k v dd key (.slice Ab nb cb)
 replace y0:=hf0.cellAt y0 trivial
 replace y3:=hf0.cellAt y3 trivial
 have lK0:=ltz lK hf0.size
 have HW:=hdz (aiz hw0 (aiz hg hf0))
 have hi0:(i:Int)<3:=by omega
 have HB:=hdz (aiz h (aiz hn3 (aiz hT (aiz hq (aiz hm (aiz hd hs))))))
 clear h hn3 hT hm hd hs hi3 hq hinv hw0 hg hf0 lK
 go_enter Tryz.func60,Tryz.ntmps60
 go_upto_region 1 with (fail)
 rw[←HW.out.1,←HW.out.2.1]
 go_quiet (fail)
 go_upto_region 2 with (fail)
 go_quiet (fail)
 go_upto_region 11 with (fail)
 generalize hW:World.drewN w0 _=W
 have hfw:Fresh w0 W:=by rw[←hW];exact (krz _ w0).drewN _
 have HF0:=hdz (HW.out.2.2.trans hfw)
 have p10:=hfw.cellAt o10 trivial
 have lgW:=ltz lg hfw.size
 clear hW hfw y0 y3 lg lK0 o0 o1 o2 o3 o4 o5 o6 o7 o8 o9 o10 o11
 obtain⟨X,hX⟩:∃x,x=holdD key s:=⟨_,rfl⟩
 rw[←hX] at H1 H2
 obtain⟨⟨x1,x2,x3⟩,x4⟩:=X
 simp only at H1 H2
 clear hX
 go_wp2_with fail
 refine Calls.mono (H1.out W HF0.out) ?_
 rintro e wa ⟨rfl,hfa⟩
 have q10:=hfa.cellAt p10 trivial
 have lga:=ltz lgW hfa.size
 have HF1:=hdz (HF0.out.trans hfa)
 clear hfa p10
 go_wp2_with fail
 refine Calls.mono (H2.out _ (by first | exact HF1.out | exact HF1.out.alloc _)) ?_
 rintro e wb ⟨rfl,hfb⟩
 have hb1:=(Blk.new wa 56 #[.int .i64 x1,.int .i64 x2,.int .i64 x3]).keep hfb trivial
 have u0:=hb1.cell 0
 have u1:=hb1.cell 1
 have u2:=hb1.cell 2
 simp at u0 u1 u2
 have lg1:=hb1.lt
 have HFb:=hdz hfb
 clear hb1 hfb
 go_wp2_with fail
 go_ret
 exact⟨by first | rfl | trivial | simp,st,HB.out.1.fresh (by first | exact HF1.out.trans HFb.out | exact ((HF1.out.alloc _).trans HFb.out).alloc _),HB.out.2.1⟩
theorem asksS_any {W0 w:World}(hT:TabsN W0){K:Nat}{st:PlSt}(h:PlayR W0 w K st)(hn3:st.n=3){i:Nat}(hi:i<3)(n c ci cr co:Int)(k v dd key:Txt)(Ab:Option Addr)(nb cb:Nat)(hkey:key.length≤1099511627000) :
 Calls Tryz.prog 60 #[.pointer (some ⟨K,0,none⟩),.agg #[.int .i64 (i:Int),.int .i64 7,.int .i64 n,.int .i64 c,.int .i64 ci,.int .i64 cr,.int .i64 co,str k,str v,str dd,str key,.slice Ab nb cb]] w λe w'=>e=.returned (.bool true)∧∃st',PlayR W0 w' K st'∧st'.n=3:=by
 obtain⟨m,hm⟩:=exz (st.m i)
 obtain⟨d,hd⟩:=exz (st.d i)
 obtain⟨s,hs⟩:=exz (st.s i)
 have hi3:i<st.n:=by omega
 have hq:=h.pair hi3
 rw[←hm,←hd,←hs] at hq
 have hinv:=hq.ma.inv
 obtain⟨y0,y3⟩:=h.cellP hi3
 rw[←hm] at y0
 rw[←hd] at y3
 have lK:=h.cellL.2.1
 have H1:=hdz (λwx (hf:Fresh w wx)=>show Calls Tryz.prog 20 #[.pointer (some ⟨m,0,none⟩),.int .i64 n] wx λe w'=>e=.returned (.tuple #[.agg #[.int .i64 (sessD n s).1.inc,.int .i64 (sessD n s).1.req,.int .i64 (sessD n s).1.last.code,str (sessD n s).1.last.val,.int .i64 (sessD n s).1.last.n],.bool (sessD n s).2])∧Fresh wx w' from by have HQ:=hq.fresh hf;exact mat_session HQ.ma n)
 have H2:=hdz (λwx (hf:Fresh w wx)=>show Calls Tryz.prog 99 #[.pointer (some ⟨d,0,none⟩),.int .i64 n] wx λe w'=>e=.returned (.tuple #[.agg #[.int .i64 (sessD n s).1.inc,.int .i64 (sessD n s).1.req,.int .i64 (sessD n s).1.last.code,str (sessD n s).1.last.val,.int .i64 (sessD n s).1.last.n],.bool (sessD n s).2])∧Fresh wx w' from by have HQ:=hq.fresh hf;exact dsession_any HQ.da HQ.ma.inv.s16 (inc_nonneg HQ.ma.inv) n)
 obtain⟨w0,g,hw0,hg,hf0,lg,o0,o1,o2,o3,o4,o5,o6,o7,o8,o9,o10,o11⟩:=op_box w (i:Int) 7 n c ci cr co k v dd key (.slice Ab nb cb)
 replace y0:=hf0.cellAt y0 trivial
 replace y3:=hf0.cellAt y3 trivial
 have lK0:=ltz lK hf0.size
 have HW:=hdz (aiz hw0 (aiz hg hf0))
 have hi0:(i:Int)<3:=by omega
 have HB:=hdz (aiz h (aiz hn3 (aiz hT (aiz hq (aiz hm (aiz hd hs))))))
 clear h hn3 hT hm hd hs hi3 hq hinv hw0 hg hf0 lK
 go_enter Tryz.func60,Tryz.ntmps60
 go_upto_region 1 with (fail)
 rw[←HW.out.1,←HW.out.2.1]
 go_quiet (fail)
 go_upto_region 2 with (fail)
 go_quiet (fail)
 go_upto_region 15 with (fail)
 generalize hW:World.drewN w0 _=W
 have hfw:Fresh w0 W:=by rw[←hW];exact (krz _ w0).drewN _
 have HF0:=hdz (HW.out.2.2.trans hfw)
 have p2:=hfw.cellAt o2 trivial
 have lgW:=ltz lg hfw.size
 clear hW hfw y0 y3 lg lK0 o0 o1 o2 o3 o4 o5 o6 o7 o8 o9 o10 o11
 obtain⟨X,hX⟩:∃x,x=sessD n s:=⟨_,rfl⟩
 rw[←hX] at H1 H2
 obtain⟨⟨x1,x2,⟨x3,x5,x6⟩⟩,x4⟩:=X
 simp only at H1 H2
 clear hX
 go_wp2_with fail
 refine Calls.mono (H1.out W HF0.out) ?_
 rintro e wa ⟨rfl,hfa⟩
 have q2:=hfa.cellAt p2 trivial
 have lga:=ltz lgW hfa.size
 have HF1:=hdz (HF0.out.trans hfa)
 clear hfa p2
 go_wp2_with fail
 refine Calls.mono (H2.out _ (by first | exact HF1.out | exact HF1.out.alloc _)) ?_
 rintro e wb ⟨rfl,hfb⟩
 have hb1:=(Blk.new wa 41 #[.int .i64 x1,.int .i64 x2,.int .i64 x3,str x5,.int .i64 x6]).keep hfb trivial
 have u0:=hb1.cell 0
 have u1:=hb1.cell 1
 have u2:=hb1.cell 2
 have u3:=hb1.cell 3
 have u4:=hb1.cell 4
 simp at u0 u1 u2 u3 u4
 have lg1:=hb1.lt
 have HFb:=hdz hfb
 clear hb1 hfb
 go_wp2_with fail
 go_ret
 exact⟨by first | rfl | trivial | simp,st,HB.out.1.fresh (by first | exact HF1.out.trans HFb.out | exact ((HF1.out.alloc _).trans HFb.out).alloc _),HB.out.2.1⟩
theorem asksN_any {W0 w:World}(hT:TabsN W0){K:Nat}{st:PlSt}(h:PlayR W0 w K st)(hn3:st.n=3){i:Nat}(hi:i<3)(kd n c ci cr co:Int)(k v dd key:Txt)(Ab:Option Addr)(nb cb:Nat)(hkey:key.length≤1099511627000)(e1:kd≠1)(e2:kd≠2)(e4:kd≠4)(e7:kd≠7)(e8:kd≠8) :
 Calls Tryz.prog 60 #[.pointer (some ⟨K,0,none⟩),.agg #[.int .i64 (i:Int),.int .i64 kd,.int .i64 n,.int .i64 c,.int .i64 ci,.int .i64 cr,.int .i64 co,str k,str v,str dd,str key,.slice Ab nb cb]] w λe w'=>e=.returned (.bool true)∧∃st',PlayR W0 w' K st'∧st'.n=3:=by
 obtain⟨m,hm⟩:=exz (st.m i)
 obtain⟨d,hd⟩:=exz (st.d i)
 obtain⟨s,hs⟩:=exz (st.s i)
 have hi3:i<st.n:=by omega
 have hq:=h.pair hi3
 rw[←hm,←hd,←hs] at hq
 have hinv:=hq.ma.inv
 obtain⟨y0,y3⟩:=h.cellP hi3
 rw[←hm] at y0
 rw[←hd] at y3
 have lK:=h.cellL.2.1
 have c1:(kd==1)=false:=by simpa using e1
 have c2:(kd==2)=false:=by simpa using e2
 have c4:(kd==4)=false:=by simpa using e4
 have c7:(kd==7)=false:=by simpa using e7
 have c8:(kd==8)=false:=by simpa using e8
 clear e1 e2 e4 e7 e8
 obtain⟨w0,g,hw0,hg,hf0,lg,o0,o1,o2,o3,o4,o5,o6,o7,o8,o9,o10,o11⟩:=op_box w (i:Int) kd n c ci cr co k v dd key (.slice Ab nb cb)
 replace y0:=hf0.cellAt y0 trivial
 replace y3:=hf0.cellAt y3 trivial
 have lK0:=ltz lK hf0.size
 have HW:=hdz (aiz hw0 (aiz hg hf0))
 have hi0:(i:Int)<3:=by omega
 have HB:=hdz (aiz h (aiz hn3 (aiz hT (aiz hq (aiz hm (aiz hd hs))))))
 clear h hn3 hT hm hd hs hi3 hq hinv hw0 hg hf0 lK
 go_enter Tryz.func60,Tryz.ntmps60
 go_upto_region 1 with (fail)
 rw[←HW.out.1,←HW.out.2.1]
 go_quiet (fail)
 go_upto_region 2 with (fail)
 go_quiet (fail)
 go_wp2_with fail
 go_ret
 exact⟨by first | rfl | trivial | simp,st,HB.out.1.fresh (HW.out.2.2.drewN _),HB.out.2.1⟩
theorem asksA_any {W0 w:World} (hT:TabsN W0) {K:Nat} {st:PlSt} (h:PlayR W0 w K st) (hn3:st.n=3) {i:Nat} (hi:i<3) (n c ci cr co:Int) (k v dd key:Txt) (Ab:Option Addr) (nb cb:Nat) (hkey:key.length≤1099511627000) :
 Calls Tryz.prog 60 #[.pointer (some ⟨K,0,none⟩),.agg #[.int .i64 (i:Int),.int .i64 1,.int .i64 n,.int .i64 c,.int .i64 ci,.int .i64 cr,.int .i64 co,str k,str v,str dd,str key,.slice Ab nb cb]] w λe w'=>e=.returned (.bool true)∧∃st',PlayR W0 w' K st'∧st'.n=3:=by
 obtain⟨m,hm⟩:=exz (st.m i)
 obtain⟨d,hd⟩:=exz (st.d i)
 obtain⟨s,hs⟩:=exz (st.s i)
 have hi3:i<st.n:=by omega
 have hq:=h.pair hi3
 rw[←hm,←hd,←hs] at hq
 have hinv:=hq.ma.inv
 obtain⟨y0,y3⟩:=h.cellP hi3
 rw[←hm] at y0
 rw[←hd] at y3
 have lK:=h.cellL.2.1
 obtain⟨RS,hRS⟩:∃r,r=applyD c ci cr co k v dd s:=⟨_,rfl⟩
 obtain⟨⟨rc,rv,rn⟩,s'⟩:=RS
 have hsep:∀j,st.own i j→¬st.own (3+i) j:=λj e e2=>h.rg.dis i (3+i) (by omega) (by omega) (by omega) j e e2
 have hlo:∀a,a<8→∀j,st.own a j→W0.heap.size≤j:=λa ha j e=>(h.rg.bd a ha j e).1
 have H1:=hdz (fun (W wx:World) (hW:Fresh w W) (hk:Keep (λj=>¬st.own (3+i) j) W wx)=>show Calls Tryz.prog 17 #[.pointer (some ⟨m,0,none⟩),.agg #[.int .i64 c,.int .i64 ci,.int .i64 cr,.int .i64 co,str k,str v,str dd]] wx λe w'=>e=.returned (.agg #[.int .i64 rc,str rv,.int .i64 rn])∧(∃F',MAt W0.heap.size w' F' m s'∧∀j,F' j→st.own i j∨wx.heap.size≤j)∧Keep (λj=>¬st.own i j) wx w' from by
  have hfx:Fresh W0 wx:=(h.fr.trans hW).comp hk (λ_ _ h=>h) (λj hj _ e=>by have:=hlo _ (by omega) j e;omega)
  have hc:=mat_apply hT hfx ((hq.ma.fresh hW).keep hk hsep) c ci cr co k v dd
  rw[←hRS] at hc
  exact hc.mono λ_ _ ⟨he,hx,hk2,_⟩=>⟨he,hx,hk2⟩)
 have H2:=hdz (fun (W wx:World) (hW:Fresh w W) (hk:Keep (λj=>¬st.own i j) W wx)=>show Calls Tryz.prog 96 #[.pointer (some ⟨d,0,none⟩),.agg #[.int .i64 c,.int .i64 ci,.int .i64 cr,.int .i64 co,str k,str v,str dd]] wx λe w'=>e=.returned (.agg #[.int .i64 rc,str rv,.int .i64 rn])∧(∃pv hv hs F2,DAt W0.heap.size F2 w' d pv hv hs s'∧∀j,F2 j→st.own (3+i) j∨wx.heap.size≤j)∧Keep (λj=>¬st.own (3+i) j) wx w' from by
  have hfx:Fresh W0 wx:=(h.fr.trans hW).comp hk (λ_ _ h=>h) (λj hj _ e=>by have:=hlo _ (by omega) j e;omega)
  have hc:=dappl_any ((hq.da.fresh hW).keep hk (λj e e2=>hsep j e2 e)) hinv (λj e=>ltz (h.rg.bd _ (by omega) j e).2 (lez hW.size hk.size)) hfx.size (λw' hk'=>(hT.fresh (hfx.comp hk' (λ_ _ h=>h) (λj hj _ e=>by have:=hlo _ (by omega) j e;omega))).t) c ci cr co k v dd
  rw[←hRS] at hc
  exact hc.mono λ_ _ ⟨he,hx,hk2⟩=>⟨he,hx,hk2⟩)
 clear hRS
 obtain⟨w0,g,hw0,hg,hf0,lg,o0,o1,o2,o3,o4,o5,o6,o7,o8,o9,o10,o11⟩:=op_box w (i:Int) 1 n c ci cr co k v dd key (.slice Ab nb cb)
 replace y0:=hf0.cellAt y0 trivial
 replace y3:=hf0.cellAt y3 trivial
 have lK0:=ltz lK hf0.size
 have HW:=hdz (aiz hw0 (aiz hg hf0))
 have hi0:(i:Int)<3:=by omega
 have HB:=hdz (aiz h (aiz hn3 (aiz hT (aiz hq (aiz hm (aiz hd hs))))))
 clear h hn3 hT hm hd hs hi3 hq hinv hw0 hg hf0 lK
 go_enter Tryz.func60,Tryz.ntmps60
 go_upto_region 1 with (fail)
 rw[←HW.out.1,←HW.out.2.1]
 go_quiet (fail)
 go_upto_region 2 with (fail)
 go_quiet (fail)
 go_upto_region 5 with (fail)
 generalize hW:World.drewN w0 _=W
 have hfw:Fresh w0 W:=by rw[←hW];exact (krz _ w0).drewN _
 have HF0:=hdz (HW.out.2.2.trans hfw)
 have p3:=hfw.cellAt o3 trivial
 have p4:=hfw.cellAt o4 trivial
 have p5:=hfw.cellAt o5 trivial
 have p6:=hfw.cellAt o6 trivial
 have p7:=hfw.cellAt o7 trivial
 have p8:=hfw.cellAt o8 trivial
 have p9:=hfw.cellAt o9 trivial
 have lgW:=ltz lg hfw.size
 clear hW hfw y0 y3 lg lK0 o0 o1 o2 o3 o4 o5 o6 o7 o8 o9 o10 o11
 have hng:¬st.own i g∧¬st.own (3+i) g:=⟨HB.out.1.newer (by rw[HW.out.2.1];exact lrz _) i (by omega),HB.out.1.newer (by rw[HW.out.2.1];exact lrz _) (3+i) (by omega)⟩
 have HS:Hid (∀w',Keep (λj=>¬st.own i j∧¬st.own (3+i) j) W w'→w'.cell? ⟨g,3,none⟩=some (.int .i64 c)∧w'.cell? ⟨g,4,none⟩=some (.int .i64 ci)∧w'.cell? ⟨g,5,none⟩=some (.int .i64 cr)∧w'.cell? ⟨g,6,none⟩=some (.int .i64 co)∧w'.cell? ⟨g,7,none⟩=some (str k)∧w'.cell? ⟨g,8,none⟩=some (str v)∧w'.cell? ⟨g,9,none⟩=some (str dd)):=hdz λw' hf=>⟨hf.cellAt p3 hng,hf.cellAt p4 hng,hf.cellAt p5 hng,hf.cellAt p6 hng,hf.cellAt p7 hng,hf.cellAt p8 hng,hf.cellAt p9 hng⟩
 have hka:Keep (λj=>¬st.own i j∧¬st.own (3+i) j) W W.drew:=(krz _ W).drew
 have hkP:Keep (λj=>¬st.own i j) W W.drew:=(krz _ W).drew
 have hkQ:Keep (λj=>¬st.own (3+i) j) W W.drew:=(krz _ W).drew
 replace hka:=hdz hka
 replace hkP:=hdz hkP
 replace hkQ:=hdz hkQ
 clear p3 p4 p5 p6 p7 p8 p9 hng
 go_region_held3 (λw'=>w'.cell? ⟨g,3,none⟩=some (.int .i64 c)∧w'.cell? ⟨g,4,none⟩=some (.int .i64 ci)∧w'.cell? ⟨g,5,none⟩=some (.int .i64 cr)∧w'.cell? ⟨g,6,none⟩=some (.int .i64 co)∧w'.cell? ⟨g,7,none⟩=some (str k)∧w'.cell? ⟨g,8,none⟩=some (str v)∧w'.cell? ⟨g,9,none⟩=some (str dd))
  (first | with_reducible exact HS.out _ hka.out)
  (first
   | (go_at_call 17;(with_reducible refine Calls.mono (H1.out W _ HF0.out hkQ.out) ?_);rintro e wp ⟨rfl,⟨F1,hm1,hF1⟩,hkx⟩;have HP:=hdz (aiz hm1 (aiz hF1 hkx));replace hka:=hdz (hka.out.comp hkx (λ_ _ h=>h) (λ_ _ h=>h.1));(try replace hkP:=hdz (hkP.out.comp hkx (λ_ _ h=>h) (λ_ _ h=>h)));clear hm1 hF1 hkx)
   | (go_at_call 96;(with_reducible refine Calls.mono (H2.out W _ HF0.out hkP.out) ?_);rintro e wq ⟨rfl,⟨pv,hv,hs,F2,hd1,hF2⟩,hkx⟩;have HQ:=hdz (aiz hd1 (aiz hF2 hkx));replace hka:=hdz (hka.out.comp hkx (λ_ _ h=>h) (λ_ _ h=>h.2));(try replace hkQ:=hdz (hkQ.out.comp hkx (λ_ _ h=>h) (λ_ _ h=>h)));clear hd1 hF2 hkx))
 all_goals
  go_wp2_with fail
  go_ret
  obtain⟨h,hn3,hT,hq,hm,hd,-⟩:=HB.out
  obtain⟨hm1,hF1,hkx⟩:=HP.out
  obtain⟨hd1,hF2,hky⟩:=HQ.out
  have hW:=h.fresh HF0.out
  have hF1':∀j,F1 j→st.own i j∨W.heap.size≤j:=hF1
  have hsz:W.heap.size≤wp.heap.size:=hkx.size
  have hm2:=hm1.keep hky (λj e e2=>by
   rcases hF1' j e with h1 | h1
   ·exact hsep j h1 e2
   ·exact hW.newer h1 (3+i) (by omega) e2)
  rw[hm] at hm2
  rw[hd] at hd1
  obtain ⟨st',hp,hn⟩:=hW.apply2 (i:=i) (by omega) hka.out hm2 hF1' hd1 (λj e=>by
   rcases hF2 j e with h1 | h1
   ·exact .inl h1
   ·exact .inr (lez hsz h1)) (λj e e2=>by
   rcases hF2 j e2 with h1 | h1
   ·rcases hF1' j e with h2 | h2
    ·exact hsep j h2 h1
    ·exact hW.newer h2 (3+i) (by omega) h1
   ·have:=hm1.hi j e;omega)
  exact⟨by first | rfl | trivial | simp,st',hp,by rw[hn];exact hn3⟩
theorem asksP_any {W0 w:World} (hT:TabsN W0) {K:Nat} {st:PlSt} (h:PlayR W0 w K st) (hn3:st.n=3) {i:Nat} (hi:i<3) (n c ci cr co:Int) (k v dd key:Txt) (Ab:Option Addr) (nb cb:Nat) (hkey:key.length≤1099511627000) {j:Nat} (hj:j<3) (hmod:Int.tmod ((i:Int)+1) 3=(j:Int)) :
 Calls Tryz.prog 60 #[.pointer (some ⟨K,0,none⟩),.agg #[.int .i64 (i:Int),.int .i64 8,.int .i64 n,.int .i64 c,.int .i64 ci,.int .i64 cr,.int .i64 co,str k,str v,str dd,str key,.slice Ab nb cb]] w λe w'=>e=.returned (.bool true)∧∃st',PlayR W0 w' K st'∧st'.n=3:=by
 obtain⟨m,hm⟩:=exz (st.m i)
 obtain⟨d,hd⟩:=exz (st.d i)
 obtain⟨s,hs⟩:=exz (st.s i)
 have hi3:i<st.n:=by omega
 have hq:=h.pair hi3
 rw[←hm,←hd,←hs] at hq
 have hinv:=hq.ma.inv
 obtain⟨y0,y3⟩:=h.cellP hi3
 rw[←hm] at y0
 rw[←hd] at y3
 have lK:=h.cellL.2.1
 obtain⟨Z,hZ⟩:=exz (snapB s)
 have hZl:Z.length≤1000000:=by have:=snap_most hinv;rw[hZ];omega
 obtain⟨z0,-⟩:=h.cellP (i:=j) (by omega)
 obtain⟨mj,hmj⟩:=exz (st.m j)
 rw[←hmj] at z0
 have hqj:=h.ma j (by omega)
 rw[←hmj] at hqj
 have hTw:=hT.fresh h.fr
 have H1:=hdz (λwx (hf:Fresh w wx)=>show Calls Tryz.prog 16 #[.pointer (some ⟨m,0,none⟩)] wx λe w'=>(∃v,e=.returned v∧w'.ownsRow wx.heap.size 5 1 v Z.length (Lib.byteCells Z))∧Fresh wx w' from by have HQ:=hq.fresh hf;have hc:=mat_snap (hTw.fresh hf) HQ.ma;rw[←hZ] at hc;exact hc)
 have H2:=hdz (λwx (hf:Fresh w wx)=>show Calls Tryz.prog 16 #[.pointer (some ⟨mj,0,none⟩)] wx λe w'=>(∃v,e=.returned v)∧Fresh wx w' from (mat_snap (hTw.fresh hf) (hqj.fresh hf)).mono λ_ _ ⟨⟨v,he,_⟩,hf⟩=>⟨⟨v,he⟩,hf⟩)
 have HD:=hdz (λwx (hf:Fresh w wx)=>show Calls Tryz.prog 59 #[.pointer (some ⟨d,0,none⟩)] wx λe w'=>(∃v,e=.returned v∧w'.ownsRow wx.heap.size 5 1 v Z.length (Lib.byteCells Z))∧Fresh wx w' from by have HQ:=hq.fresh hf;have hc:=dsnap_any HQ.da hinv;rw[←hZ] at hc;exact hc)
 have Z0:=hdz z0
 clear hZ hqj hmj z0 hTw
 obtain⟨w0,g,hw0,hg,hf0,lg,o0,o1,o2,o3,o4,o5,o6,o7,o8,o9,o10,o11⟩:=op_box w (i:Int) 8 n c ci cr co k v dd key (.slice Ab nb cb)
 replace y0:=hf0.cellAt y0 trivial
 replace y3:=hf0.cellAt y3 trivial
 have lK0:=ltz lK hf0.size
 have HW:=hdz (aiz hw0 (aiz hg hf0))
 have hi0:(i:Int)<3:=by omega
 have HB:=hdz (aiz h (aiz hn3 (aiz hT (aiz hq (aiz hm (aiz hd hs))))))
 clear h hn3 hT hm hd hs hi3 hq hinv hw0 hg hf0 lK
 go_enter Tryz.func60,Tryz.ntmps60
 go_upto_region 1 with (fail)
 rw[←HW.out.1,←HW.out.2.1]
 go_quiet (fail)
 go_upto_region 2 with (fail)
 go_quiet (fail)
 go_upto_region 19 with (fail)
 generalize hW:World.drewN w0 _=W
 have hfw:Fresh w0 W:=by rw[←hW];exact (krz _ w0).drewN _
 have HF0:=hdz (HW.out.2.2.trans hfw)
 have p0:=hfw.cellAt o0 trivial
 have lgW:=ltz lg hfw.size
 clear hW hfw y0 y3 lg lK0 o0 o1 o2 o3 o4 o5 o6 o7 o8 o9 o10 o11
 have z0:W.cell? ⟨K,j,none⟩=some (.pointer (some ⟨mj,0,none⟩)):=HF0.out.cellAt Z0.out trivial
 go_wp2_with fail
 refine Calls.mono (H1.out W HF0.out) ?_
 rintro e wa ⟨⟨v1,rfl,hv1⟩,hfa⟩
 obtain⟨A1,q1,rfl,hr1,-⟩:=own_rd hv1
 have HV1:=hdz (aiz hv1 (aiz hr1 hfa))
 have HFa:=hdz (HF0.out.trans hfa)
 replace p0:=hfa.cellAt p0 trivial
 replace z0:=hfa.cellAt z0 trivial
 have lKa:=lt_of_cell z0
 have lga:=lt_of_cell p0
 clear hv1 hr1 hfa lgW
 have hd0:Hid (Fresh wa wa.drew):=hdz ((krz _ wa).drew)
 have HS:Hid (∀w',Fresh wa w'→w'.cell? ⟨g,0,none⟩=some (.int .i64 (i:Int))∧w'.cell? ⟨K,j,none⟩=some (.pointer (some ⟨mj,0,none⟩))):=hdz λw' hf=>⟨hf.cellAt p0 trivial,hf.cellAt z0 trivial⟩
 have hmod2:IntKind.i64.wrap (j:Int)=(j:Int):=by rw[IntKind.wrap_i64];omega
 have hmod3:IntKind.i64.wrap ((i:Int)+1)=(i:Int)+1:=by rw[IntKind.wrap_i64];omega
 have hj0:(j:Int)<3:=by omega
 go_upto_region 20 with (fail)
 refine wp_region_held_drew (S:=λw'=>w'.cell? ⟨g,0,none⟩=some (.int .i64 (i:Int))∧w'.cell? ⟨K,j,none⟩=some (.pointer (some ⟨mj,0,none⟩))) (by kernel_rfl) (HS.out _ hd0.out) (λhHeld=>?_)
 refine wpAnyH_take (i:=0) (v:=(.pointer (some ⟨K,0,none⟩))) rfl (by kernel_rfl) (by kernel_rfl) (by kernel_rfl) (λ_ _ _ h=>h) (Or.inl ⟨by rfl,by intro w hSw;go_simp⟩) hHeld ?_
 simp only[Act.put,zp1,zp2,zp3]
 refine wpAnyH_take (i:=1) (v:=(.pointer (some ⟨g,0,none⟩))) rfl (by kernel_rfl) (by kernel_rfl) (by kernel_rfl) (λ_ _ _ h=>h) (Or.inl ⟨by rfl,by intro w hSw;go_simp⟩) hHeld ?_
 simp only[Act.put,zp1,zp2,zp3]
 refine wpAnyH_take (i:=2) (v:=(.int .i64 (i:Int))) rfl (by kernel_rfl) (by kernel_rfl) (by kernel_rfl) (λ_ _ _ h=>h) (Or.inl ⟨by rfl,by intro w hSw;go_simp⟩) hHeld ?_
 simp only[Act.put,zp1,zp2,zp3]
 refine wpAnyH_take (i:=3) (v:=(.int .i64 ((i:Int)+1))) rfl (by kernel_rfl) (by kernel_rfl) (by kernel_rfl) (λ_ _ _ h=>h) (Or.inl ⟨by rfl,by intro w hSw;go_simp⟩) hHeld ?_
 simp only[Act.put,zp1,zp2,zp3]
 refine wpAnyH_take (i:=4) (v:=(.int .i64 (j:Int))) rfl (by kernel_rfl) (by kernel_rfl) (by kernel_rfl) (λ_ _ _ h=>h) (Or.inl ⟨by rfl,by intro w hSw;go_simp⟩) hHeld ?_
 simp only[Act.put,zp1,zp2,zp3]
 refine wpAnyH_take (i:=5) (v:=(.pointer (some ⟨K,0,none⟩))) rfl (by kernel_rfl) (by kernel_rfl) (by kernel_rfl) (λ_ _ _ h=>h) (Or.inl ⟨by rfl,by intro w hSw;go_simp⟩) hHeld ?_
 simp only[Act.put,zp1,zp2,zp3]
 refine wpAnyH_take (i:=6) (v:=(.pointer (some ⟨K,0,none⟩))) rfl (by kernel_rfl) (by kernel_rfl) (by kernel_rfl) (λ_ _ _ h=>h) (Or.inl ⟨by rfl,by intro w hSw;go_simp⟩) hHeld ?_
 simp only[Act.put,zp1,zp2,zp3]
 refine wpAnyH_take (i:=7) (v:=(.pointer (some ⟨K,j,none⟩))) rfl (by kernel_rfl) (by kernel_rfl) (by kernel_rfl) (λ_ _ _ h=>h) (Or.inl ⟨by rfl,by intro w hSw;go_simp⟩) hHeld ?_
 simp only[Act.put,zp1,zp2,zp3]
 refine wpAnyH_take (i:=8) (v:=(.pointer (some ⟨mj,0,none⟩))) rfl (by kernel_rfl) (by kernel_rfl) (by kernel_rfl) (λ_ _ _ h=>h) (Or.inl ⟨by rfl,by intro w hSw;go_simp⟩) hHeld ?_
 simp only[Act.put,zp1,zp2,zp3]
 refine wpAnyH_ready (rs:=[9]) (by kernel_rfl) (by simp) ?_
 refine AllReadyH.cons rfl (λKK hK=>?_) AllReadyH.nil
 go_simp
 refine Calls.mono (H2.out _ (HFa.out.trans hd0.out)) ?_
 rintro e wb ⟨⟨v0,rfl⟩,hfx⟩
 have hfb:=hdz (hd0.out.trans hfx)
 clear hfx
 refine hK.out _ _ (HS.out _ hfb.out) (λhHeld=>?_)
 clear hK KK
 try simp only[Act.put,zp1,zp2,zp3]
 clear hHeld
 refine wpAnyH_done (by kernel_rfl) ?_ _
 have HFb:=hdz (HFa.out.trans hfb.out)
 go_wp2_with fail
 refine Calls.mono (H1.out wb HFb.out) ?_
 rintro e wc ⟨⟨v2,rfl,hv2⟩,hfc⟩
 obtain⟨A2,q2,rfl,hr2,-⟩:=own_rd hv2
 have HV2:=hdz (aiz hv2 (aiz hr2 hfc))
 have HFc:=hdz (HFb.out.trans hfc)
 clear hv2 hr2 hfc
 go_wp2_with fail
 refine Calls.mono (HD.out wc HFc.out) ?_
 rintro e wd ⟨⟨v3,rfl,hv3⟩,hfd⟩
 obtain⟨A3,q3,rfl,hr3,-⟩:=own_rd hv3
 have HS1:=hdz (samebytes_eq _ _ A1 A3 _ q1 q3 Z wd (HV1.out.2.1.keep (((hfb.out.trans HV2.out.2.2).trans hfd).weaken (λ_ _ _=>trivial))) hr3 hZl)
 have HS2:=hdz (λwx (hx:Fresh wd wx)=>samebytes_eq _ _ A2 A3 _ q2 q3 Z wx (HV2.out.2.1.keep ((hfd.trans hx).weaken (λ_ _ _=>trivial))) (hr3.keep (hx.weaken (λ_ _ _=>trivial))) hZl)
 have HFd:=hdz hfd
 clear hv3 hr3 hfd
 go_wp2_with fail
 refine Calls.mono HS1.out ?_
 rintro e we ⟨rfl,hfe⟩
 have HFe:=hdz hfe
 clear hfe HS1
 go_wp2_with fail
 refine Calls.mono (HS2.out we HFe.out) ?_
 rintro e wf ⟨rfl,hff⟩
 have HFf:=hdz ((HFd.out.trans HFe.out).trans hff)
 clear hff HS2 HFe
 have hP:=HB.out.1.fresh (HFc.out.trans HFf.out)
 have hn1:∀k,(Value.slice A1 Z.length q1).ownBlock=some k→∀a,a<8→¬st.own a k:=λk e=>HB.out.1.newer (lez HF0.out.size (own_lt HV1.out.1 e).1)
 have hn2:∀k,(Value.slice A2 Z.length q2).ownBlock=some k→∀a,a<8→¬st.own a k:=λk e=>HB.out.1.newer (lez HFb.out.size (own_lt HV2.out.1 e).1)
 have hne:∀k,(Value.slice A1 Z.length q1).ownBlock=some k→(Value.slice A2 Z.length q2).ownBlock≠some k:=λk e e2=>by
  have h1:=(own_lt HV1.out.1 e).2
  have h2:=(own_lt HV2.out.1 e2).1
  have h3:=hfb.out.size
  omega
 have ho1:=own_base (own_keep HV1.out.1 ((hfb.out.trans HV2.out.2.2).trans HFf.out) λ_ _=>trivial) (lez HB.out.1.fr.size HF0.out.size)
 have ho2:=own_base (own_keep HV2.out.1 HFf.out λ_ _=>trivial) (lez HB.out.1.fr.size HFb.out.size)
 have HK:=hdz (bkeep_any st.hd W0.heap.size K (st.own 6) wf hP.bk (.slice A1 Z.length q1) Z ho1 (by omega) (λk e=>hn1 k e 6 (by omega)) hP.fr.size)
 have lK6:=hP.cellL.2.1
 have HX:=hdz (aiz hP (aiz hn1 (aiz hn2 (aiz hne (aiz ho1 ho2)))))
 clear hP hn1 hn2 hne ho1 ho2
 go_wp2_with fail
 refine Calls.mono HK.out ?_
 rintro e wg ⟨rfl,hbk,hkg⟩
 obtain ⟨st1,HP1⟩:∃st1,Hid (PlayR W0 wg K st1∧st1.n=3∧(∀k,(Value.slice A2 Z.length q2).ownBlock=some k→∀a,a<8→¬st1.own a k)∧wg.ownsRow W0.heap.size 5 1 (.slice A2 Z.length q2) Z.length (Lib.byteCells Z)):=by
  obtain⟨hP,hn1,hn2,hne,ho1,ho2⟩:=HX.out
  refine⟨_,hP.book (vs:=λk=>(Value.slice A1 Z.length q1).ownBlock=some k) (hkg.weaken λ_ _ h=>h.1) hbk (λk e=>by
   rcases e with e | e | e
   ·exact .inl e
   ·exact .inr (.inl e)
   ·exact .inr (.inr e.1)) (λk e=>⟨(own_lt ho1 e).1,(own_lt ho1 e).2,hn1 k e⟩),HB.out.2.1,λk e a ha e2=>?_,own_keep ho2 hkg λk e=>hn2 k e 6 (by omega)⟩
  by_cases h6:a=6
  ·subst h6
   have e3:upd st.own 6 _ 6 k:=e2
   rw[upd_same] at e3
   rcases e3.1 with e4 | e4 | e4
   ·exact hn2 k e 6 (by omega) e4
   ·exact hne k e4 e
   ·have h5:wf.heap.size≤k:=e4.1
    have:=(own_lt ho2 e).2
    omega
  ·have e3:upd st.own 6 _ a k:=e2
   rw[upd_ne _ _ h6] at e3
   exact hn2 k e a ha e3
 have HK2:=hdz (bwrite_any st1.hd W0.heap.size K (st1.own 6) wg HP1.out.1.bk (.slice A2 Z.length q2) Z HP1.out.2.2.2 (by omega) (λk e=>HP1.out.2.2.1 k e 6 (by omega)) HP1.out.1.fr.size)
 clear hbk hkg HK lK6
 have lK6:=HP1.out.1.cellL.2.1
 go_wp2_with fail
 refine Calls.mono HK2.out ?_
 rintro e wh ⟨rfl,hbk,hkg⟩
 obtain ⟨st2,HP2⟩:∃st2,Hid (PlayR W0 wh K st2∧st2.n=3):=by
  refine⟨_,HP1.out.1.book (vs:=λk=>(Value.slice A2 Z.length q2).ownBlock=some k) hkg hbk (λk e=>by
   rcases e with e | e | e
   ·exact .inl e
   ·exact .inr (.inl e)
   ·exact .inr (.inr e.1)) (λk e=>⟨(own_lt HP1.out.2.2.2 e).1,(own_lt HP1.out.2.2.2 e).2,HP1.out.2.2.1 k e⟩),HP1.out.2.1⟩
 clear hbk hkg HK2
 go_wp2_with fail
 go_ret
 exact⟨by first | rfl | trivial,st2,HP2.out⟩
theorem PlayR.cellAny {W0 w:World}{K:Nat}{st:PlSt}(h:PlayR W0 w K st){i:Nat}(hi:i<3):w.cell? ⟨K,i,none⟩=some (st.hd.p i)∧w.cell? ⟨K,3+i,none⟩=some (st.hd.d i)∧K<w.heap.size∧∀j,w.frozen? ⟨K,j,none⟩=false:=by
 obtain⟨V,nx,hb⟩:=h.bk.blkK
 rw[hb.cell,hb.cell,bookC_p hi,bookC_d hi]
 exact⟨rfl,rfl,hb.lt,λj=>hb.frozen j⟩
theorem PlayR.anew {W0 w w1 wd:World} {K:Nat} {st:PlSt} (h:PlayR W0 w K st) {i:Nat} (hi:i<3) (hin:i≤st.n) {m d:Nat} {F:Nat→Prop} (hf:Fresh w w1) (hm:MAt w.heap.size w1 F m newD)
 (hfd:Fresh (w1.setCell ⟨K,i,none⟩ (.pointer (some ⟨m,0,none⟩))) wd) (hd:DAt (w1.setCell ⟨K,i,none⟩ (.pointer (some ⟨m,0,none⟩))).heap.size (λj=>j=d) wd d (.slice none 0 0) (.slice none 0 0) [] newD) (hd0:(w1.setCell ⟨K,i,none⟩ (.pointer (some ⟨m,0,none⟩))).heap.size≤d) :
 ∃st',PlayR W0 (wd.setCell ⟨K,3+i,none⟩ (.pointer (some ⟨d,0,none⟩))) K st'∧st'.n=max st.n (i+1):=by
 have hs:(w1.setCell ⟨K,i,none⟩ (.pointer (some ⟨m,0,none⟩))).heap.size=w1.heap.size:=by simp[World.setCell]
 rw[hs] at hd hd0
 have h1:=h.fresh hf
 have h01:=h1.fr.size
 exact h1.place hi hin (hm.lower h.fr.size) (λj e a ha e2=>h.newer (hm.lo j e) a ha e2) hfd (hd.base h01) (λj e=>by
  subst e
  exact⟨lez h01 hd0,λe2=>by have:=hm.hi _ e2;omega,h1.newer hd0⟩)
theorem begun_any {W0 w:World} {K:Nat} {st:PlSt} (h:PlayR W0 w K st) (hn0:st.n=0) :
 Calls Tryz.prog 34 #[.pointer (some ⟨K,0,none⟩)] w λe w'=>e=.returned (.bool true)∧∃st',PlayR W0 w' K st'∧st'.n=3:=by
 have HB:=hdz (aiz h hn0)
 clear h hn0
 go_enter Tryz.func34,Tryz.ntmps34
 go_wp2
 go_loopw [3] (λi wr=>∃k:Nat,k≤3∧i=.int .i64 (k:Int)∧Hid (∃st,PlayR W0 wr K st∧st.n=k)) (λi _=>3 - (intOf i).toNat)
 case atStart=>exact⟨0,Nat.zero_le _,rfl,st,HB.out⟩
 case round=>
  rename World=>wr
  obtain⟨k,hk,rfl,HW⟩:=hrel
  obtain⟨st,h,hn⟩:=HW.out
  have HP:=hdz (aiz h hn)
  by_cases hlt:k<3
  ·have hk3:(k:Int)<3:=by omega
   obtain⟨y0,y3,lK,fK⟩:=h.cellAny hlt
   have f0:=fK k
   have HY:=hdz (aiz y3 (fK (3+k)))
   have hd0:Hid (Fresh wr wr.drew):=hdz ((krz _ wr).drew)
   have HN:=hdz (λwx=>mat_new wx)
   have HD:=hdz (λwx=>dnew_any wx)
   clear h hn y3 fK HW
   go_wp2_with fail
   go_region_held3 (λw'=>True) (trivial)
    (first | (go_at_call 14;(with_reducible refine Calls.mono (HN.out _) ?_);rintro e wa ⟨⟨m,F,rfl,hm⟩,hfb⟩;have hfa:=hd0.out.trans hfb;have c1:=hfa.cellAt y0 trivial;have f1:=(hfa.frozen (p:=⟨K,k,none⟩) lK trivial).trans f0;have lg:=lt_of_cell c1;have HM:=hdz (aiz hfa hm);clear hm hfb))
   all_goals
    go_wp2_with fail
    obtain⟨wb,hwb⟩:=exz (wa.setCell ⟨K,k,none⟩ (.pointer (some ⟨m,0,none⟩)))
    rw[←hwb]
    have h1:=HP.out.1.fresh HM.out.1
    obtain⟨V,nx,hbk⟩:=(h1.bk.head (u:=.pointer (some ⟨m,0,none⟩)) λV nx=>bookC_setP hlt).blkK
    rw[←hwb] at hbk
    have z3:=hbk.cell (3+k)
    rw[bookC_d hlt,setP_d hlt hlt] at z3
    have z0:=hbk.cell k
    rw[bookC_p hlt,setP_p hlt hlt,if_pos rfl] at z0
    have g3:=hbk.frozen (3+k)
    have lb:=hbk.lt
    have hd1:Hid (Fresh wb wb.drew):=hdz ((krz _ wb).drew)
    have HWb:=hdz hwb
    clear h1 hbk hwb c1 f1 lg y0 f0 hd0 HN
    go_region_held3 (λw'=>True) (trivial)
     (first | (go_at_call 56;(with_reducible refine Calls.mono (HD.out _) ?_);rintro e wd ⟨⟨d,rfl,hd,hd2,hd3⟩,hfb⟩;have hfe:=hd1.out.trans hfb;have e1:=hfe.cellAt z3 trivial;have e0:=hfe.cellAt z0 trivial;have g1:=(hfe.frozen (p:=⟨K,3+k,none⟩) lb trivial).trans g3;have ld:=lt_of_cell e1;have HE:=hdz (aiz hfe (aiz hd hd2));clear hd hd2 hd3 hfb))
    all_goals
     go_wp2_with fail
     obtain⟨wf,hwf⟩:=exz (wd.setCell ⟨K,3+k,none⟩ (.pointer (some ⟨d,0,none⟩)))
     rw[←hwf]
     obtain⟨st',hp',hn'⟩:∃st',PlayR W0 wf K st'∧st'.n=k+1:=by
      obtain⟨h,hn⟩:=HP.out
      obtain⟨hfe,hd,hd2⟩:=HE.out
      have hs:(World.drew wb).heap.size=wb.heap.size:=rfl
      rw[hs] at hd hd2
      rw[HWb.out] at hfe hd hd2
      obtain⟨st',hp',hn'⟩:=h.anew hlt (by omega) HM.out.1 (HM.out.2) hfe hd hd2
      rw[←hwf] at hp'
      exact⟨st',hp',by omega⟩
     have HF:=hdz (aiz hp' hn')
     exact⟨⟨k+1,by omega,congrArg _ (by omega),st',HF.out⟩,by simp[intOf];omega⟩
  ·obtain rfl:k=3:=by omega
   go_wp2_with fail
   go_ret
   exact⟨rfl,st,HP.out⟩
theorem loose_any (Z:Nat→Prop) (A:Option Addr) (n c:Nat) (bs:List UInt8) (w:World) (hb:Rd w Z 1 A n (Lib.byteCells bs)) (hn:n≤1099511627000) (hnil:n=0→c=0∨A≠none) :
 Calls Tryz.prog 88 #[.slice A n c] w λe w'=>(∃u,e=.returned u∧w'.ownsRow w.heap.size 5 1 u (n+64) (Lib.byteCells (bs++pats 7000000 64)))∧Fresh w w':=by
 have HB:=hdz hb
 have HN:=hdz (aiz hn hnil)
 clear hb hnil
 go_enter Tryz.func88,Tryz.ntmps88
 have hown:(w.alloc (.cells #[] 5)).ownsRow w.heap.size 5 1 (.slice (some ⟨w.heap.size,0,none⟩) 0 0) 0 []:=
  ⟨rfl,.inr ⟨w.heap.size,0,#[],rfl,lrz _,heap_alloc_new w _,lrz _,by simp only[maxLen];omega,rfl,rfl⟩⟩
 have HO:=hdz hown
 clear hown
 go_wp2_with (at_builtin;refine wpList_app etU8 rfl (.tmp 5) (.tmp 6) rfl w.heap.size _ _ _ rfl HO.out Z A n c _ rfl (HB.out.keep (((krz Z w).alloc _))) HN.out.2 (bcs_one _) (by have:=HN.out.1;omega) (by simp) ?_)
 intro v' w' ho hk hnx
 have hf:Fresh w w':=((krz _ w).alloc _).comp hk (λ_ _ h=>h) (λi hi _=>by simp[Value.ownBlock];omega)
 have HX:=hdz (aiz ho hf)
 clear ho hk hnx hf HO HB
 go_wp2
 go_loopw [3,4] (λtl i wr=>∃k:Nat,k≤64∧i=.int .i64 (k:Int)∧Hid (wr.ownsRow w.heap.size 5 1 tl (n+k) (Lib.byteCells (bs++pats 7000000 k))∧Fresh w wr)) (λ_ i _=>64 - (intOf i).toNat)
 case atStart=>exact⟨0,Nat.zero_le _,rfl,by rw[show bs++pats 7000000 0=bs by simp[pats]];exact HX.out⟩
 case round=>
  obtain⟨k,hk,rfl,HW⟩:=hrel
  by_cases hlt:k<64
  ·obtain⟨z,hz⟩:∃z:Int,z=((pat 7000000 k).toNat:Int):=⟨_,rfl⟩
   have HP:=Pat_any 7000000 k (by omega)
   rw[←hz] at HP
   replace HP:=hdz HP
   replace hz:=hdz hz
   go_wp2_with fail
   refine (HP.out _).mono ?_
   rintro e _ ⟨rfl,rfl⟩
   have HB:=hdz HW.out.2.size
   have HO:=hdz HW.out.1
   go_wp2_with (at_builtin;refine wpList_app1 etU8 rfl (.tmp 12) (.tmp 15) rfl _ _ rfl w.heap.size _ (n+k) _ rfl rfl HO.out ?_ HB.out ?_)
   case refine_1=>omega
   intro v1 w1 ho1 hk1 hn1
   have hrow:w1.ownsRow w.heap.size 5 1 v1 (n+(k+1)) (Lib.byteCells (bs++pats 7000000 (k+1))):=by
    rw[pats_succ,←List.append_assoc,Lib.byteCells_append]
    have e:Lib.byteCells [pat 7000000 k]=[.int .u8 z]:=by rw[hz.out];rfl
    rw[e]
    exact ho1
   have hfr:Fresh w w1:=HW.out.2.comp hk1 (λ_ _ h=>h) (λi hi _ e=>by have:=(own_lt HW.out.1 e).1;omega)
   have HN:=hdz (aiz hrow hfr)
   clear hrow hfr ho1 hk1 hn1 HW HP
   go_wp2
   exact⟨⟨k+1,by omega,congrArg _ (by omega),HN.out⟩,by simp[intOf];omega⟩
  ·obtain rfl:k=64:=by omega
   go_wp2
   go_ret
   exact⟨⟨_,rfl,HW.out.1⟩,HW.out.2⟩
theorem unspoilt_any (Z:Nat→Prop) (base g c1:Nat) (A:Option Addr) (n c:Nat) (bs:List UInt8) (w:World) (h1:w.ownsRow base 5 1 (.slice (some ⟨g,0,none⟩) (n+64) c1) (n+64) (Lib.byteCells (bs++pats 7000000 64)))
 (hb:Rd w Z 1 A n (Lib.byteCells bs)) (hn:n≤1099511627000) :
 Calls Tryz.prog 90 #[.slice (some ⟨g,0,none⟩) (n+64) c1,.slice A n c] w λe w'=>e=.returned (.bool true)∧∃k,w'=w.drewN k:=by
 have hl:bs.length=n:=by simpa[Lib.byteCells] using hb.1
 have HA:=hdz (aiz h1 (aiz hb hl))
 clear h1 hb hl
 go_enter Tryz.func90,Tryz.ntmps90
 go_wp2
 go_loopw [5] (λi wr=>∃k d:Nat,k≤n∧i=.int .i64 (k:Int)∧wr=w.drewN d) (λi _=>n - (intOf i).toNat)
 case atStart=>exact⟨0,0,Nat.zero_le _,rfl,rfl⟩
 case round=>
  obtain⟨k,d,hk,rfl,rfl⟩:=hrel
  by_cases hlt:k<n
  ·obtain⟨h1,hb,hl⟩:=HA.out
   obtain⟨b2,o2,z,rfl,-,g2,hz,x2⟩:=hb.byte hlt
   have x1:=own_byte (z:=z) (k:=k) h1 (by rw[lapz];omega) (by rw[hz,List.getElem_append_left g2])
   clear h1 hb hl hz g2
   go_wp2_with fail
   go_quiet (fail)
   go_wp2_with fail
   exact⟨⟨k+1,_,by omega,congrArg _ (by omega),rfl⟩,by simp[intOf];omega⟩
  ·go_wp2_with fail
   go_loopw [6] (λi wr=>∃k d:Nat,k≤64∧i=.int .i64 (k:Int)∧wr=w.drewN d) (λi _=>64 - (intOf i).toNat)
   case atStart=>exact⟨0,d,Nat.zero_le _,rfl,rfl⟩
   case round=>
    obtain⟨k3,d3,hk3,rfl,rfl⟩:=hrel
    by_cases hlt3:k3<64
    ·obtain⟨h1,hb,hl⟩:=HA.out
     obtain⟨z,hz⟩:∃z:Int,z=((pat 7000000 k3).toNat:Int):=⟨_,rfl⟩
     have HQ:=λm=>Pat_any 7000000 k3 (by omega) (w.drewN m)
     rw[←hz] at HQ
     replace HQ:=hdz HQ
     have x2:=own_byte (z:=z) (k:=n+k3) h1 (by rw[lapz,pats_len];omega) (by rw[hz,List.getElem_append_right (by omega)];rw[pats_get];congr 3;omega)
     clear h1 hb hl hz
     go_wp2_with fail
     go_quiet ((go_at_call 124;exact quiet_add_left (HQ.out _)))
     go_wp2_with fail
     exact⟨⟨k3+1,_,by omega,congrArg _ (by omega),rfl⟩,by simp[intOf];omega⟩
    ·go_wp2_with fail
     go_ret
     exact⟨rfl,_,rfl⟩
theorem PlayR.far {W0 w w':World}{K:Nat}{st:PlSt}{Z:Nat→Prop}(h:PlayR W0 w K st)(hk:Keep Z w w')(hz:∀a,a<8→∀k,st.own a k→Z k)(h0:∀k,k<W0.heap.size→Z k):PlayR W0 w' K st:=
 ⟨h.fr.comp hk (λ_ _ h=>h) (λk hk _=>h0 k hk),h.n3,h.mp,λi hi=>(h.ma i hi).keep hk (hz i (by have:=h.n3;omega)),λi hi=>(h.da i hi).keep hk (hz (3+i) (by have:=h.n3;omega)),h.bk.keep hk (hz 6 (by omega)),h.pg.keep hk (hz 7 (by omega)),h.rg.grow hk.size⟩
section
variable {Z0:Nat→Prop}{A:Option Addr}{n c:Nat}{bs:Txt}{w:World}{s:StD}
theorem rest_yes (hb:Rd w Z0 1 A n (Lib.byteCells bs)) (hn:n≤1099511627770) (hnc:n≤c) (hT:Nib w) (hs:Restored bs s) :
 Calls Tryz.prog 27 #[.slice A n c] w λe w'=>(∃m,e=.returned (.tuple #[.pointer (some ⟨m,0,none⟩),.int .i64 0])∧∃F,MAt w.heap.size w' F m s)∧Fresh w w':=
 (restore_any Z0 A n c bs w hb hn hnc hT).mono λe w' ⟨hf,hp⟩=>by
  rcases hp with ⟨s',F,m,hr,he,hm⟩ | ⟨hr,-⟩
  ·rw[restored_uniq hr hs] at hm
   exact⟨⟨m,he,F,hm⟩,hf⟩
  ·exact absurd hs (hr s)
theorem rest_no (hb:Rd w Z0 1 A n (Lib.byteCells bs)) (hn:n≤1099511627770) (hnc:n≤c) (hT:Nib w) (hs:∀s,¬Restored bs s) :
 Calls Tryz.prog 27 #[.slice A n c] w λe w'=>e=.returned (.tuple #[.pointer none,.int .i64 131])∧Fresh w w':=
 (restore_any Z0 A n c bs w hb hn hnc hT).mono λe w' ⟨hf,hp⟩=>by
  rcases hp with ⟨s',F,m,hr,he,hm⟩ | ⟨hr,he⟩
  ·exact absurd hr (hs s')
  ·exact⟨he,hf⟩
theorem drest_yes (hb:Rd w Z0 1 A n (Lib.byteCells bs)) (hn:n≤1099511627770) (hnc:n≤c) (hs:Restored bs s) :
 Calls Tryz.prog 89 #[.slice A n c] w λe w'=>(∃d,e=.returned (.tuple #[.pointer (some ⟨d,0,none⟩),.int .i64 0])∧∃pv hv hs,DAt w.heap.size (DFoot d pv hv hs) w' d pv hv hs s∧∀k,DFoot d pv hv hs k→w.heap.size≤k)∧Fresh w w':=
 (drestore_any Z0 A n c bs w hb hn hnc).mono λe w' ⟨hf,hp⟩=>by
  rcases hp with ⟨s',d,pv,hv,hs',hr,he,hd,hF⟩ | ⟨hr,-⟩
  ·rw[restored_uniq hr hs] at hd
   exact⟨⟨d,he,pv,hv,hs',hd,hF⟩,hf⟩
  ·exact absurd hs (hr s)
theorem drest_no' (hb:Rd w Z0 1 A n (Lib.byteCells bs)) (hn:n≤1099511627770) (hnc:n≤c) (hs:∀s,¬Restored bs s) :
 Calls Tryz.prog 89 #[.slice A n c] w λe w'=>e=.returned (.tuple #[.pointer none,.int .i64 131])∧Fresh w w':=
 (drestore_any Z0 A n c bs w hb hn hnc).mono λe w' ⟨hf,hp⟩=>by
  rcases hp with ⟨s',d,pv,hv,hs',hr,he,hd,hF⟩ | ⟨hr,he⟩
  ·exact absurd hr (hs s')
  ·exact⟨he,hf⟩
def Told (bs:Txt)(x:Int):Prop:=(x=0∧∃s,Restored bs s)∨(x=131∧∀s,¬Restored bs s)
theorem told_ex (bs:Txt):∃x,Told bs x:=by
 by_cases h:∃s,Restored bs s
 ·exact⟨0,.inl ⟨rfl,h⟩⟩
 ·exact⟨131,.inr ⟨rfl,λs hs=>h ⟨s,hs⟩⟩⟩
theorem rest_told {x:Int}(hb:Rd w Z0 1 A n (Lib.byteCells bs))(hn:n≤1099511627770)(hnc:n≤c)(hT:Nib w)(hx:Told bs x) :
 Calls Tryz.prog 27 #[.slice A n c] w λe w'=>(∃pv,e=.returned (.tuple #[.pointer pv,.int .i64 x]))∧Fresh w w':=by
 rcases hx with ⟨rfl,s,hs⟩ | ⟨rfl,hs⟩
 ·exact (rest_yes hb hn hnc hT hs).mono λe w' ⟨⟨m,he,_⟩,hf⟩=>⟨⟨_,he⟩,hf⟩
 ·exact (rest_no hb hn hnc hT hs).mono λe w' ⟨he,hf⟩=>⟨⟨_,he⟩,hf⟩
theorem drest_told {x:Int}(hb:Rd w Z0 1 A n (Lib.byteCells bs))(hn:n≤1099511627770)(hnc:n≤c)(hx:Told bs x) :
 Calls Tryz.prog 89 #[.slice A n c] w λe w'=>(∃pv,e=.returned (.tuple #[.pointer pv,.int .i64 x]))∧Fresh w w':=by
 rcases hx with ⟨rfl,s,hs⟩ | ⟨rfl,hs⟩
 ·exact (drest_yes hb hn hnc hs).mono λe w' ⟨⟨m,he,_⟩,hf⟩=>⟨⟨_,he⟩,hf⟩
 ·exact (drest_no' hb hn hnc hs).mono λe w' ⟨he,hf⟩=>⟨⟨_,he⟩,hf⟩
end
structure LooseAt (B:Nat)(w wr:World)(g n cp:Nat)(cs:Txt):Prop where
 len:cs.length=n
 row:wr.ownsRow B 5 1 (.slice (some ⟨g,0,none⟩) (n+64) cp) (n+64) (Lib.byteCells (cs++pats 7000000 64))
 kp:Keep (λj=>j≠g) w wr
theorem LooseAt.fresh {B:Nat}{w wr w':World}{g n cp:Nat}{cs:Txt}(h:LooseAt B w wr g n cp cs)(hf:Fresh wr w'):LooseAt B w w' g n cp cs:=⟨h.len,own_keep h.row hf λ_ _=>trivial,h.kp.comp hf (λ_ _ h=>h) (λ_ _ _=>trivial)⟩
theorem LooseAt.rd {B:Nat}{w wr:World}{g n cp:Nat}{cs:Txt}(h:LooseAt B w wr g n cp cs):Rd wr (λk=>(Value.slice (some ⟨g,0,none⟩) (n+64) cp).ownBlock=some k) 1 (some ⟨g,0,none⟩) n (Lib.byteCells cs):=by
 obtain⟨A,c,hv,hr,-⟩:=own_rd h.row
 injection hv with h1 h2 h3
 subst h1 h3
 have:=hr.front n (by omega)
 rwa [show (Lib.byteCells (cs++pats 7000000 64)).take n=Lib.byteCells cs by rw[show Lib.byteCells (cs++pats 7000000 64)=Lib.byteCells cs++Lib.byteCells (pats 7000000 64) by simp[Lib.byteCells],List.take_left' (by simp[Lib.byteCells,h.len])]] at this
def LooseAny (B:Nat)(w wr:World)(g n cp:Nat):Prop:=∃cs,LooseAt B w wr g n cp cs
theorem LooseAny.step {B:Nat}{w wr:World}{g n cp k:Nat}(h:LooseAny B w wr g n cp)(hk:k<n)(x y:Int):LooseAny B w (wr.setCell ⟨g,k,none⟩ (.int .u8 (bits .xor .u8 x y))) g n cp:=by
 obtain⟨cs,hl,hr,hkp⟩:=h
 obtain⟨c,hc⟩:=xor_u8 x y
 rw[hc]
 have hr2:=own_set hr (g:=g) rfl (i:=k) (by omega) (.int .u8 (c.toNat:Int))
 rw[byteCells_set,List.set_append_left _ _ (by omega)] at hr2
 exact⟨cs.set k c,by simpa using hl,hr2,hkp.setCell (λ_ h=>h rfl) _⟩
theorem own_openL {w:World}{base n:Nat}{u:Value}{xs:List Value}(h:w.ownsRow base 5 1 u n xs):∃A c,u=.slice A n c∧Rd w (λk=>u.ownBlock=some k) 1 A n xs∧n≤c∧(n=0→c=0∨A≠none):=by
 obtain⟨A,c,hu,hr,hnil⟩:=own_rd h
 refine⟨A,c,hu,hr,?_,hnil⟩
 rcases h.2 with ⟨hv,hn⟩ | ⟨g,cap,cur,hv,_,_,hnc,_⟩
 ·rw[hu] at hv;injection hv with _ h1 h2;omega
 ·rw[hu] at hv;injection hv with _ h1 h2;omega
theorem restored_no {W0 w:World} (hT:TabsN W0) {K:Nat} {st:PlSt} (h:PlayR W0 w K st) (hn3:st.n=3) {i:Nat} (hi:i<3) {Z:Nat→Prop} {A:Option Addr} {n c:Nat} {bs:Txt} (hb:Rd w Z 1 A n (Lib.byteCells bs)) (hn:n≤1099511626000) (hnc:n≤c) (hnil:n=0→c=0∨A≠none) (hs:∀s,¬Restored bs s) :
 Calls Tryz.prog 58 #[.pointer (some ⟨K,0,none⟩),.int .i64 (i:Int),.slice A n c] w λe w'=>e=.returned (.bool true)∧∃st',PlayR W0 w' K st'∧st'.n=3:=by
 have hbl:bs.length=n:=by simpa[Lib.byteCells] using hb.1
 have hb':=hb.weaken (Z':=λ_=>True) λ_ _=>trivial
 have HB:=hdz (aiz h (aiz hn3 (aiz hT (aiz hb' (aiz hn (aiz hnc (aiz hbl hs)))))))
 have HL:=hdz (loose_any Z A n c bs w hb (by omega) hnil)
 have lK:=h.cellL.2.1
 have hi0:(i:Int)<3:=by omega
 have hnn:(n:Int)≤1099511626000:=by omega
 clear h hn3 hT hb hnil hbl hs hb'
 go_enter Tryz.func58,Tryz.ntmps58
 go_wp2_with fail
 refine Calls.mono HL.out ?_
 rintro e w1 ⟨⟨u,rfl,hu⟩,hf1⟩
 obtain⟨g,cp,rfl,hg0,hg1,hcp⟩:=own_nonnil hu (by omega)
 have hcpi:(n:Int)≤(cp:Int):=by omega
 have HF1:=hdz hf1
 have HA1:Hid (LooseAt w.heap.size w1 w1 g n cp bs):=hdz ⟨HB.out.2.2.2.2.2.2.1,hu,krz _ _⟩
 have HG:=hdz (aiz hg0 (aiz hg1 hcp))
 have hTw:=HB.out.2.2.1.fresh HB.out.1.fr
 have HR1:=hdz (rest_no HA1.out.rd (by omega) (by omega:n≤cp) (hTw.fresh hf1).n HB.out.2.2.2.2.2.2.2)
 clear hu hf1 hg0 hg1 hcp hTw HL
 go_wp2_with fail
 refine Calls.mono HR1.out ?_
 rintro e w2 ⟨rfl,hf2⟩
 have HF2:=hdz (HF1.out.trans hf2)
 have HF12:=hdz hf2
 have HR2:=hdz (drest_no' (HB.out.2.2.2.1.keep HF2.out) (by omega) hnc HB.out.2.2.2.2.2.2.2)
 clear hf2 HR1
 go_wp2_with fail
 refine Calls.mono HR2.out ?_
 rintro e w3 ⟨rfl,hf3⟩
 have HF3:=hdz (HF2.out.trans hf3)
 have HF13:=hdz (HF12.out.trans hf3)
 have HF23:=hdz hf3
 have HU:=hdz (unspoilt_any _ w.heap.size g cp A n c bs w3 (HA1.out.fresh HF13.out).row (HB.out.2.2.2.1.keep HF3.out) (by omega))
 have HN:=hdz num_any
 clear hf3 HR2
 go_wp2_with fail
 refine Calls.mono (HN.out _ _) ?_
 rintro e _ ⟨rfl,rfl⟩
 go_wp2_with fail
 refine Calls.mono HU.out ?_
 rintro e w4 ⟨rfl,q4,rfl⟩
 obtain⟨w4,hw4⟩:=exz (w3.drewN q4)
 have HF34:Hid (Fresh w3 w4):=hdz (by rw[hw4];exact (krz _ w3).drewN _)
 rw[←hw4]
 have HA4:Hid (LooseAny w.heap.size w1 w4 g n cp):=hdz ⟨bs,HA1.out.fresh (HF13.out.trans HF34.out)⟩
 clear hw4 HU
 go_wp2_with fail
 go_loopw [13] (λiv wr=>∃k:Nat,k≤n∧iv=.int .i64 (k:Int)∧Hid (LooseAny w.heap.size w1 wr g n cp∧Keep (λj=>j≠g) w4 wr)) (λiv _=>n - (intOf iv).toNat)
 case atStart=>exact⟨0,Nat.zero_le _,rfl,HA4.out,krz _ _⟩
 case round=>
  rename World=>wr
  obtain⟨k,hk,rfl,HW⟩:=hrel
  by_cases hlt:k<n
  ·obtain⟨b,hb⟩:∃b:UInt8,wr.cell? ⟨g,k,none⟩=some (.int .u8 (b.toNat:Int)):=by
    obtain⟨⟨cs,hcs⟩,-⟩:=HW.out
    have hl:=hcs.len
    refine⟨cs[k],own_cell hcs.row (g:=g) rfl (j:=k) ?_⟩
    simp only[Lib.byteCells,List.map_append]
    rw[List.getElem?_append_left (by rw[List.length_map,hl];exact hlt)]
    simp[hl,hlt]
   have hfz:wr.frozen? ⟨g,k,none⟩=false:=by
    obtain⟨⟨cs,hcs⟩,-⟩:=HW.out
    exact own_frozen hcs.row k rfl
   have lg:=lt_of_cell hb
   have hki:(k:Int)<(n:Int):=by omega
   have hk64:(k:Int)<(n:Int)+64:=by omega
   go_wp2_with fail
   exact⟨⟨k+1,by omega,congrArg _ (by omega),hdz ⟨HW.out.1.step hlt _ _,HW.out.2.setCell (λ_ h=>h rfl) _⟩⟩,by simp[intOf];omega⟩
  ·obtain rfl:k=n:=by omega
   obtain⟨⟨cs,hcs⟩,hkr⟩:=HW.out
   obtain⟨x,hx⟩:=told_ex cs
   have HC:=hdz (copied_any _ (some ⟨g,0,none⟩) k cp cs wr hcs.rd (by omega) (λ_=>.inr (by simp)))
   have HX:=hdz (aiz hcs (aiz hkr hx))
   clear hcs hkr hx HW
   go_wp2_with fail
   refine Calls.mono HC.out ?_
   rintro e w5 ⟨⟨ut,rfl,hut⟩,hf5⟩
   obtain⟨At,ct,rfl,hrt,hct,-⟩:=own_openL hut
   have HA5:=hdz (HX.out.1.fresh hf5)
   have HF5:=hdz hf5
   have hW5:Fresh W0 w5:=(HB.out.1.fr.comp (((HF3.out.trans HF34.out).comp HX.out.2.1 (Y:=λj=>j≠g) (λ_ _ _=>trivial) (λ_ _ h=>h)).comp hf5 (λ_ _ h=>h) (λ_ _ _=>trivial)) (λ_ _ h=>h) (λj hj _=>by have:=HG.out.1;have:=HB.out.1.fr.size;omega))
   have HR5:=hdz (rest_told HA5.out.rd (by omega) (by omega:k≤cp) (HB.out.2.2.1.fresh hW5).n HX.out.2.2)
   have HT5:=hdz (aiz hut (aiz hrt (aiz hct hW5)))
   clear hut hrt hct hf5 hW5 HC
   go_wp2_with fail
   refine Calls.mono HR5.out ?_
   rintro e w6 ⟨⟨pv6,rfl⟩,hf6⟩
   have HF6:=hdz hf6
   have HR6:=hdz (drest_told (HT5.out.2.1.keep (hf6.weaken λ_ _ _=>trivial)) (by omega) HT5.out.2.2.1 HX.out.2.2)
   clear hf6 HR5
   go_wp2_with fail
   refine Calls.mono HR6.out ?_
   rintro e w7 ⟨⟨pv7,rfl⟩,hf7⟩
   have HF7:=hdz (HF6.out.trans hf7)
   have HU7:=hdz (unspoilt_any _ w.heap.size g cp At k ct cs w7 (HA5.out.fresh HF7.out).row (HT5.out.2.1.keep (HF7.out.weaken λ_ _ _=>trivial)) (by omega))
   clear hf7 HR6
   go_wp2_with fail
   refine Calls.mono (HN.out _ _) ?_
   rintro e _ ⟨rfl,rfl⟩
   go_wp2_with fail
   refine Calls.mono HU7.out ?_
   rintro e w8 ⟨rfl,q8,rfl⟩
   obtain⟨w8,hw8⟩:=exz (w7.drewN q8)
   rw[←hw8]
   have HF8:Hid (Fresh w5 w8):=hdz (HF7.out.trans (by rw[hw8];exact (krz _ w7).drewN _))
   have HA8:=hdz (HA5.out.fresh HF8.out)
   have hgo:∀a,a<8→¬st.own a g:=HB.out.1.newer HG.out.1
   have hk28:Keep (λj=>j≠g) w w8:=((((HF3.out.trans HF34.out).comp HX.out.2.1 (Y:=λj=>j≠g) (λ_ _ _=>trivial) (λ_ _ h=>h)).comp HF5.out (λ_ _ h=>h) (λ_ _ _=>trivial)).comp HF8.out (λ_ _ h=>h) (λ_ _ _=>trivial))
   have hP8:=HB.out.1.far hk28 (λa ha j e e2=>hgo a ha (e2 ▸ e)) (λj hj=>by have:=HG.out.1;have:=HB.out.1.fr.size;omega)
   have hvs:∀j,(Value.slice (some ⟨g,0,none⟩) (k+64) cp).ownBlock=some j→j=g:=λj e=>by simp[Value.ownBlock] at e;exact e.symm
   have hl8:(cs++pats 7000000 64).length=k+64:=by rw[lapz,pats_len,HA8.out.len]
   have HWr:=bwrite_any st.hd W0.heap.size K (st.own 6) w8 hP8.bk (.slice (some ⟨g,0,none⟩) (k+64) cp) (cs++pats 7000000 64) (by rw[hl8];exact own_base HA8.out.row HB.out.1.fr.size) (by rw[hl8];omega) (λj e=>by rw[hvs j e];exact hgo 6 (by omega)) hP8.fr.size
   replace HWr:=hdz HWr
   have lK8:=hP8.cellL.2.1
   have HP8:=hdz (aiz hP8 (aiz hgo (aiz hvs hk28)))
   clear hw8 hgo hk28 hP8 hvs hl8 HU7
   go_wp2_with fail
   refine Calls.mono HWr.out ?_
   rintro e w9 ⟨rfl,hbk9,hk9⟩
   have HS1:Hid (∃st1,PlayR W0 w9 K st1∧st1.n=3∧∀a,a<8→∀j,st1.own a j→st.own a j∨j=g∨w8.heap.size≤j):=by
    obtain⟨hP8,hgo,hvs,hk28⟩:=HP8.out
    refine⟨_,hP8.book (vs:=λj=>j=g) (hk9.weaken λj _ hj=>⟨hj.1,λe=>hj.2 (hvs j e)⟩) hbk9 (λj e=>by
     rcases e with e | e | e
     ·exact .inl e
     ·exact .inr (.inl (hvs j e))
     ·exact .inr (.inr e.1)) (λj e=>by
     subst e
     exact⟨lez HB.out.1.fr.size HG.out.1,ltz HG.out.2.1 (lez HX.out.1.kp.size (lez HF5.out.size HF8.out.size)),hgo⟩),HB.out.2.1,λa ha j e=>?_⟩
    by_cases h6:a=6
    ·subst h6
     have e3:upd st.own 6 _ 6 j:=e
     rw[upd_same] at e3
     rcases e3.1 with e4 | e4 | e4
     ·exact .inl e4
     ·exact .inr (.inl (hvs j e4))
     ·exact .inr (.inr e4.1)
    ·have e3:upd st.own 6 _ a j:=e
     rw[upd_ne _ _ h6] at e3
     exact .inl e3
   clear hbk9 hk9 HWr lK8
   go_wp2_with fail
   go_ret
   obtain⟨st1,hp,hn1,-⟩:=HS1.out
   exact⟨by first | rfl | trivial,st1,hp,hn1⟩
theorem restored_yes {W0 w:World} (hT:TabsN W0) {K:Nat} {st:PlSt} (h:PlayR W0 w K st) (hn3:st.n=3) {i:Nat} (hi:i<3) {Z:Nat→Prop} {A:Option Addr} {n c:Nat} {bs:Txt} (hb:Rd w Z 1 A n (Lib.byteCells bs)) (hn:n≤1099511626000) (hnc:n≤c) (hnil:n=0→c=0∨A≠none) {s:StD} (hs:Restored bs s) :
 Calls Tryz.prog 58 #[.pointer (some ⟨K,0,none⟩),.int .i64 (i:Int),.slice A n c] w λe w'=>e=.returned (.bool true)∧∃st',PlayR W0 w' K st'∧st'.n=3:=by
 have hbl:bs.length=n:=by simpa[Lib.byteCells] using hb.1
 have hb':=hb.weaken (Z':=λ_=>True) λ_ _=>trivial
 have HB:=hdz (aiz h (aiz hn3 (aiz hT (aiz hb' (aiz hn (aiz hnc (aiz hbl hs)))))))
 have HL:=hdz (loose_any Z A n c bs w hb (by omega) hnil)
 have lK:=h.cellL.2.1
 have hi0:(i:Int)<3:=by omega
 have hnn:(n:Int)≤1099511626000:=by omega
 clear h hn3 hT hb hnil hbl hs hb'
 go_enter Tryz.func58,Tryz.ntmps58
 go_wp2_with fail
 refine Calls.mono HL.out ?_
 rintro e w1 ⟨⟨u,rfl,hu⟩,hf1⟩
 obtain⟨g,cp,rfl,hg0,hg1,hcp⟩:=own_nonnil hu (by omega)
 have hcpi:(n:Int)≤(cp:Int):=by omega
 have HF1:=hdz hf1
 have HA1:Hid (LooseAt w.heap.size w1 w1 g n cp bs):=hdz ⟨HB.out.2.2.2.2.2.2.1,hu,krz _ _⟩
 have HG:=hdz (aiz hg0 (aiz hg1 hcp))
 have hTw:=HB.out.2.2.1.fresh HB.out.1.fr
 have HR1:=hdz (rest_yes HA1.out.rd (by omega) (by omega:n≤cp) (hTw.fresh hf1).n HB.out.2.2.2.2.2.2.2)
 clear hu hf1 hg0 hg1 hcp hTw HL
 go_wp2_with fail
 refine Calls.mono HR1.out ?_
 rintro e w2 ⟨⟨m,rfl,F,hm⟩,hf2⟩
 have HF2:=hdz (HF1.out.trans hf2)
 have HF12:=hdz hf2
 have HM:=hdz hm
 clear hm
 have HR2:=hdz (drest_yes (HB.out.2.2.2.1.keep HF2.out) (by omega) hnc HB.out.2.2.2.2.2.2.2)
 clear hf2 HR1
 go_wp2_with fail
 refine Calls.mono HR2.out ?_
 rintro e w3 ⟨⟨d,rfl,pv,hv,hs,hd,hF⟩,hf3⟩
 have HD:=hdz (aiz hd hF)
 clear hd hF
 have HF3:=hdz (HF2.out.trans hf3)
 have HF13:=hdz (HF12.out.trans hf3)
 have HF23:=hdz hf3
 have HU:=hdz (unspoilt_any _ w.heap.size g cp A n c bs w3 (HA1.out.fresh HF13.out).row (HB.out.2.2.2.1.keep HF3.out) (by omega))
 have HN:=hdz num_any
 clear hf3 HR2
 go_wp2_with fail
 refine Calls.mono (HN.out _ _) ?_
 rintro e _ ⟨rfl,rfl⟩
 go_wp2_with fail
 refine Calls.mono HU.out ?_
 rintro e w4 ⟨rfl,q4,rfl⟩
 obtain⟨w4,hw4⟩:=exz (w3.drewN q4)
 have HF34:Hid (Fresh w3 w4):=hdz (by rw[hw4];exact (krz _ w3).drewN _)
 rw[←hw4]
 have HA4:Hid (LooseAny w.heap.size w1 w4 g n cp):=hdz ⟨bs,HA1.out.fresh (HF13.out.trans HF34.out)⟩
 clear hw4 HU
 go_wp2_with fail
 go_loopw [13] (λiv wr=>∃k:Nat,k≤n∧iv=.int .i64 (k:Int)∧Hid (LooseAny w.heap.size w1 wr g n cp∧Keep (λj=>j≠g) w4 wr)) (λiv _=>n - (intOf iv).toNat)
 case atStart=>exact⟨0,Nat.zero_le _,rfl,HA4.out,krz _ _⟩
 case round=>
  rename World=>wr
  obtain⟨k,hk,rfl,HW⟩:=hrel
  by_cases hlt:k<n
  ·obtain⟨b,hb⟩:∃b:UInt8,wr.cell? ⟨g,k,none⟩=some (.int .u8 (b.toNat:Int)):=by
    obtain⟨⟨cs,hcs⟩,-⟩:=HW.out
    have hl:=hcs.len
    refine⟨cs[k],own_cell hcs.row (g:=g) rfl (j:=k) ?_⟩
    simp only[Lib.byteCells,List.map_append]
    rw[List.getElem?_append_left (by rw[List.length_map,hl];exact hlt)]
    simp[hl,hlt]
   have hfz:wr.frozen? ⟨g,k,none⟩=false:=by
    obtain⟨⟨cs,hcs⟩,-⟩:=HW.out
    exact own_frozen hcs.row k rfl
   have lg:=lt_of_cell hb
   have hki:(k:Int)<(n:Int):=by omega
   have hk64:(k:Int)<(n:Int)+64:=by omega
   go_wp2_with fail
   exact⟨⟨k+1,by omega,congrArg _ (by omega),hdz ⟨HW.out.1.step hlt _ _,HW.out.2.setCell (λ_ h=>h rfl) _⟩⟩,by simp[intOf];omega⟩
  ·obtain rfl:k=n:=by omega
   obtain⟨⟨cs,hcs⟩,hkr⟩:=HW.out
   obtain⟨x,hx⟩:=told_ex cs
   have HC:=hdz (copied_any _ (some ⟨g,0,none⟩) k cp cs wr hcs.rd (by omega) (λ_=>.inr (by simp)))
   have HX:=hdz (aiz hcs (aiz hkr hx))
   clear hcs hkr hx HW
   go_wp2_with fail
   refine Calls.mono HC.out ?_
   rintro e w5 ⟨⟨ut,rfl,hut⟩,hf5⟩
   obtain⟨At,ct,rfl,hrt,hct,-⟩:=own_openL hut
   have HA5:=hdz (HX.out.1.fresh hf5)
   have HF5:=hdz hf5
   have hW5:Fresh W0 w5:=(HB.out.1.fr.comp (((HF3.out.trans HF34.out).comp HX.out.2.1 (Y:=λj=>j≠g) (λ_ _ _=>trivial) (λ_ _ h=>h)).comp hf5 (λ_ _ h=>h) (λ_ _ _=>trivial)) (λ_ _ h=>h) (λj hj _=>by have:=HG.out.1;have:=HB.out.1.fr.size;omega))
   have HR5:=hdz (rest_told HA5.out.rd (by omega) (by omega:k≤cp) (HB.out.2.2.1.fresh hW5).n HX.out.2.2)
   have HT5:=hdz (aiz hut (aiz hrt (aiz hct hW5)))
   clear hut hrt hct hf5 hW5 HC
   go_wp2_with fail
   refine Calls.mono HR5.out ?_
   rintro e w6 ⟨⟨pv6,rfl⟩,hf6⟩
   have HF6:=hdz hf6
   have HR6:=hdz (drest_told (HT5.out.2.1.keep (hf6.weaken λ_ _ _=>trivial)) (by omega) HT5.out.2.2.1 HX.out.2.2)
   clear hf6 HR5
   go_wp2_with fail
   refine Calls.mono HR6.out ?_
   rintro e w7 ⟨⟨pv7,rfl⟩,hf7⟩
   have HF7:=hdz (HF6.out.trans hf7)
   have HU7:=hdz (unspoilt_any _ w.heap.size g cp At k ct cs w7 (HA5.out.fresh HF7.out).row (HT5.out.2.1.keep (HF7.out.weaken λ_ _ _=>trivial)) (by omega))
   clear hf7 HR6
   go_wp2_with fail
   refine Calls.mono (HN.out _ _) ?_
   rintro e _ ⟨rfl,rfl⟩
   go_wp2_with fail
   refine Calls.mono HU7.out ?_
   rintro e w8 ⟨rfl,q8,rfl⟩
   obtain⟨w8,hw8⟩:=exz (w7.drewN q8)
   rw[←hw8]
   have HF8:Hid (Fresh w5 w8):=hdz (HF7.out.trans (by rw[hw8];exact (krz _ w7).drewN _))
   have HA8:=hdz (HA5.out.fresh HF8.out)
   have hgo:∀a,a<8→¬st.own a g:=HB.out.1.newer HG.out.1
   have hk28:Keep (λj=>j≠g) w w8:=((((HF3.out.trans HF34.out).comp HX.out.2.1 (Y:=λj=>j≠g) (λ_ _ _=>trivial) (λ_ _ h=>h)).comp HF5.out (λ_ _ h=>h) (λ_ _ _=>trivial)).comp HF8.out (λ_ _ h=>h) (λ_ _ _=>trivial))
   have hP8:=HB.out.1.far hk28 (λa ha j e e2=>hgo a ha (e2 ▸ e)) (λj hj=>by have:=HG.out.1;have:=HB.out.1.fr.size;omega)
   have hvs:∀j,(Value.slice (some ⟨g,0,none⟩) (k+64) cp).ownBlock=some j→j=g:=λj e=>by simp[Value.ownBlock] at e;exact e.symm
   have hl8:(cs++pats 7000000 64).length=k+64:=by rw[lapz,pats_len,HA8.out.len]
   have HWr:=bwrite_any st.hd W0.heap.size K (st.own 6) w8 hP8.bk (.slice (some ⟨g,0,none⟩) (k+64) cp) (cs++pats 7000000 64) (by rw[hl8];exact own_base HA8.out.row HB.out.1.fr.size) (by rw[hl8];omega) (λj e=>by rw[hvs j e];exact hgo 6 (by omega)) hP8.fr.size
   replace HWr:=hdz HWr
   have lK8:=hP8.cellL.2.1
   have HP8:=hdz (aiz hP8 (aiz hgo (aiz hvs hk28)))
   clear hw8 hgo hk28 hP8 hvs hl8 HU7
   go_wp2_with fail
   refine Calls.mono HWr.out ?_
   rintro e w9 ⟨rfl,hbk9,hk9⟩
   have HS1:Hid (∃st1,PlayR W0 w9 K st1∧st1.n=3∧∀a,a<8→∀j,st1.own a j→st.own a j∨j=g∨w8.heap.size≤j):=by
    obtain⟨hP8,hgo,hvs,hk28⟩:=HP8.out
    refine⟨_,hP8.book (vs:=λj=>j=g) (hk9.weaken λj _ hj=>⟨hj.1,λe=>hj.2 (hvs j e)⟩) hbk9 (λj e=>by
     rcases e with e | e | e
     ·exact .inl e
     ·exact .inr (.inl (hvs j e))
     ·exact .inr (.inr e.1)) (λj e=>by
     subst e
     exact⟨lez HB.out.1.fr.size HG.out.1,ltz HG.out.2.1 (lez HX.out.1.kp.size (lez HF5.out.size HF8.out.size)),hgo⟩),HB.out.2.1,λa ha j e=>?_⟩
    by_cases h6:a=6
    ·subst h6
     have e3:upd st.own 6 _ 6 j:=e
     rw[upd_same] at e3
     rcases e3.1 with e4 | e4 | e4
     ·exact .inl e4
     ·exact .inr (.inl (hvs j e4))
     ·exact .inr (.inr e4.1)
    ·have e3:upd st.own 6 _ a j:=e
     rw[upd_ne _ _ h6] at e3
     exact .inl e3
   obtain⟨st1,hS⟩:=HS1.out
   have HS:=hdz hS
   have hK19:Keep (λj=>j≠g∧¬st.own 6 j) w3 w9:=by
    obtain⟨hP8,hgo,hvs,hk28⟩:=HP8.out
    have h38:Keep (λj=>j≠g) w3 w8:=((HF34.out.comp HX.out.2.1 (Y:=λj=>j≠g) (λ_ _ _=>trivial) (λ_ _ h=>h)).comp HF5.out (λ_ _ h=>h) (λ_ _ _=>trivial)).comp HF8.out (λ_ _ h=>h) (λ_ _ _=>trivial)
    exact h38.comp hk9 (λ_ _ h=>h.1) (λj _ hj=>⟨hj.2,λe=>hj.1 (hvs j e)⟩)
   have hw13:w1.heap.size≤w2.heap.size:=HF12.out.size
   have hw01:w.heap.size≤w1.heap.size:=HF1.out.size
   have hFg:∀j,F j→j≠g∧¬st.own 6 j∧w1.heap.size≤j∧j<w2.heap.size:=λj e=>by
    have h1:=HM.out.lo j e
    have h2:=HM.out.hi j e
    have h3:=HG.out.2.1
    exact⟨by omega,HB.out.1.newer (by omega) 6 (by omega),h1,h2⟩
   have hF2:∀j,DFoot d pv hv hs j→j≠g∧¬st.own 6 j∧w2.heap.size≤j∧j<w3.heap.size:=λj e=>by
    have h1:=HD.out.2 j e
    have h3:=HG.out.2.1
    have h2:j<w3.heap.size:=by
     rcases e with rfl | e | e | ⟨x,hx,e⟩
     ·exact HD.out.1.blk.lt
     ·exact (own_lt HD.out.1.pr e).2
     ·exact (own_lt HD.out.1.lk e).2
     ·exact (own_lt (HD.out.1.qs x hx) e).2
    exact⟨by omega,HB.out.1.newer (by omega) 6 (by omega),h1,h2⟩
   have hm9:=((HM.out.keep HF23.out λ_ _=>trivial).keep hK19 λj e=>⟨(hFg j e).1,(hFg j e).2.1⟩).lower (B':=W0.heap.size) (by have:=HB.out.1.fr.size;omega)
   have hd9:=(HD.out.1.keep hK19 λj e=>⟨(hF2 j e).1,(hF2 j e).2.1⟩).base (B':=W0.heap.size) (by have:=HB.out.1.fr.size;omega)
   have hw38:w3.heap.size≤w8.heap.size:=lez HF34.out.size (lez HX.out.2.1.size (lez HF5.out.size HF8.out.size))
   have hw23:w2.heap.size≤w3.heap.size:=HF23.out.size
   have hnF:∀j,F j→∀a,a<8→¬st1.own a j:=λj e a ha e2=>by
    obtain⟨h1,h2,h3,h4⟩:=hFg j e
    rcases HS.out.2.2 a ha j e2 with e3 | e3 | e3
    ·exact HB.out.1.newer (by omega) a ha e3
    ·exact h1 e3
    ·omega
   have hnF2:∀j,DFoot d pv hv hs j→W0.heap.size≤j∧¬F j∧∀a,a<8→¬st1.own a j:=λj e=>by
    obtain⟨h1,h2,h3,h4⟩:=hF2 j e
    refine⟨by have:=HB.out.1.fr.size;omega,λe2=>by have:=(hFg j e2).2.2.2;omega,λa ha e2=>?_⟩
    rcases HS.out.2.2 a ha j e2 with e3 | e3 | e3
    ·exact HB.out.1.newer (by omega) a ha e3
    ·exact h1 e3
    ·omega
   have HPl:=hdz (HS.out.1.place hi (by rw[HS.out.2.1];omega) hm9 hnF (krz _ _) (hd9.keep (keepK w9 K i _) λj e e2=>(hnF2 j e).2.2 6 (by omega) (e2 ▸ HS.out.1.bk.inK)) hnF2)
   obtain⟨y0,y3,lK9,fK9⟩:=HS.out.1.cellAny hi
   have f0:=fK9 i
   have f3:=fK9 (3+i)
   clear hbk9 hk9 HWr lK8 hS hK19 hw13 hw01 hFg hF2 hm9 hd9 hw38 hw23 hnF hnF2 fK9
   go_wp2_with fail
   go_ret
   obtain⟨st2,hp,hn2⟩:=HPl.out
   exact⟨by first | rfl | trivial,st2,hp,by rw[hn2,HS.out.2.1];omega⟩
end Go.Proofs.YtlibhkehebioeaaGreatDoor
