/- A PART OF THE PROOF. No condition. -/
import Derived.Test.YtlibhkehebioeaaGreatDoorP4
import Derived.Test.YtlibhkehebioeaaGreatDoorP0
import Derived.Test.YtlibhkehebioeaaGreatDoorP3
import Derived.Test.YtlibhkehebioeaaGreatDoorP1
namespace Go.Proofs.YtlibhkehebioeaaGreatDoor
set_option linter.unusedVariables false
set_option linter.unusedSimpArgs false
set_option maxRecDepth 100000
set_option maxHeartbeats 40000000
open Go.RowKit
open Go.Maps (Keyed)
theorem kint:Maps.Keyed Tryz.prog 3:=Maps.int_keyed Tryz.underlying3
theorem kkey {z:Int}(h1 : -9223372036854775808≤z)(h2:z<9223372036854775808):keyOf Tryz.prog 3 (.int .i64 z)=some (.int .i64 z):=Maps.keyOf_int_mk Tryz.underlying3 (by simp[Lit.wf,IntKind.min,IntKind.max,IntKind.signed,IntKind.bits];omega)
structure Cnt (w:World)(b:Nat)(seen:List Int):Prop where
 ex:∃ps,KMap Tryz.prog 3 w b ps∧ps.length≤seen.length∧∀c,kfind (.int .i64 c) ps=if c∈seen then some (.int .i64 (seen.count c:Int)) else none
theorem Cnt.made (w:World):Cnt (w.alloc (.map #[] 0)) w.heap.size []:=⟨[],KMap.made w _ _,by simp,λc=>by simp[kfind]⟩
theorem Cnt.keep {Z:Nat→Prop}{w w':World}{b:Nat}{seen:List Int}(h:Cnt w b seen)(hk:Keep Z w w')(hz:Z b):Cnt w' b seen:=by
 obtain⟨ps,h1,h2,h3⟩:=h.ex
 exact⟨ps,h1.keep hk hz,h2,h3⟩
theorem Cnt.lt {w:World}{b:Nat}{seen:List Int}(h:Cnt w b seen):b<w.heap.size:=by
 obtain⟨ps,h1,-,-⟩:=h.ex
 exact h1.lt
theorem run_zero_int (w:World):(zeroValue 3).run Tryz.prog w=.ok (.int .i64 0) w:=by kernel_rfl
theorem Cnt.look {w:World} {b:Nat} {seen:List Int} (h:Cnt w b seen) {c:Int} (h1 : -9223372036854775808≤c) (h2:c<9223372036854775808) :
 (Instr.lookup 140 (.map (some b)) (.int .i64 c) false).run Tryz.prog w=.ok (.int .i64 (seen.count c:Int)) w:=by
 obtain⟨ps,hm,-,hf⟩:=h.ex
 have h3:=hm.look kint Tryz.underlying140 (run_zero_int w) (kkey h1 h2)
 rw[hf c] at h3
 by_cases hc:c∈seen
 ·rw[if_pos hc] at h3
  exact h3
 ·rw[if_neg hc] at h3
  rw[List.count_eq_zero_of_not_mem hc]
  exact h3
theorem Cnt.up {w':World} {b:Nat} {seen:List Int} {ps:List Ke} {c:Int} (hl:ps.length≤seen.length) (hf:∀c,kfind (.int .i64 c) ps=if c∈seen then some (.int .i64 (seen.count c:Int)) else none)
 (h:KMap Tryz.prog 3 w' b (kput (.int .i64 c) (.int .i64 ((seen.count c:Int)+1)) ps)):Cnt w' b (c::seen):=by
 refine⟨_,h,lez (kput_len _ _ _) (by simp;omega),λd=>?_⟩
 rw[kfind_put]
 by_cases hd:c=d
 ·subst hd
  have e:(Lit.int .i64 c).sameKey (Lit.int .i64 c)=true:=by simp[Lit.sameKey]
  rw[if_pos e,if_pos (by simp),List.count_cons_self]
  simp
 ·have e:¬(Lit.int .i64 c).sameKey (Lit.int .i64 d)=true:=by simp[Lit.sameKey];exact hd
  rw[if_neg e,hf d]
  have e2:(d∈c::seen)↔d∈seen:=by simp;exact λh=>absurd h.symm hd
  by_cases hs:d∈seen
  ·rw[if_pos hs,if_pos (e2.2 hs),List.count_cons_of_ne hd]
  ·rw[if_neg hs,if_neg (λh=>hs (e2.1 h))]
def rdCl (bs:Txt)(p:Nat)(bad:Bool):Int×Nat×Bool:=(((rCount bs p bad 15).1:Int),(rCount bs p bad 15).2)
def qchk (seen:List Int)(c:Int):Bool:=!decide (c∈seen)
def qnxt (seen:List Int)(c:Int):List Int:=c::seen
abbrev rQueue (bs:Txt)(h:Nat)(p:Nat)(bad:Bool):List Int×Nat×Bool:=runF (rdCl bs) qchk qnxt (rCount bs p bad 15).1 (rCount bs p bad 15).2.1 (rCount bs p bad 15).2.2 [(h:Int)]
def rdLock (bs:Txt)(tok:Int)(p:Nat)(bad:Bool):LockD×Nat×Bool:=
 let a:=rText bs p bad 8
 let h:=rCount bs a.2.1 a.2.2 15
 let t:=rCount bs h.2.1 h.2.2 tok
 let r:=rQueue bs h.1 t.2.1 t.2.2
 (⟨a.1,(h.1:Int),(t.1:Int),r.1⟩,r.2)
def lchk (s:Txt×List Int)(x:LockD):Bool:=bytesBefore s.1 x.name && !decide (x.token=0) && !decide (x.token∈s.2)
def lnxt (s:Txt×List Int)(x:LockD):Txt×List Int:=(x.name,x.token::s.2)
abbrev rLocks (bs:Txt)(tok:Int)(p:Nat)(bad:Bool):List LockD×Nat×Bool:=runF (rdLock bs tok) lchk lnxt (rCount bs p bad 8).1 (rCount bs p bad 8).2.1 (rCount bs p bad 8).2.2 ([],[])
def lput (x:LockD)(ls:List LockD):List LockD:=match lfind x.name ls with
 | some _=>setK LockD.name x ls
 | none=>insK LockD.name x ls
theorem lput_rise {x:LockD}{ls:List LockD}(h:Rise (ls.map LockD.name)):Rise ((lput x ls).map LockD.name):=by
 unfold lput
 cases hf:lfind x.name ls with
 | some y=>simp only;rw[setK_keys];exact h
 | none=>exact insK_rise h (findK_none hf)
theorem lput_len (x:LockD)(ls:List LockD):(lput x ls).length≤ls.length+1:=by
 unfold lput
 split
 ·rw[setK_len];omega
 ·rw[insK_len];exact lrz _
theorem lput_mem {x y:LockD}{ls:List LockD}(h:y∈lput x ls):y=x∨y∈ls:=by
 unfold lput at h
 split at h
 ·exact (setK_mem h).imp id λh=>h.1
 ·exact insK_mem.1 h
theorem lput_last {x:LockD} {ls:List LockD} (h:∀y∈ls,bytesBefore y.name x.name=true):lput x ls=ls++[x]:=by
 have hn:lfind x.name ls=none:=by
  cases hf:lfind x.name ls with
  | none=>rfl
  | some y=>
   obtain⟨e,hy⟩:=findK_some hf
   exact absurd e (before_ne (h y hy))
 unfold lput
 rw[hn]
 clear hn
 induction ls with
 | nil=>rfl
 | cons y r ih=>
  have h1:=before_asymm (h y (by simp))
  simp only at ih ⊢
  rw[insK,if_neg (by simp[h1]),ih λz hz=>h z (by simp[hz])]
  rfl
theorem Lks.put {S S':Nat→Prop} {w w':World} {bl:Nat} {ms:List LkM} {ls:List LockD} (h:Lks S w bl ms ls) (hr:Rise (ls.map LockD.name)) (x:LkM) (hm:MapIs Tryz.prog 9 w' bl (mput x.d.name (.pointer (some ⟨x.h,0,none⟩)) (ms.map LkM.kv))) {Z:Nat→Prop} (hk:Keep Z w w') (hz:∀j,S j→j≠bl→Z j) (hx:LkIs S' w' x) (hs:∀j,S j→S' j)
 (hh:w.heap.size≤x.h) (hv:∀k,x.v.ownBlock=some k→w.heap.size≤k):∃ms',Lks S' w' bl ms' (lput x.d ls):=by
 have hrk:Rise (ms.map LkM.key):=by rw[h.keys];exact hr
 replace hm:MapIs Tryz.prog 9 w' bl (mput (LkM.key x) (LkM.kv x).2 (ms.map LkM.kv)):=hm
 have hold:∀y∈ms,LkIs S' w' y:=λy hy=>by
  have h1:=h.each y hy
  refine (h1.keep hk (hz _ h1.sh ?_) λk hk2=>hz _ (h1.sv k hk2) ?_).widen hs
  ·exact λe=>h.map.ne_blk h1.blk e.symm
  ·rintro rfl
   exact h.map.ne_own h1.row hk2
 have hap:∀y∈ms,LApart y x:=λy hy=>by
  have h1:=h.each y hy
  refine⟨λe=>by have:=h1.lt;omega,λk hk2 e=>by have:=h1.vlt hk2;have:=hv k e;omega⟩
 cases hf:lfind x.d.name ls with
 | none=>
  have hn:∀y∈ms,LkM.key y≠LkM.key x:=λy hy e=>by
   have h1:=findK_none hf y.d (by rw[←h.data];exact List.mem_map.2 ⟨y,hy,rfl⟩)
   exact h1 e
  have e:lput x.d ls=insK LockD.name x.d ls:=by unfold lput;rw[hf]
  rw[e]
  refine⟨insK LkM.key x ms,?_,λy hy=>?_,?_,by rw[insK_data,h.data],hs _ h.sb⟩
  ·rw[mput_new (key:=LkM.key) (f:=LkM.kv) (λ_=>rfl) x ms hn] at hm
   exact hm
  ·rcases insK_mem.1 hy with rfl | hy
   ·exact hx
   ·exact hold y hy
  ·have gen:∀l:List LkM,l.Pairwise LApart→(∀y∈l,LApart y x)→(insK LkM.key x l).Pairwise LApart:=by
    intro l
    induction l with
    | nil=>intro _ _;simp[insK]
    | cons y r ih=>
     intro h1 h2
     obtain⟨a1,a2⟩:=List.pairwise_cons.1 h1
     unfold insK
     split
     ·exact List.pairwise_cons.2 ⟨λz hz=>(h2 z hz).symm,h1⟩
     ·refine List.pairwise_cons.2 ⟨λz hz=>?_,ih a2 λz hz=>h2 z (by simp[hz])⟩
      rcases insK_mem.1 hz with rfl | hz
      ·exact h2 y (by simp)
      ·exact a1 z hz
   exact gen ms h.apart hap
 | some l=>
  obtain⟨y0,hy0,hd0,hk0,-⟩:=h.find hf
  have e:lput x.d ls=setK LockD.name x.d ls:=by unfold lput;rw[hf]
  rw[e]
  refine⟨setK LkM.key x ms,?_,λy hy=>?_,?_,by rw[setK_data,h.data],hs _ h.sb⟩
  ·rw[mput_old (key:=LkM.key) (f:=LkM.kv) (λ_=>rfl) x ms hrk ⟨y0,hy0,hk0⟩] at hm
   exact hm
  ·rcases setK_mem hy with rfl | ⟨hy,-⟩
   ·exact hx
   ·exact hold y hy
  ·unfold setK
   rw[List.pairwise_map]
   have hne:ms.Pairwise λa b=>LkM.key a≠LkM.key b:=by
    have h1:=hrk.nodup
    rw[List.nodup_iff_pairwise_ne,List.pairwise_map] at h1
    exact h1
   refine (h.apart.and hne).imp_of_mem ?_
   intro a b ha hb hab
   obtain⟨h3,h4⟩:=hab
   by_cases e1:LkM.key a=LkM.key x
   ·have e2:LkM.key b≠LkM.key x:=λe=>h4 (e1.trans e.symm)
    simp only[e1,beq_self_eq_true,if_true,beq_iff_eq,e2,if_false]
    exact (hap b hb).symm
   ·by_cases e2:LkM.key b=LkM.key x
    ·simp only[e2,beq_self_eq_true,if_true,beq_iff_eq,e1,if_false]
     exact hap a ha
    ·simp only[beq_iff_eq,e1,e2,if_false]
     exact h3
theorem kmap_ne_own {P:Program} {k:TypeId} {w:World} {b base e n:Nat} {ps:List Ke} {v:Value} {xs:List Value} (h:KMap P k w b ps) (ho:OwnAt w base e v n xs):v.ownBlock≠some b:=by
 rcases ho.2 with ⟨rfl,_⟩ | ⟨g,o,cap,cur,rfl,_,hh,_⟩
 ·simp[Value.ownBlock]
 ·intro he
  have:g=b:=by simpa[Value.ownBlock] using he
  subst this
  exact h.ne_blk (g:=g) (t:=e) hh rfl
structure RQAt (bs:Txt)(RQ:List Int×Nat×Bool)(cntq j:Nat)(i2 i3:Int)(g hb th base:Nat)(A:Option Addr)(n c:Nat)(wG wx:World)(v:Value)(pj:Nat)(badj:Bool)(qs seen:List Int):Prop where
 eq:RQ=(qs++(runF (rdCl bs) qchk qnxt (cntq - j) pj badj seen).1,(runF (rdCl bs) qchk qnxt (cntq - j) pj badj seen).2)
 rd:Rdr wx g A n c pj badj
 pn:pj≤n
 blk:Blk wx hb 101 #[.int .i64 i2,.int .i64 i3,v]
 row:wx.ownsRow base 3 1 v qs.length (ics qs)
 cn:Cnt wx th seen
 slen:seen.length=j+1
 qlen:qs.length=j
 safe:∀c∈qs,0≤c∧c<16
 keep:Keep (λi=>i≠g∧i≠hb∧i≠th) wG wx
theorem rq_step {bs:Txt} {RQ:List Int×Nat×Bool} {cntq j:Nat} {i2 i3:Int} {g hb th base:Nat} {A:Option Addr} {n c:Nat} {wG wx w2:World} {v v2:Value} {pj:Nat} {badj:Bool} {qs seen:List Int} {q5:Nat×Nat×Bool} {i5:Int} {bad2:Bool}
 (h:RQAt bs RQ cntq j i2 i3 g hb th base A n c wG wx v pj badj qs seen) (hj:j<cntq) (h5:q5=rCount bs pj badj 15) (hi:i5=(q5.1:Int)) (hm:(q5.1:Int)≤15) (hbad:bad2=(q5.2.2 || decide (i5∈seen))) (hg:Rdr w2 g A n c q5.2.1 bad2) (hp:q5.2.1≤n)
 (hblk:Blk w2 hb 101 #[.int .i64 i2,.int .i64 i3,v2]) (hrow:w2.ownsRow base 3 1 v2 (qs.length+1) (ics qs++[.int .i64 i5])) (hcn:Cnt w2 th (i5::seen)) (hk:Keep (λi=>i≠g∧i≠hb∧i≠th) wG w2):RQAt bs RQ cntq (j+1) i2 i3 g hb th base A n c wG w2 v2 q5.2.1 bad2 (qs++[i5]) (i5::seen):=by
 have hr:rdCl bs pj badj=(i5,q5.2):=by unfold rdCl;rw[←h5,hi]
 refine⟨?_,hg,hp,hblk,by simpa[ics] using hrow,hcn,by simp[h.slen],by simp[h.qlen],λd hd=>?_,hk⟩
 ·rw[h.eq,show cntq - j=(cntq - (j+1))+1 by omega,runF_succ,hr]
  have e:bad2=(q5.2.2 || !qchk seen i5):=by rw[hbad];unfold qchk;simp
  simp only[qnxt,←e,List.append_assoc,List.singleton_append]
 ·rcases List.mem_append.1 hd with hd | hd
  ·exact h.safe d hd
  ·simp only[List.mem_cons,List.not_mem_nil,or_false] at hd
   rw[hd]
   omega
structure RLAt (bs:Txt)(tok:Int)(R:List LockD×Nat×Bool)(cnt k:Nat)(last:Txt)(S:Nat→Prop)(g bl tb:Nat)(A:Option Addr)(n c:Nat)(w wr:World)(pk:Nat)(badk:Bool)(pre ls:List LockD)(seen:List Int):Prop where
 eq:R=(pre++(runF (rdLock bs tok) lchk lnxt (cnt - k) pk badk (last,seen)).1,(runF (rdLock bs tok) lchk lnxt (cnt - k) pk badk (last,seen)).2)
 rd:Rdr wr g A n c pk badk
 pn:pk≤n
 lk:∃ms,Lks S wr bl ms ls
 tk:Cnt wr tb seen
 rise:Rise (ls.map LockD.name)
 len:ls.length≤k
 slen:seen.length≤k
 safe:∀l∈ls,(0≤l.holder∧l.holder<16)∧∀c∈l.queue,0≤c∧c<16
 qlen:∀l∈ls,l.queue.length≤15
 ok:badk=false→ls=pre∧∀y∈pre,y.name=last∨bytesBefore y.name last=true
 keep:Keep (λj=>j≠g∧j≠bl) w wr
theorem rCount_stick {bs:Txt} {p:Nat} {bad:Bool} {most:Int} (h:(rCount bs p bad most).2.2=false):bad=false:=by
 cases bad with
 | false=>rfl
 | true=>
  unfold rCount at h
  rw[if_pos (.inl rfl)] at h
  cases h
theorem rText_stick {bs:Txt} {p:Nat} {bad:Bool} {most:Int} (h:(rText bs p bad most).2.2=false):bad=false:=by
 unfold rText at h
 split at h
 ·cases h
 ·rename_i h1
  refine rCount_stick (bs:=bs) (p:=p) (most:=most) ?_
  rcases hh:(rCount bs p bad most).2.2 with _ | _
  ·rfl
  ·exact absurd (.inl hh) h1
theorem rQueue_stick {bs:Txt} {h p:Nat} {bad:Bool} (hf:(rQueue bs h p bad).2.2=false):bad=false:=by
 rcases hb:(rCount bs p bad 15).2.2 with _ | _
 ·exact rCount_stick hb
 ·unfold rQueue at hf
  rw[hb] at hf
  have h1:=runF_bad (rd:=rdCl bs) (chk:=qchk) (nxt:=qnxt) (λp=>by
   rcases hx:(rdCl bs p true).2.2 with _ | _
   ·exact absurd (rCount_stick (bs:=bs) (p:=p) (most:=15) hx) (by simp)
   ·rfl) (rCount bs p bad 15).1 (rCount bs p bad 15).2.1 [(h:Int)]
  rw[h1] at hf
  cases hf
theorem rdLock_stick {bs:Txt}{tok:Int}{p:Nat}{bad:Bool}(h:(rdLock bs tok p bad).2.2=false):bad=false:=
 rText_stick (rCount_stick (rCount_stick (rQueue_stick h)))
theorem rl_step {bs:Txt} {tok:Int} {R:List LockD×Nat×Bool} {cnt k:Nat} {last:Txt} {S:Nat→Prop} {g bl tb:Nat} {A:Option Addr} {n c:Nat} {w wr w2:World} {pk:Nat} {badk:Bool} {pre ls:List LockD} {seen:List Int}
 (h:RLAt bs tok R cnt k last S g bl tb A n c w wr pk badk pre ls seen) (hk:k<cnt) (x:LockD) {pj:Nat} {badj bad2:Bool} (hx:rdLock bs tok pk badk=(x,pj,badj)) (hb:bad2=(badj || !lchk (last,seen) x)) (hg:Rdr w2 g A n c pj bad2) (hp:pj≤n) (hl:∃ms,Lks S w2 bl ms (lput x ls))
 (ht:Cnt w2 tb (x.token::seen)) (hs:(0≤x.holder∧x.holder<16)∧∀c∈x.queue,0≤c∧c<16) (hql:x.queue.length≤15) (hkw:Keep (λj=>j≠g∧j≠bl) w w2) :
 RLAt bs tok R cnt (k+1) x.name S g bl tb A n c w w2 pj bad2 (pre++[x]) (lput x ls) (x.token::seen):=by
 refine⟨?_,hg,hp,hl,ht,lput_rise h.rise,lez (lput_len x ls) (by have:=h.len;omega),by have:=h.slen;simp;omega,λl hm=>?_,λl hm=>?_,λhf=>?_,hkw⟩
 ·rw[h.eq,show cnt - k=(cnt - (k+1))+1 by omega,runF_succ,hx]
  simp only[←hb,lnxt,List.append_assoc,List.singleton_append]
 ·rcases lput_mem hm with rfl | hm
  ·exact hs
  ·exact h.safe l hm
 ·rcases lput_mem hm with rfl | hm
  ·exact hql
  ·exact h.qlen l hm
 ·rw[hb,Bool.or_eq_false_iff] at hf
  have hbk:badk=false:=rdLock_stick (bs:=bs) (tok:=tok) (p:=pk) (by rw[hx];exact hf.1)
  have hc:lchk (last,seen) x=true:=by simpa using hf.2
  unfold lchk at hc
  rw[Bool.and_eq_true,Bool.and_eq_true] at hc
  have hlt:=hc.1.1
  simp only at hlt
  obtain⟨e3,h4⟩:=h.ok hbk
  have hall:∀y∈pre,bytesBefore y.name x.name=true:=λy hy=>by
   rcases h4 y hy with e | e
   ·rw[e];exact hlt
   ·exact before_trans e hlt
  refine⟨by rw[e3];exact lput_last hall,λy hy=>?_⟩
  rcases List.mem_append.1 hy with hy | hy
  ·exact .inr (hall y hy)
  ·simp only[List.mem_cons,List.not_mem_nil,or_false] at hy
   rw[hy]
   exact .inl rfl
def RLPost (R:List LockD×Nat×Bool) (g bl:Nat) (A:Option Addr) (n c:Nat) (w:World) (e:Ending) (w':World):Prop:=
 e = .returned (.tuple #[])∧(∃ (S:Nat→Prop) (ms:List LkM) (ls:List LockD),Lks S w' bl ms ls∧(∀j,S j→j=bl∨w.heap.size≤j)∧Rise (ls.map LockD.name)∧ls.length≤8∧(∀l∈ls,(0≤l.holder∧l.holder<16)∧∀c∈l.queue,0≤c∧c<16)∧(∀l∈ls,l.queue.length≤15)∧(R.2.2=false→ls=R.1)) ∧
   Rdr w' g A n c R.2.1 R.2.2∧R.2.1≤n∧Keep (λj=>j≠g∧j≠bl) w w'
theorem rlocks_any (m g bl:Nat) (tok:Int) (Z:Nat→Prop) (A:Option Addr) (n c:Nat) (bs:Txt) (p:Nat) (bad:Bool) (w:World) (h1:w.cell? ⟨m,1,none⟩=some (.map (some bl))) (h2:w.cell? ⟨m,2,none⟩=some (.int .i64 tok)) (ht0:0≤tok) (ht1:tok≤99999999) (hmg:m≠g) (hmb:m≠bl) (hmp:MapIs Tryz.prog 9 w bl []) (hg:Rdr w g A n c p bad) (hz:∀k,Z k→k≠g∧k≠bl) (hp:p≤n) (hnc:n≤c) (hb:Rd w Z 1 A n (Lib.byteCells bs)) (hn:n≤1099511627770) :
 Calls Tryz.prog 51 #[.pointer (some ⟨m,0,none⟩),.pointer (some ⟨g,0,none⟩)] w (RLPost (rLocks bs tok p bad) g bl A n c w):=by
 have hlen:bs.length=n:=by simpa[Lib.byteCells] using hb.1
 obtain⟨R,hR⟩:=exz (rLocks bs tok p bad)
 rw[←hR]
 have hbg:bl≠g:=hmp.ne_blk hg
 have hmm:=@run_makeMap Tryz.prog
 obtain⟨W,hW⟩:=exz (w.alloc (.map #[] 0))
 obtain⟨tb,htb⟩:=exz (w.heap.size)
 have hf:Fresh w W:=hW ▸ (krz _ w).alloc _
 have hcn:Cnt W tb []:=by rw[hW,htb];exact Cnt.made w
 have hgW:=hg.keep hf trivial
 have HC:=hdz (rcount_any g Z A n c bs p bad 8 W hgW hp (hb.keep (hf.weaken λ_ _ _=>trivial)) hn)
 have hle:=rCount_le bs p bad 8 (by omega)
 have hmost:=rCount_most bs p bad (most:=8) (by omega)
 unfold rLocks at hR
 generalize rCount bs p bad 8=q at HC hR hle hmost
 obtain⟨cnt,p1,bad1⟩:=q
 simp only at HC hR hle hmost
 have hmlw:=lt_of_cell h1
 have hblw:=hmp.lt
 have hglw:=hg.lt
 have H0:=hdz (aiz h1 h2)
 have HB:=hdz (aiz hb (aiz hz (aiz hmp (aiz hR (aiz hlen (aiz hf (aiz hcn htb)))))))
 have hml:=ltz hmlw hf.size
 clear hb hz hmp hR hg hlen h1 h2 hcn hgW
 go_enter Tryz.func51,Tryz.ntmps51
 go_upto_region 2 with (fail)
 simp only[←htb]
 rw[←hW]
 clear hW htb hmm hf
 go_wp2_with fail
 refine Calls.mono HC.out ?_
 rintro e w1 ⟨rfl,hg1,hk1⟩
 have H1:=hdz (aiz hg1 hk1)
 have hml1:=ltz hml hk1.size
 clear hg1 hk1 HC hml
 obtain⟨S,hS⟩:∃S:Nat→Prop,S=λj=>j=bl∨(w.heap.size≤j∧j≠tb):=⟨_,rfl⟩
 have htbw:tb=w.heap.size:=HB.out.2.2.2.2.2.2.2
 have hSg:∀j,S j→j≠g∧j≠tb:=λj hj=>by
  rw[hS] at hj
  rcases hj with rfl | h
  ·exact⟨hbg,by omega⟩
  ·exact⟨by omega,h.2⟩
 have HS:=hdz (aiz hS (aiz hSg htbw))
 clear hS hSg htbw
 go_wp2_with fail
 go_loopw [4,13] (λl i wr=>∃ (k:Nat) (last:Txt),k≤cnt∧i=.int .i64 (k:Int)∧l=str last∧Hid (∃pk badk pre ls seen,RLAt bs tok R cnt k last S g bl tb A n c w wr pk badk pre ls seen)) (λ_ i _=>cnt - (intOf i).toNat)
 case atStart=>
  obtain⟨hb,hz,hmp,hR,hlen,hf,hcn,htb⟩:=HB.out
  obtain⟨hg1,hk1⟩:=H1.out
  refine⟨0,[],by omega,rfl,rfl,hdz ⟨p1,bad1,[],[],[],⟨by rw[hR];rfl,hg1,by omega,⟨[],?_⟩,hcn.keep hk1 (by omega),by simp[Rise],by simp,by simp,by simp,by simp,λ_=>⟨rfl,by simp⟩,hf.comp hk1 (λ_ _ _=>trivial) (λ_ _ h=>h.1)⟩⟩⟩
  exact⟨(hmp.keep hf trivial).keep hk1 hbg,(λx hx=>by cases hx),List.Pairwise.nil,rfl,by rw[HS.out.1];exact .inl rfl⟩
 case round=>
  rename World=>wr
  obtain⟨k,last,hk,rfl,rfl,HR⟩:=hrel
  obtain⟨pk,badk,pre,ls,seen,hat⟩:=HR.out
  have HA:=hdz hat
  clear hat HR
  by_cases hlt:k<cnt
  ·have hbw:=HB.out.1.keep (HA.out.keep.weaken λj _ h=>HB.out.2.1 j h)
   have HT1:=hdz (rtext_any g Z A n c bs pk badk 8 wr HA.out.rd (λj h=>(HB.out.2.1 j h).1) HA.out.pn hnc hbw hn)
   have hl1:=rText_le bs pk badk 8 (by have:=HB.out.2.2.2.2.1;have:=HA.out.pn;omega)
   have hn1:=rText_len bs pk badk (most:=8) (by omega)
   obtain⟨q1,hq1⟩:=exz (rText bs pk badk 8)
   rw[←hq1] at HT1 hl1 hn1
   have HQ1:=hdz hq1
   clear hq1 hbw
   go_wp2_with fail
   refine Calls.mono HT1.out ?_
   rintro e wA ⟨rfl,hgA,hkA⟩
   have hkWA:Keep (λj=>j≠g∧j≠bl) w wA:=HA.out.keep.comp hkA (λ_ _ h=>h) (λ_ _ h=>h.1)
   have x2:=hkWA.cellAt H0.out.2 ⟨hmg,hmb⟩
   have hbwA:∀wx,Keep (λj=>j≠g) wA wx→Rd wx Z 1 A n (Lib.byteCells bs):=λwx hk=>HB.out.1.keep ((hkWA.weaken λj _ h=>HB.out.2.1 j h).comp hk (λ_ _ h=>h) (λj _ h=>(HB.out.2.1 j h).1))
   have hlq:q1.2.1≤n:=by have:=HB.out.2.2.2.2.1;omega
   have HC1:=hdz (rcount_any g Z A n c bs q1.2.1 q1.2.2 15 (World.drew wA) (hgA.keep (Z:=λ_=>True) ((krz _ wA).drew) trivial) hlq (hbwA _ ((krz _ wA).drew)) hn)
   have hl2:=rCount_le bs q1.2.1 q1.2.2 15 (by have:=HB.out.2.2.2.2.1;omega)
   have hm2:=rCount_most bs q1.2.1 q1.2.2 (most:=15) (by omega)
   obtain⟨q2,hq2⟩:=exz (rCount bs q1.2.1 q1.2.2 15)
   rw[←hq2] at HC1 hl2 hm2
   have hlq2:q2.2.1≤n:=by have:=HB.out.2.2.2.2.1;omega
   have HC2:=hdz (λwB (hgB:Rdr wB g A n c q2.2.1 q2.2.2) (hkB:Keep (λj=>j≠g) (World.drew wA) wB)=>rcount_any g Z A n c bs q2.2.1 q2.2.2 tok wB hgB hlq2 (hbwA _ (((krz _ wA).drew).trans hkB)) hn)
   have hl3:=rCount_le bs q2.2.1 q2.2.2 tok (by have:=HB.out.2.2.2.2.1;omega)
   have hm3:=rCount_most bs q2.2.1 q2.2.2 (most:=tok) ht0
   obtain⟨q3,hq3⟩:=exz (rCount bs q2.2.1 q2.2.2 tok)
   rw[←hq3] at HC2 hl3 hm3
   have HX2:=hdz (λwx (hk:Keep (λj=>j≠g) wA wx)=>hk.cellAt x2 hmg)
   have HQ:=hdz (aiz hq2 (aiz hq3 (aiz hkA hkWA)))
   have hmlA:=lt_of_cell x2
   clear hq2 hq3 hkWA hbwA hgA hkA HT1
   go_upto_region 5 with (fail)
   go_region_held3 (λw'=>w'.cell? ⟨m,2,none⟩=some (.int .i64 tok))
    (first | exact HX2.out _ ((krz _ wA).drew) | exact HX2.out _ (((krz _ wA).drew).trans hkB) | exact HX2.out _ ((((krz _ wA).drew).trans hkB).trans hkC) | exact HX2.out _ (((((krz _ wA).drew).trans hkB).trans hkC).alloc _))
    (first
     | (go_at_call 49;have hcc:=HC1.out;(with_reducible refine Calls.mono hcc ?_);clear hcc;rintro e wB ⟨rfl,hgB,hkB⟩)
     | (go_at_call 49;have hcc:=HC2.out _ hgB hkB;(with_reducible refine Calls.mono hcc ?_);clear hcc;rintro e wC ⟨rfl,hgC,hkC⟩))
   obtain⟨hb,hhb⟩:=exz (wC.heap.size)
   obtain⟨wD,hwD⟩:=exz (wC.alloc (.cells #[.int .i64 (q2.1:Int),.int .i64 (q3.1:Int),.slice none 0 0] 101))
   rw[←hhb,←hwD]
   have hkCD:Fresh wC wD:=hwD ▸ (krz _ wC).alloc _
   have hkAD:Keep (λj=>j≠g) wA wD:=((((krz _ wA).drew).trans hkB).trans hkC).comp hkCD (λ_ _ h=>h) (λ_ _ _=>trivial)
   have hblk:Blk wD hb 101 #[.int .i64 (q2.1:Int),.int .i64 (q3.1:Int),.slice none 0 0]:=by rw[hwD,hhb];exact Blk.new _ _ _
   have hgD:=hgC.keep hkCD trivial
   have hkrD:Keep (λj=>j≠g) wr wD:=HQ.out.2.2.1.trans hkAD
   have htbg:tb≠g:=by have:=HS.out.2.2;omega
   have hcD:=HA.out.tk.keep hkrD htbg
   have htbD:=hcD.lt
   obtain⟨pst,hkm,hpl,hpf⟩:=hcD.ex
   have hsl:=HA.out.slen
   obtain⟨sc,hsc⟩:=exz (seen.count ((q3.1:Nat):Int))
   have hsc8:sc≤8:=by rw[hsc];have:=List.count_le_length (a:=((q3.1:Nat):Int)) (l:=seen);omega
   have hlk:=hcD.look (c:=((q3.1:Nat):Int)) (by omega) (by omega)
   rw[←hsc] at hlk
   have y0:=hblk.cell 0
   have y1:=hblk.cell 1
   simp at y0 y1
   have hbl':=hblk.lt
   have hbD:wr.heap.size≤hb:=by rw[hhb];exact lez HQ.out.2.2.1.size ((((krz _ wA).drew).trans hkB).trans hkC).size
   have hhtb:hb≠tb:=by have:=HA.out.tk.lt;omega
   obtain⟨i2,hi2⟩:∃i:Int,i=(q2.1:Int):=⟨_,rfl⟩
   obtain⟨i3,hi3⟩:∃i:Int,i=(q3.1:Int):=⟨_,rfl⟩
   rw[←hi2] at y0
   rw[←hi3] at y1 hlk
   rw[←hi2,←hi3]
   have b20:0≤i2:=by omega
   have b21:i2≤15:=by omega
   have b30:0≤i3:=by omega
   have b31:i3≤99999999:=by omega
   have HD:=hdz (aiz hkrD (aiz hblk (aiz hgD (aiz hkm (aiz hpl (aiz hpf (aiz hsc (aiz hi2 (aiz hi3 (aiz hhb hbD))))))))))
   clear hwD hkCD hkAD hblk hgD hkrD hcD hkm hpl hpf hsc hi2 hi3 hhb hgB hkB hgC hkC HC1 HC2 HX2 x2 hsl
   go_upto_region 6 with (fail)
   go_wp2_with (at_mapUpdate;refine wpList_kstore rfl (.tmp 27) (.tmp 31) (.tmp 33) rfl kint Tryz.underlying140 rfl HD.out.2.2.2.1 (by have:=HD.out.2.2.2.2.1;have:=HA.out.slen;simp only[maxLen];omega) (kkey (z:=i3) (by omega) (by omega)) rfl (.int .i64 ((sc:Int)+1)) rfl ?_)
   intro wE hcE hkE
   have hcE':Cnt wE tb (i3::seen):=by
    refine Cnt.up HD.out.2.2.2.2.1 HD.out.2.2.2.2.2.1 ?_
    rw[HD.out.2.2.2.2.2.2.2.2.1,←HD.out.2.2.2.2.2.2.1,←HD.out.2.2.2.2.2.2.2.2.1]
    exact hcE
   have z0:=hkE.cellAt y0 hhtb
   have z1:=hkE.cellAt y1 hhtb
   have hbE:=ltz hbl' hkE.size
   have HE:=hdz (aiz hcE' hkE)
   have hmm:=@run_makeMap Tryz.prog
   obtain⟨th,hth⟩:=exz (wE.heap.size)
   obtain⟨wF,hwF⟩:=exz (wE.alloc (.map #[] 0))
   have hfF:Fresh wE wF:=hwF ▸ (krz _ wE).alloc _
   have hcF:Cnt wF th []:=by rw[hwF,hth];exact Cnt.made wE
   obtain⟨psf,hkf,hlf,hff⟩:=hcF.ex
   obtain⟨wG,hins,hkG,hkFG⟩:=hkf.store kint Tryz.underlying140 (by have h0:psf.length=0:=(by simpa using hlf);rw[h0];decide) (kkey (z:=i2) (by omega) (by omega)) (.int .i64 1)
   have hcG:Cnt wG th [i2]:=Cnt.up hlf hff (by simpa using hkG)
   have w0:=hfF.cellAt z0 trivial
   rw[hwF] at hins w0
   rw[hth] at hins
   have HG:=hdz (aiz hcG (aiz hkFG (aiz hfF hth)))
   clear hcE hcE' hkE hcF hkf hlf hff hkG hkFG hcG hfF y0 y1 hlk hbl' hth
   go_upto_region 8 with (fail)
   rw[←HG.out.2.2.2]
   have htbg:=htbg
   have hmlG:g<wG.heap.size:=by have:=HE.out.2.size;have:=HG.out.2.2.1.size;have:=HG.out.2.1.size;have:=HD.out.2.2.1.lt;omega
   have hgth:g≠th:=by rw[HG.out.2.2.2];have:=HE.out.2.size;have:=HD.out.2.2.1.lt;omega
   have hhth:hb≠th:=by rw[HG.out.2.2.2];have:=HE.out.2.size;have:=HD.out.2.1.lt;omega
   have hthtb:th≠tb:=by rw[HG.out.2.2.2];have:=HE.out.1.lt;omega
   have hghb:g≠hb:=λe=>Blk.ne HD.out.2.2.1 HD.out.2.1 (by decide) e
   have hkDG:Keep (λj=>j≠tb) wD wG:=(HE.out.2.comp HG.out.2.2.1 (λ_ _ h=>h) (λ_ _ _=>trivial)).comp HG.out.2.1 (λ_ _ h=>h) (λj hj _ e=>by rw[HG.out.2.2.2] at e;have:=HE.out.2.size;omega)
   have hgG:=HD.out.2.2.1.keep hkDG (λe=>htbg e.symm)
   have hblkG:=HD.out.2.1.keep hkDG hhtb
   have hkWG:Keep (λj=>j≠g∧j≠tb) wr wG:=HD.out.1.comp hkDG (λ_ _ h=>h.1) (λ_ _ h=>h.2)
   have hkwG:Keep (λj=>j≠g∧j≠bl) w wG:=HA.out.keep.comp hkWG (λ_ _ h=>h) (λj hj h=>⟨h.1,by have:=HS.out.2.2;omega⟩)
   have hlq3:q3.2.1≤n:=by have:=HB.out.2.2.2.2.1;omega
   have hbwG:Rd wG Z 1 A n (Lib.byteCells bs):=HB.out.1.keep (hkwG.weaken λj _ h=>HB.out.2.1 j h)
   have HC4:=hdz (rcount_any g Z A n c bs q3.2.1 q3.2.2 15 wG hgG hlq3 hbwG hn)
   have hl4:=rCount_le bs q3.2.1 q3.2.2 15 (by have:=HB.out.2.2.2.2.1;omega)
   have hm4:=rCount_most bs q3.2.1 q3.2.2 (most:=15) (by omega)
   obtain⟨q4,hq4⟩:=exz (rCount bs q3.2.1 q3.2.2 15)
   rw[←hq4] at HC4 hl4 hm4
   obtain⟨RQ,hRQ⟩:=exz (rQueue bs q2.1 q3.2.1 q3.2.2)
   have hRQ2:=hRQ
   unfold rQueue at hRQ2
   rw[←hq4] at hRQ2
   have HG2:=hdz (aiz hblkG (aiz hkWG (aiz hkwG (aiz hq4 (aiz hRQ hRQ2)))))
   clear hkDG hgG hblkG hkWG hkwG hbwG hq4 hRQ hRQ2 hins w0 z0 z1 hmm hwF hbE
   go_wp2_with fail
   refine Calls.mono HC4.out ?_
   rintro e wH ⟨rfl,hgH,hkH⟩
   have hblkH:=HG2.out.1.keep hkH hghb.symm
   have hcH:=HG.out.1.keep hkH hgth.symm
   have HH:=hdz (aiz hgH (aiz hkH (aiz hblkH hcH)))
   have hglH:=hgH.lt
   have hbH:=hblkH.lt
   clear hgH hkH hblkH hcH HC4
   go_wp2_with fail
   go_loopw [42] (λi wx=>∃ (j:Nat),j≤q4.1∧i=.int .i64 (j:Int)∧Hid (∃v pj badj qs seenq,RQAt bs RQ q4.1 j i2 i3 g hb th wH.heap.size A n c wH wx v pj badj qs seenq)) (λi _=>q4.1 - (intOf i).toNat)
   case atStart=>
    refine⟨0,by omega,rfl,hdz ⟨_,q4.2.1,q4.2.2,[],[i2],⟨?_,HH.out.1,by have:=HB.out.2.2.2.2.1;omega,by have h:=HH.out.2.2.1;rw[←HD.out.2.2.2.2.2.2.2.1,←HD.out.2.2.2.2.2.2.2.2.1] at h;exact h,by exact onz _ _ _ _,HH.out.2.2.2,rfl,rfl,by simp,krz _ _⟩⟩⟩
    rw[HG2.out.2.2.2.2.2,HD.out.2.2.2.2.2.2.2.1]
    rfl
   case round=>
    rename World=>wx
    obtain⟨j,hj,rfl,HRQ⟩:=hrel
    obtain⟨v,pj,badj,qs,seenq,hqa⟩:=HRQ.out
    have HQA:=hdz hqa
    clear hqa HRQ
    by_cases hjl:j<q4.1
    ·have hkwx:Keep (λj=>j≠g∧j≠bl) w wx:=(HG2.out.2.2.1.comp HH.out.2.1 (λ_ _ h=>h) (λ_ _ h=>h.1)).comp HQA.out.keep (λ_ _ h=>h) (λi hi h=>⟨h.1,by have:=HD.out.2.2.2.2.2.2.2.2.2.2;have:=HA.out.keep.size;omega,by have:=HG.out.2.2.2;have:=HD.out.2.1.lt;have:=HE.out.2.size;have:=HD.out.2.2.2.2.2.2.2.2.2.2;have:=HA.out.keep.size;omega⟩)
     have hbwx:=HB.out.1.keep (hkwx.weaken λi _ h=>HB.out.2.1 i h)
     have HC5:=hdz (rcount_any g Z A n c bs pj badj 15 wx HQA.out.rd HQA.out.pn hbwx hn)
     have hl5:=rCount_le bs pj badj 15 (by have:=HB.out.2.2.2.2.1;have:=HQA.out.pn;omega)
     have hm5:=rCount_most bs pj badj (most:=15) (by omega)
     obtain⟨q5,hq5⟩:=exz (rCount bs pj badj 15)
     rw[←hq5] at HC5 hl5 hm5
     have HQ5:=hdz hq5
     clear hq5 hkwx hbwx
     go_wp2_with fail
     refine Calls.mono HC5.out ?_
     rintro e wy ⟨rfl,hgy,hky⟩
     have hcy:=HQA.out.cn.keep hky hgth.symm
     have hby:=HQA.out.blk.keep hky hghb.symm
     have hoy:wy.ownsRow wH.heap.size 3 1 v qs.length (ics qs):=own_keep HQA.out.row hky λi hi e=>own_ne_blk HQA.out.row HQA.out.rd (by decide) (by rw[←e];exact hi)
     obtain⟨psq,hkq,hplq,hpfq⟩:=hcy.ex
     obtain⟨i5,hi5⟩:∃i:Int,i=(q5.1:Int):=⟨_,rfl⟩
     have b50:0≤i5:=by omega
     have b51:i5≤15:=by omega
     rw[←hi5]
     have hlk:=hcy.look (c:=i5) (by omega) (by omega)
     obtain⟨sq,hsq⟩:=exz (seenq.count i5)
     rw[←hsq] at hlk
     have hsq16:sq≤16:=by rw[hsq];have:=List.count_le_length (a:=i5) (l:=seenq);have:=HQA.out.slen;omega
     have hslq:=HQA.out.slen
     have HY:=hdz (aiz hgy (aiz hky (aiz hby (aiz hoy (aiz hkq (aiz hplq (aiz hpfq (aiz hi5 hsq))))))))
     have hgly:=hgy.lt
     have hbly:=hby.lt
     clear hgy hky hcy hby hoy hkq hplq hpfq hi5 hsq HC5
     go_wp2_with (at_mapUpdate;refine wpList_kstore rfl (.tmp 46) (.tmp 47) (.tmp 49) rfl kint Tryz.underlying140 rfl HY.out.2.2.2.2.1 (by have:=HY.out.2.2.2.2.2.1;simp only[maxLen];omega) (kkey (z:=i5) (by omega) (by omega)) rfl (.int .i64 ((sq:Int)+1)) rfl ?_)
     intro wz hcz hkz
     have hcz':Cnt wz th (i5::seenq):=by
      refine Cnt.up HY.out.2.2.2.2.2.1 HY.out.2.2.2.2.2.2.1 ?_
      rw[←HY.out.2.2.2.2.2.2.2.2]
      exact hcz
     have hbz:=HY.out.2.2.1.keep hkz hhth
     have y2:=hbz.cell 2
     simp at y2
     have hblz:=hbz.lt
     have hoz:wz.ownsRow wH.heap.size 3 1 v qs.length (ics qs):=own_keep HY.out.2.2.2.1 hkz λi hi e=>by
      obtain⟨ps2,hk2,-,-⟩:=HQA.out.cn.ex
      exact kmap_ne_own hk2 (OwnAt.of_own HQA.out.row) (by rw[←e];exact hi)
     have hq4b:q4.1≤15:=by omega
     have HZ:=hdz (aiz hcz' (aiz hkz (aiz hbz hoz)))
     have hqlen:qs.length≤15:=by have:=HQA.out.qlen;omega
     have hbase:wH.heap.size≤wz.heap.size:=by have:=HQA.out.keep.size;have:=HY.out.2.1.size;have:=HZ.out.2.1.size;omega
     clear hcz hcz' hkz hbz hoz hlk
     go_wp2_with (at_builtin;refine wpList_app1 etInt2 rfl (.tmp 54) (.tmp 56) rfl (.int .i64 i5) _ rfl wH.heap.size _ qs.length (ics qs) rfl rfl HZ.out.2.2.2 (by omega) hbase ?_)
     intro v2 wu hou hku hnu
     have hvh:v.ownBlock≠some hb:=own_ne_blk HZ.out.2.2.2 HZ.out.2.2.1 (by decide)
     have hvg:v.ownBlock≠some g:=own_ne_blk HQA.out.row HQA.out.rd (by decide)
     have hvt:v.ownBlock≠some th:=by obtain⟨ps2,hk2,-,-⟩:=HQA.out.cn.ex;exact kmap_ne_own hk2 (OwnAt.of_own HQA.out.row)
     have hbu:=HZ.out.2.2.1.keep hku hvh
     have hsz:th<wz.heap.size:=HZ.out.1.lt
     obtain⟨Au,cu,hv2,-⟩:=own_rd hou
     have u2:=hbu.cell 2
     simp at u2
     have uf:=hbu.frozen 2
     have ul:=hbu.lt
     have hgu:=(HY.out.1.keep HZ.out.2.1 hgth).keep hku hvg
     have hcu:=HZ.out.1.keep hku hvt
     have hv2h:v2.ownBlock≠some hb:=by
      rcases hnu with e | ⟨b,hb2,hle⟩
      ·rw[e];exact hvh
      ·rw[hb2];intro e;injection e with e;have:=HZ.out.2.2.1.lt;omega
     subst hv2
     have HU:=hdz (aiz hou (aiz hku (aiz hbu (aiz hgu (aiz hcu (aiz hnu hv2h))))))
     clear hou hku hnu hvh hvg hvt hbu hgu hcu hv2h y2
     go_upto_region 13 with (fail)
     obtain⟨V2,hV2⟩:∃V,V=Value.slice Au (qs.length+1) cu:=⟨_,rfl⟩
     have hbt:Blk (wu.setCell ⟨hb,2,none⟩ V2) hb 101 #[.int .i64 i2,.int .i64 i3,V2]:=HU.out.2.2.1.set 2 V2
     have hkt:Keep (λi=>i≠hb) wu (wu.setCell ⟨hb,2,none⟩ V2):=(krz _ wu).setCell (λ_ h=>h rfl) _
     have hot:(wu.setCell ⟨hb,2,none⟩ V2).ownsRow wH.heap.size 3 1 V2 (qs.length+1) (ics qs++[.int .i64 i5]):=by
      have h1:=own_far HU.out.1 (p:=⟨hb,2,none⟩) HU.out.2.2.2.2.2.2 V2
      rw[hV2] at h1 ⊢
      exact h1
     rw[←hV2]
     generalize hwt:World.setCell wu ⟨hb,2,none⟩ V2=wt at hbt hkt hot ⊢
     have hgt:=HU.out.2.2.2.1.keep hkt hghb
     have hct:=HU.out.2.2.2.2.1.keep hkt hhth.symm
     have hlk2:=hct.look (c:=i5) (by omega) (by omega)
     rw[List.count_cons_self,←HY.out.2.2.2.2.2.2.2.2] at hlk2
     have hgtl:=hgt.lt
     have g2:=hgt.cell 2
     simp at g2
     have gf:=hgt.frozen 2
     have hkGt:Keep (λi=>i≠g∧i≠hb∧i≠th) wH wt:=(((HQA.out.keep.comp HY.out.2.1 (λ_ _ h=>h) (λ_ _ h=>h.1)).comp HZ.out.2.1 (λ_ _ h=>h) (λ_ _ h=>h.2.2)).comp HU.out.2.1 (λ_ _ h=>h) (λi hi h e=>by
      have h1:=(own_lt HQA.out.row e).1
      omega)).comp hkt (λ_ _ h=>h) (λ_ _ h=>h.2.1)
     have HT:=hdz (aiz hbt (aiz hot (aiz hgt (aiz hct hkGt))))
     have hstep:Hid (∀w2 bad2,Keep (λi=>i≠g) wt w2→bad2=(q5.2.2 || decide (i5∈seenq))→Rdr w2 g A n c q5.2.1 bad2→Hid (∃v pj badj qs seenq,RQAt bs RQ q4.1 (j+1) i2 i3 g hb th wH.heap.size A n c wH w2 v pj badj qs seenq)):=hdz λw2 bad2 hk2 hb2 hg2=>by
      obtain⟨hbt,hot,hgt,hct,hkGt⟩:=HT.out
      refine hdz ⟨V2,_,_,_,_,rq_step HQA.out hjl HQ5.out HY.out.2.2.2.2.2.2.2.1 hm5 hb2 hg2 (by have:=HB.out.2.2.2.2.1;omega) (hbt.keep hk2 hghb.symm) (own_keep hot hk2 λi hi e=>own_ne_blk hot hgt (by decide) (by rw[←e];exact hi)) (hct.keep hk2 hgth.symm) (hkGt.comp hk2 (λ_ _ h=>h) (λ_ _ h=>h.1))⟩
     have hmem:(0<sq)↔i5∈seenq:=by rw[HY.out.2.2.2.2.2.2.2.2];exact List.count_pos_iff
     have HM:=hdz hmem
     clear hbt hot hgt hct hkGt hkt hmem hV2 u2 uf
     by_cases hdup:0<sq
     ·have e1:decide (1<(sq:Int)+1)=true:=by simp;omega
      have hg3:Rdr (wt.setCell ⟨g,2,none⟩ (.bool true)) g A n c q5.2.1 true:=HT.out.2.2.1.set 2 (.bool true)
      have HR3:=hdz hg3
      clear hg3
      go_wp2_with fail
      exact⟨⟨j+1,by omega,by simp,hstep.out _ true ((krz _ wt).setCell (λ_ h=>h rfl) _) (by simp[HM.out.1 hdup]) HR3.out⟩,by simp only[intOf];omega⟩
     ·have e1:decide (1<(sq:Int)+1)=false:=by simp;omega
      go_wp2_with fail
      exact⟨⟨j+1,by omega,by simp,hstep.out _ q5.2.2 (krz _ wt) (by have:i5 ∉ seenq:=λh=>hdup (HM.out.2 h);simp[this]) HT.out.2.2.1⟩,by simp only[intOf];omega⟩
    ·obtain rfl:j=q4.1:=by omega
     have hkHx:=HQA.out.keep
     have hkwx:Keep (λj=>j≠g∧j≠bl) w wx:=(HG2.out.2.2.1.comp HH.out.2.1 (λ_ _ h=>h) (λ_ _ h=>h.1)).comp hkHx (λ_ _ h=>h) (λi hi h=>⟨h.1,by have:=HD.out.2.2.2.2.2.2.2.2.2.2;have:=HA.out.keep.size;omega,by have:=HG.out.2.2.2;have:=HD.out.2.1.lt;have:=HE.out.2.size;have:=HD.out.2.2.2.2.2.2.2.2.2.2;have:=HA.out.keep.size;omega⟩)
     have hkEx:Keep (λi=>i≠g∧i≠hb∧i≠th) wE wx:=(((HG.out.2.2.1.comp HG.out.2.1 (λ_ _ _=>trivial) (λ_ _ h=>h.2.2)).comp HH.out.2.1 (λ_ _ h=>h) (λ_ _ h=>h.1))).comp hkHx (λ_ _ h=>h) (λ_ _ h=>h)
     have hct:=HE.out.1.keep hkEx ⟨htbg,hhtb.symm,hthtb.symm⟩
     have hlk:=hct.look (c:=i3) (by omega) (by omega)
     rw[List.count_cons_self,HD.out.2.2.2.2.2.2.2.2.1,←HD.out.2.2.2.2.2.2.1,←HD.out.2.2.2.2.2.2.2.2.1] at hlk
     have x1:=hkwx.cellAt H0.out.1 ⟨hmg,hmb⟩
     have hmlx:=lt_of_cell x1
     have y1:=HQA.out.blk.cell 1
     simp at y1
     have hbx:=HQA.out.blk.lt
     have g2:=HQA.out.rd.cell 2
     simp at g2
     have gf:=HQA.out.rd.frozen 2
     have hgx:=HQA.out.rd.lt
     obtain⟨msx,hlsr⟩:=HA.out.lk
     have hkrx:Keep (λj=>j≠g∧j≠tb) wr wx:=(HG2.out.2.1.comp HH.out.2.1 (λ_ _ h=>h) (λ_ _ h=>h.1)).comp hkHx (λ_ _ h=>h) (λi hi h=>⟨h.1,by have:=HD.out.2.2.2.2.2.2.2.2.2.2;omega,by have:=HG.out.2.2.2;have:=HD.out.2.1.lt;have:=HE.out.2.size;have:=HD.out.2.2.2.2.2.2.2.2.2.2;omega⟩)
     have hmx:MapIs Tryz.prog 9 wx bl (msx.map LkM.kv):=hlsr.map.keep hkrx (HS.out.2.1 _ hlsr.sb)
     have hmlen:(msx.map LkM.kv).length≤8:=by rw[hlsr.len];have:=HA.out.len;omega
     have hhbl:hb≠bl:=by have:=HD.out.2.2.2.2.2.2.2.2.2.2;have:=HA.out.keep.size;omega
     have hrd:rdLock bs tok pk badk=(⟨q1.1,i2,i3,qs⟩,pj,badj):=by
      have e:=HQA.out.eq
      rw[Nat.sub_self] at e
      have e':RQ=(qs,pj,badj):=by rw[e];simp[runF]
      have e2:=HG2.out.2.2.2.2.1
      rw[e'] at e2
      unfold rdLock
      simp only[←HQ1.out,←HQ.out.1,←HQ.out.2.1,←e2,←HD.out.2.2.2.2.2.2.2.1,←HD.out.2.2.2.2.2.2.2.2.1]
     have HFin:Hid (∀w2 w3 bad2,Keep (λi=>i≠g) wx w2→Rdr w2 g A n c pj bad2→bad2=(badj || !lchk (last,seen) ⟨q1.1,i2,i3,qs⟩)→MapIs Tryz.prog 9 w3 bl (mput q1.1 (.pointer (some ⟨hb,0,none⟩)) (msx.map LkM.kv))→Keep (λi=>i≠bl) w2 w3 →
      Hid (∃pk badk pre ls seen,RLAt bs tok R cnt (k+1) q1.1 S g bl tb A n c w w3 pk badk pre ls seen)):=hdz λw2 w3 bad2 hk2 hg2 hb2 hm3 hk3=>by
      have hz1:=HD.out.2.2.2.2.2.2.2.2.2.2
      have hz2:=HA.out.keep.size
      have hz3:=HG2.out.2.1.size
      have hz4:=HH.out.2.1.size
      have htbw:=HS.out.2.2
      have htl:=HA.out.tk.lt
      have hk23:Keep (λj=>j≠g∧j≠bl) wx w3:=hk2.comp hk3 (λ_ _ h=>h.1) (λ_ _ h=>h.2)
      have hkr3:Keep (λj=>j≠g∧j≠tb∧j≠bl) wr w3:=hkrx.comp hk23 (λ_ _ h=>⟨h.1,h.2.1⟩) (λ_ _ h=>⟨h.1,h.2.2⟩)
      have hvlo:∀k,v.ownBlock=some k→wH.heap.size≤k:=λk hk=>(own_lt HQA.out.row hk).1
      have hb3:=HQA.out.blk.keep hk23 ⟨hghb.symm,hhbl⟩
      have hr3:=own_keep HQA.out.row hk23 λi hi=>by have:=hvlo i hi;exact⟨by omega,by omega⟩
      have hlk3:LkIs S w3 ⟨⟨q1.1,i2,i3,qs⟩,hb,v⟩:=⟨hb3,(OwnAt.of_own hr3).lower (Nat.zero_le _),by rw[HS.out.1];exact .inr ⟨show w.heap.size≤hb by omega,hhtb⟩,λi hi=>by rw[HS.out.1];have:=hvlo i hi;exact .inr ⟨show w.heap.size≤i by omega,show i≠tb by omega⟩⟩
      have hput:=Lks.put hlsr HA.out.rise ⟨⟨q1.1,i2,i3,qs⟩,hb,v⟩ hm3 hkr3 (λj hj hne=>⟨(HS.out.2.1 j hj).1,(HS.out.2.1 j hj).2,hne⟩) hlk3 (λ_ h=>h) hz1 (λi hi=>by have:=hvlo i hi;omega)
      refine hdz ⟨_,_,_,_,_,rl_step HA.out hlt ⟨q1.1,i2,i3,qs⟩ hrd hb2 (hg2.keep hk3 (λe=>hbg e.symm)) HQA.out.pn hput (hct.keep hk23 ⟨htbg,by omega⟩) ⟨by simp only;omega,HQA.out.safe⟩ (by simp only;have:=HQA.out.qlen;omega) (hkwx.comp hk23 (λ_ _ h=>h) (λ_ _ h=>h))⟩
     have HMX:=hdz (aiz hmx hmlen)
     have hsc:(0<sc)↔i3∈seen:=by
      rw[HD.out.2.2.2.2.2.2.1,←HD.out.2.2.2.2.2.2.2.2.1]
      exact List.count_pos_iff
     have HSC:=hdz hsc
     have HGX:=hdz HQA.out.rd
     have hks:Keep (λj=>j≠g) wx (wx.setCell ⟨g,2,none⟩ (.bool true)):=(krz _ wx).setCell (λ_ h=>h rfl) _
     have HKS:=hdz hks
     have hgs:Rdr (wx.setCell ⟨g,2,none⟩ (.bool true)) g A n c pj true:=HQA.out.rd.set 2 (.bool true)
     have HGS:=hdz hgs
     have xs1:=hks.cellAt x1 hmg
     have xs2:=lt_of_cell xs1
     clear hkHx hkwx hkEx hct hlsr hkrx hmx hmlen hrd hsc hks hgs xs1 xs2
     by_cases hbad:bytesBefore last q1.1=true∧i3≠0∧¬0<sc
     ·obtain⟨hA,hB0,hC0⟩:=hbad
      have hc0:Op.bytesLess q1.1 last=false:=by rw[less_before];exact before_asymm hA
      have hc1:(q1.1==last)=false:=by have:=before_ne hA;simp;exact λe=>this e.symm
      have hc2:(i3==0)=false:=by simpa using hB0
      have hc3:decide (1<(sc:Int)+1)=false:=by simp;omega
      have HCH:=hdz (show lchk (last,seen) ⟨q1.1,i2,i3,qs⟩=true by
       unfold lchk
       have:i3 ∉ seen:=λh=>hC0 (HSC.out.2 h)
       simp[hA,hB0,this])
      clear hA hB0 hC0
      go_wp2_with (at_mapUpdate;refine wpList_mstore rfl (.tmp 93) (.tmp 94) (.tmp 95) rfl Tryz.underlying9 Tryz.underlying88 rfl HMX.out.1 (by have:=HMX.out.2;simp only[maxLen];omega) (l:=q1.1) (by simp only[maxLen];omega) rfl (.pointer (some ⟨hb,0,none⟩)) rfl ?_)
      intro w3 hm3 hk3
      have H3:=hdz (HFin.out wx w3 badj (krz _ _) HGX.out (by rw[HCH.out];simp) hm3 hk3)
      clear hm3 hk3
      go_wp2_with fail
      exact⟨⟨k+1,q1.1,by omega,by simp,rfl,H3.out⟩,by simp only[intOf];omega⟩
     ·have HCH:Hid (lchk (last,seen) ⟨q1.1,i2,i3,qs⟩=false):=hdz (by
       rcases hh:lchk (last,seen) ⟨q1.1,i2,i3,qs⟩ with _ | _
       ·rfl
       ·exfalso
        refine hbad ?_
        unfold lchk at hh
        simp at hh
        exact⟨hh.1.1,hh.1.2,λh=>hh.2 (HSC.out.1 h)⟩)
      have hcase:(Op.bytesLess q1.1 last=true∨(q1.1==last)=true)∨((Op.bytesLess q1.1 last=false∧(q1.1==last)=false)∧((i3==0)=true∨((i3==0)=false∧decide (1<(sc:Int)+1)=true))):=by
       by_cases hA:bytesBefore last q1.1=true
       ·right
        refine⟨⟨by rw[less_before];exact before_asymm hA,by have:=before_ne hA;simp;exact λe=>this e.symm⟩,?_⟩
        by_cases hB0:i3=0
        ·exact .inl (by simpa using hB0)
        ·right
         refine⟨by simpa using hB0,?_⟩
         have:0<sc:=Classical.byContradiction λh=>hbad ⟨hA,hB0,h⟩
         simp
         omega
       ·left
        rw[less_before]
        by_cases he:q1.1=last
        ·exact .inr (by simpa using he)
        ·exact .inl (before_not (by simpa using hA) (λe=>he e.symm))
      clear hbad
      rcases hcase with (hc0 | hc0) | ⟨⟨hc0,hc1⟩,hc2 | ⟨hc2,hc3⟩⟩
      all_goals
       go_wp2_with (at_mapUpdate;refine wpList_mstore rfl (.tmp 93) (.tmp 94) (.tmp 95) rfl Tryz.underlying9 Tryz.underlying88 rfl (HMX.out.1.keep HKS.out hbg) (by have:=HMX.out.2;simp only[maxLen];omega) (l:=q1.1) (by simp only[maxLen];omega) rfl (.pointer (some ⟨hb,0,none⟩)) rfl ?_)
       intro w3 hm3 hk3
       have H3:=hdz (HFin.out _ w3 true HKS.out HGS.out (by rw[HCH.out];simp) hm3 hk3)
       clear hm3 hk3
       go_wp2_with fail
       exact⟨⟨k+1,q1.1,by omega,by simp,rfl,H3.out⟩,by simp only[intOf];omega⟩
  ·obtain rfl:k=cnt:=by omega
   go_wp2_with fail
   go_end0
   have hat:=HA.out
   have e:=hat.eq
   rw[Nat.sub_self] at e
   have e':R=(pre,pk,badk):=by rw[e];simp[runF]
   obtain⟨ms,hl⟩:=hat.lk
   refine⟨rfl,⟨S,ms,ls,hl,λj hj=>?_,hat.rise,by have:=hat.len;omega,hat.safe,hat.qlen,λhf=>?_⟩,by rw[e'];exact hat.rd,by rw[e'];exact hat.pn,hat.keep⟩
   ·rw[HS.out.1] at hj
    exact hj.imp id λh=>h.1
   ·rw[e'] at hf ⊢
    exact (hat.ok hf).1
end Go.Proofs.YtlibhkehebioeaaGreatDoor
namespace Go.Proofs.YtlibhkehebioeaaGreatDoor
set_option linter.unusedVariables false
set_option linter.unusedSimpArgs false
set_option maxRecDepth 100000
set_option maxHeartbeats 40000000
open Go.RowKit
def rdSes (bs:Txt)(p:Nat)(bad:Bool):(Nat×SesD)×Nat×Bool:=
 let q:=rCount bs p bad 15
 let i:=rCount bs q.2.1 q.2.2 4611686018427387904
 let r:=rCount bs i.2.1 i.2.2 4611686018427387904
 let c:=rCount bs r.2.1 r.2.2 11
 let v:=rText bs c.2.1 c.2.2 8
 let n:=rCount bs v.2.1 v.2.2 99999999
 ((q.1,⟨(i.1:Int),(r.1:Int),⟨(c.1:Int),v.1,(n.1:Int)⟩⟩),n.2)
def schk (last:Int)(x:Nat×SesD):Bool:=decide (last<(x.1:Int)) && !decide (x.2.inc=0) && !decide (x.2.req=0) && !decide (x.2.last.code=0) && !decide (x.2.last.code=10)
def snxt (last:Int)(x:Nat×SesD):Int:=(x.1:Int)
abbrev rSess1 (bs:Txt)(p:Nat)(bad:Bool):List (Nat×SesD)×Nat×Bool:=runF (rdSes bs) schk snxt (rCount bs p bad 16).1 (rCount bs p bad 16).2.1 (rCount bs p bad 16).2.2 (-1)
def ssPut (l:List (Nat×SesD))(ss:List SesD):List SesD:=l.foldl (λss x=>ss.set x.1 x.2) ss
theorem ssPut_snoc (l:List (Nat×SesD))(x:Nat×SesD)(ss:List SesD):ssPut (l++[x]) ss=(ssPut l ss).set x.1 x.2:=by simp[ssPut]
theorem ssPut_len (l:List (Nat×SesD)):∀ss:List SesD,(ssPut l ss).length=ss.length:=by
 induction l with
 | nil=>intro ss;rfl
 | cons x r ih=>intro ss;show (ssPut r (ss.set x.1 x.2)).length=_;rw[ih];simp
theorem ssPut_get:∀ (l:List (Nat×SesD)) (ss:List SesD) (q:Nat),l.Pairwise (λa b=>a.1<b.1)→q<ss.length →
 (ssPut l ss)[q]?=some (((l.find? λx=>x.1==q).map (·.2)).getD (ss.getD q noSes))
 | [],ss,q,_,hq=>by simp[ssPut,List.getD_eq_getElem?_getD,List.getElem?_eq_getElem hq]
 | x :: r,ss,q,hu,hq=>by
  obtain⟨h1,h2⟩:=List.pairwise_cons.1 hu
  have ih:=ssPut_get r (ss.set x.1 x.2) q h2 (by simpa using hq)
  show (ssPut r (ss.set x.1 x.2))[q]?=_
  rw[ih]
  by_cases he:x.1=q
  ·have hn:r.find? (λy=>y.1==q)=none:=by
    rw[List.find?_eq_none]
    intro y hy
    have:=h1 y hy
    simp
    omega
   rw[hn,List.find?_cons_of_pos (by simpa using he)]
   subst he
   simp[List.getD_eq_getElem?_getD,hq]
  ·rw[List.find?_cons_of_neg (by simpa using he)]
   congr 2
   simp[List.getD_eq_getElem?_getD,List.getElem?_set_ne he]
theorem ssPut_all {l:List (Nat×SesD)} (hu:l.Pairwise λa b=>a.1<b.1):ssPut l (List.replicate 16 noSes)=(List.range 16).map (sesAt l):=by
 refine List.ext_getElem? λq=>?_
 by_cases hq:q<16
 ·rw[ssPut_get l _ q hu (by simpa using hq)]
  have e:∀n:Nat,(List.replicate n noSes).getD q noSes=noSes:=λn=>by
   rw[List.getD_eq_getElem?_getD,List.getElem?_replicate]
   split <;> rfl
  rw[e 16]
  simp[hq,sesAt]
 ·rw[List.getElem?_eq_none (by rw[ssPut_len];simp;omega),List.getElem?_eq_none (by simp;omega)]
def sesMiss (ls:List LockD)(ss:List SesD):Bool:=ls.any λl=>(l.holder::l.queue).any λc=>decide ((ss.getD c.toNat noSes).inc=0)
def halfL (c:Int)(todo:List Txt)(l:LockD):LockD:=if l.name∈todo then l else leaveL c l
theorem half_name (c:Int)(todo:List Txt)(l:LockD):(halfL c todo l).name=l.name:=by unfold halfL;split <;> rfl
theorem half_all (c:Int)(ls:List LockD):ls.map (halfL c (ls.map LockD.name))=ls:=by
 have:∀l∈ls,halfL c (ls.map LockD.name) l=l:=λl hl=>if_pos (List.mem_map.2 ⟨l,hl,rfl⟩)
 rw[List.map_congr_left this,List.map_id']
theorem half_none (c:Int)(ls:List LockD):ls.map (halfL c [])=ls.map (leaveL c):=List.map_congr_left λl _=>if_neg (by simp)
theorem half_step {c:Int} {ls:List LockD} {todo:List Txt} {t:Txt} {d:LockD} (hr:Rise (ls.map LockD.name)) (ht:t∈todo) (hd:d∈ls.map (halfL c todo)) (hn:d.name=t) :
 d∈ls∧setK LockD.name (leaveL c d) (ls.map (halfL c todo))=ls.map (halfL c (todo.filter λx=>!(x==t))):=by
 obtain⟨l0,h0,rfl⟩:=List.mem_map.1 hd
 have hn0:l0.name=t:=by rw[←hn,half_name]
 have e0:halfL c todo l0=l0:=if_pos (by rw[hn0];exact ht)
 rw[e0]
 refine⟨h0,?_⟩
 unfold setK
 rw[List.map_map]
 refine List.map_congr_left λl hl=>?_
 simp only[Function.comp]
 have e1:(leaveL c l0).name=t:=hn0
 rw[e1,half_name]
 by_cases h:l.name=t
 ·have h2:=findK_of (key:=LockD.name) hr h0 hn0
  have h3:=findK_of (key:=LockD.name) hr hl h
  rw[h2] at h3
  injection h3 with h3
  subst h3
  rw[if_pos (by simpa using h)]
  unfold halfL
  rw[if_neg (by simp[h])]
 ·rw[if_neg (by simpa using h)]
  unfold halfL
  simp[h]
def heldB (c:Int)(s:StD)(k:Txt):Bool:=match lfind k s.locks with
 | some l=>l.holder==c
 | none=>false
theorem held_all {c:Int} {ls:List LockD} {s:StD} (hr:Rise (ls.map LockD.name)) (hs:s.locks=ls.map (leaveL c)):(ls.map LockD.name).filter (heldB c s)=heldBy c ls:=by
 unfold heldBy
 rw[List.filter_map]
 congr 1
 refine List.filter_congr λl hl=>?_
 simp only[Function.comp]
 unfold heldB
 rw[hs]
 have e:lfind l.name (ls.map (leaveL c))=some (leaveL c l):=by
  show findK _ _ _=_
  have h1:findK LockD.name l.name ls=some l:=findK_of hr hl rfl
  unfold findK at h1 ⊢
  rw[List.find?_map]
  have h2:((λx:LockD=>x.name==l.name) ∘ leaveL c)=λx=>x.name==l.name:=rfl
  rw[h2,h1]
  rfl
 rw[e]
 rfl
theorem passAll_other {k:Txt}:∀ (ns:List Txt) (s:StD),k ∉ ns→lfind k (passAll ns s).locks=lfind k s.locks
 | [],s,_=>rfl
 | a::r,s,h=>by
  have e:passAll (a::r) s=passAll r (passD a s).2:=rfl
  rw[e,passAll_other r _ (λh2=>h (by simp[h2])),pass_other (λh2=>h (by simp[h2]))]
theorem passAll_snoc (ns:List Txt)(k:Txt)(s:StD):passAll (ns++[k]) s=(passD k (passAll ns s)).2:=by
 unfold passAll
 rw[List.foldl_append]
 rfl
def heldTo (c:Int)(s:StD)(ns:List Txt)(k:Nat):List Txt:=(ns.take k).filter (heldB c s)
theorem heldTo_succ (c:Int)(s:StD)(ns:List Txt)(k:Nat)(hk:k<ns.length):heldTo c s ns (k+1)=heldTo c s ns k++(if heldB c s ns[k]=true then [ns[k]] else []):=by
 unfold heldTo
 rw[←List.take_append_getElem hk,List.filter_append]
 congr 1
 cases h:heldB c s ns[k] <;> simp[List.filter,h]
theorem heldTo_not {c:Int} {s:StD} {ns:List Txt} {k:Nat} (hn:ns.Nodup) (hk:k<ns.length):ns[k] ∉ heldTo c s ns k:=by
 intro h
 have h1:=(List.mem_filter.1 h).1
 have h2:(ns.take k++[ns[k]]).Nodup:=by
  rw[List.take_append_getElem hk]
  exact hn.sublist (List.take_sublist _ _)
 exact (List.nodup_append.1 h2).2.2 _ h1 _ (by simp) rfl
theorem heldTo_len (c:Int)(s:StD)(ns:List Txt)(k:Nat):(heldTo c s ns k).length≤ns.length:=by
 unfold heldTo
 have h1:=List.length_filter_le (heldB c s) (ns.take k)
 have h2:=List.length_take_le k ns
 have h3:(ns.take k).length≤ns.length:=by rw[List.length_take];omega
 omega
theorem MSt.widen {S S':Nat→Prop}{w:World}{m bp bl:Nat}{s:StD}(h:MSt S w m bp bl s)(hs:∀j,S j→S' j)(h1:¬S' m)(h2:¬S' bp):MSt S' w m bp bl s:=by
 obtain⟨ms,hl⟩:=h.lk
 exact⟨h.blk,h.len,h.pm,⟨ms,hl.widen hs⟩,h1,h2⟩
structure LetsAt (S T:Nat→Prop)(w wr:World)(bl:Nat)(c:Int)(ls:List LockD)(kvs:List Kv)(todo:List Txt):Prop where
 rng:RangeIs Tryz.prog 9 wr bl w.heap.size kvs todo
 lks:∃ms,Lks T wr bl ms (ls.map (halfL c todo))∧ms.map LkM.kv=kvs
 keep:Keep (λj=>¬S j) w wr
 sz:w.heap.size<wr.heap.size
theorem lets_any (S:Nat→Prop) (m bp bl:Nat) (s:StD) (c:Int) (w:World) (hm:MSt S w m bp bl s) (hi:LInv s.locks s.tok) :
 Calls Tryz.prog 43 #[.pointer (some ⟨m,0,none⟩),.int .i64 c] w λe w'=>e=.returned (.int .i64 (letsD c s).1)∧MSt (λj=>S j∨w.heap.size≤j) w' m bp bl (letsD c s).2∧Keep (λj=>j≠m∧¬S j) w w':=by
 obtain⟨ms,hls⟩:=hm.lk
 obtain⟨x0,x1,x2⟩:=hm.three
 have hml:=hm.blk.lt
 obtain⟨T,hT⟩:∃T:Nat→Prop,T=λj=>(S j∧j<w.heap.size)∨w.heap.size<j:=⟨_,rfl⟩
 have hLT:Lks T w bl ms s.locks:=hT ▸ hls.tight.widen λj h=>.inl h
 have hrT:¬T w.heap.size:=by rw[hT];rintro (⟨_,h⟩ | h) <;> omega
 have hTS:∀j,j<w.heap.size→T j→S j:=by
  intro j hj h
  rw[hT] at h
  rcases h with h | h
  ·exact h.1
  ·omega
 have hTn:∀j,w.heap.size<j→T j:=λj h=>by rw[hT];exact .inr h
 have hkvs:(ms.map LkM.kv).map Prod.fst=s.locks.map LockD.name:=by rw[←hls.keys,List.map_map];rfl
 have hn8:=hi.len
 have HA:=hdz (aiz hm (aiz hi (aiz hls (aiz hLT (aiz hrT (aiz hTS (aiz hTn hkvs)))))))
 clear hm hi hls hLT hrT hTS hTn hkvs x0 x2
 go_enter Tryz.func43,Tryz.ntmps43
 go_wp2_with (at_range;refine wpList_rangeIs rfl (.tmp 13) rfl Tryz.underlying9 Tryz.underlying88 rfl HA.out.2.2.1.map ?_)
 intro w0 hr0 hk0 hs0
 have HR0:=hdz (aiz hr0 hk0)
 clear hr0 hk0
 go_wp2_with fail
 go_loopw [6] (λ_ wr=>∃todo,Hid (LetsAt S T w wr bl c s.locks (ms.map LkM.kv) todo)) (λ_ wr=>wr.rangeLeft bl w.heap.size)
 case atStart=>
  obtain⟨hr0,hk0⟩:=HR0.out
  obtain⟨hm,hi,hls,hLT,hrT,hTS,hTn,hkvs⟩:=HA.out
  replace hr0:RangeIs Tryz.prog 9 w0 bl w.heap.size (ms.map LkM.kv) (s.locks.map LockD.name):=by rw[←hkvs,List.map_map];exact hr0
  exact⟨_,hdz ⟨hr0,⟨ms,by rw[half_all];exact hLT.keep hk0 (λ_ _=>trivial),rfl⟩,hk0.weaken (λ_ _ _=>trivial),by omega⟩⟩
 case round=>
  rename World=>wr
  obtain⟨todo,HW⟩:=hrel
  go_wp2_with (at_next;refine wpList_nextIs rfl (.tmp 14) rfl Tryz.underlying9 rfl HW.out.1 ?_ ?_)
  ·intro hd
   subst hd
   obtain⟨hm,hi,hls,hLT,hrT,hTS,hTn,hkvs⟩:=HA.out
   obtain⟨-,⟨ms',hl',hkv'⟩,hkW,hsz⟩:=HW.out
   rw[half_none] at hl'
   have x1W:=hkW.cellAt x1 hm.nm
   have hkeys:(ms'.map LkM.kv).map Prod.fst=s.locks.map LockD.name:=by rw[hkv'];exact hkvs
   have HN:=hdz (names_l_any bl (ms'.map LkM.kv) wr hl'.map (by rw[hkeys];exact hi.rise) (by rw[hl'.len,List.length_map];omega))
   obtain⟨s0,hs0e⟩:∃s0:StD,s0={ s with locks:=s.locks.map (leaveL c) }:=⟨_,rfl⟩
   obtain⟨T2,hT2⟩:∃T2:Nat→Prop,T2=λj=>T j∧j<wr.heap.size:=⟨_,rfl⟩
   have hM0:MSt T2 wr m bp bl s0:=by
    rw[hs0e,hT2]
    exact⟨hm.blk.keep hkW hm.nm,hm.len,hm.pm.keep hkW hm.nb,⟨ms',hl'.tight⟩,λh=>hm.nm (hTS m hml h.1),λh=>hm.nb (hTS bp hm.pm.lt h.1)⟩
   have hT2b:∀j,T2 j→j<wr.heap.size:=λj h=>by rw[hT2] at h;exact h.2
   have hT2S:∀j,T2 j→S j∨w.heap.size≤j:=λj h=>by
    rw[hT2] at h
    rcases Nat.lt_or_ge j w.heap.size with h2 | h2
    ·exact .inl (hTS j h2 h.1)
    ·exact .inr h2
   have hi0:LInv s0.locks s0.tok:=by rw[hs0e];exact hi.leave c
   have hheld:(s.locks.map LockD.name).filter (heldB c s0)=heldBy c s.locks:=held_all hi.rise (by rw[hs0e])
   have hlets:letsD c s=(((heldBy c s.locks).length:Int),passAll (heldBy c s.locks) s0):=by rw[hs0e];rfl
   have hnod:(s.locks.map LockD.name).Nodup:=hi.rise.nodup
   have hfind0:∀nm∈s.locks.map LockD.name,∃l,lfind nm s0.locks=some l:=by
    intro nm hnm
    obtain⟨l,h1,h2⟩:=List.mem_map.1 hnm
    have h3:findK LockD.name nm s0.locks=some (leaveL c l):=by
     refine findK_of hi0.rise (by rw[hs0e];exact List.mem_map.2 ⟨l,h1,rfl⟩) h2
    exact⟨_,h3⟩
   have hlen8:∀nm∈s.locks.map LockD.name,nm.length≤8:=by
    intro nm hnm
    obtain⟨l,h1,rfl⟩:=List.mem_map.1 hnm
    exact (hi.each l h1).n8
   obtain⟨ns,hns⟩:=exz (s.locks.map LockD.name)
   have hnsl:ns.length≤8:=by rw[hns];simpa using hn8
   have hkl:(ms'.map LkM.kv).length=ns.length:=by rw[hns,hl'.len];simp
   rw[hkeys,←hns,hkl] at HN
   rw[←hns] at hheld hnod hfind0 hlen8
   have HB:=hdz (aiz hM0 (aiz hT2b (aiz hT2S (aiz hi0 (aiz hheld (aiz hlets (aiz hnod (aiz hfind0 (aiz hlen8 hkW)))))))))
   clear hm hi hls hLT hrT hTS hTn hkvs hl' hkv' hkW hkeys hs0e hM0 hT2 hT2b hT2S hi0 hheld hlets hnod hfind0 hlen8 hns HR0 hkl
   go_wp2_with fail
   refine HN.out.mono ?_
   rintro e w2 ⟨⟨vn,rfl,hon⟩,f2⟩
   obtain⟨A,cn,rfl,hrdn,-⟩:=own_rd hon
   have HO:=hdz (aiz hon (aiz hrdn f2))
   have x1X:=f2.cellAt x1W trivial
   clear hon hrdn f2 HN x1W
   go_wp2_with fail
   go_loopw [7,28] (λn i wx=>∃k:Nat,k≤ns.length∧i=.int .i64 (k:Int)∧n=.int .i64 ((heldTo c s0 ns k).length:Int)∧Hid (MSt T2 wx m bp bl (passAll (heldTo c s0 ns k) s0)∧Keep (λj=>j≠m∧¬T2 j) w2 wx)) (λ_ i _=>ns.length - (intOf i).toNat)
   case atStart=>exact⟨0,Nat.zero_le _,rfl,rfl,hdz ⟨HB.out.1.fresh HO.out.2.2,krz _ _⟩⟩
   case round=>
    rename World=>wx
    obtain⟨k,hk,rfl,rfl,HX⟩:=hrel
    by_cases hlt:k<ns.length
    ·obtain⟨t,ht⟩:=exz (ns[k])
     have htm:t∈ns:=ht ▸ List.getElem_mem hlt
     have HT:Hid (heldTo c s0 ns (k+1)=heldTo c s0 ns k++(if heldB c s0 t=true then [t] else [])):=by rw[ht];exact heldTo_succ c s0 ns k hlt
     have hnb:Hid (A≠none→∃b o,A=some ⟨b,o,none⟩∧wx.cell? ⟨b,o+k,none⟩=some (str t)):=by
      intro _
      have h1:=(HO.out.2.1.keep (HX.out.2.weaken λj hj h=>⟨λe=>by have h2:=(own_lt HO.out.1 h).1;have h3:=HW.out.sz;omega,λh2=>by have h3:=(own_lt HO.out.1 h).1;have h4:=HB.out.2.1 j h2;omega⟩)).at1 hlt
      obtain⟨b,o,h2,-,h3,h4⟩:=h1
      refine⟨b,o,h2,?_⟩
      rw[h4,ht]
      simp
     have hA:A≠none:=by
      have h1:=HO.out.2.1.2 (by omega)
      obtain⟨b,o,h2,_⟩:=h1
      rw[h2]
      simp
     obtain⟨b,o,rfl,hcell⟩:=hnb.out hA
     obtain⟨l,hl0⟩:=HB.out.2.2.2.2.2.2.2.1 t htm
     have hlx0:lfind t (passAll (heldTo c s0 ns k) s0).locks=some l:=by rw[passAll_other _ _ (by rw[ht];exact heldTo_not HB.out.2.2.2.2.2.2.1 hlt)];exact hl0
     obtain⟨msx,hlx⟩:=HX.out.1.lk
     obtain⟨y,hy,hyl,hyk,hyi,hyf⟩:=lk_find hlx hlx0
     obtain⟨y0,-,-⟩:=hyi.cells
     obtain⟨-,z1,-⟩:=HX.out.1.three
     have ht8:t.length≤1048576:=by have:=HB.out.2.2.2.2.2.2.2.2.1 t htm;omega
     have hlk:=look_lk hlx (by omega) _ hyf 0
     rw[show wx.drewN 0=wx from rfl] at hlk
     rw[hyl] at y0
     obtain⟨hb,hhb⟩:=exz (y.h)
     rw[←hhb] at y0 hlk
     have hbB:heldB c s0 t=(l.holder==c):=by unfold heldB;rw[hl0]
     rw[hbB] at HT
     have hcnt:=heldTo_len c s0 ns k
     have hcnt2:((heldTo c s0 ns k).length:Int)≤8:=by omega
     obtain⟨lh,hlh⟩:=exz (l.holder)
     rw[←hlh] at y0 HT
     have HP:=hdz (pass_any T2 m bp bl _ t l wx HX.out.1 (HB.out.2.2.2.1.passAll _) ht8 hlx0)
     obtain⟨cnt,hcn⟩:=exz ((heldTo c s0 ns k).length)
     rw[←hcn] at hcnt hcnt2
     have HCN:=hdz hcn
     clear hy hyl hyk hyi hyf hlx hlx0 hl0 hhb hbB hlh hnb hA htm ht
     rw[←hcn]
     clear hcn
     by_cases hh:lh=c
     ·subst hh
      simp only[beq_self_eq_true,if_true] at HT
      go_wp2_with fail
      refine HP.out.mono ?_
      rintro e w4 ⟨rfl,hm4,hk4⟩
      have H4:=hdz (aiz hm4 hk4)
      clear hm4 hk4 HP
      go_wp2
      refine⟨⟨k+1,by omega,by simp,?_,hdz ⟨?_,?_⟩⟩,?_⟩
      ·rw[HT.out,lapz,←HCN.out];simp
      ·rw[HT.out,passAll_snoc];exact H4.out.1
      ·exact HX.out.2.trans H4.out.2
      ·simp only[intOf];omega
     ·have hh2:(lh==c)=false:=by simpa using hh
      rw[hh2] at HT
      simp only[Bool.false_eq_true,if_false,List.append_nil] at HT
      go_wp2_with fail
      refine⟨⟨k+1,by omega,by simp,?_,hdz ⟨?_,HX.out.2⟩⟩,?_⟩
      ·rw[HT.out,HCN.out]
      ·rw[HT.out];exact HX.out.1
      ·simp only[intOf];omega
    ·obtain rfl:k=ns.length:=by omega
     go_wp2_with fail
     go_ret
     obtain⟨hM0,hT2b,hT2S,hi0,hheld,hlets,hnod,hfind0,hlen8,hkW⟩:=HB.out
     obtain⟨hMx,hkx⟩:=HX.out
     have hfull:heldTo c s0 ns ns.length=heldBy c s.locks:=by unfold heldTo;rw[List.take_length];exact hheld
     rw[hfull] at hMx ⊢
     rw[hlets]
     have hm:=HA.out.1
     refine⟨rfl,hMx.widen hT2S (λh=>h.elim hm.nm λh=>by omega) (λh=>h.elim hm.nb λh=>by have:=hm.pm.lt;omega),(hkW.comp HO.out.2.2 (λ_ _ h=>h.2) (λ_ _ _=>trivial)).comp hkx (λ_ _ h=>h) λj hj h=>⟨h.1,λh2=>(hT2S j h2).elim h.2 λh=>by omega⟩⟩
  ·intro t v w1 ht hv hr1 hk1 hs1 hlt hen
   obtain⟨hm,hi,hls,hLT,hrT,hTS,hTn,hkvs⟩:=HA.out
   obtain⟨-,⟨ms',hl',hkv'⟩,hkW,hsz⟩:=HW.out
   rw[←hkv',mfind_map (key:=LkM.key) (λ_=>rfl)] at hv
   obtain⟨y,hfy,hvy⟩:=Option.map_eq_some_iff.1 hv
   obtain⟨hyk,hy⟩:=findK_some hfy
   have hvy2:v=.pointer (some ⟨y.h,0,none⟩):=hvy.symm
   have hl1:=hl'.keep hk1 (λj hj e=>hrT (e ▸ hj))
   have hyd:y.d∈s.locks.map (halfL c todo):=by rw[←hl'.data];exact List.mem_map.2 ⟨y,hy,rfl⟩
   obtain⟨hyl,hset⟩:=half_step hi.rise ht hyd hyk
   have hyo:=hi.each y.d hyl
   have hyi:=hl1.each y hy
   have HL:=hdz (leave_any T c y w1 hyi hyo.nd (by have:=queue_len hyo.nd hyo.q;omega))
   have HY:=hdz (aiz hy (aiz hset (aiz hyi (aiz hl1 (aiz hr1 (aiz hk1 (aiz hs1 (aiz hkW (aiz hsz (aiz hkv' hlt))))))))))
   obtain⟨h,hh⟩:=exz (y.h)
   rw[←hh] at hvy2 HL
   have HH:=hdz hh
   rw[hvy2] at hen
   clear hm hi hls hLT hrT hTS hTn hkvs hl' hkv' hkW hsz hfy hvy hyk hy hvy2 hl1 hyd hyl hset hyo hyi hr1 hk1 hs1 hlt ht hv hh
   go_wp2_with fail
   refine HL.out.mono ?_
   rintro e w2 ⟨rfl,⟨v',hx',hn'⟩,hk2⟩
   have H2:=hdz (aiz hx' (aiz hn' hk2))
   clear hx' hn' hk2 HL
   go_wp2
   obtain⟨hm,hi,hls,hLT,hrT,hTS,hTn,hkvs⟩:=HA.out
   obtain⟨hy,hset,hyi,hl1,hr1,hk1,hs1,hkW,hsz,hkv',hlt⟩:=HY.out
   obtain⟨hx',hn',hk2⟩:=H2.out
   have hh:=HH.out
   have hrise:Rise ((s.locks.map (halfL c todo)).map LockD.name):=by
    rw[List.map_map]
    have e:LockD.name ∘ halfL c todo=LockD.name:=by funext l;exact half_name c todo l
    rw[e]
    exact hi.rise
   have hbh:bl≠h:=by rw[hh];exact hl1.map.ne_blk hyi.blk
   have hrh:w.heap.size≠h:=by rw[hh];exact hr1.ne_blk hyi.blk
   refine⟨⟨_,hdz ⟨hr1.keep hk2 hbh hrh,⟨setK LkM.key ⟨leaveL c y.d,h,v'⟩ ms',?_,?_⟩,?_,?_⟩⟩,?_⟩
   ·have:=hl1.turn hrise hy hk2 (S':=T) (λj _ h1 _=>λe=>h1 (e.trans hh)) (x':=⟨leaveL c y.d,h,v'⟩) (hx'.widen λj hj=>hj.elim id λh2=>hTn j (by omega)) hh rfl (λ_ h=>h) hn'
    rw[hset] at this
    exact this
   ·rw[setK_kv hl1 hrise hy (x':=⟨leaveL c y.d,h,v'⟩) hh rfl]
    exact hkv'
   ·refine (hkW.comp hk1 (λ_ _ h=>h) (λj hj _=>by omega)).comp hk2 (λ_ _ h=>h) λj hj h2 e=>h2 (hTS j hj ?_)
    rw[e,hh]
    exact hyi.sh
   ·have:=hk2.size
    omega
   ·rw[hr1.left hk2 hbh hrh]
    exact hlt
section
variable {S S':Nat→Prop}{w w':World}{m bp bl g:Nat}{s:StD}{t:TypeId}{cs:Array Value}
theorem Lks.other {ms:List LkM}{ls:List LockD}(h:Lks S w bl ms ls)(hg:Blk w g t cs)(h1:t≠101)(h2:t≠3)(hk:Keep (λj=>j≠g) w w'):Lks S w' bl ms ls:=
 ⟨h.map.keep hk (h.map.ne_blk hg),λx hx=>(h.each x hx).keep hk (λe=>Blk.ne (h.each x hx).blk hg h1.symm e) (λk hk2 e=>(h.each x hx).row.ne_blk hg h2.symm (by rw[←e];exact hk2)),h.apart,h.data,h.sb⟩
theorem MSt.other (h:MSt S w m bp bl s)(hg:Blk w g t cs)(h0:t≠91)(h1:t≠101)(h2:t≠3)(hk:Keep (λj=>j≠g) w w'):MSt S w' m bp bl s:=by
 obtain⟨ms,hl⟩:=h.lk
 exact⟨h.blk.keep hk (λe=>Blk.ne h.blk hg h0.symm e),h.len,h.pm.keep hk (h.pm.ne_blk hg),⟨ms,hl.other hg h1 h2 hk⟩,h.nm,h.nb⟩
end
theorem MSt.tight {S:Nat→Prop}{w:World}{m bp bl:Nat}{s:StD}(h:MSt S w m bp bl s):MSt (λj=>S j∧j<w.heap.size) w m bp bl s:=by
 obtain⟨ms,hl⟩:=h.lk
 exact⟨h.blk,h.len,h.pm,⟨ms,hl.tight⟩,λe=>h.nm e.1,λe=>h.nb e.1⟩
abbrev resA (R:MRes):Array Value:=#[.int .i64 R.code,str R.val,.int .i64 R.n]
def resStored (w:World)(g:Nat)(R:MRes):World:=((w.setCell ⟨g,0,none⟩ (.int .i64 R.code)).setCell ⟨g,1,none⟩ (str R.val)).setCell ⟨g,2,none⟩ (.int .i64 R.n)
theorem res_keep {Z:Nat→Prop}{w0 w:World}{g:Nat}(h:Keep Z w0 w)(hg:g<w0.heap.size→¬Z g)(R:MRes):Keep Z w0 (resStored w g R):=((h.setCell hg _).setCell hg _).setCell hg _
theorem res_blk {w:World}{g:Nat}{R0:MRes}(h:Blk w g 33 (resA R0))(R:MRes):Blk (resStored w g R) g 33 (resA R):=((h.set 0 (.int .i64 R.code)).set 1 (str R.val)).set 2 (.int .i64 R.n)
theorem res_facts {w:World}{g:Nat}{R:MRes}(h:Blk w g 33 (resA R)):w.cell? ⟨g,0,none⟩=some (.int .i64 R.code)∧w.cell? ⟨g,1,none⟩=some (str R.val)∧w.cell? ⟨g,2,none⟩=some (.int .i64 R.n) ∧
 w.frozen? ⟨g,0,none⟩=false∧w.frozen? ⟨g,1,none⟩=false∧w.frozen? ⟨g,2,none⟩=false∧g<w.heap.size:=by
 have h0:=h.cell 0
 have h1:=h.cell 1
 have h2:=h.cell 2
 simp at h0 h1 h2
 exact⟨h0,h1,h2,h.frozen 0,h.frozen 1,h.frozen 2,h.lt⟩
structure OpPost (S:Nat→Prop)(m bp bl:Nat)(x:ResD×StD)(w:World)(e:Ending)(w':World):Prop where
 ret:e=.returned (resV x.1)
 st:MSt (λj=>S j∨w.heap.size≤j) w' m bp bl x.2
 keep:Keep (λj=>j≠m∧j≠bp∧¬S j) w w'
structure OpAt (w W:World)(G:Nat)(c i r o:Int)(k v d:Txt):Prop where
 fresh:Fresh w W
 cmd:Blk W G 30 #[.int .i64 c,.int .i64 i,.int .i64 r,.int .i64 o,str k,str v,str d]
 res:Blk W (G+1) 33 (resA ⟨0,[],0⟩)
 sz:G=w.heap.size
theorem op_at (w:World)(c i r o:Int)(k v d:Txt):OpAt w ((w.alloc (.cells #[.int .i64 c,.int .i64 i,.int .i64 r,.int .i64 o,str k,str v,str d] 30)).alloc (.cells #[.int .i64 0,str [],.int .i64 0] 33)) w.heap.size c i r o k v d:=
 ⟨((krz _ w).alloc _).alloc _,(Blk.new _ _ _).alloc _,Blk.newAt (by simp),rfl⟩
theorem OpAt.cells {w W:World}{G:Nat}{c i r o:Int}{k v d:Txt}(h:OpAt w W G c i r o k v d):W.cell? ⟨G,0,none⟩=some (.int .i64 c)∧W.cell? ⟨G,4,none⟩=some (str k)∧W.cell? ⟨G,5,none⟩=some (str v)∧W.cell? ⟨G,6,none⟩=some (str d)∧G<W.heap.size:=by
 have h0:=h.cmd.cell 0
 have h4:=h.cmd.cell 4
 have h5:=h.cmd.cell 5
 have h6:=h.cmd.cell 6
 simp at h0 h4 h5 h6
 exact⟨h0,h4,h5,h6,h.cmd.lt⟩
theorem op_ret {fn:Func}(hfn:fn.results=#[.cell 4 33]){a:Act}{g:Nat}(ha:a.tmps.getD 4 undef=.pointer (some ⟨g,0,none⟩))(hd:a.defers=[]){S S1:Nat→Prop}{w wx:World}{m bp bl:Nat}{x:ResD×StD}{R0:MRes}
 (hm:MSt S1 wx m bp bl x.2) (hS:∀j,S1 j→S j∨w.heap.size≤j) (hm0:m<w.heap.size) (hb0:bp<w.heap.size) (hn1:¬S m) (hn2:¬S bp) (hb:Blk wx g 33 (resA R0)) (hg:w.heap.size≤g) (hk:Keep (λj=>j≠m∧j≠bp∧¬S j) w wx) :
 bodyPost Tryz.prog fn (OpPost S m bp bl x w) Exit.ret a (resStored wx g x.1):=by
 refine bodyPost_ret (results_one hfn _ _ g 33 (resA x.1) _ ha (res_blk hb x.1) Tryz.underlying33 rfl (by kernel_rfl)) hd ⟨rfl,?_,res_keep hk (λh=>absurd h (by omega)) _⟩
 exact (hm.other hb (by decide) (by decide) (by decide) (res_keep (krz _ wx) (λ_ h=>h rfl) _)).widen hS (λh=>h.elim hn1 λh=>by omega) (λh=>h.elim hn2 λh=>by omega)
theorem op_ret2 {fn:Func}(hfn:fn.results=#[.cell 4 33]){a:Act}{g:Nat}(ha:a.tmps.getD 4 undef=.pointer (some ⟨g,0,none⟩))(hd:a.defers=[]){S S1:Nat→Prop}{w wx wy:World}{m bp bl:Nat}{x:ResD×StD}{R0:MRes}
 (hm:MSt S1 wx m bp bl x.2) (hS:∀j,S1 j→S j∨w.heap.size≤j) (hm0:m<w.heap.size) (hb0:bp<w.heap.size) (hn1:¬S m) (hn2:¬S bp) (hb:Blk wx g 33 (resA R0)) (hg:w.heap.size≤g) (hk:Keep (λj=>j≠m∧j≠bp∧¬S j) w wx) (hf:Fresh (resStored wx g x.1) wy) :
 bodyPost Tryz.prog fn (OpPost S m bp bl x w) Exit.ret a wy:=by
 refine bodyPost_ret (results_one hfn _ _ g 33 (resA x.1) _ ha ((res_blk hb x.1).keep hf trivial) Tryz.underlying33 rfl (by kernel_rfl)) hd ⟨rfl,?_,(res_keep hk (λh=>absurd h (by omega)) _).comp hf (λ_ _ h=>h) (λ_ _ _=>trivial)⟩
 exact ((hm.other hb (by decide) (by decide) (by decide) (res_keep (krz _ wx) (λ_ h=>h rfl) _)).fresh hf).widen hS (λh=>h.elim hn1 λh=>by omega) (λh=>h.elim hn2 λh=>by omega)
theorem pfindD_none {k:Txt}{ps:Ps}(h:pfind k ps=none):pfindD k ps=none:=by
 rw[pfind_eq] at h
 simpa using h
theorem pfindD_some {k u:Txt}{ps:Ps}(h:pfind k ps=some u):∃a,pfindD k ps=some (a,u):=by
 rw[pfind_eq] at h
 obtain⟨⟨a,b⟩,h1,h2⟩:=Option.map_eq_some_iff.1 h
 simp only at h2
 subst h2
 exact⟨a,h1⟩
theorem getop_any (ita:Int→Txt) (S:Nat→Prop) (m bp bl:Nat) (s:StD) (c i r:Int) (k v d:Txt) (w:World) (hm:MSt S w m bp bl s) (hk:k.length≤8) :
 Calls Tryz.prog 74 #[.pointer (some ⟨m,0,none⟩),cmdV c i r 2 k v d] w (OpPost S m bp bl (onKeyD numb ita 2 k v d s) w):=by
 obtain⟨X,hX⟩:=exz (onKeyD numb ita 2 k v d s)
 rw[←hX]
 have HO:=hdz (op_at w c i r 2 k v d)
 obtain⟨G,hG⟩:=exz (w.heap.size)
 obtain⟨W,hW⟩:=exz ((w.alloc (.cells #[.int .i64 c,.int .i64 i,.int .i64 r,.int .i64 2,str k,str v,str d] 30)).alloc (.cells #[.int .i64 0,str [],.int .i64 0] 33))
 rw[←hW,←hG] at HO
 obtain⟨k0,k4,k5,k6,kl⟩:=HO.out.cells
 have hmW:=hm.fresh HO.out.fresh
 obtain⟨x0,-,-⟩:=hmW.three
 have hmlt:=hmW.blk.lt
 have hml:=hm.blk.lt
 have hbl:=hm.pm.lt
 have hlk:=look_str hmW.pm (l:=k) (by omega)
 have HA:=hdz (aiz hm (aiz hmW hX))
 clear hm hmW hX
 go_enter Tryz.func74,Tryz.ntmps74
 go_wp2_with fail
 simp only[←hG]
 rw[←hW]
 clear hW hG
 go_quiet (fail)
 have HD:=hdz (λl n=>done_any l n (W.drewN nq))
 have HC:=hdz (λn=>code_any n (W.drewN nq))
 have HQ:=hdz (show Fresh W (W.drewN nq) from (krz _ W).drewN nq)
 cases hpf:pfind k s.pairs with
 | none=>
  rw[hpf] at hlk
  go_wp2_with fail
  refine (HC.out _).mono ?_
  rintro e W4 ⟨rfl,f4⟩
  have HF:=hdz (HQ.out.trans f4)
  obtain⟨r0,r1,r2,s0,s1,s2,rl⟩:=res_facts (HO.out.res.keep HF.out trivial)
  clear f4 HC HD HQ
  go_wp2_with fail
  obtain⟨hm,hmW,hX⟩:=HA.out
  have e:X=(⟨2,[],0⟩,s):=by rw[hX];unfold onKeyD;rw[pfindD_none hpf];simp
  rw[e]
  exact op_ret rfl rfl rfl (hmW.fresh HF.out) (λj h=>.inl h) hml hbl hm.nm hm.nb (HO.out.res.keep HF.out trivial) (by have:=HO.out.sz;omega) ((HO.out.fresh.trans HF.out).weaken λ_ _ _=>trivial)
 | some u=>
  rw[hpf] at hlk
  go_wp2_with fail
  refine (HD.out u 1).mono ?_
  rintro e W4 ⟨rfl,f4⟩
  have HF:=hdz (HQ.out.trans f4)
  obtain⟨r0,r1,r2,s0,s1,s2,rl⟩:=res_facts (HO.out.res.keep HF.out trivial)
  clear f4 HC HD HQ
  go_wp2_with fail
  obtain⟨hm,hmW,hX⟩:=HA.out
  obtain⟨a,ha⟩:=pfindD_some hpf
  have e:X=(⟨1,u,1⟩,s):=by rw[hX];unfold onKeyD;rw[ha];simp
  rw[e]
  exact op_ret rfl rfl rfl (hmW.fresh HF.out) (λj h=>.inl h) hml hbl hm.nm hm.nb (HO.out.res.keep HF.out trivial) (by have:=HO.out.sz;omega) ((HO.out.fresh.trans HF.out).weaken λ_ _ _=>trivial)
theorem fence_any (S:Nat→Prop) (m bp bl:Nat) (s:StD) (c i r:Int) (k v d:Txt) (w:World) (hm:MSt S w m bp bl s) (hk:k.length≤8) (hT:Tabs w) (hv:v.length≤8) :
 Calls Tryz.prog 80 #[.pointer (some ⟨m,0,none⟩),cmdV c i r 8 k v d] w (OpPost S m bp bl (onLockD numb c 8 k v s) w):=by
 obtain⟨X,hX⟩:=exz (onLockD numb c 8 k v s)
 rw[←hX]
 have HO:=hdz (op_at w c i r 8 k v d)
 obtain⟨G,hG⟩:=exz (w.heap.size)
 obtain⟨W,hW⟩:=exz ((w.alloc (.cells #[.int .i64 c,.int .i64 i,.int .i64 r,.int .i64 8,str k,str v,str d] 30)).alloc (.cells #[.int .i64 0,str [],.int .i64 0] 33))
 rw[←hW,←hG] at HO
 obtain⟨k0,k4,k5,k6,kl⟩:=HO.out.cells
 have hmW:=hm.fresh HO.out.fresh
 obtain⟨-,x1,-⟩:=hmW.three
 have hmlt:=hmW.blk.lt
 have hml:=hm.blk.lt
 have hbl:=hm.pm.lt
 have HN:=hdz (λq=>number_any v (W.drewN q) (hT.fresh (HO.out.fresh.drewN q)))
 have HA:=hdz (aiz hm (aiz hmW hX))
 obtain⟨ms,hls⟩:=hmW.lk
 have HLS:=hdz hls
 clear hm hmW hX hT
 cases hf:lfind k s.locks with
 | none=>
  have hlk:=look_lk hls (k:=k) (by omega) _ (show _=.pointer none by rw[hls.gone hf];rfl)
  clear hls
  go_enter Tryz.func80,Tryz.ntmps80
  go_wp2_with fail
  simp only[←hG]
  rw[←hW]
  clear hW hG
  go_quiet (fail)
  have HC:=hdz (λn=>code_any n (W.drewN nq))
  have HQ:=hdz (show Fresh W (W.drewN nq) from (krz _ W).drewN nq)
  go_wp2_with fail
  refine (HC.out _).mono ?_
  rintro e W4 ⟨rfl,f4⟩
  have HF:=hdz (HQ.out.trans f4)
  obtain⟨r0,r1,r2,s0,s1,s2,rl⟩:=res_facts (HO.out.res.keep HF.out trivial)
  clear f4 HC HQ
  go_wp2_with fail
  obtain⟨hm,hmW,hX⟩:=HA.out
  have e:X=(⟨2,[],0⟩,s):=by rw[hX];unfold onLockD;rw[hf];simp
  rw[e]
  exact op_ret rfl rfl rfl (hmW.fresh HF.out) (λj h=>.inl h) hml hbl hm.nm hm.nb (HO.out.res.keep HF.out trivial) (by have:=HO.out.sz;omega) ((HO.out.fresh.trans HF.out).weaken λ_ _ _=>trivial)
 | some l=>
  obtain⟨x,hx,hxl,hxk,hxi,hxf⟩:=lk_find hls hf
  obtain⟨-,y1,-⟩:=hxi.cells
  rw[hxl] at y1
  have hlk:=look_lk hls (k:=k) (by omega) _ hxf
  obtain⟨h,hh⟩:=exz (x.h)
  rw[←hh] at y1 hlk
  have hhl:=hxi.lt
  rw[←hh] at hhl
  clear hls hx hxl hxk hxi hxf hh
  go_enter Tryz.func80,Tryz.ntmps80
  go_wp2_with fail
  simp only[←hG]
  rw[←hW]
  clear hW hG
  go_quiet (fail)
  go_wp2_with fail
  refine (HN.out _).mono ?_
  rintro e W3 ⟨rfl,f3⟩
  have f3':Fresh W W3:=((krz _ W).drewN nq).trans f3
  have z1:=f3'.cellAt y1 trivial
  have hhl3:h<W3.heap.size:=ltz hhl f3'.size
  have HF3:=hdz f3'
  obtain⟨r0,r1,r2,s0,s1,s2,rl⟩:=res_facts (HO.out.res.keep f3' trivial)
  have HD:=hdz (λl n=>done_any l n W3)
  obtain⟨nv,hnv⟩:∃z,z=(numb v).1:=⟨_,rfl⟩
  obtain⟨tk,htk⟩:∃z,z=l.token:=⟨_,rfl⟩
  rw[←htk] at z1
  rw[←hnv]
  have HV:=hdz (aiz hnv htk)
  clear hnv htk f3 f3' HN y1 x1
  by_cases hne:nv=tk
  ·subst hne
   clear r0 r1 r2 s0 s1 s2 rl
   go_wp2_with fail
   refine (HD.out _ _).mono ?_
   rintro e W4 ⟨rfl,f4⟩
   have HF:=hdz (HF3.out.trans f4)
   obtain⟨r0,r1,r2,s0,s1,s2,rl⟩:=res_facts (HO.out.res.keep HF.out trivial)
   clear f4 HD
   go_wp2_with fail
   obtain⟨hm,hmW,hX⟩:=HA.out
   have e:X=(⟨1,[],nv⟩,s):=by rw[hX];unfold onLockD;rw[hf];simp only;rw[if_neg (by omega),if_neg (by omega),←HV.out.1,←HV.out.2,if_pos rfl]
   rw[e]
   exact op_ret rfl rfl rfl (hmW.fresh HF.out) (λj h=>.inl h) hml hbl hm.nm hm.nb (HO.out.res.keep HF.out trivial) (by have:=HO.out.sz;omega) ((HO.out.fresh.trans HF.out).weaken λ_ _ _=>trivial)
  ·go_wp2_with fail
   obtain⟨hm,hmW,hX⟩:=HA.out
   have e:X=(⟨9,[],tk⟩,s):=by rw[hX];unfold onLockD;rw[hf];simp only;rw[if_neg (by omega),if_neg (by omega),←HV.out.1,←HV.out.2,if_neg hne]
   rw[e]
   exact op_ret rfl rfl rfl (hmW.fresh HF3.out) (λj h=>.inl h) hml hbl hm.nm hm.nb (HO.out.res.keep HF3.out trivial) (by have:=HO.out.sz;omega) ((HO.out.fresh.trans HF3.out).weaken λ_ _ _=>trivial)
theorem end_any (S:Nat→Prop) (m bp bl:Nat) (s:StD) (c i r:Int) (k v d:Txt) (w:World) (hm:MSt S w m bp bl s) (hi:LInv s.locks s.tok) (hT:Tabs w) (he:0≤(numb v).1∧(numb v).1<16) :
 Calls Tryz.prog 81 #[.pointer (some ⟨m,0,none⟩),cmdV c i r 9 k v d] w (OpPost S m bp bl (endD numb v s) w):=by
 obtain⟨X,hX⟩:=exz (endD numb v s)
 rw[←hX]
 have HO:=hdz (op_at w c i r 9 k v d)
 obtain⟨G,hG⟩:=exz (w.heap.size)
 obtain⟨W,hW⟩:=exz ((w.alloc (.cells #[.int .i64 c,.int .i64 i,.int .i64 r,.int .i64 9,str k,str v,str d] 30)).alloc (.cells #[.int .i64 0,str [],.int .i64 0] 33))
 rw[←hW,←hG] at HO
 obtain⟨k0,k4,k5,k6,kl⟩:=HO.out.cells
 have hmW:=hm.fresh HO.out.fresh
 have hmlt:=hmW.blk.lt
 have hml:=hm.blk.lt
 have hbl:=hm.pm.lt
 have HN:=hdz (number_any v W (hT.fresh HO.out.fresh))
 obtain⟨q,hq⟩:∃q:Nat,q=(numb v).1.toNat:=⟨_,rfl⟩
 have hq16:q<16:=by omega
 have hqi:(numb v).1=(q:Int):=by omega
 rw[hqi] at HN
 have hqs:q<s.ss.length:=by rw[hm.len];exact hq16
 have hc1:W.cell? ⟨m,3+q*5,none⟩=some (.int .i64 (s.ss.getD q noSes).inc):=by
  rw[hmW.cell]
  have:=mcell_sess (bp:=bp) (bl:=bl) (tok:=s.tok) (ss:=s.ss) hqs (j:=0) (by omega)
  rw[Nat.add_zero] at this
  rw[this,List.getD_eq_getElem?_getD,List.getElem?_eq_getElem hqs]
  rfl
 obtain⟨zi,hzi⟩:∃z,z=(s.ss.getD q noSes).inc:=⟨_,rfl⟩
 rw[←hzi] at hc1
 have HA:=hdz (aiz hm (aiz hmW (aiz hX (aiz hi (aiz hqi hzi)))))
 have hqi16:(q:Int)<16:=by omega
 clear hm hmW hX hT hi hq he hqi hzi hqs
 go_enter Tryz.func81,Tryz.ntmps81
 go_wp2_with fail
 simp only[←hG]
 rw[←hW]
 clear hW hG
 refine HN.out.mono ?_
 rintro e W3 ⟨rfl,f3⟩
 have z1:=f3.cellAt hc1 trivial
 have hml3:m<W3.heap.size:=ltz hmlt f3.size
 have HF3:=hdz f3
 have HC:=hdz (λn=>code_any n W3)
 have HL:=hdz (lets_any (λj=>S j∧j<w.heap.size) m bp bl s (q:Int) W3 ((HA.out.1.tight.fresh HO.out.fresh).fresh f3) HA.out.2.2.2.1)
 clear f3 HN hc1
 by_cases h0:zi=0
 ·subst h0
  go_wp2_with fail
  refine (HC.out _).mono ?_
  rintro e W4 ⟨rfl,f4⟩
  have HF:=hdz (HF3.out.trans f4)
  obtain⟨r0,r1,r2,s0,s1,s2,rl⟩:=res_facts (HO.out.res.keep HF.out trivial)
  clear f4 HC HL
  go_wp2_with fail
  obtain⟨hm,hmW,hX,hi,hqi,hzi⟩:=HA.out
  have e:X=(⟨2,[],0⟩,s):=by rw[hX];unfold endD;rw[hqi,show ((q:Int)).toNat=q by omega,←hzi,if_pos rfl]
  rw[e]
  exact op_ret rfl rfl rfl (hmW.fresh HF.out) (λj h=>.inl h) hml hbl hm.nm hm.nb (HO.out.res.keep HF.out trivial) (by have:=HO.out.sz;omega) ((HO.out.fresh.trans HF.out).weaken λ_ _ _=>trivial)
 ·go_wp2_with fail
  refine HL.out.mono ?_
  rintro e W4 ⟨rfl,hm4,hk4⟩
  have HM4:=hdz (aiz hm4 hk4)
  have HD:=hdz (λl n=>done_any l n W4)
  clear hm4 hk4 HC HL
  go_wp2_with fail
  refine (HD.out _ _).mono ?_
  rintro e W5 ⟨rfl,f5⟩
  have hb5:Blk W5 (G+1) 33 (resA ⟨0,[],0⟩):=((HO.out.res.keep HF3.out trivial).keep HM4.out.2 (by
   have hsz:=HO.out.sz
   exact⟨by omega,λh=>by have:=h.2;omega⟩)).keep f5 trivial
  obtain⟨r0,r1,r2,s0,s1,s2,rl⟩:=res_facts hb5
  have H5:=hdz (aiz hb5 f5)
  clear f5 HD hb5
  go_wp2_with fail
  obtain⟨hm,hmW,hX,hi,hqi,hzi⟩:=HA.out
  have e:X=(⟨1,[],(letsD (q:Int) s).1⟩,(letsD (q:Int) s).2):=by rw[hX];unfold endD;rw[hqi,show ((q:Int)).toNat=q by omega,←hzi,if_neg h0]
  rw[e]
  have hsz:=HO.out.sz
  exact op_ret rfl rfl rfl (HM4.out.1.fresh H5.out.2) (λj h=>h.elim (λh=>.inl h.1) λh=>.inr (by have:=HF3.out.size;have:=HO.out.fresh.size;omega)) hml hbl hm.nm hm.nb H5.out.1 (by omega) (((HO.out.fresh.trans HF3.out).comp HM4.out.2 (λ_ _ _=>trivial) (λ_ _ h=>⟨h.1,λe=>h.2.2 e.1⟩)).comp H5.out.2 (λ_ _ h=>h) (λ_ _ _=>trivial))
def nibInts:List Int:=[0,498536548,997073096,651767980,1994146192,1802195444,1303535960,1342533948,3988292384,4027552580,3604390888,3412177804,2607071920,2262029012,2685067896,3183342108]
def Nib (w : World) : Prop := Lib.TabIs Tryz.prog w "quorate/wire.nibble" .u32 nibInts
theorem gNib : Tryz.prog.globalNamed "quorate/wire.nibble" = some 0 := by kernel_rfl
theorem nib_lt_heap {w:World} (h:Nib w):0<w.heap.size:=by
 rcases Nat.lt_or_ge 0 w.heap.size with hlt | hge
 ·exact hlt
 ·have h1:=h.cell gNib 0 (by decide)
  simp[World.cell?,Array.getElem?_eq_none hge] at h1
theorem nib_val (r:Nat)(hr:r<16):nibInts.getD r 0=((nibTab.getD r 0:Nat):Int):=by
 have:∀r,r<16→nibInts.getD r 0=((nibTab.getD r 0:Nat):Int):=by decide
 exact this r hr
theorem nibTab_lt (r:Nat)(hr:r<16):nibTab.getD r 0<4294967296:=by
 have:∀r,r<16→nibTab.getD r 0<4294967296:=by decide
 exact this r hr
theorem nibStep_lt {w:Nat}(h:w<4294967296):nibStep w<4294967296:=xor_lt32 (by omega) (nibTab_lt _ (by omega))
theorem crc_take (bs:List UInt8)(k:Nat)(hk:k<bs.length):crcAt (bs.take (k+1))=nibStep (nibStep (crcAt (bs.take k) ^^^ bs[k].toNat)):=by
 rw[←List.take_append_getElem hk,crcAt_snoc,nib_two]
theorem sum_any (Z:Nat→Prop) (A:Option Addr) (n c:Nat) (bs:List UInt8) (w:World) (hb:Rd w Z 1 A n (Lib.byteCells bs)) (hn:n≤1099511627770) (hT:Nib w) :
 Calls Tryz.prog 41 #[.slice A n c] w λe w'=>e=.returned (.int .i64 (crcB bs:Int))∧w=w':=by
 have HB:=hdz hb
 have hlen:bs.length=n:=by simpa[Lib.byteCells] using hb.1
 have HN:=hdz hlen
 have HT:=hdz (fun (r:Nat) (hr:r<16)=>(show w.cell? ⟨0,r,none⟩=some (.int .u32 ((nibTab.getD r 0:Nat):Int)) by rw[←nib_val r hr];exact hT.cell gNib r hr))
 have hgl:=nib_lt_heap hT
 clear hb hlen hT
 go_enter Tryz.func41,Tryz.ntmps41
 go_wp2
 go_loop [3,8] (λv i=>∃ (k:Nat) (y:Int),k≤n∧i=.int .i64 (k:Int)∧v=.int .u32 y∧Hid (y=(crcAt (bs.take k):Int))) (λ_ i=>((n:Int) - intOf i).toNat)
 case atStart=>exact⟨0,4294967295,by omega,rfl,rfl,rfl⟩
 case round=>
  obtain⟨k,y,hk,rfl,rfl,HR⟩:=hrel
  by_cases hin:k<n
  ·obtain⟨b,o,rfl,hzb,hll,hcell⟩:=HB.out.at1 hin
   have hkb:k<bs.length:=by rw[HN.out];exact hin
   rw[show (Lib.byteCells bs)[k]=.int .u8 (bs[k].toNat:Int) by simp[Lib.byteCells]] at hcell
   obtain⟨x,hx⟩:∃x:Nat,x=crcAt (bs.take k):=⟨_,rfl⟩
   have hx32:x<4294967296:=hx ▸ crcAt_lt _
   obtain⟨ch,hch⟩:∃ch:Nat,ch=bs[k].toNat:=⟨_,rfl⟩
   have hc:ch<256:=hch ▸ bs[k].toNat_lt
   rw[←hch] at hcell
   have hE:=crc_take bs k hkb
   rw[←hx,←hch] at hE
   obtain rfl:y=(x:Int):=by rw[HR.out,hx]
   have HH:=hdz hE
   clear hE hx hch HR hzb hll
   go_upto_region 6 with (fail)
   rw[u32_xor_nat x ch hx32 (by omega)]
   obtain⟨y1,hy1⟩:=exz (x ^^^ ch)
   have hy32:y1<4294967296:=hy1 ▸ xor_lt32 hx32 (by omega)
   rw[←hy1] at HH ⊢
   obtain⟨g1,hg1⟩:∃g1:Int,g1=bits BinOp.and IntKind.u32 (y1:Int) 15:=⟨_,rfl⟩
   obtain⟨t1,ht1⟩:∃t1:Nat,t1=nibTab.getD (y1 % 16) 0:=⟨_,rfl⟩
   have t32:t1<4294967296:=ht1 ▸ nibTab_lt _ (by omega)
   have e1:g1=((y1 % 16:Nat):Int):=by rw[hg1,show (15:Int)=((15:Nat):Int) from rfl,u32_and_nat y1 15 hy32 (by omega),nat_mask4]
   have c1:w.cell? ⟨0,g1.toNat,none⟩=some (.int .u32 (t1:Int)):=by rw[e1,ht1];exact HT.out (y1 % 16) (by omega)
   have r1:0≤g1:=by omega
   have r2:g1<16:=by omega
   have E1:=hdz hg1
   obtain⟨y2,hy2⟩:=exz (nibStep y1)
   have y32:y2<4294967296:=hy2 ▸ nibStep_lt hy32
   have X1:bits BinOp.xor IntKind.u32 ((y1:Int) / 16) (t1:Int)=(y2:Int):=by
    rw[show (y1:Int) / 16=((y1 / 16:Nat):Int) by omega,u32_xor_nat (y1 / 16) t1 (by omega) t32,hy2,ht1]
    rfl
   rw[←hy2] at HH
   have HX:=hdz X1
   clear e1 hg1 hx32 hc hy1 ht1 t32 hy32 hy2 X1
   go_upto_region 7 with (first | simp only[←E1.out] | fail)
   rw[HX.out]
   clear c1 r1 r2 E1 HX
   obtain⟨g2,hg2⟩:∃g2:Int,g2=bits BinOp.and IntKind.u32 (y2:Int) 15:=⟨_,rfl⟩
   obtain⟨t2,ht2⟩:∃t2:Nat,t2=nibTab.getD (y2 % 16) 0:=⟨_,rfl⟩
   have t32:t2<4294967296:=ht2 ▸ nibTab_lt _ (by omega)
   have e2:g2=((y2 % 16:Nat):Int):=by rw[hg2,show (15:Int)=((15:Nat):Int) from rfl,u32_and_nat y2 15 y32 (by omega),nat_mask4]
   have c2:w.cell? ⟨0,g2.toNat,none⟩=some (.int .u32 (t2:Int)):=by rw[e2,ht2];exact HT.out (y2 % 16) (by omega)
   have r1:0≤g2:=by omega
   have r2:g2<16:=by omega
   have E2:=hdz hg2
   obtain⟨y3,hy3⟩:=exz (nibStep y2)
   have X2:bits BinOp.xor IntKind.u32 ((y2:Int) / 16) (t2:Int)=(y3:Int):=by
    rw[show (y2:Int) / 16=((y2 / 16:Nat):Int) by omega,u32_xor_nat (y2 / 16) t2 (by omega) t32,hy3,ht2]
    rfl
   rw[←hy3] at HH
   have HX:=hdz X2
   clear e2 hg2 ht2 t32 y32 hy3 X2
   go_upto_region 8 with (first | simp only[←E2.out] | fail)
   rw[HX.out]
   go_wp2
   exact⟨⟨k+1,y3,by omega,by simp,rfl,congrArg (λz:Nat=>(z:Int)) HH.out.symm⟩,by simp[intOf];omega⟩
  ·have hE:crcAt (bs.take k)=crcAt bs:=by rw[List.take_of_length_le (by have:=HN.out;omega)]
   obtain⟨x,hx⟩:∃x:Nat,x=crcAt bs:=⟨_,rfl⟩
   have hx32:x<4294967296:=hx ▸ crcAt_lt _
   obtain rfl:y=(x:Int):=by rw[HR.out,hE,hx]
   have HC:=hdz (show crcB bs=x ^^^ 4294967295 by rw[hx];rfl)
   clear hE HR hx
   have hX:wrap64 (bits BinOp.xor IntKind.u32 IntKind.u32.max (x:Int))=(crcB bs:Int):=by
    have h1:bits BinOp.xor IntKind.u32 IntKind.u32.max (x:Int)=((4294967295 ^^^ x:Nat):Int):=u32_xor_nat 4294967295 x (by omega) hx32
    have h2:=crcB_lt bs
    rw[h1,Nat.xor_comm,←HC.out]
    simp only[wrap64]
    omega
   have HX:=hdz hX
   clear hX
   go_wp2
   go_ret
   exact⟨by rw[←HX.out];rfl,rfl⟩
end Go.Proofs.YtlibhkehebioeaaGreatDoor
