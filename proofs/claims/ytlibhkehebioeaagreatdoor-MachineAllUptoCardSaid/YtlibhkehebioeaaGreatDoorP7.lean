/- A PART OF THE PROOF. No condition. -/
import Derived.Test.YtlibhkehebioeaaGreatDoorP5
import Derived.Test.YtlibhkehebioeaaGreatDoorP4
import Derived.Test.YtlibhkehebioeaaGreatDoorP0
namespace Go.Proofs.YtlibhkehebioeaaGreatDoor
set_option linter.unusedVariables false
set_option linter.unusedSimpArgs false
set_option maxRecDepth 100000
set_option maxHeartbeats 40000000
open Go.RowKit
theorem oNum_le {bs:Txt}{p hi v q:Nat}(h:oNum bs p hi=some (v,q)):v≤hi:=by
 obtain⟨_,_,_,h⟩:=oNum_inv h
 exact h
theorem oNum_to {bs:Txt} {p hi lo v q:Nat} (h:oNum bs p hi=some (v,q)) (hv:v≤lo):oNum bs p lo=some (v,q):=by
 unfold oNum at h ⊢
 split at h
 ·rename_i hc
  injection h with h
  injection h with h1 h2
  rw[if_pos ⟨hc.1,by omega⟩,h1,h2]
 ·cases h
theorem rdPair_ok {bs:Txt}(p:Nat)(bad:Bool)(h:(rdPair bs p bad).2.2=false):bad=false∧oPair bs p=some ((rdPair bs p bad).1,(rdPair bs p bad).2.1):=by
 unfold rdPair at h ⊢
 simp only at h ⊢
 obtain⟨h1,h2⟩:=o_of_text h
 obtain⟨h3,h4⟩:=o_of_text h1
 refine⟨h3,?_⟩
 unfold oPair
 rw[h4]
 simp only[Option.bind_some]
 rw[h2]
 rfl
theorem rdPair_of {bs:Txt}(p:Nat)(x:Txt×Txt)(p':Nat)(h:oPair bs p=some (x,p')):rdPair bs p false=(x,p',false):=by
 unfold oPair at h
 obtain⟨⟨k,q⟩,h1,h⟩:=some_bind h
 obtain⟨⟨v,q2⟩,h2,h⟩:=some_bind h
 injection h with h
 injection h with e1 e2
 simp only at h2 e1 e2
 have h3:=text_of_o h1
 have h4:=text_of_o h2
 unfold rdPair
 rw[h3]
 simp only
 rw[h4,←e1,←e2]
theorem rdCl_ok {bs:Txt}(p:Nat)(bad:Bool)(h:(rdCl bs p bad).2.2=false):bad=false∧oCl bs p=some ((rdCl bs p bad).1,(rdCl bs p bad).2.1):=by
 have h0:(rCount bs p bad 15).2.2=false:=h
 have h1:=o_of_count (hi:=15) h0
 have h2:oNum bs p 15=some ((rCount bs p bad 15).1,(rCount bs p bad 15).2.1):=h1.2
 refine⟨h1.1,?_⟩
 unfold oCl
 rw[h2]
 rfl
theorem rdCl_of {bs:Txt}(p:Nat)(x:Int)(p':Nat)(h:oCl bs p=some (x,p')):rdCl bs p false=(x,p',false):=by
 unfold oCl at h
 obtain⟨⟨c,q⟩,h1,h⟩:=some_bind h
 injection h with h
 injection h with e1 e2
 have h2:rCount bs p false 15=(c,q,false):=count_of_o h1
 unfold rdCl
 rw[h2,←e1,←e2]
theorem qchk_iff:∀ (l seen:List Int),chkAll qchk qnxt seen l↔l.Nodup∧∀c∈l,c ∉ seen
 | [],seen=>by simp[chkAll]
 | c::r,seen=>by
  rw[chkAll,qchk_iff r (qnxt seen c)]
  unfold qchk qnxt
  constructor
  ·rintro ⟨h1,h2,h3⟩
   have h1:c ∉ seen:=by simpa using h1
   refine⟨List.nodup_cons.2 ⟨λh=>h3 c h (by simp),h2⟩,λd hd=>?_⟩
   rcases List.mem_cons.1 hd with rfl | hd
   ·exact h1
   ·exact λh=>h3 d hd (by simp[h])
  ·rintro ⟨h1,h3⟩
   obtain⟨h1,h2⟩:=List.nodup_cons.1 h1
   refine⟨by simpa using h3 c (by simp),h2,λd hd h=>?_⟩
   rcases List.mem_cons.1 h with rfl | h
   ·exact h1 hd
   ·exact h3 d (by simp[hd]) h
def lckOk (tok:Nat)(x:LockD):Prop:=x.token≤(tok:Int)∧x.queue.Nodup∧x.holder ∉ x.queue
instance (tok:Nat) (x:LockD):Decidable (lckOk tok x):=by unfold lckOk;infer_instance
def oLockT (bs:Txt)(tok:Nat)(p:Nat):Option (LockD×Nat):=(oLock bs p).bind λx=>if lckOk tok x.1 then some x else none
theorem rdLock_ok {bs:Txt} {tok:Nat} (ht:tok≤99999999) (p:Nat) (bad:Bool) (h:(rdLock bs (tok:Int) p bad).2.2=false):bad=false∧oLockT bs tok p=some ((rdLock bs (tok:Int) p bad).1,(rdLock bs (tok:Int) p bad).2.1):=by
 unfold rdLock at h ⊢
 simp only at h ⊢
 generalize ha:rText bs p bad 8=a at h ⊢
 generalize hb:rCount bs a.2.1 a.2.2 15=b at h ⊢
 generalize hc:rCount bs b.2.1 b.2.2 (tok:Int)=c at h ⊢
 unfold rQueue at h ⊢
 generalize hd:rCount bs c.2.1 c.2.2 15=d at h ⊢
 obtain⟨x1,x2,x3⟩:=runF_ok (one:=oCl bs) rdCl_ok _ _ _ _ h
 have y0:(rCount bs c.2.1 c.2.2 15).2.2=false:=by rw[hd];exact x1
 obtain⟨y1,y2⟩:=o_of_count (hi:=15) y0
 have y2:oNum bs c.2.1 15=some (d.1,d.2.1):=by rw[←hd];exact y2
 have z0:(rCount bs b.2.1 b.2.2 (tok:Int)).2.2=false:=by rw[hc];exact y1
 obtain⟨z1,z2⟩:=o_of_count (hi:=tok) z0
 have z2:oNum bs b.2.1 tok=some (c.1,c.2.1):=by rw[←hc];exact z2
 have u0:(rCount bs a.2.1 a.2.2 15).2.2=false:=by rw[hb];exact z1
 obtain⟨u1,u2⟩:=o_of_count (hi:=15) u0
 have u2:oNum bs a.2.1 15=some (b.1,b.2.1):=by rw[←hb];exact u2
 have v0:(rText bs p bad 8).2.2=false:=by rw[ha];exact u1
 obtain⟨v1,v2⟩:=o_of_text v0
 have v2:oTxt bs p=some (a.1,a.2.1):=by rw[←ha];exact v2
 refine⟨v1,?_⟩
 have z3:=oNum_to z2 (lo:=99999999) (by have:=oNum_le z2;omega)
 obtain⟨q1,q2⟩:=(qchk_iff _ _).1 x3
 unfold oLockT oLock
 rw[v2]
 simp only[Option.bind_some]
 rw[u2]
 simp only[Option.bind_some]
 rw[z3]
 simp only[Option.bind_some]
 rw[y2]
 simp only[Option.bind_some]
 rw[x2]
 simp only[Option.bind_some]
 rw[if_pos]
 refine⟨?_,q1,λhm=>?_⟩
 ·have:=oNum_le z2
  show (c.1:Int)≤(tok:Int)
  omega
 ·exact q2 _ hm (by simp)
theorem rdLock_of {bs:Txt} {tok:Nat} (p:Nat) (x:LockD) (p':Nat) (h:oLockT bs tok p=some (x,p')):rdLock bs (tok:Int) p false=(x,p',false):=by
 unfold oLockT at h
 obtain⟨⟨y,q⟩,h1,h⟩:=some_bind h
 simp only at h
 split at h
 ·rename_i hk
  injection h with h
  injection h with e1 e2
  subst e1 e2
  unfold oLock at h1
  obtain⟨⟨k,q1⟩,g1,h⟩:=some_bind h1
  clear h1
  obtain⟨⟨hd,q2⟩,h2,h⟩:=some_bind h
  obtain⟨⟨t,q3⟩,h3,h⟩:=some_bind h
  obtain⟨⟨w,q4⟩,h4,h⟩:=some_bind h
  obtain⟨⟨qs,q5⟩,h5,h⟩:=some_bind h
  injection h with h
  injection h with e1 e2
  simp only at h2 h3 h4 h5 e1 e2
  subst e1 e2
  have a1:=text_of_o g1
  have a2:rCount bs q1 false 15=(hd,q2,false):=count_of_o h2
  have htl:t≤tok:=by
   have:((t:Nat):Int)≤(tok:Int):=hk.1
   omega
  have a3:rCount bs q2 false (tok:Int)=(t,q3,false):=count_of_o (oNum_to h3 htl)
  have a4:rCount bs q3 false 15=(w,q4,false):=count_of_o h4
  have a5:=runF_of (chk:=qchk) (nxt:=qnxt) (rdCl_of (bs:=bs)) w q4 q5 [(hd:Int)] qs h5 ((qchk_iff _ _).2 ⟨hk.2.1,λc hc hm=>by
   have e:c=(hd:Int):=by simpa using hm
   subst e
   exact hk.2.2 hc⟩)
  unfold rdLock rQueue
  rw[a1]
  simp only
  rw[a2]
  simp only
  rw[a3]
  simp only
  rw[a4]
  simp only
  rw[a5]
 ·cases h
theorem oMany_guard {α:Type} {one:Nat→Option (α×Nat)} {P:α→Prop} [DecidablePred P]:∀ (n p:Nat) (l:List α) (p':Nat),oMany (λq=>(one q).bind λx=>if P x.1 then some x else none) n p=some (l,p')↔oMany one n p=some (l,p')∧∀x∈l,P x
 | 0,p,l,p'=>by
  simp only[oMany,Option.some.injEq,Prod.mk.injEq]
  constructor
  ·rintro ⟨rfl,rfl⟩;simp
  ·exact λh=>h.1
 | n + 1,p,l,p'=>by
  rw[oMany,oMany]
  constructor
  ·intro h
   obtain⟨⟨x,q⟩,g1,g⟩:=some_bind h
   clear h
   obtain⟨⟨y,q1⟩,h2,g1⟩:=some_bind g1
   obtain⟨⟨r,q2⟩,h3,g⟩:=some_bind g
   simp only at g1 h3 g
   split at g1
   ·rename_i hP
    injection g1 with g1
    injection g1 with e1 e2
    injection g with g
    injection g with e3 e4
    subst e1 e2 e3 e4
    obtain⟨g1,g2⟩:=(oMany_guard n q1 r q2).1 h3
    rw[h2]
    simp only[Option.bind_some]
    rw[g1]
    refine⟨rfl,λz hz=>?_⟩
    rcases List.mem_cons.1 hz with rfl | hz
    ·exact hP
    ·exact g2 z hz
   ·cases g1
  ·rintro ⟨h0,hP⟩
   obtain⟨⟨x,q⟩,h1,h⟩:=some_bind h0
   clear h0
   obtain⟨⟨r,q2⟩,h3,h⟩:=some_bind h
   injection h with h
   injection h with e1 e2
   subst e1 e2
   rw[h1]
   simp only[Option.bind_some]
   rw[if_pos (hP x (by simp))]
   simp only[Option.bind_some]
   rw[(oMany_guard n q r q2).2 ⟨h3,λz hz=>hP z (by simp[hz])⟩]
   rfl
theorem rdSes_ok {bs:Txt}(p:Nat)(bad:Bool)(h:(rdSes bs p bad).2.2=false):bad=false∧oSes bs p=some ((rdSes bs p bad).1,(rdSes bs p bad).2.1):=by
 unfold rdSes at h ⊢
 simp only at h ⊢
 generalize ha:rCount bs p bad 15=a at h ⊢
 generalize hb:rCount bs a.2.1 a.2.2 4611686018427387904=b at h ⊢
 generalize hc:rCount bs b.2.1 b.2.2 4611686018427387904=c at h ⊢
 generalize hd:rCount bs c.2.1 c.2.2 11=d at h ⊢
 generalize he:rText bs d.2.1 d.2.2 8=e at h ⊢
 generalize hf:rCount bs e.2.1 e.2.2 99999999=f at h ⊢
 have f0:(rCount bs e.2.1 e.2.2 99999999).2.2=false:=by rw[hf];exact h
 obtain⟨f1,f2⟩:=o_of_count (hi:=99999999) f0
 have f2:oNum bs e.2.1 99999999=some (f.1,f.2.1):=by rw[←hf];exact f2
 have e0:(rText bs d.2.1 d.2.2 8).2.2=false:=by rw[he];exact f1
 obtain⟨e1,e2⟩:=o_of_text e0
 have e2:oTxt bs d.2.1=some (e.1,e.2.1):=by rw[←he];exact e2
 have d0:(rCount bs c.2.1 c.2.2 11).2.2=false:=by rw[hd];exact e1
 obtain⟨d1,d2⟩:=o_of_count (hi:=11) d0
 have d2:oNum bs c.2.1 11=some (d.1,d.2.1):=by rw[←hd];exact d2
 have c0:(rCount bs b.2.1 b.2.2 4611686018427387904).2.2=false:=by rw[hc];exact d1
 obtain⟨c1,c2⟩:=o_of_count (hi:=4611686018427387904) c0
 have c2:oNum bs b.2.1 4611686018427387904=some (c.1,c.2.1):=by rw[←hc];exact c2
 have b0:(rCount bs a.2.1 a.2.2 4611686018427387904).2.2=false:=by rw[hb];exact c1
 obtain⟨b1,b2⟩:=o_of_count (hi:=4611686018427387904) b0
 have b2:oNum bs a.2.1 4611686018427387904=some (b.1,b.2.1):=by rw[←hb];exact b2
 have a0:(rCount bs p bad 15).2.2=false:=by rw[ha];exact b1
 obtain⟨a1,a2⟩:=o_of_count (hi:=15) a0
 have a2:oNum bs p 15=some (a.1,a.2.1):=by rw[←ha];exact a2
 refine⟨a1,?_⟩
 unfold oSes
 rw[a2]
 simp only[Option.bind_some]
 rw[b2]
 simp only[Option.bind_some]
 rw[c2]
 simp only[Option.bind_some]
 rw[d2]
 simp only[Option.bind_some]
 rw[e2]
 simp only[Option.bind_some]
 rw[f2]
 rfl
theorem rdSes_of {bs:Txt}(p:Nat)(x:Nat×SesD)(p':Nat)(h:oSes bs p=some (x,p')):rdSes bs p false=(x,p',false):=by
 unfold oSes at h
 obtain⟨⟨q,q1⟩,h1,h⟩:=some_bind h
 obtain⟨⟨i,q2⟩,h2,h⟩:=some_bind h
 obtain⟨⟨r,q3⟩,h3,h⟩:=some_bind h
 obtain⟨⟨c,q4⟩,h4,h⟩:=some_bind h
 obtain⟨⟨v,q5⟩,h5,h⟩:=some_bind h
 obtain⟨⟨n,q6⟩,h6,h⟩:=some_bind h
 injection h with h
 injection h with e1 e2
 simp only at h2 h3 h4 h5 h6 e1 e2
 have a1:rCount bs p false 15=(q,q1,false):=count_of_o h1
 have a2:rCount bs q1 false 4611686018427387904=(i,q2,false):=count_of_o h2
 have a3:rCount bs q2 false 4611686018427387904=(r,q3,false):=count_of_o h3
 have a4:rCount bs q3 false 11=(c,q4,false):=count_of_o h4
 have a5:=text_of_o h5
 have a6:rCount bs q5 false 99999999=(n,q6,false):=count_of_o h6
 unfold rdSes
 rw[a1]
 simp only
 rw[a2]
 simp only
 rw[a3]
 simp only
 rw[a4]
 simp only
 rw[a5]
 simp only
 rw[a6,←e1,←e2]
theorem rise_two {a b:Txt} {l:List Txt}:Rise (a::b::l)↔bytesBefore a b=true∧Rise (b::l):=by
 unfold Rise
 rw[List.pairwise_cons]
 constructor
 ·exact λh=>⟨h.1 b (by simp),h.2⟩
 ·rintro ⟨h1,h2⟩
  refine⟨λc hc=>?_,h2⟩
  rcases List.mem_cons.1 hc with rfl | hc
  ·exact h1
  ·exact before_trans h1 ((List.pairwise_cons.1 h2).1 c hc)
theorem before_nil {a:Txt}:bytesBefore [] a=true↔a≠[]:=by
 cases a with
 | nil=>simp[bytesBefore]
 | cons x r=>simp[bytesBefore]
theorem rise_nil {l:List Txt}:Rise ([]::l)↔(∀a∈l,a≠[])∧Rise l:=by
 unfold Rise
 rw[List.pairwise_cons]
 constructor
 ·exact λh=>⟨λa ha=>before_nil.1 (h.1 a ha),h.2⟩
 ·exact λh=>⟨λa ha=>before_nil.2 (h.1 a ha),h.2⟩
theorem pchk_iff:∀ (l:List (Txt×Txt)) (last:Txt),chkAll pchk pnxt last l↔Rise (last::l.map Prod.fst)
 | [],last=>by simp[chkAll,Rise]
 | x::r,last=>by
  rw[chkAll,pchk_iff r,List.map_cons,rise_two]
  rfl
theorem lchk_iff:∀ (l:List LockD) (last:Txt) (seen:List Int),chkAll lchk lnxt (last,seen) l↔Rise (last::l.map LockD.name)∧(∀x∈l,x.token≠0∧x.token ∉ seen)∧l.Pairwise λa b=>a.token≠b.token
 | [],last,seen=>by simp[chkAll,Rise]
 | x :: r,last,seen=>by
  rw[chkAll,show lnxt (last,seen) x=(x.name,x.token::seen) from rfl,lchk_iff r,List.map_cons,rise_two,List.pairwise_cons]
  have e:lchk (last,seen) x=true↔bytesBefore last x.name=true∧x.token≠0∧x.token ∉ seen:=by
   unfold lchk
   simp[Bool.and_eq_true,and_assoc]
  rw[e]
  constructor
  ·rintro ⟨⟨h1,h2,h3⟩,h4,h5,h6⟩
   refine⟨⟨h1,h4⟩,λy hy=>?_,λy hy he=>?_,h6⟩
   ·rcases List.mem_cons.1 hy with rfl | hy
    ·exact⟨h2,h3⟩
    ·exact⟨(h5 y hy).1,λh=>(h5 y hy).2 (by simp[h])⟩
   ·exact (h5 y hy).2 (by simp[he])
  ·rintro ⟨⟨h1,h4⟩,h5,h6,h7⟩
   refine⟨⟨h1,h5 x (by simp)⟩,h4,λy hy=>⟨(h5 y (by simp[hy])).1,λh=>?_⟩,h7⟩
   rcases List.mem_cons.1 h with h | h
   ·exact h6 y hy h.symm
   ·exact (h5 y (by simp[hy])).2 h
theorem schk_iff:∀ (l:List (Nat×SesD)) (last:Int),chkAll schk snxt last l↔(∀x∈l,last<(x.1:Int))∧(l.Pairwise λa b=>a.1<b.1)∧∀x∈l,x.2.inc≠0∧x.2.req≠0∧x.2.last.code≠0∧x.2.last.code≠10
 | [],last=>by simp[chkAll]
 | x :: r,last=>by
  rw[chkAll,show snxt last x=(x.1:Int) from rfl,schk_iff r,List.pairwise_cons]
  have e:schk last x=true↔last<(x.1:Int)∧x.2.inc≠0∧x.2.req≠0∧x.2.last.code≠0∧x.2.last.code≠10:=by
   unfold schk
   simp[Bool.and_eq_true,and_assoc]
  rw[e]
  constructor
  ·rintro ⟨⟨h1,h2⟩,h4,h5,h6⟩
   refine⟨λy hy=>?_,⟨λy hy=>by have:=h4 y hy;omega,h5⟩,λy hy=>?_⟩
   ·rcases List.mem_cons.1 hy with rfl | hy
    ·exact h1
    ·have:=h4 y hy;omega
   ·rcases List.mem_cons.1 hy with rfl | hy
    ·exact h2
    ·exact h6 y hy
  ·rintro ⟨h1,⟨h2,h3⟩,h4⟩
   exact⟨⟨h1 x (by simp),h4 x (by simp)⟩,λy hy=>by have:=h2 y hy;omega,h3,λy hy=>h4 y (by simp[hy])⟩
abbrev rsT (bs:Txt):Nat×Nat×Bool:=rCount bs 3 false 99999999
abbrev rsP (bs:Txt):List (Txt×Txt)×Nat×Bool:=rPairs bs (rsT bs).2.1 (rsT bs).2.2
abbrev rsL (bs:Txt):List LockD×Nat×Bool:=rLocks bs ((rsT bs).1:Int) (rsP bs).2.1 (rsP bs).2.2
abbrev rsS (bs:Txt):List (Nat×SesD)×Nat×Bool:=rSess1 bs (rsL bs).2.1 (rsL bs).2.2
def rsSs (bs:Txt):List SesD:=ssPut (rsS bs).1 (List.replicate 16 noSes)
def rsGood (bs:Txt):Prop:=(rsS bs).2.2=false∧sesMiss (rsL bs).1 (rsSs bs)=false∧(rsS bs).2.1=bs.length
def rsRaw (bs:Txt):RawD:=⟨(rsT bs).1,(rsP bs).1,(rsL bs).1,(rsS bs).1⟩
theorem chk_sess {r:RawD} (hr:RRead r) (hs:r.sess.Pairwise λa b=>a.1<b.1) (h0:∀x∈r.sess,x.2.inc≠0):sesMiss r.locks (ssPut r.sess (List.replicate 16 noSes))=false↔∀c,who r.locks c→0<(sesAt r.sess c.toNat).inc:=by
 have hget:∀c,who r.locks c→(ssPut r.sess (List.replicate 16 noSes)).getD c.toNat noSes=sesAt r.sess c.toNat:=λc hc=>by
  have hc16:c.toNat<16:=by
   obtain⟨l,hl,hh⟩:=hc
   have hk:=hr.l l hl
   rcases hh with rfl | hh
   ·have:=hk.h0;have:=hk.h1;omega
   ·have:=hk.q c hh;omega
  rw[ssPut_all hs]
  simp[List.getD,hc16]
 have hpos:∀q,0≤(sesAt r.sess q).inc:=λq=>by
  by_cases hq:∃y∈r.sess,y.1=q
  ·obtain⟨y,hy,rfl⟩:=hq
   rw[sesAt_of hs hy]
   exact (hr.s y hy).i0
  ·rw[sesAt_none λy hy e=>hq ⟨y,hy,e⟩]
   decide
 unfold sesMiss
 rw[List.any_eq_false]
 constructor
 ·intro h c hc
  have hg:=hget c hc
  obtain⟨l,hl,hh⟩:=hc
  have h1:=h l hl
  rw[Bool.not_eq_true,List.any_eq_false] at h1
  have h2:=h1 c (by rcases hh with rfl | hh <;> simp[*])
  rw[hg] at h2
  have h3:=hpos c.toNat
  have h4:¬(sesAt r.sess c.toNat).inc=0:=by simpa using h2
  omega
 ·intro h l hl
  rw[Bool.not_eq_true,List.any_eq_false]
  intro c hc
  have hw:who r.locks c:=⟨l,hl,by simpa using hc⟩
  have h1:=h c hw
  rw[hget c hw]
  simp
  omega
theorem good_raw {bs:Txt} (h:rsGood bs):oRaw bs 3=some (rsRaw bs,bs.length)∧RawOk (rsRaw bs)∧toSt (rsRaw bs)=⟨(rsP bs).1,(rsL bs).1,((rsT bs).1:Int),rsSs bs⟩:=by
 obtain⟨h1,h2,h3⟩:=h
 obtain⟨s1,s2,s3⟩:=runF_ok (one:=oSes bs) rdSes_ok _ _ _ _ h1
 obtain⟨t1,t2⟩:=o_of_count (hi:=16) s1
 have htok:(rsT bs).1≤99999999:=by
  have:=rCount_most bs 3 false (most:=99999999) (by omega)
  show (rCount bs 3 false 99999999).1≤99999999
  omega
 obtain⟨l1,l2,l3⟩:=runF_ok (one:=oLockT bs (rsT bs).1) (rdLock_ok htok) _ _ _ _ t1
 obtain⟨u1,u2⟩:=o_of_count (hi:=8) l1
 obtain⟨p1,p2,p3⟩:=runF_ok (one:=oPair bs) rdPair_ok _ _ _ _ u1
 obtain⟨v1,v2⟩:=o_of_count (hi:=16) p1
 obtain⟨w1,w2⟩:=o_of_count (hi:=99999999) v1
 obtain⟨l4,l5⟩:=(oMany_guard (P:=lckOk (rsT bs).1) _ _ _ _).1 l2
 have hraw:oRaw bs 3=some (rsRaw bs,bs.length):=by
  unfold oRaw
  rw[show oNum bs 3 99999999=some ((rsT bs).1,(rsT bs).2.1) from w2]
  simp only[Option.bind_some]
  rw[show oNum bs (rsT bs).2.1 16=some ((rCount bs (rsT bs).2.1 (rsT bs).2.2 16).1,(rCount bs (rsT bs).2.1 (rsT bs).2.2 16).2.1) from v2]
  simp only[Option.bind_some]
  rw[show oMany (oPair bs) _ _=some ((rsP bs).1,(rsP bs).2.1) from p2]
  simp only[Option.bind_some]
  rw[show oNum bs (rsP bs).2.1 8=some ((rCount bs (rsP bs).2.1 (rsP bs).2.2 8).1,(rCount bs (rsP bs).2.1 (rsP bs).2.2 8).2.1) from u2]
  simp only[Option.bind_some]
  rw[show oMany (oLock bs) _ _=some ((rsL bs).1,(rsL bs).2.1) from l4]
  simp only[Option.bind_some]
  rw[show oNum bs (rsL bs).2.1 16=some ((rCount bs (rsL bs).2.1 (rsL bs).2.2 16).1,(rCount bs (rsL bs).2.1 (rsL bs).2.2 16).2.1) from t2]
  simp only[Option.bind_some]
  rw[show oMany (oSes bs) _ _=some ((rsS bs).1,(rsS bs).2.1) from s2]
  simp only[Option.bind_some]
  rw[h3]
  rfl
 obtain⟨-,-,hr⟩:=oRaw_inv hraw
 obtain⟨a1,a2⟩:=rise_nil.1 ((pchk_iff _ _).1 p3)
 obtain⟨b0,b3,b4⟩:=(lchk_iff _ _ _).1 l3
 obtain⟨b1,b2⟩:=rise_nil.1 b0
 obtain⟨-,c2,c3⟩:=(schk_iff _ _).1 s3
 refine⟨hraw,⟨λp hp=>a1 _ (List.mem_map.2 ⟨p,hp,rfl⟩),a2,λl hl=>b1 _ (List.mem_map.2 ⟨l,hl,rfl⟩),b2,λl hl=>⟨?_,(l5 l hl).1⟩,b4,λl hl=>(l5 l hl).2,c2,λx hx=>?_,?_⟩,?_⟩
 ·have e1:=(b3 l hl).1
  have e2:=(hr.l l hl).t0
  omega
 ·obtain⟨e1,e2,e3,e4⟩:=c3 x hx
  have e5:=hr.s x hx
  have:=e5.i0;have:=e5.r0;have:=e5.c0
  exact⟨by omega,by omega,by omega,e4⟩
 ·exact (chk_sess hr c2 λx hx=>(c3 x hx).1).1 h2
 ·unfold toSt rsSs
  rw[ssPut_all c2]
  rfl
theorem raw_good {bs:Txt} {r:RawD} (h:oRaw bs 3=some (r,bs.length)) (ho:RawOk r):rsGood bs:=by
 obtain⟨-,-,hr⟩:=oRaw_inv h
 unfold oRaw at h
 obtain⟨⟨t,q1⟩,h1,h⟩:=some_bind h
 obtain⟨⟨a,q2⟩,h2,h⟩:=some_bind h
 obtain⟨⟨ps,q3⟩,h3,h⟩:=some_bind h
 obtain⟨⟨b,q4⟩,h4,h⟩:=some_bind h
 obtain⟨⟨ls,q5⟩,h5,h⟩:=some_bind h
 obtain⟨⟨c,q6⟩,h6,h⟩:=some_bind h
 obtain⟨⟨ss,q7⟩,h7,h⟩:=some_bind h
 injection h with h
 injection h with e1 e2
 subst e1
 simp only at h2 h3 h4 h5 h6 h7 e2
 subst e2
 have eT:rsT bs=(t,q1,false):=count_of_o h1
 have e16:rCount bs q1 false 16=(a,q2,false):=count_of_o h2
 have eP:rsP bs=(ps,q3,false):=by
  unfold rsP rPairs
  rw[eT]
  simp only
  rw[e16]
  simp only
  refine runF_of rdPair_of _ _ _ _ _ h3 ((pchk_iff _ _).2 (rise_nil.2 ⟨λx hx=>?_,ho.pr⟩))
  obtain⟨p,hp,rfl⟩:=List.mem_map.1 hx
  exact ho.pn p hp
 have e8:rCount bs q3 false 8=(b,q4,false):=count_of_o h4
 have eL:rsL bs=(ls,q5,false):=by
  unfold rsL rLocks
  rw[eT,eP]
  simp only
  rw[e8]
  simp only
  refine runF_of rdLock_of _ _ _ _ _ ((oMany_guard (P:=lckOk t) _ _ _ _).2 ⟨h5,λl hl=>⟨(ho.lt l hl).2,ho.lq l hl⟩⟩) ((lchk_iff _ _ _).2 ⟨rise_nil.2 ⟨λx hx=>?_,ho.lr⟩,λl hl=>⟨?_,by simp⟩,ho.la⟩)
  ·obtain⟨p,hp,rfl⟩:=List.mem_map.1 hx
   exact ho.ln p hp
  ·have:=(ho.lt l hl).1
   omega
 have f16:rCount bs q5 false 16=(c,q6,false):=count_of_o h6
 have eS:rsS bs=(ss,bs.length,false):=by
  unfold rsS rSess1
  rw[eL]
  simp only
  rw[f16]
  simp only
  refine runF_of rdSes_of _ _ _ _ _ h7 ((schk_iff _ _).2 ⟨λx hx=>by omega,ho.sr,λx hx=>?_⟩)
  obtain⟨g1,g2,g3,g4⟩:=ho.s1 x hx
  exact⟨by omega,by omega,by omega,g4⟩
 refine⟨by rw[eS],?_,by rw[eS]⟩
 unfold rsSs
 rw[eS,eL]
 exact (chk_sess hr ho.sr λx hx=>by have:=(ho.s1 x hx).1;omega).2 ho.link
theorem restored_good {b:Txt}(hs:sealedB b)(h:rsGood (b.take (b.length - 4))):Restored b ⟨(rsP (b.take (b.length - 4))).1,(rsL (b.take (b.length - 4))).1,((rsT (b.take (b.length - 4))).1:Int),rsSs (b.take (b.length - 4))⟩:=by
 obtain⟨h1,h2,h3⟩:=good_raw h
 have hl:(b.take (b.length - 4)).length=b.length - 4:=by rw[List.length_take];omega
 rw[hl] at h1
 exact⟨hs,_,h1,h2,h3.symm⟩
theorem good_restored {b:Txt}{s:StD}(h:Restored b s):sealedB b∧rsGood (b.take (b.length - 4)):=by
 obtain⟨hs,r,h1,h2,-⟩:=h
 have hl:(b.take (b.length - 4)).length=b.length - 4:=by rw[List.length_take];omega
 exact⟨hs,raw_good (by rw[hl];exact h1) h2⟩
theorem op_pairs {S:Nat→Prop}{m bp bl:Nat}{s:StD}{w w':World}{e:Ending}{R:MRes}{P':Ps}{x:ResD×StD}(hm:MSt S w m bp bl s)(h1:e=.returned (resV R))(h2:MapIs Tryz.prog 9 w' bp (sk P'))(hk:Keep (λj=>j≠bp) w w')
 (hx:x=(R,{ s with pairs:=P' })):OpPost S m bp bl x w e w':=by
 subst hx
 obtain⟨ms,hl⟩:=hm.lk
 have hml:=hm.blk.lt
 have hbl:=hm.pm.lt
 exact⟨h1,⟨hm.blk.keep hk hm.mp,hm.len,h2,⟨ms,(hl.keep hk λj hj e=>hm.nb (by rw[←e];exact hj)).widen λj h=>.inl h⟩,λh=>h.elim hm.nm λh=>by omega,λh=>h.elim hm.nb λh=>by omega⟩,hk.weaken λj _ h=>h.2.1⟩
theorem setop_any (ita:Int→Txt) (S:Nat→Prop) (m bp bl:Nat) (s:StD) (c i r o:Int) (k v d:Txt) (w:World) (hm:MSt S w m bp bl s) (hp:PInv s.pairs) (hk:k.length≤8) :
 Calls Tryz.prog 73 #[.pointer (some ⟨m,0,none⟩),cmdV c i r o k v d] w (OpPost S m bp bl (onKeyD numb ita 1 k v d s) w):=by
 have hl:=hp.len
 refine (set_any m bp s.pairs c i r o k v d w hm.three.1 hm.pm hk (by omega)).mono ?_
 rintro e w' ⟨h1,h2,h3⟩
 refine op_pairs hm h1 h2 h3 ?_
 unfold setR setP onKeyD
 cases hf:pfind k s.pairs with
 | none=>
  rw[pfindD_none hf]
  simp only[true_or,if_true]
  split
  ·rfl
  ·rw[pput_eq k v _ hp.rise];simp
 | some u=>
  obtain⟨a,ha⟩:=pfindD_some hf
  rw[ha,pput_eq k v _ hp.rise]
  simp
theorem casop_any (ita:Int→Txt) (S:Nat→Prop) (m bp bl:Nat) (s:StD) (c i r:Int) (k v d:Txt) (w:World) (hm:MSt S w m bp bl s) (hp:PInv s.pairs) (hk:k.length≤8) :
 Calls Tryz.prog 75 #[.pointer (some ⟨m,0,none⟩),cmdV c i r 3 k v d] w (OpPost S m bp bl (onKeyD numb ita 3 k v d s) w):=by
 have hl:=hp.len
 refine (cas_any m bp s.pairs c i r 3 k v d w hm.three.1 hm.pm hk (by omega)).mono ?_
 rintro e w' ⟨h1,h2,h3⟩
 refine op_pairs hm h1 h2 h3 ?_
 unfold casR casP onKeyD
 cases hf:pfind k s.pairs with
 | none=>
  rw[pfindD_none hf]
  simp
 | some u=>
  obtain⟨a,ha⟩:=pfindD_some hf
  rw[ha]
  simp only
  rw[if_neg (by omega),if_pos trivial]
  by_cases hud:u=d
  ·rw[if_pos hud,if_pos hud,if_pos hud,pput_eq k v _ hp.rise,hud]
  ·rw[if_neg hud,if_neg hud,if_neg hud]
theorem delop_any (ita:Int→Txt) (S:Nat→Prop) (m bp bl:Nat) (s:StD) (c i r:Int) (k v d:Txt) (w:World) (hm:MSt S w m bp bl s) (hk:k.length≤8) :
 Calls Tryz.prog 76 #[.pointer (some ⟨m,0,none⟩),cmdV c i r 4 k v d] w (OpPost S m bp bl (onKeyD numb ita 4 k v d s) w):=by
 obtain⟨X,hX⟩:=exz (onKeyD numb ita 4 k v d s)
 rw[←hX]
 have HO:=hdz (op_at w c i r 4 k v d)
 obtain⟨G,hG⟩:=exz (w.heap.size)
 obtain⟨W,hW⟩:=exz ((w.alloc (.cells #[.int .i64 c,.int .i64 i,.int .i64 r,.int .i64 4,str k,str v,str d] 30)).alloc (.cells #[.int .i64 0,str [],.int .i64 0] 33))
 rw[←hW,←hG] at HO
 obtain⟨k0,k4,k5,k6,kl⟩:=HO.out.cells
 have hmW:=hm.fresh HO.out.fresh
 obtain⟨x0,-,-⟩:=hmW.three
 have hmlt:=hmW.blk.lt
 have hml:=hm.blk.lt
 have hbl:=hm.pm.lt
 have hlk:=look_str hmW.pm (l:=k) (by omega)
 have HA:=hdz (aiz hm (aiz hmW hX))
 clear hm hmW hX
 go_enter Tryz.func76,Tryz.ntmps76
 go_wp2_with fail
 simp only[←hG]
 rw[←hW]
 clear hW hG
 go_quiet (fail)
 have HQ:=hdz (show Fresh W (W.drewN nq) from (krz _ W).drewN nq)
 cases hpf:pfind k s.pairs with
 | none=>
  have HC:=hdz (λn=>code_any n (W.drewN nq))
  rw[hpf] at hlk
  go_wp2_with fail
  refine (HC.out _).mono ?_
  rintro e W4 ⟨rfl,f4⟩
  have HF:=hdz (HQ.out.trans f4)
  obtain⟨r0,r1,r2,s0,s1,s2,rl⟩:=res_facts (HO.out.res.keep HF.out trivial)
  clear f4 HC HQ
  go_wp2_with fail
  obtain⟨hm,hmW,hX⟩:=HA.out
  have e:X=(⟨2,[],0⟩,s):=by rw[hX];unfold onKeyD;rw[pfindD_none hpf];simp
  rw[e]
  exact op_ret rfl rfl rfl (hmW.fresh HF.out) (λj h=>.inl h) hml hbl hm.nm hm.nb (HO.out.res.keep HF.out trivial) (by have:=HO.out.sz;omega) ((HO.out.fresh.trans HF.out).weaken λ_ _ _=>trivial)
 | some u=>
  rw[hpf] at hlk
  obtain⟨W2,hW2⟩:=exz (W.drewN nq)
  rw[←hW2] at HQ ⊢
  have x0':=HQ.out.cellAt x0 trivial
  have k4':=HQ.out.cellAt k4 trivial
  have hmlt2:m<W2.heap.size:=ltz hmlt HQ.out.size
  have kl2:G<W2.heap.size:=ltz kl HQ.out.size
  clear hW2 hlk x0 k0 k4 k5 k6 hmlt kl
  go_wp2_with fail
  refine wp_region_still_tail 6 (by kernel_rfl) (by kernel_rfl) ?_
  simp only[List.take_succ_cons,List.take_zero,List.drop_succ_cons,List.drop_zero]
  repeat still_step
  refine wpStill_nil ?_
  change wpList _ _ _ _ _ W2.drew
  refine wpList_mdrop rfl (.tmp 23) (.tmp 25) rfl Tryz.underlying9 Tryz.underlying87 rfl ((HA.out.2.1.fresh HQ.out).pm.keep ((krz (λ_=>True) W2).drew) trivial) (l:=k) (by simp only[maxLen];omega) rfl ?_
  intro W3 hm3 hk3
  rw[sk_del] at hm3
  have hk23:Keep (λj=>j≠bp) W2 W3:=(krz _ W2).drew.trans hk3
  have H3:=hdz (aiz hm3 hk23)
  have HD:=hdz (done_any u 1 W3)
  clear hm3 hk3 hk23
  go_wp2_with fail
  refine HD.out.mono ?_
  rintro e W4 ⟨rfl,f4⟩
  have hb2:=HO.out.res.keep HQ.out trivial
  have hbG:G+1≠bp:=by have:=HO.out.sz;omega
  have H4:=hdz (aiz f4 ((hb2.keep H3.out.2 hbG).keep f4 trivial))
  obtain⟨r0,r1,r2,s0,s1,s2,rl⟩:=res_facts H4.out.2
  clear f4 HD hb2
  go_wp2_with fail
  obtain⟨hm,hmW,hX⟩:=HA.out
  obtain⟨a,ha⟩:=pfindD_some hpf
  have e:X=(⟨1,u,1⟩,{ s with pairs:=pdel k s.pairs }):=by rw[hX];unfold onKeyD;rw[ha];simp;rfl
  rw[e]
  have h2:=op_pairs (x:=(⟨1,u,1⟩,{ s with pairs:=pdel k s.pairs })) (hmW.fresh HQ.out) rfl H3.out.1 H3.out.2 rfl
  have hsz:=HO.out.sz
  have hz1:=HO.out.fresh.size
  have hz2:=HQ.out.size
  exact op_ret rfl rfl rfl (h2.st.fresh H4.out.1) (λj h=>h.elim .inl λh=>.inr (by omega)) hml hbl hm.nm hm.nb H4.out.2 (by omega) ((((HO.out.fresh.trans HQ.out).comp H3.out.2 (λ_ _ _=>trivial) (λ_ _ h=>h.2.1)).comp H4.out.1 (λ_ _ h=>h) (λ_ _ _=>trivial)))
theorem MSt.turned {S:Nat→Prop}{w w':World}{m bp bl:Nat}{s:StD}{ms:List LkM}{x x':LkM}(h:MSt S w m bp bl s)(hr:Rise (s.locks.map LockD.name))(hl:Lks S w bl ms s.locks)(hx:x∈ms)(hh:x'.h=x.h)(hn:x'.d.name=x.d.name)
 (hx':LkIs (λj=>S j∨w.heap.size≤j) w' x') (hv:Next w.heap.size x.v x'.v) (hk:Keep (λj=>j≠x.h∧x.v.ownBlock≠some j) w w') :
 MSt (λj=>S j∨w.heap.size≤j) w' m bp bl { s with locks:=setK LockD.name x'.d s.locks }∧Keep (λj=>j≠m∧j≠bp∧¬S j) w w':=by
 have hxi:=hl.each x hx
 have hml:=h.blk.lt
 have hbl:=h.pm.lt
 have hkS:Keep (λj=>¬S j) w w':=hk.weaken λj _ hj=>⟨λe=>hj (by rw[e];exact hxi.sh),λe=>hj (hxi.sv j e)⟩
 exact⟨⟨h.blk.keep hkS h.nm,h.len,h.pm.keep hkS h.nb,⟨_,hl.turn hr hx hk (λj _ h1 h2=>⟨h1,h2⟩) hx' hh hn (λ_ h=>.inl h) hv⟩,λe=>e.elim h.nm λe=>by omega,λe=>e.elim h.nb λe=>by omega⟩,hkS.weaken λ_ _ h=>h.2.2⟩
theorem setK_same {l:LockD} {ls:List LockD} (hr:Rise (ls.map LockD.name)) (hl:l∈ls):setK LockD.name l ls=ls:=by
 unfold setK
 have:∀y∈ls,(if y.name==l.name then l else y)=y:=by
  intro y hy
  split
  ·rename_i h
   have h1:=findK_of (key:=LockD.name) hr hl rfl
   have h2:=findK_of (key:=LockD.name) hr hy (by simpa using h)
   rw[h1] at h2
   injection h2
  ·rfl
 rw[List.map_congr_left this,List.map_id']
theorem leave_not {c:Int} {l:LockD} (h:c ∉ l.queue):leaveL c l=l:=by
 unfold leaveL
 rw[List.filter_eq_self.2 λy hy=>by
  have:y≠c:=λe=>h (e ▸ hy)
  simpa using this]
theorem unlock_any (S:Nat→Prop) (m bp bl:Nat) (s:StD) (c i r:Int) (k v d:Txt) (w:World) (hm:MSt S w m bp bl s) (hi:LInv s.locks s.tok) (hk:k.length≤8) :
 Calls Tryz.prog 79 #[.pointer (some ⟨m,0,none⟩),cmdV c i r 7 k v d] w (OpPost S m bp bl (onLockD numb c 7 k v s) w):=by
 obtain⟨X,hX⟩:=exz (onLockD numb c 7 k v s)
 rw[←hX]
 have HO:=hdz (op_at w c i r 7 k v d)
 obtain⟨G,hG⟩:=exz (w.heap.size)
 obtain⟨W,hW⟩:=exz ((w.alloc (.cells #[.int .i64 c,.int .i64 i,.int .i64 r,.int .i64 7,str k,str v,str d] 30)).alloc (.cells #[.int .i64 0,str [],.int .i64 0] 33))
 rw[←hW,←hG] at HO
 obtain⟨k0,k4,k5,k6,kl⟩:=HO.out.cells
 have hmW:=hm.tight.fresh HO.out.fresh
 obtain⟨-,x1,-⟩:=hmW.three
 have hmlt:=hmW.blk.lt
 have hml:=hm.blk.lt
 have hbl:=hm.pm.lt
 have HA:=hdz (aiz hm (aiz hmW (aiz hX hi)))
 obtain⟨ms,hls⟩:=hmW.lk
 have HLS:=hdz hls
 clear hm hmW hX hi
 cases hf:lfind k s.locks with
 | none=>
  have hlk:=look_lk hls (k:=k) (by omega) _ (show _=.pointer none by rw[hls.gone hf];rfl)
  clear hls
  go_enter Tryz.func79,Tryz.ntmps79
  go_wp2_with fail
  simp only[←hG]
  rw[←hW]
  clear hW hG
  go_quiet (fail)
  go_wp2_with fail
  go_quiet (fail)
  go_wp2_with fail
  refine (code_any _ _).mono ?_
  rintro e W4 ⟨rfl,f4⟩
  have HF:=hdz (((krz _ W).drewN _).trans f4)
  obtain⟨r0,r1,r2,s0,s1,s2,rl⟩:=res_facts (HO.out.res.keep HF.out trivial)
  clear f4
  go_wp2_with fail
  obtain⟨hm,hmW,hX,hi⟩:=HA.out
  have e:X=(⟨2,[],0⟩,s):=by rw[hX];unfold onLockD;rw[hf];simp
  rw[e]
  exact op_ret rfl rfl rfl (hmW.fresh HF.out) (λj h=>.inl h.1) hml hbl hm.nm hm.nb (HO.out.res.keep HF.out trivial) (by have:=HO.out.sz;omega) ((HO.out.fresh.trans HF.out).weaken λ_ _ _=>trivial)
 | some l=>
  obtain⟨x,hx,hxl,hxk,hxi,hxf⟩:=lk_find hls hf
  obtain⟨y0,-,-⟩:=hxi.cells
  rw[hxl] at y0
  have hlk:=look_lk hls (k:=k) (by omega) _ hxf
  obtain⟨h,hh⟩:=exz (x.h)
  rw[←hh] at y0 hlk
  have hhl:=hxi.lt
  rw[←hh] at hhl
  have HX:=hdz (aiz hls (aiz hx (aiz hxl (aiz hxk (aiz hxi hh)))))
  obtain⟨lh,hlh⟩:=exz (l.holder)
  rw[←hlh] at y0
  have HLH:=hdz hlh
  clear hls hx hxl hxk hxi hxf hh hlh
  by_cases hc:lh=c
  ·subst hc
   go_enter Tryz.func79,Tryz.ntmps79
   go_wp2_with fail
   simp only[←hG]
   rw[←hW]
   clear hW hG
   go_quiet (fail)
   go_wp2_with fail
   go_quiet (fail)
   go_wp2_with fail
   refine (pass_any (λj=>S j∧j<w.heap.size) m bp bl s k l _ (HA.out.2.1.fresh ((krz _ W).drewN _)) HA.out.2.2.2 (by omega) hf).mono ?_
   rintro e W4 ⟨rfl,hm4,hk4⟩
   have hsz:=HO.out.sz
   have hkW4:Keep (λj=>j≠m∧¬(S j∧j<w.heap.size)) W W4:=(((krz (λ_=>True) W).drewN _).weaken (λ_ _ _=>trivial)).trans hk4
   have hb4:=HO.out.res.keep hkW4 ⟨by omega,λh=>by have:=h.2;omega⟩
   have H4:=hdz (aiz hm4 (aiz hkW4 hb4))
   clear hm4 hk4 hkW4 hb4 hsz
   go_wp2_with fail
   refine (done_any _ _ W4).mono ?_
   rintro e W5 ⟨rfl,f5⟩
   have H5:=hdz (aiz f5 (H4.out.2.2.keep f5 trivial))
   obtain⟨r0,r1,r2,s0,s1,s2,rl⟩:=res_facts H5.out.2
   clear f5
   go_wp2_with fail
   obtain⟨hm,hmW,hX,hi⟩:=HA.out
   have e:X=(⟨1,[],(passD k s).1⟩,(passD k s).2):=by rw[hX];unfold onLockD;rw[hf];simp only;rw[if_neg (by omega),if_pos trivial,if_pos HLH.out.symm]
   rw[e]
   have hsz:=HO.out.sz
   exact op_ret rfl rfl rfl (H4.out.1.fresh H5.out.1) (λj h=>.inl h.1) hml hbl hm.nm hm.nb H5.out.2 (by omega) ((HO.out.fresh.comp H4.out.2.1 (λ_ _ _=>trivial) (λ_ _ h=>⟨h.1,λe=>h.2.2 e.1⟩)).comp H5.out.1 (λ_ _ h=>h) (λ_ _ _=>trivial))
  ·have hxo:=HA.out.2.2.2.each l (findK_some hf).2
   obtain⟨b,hb⟩:=exz (decide (c∈l.queue))
   have HL:Hid (∀q,Calls Tryz.prog 71 #[.pointer (some ⟨h,0,none⟩),.int .i64 c] (W.drewN q) λe w'=>e=.returned (.bool b) ∧
    (∃v',LkIs (λj=>(S j∧j<w.heap.size)∨(W.drewN q).heap.size≤j) w' ⟨leaveL c x.d,x.h,v'⟩∧Next (W.drewN q).heap.size x.v v')∧Keep (λj=>j≠x.h) (W.drewN q) w'):=λq=>by
    have h1:=leave_any (λj=>S j∧j<w.heap.size) c x (W.drewN q) (HX.out.2.2.2.2.1.keep ((krz (λ_=>True) W).drewN _) trivial (λ_ _=>trivial)) (by rw[HX.out.2.2.1];exact hxo.nd) (by rw[HX.out.2.2.1];have:=queue_len hxo.nd hxo.q;omega)
    rw[←HX.out.2.2.2.2.2,HX.out.2.2.1] at h1
    rw[HX.out.2.2.1,←HX.out.2.2.2.2.2,hb]
    exact h1
   have HB:=hdz hb
   clear hxo hb
   go_enter Tryz.func79,Tryz.ntmps79
   go_wp2_with fail
   simp only[←hG]
   rw[←hW]
   clear hW hG
   go_quiet (fail)
   go_wp2_with fail
   go_quiet (fail)
   go_wp2_with fail
   refine (HL.out _).mono ?_
   rintro e W4 ⟨rfl,⟨v',hx',hn'⟩,hk4⟩
   have hxl:=HX.out.2.2.1
   have hT:=(HA.out.2.1.fresh ((krz _ W).drewN _)).turned HA.out.2.2.2.rise (HX.out.1.keep ((krz (λ_=>True) W).drewN _) (λ_ _=>trivial)) HX.out.2.1 (x':=⟨leaveL c x.d,x.h,v'⟩) rfl rfl hx' hn' (hk4.weaken λ_ _ h=>h.1)
   have hsz:=HO.out.sz
   have hkW4:Keep (λj=>j≠m∧j≠bp∧¬(S j∧j<w.heap.size)) W W4:=(((krz (λ_=>True) W).drewN _).weaken (λ_ _ _=>trivial)).trans hT.2
   have hb4:=HO.out.res.keep hkW4 ⟨by omega,by omega,λh=>by have:=h.2;omega⟩
   have hT1:=hT.1
   rw[show (⟨leaveL c x.d,x.h,v'⟩:LkM).d=leaveL c l by rw[←hxl]] at hT1
   have H4:=hdz (aiz hT1 (aiz hkW4 hb4))
   clear hx' hn' hk4 hT hT1 hsz hkW4 hb4 hxl HL
   cases b
   ·go_wp2_with fail
    refine (code_any _ W4).mono ?_
    rintro e W5 ⟨rfl,f5⟩
    have H5:=hdz (aiz f5 (H4.out.2.2.keep f5 trivial))
    obtain⟨r0,r1,r2,s0,s1,s2,rl⟩:=res_facts H5.out.2
    clear f5
    go_wp2_with fail
    obtain⟨hm,hmW,hX,hi⟩:=HA.out
    have hcq:c ∉ l.queue:=by simpa using HB.out
    have e:X=(⟨2,[],0⟩,{ s with locks:=setK LockD.name (leaveL c l) s.locks }):=by
     rw[leave_not hcq,setK_same hi.rise (findK_some hf).2,hX]
     unfold onLockD
     rw[hf]
     simp only
     rw[if_neg (by omega),if_pos trivial,if_neg (λe=>hc (HLH.out.trans e)),if_neg hcq]
    rw[e]
    have hsz:=HO.out.sz
    have hz:=HO.out.fresh.size
    exact op_ret rfl rfl rfl (H4.out.1.fresh H5.out.1) (λj h=>h.elim (λh=>.inl h.1) λh=>.inr (by have h:W.heap.size≤j:=h;omega)) hml hbl hm.nm hm.nb H5.out.2 (by omega) ((HO.out.fresh.comp H4.out.2.1 (λ_ _ _=>trivial) (λ_ _ h=>⟨h.1,h.2.1,λe=>h.2.2 e.1⟩)).comp H5.out.1 (λ_ _ h=>h) (λ_ _ _=>trivial))
   ·go_wp2_with fail
    refine (code_any _ W4).mono ?_
    rintro e W5 ⟨rfl,f5⟩
    have H5:=hdz (aiz f5 (H4.out.2.2.keep f5 trivial))
    obtain⟨r0,r1,r2,s0,s1,s2,rl⟩:=res_facts H5.out.2
    clear f5
    go_wp2_with fail
    obtain⟨hm,hmW,hX,hi⟩:=HA.out
    have hcq:c∈l.queue:=by simpa using HB.out
    have e:X=(⟨8,[],0⟩,{ s with locks:=setK LockD.name (leaveL c l) s.locks }):=by
     rw[hX]
     unfold onLockD
     rw[hf]
     simp only
     rw[if_neg (by omega),if_pos trivial,if_neg (λe=>hc (HLH.out.trans e)),if_pos hcq]
    rw[e]
    have hsz:=HO.out.sz
    have hz:=HO.out.fresh.size
    exact op_ret rfl rfl rfl (H4.out.1.fresh H5.out.1) (λj h=>h.elim (λh=>.inl h.1) λh=>.inr (by have h:W.heap.size≤j:=h;omega)) hml hbl hm.nm hm.nb H5.out.2 (by omega) ((HO.out.fresh.comp H4.out.2.1 (λ_ _ _=>trivial) (λ_ _ h=>⟨h.1,h.2.1,λe=>h.2.2 e.1⟩)).comp H5.out.1 (λ_ _ h=>h) (λ_ _ _=>trivial))
section
variable {P:Program}{w:World}{t e:TypeId}{bytes:Nat}{z:Value}
theorem step_appAt (E:ET P t e 1 bytes z){ops:Array Oper}{o:Oper}{a:Act}{K:Act→World→Prop}{Q:Exit→Act→World→Prop}{Els:Prop}(hgd:o.guard=none)(s x:Operand)
 (ho:o.op=.call { callee:=.builtin .append,args:=#[s,x],argTypes:=#[t,t] })
 (base:Nat) (v:Value) (n:Nat) (xs:List Value) (hs:a.eval s=v) (hown:OwnAt w base e v n xs) (Z:Nat→Prop) (ad:Addr) (c:Nat) (y:Value) (hx:a.eval x=.slice (some ad) 1 c) (hr:Rd w Z 1 (some ad) 1 [y])
 (h1:y.oneCell'=true) (hb:(n+1)*bytes≤140737488355328) (hbase:base≤w.heap.size)
 (h:∀v' w',OwnAt w' base e v' (n+1) (xs++[y])→Keep (λk=>v.ownBlock≠some k) w w'→Next w.heap.size v v'→K (a.put o.dst v') w') :
 if Region.wanted o (yielded ops a.tmps)=true then Oper.wp P o a w K Q else Els:=by
 have hw:Region.wanted o (yielded ops a.tmps)=true:=by simp[Region.wanted,hgd]
 rw[if_pos hw]
 obtain⟨v',w',hrun,h2,h3,h4⟩:=run_app_at E o.type (c:=c) hown hr h1 hb hbase
 unfold Oper.wp execOp
 simp only[ho,resolve,invoke,builtin,Sem.run_bind,Sem.run_pure,Result.andThen_ok,List.map_toArray,List.map_cons,List.map_nil,hs,hx,hrun]
 exact h v' w' h2 h3 h4
end
theorem int_info:(Tryz.prog.info? 3).map (λi=>(i.zero,i.size,i.bytes))=some (some (.int .i64 0),1,8):=by kernel_rfl
theorem etInt:ET Tryz.prog 45 3 1 8 (.int .i64 0):=⟨Tryz.underlying45,int_info,rfl,by decide,by decide⟩
theorem lock_any (S:Nat→Prop) (m bp bl:Nat) (s:StD) (c i r:Int) (k v d:Txt) (w:World) (hm:MSt S w m bp bl s) (hi:LInv s.locks s.tok) (hk:k.length≤8) :
 Calls Tryz.prog 78 #[.pointer (some ⟨m,0,none⟩),cmdV c i r 6 k v d] w (OpPost S m bp bl (onLockD numb c 6 k v s) w):=by
 obtain⟨X,hX⟩:=exz (onLockD numb c 6 k v s)
 rw[←hX]
 have HO:=hdz (op_at w c i r 6 k v d)
 obtain⟨G,hG⟩:=exz (w.heap.size)
 obtain⟨W,hW⟩:=exz ((w.alloc (.cells #[.int .i64 c,.int .i64 i,.int .i64 r,.int .i64 6,str k,str v,str d] 30)).alloc (.cells #[.int .i64 0,str [],.int .i64 0] 33))
 rw[←hW,←hG] at HO
 obtain⟨k0,k4,k5,k6,kl⟩:=HO.out.cells
 have hmW:=hm.tight.fresh HO.out.fresh
 obtain⟨-,x1,x2⟩:=hmW.three
 have hmlt:=hmW.blk.lt
 have hml:=hm.blk.lt
 have hbl:=hm.pm.lt
 have HA:=hdz (aiz hm (aiz hmW (aiz hX hi)))
 obtain⟨ms,hls⟩:=hmW.lk
 have HLS:=hdz hls
 clear hm hmW hX hi
 cases hf:lfind k s.locks with
 | none=>
  have hlk:=look_lk hls (k:=k) (by omega) _ (show _=.pointer none by rw[hls.gone hf];rfl)
  have hll:=hls.len
  clear hls
  by_cases hful:8≤s.locks.length
  ·have hfi:(8:Int)≤(s.locks.length:Int):=by omega
   go_enter Tryz.func78,Tryz.ntmps78
   go_wp2_with fail
   simp only[←hG]
   rw[←hW]
   clear hW hG
   go_quiet (fail)
   go_wp2_with fail
   go_quiet (fail)
   go_wp2_with (at_len;refine wpList_mlen rfl (.tmp 65) rfl Tryz.underlying88 rfl (HLS.out.map.keep ((krz (λ_=>True) W).drewN _) trivial) ?_)
   refine (code_any _ _).mono ?_
   rintro e W4 ⟨rfl,f4⟩
   have HF:=hdz (((krz _ W).drewN _).trans f4)
   obtain⟨r0,r1,r2,s0,s1,s2,rl⟩:=res_facts (HO.out.res.keep HF.out trivial)
   clear f4
   go_wp2_with fail
   obtain⟨hm,hmW,hX,hi⟩:=HA.out
   have e:X=(⟨4,[],0⟩,s):=by rw[hX];unfold onLockD;rw[hf];simp[hful]
   rw[e]
   exact op_ret rfl rfl rfl (hmW.fresh HF.out) (λj h=>.inl h.1) hml hbl hm.nm hm.nb (HO.out.res.keep HF.out trivial) (by have:=HO.out.sz;omega) ((HO.out.fresh.trans HF.out).weaken λ_ _ _=>trivial)
  ·have hfi:¬(8:Int)≤(s.locks.length:Int):=by omega
   obtain⟨tok,htok⟩:∃t,t=s.tok:=⟨_,rfl⟩
   have ht0:=HA.out.2.2.2.tok0
   have ht1:=HA.out.2.2.2.tok1
   rw[←htok] at x2 ht0 ht1
   have HT:=hdz htok
   clear htok
   by_cases hsp:99999999≤tok
   ·go_enter Tryz.func78,Tryz.ntmps78
    go_wp2_with fail
    simp only[←hG]
    rw[←hW]
    clear hW hG
    go_quiet (fail)
    go_wp2_with fail
    go_quiet (fail)
    go_wp2_with (at_len;refine wpList_mlen rfl (.tmp 65) rfl Tryz.underlying88 rfl (HLS.out.map.keep ((krz (λ_=>True) W).drewN _) trivial) ?_)
    refine (code_any _ _).mono ?_
    rintro e W4 ⟨rfl,f4⟩
    have HF:=hdz (((krz _ W).drewN _).trans f4)
    obtain⟨r0,r1,r2,s0,s1,s2,rl⟩:=res_facts (HO.out.res.keep HF.out trivial)
    clear f4
    go_wp2_with fail
    obtain⟨hm,hmW,hX,hi⟩:=HA.out
    have e:X=(⟨11,[],0⟩,s):=by rw[hX];unfold onLockD;rw[hf];simp[hful,←HT.out,hsp]
    rw[e]
    exact op_ret rfl rfl rfl (hmW.fresh HF.out) (λj h=>.inl h.1) hml hbl hm.nm hm.nb (HO.out.res.keep HF.out trivial) (by have:=HO.out.sz;omega) ((HO.out.fresh.trans HF.out).weaken λ_ _ _=>trivial)
   ·go_enter Tryz.func78,Tryz.ntmps78
    go_wp2_with fail
    simp only[←hG]
    rw[←hW]
    clear hW hG
    go_quiet (fail)
    obtain⟨W1,hW1⟩:∃z,z=W.drewN nq:=⟨_,rfl⟩
    have hQ1:Fresh W W1:=hW1 ▸ (krz _ W).drewN nq
    rw[←hW1]
    replace x1:=hQ1.cellAt x1 trivial
    replace x2:=hQ1.cellAt x2 trivial
    replace k0:=hQ1.cellAt k0 trivial
    replace k4:=hQ1.cellAt k4 trivial
    have kl1:G<W1.heap.size:=ltz kl hQ1.size
    have hml1:m<W1.heap.size:=ltz hmlt hQ1.size
    have HQ1:=hdz hQ1
    clear hW1 hlk k5 k6 hQ1
    go_wp2_with fail
    go_quiet (fail)
    obtain⟨W2,hW2⟩:∃z,z=W1.drewN nq:=⟨_,rfl⟩
    have hQ2:Fresh W1 W2:=hW2 ▸ (krz _ W1).drewN nq
    rw[←hW2]
    replace x1:=hQ2.cellAt x1 trivial
    replace x2:=hQ2.cellAt x2 trivial
    replace k0:=hQ2.cellAt k0 trivial
    replace k4:=hQ2.cellAt k4 trivial
    have kl2:G<W2.heap.size:=ltz kl1 hQ2.size
    have hml2:m<W2.heap.size:=ltz hml1 hQ2.size
    have HQ2:=hdz (HQ1.out.trans hQ2)
    clear hW2 hQ2 hml1 kl1
    have HLm:=hdz (HLS.out.map.keep HQ2.out trivial)
    go_wp2_with (at_len;refine wpList_mlen rfl (.tmp 65) rfl Tryz.underlying88 rfl HLm.out ?_)
    have hM2:=HA.out.2.1.fresh HQ2.out
    have hf2:=hM2.blk.frozen 2
    have HNx:=hdz (next_any m tok W2.drew x2 hf2 ht0 ht1)
    have hmb:m≠bl:=λe=>HLS.out.map.ne_blk HA.out.2.1.blk e.symm
    have hGm:G≠m∧G≠bl:=⟨by have:=HO.out.sz;omega,λe=>HLS.out.map.ne_blk HO.out.cmd e.symm⟩
    obtain⟨W3,hW3⟩:∃z,z=W2.drew.setCell ⟨m,2,none⟩ (.int .i64 (tok+1)):=⟨_,rfl⟩
    have hk3:Keep (λj=>j≠m) W2 W3:=hW3 ▸ ((krz _ W2).drew).setCell (λ_ h=>h rfl) _
    have hb3:Blk W3 m 91 (mcells bp bl (tok+1) s.ss).toArray:=by
     have h1:=(hM2.blk.drew.set 2 (.int .i64 (tok+1)))
     rw[mcells_tok] at h1
     rw[hW3]
     exact h1
    have hs3:W2.heap.size≤W3.heap.size:=hk3.size
    replace HNx:=hdz (HNx.out.mono λe w' h=>(⟨h.1,hW3.trans h.2.symm⟩:e=.returned (.int .i64 (tok+1))∧W3=w'))
    obtain⟨W4,hW4⟩:∃z,z=W3.alloc (.cells #[.int .i64 c,.int .i64 (tok+1),.slice none 0 0] 101):=⟨_,rfl⟩
    have hk4:Fresh W3 W4:=hW4 ▸ (krz _ W3).alloc _
    have hb4:Blk W4 W3.heap.size 101 #[.int .i64 c,.int .i64 (tok+1),.slice none 0 0]:=hW4 ▸ Blk.new _ _ _
    obtain⟨W5,hrun,hm5,hk5⟩:=((HLm.out.keep hk3 (λe=>hmb e.symm)).keep hk4 trivial).store Tryz.underlying9 Tryz.underlying88 (by rw[hll];simp only[maxLen];omega) (l:=k) (by simp only[maxLen];omega) (.pointer (some ⟨W3.heap.size,0,none⟩))
    have hG3:∀w',Keep (λj=>j≠m∧j≠bl) W2 w'→Blk w' m 91 (mcells bp bl (tok+1) s.ss).toArray→w'.cell? ⟨m,1,none⟩=some (.map (some bl))∧w'.cell? ⟨G,0,none⟩=some (.int .i64 c)∧w'.cell? ⟨G,4,none⟩=some (str k):=λw' h1 h2=>⟨h2.cell 1,h1.cellAt k0 hGm,h1.cellAt k4 hGm⟩
    have hS3:=hG3 W3 (hk3.weaken λ_ _ h=>h.1) hb3
    have hS4:=hG3 W4 ((hk3.comp hk4 (λ_ _ h=>h.1) (λ_ _ _=>trivial))) (hb3.keep hk4 trivial)
    have hb5:=(hb3.keep hk4 trivial).keep hk5 hmb
    have x25:W5.cell? ⟨m,2,none⟩=some (.int .i64 (tok+1)):=hb5.cell 2
    have hml5:=hb5.lt
    have hr4:Hid (∀z:World,z=W4→z=W4):=hdz λ_ h=>h
    have hS5:=hG3 W5 ((hk3.comp hk4 (λ_ _ h=>h.1) (λ_ _ _=>trivial)).comp hk5 (λ_ _ h=>h) (λ_ _ h=>h.2)) hb5
    have HS:=hdz (aiz hS3 hS4)
    have HS5:=hdz hS5
    have H5:=hdz (aiz hm5 (aiz hk5 (aiz hb5 (aiz hk3 (aiz hk4 (aiz hb4 hs3))))))
    rw[hW4] at hrun
    rw[hW4] at HS
    clear hM2 hS3 hS4 hS5 hm5 hk5 hb5 hk3 hk4 hb4 hb3 hG3 hr4 x2 hW3 hW4
    go_region_held3 (λw'=>w'.cell? ⟨m,1,none⟩=some (.map (some bl))∧w'.cell? ⟨G,0,none⟩=some (.int .i64 c)∧w'.cell? ⟨G,4,none⟩=some (str k))
     (first | exact⟨x1,k0,k4⟩ | exact HS.out.1 | exact HS.out.2 | exact HS5.out)
     (first
      | (go_at_call 116;refine HNx.out.mono ?_;rintro e _ ⟨rfl,rfl⟩))
    clear x1 k0 k4 hrun HNx
    go_wp2_with fail
    refine (done_any _ _ W5).mono ?_
    rintro e W6 ⟨rfl,f6⟩
    obtain⟨hm5,hk5,hb5,hk3,hk4,hb4,-⟩:=H5.out
    have hblW:=HLS.out.map.lt
    have hkW5:Keep (λj=>j≠m∧j≠bl) W W5:=((HQ2.out.comp hk3 (λ_ _ _=>trivial) (λ_ _ h=>h.1)).comp hk4 (λ_ _ h=>h) (λ_ _ _=>trivial)).comp hk5 (λ_ _ h=>h) (λ_ _ h=>h.2)
    have hsz:=HO.out.sz
    have hz2:=HQ2.out.size
    have hbr:=HO.out.res.keep hkW5 ⟨by omega,λe=>HLS.out.map.ne_blk HO.out.res e.symm⟩
    have hM2:=HA.out.2.1
    have hMS:MSt (λj=>(S j∧j<w.heap.size)∨W.heap.size≤j) W5 m bp bl { s with locks:=insK LockD.name ⟨k,c,tok+1,[]⟩ s.locks,tok:=tok+1 }:=by
     refine⟨hb5,hM2.len,hM2.pm.keep hkW5 ⟨λe=>hM2.mp e.symm,hM2.ne⟩,⟨_,HLS.out.ins ⟨⟨k,c,tok+1,[]⟩,W3.heap.size,.slice none 0 0⟩ hm5 hkW5 (λj hj h=>⟨λe=>hM2.nm (by rw[←e];exact hj),h⟩) (S':=λj=>(S j∧j<w.heap.size)∨W.heap.size≤j) ⟨hb4.keep hk5 (by omega),OwnAt.nil _ _ _,.inr (by show W.heap.size≤W3.heap.size;omega),λk hk=>by cases hk⟩ (λ_ h=>.inl h) (findK_none hf) (by show W.heap.size≤W3.heap.size;omega) rfl⟩,λe=>e.elim hM2.nm λe=>by omega,λe=>e.elim hM2.nb λe=>by have:=hM2.pm.lt;omega⟩
    have H6:=hdz (aiz hMS (aiz hkW5 (aiz f6 (hbr.keep f6 trivial))))
    obtain⟨r0,r1,r2,s0,s1,s2,rl⟩:=res_facts H6.out.2.2.2
    clear hm5 hk5 hb5 hk3 hk4 hb4 hkW5 hsz hz2 hbr hM2 hMS f6 hblW
    go_wp2_with fail
    obtain⟨hm,hmW,hX,hi⟩:=HA.out
    have e:X=(⟨1,[],tok+1⟩,{ s with locks:=insK LockD.name ⟨k,c,tok+1,[]⟩ s.locks,tok:=tok+1 }):=by
     rw[hX]
     unfold onLockD
     rw[hf,←HT.out]
     simp only[if_true]
     rw[if_neg hful,if_neg (by omega)]
    rw[e]
    have hsz:=HO.out.sz
    have hz:=HO.out.fresh.size
    exact op_ret rfl rfl rfl (H6.out.1.fresh H6.out.2.2.1) (λj h=>h.elim (λh=>.inl h.1) λh=>.inr (by omega)) hml hbl hm.nm hm.nb H6.out.2.2.2 (by omega) ((HO.out.fresh.comp H6.out.2.1 (λ_ _ _=>trivial) (λ_ _ h=>⟨h.1,λe=>h.2.2 (by rw[e];exact hm.sbl)⟩)).comp H6.out.2.2.1 (λ_ _ h=>h) (λ_ _ _=>trivial))
 | some l=>
  obtain⟨x,hx,hxl,hxk,hxi,hxf⟩:=lk_find hls hf
  obtain⟨y0,y1,y2⟩:=hxi.cells
  rw[hxl] at y0 y1
  have hrow:=hxi.row
  rw[hxl] at hrow
  have hlk:=look_lk hls (k:=k) (by omega) _ hxf
  obtain⟨h,hh⟩:=exz (x.h)
  rw[←hh] at y0 y1 y2 hlk
  have hhl:=hxi.lt
  rw[←hh] at hhl
  have HX:=hdz (aiz hls (aiz hx (aiz hxl (aiz hxk (aiz hxi hh)))))
  obtain⟨lh,hlh⟩:=exz (l.holder)
  obtain⟨lt,hlt⟩:=exz (l.token)
  rw[←hlh] at y0
  rw[←hlt] at y1
  have HLH:=hdz (aiz hlh hlt)
  obtain⟨v0,hv0⟩:=exz (x.v)
  rw[←hv0] at hrow y2
  have HR:=hdz (aiz hrow hv0)
  clear hls hx hxl hxk hxi hxf hh hlh hlt hrow hv0
  by_cases hc:lh=c
  ·subst hc
   clear y2
   go_enter Tryz.func78,Tryz.ntmps78
   go_wp2_with fail
   simp only[←hG]
   rw[←hW]
   clear hW hG
   go_quiet (fail)
   go_wp2_with fail
   go_quiet (fail)
   go_wp2_with fail
   refine (done_any _ _ _).mono ?_
   rintro e W4 ⟨rfl,f4⟩
   have HF:=hdz (((krz _ W).drewN _).trans f4)
   obtain⟨r0,r1,r2,s0,s1,s2,rl⟩:=res_facts (HO.out.res.keep HF.out trivial)
   clear f4
   go_wp2_with fail
   obtain⟨hm,hmW,hX,hi⟩:=HA.out
   have e:X=(⟨1,[],lt⟩,s):=by
    rw[hX]
    unfold onLockD
    rw[hf]
    simp only[if_true]
    rw[if_pos HLH.out.1.symm,HLH.out.2]
   rw[e]
   exact op_ret rfl rfl rfl (hmW.fresh HF.out) (λj h=>.inl h.1) hml hbl hm.nm hm.nb (HO.out.res.keep HF.out trivial) (by have:=HO.out.sz;omega) ((HO.out.fresh.trans HF.out).weaken λ_ _ _=>trivial)
  ·obtain⟨b,hb⟩:=exz (decide (c∈l.queue))
   have HCo:Hid (∀q,Calls Tryz.prog 120 #[v0,.int .i64 c] (W.drewN q) λe w'=>e=.returned (.bool b)∧W.drewN q=w'):=hdz λq=>by
    rw[hb]
    exact (contains_any l.queue c (W.drewN q) (HR.out.1.keep ((krz (λ_=>True) W).drewN q) (λ_ _=>trivial)))
   have HB:=hdz hb
   clear hb
   go_enter Tryz.func78,Tryz.ntmps78
   go_wp2_with fail
   simp only[←hG]
   rw[←hW]
   clear hW hG
   go_quiet (fail)
   go_wp2_with fail
   go_quiet (fail)
   go_wp2_with fail
   go_quiet ((go_at_call 120;exact quiet_add_left (HCo.out _)))
   cases b
   ·go_wp2_with fail
    generalize hW3:World.drewN (World.drewN W _) nq=W3
    have hQ3:Fresh W W3:=hW3 ▸ ((krz _ W).drewN _).drewN _
    clear hW3
    replace k0:=hQ3.cellAt k0 trivial
    replace y2:=hQ3.cellAt y2 trivial
    have kl3:G<W3.heap.size:=ltz kl hQ3.size
    have hhl3:h<W3.heap.size:=ltz hhl hQ3.size
    have hcq:c ∉ l.queue:=by simpa using HB.out
    obtain⟨hls,hx,hxl,hxk,hxi,hh⟩:=HX.out
    have hxi3:=hxi.keep hQ3 trivial (λ_ _=>trivial)
    have hlo:=HA.out.2.2.2.each l (findK_some hf).2
    have hql:=queue_len hlo.nd hlo.q
    have hrow3:OwnAt W3 0 3 v0 l.queue.length (ics l.queue):=HR.out.1.keep hQ3 (λ_ _=>trivial)
    have hkA:Fresh W3 (W3.drew.alloc (.cells #[.int .i64 c] 3)):=((krz (λ_=>True) W3).drew).alloc _
    have hrowA:=hrow3.keep hkA (λ_ _=>trivial)
    have hvh:v0.ownBlock≠some h:=by
     rw[hh]
     exact hrow3.ne_blk hxi3.blk (by decide)
    have hvG:v0.ownBlock≠some G:=hrow3.ne_blk (HO.out.cmd.keep hQ3 trivial) (by decide)
    have zf:W3.frozen? ⟨h,2,none⟩=false:=by rw[hh];exact hxi3.blk.frozen 2
    have yA:=hkA.cellAt y2 trivial
    have kA:=hkA.cellAt k0 trivial
    have fA:=(hkA.frozen (p:=⟨h,2,none⟩) hhl3 trivial).trans zf
    have hlA:h<(W3.drew.alloc (.cells #[.int .i64 c] 3)).heap.size:=ltz hhl3 hkA.size
    have hGA:G<(W3.drew.alloc (.cells #[.int .i64 c] 3)).heap.size:=ltz kl3 hkA.size
    have hGh:G≠h:=λe=>Blk.ne (HO.out.cmd.keep hQ3 trivial) (hh ▸ hxi3.blk) (by decide) e
    have HF:=hdz (aiz hrowA (aiz hvh (aiz yA (aiz fA (aiz hlA (aiz (show (l.queue.length+1)*8≤140737488355328 by omega) (aiz kA (aiz hGA (aiz hvG hGh)))))))))
    have HQ3:=hdz (aiz hQ3 (aiz hcq (aiz hrow3 hql)))
    clear hQ3 hlk x1 x2 y0 y1 k4 k5 k6 HCo hls hx hxl hxk hxi hh hxi3 hlo hrow3 hkA hrowA hvh yA fA hlA hcq kA hGA hql hvG hGh
    go_region_law (first
     | (refine step_appAt etInt rfl (.tmp 45) (.tmp 48) rfl 0 v0 l.queue.length (ics l.queue) rfl HF.out.1 _ ⟨W3.heap.size,0,none⟩ _ (.int .i64 c) rfl (Rd.one_of (Blk.new _ _ _) rfl) rfl HF.out.2.2.2.2.2.1 (Nat.zero_le _) ?_
        intro v4 w4 ho4 hk4 hn4
        obtain⟨A4,c4,hv4,-⟩:=ho4.rd
        subst hv4
        have t2:=hk4.cellAt HF.out.2.2.1 HF.out.2.1
        have t0:=hk4.cellAt HF.out.2.2.2.2.2.2.1 HF.out.2.2.2.2.2.2.2.2.1
        have tf:w4.frozen? ⟨h,2,none⟩=false:=(hk4.frozen (p:=⟨h,2,none⟩) HF.out.2.2.2.2.1 HF.out.2.1).trans HF.out.2.2.2.1
        have tl:h<w4.heap.size:=ltz HF.out.2.2.2.2.1 hk4.size
        have tG:G<w4.heap.size:=ltz HF.out.2.2.2.2.2.2.2.1 hk4.size
        have H4:=hdz (aiz ho4 (aiz hk4 hn4))
        clear ho4 hk4 hn4))
    all_goals
     go_wp2_with fail
     obtain⟨ho4,hk4,hn4⟩:=H4.out
     obtain⟨hQ3,hcq,hrow3,hql⟩:=HQ3.out
     obtain⟨hls,hx,hxl,hxk,hxi,hh⟩:=HX.out
     have hvh:=HF.out.2.1
     have hvG:=HF.out.2.2.2.2.2.2.2.2.1
     have hGh:=HF.out.2.2.2.2.2.2.2.2.2
     obtain⟨V4,hV4⟩:∃V,V=Value.slice A4 (l.queue.length+1) c4:=⟨_,rfl⟩
     rw[←hV4] at ho4 hn4 ⊢
     have hV4h:V4.ownBlock≠some h:=by
      rcases hn4 with e | ⟨g,hg,hle⟩
      ·rw[e];exact hvh
      ·rw[hg]
       intro e
       injection e with e
       have:W3.heap.size≤(W3.alloc (.cells #[.int .i64 c] 3)).drew.heap.size:=((krz (λ_=>True) W3).alloc _).drew.size
       omega
     have hn4':Next W3.heap.size v0 V4:=by
      rcases hn4 with e | ⟨g,hg,hle⟩
      ·exact .inl e
      ·exact .inr ⟨g,hg,lez ((krz (λ_=>True) W3).alloc (.cells #[.int .i64 c] 3)).drew.size hle⟩
     have K34:Keep (λk=>v0.ownBlock≠some k) W3 w4:=((krz (λ_=>True) W3).alloc _).drew.comp hk4 (λ_ _ _=>trivial) (λ_ _ h=>h)
     have hb4:Blk w4 h 101 #[.int .i64 x.d.holder,.int .i64 x.d.token,x.v]:=((hh ▸ hxi.blk).keep hQ3 trivial).keep K34 hvh
     have hb5:Blk (w4.setCell ⟨h,2,none⟩ V4) h 101 #[.int .i64 x.d.holder,.int .i64 x.d.token,V4]:=hb4.set 2 V4
     have ho5:OwnAt (w4.setCell ⟨h,2,none⟩ V4) 0 3 V4 (l.queue++[c]).length (ics (l.queue++[c])):=by
      have h1:=ho4.far (p:=⟨h,2,none⟩) hV4h V4
      simpa[ics] using h1
     have K35:Keep (λj=>j≠h∧v0.ownBlock≠some j) W3 (w4.setCell ⟨h,2,none⟩ V4):=(K34.weaken λ_ _ h=>h.2).setCell (λ_ h=>h.1 rfl) _
     generalize hW5:World.setCell w4 ⟨h,2,none⟩ V4=W5 at hb5 ho5 K35 ⊢
     have u2:=hb5.cell 2
     simp at u2
     have u0:=K35.cellAt k0 ⟨hGh,hvG⟩
     have ul:G<W5.heap.size:=ltz kl3 K35.size
     have uh:=hb5.lt
     have hres5:=(HO.out.res.keep hQ3 trivial).keep K35 ⟨λe=>Blk.ne (HO.out.res.keep hQ3 trivial) ((hh ▸ hxi.blk).keep hQ3 trivial) (by decide) e,hrow3.ne_blk (HO.out.res.keep hQ3 trivial) (by decide)⟩
     obtain⟨r0,r1,r2,s0,s1,s2,rl⟩:=res_facts hres5
     have hhG:h≠G+1:=λe=>Blk.ne (HO.out.res.keep hQ3 trivial) ((hh ▸ hxi.blk).keep hQ3 trivial) (by decide) e.symm
     have hix:Lib.idxOf (l.queue++[c]) c=((l.queue.length:Nat):Int):=by
      rw[idx_mem (by simp),List.idxOf_append,if_neg hcq]
      simp
     obtain⟨ix,hix2⟩:=exz (l.queue.length)
     rw[←hix2] at hix hql
     have HIx:Hid (∀q,Calls Tryz.prog 113 #[V4,.int .i64 c] (W5.drewN q) λe w'=>e=.returned (.int .i64 (ix:Int))∧W5.drewN q=w'):=hdz λq=>by
      rw[←hix]
      exact index_any (l.queue++[c]) c (W5.drewN q) (ho5.keep ((krz (λ_=>True) W5).drewN q) (λ_ _=>trivial))
     have HRr:=hdz (λw' (hk:Keep (λj=>j≠G+1) W5 w')=>(⟨hk.cellAt u2 hhG,hk.cellAt u0 (show G≠G+1 by omega)⟩:w'.cell? ⟨h,2,none⟩=some V4∧w'.cell? ⟨G,0,none⟩=some (.int .i64 c)))
     have H5:=hdz (aiz hb5 (aiz ho5 (aiz K35 (aiz hres5 (aiz hix2 hn4')))))
     clear HF H4 ho4 hk4 hn4 hQ3 hcq hrow3 hls hx hxl hxk hxi hh hvh hvG hGh hV4 hV4h hn4' K34 hb4 hb5 ho5 K35 hres5 hix hix2 hW5 t0 t2 tf tl tG k0 y2 zf
     go_region_held3 (λw'=>w'.cell? ⟨h,2,none⟩=some V4∧w'.cell? ⟨G,0,none⟩=some (.int .i64 c))
      (first | exact⟨u2,u0⟩ | exact HRr.out _ (((((krz _ W5).drewN _).setCell (λ_ h=>h rfl) _).setCell (λ_ h=>h rfl) _).setCell (λ_ h=>h rfl) _))
      (first | (go_at_call 113;refine (HIx.out _).mono ?_;rintro e _ ⟨rfl,rfl⟩))
     go_wp2_with fail
     rw[IntWalk.i64_in _ ⟨by omega,by omega⟩]
     obtain⟨hm,hmW,hX,hi⟩:=HA.out
     obtain⟨hQ3,hcq,hrow3,-⟩:=HQ3.out
     obtain⟨hls,hx,hxl,hxk,hxi,hh⟩:=HX.out
     obtain⟨hb5,ho5,K35,hres5,hix2,hn4⟩:=H5.out
     have e:X=(⟨7,[],(ix:Int)+1⟩,{ s with locks:=setK LockD.name { l with queue:=l.queue++[c] } s.locks }):=by
      rw[hX]
      unfold onLockD
      rw[hf]
      simp only[if_true]
      rw[if_neg (λe=>hc (by rw[HLH.out.1];exact e)),if_neg hcq,hix2]
     rw[e]
     have hS5:∀j,V4.ownBlock=some j→(S j∧j<w.heap.size)∨W3.heap.size≤j:=λj hj=>by
      rcases hn4 with e | ⟨g,hg,hle⟩
      ·exact .inl (hxi.sv j (by rw[←HR.out.2,←e];exact hj))
      ·exact .inr (by rw[hg] at hj;injection hj with hj;omega)
     obtain⟨hT,hTk⟩:=MSt.turned (hmW.fresh hQ3) hi.rise (hls.keep hQ3 (λ_ _=>trivial)) hx (x':=⟨{ l with queue:=l.queue++[c] },h,V4⟩) hh (by rw[hxl])
      ⟨by rw[hxl] at hb5;exact hb5,ho5,.inl (hh ▸ hxi.sh),hS5⟩ (by rw[←HR.out.2];exact hn4) (K35.weaken λj _ hj=>⟨λe=>hj.1 (e.trans hh),by rw[HR.out.2];exact hj.2⟩)
     have hQ4:Fresh W5 (W5.drewN 1):=(krz _ W5).drewN 1
     have hz3:=(HO.out.fresh.trans hQ3).size
     exact op_ret rfl rfl rfl (hT.fresh hQ4) (λj h=>h.elim (λh=>.inl h.1) λh=>.inr (by omega)) hml hbl hm.nm hm.nb (hres5.keep hQ4 trivial) (by have:=HO.out.sz;omega) (((HO.out.fresh.trans hQ3).comp hTk (λ_ _ _=>trivial) (λ_ _ h=>⟨h.1,h.2.1,λe=>h.2.2 e.1⟩)).comp hQ4 (λ_ _ h=>h) (λ_ _ _=>trivial))
   ·go_wp2_with fail
    generalize hW3:World.drewN (World.drewN W _) nq=W3
    have hQ3:Fresh W W3:=hW3 ▸ ((krz _ W).drewN _).drewN _
    clear hW3
    replace k0:=hQ3.cellAt k0 trivial
    replace y2:=hQ3.cellAt y2 trivial
    have kl3:G<W3.heap.size:=ltz kl hQ3.size
    have hhl3:h<W3.heap.size:=ltz hhl hQ3.size
    have hcq:c∈l.queue:=by simpa using HB.out
    have hix:Lib.idxOf l.queue c=(l.queue.idxOf c:Int):=idx_mem hcq
    obtain⟨ix,hix2⟩:=exz (l.queue.idxOf c)
    rw[←hix2] at hix
    have hixb:ix≤1000:=by
     have h1:=List.idxOf_lt_length_of_mem hcq
     have hxo:=HA.out.2.2.2.each l (findK_some hf).2
     have:=queue_len hxo.nd hxo.q
     omega
    have HIx:Hid (∀q,Calls Tryz.prog 113 #[v0,.int .i64 c] (W3.drewN q) λe w'=>e=.returned (.int .i64 (ix:Int))∧W3.drewN q=w'):=hdz λq=>by
     rw[←hix]
     exact index_any l.queue c (W3.drewN q) ((HR.out.1.keep hQ3 (λ_ _=>trivial)).keep ((krz (λ_=>True) W3).drewN q) (λ_ _=>trivial))
    have HQ3:=hdz (aiz hQ3 (aiz hcq hix2))
    obtain⟨r0,r1,r2,s0,s1,s2,rl⟩:=res_facts (HO.out.res.keep hQ3 trivial)
    clear hQ3 hcq hix hix2 hlk x1 x2 y0 y1 k4 k5 k6 HCo
    have hhG:h≠G+1:=λe=>by
     obtain⟨-,-,-,-,hxi,hh⟩:=HX.out
     exact Blk.ne (HO.out.res.keep HQ3.out.1 trivial) ((hh ▸ hxi.blk).keep HQ3.out.1 trivial) (by decide) e.symm
    have HRr:=hdz (λw' (hk:Keep (λj=>j≠G+1) W3 w')=>(⟨hk.cellAt y2 hhG,hk.cellAt k0 (show G≠G+1 by omega)⟩:w'.cell? ⟨h,2,none⟩=some v0∧w'.cell? ⟨G,0,none⟩=some (.int .i64 c)))
    go_region_held3 (λw'=>w'.cell? ⟨h,2,none⟩=some v0∧w'.cell? ⟨G,0,none⟩=some (.int .i64 c))
     (first | exact⟨y2,k0⟩ | exact HRr.out _ (((((krz _ W3).drewN _).setCell (λ_ h=>h rfl) _).setCell (λ_ h=>h rfl) _).setCell (λ_ h=>h rfl) _))
     (first | (go_at_call 113;refine (HIx.out _).mono ?_;rintro e _ ⟨rfl,rfl⟩))
    go_wp2_with fail
    rw[IntWalk.i64_in _ ⟨by omega,by omega⟩]
    obtain⟨hm,hmW,hX,hi⟩:=HA.out
    obtain⟨hQ3,hcq,hix2⟩:=HQ3.out
    have e:X=(⟨7,[],(ix:Int)+1⟩,s):=by
     rw[hX]
     unfold onLockD
     rw[hf]
     simp only[if_true]
     rw[if_neg (λe=>hc (by rw[HLH.out.1];exact e)),if_pos hcq,hix2]
    rw[e]
    have hQ4:=hQ3.drewN 1
    exact op_ret rfl rfl rfl (hmW.fresh hQ4) (λj h=>.inl h.1) hml hbl hm.nm hm.nb (HO.out.res.keep hQ4 trivial) (by have:=HO.out.sz;omega) ((HO.out.fresh.trans hQ4).weaken λ_ _ _=>trivial)
theorem numb_bound (l:Txt) : -1000000000000000000<(numb l).1∧(numb l).1<1000000000000000000:=by
 unfold numb
 split
 ·simp
 ·cases h:Lib.atoi l with
  | none=>simp
  | some n=>exact Lib.atoi_bound h (by omega)
theorem itoa_any (n:Int)(h0 : -2000000000000000000≤n)(h1:n≤2000000000000000000)(w:World)(hT:Tabs w):Calls Tryz.prog 119 #[.int .i64 n] w λe w'=>e=.returned (str (Lib.itoa n))∧Fresh w w':=by
 refine (Tryz.strconv_Itoa n (by omega) (by omega) w hT.pow).mono ?_
 rintro e w' ⟨rfl,k,os,rfl⟩
 exact⟨rfl,Fresh.growN _ _ _⟩
theorem addop_any (S:Nat→Prop) (m bp bl:Nat) (s:StD) (c i r:Int) (k v d:Txt) (w:World) (hm:MSt S w m bp bl s) (hp:PInv s.pairs) (hk:k.length≤8) (hv:v.length≤8) (hT:Tabs w) :
 Calls Tryz.prog 77 #[.pointer (some ⟨m,0,none⟩),cmdV c i r 5 k v d] w (OpPost S m bp bl (onKeyD numb Lib.itoa 5 k v d s) w):=by
 obtain⟨X,hX⟩:=exz (onKeyD numb Lib.itoa 5 k v d s)
 rw[←hX]
 have HO:=hdz (op_at w c i r 5 k v d)
 obtain⟨G,hG⟩:=exz (w.heap.size)
 obtain⟨W,hW⟩:=exz ((w.alloc (.cells #[.int .i64 c,.int .i64 i,.int .i64 r,.int .i64 5,str k,str v,str d] 30)).alloc (.cells #[.int .i64 0,str [],.int .i64 0] 33))
 rw[←hW,←hG] at HO
 obtain⟨k0,k4,k5,k6,kl⟩:=HO.out.cells
 have k1:=HO.out.cmd.cell 1
 have k2:=HO.out.cmd.cell 2
 have k3:=HO.out.cmd.cell 3
 simp at k1 k2 k3
 have hmW:=hm.fresh HO.out.fresh
 obtain⟨x0,-,-⟩:=hmW.three
 have hmlt:=hmW.blk.lt
 have hml:=hm.blk.lt
 have hbl:=hm.pm.lt
 have hlk:=look_str hmW.pm (l:=k) (by omega)
 have hlen:=hp.len
 have HA:=hdz (aiz hm (aiz hmW (aiz hX (aiz hp hT))))
 clear hm hmW hX hp hT
 go_enter Tryz.func77,Tryz.ntmps77
 go_wp2_with fail
 simp only[←hG]
 rw[←hW]
 clear hW hG
 go_quiet (fail)
 obtain⟨W2,hW2⟩:=exz (W.drewN nq)
 have hQ:Fresh W W2:=hW2 ▸ (krz _ W).drewN nq
 rw[←hW2]
 have HQ:=hdz hQ
 replace x0:=hQ.cellAt x0 trivial
 replace k0:=hQ.cellAt k0 trivial
 replace k1:=hQ.cellAt k1 trivial
 replace k2:=hQ.cellAt k2 trivial
 replace k3:=hQ.cellAt k3 trivial
 replace k4:=hQ.cellAt k4 trivial
 replace k5:=hQ.cellAt k5 trivial
 replace k6:=hQ.cellAt k6 trivial
 replace hmlt:m<W2.heap.size:=ltz hmlt hQ.size
 replace kl:G<W2.heap.size:=ltz kl hQ.size
 clear hQ
 cases hpf:pfind k s.pairs with
 | none=>
  rw[hpf] at hlk
  have HSet:=setop_any Lib.itoa (λj=>S j∧j<w.heap.size) m bp bl s c i r 5 k v d W2 ((HA.out.1.tight.fresh HO.out.fresh).fresh HQ.out) HA.out.2.2.2.1 hk
  by_cases hful:16≤s.pairs.length
  ·have e1:onKeyD numb Lib.itoa 1 k v d s=(⟨4,[],0⟩,s):=by unfold onKeyD;rw[pfindD_none hpf];simp[hful]
   have HE:Hid (X=(⟨4,[],0⟩,s)):=by rw[HA.out.2.2.1];unfold onKeyD;rw[pfindD_none hpf];simp[hful];trivial
   rw[e1] at HSet
   replace HSet:=hdz HSet
   clear hW2 hlk x0
   go_wp2_with fail
   refine HSet.out.mono ?_
   rintro e W4 ⟨rfl,hst,hkp⟩
   have hsz:=HO.out.sz
   have hb4:=(HO.out.res.keep HQ.out trivial).keep hkp ⟨by omega,by omega,λh=>by have:=h.2;omega⟩
   have H4:=hdz (aiz hst (aiz hkp hb4))
   have r4:=res_facts hb4
   clear hst hkp hb4 HSet hsz
   obtain⟨r0,r1,r2,s0,s1,s2,rl⟩:=r4
   go_wp2_with fail
   have hm:=HA.out.1
   have hsz:=HO.out.sz
   have hz1:=HO.out.fresh.size
   have hz2:=HQ.out.size
   rw[HE.out]
   exact op_ret2 rfl rfl rfl H4.out.1 (λj h=>h.elim (λh=>.inl h.1) λh=>.inr (by omega)) hml hbl hm.nm hm.nb H4.out.2.2 (by omega) ((HO.out.fresh.trans HQ.out).comp H4.out.2.1 (λ_ _ _=>trivial) (λ_ _ h=>⟨h.1,h.2.1,λe=>h.2.2 e.1⟩)) ((krz _ _).alloc _)
  ·have e1:onKeyD numb Lib.itoa 1 k v d s=(⟨1,[],0⟩,{ s with pairs:=pputD k v s.pairs }):=by unfold onKeyD;rw[pfindD_none hpf];simp[hful]
   have HE:Hid (X=(⟨1,v,0⟩,{ s with pairs:=pputD k v s.pairs })):=by rw[HA.out.2.2.1];unfold onKeyD;rw[pfindD_none hpf];simp[hful];trivial
   rw[e1] at HSet
   replace HSet:=hdz HSet
   clear hlk x0 hW2
   go_wp2_with fail
   refine HSet.out.mono ?_
   rintro e W4 ⟨rfl,hst,hkp⟩
   have hsz:=HO.out.sz
   have hb4:=(HO.out.res.keep HQ.out trivial).keep hkp ⟨by omega,by omega,λh=>by have:=h.2;omega⟩
   have k5':=hkp.cellAt k5 ⟨show G≠m by omega,show G≠bp by omega,λh=>by have:G<w.heap.size:=h.2;omega⟩
   have kl4:G<W4.heap.size:=ltz kl hkp.size
   have H4:=hdz (aiz hst (aiz hkp hb4))
   have r4:=res_facts hb4
   clear hst hkp hb4 HSet hsz
   obtain⟨r0,r1,r2,s0,s1,s2,rl⟩:=r4
   have HK:=hdz (aiz k0 (aiz k4 kl))
   clear k0 k1 k2 k3 k4 k5 k6
   go_wp2_with fail
   have hm:=HA.out.1
   have hsz:=HO.out.sz
   have hz1:=HO.out.fresh.size
   have hz2:=HQ.out.size
   rw[HE.out]
   exact op_ret2 rfl rfl rfl H4.out.1 (λj h=>h.elim (λh=>.inl h.1) λh=>.inr (by omega)) hml hbl hm.nm hm.nb H4.out.2.2 (by omega) ((HO.out.fresh.trans HQ.out).comp H4.out.2.1 (λ_ _ _=>trivial) (λ_ _ h=>⟨h.1,h.2.1,λe=>h.2.2 e.1⟩)) ((krz _ _).alloc _)
 | some u=>
  rw[hpf] at hlk
  have HN:=hdz (number_any u W2 ((HA.out.2.2.2.2.fresh HO.out.fresh).fresh HQ.out))
  obtain⟨na,hna⟩:∃z,z=(numb u).1:=⟨_,rfl⟩
  obtain⟨fa,hfa⟩:∃z,z=(numb u).2:=⟨_,rfl⟩
  rw[←hna,←hfa] at HN
  have hab:=numb_bound u
  rw[←hna] at hab
  obtain⟨hab1,hab2⟩:=hab
  have HV:=hdz (aiz hna hfa)
  clear hna hfa hW2 k1 k2 k3
  go_wp2_with fail
  refine HN.out.mono ?_
  rintro e W3 ⟨rfl,f3⟩
  have HF3:=hdz (HQ.out.trans f3)
  have hT3:=((HA.out.2.2.2.2.fresh HO.out.fresh).fresh HQ.out).fresh f3
  replace x0:=f3.cellAt x0 trivial
  replace k4:=f3.cellAt k4 trivial
  replace k5:=f3.cellAt k5 trivial
  replace hmlt:m<W3.heap.size:=ltz hmlt f3.size
  replace kl:G<W3.heap.size:=ltz kl f3.size
  have HN2:=hdz (number_any v W3 hT3)
  clear f3 HN k0 k6 hlk hT3
  cases fa with
  | false=>
   obtain⟨r0,r1,r2,s0,s1,s2,rl⟩:=res_facts (HO.out.res.keep HF3.out trivial)
   go_wp2_with fail
   obtain⟨hm,hmW,hX,hp,hT⟩:=HA.out
   obtain⟨a,ha⟩:=pfindD_some hpf
   have e:X=(⟨5,u,1⟩,s):=by rw[hX];unfold onKeyD;rw[ha];simp[←HV.out.2]
   rw[e]
   exact op_ret rfl rfl rfl (hmW.fresh HF3.out) (λj h=>.inl h) hml hbl hm.nm hm.nb (HO.out.res.keep HF3.out trivial) (by have:=HO.out.sz;omega) ((HO.out.fresh.trans HF3.out).weaken λ_ _ _=>trivial)
  | true=>
   obtain⟨nb,hnb⟩:∃z,z=(numb v).1:=⟨_,rfl⟩
   rw[←hnb] at HN2
   have hbb:=numb_bound v
   rw[←hnb] at hbb
   obtain⟨hbb1,hbb2⟩:=hbb
   have HB:=hdz hnb
   clear hnb
   go_wp2_with fail
   refine HN2.out.mono ?_
   rintro e W5 ⟨rfl,f5⟩
   have HF5:=hdz (HF3.out.trans f5)
   replace x0:=f5.cellAt x0 trivial
   replace k4:=f5.cellAt k4 trivial
   replace hmlt:m<W5.heap.size:=ltz hmlt f5.size
   replace kl:G<W5.heap.size:=ltz kl f5.size
   have HI:=hdz (itoa_any (na+nb) (by omega) (by omega) W5 ((HA.out.2.2.2.2.fresh HO.out.fresh).fresh HF5.out))
   obtain⟨L,hL⟩:=exz (Lib.itoa (na+nb))
   rw[←hL] at HI
   have HLL:=hdz hL
   clear f5 HN2 k5 hL
   go_wp2_with fail
   refine HI.out.mono ?_
   rintro e W6 ⟨rfl,f6⟩
   have HF6:=hdz (HF5.out.trans f6)
   replace x0:=f6.cellAt x0 trivial
   replace k4:=f6.cellAt k4 trivial
   replace hmlt:m<W6.heap.size:=ltz hmlt f6.size
   replace kl:G<W6.heap.size:=ltz kl f6.size
   clear f6 HI
   by_cases h8:8<L.length
   ·obtain⟨r0,r1,r2,s0,s1,s2,rl⟩:=res_facts (HO.out.res.keep HF6.out trivial)
    have h8i:(8:Int)<(L.length:Int):=by omega
    go_wp2_with fail
    obtain⟨hm,hmW,hX,hp,hT⟩:=HA.out
    obtain⟨a,ha⟩:=pfindD_some hpf
    have e:X=(⟨6,u,1⟩,s):=by rw[hX];unfold onKeyD;rw[ha];simp[←HV.out.2,←HV.out.1,←HB.out,←HLL.out,h8]
    rw[e]
    exact op_ret rfl rfl rfl (hmW.fresh HF6.out) (λj h=>.inl h) hml hbl hm.nm hm.nb (HO.out.res.keep HF6.out trivial) (by have:=HO.out.sz;omega) ((HO.out.fresh.trans HF6.out).weaken λ_ _ _=>trivial)
   ·have h8i:¬(8:Int)<(L.length:Int):=by omega
    go_wp2_with fail
    refine wp_region_still_tail 7 (by kernel_rfl) (by kernel_rfl) ?_
    simp only[List.take_succ_cons,List.take_zero,List.drop_succ_cons,List.drop_zero]
    repeat still_step
    refine wpStill_nil ?_
    change wpList _ _ _ _ _ W6.drew
    refine wpList_mstore rfl (.tmp 62) (.tmp 64) (.tmp 65) rfl Tryz.underlying9 Tryz.underlying87 rfl ((HA.out.2.1.fresh HF6.out).pm.keep ((krz (λ_=>True) W6).drew) trivial) (by rw[sk_len];simp only[maxLen];omega) (l:=k) (by simp only[maxLen];omega) rfl (str L) rfl ?_
    intro W7 hm7 hk7
    rw[sk_put] at hm7
    have hk67:Keep (λj=>j≠bp) W6 W7:=(krz _ W6).drew.trans hk7
    have H7:=hdz (aiz hm7 hk67)
    have HD:=hdz (done_any L 1 W7)
    clear hm7 hk7 hk67 x0 k4
    go_wp2_with fail
    refine HD.out.mono ?_
    rintro e W8 ⟨rfl,f8⟩
    have hb2:=HO.out.res.keep HF6.out trivial
    have hbG:G+1≠bp:=by have:=HO.out.sz;omega
    have H8:=hdz (aiz f8 ((hb2.keep H7.out.2 hbG).keep f8 trivial))
    obtain⟨r0,r1,r2,s0,s1,s2,rl⟩:=res_facts H8.out.2
    clear f8 HD hb2
    go_wp2_with fail
    obtain⟨hm,hmW,hX,hp,hT⟩:=HA.out
    obtain⟨a,ha⟩:=pfindD_some hpf
    have e:X=(⟨1,L,1⟩,{ s with pairs:=pput k L s.pairs }):=by rw[hX,pput_eq k L _ hp.rise];unfold onKeyD;rw[ha];simp[←HV.out.2,←HV.out.1,←HB.out,←HLL.out,h8]
    rw[e]
    have h2:=op_pairs (x:=(⟨1,L,1⟩,{ s with pairs:=pput k L s.pairs })) (hmW.fresh HF6.out) rfl H7.out.1 H7.out.2 rfl
    have hsz:=HO.out.sz
    have hz1:=HO.out.fresh.size
    have hz2:=HF6.out.size
    exact op_ret rfl rfl rfl (h2.st.fresh H8.out.1) (λj h=>h.elim .inl λh=>.inr (by omega)) hml hbl hm.nm hm.nb H8.out.2 (by omega) ((((HO.out.fresh.trans HF6.out).comp H7.out.2 (λ_ _ _=>trivial) (λ_ _ h=>h.2.1)).comp H8.out.1 (λ_ _ h=>h) (λ_ _ _=>trivial)))
theorem vcmd_of {c i r o:Int} {k v d:Txt} (h:validB c i r o k v d=true):VCmd numb c i r o k v d:=by
 obtain⟨⟨hc0,hc1⟩,⟨hi0,hi1⟩,⟨hr0,hr1⟩,⟨ho1,ho9⟩,hf⟩:=valid_ok h
 obtain⟨l1,l2,l3⟩:=fits_len hf
 have hK:o≤8→1≤k.length:=by
  intro ho
  have hs:hasB (shapeTab.getD o.toNat 0) 1=true:=by
   obtain⟨n,rfl⟩:∃n:Nat,o=(n:Int):=⟨o.toNat,by omega⟩
   have hn:n=1∨n=2∨n=3∨n=4∨n=5∨n=6∨n=7∨n=8:=by omega
   rcases hn with rfl | rfl | rfl | rfl | rfl | rfl | rfl | rfl <;> decide
  unfold fitsB at hf
  split at hf
  ·cases hf
  ·rename_i h1
   have:keyB k=true:=by
    rcases hk:keyB k with _ | _
    ·exact absurd (.inl (by rw[hs,hk];simp)) h1
    ·rfl
   simp[keyB] at this
   omega
 have hE:o=9→0≤(numb v).1∧(numb v).1<16:=by
  rintro rfl
  have e:shapeTab.getD (9:Int).toNat 0=32:=by decide
  have b2:hasB 32 2=false:=by decide
  have b8:hasB 32 8=false:=by decide
  have b16:hasB 32 16=false:=by decide
  have b32:hasB 32 32=true:=by decide
  rw[e] at hf
  unfold fitsB at hf
  rw[b2,b8,b16,b32] at hf
  split at hf
  ·cases hf
  ·split at hf
   ·cases hf
   ·simp at hf
    exact hf.2
 exact⟨hc0,hc1,hi0,hi1,hr0,hr1,ho1,by omega,λho=>⟨hK ho,l1⟩,l2,hE⟩
def opFn (o:Int):Nat:=if o=1 then 73 else if o=2 then 74 else if o=3 then 75 else if o=4 then 76 else if o=5 then 77
 else if o=6 then 78 else if o=7 then 79 else if o=8 then 80 else 81
theorem op_nine {o:Int}(h1:1≤o)(h9:o≤9):o=1∨o=2∨o=3∨o=4∨o=5∨o=6∨o=7∨o=8∨o=9:=by omega
theorem opOf_one (o:Int) (f:Nat) (w:World) (h:(o=1∧f=73)∨(o=2∧f=74)∨(o=3∧f=75)∨(o=4∧f=76)∨(o=5∧f=77)∨(o=6∧f=78)∨(o=7∧f=79)∨(o=8∧f=80)∨(o=9∧f=81)) :
 Calls Tryz.prog 44 #[.int .i64 o] w λe w'=>e=.returned (.agg #[.func (Fn.func f) #[] #[]])∧Fresh w w':=by
 rcases h with ⟨rfl,rfl⟩ | ⟨rfl,rfl⟩ | ⟨rfl,rfl⟩ | ⟨rfl,rfl⟩ | ⟨rfl,rfl⟩ | ⟨rfl,rfl⟩ | ⟨rfl,rfl⟩ | ⟨rfl,rfl⟩ | ⟨rfl,rfl⟩
 all_goals
  go_enter Tryz.func44,Tryz.ntmps44
  go_wp2
  refine bodyPost_ret (results_one rfl _ _ w.heap.size 110 _ _ rfl (Blk.new _ _ _) Tryz.underlying110 rfl (by kernel_rfl)) rfl ?_
  exact⟨rfl,(krz _ w).alloc _⟩
theorem opOf_all {o:Int}(h1:1≤o)(h9:o≤9)(w:World):Calls Tryz.prog 44 #[.int .i64 o] w λe w'=>e=.returned (.agg #[.func (Fn.func (opFn o)) #[] #[]])∧Fresh w w':=by
 refine opOf_one o (opFn o) w ?_
 rcases op_nine h1 h9 with rfl | rfl | rfl | rfl | rfl | rfl | rfl | rfl | rfl <;> simp[opFn]
theorem op_does (S:Nat→Prop) (m bp bl:Nat) (s:StD) (c i r o:Int) (k v d:Txt) (w:World) (hm:MSt S w m bp bl s) (hi:LInv s.locks s.tok) (hp:PInv s.pairs) (hT:Tabs w) (hv:VCmd numb c i r o k v d) :
 Calls Tryz.prog (opFn o) #[.pointer (some ⟨m,0,none⟩),cmdV c i r o k v d] w (OpPost S m bp bl (doesD numb Lib.itoa c o k v d s) w):=by
 have hk:=hv.kl
 rcases op_nine hv.o1 hv.o9 with rfl | rfl | rfl | rfl | rfl | rfl | rfl | rfl | rfl
 ·rw[show doesD numb Lib.itoa c 1 k v d s=onKeyD numb Lib.itoa 1 k v d s by simp[doesD],show opFn 1=73 from rfl]
  exact setop_any Lib.itoa S m bp bl s c i r 1 k v d w hm hp (hk (by omega)).2
 ·rw[show doesD numb Lib.itoa c 2 k v d s=onKeyD numb Lib.itoa 2 k v d s by simp[doesD],show opFn 2=74 from rfl]
  exact getop_any Lib.itoa S m bp bl s c i r k v d w hm (hk (by omega)).2
 ·rw[show doesD numb Lib.itoa c 3 k v d s=onKeyD numb Lib.itoa 3 k v d s by simp[doesD],show opFn 3=75 from rfl]
  exact casop_any Lib.itoa S m bp bl s c i r k v d w hm hp (hk (by omega)).2
 ·rw[show doesD numb Lib.itoa c 4 k v d s=onKeyD numb Lib.itoa 4 k v d s by simp[doesD],show opFn 4=76 from rfl]
  exact delop_any Lib.itoa S m bp bl s c i r k v d w hm (hk (by omega)).2
 ·rw[show doesD numb Lib.itoa c 5 k v d s=onKeyD numb Lib.itoa 5 k v d s by simp[doesD],show opFn 5=77 from rfl]
  exact addop_any S m bp bl s c i r k v d w hm hp (hk (by omega)).2 hv.vl hT
 ·rw[show doesD numb Lib.itoa c 6 k v d s=onLockD numb c 6 k v s by simp[doesD],show opFn 6=78 from rfl]
  exact lock_any S m bp bl s c i r k v d w hm hi (hk (by omega)).2
 ·rw[show doesD numb Lib.itoa c 7 k v d s=onLockD numb c 7 k v s by simp[doesD],show opFn 7=79 from rfl]
  exact unlock_any S m bp bl s c i r k v d w hm hi (hk (by omega)).2
 ·rw[show doesD numb Lib.itoa c 8 k v d s=onLockD numb c 8 k v s by simp[doesD],show opFn 8=80 from rfl]
  exact fence_any S m bp bl s c i r k v d w hm (hk (by omega)).2 hT hv.vl
 ·rw[show doesD numb Lib.itoa c 9 k v d s=endD numb v s by simp[doesD],show opFn 9=81 from rfl]
  exact end_any S m bp bl s c i r k v d w hm hi hT (hv.e rfl)
end Go.Proofs.YtlibhkehebioeaaGreatDoor
