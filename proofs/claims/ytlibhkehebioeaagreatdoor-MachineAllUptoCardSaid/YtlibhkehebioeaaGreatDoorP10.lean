/- A PART OF THE PROOF. No condition. -/
import Derived.Test.YtlibhkehebioeaaGreatDoorP9
import Derived.Test.YtlibhkehebioeaaGreatDoorP7
import Derived.Test.YtlibhkehebioeaaGreatDoorP1
namespace Go.Proofs.YtlibhkehebioeaaGreatDoor
set_option linter.unusedVariables false
set_option linter.unusedSimpArgs false
set_option maxRecDepth 100000
set_option maxHeartbeats 40000000
open Go.RowKit
structure DLk where
 d:LockD
 q:Value
def DLk.cells (x:DLk):List Value:=[str x.d.name,.int .i64 x.d.holder,.int .i64 x.d.token,x.q]
theorem dlk_four:∀x:DLk,x.cells.length=4:=λ_=>rfl
def askC (z:SesD):List Value:=[.bool (decide (0<z.inc)),.int .i64 z.inc,.int .i64 z.req,.int .i64 z.last.code,str z.last.val,.int .i64 z.last.n]
theorem ask_six:∀z:SesD,(askC z).length=6:=λ_=>rfl
def dcells (pv hv:Value)(tok:Int)(ss:List SesD):List Value:=pv::hv::.int .i64 tok::rcells askC ss
structure DAt (B:Nat)(F:Nat→Prop)(w:World)(d:Nat)(pv hv:Value)(hs:List DLk)(s:StD):Prop where
 blk:Blk w d 147 (dcells pv hv s.tok s.ss).toArray
 pr:w.ownsRow B 71 2 pv s.pairs.length (pcells s.pairs)
 lk:w.ownsRow B 157 4 hv s.locks.length (rcells DLk.cells hs)
 ds:hs.map DLk.d=s.locks
 qs:∀x∈hs,w.ownsRow B 3 1 x.q x.d.queue.length (ics x.d.queue)
 ap:hs.Pairwise λa b=>∀k,a.q.ownBlock=some k→b.q.ownBlock≠some k
 fd:F d
 fp:∀k,pv.ownBlock=some k→F k
 fh:∀k,hv.ownBlock=some k→F k
 fq:∀x∈hs,∀k,x.q.ownBlock=some k→F k
section
variable {B:Nat}{F:Nat→Prop}{w w':World}{d:Nat}{pv hv:Value}{hs:List DLk}{s:StD}
theorem DAt.keep {Z:Nat→Prop}(h:DAt B F w d pv hv hs s)(hk:Keep Z w w')(hz:∀k,F k→Z k):DAt B F w' d pv hv hs s:=
 ⟨h.blk.keep hk (hz d h.fd),own_keep h.pr hk λk hk=>hz k (h.fp k hk),own_keep h.lk hk λk hk=>hz k (h.fh k hk),h.ds,λx hx=>own_keep (h.qs x hx) hk λk hk=>hz k (h.fq x hx k hk),h.ap,h.fd,h.fp,h.fh,h.fq⟩
theorem DAt.fresh (h:DAt B F w d pv hv hs s)(hk:Fresh w w'):DAt B F w' d pv hv hs s:=h.keep hk λ_ _=>trivial
theorem DAt.hlen (h:DAt B F w d pv hv hs s):hs.length=s.locks.length:=by rw[←h.ds,List.length_map]
theorem DAt.three (h:DAt B F w d pv hv hs s):w.cell? ⟨d,0,none⟩=some pv∧w.cell? ⟨d,1,none⟩=some hv∧w.cell? ⟨d,2,none⟩=some (.int .i64 s.tok):=⟨h.blk.cell 0,h.blk.cell 1,h.blk.cell 2⟩
theorem DAt.ask (h:DAt B F w d pv hv hs s){q:Nat}(hq:q<s.ss.length)(j:Nat)(hj:j<6):w.cell? ⟨d,3+q*6+j,none⟩=(askC (s.ss.getD q noSes))[j]?:=by
 rw[h.blk.cell]
 have e:s.ss.getD q noSes=s.ss[q]:=by rw[List.getD_eq_getElem?_getD,List.getElem?_eq_getElem hq];rfl
 rw[e,List.getElem?_toArray,show 3+q*6+j=(q*6+j)+1+1+1 by omega]
 unfold dcells
 rw[List.getElem?_cons_succ,List.getElem?_cons_succ,List.getElem?_cons_succ,rcells_get ask_six s.ss q hq j hj]
end
section
variable {α:Type}{key:α→Txt}
def placeK (key:α→Txt)(k:Txt)(l:List α):Int:=match l.findIdx? λx=>key x==k with
 | some i=>(i:Int)
 | none => -1
theorem placeK_none {k:Txt}{l:List α}(h:∀x∈l,key x≠k):placeK key k l = -1:=by
 unfold placeK
 have:l.findIdx? (λx=>key x==k)=none:=List.findIdx?_eq_none_iff.2 λx hx=>by simpa using h x hx
 rw[this]
theorem placeK_some {k:Txt} {l:List α} {i:Nat} (hi:i<l.length) (h:key l[i]=k) (hb:∀j (hj:j<i),key (l[j]'(by omega))≠k):placeK key k l=(i:Int):=by
 unfold placeK
 have:l.findIdx? (λx=>key x==k)=some i:=by
  rw[List.findIdx?_eq_some_iff_getElem]
  exact⟨hi,by simpa using h,λj hj=>by simpa using hb j hj⟩
 rw[this]
theorem placeK_find {k:Txt}{l:List α}{x:α}(h:findK key k l=some x):∃ (i:Nat) (hi:i<l.length),l[i]=x∧placeK key k l=(i:Int):=by
 unfold findK at h
 rw[List.find?_eq_some_iff_getElem] at h
 obtain⟨h1,i,hi,h2,h3⟩:=h
 exact⟨i,hi,h2,placeK_some hi (by rw[h2];simpa using h1) λj hj=>by simpa using h3 j hj⟩
end
theorem Rd.pairE {w:World} {Z:Nat→Prop} {A:Option Addr} {n k:Nat} {ps:List (Txt×Txt)} (h:Rd w Z 2 A n (pcells ps)) (hk:k<n) :
 ∃ (hl:k<ps.length) (b o:Nat),A=some ⟨b,o,none⟩∧Z b∧w.cell? ⟨b,o+k*2,none⟩=some (str ps[k].1)∧w.cell? ⟨b,o+k*2+1,none⟩=some (str ps[k].2):=by
 have hl:k<ps.length:=by
  have:=h.1
  rw[rcells_len (f:=pairC) (c:=2) (λ_=>rfl)] at this
  omega
 obtain⟨b,o,hA,hz,hc⟩:=h.2 (by omega)
 have hg:∀j u,j<2→(pairC ps[k])[j]?=some u→w.cell? ⟨b,o+k*2+j,none⟩=some u:=λj u hj hu=>by
  have:=hc (k*2+j) u (by rw[rcells_get (f:=pairC) (c:=2) (λ_=>rfl) ps k hl j hj];exact hu)
  rwa [←Nat.add_assoc] at this
 exact⟨hl,b,o,hA,hz,hg 0 _ (by omega) rfl,hg 1 _ (by omega) rfl⟩
theorem Rd.lockE {w:World} {Z:Nat→Prop} {A:Option Addr} {n k:Nat} {xs:List DLk} (h:Rd w Z 4 A n (rcells DLk.cells xs)) (hk:k<n) :
 ∃ (hl:k<xs.length) (b o:Nat),A=some ⟨b,o,none⟩∧Z b∧w.cell? ⟨b,o+k*4,none⟩=some (str xs[k].d.name)∧w.cell? ⟨b,o+k*4+1,none⟩=some (.int .i64 xs[k].d.holder)∧w.cell? ⟨b,o+k*4+2,none⟩=some (.int .i64 xs[k].d.token)∧w.cell? ⟨b,o+k*4+3,none⟩=some xs[k].q:=by
 have hl:k<xs.length:=by
  have:=h.1
  rw[rcells_len dlk_four] at this
  omega
 obtain⟨b,o,hA,hz,hc⟩:=h.2 (by omega)
 have hg:∀j u,j<4→(xs[k].cells)[j]?=some u→w.cell? ⟨b,o+k*4+j,none⟩=some u:=λj u hj hu=>by
  have:=hc (k*4+j) u (by rw[rcells_get dlk_four xs k hl j hj];exact hu)
  rwa [←Nat.add_assoc] at this
 exact⟨hl,b,o,hA,hz,hg 0 _ (by omega) rfl,hg 1 _ (by omega) rfl,hg 2 _ (by omega) rfl,hg 3 _ (by omega) rfl⟩
def placeI (q:List Int)(c:Int):Int:=if c∈q then (q.idxOf c:Int)+1 else 0
theorem keyAt_any {B:Nat} {F:Nat→Prop} {w:World} {d:Nat} {pv hv:Value} {hs:List DLk} {s:StD} (h:DAt B F w d pv hv hs s) (k:Txt) (hn:s.pairs.length≤1000) :
 Calls Tryz.prog 134 #[.pointer (some ⟨d,0,none⟩),str k] w λe w'=>e=.returned (.int .i64 (placeK Prod.fst k s.pairs))∧w=w':=by
 obtain⟨n,hnn⟩:=exz (s.pairs.length)
 obtain⟨ps,hps⟩:=exz (s.pairs)
 obtain⟨r,hr⟩:=exz (placeK Prod.fst k ps)
 rw[←hps,←hr]
 have x0:=h.three.1
 have ld:=h.blk.lt
 have hpr:=h.pr
 rw[←hnn,←hps] at hpr
 obtain⟨A,c,rfl,hrd,-⟩:=own_rd hpr
 have HR:=hdz (aiz hrd (aiz hr (show n=ps.length by rw[hnn,hps])))
 have hn':n≤1000:=by omega
 clear h hpr hrd hr hps hnn hn
 go_enter Tryz.func134,Tryz.ntmps134
 go_wp2_with fail
 go_loop [5] (λi=>∃j:Nat,j≤n∧i=.int .i64 (j:Int)∧Hid (∀i (hi:i<ps.length),i<j→ps[i].1≠k)) (λi=>n - (intOf i).toNat)
 case atStart=>exact⟨0,by omega,rfl,hdz λi _ hi=>by omega⟩
 case round=>
  obtain⟨j,hj,rfl,HJ⟩:=hrel
  by_cases hlt:j<n
  ·obtain⟨hl,b,o,hA,-,hc,-⟩:=HR.out.1.pairE hlt
   subst hA
   obtain⟨kk,hkk⟩:=exz (ps[j].1)
   rw[←hkk] at hc
   have lb:=lt_of_cell hc
   have hji:(j:Int)<(n:Int):=by omega
   have HK:=hdz hkk
   clear hkk
   by_cases he:kk=k
   ·have HE:Hid (r=(j:Int)):=hdz (by rw[HR.out.2.1];exact placeK_some hl (by rw[←HK.out];exact he) λi hi=>HJ.out i (by omega) hi)
    subst he
    clear HK hl
    go_wp2_with fail
    go_ret
    exact⟨ret_int HE.out.symm,rfl⟩
   ·have hb:(kk==k)=false:=by simpa using he
    have HN:Hid (∀i (hi:i<ps.length),i<j+1→ps[i].1≠k):=hdz λi hi hij=>by
     by_cases e:i=j
     ·subst e;rw[←HK.out];exact he
     ·exact HJ.out i hi (by omega)
    clear he hl HK
    go_wp2_with fail
    go_round
    case rel=>exact⟨j+1,by omega,by go_num,HN⟩
    case measure=>simp[intOf];omega
  ·obtain rfl:n=j:=by omega
   have HE:Hid (r = -1):=hdz (by
    rw[HR.out.2.1]
    refine placeK_none λx hx=>?_
    obtain⟨i,hi,rfl⟩:=List.getElem_of_mem hx
    exact HJ.out i hi (by have:=HR.out.2.2;omega))
   go_wp2_with fail
   go_ret
   exact⟨ret_int HE.out.symm,rfl⟩
theorem lockAt_any {B:Nat} {F:Nat→Prop} {w:World} {d:Nat} {pv hv:Value} {hs:List DLk} {s:StD} (h:DAt B F w d pv hv hs s) (k:Txt) (hn:s.locks.length≤1000) :
 Calls Tryz.prog 123 #[.pointer (some ⟨d,0,none⟩),str k] w λe w'=>e=.returned (.int .i64 (placeK LockD.name k s.locks))∧w=w':=by
 obtain⟨n,hnn⟩:=exz (s.locks.length)
 obtain⟨ps,hps⟩:=exz (s.locks)
 obtain⟨r,hr⟩:=exz (placeK LockD.name k ps)
 rw[←hps,←hr]
 have x0:=h.three.2.1
 have ld:=h.blk.lt
 have hpr:=h.lk
 have hds:=h.ds
 rw[←hnn] at hpr
 rw[←hps] at hds
 obtain⟨A,c,rfl,hrd,-⟩:=own_rd hpr
 have HR:=hdz (aiz hrd (aiz hr (aiz (show n=ps.length by rw[hnn,hps]) hds)))
 have hn':n≤1000:=by omega
 clear h hpr hrd hr hps hds hnn hn
 go_enter Tryz.func123,Tryz.ntmps123
 go_wp2_with fail
 go_loop [5] (λi=>∃j:Nat,j≤n∧i=.int .i64 (j:Int)∧Hid (∀i (hi:i<ps.length),i<j→ps[i].name≠k)) (λi=>n - (intOf i).toNat)
 case atStart=>exact⟨0,by omega,rfl,hdz λi _ hi=>by omega⟩
 case round=>
  obtain⟨j,hj,rfl,HJ⟩:=hrel
  by_cases hlt:j<n
  ·obtain⟨hl,b,o,hA,-,hc,-⟩:=HR.out.1.lockE hlt
   subst hA
   have hlp:j<ps.length:=by rw[←HR.out.2.2.1];exact hlt
   have hdj:hs[j].d=ps[j]:=by
    have h2:=HR.out.2.2.2
    subst h2
    simp
   rw[hdj] at hc
   obtain⟨kk,hkk⟩:=exz (ps[j].name)
   rw[←hkk] at hc
   have lb:=lt_of_cell hc
   have hji:(j:Int)<(n:Int):=by omega
   have HK:=hdz hkk
   clear hkk
   by_cases he:kk=k
   ·have HE:Hid (r=(j:Int)):=hdz (by rw[HR.out.2.1];exact placeK_some hlp (by rw[←HK.out];exact he) λi hi=>HJ.out i (by omega) hi)
    subst he
    clear HK hl hlp hdj
    go_wp2_with fail
    go_ret
    exact⟨ret_int HE.out.symm,rfl⟩
   ·have hb:(kk==k)=false:=by simpa using he
    have HN:Hid (∀i (hi:i<ps.length),i<j+1→ps[i].name≠k):=hdz λi hi hij=>by
     by_cases e:i=j
     ·subst e;rw[←HK.out];exact he
     ·exact HJ.out i hi (by omega)
    clear he hl hlp hdj HK
    go_wp2_with fail
    go_round
    case rel=>exact⟨j+1,by omega,by go_num,HN⟩
    case measure=>simp[intOf];omega
  ·obtain rfl:n=j:=by omega
   have HE:Hid (r = -1):=hdz (by
    rw[HR.out.2.1]
    refine placeK_none λx hx=>?_
    obtain⟨i,hi,rfl⟩:=List.getElem_of_mem hx
    exact HJ.out i hi (by have:=HR.out.2.2.1;omega))
   go_wp2_with fail
   go_ret
   exact⟨ret_int HE.out.symm,rfl⟩
theorem without_any (Z:Nat→Prop) (A:Option Addr) (n c:Nat) (q:List Int) (x:Int) (w:World) (h:Rd w Z 1 A n (ics q)) (hn:n≤1000000) :
 Calls Tryz.prog 158 #[.slice A n c,.int .i64 x] w λe w'=>(∃v,e=.returned v∧w'.ownsRow w.heap.size 3 1 v (lessD q x).length (ics (lessD q x)))∧Fresh w w':=by
 have hl:q.length=n:=by simpa[ics] using h.1
 have HA:=hdz (aiz (h.weaken (Z':=λ_=>True) λ_ _=>trivial) hl)
 clear h hl
 go_enter Tryz.func158,Tryz.ntmps158
 go_wp2_with fail
 go_loopw [5,6] (λv i wr=>∃k:Nat,k≤n∧i=.int .i64 (k:Int)∧Hid (wr.ownsRow w.heap.size 3 1 v (lessD (q.take k) x).length (ics (lessD (q.take k) x))∧Fresh w wr)) (λ_ i _=>n - (intOf i).toNat)
 case atStart=>exact⟨0,by omega,rfl,hdz ⟨by exact onz _ _ _ _,krz _ _⟩⟩
 case round=>
  rename World=>wr
  obtain⟨k,hk,rfl,HR⟩:=hrel
  by_cases hlt:k<n
  ·obtain⟨b,o,rfl,-,hlk,e1⟩:=(HA.out.1.keep HR.out.2).intAt hlt
   obtain⟨y,hy⟩:=exz (q[k])
   rw[←hy] at e1
   have HS:Hid (lessD (q.take (k+1)) x=lessD (q.take k) x++(if y=x then [] else [y])):=hdz (by rw[List.take_succ_eq_append_getElem hlk,←hy,less_snoc])
   have hle:(lessD (q.take k) x).length≤1000000:=by
    have:=less_le (q.take k) x
    have:=List.length_take_le k q
    omega
   clear hy hlk
   by_cases hyx:y=x
   ·subst hyx
    have HS2:Hid (lessD (q.take (k+1)) y=lessD (q.take k) y):=hdz (by rw[HS.out,if_pos rfl];simp)
    clear HS hle
    go_wp2_with fail
    exact⟨⟨k+1,by omega,by simp,hdz ⟨by rw[HS2.out];exact HR.out.1,HR.out.2⟩⟩,by simp only[intOf];omega⟩
   ·have HS2:Hid (lessD (q.take (k+1)) x=lessD (q.take k) x++[y]):=hdz (by rw[HS.out,if_neg hyx])
    have HL:=hdz hle
    clear HS hle
    go_wp2_with (at_builtin;refine wpList_app1 etInt2 rfl (.tmp 19) (.tmp 24) rfl (.int .i64 y) _ rfl w.heap.size _ (lessD (q.take k) x).length (ics (lessD (q.take k) x)) rfl rfl HR.out.1 (by have:=HL.out;omega) HR.out.2.size ?_)
    intro v2 w2 ho2 hk2 hn2
    have H2:=hdz (aiz ho2 hk2)
    clear ho2 hk2 hn2
    go_wp2_with fail
    refine⟨⟨k+1,by omega,by simp,hdz ⟨?_,HR.out.2.comp H2.out.2 (λ_ _ h=>h) (λi hi _ e=>by have:=(own_lt HR.out.1 e).1;omega)⟩⟩,by simp only[intOf];omega⟩
    rw[HS2.out]
    have h1:=H2.out.1
    simpa[ics] using h1
  ·obtain rfl:k=n:=by omega
   go_wp2_with fail
   go_ret
   have h1:=HR.out.1
   rw[List.take_of_length_le (by rw[HA.out.2];exact lrz _)] at h1
   exact⟨⟨_,rfl,h1⟩,HR.out.2⟩
theorem placeOf_any (Z:Nat→Prop) (A:Option Addr) (n c:Nat) (q:List Int) (x:Int) (w:World) (h:Rd w Z 1 A n (ics q)) (hn:n≤1000000) :
 Calls Tryz.prog 155 #[.slice A n c,.int .i64 x] w λe w'=>e=.returned (.int .i64 (placeI q x))∧w=w':=by
 have hl:q.length=n:=by simpa[ics] using h.1
 obtain⟨r,hr⟩:=exz (placeI q x)
 rw[←hr]
 have HA:=hdz (aiz h (aiz hl hr))
 clear h hl hr
 go_enter Tryz.func155,Tryz.ntmps155
 go_wp2_with fail
 go_loop [5] (λi=>∃j:Nat,j≤n∧i=.int .i64 (j:Int)∧Hid (x ∉ q.take j)) (λi=>n - (intOf i).toNat)
 case atStart=>exact⟨0,by omega,rfl,hdz (by simp)⟩
 case round=>
  obtain⟨j,hj,rfl,HJ⟩:=hrel
  by_cases hlt:j<n
  ·obtain⟨b,o,rfl,-,hlk,e1⟩:=HA.out.1.intAt hlt
   obtain⟨y,hy⟩:=exz (q[j])
   rw[←hy] at e1
   have HT:Hid (q.take (j+1)=q.take j++[y]):=hdz (by rw[List.take_succ_eq_append_getElem hlk,←hy])
   have hji:(j:Int)<(n:Int):=by omega
   have hlb:=lt_of_cell e1
   by_cases he:y=x
   ·have HE:Hid (r=(j:Int)+1):=hdz (by
     rw[HA.out.2.2]
     unfold placeI
     have hm:x∈q:=by rw[←he,hy];exact List.getElem_mem hlk
     rw[if_pos hm]
     have h1:q.idxOf x=j:=by
      have e:q=q.take j++q.drop j:=(List.take_append_drop j q).symm
      rw[e,List.idxOf_append,if_neg HJ.out,List.drop_eq_getElem_cons hlk,←hy,he,List.idxOf_cons_self,List.length_take]
      omega
     rw[h1])
    subst he
    clear hy hlk
    go_wp2_with fail
    go_ret
    exact⟨ret_int HE.out.symm,rfl⟩
   ·have HN:Hid (x ∉ q.take (j+1)):=hdz (by
     rw[HT.out]
     simp only[List.mem_append,List.mem_singleton]
     rintro (h | h)
     ·exact HJ.out h
     ·exact he h.symm)
    clear hy hlk HT
    go_wp2_with fail
    go_round
    case rel=>exact⟨j+1,by omega,by go_num,HN⟩
    case measure=>simp[intOf];omega
  ·obtain rfl:n=j:=by omega
   have HE:Hid (r=0):=hdz (by
    rw[HA.out.2.2]
    unfold placeI
    rw[if_neg]
    have:=HJ.out
    rwa [List.take_of_length_le (by rw[HA.out.2.1];exact lrz _)] at this)
   go_wp2_with fail
   go_ret
   exact⟨ret_int HE.out.symm,rfl⟩
theorem dnew_any (w:World):Calls Tryz.prog 56 #[] w λe w'=>(∃d,e=.returned (.pointer (some ⟨d,0,none⟩))∧DAt w.heap.size (λj=>j=d) w' d (.slice none 0 0) (.slice none 0 0) [] newD∧w.heap.size≤d∧d<w'.heap.size)∧Fresh w w':=by
 go_enter Tryz.func56,Tryz.ntmps56
 go_wp2_with fail
 go_ret
 refine⟨⟨_,rfl,⟨?_,by exact onz _ _ _ _,by exact onz _ _ _ _,rfl,λx hx=>by (cases hx),List.Pairwise.nil,rfl,λk hk=>by (simp[Value.ownBlock] at hk),λk hk=>by (simp[Value.ownBlock] at hk),λx hx=>by (cases hx)⟩,lrz _,by simp⟩,(krz _ w).alloc _⟩
 exact Blk.new _ _ _
theorem dget_any {B:Nat} {F:Nat→Prop} {w:World} {d:Nat} {pv hv:Value} {hs:List DLk} {s:StD} (h:DAt B F w d pv hv hs s) (k:Txt) (hn:s.pairs.length≤1000) :
 Calls Tryz.prog 97 #[.pointer (some ⟨d,0,none⟩),str k] w λe w'=>e=.returned (.tuple #[str ((pfind k s.pairs).getD []),.bool (pfind k s.pairs).isSome])∧w=w':=by
 have hk:=keyAt_any h k hn
 have x0:=h.three.1
 have ld:=h.blk.lt
 cases hf:pfindD k s.pairs with
 | none=>
  rw[placeK_none (findK_none hf)] at hk
  have e:pfind k s.pairs=none:=by
   have h1:s.pairs.find? (λp=>p.1==k)=none:=hf
   unfold pfind
   rw[h1]
   rfl
  rw[e]
  have HK:=hdz hk
  clear hk h hf e
  go_enter Tryz.func97,Tryz.ntmps97
  go_wp2_with fail
  refine Calls.mono HK.out ?_
  rintro e _ ⟨rfl,rfl⟩
  go_wp2_with fail
  go_ret2
  exact⟨rfl,rfl⟩
 | some x=>
  obtain⟨i,hi,hx,hp⟩:=placeK_find hf
  rw[hp] at hk
  have e:pfind k s.pairs=some x.2:=by
   have h1:s.pairs.find? (λp=>p.1==k)=some x:=hf
   unfold pfind
   rw[h1]
   rfl
  rw[e]
  obtain⟨A,c,e1,hrd,-⟩:=own_rd h.pr
  subst e1
  obtain⟨hl,b,o,rfl,-,-,hc⟩:=hrd.pairE hi
  rw[hx] at hc
  obtain⟨u,hu⟩:=exz (x.2)
  rw[←hu] at hc ⊢
  have lb:=lt_of_cell hc
  obtain⟨n,hnn⟩:=exz (s.pairs.length)
  rw[←hnn] at x0 hi
  have hii:(i:Int)<(n:Int):=by omega
  have HK:=hdz hk
  clear hk h hf e hrd hl hx hp hu hnn hn
  go_enter Tryz.func97,Tryz.ntmps97
  go_wp2_with fail
  refine Calls.mono HK.out ?_
  rintro e _ ⟨rfl,rfl⟩
  go_wp2_with fail
  go_ret2
  exact⟨rfl,rfl⟩
section
variable {α:Type}{key:α→Txt}
def inB (key:α→Txt)(x:α)(l:List α):Bool:=l.any λz=>bytesBefore (key x) (key z)
def insT (key:α→Txt)(x:α)(l:List α):List α:=if inB key x l=true then insK key x l else l
theorem insK_end {x:α}:∀ {l:List α},inB key x l=false→insK key x l=l++[x]
 | [],_=>rfl
 | y::r,h=>by
  unfold inB at h
  simp only[List.any_cons,Bool.or_eq_false_iff] at h
  unfold insK
  rw[if_neg (by simp[h.1]),insK_end (l:=r) h.2]
  rfl
theorem insK_in {x:α}:∀ {l:List α} (m:List α),inB key x l=true→insK key x (l++m)=insK key x l++m
 | [],_,h=>by cases h
 | y::r,m,h=>by
  unfold inB at h
  simp only[List.any_cons,Bool.or_eq_true] at h
  show insK key x (y::(r++m))=insK key x (y::r)++m
  unfold insK
  by_cases hb:bytesBefore (key x) (key y)=true
  ·rw[if_pos hb,if_pos hb]
   rfl
  ·rw[if_neg hb,if_neg hb,insK_in m (h.resolve_left hb)]
   rfl
theorem inB_snoc (x y:α)(l:List α):inB key x (l++[y])=(inB key x l || bytesBefore (key x) (key y)):=by simp[inB]
theorem insT_in {x y:α}{l:List α}(h:inB key x l=true):insT key x (l++[y])=insT key x l++[y]:=by
 unfold insT
 rw[inB_snoc,h,Bool.true_or,if_pos rfl,if_pos rfl,insK_in [y] h]
theorem insK_now {x y:α} (hb:bytesBefore (key x) (key y)=true):∀ {l:List α},inB key x l=false→insK key x (l++[y])=l++[x]++[y]
 | [],_=>by
  show insK key x [y]=[x,y]
  unfold insK
  rw[if_pos hb]
 | z::r,h=>by
  unfold inB at h
  simp only[List.any_cons,Bool.or_eq_false_iff] at h
  show insK key x (z::(r++[y]))=z::(r++[x]++[y])
  unfold insK
  rw[if_neg (by simp[h.1]),insK_now hb h.2]
theorem insT_now {x y:α}{l:List α}(h:inB key x l=false)(hb:bytesBefore (key x) (key y)=true):insT key x (l++[y])=insT key x l++[x]++[y]:=by
 have h1:insT key x l=l:=by unfold insT;rw[if_neg (by simp[h])]
 rw[h1]
 unfold insT
 rw[inB_snoc,h,hb,Bool.false_or,if_pos rfl,insK_now hb h]
theorem insT_out {x y:α}{l:List α}(h:inB key x l=false)(hb:bytesBefore (key x) (key y)=false):insT key x (l++[y])=insT key x l++[y]:=by
 unfold insT
 rw[inB_snoc,h,hb,Bool.false_or,if_neg (by simp),if_neg (by simp)]
theorem insT_end {x:α}{l:List α}:insK key x l=if inB key x l=true then insT key x l else insT key x l++[x]:=by
 unfold insT
 by_cases h:inB key x l=true
 ·rw[if_pos h,if_pos h]
 ·rw[if_neg h,if_neg h,insK_end (by simpa using h)]
end
theorem dcells_0 (pv hv pv':Value)(tok:Int)(ss:List SesD):(dcells pv hv tok ss).toArray.setIfInBounds 0 pv'=(dcells pv' hv tok ss).toArray:=by simp[dcells]
theorem dcells_1 (pv hv hv':Value)(tok:Int)(ss:List SesD):(dcells pv hv tok ss).toArray.setIfInBounds 1 hv'=(dcells pv hv' tok ss).toArray:=by simp[dcells]
theorem dcells_2 (pv hv:Value)(tok tok':Int)(ss:List SesD):(dcells pv hv tok ss).toArray.setIfInBounds 2 (.int .i64 tok')=(dcells pv hv tok' ss).toArray:=by simp[dcells]
section
variable {B:Nat}{F:Nat→Prop}{w w2:World}{d:Nat}{pv hv:Value}{hs:List DLk}{s:StD}
theorem DAt.setPairs (h:DAt B F w d pv hv hs s) (hk:Fresh w w2) {B':Nat} (hB:B≤B') {pv':Value} {ps':List (Txt×Txt)} (ho:w2.ownsRow B' 71 2 pv' ps'.length (pcells ps')) :
 DAt B (λj=>F j∨pv'.ownBlock=some j) (w2.setCell ⟨d,0,none⟩ pv') d pv' hv hs { s with pairs:=ps' }:=by
 have hb:=h.blk.keep hk trivial
 refine⟨?_,?_,?_,h.ds,λx hx=>?_,h.ap,.inl h.fd,λk hk=>.inr hk,λk hk=>.inl (h.fh k hk),λx hx k hk=>.inl (h.fq x hx k hk)⟩
 ·have:=hb.set 0 pv'
  rwa [dcells_0] at this
 ·exact own_far (own_base ho hB) (p:=⟨d,0,none⟩) (own_ne_blk ho hb (by decide)) _
 ·have h1:=own_keep h.lk hk λ_ _=>trivial
  exact own_far h1 (p:=⟨d,0,none⟩) (own_ne_blk h1 hb (by decide)) _
 ·have h1:=own_keep (h.qs x hx) hk λ_ _=>trivial
  exact own_far h1 (p:=⟨d,0,none⟩) (own_ne_blk h1 hb (by decide)) _
end
theorem joins_any {B:Nat} {F:Nat→Prop} {w:World} {d:Nat} {pv hv:Value} {hs:List DLk} {s:StD} (h:DAt B F w d pv hv hs s) (k v:Txt) (hn:s.pairs.length≤1000) (hB:B≤w.heap.size) :
 Calls Tryz.prog 173 #[.pointer (some ⟨d,0,none⟩),str k,str v] w λe w'=>e=.returned (.tuple #[])∧(∃pv' F',DAt B F' w' d pv' hv hs { s with pairs:=insK Prod.fst (k,v) s.pairs }∧∀j,F' j→F j∨w.heap.size≤j)∧Keep (λj=>j≠d) w w':=by
 obtain⟨n,hnn⟩:=exz (s.pairs.length)
 obtain⟨ps,hps⟩:=exz (s.pairs)
 have hpr:=h.pr
 rw[←hnn,←hps] at hpr
 obtain⟨A,c,rfl,hrd,-⟩:=own_rd hpr
 have HA:=hdz (aiz h (aiz hrd (aiz hps (aiz (show n=ps.length by rw[hnn,hps]) hB))))
 have hn':n≤1000:=by omega
 have ld:=h.blk.lt
 clear h hpr hrd hps hnn hn hB
 go_enter Tryz.func173,Tryz.ntmps173
 go_wp2_with fail
 go_loopw [6,7,8] (λv6 v7 iv wr=>∃ (j:Nat) (b:Bool),j≤n∧v7=.bool b∧iv=.int .i64 (j:Int)∧Hid (b=inB Prod.fst (k,v) (ps.take j)∧wr.ownsRow w.heap.size 71 2 v6 (insT Prod.fst (k,v) (ps.take j)).length (pcells (insT Prod.fst (k,v) (ps.take j)))∧Fresh w wr)) (λ_ _ i _=>n - (intOf i).toNat)
 case atStart=>exact⟨0,false,by omega,rfl,rfl,hdz ⟨rfl,by exact onz _ _ _ _,krz _ _⟩⟩
 case round=>
  rename World=>wr
  obtain⟨j,b,hj,rfl,rfl,HR⟩:=hrel
  have x0:=(HA.out.1.fresh HR.out.2.2).three.1
  have ldr:d<wr.heap.size:=ltz ld HR.out.2.2.size
  by_cases hlt:j<n
  ·obtain⟨hl,b8,o8,hA,-,hcw0,hcw1⟩:=HA.out.2.1.pairE hlt
   subst hA
   obtain⟨⟨kk,vv⟩,hkk⟩:∃p,p=ps[j]:=⟨_,rfl⟩
   rw[←hkk] at hcw0 hcw1
   simp only at hcw0 hcw1
   have hc0:=HR.out.2.2.cellAt hcw0 trivial
   have hc1:=HR.out.2.2.cellAt hcw1 trivial
   have HC:=hdz (aiz hcw0 hcw1)
   clear hcw0 hcw1
   have lb:=lt_of_cell hc0
   have hji:(j:Int)<(n:Int):=by omega
   have HT:Hid (ps.take (j+1)=ps.take j++[(kk,vv)]):=hdz (by rw[List.take_succ_eq_append_getElem hl,←hkk])
   have HLn:Hid ((insT Prod.fst (k,v) (ps.take j)).length≤2000):=hdz (by
    unfold insT
    split
    ·rw[insK_len];have:=List.length_take_le j ps;omega
    ·have:=List.length_take_le j ps;omega)
   clear hkk hl
   cases b
   ·by_cases hb:bytesBefore k kk=true
    ·have hlb:Op.bytesLess k kk=true:=by rw[less_before];exact hb
     have HI:Hid (insT Prod.fst (k,v) (ps.take (j+1))=insT Prod.fst (k,v) (ps.take j)++[(k,v)]++[(kk,vv)]∧inB Prod.fst (k,v) (ps.take (j+1))=true):=hdz (by
      rw[HT.out]
      exact⟨insT_now (key:=Prod.fst) HR.out.1.symm hb,by rw[inB_snoc];simp[hb]⟩)
     clear hb
     go_wp2_with (at_builtin;refine wpList_appB etPair rfl (.tmp 32) (.tmp 36) rfl #[str k,str v] 71 rfl (pair_one k v) w.heap.size _ _ _ wr.heap.size rfl rfl rfl HR.out.2.1 (by have:=HLn.out;omega) HR.out.2.2.size ?_)
     intro v2 w2 ho2 hk2 hn2
     have hf2:Fresh w w2:=HR.out.2.2.comp hk2 (λ_ _ h=>h) (λi hi _ e=>by have:=(own_lt HR.out.2.1 e).1;omega)
     have x0:=(HA.out.1.fresh hf2).three.1
     have ldr:d<w2.heap.size:=ltz ld hf2.size
     have hc0:=hf2.cellAt HC.out.1 trivial
     have hc1:=hf2.cellAt HC.out.2 trivial
     have lb:=lt_of_cell hc0
     have H2:=hdz (aiz ho2 hf2)
     clear ho2 hk2 hn2 hf2
     go_wp2_with (at_builtin;refine wpList_appB etPair rfl (.tmp 38) (.tmp 46) rfl #[str kk,str vv] 71 rfl (pair_one kk vv) w.heap.size _ _ _ w2.heap.size rfl rfl rfl H2.out.1 (by have:=HLn.out;omega) H2.out.2.size ?_)
     intro v3 w3 ho3 hk3 hn3
     have H3:Hid (w3.ownsRow w.heap.size 71 2 v3 (insT Prod.fst (k,v) (ps.take (j+1))).length (pcells (insT Prod.fst (k,v) (ps.take (j+1))))∧Fresh w w3):=hdz ⟨by
      rw[HI.out.1]
      simpa[pcells,rcells_append,rcells_cons,rcells_nil,pairC] using ho3,H2.out.2.comp hk3 (λ_ _ h=>h) (λi hi _ e=>by have:=(own_lt H2.out.1 e).1;omega)⟩
     clear ho3 hk3 hn3
     go_wp2_with fail
     exact⟨⟨j+1,true,by omega,rfl,by simp,hdz ⟨HI.out.2.symm,H3.out⟩⟩,by simp only[intOf];omega⟩
    ·have hlb:Op.bytesLess k kk=false:=by rw[less_before];simpa using hb
     have HI:Hid (insT Prod.fst (k,v) (ps.take (j+1))=insT Prod.fst (k,v) (ps.take j)++[(kk,vv)]∧inB Prod.fst (k,v) (ps.take (j+1))=false):=hdz (by
      rw[HT.out]
      exact⟨insT_out (key:=Prod.fst) HR.out.1.symm (by simpa using hb),by rw[inB_snoc,←HR.out.1];simpa using hb⟩)
     clear hb
     go_wp2_with (at_builtin;refine wpList_appB etPair rfl (.tmp 38) (.tmp 46) rfl #[str kk,str vv] 71 rfl (pair_one kk vv) w.heap.size _ _ _ wr.heap.size rfl rfl rfl HR.out.2.1 (by have:=HLn.out;omega) HR.out.2.2.size ?_)
     intro v3 w3 ho3 hk3 hn3
     have H3:Hid (w3.ownsRow w.heap.size 71 2 v3 (insT Prod.fst (k,v) (ps.take (j+1))).length (pcells (insT Prod.fst (k,v) (ps.take (j+1))))∧Fresh w w3):=hdz ⟨by
      rw[HI.out.1]
      simpa[pcells,rcells_append,rcells_cons,rcells_nil,pairC] using ho3,HR.out.2.2.comp hk3 (λ_ _ h=>h) (λi hi _ e=>by have:=(own_lt HR.out.2.1 e).1;omega)⟩
     clear ho3 hk3 hn3
     go_wp2_with fail
     exact⟨⟨j+1,false,by omega,rfl,by simp,hdz ⟨HI.out.2.symm,H3.out⟩⟩,by simp only[intOf];omega⟩
   ·have HI:Hid (insT Prod.fst (k,v) (ps.take (j+1))=insT Prod.fst (k,v) (ps.take j)++[(kk,vv)]∧inB Prod.fst (k,v) (ps.take (j+1))=true):=hdz (by
     rw[HT.out]
     exact⟨insT_in (key:=Prod.fst) HR.out.1.symm,by rw[inB_snoc,←HR.out.1];rfl⟩)
    go_wp2_with (at_builtin;refine wpList_appB etPair rfl (.tmp 38) (.tmp 46) rfl #[str kk,str vv] 71 rfl (pair_one kk vv) w.heap.size _ _ _ wr.heap.size rfl rfl rfl HR.out.2.1 (by have:=HLn.out;omega) HR.out.2.2.size ?_)
    intro v3 w3 ho3 hk3 hn3
    have H3:Hid (w3.ownsRow w.heap.size 71 2 v3 (insT Prod.fst (k,v) (ps.take (j+1))).length (pcells (insT Prod.fst (k,v) (ps.take (j+1))))∧Fresh w w3):=hdz ⟨by
     rw[HI.out.1]
     simpa[pcells,rcells_append,rcells_cons,rcells_nil,pairC] using ho3,HR.out.2.2.comp hk3 (λ_ _ h=>h) (λi hi _ e=>by have:=(own_lt HR.out.2.1 e).1;omega)⟩
    clear ho3 hk3 hn3
    go_wp2_with fail
    exact⟨⟨j+1,true,by omega,rfl,by simp,hdz ⟨HI.out.2.symm,H3.out⟩⟩,by simp only[intOf];omega⟩
  ·obtain rfl:n=j:=by omega
   have HE:Hid (ps.take n=ps):=hdz (List.take_of_length_le (by rw[HA.out.2.2.2.1];exact lrz _))
   have HLn:Hid ((insT Prod.fst (k,v) (ps.take n)).length≤2000):=hdz (by
    have:=HA.out.2.2.2.1
    unfold insT
    split
    ·rw[insK_len];have:=List.length_take_le n ps;omega
    ·have:=List.length_take_le n ps;omega)
   have hfin:∀w5 v5,Fresh w w5→w5.ownsRow w.heap.size 71 2 v5 (insK Prod.fst (k,v) ps).length (pcells (insK Prod.fst (k,v) ps))→(∃pv' F',DAt B F' (w5.setCell ⟨d,0,none⟩ v5) d pv' hv hs { s with pairs:=insK Prod.fst (k,v) s.pairs }∧∀j,F' j→F j∨w.heap.size≤j)∧Keep (λj=>j≠d) w (w5.setCell ⟨d,0,none⟩ v5):=λw5 v5 hf ho=>by
    rw[HA.out.2.2.1] at ho
    refine⟨⟨_,_,HA.out.1.setPairs hf HA.out.2.2.2.2 ho,λj hj=>hj.imp id λe=>(own_lt ho e).1⟩,(hf.weaken λ_ _ _=>trivial).setCell (λ_ h=>h rfl) _⟩
   have HF:=hdz hfin
   have hzd:∀w5,Fresh w w5→w5.frozen? ⟨d,0,none⟩=false∧(∃u,w5.cell? ⟨d,0,none⟩=some u)∧d<w5.heap.size:=λw5 hf=>⟨(HA.out.1.fresh hf).blk.frozen 0,⟨_,(HA.out.1.fresh hf).three.1⟩,ltz ld hf.size⟩
   have HZ:=hdz hzd
   clear hfin hzd
   cases b
   ·have hE:insK Prod.fst (k,v) ps=insT Prod.fst (k,v) (ps.take n)++[(k,v)]:=by
     have h1:=HR.out.1
     rw[HE.out] at h1 ⊢
     rw[insT_end,if_neg (by rw[←h1];simp)]
    have HI:=hdz hE
    clear hE
    go_wp2_with (at_builtin;refine wpList_appB etPair rfl (.tmp 50) (.tmp 54) rfl #[str k,str v] 71 rfl (pair_one k v) w.heap.size _ _ _ wr.heap.size rfl rfl rfl HR.out.2.1 (by have:=HLn.out;omega) HR.out.2.2.size ?_)
    intro v2 w2 ho2 hk2 hn2
    have hf2:Fresh w w2:=HR.out.2.2.comp hk2 (λ_ _ h=>h) (λi hi _ e=>by have:=(own_lt HR.out.2.1 e).1;omega)
    have ho3:w2.ownsRow w.heap.size 71 2 v2 (insK Prod.fst (k,v) ps).length (pcells (insK Prod.fst (k,v) ps)):=by
     rw[HI.out]
     simpa[pcells,rcells_append,rcells_cons,rcells_nil,pairC] using ho2
    obtain⟨A2,c2,rfl,-⟩:=own_rd ho3
    obtain⟨z0,⟨u0,x0⟩,l0⟩:=HZ.out w2 hf2
    have H2:=hdz (HF.out w2 _ hf2 ho3)
    clear ho2 hk2 hn2 hf2 ho3
    go_wp2_with fail
    go_end0
    exact⟨rfl,H2.out⟩
   ·have hE:insK Prod.fst (k,v) ps=insT Prod.fst (k,v) (ps.take n):=by
     have h1:=HR.out.1
     rw[HE.out] at h1 ⊢
     rw[insT_end,if_pos (by rw[←h1])]
    have ho:=HR.out.2.1
    rw[←hE] at ho
    obtain⟨A2,c2,rfl,-⟩:=own_rd ho
    obtain⟨z0,⟨u0,x0⟩,l0⟩:=HZ.out wr HR.out.2.2
    have H2:=hdz (HF.out wr _ HR.out.2.2 ho)
    clear ho hE
    go_wp2_with fail
    go_end0
    exact⟨rfl,H2.out⟩
abbrev DLk.key (x:DLk):Txt:=x.d.name
theorem dlk_ins (x:DLk):∀hs:List DLk,(insK DLk.key x hs).map DLk.d=insK LockD.name x.d (hs.map DLk.d)
 | []=>rfl
 | y::r=>by
  unfold insK
  by_cases h:bytesBefore (DLk.key x) (DLk.key y)=true
  ·rw[if_pos h]
   show _=if bytesBefore x.d.name y.d.name=true then _ else _
   rw[if_pos h]
   rfl
  ·rw[if_neg h]
   show _=if bytesBefore x.d.name y.d.name=true then _ else _
   rw[if_neg h,List.map_cons,dlk_ins x r]
theorem pair_ins {α:Type} {key:α→Txt} {R:α→α→Prop} {x:α}:∀ {l:List α},(∀y∈l,R x y∧R y x)→l.Pairwise R→(insK key x l).Pairwise R
 | [],_,_=>by
  show [x].Pairwise R
  simp
 | y::r,h,hp=>by
  obtain⟨h1,h2⟩:=List.pairwise_cons.1 hp
  unfold insK
  split
  ·exact List.pairwise_cons.2 ⟨λz hz=>(h z hz).1,hp⟩
  ·refine List.pairwise_cons.2 ⟨λz hz=>?_,pair_ins (λz hz=>h z (by simp[hz])) h2⟩
   rcases insK_mem.1 hz with rfl | hz
   ·exact (h y (by simp)).2
   ·exact h1 z hz
theorem lock_info:(Tryz.prog.info? 157).map (λi=>(i.zero,i.size,i.bytes))=some (some (.agg #[str [],.int .i64 0,.int .i64 0,.slice none 0 0]),4,56):=by kernel_rfl
theorem etLock:ET Tryz.prog 142 157 4 56 (.agg #[str [],.int .i64 0,.int .i64 0,.slice none 0 0]):=⟨Tryz.underlying142,lock_info,rfl,by decide,by decide⟩
theorem lockA_one (a:Txt)(i j:Int)(q:Value)(h:q.oneCell'=true):(#[str a,.int .i64 i,.int .i64 j,q]:Array Value).all (·.oneCell')=true:=by
 simp[h,show (str a).oneCell'=true from rfl,show (Value.int IntKind.i64 i).oneCell'=true from rfl,show (Value.int IntKind.i64 j).oneCell'=true from rfl]
theorem lockL_one (a:Txt)(i j:Int)(q:Value)(h:q.oneCell'=true):∀u∈(#[str a,.int .i64 i,.int .i64 j,q]:Array Value).toList,u.oneCell'=true:=by
 intro u hu
 simp only[List.mem_cons,List.not_mem_nil,or_false] at hu
 rcases hu with rfl | rfl | rfl | rfl
 ·rfl
 ·rfl
 ·rfl
 ·exact h
section
variable {B:Nat}{F:Nat→Prop}{w w2:World}{d:Nat}{pv hv:Value}{hs:List DLk}{s:StD}
theorem DAt.setTok (h:DAt B F w d pv hv hs s) (t:Int):DAt B F (w.setCell ⟨d,2,none⟩ (.int .i64 t)) d pv hv hs { s with tok:=t }:=by
 refine⟨?_,?_,?_,h.ds,λx hx=>?_,h.ap,h.fd,h.fp,h.fh,h.fq⟩
 ·have:=h.blk.set 2 (.int .i64 t)
  rwa [dcells_2] at this
 ·exact own_far h.pr (p:=⟨d,2,none⟩) (own_ne_blk h.pr h.blk (by decide)) _
 ·exact own_far h.lk (p:=⟨d,2,none⟩) (own_ne_blk h.lk h.blk (by decide)) _
 ·exact own_far (h.qs x hx) (p:=⟨d,2,none⟩) (own_ne_blk (h.qs x hx) h.blk (by decide)) _
theorem DAt.setLocks (h:DAt B F w d pv hv hs s) (hk:Fresh w w2) {B':Nat} (hB:B≤B') {hv':Value} {hs':List DLk} {ls':List LockD} (ho:w2.ownsRow B' 157 4 hv' ls'.length (rcells DLk.cells hs')) (hd:hs'.map DLk.d=ls')
 (hq:∀x∈hs',w2.ownsRow B 3 1 x.q x.d.queue.length (ics x.d.queue)) (hap:hs'.Pairwise λa b=>∀k,a.q.ownBlock=some k→b.q.ownBlock≠some k) :
 DAt B (λj=>F j∨hv'.ownBlock=some j∨∃x∈hs',x.q.ownBlock=some j) (w2.setCell ⟨d,1,none⟩ hv') d pv hv' hs' { s with locks:=ls' }:=by
 have hb:=h.blk.keep hk trivial
 refine⟨?_,?_,?_,hd,λx hx=>?_,hap,.inl h.fd,λk hk=>.inl (h.fp k hk),λk hk=>.inr (.inl hk),λx hx k hk=>.inr (.inr ⟨x,hx,hk⟩)⟩
 ·have:=hb.set 1 hv'
  rwa [dcells_1] at this
 ·have h1:=own_keep h.pr hk λ_ _=>trivial
  exact own_far h1 (p:=⟨d,1,none⟩) (own_ne_blk h1 hb (by decide)) _
 ·exact own_far (own_base ho hB) (p:=⟨d,1,none⟩) (own_ne_blk ho hb (by decide)) _
 ·exact own_far (hq x hx) (p:=⟨d,1,none⟩) (own_ne_blk (hq x hx) hb (by decide)) _
theorem DAt.one (h:DAt B F w d pv hv hs s){x:DLk}(hx:x∈hs):x.q.oneCell'=true:=by
 obtain⟨_,_,e,-⟩:=own_rd (h.qs x hx)
 rw[e]
 rfl
end
theorem taken_any {B:Nat} {F:Nat→Prop} {w:World} {d:Nat} {pv hv:Value} {hs:List DLk} {s:StD} (h:DAt B F w d pv hv hs s) (nm:Txt) (c:Int) (hn:s.locks.length≤1000) (hB:B≤w.heap.size) (ht:0≤s.tok∧s.tok≤99999999) :
 Calls Tryz.prog 172 #[.pointer (some ⟨d,0,none⟩),str nm,.int .i64 c] w λe w'=>e=.returned (.int .i64 (s.tok+1))∧(∃hv' hs' F',DAt B F' w' d pv hv' hs' { s with locks:=insK LockD.name ⟨nm,c,s.tok+1,[]⟩ s.locks,tok:=s.tok+1 }∧∀j,F' j→F j∨w.heap.size≤j)∧Keep (λj=>j≠d) w w':=by
 obtain⟨n,hnn⟩:=exz (s.locks.length)
 obtain⟨tk,htk⟩:∃t,t=s.tok:=⟨_,rfl⟩
 have hlk:=h.lk
 rw[←hnn] at hlk
 obtain⟨A,cc,rfl,hrd,-⟩:=own_rd hlk
 have hlen:=h.hlen
 rw[←hnn] at hlen
 have x2:=h.three.2.2
 have z2:=h.blk.frozen 2
 have ld:=h.blk.lt
 have hT:=h.setTok (s.tok+1)
 rw[←htk] at x2 ht hT ⊢
 obtain⟨w1,hw1⟩:=exz (w.setCell ⟨d,2,none⟩ (.int .i64 (tk+1)))
 rw[←hw1] at hT
 have hk1:Keep (λj=>j≠d) w w1:=by rw[hw1];exact (krz _ w).setCell (λ_ h=>h rfl) _
 have hs1:w1.heap.size=w.heap.size:=by rw[hw1];simp[World.setCell]
 have HRD0:=hdz hrd
 have HA:=hdz (aiz hT (aiz hlen (aiz hB (aiz hk1 hs1))))
 have hn':n≤1000:=by omega
 obtain⟨ht0,ht1⟩:=ht
 clear h hlk hrd hnn hn hlen hT hk1 hs1 hB htk
 go_enter Tryz.func172,Tryz.ntmps172
 go_upto_region 2 with (fail)
 rw[←hw1]
 have HRD:Hid (Rd w1 (λ_=>True) 4 A n (rcells DLk.cells hs)):=hdz (by
  obtain⟨A',c',e',hr',-⟩:=own_rd HA.out.1.lk
  injection e' with e1 e2 e3
  subst e1
  have h1:=hr'.weaken (Z':=λ_=>True) λ_ _=>trivial
  rw[←e2] at h1
  exact h1)
 clear hw1 x2 z2 ld
 have x2:=HA.out.1.three.2.2
 have ld:=HA.out.1.blk.lt
 simp only at x2
 go_wp2_with (refine wpList_store_new rfl (.tmp 7) (.tmp 24) rfl _ #[str nm,.int .i64 c,.int .i64 (tk+1),.slice none 0 0] _ rfl rfl rfl (by kernel_rfl) (lockA_one _ _ _ _ rfl) ?_)
 intro w3 hb3 hf3 hs3
 obtain⟨g7,hg7⟩:∃g,g=w1.heap.size:=⟨_,rfl⟩
 rw[←hg7] at hb3 ⊢
 have H3:=hdz (aiz hf3 hb3)
 clear hb3 hf3 hs3 hg7 x2
 go_wp2_with fail
 go_loopw [8,9,10] (λv8 v9 iv wr=>∃ (j:Nat) (b:Bool),j≤n∧v9=.bool b∧iv=.int .i64 (j:Int)∧Hid (b=inB DLk.key ⟨⟨nm,c,tk+1,[]⟩,.slice none 0 0⟩ (hs.take j)∧wr.ownsRow w3.heap.size 157 4 v8 (insT DLk.key ⟨⟨nm,c,tk+1,[]⟩,.slice none 0 0⟩ (hs.take j)).length (rcells DLk.cells (insT DLk.key ⟨⟨nm,c,tk+1,[]⟩,.slice none 0 0⟩ (hs.take j)))∧Fresh w3 wr)) (λ_ _ i _=>n - (intOf i).toNat)
 case atStart=>exact⟨0,false,by omega,rfl,rfl,hdz ⟨rfl,by exact onz _ _ _ _,krz _ _⟩⟩
 case round=>
  rename World=>wr
  obtain⟨j,b,hj,rfl,rfl,HR⟩:=hrel
  have hfr:=H3.out.1.then HR.out.2.2
  have x1:=(HA.out.1.fresh hfr).three.2.1
  have ldr:d<wr.heap.size:=ltz ld hfr.size
  have hbw:w3.heap.size≤wr.heap.size:=HR.out.2.2.size
  have HS:=hdz hbw
  have hb7:=H3.out.2.keep HR.out.2.2 trivial
  have n0:=hb7.cell 0;have n1:=hb7.cell 1;have n2:=hb7.cell 2;have n3:=hb7.cell 3
  simp at n0 n1 n2 n3
  have l7:=hb7.lt
  by_cases hlt:j<n
  ·have hrd0:=HRD.out
   obtain⟨hl,b8,o8,hA,-,hcw0,hcw1,hcw2,hcw3⟩:=hrd0.lockE hlt
   subst hA
   have hone:=HA.out.1.one (List.getElem_mem hl)
   obtain⟨y,hy⟩:=exz (hs[j])
   rw[←hy] at hcw0 hcw1 hcw2 hcw3 hone
   obtain⟨⟨en,eh,et,eqq⟩,eq⟩:=y
   simp only at hcw0 hcw1 hcw2 hcw3 hone
   have hc0:=hfr.cellAt hcw0 trivial
   have hc1:=hfr.cellAt hcw1 trivial
   have hc2:=hfr.cellAt hcw2 trivial
   have hc3:=hfr.cellAt hcw3 trivial
   have HC:=hdz (aiz hcw0 (aiz hcw1 (aiz hcw2 hcw3)))
   have lb:=lt_of_cell hc0
   have hji:(j:Int)<(n:Int):=by omega
   have HT:Hid (hs.take (j+1)=hs.take j++[⟨⟨en,eh,et,eqq⟩,eq⟩]):=hdz (by rw[List.take_succ_eq_append_getElem hl,←hy])
   have HLn:Hid ((insT DLk.key ⟨⟨nm,c,tk+1,[]⟩,.slice none 0 0⟩ (hs.take j)).length≤2000):=hdz (by
    unfold insT
    split
    ·rw[insK_len];have:=List.length_take_le j hs;omega
    ·have:=List.length_take_le j hs;omega)
   clear hy hl hcw0 hcw1 hcw2 hcw3 hrd0 hbw hfr
   cases b
   ·by_cases hb:bytesBefore nm en=true
    ·have hlb:Op.bytesLess nm en=true:=by rw[less_before];exact hb
     have HI:Hid (insT DLk.key ⟨⟨nm,c,tk+1,[]⟩,.slice none 0 0⟩ (hs.take (j+1))=insT DLk.key ⟨⟨nm,c,tk+1,[]⟩,.slice none 0 0⟩ (hs.take j)++[⟨⟨nm,c,tk+1,[]⟩,.slice none 0 0⟩]++[⟨⟨en,eh,et,eqq⟩,eq⟩]∧inB DLk.key ⟨⟨nm,c,tk+1,[]⟩,.slice none 0 0⟩ (hs.take (j+1))=true):=hdz (by
      rw[HT.out]
      exact⟨insT_now (key:=DLk.key) HR.out.1.symm hb,by rw[inB_snoc];simp[hb]⟩)
     clear hb
     go_wp2_with (at_builtin;refine wpList_appB etLock rfl (.tmp 48) (.tmp 50) rfl #[str nm,.int .i64 c,.int .i64 (tk+1),.slice none 0 0] 157 rfl (lockL_one _ _ _ _ rfl) w3.heap.size _ _ _ wr.heap.size rfl rfl rfl HR.out.2.1 (by have:=HLn.out;omega) HS.out ?_)
     intro v4 w4 ho4 hk4 hn4
     have hf4:Fresh w3 w4:=HR.out.2.2.comp hk4 (λ_ _ h=>h) (λi hi _ e=>by have:=(own_lt HR.out.2.1 e).1;omega)
     have hfr:=H3.out.1.then hf4
     have x1:=(HA.out.1.fresh hfr).three.2.1
     have ldr:d<w4.heap.size:=ltz ld hfr.size
     have hc0:=hfr.cellAt HC.out.1 trivial
     have hc1:=hfr.cellAt HC.out.2.1 trivial
     have hc2:=hfr.cellAt HC.out.2.2.1 trivial
     have hc3:=hfr.cellAt HC.out.2.2.2 trivial
     have lb:=lt_of_cell hc0
     have H4:=hdz (aiz ho4 hf4)
     clear ho4 hk4 hn4 hf4 hfr
     go_wp2_with (at_builtin;refine wpList_appB etLock rfl (.tmp 52) (.tmp 60) rfl #[str en,.int .i64 eh,.int .i64 et,eq] 157 rfl (lockL_one _ _ _ _ hone) w3.heap.size _ _ _ w4.heap.size rfl rfl rfl H4.out.1 (by have:=HLn.out;omega) H4.out.2.size ?_)
     intro v5 w5 ho5 hk5 hn5
     have H5:Hid (w5.ownsRow w3.heap.size 157 4 v5 (insT DLk.key ⟨⟨nm,c,tk+1,[]⟩,.slice none 0 0⟩ (hs.take (j+1))).length (rcells DLk.cells (insT DLk.key ⟨⟨nm,c,tk+1,[]⟩,.slice none 0 0⟩ (hs.take (j+1))))∧Fresh w3 w5):=hdz ⟨by
      rw[HI.out.1]
      simpa[rcells_append,rcells_cons,rcells_nil,DLk.cells] using ho5,H4.out.2.comp hk5 (λ_ _ h=>h) (λi hi _ e=>by have:=(own_lt H4.out.1 e).1;omega)⟩
     clear ho5 hk5 hn5
     go_wp2_with fail
     exact⟨⟨j+1,true,by omega,rfl,by simp,hdz ⟨HI.out.2.symm,H5.out⟩⟩,by simp only[intOf];omega⟩
    ·have hlb:Op.bytesLess nm en=false:=by rw[less_before];simpa using hb
     have HI:Hid (insT DLk.key ⟨⟨nm,c,tk+1,[]⟩,.slice none 0 0⟩ (hs.take (j+1))=insT DLk.key ⟨⟨nm,c,tk+1,[]⟩,.slice none 0 0⟩ (hs.take j)++[⟨⟨en,eh,et,eqq⟩,eq⟩]∧inB DLk.key ⟨⟨nm,c,tk+1,[]⟩,.slice none 0 0⟩ (hs.take (j+1))=false):=hdz (by
      rw[HT.out]
      exact⟨insT_out (key:=DLk.key) HR.out.1.symm (by simpa using hb),by rw[inB_snoc,←HR.out.1];simpa using hb⟩)
     clear hb
     go_wp2_with (at_builtin;refine wpList_appB etLock rfl (.tmp 52) (.tmp 60) rfl #[str en,.int .i64 eh,.int .i64 et,eq] 157 rfl (lockL_one _ _ _ _ hone) w3.heap.size _ _ _ wr.heap.size rfl rfl rfl HR.out.2.1 (by have:=HLn.out;omega) HS.out ?_)
     intro v5 w5 ho5 hk5 hn5
     have H5:Hid (w5.ownsRow w3.heap.size 157 4 v5 (insT DLk.key ⟨⟨nm,c,tk+1,[]⟩,.slice none 0 0⟩ (hs.take (j+1))).length (rcells DLk.cells (insT DLk.key ⟨⟨nm,c,tk+1,[]⟩,.slice none 0 0⟩ (hs.take (j+1))))∧Fresh w3 w5):=hdz ⟨by
      rw[HI.out.1]
      simpa[rcells_append,rcells_cons,rcells_nil,DLk.cells] using ho5,HR.out.2.2.comp hk5 (λ_ _ h=>h) (λi hi _ e=>by have:=(own_lt HR.out.2.1 e).1;omega)⟩
     clear ho5 hk5 hn5
     go_wp2_with fail
     exact⟨⟨j+1,false,by omega,rfl,by simp,hdz ⟨HI.out.2.symm,H5.out⟩⟩,by simp only[intOf];omega⟩
   ·have HI:Hid (insT DLk.key ⟨⟨nm,c,tk+1,[]⟩,.slice none 0 0⟩ (hs.take (j+1))=insT DLk.key ⟨⟨nm,c,tk+1,[]⟩,.slice none 0 0⟩ (hs.take j)++[⟨⟨en,eh,et,eqq⟩,eq⟩]∧inB DLk.key ⟨⟨nm,c,tk+1,[]⟩,.slice none 0 0⟩ (hs.take (j+1))=true):=hdz (by
     rw[HT.out]
     exact⟨insT_in (key:=DLk.key) HR.out.1.symm,by rw[inB_snoc,←HR.out.1];rfl⟩)
    go_wp2_with (at_builtin;refine wpList_appB etLock rfl (.tmp 52) (.tmp 60) rfl #[str en,.int .i64 eh,.int .i64 et,eq] 157 rfl (lockL_one _ _ _ _ hone) w3.heap.size _ _ _ wr.heap.size rfl rfl rfl HR.out.2.1 (by have:=HLn.out;omega) HS.out ?_)
    intro v5 w5 ho5 hk5 hn5
    have H5:Hid (w5.ownsRow w3.heap.size 157 4 v5 (insT DLk.key ⟨⟨nm,c,tk+1,[]⟩,.slice none 0 0⟩ (hs.take (j+1))).length (rcells DLk.cells (insT DLk.key ⟨⟨nm,c,tk+1,[]⟩,.slice none 0 0⟩ (hs.take (j+1))))∧Fresh w3 w5):=hdz ⟨by
     rw[HI.out.1]
     simpa[rcells_append,rcells_cons,rcells_nil,DLk.cells] using ho5,HR.out.2.2.comp hk5 (λ_ _ h=>h) (λi hi _ e=>by have:=(own_lt HR.out.2.1 e).1;omega)⟩
    clear ho5 hk5 hn5
    go_wp2_with fail
    exact⟨⟨j+1,true,by omega,rfl,by simp,hdz ⟨HI.out.2.symm,H5.out⟩⟩,by simp only[intOf];omega⟩
  ·obtain rfl:n=j:=by omega
   have HE:Hid (hs.take n=hs):=hdz (List.take_of_length_le (by rw[HA.out.2.1];exact lrz _))
   have HLn:Hid ((insT DLk.key ⟨⟨nm,c,tk+1,[]⟩,.slice none 0 0⟩ (hs.take n)).length≤2000):=hdz (by
    unfold insT
    split
    ·rw[insK_len];have:=List.length_take_le n hs;omega
    ·have:=List.length_take_le n hs;omega)
   have hfin:∀w5 v5,Fresh w3 w5→w5.ownsRow w3.heap.size 157 4 v5 (insK DLk.key ⟨⟨nm,c,tk+1,[]⟩,.slice none 0 0⟩ hs).length (rcells DLk.cells (insK DLk.key ⟨⟨nm,c,tk+1,[]⟩,.slice none 0 0⟩ hs))→(∃hv' hs' F',DAt B F' (w5.setCell ⟨d,1,none⟩ v5) d pv hv' hs' { s with locks:=insK LockD.name ⟨nm,c,tk+1,[]⟩ s.locks,tok:=tk+1 }∧∀j,F' j→F j∨w.heap.size≤j)∧Keep (λj=>j≠d) w (w5.setCell ⟨d,1,none⟩ v5):=λw5 v5 hf ho=>by
    have hf15:=H3.out.1.then hf
    have hd:(insK DLk.key ⟨⟨nm,c,tk+1,[]⟩,.slice none 0 0⟩ hs).map DLk.d=insK LockD.name ⟨nm,c,tk+1,[]⟩ s.locks:=by rw[dlk_ins,HA.out.1.ds]
    have hl:(insK DLk.key ⟨⟨nm,c,tk+1,[]⟩,.slice none 0 0⟩ hs).length=(insK LockD.name ⟨nm,c,tk+1,[]⟩ s.locks).length:=by rw[←hd,List.length_map]
    rw[hl] at ho
    have hwN:w.heap.size≤w3.heap.size:=by have:=H3.out.1.size;have:=HA.out.2.2.2.2;omega
    refine⟨⟨_,_,_,HA.out.1.setLocks hf15 (lez HA.out.2.2.1 hwN) ho hd (λx hx=>?_) (pair_ins (λy hy=>⟨λk hk=>by (simp[Value.ownBlock] at hk),λk hk e=>by (simp[Value.ownBlock] at e)⟩) HA.out.1.ap),λj hj=>?_⟩,(HA.out.2.2.2.1.comp hf15 (λ_ _ h=>h) (λ_ _ _=>trivial)).setCell (λ_ h=>h rfl) _⟩
    ·rcases insK_mem.1 hx with rfl | hx
     ·exact onz _ _ _ _
     ·exact own_keep (HA.out.1.qs x hx) hf15 λ_ _=>trivial
    ·rcases hj with hj | hj | ⟨x,hx,hj⟩
     ·exact .inl hj
     ·exact .inr (lez hwN (own_lt ho hj).1)
     ·rcases insK_mem.1 hx with rfl | hx
      ·simp[Value.ownBlock] at hj
      ·exact .inl (HA.out.1.fq x hx j hj)
   have HF:=hdz hfin
   have hzd:∀w5,Fresh w3 w5→w5.frozen? ⟨d,1,none⟩=false∧(∃u,w5.cell? ⟨d,1,none⟩=some u)∧w5.cell? ⟨d,2,none⟩=some (.int .i64 (tk+1))∧d<w5.heap.size:=λw5 hf=>⟨(HA.out.1.fresh (H3.out.1.then hf)).blk.frozen 1,⟨_,(HA.out.1.fresh (H3.out.1.then hf)).three.2.1⟩,(HA.out.1.fresh (H3.out.1.then hf)).three.2.2,ltz ld (H3.out.1.then hf).size⟩
   have HZ:=hdz hzd
   clear hfin hzd hfr hbw
   cases b
   ·have hE:insK DLk.key ⟨⟨nm,c,tk+1,[]⟩,.slice none 0 0⟩ hs=insT DLk.key ⟨⟨nm,c,tk+1,[]⟩,.slice none 0 0⟩ (hs.take n)++[⟨⟨nm,c,tk+1,[]⟩,.slice none 0 0⟩]:=by
     have h1:=HR.out.1
     rw[HE.out] at h1 ⊢
     rw[insT_end,if_neg (by rw[←h1];simp)]
    have HI:=hdz hE
    clear hE
    go_wp2_with (at_builtin;refine wpList_appB etLock rfl (.tmp 64) (.tmp 66) rfl #[str nm,.int .i64 c,.int .i64 (tk+1),.slice none 0 0] 157 rfl (lockL_one _ _ _ _ rfl) w3.heap.size _ _ _ wr.heap.size rfl rfl rfl HR.out.2.1 (by have:=HLn.out;omega) HS.out ?_)
    intro v2 w2 ho2 hk2 hn2
    have hf2:Fresh w3 w2:=HR.out.2.2.comp hk2 (λ_ _ h=>h) (λi hi _ e=>by have:=(own_lt HR.out.2.1 e).1;omega)
    have ho3:w2.ownsRow w3.heap.size 157 4 v2 (insK DLk.key ⟨⟨nm,c,tk+1,[]⟩,.slice none 0 0⟩ hs).length (rcells DLk.cells (insK DLk.key ⟨⟨nm,c,tk+1,[]⟩,.slice none 0 0⟩ hs)):=by
     rw[HI.out]
     simpa[rcells_append,rcells_cons,rcells_nil,DLk.cells] using ho2
    obtain⟨A2,c2,rfl,-⟩:=own_rd ho3
    obtain⟨z0,⟨u0,x0⟩,x2,l0⟩:=HZ.out w2 hf2
    have H2:=hdz (HF.out w2 _ hf2 ho3)
    clear ho2 hk2 hn2 hf2 ho3
    go_wp2_with fail
    go_ret
    exact⟨rfl,H2.out⟩
   ·have hE:insK DLk.key ⟨⟨nm,c,tk+1,[]⟩,.slice none 0 0⟩ hs=insT DLk.key ⟨⟨nm,c,tk+1,[]⟩,.slice none 0 0⟩ (hs.take n):=by
     have h1:=HR.out.1
     rw[HE.out] at h1 ⊢
     rw[insT_end,if_pos (by rw[←h1])]
    have ho:=HR.out.2.1
    rw[←hE] at ho
    obtain⟨A2,c2,rfl,-⟩:=own_rd ho
    obtain⟨z0,⟨u0,x0⟩,x2,l0⟩:=HZ.out wr HR.out.2.2
    have H2:=hdz (HF.out wr _ HR.out.2.2 ho)
    clear ho hE
    go_wp2_with fail
    go_ret
    exact⟨rfl,H2.out⟩
theorem own_ne_own2 {w:World} {b1 b2 e1 e2 s1 s2 n1 n2:Nat} {v1 v2:Value} {xs1 xs2:List Value} (h1:w.ownsRow b1 e1 s1 v1 n1 xs1) (h2:w.ownsRow b2 e2 s2 v2 n2 xs2) (hne:e1≠e2) {k:Nat} (hk:v1.ownBlock=some k):v2.ownBlock≠some k:=by
 intro hk2
 rcases h1.2 with ⟨rfl,_⟩ | ⟨g,cap,cur,rfl,_,hh,_⟩
 ·simp[Value.ownBlock] at hk
 ·rcases h2.2 with ⟨rfl,_⟩ | ⟨g2,cap2,cur2,rfl,_,hh2,_⟩
  ·simp[Value.ownBlock] at hk2
  ·simp[Value.ownBlock] at hk hk2
   subst hk hk2
   rw[hh] at hh2
   injection hh2 with hh2
   injection hh2 with _ ht
   exact hne ht
section
variable {B:Nat}{F:Nat→Prop}{w w2 w3:World}{d:Nat}{pv hv:Value}{hs:List DLk}{s:StD}
theorem DAt.tight (h:DAt B F w d pv hv hs s):DAt B (λk=>F k∧k<w.heap.size) w d pv hv hs s:=
 ⟨h.blk,h.pr,h.lk,h.ds,h.qs,h.ap,⟨h.fd,h.blk.lt⟩,λk hk=>⟨h.fp k hk,(own_lt h.pr hk).2⟩,λk hk=>⟨h.fh k hk,(own_lt h.lk hk).2⟩,λx hx k hk=>⟨h.fq x hx k hk,(own_lt (h.qs x hx) hk).2⟩⟩
theorem DAt.nd (h:DAt B F w d pv hv hs s):hv.ownBlock≠some d:=own_ne_blk h.lk h.blk (by decide)
theorem DAt.nq (h:DAt B F w d pv hv hs s){x:DLk}(hx:x∈hs):x.q.ownBlock≠some d:=own_ne_blk (h.qs x hx) h.blk (by decide)
theorem DAt.ngq (h:DAt B F w d pv hv hs s){x:DLk}(hx:x∈hs){g:Nat}(hg:hv.ownBlock=some g):x.q.ownBlock≠some g:=own_ne_own2 h.lk (h.qs x hx) (by decide) hg
theorem DAt.ngp (h:DAt B F w d pv hv hs s){g:Nat}(hg:hv.ownBlock=some g):pv.ownBlock≠some g:=own_ne_own2 h.lk h.pr (by decide) hg
theorem DAt.npq (h:DAt B F w d pv hv hs s){x:DLk}(hx:x∈hs){g:Nat}(hg:x.q.ownBlock=some g):pv.ownBlock≠some g:=own_ne_own2 (h.qs x hx) h.pr (by decide) hg
theorem DAt.apart (h:DAt B F w d pv hv hs s) {i j:Nat} (hi:i<hs.length) (hj:j<hs.length) (hij:i≠j) {k:Nat} (hk:hs[i].q.ownBlock=some k):hs[j].q.ownBlock≠some k:=by
 have hp:=List.pairwise_iff_getElem.1 h.ap
 rcases Nat.lt_or_ge i j with hlt | hge
 ·exact hp i j hi hj hlt k hk
 ·intro h2
  exact hp j i hj hi (by omega) k h2 hk
theorem DAt.setLock (h:DAt B F w d pv hv hs s) {i:Nat} (hi:i<hs.length) (x:DLk) {g:Nat} (hg:hv.ownBlock=some g) (hk:Keep (λk=>k≠g∧hs[i].q.ownBlock≠some k) w w3)
 (hl:w3.ownsRow B 157 4 hv s.locks.length (rcells DLk.cells (hs.set i x))) (hq:w3.ownsRow B 3 1 x.q x.d.queue.length (ics x.d.queue))
 (hn:∀k,x.q.ownBlock=some k→hs[i].q.ownBlock=some k∨w.heap.size≤k) :
 DAt B (λk=>F k∨x.q.ownBlock=some k) w3 d pv hv (hs.set i x) { s with locks:=s.locks.set i x.d }:=by
 have hmi:hs[i]∈hs:=List.getElem_mem hi
 have hz:∀y∈hs.set i x,y=x∨∃ (j:Nat) (hj:j<hs.length),i≠j∧y=hs[j]:=λy hy=>by
  obtain⟨j,hj,rfl⟩:=List.getElem_of_mem hy
  rw[List.length_set] at hj
  by_cases e:i=j
  ·subst e
   exact .inl (by rw[List.getElem_set_self])
  ·exact .inr ⟨j,hj,e,by rw[List.getElem_set_ne e]⟩
 refine⟨h.blk.keep hk ⟨λe=>h.nd (e ▸ hg),h.nq hmi⟩,own_keep h.pr hk λk hk=>⟨λe=>h.ngp hg (e ▸ hk),λe=>h.npq hmi e hk⟩,by rw[List.length_set];exact hl,by rw[List.map_set,h.ds],λy hy=>?_,?_,.inl h.fd,λk hk=>.inl (h.fp k hk),λk hk=>.inl (h.fh k hk),λy hy k hk=>?_⟩
 ·rcases hz y hy with rfl | ⟨j,hj,hij,rfl⟩
  ·exact hq
  ·exact own_keep (h.qs _ (List.getElem_mem hj)) hk λk hk=>⟨λe=>h.ngq (List.getElem_mem hj) hg (e ▸ hk),λe=>h.apart hi hj hij e hk⟩
 ·refine List.pairwise_iff_getElem.2 λa b ha hb hab k hka hkb=>?_
  rw[List.length_set] at ha hb
  rw[List.getElem_set] at hka hkb
  by_cases ea:i=a
  ·subst ea
   have eb:i≠b:=by omega
   rw[if_pos rfl] at hka
   rw[if_neg eb] at hkb
   rcases hn k hka with h1 | h1
   ·exact h.apart hi hb eb h1 hkb
   ·have:=(own_lt (h.qs _ (List.getElem_mem hb)) hkb).2
    omega
  ·rw[if_neg ea] at hka
   by_cases eb:i=b
   ·subst eb
    rw[if_pos rfl] at hkb
    rcases hn k hkb with h1 | h1
    ·exact h.apart hi ha ea h1 hka
    ·have:=(own_lt (h.qs _ (List.getElem_mem ha)) hka).2
     omega
   ·rw[if_neg eb] at hkb
    exact h.apart ha hb (by omega) hka hkb
 ·rcases hz y hy with rfl | ⟨j,hj,hij,rfl⟩
  ·exact .inr hk
  ·exact .inl (h.fq _ (List.getElem_mem hj) k hk)
theorem lock_q_cells {i:Nat}(hi:i<hs.length)(q:List Int)(v:Value):(rcells DLk.cells hs).set (i*4+3) v=rcells DLk.cells (hs.set i ⟨{ hs[i].d with queue:=q },v⟩):=
 rcells_set dlk_four hs i hi 3 v _ (by omega) rfl
theorem DAt.setQ (h:DAt B F w d pv hv hs s){i:Nat}(hi:i<hs.length){g:Nat}(hg:hv.ownBlock=some g)(hk:Keep (λk=>hs[i].q.ownBlock≠some k) w w2){q:List Int}{v:Value}
 (hq:w2.ownsRow B 3 1 v q.length (ics q)) (hn:∀k,v.ownBlock=some k→hs[i].q.ownBlock=some k∨w.heap.size≤k) :
 DAt B (λk=>F k∨v.ownBlock=some k) (w2.setCell ⟨g,i*4+3,none⟩ v) d pv hv (hs.set i ⟨{ hs[i].d with queue:=q },v⟩) { s with locks:=s.locks.set i { hs[i].d with queue:=q } }:=by
 have hl:=own_keep h.lk hk λk hk e=>h.ngq (List.getElem_mem hi) hk e
 have hlen:=h.hlen
 have hs2:=own_set hl hg (i:=i*4+3) (by omega) v
 rw[lock_q_cells hi q v] at hs2
 refine h.setLock hi ⟨{ hs[i].d with queue:=q },v⟩ hg ((hk.weaken λk _ h=>h.2).setCell (λ_ h=>h.1 rfl) _) hs2 (own_far hq (p:=⟨g,i*4+3,none⟩) (λe=>?_) _) hn
 exact own_ne_own2 hl hq (by decide) hg e
theorem lock_cells4 {i:Nat}(hi:i<hs.length)(x:DLk):((((rcells DLk.cells hs).set (i*4) (str x.d.name)).set (i*4+1) (.int .i64 x.d.holder)).set (i*4+2) (.int .i64 x.d.token)).set (i*4+3) x.q=rcells DLk.cells (hs.set i x):=by
 have h0:=rcells_set dlk_four hs i hi 0 (str x.d.name) ⟨⟨x.d.name,hs[i].d.holder,hs[i].d.token,hs[i].d.queue⟩,hs[i].q⟩ (by omega) rfl
 rw[Nat.add_zero] at h0
 have h1:=rcells_set dlk_four (hs.set i ⟨⟨x.d.name,hs[i].d.holder,hs[i].d.token,hs[i].d.queue⟩,hs[i].q⟩) i (by simpa using hi) 1 (.int .i64 x.d.holder) ⟨⟨x.d.name,x.d.holder,hs[i].d.token,hs[i].d.queue⟩,hs[i].q⟩ (by omega) (by rw[List.getElem_set_self];rfl)
 rw[List.set_set] at h1
 have h2:=rcells_set dlk_four (hs.set i ⟨⟨x.d.name,x.d.holder,hs[i].d.token,hs[i].d.queue⟩,hs[i].q⟩) i (by simpa using hi) 2 (.int .i64 x.d.token) ⟨⟨x.d.name,x.d.holder,x.d.token,hs[i].d.queue⟩,hs[i].q⟩ (by omega) (by rw[List.getElem_set_self];rfl)
 rw[List.set_set] at h2
 have h3:=rcells_set dlk_four (hs.set i ⟨⟨x.d.name,x.d.holder,x.d.token,hs[i].d.queue⟩,hs[i].q⟩) i (by simpa using hi) 3 x.q x (by omega) (by rw[List.getElem_set_self];rfl)
 rw[List.set_set] at h3
 rw[h0,h1,h2,h3]
theorem DAt.setLock4 (h:DAt B F w d pv hv hs s){i:Nat}(hi:i<hs.length)(x:DLk){g:Nat}(hg:hv.ownBlock=some g)(hk:Fresh w w2)(hq:w2.ownsRow B 3 1 x.q x.d.queue.length (ics x.d.queue))
 (hn:∀k,x.q.ownBlock=some k→hs[i].q.ownBlock=some k∨w.heap.size≤k) :
 DAt B (λk=>F k∨x.q.ownBlock=some k) ((((w2.setCell ⟨g,i*4,none⟩ (str x.d.name)).setCell ⟨g,i*4+1,none⟩ (.int .i64 x.d.holder)).setCell ⟨g,i*4+2,none⟩ (.int .i64 x.d.token)).setCell ⟨g,i*4+3,none⟩ x.q) d pv hv (hs.set i x) { s with locks:=s.locks.set i x.d }:=by
 have hl:=own_keep h.lk hk λ_ _=>trivial
 have hlen:=h.hlen
 have hs2:=own_set (own_set (own_set (own_set hl hg (i:=i*4) (by omega) (str x.d.name)) hg (i:=i*4+1) (by omega) (.int .i64 x.d.holder)) hg (i:=i*4+2) (by omega) (.int .i64 x.d.token)) hg (i:=i*4+3) (by omega) x.q
 rw[lock_cells4 hi x] at hs2
 have hne:x.q.ownBlock≠some g:=λe=>own_ne_own2 hl hq (by decide) hg e
 refine h.setLock hi x hg (((((hk.weaken λ_ _ _=>trivial).setCell (λ_ h=>h.1 rfl) _).setCell (λ_ h=>h.1 rfl) _).setCell (λ_ h=>h.1 rfl) _).setCell (λ_ h=>h.1 rfl) _) hs2 ?_ hn
 exact own_far (own_far (own_far (own_far hq (p:=⟨g,i*4,none⟩) hne _) (p:=⟨g,i*4+1,none⟩) hne _) (p:=⟨g,i*4+2,none⟩) hne _) (p:=⟨g,i*4+3,none⟩) hne _
end
def DFoot (d:Nat)(pv hv:Value)(hs:List DLk)(k:Nat):Prop:=k=d∨pv.ownBlock=some k∨hv.ownBlock=some k∨∃x∈hs,x.q.ownBlock=some k
section
variable {B:Nat}{F:Nat→Prop}{w:World}{d:Nat}{pv hv:Value}{hs:List DLk}{s:StD}
theorem DAt.min (h:DAt B F w d pv hv hs s):DAt B (DFoot d pv hv hs) w d pv hv hs s:=
 ⟨h.blk,h.pr,h.lk,h.ds,h.qs,h.ap,.inl rfl,λk hk=>.inr (.inl hk),λk hk=>.inr (.inr (.inl hk)),λx hx k hk=>.inr (.inr (.inr ⟨x,hx,hk⟩))⟩
theorem DAt.footF (h:DAt B F w d pv hv hs s){k:Nat}(hk:DFoot d pv hv hs k):F k:=by
 rcases hk with rfl | hk | hk | ⟨x,hx,hk⟩
 ·exact h.fd
 ·exact h.fp k hk
 ·exact h.fh k hk
 ·exact h.fq x hx k hk
theorem DAt.footL (h:DAt B F w d pv hv hs s){k:Nat}(hk:DFoot d pv hv hs k):k<w.heap.size:=by
 rcases hk with rfl | hk | hk | ⟨x,hx,hk⟩
 ·exact h.blk.lt
 ·exact (own_lt h.pr hk).2
 ·exact (own_lt h.lk hk).2
 ·exact (own_lt (h.qs x hx) hk).2
theorem DAt.footN (h:DAt B F w d pv hv hs s){g:Nat}{t:TypeId}{cs:Array Value}(hb:Blk w g t cs)(h1:147≠t)(h2:71≠t)(h3:157≠t)(h4:3≠t):¬DFoot d pv hv hs g:=by
 rintro (rfl | hk | hk | ⟨x,hx,hk⟩)
 ·exact h.blk.ne hb h1 rfl
 ·exact own_ne_blk h.pr hb h2 hk
 ·exact own_ne_blk h.lk hb h3 hk
 ·exact own_ne_blk (h.qs x hx) hb h4 hk
end
def DStep (B:Nat)(F:Nat→Prop)(w:World)(d:Nat)(s2:StD)(w2:World):Prop:=
 (∃pv hv hs F2,DAt B F2 w2 d pv hv hs s2∧∀j,F2 j→F j∨w.heap.size≤j)∧Keep (λj=>¬F j) w w2
section
variable {B:Nat}{F F1:Nat→Prop}{w w1 w2:World}{d:Nat}{pv hv:Value}{hs:List DLk}{s s2:StD}
theorem DStep.next (h:DStep B F1 w1 d s2 w2)(hF:∀j,F1 j→F j∨w.heap.size≤j)(hk:Keep (λj=>¬F j) w w1):DStep B F w d s2 w2:=by
 obtain⟨⟨pv,hv,hs,F2,hd,hF2⟩,hk2⟩:=h
 have:=hk.size
 refine⟨⟨pv,hv,hs,F2,hd,λj hj=>(hF2 j hj).elim (λh=>hF j h) λh=>.inr (by omega)⟩,hk.comp hk2 (λ_ _ h=>h) λj hj h hF1=>(hF j hF1).elim h (by omega)⟩
theorem DStep.fresh (h:DStep B F w d s2 w1)(hf:Fresh w1 w2):DStep B F w d s2 w2:=by
 obtain⟨⟨pv,hv,hs,F2,hd,hF2⟩,hk2⟩:=h
 exact⟨⟨pv,hv,hs,F2,hd.fresh hf,hF2⟩,hk2.comp hf (λ_ _ h=>h) λ_ _ _=>trivial⟩
end
theorem nDigits_small':∀ (k u:Nat),u<10 ^ (k+1)→Lib.nDigits u≤k+1
 | 0,u,h=>by rw[Lib.nDigits_small (by simpa using h)];omega
 | k+1,u,h=>by
  by_cases h1:u<10
  ·rw[Lib.nDigits_small h1];omega
  ·rw[Lib.nDigits_big h1]
   have:=nDigits_small' k (u / 10) (by rw[Nat.pow_succ] at h;omega)
   omega
theorem nDigits_iff (k u:Nat):Lib.nDigits u≤k+1↔u<10 ^ (k+1):=
 ⟨λh=>ltz (Lib.lt_pow_nDigits u) (Nat.pow_le_pow_right (by decide) h),nDigits_small' k u⟩
theorem itoa_long (n:Int):8<(Lib.itoa n).length↔(n < -9999999∨99999999<n):=by
 by_cases h:n<0
 ·obtain⟨u,rfl,hu⟩:∃u:Nat,n = -(u:Int)∧0<u:=⟨n.natAbs,by omega,by omega⟩
  rw[itoa_neg' u hu,List.length_cons,Lib.decDigits_length]
  have:=nDigits_iff 6 u
  have e:(10:Nat) ^ (6+1)=10000000:=by decide
  rw[e] at this
  omega
 ·obtain⟨u,rfl⟩:∃u:Nat,n=(u:Int):=⟨n.toNat,by omega⟩
  rw[itoa_pos u,Lib.decDigits_length]
  have:=nDigits_iff 7 u
  have e:(10:Nat) ^ (7+1)=100000000:=by decide
  rw[e] at this
  omega
section
variable {B:Nat}{F:Nat→Prop}{w w2 wx:World}{d:Nat}{pv hv:Value}{hs:List DLk}{s:StD}
theorem DAt.other (h:DAt B F w d pv hv hs s){g:Nat}{t:TypeId}{cs:Array Value}(hb:Blk w g t cs)(h1:147≠t)(h2:71≠t)(h3:157≠t)(h4:3≠t)(hk:Keep (λk=>k≠g) w w2):DAt B F w2 d pv hv hs s:=
 ⟨h.blk.keep hk (h.blk.ne hb h1),own_keep h.pr hk λk hk e=>own_ne_blk h.pr hb h2 (e ▸ hk),own_keep h.lk hk λk hk e=>own_ne_blk h.lk hb h3 (e ▸ hk),h.ds,λx hx=>own_keep (h.qs x hx) hk λk hk e=>own_ne_blk (h.qs x hx) hb h4 (e ▸ hk),h.ap,h.fd,h.fp,h.fh,h.fq⟩
theorem DAt.stay' (h:DAt B F w2 d pv hv hs s)(hf:Fresh w w2):DStep B F w d s w2:=⟨⟨pv,hv,hs,F,h,λ_ h=>.inl h⟩,hf.weaken λ_ _ _=>trivial⟩
theorem DStep.other (h:DStep B F w d s wx){g:Nat}{t:TypeId}{cs:Array Value}(hb:Blk wx g t cs)(h1:147≠t)(h2:71≠t)(h3:157≠t)(h4:3≠t)(hg:w.heap.size≤g)(hk:Keep (λk=>k≠g) wx w2):DStep B F w d s w2:=by
 obtain⟨⟨pv,hv,hs,F2,hd,hF⟩,hk2⟩:=h
 exact⟨⟨pv,hv,hs,F2,hd.other hb h1 h2 h3 h4 hk,hF⟩,hk2.comp hk (λ_ _ h=>h) λj hj _ e=>by omega⟩
end
def DOp (B:Nat)(F:Nat→Prop)(w:World)(d:Nat)(x:ResD×StD)(e:Ending)(w':World):Prop:=e=.returned (resV x.1)∧DStep B F w d x.2 w'
theorem dop_ret {fn:Func}(hfn:fn.results=#[.cell 4 33]){a:Act}{g:Nat}(ha:a.tmps.getD 4 undef=.pointer (some ⟨g,0,none⟩))(hd:a.defers=[]){B:Nat}{F:Nat→Prop}{w wx:World}{d:Nat}{R:ResD}{s2:StD}{R0:MRes}
 (hm:DStep B F w d s2 wx) (hb:Blk wx g 33 (resA R0)) (hg:w.heap.size≤g) :
 bodyPost Tryz.prog fn (DOp B F w d (R,s2)) Exit.ret a (resStored wx g R):=
 bodyPost_ret (results_one hfn _ _ g 33 (resA R) _ ha (res_blk hb R) Tryz.underlying33 rfl (by kernel_rfl)) hd ⟨rfl,hm.other hb (by decide) (by decide) (by decide) (by decide) hg (res_keep (krz _ wx) (λ_ h=>h rfl) _)⟩
theorem rnum_numb {v:Txt}(h:(numb v).2=true):rnum v=numb v:=by
 rw[rnum_eq,h,if_pos rfl]
 exact Prod.ext rfl h.symm
theorem valid_num {c i r o:Int} {k v d:Txt} (h:validB c i r o k v d=true) (ho:o=5∨o=8∨o=9):(numb v).2=true:=by
 obtain⟨-,-,-,-,hf⟩:=valid_ok h
 rcases ho with rfl | rfl | rfl
 ·have e:shapeTab.getD (5:Int).toNat 0=9:=by decide
  have b2:hasB 9 2=false:=by decide
  have b8:hasB 9 8=true:=by decide
  rw[e] at hf
  unfold fitsB at hf
  rw[b2,b8] at hf
  split at hf
  ·cases hf
  ·split at hf
   ·cases hf
   ·simpa using hf
 ·have e:shapeTab.getD (8:Int).toNat 0=17:=by decide
  have b2:hasB 17 2=false:=by decide
  have b8:hasB 17 8=false:=by decide
  have b16:hasB 17 16=true:=by decide
  rw[e] at hf
  unfold fitsB at hf
  rw[b2,b8,b16] at hf
  split at hf
  ·cases hf
  ·split at hf
   ·cases hf
   ·simp at hf
    exact hf.1
 ·have e:shapeTab.getD (9:Int).toNat 0=32:=by decide
  have b2:hasB 32 2=false:=by decide
  have b8:hasB 32 8=false:=by decide
  have b16:hasB 32 16=false:=by decide
  have b32:hasB 32 32=true:=by decide
  rw[e] at hf
  unfold fitsB at hf
  rw[b2,b8,b16,b32] at hf
  split at hf
  ·cases hf
  ·split at hf
   ·cases hf
   ·simp at hf
    exact hf.1
def wordT (n:Int):Txt:=[109,97,114,107,32]++Lib.itoa n
theorem itoa_shortest (n:Int)(h0 : -1000000≤n)(h1:n≤1000000):(Lib.itoa n).length≤8:=by
 rcases Nat.lt_or_ge 8 (Lib.itoa n).length with h | h
 ·rcases (itoa_long n).1 h with h2 | h2 <;> omega
 ·exact h
theorem word_any (n:Int) (h0 : -1000000≤n) (h1:n≤1000000) (w:World) (hT:Tabs w) :
 Calls Tryz.prog 103 #[.int .i64 n] w λe w'=>e=.returned (str (wordT n))∧Fresh w w':=by
 have HI:=hdz (itoa_any n (by omega) (by omega) w hT)
 have hl:=itoa_shortest n h0 h1
 obtain⟨t,ht⟩:=exz (Lib.itoa n)
 have hw:wordT n=[109,97,114,107,32]++t:=by rw[ht];rfl
 rw[hw]
 rw[←ht] at HI hl
 clear ht hw hT
 go_enter Tryz.func103,Tryz.ntmps103
 go_wp2_with fail
 refine Calls.mono HI.out ?_
 rintro e w1 ⟨rfl,hf⟩
 have HF:=hdz hf
 clear hf HI
 go_wp2_with fail
 go_ret
 refine⟨?_,HF.out⟩
 have e:((⟨#[109,97,114,107,32]⟩:ByteArray)++⟨t.toArray⟩)=⟨([109,97,114,107,32]++t).toArray⟩:=by
  apply ByteArray.ext
  rw[ByteArray.data_append]
  simp
 simpa[str] using e
theorem samepairs_eq (Z1 Z2:Nat→Prop) (A1 A2:Option Addr) (n c1 c2:Nat) (l:List (Txt×Txt)) (w:World) (h1:Rd w Z1 2 A1 n (pcells l)) (h2:Rd w Z2 2 A2 n (pcells l)) (hn:n≤1000000) :
 Calls Tryz.prog 65 #[.slice A1 n c1,.slice A2 n c2] w λe w'=>e=.returned (.bool true)∧Fresh w w':=by
 have HA:=hdz (aiz h1 h2)
 clear h1 h2
 go_enter Tryz.func65,Tryz.ntmps65
 go_wp2_with fail
 go_loopw [5] (λi wr=>∃ (k d:Nat),k≤n∧i=.int .i64 (k:Int)∧wr=w.drewN d) (λi _=>n - (intOf i).toNat)
 case atStart=>exact⟨0,0,Nat.zero_le _,rfl,rfl⟩
 case round=>
  obtain⟨k,d,hk,rfl,rfl⟩:=hrel
  by_cases hlt:k<n
  ·obtain⟨hl,b1,o1,rfl,-,e1,f1⟩:=HA.out.1.pairE hlt
   obtain⟨hl2,b2,o2,rfl,-,e2,f2⟩:=HA.out.2.pairE hlt
   obtain⟨⟨x,y⟩,hx⟩:∃x,x=l[k]:=⟨_,rfl⟩
   rw[←hx] at e1 e2 f1 f2
   simp only at e1 e2 f1 f2
   clear hx hl hl2
   have lb1:=lt_of_cell e1
   have lb2:=lt_of_cell e2
   have hki:(k:Int)<(n:Int):=by omega
   go_wp2_with fail
   go_quiet (fail)
   go_wp2_with fail
   exact⟨⟨k+1,_,by omega,congrArg _ (by omega),rfl⟩,by simp[intOf];omega⟩
  ·obtain rfl:k=n:=by omega
   go_wp2_with fail
   go_ret
   exact⟨rfl,(krz _ w).drewN _⟩
theorem samewaits_eq (Z1 Z2:Nat→Prop) (A1 A2:Option Addr) (n c1 c2:Nat) (l:List (Int×Int)) (w:World) (h1:Rd w Z1 2 A1 n (wcells l)) (h2:Rd w Z2 2 A2 n (wcells l)) (hn:n≤1000000) :
 Calls Tryz.prog 87 #[.slice A1 n c1,.slice A2 n c2] w λe w'=>e=.returned (.bool true)∧Fresh w w':=by
 have hcell:∀ {Z:Nat→Prop} {A:Option Addr},Rd w Z 2 A n (wcells l)→∀k,k<n→∃ (hl:k<l.length) (b o:Nat),A=some ⟨b,o,none⟩∧w.cell? ⟨b,o+k*2,none⟩=some (.int .i64 l[k].1)∧w.cell? ⟨b,o+k*2+1,none⟩=some (.int .i64 l[k].2):=fun {Z A} h k hk=>by
  have hl:k<l.length:=by
   have:=h.1
   rw[rcells_len (f:=waitC) (c:=2) (λ_=>rfl)] at this
   omega
  obtain⟨b,o,hA,-,hc⟩:=h.2 (by omega)
  have hg:∀j u,j<2→(waitC l[k])[j]?=some u→w.cell? ⟨b,o+k*2+j,none⟩=some u:=λj u hj hu=>by
   have:=hc (k*2+j) u (by rw[rcells_get (f:=waitC) (c:=2) (λ_=>rfl) l k hl j hj];exact hu)
   rwa [←Nat.add_assoc] at this
  exact⟨hl,b,o,hA,hg 0 _ (by omega) rfl,hg 1 _ (by omega) rfl⟩
 have HA:=hdz (aiz (hcell h1) (hcell h2))
 clear h1 h2 hcell
 go_enter Tryz.func87,Tryz.ntmps87
 go_wp2_with fail
 go_loopw [5] (λi wr=>∃ (k d:Nat),k≤n∧i=.int .i64 (k:Int)∧wr=w.drewN d) (λi _=>n - (intOf i).toNat)
 case atStart=>exact⟨0,0,Nat.zero_le _,rfl,rfl⟩
 case round=>
  obtain⟨k,d,hk,rfl,rfl⟩:=hrel
  by_cases hlt:k<n
  ·obtain⟨hl,b1,o1,rfl,e1,f1⟩:=HA.out.1 k hlt
   obtain⟨hl2,b2,o2,rfl,e2,f2⟩:=HA.out.2 k hlt
   obtain⟨⟨x,y⟩,hx⟩:∃x,x=l[k]:=⟨_,rfl⟩
   rw[←hx] at e1 e2 f1 f2
   simp only at e1 e2 f1 f2
   clear hx hl hl2
   have lb1:=lt_of_cell e1
   have lb2:=lt_of_cell e2
   have hki:(k:Int)<(n:Int):=by omega
   go_wp2_with fail
   go_quiet (fail)
   go_wp2_with fail
   exact⟨⟨k+1,_,by omega,congrArg _ (by omega),rfl⟩,by simp[intOf];omega⟩
  ·obtain rfl:k=n:=by omega
   go_wp2_with fail
   go_ret
   exact⟨rfl,(krz _ w).drewN _⟩
theorem samenames_eq (Z1 Z2:Nat→Prop)(A1 A2:Option Addr)(n c1 c2:Nat)(l:List Txt)(w:World)(h1:Rd w Z1 1 A1 n (l.map str))(h2:Rd w Z2 1 A2 n (l.map str))(hn:n≤1000000) :
 Calls Tryz.prog 33 #[.slice A1 n c1,.slice A2 n c2] w λe w'=>e=.returned (.bool true)∧Fresh w w':=by
 refine (samenames_any Z1 Z2 A1 A2 n c1 n c2 l l w h1 h2 (by omega) (by omega)).mono ?_
 rintro e w' ⟨rfl,k,rfl⟩
 exact⟨by simp,(krz _ w).drewN k⟩
abbrev pgA (A1 A2 A3 A4 A5 A6 A7 A8 A9:Option Addr)(n1 c1 n2 c2 n3 c3 n4 c4 n5 c5 n6 c6 n7 c7 n8 c8 n9 c9:Nat)(mk:Int)(dn:Bool):Array Value:=#[.slice A1 n1 c1,.slice A2 n2 c2,.slice A3 n3 c3,.slice A4 n4 c4,.slice A5 n5 c5,.slice A6 n6 c6,.slice A7 n7 c7,.slice A8 n8 c8,.slice A9 n9 c9,.int .i64 mk,.bool dn]
theorem at_any {A1 A2 A3 A4 A5 A6 A7 A8 A9:Option Addr} {n1 c1 n2 c2 n3 c3 n4 c4 n5 c5 n6 c6 n7 c7 n8 c8 n9 c9:Nat} {dn:Bool} (mk i n:Int) (hm0:0≤mk) (hm1:mk≤100000) (hi0:0≤i) (hi1:i≤1000) (hn0:0≤n) (hn1:n≤1000) (w:World) :
 Calls Tryz.prog 135 #[.agg (pgA A1 A2 A3 A4 A5 A6 A7 A8 A9 n1 c1 n2 c2 n3 c3 n4 c4 n5 c5 n6 c6 n7 c7 n8 c8 n9 c9 mk dn),.int .i64 i,.int .i64 n] w λe w'=>e=.returned (.int .i64 (if i<n then mk+i else -mk - (i - n)))∧Fresh w w':=by
 obtain⟨r,hr⟩:=exz ((if i<n then mk+i else -mk - (i - n)))
 rw[←hr]
 go_enter Tryz.func135,Tryz.ntmps135
 have hb:=Blk.new w 129 (pgA A1 A2 A3 A4 A5 A6 A7 A8 A9 n1 c1 n2 c2 n3 c3 n4 c4 n5 c5 n6 c6 n7 c7 n8 c8 n9 c9 mk dn)
 have hf:Fresh w (w.alloc (.cells (pgA A1 A2 A3 A4 A5 A6 A7 A8 A9 n1 c1 n2 c2 n3 c3 n4 c4 n5 c5 n6 c6 n7 c7 n8 c8 n9 c9 mk dn) 129)):=(krz _ w).alloc _
 go_upto_region 1 with (fail)
 generalize hw1:World.alloc w _=w1
 obtain⟨g,hg⟩:=exz (w.heap.size)
 have hb1:Blk w1 g 129 (pgA A1 A2 A3 A4 A5 A6 A7 A8 A9 n1 c1 n2 c2 n3 c3 n4 c4 n5 c5 n6 c6 n7 c7 n8 c8 n9 c9 mk dn):=by rw[←hw1];exact Blk.newAt hg.symm
 have hf1:Fresh w w1:=by rw[←hw1];exact (krz _ w).alloc _
 rw[←hg]
 have x9:=hb1.cell 9
 simp at x9
 have lg:=hb1.lt
 have HF:=hdz hf1
 clear hb hf hb1 hf1 hw1 hg
 by_cases hlt:i<n
 ·have hr2:r=mk+i:=by rw[hr,if_pos hlt]
  have HR:=hdz hr2
  clear hr hr2
  go_wp2_with fail
  go_ret
  exact⟨by rw[HR.out];rfl,HF.out⟩
 ·have hr2:r = -mk - (i - n):=by rw[hr,if_neg hlt]
  have HR:=hdz hr2
  clear hr hr2
  go_wp2_with fail
  go_ret
  exact⟨by rw[HR.out];rfl,HF.out⟩
theorem xor_u8 (a b:Int):∃c:UInt8,bits .xor .u8 a b=(c.toNat:Int):=by
 refine⟨UInt8.ofNat (bits .xor .u8 a b).toNat,?_⟩
 have h:bits .xor .u8 a b=IntKind.u8.wrap ((BitVec.ofInt 8 a ^^^ BitVec.ofInt 8 b).toNat:Int):=rfl
 rw[h,IntKind.wrap_u8,UInt8.toNat_ofNat']
 omega
structure Pg where
 b:Value
 g:Value
 was:Value
 id:Int
 st:Nat
 now:List UInt8
def Pg.done (p:Pg):Bool:=p.st != 0
def Pg.cells (p:Pg):List Value:=[p.b,p.g,p.was,.int .i64 p.id,.bool p.done]
theorem pg_five (p:Pg):p.cells.length=5:=rfl
abbrev gcells (ps:List Pg):List Value:=rcells Pg.cells ps
theorem Pat_ex (id:Int)(k:Nat)(hk:k≤1099511627770):∃c:UInt8,∀w,Calls Tryz.prog 124 #[.int .i64 id,.int .i64 (k:Int)] w λe w'=>e=.returned (.int .u8 (c.toNat:Int))∧w=w':=by
 obtain⟨c,hc⟩:=xor_u8 (wrap64 (id+1) % 4294967296*2654435761 % 4294967296 / 2 ^ (8*(k % 4)) % 256) (↑k / 4 % 256)
 refine⟨c,λw=>?_⟩
 rw[←hc]
 clear hc
 go_enter Tryz.func124,Tryz.ntmps124
 go_wp2
 go_ret
 exact⟨rfl,rfl⟩
noncomputable def pat (id:Int)(k:Nat):UInt8:=if h:k≤1099511627770 then Classical.choose (Pat_ex id k h) else 0
theorem Pat_any (id:Int)(k:Nat)(hk:k≤1099511627770)(w:World):Calls Tryz.prog 124 #[.int .i64 id,.int .i64 (k:Int)] w λe w'=>e=.returned (.int .u8 ((pat id k).toNat:Int))∧w=w':=by
 unfold pat
 rw[dif_pos hk]
 exact Classical.choose_spec (Pat_ex id k hk) w
noncomputable def pats (id:Int)(n:Nat):List UInt8:=(List.range n).map (pat id)
theorem pats_len (id:Int)(n:Nat):(pats id n).length=n:=by simp[pats]
theorem pats_get (id:Int)(n k:Nat)(h:k<(pats id n).length):(pats id n)[k]=pat id k:=by simp[pats]
theorem pats_succ (id:Int)(n:Nat):pats id (n+1)=pats id n++[pat id n]:=by simp[pats,List.range_succ]
theorem pats_set (id:Int)(k:Nat)(l:List UInt8)(hk:k<l.length):(pats id k++l.drop k).set k (pat id k)=pats id (k+1)++l.drop (k+1):=by
 rw[List.set_append_right _ _ (by rw[pats_len];exact lrz _),pats_len,Nat.sub_self,List.drop_eq_getElem_cons hk,zp2,pats_succ,List.append_assoc]
 rfl
theorem byteCells_set (l:List UInt8)(k:Nat)(c:UInt8):(Lib.byteCells l).set k (.int .u8 (c.toNat:Int))=Lib.byteCells (l.set k c):=by simp[Lib.byteCells,List.map_set]
structure PlH where
 p0:Value
 p1:Value
 p2:Value
 d0:Value
 d1:Value
 d2:Value
 l:Value
abbrev bookC (q:PlH)(V:Value)(nx:Int):Array Value:=#[q.p0,q.p1,q.p2,q.d0,q.d1,q.d2,V,.slice none 0 0,.int .i64 nx,q.l]
structure Pg.ok (w:World)(B:Nat)(p:Pg):Prop where
 own:w.ownsRow B 5 1 p.b p.now.length (Lib.byteCells p.now)
 len:p.now.length≤1099511627000
 idl:0≤p.id
 idh:p.id≤1000000
 stl:p.st≤2
 kept:p.st=0→w.ownsRow B 5 1 p.was p.now.length (Lib.byteCells p.now)
 full:0<p.st→p.now=pats p.id p.now.length
 long:p.st=2→w.ownsRow B 5 1 p.g (p.now.length+64) (Lib.byteCells (p.now++pats (p.id+100000) 64))
def Pg.blk (p:Pg)(k:Nat):Prop:=p.b.ownBlock=some k∨(p.st=0∧p.was.ownBlock=some k)∨(p.st=2∧p.g.ownBlock=some k)
section
variable {w w':World}{Hd:PlH}{B K:Nat}{S S' Z:Nat→Prop}{V:Value}{nx:Int}{p q:Pg}{ps:List Pg}
theorem Pg.ok.keep (h:p.ok w B)(hk:Keep Z w w')(hz:∀k,p.blk k→Z k):p.ok w' B:=
 ⟨own_keep h.own hk (λk e=>hz k (.inl e)),h.len,h.idl,h.idh,h.stl,λs=>own_keep (h.kept s) hk (λk e=>hz k (.inr (.inl ⟨s,e⟩))),h.full,λs=>own_keep (h.long s) hk (λk e=>hz k (.inr (.inr ⟨s,e⟩)))⟩
theorem Pg.ok.lt (h:p.ok w B){k:Nat}(hk:p.blk k):k<w.heap.size:=by
 rcases hk with e | ⟨s,e⟩ | ⟨s,e⟩
 ·exact (own_lt h.own e).2
 ·exact (own_lt (h.kept s) e).2
 ·exact (own_lt (h.long s) e).2
theorem own_ne_own {b1 b2 e1 e2 s1 s2 n1 n2:Nat} {v1 v2:Value} {xs1 xs2:List Value} (h1:w.ownsRow b1 e1 s1 v1 n1 xs1) (h2:w.ownsRow b2 e2 s2 v2 n2 xs2) (hne:e1≠e2) {k:Nat} (hk:v1.ownBlock=some k):v2.ownBlock≠some k:=by
 intro hk2
 rcases h1.2 with ⟨rfl,_⟩ | ⟨g,cap,cur,rfl,_,hh,_⟩
 ·simp[Value.ownBlock] at hk
 ·rcases h2.2 with ⟨rfl,_⟩ | ⟨g2,cap2,cur2,rfl,_,hh2,_⟩
  ·simp[Value.ownBlock] at hk2
  ·simp[Value.ownBlock] at hk hk2
   subst hk hk2
   rw[hh] at hh2
   injection hh2 with hh2
   injection hh2 with _ ht
   exact hne ht
theorem Pg.ok.not_blk (h:p.ok w B){g:Nat}{t:TypeId}{cs:Array Value}(hg:Blk w g t cs)(hne:5≠t):¬p.blk g:=by
 rintro (e | ⟨s,e⟩ | ⟨s,e⟩)
 ·exact own_ne_blk h.own hg hne e
 ·exact own_ne_blk (h.kept s) hg hne e
 ·exact own_ne_blk (h.long s) hg hne e
theorem Pg.ok.not_own (h:p.ok w B){b n sz:Nat}{t:TypeId}{v:Value}{xs:List Value}(hv:w.ownsRow b t sz v n xs)(hne:t≠5){k:Nat}(hk:v.ownBlock=some k):¬p.blk k:=by
 rintro (e | ⟨s,e⟩ | ⟨s,e⟩)
 ·exact own_ne_own hv h.own hne hk e
 ·exact own_ne_own hv (h.kept s) hne hk e
 ·exact own_ne_own hv (h.long s) hne hk e
structure BookIs (w:World)(Hd:PlH)(B K:Nat)(S:Nat→Prop)(V:Value)(nx:Int)(ps:List Pg):Prop where
 blk:Blk w K 83 (bookC Hd (V) nx)
 row:w.ownsRow B 161 5 V ps.length (gcells ps)
 pages:∀p∈ps,p.ok w B
 apart:ps.Pairwise λp q=>∀k,p.blk k→¬q.blk k
 len:ps.length≤96
 nlo:0≤nx
 nhi:nx≤(ps.length:Int)
 inK:S K
 inV:∀k,V.ownBlock=some k→S k
 inP:∀p∈ps,∀k,p.blk k→S k
def BookOk (w:World)(Hd:PlH)(B K:Nat)(S:Nat→Prop):Prop:=∃V nx ps,BookIs w Hd B K S V nx ps∧∀p∈ps,p.st≠1
theorem BookIs.keep (h:BookIs w Hd B K S V nx ps)(hk:Keep Z w w')(hz:∀k,S k→Z k):BookIs w' Hd B K S V nx ps:=
 ⟨h.blk.keep hk (hz _ h.inK),own_keep h.row hk (λk e=>hz k (h.inV k e)),λp hp=>(h.pages p hp).keep hk (λk e=>hz k (h.inP p hp k e)),h.apart,h.len,h.nlo,h.nhi,h.inK,h.inV,h.inP⟩
theorem BookIs.weaken (h:BookIs w Hd B K S V nx ps)(hs:∀k,S k→S' k):BookIs w Hd B K S' V nx ps:=
 ⟨h.blk,h.row,h.pages,h.apart,h.len,h.nlo,h.nhi,hs _ h.inK,λk e=>hs k (h.inV k e),λp hp k e=>hs k (h.inP p hp k e)⟩
theorem BookOk.keep (h:BookOk w Hd B K S)(hk:Keep Z w w')(hz:∀k,S k→Z k):BookOk w' Hd B K S:=by
 obtain⟨V,nx,ps,h,hst⟩:=h
 exact⟨V,nx,ps,h.keep hk hz,hst⟩
theorem pair_at {α:Type}{R:α→α→Prop}(hsym:∀a b,R a b→R b a){l:List α}(h:l.Pairwise R){i j:Nat}(hi:i<l.length)(hj:j<l.length)(hij:i≠j):R l[i] l[j]:=by
 rw[List.pairwise_iff_getElem] at h
 rcases Nat.lt_or_ge i j with h1 | h1
 ·exact h i j hi hj h1
 ·exact hsym _ _ (h j i hj hi (by omega))
theorem apart_sym (p q:Pg)(h:∀k,p.blk k→¬q.blk k):∀k,q.blk k→¬p.blk k:=λk hq hp=>h k hp hq
theorem BookIs.turn (h:BookIs w Hd B K S V nx ps) {i:Nat} (hi:i<ps.length) (hq:q.ok w' B) (hrow:w'.ownsRow B 161 5 V ps.length (gcells (ps.set i q)))
 (hk:Keep (λk=>V.ownBlock≠some k∧¬ps[i].blk k) w w') (hqb:∀k,q.blk k→ps[i].blk k∨w.heap.size≤k) (hs:∀k,S k→S' k) (hqs:∀k,q.blk k→S' k):BookIs w' Hd B K S' V nx (ps.set i q):=by
 have hVp:∀p∈ps,∀k,p.blk k→V.ownBlock≠some k:=λp hp k e hv=>(h.pages p hp).not_own h.row (by decide) hv e
 have hget:∀j (hj:j<(ps.set i q).length),(j=i∧(ps.set i q)[j]=q)∨(j≠i∧∃hj':j<ps.length,(ps.set i q)[j]=ps[j]):=by
  intro j hj
  rw[List.length_set] at hj
  by_cases e:j=i
  ·subst e;exact .inl ⟨rfl,by simp⟩
  ·exact .inr ⟨e,hj,by rw[List.getElem_set_ne (λh=>e h.symm)]⟩
 refine⟨h.blk.keep hk ⟨own_ne_blk h.row h.blk (by decide),λe=>(h.pages _ (List.getElem_mem hi)).not_blk h.blk (by decide) e⟩,by simpa using hrow,?_,?_,by simpa using h.len,h.nlo,by simpa using h.nhi,hs _ h.inK,λk e=>hs k (h.inV k e),?_⟩
 ·intro p hp
  obtain⟨j,hj,rfl⟩:=List.getElem_of_mem hp
  rcases hget j hj with ⟨_,e⟩ | ⟨hne,hj',e⟩
  ·rw[e];exact hq
  ·rw[e]
   exact (h.pages _ (List.getElem_mem hj')).keep hk (λk hb=>⟨hVp _ (List.getElem_mem hj') k hb,pair_at apart_sym h.apart hj' hi hne k hb⟩)
 ·rw[List.pairwise_iff_getElem]
  intro a b ha hb hab k h1 h2
  rcases hget a ha with ⟨ea,e1⟩ | ⟨na,ha',e1⟩ <;> rcases hget b hb with ⟨eb,e2⟩ | ⟨nb,hb',e2⟩
  ·omega
  ·rw[e1] at h1
   rw[e2] at h2
   rcases hqb k h1 with h3 | h3
   ·exact pair_at apart_sym h.apart hi hb' (λe=>nb e.symm) k h3 h2
   ·have:=(h.pages _ (List.getElem_mem hb')).lt h2;omega
  ·rw[e1] at h1
   rw[e2] at h2
   rcases hqb k h2 with h3 | h3
   ·exact pair_at apart_sym h.apart ha' hi na k h1 h3
   ·have:=(h.pages _ (List.getElem_mem ha')).lt h1;omega
  ·rw[e1] at h1
   rw[e2] at h2
   exact pair_at apart_sym h.apart ha' hb' (by omega) k h1 h2
 ·intro p hp k hb
  obtain⟨j,hj,rfl⟩:=List.getElem_of_mem hp
  rcases hget j hj with ⟨_,e⟩ | ⟨hne,hj',e⟩
  ·rw[e] at hb;exact hqs k hb
  ·rw[e] at hb;exact hs k (h.inP _ (List.getElem_mem hj') k hb)
theorem BookIs.push {V':Value} (h:BookIs w Hd B K S V nx ps) (hq:q.ok w' B) (hblk:Blk w' K 83 (bookC Hd (V') (nx+1))) (hlen:ps.length<96)
 (hrow:w'.ownsRow B 161 5 V' (ps.length+1) (gcells (ps++[q])))
 (hk:Keep (λk=>k≠K∧V.ownBlock≠some k∧¬q.blk k) w w') (hqa:∀p∈ps,∀k,p.blk k→¬q.blk k) (hs:∀k,S k→S' k) (hqs:∀k,q.blk k→S' k) (hV:∀k,V'.ownBlock=some k→S' k):BookIs w' Hd B K S' V' (nx+1) (ps++[q]):=by
 have hVp:∀p∈ps,∀k,p.blk k→V.ownBlock≠some k:=λp hp k e hv=>(h.pages p hp).not_own h.row (by decide) hv e
 refine⟨hblk,by simpa using hrow,?_,?_,by simp;omega,by have:=h.nlo;omega,by have:=h.nhi;simp;omega,hs _ h.inK,hV,?_⟩
 ·intro p hp
  rcases List.mem_append.1 hp with hp | hp
  ·exact (h.pages p hp).keep hk (λk e=>⟨λe2=>(h.pages p hp).not_blk h.blk (by decide) (e2 ▸ e),hVp p hp k e,hqa p hp k e⟩)
  ·obtain rfl:p=q:=by simpa using hp
   exact hq
 ·rw[List.pairwise_append]
  refine⟨h.apart,by simp,λp hp q' hq'=>?_⟩
  obtain rfl:q'=q:=by simpa using hq'
  exact hqa p hp
 ·intro p hp k e
  rcases List.mem_append.1 hp with hp | hp
  ·exact hs k (h.inP p hp k e)
  ·obtain rfl:p=q:=by simpa using hp
   exact hqs k e
end
end Go.Proofs.YtlibhkehebioeaaGreatDoor
