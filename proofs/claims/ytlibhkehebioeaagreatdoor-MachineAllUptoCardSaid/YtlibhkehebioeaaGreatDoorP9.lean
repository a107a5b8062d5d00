/- A PART OF THE PROOF. No condition. -/
import Derived.Test.YtlibhkehebioeaaGreatDoorP1
import Derived.Test.YtlibhkehebioeaaGreatDoorP8
import Derived.Test.YtlibhkehebioeaaGreatDoorP6
import Derived.Test.YtlibhkehebioeaaGreatDoorP5
import Derived.Test.YtlibhkehebioeaaGreatDoorP4
import Derived.Test.YtlibhkehebioeaaGreatDoorP7
import Derived.Test.YtlibhkehebioeaaGreatDoorP0
import Derived.Test.YtlibhkehebioeaaGreatDoorP3
import Derived.Test.YtlibhkehebioeaaGreatDoorP2
namespace Go.Proofs.YtlibhkehebioeaaGreatDoor
set_option linter.unusedVariables false
set_option linter.unusedSimpArgs false
set_option maxRecDepth 100000
set_option maxHeartbeats 40000000
open Go.RowKit
theorem num_any (z:Int)(w:World):Calls Tryz.prog 28 #[.int .i64 z] w λe w'=>e=.returned (.int .i64 z)∧w=w':=by
 go_enter Tryz.func28,Tryz.ntmps28
 go_wp2
 go_ret
 exact⟨rfl,rfl⟩
theorem copied_any (Z:Nat→Prop) (A:Option Addr) (n c:Nat) (bs:List UInt8) (w:World) (hb:Rd w Z 1 A n (Lib.byteCells bs)) (hn:n≤1099511627770) (hnil:n=0→c=0∨A≠none) :
 Calls Tryz.prog 91 #[.slice A n c] w λe w'=>(∃u,e=.returned u∧w'.ownsRow w.heap.size 5 1 u n (Lib.byteCells bs))∧Fresh w w':=by
 have HB:=hdz hb
 have HN:=hdz (aiz hn hnil)
 clear hb hn hnil
 go_enter Tryz.func91,Tryz.ntmps91
 have hown:(w.alloc (.cells #[] 5)).ownsRow w.heap.size 5 1 (.slice (some ⟨w.heap.size,0,none⟩) 0 0) 0 []:=
  ⟨rfl,.inr ⟨w.heap.size,0,#[],rfl,lrz _,heap_alloc_new w _,lrz _,by simp only[maxLen];omega,rfl,rfl⟩⟩
 have HO:=hdz hown
 clear hown
 go_wp2_with (at_builtin;refine wpList_app etU8 rfl (.tmp 3) (.tmp 4) rfl w.heap.size _ _ _ rfl HO.out Z A n c _ rfl (HB.out.keep (((krz Z w).alloc _))) HN.out.2 (bcs_one _) (by have:=HN.out.1;omega) (by simp) ?_)
 intro v' w' ho hk hnx
 have HX:=hdz (aiz ho hk)
 clear ho hk hnx
 go_wp2
 go_ret
 refine⟨⟨_,rfl,?_⟩,?_⟩
 ·have:=HX.out.1
  simpa using this
 ·exact ((krz _ w).alloc _).comp HX.out.2 (λ_ _ h=>h) (λi hi _=>by simp[Value.ownBlock];omega)
theorem Rd.byte {w:World}{Z:Nat→Prop}{A:Option Addr}{n k:Nat}{bs:List UInt8}(h:Rd w Z 1 A n (Lib.byteCells bs))(hk:k<n) :
 ∃b o x,A=some ⟨b,o,none⟩∧Z b∧∃ (hl:k<bs.length),x=(bs[k].toNat:Int)∧w.cell? ⟨b,o+k,none⟩=some (.int .u8 x):=by
 obtain⟨b,o,hA,hz,hl,hc⟩:=h.at1 hk
 have hl2:k<bs.length:=by simpa[Lib.byteCells] using hl
 exact⟨b,o,_,hA,hz,hl2,rfl,by rw[hc];simp[Lib.byteCells]⟩
theorem take_eq_step {l m:List UInt8}{k:Nat}(h:l.take k=m.take k)(hl:k<l.length)(hm:k<m.length)(he:l[k]=m[k]):l.take (k+1)=m.take (k+1):=by
 rw[List.take_succ_eq_append_getElem hl,List.take_succ_eq_append_getElem hm,h,he]
theorem toNat_inj {a b:UInt8}(h:(a.toNat:Int)=(b.toNat:Int)):a=b:=UInt8.toNat_inj.1 (by omega)
theorem same_any (Z1 Z2:Nat→Prop) (A1 A2:Option Addr) (n1 c1 n2 c2:Nat) (bs1 bs2:List UInt8) (w:World) (h1:Rd w Z1 1 A1 n1 (Lib.byteCells bs1)) (h2:Rd w Z2 1 A2 n2 (Lib.byteCells bs2)) (hn:n1≤1099511627770) (hn2:n2≤1099511627770) :
 Calls Tryz.prog 19 #[.slice A1 n1 c1,.slice A2 n2 c2] w λe w'=>e=.returned (.bool (decide (bs1=bs2)))∧∃k,w'=w.drewN k:=by
 have hl1:bs1.length=n1:=by simpa[Lib.byteCells] using h1.1
 have hl2:bs2.length=n2:=by simpa[Lib.byteCells] using h2.1
 obtain⟨r,hr⟩:=exz (decide (bs1=bs2))
 rw[←hr]
 by_cases hne:n1=n2
 ·subst hne
  have HA:=hdz (aiz h1 (aiz h2 (aiz hl1 (aiz hl2 hr))))
  clear h1 h2 hl1 hl2 hr
  go_enter Tryz.func19,Tryz.ntmps19
  go_wp2
  go_loopw [5] (λi wr=>∃ (k d:Nat),k≤n1∧i=.int .i64 (k:Int)∧wr=w.drewN d∧Hid (bs1.take k=bs2.take k)) (λi _=>n1 - (intOf i).toNat)
  case atStart=>exact⟨0,0,Nat.zero_le _,rfl,rfl,rfl⟩
  case round=>
   obtain⟨k,d,hk,rfl,rfl,HW⟩:=hrel
   by_cases hlt:k<n1
   ·obtain⟨b1,o1,x,rfl,-,g1,hx,e1⟩:=HA.out.1.byte hlt
    obtain⟨b2,o2,y,rfl,-,g2,hy,e2⟩:=HA.out.2.1.byte hlt
    have HX:=hdz (aiz hx hy)
    clear hx hy
    by_cases hxy:x=y
    ·have hs:=take_eq_step HW.out g1 g2 (toNat_inj (by rw[←HX.out.1,←HX.out.2,hxy]))
     have HS:=hdz hs
     clear hs HX HW g1 g2
     go_wp2_with fail
     go_quiet (fail)
     go_wp2_with fail
     exact⟨⟨k+1,_,by omega,congrArg _ (by omega),rfl,HS.out⟩,by simp[intOf];omega⟩
    ·have hf:r=false:=by
      rw[HA.out.2.2.2.2]
      refine decide_eq_false λh=>hxy ?_
      subst h
      rw[HX.out.1,HX.out.2]
     clear HX HW g1 g2
     subst hf
     go_wp2_with fail
     go_quiet (fail)
     go_wp2_with fail
     go_ret
     exact⟨rfl,_,World.drewN_drewN _ _ _⟩
   ·obtain rfl:k=n1:=by omega
    have ht:r=true:=by
     rw[HA.out.2.2.2.2]
     have:=HW.out
     rw[List.take_of_length_le (by rw[HA.out.2.2.1];exact lrz _),List.take_of_length_le (by rw[HA.out.2.2.2.1];exact lrz _)] at this
     exact decide_eq_true this
    subst ht
    clear HW
    go_wp2_with fail
    go_ret
    exact⟨rfl,_,rfl⟩
 ·have hf:r=false:=by
   rw[hr]
   exact decide_eq_false λh=>hne (by rw[←hl1,←hl2,h])
  subst hf
  have hne':¬((n1:Int)=(n2:Int)):=by omega
  clear hr h1 h2 hl1 hl2
  go_enter Tryz.func19,Tryz.ntmps19
  go_wp2_with fail
  go_ret
  exact⟨rfl,0,rfl⟩
theorem Nib.keep {Z:Nat→Prop}{w w':World}(h:Nib w)(hk:Keep Z w w')(hz:Z 0):Nib w':=var_keep gNib h hk hz
structure TabsN (W:World):Prop where
 t:Tabs W
 n:Nib W
theorem TabsN.fresh {W w:World}(h:TabsN W)(hk:Fresh W w):TabsN w:=⟨h.t.fresh hk,h.n.keep hk trivial⟩
structure MAt (B:Nat)(w:World)(F:Nat→Prop)(m:Nat)(s:StD):Prop where
 ex:∃bp bl,MSt (λj=>F j∧j≠m∧j≠bp) w m bp bl s∧F bp
 fm:F m
 lo:∀j,F j→B≤j
 hi:∀j,F j→j<w.heap.size
 inv:Inv s
section
variable {B:Nat}{w w':World}{F:Nat→Prop}{m:Nat}{s:StD}
theorem MAt.keep {Z:Nat→Prop}(h:MAt B w F m s)(hk:Keep Z w w')(hz:∀j,F j→Z j):MAt B w' F m s:=by
 obtain⟨bp,bl,hm,hb⟩:=h.ex
 exact⟨⟨bp,bl,hm.keep hk (hz m h.fm) (hz bp hb) (λj hj=>hz j hj.1),hb⟩,h.fm,h.lo,λj hj=>ltz (h.hi j hj) hk.size,h.inv⟩
theorem MAt.fresh (h:MAt B w F m s)(hk:Fresh w w'):MAt B w' F m s:=h.keep hk (λ_ _=>trivial)
theorem MAt.lower {B':Nat}(h:MAt B w F m s)(hb:B'≤B):MAt B' w F m s:=⟨h.ex,h.fm,λj hj=>lez hb (h.lo j hj),h.hi,h.inv⟩
theorem MAt.of {bp bl:Nat} {S:Nat→Prop} (hm:MSt S w m bp bl s) (hi:Inv s) (h1:B≤m) (h2:B≤bp) (h3:∀j,S j→j<w.heap.size→B≤j):MAt B w (λj=>j=m∨j=bp∨(S j∧j<w.heap.size)) m s:=
 ⟨⟨bp,bl,hm.tight.widen (λj hj=>⟨.inr (.inr hj),λe=>hm.nm (e ▸ hj.1),λe=>hm.nb (e ▸ hj.1)⟩) (λh=>h.2.1 rfl) (λh=>h.2.2 rfl),.inr (.inl rfl)⟩,.inl rfl,
  λj hj=>hj.elim (λe=>e ▸ h1) λhj=>hj.elim (λe=>e ▸ h2) λhj=>h3 j hj.1 hj.2,
  λj hj=>hj.elim (λe=>e ▸ hm.blk.lt) λhj=>hj.elim (λe=>e ▸ hm.pm.lt) λhj=>hj.2,hi⟩
end
theorem applyD_inv {c i r o:Int} {k v d:Txt} {s:StD} (h:Inv s):Inv (applyD c i r o k v d s).2:=by
 unfold applyD
 split
 ·rename_i hv
  exact (apply_ok h (vcmd_of hv)).2
 ·exact h
section
variable {B:Nat}{w:World}{F:Nat→Prop}{m:Nat}{s:StD}
theorem mat_new (w:World):Calls Tryz.prog 14 #[] w λe w'=>(∃ (m:Nat) (F:Nat→Prop),e=.returned (.pointer (some ⟨m,0,none⟩))∧MAt w.heap.size w' F m newD)∧Fresh w w':=by
 refine (newm_any w).mono ?_
 rintro e w' ⟨⟨m,bp,bl,rfl,hm,h1,h2,h3⟩,hf⟩
 exact⟨⟨m,_,rfl,MAt.of hm inv_new h1 h2 (λj hj _=>by rw[hj];exact h3)⟩,hf⟩
theorem mat_apply {W:World} (hT:TabsN W) (hf:Fresh W w) (h:MAt W.heap.size w F m s) (c i r o:Int) (k v d:Txt) :
 Calls Tryz.prog 17 #[.pointer (some ⟨m,0,none⟩),cmdV c i r o k v d] w λe w'=>
  e=.returned (resV (applyD c i r o k v d s).1)∧(∃F':Nat→Prop,MAt W.heap.size w' F' m (applyD c i r o k v d s).2∧(∀j,F' j→F j∨w.heap.size≤j))∧Keep (λj=>¬F j) w w'∧Fresh W w':=by
 obtain⟨bp,bl,hm,hb⟩:=h.ex
 have hT0:=hT.fresh hf
 refine (appl_any _ m bp bl s c i r o k v d w hm h.inv.lk h.inv.pr hT0.t (λw' hk=>hT.t.fresh ?_)).mono ?_
 ·exact hf.comp hk (λ_ _ _=>trivial) (λj hj _=>⟨λe=>by have:=h.lo m h.fm;omega,λe=>by have:=h.lo bp hb;omega,λe=>by have:=h.lo j e.1;omega⟩)
 ·rintro e w' ⟨he,hst,hk⟩
  have hkF:Keep (λj=>¬F j) w w':=hk.weaken λj _ hj=>⟨λe=>hj (e ▸ h.fm),λe=>hj (e ▸ hb),λe=>hj e.1⟩
  refine⟨he,⟨_,MAt.of hst (applyD_inv h.inv) (h.lo m h.fm) (h.lo bp hb) (λj hj _=>?_),λj hj=>?_⟩,hkF,hf.comp hkF (λ_ _ _=>trivial) (λj hj _ e=>by have:=h.lo j e;omega)⟩
  ·rcases hj with hj | hj
   ·exact h.lo j hj.1
   ·exact lez hf.size hj
  ·rcases hj with rfl | rfl | ⟨hj | hj,_⟩
   ·exact .inl h.fm
   ·exact .inl hb
   ·exact .inl hj.1
   ·exact .inr hj
theorem mat_snap (hT:TabsN w)(h:MAt B w F m s) :
 Calls Tryz.prog 16 #[.pointer (some ⟨m,0,none⟩)] w λe w'=>(∃v,e=.returned v∧w'.ownsRow w.heap.size 5 1 v (snapB s).length (Lib.byteCells (snapB s)))∧Fresh w w':=by
 obtain⟨bp,bl,hm,hb⟩:=h.ex
 exact snapshot_any _ m bp bl s w hm h.inv hT.n (λw' hf=>(hT.fresh hf).n)
theorem mat_get (h:MAt B w F m s)(k:Txt)(hk:k.length≤1099511627776) :
 Calls Tryz.prog 32 #[.pointer (some ⟨m,0,none⟩),str k] w λe w'=>e=.returned (.tuple #[str ((pfind k s.pairs).getD []),.bool (pfind k s.pairs).isSome])∧w=w':=by
 obtain⟨bp,bl,hm,hb⟩:=h.ex
 exact get_any m bp s.pairs k w hm.three.1 hm.pm hk
theorem mat_holder (h:MAt B w F m s)(k:Txt)(hk:k.length≤1099511627776) :
 Calls Tryz.prog 26 #[.pointer (some ⟨m,0,none⟩),str k] w λe w'=>e=.returned (.tuple #[.agg (holdA (holdD k s).1),.bool (holdD k s).2])∧Fresh w w':=by
 obtain⟨bp,bl,hm,hb⟩:=h.ex
 exact holder_any _ m bp bl s k w hm h.inv.lk hk
theorem mat_session (h:MAt B w F m s)(q:Int) :
 Calls Tryz.prog 20 #[.pointer (some ⟨m,0,none⟩),.int .i64 q] w λe w'=>e=.returned (.tuple #[sesV (sessD q s).1,.bool (sessD q s).2])∧Fresh w w':=by
 obtain⟨bp,bl,hm,hb⟩:=h.ex
 exact session_any _ m bp bl s q w hm
theorem mat_locks (h:MAt B w F m s) :
 Calls Tryz.prog 31 #[.pointer (some ⟨m,0,none⟩)] w λe w'=>(∃v,e=.returned v∧w'.ownsRow w.heap.size 9 1 v s.locks.length ((s.locks.map LockD.name).map str))∧Fresh w w':=by
 obtain⟨bp,bl,hm,hb⟩:=h.ex
 exact locks_any _ m bp bl s w hm h.inv.lk
theorem mat_pairs (h:MAt B w F m s) :
 Calls Tryz.prog 30 #[.pointer (some ⟨m,0,none⟩)] w λe w'=>(∃v,e=.returned v∧w'.ownsRow w.heap.size 71 2 v s.pairs.length (pcells s.pairs))∧Fresh w w':=by
 obtain⟨bp,bl,hm,hb⟩:=h.ex
 exact pairs_any _ m bp bl s w hm h.inv.pr
theorem mat_waiting (h:MAt B w F m s)(k:Txt)(hk:k.length≤1099511627776) :
 Calls Tryz.prog 37 #[.pointer (some ⟨m,0,none⟩),str k] w λe w'=>(∃v,e=.returned v∧w'.ownsRow w.heap.size 115 2 v (waitD k s).length (wcells (waitD k s)))∧Fresh w w':=by
 obtain⟨bp,bl,hm,hb⟩:=h.ex
 exact waiting_any _ m bp bl s k w hm h.inv.lk hk
end
theorem Rd.front {w:World} {Z:Nat→Prop} {A:Option Addr} {n:Nat} {xs:List Value} (h:Rd w Z 1 A n xs) (m:Nat) (hm:m≤n):Rd w Z 1 A m (xs.take m):=by
 refine⟨by have:=h.1;simp;omega,λhp=>?_⟩
 obtain⟨b,o,e,hb,hc⟩:=h.2 (by omega)
 refine⟨b,o,e,hb,λj u hu=>hc j u ?_⟩
 have hj:j<m:=by
  rcases Nat.lt_or_ge j m with h1 | h1
  ·exact h1
  ·rw[List.getElem?_eq_none (by rw[List.length_take];omega)] at hu
   cases hu
 rw[List.getElem?_take_of_lt hj] at hu
 exact hu
theorem four_of {α:Type}{l:List α}(h:l.length=4):∃a b c d,l=[a,b,c,d]:=by
 match l,h with
 | [a,b,c,d],_=>exact⟨a,b,c,d,rfl⟩
def sealTo (sm:Nat)(ts:Txt)(k:Nat):Prop:=∀j,j<k→∃h:j<ts.length,(ts[j]).toNat=sm / 256 ^ j % 256
theorem seal_all {sm:Nat} {bs ts:Txt} (hs:sm=crcB bs) (h4:ts.length=4):sealTo sm ts 4↔ts=sumB bs:=by
 obtain⟨a,b,c,d,rfl⟩:=four_of h4
 have hlt:=crcB_lt bs
 rw[←hs] at hlt
 have ha:=a.toNat_lt
 have hb:=b.toNat_lt
 have hc:=c.toNat_lt
 have hd:=d.toNat_lt
 constructor
 ·intro h
  obtain⟨_,h0⟩:=h 0 (by omega)
  obtain⟨_,h1⟩:=h 1 (by omega)
  obtain⟨_,h2⟩:=h 2 (by omega)
  obtain⟨_,h3⟩:=h 3 (by omega)
  simp at h0 h1 h2 h3
  rw[sumB_iff,←hs]
  omega
 ·intro h
  rw[sumB_iff,←hs] at h
  intro j hj
  refine⟨by simp;omega,?_⟩
  have:j=0∨j=1∨j=2∨j=3:=by omega
  rcases this with rfl | rfl | rfl | rfl <;> simp <;> omega
def SealPost (bs:Txt)(e:Ending):Prop:=∃r:Bool,e=.returned (.bool r)∧(r=true↔sealedB bs)
theorem sealed_any (Z:Nat→Prop) (A:Option Addr) (n c:Nat) (bs:Txt) (w:World) (hb:Rd w Z 1 A n (Lib.byteCells bs)) (hn:n≤1099511627770) (hnc:n≤c) (hT:Nib w) :
 Calls Tryz.prog 48 #[.slice A n c] w λe w'=>SealPost bs e∧w=w':=by
 have hlen:bs.length=n:=by simpa[Lib.byteCells] using hb.1
 have HB:=hdz (aiz hb hlen)
 have HT:=hdz hT
 by_cases h11:n<11
 ·clear hb hlen hT
  go_enter Tryz.func48,Tryz.ntmps48
  go_wp2
  go_ret
  exact⟨⟨false,rfl,by unfold sealedB;rw[HB.out.2];simp;intro h;omega⟩,rfl⟩
 ·obtain⟨b,o,rfl,-,hcl⟩:=hb.2 (by omega)
  have hcell:∀j,(hj:j<bs.length)→w.cell? ⟨b,o+j,none⟩=some (.int .u8 ((bs[j]).toNat:Int)):=λj hj=>hcl j _ (by simp[Lib.byteCells,hj])
  obtain⟨x0,hx0⟩:∃x:Nat,x=(bs[0]'(by omega)).toNat:=⟨_,rfl⟩
  obtain⟨x1,hx1⟩:∃x:Nat,x=(bs[1]'(by omega)).toNat:=⟨_,rfl⟩
  obtain⟨x2,hx2⟩:∃x:Nat,x=(bs[2]'(by omega)).toNat:=⟨_,rfl⟩
  have c0:=hcell 0 (by omega)
  have c1:=hcell 1 (by omega)
  have c2:=hcell 2 (by omega)
  rw[←hx0,Nat.add_zero] at c0
  rw[←hx1] at c1
  rw[←hx2] at c2
  have h3:sealedB bs→x0=81∧x1=83∧x2=1:=λh=>by
   have e:=h.2.1
   have e0:=congrArg (λl=>l[0]?) e
   have e1:=congrArg (λl=>l[1]?) e
   have e2:=congrArg (λl=>l[2]?) e
   simp[headB,show 0<bs.length by omega,show 1<bs.length by omega,show 2<bs.length by omega] at e0 e1 e2
   rw[hx0,hx1,hx2,e0,e1,e2]
   exact⟨rfl,rfl,rfl⟩
  have h3':x0=81→x1=83→x2=1→bs.take 3=headB:=λa0 a1 a2=>by
   have f0:bs[0]'(by omega)=81:=UInt8.toNat_inj.1 (by rw[←hx0,a0];rfl)
   have f1:bs[1]'(by omega)=83:=UInt8.toNat_inj.1 (by rw[←hx1,a1];rfl)
   have f2:bs[2]'(by omega)=1:=UInt8.toNat_inj.1 (by rw[←hx2,a2];rfl)
   refine List.ext_getElem? λj=>?_
   by_cases hj:j<3
   ·have:j=0∨j=1∨j=2:=by omega
    rcases this with rfl | rfl | rfl
    ·rw[List.getElem?_take_of_lt (by omega),List.getElem?_eq_getElem (by omega),f0];rfl
    ·rw[List.getElem?_take_of_lt (by omega),List.getElem?_eq_getElem (by omega),f1];rfl
    ·rw[List.getElem?_take_of_lt (by omega),List.getElem?_eq_getElem (by omega),f2];rfl
   ·rw[List.getElem?_eq_none (by simp;omega),List.getElem?_eq_none (by simp[headB];omega)]
  have H3:=hdz (aiz h3 (aiz h3' hcell))
  clear hb hlen hT hcl hx0 hx1 hx2 h3 h3' hcell
  by_cases g0:x0=81
  ·subst g0
   by_cases g1:x1=83
   ·subst g1
    by_cases g2:x2=1
    ·subst g2
     go_enter Tryz.func48,Tryz.ntmps48
     have HS:=hdz (sum_any Z (some ⟨b,o,none⟩) (n - 4) c (bs.take (n - 4)) w (by have h1:=HB.out.1.front (n - 4) (by omega);simpa[Lib.byteCells,List.map_take] using h1) (by omega) HT.out)
     obtain⟨sm,hsm⟩:=exz (crcB (bs.take (n - 4)))
     have hs32:sm<4294967296:=hsm ▸ crcB_lt _
     rw[←hsm] at HS
     have HM:=hdz hsm
     clear hsm
     go_wp2_with fail
     refine Calls.mono HS.out ?_
     rintro e _ ⟨rfl,rfl⟩
     clear HS
     go_wp2_with fail
     obtain⟨ts,hts⟩:=exz (bs.drop (n - 4))
     have h4:ts.length=4:=by rw[hts,List.length_drop,HB.out.2];omega
     have HD:Hid (sealTo sm ts 4↔sealedB bs):=hdz (by
      rw[seal_all HM.out h4,hts]
      unfold sealedB
      rw[HB.out.2]
      exact⟨λh=>⟨by omega,H3.out.2.1 (by simp) (by simp) (by simp),h⟩,λh=>h.2.2⟩)
     have hcT:∀j,(hj:j<4)→w.cell? ⟨b,o+(n - 4)+j,none⟩=some (.int .u8 ((ts[j]'(by omega)).toNat:Int)):=λj hj=>by
      have h1:=H3.out.2.2 (n - 4+j) (by have:=HB.out.2;omega)
      rw[←Nat.add_assoc] at h1
      rw[h1]
      congr 4
      simp[hts]
     have hi0:0≤(sm:Int):=by omega
     have hi1:(sm:Int)<4294967296:=by omega
     have hn4:n - (n - 4)=4:=by omega
     obtain⟨o2,ho2⟩:=exz (o+(n - 4))
     obtain⟨c2',hc2⟩:∃c2,c2=c - (n - 4):=⟨_,rfl⟩
     rw[←ho2] at hcT
     rw[hn4,←ho2,←hc2]
     have HC:=hdz hcT
     clear hcT hts H3 c0 c1 c2 HM hn4 ho2 hc2
     go_loop [39] (λi=>∃k:Nat,k≤4∧i=.int .i64 (k:Int)∧Hid (sealTo sm ts k)) (λi=>4 - (intOf i).toNat)
     case atStart=>exact⟨0,by omega,rfl,λj hj=>absurd hj (by omega)⟩
     case round=>
      obtain⟨k,hk,rfl,HK⟩:=hrel
      by_cases hlt:k<4
      ·have ck:=HC.out k hlt
       obtain⟨x,hx⟩:∃x:Nat,x=(ts[k]'(by omega)).toNat:=⟨_,rfl⟩
       rw[←hx] at ck
       have hx256:x<256:=hx ▸ (ts[k]'(by omega)).toNat_lt
       have HX:=hdz hx
       have hstep:x=sm / 256 ^ k % 256→sealTo sm ts (k+1):=λe j hj=>by
        rcases Nat.lt_or_ge j k with h1 | h1
        ·exact HK.out j h1
        ·obtain rfl:j=k:=by omega
         exact⟨by omega,by rw[←HX.out];exact e⟩
       have hstop:x≠sm / 256 ^ k % 256→¬sealTo sm ts 4:=λe h=>by
        obtain⟨_,h1⟩:=h k hlt
        exact e (by rw[HX.out];exact h1)
       have HS:=hdz (aiz hstep hstop)
       clear hx hstep hstop
       have hki:(k:Int)<4:=by omega
       go_upto_region 7 with (fail)
       have hy:Hid (∀y:Int,y=(sm:Int) / 256 ^ k % 256→((x:Int) != y)=true→¬sealTo sm ts 4):=hdz λy hy h=>HS.out.2 λe=>by
        rw[hy,e] at h
        simp at h
       have hz:Hid (∀y:Int,y=(sm:Int) / 256 ^ k % 256→((x:Int) != y)=false→sealTo sm ts (k+1)):=hdz λy hy h=>HS.out.1 (by
        simp at h
        rw[hy] at h
        have:((sm / 256 ^ k % 256:Nat):Int)=(sm:Int) / 256 ^ k % 256:=by simp
        omega)
       clear ck HS hx256
       have hk8:0≤8*(k:Int):=by omega
       have hk9:8*(k:Int)≤64:=by omega
       obtain⟨kk,hkk⟩:∃kk:Int,kk=8*(k:Int):=⟨_,rfl⟩
       have hkw:IntKind.i64.wrap (8*(k:Int))=kk:=by rw[hkk];exact IntWalk.i64_in _ ⟨by omega,by omega⟩
       rw[←hkk] at hk8 hk9
       have HKK:=hdz hkk
       clear hkk hk8 hk9 hkw hi0 hi1 hs32 hki
       have h2k:(2:Int) ^ (8*k)=256 ^ k:=by
        have:k=0∨k=1∨k=2∨k=3:=by omega
        rcases this with rfl | rfl | rfl | rfl <;> rfl
       have H2k:=hdz h2k
       clear h2k
       go_wp2
       ·go_ret
        rename_i hbad _
        exact⟨⟨false,rfl,by simp;intro h;exact hy.out _ (by rw[H2k.out]) hbad (HD.out.2 h)⟩,rfl⟩
       ·rename_i hgood
        exact⟨⟨k+1,by omega,by simp,hdz (hz.out _ (by rw[H2k.out]) hgood)⟩,by simp only[intOf];omega⟩
      ·obtain rfl:k=4:=by omega
       clear hi0 hi1 hs32
       go_wp2
       go_ret
       exact⟨⟨true,rfl,by simp;exact HD.out.1 HK.out⟩,rfl⟩
    ·have g2':((x2:Int) != 1)=true:=by simp;omega
     go_enter Tryz.func48,Tryz.ntmps48
     go_wp2
     go_ret
     exact⟨⟨false,rfl,by simp;intro h;exact g2 (H3.out.1 h).2.2⟩,rfl⟩
   ·have g1':((x1:Int) != 83)=true:=by simp;omega
    go_enter Tryz.func48,Tryz.ntmps48
    go_wp2
    go_ret
    exact⟨⟨false,rfl,by simp;intro h;exact g1 (H3.out.1 h).2.1⟩,rfl⟩
  ·have g0':((x0:Int) != 81)=true:=by simp;omega
   go_enter Tryz.func48,Tryz.ntmps48
   go_wp2
   go_ret
   exact⟨⟨false,rfl,by simp;intro h;exact g0 (H3.out.1 h).1⟩,rfl⟩
def RestPost (bs:Txt)(w:World)(e:Ending)(w':World):Prop:=
 Fresh w w'∧((∃ (s:StD) (F:Nat→Prop) (m:Nat),Restored bs s∧e=.returned (.tuple #[.pointer (some ⟨m,0,none⟩),.int .i64 0])∧MAt w.heap.size w' F m s)∨((∀s,¬Restored bs s)∧e=.returned (.tuple #[.pointer none,.int .i64 131])))
theorem good_stick {bs:Txt} (h:(rsS bs).2.2=false):(rsL bs).2.2=false∧(rsP bs).2.2=false:=by
 obtain⟨s1,s2,s3⟩:=runF_ok (one:=oSes bs) rdSes_ok _ _ _ _ h
 obtain⟨t1,t2⟩:=o_of_count (hi:=16) s1
 have htok:(rsT bs).1≤99999999:=by
  have:=rCount_most bs 3 false (most:=99999999) (by omega)
  show (rCount bs 3 false 99999999).1≤99999999
  omega
 obtain⟨l1,l2,l3⟩:=runF_ok (one:=oLockT bs (rsT bs).1) (rdLock_ok htok) _ _ _ _ t1
 obtain⟨u1,u2⟩:=o_of_count (hi:=8) l1
 exact⟨t1,u1⟩
theorem restore_any (Z0:Nat→Prop) (A:Option Addr) (n c:Nat) (bs:Txt) (w:World) (hb0:Rd w Z0 1 A n (Lib.byteCells bs)) (hn:n≤1099511627770) (hnc:n≤c) (hT:Nib w) :
 Calls Tryz.prog 27 #[.slice A n c] w (RestPost bs w):=by
 have hlen:bs.length=n:=by simpa[Lib.byteCells] using hb0.1
 have hb:=hb0.old (by omega)
 obtain⟨b,hbs⟩:=exz (bs.take (n - 4))
 have hf:Rd w (λk=>k<w.heap.size) 1 A (n - 4) (Lib.byteCells b):=by
  have h1:=hb.front (n - 4) (by omega)
  rw[hbs]
  simpa[Lib.byteCells,List.map_take] using h1
 have hbl:b.length=n - 4:=by rw[hbs,List.length_take];omega
 have HS:=hdz (sealed_any _ A n c bs w hb0 hn hnc hT)
 have HN:=hdz (newm_any w)
 have HB:=hdz (aiz hlen (aiz hbs (aiz hf hbl)))
 clear hlen hb0 hb hbs hf hT hbl
 go_enter Tryz.func27,Tryz.ntmps27
 go_wp2_with fail
 refine Calls.mono HS.out ?_
 rintro e _ ⟨⟨sl,rfl,hsl⟩,rfl⟩
 have H0:=hdz hsl
 clear hsl HS
 cases sl with
 | false=>
  go_wp2_with fail
  go_ret2
  refine⟨krz _ _,.inr ⟨λs hs=>?_,rfl⟩⟩
  exact absurd (H0.out.2 (good_restored hs).1) (by simp)
 | true=>
  have hse:=H0.out.1 rfl
  have h11:11≤n:=by have:=hse.1;have:=HB.out.1;omega
  have HSE:=hdz hse
  clear H0 hse
  go_wp2_with fail
  refine Calls.mono HN.out ?_
  rintro e w1 ⟨⟨m,bp,bl,rfl,hm,h1,h2,h3⟩,hf1⟩
  have H1:=hdz (aiz hm (aiz hf1 (aiz h1 (aiz h2 h3))))
  clear hm hf1 h1 h2 h3 HN
  have hnc4:n - 4≤c:=by omega
  have hn4:n - 4≤1099511627770:=by omega
  have h3n:3≤n - 4:=by omega
  obtain⟨T,hT⟩:=exz (rsT b)
  have hTle:T.2.1≤n - 4:=by
   have:=rCount_le b 3 false 99999999 (by rw[HB.out.2.2.2];exact h3n)
   rw[HB.out.2.2.2] at this
   rw[hT]
   exact this
  have hTm:(T.1:Int)≤99999999:=by rw[hT];exact rCount_most b 3 false (most:=99999999) (by omega)
  have HTd:=hdz hT
  have hzz:∀W,Fresh w W→Rd W (λk=>k<w.heap.size) 1 A (n - 4) (Lib.byteCells b):=λW hf=>HB.out.2.2.1.keep (hf.weaken λ_ _ _=>trivial)
  have HZ:=hdz hzz
  clear hT hzz
  go_upto_region 5 with (fail)
  obtain⟨g,hgs⟩:=exz (w1.heap.size)
  rw[←hgs]
  have hkW1:Fresh w1 (w1.alloc (.cells #[.slice A (n - 4) c,.int .i64 3,.bool false] 121)):=(krz (λ_=>True) w1).alloc _
  have hgW1:Rdr (w1.alloc (.cells #[.slice A (n - 4) c,.int .i64 3,.bool false] 121)) g A (n - 4) c 3 false:=Blk.newAt hgs.symm
  generalize w1.alloc (.cells #[.slice A (n - 4) c,.int .i64 3,.bool false] 121)=W1 at hkW1 hgW1 ⊢
  have hf01:Fresh w W1:=H1.out.2.1.comp hkW1 (λ_ _ h=>h) (λ_ _ _=>trivial)
  have HC:=hdz (rcount_any g _ A (n - 4) c b 3 false 99999999 W1 hgW1 h3n (HZ.out _ hf01) hn4)
  have hgw:w.heap.size≤g:=by rw[hgs];exact H1.out.2.1.size
  obtain⟨hm,hf1,hmw,hbw,hlw⟩:=H1.out
  have hmg:m≠g:=by have:=hm.blk.lt;omega
  have hbg:bp≠g:=by have:=hm.pm.lt;omega
  obtain⟨ms0,hl0⟩:=hm.lk
  obtain rfl:ms0=[]:=by have:=hl0.data;simpa[newD] using this
  have hlg:bl≠g:=by have:=hl0.map.lt;omega
  have hmb:=hm.mp
  have hml:m≠bl:=(hl0.map.ne_blk hm.blk).symm
  have hbl:=hm.ne
  have HD:=hdz (aiz hmg (aiz hbg (aiz hlg (aiz hmb (aiz hml hbl)))))
  have HW:=hdz (aiz hgw (aiz hmw (aiz hbw hlw)))
  have HM:=hdz (aiz (hm.blk.keep hkW1 trivial) (aiz (hm.pm.keep hkW1 trivial) (aiz (hl0.map.keep hkW1 trivial) hf01)))
  clear hgs hkW1 hgW1 hf01 hgw hm hf1 hmw hbw hlw hmg hbg hl0 hlg hmb hml hbl
  go_wp2_with fail
  refine Calls.mono HC.out ?_
  rintro e w2 ⟨rfl,hg2,hk2⟩
  rw[show rCount b 3 false 99999999=T from HTd.out.symm] at hg2 ⊢
  have hb2:=HM.out.1.keep hk2 HD.out.1
  have z2:=hb2.frozen 2
  have hm2:=hb2.lt
  have x2:w2.cell? ⟨m,2,none⟩=some (.int .i64 0):=hb2.cell 2
  have H2:=hdz (aiz hg2 (aiz hk2 hb2))
  clear hg2 hk2 hb2 HC
  go_upto_region 6 with (fail)
  have hb3:Blk (w2.setCell ⟨m,2,none⟩ (.int .i64 (T.1:Int))) m 91 (mcells bp bl (T.1:Int) (List.replicate 16 noSes)).toArray:=by
   have h:=H2.out.2.2.set 2 (.int .i64 (T.1:Int))
   exact h
  have hk23:Keep (λj=>j≠m) w2 (w2.setCell ⟨m,2,none⟩ (.int .i64 (T.1:Int))):=(krz _ w2).setCell (λ_ h=>h rfl) _
  generalize w2.setCell ⟨m,2,none⟩ (.int .i64 (T.1:Int))=W3 at hb3 hk23 ⊢
  have hg3:=H2.out.1.keep hk23 (λe=>HD.out.1 e.symm)
  have hp3:=(HM.out.2.1.keep H2.out.2.1 HD.out.2.1).keep hk23 (λe=>HD.out.2.2.2.1 e.symm)
  have hl3:=(HM.out.2.2.1.keep H2.out.2.1 HD.out.2.2.1).keep hk23 (λe=>HD.out.2.2.2.2.1 e.symm)
  have hf3:Fresh w W3:=(HM.out.2.2.2.comp H2.out.2.1 (λ_ _ h=>h) (λj hj _=>by have:=HW.out.1;omega)).comp hk23 (λ_ _ h=>h) (λj hj _=>by have:=HW.out.2.1;omega)
  have HP:=hdz (rpairs_any m g bp (λk=>k<w.heap.size) A (n - 4) c b T.2.1 T.2.2 W3 (hb3.cell 0) HD.out.1 HD.out.2.2.2.1 hp3 hg3 (λk hk=>by have:=HW.out.1;have:=HW.out.2.2.1;omega) hTle hnc4 (HZ.out _ hf3) hn4)
  have H3:=hdz (aiz hb3 (aiz hl3 hf3))
  clear hb3 hk23 hg3 hp3 hl3 hf3 x2 z2 hm2
  go_wp2_with fail
  refine Calls.mono HP.out ?_
  rintro e w4 ⟨rfl,⟨ps,hps,hpr,hpl,hpe⟩,hg4,hn44,hk4⟩
  have hb4:=H3.out.1.keep hk4 ⟨HD.out.1,HD.out.2.2.2.1⟩
  have hl4:=H3.out.2.1.keep hk4 ⟨HD.out.2.2.1,HD.out.2.2.2.2.2.symm⟩
  have hf4:Fresh w w4:=H3.out.2.2.comp hk4 (λ_ _ h=>h) (λj hj _=>by have:=HW.out.1;have:=HW.out.2.2.1;omega)
  obtain⟨P,hP⟩:=exz (rPairs b T.2.1 T.2.2)
  rw[←hP] at hg4 hn44 hpe
  have HL:=hdz (rlocks_any m g bl (T.1:Int) (λk=>k<w.heap.size) A (n - 4) c b P.2.1 P.2.2 w4 (hb4.cell 1) (hb4.cell 2) (by omega) hTm HD.out.1 HD.out.2.2.2.2.1 hl4 hg4 (λk hk=>by have:=HW.out.1;have:=HW.out.2.2.2;omega) hn44 hnc4 (HZ.out _ hf4) hn4)
  have H4:=hdz (aiz hb4 (aiz hf4 (aiz hps (aiz hpe hP))))
  have hm4:=hb4.lt
  have hg4l:=hg4.lt
  have hp4l:=hps.lt
  clear hb4 hl4 hf4 hg4 hk4 hps hpr hpe hpl hP HP
  go_wp2_with fail
  refine Calls.mono HL.out ?_
  rintro e w5 ⟨rfl,⟨S,ms,ls,hls,hS,hlr,hl8,hlsafe,hlq,hle⟩,hg5,hn5,hk5⟩
  have hb5:=H4.out.1.keep hk5 ⟨HD.out.1,HD.out.2.2.2.2.1⟩
  have hps5:=H4.out.2.2.1.keep hk5 ⟨HD.out.2.1,HD.out.2.2.2.2.2⟩
  have hf5:Fresh w w5:=H4.out.2.1.comp hk5 (λ_ _ h=>h) (λj hj _=>by have:=HW.out.1;have:=HW.out.2.2.2;omega)
  obtain⟨L,hL⟩:=exz (rLocks b (T.1:Int) P.2.1 P.2.2)
  rw[←hL] at hg5 hn5 hle
  have hSg:∀j,S j→j≠g∧j≠m:=λj hj=>by
   rcases hS j hj with rfl | h
   ·exact⟨HD.out.2.2.1,HD.out.2.2.2.2.1.symm⟩
   ·omega
  have hSb:¬S bp:=λh=>by
   rcases hS bp h with e | h
   ·exact HD.out.2.2.2.2.2 e
   ·omega
  have hSw:∀j,S j→w.heap.size≤j:=λj hj=>by
   rcases hS j hj with rfl | h
   ·exact HW.out.2.2.2
   ·exact lez H4.out.2.1.size h
  have HSS:=hdz (rsess_any m g bp bl (T.1:Int) (λk=>k<w.heap.size) A (n - 4) c b L.2.1 L.2.2 w5 hb5 HD.out.1 hg5 (λk hk=>by have:=HW.out.1;have:=HW.out.2.1;omega) hn5 hnc4 (HZ.out _ hf5) hn4 S ls ⟨ms,hls⟩ hlr hlsafe hlq hSg)
  have H5:=hdz (aiz hps5 (aiz hf5 (aiz hls (aiz hle (aiz hL (aiz hSg (aiz hSb hSw)))))))
  clear hb5 hps5 hf5 hg5 hk5 hls hS hlr hl8 hlsafe hlq hle hL hSg hSb hSw HL hm4 hg4l hp4l
  go_wp2_with fail
  refine Calls.mono HSS.out ?_
  rintro e w6 ⟨rfl,hb6,hg6,hn6,hk6⟩
  obtain⟨R,hR⟩:=exz (rSess1 b L.2.1 L.2.2)
  rw[←hR] at hb6 hg6 hn6
  have HO:=hdz (rsound_any g A (n - 4) c _ _ w6 hg6)
  have H6:=hdz (aiz hb6 (aiz hk6 hR))
  clear hb6 hg6 hk6 hR HSS
  go_wp2_with fail
  refine Calls.mono HO.out ?_
  rintro e w7 ⟨rfl,k7,rfl⟩
  obtain⟨hs5,hf5,hls5,hle5,hL5,hSg5,hSb5,hSw5⟩:=H5.out
  obtain⟨hb6,hk6,hR6⟩:=H6.out
  have hP4:=H4.out.2.2.2.2
  have hpe4:=H4.out.2.2.2.1
  have eT:rsT b=T:=HTd.out.symm
  have eP:rsP b=P:=by unfold rsP;rw[eT];exact hP4.symm
  have eL:rsL b=L:=by unfold rsL;rw[eT,eP];exact hL5.symm
  have eR:rsS b=R:=by unfold rsS;rw[eL];exact hR6.symm
  have hf7:Fresh w (w6.drewN k7):=(hf5.comp hk6 (λ_ _ h=>h) (λj hj _=>by have:=HW.out.1;have:=HW.out.2.1;omega)).drewN k7
  have hgood:((!(R.2.2 || sesMiss ls (ssPut R.1 (List.replicate 16 noSes))) && decide (R.2.1=n - 4))=true)↔rsGood b:=by
   unfold rsGood rsSs
   rw[eR,eL]
   simp only[Bool.and_eq_true,Bool.not_eq_true',Bool.or_eq_false_iff,decide_eq_true_eq]
   constructor
   ·rintro ⟨⟨h1,h2⟩,h3⟩
    have h4:=(good_stick (bs:=b) (by rw[eR];exact h1)).1
    rw[eL] at h4
    rw[hle5 h4] at h2
    exact⟨h1,h2,by rw[h3,HB.out.2.2.2]⟩
   ·rintro ⟨h1,h2,h3⟩
    have h4:=(good_stick (bs:=b) (by rw[eR];exact h1)).1
    rw[eL] at h4
    rw[hle5 h4]
    exact⟨⟨h1,h2⟩,by rw[h3,HB.out.2.2.2]⟩
  have hbb:bs.take (bs.length - 4)=b:=by rw[HB.out.1];exact HB.out.2.1.symm
  have hout:(rsGood b→∃ (s:StD) (F:Nat→Prop),Restored bs s∧MAt w.heap.size (w6.drewN k7) F m s):=λhgd=>by
   have hres:=restored_good HSE.out (by rw[hbb];exact hgd)
   rw[hbb] at hres
   obtain⟨g1,g2⟩:=good_stick hgd.1
   rw[eL] at g1
   rw[eP] at g2
   have hst:MSt S (w6.drewN k7) m bp bl ⟨(rsP b).1,(rsL b).1,((rsT b).1:Int),rsSs b⟩:=by
    unfold rsSs
    rw[eP,eL,eT,eR]
    have hk67:Keep (λj=>j≠g∧j≠m) w5 (w6.drewN k7):=hk6.drewN k7
    refine⟨hb6.drewN k7,by simp[ssPut_len],?_,⟨ms,?_⟩,λh=>(hSg5 m h).2 rfl,hSb5⟩
    ·rw[←hpe4 g2]
     exact hs5.keep hk67 ⟨HD.out.2.1,HD.out.2.2.2.1.symm⟩
    ·rw[←hle5 g1]
     exact hls5.keep hk67 hSg5
   exact⟨_,_,hres,MAt.of hst (restored_inv hres).2 HW.out.2.1 HW.out.2.2.1 (λj hj _=>hSw5 j hj)⟩
  have hbadd:¬rsGood b→∀s,¬Restored bs s:=λhng s hs=>hng (by have:=(good_restored hs).2;rw[hbb] at this;exact this)
  obtain⟨q,hq⟩:=exz ((!(R.2.2 || sesMiss ls (ssPut R.1 (List.replicate 16 noSes))) && decide (R.2.1=n - 4)))
  rw[←hq] at hgood ⊢
  have HF:=hdz (aiz hf7 (aiz hgood (aiz hout hbadd)))
  clear hq hs5 hf5 hls5 hle5 hL5 hSg5 hSb5 hSw5 hb6 hk6 hR6 hP4 hpe4 eT eP eL eR hf7 hgood hbb hout hbadd
  cases q with
  | false=>
   go_wp2_with fail
   go_ret2
   exact⟨HF.out.1,.inr ⟨HF.out.2.2.2 (λh=>by have:=HF.out.2.1.2 h;cases this),rfl⟩⟩
  | true=>
   obtain⟨s,F,h1,h2⟩:=HF.out.2.2.1 (HF.out.2.1.1 rfl)
   have HG:=hdz (aiz h1 h2)
   clear h1 h2
   go_wp2_with fail
   go_ret2
   exact⟨HF.out.1,.inl ⟨s,F,m,HG.out.1,rfl,HG.out.2⟩⟩
def fS1:StD:=⟨[([107],[118])],[],0,(List.replicate 16 noSes).set 1 ⟨1,1,⟨1,[],0⟩⟩⟩
def fS2:StD:=⟨[([107],[118])],[],0,(List.replicate 16 noSes).set 1 ⟨1,2,⟨1,[118],1⟩⟩⟩
def fS3:StD:=⟨[([107],[118])],[⟨[108],1,1,[]⟩],1,(List.replicate 16 noSes).set 1 ⟨1,3,⟨1,[],1⟩⟩⟩
def fS4:StD:=⟨[([107],[118])],[⟨[108],1,1,[2]⟩],1,((List.replicate 16 noSes).set 1 ⟨1,3,⟨1,[],1⟩⟩).set 2 ⟨1,1,⟨7,[],1⟩⟩⟩
theorem fa1:applyD 1 1 1 1 [107] [118] [] newD=(⟨1,[],0⟩,fS1):=by kernel_rfl
theorem fa2:applyD 1 1 2 2 [107] [] [] fS1=(⟨1,[118],1⟩,fS2):=by kernel_rfl
theorem fa3:applyD 1 1 3 6 [108] [] [] fS2=(⟨1,[],1⟩,fS3):=by kernel_rfl
theorem fa4:applyD 2 1 1 6 [108] [] [] fS3=(⟨7,[],1⟩,fS4):=by kernel_rfl
theorem fget:(pfind [107] fS3.pairs)=some [118]:=by kernel_rfl
theorem fhold:holdD [108] fS3=((1,1,1),true):=by kernel_rfl
theorem fses:sessD 1 fS3=(⟨1,3,⟨1,[],1⟩⟩,true):=by kernel_rfl
theorem Fresh.then {a b c:World}(h:Fresh a b)(k:Fresh b c):Fresh a c:=h.comp k (λ_ _ h=>h) (λ_ _ _=>trivial)
theorem own_rdc {w:World} {base e size n:Nat} {v:Value} {xs:List Value} (h:w.ownsRow base e size v n xs):∃A c,v=.slice A n c∧n≤c∧Rd w (λk=>v.ownBlock=some k) size A n xs∧(n=0→c=0∨A≠none):=by
 obtain⟨A,c,rfl,h1,h2⟩:=own_rd h
 refine⟨A,c,rfl,?_,h1,h2⟩
 rcases h.2 with ⟨e1,rfl⟩ | ⟨g,cap,cur,e1,hb,hh,hn,_⟩
 ·exact Nat.zero_le _
 ·injection e1 with e1 e2 e3
  rw[e3]
  exact hn
theorem aside {F F':Nat→Prop}{b n:Nat}(hb:b<n)(h:¬F b)(hF:∀j,F' j→F j∨n≤j):¬F' b:=λe=>(hF b e).elim h (λe=>by omega)
theorem first_any {W:World}(hT:TabsN W):Calls Tryz.prog 15 #[] W λe w'=>e=.returned (.bool true)∧Fresh W w':=by
 have HT:=hdz hT
 have HN:=hdz (mat_new W)
 clear hT
 go_enter Tryz.func15,Tryz.ntmps15
 go_wp2_with fail
 refine Calls.mono HN.out ?_
 rintro e w1 ⟨⟨m,F,rfl,hm⟩,hf⟩
 have h1:=mat_apply HT.out hf hm 1 1 1 1 [107] [118] []
 rw[fa1] at h1
 have HA1:=hdz h1
 clear hm HN hf h1
 go_wp2_with fail
 refine Calls.mono HA1.out ?_
 rintro e w2 ⟨rfl,⟨F2,hm2,-⟩,-,hf2⟩
 have H2:=hdz (aiz hm2 hf2)
 clear hm2 hf2 HA1
 go_wp2_with (refine wpList_store_new rfl (.tmp 2) (.tmp 22) rfl _ #[.int .i64 1,str [],.int .i64 0] _ rfl rfl rfl (by kernel_rfl) (by kernel_rfl) ?_)
 intro w3 hb3 hf3 hs3
 have h3:=mat_apply HT.out (H2.out.2.then hf3) (H2.out.1.fresh hf3) 1 1 2 2 [107] [] []
 rw[fa2] at h3
 have HA3:=hdz h3
 obtain⟨b1,hb1⟩:∃b,b=w2.heap.size:=⟨_,rfl⟩
 rw[←hb1] at hb3 ⊢
 have H3:=hdz (aiz hb3 (aiz (H2.out.1.fresh hf3) (aiz (H2.out.2.then hf3) (aiz hb1 hs3))))
 clear hb3 hf3 hs3 h3 hb1
 go_wp2_with fail
 refine Calls.mono HA3.out ?_
 rintro e w4 ⟨rfl,⟨F4,hm4,hF4⟩,hk4,hf4⟩
 have hz0:¬F2 b1:=λhj=>by have:=H2.out.1.hi _ hj;have:=H3.out.2.2.2.1;omega
 have hb4:=H3.out.1.keep hk4 hz0
 have hz4:=aside H3.out.1.lt hz0 hF4
 have H4:=hdz (aiz hm4 (aiz hf4 (aiz hb4 hz4)))
 clear hm4 hk4 hf4 hb4 HA3 H2 H3 hz0 hz4 hF4
 go_wp2_with (refine wpList_store_new rfl (.tmp 3) (.tmp 25) rfl _ #[.int .i64 1,str [118],.int .i64 1] _ rfl rfl rfl (by kernel_rfl) (by kernel_rfl) ?_)
 intro w5 hb5 hf5 hs5
 have h5:=mat_apply HT.out (H4.out.2.1.then hf5) (H4.out.1.fresh hf5) 1 1 3 6 [108] [] []
 rw[fa3] at h5
 have HA5:=hdz h5
 obtain⟨b2,hb2⟩:∃b,b=w4.heap.size:=⟨_,rfl⟩
 rw[←hb2] at hb5 ⊢
 have H5:=hdz (aiz hb5 (aiz (H4.out.2.2.1.keep hf5 trivial) hb2))
 clear hb5 hf5 hs5 h5 hb2
 go_wp2_with fail
 refine Calls.mono HA5.out ?_
 rintro e w6 ⟨rfl,⟨F6,hm6,hF6⟩,hk6,hf6⟩
 have hz2:¬F4 b2:=λhj=>by have:=H4.out.1.hi _ hj;have:=H5.out.2.2;omega
 have hb6:=H5.out.2.1.keep hk6 H4.out.2.2.2
 have hb6':=H5.out.1.keep hk6 hz2
 have H6:=hdz (aiz hm6 (aiz hf6 (aiz hb6 hb6')))
 clear hm6 hk6 hf6 hb6 hb6' HA5 H4 H5 hz2 hF6
 go_wp2_with (refine wpList_store_new rfl (.tmp 4) (.tmp 28) rfl _ #[.int .i64 1,str [],.int .i64 1] _ rfl rfl rfl (by kernel_rfl) (by kernel_rfl) ?_)
 intro w7 hb7 hf7 hs7
 obtain⟨b3,hb3⟩:∃b,b=w6.heap.size:=⟨_,rfl⟩
 rw[←hb3] at hb7 ⊢
 have hc1:=H6.out.2.2.1.keep hf7 trivial
 have hc2:=H6.out.2.2.2.keep hf7 trivial
 have x1:=hc1.cell 0;have x2:=hc2.cell 0;have x3:=hc2.cell 1;have x4:=hb7.cell 0;have x5:=hb7.cell 2
 simp at x1 x2 x3 x4 x5
 have hl1:=hc1.lt;have hl2:=hc2.lt;have hl3:=hb7.lt
 have hm7:=H6.out.1.fresh hf7
 have hf07:=H6.out.2.1.then hf7
 have HS:=hdz (mat_snap (HT.out.fresh hf07) hm7)
 have H7:=hdz (aiz hf07 hm7.inv)
 clear hb7 hf7 hs7 hb3 hc1 hc2 hm7 hf07 H6
 go_wp2_with fail
 refine Calls.mono HS.out ?_
 rintro e w8 ⟨⟨v,rfl,hv⟩,hf8⟩
 obtain⟨A,c,rfl,hlc,hr8,-⟩:=own_rdc hv
 have hf08:=H7.out.1.then hf8
 have HR:=hdz (restore_any _ A _ c _ w8 hr8 (by have:=snap_len H7.out.2;omega) hlc (HT.out.fresh hf08).n)
 have H8:=hdz hf08
 clear hv hf8 hlc hr8 hf08 HS x1 x2 x3 x4 x5 hl1 hl2 hl3
 go_wp2_with fail
 refine Calls.mono HR.out ?_
 rintro e w9 ⟨hf9,⟨s,F9,n,hs,rfl,hm9⟩ | ⟨hno,-⟩⟩
 rotate_left
 ·exact absurd (restored_snap H7.out.2) (hno _)
 have es:s=fS3:=restored_uniq hs (restored_snap H7.out.2)
 subst es
 have hm9':=hm9.lower H8.out.size
 have hf09:=H8.out.then hf9
 have HG:=hdz (mat_get hm9' [107] (by decide))
 rw[fget] at HG
 have HNum:=hdz (num_any 0 w9)
 have H9:=hdz (aiz hm9' hf09)
 clear hm9 hm9' hf9 hf09 hs HR
 go_wp2_with fail
 refine Calls.mono HNum.out ?_
 rintro e _ ⟨rfl,rfl⟩
 go_wp2_with fail
 refine Calls.mono HG.out ?_
 rintro e _ ⟨rfl,rfl⟩
 have h10:=mat_holder H9.out.1 [108] (by decide)
 rw[fhold] at h10
 have HH:=hdz h10
 clear h10 HG HNum
 go_wp2_with fail
 refine Calls.mono HH.out ?_
 rintro e w10 ⟨rfl,hf10⟩
 have H10:=hdz hf10
 clear hf10 HH
 go_wp2_with (refine wpList_store_new rfl (.tmp 9) (.tmp 73) rfl _ #[.int .i64 1,.int .i64 1,.int .i64 1] _ rfl rfl rfl (by kernel_rfl) (by kernel_rfl) ?_)
 intro w11 hb11 hf11 hs11
 obtain⟨b4,hb4⟩:∃b,b=w10.heap.size:=⟨_,rfl⟩
 rw[←hb4] at hb11 ⊢
 have hf12:=H10.out.then hf11
 have HP:=hdz (mat_pairs (H9.out.1.fresh hf12))
 have hz4:¬F9 b4:=λhj=>by have:=H9.out.1.hi _ hj;have:=H10.out.size;omega
 have H11:=hdz (aiz (H9.out.1.fresh hf12) (aiz (H9.out.2.then hf12) (aiz hb11 hz4)))
 clear hb11 hf11 hs11 hb4 hf12 hz4 H10 H9
 go_wp2_with fail
 refine Calls.mono HP.out ?_
 rintro e w12 ⟨⟨v,rfl,hv⟩,hf12⟩
 obtain⟨A1,c1,hv1,-⟩:=own_rd hv
 replace hv1:v=.slice A1 1 c1:=hv1
 subst hv1
 have h13:=mat_session (H11.out.1.fresh hf12) 1
 rw[fses] at h13
 have HSe:=hdz h13
 have H12:=hdz hf12
 clear hv hf12 h13 HP
 go_wp2_with fail
 refine Calls.mono HSe.out ?_
 rintro e w13 ⟨rfl,hf13⟩
 have H13:=hdz (H12.out.then hf13)
 clear hf13 HSe H12
 go_wp2_with (refine wpList_store_new rfl (.tmp 12) (.tmp 80) rfl _ (sesA ⟨1,3,⟨1,[],1⟩⟩) _ rfl rfl rfl (by kernel_rfl) (by kernel_rfl) ?_)
 intro w14 hb14 hf14 hs14
 obtain⟨b5,hb5⟩:∃b,b=w13.heap.size:=⟨_,rfl⟩
 rw[←hb5] at hb14 ⊢
 have hf15:=H13.out.then hf14
 have hz5:¬F9 b5:=λhj=>by have:=H11.out.1.hi _ hj;have:=H13.out.size;omega
 have HL:=hdz (mat_locks (H11.out.1.fresh hf15))
 have H14:=hdz (aiz (H11.out.1.fresh hf15) (aiz (H11.out.2.1.then hf15) (aiz (H11.out.2.2.1.keep hf15 trivial) (aiz hb14 (aiz H11.out.2.2.2 hz5)))))
 clear hb14 hf14 hs14 hb5 hf15 hz5 H13 H11
 go_wp2_with fail
 refine Calls.mono HL.out ?_
 rintro e w15 ⟨⟨v,rfl,hv⟩,hf15⟩
 obtain⟨A2,c2,hv2,-⟩:=own_rd hv
 replace hv2:v=.slice A2 1 c2:=hv2
 subst hv2
 have h16:=mat_apply HT.out (H14.out.2.1.then hf15) (H14.out.1.fresh hf15) 2 1 1 6 [108] [] []
 rw[fa4] at h16
 have HA:=hdz h16
 have H15:=hdz (aiz (H14.out.2.2.1.keep hf15 trivial) (aiz (H14.out.2.2.2.1.keep hf15 trivial) H14.out.2.2.2.2))
 clear hv hf15 h16 HL H14
 go_wp2_with fail
 refine Calls.mono HA.out ?_
 rintro e w16 ⟨rfl,⟨F16,hm16,hF16⟩,hk16,hf16⟩
 have hz4:=aside H15.out.1.lt H15.out.2.2.1 hF16
 have hz5:=aside H15.out.2.1.lt H15.out.2.2.2 hF16
 have H16:=hdz (aiz hm16 (aiz hf16 (aiz (H15.out.1.keep hk16 H15.out.2.2.1) (aiz (H15.out.2.1.keep hk16 H15.out.2.2.2) (aiz hz4 hz5)))))
 clear hm16 hF16 hk16 hf16 hz4 hz5 HA H15
 go_wp2_with (refine wpList_store_new rfl (.tmp 15) (.tmp 86) rfl _ #[.int .i64 7,str [],.int .i64 1] _ rfl rfl rfl (by kernel_rfl) (by kernel_rfl) ?_)
 intro w17 hb17 hf17 hs17
 obtain⟨b6,hb6⟩:∃b,b=w16.heap.size:=⟨_,rfl⟩
 rw[←hb6] at hb17 ⊢
 have HWt:=hdz (mat_waiting (H16.out.1.fresh hf17) [108] (by decide))
 have H17:=hdz (aiz (H16.out.2.1.then hf17) (aiz (H16.out.2.2.1.keep hf17 trivial) (aiz (H16.out.2.2.2.1.keep hf17 trivial) hb17)))
 clear hb17 hf17 hs17 hb6 H16
 go_wp2_with fail
 refine Calls.mono HWt.out ?_
 rintro e w18 ⟨⟨v,rfl,hv⟩,hf18⟩
 obtain⟨A3,c3,hv3,-⟩:=own_rd hv
 replace hv3:v=.slice A3 1 c3:=hv3
 subst hv3
 have d4:=H17.out.2.1.keep hf18 trivial
 have d5:=H17.out.2.2.1.keep hf18 trivial
 have d6:=H17.out.2.2.2.keep hf18 trivial
 have y1:=d4.cell 0;have y2:=d4.cell 1;have y3:=d4.cell 2;have y4:=d5.cell 1;have y5:=d6.cell 0
 simp[sesA] at y1 y2 y3 y4 y5
 have hl1:=d4.lt;have hl2:=d5.lt;have hl3:=d6.lt
 have H18:=hdz (H17.out.1.then hf18)
 clear d4 d5 d6 hv hf18 HWt H17
 go_wp2_with fail
 go_ret
 exact⟨rfl,H18.out⟩
section
variable {s:StD}{c i r o:Int}{k v d:Txt}
end
structure CmD where
 c:Int
 i:Int
 r:Int
 o:Int
 k:Txt
 v:Txt
 d:Txt
deriving DecidableEq
section
variable {s:StD}{last:List CmD}{told:List ResD}
end
def CmD.cells (x:CmD):List Value:=[.int .i64 x.c,.int .i64 x.i,.int .i64 x.r,.int .i64 x.o,str x.k,str x.v,str x.d]
end Go.Proofs.YtlibhkehebioeaaGreatDoor
namespace Go.Proofs.YtlibhkehebioeaaGreatDoor
set_option linter.unusedVariables false
set_option linter.unusedSimpArgs false
set_option maxRecDepth 100000
set_option maxHeartbeats 40000000
open Go.ChangeShapes Go.WideShapes Go.ChangeAt Go.RowKit
theorem laidOut:laidOutB Tryz.prog=true:=by kernel_rfl
theorem trodAll_below {H:Type} {enc:TypeId×Value→H} {P:Program} (hl:laidOutB P=true) {W W':World} (hb:Below W.heap.size W W') :
 ∀ {ts:List TypeId} {vs:List Value} {ds:List (DataW H)} {ps:List MemPlace},(∀t∈ts,P.readableRec t=true∧t<P.types.size)→DataW.TrodAll enc P W 0 (λ_=>true) true ts vs ds ps→(∀x∈ps,x.block<W.heap.size) →
   DataW.TrodAll enc P W' 0 (λb=>decide (b<W.heap.size)) true ts vs ds ps
 | [],_,_,_,_,h,_=>by
  obtain⟨rfl,rfl,rfl⟩:=trodAll_nil h
  exact trodAll_mk0
 | t::ts,_,_,_,hr,h,hlt=>by
  obtain⟨v0,vs0,d0,ds0,p0,q0,rfl,rfl,rfl,h0,r0⟩:=trodAll_cons h
  have ht:=hr t (by simp)
  exact trodAll_cons_mk (Below.trod hl ht.1 ht.2 h0 hb (λx hx=>hlt x (by simp[hx]))) (trodAll_below hl hb (λt ht=>hr t (by simp[ht])) r0 (λx hx=>hlt x (by simp[hx])))
theorem post_true {H:Type} {enc:TypeId×Value→H} {P:Program} {f:Func} {s:ChangeSpec} {W W':World} {args:Array Value} {ds gs:List (DataW H)} {before:List MemPlace} {tb:TypeId}
 (hl:laidOutB P=true) (hpar:f.params.toList.all (λt=>P.readableRec t && decide (t<P.types.size))=true) (hrt:f.resultTypes=#[tb]) (htb:P.underlying tb=some .bool) (hv:s.vars=[])
 (hW:DataW.Whole enc P f.params.toList s.vars false W args.toList ds gs before) (hfn:s.fn H ds={ results:=[.lit (.bool true)],args:=ds }) (hb:Below W.heap.size W W') :
 s.post enc P f false true false false W args (.bool true) W':=by
 have hW':=hW
 obtain⟨p,q,hA,hV,rfl,hfz,hnd⟩:=hW
 rw[hv] at hV
 obtain⟨rfl,rfl⟩:=trodVars_none hV
 have hlt:∀x∈p,x.block<W.heap.size:=λx hx=>by simpa using hW'.lt x (by simp[hx])
 have hp:∀t∈f.params.toList,P.readableRec t=true∧t<P.types.size:=λt ht=>by
  have:=List.all_eq_true.1 hpar t ht
  simpa using this
 refine⟨ds,[],p++[],[],p,[],hW',?_,?_,?_,hb.frame _,λh=>by cases h⟩
 ·rw[List.append_nil,hfn,hrt]
  exact trodAll_mk1 (shut_bool htb _)
 ·rw[List.append_nil,hfn]
  exact trodAll_below hl hb hp hA hlt
 ·rw[hv,List.append_nil,hfn]
  exact rfl
end Go.Proofs.YtlibhkehebioeaaGreatDoor
namespace Go.Proofs.YtlibhkehebioeaaGreatDoor
set_option linter.unusedVariables false
set_option linter.unusedSimpArgs false
set_option maxRecDepth 100000
set_option maxHeartbeats 40000000
open Go.ChangeShapes Go.WideShapes Go.ChangeAt Go.RowKit Go.Joins
theorem cI:Tryz.prog.cellsOf 3=1:=by kernel_rfl
theorem cS:Tryz.prog.cellsOf 9=1:=by kernel_rfl
theorem cC:Tryz.prog.cellsOf 30=7:=by kernel_rfl
theorem bulk_one {H:Type}(d:DataW H):1≤Rows.uptoBulk d:=by
 cases d with
 | lit l=>cases l <;> simp[Rows.uptoBulk]
 | _=>simp[Rows.uptoBulk]
theorem bulks_len {H:Type}:∀l:List (DataW H),l.length≤Rows.uptoBulkAll l
 | []=>Nat.zero_le _
 | d::r=>by
  have h:=bulks_len r
  have h1:=bulk_one d
  simp only[Rows.uptoBulkAll,List.length_cons]
  omega
theorem bulk_mem {H:Type} {d:DataW H}:∀ {l:List (DataW H)},d∈l→Rows.uptoBulk d≤Rows.uptoBulkAll l
 | x::r,h=>by
  simp only[Rows.uptoBulkAll]
  rcases List.mem_cons.1 h with rfl | h
  ·omega
  ·have:=bulk_mem h
   omega
theorem str_of (s:ByteArray):Value.string s=str s.data.toList:=by
 obtain⟨a⟩:=s
 simp[str]
section
variable {H:Type}{enc:TypeId×Value→H}
theorem open_c {W:World} {n:Nat} {cs:List Value} {y:DataW H×List MemPlace} (h:DataW.trod enc Tryz.prog W 0 (λ_=>true) true n 30 cs=some y):∃x:CmD,cs=x.cells:=by
 obtain⟨xs,n,_,_,hlc,hlen,hg⟩:=DataW.trod_struct Tryz.underlying30 h
 match cs,hlc.trans cC,xs,hlen with
 | [c0,c1,c2,c3,c4,c5,c6],_,[y0,y1,y2,y3,y4,y5,y6],_=>
  have g0:DataW.trod enc Tryz.prog W 0 (λ_=>true) true n 3 (([c0,c1,c2,c3,c4,c5,c6].drop 0).take (Tryz.prog.cellsOf 3))=some y0:=hg 0 _ rfl
  rw[cI] at g0
  have g1:DataW.trod enc Tryz.prog W 0 (λ_=>true) true n 3 (([c0,c1,c2,c3,c4,c5,c6].drop 1).take (Tryz.prog.cellsOf 3))=some y1:=hg 1 _ rfl
  rw[cI] at g1
  have g2:DataW.trod enc Tryz.prog W 0 (λ_=>true) true n 3 (([c0,c1,c2,c3,c4,c5,c6].drop 2).take (Tryz.prog.cellsOf 3))=some y2:=hg 2 _ rfl
  rw[cI] at g2
  have g3:DataW.trod enc Tryz.prog W 0 (λ_=>true) true n 3 (([c0,c1,c2,c3,c4,c5,c6].drop 3).take (Tryz.prog.cellsOf 3))=some y3:=hg 3 _ rfl
  rw[cI] at g3
  have g4:DataW.trod enc Tryz.prog W 0 (λ_=>true) true n 9 (([c0,c1,c2,c3,c4,c5,c6].drop 4).take (Tryz.prog.cellsOf 9))=some y4:=hg 4 _ rfl
  rw[cS] at g4
  have g5:DataW.trod enc Tryz.prog W 0 (λ_=>true) true n 9 (([c0,c1,c2,c3,c4,c5,c6].drop 5).take (Tryz.prog.cellsOf 9))=some y5:=hg 5 _ rfl
  rw[cS] at g5
  have g6:DataW.trod enc Tryz.prog W 0 (λ_=>true) true n 9 (([c0,c1,c2,c3,c4,c5,c6].drop 6).take (Tryz.prog.cellsOf 9))=some y6:=hg 6 _ rfl
  rw[cS] at g6
  obtain⟨n0,e0,_⟩:=DataW.trod_int Tryz.underlying3 g0
  obtain⟨n1,e1,_⟩:=DataW.trod_int Tryz.underlying3 g1
  obtain⟨n2,e2,_⟩:=DataW.trod_int Tryz.underlying3 g2
  obtain⟨n3,e3,_⟩:=DataW.trod_int Tryz.underlying3 g3
  obtain⟨s4,e4,_⟩:=DataW.trod_string Tryz.underlying9 g4
  obtain⟨s5,e5,_⟩:=DataW.trod_string Tryz.underlying9 g5
  obtain⟨s6,e6,_⟩:=DataW.trod_string Tryz.underlying9 g6
  obtain rfl:c0=.int .i64 n0:=by simpa[cI,cS] using e0
  obtain rfl:c1=.int .i64 n1:=by simpa[cI,cS] using e1
  obtain rfl:c2=.int .i64 n2:=by simpa[cI,cS] using e2
  obtain rfl:c3=.int .i64 n3:=by simpa[cI,cS] using e3
  obtain rfl:c4=.string s4:=by simpa[cI,cS] using e4
  obtain rfl:c5=.string s5:=by simpa[cI,cS] using e5
  obtain rfl:c6=.string s6:=by simpa[cI,cS] using e6
  exact⟨⟨n0,n1,n2,n3,s4.data.toList,s5.data.toList,s6.data.toList⟩,by rw[str_of s4,str_of s5,str_of s6];rfl⟩
theorem open_rows {α:Type} {f:α→List Value} {k:Nat} {W:World} {n:Nat} {c:Value} {y:DataW H×List MemPlace} {t e:TypeId} (ht:Tryz.prog.underlying t=some (.slice e)) (hk:Tryz.prog.cellsOf e=k) (hf:∀a,(f a).length=k) (hk0:0<k) {p:α→DataW H→Prop}
 (he:∀n cs y,DataW.trod enc Tryz.prog W 0 (λ_=>true) true n e cs=some y→∃x,cs=f x∧p x y.1) (h:DataW.trod enc Tryz.prog W 0 (λ_=>true) true n t [c]=some y) :
 ∃xs:List α,(∃ (A:Option Addr) (cap:Nat),c=.slice A xs.length cap∧xs.length≤cap∧(xs.length=0→cap=0∨A≠none)∧Rd W (λ_=>True) k A xs.length (rcells f xs))∧xs.length≤Rows.uptoBulk y.1∧c.oneCell'=true∧∀x∈xs,∃d,p x d∧Rows.uptoBulk d≤Rows.uptoBulk y.1:=by
 rcases Go.Deep.open_slice ht h with ⟨hcs,rfl⟩ | ⟨a,len,cap,m,n',D,Pl,hcs,_,hl,hm,hmm,hy,hel⟩
 ·obtain rfl:c=.slice none 0 0:=by simpa using hcs
  exact⟨[],⟨none,0,rfl,lrz _,λ_=>.inl rfl,Rd.nil _ _ _ _⟩,Nat.zero_le _,rfl,λx hx=>by cases hx⟩
 ·obtain rfl:c=.slice (some a) len cap:=by simpa using hcs
  simp only[if_true] at hmm
  rw[hmm] at hy hel
  clear hmm
  subst hy
  have hx:∀i,i<len→∃x:α,p x (D i)∧W.cells? 0 (a.add (i*k)) k=some (f x):=λi hi=>by
   obtain⟨cs',h1,h2⟩:=hel i (by omega)
   rw[hk] at h1
   obtain⟨x,rfl,hp⟩:=he _ _ _ h2
   exact⟨x,hp,h1⟩
  obtain ⟨xs,hxl,hxs⟩:∃xs:List α,xs.length=len∧∀i (hi:i<xs.length),p xs[i] (D i)∧W.cells? 0 (a.add (i*k)) k=some (f xs[i]):=by
   clear hel hl hm h hcs
   induction len with
   | zero=>exact⟨[],rfl,λi hi=>by cases hi⟩
   | succ len ih=>
    obtain⟨xs,h1,h2⟩:=ih (λi hi=>hx i (by omega))
    obtain⟨x,hx1,hx2⟩:=hx len (by omega)
    refine⟨xs++[x],by simp[h1],λi hi=>?_⟩
    by_cases hlt:i<xs.length
    ·rw[List.getElem_append_left hlt]
     exact h2 i hlt
    ·have:i=len:=by simp at hi;omega
     subst this
     rw[List.getElem_append_right (by omega)]
     simp only[h1,Nat.sub_self,List.getElem_cons_zero]
     exact⟨hx1,hx2⟩
  have hbulk:Rows.uptoBulkAll ((List.range len).map D)≤Rows.uptoBulk (DataW.slice ((List.range len).map D) ((List.range (cap - len)).map λj=>D (len+j))):=by
   simp only[Rows.uptoBulk]
   omega
  refine⟨xs,?_,?_,rfl,λx hx=>?_⟩
  ·rw[hxl]
   refine⟨some a,cap,rfl,hl,λ_=>.inr (by simp),by rw[rcells_len hf,hxl],λhn=>?_⟩
   have hcell:∀i (hi:i<xs.length) j u,(f xs[i])[j]?=some u→W.cell? (a.add (i*k+j))=some u:=λi hi j u hu=>by
    have hj:j<k:=by
     rcases Nat.lt_or_ge j k with h1 | h1
     ·exact h1
     ·rw[List.getElem?_eq_none (by rw[hf];exact h1)] at hu;cases hu
    have:=(World.cells?_some (hxs i hi).2).2.2 j hj
    rw[hu] at this
    rwa [Go.Deep.add_add] at this
   have h0:0<xs.length:=by omega
   have hf0:0<(f xs[0]).length:=by rw[hf];exact hk0
   obtain⟨ab,ao,spot⟩:=a
   have hspot:spot=none:=by simpa[Addr.add] using World.cell?_spot (hcell 0 h0 0 _ (List.getElem?_eq_getElem hf0))
   subst hspot
   refine⟨ab,ao,rfl,trivial,λj u hu=>?_⟩
   have hj:j<len*k:=by
    rcases Nat.lt_or_ge j (len*k) with h | h
    ·exact h
    ·rw[List.getElem?_eq_none (by rw[rcells_len hf,hxl];exact h)] at hu;cases hu
   have hd:j / k<xs.length:=by rw[hxl];exact Nat.div_lt_of_lt_mul (by rw[Nat.mul_comm];exact hj)
   have hjk:j / k*k+j % k=j:=Nat.div_add_mod' j k
   have h1:=hcell (j / k) hd (j % k) u (by rw[←rcells_get hf xs _ hd (j % k) (Nat.mod_lt _ hk0),hjk];exact hu)
   rw[hjk,Addr.add_lit] at h1
   exact h1
  ·have h1:=bulks_len ((List.range len).map D)
   rw[List.length_map,List.length_range] at h1
   show xs.length≤Rows.uptoBulk (DataW.slice _ _)
   omega
  ·obtain⟨i,hi,rfl⟩:=List.mem_iff_getElem.1 hx
   refine⟨D i,(hxs i hi).1,lez (bulk_mem ?_) hbulk⟩
   exact List.mem_map_of_mem (List.mem_range.2 (by omega))
end
end Go.Proofs.YtlibhkehebioeaaGreatDoor
namespace Go.Proofs.YtlibhkehebioeaaGreatDoor
set_option linter.unusedVariables false
set_option linter.unusedSimpArgs false
set_option maxRecDepth 100000
set_option maxHeartbeats 40000000
open Go.RowKit
def lessD (q:List Int)(c:Int):List Int:=q.filter λy=>!(y==c)
section
variable {num:Txt→Int×Bool}{ita:Int→Txt}{s:StD}{c i r o:Int}{k v d:Txt}
end
end Go.Proofs.YtlibhkehebioeaaGreatDoor
namespace Go.Proofs.YtlibhkehebioeaaGreatDoor
set_option linter.unusedVariables false
set_option linter.unusedSimpArgs false
set_option maxRecDepth 100000
set_option maxHeartbeats 40000000
open Go.Lib
def leadB (b:UInt8):Prop:=49≤b.toNat∧b.toNat≤57
theorem decDigits_step (a d:Nat)(ha:0<a)(hd:d<10):decDigits (a*10+d)=decDigits a++[UInt8.ofNat (48+d)]:=by
 rw[decDigits,dif_neg (by omega),show (a*10+d) / 10=a by omega,show (a*10+d) % 10=d by omega]
theorem decFrom_digits:∀ (ds:List UInt8) (a m:Nat),0<a→decFrom a ds=some m→decDigits m=decDigits a++ds
 | [],a,m,_,h=>by
  simp only[decFrom,Option.some.injEq] at h
  rw[h,List.append_nil]
 | b::r,a,m,ha,h=>by
  simp only[decFrom] at h
  cases hd:digitVal b with
  | none=>rw[hd] at h;cases h
  | some d=>
   rw[hd] at h
   obtain⟨h1,h2,h3⟩:=digitVal_eq hd
   have:=decFrom_digits r (a*10+d) m (by omega) h
   rw[this,decDigits_step a d ha (by omega),List.append_assoc]
   have e:UInt8.ofNat (48+d)=b:=by rw[show 48+d=b.toNat by omega];simp
   rw[e]
   rfl
theorem digits_of {b:UInt8} {r:List UInt8} {m:Nat} (hb:leadB b) (h:decFrom 0 (b::r)=some m):decDigits m=b::r∧0<m:=by
 have hv:digitVal b=some (b.toNat - 48):=by unfold digitVal;rw[if_pos (by unfold leadB at hb;omega)]
 simp only[decFrom,hv,Nat.zero_mul,Nat.zero_add] at h
 unfold leadB at hb
 have h1:=decFrom_digits r (b.toNat - 48) m (by omega) h
 rw[decDigits_one (i:=b.toNat - 48) (by omega)] at h1
 have e:UInt8.ofNat (48+(b.toNat - 48))=b:=by rw[show 48+(b.toNat - 48)=b.toNat by omega];simp
 rw[e] at h1
 refine⟨h1,?_⟩
 rcases Nat.eq_zero_or_pos m with h0 | h0
 ·subst h0
  rw[decDigits_one (by omega)] at h1
  injection h1 with h1
  rw[←h1] at hb
  simp at hb
 ·exact h0
theorem decFrom_append:∀ (xs ys:List UInt8) (a:Nat),decFrom a (xs++ys)=(decFrom a xs).bind λk=>decFrom k ys
 | [],ys,a=>by simp[decFrom]
 | b::r,ys,a=>by
  simp only[List.cons_append,decFrom]
  cases digitVal b with
  | none=>rfl
  | some d=>exact decFrom_append r ys _
theorem digitVal_of (d:Nat)(hd:d<10):digitVal (UInt8.ofNat (48+d))=some d:=by
 have e:(UInt8.ofNat (48+d)).toNat=48+d:=by rw[UInt8.toNat_ofNat',Nat.mod_eq_of_lt (by omega)]
 unfold digitVal
 rw[e,if_pos (by omega)]
 congr 1
 omega
theorem digits_back (u:Nat):decFrom 0 (decDigits u)=some u∧(0<u→∃b r,decDigits u=b::r∧leadB b):=by
 induction u using Nat.strongRecOn with
 | _ u ih=>
  by_cases h:u<10
  ·rw[decDigits_one h]
   have e:(UInt8.ofNat (48+u)).toNat=48+u:=by rw[UInt8.toNat_ofNat',Nat.mod_eq_of_lt (by omega)]
   exact⟨by simp only[decFrom,digitVal_of u h,Nat.zero_mul,Nat.zero_add],λh0=>⟨_,_,rfl,by unfold leadB;omega⟩⟩
  ·obtain⟨h1,h2⟩:=ih (u / 10) (by omega)
   obtain⟨b,r,hb,hl⟩:=h2 (by omega)
   rw[show u=u / 10*10+u % 10 by omega,decDigits_step _ _ (by omega) (by omega)]
   refine⟨?_,λ_=>⟨b,r++[UInt8.ofNat (48+u % 10)],by rw[hb];rfl,hl⟩⟩
   rw[decFrom_append,h1]
   simp only[Option.bind_some,decFrom,digitVal_of (u % 10) (by omega)]
def rdig (l ds:List UInt8) (neg:Bool):Int×Bool:=match ds with
 | []=>(0,false)
 | b::r=>if b.toNat<49∨57<b.toNat then (0,false) else match decFrom 0 (b::r) with
  | none=>(0,false)
  | some m=>(if neg=true then -(m:Int) else (m:Int),true)
def rnum (l:List UInt8):Int×Bool:=
 if l.length=0∨8<l.length then (0,false) else if l=[48] then (0,true) else match l with
  | []=>(0,false)
  | b::r=>if b=45 then rdig l r true else rdig l (b::r) false
theorem rdig_zero (l ds:List UInt8) (neg:Bool) (h:(rdig l ds neg).2=false):(rdig l ds neg).1=0:=by
 unfold rdig at h ⊢
 split
 ·rfl
 ·split
  ·rfl
  ·split
   ·rfl
   ·rename_i hh
    simp only[hh] at h
    rw[if_neg (by omega)] at h
    cases h
theorem rdig_of {l ds:List UInt8}{neg:Bool}{u:Nat}(hu:0<u)(h:ds=decDigits u):rdig l ds neg=(if neg=true then -(u:Int) else (u:Int),true):=by
 obtain⟨h1,h2⟩:=digits_back u
 obtain⟨b,r,hb,hl⟩:=h2 hu
 rw[hb] at h1
 rw[h,hb]
 unfold leadB at hl
 simp only[rdig]
 rw[if_neg (by omega),h1]
theorem rdig_back {l ds:List UInt8} {neg:Bool} (h:(rdig l ds neg).2=true):∃u,0<u∧ds=decDigits u∧decFrom 0 ds=some u∧ds≠[]:=by
 unfold rdig at h
 split at h
 ·cases h
 ·split at h
  ·cases h
  ·rename_i b r hl
   split at h
   ·cases h
   ·rename_i m hm
    obtain⟨h1,h2⟩:=digits_of (b:=b) (by unfold leadB;omega) hm
    exact⟨m,h2,h1.symm,hm,by simp⟩
theorem itoa_pos (u:Nat):itoa (u:Int)=decDigits u:=by
 unfold itoa
 rw[if_neg (by omega),Int.toNat_natCast]
theorem itoa_neg' (u:Nat)(hu:0<u):itoa (-(u:Int))=45::decDigits u:=by
 unfold itoa
 rw[if_pos (by omega),Int.natAbs_neg,Int.natAbs_natCast]
theorem lead_ne {u:Nat}{b:UInt8}{r:List UInt8}(hu:0<u)(h:decDigits u=b::r):b≠45∧b≠43∧¬(b::r=[48]):=by
 obtain⟨_,h2⟩:=digits_back u
 obtain⟨b',r',hb,hl⟩:=h2 hu
 rw[h] at hb
 injection hb with hb hr
 subst hb
 unfold leadB at hl
 refine⟨λh=>?_,λh=>?_,λh=>?_⟩
 ·rw[h] at hl;simp at hl
 ·rw[h] at hl;simp at hl
 ·injection h with h;rw[h] at hl;simp at hl
theorem rnum_eq (l:List UInt8):rnum l=(if (numb l).2=true then (numb l).1 else 0,(numb l).2):=by
 by_cases hl:l.length=0∨8<l.length
 ·unfold rnum
  rw[if_pos hl]
  have:numb l=(0,false):=by
   unfold numb
   rcases hl with h | h
   ·have:l=[]:=List.eq_nil_of_length_eq_zero h
    subst this
    simp[atoi]
   ·rw[if_pos h]
  rw[this]
  rfl
 ·have h8:¬8<l.length:=λh=>hl (.inr h)
  by_cases h0:l=[48]
  ·subst h0
   have h1:itoa 0=[48]:=by
    rw[show (0:Int)=((0:Nat):Int) by omega,itoa_pos,decDigits_one (by omega)]
    rfl
   have h2:numb [48]=(0,true):=by
    unfold numb
    rw[if_neg (by decide),show atoi [48]=some 0 by decide]
    simp only[h1]
    rfl
   rw[h2]
   rfl
  ·cases l with
   | nil=>exact absurd (.inl rfl) hl
   | cons b r=>
    have hr:rnum (b::r)=if b=45 then rdig (b::r) r true else rdig (b::r) (b::r) false:=by
     unfold rnum
     rw[if_neg hl,if_neg h0]
    have hnumb:numb (b::r)=match atoi (b::r) with
     | none=>(0,false)
     | some n=>(n,itoa n==b::r):=by rw[numb,if_neg h8];rfl
    rw[hr]
    by_cases hb:b=45
    ·subst hb
     rw[if_pos rfl]
     have hat:atoi (45::r)=(decNat r).map fun (m:Nat) => -(m:Int):=by simp[atoi]
     rw[hat] at hnumb
     cases hq:(rdig (45::r) r true).2 with
     | true=>
      obtain⟨u,hu,hds,hdf,hne⟩:=rdig_back hq
      have hn:decNat r=some u:=by
       unfold decNat
       rw[if_neg (by simpa using hne),hdf]
      rw[hn] at hnumb
      have hit:itoa (-(u:Int))=45::r:=by rw[itoa_neg' u hu,←hds]
      rw[rdig_of hu hds,hnumb]
      simp[hit]
     | false=>
      have h1:=rdig_zero _ _ _ hq
      have hf:(numb (45::r)).2=false:=by
       cases hf:(numb (45::r)).2 with
       | false=>rfl
       | true=>
        rw[hnumb] at hf
        cases hn:decNat r with
        | none=>rw[hn] at hf;cases hf
        | some u=>
         rw[hn] at hf
         simp only[Option.map_some,beq_iff_eq] at hf
         rcases Nat.eq_zero_or_pos u with hz | hz
         ·subst hz
          rw[show (-((0:Nat):Int))=((0:Nat):Int) by omega,itoa_pos,decDigits_one (by omega)] at hf
          cases hf
         ·rw[itoa_neg' u hz] at hf
          injection hf with _ hf
          rw[rdig_of hz hf.symm] at hq
          cases hq
      rw[hf]
      exact Prod.ext h1 hq
    ·rw[if_neg hb]
     cases hq:(rdig (b::r) (b::r) false).2 with
     | true=>
      obtain⟨u,hu,hds,hdf,hne⟩:=rdig_back hq
      obtain⟨n1,n2,n3⟩:=lead_ne hu hds.symm
      have hn:decNat (b::r)=some u:=by
       unfold decNat
       rw[if_neg (by simp),hdf]
      have hat:atoi (b::r)=some (u:Int):=by
       simp[atoi,n1,n2,hn]
      rw[hat] at hnumb
      have hit:itoa (u:Int)=b::r:=by rw[itoa_pos,←hds]
      rw[rdig_of hu hds,hnumb]
      simp[hit]
     | false=>
      have h1:=rdig_zero _ _ _ hq
      have hf:(numb (b::r)).2=false:=by
       cases hf:(numb (b::r)).2 with
       | false=>rfl
       | true=>
        rw[hnumb] at hf
        cases hn:atoi (b::r) with
        | none=>rw[hn] at hf;cases hf
        | some n=>
         rw[hn] at hf
         simp only[beq_iff_eq] at hf
         by_cases hneg:n<0
         ·obtain⟨u,rfl⟩:∃u:Nat,n = -(u:Int):=⟨n.natAbs,by omega⟩
          rw[itoa_neg' u (by omega)] at hf
          injection hf with hf _
          exact absurd hf.symm hb
         ·obtain⟨u,rfl⟩:∃u:Nat,n=(u:Int):=⟨n.toNat,by omega⟩
          rw[itoa_pos] at hf
          rcases Nat.eq_zero_or_pos u with hz | hz
          ·subst hz
           rw[decDigits_one (by omega)] at hf
           exact absurd hf.symm h0
          ·rw[rdig_of hz hf.symm] at hq
           cases hq
      rw[hf]
      exact Prod.ext h1 hq
end Go.Proofs.YtlibhkehebioeaaGreatDoor
namespace Go.Proofs.YtlibhkehebioeaaGreatDoor
set_option linter.unusedVariables false
set_option linter.unusedSimpArgs false
set_option maxRecDepth 100000
set_option maxHeartbeats 40000000
open Go.RowKit
section
variable {s:StD}{c i r o:Int}{k v d:Txt}
end
theorem Rd.intAt {w:World}{Z:Nat→Prop}{A:Option Addr}{n k:Nat}{l:List Int}(h:Rd w Z 1 A n (ics l))(hk:k<n) :
 ∃b o,A=some ⟨b,o,none⟩∧Z b∧∃ (hl:k<l.length),w.cell? ⟨b,o+k,none⟩=some (.int .i64 l[k]):=by
 obtain⟨b,o,hA,hz,hl,hc⟩:=h.at1 hk
 have hl2:k<l.length:=by simpa[ics] using hl
 exact⟨b,o,hA,hz,hl2,by rw[hc];simp[ics]⟩
theorem Rd.strAt {w:World}{Z:Nat→Prop}{A:Option Addr}{n k:Nat}{l:List Txt}(h:Rd w Z 1 A n (l.map str))(hk:k<n) :
 ∃b o,A=some ⟨b,o,none⟩∧Z b∧∃ (hl:k<l.length),w.cell? ⟨b,o+k,none⟩=some (str l[k]):=by
 obtain⟨b,o,hA,hz,hl,hc⟩:=h.at1 hk
 have hl2:k<l.length:=by simpa using hl
 exact⟨b,o,hA,hz,hl2,by rw[hc];simp⟩
theorem take_same {α:Type}{l m:List α}{k:Nat}(h:l.take k=m.take k)(hl:k<l.length)(hm:k<m.length)(he:l[k]=m[k]):l.take (k+1)=m.take (k+1):=by
 rw[List.take_succ_eq_append_getElem hl,List.take_succ_eq_append_getElem hm,h,he]
theorem samenames_any (Z1 Z2:Nat→Prop) (A1 A2:Option Addr) (n1 c1 n2 c2:Nat) (l1 l2:List Txt) (w:World) (h1:Rd w Z1 1 A1 n1 (l1.map str)) (h2:Rd w Z2 1 A2 n2 (l2.map str)) (hn:n1≤1099511627770) (hn2:n2≤1099511627770) :
 Calls Tryz.prog 33 #[.slice A1 n1 c1,.slice A2 n2 c2] w λe w'=>e=.returned (.bool (decide (l1=l2)))∧∃k,w'=w.drewN k:=by
 have hl1:l1.length=n1:=by simpa using h1.1
 have hl2:l2.length=n2:=by simpa using h2.1
 obtain⟨r,hr⟩:=exz (decide (l1=l2))
 rw[←hr]
 by_cases hne:n1=n2
 ·subst hne
  have HA:=hdz (aiz h1 (aiz h2 (aiz hl1 (aiz hl2 hr))))
  clear h1 h2 hl1 hl2 hr
  go_enter Tryz.func33,Tryz.ntmps33
  go_wp2
  go_loopw [5] (λi wr=>∃ (k d:Nat),k≤n1∧i=.int .i64 (k:Int)∧wr=w.drewN d∧Hid (l1.take k=l2.take k)) (λi _=>n1 - (intOf i).toNat)
  case atStart=>exact⟨0,0,Nat.zero_le _,rfl,rfl,rfl⟩
  case round=>
   obtain⟨k,d,hk,rfl,rfl,HW⟩:=hrel
   by_cases hlt:k<n1
   ·obtain⟨b1,o1,rfl,-,g1,e1⟩:=HA.out.1.strAt hlt
    obtain⟨b2,o2,rfl,-,g2,e2⟩:=HA.out.2.1.strAt hlt
    obtain⟨x,hx⟩:=exz (l1[k])
    obtain⟨y,hy⟩:=exz (l2[k])
    rw[←hx] at e1
    rw[←hy] at e2
    have HX:=hdz (aiz hx hy)
    clear hx hy
    by_cases hxy:x=y
    ·have hs:=take_same HW.out g1 g2 (by rw[←HX.out.1,←HX.out.2,hxy])
     have HS:=hdz hs
     clear hs HX HW g1 g2
     subst hxy
     go_wp2_with fail
     go_quiet (fail)
     go_wp2_with fail
     exact⟨⟨k+1,_,by omega,congrArg _ (by omega),rfl,HS.out⟩,by simp[intOf];omega⟩
    ·have hf:r=false:=by
      rw[HA.out.2.2.2.2]
      refine decide_eq_false λh=>hxy ?_
      subst h
      rw[HX.out.1,HX.out.2]
     clear HX HW g1 g2
     subst hf
     have hb:(!(x==y))=true:=by simpa using hxy
     go_wp2_with fail
     go_quiet (fail)
     go_wp2_with fail
     go_ret
     exact⟨rfl,_,World.drewN_drewN _ _ _⟩
   ·obtain rfl:k=n1:=by omega
    have ht:r=true:=by
     rw[HA.out.2.2.2.2]
     have:=HW.out
     rw[List.take_of_length_le (by rw[HA.out.2.2.1];exact lrz _),List.take_of_length_le (by rw[HA.out.2.2.2.1];exact lrz _)] at this
     exact decide_eq_true this
    subst ht
    clear HW
    go_wp2_with fail
    go_ret
    exact⟨rfl,_,rfl⟩
 ·have hf:r=false:=by
   rw[hr]
   exact decide_eq_false λh=>hne (by rw[←hl1,←hl2,h])
  subst hf
  have hne':¬((n1:Int)=(n2:Int)):=by omega
  clear hr h1 h2 hl1 hl2
  go_enter Tryz.func33,Tryz.ntmps33
  go_wp2_with fail
  go_ret
  exact⟨rfl,0,rfl⟩
theorem less_le (q:List Int)(x:Int):(lessD q x).length≤q.length:=List.length_filter_le _ _
theorem less_snoc (q:List Int)(x y:Int):lessD (q++[y]) x=lessD q x++(if y=x then [] else [y]):=by
 unfold lessD
 rw[List.filter_append]
 by_cases h:y=x <;> simp[h]
theorem wait_len {k:Txt} {s:StD} (h:LInv s.locks s.tok):(waitD k s).length≤16:=by
 unfold waitD
 cases hf:lfind k s.locks with
 | none=>simp
 | some l=>
  have:=h.each l (findK_some hf).2
  simpa using queue_len this.nd this.q
section
variable {α:Type}{key:α→Txt}
theorem rise_idx {l:List α} (hr:Rise (l.map key)) {i j:Nat} (hi:i<l.length) (hj:j<l.length) (h:key l[i]=key l[j]):i=j:=by
 have hp:=List.pairwise_iff_getElem.1 hr
 rcases Nat.lt_trichotomy i j with hlt | he | hgt
 ·have h1:=before_ne (hp i j (by simpa using hi) (by simpa using hj) hlt)
  simp only[List.getElem_map] at h1
  exact absurd h h1
 ·exact he
 ·have h1:=before_ne (hp j i (by simpa using hj) (by simpa using hi) hgt)
  simp only[List.getElem_map] at h1
  exact absurd h.symm h1
theorem setK_at {l:List α} (hr:Rise (l.map key)) {i:Nat} (hi:i<l.length) {x:α} (hx:key x=key l[i]):setK key x l=l.set i x:=by
 refine List.ext_getElem (by rw[setK_len,List.length_set]) λn h1 h2=>?_
 have hn:n<l.length:=by rwa [setK_len] at h1
 have e0:(setK key x l)[n]=if key l[n]==key x then x else l[n]:=by simp[setK]
 rw[e0,List.getElem_set]
 by_cases e:i=n
 ·subst e
  rw[if_pos rfl,if_pos (by rw[hx];simp)]
 ·rw[if_neg e,if_neg]
  intro h
  have h3:key l[n]=key x:=by simpa using h
  exact e (rise_idx hr hi hn (by rw[h3,hx]))
theorem delK_at {l:List α} (hr:Rise (l.map key)) {i:Nat} (hi:i<l.length):delK key (key l[i]) l=l.eraseIdx i:=by
 rw[List.eraseIdx_eq_take_drop_succ]
 unfold delK
 have e:l=l.take i++l[i]::l.drop (i+1):=by rw[←List.drop_eq_getElem_cons hi,List.take_append_drop]
 have h1:(l.take i).filter (λx=>!(key x==key l[i]))=l.take i:=List.filter_eq_self.2 λx hx=>by
  obtain⟨n,hn,rfl⟩:=List.getElem_of_mem hx
  have hni:n<i:=by rw[List.length_take] at hn;omega
  rw[List.getElem_take]
  have:key l[n]≠key l[i]:=λe=>by have:=rise_idx hr (by omega) hi e;omega
  simpa using this
 have h2:(l.drop (i+1)).filter (λx=>!(key x==key l[i]))=l.drop (i+1):=List.filter_eq_self.2 λx hx=>by
  obtain⟨n,hn,rfl⟩:=List.getElem_of_mem hx
  rw[List.length_drop] at hn
  rw[List.getElem_drop]
  have:key l[i+1+n]≠key l[i]:=λe=>by have:=rise_idx hr (by omega) hi e;omega
  simpa using this
 obtain⟨k,hk⟩:=exz (key l[i])
 rw[←hk] at h1 h2 ⊢
 have h3:l.filter (λx=>!(key x==k))=(l.take i++l[i]::l.drop (i+1)).filter (λx=>!(key x==k)):=congrArg _ e
 rw[h3,List.filter_append,List.filter_cons,h1,h2,if_neg (by simp[hk])]
theorem erase_skip {l:List α}{i:Nat}(hi:i<l.length):(l.take (i+1)).eraseIdx i=(l.take i).eraseIdx i:=by
 rw[List.eraseIdx_of_length_le (l:=l.take i) (by rw[List.length_take];omega),List.take_succ_eq_append_getElem hi,List.eraseIdx_append_of_length_le (by rw[List.length_take];omega)]
 rw[List.length_take,Nat.min_eq_left (by omega),Nat.sub_self]
 simp
theorem erase_step {l:List α}{i j:Nat}(hj:j<l.length)(h:j≠i):(l.take (j+1)).eraseIdx i=(l.take j).eraseIdx i++[l[j]]:=by
 rw[List.take_succ_eq_append_getElem hj]
 by_cases hij:i<j
 ·rw[List.eraseIdx_append_of_lt_length (by rw[List.length_take];omega)]
 ·rw[List.eraseIdx_of_length_le (l:=l.take j) (by rw[List.length_take];omega),List.eraseIdx_of_length_le (by rw[lapz,List.length_take];simp;omega)]
end
theorem pass_at {s:StD} (hr:Rise (s.locks.map LockD.name)) {i:Nat} (hi:i<s.locks.length) :
 passD s.locks[i].name s=match s.locks[i].queue with
  | []=>(0,{ s with locks:=s.locks.eraseIdx i })
  | c::q=>if 99999999≤s.tok then (0,{ s with locks:=s.locks.eraseIdx i }) else (s.tok+1,{ s with locks:=s.locks.set i ⟨s.locks[i].name,c,s.tok+1,q⟩,tok:=s.tok+1 }):=by
 have hf:lfind s.locks[i].name s.locks=some s.locks[i]:=findK_of hr (List.getElem_mem hi) rfl
 unfold passD
 rw[hf]
 simp only
 rw[delK_at hr hi]
 cases s.locks[i].queue with
 | nil=>rfl
 | cons c q=>
  simp only
  rw[setK_at (key:=LockD.name) hr hi (x:=⟨s.locks[i].name,c,s.tok+1,q⟩) rfl]
end Go.Proofs.YtlibhkehebioeaaGreatDoor
