/- A PART OF THE PROOF. No condition. -/
import Derived.Test.YtlibhkehebioeaaGreatDoorP17
namespace Go.Proofs.YtlibhkehebioeaaGreatDoor
set_option linter.unusedVariables false
set_option linter.unusedSimpArgs false
set_option maxRecDepth 100000
set_option maxHeartbeats 40000000
open Go.RowKit
theorem heldBy_snoc (c:Int) (l:List LockD) (x:LockD):heldBy c (l++[x])=heldBy c l++(if x.holder=c then [x.name] else []):=by
 unfold heldBy
 rw[List.filter_append,List.map_append]
 by_cases h:x.holder=c
 ·simp[h]
 ·have h2:(x.holder==c)=false:=by simpa using h
  simp[h,h2]
theorem heldBy_le (c:Int)(l:List LockD):(heldBy c l).length≤l.length:=by
 unfold heldBy
 rw[List.length_map]
 exact List.length_filter_le _ _
def midL (c:Int)(ls:List LockD)(j:Nat):List LockD:=(ls.take j).map (leaveL c)++ls.drop j
theorem midL_zero (c:Int)(ls:List LockD):midL c ls 0=ls:=by simp[midL]
theorem midL_all (c:Int)(ls:List LockD):midL c ls ls.length=ls.map (leaveL c):=by simp[midL]
theorem midL_len (c:Int)(ls:List LockD){j:Nat}(hj:j≤ls.length):(midL c ls j).length=ls.length:=by
 simp[midL]
 omega
theorem midL_at (c:Int) (ls:List LockD) {j:Nat} (hj:j<ls.length) (h:j<(midL c ls j).length):(midL c ls j)[j]=ls[j]:=by
 have e:((ls.take j).map (leaveL c)).length=j:=by simp;omega
 have h1:(midL c ls j)[j]?=some ls[j]:=by
  unfold midL
  rw[List.getElem?_append_right (by rw[e];exact lrz _),e,Nat.sub_self,List.getElem?_drop,Nat.add_zero]
  exact List.getElem?_eq_getElem hj
 rw[List.getElem?_eq_getElem h] at h1
 injection h1
theorem midL_step (c:Int)(ls:List LockD){j:Nat}(hj:j<ls.length):(midL c ls j).set j (leaveL c ls[j])=midL c ls (j+1):=by
 have e:((ls.take j).map (leaveL c)).length=j:=by simp;omega
 unfold midL
 rw[List.set_append,if_neg (by rw[e];exact Nat.lt_irrefl _),e,Nat.sub_self,List.drop_eq_getElem_cons hj,zp2,List.take_succ_eq_append_getElem hj,List.map_append]
 simp
structure LetsD (B:Nat)(F:Nat→Prop)(w wr:World)(d:Nat)(pv hv:Value)(s:StD)(c:Int)(j i:Nat)(nv:Value)(hs:List DLk)(F':Nat→Prop):Prop where
 ok:DAt B F' wr d pv hv hs { s with locks:=midL c s.locks j }
 fF:∀k,F' k→F k∨w.heap.size≤k
 fl:∀k,F' k→k<wr.heap.size
 nm:wr.ownsRow w.heap.size 9 1 nv (heldBy c (s.locks.take i)).length ((heldBy c (s.locks.take i)).map str)
 nF:∀k,nv.ownBlock=some k→¬F' k
 kp:Keep (λk=>¬F k) w wr
section
variable {B:Nat}{F F':Nat→Prop}{w wr w2:World}{d:Nat}{pv hv:Value}{hs:List DLk}{s:StD}{c:Int}{j i:Nat}{nv:Value}
theorem LetsD.dat (h:LetsD B F w wr d pv hv s c j i nv hs F')(hj:j<s.locks.length):∃hl:j<hs.length,hs[j].d=s.locks[j]:=by
 have hm:=midL_len c s.locks (Nat.le_of_lt hj)
 have h1:hs.length=s.locks.length:=by rw[h.ok.hlen,←hm]
 refine⟨by omega,?_⟩
 have h2:hs.map DLk.d=midL c s.locks j:=h.ok.ds
 have h3:(hs.map DLk.d)[j]'(by simp;omega)=hs[j].d:=by simp
 rw[←h3]
 exact (List.getElem_of_eq h2 _).trans (midL_at c s.locks hj (by omega))
theorem LetsD.stepQ {g n cc:Nat} (h:LetsD B F w wr d pv (.slice (some ⟨g,0,none⟩) n cc) s c j i nv hs F') (hj:j<s.locks.length) (hf:Fresh wr w2) {v:Value} (ho:w2.ownsRow wr.heap.size 3 1 v (lessD s.locks[j].queue c).length (ics (lessD s.locks[j].queue c))) (hB:B≤w.heap.size) :
 LetsD B F w (w2.setCell ⟨g,j*4+3,none⟩ v) d pv (.slice (some ⟨g,0,none⟩) n cc) s c (j+1) i nv (hs.set j ⟨leaveL c s.locks[j],v⟩) (λk=>F' k∨v.ownBlock=some k):=by
 obtain⟨hl,hd⟩:=h.dat hj
 have hw:=h.kp.size
 have h1:=h.ok.setQ hl (g:=g) (by simp[Value.ownBlock]) (w2:=w2) (hf.weaken λ_ _ _=>trivial) (q:=lessD s.locks[j].queue c) (own_base ho (by omega)) (λk hk=>.inr (own_lt ho hk).1)
 have e:({ hs[j].d with queue:=lessD s.locks[j].queue c }:LockD)=leaveL c s.locks[j]:=by rw[hd];rfl
 rw[e] at h1
 simp only[midL_step c s.locks hj] at h1
 have hgF:F' g:=h.ok.fh g (by simp[Value.ownBlock])
 refine⟨h1,λk hk=>hk.elim (h.fF k) λe=>.inr (by have:=(own_lt ho e).1;omega),λk hk=>?_,?_,λk hk hk2=>?_,?_⟩
 ·have hs2:(w2.setCell ⟨g,j*4+3,none⟩ v).heap.size=w2.heap.size:=by simp[World.setCell]
  rw[hs2]
  exact hk.elim (λe=>ltz (h.fl k e) hf.size) λe=>(own_lt ho e).2
 ·exact own_far (own_keep h.nm hf λ_ _=>trivial) (p:=⟨g,j*4+3,none⟩) (λe=>h.nF _ e hgF) _
 ·rcases hk2 with hk2 | hk2
  ·exact h.nF k hk hk2
  ·have:=(own_lt ho hk2).1
   have:=(own_lt h.nm hk).2
   omega
 ·exact (h.kp.comp hf (λ_ _ h=>h) λ_ _ _=>trivial).setCell (λhg hn=>(h.fF g hgF).elim hn λh2=>Nat.not_lt.2 h2 hg) _
theorem LetsD.skip (h:LetsD B F w wr d pv hv s c j i nv hs F')(hi:i<s.locks.length)(hne:s.locks[i].holder≠c):LetsD B F w wr d pv hv s c j (i+1) nv hs F':=by
 have e:heldBy c (s.locks.take (i+1))=heldBy c (s.locks.take i):=by rw[List.take_succ_eq_append_getElem hi,heldBy_snoc,if_neg hne,List.append_nil]
 exact⟨h.ok,h.fF,h.fl,by rw[e];exact h.nm,h.nF,h.kp⟩
theorem LetsD.stepN (h:LetsD B F w wr d pv hv s c j i nv hs F') (hi:i<s.locks.length) (he:s.locks[i].holder=c) {nv':Value} (ho:w2.ownsRow w.heap.size 9 1 nv' ((heldBy c (s.locks.take i)).length+1) ((heldBy c (s.locks.take i)).map str++[str s.locks[i].name]))
 (hk:Keep (λk=>nv.ownBlock≠some k) wr w2) (hn:Next wr.heap.size nv nv'):LetsD B F w w2 d pv hv s c j (i+1) nv' hs F':=by
 have e:heldBy c (s.locks.take (i+1))=heldBy c (s.locks.take i)++[s.locks[i].name]:=by rw[List.take_succ_eq_append_getElem hi,heldBy_snoc,if_pos he]
 refine⟨h.ok.keep hk λk hk e=>h.nF k e hk,h.fF,λk hk2=>ltz (h.fl k hk2) hk.size,by rw[e];simpa using ho,λk hk2 hF=>?_,h.kp.comp hk (λ_ _ h=>h) λk hk2 _ e=>by have:=(own_lt h.nm e).1;omega⟩
 rcases hn with h1 | ⟨g,h1,h2⟩
 ·exact h.nF k (h1 ▸ hk2) hF
 ·rw[h1] at hk2
  injection hk2 with hk2
  have:=h.fl k hF
  omega
end
theorem take_nodup {ns:List Txt} (hn:ns.Nodup) {k:Nat} (hk:k<ns.length):ns[k] ∉ ns.take k:=by
 intro h
 have h2:(ns.take k++[ns[k]]).Nodup:=by
  rw[List.take_append_getElem hk]
  exact hn.sublist (List.take_sublist _ _)
 exact (List.nodup_append.1 h2).2.2 _ h _ (by simp) rfl
structure LetsE (B:Nat)(F:Nat→Prop)(w wr:World)(d:Nat)(s:StD)(ns:List Txt)(nv:Value):Prop where
 ok:∃pv hv hs F',DAt B F' wr d pv hv hs s∧(∀k,F' k→F k∨w.heap.size≤k)∧∀k,nv.ownBlock=some k→¬F' k
 nm:wr.ownsRow w.heap.size 9 1 nv ns.length (ns.map str)
 kp:Keep (λk=>¬F k) w wr
theorem dlets_any {B:Nat} {F:Nat→Prop} {w:World} {d:Nat} {pv hv:Value} {hs:List DLk} {s:StD} (h:DAt B F w d pv hv hs s) (hi:LInv s.locks s.tok) (c:Int) (hB:B≤w.heap.size) :
 Calls Tryz.prog 132 #[.pointer (some ⟨d,0,none⟩),.int .i64 c] w λe w'=>e=.returned (.int .i64 (letsD c s).1)∧DStep B F w d (letsD c s).2 w':=by
 obtain⟨n,hnn⟩:=exz (s.locks.length)
 have hn8:=hi.len
 rw[←hnn] at hn8
 have hlk:=h.lk
 rw[←hnn] at hlk
 obtain⟨A,cc,rfl,-,-⟩:=own_rd hlk
 obtain⟨R,hR⟩:=exz (letsD c s)
 rw[←hR]
 have hds:=h.ds
 have HA:=hdz (aiz h.tight (aiz hi (aiz hB (aiz hnn hR))))
 clear h hi hB hnn hR hlk hds
 go_enter Tryz.func132,Tryz.ntmps132
 go_wp2_with fail
 go_loopw [5,6] (λnv iv wr=>∃j:Nat,j≤n∧iv=.int .i64 (j:Int)∧Hid (∃hs' F',LetsD B (λk=>F k∧k<w.heap.size) w wr d pv (.slice A n cc) s c j j nv hs' F')) (λ_ i _=>n - (intOf i).toNat)
 case atStart=>exact⟨0,by omega,rfl,hdz ⟨hs,_,by rw[midL_zero];exact HA.out.1,λk hk=>.inl hk,λk hk=>hk.2,by exact onz _ _ _ _,λk hk=>by (simp[Value.ownBlock] at hk),krz _ _⟩⟩
 case round=>
  rename World=>wr
  obtain⟨j,hj,rfl,HR⟩:=hrel
  obtain⟨hs',F',hL⟩:=HR.out
  have x1:=hL.ok.three.2.1
  have ld:=hL.ok.blk.lt
  by_cases hlt:j<n
  ·have hjs:j<s.locks.length:=by rw[←HA.out.2.2.2.1];exact hlt
   obtain⟨hjl,hdj⟩:=hL.dat hjs
   have hlk:=hL.ok.lk
   have hml:(midL c s.locks j).length=n:=by rw[midL_len c s.locks (Nat.le_of_lt hjs)];exact HA.out.2.2.2.1.symm
   have hlk:wr.ownsRow B 157 4 (.slice A n cc) n (rcells DLk.cells hs'):=by
    have h1:=hL.ok.lk
    simp only[hml] at h1
    exact h1
   obtain⟨g,c2,e,-,hgl⟩:=own_form hlk (by omega)
   injection e with e1 e2 e3
   subst e1 e3
   obtain⟨_,b0,o0,e0,-,c0,c1,_,c3⟩:=(Blk.rdOwn hlk).lockE hlt
   injection e0 with e0
   injection e0 with e0 e00
   subst e0 e00
   rw[Nat.zero_add] at c0 c1 c3
   rw[hdj] at c0 c1
   have ho0:=hL.ok.qs _ (List.getElem_mem hjl)
   rw[hdj] at ho0
   obtain⟨Aq,cq,eqv,hrq,-⟩:=own_rd ho0
   rw[eqv] at c3
   obtain⟨nq,hnq⟩:=exz (s.locks[j].queue.length)
   rw[←hnq] at c3 hrq
   have hok:=HA.out.2.1.each _ (List.getElem_mem hjs)
   have hq16:=queue_len hok.nd hok.q
   have HWo:=hdz (without_any _ Aq nq cq s.locks[j].queue c (World.drew wr) (hrq.keep ((krz _ wr).drew)) (by omega))
   obtain⟨nm,hnm⟩:=exz (s.locks[j].name)
   obtain⟨ho,hho⟩:=exz (s.locks[j].holder)
   rw[←hnm] at c0
   rw[←hho] at c1
   have hdg:d≠g:=λe=>hL.ok.nd (by simp[Value.ownBlock,e])
   have lg:=lt_of_cell c3
   have hji:(j:Int)<(n:Int):=by omega
   have f3:=own_frozen hlk (g:=g) (j*4+3) (by simp[Value.ownBlock])
   have hlen8:(heldBy c (s.locks.take j)).length≤8:=by
    have h1:=heldBy_le c (s.locks.take j)
    have h2:=List.length_take_le j s.locks
    omega
   have HL:=hdz (aiz hL (aiz hnm (aiz hho (aiz hlen8 hjs))))
   clear hL hlk hml ho0 eqv hrq hok hq16 hdj hnm hho hlen8 HR hnq
   go_wp2_with fail
   refine wp_region_held_drew (S:=λw'=>w'.cell? ⟨d,1,none⟩=some (.slice (some ⟨g,0,none⟩) n cc)) (by kernel_rfl) x1 (λhHeld=>?_)
   refine wpAnyH_take (i:=0) (v:=.pointer (some ⟨d,0,none⟩)) rfl (by kernel_rfl) (by kernel_rfl) (by kernel_rfl) (λ_ _ _ h=>h) (Or.inl ⟨by rfl,by intro w hSw;go_simp⟩) hHeld ?_
   simp only[Act.put,zp1,zp2,zp3]
   refine wpAnyH_take (i:=1) (v:=.pointer (some ⟨d,0,none⟩)) rfl (by kernel_rfl) (by kernel_rfl) (by kernel_rfl) (λ_ _ _ h=>h) (Or.inl ⟨by rfl,by intro w hSw;go_simp⟩) hHeld ?_
   simp only[Act.put,zp1,zp2,zp3]
   refine wpAnyH_take (i:=2) (v:=.pointer (some ⟨d,1,none⟩)) rfl (by kernel_rfl) (by kernel_rfl) (by kernel_rfl) (λ_ _ _ h=>h) (Or.inl ⟨by rfl,by intro w hSw;go_simp⟩) hHeld ?_
   simp only[Act.put,zp1,zp2,zp3]
   refine wpAnyH_take (i:=3) (v:=.slice (some ⟨g,0,none⟩) n cc) rfl (by kernel_rfl) (by kernel_rfl) (by kernel_rfl) (λ_ _ _ h=>h) (Or.inl ⟨by rfl,by intro w hSw;go_simp⟩) hHeld ?_
   simp only[Act.put,zp1,zp2,zp3]
   refine wpAnyH_take (i:=4) (v:=.int .i64 (j:Int)) rfl (by kernel_rfl) (by kernel_rfl) (by kernel_rfl) (λ_ _ _ h=>h) (Or.inl ⟨by rfl,by intro w hSw;go_simp⟩) hHeld ?_
   simp only[Act.put,zp1,zp2,zp3]
   refine wpAnyH_take (i:=5) (v:=.pointer (some ⟨d,0,none⟩)) rfl (by kernel_rfl) (by kernel_rfl) (by kernel_rfl) (λ_ _ _ h=>h) (Or.inl ⟨by rfl,by intro w hSw;go_simp⟩) hHeld ?_
   simp only[Act.put,zp1,zp2,zp3]
   refine wpAnyH_take (i:=6) (v:=.pointer (some ⟨d,0,none⟩)) rfl (by kernel_rfl) (by kernel_rfl) (by kernel_rfl) (λ_ _ _ h=>h) (Or.inl ⟨by rfl,by intro w hSw;go_simp⟩) hHeld ?_
   simp only[Act.put,zp1,zp2,zp3]
   refine wpAnyH_take (i:=7) (v:=.pointer (some ⟨d,1,none⟩)) rfl (by kernel_rfl) (by kernel_rfl) (by kernel_rfl) (λ_ _ _ h=>h) (Or.inl ⟨by rfl,by intro w hSw;go_simp⟩) hHeld ?_
   simp only[Act.put,zp1,zp2,zp3]
   refine wpAnyH_take (i:=8) (v:=.slice (some ⟨g,0,none⟩) n cc) rfl (by kernel_rfl) (by kernel_rfl) (by kernel_rfl) (λ_ _ _ h=>h) (Or.inl ⟨by rfl,by intro w hSw;go_simp⟩) hHeld ?_
   simp only[Act.put,zp1,zp2,zp3]
   refine wpAnyH_take (i:=9) (v:=.int .i64 (j:Int)) rfl (by kernel_rfl) (by kernel_rfl) (by kernel_rfl) (λ_ _ _ h=>h) (Or.inl ⟨by rfl,by intro w hSw;go_simp⟩) hHeld ?_
   simp only[Act.put,zp1,zp2,zp3]
   refine wpAnyH_take (i:=10) (v:=.pointer (some ⟨g,j*4,none⟩)) rfl (by kernel_rfl) (by kernel_rfl) (by kernel_rfl) (λ_ _ _ h=>h) (Or.inl ⟨by rfl,by intro w hSw;go_simp⟩) hHeld ?_
   simp only[Act.put,zp1,zp2,zp3]
   refine wpAnyH_take (i:=11) (v:=.pointer (some ⟨g,j*4+3,none⟩)) rfl (by kernel_rfl) (by kernel_rfl) (by kernel_rfl) (λ_ _ _ h=>h) (Or.inl ⟨by rfl,by intro w hSw;go_simp⟩) hHeld ?_
   simp only[Act.put,zp1,zp2,zp3]
   refine wpAnyH_take (i:=13) (v:=.int .i64 c) rfl (by kernel_rfl) (by kernel_rfl) (by kernel_rfl) (λ_ _ _ h=>h) (Or.inl ⟨by rfl,by intro w hSw;go_simp⟩) hHeld ?_
   simp only[Act.put,zp1,zp2,zp3]
   refine wpAnyH_ready (rs:=[12]) (by kernel_rfl) (by simp) ?_
   refine AllReadyH.cons rfl (λK hK=>?_) AllReadyH.nil
   go_simp
   refine hK.out _ _ hHeld (λhHeld=>?_)
   clear hK K
   try simp only[Act.put,zp1,zp2,zp3]
   refine wpAnyH_ready (rs:=[14]) (by kernel_rfl) (by simp) ?_
   refine AllReadyH.cons rfl (λK hK=>?_) AllReadyH.nil
   go_simp
   (with_reducible refine Calls.mono HWo.out ?_)
   rintro e w2 ⟨⟨v,rfl,hov⟩,hf2⟩
   have h0d:Fresh wr (World.drew wr):=(krz _ wr).drew
   have hf2:=h0d.then hf2
   obtain⟨Av,cv,rfl,-⟩:=own_rd hov
   have hq2:=HL.out.1.stepQ HL.out.2.2.2.2 hf2 hov HA.out.2.2.1
   have x12:=hf2.cellAt x1 trivial
   have c32:=hf2.cellAt c3 trivial
   have f32:=(hf2.frozen (p:=⟨g,j*4+3,none⟩) lg trivial).trans f3
   have c12:=hf2.cellAt c1 trivial
   have c02:=hf2.cellAt c0 trivial
   obtain⟨lq,hlq⟩:=exz ((lessD s.locks[j].queue c).length)
   rw[←hlq] at hq2 ⊢
   obtain⟨w3,hw3⟩:=exz (w2.setCell ⟨g,j*4+3,none⟩ (.slice Av lq cv))
   rw[←hw3] at hq2
   have hk23:∀p:Addr,p≠⟨g,j*4+3,none⟩→w3.cell? p=w2.cell? p:=λp hp=>by rw[hw3];exact World.cell?_setCell_other w2 _ p _ (λe=>hp e.symm)
   have x13:w3.cell? ⟨d,1,none⟩=some (.slice (some ⟨g,0,none⟩) n cc):=(hk23 _ (by intro e;injection e with e1;exact hdg e1)).trans x12
   have c13:w3.cell? ⟨g,j*4+1,none⟩=some (.int .i64 ho):=(hk23 _ (by simp)).trans c12
   have c03:w3.cell? ⟨g,j*4,none⟩=some (str nm):=(hk23 _ (by simp)).trans c02
   have lg2:g<w2.heap.size:=lt_of_cell c32
   have HQ2:=hdz hq2
   have HW3:=hdz hw3
   clear hk23 hq2 hw3 hov hlq x1 c0 c1 c3 f3 HWo
   go_wp2_with fail
   refine hK.out _ _ x12 (λhHeld=>?_)
   clear hK K
   try simp only[Act.put,zp1,zp2,zp3]
   refine wpAnyH_take (i:=15) (v:=.pointer (some ⟨g,j*4,none⟩)) rfl (by kernel_rfl) (by kernel_rfl) (by kernel_rfl) (λ_ _ _ h=>h) (Or.inl ⟨by rfl,by intro w hSw;go_simp⟩) hHeld ?_
   simp only[Act.put,zp1,zp2,zp3]
   refine wpAnyH_take (i:=16) (v:=.pointer (some ⟨g,j*4+3,none⟩)) rfl (by kernel_rfl) (by kernel_rfl) (by kernel_rfl) (λ_ _ _ h=>h) (Or.inl ⟨by rfl,by intro w hSw;go_simp⟩) hHeld ?_
   simp only[Act.put,zp1,zp2,zp3]
   refine wpAnyH_ready (rs:=[17]) (by kernel_rfl) (by simp) ?_
   refine AllReadyH.cons rfl (λK hK=>?_) AllReadyH.nil
   go_simp
   rw[←HW3.out]
   refine hK.out _ _ x13 (λhHeld=>?_)
   clear hK K hHeld x12 c32 f32 c12 c02 lg lg2 HW3
   refine wpAnyH_done (by kernel_rfl) ?_ _
   have lg3:=lt_of_cell c03
   have ld3:=lt_of_cell x13
   by_cases he:ho=c
   ·subst he
    have hbs:=HQ2.out.kp.size
    have HLn:=hdz HL.out.2.2.2.1
    go_wp2_with (at_builtin;refine wpList_app1 etStr rfl (.tmp 45) (.tmp 54) rfl (str nm) _ rfl w.heap.size _ _ _ rfl rfl HQ2.out.nm (by have:=HLn.out;omega) HQ2.out.kp.size ?_)
    intro v4 w4 ho4 hk4 hn4
    have h4:=HQ2.out.stepN HL.out.2.2.2.2 HL.out.2.2.1.symm (by rw[HL.out.2.1] at ho4;exact ho4) hk4 hn4
    have H4:=hdz h4
    clear h4 ho4 hk4 hn4
    go_wp2_with fail
    exact⟨⟨j+1,by omega,by simp,hdz ⟨_,_,H4.out⟩⟩,by simp only[intOf];omega⟩
   ·have hb:(ho==c)=false:=by simpa using he
    have h4:=HQ2.out.skip HL.out.2.2.2.2 (by rw[←HL.out.2.2.1];exact he)
    have H4:=hdz h4
    clear h4
    go_wp2_with fail
    exact⟨⟨j+1,by omega,by simp,hdz ⟨_,_,H4.out⟩⟩,by simp only[intOf];omega⟩
  ·obtain rfl:n=j:=by omega
   obtain⟨ns,hns⟩:=exz (heldBy c s.locks)
   obtain⟨s0,hs0⟩:∃s0:StD,s0={ s with locks:=s.locks.map (leaveL c) }:=⟨_,rfl⟩
   have hok:=hL.ok
   have hnm:=hL.nm
   have htk:s.locks.take n=s.locks:=List.take_of_length_le (by rw[←HA.out.2.2.2.1];exact lrz _)
   have hml:midL c s.locks n=s.locks.map (leaveL c):=by rw[HA.out.2.2.2.1];exact midL_all c s.locks
   rw[htk,←hns] at hnm
   simp only[hml] at hok
   rw[←hs0] at hok
   have hi0:LInv s0.locks s0.tok:=by rw[hs0];exact HA.out.2.1.leave c
   have hRe:R=((ns.length:Int),passAll ns s0):=by rw[HA.out.2.2.2.2,hns,hs0];rfl
   have hnod:ns.Nodup:=by
    have h1:=HA.out.2.1.rise.nodup
    rw[hns]
    exact h1.sublist (List.Sublist.map _ List.filter_sublist)
   have hfind0:∀x∈ns,∃l,lfind x s0.locks=some l:=by
    intro x hx
    rw[hns] at hx
    unfold heldBy at hx
    obtain⟨l,h1,h2⟩:=List.mem_map.1 hx
    have h1:=(List.mem_filter.1 h1).1
    have h3:findK LockD.name x s0.locks=some (leaveL c l):=findK_of hi0.rise (by rw[hs0];exact List.mem_map.2 ⟨l,h1,rfl⟩) h2
    exact⟨_,h3⟩
   obtain⟨Ln,hLn⟩:=exz (ns.length)
   obtain⟨An,cn,rfl,-⟩:=own_rd hnm
   rw[←hLn] at hnm
   have hL8:Ln≤8:=by have:=heldBy_le c s.locks;have:=HA.out.2.2.2.1;rw[hLn,hns];omega
   have hF0:=λk hk=>(hL.fF k hk)
   have hE:LetsE B F w wr d s0 ns (.slice An Ln cn):=⟨⟨_,_,_,_,hok,λk hk=>(hL.fF k hk).imp (λh=>h.1) id,by rw[hLn];exact hL.nF⟩,by rw[←hLn];exact hnm,hL.kp.weaken λk _ h h2=>h h2.1⟩
   have HE:=hdz (aiz hE (aiz hi0 (aiz hRe (aiz hnod (aiz hfind0 hLn)))))
   rw[←hLn]
   clear hE hi0 hRe hnod hfind0 hLn hL hok hnm htk hml hns hs0 hF0 HR
   go_wp2_with fail
   go_loopw [7] (λiv wx=>∃k:Nat,k≤Ln∧iv=.int .i64 (k:Int)∧Hid (LetsE B F w wx d (passAll (ns.take k) s0) ns (.slice An Ln cn))) (λi _=>Ln - (intOf i).toNat)
   case atStart=>exact⟨0,by omega,rfl,hdz HE.out.1⟩
   case round=>
    rename World=>wx
    obtain⟨k,hk,rfl,HX⟩:=hrel
    by_cases hlk:k<Ln
    ·have hks:k<ns.length:=by rw[←HE.out.2.2.2.2.2];exact hlk
     obtain⟨⟨pv1,hv1,hs1,F1,hd1,hF1,hN1⟩,hnm1,hkp1⟩:=HX.out
     have hnm1:wx.ownsRow w.heap.size 9 1 (.slice An Ln cn) Ln (ns.map str):=by rw[←HE.out.2.2.2.2.2] at hnm1;exact hnm1
     obtain⟨A9,c9,e9,hrd9,-⟩:=own_rd hnm1
     injection e9 with e91 e92 e93
     subst e91 e93
     obtain⟨bn,on,rfl,-,hl9,cn9a⟩:=hrd9.at1 hlk
     have cn9:wx.cell? ⟨bn,on+k,none⟩=some (str ns[k]):=by rw[cn9a];simp
     clear cn9a
     have hi1:LInv (passAll (ns.take k) s0).locks (passAll (ns.take k) s0).tok:=HE.out.2.1.passAll _
     obtain⟨l,hl0⟩:=HE.out.2.2.2.2.1 ns[k] (List.getElem_mem hks)
     have hl1:lfind ns[k] (passAll (ns.take k) s0).locks=some l:=by rw[passAll_other _ _ (take_nodup HE.out.2.2.2.1 hks)];exact hl0
     obtain⟨at1,hat,hatl,hpl⟩:=placeK_find hl1
     have hnam:=(findK_some hl1).1
     have hsn:passAll (ns.take (k+1)) s0=(passD ns[k] (passAll (ns.take k) s0)).2:=by rw[List.take_succ_eq_append_getElem hks,passAll_snoc]
     have HLa:=hdz (lockAt_any hd1 ns[k] (by have:=hi1.len;omega))
     rw[hpl] at HLa
     have hpp:=passed_any hd1 hi1 hat (by have:=HA.out.2.2.1;have:=hkp1.size;omega)
     rw[hatl,hnam] at hpp
     have HPp:=hdz hpp
     obtain⟨t,ht⟩:=exz (ns[k])
     rw[←ht] at cn9 HLa HPp hsn
     have lbn:=lt_of_cell cn9
     have hki:(k:Int)<(Ln:Int):=by omega
     have ld:=hd1.blk.lt
     have HX2:=hdz (aiz hd1 (aiz hF1 (aiz hN1 (aiz hnm1 (aiz hkp1 hsn)))))
     clear hd1 hF1 hN1 hnm1 hkp1 hsn HX hks hrd9 hi1 hl0 hl1 hat hatl hpl hnam hpp ht
     go_wp2_with fail
     with_reducible refine Calls.mono HLa.out ?_
     rintro e _ ⟨rfl,rfl⟩
     go_wp2_with fail
     refine Calls.mono HPp.out ?_
     rintro e w5 ⟨rfl,⟨hv2,hs2,F2,hd2,hF2⟩,hk2⟩
     have hE5:LetsE B F w w5 d (passAll (ns.take (k+1)) s0) ns (.slice (some ⟨bn,on,none⟩) Ln cn):=by
      rw[HX2.out.2.2.2.2.2]
      have hnl:=HX2.out.2.2.2.1
      refine⟨⟨_,_,_,_,hd2,λj hj=>(hF2 j hj).elim (HX2.out.2.1 j) λh=>.inr (by have:=HX2.out.2.2.2.2.1.size;omega),λj hj hj2=>?_⟩,?_,HX2.out.2.2.2.2.1.comp hk2 (λ_ _ h=>h) λj hj h h2=>(HX2.out.2.1 j h2).elim h λh=>by omega⟩
      ·rcases hF2 j hj2 with h | h
       ·exact HX2.out.2.2.1 j hj h
       ·have:=(own_lt hnl hj).2;omega
      ·rw[←HE.out.2.2.2.2.2]
       exact own_keep hnl hk2 λj hj=>HX2.out.2.2.1 j hj
     have H5:=hdz hE5
     clear hE5 hd2 hF2 hk2
     go_wp2_with fail
     exact⟨⟨k+1,by omega,by simp,H5⟩,by simp only[intOf];omega⟩
    ·obtain rfl:Ln=k:=by omega
     go_wp2_with fail
     go_ret
     obtain⟨⟨pv1,hv1,hs1,F1,hd1,hF1,hN1⟩,hnm1,hkp1⟩:=HX.out
     have e1:ns.take Ln=ns:=List.take_of_length_le (by rw[HE.out.2.2.2.2.2];exact lrz _)
     rw[e1] at hd1
     rw[HE.out.2.2.1,←HE.out.2.2.2.2.2]
     exact⟨rfl,⟨pv1,hv1,hs1,F1,hd1,hF1⟩,hkp1⟩
theorem ddoes_any {B : Nat} {F : Nat→Prop} {w:World} {d:Nat} {pv hv:Value} {hs:List DLk} {s:StD} (h:DAt B F w d pv hv hs s) (hFb:∀j,F j→j<w.heap.size) (hi:LInv s.locks s.tok) (hp:PInv s.pairs) (hs16:s.ss.length=16) (hz00:∀z∈s.ss,0≤z.inc) (hB:B≤w.heap.size) (hT:∀w',Keep (λj=>¬F j) w w'→Tabs w') (c i r o:Int) (k v ol:Txt) (hv:validB c i r o k v ol=true) :
 Calls Tryz.prog 133 #[.pointer (some ⟨d,0,none⟩),cmdV c i r o k v ol] w (DOp B F w d (doesD numb Lib.itoa c o k v ol s)):=by
 have hV:=vcmd_of hv
 have ho1:=hV.o1
 have ho9:=hV.o9
 have hE:=hV.e
 have HO:=hdz (op_at w c i r o k v ol)
 obtain⟨G,hG⟩:=exz (w.heap.size)
 obtain⟨W,hW⟩:=exz ((w.alloc (.cells #[.int .i64 c,.int .i64 i,.int .i64 r,.int .i64 o,str k,str v,str ol] 30)).alloc (.cells #[.int .i64 0,str [],.int .i64 0] 33))
 rw[←hW,←hG] at HO
 have hdW:=h.fresh HO.out.fresh
 have hTW:∀w',Keep (λj=>¬F j) W w'→Tabs w':=λw' hk=>hT w' (HO.out.fresh.comp hk (λ_ _ _=>trivial) λ_ _ h=>h)
 have hBW:=lez hB HO.out.fresh.size
 have hFW:∀j,F j→j<W.heap.size:=λj hj=>ltz (hFb j hj) HO.out.fresh.size
 have hRF:¬F (G+1):=λe=>by have:=HO.out.sz;have:=hFb _ e;omega
 have hcm:=HO.out.cmd
 have k0:=hcm.cell 0;have k1:=hcm.cell 1;have k2:=hcm.cell 2;have k3:=hcm.cell 3;have k4:=hcm.cell 4;have k5:=hcm.cell 5;have k6:=hcm.cell 6
 simp at k0 k1 k2 k3 k4 k5 k6
 have kl:=hcm.lt
 obtain⟨r0,r1,r2,s0,s1,s2,rl⟩:=res_facts HO.out.res
 have ld:=hdW.blk.lt
 have HOut:Hid (∀w4 s4,DStep B F W d s4 w4→DStep B F w d s4 w4∧Blk w4 (G+1) 33 (resA ⟨0,[],0⟩)):=hdz λw4 s4 hst=>⟨DStep.next (F1:=F) (w1:=W) hst (λj hj=>.inl hj) (HO.out.fresh.weaken λ_ _ _=>trivial),HO.out.res.keep hst.2 hRF⟩
 have hG1:w.heap.size≤G+1:=by have:=HO.out.sz;omega
 have hcs:o≤5∨(5<o∧o≤8)∨o=9:=by omega
 rcases hcs with ho | ⟨ho,ho2⟩ | rfl
 ·have hx:=donKey_any hdW hp hBW hTW c i r o k v ol (λh=>valid_num hv (.inl h)) ho1 ho
  have hX:doesD numb Lib.itoa c o k v ol s=onKeyD numb Lib.itoa o k v ol s:=by unfold doesD;rw[if_pos ho]
  rw[hX]
  obtain⟨⟨⟨rc,rv,rn⟩,st⟩,hP⟩:∃P,P=onKeyD numb Lib.itoa o k v ol s:=⟨_,rfl⟩
  rw[←hP] at hx ⊢
  have HX:=hdz hx
  have g6 : (o == 6) = false := by have:o≠6:=by omega
                                   simpa using this
  have g7 : (o == 7) = false := by have:o≠7:=by omega
                                   simpa using this
  have g8 : (o == 8) = false := by have:o≠8:=by omega
                                   simpa using this
  have g9 : (o == 9) = false := by have:o≠9:=by omega
                                   simpa using this
  clear hx hP hX h hdW hT hTW hB hBW hFW hFb hi hp hv hV hE hcm
  go_enter Tryz.func133,Tryz.ntmps133
  go_wp2_with fail
  simp only[←hG]
  rw[←hW]
  clear hW hG
  refine Calls.mono HX.out ?_
  rintro e w4 ⟨rfl,hst⟩
  have hb:=HOut.out w4 st hst
  have H4:=hdz hb
  obtain⟨r0,r1,r2,s0,s1,s2,rl⟩:=res_facts hb.2
  clear hb hst
  go_wp2_with fail
  exact dop_ret (w:=w) rfl rfl rfl H4.out.1 H4.out.2 hG1
 ·have hx:=donLock_any hdW hFW hi hBW c i r o k v ol (λh=>valid_num hv (.inr (.inl h))) (by omega) ho2
  have hX:doesD numb Lib.itoa c o k v ol s=onLockD numb c o k v s:=by unfold doesD;rw[if_neg (by omega),if_pos ho2]
  rw[hX]
  obtain⟨⟨⟨rc,rv,rn⟩,st⟩,hP⟩:∃P,P=onLockD numb c o k v s:=⟨_,rfl⟩
  rw[←hP] at hx ⊢
  have HX:=hdz hx
  have h3:o=6∨o=7∨o=8:=by omega
  clear hx hP hX h hdW hT hTW hB hBW hFW hFb hi hp hv hV hE hcm ho ho2 ho1 ho9
  rcases h3 with rfl | rfl | rfl
  all_goals
   go_enter Tryz.func133,Tryz.ntmps133
   go_wp2_with fail
   simp only[←hG]
   rw[←hW]
   clear hW hG
   refine Calls.mono HX.out ?_
   rintro e w4 ⟨rfl,hst⟩
   have hb:=HOut.out w4 st hst
   have H4:=hdz hb
   obtain⟨r0,r1,r2,s0,s1,s2,rl⟩:=res_facts hb.2
   clear hb hst
   go_wp2_with fail
   exact dop_ret (w:=w) rfl rfl rfl H4.out.1 H4.out.2 hG1
 ·obtain⟨hn0,hn16⟩:=hE rfl
  have hvn:=rnum_numb (valid_num hv (.inr (.inr rfl)))
  have hn:=rnumber_any v W
  rw[hvn] at hn
  have hX:doesD numb Lib.itoa c 9 k v ol s=endD numb v s:=by unfold doesD;rw[if_neg (by decide),if_neg (by decide)]
  rw[hX]
  obtain⟨q,hq⟩:∃q:Nat,(numb v).1=(q:Int):=⟨(numb v).1.toNat,by omega⟩
  have hqt:((q:Int)).toNat=q:=by omega
  have hq16:q<16:=by omega
  rw[hq] at hn
  have hz0:=hdW.ask (q:=q) (by omega) 0 (by omega)
  rw[Nat.add_zero] at hz0
  obtain⟨z,hz⟩:=exz (s.ss.getD q noSes)
  rw[←hz] at hz0
  replace hz0:W.cell? ⟨d,3+q*6,none⟩=some (.bool (decide (0<z.inc))):=hz0
  have hEn:endD numb v s=if z.inc=0 then (⟨2,[],0⟩,s) else (⟨1,[],(letsD (q:Int) s).1⟩,(letsD (q:Int) s).2):=by
   unfold endD
   rw[hq,hqt,←hz]
  rw[hEn]
  obtain⟨zi,hzi⟩:=exz (z.inc)
  rw[←hzi] at hz0 ⊢
  have hzp:0≤zi:=by rw[hzi,hz];exact hz00 _ (getD_mem (by omega))
  have HN:=hdz hn
  have hqi:(q:Int)<16:=by omega
  have hL:=dlets_any hdW hi (q:Int) hBW
  by_cases h0:zi=0
  ·subst h0
   rw[if_pos rfl]
   have hst:=hdW.stay' HO.out.fresh
   have H4:=hdz (aiz hst HO.out.res)
   clear hst hL h hdW hT hTW hB hBW hFW hFb hi hp hv hV hE hcm hEn hX hn hvn hq hz hzi
   go_enter Tryz.func133,Tryz.ntmps133
   go_wp2_with fail
   simp only[←hG]
   rw[←hW]
   clear hW hG
   refine Calls.mono HN.out ?_
   rintro e _ ⟨rfl,rfl⟩
   go_wp2_with fail
   exact dop_ret (w:=w) rfl rfl rfl H4.out.1 H4.out.2 hG1
  ·rw[if_neg h0]
   obtain⟨⟨l1,l2⟩,hl⟩:∃P,P=letsD (q:Int) s:=⟨_,rfl⟩
   rw[←hl] at hL ⊢
   have HL:=hdz hL
   have hzd:decide (0<zi)=true:=by simp;omega
   clear hL h hdW hT hTW hB hBW hFW hFb hi hp hv hV hE hcm hEn hX hn hvn hq hz hzi hl
   go_enter Tryz.func133,Tryz.ntmps133
   go_wp2_with fail
   simp only[←hG]
   rw[←hW]
   clear hW hG
   refine Calls.mono HN.out ?_
   rintro e _ ⟨rfl,rfl⟩
   go_wp2_with fail
   refine Calls.mono HL.out ?_
   rintro e w4 ⟨rfl,hst⟩
   have hb:=HOut.out w4 l2 hst
   have H4:=hdz hb
   obtain⟨r0,r1,r2,s0,s1,s2,rl⟩:=res_facts hb.2
   clear hb hst
   go_wp2_with fail
   exact dop_ret (w:=w) rfl rfl rfl H4.out.1 H4.out.2 hG1
end Go.Proofs.YtlibhkehebioeaaGreatDoor
