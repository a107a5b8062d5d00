/- A PART OF THE PROOF. No condition. -/
import Derived.Test.YtlibhkehebioeaaGreatDoorP1
import Derived.Test.YtlibhkehebioeaaGreatDoorP0
import Derived.Test.YtlibhkehebioeaaGreatDoorP4
import Derived.Test.YtlibhkehebioeaaGreatDoorP5
namespace Go.Proofs.YtlibhkehebioeaaGreatDoor
set_option linter.unusedVariables false
set_option linter.unusedSimpArgs false
set_option maxRecDepth 100000
set_option maxHeartbeats 40000000
open Go.RowKit
def Wr (w:World)(B g:Nat)(v:Value)(bs:List UInt8):Prop:=Blk w g 96 #[v]∧w.ownsRow B 5 1 v bs.length (Lib.byteCells bs)
theorem counts_any (B g:Nat) (v:Value) (bs:List UInt8) (Z:Nat→Prop) (A:Option Addr) (m c:Nat) (xs:List Int) (w:World) (hw:Wr w B g v bs) (hx:okInts xs) (hl:Rd w Z 1 A m (ics xs)) (hz:∀k,Z k→k≠g∧v.ownBlock≠some k∧k<w.heap.size) (hB:B≤w.heap.size) (hn:bs.length+9*m≤1099511627770) :
 Calls Tryz.prog 38 #[.pointer (some ⟨g,0,none⟩),.slice A m c] w λe w'=>e=.returned (.tuple #[])∧∃v',Wr w' B g v' (bs++encs xs)∧Keep (λk=>k≠g∧v.ownBlock≠some k) w w'∧Next w.heap.size v v':=by
 have hlen:xs.length=m:=by simpa[ics] using hl.1
 subst hlen
 have HA:=hdz (aiz hw (aiz hx (aiz hl hz)))
 clear hw hx hl hz
 go_enter Tryz.func38,Tryz.ntmps38
 go_wp2
 go_loopw [8] (λi wr=>∃ (k:Nat) (vr:Value) (cs:List UInt8),k≤xs.length∧i=.int .i64 (k:Int)∧Hid (cs=bs++encs (xs.take k)∧Wr wr B g vr cs∧Keep (λk=>k≠g∧v.ownBlock≠some k) w wr∧Next w.heap.size v vr)) (λi _=>xs.length - (intOf i).toNat)
 case atStart=>exact⟨0,v,bs,Nat.zero_le _,rfl,by simp[encs],HA.out.1,krz _ _,Next.refl _ _⟩
 case round=>
  obtain⟨k,vr,cs,hk,rfl,HW⟩:=hrel
  by_cases hlt:k<xs.length
  ·obtain⟨hw0,hx,hl,hz⟩:=HA.out
   obtain⟨hcs,⟨hblk,hown⟩,hkk,hnn⟩:=HW.out
   have hlr:=hl.keep (hkk.weaken (λi _ hi=>⟨(hz i hi).1,(hz i hi).2.1⟩))
   obtain⟨b,o,rfl,hzb,hll,hcell⟩:=hlr.at1 hlt
   have hxk:=hx xs[k] (List.getElem_mem hlt)
   rw[show (ics xs)[k]=.int .i64 xs[k] by simp[ics]] at hcell
   have hvc:=hblk.cell 0
   have hfr:=hblk.frozen 0
   simp at hvc
   have hgl:=hblk.lt
   have hbl:=encs_take_len xs k hx
   have hln:cs.length≤1099511627770:=by rw[hcs,lapz];omega
   have hcs':cs++putB xs[k].toNat=bs++encs (xs.take (k+1)):=by rw[hcs,encs_take _ _ hlt,List.append_assoc]
   obtain⟨A',c',rfl,hrd,_⟩:=own_rd hown
   have HX:=hdz (aiz hxk (aiz hown (aiz hblk (aiz hrd (aiz hkk (aiz hnn (aiz hcs' hln)))))))
   clear hxk hown hblk hrd hl hlr hz hzb hll hbl hw0 hkk hnn hx HW hcs hcs' hln
   go_wp2_with fail
   refine (PutInt_any _ A' cs.length c' cs xs[k] _ HX.out.1.1 HX.out.1.2 HX.out.2.2.2.1 HX.out.2.2.2.2.2.2.2).mono ?_
   rintro e w1 ⟨g1,c1,rfl,ho1,hk1,hg1⟩
   obtain⟨v1,hv1⟩:=exz (Value.slice (some ⟨g1,0,none⟩) (cs.length+(putB xs[k].toNat).length) c1)
   obtain⟨-,hown,hblk,-,hkk,hnn,hcs',-⟩:=HX.out
   have hblk1:=hblk.keep hk1 trivial
   have hc1:=hblk1.cell 0
   have hf1:=hblk1.frozen 0
   simp at hc1
   rw[←hv1] at ho1
   have hw1:Wr (w1.setCell ⟨g,0,none⟩ v1) B g v1 (bs++encs (xs.take (k+1))):=by
    refine⟨by simpa using hblk1.set 0 v1,?_⟩
    rw[←hcs',lapz]
    refine own_far (own_base ho1 (lez hB hkk.size)) ?_ v1
    rw[hv1]
    simp[Value.ownBlock]
    omega
   have hkk1:Keep (λk=>k≠g∧v.ownBlock≠some k) w (w1.setCell ⟨g,0,none⟩ v1):=(hkk.comp hk1 (λ_ _ h=>h) (λ_ _ _=>trivial)).setCell (λ_ h=>h.1 rfl) v1
   have hnn1:Next w.heap.size v v1:=by
    exact .inr ⟨g1,by rw[hv1];rfl,by have:=hkk.size;omega⟩
   have HY:=hdz (aiz hw1 (aiz hkk1 hnn1))
   subst hv1
   clear hw1 hkk1 hnn1 ho1 hk1 hg1 hown hblk hblk1 hkk hnn hcs' HX
   go_wp2
   exact⟨⟨k+1,_,_,by omega,congrArg _ (by omega),rfl,HY.out⟩,by simp[intOf];omega⟩
  ·go_wp2
   go_end0
   obtain rfl:k=xs.length:=by omega
   obtain⟨hcs,h1,h2⟩:=HW.out
   rw[List.take_length] at hcs
   subst hcs
   exact⟨rfl,vr,h1,h2⟩
def scs (ss:List ByteArray):List Value:=ss.map Value.string
def txts (ss:List ByteArray):List UInt8:=ss.flatMap λs=>txt s.data.toList
def okTxts (ss:List ByteArray):Prop:=∀s∈ss,s.size≤1048576
theorem txts_take (ss:List ByteArray)(k:Nat)(h:k<ss.length):txts (ss.take (k+1))=txts (ss.take k)++txt ss[k].data.toList:=by
 rw[List.take_succ_eq_append_getElem h,txts,List.flatMap_append]
 simp[txts]
theorem txt_len (s:ByteArray)(h:s.size≤1048576):(txt s.data.toList).length≤1048585:=by
 have h1:s.data.toList.length=s.size:=Array.length_toList
 have h2:=putB_len9 (v:=s.size) (by omega)
 simp only[txt,lapz,h1]
 omega
theorem txts_len (ss:List ByteArray) (h:okTxts ss):(txts ss).length≤1048585*ss.length:=by
 induction ss with
 | nil=>simp[txts]
 | cons s ss ih=>
  have h1:=txt_len s (h s (by simp))
  have h2:=ih (λy hy=>h y (by simp[hy]))
  have e:txts (s::ss)=txt s.data.toList++txts ss:=rfl
  rw[e,lapz,List.length_cons]
  omega
theorem txts_take_len (ss:List ByteArray)(k:Nat)(h:okTxts ss):(txts (ss.take k)).length≤1048585*ss.length:=by
 have h1:=txts_len (ss.take k) (λy hy=>h y (List.mem_of_mem_take hy))
 have h2:(ss.take k).length≤ss.length:=List.length_take_le' _ _
 omega
theorem texts_any (B g:Nat) (v:Value) (bs:List UInt8) (Z:Nat→Prop) (A:Option Addr) (m c:Nat) (ss:List ByteArray) (w:World) (hw:Wr w B g v bs) (hx:okTxts ss) (hl:Rd w Z 1 A m (scs ss)) (hz:∀k,Z k→k≠g∧v.ownBlock≠some k∧k<w.heap.size) (hB:B≤w.heap.size) (hn:bs.length+1048585*m≤1099510000000) :
 Calls Tryz.prog 39 #[.pointer (some ⟨g,0,none⟩),.slice A m c] w λe w'=>e=.returned (.tuple #[])∧∃v',Wr w' B g v' (bs++txts ss)∧Keep (λk=>k≠g∧v.ownBlock≠some k) w w'∧Next w.heap.size v v':=by
 have hlen:ss.length=m:=by simpa[scs] using hl.1
 subst hlen
 have HA:=hdz (aiz hw (aiz hx (aiz hl hz)))
 clear hw hx hl hz
 go_enter Tryz.func39,Tryz.ntmps39
 go_wp2
 go_loopw [8] (λi wr=>∃ (k:Nat) (vr:Value) (cs:List UInt8),k≤ss.length∧i=.int .i64 (k:Int)∧Hid (cs=bs++txts (ss.take k)∧Wr wr B g vr cs∧Keep (λk=>k≠g∧v.ownBlock≠some k) w wr∧Next w.heap.size v vr)) (λi _=>ss.length - (intOf i).toNat)
 case atStart=>exact⟨0,v,bs,Nat.zero_le _,rfl,by simp[txts],HA.out.1,krz _ _,Next.refl _ _⟩
 case round=>
  obtain⟨k,vr,cs,hk,rfl,HW⟩:=hrel
  by_cases hlt:k<ss.length
  ·obtain⟨hw0,hx,hl,hz⟩:=HA.out
   obtain⟨hcs,hwr,hkk,hnn⟩:=HW.out
   have hlr:=hl.keep (hkk.weaken (λi _ hi=>⟨(hz i hi).1,(hz i hi).2.1⟩))
   obtain⟨b,o,rfl,hzb,hll,hcell⟩:=hlr.at1 hlt
   have hxk:=hx ss[k] (List.getElem_mem hlt)
   rw[show (scs ss)[k]=.string ss[k] by simp[scs]] at hcell
   have hbl:=txts_take_len ss k hx
   have hln:cs.length≤1099510000000:=by rw[hcs,lapz];omega
   have hcs':cs++txt ss[k].data.toList=bs++txts (ss.take (k+1)):=by rw[hcs,txts_take _ _ hlt,List.append_assoc]
   have hi64:(0:Int)≤(ss[k].size:Int)∧(ss[k].size:Int)≤4611686018427387904:=by omega
   have HX:=hdz (aiz hxk (aiz hwr (aiz hkk (aiz hnn (aiz hcs' (aiz hln hi64))))))
   clear hxk hwr hl hlr hz hzb hll hbl hw0 hkk hnn hx HW hcs hcs' hln hi64
   go_wp2_with fail
   obtain⟨hxk,hwr,hkk,hnn,hcs',hln,hi64⟩:=HX.out
   have hgl:=hwr.1.lt
   have hne1:vr.ownBlock≠some wr.heap.size:=λh=>by have:=(own_lt hwr.2 h).2;omega
   have hwr1:Wr (wr.alloc (.cells #[.int .i64 (ss[k].size:Int)] 3)) B g vr cs:=⟨hwr.1.alloc _,hwr.2.alloc _⟩
   refine (counts_any B g vr cs (λi=>i=wr.heap.size) _ 1 1 [(ss[k].size:Int)] _ hwr1 (by simpa[okInts] using hi64) (Rd.own1 _ _ _) (λi hi=>⟨by omega,by rw[hi];exact hne1,by simp;omega⟩) (by have:=hkk.size;simp;omega) (by omega)).mono ?_
   obtain⟨ds,hds⟩:=exz (cs++encs [(ss[k].size:Int)])
   rw[←hds]
   rintro e w1 ⟨rfl,v1,⟨hb1,ho1⟩,hk1,hn1⟩
   have hk1':Keep (λk=>k≠g∧vr.ownBlock≠some k) wr w1:=((krz _ wr).alloc _).comp hk1 (λ_ _ h=>h) (λ_ _ h=>h)
   have hkk1:Keep (λk=>k≠g∧v.ownBlock≠some k) w w1:=hkk.comp hk1' (λ_ _ h=>h) (λi hi h=>⟨h.1,λe=>by
    rcases hnn with hnn | ⟨g',hg',hl'⟩
    ·exact h.2 (hnn.symm.trans e)
    ·rw[hg'] at e;injection e with e;omega⟩)
   have hn1':Next w.heap.size v v1:=hnn.trans hn1 (by have:=hkk.size;simp;omega)
   have hne2:=own_ne_blk ho1 hb1 (by decide)
   obtain⟨A1,c1,rfl,_,_⟩:=own_rd ho1
   have hc1:=hb1.cell 0
   have hf1:=hb1.frozen 0
   have hg1:=hb1.lt
   simp at hc1
   have HY:=hdz (aiz hkk1 (aiz hn1' (aiz hb1 (aiz ho1 hne2))))
   have hsz:(txt ss[k].data.toList).length≤1048585:=txt_len _ hxk
   have htx:encs [(ss[k].size:Int)]++ss[k].data.toList=txt ss[k].data.toList:=by
    simp only[encs,txt,List.flatMap_cons,List.flatMap_nil,List.append_nil,Int.toNat_natCast]
    rfl
   have hencl:(encs [(ss[k].size:Int)]).length≤9:=encs_len [(ss[k].size:Int)] (by simpa[okInts] using hi64)
   have hdl:ds.length≤1099510000009:=by rw[hds,lapz];omega
   have hsum:ds.length+ss[k].size≤140737488355328:=by omega
   have hfin:ds++ss[k].data.toList=bs++txts (ss.take (k+1)):=by rw[hds,List.append_assoc,htx,hcs']
   have HZ:=hdz (aiz hsum hfin)
   have HB2:Hid (B≤w1.heap.size):=lez hB hkk1.size
   clear hxk hwr hkk hnn hcs' hln hi64 hgl hne1 hwr1 hk1 hn1 hk1' hkk1 hn1' hb1 ho1 hne2 hsz htx hencl hdl hsum hfin hds HX
   go_wp2_with (at_builtin;refine wpList_app_str etU8 Tryz.underlying9 rfl (.tmp 21) (.tmp 22) rfl B _ _ _ rfl HY.out.2.2.2.1 _ rfl HZ.out.1 HB2 ?_)
   intro v2 w2 ho2 hk2 hn2
   obtain⟨hkk1,hn1',hb1,ho1,hne2⟩:=HY.out
   obtain⟨A2,c2,rfl,_,_⟩:=own_rd ho2
   have hb2:=hb1.keep hk2 hne2
   have hc2:=hb2.cell 0
   have hf2:=hb2.frozen 0
   simp at hc2
   have hne3:=own_ne_blk ho2 hb2 (by decide)
   have hw2:Wr (w2.setCell ⟨g,0,none⟩ (.slice A2 (ds.length+ss[k].size) c2)) B g (.slice A2 (ds.length+ss[k].size) c2) (bs++txts (ss.take (k+1))):=by
    refine⟨by simpa using hb2.set 0 _,?_⟩
    have e1:ds++ss[k].data.toList=bs++txts (ss.take (k+1)):=HZ.out.2
    have e2:(bs++txts (ss.take (k+1))).length=ds.length+ss[k].size:=by rw[←e1,lapz];rfl
    rw[e2,←e1,Lib.byteCells_append]
    exact own_far ho2 hne3 _
   have hkk2:Keep (λk=>k≠g∧v.ownBlock≠some k) w (w2.setCell ⟨g,0,none⟩ (.slice A2 (ds.length+ss[k].size) c2)):=
    (hkk1.comp hk2 (λ_ _ h=>h) (λi hi h e=>by
     rcases hn1' with hnn | ⟨g',hg',hl'⟩
     ·exact h.2 (hnn.symm.trans e)
     ·rw[hg'] at e;injection e with e;omega)).setCell (λ_ h=>h.1 rfl) _
   have hnn2:=hn1'.trans hn2 hkk1.size
   have HW:=hdz (aiz hw2 (aiz hkk2 hnn2))
   clear hkk1 hn1' hb1 ho1 hne2 hb2 hne3 hw2 hkk2 hnn2 hk2 hn2 ho2 HY HZ HB2
   go_wp2
   exact⟨⟨k+1,_,_,by omega,congrArg _ (by omega),rfl,HW.out⟩,by simp[intOf];omega⟩
  ·go_wp2
   go_end0
   obtain rfl:k=ss.length:=by omega
   obtain⟨hcs,h1,h2⟩:=HW.out
   rw[List.take_length] at hcs
   subst hcs
   exact⟨rfl,vr,h1,h2⟩
structure WrTo (wp:World)(vp:Value)(g:Nat)(wr:World)(vr:Value):Prop where
 keep:Keep (λk=>k≠g∧vp.ownBlock≠some k) wp wr
 next:Next wp.heap.size vp vr
theorem WrTo.refl (w:World)(v:Value)(g:Nat):WrTo w v g w v:=⟨krz _ _,Next.refl _ _⟩
theorem WrTo.fresh {wp wr w2:World}{vp vr:Value}{g:Nat}(h:WrTo wp vp g wr vr)(hf:Fresh wr w2):WrTo wp vp g w2 vr:=⟨h.keep.comp hf (λ_ _ h=>h) (λ_ _ _=>trivial),h.next⟩
theorem WrTo.step {wp wr w2:World} {vp vr v2:Value} {g:Nat} (h:WrTo wp vp g wr vr) (hk:Keep (λk=>k≠g∧vr.ownBlock≠some k) wr w2) (hn:Next wr.heap.size vr v2):WrTo wp vp g w2 v2:=
 ⟨h.keep.comp hk (λ_ _ h=>h) (λi hi hj=>⟨hj.1,λe=>by
  rcases h.next with h1 | ⟨b,hb,hl⟩
  ·exact hj.2 (h1.symm.trans e)
  ·rw[hb] at e
   injection e with e
   omega⟩),h.next.trans hn h.keep.size⟩
structure WAt (w1:World)(v1:Value)(B g:Nat)(bs:Txt)(w:World)(v:Value):Prop where
 wr:Wr w B g v bs
 tw:WrTo w1 v1 g w v
 b1:B≤w.heap.size
section
variable {w1 w wa:World}{v1 v:Value}{B g:Nat}{bs:Txt}
theorem WAt.fresh (h:WAt w1 v1 B g bs w v)(hf:Fresh w wa):WAt w1 v1 B g bs wa v:=⟨⟨h.wr.1.keep hf trivial,own_keep h.wr.2 hf (λ_ _=>trivial)⟩,h.tw.fresh hf,lez h.b1 hf.size⟩
theorem counts_step (h:WAt w1 v1 B g bs w v) (xs:List Int) (hx:okInts xs) (hf:Fresh w wa) (c:Nat) (A:Option Addr) (m:Nat) (Z:Nat→Prop) (hl:Rd wa Z 1 A m (ics xs)) (hz:∀k,Z k→k≠g∧v.ownBlock≠some k∧k<wa.heap.size) (hn:bs.length+9*m≤1099511627770) :
 Calls Tryz.prog 38 #[.pointer (some ⟨g,0,none⟩),.slice A m c] wa λe w'=>e=.returned (.tuple #[])∧∃v',WAt w1 v1 B g (bs++encs xs) w' v'∧Keep (λk=>k≠g∧v.ownBlock≠some k) w w'∧Next w.heap.size v v':=by
 have ha:=h.fresh hf
 refine (counts_any B g v bs Z A m c xs wa ha.wr hx hl hz ha.b1 hn).mono ?_
 rintro e w' ⟨rfl,v',hw',hk',hn'⟩
 exact⟨rfl,v',⟨hw',ha.tw.step hk' hn',lez ha.b1 hk'.size⟩,hf.comp hk' (λ_ _ _=>trivial) (λ_ _ h=>h),by
  rcases hn' with e | ⟨b,hb,hl⟩
  ·exact .inl e
  ·exact .inr ⟨b,hb,lez hf.size hl⟩⟩
theorem texts_step (h:WAt w1 v1 B g bs w v) (ss:List ByteArray) (hx:okTxts ss) (hf:Fresh w wa) (c:Nat) (A:Option Addr) (m:Nat) (Z:Nat→Prop) (hl:Rd wa Z 1 A m (scs ss)) (hz:∀k,Z k→k≠g∧v.ownBlock≠some k∧k<wa.heap.size) (hn:bs.length+1048585*m≤1099510000000) :
 Calls Tryz.prog 39 #[.pointer (some ⟨g,0,none⟩),.slice A m c] wa λe w'=>e=.returned (.tuple #[])∧∃v',WAt w1 v1 B g (bs++txts ss) w' v'∧Keep (λk=>k≠g∧v.ownBlock≠some k) w w'∧Next w.heap.size v v':=by
 have ha:=h.fresh hf
 refine (texts_any B g v bs Z A m c ss wa ha.wr hx hl hz ha.b1 hn).mono ?_
 rintro e w' ⟨rfl,v',hw',hk',hn'⟩
 exact⟨rfl,v',⟨hw',ha.tw.step hk' hn',lez ha.b1 hk'.size⟩,hf.comp hk' (λ_ _ _=>trivial) (λ_ _ h=>h),by
  rcases hn' with e | ⟨b,hb,hl⟩
  ·exact .inl e
  ·exact .inr ⟨b,hb,lez hf.size hl⟩⟩
end
theorem own_of_blk {w:World}{g base:Nat}{t:TypeId}{cs:Array Value}(h:Blk w g t cs)(hb:base≤g)(hm:cs.size≤maxLen)(n:Nat)(hn:n=cs.size):w.ownsRow base t 1 (.slice (some ⟨g,0,none⟩) n n) n cs.toList:=by
 subst hn
 exact⟨by simp,.inr ⟨g,cs.size,cs,rfl,hb,h,lrz _,hm,by simp,by rw[Nat.mul_one];exact List.take_of_length_le (by simp)⟩⟩
theorem rd_ints {w:World}{b:Nat}{t:TypeId}{cs:Array Value}(h:Blk w b t cs)(xs:List Int)(hx:cs.toList=ics xs)(n:Nat)(hn:n=xs.length):Rd w (λk=>k=b) 1 (some ⟨b,0,none⟩) n (ics xs):=by
 rw[←hx]
 exact h.rd (by have:=congrArg List.length hx;simp[ics] at this;omega)
theorem rd_txts {w:World}{b:Nat}{t:TypeId}{cs:Array Value}(h:Blk w b t cs)(ss:List ByteArray)(hx:cs.toList=scs ss)(n:Nat)(hn:n=ss.length):Rd w (λk=>k=b) 1 (some ⟨b,0,none⟩) n (scs ss):=by
 rw[←hx]
 exact h.rd (by have:=congrArg List.length hx;simp[scs] at this;omega)
def sn1 (s:StD):Txt:=headB++encs [s.tok,(s.pairs.length:Int)]
def sn2 (s:StD)(k:Nat):Txt:=sn1 s++(s.pairs.take k).flatMap pairB
def sn3 (s:StD):Txt:=sn2 s s.pairs.length++encs [(s.locks.length:Int)]
def sn4 (s:StD)(k:Nat):Txt:=sn3 s++(s.locks.take k).flatMap lockB
def sn5 (s:StD):Txt:=sn4 s s.locks.length++encs [((askTo s.ss 16).length:Int)]
def sn6 (s:StD)(k:Nat):Txt:=sn5 s++((asked s.ss).take k).flatMap sesB
theorem sn_all (s:StD):sn6 s (asked s.ss).length=bodyB s:=by
 unfold sn6 sn5 sn4 sn3 sn2 sn1 bodyB restB
 have h:((askTo s.ss 16).length:Int).toNat=(asked s.ss).length:=by rw[askTo_all];simp
 simp only[List.take_length,encs_cons,encs_nil,List.append_nil,List.append_assoc,h,Int.toNat_natCast]
theorem map_len_at {w:World}{b:Nat}{ps:List Kv}(h:MapIs Tryz.prog 9 w b ps):∃es cl,w.heap[b]?=some (.map es cl)∧es.size=ps.length:=by
 have h2:=h
 obtain⟨es,cl,hb,F,hle,hD⟩:=h2
 refine⟨es,cl,hb,?_⟩
 have e1:Maps.size (mD ps)=es.size:=by rw[hD];simp[Maps.size,length_sorted]
 rw[mD_size] at e1
 exact e1.symm
theorem map_len_run {w:World}{b:Nat}{t k e:TypeId}(ht:Tryz.prog.underlying t=some (.map k e)){es:Array MapEntry}{cl:Nat}(hb:w.heap[b]?=some (.map es cl))(ty:TypeId):Sem.run Tryz.prog (Builtin.len_ #[t] ty #[Value.map (some b)]) w=Result.ok (.int .i64 (es.size:Int)) w:=by
 simp[Builtin.len_,run_underlying ht,MapKept.run_getObj_map hb,goInt,Result.andThen]
theorem own_apart {w:World} {b1 e1 s1 n1 b2 e2 s2 n2:Nat} {v1 v2:Value} {x1 x2:List Value} (h1:w.ownsRow b1 e1 s1 v1 n1 x1) (h2:w.ownsRow b2 e2 s2 v2 n2 x2) (hne:e1≠e2) {k:Nat} (hk:v1.ownBlock=some k):v2.ownBlock≠some k:=by
 rcases h1.2 with ⟨rfl,_⟩ | ⟨g,cap,cur,rfl,_,hh,_⟩
 ·cases hk
 ·rcases h2.2 with ⟨rfl,_⟩ | ⟨g2,cap2,cur2,rfl,_,hh2,_⟩
  ·simp[Value.ownBlock]
  ·intro e
   simp only[Value.ownBlock] at hk e
   injection hk with hk
   injection e with e
   rw[hk] at hh
   rw[e,hh] at hh2
   injection hh2 with hh2
   injection hh2 with _ h3
   exact hne h3
theorem flat_le {α:Type} {f:α→Txt} {c:Nat} (l:List α) (h:∀x∈l,(f x).length≤c):(l.flatMap f).length≤l.length*c:=by
 induction l with
 | nil=>simp
 | cons x r ih=>
  have h1:=h x (by simp)
  have h2:=ih λy hy=>h y (by simp[hy])
  rw[List.flatMap_cons,lapz,List.length_cons,Nat.add_mul]
  omega
theorem flat_take {α:Type}{f:α→Txt}(l:List α)(k:Nat):((l.take k).flatMap f).length≤(l.flatMap f).length:=by
 have h:l.flatMap f=(l.take k).flatMap f++(l.drop k).flatMap f:=by rw[←List.flatMap_append,List.take_append_drop]
 rw[h,lapz]
 omega
theorem sn_len {s:StD} (h:Inv s):(∀k,(sn2 s k).length≤1070)∧(sn3 s).length≤1070∧(∀k,(sn4 s k).length≤1070)∧(sn5 s).length≤1070∧∀k,(sn6 s k).length≤1070:=by
 have h0:=snap_len h
 have h1:(sn6 s (asked s.ss).length).length≤1070:=by
  rw[sn_all]
  unfold snapB at h0
  rw[lapz] at h0
  omega
 have e6:∀k,(sn6 s k).length≤(sn6 s (asked s.ss).length).length:=λk=>by
  unfold sn6
  rw[List.take_length,lapz,lapz]
  have:=flat_take (f:=sesB) (asked s.ss) k
  omega
 have e5:(sn5 s).length≤(sn6 s (asked s.ss).length).length:=by
  unfold sn6
  rw[lapz]
  omega
 have e4:∀k,(sn4 s k).length≤(sn5 s).length:=λk=>by
  unfold sn5 sn4
  rw[List.take_length,lapz,lapz,lapz]
  have:=flat_take (f:=lockB) s.locks k
  omega
 have e3:(sn3 s).length≤(sn4 s 0).length:=by
  unfold sn4
  rw[lapz]
  omega
 have e2:∀k,(sn2 s k).length≤(sn3 s).length:=λk=>by
  unfold sn3 sn2
  rw[List.take_length,lapz,lapz,lapz]
  have:=flat_take (f:=pairB) s.pairs k
  omega
 have f4:=e4 0
 refine⟨λk=>?_,by omega,λk=>?_,by omega,λk=>?_⟩
 ·have:=e2 k;omega
 ·have:=e4 k;omega
 ·have:=e6 k;omega
theorem sum_cells (bs:Txt)(sm:Nat)(h:sm=crcB bs):[Value.int .u8 ((sm:Int) % 256),.int .u8 ((sm:Int) / 256 % 256),.int .u8 ((sm:Int) / 65536 % 256),.int .u8 ((sm:Int) / 16777216)]=Lib.byteCells (sumB bs):=by
 have h1:=crcB_lt bs
 unfold sumB
 rw[←h] at h1 ⊢
 have e:∀x:Nat,x<256→((UInt8.ofNat x).toNat:Int)=(x:Int):=λx hx=>by rw[toNat_ofNat x hx]
 simp only[Lib.byteCells,List.map_cons,List.map_nil]
 rw[e _ (by omega),e _ (by omega),e _ (by omega),e _ (by omega)]
 have e4:(sm:Int) / 16777216=((sm / 16777216 % 256:Nat):Int):=by omega
 rw[e4]
 simp
theorem okInts_one {a:Int}(h:0≤a)(h1:a≤4611686018427387904):okInts [a]:=λx hx=>by
 simp only[List.mem_cons,List.not_mem_nil,or_false] at hx
 subst hx
 exact⟨h,h1⟩
theorem snapshot_any (S:Nat→Prop) (m bp bl:Nat) (s:StD) (w:World) (hm:MSt S w m bp bl s) (hi:Inv s) (hT:Nib w) (hTf:∀w',Fresh w w'→Nib w') :
 Calls Tryz.prog 16 #[.pointer (some ⟨m,0,none⟩)] w λe w'=>(∃v,e=.returned v∧w'.ownsRow w.heap.size 5 1 v (snapB s).length (Lib.byteCells (snapB s)))∧Fresh w w':=by
 obtain⟨G,hG⟩:=exz (w.heap.size)
 obtain⟨W,hW⟩:=exz ((w.alloc (.cells #[.int .u8 81,.int .u8 83,.int .u8 1] 5)).alloc (.cells #[.slice (some ⟨G,0,none⟩) 3 3] 96))
 have hf:Fresh w W:=hW ▸ ((krz _ w).alloc _).alloc _
 have hb0:Blk W G 5 #[.int .u8 81,.int .u8 83,.int .u8 1]:=by rw[hW,hG];exact (Blk.new _ _ _).alloc _
 have hb1:Blk W (G+1) 96 #[.slice (some ⟨G,0,none⟩) 3 3]:=by rw[hW];exact Blk.newAt (by simp[hG])
 have hWA:WAt W (.slice (some ⟨G,0,none⟩) 3 3) G (G+1) headB W (.slice (some ⟨G,0,none⟩) 3 3):=by
  refine⟨⟨hb1,?_⟩,WrTo.refl _ _ _,by have:=hb1.lt;omega⟩
  have h1:=own_of_blk (base:=G) hb0 (lrz _) (by decide) 3 rfl
  exact h1
 have hmW:=hm.fresh hf
 obtain⟨x0,-,x2⟩:=hmW.three
 have ml:=hmW.blk.lt
 have hgl:=hb1.lt
 have htok:=hi.lk.tok1
 have htok0:=hi.lk.tok0
 have hp16:=hi.pr.len
 obtain⟨tok,htk⟩:∃t,t=s.tok:=⟨_,rfl⟩
 rw[←htk] at x2 htok htok0
 have HA:=hdz (aiz hm (aiz hi (aiz hf (aiz hWA (aiz hmW (aiz hG (aiz hTf htk)))))))
 clear hm hi hf hb0 hb1 hWA hmW hT hTf htk
 go_enter Tryz.func16,Tryz.ntmps16
 go_upto_region 2 with (fail)
 simp only[←hG]
 rw[←hW]
 clear hW hG
 obtain⟨es,cl,hes,hen⟩:=map_len_at HA.out.2.2.2.2.1.pm
 rw[sk_len] at hen
 have hmG:m<G:=by rw[HA.out.2.2.2.2.2.1];exact HA.out.1.blk.lt
 have hbG:bp<G:=by rw[HA.out.2.2.2.2.2.1];exact HA.out.1.pm.lt
 have HS:=hdz (λw' (hk:Keep (λk=>k<G) W w')=>(⟨(hk.block _ HA.out.2.2.2.2.1.pm.lt hbG).trans hes,hk.cellAt x0 hmG,hk.cellAt x2 hmG⟩:w'.heap[bp]?=some (.map es cl)∧w'.cell? ⟨m,0,none⟩=some (.map (some bp))∧w'.cell? ⟨m,2,none⟩=some (.int .i64 tok)))
 have HC:=hdz (counts_step (wa:=World.drew (W.alloc (.cells #[.int .i64 tok,.int .i64 (s.pairs.length:Int)] 3))) HA.out.2.2.2.1 [tok,(s.pairs.length:Int)] (by intro x hx;simp only[List.mem_cons,List.not_mem_nil,or_false] at hx;rcases hx with rfl | rfl <;> omega) (((krz _ W).alloc _).drew) 2 (some ⟨W.heap.size,0,none⟩) 2 _ (rd_ints (Blk.new W _ _).drew _ rfl 2 rfl) (λk hk=>⟨by have e:k=W.heap.size:=hk;omega,by simp[Value.ownBlock];have e:k=W.heap.size:=hk;omega,by have e:k=W.heap.size:=hk;show k<(W.alloc _).heap.size;simp;omega⟩) (by simp[headB]))
 have hlen:∀w':World,w'.heap[bp]?=some (.map es cl)→Sem.run Tryz.prog (Builtin.len_ #[87] 3 #[Value.map (some bp)]) w'=Result.ok (.int .i64 (es.size:Int)) w':=λw' h=>map_len_run Tryz.underlying87 h _
 go_region_held3 (λw'=>w'.heap[bp]?=some (.map es cl)∧w'.cell? ⟨m,0,none⟩=some (.map (some bp))∧w'.cell? ⟨m,2,none⟩=some (.int .i64 tok))
  (first | exact HS.out _ (krz _ W).drew | exact HS.out _ (((krz _ W).alloc _).drew) | exact HS.out _ (hk2.weaken λk _ h=>⟨by omega,by simp[Value.ownBlock];omega⟩))
  (first | (go_at_call 38;with_reducible refine Calls.mono HC.out ?_;rintro e w2 ⟨rfl,v2,hw2,hk2,-⟩))
 have hw2':WAt W (.slice (some ⟨G,0,none⟩) 3 3) G (G+1) (sn1 s) w2 v2:=by unfold sn1;rw[←HA.out.2.2.2.2.2.2.2];exact hw2
 obtain⟨V1,hV1⟩:∃V,V=Value.slice (some ⟨G,0,none⟩) 3 3:=⟨_,rfl⟩
 obtain⟨S',hS'⟩:∃S':Nat→Prop,S'=λj=>S j∧j<w.heap.size:=⟨_,rfl⟩
 have HMk:Hid (∀bs wr vr,WAt W V1 G (G+1) bs wr vr→MSt S' wr m bp bl s∧Fresh w wr):=hdz λbs wr vr h=>by
  have hk:Keep (λk=>k<G) W wr:=h.tw.keep.weaken λk _ hk=>⟨by omega,by rw[hV1];simp[Value.ownBlock];omega⟩
  have hG:=HA.out.2.2.2.2.2.1
  have hF:Fresh w wr:=HA.out.2.2.1.comp hk (λ_ _ h=>h) (λk hk _=>by omega)
  rw[hS']
  exact⟨HA.out.1.tight.fresh hF,hF⟩
 have HSG:Hid (∀j,S' j→j<G):=hdz λj h=>by rw[hS'] at h;have:=HA.out.2.2.2.2.2.1;omega
 rw[←hV1] at hw2'
 have H2:=hdz hw2'
 have h2m:=(HMk.out _ _ _ hw2').1
 have hml2:=h2m.blk.lt
 have HP:=hdz (pairs_any S' m bp bl s w2 h2m HA.out.2.1.pr)
 have hG2:G+1<w2.heap.size:=hw2'.wr.1.lt
 clear hw2 hw2' HC HS hlen hes hen hk2 h2m x0 x2 htok htok0 hV1 hS' ml hgl hmG hbG
 go_wp2_with fail
 refine HP.out.mono ?_
 rintro e w3 ⟨⟨vP,rfl,hoP⟩,f3⟩
 obtain⟨AP,cP,rfl,hrP,-⟩:=own_rd hoP
 have H3:=hdz (aiz (H2.out.fresh f3) (aiz hoP (aiz hrP f3)))
 have hml3:m<w3.heap.size:=ltz hml2 f3.size
 have hG3:G+1<w3.heap.size:=ltz hG2 f3.size
 clear hoP hrP f3 HP hml2 hG2
 go_wp2_with fail
 go_loopw [31] (λi wr=>∃ (k:Nat) (vr:Value),k≤s.pairs.length∧i=.int .i64 (k:Int)∧Hid (WAt W V1 G (G+1) (sn2 s k) wr vr∧WrTo w3 v2 (G+1) wr vr)) (λi _=>s.pairs.length - (intOf i).toNat)
 case atStart=>exact⟨0,v2,by omega,rfl,hdz ⟨by unfold sn2;simpa using H3.out.1,WrTo.refl _ _ _⟩⟩
 case round=>
  rename World=>wr
  obtain⟨k,vr,hk,rfl,HR⟩:=hrel
  by_cases hlt:k<s.pairs.length
  ·obtain⟨hwr,htw⟩:=HR.out
   have hz3:=htw.keep.size
   have hrr:=H3.out.2.2.1.keep (htw.keep.weaken λj hj h=>⟨λe=>own_ne_blk H3.out.2.1 H3.out.1.wr.1 (by decide) (e ▸ h),λe=>own_apart H3.out.1.wr.2 H3.out.2.1 (by decide) e h⟩)
   obtain⟨b,o,rfl,-,hcl⟩:=hrr.2 (by omega)
   obtain⟨t,ht⟩:=exz (s.pairs[k].1)
   obtain⟨u,hu⟩:=exz (s.pairs[k].2)
   have c0:wr.cell? ⟨b,o+k*2,none⟩=some (str t):=by
    have h1:=rcells_get pair_two s.pairs k hlt 0 (by omega)
    have h2:=hcl (k*2+0) (str t) (by rw[h1,ht];rfl)
    simpa[Nat.add_assoc] using h2
   have c1:wr.cell? ⟨b,o+k*2+1,none⟩=some (str u):=by
    have h1:=rcells_get pair_two s.pairs k hlt 1 (by omega)
    have h2:=hcl (k*2+1) (str u) (by rw[h1,hu];rfl)
    simpa[Nat.add_assoc] using h2
   have hpe:=HA.out.2.1.pr.each _ (List.getElem_mem hlt)
   have hki:(k:Int)<(s.pairs.length:Int):=by omega
   have hgr:=hwr.wr.1.lt
   have hbl:=(sn_len HA.out.2.1).1 k
   have hne:vr.ownBlock≠some (wr.heap.size+1):=λe=>by have:=(own_lt hwr.wr.2 e).2;omega
   have HC:=hdz (texts_step (wa:=(wr.alloc (.cells #[str t,str u] 71)).alloc (.cells #[str t,str u] 9)) hwr [⟨t.toArray⟩,⟨u.toArray⟩] (by intro x hx;simp only[List.mem_cons,List.not_mem_nil,or_false] at hx;rcases hx with rfl | rfl <;> (simp only[str_size];first | (rw[ht];omega) | (rw[hu];omega))) (((krz _ wr).alloc _).alloc _) 2 (some ⟨wr.heap.size+1,0,none⟩) 2 _ (rd_txts (Blk.newAt (by simp)) _ rfl 2 rfl) (λj hj=>by have e:j=wr.heap.size+1:=hj;exact⟨by omega,by rw[e];exact hne,by simp;omega⟩) (by omega))
   have HE:=hdz (show sn2 s k++txts [⟨t.toArray⟩,⟨u.toArray⟩]=sn2 s (k+1) by
    unfold sn2
    rw[←List.take_append_getElem hlt,List.flatMap_append,List.append_assoc]
    congr 1
    simp[txts,pairB,ht,hu])
   clear hwr htw hrr hcl ht hu hpe hne hbl
   go_wp2_with fail
   refine Calls.mono HC.out ?_
   rintro e w4 ⟨rfl,v4,hw4,hk4,hn4⟩
   rw[HE.out] at hw4
   have H4:=hdz (aiz hw4 (aiz hk4 hn4))
   clear hw4 hk4 hn4 HC HE c0 c1
   go_wp2_with fail
   exact⟨⟨k+1,v4,by omega,by simp,hdz ⟨H4.out.1,HR.out.2.step H4.out.2.1 H4.out.2.2⟩⟩,by simp only[intOf];omega⟩
  ·obtain rfl:k=s.pairs.length:=by omega
   obtain⟨hwr,-⟩:=HR.out
   have hmr:=(HMk.out _ _ _ hwr).1
   obtain⟨-,x1,-⟩:=hmr.three
   obtain⟨ms,hls⟩:=hmr.lk
   have hll:=hls.len
   have hl8:=HA.out.2.1.lk.len
   have HLS:=hdz hls
   have hmlr:=hmr.blk.lt
   have hgr:=hwr.wr.1.lt
   have hbl:=(sn_len HA.out.2.1).1 s.pairs.length
   have hne:vr.ownBlock≠some wr.heap.size:=λe=>by have:=(own_lt hwr.wr.2 e).2;omega
   have HC:=hdz (counts_step (wa:=wr.alloc (.cells #[.int .i64 (s.locks.length:Int)] 3)) hwr [(s.locks.length:Int)] (okInts_one (by omega) (by omega)) ((krz _ wr).alloc _) 1 (some ⟨wr.heap.size,0,none⟩) 1 _ (rd_ints (Blk.new wr _ _) _ rfl 1 rfl) (λj hj=>by have e:j=wr.heap.size:=hj;exact⟨by omega,by rw[e];exact hne,by simp;omega⟩) (by omega))
   clear hwr hmr hls hbl hne
   go_wp2_with (at_len;refine wpList_mlen rfl (.tmp 47) rfl Tryz.underlying88 rfl HLS.out.map ?_)
   refine Calls.mono HC.out ?_
   rintro e w5 ⟨rfl,v5,hw5,-,-⟩
   have hw5':WAt W V1 G (G+1) (sn3 s) w5 v5:=hw5
   have H5:=hdz hw5'
   have hm5:=(HMk.out _ _ _ hw5').1
   have hml5:=hm5.blk.lt
   have HN:=hdz (locks_any S' m bp bl s w5 hm5 HA.out.2.1.lk)
   have hG5:G+1<w5.heap.size:=hw5'.wr.1.lt
   clear hw5 hw5' HC hm5 x1 hll HLS hmlr hgr
   go_wp2_with fail
   refine HN.out.mono ?_
   rintro e w6 ⟨⟨vN,rfl,hoN⟩,f6⟩
   obtain⟨AN,cN,rfl,hrN,-⟩:=own_rd hoN
   have H6:=hdz (aiz (H5.out.fresh f6) (aiz hoN (aiz hrN f6)))
   have hml6:m<w6.heap.size:=ltz hml5 f6.size
   have hG6:G+1<w6.heap.size:=ltz hG5 f6.size
   clear hoN hrN f6 HN hml5 hG5
   go_wp2_with fail
   go_loopw [54] (λi wr=>∃ (k:Nat) (vr:Value),k≤s.locks.length∧i=.int .i64 (k:Int)∧Hid (WAt W V1 G (G+1) (sn4 s k) wr vr∧WrTo w6 v5 (G+1) wr vr)) (λi _=>s.locks.length - (intOf i).toNat)
   case atStart=>exact⟨0,v5,by omega,rfl,hdz ⟨by unfold sn4;simpa using H6.out.1,WrTo.refl _ _ _⟩⟩
   case round=>
    rename World=>wr
    obtain⟨k,vr,hk,rfl,HR⟩:=hrel
    by_cases hlt:k<s.locks.length
    ·obtain⟨hwr,htw⟩:=HR.out
     have hz6:=htw.keep.size
     have hrr:=H6.out.2.2.1.keep (htw.keep.weaken λj hj h=>⟨λe=>own_ne_blk H6.out.2.1 H6.out.1.wr.1 (by decide) (e ▸ h),λe=>own_apart H6.out.1.wr.2 H6.out.2.1 (by decide) e h⟩)
     obtain⟨b,o,rfl,-,hlx,hcl⟩:=hrr.at1 (by simpa using hlt)
     obtain⟨l,hl⟩:=exz (s.locks[k])
     have hlm:l∈s.locks:=hl ▸ List.getElem_mem hlt
     have hlo:=HA.out.2.1.lk.each l hlm
     obtain⟨t,ht⟩:=exz (l.name)
     have c0:wr.cell? ⟨b,o+k,none⟩=some (str t):=by rw[hcl,ht,hl];simp
     have hfl:lfind t s.locks=some l:=by rw[ht];exact findK_of HA.out.2.1.lk.rise hlm rfl
     have hmr:=(HMk.out _ _ _ hwr).1
     obtain⟨-,x1,-⟩:=hmr.three
     obtain⟨ms,hls⟩:=hmr.lk
     obtain⟨x,hx,hxl,hxk,hxi,hxf⟩:=lk_find hls hfl
     have ht8:t.length≤8:=by rw[ht];exact hlo.n8
     have hlk:=look_lk hls (k:=t) (by omega) _ hxf 0
     rw[show wr.drewN 0=wr from rfl] at hlk
     obtain⟨h,hh⟩:=exz (x.h)
     rw[←hh] at hlk
     have hmlr:=hmr.blk.lt
     have hgr:=hwr.wr.1.lt
     have hki:(k:Int)<(s.locks.length:Int):=by omega
     have hbl:=(sn_len HA.out.2.1).2.2.1 k
     have hne:vr.ownBlock≠some wr.heap.size:=λe=>by have:=(own_lt hwr.wr.2 e).2;omega
     have HC:=hdz (texts_step (wa:=wr.alloc (.cells #[str t] 9)) hwr [⟨t.toArray⟩] (by intro x hx;simp only[List.mem_cons,List.not_mem_nil,or_false] at hx;subst hx;simp only[str_size];omega) ((krz _ wr).alloc _) 1 (some ⟨wr.heap.size,0,none⟩) 1 _ (rd_txts (Blk.new wr _ _) _ rfl 1 rfl) (λj hj=>by have e:j=wr.heap.size:=hj;exact⟨by omega,by rw[e];exact hne,by simp;omega⟩) (by omega))
     have HL:=hdz (aiz hlm (aiz hlo (aiz ht (aiz hl (aiz hxl (aiz hxi hh))))))
     clear hwr htw hrr hlx hcl hl hlm hlo ht hfl hmr hls hx hxl hxk hxi hxf hh hbl hne
     go_wp2_with fail
     refine Calls.mono HC.out ?_
     rintro e w7 ⟨rfl,v7,hw7,hk7,hn7⟩
     obtain⟨hlm,hlo,ht,hl,hxl,hxi,hh⟩:=HL.out
     have hoG:∀bs wy vy,WAt W V1 G (G+1) bs wy vy→∀wz,Keep (λk=>k≠G+1∧vy.ownBlock≠some k) wy wz→Keep (λk=>k<G) wy wz:=λbs wy vy h wz hk=>hk.weaken λk _ hk=>⟨by omega,λe=>by have:=(own_lt h.wr.2 e).1;omega⟩
     have HoG:=hdz hoG
     have hk7G:=hoG _ _ _ HR.out.1 _ hk7
     have hxi7:=hxi.keep hk7G (HSG.out _ hxi.sh) (λk hk=>HSG.out _ (hxi.sv k hk))
     obtain⟨y0,y1,y2⟩:=hxi7.cells
     obtain⟨AQ,cQ,hvQ,-,hrQ,-⟩:=hxi7.row.rd
     rw[hvQ] at y2
     rw[hxl] at y0 y1 y2 hvQ hrQ
     rw[←hh] at y0 y1 y2
     have hhl7:h<w7.heap.size:=by have:=hxi7.blk.lt;rw[←hh] at this;exact this
     have hhG:h<G:=by rw[hh];exact HSG.out _ hxi.sh
     have hql:=queue_len hlo.nd hlo.q
     have hqz:∀k,x.v.ownBlock=some k→k<G:=λk hk=>HSG.out _ (hxi.sv k hk)
     rw[hvQ] at hrQ hqz
     obtain⟨lh,hlh⟩:∃z,z=l.holder:=⟨_,rfl⟩
     obtain⟨lt,hlt2⟩:∃z,z=l.token:=⟨_,rfl⟩
     obtain⟨lq,hlq⟩:∃z,z=l.queue:=⟨_,rfl⟩
     have b0:=hlo.h0;have b1:=hlo.h1;have b2:=hlo.t0;have b3:=hlo.t1;have b4:=HA.out.2.1.lk.tok1
     rw[←hlh] at y0 b0 b1
     rw[←hlt2] at y1 b2 b3
     rw[←hlq] at y2 hrQ hql hqz
     have hg7:=hw7.wr.1.lt
     have hl7:(sn4 s k++txts [⟨t.toArray⟩]).length≤1100:=by
      have h1:=(sn_len HA.out.2.1).2.2.1 k
      have h2:(txts [⟨t.toArray⟩]).length≤9:=by
       show (txt t++[]).length≤9
       rw[List.append_nil]
       exact txt_len9 ht8
      rw[lapz]
      omega
     have hne7:v7.ownBlock≠some w7.heap.size:=λe=>by have:=(own_lt hw7.wr.2 e).2;omega
     have HC8:=hdz (counts_step (wa:=World.drew (w7.alloc (.cells #[.int .i64 lh,.int .i64 lt,.int .i64 (lq.length:Int)] 3))) hw7 [lh,lt,(lq.length:Int)] (by intro x hx;simp only[List.mem_cons,List.not_mem_nil,or_false] at hx;rcases hx with rfl | rfl | rfl <;> omega) (((krz _ w7).alloc _).drew) 3 (some ⟨w7.heap.size,0,none⟩) 3 _ (rd_ints (Blk.new w7 _ _).drew _ rfl 3 rfl) (λj hj=>by have e:j=w7.heap.size:=hj;exact⟨by omega,by rw[e];exact hne7,by show j<(w7.alloc _).heap.size;simp;omega⟩) (by omega))
     have HS7:=hdz (λw' (hk:Keep (λk=>k<G) w7 w')=>(⟨hk.cellAt y0 hhG,hk.cellAt y1 hhG,hk.cellAt y2 hhG⟩:w'.cell? ⟨h,0,none⟩=some (.int .i64 lh)∧w'.cell? ⟨h,1,none⟩=some (.int .i64 lt)∧w'.cell? ⟨h,2,none⟩=some (.slice AQ lq.length cQ)))
     have hto7:=HR.out.2.step hk7 hn7
     have H7:=hdz (aiz hw7 (aiz hto7 (aiz hrQ (aiz hqz (aiz hlo (aiz ht (aiz hl (aiz hlh (aiz hlt2 hlq)))))))))
     clear hlm hlo ht hl hxl hxi hh hoG hk7G hxi7 hvQ hrQ hqz hlh hlt2 hlq hl7 hne7 hw7 hto7 hk7 hn7 c0 x1 hlk HC hhl7
     go_upto_region 14 with (fail)
     go_region_held3 (λw'=>w'.cell? ⟨h,0,none⟩=some (.int .i64 lh)∧w'.cell? ⟨h,1,none⟩=some (.int .i64 lt)∧w'.cell? ⟨h,2,none⟩=some (.slice AQ lq.length cQ))
      (first | exact HS7.out _ (krz _ w7).drew | exact HS7.out _ (((krz _ w7).alloc _).drew) | exact HS7.out _ (HoG.out _ _ _ H7.out.1 _ hk8))
      (first | (go_at_call 38;with_reducible refine Calls.mono HC8.out ?_;rintro e w8 ⟨rfl,v8,hw8,hk8,hn8⟩))
     obtain⟨y0,y1,y2⟩:=HS7.out _ (HoG.out _ _ _ H7.out.1 _ hk8)
     have hhl8:h<w8.heap.size:=lt_of_cell y2
     have hl8:(sn4 s k++txts [⟨t.toArray⟩]++encs [lh,lt,(lq.length:Int)]).length≤1200:=by
      have h1:=(sn_len HA.out.2.1).2.2.1 k
      have h2:(txts [⟨t.toArray⟩]).length≤9:=by
       show (txt t++[]).length≤9
       rw[List.append_nil]
       exact txt_len9 ht8
      have h3:(encs [lh,lt,(lq.length:Int)]).length≤9*3:=encs_len _ (by intro x hx;simp only[List.mem_cons,List.not_mem_nil,or_false] at hx;rcases hx with rfl | rfl | rfl <;> omega)
      rw[lapz,lapz]
      omega
     have hg8:=hw8.b1
     have HC9:=hdz (counts_step (wa:=w8) hw8 lq (by intro x hx;have h1:=H7.out.2.2.2.2.1.q x (by rw[←H7.out.2.2.2.2.2.2.2.2.2];exact hx);omega) (krz _ w8) cQ AQ lq.length _ (H7.out.2.2.1.keep ((HoG.out _ _ _ H7.out.1 _ hk8).weaken λk _ hk=>H7.out.2.2.2.1 k hk)) (λj hj=>by have h1:=H7.out.2.2.2.1 j hj;exact⟨by omega,λe=>by have:=(own_lt hw8.wr.2 e).1;omega,by omega⟩) (by omega))
     have HE:=hdz (show sn4 s k++txts [⟨t.toArray⟩]++encs [lh,lt,(lq.length:Int)]++encs lq=sn4 s (k+1) by
      obtain⟨-,-,-,-,-,ht,hl,hlh,hlt2,hlq⟩:=H7.out
      have e:(s.locks.take (k+1)).flatMap lockB=(s.locks.take k).flatMap lockB++lockB l:=by rw[←List.take_append_getElem hlt,List.flatMap_append,←hl];simp
      unfold sn4
      rw[e,ht,hlh,hlt2,hlq]
      have e2:txts [⟨l.name.toArray⟩]=txt l.name:=by show txt l.name++[]=_;rw[List.append_nil]
      rw[e2]
      simp only[lockB,queueB,encs_cons,encs_nil,List.append_nil,List.append_assoc,Int.toNat_natCast]
      rfl)
     have H8:=hdz (H7.out.2.1.step hk8 hn8)
     clear hw8 hk8 hn8 HC8 hl8
     go_wp2_with fail
     refine Calls.mono HC9.out ?_
     rintro e w9 ⟨rfl,v9,hw9,hk9,hn9⟩
     rw[HE.out] at hw9
     have H9:=hdz (aiz hw9 (H8.out.step hk9 hn9))
     clear hw9 hk9 hn9 HC9 HE y0 y1 y2
     go_wp2_with fail
     exact⟨⟨k+1,v9,by omega,by simp,H9⟩,by simp only[intOf];omega⟩
    ·obtain rfl:k=s.locks.length:=by omega
     obtain⟨hwr,-⟩:=HR.out
     have H0:=hdz hwr
     have hmr:=(HMk.out _ _ _ hwr).1
     have hmlr:=hmr.blk.lt
     have hgr:=hwr.wr.1.lt
     have HK:=hdz (asked_any S' m bp bl s wr hmr)
     have hal:=askTo_len s.ss 16
     clear hwr hmr
     go_wp2_with fail
     refine Calls.mono HK.out ?_
     rintro e w10 ⟨⟨vK,rfl,hoK⟩,f10⟩
     obtain⟨AK,cK,rfl,hrK,-⟩:=own_rd hoK
     have hw10:=H0.out.fresh f10
     have hg10:=hw10.wr.1.lt
     have hml10:m<w10.heap.size:=ltz hmlr f10.size
     have hb10:=(sn_len HA.out.2.1).2.2.1 s.locks.length
     have hne10:vr.ownBlock≠some w10.heap.size:=λe=>by have:=(own_lt hw10.wr.2 e).2;omega
     have HC:=hdz (counts_step (wa:=w10.alloc (.cells #[.int .i64 ((askTo s.ss 16).length:Int)] 3)) hw10 [((askTo s.ss 16).length:Int)] (okInts_one (by omega) (by omega)) ((krz _ w10).alloc _) 1 (some ⟨w10.heap.size,0,none⟩) 1 _ (rd_ints (Blk.new w10 _ _) _ rfl 1 rfl) (λj hj=>by have e:j=w10.heap.size:=hj;exact⟨by omega,by rw[e];exact hne10,by simp;omega⟩) (by omega))
     clear hoK hrK f10 HK hw10 hb10 hne10
     go_wp2_with fail
     refine Calls.mono HC.out ?_
     rintro e w11 ⟨rfl,v11,hw11,-,-⟩
     have hw11':WAt W V1 G (G+1) (sn5 s) w11 v11:=hw11
     have H11:=hdz hw11'
     have hm11:=(HMk.out _ _ _ hw11').1
     have hml11:=hm11.blk.lt
     have HK:=hdz (asked_any S' m bp bl s w11 hm11)
     have hg11:=hw11'.wr.1.lt
     clear hw11 hw11' hm11 HC hml10 hg10
     go_wp2_with fail
     refine Calls.mono HK.out ?_
     rintro e w12 ⟨⟨vL,rfl,hoL⟩,f12⟩
     obtain⟨AL,cL,rfl,hrL,-⟩:=own_rd hoL
     have H12:=hdz (aiz (H11.out.fresh f12) (aiz hoL (aiz hrL f12)))
     have hml12:m<w12.heap.size:=ltz hml11 f12.size
     have hg12:G+1<w12.heap.size:=ltz hg11 f12.size
     have hale:(askTo s.ss 16).length=(asked s.ss).length:=by rw[askTo_all];simp
     clear hoL hrL f12 HK hml11 hg11
     go_wp2_with fail
     have hoLi:Hid (∀k (hk:k<(asked s.ss).length),(ics (askTo s.ss 16))[k]?=some (.int .i64 (((asked s.ss)[k]'hk).1:Int))):=hdz λk hk=>by
      rw[askTo_all]
      simp[ics,hk]
     go_loopw [100] (λi wr=>∃ (k:Nat) (vr:Value),k≤(asked s.ss).length∧i=.int .i64 (k:Int)∧Hid (WAt W V1 G (G+1) (sn6 s k) wr vr∧WrTo w12 v11 (G+1) wr vr)) (λi _=>(asked s.ss).length - (intOf i).toNat)
     case atStart=>exact⟨0,v11,by omega,rfl,hdz ⟨by unfold sn6;simpa using H12.out.1,WrTo.refl _ _ _⟩⟩
     case round=>
      rename World=>wr
      obtain⟨k,vr,hk,rfl,HR⟩:=hrel
      by_cases hlt:k<(asked s.ss).length
      ·obtain⟨hwr,htw⟩:=HR.out
       have hz12:=htw.keep.size
       have hrr:=H12.out.2.2.1.keep (htw.keep.weaken λj hj h=>⟨λe=>own_ne_blk H12.out.2.1 H12.out.1.wr.1 (by decide) (e ▸ h),λe=>own_apart H12.out.1.wr.2 H12.out.2.1 (by decide) e h⟩)
       obtain⟨b,o,rfl,-,hlx,hcl⟩:=hrr.at1 (by rw[hale];exact hlt)
       obtain⟨x,hx⟩:=exz ((asked s.ss)[k])
       obtain⟨q,z⟩:=x
       have hxm:(q,z)∈asked s.ss:=hx ▸ List.getElem_mem hlt
       obtain⟨hq16,hso⟩:=ses_asked HA.out.2.1 hxm
       obtain⟨-,hzq,-⟩:=asked_mem.1 hxm
       simp only at hq16 hso hzq
       have c0:wr.cell? ⟨b,o+k,none⟩=some (.int .i64 (q:Int)):=by
        have h1:=hoLi.out k hlt
        rw[←hx] at h1
        rw[List.getElem?_eq_getElem hlx] at h1
        rw[hcl]
        exact h1
       have hmr:=(HMk.out _ _ _ hwr).1
       have hmlr:=hmr.blk.lt
       have hgr:=hwr.wr.1.lt
       have hqi:(q:Int)<16:=by omega
       have hki:(k:Int)<((asked s.ss).length:Int):=by omega
       have s0:=hmr.ses hq16 0 (by omega)
       have s1:=hmr.ses hq16 1 (by omega)
       have s2:=hmr.ses hq16 2 (by omega)
       have s3:=hmr.ses hq16 3 (by omega)
       have s4:=hmr.ses hq16 4 (by omega)
       rw[←hzq] at s0 s1 s2 s3 s4
       simp[MSess.cells] at s0 s1 s2 s3 s4
       have g0:=hso.i0;have g1:=hso.i1;have g2:=hso.r0;have g3:=hso.r1;have g4:=hso.last.c0;have g5:=hso.last.c1;have g6:=hso.last.n0;have g7:=hso.last.n1;have g8:=hso.last.v
       obtain⟨zi,hzi⟩:∃y,y=z.inc:=⟨_,rfl⟩
       obtain⟨zr,hzr⟩:∃y,y=z.req:=⟨_,rfl⟩
       obtain⟨zc,hzc⟩:∃y,y=z.last.code:=⟨_,rfl⟩
       obtain⟨zv,hzv⟩:∃y,y=z.last.val:=⟨_,rfl⟩
       obtain⟨zn,hzn⟩:∃y,y=z.last.n:=⟨_,rfl⟩
       rw[←hzi] at s0 g0 g1
       rw[←hzr] at s1 g2 g3
       rw[←hzc] at s2 g4 g5
       rw[←hzv] at s3 g8
       rw[←hzn] at s4 g6 g7
       have hbl:=(sn_len HA.out.2.1).2.2.2.2 k
       have hfA:Fresh wr (wr.alloc (.cells #[.int .i64 zi,.int .i64 zr,.int .i64 zc,str zv,.int .i64 zn] 41)):=(krz _ wr).alloc _
       have hwA:=hwr.fresh hfA
       have hbA:Blk (wr.alloc (.cells #[.int .i64 zi,.int .i64 zr,.int .i64 zc,str zv,.int .i64 zn] 41)) wr.heap.size 41 #[.int .i64 zi,.int .i64 zr,.int .i64 zc,str zv,.int .i64 zn]:=Blk.new _ _ _
       have hne:vr.ownBlock≠some (wr.heap.size+1)∧vr.ownBlock≠some wr.heap.size:=⟨λe=>by have:=(own_lt hwr.wr.2 e).2;omega,λe=>by have:=(own_lt hwr.wr.2 e).2;omega⟩
       have HC:=hdz (counts_step (wa:=(wr.alloc (.cells #[.int .i64 zi,.int .i64 zr,.int .i64 zc,str zv,.int .i64 zn] 41)).alloc (.cells #[.int .i64 (q:Int),.int .i64 zi,.int .i64 zr,.int .i64 zc] 3)) hwA [(q:Int),zi,zr,zc] (by intro x hx;simp only[List.mem_cons,List.not_mem_nil,or_false] at hx;rcases hx with rfl | rfl | rfl | rfl <;> omega) ((krz _ _).alloc _) 4 (some ⟨wr.heap.size+1,0,none⟩) 4 _ (rd_ints (Blk.newAt (by simp)) _ rfl 4 rfl) (λj hj=>by have e:j=wr.heap.size+1:=hj;exact⟨by omega,by rw[e];exact hne.1,by simp;omega⟩) (by omega))
       have HX:=hdz (aiz hwA (aiz hbA (aiz hne (aiz hx (aiz hzi (aiz hzr (aiz hzc (aiz hzv hzn))))))))
       have htA:=hdz (htw.fresh hfA)
       clear hwr htw hrr hlx hcl hx hxm hso hzq hmr hbl hfA hwA hbA hne hzi hzr hzc hzv hzn
       go_wp2_with fail
       refine Calls.mono HC.out ?_
       rintro e w13 ⟨rfl,v13,hw13,hk13,hn13⟩
       have hb13:=HX.out.2.1.keep hk13 ⟨by omega,HX.out.2.2.1.2⟩
       have d3:=hb13.cell 3
       have d4:=hb13.cell 4
       simp at d3 d4
       have hl13:=hb13.lt
       have hg13:=hw13.wr.1.lt
       have hne13:v13.ownBlock≠some w13.heap.size:=λe=>by have:=(own_lt hw13.wr.2 e).2;omega
       have hlen13:(sn6 s k++encs [(q:Int),zi,zr,zc]).length≤1200:=by
        have h1:=(sn_len HA.out.2.1).2.2.2.2 k
        have h3:(encs [(q:Int),zi,zr,zc]).length≤9*4:=encs_len _ (by intro x hx;simp only[List.mem_cons,List.not_mem_nil,or_false] at hx;rcases hx with rfl | rfl | rfl | rfl <;> omega)
        rw[lapz]
        omega
       have HC2:=hdz (texts_step (wa:=w13.alloc (.cells #[str zv] 9)) hw13 [⟨zv.toArray⟩] (by intro x hx;simp only[List.mem_cons,List.not_mem_nil,or_false] at hx;subst hx;simp only[str_size];omega) ((krz _ w13).alloc _) 1 (some ⟨w13.heap.size,0,none⟩) 1 _ (rd_txts (Blk.new w13 _ _) _ rfl 1 rfl) (λj hj=>by have e:j=w13.heap.size:=hj;exact⟨by omega,by rw[e];exact hne13,by simp;omega⟩) (by omega))
       have H13:=hdz (aiz hw13 (aiz (htA.out.step hk13 hn13) (aiz hb13 hlen13)))
       clear hw13 hk13 hn13 hb13 hne13 hlen13 HC c0 s0 s1 s2 s3 s4
       go_wp2_with fail
       refine Calls.mono HC2.out ?_
       rintro e w14 ⟨rfl,v14,hw14,hk14,hn14⟩
       have hneB:v13.ownBlock≠some wr.heap.size:=λe=>own_ne_blk H13.out.1.wr.2 H13.out.2.2.1 (by decide) e
       have hb14:=H13.out.2.2.1.keep hk14 ⟨by omega,hneB⟩
       have d4:=hb14.cell 4
       simp at d4
       have hl14:=hb14.lt
       have hg14:=hw14.wr.1.lt
       have hne14:v14.ownBlock≠some w14.heap.size:=λe=>by have:=(own_lt hw14.wr.2 e).2;omega
       have hlen14:(sn6 s k++encs [(q:Int),zi,zr,zc]++txts [⟨zv.toArray⟩]).length≤1300:=by
        have h1:=H13.out.2.2.2
        have h2:(txts [⟨zv.toArray⟩]).length≤9:=by
         show (txt zv++[]).length≤9
         rw[List.append_nil]
         exact txt_len9 g8
        rw[lapz]
        omega
       have HC3:=hdz (counts_step (wa:=w14.alloc (.cells #[.int .i64 zn] 3)) hw14 [zn] (okInts_one (by omega) (by omega)) ((krz _ w14).alloc _) 1 (some ⟨w14.heap.size,0,none⟩) 1 _ (rd_ints (Blk.new w14 _ _) _ rfl 1 rfl) (λj hj=>by have e:j=w14.heap.size:=hj;exact⟨by omega,by rw[e];exact hne14,by simp;omega⟩) (by omega))
       have HE:=hdz (show sn6 s k++encs [(q:Int),zi,zr,zc]++txts [⟨zv.toArray⟩]++encs [zn]=sn6 s (k+1) by
        obtain⟨-,-,-,hx,hzi,hzr,hzc,hzv,hzn⟩:=HX.out
        have e:((asked s.ss).take (k+1)).flatMap sesB=((asked s.ss).take k).flatMap sesB++sesB (q,z):=by rw[←List.take_append_getElem hlt,List.flatMap_append,←hx];simp
        unfold sn6
        rw[e,hzi,hzr,hzc,hzv,hzn]
        have e2:txts [⟨z.last.val.toArray⟩]=txt z.last.val:=by show txt z.last.val++[]=_;rw[List.append_nil]
        rw[e2]
        simp only[sesB,encs_cons,encs_nil,List.append_nil,List.append_assoc,Int.toNat_natCast])
       have H14:=hdz (H13.out.2.1.step hk14 hn14)
       clear hw14 hk14 hn14 hb14 hne14 hlen14 hneB HC2
       go_wp2_with fail
       refine Calls.mono HC3.out ?_
       rintro e w15 ⟨rfl,v15,hw15,hk15,hn15⟩
       rw[HE.out] at hw15
       have H15:=hdz (aiz hw15 (H14.out.step hk15 hn15))
       clear hw15 hk15 hn15 HC3 HE
       go_wp2_with fail
       exact⟨⟨k+1,v15,by omega,by simp,H15⟩,by simp only[intOf];omega⟩
      ·obtain rfl:k=(asked s.ss).length:=by omega
       obtain⟨hwr,-⟩:=HR.out
       rw[sn_all] at hwr
       have hF:=(HMk.out _ _ _ hwr).2
       have hNib:=HA.out.2.2.2.2.2.2.1 _ hF
       obtain⟨Av,cv,hvv,hrv,-⟩:=own_rd hwr.wr.2
       have hbv:=hwr.wr.1
       have hov:=hwr.wr.2
       have hbl:(bodyB s).length≤1070:=by have:=(sn_len HA.out.2.1).2.2.2.2 (asked s.ss).length;rw[sn_all] at this;exact this
       rw[hvv] at hbv hov
       have y0:=hbv.cell 0
       simp at y0
       have hgr:=hbv.lt
       have HU:=hdz (sum_any _ Av (bodyB s).length cv (bodyB s) wr hrv (by omega) hNib)
       have HV:=hdz (aiz hov (aiz hF hwr.b1))
       obtain⟨sm,hsm⟩:=exz (crcB (bodyB s))
       have hs32:sm<4294967296:=hsm ▸ crcB_lt _
       rw[←hsm] at HU
       have HSM:=hdz hsm
       clear hwr hF hNib hrv hbv hov hvv hsm
       go_wp2_with fail
       refine Calls.mono HU.out ?_
       rintro e _ ⟨rfl,rfl⟩
       have hi0:0≤(sm:Int):=by omega
       have hi1:(sm:Int)<4294967296:=by omega
       go_upto_region 27 with (fail)
       have HN4:=hdz (sum_cells (bodyB s) sm HSM.out)
       go_wp2_with (at_builtin;refine wpList_app etU8 rfl (.tmp 142) (.tmp 154) rfl G _ (bodyB s).length (Lib.byteCells (bodyB s)) rfl (HV.out.1.alloc _) _ (some ⟨wr.heap.size,0,none⟩) 4 4 [.int .u8 ((sm:Int) % 256),.int .u8 ((sm:Int) / 256 % 256),.int .u8 ((sm:Int) / 65536 % 256),.int .u8 ((sm:Int) / 16777216)] rfl ((Blk.new wr _ _).rd rfl) (λh=>by cases h) (by intro u hu;simp only[List.mem_cons,List.not_mem_nil,or_false] at hu;rcases hu with rfl | rfl | rfl | rfl <;> rfl) (by omega) (by have:=HV.out.2.2;simp;omega) ?_)
       intro vF wF hoF hkF hnF
       have HFin:=hdz (aiz hoF hkF)
       clear hoF hkF hnF
       go_wp2_with fail
       go_ret
       obtain⟨hoF,hkF⟩:=HFin.out
       obtain⟨hov,hF,hB⟩:=HV.out
       rw[HN4.out] at hoF
       have hG:=HA.out.2.2.2.2.2.1
       have e:Lib.byteCells (bodyB s)++Lib.byteCells (sumB (bodyB s))=Lib.byteCells (snapB s):=by unfold snapB;simp[Lib.byteCells]
       have e2:(bodyB s).length+4=(snapB s).length:=by unfold snapB;rw[lapz,sumB_four]
       rw[e,e2,hG] at hoF
       exact⟨⟨_,rfl,hoF⟩,(hF.comp ((krz (λ_=>True) wr).alloc _) (λ_ _ h=>h) (λ_ _ _=>trivial)).comp hkF (λ_ _ h=>h) (λi hi _ e=>by have:=(own_lt hov e).1;omega)⟩
structure RSAt (bs:Txt)(R:List (Nat×SesD)×Nat×Bool)(cnt k:Nat)(last:Int)(m g bp bl:Nat)(tok:Int)(A:Option Addr)(n c:Nat)(w wr:World)(pk:Nat)(badk:Bool)(pre:List (Nat×SesD)):Prop where
 eq:R=(pre++(runF (rdSes bs) schk snxt (cnt - k) pk badk last).1,(runF (rdSes bs) schk snxt (cnt - k) pk badk last).2)
 rd:Rdr wr g A n c pk badk
 pn:pk≤n
 blk:Blk wr m 91 (mcells bp bl tok (ssPut pre (List.replicate 16 noSes))).toArray
 lo : -1≤last
 keep:Keep (λj=>j≠g∧j≠m) w wr
def missL (ss:List SesD)(l:LockD):Bool:=(l.holder::l.queue).any λc=>decide ((ss.getD c.toNat noSes).inc=0)
theorem miss_step {ls:List LockD} {todo:List Txt} {t:Txt} {x:LockD} (f:LockD→Bool) (hr:Rise (ls.map LockD.name)) (hx:x∈ls) (hn:x.name=t) (ht:t∈todo) :
 (ls.filter λl=>!decide (l.name∈todo.filter λy=>!(y==t))).any f=((ls.filter λl=>!decide (l.name∈todo)).any f || f x):=by
 have hu:∀l∈ls,l.name=t→l=x:=λl hl he=>by
  have h2:=findK_of (key:=LockD.name) hr hx hn
  have h3:=findK_of (key:=LockD.name) hr hl he
  rw[h2] at h3
  injection h3 with h3
  exact h3.symm
 rw[Bool.eq_iff_iff,Bool.or_eq_true,List.any_eq_true,List.any_eq_true]
 constructor
 ·rintro ⟨l,hl,hf⟩
  obtain⟨h1,h2⟩:=List.mem_filter.1 hl
  by_cases he:l.name=t
  ·exact .inr (hu l h1 he ▸ hf)
  ·refine .inl ⟨l,List.mem_filter.2 ⟨h1,?_⟩,hf⟩
   rw[Bool.not_eq_true'] at h2
   have h3:=of_decide_eq_false h2
   have:l.name ∉ todo:=λhm=>h3 (List.mem_filter.2 ⟨hm,by simpa using he⟩)
   rw[Bool.not_eq_true',decide_eq_false_iff_not]
   exact this
 ·rintro (⟨l,hl,hf⟩ | hf)
  ·obtain⟨h1,h2⟩:=List.mem_filter.1 hl
   refine⟨l,List.mem_filter.2 ⟨h1,?_⟩,hf⟩
   rw[Bool.not_eq_true'] at h2
   have h3:=of_decide_eq_false h2
   have:¬(l.name∈todo.filter λy=>!(y==t)):=λhm=>h3 (List.mem_filter.1 hm).1
   rw[Bool.not_eq_true',decide_eq_false_iff_not]
   exact this
  ·refine⟨x,List.mem_filter.2 ⟨hx,?_⟩,hf⟩
   have:¬(x.name∈todo.filter λy=>!(y==t)):=λhm=>by
    have:=(List.mem_filter.1 hm).2
    rw[hn] at this
    simp at this
   rw[Bool.not_eq_true',decide_eq_false_iff_not]
   exact this
def missTo (ss:List SesD)(cs:List Int)(k:Nat):Bool:=(cs.take k).any λc=>decide ((ss.getD c.toNat noSes).inc=0)
theorem missTo_succ (ss:List SesD)(cs:List Int)(k:Nat)(hk:k<cs.length):missTo ss cs (k+1)=(missTo ss cs k || decide ((ss.getD cs[k].toNat noSes).inc=0)):=by
 unfold missTo
 rw[←List.take_append_getElem hk,List.any_append]
 simp
theorem missTo_all (ss:List SesD)(l:LockD)(k:Nat)(hk:l.queue.length+1≤k):missTo ss (l.holder::l.queue) k=missL ss l:=by
 unfold missTo missL
 rw[List.take_of_length_le (by simpa using hk)]
def RSPost (ls:List LockD)(R:List (Nat×SesD)×Nat×Bool)(m g bp bl:Nat)(tok:Int)(A:Option Addr)(n c:Nat)(w:World)(e:Ending)(w':World):Prop:=
 e=.returned (.tuple #[])∧Blk w' m 91 (mcells bp bl tok (ssPut R.1 (List.replicate 16 noSes))).toArray∧Rdr w' g A n c R.2.1 (R.2.2 || sesMiss ls (ssPut R.1 (List.replicate 16 noSes)))∧R.2.1≤n∧Keep (λj=>j≠g∧j≠m) w w'
structure RTAt (ls:List LockD)(ss:List SesD)(S:Nat→Prop)(m g bl rg:Nat)(A:Option Addr)(n c p1:Nat)(bad1:Bool)(ms:List LkM)(w w2:World)(todo:List Txt)(badx:Bool):Prop where
 rng:RangeIs Tryz.prog 9 w2 bl rg (ms.map LkM.kv) todo
 rd:Rdr w2 g A n c p1 badx
 bad:badx=(bad1 || (ls.filter λl=>!decide (l.name∈todo)).any (missL ss))
 keep:Keep (λj=>j≠g) w w2
theorem rsess_any (m g bp bl:Nat) (tok:Int) (Z:Nat→Prop) (A:Option Addr) (n c:Nat) (bs:Txt) (p:Nat) (bad:Bool) (w:World) (hm:Blk w m 91 (mcells bp bl tok (List.replicate 16 noSes)).toArray) (hmg:m≠g) (hg:Rdr w g A n c p bad) (hz:∀k,Z k→k≠g∧k≠m) (hp:p≤n) (hnc:n≤c) (hb:Rd w Z 1 A n (Lib.byteCells bs)) (hn:n≤1099511627770) (S:Nat→Prop) (ls:List LockD) (hlk:∃ms,Lks S w bl ms ls) (hrise:Rise (ls.map LockD.name)) (hsafe:∀l∈ls,(0≤l.holder∧l.holder<16)∧∀c∈l.queue,0≤c∧c<16) (hqlen:∀l∈ls,l.queue.length≤15) (hSz:∀j,S j→j≠g∧j≠m) :
 Calls Tryz.prog 52 #[.pointer (some ⟨m,0,none⟩),.pointer (some ⟨g,0,none⟩)] w (RSPost ls (rSess1 bs p bad) m g bp bl tok A n c w):=by
 have hlen:bs.length=n:=by simpa[Lib.byteCells] using hb.1
 have HLK:=hdz (aiz hlk (aiz hrise (aiz hsafe (aiz hqlen hSz))))
 clear hlk hrise hsafe hqlen hSz
 obtain⟨R,hR⟩:=exz (rSess1 bs p bad)
 rw[←hR]
 have HC:=hdz (rcount_any g Z A n c bs p bad 16 w hg hp hb hn)
 have hle:=rCount_le bs p bad 16 (by omega)
 have hmost:=rCount_most bs p bad (most:=16) (by omega)
 unfold rSess1 at hR
 generalize rCount bs p bad 16=q at HC hR hle hmost
 obtain⟨cnt,p1,bad1⟩:=q
 simp only at HC hR hle hmost
 have hml:=hm.lt
 have HB:=hdz (aiz hb (aiz hz (aiz hm (aiz hR hlen))))
 clear hb hz hm hR hlen hg
 go_enter Tryz.func52,Tryz.ntmps52
 go_wp2_with fail
 refine Calls.mono HC.out ?_
 rintro e w1 ⟨rfl,hg1,hk1⟩
 have H1:=hdz (aiz hg1 hk1)
 have hml1:=ltz hml hk1.size
 clear hg1 hk1 HC hml
 go_wp2_with fail
 go_loopw [4,13] (λl i wr=>∃ (k:Nat) (last:Int),k≤cnt∧i=.int .i64 (k:Int)∧l=.int .i64 last∧Hid (∃pk badk pre,RSAt bs R cnt k last m g bp bl tok A n c w wr pk badk pre)) (λ_ i _=>cnt - (intOf i).toNat)
 case atStart=>exact⟨0,-1,by omega,rfl,rfl,hdz ⟨p1,bad1,[],⟨by rw[HB.out.2.2.2.1];rfl,H1.out.1,by have:=HB.out.2.2.2.2;omega,HB.out.2.2.1.keep H1.out.2 hmg,by omega,H1.out.2.weaken λ_ _ h=>h.1⟩⟩⟩
 case round=>
  rename World=>wr
  obtain⟨k,last,hk,rfl,rfl,HR⟩:=hrel
  obtain⟨pk,badk,pre,hat⟩:=HR.out
  have HA:=hdz hat
  clear hat HR
  by_cases hlt:k<cnt
  ·have hbw:∀wx,Keep (λj=>j≠g∧j≠m) w wx→Rd wx Z 1 A n (Lib.byteCells bs):=λwx hk=>HB.out.1.keep (hk.weaken λj _ h=>HB.out.2.1 j h)
   have HBW:=hdz hbw
   have hbn:=HB.out.2.2.2.2
   have HC1:=hdz (rcount_any g Z A n c bs pk badk 15 wr HA.out.rd HA.out.pn (hbw _ HA.out.keep) hn)
   have hl1:=rCount_le bs pk badk 15 (by have:=HA.out.pn;omega)
   have hm1:=rCount_most bs pk badk (most:=15) (by omega)
   obtain⟨q1,hq1⟩:∃q,q=rCount bs pk badk 15:=⟨_,rfl⟩
   rw[←hq1] at HC1 hl1 hm1
   have HQ1:=hdz hq1
   clear hq1 hbw
   go_wp2_with fail
   refine Calls.mono HC1.out ?_
   rintro e wA ⟨rfl,hgA,hkA⟩
   have hkWA:Keep (λj=>j≠g∧j≠m) w wA:=HA.out.keep.comp hkA (λ_ _ h=>h) (λ_ _ h=>h.1)
   have HC2:=hdz (rcount_any g Z A n c bs q1.2.1 q1.2.2 4611686018427387904 wA hgA (by omega) (HBW.out _ hkWA) hn)
   have hl2:=rCount_le bs q1.2.1 q1.2.2 4611686018427387904 (by omega)
   have hm2:=rCount_most bs q1.2.1 q1.2.2 (most:=4611686018427387904) (by omega)
   obtain⟨q2,hq2⟩:∃q,q=rCount bs q1.2.1 q1.2.2 4611686018427387904:=⟨_,rfl⟩
   rw[←hq2] at HC2 hl2 hm2
   have HQ2:=hdz hq2
   have HKA:=hdz (aiz hkA hkWA)
   clear hq2 hgA hkA hkWA HC1
   go_wp2_with fail
   refine Calls.mono HC2.out ?_
   rintro e wB ⟨rfl,hgB,hkB⟩
   have hkWB:Keep (λj=>j≠g∧j≠m) w wB:=HKA.out.2.comp hkB (λ_ _ h=>h) (λ_ _ h=>h.1)
   have HC3:=hdz (rcount_any g Z A n c bs q2.2.1 q2.2.2 4611686018427387904 wB hgB (by omega) (HBW.out _ hkWB) hn)
   have hl3:=rCount_le bs q2.2.1 q2.2.2 4611686018427387904 (by omega)
   have hm3:=rCount_most bs q2.2.1 q2.2.2 (most:=4611686018427387904) (by omega)
   obtain⟨q3,hq3⟩:∃q,q=rCount bs q2.2.1 q2.2.2 4611686018427387904:=⟨_,rfl⟩
   rw[←hq3] at HC3 hl3 hm3
   have HQ3:=hdz hq3
   have HKB:=hdz (aiz hkB hkWB)
   clear hq3 hgB hkB hkWB HC2
   go_wp2_with fail
   refine Calls.mono HC3.out ?_
   rintro e wC ⟨rfl,hgC,hkC⟩
   have hkWC:Keep (λj=>j≠g∧j≠m) w wC:=HKB.out.2.comp hkC (λ_ _ h=>h) (λ_ _ h=>h.1)
   have HKC:=hdz (aiz hgC (aiz hkC hkWC))
   have hml3:m<wC.heap.size:=(HA.out.blk.keep (((HKA.out.1.trans HKB.out.1).trans hkC)) hmg).lt
   have hgl3:=hgC.lt
   clear hgC hkC hkWC HC3
   go_upto_region 5 with (fail)
   obtain⟨hs,hhs⟩:=exz (wC.heap.size)
   obtain⟨wD,hwD⟩:=exz (wC.alloc (.cells #[.int .i64 (q2.1:Int),.int .i64 (q3.1:Int),.int .i64 0,str [],.int .i64 0] 41))
   rw[←hhs,←hwD]
   have hf:Fresh wC wD:=hwD ▸ (krz _ wC).alloc _
   have hbD:Blk wD hs 41 #[.int .i64 (q2.1:Int),.int .i64 (q3.1:Int),.int .i64 0,str [],.int .i64 0]:=by rw[hwD,hhs];exact Blk.new _ _ _
   have hgD:=HKC.out.1.keep hf trivial
   have hkWD:Keep (λj=>j≠g∧j≠m) w wD:=HKC.out.2.2.comp hf (λ_ _ h=>h) (λ_ _ _=>trivial)
   have hsg:hs≠g:=λe=>Blk.ne hbD hgD (by decide) e
   have hsm:hs≠m:=by omega
   have HC4:=hdz (rcount_any g Z A n c bs q3.2.1 q3.2.2 11 wD hgD (by omega) (HBW.out _ hkWD) hn)
   have hl4:=rCount_le bs q3.2.1 q3.2.2 11 (by omega)
   have hm4:=rCount_most bs q3.2.1 q3.2.2 (most:=11) (by omega)
   obtain⟨q4,hq4⟩:∃q,q=rCount bs q3.2.1 q3.2.2 11:=⟨_,rfl⟩
   rw[←hq4] at HC4 hl4 hm4
   have HQ4:=hdz hq4
   have HKD:=hdz (aiz hbD (aiz hkWD (aiz hf hhs)))
   clear hwD hf hbD hgD hkWD hhs hq4
   go_wp2_with fail
   refine Calls.mono HC4.out ?_
   rintro e wE ⟨rfl,hgE,hkE⟩
   have hkWE:Keep (λj=>j≠g∧j≠m) w wE:=HKD.out.2.1.comp hkE (λ_ _ h=>h) (λ_ _ h=>h.1)
   have HC5:=hdz (rtext_any g Z A n c bs q4.2.1 q4.2.2 8 wE hgE (λj h=>(HB.out.2.1 j h).1) (by omega) hnc (HBW.out _ hkWE) hn)
   have hl5:=rText_le bs q4.2.1 q4.2.2 8 (by omega)
   have hm5:=rText_len bs q4.2.1 q4.2.2 (most:=8) (by omega)
   obtain⟨q5,hq5⟩:∃q,q=rText bs q4.2.1 q4.2.2 8:=⟨_,rfl⟩
   rw[←hq5] at HC5 hl5 hm5
   have HQ5:=hdz hq5
   have HKE:=hdz (aiz hkE hkWE)
   clear hq5 hgE hkE hkWE HC4
   go_wp2_with fail
   refine Calls.mono HC5.out ?_
   rintro e wF ⟨rfl,hgF,hkF⟩
   have hkWF:Keep (λj=>j≠g∧j≠m) w wF:=HKE.out.2.comp hkF (λ_ _ h=>h) (λ_ _ h=>h.1)
   have hbF:=(HKD.out.1.keep HKE.out.1 hsg).keep hkF hsg
   have c2:=hbF.cell 2;have c3:=hbF.cell 3;have c4:=hbF.cell 4
   have z2:=hbF.frozen 2;have z3:=hbF.frozen 3;have z4:=hbF.frozen 4
   have hsl:=hbF.lt
   simp at c2 c3 c4
   have HKF:=hdz (aiz hgF (aiz hkF (aiz hkWF hbF)))
   clear hgF hkF hkWF hbF HC5
   go_upto_region 6 with (fail)
   have hbG:Blk (((wF.setCell ⟨hs,2,none⟩ (.int .i64 (q4.1:Int))).setCell ⟨hs,3,none⟩ (str q5.1)).setCell ⟨hs,4,none⟩ (.int .i64 0)) hs 41 #[.int .i64 (q2.1:Int),.int .i64 (q3.1:Int),.int .i64 (q4.1:Int),str q5.1,.int .i64 0]:=((HKF.out.2.2.2.set 2 _).set 3 _).set 4 _
   have hkFG:Keep (λj=>j≠hs) wF (((wF.setCell ⟨hs,2,none⟩ (.int .i64 (q4.1:Int))).setCell ⟨hs,3,none⟩ (str q5.1)).setCell ⟨hs,4,none⟩ (.int .i64 0)):=(((krz _ wF).setCell (λ_ h=>h rfl) _).setCell (λ_ h=>h rfl) _).setCell (λ_ h=>h rfl) _
   generalize hwG:World.setCell (World.setCell (World.setCell wF ⟨hs,2,none⟩ _) ⟨hs,3,none⟩ _) ⟨hs,4,none⟩ _=wG at hbG hkFG ⊢
   have hws:w.heap.size≤hs:=by rw[HKD.out.2.2.2];exact HKC.out.2.2.size
   have hgG:=HKF.out.1.keep hkFG hsg.symm
   have hkWG:Keep (λj=>j≠g∧j≠m) w wG:=HKF.out.2.2.1.comp hkFG (λ_ _ h=>h) (λj hj _ e=>by omega)
   have HC6:=hdz (rcount_any g Z A n c bs q5.2.1 q5.2.2 99999999 wG hgG (by omega) (HBW.out _ hkWG) hn)
   have hl6:=rCount_le bs q5.2.1 q5.2.2 99999999 (by omega)
   have hm6:=rCount_most bs q5.2.1 q5.2.2 (most:=99999999) (by omega)
   obtain⟨q6,hq6⟩:∃q,q=rCount bs q5.2.1 q5.2.2 99999999:=⟨_,rfl⟩
   rw[←hq6] at HC6 hl6 hm6
   have HQ6:=hdz hq6
   have HKG:=hdz (aiz hbG (aiz hkFG hkWG))
   clear hwG hbG hkFG hgG hkWG hq6 c2 c3 c4 z2 z3 z4
   go_wp2_with fail
   refine Calls.mono HC6.out ?_
   rintro e wH ⟨rfl,hgH,hkH⟩
   have hbH:=HKG.out.1.keep hkH hsg
   have c4:=hbH.cell 4
   have z4:=hbH.frozen 4
   have hslH:=hbH.lt
   simp at c4
   have HKH:=hdz (aiz hgH (aiz hkH hbH))
   clear hgH hkH hbH HC6
   go_upto_region 7 with (fail)
   have hbI:Blk (wH.setCell ⟨hs,4,none⟩ (.int .i64 (q6.1:Int))) hs 41 (sesA ⟨(q2.1:Int),(q3.1:Int),⟨(q4.1:Int),q5.1,(q6.1:Int)⟩⟩):=HKH.out.2.2.set 4 _
   have hkHI:Keep (λj=>j≠hs) wH (wH.setCell ⟨hs,4,none⟩ (.int .i64 (q6.1:Int))):=(krz _ wH).setCell (λ_ h=>h rfl) _
   generalize hwI:World.setCell wH ⟨hs,4,none⟩ _=wI at hbI hkHI ⊢
   clear hwI c4 z4
   have hgI:=HKH.out.1.keep hkHI hsg.symm
   have hkWI:Keep (λj=>j≠g∧j≠m) w wI:=(HKG.out.2.2.comp HKH.out.2.1 (λ_ _ h=>h) (λ_ _ h=>h.1)).comp hkHI (λ_ _ h=>h) (λj hj _ e=>by omega)
   have hmI:Blk wI m 91 (mcells bp bl tok (ssPut pre (List.replicate 16 noSes))).toArray:=by
    have h1:=HA.out.blk.keep (HKA.out.1.trans (HKB.out.1.trans HKC.out.2.1)) hmg
    have h2:=h1.keep HKD.out.2.2.1 trivial
    have h3:=h2.keep (HKE.out.1.trans HKF.out.2.1) hmg
    have h4:=h3.keep HKG.out.2.1 hsm.symm
    exact (h4.keep HKH.out.2.1 hmg).keep hkHI hsm.symm
   obtain⟨qn,hqn⟩:∃a:Nat,a=q1.1:=⟨_,rfl⟩
   obtain⟨a2,ha2⟩:∃a:Int,a=(q2.1:Int):=⟨_,rfl⟩
   obtain⟨a3,ha3⟩:∃a:Int,a=(q3.1:Int):=⟨_,rfl⟩
   obtain⟨a4,ha4⟩:∃a:Int,a=(q4.1:Int):=⟨_,rfl⟩
   obtain⟨a5,ha5⟩:∃a,a=q5.1:=⟨_,rfl⟩
   obtain⟨a6,ha6⟩:∃a:Int,a=(q6.1:Int):=⟨_,rfl⟩
   rw[←ha2,←ha3,←ha4,←ha5,←ha6] at hbI
   obtain⟨ss,hss⟩:=exz (ssPut pre (List.replicate 16 noSes))
   rw[←hss] at hmI
   have hsl16:ss.length=16:=by rw[hss,ssPut_len];simp
   have hqn16:qn<16:=by omega
   have hrd:rdSes bs pk badk=((qn,⟨a2,a3,⟨a4,a5,a6⟩⟩),q6.2):=by
    unfold rdSes
    simp only[←HQ1.out,←HQ2.out,←HQ3.out,←HQ4.out,←HQ5.out,←HQ6.out]
    rw[hqn,ha2,ha3,ha4,ha5,ha6]
   have HKI:=hdz (aiz hbI (aiz hgI (aiz hkWI (aiz hmI (aiz hss hrd)))))
   have d0:=hbI.cell 0;have d1:=hbI.cell 1;have d2:=hbI.cell 2;have d3:=hbI.cell 3;have d4:=hbI.cell 4
   simp[sesA] at d0 d1 d2 d3 d4
   have hslI:=hbI.lt
   have hmlI:=hmI.lt
   have hglI:=hgI.lt
   have g2:=hgI.cell 2
   simp at g2
   have gf:=hgI.frozen 2
   have hqi:(qn:Int)<16:=by omega
   simp only[←hqn]
   have hms:m≠hs:=hsm.symm
   have HFin:Hid (∀wx bad2,Keep (λj=>j≠g) wI wx→Rdr wx g A n c q6.2.1 bad2→bad2=(q6.2.2 || !schk last (qn,⟨a2,a3,⟨a4,a5,a6⟩⟩)) →
    Hid (∃pk badk pre,RSAt bs R cnt (k+1) (qn:Int) m g bp bl tok A n c w (((((wx.setCell ⟨m,3+qn*5,none⟩ (.int .i64 a2)).setCell ⟨m,3+qn*5+1,none⟩ (.int .i64 a3)).setCell ⟨m,3+qn*5+2,none⟩ (.int .i64 a4)).setCell ⟨m,3+qn*5+3,none⟩ (str a5)).setCell ⟨m,3+qn*5+4,none⟩ (.int .i64 a6)).drew pk badk pre)):=hdz λwx bad2 hkx hgx hb2=>by
    have hk5:Keep (λj=>j≠m) wx (((((wx.setCell ⟨m,3+qn*5,none⟩ (.int .i64 a2)).setCell ⟨m,3+qn*5+1,none⟩ (.int .i64 a3)).setCell ⟨m,3+qn*5+2,none⟩ (.int .i64 a4)).setCell ⟨m,3+qn*5+3,none⟩ (str a5)).setCell ⟨m,3+qn*5+4,none⟩ (.int .i64 a6)).drew:=
     ((((((krz _ wx).setCell (λ_ h=>h rfl) _).setCell (λ_ h=>h rfl) _).setCell (λ_ h=>h rfl) _).setCell (λ_ h=>h rfl) _).setCell (λ_ h=>h rfl) _).drew
    have b5:=(((((HKI.out.2.2.2.1.keep hkx hmg).set (3+qn*5) (.int .i64 a2)).set (3+qn*5+1) (.int .i64 a3)).set (3+qn*5+2) (.int .i64 a4)).set (3+qn*5+3) (str a5)).set (3+qn*5+4) (.int .i64 a6)
    rw[mcells_store (by omega) a2 a3 ⟨a4,a5,a6⟩] at b5
    refine hdz ⟨q6.2.1,bad2,pre++[(qn,⟨a2,a3,⟨a4,a5,a6⟩⟩)],⟨?_,hgx.keep hk5 (λe=>hmg e.symm),by omega,?_,by omega,(HKI.out.2.2.1.comp hkx (λ_ _ h=>h) (λ_ _ h=>h.1)).comp hk5 (λ_ _ h=>h) (λ_ _ h=>h.2)⟩⟩
    ·rw[HA.out.eq,show cnt - k=(cnt - (k+1))+1 by omega,runF_succ,HKI.out.2.2.2.2.2]
     simp only[←hb2,snxt,List.append_assoc,List.singleton_append]
    ·rw[ssPut_snoc,←HKI.out.2.2.2.2.1]
     exact b5.drew
   have HN:Hid (∀wx,Keep (λj=>j≠g) wI wx→(∀j,j<5→∃u,wx.cell? ⟨m,3+qn*5+j,none⟩=some u)∧(∀j,wx.frozen? ⟨m,j,none⟩=false)∧m<wx.heap.size):=hdz λwx hk=>by
    have h1:=HKI.out.2.2.2.1.keep hk hmg
    refine⟨λj hj=>?_,λj=>h1.frozen j,h1.lt⟩
    have h2:=h1.cell (3+qn*5+j)
    have h3:=mcell_sess (bp:=bp) (bl:=bl) (tok:=tok) (ss:=ss) (q:=qn) (by omega) hj
    rw[h2]
    simp only[List.getElem?_toArray]
    rw[h3]
    match j,hj with
    | 0,_=>exact⟨_,rfl⟩
    | 1,_=>exact⟨_,rfl⟩
    | 2,_=>exact⟨_,rfl⟩
    | 3,_=>exact⟨_,rfl⟩
    | 4,_=>exact⟨_,rfl⟩
   clear hbI hgI hkWI hmI hss hrd hqn ha2 ha3 ha4 ha5 ha6 hkHI hslH hsl
   by_cases hgood:last<(qn:Int)∧a2≠0∧a3≠0∧a4≠0∧a4≠10
   ·have e1:decide ((qn:Int)≤last)=false:=by simp;omega
    have e2:(a2==0)=false:=by simpa using hgood.2.1
    have e3:(a3==0)=false:=by simpa using hgood.2.2.1
    have e4:(a4==0)=false:=by simpa using hgood.2.2.2.1
    have e5:(a4==10)=false:=by simpa using hgood.2.2.2.2
    have HCH:=hdz (show schk last (qn,⟨a2,a3,⟨a4,a5,a6⟩⟩)=true by unfold schk;simp[hgood])
    obtain⟨hcs,hfz,-⟩:=HN.out wI (krz _ _)
    obtain⟨u0,n0⟩:=hcs 0 (by omega)
    obtain⟨u1,n1⟩:=hcs 1 (by omega)
    obtain⟨u2,n2⟩:=hcs 2 (by omega)
    obtain⟨u3,n3⟩:=hcs 3 (by omega)
    obtain⟨u4,n4⟩:=hcs 4 (by omega)
    rw[Nat.add_zero] at n0
    have f0:=hfz (3+qn*5);have f1:=hfz (3+qn*5+1);have f2:=hfz (3+qn*5+2);have f3:=hfz (3+qn*5+3);have f4:=hfz (3+qn*5+4)
    clear hgood hcs hfz
    go_upto_region 9 with (fail)
    go_region
    go_wp2_with fail
    exact⟨⟨k+1,(qn:Int),by omega,by simp,rfl,HFin.out wI q6.2.2 (krz _ _) HKI.out.2.1 (by rw[HCH.out];simp)⟩,by simp only[intOf];omega⟩
   ·have HCH:Hid (schk last (qn,⟨a2,a3,⟨a4,a5,a6⟩⟩)=false):=hdz (by
     rcases hh:schk last (qn,⟨a2,a3,⟨a4,a5,a6⟩⟩) with _ | _
     ·rfl
     ·exfalso
      refine hgood ?_
      unfold schk at hh
      simp at hh
      exact⟨hh.1.1.1.1,hh.1.1.1.2,hh.1.1.2,hh.1.2,hh.2⟩)
    have hcase:decide ((qn:Int)≤last)=true∨(decide ((qn:Int)≤last)=false∧((a2==0)=true∨((a2==0)=false∧((a3==0)=true∨((a3==0)=false∧((a4==0)=true∨((a4==0)=false∧(a4==10)=true))))))):=by
     by_cases b1:(qn:Int)≤last
     ·exact .inl (by simpa using b1)
     ·refine .inr ⟨by simp;omega,?_⟩
      by_cases b2:a2=0
      ·exact .inl (by simpa using b2)
      ·refine .inr ⟨by simpa using b2,?_⟩
       by_cases b3:a3=0
       ·exact .inl (by simpa using b3)
       ·refine .inr ⟨by simpa using b3,?_⟩
        by_cases b4:a4=0
        ·exact .inl (by simpa using b4)
        ·refine .inr ⟨by simpa using b4,?_⟩
         have:a4=10:=Classical.byContradiction λh=>hgood ⟨by omega,b2,b3,b4,h⟩
         simpa using this
    have hks:Keep (λj=>j≠g) wI (wI.setCell ⟨g,2,none⟩ (.bool true)):=(krz _ wI).setCell (λ_ h=>h rfl) _
    have hgs:Rdr (wI.setCell ⟨g,2,none⟩ (.bool true)) g A n c q6.2.1 true:=HKI.out.2.1.set 2 (.bool true)
    have HGS:=hdz (aiz hks hgs)
    obtain⟨hcs,hfz,-⟩:=HN.out _ hks
    obtain⟨u0,n0⟩:=hcs 0 (by omega)
    obtain⟨u1,n1⟩:=hcs 1 (by omega)
    obtain⟨u2,n2⟩:=hcs 2 (by omega)
    obtain⟨u3,n3⟩:=hcs 3 (by omega)
    obtain⟨u4,n4⟩:=hcs 4 (by omega)
    rw[Nat.add_zero] at n0
    have f0:=hfz (3+qn*5);have f1:=hfz (3+qn*5+1);have f2:=hfz (3+qn*5+2);have f3:=hfz (3+qn*5+3);have f4:=hfz (3+qn*5+4)
    have k0:=hks.cellAt d0 hsg;have k1:=hks.cellAt d1 hsg;have k2:=hks.cellAt d2 hsg;have k3:=hks.cellAt d3 hsg;have k4:=hks.cellAt d4 hsg
    clear hgood hcs hfz hks hgs
    generalize hwx:World.setCell wI ⟨g,2,none⟩ (.bool true)=wx at n0 n1 n2 n3 n4 f0 f1 f2 f3 f4 k0 k1 k2 k3 k4 HGS
    have hmlx:=lt_of_cell n0
    have hslx:=lt_of_cell k0
    rcases hcase with e1 | ⟨e1,e2 | ⟨e2,e3 | ⟨e3,e4 | ⟨e4,e5⟩⟩⟩⟩
    all_goals
     go_upto_region 9 with (fail)
     try rw[hwx]
     clear hwx d0 d1 d2 d3 d4 e1
     go_region
     go_wp2_with fail
     exact⟨⟨k+1,(qn:Int),by omega,by simp,rfl,HFin.out wx true HGS.out.1 HGS.out.2 (by rw[HCH.out];simp)⟩,by simp only[intOf];omega⟩
  ·obtain rfl:k=cnt:=by omega
   have e':R=(pre,pk,badk):=by
    have e:=HA.out.eq
    rw[Nat.sub_self] at e
    rw[e]
    simp[runF]
   have HE:=hdz e'
   obtain⟨⟨ms,hls⟩,hrise,hsafe,hqlen,hSz⟩:=HLK.out
   have hlsr:=hls.keep HA.out.keep hSz
   have x1:wr.cell? ⟨m,1,none⟩=some (.map (some bl)):=by
    rw[HA.out.blk.cell 1]
    rfl
   have hmlr:=HA.out.blk.lt
   have hglr:=HA.out.rd.lt
   have HLS:=hdz hlsr
   clear e' hls hrise hsafe hqlen hSz hlsr
   go_wp2_with (at_range;refine wpList_rangeIs rfl (.tmp 71) rfl Tryz.underlying9 Tryz.underlying88 rfl HLS.out.map ?_)
   intro w0 hr0 hk0 hs0
   have HR0:=hdz (aiz hr0 hk0)
   clear hr0 hk0
   go_wp2_with fail
   obtain⟨ss,hss⟩:=exz (ssPut pre (List.replicate 16 noSes))
   have HSS:=hdz hss
   clear hss
   go_loopw [] (λw2=>∃todo badx,Hid (RTAt ls ss S m g bl wr.heap.size A n c pk badk ms wr w2 todo badx)) (λw2=>w2.rangeLeft bl wr.heap.size)
   case atStart=>
    obtain⟨hr0,hk0⟩:=HR0.out
    refine⟨_,badk,hdz ⟨hr0,HA.out.rd.keep hk0 trivial,?_,hk0.weaken λ_ _ _=>trivial⟩⟩
    have e:(ms.map LkM.kv).map Prod.fst=ls.map LockD.name:=lks_rise HLS.out
    try rw[List.map_map] at e
    rw[e]
    have:(ls.filter λl=>!decide (l.name∈ls.map LockD.name))=[]:=by
     rw[List.filter_eq_nil_iff]
     intro l hl
     simp
     exact⟨l,hl,rfl⟩
    rw[this]
    simp
   case round=>
    rename World=>w2
    obtain⟨todo,badx,HW⟩:=hrel
    go_wp2_with (at_next;refine wpList_nextIs rfl (.tmp 72) rfl Tryz.underlying9 rfl HW.out.rng ?_ ?_)
    ·intro hd
     subst hd
     go_wp2_with fail
     go_end0
     have hx:=HW.out
     have e:(ls.filter λl=>!decide (l.name∈([]:List Txt)))=ls:=by simp
     have hb:badx=(badk || sesMiss ls ss):=by
      have h1:=hx.bad
      rw[e] at h1
      exact h1
     have hk2:Keep (λj=>j≠g∧j≠m) w w2:=HA.out.keep.comp hx.keep (λ_ _ h=>h) (λ_ _ h=>h.1)
     refine⟨rfl,?_,?_,by rw[HE.out];exact HA.out.pn,hk2⟩
     ·rw[HE.out]
      exact HA.out.blk.keep hx.keep hmg
     ·rw[HE.out,←HSS.out,←hb]
      exact hx.rd
    ·intro t v w3 ht hv hr1 hk1 hs1 hlt2 hen
     obtain⟨hls,hrise,hsafe,hqlen,hSz⟩:=HLK.out
     have hlt:=HLS.out
     obtain ⟨x,hxm,hxn,rfl⟩:∃x∈ms,x.d.name=t∧v=.pointer (some ⟨x.h,0,none⟩):=by
      rw[mfind_map (key:=LkM.key) (f:=LkM.kv) (λ_=>rfl)] at hv
      cases hf:findK LkM.key t ms with
      | none=>rw[hf] at hv;cases hv
      | some x=>
       rw[hf] at hv
       injection hv with hv
       obtain⟨h1,h2⟩:=findK_some hf
       exact⟨x,h2,h1,hv.symm⟩
     have hxl:x.d∈ls:=by rw[←hlt.data];exact List.mem_map.2 ⟨x,hxm,rfl⟩
     have hxi:=hlt.each x hxm
     have hrl:wr.heap.size≠g:=by have:=HA.out.rd.lt;omega
     have hk3:Keep (λj=>j≠g) wr w3:=HW.out.keep.comp hk1 (λ_ _ h=>h) (λj hj _=>by omega)
     have hxb:=hxi.blk.keep hk3 (hSz _ hxi.sh).1
     have hxr:=hxi.row.keep hk3 (λk hk=>(hSz _ (hxi.sv k hk)).1)
     obtain⟨A2,c2,hxv,hnc2,hrd2,hnil2⟩:=hxr.rd
     have k0:=hxb.cell 0
     have k2:=hxb.cell 2
     simp at k0 k2
     rw[hxv] at k2
     have hxh:=hxb.lt
     have hq15:=hqlen x.d hxl
     have hsf:=hsafe x.d hxl
     obtain⟨hd,hhd⟩:=exz (x.d.holder)
     obtain⟨qs,hqs⟩:=exz (x.d.queue)
     obtain⟨ql,hql⟩:=exz (qs.length)
     rw[←hqs] at hq15 hrd2 k2 hnc2 hnil2
     rw[←hhd] at k0
     rw[←hql] at hq15 hrd2 k2 hnc2 hnil2
     have HX:=hdz (aiz hxm (aiz hxn (aiz hxl (aiz hk3 (aiz hrd2 (aiz hnil2 (aiz hsf (aiz hhd (aiz hqs hql)))))))))
     have HH:=hdz (aiz ht (aiz hr1 (aiz hk1 hlt2)))
     clear hs1 ht hr1 hk1 hlt2 hls hrise hsafe hqlen hSz hlt hxm hxn hxl hxi hxb hxr hxv hrd2 hsf hhd hqs hk3 hv hnil2 hql
     have hqb:Hid ((1+ql)*8≤140737488355328):=hdz (by omega)
     go_upto_region 15 with (fail)
     have k2a:(w3.alloc (.cells #[.int .i64 hd] 3)).cell? ⟨x.h,2,none⟩=some (.slice A2 ql c2):=((krz (λ_=>True) w3).alloc _).cellAt k2 trivial
     have hq1:((w3.alloc (.cells #[.int .i64 hd] 3)).drew).ownsRow w3.heap.size 3 1 (.slice (some ⟨w3.heap.size,0,none⟩) 1 1) 1 [.int .i64 hd]:=own_of_blk (Blk.new _ _ _) (lrz _) (show 1≤_ by decide) 1 rfl
     have hq2:Rd ((w3.alloc (.cells #[.int .i64 hd] 3)).drew) _ 1 A2 ql (ics qs):=HX.out.2.2.2.2.1.keep ((krz _ _).alloc _).drew
     have hq3:w3.heap.size≤((w3.alloc (.cells #[.int .i64 hd] 3)).drew).heap.size:=((krz (λ_=>True) w3).alloc _).size
     have HQ:=hdz (aiz hq1 (aiz hq2 hq3))
     clear hq1 hq2 hq3
     go_cut [86,87,88] (λs86 s87 s88 wx=>∃ (A4:Option Addr) (c4:Nat),s86=.slice A4 (1+ql) c4∧s87=.int .i64 (1+(ql:Int))∧s88=.int .i64 0∧Hid (wx.ownsRow w3.heap.size 3 1 (.slice A4 (1+ql) c4) (1+ql) ([.int .i64 hd]++ics qs)∧Keep (λk=>(Value.slice (some ⟨w3.heap.size,0,none⟩) 1 1).ownBlock≠some k) ((w3.alloc (.cells #[.int .i64 hd] 3)).drew) wx))
     case first=>
      go_region_law (first
       | (refine step_app etInt2 rfl (.tmp 81) (.tmp 85) rfl w3.heap.size _ 1 [.int .i64 hd] rfl HQ.out.1 _ A2 ql c2 _ rfl HQ.out.2.1 HX.out.2.2.2.2.2.1 (ics_one _) hqb.out HQ.out.2.2 ?_
          intro v4 w4 ho4 hk4 hn4
          obtain⟨A4,c4,rfl,-⟩:=own_rd ho4
          have H4:=hdz (aiz ho4 hk4)
          clear ho4 hk4 hn4))
      all_goals
       go_wp2_with fail
       go_meet
       exact⟨_,_,rfl,rfl,rfl,H4⟩
     case rest=>
     rename World=>w4
     obtain⟨A4,c4,rfl,rfl,rfl,H4⟩:=hcut
     have hk34:Keep (λ_=>True) w3 w4:=(((krz (λ_=>True) w3).alloc (.cells #[.int .i64 hd] 3)).drew).comp H4.out.2 (λ_ _ _=>trivial) (λj hj _ e=>by injection e with e;have e2:w3.heap.size=j:=e;omega)
     obtain⟨A5,c5,e5,hrd5,-⟩:=own_rd H4.out.1
     injection e5 with e5 _ _
     subst e5
     have hg3:g<w3.heap.size:=ltz HA.out.rd.lt HX.out.2.2.2.1.size
     have hrdg:∀w5,Keep (λj=>j≠g) w4 w5→Rd w5 (λk=>(Value.slice A4 (1+ql) c4).ownBlock=some k) 1 A4 (1+ql) (ics (hd::qs)):=λw5 hk=>Rd.keep hrd5 (hk.weaken λj _ hj e=>by have:=(own_lt H4.out.1 hj).1;omega)
     have hmm:∀w5,Keep (λj=>j≠g) w4 w5→Blk w5 m 91 (mcells bp bl tok ss).toArray:=λw5 hk=>by
      have h1:=((HA.out.blk.keep HX.out.2.2.2.1 hmg).keep hk34 trivial).keep hk hmg
      rw[HSS.out]
      exact h1
     have H5:=hdz (aiz hk34 (aiz hrdg hmm))
     have HS16:Hid (ss.length=16):=hdz (by rw[HSS.out,ssPut_len];simp)
     clear hk34 hrd5 hrdg hmm k0 k2 k2a hxh hen
     go_wp2_with fail
     go_loopw [88] (λi w5=>∃ (k5:Nat) (b5:Bool),k5≤1+ql∧i=.int .i64 (k5:Int)∧Hid (Rdr w5 g A n c pk b5∧b5=(badx || missTo ss (hd::qs) k5)∧Keep (λj=>j≠g) w4 w5)) (λi _=>1+ql - (intOf i).toNat)
     case atStart=>
      refine⟨0,badx,by omega,rfl,hdz ⟨?_,by simp[missTo],krz _ _⟩⟩
      exact (HW.out.rd.keep HH.out.2.2.1 (λe=>hrl e.symm)).keep H5.out.1 trivial
     case round=>
      rename World=>w5
      obtain⟨k5,b5,hk5,rfl,HI⟩:=hrel
      by_cases hlt5:k5<1+ql
      ·have hlen5:k5<(hd::qs).length:=by simp[←HX.out.2.2.2.2.2.2.2.2.2];omega
       obtain⟨b,o,rfl,-,hl5,hc5⟩:=(H5.out.2.1 w5 HI.out.2.2).at1 hlt5
       obtain⟨z,hz⟩:=exz ((hd::qs)[k5])
       have hz16:0≤z∧z<16:=by
        have hm5:z∈hd::qs:=by rw[hz];exact List.getElem_mem _
        obtain⟨s1,s2⟩:=HX.out.2.2.2.2.2.2.1
        rcases List.mem_cons.1 hm5 with e | e
        ·rw[e,HX.out.2.2.2.2.2.2.2.1];exact s1
        ·exact s2 z (by rw[←HX.out.2.2.2.2.2.2.2.2.1];exact e)
       obtain⟨pn,rfl⟩:∃pn:Nat,z=(pn:Int):=⟨z.toNat,by omega⟩
       rw[show (ics (hd::qs))[k5]=.int .i64 (pn:Int) by simp only[ics,List.getElem_map];rw[hz]] at hc5
       have hpn:pn<16:=by omega
       have hpi:(pn:Int)<16:=by omega
       have hbm:=H5.out.2.2 w5 HI.out.2.2
       have hm5:=hbm.lt
       obtain⟨ic,hic⟩:=exz ((ss.getD pn noSes).inc)
       have hpl:pn<ss.length:=by rw[HS16.out];exact hpn
       have n0:w5.cell? ⟨m,3+pn*5,none⟩=some (.int .i64 ic):=by
        have h2:=hbm.cell (3+pn*5)
        have h3:=mcell_sess (bp:=bp) (bl:=bl) (tok:=tok) (ss:=ss) (q:=pn) (j:=0) hpl (by omega)
        rw[h2]
        simp only[List.getElem?_toArray]
        rw[Nat.add_zero] at h3
        rw[h3,hic,List.getD_eq_getElem?_getD,List.getElem?_eq_getElem hpl]
        rfl
       have g2:=HI.out.1.cell 2
       simp at g2
       have gf:=HI.out.1.frozen 2
       have hg5:=HI.out.1.lt
       have hst:missTo ss (hd::qs) (k5+1)=(missTo ss (hd::qs) k5 || decide (ic=0)):=by
        rw[missTo_succ _ _ _ hlen5,←hz,hic]
        rfl
       have HT5:=hdz hst
       clear hpl hbm hl5 hz hic hz16 hst hlen5
       by_cases h0:ic=0
       ·have e0:(ic==0)=true:=by simp[h0]
        have HZ:=hdz h0
        clear h0
        go_wp2_with fail
        exact⟨⟨k5+1,true,by omega,by simp,hdz ⟨HI.out.1.set 2 (.bool true),by rw[HT5.out,HZ.out];simp,HI.out.2.2.setCell (λ_ h=>h rfl) _⟩⟩,by simp only[intOf];omega⟩
       ·have e0:(ic==0)=false:=by simp[h0]
        have HZ:=hdz h0
        clear h0
        go_wp2_with fail
        exact⟨⟨k5+1,b5,by omega,by simp,hdz ⟨HI.out.1,by rw[HT5.out,HI.out.2.1];simp[HZ.out],HI.out.2.2⟩⟩,by simp only[intOf];omega⟩
      ·obtain rfl:k5=1+ql:=by omega
       go_wp2_with fail
       obtain⟨hls,hrise,hsafe,hqlen,hSz⟩:=HLK.out
       have hbg:bl≠g:=(hSz bl HLS.out.sb).1
       obtain⟨ht,hr1,hk1,hlt2⟩:=HH.out
       obtain⟨i1,i2,i3⟩:=HI.out
       have hk35:Keep (λj=>j≠g) w3 w5:=H5.out.1.comp i3 (λ_ _ _=>trivial) (λ_ _ h=>h)
       refine⟨⟨todo.filter λy=>!(y==t),b5,hdz ⟨hr1.keep hk35 hbg hrl,i1,?_,HX.out.2.2.2.1.comp hk35 (λ_ _ h=>h) (λ_ _ h=>h)⟩⟩,?_⟩
       ·rw[i2,HW.out.bad,miss_step (missL ss) hrise HX.out.2.2.1 HX.out.2.1 ht,←missTo_all ss x.d (1+ql) (by rw[←HX.out.2.2.2.2.2.2.2.2.1,←HX.out.2.2.2.2.2.2.2.2.2];omega),HX.out.2.2.2.2.2.2.2.1,HX.out.2.2.2.2.2.2.2.2.1,Bool.or_assoc]
       ·rw[hr1.left hk35 hbg hrl]
        exact hlt2
end Go.Proofs.YtlibhkehebioeaaGreatDoor
