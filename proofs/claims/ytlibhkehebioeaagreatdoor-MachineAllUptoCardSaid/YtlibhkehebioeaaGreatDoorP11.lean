/- A PART OF THE PROOF. No condition. -/
import Derived.Test.YtlibhkehebioeaaGreatDoorP10
import Derived.Test.YtlibhkehebioeaaGreatDoorP0
namespace Go.Proofs.YtlibhkehebioeaaGreatDoor
set_option linter.unusedVariables false
set_option linter.unusedSimpArgs false
set_option maxRecDepth 100000
set_option maxHeartbeats 40000000
open Go.RowKit
theorem Pat_still (id:Int)(k:Nat)(hk:k≤1099511627770)(w:World):Calls Tryz.prog 124 #[.int .i64 id,.int .i64 (k:Int)] w λe w'=>e=.returned (.int .u8 ((pat id k).toNat:Int))∧w'=w:=
 (Pat_any id k hk w).mono λ_ _ ⟨h1,h2⟩=>⟨h1,h2.symm⟩
structure PgAt (w:World)(g o:Nat)(p:Pg):Prop where
 c0:w.cell? ⟨g,o,none⟩=some p.b
 c1:w.cell? ⟨g,o+1,none⟩=some p.g
 c2:w.cell? ⟨g,o+2,none⟩=some p.was
 c3:w.cell? ⟨g,o+3,none⟩=some (.int .i64 p.id)
 c4:w.cell? ⟨g,o+4,none⟩=some (.bool p.done)
 fr:∀j,w.frozen? ⟨g,j,none⟩=false
theorem own_form0 {w:World}{base e size n:Nat}{v:Value}{xs:List Value}(h:w.ownsRow base e size v n xs):∃A c,v=.slice A n c:=by
 obtain⟨A,c,hv,_⟩:=own_rd h
 exact⟨A,c,hv⟩
theorem fill_any (p:Pg) (B g o:Nat) (w:World) (hat:PgAt w g o p) (hown:w.ownsRow B 5 1 p.b p.now.length (Lib.byteCells p.now)) (hlen:p.now.length≤1099511627000) (hg:p.b.ownBlock≠some g) :
 Calls Tryz.prog 104 #[.pointer (some ⟨g,o,none⟩)] w λe w'=>e=.returned (.tuple #[])∧∃w1,w'=w1.setCell ⟨g,o+4,none⟩ (.bool true)∧w1.ownsRow B 5 1 p.b p.now.length (Lib.byteCells (pats p.id p.now.length))∧Keep (λk=>p.b.ownBlock≠some k) w w1:=by
 obtain⟨hc0,-,-,hc3,hc4,hf⟩:=hat
 have hf4:=hf (o+4)
 obtain⟨dn,hdn⟩:=exz (p.done)
 rw[←hdn] at hc4
 clear hf hdn
 obtain⟨b,hb⟩:=exz (p.b)
 obtain⟨l,hl⟩:=exz (p.now)
 obtain⟨id,hid⟩:=exz (p.id)
 rw[←hb] at hc0 hg hown ⊢
 rw[←hl] at hown hlen ⊢
 rw[←hid] at hc3 ⊢
 clear hb hl hid
 obtain⟨A,c,rfl⟩:=own_form0 hown
 obtain⟨n,hn⟩:=exz (l.length)
 rw[←hn] at hown hc0 hg hlen ⊢
 have hglt:=lt_of_cell hc0
 have hfr0:w.heap.size=w.heap.size:=rfl
 have HA:=hdz (aiz hc0 (aiz hc3 (aiz hf4 (aiz hown (aiz hg (aiz hn hc4))))))
 clear hown hn hc0 hc3 hf4 hc4
 go_enter Tryz.func104,Tryz.ntmps104
 go_wp2
 go_loopw [2] (λi wr=>∃k:Nat,k≤n∧i=.int .i64 (k:Int)∧Hid (wr.ownsRow B 5 1 (.slice A n c) n (Lib.byteCells (pats id k++l.drop k))∧Keep (λk=>(Value.slice A n c).ownBlock≠some k) w wr)) (λi _=>n - (intOf i).toNat)
 case atStart=>exact⟨0,Nat.zero_le _,rfl,by simpa[pats] using HA.out.2.2.2.1,krz _ _⟩
 case round=>
  obtain⟨k,hk,rfl,HW⟩:=hrel
  obtain⟨hc0,hc3,hf4,hown,hg,hn,hc4⟩:=HA.out
  have x0:=HW.out.2.cellAt hc0 hg
  have x3:=HW.out.2.cellAt hc3 hg
  by_cases hlt:k<n
  ·obtain⟨gb,cap,hA,hB,hgl,hcap⟩:=own_nonnil HW.out.1 (by omega)
   have hA2:A=some ⟨gb,0,none⟩:=by injection hA
   subst hA2
   have hfr:=own_frozen HW.out.1 k (g:=gb) rfl
   obtain⟨uk,huk⟩:=own_has HW.out.1 (g:=gb) (j:=k) rfl (by omega)
   obtain⟨z,hz⟩:∃z:Int,z=((pat id k).toNat:Int):=⟨_,rfl⟩
   have HP:=Pat_still id k (by omega)
   rw[←hz] at HP
   replace HP:=hdz HP
   replace hz:=hdz hz
   clear hc0 hc3 hf4 hown hg hn hA hB hc4
   go_wp2_with fail
   refine wp_region_still_tail 12 (by kernel_rfl) (by kernel_rfl) ?_
   simp only[List.take_succ_cons,List.take_zero,List.drop_succ_cons,List.drop_zero]
   repeat (first | still_step | still_call (HP.out _))
   refine wpStill_nil ?_
   change wpList _ _ _ _ _ wr.drew
   have hrow:=own_set (own_keep HW.out.1 ((krz (λ_=>True) wr).drew) (λ_ _=>trivial)) (g:=gb) (i:=k) rfl (by omega) (.int .u8 z)
   have hkk:=(HW.out.2.drew).setCell (p:=⟨gb,k,none⟩) (λ_ h=>h rfl) (.int .u8 z)
   rw[hz.out,byteCells_set,pats_set id k l (by have:=HA.out.2.2.2.2.2.1;omega),←hz.out] at hrow
   have HN:=hdz (aiz hrow hkk)
   clear hrow hkk HW HP
   have hfr2:wr.drew.frozen? ⟨gb,k,none⟩=false:=hfr
   have hgl2:gb<wr.drew.heap.size:=hgl
   have huk2:wr.drew.cell? ⟨gb,k,none⟩=some uk:=huk
   obtain⟨w2,hw2⟩:=exz (wr.drew)
   rw[←hw2] at HN hfr2 hgl2 huk2 ⊢
   clear hw2 x0 x3 hfr hgl huk
   go_wp2
   exact⟨⟨k+1,by omega,congrArg _ (by omega),HN.out⟩,by simp[intOf];omega⟩
  ·have xf:wr.frozen? ⟨g,o+4,none⟩=false:=(HW.out.2.frozen (p:=⟨g,o+4,none⟩) hglt hg).trans hf4
   have hgl2:g<wr.heap.size:=ltz hglt HW.out.2.size
   have x4:=HW.out.2.cellAt hc4 hg
   clear hc0 hc3 hf4 hown hg hn hc4
   go_wp2
   go_end0
   obtain rfl:k=n:=by omega
   have hd:l.drop k=[]:=List.drop_of_length_le (by have:=HA.out.2.2.2.2.2.1;omega)
   have hr:=HW.out.1
   rw[hd,List.append_nil] at hr
   exact⟨rfl,_,rfl,hr,HW.out.2⟩
theorem grow_any (p:Pg) (B g o:Nat) (w:World) (hat:PgAt w g o p) (hown:w.ownsRow B 5 1 p.b p.now.length (Lib.byteCells p.now)) (hlen:p.now.length≤1099511627000) (hid0:0≤p.id) (hid1:p.id≤1000000) (hg:p.b.ownBlock≠some g) (hB:B≤w.heap.size) :
 Calls Tryz.prog 106 #[.pointer (some ⟨g,o,none⟩)] w λe w'=>e=.returned (.tuple #[])∧∃w1 G,w'=w1.setCell ⟨g,o+1,none⟩ G∧w1.ownsRow B 5 1 p.b p.now.length (Lib.byteCells p.now)∧w1.ownsRow B 5 1 G (p.now.length+64) (Lib.byteCells (p.now++pats (p.id+100000) 64))∧Keep (λk=>p.b.ownBlock≠some k) w w1∧Next w.heap.size p.b G:=by
 obtain⟨hc0,hc1,-,hc3,-,hf⟩:=hat
 have hf1:=hf (o+1)
 obtain⟨b,hb⟩:=exz (p.b)
 obtain⟨l,hl⟩:=exz (p.now)
 obtain⟨id,hid⟩:=exz (p.id)
 obtain⟨gv,hgv⟩:=exz (p.g)
 rw[←hb] at hc0 hg hown ⊢
 rw[←hl] at hown hlen ⊢
 rw[←hid] at hc3 hid0 hid1 ⊢
 rw[←hgv] at hc1
 clear hb hl hid hf hgv
 obtain⟨A,c,rfl⟩:=own_form0 hown
 obtain⟨n,hn⟩:=exz (l.length)
 rw[←hn] at hown hc0 hg hlen ⊢
 have hglt:=lt_of_cell hc0
 have HA:=hdz (aiz hc0 (aiz hc3 (aiz hf1 (aiz hown (aiz hg (aiz hn (aiz hc1 hB)))))))
 clear hown hn hc0 hc3 hf1 hc1 hB
 go_enter Tryz.func106,Tryz.ntmps106
 go_wp2
 go_loopw [2,3] (λtl i wr=>∃k:Nat,k≤64∧i=.int .i64 (k:Int)∧Hid (wr.ownsRow w.heap.size 5 1 tl k (Lib.byteCells (pats (id+100000) k))∧Fresh w wr)) (λ_ i _=>64 - (intOf i).toNat)
 case atStart=>exact⟨0,Nat.zero_le _,rfl,w.ownsRow_nil _ _ _,krz _ _⟩
 case round=>
  obtain⟨k,hk,rfl,HW⟩:=hrel
  obtain⟨hc0,hc3,hf1,hown,hg,hn,hc1,hB⟩:=HA.out
  have x0:=HW.out.2.cellAt hc0 trivial
  have x3:=HW.out.2.cellAt hc3 trivial
  by_cases hlt:k<64
  ·obtain⟨z,hz⟩:∃z:Int,z=((pat (id+100000) k).toNat:Int):=⟨_,rfl⟩
   have HP:=Pat_any (id+100000) k (by omega)
   rw[←hz] at HP
   replace HP:=hdz HP
   replace hz:=hdz hz
   clear hc0 hc3 hf1 hown hg hn hc1 hB
   go_wp2_with fail
   refine (HP.out _).mono ?_
   rintro e _ ⟨rfl,rfl⟩
   have HB:=hdz HW.out.2.size
   have HO:=hdz HW.out.1
   go_wp2_with (at_builtin;refine wpList_app1 etU8 rfl (.tmp 8) (.tmp 16) rfl _ _ rfl w.heap.size _ k _ rfl rfl HO.out ?_ HB.out ?_)
   case refine_1=>omega
   intro v1 w1 ho1 hk1 hn1
   have hrow:w1.ownsRow w.heap.size 5 1 v1 (k+1) (Lib.byteCells (pats (id+100000) (k+1))):=by
    rw[pats_succ,Lib.byteCells_append]
    have e:Lib.byteCells [pat (id+100000) k]=[.int .u8 z]:=by rw[hz.out];rfl
    rw[e]
    exact ho1
   have hfr:Fresh w w1:=HW.out.2.comp hk1 (λ_ _ h=>h) (λi hi _ e=>by have:=(own_lt HW.out.1 e).1;omega)
   have HN:=hdz (aiz hrow hfr)
   clear hrow hfr ho1 hk1 hn1 HW HP x0 x3
   go_wp2
   exact⟨⟨k+1,by omega,congrArg _ (by omega),HN.out⟩,by simp[intOf];omega⟩
  ·have xf:wr.frozen? ⟨g,o+1,none⟩=false:=(HW.out.2.frozen (p:=⟨g,o+1,none⟩) hglt trivial).trans hf1
   have hgl2:g<wr.heap.size:=ltz hglt HW.out.2.size
   have x1:=HW.out.2.cellAt hc1 trivial
   obtain rfl:k=64:=by omega
   clear hc0 hc3 hf1 hown hg hn hc1 hB
   obtain⟨gt,ct,rfl,hgt,hgt2,hct⟩:=own_nonnil HW.out.1 (by omega)
   have HO:=hdz (aiz (own_keep HA.out.2.2.2.1 HW.out.2 (λ_ _=>trivial)) (aiz (Blk.rdOwn HW.out.1) (lez HA.out.2.2.2.2.2.2.2 HW.out.2.size)))
   go_wp2_with (at_builtin;refine wpList_app_both etU8 rfl (.tmp 22) (.tmp 23) rfl B _ n _ rfl HO.out.1 _ _ 64 _ _ rfl HO.out.2.1 (bcs_one _) ?_ HO.out.2.2 ?_)
   case refine_1=>omega
   intro v2 w2 ho2 hk2 hn2 ho3
   obtain⟨A2,c2,rfl⟩:=own_form0 ho2
   rw[←Lib.byteCells_append] at ho2
   obtain⟨hc0,hc3,hf1,hown,hg,hn,hc1,hB⟩:=HA.out
   have y1:=hk2.cellAt x1 hg
   have yf:w2.frozen? ⟨g,o+1,none⟩=false:=(hk2.frozen (p:=⟨g,o+1,none⟩) hgl2 hg).trans xf
   have hgl3:g<w2.heap.size:=ltz hgl2 hk2.size
   have hkk:Keep (λk=>(Value.slice A n c).ownBlock≠some k) w w2:=HW.out.2.comp hk2 (λ_ _ _=>trivial) (λ_ _ h=>h)
   have hnn:Next w.heap.size (Value.slice A n c) (Value.slice A2 (n+64) c2):=hn2.imp (λh=>h) λ⟨i,hi,hl⟩=>⟨i,hi,lez HW.out.2.size hl⟩
   have HN:=hdz (aiz ho3 (aiz ho2 (aiz hkk hnn)))
   clear hc0 hc3 hf1 hown hg hn hc1 hB ho2 hk2 hn2 ho3 x0 x1 x3 xf hgl2 hkk hnn HO HW
   go_wp2
   go_end0
   exact⟨rfl,w2,_,rfl,HN.out⟩
theorem own_byte {w:World}{base n c g k:Nat}{l:List UInt8}{z:Int}(h:w.ownsRow base 5 1 (.slice (some ⟨g,0,none⟩) n c) n (Lib.byteCells l))(hk:k<l.length)(hz:z=(l[k].toNat:Int)):w.cell? ⟨g,k,none⟩=some (.int .u8 z):=by
 subst hz
 exact own_cell h (g:=g) rfl (bcs_get l k hk)
theorem shows_any (p:Pg) (B:Nat) (w:World) (hok:p.ok w B) (hst:p.st≠1) :
 Calls Tryz.prog 136 #[.agg #[p.b,p.g,p.was,.int .i64 p.id,.bool p.done]] w λe w'=>e=.returned (.bool true)∧Fresh w w':=by
 obtain⟨b,hb⟩:=exz (p.b)
 obtain⟨l,hl⟩:=exz (p.now)
 obtain⟨id,hid⟩:=exz (p.id)
 obtain⟨gv,hgv⟩:=exz (p.g)
 obtain⟨wv,hwv⟩:=exz (p.was)
 obtain⟨own,len,idl,idh,stl,kept,full,long⟩:=hok
 rw[←hb,←hl] at own
 rw[←hl] at len
 rw[←hid] at idl idh
 rw[←hwv,←hl] at kept
 rw[←hl,←hid] at full
 rw[←hgv,←hl,←hid] at long
 rw[←hb,←hgv,←hwv,←hid]
 clear hb hl hid hgv hwv
 obtain⟨A,c,rfl⟩:=own_form0 own
 obtain⟨n,hn⟩:=exz (l.length)
 rw[←hn] at own len kept full long ⊢
 have hst2:p.st=0∨p.st=2:=by omega
 rcases hst2 with hs | hs
 ·have hdn:p.done=false:=by simp[Pg.done,hs]
  rw[hdn]
  have hk:=kept hs
  obtain⟨A2,c2,rfl⟩:=own_form0 hk
  have HA:=hdz (aiz own (aiz hk hn))
  clear own hk hn kept full long hdn hs stl hst
  go_enter Tryz.func136,Tryz.ntmps136
  go_wp2_with fail
  obtain⟨G,hG⟩:=exz (w.heap.size)
  obtain⟨w0,hw0⟩:=exz (w.alloc (.cells #[.slice A n c,gv,.slice A2 n c2,.int .i64 id,.bool false] 161))
  rw[←hw0]
  simp only[←hG]
  have hb0:Blk w0 G 161 #[.slice A n c,gv,.slice A2 n c2,.int .i64 id,.bool false]:=by rw[hw0,hG];exact Blk.new _ _ _
  have hfr:Fresh w w0:=hw0 ▸ (krz _ w).alloc _
  have c0:=hb0.cell 0
  have c2':=hb0.cell 2
  simp at c0 c2'
  have HF:=hdz (aiz hfr (aiz (own_keep HA.out.1 hfr (λ_ _=>trivial)) (aiz (own_keep HA.out.2.1 hfr (λ_ _=>trivial)) HA.out.2.2)))
  clear hw0 hb0 hfr HA hG
  go_loopw [4] (λi wr=>∃k d:Nat,k≤n∧i=.int .i64 (k:Int)∧wr=w0.drewN d) (λi _=>n - (intOf i).toNat)
  case atStart=>exact⟨0,0,Nat.zero_le _,rfl,rfl⟩
  case round=>
   obtain⟨k,d,hk,rfl,rfl⟩:=hrel
   by_cases hlt:k<n
   ·obtain⟨hfr,h1,h2,hn⟩:=HF.out
    obtain⟨g1,k1,e1,-,-,-⟩:=own_nonnil h1 (by omega)
    obtain⟨g2,k2,e2,-,-,-⟩:=own_nonnil h2 (by omega)
    injection e1 with e1 _ e1c
    injection e2 with e2 _ e2c
    subst e1 e2 e1c e2c
    obtain⟨z,hz⟩:∃z:Int,z=(l[k].toNat:Int):=⟨_,rfl⟩
    have x1:=own_byte h1 (by omega) hz
    have x2:=own_byte h2 (by omega) hz
    clear hfr h1 h2 hn hz
    go_wp2_with fail
    go_quiet (fail)
    go_wp2_with fail
    exact⟨⟨k+1,_,by omega,congrArg _ (by omega),rfl⟩,by simp[intOf];omega⟩
   ·go_wp2_with fail
    go_ret
    exact⟨rfl,HF.out.1.drewN _⟩
 ·have hdn:p.done=true:=by simp[Pg.done,hs]
  rw[hdn]
  have hk:=long hs
  have hfull:=full (by omega)
  obtain⟨A2,c2,rfl⟩:=own_form0 hk
  have HA:=hdz (aiz own (aiz hk (aiz hn hfull)))
  clear own hk hn kept full long hdn hs stl hst hfull
  go_enter Tryz.func136,Tryz.ntmps136
  go_wp2_with fail
  obtain⟨G,hG⟩:=exz (w.heap.size)
  obtain⟨w0,hw0⟩:=exz (w.alloc (.cells #[.slice A n c,.slice A2 (n+64) c2,wv,.int .i64 id,.bool true] 161))
  rw[←hw0]
  simp only[←hG]
  have hb0:Blk w0 G 161 #[.slice A n c,.slice A2 (n+64) c2,wv,.int .i64 id,.bool true]:=by rw[hw0,hG];exact Blk.new _ _ _
  have hfr:Fresh w w0:=hw0 ▸ (krz _ w).alloc _
  have c0:=hb0.cell 0
  have c1:=hb0.cell 1
  have c3:=hb0.cell 3
  simp at c0 c1 c3
  have HF:=hdz (aiz hfr (aiz (own_keep HA.out.1 hfr (λ_ _=>trivial)) (aiz (own_keep HA.out.2.1 hfr (λ_ _=>trivial)) HA.out.2.2)))
  clear hw0 hb0 hfr HA hG
  go_loopw [5] (λi wr=>∃k d:Nat,k≤n∧i=.int .i64 (k:Int)∧wr=w0.drewN d) (λi _=>n - (intOf i).toNat)
  case atStart=>exact⟨0,0,Nat.zero_le _,rfl,rfl⟩
  case round=>
   obtain⟨k,d,hk,rfl,rfl⟩:=hrel
   by_cases hlt:k<n
   ·obtain⟨hfr,h1,h2,hn,hp⟩:=HF.out
    obtain⟨g1,k1,e1,-,-,-⟩:=own_nonnil h1 (by omega)
    obtain⟨g2,k2,e2,-,-,-⟩:=own_nonnil h2 (by omega)
    injection e1 with e1 _ e1c
    injection e2 with e2 _ e2c
    subst e1 e2 e1c e2c
    obtain⟨z,hz⟩:∃z:Int,z=((pat id k).toNat:Int):=⟨_,rfl⟩
    have HQ:=λm=>Pat_any id k (by omega) (w0.drewN m)
    rw[←hz] at HQ
    replace HQ:=hdz HQ
    have hl:k<l.length:=by omega
    have hpk:l[k]=pat id k:=by
     have:(l[k]?=(pats id n)[k]?):=by rw[←hp]
     rw[List.getElem?_eq_getElem hl,List.getElem?_eq_getElem (by rw[pats_len];omega),pats_get] at this
     injection this
    have x1:=own_byte (z:=z) h1 hl (by rw[hz,hpk])
    have x2:=own_byte (z:=z) (k:=k) h2 (by rw[lapz];omega) (by rw[hz,List.getElem_append_left hl,hpk])
    clear hfr h1 h2 hn hz hp hl hpk
    go_wp2_with fail
    go_quiet ((go_at_call 124;exact quiet_add_left (HQ.out _)))
    go_wp2_with fail
    exact⟨⟨k+1,_,by omega,congrArg _ (by omega),rfl⟩,by simp[intOf];omega⟩
   ·go_wp2_with fail
    go_loopw [6] (λi wr=>∃k d:Nat,k≤64∧i=.int .i64 (k:Int)∧wr=w0.drewN d) (λi _=>64 - (intOf i).toNat)
    case atStart=>exact⟨0,d,Nat.zero_le _,rfl,rfl⟩
    case round=>
     obtain⟨k3,d3,hk3,rfl,rfl⟩:=hrel
     by_cases hlt3:k3<64
     ·obtain⟨hfr,h1,h2,hn,hp⟩:=HF.out
      obtain⟨g2,k2,e2,-,-,-⟩:=own_nonnil h2 (by omega)
      injection e2 with e2 _ e2c
      subst e2 e2c
      obtain⟨z,hz⟩:∃z:Int,z=((pat (id+100000) k3).toNat:Int):=⟨_,rfl⟩
      have HQ:=λm=>Pat_any (id+100000) k3 (by omega) (w0.drewN m)
      rw[←hz] at HQ
      replace HQ:=hdz HQ
      have x2:=own_byte (z:=z) (k:=n+k3) h2 (by rw[lapz,pats_len];omega) (by rw[hz,List.getElem_append_right (by omega)];rw[pats_get];congr 3;omega)
      clear hfr h1 h2 hn hz hp
      go_wp2_with fail
      go_quiet ((go_at_call 124;exact quiet_add_left (HQ.out _)))
      go_wp2_with fail
      exact⟨⟨k3+1,_,by omega,congrArg _ (by omega),rfl⟩,by simp[intOf];omega⟩
     ·go_wp2_with fail
      go_ret
      exact⟨rfl,HF.out.1.drewN _⟩
theorem own_blk {w:World} {b e s n:Nat} {v:Value} {xs:List Value} (h:w.ownsRow b e s v n xs) {g:Nat} (hg:v.ownBlock=some g):∃cs,Blk w g e cs:=by
 rcases h.2 with ⟨rfl,_⟩ | ⟨g',cap,cur,rfl,_,hh,_⟩
 ·simp[Value.ownBlock] at hg
 ·simp[Value.ownBlock] at hg
  subst hg
  exact⟨cur,hh⟩
theorem own_as {w w':World} {b e s n:Nat} {v:Value} {xs:List Value} (h:w.ownsRow b e s v n xs) {g:Nat} (hg:v.ownBlock=some g) {cs:Array Value} (hb:Blk w g e cs) (hb':Blk w' g e cs):w'.ownsRow b e s v n xs:=by
 refine⟨h.1,?_⟩
 rcases h.2 with ⟨rfl,_⟩ | ⟨g',cap,cur,rfl,hbb,hh,rest⟩
 ·simp[Value.ownBlock] at hg
 ·simp[Value.ownBlock] at hg
  subst hg
  exact .inr ⟨g',cap,cur,rfl,hbb,(show w'.heap[g']?=w.heap[g']? from hb'.trans hb.symm).trans hh,rest⟩
def fulls {α:Type}(full:Int→α)(mk:Int)(n:Nat):List α:=(List.range n).map λi:Nat=>full (mk+(i:Int))
def tails {α:Type}(full:Int→α)(mk:Int)(n:Nat):List α:=(List.range n).map λi:Nat=>full (-mk - (i:Int))
def fullP (m:Int):Txt×Txt:=(wordT m,[])
def fullW (m:Int):Int×Int:=(m,0)
section
variable {α:Type}{full:Int→α}{mk:Int}
theorem fulls_len (n:Nat):(fulls full mk n).length=n:=by simp[fulls]
theorem tails_len (n:Nat):(tails full mk n).length=n:=by simp[tails]
theorem fulls_get {n k:Nat}(h:k<(fulls full mk n).length):(fulls full mk n)[k]=full (mk+(k:Int)):=by simp[fulls]
theorem tails_get {n k:Nat}(h:k<(tails full mk n).length):(tails full mk n)[k]=full (-mk - (k:Int)):=by simp[tails]
theorem fulls_succ (n:Nat):fulls full mk (n+1)=fulls full mk n++[full (mk+(n:Int))]:=by simp[fulls,List.range_succ]
theorem tails_succ (n:Nat):tails full mk (n+1)=tails full mk n++[full (-mk - (n:Int))]:=by simp[tails,List.range_succ]
theorem fulls_set (k:Nat)(l:List α)(hk:k<l.length):(fulls full mk k++l.drop k).set k (full (mk+(k:Int)))=fulls full mk (k+1)++l.drop (k+1):=by
 rw[List.set_append_right _ _ (by rw[fulls_len];exact lrz _),fulls_len,Nat.sub_self,List.drop_eq_getElem_cons hk,zp2,fulls_succ,List.append_assoc]
 rfl
theorem over_len (k:Nat)(l:List α)(hk:k≤l.length):(fulls full mk k++l.drop k).length=l.length:=by
 rw[lapz,fulls_len,List.length_drop]
 omega
theorem over_all (l:List α):fulls full mk l.length++l.drop l.length=fulls full mk l.length:=by simp
end
theorem pair_set (l:List (Txt×Txt)){i:Nat}(hi:i<l.length)(x:Txt×Txt):((pcells l).set (i*2) (str x.1)).set (i*2+1) (str x.2)=pcells (l.set i x):=by
 have h0:=rcells_set (f:=pairC) (c:=2) (λ_=>rfl) l i hi 0 (str x.1) (x.1,l[i].2) (by omega) rfl
 rw[Nat.add_zero] at h0
 have h1:=rcells_set (f:=pairC) (c:=2) (λ_=>rfl) (l.set i (x.1,l[i].2)) i (by simpa using hi) 1 (str x.2) x (by omega) (by rw[List.getElem_set_self];rfl)
 rw[List.set_set] at h1
 rw[h0,h1]
theorem wait_set (l:List (Int×Int)){i:Nat}(hi:i<l.length)(x:Int×Int):((wcells l).set (i*2) (.int .i64 x.1)).set (i*2+1) (.int .i64 x.2)=wcells (l.set i x):=by
 have h0:=rcells_set (f:=waitC) (c:=2) (λ_=>rfl) l i hi 0 (.int .i64 x.1) (x.1,l[i].2) (by omega) rfl
 rw[Nat.add_zero] at h0
 have h1:=rcells_set (f:=waitC) (c:=2) (λ_=>rfl) (l.set i (x.1,l[i].2)) i (by simpa using hi) 1 (.int .i64 x.2) x (by omega) (by rw[List.getElem_set_self];rfl)
 rw[List.set_set] at h1
 rw[h0,h1]
theorem pwrite_any {W0 w:World} (hT:TabsN W0) (hW:Fresh W0 w) {g o:Nat} {cs:Array Value} {mk:Int} {dn:Bool} {va vb vc:Value} {la:List (Txt×Txt)} {lb:List (Int×Int)} {lc:List Txt}
 (hb:Blk w g 129 cs) (h0:cs[o]?=some va) (h3:cs[o+3]?=some vb) (h6:cs[o+6]?=some vc) (h9:cs[o+9]?=some (.int .i64 mk)) (h10:cs[o+10]?=some (.bool dn)) (hg0:W0.heap.size≤g)
 (ha:w.ownsRow W0.heap.size 71 2 va la.length (pcells la)) (hbb:w.ownsRow W0.heap.size 115 2 vb lb.length (wcells lb)) (hc:w.ownsRow W0.heap.size 9 1 vc lc.length (lc.map str))
 (na:la.length≤1000) (nb:lb.length≤1000) (nc:lc.length≤1000) (hm0:1000≤mk) (hm1:mk≤100000) :
 Calls Tryz.prog 62 #[.pointer (some ⟨g,o,none⟩)] w λe w'=>e=.returned (.tuple #[])∧Blk w' g 129 (cs.setIfInBounds (o+10) (.bool true)) ∧
  w'.ownsRow W0.heap.size 71 2 va la.length (pcells (fulls fullP mk la.length))∧w'.ownsRow W0.heap.size 115 2 vb lb.length (wcells (fulls fullW mk lb.length))∧w'.ownsRow W0.heap.size 9 1 vc lc.length ((fulls wordT mk lc.length).map str) ∧
  Keep (λk=>k≠g∧va.ownBlock≠some k∧vb.ownBlock≠some k∧vc.ownBlock≠some k) w w':=by
 obtain⟨Aa,ca,rfl⟩:=own_form0 ha
 obtain⟨Ab,cb,rfl⟩:=own_form0 hbb
 obtain⟨Ac,cc,rfl⟩:=own_form0 hc
 obtain⟨a,han⟩:∃n,n=la.length:=⟨_,rfl⟩
 obtain⟨b,hbn⟩:∃n,n=lb.length:=⟨_,rfl⟩
 obtain⟨c,hcn⟩:∃n,n=lc.length:=⟨_,rfl⟩
 rw[←han] at ha na h0 ⊢
 rw[←hbn] at hbb nb h3 ⊢
 rw[←hcn] at hc nc h6 ⊢
 have x10:=hb.cell (o+10)
 rw[h10] at x10
 have f10:=hb.frozen (o+10)
 have lg:=hb.lt
 have nga:=own_ne_blk ha hb (by decide)
 have ngb:=own_ne_blk hbb hb (by decide)
 have ngc:=own_ne_blk hc hb (by decide)
 have nab:∀ {k},(Value.slice Aa a ca).ownBlock=some k→(Value.slice Ab b cb).ownBlock≠some k:=λh=>own_ne_own2 ha hbb (by decide) h
 have nac:∀ {k},(Value.slice Aa a ca).ownBlock=some k→(Value.slice Ac c cc).ownBlock≠some k:=λh=>own_ne_own2 ha hc (by decide) h
 have nbc:∀ {k},(Value.slice Ab b cb).ownBlock=some k→(Value.slice Ac c cc).ownBlock≠some k:=λh=>own_ne_own2 hbb hc (by decide) h
 obtain⟨cs1,hcs1⟩:∃c1,c1=cs.setIfInBounds (o+10) (.bool true):=⟨_,rfl⟩
 obtain⟨w1,hw1⟩:=exz (w.setCell ⟨g,o+10,none⟩ (.bool true))
 have hb1:Blk w1 g 129 cs1:=by rw[hw1,hcs1];exact hb.set _ _
 have hk1:Keep (λk=>k≠g) w w1:=by rw[hw1];exact (krz _ w).setCell (λ_ h=>h rfl) _
 have e0:cs1[o]?=some (.slice Aa a ca):=by rw[hcs1,Array.getElem?_setIfInBounds_ne (by omega)];exact h0
 have e3:cs1[o+3]?=some (.slice Ab b cb):=by rw[hcs1,Array.getElem?_setIfInBounds_ne (by omega)];exact h3
 have e6:cs1[o+6]?=some (.slice Ac c cc):=by rw[hcs1,Array.getElem?_setIfInBounds_ne (by omega)];exact h6
 have e9:cs1[o+9]?=some (.int .i64 mk):=by rw[hcs1,Array.getElem?_setIfInBounds_ne (by omega)];exact h9
 have ha1:=own_keep ha hk1 (λk e e2=>nga (e2 ▸ e))
 have hbb1:=own_keep hbb hk1 (λk e e2=>ngb (e2 ▸ e))
 have hc1:=own_keep hc hk1 (λk e e2=>ngc (e2 ▸ e))
 have HG:Hid (∀wx,Blk wx g 129 cs1→wx.cell? ⟨g,o,none⟩=some (.slice Aa a ca)∧wx.cell? ⟨g,o+3,none⟩=some (.slice Ab b cb)∧wx.cell? ⟨g,o+6,none⟩=some (.slice Ac c cc)∧wx.cell? ⟨g,o+9,none⟩=some (.int .i64 mk)∧g<wx.heap.size):=hdz λwx h=>⟨(h.cell _).trans e0,(h.cell _).trans e3,(h.cell _).trans e6,(h.cell _).trans e9,h.lt⟩
 have hZ:∀wx,Keep (λk=>k≠g∧(Value.slice Aa a ca).ownBlock≠some k∧(Value.slice Ab b cb).ownBlock≠some k∧(Value.slice Ac c cc).ownBlock≠some k) w wx→Tabs wx:=λwx hk=>(hT.fresh (hW.comp hk (λ_ _ _=>trivial) λi hi _=>⟨by omega,λe=>by have:=(own_lt ha e).1;omega,λe=>by have:=(own_lt hbb e).1;omega,λe=>by have:=(own_lt hc e).1;omega⟩)).t
 have HA:=hdz (aiz han (aiz hbn (aiz hcn (aiz nga (aiz ngb ngc)))))
 have HN:=hdz (aiz @nab (aiz @nac @nbc))
 have H1:=hdz (aiz hb1 (aiz hk1 (aiz ha1 (aiz hbb1 hc1))))
 have HW1:=hdz hw1
 have HCs:=hdz hcs1
 have HZ:=hdz hZ
 clear hT hW hb h0 h3 h6 h9 h10 hg0 ha hbb hc han hbn hcn nga ngb ngc nab nac nbc hb1 hk1 ha1 hbb1 hc1 e0 e3 e6 e9 hZ hw1 hcs1
 go_enter Tryz.func62,Tryz.ntmps62
 go_upto_region 1 with (fail)
 generalize hwN:World.setCell w _ _=wN
 obtain rfl:w1=wN:=HW1.out.trans hwN
 clear hwN x10 f10 lg
 go_wp2_with fail
 go_loopw [2] (λi wr=>∃j:Nat,j≤a∧i=.int .i64 (j:Int)∧Hid (Blk wr g 129 cs1∧wr.ownsRow W0.heap.size 71 2 (.slice Aa a ca) a (pcells (fulls fullP mk j++la.drop j))∧Keep (λk=>(Value.slice Aa a ca).ownBlock≠some k) w1 wr)) (λi _=>a - (intOf i).toNat)
 case atStart=>exact⟨0,Nat.zero_le _,rfl,hdz ⟨H1.out.1,by simpa[fulls] using H1.out.2.2.1,krz _ _⟩⟩
 case round=>
  rename World=>wr
  obtain⟨j,hj,rfl,HR⟩:=hrel
  obtain⟨y0,y3,y6,y9,lg⟩:=HG.out wr HR.out.1
  by_cases hlt:j<a
  ·obtain⟨ga,cap,hA,hB,hgl,hcap⟩:=own_nonnil HR.out.2.1 (by omega)
   obtain rfl:Aa=some ⟨ga,0,none⟩:=by injection hA
   have hf0:=own_frozen HR.out.2.1 (j*2) (g:=ga) rfl
   have hf1:=own_frozen HR.out.2.1 (j*2+1) (g:=ga) rfl
   obtain⟨u0,hu0⟩:=own_has HR.out.2.1 (g:=ga) (j:=j*2) rfl (by omega)
   obtain⟨u1,hu1⟩:=own_has HR.out.2.1 (g:=ga) (j:=j*2+1) rfl (by omega)
   have hji:(j:Int)<(a:Int):=by omega
   have hwd:Hid (∀wx,Fresh wr wx→Calls Tryz.prog 103 #[.int .i64 (mk+(j:Int))] wx λe w'=>e=.returned (str (wordT (mk+(j:Int))))∧Fresh wx w'):=hdz λwx hf=>word_any _ (by omega) (by omega) wx (HZ.out wx (by
    refine (H1.out.2.1.comp HR.out.2.2 (λ_ _ h=>h.1) λ_ _ h=>h.2.1).comp hf (λ_ _ h=>h) λ_ _ _=>trivial))
   obtain⟨tx,htx⟩:=exz (wordT (mk+(j:Int)))
   rw[←htx] at hwd
   have hnx:Hid (∀wa,Fresh wr wa→Blk ((wa.setCell ⟨ga,j*2,none⟩ (str tx)).setCell ⟨ga,j*2+1,none⟩ (str [])) g 129 cs1∧((wa.setCell ⟨ga,j*2,none⟩ (str tx)).setCell ⟨ga,j*2+1,none⟩ (str [])).ownsRow W0.heap.size 71 2 (.slice (some ⟨ga,0,none⟩) a ca) a (pcells (fulls fullP mk (j+1)++la.drop (j+1)))∧Keep (λk=>(Value.slice (some ⟨ga,0,none⟩) a ca).ownBlock≠some k) w1 ((wa.setCell ⟨ga,j*2,none⟩ (str tx)).setCell ⟨ga,j*2+1,none⟩ (str []))):=hdz λwa hf=>by
    have hgg:g≠ga:=λe=>HA.out.2.2.2.1 (by rw[e];rfl)
    have h1:=own_set (own_set (own_keep HR.out.2.1 hf λ_ _=>trivial) (g:=ga) (i:=j*2) rfl (by omega) (str tx)) (g:=ga) (i:=j*2+1) rfl (by omega) (str [])
    have h2:=pair_set (fulls fullP mk j++la.drop j) (i:=j) (by rw[over_len _ _ (by have:=HA.out.1;omega)];have:=HA.out.1;omega) (tx,[])
    rw[h2,htx,show (wordT (mk+(j:Int)),([]:Txt))=fullP (mk+(j:Int)) from rfl,fulls_set j la (by have:=HA.out.1;omega)] at h1
    rw[←htx] at h1
    exact⟨((HR.out.1.keep hf trivial).far hgg _).far hgg _,h1,((HR.out.2.2.comp hf (λ_ _ h=>h) λ_ _ _=>trivial).setCell (p:=⟨ga,j*2,none⟩) (λ_ h=>h rfl) _).setCell (p:=⟨ga,j*2+1,none⟩) (λ_ h=>h rfl) _⟩
   clear hA hcap hB htx
   have hwr:IntKind.i64.wrap (mk+(j:Int))=mk+(j:Int):=by rw[IntKind.wrap_i64];omega
   go_upto_region 4 with (fail)
   have HK:Hid (∀w',Keep (λk=>k≠ga) wr w'→w'.cell? ⟨g,o,none⟩=some (.slice (some ⟨ga,0,none⟩) a ca)∧w'.cell? ⟨g,o+9,none⟩=some (.int .i64 mk)):=hdz λw' hk=>⟨hk.cellAt y0 (λe=>HA.out.2.2.2.1 (by rw[show g=ga from e];rfl)),hk.cellAt y9 (λe=>HA.out.2.2.2.1 (by rw[show g=ga from e];rfl))⟩
   have hd0:Hid (Fresh wr wr.drew):=hdz ((krz _ wr).drew)
   go_region_held3 (λw'=>w'.cell? ⟨g,o,none⟩=some (.slice (some ⟨ga,0,none⟩) a ca)∧w'.cell? ⟨g,o+9,none⟩=some (.int .i64 mk))
    (first | exact HK.out _ ((krz _ wr).drew) | exact HK.out _ (hfa.weaken λ_ _ _=>trivial) | exact HK.out _ (((hfa.weaken λ_ _ _=>trivial).setCell (p:=⟨ga,j*2,none⟩) (λ_ h=>h rfl) _).setCell (p:=⟨ga,j*2+1,none⟩) (λ_ h=>h rfl) _))
    (first
     | (go_at_call 103;(with_reducible refine Calls.mono (hwd.out _ hd0.out) ?_);rintro e wa ⟨rfl,hfb⟩;have hfa:=hd0.out.then hfb;have c0a:=hfa.cellAt hu0 trivial;have c1a:=hfa.cellAt hu1 trivial;have f0a:=(hfa.frozen (p:=⟨ga,j*2,none⟩) hgl trivial).trans hf0;have f1a:=(hfa.frozen (p:=⟨ga,j*2+1,none⟩) hgl trivial).trans hf1;have lga:=lt_of_cell c0a))
   all_goals
    go_wp2_with fail
    exact⟨⟨j+1,by omega,by simp,hdz (hnx.out _ hfa)⟩,by simp only[intOf];omega⟩
  ·obtain rfl:j=a:=by omega
   have h2a:=HR.out.2.1
   rw[show fulls fullP mk j++la.drop j=fulls fullP mk j by rw[HA.out.1];exact over_all la] at h2a
   have h2b:=own_keep H1.out.2.2.2.1 HR.out.2.2 (λk e e2=>HN.out.1 e2 e)
   have h2c:=own_keep H1.out.2.2.2.2 HR.out.2.2 (λk e e2=>HN.out.2.1 e2 e)
   have H2:=hdz (aiz HR.out.1 (aiz h2a (aiz h2b (aiz h2c HR.out.2.2))))
   clear h2a h2b h2c HR
   go_wp2_with fail
   go_loopw [3] (λi wq=>∃k:Nat,k≤b∧i=.int .i64 (k:Int)∧Hid (Blk wq g 129 cs1∧wq.ownsRow W0.heap.size 115 2 (.slice Ab b cb) b (wcells (fulls fullW mk k++lb.drop k))∧Keep (λk=>(Value.slice Ab b cb).ownBlock≠some k) wr wq)) (λi _=>b - (intOf i).toNat)
   case atStart=>exact⟨0,Nat.zero_le _,rfl,hdz ⟨H2.out.1,by simpa[fulls] using H2.out.2.2.1,krz _ _⟩⟩
   case round=>
    rename World=>wq
    obtain⟨k,hk,rfl,HR⟩:=hrel
    clear y0 y3 y6 y9 lg
    obtain⟨y0,y3,y6,y9,lg⟩:=HG.out wq HR.out.1
    by_cases hlt2:k<b
    ·obtain⟨gb,cap,hA,hB,hgl,hcap⟩:=own_nonnil HR.out.2.1 (by omega)
     obtain rfl:Ab=some ⟨gb,0,none⟩:=by injection hA
     have hf0:=own_frozen HR.out.2.1 (k*2) (g:=gb) rfl
     have hf1:=own_frozen HR.out.2.1 (k*2+1) (g:=gb) rfl
     obtain⟨u0,hu0⟩:=own_has HR.out.2.1 (g:=gb) (j:=k*2) rfl (by omega)
     obtain⟨u1,hu1⟩:=own_has HR.out.2.1 (g:=gb) (j:=k*2+1) rfl (by omega)
     have hki:(k:Int)<(b:Int):=by omega
     have hwr:IntKind.i64.wrap (mk+(k:Int))=mk+(k:Int):=by rw[IntKind.wrap_i64];omega
     have hgg:g≠gb:=λe=>HA.out.2.2.2.2.1 (by rw[e];rfl)
     have hnx:Hid (Blk ((wq.drew.setCell ⟨gb,k*2,none⟩ (.int .i64 (mk+(k:Int)))).setCell ⟨gb,k*2+1,none⟩ (.int .i64 0)) g 129 cs1∧((wq.drew.setCell ⟨gb,k*2,none⟩ (.int .i64 (mk+(k:Int)))).setCell ⟨gb,k*2+1,none⟩ (.int .i64 0)).ownsRow W0.heap.size 115 2 (.slice (some ⟨gb,0,none⟩) b cb) b (wcells (fulls fullW mk (k+1)++lb.drop (k+1)))∧Keep (λk=>(Value.slice (some ⟨gb,0,none⟩) b cb).ownBlock≠some k) wr ((wq.drew.setCell ⟨gb,k*2,none⟩ (.int .i64 (mk+(k:Int)))).setCell ⟨gb,k*2+1,none⟩ (.int .i64 0))):=by
      have h1:=own_set (own_set (own_keep HR.out.2.1 ((krz (λ_=>True) wq).drew) λ_ _=>trivial) (g:=gb) (i:=k*2) rfl (by omega) (.int .i64 (mk+(k:Int)))) (g:=gb) (i:=k*2+1) rfl (by omega) (.int .i64 0)
      have h2:=wait_set (fulls fullW mk k++lb.drop k) (i:=k) (by rw[over_len _ _ (by have:=HA.out.2.1;omega)];have:=HA.out.2.1;omega) (mk+(k:Int),0)
      rw[h2,show (mk+(k:Int),(0:Int))=fullW (mk+(k:Int)) from rfl,fulls_set k lb (by have:=HA.out.2.1;omega)] at h1
      exact hdz ⟨((HR.out.1.drew).far hgg _).far hgg _,h1,((HR.out.2.2.drew).setCell (p:=⟨gb,k*2,none⟩) (λ_ h=>h rfl) _).setCell (p:=⟨gb,k*2+1,none⟩) (λ_ h=>h rfl) _⟩
     clear hA hcap hB
     go_upto_region 8 with (fail)
     have HK:Hid (∀w',Keep (λk=>k≠gb) wq w'→w'.cell? ⟨g,o+3,none⟩=some (.slice (some ⟨gb,0,none⟩) b cb)∧w'.cell? ⟨g,o+9,none⟩=some (.int .i64 mk)):=hdz λw' hk=>⟨hk.cellAt y3 hgg,hk.cellAt y9 hgg⟩
     clear hgg
     go_region_held3 (λw'=>w'.cell? ⟨g,o+3,none⟩=some (.slice (some ⟨gb,0,none⟩) b cb)∧w'.cell? ⟨g,o+9,none⟩=some (.int .i64 mk))
      (first | exact HK.out _ ((krz _ wq).drew) | exact HK.out _ ((((krz _ wq).drew).setCell (p:=⟨gb,k*2,none⟩) (λ_ h=>h rfl) _).setCell (p:=⟨gb,k*2+1,none⟩) (λ_ h=>h rfl) _))
      (fail)
     all_goals
      go_wp2_with fail
      exact⟨⟨k+1,by omega,by simp,hnx⟩,by simp only[intOf];omega⟩
    ·obtain rfl:k=b:=by omega
     have h3b:=HR.out.2.1
     rw[show fulls fullW mk k++lb.drop k=fulls fullW mk k by rw[HA.out.2.1];exact over_all lb] at h3b
     have h3a:=own_keep H2.out.2.1 HR.out.2.2 (λi e e2=>HN.out.1 e e2)
     have h3c:=own_keep H2.out.2.2.2.1 HR.out.2.2 (λi e e2=>HN.out.2.2 e2 e)
     have H3:=hdz (aiz HR.out.1 (aiz h3a (aiz h3b (aiz h3c HR.out.2.2))))
     clear h3a h3b h3c HR
     go_wp2_with fail
     go_loopw [4] (λi wz=>∃m:Nat,m≤c∧i=.int .i64 (m:Int)∧Hid (Blk wz g 129 cs1∧wz.ownsRow W0.heap.size 9 1 (.slice Ac c cc) c ((fulls wordT mk m++lc.drop m).map str)∧Keep (λk=>(Value.slice Ac c cc).ownBlock≠some k) wq wz)) (λi _=>c - (intOf i).toNat)
     case atStart=>exact⟨0,Nat.zero_le _,rfl,hdz ⟨H3.out.1,by simpa[fulls] using H3.out.2.2.2.1,krz _ _⟩⟩
     case round=>
      rename World=>wz
      obtain⟨m,hm,rfl,HR⟩:=hrel
      clear y0 y3 y6 y9 lg
      obtain⟨y0,y3,y6,y9,lg⟩:=HG.out wz HR.out.1
      by_cases hlt3:m<c
      ·obtain⟨gc,cap,hA,hB,hgl,hcap⟩:=own_nonnil HR.out.2.1 (by omega)
       obtain rfl:Ac=some ⟨gc,0,none⟩:=by injection hA
       have hf0:=own_frozen HR.out.2.1 m (g:=gc) rfl
       obtain⟨u0,hu0⟩:=own_has HR.out.2.1 (g:=gc) (j:=m) rfl (by omega)
       have hmi:(m:Int)<(c:Int):=by omega
       have hwr:IntKind.i64.wrap (mk+(m:Int))=mk+(m:Int):=by rw[IntKind.wrap_i64];omega
       have hgg:g≠gc:=λe=>HA.out.2.2.2.2.2 (by rw[e];rfl)
       have hwd:Hid (∀wx,Fresh wz wx→Calls Tryz.prog 103 #[.int .i64 (mk+(m:Int))] wx λe w'=>e=.returned (str (wordT (mk+(m:Int))))∧Fresh wx w'):=hdz λwx hf=>word_any _ (by omega) (by omega) wx (HZ.out wx (by
        refine (((H1.out.2.1.comp H2.out.2.2.2.2 (λ_ _ h=>h.1) λ_ _ h=>h.2.1).comp H3.out.2.2.2.2 (λ_ _ h=>h) λ_ _ h=>h.2.2.1).comp HR.out.2.2 (λ_ _ h=>h) λ_ _ h=>h.2.2.2).comp hf (λ_ _ h=>h) λ_ _ _=>trivial))
       obtain⟨tx,htx⟩:=exz (wordT (mk+(m:Int)))
       rw[←htx] at hwd
       have hnx:Hid (∀wa,Fresh wz wa→Blk (wa.setCell ⟨gc,m,none⟩ (str tx)) g 129 cs1∧(wa.setCell ⟨gc,m,none⟩ (str tx)).ownsRow W0.heap.size 9 1 (.slice (some ⟨gc,0,none⟩) c cc) c ((fulls wordT mk (m+1)++lc.drop (m+1)).map str)∧Keep (λk=>(Value.slice (some ⟨gc,0,none⟩) c cc).ownBlock≠some k) wq (wa.setCell ⟨gc,m,none⟩ (str tx))):=hdz λwa hf=>by
        have h1:=own_set (own_keep HR.out.2.1 hf λ_ _=>trivial) (g:=gc) (i:=m) rfl (by omega) (str tx)
        rw[←List.map_set,htx,fulls_set m lc (by have:=HA.out.2.2.1;omega)] at h1
        rw[←htx] at h1
        exact⟨(HR.out.1.keep hf trivial).far hgg _,h1,(HR.out.2.2.comp hf (λ_ _ h=>h) λ_ _ _=>trivial).setCell (p:=⟨gc,m,none⟩) (λ_ h=>h rfl) _⟩
       clear hA hcap hB htx
       go_upto_region 12 with (fail)
       have HK:Hid (∀w',Keep (λk=>k≠gc) wz w'→w'.cell? ⟨g,o+6,none⟩=some (.slice (some ⟨gc,0,none⟩) c cc)∧w'.cell? ⟨g,o+9,none⟩=some (.int .i64 mk)):=hdz λw' hk=>⟨hk.cellAt y6 hgg,hk.cellAt y9 hgg⟩
       clear hgg
       have hd0:Hid (Fresh wz wz.drew):=hdz ((krz _ wz).drew)
       go_region_held3 (λw'=>w'.cell? ⟨g,o+6,none⟩=some (.slice (some ⟨gc,0,none⟩) c cc)∧w'.cell? ⟨g,o+9,none⟩=some (.int .i64 mk))
        (first | exact HK.out _ ((krz _ wz).drew) | exact HK.out _ (hfa.weaken λ_ _ _=>trivial) | exact HK.out _ ((hfa.weaken λ_ _ _=>trivial).setCell (p:=⟨gc,m,none⟩) (λ_ h=>h rfl) _))
        (first
         | (go_at_call 103;(with_reducible refine Calls.mono (hwd.out _ hd0.out) ?_);rintro e wa ⟨rfl,hfb⟩;have hfa:=hd0.out.then hfb;have c0a:=hfa.cellAt hu0 trivial;have f0a:=(hfa.frozen (p:=⟨gc,m,none⟩) hgl trivial).trans hf0;have lga:=lt_of_cell c0a))
       all_goals
        go_wp2_with fail
        exact⟨⟨m+1,by omega,by simp,hdz (hnx.out _ hfa)⟩,by simp only[intOf];omega⟩
      ·obtain rfl:m=c:=by omega
       have h4c:=HR.out.2.1
       rw[show fulls wordT mk m++lc.drop m=fulls wordT mk m by rw[HA.out.2.2.1];exact over_all lc] at h4c
       have h4a:=own_keep H3.out.2.1 HR.out.2.2 (λi e e2=>HN.out.2.1 e e2)
       have h4b:=own_keep H3.out.2.2.1 HR.out.2.2 (λi e e2=>HN.out.2.2 e e2)
       go_wp2_with fail
       go_end0
       exact⟨rfl,by rw[←HCs.out];exact HR.out.1,h4a,h4b,h4c,((H1.out.2.1.comp H2.out.2.2.2.2 (λ_ _ h=>h.1) λ_ _ h=>h.2.1).comp H3.out.2.2.2.2 (λ_ _ h=>h) λ_ _ h=>h.2.2.1).comp HR.out.2.2 (λ_ _ h=>h) λ_ _ h=>h.2.2.2⟩
structure PgD where
 a1:Value
 a2:Value
 a3:Value
 b1:Value
 b2:Value
 b3:Value
 c1:Value
 c2:Value
 c3:Value
 la:List (Txt×Txt)
 lb:List (Int×Int)
 lc:List Txt
 mrk:Int
 st:Nat
def PgD.done (p:PgD):Bool:=p.st != 0
def PgD.cells (p:PgD):List Value:=[p.a1,p.a2,p.a3,p.b1,p.b2,p.b3,p.c1,p.c2,p.c3,.int .i64 p.mrk,.bool p.done]
theorem pgd_eleven (p:PgD):p.cells.length=11:=rfl
def SliceV (v:Value):Prop:=∃A n c,v=.slice A n c
structure PgD.ok (w:World)(B:Nat)(p:PgD):Prop where
 oa:w.ownsRow B 71 2 p.a1 p.la.length (pcells p.la)
 ob:w.ownsRow B 115 2 p.b1 p.lb.length (wcells p.lb)
 oc:w.ownsRow B 9 1 p.c1 p.lc.length (p.lc.map str)
 na:p.la.length≤900
 nb:p.lb.length≤900
 nc:p.lc.length≤900
 m0:1000≤p.mrk
 m1:p.mrk≤100000
 stl:p.st≤2
 ka:p.st=0→w.ownsRow B 71 2 p.a3 p.la.length (pcells p.la)
 kb:p.st=0→w.ownsRow B 115 2 p.b3 p.lb.length (wcells p.lb)
 kc:p.st=0→w.ownsRow B 9 1 p.c3 p.lc.length (p.lc.map str)
 fa:0<p.st→p.la=fulls fullP p.mrk p.la.length
 fb:0<p.st→p.lb=fulls fullW p.mrk p.lb.length
 fc:0<p.st→p.lc=fulls wordT p.mrk p.lc.length
 ga:p.st=2→w.ownsRow B 71 2 p.a2 (p.la.length+64) (pcells (p.la++tails fullP p.mrk 64))
 gb:p.st=2→w.ownsRow B 115 2 p.b2 (p.lb.length+64) (wcells (p.lb++tails fullW p.mrk 64))
 gc:p.st=2→w.ownsRow B 9 1 p.c2 (p.lc.length+64) ((p.lc++tails wordT p.mrk 64).map str)
 s2:SliceV p.a2∧SliceV p.b2∧SliceV p.c2
 s3:SliceV p.a3∧SliceV p.b3∧SliceV p.c3
def PgD.blk (p:PgD)(k:Nat):Prop:=(p.a1.ownBlock=some k∨p.b1.ownBlock=some k∨p.c1.ownBlock=some k)∨(p.st=0∧(p.a3.ownBlock=some k∨p.b3.ownBlock=some k∨p.c3.ownBlock=some k))∨(p.st=2∧(p.a2.ownBlock=some k∨p.b2.ownBlock=some k∨p.c2.ownBlock=some k))
section
variable {w w':World}{B:Nat}{Z:Nat→Prop}{p:PgD}
theorem PgD.ok.keep (h:p.ok w B) (hk:Keep Z w w') (hz:∀k,p.blk k→Z k):p.ok w' B:=
 ⟨own_keep h.oa hk λk e=>hz k (.inl (.inl e)),own_keep h.ob hk λk e=>hz k (.inl (.inr (.inl e))),own_keep h.oc hk λk e=>hz k (.inl (.inr (.inr e))),h.na,h.nb,h.nc,h.m0,h.m1,h.stl,
  λs=>own_keep (h.ka s) hk λk e=>hz k (.inr (.inl ⟨s,.inl e⟩)),λs=>own_keep (h.kb s) hk λk e=>hz k (.inr (.inl ⟨s,.inr (.inl e)⟩)),λs=>own_keep (h.kc s) hk λk e=>hz k (.inr (.inl ⟨s,.inr (.inr e)⟩)),h.fa,h.fb,h.fc,
  λs=>own_keep (h.ga s) hk λk e=>hz k (.inr (.inr ⟨s,.inl e⟩)),λs=>own_keep (h.gb s) hk λk e=>hz k (.inr (.inr ⟨s,.inr (.inl e)⟩)),λs=>own_keep (h.gc s) hk λk e=>hz k (.inr (.inr ⟨s,.inr (.inr e)⟩)),h.s2,h.s3⟩
theorem PgD.ok.bd (h:p.ok w B){k:Nat}(hk:p.blk k):B≤k∧k<w.heap.size:=by
 rcases hk with (e | e | e) | ⟨s,e | e | e⟩ | ⟨s,e | e | e⟩
 ·exact own_lt h.oa e
 ·exact own_lt h.ob e
 ·exact own_lt h.oc e
 ·exact own_lt (h.ka s) e
 ·exact own_lt (h.kb s) e
 ·exact own_lt (h.kc s) e
 ·exact own_lt (h.ga s) e
 ·exact own_lt (h.gb s) e
 ·exact own_lt (h.gc s) e
theorem PgD.ok.far (h:p.ok w B){g:Nat}{t:TypeId}{cs:Array Value}(hb:Blk w g t cs)(h1:71≠t)(h2:115≠t)(h3:9≠t):¬p.blk g:=by
 rintro ((e | e | e) | ⟨s,e | e | e⟩ | ⟨s,e | e | e⟩)
 ·exact own_ne_blk h.oa hb h1 e
 ·exact own_ne_blk h.ob hb h2 e
 ·exact own_ne_blk h.oc hb h3 e
 ·exact own_ne_blk (h.ka s) hb h1 e
 ·exact own_ne_blk (h.kb s) hb h2 e
 ·exact own_ne_blk (h.kc s) hb h3 e
 ·exact own_ne_blk (h.ga s) hb h1 e
 ·exact own_ne_blk (h.gb s) hb h2 e
 ·exact own_ne_blk (h.gc s) hb h3 e
theorem PgD.ok.slices (h:p.ok w B):∃A1 n1 c1 A2 n2 c2 A3 n3 c3 A4 n4 c4 A5 n5 c5 A6 n6 c6 A7 n7 c7 A8 n8 c8 A9 n9 c9,p.cells=(pgA A1 A2 A3 A4 A5 A6 A7 A8 A9 n1 c1 n2 c2 n3 c3 n4 c4 n5 c5 n6 c6 n7 c7 n8 c8 n9 c9 p.mrk p.done).toList:=by
 obtain⟨A1,c1,e1⟩:=own_form0 h.oa
 obtain⟨A4,c4,e4⟩:=own_form0 h.ob
 obtain⟨A7,c7,e7⟩:=own_form0 h.oc
 obtain⟨⟨A2,n2,c2,e2⟩,⟨A5,n5,c5,e5⟩,⟨A8,n8,c8,e8⟩⟩:=h.s2
 obtain⟨⟨A3,n3,c3,e3⟩,⟨A6,n6,c6,e6⟩,⟨A9,n9,c9,e9⟩⟩:=h.s3
 refine⟨A1,p.la.length,c1,A2,n2,c2,A3,n3,c3,A4,p.lb.length,c4,A5,n5,c5,A6,n6,c6,A7,p.lc.length,c7,A8,n8,c8,A9,n9,c9,?_⟩
 unfold PgD.cells
 rw[e1,e2,e3,e4,e5,e6,e7,e8,e9]
theorem own_pairC {n:Nat}{v:Value}{l:List (Txt×Txt)}(h:w.ownsRow B 71 2 v n (pcells l)){i:Nat}(hi:i<l.length):∃g c,v=.slice (some ⟨g,0,none⟩) n c∧w.cell? ⟨g,i*2,none⟩=some (str l[i].1)∧g<w.heap.size∧i<n:=by
 have hn:l.length=n:=by have:=h.1;rw[rcells_len (f:=pairC) (c:=2) (λ_=>rfl)] at this;omega
 obtain⟨g,c,hv,_,hg,_⟩:=own_nonnil h (by omega)
 refine⟨g,c,hv,?_,hg,by omega⟩
 have h1:=own_cell h (g:=g) (by rw[hv];rfl) (j:=i*2+0) (u:=str l[i].1) (by rw[rcells_get (f:=pairC) (c:=2) (λ_=>rfl) l i hi 0 (by omega)];rfl)
 exact h1
theorem own_waitC {n:Nat}{v:Value}{l:List (Int×Int)}(h:w.ownsRow B 115 2 v n (wcells l)){i:Nat}(hi:i<l.length):∃g c,v=.slice (some ⟨g,0,none⟩) n c∧w.cell? ⟨g,i*2,none⟩=some (.int .i64 l[i].1)∧g<w.heap.size∧i<n:=by
 have hn:l.length=n:=by have:=h.1;rw[rcells_len (f:=waitC) (c:=2) (λ_=>rfl)] at this;omega
 obtain⟨g,c,hv,_,hg,_⟩:=own_nonnil h (by omega)
 refine⟨g,c,hv,?_,hg,by omega⟩
 have h1:=own_cell h (g:=g) (by rw[hv];rfl) (j:=i*2+0) (u:=.int .i64 l[i].1) (by rw[rcells_get (f:=waitC) (c:=2) (λ_=>rfl) l i hi 0 (by omega)];rfl)
 exact h1
theorem own_nameC {n:Nat}{v:Value}{l:List Txt}(h:w.ownsRow B 9 1 v n (l.map str)){i:Nat}(hi:i<l.length):∃g c,v=.slice (some ⟨g,0,none⟩) n c∧w.cell? ⟨g,i,none⟩=some (str l[i])∧g<w.heap.size∧i<n:=by
 have hn:l.length=n:=by have:=h.1;simpa using this
 obtain⟨g,c,hv,_,hg,_⟩:=own_nonnil h (by omega)
 exact⟨g,c,hv,own_cell h (g:=g) (by rw[hv];rfl) (by simp[hi]),hg,by omega⟩
def mAt (mk:Int)(n i:Nat):Int:=if (i:Int)<(n:Int) then mk+(i:Int) else -mk - ((i:Int) - (n:Int))
theorem long_get {α:Type} {full:Int→α} {mk:Int} {l:List α} (h:l=fulls full mk l.length) {i:Nat} (hi:i<(l++tails full mk 64).length):(l++tails full mk 64)[i]=full (mAt mk l.length i):=by
 unfold mAt
 by_cases hlt:i<l.length
 ·rw[if_pos (by omega),List.getElem_append_left hlt]
  have e:∀ (l2:List α) (h2:l=l2) (h3:i<l2.length),l[i]=l2[i]:=λl2 h2 h3=>by subst h2;rfl
  rw[e _ h (by rw[fulls_len];exact hlt),fulls_get]
 ·rw[if_neg (by omega),List.getElem_append_right (by omega),tails_get]
  congr 1
  omega
theorem full_get {α:Type}{full:Int→α}{mk:Int}{l:List α}(h:l=fulls full mk l.length){i:Nat}(hi:i<l.length):l[i]=full (mk+(i:Int)):=by
 have e:∀ (l2:List α) (h2:l=l2) (h3:i<l2.length),l[i]=l2[i]:=λl2 h2 h3=>by subst h2;rfl
 rw[e _ h (by rw[fulls_len];exact hi),fulls_get]
end
section
variable {P:Program}{w:World}{t e:TypeId}{size bytes:Nat}{z:Value}
theorem run_app_keep (E:ET P t e size bytes z) (ty:TypeId) {base:Nat} {v:Value} {n:Nat} {xs:List Value} (hown:w.ownsRow base e size v n xs) {Z:Nat→Prop} {ad:Addr} {m c:Nat} {news:List Value} (hr:Rd w Z size (some ad) m news)
 (hm:0<m) (h1:∀u∈news,u.oneCell'=true) (hb:(n+m)*bytes≤140737488355328) (hbase:base≤w.heap.size) :
 ∃v' w',(Builtin.append_ #[t,t] ty #[v,.slice (some ad) m c]).run P w=.ok v' w'∧w'.ownsRow base e size v' (n+m) (xs++news)∧Keep (λk=>v.ownBlock≠some k) w w'∧((∃g cp,v=.slice (some ⟨g,0,none⟩) n cp∧v'=.slice (some ⟨g,0,none⟩) (n+m) cp)∨(v'.ownBlock=some w.heap.size∧Fresh w w')):=by
 obtain⟨v',w',hrun,h2,h3,h4⟩:=run_app E ty hown hr (λ_=>.inr (by simp)) h1 hb hbase
 refine⟨v',w',hrun,h2,h3,?_⟩
 obtain⟨i,hi,hz1,hz2,hz3⟩:=info_parts E.hi
 have hcells:∀j u,news[j]?=some u→w.cell? (ad.add j)=some u:=by
  intro j u hu
  obtain⟨b,o,h,_,hc⟩:=hr.2 hm
  injection h with h
  subst h
  have:=hc j u hu
  unfold Addr.add
  split
  ·rename_i hj;subst hj;simpa using this
  ·exact this
 rcases hown.2 with ⟨rfl,rfl⟩ | ⟨g,cap,cur,rfl,hbg,hg,hnc,hcm,hcs,htake⟩
 ·refine .inr ⟨?_,h3.weaken λk _ _=>by simp[Value.ownBlock]⟩
  rcases h4 with h | h
  ·obtain⟨g,cap,rfl,-⟩:=own_nonnil h2 (by omega)
   simp[Value.ownBlock] at h
  ·exact h
 ·by_cases hroom:n+m≤cap
  ·obtain⟨w2,hr2,ho2,_⟩:=run_append_own_spare (P:=P) w base t ty e i size E.ht hi hz2 g n cap xs hown ad m c news hr.1 hcells h1 hroom
   rw[hrun] at hr2
   injection hr2 with e1 e2
   subst e1 e2
   exact .inl ⟨g,cap,rfl,rfl⟩
  ·have h63:n+m≤(n+m)*bytes:=Nat.le_mul_of_pos_right _ E.hb
   have hr2:=run_append_grow (P:=P) w t ty e i z E.ht hi hz1 ⟨g,0,none⟩ n cap xs (by rw[hz2];exact hown.1) (hown.cells (g:=g) rfl) ad m c news (by rw[hz2];exact hr.1) hcells (by omega) (by omega) (by rw[hz3];exact growslice_fits (by omega) (by omega))
   rw[hrun] at hr2
   injection hr2 with e1 e2
   subst e1 e2
   exact .inr ⟨rfl,((krz (λ_=>True) w).drew).alloc _⟩
theorem step_app_keep (E:ET P t e size bytes z){ops:Array Oper}{o:Oper}{a:Act}{K:Act→World→Prop}{Q:Exit→Act→World→Prop}{Els:Prop}(hgd:o.guard=none)(s x:Operand)
 (ho:o.op=.call { callee:=.builtin .append,args:=#[s,x],argTypes:=#[t,t] })
 (base:Nat) (v:Value) (n:Nat) (xs:List Value) (hs:a.eval s=v) (hown:w.ownsRow base e size v n xs) (Z:Nat→Prop) (ad:Addr) (m c:Nat) (news:List Value) (hx:a.eval x=.slice (some ad) m c) (hr:Rd w Z size (some ad) m news)
 (hm:0<m) (h1:∀u∈news,u.oneCell'=true) (hb:(n+m)*bytes≤140737488355328) (hbase:base≤w.heap.size)
 (h:∀v' w',w'.ownsRow base e size v' (n+m) (xs++news)→Keep (λk=>v.ownBlock≠some k) w w'→((∃g cp,v=.slice (some ⟨g,0,none⟩) n cp∧v'=.slice (some ⟨g,0,none⟩) (n+m) cp)∨(v'.ownBlock=some w.heap.size∧Fresh w w'))→K (a.put o.dst v') w') :
 if Region.wanted o (yielded ops a.tmps)=true then Oper.wp P o a w K Q else Els:=by
 have hw:Region.wanted o (yielded ops a.tmps)=true:=by simp[Region.wanted,hgd]
 rw[if_pos hw]
 obtain⟨v',w',hrun,h2,h3,h4⟩:=run_app_keep E o.type (c:=c) hown hr hm h1 hb hbase
 unfold Oper.wp execOp
 simp only[ho,resolve,invoke,builtin,Sem.run_bind,Sem.run_pure,Result.andThen_ok,List.map_toArray,List.map_cons,List.map_nil,hs,hx,hrun]
 exact h v' w' h2 h3 h4
end
structure GrowAt (w0 wr:World)(B:Nat)(e:TypeId)(k:Nat)(v G:Value)(n j:Nat)(xs ys:List Value):Prop where
 own:wr.ownsRow B e k v n xs
 long:wr.ownsRow B e k G (n+j) (xs++ys)
 rel:(∃g cp,v=.slice (some ⟨g,0,none⟩) n cp∧G=.slice (some ⟨g,0,none⟩) (n+j) cp)∨(∃g,G.ownBlock=some g∧w0.heap.size≤g)∨(v=.slice none 0 0∧G=v)
section
variable {w0 wr w':World}{B:Nat}{e:TypeId}{k n j:Nat}{v G G':Value}{xs ys news:List Value}
theorem GrowAt.start (h:w0.ownsRow B e k v n xs):GrowAt w0 w0 B e k v v n 0 xs []:=by
 refine⟨h,by simpa using h,?_⟩
 rcases h.2 with ⟨rfl,rfl⟩ | ⟨g,cap,cur,rfl,_⟩
 ·exact .inr (.inr ⟨rfl,rfl⟩)
 ·exact .inl ⟨g,cap,rfl,rfl⟩
theorem GrowAt.keep {Z:Nat→Prop}(h:GrowAt w0 wr B e k v G n j xs ys)(hk:Keep Z wr w')(hv:∀i,v.ownBlock=some i→Z i)(hG:∀i,G.ownBlock=some i→Z i):GrowAt w0 w' B e k v G n j xs ys:=
 ⟨own_keep h.own hk hv,own_keep h.long hk hG,h.rel⟩
theorem GrowAt.next (h:GrowAt w0 wr B e k v G n j xs ys) (h0:∀i,v.ownBlock=some i→i<w0.heap.size) (hs:w0.heap.size≤wr.heap.size) (m:Nat) (ho:w'.ownsRow B e k G' (n+j+m) (xs++ys++news)) (hk:Keep (λi=>G.ownBlock≠some i) wr w')
 (hr:(∃g cp,G=.slice (some ⟨g,0,none⟩) (n+j) cp∧G'=.slice (some ⟨g,0,none⟩) (n+j+m) cp)∨(G'.ownBlock=some wr.heap.size∧Fresh wr w')):GrowAt w0 w' B e k v G' n (j+m) xs (ys++news):=by
 rw[Nat.add_assoc,List.append_assoc] at ho
 rcases hr with ⟨g,cp,e1,e2⟩ | ⟨e1,hf⟩
 ·rcases h.rel with ⟨g2,cp2,e3,e4⟩ | ⟨g2,e3,e4⟩ | ⟨e3,e4⟩
  ·rw[e4] at e1
   injection e1 with e5 _ e6
   injection e5 with e5
   injection e5 with e5
   subst e5 e6
   refine⟨?_,ho,.inl ⟨_,_,e3,by rw[e2,Nat.add_assoc]⟩⟩
   rw[e2,Nat.add_assoc] at ho
   rw[e3]
   exact own_cut ho h.own.1
  ·refine⟨own_keep h.own hk λi hi e5=>?_,ho,.inr (.inl ⟨g2,?_,e4⟩)⟩
   ·have:=h0 i hi
    rw[e3] at e5
    injection e5 with e5
    omega
   ·rw[e1] at e3
    rw[e2]
    exact e3
  ·rw[e4,e3] at e1
   cases e1
 ·exact⟨own_keep h.own hf λ_ _=>trivial,ho,.inr (.inl ⟨_,e1,hs⟩)⟩
theorem GrowAt.where (h:GrowAt w0 wr B e k v G n j xs ys) {i:Nat} (hi:G.ownBlock=some i):v.ownBlock=some i∨w0.heap.size≤i:=by
 rcases h.rel with ⟨g2,cp2,e3,e4⟩ | ⟨g2,e3,e4⟩ | ⟨e3,e4⟩
 ·rw[e4] at hi
  rw[e3]
  exact .inl hi
 ·rw[e3] at hi
  injection hi with hi
  exact .inr (by omega)
 ·rw[e4] at hi
  exact .inl hi
end
def set3 (cs:Array Value)(o:Nat)(a b c:Value):Array Value:=((cs.setIfInBounds (o+1) a).setIfInBounds (o+4) b).setIfInBounds (o+7) c
section
variable {cs:Array Value}{o:Nat}{a b c u:Value}
theorem set3_far {i:Nat}(h1:i≠o+1)(h2:i≠o+4)(h3:i≠o+7):(set3 cs o a b c)[i]?=cs[i]?:=by
 unfold set3
 rw[Array.getElem?_setIfInBounds_ne (by omega),Array.getElem?_setIfInBounds_ne (by omega),Array.getElem?_setIfInBounds_ne (by omega)]
theorem set3_at (h:o+7<cs.size):(set3 cs o a b c)[o+1]?=some a∧(set3 cs o a b c)[o+4]?=some b∧(set3 cs o a b c)[o+7]?=some c:=by
 unfold set3
 refine⟨?_,?_,?_⟩ <;> simp[Array.getElem?_setIfInBounds,show ¬(o+7=o+1) by omega,show ¬(o+4=o+1) by omega,show ¬(o+7=o+4) by omega] <;> omega
theorem set3_1:(set3 cs o a b c).setIfInBounds (o+1) u=set3 cs o u b c:=by
 unfold set3
 refine Array.ext_getElem? λi=>?_
 simp only[Array.getElem?_setIfInBounds,Array.size_setIfInBounds]
 by_cases h1:o+1=i <;> by_cases h2:o+4=i <;> by_cases h3:o+7=i <;> simp[h1,h2,h3] <;> omega
theorem set3_4:(set3 cs o a b c).setIfInBounds (o+4) u=set3 cs o a u c:=by
 unfold set3
 refine Array.ext_getElem? λi=>?_
 simp only[Array.getElem?_setIfInBounds,Array.size_setIfInBounds]
 by_cases h1:o+1=i <;> by_cases h2:o+4=i <;> by_cases h3:o+7=i <;> simp[h1,h2,h3] <;> omega
theorem set3_7:(set3 cs o a b c).setIfInBounds (o+7) u=set3 cs o a b u:=by
 unfold set3
 refine Array.ext_getElem? λi=>?_
 simp only[Array.getElem?_setIfInBounds,Array.size_setIfInBounds]
 by_cases h1:o+1=i <;> by_cases h2:o+4=i <;> by_cases h3:o+7=i <;> simp[h1,h2,h3] <;> omega
end
end Go.Proofs.YtlibhkehebioeaaGreatDoor
