/- A PART OF THE PROOF. No condition. -/
import Derived.Test.YtlibhkehebioeaaGreatDoorP7
import Derived.Test.YtlibhkehebioeaaGreatDoorP3
import Derived.Test.YtlibhkehebioeaaGreatDoorP0
namespace Go.Proofs.YtlibhkehebioeaaGreatDoor
set_option linter.unusedVariables false
set_option linter.unusedSimpArgs false
set_option maxRecDepth 100000
set_option maxHeartbeats 40000000
open Go.RowKit
def applyD (c i r o:Int)(k v d:Txt)(s:StD):ResD×StD:=if validB c i r o k v d=true then applyV numb Lib.itoa c i r o k v d s else (⟨10,[],0⟩,s)
theorem MSt.sess {S:Nat→Prop} {w:World} {m bp bl:Nat} {s:StD} (h:MSt S w m bp bl s) {q:Nat} (hq:q<16) (i r:Int) (R:ResD) :
 MSt S (((((w.setCell ⟨m,3+q*5,none⟩ (.int .i64 i)).setCell ⟨m,3+q*5+1,none⟩ (.int .i64 r)).setCell ⟨m,3+q*5+2,none⟩ (.int .i64 R.code)).setCell ⟨m,3+q*5+3,none⟩ (str R.val)).setCell ⟨m,3+q*5+4,none⟩ (.int .i64 R.n)) m bp bl { s with ss:=s.ss.set q ⟨i,r,R⟩ }:=by
 have hqs:q<s.ss.length:=by rw[h.len];exact hq
 have b5:=((((h.blk.set (3+q*5) (.int .i64 i)).set (3+q*5+1) (.int .i64 r)).set (3+q*5+2) (.int .i64 R.code)).set (3+q*5+3) (str R.val)).set (3+q*5+4) (.int .i64 R.n)
 rw[mcells_store hqs i r R] at b5
 have hk:Keep (λj=>j≠m) w (((((w.setCell ⟨m,3+q*5,none⟩ (.int .i64 i)).setCell ⟨m,3+q*5+1,none⟩ (.int .i64 r)).setCell ⟨m,3+q*5+2,none⟩ (.int .i64 R.code)).setCell ⟨m,3+q*5+3,none⟩ (str R.val)).setCell ⟨m,3+q*5+4,none⟩ (.int .i64 R.n)):=
  (((((krz _ w).setCell (λ_ h=>h rfl) _).setCell (λ_ h=>h rfl) _).setCell (λ_ h=>h rfl) _).setCell (λ_ h=>h rfl) _).setCell (λ_ h=>h rfl) _
 obtain⟨ms,hl⟩:=h.lk
 exact⟨b5,by simp[h.len],h.pm.keep hk (λe=>h.mp e.symm),⟨ms,hl.keep hk λj hj e=>h.nm (by rw[←e];exact hj)⟩,h.nm,h.nb⟩
theorem appl_any (S:Nat→Prop) (m bp bl:Nat) (s:StD) (c i r o:Int) (k v d:Txt) (w:World) (hm:MSt S w m bp bl s) (hi:LInv s.locks s.tok) (hp:PInv s.pairs) (hT:Tabs w) (hTk:∀w',Keep (λj=>j≠m∧j≠bp∧¬S j) w w'→Tabs w') :
 Calls Tryz.prog 17 #[.pointer (some ⟨m,0,none⟩),cmdV c i r o k v d] w (OpPost S m bp bl (applyD c i r o k v d s) w):=by
 obtain⟨X,hX⟩:=exz (applyD c i r o k v d s)
 rw[←hX]
 obtain⟨b,hb⟩:=exz (validB c i r o k v d)
 have HO:=hdz (op_at w c i r o k v d)
 obtain⟨G,hG⟩:=exz (w.heap.size)
 obtain⟨W,hW⟩:=exz ((w.alloc (.cells #[.int .i64 c,.int .i64 i,.int .i64 r,.int .i64 o,str k,str v,str d] 30)).alloc (.cells #[.int .i64 0,str [],.int .i64 0] 33))
 rw[←hW,←hG] at HO
 have HV:=valid_any c i r o k v d W (hT.fresh HO.out.fresh)
 rw[←hb] at HV
 replace HV:=hdz HV
 have hmt:=hm.tight
 have HA:=hdz (aiz hm (aiz hmt (aiz hX (aiz hi (aiz hp (aiz hb hTk))))))
 clear hT hTk hm hmt hX hi hp hb
 go_enter Tryz.func17,Tryz.ntmps17
 go_wp2_with fail
 simp only[←hG]
 rw[←hW]
 clear hW hG
 refine HV.out.mono ?_
 rintro e W1 ⟨rfl,f1⟩
 have hf1:=HO.out.fresh.trans f1
 have hbx1:=HO.out.cmd.keep f1 trivial
 have hbr1:=HO.out.res.keep f1 trivial
 have hm1:=HA.out.2.1.fresh hf1
 cases b
 ·obtain⟨r0,r1,r2,s0,s1,s2,rl⟩:=res_facts hbr1
  have H1:=hdz (aiz hf1 (aiz hbr1 hm1))
  clear hf1 hbx1 hbr1 hm1 f1 HV
  go_wp2_with fail
  obtain⟨hm,hmt,hX,hi,hp,hb,hTk⟩:=HA.out
  obtain⟨hf1,hbr1,hm1⟩:=H1.out
  have e:X=(⟨10,[],0⟩,s):=by rw[hX];unfold applyD;rw[←hb];simp
  rw[e]
  exact op_ret rfl rfl rfl hm1 (λj h=>.inl h.1) hm.blk.lt hm.pm.lt hm.nm hm.nb hbr1 (by have:=HO.out.sz;omega) (hf1.weaken λ_ _ _=>trivial)
 ·have hV:=vcmd_of HA.out.2.2.2.2.2.1.symm
  obtain⟨q,rfl⟩:∃q:Nat,c=(q:Int):=⟨c.toNat,by have:=hV.c0;omega⟩
  have hq16:q<16:=by have:=hV.c1;omega
  have hqi:(q:Int)<16:=by omega
  have hz0:=hm1.ses hq16 0 (by omega)
  have hz1:=hm1.ses hq16 1 (by omega)
  have hz2:=hm1.ses hq16 2 (by omega)
  have hz3:=hm1.ses hq16 3 (by omega)
  have hz4:=hm1.ses hq16 4 (by omega)
  obtain⟨z,hz⟩:=exz (s.ss.getD q noSes)
  rw[←hz] at hz0 hz1 hz2 hz3 hz4
  simp[MSess.cells] at hz0 hz1 hz2 hz3 hz4
  obtain⟨si,hsi⟩:=exz (z.inc)
  obtain⟨sr,hsr⟩:=exz (z.req)
  obtain⟨sc,hsc⟩:=exz (z.last.code)
  obtain⟨sv,hsv⟩:=exz (z.last.val)
  obtain⟨sn,hsn⟩:=exz (z.last.n)
  rw[←hsi] at hz0
  rw[←hsr] at hz1
  rw[←hsc] at hz2
  rw[←hsv] at hz3
  rw[←hsn] at hz4
  have k0:=hbx1.cell 0
  have k1:=hbx1.cell 1
  have k2:=hbx1.cell 2
  have k3:=hbx1.cell 3
  simp at k0 k1 k2 k3
  have xl:=hbx1.lt
  have ml:=hm1.blk.lt
  have HX:Hid (∀R,z=⟨si,sr,⟨sc,sv,sn⟩⟩∧(i<si∨(si=i∧r<sr)→R=(⟨9,[],0⟩,s)→X=R)∧(si=i∧sr=r→R=(⟨sc,sv,sn⟩,s)→X=R) ∧
   (¬(i<si∨(si=i∧r<sr))→¬(si=i∧sr=r)→∀s1 x,s1=(if 0<si∧si<i then (letsD (q:Int) s).2 else s)→x=doesD numb Lib.itoa (q:Int) o k v d s1→R=(x.1,{ x.2 with ss:=x.2.ss.set q ⟨i,r,x.1⟩ })→X=R)):=hdz λR=>by
   have e1:z=⟨si,sr,⟨sc,sv,sn⟩⟩:=by rw[hsi,hsr,hsc,hsv,hsn]
   have e2:X=applyV numb Lib.itoa (q:Int) i r o k v d s:=by rw[HA.out.2.2.1];unfold applyD;rw[←HA.out.2.2.2.2.2.1];simp
   refine⟨e1,λh h2=>?_,λh h2=>?_,λh h2 s1 x h3 h4 h5=>?_⟩
   ·rw[h2,e2]
    unfold applyV
    rw[show ((q:Int)).toNat=q by omega,←hz,e1]
    simp only
    rw[if_pos (by rcases h with h | h;exact .inl h;exact .inr h)]
   ·rw[h2,e2]
    unfold applyV
    rw[show ((q:Int)).toNat=q by omega,←hz,e1]
    simp only
    rw[if_neg (by omega),if_pos h]
   ·rw[h5,h4,h3,e2]
    unfold applyV
    rw[show ((q:Int)).toNat=q by omega,←hz,e1]
    simp only
    rw[if_neg h,if_neg h2]
  obtain⟨r0,r1,r2,t0,t1,t2,rl⟩:=res_facts hbr1
  have H1:=hdz (aiz hf1 (aiz hbx1 (aiz hbr1 (aiz hm1 hV))))
  clear hf1 hbx1 hbr1 hm1 f1 HV hV hz hsi hsr hsc hsv hsn
  by_cases hD:¬(i<si∨(si=i∧r<sr))∧¬(si=i∧sr=r)
  ·obtain⟨s1,hs1⟩:=exz (if 0<si∧si<i then (letsD (q:Int) s).2 else s)
   have HS1:=hdz hs1
   have HL:=hdz (λn=>lets_any (λj=>S j∧j<w.heap.size) m bp bl s (q:Int) (W1.drewN n) (H1.out.2.2.2.1.fresh ((krz _ W1).drewN n)) HA.out.2.2.2.1)
   have HD:=hdz hD
   clear hs1 hD
   go_wp2_with fail
   go_quiet (fail)
   go_upto_block 0 with (fail)
   go_cut [] (λwx=>Hid (MSt (λj=>(S j∧j<w.heap.size)∨W1.heap.size≤j) wx m bp bl s1∧Keep (λj=>j≠m∧¬(S j∧j<w.heap.size)) W1 wx))
   case first=>
    have HN:Hid (∀wx,Fresh W1 wx→s1=s→Hid (MSt (λj=>(S j∧j<w.heap.size)∨W1.heap.size≤j) wx m bp bl s1∧Keep (λj=>j≠m∧¬(S j∧j<w.heap.size)) W1 wx)):=hdz λwx hf e=>by
     rw[e]
     have hm1:=H1.out.2.2.2.1
     have hml:=HA.out.1.blk.lt
     have hbl:=HA.out.1.pm.lt
     have hz:=H1.out.1.size
     exact hdz ⟨(hm1.fresh hf).widen (λj h=>.inl h) (λh=>h.elim hm1.nm λh=>by omega) (λh=>h.elim hm1.nb λh=>by omega),hf.weaken λ_ _ _=>trivial⟩
    by_cases hE:si=i
    ·subst hE
     have g1:decide (si<si)=false:=by simp
     have g2:(si==si)=true:=by simp
     have g3:decide (r<sr)=false:=by have:=HD.out;simp;omega
     have g4:(sr==r)=false:=by have:=HD.out;simp;omega
     have hi1:=H1.out.2.2.2.2.i0
     have g5:decide (0<si)=true:=by simp;omega
     go_wp2_with fail
     go_quiet (fail)
     go_wp2_with fail
     go_quiet (fail)
     go_wp2_with fail
     go_quiet (fail)
     go_wp2_with fail
     go_meet
     exact HN.out _ ((((((krz _ W1).drewN _).drewN _).drewN _).drewN _)) (by rw[HS1.out];simp)
    ·have g1:decide (i<si)=false:=by have:=HD.out;simp;omega
     have g2:(si==i)=false:=by simp;omega
     have g3:decide (si<i)=true:=by have:=HD.out;simp;omega
     by_cases h0:0<si
     ·have g4:decide (0<si)=true:=by simp;omega
      go_wp2_with fail
      go_quiet (fail)
      go_wp2_with fail
      go_quiet (fail)
      go_wp2_with fail
      go_quiet (fail)
      go_wp2_with fail
      refine (HL.out _).mono ?_
      rintro e w9 ⟨rfl,hm9,hk9⟩
      have H9:=hdz (aiz hm9 hk9)
      clear hm9 hk9
      go_wp2_with fail
      go_meet
      have e:s1=(letsD (q:Int) s).2:=by rw[HS1.out,if_pos ⟨h0,by have:=HD.out;omega⟩]
      rw[e]
      exact hdz ⟨H9.out.1,(((krz (λ_=>True) W1).drewN _).weaken (λ_ _ _=>trivial)).trans H9.out.2⟩
     ·have g4:decide (0<si)=false:=by simp;omega
      go_wp2_with fail
      go_quiet (fail)
      go_wp2_with fail
      go_quiet (fail)
      go_wp2_with fail
      go_quiet (fail)
      go_wp2_with fail
      go_meet
      exact HN.out _ ((((((krz _ W1).drewN _).drewN _).drewN _).drewN _)) (by rw[HS1.out,if_neg (by omega)])
   case rest=>
    rename World=>W2
    have HF:=hdz hcut
    clear hcut
    obtain⟨hf1,hbx1,hbr1,hm1,hV⟩:=H1.out
    obtain⟨hm2,hk2⟩:=HF.out.out
    have hz1:=hf1.size
    have hz2:=hk2.size
    have hsz:=HO.out.sz
    have hrl:=hbr1.lt
    have hml:=HA.out.1.blk.lt
    have hbl:=HA.out.1.pm.lt
    have hbG:G≠m∧¬(S G∧G<w.heap.size):=⟨by omega,λh=>by omega⟩
    have hbR:G+1≠m∧¬(S (G+1)∧G+1<w.heap.size):=⟨by omega,λh=>by omega⟩
    have hbx2:=hbx1.keep hk2 hbG
    have hbr2:=hbr1.keep hk2 hbR
    have hi1:LInv s1.locks s1.tok:=by
     rw[HS1.out]
     split
     ·exact HA.out.2.2.2.1.lets _
     ·exact HA.out.2.2.2.1
    have hp1:PInv s1.pairs:=by
     rw[HS1.out]
     split
     ·rw[(lets_rest _ _).1];exact HA.out.2.2.2.2.1
     ·exact HA.out.2.2.2.2.1
    have hkW:Keep (λj=>j≠m∧j≠bp∧¬S j) w W2:=hf1.comp hk2 (λ_ _ _=>trivial) (λ_ _ h=>⟨h.1,λe=>h.2.2 e.1⟩)
    have hT2:=HA.out.2.2.2.2.2.2 W2 hkW
    obtain⟨S3,hS3⟩:∃S3:Nat→Prop,S3=λj=>((S j∧j<w.heap.size)∨W1.heap.size≤j)∧j<W2.heap.size:=⟨_,rfl⟩
    have hm3:MSt S3 W2 m bp bl s1:=hS3 ▸ hm2.tight
    have hS3b:∀j,S3 j→j<W2.heap.size:=λj h=>by rw[hS3] at h;exact h.2
    have hS3S:∀j,S3 j→S j∨w.heap.size≤j:=λj h=>by
     rw[hS3] at h
     rcases h.1 with h | h
     ·exact .inl h.1
     ·exact .inr (by omega)
    have hG3:¬S3 G∧¬S3 (G+1):=by
     rw[hS3]
     constructor
     ·rintro ⟨h | h,-⟩ <;> omega
     ·rintro ⟨h | h,-⟩ <;> omega
    have hGb:G≠bp∧G+1≠bp:=by constructor <;> omega
    clear hS3
    obtain⟨R,hR⟩:=exz ((doesD numb Lib.itoa (q:Int) o k v d s1).1)
    obtain⟨s2,hs2⟩:=exz ((doesD numb Lib.itoa (q:Int) o k v d s1).2)
    have HC:Hid (∀X,Fresh W2 X→Calls Tryz.prog (opFn o) #[.pointer (some ⟨m,0,none⟩),cmdV (q:Int) i r o k v d] X λe w'=>e=.returned (resV R)∧MSt (λj=>S3 j∨W2.heap.size≤j) w' m bp bl s2∧Keep (λj=>j≠m∧j≠bp∧¬S3 j) X w'∧Keep (λj=>j≠m∧j≠bp∧¬S3 j) W2 w'):=hdz λX hX=>by
     refine (op_does S3 m bp bl s1 (q:Int) i r o k v d X (hm3.fresh hX) hi1 hp1 (hT2.fresh hX) hV).mono ?_
     rintro e w' ⟨h2,h3,h4⟩
     rw[hR,hs2]
     have hz:=hX.size
     have:=hm3.blk.lt
     have:=hm3.pm.lt
     exact⟨h2,h3.widen (λj h=>h.elim .inl λh=>.inr (by omega)) (λh=>h.elim hm3.nm λh=>by omega) (λh=>h.elim hm3.nb λh=>by omega),h4,(hX.weaken (λ_ _ _=>trivial)).trans h4⟩
    have HCa:=hdz (fun (wq:World) (fq:Fresh W2.drew wq) (ob:Obj)=>HC.out (wq.alloc ob) ((((krz _ W2).drew).trans fq).alloc ob))
    have HCb:=hdz (fun (wq:World) (fq:Fresh W2.drew wq)=>HC.out wq (((krz _ W2).drew).trans fq))
    have HCc:=hdz (fun (wq:World) (ob:Obj) (fq:Fresh (World.drew (W2.alloc ob)) wq)=>HC.out wq ((((krz _ W2).alloc ob).drew).trans fq))
    clear HC
    have HO2:=hdz (λw=>opOf_all hV.o1 hV.o9 w)
    have hm3l:=hm3.blk.lt
    have hb3l:=hm3.pm.lt
    have hZ:∀g,W2.heap.size≤g→g≠m∧g≠bp∧¬S3 g:=λg hg=>⟨by omega,by omega,λh=>by have:=hS3b g h;omega⟩
    have HZ3:=hdz hZ
    have HK:Hid (∀w',Keep (λj=>j≠m∧j≠bp∧¬S3 j) W2 w'→Keep (λj=>j≠m∧j≠bp∧¬S3 j) W2 w'∧w'.cell? ⟨G,0,none⟩=some (.int .i64 (q:Int))∧w'.cell? ⟨G,1,none⟩=some (.int .i64 i)∧w'.cell? ⟨G,2,none⟩=some (.int .i64 r)∧w'.cell? ⟨G,3,none⟩=some (.int .i64 o)∧w'.cell? ⟨G,4,none⟩=some (str k)∧w'.cell? ⟨G,5,none⟩=some (str v)∧w'.cell? ⟨G,6,none⟩=some (str d)):=hdz λw' hk=>by
     have hb:=hbx2.keep hk ⟨hbG.1,hGb.1,hG3.1⟩
     have q0:=hb.cell 0
     have q1:=hb.cell 1
     have q2:=hb.cell 2
     have q3:=hb.cell 3
     have q4:=hb.cell 4
     have q5:=hb.cell 5
     have q6:=hb.cell 6
     simp at q0 q1 q2 q3 q4 q5 q6
     exact⟨hk,q0,q1,q2,q3,q4,q5,q6⟩
    have xl2:=hbx2.lt
    have H2:=hdz (aiz hbx2 (aiz hbr2 (aiz hkW (aiz hS3S (aiz hG3 (aiz hGb (aiz hR (aiz hs2 hm3))))))))
    obtain⟨F,hF⟩:=exz (opFn o)
    rw[←hF] at HCa HCb HCc HO2
    have hFF:F=73∨F=74∨F=75∨F=76∨F=77∨F=78∨F=79∨F=80∨F=81:=by
     rw[hF]
     rcases op_nine hV.o1 hV.o9 with rfl | rfl | rfl | rfl | rfl | rfl | rfl | rfl | rfl <;> simp[opFn]
    have hfld:∀ (f:Nat) (w:World),(Instr.field 110 (.agg #[.func (Fn.func f) #[] #[]]) 0).run Tryz.prog w=.ok (.func (Fn.func f) #[] #[]) w:=λf w=>by rfl
    clear hsz hf1 hbx1 hbr1 hm1 hV hm2 hk2 hbx2 hbr2 hi1 hp1 hkW hT2 hm3 hS3b hS3S hG3 hGb hR hs2 hZ hF hbG hbR hz0 hz1 hz2 hz3 hz4 hrl k0 k1 k2 k3 r0 r1 r2 t0 t1 t2
    have HZ:Hid (∀wx g,Keep (λj=>j≠m∧j≠bp∧¬S3 j) W2 wx→Blk wx g 33 (resA R)→MSt (λj=>S3 j∨W2.heap.size≤j) wx m bp bl s2→W2.heap.size≤g →
     ∃g':Nat,(.pointer (some ⟨g,0,none⟩):Value)=.pointer (some ⟨g',0,none⟩)∧Hid (Blk wx g' 33 (resA R)∧MSt (λj=>S3 j∨W2.heap.size≤j) wx m bp bl s2∧Keep (λj=>j≠m∧j≠bp∧¬S3 j) W2 wx∧W2.heap.size≤g')):=hdz λwx g h1 h2 h3 h4=>⟨g,rfl,h2,h3,h1,h4⟩
    go_upto_region 10 with (fail)
    go_cut [6] (λs6 wx=>∃g:Nat,s6=.pointer (some ⟨g,0,none⟩)∧Hid (Blk wx g 33 (resA R)∧MSt (λj=>S3 j∨W2.heap.size≤j) wx m bp bl s2∧Keep (λj=>j≠m∧j≠bp∧¬S3 j) W2 wx∧W2.heap.size≤g))
    case first=>
     rcases hFF with rfl | rfl | rfl | rfl | rfl | rfl | rfl | rfl | rfl
     all_goals
      go_region_held3 (λw'=>Keep (λj=>j≠m∧j≠bp∧¬S3 j) W2 w'∧w'.cell? ⟨G,0,none⟩=some (.int .i64 (q:Int))∧w'.cell? ⟨G,1,none⟩=some (.int .i64 i)∧w'.cell? ⟨G,2,none⟩=some (.int .i64 r)∧w'.cell? ⟨G,3,none⟩=some (.int .i64 o)∧w'.cell? ⟨G,4,none⟩=some (str k)∧w'.cell? ⟨G,5,none⟩=some (str v)∧w'.cell? ⟨G,6,none⟩=some (str d))
       (first | exact HK.out _ ((krz _ W2).drew) | exact HK.out _ (Keep.alloc (And.left (by assumption)) _) | exact HK.out _ (Keep.trans (And.left (by assumption)) (Keep.weaken fqa (λ_ _ _=>trivial))) | exact HK.out _ (Keep.trans (And.left (by assumption)) (Keep.weaken fqb (λ_ _ _=>trivial))) | exact HK.out _ hb3 | exact HK.out _ (Keep.alloc hb3 _) | exact HK.out _ (Keep.setCell (Keep.setCell (Keep.setCell hb3 hg _) hg _) hg _))
       (first
        | (go_at_call 44;with_reducible refine Calls.mono (HO2.out (World.drew W2)) ?_;rintro e wq ⟨rfl,fqa⟩)
        | (go_at_call 44;with_reducible refine Calls.mono (HO2.out (World.drew (World.alloc W2 (.cells #[.int .i64 0,str [],.int .i64 0] 33)))) ?_;rintro e wq ⟨rfl,fqb⟩)
        | (with_reducible show Calls _ _ _ _ _;with_reducible have hcc:=HCa.out _ fqa (.cells #[.int .i64 0,str [],.int .i64 0] 33);with_reducible refine Calls.mono hcc ?_;clear hcc;rintro e wb ⟨rfl,hb1,hb2,hb3⟩
           have bb:Blk wb wq.heap.size 33 #[.int .i64 0,str [],.int .i64 0]:=Blk.keep (Blk.new wq _ _) hb2 (HZ3.out _ fqa.size)
           have hg:wq.heap.size<W2.heap.size→¬(wq.heap.size≠m∧wq.heap.size≠bp∧¬S3 wq.heap.size):=by have h1:=fqa.size;have h2:W2.drew.heap.size=W2.heap.size:=rfl;omega
           have bk:=hdz (aiz bb hg)
           have r0:=bb.cell 0;have r1:=bb.cell 1;have r2:=bb.cell 2
           have e0:=bb.frozen 0;have e1:=bb.frozen 1;have e2:=bb.frozen 2
           have rl:=bb.lt
           simp at r0 r1 r2)
        | (with_reducible show Calls _ _ _ _ _;with_reducible have hcc:=HCb.out _ fqa;with_reducible refine Calls.mono hcc ?_;clear hcc;rintro e wb ⟨rfl,hb1,hb2,hb3⟩)
        | (with_reducible show Calls _ _ _ _ _;with_reducible have hcc:=HCc.out _ _ fqb;with_reducible refine Calls.mono hcc ?_;clear hcc;rintro e wb ⟨rfl,hb1,hb2,hb3⟩
           have bb:Blk wb W2.heap.size 33 #[.int .i64 0,str [],.int .i64 0]:=Blk.keep (Blk.keep (Blk.new W2 _ _).drew fqb trivial) hb2 (HZ3.out _ (lrz _))
           have hg:W2.heap.size<W2.heap.size→¬(W2.heap.size≠m∧W2.heap.size≠bp∧¬S3 W2.heap.size):=by omega
           have r0:=bb.cell 0;have r1:=bb.cell 1;have r2:=bb.cell 2
           have e0:=bb.frozen 0;have e1:=bb.frozen 1;have e2:=bb.frozen 2
           have rl:=bb.lt
           simp at r0 r1 r2))
      all_goals go_wp2_with fail
      all_goals go_meet
      ·exact HZ.out _ _ (Keep.alloc hb3 _) (Blk.new _ _ _) (hb1.fresh ((krz _ _).alloc _)) hb3.size
      ·have hk:=res_keep hb3 hg R
       have hb:=res_blk (R0:=⟨0,[],0⟩) bb R
       have hm:=hb1.other bb (by decide) (by decide) (by decide) (res_keep (krz (λj=>j≠wq.heap.size) wb) (λ_ h=>h rfl) R)
       exact HZ.out _ _ hk hb hm fqa.size
      ·have hk:=res_keep hb3 hg R
       have hb:=res_blk (R0:=⟨0,[],0⟩) bb R
       have hm:=hb1.other bb (by decide) (by decide) (by decide) (res_keep (krz (λj=>j≠W2.heap.size) wb) (λ_ h=>h rfl) R)
       exact HZ.out _ _ hk hb hm (lrz _)
    case rest=>
     rename World=>W3
     obtain⟨g,rfl,hcut⟩:=hcut
     obtain⟨hbg,hm3,hk3,hge⟩:=hcut.out
     obtain⟨hbx2,hbr2,hkW,hS3S,hG3,hGb,hR,hs2,-⟩:=H2.out
     have hsz:=HO.out.sz
     have hrl2:=hbr2.lt
     have hbx3:=hbx2.keep hk3 ⟨by omega,hGb.1,hG3.1⟩
     have hbr3:=hbr2.keep hk3 ⟨by omega,hGb.2,hG3.2⟩
     have hkW3:Keep (λj=>j≠m∧j≠bp∧¬S j) w W3:=hkW.comp hk3 (λ_ _ h=>h) (λj hj h=>⟨h.1,h.2.1,λe=>(hS3S j e).elim h.2.2 λh2=>by omega⟩)
     have k1:=hbx3.cell 1
     have k2:=hbx3.cell 2
     have xl3:=hbx3.lt
     have gl:=hbg.lt
     have c0:=hbg.cell 0
     have c1:=hbg.cell 1
     have c2:=hbg.cell 2
     simp at k1 k2 c0 c1 c2
     obtain⟨r0,r1,r2,t0,t1,t2,rl3⟩:=res_facts hbr3
     have ml3:=hm3.blk.lt
     have m0:=hm3.blk.frozen (3+q*5)
     have m1:=hm3.blk.frozen (3+q*5+1)
     have m2:=hm3.blk.frozen (3+q*5+2)
     have m3:=hm3.blk.frozen (3+q*5+3)
     have m4:=hm3.blk.frozen (3+q*5+4)
     have n0:=hm3.ses hq16 0 (by omega)
     have n1:=hm3.ses hq16 1 (by omega)
     have n2:=hm3.ses hq16 2 (by omega)
     have n3:=hm3.ses hq16 3 (by omega)
     have n4:=hm3.ses hq16 4 (by omega)
     generalize s2.ss.getD q noSes=z2 at n0 n1 n2 n3 n4
     simp[MSess.cells] at n0 n1 n2 n3 n4
     have x1:m≠g:=by omega
     have x2:m≠G+1:=by omega
     have x3:g≠G+1:=by omega
     have x4:g≠m:=by omega
     have x5:G+1≠m:=by omega
     have x6:G+1≠g:=by omega
     have e:=(HX.out (R,{ s2 with ss:=s2.ss.set q ⟨i,r,R⟩ })).2.2.2 HD.out.1 HD.out.2 s1 _ HS1.out rfl (by rw[hR,hs2])
     have HB:=hdz (aiz hm3 (aiz hkW3 (aiz hbr3 (aiz e (aiz hS3S hge)))))
     clear hbg hm3 hk3 hge hbx2 hbr2 hkW hS3S hG3 hGb hR hs2 hbx3 hbr3 hkW3 hsz e
     go_wp2_with fail
     obtain⟨hm3,hkW3,hbr3,e,hS3S,hge⟩:=HB.out
     obtain⟨hm,hmt,hX,hi,hp,hb,hTk⟩:=HA.out
     have hsz:=HO.out.sz
     rw[e]
     have hk5:Keep (λj=>j≠m) W3 (((((W3.setCell ⟨m,3+q*5,none⟩ (.int .i64 i)).setCell ⟨m,3+q*5+1,none⟩ (.int .i64 r)).setCell ⟨m,3+q*5+2,none⟩ (.int .i64 R.code)).setCell ⟨m,3+q*5+3,none⟩ (str R.val)).setCell ⟨m,3+q*5+4,none⟩ (.int .i64 R.n)):=
      (((((krz _ W3).setCell (λ_ h=>h rfl) _).setCell (λ_ h=>h rfl) _).setCell (λ_ h=>h rfl) _).setCell (λ_ h=>h rfl) _).setCell (λ_ h=>h rfl) _
     exact op_ret rfl rfl rfl (hm3.sess hq16 i r R) (λj h=>h.elim (hS3S j) λh=>.inr (by have:=HF.out.out.2.size;have:=H1.out.1.size;omega)) hml hbl hm.nm hm.nb (hbr3.keep hk5 x5) (by omega) (hkW3.comp hk5 (λ_ _ h=>h) (λ_ _ h=>h.1))
  ·by_cases hA:i<si
   ·have g1:decide (i<si)=true:=by simp;omega
    go_wp2_with fail
    go_quiet (fail)
    go_wp2_with fail
    go_quiet (fail)
    go_wp2_with fail
    obtain⟨hm,hmt,hX,hi,hp,hb,hTk⟩:=HA.out
    obtain⟨hf1,hbx1,hbr1,hm1,-⟩:=H1.out
    have e:=(HX.out _).2.1 (.inl hA) rfl
    rw[e]
    have hQ:∀n,Fresh W1 (W1.drewN n):=λn=>(krz _ W1).drewN n
    exact op_ret rfl rfl rfl (hm1.fresh (hQ _)) (λj h=>.inl h.1) hm.blk.lt hm.pm.lt hm.nm hm.nb (hbr1.keep (hQ _) trivial) (by have:=HO.out.sz;omega) ((hf1.trans (hQ _)).weaken λ_ _ _=>trivial)
   ·have g1:decide (i<si)=false:=by simp;omega
    by_cases hE:si=i
    ·subst hE
     have g2:(si==si)=true:=by simp
     by_cases hB:r<sr
     ·have g3:decide (r<sr)=true:=by simp;omega
      go_wp2_with fail
      go_quiet (fail)
      go_wp2_with fail
      go_quiet (fail)
      go_wp2_with fail
      obtain⟨hm,hmt,hX,hi,hp,hb,hTk⟩:=HA.out
      obtain⟨hf1,hbx1,hbr1,hm1,-⟩:=H1.out
      have e:=(HX.out _).2.1 (.inr (by first | exact⟨rfl,hB⟩ | exact⟨trivial,hB⟩)) rfl
      rw[e]
      have hQ:∀n,Fresh W1 (W1.drewN n):=λn=>(krz _ W1).drewN n
      exact op_ret rfl rfl rfl (hm1.fresh (hQ _)) (λj h=>.inl h.1) hm.blk.lt hm.pm.lt hm.nm hm.nb (hbr1.keep (hQ _) trivial) (by have:=HO.out.sz;omega) ((hf1.trans (hQ _)).weaken λ_ _ _=>trivial)
     ·have g3:decide (r<sr)=false:=by simp;omega
      by_cases hC:sr=r
      ·subst hC
       have g4:(sr==sr)=true:=by simp
       go_wp2_with fail
       go_quiet (fail)
       go_wp2_with fail
       go_quiet (fail)
       go_wp2_with fail
       go_quiet (fail)
       go_wp2_with fail
       obtain⟨hm,hmt,hX,hi,hp,hb,hTk⟩:=HA.out
       obtain⟨hf1,hbx1,hbr1,hm1,-⟩:=H1.out
       have e:=(HX.out _).2.2.1 (by simp) rfl
       rw[e]
       have hQ:∀n,Fresh W1 (W1.drewN n):=λn=>(krz _ W1).drewN n
       exact op_ret rfl rfl rfl (hm1.fresh (hQ _)) (λj h=>.inl h.1) hm.blk.lt hm.pm.lt hm.nm hm.nb (hbr1.keep (hQ _) trivial) (by have:=HO.out.sz;omega) ((hf1.trans (hQ _)).weaken λ_ _ _=>trivial)
      ·exact absurd ⟨by omega,by omega⟩ hD
    ·exact absurd ⟨by omega,by omega⟩ hD
end Go.Proofs.YtlibhkehebioeaaGreatDoor
