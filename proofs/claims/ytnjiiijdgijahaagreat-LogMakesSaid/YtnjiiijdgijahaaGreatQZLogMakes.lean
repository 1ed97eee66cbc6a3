/- The row of the law LogMakes: for every input the law returns true, and its arguments read as they did. (Merged and shortened by program: LLogMakes ZLogMakes.) -/
import Derived.Test.YtnjiiijdgijahaaGreatQ6
import Derived.Test.YtnjiiijdgijahaaGreatRows
import Derived.WalkKit
set_option linter.unusedVariables false
set_option linter.unusedSimpArgs false
set_option maxRecDepth 20000
namespace Go.Den
theorem log_Make_refused {F X:Nat→Prop} {w:World} {p:Nat} {c:Chip} (h:CX F X w p c) (hnb:c.nb<20) {era:Nat} (hd:c.dead=false) (hr:era=0∨((ownL era (takenPool (scanPool c) c)).any fun t=> !t.bad)=true) :
  CallsR prog K.log_Make #[.pointer (some ⟨p,0,none⟩),.int .u32 era] w fun v w'=>v= .tuple #[.pointer none,.int .i64 2]∧Ext w w':=by
 apply log_Make.sh
 suffices H:∀ R:Value→World→Prop,(∀ v w',v= .tuple #[.pointer none,.int .i64 2]∧Ext w w'→R v w')→log_Make.body (some ⟨p,0,none⟩) era w R from H _ fun _ _ h=>h
 intro R hR
 unfold log_Make.body
 refine (log_begin_spec h hnb era).mono ?_
 rintro _ w1 ⟨he1,hv⟩
 rw [if_neg (by rw [hd];decide)] at hv
 by_cases he0:era=0
 ·rw [if_pos he0] at hv
  subst hv
  exact ⟨_,_,_,_,_,rfl,br_ne (fun _=>hR _ _ ⟨rfl,he1⟩) fun h=>by cases h⟩
 rw [if_neg he0] at hv
 have hany:=hr.resolve_left he0
 obtain ⟨M,a,cap,hMp,rfl,hp,ho,hf⟩:=hv
 have hown:(ownL era (takenPool (scanPool c) c)).length≤20:=by
  have h1:(takenPool (scanPool c) c).length≤20:=by
   unfold takenPool
   rw [isort_length]
   have:=takenRaw_length (scanPool c) c c.nb
   omega
  exact Nat.le_trans (List.length_filter_le _ _) h1
 refine ⟨_,_,_,_,_,rfl,br_ne (fun h=>absurd rfl h) fun _=>(slices_ContainsFunc_Taken_spec ho.row (by omega)).mono ?_⟩
 rintro _ w2 ⟨rfl,he2⟩
 refine ⟨_,rfl,br_intro (fun _=>hR _ _ ⟨rfl,he1.trans he2⟩) fun h=>?_⟩
 rw [hany] at h;cases h
theorem carracklaw14_LogMakes_spec {w:World} {ac:Option Addr} {cc:Nat} {chg:List Change} (hch:SliceAt changeR w (fun b=>b<w.heap.size) ac chg) (hfc:FitsC chg) (hsc:Small chg) (er:UInt8) {am:Option Addr} {cm:Nat} {mask:List UInt8} (hmk:BytesAt w am mask) (hml:mask.length≤140737488355232) :
  CallsR prog K.carracklaw14_LogMakes #[.slice ac chg.length cc,bv er,.slice am mask.length cm] w fun v w'=>v= .bool true∧Ext w w':=by
 apply carracklaw14_LogMakes.sh
 suffices H:∀ R:Value→World→Prop,(∀ v w',v= .bool true∧Ext w w'→R v w')→carracklaw14_LogMakes.body ac chg.length cc er.toNat am mask.length cm w R from H _ fun _ _ h=>h
 intro R hR
 unfold carracklaw14_LogMakes.body
 have fin:∀ {u:World},Ext w u→CallsR prog K.carracklaw14_works #[] u fun v w'=>∃ b:Bool,v= .bool b∧R (.bool b) w':=fun he=>(carracklaw14_works_spec _).mono fun v w' ⟨hv,he'⟩=>⟨true,hv,hR _ _ ⟨rfl,he.trans he'⟩⟩
 have hb:=er.toNat_lt
 refine ⟨fun x u=>u=w∧∃ e:Nat,x=e∧1≤e∧e≤255,br_eq (fun _=>⟨rfl,1,rfl,by decide,by decide⟩) fun h=>⟨rfl,er.toNat,rfl,by omega,by omega⟩,?_⟩
 rintro _ u ⟨hu,e,rfl,he1,he2⟩
 obtain rfl:w=u:=hu.symm
 have ew:IntKind.u32.wrap (e:Int)=(e:Int):=wu32 (by omega) (by omega)
 rw [ew]
 refine (carracklaw14_geo_spec 1 _).mono ?_
 rintro _ w2 ⟨rfl,ex2⟩
 have hs2:=ex2.size
 refine ⟨_,_,_,_,rfl,(cxNew w2 (nb:=16) (np:=8) (sz:=128) (sp:=1) (by decide) (by decide) (by decide) (by decide) (by decide) (by decide) (by decide)).mono ?_⟩
 rintro _ w3 ⟨ex3,p,rfl,hc3⟩
 have hs3:=ex3.size
 obtain ⟨mk0,mkp,mkf⟩:=made14 (era:=e) he1 (by omega)
 refine ⟨_,_,rfl,(log_Make_spec hc3 (fun x hx=>hx.2) (fun x hx=>hx.2) (by show (16:Nat)<20;decide) (by show (8:Nat)≤32;decide) (by show (1:Nat)≤4;decide) (era:=e) (by omega)).mono ?_⟩
 rintro _ w4 ⟨hu4,_,hv⟩
 obtain ⟨M,q,rfl,rfl,hq1,hq2,X4,_,hX4,h4⟩:=hv mk0
 generalize (makeL (newChip 16 8 128 1) e).1=s at *
 have hs4:=hu4.size
 have hF4:∀ x,(Fr w2 w3 x∨(w3.heap.size≤x∧x<q))→w2.heap.size≤x∧x<w4.heap.size:=fun x hx=>by
  rcases hx with hx | hx
  ·have h5:=hx.1;have h6:=hx.2;omega
  ·omega
 have hX4':∀ x,X4 x→x<w4.heap.size:=fun x hx=>by
  rcases hX4 x hx with hx | hx
  ·have h6:=hx.2;omega
  ·omega
 have ex4:Ext w w4:=(ex2.trans ex3).beyond hu4 fun x hx=>by have h5:=hx.1;omega
 refine ⟨_,_,rfl,br_ne (fun hx=>absurd rfl hx) fun _=>?_⟩
 refine (log_Make_refused h4.pool.chip (by rw [mkp.nb];decide) mkp.log.alive (.inr (made_any mkp))).mono ?_
 rintro _ w5 ⟨rfl,ex5⟩
 refine ⟨_,_,rfl,(log_Make_refused (era:=0) (h4.ext ex5).pool.chip (by rw [mkp.nb];decide) mkp.log.alive (.inl rfl)).mono ?_⟩
 rintro _ w6 ⟨rfl,ex6⟩
 have ex46:=ex5.trans ex6
 have hs6:=ex46.size
 have hlen:=hfc.len
 refine ⟨_,_,rfl,(carracklaw14_small_spec (hch.ext (ex4.trans ex46)) (fun b hb=>by have hb':b<w.heap.size:=hb;omega) hfc).mono ?_⟩
 rintro _ w7 ⟨a7,c7,rfl,hl7,ex7⟩
 have hs7:=ex7.size
 obtain ⟨G7,hG7,_⟩:=hl7.slice
 have ml:(chg.map smallC).length=chg.length:=by simp
 refine ⟨_,_,_,rfl,fun u=>u=w7,br_ne (fun hx=>absurd rfl hx) fun _=>br_ne (fun hx=>absurd rfl hx) fun _=>rfl,?_⟩
 rintro _ rfl
 have ex47:=ex46.trans ex7
 refine (log_Put_spec (h4.ext ex47) (fun x hx=>by have:=hF4 x hx;omega) (fun x hx=>by have:=hX4' x hx;omega) mkp.fit (n:=0) (by rw [mkf];exact GoodF.nil) (by decide) hG7 (small_names hsc) (by omega)).mono ?_
 rintro _ w9 ⟨rfl,hu9,X9,_,hX9,h9⟩
 have hs9:=hu9.size
 have hF9:∀ x,LogF (fun x=>Fr w2 w3 x∨(w3.heap.size≤x∧x<q)) q x→w.heap.size≤x∧x<w4.heap.size:=fun x hx=>by
  rcases hx with hx | rfl
  ·have:=hF4 x hx;omega
  ·omega
 have ex9:Ext w w9:=(ex4.trans ex47).beyond hu9 fun x hx=>(hF9 x hx).1
 refine ⟨_,rfl,br_ne (fun _=>fin ex9) fun h0=>fun B11 w11 hn11=>?_⟩
 have mkt:=made_put mkp (by decide) mkf (cs:=chg.map smallC) (by omega)
 generalize (s.put (chg.map smallC)).1=t at *
 have hs11:=hn11.size
 have hF49:∀ x,(Fr w2 w3 x∨(w3.heap.size≤x∧x<q))→w.heap.size≤x∧x<w9.heap.size:=fun x hx=>by have:=hF4 x hx;omega
 refine (one_hit h9 (fun x hx=>(hF49 x hx).2) (RowAt.ext hmk ex9) hml (fun hne p hp hx=>?_) hn11).mono ?_
 ·obtain ⟨b,o,e',hb'⟩:=RowAt.blk hmk (by simpa using hne)
  rw [hp] at e'
  cases e'
  have h8:w.heap.size≤b:=(hF49 _ hx).1
  omega
 rintro _ w12 ⟨n12,rfl,hu12,hs1112,h12⟩
 have hs12:=hu12.size
 have ex12:Ext w w12:=ex9.beyond hu12 fun x hx=>(hF49 x hx).1
 have hcin:=h12.pool.chip.cin
 have hlog0:=mkt.log.setHits [⟨0,true,mask⟩]
 have hg0:=setHits_geo t.chip [⟨0,true,mask⟩]
 have hp0:=setHits_parts t.chip [⟨0,true,mask⟩] e
 have hcs:=setHits_cases t.chip [⟨0,true,mask⟩]
 have hcin':CIn (fun x=>Fr w2 w3 x∨(w3.heap.size≤x∧x<q)) 0 w12 M.p (t.chip.setHits [⟨0,true,mask⟩]).1:=hcin
 have hinv0:Inv t.pool (t.chip.setHits [⟨0,true,mask⟩]).1:=hlog0.inv
 have hal0:(t.chip.setHits [⟨0,true,mask⟩]).1.dead=false:=hlog0.alive
 have hw0:Well (t.chip.setHits [⟨0,true,mask⟩]).1 e:=by
  have:=hlog0.well
  have e':({ t with chip:=(t.chip.setHits [⟨0,true,mask⟩]).1 }:LogS).era=e:=mkt.kera
  rw [e'] at this
  exact this
 have hbad0:badsC (t.chip.setHits [⟨0,true,mask⟩]).1=0:=by
  rcases hcs with e' | e'
  ·rw [e'];exact mkt.bads
  ·rw [e'];exact mkt.bads
 have hhit0:(t.chip.setHits [⟨0,true,mask⟩]).1.hits.length≤1:=by
  rcases hcs with e' | e'
  ·rw [e',mkt.hits];exact Nat.zero_le _
  ·rw [e'];exact Nat.le_refl _
 have hlow0:1≤lowL (partsC (t.chip.setHits [⟨0,true,mask⟩]).1 e):=by rw [hp0];exact mkt.low
 clear hcin hlog0 hcs
 generalize (t.chip.setHits [⟨0,true,mask⟩]).1=d at *
 have dnb:d.nb=16:=hg0.1.1.trans mkt.nb
 have dnp:d.np=8:=hg0.1.2.1.trans mkt.np
 have dsz:d.sz=128:=hg0.1.2.2.1.trans mkt.sz
 have dsp:d.sp≤4:=by rw [hg0.1.2.2.2];exact mkt.sp
 have dlast:∀ j,j<d.nb→isHd d j→(hd d j).1.seq≤1064:=fun j hj hh=>Nat.le_trans (hinv0.last j hj hh) mkt.last
 obtain ⟨of1,of2,of3⟩:=of14 hw0 hal0
 refine ⟨_,rfl,(carrackref04_Of_spec hcin' 1 e).mono ?_⟩
 rintro _ w13 ⟨ex13,a13,c13,rfl,ho13,hf13⟩
 have hs13:=ex13.size
 have hlne:1≤((refTaken d).filter (ofKind 1 e)).length:=by
  have hne:=low_some hlow0
  obtain ⟨x,hx⟩:=List.exists_mem_of_ne_nil _ hne
  obtain ⟨j,j1,j2,_⟩:=(partsC_mem hw0.ci).1 hx
  obtain ⟨y,hy,_⟩:=of2 j j1 j2
  exact List.length_pos_of_mem hy
 generalize (refTaken d).filter (ofKind 1 e)=l at *
 have hb0:l[0].block<d.nb:=(of1 _ (List.getElem_mem hlne)).1
 obtain ⟨g1,g2,g3⟩:=erase_gone hw0 hinv0 hal0 dnb dnp dsz dsp hbad0 hhit0 dlast hb0
 have ex13':Ext w w13:=ex12.trans ex13
 refine ⟨_,_,_,rfl,fun x u=>Ext w u∧w13.heap.size≤u.heap.size∧RowAt u a13 (l.flatMap Taken.vals)∧∃ d',CIn (fun x=>Fr w2 w3 x∨(w3.heap.size≤x∧x<q)) 0 u M.p d'∧((x=((0:Nat):Int)∧d'=d)∨(x=((1:Nat):Int)∧(d.erase l[0].block).2=9∧d'=(d.erase l[0].block).1)),fun x _=>((2:Int) - x).toNat,⟨ex13',Nat.le_refl _,ho13.row,d,hcin'.ext ex13,.inl ⟨rfl,rfl⟩⟩,?_⟩
 have hFl:∀ x,(Fr w2 w3 x∨(w3.heap.size≤x∧x<q))→w.heap.size≤x∧x<w12.heap.size:=fun x hx=>by have:=hF49 x hx;omega
 have rowU:∀ {u v:World},w13.heap.size≤u.heap.size→RowAt u a13 (l.flatMap Taken.vals)→Upd (fun x=>Fr w2 w3 x∨(w3.heap.size≤x∧x<q)) u v→RowAt v a13 (l.flatMap Taken.vals):=fun hs hr hu=>hr.upd hu fun p hp hx=>by
  have h5:=hFl _ hx
  have:=hf13 p hp
  omega
 rintro x u ⟨exu,hsu,hrow,d',hcu,hd'⟩
 have hs0:=exu.size
 refine br_dec (fun hlt=>?_) fun hge=>?_
 ·rcases hd' with ⟨rfl,rfl⟩| ⟨rfl,h9,rfl⟩
  ·refine idx_flat (f:=Taken.vals) Taken.vals_length (by omega) hrow rfl hlne fun b o hab hr=>?_
   obtain ⟨b',o',hab',hc⟩:=RowAt.cell hr (i:=0) (v:=.int .i64 (l[0].block:Nat)) rfl
   cases hab'
   refine ⟨_,hc,(cEraseF hcu _).mono ?_⟩
   rintro _ w15 ⟨rfl,hu15,hc15⟩
   have ex15:=exu.beyond hu15 fun x hx=>(hFl x hx).1
   have hrow15:=rowU hsu hrow hu15
   have hs15:=hu15.size
   refine ⟨_,rfl,br_ne (fun h9=>?_) fun h9=>?_⟩
   ·refine idx_flat (f:=Taken.vals) Taken.vals_length (by omega) hrow15 rfl hlne fun b o hab hr=>?_
    obtain ⟨b',o',hab',hc⟩:=RowAt.cell hr (i:=0) (v:=.int .i64 (l[0].block:Nat)) rfl
    cases hab'
    refine ⟨_,hc,(cBad hc15 _).mono ?_⟩
    rintro _ v ⟨rfl,hv⟩
    obtain rfl:w15=v:=hv.symm
    have hg:=g1 (by omega)
    refine ⟨_,rfl,?_⟩
    rw [Int.toNat_natCast,hg,Bool.and_false]
    exact fin ex15
   ·have ew1:IntKind.i64.wrap (((0:Nat):Int)+1)=((1:Nat):Int):=by decide
    rw [ew1]
    exact ⟨⟨ex15,by omega,hrow15,_,hc15,.inr ⟨rfl,by omega,rfl⟩⟩,by show ((2:Int) - ((1:Nat):Int)).toNat<((2:Int) - ((0:Nat):Int)).toNat;decide⟩
  ·have hl1:1<l.length:=by omega
   have hG:=g2 h9
   have hb1:l[1].block<d.nb:=(of1 _ (List.getElem_mem hl1)).1
   have hne:l[0].block≠l[1].block:=(List.pairwise_iff_getElem.1 of3) 0 1 (by omega) hl1 (by omega)
   have hnb1:(d.erase l[0].block).1.nb=d.nb:=by rw [hG.nb,dnb]
   have hgd:(d.erase l[0].block).1.isBad l[1].block=false:=by
    cases hb:(d.erase l[0].block).1.isBad l[1].block with
    | false=>rfl
    | true=>exact absurd ((hG.bad _ (by omega)).1 hb).symm hne
   obtain ⟨q1,q2⟩:=erase_quiet (scan_inv hG.well.ci hG.alive).1 hG.alive hG.hits (b:=l[1].block) (by omega) hgd
   refine idx_flat (f:=Taken.vals) Taken.vals_length (by omega) hrow rfl hl1 fun b o hab hr=>?_
   obtain ⟨b',o',hab',hc⟩:=RowAt.cell hr (i:=0) (v:=.int .i64 (l[1].block:Nat)) rfl
   cases hab'
   refine ⟨_,hc,(cEraseF hcu _).mono ?_⟩
   rintro _ w15 ⟨rfl,hu15,hc15⟩
   have ex15:=exu.beyond hu15 fun x hx=>(hFl x hx).1
   have hrow15:=rowU hsu hrow hu15
   refine ⟨_,rfl,br_ne (fun h9=>?_) fun h9=>absurd (by omega) q1⟩
   refine idx_flat (f:=Taken.vals) Taken.vals_length (by omega) hrow15 rfl hl1 fun b o hab hr=>?_
   obtain ⟨b',o',hab',hc⟩:=RowAt.cell hr (i:=0) (v:=.int .i64 (l[1].block:Nat)) rfl
   cases hab'
   refine ⟨_,hc,(cBad hc15 _).mono ?_⟩
   rintro _ v ⟨rfl,hv⟩
   obtain rfl:w15=v:=hv.symm
   refine ⟨_,rfl,?_⟩
   rw [Int.toNat_natCast,q2,Bool.and_false]
   exact fin ex15
 rcases hd' with ⟨rfl,_⟩| ⟨rfl,h9,rfl⟩
 ·omega
 have hG:=g2 h9
 have hl1:l.length=1:=by omega
 have hnb1:(d.erase l[0].block).1.nb=d.nb:=by rw [hG.nb,dnb]
 obtain ⟨k0,kf,kl,kfit,ke,kt,kput⟩:=made_again hG he1 (by omega) (by decide) (fun j hj hh=>by
  obtain ⟨y,hy,hyj⟩:=of2 j (by omega) (g3 j hh).1
  obtain ⟨i,hi,rfl⟩:=List.getElem_of_mem hy
  have:i=0:=by omega
  subst this
  exact hyj.symm) (by omega)
 generalize (d.erase l[0].block).1=d1 at *
 refine (log_Make_spec (CX.of hcu) (fun x hx=>by have:=hFl x hx;omega) (fun x hx=>hx.2) (by rw [hG.nb];decide) (by rw [hG.np];decide) hG.sp (era:=e) (by omega)).mono ?_
 rintro _ w18 ⟨hu18,_,hv⟩
 obtain ⟨M',q',hMp,rfl,hq1',hq2',X18,_,hX18,h18⟩:=hv k0
 have hs18:=hu18.size
 have ex18:=exu.beyond hu18 fun x hx=>(hFl x hx).1
 generalize (makeL d1 e).1=m at *
 have hF18:∀ x,((Fr w2 w3 x∨(w3.heap.size≤x∧x<q))∨(u.heap.size≤x∧x<q'))→w.heap.size≤x∧x<w18.heap.size:=fun x hx=>by
  rcases hx with hx | hx
  ·have:=hFl x hx;omega
  ·omega
 have hX18':∀ x,X18 x→x<w18.heap.size:=fun x hx=>by
  rcases hX18 x hx with hx | hx
  ·have:=hx.2;omega
  ·omega
 refine ⟨_,_,rfl,br_eq (fun _=>?_) fun h=>absurd rfl h⟩
 refine (log_Facts_spec h18 (by rw [kf];decide) (by rw [kf];exact fun _ h=>by cases h)).mono ?_
 rintro _ w19 ⟨a19,c19,rfl,_,ex19⟩
 refine ⟨_,_,_,rfl,?_⟩
 rw [kf]
 refine br_eq (fun _=>?_) fun h=>absurd (by decide) h
 rw [← hMp]
 refine (carrackref12_Facts_spec (h18.ext ex19).pool.chip.cin kl.alive e).mono ?_
 rw [ref_inv' kl.inv kl.alive,kt]
 rintro _ w20 ⟨a20,c20,rfl,_,ex20⟩
 have ex1820:=ex19.trans ex20
 refine ⟨_,_,_,rfl,br_eq (fun _=>?_) fun h=>absurd rfl h⟩
 refine (carracklaw14_five_spec w20).mono ?_
 rintro _ w21 ⟨a21,rfl,ex21,hf21⟩
 have ex1821:=ex1820.trans ex21
 have hs21:=ex1821.size
 obtain ⟨z0,z1,z2,z3⟩:=kput [five] five_put
 refine ⟨_,_,_,rfl,(log_Put_spec (h18.ext ex1821) (fun x hx=>by have:=hF18 x hx;omega) (fun x hx=>by have:=hX18' x hx;omega) kfit (n:=0) (by rw [kf];exact GoodF.nil) (by decide) hf21 five_small (by decide)).mono ?_⟩
 rintro _ w22 ⟨rfl,hu22,X22,_,_,h22⟩
 have ex22:Ext w w22:=(ex18.trans ex1821).beyond hu22 fun x hx=>by
  rcases hx with hx | rfl
  ·exact (hF18 x hx).1
  ·omega
 rw [z0]
 generalize (m.put [five]).1=t2 at *
 refine ⟨_,rfl,br_eq (fun _=>?_) fun h=>absurd rfl h⟩
 refine (carrackref12_Facts_spec h22.pool.chip.cin z2 e).mono ?_
 rw [ref_inv' z1 z2,z3]
 rintro _ w23 ⟨a23,c23,rfl,hl23,ex23⟩
 obtain ⟨G23,hG23,_⟩:=hl23.slice
 refine ⟨_,_,_,rfl,(carracklaw14_five_spec w23).mono ?_⟩
 rintro _ w24 ⟨a24,rfl,ex24,hf24⟩
 refine ⟨_,_,_,rfl,(carrackref06_Apply_spec (l:=[]) (G:=NoB) (SliceAt.nil _ _ _) (fun _ h=>h.elim) hf24 (by decide) (fun _ h=>by cases h) (fun x hx=>by simp at hx;subst hx;decide)).mono ?_⟩
 rintro _ w25 ⟨a25,c25,rfl,hl25,ex25⟩
 obtain ⟨G25,hG25,_⟩:=hl25.slice
 have hfl:(applyF [] [five]).length≤100000000∧∀ f∈applyF [] [five],f.val.length≤1000000000000:=by
  have e':applyF [] [five]=[⟨five.key,five.val⟩]:=by decide +kernel
  rw [e']
  exact ⟨by decide,fun f hf=>by simp at hf;subst hf;decide⟩
 refine ⟨_,_,_,rfl,(carrackref00_Facts_spec ((hG23.ext ex24).ext ex25) hG25 hfl.1 hfl.2).mono ?_⟩
 rintro _ w26 ⟨rfl,ex26⟩
 rw [decide_eq_true rfl]
 refine ⟨_,rfl,?_⟩
 rw [br_true]
 exact fin ((((ex22.trans ex23).trans ex24).trans ex25).trans ex26)
end Go.Den
section
namespace Go.Proofs.YtnjiiijdgijahaaGreat.logMakes
open Go.ChangeShapes Go.WideShapes Go.ChangeAt Go.RowKit Go.Den
theorem own:ownKnob Tryz.prog.godebug=none:=by kernel_rfl
theorem laidOut:laidOutB Tryz.prog=true:=by kernel_rfl
theorem rowed:∀ t∈Tryz.f3.params.toList,Tryz.prog.readableRec t=true∧t<Tryz.prog.types.size:=by
 rw [Tryz.params3]
 intro t ht
 simp at ht
 rcases ht with rfl | rfl | rfl<;>exact ⟨by kernel_rfl,of_decide_eq_true (by kernel_rfl)⟩
set_option maxRecDepth 100000 in
theorem lifted (os:Os) (started:os.Started) (H:Type) (enc:TypeId×Value→H) :
  ReturnsInHanded {} Tryz.checked os 3 .any (Rows.logMakesSpec.pre6 enc Tryz.prog Tryz.f3 Rows.logMakesRow.domain false) (Rows.logMakesSpec.post enc Tryz.prog Tryz.f3 false true false false):=by
 refine returnsInHanded_of_change_sized (C:=Tryz.checked) own started (by kernel_rfl) Tryz.func3
  (ChangeSpec.witness6 (enc:=enc) (C:=Tryz.checked) false ⟨#[],#[.slice none 0 0,.int .u8 0,.slice none 0 0],[]⟩ 8 (by kernel_rfl) (by kernel_rfl) (by kernel_rfl) (by kernel_rfl)) ?_
 intro W base args ds gs before hval0 hW hcnd hsz _
 have hval:∀ (j:Nat) t v,Tryz.f3.params[j]?=some t→args[j]?=some v→Value.okWide Tryz.prog W .any base t v:=hval0
 have hW':=hW
 obtain ⟨p,q,hA0,hV,hpq,hfz,hnd⟩:=hW
 have hA:DataW.TrodAll enc Tryz.prog W 0 (fun _=>true) true Tryz.f3.params.toList args.toList ds p:=hA0
 rw [Tryz.params3] at hA hval hsz
 obtain ⟨v0,vs0,d0,ds0,p0,q0,hargs,rfl,hp0,h0,r0⟩:=trodAll_cons hA
 obtain ⟨v1,vs1,d1,ds1,p1,q1,rfl,rfl,hp1,h1,r1⟩:=trodAll_cons r0
 obtain ⟨v2,vs2,d2,ds2,p2,q2,rfl,rfl,hp2,h2,r2⟩:=trodAll_cons r1
 obtain ⟨rfl,rfl,_⟩:=trodAll_nil r2
 obtain rfl:args=#[v0,v1,v2]:=by cases args;simp_all
 obtain ⟨rfl,_⟩:=trodVars_none hV
 obtain ⟨sa0,sl0,sc0,rfl⟩:=okWide_slice Tryz.underlying22 (hval 0 22 v0 rfl rfl)
 obtain ⟨fuel0,hf0⟩:=h0
 obtain ⟨ca0,cl0,cc0,hcs0,hsl0,hfc0,hsm0⟩:=open14_changes hf0 (fits_each hsz (j:=0) rfl rfl)
 simp [Value.cells] at hcs0
 obtain ⟨rfl,rfl,rfl⟩:=hcs0
 obtain ⟨a1,rfl,_,_,w1⟩:=open_int Tryz.underlying5 (hval 1 5 v1 rfl rfl) h1
 have hb1:=byte_bv w1
 obtain ⟨sa2,sl2,sc2,rfl⟩:=okWide_slice Tryz.underlying23 (hval 2 23 v2 rfl rfl)
 obtain ⟨fuel2,hf2⟩:=h2
 obtain ⟨ba2,bl2,bc2,hcs2,hlc2,hby2,hbn2,hbr2⟩:=open_bytes_fit Tryz.underlying23 Tryz.underlying5 (by kernel_rfl) hf2 (fits_each hsz (j:=2) rfl rfl)
 simp [Value.cells] at hcs2
 obtain ⟨rfl,rfl,rfl⟩:=hcs2
 rw [hb1] at hW' ⊢
 refine Calls.mono (carracklaw14_LogMakes_spec hsl0 hfc0 hsm0 (UInt8.ofNat a1.toNat) hby2 (Nat.le_trans hbr2 (by decide))) fun e W' he=>?_
 obtain ⟨v,he,rfl,hx⟩:=he
 exact ⟨_,he,post_true laidOut hW' rfl rowed (Ext.below hx) Tryz.underlying4 (by kernel_rfl) rfl⟩
theorem proved:Rows.LogMakesSaid :=
 OpenClaim.holds_of_wide 3 Tryz.f3 rfl rfl rfl rfl rfl rfl rfl ⟨rfl,rfl,rfl,rfl,rfl⟩ rfl rfl rfl rfl rfl (by kernel_rfl) Tryz.func3 (by kernel_rfl)
  (of_decide_eq_true (by kernel_rfl)) (by unfold Func.isWrapper;first | (rw [if_pos (by decide +kernel)];kernel_rfl) | (rw [if_neg (by decide +kernel)];exact ⟨rfl,rfl⟩))
  (fun os started H enc _=>lifted os started H enc)
end Go.Proofs.YtnjiiijdgijahaaGreat.logMakes
end
