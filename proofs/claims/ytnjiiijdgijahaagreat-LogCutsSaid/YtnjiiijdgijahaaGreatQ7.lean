/- Plain: a Put that is cut. (Merged and shortened by program: SFacts0 SLog9 MTell8 MFierce SCopy SLaw14 LPoolNil SLog10 MRoom SRoom SLawP Frame Frame2 Frame3 Frame4 Open14 MRoom2 SLawQ MCut14.) -/
import Derived.Test.YtnjiiijdgijahaaGreatQ6
import Derived.ProofKit
import Derived.Carry
import Derived.OpenShut
import Derived.SizedLaws
import Derived.Test.YtnjiiijdgijahaaGreatRows
set_option linter.unusedVariables false
set_option linter.unusedSimpArgs false
set_option maxRecDepth 20000
namespace Go.Den
theorem qf3 (x y:Key):((x.ino == y.ino) && (((x.what.toNat:Int) == (y.what.toNat:Int)) && ((x.name.toList == y.name.toList) && ((x.chunk == y.chunk) && true))))=decide (x=y):=by
 rw [Bool.eq_iff_iff]
 simp only [Bool.and_eq_true,beq_iff_eq,Bool.and_true,decide_eq_true_eq]
 constructor
 ·rintro ⟨h1,h2,h3,h4⟩
  cases x;cases y
  simp only at h1 h2 h3 h4
  subst h1;subst h4
  have e2:=UInt8.toNat.inj (Int.ofNat.inj h2)
  have e3:=h3
  rw [ByteArray.toList_eq,ByteArray.toList_eq] at e3
  have e3':=ByteArray.ext (Array.ext' e3)
  subst e2;subst e3'
  rfl
 ·rintro rfl
  exact ⟨rfl,rfl,rfl,rfl⟩
theorem ze3 {w:World} {G H:Nat→Prop} {a b:Option Addr} {c d:Nat} {l m:List Fact} (ha:zb0 zg2 w G a l) (hb:zb0 zg2 w H b m) (hn:l.length≤100000000) (hv:∀ f∈l,f.val.length≤1000000000000) :
  za0 prog K.zb1 #[.slice a l.length c,.slice b m.length d] w fun v w'=>v= .bool (decide (l=m))∧Ext w w':=by
 apply zb1.sh
 unfold zb1.body
 refine zg8 (fun hne=>⟨?_,Upd.refl _ _⟩) fun hlm=>?_
 ·rw [decide_eq_false (p:=l=m) (fun e=>hne (by rw [e]))]
 have hlm':l.length=m.length:=by omega
 refine ⟨fun x u=>∃ i:Nat,x=i∧i≤l.length∧l.take i=m.take i∧Ext w u,fun x _=>((l.length:Int) - x).toNat,⟨0,rfl,by omega,by simp,Upd.refl _ _⟩,?_⟩
 rintro x u ⟨i,rfl,hi,hpre,heu⟩
 refine za8 (fun hlt=>?_) fun hge=>?_
 ·have hi':i<l.length:=by omega
  have hi2:i<m.length:=by omega
  intro w2 hd2
  have e2:=heu.trans hd2.upd
  have ha2:=ha.ext e2
  have hb2:=hb.ext e2
  have hne:l[i]≠m[i]→decide (l=m)=false:=fun h=>decide_eq_false fun e=>h (by simp only [e])
  refine ⟨fun v=>Ext w2 v,Upd.refl _ _,zb0.idx (r:=zg2) ha2 rfl hi' fun b1 o1 vs _ hrow hR _=>?_⟩
  obtain ⟨a1,c1,rfl,_,hba,_⟩:=zp8 hR
  refine ⟨_,_,_,_,fun u1 hu1=>(za6.take (hrow.ext hu1) 4).cells,zb0.idx (r:=zg2) hb2 rfl hi2 fun b2 o2 vs2 _ hrow2 hR2 _=>?_⟩
  obtain ⟨a2,c2,rfl,_,hbb,_⟩:=zp8 hR2
  refine ⟨_,_,_,_,fun u1 hu1=>(za6.take (hrow2.ext hu1) 4).cells,?_⟩
  rw [qf3]
  refine zc0 (fun hk=>⟨Upd.refl _ _,by rw [hne fun e=>by rw [e] at hk;simp at hk],e2⟩) fun hk=>?_
  have hkey:l[i].key=m[i].key:=by simpa using hk
  refine zb0.idx (r:=zg2) ha2 rfl hi' fun b3 o3 vs3 _ hrow3 hR3 _=>?_
  obtain ⟨a3,c3,rfl,_,hb3,_⟩:=zp8 hR3
  refine ⟨a3,l[i].val.length,c3,fun u1 hu1=>?_,zb0.idx (r:=zg2) hb2 rfl hi2 fun b4 o4 vs4 _ hrow4 hR4 _=>?_⟩
  ·obtain ⟨_,_,e,g⟩:=((hrow3.ext hu1).drop 4).cell (i:=0) (v:=.slice a3 l[i].val.length c3) rfl
   cases e
   exact g
  obtain ⟨a4,c4,rfl,_,hb4,_⟩:=zp8 hR4
  refine ⟨a4,m[i].val.length,c4,fun u1 hu1=>?_,(yl5 hb3 hb4 (hv _ (List.getElem_mem hi'))).mono ?_⟩
  ·obtain ⟨_,_,e,g⟩:=((hrow4.ext hu1).drop 4).cell (i:=0) (v:=.slice a4 m[i].val.length c4) rfl
   cases e
   exact g
  rintro _ w3 ⟨rfl,he3⟩
  refine ⟨_,rfl,he3,?_⟩
  have ew:IntKind.i64.wrap ((i:Int)+1)=((i+1:Nat):Int):=w64 (by omega) (by omega)
  rw [ew]
  refine zc0 (fun hs=>⟨by rw [hne fun e=>by rw [e] at hs;simp at hs],e2.trans he3⟩) fun hs=>?_
  have hval:l[i].val=m[i].val:=by simpa using hs
  refine ⟨⟨i+1,rfl,hi',?_,e2.trans he3⟩,meas hi'⟩
  rw [List.take_succ_eq_append_getElem hi',List.take_succ_eq_append_getElem hi2,hpre]
  have:l[i]=m[i]:=by
   generalize l[i]=x at *
   generalize m[i]=y at *
   cases x;cases y
   simp only at hkey hval
   rw [hkey,hval]
  rw [this]
 ·have:i=l.length:=by omega
  subst this
  rw [List.take_length,hlm',List.take_length] at hpre
  exact ⟨by rw [decide_eq_true hpre],heu⟩
abbrev Fr (w w':World):Nat→Prop:=fun x=>w.heap.size≤x∧x<w'.heap.size
theorem qn0 (w:World) {nb np sz sp:Nat} (nb1:8≤nb) (nb2:nb≤64) (np1:4≤np) (np2:np≤32) (sz1:128≤sz) (sz2:sz≤256) (sp2:sp≤4) :
  za0 prog K.yn3 #[.agg #[.int .i64 nb,.int .i64 np,.int .i64 sz,.int .i64 sp]] w fun v w'=>Ext w w'∧∃ p,v= .tuple #[.pointer (some ⟨p,0,none⟩),.int .i64 0]∧CX (Fr w w') (Fr w w') w' p (zf8 nb np sz sp):=by
 refine (vu4 w nb1 nb2 np1 np2 sz1 sz2 sp2).mono ?_
 rintro v w' ⟨he,p,rfl,L,G,hc,h1,h2,h3⟩
 exact ⟨he,p,rfl,L,G,hc,h1,fun x hx=>⟨h2 x hx,(h2 x hx).2⟩⟩
theorem vw4 {F X:Nat→Prop} {w:World} {p:Nat} {c:Chip} (h:CX F X w p c) :
  za0 prog K.zi6 #[.pointer (some ⟨p,0,none⟩)] w fun v w'=>Ext w w'∧∃ p',v= .tuple #[.pointer (some ⟨p',0,none⟩),.int .i64 0]∧CX (Fr w w') (Fr w w') w' p' c.power:=by
 obtain ⟨L,G,hr,hF,hG⟩:=h
 refine (vg2 hr).mono ?_
 rintro v w' ⟨he,p',rfl,L',G',hc,h1,h2,h3⟩
 exact ⟨he,p',rfl,L',G',hc,h1,fun x hx=>⟨h2 x hx,(h2 x hx).2⟩⟩
theorem uo4 {F X:Nat→Prop} {w:World} {q:Nat} {M:PLoc} {s:LogS} (h:zo1 F X w q M s) (hS:∀ x,F x→x<w.heap.size) {Gin:Nat→Prop} {a:Option Addr} {vs:List Value} {hs:List Hit} {cp:Nat} (hr:za6 w a vs) (hh:zm8 w Gin vs hs)
  (hG:∀ x,Gin x→¬ F x) (hap:hs≠[]→∀ q,a=some q→¬ F q.block) (hn:hs.length≤100000) (hm:∀ t∈hs,t.mask.length≤140737488355232) :
  za0 prog K.zk2 #[.pointer (some ⟨M.p,0,none⟩),.slice a hs.length cp] w fun v w'=>v= .int .i64 ((s.chip.setHits hs).2:Nat)∧Upd F w w'∧zo1 F (fun x=>X x∨Fr w w' x) w' q M { s with chip:=(s.chip.setHits hs).1 }:=by
 have hql:=h.lt
 obtain ⟨⟨af,cf,g,Gf,g1,g2⟩,⟨L,G,hp,hF,hGG⟩,ho,hx,he⟩:=h
 have hpF:F M.p:=hF M.p (.inr (.inr (by simp)))
 refine (vn3 hp.chip hr hh (fun x hx e=>hG x hx (e ▸ hpF)) (fun hne q hq e=>hap hne q hq (e ▸ hpF)) hn hm).mono ?_
 rintro _ w' ⟨hu,L',G',hs',hc,hG',rfl⟩
 have hu':Upd F w w':=hu.mono fun x _ hx=>by rw [hx];exact hpF
 have hnew:∀ x,G' x→(X x∨Fr w w' x)∧x<w'.heap.size:=fun x hx=>by
  rcases hG' x hx with hx | hx
  ·exact ⟨.inl (hGG x hx).1,Nat.lt_of_lt_of_le (hGG x hx).2 hu.size⟩
  ·exact ⟨.inr hx,hx.2⟩
 refine ⟨rfl,hu',⟨af,cf,hu'.get g ho,Gf,g1.upd hu' fun b hb=>(g2 b hb).2.1,fun b hb=>⟨.inl (g2 b hb).1,(g2 b hb).2.1,Nat.lt_of_lt_of_le (g2 b hb).2.2 hu.size⟩⟩,⟨L',G',hp.rechip (hu.mono fun x _ hx=>by rw [hx];simp) hc hs' (xm3 s.chip hs).1 (fun x hx hg=>?_),fun x hx=>hF x (by rw [PF.same hs'] at hx;exact hx),hnew⟩,ho,fun hq=>?_,he⟩
 ·rcases hG' x hg with hg | hg
  ·exact (hp.apart x hx).2 hg
  ·have hxq:x<w.heap.size:=by
    rcases hx with rfl | rfl
    ·exact (Array.getElem?_eq_some_iff.1 hp.head).1
    ·exact zb6.blk hp.own rfl
   omega
 ·rcases hq with hq | hq
  ·exact hx hq
  ·have:=hq.1;omega
theorem ye7 (sp:UInt8) (w:World):za0 prog K.ze9 #[bv sp] w fun v w'=>v= .agg #[.int .i64 (16:Nat),.int .i64 (8:Nat),.int .i64 (128:Nat),.int .i64 ((sp.toNat % 2:Nat):Int)]∧Ext w w':=by
 apply ze9.sh
 unfold ze9.body
 intro B w1 hn1
 have hs:=sp.toNat_lt
 have e:Int.tmod (sp.toNat:Int) 2=((sp.toNat % 2:Nat):Int):=(Int.ofNat_tmod _ _).symm
 have e2:IntKind.i64.wrap ((sp.toNat % 2:Nat):Int)=((sp.toNat % 2:Nat):Int):=w64 (by omega) (by omega)
 rw [e,e2]
 refine ⟨by decide,?_⟩
 refine zc8 hn1.get (by simp) fun w2 hp=>?_
 have hB:=hn1.num
 have g:=hp.get
 rw [yf1 _ _ (by simp)] at g
 exact ⟨_,_,_,_,zz3 g,rfl,hn1.upd.beyond hp.upd1 fun x hx=>by omega⟩
theorem yl6 (w:World):za0 prog K.zl6 #[] w fun v w'=>∃ a,v= .slice a [five].length 1∧Ext w w'∧zb0 zc4 w' (Fr w w') a [five]:=by
 apply zl6.sh
 unfold zl6.body
 intro B1 w1 hn1 B2 w2 hn2
 have hB1:=hn1.num
 have hB2:=hn2.num
 have hs1:=hn1.size
 have hs2:=hn2.size
 have g1:=Ext.get hn2.upd hn1.get
 have g2:=hn2.get
 refine ⟨_,rfl,hn1.upd.trans hn2.upd,?_⟩
 have hrow:za6 w2 (some ⟨B2,0,none⟩) (yn8 five.key (some ⟨B1,0,none⟩) five.val.length 1 five.gone):=za6.of g2 fun j v hj=>by rw [Nat.zero_add,← Array.getElem?_toList];exact hj
 have hb:za4 w2 (some ⟨B1,0,none⟩) five.val:=za6.of g1 fun j v hj=>by rw [Nat.zero_add,← Array.getElem?_toList];exact hj
 exact ⟨_,hrow,Rows.single (zx5 (by decide) hb fun _ p hp=>by cases hp;exact ⟨by show w.heap.size≤B1;omega,by show B1<w2.heap.size;omega⟩),fun _ p hp=>by cases hp;exact ⟨by show w.heap.size≤B2;omega,by show B2<w2.heap.size;omega⟩⟩
theorem ut9:yw0 [five]:=fun x hx=>by simp at hx;subst hx;decide
theorem vg6 {c:Chip} {era:Nat} (hnb:c.nb<20) (hnp:c.np≤32) (hsp:c.sp≤4):(LogS.new c era).Keeps (yp2 c era).1∧(yp2 c era).1.Fit:=by
 have fit:=LogS.new_fit (era:=era) hnb hnp hsp
 unfold yp2
 split
 ·exact ⟨.refl _,fit⟩
 ·split
  ·exact ⟨.refl _,fit⟩
  ·split
   ·exact ⟨.refl _,fit⟩
   ·exact LogS.anew_fit fit
theorem xm9 {c:Chip} {era:Nat} (ok:c.Ok) (hnb:c.nb<20) (hsp:c.sp≤4):(zu6 c era).1.chip=c∧(zu6 c era).1.era=era∧(zu6 c era).1.pool=zh5 c∧(zu6 c era).1.Fit∧ye0 163200 (zu6 c era).1.facts:=by
 have fit:=LogS.new_fit (era:=era) hnb ok.np2 hsp
 have g0:ye0 163200 []:=ye0.nil.mono (by omega)
 have hlen:=xc0 (c:=c) era
 have hg:ye0 163200 (zk3 (lowL (zf5 c era)) (zf5 c era)):=by
  have:=xn9 (low:=lowL (zf5 c era)) (xk1 ok.np2 era) (zf5 c era).length (Nat.le_refl _)
  rw [List.take_length] at this
  exact this.mono (by omega)
 unfold zu6
 split
 ·exact ⟨rfl,rfl,rfl,fit,g0⟩
 ·split
  ·exact ⟨rfl,rfl,rfl,fit,g0⟩
  ·split
   ·exact ⟨rfl,rfl,rfl,fit,g0⟩
   ·simp only
    split
    ·exact ⟨rfl,rfl,rfl,⟨fit.nb,fit.np,fit.sp,fit.page,fit.last⟩,hg⟩
    ·refine ⟨rfl,rfl,rfl,⟨fit.nb,fit.np,fit.sp,?_,fit.last⟩,hg⟩
     rename_i t _ _
     have h1:=vg0 c t.block (c.np - 1)
     have h2:=ok.np2
     simp only
     omega
theorem LogS.put_good {s:LogS} (h:s.Fit) {n:Nat} (hg:ye0 n s.facts) (cs:List zb2):ye0 (n+255) (s.put cs).1.facts:=by
 rcases (LogS.put_fit h cs).2.2.2 with h | ⟨_,h,hc⟩
 ·rw [h];exact hg.mono (by omega)
 ·rw [h];exact hg.apply hc
theorem yc4 (w:World):za0 prog K.zb9 #[] w fun v w'=>v= .bool true∧Ext w w':=by
 have hM:=vy0
 simp only [uv1,Bool.and_eq_true,decide_eq_true_eq] at hM
 obtain ⟨⟨⟨⟨⟨⟨m0,m1⟩,m2⟩,m3⟩,m4⟩,m5⟩,m6⟩:=hM
 apply zb9.sh
 unfold zb9.body
 refine (ye7 0 w).mono ?_
 rintro _ w1 ⟨rfl,he1⟩
 refine ⟨_,_,_,_,rfl,(qn0 w1 (nb:=16) (np:=8) (sz:=128) (sp:=0) (by omega) (by omega) (by omega) (by omega) (by omega) (by omega) (by omega)).mono ?_⟩
 rintro _ w2 ⟨he2,p,rfl,hc2⟩
 have hs1:=he1.size
 have hs2:=he2.size
 obtain ⟨kp,fit⟩:=vg6 (c:=zf8 16 8 128 0) (era:=1) (by decide) (by decide) (by decide)
 refine ⟨_,_,rfl,(xr1 hc2 (fun x hx=>hx.2) (fun x hx=>hx.2) (by decide) (by decide) (by decide) (by decide)).mono ?_⟩
 rintro _ w3 ⟨hu3,_,hv⟩
 have hl:yp2 (zf8 16 8 128 0) 1=l14 1:=rfl
 rw [hl] at hv kp fit
 obtain ⟨M,q,rfl,rfl,hq1,hq2,X,_,hX,h3⟩:=hv m0
 have hs3:=hu3.size
 generalize hF:(fun x=>Fr w1 w2 x∨(w2.heap.size≤x∧x<q))=F at h3
 have hFS:∀ x,F x→w.heap.size≤x∧x<w3.heap.size:=fun x hx=>by
  rw [← hF] at hx
  rcases hx with hx | hx
  ·have:=hx.1;have:=hx.2;omega
  ·omega
 have hXS:∀ x,X x→w.heap.size≤x∧x<w3.heap.size:=fun x hx=>by
  rcases hX x hx with hx | hx
  ·have:=hx.1;have:=hx.2;omega
  ·omega
 have e3:Ext w w3:=(he1.trans he2).beyond hu3 fun x hx=>by have:=hx.1;omega
 have hg:ye0 0 (l14 1).1.facts:=by rw [kp.facts];exact ye0.nil
 refine ⟨_,_,rfl,(yl6 w3).mono ?_⟩
 rintro _ w4 ⟨a4,rfl,he4,hf4⟩
 have hs4:=he4.size
 refine ⟨_,_,_,rfl,(yt7 (h3.ext he4) (fun x hx=>by have:=hFS x hx;omega) (fun x hx=>by have:=hXS x hx;omega) fit hg (by omega) hf4 ut9 (by decide)).mono ?_⟩
 have hp:(l14 1).1.put [five]=p14:=rfl
 have hgp:=LogS.put_good fit hg [five]
 have hfp:=LogS.put_fit fit [five]
 rw [hp] at hgp hfp
 rw [hp]
 rintro _ w5 ⟨rfl,hu5,X5,_,hX5,h5⟩
 have hs5:=hu5.size
 have e5:Ext w w5:=(e3.trans he4).beyond hu5 fun x hx=>by
  rcases hx with hx | hx
  ·exact (hFS x hx).1
  ·omega
 have hok:=h5.pool.chip.cin.ok
 have hgeo:=hfp.1
 refine ⟨_,rfl,(vw4 h5.pool.chip).mono ?_⟩
 rintro _ w6 ⟨he6,p',rfl,hc6⟩
 have hs6:=he6.size
 obtain ⟨k1,k2,k3,k4,k5⟩:=xm9 (era:=1) hc6.cin.ok hgeo.nb hgeo.sp
 refine ⟨_,_,rfl,(yj8 hc6 (fun x hx=>hx.2) (fun x hx=>hx.2) hgeo.nb (by decide)).mono ?_⟩
 rintro _ w7 ⟨he7,_,hv⟩
 obtain ⟨M2,q2,_,rfl,_,_,X7,_,_,h7⟩:=hv m2
 have hc7:=hc6.ext he7
 have hs7:=he7.size
 refine ⟨_,_,rfl,(yj8 hc7 (fun x hx=>by have:=hx.2;omega) (fun x hx=>by have:=hx.2;omega) hgeo.nb (era:=2) (by decide)).mono ?_⟩
 rintro _ w8 ⟨he8,hv8,_⟩
 obtain ⟨rfl,_⟩:=hv8 (by rw [m3];decide)
 rw [m3]
 refine ⟨_,_,rfl,(yl6 w8).mono ?_⟩
 rintro _ w9 ⟨a9,rfl,he9,hf9⟩
 refine ⟨_,_,_,rfl,(zt7 (G:=NoB) (a:=none) (c:=0) (l:=[]) (zb0.nil _ _ _) (fun _ h=>h.elim) hf9 (by decide) (fun _ h=>(by cases h)) (fun x hx=>by simp at hx;subst hx;decide)).mono ?_⟩
 have hw:ze0 [] [five]=xj8:=rfl
 rw [hw]
 rintro _ w10 ⟨a10,c10,rfl,hl10,he10⟩
 obtain ⟨G10,hG10,_⟩:=hl10.slice
 have e10:Ext w w10:=((((e5.trans he6).trans he7).trans he8).trans he9).trans he10
 have e510:Ext w5 w10:=(((he6.trans he7).trans he8).trans he9).trans he10
 have e710:Ext w7 w10:=(he8.trans he9).trans he10
 have hwl:=m4
 have hww:∀ f∈xj8,f.val.length≤1000000000000:=by decide +kernel
 have hwl2:xj8.length≤100000000:=by rw [m4];decide
 have hgl:=hgp.len
 have hgl2:=k5.len
 refine ⟨_,_,_,rfl,zi1 (fun _=>zi1 (fun _=>zi1 (fun _=>zi1 (fun _=>zi1 (fun _=>zi1 (fun _=>zi1 (fun _=>?_) fun h=>absurd (by rw [m4];rfl) h) fun h=>absurd rfl h) fun h=>absurd rfl h) fun h=>absurd rfl h) fun h=>absurd (by rw [m1];rfl) h) fun h=>absurd rfl h) fun h=>absurd rfl h⟩
 refine (yn4 (h5.ext e510) (by omega) (hgp.vals' (by omega))).mono ?_
 rw [m5]
 rintro _ w11 ⟨a11,c11,rfl,hl11,he11⟩
 obtain ⟨G11,hG11,_⟩:=hl11.slice
 refine ⟨_,_,_,rfl,(ze3 hG11 (hG10.ext he11) hwl2 hww).mono ?_⟩
 rintro _ w12 ⟨rfl,he12⟩
 rw [decide_eq_true (rfl:xj8=xj8)]
 refine ⟨_,rfl,?_⟩
 rw [br_true]
 have e712:Ext w7 w12:=(e710.trans he11).trans he12
 refine (yn4 (h7.ext e712) (Nat.le_trans k5.len (by decide)) (k5.vals' (by omega))).mono ?_
 rw [m6]
 rintro _ w13 ⟨a13,c13,rfl,hl13,he13⟩
 obtain ⟨G13,hG13,_⟩:=hl13.slice
 refine ⟨_,_,_,rfl,(ze3 hG13 (((hG10.ext he11).ext he12).ext he13) hwl2 hww).mono ?_⟩
 rintro _ w14 ⟨rfl,he14⟩
 rw [decide_eq_true (rfl:xj8=xj8)]
 exact ⟨_,rfl,rfl,(((e10.trans he11).trans he12).trans he13).trans he14⟩
def Room (c:Chip):Prop:=zy4 0 c+2≤c.nb∨2≤zr6 c
structure PutOk (s:LogS) (cs:List zb2) (H:Nat) (r:LogS×Nat):Prop where
 err:r.2=0∨r.2=10∨r.2=11
 era:r.1.era=s.era
 geo:s.chip.SameGeo r.1.chip
 well:Well r.1.chip s.era
 facts:(r.2=0∧r.1.facts=ze0 s.facts cs)∨(r.2≠0∧r.1.facts=s.facts)
 tell:told (partsC s.chip s.era)=s.facts→(r.2≠0∧told (partsC r.1.chip s.era)=s.facts)∨told (partsC r.1.chip s.era)=ze0 s.facts cs
 fine:Fine s.chip.sz (told (partsC s.chip s.era))→Fine s.chip.sz (told (partsC r.1.chip s.era))
 low:lowL (partsC s.chip s.era)≤lowL (partsC r.1.chip s.era)
 lo:s.pool.last≤r.1.pool.last
 hi:r.1.pool.last≤s.pool.last+s.chip.nb * (H+2) * (s.facts.length+3)
 dead:r.2=10→r.1.chip.dead=true
 log:r.2≠10→yd9 r.1
 room:s.facts.length+2≤s.chip.np→Room s.chip→r.2≠10→Room r.1.chip∧(r.2=11→2≤zr6 r.1.chip)
 hits:r.1.chip.hits.length≤s.chip.hits.length
 calm:(∀ t∈s.chip.hits,t.fails=false)→(∀ t∈r.1.chip.hits,t.fails=false)∧r.1.chip.bad=s.chip.bad∧(r.2=11→told (partsC s.chip s.era)=s.facts→told (partsC r.1.chip s.era)=s.facts)
 still:s.chip.hits=[]→r.1.chip.hits=[]∧r.2≠10
 bads:zr6 s.chip≤zr6 r.1.chip
 inv:Inv r.1.pool r.1.chip
theorem uw9 {s:LogS} {H:Nat} {cs:List zb2} (h:yd9 s) (hfine:Fine s.chip.sz s.facts) (hp:(putL s.chip.sz cs).2=0) (hH:s.chip.hits.length≤H) (hl:s.pool.last+s.chip.nb * (H+2) * (s.facts.length+3)<18446744073709551616):PutOk s cs H (s.put cs):=by
 have hok:=h.well.ci.ok
 have hnb:=hok.nb1
 have hnp:=hok.np1
 have hask:s.chip.ask 0 0=0:=yu0 (i:=0) (k:=0) h.alive (by omega) (by omega)
 have hN3:s.chip.nb * (H+2) * (s.facts.length+3)=s.chip.nb * (H+2) * (s.facts.length+2)+s.chip.nb * (H+2):=Nat.mul_succ _ _
 rw [LogS.put_eq,if_neg (by omega),if_neg (by omega)]
 obtain ⟨y,hy⟩: ∃ y,y=(if s.low (ze0 s.facts cs).length then s.anew else (s,0)):=⟨_,rfl⟩
 rw [← hy]
 have hY:(y.2=0∨y.2=10∨y.2=11)∧s.Keeps y.1∧Well y.1.chip s.era∧(told (partsC s.chip s.era)=s.facts→told (partsC y.1.chip s.era)=s.facts)∧(Fine s.chip.sz (told (partsC s.chip s.era))→Fine s.chip.sz (told (partsC y.1.chip s.era)))∧lowL (partsC s.chip s.era)≤lowL (partsC y.1.chip s.era)∧
   s.pool.last≤y.1.pool.last∧y.1.pool.last≤s.pool.last+s.chip.nb * (H+2) * (s.facts.length+2)∧(y.2=10→y.1.chip.dead=true)∧(y.2≠10→yd9 y.1)∧y.1.chip.hits.length≤s.chip.hits.length∧
   ((∀ t∈s.chip.hits,t.fails=false)→(∀ t∈y.1.chip.hits,t.fails=false)∧y.1.chip.bad=s.chip.bad)∧(s.chip.hits=[]→y.1.chip.hits=[]∧y.2≠10)∧zr6 s.chip≤zr6 y.1.chip∧Inv y.1.pool y.1.chip∧
   (s.facts.length+2≤s.chip.np→Room s.chip→y.2≠10→2≤zr6 y.1.chip∨(zy4 0 y.1.chip+3≤s.chip.nb)):=by
  by_cases hlow:s.low (ze0 s.facts cs).length=true
  ·rw [if_pos hlow] at hy
   have A:=um5 h hfine hH (by omega)
   subst hy
   refine ⟨A.err,⟨A.facts,A.era,A.geo⟩,A.well,A.told,A.fine,A.low,A.lo,A.hi,A.dead,A.log,A.hits,A.calm,A.still,A.bads,A.inv,fun hq hr hne=>?_⟩
   rcases hr with hr | hr
   ·rcases A.err with e | e | e
    ·have:=A.one hq e
     exact .inr (by omega)
    ·exact absurd e hne
    ·left
     have h1:=A.live hq e
     have hlog:=A.log hne
     have h2:=yp0 hlog.inv hlog.alive
     rw [A.full e,A.geo.1] at h2
     omega
   ·exact .inl (Nat.le_trans hr A.bads)
  ·rw [if_neg hlow] at hy
   subst hy
   refine ⟨.inl rfl,.refl s,h.well,fun h=>h,fun h=>h,Nat.le_refl _,Nat.le_refl _,Nat.le_add_right _ _,(fun h=>by cases h),fun _=>h,Nat.le_refl _,fun hc=>⟨hc,rfl⟩,fun hq=>⟨hq,(fun h=>by cases h)⟩,Nat.le_refl _,h.inv,fun hq hr _=>?_⟩
   have hbl:3≤zh3 s.pool s.chip:=by
    have e:s.low (ze0 s.facts cs).length=decide (zh3 s.pool s.chip<((ze0 s.facts cs).length+2+(s.chip.np - 1) - 1) / (s.chip.np - 1)+2+s.chip.sp):=rfl
    rw [e] at hlow
    have h1:1≤((ze0 s.facts cs).length+2+(s.chip.np - 1) - 1) / (s.chip.np - 1):=(Nat.le_div_iff_mul_le (by omega)).2 (by omega)
    have h2:¬ zh3 s.pool s.chip<((ze0 s.facts cs).length+2+(s.chip.np - 1) - 1) / (s.chip.np - 1)+2+s.chip.sp:=fun hx=>hlow (decide_eq_true hx)
    omega
   have h2:=yp0 h.inv h.alive
   exact .inr (by show zy4 0 s.chip+3≤s.chip.nb;omega)
 clear hy
 obtain ⟨y1,y2,y3,y4,y5,yl,y6,y7,y8,y9,y10,y11,y12,y13,y15,y14⟩:=hY
 split
 ·rename_i h10
  refine ⟨y1,y2.era,y2.geo,y3,.inr ⟨by omega,y2.facts⟩,fun hs=>.inl ⟨by omega,y4 hs⟩,y5,yl,y6,by omega,y8,y9,fun _ _ hne=>absurd h10 hne,y10,fun hc=>⟨(y11 hc).1,(y11 hc).2,fun h11=>(by omega)⟩,y12,y13,y15⟩
 rename_i h10
 have hlog:=y9 h10
 have hgeo:=y2.geo
 have hera:y.1.era=s.era:=y2.era
 have hfuel:y.1.chip.nb * y.1.fuel≤s.chip.nb * (H+2):=by
  rw [hgeo.1]
  exact Nat.mul_le_mul_left _ (by unfold LogS.fuel;omega)
 have W:=va5 (pg:=(putL s.chip.sz cs).1) (cs:=cs) (d:=0) y.1.fuel hlog (by rw [hgeo.2.2.1];exact (xq3 hok.sz1 hok.sz2 hp).1) ⟨Nat.zero_le _,fun _ _ _ _ _ _=>Nat.zero_le _⟩ (by unfold LogS.left LogS.fuel;split<;>omega) (by omega)
 have hcl:=ul1 hlog
 have hyc:=y11
 generalize y.1.write (putL s.chip.sz cs).1 y.1.fuel=q at *
 have wsays:=W.says
 have wwell:=W.well
 rw [hera] at wsays wwell hcl
 have wgeo:=hgeo.trans W.geo
 have whi:=W.hi
 have wtell:(q.2≠0∧told (partsC q.1.chip s.era)=told (partsC y.1.chip s.era))∨told (partsC q.1.chip s.era)=ze0 (told (partsC y.1.chip s.era)) cs:=by
  rcases wsays with ⟨h1,h2⟩| h1
  ·exact .inl ⟨h2,xd8 h1⟩
  ·right
   have e:lowL (partsC q.1.chip s.era)=lowL (partsC y.1.chip s.era):=by rw [h1.2];omega
   unfold told
   rw [e,h1.1 _ hcl]
 have wfine:Fine s.chip.sz (told (partsC s.chip s.era))→Fine s.chip.sz (told (partsC q.1.chip s.era)):=fun hs=>by
  rcases wtell with ⟨_,e⟩| e
  ·rw [e];exact y5 hs
  ·rw [e];exact (y5 hs).put hok.sz1 hok.sz2 hp
 have wlow:lowL (partsC s.chip s.era)≤lowL (partsC q.1.chip s.era):=by
  rcases wsays with ⟨h1,_⟩| h1
  ·rw [h1.2];exact yl
  ·rw [h1.2];omega
 have wroom:s.facts.length+2≤s.chip.np→Room s.chip→q.2≠10→Room q.1.chip∧(q.2=11→2≤zr6 q.1.chip):=fun hq hr hne=>by
  rcases y14 hq hr h10 with hb | hb
  ·have:=Nat.le_trans hb W.bads
   exact ⟨.inr this,fun _=>this⟩
  ·have w1:=W.live 0 ⟨Nat.zero_le _,fun _ _ _ _ _ _=>Nat.zero_le _⟩ hne
   have w2:(if y.1.block= -1∨y.1.page≥y.1.chip.np then 1 else 0)≤1:=by split<;>omega
   have hn:=wgeo.1
   refine ⟨.inl (by omega),fun h11=>?_⟩
   have hlogq:=W.log hne
   have h2:=yp0 hlogq.inv hlogq.alive
   rw [W.full h11] at h2
   rw [if_pos h11] at w1
   omega
 have wcalm:(∀ t∈s.chip.hits,t.fails=false)→(∀ t∈q.1.chip.hits,t.fails=false)∧q.1.chip.bad=s.chip.bad∧(q.2=11→told (partsC s.chip s.era)=s.facts→told (partsC q.1.chip s.era)=s.facts):=fun hc=>by
  have c1:=hyc hc
  have c2:=W.calm c1.1
  refine ⟨c2.1,c2.2.1.trans c1.2,fun h11 hs=>?_⟩
  have:=c2.2.2 h11
  rw [hera] at this
  rw [xd8 this];exact y4 hs
 have wtell':told (partsC s.chip s.era)=s.facts→(q.2≠0∧told (partsC q.1.chip s.era)=s.facts)∨told (partsC q.1.chip s.era)=ze0 s.facts cs:=fun hs=>by
  rcases wtell with ⟨e1,e⟩| e
  ·exact .inl ⟨e1,by rw [e];exact y4 hs⟩
  ·exact .inr (by rw [e,y4 hs])
 split
 ·rename_i hne
  exact ⟨W.err,W.era.trans hera,wgeo,wwell,.inr ⟨hne,W.facts.trans y2.facts⟩,wtell',wfine,wlow,Nat.le_trans y6 W.lo,by omega,W.dead,W.log,wroom,Nat.le_trans W.hits y10,wcalm,fun hq=>W.still (y12 hq).1,Nat.le_trans y13 W.bads,W.inv⟩
 ·rename_i hz
  have h0:q.2=0:=Classical.byContradiction hz
  have hl0:=W.log (by omega)
  refine ⟨.inl rfl,W.era.trans hera,wgeo,wwell,.inl ⟨rfl,rfl⟩,fun hs=>?_,wfine,wlow,Nat.le_trans y6 W.lo,by show q.1.pool.last≤_;omega,(fun h=>by cases h),fun _=>⟨hl0.inv,hl0.alive,hl0.turn,hl0.era1,hl0.era2,hl0.well,?_⟩,fun hq hr _=>⟨(wroom hq hr (by omega)).1,(fun h=>by cases h)⟩,Nat.le_trans W.hits y10,fun hc=>⟨(wcalm hc).1,(wcalm hc).2.1,(fun h=>by cases h)⟩,fun hq=>⟨(W.still (y12 hq).1).1,(fun h=>by cases h)⟩,Nat.le_trans y13 W.bads,W.inv⟩
  ·rcases wtell' hs with ⟨e,_⟩| e
   ·exact absurd h0 e
   ·exact .inr e
  ·rcases hl0.open_ with o | o | ⟨i,a,t,p,o⟩
   ·exact .inl o
   ·exact .inr (.inl o)
   ·exact .inr (.inr ⟨i,a,t,p,⟨o.blk,o.parts,o.pb,o.quiet,o.good,o.page,o.open_⟩⟩)
structure qn5 (s:LogS) (b:Int) (H:Nat) (r:LogS×Nat):Prop where
 err:r.2=0∨r.2=10∨r.2=11
 era:r.1.era=s.era
 facts:r.1.facts=s.facts
 geo:s.chip.SameGeo r.1.chip
 well:Well r.1.chip s.era
 told:told (partsC s.chip s.era)=s.facts→told (partsC r.1.chip s.era)=s.facts
 fine:Fine s.chip.sz (Go.Den.told (partsC s.chip s.era))→Fine s.chip.sz (Go.Den.told (partsC r.1.chip s.era))
 low:lowL (partsC s.chip s.era)≤lowL (partsC r.1.chip s.era)
 lo:s.pool.last≤r.1.pool.last
 hi:r.1.pool.last≤s.pool.last+s.chip.nb * (H+2) * (s.facts.length+2)
 dead:r.2=10→r.1.chip.dead=true
 log:r.2≠10→yd9 r.1
 ok:r.2=0→b≤(zh3 r.1.pool r.1.chip:Int)
 room:s.facts.length+2≤s.chip.np→Room s.chip→r.2≠10→Room r.1.chip∧(r.2=11→2≤zr6 r.1.chip∨(s.chip.nb:Int)<b+zr6 r.1.chip+1)
 hits:r.1.chip.hits.length≤s.chip.hits.length
 calm:(∀ t∈s.chip.hits,t.fails=false)→(∀ t∈r.1.chip.hits,t.fails=false)∧r.1.chip.bad=s.chip.bad
 still:s.chip.hits=[]→r.1.chip.hits=[]∧r.2≠10
 bads:zr6 s.chip≤zr6 r.1.chip
 inv:Inv r.1.pool r.1.chip
theorem uv5 {s:LogS} {H:Nat} {b:Int} (h:yd9 s) (hfine:Fine s.chip.sz s.facts) (hH:s.chip.hits.length≤H) (hl:s.pool.last+s.chip.nb * (H+2) * (s.facts.length+2)<18446744073709551616):qn5 s b H (s.tidy b):=by
 have hok:=h.well.ci.ok
 have hnb:=hok.nb1
 have hnp:=hok.np1
 have hask:s.chip.ask 0 0=0:=yu0 (i:=0) (k:=0) h.alive (by omega) (by omega)
 unfold LogS.tidy
 rw [if_neg (by omega)]
 split
 ·rename_i hge
  exact ⟨.inl rfl,rfl,rfl,.refl _,h.well,fun h=>h,fun h=>h,Nat.le_refl _,Nat.le_refl _,Nat.le_add_right _ _,(fun h=>by cases h),fun _=>h,fun _=>hge,fun _ hr _=>⟨hr,(fun h=>by cases h)⟩,Nat.le_refl _,fun hc=>⟨hc,rfl⟩,fun hq=>⟨hq,(fun h=>by cases h)⟩,Nat.le_refl _,h.inv⟩
 have A:=um5 h hfine hH hl
 generalize s.anew=y at *
 have hroom:s.facts.length+2≤s.chip.np→Room s.chip→y.2≠10→Room y.1.chip∧(y.2=11→2≤zr6 y.1.chip):=fun hq hr hne=>by
  have hn:=A.geo.1
  rcases hr with hr | hr
  ·rcases A.err with e | e | e
   ·have:=A.one hq e
    exact ⟨.inl (by omega),fun h=>by omega⟩
   ·exact absurd e hne
   ·have h1:=A.live hq e
    have hlog:=A.log hne
    have h2:=yp0 hlog.inv hlog.alive
    rw [A.full e,A.geo.1] at h2
    exact ⟨.inr (by omega),fun _=>by omega⟩
  ·have:=Nat.le_trans hr A.bads
   exact ⟨.inr this,fun _=>this⟩
 split
 ·rename_i hne
  exact ⟨A.err,A.era,A.facts,A.geo,A.well,A.told,A.fine,A.low,A.lo,A.hi,A.dead,A.log,fun h0=>absurd h0 hne,fun hq hr hne=>⟨(hroom hq hr hne).1,fun h11=>.inl ((hroom hq hr hne).2 h11)⟩,A.hits,A.calm,A.still,A.bads,A.inv⟩
 ·rename_i hz
  have h0:y.2=0:=Classical.byContradiction hz
  have hne:y.2≠10:=by omega
  have hlog:=A.log hne
  split
  ·rename_i hlt
   refine ⟨.inr (.inr rfl),A.era,A.facts,A.geo,A.well,A.told,A.fine,A.low,A.lo,A.hi,(fun h=>by cases h),fun _=>hlog,(fun h=>by cases h),fun hq hr _=>⟨(hroom hq hr hne).1,fun _=>.inr ?_⟩,A.hits,A.calm,fun hq=>⟨(A.still hq).1,(fun h=>by cases h)⟩,A.bads,A.inv⟩
   have h1:=A.one hq h0
   have h2:=yp0 hlog.inv hlog.alive
   have h3:=A.geo.1
   show (s.chip.nb:Int)<b+zr6 y.1.chip+1
   omega
  ·rename_i hge
   exact ⟨.inl rfl,A.era,A.facts,A.geo,A.well,A.told,A.fine,A.low,A.lo,A.hi,(fun h=>by cases h),fun _=>hlog,fun _=>by show b≤(zh3 y.1.pool y.1.chip:Int);omega,fun hq hr _=>⟨(hroom hq hr hne).1,(fun h=>by cases h)⟩,A.hits,A.calm,fun hq=>⟨(A.still hq).1,(fun h=>by cases h)⟩,A.bads,A.inv⟩
theorem ub5 {c:Chip} {era:Nat} (h:Well c era) (hd0:c.dead=false) (he1:1≤era) (he2:era<4294967296):yd9 (LogS.new c era) :=
 ⟨(yq5 h.ci hd0).1,hd0,uh8 c c.nb,he1,he2,h,.inl rfl⟩
theorem ua4 {c:Chip} (h:CI c) (hd0:c.dead=false) (era:Nat):partsC c era=(ownL era (zc1 (zh5 c) c)).map (zu2 c):=by
 unfold partsC partsL ownL
 rw [yx5 (yq5 h hd0).1 hd0]
 rfl
theorem vv3 {c:Chip} (ho:c.Ok) {i:Nat} (hi:i<c.nb) {k:Nat} (h:∀ j,k≤j→j<c.np→zc7 (c.page i j)=true):zi3 c i k:=by
 unfold zi3 zc7
 rw [List.all_eq_true]
 intro x hx
 obtain ⟨m,hm,rfl⟩:=List.getElem_of_mem hx
 rw [List.getElem_drop]
 have hlen:=ho.blk_len hi
 rw [List.length_drop,hlen] at hm
 have hsz:=ho.sz1
 have hdiv:(k * c.sz+m) / c.sz<c.np:=(Nat.div_lt_iff_lt_mul (by omega)).2 (by omega)
 have hk:k≤(k * c.sz+m) / c.sz:=(Nat.le_div_iff_mul_le (by omega)).2 (by omega)
 have hp:=h _ hk hdiv
 unfold zc7 at hp
 rw [List.all_eq_true] at hp
 refine hp _ ?_
 have hmod:=Nat.mod_lt (k * c.sz+m) (show 0<c.sz by omega)
 have hsum:=Nat.div_add_mod (k * c.sz+m) c.sz
 have hmul:(k * c.sz+m) / c.sz * c.sz=c.sz * ((k * c.sz+m) / c.sz):=Nat.mul_comm _ _
 generalize (k * c.sz+m) / c.sz=D at *
 unfold Chip.page
 rw [List.mem_iff_getElem]
 refine ⟨(k * c.sz+m) % c.sz,by rw [List.length_take,List.length_drop,hlen];omega,?_⟩
 rw [List.getElem_take,List.getElem_drop]
 congr 1
 omega
theorem xk4 (c:Chip) (b:Nat):∀ k j,yn1 c b k≤j→1≤j→j≤k→zc7 (c.page b j)=true
 | 0,j,_,h1,h2=>by omega
 | k+1,j,h,h1,h2=>by
  rw [yz7] at h
  split at h
  ·rename_i hb
   by_cases e:j=k+1
   ·rw [e];exact hb
   ·exact xk4 c b k j h h1 (by omega)
  ·omega
theorem xe8 (c:Chip) (b:Nat):∀ k,1≤yn1 c b k
 | 0=>Nat.le_refl _
 | k+1=>by
  have:=xe8 c b k
  rw [yz7]
  split<;>omega
theorem uy3 {c:Chip} {era:Nat} (h:Well c era) (hd0:c.dead=false) (he1:1≤era) (he2:era<4294967296) :
  (partsC c era=[]∧(zu6 c era).2=16)∨(partsC c era≠[]∧(zu6 c era).2=0∧yd9 (zu6 c era).1∧(zu6 c era).1.facts=told (partsC c era)∧(zu6 c era).1.chip=c∧(zu6 c era).1.era=era∧(zu6 c era).1.pool=zh5 c):=by
 have hop:=ua4 h.ci hd0 era
 have hn:=ub5 h hd0 he1 he2
 have hrp:=vz3 h.ci hd0 (show era≠0 by omega)
 have hnp:=h.ci.ok.np1
 unfold zu6
 rw [if_neg (by rw [hd0];decide),if_neg (by omega),hrp]
 generalize ho:ownL era (zc1 (zh5 c) c)=l at *
 rcases List.eq_nil_or_concat l with e | ⟨a,t,e⟩
 ·subst e
  exact .inl ⟨hop,rfl⟩
 ·rw [List.concat_eq_append] at e
  subst e
  right
  have hne:partsC c era≠[]:=by rw [hop];simp
  rw [List.getLast?_append]
  simp only [List.getLast?_singleton,Option.some_or]
  have htm:yg2 c c.nb t:=by
   have:t∈ownL era (zc1 (zh5 c) c):=by rw [ho];simp
   exact (yo0 hn.inv hd0 t).1 (List.mem_filter.1 this).1
  obtain ⟨t1,t2,t3,t4⟩:=htm
  refine ⟨hne,?_⟩
  split
  ·exact ⟨rfl,⟨hn.inv,hn.alive,hn.turn,hn.era1,hn.era2,hn.well,.inl rfl⟩,rfl,rfl,rfl,rfl⟩
  ·rename_i hb
   have hb':t.bad=false:=by simpa using hb
   refine ⟨rfl,⟨hn.inv,hn.alive,hn.turn,hn.era1,hn.era2,hn.well,.inr (.inr ⟨t.block,a.map (zu2 c),[],zu2 c t,⟨rfl,?_,rfl,(fun _ h=>by cases h),by rw [← hb'];exact t4.symm,xe8 _ _ _,?_⟩⟩)⟩,rfl,rfl,rfl,rfl⟩
   ·show partsC c era=_
    rw [hop];simp
   ·refine vv3 h.ci.ok t1 fun j hj hjn=>?_
    have h1:=xe8 c t.block (c.np - 1)
    have hj':yn1 c t.block (c.np - 1)≤j:=hj
    have hjn':j<c.np:=hjn
    exact xk4 c t.block (c.np - 1) j hj' (by omega) (by omega)
end Go.Den
namespace Go.Den
def zw2 (c:Chip):Prop:=c.dead=false∧∀ t∈c.hits,t.fails=true
theorem vt2 {c:Chip} (h:zw2 c):zw2 c.strike.1∧∀ t,c.strike.2=some t→t.fails=true:=by
 obtain ⟨s1,s2,s3,s4,s5,s6,s7,s8,s9⟩:=vc6 c
 exact ⟨⟨by rw [s6];exact h.1,fun t ht=>h.2 t (s7 t ht)⟩,fun t ht=>h.2 t (s8 t ht)⟩
theorem vj6 {c:Chip} (h:zw2 c) (b off n:Nat) (new:List UInt8):zw2 (c.done b off n new).1:=by
 obtain ⟨h1,h2⟩:=vt2 h
 unfold Chip.done Chip.finish
 cases hs:c.strike.2 with
 | none=>exact h1
 | some t =>
  simp only
  rw [if_pos (h2 t hs)]
  exact h1
theorem ym9 {c:Chip} (h:zw2 c) (i k:Int) (b:List UInt8):zw2 (c.program i k b).1:=by
 unfold Chip.program
 split
 ·exact h
 ·split
  ·exact h
  ·split
   ·exact h
   ·split
    ·exact h
    ·exact vj6 h _ _ _ _
theorem xg2 {c:Chip} (h:zw2 c) (i:Int):zw2 (c.erase i).1:=by
 unfold Chip.erase
 split
 ·exact h
 ·split
  ·exact h
  ·exact vj6 h _ _ _ _
theorem uq3 {P:Pool} {c:Chip} (h:zw2 c) (i:Nat) (kind:UInt8) (era:Nat):zw2 (zo2 P c i kind era).2.1:=by
 unfold zo2
 split
 ·split
  ·exact xg2 h _
  ·exact ym9 (xg2 h _) _ _ _
 ·exact ym9 h _ _ _
theorem yz0 (kind:UInt8) (era:Nat):∀ (ks:List Nat) {P:Pool} {c:Chip},zw2 c→zw2 (zp3 kind era P c ks).chip
 | [],P,c,h=>h
 | k :: ks,P,c,h=>by
  unfold zp3
  split
  ·exact yz0 kind era ks h
  ·have h1:=uq3 (P:=P) h ((P.turn+k) % c.nb) kind era
   split
   ·exact h1
   ·split
    ·exact h1
    ·exact yz0 kind era ks h1
theorem vc4 {P:Pool} {c:Chip} (h:zw2 c) (kind:UInt8) (era:Nat):zw2 (zf0 P c kind era).chip:=by
 unfold zf0
 split
 ·exact h
 ·split
  ·exact h
  ·exact yz0 _ _ _ h
theorem xf7 {P:Pool} {c:Chip} (h:zw2 c) (i:Int):zw2 (zd1 P c i).2.1:=by
 unfold zd1
 split
 ·exact h
 ·exact xg2 h _
namespace LogS
theorem vc2 {s:LogS} (h:zw2 s.chip):zw2 s.take.1.chip:=by
 unfold LogS.take
 simp only
 split<;>exact vc4 h _ _
theorem xd5 (b:List UInt8):∀ (n:Nat) {s:LogS},zw2 s.chip→zw2 (s.write b n).1.chip
 | 0,s,h=>h
 | n+1,s,h=>by
  rw [LogS.write_step]
  have hy:zw2 (if s.block= -1∨s.page≥s.chip.np then s.take else (s,0)).1.chip:=by
   split
   ·exact vc2 h
   ·exact h
  generalize (if s.block= -1∨s.page≥s.chip.np then s.take else (s,0))=y at *
  split
  ·exact hy
  ·split
   ·exact ym9 hy _ _ _
   ·exact xd5 b n (ym9 hy _ _ _)
theorem xd6:∀ (l:List (List UInt8)) {s:LogS},zw2 s.chip→zw2 (writeAll l s).1.chip
 | [],s,h=>h
 | b :: l,s,h=>by
  show zw2 (if (s.write b s.fuel).2≠0 then s.write b s.fuel else writeAll l (s.write b s.fuel).1).1.chip
  have h1:=xd5 b s.fuel h
  split
  ·exact h1
  ·exact xd6 l h1
theorem yv0 (first:Nat):∀ (l:List zb7) {s:LogS},zw2 s.chip→zw2 (freeAll first l s).1.chip
 | [],s,h=>h
 | x :: l,s,h=>by
  have hs:LogS.freeAll first (x :: l) s=(if x.head.seq≥first∨x.bad=true then LogS.freeAll first l s else if (zd1 s.pool s.chip x.block).2.2≠0 then ({ s with pool:=(zd1 s.pool s.chip x.block).1,chip:=(zd1 s.pool s.chip x.block).2.1 },(zd1 s.pool s.chip x.block).2.2) else LogS.freeAll first l { s with pool:=(zd1 s.pool s.chip x.block).1,chip:=(zd1 s.pool s.chip x.block).2.1 }):=rfl
  rw [hs]
  split
  ·exact yv0 first l h
  ·split
   ·exact xf7 h _
   ·exact yv0 first l (xf7 h _)
theorem vk7 {s:LogS} (h:zw2 s.chip):zw2 s.anew.1.chip:=by
 rw [LogS.anew_eq]
 have ht:=vc2 h
 split
 ·exact h
 ·split
  ·exact ht
  ·have hw:=xd6 ((yo4 s.chip.sz s.facts).1 ++ [(zq9 s.chip.sz s.take.1.pool.last).1]) ht
   split
   ·exact hw
   ·exact yv0 _ _ hw
theorem put_fierce {s:LogS} (h:zw2 s.chip) (cs:List zb2):zw2 (s.put cs).1.chip:=by
 rw [LogS.put_eq]
 split
 ·exact h
 ·split
  ·exact h
  ·have hy:zw2 (if s.low (ze0 s.facts cs).length then s.anew else (s,0)).1.chip:=by
    split
    ·exact vk7 h
    ·exact h
   generalize (if s.low (ze0 s.facts cs).length then s.anew else (s,0))=y at *
   split
   ·exact hy
   ·have hw:=xd5 (putL s.chip.sz cs).1 y.1.fuel hy
    split
    ·exact hw
    ·exact hw
theorem tidy_fierce {s:LogS} (h:zw2 s.chip) (n:Int):zw2 (s.tidy n).1.chip:=by
 have ha:=vk7 h
 unfold LogS.tidy
 split
 ·exact h
 ·split
  ·exact h
  ·split
   ·exact ha
   ·split<;>exact ha
end LogS
end Go.Den
namespace Go.Den
theorem zb4.push2 {α:Type} {r:ERep α} {Q:Nat→Prop} {S:Nat} {w₀ w₁:World} {H:Nat→Prop} {a:Option Addr} {cap n bytes:Nat} {e:TypeId} {l:List α} {z:List Value} (h:zb4 r Q S w₁ a cap e l) {B:Nat} {x:α} {cs:Array Value} (hx:r.R w₁ H cs.toList x)
  (hH:∀ b,H b→(S≤b∨Q b)∧b<w₁.heap.size∧a≠some ⟨b,0,none⟩) (hn:New w₀ (.cells cs e) B w₁) (hnl:n=l.length)
  (hz:z.length=r.k) (hb:(l.length+1+(l.length+1) / 4+512) * bytes≤281474976710656) (hb2:l.length≤4000000000000000000) (hS:S≤w₁.heap.size) {K:Option Addr→Nat→Nat→World→Prop}
  (hk:∀ a' c' w',Upd (fun b=>a=some ⟨b,0,none⟩) w₁ w'→zb4 r Q S w' a' c' e (l ++ [x])→K a' (l ++ [x]).length c' w') :
  zb5 e r.k bytes z a n cap (.slice (some ⟨B,0,none⟩) 1 1) w₁ K:=by
 subst hnl
 obtain ⟨G,⟨vs,ho,hr⟩,h2,h3⟩:=h
 have hl:=r.len hx
 have hG:∀ b,G b∨H b→(S≤b∨Q b)∧b<w₁.heap.size:=fun b hb=>by
  rcases hb with hb | hb
  ·exact h2 b hb
  ·exact ⟨(hH b hb).1,(hH b hb).2.1⟩
 have hno:∀ b,a=some ⟨b,0,none⟩→¬ (G b∨H b):=fun b hb hb'=>by
  rcases hb' with hb' | hb'
  ·exact (h3 b hb).2 hb'
  ·exact (hH b hb').2.2 hb
 have hrow:za6 w₁ (some ⟨B,0,none⟩) cs.toList:=za6.of hn.get fun j v hj=>by simpa using hj
 refine vk5 ho rfl (zu8 hrow (by rw [hl];omega)) (by rw [hl];omega) (r.one hx) hz (fun hg=>Nat.le_trans (Nat.mul_le_mul_right _ (ub4 hg)) hb) (by omega) fun a' c' w' hu ho' hf=>?_
 have hrows:Rows r w' (fun b=>G b∨H b) (vs ++ cs.toList) (l ++ [x]):=Rows.upd hu (fun b hb hb'=>hno b hb' hb) ((Rows.mono (fun _ hb=>.inl hb) hr).append (Rows.single (r.mono hx fun _ hb=>.inr hb)))
 have:=hk a' c' w' hu ⟨_,⟨_,by simpa using ho',hrows⟩,fun b hb=>⟨(hG b hb).1,Nat.lt_of_lt_of_le (hG b hb).2 hu.size⟩,fun b hb=>?_⟩
 ·simpa using this
 ·rcases hf with hf | ⟨b',hb',hl'⟩
  ·subst hf;exact ⟨(h3 b hb).1,hno b hb⟩
  ·rw [hb'] at hb
   cases hb
   exact ⟨Nat.le_trans hS hl',fun hb=>absurd (hG _ hb).2 (by omega)⟩
theorem xd4 {w:World} {a:Option Addr} {l:List UInt8} {c:Nat} (h:za4 w a l) (hn:l.length≤140737488355232) :
  za0 prog K.zp1 #[.slice a l.length c] w fun v w'=>∃ a' c',v= .slice a' l.length c'∧zb6 w' a' l.length c' T.zf7 1 (l.map bv)∧zm9 w a'∧Ext w w':=by
 apply zp1.sh
 unfold zp1.body
 refine ye8 (l:=[]) (cap:=0) (zb6.nil _ _ _) h (by simpa using hn) fun a' c' w' hu ho hf=>?_
 refine ⟨a',c',rfl,ho,?_,hu.mono fun b _ hb=>by cases hb⟩
 rcases hf with hf | ⟨b,hb,hs⟩
 ·rw [hf];exact zm9.none _
 ·rw [hb];exact zm9.some hs
structure va4 (l:List zb2):Prop where
 len:l.length * 72≤140737488351232
 vals:∀ x∈l,x.val.length≤140737488355232
theorem yp6 {w:World} {G:Nat→Prop} {a:Option Addr} {c:Nat} {l:List zb2} (h:zb0 zc4 w G a l) (hG:∀ b,G b→b<w.heap.size) (hf:va4 l) :
  za0 prog K.zg1 #[.slice a l.length c] w fun v w'=>∃ a' c',v= .slice a' l.length c'∧zb4 zc4 NoB w.heap.size w' a' c' T.zc9 l∧Ext w w':=by
 apply zg1.sh
 unfold zg1.body
 have hlen:=hf.len
 refine ⟨fun a1 l1 c1 x u=>∃ i:Nat,x=i∧i≤l.length∧l1=i∧zb4 zc4 NoB w.heap.size u a1 c1 T.zc9 (l.take i)∧Ext w u,fun _ _ _ x _=>((l.length:Int) - x).toNat,⟨0,rfl,by omega,rfl,by simpa using zb4.nil _ _,Upd.refl _ _⟩,?_⟩
 rintro a1 l1 c1 x u ⟨i,rfl,hi,rfl,hl,heu⟩
 refine za8 (fun hlt=>?_) fun hge=>?_
 ·have hi':l1<l.length:=by omega
  intro w2 hd2
  have e2:=heu.trans hd2.upd
  have hs2:=e2.size
  have h2:=h.ext e2
  have hl2:=hl.ext hd2.upd
  have ha1:∀ b,a1=some ⟨b,0,none⟩→w.heap.size≤b∧b<w2.heap.size:=fun b hb=>by
   refine ⟨?_,hl2.lt hb⟩
   obtain ⟨_,_,_,h3⟩:=hl2
   exact (h3 b hb).1
  refine ⟨fun v=>Upd (fun b=>a1=some ⟨b,0,none⟩) w2 v,Upd.refl _ _,?_⟩
  have keep:∀ {b o:Nat} {vs:List Value} {v:World},za6 w2 (some ⟨b,o,none⟩) vs→G b→Upd (fun b=>a1=some ⟨b,0,none⟩) w2 v→za6 v (some ⟨b,o,none⟩) vs:=fun hr hg hv=>za6.upd hr hv fun p hp hx=>by
   cases hp
   have:=hG _ hg
   have:=ha1 _ hx
   simp only at this
   omega
  refine zb0.idx (r:=zc4) h2 rfl hi' fun b1 o1 vs1 _ hrow hR hg=>?_
  obtain ⟨_,_,rfl,_,_,_⟩:=zp6 hR
  refine ⟨_,_,_,_,fun u1 hu1=>(za6.take (keep hrow hg hu1) 4).cells,zb0.idx (r:=zc4) h2 rfl hi' fun b2 o2 vs2 _ hrow2 hR2 hg2=>?_⟩
  obtain ⟨av,cv,rfl,_,hbv,_⟩:=zp6 hR2
  refine ⟨av,l[l1].val.length,cv,fun u1 hu1=>?_,zb0.idx (r:=zc4) h2 rfl hi' fun b3 o3 vs3 _ hrow3 hR3 hg3=>?_⟩
  ·obtain ⟨_,_,e,g⟩:=((keep hrow2 hg2 hu1).drop 4).cell (i:=0) (v:=.slice av l[l1].val.length cv) rfl
   cases e
   exact g
  obtain ⟨_,_,rfl,_,_,_⟩:=zp6 hR3
  refine ⟨l[l1].gone,fun u1 hu1=>?_,(xd4 hbv (hf.vals _ (List.getElem_mem hi'))).mono ?_⟩
  ·obtain ⟨_,_,e,g⟩:=((keep hrow3 hg3 hu1).drop 5).cell (i:=0) (v:=.bool l[l1].gone) rfl
   cases e
   exact g
  rintro _ w3 ⟨a3,c3,rfl,ho3,hf3,he3⟩
  refine ⟨_,_,_,rfl,Upd.ext he3,fun B w4 hn4=>⟨Upd.ext (he3.trans hn4.upd),?_⟩⟩
  have e4:=he3.trans hn4.upd
  have hs3:=he3.size
  have hs4:=hn4.size
  have hl4:=hl2.ext e4
  have ho4:=ho3.ext hn4.upd
  have hil:(l.take l1).length=l1:=by rw [List.length_take];omega
  have ew:IntKind.i64.wrap ((l1:Int)+1)=((l1+1:Nat):Int):=w64 (by omega) (by omega)
  rw [ew]
  refine zb4.push2 (r:=zc4) (H:=fun b=>a3=some ⟨b,0,none⟩) (x:=l[l1]) hl4 (zx5 ho4.2.1 ho4.row (fun _ p hp=>?_)) (fun b hb=>⟨.inl ?_,ho4.blk hb,fun hab=>?_⟩) hn4 hil.symm rfl (by rw [hil];omega) (by rw [hil];omega) (by omega) fun a' c' w5 hu5 hl5=>?_
  ·obtain ⟨_,_,hx⟩:=ho4
   rcases hx with ⟨hx,_⟩| ⟨b',_,hx,_⟩
   ·rw [hx] at hp;cases hp
   ·rw [hx] at hp ⊢;cases hp;rfl
  ·have h5:w2.heap.size≤b:=hf3 _ hb
   omega
  ·have h5:w2.heap.size≤b:=hf3 _ hb
   have:=ha1 b hab
   omega
  have htk:l.take l1 ++ [l[l1]]=l.take (l1+1):=(List.take_succ_eq_append_getElem hi').symm
  rw [htk] at hl5 ⊢
  have hl1:(l.take (l1+1)).length=l1+1:=by rw [List.length_take];omega
  rw [hl1]
  exact ⟨(Upd.ext e4).trans hu5,⟨l1+1,rfl,hi',rfl,hl5,(e2.trans e4).beyond hu5 fun b hb=>(ha1 b hb).1⟩,meas hi'⟩
 ·have:l1=l.length:=by omega
  subst this
  rw [List.take_length] at hl
  exact ⟨_,_,rfl,hl,heu⟩
theorem OwnS.part {α:Type} {r:ERep α} {w:World} {G:Nat→Prop} {b cap:Nat} {e:TypeId} {l:List α} (h:OwnS r w G (some ⟨b,0,none⟩) cap e l) (hG:¬ G b) {i:Nat} (hi:i<l.length) {o:Nat} {us:List Value} (ho:o+us.length≤r.k) {x:α}
  (hx:∀ vs,vs.length=r.k→r.R w G vs l[i]→r.R w G (vs.take o ++ us ++ vs.drop (o+us.length)) x) {K:World→Prop}
  (hk:∀ w',Upd (·=b) w w'→OwnS r w' G (some ⟨b,0,none⟩) cap e (l.set i x)→K w'):za5 w ⟨b,i * r.k+o,none⟩ us K:=by
 obtain ⟨vs,hown,hr⟩:=h
 have hvl:=Rows.len hr
 have hin:i * r.k+r.k≤l.length * r.k:=by
  have:=Nat.mul_le_mul_right r.k (show i+1≤l.length from hi)
  rwa [Nat.succ_mul] at this
 have hgl:((vs.drop (i * r.k)).take r.k).length=r.k:=by rw [List.length_take,List.length_drop];omega
 have hnew:=hx _ hgl (hr.get hi)
 have hset:=hr.set hi hnew
 refine yj6 hown (by omega) fun w' hu ho'=>hk w' hu ⟨vs.take (i * r.k+o) ++ us ++ vs.drop (i * r.k+o+us.length),?_,?_⟩
 ·rw [List.length_set];exact ho'
 ·have hrow:=Rows.upd hu (fun b' hb hb'=>hG (by subst hb';exact hb)) hset
  have e1:vs.take (i * r.k) ++ (((vs.drop (i * r.k)).take r.k).take o ++ us ++ ((vs.drop (i * r.k)).take r.k).drop (o+us.length)) ++ vs.drop (i * r.k+r.k)=vs.take (i * r.k+o) ++ us ++ vs.drop (i * r.k+o+us.length):=by
   rw [List.take_take,Nat.min_eq_left (by omega),List.take_add,List.drop_take,List.drop_drop]
   have e2:(vs.drop (i * r.k+(o+us.length))).take (r.k - (o+us.length)) ++ vs.drop (i * r.k+r.k)=vs.drop (i * r.k+o+us.length):=by
    have e3:vs.drop (i * r.k+r.k)=(vs.drop (i * r.k+(o+us.length))).drop (r.k - (o+us.length)):=by rw [List.drop_drop];congr 1;omega
    rw [e3,List.take_append_drop,Nat.add_assoc]
   rw [← e2]
   simp only [List.append_assoc]
  rw [e1] at hrow
  exact hrow
def xw0 (k:Key):Key:=if k.what=2 then ⟨1+k.ino % 2,1,ByteArray.empty,0⟩ else ⟨1+k.ino % 2,k.what,k.name,k.chunk % 2⟩
def zf6 (c:zb2):zb2:={ c with key:=xw0 c.key }
theorem un7 (x:Int):IntKind.i64.wrap (Int.tmod (IntKind.u64.wrap x) 2)=x % 2:=by
 have hu:IntKind.u64.wrap x=x % 18446744073709551616:=rfl
 have h0:=Int.emod_nonneg x (show (18446744073709551616:Int)≠0 by decide)
 have h1:Int.tmod (x % 18446744073709551616) 2=(x % 18446744073709551616) % 2:=Int.tmod_eq_emod_of_nonneg h0
 rw [hu,h1,w64 (by omega) (by omega)]
 omega
theorem ul7 {w:World} {G:Nat→Prop} {vs:List Value} {x:zb2} (h:zc4.R w G vs x) (n:Int):zc4.R w G (vs.take 0 ++ [.int .i64 n] ++ vs.drop (0+1)) { x with key:={ x.key with ino:=n } }:=by
 obtain ⟨a,c,rfl,h1,h2,h3⟩:=zp6 h
 exact zx5 (x:={ x with key:={ x.key with ino:=n } }) h1 h2 h3
theorem xs8 {w:World} {G:Nat→Prop} {vs:List Value} {x:zb2} (h:zc4.R w G vs x) (n:Int):zc4.R w G (vs.take 3 ++ [.int .i64 n] ++ vs.drop (3+1)) { x with key:={ x.key with chunk:=n } }:=by
 obtain ⟨a,c,rfl,h1,h2,h3⟩:=zp6 h
 exact zx5 (x:={ x with key:={ x.key with chunk:=n } }) h1 h2 h3
theorem ul6 {w:World} {G:Nat→Prop} {vs:List Value} {x:zb2} (h:zc4.R w G vs x) (k:Key):zc4.R w G (vs.take 0 ++ k.vals ++ vs.drop (0+4)) { x with key:=k }:=by
 obtain ⟨a,c,rfl,h1,h2,h3⟩:=zp6 h
 exact zx5 (x:={ x with key:=k }) h1 h2 h3
theorem yc5 {w:World} {G:Nat→Prop} {a:Option Addr} {c:Nat} {l:List zb2} (h:zb0 zc4 w G a l) (hG:∀ b,G b→b<w.heap.size) (hf:va4 l) :
  za0 prog K.ze6 #[.slice a l.length c] w fun v w'=>∃ a' c',v= .slice a' (l.map zf6).length c'∧zb4 zc4 NoB w.heap.size w' a' c' T.zc9 (l.map zf6)∧Ext w w':=by
 apply ze6.sh
 suffices H:∀ R:Value→World→Prop,(∀ v w',(∃ a' c',v= .slice a' (l.map zf6).length c'∧zb4 zc4 NoB w.heap.size w' a' c' T.zc9 (l.map zf6)∧Ext w w')→R v w')→ze6.body a l.length c w R from H _ fun _ _ h=>h
 intro R hR
 unfold ze6.body
 have hlen:=hf.len
 refine (yp6 h hG hf).mono ?_
 rintro _ w1 ⟨a1,c1,rfl,hl1,he1⟩
 refine ⟨_,_,_,rfl,?_⟩
 refine ⟨fun x u=>∃ i:Nat,x=i∧i≤l.length∧zb4 zc4 NoB w.heap.size u a1 c1 T.zc9 ((l.take i).map zf6 ++ l.drop i)∧Ext w u,fun x _=>((l.length:Int) - x).toNat,⟨0,rfl,by omega,by simpa using hl1,he1⟩,?_⟩
 rintro x u ⟨i,rfl,hi,hl,heu⟩
 refine za8 (fun hlt=>?_) fun hge=>?_
 ·have hi':i<l.length:=by omega
  have hml:((l.take i).map zf6 ++ l.drop i).length=l.length:=by simp;omega
  have hget:((l.take i).map zf6 ++ l.drop i)[i]'(by omega)=l[i]:=by
   rw [List.getElem_append_right (by simp;omega)]
   simp [Nat.min_eq_left hi]
  have hsets:∀ y,((l.take i).map zf6 ++ l.drop i).set i y=(l.take i).map zf6 ++ y :: l.drop (i+1):=fun y=>by
   have e0:i - ((l.take i).map zf6).length=0:=by simp;omega
   rw [List.set_append_right _ _ (by simp;omega),e0,List.drop_eq_getElem_cons hi']
   rfl
  have hend:(l.take (i+1)).map zf6 ++ l.drop (i+1)=(l.take i).map zf6 ++ zf6 l[i] :: l.drop (i+1):=by
   rw [List.take_succ_eq_append_getElem hi',List.map_append,List.append_assoc];rfl
  obtain ⟨Gl,ho,hg1,hg2⟩:=hl
  obtain ⟨b,rfl⟩: ∃ b,a1=some ⟨b,0,none⟩:=by
   obtain ⟨_,⟨_,_,hx⟩,_⟩:=ho
   rcases hx with ⟨_,h0,_⟩| ⟨b,_,hx,_⟩
   ·omega
   ·exact ⟨b,hx⟩
  obtain ⟨hSb,hGb⟩:=hg2 b rfl
  have ew:IntKind.i64.wrap ((i:Int)+1)=((i+1:Nat):Int):=w64 (by omega) (by omega)
  rw [ew]
  have at_:∀ {K:Addr→Prop},K ⟨b,i * 6,none⟩→idxP (some ⟨b,0,none⟩) l.length (i:Int) 6 K:=fun {K} hK=>by
   refine ⟨by omega,by omega,?_⟩
   simp only [nilC_some',add_lit,Int.toNat_natCast,Nat.zero_add]
   exact hK
  have read:∀ {v:World} {m:List zb2},OwnS zc4 v Gl (some ⟨b,0,none⟩) c1 T.zc9 m→(hm:i<m.length)→∃ av cv,za6 v (some ⟨b,i * 6,none⟩) (yn8 m[i].key av m[i].val.length cv m[i].gone):=fun {v m} hov hm=>by
   obtain ⟨vs,o1,o2⟩:=hov
   have h1:=(o1.row.drop (i * zc4.k)).take zc4.k
   obtain ⟨av,cv,e,_⟩:=zp6 (o2.get hm)
   rw [e,Nat.zero_add] at h1
   exact ⟨av,cv,h1⟩
  have fin:∀ (v:World) (m:List zb2),OwnS zc4 v Gl (some ⟨b,0,none⟩) c1 T.zc9 m→m=(l.take (i+1)).map zf6 ++ l.drop (i+1)→u.heap.size≤v.heap.size→Ext w v→∃ i':Nat,((i+1:Nat):Int)=i'∧i'≤l.length∧zb4 zc4 NoB w.heap.size v (some ⟨b,0,none⟩) c1 T.zc9 ((l.take i').map zf6 ++ l.drop i')∧Ext w v:=fun v m hov hm hsz hev =>
   ⟨i+1,rfl,hi',⟨Gl,by rw [← hm];exact hov,fun x hx=>⟨(hg1 x hx).1,Nat.lt_of_lt_of_le (hg1 x hx).2 hsz⟩,hg2⟩,hev⟩
  obtain ⟨av0,cv0,hrow0⟩:=read ho (by omega)
  rw [hget] at hrow0
  refine at_ ⟨l[i].key.ino,?_,by decide,at_ ?_⟩
  ·obtain ⟨_,_,e,g⟩:=hrow0.cell (i:=0) (v:=.int .i64 l[i].key.ino) rfl
   cases e
   exact g
  rw [un7,w64 (by omega) (by omega)]
  refine OwnS.part (r:=zc4) (o:=0) ho hGb (by omega) (by show 0+1≤6;decide) (x:={ l[i] with key:={ l[i].key with ino:=1+l[i].key.ino % 2 } }) (fun vs _ hR=>by rw [hget] at hR;exact ul7 hR _) fun w3 hu3 ho3=>?_
  rw [hsets] at ho3
  have hs3:=hu3.size
  have e3:=heu.beyond hu3 fun x hx=>by rw [hx];exact hSb
  have hm3:((l.take i).map zf6 ++ { l[i] with key:={ l[i].key with ino:=1+l[i].key.ino % 2 } } :: l.drop (i+1)).length=l.length:=by simp;omega
  have hget3:∀ y:zb2,((l.take i).map zf6 ++ y :: l.drop (i+1))[i]'(by simp;omega)=y:=fun y=>by
   rw [List.getElem_append_right (by simp;omega)]
   simp [Nat.min_eq_left hi]
  have hsets3:∀ y z:zb2,((l.take i).map zf6 ++ z :: l.drop (i+1)).set i y=(l.take i).map zf6 ++ y :: l.drop (i+1):=fun y z=>by
   have e0:i - ((l.take i).map zf6).length=0:=by simp;omega
   rw [List.set_append_right _ _ (by simp;omega),e0]
   rfl
  obtain ⟨av3,cv3,hrow3⟩:=read ho3 (by omega)
  rw [hget3] at hrow3
  refine at_ ⟨l[i].key.what.toNat,?_,zi1 (fun hw=>?_) fun hw=>?_⟩
  ·obtain ⟨_,_,e,g⟩:=hrow3.cell (i:=1) (v:=bv l[i].key.what) rfl
   cases e
   exact g
  ·have hw':l[i].key.what=2:=vh3 (n:=2) (by decide) hw
   refine at_ ⟨1+l[i].key.ino % 2,?_,at_ ?_⟩
   ·obtain ⟨_,_,e,g⟩:=hrow3.cell (i:=0) (v:=.int .i64 (1+l[i].key.ino % 2)) rfl
    cases e
    exact g
   refine OwnS.part (r:=zc4) (o:=0) ho3 hGb (by omega) (by show 0+4≤6;decide) (x:={ l[i] with key:=⟨1+l[i].key.ino % 2,1,ByteArray.empty,0⟩ }) (fun vs _ hR=>by rw [hget3] at hR;exact ul6 hR ⟨1+l[i].key.ino % 2,1,ByteArray.empty,0⟩) fun w4 hu4 ho4=>?_
   rw [hsets3] at ho4
   have hs4:=hu4.size
   have e4:=e3.beyond hu4 fun x hx=>by rw [hx];exact hSb
   obtain ⟨av4,cv4,hrow4⟩:=read ho4 (by simp;omega)
   rw [hget3] at hrow4
   refine at_ ⟨0,?_,by decide,at_ ?_⟩
   ·obtain ⟨_,_,e,g⟩:=hrow4.cell (i:=3) (v:=.int .i64 0) rfl
    cases e
    exact g
   have ez:IntKind.i64.wrap (Int.tmod (IntKind.u64.wrap 0) 2)=0:=by decide
   rw [ez]
   refine OwnS.part (r:=zc4) (o:=3) ho4 hGb (by simp;omega) (by show 3+1≤6;decide) (x:=zf6 l[i]) (fun vs _ hR=>?_) fun w5 hu5 ho5=>?_
   ·rw [hget3] at hR
    have:=xs8 hR 0
    unfold zf6 xw0
    rw [if_pos hw']
    exact this
   rw [hsets3] at ho5
   have hs5:=hu5.size
   exact ⟨fin w5 _ ho5 hend.symm (by omega) (e4.beyond hu5 fun x hx=>by rw [hx];exact hSb),meas hi'⟩
  ·have hw':¬ l[i].key.what=2:=fun e=>hw (by rw [e];rfl)
   refine at_ ⟨l[i].key.chunk,?_,by decide,at_ ?_⟩
   ·obtain ⟨_,_,e,g⟩:=hrow3.cell (i:=3) (v:=.int .i64 l[i].key.chunk) rfl
    cases e
    exact g
   rw [un7]
   refine OwnS.part (r:=zc4) (o:=3) ho3 hGb (by omega) (by show 3+1≤6;decide) (x:=zf6 l[i]) (fun vs _ hR=>?_) fun w5 hu5 ho5=>?_
   ·rw [hget3] at hR
    have:=xs8 hR (l[i].key.chunk % 2)
    unfold zf6 xw0
    rw [if_neg hw']
    exact this
   rw [hsets3] at ho5
   have hs5:=hu5.size
   exact ⟨fin w5 _ ho5 hend.symm (by omega) (e3.beyond hu5 fun x hx=>by rw [hx];exact hSb),meas hi'⟩
 ·have:i=l.length:=by omega
  subst this
  rw [List.take_length,List.drop_length,List.append_nil] at hl
  have hmm:l.length=(l.map zf6).length:=by simp
  refine hR _ _ ⟨_,_,by rw [hmm],hl,heu⟩
section
section
variable {u:World} {p:Option Addr}
end
def yp9 (sp:Nat):LogS×Nat:=yp2 (zf8 16 8 128 sp) 3
theorem vz0:(yp9 0).2=0∧(yp9 1).2=0:=by decide +kernel
theorem vo7 {sp:Nat} (h:sp≤1):(yp9 sp).2=0∧(yp9 sp).1.facts=[]∧(yp9 sp).1.era=3∧(zf8 16 8 128 sp).SameGeo (yp9 sp).1.chip∧(yp9 sp).1.Fit:=by
 obtain ⟨k,f⟩:=vg6 (c:=zf8 16 8 128 sp) (era:=3) (by show (16:Nat)<20;decide) (by show (8:Nat)≤32;decide) (by show sp≤4;omega)
 have hl:yp2 (zf8 16 8 128 sp) 3=yp9 sp:=rfl
 rw [hl] at k f
 refine ⟨?_,k.facts,k.era,k.geo,f⟩
 have h01:sp=0∨sp=1:=by omega
 rcases h01 with rfl | rfl
 ·exact vz0.1
 ·exact vz0.2
def qc4 (A:Nat) (w:World) (B:Nat) (p q:Nat) (fv:Value) (F X:Nat→Prop) (M:PLoc) (s:LogS):Prop :=
 w.heap[B]?=some (.cells #[.pointer (some ⟨p,0,none⟩),.pointer (some ⟨q,0,none⟩),fv] T.yf6 (0,0))∧M.p=p∧zo1 F X w q M s∧
 (∀ x,F x→A≤x∧x<w.heap.size∧x≠B)∧(∀ x,X x→A≤x∧x<w.heap.size∧x≠B)∧A≤q∧q≠B∧A≤B
theorem yc6 (sp:UInt8) (w:World):za0 prog K.zi8 #[bv sp] w fun v w'=>Ext w w'∧∃ B p q F X M,v= .tuple #[.pointer (some ⟨B,0,none⟩),.bool true]∧qc4 w.heap.size w' B p q (.slice none 0 0) F X M (yp9 (sp.toNat % 2)).1:=by
 apply zi8.sh
 unfold zi8.body
 refine (ye7 sp w).mono ?_
 rintro _ w1 ⟨rfl,he1⟩
 have hs:=sp.toNat_lt
 have hs1:=he1.size
 refine ⟨_,_,_,_,rfl,(qn0 w1 (nb:=16) (np:=8) (sz:=128) (sp:=sp.toNat % 2) (by omega) (by omega) (by omega) (by omega) (by omega) (by omega) (by omega)).mono ?_⟩
 rintro _ w2 ⟨he2,p,rfl,hc2⟩
 have hs2:=he2.size
 have hsp:sp.toNat % 2≤1:=by omega
 generalize sp.toNat % 2=n at *
 obtain ⟨h0,_⟩:=vo7 hsp
 refine ⟨_,_,rfl,(xr1 hc2 (fun x hx=>hx.2) (fun x hx=>hx.2) (by show (16:Nat)<20;decide) (by show (8:Nat)≤32;decide) (by show n≤4;omega) (by decide)).mono ?_⟩
 rintro _ w3 ⟨hu3,_,hv⟩
 have hl:yp2 (zf8 16 8 128 n) 3=yp9 n:=rfl
 rw [hl] at hv
 obtain ⟨M,q,hM,rfl,hq1,hq2,X,_,hX,h3⟩:=hv h0
 have hs3:=hu3.size
 have e3:Ext w w3:=(he1.trans he2).beyond hu3 fun x hx=>by have:=hx.1;omega
 refine ⟨_,_,rfl,?_⟩
 intro B w4 hn4
 have hB:=hn4.num
 have hs4:=hn4.size
 refine zi1 (fun _=>zi1 (fun _=>⟨e3.trans hn4.upd,B,p,q,_,X,M,rfl,hn4.get,hM,h3.ext hn4.upd,fun x hx=>?_,fun x hx=>?_,by omega,by omega,by omega⟩) fun h=>absurd rfl h) fun h=>absurd rfl h
 ·rcases hx with hx | hx
  ·have:=hx.1;have:=hx.2;omega
  ·omega
 ·rcases hX x hx with hx | hx
  ·have:=hx.1;have:=hx.2;omega
  ·omega
end
section
def vv0:List Key:=[⟨1,1,ByteArray.empty,0⟩,⟨2,1,ByteArray.empty,0⟩,⟨1,3,ByteArray.empty,0⟩,⟨1,3,ByteArray.empty,1⟩,⟨2,3,ByteArray.empty,0⟩,⟨2,3,ByteArray.empty,1⟩]
theorem uv9 {c:zb2} (h:mayC (zf6 c)=true):(zf6 c).key∈vv0:=by
 have hm:(xw0 c.key).may=true:=by
  unfold mayC at h
  rw [Bool.and_eq_true] at h
  exact h.1
 show xw0 c.key∈vv0
 obtain ⟨_,_,hk⟩:=Key.may_elim hm
 unfold xw0 at hk ⊢
 have h01:c.key.ino % 2=0∨c.key.ino % 2=1:=by omega
 split
 ·rcases h01 with e | e<;>rw [e]<;>simp [vv0]
 ·rename_i hw
  rw [if_neg hw] at hk
  simp only at hk
  have hc01:c.key.chunk % 2=0∨c.key.chunk % 2=1:=by omega
  rcases hk with ⟨w,hb,hc⟩| ⟨w,_⟩| ⟨w,hb,_⟩
  ·have hn:c.key.name=ByteArray.empty:=xj4 hb
   rw [w,hn,hc]
   rcases h01 with e | e<;>rw [e]<;>simp [vv0]
  ·exact absurd w hw
  ·have hn:c.key.name=ByteArray.empty:=xj4 hb
   rw [w,hn]
   rcases h01 with e | e<;>rcases hc01 with e2 | e2<;>rw [e,e2]<;>simp [vv0]
def Few (l:List Fact):Prop:=∀ f∈l,f.key∈vv0
theorem vs7:∀ {cs:List zb2} {l:List Fact},Few l→(∀ c∈cs,c.key∈vv0)→Few (zt9 l cs)
 | [],l,h,_=>h
 | c :: cs,l,h,hc=>vs7 (cs:=cs) (l:=putF c l) (fun f hf=>by
  rcases xi9 hf with hf | ⟨_,rfl⟩
  ·exact h f hf
  ·exact hc c (by simp)) fun x hx=>hc x (by simp [hx])
theorem qj4 {l:List Fact} (h:Few l) (ho:zg6 l=true) {cs:List zb2} (hp:(putL 128 (cs.map zf6)).2=0):Few (ze0 l (cs.map zf6)):=by
 rw [yh4 ho]
 refine vs7 h fun c hc=>?_
 obtain ⟨x,hx,rfl⟩:=List.mem_map.1 hc
 have hm:=(xq3 (sz:=128) (by decide) (by decide) hp).2
 unfold mayL at hm
 simp only [Bool.and_eq_true,List.all_eq_true] at hm
 exact uv9 (hm.2 _ hc)
theorem qj5 {l:List Fact} (h:Few l) (ho:zg6 l=true):l.length≤6:=by
 have hs:=zq0.1 ho
 have hn:(l.map Fact.key).Nodup:=by
  rw [List.nodup_iff_pairwise_ne,List.pairwise_map]
  exact hs.imp fun hab=>xs9 hab
 have:=vc5 (l:=l.map Fact.key) (m:=vv0) hn fun k hk=>by
  obtain ⟨f,hf,rfl⟩:=List.mem_map.1 hk
  exact h f hf
 simpa [vv0] using this
structure yp8 (s:LogS) (fs:List Fact) (n N:Nat):Prop where
 log:yd9 s
 fit:s.Fit
 era:s.era=3
 nb:s.chip.nb=16
 np:s.chip.np=8
 sz:s.chip.sz=128
 good:ye0 n s.facts
 fine:Fine 128 s.facts
 tfine:Fine 128 (told (partsC s.chip 3))
 low:1≤lowL (partsC s.chip 3)
 last:s.pool.last≤N
 room:Room s.chip
 hits:s.chip.hits.length≤2
 fierce:zw2 s.chip
 few:zr6 s.chip<2→told (partsC s.chip 3)=s.facts∧s.facts=fs∧Few s.facts
 gfs:ye0 n fs
 ord:zg6 fs=true
theorem yp8.mono {s:LogS} {fs:List Fact} {n N n' N':Nat} (h:yp8 s fs n N) (hn:n≤n') (hN:N≤N'):yp8 s fs n' N' :=
 ⟨h.log,h.fit,h.era,h.nb,h.np,h.sz,h.good.mono hn,h.fine,h.tfine,h.low,Nat.le_trans h.last hN,h.room,h.hits,h.fierce,h.few,h.gfs.mono hn,h.ord⟩
def vl2 (s:LogS):Prop:=s.chip.hits=[]∧zr6 s.chip=0
theorem vr8 {c d:Chip} (hg:c.SameGeo d) (hb:d.bad=c.bad):zr6 d=zr6 c:=by
 unfold zr6
 rw [hg.1]
 congr 1
 refine List.filter_congr fun j _=>?_
 unfold Chip.isBad
 rw [hb]
def xp3 (n:Nat):Nat:=64 * (n+3)
theorem qh0 {s:LogS} {fs:List Fact} {n N:Nat} (h:yp8 s fs n N) (hb:zr6 s.chip<2):s.facts.length+2≤s.chip.np:=by
 have:=qj5 (h.few hb).2.2 h.fine.ord
 have:=h.np
 omega
theorem qe0 {s:LogS} {fs:List Fact} {n N:Nat} (h:yp8 s fs n N) (hn:n≤1000000) (hN:N≤1000000000000) {l:List zb2} (hp:(putL 128 (l.map zf6)).2=0) :
  (vl2 s→vl2 (s.put (l.map zf6)).1)∧(((s.put (l.map zf6)).2=0∧yp8 (s.put (l.map zf6)).1 (ze0 fs (l.map zf6)) (n+255) (N+xp3 n))∨((s.put (l.map zf6)).2=11∧2≤zr6 (s.put (l.map zf6)).1.chip∧yp8 (s.put (l.map zf6)).1 fs (n+255) (N+xp3 n))):=by
 have hlen:=h.good.len
 have hnb:=h.nb
 have hstep:16 * (2+2) * (s.facts.length+3)≤xp3 n:=by unfold xp3;omega
 have hlast:=h.last
 have hsn:xp3 n≤64000192:=by unfold xp3;omega
 have P:=uw9 (H:=2) (cs:=l.map zf6) h.log (by rw [h.sz];exact h.fine) (by rw [h.sz];exact hp) h.hits (by rw [hnb];omega)
 have pf:=LogS.put_fit h.fit (l.map zf6)
 have pg:=LogS.put_good h.fit h.good (l.map zf6)
 have pfi:=LogS.put_fierce h.fierce (l.map zf6)
 have hgc:=xe3 (size:=128) (cs:=l.map zf6) hp
 generalize s.put (l.map zf6)=r at *
 have hne:r.2≠10:=fun e=>by have:=P.dead e;rw [pfi.1] at this;cases this
 have hera:=h.era
 have pfine:=P.fine
 have ptell:=P.tell
 have plow:=P.low
 have pwell:=P.well
 have phi:=P.hi
 rw [hera] at pfine ptell plow
 rw [h.sz] at pfine
 rw [hnb] at phi
 have hroom:Room r.1.chip∧(r.2=11→2≤zr6 r.1.chip):=by
  by_cases hb:zr6 s.chip<2
  ·exact P.room (qh0 h hb) h.room hne
  ·have:=Nat.le_trans (Nat.le_of_not_lt hb) P.bads
   exact ⟨.inr this,fun _=>this⟩
 have base:∀ fs':List Fact,Fine 128 r.1.facts→(zr6 r.1.chip<2→told (partsC r.1.chip 3)=r.1.facts∧r.1.facts=fs'∧Few r.1.facts)→ye0 (n+255) fs'→zg6 fs'=true→yp8 r.1 fs' (n+255) (N+xp3 n):=fun fs' hf hfew hg ho =>
  ⟨P.log hne,pf.1,P.era.trans hera,by rw [P.geo.1];exact h.nb,by rw [P.geo.2.1];exact h.np,by rw [P.geo.2.2.1];exact h.sz,pg,hf,pfine h.tfine,Nat.le_trans h.low plow,by omega,hroom.1,Nat.le_trans P.hits h.hits,pfi,hfew,hg,ho⟩
 refine ⟨fun hq=>?_,?_⟩
 ·have c1:=P.calm (by rw [hq.1];exact (fun _ h=>by cases h))
  exact ⟨(P.still hq.1).1,by rw [vr8 P.geo c1.2.1];exact hq.2⟩
 rcases P.err with e | e | e
 ·left
  refine ⟨e,?_⟩
  have hfacts:r.1.facts=ze0 s.facts (l.map zf6):=by
   rcases P.facts with ⟨_,hf⟩| ⟨hx,_⟩
   ·exact hf
   ·exact absurd e hx
  refine base _ ?_ (fun hb=>?_) ?_ (yh3 _ _)
  ·rw [hfacts]
   exact h.fine.put (by decide) (by decide) hp
  ·obtain ⟨f1,f2,f3⟩:=h.few (Nat.lt_of_le_of_lt P.bads hb)
   refine ⟨?_,by rw [hfacts,f2],by rw [hfacts];exact qj4 f3 h.fine.ord hp⟩
   rcases ptell f1 with ⟨hx,_⟩| ht
   ·exact absurd e hx
   ·rw [ht,hfacts]
  ·exact h.gfs.apply hgc
 ·exact absurd e hne
 ·right
  refine ⟨e,hroom.2 e,base _ ?_ (fun hb=>absurd (hroom.2 e) (by omega)) (h.gfs.mono (by omega)) h.ord⟩
  rcases P.facts with ⟨hx,_⟩| ⟨_,hf⟩
  ·omega
  ·rw [hf];exact h.fine
theorem uw2 {s:LogS} {fs:List Fact} {n N:Nat} (h:yp8 s fs n N) (hn:n≤1000000) (hN:N≤1000000000000) {b:Int} (hb8:b<8) :
  (vl2 s→vl2 (s.tidy b).1)∧yp8 (s.tidy b).1 fs (n+255) (N+xp3 n)∧(((s.tidy b).2=0∧b≤(zh3 (s.tidy b).1.pool (s.tidy b).1.chip:Int))∨((s.tidy b).2=11∧2≤zr6 (s.tidy b).1.chip)):=by
 have hlen:=h.good.len
 have hnb:=h.nb
 have hstep:16 * (2+2) * (s.facts.length+2)≤xp3 n:=by unfold xp3;omega
 have hlast:=h.last
 have hsn:xp3 n≤64000192:=by unfold xp3;omega
 have P:=uv5 (H:=2) (b:=b) h.log (by rw [h.sz];exact h.fine) h.hits (by rw [hnb];omega)
 have pf:=LogS.tidy_fit h.fit b
 have pfi:=LogS.tidy_fierce h.fierce b
 generalize s.tidy b=r at *
 have hne:r.2≠10:=fun e=>by have:=P.dead e;rw [pfi.1] at this;cases this
 have hera:=h.era
 have pfine:=P.fine
 have ptell:=P.told
 have plow:=P.low
 have phi:=P.hi
 rw [hera] at pfine ptell plow
 rw [h.sz] at pfine
 rw [hnb] at phi
 have hroom:Room r.1.chip∧(r.2=11→2≤zr6 r.1.chip):=by
  by_cases hb:zr6 s.chip<2
  ·have:=P.room (qh0 h hb) h.room hne
   refine ⟨this.1,fun e=>?_⟩
   rcases this.2 e with h1 | h1
   ·exact h1
   ·omega
  ·have:=Nat.le_trans (Nat.le_of_not_lt hb) P.bads
   exact ⟨.inr this,fun _=>this⟩
 refine ⟨fun hq=>?_,⟨P.log hne,pf.2,P.era.trans hera,by rw [P.geo.1];exact h.nb,by rw [P.geo.2.1];exact h.np,by rw [P.geo.2.2.1];exact h.sz,by rw [P.facts];exact h.good.mono (by omega),by rw [P.facts];exact h.fine,pfine h.tfine,Nat.le_trans h.low plow,by omega,hroom.1,Nat.le_trans P.hits h.hits,pfi,fun hb=>?_,h.gfs.mono (by omega),h.ord⟩,?_⟩
 ·have c1:=P.calm (by rw [hq.1];exact (fun _ h=>by cases h))
  exact ⟨(P.still hq.1).1,by rw [vr8 P.geo c1.2];exact hq.2⟩
 ·obtain ⟨f1,f2,f3⟩:=h.few (Nat.lt_of_le_of_lt P.bads hb)
  rw [P.facts]
  exact ⟨ptell f1,f2,f3⟩
 ·rcases P.err with e | e | e
  ·exact .inl ⟨e,P.ok e⟩
  ·exact absurd e hne
  ·exact .inr ⟨e,hroom.2 e⟩
theorem vo3 {c:Chip} {era:Nat} (h:Well c era):Well c.power era:=⟨vt9 h.ci,h.safe,h.drops,h.mine⟩
theorem uo1 {l:List Part} (h:1≤lowL l):l≠[]:=fun e=>by rw [e] at h;exact absurd h (by decide)
theorem uy2 {c:Chip} (h:Well c 3) (hnb:c.nb=16) (hnp:c.np=8) (hsz:c.sz=128) (hsp:c.sp≤4) (hlow:1≤lowL (partsC c 3)) (hfine:Fine 128 (told (partsC c 3))) {N:Nat} (hl:∀ i,i<c.nb→isHd c i→(hd c i).1.seq≤N) (hroom:Room c)
  {fs:List Fact} {n:Nat} (hfew:zr6 c<2→told (partsC c 3)=fs∧Few fs) (hg:ye0 n fs) (ho:zg6 fs=true) :
  (zu6 c.power 3).2=0∧(zu6 c.power 3).1.chip=c.power∧(zu6 c.power 3).1.facts=told (partsC c 3)∧yp8 (zu6 c.power 3).1 fs (max n 163200) N:=by
 have hw:=vo3 h
 obtain ⟨k1,k2,k3,k4,k5⟩:=xm9 (c:=c.power) (era:=3) hw.ci.ok (by show c.nb<20;omega) hsp
 rcases uy3 hw rfl (by decide) (by decide) with ⟨e,_⟩| ⟨_,o1,o2,o3,o4,o5,o6⟩
 ·exact absurd e (uo1 hlow)
 ·refine ⟨o1,o4,o3,⟨o2,k4,o5,by rw [o4];exact hnb,by rw [o4];exact hnp,by rw [o4];exact hsz,k5.mono (by omega),by rw [o3];exact hfine,by rw [o4];exact hfine,by rw [o4];exact hlow,?_,by rw [o4];exact hroom,by rw [o4];exact Nat.zero_le _,by rw [o4];exact ⟨rfl,(fun _ h=>by cases h)⟩,fun hb=>?_,hg.mono (by omega),ho⟩⟩
  ·rw [o6]
   exact (yq5 hw.ci rfl).2 N hl
  ·rw [o4] at hb
   obtain ⟨f1,f2⟩:=hfew hb
   have f1':told (partsC c.power 3)=fs:=f1
   rw [o3,o4,f1']
   exact ⟨rfl,rfl,f2⟩
theorem uw3 {s:LogS} {fs:List Fact} {n N:Nat} (h:yp8 s fs n N):(zu6 s.chip.power 3).2=0∧(zu6 s.chip.power 3).1.chip=s.chip.power∧(vl2 s→vl2 (zu6 s.chip.power 3).1)∧yp8 (zu6 s.chip.power 3).1 fs (max n 163200) N:=by
 have hw:=h.log.well
 rw [h.era] at hw
 obtain ⟨a,b,_,d⟩:=uy2 hw h.nb h.np h.sz h.fit.sp h.low h.tfine (N:=N) (fun i hi hh=>Nat.le_trans (h.log.inv.last i hi hh) h.last) h.room (fs:=fs) (n:=n) (fun hb=>by
  obtain ⟨f1,f2,f3⟩:=h.few hb
  exact ⟨f1.trans f2,by rw [← f2];exact f3⟩) h.gfs h.ord
 exact ⟨a,b,fun hq=>⟨by rw [b];rfl,by rw [b];exact hq.2⟩,d⟩
section
variable {nb np sz sp:Nat}
theorem ut6 {i k:Nat} (hi:i<nb) (hk:k<np):(zf8 nb np sz sp).page i k=List.replicate sz 255:=by
 have hb:(zf8 nb np sz sp).blk i=List.replicate (np * sz) 255:=by
  unfold Chip.blk
  show (List.replicate nb (List.replicate (np * sz) 255)).getD i []=_
  rw [List.getD_eq_getElem?_getD,List.getElem?_replicate,if_pos hi];rfl
 unfold Chip.page
 rw [hb]
 show ((List.replicate (np * sz) 255).drop (k * sz)).take sz=_
 rw [List.drop_replicate,List.take_replicate]
 congr 1
 have:=xn2 (sz:=sz) hk
 omega
theorem qa4 (j:Nat):(zf8 nb np sz sp).isBad j=false:=by
 unfold Chip.isBad
 show (List.replicate nb false).getD j false=false
 rw [List.getD_eq_getElem?_getD,List.getElem?_replicate]
 split<;>rfl
theorem xu8 (nb1:8≤nb) (nb2:nb≤64) (np1:4≤np) (np2:np≤32) (sz1:128≤sz) (sz2:sz≤256) (era:Nat) :
  Well (zf8 nb np sz sp) era∧zy4 0 (zf8 nb np sz sp)=0∧zr6 (zf8 nb np sz sp)=0∧partsC (zf8 nb np sz sp) era=[]∧∀ i,i<nb→¬ isHd (zf8 nb np sz sp) i:=by
 obtain ⟨hci,hno⟩:=qm7 (sp:=sp) nb1 nb2 np1 np2 sz1 sz2 (zf8 nb np sz sp) rfl
 have hparts:partsC (zf8 nb np sz sp) era=[]:=by
  refine List.eq_nil_iff_forall_not_mem.2 fun p hp=>?_
  obtain ⟨i,h1,h2,_⟩:=(zj9 hci).1 hp
  exact hno i h1 h2
 refine ⟨⟨hci,fun i k hi hk=>?_,fun p hp=>(by rw [hparts] at hp;cases hp),fun i hi hh=>absurd hh (hno i hi)⟩,?_,?_,hparts,hno⟩
 ·have hp:=ut6 (nb:=nb) (np:=np) (sz:=sz) (sp:=sp) (i:=i) (k:=k) hi hk
  rw [hp]
  exact xh4 sz sz1 sz2
 ·unfold zy4
  rw [List.length_eq_zero_iff,List.filter_eq_nil_iff]
  intro j hj hh
  simp only [Bool.and_eq_true,yx4] at hh
  exact hno j (by simpa using hj) hh.1.1
 ·unfold zr6
  rw [List.length_eq_zero_iff,List.filter_eq_nil_iff]
  intro j hj hh
  rw [qa4] at hh;cases hh
theorem ut7 (nb1:8≤nb) (nb2:nb≤64) (np1:4≤np) (np2:np≤32) (sz1:128≤sz) (sz2:sz≤256):(zh5 (zf8 nb np sz sp)).last=0:=by
 obtain ⟨hw,_,_,_,hno⟩:=xu8 (sp:=sp) nb1 nb2 np1 np2 sz1 sz2 0
 have:=(yq5 hw.ci rfl).2 0 fun i hi hh=>absurd hh (hno i hi)
 omega
theorem us5 (nb1:8≤nb) (nb2:nb≤64) (np1:4≤np) (np2:np≤32) (sz1:128≤sz) (sz2:sz≤256) {era:Nat} (he1:1≤era):yp2 (zf8 nb np sz sp) era=(LogS.new (zf8 nb np sz sp) era).anew:=by
 obtain ⟨hw,_,_,hp,_⟩:=xu8 (sp:=sp) nb1 nb2 np1 np2 sz1 sz2 era
 have ho:=ua4 hw.ci (c:=zf8 nb np sz sp) rfl era
 rw [hp] at ho
 have ho':ownL era (zc1 (zh5 (zf8 nb np sz sp)) (zf8 nb np sz sp))=[]:=List.map_eq_nil_iff.1 ho.symm
 unfold yp2
 rw [if_neg (show ¬ (zf8 nb np sz sp).dead=true from fun h=>by cases h),if_neg (by omega),ho',if_neg (by simp)]
theorem us6 (nb1:8≤nb) (nb2:nb≤64) (np1:4≤np) (np2:np≤32) (sz1:128≤sz) (sz2:sz≤256) {era:Nat} (he1:1≤era) (he2:era<4294967296) (h0:(yp2 (zf8 nb np sz sp) era).2=0) :
  yd9 (yp2 (zf8 nb np sz sp) era).1∧(zf8 nb np sz sp).SameGeo (yp2 (zf8 nb np sz sp) era).1.chip∧told (partsC (yp2 (zf8 nb np sz sp) era).1.chip era)=[]∧1≤lowL (partsC (yp2 (zf8 nb np sz sp) era).1.chip era)∧
   (yp2 (zf8 nb np sz sp) era).1.pool.last≤nb * 4∧zy4 0 (yp2 (zf8 nb np sz sp) era).1.chip≤1∧(yp2 (zf8 nb np sz sp) era).1.chip.hits=[]∧(yp2 (zf8 nb np sz sp) era).1.chip.dead=false∧(yp2 (zf8 nb np sz sp) era).1.facts=[]∧
   zr6 (yp2 (zf8 nb np sz sp) era).1.chip=0:=by
 obtain ⟨hw,hl,hb,hp,hno⟩:=xu8 (sp:=sp) nb1 nb2 np1 np2 sz1 sz2 era
 have hlog:=ub5 hw rfl he1 he2
 have hlast:=ut7 (sp:=sp) nb1 nb2 np1 np2 sz1 sz2
 rw [us5 nb1 nb2 np1 np2 sz1 sz2 he1] at h0 ⊢
 have hlen:(LogS.new (zf8 nb np sz sp) era).pool.last=0:=hlast
 have hnbe:(LogS.new (zf8 nb np sz sp) era).chip.nb=nb:=rfl
 have hfe:(LogS.new (zf8 nb np sz sp) era).facts=[]:=rfl
 have hnpe:(LogS.new (zf8 nb np sz sp) era).chip.np=np:=rfl
 have hhe:(LogS.new (zf8 nb np sz sp) era).chip.hits=[]:=rfl
 have hbe:(LogS.new (zf8 nb np sz sp) era).chip.bad=(zf8 nb np sz sp).bad:=rfl
 have hge:(LogS.new (zf8 nb np sz sp) era).chip=zf8 nb np sz sp:=rfl
 have hee:(LogS.new (zf8 nb np sz sp) era).era=era:=rfl
 have A:=um5 (H:=0) hlog (by rw [hfe];exact Fine.nil _) (by rw [hhe];exact Nat.le_refl _) (by rw [hlen,hnbe,hfe];show 0+nb * 2 * 2 < _;omega)
 generalize LogS.new (zf8 nb np sz sp) era=s at *
 have ahi:=A.hi
 rw [hlen,hnbe,hfe] at ahi
 have at0:=A.told0 h0
 have al:=A.low1 h0
 rw [hee] at at0 al
 have asame:=(A.calm (by rw [hhe];exact (fun _ h=>by cases h))).2
 have alog:=A.log (by omega)
 have hg:=A.geo
 rw [hge] at hg
 refine ⟨alog,hg,by rw [at0];exact hfe,al,?_,A.one (by rw [hfe,hnpe];show 0+2≤np;omega) h0,(A.still hhe).1,alog.alive,A.facts.trans hfe,?_⟩
 ·have:(0:Nat)+nb * (0+2) * ([]:List Fact).length.succ.succ=nb * 4:=by simp [Nat.mul_assoc]
  have e2:nb * (0+2) * (([]:List Fact).length+2)=nb * 4:=by simp [Nat.mul_assoc]
  omega
 ·have e:zr6 s.anew.1.chip=zr6 (zf8 nb np sz sp):=by
   unfold zr6
   rw [hg.1]
   congr 1
   refine List.filter_congr fun j _=>?_
   unfold Chip.isBad
   rw [asame,hbe]
  rw [e];exact hb
end
theorem vo6 {sp:Nat} (hsp:sp≤1):yp8 (yp9 sp).1 [] 0 1000∧vl2 (yp9 sp).1:=by
 obtain ⟨r0,rf,re,rg,fit⟩:=vo7 hsp
 obtain ⟨m1,m2,m3,m4,m5,m6,m7,m8,m9,m10⟩:=us6 (nb:=16) (np:=8) (sz:=128) (sp:=sp) (by decide) (by decide) (by decide) (by decide) (by decide) (by decide) (era:=3) (by decide) (by decide) r0
 have hl:yp2 (zf8 16 8 128 sp) 3=yp9 sp:=rfl
 rw [hl] at m1 m2 m3 m4 m5 m6 m7 m8 m9 m10
 generalize (yp9 sp).1=s at *
 have hnb:s.chip.nb=16:=rg.1
 exact ⟨⟨m1,fit,re,hnb,rg.2.1,rg.2.2.1,by rw [rf];exact ye0.nil,by rw [rf];exact Fine.nil _,by rw [m3];exact Fine.nil _,m4,by omega,.inl (by rw [hnb];omega),by rw [m7];exact Nat.zero_le _,⟨m8,by rw [m7];exact (fun _ h=>by cases h)⟩,fun _=>⟨by rw [m3,rf],rf,by rw [rf];exact (fun _ h=>by cases h)⟩,ye0.nil,rfl⟩,m7,m10⟩
theorem yj3 (c:Chip) (hs:List Hit):(c.setHits hs).1=c∨(c.setHits hs).1={ c with hits:=hs,since:=0 }:=by
 unfold Chip.setHits
 split
 ·exact .inl rfl
 ·exact .inr rfl
theorem yd9.hits {s:LogS} (h:yd9 s) (hs:List Hit) (n:Int):yd9 { s with chip:={ s.chip with hits:=hs,since:=n } }:=by
 have hi:=h.inv
 have hc:=hi.ci
 have ok:=hc.ok
 have ok':({ s.chip with hits:=hs,since:=n }:Chip).Ok:=⟨ok.nb1,ok.nb2,ok.np1,ok.np2,ok.sz1,ok.sz2,ok.bl,ok.bl2,ok.bad⟩
 have ci':CI ({ s.chip with hits:=hs,since:=n }:Chip):=⟨ok',hc.safe,hc.uniq⟩
 refine ⟨⟨ci',hi.len,hi.known,hi.last⟩,h.alive,h.turn,h.era1,h.era2,⟨ci',h.well.safe,h.well.drops,h.well.mine⟩,?_⟩
 rcases h.open_ with o | o | ⟨i,a,t,p,o⟩
 ·exact .inl o
 ·exact .inr (.inl o)
 ·exact .inr (.inr ⟨i,a,t,p,⟨o.blk,o.parts,o.pb,o.quiet,o.good,o.page,o.open_⟩⟩)
theorem uw4 {s:LogS} {fs:List Fact} {n N:Nat} (h:yp8 s fs n N) {hs:List Hit} (hl:hs.length≤2) (hf:∀ t∈hs,t.fails=true):yp8 { s with chip:=(s.chip.setHits hs).1 } fs n N:=by
 rcases yj3 s.chip hs with e | e
 ·rw [e];exact h
 ·rw [e]
  exact ⟨h.log.hits hs 0,⟨h.fit.nb,h.fit.np,h.fit.sp,h.fit.page,h.fit.last⟩,h.era,h.nb,h.np,h.sz,h.good,h.fine,h.tfine,h.low,h.last,h.room,hl,⟨h.fierce.1,hf⟩,h.few,h.gfs,h.ord⟩
end
def ug4 (A:Nat) (w:World) (B:Nat) (fs:List Fact) (s:LogS):Prop:=∃ (F X Y:Nat→Prop) (M:PLoc) (q:Nat) (a:Option Addr) (cap:Nat),
 qc4 A w B M.p q (.slice a fs.length cap) F X M s∧zb0 zg2 w Y a fs∧∀ x,Y x→A≤x∧x<w.heap.size∧¬ F x∧x≠q∧x≠B
theorem ug4.ext {A:Nat} {w w':World} {B:Nat} {fs:List Fact} {s:LogS} (h:ug4 A w B fs s) (k:Ext w w'):ug4 A w' B fs s:=by
 obtain ⟨F,X,Y,M,q,a,cap,⟨h1,h2,h3,h4,h5,h6,h7,h8⟩,hy,hyb⟩:=h
 have hs:=k.size
 exact ⟨F,X,Y,M,q,a,cap,⟨Ext.get k h1,h2,h3.ext k,fun x hx=>by have:=h4 x hx;omega,fun x hx=>by have:=h5 x hx;omega,h6,h7,h8⟩,hy.ext k,fun x hx=>by have:=hyb x hx;exact ⟨this.1,by omega,this.2.2.1,this.2.2.2⟩⟩
theorem yd7 {F:Nat→Prop} {A:Nat} {w:World} {p:Nat} {c:Chip} (h:CIn F A w p c) (hnb:c.nb=16) :
  za0 prog K.zh2 #[.pointer (some ⟨p,0,none⟩)] w fun v w'=>v= .int .i64 (zr6 c:Nat)∧w'=w:=by
 apply zh2.sh
 unfold zh2.body
 refine ⟨fun x y u=>∃ i:Nat,y=i∧i≤16∧x=(((List.range i).filter fun j=>c.isBad j).length:Nat)∧u=w,fun _ y _=>((16:Int) - y).toNat,⟨0,rfl,by omega,rfl,rfl⟩,?_⟩
 rintro x y u ⟨i,rfl,hi,rfl,rfl⟩
 have hcnt:((List.range i).filter fun j=>c.isBad j).length≤i:=by
  have:=List.length_filter_le (fun j=>c.isBad j) (List.range i)
  simpa using this
 refine za8 (fun hlt=>?_) fun hge=>?_
 ·refine (cBad h i).mono ?_
  rintro _ v ⟨rfl,hv⟩
  obtain rfl:u=v:=hv.symm
  have ew:IntKind.i64.wrap ((i:Int)+1)=((i+1:Nat):Int):=w64 (by omega) (by omega)
  have ew2:IntKind.i64.wrap ((((List.range i).filter fun j=>c.isBad j).length:Nat)+1)=((((List.range i).filter fun j=>c.isBad j).length+1:Nat):Int):=w64 (by omega) (by omega)
  have hd:decide (0≤(i:Int))=true:=decide_eq_true (by omega)
  rw [ew,ew2]
  refine ⟨_,rfl,zc0 (fun hb=>?_) fun hb=>?_⟩
  ·rw [hd,Bool.true_and,Int.toNat_natCast] at hb
   refine ⟨⟨i+1,rfl,by omega,?_,rfl⟩,by show ((16:Int) - ((i+1:Nat):Int)).toNat<((16:Int) - (i:Int)).toNat;omega⟩
   rw [List.range_succ,List.filter_append,List.length_append]
   simp [hb]
  ·rw [hd,Bool.true_and,Int.toNat_natCast] at hb
   refine ⟨⟨i+1,rfl,by omega,?_,rfl⟩,by show ((16:Int) - ((i+1:Nat):Int)).toNat<((16:Int) - (i:Int)).toNat;omega⟩
   rw [List.range_succ,List.filter_append,List.length_append]
   simp [hb]
 ·have:i=16:=by omega
  subst this
  unfold zr6
  rw [hnb]
  exact ⟨rfl,rfl⟩
theorem qe1 {s:LogS} {fs:List Fact} {n N:Nat} (h:yp8 s fs n N):zk3 (lowL (partsL s.chip 3 (zc5 s.chip))) (partsL s.chip 3 (zc5 s.chip))=told (partsC s.chip 3):=by
 have e:zc5 s.chip=heads s.chip:=by rw [← vc1 h.log.inv h.log.alive,yx5 h.log.inv h.log.alive]
 rw [e];rfl
theorem xb5 {A:Nat} {w:World} {B:Nat} {fs:List Fact} {s:LogS} {n N:Nat} (hm:ug4 A w B fs s) (hp:yp8 s fs n N) (hn:n≤1000000) (hb:zr6 s.chip<2) :
  za0 prog K.zg7 #[.pointer (some ⟨B,0,none⟩)] w fun v w'=>v= .bool true∧Ext w w':=by
 obtain ⟨F,X,Y,M,q,a,cap,⟨h1,_,h3,h4,h5,h6,h7,h8⟩,hy,hyb⟩:=hm
 obtain ⟨f1,f2,f3⟩:=hp.few hb
 have hrt:=(qe1 hp).trans (f1.trans f2)
 have hgl:=hp.gfs.len
 have hvl:=hp.gfs.vals' (m:=1000000000000) (by omega)
 apply zg7.sh
 unfold zg7.body
 intro w1 hd1
 have e1:=hd1.upd
 refine ⟨fun v=>Ext w1 v,Upd.refl _ _,?_⟩
 simp only [nilC_some',add_lit,Nat.zero_add]
 have g1:=Ext.get e1 h1
 refine ⟨_,fun v hv=>za2 (Ext.get hv g1) rfl,a,_,cap,fun v hv=>za2 (Ext.get hv g1) rfl,(zt6 (h3.ext e1).pool.chip.cin hp.log.alive 3).mono ?_⟩
 rw [hrt]
 rintro _ w2 ⟨a2,c2,rfl,hl2,he2⟩
 have e2:=e1.trans he2
 obtain ⟨G2,hG2,_⟩:=hl2.slice
 refine ⟨_,_,_,rfl,he2,(ze3 hG2 (hy.ext e2) (by omega) hvl).mono ?_⟩
 rintro _ w3 ⟨rfl,he3⟩
 have e3:=e2.trans he3
 have e13:=he2.trans he3
 rw [decide_eq_true (rfl:fs=fs)]
 refine ⟨_,rfl,e13,?_⟩
 rw [br_true]
 refine ⟨_,fun v hv=>za2 (Ext.get hv g1) rfl,a,_,cap,fun v hv=>za2 (Ext.get hv g1) rfl,(yn4 (h3.ext e3) (by rw [f2];omega) (by rw [f2];exact hp.gfs.vals' (by omega))).mono ?_⟩
 rw [f2,yr5 hp.ord]
 rintro _ w4 ⟨a4,c4,rfl,hl4,he4⟩
 have e4:=e3.trans he4
 have e14:=e13.trans he4
 obtain ⟨G4,hG4,_⟩:=hl4.slice
 refine ⟨_,_,_,rfl,e14,(ze3 hG4 (hy.ext e4) (by omega) hvl).mono ?_⟩
 rintro _ w5 ⟨rfl,he5⟩
 have e5:=e4.trans he5
 have e15:=e14.trans he5
 rw [decide_eq_true (rfl:fs=fs)]
 refine ⟨_,rfl,e15,?_⟩
 rw [br_true]
 refine ⟨_,fun v hv=>za2 (Ext.get hv g1) rfl,_,fun v hv=>za2 (Ext.get hv g1) rfl,(xf1 (h3.ext e5)).mono ?_⟩
 rintro _ w6 ⟨rfl,he6⟩
 have e6:=e5.trans he6
 have e16:=e15.trans he6
 have hbr:=vr7 hp.log.inv hp.log.alive
 refine ⟨_,rfl,e16,?_⟩
 obtain ⟨L,G,hc,_⟩:=(h3.ext e6).pool.chip
 refine (yy4 hc).mono ?_
 rintro _ w7 ⟨rfl,he7⟩
 have e7:=e6.trans he7
 have e17:=e16.trans he7
 refine ⟨_,rfl,e17,zi1 (fun _=>?_) fun hne=>absurd (by rw [hbr]) hne⟩
 refine ⟨_,fun v hv=>za2 (Ext.get hv g1) rfl,_,fun v hv=>za2 (Ext.get hv g1) rfl,(vu7 (h3.ext e7)).mono ?_⟩
 rintro _ w8 ⟨rfl,he8⟩
 exact ⟨_,rfl,e17.trans he8,rfl,by simp,e7.trans he8⟩
theorem xm2 {l:List zb2} (h:yw0 l):yw0 (l.map zf6):=fun x hx=>by
 obtain ⟨c,hc,rfl⟩:=List.mem_map.1 hx
 have:=h c hc
 show (xw0 c.key).name.size < _
 unfold xw0
 split
 ·exact (by decide:(0:Nat)<9223372036854775807)
 ·exact this
def qc7 (A:Nat) (B:Nat) (s:LogS) (n N:Nat) (w w':World) (v:Value):Prop:=v= .bool true∧Upd (fun x=>A≤x) w w'∧∃ fs' s',ug4 A w' B fs' s'∧(vl2 s→vl2 s')∧yp8 s' fs' (max n 163200+255) (N+xp3 n)
theorem qk7 {A:Nat} {w0 w:World} {B:Nat} {fs:List Fact} {s:LogS} {n N:Nat} (hm:ug4 A w0 B fs s) (hk:Ext w0 w) (hp:yp8 s fs n N) (hn:n≤1000000) (hN:N≤1000000000000)
  {G:Nat→Prop} {ac:Option Addr} {cc:Nat} {l:List zb2} (hc:zb0 zc4 w G ac (l.map zf6)) (hG:∀ b,G b→w0.heap.size≤b) (hs:yw0 l) (hl:l.length<9000000000000000000) {R:Value→World→Prop}
  (hR:∀ v w',qc7 A B s n N w w' v→R v w') :
  za0 prog K.zk9 #[.int .i64 128,.slice ac (l.map zf6).length cc] w fun v2 w3=>∃ (a3:Option Addr) (l3 c3:Nat),∃ x2:Int,v2= .tuple #[.slice a3 l3 c3,.int .i64 x2]∧∃ p1:Option Addr,w3.cell? ⟨B,1,none⟩= some (.pointer p1)∧
   za0 prog K.zp4 #[.pointer p1,.slice ac (l.map zf6).length cc] w3 fun v3 w4=>∃ x3:Int,v3= .int .i64 x3∧
   br (x2 != 0) (R (.bool (x3 == x2)) w4) (∃ (a4:Option Addr) (l4 c4:Nat),w4.cell? ⟨B,2,none⟩= some (.slice a4 l4 c4)∧
   za0 prog K.zd3 #[.slice a4 l4 c4,.slice ac (l.map zf6).length cc] w4 fun v4 w5=>∃ (a5:Option Addr) (l5 c5:Nat),v4= .slice a5 l5 c5∧
   br (x3 == 11) (∃ p2:Option Addr,w5.cell? ⟨B,0,none⟩= some (.pointer p2)∧
    za0 prog K.zh2 #[.pointer p2] w5 fun v5 w6=>∃ x4:Int,v5= .int .i64 x4∧
    za0 prog K.ze9 #[.int .u8 1] w6 fun v6 w7=>∃ x5 x6:Int,∃ x7 x8:Int,v6= .agg #[.int .i64 x5,.int .i64 x6,.int .i64 x7,.int .i64 x8]∧
    br (decide (x4 > x8)) (R (.bool true) w7) (
    za0 prog K.ze9 #[.int .u8 1] w7 fun v7 w8=>∃ x9 x10:Int,∃ x11 x12:Int,v7= .agg #[.int .i64 x9,.int .i64 x10,.int .i64 x11,.int .i64 x12]∧
    za0 prog K.yp4 #[.agg #[.int .i64 x9,.int .i64 x10,.int .i64 x11,.int .i64 x12]] w8 fun v8 w9=>∃ x13:Int,v8= .int .i64 x13∧R (.bool (decide ((l5:Int) > x13))) w9)) (
    br (x3 != 0) (R (.bool false) w5) (za5 w5 ⟨B,2,none⟩ [.slice a5 l5 c5] fun w10=>R (.bool true) w10))):=by
 obtain ⟨F,X,Y,M,q,a,cap,⟨h1,h2,h3,h4,h5,h6,h7,h8⟩,hy,hyb⟩:=hm
 have hqlt:=h3.lt
 have hs0:=hk.size
 have hFG:∀ b,G b→¬ LogF F q b:=fun b hb hx=>by
  have:=hG b hb
  rcases hx with hx | hx
  ·have:=h4 b hx;omega
  ·omega
 replace h1:=Ext.get hk h1
 replace h3:=h3.ext hk
 replace h4:∀ x,F x→A≤x∧x<w.heap.size∧x≠B:=fun x hx=>by have:=h4 x hx;omega
 replace h5:∀ x,X x→A≤x∧x<w.heap.size∧x≠B:=fun x hx=>by have:=h5 x hx;omega
 replace hy:=hy.ext hk
 replace hyb:∀ x,Y x→A≤x∧x<w.heap.size∧¬ F x∧x≠q∧x≠B:=fun x hx=>by have:=hyb x hx;exact ⟨this.1,by omega,this.2.2⟩
 have hB:B<w.heap.size:=(Array.getElem?_eq_some_iff.1 h1).1
 have hsn:=xm2 hs
 refine (xg7 hc hsn 128 (by decide) (by decide)).mono ?_
 rintro _ w3 ⟨a3,c3,rfl,_,he3⟩
 have hs3:=he3.size
 have g3:=Ext.get he3 h1
 refine ⟨_,_,_,_,rfl,_,za2 g3 rfl,?_⟩
 refine (yt7 (h3.ext he3) (fun x hx=>by have:=h4 x hx;omega) (fun x hx=>by have:=h5 x hx;omega) hp.fit hp.good (by omega) (hc.ext he3) hsn (by simpa using hl)).mono ?_
 rintro _ w4 ⟨rfl,hu4,X',_,hX',h4'⟩
 have hs4:=hu4.size
 have hFA:∀ x,LogF F q x→A≤x∧x<w.heap.size∧x≠B:=fun x hx=>by
  rcases hx with hx | hx
  ·exact h4 x hx
  ·omega
 have u4:Upd (fun x=>A≤x) w w4:=(Upd.ext he3).trans (hu4.mono fun x _ hx=>(hFA x hx).1)
 have g4:=hu4.get g3 (fun hx=>(hFA B hx).2.2 rfl)
 have hX4:∀ x,X' x→A≤x∧x<w4.heap.size∧x≠B:=fun x hx=>by
  rcases hX' x hx with hx | hx
  ·have:=h5 x hx;omega
  ·omega
 have hy4:zb0 zg2 w4 Y a fs:=(hy.ext he3).upd hu4 fun b hb hx=>by
  have:=hyb b hb
  rcases hx with hx | hx
  ·exact this.2.2.1 hx
  ·exact this.2.2.2.1 hx
 have hask:s.chip.ask 0 0=0:=yu0 (i:=0) (k:=0) hp.log.alive (by rw [hp.nb];decide) (by rw [hp.np];decide)
 refine ⟨_,rfl,zg8 (fun hne=>?_) fun h0=>?_⟩
 ·
  have he:s.put (l.map zf6)=(s,(putL 128 (l.map zf6)).2):=by
   rw [LogS.put_eq,if_neg (by omega),hp.sz]
   rw [if_pos (show (putL ((128:Nat):Int) (l.map zf6)).2≠0 by intro e;exact hne (by have e':(putL (128:Int) (l.map zf6)).2=0:=e;omega))]
   rfl
  rw [he] at h4' ⊢
  have hb:(((putL 128 (l.map zf6)).2:Nat):Int)=(((putL 128 (l.map zf6)).2:Nat):Int):=rfl
  refine hR _ _ ⟨by simp,u4,fs,s,⟨F,X',Y,M,q,a,cap,⟨g4,rfl,h4',fun x hx=>by have:=h4 x hx;omega,hX4,h6,h7,h8⟩,hy4,fun x hx=>by have:=hyb x hx;exact ⟨this.1,by omega,this.2.2⟩⟩,fun hq=>hq,hp.mono (by omega) (by omega)⟩
 have h0':(putL 128 (l.map zf6)).2=0:=by omega
 have hgc:=xe3 (size:=128) (cs:=l.map zf6) h0'
 obtain ⟨hquiet,hrp⟩:=qe0 hp hn hN h0'
 have hcl:=hgc.len
 have hgl:=hp.gfs.len
 have hc4:zb0 zc4 w4 G ac (l.map zf6):=(hc.ext he3).upd hu4 hFG
 refine ⟨a,_,cap,za2 g4 rfl,(zt7 hy4 (fun b hb=>by have:=hyb b hb;omega) hc4 (by omega) hp.gfs.names hgc.small).mono ?_⟩
 rintro _ w5 ⟨a5,c5,rfl,hl5,he5⟩
 have hs5:=he5.size
 have g5:=Ext.get he5 g4
 have h5':=h4'.ext he5
 have u5:=u4.then he5
 refine ⟨_,_,_,rfl,zi1 (fun h11=>?_) fun h11=>zg8 (fun hne=>?_) fun hz=>?_⟩
 ·have h11':(s.put (l.map zf6)).2=11:=by omega
  rcases hrp with ⟨e,_⟩| ⟨_,hb,hr⟩
  ·omega
  refine ⟨_,za2 g5 rfl,(yd7 h5'.pool.chip.cin hr.nb).mono ?_⟩
  rintro _ v ⟨rfl,hv⟩
  obtain rfl:w5=v:=hv.symm
  refine ⟨_,rfl,(ye7 1 w5).mono ?_⟩
  rintro _ w7 ⟨rfl,he7⟩
  refine ⟨_,_,_,_,rfl,za8 (fun _=>?_) fun hx=>absurd (show ((zr6 (s.put (l.map zf6)).1.chip:Nat):Int) > (((1:UInt8).toNat % 2:Nat):Int) by
   have e:(1:UInt8).toNat % 2=1:=by decide
   rw [e];omega) hx⟩
  have hs7:=he7.size
  exact hR _ _ ⟨rfl,u5.then he7,fs,_,⟨F,X',Y,M,q,a,cap,⟨Ext.get he7 g5,rfl,h5'.ext he7,fun x hx=>by have:=h4 x hx;omega,fun x hx=>by have:=hX4 x hx;omega,h6,h7,h8⟩,(hy4.ext he5).ext he7,fun x hx=>by have:=hyb x hx;exact ⟨this.1,by omega,this.2.2⟩⟩,hquiet,hr.mono (by omega) (by omega)⟩
 ·rcases hrp with ⟨e,_⟩| ⟨e,_⟩
  ·exact absurd (by omega) hne
  ·exact absurd (by omega) h11
 ·rcases hrp with ⟨_,hr⟩| ⟨e,_⟩
  ·obtain ⟨G5,hG5,hG5'⟩:=hl5.slice
   refine zc8 g5 (by simp) fun w10 hpt=>?_
   have hu10:=hpt.upd1
   have g10:=hpt.get
   have hs10:=hu10.size
   have hG5b:∀ x,G5 x→A≤x∧x<w10.heap.size∧¬ F x∧x≠q∧x≠B:=fun x hx=>by
    obtain ⟨y1,y2⟩:=hG5' x hx
    rcases y1 with y1 | y1
    ·have hsw:w.heap.size≤w4.heap.size:=by omega
     exact ⟨by omega,by omega,fun hf=>by have:=h4 x hf;omega,by omega,by omega⟩
    ·have:=hyb x y1
     exact ⟨this.1,by omega,this.2.2⟩
   refine hR _ _ ⟨rfl,u5.trans (hu10.mono fun x _ hx=>by rw [hx];exact h8),_,_,⟨F,X',G5,M,q,a5,c5,⟨g10,rfl,h5'.upd hu10 (fun x hx=>?_),fun x hx=>by have:=h4 x hx;omega,fun x hx=>by have:=hX4 x hx;omega,h6,h7,h8⟩,hG5.upd hu10 (fun b hb hx=>(hG5b b hb).2.2.2.2 hx),hG5b⟩,hquiet,hr.mono (by omega) (by omega)⟩
   rw [hx]
   exact ⟨fun hf=>(h4 B hf).2.2 rfl,fun hx=>(hX4 B hx).2.2 rfl,fun e=>h7 e.symm⟩
  ·omega
theorem ql7 (b:UInt8):IntKind.i64.wrap (Int.tmod (b.toNat:Int) 8)=((b.toNat % 8:Nat):Int):=by
 have hb:=b.toNat_lt
 have e:Int.tmod (b.toNat:Int) 8=((b.toNat % 8:Nat):Int):=(Int.ofNat_tmod _ _).symm
 rw [e,w64 (by omega) (by omega)]
theorem uk4 {c:Chip} (h:c.Ok):c.blocks.flatten.length≤1000000000000:=by
 have key:∀ (l:List (List UInt8)) (m:Nat),(∀ b∈l,b.length=m)→l.flatten.length=l.length * m:=by
  intro l m
  induction l with
  | nil=>intro _;simp
  | cons x l ih =>
   intro hl
   rw [List.flatten_cons,List.length_append,ih fun b hb=>hl b (by simp [hb]),hl x (by simp),List.length_cons,Nat.succ_mul]
   omega
 rw [key _ _ h.bl2,h.bl]
 have h1:=Nat.mul_le_mul h.np2 h.sz2
 have h2:=Nat.mul_le_mul h.nb2 h1
 omega
theorem xh1 {A:Nat} {w:World} {B:Nat} {fs:List Fact} {s:LogS} {n N:Nat} (hm:ug4 A w B fs s) (hp:yp8 s fs n N) (hn:n≤1000000) (hN:N≤1000000000000)
  {G:Nat→Prop} {ac:Option Addr} {cc:Nat} {l:List zb2} (hc:zb0 zc4 w G ac l) (hG:∀ b,G b→b<w.heap.size) (hf:va4 l) (hs:yw0 l) (do_:Int) (bl:UInt8) :
  za0 prog K.zd9 #[.pointer (some ⟨B,0,none⟩),.agg #[.int .i64 do_,.slice ac l.length cc,bv bl]] w fun v w'=>qc7 A B s n N w w' v:=by
 have hA0:A≤w.heap.size:=by
  obtain ⟨F,X,Y,M,q,a,cap,⟨h1,_,_,_,_,_,_,h8⟩,_⟩:=hm
  have:B<w.heap.size:=(Array.getElem?_eq_some_iff.1 h1).1
  omega
 have hlen:=hf.len
 apply zd9.sh
 suffices H:∀ R:Value→World→Prop,(∀ v w',qc7 A B s n N w w' v→R v w')→zd9.body (some ⟨B,0,none⟩) do_ ac l.length cc bl.toNat w R from H _ fun _ _ h=>h
 intro R hR
 unfold zd9.body
 intro B1 w1 hn1
 have hB1:B1=w.heap.size:=hn1.num
 have hs1:=hn1.size
 have e1:=hn1.upd
 have gA:=hn1.get
 simp only [nilC_some',add_lit,Nat.zero_add]
 have still:∀ w',Ext w w'→R (.bool true) w':=fun w' he=>hR _ _ ⟨rfl,Upd.ext he,fs,s,hm.ext he,fun hq=>hq,hp.mono (by omega) (by omega)⟩
 refine ⟨_,za2 gA rfl,zi1 (fun _=>?_) fun _=>zi1 (fun _=>?_) fun _=>zi1 (fun _=>?_) fun _=>zi1 (fun _=>?_) fun _=>still _ e1⟩
 ·
  refine ⟨ac,_,cc,za2 gA rfl,(yc5 (hc.ext e1) (fun b hb=>by have:=hG b hb;omega) hf).mono ?_⟩
  rintro _ w2 ⟨a2,c2,rfl,hl2,he2⟩
  obtain ⟨G2,hG2,hG2'⟩:=hl2.slice
  refine ⟨_,_,_,rfl,qk7 hm (e1.trans he2) hp hn hN hG2 (fun b hb=>by have:=(hG2' b hb).1.resolve_right (fun h=>h);omega) hs (by omega) fun v w' ho=>?_⟩
  obtain ⟨o1,o2,o3⟩:=ho
  exact hR _ _ ⟨o1,(Upd.ext (e1.trans he2)).trans o2,o3⟩
 ·
  obtain ⟨F,X,Y,M,q,a,cap,⟨h1,h2,h3,h4,h5,h6,h7,h8⟩,hy,hyb⟩:=hm
  have hqlt:=h3.lt
  have hBlt:B<w.heap.size:=(Array.getElem?_eq_some_iff.1 h1).1
  intro w11 hd11
  have e11:=e1.trans hd11.upd
  have hs11:=hd11.upd.size
  have gB:=Ext.get e11 h1
  have gA11:=Ext.get hd11.upd gA
  have rd:∀ {u:World},(u.heap[B]?=w11.heap[B]?∧u.heap[B1]?=w11.heap[B1]?)→u.heap[B]?=some (.cells #[.pointer (some ⟨M.p,0,none⟩),.pointer (some ⟨q,0,none⟩),.slice a fs.length cap] T.yf6 (0,0))∧u.heap[B1]?=some (.cells #[.int .i64 do_,.slice ac l.length cc,.int .u8 bl.toNat] T.xc6 (0,0)):=fun hu=>⟨hu.1.trans gB,hu.2.trans gA11⟩
  have keepE:∀ {u v:World},(u.heap[B]?=w11.heap[B]?∧u.heap[B1]?=w11.heap[B1]?)→Ext u v→(v.heap[B]?=w11.heap[B]?∧v.heap[B1]?=w11.heap[B1]?):=fun hu he=>⟨(Ext.get he (rd hu).1).trans gB.symm,(Ext.get he (rd hu).2).trans gA11.symm⟩
  refine ⟨fun u=>u.heap[B]?=w11.heap[B]?∧u.heap[B1]?=w11.heap[B1]?,⟨rfl,rfl⟩,_,fun u hu=>za2 (rd hu).1 rfl,_,fun u hu=>za2 (rd hu).2 rfl,by decide,?_⟩
  rw [ql7]
  have hb8:((bl.toNat % 8:Nat):Int)<8:=by omega
  refine (xr0 (h3.ext e11) (fun x hx=>by have:=h4 x hx;omega) (fun x hx=>by have:=h5 x hx;omega) hp.fit hp.good (by omega) _).mono ?_
  rintro _ w12 ⟨rfl,hu12,h12⟩
  have hs12:=hu12.size
  have hFA:∀ x,LogF F q x→A≤x∧x<w.heap.size∧x≠B:=fun x hx=>by
   rcases hx with hx | hx
   ·exact h4 x hx
   ·omega
  have k12:w12.heap[B]?=w11.heap[B]?∧w12.heap[B1]?=w11.heap[B1]?:=⟨(hu12.get gB fun hx=>(hFA B hx).2.2 rfl).trans gB.symm,(hu12.get gA11 fun hx=>by have:=hFA B1 hx;omega).trans gA11.symm⟩
  have u12:Upd (fun x=>A≤x) w w12:=(Upd.ext e11).trans (hu12.mono fun x _ hx=>(hFA x hx).1)
  obtain ⟨hquiet,hr,hcase⟩:=uw2 hp hn hN hb8
  have fin:∀ w',Ext w12 w'→R (.bool true) w':=fun w' he=>by
   have hse:=he.size
   refine hR _ _ ⟨rfl,u12.then he,fs,_,⟨F,X,Y,M,q,a,cap,⟨Ext.get he (rd k12).1,rfl,h12.ext he,fun x hx=>by have:=h4 x hx;omega,fun x hx=>by have:=h5 x hx;omega,h6,h7,h8⟩,((hy.ext e11).upd hu12 fun b hb hx=>?_).ext he,fun x hx=>by have:=hyb x hx;exact ⟨this.1,by omega,this.2.2⟩⟩,hquiet,hr.mono (by omega) (by omega)⟩
   have:=hyb b hb
   rcases hx with hx | hx
   ·exact this.2.2.1 hx
   ·exact this.2.2.2.1 hx
  refine ⟨_,rfl,k12,zi1 (fun h0=>?_) fun h0=>?_⟩
  ·intro w13 hd13
   have k13:=keepE k12 hd13.upd
   refine ⟨fun u=>u.heap[B]?=w11.heap[B]?∧u.heap[B1]?=w11.heap[B1]?,k13,_,fun u hu=>za2 (rd hu).1 rfl,_,fun u hu=>za2 (rd hu).2 rfl,by decide,(xf1 (h12.ext hd13.upd)).mono ?_⟩
   rintro _ w14 ⟨rfl,he14⟩
   have k14:=keepE k13 he14
   refine ⟨_,rfl,k14,?_⟩
   rw [ql7]
   rcases hcase with ⟨_,hle⟩| ⟨e,_⟩
   ·rw [decide_eq_true hle]
    exact fin _ (hd13.upd.trans he14)
   ·omega
  ·have h11:(s.tidy ((bl.toNat % 8:Nat):Int)).2=11∧2≤zr6 (s.tidy ((bl.toNat % 8:Nat):Int)).1.chip:=by
    rcases hcase with ⟨e,_⟩| e
    ·exact absurd (by omega) h0
    ·exact e
   intro w15 hd15
   have k15:=keepE k12 hd15.upd
   refine ⟨fun u=>u.heap[B]?=w11.heap[B]?∧u.heap[B1]?=w11.heap[B1]?,k15,zi1 (fun _=>?_) fun hx=>absurd (by omega) hx⟩
   refine ⟨_,fun u hu=>za2 (rd hu).1 rfl,(yd7 (h12.ext hd15.upd).pool.chip.cin hr.nb).mono ?_⟩
   rintro _ v ⟨rfl,hv⟩
   obtain rfl:w15=v:=hv.symm
   refine ⟨_,rfl,k15,za8 (fun _=>⟨k15,k15,k15,k15,k15,fin _ hd15.upd⟩) fun hx=>absurd (by omega) hx⟩
 ·
  obtain ⟨F,X,Y,M,q,a,cap,⟨h1,h2,h3,h4,h5,h6,h7,h8⟩,hy,hyb⟩:=hm
  have hask:s.chip.ask 0 0=0:=yu0 (i:=0) (k:=0) hp.log.alive (by rw [hp.nb];decide) (by rw [hp.np];decide)
  refine ⟨_,za2 (Ext.get e1 h1) rfl,(vu5 (h3.ext e1)).mono ?_⟩
  rw [hask]
  rintro _ w2 ⟨rfl,he2⟩
  exact ⟨_,rfl,still _ (e1.trans he2)⟩
 ·
  obtain ⟨F,X,Y,M,q,a,cap,⟨h1,h2,h3,h4,h5,h6,h7,h8⟩,hy,hyb⟩:=hm
  have hqlt:=h3.lt
  have hBlt:B<w.heap.size:=(Array.getElem?_eq_some_iff.1 h1).1
  obtain ⟨o1,o2,oq,o3⟩:=uw3 hp
  refine ⟨_,za2 (Ext.get e1 h1) rfl,(vw4 (h3.ext e1).pool.chip).mono ?_⟩
  rintro _ w23 ⟨he23,p',rfl,hc23⟩
  have hs23:=he23.size
  refine ⟨_,_,rfl,(yj8 hc23 (fun x hx=>hx.2) (fun x hx=>hx.2) (by show s.chip.nb<20;rw [hp.nb];decide) (era:=3) (by decide)).mono ?_⟩
  rintro _ w24 ⟨he24,_,hv⟩
  obtain ⟨M',q',hM',rfl,hq1,hq2,X',_,hX',h24⟩:=hv o1
  have hs24:=he24.size
  have e24:=(e1.trans he23).trans he24
  refine ⟨_,_,rfl,fun w25 hd25=>?_⟩
  have e25:=e24.trans hd25.upd
  have g25:=Ext.get e25 h1
  have hs25:=hd25.upd.size
  refine ⟨fun u=>Ext w25 u,Upd.refl _ _,zg8 (fun hx=>absurd rfl hx) fun _=>zg8 (fun hx=>absurd rfl hx) fun _=>?_⟩
  have h25:=h24.ext hd25.upd
  obtain ⟨L1,G1,r1,_⟩:=h25.pool.chip
  rw [hM',o2] at r1
  refine ⟨_,fun u hu=>za2 (Ext.get hu g25) rfl,(xf0 r1).mono ?_⟩
  rintro _ w26 ⟨he26,a8,c8,rfl,ob8,_⟩
  obtain ⟨L2,G2,r2,_⟩:=(h3.ext (e25.trans he26)).pool.chip
  refine ⟨_,_,_,rfl,he26,(xf0 r2).mono ?_⟩
  rintro _ w27 ⟨he27,a9,c9,rfl,ob9,_⟩
  refine ⟨_,_,_,rfl,(yl5 (ob8.row.ext he27) ob9.row (uk4 r1.ok)).mono ?_⟩
  rintro _ w28 ⟨rfl,he28⟩
  have hsame:(s.chip.power.blocks.flatten == s.chip.blocks.flatten)=true:=by
   have e:s.chip.power.blocks=s.chip.blocks:=rfl
   rw [e];simp
  rw [hsame]
  have e2528:=(he26.trans he27).trans he28
  refine ⟨_,rfl,e2528,?_⟩
  simp only [Bool.not_true,br_false]
  have e28:=e25.trans e2528
  have hs28:=e2528.size
  have g28:=Ext.get e28 h1
  have hs0:=e24.size
  refine zc8 g28 (by simp) fun w29 hp29=>?_
  have hu29:=hp29.upd1
  refine zc8 hp29.get (by simp [zy1]) fun w30 hp30=>?_
  have hu30:=hp30.upd1
  have g30:=hp30.get
  have hs29:=hu29.size
  have hs30:=hu30.size
  have hu2930:Upd (·=B) w28 w30:=hu29.trans hu30
  have hF':∀ x,(Fr w1 w23 x∨(w23.heap.size≤x∧x<q'))→w.heap.size≤x∧x<w24.heap.size:=fun x hx=>by
   rcases hx with hx | hx
   ·have:=hx.1;have:=hx.2;omega
   ·omega
  have hXb:∀ x,X' x→w.heap.size≤x∧x<w24.heap.size:=fun x hx=>by
   rcases hX' x hx with hx | hx
   ·have:=hx.1;have:=hx.2;omega
   ·omega
  refine hR _ _ ⟨rfl,(Upd.ext e28).trans (hu2930.mono fun x _ hx=>by rw [hx];exact h8),fs,_,⟨_,X',Y,M',q',a,cap,⟨by rw [hM'];exact g30,rfl,((h25.ext e2528).upd hu2930 fun x hx=>?_),fun x hx=>by have:=hF' x hx;omega,fun x hx=>by have:=hXb x hx;omega,by omega,by omega,h8⟩,(hy.ext e28).upd hu2930 (fun b hb hx=>(hyb b hb).2.2.2.2 hx),fun x hx=>?_⟩,oq,o3.mono (by omega) (by omega)⟩
  ·rw [hx]
   exact ⟨fun hf=>by have:=hF' B hf;omega,fun hx=>by have:=hXb B hx;omega,by omega⟩
  ·have h9:=hyb x hx
   exact ⟨h9.1,by omega,fun hf=>by have:=hF' x hf;omega,by omega,h9.2.2.2.2⟩
structure ActS where
 do_:Int
 changes:List zb2
 blanks:UInt8
def actR:ERep ActS:=ERep.pair intR (ERep.pair (un2 zc4) u8R (fun x:List zb2×UInt8=>x.1) (fun x=>x.2)) (fun x:ActS=>x.do_) (fun x=>(x.changes,x.blanks))
theorem vl1 {w:World} {G:Nat→Prop} {x:ActS} {vs:List Value} (h:actR.R w G vs x):∃ a c,vs=[.int .i64 x.do_,.slice a x.changes.length c,bv x.blanks]∧zb0 zc4 w G a x.changes:=by
 obtain ⟨u,v,rfl,hu,s,t,rfl,⟨a,c,hs,hc,hb⟩,ht⟩:=h
 have hu':u=[.int .i64 x.do_]:=hu
 have ht':t=[bv x.blanks]:=ht
 have hs':s=[.slice a x.changes.length c]:=hs
 subst hu';subst ht';subst hs'
 exact ⟨a,c,rfl,hb⟩
def qg3 (l:List ActS):Prop:=∀ x∈l,va4 x.changes∧yw0 x.changes
def Acts (A:Nat) (w0:World) (B:Nat) (q:Bool) (i:Nat) (u:World):Prop:=∃ fs s,ug4 A u B fs s∧yp8 s fs (163200+255 * i) (1000+100000000 * i)∧Upd (fun x=>A≤x) w0 u∧(q=true→vl2 s)
theorem vs8 {w0 w1:World} {B p q:Nat} {F X:Nat→Prop} {M:PLoc} {sp:Nat} (hsp:sp≤1) (h:qc4 w0.heap.size w1 B p q (.slice none 0 0) F X M (yp9 sp).1) (he:Ext w0 w1) (b:Bool):Acts w0.heap.size w0 B b 0 w1:=by
 obtain ⟨hr,hq⟩:=vo6 hsp
 obtain ⟨h1,rfl,h3⟩:=h
 exact ⟨[],_,⟨F,X,NoB,M,q,none,0,⟨h1,rfl,h3⟩,zb0.nil _ _ _,fun _ h=>h.elim⟩,hr.mono (by omega) (by omega),Upd.ext he,fun _=>hq⟩
theorem Acts.ext {w0:World} {B:Nat} {b:Bool} {i:Nat} {u:World} (h:Acts w0.heap.size w0 B b i u):Ext w0 u:=by
 obtain ⟨_,_,_,_,hu,_⟩:=h
 exact (Upd.refl NoB w0).beyond hu fun x hx=>hx
theorem vl0 {A:Nat} {w0 u:World} {B:Nat} {b:Bool} {i:Nat} (hi:i<80) (h:Acts A w0 B b i u) {G:Nat→Prop} {x:ActS} (hg:va4 x.changes∧yw0 x.changes) {a:Option Addr} {c:Nat} (hc:zb0 zc4 u G a x.changes) (hG:∀ y,G y→y<u.heap.size) :
  za0 prog K.zd9 #[.pointer (some ⟨B,0,none⟩),.agg #[.int .i64 x.do_,.slice a x.changes.length c,bv x.blanks]] u fun v w'=>v= .bool true∧Acts A w0 B b (i+1) w':=by
 obtain ⟨fs,s,hm,hp,hu,hq⟩:=h
 refine (xh1 hm hp (by omega) (by omega) hc hG hg.1 hg.2 x.do_ x.blanks).mono ?_
 rintro v w' ⟨rfl,hu',fs',s',hm',hq',hp'⟩
 refine ⟨rfl,fs',s',hm',hp'.mono (by omega) ?_,hu.trans hu',fun hb=>hq' (hq hb)⟩
 unfold xp3
 omega
def xr8 (h:Hit):Hit:=⟨if h.after<0 then 0 else h.after,true,h.mask⟩
def xg0 (l:List Hit):List Hit:=(l.take 2).map xr8
def hitR:ERep Hit where
 k:=3
 R:=fun w G vs x=>∃ m c,vs=[.int .i64 x.after,.bool x.fails,.slice m x.mask.length c]∧za4 w m x.mask∧(x.mask≠[]→∀ p,m=some p→G p.block)
 pos:=by decide
 len:=fun ⟨m,c,e,_⟩=>by rw [e];rfl
 one:=fun ⟨m,c,e,_⟩=>by
  rw [e]
  intro v hv
  simp at hv
  rcases hv with rfl | rfl | rfl<;>rfl
 upd:=fun ⟨m,c,e,hb,hg⟩ k hf=>⟨m,c,e,hb.updM k hg hf,hg⟩
 mono:=fun ⟨m,c,e,hb,hg⟩ h=>⟨m,c,e,hb,fun hn p hp=>h _ (hg hn p hp)⟩
 cells:=fun ⟨m,c,e,hb,hg⟩ k=>⟨m,c,e,za6.cellsLe hb k,hg⟩
theorem qa1 {w:World} {G:Nat→Prop}:∀ {hs:List Hit} {vs:List Value},Rows hitR w G vs hs→zm8 w G vs hs
 | [],vs,h=>h
 | x :: hs,vs,⟨u,t,e,⟨m,c,eu,hb,hg⟩,ht⟩=>⟨m,c,t,by rw [e,eu];rfl,hb,hg,qa1 ht⟩
theorem xb6 {w:World} {G:Nat→Prop} {a:Option Addr} {cp:Nat} {vs:List Value} {hs:List Hit} (hr:za6 w a vs) (hh:zm8 w G vs hs) (hG:∀ b,G b→b<w.heap.size) :
  za0 prog K.zk4 #[.slice a hs.length cp] w fun v w'=>∃ a' c',v= .slice a' (xg0 hs).length c'∧zb4 hitR G w.heap.size w' a' c' T.zx6 (xg0 hs)∧Ext w w':=by
 apply zk4.sh
 suffices H:∀ R:Value→World→Prop,(∀ v w',(∃ a' c',v= .slice a' (xg0 hs).length c'∧zb4 hitR G w.heap.size w' a' c' T.zx6 (xg0 hs)∧Ext w w')→R v w')→zk4.body a hs.length cp w R from H _ fun _ _ h=>h
 intro R hR
 unfold zk4.body
 refine ⟨fun a1 l1 c1 x u=>∃ i:Nat,x=i∧i≤2∧i≤hs.length∧l1=i∧zb4 hitR G w.heap.size u a1 c1 T.zx6 ((hs.take i).map xr8)∧Ext w u,fun _ _ _ x _=>((2:Int) - x).toNat,⟨0,rfl,by omega,by omega,rfl,by simpa using zb4.nil _ _,Upd.refl _ _⟩,?_⟩
 rintro a1 l1 c1 x u ⟨i,rfl,hi2,hi,rfl,hl,heu⟩
 have fin:xg0 hs=(hs.take l1).map xr8→R (.slice a1 l1 c1) u:=fun e=>by
  have hlen:((hs.take l1).map xr8).length=l1:=by simp;omega
  refine hR _ _ ⟨a1,c1,by rw [e,hlen],by rw [e];exact hl,heu⟩
 refine za8 (fun hlt=>za8 (fun hlt2=>?_) fun hge=>?_) fun hge=>?_
 ·have hi':l1<hs.length:=by omega
  refine uk1 (hr.ext heu) (zm8.upd heu (fun _ _ hf=>hf) hh) hi' fun m c hm hg=>?_
  have ew:IntKind.i64.wrap ((l1:Int)+1)=((l1+1:Nat):Int):=w64 (by omega) (by omega)
  rw [ew]
  have hs1:=heu.size
  have hlen:((hs.take l1).map xr8).length=l1:=by simp;omega
  have htk:(hs.take l1).map xr8 ++ [xr8 hs[l1]]=(hs.take (l1+1)).map xr8:=by rw [List.take_succ_eq_append_getElem hi',List.map_append];rfl
  refine zu7 rfl fun B1 w3 hB1 hs3 he3 g3=>?_
  refine zc8 (o:=1) g3 (by simp) fun w4 hp4=>?_
  have hu4:=hp4.upd1
  have g4:=hp4.get
  have e4:Ext u w4:=he3.beyond hu4 fun x hx=>by omega
  have hs4:=e4.size
  have app:∀ (v:World) (n:Int) (B:Nat) (v':World),n=(xr8 hs[l1]).after→Ext u v→New v (.cells #[.int .i64 n,.bool true,.slice m hs[l1].mask.length c] T.zx6) B v'→
    zb5 T.zx6 3 40 [.int .i64 0,.bool false,.slice none 0 0] a1 l1 c1 (.slice (some ⟨B,0,none⟩) 1 1) v' fun a4 l4 c4 w7=>(∃ i:Nat,((l1+1:Nat):Int)=i∧i≤2∧i≤hs.length∧l4=i∧zb4 hitR G w.heap.size w7 a4 c4 T.zx6 ((hs.take i).map xr8)∧Ext w w7)∧((2:Int) - ((l1+1:Nat):Int)).toNat<((2:Int) - (l1:Int)).toNat:=by
   intro v n B v' hn hv hnew
   have ev':=hv.trans hnew.upd
   have hsv:=ev'.size
   have hlv:=hl.ext ev'
   have ha1:∀ b,a1=some ⟨b,0,none⟩→w.heap.size≤b:=fun b hb=>by
    obtain ⟨_,_,_,h3⟩:=hlv
    exact (h3 b hb).1
   refine zb4.push' (r:=hitR) (H:=G) (x:=xr8 hs[l1]) hlv ⟨m,c,by rw [hn];rfl,za6.ext hm ev',hg⟩ (fun b hb=>⟨.inr hb,by have:=hG b hb;omega,fun hab=>by have:=ha1 b hab;have:=hG b hb;omega⟩) hnew hlen.symm rfl (by omega) (by omega) (by omega) fun a4 c4 w7 hu7 hl7=>?_
   rw [htk] at hl7 ⊢
   have hl2:((hs.take (l1+1)).map xr8).length=l1+1:=by simp;omega
   rw [hl2]
   exact ⟨⟨l1+1,rfl,by omega,hi',rfl,hl7,(heu.trans ev').beyond hu7 ha1⟩,by omega⟩
  refine ⟨hs[l1].after,za2 g4 rfl,za8 (fun hneg=>?_) fun hpos=>?_⟩
  ·refine zc8 (o:=0) g4 (by simp [zy1]) fun w5 hp5=>?_
   have hu5:=hp5.upd1
   have g5:=hp5.get
   have e5:Ext u w5:=e4.beyond hu5 fun x hx=>by omega
   refine ⟨0,true,m,hs[l1].mask.length,c,zl2 g5 (fun j v hj=>by simpa [zy1] using hj),fun B2 w6 hn6=>?_⟩
   exact app w5 0 B2 w6 (by unfold xr8;rw [if_pos hneg]) e5 hn6
  ·refine ⟨hs[l1].after,true,m,hs[l1].mask.length,c,zl2 g4 (fun j v hj=>by simpa [zy1] using hj),fun B3 w8 hn8=>?_⟩
   exact app w4 _ B3 w8 (by unfold xr8;rw [if_neg hpos]) e4 hn8
 ·refine fin ?_
  unfold xg0
  rw [show l1=2 by omega]
 ·refine fin ?_
  unfold xg0
  rw [List.take_of_length_le (by omega),List.take_of_length_le (by omega)]
section
open Go.ChangeShapes Go.WideShapes Go.ChangeAt Go.RowKit
theorem Ext.below {w w':World} (h:Ext w w'):Below w.heap.size w w':=⟨h.os,h.tape,h.output,h.size,fun k hk=>h.blk k hk (fun hf=>hf)⟩
section
variable {H:Type} {enc:TypeId×Value→H} {P:Program}
theorem xp2 (hl:laidOutB P=true) {W W':World} (hb:Below W.heap.size W W') {sp:Nat→Bool}:∀ {ts:List TypeId} {vs:List Value} {ds:List (DataW H)} {ps:List MemPlace},(∀ t∈ts,P.readableRec t=true∧t<P.types.size)→
  DataW.TrodAll enc P W 0 (fun _=>true) true ts vs ds ps→(∀ x∈ps,x.block<W.heap.size)→(∀ x∈ps,sp x.block=true)→DataW.TrodAll enc P W' 0 sp true ts vs ds ps
 | [],_,_,_,_,h,_,_=>by
  obtain ⟨rfl,rfl,rfl⟩:=trodAll_nil h
  rfl
 | t :: ts,_,_,_,hr,h,hlt,hsp=>by
  obtain ⟨v,vs1,d,ds1,a,b,rfl,rfl,rfl,h1,h2⟩:=trodAll_cons h
  exact ⟨a,b,WideElems.Trod_stays hl (hr t (by simp)).1 (hr t (by simp)).2 h1 (fun x hx=>hb.same (hlt x (by simp [hx]))) (fun x hx=>hsp x (by simp [hx])),
   xp2 hl hb (fun u hu=>hr u (by simp [hu])) h2 (fun x hx=>hlt x (by simp [hx])) (fun x hx=>hsp x (by simp [hx])),rfl⟩
theorem ve7 (hl:laidOutB P=true) {f:Func} {s:ChangeSpec} {apart fresh handsOn again:Bool} {W W':World} {args:Array Value} {ds gs:List (DataW H)} {zl9:List MemPlace} {tb:TypeId}
  (hW:DataW.Whole enc P f.params.toList s.vars apart W args.toList ds gs zl9) (hv:s.vars=[]) (hrows:∀ t∈f.params.toList,P.readableRec t=true∧t<P.types.size) (hb:Below W.heap.size W W')
  (ht:P.underlying tb=some .bool) (hres:f.resultTypes=#[tb]) (hfn:(s.fn H (ds ++ gs))={ results:=[.lit (.bool true)],args:=ds }) :
  s.post enc P f apart fresh handsOn again W args (.bool true) W':=by
 have hlt:=hW.lt
 have hW':=hW
 obtain ⟨p,q,hA,hV,hpq,hz,hn⟩:=hW'
 rw [hv] at hV
 obtain ⟨rfl,rfl⟩:=trodVars_none hV
 simp only [List.append_nil] at hpq
 subst hpq
 have hargs:∀ sp:Nat→Bool,(∀ x∈zl9,sp x.block=true)→DataW.TrodAll enc P W' 0 sp true f.params.toList args.toList ds zl9:=fun sp hsp=>xp2 hl hb hrows hA hlt hsp
 have hresT:∀ (b:Nat) (sp:Nat→Bool) (hd:Bool),DataW.TrodAll enc P W' b sp hd f.resultTypes.toList ((Value.bool true).resultList f.resultTypes.size) [.lit (.bool true)] []:=by
  intro b sp hd
  rw [hres]
  exact trodAll_cons_mk (shut_bool ht _) trodAll_mk0
 refine ⟨ds,[],zl9,[],zl9,[],hW,?_,?_,?_,hb.frame _,fun _=>⟨?_,.lit (.bool true) :: ds,[],zl9,⟨zl9,[],?_,?_,by simp,?_,hn⟩,fun p hp _=>hp⟩⟩
 ·rw [hfn];exact hresT _ _ _
 ·rw [hfn];exact hargs _ (fun x hx=>by simpa using hlt x hx)
 ·rw [hv,hfn];rfl
 ·exact ok_one hres rfl (okWide_bool_mk ht _)
 ·have:=trodAll_append (hargs _ (fun _ _=>rfl)) (hresT 0 (fun _=>true) true)
  exact this
 ·rw [hv];rfl
 ·intro b off hp
  have hbl:=hlt _ hp
  rw [hb.frozen (p:=⟨b,off,none⟩) hbl]
  exact hz b off hp
theorem vy8 {w:World} {a:Addr} {vs:List Value} (h:∀ (j:Nat) v,vs[j]?=some v→w.cell? (a.add j)=some v):za6 w (some a) vs:=by
 cases vs with
 | nil=>exact .inl rfl
 | cons v vs =>
  have h0:=h 0 v rfl
  rw [add_zero] at h0
  unfold World.cell? at h0
  split at h0
  ·rename_i c t fr hb
   split at h0
   ·cases h0
   ·rename_i hs
    obtain ⟨b,o,s⟩:=a
    cases s with
    | some s=>simp at hs
    | none =>
     refine .inr ⟨b,o,c,t,fr,rfl,hb,fun j u hj=>?_⟩
     have:=h j u hj
     rw [add_lit] at this
     simpa [World.cell?,hb] using this
  ·cases h0
theorem uf6 {w:World} {base:Nat} {a:Addr} {n:Nat} {cs:List Value} (h:w.cells? base a n=some cs):cs.length=n∧∀ (j:Nat) v,cs[j]?=some v→w.cell? (a.add j)=some v:=by
 unfold World.cells? at h
 split at h
 ·have hl:cs.length=n:=by
   have:=mapM_some_length h
   simpa using this
  refine ⟨hl,fun j v hj=>?_⟩
  have hjn:j<n:=by rw [← hl];exact (List.getElem?_eq_some_iff.1 hj).1
  have:=mapM_some_get h j j (by simp [hjn])
  rw [hj] at this
  exact this
 ·cases h
theorem qk6 (a:Addr) (x y:Nat):(a.add x).add y=a.add (x+y):=by
 unfold Addr.add
 by_cases hx:x=0
 ·subst hx;simp
 ·by_cases hy:y=0
  ·subst hy;simp [hx]
  ·rw [if_neg hx,if_neg hy,if_neg (by omega)]
   simp [Nat.add_assoc]
theorem qb0 {k:Nat} {g:Nat→List Value}:∀ (n:Nat),(∀ i,i<n→(g i).length=k)→((List.range n).flatMap g).length=n * k∧∀ (j:Nat) v,((List.range n).flatMap g)[j]?=some v→∃ i c,i<n∧j=i * k+c∧(g i)[c]?=some v
 | 0,_=>by simp
 | n+1,h=>by
  obtain ⟨hl,hg⟩:=qb0 n fun i hi=>h i (by omega)
  have hn:=h n (by omega)
  rw [List.range_succ,List.flatMap_append]
  refine ⟨by simp [hl,hn,Nat.succ_mul],fun j v hj=>?_⟩
  by_cases hlt:j<((List.range n).flatMap g).length
  ·rw [List.getElem?_append_left hlt] at hj
   obtain ⟨i,c,hi,e,hc⟩:=hg j v hj
   exact ⟨i,c,by omega,e,hc⟩
  ·rw [List.getElem?_append_right (by omega),hl] at hj
   exact ⟨n,j - n * k,by omega,by rw [hl] at hlt;omega,by simpa using hj⟩
theorem uy1 {w:World} {base:Nat} {spare:Nat→Bool} {held:Bool} {t e:TypeId} {fuel:Nat} {cs:List Value} {x:DataW H×List MemPlace} (ht:P.underlying t=some (.slice e)) (h:DataW.trod enc P w base spare held fuel t cs=some x) :
  ∃ (a:Option Addr) (len cap:Nat) (rows:List (List Value)) (ds:List (DataW H)),cs=[.slice a len cap]∧len≤cap∧rows.length=len∧ds.length=len∧(∀ r∈rows,r.length=P.cellsOf e)∧za6 w a rows.flatten∧(a=none→cap=0)∧
   (∀ (i:Nat) r,rows[i]?=some r→∃ n d ps,ds[i]?=some d∧DataW.trod enc P w base spare held n e r=some (d,ps))∧((x.1= .nil∧len=0)∨∃ sp,x.1= .slice ds sp):=by
 rcases DataW.trod_slice ht h with ⟨rfl,rfl⟩| ⟨a,len,cap,elems,rest,n,_,rfl,rfl,hb,hl,hm,hlen,hel,hsp,hns⟩
 ·exact ⟨none,0,0,[],[],rfl,Nat.le_refl _,rfl,rfl,by simp,za6.nil _ _,fun _=>rfl,fun i r hr=>by simp at hr,.inl ⟨rfl,rfl⟩⟩
 ·have hrow:∀ i,i<len→∃ r,w.cells? base (a.add (i * P.cellsOf e)) (P.cellsOf e)=some r∧DataW.trod enc P w base spare held n e r=elems[i]?∧∃ y,elems[i]?=some y:=by
   intro i hi
   have h1:=hel i hi
   have h2:∃ y,elems[i]?=some y:=⟨elems[i]'(by omega),by simp [hlen,hi]⟩
   obtain ⟨y,hy⟩:=h2
   rw [hy] at h1
   cases hc:w.cells? base (a.add (i * P.cellsOf e)) (P.cellsOf e) with
   | none=>rw [hc] at h1;cases h1
   | some r=>rw [hc] at h1;exact ⟨r,rfl,by rw [hy];exact h1,y,hy⟩
  have hg:∀ i,i<len→w.cells? base (a.add (i * P.cellsOf e)) (P.cellsOf e)=some ((w.cells? base (a.add (i * P.cellsOf e)) (P.cellsOf e)).getD []):=by
   intro i hi
   obtain ⟨r,hr,_⟩:=hrow i hi
   rw [hr];rfl
  have hgl:∀ i,i<len→((w.cells? base (a.add (i * P.cellsOf e)) (P.cellsOf e)).getD []).length=P.cellsOf e:=fun i hi=>(uf6 (hg i hi)).1
  obtain ⟨_,hflat⟩:=qb0 (g:=fun i=>(w.cells? base (a.add (i * P.cellsOf e)) (P.cellsOf e)).getD []) len hgl
  refine ⟨some a,len,cap,(List.range len).map fun i=>(w.cells? base (a.add (i * P.cellsOf e)) (P.cellsOf e)).getD [],elems.map (·.1),rfl,hl,by simp,by simpa using hlen,?_,?_,(fun h=>by cases h),?_,.inr ⟨_,rfl⟩⟩
  ·intro r hr
   obtain ⟨i,hi,rfl⟩:=List.mem_map.1 hr
   exact hgl i (by simpa using hi)
  ·refine vy8 fun j v hj=>?_
   rw [← List.flatMap_def] at hj
   obtain ⟨i,c,hi,rfl,hc⟩:=hflat j v hj
   rw [← qk6]
   exact (uf6 (hg i hi)).2 c v hc
  ·intro i r hr
   have hi:i<len:=by have:=(List.getElem?_eq_some_iff.1 hr).1;simpa using this
   obtain ⟨r',h1,h2,y,hy⟩:=hrow i hi
   have:r=r':=by
    simp [hi,h1] at hr
    exact hr.symm
   subst this
   exact ⟨n,y.1,y.2,by simp [hy],by rw [h2,hy]⟩
theorem vh0 {α β:Type} {f:α→β} {Q:α→Prop}:∀ (l:List β),(∀ r∈l,∃ x,r=f x∧Q x)→∃ xs:List α,l=xs.map f∧∀ x∈xs,Q x
 | [],_=>⟨[],rfl,by simp⟩
 | r :: l,h=>by
  obtain ⟨x,e,q⟩:=h r (by simp)
  obtain ⟨xs,e',q'⟩:=vh0 l fun r hr=>h r (by simp [hr])
  refine ⟨x :: xs,by rw [e,e'];rfl,fun y hy=>?_⟩
  rcases List.mem_cons.1 hy with rfl | hy
  ·exact q
  ·exact q' y hy
theorem qk1 {n:Int} (h:(Lit.int .u8 n).wf=true):∃ x:UInt8,Value.int .u8 n=bv x:=by
 have hb:0≤n∧n≤255:=by simpa [Lit.wf,IntKind.min,IntKind.max,IntKind.signed,IntKind.bits] using h
 exact ⟨UInt8.ofNat n.toNat,by simp;omega⟩
theorem uk5 (l:List UInt8):(l.map fun x=>[bv x]).flatten=l.map bv:=by
 induction l with
 | nil=>rfl
 | cons x l ih=>simp [ih]
end
end
section
open Go.ChangeShapes Go.WideShapes Go.ChangeAt Go.RowKit
section
variable {H:Type} {enc:TypeId×Value→H} {P:Program}
end
end
section
open Go.ChangeShapes Go.WideShapes Go.ChangeAt Go.RowKit
theorem vk0 {n:Int} (h:(Lit.int .u8 n).wf=true):Value.int .u8 n=bv (UInt8.ofNat n.toNat):=by
 have hb:0≤n∧n≤255:=by simpa [Lit.wf,IntKind.min,IntKind.max,IntKind.signed,IntKind.bits] using h
 simp
 omega
section
variable {H:Type} {enc:TypeId×Value→H} {P:Program}
def Fits (P:Program) (t:TypeId) (d:DataW H):Prop:=∀ n∈d.weights P t,n≤reachBytes
theorem yk1 {ts:List TypeId} {ds:List (DataW H)} (h:(DataW.weightsEach P ts ds).all (·≤reachBytes)=true) {j:Nat} {t:TypeId} {d:DataW H} (ht:ts[j]?=some t) (hd:ds[j]?=some d):Fits P t d:=fun n hn=>by
 have:=List.all_eq_true.1 h _ (DataW.weights_mem_each ht hd n hn)
 simpa using this
theorem xd7 {e:TypeId}:∀ {l:List (DataW H)} {d:DataW H},d∈l→∀ n∈d.weights P e,n∈DataW.weightsAll P e l
 | d0 :: l,d,hm,n,hn=>by
  simp only [DataW.weightsAll,List.mem_append]
  rcases List.mem_cons.1 hm with rfl | hm
  ·exact .inl hn
  ·exact .inr (xd7 hm n hn)
theorem Fits.elem {t e:TypeId} {elems spare:List (DataW H)} (h:Fits P t (.slice elems spare)) (hu:P.underlying t=some (.slice e)) {d:DataW H} (hd:d∈elems):Fits P e d:=fun n hn=>by
 refine h n ?_
 simp only [DataW.weights,hu,List.mem_cons,List.mem_append]
 exact .inr (.inl (xd7 hd n hn))
theorem Fits.len {t e:TypeId} {elems spare:List (DataW H)} (h:Fits P t (.slice elems spare)) (hu:P.underlying t=some (.slice e)):(elems.length+spare.length) * P.bytesOf e≤reachBytes:=by
 refine h _ ?_
 simp only [DataW.weights,hu,List.mem_cons]
 exact .inl trivial
theorem Fits.part {t:TypeId} {fs:Array Field} {parts:List (DataW H)} (h:Fits P t (.agg parts)) (hu:P.underlying t=some (.struct fs)) {i:Nat} {f:Field} {d:DataW H} (hf:fs[i]?=some f) (hd:parts[i]?=some d):Fits P f.type d:=fun n hn=>by
 refine h n ?_
 simp only [DataW.weights,hu]
 refine DataW.weights_mem_each (j:=i) ?_ hd n hn
 simp [hf]
theorem yz6 {w:World} {base:Nat} {spare:Nat→Bool} {held:Bool} {t e:TypeId} {fuel:Nat} {cs:List Value} {x:DataW H×List MemPlace} (ht:P.underlying t=some (.slice e)) (h:DataW.trod enc P w base spare held fuel t cs=some x) (hfit:Fits P t x.1) :
  ∃ (a:Option Addr) (len cap:Nat) (rows:List (List Value)),cs=[.slice a len cap]∧len≤cap∧rows.length=len∧(∀ r∈rows,r.length=P.cellsOf e)∧za6 w a rows.flatten∧(a=none→cap=0)∧len * P.bytesOf e≤reachBytes∧
   (∀ r∈rows,∃ n d ps,Fits P e d∧DataW.trod enc P w base spare held n e r=some (d,ps)):=by
 obtain ⟨a,len,cap,rows,ds,rfl,hlc,hrl,hdl,hrk,hrow,hn,hel,hx⟩:=uy1 ht h
 rcases hx with ⟨hx,hl0⟩| ⟨sp,hx⟩
 ·subst hl0
  have:rows=[]:=List.eq_nil_of_length_eq_zero hrl
  subst this
  exact ⟨a,0,cap,[],rfl,hlc,rfl,hrk,hrow,hn,by omega,fun r hr=>by simp at hr⟩
 ·rw [hx] at hfit
  refine ⟨a,len,cap,rows,rfl,hlc,hrl,hrk,hrow,hn,?_,fun r hr=>?_⟩
  ·have:=hfit.len ht
   rw [hdl,Nat.add_mul] at this
   omega
  ·obtain ⟨i,hi,rfl⟩:=List.getElem_of_mem hr
   obtain ⟨n,d,ps,hd,ht'⟩:=hel i _ (List.getElem?_eq_getElem hi)
   exact ⟨n,d,ps,hfit.elem ht (List.mem_of_getElem? hd),ht'⟩
theorem vp5 {w:World} {base:Nat} {spare:Nat→Bool} {held:Bool} {e:TypeId} {fs:Array Field} {fuel:Nat} {cs:List Value} {x:DataW H×List MemPlace} (he:P.underlying e=some (.struct fs)) (h:DataW.trod enc P w base spare held fuel e cs=some x) (hfit:Fits P e x.1) :
  cs.length=P.cellsOf e∧∀ (i:Nat) f,fs[i]?=some f→∃ n y,DataW.trod enc P w base spare held n f.type ((cs.drop f.offset).take (P.cellsOf f.type))=some y∧Fits P f.type y.1:=by
 obtain ⟨xs,n,_,rfl,hlen,hxs,hfs⟩:=DataW.trod_struct he h
 refine ⟨hlen,fun i f hf=>?_⟩
 have hi:i<xs.length:=by rw [hxs];exact (Array.getElem?_eq_some_iff.1 hf).1
 have g:=hfs i f hf
 rw [List.getElem?_eq_getElem hi] at g
 exact ⟨n,_,g,hfit.part he hf (by simp [hi])⟩
theorem yg9 {w:World} {base:Nat} {spare:Nat→Bool} {held:Bool} {t e:TypeId} {fuel:Nat} {cs:List Value} {x:DataW H×List MemPlace} (ht:P.underlying t=some (.slice e)) (he:P.underlying e=some (.int .u8)) (hb:P.bytesOf e=1) (h:DataW.trod enc P w base spare held fuel t cs=some x) (hfit:Fits P t x.1) :
  ∃ (a:Option Addr) (l:List UInt8) (cap:Nat),cs=[.slice a l.length cap]∧l.length≤cap∧za4 w a l∧(a=none→cap=0)∧l.length≤reachBytes:=by
 obtain ⟨a,len,cap,rows,rfl,hlc,hrl,hrk,hrow,hn,hlen,hel⟩:=yz6 ht h hfit
 obtain ⟨l,rfl,_⟩:=vh0 (f:=fun x:UInt8=>[bv x]) (Q:=fun _=>True) rows (fun r hr=>by
  obtain ⟨n,d,ps,_,ht'⟩:=hel r hr
  obtain ⟨m,hm,_,hw⟩:=DataW.trod_int he ht'
  obtain ⟨x,hx⟩:=qk1 hw
  exact ⟨x,by rw [hm,hx],trivial⟩)
 simp at hrl
 subst hrl
 rw [hb,Nat.mul_one] at hlen
 refine ⟨a,l,cap,rfl,hlc,?_,hn,hlen⟩
 have e2:(l.map fun x=>[bv x]).flatten=l.map bv:=uk5 l
 rw [e2] at hrow
 exact hrow
def qm8 (P:Program) (t:TypeId):Bool :=
 match P.underlying t with
 | some (.slice e)=>match P.underlying e with
  | some (.struct fs)=>fs.size == 3 && P.cellsOf e == 3 && (match fs[0]?,fs[1]?,fs[2]? with
   | some f0,some f1,some f2=>f0.offset == 0 && f1.offset == 1 && f2.offset == 2 && P.cellsOf f0.type == 1 && P.cellsOf f1.type == 1 && P.cellsOf f2.type == 1 &&
     (match P.underlying f0.type with | some (.int .i64)=>true | _=>false) && (match P.underlying f1.type with | some .bool=>true | _=>false) &&
     (match P.underlying f2.type with | some (.slice b)=>(match P.underlying b with | some (.int .u8)=>P.bytesOf b == 1 | _=>false) | _=>false)
   | _,_,_=>false)
  | _=>false
 | _=>false
theorem list3 {cs:List Value} {a b c:Value} (hl:cs.length=3) (h0:(cs.drop 0).take 1=[a]) (h1:(cs.drop 1).take 1=[b]) (h2:(cs.drop 2).take 1=[c]):cs=[a,b,c]:=by
 match cs,hl with
 | [x0,x1,x2],_=>simp_all
theorem uc9 {w:World}:∀ {rows:List (List Value)},(∀ r∈rows,∃ (n:Int) (f:Bool) (m:Option Addr) (l:List UInt8) (c:Nat),r=[.int .i64 n,.bool f,.slice m l.length c]∧za4 w m l∧l.length≤reachBytes)→
  ∃ hs:List Hit,hs.length=rows.length∧zm8 w (fun x=>x<w.heap.size) rows.flatten hs∧∀ t∈hs,t.mask.length≤140737488355232
 | [],_=>⟨[],rfl,rfl,fun t ht=>by simp at ht⟩
 | r :: rows,h=>by
  obtain ⟨n,f,m,l,c,rfl,hb,hl⟩:=h r (by simp)
  obtain ⟨hs,h1,h2,h3⟩:=uc9 (w:=w) (rows:=rows) fun r hr=>h r (by simp [hr])
  refine ⟨⟨n,f,l⟩:: hs,by simp [h1],⟨m,c,rows.flatten,by simp,hb,fun hn p hp=>?_,h2⟩,fun t ht=>?_⟩
  ·obtain ⟨b,o,e,hlt⟩:=za6.blk hb (by simpa using hn)
   rw [hp] at e
   cases e
   exact hlt
  ·rcases List.mem_cons.1 ht with rfl | ht
   ·have:reachBytes≤140737488355232:=by decide
    show l.length≤_
    omega
   ·exact h3 t ht
theorem uy4 {w:World} {base:Nat} {spare:Nat→Bool} {held:Bool} {t:TypeId} {fuel:Nat} {cs:List Value} {x:DataW H×List MemPlace} (hb:qm8 P t=true) (h:DataW.trod enc P w base spare held fuel t cs=some x) (hfit:Fits P t x.1) :
  ∃ (a:Option Addr) (vs:List Value) (hs:List Hit) (cap:Nat),cs=[.slice a hs.length cap]∧za6 w a vs∧zm8 w (fun x=>x<w.heap.size) vs hs∧(hs≠[]→∀ q,a=some q→q.block<w.heap.size)∧∀ t∈hs,t.mask.length≤140737488355232:=by
 unfold qm8 at hb
 split at hb
 ·rename_i e ht
  split at hb
  ·rename_i fs he
   rw [Bool.and_eq_true,Bool.and_eq_true] at hb
   obtain ⟨⟨k1,k2⟩,hb⟩:=hb
   split at hb
   ·rename_i f0 f1 f2 g0 g1 g2
    simp only [Bool.and_eq_true,beq_iff_eq] at hb k1 k2
    obtain ⟨⟨⟨⟨⟨⟨⟨⟨o0,o1⟩,o2⟩,c0⟩,c1⟩,c2⟩,u0⟩,u1⟩,u2⟩:=hb
    obtain ⟨a,len,cap,rows,rfl,hlc,hrl,hrk,hrow,hn,hlen,hel⟩:=yz6 ht h hfit
    obtain ⟨hs,e1,e2,e3⟩:=uc9 (w:=w) (rows:=rows) fun r hr=>by
     obtain ⟨n,d,ps,hf,ht'⟩:=hel r hr
     obtain ⟨hl,hg⟩:=vp5 he ht' hf
     obtain ⟨n0,y0,t0,_⟩:=hg 0 f0 g0
     obtain ⟨n1,y1,t1,_⟩:=hg 1 f1 g1
     obtain ⟨n2,y2,t2,z2⟩:=hg 2 f2 g2
     rw [o0,c0] at t0
     rw [o1,c1] at t1
     rw [o2,c2] at t2
     split at u0
     ·rename_i v0
      split at u1
      ·rename_i v1
       split at u2
       ·rename_i b v2
        split at u2
        ·rename_i v3
         obtain ⟨m0,q0,_,_⟩:=DataW.trod_int v0 t0
         obtain ⟨m1,q1,_⟩:=DataW.trod_bool v1 t1
         obtain ⟨m2,l,c,q2,_,hby,_,hre⟩:=yg9 v2 v3 (by simpa using u2) t2 z2
         exact ⟨m0,m1,m2,l,c,list3 (by rw [hl,k2]) q0 q1 q2,hby,hre⟩
        ·cases u2
       ·cases u2
      ·cases u1
     ·cases u0
    refine ⟨a,rows.flatten,hs,cap,by rw [e1,hrl],hrow,e2,fun hne q hq=>?_,e3⟩
    have hne':rows.flatten≠[]:=by
     intro hz
     have:=zm8.length e2
     rw [hz] at this
     have hz:hs.length=0:=by simp at this;omega
     exact hne (List.eq_nil_of_length_eq_zero hz)
    obtain ⟨b,o,e,hlt⟩:=za6.blk hrow hne'
    rw [hq] at e
    cases e
    exact hlt
   ·cases hb
  ·cases hb
 ·cases hb
end
end
section
open Go.ChangeShapes Go.WideShapes Go.ChangeAt Go.RowKit
section
variable {H:Type} (enc:TypeId×Value→H) (P:Program)
def yi3 {α:Type} (r:ERep α) (e:TypeId) (good:α→Prop):Prop :=
 P.cellsOf e=r.k∧∀ {w:World} {base:Nat} {spare:Nat→Bool} {held:Bool} {fuel:Nat} {cs:List Value} {x:DataW H×List MemPlace},DataW.trod enc P w base spare held fuel e cs=some x→Fits P e x.1→∃ y,r.R w (fun b=>b<w.heap.size) cs y∧good y
def vl3 {α:Type} (fs:List Field) (o:Nat) (r:ERep α) (good:α→Prop):Prop :=
 ∀ {w:World} {base:Nat} {spare:Nat→Bool} {held:Bool} {cs:List Value},cs.length=o+r.k→(∀ f∈fs,∃ n y,DataW.trod enc P w base spare held n f.type ((cs.drop f.offset).take (P.cellsOf f.type))=some y∧Fits P f.type y.1)→∃ y,r.R w (fun b=>b<w.heap.size) (cs.drop o) y∧good y
variable {enc P}
theorem xu0 {α:Type} {r:ERep α} {f:Field} {good:α→Prop} (h:yi3 enc P r f.type good):vl3 enc P [f] f.offset r good:=by
 intro w base spare held cs hl hf
 obtain ⟨n,y,hy,hfit⟩:=hf f (by simp)
 obtain ⟨z,hz,hg⟩:=h.2 hy hfit
 rw [h.1,List.take_of_length_le (by rw [List.length_drop];omega)] at hz
 exact ⟨z,hz,hg⟩
theorem ur8 {α:Type} {r:ERep α} {f:Field} {good:α→Prop} {o:Nat} (h:yi3 enc P r f.type good) (ho:o=f.offset):vl3 enc P [f] o r good:=by subst ho;exact xu0 h
theorem ym2 {α β γ:Type} {r:ERep β} {s:ERep γ} {f:α→β} {g:α→γ} (mk:β→γ→α) (h1:∀ x y,f (mk x y)=x) (h2:∀ x y,g (mk x y)=y) {fd:Field} {fs:List Field} {goodr:β→Prop} {goods:γ→Prop} {good:α→Prop}
  (hr:yi3 enc P r fd.type goodr) {o:Nat} (ho:o=fd.offset+r.k) (hs:vl3 enc P fs o s goods) (hg:∀ x y,goodr x→goods y→good (mk x y)):vl3 enc P (fd :: fs) fd.offset (ERep.pair r s f g) good:=by
 intro w base spare held cs hl hf
 subst ho
 obtain ⟨n,y,hy,hfit⟩:=hf fd (by simp)
 obtain ⟨x,hx,hgx⟩:=hr.2 hy hfit
 have hl':cs.length=fd.offset+(r.k+s.k):=hl
 obtain ⟨z,hz,hgz⟩:=hs (by omega) fun f' hf'=>hf f' (by simp [hf'])
 rw [hr.1] at hx
 refine ⟨mk x z,⟨(cs.drop fd.offset).take r.k,cs.drop (fd.offset+r.k),?_,?_,?_⟩,hg x z hgx hgz⟩
 ·rw [← List.drop_drop,List.take_append_drop]
 ·rw [h1];exact hx
 ·rw [h2];exact hz
theorem ua7 {α β γ:Type} {r:ERep β} {s:ERep γ} {f:α→β} {g:α→γ} (mk:β→γ→α) (h1:∀ x y,f (mk x y)=x) (h2:∀ x y,g (mk x y)=y) {fd:Field} {fs:List Field} {goodr:β→Prop} {goods:γ→Prop} {good:α→Prop} {o₀:Nat}
  (hr:yi3 enc P r fd.type goodr) {o:Nat} (ho₀:o₀=fd.offset) (ho:o=o₀+r.k) (hs:vl3 enc P fs o s goods) (hg:∀ x y,goodr x→goods y→good (mk x y)):vl3 enc P (fd :: fs) o₀ (ERep.pair r s f g) good:=by
 subst ho₀
 exact ym2 mk h1 h2 hr ho hs hg
theorem xe7 {α:Type} {r:ERep α} {e:TypeId} {fs:Array Field} {good:α→Prop} (he:P.underlying e=some (.struct fs)) (hc:P.cellsOf e=r.k) (h:vl3 enc P fs.toList 0 r good):yi3 enc P r e good:=by
 refine ⟨hc,fun {w base spare held fuel cs x} ht hfit=>?_⟩
 obtain ⟨hl,hf⟩:=vp5 he ht hfit
 have:=h (w:=w) (base:=base) (spare:=spare) (held:=held) (cs:=cs) (by rw [hl,hc];omega) fun f hf'=>by
  obtain ⟨i,hi,e⟩:=List.getElem_of_mem hf'
  have hi':i<fs.size:=by simpa using hi
  exact hf i f (by simp at e;simp [hi',e])
 simpa using this
theorem uy0 {e:TypeId} (he:P.underlying e=some (.int .i64)) (hc:P.cellsOf e=1):yi3 enc P intR e fun _=>True:=by
 refine ⟨hc,fun ht hfit=>?_⟩
 obtain ⟨n,hn,_,_⟩:=DataW.trod_int he ht
 exact ⟨n,hn,trivial⟩
theorem qe3 {e:TypeId} (he:P.underlying e=some (.int .u8)) (hc:P.cellsOf e=1):yi3 enc P u8R e fun _=>True:=by
 refine ⟨hc,fun ht hfit=>?_⟩
 obtain ⟨n,hn,_,hw⟩:=DataW.trod_int he ht
 exact ⟨UInt8.ofNat n.toNat,by rw [hn,vk0 hw];rfl,trivial⟩
theorem ur7 {e:TypeId} (he:P.underlying e=some .bool) (hc:P.cellsOf e=1):yi3 enc P qg1 e fun _=>True:=by
 refine ⟨hc,fun ht hfit=>?_⟩
 obtain ⟨b,hb,_⟩:=DataW.trod_bool he ht
 exact ⟨b,hb,trivial⟩
def strR:ERep ByteArray:=ut8 (fun s=>[.string s]) 1 (by decide) (fun _=>rfl) (fun b v hv=>by simp at hv;rw [hv];rfl)
theorem ux8 {e:TypeId} (he:P.underlying e=some .string) (hc:P.cellsOf e=1):yi3 enc P strR e fun s=>s.size<9223372036854775807:=by
 refine ⟨hc,fun {w base spare held fuel cs x} ht hfit=>?_⟩
 obtain ⟨s,hs,hx,hm⟩:=DataW.trod_string he ht
 refine ⟨s,hs,?_⟩
 have:reachBytes<9223372036854775807:=by decide
 have h2:=hfit s.data.toList.length (by rw [hx];simp [DataW.weights])
 show s.size<9223372036854775807
 rw [yg5]
 omega
theorem uj5 {t e:TypeId} (ht:P.underlying t=some (.slice e)) (he:P.underlying e=some (.int .u8)) (hb:P.bytesOf e=1) (hc:P.cellsOf t=1):yi3 enc P xh2 t fun l=>l.length≤reachBytes:=by
 refine ⟨hc,fun {w base spare held fuel cs x} h hfit=>?_⟩
 obtain ⟨a,l,cap,rfl,hlc,hby,_,hr⟩:=yg9 ht he hb h hfit
 refine ⟨l,⟨a,cap,rfl,hlc,hby,fun hn p hp=>?_⟩,hr⟩
 obtain ⟨b,o,e,hlt⟩:=za6.blk hby (by simpa using hn)
 rw [hp] at e;cases e;exact hlt
theorem vy7 {α:Type} {r:ERep α} {e:TypeId} {good:α→Prop} (h:yi3 enc P r e good) {w:World} {base:Nat} {spare:Nat→Bool} {held:Bool}:∀ {rows:List (List Value)},(∀ c∈rows,∃ n d ps,Fits P e d∧DataW.trod enc P w base spare held n e c=some (d,ps))→
  ∃ l:List α,l.length=rows.length∧Rows r w (fun b=>b<w.heap.size) rows.flatten l∧∀ x∈l,good x
 | [],_=>⟨[],rfl,rfl,by simp⟩
 | c :: rows,hr=>by
  obtain ⟨n,d,ps,hf,ht⟩:=hr c (by simp)
  obtain ⟨y,hy,hg⟩:=h.2 ht hf
  obtain ⟨l,h1,h2,h3⟩:=vy7 h (rows:=rows) fun c' hc'=>hr c' (by simp [hc'])
  refine ⟨y :: l,by simp [h1],⟨c,rows.flatten,by simp,hy,h2⟩,fun x hx=>?_⟩
  rcases List.mem_cons.1 hx with rfl | hx
  ·exact hg
  ·exact h3 x hx
theorem xt9 {α:Type} {r:ERep α} {t e:TypeId} {good:α→Prop} (ht:P.underlying t=some (.slice e)) (h:yi3 enc P r e good) {w:World} {base:Nat} {spare:Nat→Bool} {held:Bool} {fuel:Nat} {cs:List Value} {x:DataW H×List MemPlace} (hx:DataW.trod enc P w base spare held fuel t cs=some x) (hfit:Fits P t x.1) :
  ∃ (a:Option Addr) (l:List α) (cap:Nat),cs=[.slice a l.length cap]∧l.length≤cap∧zb0 r w (fun b=>b<w.heap.size) a l∧(∀ x∈l,good x)∧l.length * P.bytesOf e≤reachBytes:=by
 obtain ⟨a,len,cap,rows,rfl,hlc,hrl,hrk,hrow,hn,hlen,hel⟩:=yz6 ht hx hfit
 obtain ⟨l,h1,h2,h3⟩:=vy7 h hel
 have hll:l.length=len:=by omega
 subst hll
 refine ⟨a,l,cap,rfl,hlc,⟨_,hrow,h2,fun hn p hp=>?_⟩,h3,hlen⟩
 have hv:rows.flatten≠[]:=List.ne_nil_of_length_pos (by rw [Rows.len h2];exact Nat.mul_pos (List.length_pos_iff.2 hn) r.pos)
 obtain ⟨b,o,e,hlt⟩:=za6.blk hrow hv
 rw [hp] at e;cases e;exact hlt
theorem ux9 {e:TypeId} {f0 f1 f2 f3:Field} (he:P.underlying e=some (.struct #[f0,f1,f2,f3])) (hc:P.cellsOf e=4) (o0:f0.offset=0) (o1:f1.offset=1) (o2:f2.offset=2) (o3:f3.offset=3)
  (h0:yi3 enc P intR f0.type fun _=>True) (h1:yi3 enc P u8R f1.type fun _=>True) (h2:yi3 enc P strR f2.type fun s=>s.size<9223372036854775807) (h3:yi3 enc P intR f3.type fun _=>True):yi3 enc P keyR e fun k=>k.name.size<9223372036854775807:=by
 have hp:=xe7 (r:=ERep.pair intR (ERep.pair u8R (ERep.pair strR intR (fun x:ByteArray×Int=>x.1) (fun x=>x.2)) (fun x:UInt8×(ByteArray×Int)=>x.1) (fun x=>x.2)) (fun x:Key=>x.ino) (fun x=>(x.what,(x.name,x.chunk)))) (good:=fun k=>k.name.size<9223372036854775807) he hc (by
  rw [← o0]
  refine ym2 (fun a b=>⟨a,b.1,b.2.1,b.2.2⟩) (fun _ _=>rfl) (fun _ _=>rfl) h0 (o:=f1.offset) (by rw [o0,o1];rfl) ?_ (goods:=fun y=>y.2.1.size<9223372036854775807) fun x y _ hy=>hy
  refine ym2 (fun a b=>(a,b)) (fun _ _=>rfl) (fun _ _=>rfl) h1 (o:=f2.offset) (by rw [o1,o2];rfl) ?_ (goods:=fun y=>y.1.size<9223372036854775807) fun x y _ hy=>hy
  exact ym2 (fun a b=>(a,b)) (fun _ _=>rfl) (fun _ _=>rfl) h2 (o:=f3.offset) (by rw [o2,o3];rfl) (xu0 h3) fun x y hx _=>hx)
 refine ⟨hc,fun ht hfit=>?_⟩
 obtain ⟨y,⟨u,v,rfl,hu,s,t,rfl,hs,s2,t2,rfl,hs2,ht2⟩,hg⟩:=hp.2 ht hfit
 refine ⟨y,?_,hg⟩
 have e1:u=[.int .i64 y.ino]:=hu
 have e2:s=[bv y.what]:=hs
 have e3:s2=[.string y.name]:=hs2
 have e4:t2=[.int .i64 y.chunk]:=ht2
 rw [e1,e2,e3,e4];rfl
theorem ua6 {e:TypeId} {f0 f1 f2:Field} (he:P.underlying e=some (.struct #[f0,f1,f2])) (hc:P.cellsOf e=6) (o0:f0.offset=0) (o1:f1.offset=4) (o2:f2.offset=5)
  (h0:yi3 enc P keyR f0.type fun k=>k.name.size<9223372036854775807) (h1:yi3 enc P xh2 f1.type fun l=>l.length≤reachBytes) (h2:yi3 enc P qg1 f2.type fun _=>True):yi3 enc P zc4 e fun x=>x.key.name.size<9223372036854775807∧x.val.length≤reachBytes:=by
 refine xe7 he hc ?_
 rw [← o0]
 refine ym2 (fun a b=>⟨a,b.1,b.2⟩) (fun _ _=>rfl) (fun _ _=>rfl) h0 (o:=f1.offset) (by rw [o0,o1];rfl) ?_ (goods:=fun y=>y.1.length≤reachBytes) fun x y hx hy=>⟨hx,hy⟩
 exact ym2 (fun a b=>(a,b)) (fun _ _=>rfl) (fun _ _=>rfl) h1 (o:=f2.offset) (by rw [o1,o2];rfl) (xu0 h2) fun x y hx _=>hx
end
end
section
open Go.ChangeShapes Go.WideShapes Go.ChangeAt Go.RowKit Go.Proofs
section
variable {H:Type} {enc:TypeId×Value→H}
theorem ua5 {α:Type} {r:ERep α} {t e:TypeId} {good:α→Prop} (ht:Tryz.prog.underlying t=some (.slice e)) (hc:Tryz.prog.cellsOf t=1) (h:yi3 enc Tryz.prog r e good):yi3 enc Tryz.prog (un2 r) t fun l=>(∀ x∈l,good x)∧l.length * Tryz.prog.bytesOf e≤reachBytes:=by
 refine ⟨hc,fun hx hfit=>?_⟩
 obtain ⟨a,l,cap,rfl,hlc,hs,hg,hb⟩:=xt9 ht h hx hfit
 exact ⟨l,⟨a,cap,rfl,hlc,hs⟩,hg,hb⟩
theorem xu1:yi3 enc Tryz.prog intR 3 fun _=>True:=uy0 Tryz.underlying3 (by kernel_rfl)
theorem ua8:yi3 enc Tryz.prog u8R 5 fun _=>True:=qe3 Tryz.underlying5 (by kernel_rfl)
theorem uj6:yi3 enc Tryz.prog qg1 4 fun _=>True:=ur7 Tryz.underlying4 (by kernel_rfl)
theorem ur9:yi3 enc Tryz.prog strR 9 fun s=>s.size<9223372036854775807:=ux8 Tryz.underlying9 (by kernel_rfl)
theorem ua9:yi3 enc Tryz.prog xh2 23 fun l=>l.length≤reachBytes:=uj5 Tryz.underlying23 Tryz.underlying5 (by kernel_rfl) (by kernel_rfl)
theorem us0:yi3 enc Tryz.prog keyR 70 fun k=>k.name.size<9223372036854775807:=ux9 Tryz.underlying70 (by kernel_rfl) rfl rfl rfl rfl xu1 ua8 ur9 xu1
theorem xq6:yi3 enc Tryz.prog zc4 72 fun x=>x.key.name.size<9223372036854775807∧x.val.length≤reachBytes:=ua6 Tryz.underlying72 (by kernel_rfl) rfl rfl rfl us0 ua9 uj6
theorem xx8 {l:List zb2} (h:(∀ x∈l,x.key.name.size<9223372036854775807∧x.val.length≤reachBytes)∧l.length * Tryz.prog.bytesOf 72≤reachBytes):va4 l∧yw0 l:=by
 have hb:Tryz.prog.bytesOf 72=72:=by kernel_rfl
 obtain ⟨h1,h2⟩:=h
 rw [hb] at h2
 have hr:reachBytes≤140737488351232:=by decide
 exact ⟨⟨by omega,fun x hx=>by have:=(h1 x hx).2;omega⟩,fun x hx=>(h1 x hx).1⟩
theorem us1:yi3 enc Tryz.prog actR 64 fun x=>va4 x.changes∧yw0 x.changes:=by
 refine xe7 Tryz.underlying64 (by kernel_rfl) ?_
 unfold actR
 simp only [List.toList_toArray]
 refine ua7 (fun a b=>(⟨a,b.1,b.2⟩: ActS)) (fun _ _=>rfl) (fun _ _=>rfl) xu1 (o:=1) (by rfl) (by rfl) ?_ (goods:=fun y=>va4 y.1∧yw0 y.1) fun x y _ hy=>hy
 exact ua7 (fun a b=>(a,b)) (fun _ _=>rfl) (fun _ _=>rfl) (ua5 Tryz.underlying22 (by kernel_rfl) xq6) (o:=2) (by rfl) (by rfl) (ur8 ua8 (by rfl)) fun x y hx _=>xx8 hx
theorem xn0 {w:World} {base:Nat} {spare:Nat→Bool} {held:Bool} {fuel:Nat} {cs:List Value} {x:DataW H×List MemPlace} (hx:DataW.trod enc Tryz.prog w base spare held fuel 58 cs=some x) (hfit:Fits Tryz.prog 58 x.1) :
  ∃ (a:Option Addr) (l:List ActS) (cap:Nat),cs=[.slice a l.length cap]∧zb0 actR w (fun b=>b<w.heap.size) a l∧qg3 l:=by
 obtain ⟨a,l,cap,h1,h2,h3,h4,_⟩:=xt9 Tryz.underlying58 us1 hx hfit
 exact ⟨a,l,cap,h1,h3,h4⟩
theorem xk5 {w:World} {base:Nat} {spare:Nat→Bool} {held:Bool} {fuel:Nat} {cs:List Value} {x:DataW H×List MemPlace} (hx:DataW.trod enc Tryz.prog w base spare held fuel 22 cs=some x) (hfit:Fits Tryz.prog 22 x.1) :
  ∃ (a:Option Addr) (l:List zb2) (cap:Nat),cs=[.slice a l.length cap]∧zb0 zc4 w (fun b=>b<w.heap.size) a l∧va4 l∧yw0 l:=by
 obtain ⟨a,l,cap,h1,h2,h3,h4,h5⟩:=xt9 Tryz.underlying22 xq6 hx hfit
 exact ⟨a,l,cap,h1,h3,xx8 ⟨h4,h5⟩⟩
end
end
structure xp0 (c:Chip) (fs:List Fact) (N:Nat):Prop where
 well:Well c 3
 alive:c.dead=false
 nb:c.nb=16
 np:c.np=8
 sz:c.sz=128
 sp:c.sp≤4
 low:1≤lowL (partsC c 3)
 tell:told (partsC c 3)=fs
 fine:Fine 128 fs
 last:∀ i,i<c.nb→isHd c i→(hd c i).1.seq≤N
 hits:c.hits.length≤2
theorem xp0.mono {c:Chip} {fs:List Fact} {N N':Nat} (h:xp0 c fs N) (hN:N≤N'):xp0 c fs N' :=
 ⟨h.well,h.alive,h.nb,h.np,h.sz,h.sp,h.low,h.tell,h.fine,fun i hi hh=>Nat.le_trans (h.last i hi hh) hN,h.hits⟩
theorem yp8.chipP {s:LogS} {fs:List Fact} {n N:Nat} (h:yp8 s fs n N) (hb:zr6 s.chip<2):xp0 s.chip fs N:=by
 obtain ⟨f1,f2,_⟩:=h.few hb
 have hw:=h.log.well
 rw [h.era] at hw
 exact ⟨hw,h.log.alive,h.nb,h.np,h.sz,h.fit.sp,h.low,f1.trans f2,by rw [← f2];exact h.fine,fun i hi hh=>Nat.le_trans (h.log.inv.last i hi hh) h.last,h.hits⟩
theorem xp0.opened {c:Chip} {fs:List Fact} {N:Nat} (h:xp0 c fs N):(zu6 c 3).2=0∧yd9 (zu6 c 3).1∧(zu6 c 3).1.facts=fs∧(zu6 c 3).1.chip=c∧(zu6 c 3).1.era=3∧(zu6 c 3).1.pool.last≤N∧(zu6 c 3).1.Fit∧ye0 163200 fs:=by
 obtain ⟨k1,k2,k3,k4,k5⟩:=xm9 (c:=c) (era:=3) h.well.ci.ok (by rw [h.nb];decide) h.sp
 rcases uy3 h.well h.alive (by decide) (by decide) with ⟨e,_⟩| ⟨_,o1,o2,o3,o4,o5,o6⟩
 ·exact absurd e (uo1 h.low)
 ·rw [h.tell] at o3
  refine ⟨o1,o2,o3,o4,o5,?_,k4,by rw [← o3];exact k5⟩
  rw [o6]
  exact (yq5 h.well.ci h.alive).2 N h.last
theorem yd9.setHits {s:LogS} (h:yd9 s) (hs:List Hit):yd9 { s with chip:=(s.chip.setHits hs).1 }:=by
 rcases yj3 s.chip hs with e | e
 ·rw [e];exact h
 ·rw [e];exact h.hits hs 0
theorem uh6 {c:Chip} {hs:List Hit} (h1:c.hits.length≤2) (h2:hs.length≤2):(c.setHits hs).1.hits.length≤2:=by
 rcases yj3 c hs with e | e
 ·rw [e];exact h1
 ·rw [e];exact h2
theorem xp7 (c:Chip) (hs:List Hit) (era:Nat):partsC (c.setHits hs).1 era=partsC c era:=by
 rcases yj3 c hs with e | e
 ·rw [e]
 ·rw [e];rfl
theorem vh1 {s t:LogS} {fs:List Fact} {N:Nat} (hg:s.chip.SameGeo t.chip) (hw:Well t.chip 3) (hi:Inv t.pool t.chip) (hnb:s.chip.nb=16) (hnp:s.chip.np=8) (hsz:s.chip.sz=128) (hsp:s.chip.sp≤4) (hl:1≤lowL (partsC t.chip 3)) (ht:told (partsC t.chip 3)=fs) (hf:Fine 128 fs) (hN:t.pool.last≤N):xp0 t.chip.power fs N :=
 ⟨vo3 hw,rfl,hg.1.trans hnb,hg.2.1.trans hnp,hg.2.2.1.trans hsz,by show t.chip.sp≤4;rw [hg.2.2.2];exact hsp,hl,ht,hf,fun i hi' hh=>Nat.le_trans (hi.last i hi' hh) hN,Nat.zero_le _⟩
theorem qb5 {c:Chip} {fs:List Fact} {N:Nat} (h:xp0 c fs N) (hN:N≤1000000000000) {hs:List Hit} (hl:hs.length≤2) (b:Int) :
  ({ (zu6 c 3).1 with chip:=((zu6 c 3).1.chip.setHits hs).1 }:LogS).Fit∧xp0 (({ (zu6 c 3).1 with chip:=((zu6 c 3).1.chip.setHits hs).1 }:LogS).tidy b).1.chip.power fs (N+11000000):=by
 obtain ⟨_,o2,o3,o4,o5,o6,o7,o8⟩:=h.opened
 have hgl:=o8.len
 have h2:=o2.setHits hs
 have hg:=xm3 (zu6 c 3).1.chip hs
 have hh:=uh6 (hs:=hs) (c:=(zu6 c 3).1.chip) (by rw [o4];exact h.hits) hl
 have hp:=xp7 (zu6 c 3).1.chip hs 3
 generalize hd:((zu6 c 3).1.chip.setHits hs).1=d at *
 rw [o4] at hg hp
 have nb:d.nb=16:=hg.1.1.trans h.nb
 have sz:d.sz=128:=hg.1.2.2.1.trans h.sz
 generalize (zu6 c 3).1=s at *
 have hft:({ s with chip:=d }:LogS).Fit:=⟨by show d.nb<20;omega,by show d.np≤32;rw [hg.1.2.1,h.np];decide,by show d.sp≤4;rw [hg.1.2.2.2];exact h.sp,o7.page,o7.last⟩
 refine ⟨hft,?_⟩
 have hs':({ s with chip:=d }:LogS).chip=d:=rfl
 have hf':({ s with chip:=d }:LogS).facts=fs:=o3
 have he':({ s with chip:=d }:LogS).era=3:=o5
 have hl':({ s with chip:=d }:LogS).pool.last≤N:=o6
 generalize ({ s with chip:=d }:LogS)=t at *
 have Td:=uv5 (H:=2) (b:=b) h2 (by rw [hs',sz,hf'];exact h.fine) (by rw [hs'];exact hh) (by rw [hs',nb,hf'];omega)
 have khi:=Td.hi
 rw [hs',nb,hf'] at khi
 have kt:=Td.told
 have kw:=Td.well
 have kl:=Td.low
 rw [he'] at kt kw kl
 rw [hs',hp,hf'] at kt
 rw [hs',hp] at kl
 have kg:=Td.geo
 rw [hs'] at kg
 exact vh1 (s:=⟨t.pool,d,3,[],0,0⟩) kg kw Td.inv nb (hg.1.2.1.trans h.np) sz (by show d.sp≤4;rw [hg.1.2.2.2];exact h.sp) (Nat.le_trans h.low kl) (kt h.tell) h.fine (by omega)
theorem qb7 {p q:Prop} [Decidable p] [Decidable q] {X Y:Prop} (h1:p→q→X) (h2:Y):br (decide p) (br (decide q) X Y) Y:=za8 (fun a=>za8 (fun b=>h1 a b) fun _=>h2) fun _=>h2
theorem uy5 {F X:Nat→Prop} {w:World} {q:Nat} {M:PLoc} {s:LogS} (h:zo1 F X w q M s) (hS:∀ x,F x→x<w.heap.size) {ma:Option Addr} {mask:List UInt8} {mc:Nat} (hby:za4 w ma mask) (hml:mask.length≤140737488355232)
  (hmF:mask≠[]→∀ p,ma=some p→¬ F p.block) {after:Int} {fails:Bool} {B1:Nat} {w1:World} (hn:New w (.cells #[.int .i64 after,.bool fails,.slice ma mask.length mc] T.zx6) B1 w1) :
  za0 prog K.zk2 #[.pointer (some ⟨M.p,0,none⟩),.slice (some ⟨B1,0,none⟩) 1 1] w1 fun v w'=>∃ n:Int,v= .int .i64 n∧Upd F w w'∧w1.heap.size≤w'.heap.size∧zo1 F (fun x=>X x∨Fr w w' x) w' q M { s with chip:=(s.chip.setHits [⟨after,fails,mask⟩]).1 }:=by
 have hB:=hn.num
 have hs1:=hn.size
 have hrow:za6 w1 (some ⟨B1,0,none⟩) [.int .i64 after,.bool fails,.slice ma mask.length mc]:=za6.of hn.get fun j v hj=>by simpa using hj
 refine (uo4 (Gin:=fun x=>¬ F x) (hs:=[⟨after,fails,mask⟩]) (cp:=1) (h.ext hn.upd) (fun x hx=>by have:=hS x hx;omega) hrow ⟨ma,mc,[],rfl,za6.ext hby hn.upd,hmF,rfl⟩ (fun x hx=>hx) (fun _ p hp hx=>by
  cases hp
  have h3:B1<w.heap.size:=hS _ hx
  omega) (by simp) (fun t ht=>by simp at ht;rw [ht];exact hml)).mono ?_
 rintro _ w2 ⟨rfl,hu2,h2⟩
 have hs2:=hu2.size
 refine ⟨_,rfl,(Upd.ext hn.upd).trans hu2,hs2,?_⟩
 obtain ⟨⟨a,c,g,G,g1,g2⟩,p,o1,o2,e⟩:=h2
 have hX:∀ x,(X x∨Fr w1 w2 x)→(X x∨Fr w w2 x):=fun x hx=>by
  rcases hx with hx | hx
  ·exact .inl hx
  ·exact .inr ⟨by have:=hx.1;omega,hx.2⟩
 refine ⟨⟨a,c,g,G,g1,fun b hb=>⟨hX _ (g2 b hb).1,(g2 b hb).2⟩⟩,p.mono (fun _ h=>h) hX,o1,?_,e⟩
 rintro (hx | hx)
 ·exact h.outX hx
 ·have:=h.lt
  have:=hx.1
  omega
theorem ql8 (b:UInt8):IntKind.i64.wrap (Int.tmod (b.toNat:Int) 30)=((b.toNat % 30:Nat):Int):=by
 have hb:=b.toNat_lt
 have e:Int.tmod (b.toNat:Int) 30=((b.toNat % 30:Nat):Int):=(Int.ofNat_tmod _ _).symm
 rw [e,w64 (by omega) (by omega)]
theorem vt6 {c:Chip} {fs:List Fact} {N:Nat} (h:xp0 c fs N):zk3 (lowL (partsL c 3 (zc5 c))) (partsL c 3 (zc5 c))=fs:=by
 have hi:=(yq5 h.well.ci h.alive).1
 have e:zc5 c=heads c:=by rw [← vc1 hi h.alive,yx5 hi h.alive]
 rw [e,← h.tell];rfl
theorem uz2 {cs:List zb2} (h:mayL cs=true):vl4 cs:=by
 unfold mayL at h
 simp only [Bool.and_eq_true,decide_eq_true_eq,List.all_eq_true] at h
 exact ⟨h.1.2,fun x hx=>ub9 (h.2 x hx)⟩
theorem ve4 {s:LogS} (ha:s.chip.ask 0 0=0) {cs:List zb2} (h:(putL s.chip.sz cs).2≠0):s.put cs=(s,(putL s.chip.sz cs).2):=by
 rw [LogS.put_eq,if_neg (by omega),if_pos h]
def qo0 (fs now:List Fact) (cs:List zb2) (e:Nat):Prop:=(e=0∧mayL cs=true∧now=ze0 fs cs)∨(e≠0∧now=fs)∨(e=10∧mayL cs=true∧now=ze0 fs cs)
theorem qj7 {s:LogS} {fs:List Fact} {n N:Nat} (h:yp8 s fs n N) (hq:vl2 s) (hn:n≤1000000) (hN:N≤1000000000000) {hit:Hit} (hf:hit.fails=false) (cs:List zb2) :
  ({ s with chip:=(s.chip.setHits [hit]).1 }:LogS).Fit∧ye0 n ({ s with chip:=(s.chip.setHits [hit]).1 }:LogS).facts∧∃ now,xp0 (({ s with chip:=(s.chip.setHits [hit]).1 }:LogS).put cs).1.chip.power now (N+100000000)∧qo0 fs now cs (({ s with chip:=(s.chip.setHits [hit]).1 }:LogS).put cs).2:=by
 obtain ⟨f1,f2,_⟩:=h.few (by rw [hq.2];decide)
 have hgl:=h.good.len
 have hlog:=h.log.setHits [hit]
 have hg:=xm3 s.chip [hit]
 have hp:=xp7 s.chip [hit] 3
 have hh:(s.chip.setHits [hit]).1.hits.length≤2∧∀ t∈(s.chip.setHits [hit]).1.hits,t.fails=false:=by
  rcases yj3 s.chip [hit] with e | e
  ·rw [e,hq.1];exact ⟨by decide,fun _ h=>by cases h⟩
  ·rw [e];exact ⟨by show [hit].length≤2;simp,fun t ht=>by
    have:t=hit:=by simpa using ht
    rw [this];exact hf⟩
 generalize (s.chip.setHits [hit]).1=d at *
 have nb:d.nb=16:=hg.1.1.trans h.nb
 have np:d.np=8:=hg.1.2.1.trans h.np
 have sz:d.sz=128:=hg.1.2.2.1.trans h.sz
 have sp:d.sp≤4:=by rw [hg.1.2.2.2];exact h.fit.sp
 refine ⟨⟨by show d.nb<20;omega,by show d.np≤32;omega,sp,h.fit.page,h.fit.last⟩,h.good,?_⟩
 have hs':({ s with chip:=d }:LogS).chip=d:=rfl
 have hf':({ s with chip:=d }:LogS).facts=s.facts:=rfl
 have he':({ s with chip:=d }:LogS).era=3:=h.era
 have hl':({ s with chip:=d }:LogS).pool.last≤N:=h.last
 generalize ({ s with chip:=d }:LogS)=t at *
 have htell:told (partsC t.chip t.era)=t.facts:=by rw [hs',he',hp,hf'];exact f1
 have htf:t.facts=fs:=hf'.trans f2
 by_cases h0:(putL t.chip.sz cs).2=0
 ·have Pk:=uw9 (H:=2) hlog (by rw [hs',sz,hf'];exact h.fine) h0 (by rw [hs'];exact hh.1) (by rw [hs',nb,hf'];omega)
  have hi:=Pk.hi
  rw [hs',nb,hf'] at hi
  have kt:=Pk.tell htell
  have kw:=Pk.well
  have kl:=Pk.low
  have kf:=Pk.fine (by rw [htell,hs',sz,hf'];exact h.fine)
  have kc:=(Pk.calm (by rw [hs'];exact hh.2)).2.2
  have kg:=Pk.geo
  rw [he'] at kt kw kl kf kc
  rw [hs',hp] at kl
  rw [hs',sz] at kf
  rw [hs'] at kg
  have hmay:mayL cs=true:=(xq3 (sz:=t.chip.sz) (by rw [hs',sz];decide) (by rw [hs',sz];decide) h0).2
  have hch:∀ now,told (partsC (t.put cs).1.chip 3)=now→xp0 (t.put cs).1.chip.power now (N+100000000):=fun now e =>
   vh1 (s:=⟨t.pool,d,3,[],0,0⟩) kg kw Pk.inv nb np sz sp (Nat.le_trans h.low kl) e (by rw [← e];exact kf) (by omega)
  rcases kt with ⟨hne,e⟩| e
  ·exact ⟨fs,hch _ (e.trans htf),.inr (.inl ⟨hne,rfl⟩)⟩
  ·rcases Pk.err with e0 | e0 | e0
   ·exact ⟨_,hch _ e,.inl ⟨e0,hmay,by rw [htf]⟩⟩
   ·exact ⟨_,hch _ e,.inr (.inr ⟨e0,hmay,by rw [htf]⟩)⟩
   ·have e1:=kc e0 (by rw [he'] at htell;exact htell)
    exact ⟨fs,hch _ (e1.trans htf),.inr (.inl ⟨by omega,rfl⟩)⟩
 ·have ha:t.chip.ask 0 0=0:=yu0 (i:=0) (k:=0) hlog.alive (by rw [hs',nb];decide) (by rw [hs',np];decide)
  rw [ve4 ha h0]
  refine ⟨fs,vh1 (s:=⟨t.pool,d,3,[],0,0⟩) (t:=t) (by rw [hs'];exact .refl _) (by have:=hlog.well;rw [he'] at this;exact this) hlog.inv nb np sz sp (by rw [hs',hp];exact h.low) (by rw [he'] at htell;exact htell.trans htf) (by rw [← f2];exact h.fine) (by omega),.inr (.inl ⟨h0,rfl⟩)⟩
theorem qi3 {P:Pool} {c:Chip} (h:Inv P c) (hd0:c.dead=false):zk3 (lowL (partsL c 3 (zc5 c))) (partsL c 3 (zc5 c))=told (partsC c 3):=by
 have e:zc5 c=heads c:=by rw [← vc1 h hd0,yx5 h hd0]
 rw [e];rfl
theorem qe6 {c:Chip} {now:List Fact} {N:Nat} (h:xp0 c now N) (hN:N≤1000000000000) {cs:List zb2} (h0:((zu6 c 3).1.put cs).2=0) :
  Inv ((zu6 c 3).1.put cs).1.pool ((zu6 c 3).1.put cs).1.chip∧((zu6 c 3).1.put cs).1.chip.dead=false∧told (partsC ((zu6 c 3).1.put cs).1.chip 3)=ze0 now cs∧vl4 cs:=by
 obtain ⟨_,o2,o3,o4,o5,o6,o7,o8⟩:=h.opened
 have hgl:=o8.len
 generalize (zu6 c 3).1=t at *
 have ha:t.chip.ask 0 0=0:=yu0 (i:=0) (k:=0) o2.alive (by rw [o4,h.nb];decide) (by rw [o4,h.np];decide)
 have hp:(putL t.chip.sz cs).2=0:=Classical.byContradiction fun hne=>by
  rw [ve4 ha hne] at h0
  exact hne h0
 have Pk:=uw9 (H:=2) o2 (by rw [o4,h.sz,o3];exact h.fine) hp (by rw [o4];exact h.hits) (by rw [o4,h.nb,o3];omega)
 have hl:=Pk.log (by omega)
 have kt:=Pk.tell (by rw [o4,o5,o3];exact h.tell)
 rw [o5,o3] at kt
 refine ⟨hl.inv,hl.alive,?_,xe3 hp⟩
 rcases kt with ⟨e,_⟩| e
 ·exact absurd h0 e
 ·exact e
end Go.Den
