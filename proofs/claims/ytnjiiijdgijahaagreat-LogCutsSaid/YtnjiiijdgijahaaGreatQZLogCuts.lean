/- The row of the law LogCuts: for every input the law returns true, and its arguments read as they did. (Merged and shortened by program: LLogCuts ZLogCuts.) -/
import Derived.Test.YtnjiiijdgijahaaGreatQ7
import Derived.Test.YtnjiiijdgijahaaGreatRows
import Derived.WalkKit
set_option linter.unusedVariables false
set_option linter.unusedSimpArgs false
set_option maxRecDepth 20000
namespace Go.Den
theorem uf2 {w u:World} {R:Value→World→Prop} (hR:∀ v w',v= .bool true∧Ext w w'→R v w') (he:Ext w u) {p:Nat} {F X:Nat→Prop} {c:Chip} {now:List Fact} {N:Nat} (hc:CX F X u p c) (hF:∀ x,F x→w.heap.size≤x∧x<u.heap.size) (hX:∀ x,X x→x<u.heap.size) (hd:xp0 c now N) (hN:N≤1000000000000)
  {a6:Option Addr} {c6:Nat} {Gn:Nat→Prop} (hn:zb0 zg2 u Gn a6 now) (hGn:∀ x,Gn x→¬ F x∧x<u.heap.size) {G:Nat→Prop} {am:Option Addr} {cm:Nat} {more:List zb2} (hm:zb0 zc4 w G am more) (hG:∀ b,G b→b<w.heap.size) (hf:va4 more) (hs:yw0 more) :
  za0 prog K.zz0 #[.pointer (some ⟨p,0,none⟩),.int .u32 3] u fun v15 w19=>∃ (p6:Option Addr) (x7:Int),v15= .tuple #[.pointer p6,.int .i64 x7]∧br (x7 != 0) (R (.bool false) w19) (za0 prog K.zm2 #[.pointer p6] w19 fun v16 w20=>∃ (a9:Option Addr) (l9 c9:Nat),v16= .slice a9 l9 c9∧za0 prog K.zb1 #[.slice a9 l9 c9,.slice a6 now.length c6] w20 fun v17 w21=>∃ b9:Bool,v17= .bool b9∧br (!b9) (R (.bool false) w21) (za0 prog K.ze6 #[.slice am more.length cm] w21 fun v18 w22=>∃ (a10:Option Addr) (l10 c10:Nat),v18= .slice a10 l10 c10∧za0 prog K.zp4 #[.pointer p6,.slice a10 l10 c10] w22 fun v19 w23=>∃ x8:Int,v19= .int .i64 x8∧br (x8 != 0) (za0 prog K.zb9 #[] w23 fun v20 w24=>∃ b10:Bool,v20= .bool b10∧R (.bool b10) w24) (za0 prog K.zd2 #[.pointer (some ⟨p,0,none⟩),.int .u32 3] w23 fun v21 w25=>∃ (a11:Option Addr) (l11 c11:Nat),v21= .slice a11 l11 c11∧za0 prog K.zd3 #[.slice a6 now.length c6,.slice a10 l10 c10] w25 fun v22 w26=>∃ (a12:Option Addr) (l12 c12:Nat),v22= .slice a12 l12 c12∧za0 prog K.zb1 #[.slice a11 l11 c11,.slice a12 l12 c12] w26 fun v23 w27=>∃ b11:Bool,v23= .bool b11∧br b11 (za0 prog K.zb9 #[] w27 fun v24 w28=>∃ b12:Bool,v24= .bool b12∧R (.bool b12) w28) (R (.bool false) w27)))):=by
 have fin:∀ {u:World},Ext w u→za0 prog K.zb9 #[] u fun v w'=>∃ b:Bool,v= .bool b∧R (.bool b) w':=fun he=>(yc4 _).mono fun v w' ⟨hv,he'⟩=>⟨true,hv,hR _ _ ⟨rfl,he.trans he'⟩⟩
 obtain ⟨o1,o2,o3,o4,o5,o6,o7,o8⟩:=hd.opened
 have hgl:=o8.len
 have hs0:=he.size
 have hlen:=hf.len
 refine (yj8 hc (fun x hx=>(hF x hx).2) hX (by rw [hd.nb];decide) (era:=3) (by decide)).mono ?_
 rintro _ w1 ⟨he1,_,hv⟩
 obtain ⟨M,q,rfl,rfl,hq1,hq2,X',_,hX',h1⟩:=hv o1
 have hs1:=he1.size
 have h11:=h1.lt
 refine ⟨_,_,rfl,zg8 (fun hx=>absurd rfl hx) fun _=>?_⟩
 refine (yn4 h1 (by rw [o3];omega) (by rw [o3];exact o8.vals' (by omega))).mono ?_
 rw [o3,yr5 hd.fine.ord]
 rintro _ w2 ⟨a2,c2,rfl,hl2,he2⟩
 obtain ⟨G2,hG2,_⟩:=hl2.slice
 have e02:=he1.trans he2
 refine ⟨_,_,_,rfl,(ze3 hG2 (hn.ext e02) (by omega) (o8.vals' (by omega))).mono ?_⟩
 rintro _ w3 ⟨rfl,he3⟩
 rw [decide_eq_true (rfl:now=now)]
 refine ⟨_,rfl,?_⟩
 simp only [Bool.not_true,br_false]
 have e03:=e02.trans he3
 have e13:=he2.trans he3
 have hs3:=e13.size
 refine (yc5 (hm.ext (he.trans e03)) (fun b hb=>by have:=hG b hb;omega) hf).mono ?_
 rintro _ w4 ⟨a4,c4,rfl,hl4,he4⟩
 have hs4:=he4.size
 obtain ⟨G4,hG4,hG4'⟩:=hl4.slice
 have hFF:∀ x,(F x∨(u.heap.size≤x∧x<q))→w.heap.size≤x∧x<w1.heap.size:=fun x hx=>by
  rcases hx with hx | hx
  ·have:=hF x hx;omega
  ·omega
 have hX1:∀ x,X' x→x<w1.heap.size:=fun x hx=>by
  rcases hX' x hx with hx | hx
  ·have:=hX x hx;omega
  ·omega
 have ml:(more.map zf6).length=more.length:=by simp
 refine ⟨_,_,_,rfl,(yt7 (h1.ext (e13.trans he4)) (fun x hx=>by have:=(hFF x hx).2;omega) (fun x hx=>by have:=hX1 x hx;omega) o7 (by rw [o3];exact o8) (by decide) hG4 (xm2 hs) (by omega)).mono ?_⟩
 rintro _ w5 ⟨rfl,hu5,X5,_,hX5,h5⟩
 have hs5:=hu5.size
 have hF5:∀ x,LogF (fun x=>F x∨(u.heap.size≤x∧x<q)) q x→w.heap.size≤x∧x<w1.heap.size∧¬ Gn x:=fun x hx=>by
  rcases hx with hx | rfl
  ·have:=hFF x hx
   refine ⟨this.1,this.2,fun hg=>?_⟩
   rcases hx with hx | hx
   ·exact (hGn x hg).1 hx
   ·have:=(hGn x hg).2;omega
  ·exact ⟨by omega,by omega,fun hg=>by have:=(hGn _ hg).2;omega⟩
 have e5:Ext w w5:=((he.trans e03).trans he4).beyond hu5 fun x hx=>(hF5 x hx).1
 refine ⟨_,rfl,zg8 (fun _=>fin e5) fun h0=>?_⟩
 obtain ⟨p1,p2,p3,p4⟩:=qe6 hd hN (cs:=more.map zf6) (by omega)
 have hcl:=p4.len
 generalize ((zu6 c 3).1.put (more.map zf6)).1=t at *
 refine (zt6 h5.pool.chip.cin p2 3).mono ?_
 rw [qi3 p1 p2,p3]
 rintro _ w6 ⟨a6',c6',rfl,hl6,he6⟩
 have hs6:=he6.size
 obtain ⟨G6,hG6,_⟩:=hl6.slice
 have hn5:zb0 zg2 w5 Gn a6 now:=(hn.ext (e03.trans he4)).upd hu5 fun b hb hx=>(hF5 b hx).2.2 hb
 have hc5:zb0 zc4 w5 G4 a4 (more.map zf6):=hG4.upd hu5 fun b hb hx=>by
  have h7:=(hG4' b hb).1.resolve_right (fun h=>h)
  have:=(hF5 b hx).2.1
  omega
 refine ⟨_,_,_,rfl,(zt7 (hn5.ext he6) (fun b hb=>by have:=(hGn b hb).2;omega) (hc5.ext he6) (by omega) o8.names p4.small).mono ?_⟩
 rintro _ w7 ⟨a7,c7,rfl,hl7,he7⟩
 obtain ⟨G7,hG7,_⟩:=hl7.slice
 have hga:=o8.apply p4
 have hgal:=hga.len
 refine ⟨_,_,_,rfl,(ze3 (hG6.ext he7) hG7 (by omega) (hga.vals' (by omega))).mono ?_⟩
 rintro _ w8 ⟨rfl,he8⟩
 rw [decide_eq_true rfl]
 refine ⟨_,rfl,?_⟩
 rw [br_true]
 exact fin (((e5.trans he6).trans he7).trans he8)
theorem yv8 {w:World} (sp:UInt8) {a:Option Addr} {c:Nat} {l:List ActS} (hl:zb0 actR w (fun b=>b<w.heap.size) a l) (hg:qg3 l) {ac:Option Addr} {cc:Nat} {chg:List zb2} (hch:zb0 zc4 w (fun b=>b<w.heap.size) ac chg) (hfc:va4 chg) (hsc:yw0 chg) (after:UInt8)
  {am:Option Addr} {cm:Nat} {mask:List UInt8} (hmk:za4 w am mask) (hml:mask.length≤140737488355232) {ao:Option Addr} {co:Nat} {more:List zb2} (hmo:zb0 zc4 w (fun b=>b<w.heap.size) ao more) (hfm:va4 more) (hsm:yw0 more) :
  za0 prog K.zj6 #[bv sp,.slice a l.length c,.slice ac chg.length cc,bv after,.slice am mask.length cm,.slice ao more.length co] w fun v w'=>v= .bool true∧Ext w w':=by
 apply zj6.sh
 suffices H:∀ R:Value→World→Prop,(∀ v w',v= .bool true∧Ext w w'→R v w')→zj6.body sp.toNat a l.length c ac chg.length cc after.toNat am mask.length cm ao more.length co w R from H _ fun _ _ h=>h
 intro R hR
 unfold zj6.body
 refine (yc6 sp w).mono ?_
 rintro _ w1 ⟨he1,B,p,q,F,X,M,rfl,h1⟩
 have hsp:sp.toNat % 2≤1:=by omega
 have acts0:=vs8 hsp h1 he1 true
 refine ⟨_,_,rfl,?_⟩
 simp only [Bool.not_true,br_false,nilC_some',add_lit,Nat.zero_add]
 refine ⟨fun u=>∃ i:Nat,i≤60∧Acts w.heap.size w B true i u,⟨fun x u=>∃ i:Nat,x=i∧i≤l.length∧i≤60∧Acts w.heap.size w B true i u,fun x _=>((60:Int) - x).toNat,⟨0,rfl,by omega,by omega,acts0⟩,?_⟩,?_⟩
 ·rintro x w2 ⟨i,rfl,hi,hi60,ha⟩
  have he2:=ha.ext
  have hs2:=he2.size
  refine qb7 (fun hlt hlt2=>?_) ⟨i,hi60,ha⟩
  have hi':i<l.length:=by omega
  refine zb0.idx (r:=actR) (hl.ext he2) rfl hi' fun b1 o1 vs1 _ hrow1 hR1 _=>?_
  obtain ⟨ax,cx,rfl,hcx⟩:=vl1 hR1
  refine ⟨_,ax,_,cx,_,hrow1.cells,(vl0 (by omega) ha (hg _ (List.getElem_mem hi')) hcx (fun y hy=>by have hy':y<w.heap.size:=hy;omega)).mono ?_⟩
  rintro _ w6 ⟨rfl,ha6⟩
  have ew:IntKind.i64.wrap ((i:Int)+1)=((i+1:Nat):Int):=w64 (by omega) (by omega)
  rw [ew]
  refine ⟨_,rfl,?_⟩
  simp only [Bool.not_true,br_false]
  exact ⟨⟨i+1,rfl,hi',by omega,ha6⟩,by omega⟩
 rintro w4 ⟨i,hi60,ha⟩
 have he4:=ha.ext
 have hs4:=he4.size
 obtain ⟨fs,s,hm,hp,_,hq⟩:=ha
 have hq:=hq rfl
 obtain ⟨F2,X2,Y,M2,q2,af,cf,⟨g4,_,h4,hF4,hX4,hq21,hq22,hAB⟩,hy4,hY⟩:=hm
 generalize hN:1000+100000000 * i=N at *
 have hNb:N≤6100000000:=by omega
 have hBlt:B<w4.heap.size:=(Array.getElem?_eq_some_iff.1 g4).1
 have hqlt:=h4.lt
 have hgl:=hp.gfs.len
 have hlen:=hfc.len
 refine (yc5 (hch.ext he4) (fun b hb=>by have hb':b<w.heap.size:=hb;omega) hfc).mono ?_
 rintro _ w5 ⟨a5,c5,rfl,hl5,he5⟩
 have hs5:=he5.size
 obtain ⟨G5,hG5,hG5'⟩:=hl5.slice
 have hG5b:∀ b,G5 b→w4.heap.size≤b∧b<w5.heap.size:=fun b hb=>⟨(hG5' b hb).1.resolve_right (fun h=>h),(hG5' b hb).2⟩
 refine ⟨_,_,_,rfl,_,za2 (Ext.get he5 g4) rfl,by decide,fun B6 w6 hn6=>?_⟩
 have e5:=he4.trans he5
 refine (uy5 (h4.ext he5) (fun x hx=>by have:=hF4 x hx;omega) (za6.ext hmk e5) hml (fun hne p hp hx=>?_) hn6).mono ?_
 ·obtain ⟨b,o,e,hb⟩:=za6.blk hmk (by simpa using hne)
  rw [hp] at e
  cases e
  have h8:w.heap.size≤b:=(hF4 _ hx).1
  omega
 rintro _ w7 ⟨n7,rfl,hu7,hs67,h7⟩
 have hs7:=hu7.size
 rw [ql8] at h7
 obtain ⟨fit7,good7,now,hch7,hout⟩:=qj7 hp hq (by omega) (by omega) (hit:=⟨((after.toNat % 30:Nat):Int),false,mask⟩) rfl (chg.map zf6)
 generalize ({ s with chip:=(s.chip.setHits [⟨((after.toNat % 30:Nat):Int),false,mask⟩]).1 }:LogS)=t at *
 have g7:=hu7.get (Ext.get he5 g4) fun hx=>(hF4 B hx).2.2 rfl
 have hsm5:yw0 (chg.map zf6):=xm2 hsc
 have ml:(chg.map zf6).length=chg.length:=by simp
 refine ⟨_,rfl,_,za2 g7 rfl,(yt7 h7 (fun x hx=>by have:=hF4 x hx;omega) (fun x hx=>?_) fit7 good7 (by omega) (hG5.upd hu7 fun b hb hx=>by have:=hG5b b hb;have:=hF4 b hx;omega) hsm5 (by omega)).mono ?_⟩
 ·rcases hx with hx | hx
  ·have:=hX4 x hx;omega
  ·exact hx.2
 rintro _ w8 ⟨rfl,hu8,X8,_,hX8,h8⟩
 have hs8:=hu8.size
 have hF8:∀ x,LogF F2 q2 x→w.heap.size≤x∧x<w4.heap.size∧x≠B∧¬ Y x:=fun x hx=>by
  rcases hx with hx | rfl
  ·have:=hF4 x hx
   exact ⟨this.1,this.2.1,this.2.2,fun hy=>(hY x hy).2.2.1 hx⟩
  ·exact ⟨hq21,hqlt,hq22,fun hy=>(hY _ hy).2.2.2.1 rfl⟩
 have g8:=hu8.get g7 fun hx=>(hF8 B hx).2.2.1 rfl
 have e8:Ext w w8:=(e5.beyond hu7 fun x hx=>(hF4 x hx).1).beyond hu8 fun x hx=>(hF8 x hx).1
 have hy8:=((hy4.ext he5).upd hu7 fun b hb hx=>(hY b hb).2.2.1 hx).upd hu8 fun b hb hx=>(hF8 b hx).2.2.2 hb
 have hc8:=(hG5.upd hu7 fun b hb hx=>by have:=hG5b b hb;have:=hF4 b hx;omega).upd hu8 fun b hb hx=>by have:=hG5b b hb;have:=hF8 b hx;omega
 refine ⟨_,rfl,_,za2 g8 rfl,(vw4 h8.pool.chip).mono ?_⟩
 rintro _ w9 ⟨he9,p9,rfl,hc9⟩
 have hs9:=he9.size
 have g9:=Ext.get he9 g8
 have hy9:=hy8.ext he9
 have e9:=e8.trans he9
 have hF9:∀ x,Fr w8 w9 x→w8.heap.size≤x∧x<w9.heap.size:=fun x hx=>hx
 generalize (t.put (chg.map zf6)).2=E at *
 refine ⟨_,_,rfl,zg8 (fun hx=>absurd rfl hx) fun _=>⟨_,_,_,za2 g9 rfl,(yo8 (hc8.ext he9) hsm5).mono ?_⟩⟩
 rintro _ w10 ⟨rfl,he10⟩
 have g10:=Ext.get he10 g9
 have e10:=e9.trans he10
 have hnow:=hch7.opened.2.2.2.2.2.2.2
 have hnl:=hnow.len
 refine ⟨_,rfl,zc0 (fun hmay=>?_) fun hmay=>?_⟩
 ·have hgc:=uz2 hmay
  have hcl:=hgc.len
  refine ⟨_,_,_,za2 g10 rfl,(zt7 (hy9.ext he10) (fun b hb=>by have:=hY b hb;have:=he10.size;omega) ((hc8.ext he9).ext he10) (by omega) hp.gfs.names hgc.small).mono ?_⟩
  rintro _ w11 ⟨a11,c11,rfl,hl11,he11⟩
  obtain ⟨G11,hG11,hG11'⟩:=hl11.slice
  refine ⟨_,_,_,rfl,(zt6 (hc9.ext (he10.trans he11)).cin hch7.alive 3).mono ?_⟩
  rw [vt6 hch7]
  rintro _ w12 ⟨a12,c12,rfl,hl12,he12⟩
  obtain ⟨G12,hG12,hG12'⟩:=hl12.slice
  have e1012:=he11.trans he12
  have e912:=he10.trans e1012
  have hs12:=e912.size
  have hs11:=(he10.trans he11).size
  have rest:=fun (u:World) (hu:Ext w12 u)=>uf2 hR ((e9.trans e912).trans hu) (hc9.ext (e912.trans hu)) (fun x hx=>by have:=hF9 x hx;have:=hu.size;have:=e8.size;omega) (fun x hx=>by have:=hF9 x hx;have:=hu.size;omega) hch7 (by omega) (c6:=c12) (hG12.ext hu) (fun x hx=>by
   have h1:=hG12' x hx
   have h2:=h1.1.resolve_right (fun h=>h)
   have:=hu.size
   exact ⟨fun hf=>by have:=hF9 x hf;omega,by omega⟩) (cm:=co) hmo (fun b hb=>hb) hfm hsm
  refine ⟨_,_,_,rfl,fun u=>Ext w12 u,?_,fun w18 he18=>rest w18 he18⟩
  have g12:=Ext.get e912 g9
  refine zi1 (fun hE0=>?_) fun hE=>?_
  ·have hnow':now=ze0 fs (chg.map zf6):=by
    rcases hout with ⟨_,_,h⟩| ⟨h,_⟩| ⟨h,_⟩
    ·exact h
    ·omega
    ·omega
   refine (ze3 hG12 (hG11.ext he12) (by omega) (hnow.vals' (by omega))).mono ?_
   rintro _ w13 ⟨rfl,he13⟩
   rw [decide_eq_true hnow']
   refine ⟨_,rfl,?_⟩
   simp only [Bool.not_true,br_false]
   exact zg8 (fun hne=>absurd hE0 hne) fun _=>he13
  ·refine zg8 (fun _=>⟨_,_,_,za2 g12 rfl,(ze3 hG12 (hy9.ext e912) (by omega) (hnow.vals' (by omega))).mono ?_⟩) fun h=>absurd h hE
   rintro _ w16 ⟨rfl,he16⟩
   refine ⟨_,rfl,?_⟩
   by_cases hnf:now=fs
   ·rw [decide_eq_true hnf]
    simp only [Bool.not_true,br_false]
    exact he16
   ·rw [decide_eq_false hnf]
    simp only [Bool.not_false,br_true]
    have h3:E=10∧now=ze0 fs (chg.map zf6):=by
     rcases hout with ⟨h,_⟩| ⟨_,h⟩| ⟨h,_,h'⟩
     ·omega
     ·exact absurd h hnf
     ·exact ⟨h,h'⟩
    refine zi1 (fun _=>(ze3 (hG12.ext he16) ((hG11.ext he12).ext he16) (by omega) (hnow.vals' (by omega))).mono ?_) fun hx=>absurd (by omega) hx
    rintro _ w17 ⟨rfl,he17⟩
    rw [decide_eq_true h3.2]
    refine ⟨_,rfl,?_⟩
    simp only [Bool.not_true,br_false]
    exact he16.trans he17
 ·have h2:E≠0∧now=fs:=by
   rcases hout with ⟨_,h,_⟩| h | ⟨_,h,_⟩
   ·rw [h] at hmay;cases hmay
   ·exact h
   ·rw [h] at hmay;cases hmay
  refine (zt6 (hc9.ext he10).cin hch7.alive 3).mono ?_
  rw [vt6 hch7]
  rintro _ w12 ⟨a12,c12,rfl,hl12,he12⟩
  obtain ⟨G12,hG12,hG12'⟩:=hl12.slice
  have e912:=he10.trans he12
  have hs12:=e912.size
  have hs10:=he10.size
  have rest:=fun (u:World) (hu:Ext w12 u)=>uf2 hR ((e9.trans e912).trans hu) (hc9.ext (e912.trans hu)) (fun x hx=>by have:=hF9 x hx;have:=hu.size;have:=e8.size;omega) (fun x hx=>by have:=hF9 x hx;have:=hu.size;omega) hch7 (by omega) (c6:=c12) (hG12.ext hu) (fun x hx=>by
   have h1:=hG12' x hx
   have h2:=h1.1.resolve_right (fun h=>h)
   have:=hu.size
   exact ⟨fun hf=>by have:=hF9 x hf;omega,by omega⟩) (cm:=co) hmo (fun b hb=>hb) hfm hsm
  refine ⟨_,_,_,rfl,fun u=>Ext w12 u,?_,fun w18 he18=>rest w18 he18⟩
  have g12:=Ext.get e912 g9
  refine zi1 (fun hE0=>absurd (show E=0 by omega) h2.1) fun hE=>?_
  refine zg8 (fun _=>⟨_,_,_,za2 g12 rfl,(ze3 hG12 (hy9.ext e912) (by omega) (hnow.vals' (by omega))).mono ?_⟩) fun h=>absurd h hE
  rintro _ w16 ⟨rfl,he16⟩
  rw [decide_eq_true h2.2]
  refine ⟨_,rfl,?_⟩
  simp only [Bool.not_true,br_false]
  exact he16
end Go.Den
section
namespace Go.Proofs.YtnjiiijdgijahaaGreat.logCuts
open Go.ChangeShapes Go.WideShapes Go.ChangeAt Go.RowKit Go.Den
theorem own:ownKnob Tryz.prog.godebug=none:=by kernel_rfl
theorem laidOut:laidOutB Tryz.prog=true:=by kernel_rfl
theorem rowed:∀ t∈Tryz.f5.params.toList,Tryz.prog.readableRec t=true∧t<Tryz.prog.types.size:=by
 rw [Tryz.params5]
 intro t ht
 simp at ht
 rcases ht with rfl | rfl | rfl | rfl | rfl | rfl<;>exact ⟨by kernel_rfl,of_decide_eq_true (by kernel_rfl)⟩
set_option maxRecDepth 100000 in
theorem lifted (os:Os) (started:os.Started) (H:Type) (enc:TypeId×Value→H) :
  ReturnsInHanded {} Tryz.checked os 5 .any (Rows.logCutsSpec.pre6 enc Tryz.prog Tryz.f5 Rows.logCutsRow.domain false) (Rows.logCutsSpec.post enc Tryz.prog Tryz.f5 false true false false):=by
 refine returnsInHanded_of_change_sized (C:=Tryz.checked) own started (by kernel_rfl) Tryz.func5
  (ChangeSpec.witness6 (enc:=enc) (C:=Tryz.checked) false ⟨#[],#[.int .u8 0,.slice none 0 0,.slice none 0 0,.int .u8 0,.slice none 0 0,.slice none 0 0],[]⟩ 8 (by kernel_rfl) (by kernel_rfl) (by kernel_rfl) (by kernel_rfl)) ?_
 intro W base args ds gs zl9 hval0 hW hcnd hsz _
 have hval:∀ (j:Nat) t v,Tryz.f5.params[j]?=some t→args[j]?=some v→Value.okWide Tryz.prog W .any base t v:=hval0
 have hW':=hW
 obtain ⟨p,q,hA0,hV,hpq,hfz,hnd⟩:=hW
 have hA:DataW.TrodAll enc Tryz.prog W 0 (fun _=>true) true Tryz.f5.params.toList args.toList ds p:=hA0
 rw [Tryz.params5] at hA hval hsz
 obtain ⟨v0,vs0,d0,ds0,p0,q0,hargs,rfl,hp0,h0,r0⟩:=trodAll_cons hA
 obtain ⟨v1,vs1,d1,ds1,p1,q1,rfl,rfl,hp1,h1,r1⟩:=trodAll_cons r0
 obtain ⟨v2,vs2,d2,ds2,p2,q2,rfl,rfl,hp2,h2,r2⟩:=trodAll_cons r1
 obtain ⟨v3,vs3,d3,ds3,p3,q3,rfl,rfl,hp3,h3,r3⟩:=trodAll_cons r2
 obtain ⟨v4,vs4,d4,ds4,p4,q4,rfl,rfl,hp4,h4,r4⟩:=trodAll_cons r3
 obtain ⟨v5,vs5,d5,ds5,p5,q5,rfl,rfl,hp5,h5,r5⟩:=trodAll_cons r4
 obtain ⟨rfl,rfl,_⟩:=trodAll_nil r5
 obtain rfl:args=#[v0,v1,v2,v3,v4,v5]:=by cases args;simp_all
 obtain ⟨rfl,_⟩:=trodVars_none hV
 obtain ⟨a0,rfl,_,_,w0⟩:=open_int Tryz.underlying5 (hval 0 5 v0 rfl rfl) h0
 have hb0:=vk0 w0
 obtain ⟨sa1,sl1,sc1,rfl⟩:=okWide_slice Tryz.underlying58 (hval 1 58 v1 rfl rfl)
 obtain ⟨fuel1,hf1⟩:=h1
 obtain ⟨aa1,al1,ac1,hcs1,hsl1,hsg1⟩:=xn0 hf1 (yk1 hsz (j:=1) rfl rfl)
 simp [Value.cells] at hcs1
 obtain ⟨rfl,rfl,rfl⟩:=hcs1
 obtain ⟨sa2,sl2,sc2,rfl⟩:=okWide_slice Tryz.underlying22 (hval 2 22 v2 rfl rfl)
 obtain ⟨fuel2,hf2⟩:=h2
 obtain ⟨ca2,cl2,cc2,hcs2,hsl2,hfc2,hsm2⟩:=xk5 hf2 (yk1 hsz (j:=2) rfl rfl)
 simp [Value.cells] at hcs2
 obtain ⟨rfl,rfl,rfl⟩:=hcs2
 obtain ⟨a3,rfl,_,_,w3⟩:=open_int Tryz.underlying5 (hval 3 5 v3 rfl rfl) h3
 have hb3:=vk0 w3
 obtain ⟨sa4,sl4,sc4,rfl⟩:=okWide_slice Tryz.underlying23 (hval 4 23 v4 rfl rfl)
 obtain ⟨fuel4,hf4⟩:=h4
 obtain ⟨ba4,bl4,bc4,hcs4,hlc4,hby4,hbn4,hbr4⟩:=yg9 Tryz.underlying23 Tryz.underlying5 (by kernel_rfl) hf4 (yk1 hsz (j:=4) rfl rfl)
 simp [Value.cells] at hcs4
 obtain ⟨rfl,rfl,rfl⟩:=hcs4
 obtain ⟨sa5,sl5,sc5,rfl⟩:=okWide_slice Tryz.underlying22 (hval 5 22 v5 rfl rfl)
 obtain ⟨fuel5,hf5⟩:=h5
 obtain ⟨ca5,cl5,cc5,hcs5,hsl5,hfc5,hsm5⟩:=xk5 hf5 (yk1 hsz (j:=5) rfl rfl)
 simp [Value.cells] at hcs5
 obtain ⟨rfl,rfl,rfl⟩:=hcs5
 rw [hb0,hb3] at hW' ⊢
 refine Calls.mono (yv8 (UInt8.ofNat a0.toNat) hsl1 hsg1 hsl2 hfc2 hsm2 (UInt8.ofNat a3.toNat) hby4 (Nat.le_trans hbr4 (by decide)) hsl5 hfc5 hsm5) fun e W' he=>?_
 obtain ⟨v,he,rfl,hx⟩:=he
 exact ⟨_,he,ve7 laidOut hW' rfl rowed (Ext.below hx) Tryz.underlying4 (by kernel_rfl) rfl⟩
theorem proved:Rows.LogCutsSaid :=
 OpenClaim.holds_of_wide 5 Tryz.f5 rfl rfl rfl rfl rfl rfl rfl ⟨rfl,rfl,rfl,rfl,rfl⟩ rfl rfl rfl rfl rfl (by kernel_rfl) Tryz.func5 (by kernel_rfl)
  (of_decide_eq_true (by kernel_rfl)) (by unfold Func.isWrapper;first | (rw [if_pos (by decide +kernel)];kernel_rfl) | (rw [if_neg (by decide +kernel)];exact ⟨rfl,rfl⟩))
  (fun os started H enc _=>lifted os started H enc)
end Go.Proofs.YtnjiiijdgijahaaGreat.logCuts
end
