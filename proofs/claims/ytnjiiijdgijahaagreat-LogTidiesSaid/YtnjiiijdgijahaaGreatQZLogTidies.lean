/- The row of the law LogTidies: for every input the law returns true, and its arguments read as they did. (Merged and shortened by program: LLogTidies ZLogTidies.) -/
import Derived.Test.YtnjiiijdgijahaaGreatQ7
import Derived.Test.YtnjiiijdgijahaaGreatRows
import Derived.WalkKit
set_option linter.unusedVariables false
set_option linter.unusedSimpArgs false
set_option maxRecDepth 20000
namespace Go.Den
theorem ys7 {w:World} (sp:UInt8) {a:Option Addr} {c:Nat} {l:List ActS} (hl:zb0 actR w (fun b=>b<w.heap.size) a l) (hg:qg3 l) {ab:Option Addr} {cb:Nat} {cuts:List UInt8} (hcu:za4 w ab cuts) {am:Option Addr} {cm:Nat} {mask:List UInt8} (hmk:za4 w am mask)
  (hml:mask.length≤140737488355232) :
  za0 prog K.zh8 #[bv sp,.slice a l.length c,.slice ab cuts.length cb,.slice am mask.length cm] w fun v w'=>v= .bool true∧Ext w w':=by
 apply zh8.sh
 suffices H:∀ R:Value→World→Prop,(∀ v w',v= .bool true∧Ext w w'→R v w')→zh8.body sp.toNat a l.length c ab cuts.length cb am mask.length cm w R from H _ fun _ _ h=>h
 intro R hR
 unfold zh8.body
 have fin:∀ {u:World},Ext w u→za0 prog K.zb9 #[] u fun v w'=>∃ b:Bool,v= .bool b∧R (.bool b) w':=fun he=>(yc4 _).mono fun v w' ⟨hv,he'⟩=>⟨true,hv,hR _ _ ⟨rfl,he.trans he'⟩⟩
 refine (yc6 sp w).mono ?_
 rintro _ w1 ⟨he1,B,p,q,F,X,M,rfl,h1⟩
 have hsp:sp.toNat % 2≤1:=by omega
 have acts0:=vs8 hsp h1 he1 true
 refine ⟨_,_,rfl,?_⟩
 simp only [Bool.not_true,br_false,nilC_some',add_lit,Nat.zero_add]
 refine ⟨fun x u=>∃ i:Nat,x=i∧i≤l.length∧i≤60∧Acts w.heap.size w B true i u,fun x _=>((60:Int) - x).toNat,⟨0,rfl,by omega,by omega,acts0⟩,?_⟩
 rintro x w2 ⟨i,rfl,hi,hi60,ha⟩
 have he2:=ha.ext
 have hs2:=he2.size
 refine qb7 (fun hlt hlt2=>?_) ?_
 ·have hi':i<l.length:=by omega
  refine zb0.idx (r:=actR) (hl.ext he2) rfl hi' fun b1 o1 vs1 _ hrow1 hR1 _=>?_
  obtain ⟨ax,cx,rfl,hcx⟩:=vl1 hR1
  refine ⟨_,ax,_,cx,_,hrow1.cells,(vl0 (by omega) ha (hg _ (List.getElem_mem hi')) hcx (fun y hy=>by have hy':y<w.heap.size:=hy;omega)).mono ?_⟩
  rintro _ w6 ⟨rfl,ha6⟩
  have ew:IntKind.i64.wrap ((i:Int)+1)=((i+1:Nat):Int):=w64 (by omega) (by omega)
  rw [ew]
  refine ⟨_,rfl,?_⟩
  simp only [Bool.not_true,br_false]
  exact ⟨⟨i+1,rfl,hi',by omega,ha6⟩,by omega⟩
 obtain ⟨fs,s,hm,hp,_,hq⟩:=ha
 have hbad:zr6 s.chip<2:=by rw [(hq rfl).2];decide
 have hch:=hp.chipP hbad
 obtain ⟨F2,X2,Y,M2,q2,af,cf,⟨g2,_,h2,hF2,hX2,hq21,hq22,hAB⟩,hy2,hY⟩:=hm
 generalize hN:1000+100000000 * i=N at *
 have hNb:N≤6100000000:=by omega
 have hBlt:B<w2.heap.size:=(Array.getElem?_eq_some_iff.1 g2).1
 refine ⟨_,za2 g2 rfl,fun cp x u=>∃ k:Nat,x=k∧k≤4∧k≤cuts.length∧Ext w u∧w2.heap.size≤u.heap.size∧u.heap[B]?=some (.cells #[.pointer (some ⟨M2.p,0,none⟩),.pointer (some ⟨q2,0,none⟩),.slice af fs.length cf] T.yf6 (0,0))∧zb0 zg2 u Y af fs∧
   ∃ pc Fc Xc d,cp=some ⟨pc,0,none⟩∧CX Fc Xc u pc d∧(∀ x,Fc x→w.heap.size≤x∧x<u.heap.size∧x≠B∧¬ Y x)∧(∀ x,Xc x→x<u.heap.size)∧xp0 d fs (N+11000000 * k),fun _ x _=>((4:Int) - x).toNat,⟨0,rfl,by omega,by omega,he2,Nat.le_refl _,g2,hy2,M2.p,F2,X2,s.chip,rfl,h2.pool.chip,fun x hx=>?_,fun x hx=>(hX2 x hx).2.1,hch⟩,?_⟩
 ·have:=hF2 x hx
  exact ⟨this.1,this.2.1,this.2.2,fun hy=>(hY x hy).2.2.1 hx⟩
 rintro cp x u ⟨k,rfl,hk4,hkc,heu,hsu,gu,hyu,pc,Fc,Xc,d,rfl,hcu0,hFc,hXc,hd⟩
 have hs0:=heu.size
 refine qb7 (fun hlt hlt2=>?_) (fin heu)
 have hk':k<cuts.length:=by omega
 obtain ⟨o1,o2,o3,o4,o5,o6,o7,o8⟩:=hd.opened
 refine (yj8 hcu0 (fun x hx=>(hFc x hx).2.1) hXc (by rw [hd.nb];decide) (era:=3) (by decide)).mono ?_
 rintro _ w5 ⟨he5,_,hv⟩
 obtain ⟨M',q',rfl,rfl,hq1,hq2',X',_,hX',h5⟩:=hv o1
 have hs5:=he5.size
 refine ⟨_,_,rfl,zg8 (fun hx=>absurd rfl hx) fun _=>?_⟩
 refine yn5 (za6.ext hcu (heu.trans he5)) (by omega) (by omega) ⟨by decide,fun B6 w6 hn6=>?_⟩
 have hF5:∀ x,(Fc x∨(u.heap.size≤x∧x<q'))→w.heap.size≤x∧x<w5.heap.size∧x≠B∧¬ Y x:=fun x hx=>by
  rcases hx with hx | hx
  ·have:=hFc x hx
   exact ⟨this.1,by omega,this.2.2⟩
  ·exact ⟨by omega,by omega,by omega,fun hy=>by have:=(hY x hy).2.1;omega⟩
 have hY5:¬ Y q':=fun hy=>by have:=(hY q' hy).2.1;omega
 have e5:=heu.trans he5
 have hs6:=hn6.size
 refine (uy5 h5 (fun x hx=>(hF5 x hx).2.1) (za6.ext hmk e5) hml (fun hne p hp hx=>?_) hn6).mono ?_
 ·obtain ⟨b,o,e,hb⟩:=za6.blk hmk (by simpa using hne)
  rw [hp] at e
  cases e
  have:=(hF5 _ hx).1
  have h9:b<w.heap.size:=hb
  have h8:w.heap.size≤b:=this
  omega
 rintro _ w7 ⟨n7,rfl,hu7,hs67,h7⟩
 have hs7:=hu7.size
 obtain ⟨hT1,hT2⟩:=qb5 hd (N:=N+11000000 * k) (by omega) (hs:=[⟨IntKind.i64.wrap (Int.tmod ((cuts.getD (k:Int).toNat 0).toNat:Int) 30),false,mask⟩]) (by simp) 16
 have hfit:({ (zu6 d 3).1 with chip:=((zu6 d 3).1.chip.setHits [⟨IntKind.i64.wrap (Int.tmod ((cuts.getD (k:Int).toNat 0).toNat:Int) 30),false,mask⟩]).1 }:LogS).Fit:=hT1
 have hfac:({ (zu6 d 3).1 with chip:=((zu6 d 3).1.chip.setHits [⟨IntKind.i64.wrap (Int.tmod ((cuts.getD (k:Int).toNat 0).toNat:Int) 30),false,mask⟩]).1 }:LogS).facts=fs:=o3
 generalize ({ (zu6 d 3).1 with chip:=((zu6 d 3).1.chip.setHits [⟨IntKind.i64.wrap (Int.tmod ((cuts.getD (k:Int).toNat 0).toNat:Int) 30),false,mask⟩]).1 }:LogS)=t at *
 refine ⟨_,rfl,(xr0 h7 (fun x hx=>by have:=(hF5 x hx).2.1;omega) (fun x hx=>?_) hfit (by rw [hfac];exact o8) (by decide) 16).mono ?_⟩
 ·rcases hx with hx | hx
  ·rcases hX' x hx with hx | hx
   ·have:=hXc x hx;omega
   ·omega
  ·exact hx.2
 rintro _ w8 ⟨rfl,hu8,h8⟩
 have hs8:=hu8.size
 have hF8:∀ x,LogF (fun x=>Fc x∨(u.heap.size≤x∧x<q')) q' x→w.heap.size≤x∧x≠B∧¬ Y x:=fun x hx=>by
  rcases hx with hx | rfl
  ·have:=hF5 x hx
   exact ⟨this.1,this.2.2⟩
  ·exact ⟨by omega,by omega,hY5⟩
 have e8:Ext w w8:=(e5.beyond hu7 fun x hx=>(hF5 x hx).1).beyond hu8 fun x hx=>(hF8 x hx).1
 have g8:=hu8.get (hu7.get (Ext.get he5 gu) fun hx=>(hF5 B hx).2.2.1 rfl) fun hx=>(hF8 B hx).2.1 rfl
 have hy8:=((hyu.ext he5).upd hu7 fun b hb hx=>(hF5 b hx).2.2.2 hb).upd hu8 fun b hb hx=>(hF8 b hx).2.2 hb
 refine ⟨_,rfl,(vw4 h8.pool.chip).mono ?_⟩
 rintro _ w9 ⟨he9,p9,rfl,hc9⟩
 have hs9:=he9.size
 refine ⟨_,_,rfl,fun w10 hd10=>⟨fun v=>Ext w10 v,Upd.refl _ _,?_⟩⟩
 have e10:=he9.trans hd10.upd
 have hs10:=hd10.upd.size
 have g10:=Ext.get e10 g8
 refine ⟨_,_,_,fun v hv=>za2 (Ext.get hv g10) rfl,(zt6 (hc9.ext hd10.upd).cin hT2.alive 3).mono ?_⟩
 rw [vt6 hT2]
 rintro _ w11 ⟨a11,c11,rfl,hl11,he11⟩
 obtain ⟨G11,hG11,_⟩:=hl11.slice
 have hgl:=o8.len
 refine ⟨_,_,_,rfl,he11,(ze3 hG11 (hy8.ext (e10.trans he11)) (by omega) (o8.vals' (m:=1000000000000) (by omega))).mono ?_⟩
 rintro _ w12 ⟨rfl,he12⟩
 rw [decide_eq_true (rfl:fs=fs)]
 refine ⟨_,rfl,?_⟩
 simp only [Bool.not_true,br_false]
 have e12:=(e10.trans he11).trans he12
 have hs12:=e12.size
 have ew:IntKind.i64.wrap ((k:Int)+1)=((k+1:Nat):Int):=w64 (by omega) (by omega)
 rw [ew]
 refine ⟨⟨k+1,rfl,by omega,by omega,e8.trans e12,by omega,Ext.get e12 g8,hy8.ext e12,p9,Fr w8 w9,Fr w8 w9,_,rfl,hc9.ext ((hd10.upd.trans he11).trans he12),fun x hx=>?_,fun x hx=>?_,hT2.mono (by omega)⟩,by omega⟩
 ·have h1:=hx.1
  have h2:=hx.2
  have h3:=e8.size
  exact ⟨by omega,by have:=((hd10.upd.trans he11).trans he12).size;omega,by omega,fun hy=>by have:=(hY x hy).2.1;omega⟩
 ·have h2:=hx.2
  have:=((hd10.upd.trans he11).trans he12).size
  omega
end Go.Den
section
namespace Go.Proofs.YtnjiiijdgijahaaGreat.logTidies
open Go.ChangeShapes Go.WideShapes Go.ChangeAt Go.RowKit Go.Den
theorem own:ownKnob Tryz.prog.godebug=none:=by kernel_rfl
theorem laidOut:laidOutB Tryz.prog=true:=by kernel_rfl
theorem rowed:∀ t∈Tryz.f6.params.toList,Tryz.prog.readableRec t=true∧t<Tryz.prog.types.size:=by
 rw [Tryz.params6]
 intro t ht
 simp at ht
 rcases ht with rfl | rfl | rfl | rfl<;>exact ⟨by kernel_rfl,of_decide_eq_true (by kernel_rfl)⟩
set_option maxRecDepth 100000 in
theorem lifted (os:Os) (started:os.Started) (H:Type) (enc:TypeId×Value→H) :
  ReturnsInHanded {} Tryz.checked os 6 .any (Rows.logTidiesSpec.pre6 enc Tryz.prog Tryz.f6 Rows.logTidiesRow.domain false) (Rows.logTidiesSpec.post enc Tryz.prog Tryz.f6 false true false false):=by
 refine returnsInHanded_of_change_sized (C:=Tryz.checked) own started (by kernel_rfl) Tryz.func6
  (ChangeSpec.witness6 (enc:=enc) (C:=Tryz.checked) false ⟨#[],#[.int .u8 0,.slice none 0 0,.slice none 0 0,.slice none 0 0],[]⟩ 8 (by kernel_rfl) (by kernel_rfl) (by kernel_rfl) (by kernel_rfl)) ?_
 intro W base args ds gs zl9 hval0 hW hcnd hsz _
 have hval:∀ (j:Nat) t v,Tryz.f6.params[j]?=some t→args[j]?=some v→Value.okWide Tryz.prog W .any base t v:=hval0
 have hW':=hW
 obtain ⟨p,q,hA0,hV,hpq,hfz,hnd⟩:=hW
 have hA:DataW.TrodAll enc Tryz.prog W 0 (fun _=>true) true Tryz.f6.params.toList args.toList ds p:=hA0
 rw [Tryz.params6] at hA hval hsz
 obtain ⟨v0,vs0,d0,ds0,p0,q0,hargs,rfl,hp0,h0,r0⟩:=trodAll_cons hA
 obtain ⟨v1,vs1,d1,ds1,p1,q1,rfl,rfl,hp1,h1,r1⟩:=trodAll_cons r0
 obtain ⟨v2,vs2,d2,ds2,p2,q2,rfl,rfl,hp2,h2,r2⟩:=trodAll_cons r1
 obtain ⟨v3,vs3,d3,ds3,p3,q3,rfl,rfl,hp3,h3,r3⟩:=trodAll_cons r2
 obtain ⟨rfl,rfl,_⟩:=trodAll_nil r3
 obtain rfl:args=#[v0,v1,v2,v3]:=by cases args;simp_all
 obtain ⟨rfl,_⟩:=trodVars_none hV
 obtain ⟨a0,rfl,_,_,w0⟩:=open_int Tryz.underlying5 (hval 0 5 v0 rfl rfl) h0
 have hb0:=vk0 w0
 obtain ⟨sa1,sl1,sc1,rfl⟩:=okWide_slice Tryz.underlying58 (hval 1 58 v1 rfl rfl)
 obtain ⟨fuel1,hf1⟩:=h1
 obtain ⟨aa1,al1,ac1,hcs1,hsl1,hsg1⟩:=xn0 hf1 (yk1 hsz (j:=1) rfl rfl)
 simp [Value.cells] at hcs1
 obtain ⟨rfl,rfl,rfl⟩:=hcs1
 obtain ⟨sa2,sl2,sc2,rfl⟩:=okWide_slice Tryz.underlying23 (hval 2 23 v2 rfl rfl)
 obtain ⟨fuel2,hf2⟩:=h2
 obtain ⟨ba2,bl2,bc2,hcs2,hlc2,hby2,hbn2,hbr2⟩:=yg9 Tryz.underlying23 Tryz.underlying5 (by kernel_rfl) hf2 (yk1 hsz (j:=2) rfl rfl)
 simp [Value.cells] at hcs2
 obtain ⟨rfl,rfl,rfl⟩:=hcs2
 obtain ⟨sa3,sl3,sc3,rfl⟩:=okWide_slice Tryz.underlying23 (hval 3 23 v3 rfl rfl)
 obtain ⟨fuel3,hf3⟩:=h3
 obtain ⟨ba3,bl3,bc3,hcs3,hlc3,hby3,hbn3,hbr3⟩:=yg9 Tryz.underlying23 Tryz.underlying5 (by kernel_rfl) hf3 (yk1 hsz (j:=3) rfl rfl)
 simp [Value.cells] at hcs3
 obtain ⟨rfl,rfl,rfl⟩:=hcs3
 rw [hb0] at hW' ⊢
 refine Calls.mono (ys7 (UInt8.ofNat a0.toNat) hsl1 hsg1 hby2 hby3 (Nat.le_trans hbr3 (by decide))) fun e W' he=>?_
 obtain ⟨v,he,rfl,hx⟩:=he
 exact ⟨_,he,ve7 laidOut hW' rfl rowed (Ext.below hx) Tryz.underlying4 (by kernel_rfl) rfl⟩
theorem proved:Rows.LogTidiesSaid :=
 OpenClaim.holds_of_wide 6 Tryz.f6 rfl rfl rfl rfl rfl rfl rfl ⟨rfl,rfl,rfl,rfl,rfl⟩ rfl rfl rfl rfl rfl (by kernel_rfl) Tryz.func6 (by kernel_rfl)
  (of_decide_eq_true (by kernel_rfl)) (by unfold Func.isWrapper;first | (rw [if_pos (by decide +kernel)];kernel_rfl) | (rw [if_neg (by decide +kernel)];exact ⟨rfl,rfl⟩))
  (fun os started H enc _=>lifted os started H enc)
end Go.Proofs.YtnjiiijdgijahaaGreat.logTidies
end
