/- The row of the law LogPlays: for every input the law returns true, and its arguments read as they did. (Merged and shortened by program: LLogPlays ZLogPlays.) -/
import Derived.Test.YtnjiiijdgijahaaGreatQ7
import Derived.Test.YtnjiiijdgijahaaGreatRows
import Derived.WalkKit
set_option linter.unusedVariables false
set_option linter.unusedSimpArgs false
set_option maxRecDepth 20000
namespace Go.Den
theorem ys9 {w:World} (sp:UInt8) {a:Option Addr} {c:Nat} {l:List ActS} (hl:zb0 actR w (fun b=>b<w.heap.size) a l) (hg:qg3 l) {ah:Option Addr} {ch:Nat} {vs:List Value} {hs:List Hit} {Gh:Nat→Prop} (hr:za6 w ah vs) (hh:zm8 w Gh vs hs) (hGh:∀ x,Gh x→x<w.heap.size)
  (hmask:∀ t∈hs,t.mask.length≤140737488355232) :
  za0 prog K.zi9 #[bv sp,.slice a l.length c,.slice ah hs.length ch] w fun v w'=>v= .bool true∧Ext w w':=by
 apply zi9.sh
 suffices H:∀ R:Value→World→Prop,(∀ v w',v= .bool true∧Ext w w'→R v w')→zi9.body sp.toNat a l.length c ah hs.length ch w R from H _ fun _ _ h=>h
 intro R hR
 unfold zi9.body
 have fin:∀ {u:World},Ext w u→za0 prog K.zb9 #[] u fun v w'=>∃ b:Bool,v= .bool b∧R (.bool b) w':=fun he=>(yc4 _).mono fun v w' ⟨hv,he'⟩=>⟨true,hv,hR _ _ ⟨rfl,he.trans he'⟩⟩
 refine (yc6 sp w).mono ?_
 rintro _ w1 ⟨he1,B,p,q,F,X,M,rfl,g1,rfl,h1,hF,hX,hq1,hq2,hq3⟩
 have hs1:=he1.size
 have hsp:sp.toNat % 2≤1:=by omega
 obtain ⟨hrp,_⟩:=vo6 hsp
 generalize (yp9 (sp.toNat % 2)).1=s at *
 refine ⟨_,_,rfl,?_⟩
 simp only [Bool.not_true,br_false,nilC_some',add_lit,Nat.zero_add]
 intro w2 hd2
 have hs2:=hd2.upd.size
 have g2:=Ext.get hd2.upd g1
 have e2:=he1.trans hd2.upd
 refine ⟨fun u=>Ext w2 u,Upd.refl _ _,_,fun u hu=>za2 (Ext.get hu g2) rfl,(xb6 (hr.ext e2) (zm8.upd e2 (fun _ _ h=>h) hh) (fun b hb=>by have:=hGh b hb;omega)).mono ?_⟩
 rintro _ w3 ⟨a3,c3,rfl,hl3,he3⟩
 have hs3:=he3.size
 obtain ⟨G3,hG3,hG3'⟩:=hl3.slice
 obtain ⟨vs3,hrow3,hrows3,hblk3⟩:=hG3
 have hFG:∀ x,G3 x→¬ F x:=fun x hx hf=>by
  have h4:=hF x hf
  rcases (hG3' x hx).1 with h | h
  ·omega
  ·have:=hGh x h;omega
 have hlt1:=h1.lt
 have hfl:(xg0 hs).length≤2:=by unfold xg0;simp;omega
 refine ⟨_,_,_,rfl,he3,?_⟩
 refine (uo4 (Gin:=G3) (h1.ext (hd2.upd.trans he3)) (fun x hx=>by have:=hF x hx;omega) hrow3 (qa1 hrows3) hFG (fun hne q hq hf=>?_) (by omega) (fun t ht=>?_)).mono ?_
 ·exact hFG _ (hblk3 hne q hq) hf
 ·unfold xg0 at ht
  obtain ⟨x,hx,rfl⟩:=List.mem_map.1 ht
  exact hmask x (List.mem_of_mem_take hx)
 rintro _ w4 ⟨rfl,hu4,h4⟩
 have hs4:=hu4.size
 have e3:=e2.trans he3
 have g4:=hu4.get (Ext.get he3 g2) (fun hx=>(hF B hx).2.2 rfl)
 have hrp4:=uw4 hrp hfl (fun t ht=>by
  unfold xg0 at ht
  obtain ⟨x,hx,rfl⟩:=List.mem_map.1 ht
  rfl)
 have acts0:Acts w.heap.size w B false 0 w4:=by
  refine ⟨[],_,⟨F,_,NoB,M,q,none,0,⟨g4,rfl,h4,fun x hx=>by have:=hF x hx;omega,fun x hx=>?_,hq1,hq2,hq3⟩,zb0.nil _ _ _,fun _ h=>h.elim⟩,hrp4.mono (by omega) (by omega),(Upd.ext e3).trans (hu4.mono fun x _ hx=>(hF x hx).1),fun h=>by cases h⟩
  rcases hx with hx | hx
  ·have:=hX x hx;omega
  ·have h5:=hx.1
   have h6:=hx.2
   have hBl:B<w1.heap.size:=(Array.getElem?_eq_some_iff.1 g1).1
   omega
 refine ⟨_,rfl,fun x u=>∃ i:Nat,x=i∧i≤l.length∧i≤80∧Acts w.heap.size w B false i u,fun x _=>((80:Int) - x).toNat,⟨0,rfl,by omega,by omega,acts0⟩,?_⟩
 rintro x u ⟨i,rfl,hi,hi80,ha⟩
 have heu:=ha.ext
 refine za8 (fun hlt=>za8 (fun hlt2=>?_) fun _=>fin heu) fun _=>fin heu
 have hi':i<l.length:=by omega
 have hsu:=heu.size
 refine zb0.idx (r:=actR) (hl.ext heu) rfl hi' fun b1 o1 vs1 _ hrow1 hR1 _=>?_
 obtain ⟨ax,cx,rfl,hcx⟩:=vl1 hR1
 refine ⟨_,ax,_,cx,_,hrow1.cells,(vl0 (by omega) ha (hg _ (List.getElem_mem hi')) hcx (fun y hy=>by have hy':y<w.heap.size:=hy;omega)).mono ?_⟩
 rintro _ w6 ⟨rfl,ha6⟩
 have ew:IntKind.i64.wrap ((i:Int)+1)=((i+1:Nat):Int):=w64 (by omega) (by omega)
 rw [ew]
 have he6:=ha6.ext
 refine ⟨_,rfl,?_⟩
 simp only [Bool.not_true,br_false]
 have ha6':=ha6
 obtain ⟨fs6,s6,hm6,hp6,hu6,hq6⟩:=ha6'
 have hm6':=hm6
 obtain ⟨F6,X6,Y6,M6,q6,a6,c6,⟨g6,r6,h6,_⟩,_⟩:=hm6'
 refine ⟨_,za2 g6 rfl,(yd7 h6.pool.chip.cin hp6.nb).mono ?_⟩
 rintro _ v ⟨rfl,hv⟩
 obtain rfl:w6=v:=hv.symm
 refine ⟨_,rfl,za8 (fun hb=>?_) fun hb=>⟨⟨i+1,rfl,hi',by omega,ha6⟩,by omega⟩⟩
 refine (xb5 hm6 hp6 (by omega) (by omega)).mono ?_
 rintro _ w8 ⟨rfl,he8⟩
 refine ⟨_,rfl,?_⟩
 simp only [Bool.not_true,br_false]
 exact ⟨⟨i+1,rfl,hi',by omega,⟨fs6,s6,hm6.ext he8,hp6,hu6.then he8,hq6⟩⟩,by omega⟩
end Go.Den
section
namespace Go.Proofs.YtnjiiijdgijahaaGreat.logPlays
open Go.ChangeShapes Go.WideShapes Go.ChangeAt Go.RowKit Go.Den
theorem own:ownKnob Tryz.prog.godebug=none:=by kernel_rfl
theorem laidOut:laidOutB Tryz.prog=true:=by kernel_rfl
theorem rowed:∀ t∈Tryz.f8.params.toList,Tryz.prog.readableRec t=true∧t<Tryz.prog.types.size:=by
 rw [Tryz.params8]
 intro t ht
 simp at ht
 rcases ht with rfl | rfl | rfl<;>exact ⟨by kernel_rfl,of_decide_eq_true (by kernel_rfl)⟩
set_option maxRecDepth 100000 in
theorem lifted (os:Os) (started:os.Started) (H:Type) (enc:TypeId×Value→H) :
  ReturnsInHanded {} Tryz.checked os 8 .any (Rows.logPlaysSpec.pre6 enc Tryz.prog Tryz.f8 Rows.logPlaysRow.domain false) (Rows.logPlaysSpec.post enc Tryz.prog Tryz.f8 false true false false):=by
 refine returnsInHanded_of_change_sized (C:=Tryz.checked) own started (by kernel_rfl) Tryz.func8
  (ChangeSpec.witness6 (enc:=enc) (C:=Tryz.checked) false ⟨#[],#[.int .u8 0,.slice none 0 0,.slice none 0 0],[]⟩ 8 (by kernel_rfl) (by kernel_rfl) (by kernel_rfl) (by kernel_rfl)) ?_
 intro W base args ds gs zl9 hval0 hW hcnd hsz _
 have hval:∀ (j:Nat) t v,Tryz.f8.params[j]?=some t→args[j]?=some v→Value.okWide Tryz.prog W .any base t v:=hval0
 have hW':=hW
 obtain ⟨p,q,hA0,hV,hpq,hfz,hnd⟩:=hW
 have hA:DataW.TrodAll enc Tryz.prog W 0 (fun _=>true) true Tryz.f8.params.toList args.toList ds p:=hA0
 rw [Tryz.params8] at hA hval hsz
 obtain ⟨v0,vs0,d0,ds0,p0,q0,hargs,rfl,hp0,h0,r0⟩:=trodAll_cons hA
 obtain ⟨v1,vs1,d1,ds1,p1,q1,rfl,rfl,hp1,h1,r1⟩:=trodAll_cons r0
 obtain ⟨v2,vs2,d2,ds2,p2,q2,rfl,rfl,hp2,h2,r2⟩:=trodAll_cons r1
 obtain ⟨rfl,rfl,_⟩:=trodAll_nil r2
 obtain rfl:args=#[v0,v1,v2]:=by cases args;simp_all
 obtain ⟨rfl,_⟩:=trodVars_none hV
 obtain ⟨a0,rfl,_,_,w0⟩:=open_int Tryz.underlying5 (hval 0 5 v0 rfl rfl) h0
 have hb0:=vk0 w0
 obtain ⟨sa1,sl1,sc1,rfl⟩:=okWide_slice Tryz.underlying58 (hval 1 58 v1 rfl rfl)
 obtain ⟨fuel1,hf1⟩:=h1
 obtain ⟨aa1,al1,ac1,hcs1,hsl1,hsg1⟩:=xn0 hf1 (yk1 hsz (j:=1) rfl rfl)
 simp [Value.cells] at hcs1
 obtain ⟨rfl,rfl,rfl⟩:=hcs1
 obtain ⟨sa2,sl2,sc2,rfl⟩:=okWide_slice Tryz.underlying41 (hval 2 41 v2 rfl rfl)
 obtain ⟨fuel2,hf2⟩:=h2
 obtain ⟨ha2,hv2,hs2,hc2,hcs2,hrow2,hhit2,hap2,hm2⟩:=uy4 (by kernel_rfl) hf2 (yk1 hsz (j:=2) rfl rfl)
 simp [Value.cells] at hcs2
 obtain ⟨rfl,rfl,rfl⟩:=hcs2
 rw [hb0] at hW' ⊢
 refine Calls.mono (ys9 (UInt8.ofNat a0.toNat) hsl1 hsg1 hrow2 hhit2 (fun x hx=>hx) hm2) fun e W' he=>?_
 obtain ⟨v,he,rfl,hx⟩:=he
 exact ⟨_,he,ve7 laidOut hW' rfl rowed (Ext.below hx) Tryz.underlying4 (by kernel_rfl) rfl⟩
theorem proved:Rows.LogPlaysSaid :=
 OpenClaim.holds_of_wide 8 Tryz.f8 rfl rfl rfl rfl rfl rfl rfl ⟨rfl,rfl,rfl,rfl,rfl⟩ rfl rfl rfl rfl rfl (by kernel_rfl) Tryz.func8 (by kernel_rfl)
  (of_decide_eq_true (by kernel_rfl)) (by unfold Func.isWrapper;first | (rw [if_pos (by decide +kernel)];kernel_rfl) | (rw [if_neg (by decide +kernel)];exact ⟨rfl,rfl⟩))
  (fun os started H enc _=>lifted os started H enc)
end Go.Proofs.YtnjiiijdgijahaaGreat.logPlays
end
