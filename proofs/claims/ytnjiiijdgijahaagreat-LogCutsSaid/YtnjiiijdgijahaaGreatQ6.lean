/- Plain laws of layer 14: what works and LogNil tell, computed. (Merged and shortened by program: SPutRec SPack MTaken SScan5 SLog SLog2 SLog3 SLog4 SLog5 SLog6 MTell4 MTell5 MPackF MTell6 MTell7 SLog7 SLog8 MLaw14.) -/
import Derived.Test.YtnjiiijdgijahaaGreatQ5
set_option linter.unusedVariables false
set_option linter.unusedSimpArgs false
set_option maxRecDepth 20000
namespace Go.Den
theorem xs2 {w:World} {a:Option Addr} {b:List UInt8} {c:Nat} (hb:za4 w a b) :
  za0 prog K.yk2 #[.slice a b.length c] w fun v w'=>zw3 w w' v (rowB b).1 (rowB b).2:=by
 apply yk2.sh
 suffices H:∀ R:Value→World→Prop,(∀ v w',zw3 w w' v (rowB b).1 (rowB b).2→R v w')→yk2.body a b.length c w R from H _ fun _ _ h=>h
 intro R hR
 unfold yk2.body
 refine za8 (fun hl=>?_) fun hl=>?_
 ·have h:rowB b=([],3):=by unfold rowB;rw [if_neg (by omega)]
  rw [h] at hR
  exact hR _ _ (zw3.none (e:=3) (Upd.refl _ _))
 ·have h:rowB b=(UInt8.ofNat b.length :: b,0):=by unfold rowB;rw [if_pos (by omega)]
  rw [h] at hR
  intro B1 w₁ hn1
  rw [yq2,Nat.mod_eq_of_lt (by omega)] at hn1
  have hs1:=hn1.size
  refine zr8.cat (l:=[UInt8.ofNat b.length]) (S:=w.heap.size) (zr8.new hn1 rfl (Nat.le_refl _)) rfl rfl (hb.ext hn1.upd) (by simp;omega) (by omega) fun a' c' w' hu hl'=>?_
  exact hR _ _ ⟨a',c',rfl,hl',hn1.upd.own hu (Nat.le_refl _)⟩
theorem xc3 (k:Key) (hn:k.name.size<9223372036854775807) (w:World) :
  za0 prog K.zy5 #[keyV k] w fun v w'=>zw3 w w' v (ya7 k).1 (ya7 k).2:=by
 apply zy5.sh
 suffices H:∀ R:Value→World→Prop,(∀ v w',zw3 w w' v (ya7 k).1 (ya7 k).2→R v w')→zy5.body k.ino k.what.toNat k.name k.chunk w R from H _ fun _ _ h=>h
 intro R hR
 unfold zy5.body
 simp only [add_lit,Nat.zero_add]
 intro B1 w₁ hn1
 have g1:zz5 w₁ B1 k:=hn1.get
 have hb1:B1=w.heap.size:=hn1.num
 have hs1:=hn1.size
 refine ⟨_,_,_,_,zw8 g1,(yh8 k hn w₁).mono ?_⟩
 rintro _ w₂ ⟨rfl,he2⟩
 have g2:zz5 w₂ B1 k:=Ext.get he2 g1
 have e2:Ext w w₂:=hn1.upd.trans he2
 have hs2:=he2.size
 refine ⟨_,rfl,zc0 (fun hm=>?_) fun hm=>?_⟩
 ·have h:ya7 k=([],2):=by unfold ya7;rw [if_neg (by simpa using hm)]
  rw [h] at hR
  exact hR _ _ (zw3.none (e:=2) e2)
 have hm':k.may=true:=by simpa using hm
 have h:ya7 k=(keyB k,0):=by unfold ya7;rw [if_pos hm']
 rw [h] at hR
 obtain ⟨h1,h2,h3⟩:=Key.may_elim hm'
 obtain ⟨n,hn0⟩: ∃ n:Nat,k.ino=n:=⟨k.ino.toNat,by omega⟩
 refine ⟨_,za2 g2 rfl,?_⟩
 rw [hn0,wu64 (by omega) (by omega)]
 refine (xy1 n 2 w₂ (by rfl) (by omega)).mono ?_
 rintro _ w₃ ⟨a1,c1,rfl,ho3,hf3,he3⟩
 have e3:=e2.trans he3
 have hs3:=he3.size
 have g3:zz5 w₃ B1 k:=Ext.get he3 g2
 have hlb:(leB n 2).length=2:=zf3 2 n
 have hbase:zr8 w₂.heap.size w₃ a1 c1 (leB n 2):=⟨by rw [hlb];exact ho3,fun b hb=>hf3 _ hb⟩
 refine ⟨_,_,_,_,rfl,_,za2 g3 rfl,fun B2 w₄ hn4=>?_⟩
 have hs4:=hn4.size
 refine zr8.push hbase hlb.symm hn4 (by omega) (by omega) fun a2 c2 w₅ hu5 hl5=>?_
 have e5:Ext w w₅:=e3.beyond hu5 fun x hx=>by omega
 have hs5:=hu5.size
 have g5:zz5 w₅ B1 k:=hu5.get g3 (by omega)
 have hnn:k.ino.toNat=n:=by omega
 refine ⟨_,za2 g5 rfl,zi1 (fun hw=>?_) fun hw=>zi1 (fun hw3=>?_) fun hw3=>?_⟩
 ·have hw':k.what=2:=UInt8.toNat_inj.1 (by show k.what.toNat=2;omega)
  have hname:yf9 k.bytes=true:=by
   rcases h3 with ⟨h,_⟩| ⟨_,h,_⟩| ⟨h,_⟩
   ·rw [hw'] at h;cases h
   ·exact h
   ·rw [hw'] at h;cases h
  have hlen:=yx3 hname
  have hbs:k.name.size=k.bytes.length:=yg5 _
  have hkey:keyB k=leB n 2 ++ [k.what] ++ (UInt8.ofNat k.bytes.length :: k.bytes):=by unfold keyB;rw [if_pos hw',hnn]
  refine ⟨_,za2 g5 rfl,fun cap B3 w₆ hcap hn6=>?_⟩
  have hs6:=hn6.size
  have hsd:w₅.drew.heap.size=w₅.heap.size:=rfl
  have e56:Ext w₅ w₆:=(xs5 w₅).trans hn6.upd
  have hrow:za4 w₆ (some ⟨B3,0,none⟩) k.bytes:=za6.of hn6.get fun j v hj=>by
   simp only [Nat.zero_add,List.getElem?_toArray]
   have hj':(k.name.data.toList.map bv)[j]?=some v:=hj
   rw [List.getElem?_append_left (by simpa using (List.getElem?_eq_some_iff.1 hj').1)]
   exact hj'
  rw [hbs]
  refine (xs2 (c:=cap) hrow).mono ?_
  have hrb:rowB k.bytes=(UInt8.ofNat k.bytes.length :: k.bytes,0):=by unfold rowB;rw [if_pos (by omega)]
  rw [hrb]
  rintro _ w₇ ⟨a4,c4,rfl,hl7,he7⟩
  have e57:=e56.trans he7
  refine ⟨_,_,_,_,rfl,zr8.cat (hl5.ext e57) rfl rfl hl7.bytes (by simp [zf3];omega) (by have:=e57.size;omega) fun a5 c5 w₈ hu8 hl8=>?_⟩
  rw [← hkey] at hl8 ⊢
  exact hR _ _ ⟨a5,c5,rfl,hl8.weak (by omega),(e5.trans e57).beyond hu8 fun x hx=>by omega⟩
 ·have hw':k.what=3:=UInt8.toNat_inj.1 (by show k.what.toNat=3;omega)
  have hkey:keyB k=leB n 2 ++ [k.what] ++ [UInt8.ofNat k.chunk.toNat]:=by unfold keyB;rw [if_neg (by rw [hw'];decide),if_pos hw',hnn]
  have hch:0≤k.chunk∧k.chunk<8:=by
   rcases h3 with ⟨h,_⟩| ⟨h,_⟩| ⟨_,_,h⟩
   ·rw [hw'] at h;cases h
   ·rw [hw'] at h;cases h
   ·exact h
  obtain ⟨m,hm0⟩: ∃ m:Nat,k.chunk=m:=⟨k.chunk.toNat,by omega⟩
  refine ⟨_,za2 g5 rfl,fun B3 w₆ hn6=>?_⟩
  rw [hm0,yq2,Nat.mod_eq_of_lt (by omega)] at hn6
  refine zr8.push hl5 rfl hn6 (by simp [zf3]) (by omega) fun a6 c6 w₇ hu7 hl7=>?_
  have hmn:k.chunk.toNat=m:=by omega
  rw [hmn] at hkey
  rw [← hkey] at hl7 ⊢
  exact hR _ _ ⟨a6,c6,rfl,hl7.weak (by omega),e5.beyond hu7 fun x hx=>by omega⟩
 ·have hkey:keyB k=leB n 2 ++ [k.what]:=by
   unfold keyB
   rw [if_neg (fun h=>hw (by rw [h];rfl)),if_neg (fun h=>hw3 (by rw [h];rfl)),hnn,List.append_nil]
  rw [← hkey] at hl5 ⊢
  exact hR _ _ ⟨a2,c2,rfl,hl5.weak (by omega),e5⟩
theorem xq1 {w:World} {a:Option Addr} {bs:List (List UInt8)} {cp:Nat} (h:yn9 w a bs) (hn:bs.length≤1000000000) (hf:bs.flatten.length≤10000000000000) :
  za0 prog K.yq7 #[.slice a bs.length cp] w fun v w'=>Ext w w'∧∃ a' c',v= .slice a' bs.flatten.length c'∧zr8 w.heap.size w' a' c' bs.flatten:=by
 apply yq7.sh
 refine (yj2 h hn hf).mono ?_
 rintro _ w' ⟨he,a',c',rfl,ho,hf⟩
 exact ⟨_,_,_,rfl,he,a',c',rfl,ho,fun b hb=>hf _ hb⟩
def xy7 (w w':World) (v:Value) (l:List UInt8) (b:Bool):Prop:=∃ a c,v= .tuple #[.slice a l.length c,.bool b]∧zr8 w.heap.size w' a c l∧Ext w w'
theorem xy7.none {w w':World} (h:Ext w w'):xy7 w w' (.tuple #[.slice .none 0 0,.bool false]) [] false:=⟨.none,0,rfl,zr8.nil _ _,h⟩
def yv3 (c:zb2):List UInt8:=if mayC c then chgB c else []
theorem vw5 {w:World} {B:Nat} {x:zb2} {a:Option Addr} {c:Nat} (h:w.heap[B]?=some (.cells (yn8 x.key a x.val.length c x.gone).toArray T.zc9 (0,0))):za3 w ⟨B,0,none⟩ [.int .i64 x.key.ino,bv x.key.what,.string x.key.name,.int .i64 x.key.chunk] 0:=by
 refine zl2 h fun j v hj=>?_
 rcases j with _ | _ | _ | _ | j
 all_goals simp at hj ⊢
 all_goals exact hj
theorem vd9 (x:zb2) {w:World} {a:Option Addr} {c:Nat} (hb:za4 w a x.val) (hn:x.key.name.size<9223372036854775807) :
  za0 prog K.yd3 #[.agg #[.int .i64 x.key.ino,bv x.key.what,.string x.key.name,.int .i64 x.key.chunk,.slice a x.val.length c,.bool x.gone]] w fun v w'=>xy7 w w' v (yv3 x) (mayC x):=by
 apply yd3.sh
 suffices H:∀ R:Value→World→Prop,(∀ v w',xy7 w w' v (yv3 x) (mayC x)→R v w')→yd3.body x.key.ino x.key.what.toNat x.key.name x.key.chunk a x.val.length c x.gone w R from H _ fun _ _ h=>h
 intro R hR
 unfold yd3.body
 simp only [add_lit,Nat.zero_add]
 intro B1 w₁ hn1
 have g1:w₁.heap[B1]?=some (.cells (yn8 x.key a x.val.length c x.gone).toArray T.zc9 (0,0)):=hn1.get
 have hs1:=hn1.size
 refine ⟨_,_,_,_,vw5 g1,(xc3 x.key hn w₁).mono ?_⟩
 rintro _ w₂ ⟨a1,c1,rfl,hl2,he2⟩
 have g2:=Ext.get he2 g1
 have e2:=hn1.upd.trans he2
 have hs2:=he2.size
 have fail:mayC x=false→∀ u,Ext w u→R (.tuple #[.slice none 0 0,.bool false]) u:=fun h u hu=>hR _ _ (by
  have hc:yv3 x=[]:=by unfold yv3;rw [h];rfl
  rw [hc,h]
  exact xy7.none hu)
 have hpk:ya7 x.key=if x.key.may then (keyB x.key,0) else ([],2):=rfl
 refine ⟨_,_,_,_,rfl,fun b u=>u=w₂∧b=(!x.key.may || (x.gone && decide (0<x.val.length))),zg8 (fun hne=>?_) fun h0=>?_,?_⟩
 ·refine ⟨rfl,?_⟩
  have:x.key.may=false:=by
   cases hm:x.key.may with
   | false=>rfl
   | true=>rw [hpk,if_pos hm] at hne;exact absurd rfl hne
  rw [this];rfl
 ·have hm:x.key.may=true:=by
   cases hm:x.key.may with
   | true=>rfl
   | false=>rw [hpk,if_neg (by rw [hm];decide)] at h0;cases h0
  refine ⟨_,za2 g2 rfl,zc0 (fun hg=>⟨_,_,_,za2 g2 rfl,rfl,?_⟩) fun hg=>⟨rfl,?_⟩⟩
  ·rw [hm,hg]
   simp
  ·rw [hm,hg];rfl
 rintro b u ⟨rfl,rfl⟩
 refine zc0 (fun hbad=>?_) fun hok=>?_
 ·refine fail ?_ _ e2
  unfold mayC
  cases hm:x.key.may with
  | false=>rfl
  | true =>
   rw [hm] at hbad
   simp only [Bool.not_true,Bool.false_or,Bool.and_eq_true,decide_eq_true_eq] at hbad
   rw [hbad.1,if_pos rfl,decide_eq_false (by omega)];rfl
 simp only [Bool.or_eq_false_iff,Bool.not_eq_false',Bool.and_eq_false_iff,decide_eq_false_iff_not] at hok
 obtain ⟨hm,hgv⟩:=hok
 rw [hpk,if_pos hm] at hl2
 simp only [] at hl2
 rw [hpk,if_pos hm]
 have hkl:=xr3 hm
 refine ⟨_,za2 g2 rfl,zc0 (fun hg=>?_) fun hg=>?_⟩
 ·have hv0:x.val.length=0:=by
   rcases hgv with h | h
   ·rw [hg] at h;cases h
   ·omega
  have hmc:mayC x=true:=by unfold mayC;rw [hm,hg,if_pos rfl,decide_eq_true hv0];rfl
  have hcb:yv3 x=[[0],keyB x.key].flatten:=by unfold yv3 chgB;rw [hmc,hg];simp
  rw [hmc,hcb] at hR
  intro B2 w₄ hn4 B3 w₅ hn5
  have hs:yn9 w₅ (some ⟨B3,0,none⟩) [[0],keyB x.key]:=by
   refine ⟨_,za6.of hn5.get (vs:=[Value.slice (some ⟨B2,0,none⟩) 1 1,Value.slice a1 (keyB x.key).length c1]) (fun j v hj=>by simpa using hj),rfl,fun i hi=>?_⟩
   match i,hi with
   | 0,_=>exact ⟨_,_,rfl,za6.ext (za6.of hn4.get fun j v hj=>by have hj':[Value.int .u8 0][j]?=some v:=hj;simpa using hj') hn5.upd⟩
   | 1,_=>exact ⟨a1,c1,rfl,za6.ext hl2.bytes (hn4.upd.trans hn5.upd)⟩
  refine (xq1 (cp:=2) hs (by simp) (by simp;omega)).mono ?_
  rintro _ w₆ ⟨he6,a3,c3,rfl,hl6⟩
  have e5:=e2.trans (hn4.upd.trans hn5.upd)
  exact ⟨_,_,_,rfl,hR _ _ ⟨a3,c3,rfl,hl6.weak e5.size,e5.trans he6⟩⟩
 ·refine ⟨_,_,_,za2 g2 rfl,za8 (fun h1=>fail ?_ _ e2) fun h1=>⟨_,_,_,za2 g2 rfl,za8 (fun h2=>fail ?_ _ e2) fun h2=>?_⟩⟩
  ·unfold mayC;rw [hm,hg,decide_eq_false (p:=1≤x.val.length) (by omega)];rfl
  ·unfold mayC;rw [hm,hg,decide_eq_false (p:=x.val.length≤255) (by omega)];simp
  have hmc:mayC x=true:=by unfold mayC;rw [hm,hg,decide_eq_true (p:=1≤x.val.length) (by omega),decide_eq_true (p:=x.val.length≤255) (by omega)];rfl
  have hcb:yv3 x=[[1],keyB x.key,UInt8.ofNat x.val.length :: x.val].flatten:=by unfold yv3 chgB;rw [hmc,hg];simp
  rw [hmc,hcb] at hR
  refine ⟨_,_,_,za2 g2 rfl,(xs2 (c:=c) (za6.ext hb e2)).mono ?_⟩
  have hrb:rowB x.val=(UInt8.ofNat x.val.length :: x.val,0):=by unfold rowB;rw [if_pos (by omega)]
  rw [hrb]
  rintro _ w₇ ⟨a7,c7,rfl,hl7,he7⟩
  refine ⟨_,_,_,_,rfl,fun B4 w₈ hn8 B5 w₉ hn9=>?_⟩
  have hs:yn9 w₉ (some ⟨B5,0,none⟩) [[1],keyB x.key,UInt8.ofNat x.val.length :: x.val]:=by
   refine ⟨_,za6.of hn9.get (vs:=[Value.slice (some ⟨B4,0,none⟩) 1 1,Value.slice a1 (keyB x.key).length c1,Value.slice a7 (UInt8.ofNat x.val.length :: x.val).length c7]) (fun j v hj=>by simpa using hj),rfl,fun i hi=>?_⟩
   match i,hi with
   | 0,_=>exact ⟨_,_,rfl,za6.ext (za6.of hn8.get fun j v hj=>by have hj':[Value.int .u8 1][j]?=some v:=hj;simpa using hj') hn9.upd⟩
   | 1,_=>exact ⟨a1,c1,rfl,za6.ext hl2.bytes ((he7.trans hn8.upd).trans hn9.upd)⟩
   | 2,_=>exact ⟨a7,c7,rfl,za6.ext hl7.bytes (hn8.upd.trans hn9.upd)⟩
  refine (xq1 (cp:=3) hs (by simp) (by simp;omega)).mono ?_
  rintro _ w₁₀ ⟨he10,a8,c8,rfl,hl10⟩
  have e9:=e2.trans ((he7.trans hn8.upd).trans hn9.upd)
  exact ⟨_,_,_,rfl,hR _ _ ⟨a8,c8,rfl,hl10.weak e9.size,e9.trans he10⟩⟩
theorem vt7 {l:List zb2} {w:World} {G:Nat→Prop} {a:Option Addr} {c:Nat} (h:zb0 zc4 w G a l) (hs:yw0 l) (hn:l.length<9000000000000000000) :
  za0 prog K.ym8 #[.slice a l.length c] w fun v w'=>xy7 w w' v (if mayL l then yv9 l else []) (mayL l):=by
 apply ym8.sh
 suffices H:∀ R:Value→World→Prop,(∀ v w',xy7 w w' v (if mayL l then yv9 l else []) (mayL l)→R v w')→ym8.body a l.length c w R from H _ fun _ _ h=>h
 intro R hR
 unfold ym8.body
 have fail:mayL l=false→∀ u,Ext w u→R (.tuple #[.slice none 0 0,.bool false]) u:=fun h u hu=>hR _ _ (by
  rw [h]
  exact xy7.none hu)
 refine za8 (fun h1=>fail ?_ _ (Upd.refl _ _)) fun h1=>za8 (fun h2=>fail ?_ _ (Upd.refl _ _)) fun h2=>?_
 ·unfold mayL;rw [decide_eq_false (p:=1≤l.length) (by omega)];rfl
 ·unfold mayL;rw [decide_eq_false (p:=l.length≤255) (by omega)];simp
 have hml:mayL l=l.all mayC:=by unfold mayL;rw [decide_eq_true (p:=1≤l.length) (by omega),decide_eq_true (p:=l.length≤255) (by omega)];simp
 intro B1 w₁ hn1
 rw [yq2,Nat.mod_eq_of_lt (by omega)] at hn1
 have hs1:=hn1.size
 have hbase:zr8 w.heap.size w₁ (some ⟨B1,0,none⟩) 1 [UInt8.ofNat l.length]:=zr8.new hn1 rfl (Nat.le_refl _)
 refine ⟨fun a1 l1 c1 x u=>∃ i:Nat,x=i∧i≤l.length∧(l.take i).all mayC=true∧l1=(UInt8.ofNat l.length :: (l.take i).flatMap chgB).length∧zr8 w.heap.size u a1 c1 (UInt8.ofNat l.length :: (l.take i).flatMap chgB)∧Ext w u,fun _ _ _ x _=>((l.length:Int) - x).toNat,
  ⟨0,rfl,by omega,rfl,rfl,by simpa using hbase,hn1.upd⟩,?_⟩
 rintro a1 l1 c1 x u ⟨i,rfl,hi,hall,rfl,hl,heu⟩
 have hsu:=heu.size
 refine za8 (fun hlt=>?_) fun hge=>?_
 ·have hi':i<l.length:=by omega
  have ew:IntKind.i64.wrap ((i:Int)+1)=((i+1:Nat):Int):=w64 (by omega) (by omega)
  simp only [ew]
  refine zb0.idx (r:=zc4) (h.ext heu) rfl hi' fun b o vs _ hrow hR' _=>?_
  obtain ⟨av,cv,rfl,hcv,hbv,_⟩:=zp6 hR'
  refine ⟨_,_,_,_,_,_,_,_,hrow.cells,zu7 rfl fun B2 w₄ hb4 hs4 e4 g4=>?_⟩
  refine ⟨_,_,_,_,_,_,_,_,zz3 g4,(vd9 l[i] (hbv.ext e4) (hs _ (List.getElem_mem hi'))).mono ?_⟩
  rintro _ w₅ ⟨a4,c4,rfl,hl5,he5⟩
  have e45:=e4.trans he5
  have hs45:=e45.size
  refine ⟨_,_,_,_,rfl,zc0 (fun hb=>fail ?_ _ (heu.trans e45)) fun hb=>?_⟩
  ·rw [hml]
   have:mayC l[i]=false:=by simpa using hb
   rw [List.all_eq_false]
   exact ⟨l[i],List.getElem_mem hi',by rw [this];simp⟩
  ·have hmc:mayC l[i]=true:=by simpa using hb
   have hcb:yv3 l[i]=chgB l[i]:=by unfold yv3;rw [hmc];rfl
   rw [hcb] at hl5 ⊢
   have hcl:=vb3 hmc
   have hfl:=xa7 (f:=chgB) (n:=300) (l.take i) (fun x hx=>vb3 (List.all_eq_true.1 hall x hx))
   have htl:(l.take i).length=i:=by rw [List.length_take];omega
   rw [htl] at hfl
   refine zr8.cat (hl.ext e45) rfl rfl hl5.bytes (by rw [List.length_cons];omega) (by omega) fun a5 c5 w₆ hu6 hl6=>?_
   have hcat:(UInt8.ofNat l.length :: (l.take i).flatMap chgB) ++ chgB l[i]=UInt8.ofNat l.length :: (l.take (i+1)).flatMap chgB:=by
    rw [List.take_succ_eq_append_getElem hi',List.flatMap_append]
    simp
   rw [hcat] at hl6 ⊢
   exact ⟨⟨i+1,rfl,hi',by rw [xb8 hi',hall,hmc];rfl,rfl,hl6,(heu.trans e45).beyond hu6 fun x hx=>hx⟩,meas hi'⟩
 ·have hii:i=l.length:=by omega
  subst hii
  rw [List.take_length] at hl hall ⊢
  have hm:mayL l=true:=by rw [hml];exact hall
  rw [hm] at hR
  exact hR _ _ ⟨a1,c1,rfl,hl,heu⟩
theorem xw5 {size k:Int} {kind:UInt8} (hk:k=(kind.toNat:Int)) {a:Option Addr} {body:List UInt8} {c:Nat} {w:World} (h:za4 w a body) (hn:body.length≤281474976710656) :
  za0 prog K.yh6 #[.int .i64 size,.int .u8 k,.slice a body.length c] w fun v w'=>∃ a' c',v= .tuple #[.slice a' (ya6 size kind body).1.length c',.int .i64 ((ya6 size kind body).2:Nat)]∧za4 w' a' (ya6 size kind body).1∧zm9 w a'∧Ext w w'∧(ya6 size kind body).1.length≤c':=by
 refine (xp9 size k kind hk h hn).mono ?_
 rintro v w' ⟨he,hv⟩
 unfold ya6
 by_cases h1:zh0 size=false∨kind<1∨kind > 7
 ·rw [if_pos h1] at hv
  rw [if_pos h1,hv]
  exact ⟨none,0,rfl,za6.nil _ _,zm9.none _,he,Nat.le_refl _⟩
 ·rw [if_neg h1] at hv
  rw [if_neg h1]
  by_cases h2:(body.length:Int) > size - 5
  ·rw [if_pos h2] at hv
   rw [if_pos h2,hv]
   exact ⟨none,0,rfl,za6.nil _ _,zm9.none _,he,Nat.le_refl _⟩
  ·rw [if_neg h2] at hv
   rw [if_neg h2]
   obtain ⟨a',c',rfl,hb,hf,hc⟩:=hv
   have hl:(zp9 size.toNat kind body).length=size.toNat:=zt3 _ _ _ (by omega)
   exact ⟨a',c',by rw [hl];rfl,hb,hf,he,by rw [hl];exact hc⟩
def up9 (w w':World) (v:Value) (r:List UInt8×Nat):Prop:=∃ a c,v= .tuple #[.slice a r.1.length c,.int .i64 (r.2:Nat)]∧za4 w' a r.1∧zm9 w a∧Ext w w'∧r.1.length≤c
theorem xw3 {l:List zb2} {w:World} {G:Nat→Prop} {a:Option Addr} {c:Nat} (h:zb0 zc4 w G a l) (hs:yw0 l) (hn:l.length<9000000000000000000) (size:Int) :
  za0 prog K.yl9 #[.int .i64 size,.slice a l.length c] w fun v w'=>up9 w w' v (putL size l):=by
 apply yl9.sh
 suffices H:∀ R:Value→World→Prop,(∀ v w',up9 w w' v (putL size l)→R v w')→yl9.body size a l.length c w R from H _ fun _ _ h=>h
 intro R hR
 unfold yl9.body
 refine (vt7 h hs hn).mono ?_
 rintro _ w₁ ⟨a1,c1,rfl,hl1,he1⟩
 refine ⟨_,_,_,_,rfl,zc0 (fun hm=>?_) fun hm=>?_⟩
 ·have hp:putL size l=([],2):=by unfold putL;rw [if_neg (by simpa using hm)]
  rw [hp] at hR
  exact hR _ _ ⟨none,0,rfl,za6.nil _ _,zm9.none _,he1,Nat.le_refl _⟩
 ·have hm':mayL l=true:=by simpa using hm
  have hp:putL size l=ya6 size 2 (yv9 l):=by unfold putL;rw [if_pos hm']
  rw [hp] at hR
  rw [if_pos hm'] at hl1 ⊢
  have:=uf7 hm'
  refine (xw5 (kind:=2) rfl hl1.bytes (by omega)).mono ?_
  rintro _ w₂ ⟨a2,c2,rfl,hb2,hf2,he2,hc2⟩
  exact ⟨_,_,_,_,rfl,hR _ _ ⟨a2,c2,rfl,hb2,hf2.mono he1.size,he1.trans he2,hc2⟩⟩
theorem xz2 (size:Int) (seq:Nat) (hq:seq<18446744073709551616) (w:World) :
  za0 prog K.zz6 #[.int .i64 size,.int .u64 seq] w fun v w'=>up9 w w' v (zq9 size seq):=by
 apply zz6.sh
 suffices H:∀ R:Value→World→Prop,(∀ v w',up9 w w' v (zq9 size seq)→R v w')→zz6.body size seq w R from H _ fun _ _ h=>h
 intro R hR
 unfold zz6.body
 refine zi1 (fun h0=>?_) fun h0=>?_
 ·have hp:zq9 size seq=([],2):=by unfold zq9;rw [if_pos (by omega)]
  rw [hp] at hR
  exact hR _ _ ⟨none,0,rfl,za6.nil _ _,zm9.none _,Upd.refl _ _,Nat.le_refl _⟩
 ·have hp:zq9 size seq=ya6 size 3 (leB seq 8):=by unfold zq9;rw [if_neg (by omega)]
  rw [hp] at hR
  refine (yk4 seq 8 w (by rfl) (by rw [show (256:Nat) ^ 8=18446744073709551616 by decide];exact hq)).mono ?_
  rintro _ w₁ ⟨a1,c1,rfl,hb1,hf1,he1⟩
  have hlen:=zf3 8 seq
  refine ⟨_,_,_,_,rfl,?_⟩
  have hput:=xw5 (size:=size) (kind:=3) (c:=c1) rfl hb1 (by omega)
  rw [hlen] at hput
  refine hput.mono ?_
  rintro _ w₂ ⟨a2,c2,rfl,hb2,hf2,he2,hc2⟩
  exact ⟨_,_,_,_,rfl,hR _ _ ⟨a2,c2,rfl,hb2,hf2.mono he1.size,he1.trans he2,hc2⟩⟩
theorem xo1 {w:World} {B:Nat} {x:Fact} {a:Option Addr} {c:Nat} (h:w.heap[B]?=some (.cells (xl4 x.key a x.val.length c).toArray T.za9 (0,0))):za3 w ⟨B,0,none⟩ [.int .i64 x.key.ino,bv x.key.what,.string x.key.name,.int .i64 x.key.chunk] 0:=by
 refine zl2 h fun j v hj=>?_
 rcases j with _ | _ | _ | _ | j
 all_goals simp at hj ⊢
 all_goals exact hj
theorem xk3 (f:Fact) {w:World} {a:Option Addr} {c:Nat} (hn:f.key.name.size<9223372036854775807) (hv:f.val.length≤1000000000000) :
  za0 prog K.ye6 #[.agg #[.int .i64 f.key.ino,bv f.key.what,.string f.key.name,.int .i64 f.key.chunk,.slice a f.val.length c]] w fun v w'=>v= .int .i64 (zv3 f:Nat)∧Ext w w':=by
 apply ye6.sh
 suffices H:∀ R:Value→World→Prop,(∀ v w',v= .int .i64 (zv3 f:Nat)∧Ext w w'→R v w')→ye6.body f.key.ino f.key.what.toNat f.key.name f.key.chunk a f.val.length c w R from H _ fun _ _ h=>h
 intro R hR
 unfold ye6.body
 simp only [add_lit,Nat.zero_add]
 intro B1 w₁ hn1
 have g1:w₁.heap[B1]?=some (.cells (xl4 f.key a f.val.length c).toArray T.za9 (0,0)):=hn1.get
 refine ⟨_,_,_,_,xo1 g1,(xc3 f.key hn w₁).mono ?_⟩
 have hpk:ya7 f.key=if f.key.may then (keyB f.key,0) else ([],2):=rfl
 rintro _ w₂ ⟨a1,c1,rfl,hl2,he2⟩
 have g2:=Ext.get he2 g1
 have e2:=hn1.upd.trans he2
 cases hm:f.key.may with
 | false =>
  rw [hpk,if_neg (by rw [hm];decide)]
  refine ⟨_,_,_,_,rfl,zg8 (fun _=>?_) fun h=>absurd h (by decide)⟩
  have hc:zv3 f=0:=by unfold zv3;rw [if_neg (by rw [hm];decide)]
  rw [hc] at hR
  exact hR _ _ ⟨rfl,e2⟩
 | true =>
  rw [hpk,if_pos hm]
  dsimp only
  have:=xr3 hm
  refine ⟨_,_,_,_,rfl,zg8 (fun h=>absurd rfl h) fun _=>⟨_,_,_,za2 g2 rfl,?_⟩⟩
  have hc:zv3 f=2+(keyB f.key).length+f.val.length:=by unfold zv3;rw [if_pos hm]
  rw [hc] at hR
  have q1:IntKind.i64.wrap ((2:Int)+((keyB f.key).length:Int))=((2+(keyB f.key).length:Nat):Int):=by rw [w64 (by omega) (by omega)];omega
  have q2:IntKind.i64.wrap (((2+(keyB f.key).length:Nat):Int)+(f.val.length:Int))=((2+(keyB f.key).length+f.val.length:Nat):Int):=by rw [w64 (by omega) (by omega)];omega
  rw [q1,q2]
  exact hR _ _ ⟨rfl,e2⟩
theorem xl5 {α:Type} {l:List α} {i:Nat} (hi:i<l.length) (p:α→Bool):(l.take (i+1)).all p=((l.take i).all p && p l[i]):=by
 rw [List.take_succ_eq_append_getElem hi,List.all_append]
 simp
theorem xx0 {l:List Fact} {i:Nat} (hi:i<l.length) (h0:0<i):zg6 (l.take (i+1))=(zg6 (l.take i) && zl9 l[i - 1].key l[i].key):=by
 obtain ⟨j,rfl⟩: ∃ j,i=j+1:=⟨i - 1,by omega⟩
 exact xe6 l hi
theorem vm8 {l:List Fact} {w:World} {G:Nat→Prop} {a:Option Addr} {c:Nat} (h:zb0 zg2 w G a l) (hn:xh7 l) (hv:∀ f∈l,f.val.length≤1000000000000) (hl:l.length≤100000000) (size:Int) :
  za0 prog K.yg8 #[.int .i64 size,.slice a l.length c] w fun v w'=>∃ a' c',v= .tuple #[.slice a' (yl0 size l).1.length c',.int .i64 ((yl0 size l).2:Nat)]∧yh5 w.heap.size w' a' c' ((yl0 size l).1.map fun n:Nat=>(n:Int))∧Ext w w':=by
 apply yg8.sh
 suffices H:∀ R:Value→World→Prop,(∀ v w',(∃ a' c',v= .tuple #[.slice a' (yl0 size l).1.length c',.int .i64 ((yl0 size l).2:Nat)]∧yh5 w.heap.size w' a' c' ((yl0 size l).1.map fun n:Nat=>(n:Int))∧Ext w w')→R v w')→yg8.body size a l.length c w R from H _ fun _ _ h=>h
 intro R hR
 unfold yg8.body
 refine (yu2 size w).mono ?_
 rintro _ _ ⟨rfl,rfl⟩
 rename_i w
 have hbd: -1≤zo3 size∧zo3 size≤300:=by
  unfold zo3
  split
  ·rename_i h
   unfold zh0 at h
   simp only [Bool.and_eq_true,decide_eq_true_eq] at h
   omega
  ·omega
 have hroom:IntKind.i64.wrap ((if zh0 size=true then size - 5 else 0) - 1)=zo3 size:=by
  have:zo3 size=(if zh0 size=true then size - 5 else 0) - 1:=rfl
  rw [← this]
  exact w64 (by omega) (by omega)
 refine ⟨_,rfl,?_⟩
 rw [hroom]
 have fail:∀ e,yl0 size l=([],e)→∀ u,Ext w u→R (.tuple #[.slice none 0 0,.int .i64 (e:Nat)]) u:=fun e hc u hu=>hR _ _ (by
  rw [hc]
  exact ⟨none,0,rfl,yh5.nil _ _,hu⟩)
 refine za8 (fun hneg=>fail 2 (by unfold yl0;rw [if_pos hneg]) _ (Upd.refl _ _)) fun hneg=>?_
 refine ⟨fun b x u=>∃ i:Nat,x=i∧i≤l.length∧(l.take i).all mayF=true∧zg6 (l.take i)=true∧b= !((l.take i).all fun f=>decide ((zv3 f:Int)≤zo3 size))∧Ext w u,fun _ x _=>((l.length:Int) - x).toNat,⟨0,rfl,by omega,rfl,rfl,rfl,Upd.refl _ _⟩,?_⟩
 rintro b x u ⟨i,rfl,hi,hmay,hord,rfl,heu⟩
 refine za8 (fun hlt=>?_) fun hge=>?_
 ·have hi':i<l.length:=by omega
  have ew:IntKind.i64.wrap ((i:Int)+1)=((i+1:Nat):Int):=w64 (by omega) (by omega)
  simp only [ew]
  have bad:(mayF l[i]=false∨(0<i∧zl9 l[i - 1].key l[i].key=false))→yl0 size l=([],2):=fun hb=>by
   unfold yl0
   rw [if_neg hneg,if_pos]
   rcases hb with hb | ⟨h0,hb⟩
   ·left
    rw [List.all_eq_false]
    exact ⟨l[i],List.getElem_mem hi',by rw [hb];simp⟩
   ·right
    exact yz5 (n:=i+1) (by rw [xx0 hi' h0,hb];simp)
  have hname:=hn _ (List.getElem_mem hi')
  have hval:=hv _ (List.getElem_mem hi')
  refine ⟨fun b3 u3=>b3=(!((l.take (i+1)).all fun f=>decide ((zv3 f:Int)≤zo3 size)))∧mayF l[i]=true∧zg6 (l.take (i+1))=true∧Ext w u3,zb0.idx (r:=zg2) (h.ext heu) rfl hi' fun b o vs _ hrow hR' _=>?_,?_⟩
  ·obtain ⟨av,cv,rfl,hcv,hbv,_⟩:=zp8 hR'
   refine ⟨_,_,_,_,_,_,_,hrow.cells,zu7 rfl fun B1 w₄ hb4 hs4 e4 g4=>?_⟩
   refine ⟨_,_,_,_,_,_,_,zz3 g4,(xk3 l[i] hname hval).mono ?_⟩
   rintro _ w₅ ⟨rfl,he5⟩
   refine ⟨_,rfl,fun w₆ hd6=>?_⟩
   have e46:=he5.trans hd6.upd
   have g6:=Ext.get e46 g4
   have ew6:=heu.trans (e4.trans e46)
   have hmdef:mayF l[i]=(l[i].key.may && decide (1≤l[i].val.length) && decide (l[i].val.length≤255)):=rfl
   refine ⟨fun v=>Ext w₆ v,Upd.refl _ _,zi1 (fun h0=>⟨Upd.refl _ _,fail 2 (bad (.inl ?_)) _ ew6⟩) fun h0=>?_⟩
   ·cases hm:l[i].key.may with
    | false=>rw [hmdef,hm];rfl
    | true =>
     have:zv3 l[i]=2+(keyB l[i].key).length+l[i].val.length:=by unfold zv3;rw [if_pos hm]
     omega
   have hkm:l[i].key.may=true:=by
    cases hm:l[i].key.may with
    | true=>rfl
    | false=>exact absurd (by unfold zv3;rw [if_neg (by rw [hm];decide)];rfl) h0
   refine ⟨_,_,_,fun v hv=>za2 (Ext.get hv g6) rfl,za8 (fun h1=>⟨Upd.refl _ _,fail 2 (bad (.inl ?_)) _ ew6⟩) fun h1=>?_⟩
   ·rw [hmdef,decide_eq_false (p:=1≤l[i].val.length) (by omega)];simp
   refine ⟨_,_,_,fun v hv=>za2 (Ext.get hv g6) rfl,za8 (fun h2=>⟨Upd.refl _ _,fail 2 (bad (.inl ?_)) _ ew6⟩) fun h2=>?_⟩
   ·rw [hmdef,decide_eq_false (p:=l[i].val.length≤255) (by omega)];simp
   have hm:mayF l[i]=true:=by rw [hmdef,hkm,decide_eq_true (p:=1≤l[i].val.length) (by omega),decide_eq_true (p:=l[i].val.length≤255) (by omega)];rfl
   have hall:=xl5 hi' (fun f=>decide ((zv3 f:Int)≤zo3 size))
   have fin:∀ u',Ext w u'→zg6 (l.take (i+1))=true→br (!((l.take i).all fun f=>decide ((zv3 f:Int)≤zo3 size)))
     (true=(!((l.take (i+1)).all fun f=>decide ((zv3 f:Int)≤zo3 size)))∧mayF l[i]=true∧zg6 (l.take (i+1))=true∧Ext w u')
     (decide ((zv3 l[i]:Int) > zo3 size)=(!((l.take (i+1)).all fun f=>decide ((zv3 f:Int)≤zo3 size)))∧mayF l[i]=true∧zg6 (l.take (i+1))=true∧Ext w u'):=fun u' hu' ho=>by
    rw [hall]
    refine zc0 (fun hb=>⟨?_,hm,ho,hu'⟩) fun hb=>⟨?_,hm,ho,hu'⟩
    ·have hb':((l.take i).all fun f=>decide ((zv3 f:Int)≤zo3 size))=false:=by simpa using hb
     rw [hb'];rfl
    ·have hb':((l.take i).all fun f=>decide ((zv3 f:Int)≤zo3 size))=true:=by simpa using hb
     rw [hb',Bool.true_and]
     by_cases hc:(zv3 l[i]:Int)≤zo3 size
     ·rw [decide_eq_true hc,decide_eq_false (by omega)];rfl
     ·rw [decide_eq_false hc,decide_eq_true (by omega)];rfl
   refine za8 (fun hpos=>?_) fun hzero=>⟨Upd.refl _ _,fin _ ew6 ?_⟩
   ·have ewm:IntKind.i64.wrap ((i:Int) - 1)=((i - 1:Nat):Int):=by rw [w64 (by omega) (by omega)];omega
    rw [ewm]
    have him:i - 1<l.length:=by omega
    refine zb0.idx (r:=zg2) (h.ext ew6) rfl him fun b2 o2 vs2 _ hrow2 hR2 _=>?_
    obtain ⟨_,_,rfl,_,_,_⟩:=zp8 hR2
    refine ⟨_,_,_,_,fun v hv=>(za6.take (hrow2.ext hv) 4).cells,l[i].key.ino,(l[i].key.what.toNat:Int),l[i].key.name,l[i].key.chunk,fun v hv=>xo1 (Ext.get hv g6),(yp3 l[i - 1].key l[i].key w₆).mono ?_⟩
    rintro _ w₇ ⟨rfl,he7⟩
    refine ⟨_,rfl,he7,zc0 (fun hb=>fail 2 (bad (.inr ⟨by omega,by simpa using hb⟩)) _ (ew6.trans he7)) fun hb=>fin _ (ew6.trans he7) ?_⟩
    rw [xx0 hi' (by omega),hord,Bool.true_and]
    simpa using hb
   ·have:i=0:=by omega
    subst this
    exact yz4 (by rw [List.length_take];omega)
  ·rintro b3 w₈ ⟨rfl,hm,ho,he8⟩
   exact ⟨⟨i+1,rfl,hi',by rw [xl5 hi',hmay,hm];rfl,ho,rfl,he8⟩,meas hi'⟩
 ·have hii:i=l.length:=by omega
  subst hii
  rw [List.take_length] at hmay hord ⊢
  refine zc0 (fun hb=>fail 3 ?_ _ heu) fun hb=>?_
  ·unfold yl0
   rw [if_neg hneg,if_neg (by rw [hmay,hord];simp),if_pos (by simpa using hb)]
  have hcut:yl0 size l=(yj1 (zo3 size) 0 0 0 l,0):=by
   unfold yl0
   rw [if_neg hneg,if_neg (by rw [hmay,hord];simp),if_neg (by simpa using hb)]
  rw [hcut] at hR
  have hsu:=heu.size
  refine ⟨fun a5 l5 c5 x16 x17 x18 u=>∃ (i from_ used:Nat) (outs:List Nat),x16=from_∧x17=used∧x18=i∧i≤l.length∧from_≤i∧used≤300 * i∧outs.length≤i∧l5=outs.length∧yh5 w.heap.size u a5 c5 (outs.map fun n:Nat=>(n:Int))∧outs ++ yj1 (zo3 size) i from_ used (l.drop i)=yj1 (zo3 size) 0 0 0 l∧Ext w u,fun _ _ _ _ _ x _=>((l.length:Int) - x).toNat,
   ⟨0,0,0,[],rfl,rfl,rfl,by omega,by omega,by omega,by simp,rfl,yh5.nil _ _,rfl,heu⟩,?_⟩
  rintro a5 l5 c5 x16 x17 x18 u' ⟨i,from_,used,outs,rfl,rfl,rfl,hi,hfi,hui,hoi,rfl,hil,hcg,heu'⟩
  refine za8 (fun hlt=>?_) fun hge=>?_
  ·have hi':i<l.length:=by omega
   have ew:IntKind.i64.wrap ((i:Int)+1)=((i+1:Nat):Int):=w64 (by omega) (by omega)
   simp only [ew]
   have hname:=hn _ (List.getElem_mem hi')
   have hval:=hv _ (List.getElem_mem hi')
   have hmi:mayF l[i]=true:=List.all_eq_true.1 hmay _ (List.getElem_mem hi')
   have hci:=qf8 hmi
   have hsu':=heu'.size
   refine zb0.idx (r:=zg2) (h.ext heu') rfl hi' fun b o vs _ hrow hR' _=>?_
   obtain ⟨av,cv,rfl,hcv,hbv,_⟩:=zp8 hR'
   refine ⟨_,_,_,_,_,_,_,hrow.cells,zu7 rfl fun B1 w₄ hb4 hs4 e4 g4=>?_⟩
   refine ⟨_,_,_,_,_,_,_,zz3 g4,(xk3 l[i] hname hval).mono ?_⟩
   rintro _ w₅ ⟨rfl,he5⟩
   have e5:=e4.trans he5
   have hs5:=e5.size
   have hi5:=hil.ext e5
   have ed:l.drop i=l[i] :: l.drop (i+1):=List.drop_eq_getElem_cons hi'
   have w0:IntKind.i64.wrap ((0:Int)+(zv3 l[i]:Nat))=((zv3 l[i]:Nat):Int):=by rw [w64 (by omega) (by omega)];omega
   have w1:IntKind.i64.wrap ((used:Int)+(zv3 l[i]:Nat))=((used+zv3 l[i]:Nat):Int):=by rw [w64 (by omega) (by omega)];omega
   have w2:IntKind.i64.wrap ((i:Int) - (from_:Int))=((i - from_:Nat):Int):=by rw [w64 (by omega) (by omega)];omega
   refine ⟨_,rfl,?_⟩
   rw [w0,w1,w2]
   have push:(i=0∨zo3 size<((used+zv3 l[i]:Nat):Int)∨i - from_=255)→∀ (B:Nat) (w₁₃:World),New w₅ (.cells #[Value.int .i64 (i:Int)] T.int) B w₁₃→zb5 T.int 1 8 [Value.int .i64 0] a5 outs.length c5 (.slice (some ⟨B,0,none⟩) 1 1) w₁₃ fun a8 l8 c8 w₁₄ =>
     (∃ (k f' u'':Nat) (outs':List Nat),((i:Nat):Int)=f'∧((zv3 l[i]:Nat):Int)=u''∧((i+1:Nat):Int)=k∧k≤l.length∧f'≤k∧u''≤300 * k∧outs'.length≤k∧l8=outs'.length∧yh5 w.heap.size w₁₄ a8 c8 (outs'.map fun n:Nat=>(n:Int))∧outs' ++ yj1 (zo3 size) k f' u'' (l.drop k)=yj1 (zo3 size) 0 0 0 l∧Ext w w₁₄)∧
      ((l.length:Int) - ((i+1:Nat):Int)).toNat<((l.length:Int) - (i:Int)).toNat:=fun hc B w₁₃ hn13=>by
    refine yh5.pushX (G:=NoB) (l:=outs.map fun n:Nat=>(n:Int)) hi5 (fun _ _ h=>h) (fun _ h=>h.elim) (by rw [List.length_map]) hn13 (by rw [List.length_map];omega) (by omega) fun a' c' w₁₄ hu14 hl14 _=>?_
    refine ⟨⟨i+1,i,zv3 l[i],outs ++ [i],rfl,rfl,rfl,hi',by omega,by omega,by simp;omega,by simp,by simpa using hl14,?_,(heu'.trans e5).beyond hu14 fun x hx=>hx.1⟩,meas hi'⟩
    rw [← hcg,ed]
    conv=>rhs;unfold yj1
    rw [if_pos hc,List.append_assoc];rfl
   refine zi1 (fun h0=>push (.inl (by omega))) fun h0=>za8 (fun hgt=>push (.inr (.inl (by omega)))) fun hle=>zi1 (fun h255=>push (.inr (.inr (by omega)))) fun h255=>?_
   refine ⟨⟨i+1,from_,used+zv3 l[i],outs,rfl,rfl,rfl,hi',by omega,by omega,by omega,rfl,hi5,?_,heu'.trans e5⟩,meas hi'⟩
   rw [← hcg,ed]
   conv=>rhs;unfold yj1
   rw [if_neg (by omega)]
  ·have hii:i=l.length:=by omega
   subst hii
   rw [List.drop_length] at hcg
   have:outs=yj1 (zo3 size) 0 0 0 l:=by rw [← hcg];simp [yj1]
   subst this
   exact hR _ _ ⟨a5,c5,rfl,hil,heu'⟩
theorem vf8 {l:List Fact} {w:World} {G:Nat→Prop} {a:Option Addr} {c:Nat} (h:zb0 zg2 w G a l) (hG:∀ b,G b→b<w.heap.size) (hn:xh7 l) (hv:∀ f∈l,f.val.length≤1000000000000) (hl:l.length≤100000000) (size:Int) :
  za0 prog K.yd4 #[.int .i64 size,.slice a l.length c] w fun v w'=>∃ a' c',v= .tuple #[.slice a' (yo4 size l).1.length c',.int .i64 ((yo4 size l).2:Nat)]∧zb4 xh2 NoB w.heap.size w' a' c' T.zu0 (yo4 size l).1∧Ext w w':=by
 apply yd4.sh
 suffices H:∀ R:Value→World→Prop,(∀ v w',(∃ a' c',v= .tuple #[.slice a' (yo4 size l).1.length c',.int .i64 ((yo4 size l).2:Nat)]∧zb4 xh2 NoB w.heap.size w' a' c' T.zu0 (yo4 size l).1∧Ext w w')→R v w')→yd4.body size a l.length c w R from H _ fun _ _ h=>h
 intro R hR
 unfold yd4.body
 refine (vm8 h hn hv hl size).mono ?_
 have hpk:yo4 size l=if (yl0 size l).2≠0 then ([],(yl0 size l).2) else zx2 size l (yl0 size l).1 []:=rfl
 have hcs:(yl0 size l).1.Pairwise (· < ·)∧∀ x∈(yl0 size l).1,x<l.length:=by
  unfold yl0
  split
  ·exact ⟨List.Pairwise.nil,fun _ h=>by cases h⟩
  ·split
   ·exact ⟨List.Pairwise.nil,fun _ h=>by cases h⟩
   ·split
    ·exact ⟨List.Pairwise.nil,fun _ h=>by cases h⟩
    ·obtain ⟨h1,h2⟩:=xg4 (zo3 size) l 0 0 0
     exact ⟨h1,fun x hx=>by have:=h2 x hx;omega⟩
 rw [hpk] at hR
 generalize yl0 size l=cu at *
 rintro _ w₁ ⟨a1,c1,rfl,hi1,he1⟩
 have hs1:=he1.size
 have fail:∀ e,(if cu.2≠0 then ([],cu.2) else zx2 size l cu.1 [])=([],e)→∀ u,Ext w u→R (.tuple #[.slice none 0 0,.int .i64 (e:Nat)]) u:=fun e hc u hu=>hR _ _ (by
  rw [hc]
  exact ⟨none,0,rfl,zb4.nil _ _,hu⟩)
 refine ⟨_,_,_,_,rfl,zg8 (fun hne=>fail _ (by rw [if_pos (by omega)]) _ he1) fun h0=>?_⟩
 rw [if_neg (by omega)] at hR fail
 obtain ⟨cuts,e0⟩:=cu
 simp only at hcs hi1 hR fail ⊢
 refine ⟨fun a2 l2 c2 x u=>∃ i:Nat,x=i∧i≤l.length∧l2=((l.take i).map ze4).length∧zb4 zc4 G w₁.heap.size u a2 c2 T.zc9 ((l.take i).map ze4)∧Ext w₁ u,fun _ _ _ x _=>((l.length:Int) - x).toNat,
  ⟨0,rfl,by omega,rfl,zb4.nil _ _,Upd.refl _ _⟩,?_⟩
 rintro a2 l2 c2 x u ⟨i,rfl,hi,rfl,hls,heu⟩
 have hsu:=heu.size
 refine za8 (fun hlt=>?_) fun hge=>?_
 ·have hi':i<l.length:=by omega
  have ew:IntKind.i64.wrap ((i:Int)+1)=((i+1:Nat):Int):=w64 (by omega) (by omega)
  simp only [ew]
  refine zb0.idx (r:=zg2) (h.ext (he1.trans heu)) rfl hi' fun b o vs _ hrow hR' _=>?_
  obtain ⟨av,cv,rfl,hcv,hbv,hgv⟩:=zp8 hR'
  refine ⟨_,_,_,_,_,_,_,hrow.cells,zu7 rfl fun B1 w₄ hb4 hs4 e4 g4=>?_⟩
  refine ⟨l[i].key.ino,(l[i].key.what.toNat:Int),l[i].key.name,l[i].key.chunk,xo1 g4,_,_,_,za2 g4 rfl,fun B2 w₅ hn5=>?_⟩
  have hs5:=hn5.size
  have hts:(l.take (i+1)).map ze4=(l.take i).map ze4 ++ [ze4 l[i]]:=by rw [List.take_succ_eq_append_getElem hi',List.map_append];rfl
  have hlen:((l.take i).map ze4).length=i:=by simp;omega
  refine zb4.push (r:=zc4) (H:=G) (x:=ze4 l[i]) ((hls.ext e4).ext hn5.upd) (zx5 (x:=ze4 l[i]) hcv (hbv.ext (e4.trans hn5.upd)) hgv) (fun b hb=>⟨.inr hb,by have:=hG b hb;omega,fun hab=>?_⟩) hn5 rfl rfl (by omega) (by omega) (by omega) fun a' c' w₆ hu6 hl6=>?_
  ·obtain ⟨_,_,_,h3⟩:=hls
   have:=(h3 b hab).1
   have:=hG b hb
   omega
  ·rw [← hts] at hl6 ⊢
   exact ⟨⟨i+1,rfl,hi',rfl,hl6,Ext.own ((heu.trans e4).trans hn5.upd) hu6 (Nat.le_refl _)⟩,meas hi'⟩
 ·have hii:i=l.length:=by omega
  subst hii
  rw [List.take_length] at hls ⊢
  have eu:=he1.trans heu
  have hcl:cuts.length≤l.length:=by
   have key:∀ (cs:List Nat) (n lo:Nat),cs.Pairwise (· < ·)→(∀ x∈cs,lo≤x∧x<n)→lo≤n→cs.length≤n - lo:=by
    intro cs
    induction cs with
    | nil=>intro n lo _ _ _;simp
    | cons x cs ih =>
     intro n lo hp hx hlo
     obtain ⟨h1,h2⟩:=List.pairwise_cons.1 hp
     have hx0:=hx x (by simp)
     have:=ih n (x+1) h2 (fun y hy=>⟨by have:=h1 y hy;omega,(hx y (by simp [hy])).2⟩) (by omega)
     simp
     omega
   have:=key cuts l.length 0 hcs.1 (fun x hx=>⟨by omega,hcs.2 x hx⟩) (by omega)
   omega
  refine ⟨fun a6 l6 c6 x v=>∃ (k:Nat) (outs:List (List UInt8)),x=k∧k≤cuts.length∧outs.length=k∧l6=outs.length∧zb4 xh2 NoB u.heap.size v a6 c6 T.zu0 outs∧zx2 size l (cuts.drop k) outs=zx2 size l cuts []∧Ext u v,fun _ _ _ x _=>((cuts.length:Int) - x).toNat,
   ⟨0,[],rfl,by omega,rfl,rfl,zb4.nil _ _,rfl,Upd.refl _ _⟩,?_⟩
  rintro a6 l6 c6 x v ⟨k,outs,rfl,hk,hok,rfl,hlo,hpg,hev⟩
  have hsv:=hev.size
  refine za8 (fun hltk=>?_) fun hgek=>?_
  ·have hk':k<cuts.length:=by omega
   have ewk:IntKind.i64.wrap ((k:Int)+1)=((k+1:Nat):Int):=w64 (by omega) (by omega)
   simp only [ewk]
   have hed:cuts.drop k=cuts[k] :: cuts.drop (k+1):=List.drop_eq_getElem_cons hk'
   have hrowc:za6 v a1 (cuts.map fun n:Nat=>Value.int .i64 (n:Int)):=by
    have:=(hi1.ext (heu.trans hev)).1.row
    rwa [List.map_map] at this
   have hck:=hcs.2 _ (List.getElem_mem hk')
   obtain ⟨b',o',hab,hcell⟩:=hrowc.cell (i:=k) (v:=.int .i64 (cuts[k]:Nat)) (by simp [hk'])
   subst hab
   refine ⟨by omega,by omega,?_⟩
   simp only [nilC_some',add_lit,Nat.mul_one,Int.toNat_natCast]
   refine ⟨_,hcell,?_⟩
   obtain ⟨b2,hb2⟩: ∃ b2,a2=some ⟨b2,0,none⟩:=by
    obtain ⟨_,⟨_,⟨_,_,hx⟩,_⟩,_⟩:=hls
    rcases hx with ⟨_,h0,_⟩| ⟨b2,_,hx,_⟩
    ·rw [List.length_map] at h0;omega
    ·exact ⟨b2,hx⟩
   subst hb2
   have hcap:=hls.cap
   rw [List.length_map] at hcap
   obtain ⟨G2,hG2,hG2'⟩:=(hls.ext hev).slice
   have one:∀ to:Nat,cuts[k]<to→to≤l.length→zx2 size l (cuts.drop k) outs=(if (putL size (((l.take to).drop cuts[k]).map ze4)).2≠0 then ([],(putL size (((l.take to).drop cuts[k]).map ze4)).2) else zx2 size l (cuts.drop (k+1)) (outs ++ [(putL size (((l.take to).drop cuts[k]).map ze4)).1]))→
     zi0 6 (some ⟨b2,0,none⟩) (l.map ze4).length c2 (some ((cuts[k]:Nat):Int)) (some ((to:Nat):Int)) (some ((to:Nat):Int)) fun a7 l7 c7=>za0 prog K.yl9 #[.int .i64 size,.slice a7 l7 c7] v fun v2 w8=>∃ (a8:Option Addr) (l8 c8:Nat),∃ x12:Int,v2= .tuple #[.slice a8 l8 c8,.int .i64 x12]∧
      br (x12 != 0) (R (.tuple #[.slice none 0 0,.int .i64 x12]) w8) (∀ (B3:Nat) (w9:World),New w8 (.cells #[.slice a8 l8 c8] T.zu0) B3 w9→
       zb5 T.zu0 1 24 [.slice none 0 0] a6 outs.length c6 (.slice (some ⟨B3,0,none⟩) 1 1) w9 fun a9 l9 c9 w10=>(∃ (k':Nat) (outs:List (List UInt8)),((k+1:Nat):Int)=k'∧k'≤cuts.length∧outs.length=k'∧l9=outs.length∧zb4 xh2 NoB u.heap.size w10 a9 c9 T.zu0 outs∧zx2 size l (cuts.drop k') outs=zx2 size l cuts []∧Ext u w10)∧
        ((cuts.length:Int) - ((k+1:Nat):Int)).toNat<((cuts.length:Int) - (k:Int)).toNat):=by
    intro to hto htl hstep
    rw [List.length_map]
    refine zw7 (lo:=cuts[k]) (hi:=to) (mx:=to) rfl rfl rfl (by omega) (by omega) (by omega) (fun _=>rfl) fun a7 ha7=>?_
    have ha7:a7=some ⟨b2,cuts[k] * 6,none⟩:=by
     rcases ha7 with h | ⟨h,_⟩
     ·exact h
     ·omega
    subst ha7
    have hsl:=(hG2.take to).drop cuts[k]
    have hk6:zc4.k=6:=rfl
    rw [hk6,Nat.zero_add,← List.map_take,← List.map_drop] at hsl
    have hll:(((l.take to).drop cuts[k]).map ze4).length=to - cuts[k]:=by simp;omega
    have hput:=xw3 (c:=to - cuts[k]) hsl (fun x hx=>by
     obtain ⟨f,hf,rfl⟩:=List.mem_map.1 hx
     exact hn f (List.mem_of_mem_take (List.mem_of_mem_drop hf))) (by rw [hll];omega) size
    rw [hll] at hput
    refine hput.mono ?_
    rw [hpg] at hstep
    generalize putL size (((l.take to).drop cuts[k]).map ze4)=pr at *
    rintro _ w8 ⟨a8,c8,rfl,hb8,hf8,he8,hc8⟩
    have hs8:=he8.size
    refine ⟨_,_,_,_,rfl,zg8 (fun hne=>fail _ (by rw [hstep,if_pos (by omega)]) _ (eu.trans (hev.trans he8))) fun hz=>?_⟩
    rw [if_neg (by omega)] at hstep
    intro B3 w9 hn9
    have hs9:=hn9.size
    refine zb4.push (r:=xh2) (H:=fun b=>∃ p:Addr,a8=some p∧p.block=b∧pr.1≠[]) (x:=pr.1) ((hlo.ext he8).ext hn9.upd) ⟨a8,c8,rfl,hc8,hb8.ext hn9.upd,fun hne p hp=>⟨p,hp,rfl,hne⟩⟩ (fun b hb=>?_) hn9 rfl rfl (by omega) (by omega) (by omega) fun a' c' w10 hu10 hl10=>?_
    ·obtain ⟨q,hq,rfl,hne⟩:=hb
     have h1:v.heap.size≤q.block:=hf8 q hq
     obtain ⟨b',o',hab',hlt'⟩:=za6.blk hb8 (by simpa using hne)
     rw [hq] at hab'
     cases hab'
     refine ⟨.inl (by show u.heap.size≤b';have:v.heap.size≤b':=h1;omega),by show b' < _;omega,fun hab=>?_⟩
     have:=hlo.lt hab
     have h1':v.heap.size≤b':=h1
     have:b' < v.heap.size:=this
     omega
    ·exact ⟨⟨k+1,outs ++ [pr.1],rfl,hk',by simp [hok],rfl,hl10,hstep.symm,Ext.own ((hev.trans he8).trans hn9.upd) hu10 (by omega)⟩,meas hk'⟩
   refine za8 (fun hlt2=>?_) fun hge2=>?_
   ·have hk2:k+1<cuts.length:=by omega
    obtain ⟨b3,o3,hab3,hcell3⟩:=hrowc.cell (i:=k+1) (v:=.int .i64 (cuts[k+1]:Nat)) (by simp [hk2])
    cases hab3
    refine ⟨by omega,by omega,?_⟩
    simp only [nilC_some',add_lit,Nat.mul_one,Int.toNat_natCast]
    refine ⟨_,hcell3,one cuts[k+1] ?_ (by have:=hcs.2 _ (List.getElem_mem hk2);omega) ?_⟩
    ·exact List.pairwise_iff_getElem.1 hcs.1 k (k+1) hk' hk2 (by omega)
    ·have hed2:cuts.drop (k+1)=cuts[k+1] :: cuts.drop (k+2):=List.drop_eq_getElem_cons hk2
     rw [hed]
     conv=>lhs;unfold zx2
     rw [hed2]
   ·refine one l.length hck (Nat.le_refl _) ?_
    have hed2:cuts.drop (k+1)=[]:=List.drop_eq_nil_of_le (by omega)
    rw [hed]
    conv=>lhs;unfold zx2
    rw [hed2]
  ·have hkk:k=cuts.length:=by omega
   subst hkk
   rw [List.drop_length] at hpg
   have hfin:zx2 size l cuts []=(outs,0):=by rw [← hpg];rfl
   rw [hfin] at hR
   exact hR _ _ ⟨a6,c6,rfl,hlo.weak eu.size (fun _ h=>h.elim),eu.trans hev⟩
theorem xw1 {c:Chip} (hd0:c.dead=false):∀ n,n≤c.nb→(zl7 c n).blocks.length=c.nb∧(∀ i,i<n→(zl7 c n).blk i=view c i)
 | 0,_=>⟨by simp [zl7],fun i hi=>by omega⟩
 | n+1,hn=>by
  obtain ⟨h1,h2⟩:=xw1 hd0 n (by omega)
  have hb:∀ i,i<n+1→((zl7 c n).relook c n).blk i=view c i:=by
   intro i hi
   unfold Pool.relook
   rw [xi3 (by omega),xa1,hd0]
   by_cases e:i=n
   ·rw [if_pos e,e];rfl
   ·rw [if_neg e];exact h2 i (by omega)
  have hl:((zl7 c n).relook c n).blocks.length=c.nb:=by
   show ((zl7 c n).blocks.set n _).length=_
   rw [List.length_set];exact h1
  rw [zl7]
  split
  ·exact ⟨hl,hb⟩
  ·exact ⟨hl,hb⟩
def tkey (t:zb7):Nat:=t.head.seq * 64+t.block
theorem uv4 {a b:zb7} (ha:a.block<64) (hb:b.block<64):zh1 a b=true ↔ tkey a<tkey b:=by
 unfold zh1 tkey
 simp only [Bool.or_eq_true,Bool.and_eq_true,decide_eq_true_eq]
 constructor
 ·rintro (h | ⟨h1,h2⟩)<;>omega
 ·intro h
  by_cases e:a.head.seq<b.head.seq
  ·exact .inl e
  ·refine .inr ⟨?_,?_⟩<;>omega
theorem uw0 {x:zb7} (hx:x.block<64):∀ {l:List zb7},(∀ y∈l,y.block<64)→l.Pairwise (fun a b=>tkey b<tkey a)→(∀ y∈l,tkey y≠tkey x)→(sink zh1 x l).Pairwise (fun a b=>tkey b<tkey a)
 | [],_,_,_=>by simp [sink]
 | y :: l,hb,hl,hx'=>by
  obtain ⟨l1,l2⟩:=List.pairwise_cons.1 hl
  have hyx:=hx' y (by simp)
  have hyb:=hb y (by simp)
  unfold sink
  split
  ·rename_i hlt
   have hxy:=(uv4 hx hyb).1 hlt
   refine List.pairwise_cons.2 ⟨fun z hz=>?_,uw0 hx (fun z hz=>hb z (by simp [hz])) l2 fun z hz=>hx' z (by simp [hz])⟩
   rcases (xi2 zh1 x z l).1 hz with rfl | hz
   ·exact hxy
   ·exact l1 z hz
  ·rename_i hlt
   have hxy:tkey y<tkey x:=by
    have:¬ tkey x<tkey y:=fun h=>hlt ((uv4 hx hyb).2 h)
    omega
   refine List.pairwise_cons.2 ⟨fun z hz=>?_,hl⟩
   rcases List.mem_cons.1 hz with rfl | hz
   ·exact hxy
   ·have:=l1 z hz;omega
theorem qf4 {l:List zb7} (hb:∀ y∈l,y.block<64) (h:l.Pairwise (fun a b=>tkey a≠tkey b)):(yx1 zh1 l).Pairwise (fun a b=>tkey a<tkey b):=by
 unfold yx1
 rw [List.pairwise_reverse]
 have key:∀ (l acc:List zb7),(∀ y∈l,y.block<64)→(∀ y∈acc,y.block<64)→acc.Pairwise (fun a b=>tkey b<tkey a)→l.Pairwise (fun a b=>tkey a≠tkey b)→(∀ a∈acc,∀ b∈l,tkey a≠tkey b)→(l.foldl (fun acc x=>sink zh1 x acc) acc).Pairwise (fun a b=>tkey b<tkey a):=by
  intro l
  induction l with
  | nil=>intro acc _ _ ha _ _;exact ha
  | cons x l ih =>
   intro acc hbl hba ha hl hx
   obtain ⟨l1,l2⟩:=List.pairwise_cons.1 hl
   rw [List.foldl_cons]
   have hxb:=hbl x (by simp)
   refine ih _ (fun y hy=>hbl y (by simp [hy])) (fun y hy=>?_) (uw0 hxb hba ha fun y hy=>hx y hy x (by simp)) l2 fun a ha' b hb=>?_
   ·rcases (xi2 zh1 x y acc).1 hy with rfl | hy
    ·exact hxb
    ·exact hba y hy
   ·rcases (xi2 zh1 x a acc).1 ha' with rfl | ha'
    ·exact l1 b hb
    ·exact hx a ha' b (by simp [hb])
 exact key l [] hb (by simp) List.Pairwise.nil h fun a ha=>by simp at ha
theorem xo8 {P:Pool} {c:Chip} (hk:∀ i,i<c.nb→P.blk i=view c i) {n:Nat} (hn:n≤c.nb) (t:zb7):t∈zt0 P c n ↔ yg2 c n t:=by
 have hw:∀ i,i<c.nb→((P.blk i).what=2 ↔ isHd c i):=fun i hi=>by rw [hk i hi];exact vy1 c i
 unfold zt0 yg2
 rw [List.mem_filterMap]
 constructor
 ·rintro ⟨i,hi,e⟩
  have hi':i<n:=by simpa using hi
  split at e
  ·rename_i hw'
   cases e
   have hh:=(hw i (by omega)).1 hw'
   refine ⟨hi',hh,?_,rfl⟩
   rw [hk i (by omega),yy9 hh]
  ·cases e
 ·rintro ⟨h1,h2,h3,h4⟩
  refine ⟨t.block,by simpa using h1,?_⟩
  rw [if_pos ((hw _ (by omega)).2 h2)]
  obtain ⟨b,hh,bad⟩:=t
  simp only [] at h1 h2 h3 h4 ⊢
  rw [hk b (by omega),yy9 h2,h3,h4]
theorem xc7 {P:Pool} {c:Chip} (hk:∀ i,i<c.nb→P.blk i=view c i) (hnb:c.nb≤64):∀ n,n≤c.nb→(zt0 P c n).Pairwise (fun a b=>tkey a≠tkey b)
 | 0,_=>by simp [zt0]
 | n+1,hn=>by
  rw [yq4]
  rw [List.pairwise_append]
  refine ⟨xc7 hk hnb n (by omega),?_,fun a ha b hb=>?_⟩
  ·split<;>simp
  ·obtain ⟨a1,a2,a3,_⟩:=(xo8 hk (by omega) a).1 ha
   have hbn:b.block=n:=by
    split at hb
    ·simp at hb;rw [hb]
    ·simp at hb
   unfold tkey
   omega
theorem uo8 {t:zb7} (ht:t.block<64):∀ {l:List zb7},(∀ y∈l,y.block<t.block)→l.Pairwise (fun a b=>tkey a<tkey b)→(xr5 t l).Pairwise (fun a b=>tkey a<tkey b)
 | [],_,_=>by simp [xr5,ui4]
 | y :: l,hb,hl=>by
  obtain ⟨l1,l2⟩:=List.pairwise_cons.1 hl
  have hyb:=hb y (by simp)
  rw [xu6]
  split
  ·refine List.pairwise_cons.2 ⟨fun z hz=>?_,uo8 ht (fun z hz=>hb z (by simp [hz])) l2⟩
   rcases (xf5 t z l).1 hz with rfl | hz
   ·unfold tkey;omega
   ·exact l1 z hz
  ·refine List.pairwise_cons.2 ⟨fun z hz=>?_,hl⟩
   rcases List.mem_cons.1 hz with rfl | hz
   ·unfold tkey;omega
   ·have:=l1 z hz
    unfold tkey at this ⊢;omega
theorem vk6 {c:Chip} (h:c.Ok) (hd0:c.dead=false):∀ n,n≤c.nb→(∀ t,t∈yf2 c n ↔ yg2 c n t)∧(yf2 c n).Pairwise (fun a b=>tkey a<tkey b)
 | 0,_=>⟨fun t=>by simp [yf2,yg2],by simp [yf2]⟩
 | n+1,hn=>by
  obtain ⟨h1,h2⟩:=vk6 h hd0 n (by omega)
  have hr:=xi7 h hd0 (i:=n) (by omega)
  have hnb:=h.nb2
  rw [yf2,hr]
  simp only [decide_eq_true_eq]
  split
  ·rename_i hh
   refine ⟨fun t=>?_,uo8 (by show n<64;omega) (fun y hy=>((h1 y).1 hy).1) h2⟩
   rw [xf5,h1]
   constructor
   ·rintro (rfl | ⟨a,b⟩)
    ·exact ⟨Nat.lt_succ_self _,hh,rfl,rfl⟩
    ·exact ⟨by omega,b⟩
   ·rintro ⟨a,b,d,e⟩
    by_cases hb:t.block=n
    ·left
     obtain ⟨tb,th,tbad⟩:=t
     simp only [] at hb d e
     subst hb
     rw [d,e]
    ·exact .inr ⟨by omega,b,d,e⟩
  ·rename_i hh
   refine ⟨fun t=>?_,h2⟩
   rw [h1]
   constructor
   ·rintro ⟨a,b⟩;exact ⟨by omega,b⟩
   ·rintro ⟨a,b,d⟩
    have:t.block≠n:=fun e=>hh (e ▸ b)
    exact ⟨by omega,b,d⟩
theorem xt2 {c:Chip} (h:c.Ok) (hd0:c.dead=false):zc1 (zh5 c) c=zc5 c:=by
 obtain ⟨h1,h2⟩:=vk6 h hd0 c.nb (Nat.le_refl _)
 have hk:=(xw1 hd0 c.nb (Nat.le_refl _)).2
 have hnb:=h.nb2
 have hm:∀ t,t∈zc1 (zh5 c) c ↔ yg2 c c.nb t:=fun t=>by
  unfold zc1
  rw [yx0]
  exact xo8 hk (Nat.le_refl _) t
 refine yw2 (f:=tkey) ?_ h2 fun t=>by rw [hm];exact (h1 t).symm
 exact qf4 (fun y hy=>by have:=((xo8 hk (Nat.le_refl _) y).1 hy).1;omega) (xc7 hk hnb _ (Nat.le_refl _))
theorem vp7 (era:Nat):yo5 1 era=ys8 era:=rfl
theorem vm1 {c:Chip} (h:c.Ok) (hd0:c.dead=false):∀ x∈zc5 c,x.block<c.nb:=by
 intro x hx
 rw [← xt2 h hd0] at hx
 unfold zc1 at hx
 rw [yx0] at hx
 exact ym6 hx
theorem vz1 {c:Chip} (h:c.Ok) (hd0:c.dead=false):(zc5 c).length≤c.nb:=by
 rw [← xt2 h hd0]
 unfold zc1
 rw [yb6]
 exact zs9 _ _ _
structure RefL (c:Chip) (L:List zb7):Prop where
 blk:∀ x∈L,x.block<c.nb
 len:L.length≤64
theorem refL {c:Chip} (h:c.Ok) (hd0:c.dead=false) (era:Nat):RefL c ((zc5 c).filter (ys8 era)):=by
 refine ⟨fun x hx=>vm1 h hd0 x (List.mem_filter.1 hx).1,?_⟩
 have:=List.length_filter_le (ys8 era) (zc5 c)
 have:=vz1 h hd0
 have:=h.nb2
 omega
theorem xa0 {α β:Type} (f:α→β) {l:List α} {i:Nat} (hi:i<l.length):(l.take (i+1)).map f=(l.take i).map f ++ [f l[i]]:=by
 rw [List.take_succ_eq_append_getElem hi,List.map_append];rfl
theorem xd0 {F:Nat→Prop} {A:Nat} {w:World} {p:Nat} {c:Chip} (h:CIn F A w p c) (hd0:c.dead=false) (era:Nat) :
  za0 prog K.zl3 #[.pointer (some ⟨p,0,none⟩),.int .u32 era] w fun v w'=>v= .int .u64 (lowL (partsL c era (zc5 c)):Nat)∧Ext w w':=by
 apply zl3.sh
 suffices H:∀ R:Value→World→Prop,(∀ v w',v= .int .u64 (lowL (partsL c era (zc5 c)):Nat)∧Ext w w'→R v w')→zl3.body (some ⟨p,0,none⟩) era w R from H _ fun _ _ h=>h
 intro R hR
 unfold zl3.body
 refine (yq1 h 1 era).mono ?_
 rw [vp7]
 have hL:=refL h.ok hd0 era
 change ∀ v w',v= .int .u64 (lowL (((zc5 c).filter (ys8 era)).map (zu2 c)):Nat)∧Ext w w'→R v w' at hR
 generalize (zc5 c).filter (ys8 era)=L at *
 rintro _ w₁ ⟨he1,a1,c1,rfl,ho1,hf1⟩
 have hlen:=hL.len
 refine ⟨_,_,_,rfl,fun x y u=>∃ i:Nat,y=i∧i≤L.length∧x=(lowL ((L.take i).map (zu2 c)):Nat)∧Ext w₁ u,fun _ y _=>((L.length:Int) - y).toNat,⟨0,rfl,by omega,rfl,Upd.refl _ _⟩,?_⟩
 rintro x y u ⟨i,rfl,hi,rfl,heu⟩
 refine za8 (fun hlt=>?_) fun hge=>?_
 ·have hi':i<L.length:=by omega
  have ew:IntKind.i64.wrap ((i:Int)+1)=((i+1:Nat):Int):=w64 (by omega) (by omega)
  simp only [ew]
  have hb:=hL.blk _ (List.getElem_mem hi')
  refine zx3 (f:=zb7.vals) zb7.vals_length (by omega) (ho1.row.ext heu) rfl hi' fun b o hab hr=>?_
  refine ⟨_,(by have:=hr.cells;exact this.1),(yk6 (h.ext (he1.trans heu)) hd0 hb).mono ?_⟩
  rintro _ w₃ ⟨a2,c2,rfl,hl2,he3⟩
  have hsucc:lowL ((L.take (i+1)).map (zu2 c))=lowP (lowL ((L.take i).map (zu2 c))) (zk1 c L[i].block):=by rw [xa0 _ hi',xq8];rfl
  have hpl:=zz8 c L[i].block c.np
  have hnp:=h.ok.np2
  change (zk1 c L[i].block).length≤c.np at hpl
  generalize zk1 c L[i].block=pg at *
  obtain ⟨G2,hG2,_⟩:=hl2.slice
  refine ⟨_,_,_,rfl,fun x4 x5 v=>∃ k:Nat,x5=k∧k≤pg.length∧x4=(lowP (lowL ((L.take i).map (zu2 c))) (pg.take k):Nat)∧Ext w₃ v,fun _ x5 _=>((pg.length:Int) - x5).toNat,⟨0,rfl,by omega,rfl,Upd.refl _ _⟩,?_⟩
  rintro x4 x5 v ⟨k,rfl,hk,rfl,hev⟩
  refine za8 (fun hltk=>?_) fun hgek=>?_
  ·have hk':k<pg.length:=by omega
   have ewk:IntKind.i64.wrap ((k:Int)+1)=((k+1:Nat):Int):=w64 (by omega) (by omega)
   refine zb0.idx (r:=yu4) (hG2.ext hev) rfl hk' fun b2 o2 vs2 _ hrow2 hR2 _=>?_
   obtain ⟨_,_,rfl,_,_⟩:=xj0 hR2
   simp only [add_lit]
   refine ⟨_,xi5 hrow2 (j:=2) rfl,?_⟩
   rw [ewk,qg8]
   exact ⟨⟨k+1,rfl,hk',by rw [uc0 _ hk'],hev⟩,meas hk'⟩
  ·have hkk:k=pg.length:=by omega
   subst hkk
   rw [List.take_length]
   exact ⟨⟨i+1,rfl,hi',by rw [hsucc],(heu.trans he3).trans hev⟩,meas hi'⟩
 ·have hii:i=L.length:=by omega
  subst hii
  rw [List.take_length]
  exact hR _ _ ⟨rfl,he1.trans heu⟩
theorem yy1 {F:Nat→Prop} {A:Nat} {w:World} {p:Nat} {c:Chip} (h:CIn F A w p c) (hd0:c.dead=false) (era:Nat) :
  za0 prog K.zj1 #[.pointer (some ⟨p,0,none⟩),.int .u32 era] w fun v w'=>∃ a ca b cb,v= .tuple #[.slice a (yk5 (lowL (partsL c era (zc5 c))) (partsL c era (zc5 c))).length ca,.slice b (xc5 (lowL (partsL c era (zc5 c))) (partsL c era (zc5 c))).length cb]∧
   yh5 w.heap.size w' a ca (yk5 (lowL (partsL c era (zc5 c))) (partsL c era (zc5 c)))∧yh5 w.heap.size w' b cb (xc5 (lowL (partsL c era (zc5 c))) (partsL c era (zc5 c)))∧Ext w w':=by
 apply zj1.sh
 suffices H:∀ R:Value→World→Prop,(∀ v w',(∃ a ca b cb,v= .tuple #[.slice a (yk5 (lowL (partsL c era (zc5 c))) (partsL c era (zc5 c))).length ca,.slice b (xc5 (lowL (partsL c era (zc5 c))) (partsL c era (zc5 c))).length cb]∧
   yh5 w.heap.size w' a ca (yk5 (lowL (partsL c era (zc5 c))) (partsL c era (zc5 c)))∧yh5 w.heap.size w' b cb (xc5 (lowL (partsL c era (zc5 c))) (partsL c era (zc5 c)))∧Ext w w')→R v w')→zj1.body (some ⟨p,0,none⟩) era w R from H _ fun _ _ h=>h
 intro R hR
 unfold zj1.body
 refine (xd0 h hd0 era).mono ?_
 rintro _ w₁ ⟨rfl,he1⟩
 generalize lowL (partsL c era (zc5 c))=low at *
 refine ⟨_,rfl,(yq1 (h.ext he1) 1 era).mono ?_⟩
 rw [vp7]
 have hL:=refL h.ok hd0 era
 have hpl:partsL c era (zc5 c)=((zc5 c).filter (ys8 era)).map (zu2 c):=rfl
 rw [hpl] at hR
 generalize (zc5 c).filter (ys8 era)=L at *
 clear hpl
 rintro _ w₂ ⟨he2,a1,c1,rfl,ho1,hf1⟩
 have hlen:=hL.len
 have e2:=he1.trans he2
 have hs2:=e2.size
 refine ⟨_,_,_,rfl,fun a2 l2 c2 a3 l3 c3 x u=>∃ i:Nat,x=i∧i≤L.length∧l2=(yk5 low ((L.take i).map (zu2 c))).length∧l3=(xc5 low ((L.take i).map (zu2 c))).length∧yh5 w₂.heap.size u a2 c2 (yk5 low ((L.take i).map (zu2 c)))∧yh5 w₂.heap.size u a3 c3 (xc5 low ((L.take i).map (zu2 c)))∧(∀ b,a2=some ⟨b,0,none⟩→a3≠some ⟨b,0,none⟩)∧Ext w₂ u,fun _ _ _ _ _ _ x _=>((L.length:Int) - x).toNat,
  ⟨0,rfl,by omega,rfl,rfl,yh5.nil _ _,yh5.nil _ _,fun _ h=>by (cases h),Upd.refl _ _⟩,?_⟩
 rintro a2 l2 c2 a3 l3 c3 x u ⟨i,rfl,hi,rfl,rfl,hi2,hi3,hne,heu⟩
 have k2:=yv1 (fun x:Part=>decide (low≤x.seq)) (·.block) ((L.take i).map (zu2 c))
 have k3:=yv1 (fun x:Part=> !decide (low≤x.seq)) (·.block) ((L.take i).map (zu2 c))
 rw [List.length_map,List.length_map,List.length_take] at k2 k3
 have k2':(yk5 low ((L.take i).map (zu2 c))).length≤min i L.length:=by unfold yk5;rw [List.length_map];exact k2
 have k3':(xc5 low ((L.take i).map (zu2 c))).length≤min i L.length:=by unfold xc5;rw [List.length_map];exact k3
 refine za8 (fun hlt=>?_) fun hge=>?_
 ·have hi':i<L.length:=by omega
  have ew:IntKind.i64.wrap ((i:Int)+1)=((i+1:Nat):Int):=w64 (by omega) (by omega)
  simp only [ew]
  have s2:yk5 low ((L.take (i+1)).map (zu2 c))=yk5 low ((L.take i).map (zu2 c)) ++ if decide (low≤L[i].head.seq) then [(L[i].block:Int)] else []:=by
   unfold yk5
   rw [xa0 _ hi',List.filter_append,List.map_append,List.filter_cons]
   congr 1
   by_cases hh:low≤L[i].head.seq<;>simp [zu2,hh]
  have s3:xc5 low ((L.take (i+1)).map (zu2 c))=xc5 low ((L.take i).map (zu2 c)) ++ if !decide (low≤L[i].head.seq) then [(L[i].block:Int)] else []:=by
   unfold xc5
   rw [xa0 _ hi',List.filter_append,List.map_append,List.filter_cons]
   congr 1
   by_cases hh:low≤L[i].head.seq<;>simp [zu2,hh]
  have hrow:=ho1.row.ext heu
  refine zx3 (f:=zb7.vals) zb7.vals_length (by omega) hrow rfl hi' fun b o hab hr=>?_
  simp only [add_lit]
  have hsu:=heu.size
  refine ⟨_,xi5 hr (j:=3) rfl,za8 (fun hge=>?_) fun hlt'=>?_⟩
  ·refine zx3 (f:=zb7.vals) zb7.vals_length (by omega) hrow rfl hi' fun b o hab hr=>?_
   refine ⟨_,(by have:=hr.cells;exact this.1),fun B2 w₅ hn5=>?_⟩
   rw [decide_eq_true (by omega:low≤L[i].head.seq)] at s2 s3
   simp only [if_true,Bool.not_true,Bool.false_eq_true,if_false,List.append_nil] at s2 s3
   refine yh5.pushX (G:=fun x=>a3=some ⟨x,0,none⟩) hi2 (fun b hb hb'=>hne b hb hb') (fun x hx=>hi3.lt hx) rfl hn5 (by omega) (by omega) fun a' c' w₆ hu6 hl6 hne6=>?_
   rw [← s2] at hl6 ⊢
   have h3:yh5 w₂.heap.size w₆ a3 c3 (xc5 low ((L.take i).map (zu2 c))):=⟨hi3.1.upd hu6 fun b hb hF=>hF.2 hb,hi3.2⟩
   refine ⟨⟨i+1,rfl,hi',rfl,by rw [s3],hl6,by rw [s3];exact h3,fun b hb hb'=>hne6 b hb hb',heu.beyond hu6 fun x hx=>hx.1⟩,meas hi'⟩
  ·refine zx3 (f:=zb7.vals) zb7.vals_length (by omega) hrow rfl hi' fun b o hab hr=>?_
   refine ⟨_,(by have:=hr.cells;exact this.1),fun B2 w₅ hn5=>?_⟩
   rw [decide_eq_false (by omega:¬ low≤L[i].head.seq)] at s2 s3
   simp only [if_true,Bool.not_false,Bool.false_eq_true,if_false,List.append_nil] at s2 s3
   refine yh5.pushX (G:=fun x=>a2=some ⟨x,0,none⟩) hi3 (fun b hb hb'=>hne b hb' hb) (fun x hx=>hi2.lt hx) rfl hn5 (by omega) (by omega) fun a' c' w₆ hu6 hl6 hne6=>?_
   rw [← s3] at hl6 ⊢
   have h3:yh5 w₂.heap.size w₆ a2 c2 (yk5 low ((L.take i).map (zu2 c))):=⟨hi2.1.upd hu6 fun b hb hF=>hF.2 hb,hi2.2⟩
   refine ⟨⟨i+1,rfl,hi',by rw [s2],rfl,by rw [s2];exact h3,hl6,fun b hb hb'=>hne6 b hb' hb,heu.beyond hu6 fun x hx=>hx.1⟩,meas hi'⟩
 ·have hii:i=L.length:=by omega
  subst hii
  rw [List.take_length] at hi2 hi3 ⊢
  exact hR _ _ ⟨a2,c2,a3,c3,rfl,hi2.weak hs2,hi3.weak hs2,e2.trans heu⟩
def xc2 (c:Chip) (l:List Int):List Fact:=l.foldl (fun a b=>addP a (zk1 c b.toNat)) []
theorem vi6 (c:Chip) {l:List Int} {i:Nat} (hi:i<l.length):xc2 c (l.take (i+1))=addP (xc2 c (l.take i)) (zk1 c l[i].toNat):=by
 unfold xc2
 rw [List.take_succ_eq_append_getElem hi,List.foldl_append];rfl
theorem ue2 (c:Chip) (low:Nat) (L:List zb7):xc2 c (yk5 low (L.map (zu2 c)))=zk3 low (L.map (zu2 c)):=by
 unfold xc2 zk3 yk5
 rw [List.foldl_map]
 have:∀ (l:List Part) (acc:List Fact),(∀ x∈l,x.pages=zk1 c x.block.toNat)→l.foldl (fun a x=>addP a (zk1 c x.block.toNat)) acc=l.foldl (fun a x=>addP a x.pages) acc:=by
  intro l
  induction l with
  | nil=>intro acc _;rfl
  | cons x l ih =>
   intro acc hx
   rw [List.foldl_cons,List.foldl_cons,hx x (by simp)]
   exact ih _ fun y hy=>hx y (by simp [hy])
 refine this _ _ fun x hx=>?_
 obtain ⟨t,_,rfl⟩:=List.mem_map.1 (List.mem_filter.1 hx).1
 rfl
theorem vi7 (c:Chip) (hnp:c.np≤32) (l:List Int):∀ i,i≤l.length→ye0 (i * 8160) (xc2 c (l.take i))
 | 0,_=>by simpa [xc2] using ye0.nil
 | i+1,hi=>by
  rw [vi6 c (by omega:i<l.length)]
  have hp:=zz8 c l[i].toNat c.np
  change (zk1 c l[i].toNat).length≤c.np at hp
  have:=(vi7 c hnp l i (by omega)).pages (pg:=zk1 c l[i].toNat) (fun P hP=>xm8 hP) (zk1 c l[i].toNat).length (Nat.le_refl _)
  rw [List.take_length] at this
  exact this.mono (by omega)
theorem zt6 {F:Nat→Prop} {A:Nat} {w:World} {p:Nat} {c:Chip} (h:CIn F A w p c) (hd0:c.dead=false) (era:Nat) :
  za0 prog K.zd2 #[.pointer (some ⟨p,0,none⟩),.int .u32 era] w fun v w'=>∃ a ca,v= .slice a (zk3 (lowL (partsL c era (zc5 c))) (partsL c era (zc5 c))).length ca∧zb4 zg2 NoB w.heap.size w' a ca T.za9 (zk3 (lowL (partsL c era (zc5 c))) (partsL c era (zc5 c)))∧Ext w w':=by
 apply zd2.sh
 suffices H:∀ R:Value→World→Prop,(∀ v w',(∃ a ca,v= .slice a (zk3 (lowL (partsL c era (zc5 c))) (partsL c era (zc5 c))).length ca∧zb4 zg2 NoB w.heap.size w' a ca T.za9 (zk3 (lowL (partsL c era (zc5 c))) (partsL c era (zc5 c)))∧Ext w w')→R v w')→zd2.body (some ⟨p,0,none⟩) era w R from H _ fun _ _ h=>h
 intro R hR
 unfold zd2.body
 refine (yy1 h hd0 era).mono ?_
 generalize lowL (partsL c era (zc5 c))=low at *
 have hL:=refL h.ok hd0 era
 have hpl:partsL c era (zc5 c)=((zc5 c).filter (ys8 era)).map (zu2 c):=rfl
 rw [hpl] at hR ⊢
 rw [← ue2] at hR
 have hbl:∀ b∈yk5 low (((zc5 c).filter (ys8 era)).map (zu2 c)),∃ i:Nat,b=(i:Int)∧i<c.nb:=by
  intro b hb
  unfold yk5 at hb
  obtain ⟨x,hx,rfl⟩:=List.mem_map.1 hb
  obtain ⟨t,ht,rfl⟩:=List.mem_map.1 (List.mem_filter.1 hx).1
  exact ⟨t.block,rfl,hL.blk t ht⟩
 have hcl:(yk5 low (((zc5 c).filter (ys8 era)).map (zu2 c))).length≤64:=by
  have:=yv1 (fun x:Part=>decide (low≤x.seq)) (·.block) (((zc5 c).filter (ys8 era)).map (zu2 c))
  rw [List.length_map,List.length_map] at this
  have h2:=hL.len
  unfold yk5
  rw [List.length_map]
  omega
 generalize yk5 low (((zc5 c).filter (ys8 era)).map (zu2 c))=l at *
 rintro _ w₁ ⟨a1,c1,a2,c2,rfl,hi1,_,he1⟩
 have hs1:=he1.size
 have hnp:=h.ok.np2
 refine ⟨_,_,_,_,_,_,rfl,fun a3 l3 c3 x u=>∃ i:Nat,x=i∧i≤l.length∧l3=(xc2 c (l.take i)).length∧zb4 zg2 NoB w₁.heap.size u a3 c3 T.za9 (xc2 c (l.take i))∧Ext w₁ u,fun _ _ _ x _=>((l.length:Int) - x).toNat,
  ⟨0,rfl,by omega,rfl,zb4.nil _ _,Upd.refl _ _⟩,?_⟩
 rintro a3 l3 c3 x u ⟨i,rfl,hi,rfl,hf,heu⟩
 have hgi:=vi7 c hnp l i hi
 refine za8 (fun hlt=>?_) fun hge=>?_
 ·have hi':i<l.length:=by omega
  have ew:IntKind.i64.wrap ((i:Int)+1)=((i+1:Nat):Int):=w64 (by omega) (by omega)
  simp only [ew]
  have hsucc:=vi6 c hi'
  obtain ⟨j,hj,hjb⟩:=hbl _ (List.getElem_mem hi')
  obtain ⟨b',o',rfl,hc⟩:=(hi1.1.row.ext heu).cell (i:=i) (v:=.int .i64 l[i]) (by simp [hi'])
  refine ⟨by omega,by omega,?_⟩
  simp only [nilC_some',add_lit,Nat.mul_one,Int.toNat_natCast]
  refine ⟨_,hc,?_⟩
  rw [hj]
  rw [hj,Int.toNat_natCast] at hsucc
  refine (yk6 (h.ext (he1.trans heu)) hd0 hjb).mono ?_
  rintro _ w₃ ⟨a4,c4,rfl,hl4,he3⟩
  have hgp:∀ P∈zk1 c j,vl4 P.changes:=fun P hP=>xm8 hP
  have hpl2:=zz8 c j c.np
  change (zk1 c j).length≤c.np at hpl2
  generalize zk1 c j=pg at *
  obtain ⟨G4,hG4,_⟩:=hl4.slice
  have e3:=heu.trans he3
  refine ⟨_,_,_,rfl,fun a5 l5 c5 y v=>∃ k:Nat,y=k∧k≤pg.length∧l5=(addP (xc2 c (l.take i)) (pg.take k)).length∧zb4 zg2 NoB w₁.heap.size v a5 c5 T.za9 (addP (xc2 c (l.take i)) (pg.take k))∧Ext w₃ v,fun _ _ _ y _=>((pg.length:Int) - y).toNat,
   ⟨0,rfl,by omega,rfl,hf.ext he3,Upd.refl _ _⟩,?_⟩
  rintro a5 l5 c5 y v ⟨k,rfl,hk,rfl,hfk,hev⟩
  refine za8 (fun hltk=>?_) fun hgek=>?_
  ·have hk':k<pg.length:=by omega
   have ewk:IntKind.i64.wrap ((k:Int)+1)=((k+1:Nat):Int):=w64 (by omega) (by omega)
   simp only [ewk]
   have hgk:=hgi.pages hgp k hk
   have hgc:=hgp _ (List.getElem_mem hk')
   have hsv:=hev.size
   have hs3:=e3.size
   refine zb0.idx (r:=yu4) (hG4.ext hev) rfl hk' fun b2 o2 vs2 _ hrow2 hR2 _=>?_
   obtain ⟨ap,cp,rfl,hcp,hch⟩:=xj0 hR2
   simp only [add_lit]
   obtain ⟨G',hG1',hG2'⟩:=hfk.slice
   refine ⟨_,_,_,xi5 hrow2 (j:=1) rfl,(zt7 hG1' (fun b hb=>(hG2' b hb).2) hch (by have:=hgk.len;have:=hgc.len;omega) hgk.names hgc.small).mono ?_⟩
   rintro _ w₈ ⟨a',c',rfl,hl8,he8⟩
   have hadd:=vk9 (xc2 c (l.take i)) hk'
   refine ⟨_,_,_,rfl,⟨k+1,rfl,hk',by rw [hadd],by rw [hadd];exact hl8.weak (by omega) (fun x hx=>.inl (by rcases (hG2' x hx).1 with h | h;exact h;exact h.elim)),hev.trans he8⟩,meas hk'⟩
  ·have hkk:k=pg.length:=by omega
   subst hkk
   rw [List.take_length] at hfk ⊢
   exact ⟨⟨i+1,rfl,hi',by rw [hsucc],by rw [hsucc];exact hfk,e3.trans hev⟩,meas hi'⟩
 ·have hii:i=l.length:=by omega
  subst hii
  rw [List.take_length] at hf ⊢
  exact hR _ _ ⟨a3,c3,rfl,hf.weak hs1 fun _ h=>h.elim,he1.trans heu⟩
theorem ye1 {w:World} {a:Option Addr} {cp:Nat} {l:List zb7} {del:Value} {p:zb7→Bool} (hr:za6 w a (l.flatMap zb7.vals)) (hn:l.length≤1000000000) (hf:∀ u,Ext w u→∀ t∈l,yp7 del [vy2 t] u fun v u'=>v= .bool (p t)∧Ext u u') :
  za0 prog K.zd7 #[.slice a l.length cp,del] w fun v w'=>Ext w w'∧((v= .int .i64 (-1)∧∀ t∈l,p t=false)∨∃ (i:Nat) (hi:i<l.length),v= .int .i64 (i:Nat)∧(∀ t∈l.take i,p t=false)∧p l[i]=true):=by
 apply zd7.sh
 unfold zd7.body
 refine ⟨fun x u=>∃ i:Nat,x=i∧i≤l.length∧(∀ t∈l.take i,p t=false)∧Ext w u,fun x _=>((l.length:Int) - x).toNat,⟨0,rfl,by omega,by simp,Upd.refl _ _⟩,?_⟩
 rintro x u ⟨i,rfl,hi,hno,heu⟩
 refine za8 (fun hlt=>?_) fun hge=>?_
 ·have hi':i<l.length:=by omega
  refine zx3 (f:=zb7.vals) zb7.vals_length (by omega) (hr.ext heu) rfl hi' fun b o hab hr=>?_
  refine ⟨l[i].block,l[i].head.kind.toNat,l[i].head.era,l[i].head.seq,l[i].bad,za6.cells hr,(hf u heu l[i] (List.getElem_mem hi')).mono ?_⟩
  rintro _ u' ⟨rfl,he'⟩
  refine ⟨_,rfl,zc0 (fun hp=>⟨heu.trans he',.inr ⟨i,hi',rfl,hno,hp⟩⟩) fun hp=>?_⟩
  rw [w64 (by omega) (by omega)]
  refine ⟨⟨i+1,rfl,hi',fun t ht=>?_,heu.trans he'⟩,meas hi'⟩
  rw [List.take_succ_eq_append_getElem hi'] at ht
  rcases List.mem_append.1 ht with ht | ht
  ·exact hno t ht
  ·simp at ht;rw [ht];exact hp
 ·have:i=l.length:=by omega
  subst this
  rw [List.take_length] at hno
  exact ⟨heu,.inl ⟨rfl,hno⟩⟩
theorem qh8 {l:List zb7} (i:Nat):(l.flatMap zb7.vals).take (i * 5)=(l.take i).flatMap zb7.vals:=by
 induction l generalizing i with
 | nil=>simp
 | cons x l ih =>
  cases i with
  | zero=>simp
  | succ i =>
   rw [List.take_succ_cons,List.flatMap_cons,List.flatMap_cons,List.take_append,zb7.vals_length,List.take_of_length_le (by rw [zb7.vals_length];omega),Nat.succ_mul,Nat.add_sub_cancel,ih]
theorem qh9 {l:List zb7} (i:Nat):(l.flatMap zb7.vals).drop (i * 5)=(l.drop i).flatMap zb7.vals:=by
 induction l generalizing i with
 | nil=>simp
 | cons x l ih =>
  cases i with
  | zero=>simp
  | succ i =>
   rw [List.drop_succ_cons,List.flatMap_cons,List.drop_append,zb7.vals_length,List.drop_eq_nil_of_le (by rw [zb7.vals_length];omega),Nat.succ_mul,Nat.add_sub_cancel,ih];rfl
theorem xc8 {w:World} {a:Option Addr} {cap:Nat} {l:List zb7} {del:Value} {p:zb7→Bool} (h:zb6 w a l.length cap T.zc6 5 (l.flatMap zb7.vals)) (hn:l.length≤1000000000)
  (hf:∀ u,Upd (fun b=>a=some ⟨b,0,none⟩) w u→∀ t∈l,yp7 del [vy2 t] u fun v u'=>v= .bool (p t)∧Ext u u') :
  za0 prog K.zd5 #[.slice a l.length cap,del] w fun v w'=>v= .slice a (l.filter fun t=> !p t).length cap∧zb6 w' a (l.filter fun t=> !p t).length cap T.zc6 5 ((l.filter fun t=> !p t).flatMap zb7.vals)∧Upd (fun b=>a=some ⟨b,0,none⟩) w w':=by
 apply zd5.sh
 suffices H:∀ R:Value→World→Prop,(∀ v w',v= .slice a (l.filter fun t=> !p t).length cap∧zb6 w' a (l.filter fun t=> !p t).length cap T.zc6 5 ((l.filter fun t=> !p t).flatMap zb7.vals)∧Upd (fun b=>a=some ⟨b,0,none⟩) w w'→R v w')→zd5.body a l.length cap del w R from H _ fun _ _ h=>h
 intro R hR
 unfold zd5.body
 refine (ye1 h.row hn (fun u hu t ht=>hf u (Upd.ext hu) t ht)).mono ?_
 rintro _ w1 ⟨he1,⟨rfl,hno⟩| ⟨i0,hi0,rfl,hno,hyes⟩⟩
 ·refine ⟨_,rfl,zi1 (fun _=>?_) fun h=>absurd rfl h⟩
  have:(l.filter fun t=> !p t)=l:=List.filter_eq_self.2 fun t ht=>by rw [hno t ht];rfl
  rw [this] at hR
  exact hR _ _ ⟨rfl,h.ext he1,Upd.ext he1⟩
 obtain ⟨b,rfl⟩: ∃ b,a=some ⟨b,0,none⟩:=by
  obtain ⟨_,_,hx⟩:=h
  rcases hx with ⟨_,h0,_⟩| ⟨b,_,hx,_⟩
  ·omega
  ·exact ⟨b,hx⟩
 refine ⟨_,rfl,zi1 (fun h=>by omega) fun _=>?_⟩
 have hcap:=h.2.1
 have hfi:(l.take i0).filter (fun t=> !p t)=l.take i0:=List.filter_eq_self.2 fun t ht=>by rw [hno t ht];rfl
 have hq0:(l.take (i0+1)).filter (fun t=> !p t)=l.take i0:=by
  rw [List.take_succ_eq_append_getElem hi0,List.filter_append,hfi]
  simp [hyes]
 have hti0:(l.take i0).length=i0:=by rw [List.length_take];omega
 refine ⟨fun x2 x3 u=>∃ (j i:Nat) (vs:List Value),x2=j∧x3=i∧i≤l.length∧j≤i∧j=((l.take i).filter fun t=> !p t).length∧zb6 u (some ⟨b,0,none⟩) l.length cap T.zc6 5 vs∧vs.take (j * 5)=((l.take i).filter fun t=> !p t).flatMap zb7.vals∧vs.drop (i * 5)=(l.drop i).flatMap zb7.vals∧Upd (fun x=>(some ⟨b,0,none⟩: Option Addr)=some ⟨x,0,none⟩) w u,fun _ x _=>((l.length:Int) - x).toNat,
  ⟨i0,i0+1,_,rfl,by rw [w64 (by omega) (by omega)];omega,by omega,by omega,by rw [hq0,hti0],h.ext he1,by rw [hq0,qh8],qh9 _,Upd.ext he1⟩,?_⟩
 rintro x2 x3 u ⟨j,i,vs,rfl,rfl,hi,hji,hj,ho,ht,hd,hu⟩
 have hvl:vs.length=l.length * 5:=ho.1
 refine za8 (fun hlt=>?_) fun hge=>?_
 ·have hi':i<l.length:=by omega
  have ew:IntKind.i64.wrap ((i:Int)+1)=((i+1:Nat):Int):=w64 (by omega) (by omega)
  have ewj:IntKind.i64.wrap ((j:Int)+1)=((j+1:Nat):Int):=w64 (by omega) (by omega)
  simp only [ew,ewj]
  have hdi:l.drop i=l[i] :: l.drop (i+1):=List.drop_eq_getElem_cons hi'
  have hrow:za6 u (some ⟨b,i * 5,none⟩) l[i].vals:=by
   have h1:=(ho.row.drop (i * 5)).take 5
   rw [hd,hdi,List.flatMap_cons] at h1
   have:(l[i].vals ++ (l.drop (i+1)).flatMap zb7.vals).take 5=l[i].vals:=by
    rw [List.take_append_of_le_length (by rw [zb7.vals_length];omega),List.take_of_length_le (by rw [zb7.vals_length];omega)]
   rw [this,Nat.zero_add] at h1
   exact h1
  have hd1:vs.drop ((i+1) * 5)=(l.drop (i+1)).flatMap zb7.vals:=by
   have:vs.drop ((i+1) * 5)=(vs.drop (i * 5)).drop 5:=by rw [List.drop_drop];congr 1;omega
   rw [this,hd,hdi,List.flatMap_cons,List.drop_append,List.drop_eq_nil_of_le (by rw [zb7.vals_length];omega),zb7.vals_length];rfl
  refine ⟨by omega,by omega,?_⟩
  simp only [nilC_some',add_lit,Int.toNat_natCast,Nat.zero_add]
  refine ⟨l[i].block,l[i].head.kind.toNat,l[i].head.era,l[i].head.seq,l[i].bad,hrow.cells,zu7 (vs:=l[i].vals) rfl fun B1 w4 hb4 hs4 e4 g4=>?_⟩
  refine ⟨l[i].block,l[i].head.kind.toNat,l[i].head.era,l[i].head.seq,l[i].bad,zz3 (vs:=l[i].vals) g4,(hf w4 (hu.then e4) l[i] (List.getElem_mem hi')).mono ?_⟩
  rintro _ w5 ⟨rfl,he5⟩
  have e5:=e4.trans he5
  have hts:(l.take (i+1)).filter (fun t=> !p t)=(l.take i).filter (fun t=> !p t) ++ if !p l[i] then [l[i]] else []:=by
   rw [List.take_succ_eq_append_getElem hi',List.filter_append]
   congr 1
   rw [List.filter_cons]
   split<;>rfl
  refine ⟨_,rfl,zc0 (fun hp=>?_) fun hp=>?_⟩
  ·rw [hp] at hts
   simp only [if_true] at hts
   refine ⟨l[i].block,l[i].head.kind.toNat,l[i].head.era,l[i].head.seq,l[i].bad,zz3 (vs:=l[i].vals) (Ext.get he5 g4),by omega,by omega,?_⟩
   simp only [nilC_some',add_lit,Int.toNat_natCast,Nat.zero_add]
   refine yj6 (ho.ext e5) (o:=j * 5) (vs:=l[i].vals) (by rw [zb7.vals_length,hvl];omega) fun w6 hu6 ho6=>?_
   refine ⟨⟨j+1,i+1,_,rfl,rfl,hi',by omega,by rw [hts,List.length_append,← hj];rfl,ho6,?_,?_,(hu.then e5).trans (hu6.mono fun x _ hx=>by rw [hx])⟩,meas hi'⟩
   ·rw [hts,List.flatMap_append,← ht]
    have hl1:(vs.take (j * 5) ++ l[i].vals).length=(j+1) * 5:=by rw [List.length_append,List.length_take,zb7.vals_length,hvl];omega
    rw [← hl1,List.take_append_of_le_length (Nat.le_refl _),List.take_length]
    simp
   ·rw [← hd1]
    have hl1:(vs.take (j * 5) ++ l[i].vals).length=(j+1) * 5:=by rw [List.length_append,List.length_take,zb7.vals_length,hvl];omega
    rw [List.drop_append,hl1,List.drop_eq_nil_of_le (by rw [hl1];omega),List.nil_append,List.drop_drop,zb7.vals_length]
    congr 1
    omega
  ·rw [hp] at hts
   simp only [Bool.false_eq_true,if_false,List.append_nil] at hts
   exact ⟨⟨j,i+1,vs,rfl,rfl,hi',by omega,by rw [hts];exact hj,ho.ext e5,by rw [hts];exact ht,hd1,hu.then e5⟩,meas hi'⟩
 ·have hii:i=l.length:=by omega
  subst hii
  rw [List.take_length] at ht hj
  rw [← hj,← ht] at hR
  obtain ⟨C,hC,hCl,hCt⟩:=ho.full
  refine zw7 (lo:=j) (hi:=l.length) (mx:=cap) (by simp) (by simp) (by simp) (by omega) (by omega) (by omega) (by simp) fun a1 ha1=>?_
  have fin:∀ w7,Upd (·=b) u w7→∀ C',Full w7 b T.zc6 C'→C'.length=cap * 5→C'.take (j * 5)=vs.take (j * 5)→zi0 5 (some ⟨b,0,none⟩) l.length cap none (some (j:Int)) none fun a2 l2 c2=>R (.slice a2 l2 c2) w7:=fun w7 hu7 C' hC' hCl' hCt'=>by
   refine zw7 (lo:=0) (hi:=j) (mx:=cap) (by simp) (by simp) (by simp) (by omega) (by omega) (by omega) (by simp) fun a2 ha2=>?_
   have ha2:a2=some ⟨b,0,none⟩:=by rcases ha2 with h | ⟨_,h⟩<;>simpa using h
   subst ha2
   refine hR _ _ ⟨rfl,?_,hu.trans (hu7.mono fun x _ hx=>by rw [hx])⟩
   rw [← hCt']
   exact hC'.own hCl' (by omega)
  have hCv:C.take (j * 5)=vs.take (j * 5):=by rw [← hCt,List.take_take,Nat.min_eq_left (by omega)]
  cases hz:l.length - j with
  | zero =>
   rcases ha1 with rfl | ⟨_,rfl⟩<;>exact fin u (Upd.refl _ _) C hC hCl hCv
  | succ n =>
   have ha1:a1=some ⟨b,j * 5,none⟩:=by
    rcases ha1 with h | ⟨h,_⟩
    ·exact h
    ·omega
   subst ha1
   have hzl:(zs8 [Value.int .i64 0,.int .u8 0,.int .u32 0,.int .u64 0,.bool false] (n+1)).length=(n+1) * 5:=by rw [zv4];rfl
   refine ⟨vb5 (by decide) _,hC.store (by rw [hzl,hCl];omega) fun w7 hu7 hf7=>fin w7 hu7 _ hf7 (by rw [yd0 (by rw [hzl,hCl];omega)];exact hCl) ?_⟩
   rw [xm0 (Nat.le_refl _) (by omega)]
   exact hCv
section
abbrev uz7 (M:PLoc) (s:LogS) (a:Option Addr) (c:Nat):List Value:=[.pointer (some ⟨M.q,0,none⟩),.int .u32 s.era,.slice a s.facts.length c,.int .i64 s.block,.int .i64 (s.page:Nat)]
def PX (F X:Nat→Prop) (w:World) (M:PLoc) (P:Pool) (c:Chip):Prop:=∃ L G,PC w M P c L G∧(∀ x,PF M L x→F x)∧∀ x,G x→X x∧x<w.heap.size
section
variable {F X:Nat→Prop} {w w':World} {M:PLoc} {P:Pool} {c:Chip}
theorem PX.pin (h:PX F X w M P c):PIn F 0 w M P c:=by
 obtain ⟨L,G,h1,h2,h3⟩:=h
 exact ⟨L,G,h1,h2,fun x hx=>⟨Nat.zero_le _,(h3 x hx).2⟩⟩
theorem PX.upd {F':Nat→Prop} (h:PX F X w M P c) (k:Upd F' w w') (h1:∀ x,F x→¬ F' x) (h2:∀ x,X x→¬ F' x):PX F X w' M P c:=by
 obtain ⟨L,G,hc,hF,hG⟩:=h
 exact ⟨L,G,hc.upd k (fun x hx=>h1 x (hF x hx)) (fun x hx=>h2 x (hG x hx).1),hF,fun x hx=>⟨(hG x hx).1,Nat.lt_of_lt_of_le (hG x hx).2 k.size⟩⟩
theorem PX.ext (h:PX F X w M P c) (k:Ext w w'):PX F X w' M P c:=h.upd k (fun _ _ h=>h) fun _ _ h=>h
theorem qm3 (h:PX F X w M P c) {kind:UInt8} {era:Nat} (hera:era<4294967296) :
  za0 prog K.zs0 #[.pointer (some ⟨M.q,0,none⟩),bv kind,.int .u32 era] w fun v w' =>
   v= .tuple #[.int .i64 ((zf0 P c kind era).block:Nat),.int .i64 ((zf0 P c kind era).err:Nat)]∧Upd F w w'∧PX F X w' M (zf0 P c kind era).pool (zf0 P c kind era).chip:=by
 obtain ⟨L,G,hr,hF,hG⟩:=h
 refine (vm2 hr hera).mono ?_
 rintro v w' ⟨rfl,hu,L',hs,hp⟩
 exact ⟨rfl,hu.mono fun x _ hx=>hF x hx,L',G,hp,fun x hx=>hF x (by rw [PF.same hs] at hx;exact hx),fun x hx=>⟨(hG x hx).1,Nat.lt_of_lt_of_le (hG x hx).2 hu.size⟩⟩
theorem qm4 (h:PX F X w M P c) (i:Int) :
  za0 prog K.zs2 #[.pointer (some ⟨M.q,0,none⟩),.int .i64 i] w fun v w' =>
   v= .int .i64 ((zd1 P c i).2.2:Nat)∧Upd F w w'∧PX F X w' M (zd1 P c i).1 (zd1 P c i).2.1:=by
 obtain ⟨L,G,hr,hF,hG⟩:=h
 refine (vm4 hr i).mono ?_
 rintro v w' ⟨rfl,hu,L',hs,hp⟩
 exact ⟨rfl,hu.mono fun x _ hx=>hF x hx,L',G,hp,fun x hx=>hF x (by rw [PF.same hs] at hx;exact hx),fun x hx=>⟨(hG x hx).1,Nat.lt_of_lt_of_le (hG x hx).2 hu.size⟩⟩
theorem uw8 (h:PX F X w M P c) (block page:Int) {a:Option Addr} {b:List UInt8} {cp:Nat} (hb:za4 w a b) (hap:∀ q,a=some q→¬ F q.block) :
  za0 prog K.zi5 #[.pointer (some ⟨M.p,0,none⟩),.int .i64 block,.int .i64 page,.slice a b.length cp] w fun v w'=>v= .int .i64 ((c.program block page b).2:Nat)∧Upd F w w'∧PX F X w' M P (c.program block page b).1:=by
 obtain ⟨L,G,hp,hF,hGG⟩:=h
 refine (yw9 hp.chip block page hb (fun q hq hm=>?_)).mono ?_
 ·exact hap q hq (hF q.block (.inr (.inr (by
   simp only [List.mem_cons] at hm ⊢
   rcases hm with hm | hm
   ·exact .inl hm
   ·exact .inr (.inr hm)))))
 rintro _ w' ⟨hu,L',hs',hc,rfl⟩
 exact ⟨rfl,hu.mono fun x _ hx=>hF x (.inr (.inr hx)),L',G,hp.rechip hu hc hs' (Chip.program_geo _ _ _ _) (fun x hx=>(hp.apart x hx).2),fun x hx=>hF x (by rw [PF.same hs'] at hx;exact hx),fun x hx=>⟨(hGG x hx).1,Nat.lt_of_lt_of_le (hGG x hx).2 hu.size⟩⟩
end
structure zo1 (F X:Nat→Prop) (w:World) (q:Nat) (M:PLoc) (s:LogS):Prop where
 head:∃ a c,w.heap[q]?=some (.cells (uz7 M s a c).toArray T.vu6 (0,0))∧∃ G,zb0 zg2 w G a s.facts∧∀ b,G b→X b∧¬ F b∧b<w.heap.size
 pool:PX F X w M s.pool s.chip
 out:¬ F q
 outX:¬ X q
 era:s.era<4294967296
abbrev LogF (F:Nat→Prop) (q:Nat):Nat→Prop:=fun x=>F x∨x=q
section
variable {F X:Nat→Prop} {w w':World} {q:Nat} {M:PLoc} {s:LogS}
theorem zo1.ext (h:zo1 F X w q M s) (k:Ext w w'):zo1 F X w' q M s:=by
 obtain ⟨⟨a,c,g,G,h1,h2⟩,hp,ho,hx,he⟩:=h
 exact ⟨⟨a,c,Ext.get k g,G,h1.ext k,fun b hb=>⟨(h2 b hb).1,(h2 b hb).2.1,Nat.lt_of_lt_of_le (h2 b hb).2.2 k.size⟩⟩,hp.ext k,ho,hx,he⟩
theorem zo1.lt (h:zo1 F X w q M s):q<w.heap.size:=by
 obtain ⟨⟨a,c,g,_⟩,_⟩:=h
 exact (Array.getElem?_eq_some_iff.1 g).1
theorem zo1.step (h:zo1 F X w q M s) (k:Upd F w w') {P:Pool} {d:Chip} (hp:PX F X w' M P d):zo1 F X w' q M { s with pool:=P,chip:=d }:=by
 obtain ⟨⟨a,c,g,G,h1,h2⟩,_,ho,hx,he⟩:=h
 exact ⟨⟨a,c,k.get g ho,G,h1.upd k fun b hb=>(h2 b hb).2.1,fun b hb=>⟨(h2 b hb).1,(h2 b hb).2.1,Nat.lt_of_lt_of_le (h2 b hb).2.2 k.size⟩⟩,hp,ho,hx,he⟩
theorem zo1.upd (h:zo1 F X w q M s) {F':Nat→Prop} (k:Upd F' w w') (h1:∀ x,F' x→¬ F x∧¬ X x∧x≠q):zo1 F X w' q M s:=by
 obtain ⟨⟨a,c,g,G,g1,g2⟩,hp,ho,hx,he⟩:=h
 exact ⟨⟨a,c,k.get g (fun hq=>(h1 q hq).2.2 rfl),G,g1.upd k fun b hb hf=>(h1 b hf).2.1 (g2 b hb).1,fun b hb=>⟨(g2 b hb).1,(g2 b hb).2.1,Nat.lt_of_lt_of_le (g2 b hb).2.2 k.size⟩⟩,hp.upd k (fun x hF hf=>(h1 x hf).1 hF) fun x hX hf=>(h1 x hf).2.1 hX,ho,hx,he⟩
theorem zo1.store (h:zo1 F X w q M s) {o:Nat} {v:Value} {t:LogS} (ht:t.facts=s.facts∧t.pool=s.pool∧t.chip=s.chip∧t.era=s.era) (hv:∀ a c,zy1 (uz7 M s a c).toArray o [v]=(uz7 M t a c).toArray) (ho:o+1≤5) {K:World→Prop} (hk:∀ w',Upd (·=q) w w'→zo1 F X w' q M t→K w'):za5 w ⟨q,o,none⟩ [v] K:=by
 obtain ⟨⟨a,c,g,G,h1,h2⟩,hp,ho',hx,he⟩:=h
 refine zc8 g (by simpa using ho) fun w' hpt=>hk w' hpt.upd1 ?_
 have hu:=hpt.upd1
 have g':=hpt.get
 rw [hv] at g'
 obtain ⟨t1,t2,t3,t4⟩:=ht
 refine ⟨⟨a,c,g',G,by rw [t1];exact h1.upd hu fun b hb e=>hx (by rw [← e];exact (h2 b hb).1),fun b hb=>⟨(h2 b hb).1,(h2 b hb).2.1,Nat.lt_of_lt_of_le (h2 b hb).2.2 hu.size⟩⟩,?_,ho',hx,by rw [t4];exact he⟩
 rw [t2,t3]
 exact hp.upd hu (fun x hF e=>ho' (by rw [← e];exact hF)) fun x hX e=>hx (by rw [← e];exact hX)
theorem zo1.cell (h:zo1 F X w q M s) {i:Nat} {v:Value} (hv:∀ a c,(uz7 M s a c)[i]?=some v):w.cell? ⟨q,i,none⟩= some v:=by
 obtain ⟨⟨a,c,g,_⟩,_⟩:=h
 exact za2 g (by simpa using hv a c)
end
theorem xq9 {F X:Nat→Prop} {w:World} {q:Nat} {M:PLoc} {s:LogS} (h:zo1 F X w q M s) :
  za0 prog K.zu3 #[.pointer (some ⟨q,0,none⟩)] w fun v w'=>v= .int .i64 (s.take.2:Nat)∧Upd (LogF F q) w w'∧zo1 F X w' q M s.take.1:=by
 apply zu3.sh
 unfold zu3.body
 intro w1 hd1
 have h1:=h.ext hd1.upd
 refine ⟨fun u=>Ext w1 u,Upd.refl _ _,?_⟩
 simp only [nilC_some',add_lit,Nat.zero_add]
 refine ⟨_,fun u hu=>(h1.ext hu).cell (fun _ _=>rfl),_,fun u hu=>(h1.ext hu).cell (fun _ _=>rfl),(qm3 h1.pool (kind:=1) h1.era).mono ?_⟩
 rintro _ w2 ⟨rfl,hu2,hp2⟩
 have h2:=h1.step hu2 hp2
 have u2:Upd (LogF F q) w w2:=(Upd.ext hd1.upd).trans (hu2.mono fun x _ hx=>.inl hx)
 have ht:s.take=if (zf0 s.pool s.chip 1 s.era).err=0 then ({ s with pool:=(zf0 s.pool s.chip 1 s.era).pool,chip:=(zf0 s.pool s.chip 1 s.era).chip,block:=(zf0 s.pool s.chip 1 s.era).block,page:=1 },0) else ({ s with pool:=(zf0 s.pool s.chip 1 s.era).pool,chip:=(zf0 s.pool s.chip 1 s.era).chip },(zf0 s.pool s.chip 1 s.era).err):=rfl
 rw [ht]
 generalize zf0 s.pool s.chip 1 s.era=r at *
 refine ⟨_,_,rfl,zi1 (fun h0=>?_) fun h0=>?_⟩
 ·rw [if_pos (by omega)]
  refine h2.store (t:={ s with pool:=r.pool,chip:=r.chip,block:=r.block }) ⟨rfl,rfl,rfl,rfl⟩ (fun _ _=>rfl) (by omega) fun w3 hu3 h3=>?_
  refine h3.store (t:={ s with pool:=r.pool,chip:=r.chip,block:=r.block,page:=1 }) ⟨rfl,rfl,rfl,rfl⟩ (fun _ _=>rfl) (by omega) fun w4 hu4 h4=>?_
  exact ⟨by rw [h0];rfl,u2.trans ((hu3.trans hu4).mono fun x _ hx=>.inr hx),h4⟩
 ·rw [if_neg (by omega)]
  exact ⟨rfl,u2,h2⟩
theorem LogS.take_keep (s:LogS):s.take.1.facts=s.facts∧s.take.1.era=s.era∧s.chip.SameGeo s.take.1.chip∧s.take.1.chip.hits.length≤s.chip.hits.length∧(s.take.2=0→∃ b:Nat,s.take.1.block=b∧s.take.1.page=1∧s.take.1.chip.isBad b=false):=by
 obtain ⟨h1,h2⟩:=xz9 s.pool s.chip 1 s.era
 have hg:=vy4 s.pool s.chip 1 s.era
 unfold LogS.take
 simp only
 split
 ·rename_i h0
  exact ⟨rfl,rfl,hg,h1,fun _=>⟨_,rfl,rfl,h2 h0⟩⟩
 ·rename_i h0
  exact ⟨rfl,rfl,hg,h1,fun h=>absurd h h0⟩
theorem LogS.write_step (b:List UInt8) (n:Nat) (s:LogS):LogS.write b (n+1) s=(if (if s.block= -1∨s.page≥s.chip.np then s.take else (s,0)).2≠0 then (if s.block= -1∨s.page≥s.chip.np then s.take else (s,0)) else
  if ((if s.block= -1∨s.page≥s.chip.np then s.take else (s,0)).1.chip.program (if s.block= -1∨s.page≥s.chip.np then s.take else (s,0)).1.block (if s.block= -1∨s.page≥s.chip.np then s.take else (s,0)).1.page b).2≠9 then
   ({ (if s.block= -1∨s.page≥s.chip.np then s.take else (s,0)).1 with chip:=((if s.block= -1∨s.page≥s.chip.np then s.take else (s,0)).1.chip.program (if s.block= -1∨s.page≥s.chip.np then s.take else (s,0)).1.block (if s.block= -1∨s.page≥s.chip.np then s.take else (s,0)).1.page b).1,page:=(if s.block= -1∨s.page≥s.chip.np then s.take else (s,0)).1.page+1 },((if s.block= -1∨s.page≥s.chip.np then s.take else (s,0)).1.chip.program (if s.block= -1∨s.page≥s.chip.np then s.take else (s,0)).1.block (if s.block= -1∨s.page≥s.chip.np then s.take else (s,0)).1.page b).2)
  else LogS.write b n { (if s.block= -1∨s.page≥s.chip.np then s.take else (s,0)).1 with chip:=((if s.block= -1∨s.page≥s.chip.np then s.take else (s,0)).1.chip.program (if s.block= -1∨s.page≥s.chip.np then s.take else (s,0)).1.block (if s.block= -1∨s.page≥s.chip.np then s.take else (s,0)).1.page b).1,page:=(if s.block= -1∨s.page≥s.chip.np then s.take else (s,0)).1.page+1,block:= -1 }):=rfl
theorem yu5 {F X:Nat→Prop} {w:World} {q:Nat} {M:PLoc} {s:LogS} (h:zo1 F X w q M s) {a:Option Addr} {b:List UInt8} {cp:Nat} (hb:za4 w a b) (hap:∀ p,a=some p→¬ F p.block∧p.block≠q) (hpg:s.page<1000000) :
  za0 prog K.zm1 #[.pointer (some ⟨q,0,none⟩),.slice a b.length cp] w fun v w'=>v= .int .i64 ((s.write b s.fuel).2:Nat)∧Upd (LogF F q) w w'∧zo1 F X w' q M (s.write b s.fuel).1:=by
 obtain ⟨r,hr⟩: ∃ r,r=s.write b s.fuel:=⟨_,rfl⟩
 rw [← hr]
 apply zm1.sh
 suffices H:∀ R:Value→World→Prop,(∀ v w',v= .int .i64 (r.2:Nat)∧Upd (LogF F q) w w'∧zo1 F X w' q M r.1→R v w')→zm1.body (some ⟨q,0,none⟩) a b.length cp w R from H _ fun _ _ h=>h
 intro R hR
 unfold zm1.body
 simp only [nilC_some',add_lit,Nat.zero_add]
 refine ⟨_,h.cell (fun _ _=>rfl),(ur5 h.pool.pin).mono ?_⟩
 rintro _ _ ⟨rfl,rfl⟩
 rename_i w
 obtain ⟨J',hJ⟩: ∃ J':Nat→World→Prop,∀ n u,J' n u ↔ ∃ t:LogS,zo1 F X u q M t∧t.left≤n∧(t.page<1000000∨t.block= -1)∧t.write b n=r∧Upd (LogF F q) w u:=⟨_,fun _ _=>Iff.rfl⟩
 have hfu:s.left≤s.fuel:=by unfold LogS.left LogS.fuel;split<;>omega
 refine ⟨_,rfl,LJ J',Lμ J',⟨s.fuel,(hJ _ _).2 ⟨s,h,hfu,.inl hpg,hr.symm,Upd.refl _ _⟩⟩,?_⟩
 intro u hJu
 obtain ⟨n,hj,hK⟩:=uz6 hJu
 obtain ⟨t,ht,hleft,hpt,hw,hu⟩:=(hJ _ _).1 hj
 obtain ⟨n,rfl⟩: ∃ m,n=m+1:=⟨n - 1,by unfold LogS.left at hleft;split at hleft<;>omega⟩
 rw [LogS.write_step] at hw
 have hok:=ht.pool.pin.chip.ok
 refine ⟨fun v=>∃ y:LogS×Nat,y=(if t.block= -1∨t.page≥t.chip.np then t.take else (t,0))∧y.2=0∧zo1 F X v q M y.1∧Upd (LogF F q) w v,?_,?_⟩
 ·intro w3 hd3
  have h3:=ht.ext hd3.upd
  have u3:=hu.then hd3.upd
  have take:∀ u',zo1 F X u' q M t→Upd (LogF F q) w u'→(t.block= -1∨t.page≥t.chip.np)→za0 prog K.zu3 #[.pointer (some ⟨q,0,none⟩)] u' fun v2 w4=>∃ x2:Int,v2= .int .i64 x2∧br (x2 != 0) (R (.int .i64 x2) w4) (∃ y:LogS×Nat,y=(if t.block= -1∨t.page≥t.chip.np then t.take else (t,0))∧y.2=0∧zo1 F X w4 q M y.1∧Upd (LogF F q) w w4):=fun u' h' hu' hc=>by
   refine (xq9 h').mono ?_
   rintro _ w4 ⟨rfl,hu4,h4⟩
   rw [if_pos hc] at hw ⊢
   refine ⟨_,rfl,zg8 (fun hne=>?_) fun h0=>⟨_,rfl,by omega,h4,hu'.trans hu4⟩⟩
   rw [if_pos (by omega)] at hw
   rw [← hw] at hR
   exact hR _ _ ⟨rfl,hu'.trans hu4,h4⟩
  refine ⟨fun v=>Ext w3 v,Upd.refl _ _,_,fun v hv=>(h3.ext hv).cell (i:=3) (fun _ _=>rfl),zi1 (fun hn1=>⟨Upd.refl _ _,take w3 h3 u3 (.inl hn1)⟩) fun hn1=>?_⟩
  refine ⟨_,fun v hv=>(h3.ext hv).cell (i:=4) (fun _ _=>rfl),(cGeo h3.pool.pin.chip).mono ?_⟩
  rintro _ w5 ⟨rfl,he5⟩
  refine ⟨_,_,_,_,rfl,he5,za8 (fun hge=>take w5 (h3.ext he5) (u3.then he5) (.inr (by omega))) fun hlt=>?_⟩
  rw [if_neg (by omega)]
  exact ⟨_,rfl,rfl,h3.ext he5,u3.then he5⟩
 rintro v ⟨y,hy,hy0,hv,huv⟩
 rw [← hy] at hw
 rw [if_neg (by omega)] at hw
 intro w8 hd8
 have h8:=hv.ext hd8.upd
 have u8:=huv.then hd8.upd
 refine ⟨fun v=>Ext w8 v,Upd.refl _ _,_,fun v hv=>(h8.ext hv).cell (i:=3) (fun _ _=>rfl),_,fun v hv=>(h8.ext hv).cell (i:=4) (fun _ _=>rfl),?_⟩
 have hb8:za4 w8 a b:=za6.upd hb u8 fun p hp hx=>by
  have:=hap p hp
  rcases hx with hx | hx
  ·exact this.1 hx
  ·exact this.2 hx
 refine (uw8 h8.pool y.1.block (y.1.page:Nat) (cp:=cp) hb8 fun p hp=>(hap p hp).1).mono ?_
 rintro _ w9 ⟨rfl,hu9,hp9⟩
 have h9:=h8.step hu9 hp9
 have u9:=u8.trans (hu9.mono fun x _ hx=>.inl hx)
 have hyp:y.1.page<1000000∧y.1.chip.hits.length≤t.chip.hits.length∧((y.1.chip.program y.1.block (y.1.page:Nat) b).2=9→(y.1.chip.program y.1.block (y.1.page:Nat) b).1.hits.length+1≤n):=by
  obtain ⟨p1,p2,_⟩:=xf2 y.1.chip y.1.block (y.1.page:Nat) b
  by_cases hc:t.block= -1∨t.page≥t.chip.np
  ·rw [if_pos hc] at hy
   subst hy
   obtain ⟨_,_,_,k4,k5⟩:=t.take_keep
   obtain ⟨bb,kb,kp,kbad⟩:=k5 hy0
   refine ⟨by omega,k4,fun h9=>?_⟩
   have:=p2 h9 (by rw [kb];exact kbad)
   unfold LogS.left at hleft
   split at hleft<;>omega
  ·rw [if_neg hc] at hy
   subst hy
   refine ⟨?_,Nat.le_refl _,fun _=>?_⟩
   ·rcases hpt with h | h
    ·exact h
    ·exact absurd (.inl h) hc
   unfold LogS.left at hleft
   rw [if_neg (fun h=>hc (.inl h))] at hleft
   simp only at p1 ⊢
   omega
 generalize y.1.chip.program y.1.block (y.1.page:Nat) b=r9 at *
 have ew:IntKind.i64.wrap ((y.1.page:Int)+1)=((y.1.page+1:Nat):Int):=by rw [w64 (by omega) (by omega)];omega
 refine ⟨_,rfl,_,h9.cell (i:=4) (fun _ _=>rfl),?_⟩
 rw [ew]
 refine h9.store (t:={ y.1 with chip:=r9.1,page:=y.1.page+1 }) ⟨rfl,rfl,rfl,rfl⟩ (fun _ _=>rfl) (by omega) fun w10 hu10 h10=>?_
 have u10:=u9.trans (hu10.mono fun x _ hx=>.inr hx)
 refine zg8 (fun h9'=>?_) fun h9'=>?_
 ·rw [if_pos (by omega)] at hw
  rw [← hw] at hR
  exact hR _ _ ⟨rfl,u10,h10⟩
 ·rw [if_neg (by omega)] at hw
  refine h10.store (t:={ y.1 with chip:=r9.1,page:=y.1.page+1,block:= -1 }) ⟨rfl,rfl,rfl,rfl⟩ (fun _ _=>rfl) (by omega) fun w11 hu11 h11=>?_
  refine hK n _ (by omega) ((hJ _ _).2 ⟨_,h11,?_,?_,hw,u10.trans (hu11.mono fun x _ hx=>.inr hx)⟩)
  ·have:=hyp.2.2 (by omega)
   unfold LogS.left
   rw [if_pos rfl]
   exact this
  ·exact .inr rfl
end
section
theorem vn4 (t:zb7) {B era:Nat} {u:World} (g:u.heap[B]?=some (.cells #[.int .u32 era] T.uv3 (0,0))) :
  za0 prog K.yj7 #[vy2 t,.pointer (some ⟨B,0,none⟩)] u fun v u'=>v= .bool (!(decide (t.head.kind=1) && decide (t.head.era=era)))∧Ext u u':=by
 apply yj7.sh
 unfold yj7.body
 intro B1 w1 hn1
 have g1:w1.heap[B1]?=some (.cells t.vals.toArray T.zc6 (0,0)):=hn1.get
 have g0:=Ext.get hn1.upd g
 simp only [add_lit,Nat.zero_add]
 refine ⟨_,za2 g1 rfl,zg8 (fun hne=>⟨?_,hn1.upd⟩) fun he=>⟨_,za2 g1 rfl,_,za2 g0 rfl,?_,hn1.upd⟩⟩
 ·rw [decide_eq_false (p:=t.head.kind=1) (fun e=>hne (by rw [e];rfl))];rfl
 ·have hk:t.head.kind=1:=vh3 (n:=1) (by decide) he
  rw [decide_eq_true hk,Bool.true_and]
  by_cases hh:t.head.era=era
  ·rw [hh,decide_eq_true rfl]
   simp
  ·rw [decide_eq_false hh]
   have:((t.head.era:Int) != (era:Int))=true:=by simpa using (fun h=>hh (by omega):¬ ((t.head.era:Int)=(era:Int)))
   rw [this];rfl
theorem xx1 {F:Nat→Prop} {A:Nat} {w:World} {M:PLoc} {P:Pool} {c:Chip} (h:PIn F A w M P c) (hnb:c.nb<20) (era:Nat) :
  za0 prog K.yu6 #[.pointer (some ⟨M.q,0,none⟩),.int .u32 era] w fun v w'=>Ext w w'∧vx4 w w' v (ownL era (zc1 P c)):=by
 apply yu6.sh
 unfold yu6.body
 intro B1 w1 hn1
 have g1:w1.heap[B1]?=some (.cells #[.int .u32 era] T.uv3 (0,0)):=hn1.get
 have hb1:B1=w.heap.size:=hn1.num
 have hs1:=hn1.size
 refine (qg7 (h.ext hn1.upd) hnb rfl).mono ?_
 rintro _ w2 ⟨he2,a1,c1,rfl,ho2,hf2⟩
 have hll:(zc1 P c).length≤20:=by
  unfold zc1
  rw [yb6]
  have:=zs9 P c c.nb
  omega
 unfold ownL
 generalize zc1 P c=l at *
 refine ⟨_,_,_,rfl,(xc8 (p:=fun t=> !(decide (t.head.kind=1) && decide (t.head.era=era))) ho2 (by omega) fun u hu t ht=>?_).mono ?_⟩
 ·refine ⟨by kernel_rfl,?_⟩
  exact vn4 t (hu.get (Ext.get he2 g1) fun hb=>by have:w1.heap.size≤B1:=hf2 _ hb;omega)
 ·rintro _ w3 ⟨rfl,ho3,hu3⟩
  have hff:(l.filter fun t=> !(!(decide (t.head.kind=1) && decide (t.head.era=era))))=l.filter fun t=>decide (t.head.kind=1) && decide (t.head.era=era):=by simp
  rw [hff] at ho3 ⊢
  refine ⟨_,_,_,rfl,(hn1.upd.trans he2).beyond hu3 fun x hx=>?_,a1,c1,rfl,ho3,hf2.mono (by omega)⟩
  have:w1.heap.size≤x:=hf2 _ hx
  omega
def CX (F X:Nat→Prop) (w:World) (p:Nat) (c:Chip):Prop:=∃ L G,zg9 w p c L G∧(∀ x,x∈p :: L.bb :: L.locs→F x)∧∀ x,G x→X x∧x<w.heap.size
section
variable {F X:Nat→Prop} {w w':World} {p:Nat} {c:Chip}
theorem CX.cin (h:CX F X w p c):CIn F 0 w p c:=by
 obtain ⟨L,G,h1,h2,h3⟩:=h
 exact ⟨L,G,h1,h2,fun x hx=>⟨Nat.zero_le _,(h3 x hx).2⟩⟩
theorem CX.upd {F':Nat→Prop} (h:CX F X w p c) (k:Upd F' w w') (h1:∀ x,F x→¬ F' x) (h2:∀ x,X x→¬ F' x):CX F X w' p c:=by
 obtain ⟨L,G,hc,hF,hG⟩:=h
 exact ⟨L,G,hc.upd k (fun x hx=>h1 x (hF x hx)) (fun x hx=>h2 x (hG x hx).1),hF,fun x hx=>⟨(hG x hx).1,Nat.lt_of_lt_of_le (hG x hx).2 k.size⟩⟩
theorem CX.ext (h:CX F X w p c) (k:Ext w w'):CX F X w' p c:=h.upd k (fun _ _ h=>h) fun _ _ h=>h
theorem CX.mono {F' X':Nat→Prop} (h:CX F X w p c) (h1:∀ x,F x→F' x) (h2:∀ x,X x→X' x):CX F' X' w p c:=by
 obtain ⟨L,G,hc,hF,hG⟩:=h
 exact ⟨L,G,hc,fun x hx=>h1 x (hF x hx),fun x hx=>⟨h2 x (hG x hx).1,(hG x hx).2⟩⟩
theorem PX.mono {F' X':Nat→Prop} {M:PLoc} {P:Pool} (h:PX F X w M P c) (h1:∀ x,F x→F' x) (h2:∀ x,X x→X' x):PX F' X' w M P c:=by
 obtain ⟨L,G,hc,hF,hG⟩:=h
 exact ⟨L,G,hc,fun x hx=>h1 x (hF x hx),fun x hx=>⟨h2 x (hG x hx).1,(hG x hx).2⟩⟩
theorem PX.chip {M:PLoc} {P:Pool} (h:PX F X w M P c):CX F X w M.p c:=by
 obtain ⟨L,G,hc,hF,hG⟩:=h
 exact ⟨L,G,hc.chip,fun x hx=>hF x (.inr (.inr hx)),hG⟩
theorem qm9 (h:CX F X w p c) :
  za0 prog K.ye4 #[.pointer (some ⟨p,0,none⟩)] w fun v w'=>Ext w w'∧
   if c.dead then v= .tuple #[.pointer none,.int .i64 10]
   else ∃ M:PLoc,M.p=p∧v= .tuple #[.pointer (some ⟨M.q,0,none⟩),.int .i64 0]∧PX (fun x=>F x∨(w.heap.size≤x∧x<w'.heap.size)) X w' M (zh5 c) c:=by
 obtain ⟨L,G,hr,hF,hG⟩:=h
 refine (xk2 hr (fun x hx=>(hG x hx).2)).mono ?_
 rintro v w' ⟨he,hv⟩
 refine ⟨he,?_⟩
 split at hv
 ·rename_i hd
  rw [if_pos hd];exact hv
 ·rename_i hd
  rw [if_neg hd]
  obtain ⟨q,pb,rfl,hq,hpb,hq',hpb',hp⟩:=hv
  refine ⟨⟨q,pb,c.nb,p⟩,rfl,rfl,L,G,hp,fun x hx=>?_,fun x hx=>⟨(hG x hx).1,Nat.lt_of_lt_of_le (hG x hx).2 he.size⟩⟩
  rcases hx with hx | hx | hx
  ·have:x=q:=hx
   exact .inr (by omega)
  ·have:x=pb:=hx
   exact .inr (by omega)
  ·exact .inl (hF x hx)
end
def xb9 (F X:Nat→Prop) (p:Nat) (c:Chip) (era:Nat) (w w':World) (v:Value):Prop:=Ext w w'∧
   if c.dead then v= .tuple #[.pointer none,.slice none 0 0,.int .i64 10]
   else if era=0 then v= .tuple #[.pointer none,.slice none 0 0,.int .i64 2]
   else ∃ (M:PLoc) (a:Option Addr) (cap:Nat),M.p=p∧v= .tuple #[.pointer (some ⟨M.q,0,none⟩),.slice a (ownL era (zc1 (zh5 c) c)).length cap,.int .i64 0]∧PX (fun x=>F x∨(w.heap.size≤x∧x<w'.heap.size)) X w' M (zh5 c) c∧zb6 w' a (ownL era (zc1 (zh5 c) c)).length cap T.zc6 5 ((ownL era (zc1 (zh5 c) c)).flatMap zb7.vals)∧zm9 w a
theorem xl0 {F X:Nat→Prop} {w:World} {p:Nat} {c:Chip} (h:CX F X w p c) (hnb:c.nb<20) (era:Nat) :
  za0 prog K.yh1 #[.pointer (some ⟨p,0,none⟩),.int .u32 era] w fun v w'=>xb9 F X p c era w w' v:=by
 apply yh1.sh
 unfold yh1.body
 refine (qm9 h).mono ?_
 rintro _ w1 ⟨he1,hv⟩
 by_cases hd:c.dead=true
 ·rw [if_pos hd] at hv
  subst hv
  exact ⟨_,_,rfl,zg8 (fun _=>by show xb9 F X p c era w w1 _;unfold xb9;rw [if_pos hd];exact ⟨he1,rfl⟩) fun h=>by cases h⟩
 ·rw [if_neg hd] at hv
  obtain ⟨M,hMp,rfl,hp⟩:=hv
  refine ⟨_,_,rfl,zg8 (fun h=>absurd rfl h) fun _=>zi1 (fun h0=>?_) fun h0=>?_⟩
  ·show xb9 F X p c era w w1 _
   unfold xb9
   rw [if_neg hd,if_pos (by omega)]
   exact ⟨he1,rfl⟩
  ·refine (xx1 hp.pin hnb era).mono ?_
   rintro _ w2 ⟨he2,a,cap,rfl,ho,hf⟩
   refine ⟨_,_,_,rfl,?_⟩
   show xb9 F X p c era w w2 _
   unfold xb9
   rw [if_neg hd,if_neg (by omega)]
   exact ⟨he1.trans he2,M,a,cap,hMp,rfl,(hp.ext he2).mono (fun x hx=>by rcases hx with hx | hx;exact .inl hx;exact .inr ⟨hx.1,Nat.lt_of_lt_of_le hx.2 he2.size⟩) (fun _ h=>h),ho,hf.mono he1.size⟩
theorem uc1 {F X:Nat→Prop} {w:World} {q:Nat} {M:PLoc} {s:LogS} (h:zo1 F X w q M s) (hsp:s.chip.sp≤4) (n:Nat) (hn:n≤1000000000) :
  za0 prog K.ya0 #[.pointer (some ⟨q,0,none⟩),.int .i64 n] w fun v w'=>v= .bool (s.low n)∧Ext w w':=by
 apply ya0.sh
 suffices H:∀ R:Value→World→Prop,(∀ v w',v= .bool (s.low n)∧Ext w w'→R v w')→ya0.body (some ⟨q,0,none⟩) n w R from H _ fun _ _ h=>h
 intro R hR
 unfold ya0.body
 simp only [nilC_some',add_lit,Nat.zero_add]
 refine ⟨_,h.cell (fun _ _=>rfl),(ur5 h.pool.pin).mono ?_⟩
 rintro _ _ ⟨rfl,rfl⟩
 rename_i w
 refine ⟨_,rfl,(cGeo h.pool.pin.chip).mono ?_⟩
 rintro _ w2 ⟨rfl,he2⟩
 have hok:=h.pool.pin.chip.ok
 refine ⟨_,_,_,_,rfl,zu7 rfl fun B1 w4 hB1 hs4 e4 g4=>⟨_,za2 g4 rfl,fun w5 hd5=>?_⟩⟩
 have e5:=(he2.trans e4).trans hd5.upd
 have h5:=h.ext e5
 have g5:=Ext.get hd5.upd g4
 have hnp1:=hok.np1
 have hnp2:=hok.np2
 have q1:IntKind.i64.wrap ((s.chip.np:Int) - 1)=((s.chip.np - 1:Nat):Int):=by rw [w64 (by omega) (by omega)];omega
 rw [q1]
 refine ⟨fun v=>Ext w5 v,Upd.refl _ _,_,fun v hv=>(h5.ext hv).cell (fun _ _=>rfl),by omega,_,fun v hv=>za2 (Ext.get hv g5) rfl,(vu3 h5.pool.pin).mono ?_⟩
 rintro _ w6 ⟨rfl,he6⟩
 refine ⟨_,rfl,he6,hR _ _ ⟨?_,e5.trans he6⟩⟩
 have q2:IntKind.i64.wrap ((n:Int)+2)=((n+2:Nat):Int):=by rw [w64 (by omega) (by omega)];omega
 have q3:IntKind.i64.wrap (((n+2:Nat):Int)+((s.chip.np - 1:Nat):Int))=((n+2+(s.chip.np - 1):Nat):Int):=by rw [w64 (by omega) (by omega)];omega
 have q4:IntKind.i64.wrap (((n+2+(s.chip.np - 1):Nat):Int) - 1)=((n+2+(s.chip.np - 1) - 1:Nat):Int):=by rw [w64 (by omega) (by omega)];omega
 have hdiv:(n+2+(s.chip.np - 1) - 1) / (s.chip.np - 1)≤n+2+(s.chip.np - 1) - 1:=Nat.div_le_self _ _
 have q5':Int.tdiv ((n+2+(s.chip.np - 1) - 1:Nat):Int) ((s.chip.np - 1:Nat):Int)=(((n+2+(s.chip.np - 1) - 1) / (s.chip.np - 1):Nat):Int):=(Int.ofNat_tdiv _ _).symm
 have hlow:s.low n=decide (zh3 s.pool s.chip<(n+2+(s.chip.np - 1) - 1) / (s.chip.np - 1)+2+s.chip.sp):=rfl
 rw [q2,q3,q4,q5',hlow]
 generalize (n+2+(s.chip.np - 1) - 1) / (s.chip.np - 1)=D at *
 have q5:IntKind.i64.wrap ((D:Nat):Int)=((D:Nat):Int):=w64 (by omega) (by omega)
 have q6:IntKind.i64.wrap ((D:Int)+2)=((D+2:Nat):Int):=by rw [w64 (by omega) (by omega)];omega
 have q7:IntKind.i64.wrap (((D+2:Nat):Int)+(s.chip.sp:Int))=((D+2+s.chip.sp:Nat):Int):=by rw [w64 (by omega) (by omega)];omega
 rw [q5,q6,q7]
 congr 1
 rw [decide_eq_decide]
 omega
end
theorem um8 {F X:Nat→Prop} {u:World} {q:Nat} {M:PLoc} {t:LogS} (h:zo1 F X u q M t) {B1 B3 n:Nat} (g1:u.heap[B1]?=some (.cells #[.pointer (some ⟨q,0,none⟩)] T.yw7 (0,0))) (g3:u.heap[B3]?=some (.cells #[.int .u64 n] T.xv8 (0,0)))
  (h1:¬ LogF F q B1) (h3:¬ LogF F q B3) (h3X:¬ X B3) :
  za0 prog K.zs6 #[.pointer (some ⟨B1,0,none⟩),.pointer (some ⟨B3,0,none⟩)] u fun v u'=>v= .int .i64 (t.take.2:Nat)∧zo1 F X u' q M t.take.1∧u'.heap[B3]?=some (.cells #[.int .u64 t.take.1.pool.last] T.xv8 (0,0))∧Upd (fun x=>LogF F q x∨x=B3) u u':=by
 apply zs6.sh
 unfold zs6.body
 refine ⟨_,za2 g1 rfl,(xq9 h).mono ?_⟩
 rintro _ u1 ⟨rfl,hu1,ht1⟩
 refine ⟨_,rfl,_,za2 (hu1.get g1 h1) rfl,?_⟩
 simp only [nilC_some',add_lit,Nat.zero_add]
 refine ⟨_,ht1.cell (i:=0) (fun _ _=>rfl),(pLast ht1.pool.pin).mono ?_⟩
 rintro _ u2 ⟨rfl,hu2⟩
 obtain rfl:u1=u2:=hu2.symm
 refine ⟨_,rfl,zc8 (hu1.get g3 h3) (by simp) fun u3 hp=>⟨(by trivial),?_,?_,(hu1.mono fun x _ hx=>.inl hx).trans (hp.upd1.mono fun x _ hx=>.inr hx)⟩⟩
 ·exact ht1.upd hp.upd1 fun x hx=>by
   subst hx
   exact ⟨fun hf=>h3 (.inl hf),h3X,fun hq=>h3 (.inr hq)⟩
 ·exact hp.get
theorem um7 {F X:Nat→Prop} {u:World} {q:Nat} {M:PLoc} {t:LogS} (h:zo1 F X u q M t) {B1 B5:Nat} (g1:u.heap[B1]?=some (.cells #[.pointer (some ⟨q,0,none⟩)] T.yw7 (0,0))) {a:Option Addr} {b:List UInt8} {cp:Nat} (g5:u.heap[B5]?=some (.cells #[.slice a b.length cp] T.zu0 (0,0)))
  (hb:za4 u a b) (hap:∀ p,a=some p→¬ F p.block∧p.block≠q) (hpg:t.page<1000000) :
  za0 prog K.zs5 #[.pointer (some ⟨B1,0,none⟩),.pointer (some ⟨B5,0,none⟩)] u fun v u'=>v= .int .i64 ((t.write b t.fuel).2:Nat)∧zo1 F X u' q M (t.write b t.fuel).1∧Upd (LogF F q) u u':=by
 apply zs5.sh
 unfold zs5.body
 refine ⟨_,za2 g1 rfl,_,_,_,za2 g5 rfl,(yu5 h hb hap hpg).mono ?_⟩
 rintro _ u1 ⟨rfl,hu1,ht1⟩
 exact ⟨_,rfl,rfl,ht1,hu1⟩
theorem um6 {F X:Nat→Prop} {u:World} {q:Nat} {M:PLoc} {t:LogS} (h:zo1 F X u q M t) {B1 B2 B3 n:Nat} {size:Int} (g1:u.heap[B1]?=some (.cells #[.pointer (some ⟨q,0,none⟩)] T.yw7 (0,0))) (g2:u.heap[B2]?=some (.cells #[.int .i64 size] T.int (0,0))) (g3:u.heap[B3]?=some (.cells #[.int .u64 n] T.xv8 (0,0)))
  (hn:n<18446744073709551616) (hS:∀ x,F x→x<u.heap.size) (hpg:t.page<1000000) :
  za0 prog K.zs4 #[.pointer (some ⟨B2,0,none⟩),.pointer (some ⟨B3,0,none⟩),.pointer (some ⟨B1,0,none⟩)] u fun v u'=>v= .int .i64 ((t.write (zq9 size n).1 t.fuel).2:Nat)∧zo1 F X u' q M (t.write (zq9 size n).1 t.fuel).1∧Upd (LogF F q) u u':=by
 apply zs4.sh
 unfold zs4.body
 refine ⟨_,za2 g2 rfl,_,za2 g3 rfl,(xz2 size n hn u).mono ?_⟩
 rintro _ u1 ⟨a,c,rfl,hb,hf,he,hc⟩
 have hq:=h.lt
 refine ⟨_,_,_,_,rfl,_,za2 (Ext.get he g1) rfl,(yu5 (h.ext he) hb (fun p hp=>⟨fun hF=>?_,fun e=>?_⟩) hpg).mono ?_⟩
 ·have:=hf p hp
  have:=hS _ hF
  omega
 ·have:=hf p hp
  omega
 ·rintro _ u2 ⟨rfl,hu2,ht2⟩
  exact ⟨_,rfl,rfl,ht2,(Upd.ext he).trans hu2⟩
structure LogS.Keeps (s t:LogS):Prop where
 facts:t.facts=s.facts
 era:t.era=s.era
 geo:s.chip.SameGeo t.chip
theorem LogS.Keeps.refl (s:LogS):s.Keeps s:=⟨rfl,rfl,Chip.SameGeo.refl _⟩
theorem LogS.Keeps.trans {a b c:LogS} (h:a.Keeps b) (k:b.Keeps c):a.Keeps c:=⟨k.facts.trans h.facts,k.era.trans h.era,h.geo.trans k.geo⟩
theorem LogS.take_keeps (s:LogS):s.Keeps s.take.1:=by
 obtain ⟨h1,h2,h3,_⟩:=s.take_keep
 exact ⟨h1,h2,h3⟩
theorem LogS.take_page (s:LogS) (h:s.page≤40):s.take.1.page≤40:=by
 unfold LogS.take
 simp only
 split
 ·simp
 ·exact h
theorem LogS.write_keeps (b:List UInt8):∀ (n:Nat) (s:LogS),s.page≤40→s.chip.np≤32→s.Keeps (s.write b n).1∧(s.write b n).1.page≤40
 | 0,s,h,_=>⟨.refl s,h⟩
 | n+1,s,h,hnp=>by
  rw [LogS.write_step]
  obtain ⟨y,hy⟩: ∃ y,y=(if s.block= -1∨s.page≥s.chip.np then s.take else (s,0)):=⟨_,rfl⟩
  rw [← hy]
  have hk:s.Keeps y.1∧y.1.page≤40∧(y.2=0→y.1.page≤32):=by
   subst hy
   split
   ·refine ⟨s.take_keeps,s.take_page h,fun h0=>?_⟩
    obtain ⟨_,_,_,_,h5⟩:=s.take_keep
    obtain ⟨_,_,hp,_⟩:=h5 h0
    omega
   ·rename_i hc
    exact ⟨.refl s,h,fun _=>by show s.page≤32;omega⟩
  split
  ·exact ⟨hk.1,hk.2.1⟩
  ·rename_i h0
   have hp:=hk.2.2 (by omega)
   have hg:=Chip.program_geo y.1.chip y.1.block (y.1.page:Nat) b
   split
   ·exact ⟨⟨hk.1.facts,hk.1.era,hk.1.geo.trans hg⟩,by show y.1.page+1≤40;omega⟩
   ·obtain ⟨r1,r2⟩:=LogS.write_keeps b n { y.1 with chip:=(y.1.chip.program y.1.block (y.1.page:Nat) b).1,page:=y.1.page+1,block:= -1 } (by show y.1.page+1≤40;omega) (by have:=(hk.1.geo.trans hg).2.1;show (y.1.chip.program y.1.block (y.1.page:Nat) b).1.np≤32;omega)
    exact ⟨(LogS.Keeps.mk hk.1.facts hk.1.era (hk.1.geo.trans hg):s.Keeps { y.1 with chip:=(y.1.chip.program y.1.block (y.1.page:Nat) b).1,page:=y.1.page+1,block:= -1 }).trans r1,r2⟩
theorem uq9 {size:Int} {kind:UInt8} {body:List UInt8} (h:(ya6 size kind body).2=0):(ya6 size kind body).1≠[]:=by
 unfold ya6 at *
 split at h
 ·cases h
 ·split at h
  ·cases h
  ·rename_i h1 h2
   rw [if_neg h1,if_neg h2]
   intro he
   have hs:zh0 size=true:=by cases hb:zh0 size with | true=>rfl | false=>exact absurd (.inl hb) h1
   unfold zh0 at hs
   simp only [Bool.and_eq_true,decide_eq_true_eq] at hs
   have:=zt3 size.toNat kind body (by omega)
   rw [show zp9 size.toNat kind body=[] from he] at this
   simp at this
   omega
theorem qi4 {size:Int} {l:List zb2} (h:(putL size l).2=0):(putL size l).1≠[]:=by
 unfold putL at *
 split at h
 ·rename_i hm
  rw [if_pos hm]
  exact uq9 h
 ·cases h
theorem vp4 {size:Int} {l:List Fact}:∀ (cs:List Nat) (acc:List (List UInt8)),(∀ p∈acc,p≠[])→∀ p∈(zx2 size l cs acc).1,p≠[]
 | [],acc,h=>h
 | a :: cs,acc,h=>by
  obtain ⟨P,hP,key⟩: ∃ P,P=putL size (((l.take (match cs with | []=>l.length | b :: _=>b)).drop a).map ze4)∧zx2 size l (a :: cs) acc=(if P.2≠0 then ([],P.2) else zx2 size l cs (acc ++ [P.1])):=⟨_,rfl,by cases cs<;>rfl⟩
  rw [key]
  split
  ·simp
  ·rename_i h0
   refine vp4 cs _ fun p hp=>?_
   rcases List.mem_append.1 hp with hp | hp
   ·exact h p hp
   ·simp at hp
    rw [hp,hP]
    exact qi4 (by rw [← hP];omega)
theorem qe2 {size:Int} {l:List Fact}:∀ p∈(yo4 size l).1,p≠[]:=by
 unfold yo4
 split
 ·simp
 ·exact vp4 _ _ (by simp)
theorem LogS.anew_eq (s:LogS):s.anew=(if (yo4 s.chip.sz s.facts).2≠0 then (s,(yo4 s.chip.sz s.facts).2) else if s.take.2≠0 then s.take else
  if (LogS.writeAll ((yo4 s.chip.sz s.facts).1 ++ [(zq9 s.chip.sz s.take.1.pool.last).1]) s.take.1).2≠0 then LogS.writeAll ((yo4 s.chip.sz s.facts).1 ++ [(zq9 s.chip.sz s.take.1.pool.last).1]) s.take.1
  else LogS.freeAll s.take.1.pool.last (ownL s.era (zc1 (LogS.writeAll ((yo4 s.chip.sz s.facts).1 ++ [(zq9 s.chip.sz s.take.1.pool.last).1]) s.take.1).1.pool (LogS.writeAll ((yo4 s.chip.sz s.facts).1 ++ [(zq9 s.chip.sz s.take.1.pool.last).1]) s.take.1).1.chip)) (LogS.writeAll ((yo4 s.chip.sz s.facts).1 ++ [(zq9 s.chip.sz s.take.1.pool.last).1]) s.take.1).1):=rfl
theorem vj7 (room:Int):∀ (l:List Fact) (i from_ used:Nat),(yj1 room i from_ used l).length≤l.length
 | [],_,_,_=>Nat.le_refl _
 | f :: l,i,from_,used=>by
  unfold yj1
  split
  ·have:=vj7 room l (i+1) i (zv3 f)
   simp;exact this
  ·have:=vj7 room l (i+1) from_ (used+zv3 f)
   simp;omega
theorem vf5 {size:Int} {l:List Fact}:∀ (cs:List Nat) (acc:List (List UInt8)),(zx2 size l cs acc).1.length≤acc.length+cs.length
 | [],acc=>Nat.le_refl _
 | a :: cs,acc=>by
  obtain ⟨P,_,key⟩: ∃ P,P=putL size (((l.take (match cs with | []=>l.length | b :: _=>b)).drop a).map ze4)∧zx2 size l (a :: cs) acc=(if P.2≠0 then ([],P.2) else zx2 size l cs (acc ++ [P.1])):=⟨_,rfl,by cases cs<;>rfl⟩
  rw [key]
  split
  ·simp
  ·have:=vf5 (size:=size) (l:=l) cs (acc ++ [P.1])
   simp at this ⊢
   omega
theorem ux5 {size:Int} {l:List Fact}:(yo4 size l).1.length≤l.length:=by
 unfold yo4
 split
 ·exact Nat.zero_le _
 ·have h1:=vf5 (size:=size) (l:=l) (yl0 size l).1 []
  have h2:(yl0 size l).1.length≤l.length:=by
   unfold yl0
   split
   ·exact Nat.zero_le _
   ·split
    ·exact Nat.zero_le _
    ·split
     ·exact Nat.zero_le _
     ·exact vj7 _ _ _ _ _
  simp at h1
  omega
abbrev clo1 (B1 B3:Nat):Value:=.func (.func K.zs6) #[] #[.pointer (some ⟨B1,0,none⟩),.pointer (some ⟨B3,0,none⟩)]
abbrev clo2 (B1 b:Nat):Value:=.func (.func K.zs5) #[] #[.pointer (some ⟨B1,0,none⟩),.pointer (some ⟨b,0,none⟩)]
abbrev clo3 (B2 B3 B1:Nat):Value:=.func (.func K.zs4) #[] #[.pointer (some ⟨B2,0,none⟩),.pointer (some ⟨B3,0,none⟩),.pointer (some ⟨B1,0,none⟩)]
def un0 (lo:Nat) (u:World) (bs:List Nat) (pages:List (List UInt8)):Prop:=∀ (k:Nat) (hk:k<bs.length) (hp:k<pages.length),lo≤bs[k]∧∃ a c,u.heap[bs[k]]?=some (.cells #[.slice a pages[k].length c] T.zu0 (0,0))
theorem un0.upd {lo:Nat} {F:Nat→Prop} {u u':World} {bs:List Nat} {pages:List (List UInt8)} (h:un0 lo u bs pages) (k:Upd F u u') (hF:∀ x,F x→x<lo∨∃ cs fr,u.heap[x]?=some (.cells cs T.zy0 fr)):un0 lo u' bs pages:=fun i hi hp=>by
 obtain ⟨h1,a,c,g⟩:=h i hi hp
 refine ⟨h1,a,c,k.get g fun hf=>?_⟩
 rcases hF _ hf with hx | ⟨cs,fr,hx⟩
 ·omega
 ·rw [g] at hx
  injection hx with hx
  injection hx with _ hx _
  exact absurd hx (by decide)
theorem zb6.typed {w:World} {b len cap size:Nat} {e:TypeId} {cells:List Value} (h:zb6 w (some ⟨b,0,none⟩) len cap e size cells):∃ cs fr,w.heap[b]?=some (.cells cs e fr):=by
 obtain ⟨_,_,h⟩:=h
 rcases h with ⟨h,_⟩| ⟨b',cur,h,hb,_⟩
 ·cases h
 ·cases h;exact ⟨_,_,hb⟩
theorem xa2 {F X:Nat→Prop} {w:World} {q:Nat} {M:PLoc} {s:LogS} (h:zo1 F X w q M s) (hS:∀ x,F x→x<w.heap.size) (hXS:∀ x,X x→x<w.heap.size) (hnb:s.chip.nb<20) (hpg:s.page≤40)
  (hfn:xh7 s.facts) (hfv:∀ f∈s.facts,f.val.length≤1000000000000) (hfl:s.facts.length≤100000000) (hlast:s.take.1.pool.last<18446744073709551616) :
  za0 prog K.zu4 #[.pointer (some ⟨q,0,none⟩)] w fun v w'=>v= .int .i64 (s.anew.2:Nat)∧Upd (LogF F q) w w'∧zo1 F X w' q M s.anew.1:=by
 obtain ⟨r,hr⟩: ∃ r,r=s.anew:=⟨_,rfl⟩
 rw [← hr]
 rw [LogS.anew_eq] at hr
 apply zu4.sh
 suffices H:∀ R:Value→World→Prop,(∀ v w',v= .int .i64 (r.2:Nat)∧Upd (LogF F q) w w'∧zo1 F X w' q M r.1→R v w')→zu4.body (some ⟨q,0,none⟩) w R from H _ fun _ _ h=>h
 intro R hR
 unfold zu4.body
 have hok:=h.pool.pin.chip.ok
 have hnp2:=hok.np2
 have hql:=h.lt
 intro B1 w1 hn1
 have hB1:B1=w.heap.size:=hn1.num
 have hs1:=hn1.size
 have g1:w1.heap[B1]?=some (.cells #[.pointer (some ⟨q,0,none⟩)] T.yw7 (0,0)):=hn1.get
 refine ⟨_,za2 g1 rfl,?_⟩
 simp only [nilC_some',add_lit,Nat.zero_add]
 refine ⟨_,(h.ext hn1.upd).cell (i:=0) (fun _ _=>rfl),(ur5 (h.ext hn1.upd).pool.pin).mono ?_⟩
 rintro _ u ⟨rfl,hu⟩
 obtain rfl:w1=u:=hu.symm
 refine ⟨_,rfl,(cGeo (h.ext hn1.upd).pool.pin.chip).mono ?_⟩
 rintro _ w3 ⟨rfl,he3⟩
 have hs3:=he3.size
 refine ⟨_,_,_,_,rfl,zu7 rfl fun B2 w5 hB2 hs5 e5 g2=>?_⟩
 intro w6 hd6
 have e16:Ext w1 w6:=(he3.trans e5).trans hd6.upd
 have e6:Ext w w6:=hn1.upd.trans e16
 have h6:=h.ext e6
 have g16:=Ext.get e16 g1
 have g26:w6.heap[B2]?=some (.cells #[.int .i64 (s.chip.sz:Nat)] T.int (0,0)):=Ext.get hd6.upd g2
 have hs6:w6.heap.size=w5.heap.size:=by rw [hd6.heap]
 refine ⟨fun v=>Ext w6 v,Upd.refl _ _,_,fun v hv=>za2 (Ext.get hv g26) rfl,_,fun v hv=>za2 (Ext.get hv g16) rfl,?_⟩
 simp only [nilC_some',add_lit,Nat.zero_add]
 obtain ⟨af,cf,gq,Gf,hGf,hGf'⟩:=h6.head
 refine ⟨af,_,cf,fun v hv=>za2 (Ext.get hv gq) rfl,(vf8 hGf (fun b hb=>(hGf' b hb).2.2) hfn hfv hfl (s.chip.sz:Nat)).mono ?_⟩
 have hpne:=qe2 (size:=(s.chip.sz:Nat)) (l:=s.facts)
 have hpl:=ux5 (size:=(s.chip.sz:Nat)) (l:=s.facts)
 generalize yo4 (s.chip.sz:Nat) s.facts=P at *
 obtain ⟨pages,pe⟩:=P
 simp only at hpne hpl hr ⊢
 rintro _ w7 ⟨a2,c2,rfl,hl7,he7⟩
 have hs7:=he7.size
 have e7:=e6.trans he7
 refine ⟨_,_,_,_,rfl,he7,zg8 (fun hne=>?_) fun h0=>?_⟩
 ·rw [if_pos (by omega)] at hr
  rw [hr] at hR
  exact hR _ _ ⟨rfl,Upd.ext e7,h.ext e7⟩
 rw [if_neg (by omega)] at hr
 refine zu7 rfl fun B3 w9 hB3 hs9 e9 g3=>?_
 intro B4 w10 hn10
 have hs10:=hn10.size
 have e710:=e9.trans hn10.upd
 obtain ⟨G7,hG7,hG7'⟩:=hl7.slice
 have hrow10:zb6 w10 (some ⟨B4,0,none⟩) 1 1 T.zy0 1 [clo1 B1 B3]:=zb6.new hn10 rfl
 have hB4:B4=w9.heap.size:=hn10.num
 refine ⟨fun a3 l3 c3 x u=>∃ (i:Nat) (bs:List Nat),x=i∧i≤pages.length∧bs.length=i∧l3=i+1∧zb6 u a3 (i+1) c3 T.zy0 1 (clo1 B1 B3 :: bs.map (clo2 B1))∧zm9 w9 a3∧un0 w9.heap.size u bs pages∧(∀ (k:Nat) (hk:k<bs.length) (hp:k<pages.length) a c,u.heap[bs[k]]?=some (.cells #[.slice a pages[k].length c] T.zu0 (0,0))→za4 w7 a pages[k]∧∀ p,a=some p→w6.heap.size≤p.block∧p.block<w7.heap.size)∧Ext w9 u,fun _ _ _ x _=>((pages.length:Int) - x).toNat,
  ⟨0,[],rfl,by omega,rfl,rfl,hrow10,zm9.some (by omega),fun k hk=>absurd hk (by simp),fun k hk=>absurd hk (by simp),hn10.upd⟩,?_⟩
 rintro a3 l3 c3 x u ⟨i,bs,rfl,hi,hbl,rfl,ho,hfr,hbx,hby,heu⟩
 have hsu:=heu.size
 have ha3:∀ b,a3=some ⟨b,0,none⟩→w9.heap.size≤b∧b<u.heap.size:=fun b hb=>⟨hfr _ hb,ho.blk hb⟩
 refine za8 (fun hlt=>?_) fun hge=>?_
 ·have hi':i<pages.length:=by omega
  have ew:IntKind.i64.wrap ((i:Int)+1)=((i+1:Nat):Int):=w64 (by omega) (by omega)
  simp only [ew]
  have e7u:=e9.trans heu
  refine zb0.idx (r:=xh2) (hG7.ext e7u) rfl hi' fun b o vs _ hrow hR' _=>?_
  obtain ⟨av,cv,rfl,hcv,hbv,hgv⟩:=hR'
  refine ⟨av,pages[i].length,cv,(by have h1:=hrow.cells.1;rw [add_zero] at h1;exact h1),zu7 (vs:=[Value.slice av pages[i].length cv]) rfl fun B5 w13 hB5 hs13 e13 g5=>fun B6 w14 hn14=>?_⟩
  have hs14:=hn14.size
  have e14:=e13.trans hn14.upd
  have g514:=Ext.get hn14.upd g5
  refine yb0 (ho.ext e14) rfl (zu8 (za6.of hn14.get (vs:=[clo2 B1 B5]) fun j v hj=>by simpa using hj) rfl) rfl (fun v hv=>by simp at hv;rw [hv];rfl) rfl (by omega) (by omega) fun a' c' w15 hu15 ho15 hf15=>?_
  have hb5ne:∀ x,a3=some ⟨x,0,none⟩→B5≠x:=fun x hx=>by have:=ha3 x hx;omega
  have g515:w15.heap[B5]?=some (.cells #[.slice av pages[i].length cv] T.zu0 (0,0)):=hu15.get g514 fun hx=>hb5ne _ hx rfl
  have hbx14:un0 w9.heap.size w14 bs pages:=hbx.upd (Upd.ext (F:=NoB) e14) fun x hx=>hx.elim
  have hbx15:un0 w9.heap.size w15 bs pages:=hbx14.upd hu15 fun x hx=>by
   subst hx
   exact .inr (zb6.typed (ho.ext e14))
  have hgb:∀ k (hk:k<bs.length) (hp:k<pages.length),bs[k]<u.heap.size∧w15.heap[bs[k]]?=u.heap[bs[k]]?:=fun k hk hp=>by
   obtain ⟨h1,a,c,g⟩:=hbx k hk hp
   obtain ⟨_,a',c',g'⟩:=hbx15 k hk hp
   have hltb:=(Array.getElem?_eq_some_iff.1 g).1
   refine ⟨hltb,?_⟩
   have g14:=Ext.get e14 g
   by_cases hx:a3=some ⟨bs[k],0,none⟩
   ·subst hx
    obtain ⟨cs,fr,gt⟩:=zb6.typed ho
    rw [g] at gt
    injection gt with gt
    injection gt with _ gt _
    exact absurd gt (by decide)
   ·rw [g];exact hu15.get g14 hx
  refine ⟨⟨i+1,bs ++ [B5],rfl,hi',by simp [hbl],rfl,by simpa using ho15,?_,?_,?_,Upd.beyond (heu.trans e14) hu15 fun x hx=>(ha3 x hx).1⟩,meas hi'⟩
  ·rcases hf15 with rfl | ⟨b',rfl,hb'⟩
   ·exact hfr
   ·exact zm9.some (by omega)
  ·intro k hk hp
   by_cases hki:k<bs.length
   ·rw [List.getElem_append_left hki]
    exact hbx15 k hki hp
   ·have hke:k=i:=by simp at hk;omega
    subst hke
    rw [List.getElem_append_right (by omega)]
    simp only [hbl,Nat.sub_self,List.getElem_cons_zero]
    exact ⟨by omega,av,cv,g515⟩
  ·intro k hk hp a c g
   by_cases hki:k<bs.length
   ·rw [List.getElem_append_left hki] at g
    rw [(hgb k hki hp).2] at g
    exact hby k hki hp a c g
   ·have hke:k=i:=by simp at hk;omega
    subst hke
    rw [List.getElem_append_right (by omega)] at g
    simp only [hbl,Nat.sub_self,List.getElem_cons_zero] at g
    rw [g515] at g
    injection g with g
    injection g with g _ _
    injection g with g
    injection g with g _
    injection g with ga _ gc
    subst ga;subst gc
    have hne:=hpne _ (List.getElem_mem hi')
    have hreg:∀ p,av=some p→w6.heap.size≤p.block∧p.block<w7.heap.size:=fun p hp=>by
     have:=hG7' _ (hgv hne p hp)
     rcases this.1 with h | h
     ·exact ⟨h,this.2⟩
     ·exact h.elim
    refine ⟨?_,hreg⟩
    obtain ⟨bb,oo,hab,_⟩:=za6.blk hbv (by simpa using hne)
    subst hab
    have hrg:=hreg _ rfl
    rcases hbv with hbv | ⟨b9,o9,cur,T9,fr,hab9,hb9,hv9⟩
    ·exact .inl hbv
    ·cases hab9
     refine .inr ⟨_,_,cur,T9,fr,rfl,?_,hv9⟩
     rw [← e7u.blk _ hrg.2 (fun h=>h)]
     exact hb9
 ·have hii:i=pages.length:=by omega
  subst hii
  intro B7 w16 hn16
  have hs16:=hn16.size
  refine yb0 (ho.ext hn16.upd) rfl (zu8 (za6.of hn16.get (vs:=[clo3 B2 B3 B1]) fun j v hj=>by simpa using hj) rfl) rfl (fun v hv=>by simp at hv;rw [hv];rfl) rfl (by omega) (by omega) fun a6 c6 w17 hu17 ho17 hf17=>?_
  have hs17:=hu17.size
  have hbx17:un0 w9.heap.size w17 bs pages:=(hbx.upd (Upd.ext (F:=NoB) hn16.upd) fun x hx=>hx.elim).upd hu17 fun x hx=>by
   subst hx
   exact .inr (zb6.typed (ho.ext hn16.upd))
  have e917:Ext w9 w17:=Upd.beyond (heu.trans hn16.upd) hu17 fun x hx=>(ha3 x hx).1
  have hby17:∀ (k:Nat) (hk:k<bs.length) (hp:k<pages.length) a c,w17.heap[bs[k]]?=some (.cells #[.slice a pages[k].length c] T.zu0 (0,0))→za4 w7 a pages[k]∧∀ p,a=some p→w6.heap.size≤p.block∧p.block<w7.heap.size:=fun k hk hp a c g=>by
   obtain ⟨h1,a',c',g'⟩:=hbx k hk hp
   have g16':=Ext.get hn16.upd g'
   by_cases hx:a3=some ⟨bs[k],0,none⟩
   ·subst hx
    obtain ⟨cs,fr,gt⟩:=zb6.typed ho
    rw [g'] at gt
    injection gt with gt
    injection gt with _ gt _
    exact absurd gt (by decide)
   ·rw [hu17.get g16' hx] at g
    injection g with g
    injection g with g _ _
    injection g with g
    injection g with g _
    injection g with ga _ gc
    subst ga;subst gc
    exact hby k hk hp a' c' g'
  have hf6:∀ b,a6=some ⟨b,0,none⟩→w9.heap.size≤b:=fun b hb=>by
   rcases hf17 with rfl | ⟨b',rfl,hb'⟩
   ·exact (ha3 b hb).1
   ·cases hb;omega
  have htodo:∀ k (hk:k<pages.length),(clo1 B1 B3 :: bs.map (clo2 B1) ++ [clo3 B2 B3 B1])[k+1]?=some (clo2 B1 (bs[k]'(by omega))):=fun k hk=>by
   have:(bs.map (clo2 B1)).length=pages.length:=by simp [hbl]
   rw [List.cons_append,List.getElem?_cons_succ,List.getElem?_append_left (by omega),List.getElem?_map,List.getElem?_eq_getElem (by omega:k<bs.length)]
   rfl
  have htodo3:(clo1 B1 B3 :: bs.map (clo2 B1) ++ [clo3 B2 B3 B1])[pages.length+1]?=some (clo3 B2 B3 B1):=by
   have:(bs.map (clo2 B1)).length=pages.length:=by simp [hbl]
   rw [List.cons_append,List.getElem?_cons_succ,List.getElem?_append_right (by omega),this]
   simp
  generalize htd:clo1 B1 B3 :: bs.map (clo2 B1) ++ [clo3 B2 B3 B1]=todo at ho17 htodo htodo3
  have htodo0:todo[0]?=some (clo1 B1 B3):=by rw [← htd];rfl
  have e17:Ext w w17:=(e7.trans e9).trans e917
  have h17:=h.ext e17
  have g117:=Ext.get ((he7.trans e9).trans e917) g16
  have g217:=Ext.get ((he7.trans e9).trans e917) g26
  have g317:=Ext.get e917 g3
  have hB3':w7.heap.size≤B3∧B3<w9.heap.size:=by omega
  have nF:∀ x,w.heap.size≤x→¬ LogF F q x:=fun x hx hf=>by
   rcases hf with hf | hf
   ·have:=hS x hf;omega
   ·omega
  obtain ⟨all,hall⟩: ∃ all,all=pages ++ [(zq9 (s.chip.sz:Nat) s.take.1.pool.last).1]:=⟨_,rfl⟩
  rw [← hall] at hr
  have halll:all.length=pages.length+1:=by rw [hall];simp
  have hsk:=s.take_keeps
  have htp:=s.take_page hpg
  refine ⟨fun x u=>∃ k:Nat,x=k∧k≤pages.length+2∧Upd (fun y=>LogF F q y∨y=B3) w17 u∧((k=0∧zo1 F X u q M s∧u.heap[B3]?=some (.cells #[.int .u64 0] T.xv8 (0,0)))∨(1≤k∧s.take.2=0∧∃ t:LogS,zo1 F X u q M t∧s.Keeps t∧t.page≤40∧u.heap[B3]?=some (.cells #[.int .u64 s.take.1.pool.last] T.xv8 (0,0))∧LogS.writeAll (all.drop (k - 1)) t=LogS.writeAll all s.take.1)),fun x _=>(((pages.length+2:Nat):Int) - x).toNat,
   ⟨0,rfl,by omega,Upd.refl _ _,.inl ⟨rfl,h17,g317⟩⟩,?_⟩
  rintro x u' ⟨k,rfl,hk,huk,hst⟩
  have hwu:Upd (fun y=>LogF F q y∨y=B3) w u':=(Upd.ext e17).trans huk
  have hwq:∀ {v:World},Upd (fun y=>LogF F q y∨y=B3) w v→Upd (LogF F q) w v:=fun hv=>(Upd.refl _ w).over hv fun y hy=>by
   rcases hy with hy | hy
   ·exact .inl hy
   ·exact .inr (by omega)
  have kB:∀ b,w.heap.size≤b→b≠B3→∀ {o:Obj},w17.heap[b]?=some o→u'.heap[b]?=some o:=fun b hb hne {o} g=>huk.get g fun hf=>by
   rcases hf with hf | hf
   ·exact nF b hb hf
   ·exact hne hf
  have gk1:=kB B1 (by omega) (by omega) g117
  have gk2:=kB B2 (by omega) (by omega) g217
  have hsu':=huk.size
  have hrowu:za6 u' a6 todo:=by
   refine za6.upd ho17.row huk fun p hp hf=>?_
   obtain ⟨_,_,hx⟩:=ho17
   rcases hx with ⟨hx,_⟩| ⟨b',_,hx,_⟩
   ·rw [hx] at hp;cases hp
   ·have h6':=hf6 b' hx
    rw [hx] at hp
    cases hp
    rcases hf with hf | hf
    ·exact nF b' (by omega) hf
    ·have:b'=B3:=hf
     omega
  refine za8 (fun hltk=>?_) fun hgek=>?_
  ·have hk':k<pages.length+2:=by omega
   have ewk:IntKind.i64.wrap ((k:Int)+1)=((k+1:Nat):Int):=w64 (by omega) (by omega)
   simp only [ewk]
   have hvk:∃ v4,todo[k]?=some v4:=⟨_,List.getElem?_eq_getElem (by rw [← htd];simp [hbl];omega)⟩
   obtain ⟨v4,hv4⟩:=hvk
   obtain ⟨b6,o6,rfl,hc6⟩:=hrowu.cell hv4
   refine ⟨by omega,by omega,?_⟩
   simp only [nilC_some',add_lit,Nat.mul_one,Int.toNat_natCast]
   refine ⟨v4,hc6,?_⟩
   rcases hst with ⟨rfl,hlk,gk30⟩| ⟨hk1,htk,t,hlk,hkeep,htpg,gk3,hwa⟩
   ·rw [htodo0] at hv4
    cases hv4
    refine (show yp7 (clo1 B1 B3) [] u' _ from ⟨by kernel_rfl,(um8 (n:=0) hlk gk1 gk30 (nF _ (by omega)) (nF _ (by omega)) (fun hx=>by have:=hXS _ hx;omega)).mono ?_⟩)
    rintro _ u1 ⟨rfl,ht1,g31,hu1⟩
    refine ⟨_,rfl,zg8 (fun hne=>?_) fun hz=>?_⟩
    ·rw [if_pos (by omega)] at hr
     rw [hr] at hR
     exact hR _ _ ⟨rfl,hwq (hwu.trans hu1),ht1⟩
    ·exact ⟨⟨1,rfl,by omega,huk.trans hu1,.inr ⟨Nat.le_refl _,by omega,s.take.1,ht1,hsk,htp,g31,rfl⟩⟩,by omega⟩
   ·rw [if_neg (by omega)] at hr
    have step:∀ (pg:List UInt8) (hkl:k - 1<all.length),all[k - 1]=pg→∀ u1,zo1 F X u1 q M (t.write pg t.fuel).1→Upd (LogF F q) u' u1→br (((t.write pg t.fuel).2:Int) != 0) (R (.int .i64 ((t.write pg t.fuel).2:Nat)) u1) ((∃ k':Nat,((k+1:Nat):Int)=k'∧k'≤pages.length+2∧Upd (fun y=>LogF F q y∨y=B3) w17 u1∧((k'=0∧zo1 F X u1 q M s∧u1.heap[B3]?=some (.cells #[.int .u64 0] T.xv8 (0,0)))∨(1≤k'∧s.take.2=0∧∃ t:LogS,zo1 F X u1 q M t∧s.Keeps t∧t.page≤40∧u1.heap[B3]?=some (.cells #[.int .u64 s.take.1.pool.last] T.xv8 (0,0))∧LogS.writeAll (all.drop (k' - 1)) t=LogS.writeAll all s.take.1)))∧
      (((pages.length+2:Nat):Int) - ((k+1:Nat):Int)).toNat<(((pages.length+2:Nat):Int) - (k:Int)).toNat):=fun pg hkl hpgk u1 ht1 hu1=>by
     have hed:all.drop (k - 1)=pg :: all.drop k:=by
      rw [List.drop_eq_getElem_cons hkl,hpgk]
      congr 2
      omega
     rw [hed] at hwa
     have hwk:=LogS.write_keeps pg t.fuel t htpg (by have:=hkeep.geo.2.1;omega)
     have u17:=huk.trans (hu1.mono fun x _ hx=>.inl hx)
     have hwu1:=hwu.trans (hu1.mono fun x _ hx=>.inl hx)
     refine zg8 (fun hne=>?_) fun hz=>?_
     ·have hwa':LogS.writeAll all s.take.1=t.write pg t.fuel:=by
       rw [← hwa]
       show (if (t.write pg t.fuel).2≠0 then t.write pg t.fuel else _)=_
       rw [if_pos (by omega)]
      rw [hwa',if_pos (by omega)] at hr
      rw [hr] at hR
      exact hR _ _ ⟨rfl,hwq hwu1,ht1⟩
     ·refine ⟨⟨k+1,rfl,by omega,u17,.inr ⟨by omega,htk,(t.write pg t.fuel).1,ht1,hkeep.trans hwk.1,hwk.2,hu1.get gk3 (nF _ (by omega)),?_⟩⟩,by omega⟩
      rw [← hwa,Nat.add_sub_cancel]
      show _=(if (t.write pg t.fuel).2≠0 then t.write pg t.fuel else _)
      rw [if_neg (by omega)]
    by_cases hkp:k - 1<pages.length
    ·have hbk:k - 1<bs.length:=by omega
     have hk2:k=(k - 1)+1:=by omega
     rw [hk2,htodo (k - 1) hkp] at hv4
     cases hv4
     obtain ⟨hlo,ab,cb,gb⟩:=hbx17 (k - 1) hbk hkp
     obtain ⟨hb7,hbr⟩:=hby17 (k - 1) hbk hkp ab cb gb
     have gbu:=kB bs[k - 1] (by omega) (by omega) gb
     have hbu:za4 u' ab pages[k - 1]:=za6.upd (hb7.ext (e9.trans e917)) huk fun p hp hf=>by
      have:=hbr p hp
      rcases hf with hf | hf
      ·exact nF _ (by omega) hf
      ·have:p.block=B3:=hf
       omega
     refine (show yp7 (clo2 B1 bs[k - 1]) [] u' _ from ⟨by kernel_rfl,(um7 hlk gk1 gbu hbu (fun p hp=>⟨fun hf=>nF _ (by have:=hbr p hp;omega) (.inl hf),fun e=>nF _ (by have:=hbr p hp;omega) (.inr e)⟩) (by omega)).mono ?_⟩)
     rintro _ u1 ⟨rfl,ht1,hu1⟩
     exact ⟨_,rfl,step pages[k - 1] (by omega) (by subst hall;exact List.getElem_append_left hkp) u1 ht1 hu1⟩
    ·have hke:k=pages.length+1:=by omega
     subst hke
     rw [htodo3] at hv4
     cases hv4
     have hsz:s.chip.sz=s.chip.sz:=rfl
     refine (show yp7 (clo3 B2 B3 B1) [] u' _ from ⟨by kernel_rfl,(um6 hlk gk1 gk2 gk3 hlast (fun x hx=>by have:=hS x hx;have:=e17.size;omega) (by omega)).mono ?_⟩)
     rintro _ u1 ⟨rfl,ht1,hu1⟩
     refine ⟨_,rfl,step _ (by omega) ?_ u1 ht1 hu1⟩
     subst hall
     rw [List.getElem_append_right (by omega)]
     simp
  ·have hke:k=pages.length+2:=by omega
   subst hke
   rcases hst with ⟨h00,_⟩| ⟨_,htk,t,hlk,hkeep,htpg,gk3,hwa⟩
   ·omega
   have hdr:all.drop (pages.length+2 - 1)=[]:=List.drop_eq_nil_of_le (by omega)
   rw [hdr] at hwa
   have hwa':LogS.writeAll all s.take.1=(t,0):=hwa.symm
   rw [if_neg (by omega),hwa',if_neg (by simp)] at hr
   simp only at hr
   intro w20 hd20
   have h20:=hlk.ext hd20.upd
   have g120:=Ext.get hd20.upd gk1
   have g320:=Ext.get hd20.upd gk3
   have hwu20:=hwu.then hd20.upd
   have hs20:w20.heap.size=u'.heap.size:=by rw [hd20.heap]
   refine ⟨fun v=>Ext w20 v,Upd.refl _ _,_,fun v hv=>za2 (Ext.get hv g120) rfl,?_⟩
   simp only [nilC_some',add_lit,Nat.zero_add]
   refine ⟨_,fun v hv=>(h20.ext hv).cell (i:=0) (fun _ _=>rfl),_,fun v hv=>za2 (Ext.get hv g120) rfl,?_⟩
   simp only [nilC_some',add_lit,Nat.zero_add]
   have hnbt:t.chip.nb<20:=by have:=hkeep.geo.1;omega
   refine ⟨_,fun v hv=>(h20.ext hv).cell (i:=1) (fun _ _=>rfl),(xx1 h20.pool.pin hnbt t.era).mono ?_⟩
   have hLl:(ownL t.era (zc1 t.pool t.chip)).length≤20:=by
    unfold ownL zc1
    have h1:=List.length_filter_le (fun x:zb7=>decide (x.head.kind=1) && decide (x.head.era=t.era)) (yx1 zh1 (zt0 t.pool t.chip t.chip.nb))
    rw [yb6] at h1
    have h2:=zs9 t.pool t.chip t.chip.nb
    omega
   rw [hkeep.era] at hLl ⊢
   generalize ownL s.era (zc1 t.pool t.chip)=L at *
   generalize s.take.1.pool.last=first at *
   rintro _ w21 ⟨he21,a7,c7,rfl,ho21,hf21⟩
   have hs21:=he21.size
   refine ⟨_,_,_,rfl,he21,fun x u=>∃ (i:Nat) (t':LogS),x=i∧i≤L.length∧zo1 F X u q M t'∧LogS.freeAll first (L.drop i) t'=r∧Upd (LogF F q) w21 u,fun x _=>((L.length:Int) - x).toNat,⟨0,t,rfl,by omega,h20.ext he21,hr.symm,Upd.refl _ _⟩,?_⟩
   rintro x u ⟨i,t',rfl,hi2,ht',hfa,hu22⟩
   have hs22:=hu22.size
   have hwu22:Upd (LogF F q) w u:=(hwq (hwu20.then he21)).trans hu22
   refine za8 (fun hlt2=>?_) fun hge2=>?_
   ·have hi':i<L.length:=by omega
    have ew:IntKind.i64.wrap ((i:Int)+1)=((i+1:Nat):Int):=w64 (by omega) (by omega)
    simp only [ew]
    have hsz0:=hwu20.size
    have hrow22:za6 u a7 (L.flatMap zb7.vals):=za6.upd ho21.row hu22 fun p hp hf=>nF _ (by have:w20.heap.size≤p.block:=hf21 p hp;omega) hf
    have hed:L.drop i=L[i] :: L.drop (i+1):=List.drop_eq_getElem_cons hi'
    refine zx3 (f:=zb7.vals) (k:=5) (fun _=>rfl) (by decide) hrow22 rfl hi' fun b o ha hrr=>?_
    refine ⟨_,_,_,_,_,hrr.cells,zu7 (vs:=L[i].vals) rfl fun B8 w24 hB8 hs24 e24 g8=>?_⟩
    have h24:=ht'.ext e24
    have g124:=Ext.get e24 (hu22.get (Ext.get he21 g120) (nF _ (by omega)))
    have g324:=Ext.get e24 (hu22.get (Ext.get he21 g320) (nF _ (by omega)))
    have hwu24:=hu22.then e24
    have next:∀ {u3:World} {t3:LogS},zo1 F X u3 q M t3→LogS.freeAll first (L.drop (i+1)) t3=r→Upd (LogF F q) w21 u3→(∃ (k:Nat) (t':LogS),((i+1:Nat):Int)=k∧k≤L.length∧zo1 F X u3 q M t'∧LogS.freeAll first (L.drop k) t'=r∧Upd (LogF F q) w21 u3)∧((L.length:Int) - ((i+1:Nat):Int)).toNat<((L.length:Int) - (i:Int)).toNat:=fun ht3 hf3 hu3=>⟨⟨i+1,_,rfl,hi',ht3,hf3,hu3⟩,meas hi'⟩
    rw [hed] at hfa
    refine ⟨_,za2 g8 rfl,_,za2 g324 rfl,za8 (fun hge3=>next h24 ?_ hwu24) fun hlt3=>⟨_,za2 g8 rfl,zc0 (fun hbad=>next h24 ?_ hwu24) fun hbad=>?_⟩⟩
    ·rw [← hfa]
     show _=(if _ then _ else _)
     rw [if_pos (.inl (by omega))]
    ·rw [← hfa]
     show _=(if _ then _ else _)
     rw [if_pos (.inr hbad)]
    ·intro w25 hd25
     have h25:=h24.ext hd25.upd
     obtain ⟨aq,cq,gq25,_⟩:=h25.head
     have g125:=Ext.get hd25.upd g124
     have g825:=Ext.get hd25.upd g8
     refine ⟨fun v=>v.heap[B1]?=some (.cells #[.pointer (some ⟨q,0,none⟩)] T.yw7 (0,0))∧v.heap[q]?=some (.cells (uz7 M t' aq cq).toArray T.vu6 (0,0))∧v.heap[B8]?=some (.cells L[i].vals.toArray T.zc6 (0,0)),⟨g125,gq25,g825⟩,_,fun v hv=>za2 hv.1 rfl,?_⟩
     simp only [nilC_some',add_lit,Nat.zero_add]
     refine ⟨_,fun v hv=>za2 hv.2.1 rfl,_,fun v hv=>za2 hv.2.2 rfl,(qm4 h25.pool (L[i].block:Nat)).mono ?_⟩
     rintro _ w26 ⟨rfl,hu26,hp26⟩
     have hs26:=hu26.size
     have nFx:∀ x,w.heap.size≤x→¬ F x:=fun x hx hf=>nF x hx (.inl hf)
     refine ⟨_,rfl,⟨hu26.get g125 (nFx _ (by omega)),hu26.get gq25 h.out,hu26.get g825 (nFx _ (by omega))⟩,?_⟩
     have h26:=h25.step hu26 hp26
     have u26:Upd (LogF F q) w21 w26:=(hwu24.then hd25.upd).trans (hu26.mono fun x _ hx=>.inl hx)
     have hf':LogS.freeAll first (L[i] :: L.drop (i+1)) t'=(if (zd1 t'.pool t'.chip L[i].block).2.2≠0 then ({ t' with pool:=(zd1 t'.pool t'.chip L[i].block).1,chip:=(zd1 t'.pool t'.chip L[i].block).2.1 },(zd1 t'.pool t'.chip L[i].block).2.2) else LogS.freeAll first (L.drop (i+1)) { t' with pool:=(zd1 t'.pool t'.chip L[i].block).1,chip:=(zd1 t'.pool t'.chip L[i].block).2.1 }):=by
      show (if _ then _ else _)=_
      rw [if_neg (by rintro (h | h);omega;rw [h] at hbad;cases hbad)]
     rw [hf'] at hfa
     refine zg8 (fun hne=>?_) fun hz=>?_
     ·rw [if_pos (by omega)] at hfa
      rw [← hfa] at hR
      exact hR _ _ ⟨rfl,(hwq (hwu20.then he21)).trans u26,h26⟩
     ·rw [if_neg (by omega)] at hfa
      exact next h26 hfa u26
   ·have hii2:i=L.length:=by omega
    subst hii2
    rw [List.drop_length] at hfa
    have hfa':r=(t',0):=hfa.symm
    rw [hfa'] at hR
    exact hR _ _ ⟨rfl,hwu22,ht'⟩
section
theorem vo8 (P:Pool):P.raise.last<18446744073709551616:=Nat.mod_lt _ (by decide)
theorem qd4 (P:Pool) (c:Chip) (i:Nat) (kind:UInt8) (era:Nat) (h:P.last<18446744073709551616):(zo2 P c i kind era).1.last<18446744073709551616:=by
 unfold zo2
 split
 ·split
  ·exact h
  ·exact vo8 _
 ·exact vo8 _
theorem xl9 (kind:UInt8) (era:Nat):∀ (ks:List Nat) (P:Pool) (c:Chip),P.last<18446744073709551616→(zp3 kind era P c ks).pool.last<18446744073709551616
 | [],P,c,h=>h
 | k :: ks,P,c,h=>by
  unfold zp3
  split
  ·exact xl9 kind era ks P c h
  ·have h1:=qd4 P c ((P.turn+k) % c.nb) kind era h
   split
   ·exact h1
   ·split
    ·exact h1
    ·exact xl9 kind era ks _ _ h1
theorem vt1 (P:Pool) (c:Chip) (kind:UInt8) (era:Nat) (h:P.last<18446744073709551616):(zf0 P c kind era).pool.last<18446744073709551616:=by
 unfold zf0
 split
 ·exact h
 ·split
  ·exact h
  ·exact xl9 kind era _ P c h
theorem LogS.take_last (s:LogS) (h:s.pool.last<18446744073709551616):s.take.1.pool.last<18446744073709551616:=by
 have:=vt1 s.pool s.chip 1 s.era h
 unfold LogS.take
 simp only
 split<;>exact this
theorem LogS.write_last (b:List UInt8):∀ (n:Nat) (s:LogS),s.pool.last<18446744073709551616→(s.write b n).1.pool.last<18446744073709551616
 | 0,s,h=>h
 | n+1,s,h=>by
  rw [LogS.write_step]
  obtain ⟨y,hy⟩: ∃ y,y=(if s.block= -1∨s.page≥s.chip.np then s.take else (s,0)):=⟨_,rfl⟩
  rw [← hy]
  have hk:y.1.pool.last<18446744073709551616:=by
   subst hy
   split
   ·exact s.take_last h
   ·exact h
  split
  ·exact hk
  ·split
   ·exact hk
   ·exact LogS.write_last b n _ hk
theorem vw0 (P:Pool) (c:Chip) (i:Int):(zd1 P c i).1.last=P.last:=by
 unfold zd1
 split<;>rfl
structure LogS.Fit (s:LogS):Prop where
 nb:s.chip.nb<20
 np:s.chip.np≤32
 sp:s.chip.sp≤4
 page:s.page≤40
 last:s.pool.last<18446744073709551616
theorem LogS.Fit.of {s t:LogS} (h:s.Fit) (k:s.Keeps t) (hp:t.page≤40) (hl:t.pool.last<18446744073709551616):t.Fit :=
 ⟨by rw [k.geo.1];exact h.nb,by rw [k.geo.2.1];exact h.np,by rw [k.geo.2.2.2];exact h.sp,hp,hl⟩
theorem LogS.take_fit {s:LogS} (h:s.Fit):s.Keeps s.take.1∧s.take.1.Fit:=⟨s.take_keeps,h.of s.take_keeps (s.take_page h.page) (s.take_last h.last)⟩
theorem LogS.write_fit {s:LogS} (h:s.Fit) (b:List UInt8) (n:Nat):s.Keeps (s.write b n).1∧(s.write b n).1.Fit:=by
 obtain ⟨h1,h2⟩:=LogS.write_keeps b n s h.page h.np
 exact ⟨h1,h.of h1 h2 (LogS.write_last b n s h.last)⟩
theorem LogS.writeAll_fit:∀ (l:List (List UInt8)) (s:LogS),s.Fit→s.Keeps (LogS.writeAll l s).1∧(LogS.writeAll l s).1.Fit
 | [],s,h=>⟨.refl s,h⟩
 | b :: l,s,h=>by
  obtain ⟨h1,h2⟩:=LogS.write_fit h b s.fuel
  show s.Keeps (if (s.write b s.fuel).2≠0 then s.write b s.fuel else LogS.writeAll l (s.write b s.fuel).1).1∧(if (s.write b s.fuel).2≠0 then s.write b s.fuel else LogS.writeAll l (s.write b s.fuel).1).1.Fit
  split
  ·exact ⟨h1,h2⟩
  ·obtain ⟨h3,h4⟩:=LogS.writeAll_fit l _ h2
   exact ⟨h1.trans h3,h4⟩
theorem vv9 (P:Pool) (c:Chip) (i:Int):c.SameGeo (zd1 P c i).2.1:=by
 unfold zd1
 split
 ·exact .refl _
 ·exact Chip.erase_geo _ _
theorem LogS.freeAll_fit (first:Nat):∀ (l:List zb7) (s:LogS),s.Fit→s.Keeps (LogS.freeAll first l s).1∧(LogS.freeAll first l s).1.Fit
 | [],s,h=>⟨.refl s,h⟩
 | x :: l,s,h=>by
  have hk:s.Keeps { s with pool:=(zd1 s.pool s.chip x.block).1,chip:=(zd1 s.pool s.chip x.block).2.1 }:=⟨rfl,rfl,vv9 _ _ _⟩
  have hf:=h.of hk h.page (by show (zd1 s.pool s.chip x.block).1.last < _;rw [vw0];exact h.last)
  have hs:LogS.freeAll first (x :: l) s=(if x.head.seq≥first∨x.bad=true then LogS.freeAll first l s else if (zd1 s.pool s.chip x.block).2.2≠0 then ({ s with pool:=(zd1 s.pool s.chip x.block).1,chip:=(zd1 s.pool s.chip x.block).2.1 },(zd1 s.pool s.chip x.block).2.2) else LogS.freeAll first l { s with pool:=(zd1 s.pool s.chip x.block).1,chip:=(zd1 s.pool s.chip x.block).2.1 }):=rfl
  rw [hs]
  split
  ·exact LogS.freeAll_fit first l s h
  ·split
   ·exact ⟨hk,hf⟩
   ·obtain ⟨h3,h4⟩:=LogS.freeAll_fit first l _ hf
    exact ⟨hk.trans h3,h4⟩
theorem LogS.anew_fit {s:LogS} (h:s.Fit):s.Keeps s.anew.1∧s.anew.1.Fit:=by
 rw [LogS.anew_eq]
 obtain ⟨t1,t2⟩:=LogS.take_fit h
 split
 ·exact ⟨.refl s,h⟩
 ·split
  ·exact ⟨t1,t2⟩
  ·obtain ⟨w1,w2⟩:=LogS.writeAll_fit ((yo4 s.chip.sz s.facts).1 ++ [(zq9 s.chip.sz s.take.1.pool.last).1]) _ t2
   split
   ·exact ⟨t1.trans w1,w2⟩
   ·obtain ⟨f1,f2⟩:=LogS.freeAll_fit s.take.1.pool.last (ownL s.era (zc1 (LogS.writeAll ((yo4 s.chip.sz s.facts).1 ++ [(zq9 s.chip.sz s.take.1.pool.last).1]) s.take.1).1.pool (LogS.writeAll ((yo4 s.chip.sz s.facts).1 ++ [(zq9 s.chip.sz s.take.1.pool.last).1]) s.take.1).1.chip)) _ w2
    exact ⟨(t1.trans w1).trans f1,f2⟩
section
variable {F X:Nat→Prop} {w w':World} {q:Nat} {M:PLoc} {s:LogS}
theorem yt6 (h:zo1 F X w q M s):za0 prog K.zw5 #[.pointer (some ⟨q,0,none⟩)] w fun v w'=>v= .bool false∧Ext w w':=by
 apply zw5.sh
 unfold zw5.body
 exact zc0 (fun hx=>by cases hx) fun _=>⟨_,h.cell (i:=0) (fun _ _=>rfl),rfl,Upd.refl _ _⟩
theorem yu7 (h:zo1 F X w q M s):za0 prog K.zt5 #[.pointer (some ⟨q,0,none⟩)] w fun v w'=>v= .int .i64 (s.chip.ask 0 0:Nat)∧Ext w w':=by
 apply zt5.sh
 unfold zt5.body
 refine (yt6 h).mono ?_
 rintro _ w1 ⟨rfl,he1⟩
 have h1:=h.ext he1
 refine ⟨_,rfl,zc0 (fun hx=>by cases hx) fun _=>?_⟩
 simp only [nilC_some',add_lit,Nat.zero_add]
 refine ⟨_,h1.cell (i:=0) (fun _ _=>rfl),(ur5 h1.pool.pin).mono ?_⟩
 rintro _ u ⟨rfl,hu⟩
 obtain rfl:w1=u:=hu.symm
 refine ⟨_,rfl,(ul8 h1.pool.pin.chip 0 0).mono ?_⟩
 rintro _ w3 ⟨he3,hv⟩
 split at hv
 ·rename_i h0
  obtain ⟨a,cp,rfl,_⟩:=hv
  rw [h0]
  exact ⟨_,_,_,_,rfl,rfl,he1.trans he3⟩
 ·subst hv
  exact ⟨_,_,_,_,rfl,rfl,he1.trans he3⟩
theorem vu5 (h:zo1 F X w q M s):za0 prog K.yb5 #[.pointer (some ⟨q,0,none⟩)] w fun v w'=>v= .int .i64 (s.chip.ask 0 0:Nat)∧Ext w w':=by
 apply yb5.sh
 refine (yu7 h).mono ?_
 rintro _ w1 ⟨rfl,he1⟩
 exact ⟨_,rfl,rfl,he1⟩
theorem vu7 (h:zo1 F X w q M s):za0 prog K.zz1 #[.pointer (some ⟨q,0,none⟩)] w fun v w'=>v= .pointer (some ⟨M.p,0,none⟩)∧Ext w w':=by
 apply zz1.sh
 unfold zz1.body
 refine (yt6 h).mono ?_
 rintro _ w1 ⟨rfl,he1⟩
 have h1:=h.ext he1
 refine ⟨_,rfl,zc0 (fun hx=>by cases hx) fun _=>?_⟩
 simp only [nilC_some',add_lit,Nat.zero_add]
 refine ⟨_,h1.cell (i:=0) (fun _ _=>rfl),(ur5 h1.pool.pin).mono ?_⟩
 rintro _ u ⟨rfl,hu⟩
 obtain rfl:w1=u:=hu.symm
 exact ⟨_,rfl,rfl,he1⟩
theorem xf1 (h:zo1 F X w q M s):za0 prog K.zs7 #[.pointer (some ⟨q,0,none⟩)] w fun v w'=>v= .int .i64 (zh3 s.pool s.chip:Nat)∧Ext w w':=by
 apply zs7.sh
 unfold zs7.body
 refine (yt6 h).mono ?_
 rintro _ w1 ⟨rfl,he1⟩
 have h1:=h.ext he1
 refine ⟨_,rfl,zc0 (fun hx=>by cases hx) fun _=>?_⟩
 simp only [nilC_some',add_lit,Nat.zero_add]
 refine ⟨_,h1.cell (i:=0) (fun _ _=>rfl),(vu3 h1.pool.pin).mono ?_⟩
 rintro _ w2 ⟨rfl,he2⟩
 exact ⟨_,rfl,rfl,he1.trans he2⟩
theorem yn4 (h:zo1 F X w q M s) (hfl:s.facts.length≤100000000) (hfv:∀ f∈s.facts,f.val.length≤140737488355232):za0 prog K.zm2 #[.pointer (some ⟨q,0,none⟩)] w fun v w'=>∃ a c,v= .slice a (ze0 s.facts []).length c∧zb4 zg2 NoB w.heap.size w' a c T.za9 (ze0 s.facts [])∧Ext w w':=by
 apply zm2.sh
 unfold zm2.body
 refine (yt6 h).mono ?_
 rintro _ w1 ⟨rfl,he1⟩
 have h1:=h.ext he1
 refine ⟨_,rfl,zc0 (fun hx=>by cases hx) fun _=>?_⟩
 simp only [nilC_some',add_lit,Nat.zero_add]
 obtain ⟨af,cf,gq,G,hG,hG'⟩:=h1.head
 refine ⟨af,_,cf,za2 gq rfl,(ys5 (Gc:=NoB) (cs:=[]) hG (fun b hb=>(hG' b hb).2.2) (zb0.nil _ _ _) (by simp;omega) hfv (fun _ hx=>by cases hx)).mono ?_⟩
 rintro _ w2 ⟨a',c',rfl,hl2,he2⟩
 exact ⟨_,_,_,rfl,a',c',rfl,hl2.weak he1.size (fun _ h=>h.elim),he1.trans he2⟩
end
end
structure Well (c:Chip) (era:Nat):Prop where
 ci:CI c
 safe:yi4 c
 drops:qc5 (partsC c era)
 mine:∀ i,i<c.nb→isHd c i→(hd c i).1.kind=1∧(hd c i).1.era=era
structure Open (s:LogS) (i:Nat) (a t:List Part) (p:Part):Prop where
 blk:s.block=i
 parts:partsC s.chip s.era=a ++ p :: t
 pb:p.block=i
 quiet:∀ x∈t,x.pages=[]
 good:s.chip.isBad i=false
 page:1≤s.page
 open_:zi3 s.chip i s.page
structure yd9 (s:LogS):Prop where
 inv:Inv s.pool s.chip
 alive:s.chip.dead=false
 turn:s.pool.turn≤s.chip.nb
 era1:1≤s.era
 era2:s.era<4294967296
 well:Well s.chip s.era
 open_:s.block= -1∨s.chip.np≤s.page∨∃ i a t p,Open s i a t p
def Cov (s:LogS) (n:Nat):Prop:=n≤s.pool.last+1∧∀ i a t p,s.page<s.chip.np→Open s i a t p→n≤p.seq
theorem yz2 {c:Chip} (h:CI c) {era:Nat} {p q:Part} (hp:p∈partsC c era) (hq:q∈partsC c era) (e:p.block=q.block):p=q:=by
 obtain ⟨i,_,_,_,_,rfl⟩:=(zj9 h).1 hp
 obtain ⟨j,_,_,_,_,rfl⟩:=(zj9 h).1 hq
 have e':(i:Int)=(j:Int):=e
 have:i=j:=by omega
 rw [this]
theorem Open.mem {s:LogS} {i:Nat} {a t:List Part} {p:Part} (h:Open s i a t p):p∈partsC s.chip s.era:=by rw [h.parts];simp
theorem Open.hd {s:LogS} {i:Nat} {a t:List Part} {p:Part} (h:Open s i a t p) (hc:CI s.chip):i<s.chip.nb∧isHd s.chip i∧p.seq=(hd s.chip i).1.seq:=by
 obtain ⟨j,h1,h2,_,_,e⟩:=(zj9 hc).1 h.mem
 have e1:p.block=(j:Int):=by rw [e]
 have e2:=h.pb
 have:j=i:=by omega
 subst this
 exact ⟨h1,h2,by rw [e]⟩
theorem yd9.seqs {s:LogS} (h:yd9 s) {p:Part} (hp:p∈partsC s.chip s.era):p.seq≤s.pool.last:=by
 obtain ⟨i,h1,h2,_,_,rfl⟩:=(zj9 h.well.ci).1 hp
 exact h.inv.last i h1 h2
theorem ul1 {s:LogS} (h:yd9 s):Cov s (lowL (partsC s.chip s.era)):=by
 have hr:=zt2 h.well.ci s.era
 refine ⟨?_,fun i a t p _ ho=>?_⟩
 ·have:lowL (partsC s.chip s.era)≤s.pool.last:=xn3.2 fun p hp P hP=>Nat.le_trans (h.well.drops p hp P hP) (h.seqs hp)
  omega
 ·refine xn3.2 fun q hq P hP=>?_
  have hd1:=h.well.drops q hq P hP
  rw [ho.parts] at hq hr
  unfold yy6 at hr
  rw [List.pairwise_append,List.pairwise_cons] at hr
  rcases List.mem_append.1 hq with hq | hq
  ·have:=hr.2.2 q hq p (by simp)
   omega
  ·rcases List.mem_cons.1 hq with rfl | hq
   ·exact hd1
   ·rw [ho.quiet q hq] at hP;cases hP
structure qn6 (s:LogS) (y:LogS×Nat):Prop where
 err:y.2=0∨y.2=10∨y.2=11
 keeps:s.Keeps y.1
 well:Well y.1.chip s.era
 behind:vl5 (partsC s.chip s.era) (partsC y.1.chip s.era) s.pool.last
 lo:s.pool.last≤y.1.pool.last
 hi:y.1.pool.last≤s.pool.last+s.chip.nb
 dead:y.2=10→y.1.chip.dead=true
 log:y.2≠10→yd9 y.1
 ok:y.2=0→∃ i a p,Open y.1 i a [] p∧y.1.page=1∧p.pages=[]∧p.seq=y.1.pool.last∧s.pool.last<p.seq
 stay:y.2=11→zh3 y.1.pool y.1.chip=0∧y.1.block=s.block∧y.1.page=s.page
 live:∀ n,y.2≠10→zy4 n y.1.chip≤zy4 n s.chip+(if y.2=0 then 1 else 0)
 cov:∀ n,Cov s n→y.2≠10→Cov y.1 n
 hits:y.1.chip.hits.length≤s.chip.hits.length
 calm:(∀ t∈s.chip.hits,t.fails=false)→(∀ t∈y.1.chip.hits,t.fails=false)∧y.1.chip.bad=s.chip.bad
 still:s.chip.hits=[]→y.1.chip.hits=[]∧y.2≠10
 bads:zr6 s.chip≤zr6 y.1.chip
 inv:Inv y.1.pool y.1.chip
theorem uv6 {s:LogS} (h:yd9 s) (hl:s.pool.last+s.chip.nb<18446744073709551616):qn6 s s.take:=by
 have hk:=s.take_keeps
 have hnb:=h.inv.ci.ok.nb1
 have hlen:(List.range s.chip.nb).length=s.chip.nb:=by simp
 have hgo:=ug9 (P:=s.pool) h.inv.ci.ok h.alive (kind:=1) (era:=s.era) (by decide) (by decide) h.era1
 have tp:=yr2 (kind:=1) (by decide) (by decide) h.era1 h.era2 (List.range s.chip.nb) h.inv h.alive (by omega)
 obtain ⟨op,hhi⟩:=xl8 (kind:=1) (by decide) (by decide) h.era1 h.era2 (List.range s.chip.nb) h.inv h.alive (by omega)
 have nw:=xt5 (kind:=1) (by decide) (by decide) h.era1 h.era2 (List.range s.chip.nb) h.inv h.alive (by omega)
 obtain ⟨sf,lv⟩:=xl7 (kind:=1) (by decide) (by decide) h.era1 h.era2 (List.range s.chip.nb) h.inv h.well.safe h.alive (by omega)
 have ht:s.take=if (zf0 s.pool s.chip 1 s.era).err=0 then ({ s with pool:=(zf0 s.pool s.chip 1 s.era).pool,chip:=(zf0 s.pool s.chip 1 s.era).chip,block:=(zf0 s.pool s.chip 1 s.era).block,page:=1 },0) else ({ s with pool:=(zf0 s.pool s.chip 1 s.era).pool,chip:=(zf0 s.pool s.chip 1 s.era).chip },(zf0 s.pool s.chip 1 s.era).err):=rfl
 rw [ht] at hk ⊢
 rw [hgo] at hk ⊢
 generalize zp3 1 s.era s.pool s.chip (List.range s.chip.nb)=R at *
 have hbeh:vl5 (partsC s.chip s.era) (partsC R.chip s.era) s.pool.last :=
  ut1 h.inv.ci tp.inv.ci tp.geo (fun j hj hh=>h.inv.last j hj hh) (fun j hj hh=>(tp.kept j hj hh).1) (fun j hj hn hh=>⟨(nw j hj hn hh).2.2,op j hj hn hh⟩) s.era
 have hmine:∀ i,i<R.chip.nb→isHd R.chip i→(hd R.chip i).1.kind=1∧(hd R.chip i).1.era=s.era:=fun i hi hh=>by
  rw [tp.geo.1] at hi
  by_cases hh0:isHd s.chip i
  ·rw [yo6 tp.geo (tp.kept i hi hh0).1]
   exact h.well.mine i hi hh0
  ·exact ⟨(nw i hi hh0 hh).1,(nw i hi hh0 hh).2.1⟩
 have hdrops:qc5 (partsC R.chip s.era):=fun p hp P hP=>by
  obtain ⟨m,e,h1,_⟩:=hbeh.ex
  rw [e] at hp
  rcases List.mem_append.1 hp with hp | hp
  ·exact h.well.drops p hp P hP
  ·rw [h1 p hp] at hP;cases hP
 have hwell:Well R.chip s.era:=⟨tp.inv.ci,sf,hdrops,hmine⟩
 have hhi2:=tp.hi
 rw [hlen] at hhi2
 have hbads:zr6 s.chip≤zr6 R.chip:=by
  unfold zr6
  rw [tp.geo.1]
  exact yi8 fun j hj hb=>tp.bads j hj hb
 have hlives:∀ n,R.err≠10→zy4 n R.chip≤zy4 n s.chip+(if R.err=0 then 1 else 0):=fun n hne=>by
  unfold zy4
  rw [tp.geo.1]
  have key:∀ j,j<s.chip.nb→((vh4 R.chip j && !R.chip.isBad j) && decide (n≤(hd R.chip j).1.seq))=true→((vh4 s.chip j && !s.chip.isBad j) && decide (n≤(hd s.chip j).1.seq))=true∨(R.err=0∧j=R.block):=fun j hj hh=>by
   simp only [Bool.and_eq_true,yx4,Bool.not_eq_true',decide_eq_true_eq] at hh ⊢
   by_cases hh0:isHd s.chip j
   ·exact .inl ⟨⟨hh0,by rw [← (tp.kept j hj hh0).2];exact hh.1.2⟩,by rw [← yo6 tp.geo (tp.kept j hj hh0).1];exact hh.2⟩
   ·rcases lv hne j hj hh0 hh.1.1 with hb | hb
    ·rw [hh.1.2] at hb;cases hb
    ·exact .inr hb
  by_cases h0:R.err=0
  ·rw [if_pos h0]
   exact va2 (i:=R.block) fun j hj hh=>by
    rcases key j hj hh with hh | hh
    ·exact .inl hh
    ·exact .inr hh.2
  ·rw [if_neg h0]
   exact yi8 fun j hj hh=>by
    rcases key j hj hh with hh | hh
    ·exact hh
    ·exact absurd hh.1 h0
 have hcalm:(∀ t∈s.chip.hits,t.fails=false)→(∀ t∈R.chip.hits,t.fails=false)∧R.chip.bad=s.chip.bad:=fun hc=>⟨(tp.calm hc).1,(tp.calm hc).2.1⟩
 by_cases h0:R.err=0
 ·rw [if_pos h0] at hk ⊢
  obtain ⟨_,hdR,hb,hnh,hbad,hhd,hlt⟩: R.err=0∧R.chip.dead=false∧R.block<s.chip.nb∧¬ isHd s.chip R.block∧R.chip.isBad R.block=false∧hd R.chip R.block=(⟨1,s.era,R.pool.last⟩,0)∧s.pool.last<R.pool.last:=by
   rcases tp.cases with b | ⟨b,_⟩| ⟨b,_⟩
   ·exact b
   ·omega
   ·omega
  have hisd:isHd R.chip R.block:=by unfold isHd;rw [hhd]
  have hop1:=op _ hb hnh hisd
  have hbR:R.block<R.chip.nb:=by rw [tp.geo.1];exact hb
  have hpm:(⟨R.block,R.pool.last,[]⟩: Part)∈partsC R.chip s.era:=by
   refine (zj9 tp.inv.ci).2 ⟨R.block,hbR,hisd,by rw [hhd],by rw [hhd],?_⟩
   rw [hhd,vp3 tp.inv.ci.ok hbR hop1]
  have hrise:=zt2 tp.inv.ci s.era
  have hseq:∀ q∈partsC R.chip s.era,q.seq≤R.pool.last:=fun q hq=>by
   obtain ⟨j,j1,j2,_,_,rfl⟩:=(zj9 tp.inv.ci).1 hq
   exact tp.inv.last j j1 j2
  obtain ⟨a,t,hat⟩:=List.append_of_mem hpm
  have ht0:t=[]:=by
   cases t with
   | nil=>rfl
   | cons x t =>
    have h1:=hseq x (by rw [hat];simp)
    rw [hat] at hrise
    unfold yy6 at hrise
    rw [List.pairwise_append,List.pairwise_cons] at hrise
    have h2:=hrise.2.1.1 x (by simp)
    have h2':R.pool.last<x.seq:=h2
    omega
  subst ht0
  have hopen:Open ({ s with pool:=R.pool,chip:=R.chip,block:=R.block,page:=1 }:LogS) R.block a [] ⟨R.block,R.pool.last,[]⟩:=⟨rfl,hat,rfl,(fun _ h=>by cases h),hbad,Nat.le_refl _,hop1⟩
  have hlog:yd9 ({ s with pool:=R.pool,chip:=R.chip,block:=R.block,page:=1 }:LogS):=⟨tp.inv,hdR,by show R.pool.turn≤R.chip.nb;rw [tp.geo.1];exact tp.turn h.turn,h.era1,h.era2,hwell,.inr (.inr ⟨_,_,_,_,hopen⟩)⟩
  refine ⟨.inl rfl,hk,hwell,hbeh,tp.lo,hhi2,(fun h=>by cases h),fun _=>hlog,fun _=>⟨R.block,a,_,hopen,rfl,rfl,rfl,hlt⟩,(fun h=>by cases h),(fun n _=>by have:=hlives n (by omega);rw [if_pos h0] at this;exact this),fun n hn _=>?_,hhi,hcalm,fun hq=>⟨(tp.quiet hq).1,(fun h=>by cases h)⟩,hbads,tp.inv⟩
  refine ⟨Nat.le_trans hn.1 (by show s.pool.last+1≤R.pool.last+1;omega),fun i a' t' p' _ ho=>?_⟩
  have e:=yz2 tp.inv.ci ho.mem hpm (by
   have h1:=ho.pb
   have h2:=ho.blk
   have h2':(R.block:Int)=i:=h2
   show p'.block=(R.block:Int)
   omega)
  rw [e]
  have:=hn.1
  show n≤R.pool.last
  omega
 ·rw [if_neg h0] at hk ⊢
  have h1011:R.err=10∧R.chip.dead=true∨R.err=11∧R.chip.dead=false∧∀ k∈List.range s.chip.nb,R.chip.isBad ((s.pool.turn+k) % s.chip.nb)=true∨isHd R.chip ((s.pool.turn+k) % s.chip.nb):=by
   rcases tp.cases with ⟨b,_⟩| b | b
   ·exact absurd b h0
   ·exact .inl b
   ·exact .inr b
  have hlog:R.err≠10→yd9 ({ s with pool:=R.pool,chip:=R.chip }:LogS):=fun hne=>by
   obtain ⟨_,hdR,_⟩:=h1011.resolve_left fun h=>hne h.1
   refine ⟨tp.inv,hdR,by show R.pool.turn≤R.chip.nb;rw [tp.geo.1];exact tp.turn h.turn,h.era1,h.era2,hwell,?_⟩
   rcases h.open_ with ho | ho | ⟨i,a,t,p,ho⟩
   ·exact .inl ho
   ·exact .inr (.inl (by show R.chip.np≤s.page;rw [tp.geo.2.1];exact ho))
   ·obtain ⟨m,e,m1,m2⟩:=hbeh.ex
    obtain ⟨o1,o2,o3⟩:=ho.hd h.well.ci
    have hkept:=tp.kept i o1 o2
    refine .inr (.inr ⟨i,a,t ++ m,p,ho.blk,?_,ho.pb,fun x hx=>?_,?_,ho.page,?_⟩)
    ·show partsC R.chip s.era=_
     rw [e,ho.parts];simp
    ·rcases List.mem_append.1 hx with hx | hx
     ·exact ho.quiet x hx
     ·exact m1 x hx
    ·show R.chip.isBad i=false
     rw [hkept.2];exact ho.good
    ·exact ho.open_.blk tp.geo hkept.1
  refine ⟨?_,hk,hwell,hbeh,tp.lo,hhi2,fun h=>?_,hlog,fun h=>absurd h h0,fun h11=>?_,fun n hne=>hlives n hne,fun n hn hne=>?_,hhi,hcalm,fun hq=>⟨(tp.quiet hq).1,(tp.quiet hq).2.1⟩,hbads,tp.inv⟩
  ·rcases h1011 with ⟨h,_⟩| ⟨h,_⟩
   ·exact .inr (.inl h)
   ·exact .inr (.inr h)
  ·rcases h1011 with ⟨_,h'⟩| ⟨h',_⟩
   ·exact h'
   ·have h'':R.err=10:=h
    omega
  ·have h11':R.err=11:=h11
   obtain ⟨_,hdR,hall⟩:=h1011.resolve_left fun h=>by omega
   refine ⟨?_,rfl,rfl⟩
   show zh3 R.pool R.chip=0
   rw [vr7 tp.inv hdR]
   refine um0 tp.inv.ci hdR fun j hj=>?_
   rw [tp.geo.1] at hj
   obtain ⟨k,hk1,hk2⟩:=qi9 h.turn hj
   have:=hall k (by simpa using hk1)
   rw [hk2] at this
   exact this
  ·refine ⟨Nat.le_trans hn.1 (by show s.pool.last+1≤R.pool.last+1;have:=tp.lo;omega),fun i a t p hpg ho=>?_⟩
   have hpg':s.page<s.chip.np:=by rw [← tp.geo.2.1];exact hpg
   rcases h.open_ with h1 | h1 | ⟨j,a',t',p',ho'⟩
   ·have:=ho.blk
    have hb:s.block=i:=this
    omega
   ·omega
   ·have hji:j=i:=by
     have h1:=ho.blk
     have h1':s.block=i:=h1
     have h2:=ho'.blk
     omega
    subst hji
    obtain ⟨m,e,_⟩:=hbeh.ex
    have hp':p'∈partsC R.chip s.era:=by rw [e];exact List.mem_append_left _ ho'.mem
    have:=yz2 tp.inv.ci ho.mem hp' (by rw [ho.pb,ho'.pb])
    rw [this]
    exact hn.2 _ _ _ _ hpg' ho'
def Same (l l':List Part):Prop:=(∀ n,zk3 n l'=zk3 n l)∧lowL l'=lowL l
def Done (C:Nat→Prop) (cs:List zb2) (d:Nat) (l l':List Part):Prop:=(∀ n,C n→zk3 n l'=ze0 (zk3 n l) cs)∧lowL l'=max (lowL l) d
theorem Same.refl (l:List Part):Same l l:=⟨fun _=>rfl,rfl⟩
theorem Same.trans {a b c:List Part} (h:Same a b) (k:Same b c):Same a c:=⟨fun n=>(k.1 n).trans (h.1 n),k.2.trans h.2⟩
theorem Same.done {C:Nat→Prop} {cs:List zb2} {d:Nat} {a b c:List Part} (h:Same a b) (k:Done C cs d b c):Done C cs d a c:=⟨fun n hn=>by rw [k.1 n hn,h.1],by rw [k.2,h.2]⟩
theorem Done.same {C:Nat→Prop} {cs:List zb2} {d:Nat} {a b c:List Part} (h:Done C cs d a b) (k:Same b c):Done C cs d a c:=⟨fun n hn=>by rw [k.1 n,h.1 n hn],by rw [k.2,h.2]⟩
theorem Done.twice {C:Nat→Prop} {cs:List zb2} {d:Nat} {a b c:List Part} (h:Done C cs d a b) (k:Done C cs d b c):Done C cs d a c :=
 ⟨fun n hn=>by rw [k.1 n hn,h.1 n hn,ug1 (yn7 n a)],by rw [k.2,h.2];omega⟩
theorem Done.mono {C C':Nat→Prop} {cs:List zb2} {d:Nat} {a b:List Part} (h:Done C cs d a b) (hc:∀ n,C' n→C n):Done C' cs d a b:=⟨fun n hn=>h.1 n (hc n hn),h.2⟩
theorem vl5.same {l l':List Part} {n:Nat} (h:vl5 l l' n):Same l l':=⟨h.facts.1,h.facts.2.1⟩
structure qn7 (s:LogS) (i:Nat) (a t:List Part) (p:Part) (cs:List zb2) (d:Nat) (q:Chip×Nat):Prop where
 err:q.2=0∨q.2=9∨q.2=10
 geo:s.chip.SameGeo q.1
 well:Well q.1 s.era
 inv:Inv s.pool q.1
 dead:q.1.dead=if q.2=10 then true else false
 says:(Same (partsC s.chip s.era) (partsC q.1 s.era)∧q.2≠0)∨Done (·≤p.seq) cs d (partsC s.chip s.era) (partsC q.1 s.era)
 ok:q.2=0→∃ p',p'.seq=p.seq∧Open { s with chip:=q.1,page:=s.page+1 } i a t p'
 live:∀ n,q.2=0→zy4 n q.1=zy4 n s.chip
 less:q.2=9→(∀ n,n≤p.seq→zy4 n q.1+1≤zy4 n s.chip)∧q.1.hits.length<s.chip.hits.length
 hits:q.1.hits.length≤s.chip.hits.length
 calm:(∀ t∈s.chip.hits,t.fails=false)→q.2≠9∧(∀ t∈q.1.hits,t.fails=false)∧q.1.bad=s.chip.bad
 still:s.chip.hits=[]→q.2=0∧q.1.hits=[]
 bads:zr6 s.chip≤zr6 q.1
 blanks:zh3 s.pool q.1≤zh3 s.pool s.chip
theorem qi5 {s:LogS} (h:yd9 s) {i:Nat} {a t:List Part} {p:Part} (ho:Open s i a t p) (hpg:s.page<s.chip.np) {pg:List UInt8} {cs:List zb2} {d:Nat} (hs:um9 s.chip.sz pg cs d) (hdp:d≤p.seq) :
  qn7 s i a t p cs d (s.chip.program s.block (s.page:Nat) pg):=by
 have hci:=h.well.ci
 obtain ⟨hi,hh,hseq⟩:=ho.hd hci
 have hpage:=ho.page
 rw [ho.blk]
 have w:=yq8 hci.ok h.alive hi hpg ho.good ho.open_ hs.len
 obtain ⟨pi,_⟩:=ui3 h.inv hi hpage hpg (fun _=>hh) pg
 generalize s.chip.program (i:Int) (s.page:Nat) pg=q at *
 have hde:=w.deed
 have hhd:hd q.1 i=hd s.chip i:=by unfold Go.Den.hd;rw [w.other 0 (by omega)]
 have hparts:=ug6 hci pi.ci hde.geo hi hpage hpg hh hhd hde.blk w.other ho.open_ w.open_ ho.parts ho.pb
 have hsafe:=vn9 h.well.safe w hs.sound
 have hmine:∀ j,j<q.1.nb→isHd q.1 j→(hd q.1 j).1.kind=1∧(hd q.1 j).1.era=s.era:=fun j hj hjh=>by
  rw [hde.geo.1] at hj
  by_cases e:j=i
  ·subst e
   rw [hhd]
   exact h.well.mine j hi hh
  ·have eb:=hde.blk j e
   rw [yo6 hde.geo eb]
   exact h.well.mine j hj ((yh7 hde.geo eb).1 hjh)
 have hmore:=ux2 (i:=a) (t:=t) (p:=p) ho.quiet ⟨(s.page:Nat),cs,d⟩
 rw [← ho.parts] at hmore
 have hcase:yb3 (s.page:Nat) (q.1.page i s.page)=none∧q.2≠0∨yb3 (s.page:Nat) (q.1.page i s.page)=some ⟨(s.page:Nat),cs,d⟩:=by
  by_cases h0:q.2=0
  ·right
   rw [w.ok h0];exact hs.say _
  ·rcases hs.sub w.sub (s.page:Nat) with hn | hn
   ·exact .inl ⟨hn,h0⟩
   ·right
    rw [hn];exact hs.say _
 have hsays:(Same (partsC s.chip s.era) (partsC q.1 s.era)∧q.2≠0)∨Done (·≤p.seq) cs d (partsC s.chip s.era) (partsC q.1 s.era):=by
  rcases hcase with ⟨hn,h0⟩| hn
  ·left
   refine ⟨?_,h0⟩
   rw [hparts,hn,ho.parts]
   simp only [Option.toList_none,List.append_nil]
   exact Same.refl _
  ·right
   rw [hparts,hn]
   exact ⟨fun n hnn=>hmore.1 n hnn,hmore.2⟩
 have hdrops:qc5 (partsC q.1 s.era):=fun x hx P hP=>by
  rw [hparts] at hx
  have old:∀ y,y∈partsC s.chip s.era→∀ P∈y.pages,P.drop≤y.seq:=h.well.drops
  rw [ho.parts] at old
  rcases List.mem_append.1 hx with hx | hx
  ·exact old x (List.mem_append_left _ hx) P hP
  ·rcases List.mem_cons.1 hx with rfl | hx
   ·rcases List.mem_append.1 hP with hP | hP
    ·exact old p (by simp) P hP
    ·rcases hcase with ⟨hn,_⟩| hn
     ·rw [hn] at hP;cases hP
     ·rw [hn] at hP
      simp at hP
      subst hP
      exact hdp
   ·exact old x (by simp [hx]) P hP
 have hdead:q.1.dead=if q.2=10 then true else false:=by rw [w.dead,h.alive]
 have hbadj:∀ j,s.chip.isBad j=true→q.1.isBad j=true:=fun j hj=>by
  rw [hde.bad j fun e=>by rw [e,ho.good] at hj;cases hj];exact hj
 have hisd:∀ j,vh4 q.1 j=vh4 s.chip j:=fun j=>by
  unfold vh4
  by_cases e:j=i
  ·rw [e,hhd]
  ·rw [yo6 hde.geo (hde.blk j e)]
 have hseqs:∀ j,(hd q.1 j).1.seq=(hd s.chip j).1.seq:=fun j=>by
  by_cases e:j=i
  ·rw [e,hhd]
  ·rw [yo6 hde.geo (hde.blk j e)]
 refine ⟨?_,hde.geo,⟨pi.ci,hsafe,hdrops,hmine⟩,pi,hdead,hsays,fun h0=>?_,fun n h0=>?_,fun h9=>⟨fun n hn=>?_,w.less (by omega)⟩,w.hits,fun hc=>⟨(hde.calm hc).1,(hde.calm hc).2.1,(hde.calm hc).2.2⟩,fun hq=>hde.quiet hq,?_,?_⟩
 ·rcases hde.cases with ⟨e,_⟩| ⟨e,_⟩| ⟨e,_⟩
  ·exact .inl e
  ·exact .inr (.inl e)
  ·exact .inr (.inr e)
 ·have hb:q.1.isBad i=false:=by
   rcases hde.cases with ⟨_,_,e⟩| ⟨e,_⟩| ⟨e,_⟩
   ·have:=ho.good
    unfold Chip.isBad at this ⊢
    rw [e];exact this
   ·omega
   ·omega
  exact ⟨_,by rfl,⟨ho.blk,hparts,ho.pb,ho.quiet,hb,Nat.le_add_left _ _,w.open_⟩⟩
 ·have hb:q.1.bad=s.chip.bad:=by
   rcases hde.cases with ⟨_,_,e⟩| ⟨e,_⟩| ⟨e,_⟩
   ·exact e
   ·omega
   ·omega
  unfold zy4
  rw [hde.geo.1]
  congr 1
  refine List.filter_congr fun j _=>?_
  rw [hisd,hseqs]
  unfold Chip.isBad
  rw [hb]
 ·have hbi:q.1.isBad i=true:=by
   rcases hde.cases with ⟨e,_⟩| ⟨_,_,e⟩| ⟨e,_⟩
   ·omega
   ·exact e
   ·omega
  unfold zy4
  rw [hde.geo.1]
  refine xv0 hi (fun j hj hh'=>?_) ?_
  ·rw [hisd,hseqs] at hh'
   simp only [Bool.and_eq_true,Bool.not_eq_true',decide_eq_true_eq] at hh' ⊢
   have hji:j≠i:=fun e=>by rw [e,hbi] at hh';cases hh'.1.2
   exact ⟨⟨⟨hh'.1.1,by rw [← hde.bad j hji];exact hh'.1.2⟩,hh'.2⟩,hji⟩
  ·simp only [Bool.and_eq_true,Bool.not_eq_true',decide_eq_true_eq]
   exact ⟨⟨yx4.2 hh,ho.good⟩,by rw [← hseq];exact hn⟩
 ·unfold zr6
  rw [hde.geo.1]
  exact yi8 fun j _=>hbadj j
 ·unfold zh3
  rw [hde.geo.1]
  refine yi8 fun j _ hj=>?_
  simp only [Bool.and_eq_true,Bool.not_eq_true'] at hj ⊢
  refine ⟨hj.1,?_⟩
  cases hb:s.chip.isBad j with
  | false=>rfl
  | true=>rw [hbadj j hb] at hj;exact hj.2
structure qk8 (s:LogS) (cs:List zb2) (d:Nat) (m:Nat) (r:LogS×Nat):Prop where
 err:r.2=0∨r.2=10∨r.2=11
 era:r.1.era=s.era
 facts:r.1.facts=s.facts
 geo:s.chip.SameGeo r.1.chip
 well:Well r.1.chip s.era
 lo:s.pool.last≤r.1.pool.last
 hi:r.1.pool.last≤s.pool.last+s.chip.nb * m
 dead:r.2=10→r.1.chip.dead=true
 log:r.2≠10→yd9 r.1
 open_:r.2=0→(∃ i a t p,Open r.1 i a t p)∧(r.1.page=2∨(s.block≠-1∧s.page<s.chip.np∧r.1.page=s.page+1))
 cov:∀ n,Cov s n→r.2≠10→Cov r.1 n
 says:(Same (partsC s.chip s.era) (partsC r.1.chip s.era)∧r.2≠0)∨Done (Cov s) cs d (partsC s.chip s.era) (partsC r.1.chip s.era)
 full:r.2=11→zh3 r.1.pool r.1.chip=0
 live:∀ n,Cov s n→r.2≠10→zy4 n r.1.chip+(if r.2=11 then 1 else 0)≤zy4 n s.chip+(if s.block= -1∨s.page≥s.chip.np then 1 else 0)
 hits:r.1.chip.hits.length≤s.chip.hits.length
 calm:(∀ t∈s.chip.hits,t.fails=false)→(∀ t∈r.1.chip.hits,t.fails=false)∧r.1.chip.bad=s.chip.bad∧(r.2=11→Same (partsC s.chip s.era) (partsC r.1.chip s.era))
 still:s.chip.hits=[]→r.1.chip.hits=[]∧r.2≠10
 bads:zr6 s.chip≤zr6 r.1.chip
 inv:Inv r.1.pool r.1.chip
theorem va5 {pg:List UInt8} {cs:List zb2} {d:Nat}:∀ (m:Nat) {s:LogS},yd9 s→um9 s.chip.sz pg cs d→Cov s d→s.left≤m→s.pool.last+s.chip.nb * m<18446744073709551616→qk8 s cs d m (s.write pg m)
 | 0,s,h,hs,hc,hm,hl=>by unfold LogS.left at hm;split at hm<;>omega
 | m+1,s,h,hs,hc,hm,hl=>by
  rw [LogS.write_step]
  rw [Nat.mul_succ] at hl
  obtain ⟨y,hy⟩: ∃ y,y=(if s.block= -1∨s.page≥s.chip.np then s.take else (s,0)):=⟨_,rfl⟩
  rw [← hy]
  have hY:(y.2=0∨y.2=10∨y.2=11)∧s.Keeps y.1∧Well y.1.chip s.era∧Same (partsC s.chip s.era) (partsC y.1.chip s.era)∧s.pool.last≤y.1.pool.last∧y.1.pool.last≤s.pool.last+s.chip.nb∧(y.2=10→y.1.chip.dead=true)∧(y.2≠10→yd9 y.1)∧
    (y.2=0→(∃ i a t p,Open y.1 i a t p)∧y.1.page<y.1.chip.np∧(y.1.page+1=2∨(s.block≠-1∧s.page<s.chip.np∧y.1.page+1=s.page+1)))∧(y.2=11→zh3 y.1.pool y.1.chip=0)∧
    (∀ n,y.2≠10→zy4 n y.1.chip+(if y.2=11 then 1 else 0)≤zy4 n s.chip+(if s.block= -1∨s.page≥s.chip.np then 1 else 0))∧(∀ n,Cov s n→y.2≠10→Cov y.1 n)∧y.1.chip.hits.length≤s.chip.hits.length∧
    ((∀ t∈s.chip.hits,t.fails=false)→(∀ t∈y.1.chip.hits,t.fails=false)∧y.1.chip.bad=s.chip.bad)∧(s.chip.hits=[]→y.1.chip.hits=[]∧y.2≠10)∧zr6 s.chip≤zr6 y.1.chip∧(y.2=0→y.1.chip.hits.length+1≤m+1)∧Inv y.1.pool y.1.chip:=by
   by_cases hcond:s.block= -1∨s.page≥s.chip.np
   ·rw [if_pos hcond] at hy
    have Tk:=uv6 h (by omega)
    have hnp:=h.inv.ci.ok.np1
    subst hy
    refine ⟨Tk.err,Tk.keeps,Tk.well,Tk.behind.same,Tk.lo,Tk.hi,Tk.dead,Tk.log,fun h0=>?_,fun h11=>(Tk.stay h11).1,fun n hne=>?_,Tk.cov,Tk.hits,Tk.calm,Tk.still,Tk.bads,fun h0=>?_,Tk.inv⟩
    ·obtain ⟨i,a,p,o,h1,_⟩:=Tk.ok h0
     have:=Tk.keeps.geo.2.1
     exact ⟨⟨i,a,[],p,o⟩,by omega,.inl (by omega)⟩
    ·have h1:=Tk.live n hne
     rw [if_pos hcond]
     by_cases h0:s.take.2=0
     ·rw [if_pos h0] at h1;rw [if_neg (by omega)];omega
     ·rw [if_neg h0] at h1
      have:=Tk.err
      rw [if_pos (by omega)];omega
    ·have hh:=Tk.hits
     unfold LogS.left at hm
     split at hm<;>omega
   ·rw [if_neg hcond] at hy
    subst hy
    refine ⟨.inl rfl,.refl s,h.well,Same.refl _,Nat.le_refl _,Nat.le_add_right _ _,(fun h=>by cases h),fun _=>h,fun _=>?_,(fun h=>by cases h),fun n _=>?_,fun n hn _=>hn,Nat.le_refl _,fun hc=>⟨hc,rfl⟩,fun hq=>⟨hq,(fun h=>by cases h)⟩,Nat.le_refl _,fun _=>?_,h.inv⟩
    ·rcases h.open_ with h1 | h1 | h1
     ·exact absurd (.inl h1) hcond
     ·exact absurd (.inr h1) hcond
     ·exact ⟨h1,by show s.page<s.chip.np;omega,.inr ⟨fun e=>hcond (.inl e),by omega,rfl⟩⟩
    ·rw [if_neg hcond,if_neg (fun h=>by cases h)]
     exact Nat.le_refl _
    ·unfold LogS.left at hm
     rw [if_neg (fun e=>hcond (.inl e))] at hm
     show s.chip.hits.length+1≤m+1
     omega
  clear hy
  obtain ⟨y1,y2,y3,y4,y5,y6,y7,y8,y9,y10,y11,y12,y13,y14,y15,y16,y17,y18⟩:=hY
  have hT:(y.2=0→y.2≠10):=fun h0=>by omega
  have hnb1:s.chip.nb * (m+1)=s.chip.nb * m+s.chip.nb:=Nat.mul_succ _ _
  split
  ·rename_i hne
   refine ⟨y1,y2.era,y2.facts,y2.geo,y3,y5,by rw [hnb1];omega,y7,y8,fun h0=>absurd h0 hne,y12,.inl ⟨y4,hne⟩,y10,fun n _=>y11 n,y13,fun hc=>⟨(y14 hc).1,(y14 hc).2,fun _=>y4⟩,y15,y16,y18⟩
  ·rename_i hz
   have h0:y.2=0:=Classical.byContradiction hz
   have hlog:=y8 (hT h0)
   obtain ⟨⟨i,a,t,p,ho⟩,hpg,hpage⟩:=y9 h0
   have hhit:=y17 h0
   have hcd:=(y12 d hc (hT h0)).2 i a t p hpg ho
   have Q:=qi5 hlog ho hpg (cs:=cs) (d:=d) (pg:=pg) (by rw [y2.geo.2.2.1];exact hs) hcd
   have hlive:∀ n,zy4 n y.1.chip≤zy4 n s.chip+(if s.block= -1∨s.page≥s.chip.np then 1 else 0):=fun n=>by
    have:=y11 n (hT h0)
    rw [if_neg (by omega),Nat.add_zero] at this
    exact this
   have hera:y.1.era=s.era:=y2.era
   have hsays:=Q.says
   have hwell:=Q.well
   rw [hera] at hsays hwell
   generalize y.1.chip.program y.1.block (y.1.page:Nat) pg=q at *
   have hcov:∀ n,Cov s n→n≤p.seq:=fun n hn=>(y12 n hn (hT h0)).2 i a t p hpg ho
   split
   ·rename_i h9
    have h010:q.2=0∨q.2=10:=by have:=Q.err;omega
    refine ⟨by omega,hera,y2.facts,y2.geo.trans Q.geo,hwell,y5,by show y.1.pool.last≤_;rw [hnb1];omega,fun h10=>?_,fun hne=>?_,fun hq0=>?_,fun n hn hne=>?_,?_,fun h11=>?_,fun n hn hne=>?_,Nat.le_trans Q.hits y13,fun hc'=>?_,fun hq=>?_,Nat.le_trans y16 Q.bads,Q.inv⟩
    ·show q.1.dead=true
     rw [Q.dead,if_pos h10]
    ·have hq0:q.2=0:=by have hne':q.2≠10:=hne;omega
     obtain ⟨p',_,o'⟩:=Q.ok hq0
     refine ⟨Q.inv,?_,?_,hlog.era1,hlog.era2,Q.well,.inr (.inr ⟨i,a,t,p',o'⟩)⟩
     ·show q.1.dead=false
      rw [Q.dead,if_neg (by omega)]
     ·show y.1.pool.turn≤q.1.nb
      rw [Q.geo.1];exact hlog.turn
    ·obtain ⟨p',_,o'⟩:=Q.ok hq0
     exact ⟨⟨i,a,t,p',o'⟩,hpage⟩
    ·have hq0:q.2=0:=by have hne':q.2≠10:=hne;omega
     obtain ⟨p',hp',o'⟩:=Q.ok hq0
     have hy12:=y12 n hn (hT h0)
     refine ⟨hy12.1,fun i2 a2 t2 p2 _ o2=>?_⟩
     have e:=yz2 Q.well.ci o2.mem o'.mem (by
      have h1:=o2.pb
      have h2:y.1.block=(i2:Int):=o2.blk
      have h3:=o'.pb
      have h4:y.1.block=(i:Int):=o'.blk
      omega)
     rw [e,hp']
     exact hcov n hn
    ·rcases hsays with ⟨h1,h2⟩| h1
     ·exact .inl ⟨y4.trans h1,h2⟩
     ·exact .inr (y4.done (h1.mono hcov))
    ·have h11':q.2=11:=h11
     omega
    ·have hq0:q.2=0:=by have hne':q.2≠10:=hne;omega
     have h1:=Q.live n hq0
     have h2:=hlive n
     show zy4 n q.1+(if q.2=11 then 1 else 0)≤_
     rw [if_neg (by omega)]
     omega
    ·have:=Q.calm (y14 hc').1
     refine ⟨this.2.1,this.2.2.trans (y14 hc').2,fun h11=>?_⟩
     have h11':q.2=11:=h11
     omega
    ·have:=Q.still (y15 hq).1
     exact ⟨this.2,by show q.2≠10;omega⟩
   ·rename_i hn9
    have h9:q.2=9:=Classical.byContradiction hn9
    obtain ⟨l1,l2⟩:=Q.less h9
    have hgeo:=y2.geo.trans Q.geo
    have hlog2:yd9 ({ y.1 with chip:=q.1,page:=y.1.page+1,block:= -1 }:LogS):=by
     refine ⟨Q.inv,?_,?_,hlog.era1,hlog.era2,Q.well,.inl rfl⟩
     ·show q.1.dead=false
      rw [Q.dead,if_neg (by omega)]
     ·show y.1.pool.turn≤q.1.nb
      rw [Q.geo.1];exact hlog.turn
    have hcov2:∀ n,Cov s n→Cov ({ y.1 with chip:=q.1,page:=y.1.page+1,block:= -1 }:LogS) n:=fun n hn=>by
     refine ⟨(y12 n hn (hT h0)).1,fun i2 a2 t2 p2 _ o2=>?_⟩
     have h1:=o2.blk
     have h1':(-1:Int)=i2:=h1
     omega
    have W:=va5 (cs:=cs) (d:=d) (pg:=pg) m hlog2 (by show um9 q.1.sz pg cs d;rw [hgeo.2.2.1];exact hs) (hcov2 d hc) (by
     unfold LogS.left
     rw [if_pos rfl]
     show q.1.hits.length+1≤m
     omega) (by
     show y.1.pool.last+q.1.nb * m < _
     rw [hgeo.1]
     omega)
    generalize LogS.write pg m ({ y.1 with chip:=q.1,page:=y.1.page+1,block:= -1 }:LogS)=r at *
    have whi:=W.hi
    have whi':r.1.pool.last≤y.1.pool.last+q.1.nb * m:=whi
    rw [hgeo.1] at whi'
    have wlo:y.1.pool.last≤r.1.pool.last:=W.lo
    have wera:r.1.era=y.1.era:=W.era
    have wwell:Well r.1.chip y.1.era:=W.well
    have wsays:(Same (partsC q.1 y.1.era) (partsC r.1.chip y.1.era)∧r.2≠0)∨Done (Cov ({ y.1 with chip:=q.1,page:=y.1.page+1,block:= -1 }:LogS)) cs d (partsC q.1 y.1.era) (partsC r.1.chip y.1.era):=W.says
    rw [hera] at wwell wsays
    refine ⟨W.err,wera.trans hera,(W.facts:r.1.facts=y.1.facts).trans y2.facts,hgeo.trans (W.geo:q.1.SameGeo r.1.chip),wwell,by omega,by rw [hnb1];omega,W.dead,W.log,fun hr0=>?_,fun n hn hne=>W.cov n (hcov2 n hn) hne,?_,W.full,fun n hn hne=>?_,?_,fun hc'=>?_,fun hq=>?_,Nat.le_trans y16 (Nat.le_trans Q.bads W.bads),W.inv⟩
    ·obtain ⟨w1,w2⟩:=W.open_ hr0
     refine ⟨w1,?_⟩
     rcases w2 with w2 | ⟨w2,_⟩
     ·exact .inl w2
     ·exact absurd rfl w2
    ·rcases hsays with ⟨h1,_⟩| h1
     ·rcases wsays with ⟨g1,g2⟩| g1
      ·exact .inl ⟨(y4.trans h1).trans g1,g2⟩
      ·exact .inr ((y4.trans h1).done (g1.mono hcov2))
     ·rcases wsays with ⟨g1,_⟩| g1
      ·exact .inr ((y4.done (h1.mono hcov)).same g1)
      ·exact .inr ((y4.done (h1.mono hcov)).twice (g1.mono hcov2))
    ·have w1:zy4 n r.1.chip+(if r.2=11 then 1 else 0)≤zy4 n q.1+(if ((-1:Int)= -1∨y.1.page+1≥q.1.np) then 1 else 0):=W.live n (hcov2 n hn) hne
     have h2:=hlive n
     have h3:=l1 n (hcov n hn)
     rw [if_pos (show (-1:Int)= -1∨y.1.page+1≥q.1.np from .inl rfl)] at w1
     omega
    ·have:=Q.hits
     have wh:r.1.chip.hits.length≤q.1.hits.length:=W.hits
     omega
    ·exact absurd h9 (Q.calm (y14 hc').1).1
    ·have:=(Q.still (y15 hq).1).1
     omega
def yv2 (l:List Fact):Nat:=(l.map zv3).sum
structure ql0 (sz:Nat) (l:List Fact):Prop where
 one:1≤l.length
 len:l.length≤255
 may:∀ f∈l,mayF f=true
 fit:((yv2 l:Nat):Int)≤zo3 sz
theorem ul5 {f:Fact} (h:mayF f=true):(chgB (ze4 f)).length=zv3 f∧mayC (ze4 f)=true:=by
 unfold mayF at h
 simp only [Bool.and_eq_true,decide_eq_true_eq] at h
 refine ⟨?_,?_⟩
 ·unfold chgB ze4 zv3
  rw [if_pos h.1.1]
  simp
  omega
 ·unfold mayC ze4
  simp only [Bool.false_eq_true,if_false,Bool.and_eq_true,decide_eq_true_eq]
  exact ⟨h.1.1,h.1.2,h.2⟩
theorem uf3 (l m:List Fact):yv2 (l ++ m)=yv2 l+yv2 m:=by unfold yv2;simp
theorem vi0:∀ {l:List Fact},(∀ f∈l,mayF f=true)→((l.map ze4).flatMap chgB).length=yv2 l
 | [],_=>rfl
 | f :: l,h=>by
  have h1:=(ul5 (h f (by simp))).1
  have h2:=vi0 (l:=l) fun g hg=>h g (by simp [hg])
  rw [List.map_cons,List.flatMap_cons,List.length_append,h1,h2]
  unfold yv2
  simp
theorem vd7 {sz:Nat} (h1:128≤sz) (h2:sz≤256):zo3 sz=(sz:Int) - 6:=by
 have hsz:zh0 (sz:Int)=true:=by simp [zh0];omega
 unfold zo3
 rw [if_pos hsz];omega
theorem ql0.put {sz:Nat} (h1:128≤sz) (h2:sz≤256) {l:List Fact} (h:ql0 sz l):(putL sz (l.map ze4)).2=0:=by
 have hsz:zh0 (sz:Int)=true:=by simp [zh0];omega
 have hm:mayL (l.map ze4)=true:=by
  unfold mayL
  simp only [Bool.and_eq_true,decide_eq_true_eq,List.all_eq_true,List.length_map]
  refine ⟨⟨h.one,h.len⟩,fun x hx=>?_⟩
  obtain ⟨f,hf,rfl⟩:=List.mem_map.1 hx
  exact (ul5 (h.may f hf)).2
 have hlen:(yv9 (l.map ze4)).length=1+yv2 l:=by
  unfold yv9
  rw [List.length_cons,vi0 h.may];omega
 have hf:=h.fit
 rw [vd7 h1 h2] at hf
 unfold putL ya6
 rw [if_pos hm,if_neg (by rw [hsz];decide),if_neg (by omega)]
def segs (F:List Fact):List Nat→List (List Fact)
 | []=>[]
 | a :: at_=>((F.take (match at_ with | []=>F.length | b :: _=>b)).drop a) :: segs F at_
theorem xw8 {sz:Nat} {F:List Fact}:∀ (cs:List Nat) (acc:List (List UInt8)),(∀ l∈segs F cs,(putL sz (l.map ze4)).2=0)→zx2 sz F cs acc=(acc ++ (segs F cs).map fun l=>(putL sz (l.map ze4)).1,0)
 | [],acc,_=>by simp [zx2,segs]
 | a :: cs,acc,h=>by
  obtain ⟨g,hg⟩: ∃ g,g=(F.take (match cs with | []=>F.length | b :: _=>b)).drop a:=⟨_,rfl⟩
  have es:segs F (a :: cs)=g :: segs F cs:=by rw [hg];cases cs<;>rfl
  have ep:zx2 sz F (a :: cs) acc=if (putL sz (g.map ze4)).2≠0 then ([],(putL sz (g.map ze4)).2) else zx2 sz F cs (acc ++ [(putL sz (g.map ze4)).1]):=by rw [hg];cases cs<;>rfl
  rw [es] at h ⊢
  rw [ep,if_neg (by have:=h g (by simp);omega),xw8 cs _ fun l hl=>h l (by simp [hl])]
  simp
theorem vj4 {F:List Fact} {a b:Nat} (hab:a≤b):((F.take b).drop a) ++ F.drop b=F.drop a:=by
 have h1:F.take b ++ F.drop b=F:=List.take_append_drop b F
 by_cases hb:b≤F.length
 ·have:(F.take b ++ F.drop b).drop a=(F.take b).drop a ++ F.drop b:=List.drop_append_of_le_length (by rw [List.length_take];omega)
  rw [h1] at this
  exact this.symm
 ·rw [List.take_of_length_le (by omega),List.drop_of_length_le (i:=b) (by omega),List.append_nil]
theorem xv2 {sz:Nat} {F:List Fact} (hmay:∀ f∈F,mayF f=true) (hcost:∀ f∈F,((zv3 f:Nat):Int)≤zo3 sz):∀ (l:List Fact) (i from_:Nat),i≤F.length→F.drop i=l→from_<i→i - from_≤255→((yv2 ((F.take i).drop from_):Nat):Int)≤zo3 sz→
  (∀ g∈segs F (from_ :: yj1 (zo3 sz) i from_ (yv2 ((F.take i).drop from_)) l),ql0 sz g)∧(segs F (from_ :: yj1 (zo3 sz) i from_ (yv2 ((F.take i).drop from_)) l)).flatten=F.drop from_
 | [],i,from_,hi,hl,hf,h255,hc=>by
  have hiF:i=F.length:=by
   have:=congrArg List.length hl
   simp at this
   omega
  subst hiF
  unfold yj1 segs
  simp only [List.take_length] at hc ⊢
  refine ⟨fun g hg=>?_,by simp [segs]⟩
  simp [segs] at hg
  subst hg
  exact ⟨by simp;omega,by simp;omega,fun f hf=>hmay f (List.mem_of_mem_drop hf),hc⟩
 | f :: l,i,from_,hi,hl,hf,h255,hc=>by
  have hiF:i<F.length:=by
   have:=congrArg List.length hl
   simp at this
   omega
  have hfi:F[i]=f:=by
   have:=List.drop_eq_getElem_cons hiF
   rw [hl] at this
   injection this with h1 h2
   exact h1.symm
  have hl1:F.drop (i+1)=l:=by
   have:=List.drop_eq_getElem_cons hiF
   rw [hl] at this
   injection this with h1 h2
   exact h2.symm
  have hfm:f∈F:=by rw [← hfi];exact List.getElem_mem _
  have htake:F.take (i+1)=F.take i ++ [f]:=by rw [List.take_succ_eq_append_getElem hiF,hfi]
  have hlen:(F.take i).length=i:=by rw [List.length_take];omega
  have hext:(F.take (i+1)).drop from_=(F.take i).drop from_ ++ [f]:=by
   rw [htake,List.drop_append_of_le_length (by omega)]
  have hone:yv2 [f]=zv3 f:=by simp [yv2]
  unfold yj1
  by_cases hcut:i=0∨zo3 sz<((yv2 ((F.take i).drop from_)+zv3 f:Nat):Int)∨i - from_=255
  ·rw [if_pos hcut]
   have hs:(F.take (i+1)).drop i=[f]:=by
    rw [htake,List.drop_append_of_le_length (by omega),List.drop_of_length_le (by omega)];rfl
   have ih:=xv2 hmay hcost l (i+1) i (by omega) hl1 (by omega) (by omega) (by rw [hs,hone];exact hcost f hfm)
   rw [hs,hone] at ih
   have es:segs F (from_ :: i :: yj1 (zo3 sz) (i+1) i (zv3 f) l)=((F.take i).drop from_) :: segs F (i :: yj1 (zo3 sz) (i+1) i (zv3 f) l):=rfl
   rw [es]
   refine ⟨fun g hg=>?_,?_⟩
   ·rcases List.mem_cons.1 hg with rfl | hg
    ·exact ⟨by simp;omega,by simp;omega,fun x hx=>hmay x (List.mem_of_mem_take (List.mem_of_mem_drop hx)),hc⟩
    ·exact ih.1 g hg
   ·rw [List.flatten_cons,ih.2]
    exact vj4 (by omega)
  ·rw [if_neg hcut]
   have h1:¬ zo3 sz<((yv2 ((F.take i).drop from_)+zv3 f:Nat):Int):=fun h=>hcut (.inr (.inl h))
   have h2:i - from_≠255:=fun h=>hcut (.inr (.inr h))
   have he:yv2 ((F.take (i+1)).drop from_)=yv2 ((F.take i).drop from_)+zv3 f:=by rw [hext,uf3,hone]
   have ih:=xv2 hmay hcost l (i+1) from_ (by omega) hl1 (by omega) (by omega) (by rw [he];omega)
   rw [he] at ih
   exact ih
structure Fine (sz:Nat) (F:List Fact):Prop where
 ord:zg6 F=true
 may:∀ f∈F,mayF f=true
 cost:∀ f∈F,((zv3 f:Nat):Int)≤zo3 sz
theorem ur4 {sz:Nat} (h1:128≤sz) (h2:sz≤256) {F:List Fact} (h:Fine sz F):∃ gs:List (List Fact),yo4 sz F=(gs.map fun l=>(putL sz (l.map ze4)).1,0)∧gs.flatten=F∧(∀ g∈gs,(putL sz (g.map ze4)).2=0)∧gs.length≤F.length:=by
 have hroom:=vd7 h1 h2
 have hc:yl0 sz F=(yj1 (zo3 sz) 0 0 0 F,0):=by
  unfold yl0
  rw [if_neg (by omega),if_neg,if_neg]
  ·rw [Bool.not_eq_false,List.all_eq_true]
   exact fun f hf=>decide_eq_true (h.cost f hf)
  ·rw [h.ord]
   simp only [Bool.true_eq_false,or_false,Bool.not_eq_false,List.all_eq_true]
   exact h.may
 unfold yo4
 rw [hc]
 simp only
 rw [if_neg (fun h=>h rfl)]
 cases F with
 | nil =>
  refine ⟨[],?_,rfl,(fun _ h=>by cases h),Nat.le_refl _⟩
  simp [yj1,zx2]
 | cons f l =>
  have hone:yv2 [f]=zv3 f:=by simp [yv2]
  have hcf:=h.cost f (by simp)
  have e:yj1 (zo3 sz) 0 0 0 (f :: l)=0 :: yj1 (zo3 sz) 1 0 (zv3 f) l:=by
   show (if (0:Nat)=0∨zo3 sz<((0+zv3 f:Nat):Int)∨0 - 0=255 then 0 :: yj1 (zo3 sz) (0+1) 0 (zv3 f) l else yj1 (zo3 sz) (0+1) 0 (0+zv3 f) l)=_
   rw [if_pos (.inl rfl)]
  obtain ⟨s1,s2⟩:=xv2 (sz:=sz) (F:=f :: l) h.may h.cost l 1 0 (by simp) rfl (by omega) (by omega) (by show ((yv2 [f]:Nat):Int)≤_;rw [hone];exact hcf)
  have hc1:yv2 (((f :: l).take 1).drop 0)=zv3 f:=hone
  rw [hc1] at s1 s2
  rw [← e] at s1 s2
  have hput:∀ g∈segs (f :: l) (yj1 (zo3 sz) 0 0 0 (f :: l)),(putL sz (g.map ze4)).2=0:=fun g hg=>(s1 g hg).put h1 h2
  refine ⟨_,?_,s2,hput,?_⟩
  ·rw [xw8 _ _ hput];rfl
  ·have key:∀ gs:List (List Fact),(∀ g∈gs,1≤g.length)→gs.length≤gs.flatten.length:=by
    intro gs
    induction gs with
    | nil=>intro _;simp
    | cons g gs ih =>
     intro hg
     have h1:=hg g (by simp)
     have h2:=ih fun x hx=>hg x (by simp [hx])
     rw [List.flatten_cons,List.length_append,List.length_cons]
     omega
   have:=key _ fun g hg=>(s1 g hg).one
   rw [s2] at this
   exact this
theorem Fine.put {sz:Nat} (h1:128≤sz) (h2:sz≤256) {F:List Fact} (h:Fine sz F) {cs:List zb2} (hp:(putL sz cs).2=0):Fine sz (ze0 F cs):=by
 have hroom:=vd7 h1 h2
 have hm:mayL cs=true∧((yv9 cs).length:Int)≤sz - 5:=by
  unfold putL at hp
  split at hp
  ·rename_i hm
   refine ⟨hm,?_⟩
   unfold ya6 at hp
   split at hp
   ·cases hp
   ·split at hp
    ·cases hp
    ·omega
  ·cases hp
 obtain ⟨hm,hb⟩:=hm
 unfold mayL at hm
 simp only [Bool.and_eq_true,decide_eq_true_eq,List.all_eq_true] at hm
 have one:∀ c∈cs,c.gone=false→mayF ⟨c.key,c.val⟩= true∧((zv3 ⟨c.key,c.val⟩: Nat):Int)≤zo3 sz:=fun c hc hg=>by
  have hmc:=hm.2 c hc
  unfold mayC at hmc
  rw [hg] at hmc
  simp only [Bool.false_eq_true,if_false,Bool.and_eq_true,decide_eq_true_eq] at hmc
  have hmf:mayF ⟨c.key,c.val⟩= true:=by
   unfold mayF
   simp only [Bool.and_eq_true,decide_eq_true_eq]
   exact ⟨⟨hmc.1,hmc.2.1⟩,hmc.2.2⟩
  refine ⟨hmf,?_⟩
  have e:=(ul5 hmf).1
  have ec:ze4 ⟨c.key,c.val⟩= c:=by
   cases c
   simp only at hg
   subst hg;rfl
  rw [ec] at e
  have hle:(chgB c).length≤(cs.flatMap chgB).length:=by
   obtain ⟨a,t,rfl⟩:=List.append_of_mem hc
   simp
   omega
  unfold yv9 at hb
  rw [List.length_cons] at hb
  omega
 have mem:∀ (cs':List zb2) (l:List Fact),(∀ c∈cs',c∈cs)→∀ f∈zt9 l cs',f∈l∨∃ c∈cs,c.gone=false∧f=⟨c.key,c.val⟩:=by
  intro cs'
  induction cs' with
  | nil=>intro l _ f hf;exact .inl hf
  | cons c cs' ih =>
   intro l hc f hf
   rcases ih (putF c l) (fun x hx=>hc x (by simp [hx])) f hf with h | h
   ·rcases xi9 h with h | ⟨h3,h4⟩
    ·exact .inl h
    ·exact .inr ⟨c,hc c (by simp),h3,h4⟩
   ·exact .inr h
 have mem':∀ f∈ze0 F cs,f∈F∨∃ c∈cs,c.gone=false∧f=⟨c.key,c.val⟩:=fun f hf=>by
  rw [yh4 h.ord] at hf
  exact mem cs F (fun _ h=>h) f hf
 refine ⟨yh3 _ _,fun f hf=>?_,fun f hf=>?_⟩
 ·rcases mem' f hf with hf | ⟨c,hc,hg,rfl⟩
  ·exact h.may f hf
  ·exact (one c hc hg).1
 ·rcases mem' f hf with hf | ⟨c,hc,hg,rfl⟩
  ·exact h.cost f hf
  ·exact (one c hc hg).2
theorem Fine.nil (sz:Nat):Fine sz []:=⟨rfl,(fun _ h=>by cases h),(fun _ h=>by cases h)⟩
structure AllOk (s:LogS) (gs:List (List zb2)) (H:Nat) (r:LogS×Nat):Prop where
 err:r.2=0∨r.2=10∨r.2=11
 era:r.1.era=s.era
 facts:r.1.facts=s.facts
 geo:s.chip.SameGeo r.1.chip
 well:Well r.1.chip s.era
 lo:s.pool.last≤r.1.pool.last
 hi:r.1.pool.last≤s.pool.last+s.chip.nb * (H+2) * gs.length
 dead:r.2=10→r.1.chip.dead=true
 log:r.2≠10→yd9 r.1
 open_:r.2=0→(∃ i a t p,Open r.1 i a t p)∧r.1.page≤s.page+gs.length
 cov:∀ n,Cov s n→r.2≠10→Cov r.1 n
 says:∃ k,(r.2=0→k=gs.length)∧(∀ n,Cov s n→zk3 n (partsC r.1.chip s.era)=ze0 (zk3 n (partsC s.chip s.era)) (gs.take k).flatten)∧lowL (partsC r.1.chip s.era)=lowL (partsC s.chip s.era)
 full:r.2=11→zh3 r.1.pool r.1.chip=0
 live:s.page+gs.length≤s.chip.np→∀ n,Cov s n→r.2≠10→zy4 n r.1.chip+(if r.2=11 then 1 else 0)≤zy4 n s.chip
 hits:r.1.chip.hits.length≤s.chip.hits.length
 calm:(∀ t∈s.chip.hits,t.fails=false)→(∀ t∈r.1.chip.hits,t.fails=false)∧r.1.chip.bad=s.chip.bad
 still:s.chip.hits=[]→r.1.chip.hits=[]∧r.2≠10
 bads:zr6 s.chip≤zr6 r.1.chip
 inv:Inv r.1.pool r.1.chip
theorem vc0 {H:Nat}:∀ (gs:List (List zb2)) {s:LogS},yd9 s→(∃ i a t p,Open s i a t p)→(∀ g∈gs,(putL s.chip.sz g).2=0)→s.chip.hits.length≤H→s.pool.last+s.chip.nb * (H+2) * gs.length<18446744073709551616→
  AllOk s gs H (LogS.writeAll (gs.map fun g=>(putL s.chip.sz g).1) s)
 | [],s,h,ho,hg,hH,hl=>by
  refine ⟨.inl rfl,rfl,rfl,.refl _,h.well,Nat.le_refl _,Nat.le_add_right _ _,(fun h=>by cases h),fun _=>h,fun _=>⟨ho,Nat.le_refl _⟩,fun n hn _=>hn,⟨0,fun _=>rfl,fun n _=>?_,rfl⟩,(fun h=>by cases h),fun _ n _ _=>?_,Nat.le_refl _,fun hc=>⟨hc,rfl⟩,fun hq=>⟨hq,(fun h=>by cases h)⟩,Nat.le_refl _,h.inv⟩
  ·exact (yr5 (yn7 n _)).symm
  ·exact Nat.le_refl _
 | g :: gs,s,h,ho,hg,hH,hl=>by
  have hok:=h.well.ci.ok
  have hnn:s.chip.nb * (H+2) * (g :: gs).length=s.chip.nb * (H+2) * gs.length+s.chip.nb * (H+2):=by rw [List.length_cons,Nat.mul_succ]
  have hmm:s.chip.nb * s.fuel≤s.chip.nb * (H+2):=Nat.mul_le_mul_left _ (by unfold LogS.fuel;omega)
  obtain ⟨i,a,t,p,ho⟩:=ho
  have hpage1:=ho.page
  have W:=va5 (pg:=(putL s.chip.sz g).1) (cs:=g) (d:=0) s.fuel h (xq3 hok.sz1 hok.sz2 (hg g (by simp))).1 ⟨Nat.zero_le _,fun _ _ _ _ _ _=>Nat.zero_le _⟩ (by unfold LogS.left LogS.fuel;split<;>omega) (by omega)
  have hblk:s.block≠-1:=by have:=ho.blk;omega
  have e:LogS.writeAll ((g :: gs).map fun g=>(putL s.chip.sz g).1) s=if (s.write (putL s.chip.sz g).1 s.fuel).2≠0 then s.write (putL s.chip.sz g).1 s.fuel else LogS.writeAll (gs.map fun g=>(putL s.chip.sz g).1) (s.write (putL s.chip.sz g).1 s.fuel).1:=rfl
  rw [e]
  generalize s.write (putL s.chip.sz g).1 s.fuel=y at *
  have hyhi:=W.hi
  have hT:s.page+(g :: gs).length≤s.chip.np→(if s.block= -1∨s.page≥s.chip.np then 1 else 0)=0:=fun hp=>by
   rw [if_neg]
   rintro (h1 | h1)
   ·exact hblk h1
   ·simp only [List.length_cons] at hp;omega
  split
  ·rename_i hne
   refine ⟨W.err,W.era,W.facts,W.geo,W.well,W.lo,by rw [hnn];omega,W.dead,W.log,fun h0=>absurd h0 hne,W.cov,?_,W.full,fun hp n hn hne'=>?_,W.hits,fun hc=>⟨(W.calm hc).1,(W.calm hc).2.1⟩,W.still,W.bads,W.inv⟩
   ·rcases W.says with ⟨h1,_⟩| h1
    ·exact ⟨0,fun h0=>absurd h0 hne,fun n _=>by rw [h1.1 n];exact (yr5 (yn7 n _)).symm,h1.2⟩
    ·exact ⟨1,fun h0=>absurd h0 hne,fun n hn=>by rw [h1.1 n hn];simp,by rw [h1.2];omega⟩
   ·have:=W.live n hn hne'
    rw [hT hp] at this
    exact this
  ·rename_i hz
   have h0:y.2=0:=Classical.byContradiction hz
   have hne10:y.2≠10:=by omega
   obtain ⟨o1,o2⟩:=W.open_ h0
   have hg2:=W.geo
   have hse:(gs.map fun g=>(putL s.chip.sz g).1)=gs.map fun g=>(putL y.1.chip.sz g).1:=by rw [hg2.2.2.1]
   rw [hse]
   have A:=vc0 (H:=H) gs (W.log hne10) o1 (fun x hx=>by rw [hg2.2.2.1];exact hg x (by simp [hx])) (Nat.le_trans W.hits hH) (by rw [hg2.1];omega)
   generalize LogS.writeAll (gs.map fun g=>(putL y.1.chip.sz g).1) y.1=r at *
   have ahi:=A.hi
   rw [hg2.1] at ahi
   have awell:=A.well
   have asays:=A.says
   rw [W.era] at awell asays
   refine ⟨A.err,A.era.trans W.era,A.facts.trans W.facts,hg2.trans A.geo,awell,Nat.le_trans W.lo A.lo,by rw [hnn];omega,A.dead,A.log,fun hr0=>⟨(A.open_ hr0).1,?_⟩,fun n hn hne=>A.cov n (W.cov n hn hne10) hne,?_,A.full,fun hp n hn hne=>?_,Nat.le_trans A.hits W.hits,fun hc=>?_,fun hq=>A.still (W.still hq).1,Nat.le_trans W.bads A.bads,A.inv⟩
   ·have:=(A.open_ hr0).2
    rw [List.length_cons]
    rcases o2 with o2 | ⟨_,_,o2⟩<;>omega
   ·obtain ⟨k,k1,k2,k3⟩:=asays
    have hW:Done (Cov s) g 0 (partsC s.chip s.era) (partsC y.1.chip s.era):=by
     rcases W.says with ⟨_,h2⟩| h2
     ·exact absurd h0 h2
     ·exact h2
    refine ⟨k+1,fun hr0=>by rw [k1 hr0,List.length_cons],fun n hn=>?_,by rw [k3,hW.2];omega⟩
    rw [k2 n (W.cov n hn hne10),hW.1 n hn,List.take_succ_cons,List.flatten_cons,xt1 (yn7 n _)]
   ·have w1:=W.live n hn hne10
    rw [hT hp,if_neg (by omega)] at w1
    rw [List.length_cons] at hp
    have a1:=A.live (by
     rw [hg2.2.1]
     rcases o2 with o2 | ⟨_,_,o2⟩<;>omega) n (W.cov n hn hne10) hne
    omega
   ·have w1:=W.calm hc
    have a1:=A.calm w1.1
    exact ⟨a1.1,a1.2.trans w1.2.1⟩
theorem qa8 {P:Pool} {c:Chip} (h:Inv P c) (hd0:c.dead=false) {i:Nat} (hi:i<c.nb) (hh:isHd c i) (hb:c.isBad i=false):(zd1 P c i).2.1=(c.erase i).1:=by
 unfold zd1
 rw [if_neg]
 rintro (a | a | a | a)
 ·omega
 ·omega
 ·rw [Int.toNat_natCast] at a
  exact a ((h.what hd0 hi).2 hh)
 ·rw [Int.toNat_natCast,hb] at a;cases a
structure qn9 (s:LogS) (r:Pool×Chip×Nat) (t:zb7):Prop where
 err:r.2.2=0∨r.2.2=10
 geo:s.chip.SameGeo r.2.1
 well:Well r.2.1 s.era
 low:lowL (partsC r.2.1 s.era)=lowL (partsC s.chip s.era)
 told:told (partsC r.2.1 s.era)=told (partsC s.chip s.era)
 last:r.1.last=s.pool.last
 dead:r.2.2=10→r.2.1.dead=true
 log:r.2.2=0→yd9 { s with pool:=r.1,chip:=r.2.1 }
 gone:r.2.2=0→r.2.1.isBad t.block=true∨¬ isHd r.2.1 t.block
 keep:∀ j,isHd r.2.1 j→isHd s.chip j∧hd r.2.1 j=hd s.chip j
 other:∀ j,j≠t.block→r.2.1.blk j=s.chip.blk j∧r.2.1.isBad j=s.chip.isBad j
 bad:∀ j,s.chip.isBad j=true→r.2.1.isBad j=true
 hits:r.2.1.hits.length≤s.chip.hits.length
 calm:(∀ t∈s.chip.hits,t.fails=false)→(∀ t∈r.2.1.hits,t.fails=false)∧r.2.1.bad=s.chip.bad
 still:s.chip.hits=[]→r.2.1.hits=[]∧r.2.2=0
 inv:Inv r.1 r.2.1
theorem qj3 {s:LogS} (h:yd9 s) {t:zb7} (ht:yg2 s.chip s.chip.nb t) (hb:t.bad=false) (hs:t.head.seq<lowL (partsC s.chip s.era)):qn9 s (zd1 s.pool s.chip t.block) t:=by
 obtain ⟨t1,t2,t3,t4⟩:=ht
 have hci:=h.well.ci
 rw [hb] at t4
 have hm:Mine s.chip t.block:=⟨by omega,by omega,by simpa using t2,by simpa using t4.symm⟩
 obtain ⟨e,F⟩:=qa5 h.inv h.alive hm
 rw [Int.toNat_natCast] at F
 have hch:=qa8 h.inv h.alive t1 t2 t4.symm
 have hhits:=qa6 h.inv h.alive t.block
 have hsub:∀ k,SubL (s.chip.page t.block k) ((zd1 s.pool s.chip t.block).2.1.page t.block k):=fun k=>by
  rw [hch];exact ue4 hci.ok h.alive t1 t4.symm k
 generalize zd1 s.pool s.chip t.block=r at *
 have hde:=F.deed
 have hg:=hde.geo
 have hpg:∀ P∈zk1 r.2.1 t.block,P∈zk1 s.chip t.block:=fun P hP=>by
  unfold zk1 zk8 at hP ⊢
  rw [List.mem_filterMap] at hP ⊢
  obtain ⟨k,hk1,hk2⟩:=hP
  rw [hg.2.1] at hk1
  refine ⟨k,hk1,?_⟩
  split at hk2
  ·cases hk2
  ·rename_i hk0
   rw [if_neg hk0]
   have hk:k<s.chip.np:=by simpa using hk1
   have:=(h.well.safe t.block k t1 hk).same (hsub k) (vf6 (n:=k) (by rw [hk2];simp))
   rw [← this];exact hk2
 obtain ⟨p1,p2⟩:=uk8 hci F.inv.ci hg hde.blk F.keep hpg s.era
 have hf:=p2 (lowL (partsC s.chip s.era)) fun _=>by rw [← t3];exact hs
 obtain ⟨d1,d2,d3⟩:=qj6 h.well.drops p1 hf
 have hkeep:∀ j,isHd r.2.1 j→isHd s.chip j∧hd r.2.1 j=hd s.chip j:=fun j hj=>by
  by_cases ej:j=t.block
  ·subst ej;exact F.keep hj
  ·exact ⟨(yh7 hg (hde.blk j ej)).1 hj,yo6 hg (hde.blk j ej)⟩
 have hsafe:yi4 r.2.1:=h.well.safe.up hg hde.blk fun _ k hk=>(h.well.safe t.block k t1 hk).up (hsub k)
 have hmine:∀ i,i<r.2.1.nb→isHd r.2.1 i→(hd r.2.1 i).1.kind=1∧(hd r.2.1 i).1.era=s.era:=fun i hi hh=>by
  obtain ⟨k1,k2⟩:=hkeep i hh
  rw [hg.1] at hi
  rw [k2]
  exact h.well.mine i hi k1
 have hwell:Well r.2.1 s.era:=⟨F.inv.ci,hsafe,d3,hmine⟩
 have herr:=F.err
 have hcases:=hde.cases
 refine ⟨?_,hg,hwell,d1,d2,F.last,fun h10=>?_,fun h0=>?_,fun h0=>?_,hkeep,fun j hj=>⟨hde.blk j hj,hde.bad j hj⟩,fun j hj=>?_,hhits,fun hc=>⟨(hde.calm hc).2.1,(hde.calm hc).2.2⟩,fun hq=>⟨(hde.quiet hq).2,?_⟩,F.inv⟩
 ·rcases hcases with ⟨a,_⟩| ⟨a,_⟩| ⟨a,_⟩
  ·rw [herr,if_neg (by omega)];exact .inl a
  ·rw [herr,if_pos a];exact .inl rfl
  ·rw [herr,if_neg (by omega)];exact .inr a
 ·rcases hcases with ⟨a,_⟩| ⟨a,_⟩| ⟨_,a,_⟩
  ·rw [herr,if_neg (by omega)] at h10;omega
  ·rw [herr,if_pos a] at h10;omega
  ·exact a
 ·have hal:r.2.1.dead=false:=by
   rcases hcases with ⟨_,a,_⟩| ⟨_,a,_⟩| ⟨a,_⟩
   ·rw [a];exact h.alive
   ·rw [a];exact h.alive
   ·rw [herr,if_neg (by omega)] at h0;omega
  refine ⟨F.inv,hal,by show r.1.turn≤r.2.1.nb;rw [F.turn,hg.1];exact h.turn,h.era1,h.era2,hwell,?_⟩
  by_cases hpgs:s.chip.np≤s.page
  ·exact .inr (.inl (by show r.2.1.np≤s.page;rw [hg.2.1];exact hpgs))
  rcases h.open_ with ho | ho | ⟨i,a,u,p,ho⟩
  ·exact .inl ho
  ·exact .inr (.inl (by show r.2.1.np≤s.page;rw [hg.2.1];exact ho))
  ·have hcov:=(ul1 h).2 i a u p (by omega) ho
   obtain ⟨o1,o2,o3⟩:=ho.hd hci
   have hne:i≠t.block:=fun ei=>by
    rw [t3,← ei,← o3] at hs
    omega
   have hblk:=hde.blk i hne
   have hpm:p∈partsC r.2.1 s.era:=by
    have:p∈(partsC r.2.1 s.era).filter fun x=>decide (lowL (partsC s.chip s.era)≤x.seq):=by
     rw [hf,List.mem_filter]
     exact ⟨ho.mem,decide_eq_true hcov⟩
    exact (List.mem_filter.1 this).1
   obtain ⟨a',u',hau⟩:=List.append_of_mem hpm
   refine .inr (.inr ⟨i,a',u',p,ho.blk,hau,ho.pb,fun x hx=>?_,?_,ho.page,ho.open_.blk hg hblk⟩)
   ·have hrise:=zt2 F.inv.ci s.era
    rw [hau] at hrise
    unfold yy6 at hrise
    rw [List.pairwise_append,List.pairwise_cons] at hrise
    have hxs:=hrise.2.1.1 x hx
    have hxm:x∈partsC s.chip s.era:=by
     have:x∈(partsC s.chip s.era).filter fun x=>decide (lowL (partsC s.chip s.era)≤x.seq):=by
      rw [← hf,List.mem_filter]
      refine ⟨by rw [hau];simp [hx],decide_eq_true (by omega)⟩
     exact (List.mem_filter.1 this).1
    have hrise0:=zt2 hci s.era
    rw [ho.parts] at hrise0 hxm
    unfold yy6 at hrise0
    rw [List.pairwise_append,List.pairwise_cons] at hrise0
    rcases List.mem_append.1 hxm with hxa | hxa
    ·have:=hrise0.2.2 x hxa p (by simp);omega
    ·rcases List.mem_cons.1 hxa with rfl | hxa
     ·omega
     ·exact ho.quiet x hxa
   ·show r.2.1.isBad i=false
    rw [hde.bad i hne];exact ho.good
 ·rcases hcases with ⟨a,_⟩| ⟨_,_,a⟩| ⟨a,_⟩
  ·exact .inr (F.gone a)
  ·exact .inl a
  ·rw [herr,if_neg (by omega)] at h0;omega
 ·rw [hde.bad j fun ej=>by rw [ej,← t4] at hj;cases hj];exact hj
 ·have:=(hde.quiet hq).1
  rw [herr,if_neg (by omega)];exact this
structure ql4 (s:LogS) (first:Nat) (l:List zb7) (r:LogS×Nat):Prop where
 err:r.2=0∨r.2=10
 era:r.1.era=s.era
 facts:r.1.facts=s.facts
 geo:s.chip.SameGeo r.1.chip
 well:Well r.1.chip s.era
 low:lowL (partsC r.1.chip s.era)=lowL (partsC s.chip s.era)
 told:told (partsC r.1.chip s.era)=told (partsC s.chip s.era)
 last:r.1.pool.last=s.pool.last
 dead:r.2=10→r.1.chip.dead=true
 log:r.2=0→yd9 r.1
 gone:r.2=0→∀ t∈l,t.bad=false→t.head.seq<first→r.1.chip.isBad t.block=true∨¬ isHd r.1.chip t.block
 keep:∀ j,isHd r.1.chip j→isHd s.chip j∧hd r.1.chip j=hd s.chip j
 bad:∀ j,s.chip.isBad j=true→r.1.chip.isBad j=true
 hits:r.1.chip.hits.length≤s.chip.hits.length
 calm:(∀ t∈s.chip.hits,t.fails=false)→(∀ t∈r.1.chip.hits,t.fails=false)∧r.1.chip.bad=s.chip.bad
 still:s.chip.hits=[]→r.1.chip.hits=[]∧r.2=0
 inv:Inv r.1.pool r.1.chip
theorem xu9 {first:Nat}:∀ (l:List zb7) {s:LogS},yd9 s→first≤lowL (partsC s.chip s.era)→(∀ t∈l,yg2 s.chip s.chip.nb t)→l.Pairwise (fun a b=>a.block≠b.block)→ql4 s first l (LogS.freeAll first l s)
 | [],s,h,hf,hl,hp=>⟨.inl rfl,rfl,rfl,.refl _,h.well,rfl,rfl,rfl,(fun h=>by cases h),fun _=>h,(fun _ _ ht=>by cases ht),fun _ hj=>⟨hj,rfl⟩,fun _ hj=>hj,Nat.le_refl _,fun hc=>⟨hc,rfl⟩,fun hq=>⟨hq,rfl⟩,h.inv⟩
 | x :: l,s,h,hf,hl,hp=>by
  obtain ⟨p1,p2⟩:=List.pairwise_cons.1 hp
  have e:LogS.freeAll first (x :: l) s=(if x.head.seq≥first∨x.bad=true then LogS.freeAll first l s else if (zd1 s.pool s.chip x.block).2.2≠0 then ({ s with pool:=(zd1 s.pool s.chip x.block).1,chip:=(zd1 s.pool s.chip x.block).2.1 },(zd1 s.pool s.chip x.block).2.2) else LogS.freeAll first l { s with pool:=(zd1 s.pool s.chip x.block).1,chip:=(zd1 s.pool s.chip x.block).2.1 }):=rfl
  rw [e]
  have hx:=hl x (by simp)
  split
  ·rename_i hc
   have R:=xu9 l h hf (fun t ht=>hl t (by simp [ht])) p2
   refine ⟨R.err,R.era,R.facts,R.geo,R.well,R.low,R.told,R.last,R.dead,R.log,fun h0 t ht hb hs=>?_,R.keep,R.bad,R.hits,R.calm,R.still,R.inv⟩
   rcases List.mem_cons.1 ht with rfl | ht
   ·rcases hc with hc | hc
    ·omega
    ·rw [hb] at hc;cases hc
   ·exact R.gone h0 t ht hb hs
  ·rename_i hc
   have hb:x.bad=false:=by
    cases hb:x.bad with
    | false=>rfl
    | true=>exact absurd (.inr hb) hc
   have hs:x.head.seq<first:=by
    by_cases hs:x.head.seq<first
    ·exact hs
    ·exact absurd (.inl (by omega)) hc
   have F:=qj3 h hx hb (by omega)
   generalize zd1 s.pool s.chip x.block=r at *
   split
   ·rename_i hne
    refine ⟨F.err,rfl,rfl,F.geo,F.well,F.low,F.told,F.last,F.dead,fun h0=>absurd h0 hne,fun h0=>absurd h0 hne,F.keep,F.bad,F.hits,F.calm,F.still,F.inv⟩
   ·rename_i hz
    have h0:r.2.2=0:=Classical.byContradiction hz
    have R:=xu9 (first:=first) l (F.log h0) (by show first≤lowL (partsC r.2.1 s.era);rw [F.low];exact hf) (fun t ht=>by
     obtain ⟨t1,t2,t3,t4⟩:=hl t (by simp [ht])
     have hne:t.block≠x.block:=fun e=>p1 t ht e.symm
     obtain ⟨o1,o2⟩:=F.other t.block hne
     show yg2 r.2.1 r.2.1.nb t
     exact ⟨by rw [F.geo.1];exact t1,(yh7 F.geo o1).2 t2,by rw [yo6 F.geo o1];exact t3,by rw [o2];exact t4⟩) p2
    generalize LogS.freeAll first l { s with pool:=r.1,chip:=r.2.1 }=q at *
    refine ⟨R.err,R.era,R.facts,F.geo.trans R.geo,R.well,R.low.trans F.low,R.told.trans F.told,R.last.trans F.last,R.dead,R.log,fun hq0 t ht hb' hs'=>?_,fun j hj=>?_,fun j hj=>R.bad j (F.bad j hj),Nat.le_trans R.hits F.hits,fun hc'=>?_,fun hq=>?_,R.inv⟩
    ·rcases List.mem_cons.1 ht with rfl | ht
     ·rcases F.gone h0 with g | g
      ·exact .inl (R.bad _ g)
      ·exact .inr fun hh=>g (R.keep _ hh).1
     ·exact R.gone hq0 t ht hb' hs'
    ·obtain ⟨k1,k2⟩:=R.keep j hj
     obtain ⟨g1,g2⟩:=F.keep j k1
     exact ⟨g1,k2.trans g2⟩
    ·have f1:=F.calm hc'
     have r1:=R.calm f1.1
     exact ⟨r1.1,r1.2.trans f1.2⟩
    ·exact R.still (F.still hq).1
theorem LogS.writeAll_snoc (x:List UInt8):∀ (l:List (List UInt8)) (s:LogS),LogS.writeAll (l ++ [x]) s=if (LogS.writeAll l s).2≠0 then LogS.writeAll l s else (LogS.writeAll l s).1.write x (LogS.writeAll l s).1.fuel
 | [],s=>by
  show (if (s.write x s.fuel).2≠0 then s.write x s.fuel else ((s.write x s.fuel).1,0))=_
  rw [if_neg (show ¬ (LogS.writeAll [] s).2≠0 from fun h=>h rfl)]
  show _=s.write x s.fuel
  split
  ·rfl
  ·rename_i h
   have h0:(s.write x s.fuel).2=0:=Classical.byContradiction h
   rw [← h0]
 | b :: l,s=>by
  show (if (s.write b s.fuel).2≠0 then s.write b s.fuel else LogS.writeAll (l ++ [x]) (s.write b s.fuel).1)=_
  rw [LogS.writeAll_snoc x l]
  have e:LogS.writeAll (b :: l) s=if (s.write b s.fuel).2≠0 then s.write b s.fuel else LogS.writeAll l (s.write b s.fuel).1:=rfl
  rw [e]
  by_cases h:(s.write b s.fuel).2≠0
  ·rw [if_pos h,if_pos h]
   exact (if_pos h).symm
  ·rw [if_neg h,if_neg h]
theorem xx9 {sz:Nat} (h1:128≤sz) (h2:sz≤256):∀ (gs:List (List zb2)) {X:List Fact},Fine sz X→(∀ g∈gs,(putL sz g).2=0)→Fine sz (ze0 X gs.flatten)
 | [],X,h,_=>by
  rw [List.flatten_nil,yr5 h.ord];exact h
 | g :: gs,X,h,hg=>by
  rw [List.flatten_cons,← xt1 h.ord]
  exact xx9 h1 h2 gs (h.put h1 h2 (hg g (by simp))) fun x hx=>hg x (by simp [hx])
theorem ys2 {α β:Type} (f:α→β):∀ (l:List (List α)),(l.map fun g=>g.map f).flatten=l.flatten.map f
 | []=>rfl
 | x :: l=>by
  rw [List.map_cons,List.flatten_cons,List.flatten_cons,ys2 f l,List.map_append]
structure qo1 (s:LogS) (H:Nat) (r:LogS×Nat):Prop where
 err:r.2=0∨r.2=10∨r.2=11
 era:r.1.era=s.era
 facts:r.1.facts=s.facts
 geo:s.chip.SameGeo r.1.chip
 well:Well r.1.chip s.era
 told:told (partsC s.chip s.era)=s.facts→told (partsC r.1.chip s.era)=s.facts
 told0:r.2=0→Go.Den.told (partsC r.1.chip s.era)=s.facts
 fine:Fine s.chip.sz (Go.Den.told (partsC s.chip s.era))→Fine s.chip.sz (Go.Den.told (partsC r.1.chip s.era))
 low:lowL (partsC s.chip s.era)≤lowL (partsC r.1.chip s.era)
 low1:r.2=0→1≤lowL (partsC r.1.chip s.era)
 lo:s.pool.last≤r.1.pool.last
 hi:r.1.pool.last≤s.pool.last+s.chip.nb * (H+2) * (s.facts.length+2)
 dead:r.2=10→r.1.chip.dead=true
 log:r.2≠10→yd9 r.1
 full:r.2=11→zh3 r.1.pool r.1.chip=0
 one:s.facts.length+2≤s.chip.np→r.2=0→zy4 0 r.1.chip≤1
 live:s.facts.length+2≤s.chip.np→r.2=11→zy4 0 r.1.chip≤zy4 0 s.chip
 hits:r.1.chip.hits.length≤s.chip.hits.length
 calm:(∀ t∈s.chip.hits,t.fails=false)→(∀ t∈r.1.chip.hits,t.fails=false)∧r.1.chip.bad=s.chip.bad
 still:s.chip.hits=[]→r.1.chip.hits=[]∧r.2≠10
 bads:zr6 s.chip≤zr6 r.1.chip
 inv:Inv r.1.pool r.1.chip
theorem qg2 {c d:Chip} (hg:c.SameGeo d) (h:∀ j,c.isBad j=true→d.isBad j=true):zr6 c≤zr6 d:=by
 unfold zr6
 rw [hg.1]
 exact yi8 fun j _=>h j
theorem xd8 {l l':List Part} (h:Same l l'):told l'=told l:=by
 unfold told
 rw [h.2,h.1]
theorem um5 {s:LogS} {H:Nat} (h:yd9 s) (hfine:Fine s.chip.sz s.facts) (hH:s.chip.hits.length≤H) (hl:s.pool.last+s.chip.nb * (H+2) * (s.facts.length+2)<18446744073709551616):qo1 s H s.anew:=by
 have hok:=h.well.ci.ok
 obtain ⟨gs,g1,g2,g3,g4⟩:=ur4 hok.sz1 hok.sz2 hfine
 have Tk:=uv6 h (by
  have:s.chip.nb * 1≤s.chip.nb * (H+2) * (s.facts.length+2):=by
   rw [Nat.mul_assoc]
   exact Nat.mul_le_mul_left _ (Nat.le_trans (by omega:1≤1 * 2) (Nat.mul_le_mul (by omega) (by omega)))
  omega)
 have hne10:∀ {n:Nat},n=0→n≠10:=fun h=>by omega
 have hlow:=ul1 h
 rw [LogS.anew_eq]
 rw [g1]
 rw [if_neg (show ¬ ((gs.map fun l=>(putL s.chip.sz (l.map ze4)).1),0).2≠0 from fun h=>h rfl)]
 have hTl0:=Tk.live 0
 have hTsame:=Tk.behind.same
 have hA1:s.chip.nb * 1≤s.chip.nb * (H+2):=Nat.mul_le_mul_left _ (by omega)
 have hfl2:s.chip.nb * (H+2) * (s.facts.length+2)=s.chip.nb * (H+2) * s.facts.length+s.chip.nb * (H+2)+s.chip.nb * (H+2):=by
  rw [Nat.mul_succ,Nat.mul_succ]
 have hgl:s.chip.nb * (H+2) * gs.length≤s.chip.nb * (H+2) * s.facts.length:=Nat.mul_le_mul_left _ g4
 generalize hN:s.chip.nb * (H+2)=N at *
 split
 ·rename_i hne
  have ht':=xd8 hTsame
  refine ⟨Tk.err,Tk.keeps.era,Tk.keeps.facts,Tk.keeps.geo,Tk.well,fun h=>by rw [ht'];exact h,fun h0=>absurd h0 hne,fun h=>by rw [ht'];exact h,Nat.le_of_eq hTsame.2.symm,fun h0=>absurd h0 hne,Tk.lo,by rw [hN];have:=Tk.hi;omega,Tk.dead,Tk.log,fun h11=>(Tk.stay h11).1,fun _ h0=>absurd h0 hne,fun _ h11=>?_,Tk.hits,Tk.calm,Tk.still,Tk.bads,Tk.inv⟩
  have:=hTl0 (by omega)
  rw [if_neg hne] at this
  exact this
 rename_i hz
 have h0:s.take.2=0:=Classical.byContradiction hz
 have hlog1:=Tk.log (hne10 h0)
 obtain ⟨i,a,p,ho,hpg,hpp,hps,hps2⟩:=Tk.ok h0
 have hthi:=Tk.hi
 have hera:s.take.1.era=s.era:=Tk.keeps.era
 have hgeo:=Tk.keeps.geo
 have hlive1:∀ n,zy4 n s.take.1.chip≤zy4 n s.chip+1:=fun n=>by
  have:=Tk.live n (hne10 h0)
  rw [if_pos h0] at this
  exact this
 have hcov1:=fun n hn=>Tk.cov n hn (hne10 h0)
 have hwell1:=Tk.well
 have hhits1:=Tk.hits
 have hcalm1:=Tk.calm
 have hstill1:=Tk.still
 have hbads1:=Tk.bads
 have hlo1:=Tk.lo
 have hf1:s.take.1.facts=s.facts:=Tk.keeps.facts
 clear Tk
 generalize s.take.1=s1 at *
 generalize hfirst:s1.pool.last=first at *
 have hsz1:s1.chip.sz=s.chip.sz:=hgeo.2.2.1
 have hnb1:s1.chip.nb=s.chip.nb:=hgeo.1
 have hfirst0:first≠0:=by omega
 have hfirstlt:first<18446744073709551616:=by omega
 obtain ⟨hdr0,hdr⟩:=vz4 (sz:=s.chip.sz) hok.sz1 hok.sz2 hfirst0 hfirstlt
 have hnone:zk3 first (partsC s1.chip s.era)=[]:=by
  have hr:=zt2 hwell1.ci s.era
  have hpa:=ho.parts
  rw [hera] at hpa
  rw [hpa] at hr ⊢
  rw [ys4 (fun x hx=>by simp at hx;rw [hx];exact hpp)]
  refine vw2 fun x hx=>?_
  unfold yy6 at hr
  rw [List.pairwise_append] at hr
  have:=hr.2.2 x hx p (by simp)
  omega
 have hlivef:zy4 first s.chip=0:=by
  unfold zy4
  rw [List.length_eq_zero_iff,List.filter_eq_nil_iff]
  intro j hj hh
  simp only [Bool.and_eq_true,decide_eq_true_eq,yx4] at hh
  have:=h.inv.last j (by simpa using hj) hh.1.1
  omega
 have hcovf:Cov s1 first:=⟨by omega,fun i' a' t' p' _ o'=>by
  have:=yz2 hwell1.ci (era:=s.era) (p:=p') (q:=p) (by rw [← hera];exact o'.mem) (by rw [← hera];exact ho.mem) (by
   have e1:=o'.pb
   have e2:=o'.blk
   have e3:=ho.pb
   have e4:=ho.blk
   omega)
  rw [this,hps]
  exact Nat.le_refl _⟩
 obtain ⟨gc,hgc⟩: ∃ gc:List (List zb2),gc=gs.map fun l=>l.map ze4:=⟨_,rfl⟩
 have hgcl:gc.length=gs.length:=by rw [hgc];simp
 have hgcok:∀ g∈gc,(putL s.chip.sz g).2=0:=fun g hg=>by
  rw [hgc] at hg
  obtain ⟨x,hx,rfl⟩:=List.mem_map.1 hg
  exact g3 x hx
 have hgcf:gc.flatten=s.facts.map ze4:=by rw [hgc,ys2,g2]
 have hpages:(gs.map fun l=>(putL s.chip.sz (l.map ze4)).1)=gc.map fun g=>(putL s1.chip.sz g).1:=by
  rw [hgc,List.map_map,hsz1];rfl
 have htold1:told (partsC s1.chip s.era)=told (partsC s.chip s.era):=xd8 hTsame
 have A:=vc0 (H:=H) gc hlog1 ⟨_,_,_,_,ho⟩ (by rw [hsz1];exact hgcok) (by omega) (by rw [hnb1,hN,hgcl];omega)
 simp only
 rw [LogS.writeAll_snoc,hpages]
 generalize LogS.writeAll (gc.map fun g=>(putL s1.chip.sz g).1) s1=u at *
 have ahi:=A.hi
 rw [hnb1,hN,hgcl] at ahi
 have asays:=A.says
 have awell:=A.well
 rw [hera] at asays awell
 obtain ⟨k,k1,k2,k3⟩:=asays
 have hlowu:lowL (partsC u.1.chip s.era)=lowL (partsC s.chip s.era):=k3.trans hTsame.2
 have htoldu:told (partsC u.1.chip s.era)=ze0 (told (partsC s.chip s.era)) (gc.take k).flatten:=by
  unfold told
  rw [hlowu,k2 _ (hcov1 _ hlow),hTsame.1]
 have hpart:∀ f∈(gs.take k).flatten,f∈s.facts:=fun f hf=>by
  obtain ⟨g,hg,hfg⟩:=List.mem_flatten.1 hf
  rw [← g2]
  exact List.mem_flatten.2 ⟨g,List.mem_of_mem_take hg,hfg⟩
 have htk:(gc.take k).flatten=(gs.take k).flatten.map ze4:=by rw [hgc,← List.map_take,ys2]
 have htf:told (partsC s.chip s.era)=s.facts→told (partsC u.1.chip s.era)=s.facts:=fun hs=>by
  rw [htoldu,hs,htk]
  exact um3 hfine.ord hpart
 have hff:Fine s.chip.sz (told (partsC s.chip s.era))→Fine s.chip.sz (told (partsC u.1.chip s.era)):=fun hs=>by
  rw [htoldu]
  exact xx9 hok.sz1 hok.sz2 _ hs fun g hg=>hgcok g (List.mem_of_mem_take hg)
 have afacts:u.1.facts=s.facts:=A.facts.trans hf1
 have aera:u.1.era=s.era:=A.era.trans hera
 have ageo:=hgeo.trans A.geo
 have ahits:u.1.chip.hits.length≤s.chip.hits.length:=Nat.le_trans A.hits hhits1
 have alo:s.pool.last≤u.1.pool.last:=by have:=A.lo;omega
 have alive:s.facts.length+2≤s.chip.np→∀ n,Cov s1 n→u.2≠10→zy4 n u.1.chip+(if u.2=11 then 1 else 0)≤zy4 n s1.chip:=fun hp=>A.live (by rw [hpg,hgcl,hgeo.2.1];omega)
 have acalm:(∀ t∈s.chip.hits,t.fails=false)→(∀ t∈u.1.chip.hits,t.fails=false)∧u.1.chip.bad=s.chip.bad:=fun hc=>by
  have c1:=hcalm1 hc
  have c2:=A.calm c1.1
  exact ⟨c2.1,c2.2.trans c1.2⟩
 have astill:s.chip.hits=[]→u.1.chip.hits=[]∧u.2≠10:=fun hq=>A.still (hstill1 hq).1
 have abads:=Nat.le_trans hbads1 A.bads
 by_cases hu:u.2≠0
 ·rw [if_pos hu,if_pos hu]
  refine ⟨A.err,aera,afacts,ageo,awell,htf,fun h0=>absurd h0 hu,hff,Nat.le_of_eq hlowu.symm,fun h0=>absurd h0 hu,alo,by rw [hN];omega,A.dead,A.log,A.full,fun _ h0=>absurd h0 hu,fun hp h11=>?_,ahits,acalm,astill,abads,A.inv⟩
  have a1:=alive hp 0 ⟨Nat.zero_le _,fun _ _ _ _ _ _=>Nat.zero_le _⟩ (by omega)
  rw [if_pos h11] at a1
  have:=hlive1 0
  omega
 rw [if_neg hu]
 have hu0:u.2=0:=Classical.byContradiction hu
 have hlogu:=A.log (hne10 hu0)
 obtain ⟨⟨i2,a2,t2,p2,ho2⟩,hpage2⟩:=A.open_ hu0
 have hGu:zk3 first (partsC u.1.chip s.era)=s.facts:=by
  rw [k2 first hcovf,hnone,k1 hu0,List.take_length,hgcf]
  exact uu7 hfine.ord
 have hcovu:Cov u.1 first:=A.cov _ hcovf (hne10 hu0)
 have hcovlow:Cov u.1 (lowL (partsC s.chip s.era)):=A.cov _ (hcov1 _ hlow) (hne10 hu0)
 have hcov0:Cov u.1 0:=⟨Nat.zero_le _,fun _ _ _ _ _ _=>Nat.zero_le _⟩
 have afull:=A.full
 have hlivu:s.facts.length+2≤s.chip.np→∀ n,Cov s1 n→zy4 n u.1.chip≤zy4 n s1.chip:=fun hp n hn=>by
  have:=alive hp n hn (hne10 hu0)
  rw [if_neg (by omega)] at this
  exact this
 clear A
 generalize u.1=s2 at *
 have hnb2:s2.chip.nb=s.chip.nb:=ageo.1
 have hnp2:s2.chip.np=s.chip.np:=ageo.2.1
 have hfuel:s.chip.nb * s2.fuel≤N:=by rw [← hN];exact Nat.mul_le_mul_left _ (by unfold LogS.fuel;omega)
 have W:=va5 (pg:=(zq9 s.chip.sz first).1) (cs:=[]) (d:=first) s2.fuel hlogu (by rw [ageo.2.2.1];exact hdr) hcovu (by unfold LogS.left LogS.fuel;split<;>omega) (by rw [hnb2];omega)
 have hT:s.facts.length+2≤s.chip.np→(if s2.block= -1∨s2.page≥s2.chip.np then 1 else 0)=0:=fun hp=>by
  rw [if_neg]
  rintro (h1 | h1)
  ·have:=ho2.blk;omega
  ·omega
 generalize s2.write (zq9 s.chip.sz first).1 s2.fuel=r at *
 have whi:=W.hi
 rw [hnb2] at whi
 have wsays:=W.says
 have wwell:=W.well
 rw [aera] at wsays wwell
 have wgeo:=ageo.trans W.geo
 have wcalm:(∀ t∈s.chip.hits,t.fails=false)→(∀ t∈r.1.chip.hits,t.fails=false)∧r.1.chip.bad=s.chip.bad:=fun hc=>by
  have c1:=acalm hc
  have c2:=W.calm c1.1
  exact ⟨c2.1,c2.2.1.trans c1.2⟩
 have wtell:(told (partsC r.1.chip s.era)=s.facts∧first≤lowL (partsC r.1.chip s.era))∨(r.2≠0∧told (partsC r.1.chip s.era)=told (partsC s2.chip s.era)):=by
  rcases wsays with ⟨h1,h2⟩| h1
  ·exact .inr ⟨h2,xd8 h1⟩
  ·left
   have hlt:lowL (partsC s.chip s.era)≤first:=by have:=hlow.1;omega
   have e:lowL (partsC r.1.chip s.era)=first:=by rw [h1.2,hlowu];omega
   refine ⟨?_,by omega⟩
   unfold told
   rw [e,h1.1 first hcovu,hGu,yr5 hfine.ord]
 have wlow:lowL (partsC s.chip s.era)≤lowL (partsC r.1.chip s.era):=by
  rcases wsays with ⟨h1,_⟩| h1
  ·rw [h1.2,hlowu];exact Nat.le_refl _
  ·rw [h1.2,hlowu];omega
 have wlive:s.facts.length+2≤s.chip.np→∀ n,Cov s1 n→Cov s2 n→r.2≠10→zy4 n r.1.chip+(if r.2=11 then 1 else 0)≤zy4 n s.chip+1:=fun hp n hn1 hn2 hne=>by
  have w1:=W.live n hn2 hne
  rw [hT hp] at w1
  have w2:=hlivu hp n hn1
  have w3:=hlive1 n
  omega
 by_cases hr:r.2≠0
 ·rw [if_pos hr]
  refine ⟨W.err,W.era.trans aera,W.facts.trans afacts,wgeo,wwell,fun hs=>?_,fun h0=>absurd h0 hr,fun hs=>?_,wlow,fun h0=>absurd h0 hr,Nat.le_trans alo W.lo,by rw [hN];omega,W.dead,W.log,W.full,fun _ h0=>absurd h0 hr,fun hp h11=>?_,Nat.le_trans W.hits ahits,wcalm,fun hq=>W.still (astill hq).1,Nat.le_trans abads W.bads,W.inv⟩
  ·rcases wtell with ⟨h1,_⟩| ⟨_,h1⟩
   ·exact h1
   ·rw [h1];exact htf hs
  ·rcases wtell with ⟨h1,_⟩| ⟨_,h1⟩
   ·rw [h1];exact hfine
   ·rw [h1];exact hff hs
  ·have:=wlive hp 0 ⟨Nat.zero_le _,fun _ _ _ _ _ _=>Nat.zero_le _⟩ hcov0 (by omega)
   rw [if_pos h11] at this
   omega
 rw [if_neg hr]
 have hr0:r.2=0:=Classical.byContradiction hr
 have hlogr:=W.log (hne10 hr0)
 obtain ⟨wt1,wt2⟩:=wtell.resolve_right fun hx=>hx.1 hr0
 have hler:r.1.era=s.era:=W.era.trans aera
 have wlo:=W.lo
 have whits:=W.hits
 have wstill:=fun hq=>W.still (astill hq).1
 have wbads:=Nat.le_trans abads W.bads
 have wfacts:=W.facts.trans afacts
 clear W
 have R:=xu9 (first:=first) (ownL s.era (zc1 r.1.pool r.1.chip)) hlogr (by rw [hler];exact wt2) (fun t ht=>(yo0 hlogr.inv hlogr.alive t).1 (List.mem_filter.1 ht).1) (by
  have hs:=yt2 hlogr.inv hlogr.alive
  refine (List.Pairwise.filter _ ?_)
  refine hs.imp_of_mem fun {x y} hx hy hxy e=>?_
  obtain ⟨_,_,x3,_⟩:=(yo0 hlogr.inv hlogr.alive x).1 hx
  obtain ⟨_,_,y3,_⟩:=(yo0 hlogr.inv hlogr.alive y).1 hy
  rw [x3,y3,e] at hxy
  omega)
 generalize LogS.freeAll first (ownL s.era (zc1 r.1.pool r.1.chip)) r.1=q at *
 have rtold:=R.told
 have rlow:=R.low
 rw [hler] at rlow
 have rwell:=R.well
 rw [hler] at rtold rwell
 refine ⟨by rcases R.err with e | e;exact .inl e;exact .inr (.inl e),R.era.trans hler,R.facts.trans wfacts,wgeo.trans R.geo,rwell,fun _=>by rw [rtold];exact wt1,fun _=>by rw [rtold];exact wt1,fun _=>by rw [rtold,wt1];exact hfine,by rw [rlow];exact wlow,fun _=>by rw [rlow];omega,by rw [R.last];omega,by rw [R.last,hN];omega,R.dead,fun hne=>R.log (by have:=R.err;omega),fun h11=>(by have:=R.err;omega),fun hp hq0=>?_,fun _ h11=>(by have:=R.err;omega),by have:=R.hits;omega,fun hc=>?_,fun hq=>?_,Nat.le_trans wbads (qg2 R.geo R.bad),R.inv⟩
 ·have key:zy4 0 q.1.chip≤zy4 first r.1.chip:=by
   unfold zy4
   rw [R.geo.1]
   refine yi8 fun j hj hh=>?_
   simp only [Bool.and_eq_true,decide_eq_true_eq,yx4,Bool.not_eq_true'] at hh ⊢
   obtain ⟨⟨hh1,hh2⟩,_⟩:=hh
   obtain ⟨e1,e2⟩:=R.keep j hh1
   have hb:r.1.chip.isBad j=false:=by
    cases hb:r.1.chip.isBad j with
    | false=>rfl
    | true=>rw [R.bad j hb] at hh2;cases hh2
   refine ⟨⟨e1,hb⟩,?_⟩
   by_cases hlt:(hd r.1.chip j).1.seq<first
   ·obtain ⟨m1,m2⟩:=hlogr.well.mine j hj e1
    have hmem:(⟨j,(hd r.1.chip j).1,false⟩: zb7)∈ownL s.era (zc1 r.1.pool r.1.chip):=by
     refine List.mem_filter.2 ⟨(yo0 hlogr.inv hlogr.alive _).2 ⟨hj,e1,rfl,hb.symm⟩,?_⟩
     simp only [Bool.and_eq_true,decide_eq_true_eq]
     exact ⟨m1,by rw [m2,hler]⟩
    rcases R.gone hq0 _ hmem rfl hlt with g | g
    ·have g':q.1.chip.isBad j=true:=g
     rw [hh2] at g';cases g'
    ·exact absurd hh1 g
   ·omega
  have:=wlive hp first hcovf hcovu (hne10 hr0)
  rw [hlivef,if_neg (by omega)] at this
  omega
 ·have c1:=wcalm hc
  have c2:=R.calm c1.1
  exact ⟨c2.1,c2.2.trans c1.2⟩
 ·have:=R.still (wstill hq).1
  exact ⟨this.1,by omega⟩
section
theorem ub9 {x:zb2} (h:mayC x=true):x.key.name.size<256∧x.val.length<256:=by
 unfold mayC at h
 simp only [Bool.and_eq_true] at h
 obtain ⟨_,_,hk⟩:=Key.may_elim h.1
 refine ⟨?_,?_⟩
 ·have hbs:x.key.name.size=x.key.bytes.length:=yg5 _
  rw [hbs]
  rcases hk with ⟨_,h,_⟩| ⟨_,h,_⟩| ⟨_,h,_⟩
  ·rw [h];decide
  ·have:=yx3 h;omega
  ·rw [h];decide
 ·have h2:=h.2
  split at h2
  ·have:=of_decide_eq_true h2;omega
  ·simp only [Bool.and_eq_true,decide_eq_true_eq] at h2;omega
theorem xe3 {size:Int} {cs:List zb2} (h:(putL size cs).2=0):vl4 cs:=by
 unfold putL at h
 split at h
 ·rename_i hm
  unfold mayL at hm
  simp only [Bool.and_eq_true,decide_eq_true_eq,List.all_eq_true] at hm
  refine ⟨by omega,fun x hx=>?_⟩
  have hx':=hm.2 x hx
  exact ub9 hx'
 ·cases h
theorem ye0.vals' {n:Nat} {l:List Fact} (h:ye0 n l) {m:Nat} (hm:255≤m):∀ f∈l,f.val.length≤m:=fun f hf=>by
 have:=h.vals f hf
 omega
theorem LogS.put_eq (s:LogS) (cs:List zb2):s.put cs=if s.chip.ask 0 0≠0 then (s,s.chip.ask 0 0) else
  if (putL s.chip.sz cs).2≠0 then (s,(putL s.chip.sz cs).2) else
   if (if s.low (ze0 s.facts cs).length then s.anew else (s,0)).2=10 then (if s.low (ze0 s.facts cs).length then s.anew else (s,0)) else
    if ((if s.low (ze0 s.facts cs).length then s.anew else (s,0)).1.write (putL s.chip.sz cs).1 (if s.low (ze0 s.facts cs).length then s.anew else (s,0)).1.fuel).2≠0 then ((if s.low (ze0 s.facts cs).length then s.anew else (s,0)).1.write (putL s.chip.sz cs).1 (if s.low (ze0 s.facts cs).length then s.anew else (s,0)).1.fuel)
    else ({ ((if s.low (ze0 s.facts cs).length then s.anew else (s,0)).1.write (putL s.chip.sz cs).1 (if s.low (ze0 s.facts cs).length then s.anew else (s,0)).1.fuel).1 with facts:=ze0 s.facts cs },0):=rfl
section
variable {F X:Nat→Prop} {w w':World} {q:Nat} {M:PLoc} {s:LogS}
theorem zo1.setFacts (h:zo1 F X w q M s) {S:Nat} (hF:∀ x,F x→x<S) (hq:q<S) {a':Option Addr} {c':Nat} {fs:List Fact} {G':Nat→Prop} (hG:zb0 zg2 w G' a' fs) (hG':∀ b,G' b→S≤b∧b<w.heap.size) {K:World→Prop} (hk:∀ w',Upd (·=q) w w'→zo1 F (fun x=>X x∨(S≤x∧x<w.heap.size)) w' q M { s with facts:=fs }→K w'):za5 w ⟨q,2,none⟩ [.slice a' fs.length c'] K:=by
 obtain ⟨⟨a,c,g,G,h1,h2⟩,hp,ho',hx,he⟩:=h
 refine zc8 g (by simp) fun w' hpt=>hk w' hpt.upd1 ?_
 have hu:=hpt.upd1
 have g':=hpt.get
 have hqS:∀ b,G' b→b≠q:=fun b hb e=>by have:=(hG' b hb).1;omega
 refine ⟨⟨a',c',g',G',hG.upd hu hqS,fun b hb=>⟨.inr (hG' b hb),fun hf=>?_,Nat.lt_of_lt_of_le (hG' b hb).2 hu.size⟩⟩,?_,ho',?_,he⟩
 ·have h1:=hF b hf
  have h2:=(hG' b hb).1
  omega
 ·obtain ⟨L,G0,hc,hF0,hG0⟩:=hp.upd hu (fun x hF e=>ho' (by rw [← e];exact hF)) fun x hX e=>hx (by rw [← e];exact hX)
  exact ⟨L,G0,hc,hF0,fun x hx=>⟨.inl (hG0 x hx).1,(hG0 x hx).2⟩⟩
 ·rintro (h | h)
  ·exact hx h
  ·omega
theorem yt7 (h:zo1 F X w q M s) (hS:∀ x,F x→x<w.heap.size) (hXS:∀ x,X x→x<w.heap.size) (fit:s.Fit) {n:Nat} (hg:ye0 n s.facts) (hn:n≤90000000)
  {Gc:Nat→Prop} {ac:Option Addr} {cc:Nat} {cs:List zb2} (hc:zb0 zc4 w Gc ac cs) (hs:yw0 cs) (hl:cs.length<9000000000000000000) :
  za0 prog K.zp4 #[.pointer (some ⟨q,0,none⟩),.slice ac cs.length cc] w fun v w'=>v= .int .i64 ((s.put cs).2:Nat)∧Upd (LogF F q) w w'∧∃ X',(∀ x,X x→X' x)∧(∀ x,X' x→X x∨w.heap.size≤x∧x<w'.heap.size)∧zo1 F X' w' q M (s.put cs).1:=by
 obtain ⟨r,hr⟩: ∃ r,r=s.put cs:=⟨_,rfl⟩
 rw [← hr]
 rw [LogS.put_eq] at hr
 apply zp4.sh
 suffices H:∀ R:Value→World→Prop,(∀ v w',(v= .int .i64 (r.2:Nat)∧Upd (LogF F q) w w'∧∃ X',(∀ x,X x→X' x)∧(∀ x,X' x→X x∨w.heap.size≤x∧x<w'.heap.size)∧zo1 F X' w' q M r.1)→R v w')→zp4.body (some ⟨q,0,none⟩) ac cs.length cc w R from H _ fun _ _ h=>h
 intro R hR
 have hql:=h.lt
 have same:∀ v w',v= .int .i64 (r.2:Nat)→Upd (LogF F q) w w'→zo1 F X w' q M r.1→R v w':=fun v w' h1 h2 h3=>hR v w' ⟨h1,h2,X,fun _ h=>h,fun _ h=>.inl h,h3⟩
 unfold zp4.body
 refine (yu7 h).mono ?_
 rintro _ w1 ⟨rfl,he1⟩
 have h1:=h.ext he1
 refine ⟨_,rfl,zg8 (fun hne=>?_) fun h0=>?_⟩
 ·rw [if_pos (by omega)] at hr
  subst hr
  exact same _ _ rfl (Upd.ext he1) h1
 rw [if_neg (by omega)] at hr
 simp only [nilC_some',add_lit,Nat.zero_add]
 refine ⟨_,h1.cell (i:=0) (fun _ _=>rfl),(ur5 h1.pool.pin).mono ?_⟩
 rintro _ u ⟨rfl,hu⟩
 obtain rfl:w1=u:=hu.symm
 refine ⟨_,rfl,(cGeo h1.pool.pin.chip).mono ?_⟩
 rintro _ w3 ⟨rfl,he3⟩
 refine ⟨_,_,_,_,rfl,(xw3 (hc.ext (he1.trans he3)) hs hl _).mono ?_⟩
 rintro _ w4 ⟨a4,c4,rfl,hb4,hf4,he4,_⟩
 have e4:=(he1.trans he3).trans he4
 have h4:=h.ext e4
 refine ⟨_,_,_,_,rfl,zg8 (fun hne=>?_) fun h0'=>?_⟩
 ·rw [if_pos (by omega)] at hr
  subst hr
  exact same _ _ rfl (Upd.ext e4) h4
 rw [if_neg (by omega)] at hr
 have hgc:=xe3 (size:=s.chip.sz) (cs:=cs) (by omega)
 obtain ⟨af,cf,gq,G,hG,hG'⟩:=h4.head
 have hcl:=hgc.len
 have hfl:=hg.len
 refine ⟨af,_,cf,za2 gq rfl,(ys5 hG (fun b hb=>(hG' b hb).2.2) (hc.ext e4) (by omega) (hg.vals' (by omega)) hgc.small).mono ?_⟩
 rintro _ w5 ⟨a5,c5,rfl,hl5,he5⟩
 have e5:=e4.trans he5
 have h5:=h.ext e5
 have hg5:=hg.apply hgc
 have hl5':=hg5.len
 generalize ze0 s.facts cs=fs at *
 generalize hP:putL s.chip.sz cs=P at *
 have hs4:=e4.size
 have hs5:=e5.size
 refine ⟨_,_,_,rfl,(uc1 h5 fit.sp fs.length (by omega)).mono ?_⟩
 rintro _ w6 ⟨rfl,he6⟩
 have e6:=e5.trans he6
 have h6:=h.ext e6
 have hs6:=e6.size
 have hs3:=(he1.trans he3).size
 have tail:∀ (y:LogS×Nat) (u:World),y.1.page≤40→r=(if y.2=10 then y else if (y.1.write P.1 y.1.fuel).2≠0 then y.1.write P.1 y.1.fuel else ({ (y.1.write P.1 y.1.fuel).1 with facts:=fs },0))→y.2≠10→zo1 F X u q M y.1→Upd (LogF F q) w u→Upd (LogF F q) w6 u→
   za0 prog K.zm1 #[.pointer (some ⟨q,0,none⟩),.slice a4 P.1.length c4] u fun v8 w8=>∃ x8:Int,v8= .int .i64 x8∧br (x8 != 0) (R (.int .i64 x8) w8) (za5 w8 ⟨q,2,none⟩ [.slice a5 fs.length c5] fun w9=>R (.int .i64 0) w9):=by
  intro y u hpg hry hy hu u0 u6
  have hb6:za4 u a4 P.1:=za6.upd (hb4.ext (he5.trans he6)) u6 fun p hp hx=>by
   have:=hf4 p hp
   rcases hx with hx | hx
   ·have:=hS _ hx;omega
   ·omega
  rw [if_neg hy] at hry
  refine (yu5 hu hb6 (fun p hp=>?_) (by omega)).mono ?_
  ·have:=hf4 p hp
   exact ⟨fun hx=>(by have:=hS _ hx;omega),by omega⟩
  rintro _ w8 ⟨rfl,hu8,h8⟩
  have u8:=u0.trans hu8
  refine ⟨_,rfl,zg8 (fun hne=>?_) fun h0''=>?_⟩
  ·rw [if_pos (by omega)] at hry
   subst hry
   exact same _ _ rfl u8 h8
  rw [if_neg (by omega)] at hry
  obtain ⟨G5,hG5,hG5'⟩:=hl5.slice
  have hG8:zb0 zg2 w8 G5 a5 fs:=(hG5.ext he6).upd (u6.trans hu8) fun b hb hx=>by
   have h1:=(hG5' b hb).1.resolve_right (fun h=>h)
   rcases hx with hx | hx
   ·have:=hS _ hx;omega
   ·omega
  have hs68:=(u6.trans hu8).size
  refine h8.setFacts (S:=w.heap.size) hS hql hG8 (fun b hb=>?_) fun w9 hu9 h9=>?_
  ·have h1:=(hG5' b hb).1.resolve_right (fun h=>h)
   have h2:=(hG5' b hb).2
   have:=he6.size
   omega
  ·subst hry
   have:=hu9.size
   exact hR _ _ ⟨rfl,u8.trans (hu9.mono fun x _ hx=>.inr hx),_,fun _ h=>.inl h,fun x hx=>by
    rcases hx with hx | hx
    ·exact .inl hx
    ·exact .inr ⟨hx.1,by omega⟩,h9⟩
 refine ⟨_,rfl,zc0 (fun hlow=>?_) fun hlow=>?_⟩
 ·rw [if_pos hlow] at hr
  refine (xa2 h6 (fun x hx=>Nat.lt_of_lt_of_le (hS x hx) hs6) (fun x hx=>Nat.lt_of_lt_of_le (hXS x hx) hs6) fit.nb fit.page hg.names (hg.vals' (by omega)) (by omega) (s.take_last fit.last)).mono ?_
  rintro _ w7 ⟨rfl,hu7,h7⟩
  have u7:=(Upd.ext e6).trans hu7
  have hfit:=(LogS.anew_fit fit).2.page
  generalize s.anew=y at *
  refine ⟨_,rfl,zi1 (fun h10=>?_) fun h10=>?_⟩
  ·rw [if_pos (by omega)] at hr
   subst hr
   exact same _ _ rfl u7 h7
  ·exact tail y w7 hfit hr (by omega) h7 u7 hu7
 ·have hlow':¬ (s.low fs.length=true):=by rw [hlow];exact Bool.false_ne_true
  rw [if_neg hlow'] at hr
  exact tail (s,0) w6 fit.page hr (fun h=>by cases h) h6 (Upd.ext e6) (Upd.refl _ _)
end
theorem xr0 {F X:Nat→Prop} {w:World} {q:Nat} {M:PLoc} {s:LogS} (h:zo1 F X w q M s) (hS:∀ x,F x→x<w.heap.size) (hXS:∀ x,X x→x<w.heap.size) (fit:s.Fit) {n:Nat} (hg:ye0 n s.facts) (hn:n≤90000000) (blanks:Int) :
  za0 prog K.zu5 #[.pointer (some ⟨q,0,none⟩),.int .i64 blanks] w fun v w'=>v= .int .i64 ((s.tidy blanks).2:Nat)∧Upd (LogF F q) w w'∧zo1 F X w' q M (s.tidy blanks).1:=by
 obtain ⟨r,hr⟩: ∃ r,r=s.tidy blanks:=⟨_,rfl⟩
 rw [← hr]
 apply zu5.sh
 suffices H:∀ R:Value→World→Prop,(∀ v w',v= .int .i64 (r.2:Nat)∧Upd (LogF F q) w w'∧zo1 F X w' q M r.1→R v w')→zu5.body (some ⟨q,0,none⟩) blanks w R from H _ fun _ _ h=>h
 intro R hR
 unfold zu5.body
 unfold LogS.tidy at hr
 refine (yu7 h).mono ?_
 rintro _ w1 ⟨rfl,he1⟩
 have h1:=h.ext he1
 refine ⟨_,rfl,zg8 (fun hne=>?_) fun h0=>?_⟩
 ·rw [if_pos (by omega)] at hr
  subst hr
  exact hR _ _ ⟨rfl,Upd.ext he1,h1⟩
 rw [if_neg (by omega)] at hr
 simp only [nilC_some',add_lit,Nat.zero_add]
 refine ⟨_,h1.cell (i:=0) (fun _ _=>rfl),(vu3 h1.pool.pin).mono ?_⟩
 rintro _ w2 ⟨rfl,he2⟩
 have e2:=he1.trans he2
 have h2:=h.ext e2
 have hs2:=e2.size
 refine ⟨_,rfl,za8 (fun hge=>?_) fun hlt=>?_⟩
 ·rw [if_pos hge] at hr
  subst hr
  exact hR _ _ ⟨rfl,Upd.ext e2,h2⟩
 rw [if_neg hlt] at hr
 have hl:=hg.len
 refine (xa2 h2 (fun x hx=>Nat.lt_of_lt_of_le (hS x hx) hs2) (fun x hx=>Nat.lt_of_lt_of_le (hXS x hx) hs2) fit.nb fit.page hg.names (hg.vals' (by omega)) (by omega) (s.take_last fit.last)).mono ?_
 rintro _ w3 ⟨rfl,hu3,h3⟩
 have u3:=(Upd.ext e2).trans hu3
 generalize s.anew=y at *
 refine ⟨_,rfl,zg8 (fun hne=>?_) fun h0'=>?_⟩
 ·rw [if_pos (by omega)] at hr
  subst hr
  exact hR _ _ ⟨rfl,u3,h3⟩
 rw [if_neg (by omega)] at hr
 refine ⟨_,h3.cell (i:=0) (fun _ _=>rfl),(vu3 h3.pool.pin).mono ?_⟩
 rintro _ w4 ⟨rfl,he4⟩
 have u4:=u3.then he4
 have h4:=h3.ext he4
 refine ⟨_,rfl,za8 (fun hb=>?_) fun hb=>?_⟩
 ·rw [if_pos hb] at hr
  subst hr
  exact hR _ _ ⟨rfl,u4,h4⟩
 ·rw [if_neg hb] at hr
  subst hr
  exact hR _ _ ⟨rfl,u4,h4⟩
theorem LogS.put_fit {s:LogS} (h:s.Fit) (cs:List zb2):(s.put cs).1.Fit∧(s.put cs).1.era=s.era∧s.chip.SameGeo (s.put cs).1.chip∧((s.put cs).1.facts=s.facts∨(s.put cs).2=0∧(s.put cs).1.facts=ze0 s.facts cs∧vl4 cs):=by
 rw [LogS.put_eq]
 have hy:s.Keeps (if s.low (ze0 s.facts cs).length then s.anew else (s,0)).1∧(if s.low (ze0 s.facts cs).length then s.anew else (s,0)).1.Fit:=by
  split
  ·exact LogS.anew_fit h
  ·exact ⟨.refl s,h⟩
 generalize (if s.low (ze0 s.facts cs).length then s.anew else (s,0))=y at *
 have hz:=LogS.write_fit hy.2 (putL s.chip.sz cs).1 y.1.fuel
 split
 ·exact ⟨h,rfl,.refl _,.inl rfl⟩
 ·split
  ·exact ⟨h,rfl,.refl _,.inl rfl⟩
  ·rename_i h2
   split
   ·exact ⟨hy.2,hy.1.era,hy.1.geo,.inl hy.1.facts⟩
   ·have hk:=hy.1.trans hz.1
    split
    ·exact ⟨hz.2,hk.era,hk.geo,.inl hk.facts⟩
    ·exact ⟨⟨hz.2.nb,hz.2.np,hz.2.sp,hz.2.page,hz.2.last⟩,hk.era,hk.geo,.inr ⟨rfl,rfl,xe3 (size:=s.chip.sz) (by omega)⟩⟩
theorem LogS.tidy_fit {s:LogS} (h:s.Fit) (n:Int):s.Keeps (s.tidy n).1∧(s.tidy n).1.Fit:=by
 have ha:=LogS.anew_fit h
 unfold LogS.tidy
 split
 ·exact ⟨.refl s,h⟩
 ·split
  ·exact ⟨.refl s,h⟩
  ·split
   ·exact ha
   ·split<;>exact ha
end
theorem us7 (c:Chip) (i:Nat) (old:Blk) (h:old.head.seq<18446744073709551616):(vg9 c i old).head.seq<18446744073709551616:=by
 unfold vg9
 split
 ·exact h
 ·split
  ·exact (ut4 _).2
  ·split
   ·show (0:Nat)<18446744073709551616;decide
   ·show (0:Nat)<18446744073709551616;decide
theorem vd3 (c:Chip):∀ n,(∀ b∈(zl7 c n).blocks,b.head.seq<18446744073709551616)∧(zl7 c n).last<18446744073709551616
 | 0=>⟨fun b hb=>by rw [List.eq_of_mem_replicate hb];decide,by show (0:Nat) < _;decide⟩
 | n+1=>by
  obtain ⟨h1,h2⟩:=vd3 c n
  have hblk:∀ (P:Pool),(∀ b∈P.blocks,b.head.seq<18446744073709551616)→∀ i,(P.blk i).head.seq<18446744073709551616:=fun P hP i=>by
   unfold Pool.blk
   rw [List.getD_eq_getElem?_getD]
   cases hx:P.blocks[i]? with
   | none=>decide
   | some b=>exact hP b (List.mem_of_getElem? hx)
  have hb':∀ b∈((zl7 c n).relook c n).blocks,b.head.seq<18446744073709551616:=fun b hb=>by
   rcases List.mem_or_eq_of_mem_set hb with hb | rfl
   ·exact h1 b hb
   ·exact us7 _ _ _ (hblk _ h1 n)
  unfold zl7
  split
  ·exact ⟨hb',hblk _ hb' n⟩
  ·exact ⟨hb',h2⟩
theorem vt5 (c:Chip):(zh5 c).last<18446744073709551616:=(vd3 c c.nb).2
theorem yo3 {w:World} {a:Option Addr} {cp:Nat} {l:List zb7} (hr:za6 w a (l.flatMap zb7.vals)) (hn:l.length≤1000000000) :
  za0 prog K.zd6 #[.slice a l.length cp,.func (.func K.yi7) #[] #[]] w fun v w'=>v= .bool (l.any fun t=> !t.bad)∧Ext w w':=by
 apply zd6.sh
 unfold zd6.body
 refine (ye1 (p:=fun t=> !t.bad) hr hn fun u hu t ht=>?_).mono ?_
 ·refine ⟨by kernel_rfl,?_⟩
  apply yi7.sh
  intro B w1 hn1
  exact ⟨_,za2 (v:=.bool t.bad) hn1.get rfl,rfl,hn1.upd⟩
 ·rintro _ w1 ⟨he1,⟨rfl,hno⟩| ⟨i,hi,rfl,_,hyes⟩⟩
  ·refine ⟨_,rfl,?_,he1⟩
   rw [List.any_eq_false.2 fun t ht=>by rw [hno t ht];decide];rfl
  ·refine ⟨_,rfl,?_,he1⟩
   rw [List.any_eq_true.2 ⟨l[i],List.getElem_mem hi,hyes⟩,decide_eq_true (by omega)]
def LogS.new (c:Chip) (era:Nat):LogS:=⟨zh5 c,c,era,[],-1,0⟩
def yp2 (c:Chip) (era:Nat):LogS×Nat :=
 if c.dead=true then (.new c era,10) else if era=0 then (.new c era,2)
 else if ((ownL era (zc1 (zh5 c) c)).any fun t=> !t.bad)=true then (.new c era,2) else (LogS.new c era).anew
def yn1 (c:Chip) (b:Nat) (k:Nat):Nat:=(List.range k).foldl (fun p j=>if zc7 (c.page b (j+1))=true then p else j+2) 1
def zu6 (c:Chip) (era:Nat):LogS×Nat :=
 if c.dead=true then (.new c era,10) else if era=0 then (.new c era,2) else
  match (ownL era (zc1 (zh5 c) c)).getLast? with
  | none=>(.new c era,16)
  | some t =>
   let fs:=zk3 (lowL (zf5 c era)) (zf5 c era)
   if t.bad=true then ({ LogS.new c era with facts:=fs },0) else ({ LogS.new c era with facts:=fs,block:=t.block,page:=yn1 c t.block (c.np - 1) },0)
theorem LogS.new_fit {c:Chip} {era:Nat} (hnb:c.nb<20) (hnp:c.np≤32) (hsp:c.sp≤4):(LogS.new c era).Fit:=⟨hnb,hnp,hsp,Nat.zero_le _,vt5 c⟩
theorem vg0 (c:Chip) (b:Nat):∀ k,yn1 c b k≤k+1
 | 0=>Nat.le_refl _
 | k+1=>by
  have h:=vg0 c b k
  unfold yn1 at h ⊢
  rw [List.range_succ,List.foldl_append]
  simp only [List.foldl_cons,List.foldl_nil]
  split<;>omega
theorem yz7 (c:Chip) (b k:Nat):yn1 c b (k+1)=if zc7 (c.page b (k+1))=true then yn1 c b k else k+2:=by
 unfold yn1
 rw [List.range_succ,List.foldl_append];rfl
def uq0 (F X:Nat→Prop) (p:Nat) (r:LogS×Nat) (w w':World) (v:Value):Prop :=
 (r.2≠0→v= .tuple #[.pointer none,.int .i64 (r.2:Nat)]∧CX (fun x=>F x∨(w.heap.size≤x∧x<w'.heap.size)) X w' p r.1.chip)∧
 (r.2=0→∃ (M:PLoc) (q:Nat),M.p=p∧v= .tuple #[.pointer (some ⟨q,0,none⟩),.int .i64 0]∧w.heap.size≤q∧q<w'.heap.size∧∃ X',(∀ x,X x→X' x)∧(∀ x,X' x→X x∨(w.heap.size≤x∧x<w'.heap.size))∧
  zo1 (fun x=>F x∨(w.heap.size≤x∧x<q)) X' w' q M r.1)
theorem xr1 {F X:Nat→Prop} {w:World} {p:Nat} {c:Chip} (h:CX F X w p c) (hS:∀ x,F x→x<w.heap.size) (hXS:∀ x,X x→x<w.heap.size) (hnb:c.nb<20) (hnp:c.np≤32) (hsp:c.sp≤4) {era:Nat} (hera:era<4294967296) :
  za0 prog K.yj9 #[.pointer (some ⟨p,0,none⟩),.int .u32 era] w fun v w'=>Upd F w w'∧uq0 F X p (yp2 c era) w w' v:=by
 obtain ⟨r,hr⟩: ∃ r,r=yp2 c era:=⟨_,rfl⟩
 rw [← hr]
 apply yj9.sh
 suffices H:∀ R:Value→World→Prop,(∀ v w',Upd F w w'∧uq0 F X p r w w' v→R v w')→yj9.body (some ⟨p,0,none⟩) era w R from H _ fun _ _ h=>h
 intro R hR
 unfold yj9.body
 unfold yp2 at hr
 refine (xl0 h hnb era).mono ?_
 rintro _ w1 ⟨he1,hv⟩
 have hs1:=he1.size
 have bad:∀ (v:Value) (w':World) (n:Nat),n≠0→Ext w w'→r=(LogS.new c era,n)→v= .tuple #[.pointer none,.int .i64 (n:Nat)]→R v w':=by
  rintro v w' n hn0 he rfl rfl
  exact hR _ _ ⟨Upd.ext he,fun _=>⟨rfl,(h.ext he).mono (fun _ h=>.inl h) fun _ h=>h⟩,fun h0=>absurd h0 hn0⟩
 by_cases hd:c.dead=true
 ·rw [if_pos hd] at hv hr
  subst hv
  exact ⟨_,_,_,_,_,rfl,zg8 (fun _=>bad _ _ 10 (by decide) he1 hr rfl) fun h=>by cases h⟩
 rw [if_neg hd] at hv hr
 by_cases he0:era=0
 ·rw [if_pos he0] at hv hr
  subst hv
  exact ⟨_,_,_,_,_,rfl,zg8 (fun _=>bad _ _ 2 (by decide) he1 hr rfl) fun h=>by cases h⟩
 rw [if_neg he0] at hv hr
 obtain ⟨M,a,cap,hMp,rfl,hp,ho,hf⟩:=hv
 have hown:(ownL era (zc1 (zh5 c) c)).length≤20:=by
  have h1:(zc1 (zh5 c) c).length≤20:=by
   unfold zc1
   rw [yb6]
   have:=zs9 (zh5 c) c c.nb
   omega
  exact Nat.le_trans (List.length_filter_le _ _) h1
 refine ⟨_,_,_,_,_,rfl,zg8 (fun h=>absurd rfl h) fun _=>(yo3 ho.row (by omega)).mono ?_⟩
 rintro _ w2 ⟨rfl,he2⟩
 have e2:=he1.trans he2
 have hs2:=he2.size
 refine ⟨_,rfl,zc0 (fun hany=>?_) fun hany=>?_⟩
 ·rw [if_pos hany] at hr
  exact bad _ _ 2 (by decide) e2 hr rfl
 rw [if_neg (by rw [hany];decide)] at hr
 intro B w3 hn3
 have hB:B=w2.heap.size:=hn3.num
 have hs3:=hn3.size
 have he3:=hn3.upd
 have g3:=hn3.get
 have e3:=e2.trans he3
 have hp3:=hp.ext (he2.trans he3)
 have hF3:∀ x,(F x∨(w.heap.size≤x∧x<w1.heap.size))→x<B:=fun x hx=>by
  rcases hx with hx | hx
  ·have:=hS x hx;omega
  ·omega
 have h3:zo1 (fun x=>F x∨(w.heap.size≤x∧x<B)) X w3 B M (LogS.new c era):=by
  refine ⟨⟨none,0,g3,NoB,zb0.nil _ _ _,fun _ h=>h.elim⟩,hp3.mono (fun x hx=>?_) (fun _ h=>h),fun hx=>?_,fun hx=>?_,hera⟩
  ·rcases hx with hx | hx
   ·exact .inl hx
   ·exact .inr ⟨hx.1,by omega⟩
  ·rcases hx with hx | hx
   ·have:=hS B hx;omega
   ·omega
  ·have:=hXS B hx;omega
 have fit:=LogS.new_fit (era:=era) hnb hnp hsp
 refine (xa2 h3 (fun x hx=>?_) (fun x hx=>Nat.lt_of_lt_of_le (hXS x hx) e3.size) hnb (Nat.zero_le _) (fun _ h=>(by cases h)) (fun _ h=>(by cases h)) (Nat.zero_le _) (LogS.take_last _ fit.last)).mono ?_
 ·rcases hx with hx | hx
  ·have:=hS x hx;omega
  ·omega
 rintro _ w4 ⟨rfl,hu4,h4⟩
 rw [← hr] at h4 ⊢
 have hs4:=hu4.size
 have u4:Upd F w w4:=((Upd.ext e3).trans hu4).mono fun x hlt hx=>by
  rcases hx with (hx | hx) | hx
  ·exact hx
  ·omega
  ·omega
 refine ⟨_,rfl,zg8 (fun hne=>?_) fun h0=>?_⟩
 ·refine hR _ _ ⟨u4,fun _=>⟨rfl,?_⟩,fun h0=>(by omega)⟩
  have:=h4.pool.chip
  rw [hMp] at this
  refine this.mono (fun x hx=>?_) fun _ h=>h
  rcases hx with hx | hx
  ·exact .inl hx
  ·exact .inr ⟨hx.1,by omega⟩
 ·exact hR _ _ ⟨u4,fun hne=>(by omega),fun _=>⟨M,B,hMp,rfl,by omega,by omega,X,fun _ h=>h,fun _ h=>.inl h,h4⟩⟩
theorem qh1 {b:Bool} {X Y:Prop} (h1:b=false→X) (h2:b=true→Y):br (!b) X Y:=by
 cases b
 ·exact h1 rfl
 ·exact h2 rfl
theorem ur6 {c:Chip} {era:Nat} {t:zb7} (h:t∈ownL era (zc1 (zh5 c) c)):t.block<c.nb:=by
 have:=(List.mem_filter.1 h).1
 unfold zc1 at this
 rw [yx0] at this
 exact ym6 this
theorem yj8 {F X:Nat→Prop} {w:World} {p:Nat} {c:Chip} (h:CX F X w p c) (hS:∀ x,F x→x<w.heap.size) (hXS:∀ x,X x→x<w.heap.size) (hnb:c.nb<20) {era:Nat} (hera:era<4294967296) :
  za0 prog K.zz0 #[.pointer (some ⟨p,0,none⟩),.int .u32 era] w fun v w'=>Ext w w'∧uq0 F X p (zu6 c era) w w' v:=by
 obtain ⟨r,hr⟩: ∃ r,r=zu6 c era:=⟨_,rfl⟩
 rw [← hr]
 apply zz0.sh
 suffices H:∀ R:Value→World→Prop,(∀ v w',Ext w w'∧uq0 F X p r w w' v→R v w')→zz0.body (some ⟨p,0,none⟩) era w R from H _ fun _ _ h=>h
 intro R hR
 unfold zz0.body
 unfold zu6 at hr
 refine (xl0 h hnb era).mono ?_
 rintro _ w1 ⟨he1,hv⟩
 have hs1:=he1.size
 have bad:∀ (v:Value) (w':World) (n:Nat),n≠0→Ext w w'→r=(LogS.new c era,n)→v= .tuple #[.pointer none,.int .i64 (n:Nat)]→R v w':=by
  rintro v w' n hn0 he rfl rfl
  exact hR _ _ ⟨he,fun _=>⟨rfl,(h.ext he).mono (fun _ h=>.inl h) fun _ h=>h⟩,fun h0=>absurd h0 hn0⟩
 by_cases hd:c.dead=true
 ·rw [if_pos hd] at hv hr
  subst hv
  exact ⟨_,_,_,_,_,rfl,zg8 (fun _=>bad _ _ 10 (by decide) he1 hr rfl) fun h=>by cases h⟩
 rw [if_neg hd] at hv hr
 have hd0:c.dead=false:=by simpa using hd
 by_cases he0:era=0
 ·rw [if_pos he0] at hv hr
  subst hv
  exact ⟨_,_,_,_,_,rfl,zg8 (fun _=>bad _ _ 2 (by decide) he1 hr rfl) fun h=>by cases h⟩
 rw [if_neg he0] at hv hr
 obtain ⟨M,a,cap,hMp,rfl,hp,ho,hf⟩:=hv
 have hown:(ownL era (zc1 (zh5 c) c)).length≤20:=by
  have h1:(zc1 (zh5 c) c).length≤20:=by
   unfold zc1
   rw [yb6]
   have:=zs9 (zh5 c) c c.nb
   omega
  exact Nat.le_trans (List.length_filter_le _ _) h1
 have hlb:=fun t=>ur6 (c:=c) (era:=era) (t:=t)
 generalize ownL era (zc1 (zh5 c) c)=l at *
 refine ⟨_,_,_,_,_,rfl,zg8 (fun h=>absurd rfl h) fun _=>zi1 (fun hl0=>?_) fun hl0=>?_⟩
 ·have:l=[]:=List.eq_nil_of_length_eq_zero (by omega)
  subst this
  exact bad _ _ 16 (by decide) he1 hr rfl
 have hll:l.length - 1<l.length:=by omega
 have hlast:l.getLast?=some l[l.length - 1]:=by rw [List.getLast?_eq_getElem?,List.getElem?_eq_getElem hll]
 rw [hlast] at hr
 simp only at hr
 have htb:=hlb _ (List.getElem_mem hll)
 intro B w2 hn2
 have hB:B=w1.heap.size:=hn2.num
 have hs2:=hn2.size
 have g2:=hn2.get
 have e2:=he1.trans hn2.upd
 have h2:=h.ext e2
 refine (vd2 h2.cin hnb era).mono ?_
 rintro _ w3 ⟨a3,c3,rfl,hl3,he3⟩
 have e3:=e2.trans he3
 have hs3:=he3.size
 have hp3:=hp.ext (hn2.upd.trans he3)
 generalize zk3 (lowL (zf5 c era)) (zf5 c era)=fs at *
 have g3:=Ext.get he3 g2
 obtain ⟨G3,hG3,hG3'⟩:=hl3.slice
 refine ⟨_,_,_,_,rfl,?_⟩
 have hF3:∀ x,(F x∨(w.heap.size≤x∧x<w1.heap.size))→x<B:=fun x hx=>by
  rcases hx with hx | hx
  ·have:=hS x hx;omega
  ·omega
 have head0:zo1 (fun x=>F x∨(w.heap.size≤x∧x<B)) X w3 B M (LogS.new c era):=by
  refine ⟨⟨none,0,g3,NoB,zb0.nil _ _ _,fun _ h=>h.elim⟩,hp3.mono (fun x hx=>?_) (fun _ h=>h),fun hx=>?_,fun hx=>?_,hera⟩
  ·rcases hx with hx | hx
   ·exact .inl hx
   ·exact .inr ⟨hx.1,by omega⟩
  ·rcases hx with hx | hx
   ·have:=hS B hx;omega
   ·omega
  ·have:=hXS B hx;omega
 have hFB:∀ x,(F x∨(w.heap.size≤x∧x<B))→x<w2.heap.size:=fun x hx=>by
  rcases hx with hx | hx
  ·have:=hS x hx;omega
  ·omega
 refine head0.setFacts (S:=w2.heap.size) hFB (by omega) hG3 (fun b hb=>⟨(hG3' b hb).1.resolve_right (fun h=>h),(hG3' b hb).2⟩) fun w4 hu4 h4=>?_
 have hs4:=hu4.size
 generalize hX':(fun x=>X x∨(w2.heap.size≤x∧x<w3.heap.size))=X' at h4
 have hXX:∀ x,X x→X' x:=fun x hx=>by rw [← hX'];exact .inl hx
 have hXw:∀ x,X' x→X x∨(w.heap.size≤x∧x<w3.heap.size):=fun x hx=>by
  rw [← hX'] at hx
  rcases hx with hx | hx
  ·exact .inl hx
  ·exact .inr ⟨by omega,hx.2⟩
 have hXB:∀ x,X' x→x≠B→x<w3.heap.size:=fun x hx _=>by
  rcases hXw x hx with hx | hx
  ·have:=hXS x hx;omega
  ·omega
 have e4:Ext w w4:=e3.beyond hu4 fun x hx=>by omega
 have fin:∀ (u:World) (t:LogS),r=(t,0)→Ext w u→B<u.heap.size→w3.heap.size≤u.heap.size→zo1 (fun x=>F x∨(w.heap.size≤x∧x<B)) X' u B M t→R (.tuple #[.pointer (some ⟨B,0,none⟩),.int .i64 0]) u:=by
  rintro u t rfl hu hBu hsu ht
  refine hR _ _ ⟨hu,fun hne=>absurd rfl hne,fun _=>⟨M,B,hMp,rfl,by omega,hBu,X',hXX,fun x hx=>?_,ht⟩⟩
  rcases hXw x hx with hx | hx
  ·exact .inl hx
  ·exact .inr ⟨hx.1,by omega⟩
 have ew:IntKind.i64.wrap ((l.length:Int) - 1)=((l.length - 1:Nat):Int):=by rw [w64 (by omega) (by omega)];omega
 rw [ew]
 have ho4:za6 w4 a (l.flatMap zb7.vals):=za6.upd ho.row ((Upd.ext (hn2.upd.trans he3)).trans hu4) fun p hp hx=>by
  obtain ⟨_,_,hx'⟩:=ho
  rcases hx' with ⟨hx',_⟩| ⟨b,cur,hx',hb,_⟩
  ·rw [hx'] at hp;cases hp
  ·have:=(Array.getElem?_eq_some_iff.1 hb).1
   rw [hx'] at hp
   cases hp
   have hx:b=B:=hx
   omega
 refine zx3 (f:=zb7.vals) zb7.vals_length (by omega) ho4 rfl hll fun b o hab hrow=>?_
 refine ⟨l[l.length - 1].block,l[l.length - 1].head.kind.toNat,l[l.length - 1].head.era,l[l.length - 1].head.seq,l[l.length - 1].bad,za6.cells hrow,?_⟩
 generalize l[l.length - 1]=t at *
 refine zu7 rfl fun B2 w6 hB2 hs6 he6 g6=>?_
 have e6:=e4.trans he6
 have h6:=h4.ext he6
 refine ⟨t.bad,za2 g6 rfl,qh1 (fun hgood=>?_) fun hbad=>?_⟩
 ·rw [if_neg (by rw [hgood];decide)] at hr
  refine ⟨t.block,za2 g6 rfl,?_⟩
  refine h6.store (t:={ LogS.new c era with facts:=fs,block:=t.block }) ⟨rfl,rfl,rfl,rfl⟩ (o:=3) (fun _ _=>rfl) (by omega) fun w7 hu7 h7=>?_
  refine h7.store (t:={ LogS.new c era with facts:=fs,block:=t.block,page:=1 }) ⟨rfl,rfl,rfl,rfl⟩ (o:=4) (fun _ _=>rfl) (by omega) fun w8 hu8 h8=>?_
  have hs7:=hu7.size
  have hs8:=hu8.size
  have e8:Ext w w8:=(e6.beyond hu7 fun x hx=>by omega).beyond hu8 fun x hx=>by omega
  have g8:=hu8.get (hu7.get g6 (by omega)) (by omega)
  have hok:=h.cin.ok
  have hnp1:=hok.np1
  have hnp2:=hok.np2
  refine ⟨fun x u=>∃ k:Nat,x=((k+1:Nat):Int)∧k≤c.np - 1∧zo1 (fun x=>F x∨(w.heap.size≤x∧x<B)) X' u B M { LogS.new c era with facts:=fs,block:=t.block,page:=yn1 c t.block k }∧Ext w u∧Upd (·=B) w8 u,fun x _=>((c.np:Int) - x).toNat,⟨0,rfl,by omega,h8,e8,Upd.refl _ _⟩,?_⟩
  rintro x u ⟨k,rfl,hk,hlu,heu,huu⟩
  have hcu:=hlu.pool.chip
  rw [hMp] at hcu
  refine (cGeo hcu.cin).mono ?_
  rintro _ w10 ⟨rfl,he10⟩
  have gu:=Ext.get he10 (huu.get g8 (by omega))
  have hl10:=hlu.ext he10
  refine ⟨_,_,_,_,rfl,za8 (fun hlt=>?_) fun hge=>?_⟩
  ·have hlt':k+1<c.np:=by simp only [LogS.new] at hlt;omega
   refine ⟨t.block,za2 gu rfl,(qk0 (hcu.ext he10).cin hd0 htb hlt').mono ?_⟩
   rintro _ w11 ⟨he11,a11,c11,rfl,hb11,_,_⟩
   have hpl:=yt5 hok htb hlt'
   have hsz:=hok.sz2
   have hpl':(c.page t.block (k+1)).length≤100000:=by omega
   refine ⟨_,_,_,_,rfl,(ye3 hb11 hpl').mono ?_⟩
   rintro _ u12 ⟨rfl,hu12⟩
   obtain rfl:w11=u12:=hu12.symm
   have h12:=hl10.ext he11
   have ew:IntKind.i64.wrap (((k+1:Nat):Int)+1)=((k+1+1:Nat):Int):=w64 (by omega) (by omega)
   refine ⟨_,rfl,?_⟩
   rw [ew]
   have hop:=yz7 c t.block k
   refine qh1 (fun hbl=>?_) fun hbl=>?_
   ·have hbl':zc7 (c.page t.block (k+1))=false:=hbl
    rw [if_neg (by rw [hbl'];decide)] at hop
    refine h12.store (t:={ LogS.new c era with facts:=fs,block:=t.block,page:=k+2 }) ⟨rfl,rfl,rfl,rfl⟩ (o:=4) (fun _ _=>rfl) (by omega) fun w13 hu13 h13=>?_
    rw [← hop] at h13
    exact ⟨⟨k+1,rfl,by omega,h13,((heu.trans he10).trans he11).beyond hu13 (fun x hx=>by omega),((huu.then he10).then he11).trans hu13⟩,meas hlt'⟩
   ·have hbl':zc7 (c.page t.block (k+1))=true:=hbl
    rw [if_pos hbl'] at hop
    rw [← hop] at h12
    exact ⟨⟨k+1,rfl,by omega,h12,(heu.trans he10).trans he11,(huu.then he10).then he11⟩,meas hlt'⟩
  ·have hkk:k=c.np - 1:=by simp only [LogS.new] at hge;omega
   subst hkk
   have hsz:=heu.size
   have h10:=he10.size
   have:=huu.size
   exact fin _ _ hr (heu.trans he10) (by omega) (by omega) hl10
 ·rw [if_pos hbad] at hr
  exact fin _ _ hr e6 (by omega) (by omega) h6
section
set_option maxRecDepth 100000
def five:zb2:=⟨⟨1,1,ByteArray.empty,0⟩,[5],false⟩
def xj8:List Fact:=ze0 [] [five]
def l14 (era:Nat):LogS×Nat:=yp2 (zf8 16 8 128 0) era
def p14:LogS×Nat:=(l14 1).1.put [five]
def uv1:Bool:=decide ((l14 1).2=0) && decide (p14.2=0) && decide ((zu6 p14.1.chip.power 1).2=0) && decide ((zu6 p14.1.chip.power 2).2=16) && decide (xj8.length=1) && decide (ze0 p14.1.facts []=xj8) && decide (ze0 (zu6 p14.1.chip.power 1).1.facts []=xj8)
def d14:LogS:={ (l14 3).1 with chip:=((l14 3).1.chip.setHits [⟨0,false,[]⟩]).1 }
theorem vy0:uv1=true:=by decide +kernel
end
end Go.Den
