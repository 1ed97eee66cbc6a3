/- How layer 18's arguments are opened. (Merged and shortened by program: SLives MTorn Frame Frame2 Frame3 Frame4 Open18.) -/
import Derived.Test.YtedbpnlhfppamaaGreatQ5
import Derived.ProofKit
import Derived.Carry
import Derived.OpenShut
import Derived.SizedLaws
import Derived.Test.YtedbpnlhfppamaaGreatRows
set_option linter.unusedVariables false
set_option linter.unusedSimpArgs false
set_option maxRecDepth 20000
namespace Go.Den
theorem places_same {w:World} {G H:Nat→Prop} {a b:Option Addr} {ca cb:Nat} {l:List Place} (ha:SliceAt placeR w G a l) (hb:SliceAt placeR w H b l) (hn:l.length<9000000000000000000) :
  CallsR prog K.carracklaw18_places #[.slice a l.length ca,.slice b l.length cb] w fun v w'=>v= .bool true∧Ext w w':=by
 apply carracklaw18_places.sh
 unfold carracklaw18_places.body
 refine br_ne (fun h=>absurd rfl h) fun _=>⟨fun x u=>∃ i:Nat,x=i∧i≤l.length∧Ext w u,fun x _=>((l.length:Int) - x).toNat,⟨0,rfl,by omega,Upd.refl _ _⟩,?_⟩
 rintro x u ⟨i,rfl,hi,heu⟩
 refine br_dec (fun hlt=>?_) fun _=>⟨rfl,heu⟩
 have hi':i<l.length:=by omega
 intro w₂ hd2
 have e2:=heu.trans hd2.upd
 refine ⟨fun u=>Ext w₂ u,Upd.refl _ _,SliceAt.idx (r:=placeR) (ha.ext e2) rfl hi' fun b1 o1 vs1 _ hrow1 hR1 _=>?_⟩
 obtain rfl:vs1=Place.vals l[i]:=hR1
 refine ⟨_,_,fun u1 hu1=>(hrow1.ext hu1).cells,SliceAt.idx (r:=placeR) (hb.ext e2) rfl hi' fun b2 o2 vs2 _ hrow2 hR2 _=>?_⟩
 obtain rfl:vs2=Place.vals l[i]:=hR2
 refine ⟨_,_,fun u1 hu1=>(hrow2.ext hu1).cells,br_intro (fun h=>by simp at h) fun _=>?_⟩
 rw [w64 (by omega) (by omega)]
 exact ⟨⟨i+1,rfl,hi',e2⟩,meas hi'⟩
theorem walkedR_ok {c:Chip} {era:Nat} {t:TreeS} {e:Nat} (h:walkedR c era=(some t,e)):t.Ok c:=by
 unfold walkedR at h
 split at h
 ·cases h
 ·split at h
  ·rename_i t' hw
   cases h
   unfold walkS at hw
   split at hw
   ·cases hw;exact TreeS.Ok.nil c
   ·split at hw
    ·rename_i k t2 hd
     split at hw
     ·cases hw
      exact downS_ok c _ 13 _ _ 1 k _ (TreeS.Ok.nil c) hd
     ·cases hw
    ·cases hw
  ·cases h
theorem factsR_small {c:Chip} (hc:c.Ok) (era:Nat):(factsR (walkedR c era)).length≤522240∧(∀ x∈factsR (walkedR c era),x.val.length≤1000000000000)∧(pagesR (walkedR c era)).length≤2048:=by
 rcases hw:walkedR c era with ⟨_ | t,e⟩
 ·exact ⟨Nat.zero_le _,fun x hx=>(by cases hx),Nat.zero_le _⟩
 ·have hok:=walkedR_ok hw
  obtain ⟨h1,h2⟩:=hok.small hc
  exact ⟨h2,fun x hx=>by have:=(hok.facts x hx).2;omega,h1⟩
theorem carracklaw18_same_spec {F:Nat→Prop} {A:Nat} {w:World} {p:Nat} {c:Chip} (h:CIn F A w p c) (hd0:c.dead=false) (hnb:c.nb<20) (era:Nat) :
  CallsR prog K.carracklaw18_same #[.pointer (some ⟨p,0,none⟩),.int .u32 era] w fun v w'=>v= .bool true∧Ext w w':=by
 apply carracklaw18_same.sh
 suffices H:∀ R:Value→World→Prop,(∀ v w',v= .bool true∧Ext w w'→R v w')→carracklaw18_same.body (some ⟨p,0,none⟩) era w R from H _ fun _ _ h=>h
 intro R hR
 unfold carracklaw18_same.body
 refine (walk_Blocks_spec h hnb era).mono ?_
 rintro _ w₁ ⟨a1,c1,rfl,hl1,he1⟩
 have hblen:=treeBlocks_len h.ok hd0 era
 refine ⟨_,_,_,_,rfl,br_eq (fun h0=>?_) fun h0=>?_⟩
 ·have h0':era=0:=by omega
  subst h0'
  have ha:askErr c 0=2:=by unfold askErr;rw [hd0];rfl
  have hn:newestR c 0=(none,2):=by unfold newestR;rw [ha];rfl
  have hw:walkedR c 0=(none,2):=by unfold walkedR;rw [hn];rfl
  refine (walk_Facts_spec (h.ext he1) hnb 0).mono ?_
  rintro _ w₂ ⟨a2,c2,G2,rfl,_,_,_,he2⟩
  have e2:=he1.trans he2
  refine ⟨_,_,_,_,rfl,(walk_Pages_spec (h.ext e2) hnb 0).mono ?_⟩
  rintro _ w₃ ⟨a3,c3,G3,rfl,_,_,_,he3⟩
  have e3:=e2.trans he3
  refine ⟨_,_,_,_,rfl,(walk_Newest_spec (h.ext e3) hnb 0).mono ?_⟩
  rintro _ w₄ ⟨rfl,he4⟩
  rw [ha,hw,hn]
  refine ⟨_,_,_,_,_,_,_,rfl,new_put (vs:=Point.vals Point.zero) rfl fun B1 w₆ hb6 hs6 he6 g6=>br_eq (fun _=>br_eq (fun _=>br_eq (fun _=>?_) fun h=>absurd rfl h) fun h=>absurd rfl h) fun h=>absurd rfl h⟩
  exact hR _ _ ⟨rfl,(e3.trans he4).trans he6⟩
 have h0':era≠0:=by omega
 have ha:askErr c era=0:=by unfold askErr;rw [hd0,if_neg (by decide),if_neg h0']
 have hL:askL c era=blocksI c era:=by unfold askL;rw [if_pos ha]
 rw [hL] at hl1 ⊢
 rw [ha]
 refine br_ne (fun h=>absurd rfl h) fun _=>(carrackref18_Blocks_spec (h.ext he1) hd0 era).mono ?_
 rintro _ w₇ ⟨a4,c4,rfl,hl4,he7⟩
 have e7:=he1.trans he7
 have hlenI:(blocksI c era).length=(treeBlocks c era).length:=by simp [blocksI]
 refine ⟨_,_,_,rfl,(ints_same ((hl1.ext he7).1.row) hl4.1.row (by omega)).mono ?_⟩
 rintro _ w₈ ⟨rfl,he8⟩
 have e8:=e7.trans he8
 refine ⟨_,rfl,br_intro (fun h=>absurd h (by decide)) fun _=>(walk_Newest_spec (h.ext e8) hnb era).mono ?_⟩
 rintro _ w₉ ⟨rfl,he9⟩
 have e9:=e8.trans he9
 refine ⟨_,_,_,_,_,_,_,rfl,new_put (vs:=Point.vals (accP (newestR c era).1)) rfl fun B2 w₁₁ hb11 hs11 he11 g11=>(carrackref18_Newest_spec (h.ext (e9.trans he11)) hd0 era).mono ?_⟩
 rintro _ w₁₂ ⟨rfl,he12⟩
 have e12:=(e9.trans he11).trans he12
 refine ⟨_,_,_,_,_,_,_,rfl,new_put (vs:=Point.vals (accP (newestR c era).1)) rfl fun B3 w₁₄ hb14 hs14 he14 g14=>?_⟩
 have e14:=e12.trans he14
 refine ⟨fun u=>u=w₁₄,⟨_,_,_,_,cells_all (Ext.get he14 (Ext.get he12 g11)),_,_,_,_,cells_all g14,br_intro (fun h=>by simp at h) fun _=>br_ne (fun h=>absurd rfl h) fun _=>br_ne (fun h=>absurd rfl h) fun _=>br_ne (fun h=>absurd rfl h) fun _=>rfl⟩,?_⟩
 rintro _ rfl
 obtain ⟨s1,s2,s3⟩:=factsR_small h.ok era
 refine (walk_Facts_spec (h.ext e14) hnb era).mono ?_
 rintro _ w₁₆ ⟨a5,c5,G5,rfl,hf5,_,_,he16⟩
 have e16:=e14.trans he16
 refine ⟨_,_,_,_,rfl,(carrackref18_Facts_spec (h.ext e16) hd0 era).mono ?_⟩
 rintro _ w₁₇ ⟨a6,c6,G6,rfl,hf6,_,_,he17⟩
 have e17:=e16.trans he17
 refine ⟨_,_,_,_,rfl,(facts_same (hf5.ext he17) hf6 s2 (by omega)).mono ?_⟩
 rintro _ w₁₈ ⟨rfl,he18⟩
 have e18:=e17.trans he18
 refine ⟨_,rfl,br_intro (fun h=>absurd h (by decide)) fun _=>br_ne (fun h=>absurd rfl h) fun _=>(walk_Pages_spec (h.ext e18) hnb era).mono ?_⟩
 rintro _ w₁₉ ⟨a7,c7,G7,rfl,hf7,_,_,he19⟩
 have e19:=e18.trans he19
 refine ⟨_,_,_,_,rfl,(carrackref18_Pages_spec (h.ext e19) hd0 era).mono ?_⟩
 rintro _ w₂₀ ⟨a8,c8,G8,rfl,hf8,_,_,he20⟩
 refine ⟨_,_,_,_,rfl,(places_same (hf7.ext he20) hf8 (by omega)).mono ?_⟩
 rintro _ w₂₁ ⟨rfl,he21⟩
 refine ⟨_,rfl,?_⟩
 rw [br_true]
 refine hR _ _ ⟨?_,(e19.trans he20).trans he21⟩
 simp
theorem lpageR_intro {w:World} {G:Nat→Prop} {P:LPage} {af ac ab:Option Addr} {cf cc cb:Nat} (hf:SliceAt factR w G af P.facts) (hcf:P.facts.length≤cf) (hc:SliceAt childR w G ac P.children) (hcc:P.children.length≤cc) (hb:BytesAt w ab P.bytes) (hcb:P.bytes.length≤cb) (hbg:P.bytes≠[]→∀ p,ab=some p→G p.block):lpageR.R w G (P.vals af cf ac cc ab cb) P :=
 ⟨[.int .i64 P.what],_,rfl,rfl,[.int .i64 P.block],_,rfl,rfl,[.int .i64 P.page],_,rfl,rfl,[bv P.head.kind,.int .u32 (P.head.era:Nat),.int .u64 (P.head.seq:Nat)],_,rfl,⟨[bv P.head.kind],_,rfl,rfl,[.int .u32 (P.head.era:Nat)],_,rfl,rfl,rfl⟩,[.slice af P.facts.length cf],_,rfl,⟨af,cf,rfl,hcf,hf⟩,[.slice ac P.children.length cc],_,rfl,⟨ac,cc,rfl,hcc,hc⟩,
  [.int .u64 (P.point.number:Nat),.int .i64 P.point.block,.int .i64 P.point.page,.int .i64 P.point.count],_,rfl,⟨[.int .u64 (P.point.number:Nat)],_,rfl,rfl,[.int .i64 P.point.block],_,rfl,rfl,[.int .i64 P.point.page],_,rfl,rfl,rfl⟩,[.slice ab P.bytes.length cb],_,rfl,⟨ab,cb,rfl,hcb,hb,hbg⟩,rfl⟩
theorem carracklaw18_lives_spec (w:World):CallsR prog K.carracklaw18_lives #[] w fun v w'=>v= .bool true∧Ext w w':=by
 have hM:=lives18_true
 simp only [lives18,Bool.and_eq_true,decide_eq_true_eq] at hM
 obtain ⟨⟨⟨m1,m2⟩,m3⟩,m4⟩:=hM
 apply carracklaw18_lives.sh
 suffices H:∀ R:Value→World→Prop,(∀ v w',v= .bool true∧Ext w w'→R v w')→carracklaw18_lives.body w R from H _ fun _ _ h=>h
 intro R hR
 unfold carracklaw18_lives.body
 refine (carracklaw18_geo_spec w).mono ?_
 rintro _ w₁ ⟨rfl,he1⟩
 refine ⟨_,_,_,_,rfl,(cNew w₁ (A:=w₁.heap.size) (nb:=8) (np:=6) (sz:=128) (sp:=0) (Nat.le_refl _) (by omega) (by omega) (by omega) (by omega) (by omega) (by omega) (by omega)).mono ?_⟩
 rintro _ w₂ ⟨he2,p,rfl,hc2⟩
 change CAt w₁.heap.size w₂.heap.size w₂ p c18 at hc2
 have hnb:c18.nb<20:=by decide
 have hdead:c18.dead=false:=rfl
 have ha0:askErr c18 0=2:=rfl
 have ha1:askErr c18 1=0:=rfl
 have hn0:newestR c18 0=(none,2):=by unfold newestR;rw [ha0];rfl
 have hw0:walkedR c18 0=(none,2):=by unfold walkedR;rw [hn0];rfl
 have hL:askL c18 1=[]:=by unfold askL blocksI;rw [ha1,m2];rfl
 generalize c18=C at *
 refine ⟨_,_,rfl,(walk_Newest_spec hc2 hnb 1).mono ?_⟩
 rintro _ w₃ ⟨rfl,he3⟩
 refine ⟨_,_,_,_,_,_,_,rfl,new_put (vs:=Point.vals (accP (newestR C 1).1)) rfl fun B1 w₅ hb5 hs5 he5 g5=>?_⟩
 have e25:=he3.trans he5
 refine (walk_Facts_spec (hc2.ext e25) hnb 0).mono ?_
 rintro _ w₆ ⟨a6,c6,G6,rfl,_,_,_,he6⟩
 have e26:=e25.trans he6
 refine ⟨_,_,_,_,rfl,(walk_Blocks_spec (hc2.ext e26) hnb 1).mono ?_⟩
 rintro _ w₇ ⟨a7,c7,rfl,_,he7⟩
 have e7:Ext w w₇:=(he1.trans he2).trans (e26.trans he7)
 refine ⟨_,_,_,_,rfl,fun B2 w₈ hn8 B3 w₉ hn9 B4 w₁₀ hn10=>?_⟩
 have hs8:=hn8.size
 have hs9:=hn9.size
 have hs10:=hn10.size
 have hB2:=hn8.num
 have hB3:=hn9.num
 have hB4:=hn10.num
 have e10:Ext w w₁₀:=((e7.trans hn8.upd).trans hn9.upd).trans hn10.upd
 have hby:BytesAt w₁₀ (some ⟨B2,0,none⟩) [7]:=RowAt.ext (RowAt.of hn8.get fun j v hj=>by
  match j,hj with
  | 0,hj=>exact hj
  | j+1,hj=>simp at hj) (hn9.upd.trans hn10.upd)
 have hfs:SliceAt factR w₁₀ (fun b=>b<w₁₀.heap.size) (some ⟨B3,0,none⟩) [⟨⟨1,1,ByteArray.empty,0⟩,[7]⟩]:=by
  refine ⟨factVs ⟨1,1,ByteArray.empty,0⟩ (some ⟨B2,0,none⟩) 1 1,RowAt.ext (RowAt.of hn9.get fun j v hj=>?_) hn10.upd,Rows.single (r:=factR) (factR_intro (x:=⟨⟨1,1,ByteArray.empty,0⟩,[7]⟩) (c:=1) (Nat.le_refl _) hby fun _ p hp=>?_),fun _ p hp=>?_⟩
  ·match j,hj with
   | 0,hj=>simpa using hj
   | 1,hj=>exact hj
   | 2,hj=>exact hj
   | 3,hj=>simpa using hj
   | 4,hj=>simpa using hj
   | j+5,hj=>simp at hj
  ·cases hp;show B2 < _;omega
  ·cases hp;show B3 < _;omega
 have hnil:∀ {α:Type} {r:ERep α},SliceAt r w₁₀ (fun b=>b<w₁₀.heap.size) none []:=fun {α r}=>SliceAt.nil _ _ _
 have hsl:SliceAt lpageR w₁₀ (fun b=>b<w₁₀.heap.size) (some ⟨B4,0,none⟩) pages18:=by
  refine ⟨_,RowAt.of hn10.get (o:=0) (vs:=(LPage.vals ⟨1,0,0,⟨2,1,1⟩,[],[],Point.zero,[],true⟩ none 0 none 0 none 0) ++ ((LPage.vals ⟨4,0,2,⟨0,0,0⟩,[],[],⟨3,0,1,1⟩,[],true⟩ none 0 none 0 none 0) ++ ((LPage.vals ⟨2,0,1,⟨0,0,0⟩,[⟨⟨1,1,ByteArray.empty,0⟩,[7]⟩],[],Point.zero,[],true⟩ (some ⟨B3,0,none⟩) 1 none 0 none 0) ++ []))) fun j v hj=>?_,⟨_,_,rfl,lpageR_intro hnil (Nat.le_refl _) hnil (Nat.le_refl _) (BytesAt.nil _ _) (Nat.le_refl _) (fun h=>absurd rfl h),_,_,rfl,lpageR_intro hnil (Nat.le_refl _) hnil (Nat.le_refl _) (BytesAt.nil _ _) (Nat.le_refl _) (fun h=>absurd rfl h),_,_,rfl,lpageR_intro hfs (Nat.le_refl _) hnil (Nat.le_refl _) (BytesAt.nil _ _) (Nat.le_refl _) (fun h=>absurd rfl h),rfl⟩,fun _ p hp=>?_⟩
  ·rw [Nat.zero_add]
   rw [← Array.getElem?_toList]
   exact hj
  ·cases hp;show B4 < _;omega
 have hfit:FitP pages18:=by
  intro P hP
  have hz:Head.Ok ⟨0,0,0⟩:=⟨by decide,by decide⟩
  rcases List.mem_cons.1 hP with rfl | hP
  ·exact ⟨fun f hf=>(by cases hf),by decide,fun f hf=>(by cases hf),by decide,⟨by decide,by decide⟩,by decide,by decide⟩
  rcases List.mem_cons.1 hP with rfl | hP
  ·exact ⟨fun f hf=>(by cases hf),by decide,fun f hf=>(by cases hf),by decide,hz,by decide,by decide⟩
  rcases List.mem_cons.1 hP with rfl | hP
  ·exact ⟨fun f hf=>(by rcases List.mem_cons.1 hf with rfl | hf;exact empty_small;cases hf),by show (1:Nat) < _;decide,fun f hf=>(by cases hf),by decide,hz,by decide,by decide⟩
  ·cases hP
 have hlaid:=carracklaw18_laid_spec (c:=3) hsl (fun b hb=>hb) hfit
 change CallsR prog K.carracklaw18_laid #[.slice (some ⟨B4,0,none⟩) 3 3,.slice none 0 0] w₁₀ _ at hlaid
 refine hlaid.mono ?_
 rintro _ w₁₁ ⟨he11,p2,rfl,hc11⟩
 have hcin:CAt w₁₀.heap.size w₁₁.heap.size w₁₁ p2 (chip18 pages18):=CAt.of hc11 (Nat.le_refl _)
 change CAt w₁₀.heap.size w₁₁.heap.size w₁₁ p2 d18 at hcin
 have hnbd:d18.nb<20:=by
  have:d18.nb=8:=(loadChip_still 8 6 128 0 (laidB pages18) []).nb
  omega
 generalize d18=D at *
 refine ⟨_,_,rfl,br_intro (fun h=>absurd h (by decide)) fun _=>(walk_Facts_spec hcin hnbd 1).mono ?_⟩
 rintro _ w₁₂ ⟨a12,c12,G12,rfl,_,_,_,he12⟩
 refine ⟨_,_,_,_,rfl,br_eq (fun _=>br_eq (fun _=>br_eq (fun _=>br_eq (fun _=>br_eq (fun _=>br_eq (fun _=>br_eq (fun _=>?_) fun h=>?_) fun h=>?_) fun h=>?_) fun h=>?_) fun h=>?_) fun h=>?_) fun h=>absurd rfl h⟩
 ·refine (carrackref02_Size_spec _ w₁₂).mono ?_
  rintro _ _ ⟨rfl,rfl⟩
  exact ⟨_,rfl,hR _ _ ⟨rfl,(e10.trans he11).trans he12⟩⟩
 ·exact absurd (by rw [m4];rfl) h
 ·exact absurd (by rw [m3];rfl) h
 ·exact absurd (by rw [hL];rfl) h
 ·exact absurd (by rw [ha1];rfl) h
 ·exact absurd (by rw [hw0];rfl) h
 ·exact absurd (by rw [m1];rfl) h
structure Alike (c d:Chip) (b k:Nat):Prop where
 nb:d.nb=c.nb
 np:d.np=c.np
 dead:d.dead=c.dead
 bad:d.bad=c.bad
 k1:1≤k
 page:∀ i j,¬ (i=b∧j=k)→d.page i j=c.page i j
 blank:(getPage (c.page b k)).2.2≠0
 point:pointAt d b k=none
theorem Alike.ask {c d:Chip} {b k:Nat} (h:Alike c d b k) (x y:Int):d.ask x y=c.ask x y:=by
 unfold Chip.ask
 rw [h.nb,h.np,h.dead]
theorem Alike.head {c d:Chip} {b k:Nat} (h:Alike c d b k) (x:Int):refHead d x=refHead c x:=by
 have:=h.k1
 unfold refHead
 rw [h.ask,h.page x.toNat 0 (by omega)]
theorem Alike.go {c d:Chip} {b k:Nat} (h:Alike c d b k):∀ i,refGo d i=refGo c i
 | 0=>rfl
 | i+1=>by
  unfold refGo
  rw [h.head,h.go i]
  unfold Chip.isBad
  rw [h.bad]
theorem Alike.taken {c d:Chip} {b k:Nat} (h:Alike c d b k):refTaken d=refTaken c:=by
 unfold refTaken
 rw [h.nb,h.go]
theorem Alike.blocks {c d:Chip} {b k:Nat} (h:Alike c d b k) (era:Nat):treeBlocks d era=treeBlocks c era:=by
 unfold treeBlocks
 rw [h.taken]
theorem Alike.at {c d:Chip} {b k:Nat} (h:Alike c d b k) (i j:Nat):pointAt d i j=pointAt c i j:=by
 by_cases hij:i=b∧j=k
 ·obtain ⟨rfl,rfl⟩:=hij
  rw [h.point]
  unfold pointAt
  rw [if_pos h.blank]
 ·unfold pointAt
  rw [h.page i j hij]
theorem Alike.newestS {c d:Chip} {b k:Nat} (h:Alike c d b k) (era:Nat):newestS d era=newestS c era:=by
 unfold Go.Den.newestS
 rw [h.blocks]
 have:(fun i=>spotsB d i d.np)=fun i=>spotsB c i c.np:=by
  funext i
  unfold spotsB
  rw [h.np]
  congr 1
  funext j
  rw [h.at]
 rw [this]
theorem Alike.newestR {c d:Chip} {b k:Nat} (h:Alike c d b k) (era:Nat):newestR d era=newestR c era:=by
 unfold Go.Den.newestR
 have:askErr d era=askErr c era:=by unfold askErr;rw [h.dead]
 rw [this,h.newestS]
theorem kidsS_mono {f g:TreeS→Place→Option (Key×TreeS)} (hfg:∀ t p r,f t p=some r→g t p=some r):∀ (l:List Child) (t t':TreeS),kidsS f l t=some t'→kidsS g l t=some t'
 | [],t,t',h=>h
 | x :: l,t,t',h=>by
  unfold kidsS at h ⊢
  cases hd:f t ⟨x.block,x.page⟩ with
  | none=>rw [hd] at h;cases h
  | some y =>
   rw [hd] at h
   rw [hfg _ _ _ hd]
   obtain ⟨k,t1⟩:=y
   simp only at h ⊢
   split at h
   ·rename_i hk
    rw [if_pos hk]
    exact kidsS_mono hfg l t1 t' h
   ·cases h
theorem Alike.down {c d:Chip} {b k:Nat} (h:Alike c d b k) (bs:List Nat):∀ (f:Nat) (t:TreeS) (p:Place) (n:Nat) (r:Key×TreeS),downS c bs f t p n=some r→downS d bs f t p n=some r
 | 0,t,p,n,r,e=>by cases e
 | f+1,t,p,n,r,e=>by
  rw [downS_succ] at e ⊢
  split at e
  ·cases e
  ·rename_i h1
   rw [if_neg h1]
   split at e
   ·cases e
   ·rename_i h2
    rw [h.ask,if_neg h2]
    split at e
    ·cases e
    ·rename_i h3
     have hp:¬ (p.block.toNat=b∧p.page.toNat=k):=by
      rintro ⟨q1,q2⟩
      rw [q1,q2] at h3
      exact h3 h.blank
     rw [h.page _ _ hp,if_neg h3]
     split at e
     ·rename_i h4
      rw [if_pos h4]
      exact e
     ·rename_i h4
      rw [if_neg h4]
      split at e
      ·rename_i h5
       rw [if_pos h5]
       split at e
       ·cases e
       ·rename_i h6
        rw [if_neg h6]
        generalize (getInner (getPage (c.page p.block.toNat p.page.toNat)).2.1).1=L at *
        cases L with
        | nil=>cases e
        | cons x l =>
         simp only at e ⊢
         cases hk:kidsS (fun t p=>downS c bs f t p (n+1)) (x :: l) { t with pages:=t.pages ++ [p] } with
         | none=>rw [hk] at e;cases e
         | some t' =>
          rw [hk] at e
          rw [kidsS_mono (fun t p r he=>h.down bs f t p (n+1) r he) _ _ _ hk]
          exact e
      ·cases e
theorem Alike.walk {c d:Chip} {b k:Nat} (h:Alike c d b k) (bs:List Nat) (p:Point) (t:TreeS) (e:walkS c bs p=some t):walkS d bs p=some t:=by
 unfold walkS at e ⊢
 split at e
 ·rename_i h1
  rw [if_pos h1]
  exact e
 ·rename_i h1
  rw [if_neg h1]
  cases hd:downS c bs 13 ⟨[],[],0⟩ ⟨p.block,p.page⟩ 1 with
  | none=>rw [hd] at e;cases e
  | some y =>
   rw [hd] at e
   rw [h.down _ _ _ _ _ _ hd]
   exact e
theorem Alike.walked {c d:Chip} {b k:Nat} (h:Alike c d b k) (era:Nat) (hc:(walkedR c era).2=0):walkedR d era=walkedR c era:=by
 unfold walkedR at hc ⊢
 rw [h.newestR,h.blocks]
 split at hc
 ·rename_i h1
  exact absurd hc h1
 ·rename_i h1
  rw [if_neg h1]
  cases hw:walkS c (treeBlocks c era) (accP (Go.Den.newestR c era).1) with
  | none=>rw [hw] at hc;exact absurd hc (by decide)
  | some t=>rw [h.walk _ _ _ hw,if_neg h1]
theorem setB_get {all x:List UInt8} {o:Nat} (hl:o+x.length≤all.length) (j:Nat):(setB all o x)[j]?=if o≤j∧j<o+x.length then x[j - o]? else all[j]?:=by
 unfold setB
 have h1:(all.take o).length=o:=by rw [List.length_take];omega
 have h2:(all.take o ++ x).length=o+x.length:=by rw [List.length_append,h1]
 by_cases ha:j<o
 ·rw [if_neg (by omega),List.getElem?_append_left (by omega),List.getElem?_append_left (by omega),List.getElem?_take,if_pos ha]
 ·by_cases hb:j<o+x.length
  ·rw [if_pos ⟨by omega,hb⟩,List.getElem?_append_left (by omega),List.getElem?_append_right (by omega),h1]
  ·rw [if_neg (by omega),List.getElem?_append_right (by omega),h2,List.getElem?_drop]
   congr 1
   omega
theorem setB_other {all x:List UInt8} {o m n:Nat} (hl:o+x.length≤all.length) (h:m+n≤o∨o+x.length≤m):((setB all o x).drop m).take n=(all.drop m).take n:=by
 refine List.ext_getElem? fun j=>?_
 rw [List.getElem?_take,List.getElem?_take,List.getElem?_drop,List.getElem?_drop,setB_get hl]
 split
 ·rw [if_neg (by omega)]
 ·rfl
theorem setB_at {all x:List UInt8} {o:Nat} (hl:o+x.length≤all.length):((setB all o x).drop o).take x.length=x:=by
 refine List.ext_getElem? fun j=>?_
 rw [List.getElem?_take,List.getElem?_drop,setB_get hl]
 by_cases hj:j<x.length
 ·rw [if_pos hj,if_pos (by omega)]
  congr 1
  omega
 ·rw [if_neg hj,List.getElem?_eq_none (by omega)]
theorem setB_nil (all:List UInt8) (o:Nat):setB all o []=all:=by
 unfold setB
 simp
theorem laid_snoc {l:List LPage} {e:LPage} (h:l.length≤59):laidB (l ++ [e])=layB (laidB l) e:=by
 unfold laidB
 rw [List.take_of_length_le (by rw [List.length_append,List.length_singleton];omega),List.take_of_length_le (by omega),List.foldl_append]
 rfl
theorem laidB_length (l:List LPage):(laidB l).length=6144:=laidB_len _ _ (by rw [List.length_replicate])
theorem markB_length (b:List UInt8):(markB b).length=b.length:=by
 unfold markB
 split
 ·rw [List.length_set]
 ·rfl
theorem pageB_len {e:LPage} (h:e.what=2∨e.what=4):pageB e=[]∨(pageB e).length=128:=by
 have hr:(rawB e).length=0∨(rawB e).length=128:=by
  unfold rawB
  rcases h with h | h
  ·rw [if_neg (by omega),if_pos h]
   unfold putLeaf
   split
   ·exact putPage_len (by decide)
   ·exact .inl rfl
  ·rw [if_neg (by omega),if_neg (by omega),if_neg (by omega),if_pos h]
   unfold putPoint
   split
   ·exact putPage_len (by decide)
   ·exact .inl rfl
 have hl:(pageB e).length=(rawB e).length:=by
  unfold pageB
  split
  ·rfl
  ·exact markB_length _
 rw [hl,← List.length_eq_zero_iff,hl]
 exact hr
def LPage.b (P:LPage):Nat:=modU P.block 8
def LPage.k (P:LPage):Nat:=modU P.page 6
theorem chip18_out {l:List LPage} (h:(chip18 l).Ok) {i j:Nat} (hij:¬ (i<8∧j<6)):(chip18 l).page i j=[]:=by
 have hs:=loadChip_still 8 6 128 0 (laidB l) []
 have hnb:(chip18 l).nb=8:=hs.nb
 have hnp:(chip18 l).np=6:=hs.np
 have hsz:(chip18 l).sz=128:=hs.sz
 unfold Chip.page
 by_cases hi:i<8
 ·have hb:=h.blk_len (i:=i) (by omega)
  rw [List.drop_of_length_le,List.take_nil]
  rw [hb,hnp,hsz]
  omega
 ·have:(chip18 l).blk i=[]:=by
   unfold Chip.blk
   rw [List.getD_eq_getElem?_getD,List.getElem?_eq_none (by rw [h.bl];omega)]
   rfl
  rw [this]
  simp
theorem chip18_page (l:List LPage) {i j:Nat} (hi:i<8) (hj:j<6):(chip18 l).page i j=((laidB l).drop ((i * 6+j) * 128)).take 128:=loadChip_page hi hj
theorem chip18_other {l:List LPage} {e:LPage} (hl:l.length≤59) (h1:(chip18 l).Ok) (h2:(chip18 (l ++ [e])).Ok) {i j:Nat} (h:¬ (i=e.b∧j=e.k)):(chip18 (l ++ [e])).page i j=(chip18 l).page i j:=by
 by_cases hij:i<8∧j<6
 ·have m1:=(modU_lt e.block (n:=8) (by decide)).1
  have m2:=(modU_lt e.page (n:=6) (by decide)).1
  rw [chip18_page _ hij.1 hij.2,chip18_page _ hij.1 hij.2,laid_snoc hl]
  have hle:((pageB e).take 128).length≤128:=by rw [List.length_take];omega
  have ho:=e.off_le
  have hll:=laidB_length l
  unfold layB
  have ho':e.off=(e.b * 6+e.k) * 128:=rfl
  have m1':e.b<8:=m1
  have m2':e.k<6:=m2
  generalize e.b=b at *
  generalize e.k=k at *
  have hne:i * 6+j≠b * 6+k:=by omega
  exact setB_other (by omega) (by omega)
 ·rw [chip18_out h1 hij,chip18_out h2 hij]
theorem chip18_at {l:List LPage} {e:LPage} (hl:l.length≤59) (hlen:(pageB e).length=128):(chip18 (l ++ [e])).page e.b e.k=pageB e:=by
 have m1:e.b<8:=(modU_lt e.block (n:=8) (by decide)).1
 have m2:e.k<6:=(modU_lt e.page (n:=6) (by decide)).1
 rw [chip18_page _ m1 m2,laid_snoc hl]
 have ho:=e.off_le
 have hll:=laidB_length l
 unfold layB
 have ho':e.off=(e.b * 6+e.k) * 128:=rfl
 rw [List.take_of_length_le (l:=pageB e) (by omega),← ho']
 have:=setB_at (all:=laidB l) (x:=pageB e) (o:=e.off) (by omega)
 rw [hlen] at this
 exact this
theorem chip18_nil {l:List LPage} {e:LPage} (hl:l.length≤59) (h:pageB e=[]):chip18 (l ++ [e])=chip18 l:=by
 unfold chip18
 rw [laid_snoc hl]
 unfold layB
 rw [h,List.take_nil,setB_nil]
theorem getPage_blank {b:List UInt8} (h:isBlank b=true):(getPage b).2.2≠0:=by
 unfold getPage
 split
 ·decide
 ·decide
def Mute (P:LPage):Prop:=(P.what=2∧P.whole=true)∨(P.what=4∧(getPage (pageB P)).2.2≠0)
theorem Mute.leaf {P:LPage} (h1:P.what=2) (h2:P.whole=true) (hne:pageB P≠[]):(getPage (pageB P)).1≠6:=by
 have hp:pageB P=(putLeaf 128 P.facts).1:=by unfold pageB rawB;rw [h2,if_pos rfl,if_neg (by omega),if_pos h1]
 rw [hp] at hne ⊢
 unfold putLeaf at hne ⊢
 split at hne
 ·rename_i h
  rw [if_pos h]
  unfold putPage at hne ⊢
  split at hne
  ·exact absurd rfl hne
  ·rename_i h3
   rw [if_neg h3]
   split at hne
   ·exact absurd rfl hne
   ·rename_i h4
    rw [if_neg h4]
    have:=getPage_pageOf (size:=(128:Int).toNat) (kind:=4) (body:=leafBody P.facts) rfl (by decide) (by decide) (by omega)
    rw [this]
    show (4:UInt8)≠6
    decide
 ·exact absurd rfl hne
theorem alike18 {l:List LPage} {e:LPage} (hl:l.length≤59) (h1:(chip18 l).Ok) (h2:(chip18 (l ++ [e])).Ok) (hk:1≤e.k) (hb:isBlank ((chip18 l).page e.b e.k)=true) (hm:Mute e):Alike (chip18 l) (chip18 (l ++ [e])) e.b e.k:=by
 have s1:=loadChip_still 8 6 128 0 (laidB l) []
 have s2:=loadChip_still 8 6 128 0 (laidB (l ++ [e])) []
 have hw:e.what=2∨e.what=4:=by rcases hm with h | h<;>simp [h.1]
 refine ⟨s2.nb.trans s1.nb.symm,s2.np.trans s1.np.symm,s2.dead.trans s1.dead.symm,?_,hk,fun i j hij=>chip18_other hl h1 h2 hij,getPage_blank hb,?_⟩
 ·unfold chip18
  rw [bad_none,bad_none]
 ·rcases pageB_len hw with h0 | h128
  ·rw [chip18_nil hl h0]
   unfold pointAt
   rw [if_pos (getPage_blank hb)]
  ·unfold pointAt
   rw [chip18_at hl h128]
   rcases hm with h | h
   ·split
    ·rfl
    ·rw [if_pos (Mute.leaf h.1 h.2 (fun h0=>by rw [h0] at h128;cases h128))]
   ·rw [if_pos h.2]
section
open Go.ChangeShapes Go.WideShapes Go.ChangeAt Go.RowKit
theorem Ext.below {w w':World} (h:Ext w w'):Below w.heap.size w w':=⟨h.os,h.tape,h.output,h.size,fun k hk=>h.blk k hk (fun hf=>hf)⟩
section
variable {H:Type} {enc:TypeId×Value→H} {P:Program}
theorem trodAll_stays (hl:laidOutB P=true) {W W':World} (hb:Below W.heap.size W W') {sp:Nat→Bool}:∀ {ts:List TypeId} {vs:List Value} {ds:List (DataW H)} {ps:List MemPlace},(∀ t∈ts,P.readableRec t=true∧t<P.types.size)→
  DataW.TrodAll enc P W 0 (fun _=>true) true ts vs ds ps→(∀ x∈ps,x.block<W.heap.size)→(∀ x∈ps,sp x.block=true)→DataW.TrodAll enc P W' 0 sp true ts vs ds ps
 | [],_,_,_,_,h,_,_=>by
  obtain ⟨rfl,rfl,rfl⟩:=trodAll_nil h
  rfl
 | t :: ts,_,_,_,hr,h,hlt,hsp=>by
  obtain ⟨v,vs1,d,ds1,a,b,rfl,rfl,rfl,h1,h2⟩:=trodAll_cons h
  exact ⟨a,b,WideElems.Trod_stays hl (hr t (by simp)).1 (hr t (by simp)).2 h1 (fun x hx=>hb.same (hlt x (by simp [hx]))) (fun x hx=>hsp x (by simp [hx])),
   trodAll_stays hl hb (fun u hu=>hr u (by simp [hu])) h2 (fun x hx=>hlt x (by simp [hx])) (fun x hx=>hsp x (by simp [hx])),rfl⟩
theorem post_true (hl:laidOutB P=true) {f:Func} {s:ChangeSpec} {apart fresh handsOn again:Bool} {W W':World} {args:Array Value} {ds gs:List (DataW H)} {before:List MemPlace} {tb:TypeId}
  (hW:DataW.Whole enc P f.params.toList s.vars apart W args.toList ds gs before) (hv:s.vars=[]) (hrows:∀ t∈f.params.toList,P.readableRec t=true∧t<P.types.size) (hb:Below W.heap.size W W')
  (ht:P.underlying tb=some .bool) (hres:f.resultTypes=#[tb]) (hfn:(s.fn H (ds ++ gs))={ results:=[.lit (.bool true)],args:=ds }) :
  s.post enc P f apart fresh handsOn again W args (.bool true) W':=by
 have hlt:=hW.lt
 have hW':=hW
 obtain ⟨p,q,hA,hV,hpq,hz,hn⟩:=hW'
 rw [hv] at hV
 obtain ⟨rfl,rfl⟩:=trodVars_none hV
 simp only [List.append_nil] at hpq
 subst hpq
 have hargs:∀ sp:Nat→Bool,(∀ x∈before,sp x.block=true)→DataW.TrodAll enc P W' 0 sp true f.params.toList args.toList ds before:=fun sp hsp=>trodAll_stays hl hb hrows hA hlt hsp
 have hresT:∀ (b:Nat) (sp:Nat→Bool) (hd:Bool),DataW.TrodAll enc P W' b sp hd f.resultTypes.toList ((Value.bool true).resultList f.resultTypes.size) [.lit (.bool true)] []:=by
  intro b sp hd
  rw [hres]
  exact trodAll_cons_mk (shut_bool ht _) trodAll_mk0
 refine ⟨ds,[],before,[],before,[],hW,?_,?_,?_,hb.frame _,fun _=>⟨?_,.lit (.bool true) :: ds,[],before,⟨before,[],?_,?_,by simp,?_,hn⟩,fun p hp _=>hp⟩⟩
 ·rw [hfn];exact hresT _ _ _
 ·rw [hfn];exact hargs _ (fun x hx=>by simpa using hlt x hx)
 ·rw [hv,hfn];rfl
 ·exact ok_one hres rfl (okWide_bool_mk ht _)
 ·have:=trodAll_append (hargs _ (fun _ _=>rfl)) (hresT 0 (fun _=>true) true)
  exact this
 ·rw [hv];rfl
 ·intro b off hp
  have hbl:=hlt _ hp
  rw [hb.frozen (p:=⟨b,off,none⟩) hbl]
  exact hz b off hp
theorem row_of_cells {w:World} {a:Addr} {vs:List Value} (h:∀ (j:Nat) v,vs[j]?=some v→w.cell? (a.add j)=some v):RowAt w (some a) vs:=by
 cases vs with
 | nil=>exact .inl rfl
 | cons v vs =>
  have h0:=h 0 v rfl
  rw [add_zero] at h0
  unfold World.cell? at h0
  split at h0
  ·rename_i c t fr hb
   split at h0
   ·cases h0
   ·rename_i hs
    obtain ⟨b,o,s⟩:=a
    cases s with
    | some s=>simp at hs
    | none =>
     refine .inr ⟨b,o,c,t,fr,rfl,hb,fun j u hj=>?_⟩
     have:=h j u hj
     rw [add_lit] at this
     simpa [World.cell?,hb] using this
  ·cases h0
theorem cells_get {w:World} {base:Nat} {a:Addr} {n:Nat} {cs:List Value} (h:w.cells? base a n=some cs):cs.length=n∧∀ (j:Nat) v,cs[j]?=some v→w.cell? (a.add j)=some v:=by
 unfold World.cells? at h
 split at h
 ·have hl:cs.length=n:=by
   have:=mapM_some_length h
   simpa using this
  refine ⟨hl,fun j v hj=>?_⟩
  have hjn:j<n:=by rw [← hl];exact (List.getElem?_eq_some_iff.1 hj).1
  have:=mapM_some_get h j j (by simp [hjn])
  rw [hj] at this
  exact this
 ·cases h
theorem add_add (a:Addr) (x y:Nat):(a.add x).add y=a.add (x+y):=by
 unfold Addr.add
 by_cases hx:x=0
 ·subst hx;simp
 ·by_cases hy:y=0
  ·subst hy;simp [hx]
  ·rw [if_neg hx,if_neg hy,if_neg (by omega)]
   simp [Nat.add_assoc]
theorem flat_at {k:Nat} {g:Nat→List Value}:∀ (n:Nat),(∀ i,i<n→(g i).length=k)→((List.range n).flatMap g).length=n * k∧∀ (j:Nat) v,((List.range n).flatMap g)[j]?=some v→∃ i c,i<n∧j=i * k+c∧(g i)[c]?=some v
 | 0,_=>by simp
 | n+1,h=>by
  obtain ⟨hl,hg⟩:=flat_at n fun i hi=>h i (by omega)
  have hn:=h n (by omega)
  rw [List.range_succ,List.flatMap_append]
  refine ⟨by simp [hl,hn,Nat.succ_mul],fun j v hj=>?_⟩
  by_cases hlt:j<((List.range n).flatMap g).length
  ·rw [List.getElem?_append_left hlt] at hj
   obtain ⟨i,c,hi,e,hc⟩:=hg j v hj
   exact ⟨i,c,by omega,e,hc⟩
  ·rw [List.getElem?_append_right (by omega),hl] at hj
   exact ⟨n,j - n * k,by omega,by rw [hl] at hlt;omega,by simpa using hj⟩
theorem open_rows {w:World} {base:Nat} {spare:Nat→Bool} {held:Bool} {t e:TypeId} {fuel:Nat} {cs:List Value} {x:DataW H×List MemPlace} (ht:P.underlying t=some (.slice e)) (h:DataW.trod enc P w base spare held fuel t cs=some x) :
  ∃ (a:Option Addr) (len cap:Nat) (rows:List (List Value)) (ds:List (DataW H)),cs=[.slice a len cap]∧len≤cap∧rows.length=len∧ds.length=len∧(∀ r∈rows,r.length=P.cellsOf e)∧RowAt w a rows.flatten∧(a=none→cap=0)∧
   (∀ (i:Nat) r,rows[i]?=some r→∃ n d ps,ds[i]?=some d∧DataW.trod enc P w base spare held n e r=some (d,ps))∧((x.1= .nil∧len=0)∨∃ sp,x.1= .slice ds sp):=by
 rcases DataW.trod_slice ht h with ⟨rfl,rfl⟩| ⟨a,len,cap,elems,rest,n,_,rfl,rfl,hb,hl,hm,hlen,hel,hsp,hns⟩
 ·exact ⟨none,0,0,[],[],rfl,Nat.le_refl _,rfl,rfl,by simp,RowAt.nil _ _,fun _=>rfl,fun i r hr=>by simp at hr,.inl ⟨rfl,rfl⟩⟩
 ·have hrow:∀ i,i<len→∃ r,w.cells? base (a.add (i * P.cellsOf e)) (P.cellsOf e)=some r∧DataW.trod enc P w base spare held n e r=elems[i]?∧∃ y,elems[i]?=some y:=by
   intro i hi
   have h1:=hel i hi
   have h2:∃ y,elems[i]?=some y:=⟨elems[i]'(by omega),by simp [hlen,hi]⟩
   obtain ⟨y,hy⟩:=h2
   rw [hy] at h1
   cases hc:w.cells? base (a.add (i * P.cellsOf e)) (P.cellsOf e) with
   | none=>rw [hc] at h1;cases h1
   | some r=>rw [hc] at h1;exact ⟨r,rfl,by rw [hy];exact h1,y,hy⟩
  have hg:∀ i,i<len→w.cells? base (a.add (i * P.cellsOf e)) (P.cellsOf e)=some ((w.cells? base (a.add (i * P.cellsOf e)) (P.cellsOf e)).getD []):=by
   intro i hi
   obtain ⟨r,hr,_⟩:=hrow i hi
   rw [hr];rfl
  have hgl:∀ i,i<len→((w.cells? base (a.add (i * P.cellsOf e)) (P.cellsOf e)).getD []).length=P.cellsOf e:=fun i hi=>(cells_get (hg i hi)).1
  obtain ⟨_,hflat⟩:=flat_at (g:=fun i=>(w.cells? base (a.add (i * P.cellsOf e)) (P.cellsOf e)).getD []) len hgl
  refine ⟨some a,len,cap,(List.range len).map fun i=>(w.cells? base (a.add (i * P.cellsOf e)) (P.cellsOf e)).getD [],elems.map (·.1),rfl,hl,by simp,by simpa using hlen,?_,?_,(fun h=>by cases h),?_,.inr ⟨_,rfl⟩⟩
  ·intro r hr
   obtain ⟨i,hi,rfl⟩:=List.mem_map.1 hr
   exact hgl i (by simpa using hi)
  ·refine row_of_cells fun j v hj=>?_
   rw [← List.flatMap_def] at hj
   obtain ⟨i,c,hi,rfl,hc⟩:=hflat j v hj
   rw [← add_add]
   exact (cells_get (hg i hi)).2 c v hc
  ·intro i r hr
   have hi:i<len:=by have:=(List.getElem?_eq_some_iff.1 hr).1;simpa using this
   obtain ⟨r',h1,h2,y,hy⟩:=hrow i hi
   have:r=r':=by
    simp [hi,h1] at hr
    exact hr.symm
   subst this
   exact ⟨n,y.1,y.2,by simp [hy],by rw [h2,hy]⟩
theorem list_choice {α β:Type} {f:α→β} {Q:α→Prop}:∀ (l:List β),(∀ r∈l,∃ x,r=f x∧Q x)→∃ xs:List α,l=xs.map f∧∀ x∈xs,Q x
 | [],_=>⟨[],rfl,by simp⟩
 | r :: l,h=>by
  obtain ⟨x,e,q⟩:=h r (by simp)
  obtain ⟨xs,e',q'⟩:=list_choice l fun r hr=>h r (by simp [hr])
  refine ⟨x :: xs,by rw [e,e'];rfl,fun y hy=>?_⟩
  rcases List.mem_cons.1 hy with rfl | hy
  ·exact q
  ·exact q' y hy
theorem byte_of {n:Int} (h:(Lit.int .u8 n).wf=true):∃ x:UInt8,Value.int .u8 n=bv x:=by
 have hb:0≤n∧n≤255:=by simpa [Lit.wf,IntKind.min,IntKind.max,IntKind.signed,IntKind.bits] using h
 exact ⟨UInt8.ofNat n.toNat,by simp;omega⟩
theorem flat_single (l:List UInt8):(l.map fun x=>[bv x]).flatten=l.map bv:=by
 induction l with
 | nil=>rfl
 | cons x l ih=>simp [ih]
end
end
section
open Go.ChangeShapes Go.WideShapes Go.ChangeAt Go.RowKit
section
variable {H:Type} {enc:TypeId×Value→H} {P:Program}
end
end
section
open Go.ChangeShapes Go.WideShapes Go.ChangeAt Go.RowKit
theorem byte_bv {n:Int} (h:(Lit.int .u8 n).wf=true):Value.int .u8 n=bv (UInt8.ofNat n.toNat):=by
 have hb:0≤n∧n≤255:=by simpa [Lit.wf,IntKind.min,IntKind.max,IntKind.signed,IntKind.bits] using h
 simp
 omega
section
variable {H:Type} {enc:TypeId×Value→H} {P:Program}
def Fits (P:Program) (t:TypeId) (d:DataW H):Prop:=∀ n∈d.weights P t,n≤reachBytes
theorem fits_each {ts:List TypeId} {ds:List (DataW H)} (h:(DataW.weightsEach P ts ds).all (·≤reachBytes)=true) {j:Nat} {t:TypeId} {d:DataW H} (ht:ts[j]?=some t) (hd:ds[j]?=some d):Fits P t d:=fun n hn=>by
 have:=List.all_eq_true.1 h _ (DataW.weights_mem_each ht hd n hn)
 simpa using this
theorem weights_all_mem {e:TypeId}:∀ {l:List (DataW H)} {d:DataW H},d∈l→∀ n∈d.weights P e,n∈DataW.weightsAll P e l
 | d0 :: l,d,hm,n,hn=>by
  simp only [DataW.weightsAll,List.mem_append]
  rcases List.mem_cons.1 hm with rfl | hm
  ·exact .inl hn
  ·exact .inr (weights_all_mem hm n hn)
theorem Fits.elem {t e:TypeId} {elems spare:List (DataW H)} (h:Fits P t (.slice elems spare)) (hu:P.underlying t=some (.slice e)) {d:DataW H} (hd:d∈elems):Fits P e d:=fun n hn=>by
 refine h n ?_
 simp only [DataW.weights,hu,List.mem_cons,List.mem_append]
 exact .inr (.inl (weights_all_mem hd n hn))
theorem Fits.len {t e:TypeId} {elems spare:List (DataW H)} (h:Fits P t (.slice elems spare)) (hu:P.underlying t=some (.slice e)):(elems.length+spare.length) * P.bytesOf e≤reachBytes:=by
 refine h _ ?_
 simp only [DataW.weights,hu,List.mem_cons]
 exact .inl trivial
theorem Fits.part {t:TypeId} {fs:Array Field} {parts:List (DataW H)} (h:Fits P t (.agg parts)) (hu:P.underlying t=some (.struct fs)) {i:Nat} {f:Field} {d:DataW H} (hf:fs[i]?=some f) (hd:parts[i]?=some d):Fits P f.type d:=fun n hn=>by
 refine h n ?_
 simp only [DataW.weights,hu]
 refine DataW.weights_mem_each (j:=i) ?_ hd n hn
 simp [hf]
theorem open_rows_fit {w:World} {base:Nat} {spare:Nat→Bool} {held:Bool} {t e:TypeId} {fuel:Nat} {cs:List Value} {x:DataW H×List MemPlace} (ht:P.underlying t=some (.slice e)) (h:DataW.trod enc P w base spare held fuel t cs=some x) (hfit:Fits P t x.1) :
  ∃ (a:Option Addr) (len cap:Nat) (rows:List (List Value)),cs=[.slice a len cap]∧len≤cap∧rows.length=len∧(∀ r∈rows,r.length=P.cellsOf e)∧RowAt w a rows.flatten∧(a=none→cap=0)∧len * P.bytesOf e≤reachBytes∧
   (∀ r∈rows,∃ n d ps,Fits P e d∧DataW.trod enc P w base spare held n e r=some (d,ps)):=by
 obtain ⟨a,len,cap,rows,ds,rfl,hlc,hrl,hdl,hrk,hrow,hn,hel,hx⟩:=open_rows ht h
 rcases hx with ⟨hx,hl0⟩| ⟨sp,hx⟩
 ·subst hl0
  have:rows=[]:=List.eq_nil_of_length_eq_zero hrl
  subst this
  exact ⟨a,0,cap,[],rfl,hlc,rfl,hrk,hrow,hn,by omega,fun r hr=>by simp at hr⟩
 ·rw [hx] at hfit
  refine ⟨a,len,cap,rows,rfl,hlc,hrl,hrk,hrow,hn,?_,fun r hr=>?_⟩
  ·have:=hfit.len ht
   rw [hdl,Nat.add_mul] at this
   omega
  ·obtain ⟨i,hi,rfl⟩:=List.getElem_of_mem hr
   obtain ⟨n,d,ps,hd,ht'⟩:=hel i _ (List.getElem?_eq_getElem hi)
   exact ⟨n,d,ps,hfit.elem ht (List.mem_of_getElem? hd),ht'⟩
theorem open_field {w:World} {base:Nat} {spare:Nat→Bool} {held:Bool} {e:TypeId} {fs:Array Field} {fuel:Nat} {cs:List Value} {x:DataW H×List MemPlace} (he:P.underlying e=some (.struct fs)) (h:DataW.trod enc P w base spare held fuel e cs=some x) (hfit:Fits P e x.1) :
  cs.length=P.cellsOf e∧∀ (i:Nat) f,fs[i]?=some f→∃ n y,DataW.trod enc P w base spare held n f.type ((cs.drop f.offset).take (P.cellsOf f.type))=some y∧Fits P f.type y.1:=by
 obtain ⟨xs,n,_,rfl,hlen,hxs,hfs⟩:=DataW.trod_struct he h
 refine ⟨hlen,fun i f hf=>?_⟩
 have hi:i<xs.length:=by rw [hxs];exact (Array.getElem?_eq_some_iff.1 hf).1
 have g:=hfs i f hf
 rw [List.getElem?_eq_getElem hi] at g
 exact ⟨n,_,g,hfit.part he hf (by simp [hi])⟩
theorem open_bytes_fit {w:World} {base:Nat} {spare:Nat→Bool} {held:Bool} {t e:TypeId} {fuel:Nat} {cs:List Value} {x:DataW H×List MemPlace} (ht:P.underlying t=some (.slice e)) (he:P.underlying e=some (.int .u8)) (hb:P.bytesOf e=1) (h:DataW.trod enc P w base spare held fuel t cs=some x) (hfit:Fits P t x.1) :
  ∃ (a:Option Addr) (l:List UInt8) (cap:Nat),cs=[.slice a l.length cap]∧l.length≤cap∧BytesAt w a l∧(a=none→cap=0)∧l.length≤reachBytes:=by
 obtain ⟨a,len,cap,rows,rfl,hlc,hrl,hrk,hrow,hn,hlen,hel⟩:=open_rows_fit ht h hfit
 obtain ⟨l,rfl,_⟩:=list_choice (f:=fun x:UInt8=>[bv x]) (Q:=fun _=>True) rows (fun r hr=>by
  obtain ⟨n,d,ps,_,ht'⟩:=hel r hr
  obtain ⟨m,hm,_,hw⟩:=DataW.trod_int he ht'
  obtain ⟨x,hx⟩:=byte_of hw
  exact ⟨x,by rw [hm,hx],trivial⟩)
 simp at hrl
 subst hrl
 rw [hb,Nat.mul_one] at hlen
 refine ⟨a,l,cap,rfl,hlc,?_,hn,hlen⟩
 have e2:(l.map fun x=>[bv x]).flatten=l.map bv:=flat_single l
 rw [e2] at hrow
 exact hrow
end
end
section
open Go.ChangeShapes Go.WideShapes Go.ChangeAt Go.RowKit
section
variable {H:Type} (enc:TypeId×Value→H) (P:Program)
def Opens {α:Type} (r:ERep α) (e:TypeId) (good:α→Prop):Prop :=
 P.cellsOf e=r.k∧∀ {w:World} {base:Nat} {spare:Nat→Bool} {held:Bool} {fuel:Nat} {cs:List Value} {x:DataW H×List MemPlace},DataW.trod enc P w base spare held fuel e cs=some x→Fits P e x.1→∃ y,r.R w (fun b=>b<w.heap.size) cs y∧good y
def OpensF {α:Type} (fs:List Field) (o:Nat) (r:ERep α) (good:α→Prop):Prop :=
 ∀ {w:World} {base:Nat} {spare:Nat→Bool} {held:Bool} {cs:List Value},cs.length=o+r.k→(∀ f∈fs,∃ n y,DataW.trod enc P w base spare held n f.type ((cs.drop f.offset).take (P.cellsOf f.type))=some y∧Fits P f.type y.1)→∃ y,r.R w (fun b=>b<w.heap.size) (cs.drop o) y∧good y
variable {enc P}
theorem opensF_one {α:Type} {r:ERep α} {f:Field} {good:α→Prop} (h:Opens enc P r f.type good):OpensF enc P [f] f.offset r good:=by
 intro w base spare held cs hl hf
 obtain ⟨n,y,hy,hfit⟩:=hf f (by simp)
 obtain ⟨z,hz,hg⟩:=h.2 hy hfit
 rw [h.1,List.take_of_length_le (by rw [List.length_drop];omega)] at hz
 exact ⟨z,hz,hg⟩
theorem opensF_end {α:Type} {r:ERep α} {f:Field} {good:α→Prop} {o:Nat} (h:Opens enc P r f.type good) (ho:o=f.offset):OpensF enc P [f] o r good:=by subst ho;exact opensF_one h
theorem opensF_cons {α β γ:Type} {r:ERep β} {s:ERep γ} {f:α→β} {g:α→γ} (mk:β→γ→α) (h1:∀ x y,f (mk x y)=x) (h2:∀ x y,g (mk x y)=y) {fd:Field} {fs:List Field} {goodr:β→Prop} {goods:γ→Prop} {good:α→Prop}
  (hr:Opens enc P r fd.type goodr) {o:Nat} (ho:o=fd.offset+r.k) (hs:OpensF enc P fs o s goods) (hg:∀ x y,goodr x→goods y→good (mk x y)):OpensF enc P (fd :: fs) fd.offset (ERep.pair r s f g) good:=by
 intro w base spare held cs hl hf
 subst ho
 obtain ⟨n,y,hy,hfit⟩:=hf fd (by simp)
 obtain ⟨x,hx,hgx⟩:=hr.2 hy hfit
 have hl':cs.length=fd.offset+(r.k+s.k):=hl
 obtain ⟨z,hz,hgz⟩:=hs (by omega) fun f' hf'=>hf f' (by simp [hf'])
 rw [hr.1] at hx
 refine ⟨mk x z,⟨(cs.drop fd.offset).take r.k,cs.drop (fd.offset+r.k),?_,?_,?_⟩,hg x z hgx hgz⟩
 ·rw [← List.drop_drop,List.take_append_drop]
 ·rw [h1];exact hx
 ·rw [h2];exact hz
theorem opensF_at {α β γ:Type} {r:ERep β} {s:ERep γ} {f:α→β} {g:α→γ} (mk:β→γ→α) (h1:∀ x y,f (mk x y)=x) (h2:∀ x y,g (mk x y)=y) {fd:Field} {fs:List Field} {goodr:β→Prop} {goods:γ→Prop} {good:α→Prop} {o₀:Nat}
  (hr:Opens enc P r fd.type goodr) {o:Nat} (ho₀:o₀=fd.offset) (ho:o=o₀+r.k) (hs:OpensF enc P fs o s goods) (hg:∀ x y,goodr x→goods y→good (mk x y)):OpensF enc P (fd :: fs) o₀ (ERep.pair r s f g) good:=by
 subst ho₀
 exact opensF_cons mk h1 h2 hr ho hs hg
theorem opens_struct {α:Type} {r:ERep α} {e:TypeId} {fs:Array Field} {good:α→Prop} (he:P.underlying e=some (.struct fs)) (hc:P.cellsOf e=r.k) (h:OpensF enc P fs.toList 0 r good):Opens enc P r e good:=by
 refine ⟨hc,fun {w base spare held fuel cs x} ht hfit=>?_⟩
 obtain ⟨hl,hf⟩:=open_field he ht hfit
 have:=h (w:=w) (base:=base) (spare:=spare) (held:=held) (cs:=cs) (by rw [hl,hc];omega) fun f hf'=>by
  obtain ⟨i,hi,e⟩:=List.getElem_of_mem hf'
  have hi':i<fs.size:=by simpa using hi
  exact hf i f (by simp at e;simp [hi',e])
 simpa using this
theorem opens_int {e:TypeId} (he:P.underlying e=some (.int .i64)) (hc:P.cellsOf e=1):Opens enc P intR e fun _=>True:=by
 refine ⟨hc,fun ht hfit=>?_⟩
 obtain ⟨n,hn,_,_⟩:=DataW.trod_int he ht
 exact ⟨n,hn,trivial⟩
theorem opens_u8 {e:TypeId} (he:P.underlying e=some (.int .u8)) (hc:P.cellsOf e=1):Opens enc P u8R e fun _=>True:=by
 refine ⟨hc,fun ht hfit=>?_⟩
 obtain ⟨n,hn,_,hw⟩:=DataW.trod_int he ht
 exact ⟨UInt8.ofNat n.toNat,by rw [hn,byte_bv hw];rfl,trivial⟩
theorem opens_bool {e:TypeId} (he:P.underlying e=some .bool) (hc:P.cellsOf e=1):Opens enc P boolR e fun _=>True:=by
 refine ⟨hc,fun ht hfit=>?_⟩
 obtain ⟨b,hb,_⟩:=DataW.trod_bool he ht
 exact ⟨b,hb,trivial⟩
def strR:ERep ByteArray:=flatR (fun s=>[.string s]) 1 (by decide) (fun _=>rfl) (fun b v hv=>by simp at hv;rw [hv];rfl)
theorem opens_str {e:TypeId} (he:P.underlying e=some .string) (hc:P.cellsOf e=1):Opens enc P strR e fun s=>s.size<9223372036854775807:=by
 refine ⟨hc,fun {w base spare held fuel cs x} ht hfit=>?_⟩
 obtain ⟨s,hs,hx,hm⟩:=DataW.trod_string he ht
 refine ⟨s,hs,?_⟩
 have:reachBytes<9223372036854775807:=by decide
 have h2:=hfit s.data.toList.length (by rw [hx];simp [DataW.weights])
 show s.size<9223372036854775807
 rw [size_data]
 omega
theorem opens_bytes {t e:TypeId} (ht:P.underlying t=some (.slice e)) (he:P.underlying e=some (.int .u8)) (hb:P.bytesOf e=1) (hc:P.cellsOf t=1):Opens enc P bytesR t fun l=>l.length≤reachBytes:=by
 refine ⟨hc,fun {w base spare held fuel cs x} h hfit=>?_⟩
 obtain ⟨a,l,cap,rfl,hlc,hby,_,hr⟩:=open_bytes_fit ht he hb h hfit
 refine ⟨l,⟨a,cap,rfl,hlc,hby,fun hn p hp=>?_⟩,hr⟩
 obtain ⟨b,o,e,hlt⟩:=RowAt.blk hby (by simpa using hn)
 rw [hp] at e;cases e;exact hlt
theorem rows_open {α:Type} {r:ERep α} {e:TypeId} {good:α→Prop} (h:Opens enc P r e good) {w:World} {base:Nat} {spare:Nat→Bool} {held:Bool}:∀ {rows:List (List Value)},(∀ c∈rows,∃ n d ps,Fits P e d∧DataW.trod enc P w base spare held n e c=some (d,ps))→
  ∃ l:List α,l.length=rows.length∧Rows r w (fun b=>b<w.heap.size) rows.flatten l∧∀ x∈l,good x
 | [],_=>⟨[],rfl,rfl,by simp⟩
 | c :: rows,hr=>by
  obtain ⟨n,d,ps,hf,ht⟩:=hr c (by simp)
  obtain ⟨y,hy,hg⟩:=h.2 ht hf
  obtain ⟨l,h1,h2,h3⟩:=rows_open h (rows:=rows) fun c' hc'=>hr c' (by simp [hc'])
  refine ⟨y :: l,by simp [h1],⟨c,rows.flatten,by simp,hy,h2⟩,fun x hx=>?_⟩
  rcases List.mem_cons.1 hx with rfl | hx
  ·exact hg
  ·exact h3 x hx
theorem opens_rows {α:Type} {r:ERep α} {t e:TypeId} {good:α→Prop} (ht:P.underlying t=some (.slice e)) (h:Opens enc P r e good) {w:World} {base:Nat} {spare:Nat→Bool} {held:Bool} {fuel:Nat} {cs:List Value} {x:DataW H×List MemPlace} (hx:DataW.trod enc P w base spare held fuel t cs=some x) (hfit:Fits P t x.1) :
  ∃ (a:Option Addr) (l:List α) (cap:Nat),cs=[.slice a l.length cap]∧l.length≤cap∧SliceAt r w (fun b=>b<w.heap.size) a l∧(∀ x∈l,good x)∧l.length * P.bytesOf e≤reachBytes:=by
 obtain ⟨a,len,cap,rows,rfl,hlc,hrl,hrk,hrow,hn,hlen,hel⟩:=open_rows_fit ht hx hfit
 obtain ⟨l,h1,h2,h3⟩:=rows_open h hel
 have hll:l.length=len:=by omega
 subst hll
 refine ⟨a,l,cap,rfl,hlc,⟨_,hrow,h2,fun hn p hp=>?_⟩,h3,hlen⟩
 have hv:rows.flatten≠[]:=List.ne_nil_of_length_pos (by rw [Rows.len h2];exact Nat.mul_pos (List.length_pos_iff.2 hn) r.pos)
 obtain ⟨b,o,e,hlt⟩:=RowAt.blk hrow hv
 rw [hp] at e;cases e;exact hlt
theorem opens_key {e:TypeId} {f0 f1 f2 f3:Field} (he:P.underlying e=some (.struct #[f0,f1,f2,f3])) (hc:P.cellsOf e=4) (o0:f0.offset=0) (o1:f1.offset=1) (o2:f2.offset=2) (o3:f3.offset=3)
  (h0:Opens enc P intR f0.type fun _=>True) (h1:Opens enc P u8R f1.type fun _=>True) (h2:Opens enc P strR f2.type fun s=>s.size<9223372036854775807) (h3:Opens enc P intR f3.type fun _=>True):Opens enc P keyR e fun k=>k.name.size<9223372036854775807:=by
 have hp:=opens_struct (r:=ERep.pair intR (ERep.pair u8R (ERep.pair strR intR (fun x:ByteArray×Int=>x.1) (fun x=>x.2)) (fun x:UInt8×(ByteArray×Int)=>x.1) (fun x=>x.2)) (fun x:Key=>x.ino) (fun x=>(x.what,(x.name,x.chunk)))) (good:=fun k=>k.name.size<9223372036854775807) he hc (by
  rw [← o0]
  refine opensF_cons (fun a b=>⟨a,b.1,b.2.1,b.2.2⟩) (fun _ _=>rfl) (fun _ _=>rfl) h0 (o:=f1.offset) (by rw [o0,o1];rfl) ?_ (goods:=fun y=>y.2.1.size<9223372036854775807) fun x y _ hy=>hy
  refine opensF_cons (fun a b=>(a,b)) (fun _ _=>rfl) (fun _ _=>rfl) h1 (o:=f2.offset) (by rw [o1,o2];rfl) ?_ (goods:=fun y=>y.1.size<9223372036854775807) fun x y _ hy=>hy
  exact opensF_cons (fun a b=>(a,b)) (fun _ _=>rfl) (fun _ _=>rfl) h2 (o:=f3.offset) (by rw [o2,o3];rfl) (opensF_one h3) fun x y hx _=>hx)
 refine ⟨hc,fun ht hfit=>?_⟩
 obtain ⟨y,⟨u,v,rfl,hu,s,t,rfl,hs,s2,t2,rfl,hs2,ht2⟩,hg⟩:=hp.2 ht hfit
 refine ⟨y,?_,hg⟩
 have e1:u=[.int .i64 y.ino]:=hu
 have e2:s=[bv y.what]:=hs
 have e3:s2=[.string y.name]:=hs2
 have e4:t2=[.int .i64 y.chunk]:=ht2
 rw [e1,e2,e3,e4];rfl
end
end
section
open Go.ChangeShapes Go.WideShapes Go.ChangeAt Go.RowKit Go.Proofs
section
variable {H:Type} {enc:TypeId×Value→H}
theorem opens_sliceN {α:Type} {r:ERep α} {t e:TypeId} {good:α→Prop} (ht:Tryz.prog.underlying t=some (.slice e)) (hc:Tryz.prog.cellsOf t=1) (h:Opens enc Tryz.prog r e good):Opens enc Tryz.prog (sliceR r) t fun l=>(∀ x∈l,good x)∧l.length * Tryz.prog.bytesOf e≤reachBytes:=by
 refine ⟨hc,fun hx hfit=>?_⟩
 obtain ⟨a,l,cap,rfl,hlc,hs,hg,hb⟩:=opens_rows ht h hx hfit
 exact ⟨l,⟨a,cap,rfl,hlc,hs⟩,hg,hb⟩
theorem opens_u32 {e:TypeId} (he:Tryz.prog.underlying e=some (.int .u32)) (hc:Tryz.prog.cellsOf e=1):Opens enc Tryz.prog (natR .u32) e fun n=>n<4294967296:=by
 refine ⟨hc,fun ht hfit=>?_⟩
 obtain ⟨n,hn,_,hw⟩:=DataW.trod_int he ht
 have hb:0≤n∧n≤4294967295:=by simpa [Lit.wf,IntKind.min,IntKind.max,IntKind.signed,IntKind.bits] using hw
 refine ⟨n.toNat,?_,by omega⟩
 rw [hn]
 show _=[Value.int .u32 ((n.toNat:Nat):Int)]
 rw [Int.toNat_of_nonneg hb.1]
theorem opens_u64 {e:TypeId} (he:Tryz.prog.underlying e=some (.int .u64)) (hc:Tryz.prog.cellsOf e=1):Opens enc Tryz.prog (natR .u64) e fun n=>n<18446744073709551616:=by
 refine ⟨hc,fun ht hfit=>?_⟩
 obtain ⟨n,hn,_,hw⟩:=DataW.trod_int he ht
 have hb:0≤n∧n≤18446744073709551615:=by simpa [Lit.wf,IntKind.min,IntKind.max,IntKind.signed,IntKind.bits] using hw
 refine ⟨n.toNat,?_,by omega⟩
 rw [hn]
 show _=[Value.int .u64 ((n.toNat:Nat):Int)]
 rw [Int.toNat_of_nonneg hb.1]
theorem open18_int:Opens enc Tryz.prog intR 3 fun _=>True:=opens_int Tryz.underlying3 (by kernel_rfl)
theorem open18_u8:Opens enc Tryz.prog u8R 5 fun _=>True:=opens_u8 Tryz.underlying5 (by kernel_rfl)
theorem open18_u32:Opens enc Tryz.prog (natR .u32) 23 fun n=>n<4294967296:=opens_u32 Tryz.underlying23 (by kernel_rfl)
theorem open18_u64:Opens enc Tryz.prog (natR .u64) 24 fun n=>n<18446744073709551616:=opens_u64 Tryz.underlying24 (by kernel_rfl)
theorem open18_bool:Opens enc Tryz.prog boolR 4 fun _=>True:=opens_bool Tryz.underlying4 (by kernel_rfl)
theorem open18_str:Opens enc Tryz.prog strR 9 fun s=>s.size<9223372036854775807:=opens_str Tryz.underlying9 (by kernel_rfl)
theorem open18_bytes:Opens enc Tryz.prog bytesR 31 fun l=>l.length≤reachBytes:=opens_bytes Tryz.underlying31 Tryz.underlying5 (by kernel_rfl) (by kernel_rfl)
theorem open18_key:Opens enc Tryz.prog keyR 80 fun k=>k.name.size<9223372036854775807:=opens_key Tryz.underlying80 (by kernel_rfl) rfl rfl rfl rfl open18_int open18_u8 open18_str open18_int
theorem open18_fact:Opens enc Tryz.prog factR 82 fun x=>x.key.name.size<9223372036854775807:=by
 refine opens_struct Tryz.underlying82 (by kernel_rfl) ?_
 unfold factR
 simp only [List.toList_toArray]
 exact opensF_at (fun a b=>(⟨a,b⟩: Fact)) (fun _ _=>rfl) (fun _ _=>rfl) open18_key (o:=4) (by rfl) (by rfl) (opensF_end open18_bytes (by rfl)) fun x y hx _=>hx
theorem open18_child:Opens enc Tryz.prog childR 130 fun x=>x.key.name.size<9223372036854775807:=by
 have hp:Opens enc Tryz.prog (ERep.pair keyR (ERep.pair intR intR (fun x:Int×Int=>x.1) (fun x=>x.2)) (fun x:Child=>x.key) (fun x=>(x.block,x.page))) 130 fun x=>x.key.name.size<9223372036854775807:=by
  refine opens_struct Tryz.underlying130 (by kernel_rfl) ?_
  simp only [List.toList_toArray]
  refine opensF_at (fun a b=>(⟨a,b.1,b.2⟩: Child)) (fun _ _=>rfl) (fun _ _=>rfl) open18_key (o:=4) (by rfl) (by rfl) ?_ (goods:=fun _=>True) fun x y hx _=>hx
  exact opensF_at (fun a b=>(a,b)) (fun _ _=>rfl) (fun _ _=>rfl) open18_int (o:=5) (by rfl) (by rfl) (opensF_end open18_int (by rfl)) fun x y hx _=>trivial
 refine ⟨hp.1,fun ht hfit=>?_⟩
 obtain ⟨y,⟨u,v,rfl,hu,s,t,rfl,hs,ht2⟩,hg⟩:=hp.2 ht hfit
 refine ⟨y,?_,hg⟩
 have e1:u=Key.vals y.key:=hu
 have e2:s=[.int .i64 y.block]:=hs
 have e3:t=[.int .i64 y.page]:=ht2
 rw [e1,e2,e3];rfl
theorem open18_head:Opens enc Tryz.prog headR 26 fun x=>x.Ok:=by
 refine opens_struct Tryz.underlying26 (by kernel_rfl) ?_
 unfold headR
 simp only [List.toList_toArray]
 refine opensF_at (fun a b=>(⟨a,b.1,b.2⟩: Head)) (fun _ _=>rfl) (fun _ _=>rfl) open18_u8 (o:=1) (by rfl) (by rfl) ?_ (goods:=fun y=>y.1<4294967296∧y.2<18446744073709551616) fun x y _ hy=>⟨hy.1,hy.2⟩
 exact opensF_at (fun a b=>(a,b)) (fun _ _=>rfl) (fun _ _=>rfl) open18_u32 (o:=2) (by rfl) (by rfl) (opensF_end open18_u64 (by rfl)) fun x y hx hy=>⟨hx,hy⟩
theorem open18_point:Opens enc Tryz.prog pointR 30 fun x=>x.number<18446744073709551616:=by
 refine opens_struct Tryz.underlying30 (by kernel_rfl) ?_
 unfold pointR
 simp only [List.toList_toArray]
 refine opensF_at (fun a b=>(⟨a,b.1,b.2.1,b.2.2⟩: Point)) (fun _ _=>rfl) (fun _ _=>rfl) open18_u64 (o:=1) (by rfl) (by rfl) ?_ (goods:=fun _=>True) fun x y hx _=>hx
 refine opensF_at (fun a b=>(a,b)) (fun _ _=>rfl) (fun _ _=>rfl) open18_int (o:=2) (by rfl) (by rfl) ?_ (goods:=fun _=>True) fun x y hx _=>trivial
 exact opensF_at (fun a b=>(a,b)) (fun _ _=>rfl) (fun _ _=>rfl) open18_int (o:=3) (by rfl) (by rfl) (opensF_end open18_int (by rfl)) fun x y hx _=>trivial
theorem open18_page:Opens enc Tryz.prog lpageR 33 LPage.Fit:=by
 have hr:reachBytes≤140737488351232:=by decide
 have hbf:Tryz.prog.bytesOf 82=64:=by kernel_rfl
 have hbc:Tryz.prog.bytesOf 130=56:=by kernel_rfl
 refine opens_struct Tryz.underlying33 (by kernel_rfl) ?_
 unfold lpageR
 simp only [List.toList_toArray]
 refine opensF_at (fun a b=>(⟨a,b.1,b.2.1,b.2.2.1,b.2.2.2.1,b.2.2.2.2.1,b.2.2.2.2.2.1,b.2.2.2.2.2.2.1,b.2.2.2.2.2.2.2⟩: LPage)) (fun _ _=>rfl) (fun _ _=>rfl) open18_int (o:=1) (by rfl) (by rfl) ?_ (goods:=fun y=>(y.2.2.1.Ok)∧((∀ x∈y.2.2.2.1,x.key.name.size<9223372036854775807)∧y.2.2.2.1.length * 64≤reachBytes)∧((∀ x∈y.2.2.2.2.1,x.key.name.size<9223372036854775807)∧y.2.2.2.2.1.length * 56≤reachBytes)∧y.2.2.2.2.2.1.number<18446744073709551616∧y.2.2.2.2.2.2.1.length≤reachBytes) fun x y _ hy=>⟨hy.2.1.1,by have:=hy.2.1.2;show y.2.2.2.1.length < _;omega,hy.2.2.1.1,by have:=hy.2.2.1.2;show y.2.2.2.2.1.length < _;omega,hy.1,hy.2.2.2.1,by have:=hy.2.2.2.2;show y.2.2.2.2.2.2.1.length≤_;omega⟩
 refine opensF_at (fun a b=>(a,b)) (fun _ _=>rfl) (fun _ _=>rfl) open18_int (o:=2) (by rfl) (by rfl) ?_ (goods:=fun y=>(y.2.1.Ok)∧((∀ x∈y.2.2.1,x.key.name.size<9223372036854775807)∧y.2.2.1.length * 64≤reachBytes)∧((∀ x∈y.2.2.2.1,x.key.name.size<9223372036854775807)∧y.2.2.2.1.length * 56≤reachBytes)∧y.2.2.2.2.1.number<18446744073709551616∧y.2.2.2.2.2.1.length≤reachBytes) fun x y _ hy=>hy
 refine opensF_at (fun a b=>(a,b)) (fun _ _=>rfl) (fun _ _=>rfl) open18_int (o:=3) (by rfl) (by rfl) ?_ (goods:=fun y=>(y.1.Ok)∧((∀ x∈y.2.1,x.key.name.size<9223372036854775807)∧y.2.1.length * 64≤reachBytes)∧((∀ x∈y.2.2.1,x.key.name.size<9223372036854775807)∧y.2.2.1.length * 56≤reachBytes)∧y.2.2.2.1.number<18446744073709551616∧y.2.2.2.2.1.length≤reachBytes) fun x y _ hy=>hy
 refine opensF_at (fun a b=>(a,b)) (fun _ _=>rfl) (fun _ _=>rfl) open18_head (o:=6) (by rfl) (by rfl) ?_ (goods:=fun y=>((∀ x∈y.1,x.key.name.size<9223372036854775807)∧y.1.length * 64≤reachBytes)∧((∀ x∈y.2.1,x.key.name.size<9223372036854775807)∧y.2.1.length * 56≤reachBytes)∧y.2.2.1.number<18446744073709551616∧y.2.2.2.1.length≤reachBytes) fun x y hx hy=>⟨hx,hy⟩
 refine opensF_at (fun a b=>(a,b)) (fun _ _=>rfl) (fun _ _=>rfl) (opens_sliceN Tryz.underlying27 (by kernel_rfl) open18_fact) (o:=7) (by rfl) (by rfl) ?_ (goods:=fun y=>((∀ x∈y.1,x.key.name.size<9223372036854775807)∧y.1.length * 56≤reachBytes)∧y.2.1.number<18446744073709551616∧y.2.2.1.length≤reachBytes) fun x y hx hy=>⟨⟨hx.1,by rw [← hbf];exact hx.2⟩,hy⟩
 refine opensF_at (fun a b=>(a,b)) (fun _ _=>rfl) (fun _ _=>rfl) (opens_sliceN Tryz.underlying28 (by kernel_rfl) open18_child) (o:=8) (by rfl) (by rfl) ?_ (goods:=fun y=>y.1.number<18446744073709551616∧y.2.1.length≤reachBytes) fun x y hx hy=>⟨⟨hx.1,by rw [← hbc];exact hx.2⟩,hy⟩
 refine opensF_at (fun a b=>(a,b)) (fun _ _=>rfl) (fun _ _=>rfl) open18_point (o:=12) (by rfl) (by rfl) ?_ (goods:=fun y=>y.1.length≤reachBytes) fun x y hx hy=>⟨hx,hy⟩
 exact opensF_at (fun a b=>(a,b)) (fun _ _=>rfl) (fun _ _=>rfl) open18_bytes (o:=13) (by rfl) (by rfl) (opensF_end open18_bool (by rfl)) fun x y hx _=>hx
theorem open18_pages {w:World} {base:Nat} {spare:Nat→Bool} {held:Bool} {fuel:Nat} {cs:List Value} {x:DataW H×List MemPlace} (hx:DataW.trod enc Tryz.prog w base spare held fuel 22 cs=some x) (hfit:Fits Tryz.prog 22 x.1) :
  ∃ (a:Option Addr) (l:List LPage) (cap:Nat),cs=[.slice a l.length cap]∧SliceAt lpageR w (fun b=>b<w.heap.size) a l∧FitP l∧l.length≤cap:=by
 obtain ⟨a,l,cap,h1,h2,h3,h4,_⟩:=opens_rows Tryz.underlying22 open18_page hx hfit
 exact ⟨a,l,cap,h1,h3,h4,h2⟩
end
end
end Go.Den
