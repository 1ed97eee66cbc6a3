/- The row of the law LogFresh: for every input the law returns true, and its arguments read as they did. (Merged and shortened by program: LLogFresh ZLogFresh.) -/
import Derived.Test.YtnjiiijdgijahaaGreatQ6
import Derived.Test.YtnjiiijdgijahaaGreatRows
import Derived.WalkKit
set_option linter.unusedVariables false
set_option linter.unusedSimpArgs false
set_option maxRecDepth 20000
namespace Go.Den
def Spo (k off:Nat) (w:World) (G:Nat→Prop) (vs:List Value) (n:Nat):Prop:=∀ i,i<n→∃ a l c,vs[i * k+off]?=some (.slice a l c)∧U8 w a c∧∀ p,a=some p→G p.block
theorem spo_facts {w:World} {G:Nat→Prop}:∀ {l:List Fact} {vs:List Value},Rows factF w G vs l→Spo 5 4 w G vs l.length
 | [],vs,_,i,hi=>by simp at hi
 | x :: l,vs,⟨u,t,e,hu,ht⟩,i,hi=>by
  obtain ⟨a,c,hx,h1,h2⟩:=factF_elim hu
  have hul:u.length=5:=by rw [hx];rfl
  cases i with
  | zero=>exact ⟨a,_,c,by rw [e,hx];rfl,h1,h2⟩
  | succ i =>
   obtain ⟨a',l',c',g1,g2⟩:=spo_facts ht i (by simpa using hi)
   refine ⟨a',l',c',?_,g2⟩
   rw [e,List.getElem?_append_right (by omega),← g1]
   congr 1
   omega
theorem spo_changes {w:World} {G:Nat→Prop}:∀ {l:List Change} {vs:List Value},Rows changeF w G vs l→Spo 6 4 w G vs l.length
 | [],vs,_,i,hi=>by simp at hi
 | x :: l,vs,⟨u,t,e,hu,ht⟩,i,hi=>by
  obtain ⟨a,c,hx,h1,h2⟩:=changeF_elim hu
  have hul:u.length=6:=by rw [hx];rfl
  cases i with
  | zero=>exact ⟨a,_,c,by rw [e,hx];rfl,h1,h2⟩
  | succ i =>
   obtain ⟨a',l',c',g1,g2⟩:=spo_changes ht i (by simpa using hi)
   refine ⟨a',l',c',?_,g2⟩
   rw [e,List.getElem?_append_right (by omega),← g1]
   congr 1
   omega
theorem spoil_loop {k off:Nat} {w:World} {G:Nat→Prop} {a:Option Addr} {vs:List Value} {n:Nat} (hrow:RowAt w a vs) (hspo:Spo k off w G vs n) (hna:∀ p,a=some p→¬ G p.block) (hn:n≤4000000000000000000) {Q:World→Prop} (done:∀ u,Upd G w u→Q u) :
  ∃ (J:Int→World→Prop) (μ:Int→World→Nat),J 0 w∧∀ x:Int,∀ u:World,J x u→br (decide (x<n)) (idxP a n x k fun q=>∃ (a6:Option Addr) (l6 c6:Nat),World.cell? u (Addr.add q off)=some (.slice a6 l6 c6)∧
   CallsR prog K.carrackref00_Spoil #[.slice a6 l6 c6,.int .u8 1] u fun v u'=>v= .tuple #[]∧J (IntKind.i64.wrap (x+1)) u'∧μ (IntKind.i64.wrap (x+1)) u' < μ x u) (Q u):=by
 refine ⟨fun x u=>∃ i:Nat,x=i∧i≤n∧Upd G w u∧Spo k off u G vs n,fun x _=>((n:Int) - x).toNat,⟨0,rfl,by omega,Upd.refl _ _,hspo⟩,?_⟩
 rintro x u ⟨i,rfl,hi,hu,hs⟩
 refine br_dec (fun hlt=>?_) fun _=>done u hu
 have hi':i<n:=by omega
 obtain ⟨a6,l6,c6,h1,h2,h3⟩:=hs i hi'
 have hru:=hrow.upd hu hna
 obtain ⟨b,o,rfl,hc⟩:=RowAt.cell hru h1
 refine ⟨by omega,by omega,?_⟩
 simp only [nilC_some',add_lit,Int.toNat_natCast]
 refine ⟨a6,l6,c6,by rw [← hc];congr 2;omega,(carrackref00_Spoil_spec h2 1).mono ?_⟩
 rintro _ u' ⟨rfl,hsp⟩
 have ew:IntKind.i64.wrap ((i:Int)+1)=((i+1:Nat):Int):=w64 (by omega) (by omega)
 rw [ew]
 refine ⟨rfl,⟨i+1,rfl,hi',?_,?_⟩,meas hi'⟩
 ·rcases hsp with ⟨_,rfl⟩| ⟨b',hb',sp⟩
  ·exact hu
  ·exact hu.trans (sp.upd.mono fun x _ hx=>by rw [hx];exact h3 _ hb')
 ·rcases hsp with ⟨_,rfl⟩| ⟨b',hb',sp⟩
  ·exact hs
  ·intro j hj
   obtain ⟨a7,l7,c7,g1,g2,g3⟩:=hs j hj
   exact ⟨a7,l7,c7,g1,sp.u8 _ _ g2,g3⟩
theorem fresh_tail {w u:World} {R:Value→World→Prop} (hR:∀ v w',v= .bool true∧Ext w w'→R v w') (he:Ext w u) {F X Y:Nat→Prop} {q B:Nat} {M:PLoc} {t:LogS} (h:LogIn F X u q M t) {fs:List Fact} (hf:t.facts=fs) (hord:ordered fs=true) {n:Nat} (hg:GoodF n fs) (hn:n≤90000000) {af:Option Addr} {cf:Nat} (hy:SliceAt factR u Y af fs)
  (gB:u.heap[B]?=some (.cells #[.pointer (some ⟨M.p,0,none⟩),.pointer (some ⟨q,0,none⟩),.slice af fs.length cf] T.carracklaw14_room (0,0))) (hlt:∀ x,F x∨X x∨Y x→x<u.heap.size) :
  ∃ p5:Option Addr,World.cell? u ⟨B,1,none⟩= some (.pointer p5)∧CallsR prog K.log_Log_Facts #[.pointer p5] u fun v15 w22=>∃ (a12:Option Addr) (l12 c12:Nat),v15= .slice a12 l12 c12∧∃ (J6:Int→World→Prop) (μ5:Int→World→Nat),J6 0 w22∧∀ x8:Int,∀ w23:World,J6 x8 w23→br (decide (x8<l12)) (idxP a12 l12 x8 5 fun q12=>∃ (a13:Option Addr) (l13 c13:Nat),World.cell? w23 (Addr.add q12 4)=some (.slice a13 l13 c13)∧CallsR prog K.carrackref00_Spoil #[.slice a13 l13 c13,.int .u8 1] w23 fun v16 w24=>v16= .tuple #[]∧J6 (IntKind.i64.wrap (x8+1)) w24∧μ5 (IntKind.i64.wrap (x8+1)) w24 < μ5 x8 w23)
   (∀ w25:World,Drew w23 w25→∃ S2:World→Prop,S2 w25∧∃ p6:Option Addr,(∀ u3,S2 u3→World.cell? u3 ⟨B,1,none⟩= some (.pointer p6))∧∃ (a14:Option Addr) (l14 c14:Nat),(∀ u4,S2 u4→World.cell? u4 ⟨B,2,none⟩= some (.slice a14 l14 c14))∧CallsR prog K.log_Log_Facts #[.pointer p6] w25 fun v17 w26=>∃ (a15:Option Addr) (l15 c15:Nat),v17= .slice a15 l15 c15∧S2 w26∧CallsR prog K.carrackref00_Facts #[.slice a15 l15 c15,.slice a14 l14 c14] w26 fun v18 w27=>∃ b6:Bool,v18= .bool b6∧S2 w27∧br b6 (CallsR prog K.carracklaw14_works #[] w27 fun v19 w28=>∃ b7:Bool,v19= .bool b7∧S2 w28∧R (.bool b7) w28) (S2 w27∧R (.bool false) w27)):=by
 have hgl:=hg.len
 have hs0:=he.size
 have hql:=h.lt
 have hBl:B<u.heap.size:=(Array.getElem?_eq_some_iff.1 gB).1
 refine ⟨_,cell_of gB rfl,(log_Facts_own h (by rw [hf];omega) (by rw [hf];exact hg.vals' (by omega))).mono ?_⟩
 rw [hf,applyF_nil hord]
 rintro _ w1 ⟨a1,c1,rfl,⟨G1,⟨vs1,ho1,hr1⟩,hG1,hG1'⟩,he1⟩
 have hs1:=he1.size
 have hG1b:∀ x,G1 x→u.heap.size≤x:=fun x hx=>(hG1 x hx).1.resolve_right fun h=>h
 refine ⟨_,_,_,rfl,spoil_loop ho1.row (spo_facts hr1) (fun p hp hx=>?_) (by omega) fun u2 hu2 w3 hd3=>?_⟩
 ·obtain ⟨b,hb,rfl⟩: ∃ b,a1=some ⟨b,0,none⟩∧b=p.block:=by
   obtain ⟨_,_,hy⟩:=ho1
   rcases hy with ⟨hy,_⟩| ⟨b,_,hy,_⟩
   ·rw [hy] at hp;cases hp
   ·rw [hy] at hp;cases hp;exact ⟨b,hy,rfl⟩
  exact (hG1' _ hb).2 hx
 have hs2:=hu2.size
 have e3:Ext w w3:=((he.trans he1).beyond hu2 fun x hx=>by have:=hG1b x hx;omega).trans hd3.upd
 have g3:=Ext.get hd3.upd (hu2.get (Ext.get he1 gB) fun hx=>by have:=hG1b B hx;omega)
 have h3:LogIn F X w3 q M t:=((h.ext he1).upd hu2 fun x hx=>⟨fun hf=>by have:=hG1b x hx;have:=hlt x (.inl hf);omega,fun hf=>by have:=hG1b x hx;have:=hlt x (.inr (.inl hf));omega,by have:=hG1b x hx;omega⟩).ext hd3.upd
 have hy3:=((hy.ext he1).upd hu2 fun b hb hx=>by have:=hG1b b hx;have:=hlt b (.inr (.inr hb));omega).ext hd3.upd
 refine ⟨fun v=>Ext w3 v,Upd.refl _ _,_,fun v hv=>cell_of (Ext.get hv g3) rfl,_,_,_,fun v hv=>cell_of (Ext.get hv g3) rfl,(log_Facts_spec h3 (by rw [hf];omega) (by rw [hf];exact hg.vals' (by omega))).mono ?_⟩
 rw [hf,applyF_nil hord]
 rintro _ w4 ⟨a4,c4,rfl,hl4,he4⟩
 obtain ⟨G4,hG4,_⟩:=hl4.slice
 refine ⟨_,_,_,rfl,he4,(carrackref00_Facts_spec hG4 (hy3.ext he4) (by omega) (hg.vals' (by omega))).mono ?_⟩
 rintro _ w5 ⟨rfl,he5⟩
 rw [decide_eq_true (rfl:fs=fs)]
 refine ⟨_,rfl,he4.trans he5,?_⟩
 rw [br_true]
 refine (carracklaw14_works_spec w5).mono ?_
 rintro _ w6 ⟨rfl,he6⟩
 exact ⟨true,rfl,(he4.trans he5).trans he6,hR _ _ ⟨rfl,((e3.trans he4).trans he5).trans he6⟩⟩
theorem fits_small {l:List Change} (h:FitsC l):FitsC (l.map smallC):=⟨by simpa using h.len,fun x hx=>by
 obtain ⟨y,hy,rfl⟩:=List.mem_map.1 hx
 exact h.vals y hy⟩
theorem carracklaw14_LogFresh_spec {w:World} {a:Option Addr} {c:Nat} {l:List ActS} (hl:SliceAt actR w (fun b=>b<w.heap.size) a l) (hg:GoodA l) {ac:Option Addr} {cc:Nat} {chg:List Change} (hch:SliceAt changeR w (fun b=>b<w.heap.size) ac chg) (hfc:FitsC chg) (hsc:Small chg) :
  CallsR prog K.carracklaw14_LogFresh #[.slice a l.length c,.slice ac chg.length cc] w fun v w'=>v= .bool true∧Ext w w':=by
 apply carracklaw14_LogFresh.sh
 suffices H:∀ R:Value→World→Prop,(∀ v w',v= .bool true∧Ext w w'→R v w')→carracklaw14_LogFresh.body a l.length c ac chg.length cc w R from H _ fun _ _ h=>h
 intro R hR
 unfold carracklaw14_LogFresh.body
 refine (carracklaw14_begun_spec 0 w).mono ?_
 rintro _ w1 ⟨he1,B,p,q,F,X,M,rfl,h1⟩
 have hsp:(0:UInt8).toNat % 2≤1:=by decide
 have acts0:=acts_begun hsp h1 he1 true
 refine ⟨_,_,rfl,?_⟩
 simp only [Bool.not_true,br_false,nilC_some',add_lit,Nat.zero_add]
 refine ⟨fun u=>∃ i:Nat,i≤20∧Acts w.heap.size w B true i u,⟨fun x u=>∃ i:Nat,x=i∧i≤l.length∧i≤20∧Acts w.heap.size w B true i u,fun x _=>((20:Int) - x).toNat,⟨0,rfl,by omega,by omega,acts0⟩,?_⟩,?_⟩
 ·rintro x w2 ⟨i,rfl,hi,hi60,ha⟩
  have he2:=ha.ext
  have hs2:=he2.size
  refine br_two (fun hlt hlt2=>?_) ⟨i,hi60,ha⟩
  have hi':i<l.length:=by omega
  refine SliceAt.idx (r:=actR) (hl.ext he2) rfl hi' fun b1 o1 vs1 _ hrow1 hR1 _=>?_
  obtain ⟨ax,cx,rfl,hcx⟩:=actR_elim hR1
  refine ⟨_,ax,_,cx,_,hrow1.cells,(acts_step (by omega) ha (hg _ (List.getElem_mem hi')) hcx (fun y hy=>by have hy':y<w.heap.size:=hy;omega)).mono ?_⟩
  rintro _ w6 ⟨rfl,ha6⟩
  have ew:IntKind.i64.wrap ((i:Int)+1)=((i+1:Nat):Int):=w64 (by omega) (by omega)
  rw [ew]
  refine ⟨_,rfl,?_⟩
  simp only [Bool.not_true,br_false]
  exact ⟨⟨i+1,rfl,hi',by omega,ha6⟩,by omega⟩
 rintro w4 ⟨i,hi60,ha⟩
 have he4:=ha.ext
 have hs4:=he4.size
 obtain ⟨fs,s,hm,hp,_,hq⟩:=ha
 have hq:=hq rfl
 obtain ⟨F2,X2,Y,M2,q2,af,cf,⟨g4,_,h4,hF4,hX4,hq21,hq22,hAB⟩,hy4,hY⟩:=hm
 generalize hN:1000+100000000 * i=N at *
 generalize hn0:163200+255 * i=n0 at *
 have hBlt:B<w4.heap.size:=(Array.getElem?_eq_some_iff.1 g4).1
 have hqlt:=h4.lt
 have hgl:=hp.gfs.len
 have hlen:=hfc.len
 have ml:(chg.map smallC).length=chg.length:=by simp
 have hfs:=fits_small hfc
 have hss:Small (chg.map smallC):=small_names hsc
 have hout:((s.put (chg.map smallC)).2=0∧(s.put (chg.map smallC)).1.facts=applyF fs (chg.map smallC)∧GoodC (chg.map smallC))∨((s.put (chg.map smallC)).2≠0∧(s.put (chg.map smallC)).1.facts=fs):=by
  by_cases h0:(putL 128 (chg.map smallC)).2=0
  ·obtain ⟨hquiet,hrp⟩:=room_put hp (by omega) (by omega) h0
   have hb0:=(hquiet hq).2
   rcases hrp with ⟨e,hr⟩| ⟨_,hb,_⟩
   ·exact .inl ⟨e,(hr.few (by omega)).2.1,putL_good (size:=128) h0⟩
   ·omega
  ·have ha:s.chip.ask 0 0=0:=ask_ok (i:=0) (k:=0) hp.log.alive (by rw [hp.nb];decide) (by rw [hp.np];decide)
   have e:=put_refused ha (cs:=chg.map smallC) (by rw [hp.sz];exact h0)
   rw [e]
   refine .inr ⟨by rw [hp.sz];exact h0,(hp.few (by rw [hq.2];decide)).2.1⟩
 have hfitp:=(LogS.put_fit hp.fit (chg.map smallC)).1
 have hgood:=LogS.put_good hp.fit hp.good (chg.map smallC)
 have hord:ordered (s.put (chg.map smallC)).1.facts=true:=by
  rcases hout with ⟨_,e,_⟩| ⟨_,e⟩
  ·rw [e];exact applyF_ordered _ _
  ·rw [e];exact hp.ord
 refine (carracklaw14_small_spec (hch.ext he4) (fun b hb=>by have hb':b<w.heap.size:=hb;omega) hfc).mono ?_
 rintro _ w5 ⟨a5,c5,rfl,hl5,he5⟩
 have hs5:=he5.size
 obtain ⟨G5,hG5,hG5'⟩:=hl5.slice
 have hG5b:∀ b,G5 b→w4.heap.size≤b∧b<w5.heap.size:=fun b hb=>⟨(hG5' b hb).1.resolve_right (fun h=>h),(hG5' b hb).2⟩
 refine ⟨_,_,_,rfl,(carrackref00_CopyChanges_own hG5 (fun b hb=>(hG5b b hb).2) hfs).mono ?_⟩
 rintro _ w6 ⟨a6,c6,rfl,hl6,he6⟩
 have hs6:=he6.size
 have e46:=he5.trans he6
 obtain ⟨G6s,hG6s,hG6s'⟩:=(hl6.toWeak (fun _ _ _ _=>changeF_weak) rfl).slice
 have hG6sb:∀ b,G6s b→w5.heap.size≤b∧b<w6.heap.size:=fun b hb=>⟨(hG6s' b hb).1.resolve_right (fun h=>h),(hG6s' b hb).2⟩
 obtain ⟨G6,⟨vs6,ho6,hr6⟩,hG6,hG6'⟩:=hl6
 have hG6b:∀ b,G6 b→w5.heap.size≤b∧b<w6.heap.size:=fun b hb=>⟨(hG6 b hb).1.resolve_right (fun h=>h),(hG6 b hb).2⟩
 have ha6:∀ p,a6=some p→w5.heap.size≤p.block∧p.block<w6.heap.size∧¬ G6 p.block:=fun p hp=>by
  have hb:a6=some ⟨p.block,0,none⟩:=by
   obtain ⟨_,_,hy⟩:=ho6
   rcases hy with ⟨hy,_⟩| ⟨b,_,hy,_⟩
   ·rw [hy] at hp;cases hp
   ·rw [hy] at hp ⊢;cases hp;rfl
  exact ⟨(hG6' _ hb).1,ho6.blk hb,(hG6' _ hb).2⟩
 have hFl:∀ x,LogF F2 q2 x→w.heap.size≤x∧x<w4.heap.size∧x≠B∧¬ Y x:=fun x hx=>by
  rcases hx with hx | rfl
  ·have:=hF4 x hx
   exact ⟨this.1,this.2.1,this.2.2,fun hy=>(hY x hy).2.2.1 hx⟩
  ·exact ⟨hq21,hqlt,hq22,fun hy=>(hY _ hy).2.2.2.1 rfl⟩
 refine ⟨_,_,_,rfl,_,cell_of (Ext.get e46 g4) rfl,(log_Put_spec (h4.ext e46) (fun x hx=>by have:=hF4 x hx;omega) (fun x hx=>by have:=hX4 x hx;omega) hp.fit hp.good (by omega) hG6s hss (by omega)).mono ?_⟩
 rintro _ w7 ⟨rfl,hu7,X7,_,hX7,h7⟩
 have hs7:=hu7.size
 have e7:Ext w w7:=(he4.trans e46).beyond hu7 fun x hx=>(hFl x hx).1
 have g7:=hu7.get (Ext.get e46 g4) fun hx=>(hFl B hx).2.2.1 rfl
 have hy7:=(hy4.ext e46).upd hu7 fun b hb hx=>(hFl b hx).2.2.2 hb
 have hx7:SliceAt changeR w7 G5 a5 (chg.map smallC):=(hG5.ext he6).upd hu7 fun b hb hx=>by have:=hG5b b hb;have:=hFl b hx;omega
 have hr7:Rows changeF w7 G6 vs6 (chg.map smallC):=Rows.upd hu7 (fun b hb hx=>by have:=hG6b b hb;have:=hFl b hx;omega) hr6
 have hrow7:RowAt w7 a6 vs6:=ho6.row.upd hu7 fun p hp hx=>by have:=ha6 p hp;have:=hFl _ hx;omega
 have hX7b:∀ x,X7 x→(x<w4.heap.size∨w6.heap.size≤x)∧x<w7.heap.size∧x≠B:=fun x hx=>by
  rcases hX7 x hx with hx | hx
  ·have:=hX4 x hx;omega
  ·omega
 generalize hr:s.put (chg.map smallC)=r at *
 refine ⟨_,rfl,(carrackref00_Changes_same hx7 (hG6s.upd hu7 fun b hb hx=>by have:=hG6sb b hb;have:=hFl b hx;omega) (by omega) (fun f hf=>Nat.le_trans (hfs.vals f hf) (by decide))).mono ?_⟩
 rintro _ w8 ⟨rfl,he8⟩
 have hs8:=he8.size
 have e8:=e7.trans he8
 refine ⟨_,rfl,?_⟩
 simp only [Bool.not_true,br_false]
 refine br_eq (fun hE=>?_) fun hE=>?_
 ·obtain ⟨_,hfa,hgc⟩:=hout.resolve_right fun h=>h.1 (by omega)
  have hcl:=hgc.len
  have g8:=Ext.get he8 g7
  refine ⟨_,_,_,cell_of g8 rfl,(carrackref06_Apply_spec (hy7.ext he8) (fun b hb=>by have:=hY b hb;omega) (hx7.ext he8) (by omega) hp.gfs.names hgc.small).mono ?_⟩
  rintro _ w9 ⟨a9,c9,rfl,hl9,he9⟩
  have hs9:=he9.size
  obtain ⟨G9,hG9,hG9'⟩:=hl9.slice
  have hG9b:∀ x,G9 x→x<w9.heap.size∧(Y x∨w8.heap.size≤x):=fun x hx=>⟨(hG9' x hx).2,(hG9' x hx).1.symm⟩
  refine ⟨_,_,_,rfl,store_of (Ext.get he9 g8) (by simp) fun w10 hp10=>?_⟩
  have hu10:=hp10.upd1
  have hs10:=hu10.size
  have e10:Ext w w10:=(e8.trans he9).beyond hu10 fun x hx=>by rw [hx];exact hAB
  have e79:=he8.trans he9
  refine spoil_loop (G:=G6) ((hrow7.ext e79).upd hu10 fun p hp hx=>by have:=ha6 p hp;omega) (spo_changes (Rows.upd hu10 (fun b hb hx=>by have:=hG6b b hb;omega) (Rows.upd e79 (fun _ _ h=>h) hr7))) (fun p hp=>(ha6 p hp).2.2) (by omega) fun u hu=>?_
  have hsu:=hu.size
  refine fresh_tail hR (e10.beyond hu fun x hx=>by have:=hG6b x hx;omega) (F:=F2) (X:=X7) (Y:=G9) (q:=q2) (M:=M2) (t:=r.1) (fs:=r.1.facts) (n:=n0+255) (cf:=c9) (af:=a9) ((((h7.ext e79).upd hu10 fun x hx=>?_)).upd hu fun x hx=>?_) rfl hord hgood (by omega) ?_ ?_ fun x hx=>?_
  ·rw [hx]
   exact ⟨fun hf=>(hF4 B hf).2.2 rfl,fun hf=>(hX7b B hf).2.2 rfl,fun e=>hq22 e.symm⟩
  ·have h9:=hG6b x hx
   exact ⟨fun hf=>by have:=hF4 x hf;omega,fun hf=>by have:=hX7b x hf;omega,by omega⟩
  ·rw [hfa]
   refine (hG9.upd hu10 fun b hb hx=>?_).upd hu fun b hb hx=>?_
   ·rcases (hG9b b hb).2 with h | h
    ·exact (hY b h).2.2.2.2 hx
    ·omega
   ·have h9:=hG6b b hx
    rcases (hG9b b hb).2 with h | h
    ·have:=hY b h;omega
    ·omega
  ·have g10:=hp10.get
   have:=hu.get g10 fun hx=>by have:=hG6b B hx;omega
   rw [this,hfa]
   rfl
  ·rcases hx with hx | hx | hx
   ·have:=hF4 x hx;omega
   ·have:=hX7b x hx;omega
   ·have:=hG9b x hx;omega
 ·obtain ⟨_,hfa⟩:=hout.resolve_left fun h=>hE (by omega)
  refine spoil_loop (G:=G6) (hrow7.ext he8) (spo_changes (Rows.upd he8 (fun _ _ h=>h) hr7)) (fun p hp=>(ha6 p hp).2.2) (by omega) fun u hu=>?_
  have hsu:=hu.size
  refine fresh_tail hR (e8.beyond hu fun x hx=>by have:=hG6b x hx;omega) (F:=F2) (X:=X7) (Y:=Y) (q:=q2) (M:=M2) (t:=r.1) (fs:=r.1.facts) (n:=n0+255) (cf:=cf) (af:=af) ((h7.ext he8).upd hu fun x hx=>?_) rfl hord hgood (by omega) ?_ ?_ fun x hx=>?_
  ·have h9:=hG6b x hx
   exact ⟨fun hf=>by have:=hF4 x hf;omega,fun hf=>by have:=hX7b x hf;omega,by omega⟩
  ·rw [hfa]
   exact (hy7.ext he8).upd hu fun b hb hx=>by have:=hG6b b hx;have:=hY b hb;omega
  ·rw [hfa]
   exact hu.get (Ext.get he8 g7) fun hx=>by have:=hG6b B hx;omega
  ·rcases hx with hx | hx | hx
   ·have:=hF4 x hx;omega
   ·have:=hX7b x hx;omega
   ·have:=hY x hx;omega
end Go.Den
section
namespace Go.Proofs.YtnjiiijdgijahaaGreat.logFresh
open Go.ChangeShapes Go.WideShapes Go.ChangeAt Go.RowKit Go.Den
theorem own:ownKnob Tryz.prog.godebug=none:=by kernel_rfl
theorem laidOut:laidOutB Tryz.prog=true:=by kernel_rfl
theorem rowed:∀ t∈Tryz.f4.params.toList,Tryz.prog.readableRec t=true∧t<Tryz.prog.types.size:=by
 rw [Tryz.params4]
 intro t ht
 simp at ht
 rcases ht with rfl | rfl<;>exact ⟨by kernel_rfl,of_decide_eq_true (by kernel_rfl)⟩
set_option maxRecDepth 100000 in
theorem lifted (os:Os) (started:os.Started) (H:Type) (enc:TypeId×Value→H) :
  ReturnsInHanded {} Tryz.checked os 4 .any (Rows.logFreshSpec.pre6 enc Tryz.prog Tryz.f4 Rows.logFreshRow.domain false) (Rows.logFreshSpec.post enc Tryz.prog Tryz.f4 false true false false):=by
 refine returnsInHanded_of_change_sized (C:=Tryz.checked) own started (by kernel_rfl) Tryz.func4
  (ChangeSpec.witness6 (enc:=enc) (C:=Tryz.checked) false ⟨#[],#[.slice none 0 0,.slice none 0 0],[]⟩ 8 (by kernel_rfl) (by kernel_rfl) (by kernel_rfl) (by kernel_rfl)) ?_
 intro W base args ds gs before hval0 hW hcnd hsz _
 have hval:∀ (j:Nat) t v,Tryz.f4.params[j]?=some t→args[j]?=some v→Value.okWide Tryz.prog W .any base t v:=hval0
 have hW':=hW
 obtain ⟨p,q,hA0,hV,hpq,hfz,hnd⟩:=hW
 have hA:DataW.TrodAll enc Tryz.prog W 0 (fun _=>true) true Tryz.f4.params.toList args.toList ds p:=hA0
 rw [Tryz.params4] at hA hval hsz
 obtain ⟨v0,vs0,d0,ds0,p0,q0,hargs,rfl,hp0,h0,r0⟩:=trodAll_cons hA
 obtain ⟨v1,vs1,d1,ds1,p1,q1,rfl,rfl,hp1,h1,r1⟩:=trodAll_cons r0
 obtain ⟨rfl,rfl,_⟩:=trodAll_nil r1
 obtain rfl:args=#[v0,v1]:=by cases args;simp_all
 obtain ⟨rfl,_⟩:=trodVars_none hV
 obtain ⟨sa0,sl0,sc0,rfl⟩:=okWide_slice Tryz.underlying58 (hval 0 58 v0 rfl rfl)
 obtain ⟨fuel0,hf0⟩:=h0
 obtain ⟨aa0,al0,ac0,hcs0,hsl0,hsg0⟩:=open14_acts hf0 (fits_each hsz (j:=0) rfl rfl)
 simp [Value.cells] at hcs0
 obtain ⟨rfl,rfl,rfl⟩:=hcs0
 obtain ⟨sa1,sl1,sc1,rfl⟩:=okWide_slice Tryz.underlying22 (hval 1 22 v1 rfl rfl)
 obtain ⟨fuel1,hf1⟩:=h1
 obtain ⟨ca1,cl1,cc1,hcs1,hsl1,hfc1,hsm1⟩:=open14_changes hf1 (fits_each hsz (j:=1) rfl rfl)
 simp [Value.cells] at hcs1
 obtain ⟨rfl,rfl,rfl⟩:=hcs1
 refine Calls.mono (carracklaw14_LogFresh_spec hsl0 hsg0 hsl1 hfc1 hsm1) fun e W' he=>?_
 obtain ⟨v,he,rfl,hx⟩:=he
 exact ⟨_,he,post_true laidOut hW' rfl rowed (Ext.below hx) Tryz.underlying4 (by kernel_rfl) rfl⟩
theorem proved:Rows.LogFreshSaid :=
 OpenClaim.holds_of_wide 4 Tryz.f4 rfl rfl rfl rfl rfl rfl rfl ⟨rfl,rfl,rfl,rfl,rfl⟩ rfl rfl rfl rfl rfl (by kernel_rfl) Tryz.func4 (by kernel_rfl)
  (of_decide_eq_true (by kernel_rfl)) (by unfold Func.isWrapper;first | (rw [if_pos (by decide +kernel)];kernel_rfl) | (rw [if_neg (by decide +kernel)];exact ⟨rfl,rfl⟩))
  (fun os started H enc _=>lifted os started H enc)
end Go.Proofs.YtnjiiijdgijahaaGreat.logFresh
end
