/- Contracts of layer 14 (log): Put, Sync, Facts, Tidy and the others. (Merged and shortened by program: SFact3 SFact4 Rep8 SClone SOwn SApply SPlay SPlay2 SJour3 SScan4 MTell MTell2 MTell3 SPutRec SPack MTaken SScan5 SLog SLog2 SLog3 SLog4 SLog5 SLog6.) -/
import Derived.Test.YtnjiiijdgijahaaGreatQ4
import Derived.Lib.Overlaps
set_option linter.unusedVariables false
set_option linter.unusedSimpArgs false
set_option maxRecDepth 20000
namespace Go.Den
def stepO (c:Change) (s:List Fact×Bool) (x:Fact):List Fact×Bool :=
 if x.key=c.key then (if s.2 then s else (s.1 ++ [⟨c.key,c.val⟩],true))
 else if !s.2 && before c.key x.key then (s.1 ++ [⟨c.key,c.val⟩] ++ [x],true)
 else (s.1 ++ [x],s.2)
def oneGo (c:Change) (l:List Fact):List Fact×Bool:=l.foldl (stepO c) ([],c.gone)
def oneF (c:Change) (l:List Fact):List Fact:=cond (oneGo c l).2 (oneGo c l).1 ((oneGo c l).1 ++ [⟨c.key,c.val⟩])
theorem stepO_behind {c:Change}:∀ {l:List Fact} {acc:List Fact},(∀ x∈l,x.key≠c.key)→l.foldl (stepO c) (acc,true)=(acc ++ l,true)
 | [],acc,_=>by simp
 | x :: l,acc,h=>by
  have hx:=h x (by simp)
  rw [List.foldl_cons]
  have:stepO c (acc,true) x=(acc ++ [x],true):=by unfold stepO;rw [if_neg hx];simp
  rw [this,stepO_behind fun y hy=>h y (by simp [hy])]
  simp
theorem behind_ne {x:Fact} {l:List Fact} {k:Key} (h:∀ y∈l,before x.key y.key=true) (hk:x.key=k∨before k x.key=true):∀ y∈l,y.key≠k:=fun y hy e=>by
 have h1:=h y hy
 rcases hk with hk | hk
 ·rw [e,hk,before_irrefl] at h1;cases h1
 ·have:=before_trans hk h1
  rw [e,before_irrefl] at this;cases this
theorem oneGo_acc {c:Change}:∀ {l:List Fact} {acc:List Fact},Sorted l→
  cond (l.foldl (stepO c) (acc,c.gone)).2 (l.foldl (stepO c) (acc,c.gone)).1 ((l.foldl (stepO c) (acc,c.gone)).1 ++ [⟨c.key,c.val⟩])=acc ++ putF c l
 | [],acc,_=>by
  simp only [List.foldl_nil]
  cases hg:c.gone<;>simp [putF,hg]
 | x :: l,acc,h=>by
  obtain ⟨h1,h2⟩:=List.pairwise_cons.1 h
  rw [List.foldl_cons]
  unfold putF
  by_cases he:x.key=c.key
  ·rw [if_pos he]
   have hne:=behind_ne (k:=c.key) h1 (.inl he)
   by_cases hg:c.gone=true
   ·have:stepO c (acc,c.gone) x=(acc,true):=by unfold stepO;rw [if_pos he,if_pos hg,hg]
    rw [this,stepO_behind hne,if_pos hg];rfl
   ·have:stepO c (acc,c.gone) x=(acc ++ [⟨c.key,c.val⟩],true):=by unfold stepO;rw [if_pos he,if_neg hg]
    rw [this,stepO_behind hne,if_neg hg];simp
  ·rw [if_neg he]
   by_cases hb:before c.key x.key=true
   ·rw [if_pos hb]
    have hne:∀ y∈l,y.key≠c.key:=behind_ne h1 (.inr hb)
    by_cases hg:c.gone=true
    ·have:stepO c (acc,c.gone) x=(acc ++ [x],true):=by unfold stepO;rw [if_neg he,hg];simp
     rw [this,stepO_behind hne,if_pos hg];simp
    ·have hg':c.gone=false:=by simpa using hg
     have:stepO c (acc,c.gone) x=(acc ++ [⟨c.key,c.val⟩] ++ [x],true):=by unfold stepO;rw [if_neg he,hg',hb];simp
     rw [this,stepO_behind hne,if_neg hg];simp
   ·rw [if_neg hb]
    have hb':before c.key x.key=false:=by simpa using hb
    have:stepO c (acc,c.gone) x=(acc ++ [x],c.gone):=by unfold stepO;rw [if_neg he,hb'];simp
    rw [this,oneGo_acc h2];simp
theorem oneF_put {c:Change} {l:List Fact} (h:Sorted l):oneF c l=putF c l:=by
 exact oneGo_acc (c:=c) (acc:=[]) h
theorem oneGo_succ (c:Change) {l:List Fact} {i:Nat} (hi:i<l.length):oneGo c (l.take (i+1))=stepO c (oneGo c (l.take i)) l[i]:=by
 unfold oneGo
 rw [List.take_succ_eq_append_getElem hi,List.foldl_append];rfl
theorem stepO_len (c:Change) (s:List Fact×Bool) (x:Fact):(stepO c s x).1.length≤s.1.length+2:=by
 unfold stepO
 split
 ·split<;>simp
 ·split<;>simp
theorem oneGo_len (c:Change) (l:List Fact):∀ i,(oneGo c (l.take i)).1.length≤2 * i
 | 0=>by simp [oneGo]
 | i+1=>by
  by_cases hi:i<l.length
  ·rw [oneGo_succ c hi]
   have:=stepO_len c (oneGo c (l.take i)) l[i]
   have:=oneGo_len c l i
   omega
  ·have:l.take (i+1)=l.take i:=by rw [List.take_of_length_le (by omega),List.take_of_length_le (by omega)]
   rw [this]
   have:=oneGo_len c l i
   omega
theorem key_beq (a b:Key):((a.ino == b.ino) && (((a.what.toNat:Int) == (b.what.toNat:Int)) && ((a.name.toList == b.name.toList) && ((a.chunk == b.chunk) && true))))=decide (a=b):=by
 rw [u8b,str_beq,Bool.eq_iff_iff]
 simp only [Bool.and_eq_true,beq_iff_eq,and_true,decide_eq_true_eq]
 constructor
 ·rintro ⟨h1,h2,h3,h4⟩
  obtain ⟨a1,a2,⟨⟨a3⟩⟩,a4⟩:=a
  obtain ⟨b1,b2,⟨⟨b3⟩⟩,b4⟩:=b
  simp only at h1 h2 h3 h4
  subst h1;subst h2;subst h3;subst h4;rfl
 ·rintro rfl;exact ⟨rfl,rfl,rfl,rfl⟩
theorem carrackref06_one_spec {w:World} {G:Nat→Prop} {a av:Option Addr} {cp cv:Nat} {l:List Fact} {x:Change} (h:SliceAt factR w G a l) (hG:∀ b,G b→b<w.heap.size) (hb:BytesAt w av x.val) (hbl:x.val.length≤140737488355232) (hn:l.length≤100000000)
  (hnl:∀ f∈l,f.key.name.size<9223372036854775807) (hnx:x.key.name.size<9223372036854775807) :
  CallsR prog K.carrackref06_one #[.slice a l.length cp,.agg #[.int .i64 x.key.ino,bv x.key.what,.string x.key.name,.int .i64 x.key.chunk,.slice av x.val.length cv,.bool x.gone]] w fun v w'=>∃ a' c',v= .slice a' (oneF x l).length c'∧ListAt factR G w.heap.size w' a' c' T.api_Fact (oneF x l)∧Ext w w':=by
 apply carrackref06_one.sh
 suffices H:∀ R:Value→World→Prop,(∀ v w',(∃ a' c',v= .slice a' (oneF x l).length c'∧ListAt factR G w.heap.size w' a' c' T.api_Fact (oneF x l)∧Ext w w')→R v w')→carrackref06_one.body a l.length cp x.key.ino x.key.what.toNat x.key.name x.key.chunk av x.val.length cv x.gone w R from H _ fun _ _ h=>h
 intro R hR
 unfold carrackref06_one.body
 simp only [add_lit,Nat.zero_add]
 intro B1 w₁ hn1
 have hb1:B1=w.heap.size:=hn1.num
 have hs1:=hn1.size
 have g1:w₁.heap[B1]?=some (.cells (changeVs x.key av x.val.length cv x.gone).toArray T.api_Change (0,0)):=hn1.get
 refine ⟨_,cell_of g1 rfl,_,_,_,cell_of g1 rfl,append_copy (hb.ext hn1.upd) (by omega) fun a2 c2 w₂ he2 hb2 hc2 hf2 hnil=>?_⟩
 have e2:=hn1.upd.trans he2
 have hs2:=he2.size
 have g2:=Ext.get he2 g1
 have hf2':∀ p,a2=some p→w₁.heap.size≤p.block∧p.block<w₂.heap.size:=fun p hp=>⟨hf2 p hp,by
  by_cases hl0:x.val=[]
  ·rw [hnil hl0] at hp;cases hp
  ·obtain ⟨b',o,hab,hlt⟩:=RowAt.blk hb2 (by simpa using hl0)
   rw [hab] at hp;cases hp;exact hlt⟩
 have kcell:∀ {u:World},Ext w₂ u→cellsAt u ⟨B1,0,none⟩ [.int .i64 x.key.ino,bv x.key.what,.string x.key.name,.int .i64 x.key.chunk] 0:=fun he=>cellsAt_of (o:=0) (vs:=x.key.vals) (Ext.get he g2) (fun j v hj=>by
  rcases j with _ | _ | _ | _ | j
  all_goals simp [Key.vals] at hj ⊢
  all_goals exact hj)
 refine ⟨fun a3 l3 c3 b2 x1 u=>∃ i:Nat,x1=i∧i≤l.length∧l3=(oneGo x (l.take i)).1.length∧b2=(oneGo x (l.take i)).2∧ListAt factR (fun b=>G b∨(w₁.heap.size≤b∧b<w₂.heap.size)) w₂.heap.size u a3 c3 T.api_Fact (oneGo x (l.take i)).1∧Ext w₂ u,fun _ _ _ _ y _=>((l.length:Int) - y).toNat,
  ⟨0,rfl,by omega,rfl,rfl,ListAt.nil _ _,Upd.refl _ _⟩,?_⟩
 rintro a3 l3 c3 b2 x1 u ⟨i,rfl,hi,rfl,rfl,hl,heu⟩
 have hlen:=oneGo_len x l i
 have hsu:=heu.size
 have pushNew:∀ {u u':World} {B:Nat} {a3:Option Addr} {c3:Nat} {acc:List Fact} {K:Option Addr→Nat→Nat→World→Prop},ListAt factR (fun b=>G b∨(w₁.heap.size≤b∧b<w₂.heap.size)) w₂.heap.size u a3 c3 T.api_Fact acc→acc.length≤900000000→Ext w₂ u→New u (.cells #[.int .i64 x.key.ino,bv x.key.what,.string x.key.name,.int .i64 x.key.chunk,.slice a2 x.val.length c2] T.api_Fact) B u'→
   (∀ a' c' w',ListAt factR (fun b=>G b∨(w₁.heap.size≤b∧b<w₂.heap.size)) w₂.heap.size w' a' c' T.api_Fact (acc ++ [(⟨x.key,x.val⟩: Fact)])→Ext w₂ w'→K a' (acc ++ [(⟨x.key,x.val⟩: Fact)]).length c' w')→appendP T.api_Fact 5 64 [.int .i64 0,.int .u8 0,.string ByteArray.empty,.int .i64 0,.slice none 0 0] a3 acc.length c3 (.slice (some ⟨B,0,none⟩) 1 1) u' K:=by
  intro u u' B a3 c3 acc K hl hal he hn hK
  have hs:=hn.size
  have hse:=he.size
  refine ListAt.push (r:=factR) (H:=fun b=>w₁.heap.size≤b∧b<w₂.heap.size) (x:=⟨x.key,x.val⟩) (hl.ext hn.upd) (factR_intro (x:=⟨x.key,x.val⟩) hc2 ((hb2.ext he).ext hn.upd) fun _ p hp=>hf2' p hp) (fun b hb=>⟨.inr (.inr hb),by omega,fun hab=>?_⟩) hn rfl rfl (by omega) (by omega) (by omega) fun a' c' w' hu hl'=>hK a' c' w' hl' (Ext.own (he.trans hn.upd) hu (Nat.le_refl _))
  obtain ⟨_,_,_,h3⟩:=hl
  have:=(h3 b hab).1
  omega
 have pushOld:∀ {u u':World} {B:Nat} {a3 ao:Option Addr} {c3 co:Nat} {acc:List Fact} {f:Fact} {K:Option Addr→Nat→Nat→World→Prop},f.val.length≤co→BytesAt u ao f.val→(f.val≠[]→∀ p,ao=some p→G p.block)→ListAt factR (fun b=>G b∨(w₁.heap.size≤b∧b<w₂.heap.size)) w₂.heap.size u a3 c3 T.api_Fact acc→acc.length≤900000000→Ext w₂ u→New u (.cells (factVs f.key ao f.val.length co).toArray T.api_Fact) B u'→
   (∀ a' c' w',ListAt factR (fun b=>G b∨(w₁.heap.size≤b∧b<w₂.heap.size)) w₂.heap.size w' a' c' T.api_Fact (acc ++ [f])→Ext w₂ w'→K a' (acc ++ [f]).length c' w')→appendP T.api_Fact 5 64 [.int .i64 0,.int .u8 0,.string ByteArray.empty,.int .i64 0,.slice none 0 0] a3 acc.length c3 (.slice (some ⟨B,0,none⟩) 1 1) u' K:=by
  intro u u' B a3 ao c3 co acc f K hco hbo hgo hl hal he hn hK
  have hs:=hn.size
  have hse:=he.size
  refine ListAt.push (r:=factR) (H:=fun b=>G b) (x:=f) (hl.ext hn.upd) (factR_intro hco (hbo.ext hn.upd) hgo) (fun b hb=>⟨.inr (.inl hb),by have:=hG b hb;omega,fun hab=>?_⟩) hn rfl rfl (by omega) (by omega) (by omega) fun a' c' w' hu hl'=>hK a' c' w' hl' (Ext.own (he.trans hn.upd) hu (Nat.le_refl _))
  obtain ⟨_,_,_,h3⟩:=hl
  have:=(h3 b hab).1
  have:=hG b hb
  omega
 refine br_dec (fun hlt=>?_) fun hge=>?_
 ·have hi':i<l.length:=by omega
  have ew:IntKind.i64.wrap ((i:Int)+1)=((i+1:Nat):Int):=w64 (by omega) (by omega)
  simp only [ew]
  have hsucc:=oneGo_succ x hi'
  intro w₄ hd4
  have e4:=heu.trans hd4.upd
  have hl4:=hl.ext hd4.upd
  have step:∀ {a':Option Addr} {l' c':Nat} {b':Bool} {w':World} {acc:List Fact},(acc,b')=stepO x (oneGo x (l.take i)) l[i]→l'=acc.length→ListAt factR (fun b=>G b∨(w₁.heap.size≤b∧b<w₂.heap.size)) w₂.heap.size w' a' c' T.api_Fact acc→Ext w₂ w'→
    (∃ k:Nat,((i+1:Nat):Int)=k∧k≤l.length∧l'=(oneGo x (l.take k)).1.length∧b'=(oneGo x (l.take k)).2∧ListAt factR (fun b=>G b∨(w₁.heap.size≤b∧b<w₂.heap.size)) w₂.heap.size w' a' c' T.api_Fact (oneGo x (l.take k)).1∧Ext w₂ w')∧((l.length:Int) - ((i+1:Nat):Int)).toNat<((l.length:Int) - (i:Int)).toNat:=fun {a' l' c' b' w' acc} hacc hll hla he=>by
   have h1:oneGo x (l.take (i+1))=(acc,b'):=by rw [hsucc,← hacc]
   exact ⟨⟨i+1,rfl,hi',by rw [h1];exact hll,by rw [h1],by rw [h1];exact hla,he⟩,meas hi'⟩
  refine ⟨fun u=>Ext w₄ u,Upd.refl _ _,SliceAt.idx (r:=factR) (h.ext (e2.trans e4)) rfl hi' fun b1 o1 vs1 _ hrow1 hR1 _=>?_⟩
  obtain ⟨a1,c1,rfl,hc1,hb1',hg1'⟩:=factR_elim hR1
  refine ⟨_,_,_,_,fun u1 hu1=>(RowAt.take (hrow1.ext hu1) 4).cells,_,_,_,_,fun u1 hu1=>kcell (e4.trans hu1),?_⟩
  rw [key_beq]
  have hal:(oneGo x (l.take i)).1.length≤200000000:=by omega
  generalize hst:oneGo x (l.take i)=st at *
  have old:∀ {v:World} {a5:Option Addr} {c5:Nat} {acc:List Fact} {b':Bool} {l5:Nat},l5=acc.length→acc.length≤800000000→(acc ++ [l[i]],b')=stepO x st l[i]→Ext w₂ v→ListAt factR (fun b=>G b∨(w₁.heap.size≤b∧b<w₂.heap.size)) w₂.heap.size v a5 c5 T.api_Fact acc→
    idxP a l.length (i:Int) 5 fun q=>∃ x8 x9:Int,∃ s3:ByteArray,∃ x10:Int,∃ (a6:Option Addr) (l6 c6:Nat),cellsAt v q [.int .i64 x8,.int .u8 x9,.string s3,.int .i64 x10,.slice a6 l6 c6] 0∧
     ∀ B4 v',New v (.cells #[.int .i64 x8,.int .u8 x9,.string s3,.int .i64 x10,.slice a6 l6 c6] T.api_Fact) B4 v'→appendP T.api_Fact 5 64 [.int .i64 0,.int .u8 0,.string ByteArray.empty,.int .i64 0,.slice none 0 0] a5 l5 c5 (.slice (some ⟨B4,0,none⟩) 1 1) v' fun a7 l7 c7 v'' =>
      (∃ k:Nat,((i+1:Nat):Int)=k∧k≤l.length∧l7=(oneGo x (l.take k)).1.length∧b'=(oneGo x (l.take k)).2∧ListAt factR (fun b=>G b∨(w₁.heap.size≤b∧b<w₂.heap.size)) w₂.heap.size v'' a7 c7 T.api_Fact (oneGo x (l.take k)).1∧Ext w₂ v'')∧((l.length:Int) - ((i+1:Nat):Int)).toNat<((l.length:Int) - (i:Int)).toNat:=by
   intro v a5 c5 acc b' l5 hl5 hacc hstep hev hla
   subst hl5
   refine SliceAt.idx (r:=factR) (h.ext (e2.trans hev)) rfl hi' fun b1 o1 vs1 _ hrow1 hR1 _=>?_
   obtain ⟨ao,co,rfl,hco,hbo,hgo⟩:=factR_elim hR1
   refine ⟨_,_,_,_,_,_,_,hrow1.cells,fun B4 v' hn'=>?_⟩
   exact pushOld hco hbo hgo hla (by omega) hev hn' fun a' c' w' hl' he'=>step hstep rfl hl' he'
  have new:∀ {v:World} {K:Option Addr→Nat→Nat→World→Prop},Ext w₄ v→(∀ a' c' w',ListAt factR (fun b=>G b∨(w₁.heap.size≤b∧b<w₂.heap.size)) w₂.heap.size w' a' c' T.api_Fact (st.1 ++ [(⟨x.key,x.val⟩: Fact)])→Ext w₂ w'→K a' (st.1 ++ [(⟨x.key,x.val⟩: Fact)]).length c' w')→
    ∃ x8 x9:Int,∃ s3:ByteArray,∃ x10:Int,cellsAt v ⟨B1,0,none⟩ [.int .i64 x8,.int .u8 x9,.string s3,.int .i64 x10] 0∧∀ B2 v',New v (.cells #[.int .i64 x8,.int .u8 x9,.string s3,.int .i64 x10,.slice a2 x.val.length c2] T.api_Fact) B2 v'→
     appendP T.api_Fact 5 64 [.int .i64 0,.int .u8 0,.string ByteArray.empty,.int .i64 0,.slice none 0 0] a3 st.1.length c3 (.slice (some ⟨B2,0,none⟩) 1 1) v' K:=by
   intro v K hev hK
   exact ⟨_,_,_,_,kcell (e4.trans hev),fun B2 v' hn'=>pushNew (hl4.ext hev) (by omega) (e4.trans hev) hn' hK⟩
  refine br_dec (fun hkey=>br_intro (fun hd=>?_) fun hd=>?_) fun hkey=>?_
  ·have hd':st.2=false:=by simpa using hd
   refine new (Upd.refl _ _) fun a' c' w' hl' he'=>step (acc:=st.1 ++ [⟨x.key,x.val⟩]) ?_ rfl hl' he'
   unfold stepO
   rw [if_pos hkey,hd'];rfl
  ·have hd':st.2=true:=by simpa using hd
   refine step (acc:=st.1) ?_ rfl hl4 e4
   unfold stepO
   rw [if_pos hkey,hd',if_pos rfl]
   rw [← hd']
  ·intro w₇ hd7
   have e7:=e4.trans hd7.upd
   refine ⟨fun u=>Ext w₇ u,Upd.refl _ _,br_intro (fun hd=>?_) fun hd=>?_⟩
   ·have hd':st.2=false:=by simpa using hd
    refine ⟨_,_,_,_,fun u3 hu3=>kcell (e7.trans hu3),SliceAt.idx (r:=factR) (h.ext (e2.trans e7)) rfl hi' fun b1 o1 vs1 _ hrow1 hR1 _=>?_⟩
    obtain ⟨ao,co,rfl,hco,hbo,hgo⟩:=factR_elim hR1
    refine ⟨_,_,_,_,fun u3 hu3=>(RowAt.take (hrow1.ext hu3) 4).cells,(carrackref06_Before_spec x.key l[i].key hnx (hnl _ (List.getElem_mem _)) w₇).mono ?_⟩
    rintro _ w₈ ⟨rfl,he8⟩
    refine ⟨_,rfl,br_intro (fun hbf=>?_) fun hbf=>?_⟩
    ·refine new (hd7.upd.trans he8) fun a' c' w' hl' he'=>old (acc:=st.1 ++ [⟨x.key,x.val⟩]) (b':=true) rfl (by simp;omega) ?_ he' hl'
     unfold stepO
     rw [if_neg hkey,hd',hbf];rfl
    ·refine old (acc:=st.1) (b':=st.2) rfl (by omega) ?_ (e7.trans he8) (hl4.ext (hd7.upd.trans he8))
     unfold stepO
     rw [if_neg hkey,hbf];simp
   ·have hd':st.2=true:=by simpa using hd
    refine old (acc:=st.1) (b':=st.2) rfl (by omega) ?_ e7 (hl4.ext hd7.upd)
    unfold stepO
    rw [if_neg hkey,hd'];simp
 ·have hii:i=l.length:=by omega
  subst hii
  rw [List.take_length] at hl hlen ⊢
  have hw:∀ {u a c acc},ListAt factR (fun b=>G b∨(w₁.heap.size≤b∧b<w₂.heap.size)) w₂.heap.size u a c T.api_Fact acc→ListAt factR G w.heap.size u a c T.api_Fact acc:=fun h=>h.weak (by omega) fun b hb=>by
   rcases hb with hb | hb
   ·exact .inr hb
   ·exact .inl (by omega)
  have hone:oneF x l=cond (oneGo x l).2 (oneGo x l).1 ((oneGo x l).1 ++ [⟨x.key,x.val⟩]):=rfl
  refine br_intro (fun hd=>?_) fun hd=>?_
  ·have hd':(oneGo x l).2=false:=by simpa using hd
   rw [hd'] at hone
   rw [hone] at hR
   refine ⟨_,_,_,_,kcell heu,fun B7 v' hn'=>pushNew hl (by omega) heu hn' fun a' c' w' hl' he'=>hR _ _ ⟨a',c',rfl,hw hl',e2.trans he'⟩⟩
  ·have hd':(oneGo x l).2=true:=by simpa using hd
   rw [hd'] at hone
   rw [hone] at hR
   exact hR _ _ ⟨a3,c3,rfl,hw hl,e2.trans heu⟩
def NamesF (l:List Fact):Prop:=∀ f∈l,f.key.name.size<9223372036854775807
def SmallC (l:List Change):Prop:=∀ x∈l,x.key.name.size<9223372036854775807∧x.val.length≤140737488355232
theorem NamesF.put {c:Change} {l:List Fact} (h:NamesF l) (hc:c.key.name.size<9223372036854775807):NamesF (putF c l):=fun f hf=>by
 rcases putF_mem hf with hf | ⟨_,rfl⟩
 ·exact h f hf
 ·exact hc
theorem applyL_succ (l:List Fact) {cs:List Change} {i:Nat} (hi:i<cs.length):applyL l (cs.take (i+1))=putF cs[i] (applyL l (cs.take i)):=by
 unfold applyL
 rw [List.take_succ_eq_append_getElem hi,List.foldl_append];rfl
theorem applyL_length (l:List Fact) (cs:List Change):∀ i,(applyL l (cs.take i)).length≤l.length+i
 | 0=>by simp [applyL]
 | i+1=>by
  by_cases hi:i<cs.length
  ·rw [applyL_succ l hi]
   have:=putF_length cs[i] (applyL l (cs.take i))
   have:=applyL_length l cs i
   omega
  ·have:cs.take (i+1)=cs.take i:=by rw [List.take_of_length_le (by omega),List.take_of_length_le (by omega)]
   rw [this]
   have:=applyL_length l cs i
   omega
theorem applyL_names {l:List Fact} {cs:List Change} (h:NamesF l) (hc:SmallC cs):∀ i,NamesF (applyL l (cs.take i))
 | 0=>by simpa [applyL] using h
 | i+1=>by
  by_cases hi:i<cs.length
  ·rw [applyL_succ l hi]
   exact (applyL_names h hc i).put (hc _ (List.getElem_mem _)).1
  ·have:cs.take (i+1)=cs.take i:=by rw [List.take_of_length_le (by omega),List.take_of_length_le (by omega)]
   rw [this]
   exact applyL_names h hc i
theorem carrackref06_Ordered_spec {w:World} {G:Nat→Prop} {a:Option Addr} {c:Nat} {l:List Fact} (h:SliceAt factR w G a l) (hn:l.length<9000000000000000000) (hnl:NamesF l) :
  CallsR prog K.carrackref06_Ordered #[.slice a l.length c] w fun v w'=>v= .bool (ordered l)∧Ext w w':=by
 apply carrackref06_Ordered.sh
 unfold carrackref06_Ordered.body
 refine ⟨fun x u=>∃ i:Nat,x=((i+1:Nat):Int)∧(i+1≤l.length∨i=0)∧Ext w u∧ordered (l.take (i+1))=true,fun x _=>((l.length:Int) - x).toNat,⟨0,rfl,.inr rfl,Upd.refl _ _,ordered_small (by rw [List.length_take];omega)⟩,?_⟩
 rintro x u ⟨i,rfl,hi,heu,ho⟩
 refine br_dec (fun hlt=>?_) fun hge=>⟨?_,heu⟩
 ·have hi':i+1<l.length:=by omega
  have hi0:i<l.length:=by omega
  intro w₂ hd2
  have e2:=heu.trans hd2.upd
  have q1:IntKind.i64.wrap (((i+1:Nat):Int) - 1)=(i:Int):=by rw [w64 (by omega) (by omega)];omega
  have q2:IntKind.i64.wrap (((i+1:Nat):Int)+1)=((i+1+1:Nat):Int):=by rw [w64 (by omega) (by omega)];omega
  simp only [q1,q2]
  refine ⟨fun u=>Ext w₂ u,Upd.refl _ _,SliceAt.idx (r:=factR) (h.ext e2) rfl hi0 fun b o vs _ hrow hR _=>?_⟩
  obtain ⟨_,_,rfl,_,_,_⟩:=factR_elim hR
  refine ⟨_,_,_,_,fun u1 hu1=>(RowAt.take (hrow.ext hu1) 4).cells,SliceAt.idx (r:=factR) (h.ext e2) rfl hi' fun b o vs _ hrow hR _=>?_⟩
  obtain ⟨_,_,rfl,_,_,_⟩:=factR_elim hR
  refine ⟨_,_,_,_,fun u1 hu1=>(RowAt.take (hrow.ext hu1) 4).cells,(carrackref06_Before_spec l[i].key l[i+1].key (hnl _ (List.getElem_mem _)) (hnl _ (List.getElem_mem _)) w₂).mono ?_⟩
  rintro _ w₃ ⟨rfl,he3⟩
  have hstep:=ordered_take l hi'
  rw [ho,Bool.true_and] at hstep
  refine ⟨_,rfl,br_intro (fun hb=>⟨?_,e2.trans he3⟩) fun hb=>⟨⟨i+1,rfl,.inl hi',e2.trans he3,by rw [hstep];simpa using hb⟩,by omega⟩⟩
  rw [ordered_false (n:=i+2) (by rw [hstep];simpa using hb)]
 ·rw [List.take_of_length_le (by omega)] at ho
  rw [ho]
theorem carrackref06_Apply_spec {w:World} {G Gc:Nat→Prop} {a ac:Option Addr} {c cc:Nat} {l:List Fact} {cs:List Change} (h:SliceAt factR w G a l) (hG:∀ b,G b→b<w.heap.size) (hc:SliceAt changeR w Gc ac cs) (hn:l.length+cs.length≤100000000) (hnl:NamesF l) (hnc:SmallC cs) :
  CallsR prog K.carrackref06_Apply #[.slice a l.length c,.slice ac cs.length cc] w fun v w'=>∃ a' c',v= .slice a' (applyF l cs).length c'∧ListAt factR G w.heap.size w' a' c' T.api_Fact (applyF l cs)∧Ext w w':=by
 apply carrackref06_Apply.sh
 suffices H:∀ R:Value→World→Prop,(∀ v w',(∃ a' c',v= .slice a' (applyF l cs).length c'∧ListAt factR G w.heap.size w' a' c' T.api_Fact (applyF l cs)∧Ext w w')→R v w')→carrackref06_Apply.body a l.length c ac cs.length cc w R from H _ fun _ _ h=>h
 intro R hR
 unfold carrackref06_Apply.body
 refine (carrackref06_Ordered_spec h (by omega) hnl).mono ?_
 rintro _ w₁ ⟨rfl,he1⟩
 have hs1:=he1.size
 refine ⟨_,rfl,br_intro (fun ho=>?_) fun ho=>?_⟩
 ·have ho':ordered l=false:=by simpa using ho
  have hap:applyF l cs=[]:=by unfold applyF;rw [if_neg (by rw [ho'];decide)]
  rw [hap] at hR
  exact hR _ _ ⟨none,0,rfl,ListAt.nil _ _,he1⟩
 have ho':ordered l=true:=by simpa using ho
 have hsorted:=ordered_sorted.1 ho'
 have hap:applyF l cs=applyL l cs:=by unfold applyF;rw [if_pos ho']
 rw [hap] at hR
 refine ListAt.concat (r:=factR) (H:=G) (Q:=G) (S:=w.heap.size) (l:=[]) (ListAt.nil _ _) (h.ext he1) (fun b hb=>⟨.inr hb,by have:=hG b hb;omega,fun hab=>by cases hab⟩) rfl rfl rfl (by simp;omega) (by omega) hs1 fun a1 c1 w₂ hu2 hl2=>?_
 have e2:=Ext.own he1 hu2 (Nat.le_refl _)
 rw [List.nil_append] at hl2 ⊢
 refine ⟨fun a2 l2 c2 x u=>∃ i:Nat,x=i∧i≤cs.length∧l2=(applyL l (cs.take i)).length∧ListAt factR G w.heap.size u a2 c2 T.api_Fact (applyL l (cs.take i))∧Ext w u,fun _ _ _ x _=>((cs.length:Int) - x).toNat,
  ⟨0,rfl,by omega,rfl,hl2,e2⟩,?_⟩
 rintro a2 l2 c2 x u ⟨i,rfl,hi,rfl,hl,heu⟩
 refine br_dec (fun hlt=>?_) fun hge=>?_
 ·have hi':i<cs.length:=by omega
  have ew:IntKind.i64.wrap ((i:Int)+1)=((i+1:Nat):Int):=w64 (by omega) (by omega)
  simp only [ew]
  have hcs:=hnc _ (List.getElem_mem hi')
  have hlen:=applyL_length l cs i
  refine SliceAt.idx (r:=changeR) (hc.ext heu) rfl hi' fun b o vs _ hrow hR' _=>?_
  obtain ⟨av,cv,rfl,hcv,hbv,_⟩:=changeR_elim hR'
  obtain ⟨G',hG1,hG2⟩:=hl.slice
  refine ⟨_,_,_,_,_,_,_,_,hrow.cells,(carrackref06_one_spec (x:=cs[i]) hG1 (fun b hb=>(hG2 b hb).2) hbv hcs.2 (by omega) (applyL_names hnl hnc i) hcs.1).mono ?_⟩
  rintro _ w₄ ⟨a',c',rfl,hl4,he4⟩
  have hput:oneF cs[i] (applyL l (cs.take i))=applyL l (cs.take (i+1)):=by
   rw [applyL_succ l hi',oneF_put (applyL_sorted hsorted)]
  rw [hput] at hl4 ⊢
  exact ⟨_,_,_,rfl,⟨i+1,rfl,hi',rfl,hl4.weak heu.size fun b hb=>(hG2 b hb).1,heu.trans he4⟩,meas hi'⟩
 ·have hii:i=cs.length:=by omega
  subst hii
  rw [List.take_length] at hl ⊢
  exact hR _ _ ⟨a2,c2,rfl,hl,heu⟩
theorem half {lo hi:Nat} (h:lo+hi<9000000000000000000):IntKind.i64.wrap (Int.fdiv (IntKind.u64.wrap (IntKind.i64.wrap ((lo:Int)+(hi:Int)))) (2 ^ (min (Int.toNat (1:Int)) (IntKind.bits .u64))))=(((lo+hi) / 2:Nat):Int):=by
 have e1:IntKind.i64.wrap ((lo:Int)+(hi:Int))=((lo+hi:Nat):Int):=by rw [w64 (by omega) (by omega)];omega
 have e2:min (Int.toNat (1:Int)) (IntKind.bits .u64)=1:=by decide
 rw [e1,wu64n (by omega),e2]
 have e3:Int.fdiv ((lo+hi:Nat):Int) (2 ^ 1)=(((lo+hi) / 2:Nat):Int):=by
  rw [Int.fdiv_eq_ediv_of_nonneg _ (by decide)];omega
 rw [e3,w64n (by omega)]
theorem sort_Search_spec {n m:Nat} (hm:m≤n) (hn:n<4000000000000000000) {f:Value} {w:World} (hf:∀ u,Ext w u→∀ i,i<n→callT f [.int .i64 i] u fun v u'=>v= .bool (decide (m≤i))∧Ext u u') :
  CallsR prog K.sort_Search #[.int .i64 n,f] w fun v w'=>v= .int .i64 m∧Ext w w':=by
 apply sort_Search.sh
 unfold sort_Search.body
 refine ⟨fun x y u=>∃ lo hi:Nat,x=lo∧y=hi∧lo≤m∧m≤hi∧hi≤n∧Ext w u,fun x y _=>(y - x).toNat,⟨0,n,rfl,rfl,by omega,hm,by omega,Upd.refl _ _⟩,?_⟩
 rintro x y u ⟨lo,hi,rfl,rfl,h1,h2,h3,heu⟩
 refine br_dec (fun hlt=>⟨by decide,?_⟩) fun hge=>⟨by rw [show lo=m by omega],heu⟩
 have hh:=half (lo:=lo) (hi:=hi) (by omega)
 simp only [hh]
 have hmid:(lo+hi) / 2<hi:=by omega
 have hmid2:lo≤(lo+hi) / 2:=by omega
 refine (hf u heu ((lo+hi) / 2) (by omega)).mono ?_
 rintro _ u' ⟨rfl,he'⟩
 have ew:IntKind.i64.wrap ((((lo+hi) / 2:Nat):Int)+1)=(((lo+hi) / 2+1:Nat):Int):=by rw [w64 (by omega) (by omega)];omega
 refine ⟨_,rfl,br_intro (fun hb=>?_) fun hb=>?_⟩
 ·have hb':¬ m≤(lo+hi) / 2:=by simpa using hb
  rw [ew]
  exact ⟨⟨(lo+hi) / 2+1,hi,rfl,rfl,by omega,h2,h3,heu.trans he'⟩,by omega⟩
 ·have hb':m≤(lo+hi) / 2:=by simpa using hb
  exact ⟨⟨lo,(lo+hi) / 2,rfl,rfl,h1,hb',by omega,heu.trans he'⟩,by omega⟩
theorem fact_place_spec {w:World} {G:Nat→Prop} {a:Option Addr} {c:Nat} {l:List Fact} {k:Key} (h:SliceAt factR w G a l) (hs:Sorted l) (hn:l.length<4000000000000000000) :
  CallsR prog K.fact_place #[.slice a l.length c,keyV k] w fun v w'=>v= .tuple #[.int .i64 (placeF l k:Nat),.bool (decide (∃ h:placeF l k<l.length,l[placeF l k].key=k))]∧Ext w w':=by
 apply fact_place.sh
 suffices H:∀ R:Value→World→Prop,(∀ v w',v= .tuple #[.int .i64 (placeF l k:Nat),.bool (decide (∃ h:placeF l k<l.length,l[placeF l k].key=k))]∧Ext w w'→R v w')→fact_place.body a l.length c k.ino k.what.toNat k.name k.chunk w R from H _ fun _ _ h=>h
 intro R hR
 unfold fact_place.body
 intro B1 w₁ hn1 B2 w₂ hn2
 have g1:w₂.heap[B1]?=some (.cells #[.slice a l.length c] T.L_api_Fact (0,0)):=Ext.get hn2.upd hn1.get
 have g2:KeyAt w₂ B2 k:=hn2.get
 have e2:=hn1.upd.trans hn2.upd
 have hm:=placeF_le l k
 refine ⟨_,_,_,cell_of g1 rfl,(sort_Search_spec hm hn fun u hu i hi=>?_).mono ?_⟩
 ·refine ⟨by kernel_rfl,?_⟩
  apply fact_place_1.sh
  unfold fact_place_1.body
  intro w₃ hd3
  have e3:=hu.trans hd3.upd
  refine ⟨fun v=>Ext w₃ v,Upd.refl _ _,_,_,_,fun v hv=>cell_of (Ext.get (e3.trans hv) g1) rfl,?_⟩
  refine SliceAt.idx (r:=factR) (h.ext (e2.trans e3)) rfl hi fun b o vs _ hrow hR' _=>?_
  obtain ⟨_,_,rfl,_,_,_⟩:=factR_elim hR'
  refine ⟨_,_,_,_,fun v hv=>(RowAt.take (hrow.ext hv) 4).cells,_,_,_,_,fun v hv=>key_cells (Ext.get (e3.trans hv) g2),(fact_Before_spec l[i].key k w₃).mono ?_⟩
  rintro _ w₄ ⟨rfl,he4⟩
  refine ⟨_,rfl,he4,?_,hd3.upd.trans he4⟩
  congr 1
  have:=placeF_at hs i hi (k:=k)
  rw [Bool.eq_iff_iff]
  simp only [Bool.not_eq_true',decide_eq_true_eq]
  rw [← Bool.not_eq_true,this]
  omega
 ·rintro _ w₃ ⟨rfl,he3⟩
  refine ⟨_,rfl,fun w₄ hd4=>?_⟩
  have e34:=he3.trans hd4.upd
  refine ⟨fun v=>Ext w₄ v,Upd.refl _ _,_,_,_,fun v hv=>cell_of (Ext.get (e34.trans hv) g1) rfl,br_dec (fun hlt=>?_) fun hge=>?_⟩
  ·have hlt':placeF l k<l.length:=by omega
   refine ⟨_,_,_,fun v hv=>cell_of (Ext.get (e34.trans hv) g1) rfl,SliceAt.idx (r:=factR) (h.ext (e2.trans e34)) rfl hlt' fun b o vs _ hrow hR' _=>?_⟩
   obtain ⟨_,_,rfl,_,_,_⟩:=factR_elim hR'
   refine ⟨_,_,_,_,fun v hv=>(RowAt.take (hrow.ext hv) 4).cells,_,_,_,_,fun v hv=>key_cells (Ext.get (e34.trans hv) g2),hR _ _ ⟨?_,e2.trans e34⟩⟩
   rw [key_beq]
   have hd:decide (l[placeF l k].key=k)=decide (∃ h:placeF l k<l.length,l[placeF l k].key=k):=by
    rw [decide_eq_decide]
    exact ⟨fun h=>⟨hlt',h⟩,fun ⟨_,h⟩=>h⟩
   rw [hd]
  ·refine hR _ _ ⟨?_,e2.trans e34⟩
   rw [decide_eq_false (fun ⟨hx,_⟩=>hge (by omega))]
def spl (C:List Value) (o:Nat) (vs:List Value):List Value:=C.take o ++ vs ++ C.drop (o+vs.length)
theorem spl_length {C:List Value} {o:Nat} {vs:List Value} (h:o+vs.length≤C.length):(spl C o vs).length=C.length:=by
 unfold spl
 simp only [List.length_append,List.length_take,List.length_drop]
 omega
theorem spl_take_at {C:List Value} {o:Nat} {vs:List Value} (h:o≤C.length):(spl C o vs).take (o+vs.length)=C.take o ++ vs:=by
 unfold spl
 have:(C.take o ++ vs).length=o+vs.length:=by simp;omega
 rw [← this,List.take_append_of_le_length (Nat.le_refl _),List.take_length]
theorem spl_take_lo {C:List Value} {o q:Nat} {vs:List Value} (hq:q≤o) (h:o≤C.length):(spl C o vs).take q=C.take q:=by
 unfold spl
 rw [List.append_assoc,List.take_append_of_le_length (by simp;omega),List.take_take]
 congr 1
 omega
theorem spl_drop_at {C:List Value} {o:Nat} {vs:List Value} (h:o≤C.length):(spl C o vs).drop o=vs ++ C.drop (o+vs.length):=by
 unfold spl
 have:(C.take o).length=o:=by simp;omega
 rw [List.append_assoc,List.drop_append,this,List.drop_eq_nil_of_le (by omega)]
 simp
def Full (w:World) (b:Nat) (e:TypeId) (C:List Value):Prop:=w.heap[b]?=some (.cells C.toArray e (0,0))
theorem OwnAt.full {w:World} {b len cap size:Nat} {e:TypeId} {cells:List Value} (h:OwnAt w (some ⟨b,0,none⟩) len cap e size cells):∃ C,Full w b e C∧C.length=cap * size∧C.take (len * size)=cells:=by
 obtain ⟨hl,hc,h⟩:=h
 rcases h with ⟨hx,_⟩| ⟨b',cur,hx,hb,hs,ht⟩
 ·cases hx
 ·cases hx
  exact ⟨cur.toList,by unfold Full;rw [hb],by simpa using hs,ht⟩
theorem Full.own {w:World} {b len cap size:Nat} {e:TypeId} {C:List Value} (h:Full w b e C) (hs:C.length=cap * size) (hl:len≤cap):OwnAt w (some ⟨b,0,none⟩) len cap e size (C.take (len * size)) :=
 ⟨by rw [List.length_take,hs];exact Nat.min_eq_left (Nat.mul_le_mul_right _ hl),hl,.inr ⟨b,C.toArray,rfl,h,by simpa using hs,by simp⟩⟩
theorem Full.row {w:World} {b:Nat} {e:TypeId} {C:List Value} (h:Full w b e C) (o m:Nat):RowAt w (some ⟨b,o,none⟩) ((C.drop o).take m):=by
 refine RowAt.take (RowAt.of h fun j v hj=>?_) m
 rw [List.getElem?_drop] at hj
 simpa using hj
theorem Full.store {w:World} {b:Nat} {e:TypeId} {C:List Value} (h:Full w b e C) {o:Nat} {vs:List Value} (hf:o+vs.length≤C.length) {K:World→Prop} (hk:∀ w',Upd (·=b) w w'→Full w' b e (spl C o vs)→K w'):storeP w ⟨b,o,none⟩ vs K :=
 store_of h (by simpa using hf) fun w' hp=>hk w' hp.upd1 hp.get
theorem slice_any {size b len cap lo hi mx:Nat} {lo' hi' mx':Option Int} (e1:lo'.getD 0=lo) (e2:hi'.getD len=hi) (e3:mx'.getD cap=mx) (h1:lo≤hi) (h2:hi≤mx) (h3:mx≤cap) (h4:mx'.isSome=true→hi'.isSome=true) {K:Option Addr→Nat→Nat→Prop}
  (hk:∀ a,(a=some ⟨b,lo * size,none⟩∨(mx=lo∧a=some ⟨b,0,none⟩))→K a (hi - lo) (mx - lo)):sliceP size (some ⟨b,0,none⟩) len cap lo' hi' mx' K:=by
 unfold sliceP
 rw [e1,e2,e3]
 refine ⟨by omega,by omega,by omega,by omega,by omega,by omega,h4,?_⟩
 simp only [Int.toNat_natCast]
 split
 ·rename_i h;exact hk _ (.inr ⟨h,rfl⟩)
 ·refine hk _ (.inl ?_)
  simp
theorem Full.append_in {w:World} {b:Nat} {e:TypeId} {C:List Value} (h:Full w b e C) {len cap size bytes:Nat} {z:List Value} {x:Value} {m:Nat} {new:List Value} (hC:C.length=cap * size) (hx:lenV x=some m) (hr:readP w size x m new) (hm:new.length=m * size) (h1:∀ v∈new,v.oneCell'=true) (hroom:len+m≤cap)
  {K:Option Addr→Nat→Nat→World→Prop} (hk:∀ w',Upd (·=b) w w'→Full w' b e (spl C (len * size) new)→K (some ⟨b,0,none⟩) (len+m) cap w'):appendP e size bytes z (some ⟨b,0,none⟩) len cap x w K:=by
 refine ⟨m,hx,new,hr,h1,fun _=>?_,fun hg=>absurd hg (by omega)⟩
 simp only [add_lit,Nat.zero_add]
 refine h.store ?_ fun w' hu hf=>hk w' hu hf
 rw [hm,hC,← Nat.add_mul]
 exact Nat.mul_le_mul_right _ hroom
theorem zerosL_ones {z:List Value} (h:∀ v∈z,v.oneCell'=true):∀ n,∀ v∈zerosL z n,v.oneCell'=true
 | 0,v,hv=>by cases hv
 | n+1,v,hv=>by
  simp only [zerosL,List.mem_append] at hv
  rcases hv with hv | hv
  ·exact h v hv
  ·exact zerosL_ones h n v hv
theorem Rows.cut {α:Type} {r:ERep α} {w:World} {G:Nat→Prop} {l:List α} {vs:List Value} (h:Rows r w G vs l) (i:Nat):Rows r w G (vs.take (i * r.k) ++ vs.drop ((i+1) * r.k)) (l.take i ++ l.drop (i+1)):=(Rows.take i h).append (Rows.drop (i+1) h)
theorem Rows.insert {α:Type} {r:ERep α} {w:World} {G:Nat→Prop} {l:List α} {vs us:List Value} {x:α} (h:Rows r w G vs l) (hx:r.R w G us x) (i:Nat):Rows r w G (vs.take (i * r.k) ++ us ++ vs.drop (i * r.k)) (l.take i ++ [x] ++ l.drop i):=((Rows.take i h).append (Rows.single hx)).append (Rows.drop i h)
theorem ListAt.push' {α:Type} {r:ERep α} {Q:Nat→Prop} {S:Nat} {w₀ w₁:World} {H:Nat→Prop} {a:Option Addr} {cap n bytes:Nat} {e:TypeId} {l:List α} {z:List Value} (h:ListAt r Q S w₁ a cap e l) {B:Nat} {x:α} {cs:Array Value} (hx:r.R w₁ H cs.toList x) (hH:∀ b,H b→(S≤b∨Q b)∧b<w₁.heap.size∧a≠some ⟨b,0,none⟩) (hn:New w₀ (.cells cs e) B w₁) (hnl:n=l.length)
  (hz:z.length=r.k) (hb:l.length≤1000000000) (hby:bytes≤10000) (hS:S≤w₁.heap.size) {K:Option Addr→Nat→Nat→World→Prop}
  (hk:∀ a' c' w',Upd (fun b=>a=some ⟨b,0,none⟩) w₁ w'→ListAt r Q S w' a' c' e (l ++ [x])→K a' (l ++ [x]).length c' w') :
  appendP e r.k bytes z a n cap (.slice (some ⟨B,0,none⟩) 1 1) w₁ K:=by
 obtain ⟨G,h1,h2,h3⟩:=h
 have hG:∀ b,G b∨H b→(S≤b∨Q b)∧b<w₁.heap.size:=fun b hb=>by
  rcases hb with hb | hb
  ·exact h2 b hb
  ·exact ⟨(hH b hb).1,(hH b hb).2.1⟩
 have hno:∀ b,a=some ⟨b,0,none⟩→¬ (G b∨H b):=fun b hb hb'=>by
  rcases hb' with hb' | hb'
  ·exact (h3 b hb).2 hb'
  ·exact (hH b hb').2.2 hb
 refine OwnS.push (G:=fun b=>G b∨H b) (h1.mono fun _ hb=>.inl hb) (r.mono hx fun _ hb=>.inr hb) hn hnl hz hb hby hno fun a' c' w' hu ho hf=>?_
 refine hk a' c' w' hu ⟨_,ho,fun b hb=>⟨(hG b hb).1,Nat.lt_of_lt_of_le (hG b hb).2 hu.size⟩,fun b hb=>?_⟩
 rcases hf with hf | ⟨b',hb',hl⟩
 ·subst hf;exact ⟨(h3 b hb).1,hno b hb⟩
 ·rw [hb'] at hb
  cases hb
  exact ⟨Nat.le_trans hS hl,fun hb=>absurd (hG _ hb).2 (by omega)⟩
theorem Upd.over {F F':Nat→Prop} {a b c:World} (h:Upd F a b) (k:Upd F' b c) (hF:∀ x,F' x→F x∨a.heap.size≤x):Upd F a c :=
 ⟨Nat.le_trans h.size k.size,fun i hi hf=>(k.blk i (Nat.lt_of_lt_of_le hi h.size) (fun hx=>by rcases hF i hx with h | h;exact hf h;omega)).trans (h.blk i hi hf),k.os.trans h.os,k.tape.trans h.tape,k.output.trans h.output,fun b o hb ho=>k.book b o (h.book b o hb ho) ho⟩
section
def U8 (w:World) (a:Option Addr) (c:Nat):Prop:=c=0∨∃ b cur,c<9223372036854775808∧a=some ⟨b,0,none⟩∧w.heap[b]?=some (.cells cur T.uint8 (0,0))∧c≤cur.size∧∀ v∈cur.toList,∃ x:Int,v= .int .u8 x
theorem U8.upd {F:Nat→Prop} {w w':World} {a:Option Addr} {c:Nat} (h:U8 w a c) (k:Upd F w w') (hf:∀ p,a=some p→¬ F p.block):U8 w' a c:=by
 rcases h with h | ⟨b,cur,hc,rfl,hb,hs,hv⟩
 ·exact .inl h
 ·exact .inr ⟨b,cur,hc,rfl,k.get hb (hf _ rfl),hs,hv⟩
theorem U8.cellsLe {w w':World} {a:Option Addr} {c:Nat} (h:U8 w a c) (k:CellsLe w w'):U8 w' a c:=by
 rcases h with h | ⟨b,cur,hc,rfl,hb,hs,hv⟩
 ·exact .inl h
 ·exact .inr ⟨b,cur,hc,rfl,k.get _ _ _ _ hb,hs,hv⟩
def OwnB (w:World) (a:Option Addr) (c:Nat) (l:List UInt8):Prop:=OwnAt w a l.length c T.uint8 1 (l.map bv)∧U8 w a c
section
variable {w w':World} {a:Option Addr} {c:Nat} {l:List UInt8}
theorem OwnB.upd {F:Nat→Prop} (h:OwnB w a c l) (k:Upd F w w') (hf:∀ b,a=some ⟨b,0,none⟩→¬ F b):OwnB w' a c l:=by
 refine ⟨h.1.upd k hf,h.2.upd k fun p hp=>?_⟩
 obtain ⟨⟨_,_,hx⟩,_⟩:=h
 rcases hx with ⟨hx,_⟩| ⟨b,_,hx,_⟩
 ·rw [hx] at hp;cases hp
 ·rw [hx] at hp;cases hp;exact hf b hx
theorem OwnB.ext (h:OwnB w a c l) (k:Ext w w'):OwnB w' a c l:=h.upd k fun _ _ hf=>hf
theorem OwnB.cellsLe (h:OwnB w a c l) (k:CellsLe w w'):OwnB w' a c l:=⟨h.1.cellsLe k,h.2.cellsLe k⟩
theorem OwnB.row (h:OwnB w a c l):BytesAt w a l:=h.1.row
theorem OwnB.blk (h:OwnB w a c l) {b:Nat} (ha:a=some ⟨b,0,none⟩):b<w.heap.size:=h.1.blk ha
theorem OwnB.at_ (h:OwnB w a c l) {p:Addr} (hp:a=some p):a=some ⟨p.block,0,none⟩:=by
 obtain ⟨⟨_,_,hx⟩,_⟩:=h
 rcases hx with ⟨hx,_⟩| ⟨b,_,hx,_⟩
 ·rw [hx] at hp;cases hp
 ·rw [hx] at hp ⊢;cases hp;rfl
end
theorem zeros_u8:∀ n,∀ v∈zerosL [Value.int .u8 0] n,∃ x:Int,v= .int .u8 x
 | 0,v,hv=>by cases hv
 | n+1,v,hv=>by
  simp only [zerosL,List.mem_append] at hv
  rcases hv with hv | hv
  ·exact ⟨0,by simpa using hv⟩
  ·exact zeros_u8 n v hv
theorem append_fresh {w:World} {a:Option Addr} (h:a=none∨∃ b,a=some ⟨b,0,none⟩∧w.heap[b]?=some (.cells #[] T.uint8 (0,0))) {ax:Option Addr} {xs:List UInt8} {cx:Nat} (hx:BytesAt w ax xs) (hb:xs.length≤140737488355232) {K:Option Addr→Nat→Nat→World→Prop}
  (hk:∀ a' c' w',Upd (fun b=>a=some ⟨b,0,none⟩) w w'→OwnB w' a' c' xs→(a'=a∨∃ b,a'=some ⟨b,0,none⟩∧w.heap.size≤b)→K a' xs.length c' w') :
  appendP T.uint8 1 1 [Value.int .u8 0] a 0 0 (.slice ax xs.length cx) w K:=by
 refine ⟨xs.length,rfl,xs.map bv,read_row hx (by simp),oneCell_bytes,fun hroom=>?_,fun hgrow=>⟨by omega,?_,[],read_row (RowAt.nil _ _) rfl,?_⟩⟩
 ·have hn:xs=[]:=List.eq_nil_of_length_eq_zero (by omega)
  subst hn
  rcases h with rfl | ⟨b,rfl,hbk⟩
  ·exact hk none 0 w (Upd.refl _ _) ⟨OwnAt.nil _ _ _,.inl rfl⟩ (.inl rfl)
  ·simp only [add_lit,Nat.zero_mul,Nat.zero_add]
   refine store_of hbk (by simp) fun w' hput=>hk _ 0 w' (hput.upd1.mono fun x _ hx=>by rw [hx]) ⟨⟨rfl,Nat.le_refl _,.inr ⟨b,_,rfl,hput.get,by simp [splice],by simp [splice]⟩⟩,.inl rfl⟩ (.inl rfl)
 ·have hg:0<0+xs.length:=by omega
  refine Nat.le_trans (Nat.mul_le_mul_right _ (nextcap_le hg)) ?_
  omega
 ·intro cap' b w' hcap hcap2 hnew
  have e1:Ext w w':=(drew_upd w).trans hnew.upd
  have:=hk (some ⟨b,0,none⟩) cap' w' (Upd.ext e1) ⟨⟨by simp,by omega,.inr ⟨b,_,rfl,hnew.get,?_,?_⟩⟩,.inr ⟨b,_,hcap2,rfl,hnew.get,?_,fun v hv=>?_⟩⟩ (.inr ⟨b,rfl,by rw [hnew.num];exact Nat.le_refl _⟩)
  ·simpa using this
  ·simp [zerosL_length]
   omega
  ·have hl:((xs.map bv)).length=xs.length * 1:=by simp
   simp only [List.nil_append]
   rw [← hl,List.take_append_of_le_length (Nat.le_refl _),List.take_length]
  ·simp [zerosL_length]
   omega
  ·simp only [List.nil_append,List.mem_append] at hv
   rcases hv with hv | hv
   ·obtain ⟨y,_,rfl⟩:=List.mem_map.1 hv
    exact ⟨_,rfl⟩
   ·exact zeros_u8 _ v hv
theorem slices_Clone_byte_own {a:Option Addr} {l:List UInt8} {c:Nat} {w:World} (h:BytesAt w a l) (hn:l.length≤140737488355232) :
  CallsR prog K.slices_Clone_byte #[.slice a l.length c] w fun v w'=>Ext w w'∧∃ a' c',v= .slice a' l.length c'∧OwnB w' a' c' l∧Fresh w a':=by
 apply slices_Clone_byte.sh
 unfold slices_Clone_byte.body
 refine br_intro (fun ha=>?_) fun ha=>?_
 ·have:a=none:=by simpa using ha
  subst this
  have:l=[]:=by
   rcases h with h | ⟨b,o,cur,T,fr,h,_⟩
   ·simpa using h
   ·cases h
  subst this
  exact ⟨Upd.refl _ _,none,0,rfl,⟨OwnAt.nil _ _ _,.inl rfl⟩,Fresh.none _⟩
 ·intro B w₁ hnew
  have hB:w.heap.size=B:=by rw [hnew.num]
  refine append_fresh (.inr ⟨B,rfl,hnew.get⟩) (h.ext hnew.upd) hn fun a' c' w₂ hu ho' hf=>?_
  refine ⟨Upd.beyond hnew.upd hu fun x hx=>by cases hx;omega,a',c',rfl,ho',?_⟩
  rcases hf with rfl | ⟨b,rfl,hb⟩
  ·exact Fresh.some (by omega)
  ·exact Fresh.some (by have:=hnew.size;omega)
def bytesF:ERep (List UInt8) where
 k:=1
 R:=fun w G vs x=>∃ a c,vs=[.slice a x.length c]∧x.length≤c∧BytesAt w a x∧U8 w a c∧∀ p,a=some p→G p.block
 pos:=Nat.le_refl _
 len:=fun ⟨a,c,e,_⟩=>by rw [e];rfl
 one:=fun ⟨a,c,e,_⟩=>by
  rw [e]
  intro v hv
  simp at hv
  rw [hv];rfl
 upd:=fun {w w' F G vs x} ⟨a,c,e,hc,hb,hu,hg⟩ k hf=>⟨a,c,e,hc,BytesAt.updM hb k (fun _ p hp=>hg p hp) hf,hu.upd k fun p hp=>hf _ (hg p hp),hg⟩
 mono:=fun ⟨a,c,e,hc,hb,hu,hg⟩ hh=>⟨a,c,e,hc,hb,hu,fun p hp=>hh _ (hg p hp)⟩
 cells:=fun ⟨a,c,e,hc,hb,hu,hg⟩ k=>⟨a,c,e,hc,RowAt.cellsLe hb k,hu.cellsLe k,hg⟩
def factF:ERep Fact:=ERep.pair keyR bytesF (fun x:Fact=>x.key) (fun x=>x.val)
theorem factF_intro {w:World} {G:Nat→Prop} {x:Fact} {a:Option Addr} {c:Nat} (h:OwnB w a c x.val) (hg:∀ p,a=some p→G p.block):factF.R w G (factVs x.key a x.val.length c) x :=
 ⟨x.key.vals,[.slice a x.val.length c],rfl,rfl,a,c,rfl,h.1.2.1,h.row,h.2,hg⟩
theorem factF_elim {w:World} {G:Nat→Prop} {x:Fact} {vs:List Value} (h:factF.R w G vs x):∃ a c,vs=factVs x.key a x.val.length c∧U8 w a c∧∀ p,a=some p→G p.block:=by
 obtain ⟨u,v,rfl,hu,a,c,hs,_,_,hc,hg⟩:=h
 have hu':u=x.key.vals:=hu
 have hs':v=[.slice a x.val.length c]:=hs
 subst hu';subst hs'
 exact ⟨a,c,rfl,hc,hg⟩
theorem factF_weak {w:World} {G:Nat→Prop} {x:Fact} {vs:List Value} (h:factF.R w G vs x):factR.R w G vs x:=by
 obtain ⟨u,v,rfl,hu,a,c,hs,h1,h2,_,hg⟩:=h
 exact ⟨u,v,rfl,hu,a,c,hs,h1,h2,fun _=>hg⟩
def changeF:ERep Change:=ERep.pair keyR (ERep.pair bytesF boolR (fun x:List UInt8×Bool=>x.1) (fun x=>x.2)) (fun x:Change=>x.key) (fun x=>(x.val,x.gone))
theorem changeF_intro {w:World} {G:Nat→Prop} {x:Change} {a:Option Addr} {c:Nat} (h:OwnB w a c x.val) (hg:∀ p,a=some p→G p.block) :
  changeF.R w G (changeVs x.key a x.val.length c x.gone) x:=⟨x.key.vals,[.slice a x.val.length c,.bool x.gone],rfl,rfl,[.slice a x.val.length c],[.bool x.gone],rfl,⟨a,c,rfl,h.1.2.1,h.row,h.2,hg⟩,rfl⟩
theorem changeF_elim {w:World} {G:Nat→Prop} {x:Change} {vs:List Value} (h:changeF.R w G vs x):∃ a c,vs=changeVs x.key a x.val.length c x.gone∧U8 w a c∧∀ p,a=some p→G p.block:=by
 obtain ⟨u,v,rfl,hu,s,t,rfl,⟨a,c,hs,_,_,hc,hg⟩,ht⟩:=h
 have hu':u=x.key.vals:=hu
 have ht':t=[.bool x.gone]:=ht
 subst hu';subst ht'
 have hs':s=[.slice a x.val.length c]:=hs
 subst hs'
 exact ⟨a,c,rfl,hc,hg⟩
theorem changeF_weak {w:World} {G:Nat→Prop} {x:Change} {vs:List Value} (h:changeF.R w G vs x):changeR.R w G vs x:=by
 obtain ⟨u,v,rfl,hu,s,t,rfl,⟨a,c,hs,h1,h2,_,hg⟩,ht⟩:=h
 exact ⟨u,_,rfl,hu,s,t,rfl,⟨a,c,hs,h1,h2,fun _=>hg⟩,ht⟩
section
variable {α:Type} {r s:ERep α} {w:World} {G:Nat→Prop}
theorem Rows.weak (hk:∀ w G vs x,r.R w G vs x→s.R w G vs x):∀ {l:List α} {vs:List Value},Rows r w G vs l→Rows s w G vs l
 | [],vs,h=>h
 | x :: l,vs,⟨u,t,e,hu,ht⟩=>⟨u,t,e,hk _ _ _ _ hu,Rows.weak hk ht⟩
theorem SliceAt.weak (hk:∀ w G vs x,r.R w G vs x→s.R w G vs x) {a:Option Addr} {l:List α} (h:SliceAt r w G a l):SliceAt s w G a l:=by
 obtain ⟨vs,h1,h2,h3⟩:=h
 exact ⟨vs,h1,Rows.weak hk h2,h3⟩
theorem OwnS.weak (hk:∀ w G vs x,r.R w G vs x→s.R w G vs x) (e:r.k=s.k) {a:Option Addr} {cap:Nat} {T:TypeId} {l:List α} (h:OwnS r w G a cap T l):OwnS s w G a cap T l:=by
 obtain ⟨vs,h1,h2⟩:=h
 exact ⟨vs,e ▸ h1,Rows.weak hk h2⟩
theorem ListAt.toWeak (hk:∀ w G vs x,r.R w G vs x→s.R w G vs x) (e:r.k=s.k) {Q:Nat→Prop} {S:Nat} {a:Option Addr} {cap:Nat} {T:TypeId} {l:List α} (h:ListAt r Q S w a cap T l):ListAt s Q S w a cap T l:=by
 obtain ⟨G,h1,h2,h3⟩:=h
 exact ⟨G,h1.weak hk e,h2,h3⟩
end
end
theorem fact_own_spec (a:Option Addr) (n c:Nat) (w:World):CallsR prog K.fact_own #[.slice a n c] w fun v w'=>∃ B,v= .func (.func K.fact_own_1) #[] #[.pointer (some ⟨B,0,none⟩)]∧New w (.cells #[.slice a n c] T.L_api_Fact) B w':=by
 apply fact_own.sh
 unfold fact_own.body
 intro B w1 hn
 exact ⟨B,rfl,hn⟩
theorem key4 {w:World} {b:Nat} {cs:Array Value} {T:TypeId} {k:Key} (h:w.heap[b]?=some (.cells cs T (0,0))) (hc:cs.toList.take 4=[.int .i64 k.ino,bv k.what,.string k.name,.int .i64 k.chunk]):cellsAt w ⟨b,0,none⟩ [.int .i64 k.ino,bv k.what,.string k.name,.int .i64 k.chunk] 0:=by
 refine cellsAt_of h fun j v hj=>?_
 rw [← hc,List.getElem?_take] at hj
 split at hj
 ·simpa using hj
 ·cases hj
theorem fact_own_1_spec {w:World} {B l:Nat} {a:Option Addr} {c:Nat} {fs:List Fact} {J:Nat→World→Prop} (hn:fs.length<4000000000000000000)
  (hB:∀ i W,J i W→W.heap[B]?=some (.cells #[.slice a fs.length c] T.L_api_Fact (0,0)))
  (hfs:∀ i W,J i W→∃ G,SliceAt factR W G a fs) (hval:∀ f∈fs,f.val.length≤140737488355232)
  (hJ:∀ i W W',J i W→Ext W W'→J i W')
  (hY:∀ (i:Nat) (hi:i<fs.length) (W W':World) (av:Option Addr) (cv:Nat),J i W→Ext W W'→OwnB W' av cv fs[i].val→Fresh W av→
   yieldP prog l [.agg #[.int .i64 fs[i].key.ino,bv fs[i].key.what,.string fs[i].key.name,.int .i64 fs[i].key.chunk,.slice av fs[i].val.length cv]] W' fun v w'=>v= .bool true∧J (i+1) w'∧∀ b,W.heap.size≤b→b<W'.heap.size→w'.heap[b]?=W'.heap[b]?)
  (h0:J 0 w):CallsR prog K.fact_own_1 #[.func (.yield l) #[] #[],.pointer (some ⟨B,0,none⟩)] w fun _ w'=>J fs.length w':=by
 apply fact_own_1.sh
 suffices H:∀ R:Value→World→Prop,(∀ v w',J fs.length w'→R v w')→fact_own_1.body (.func (.yield l) #[] #[]) ⟨B,0,none⟩ w R from H _ fun _ _ h=>h
 intro R hR
 unfold fact_own_1.body
 refine ⟨_,_,_,cell_of (hB 0 w h0) rfl,fun x u=>∃ i:Nat,x=i∧i≤fs.length∧J i u,fun x _=>((fs.length:Int) - x).toNat,⟨0,rfl,by omega,h0⟩,?_⟩
 rintro x u ⟨i,rfl,hi,hj⟩
 refine br_dec (fun hlt=>?_) fun hge=>?_
 ·have hi':i<fs.length:=by omega
  have ew:IntKind.i64.wrap ((i:Int)+1)=((i+1:Nat):Int):=w64 (by omega) (by omega)
  simp only [ew]
  obtain ⟨G,hs⟩:=hfs i u hj
  refine SliceAt.idx (r:=factR) hs rfl hi' fun b o vs _ hrow hR' _=>?_
  obtain ⟨av,cv,rfl,hcv,hbv,hg⟩:=factR_elim hR'
  refine ⟨_,_,_,_,_,_,_,hrow.cells,new_put rfl fun B1 w3 hB1 hs3 e3 g3=>?_⟩
  intro w4 hd4
  have g4:=Ext.get hd4.upd g3
  have e4:Ext u w4:=e3.trans hd4.upd
  refine ⟨fun v=>v.heap[B1]?=some (.cells #[.int .i64 fs[i].key.ino,bv fs[i].key.what,.string fs[i].key.name,.int .i64 fs[i].key.chunk,.slice av fs[i].val.length cv] T.api_Fact (0,0)),g4,fs[i].key.ino,(fs[i].key.what.toNat:Int),fs[i].key.name,fs[i].key.chunk,fun v hv=>key4 hv rfl,_,_,_,fun v hv=>cell_of hv rfl,?_⟩
  refine (slices_Clone_byte_own (c:=cv) (RowAt.ext hbv e4) (hval _ (List.getElem_mem hi'))).mono ?_
  rintro _ w5 ⟨he5,av',cv',rfl,ho5,hf5⟩
  refine ⟨_,_,_,rfl,Ext.get he5 g4,rfl,rfl,?_⟩
  have hy:=hY i hi' u w5 av' cv' hj (e4.trans he5) ho5 (hf5.mono e4.size)
  intro F m hF
  obtain ⟨fn,tmps,ac,bd,h1,h2⟩:=hy F m hF
  refine ⟨fn,tmps,ac,bd,h1,h2.mono fun e w6 he=>?_⟩
  obtain ⟨v,rfl,rfl,hj',hkeep⟩:=he
  have g6:=(hkeep B1 (by omega) (by have:=he5.size;have:=hd4.upd.size;omega)).trans (Ext.get he5 g4)
  exact ⟨_,rfl,_,rfl,g6,⟨i+1,rfl,hi',hj'⟩,meas hi'⟩
 ·have:i=fs.length:=by omega
  subst this
  exact hR _ _ hj
theorem delete_cells {C cells new zs:List Value} {p q:Nat} (hp:p≤C.length) (hq:q=p+new.length) (hq2:q≤C.length):(spl (spl C p new) q zs).take q=C.take p ++ new:=by
 have hl:(spl C p new).length=C.length:=spl_length (by omega)
 rw [spl_take_lo (Nat.le_refl _) (by omega),hq,spl_take_at hp]
theorem slices_Delete_spec {w:World} {G:Nat→Prop} {b cap:Nat} {l:List Fact} {i:Nat} (h:OwnS factF w G (some ⟨b,0,none⟩) cap T.api_Fact l) (hG:¬ G b) (hi:i<l.length) (hn:l.length≤1000000000) :
  CallsR prog K.slices_Delete_api_Fact #[.slice (some ⟨b,0,none⟩) l.length cap,.int .i64 i,.int .i64 ((i+1:Nat):Int)] w fun v w'=>v= .slice (some ⟨b,0,none⟩) (l.length - 1) cap∧OwnS factF w' G (some ⟨b,0,none⟩) cap T.api_Fact (l.take i ++ l.drop (i+1))∧Upd (·=b) w w':=by
 obtain ⟨vs,ho,hr⟩:=h
 have hcap:=ho.2.1
 obtain ⟨C,hC,hCl,hCt⟩:=ho.full
 have hvl:=Rows.len hr
 have hk5:factF.k=5:=rfl
 rw [hk5] at hCl hCt hvl
 apply slices_Delete_api_Fact.sh
 suffices H:∀ R:Value→World→Prop,(∀ v w',v= .slice (some ⟨b,0,none⟩) (l.length - 1) cap∧OwnS factF w' G (some ⟨b,0,none⟩) cap T.api_Fact (l.take i ++ l.drop (i+1))∧Upd (·=b) w w'→R v w')→
   slices_Delete_api_Fact.body (some ⟨b,0,none⟩) l.length cap i ((i+1:Nat):Int) w R from H _ fun _ _ h=>h
 intro R hR
 unfold slices_Delete_api_Fact.body
 refine slice_any (lo:=i) (hi:=i+1) (mx:=l.length) (by simp) (by simp) (by simp) (by omega) (by omega) (by omega) (by simp) fun a0 _=>?_
 refine br_eq (fun e=>by omega) fun _=>?_
 intro w1 hd1
 have hC1:Full w1 b T.api_Fact C:=Ext.get hd1.upd hC
 refine ⟨fun v=>Ext w1 v,Upd.refl _ _,?_⟩
 refine slice_any (lo:=0) (hi:=i) (mx:=cap) (by simp) (by simp) (by simp) (by omega) (by omega) (by omega) (by simp) fun a2 ha2=>?_
 have ha2:a2=some ⟨b,0,none⟩:=by rcases ha2 with h | ⟨_,h⟩<;>simpa using h
 subst ha2
 refine slice_any (lo:=i+1) (hi:=l.length) (mx:=cap) (by simp) (by simp) (by simp) (by omega) (by omega) (by omega) (by simp) fun a3 ha3=>?_
 have hnewl:((C.drop ((i+1) * 5)).take ((l.length - (i+1)) * 5)).length=(l.length - (i+1)) * 5:=by rw [List.length_take,List.length_drop,hCl];omega
 have hrow:RowAt w1 a3 ((C.drop ((i+1) * 5)).take ((l.length - (i+1)) * 5)):=by
  rcases ha3 with rfl | ⟨h0,rfl⟩
  ·exact hC1.row _ _
  ·have:l.length - (i+1)=0:=by omega
   rw [this]
   exact RowAt.nil _ _
 have hone:∀ v∈(C.drop ((i+1) * 5)).take ((l.length - (i+1)) * 5),v.oneCell'=true:=by
  have e:(C.drop ((i+1) * 5)).take ((l.length - (i+1)) * 5)=vs.drop ((i+1) * 5):=by
   rw [← hCt,List.drop_take]
   congr 1
   omega
  rw [e]
  intro v hv
  exact Rows.one hr v (List.mem_of_mem_drop hv)
 simp only [Nat.sub_zero]
 refine hC1.append_in hCl rfl (read_row hrow hnewl) hnewl hone (by omega) fun w2 hu2 hC2=>?_
 have hl4:i+(l.length - (i+1))=l.length - 1:=by omega
 rw [hl4]
 refine slice_any (lo:=l.length - 1) (hi:=l.length) (mx:=cap) (by simp) (by simp) (by simp) (by omega) (by omega) (by omega) (by simp) fun a5 ha5=>?_
 have ha5:a5=some ⟨b,(l.length - 1) * 5,none⟩:=by
  rcases ha5 with h | ⟨h,_⟩
  ·exact h
  ·omega
 subst ha5
 have e1:l.length - (l.length - 1)=1:=by omega
 rw [e1]
 have hsl:(spl C (i * 5) ((C.drop ((i+1) * 5)).take ((l.length - (i+1)) * 5))).length=C.length:=spl_length (by omega)
 refine ⟨by decide,hC2.store (by rw [hsl];simp [zerosL];omega) fun w3 hu3 hC3=>hR _ _ ⟨rfl,?_,?_⟩⟩
 ·have hlen2:(l.take i ++ l.drop (i+1)).length=l.length - 1:=by simp;omega
  refine ⟨_,by rw [hlen2];exact hC3.own (len:=l.length - 1) (by rw [spl_length (by rw [hsl];simp [zerosL];omega),hsl,hCl];rfl) (by omega),?_⟩
  have e2:=fun zs=>delete_cells (C:=C) (cells:=vs) (new:=(C.drop ((i+1) * 5)).take ((l.length - (i+1)) * 5)) (zs:=zs) (p:=i * 5) (q:=(l.length - 1) * 5) (by omega) (by rw [hnewl];omega) (by omega)
  rw [hk5,e2]
  have e3:C.take (i * 5) ++ (C.drop ((i+1) * 5)).take ((l.length - (i+1)) * 5)=vs.take (i * 5) ++ vs.drop ((i+1) * 5):=by
   rw [← hCt,List.take_take,List.drop_take,Nat.min_eq_left (by omega)]
   congr 2
   omega
  rw [e3]
  have:=Rows.upd (hd1.upd.ext.trans (hu2.trans hu3)) (fun x hx hb=>hG (by rw [← hb];exact hx)) (Rows.cut hr i)
  exact this
 ·exact (Upd.ext hd1.upd).trans (hu2.trans hu3)
theorem overlaps_apart {w:World} {B b o:Nat} {cs:Array Value} {C:List Value} {lb cb:Nat} (hB:w.heap[B]?=some (.cells cs T.api_Fact (0,0))) (hb:Full w b T.api_Fact C) (hne:B≠b) (hC:C.length≠0) :
  extV prog 132 [.slice (some ⟨B,0,none⟩) 1 1,.slice (some ⟨b,o,none⟩) lb cb] w (.bool false):=by
 unfold extV
 have hb':w.heap[b]?=some (.cells C.toArray T.api_Fact (0,0)):=hb
 rw [run_callFunc_extern (P:=prog) Go.Proofs.Tryz.func132 (by kernel_rfl) (by kernel_rfl) (by kernel_rfl) (e:=Extern.SlicesOverlaps.overlaps #[T.L_api_Fact,T.L_api_Fact] #[T.bool]) (by kernel_rfl)]
 have:=Lib.run_overlaps_apart (P:=prog) w T.L_api_Fact T.bool T.api_Fact (by kernel_rfl) 5 (run_sizeOf' (by kernel_rfl:sizeT prog T.api_Fact=some 5)) ⟨B,0,none⟩ ⟨b,o,none⟩ 1 1 lb cb hne T.api_Fact T.api_Fact cs.size C.toArray.size
  (by simp [World.shape?,hB]) (by simp [World.shape?,hb']) (by simpa using hC) (by simp [World.frozen?,hB]) (by simp [World.frozen?,hB])
 rw [show ([Value.slice (some ⟨B,0,none⟩) 1 1,Value.slice (some ⟨b,o,none⟩) lb cb]:List Value).toArray=#[Value.slice (some ⟨B,0,none⟩) 1 1,Value.slice (some ⟨b,o,none⟩) lb cb] from rfl,this]
 rfl
theorem insert_cells {C mid X:List Value} {p:Nat} (hp:p+X.length+mid.length≤C.length):(spl (spl C (p+X.length) mid) p X).take (p+X.length+mid.length)=C.take p ++ X ++ mid:=by
 have h1:(spl C (p+X.length) mid).length=C.length:=spl_length (by omega)
 unfold spl
 have e1:=spl_take_lo (C:=C) (vs:=mid) (o:=p+X.length) (q:=p) (by omega) (by omega)
 have e2:=spl_drop_at (C:=C) (vs:=mid) (o:=p+X.length) (by omega)
 unfold spl at e1 e2
 rw [e1,e2,← List.append_assoc]
 have:(C.take p ++ X ++ mid).length=p+X.length+mid.length:=by simp;omega
 rw [← this,List.take_append_of_le_length (Nat.le_refl _),List.take_length]
theorem insert_cells2 {C mid X:List Value} {p:Nat} (hp:p+X.length+mid.length≤C.length):(spl (spl C p X) (p+X.length) mid).take (p+X.length+mid.length)=C.take p ++ X ++ mid:=by
 have h1:(spl C p X).length=C.length:=spl_length (by omega)
 rw [spl_take_at (by omega),spl_take_at (by omega)]
theorem copy_full {w:World} {b:Nat} {e:TypeId} {C:List Value} (h:Full w b e C) {size o dLen n m:Nat} {x:Value} {new:List Value} (hx:lenV x=some n) (hm:min n dLen=m) (hr:readP w size x m new) (h1:∀ v∈new,v.oneCell'=true) (hf:o+new.length≤C.length) {K:Int→World→Prop}
  (hk:∀ w',Upd (·=b) w w'→Full w' b e (spl C o new)→K (m:Nat) w'):copyP size (some ⟨b,o,none⟩) dLen x w K:=by
 subst hm
 exact ⟨n,hx,new,hr,h1,h.store hf fun w' hu hf'=>hk w' hu hf'⟩
theorem slices_Insert_spec {w₀ w:World} {G:Nat→Prop} {a:Option Addr} {cap:Nat} {l:List Fact} {i B:Nat} {cs:Array Value} {x:Fact} (h:OwnS factF w G a cap T.api_Fact l) (hG:∀ b,a=some ⟨b,0,none⟩→¬ G b) (hx:factF.R w G cs.toList x) (hn:New w₀ (.cells cs T.api_Fact) B w) (hB:a≠some ⟨B,0,none⟩) (hi:i≤l.length) (hl:l.length≤200000000) :
  CallsR prog K.slices_Insert_api_Fact #[.slice a l.length cap,.int .i64 i,.slice (some ⟨B,0,none⟩) 1 1] w fun v w'=>∃ a' c',v= .slice a' (l.length+1) c'∧OwnS factF w' G a' c' T.api_Fact (l.take i ++ [x] ++ l.drop i)∧Upd (fun b=>a=some ⟨b,0,none⟩) w w'∧(a'=a∨∃ b,a'=some ⟨b,0,none⟩∧w.heap.size≤b):=by
 apply slices_Insert_api_Fact.sh
 suffices H:∀ R:Value→World→Prop,(∀ v w',(∃ a' c',v= .slice a' (l.length+1) c'∧OwnS factF w' G a' c' T.api_Fact (l.take i ++ [x] ++ l.drop i)∧Upd (fun b=>a=some ⟨b,0,none⟩) w w'∧(a'=a∨∃ b,a'=some ⟨b,0,none⟩∧w.heap.size≤b))→R v w')→
   slices_Insert_api_Fact.body a l.length cap i (some ⟨B,0,none⟩) 1 1 w R from H _ fun _ _ h=>h
 intro R hR
 unfold slices_Insert_api_Fact.body
 have hcap:=h.cap
 have hXl:=factF.len hx
 have hk5:factF.k=5:=rfl
 rw [hk5] at hXl
 refine ⟨by simp,by simp,by simp<;>omega,by simp<;>omega,by simp,by simp<;>omega,by simp,?_⟩
 refine br_eq (fun e=>by simp at e) fun _=>?_
 by_cases hil:i=l.length
 ·subst hil
  refine br_eq (fun _=>?_) fun e=>absurd rfl e
  refine OwnS.push (r:=factF) h hx hn rfl rfl (by omega) (by omega) hG fun a' c' w' hu ho hf=>?_
  rw [List.take_length,List.drop_length,List.append_nil] at hR
  rw [List.length_append]
  exact hR _ _ ⟨a',c',rfl,ho,hu,hf⟩
 ·refine br_eq (fun e=>absurd (by omega) hil) fun _=>?_
  have hi':i<l.length:=by omega
  obtain ⟨vs,ho,hr⟩:=h
  obtain ⟨b,rfl⟩: ∃ b,a=some ⟨b,0,none⟩:=by
   obtain ⟨_,_,hx⟩:=ho
   rcases hx with ⟨_,h0,_⟩| ⟨b,_,h,_⟩
   ·omega
   ·exact ⟨b,h⟩
  have hbs:=ho.blk rfl
  have hGb:=hG b rfl
  have hBb:B≠b:=fun e=>hB (by rw [e])
  obtain ⟨C,hC,hCl,hCt⟩:=ho.full
  have hvl:=Rows.len hr
  rw [hk5] at hCl hCt hvl
  have hw1:IntKind.i64.wrap ((l.length:Int)+((1:Nat):Int))=((l.length+1:Nat):Int):=by rw [w64 (by omega) (by omega)];omega
  have hw2:IntKind.i64.wrap ((i:Int)+((1:Nat):Int))=((i+1:Nat):Int):=by rw [w64 (by omega) (by omega)];omega
  simp only [hw1,hw2]
  have hrowX:∀ u,Upd (fun x=>x≠B) w u→RowAt u (some ⟨B,0,none⟩) cs.toList:=fun u hu=>RowAt.of (hu.get hn.get (by simp)) fun j v hj=>by simpa using hj
  have hmid:∀ u,Full u b T.api_Fact C→RowAt u (some ⟨b,i * 5,none⟩) ((C.drop (i * 5)).take ((l.length - i) * 5)):=fun u hu=>hu.row _ _
  have hmidl:((C.drop (i * 5)).take ((l.length - i) * 5)).length=(l.length - i) * 5:=by rw [List.length_take,List.length_drop,hCl];omega
  have hmidv:(C.drop (i * 5)).take ((l.length - i) * 5)=vs.drop (i * 5):=by
   rw [← hCt,List.drop_take]
   congr 1
   omega
  have hmid1:∀ v∈(C.drop (i * 5)).take ((l.length - i) * 5),v.oneCell'=true:=by
   rw [hmidv]
   intro v hv
   exact Rows.one hr v (List.mem_of_mem_drop hv)
  have hlen2:(l.take i ++ [x] ++ l.drop i).length=l.length+1:=by simp;omega
  have hres:vs.take (i * 5) ++ cs.toList ++ (C.drop (i * 5)).take ((l.length - i) * 5)=C.take (i * 5) ++ cs.toList ++ (C.drop (i * 5)).take ((l.length - i) * 5):=by
   rw [← hCt,List.take_take,Nat.min_eq_left (by omega)]
  refine br_dec (fun hgt=>?_) fun hle=>?_
  ·refine slice_any (lo:=0) (hi:=i) (mx:=cap) (by simp) (by simp) (by simp) (by omega) (by omega) (by omega) (by simp) fun a3 ha3=>?_
   have ha3:a3=some ⟨b,0,none⟩:=by rcases ha3 with h | ⟨_,h⟩<;>simpa using h
   subst ha3
   simp only [Nat.sub_zero]
   have hw3:IntKind.i64.wrap (((l.length+1:Nat):Int) - (i:Int))=((l.length+1 - i:Nat):Int):=by rw [w64 (by omega) (by omega)];omega
   rw [hw3]
   have hcl:cap=l.length:=by omega
   have hsum:i+(l.length+1 - i)=l.length+1:=by omega
   refine ⟨by omega,by omega,?_,by decide,rfl,fun hroom=>?_,fun hgrow=>⟨?_,?_,(C.take (i * 5)),?_,fun cap' b' w2 hc' hn2=>?_⟩⟩
   ·have:((l.length+1 - i:Nat):Int) * 64≤200000001 * 64:=by omega
    omega
   ·exfalso
    simp only [Int.toNat_natCast] at hroom
    omega
   ·simp only [Int.toNat_natCast];omega
   ·simp only [Int.toNat_natCast] at hgrow ⊢
    have:=nextcap_le hgrow
    have h2:Builtin.nextslicecap (i+(l.length+1 - i)) cap * 64≤(2 * (i+(l.length+1 - i))+192) * 64:=Nat.mul_le_mul_right _ this
    omega
   ·refine read_row ?_ (by rw [List.length_take,hCl];omega)
    have:=hC.row 0 (i * 5)
    simpa using this
   simp only [Int.toNat_natCast,hsum] at hc' hn2 ⊢
   have hb':b'=w.heap.size:=hn2.num
   have e2:Ext w w2:=(drew_upd w).trans hn2.upd
   obtain ⟨C2,hC2e⟩: ∃ C2,C2=C.take (i * 5) ++ zerosL [Value.int .i64 0,.int .u8 0,.string ByteArray.empty,.int .i64 0,.slice none 0 0] (l.length+1 - i) ++ zerosL [Value.int .i64 0,.int .u8 0,.string ByteArray.empty,.int .i64 0,.slice none 0 0] (cap' - (l.length+1)):=⟨_,rfl⟩
   have hC2l:C2.length=cap' * 5:=by
    rw [hC2e]
    simp only [List.length_append,List.length_take,zerosL_length,hCl,List.length_cons,List.length_nil]
    omega
   have hC2t:C2.take (i * 5)=C.take (i * 5):=by
    rw [hC2e,List.append_assoc]
    have:(C.take (i * 5)).length=i * 5:=by rw [List.length_take,hCl];omega
    have h2:=List.take_left (l₁:=C.take (i * 5)) (l₂:=zerosL [Value.int .i64 0,.int .u8 0,.string ByteArray.empty,.int .i64 0,.slice none 0 0] (l.length+1 - i) ++ zerosL [Value.int .i64 0,.int .u8 0,.string ByteArray.empty,.int .i64 0,.slice none 0 0] (cap' - (l.length+1)))
    rwa [this] at h2
   have g2:Full w2 b' T.api_Fact C2:=by
    unfold Full
    rw [hn2.get,hC2e]
    rfl
   refine slice_any (lo:=i) (hi:=l.length+1) (mx:=cap') (by simp) (by simp) (by simp) (by omega) (by omega) (by omega) (by simp) fun a5 ha5=>?_
   have ha5:a5=some ⟨b',i * 5,none⟩:=by
    rcases ha5 with h | ⟨h,_⟩
    ·exact h
    ·omega
   subst ha5
   refine copy_full g2 (m:=1) rfl (by omega) (read_row (hrowX w2 (Upd.ext e2)) (by rw [hXl])) (factF.one hx) (by rw [hXl,hC2l];omega) fun w3 hu3 g3=>?_
   intro w4 hd4
   have g4:Full w4 b' T.api_Fact (spl C2 (i * 5) cs.toList):=Ext.get hd4.upd g3
   refine ⟨fun v=>Ext w4 v,Upd.refl _ _,?_⟩
   have hs3:=e2.size
   have e24:Upd (·=b') w2 w4:=hu3.then hd4.upd
   have hCw4:Full w4 b T.api_Fact C:=by
    have h2:Full w2 b T.api_Fact C:=Ext.get e2 hC
    exact e24.get h2 (by omega)
   refine slice_any (lo:=i+1) (hi:=l.length+1) (mx:=cap') (by simp) (by simp) (by simp) (by omega) (by omega) (by omega) (by simp) fun a6 ha6=>?_
   have ha6:a6=some ⟨b',(i+1) * 5,none⟩:=by
    rcases ha6 with h | ⟨h,_⟩
    ·exact h
    ·omega
   subst ha6
   refine slice_any (lo:=i) (hi:=l.length) (mx:=cap) (by simp) (by simp) (by simp) (by omega) (by omega) (by omega) (by simp) fun a7 ha7=>?_
   have ha7:a7=some ⟨b,i * 5,none⟩:=by
    rcases ha7 with h | ⟨h,_⟩
    ·exact h
    ·omega
   subst ha7
   have hspl:(spl C2 (i * 5) cs.toList).length=C2.length:=spl_length (by rw [hXl,hC2l];omega)
   refine copy_full g4 (m:=l.length - i) rfl (by omega) (read_row (hmid w4 hCw4) hmidl) hmid1 (by rw [hmidl,hspl,hC2l];omega) fun w5 hu5 g5=>?_
   have hall:Upd (fun x=>x=b') w2 w5:=e24.trans hu5
   have he5:Ext w w5:=Upd.beyond e2 hall fun x hx=>by rw [hx];omega
   refine hR _ _ ⟨some ⟨b',0,none⟩,cap',rfl,?_,?_,.inr ⟨b',rfl,by omega⟩⟩
   ·refine ⟨_,by rw [hlen2];exact g5.own (len:=l.length+1) (by rw [spl_length (by rw [hmidl,hspl,hC2l];omega),hspl,hC2l];rfl) (by omega),?_⟩
    have e5:=insert_cells2 (C:=C2) (mid:=(C.drop (i * 5)).take ((l.length - i) * 5)) (X:=cs.toList) (p:=i * 5) (by rw [hXl,hmidl,hC2l];omega)
    rw [hXl,hmidl] at e5
    rw [hk5,show (l.length+1) * 5=i * 5+5+(l.length - i) * 5 by omega,show (i+1) * 5=i * 5+5 by omega,e5,hC2t,← hres,hmidv]
    exact Rows.ext (Rows.insert hr hx i) he5
   ·exact he5.ext
  ·refine slice_any (lo:=0) (hi:=l.length+1) (mx:=cap) (by simp) (by simp) (by simp) (by omega) (by omega) (by omega) (by simp) fun a8 ha8=>?_
   have ha8:a8=some ⟨b,0,none⟩:=by rcases ha8 with h | ⟨_,h⟩<;>simpa using h
   subst ha8
   simp only [Nat.sub_zero]
   refine slice_any (lo:=i+1) (hi:=l.length+1) (mx:=cap) (by simp) (by simp) (by simp) (by omega) (by omega) (by omega) (by simp) fun a9 ha9=>?_
   have ha9:a9=some ⟨b,(i+1) * 5,none⟩:=by
    rcases ha9 with h | ⟨h,_⟩
    ·exact h
    ·omega
   subst ha9
   refine ⟨_,overlaps_apart hn.get hC hBb (by omega),br_intro (fun _=>?_) fun h=>by cases h⟩
   intro w6 hd6
   have g6:Full w6 b T.api_Fact C:=Ext.get hd6.upd hC
   refine ⟨fun v=>Ext w6 v,Upd.refl _ _,?_⟩
   refine slice_any (lo:=i+1) (hi:=l.length+1) (mx:=cap) (by simp) (by simp) (by simp) (by omega) (by omega) (by omega) (by simp) fun a9 ha9=>?_
   have ha9:a9=some ⟨b,(i+1) * 5,none⟩:=by
    rcases ha9 with h | ⟨h,_⟩
    ·exact h
    ·omega
   subst ha9
   refine slice_any (lo:=i) (hi:=l.length+1) (mx:=cap) (by simp) (by simp) (by simp) (by omega) (by omega) (by omega) (by simp) fun a9 ha9=>?_
   have ha9:a9=some ⟨b,i * 5,none⟩:=by
    rcases ha9 with h | ⟨h,_⟩
    ·exact h
    ·omega
   subst ha9
   refine copy_full (size:=5) (o:=(i+1) * 5) (dLen:=l.length+1 - (i+1)) (n:=l.length+1 - i) g6 (m:=l.length - i) rfl (by omega) (by have hrr:=read_row (len:=l.length - i) (cap:=0) (hmid w6 g6) hmidl;exact hrr) hmid1 (by rw [hmidl,hCl];omega) fun w7 hu7 g7=>?_
   have hspl:(spl C ((i+1) * 5) ((C.drop (i * 5)).take ((l.length - i) * 5))).length=C.length:=spl_length (by rw [hmidl,hCl];omega)
   refine slice_any (lo:=i) (hi:=l.length+1) (mx:=cap) (by simp) (by simp) (by simp) (by omega) (by omega) (by omega) (by simp) fun a9 ha9=>?_
   have ha9:a9=some ⟨b,i * 5,none⟩:=by
    rcases ha9 with h | ⟨h,_⟩
    ·exact h
    ·omega
   subst ha9
   have u7:Upd (·=b) w w7:=(Upd.ext hd6.upd).trans hu7
   refine copy_full (size:=5) (o:=i * 5) (dLen:=l.length+1 - i) (n:=1) g7 (m:=1) rfl (by omega) (read_row (hrowX w7 (u7.mono fun x _ hx e=>hBb (by rw [← e,hx]))) (by rw [hXl])) (factF.one hx) (by rw [hXl,hspl,hCl];omega) fun w8 hu8 g8=>?_
   have u8:Upd (·=b) w w8:=u7.trans hu8
   refine hR _ _ ⟨some ⟨b,0,none⟩,cap,rfl,?_,u8.mono fun x _ hx=>by rw [hx],.inl rfl⟩
   have h8:i * 5+cs.toList.length≤(spl C ((i+1) * 5) ((C.drop (i * 5)).take ((l.length - i) * 5))).length:=by rw [hXl,hspl,hCl];omega
   refine ⟨_,by rw [hlen2];exact g8.own (len:=l.length+1) (by rw [spl_length h8,hspl,hCl];rfl) (by omega),?_⟩
   have e5:=insert_cells (C:=C) (mid:=(C.drop (i * 5)).take ((l.length - i) * 5)) (X:=cs.toList) (p:=i * 5) (by rw [hXl,hmidl,hCl];omega)
   rw [hXl,hmidl] at e5
   rw [hk5,show (l.length+1) * 5=i * 5+5+(l.length - i) * 5 by omega,show (i+1) * 5=i * 5+5 by omega,e5,← hres,hmidv]
   exact Rows.upd u8 (fun x hx hb=>hGb (by rw [← hb];exact hx)) (Rows.insert hr hx i)
theorem list_Delete_spec {w:World} {Q:Nat→Prop} {S:Nat} {a:Option Addr} {cap:Nat} {l:List Fact} {i:Nat} (h:ListAt factF Q S w a cap T.api_Fact l) (hi:i<l.length) (hn:l.length≤1000000000) :
  CallsR prog K.slices_Delete_api_Fact #[.slice a l.length cap,.int .i64 i,.int .i64 ((i+1:Nat):Int)] w fun v w'=>v= .slice a (l.take i ++ l.drop (i+1)).length cap∧ListAt factF Q S w' a cap T.api_Fact (l.take i ++ l.drop (i+1))∧Upd (fun b=>a=some ⟨b,0,none⟩) w w':=by
 obtain ⟨G,h1,h2,h3⟩:=h
 obtain ⟨b,rfl⟩: ∃ b,a=some ⟨b,0,none⟩:=by
  obtain ⟨vs,⟨_,_,hx⟩,_⟩:=h1
  rcases hx with ⟨_,h0,_⟩| ⟨b,_,h,_⟩
  ·omega
  ·exact ⟨b,h⟩
 refine (slices_Delete_spec h1 (h3 b rfl).2 hi hn).mono ?_
 rintro _ w' ⟨rfl,ho,hu⟩
 have hlen:(l.take i ++ l.drop (i+1)).length=l.length - 1:=by simp;omega
 exact ⟨by rw [hlen],⟨G,ho,fun x hx=>⟨(h2 x hx).1,Nat.lt_of_lt_of_le (h2 x hx).2 hu.size⟩,h3⟩,hu.mono fun x _ hx=>by rw [hx]⟩
theorem list_Insert_spec {w₀ w:World} {Q H:Nat→Prop} {S:Nat} {a:Option Addr} {cap:Nat} {l:List Fact} {i B:Nat} {cs:Array Value} {x:Fact} (h:ListAt factF Q S w a cap T.api_Fact l) (hx:factF.R w H cs.toList x) (hH:∀ b,H b→(S≤b∨Q b)∧b<w.heap.size∧a≠some ⟨b,0,none⟩) (hn:New w₀ (.cells cs T.api_Fact) B w) (hB:a≠some ⟨B,0,none⟩) (hi:i≤l.length) (hl:l.length≤200000000) (hS:S≤w.heap.size) :
  CallsR prog K.slices_Insert_api_Fact #[.slice a l.length cap,.int .i64 i,.slice (some ⟨B,0,none⟩) 1 1] w fun v w'=>∃ a' c',v= .slice a' (l.take i ++ [x] ++ l.drop i).length c'∧ListAt factF Q S w' a' c' T.api_Fact (l.take i ++ [x] ++ l.drop i)∧Upd (fun b=>a=some ⟨b,0,none⟩) w w':=by
 obtain ⟨G,h1,h2,h3⟩:=h
 have hG:∀ b,G b∨H b→(S≤b∨Q b)∧b<w.heap.size:=fun b hb=>by
  rcases hb with hb | hb
  ·exact h2 b hb
  ·exact ⟨(hH b hb).1,(hH b hb).2.1⟩
 have hno:∀ b,a=some ⟨b,0,none⟩→¬ (G b∨H b):=fun b hb hb'=>by
  rcases hb' with hb' | hb'
  ·exact (h3 b hb).2 hb'
  ·exact (hH b hb').2.2 hb
 refine (slices_Insert_spec (G:=fun b=>G b∨H b) (h1.mono fun _ hb=>.inl hb) hno (factF.mono hx fun _ hb=>.inr hb) hn hB hi hl).mono ?_
 rintro _ w' ⟨a',c',rfl,ho,hu,hf⟩
 have hlen:(l.take i ++ [x] ++ l.drop i).length=l.length+1:=by simp;omega
 refine ⟨a',c',by rw [hlen],⟨_,ho,fun b hb=>⟨(hG b hb).1,Nat.lt_of_lt_of_le (hG b hb).2 hu.size⟩,fun b hb=>?_⟩,hu⟩
 rcases hf with hf | ⟨b',hb',hl⟩
 ·subst hf;exact ⟨(h3 b hb).1,hno b hb⟩
 ·rw [hb'] at hb
  cases hb
  exact ⟨Nat.le_trans hS hl,fun hb=>absurd (hG _ hb).2 (by omega)⟩
theorem list_store {w:World} {Q H:Nat→Prop} {S:Nat} {a:Option Addr} {cap:Nat} {l:List Fact} {i:Nat} {us:List Value} {x:Fact} (h:ListAt factF Q S w a cap T.api_Fact l) (hx:factF.R w H us x) (hH:∀ b,H b→(S≤b∨Q b)∧b<w.heap.size∧a≠some ⟨b,0,none⟩) (hi:i<l.length) {K:World→Prop}
  (hk:∀ w',Upd (fun b=>a=some ⟨b,0,none⟩) w w'→ListAt factF Q S w' a cap T.api_Fact (l.set i x)→K w'):idxP a l.length (i:Int) 5 fun q=>storeP w q us K:=by
 obtain ⟨G,h1,h2,h3⟩:=h
 have hG:∀ b,G b∨H b→(S≤b∨Q b)∧b<w.heap.size:=fun b hb=>by
  rcases hb with hb | hb
  ·exact h2 b hb
  ·exact ⟨(hH b hb).1,(hH b hb).2.1⟩
 have hno:∀ b,a=some ⟨b,0,none⟩→¬ (G b∨H b):=fun b hb hb'=>by
  rcases hb' with hb' | hb'
  ·exact (h3 b hb).2 hb'
  ·exact (hH b hb').2.2 hb
 obtain ⟨b,rfl⟩: ∃ b,a=some ⟨b,0,none⟩:=by
  obtain ⟨vs,⟨_,_,hx⟩,_⟩:=h1
  rcases hx with ⟨_,h0,_⟩| ⟨b,_,h,_⟩
  ·omega
  ·exact ⟨b,h⟩
 refine ⟨by omega,by omega,?_⟩
 simp only [nilC_some',add_lit,Int.toNat_natCast,Nat.zero_add]
 refine OwnS.store (r:=factF) (G:=fun b=>G b∨H b) (h1.mono fun _ hb=>.inl hb) (hno b rfl) hi (factF.mono hx fun _ hb=>.inr hb) fun w' hu ho=>hk w' (hu.mono fun x _ hx=>by rw [hx]) ⟨_,ho,fun b hb=>⟨(hG b hb).1,Nat.lt_of_lt_of_le (hG b hb).2 hu.size⟩,fun b hb=>⟨(h3 b hb).1,hno b hb⟩⟩
theorem fact_Apply_own {w:World} {G Gc:Nat→Prop} {a ac:Option Addr} {c cc:Nat} {l:List Fact} {cs:List Change} (h:SliceAt factR w G a l) (hG:∀ b,G b→b<w.heap.size) (hc:SliceAt changeR w Gc ac cs) (hn:l.length+cs.length≤100000000) (hvl:∀ f∈l,f.val.length≤140737488355232) (hnc:SmallC cs) :
  CallsR prog K.fact_Apply #[.slice a l.length c,.slice ac cs.length cc] w fun v w'=>∃ a' c',v= .slice a' (applyF l cs).length c'∧ListAt factF NoB w.heap.size w' a' c' T.api_Fact (applyF l cs)∧Ext w w':=by
 apply fact_Apply.sh
 suffices H:∀ R:Value→World→Prop,(∀ v w',(∃ a' c',v= .slice a' (applyF l cs).length c'∧ListAt factF NoB w.heap.size w' a' c' T.api_Fact (applyF l cs)∧Ext w w')→R v w')→fact_Apply.body a l.length c ac cs.length cc w R from H _ fun _ _ h=>h
 intro R hR
 unfold fact_Apply.body
 refine (fact_isOrdered_spec h (by omega)).mono ?_
 rintro _ w1 ⟨rfl,he1⟩
 have hs1:=he1.size
 refine ⟨_,rfl,br_intro (fun ho=>?_) fun ho=>?_⟩
 ·have ho':ordered l=false:=by simpa using ho
  have hap:applyF l cs=[]:=by unfold applyF;rw [if_neg (by rw [ho'];decide)]
  rw [hap] at hR
  exact hR _ _ ⟨none,0,rfl,ListAt.nil _ _,he1⟩
 have ho':ordered l=true:=by simpa using ho
 have hsorted:=ordered_sorted.1 ho'
 have hap:applyF l cs=applyL l cs:=by unfold applyF;rw [if_pos ho']
 rw [hap] at hR
 intro B1 w2 hn2
 have e2:Ext w w2:=he1.trans hn2.upd
 have hB1:B1=w1.heap.size:=hn2.num
 have hs2:=hn2.size
 refine (fact_own_spec a l.length c w2).mono ?_
 rintro _ w3 ⟨B,rfl,hn3⟩
 have hB:B=w2.heap.size:=hn3.num
 have hs3:=hn3.size
 refine ⟨_,rfl,rfl,by kernel_rfl,?_⟩
 intro D lr r w4 w5 hn4 hn5 HY
 have hD:D=w3.heap.size:=hn4.num
 have hs4:=hn4.size
 have hlr:lr=w4.heap.size:=hn5.num
 have hs5:=hn5.size
 have e5:Ext w w5:=((e2.trans hn3.upd).trans hn4.upd).trans hn5.upd
 have gl:w5.heap[lr]?=some (.loop r):=hn5.get
 have gD:w5.heap[D]?=some (.deferred (some [])):=Ext.get hn5.upd hn4.get
 have gB:w5.heap[B]?=some (.cells #[.slice a l.length c] T.L_api_Fact (0,0)):=Ext.get (hn4.upd.trans hn5.upd) hn3.get
 have gB1:w5.heap[B1]?=some (.cells #[.slice none 0 0] T.L_api_Fact (0,0)):=Ext.get (hn3.upd.trans (hn4.upd.trans hn5.upd)) hn2.get
 refine (fact_own_1_spec (B:=B) (l:=lr) (a:=a) (c:=c) (fs:=l) (J:=fun i W=>Upd (·=B1) w5 W∧∃ a2 c2,W.heap[B1]?=some (.cells #[.slice a2 i c2] T.L_api_Fact (0,0))∧ListAt factF NoB w5.heap.size W a2 c2 T.api_Fact (l.take i)) (by omega)
  (fun i W hj=>hj.1.get gB (by show ¬ B=B1;omega)) (fun i W hj=>⟨G,SliceAt.upd (h.ext e5) hj.1 (fun b hb hb'=>by have:=hG b hb;omega)⟩) hvl (fun i W W' hj he=>⟨hj.1.then he,by obtain ⟨a2,c2,g2,hl⟩:=hj.2;exact ⟨a2,c2,Ext.get he g2,hl.ext he⟩⟩) ?_
  ⟨Upd.refl _ _,none,0,gB1,ListAt.nil _ _⟩).mono ?_
 ·rintro i hi W W' av cv ⟨hu,a2,c2,g2,hl⟩ he ho hf
  have hu':Upd (·=B1) w5 W':=hu.then he
  have gl':W'.heap[lr]?=some (.loop r):=hu'.book lr _ gl rfl
  have hsW:=hu.size
  have hsW':=he.size
  refine HY _ W' _ gl' ⟨_,_,_,_,_,_,_,rfl,new_put rfl fun B2 w7 hB2 hs7 e7 g7=>?_⟩
  have gl7:=Ext.get e7 gl'
  refine ⟨gl7,?_⟩
  generalize hw8:w7.putObj lr (.loop { r with state:=.busy })=w8
  have cl:CellsLe w7 w8:=by rw [← hw8];exact CellsLe.turn gl7 rfl
  have hs8:w8.heap.size=w7.heap.size:=by rw [← hw8,putObj_size]
  have gl8:w8.heap[lr]?=some (.loop { r with state:=.busy }):=by rw [← hw8];exact World.putObj_heap_same (Array.getElem?_eq_some_iff.1 gl7).1
  have g28:w8.heap[B1]?=some (.cells #[.slice a2 i c2] T.L_api_Fact (0,0)):=cl.get _ _ _ _ (Ext.get (he.trans e7) g2)
  have g88:w8.heap[B2]?=some (.cells (factVs l[i].key av l[i].val.length cv).toArray T.api_Fact (0,0)):=cl.get _ _ _ _ g7
  refine ⟨_,_,_,cell_of g28 rfl,l[i].key.ino,(l[i].key.what.toNat:Int),l[i].key.name,l[i].key.chunk,av,l[i].val.length,cv,cellsAt_of g88 (fun j v hj=>by simpa using hj),?_⟩
  intro B3 w9 hn9
  have hs9:=hn9.size
  have hl9:ListAt factF NoB w5.heap.size w9 a2 c2 T.api_Fact (l.take i):=((hl.ext (he.trans e7)).cellsLe cl).ext hn9.upd
  have ho9:OwnB w9 av cv l[i].val:=((ho.ext e7).cellsLe cl).ext hn9.upd
  have hil:(l.take i).length=i:=by rw [List.length_take];omega
  have ha2:∀ b,a2=some ⟨b,0,none⟩→w5.heap.size≤b∧b<W.heap.size:=fun b hb=>by
   refine ⟨?_,hl.lt hb⟩
   obtain ⟨_,_,_,h3⟩:=hl
   exact (h3 b hb).1
  refine ListAt.push' (r:=factF) (H:=fun b=>av=some ⟨b,0,none⟩) (x:=l[i]) hl9 (factF_intro ho9 (fun p hp=>ho9.at_ hp)) (fun b hb=>⟨.inl ?_,?_,fun hab=>?_⟩) hn9 hil.symm rfl (by omega) (by omega) (by omega) fun a' c' w10 hu10 hl10=>?_
  ·have:=hf _ hb
   show w5.heap.size≤b
   have h2:W.heap.size≤b:=this
   omega
  ·exact ho9.blk hb
  ·have h2:W.heap.size≤b:=hf _ hb
   have:=ha2 b hab
   omega
  have hne:∀ b,a2=some ⟨b,0,none⟩→B1≠b:=fun b hb=>by have:=ha2 b hb;omega
  have g210:w10.heap[B1]?=some (.cells #[.slice a2 i c2] T.L_api_Fact (0,0)):=hu10.get (Ext.get hn9.upd g28) (fun hb=>hne _ hb rfl)
  refine store_of g210 (by simp) fun w11 hp=>?_
  have u811:Upd (fun b=>b=B1∨a2=some ⟨b,0,none⟩) w8 w11:=(Upd.ext hn9.upd).trans ((hu10.mono fun x _ hx=>.inr hx).trans (hp.upd1.mono fun x _ hx=>.inl hx))
  have gl11:w11.heap[lr]?=some (.loop { r with state:=.busy }):=u811.book lr _ gl8 rfl
  have urnd:Upd (fun b=>b=B1∨a2=some ⟨b,0,none⟩) W' (w11.putObj lr (.loop r)):=Upd.round gl' (Upd.ext e7) (by rw [hw8];exact u811)
  have cl11:CellsLe w11 (w11.putObj lr (.loop r)):=CellsLe.turn gl11 rfl
  refine ⟨gl11,rfl,⟨hu'.over urnd fun x hx=>?_,a',c',?_,?_⟩,fun b hb1 hb2=>urnd.blk b hb2 fun hx=>?_⟩
  ·rcases hx with hx | hx
   ·exact .inl hx
   ·exact .inr (ha2 x hx).1
  ·have:=cl11.get _ _ _ _ hp.get
   rw [this]
   have e:(l.take i ++ [l[i]]).length=i+1:=by simp;omega
   rw [e]
   rfl
  ·rw [List.take_succ_eq_append_getElem hi]
   exact (hl10.upd hp.upd1 (fun x hx=>⟨by rw [hx];omega,fun h=>h⟩)).cellsLe cl11
  ·rcases hx with hx | hx
   ·omega
   ·have:=ha2 b hx;omega
 ·rintro _ w6 ⟨hu6,a2,c2,g2,hl6⟩
  rw [List.take_length] at hl6
  have gl6:=hu6.book lr _ gl rfl
  refine ⟨gl6,fun o=>?_⟩
  have hs6:=hu6.size
  have cl6:CellsLe w6 (w6.putObj lr o):=CellsLe.turn gl6 rfl
  have ew6:Ext w w6:=Upd.beyond e5 hu6 fun x hx=>by rw [hx];omega
  have eu0:Ext w (w6.putObj lr o):=ew6.turn (by have:=e5.size;omega)
  have gD0:(w6.putObj lr o).heap[D]?=some (.deferred (some [])):=by rw [World.putObj_heap_other (by omega)];exact hu6.book D _ gD rfl
  have g20:=cl6.get _ _ _ _ g2
  have hl0:=hl6.cellsLe cl6
  have hs0:w5.heap.size≤(w6.putObj lr o).heap.size:=by rw [putObj_size];exact hs6
  generalize w6.putObj lr o=u0 at eu0 gD0 g20 hl0 hs0 ⊢
  have hww:=e5.size
  refine ⟨fun x u=>∃ i:Nat,x=i∧i≤cs.length∧Ext w u∧u.heap[D]?=some (.deferred (some []))∧w5.heap.size≤u.heap.size∧∃ a2 c2,u.heap[B1]?=some (.cells #[.slice a2 (applyL l (cs.take i)).length c2] T.L_api_Fact (0,0))∧ListAt factF NoB w5.heap.size u a2 c2 T.api_Fact (applyL l (cs.take i)),fun x _=>((cs.length:Int) - x).toNat,
   ⟨0,rfl,by omega,eu0,gD0,hs0,a2,c2,g20,hl0⟩,?_⟩
  rintro x u ⟨i,rfl,hi,heu,gDu,hSu,a2,c2,g2,hl⟩
  refine br_dec (fun hlt=>?_) fun hge=>?_
  ·have hi':i<cs.length:=by omega
   have ew:IntKind.i64.wrap ((i:Int)+1)=((i+1:Nat):Int):=w64 (by omega) (by omega)
   simp only [ew]
   have hcs:=hnc _ (List.getElem_mem hi')
   have hlen:=applyL_length l cs i
   have hso:Sorted (applyL l (cs.take i)):=applyL_sorted hsorted
   have hsucc:=applyL_succ l hi'
   rw [putF_place hso] at hsucc
   obtain ⟨l',hl'⟩: ∃ l',l'=applyL l (cs.take i):=⟨_,rfl⟩
   rw [← hl'] at hl hlen hso hsucc g2
   obtain ⟨p,hp⟩: ∃ p,p=placeF l' cs[i].key:=⟨_,rfl⟩
   have hple:p≤l'.length:=by rw [hp];exact placeF_le _ _
   refine SliceAt.idx (r:=changeR) (hc.ext heu) rfl hi' fun b o vs _ hrow hR' _=>?_
   obtain ⟨av,cv,rfl,hcv,hbv,_⟩:=changeR_elim hR'
   refine ⟨_,_,_,_,_,_,_,_,hrow.cells,new_put rfl fun B4 w14 hB4 hs14 e14 g4=>?_⟩
   refine ⟨_,_,_,cell_of (Ext.get e14 g2) rfl,cs[i].key.ino,(cs[i].key.what.toNat:Int),cs[i].key.name,cs[i].key.chunk,key4 g4 rfl,?_⟩
   obtain ⟨G',hG1,hG2⟩:=(hl.ext e14).slice
   refine (fact_place_spec (hG1.weak fun _ _ _ _=>factF_weak) hso (by omega)).mono ?_
   rintro _ w15 ⟨rfl,he15⟩
   rw [← hp]
   have hs15:=he15.size
   refine ⟨_,_,rfl,fun q u=>∃ B5 av' cv',q=⟨B5,0,none⟩∧Ext w15 u∧w15.heap.size≤B5∧B5<u.heap.size∧u.heap[B5]?=some (.cells (factVs cs[i].key av' cs[i].val.length cv').toArray T.api_Fact (0,0))∧OwnB u av' cv' cs[i].val∧Fresh w15 av',?_,?_⟩
   ·intro w16 hd16
    have hs16:=hd16.upd.size
    have g416:=Ext.get (he15.trans hd16.upd) g4
    have hbv16:BytesAt w16 av cs[i].val:=RowAt.ext hbv (e14.trans (he15.trans hd16.upd))
    refine ⟨fun v=>Ext w16 v,Upd.refl _ _,cs[i].key.ino,(cs[i].key.what.toNat:Int),cs[i].key.name,cs[i].key.chunk,fun v hv=>key4 (Ext.get hv g416) rfl,_,_,_,fun v hv=>cell_of (Ext.get hv g416) rfl,?_,?_⟩
    ·refine (slices_Clone_byte_own (c:=cv) hbv16 hcs.2).mono ?_
     rintro _ w17 ⟨he17,av',cv',rfl,ho17,hf17⟩
     refine ⟨_,_,_,rfl,he17,fun B5 w18 hn18=>⟨he17.trans hn18.upd,store_of hn18.get (by simp) fun w19 hp19=>?_⟩⟩
     have hB5:B5=w17.heap.size:=hn18.num
     have hs17:=he17.size
     have hs18:=hn18.size
     refine ⟨B5,av',cv',rfl,Put.upd ((hd16.upd.trans he17).trans hn18.upd) hp19 (.inl (by omega)),by omega,by rw [hp19.size];omega,hp19.get,OwnB.upd (ho17.ext hn18.upd) hp19.upd1 (fun b hb hb'=>?_),hf17.mono hs16⟩
     have:=ho17.blk hb
     omega
    ·intro B6 w20 hn20
     have hB6:B6=w16.heap.size:=hn20.num
     have hs20:=hn20.size
     refine ⟨hn20.upd,(slices_Clone_byte_own (c:=cv) (RowAt.ext hbv16 hn20.upd) hcs.2).mono ?_⟩
     rintro _ w21 ⟨he21,av',cv',rfl,ho21,hf21⟩
     have hs21:=he21.size
     refine ⟨_,_,_,rfl,hn20.upd.trans he21,store_of (Ext.get he21 hn20.get) (by simp) fun w22 hp22=>?_⟩
     refine ⟨B6,av',cv',rfl,Put.upd ((hd16.upd.trans hn20.upd).trans he21) hp22 (.inl (by omega)),by omega,by rw [hp22.size];omega,hp22.get,OwnB.upd ho21 hp22.upd1 (fun b hb hb'=>?_),hf21.mono (by omega)⟩
     have:w20.heap.size≤b:=hf21 _ hb
     omega
   ·rintro _ w23 ⟨B5,av',cv',rfl,e23,hB5,hB5',g5,ho5,hf5⟩
    have hs23:=e23.size
    have e1423:=he15.trans e23
    have euu:=e14.trans e1423
    have hsu:=euu.size
    have ew23:=heu.trans euu
    have hl23:=hl.ext euu
    have g223:=Ext.get euu g2
    have g423:=Ext.get e1423 g4
    have gD23:=euu.book D _ gDu rfl
    have ha2:∀ b,a2=some ⟨b,0,none⟩→w5.heap.size≤b∧b<u.heap.size:=fun b hb=>by
     refine ⟨?_,hl.lt hb⟩
     obtain ⟨_,_,_,h3⟩:=hl
     exact (h3 b hb).1
    have hav:∀ b,av'=some ⟨b,0,none⟩→w15.heap.size≤b∧b<w23.heap.size:=fun b hb=>⟨hf5 _ hb,ho5.blk hb⟩
    have hgv:∀ q,av'=some q→av'=some ⟨q.block,0,none⟩:=fun q hq=>ho5.at_ hq
    have next:∀ {a':Option Addr} {c':Nat} {v:World} {lst:List Fact},lst=applyL l (cs.take (i+1))→Upd (fun b=>a2=some ⟨b,0,none⟩) w23 v→ListAt factF NoB w5.heap.size v a' c' T.api_Fact lst→
      storeP v ⟨B1,0,none⟩ [.slice a' lst.length c'] fun w''=>(∃ k:Nat,((i+1:Nat):Int)=k∧k≤cs.length∧Ext w w''∧w''.heap[D]?=some (.deferred (some []))∧w5.heap.size≤w''.heap.size∧∃ a2 c2,w''.heap[B1]?=some (.cells #[.slice a2 (applyL l (cs.take k)).length c2] T.L_api_Fact (0,0))∧ListAt factF NoB w5.heap.size w'' a2 c2 T.api_Fact (applyL l (cs.take k)))∧
       ((cs.length:Int) - ((i+1:Nat):Int)).toNat<((cs.length:Int) - (i:Int)).toNat:=by
     intro a' c' v lst hlst huv hlv
     have hsv:=huv.size
     refine store_of (huv.get g223 fun hb=>by have:=ha2 _ hb;omega) (by simp) fun w'' hpp=>?_
     have hspp:=hpp.size
     refine ⟨⟨i+1,rfl,hi',Put.upd (Upd.beyond ew23 huv fun x hx=>by have:=ha2 x hx;omega) hpp (.inl (by omega)),hpp.upd1.book D _ (huv.book D _ gD23 rfl) rfl,by omega,a',c',?_,?_⟩,meas hi'⟩
     ·rw [hpp.get,← hlst];rfl
     ·rw [← hlst];exact hlv.upd hpp.upd1 fun x hx=>⟨by rw [hx];omega,fun h=>h⟩
    have stay:l'=applyL l (cs.take (i+1))→(∃ k:Nat,((i+1:Nat):Int)=k∧k≤cs.length∧Ext w w23∧w23.heap[D]?=some (.deferred (some []))∧w5.heap.size≤w23.heap.size∧∃ a2 c2,w23.heap[B1]?=some (.cells #[.slice a2 (applyL l (cs.take k)).length c2] T.L_api_Fact (0,0))∧ListAt factF NoB w5.heap.size w23 a2 c2 T.api_Fact (applyL l (cs.take k)))∧
       ((cs.length:Int) - ((i+1:Nat):Int)).toNat<((cs.length:Int) - (i:Int)).toNat:=fun hst =>
     ⟨⟨i+1,rfl,hi',ew23,gD23,by omega,a2,c2,by rw [← hst];exact g223,by rw [← hst];exact hl23⟩,meas hi'⟩
    have hfv:cellsAt w23 ⟨B5,0,none⟩ (factVs cs[i].key av' cs[i].val.length cv') 0:=cellsAt_of g5 fun j v hj=>by simpa using hj
    have hgone:w23.cell? ⟨B4,5,none⟩= some (.bool cs[i].gone):=cell_of g423 rfl
    simp only [add_lit,Nat.zero_add]
    have ewp:IntKind.i64.wrap ((p:Int)+1)=((p+1:Nat):Int):=w64 (by omega) (by omega)
    rw [← hp] at hsucc
    simp only [ewp]
    have doSet:p<l'.length→(l'.set p ⟨cs[i].key,cs[i].val⟩)=applyL l (cs.take (i+1))→idxP a2 l'.length (p:Int) 5 fun q2=>storeP w23 q2 (factVs cs[i].key av' cs[i].val.length cv') fun w26=>(∃ k:Nat,((i+1:Nat):Int)=k∧k≤cs.length∧Ext w w26∧w26.heap[D]?=some (.deferred (some []))∧w5.heap.size≤w26.heap.size∧∃ a2 c2,w26.heap[B1]?=some (.cells #[.slice a2 (applyL l (cs.take k)).length c2] T.L_api_Fact (0,0))∧ListAt factF NoB w5.heap.size w26 a2 c2 T.api_Fact (applyL l (cs.take k)))∧
       ((cs.length:Int) - ((i+1:Nat):Int)).toNat<((cs.length:Int) - (i:Int)).toNat:=fun hpl hst=>by
     refine list_store (H:=fun b=>av'=some ⟨b,0,none⟩) (x:=⟨cs[i].key,cs[i].val⟩) hl23 (factF_intro (x:=⟨cs[i].key,cs[i].val⟩) ho5 hgv) (fun b hb=>⟨.inl (by have:=hav b hb;omega),(hav b hb).2,fun hab=>by have:=hav b hb;have:=ha2 b hab;omega⟩) hpl fun w' hu hlw=>?_
     have hsw:=hu.size
     refine ⟨⟨i+1,rfl,hi',Upd.beyond ew23 hu fun x hx=>by have:=ha2 x hx;omega,hu.book D _ gD23 rfl,by omega,a2,c2,?_,by rw [← hst];exact hlw⟩,meas hi'⟩
     rw [← hst,List.length_set]
     exact hu.get g223 fun hb=>by have:=ha2 _ hb;omega
    have doIns:(l'.take p ++ [⟨cs[i].key,cs[i].val⟩] ++ l'.drop p)=applyL l (cs.take (i+1))→∀ (B7:Nat) (w27:World),New w23 (.cells (factVs cs[i].key av' cs[i].val.length cv').toArray T.api_Fact) B7 w27→CallsR prog K.slices_Insert_api_Fact #[.slice a2 l'.length c2,.int .i64 p,.slice (some ⟨B7,0,none⟩) 1 1] w27 fun v w28=>∃ (a':Option Addr) (n' c':Nat),v= .slice a' n' c'∧storeP w28 ⟨B1,0,none⟩ [.slice a' n' c'] fun w''=>(∃ k:Nat,((i+1:Nat):Int)=k∧k≤cs.length∧Ext w w''∧w''.heap[D]?=some (.deferred (some []))∧w5.heap.size≤w''.heap.size∧∃ a2 c2,w''.heap[B1]?=some (.cells #[.slice a2 (applyL l (cs.take k)).length c2] T.L_api_Fact (0,0))∧ListAt factF NoB w5.heap.size w'' a2 c2 T.api_Fact (applyL l (cs.take k)))∧
       ((cs.length:Int) - ((i+1:Nat):Int)).toNat<((cs.length:Int) - (i:Int)).toNat:=fun hst B7 w27 hn27=>by
     have hB7:B7=w23.heap.size:=hn27.num
     have hs27:=hn27.size
     refine (list_Insert_spec (H:=fun b=>av'=some ⟨b,0,none⟩) (x:=⟨cs[i].key,cs[i].val⟩) (hl23.ext hn27.upd) (factF_intro (x:=⟨cs[i].key,cs[i].val⟩) (ho5.ext hn27.upd) hgv) (fun b hb=>⟨.inl (by have:=hav b hb;omega),by have:=hav b hb;omega,fun hab=>by have:=hav b hb;have:=ha2 b hab;omega⟩) hn27 (fun hab=>by have:=ha2 B7 hab;omega) hple (by omega) (by omega)).mono ?_
     rintro _ w28 ⟨a',c',rfl,hl28,hu28⟩
     exact ⟨_,_,_,rfl,next hst ((Upd.ext hn27.upd).trans hu28) hl28⟩
    refine br_intro (fun hb3=>?_) fun hb3=>?_
    ·obtain ⟨hpl,hpk⟩:=of_decide_eq_true hb3
     rw [dif_pos ⟨hpl,fun _=>hpk⟩] at hsucc
     refine ⟨_,hgone,br_intro (fun hg=>?_) fun hg=>?_⟩
     ·rw [if_pos hg] at hsucc
      refine ⟨_,_,_,cell_of g223 rfl,(list_Delete_spec hl23 hpl (by omega)).mono ?_⟩
      rintro _ w24 ⟨rfl,hl24,hu24⟩
      exact ⟨_,_,_,rfl,next hsucc.symm hu24 hl24⟩
     ·rw [if_neg (by rw [hg];decide)] at hsucc
      exact br_intro (fun _=>⟨_,_,_,cell_of g223 rfl,_,_,_,_,_,_,_,hfv,doSet hpl hsucc.symm⟩) fun h=>absurd (hb3.symm.trans h) (by decide)
    ·have hnp:¬ (p<l'.length∧∀ h:p<l'.length,l'[p].key=cs[i].key):=fun ⟨hx,hy⟩=>of_decide_eq_false hb3 ⟨hx,hy hx⟩
     rw [dif_neg hnp] at hsucc
     refine br_intro (fun h=>absurd (h.symm.trans hb3) (by decide)) fun _=>⟨_,hgone,br_intro (fun hg=>?_) fun hg=>?_⟩
     ·rw [if_neg (by intro h;rw [h] at hg;cases hg)] at hsucc
      exact ⟨_,_,_,cell_of g223 rfl,_,_,_,_,_,_,_,hfv,doIns hsucc.symm⟩
     ·rw [if_pos (by cases h:cs[i].gone with | true=>rfl | false=>rw [h] at hg;cases hg)] at hsucc
      exact stay hsucc.symm
  ·have hii:i=cs.length:=by omega
   subst hii
   rw [List.take_length] at hl g2
   have hcl:CellsLe u (u.putObj D (.deferred none)):=CellsLe.turn gDu rfl
   exact ⟨_,_,_,cell_of g2 rfl,gDu,hR _ _ ⟨a2,c2,rfl,(hl.cellsLe hcl).weak hww (fun x hx=>hx.elim),heu.turn (by omega)⟩⟩
theorem fact_Apply_spec {w:World} {G Gc:Nat→Prop} {a ac:Option Addr} {c cc:Nat} {l:List Fact} {cs:List Change} (h:SliceAt factR w G a l) (hG:∀ b,G b→b<w.heap.size) (hc:SliceAt changeR w Gc ac cs) (hn:l.length+cs.length≤100000000) (hvl:∀ f∈l,f.val.length≤140737488355232) (hnc:SmallC cs) :
  CallsR prog K.fact_Apply #[.slice a l.length c,.slice ac cs.length cc] w fun v w'=>∃ a' c',v= .slice a' (applyF l cs).length c'∧ListAt factR NoB w.heap.size w' a' c' T.api_Fact (applyF l cs)∧Ext w w' :=
 (fact_Apply_own h hG hc hn hvl hnc).mono fun _ _ ⟨a',c',e,hl,he⟩=>⟨a',c',e,hl.toWeak (fun _ _ _ _=>factF_weak) rfl,he⟩
end Go.Den
namespace Go.Den
structure Act where
 act:Int
 kind:UInt8
 era:Nat
 block:Int
 page:Int
 fill:UInt8
namespace Act
def vals (a:Act):List Value:=[.int .i64 a.act,bv a.kind,.int .u32 a.era,.int .i64 a.block,.int .i64 a.page,bv a.fill]
end Act
end Go.Den
namespace Go.Den
theorem PAt.turn {A S:Nat} {w:World} {M:PLoc} {P:Pool} {c:Chip} (h:PAt A S w M P c):P.turn≤c.nb:=by
 obtain ⟨L,G,hr,_⟩:=h
 exact hr.turn
theorem PAt.low {A S:Nat} {w:World} {M:PLoc} {P:Pool} {c:Chip} (h:PAt A S w M P c):A≤M.p∧M.p<S:=by
 obtain ⟨L,G,hr,hF,_⟩:=h
 exact hF M.p (.inr (.inr (by simp)))
theorem finKey_name {k:Key} {s:St} (h:k.name.size<256):(finKey k s).1.name.size<256:=by
 unfold finKey
 split
 ·exact h
 ·exact (by decide:Key.zero.name.size<256)
theorem keyS_name (s:St):(keyS s).1.name.size<256:=by
 unfold keyS
 simp only []
 split
 ·exact (by decide:Key.zero.name.size<256)
 ·split
  ·split
   ·exact (by decide:Key.zero.name.size<256)
   ·refine finKey_name ?_
    have:=rowS_len (takeS 1 (takeS 2 s).2.2).2.2
    rw [size_data]
    simpa using this
  ·split
   ·split
    ·exact (by decide:Key.zero.name.size<256)
    ·exact finKey_name (by show ByteArray.empty.size<256;decide)
   ·exact finKey_name (by show ByteArray.empty.size<256;decide)
theorem oneS_name (s:St):(oneS s).1.key.name.size<256:=by
 have hz:Change.zero.key.name.size<256:=by decide
 unfold oneS
 simp only []
 split
 ·exact hz
 ·split
  ·exact hz
  ·split
   ·exact hz
   ·split
    ·exact keyS_name _
    ·split
     ·exact hz
     ·split
      ·exact hz
      ·exact keyS_name _
theorem goS_name:∀ (n:Nat) (s:St) (acc:List Change),(∀ x∈acc,x.key.name.size<256)→∀ x∈(goS n s acc).1,x.key.name.size<256
 | 0,s,acc,h=>by
  unfold goS
  split
  ·simp
  ·exact h
 | n+1,s,acc,h=>by
  unfold goS
  split
  ·simp
  ·refine goS_name n _ _ fun x hx=>?_
   rcases List.mem_append.1 hx with hx | hx
   ·exact h x hx
   ·simp at hx;subst hx;exact oneS_name s
theorem getS_name (b:List UInt8):∀ x∈(getS b).1,x.key.name.size<256:=by
 unfold getS
 split
 ·simp
 ·split
  ·simp
  ·exact goS_name _ _ _ (by simp)
theorem pageS_name {n:Int} {b:List UInt8} {P:PageSay} (h:pageS n b=some P):∀ x∈P.changes,x.key.name.size<256:=by
 unfold pageS at h
 split at h
 ·cases h
 ·split at h
  ·split at h
   ·cases h;exact getS_name _
   ·cases h
  ·split at h
   ·split at h
    ·cases h;simp
    ·cases h
   ·cases h
theorem pagesS_name {c:Chip} {i:Nat} {P:PageSay} (h:P∈pagesS c i):∀ x∈P.changes,x.key.name.size<256:=by
 unfold pagesS pagesTo at h
 obtain ⟨k,_,hk⟩:=List.mem_filterMap.1 h
 split at hk
 ·cases hk
 ·exact pageS_name hk
structure GoodC (cs:List Change):Prop where
 len:cs.length≤255
 ok:∀ x∈cs,x.key.name.size<256∧x.val.length<256
structure GoodF (n:Nat) (l:List Fact):Prop where
 len:l.length≤n
 names:NamesF l
 vals:∀ f∈l,f.val.length<256
theorem pagesS_good {c:Chip} {i:Nat} {P:PageSay} (h:P∈pagesS c i):GoodC P.changes:=⟨(pagesS_small h).2,fun x hx=>⟨pagesS_name h x hx,(pagesS_small h).1 x hx⟩⟩
theorem GoodC.small {cs:List Change} (h:GoodC cs):SmallC cs:=fun x hx=>by have:=h.ok x hx;omega
theorem GoodF.nil:GoodF 0 []:=⟨Nat.le_refl _,fun _ h=>(by cases h),fun _ h=>(by cases h)⟩
theorem applyL_vals:∀ {cs:List Change} {l:List Fact},(∀ f∈l,f.val.length<256)→(∀ x∈cs,x.val.length<256)→∀ f∈applyL l cs,f.val.length<256
 | [],l,h,_=>h
 | c :: cs,l,h,hc=>applyL_vals (cs:=cs) (l:=putF c l) (fun f hf=>by
  rcases putF_mem hf with hf | ⟨_,rfl⟩
  ·exact h f hf
  ·exact hc c (by simp)) fun x hx=>hc x (by simp [hx])
theorem GoodF.apply {n:Nat} {l:List Fact} {cs:List Change} (h:GoodF n l) (hc:GoodC cs):GoodF (n+255) (applyF l cs):=by
 unfold applyF
 split
 ·have h1:=applyL_length l cs cs.length
  have h2:=applyL_names h.names hc.small cs.length
  rw [List.take_length] at h1 h2
  exact ⟨by have:=h.len;have:=hc.len;omega,h2,applyL_vals h.vals fun x hx=>(hc.ok x hx).2⟩
 ·exact ⟨Nat.zero_le _,fun _ h=>(by cases h),fun _ h=>(by cases h)⟩
def addP (acc:List Fact) (pg:List PageSay):List Fact:=pg.foldl (fun a p=>applyF a p.changes) acc
theorem addP_succ (acc:List Fact) {pg:List PageSay} {k:Nat} (hk:k<pg.length):addP acc (pg.take (k+1))=applyF (addP acc (pg.take k)) pg[k].changes:=by
 unfold addP
 rw [List.take_succ_eq_append_getElem hk,List.foldl_append];rfl
theorem GoodF.pages {n:Nat} {acc:List Fact} {pg:List PageSay} (h:GoodF n acc) (hp:∀ P∈pg,GoodC P.changes):∀ k,k≤pg.length→GoodF (n+k * 255) (addP acc (pg.take k))
 | 0,_=>by simpa [addP] using h
 | k+1,hk=>by
  rw [addP_succ acc hk]
  have:=(GoodF.pages h hp k (by omega)).apply (hp _ (List.getElem_mem hk))
  rwa [show n+(k+1) * 255=n+k * 255+255 by omega]
theorem GoodF.mono {n m:Nat} {l:List Fact} (h:GoodF n l) (hm:n≤m):GoodF m l:=⟨Nat.le_trans h.len hm,h.names,h.vals⟩
def factsP (low:Nat) (l:List Part):List Fact:=(l.filter fun x=>decide (low≤x.seq)).foldl (fun a x=>addP a x.pages) []
theorem factsP_succ (low:Nat) {l:List Part} {i:Nat} (hi:i<l.length):factsP low (l.take (i+1))=if low≤l[i].seq then addP (factsP low (l.take i)) l[i].pages else factsP low (l.take i):=by
 unfold factsP
 rw [List.take_succ_eq_append_getElem hi,List.filter_append,List.foldl_append,List.filter_cons]
 by_cases h:low≤l[i].seq<;>simp [h]
def GoodP (l:List Part):Prop:=∀ x∈l,x.pages.length≤32∧∀ P∈x.pages,GoodC P.changes
theorem factsP_good {low:Nat} {l:List Part} (h:GoodP l):∀ i,i≤l.length→GoodF (i * 8160) (factsP low (l.take i))
 | 0,_=>by simpa [factsP] using GoodF.nil
 | i+1,hi=>by
  have ih:=factsP_good (low:=low) h i (by omega)
  have hx:=h l[i] (List.getElem_mem _)
  rw [factsP_succ low hi]
  split
  ·have:=ih.pages hx.2 l[i].pages.length (Nat.le_refl _)
   rw [List.take_length] at this
   exact this.mono (by have:=hx.1;omega)
  ·exact ih.mono (by omega)
theorem readParts_good {c:Chip} (hk:c.np≤32) (era:Nat):GoodP (readParts c era):=by
 intro x hx
 unfold readParts at hx
 split at hx
 ·cases hx
 ·unfold partsL at hx
  obtain ⟨t,_,rfl⟩:=List.mem_map.1 hx
  exact ⟨Nat.le_trans (pagesTo_length c t.block c.np) hk,fun P hP=>pagesS_good hP⟩
theorem scan_Facts_spec {F:Nat→Prop} {A:Nat} {w:World} {p:Nat} {c:Chip} (h:CIn F A w p c) (hnb:c.nb<20) (era:Nat) :
  CallsR prog K.scan_Facts #[.pointer (some ⟨p,0,none⟩),.int .u32 era] w fun v w'=>∃ a ca,v= .tuple #[.slice a (factsP (lowL (readParts c era)) (readParts c era)).length ca,.int .i64 (readErr c era:Nat)]∧ListAt factR NoB w.heap.size w' a ca T.api_Fact (factsP (lowL (readParts c era)) (readParts c era))∧Ext w w':=by
 apply scan_Facts.sh
 suffices H:∀ R:Value→World→Prop,(∀ v w',(∃ a ca,v= .tuple #[.slice a (factsP (lowL (readParts c era)) (readParts c era)).length ca,.int .i64 (readErr c era:Nat)]∧ListAt factR NoB w.heap.size w' a ca T.api_Fact (factsP (lowL (readParts c era)) (readParts c era))∧Ext w w')→R v w')→scan_Facts.body (some ⟨p,0,none⟩) era w R from H _ fun _ _ h=>h
 intro R hR
 unfold scan_Facts.body
 refine (scan_read_spec h hnb era).mono ?_
 have hlen:=readParts_length (c:=c) era
 have hgood:=readParts_good h.ok.np2 era
 generalize readParts c era=l at *
 generalize lowL l=low at *
 rintro _ w₁ ⟨a1,c1,rfl,hl,he1⟩
 have hs1:=he1.size
 obtain ⟨G,hG1,hG2⟩:=hl.slice
 refine ⟨_,_,_,_,_,rfl,fun a2 l2 c2 x u=>∃ i:Nat,x=i∧i≤l.length∧l2=(factsP low (l.take i)).length∧ListAt factR NoB w₁.heap.size u a2 c2 T.api_Fact (factsP low (l.take i))∧Ext w₁ u,fun _ _ _ x _=>((l.length:Int) - x).toNat,
  ⟨0,rfl,by omega,rfl,ListAt.nil _ _,Upd.refl _ _⟩,?_⟩
 rintro a2 l2 c2 x u ⟨i,rfl,hi,rfl,hf,heu⟩
 have hgi:=factsP_good (low:=low) hgood i hi
 refine br_dec (fun hlt=>?_) fun hge=>?_
 ·have hi':i<l.length:=by omega
  have ew:IntKind.i64.wrap ((i:Int)+1)=((i+1:Nat):Int):=w64 (by omega) (by omega)
  simp only [ew]
  have hsucc:=factsP_succ low hi'
  have hgl:=hgood _ (List.getElem_mem hi')
  refine SliceAt.idx (r:=partR) (hG1.ext heu) rfl hi' fun b o vs ha hrow hR' hG=>?_
  obtain ⟨ac,cc,rfl,hcc,hpg⟩:=partR_elim hR'
  refine ⟨_,_,_,_,_,hrow.cells,new_put (vs:=partVs l[i].block l[i].seq ac l[i].pages.length cc) rfl fun B1 w₄ hb4 hs4 he4 g4=>?_⟩
  simp only [add_lit,Nat.zero_add]
  have hsu:=heu.size
  have e4:=heu.trans he4
  refine ⟨_,cell_of g4 rfl,br_dec (fun hlt'=>?_) fun hge'=>?_⟩
  ·rw [if_neg (by omega)] at hsucc
   exact ⟨⟨i+1,rfl,hi',by rw [hsucc],by rw [hsucc];exact hf.ext he4,e4⟩,meas hi'⟩
  rw [if_pos (by omega)] at hsucc
  generalize hpgg:l[i].pages=pg at *
  refine ⟨_,_,_,cell_of g4 rfl,fun a5 l5 c5 y v=>∃ k:Nat,y=k∧k≤pg.length∧l5=(addP (factsP low (l.take i)) (pg.take k)).length∧ListAt factR NoB w₁.heap.size v a5 c5 T.api_Fact (addP (factsP low (l.take i)) (pg.take k))∧Ext w₄ v,fun _ _ _ y _=>((pg.length:Int) - y).toNat,
   ⟨0,rfl,by omega,rfl,hf.ext he4,Upd.refl _ _⟩,?_⟩
  rintro a5 l5 c5 y v ⟨k,rfl,hk,rfl,hfk,hev⟩
  refine br_dec (fun hltk=>?_) fun hgek=>?_
  ·have hk':k<pg.length:=by omega
   have ewk:IntKind.i64.wrap ((k:Int)+1)=((k+1:Nat):Int):=w64 (by omega) (by omega)
   simp only [ewk]
   have hgk:=hgi.pages hgl.2 k hk
   have hgc:=hgl.2 _ (List.getElem_mem hk')
   have hsv:=hev.size
   refine SliceAt.idx (r:=pageR) ((hpg.ext he4).ext hev) rfl hk' fun b2 o2 vs2 _ hrow2 hR2 _=>?_
   obtain ⟨ap,cp,rfl,hcp,hch⟩:=pageR_elim hR2
   refine ⟨_,_,_,_,_,hrow2.cells,new_put (vs:=pageVs pg[k].page ap pg[k].changes.length cp pg[k].drop) rfl fun B2 w₇ hb7 hs7 he7 g7=>?_⟩
   obtain ⟨G',hG1',hG2'⟩:=(hfk.ext he7).slice
   have hgl1:=hgl.1
   refine ⟨_,_,_,cell_of g7 rfl,(fact_Apply_spec hG1' (fun b hb=>(hG2' b hb).2) (hch.ext he7) (by have:=hgk.len;have:=hgc.len;omega) (fun f hff=>by have:=hgk.vals f hff;omega) hgc.small).mono ?_⟩
   rintro _ w₈ ⟨a',c',rfl,hl8,he8⟩
   have hadd:=addP_succ (factsP low (l.take i)) hk'
   refine ⟨_,_,_,rfl,⟨k+1,rfl,hk',by rw [hadd],by rw [hadd];exact hl8.weak (by omega) (fun x hx=>hx.elim),(hev.trans he7).trans he8⟩,meas hk'⟩
  ·have hkk:k=pg.length:=by omega
   subst hkk
   rw [List.take_length] at hfk ⊢
   exact ⟨⟨i+1,rfl,hi',by rw [hsucc],by rw [hsucc];exact hfk,e4.trans hev⟩,meas hi'⟩
 ·have hii:i=l.length:=by omega
  subst hii
  rw [List.take_length] at hf ⊢
  exact hR _ _ ⟨a2,c2,rfl,hf.weak hs1 fun _ h=>h.elim,he1.trans heu⟩
theorem addP_snoc (a:List Fact) (pg:List PageSay) (P:PageSay):addP a (pg ++ [P])=applyF (addP a pg) P.changes:=by
 unfold addP
 rw [List.foldl_append];rfl
theorem addP_ordered:∀ (pg:List PageSay) {a:List Fact},ordered a=true→ordered (addP a pg)=true
 | [],a,h=>h
 | P :: pg,a,h=>addP_ordered pg (a:=applyF a P.changes) (applyF_ordered _ _)
theorem foldP_ordered:∀ (l:List Part) {a:List Fact},ordered a=true→ordered (l.foldl (fun a x=>addP a x.pages) a)=true
 | [],a,h=>h
 | x :: l,a,h=>foldP_ordered l (a:=addP a x.pages) (addP_ordered _ h)
theorem factsP_ordered (n:Nat) (l:List Part):ordered (factsP n l)=true:=foldP_ordered _ rfl
theorem factsP_append (n:Nat) (l m:List Part):factsP n (l ++ m)=(m.filter fun x=>decide (n≤x.seq)).foldl (fun a x=>addP a x.pages) (factsP n l):=by
 unfold factsP
 rw [List.filter_append,List.foldl_append]
theorem fold_none:∀ {l:List Part} (a:List Fact),(∀ x∈l,x.pages=[])→l.foldl (fun a x=>addP a x.pages) a=a
 | [],a,_=>rfl
 | x :: l,a,h=>by
  rw [List.foldl_cons,h x (by simp)]
  exact fold_none (l:=l) a fun y hy=>h y (by simp [hy])
theorem factsP_none {n:Nat} {l m:List Part} (h:∀ x∈m,x.pages=[]):factsP n (l ++ m)=factsP n l:=by
 rw [factsP_append]
 exact fold_none _ fun x hx=>h x (List.mem_filter.1 hx).1
theorem factsP_snoc (n:Nat) (l:List Part) (x:Part):factsP n (l ++ [x])=if n≤x.seq then addP (factsP n l) x.pages else factsP n l:=by
 rw [factsP_append,List.filter_cons]
 by_cases h:n≤x.seq<;>simp [h]
theorem factsP_congr {n:Nat} {l m:List Part} (h:(l.filter fun x=>decide (n≤x.seq))=m.filter fun x=>decide (n≤x.seq)):factsP n l=factsP n m:=by
 unfold factsP
 rw [h]
theorem factsP_beyond {n:Nat} {l:List Part} (h:∀ x∈l,x.seq<n):factsP n l=[]:=by
 unfold factsP
 have:(l.filter fun x=>decide (n≤x.seq))=[]:=List.filter_eq_nil_iff.2 fun x hx=>by have:=h x hx;simp;omega
 rw [this];rfl
theorem lowP_le:∀ (pg:List PageSay) (a n:Nat),lowP a pg≤n ↔ a≤n∧∀ P∈pg,P.drop≤n
 | [],a,n=>by simp [lowP]
 | P :: pg,a,n=>by
  show lowP (max a P.drop) pg≤n ↔ _
  rw [lowP_le pg]
  simp only [List.mem_cons]
  constructor
  ·rintro ⟨h1,h2⟩
   refine ⟨by omega,?_⟩
   rintro Q (rfl | hQ)
   ·omega
   ·exact h2 Q hQ
  ·rintro ⟨h1,h2⟩
   exact ⟨by have:=h2 P (.inl rfl);omega,fun Q hQ=>h2 Q (.inr hQ)⟩
theorem lowFold_le:∀ (l:List Part) (a n:Nat),l.foldl (fun n x=>lowP n x.pages) a≤n ↔ a≤n∧∀ p∈l,∀ P∈p.pages,P.drop≤n
 | [],a,n=>by simp
 | p :: l,a,n=>by
  rw [List.foldl_cons,lowFold_le l,lowP_le]
  simp only [List.mem_cons]
  constructor
  ·rintro ⟨⟨h1,h2⟩,h3⟩
   refine ⟨h1,?_⟩
   rintro q (rfl | hq)
   ·exact h2
   ·exact h3 q hq
  ·rintro ⟨h1,h2⟩
   exact ⟨⟨h1,h2 p (.inl rfl)⟩,fun q hq=>h2 q (.inr hq)⟩
theorem lowL_le {l:List Part} {n:Nat}:lowL l≤n ↔ ∀ p∈l,∀ P∈p.pages,P.drop≤n:=by
 unfold lowL
 rw [lowFold_le]
 simp
theorem lowL_ge {l:List Part} {p:Part} (hp:p∈l) {P:PageSay} (hP:P∈p.pages):P.drop≤lowL l:=lowL_le.1 (Nat.le_refl _) p hp P hP
theorem lowL_at (l:List Part):lowL l=0∨∃ p∈l,∃ P∈p.pages,P.drop=lowL l:=by
 by_cases h0:lowL l=0
 ·exact .inl h0
 ·refine .inr (Classical.byContradiction fun hn=>?_)
  have:lowL l≤lowL l - 1:=lowL_le.2 fun p hp P hP=>by
   have h1:=lowL_ge hp hP
   have h2:P.drop≠lowL l:=fun e=>hn ⟨p,hp,P,hP,e⟩
   omega
  omega
theorem lowL_none {l m:List Part} (h:∀ x∈m,x.pages=[]):lowL (l ++ m)=lowL l:=by
 refine Nat.le_antisymm (lowL_le.2 fun p hp P hP=>?_) (lowL_le.2 fun p hp P hP=>lowL_ge (List.mem_append_left m hp) hP)
 rcases List.mem_append.1 hp with hp | hp
 ·exact lowL_ge hp hP
 ·rw [h p hp] at hP;cases hP
theorem lowL_page (l:List Part) (p:Part) (P:PageSay):lowL (l ++ [{ p with pages:=p.pages ++ [P] }])=max (lowL (l ++ [p])) P.drop:=by
 rw [lowL_snoc,lowL_snoc]
 unfold lowP
 simp only
 rw [List.foldl_append];rfl
def told (l:List Part):List Fact:=factsP (lowL l) l
def Rising (l:List Part):Prop:=l.Pairwise fun a b=>a.seq<b.seq
def Drops (l:List Part):Prop:=∀ p∈l,∀ P∈p.pages,P.drop≤p.seq
structure Behind (l l':List Part) (n:Nat):Prop where
 ex:∃ m,l'=l ++ m∧(∀ x∈m,x.pages=[])∧∀ x∈m,n<x.seq
theorem Behind.facts {l l':List Part} {n:Nat} (h:Behind l l' n):(∀ k,factsP k l'=factsP k l)∧lowL l'=lowL l∧told l'=told l:=by
 obtain ⟨m,rfl,h1,_⟩:=h.ex
 have e:=lowL_none (l:=l) h1
 refine ⟨fun k=>factsP_none h1,e,?_⟩
 unfold told
 rw [e,factsP_none h1]
theorem Behind.trans {l m k:List Part} {a b:Nat} (h:Behind l m a) (g:Behind m k b) (hab:a≤b):Behind l k a:=by
 obtain ⟨x,rfl,h1,h2⟩:=h.ex
 obtain ⟨y,rfl,g1,g2⟩:=g.ex
 refine ⟨⟨x ++ y,by simp,fun z hz=>?_,fun z hz=>?_⟩⟩
 ·rcases List.mem_append.1 hz with hz | hz
  ·exact h1 z hz
  ·exact g1 z hz
 ·rcases List.mem_append.1 hz with hz | hz
  ·exact h2 z hz
  ·exact Nat.lt_of_le_of_lt hab (g2 z hz)
theorem page_more {i t:List Part} {p:Part} (ht:∀ x∈t,x.pages=[]) (P:PageSay) :
  (∀ n,n≤p.seq→factsP n (i ++ { p with pages:=p.pages ++ [P] } :: t)=applyF (factsP n (i ++ p :: t)) P.changes)∧lowL (i ++ { p with pages:=p.pages ++ [P] } :: t)=max (lowL (i ++ p :: t)) P.drop:=by
 have e:∀ x:Part,i ++ x :: t=(i ++ [x]) ++ t:=fun x=>by simp
 rw [e,e,lowL_none ht,lowL_none ht]
 refine ⟨fun n hn=>?_,lowL_page _ _ _⟩
 rw [factsP_none ht,factsP_none ht,factsP_snoc,factsP_snoc]
 simp only
 rw [if_pos hn,if_pos hn,addP_snoc]
theorem dropped {l l':List Part} (hd:Drops l) (hl:∀ p∈l',∃ q∈l,q.seq=p.seq∧∀ P∈p.pages,P∈q.pages) (hf:(l'.filter fun x=>decide (lowL l≤x.seq))=l.filter fun x=>decide (lowL l≤x.seq)) :
  lowL l'=lowL l∧told l'=told l∧Drops l':=by
 have e:lowL l'=lowL l:=by
  refine Nat.le_antisymm (lowL_le.2 fun p hp P hP=>?_) ?_
  ·obtain ⟨q,hq,_,hs⟩:=hl p hp
   exact lowL_ge hq (hs P hP)
  ·rcases lowL_at l with h0 | ⟨p,hp,P,hP,e⟩
   ·omega
   ·have h1:=hd p hp P hP
    have h2:p∈l'.filter fun x=>decide (lowL l≤x.seq):=by
     rw [hf,List.mem_filter]
     exact ⟨hp,by simp;omega⟩
    rw [← e]
    exact lowL_ge (List.mem_filter.1 h2).1 hP
 refine ⟨e,?_,fun p hp P hP=>?_⟩
 ·unfold told
  rw [e]
  exact factsP_congr hf
 ·obtain ⟨q,hq,hs,hpg⟩:=hl p hp
  rw [← hs]
  exact hd q hq P (hpg P hP)
def heads (c:Chip):List Taken:=takenPool (scanPool c.power) c.power
theorem heads_mem {c:Chip} (h:CI c) (t:Taken):t∈heads c ↔ IsTaken c c.nb t:=now_mem h t
theorem heads_sorted {c:Chip} (h:CI c):(heads c).Pairwise (fun a b=>a.head.seq<b.head.seq):=taken_sorted (scan_inv (power_ci h) rfl).1 rfl
theorem heads_pool {P:Pool} {c:Chip} (h:Inv P c) (hd0:c.dead=false):takenPool P c=heads c :=
 sorted_ext (f:=fun t:Taken=>t.head.seq) (taken_sorted h hd0) (heads_sorted h.ci) fun x=>by rw [taken_mem h hd0,heads_mem h.ci]
def partsC (c:Chip) (era:Nat):List Part:=partsL c era (heads c)
theorem partsC_mem {c:Chip} (h:CI c) {era:Nat} {p:Part}:p∈partsC c era ↔ ∃ i,i<c.nb∧isHd c i∧(hd c i).1.kind=1∧(hd c i).1.era=era∧p=⟨i,(hd c i).1.seq,pagesS c i⟩:=by
 unfold partsC partsL
 rw [List.mem_map]
 constructor
 ·rintro ⟨t,ht,rfl⟩
  obtain ⟨h1,h2⟩:=List.mem_filter.1 ht
  obtain ⟨m1,m2,m3,m4⟩:=(heads_mem h t).1 h1
  unfold isLog at h2
  simp only [Bool.and_eq_true,decide_eq_true_eq] at h2
  rw [m3] at h2
  exact ⟨t.block,m1,m2,h2.1,h2.2,by unfold partOf;rw [m3]⟩
 ·rintro ⟨i,h1,h2,h3,h4,rfl⟩
  refine ⟨⟨i,(hd c i).1,c.isBad i⟩,List.mem_filter.2 ⟨(heads_mem h _).2 ⟨h1,h2,rfl,rfl⟩,?_⟩,rfl⟩
  unfold isLog
  simp only [Bool.and_eq_true,decide_eq_true_eq]
  exact ⟨h3,h4⟩
theorem partsC_rising {c:Chip} (h:CI c) (era:Nat):Rising (partsC c era):=by
 unfold partsC partsL Rising
 rw [List.pairwise_map]
 exact (heads_sorted h).filter _
theorem parts_ext {l m:List Part} (hl:Rising l) (hm:Rising m) (h:∀ p,p∈l ↔ p∈m):l=m:=sorted_ext (f:=Part.seq) hl hm h
theorem readParts_eq {c:Chip} (h:CI c) (hd0:c.dead=false) {era:Nat} (he:era≠0):readParts c era=partsC c era:=by
 have hr:readErr c era=0:=by unfold readErr;rw [if_neg (by rw [hd0];decide),if_neg he]
 unfold readParts
 rw [hr,if_neg (fun h=>h rfl),heads_pool (scan_inv h hd0).1 hd0]
 rfl
theorem pagesS_congr {c c':Chip} (hn:c'.np=c.np) {i:Nat} (h:∀ k,1≤k→k<c.np→c'.page i k=c.page i k):pagesS c' i=pagesS c i:=by
 unfold pagesS
 rw [hn]
 have:∀ m,m≤c.np→pagesTo c' i m=pagesTo c i m:=by
  intro m
  induction m with
  | zero=>intro _;rfl
  | succ m ih =>
   intro hm
   by_cases h0:m=0
   ·subst h0;rw [pagesTo_one,pagesTo_one]
   ·rw [pagesTo_succ _ _ _ (by omega),pagesTo_succ _ _ _ (by omega),ih (by omega),h m (by omega) (by omega)]
 exact this _ (Nat.le_refl _)
theorem pagesTo_open {c:Chip} (ho:c.Ok) {i k:Nat} (hi:i<c.nb) (hop:OpenFrom c i k) (hk:1≤k):∀ m,k≤m→m≤c.np→pagesTo c i m=pagesTo c i k
 | 0,h,_=>by omega
 | m+1,h,hm=>by
  by_cases e:k=m+1
  ·subst e;rfl
  ·rw [pagesTo_succ _ _ _ (by omega),pagesTo_open ho hi hop hk m (by omega) (by omega),hop.page ho hi (by omega) (by omega),pageS_blank]
   simp
theorem pagesS_new {c:Chip} (ho:c.Ok) {i:Nat} (hi:i<c.nb) (hop:OpenFrom c i 1):pagesS c i=[]:=by
 have:=ho.np1
 unfold pagesS
 rw [pagesTo_open ho hi hop (Nat.le_refl _) _ (by omega) (Nat.le_refl _),pagesTo_one]
theorem grow_parts {c c':Chip} (h:CI c) (h':CI c') (hg:c.SameGeo c') {n:Nat} (hn:∀ j,j<c.nb→isHd c j→(hd c j).1.seq≤n) (kept:∀ j,j<c.nb→isHd c j→c'.blk j=c.blk j)
  (new:∀ j,j<c.nb→¬ isHd c j→isHd c' j→n<(hd c' j).1.seq∧OpenFrom c' j 1) (era:Nat):Behind (partsC c era) (partsC c' era) n:=by
 have old:∀ j,j<c.nb→isHd c j→isHd c' j∧hd c' j=hd c j∧pagesS c' j=pagesS c j:=fun j hj hh=>by
  have e:=kept j hj hh
  exact ⟨(isHd_blk hg e).2 hh,hd_blk hg e,pagesS_congr hg.2.1 fun k _ _=>page_blk hg e⟩
 have hr:=partsC_rising h era
 have hr':=partsC_rising h' era
 have hle:∀ p∈partsC c era,p.seq≤n:=fun p hp=>by
  obtain ⟨i,h1,h2,_,_,rfl⟩:=(partsC_mem h).1 hp
  exact hn i h1 h2
 refine ⟨⟨(partsC c' era).filter fun p=>decide (n<p.seq),parts_ext hr' ?_ fun p=>?_,fun x hx=>?_,fun x hx=>?_⟩⟩
 ·unfold Rising
  rw [List.pairwise_append]
  refine ⟨hr,hr'.filter _,fun a ha b hb=>?_⟩
  have h1:=hle a ha
  have h2:=of_decide_eq_true (List.mem_filter.1 hb).2
  omega
 ·rw [List.mem_append,List.mem_filter,decide_eq_true_eq]
  constructor
  ·intro hp
   obtain ⟨i,h1,h2,h3,h4,e⟩:=(partsC_mem h').1 hp
   rw [hg.1] at h1
   by_cases hh:isHd c i
   ·obtain ⟨_,o2,o3⟩:=old i h1 hh
    rw [o2] at h3 h4 e
    rw [o3] at e
    exact .inl ((partsC_mem h).2 ⟨i,h1,hh,h3,h4,e⟩)
   ·have:=(new i h1 hh h2).1
    refine .inr ⟨hp,?_⟩
    rw [e];exact this
  ·rintro (hp | hp)
   ·obtain ⟨i,h1,h2,h3,h4,e⟩:=(partsC_mem h).1 hp
    obtain ⟨o1,o2,o3⟩:=old i h1 h2
    rw [← o2] at h3 h4 e
    rw [← o3] at e
    exact (partsC_mem h').2 ⟨i,by rw [hg.1];exact h1,o1,h3,h4,e⟩
   ·exact hp.1
 ·obtain ⟨hx1,hx2⟩:=List.mem_filter.1 hx
  have hx2:=of_decide_eq_true hx2
  obtain ⟨i,h1,h2,h3,h4,rfl⟩:=(partsC_mem h').1 hx1
  have h1':=h1
  rw [hg.1] at h1'
  have hh:¬ isHd c i:=fun hh=>by
   have:=hn i h1' hh
   rw [(old i h1' hh).2.1] at hx2
   have hx2':n<(hd c i).1.seq:=hx2
   omega
  exact pagesS_new h'.ok h1 (new i h1' hh h2).2
 ·exact of_decide_eq_true (List.mem_filter.1 hx).2
theorem write_parts {c c':Chip} (h:CI c) (h':CI c') (hg:c.SameGeo c') {i k:Nat} (hi:i<c.nb) (hk:1≤k) (hkn:k<c.np) (hh:isHd c i) (hhd:hd c' i=hd c i) (hoth:∀ j,j≠i→c'.blk j=c.blk j) (hpg:∀ j,j≠k→c'.page i j=c.page i j)
  (hop:OpenFrom c i k) (hop':OpenFrom c' i (k+1)) {era:Nat} {a t:List Part} {p:Part} (hp:partsC c era=a ++ p :: t) (hpb:p.block=i) :
  partsC c' era=a ++ { p with pages:=p.pages ++ (pageS k (c'.page i k)).toList } :: t:=by
 have hr:=partsC_rising h era
 have hr':=partsC_rising h' era
 have hpm:p∈partsC c era:=by rw [hp];simp
 have hpe:p=⟨i,(hd c i).1.seq,pagesS c i⟩:=by
  obtain ⟨j,_,_,_,_,e⟩:=(partsC_mem h).1 hpm
  have:j=i:=by
   have h1:p.block=(j:Int):=by rw [e]
   omega
  rw [← this];exact e
 have hpages:pagesS c' i=pagesS c i ++ (pageS k (c'.page i k)).toList:=by
  unfold pagesS
  rw [pagesTo_open h.ok hi hop hk _ (by omega) (Nat.le_refl _),pagesTo_open h'.ok (by rw [hg.1];exact hi) hop' (by omega) _ (by rw [hg.2.1];omega) (Nat.le_refl _),pagesTo_succ _ _ _ hk]
  congr 1
  have:∀ m,m≤k→pagesTo c' i m=pagesTo c i m:=by
   intro m
   induction m with
   | zero=>intro _;rfl
   | succ m ih =>
    intro hm
    by_cases h0:m=0
    ·subst h0;rw [pagesTo_one,pagesTo_one]
    ·rw [pagesTo_succ _ _ _ (by omega),pagesTo_succ _ _ _ (by omega),ih (by omega),hpg m (by omega)]
  exact this _ (Nat.le_refl _)
 have hrise:Rising (a ++ { p with pages:=p.pages ++ (pageS k (c'.page i k)).toList } :: t):=by
  unfold Rising at hr ⊢
  rw [hp] at hr
  rw [List.pairwise_append,List.pairwise_cons] at hr ⊢
  obtain ⟨r1,⟨r2,r3⟩,r4⟩:=hr
  refine ⟨r1,⟨r2,r3⟩,fun x hx y hy=>?_⟩
  rcases List.mem_cons.1 hy with rfl | hy
  ·exact r4 x hx p (by simp)
  ·exact r4 x hx y (by simp [hy])
 have hnew:({ p with pages:=p.pages ++ (pageS k (c'.page i k)).toList }:Part)=⟨i,(hd c' i).1.seq,pagesS c' i⟩:=by
  rw [hpages,hhd,hpe]
 have hother:∀ q,q∈a∨q∈t→q.seq≠p.seq:=by
  rw [hp] at hr
  unfold Rising at hr
  rw [List.pairwise_append,List.pairwise_cons] at hr
  obtain ⟨_,⟨r2,_⟩,r4⟩:=hr
  rintro q (hq | hq)
  ·have:=r4 q hq p (by simp);omega
  ·have:=r2 q hq;omega
 refine parts_ext hr' hrise fun q=>?_
 have hin:q∈a∨q∈t ↔ ∃ j,j≠i∧j<c.nb∧isHd c j∧(hd c j).1.kind=1∧(hd c j).1.era=era∧q=⟨j,(hd c j).1.seq,pagesS c j⟩:=by
  constructor
  ·intro hq
   have hq':q∈partsC c era:=by
    rw [hp]
    rcases hq with hq | hq
    ·exact List.mem_append_left _ hq
    ·simp [hq]
   obtain ⟨j,h1,h2,h3,h4,e⟩:=(partsC_mem h).1 hq'
   refine ⟨j,fun ej=>hother q hq ?_,h1,h2,h3,h4,e⟩
   rw [e,hpe,ej]
  ·rintro ⟨j,hji,h1,h2,h3,h4,e⟩
   have hq':q∈partsC c era:=(partsC_mem h).2 ⟨j,h1,h2,h3,h4,e⟩
   rw [hp] at hq'
   rcases List.mem_append.1 hq' with hq' | hq'
   ·exact .inl hq'
   ·rcases List.mem_cons.1 hq' with e' | hq'
    ·rw [e',hpe] at e
     have:(i:Int)=(j:Int):=by injection e
     omega
    ·exact .inr hq'
 rw [partsC_mem h',List.mem_append,List.mem_cons,hnew]
 constructor
 ·rintro ⟨j,h1,h2,h3,h4,e⟩
  rw [hg.1] at h1
  by_cases hji:j=i
  ·subst hji;exact .inr (.inl e)
  ·have eb:=hoth j hji
   have e1:=hd_blk hg eb
   have e2:=isHd_blk hg eb
   have e3:pagesS c' j=pagesS c j:=pagesS_congr hg.2.1 fun k _ _=>page_blk hg eb
   rw [e1] at h3 h4 e
   rw [e3] at e
   rcases hin.2 ⟨j,hji,h1,e2.1 h2,h3,h4,e⟩ with hq | hq
   ·exact .inl hq
   ·exact .inr (.inr hq)
 ·intro hq
  have back:(q∈a∨q∈t)→∃ j,j<c'.nb∧isHd c' j∧(hd c' j).1.kind=1∧(hd c' j).1.era=era∧q=⟨j,(hd c' j).1.seq,pagesS c' j⟩:=fun hq=>by
   obtain ⟨j,hji,h1,h2,h3,h4,e⟩:=hin.1 hq
   have eb:=hoth j hji
   have e3:pagesS c' j=pagesS c j:=pagesS_congr hg.2.1 fun k _ _=>page_blk hg eb
   exact ⟨j,by rw [hg.1];exact h1,(isHd_blk hg eb).2 h2,by rw [hd_blk hg eb];exact h3,by rw [hd_blk hg eb];exact h4,by rw [hd_blk hg eb,e3];exact e⟩
  rcases hq with hq | hq | hq
  ·exact back (.inl hq)
  ·obtain ⟨j,h1,h2,h3,h4,e⟩:=(partsC_mem h).1 hpm
   have hji:j=i:=by
    rw [hpe] at e
    have:(i:Int)=(j:Int):=by injection e
    omega
   subst hji
   exact ⟨j,by rw [hg.1];exact hi,by unfold isHd;rw [hhd];exact hh,by rw [hhd];exact h3,by rw [hhd];exact h4,hq⟩
  ·exact back (.inr hq)
theorem erase_parts {c c':Chip} (h:CI c) (h':CI c') (hg:c.SameGeo c') {i:Nat} (hoth:∀ j,j≠i→c'.blk j=c.blk j) (keep:isHd c' i→isHd c i∧hd c' i=hd c i) (hpg:∀ P∈pagesS c' i,P∈pagesS c i) (era:Nat) :
  (∀ p∈partsC c' era,∃ q∈partsC c era,q.seq=p.seq∧∀ P∈p.pages,P∈q.pages)∧
   ∀ n,(isHd c i→(hd c i).1.seq<n)→((partsC c' era).filter fun x=>decide (n≤x.seq))=(partsC c era).filter fun x=>decide (n≤x.seq):=by
 have same:∀ j,j≠i→hd c' j=hd c j∧(isHd c' j ↔ isHd c j)∧pagesS c' j=pagesS c j:=fun j hj =>
  ⟨hd_blk hg (hoth j hj),isHd_blk hg (hoth j hj),pagesS_congr hg.2.1 fun k _ _=>page_blk hg (hoth j hj)⟩
 refine ⟨fun p hp=>?_,fun n hn=>?_⟩
 ·obtain ⟨j,h1,h2,h3,h4,e⟩:=(partsC_mem h').1 hp
  rw [hg.1] at h1
  by_cases hji:j=i
  ·subst hji
   obtain ⟨k1,k2⟩:=keep h2
   rw [k2] at h3 h4
   refine ⟨_,(partsC_mem h).2 ⟨j,h1,k1,h3,h4,rfl⟩,by rw [e,k2],fun P hP=>?_⟩
   rw [e] at hP
   exact hpg P hP
  ·obtain ⟨s1,s2,s3⟩:=same j hji
   rw [s1] at h3 h4
   exact ⟨_,(partsC_mem h).2 ⟨j,h1,s2.1 h2,h3,h4,rfl⟩,by rw [e,s1],fun P hP=>by rw [e] at hP;rw [← s3];exact hP⟩
 ·refine parts_ext ((partsC_rising h' era).filter _) ((partsC_rising h era).filter _) fun p=>?_
  rw [List.mem_filter,List.mem_filter,partsC_mem h',partsC_mem h,decide_eq_true_eq]
  constructor
  ·rintro ⟨⟨j,h1,h2,h3,h4,e⟩,hs⟩
   rw [hg.1] at h1
   have hji:j≠i:=fun ej=>by
    subst ej
    obtain ⟨k1,k2⟩:=keep h2
    have:=hn k1
    rw [e,k2] at hs
    have hs':n≤(hd c j).1.seq:=hs
    omega
   obtain ⟨s1,s2,s3⟩:=same j hji
   rw [s1] at h3 h4 e
   rw [s3] at e
   exact ⟨⟨j,h1,s2.1 h2,h3,h4,e⟩,hs⟩
  ·rintro ⟨⟨j,h1,h2,h3,h4,e⟩,hs⟩
   have hji:j≠i:=fun ej=>by
    subst ej
    have:=hn h2
    rw [e] at hs
    have hs':n≤(hd c j).1.seq:=hs
    omega
   obtain ⟨s1,s2,s3⟩:=same j hji
   exact ⟨⟨j,by rw [hg.1];exact h1,s2.2 h2,by rw [s1];exact h3,by rw [s1];exact h4,by rw [s1,s3];exact e⟩,hs⟩
def AllSafe (c:Chip):Prop:=∀ i k,i<c.nb→k<c.np→Safe (c.page i k)
theorem AllSafe.up {c c':Chip} (h:AllSafe c) (hg:c.SameGeo c') {i:Nat} (hoth:∀ j,j≠i→c'.blk j=c.blk j) (hi:i<c.nb→∀ k,k<c.np→Safe (c'.page i k)):AllSafe c':=fun j k hj hk=>by
 rw [hg.1] at hj
 rw [hg.2.1] at hk
 by_cases e:j=i
 ·subst e;exact hi hj k hk
 ·rw [page_blk hg (hoth j e)];exact h j k hj hk
theorem erase_sub {c:Chip} (h:c.Ok) (hd0:c.dead=false) {i:Nat} (hi:i<c.nb) (hb:c.isBad i=false) (k:Nat):SubL (c.page i k) ((c.erase i).1.page i k):=by
 rw [erase_done h hd0 hi hb]
 obtain ⟨hde,hbl,_⟩:=done_deed h hi (off:=0) (n:=c.np * c.sz) (by omega) (List.replicate (c.np * c.sz) 255)
 generalize c.done i 0 (c.np * c.sz) (List.replicate (c.np * c.sz) 255)=r at *
 have hlen:=h.blk_len hi
 have hmb:madeBlk c i 0 (c.np * c.sz) (List.replicate (c.np * c.sz) 255)=mixL c.strike.2 (c.blk i) (List.replicate (c.np * c.sz) 255):=by
  unfold madeBlk
  rw [Nat.zero_add,List.drop_zero,List.take_zero,List.nil_append,List.take_of_length_le (show (c.blk i).length≤c.np * c.sz by omega),List.drop_of_length_le (show (c.blk i).length≤c.np * c.sz by omega),List.append_nil]
 rw [hmb] at hbl
 have hsub:SubL (c.blk i) (r.1.blk i):=by rw [hbl];exact mixL_erase _ _ _ (by omega)
 unfold Chip.page
 rw [hde.geo.2.2.1]
 exact (hsub.drop _).take _
theorem erase_safe {c:Chip} (h:CI c) (hs:AllSafe c) (hd0:c.dead=false) {i:Nat} (hi:i<c.nb) (hb:c.isBad i=false):AllSafe (c.erase i).1:=by
 have hde:Deed c (c.erase i).1 i (c.erase i).2:=by
  rw [erase_done h.ok hd0 hi hb]
  exact (done_deed h.ok hi (off:=0) (n:=c.np * c.sz) (by omega) _).1
 exact hs.up hde.geo hde.blk fun _ k hk=>(hs i k hi hk).up (erase_sub h.ok hd0 hi hb k)
theorem wrote_safe {c c':Chip} {i k e:Nat} {pg:List UInt8} (hs:AllSafe c) (w:Wrote c c' i k e pg) (hpg:Sound pg):AllSafe c' :=
 hs.up w.deed.geo w.deed.blk fun hi j hj=>by
  by_cases e:j=k
  ·subst e;exact ⟨pg,hpg,w.sub⟩
  ·rw [w.other j e];exact hs i j hi hj
theorem head_sound {c:Chip} (hok:c.Ok) {P:Pool} {kind:UInt8} {era:Nat} (hk1:1≤kind.toNat) (hk3:kind.toNat≤3) (he1:1≤era) (hl:P.last+1<18446744073709551616):Sound (putHead c.sz ⟨kind,era,P.raise.last⟩).1:=by
 have hlast:P.raise.last=P.last+1:=Nat.mod_eq_of_lt hl
 have h1:=hok.sz1
 have h2:=hok.sz2
 have hsz:isSize (c.sz:Int)=true:=by simp [isSize];omega
 have hm:(Head.mk kind era (P.last+1)).may=true:=by
  simp [Head.may];omega
 have hput:putHead c.sz ⟨kind,era,P.raise.last⟩= (pageOf c.sz 1 (Head.mk kind era (P.last+1)).body,0):=by
  unfold putHead
  rw [hlast,if_neg (by rw [hm,hsz];simp)]
  simp
 have hbody:=(Head.mk kind era (P.last+1)).body_length
 rw [hput]
 exact pageOf_sound (by omega) (by omega)
theorem write_safe {P:Pool} {c:Chip} (h:CI c) (hs:AllSafe c) (hd0:c.dead=false) {i:Nat} (hi:i<c.nb) (hb:c.isBad i=false) (hbl:isBlank (c.blk i)=true) {kind:UInt8} {era:Nat} (hk1:1≤kind.toNat) (hk3:kind.toNat≤3) (he1:1≤era) (hl:P.last+1<18446744073709551616):AllSafe (writeHead P c i kind era).2.1:=by
 have hnp:=h.ok.np1
 exact wrote_safe hs (program_wrote h.ok hd0 hi (k:=0) (by omega) hb (OpenFrom.of_blank hbl) (putHead_len h.ok (P:=P) hk1 hk3 he1 hl)) (head_sound h.ok hk1 hk3 he1 hl)
theorem try_safe {P:Pool} {c:Chip} (h:Inv P c) (hs:AllSafe c) (hd0:c.dead=false) {i:Nat} (hi:i<c.nb) (hb:c.isBad i=false) (hw:(P.blk i).what≠2) {kind:UInt8} {era:Nat} (hk1:1≤kind.toNat) (hk3:kind.toNat≤3) (he1:1≤era) (hl:P.last+1<18446744073709551616):AllSafe (tryBlk P c i kind era).2.1:=by
 have hkn:=h.known hd0 i hi
 unfold tryBlk
 split
 ·obtain ⟨hde,hinv,hz,hk⟩:=erase_inv h hd0 hi hb
  have h1:=erase_safe h.ci hs hd0 hi hb
  split
  ·exact h1
  ·rename_i heq
   have h0:(c.erase i).2=0:=Classical.byContradiction heq
   have hdd:(c.erase i).1.dead=c.dead∧(c.erase i).1.bad=c.bad:=by
    rcases hde.cases with ⟨_,a,b⟩| ⟨a,_⟩| ⟨a,_⟩
    ·exact ⟨a,b⟩
    ·omega
    ·omega
   exact write_safe (P:=P.relook (c.erase i).1 i) hinv.ci h1 (by rw [hdd.1];exact hd0) (by rw [hde.geo.1];exact hi) (by unfold Chip.isBad;rw [hdd.2];exact hb) (by rw [hz h0];exact isBlank_replicate _) hk1 hk3 he1 hl
 ·rename_i h1
  have hbk:isBlank (c.blk i)=true:=by
   rw [hkn] at h1 hw
   exact view_zero (view_one hw h1)
  exact write_safe h.ci hs hd0 hi hb hbk hk1 hk3 he1 hl
theorem takeGo_safe {kind:UInt8} {era:Nat} (hk1:1≤kind.toNat) (hk3:kind.toNat≤3) (he1:1≤era) (he2:era<4294967296):∀ (ks:List Nat) {P:Pool} {c:Chip},Inv P c→AllSafe c→c.dead=false→P.last+ks.length<18446744073709551616→
  AllSafe (takeGo kind era P c ks).chip∧((takeGo kind era P c ks).err≠10→∀ j,j<c.nb→¬ isHd c j→isHd (takeGo kind era P c ks).chip j→(takeGo kind era P c ks).chip.isBad j=true∨((takeGo kind era P c ks).err=0∧j=(takeGo kind era P c ks).block))
 | [],P,c,h,hs,hd0,hl=>⟨hs,fun _ j _ hn hh=>absurd hh hn⟩
 | k :: ks,P,c,h,hs,hd0,hl=>by
  have hnb:=h.ci.ok.nb1
  have hmod:(P.turn+k) % c.nb<c.nb:=Nat.mod_lt _ (by omega)
  simp only [List.length_cons] at hl
  unfold takeGo
  split
  ·exact takeGo_safe hk1 hk3 he1 he2 ks h hs hd0 (by omega)
  ·rename_i hno
   have hb:c.isBad ((P.turn+k) % c.nb)=false:=by
    cases hbb:c.isBad ((P.turn+k) % c.nb) with
    | false=>rfl
    | true=>exact absurd (.inl hbb) hno
   have hw:(P.blk ((P.turn+k) % c.nb)).what≠2:=fun e=>hno (.inr e)
   have o1:=try_safe h hs hd0 hmod hb hw hk1 hk3 he1 (by omega)
   have tr:=try_inv h hd0 hmod hb hw hk1 hk3 he1 he2 (by omega)
   generalize hi:(P.turn+k) % c.nb=i at *
   generalize hT:tryBlk P c i kind era=T at *
   have one:∀ j,j<c.nb→¬ isHd c j→isHd T.2.1 j→j=i:=fun j hj hn hh =>
    Classical.byContradiction fun e=>hn ((isHd_blk tr.deed.geo (tr.deed.blk j e)).1 hh)
   split
   ·exact ⟨o1,fun _ j hj hn hh=>.inr ⟨rfl,one j hj hn hh⟩⟩
   split
   ·exact ⟨o1,fun h10=>absurd rfl h10⟩
   ·rename_i h0 h10
    obtain ⟨hd1,hbi⟩: T.2.1.dead=false∧T.2.1.isBad i=true:=by
     rcases tr.deed.cases with ⟨a,_⟩| ⟨_,a,b⟩| ⟨a,_⟩
     ·exact absurd a h0
     ·exact ⟨by rw [a];exact hd0,b⟩
     ·exact absurd a h10
    have hhi:=tr.hi
    obtain ⟨r1,r2⟩:=takeGo_safe hk1 hk3 he1 he2 ks tr.inv o1 hd1 (by omega)
    have tp:=takeGo_inv hk1 hk3 he1 he2 ks tr.inv hd1 (by omega)
    have hnbT:T.2.1.nb=c.nb:=tr.deed.geo.1
    refine ⟨r1,fun hne j hj hn hh=>?_⟩
    by_cases hh1:isHd T.2.1 j
    ·have e:=one j hj hn hh1
     subst e
     exact .inl (tp.bads _ (by rw [hnbT];exact hj) hbi)
    ·exact r2 hne j (by rw [hnbT];exact hj) hh1 hh
def isHdB (c:Chip) (j:Nat):Bool:=decide ((hd c j).2=0)
theorem isHdB_iff {c:Chip} {j:Nat}:isHdB c j=true ↔ isHd c j:=by unfold isHdB isHd;simp
def lives (n:Nat) (c:Chip):Nat:=((List.range c.nb).filter fun j=>(isHdB c j && !c.isBad j) && decide (n≤(hd c j).1.seq)).length
def badsC (c:Chip):Nat:=((List.range c.nb).filter fun j=>c.isBad j).length
theorem filter_count {n:Nat} {p q:Nat→Bool} (h:∀ j,j<n→p j=true→q j=true):((List.range n).filter p).length≤((List.range n).filter q).length :=
 sub_len (List.Pairwise.filter _ List.nodup_range) fun x hx=>by
  obtain ⟨h1,h2⟩:=List.mem_filter.1 hx
  exact List.mem_filter.2 ⟨h1,h x (by simpa using h1) h2⟩
theorem filter_count_one {n i:Nat} {p q:Nat→Bool} (h:∀ j,j<n→p j=true→q j=true∨j=i):((List.range n).filter p).length≤((List.range n).filter q).length+1:=by
 have h1:((List.range n).filter p).length≤(i :: (List.range n).filter q).length:=sub_len (List.Pairwise.filter _ List.nodup_range) fun x hx=>by
  obtain ⟨h1,h2⟩:=List.mem_filter.1 hx
  rcases h x (by simpa using h1) h2 with h3 | h3
  ·exact List.mem_cons_of_mem _ (List.mem_filter.2 ⟨h1,h3⟩)
  ·rw [h3];simp
 simpa using h1
theorem filter_count_less {n i:Nat} {p q:Nat→Bool} (hi:i<n) (h:∀ j,j<n→p j=true→q j=true∧j≠i) (hq:q i=true):((List.range n).filter p).length+1≤((List.range n).filter q).length:=by
 have h1:(i :: (List.range n).filter p).length≤((List.range n).filter q).length:=by
  refine sub_len (List.nodup_cons.2 ⟨fun hx=>?_,List.Pairwise.filter _ List.nodup_range⟩) fun x hx=>?_
  ·obtain ⟨h1,h2⟩:=List.mem_filter.1 hx
   exact (h i hi h2).2 rfl
  ·rcases List.mem_cons.1 hx with rfl | hx
   ·exact List.mem_filter.2 ⟨by simpa using hi,hq⟩
   ·obtain ⟨h1,h2⟩:=List.mem_filter.1 hx
    exact List.mem_filter.2 ⟨h1,(h x (by simpa using h1) h2).1⟩
 simpa using h1
theorem three_parts (n:Nat) (p q:Nat→Bool):((List.range n).filter fun j=>p j && !q j).length+((List.range n).filter fun j=>q j).length+((List.range n).filter fun j=> !p j && !q j).length=n:=by
 induction n with
 | zero=>rfl
 | succ n ih =>
  rw [List.range_succ]
  simp only [List.filter_append,List.length_append,List.filter_cons,List.filter_nil]
  cases p n<;>cases q n<;>simp<;>omega
theorem blocks_count {P:Pool} {c:Chip} (h:Inv P c) (hd0:c.dead=false):lives 0 c+badsC c+blanksPool P c=c.nb:=by
 have e:blanksPool P c=((List.range c.nb).filter fun j=> !isHdB c j && !c.isBad j).length:=by
  unfold blanksPool
  congr 1
  refine List.filter_congr fun j hj=>?_
  have hj':j<c.nb:=by simpa using hj
  congr 1
  rw [Bool.eq_iff_iff,decide_eq_true_eq,Bool.not_eq_true',← Bool.not_eq_true,isHdB_iff]
  exact not_congr (h.what hd0 hj')
 have e2:lives 0 c=((List.range c.nb).filter fun j=>isHdB c j && !c.isBad j).length:=by
  unfold lives
  congr 1
  exact List.filter_congr fun j _=>by simp
 rw [e,e2]
 exact three_parts c.nb (isHdB c) c.isBad
theorem ends_Row_spec {w:World} {a:Option Addr} {b:List UInt8} {c:Nat} (hb:BytesAt w a b) :
  CallsR prog K.ends_Row #[.slice a b.length c] w fun v w'=>BytesOut w w' v (rowB b).1 (rowB b).2:=by
 apply ends_Row.sh
 suffices H:∀ R:Value→World→Prop,(∀ v w',BytesOut w w' v (rowB b).1 (rowB b).2→R v w')→ends_Row.body a b.length c w R from H _ fun _ _ h=>h
 intro R hR
 unfold ends_Row.body
 refine br_dec (fun hl=>?_) fun hl=>?_
 ·have h:rowB b=([],3):=by unfold rowB;rw [if_neg (by omega)]
  rw [h] at hR
  exact hR _ _ (BytesOut.none (e:=3) (Upd.refl _ _))
 ·have h:rowB b=(UInt8.ofNat b.length :: b,0):=by unfold rowB;rw [if_pos (by omega)]
  rw [h] at hR
  intro B1 w₁ hn1
  rw [bv_mod,Nat.mod_eq_of_lt (by omega)] at hn1
  have hs1:=hn1.size
  refine BList.cat (l:=[UInt8.ofNat b.length]) (S:=w.heap.size) (BList.new hn1 rfl (Nat.le_refl _)) rfl rfl (hb.ext hn1.upd) (by simp;omega) (by omega) fun a' c' w' hu hl'=>?_
  exact hR _ _ ⟨a',c',rfl,hl',hn1.upd.own hu (Nat.le_refl _)⟩
theorem fact_PutKey_spec (k:Key) (hn:k.name.size<9223372036854775807) (w:World) :
  CallsR prog K.fact_PutKey #[keyV k] w fun v w'=>BytesOut w w' v (putKeyB k).1 (putKeyB k).2:=by
 apply fact_PutKey.sh
 suffices H:∀ R:Value→World→Prop,(∀ v w',BytesOut w w' v (putKeyB k).1 (putKeyB k).2→R v w')→fact_PutKey.body k.ino k.what.toNat k.name k.chunk w R from H _ fun _ _ h=>h
 intro R hR
 unfold fact_PutKey.body
 simp only [add_lit,Nat.zero_add]
 intro B1 w₁ hn1
 have g1:KeyAt w₁ B1 k:=hn1.get
 have hb1:B1=w.heap.size:=hn1.num
 have hs1:=hn1.size
 refine ⟨_,_,_,_,key_cells g1,(fact_MayKey_spec k hn w₁).mono ?_⟩
 rintro _ w₂ ⟨rfl,he2⟩
 have g2:KeyAt w₂ B1 k:=Ext.get he2 g1
 have e2:Ext w w₂:=hn1.upd.trans he2
 have hs2:=he2.size
 refine ⟨_,rfl,br_intro (fun hm=>?_) fun hm=>?_⟩
 ·have h:putKeyB k=([],2):=by unfold putKeyB;rw [if_neg (by simpa using hm)]
  rw [h] at hR
  exact hR _ _ (BytesOut.none (e:=2) e2)
 have hm':k.may=true:=by simpa using hm
 have h:putKeyB k=(keyB k,0):=by unfold putKeyB;rw [if_pos hm']
 rw [h] at hR
 obtain ⟨h1,h2,h3⟩:=Key.may_elim hm'
 obtain ⟨n,hn0⟩: ∃ n:Nat,k.ino=n:=⟨k.ino.toNat,by omega⟩
 refine ⟨_,cell_of g2 rfl,?_⟩
 rw [hn0,wu64 (by omega) (by omega)]
 refine (ends_Put_own n 2 w₂ (by rfl) (by omega)).mono ?_
 rintro _ w₃ ⟨a1,c1,rfl,ho3,hf3,he3⟩
 have e3:=e2.trans he3
 have hs3:=he3.size
 have g3:KeyAt w₃ B1 k:=Ext.get he3 g2
 have hlb:(leB n 2).length=2:=leB_length 2 n
 have hbase:BList w₂.heap.size w₃ a1 c1 (leB n 2):=⟨by rw [hlb];exact ho3,fun b hb=>hf3 _ hb⟩
 refine ⟨_,_,_,_,rfl,_,cell_of g3 rfl,fun B2 w₄ hn4=>?_⟩
 have hs4:=hn4.size
 refine BList.push hbase hlb.symm hn4 (by omega) (by omega) fun a2 c2 w₅ hu5 hl5=>?_
 have e5:Ext w w₅:=e3.beyond hu5 fun x hx=>by omega
 have hs5:=hu5.size
 have g5:KeyAt w₅ B1 k:=hu5.get g3 (by omega)
 have hnn:k.ino.toNat=n:=by omega
 refine ⟨_,cell_of g5 rfl,br_eq (fun hw=>?_) fun hw=>br_eq (fun hw3=>?_) fun hw3=>?_⟩
 ·have hw':k.what=2:=UInt8.toNat_inj.1 (by show k.what.toNat=2;omega)
  have hname:isName k.bytes=true:=by
   rcases h3 with ⟨h,_⟩| ⟨_,h,_⟩| ⟨h,_⟩
   ·rw [hw'] at h;cases h
   ·exact h
   ·rw [hw'] at h;cases h
  have hlen:=isName_len hname
  have hbs:k.name.size=k.bytes.length:=size_data _
  have hkey:keyB k=leB n 2 ++ [k.what] ++ (UInt8.ofNat k.bytes.length :: k.bytes):=by unfold keyB;rw [if_pos hw',hnn]
  refine ⟨_,cell_of g5 rfl,fun cap B3 w₆ hcap hn6=>?_⟩
  have hs6:=hn6.size
  have hsd:w₅.drew.heap.size=w₅.heap.size:=rfl
  have e56:Ext w₅ w₆:=(drew_upd w₅).trans hn6.upd
  have hrow:BytesAt w₆ (some ⟨B3,0,none⟩) k.bytes:=RowAt.of hn6.get fun j v hj=>by
   simp only [Nat.zero_add,List.getElem?_toArray]
   have hj':(k.name.data.toList.map bv)[j]?=some v:=hj
   rw [List.getElem?_append_left (by simpa using (List.getElem?_eq_some_iff.1 hj').1)]
   exact hj'
  rw [hbs]
  refine (ends_Row_spec (c:=cap) hrow).mono ?_
  have hrb:rowB k.bytes=(UInt8.ofNat k.bytes.length :: k.bytes,0):=by unfold rowB;rw [if_pos (by omega)]
  rw [hrb]
  rintro _ w₇ ⟨a4,c4,rfl,hl7,he7⟩
  have e57:=e56.trans he7
  refine ⟨_,_,_,_,rfl,BList.cat (hl5.ext e57) rfl rfl hl7.bytes (by simp [leB_length];omega) (by have:=e57.size;omega) fun a5 c5 w₈ hu8 hl8=>?_⟩
  rw [← hkey] at hl8 ⊢
  exact hR _ _ ⟨a5,c5,rfl,hl8.weak (by omega),(e5.trans e57).beyond hu8 fun x hx=>by omega⟩
 ·have hw':k.what=3:=UInt8.toNat_inj.1 (by show k.what.toNat=3;omega)
  have hkey:keyB k=leB n 2 ++ [k.what] ++ [UInt8.ofNat k.chunk.toNat]:=by unfold keyB;rw [if_neg (by rw [hw'];decide),if_pos hw',hnn]
  have hch:0≤k.chunk∧k.chunk<8:=by
   rcases h3 with ⟨h,_⟩| ⟨h,_⟩| ⟨_,_,h⟩
   ·rw [hw'] at h;cases h
   ·rw [hw'] at h;cases h
   ·exact h
  obtain ⟨m,hm0⟩: ∃ m:Nat,k.chunk=m:=⟨k.chunk.toNat,by omega⟩
  refine ⟨_,cell_of g5 rfl,fun B3 w₆ hn6=>?_⟩
  rw [hm0,bv_mod,Nat.mod_eq_of_lt (by omega)] at hn6
  refine BList.push hl5 rfl hn6 (by simp [leB_length]) (by omega) fun a6 c6 w₇ hu7 hl7=>?_
  have hmn:k.chunk.toNat=m:=by omega
  rw [hmn] at hkey
  rw [← hkey] at hl7 ⊢
  exact hR _ _ ⟨a6,c6,rfl,hl7.weak (by omega),e5.beyond hu7 fun x hx=>by omega⟩
 ·have hkey:keyB k=leB n 2 ++ [k.what]:=by
   unfold keyB
   rw [if_neg (fun h=>hw (by rw [h];rfl)),if_neg (fun h=>hw3 (by rw [h];rfl)),hnn,List.append_nil]
  rw [← hkey] at hl5 ⊢
  exact hR _ _ ⟨a2,c2,rfl,hl5.weak (by omega),e5⟩
theorem rec_join_spec {w:World} {a:Option Addr} {bs:List (List UInt8)} {cp:Nat} (h:SlicesAt w a bs) (hn:bs.length≤1000000000) (hf:bs.flatten.length≤10000000000000) :
  CallsR prog K.rec_join #[.slice a bs.length cp] w fun v w'=>Ext w w'∧∃ a' c',v= .slice a' bs.flatten.length c'∧BList w.heap.size w' a' c' bs.flatten:=by
 apply rec_join.sh
 refine (slices_Concat_spec h hn hf).mono ?_
 rintro _ w' ⟨he,a',c',rfl,ho,hf⟩
 exact ⟨_,_,_,rfl,he,a',c',rfl,ho,fun b hb=>hf _ hb⟩
def MayOut (w w':World) (v:Value) (l:List UInt8) (b:Bool):Prop:=∃ a c,v= .tuple #[.slice a l.length c,.bool b]∧BList w.heap.size w' a c l∧Ext w w'
theorem MayOut.none {w w':World} (h:Ext w w'):MayOut w w' (.tuple #[.slice .none 0 0,.bool false]) [] false:=⟨.none,0,rfl,BList.nil _ _,h⟩
def changeB (c:Change):List UInt8:=if mayC c then chgB c else []
theorem changeV_cells {w:World} {B:Nat} {x:Change} {a:Option Addr} {c:Nat} (h:w.heap[B]?=some (.cells (changeVs x.key a x.val.length c x.gone).toArray T.api_Change (0,0))):cellsAt w ⟨B,0,none⟩ [.int .i64 x.key.ino,bv x.key.what,.string x.key.name,.int .i64 x.key.chunk] 0:=by
 refine cellsAt_of h fun j v hj=>?_
 rcases j with _ | _ | _ | _ | j
 all_goals simp at hj ⊢
 all_goals exact hj
theorem rec_change_spec (x:Change) {w:World} {a:Option Addr} {c:Nat} (hb:BytesAt w a x.val) (hn:x.key.name.size<9223372036854775807) :
  CallsR prog K.rec_change #[.agg #[.int .i64 x.key.ino,bv x.key.what,.string x.key.name,.int .i64 x.key.chunk,.slice a x.val.length c,.bool x.gone]] w fun v w'=>MayOut w w' v (changeB x) (mayC x):=by
 apply rec_change.sh
 suffices H:∀ R:Value→World→Prop,(∀ v w',MayOut w w' v (changeB x) (mayC x)→R v w')→rec_change.body x.key.ino x.key.what.toNat x.key.name x.key.chunk a x.val.length c x.gone w R from H _ fun _ _ h=>h
 intro R hR
 unfold rec_change.body
 simp only [add_lit,Nat.zero_add]
 intro B1 w₁ hn1
 have g1:w₁.heap[B1]?=some (.cells (changeVs x.key a x.val.length c x.gone).toArray T.api_Change (0,0)):=hn1.get
 have hs1:=hn1.size
 refine ⟨_,_,_,_,changeV_cells g1,(fact_PutKey_spec x.key hn w₁).mono ?_⟩
 rintro _ w₂ ⟨a1,c1,rfl,hl2,he2⟩
 have g2:=Ext.get he2 g1
 have e2:=hn1.upd.trans he2
 have hs2:=he2.size
 have fail:mayC x=false→∀ u,Ext w u→R (.tuple #[.slice none 0 0,.bool false]) u:=fun h u hu=>hR _ _ (by
  have hc:changeB x=[]:=by unfold changeB;rw [h];rfl
  rw [hc,h]
  exact MayOut.none hu)
 have hpk:putKeyB x.key=if x.key.may then (keyB x.key,0) else ([],2):=rfl
 refine ⟨_,_,_,_,rfl,fun b u=>u=w₂∧b=(!x.key.may || (x.gone && decide (0<x.val.length))),br_ne (fun hne=>?_) fun h0=>?_,?_⟩
 ·refine ⟨rfl,?_⟩
  have:x.key.may=false:=by
   cases hm:x.key.may with
   | false=>rfl
   | true=>rw [hpk,if_pos hm] at hne;exact absurd rfl hne
  rw [this];rfl
 ·have hm:x.key.may=true:=by
   cases hm:x.key.may with
   | true=>rfl
   | false=>rw [hpk,if_neg (by rw [hm];decide)] at h0;cases h0
  refine ⟨_,cell_of g2 rfl,br_intro (fun hg=>⟨_,_,_,cell_of g2 rfl,rfl,?_⟩) fun hg=>⟨rfl,?_⟩⟩
  ·rw [hm,hg]
   simp
  ·rw [hm,hg];rfl
 rintro b u ⟨rfl,rfl⟩
 refine br_intro (fun hbad=>?_) fun hok=>?_
 ·refine fail ?_ _ e2
  unfold mayC
  cases hm:x.key.may with
  | false=>rfl
  | true =>
   rw [hm] at hbad
   simp only [Bool.not_true,Bool.false_or,Bool.and_eq_true,decide_eq_true_eq] at hbad
   rw [hbad.1,if_pos rfl,decide_eq_false (by omega)];rfl
 simp only [Bool.or_eq_false_iff,Bool.not_eq_false',Bool.and_eq_false_iff,decide_eq_false_iff_not] at hok
 obtain ⟨hm,hgv⟩:=hok
 rw [hpk,if_pos hm] at hl2
 simp only [] at hl2
 rw [hpk,if_pos hm]
 have hkl:=keyB_len hm
 refine ⟨_,cell_of g2 rfl,br_intro (fun hg=>?_) fun hg=>?_⟩
 ·have hv0:x.val.length=0:=by
   rcases hgv with h | h
   ·rw [hg] at h;cases h
   ·omega
  have hmc:mayC x=true:=by unfold mayC;rw [hm,hg,if_pos rfl,decide_eq_true hv0];rfl
  have hcb:changeB x=[[0],keyB x.key].flatten:=by unfold changeB chgB;rw [hmc,hg];simp
  rw [hmc,hcb] at hR
  intro B2 w₄ hn4 B3 w₅ hn5
  have hs:SlicesAt w₅ (some ⟨B3,0,none⟩) [[0],keyB x.key]:=by
   refine ⟨_,RowAt.of hn5.get (vs:=[Value.slice (some ⟨B2,0,none⟩) 1 1,Value.slice a1 (keyB x.key).length c1]) (fun j v hj=>by simpa using hj),rfl,fun i hi=>?_⟩
   match i,hi with
   | 0,_=>exact ⟨_,_,rfl,RowAt.ext (RowAt.of hn4.get fun j v hj=>by have hj':[Value.int .u8 0][j]?=some v:=hj;simpa using hj') hn5.upd⟩
   | 1,_=>exact ⟨a1,c1,rfl,RowAt.ext hl2.bytes (hn4.upd.trans hn5.upd)⟩
  refine (rec_join_spec (cp:=2) hs (by simp) (by simp;omega)).mono ?_
  rintro _ w₆ ⟨he6,a3,c3,rfl,hl6⟩
  have e5:=e2.trans (hn4.upd.trans hn5.upd)
  exact ⟨_,_,_,rfl,hR _ _ ⟨a3,c3,rfl,hl6.weak e5.size,e5.trans he6⟩⟩
 ·refine ⟨_,_,_,cell_of g2 rfl,br_dec (fun h1=>fail ?_ _ e2) fun h1=>⟨_,_,_,cell_of g2 rfl,br_dec (fun h2=>fail ?_ _ e2) fun h2=>?_⟩⟩
  ·unfold mayC;rw [hm,hg,decide_eq_false (p:=1≤x.val.length) (by omega)];rfl
  ·unfold mayC;rw [hm,hg,decide_eq_false (p:=x.val.length≤255) (by omega)];simp
  have hmc:mayC x=true:=by unfold mayC;rw [hm,hg,decide_eq_true (p:=1≤x.val.length) (by omega),decide_eq_true (p:=x.val.length≤255) (by omega)];rfl
  have hcb:changeB x=[[1],keyB x.key,UInt8.ofNat x.val.length :: x.val].flatten:=by unfold changeB chgB;rw [hmc,hg];simp
  rw [hmc,hcb] at hR
  refine ⟨_,_,_,cell_of g2 rfl,(ends_Row_spec (c:=c) (RowAt.ext hb e2)).mono ?_⟩
  have hrb:rowB x.val=(UInt8.ofNat x.val.length :: x.val,0):=by unfold rowB;rw [if_pos (by omega)]
  rw [hrb]
  rintro _ w₇ ⟨a7,c7,rfl,hl7,he7⟩
  refine ⟨_,_,_,_,rfl,fun B4 w₈ hn8 B5 w₉ hn9=>?_⟩
  have hs:SlicesAt w₉ (some ⟨B5,0,none⟩) [[1],keyB x.key,UInt8.ofNat x.val.length :: x.val]:=by
   refine ⟨_,RowAt.of hn9.get (vs:=[Value.slice (some ⟨B4,0,none⟩) 1 1,Value.slice a1 (keyB x.key).length c1,Value.slice a7 (UInt8.ofNat x.val.length :: x.val).length c7]) (fun j v hj=>by simpa using hj),rfl,fun i hi=>?_⟩
   match i,hi with
   | 0,_=>exact ⟨_,_,rfl,RowAt.ext (RowAt.of hn8.get fun j v hj=>by have hj':[Value.int .u8 1][j]?=some v:=hj;simpa using hj') hn9.upd⟩
   | 1,_=>exact ⟨a1,c1,rfl,RowAt.ext hl2.bytes ((he7.trans hn8.upd).trans hn9.upd)⟩
   | 2,_=>exact ⟨a7,c7,rfl,RowAt.ext hl7.bytes (hn8.upd.trans hn9.upd)⟩
  refine (rec_join_spec (cp:=3) hs (by simp) (by simp;omega)).mono ?_
  rintro _ w₁₀ ⟨he10,a8,c8,rfl,hl10⟩
  have e9:=e2.trans ((he7.trans hn8.upd).trans hn9.upd)
  exact ⟨_,_,_,rfl,hR _ _ ⟨a8,c8,rfl,hl10.weak e9.size,e9.trans he10⟩⟩
theorem rec_body_spec {l:List Change} {w:World} {G:Nat→Prop} {a:Option Addr} {c:Nat} (h:SliceAt changeR w G a l) (hs:Small l) (hn:l.length<9000000000000000000) :
  CallsR prog K.rec_body #[.slice a l.length c] w fun v w'=>MayOut w w' v (if mayL l then bodyB l else []) (mayL l):=by
 apply rec_body.sh
 suffices H:∀ R:Value→World→Prop,(∀ v w',MayOut w w' v (if mayL l then bodyB l else []) (mayL l)→R v w')→rec_body.body a l.length c w R from H _ fun _ _ h=>h
 intro R hR
 unfold rec_body.body
 have fail:mayL l=false→∀ u,Ext w u→R (.tuple #[.slice none 0 0,.bool false]) u:=fun h u hu=>hR _ _ (by
  rw [h]
  exact MayOut.none hu)
 refine br_dec (fun h1=>fail ?_ _ (Upd.refl _ _)) fun h1=>br_dec (fun h2=>fail ?_ _ (Upd.refl _ _)) fun h2=>?_
 ·unfold mayL;rw [decide_eq_false (p:=1≤l.length) (by omega)];rfl
 ·unfold mayL;rw [decide_eq_false (p:=l.length≤255) (by omega)];simp
 have hml:mayL l=l.all mayC:=by unfold mayL;rw [decide_eq_true (p:=1≤l.length) (by omega),decide_eq_true (p:=l.length≤255) (by omega)];simp
 intro B1 w₁ hn1
 rw [bv_mod,Nat.mod_eq_of_lt (by omega)] at hn1
 have hs1:=hn1.size
 have hbase:BList w.heap.size w₁ (some ⟨B1,0,none⟩) 1 [UInt8.ofNat l.length]:=BList.new hn1 rfl (Nat.le_refl _)
 refine ⟨fun a1 l1 c1 x u=>∃ i:Nat,x=i∧i≤l.length∧(l.take i).all mayC=true∧l1=(UInt8.ofNat l.length :: (l.take i).flatMap chgB).length∧BList w.heap.size u a1 c1 (UInt8.ofNat l.length :: (l.take i).flatMap chgB)∧Ext w u,fun _ _ _ x _=>((l.length:Int) - x).toNat,
  ⟨0,rfl,by omega,rfl,rfl,by simpa using hbase,hn1.upd⟩,?_⟩
 rintro a1 l1 c1 x u ⟨i,rfl,hi,hall,rfl,hl,heu⟩
 have hsu:=heu.size
 refine br_dec (fun hlt=>?_) fun hge=>?_
 ·have hi':i<l.length:=by omega
  have ew:IntKind.i64.wrap ((i:Int)+1)=((i+1:Nat):Int):=w64 (by omega) (by omega)
  simp only [ew]
  refine SliceAt.idx (r:=changeR) (h.ext heu) rfl hi' fun b o vs _ hrow hR' _=>?_
  obtain ⟨av,cv,rfl,hcv,hbv,_⟩:=changeR_elim hR'
  refine ⟨_,_,_,_,_,_,_,_,hrow.cells,new_put rfl fun B2 w₄ hb4 hs4 e4 g4=>?_⟩
  refine ⟨_,_,_,_,_,_,_,_,cells_all g4,(rec_change_spec l[i] (hbv.ext e4) (hs _ (List.getElem_mem hi'))).mono ?_⟩
  rintro _ w₅ ⟨a4,c4,rfl,hl5,he5⟩
  have e45:=e4.trans he5
  have hs45:=e45.size
  refine ⟨_,_,_,_,rfl,br_intro (fun hb=>fail ?_ _ (heu.trans e45)) fun hb=>?_⟩
  ·rw [hml]
   have:mayC l[i]=false:=by simpa using hb
   rw [List.all_eq_false]
   exact ⟨l[i],List.getElem_mem hi',by rw [this];simp⟩
  ·have hmc:mayC l[i]=true:=by simpa using hb
   have hcb:changeB l[i]=chgB l[i]:=by unfold changeB;rw [hmc];rfl
   rw [hcb] at hl5 ⊢
   have hcl:=chgB_len hmc
   have hfl:=flat_len_le (f:=chgB) (n:=300) (l.take i) (fun x hx=>chgB_len (List.all_eq_true.1 hall x hx))
   have htl:(l.take i).length=i:=by rw [List.length_take];omega
   rw [htl] at hfl
   refine BList.cat (hl.ext e45) rfl rfl hl5.bytes (by rw [List.length_cons];omega) (by omega) fun a5 c5 w₆ hu6 hl6=>?_
   have hcat:(UInt8.ofNat l.length :: (l.take i).flatMap chgB) ++ chgB l[i]=UInt8.ofNat l.length :: (l.take (i+1)).flatMap chgB:=by
    rw [List.take_succ_eq_append_getElem hi',List.flatMap_append]
    simp
   rw [hcat] at hl6 ⊢
   exact ⟨⟨i+1,rfl,hi',by rw [all_take_succ hi',hall,hmc];rfl,rfl,hl6,(heu.trans e45).beyond hu6 fun x hx=>hx⟩,meas hi'⟩
 ·have hii:i=l.length:=by omega
  subst hii
  rw [List.take_length] at hl hall ⊢
  have hm:mayL l=true:=by rw [hml];exact hall
  rw [hm] at hR
  exact hR _ _ ⟨a1,c1,rfl,hl,heu⟩
theorem putPage_seal {size k:Int} {kind:UInt8} (hk:k=(kind.toNat:Int)) {a:Option Addr} {body:List UInt8} {c:Nat} {w:World} (h:BytesAt w a body) (hn:body.length≤281474976710656) :
  CallsR prog K.seal_Put #[.int .i64 size,.int .u8 k,.slice a body.length c] w fun v w'=>∃ a' c',v= .tuple #[.slice a' (putPage size kind body).1.length c',.int .i64 ((putPage size kind body).2:Nat)]∧BytesAt w' a' (putPage size kind body).1∧Fresh w a'∧Ext w w'∧(putPage size kind body).1.length≤c':=by
 refine (seal_Put_spec size k kind hk h hn).mono ?_
 rintro v w' ⟨he,hv⟩
 unfold putPage
 by_cases h1:isSize size=false∨kind<1∨kind > 7
 ·rw [if_pos h1] at hv
  rw [if_pos h1,hv]
  exact ⟨none,0,rfl,RowAt.nil _ _,Fresh.none _,he,Nat.le_refl _⟩
 ·rw [if_neg h1] at hv
  rw [if_neg h1]
  by_cases h2:(body.length:Int) > size - 5
  ·rw [if_pos h2] at hv
   rw [if_pos h2,hv]
   exact ⟨none,0,rfl,RowAt.nil _ _,Fresh.none _,he,Nat.le_refl _⟩
  ·rw [if_neg h2] at hv
   rw [if_neg h2]
   obtain ⟨a',c',rfl,hb,hf,hc⟩:=hv
   have hl:(pageOf size.toNat kind body).length=size.toNat:=pageOf_length _ _ _ (by omega)
   exact ⟨a',c',by rw [hl];rfl,hb,hf,he,by rw [hl];exact hc⟩
def PutOut (w w':World) (v:Value) (r:List UInt8×Nat):Prop:=∃ a c,v= .tuple #[.slice a r.1.length c,.int .i64 (r.2:Nat)]∧BytesAt w' a r.1∧Fresh w a∧Ext w w'∧r.1.length≤c
theorem rec_Put_spec {l:List Change} {w:World} {G:Nat→Prop} {a:Option Addr} {c:Nat} (h:SliceAt changeR w G a l) (hs:Small l) (hn:l.length<9000000000000000000) (size:Int) :
  CallsR prog K.rec_Put #[.int .i64 size,.slice a l.length c] w fun v w'=>PutOut w w' v (putL size l):=by
 apply rec_Put.sh
 suffices H:∀ R:Value→World→Prop,(∀ v w',PutOut w w' v (putL size l)→R v w')→rec_Put.body size a l.length c w R from H _ fun _ _ h=>h
 intro R hR
 unfold rec_Put.body
 refine (rec_body_spec h hs hn).mono ?_
 rintro _ w₁ ⟨a1,c1,rfl,hl1,he1⟩
 refine ⟨_,_,_,_,rfl,br_intro (fun hm=>?_) fun hm=>?_⟩
 ·have hp:putL size l=([],2):=by unfold putL;rw [if_neg (by simpa using hm)]
  rw [hp] at hR
  exact hR _ _ ⟨none,0,rfl,RowAt.nil _ _,Fresh.none _,he1,Nat.le_refl _⟩
 ·have hm':mayL l=true:=by simpa using hm
  have hp:putL size l=putPage size 2 (bodyB l):=by unfold putL;rw [if_pos hm']
  rw [hp] at hR
  rw [if_pos hm'] at hl1 ⊢
  have:=bodyB_len hm'
  refine (putPage_seal (kind:=2) rfl hl1.bytes (by omega)).mono ?_
  rintro _ w₂ ⟨a2,c2,rfl,hb2,hf2,he2,hc2⟩
  exact ⟨_,_,_,_,rfl,hR _ _ ⟨a2,c2,rfl,hb2,hf2.mono he1.size,he1.trans he2,hc2⟩⟩
theorem rec_PutDrop_spec (size:Int) (seq:Nat) (hq:seq<18446744073709551616) (w:World) :
  CallsR prog K.rec_PutDrop #[.int .i64 size,.int .u64 seq] w fun v w'=>PutOut w w' v (putDropB size seq):=by
 apply rec_PutDrop.sh
 suffices H:∀ R:Value→World→Prop,(∀ v w',PutOut w w' v (putDropB size seq)→R v w')→rec_PutDrop.body size seq w R from H _ fun _ _ h=>h
 intro R hR
 unfold rec_PutDrop.body
 refine br_eq (fun h0=>?_) fun h0=>?_
 ·have hp:putDropB size seq=([],2):=by unfold putDropB;rw [if_pos (by omega)]
  rw [hp] at hR
  exact hR _ _ ⟨none,0,rfl,RowAt.nil _ _,Fresh.none _,Upd.refl _ _,Nat.le_refl _⟩
 ·have hp:putDropB size seq=putPage size 3 (leB seq 8):=by unfold putDropB;rw [if_neg (by omega)]
  rw [hp] at hR
  refine (ends_Put_spec seq 8 w (by rfl) (by rw [show (256:Nat) ^ 8=18446744073709551616 by decide];exact hq)).mono ?_
  rintro _ w₁ ⟨a1,c1,rfl,hb1,hf1,he1⟩
  have hlen:=leB_length 8 seq
  refine ⟨_,_,_,_,rfl,?_⟩
  have hput:=putPage_seal (size:=size) (kind:=3) (c:=c1) rfl hb1 (by omega)
  rw [hlen] at hput
  refine hput.mono ?_
  rintro _ w₂ ⟨a2,c2,rfl,hb2,hf2,he2,hc2⟩
  exact ⟨_,_,_,_,rfl,hR _ _ ⟨a2,c2,rfl,hb2,hf2.mono he1.size,he1.trans he2,hc2⟩⟩
theorem factV_cells {w:World} {B:Nat} {x:Fact} {a:Option Addr} {c:Nat} (h:w.heap[B]?=some (.cells (factVs x.key a x.val.length c).toArray T.api_Fact (0,0))):cellsAt w ⟨B,0,none⟩ [.int .i64 x.key.ino,bv x.key.what,.string x.key.name,.int .i64 x.key.chunk] 0:=by
 refine cellsAt_of h fun j v hj=>?_
 rcases j with _ | _ | _ | _ | j
 all_goals simp at hj ⊢
 all_goals exact hj
theorem pack_Cost_spec (f:Fact) {w:World} {a:Option Addr} {c:Nat} (hn:f.key.name.size<9223372036854775807) (hv:f.val.length≤1000000000000) :
  CallsR prog K.pack_Cost #[.agg #[.int .i64 f.key.ino,bv f.key.what,.string f.key.name,.int .i64 f.key.chunk,.slice a f.val.length c]] w fun v w'=>v= .int .i64 (costF f:Nat)∧Ext w w':=by
 apply pack_Cost.sh
 suffices H:∀ R:Value→World→Prop,(∀ v w',v= .int .i64 (costF f:Nat)∧Ext w w'→R v w')→pack_Cost.body f.key.ino f.key.what.toNat f.key.name f.key.chunk a f.val.length c w R from H _ fun _ _ h=>h
 intro R hR
 unfold pack_Cost.body
 simp only [add_lit,Nat.zero_add]
 intro B1 w₁ hn1
 have g1:w₁.heap[B1]?=some (.cells (factVs f.key a f.val.length c).toArray T.api_Fact (0,0)):=hn1.get
 refine ⟨_,_,_,_,factV_cells g1,(fact_PutKey_spec f.key hn w₁).mono ?_⟩
 have hpk:putKeyB f.key=if f.key.may then (keyB f.key,0) else ([],2):=rfl
 rintro _ w₂ ⟨a1,c1,rfl,hl2,he2⟩
 have g2:=Ext.get he2 g1
 have e2:=hn1.upd.trans he2
 cases hm:f.key.may with
 | false =>
  rw [hpk,if_neg (by rw [hm];decide)]
  refine ⟨_,_,_,_,rfl,br_ne (fun _=>?_) fun h=>absurd h (by decide)⟩
  have hc:costF f=0:=by unfold costF;rw [if_neg (by rw [hm];decide)]
  rw [hc] at hR
  exact hR _ _ ⟨rfl,e2⟩
 | true =>
  rw [hpk,if_pos hm]
  dsimp only
  have:=keyB_len hm
  refine ⟨_,_,_,_,rfl,br_ne (fun h=>absurd rfl h) fun _=>⟨_,_,_,cell_of g2 rfl,?_⟩⟩
  have hc:costF f=2+(keyB f.key).length+f.val.length:=by unfold costF;rw [if_pos hm]
  rw [hc] at hR
  have q1:IntKind.i64.wrap ((2:Int)+((keyB f.key).length:Int))=((2+(keyB f.key).length:Nat):Int):=by rw [w64 (by omega) (by omega)];omega
  have q2:IntKind.i64.wrap (((2+(keyB f.key).length:Nat):Int)+(f.val.length:Int))=((2+(keyB f.key).length+f.val.length:Nat):Int):=by rw [w64 (by omega) (by omega)];omega
  rw [q1,q2]
  exact hR _ _ ⟨rfl,e2⟩
theorem all_takeF_succ {α:Type} {l:List α} {i:Nat} (hi:i<l.length) (p:α→Bool):(l.take (i+1)).all p=((l.take i).all p && p l[i]):=by
 rw [List.take_succ_eq_append_getElem hi,List.all_append]
 simp
theorem ordered_step {l:List Fact} {i:Nat} (hi:i<l.length) (h0:0<i):ordered (l.take (i+1))=(ordered (l.take i) && before l[i - 1].key l[i].key):=by
 obtain ⟨j,rfl⟩: ∃ j,i=j+1:=⟨i - 1,by omega⟩
 exact ordered_take l hi
theorem pack_cuts_spec {l:List Fact} {w:World} {G:Nat→Prop} {a:Option Addr} {c:Nat} (h:SliceAt factR w G a l) (hn:NamesF l) (hv:∀ f∈l,f.val.length≤1000000000000) (hl:l.length≤100000000) (size:Int) :
  CallsR prog K.pack_cuts #[.int .i64 size,.slice a l.length c] w fun v w'=>∃ a' c',v= .tuple #[.slice a' (cutsF size l).1.length c',.int .i64 ((cutsF size l).2:Nat)]∧IList w.heap.size w' a' c' ((cutsF size l).1.map fun n:Nat=>(n:Int))∧Ext w w':=by
 apply pack_cuts.sh
 suffices H:∀ R:Value→World→Prop,(∀ v w',(∃ a' c',v= .tuple #[.slice a' (cutsF size l).1.length c',.int .i64 ((cutsF size l).2:Nat)]∧IList w.heap.size w' a' c' ((cutsF size l).1.map fun n:Nat=>(n:Int))∧Ext w w')→R v w')→pack_cuts.body size a l.length c w R from H _ fun _ _ h=>h
 intro R hR
 unfold pack_cuts.body
 refine (seal_Body_spec size w).mono ?_
 rintro _ _ ⟨rfl,rfl⟩
 rename_i w
 have hbd: -1≤roomOf size∧roomOf size≤300:=by
  unfold roomOf
  split
  ·rename_i h
   unfold isSize at h
   simp only [Bool.and_eq_true,decide_eq_true_eq] at h
   omega
  ·omega
 have hroom:IntKind.i64.wrap ((if isSize size=true then size - 5 else 0) - 1)=roomOf size:=by
  have:roomOf size=(if isSize size=true then size - 5 else 0) - 1:=rfl
  rw [← this]
  exact w64 (by omega) (by omega)
 refine ⟨_,rfl,?_⟩
 rw [hroom]
 have fail:∀ e,cutsF size l=([],e)→∀ u,Ext w u→R (.tuple #[.slice none 0 0,.int .i64 (e:Nat)]) u:=fun e hc u hu=>hR _ _ (by
  rw [hc]
  exact ⟨none,0,rfl,IList.nil _ _,hu⟩)
 refine br_dec (fun hneg=>fail 2 (by unfold cutsF;rw [if_pos hneg]) _ (Upd.refl _ _)) fun hneg=>?_
 refine ⟨fun b x u=>∃ i:Nat,x=i∧i≤l.length∧(l.take i).all mayF=true∧ordered (l.take i)=true∧b= !((l.take i).all fun f=>decide ((costF f:Int)≤roomOf size))∧Ext w u,fun _ x _=>((l.length:Int) - x).toNat,⟨0,rfl,by omega,rfl,rfl,rfl,Upd.refl _ _⟩,?_⟩
 rintro b x u ⟨i,rfl,hi,hmay,hord,rfl,heu⟩
 refine br_dec (fun hlt=>?_) fun hge=>?_
 ·have hi':i<l.length:=by omega
  have ew:IntKind.i64.wrap ((i:Int)+1)=((i+1:Nat):Int):=w64 (by omega) (by omega)
  simp only [ew]
  have bad:(mayF l[i]=false∨(0<i∧before l[i - 1].key l[i].key=false))→cutsF size l=([],2):=fun hb=>by
   unfold cutsF
   rw [if_neg hneg,if_pos]
   rcases hb with hb | ⟨h0,hb⟩
   ·left
    rw [List.all_eq_false]
    exact ⟨l[i],List.getElem_mem hi',by rw [hb];simp⟩
   ·right
    exact ordered_false (n:=i+1) (by rw [ordered_step hi' h0,hb];simp)
  have hname:=hn _ (List.getElem_mem hi')
  have hval:=hv _ (List.getElem_mem hi')
  refine ⟨fun b3 u3=>b3=(!((l.take (i+1)).all fun f=>decide ((costF f:Int)≤roomOf size)))∧mayF l[i]=true∧ordered (l.take (i+1))=true∧Ext w u3,SliceAt.idx (r:=factR) (h.ext heu) rfl hi' fun b o vs _ hrow hR' _=>?_,?_⟩
  ·obtain ⟨av,cv,rfl,hcv,hbv,_⟩:=factR_elim hR'
   refine ⟨_,_,_,_,_,_,_,hrow.cells,new_put rfl fun B1 w₄ hb4 hs4 e4 g4=>?_⟩
   refine ⟨_,_,_,_,_,_,_,cells_all g4,(pack_Cost_spec l[i] hname hval).mono ?_⟩
   rintro _ w₅ ⟨rfl,he5⟩
   refine ⟨_,rfl,fun w₆ hd6=>?_⟩
   have e46:=he5.trans hd6.upd
   have g6:=Ext.get e46 g4
   have ew6:=heu.trans (e4.trans e46)
   have hmdef:mayF l[i]=(l[i].key.may && decide (1≤l[i].val.length) && decide (l[i].val.length≤255)):=rfl
   refine ⟨fun v=>Ext w₆ v,Upd.refl _ _,br_eq (fun h0=>⟨Upd.refl _ _,fail 2 (bad (.inl ?_)) _ ew6⟩) fun h0=>?_⟩
   ·cases hm:l[i].key.may with
    | false=>rw [hmdef,hm];rfl
    | true =>
     have:costF l[i]=2+(keyB l[i].key).length+l[i].val.length:=by unfold costF;rw [if_pos hm]
     omega
   have hkm:l[i].key.may=true:=by
    cases hm:l[i].key.may with
    | true=>rfl
    | false=>exact absurd (by unfold costF;rw [if_neg (by rw [hm];decide)];rfl) h0
   refine ⟨_,_,_,fun v hv=>cell_of (Ext.get hv g6) rfl,br_dec (fun h1=>⟨Upd.refl _ _,fail 2 (bad (.inl ?_)) _ ew6⟩) fun h1=>?_⟩
   ·rw [hmdef,decide_eq_false (p:=1≤l[i].val.length) (by omega)];simp
   refine ⟨_,_,_,fun v hv=>cell_of (Ext.get hv g6) rfl,br_dec (fun h2=>⟨Upd.refl _ _,fail 2 (bad (.inl ?_)) _ ew6⟩) fun h2=>?_⟩
   ·rw [hmdef,decide_eq_false (p:=l[i].val.length≤255) (by omega)];simp
   have hm:mayF l[i]=true:=by rw [hmdef,hkm,decide_eq_true (p:=1≤l[i].val.length) (by omega),decide_eq_true (p:=l[i].val.length≤255) (by omega)];rfl
   have hall:=all_takeF_succ hi' (fun f=>decide ((costF f:Int)≤roomOf size))
   have fin:∀ u',Ext w u'→ordered (l.take (i+1))=true→br (!((l.take i).all fun f=>decide ((costF f:Int)≤roomOf size)))
     (true=(!((l.take (i+1)).all fun f=>decide ((costF f:Int)≤roomOf size)))∧mayF l[i]=true∧ordered (l.take (i+1))=true∧Ext w u')
     (decide ((costF l[i]:Int) > roomOf size)=(!((l.take (i+1)).all fun f=>decide ((costF f:Int)≤roomOf size)))∧mayF l[i]=true∧ordered (l.take (i+1))=true∧Ext w u'):=fun u' hu' ho=>by
    rw [hall]
    refine br_intro (fun hb=>⟨?_,hm,ho,hu'⟩) fun hb=>⟨?_,hm,ho,hu'⟩
    ·have hb':((l.take i).all fun f=>decide ((costF f:Int)≤roomOf size))=false:=by simpa using hb
     rw [hb'];rfl
    ·have hb':((l.take i).all fun f=>decide ((costF f:Int)≤roomOf size))=true:=by simpa using hb
     rw [hb',Bool.true_and]
     by_cases hc:(costF l[i]:Int)≤roomOf size
     ·rw [decide_eq_true hc,decide_eq_false (by omega)];rfl
     ·rw [decide_eq_false hc,decide_eq_true (by omega)];rfl
   refine br_dec (fun hpos=>?_) fun hzero=>⟨Upd.refl _ _,fin _ ew6 ?_⟩
   ·have ewm:IntKind.i64.wrap ((i:Int) - 1)=((i - 1:Nat):Int):=by rw [w64 (by omega) (by omega)];omega
    rw [ewm]
    have him:i - 1<l.length:=by omega
    refine SliceAt.idx (r:=factR) (h.ext ew6) rfl him fun b2 o2 vs2 _ hrow2 hR2 _=>?_
    obtain ⟨_,_,rfl,_,_,_⟩:=factR_elim hR2
    refine ⟨_,_,_,_,fun v hv=>(RowAt.take (hrow2.ext hv) 4).cells,l[i].key.ino,(l[i].key.what.toNat:Int),l[i].key.name,l[i].key.chunk,fun v hv=>factV_cells (Ext.get hv g6),(fact_Before_spec l[i - 1].key l[i].key w₆).mono ?_⟩
    rintro _ w₇ ⟨rfl,he7⟩
    refine ⟨_,rfl,he7,br_intro (fun hb=>fail 2 (bad (.inr ⟨by omega,by simpa using hb⟩)) _ (ew6.trans he7)) fun hb=>fin _ (ew6.trans he7) ?_⟩
    rw [ordered_step hi' (by omega),hord,Bool.true_and]
    simpa using hb
   ·have:i=0:=by omega
    subst this
    exact ordered_small (by rw [List.length_take];omega)
  ·rintro b3 w₈ ⟨rfl,hm,ho,he8⟩
   exact ⟨⟨i+1,rfl,hi',by rw [all_takeF_succ hi',hmay,hm];rfl,ho,rfl,he8⟩,meas hi'⟩
 ·have hii:i=l.length:=by omega
  subst hii
  rw [List.take_length] at hmay hord ⊢
  refine br_intro (fun hb=>fail 3 ?_ _ heu) fun hb=>?_
  ·unfold cutsF
   rw [if_neg hneg,if_neg (by rw [hmay,hord];simp),if_pos (by simpa using hb)]
  have hcut:cutsF size l=(cutGo (roomOf size) 0 0 0 l,0):=by
   unfold cutsF
   rw [if_neg hneg,if_neg (by rw [hmay,hord];simp),if_neg (by simpa using hb)]
  rw [hcut] at hR
  have hsu:=heu.size
  refine ⟨fun a5 l5 c5 x16 x17 x18 u=>∃ (i from_ used:Nat) (outs:List Nat),x16=from_∧x17=used∧x18=i∧i≤l.length∧from_≤i∧used≤300 * i∧outs.length≤i∧l5=outs.length∧IList w.heap.size u a5 c5 (outs.map fun n:Nat=>(n:Int))∧outs ++ cutGo (roomOf size) i from_ used (l.drop i)=cutGo (roomOf size) 0 0 0 l∧Ext w u,fun _ _ _ _ _ x _=>((l.length:Int) - x).toNat,
   ⟨0,0,0,[],rfl,rfl,rfl,by omega,by omega,by omega,by simp,rfl,IList.nil _ _,rfl,heu⟩,?_⟩
  rintro a5 l5 c5 x16 x17 x18 u' ⟨i,from_,used,outs,rfl,rfl,rfl,hi,hfi,hui,hoi,rfl,hil,hcg,heu'⟩
  refine br_dec (fun hlt=>?_) fun hge=>?_
  ·have hi':i<l.length:=by omega
   have ew:IntKind.i64.wrap ((i:Int)+1)=((i+1:Nat):Int):=w64 (by omega) (by omega)
   simp only [ew]
   have hname:=hn _ (List.getElem_mem hi')
   have hval:=hv _ (List.getElem_mem hi')
   have hmi:mayF l[i]=true:=List.all_eq_true.1 hmay _ (List.getElem_mem hi')
   have hci:=costF_le hmi
   have hsu':=heu'.size
   refine SliceAt.idx (r:=factR) (h.ext heu') rfl hi' fun b o vs _ hrow hR' _=>?_
   obtain ⟨av,cv,rfl,hcv,hbv,_⟩:=factR_elim hR'
   refine ⟨_,_,_,_,_,_,_,hrow.cells,new_put rfl fun B1 w₄ hb4 hs4 e4 g4=>?_⟩
   refine ⟨_,_,_,_,_,_,_,cells_all g4,(pack_Cost_spec l[i] hname hval).mono ?_⟩
   rintro _ w₅ ⟨rfl,he5⟩
   have e5:=e4.trans he5
   have hs5:=e5.size
   have hi5:=hil.ext e5
   have ed:l.drop i=l[i] :: l.drop (i+1):=List.drop_eq_getElem_cons hi'
   have w0:IntKind.i64.wrap ((0:Int)+(costF l[i]:Nat))=((costF l[i]:Nat):Int):=by rw [w64 (by omega) (by omega)];omega
   have w1:IntKind.i64.wrap ((used:Int)+(costF l[i]:Nat))=((used+costF l[i]:Nat):Int):=by rw [w64 (by omega) (by omega)];omega
   have w2:IntKind.i64.wrap ((i:Int) - (from_:Int))=((i - from_:Nat):Int):=by rw [w64 (by omega) (by omega)];omega
   refine ⟨_,rfl,?_⟩
   rw [w0,w1,w2]
   have push:(i=0∨roomOf size<((used+costF l[i]:Nat):Int)∨i - from_=255)→∀ (B:Nat) (w₁₃:World),New w₅ (.cells #[Value.int .i64 (i:Int)] T.int) B w₁₃→appendP T.int 1 8 [Value.int .i64 0] a5 outs.length c5 (.slice (some ⟨B,0,none⟩) 1 1) w₁₃ fun a8 l8 c8 w₁₄ =>
     (∃ (k f' u'':Nat) (outs':List Nat),((i:Nat):Int)=f'∧((costF l[i]:Nat):Int)=u''∧((i+1:Nat):Int)=k∧k≤l.length∧f'≤k∧u''≤300 * k∧outs'.length≤k∧l8=outs'.length∧IList w.heap.size w₁₄ a8 c8 (outs'.map fun n:Nat=>(n:Int))∧outs' ++ cutGo (roomOf size) k f' u'' (l.drop k)=cutGo (roomOf size) 0 0 0 l∧Ext w w₁₄)∧
      ((l.length:Int) - ((i+1:Nat):Int)).toNat<((l.length:Int) - (i:Int)).toNat:=fun hc B w₁₃ hn13=>by
    refine IList.pushX (G:=NoB) (l:=outs.map fun n:Nat=>(n:Int)) hi5 (fun _ _ h=>h) (fun _ h=>h.elim) (by rw [List.length_map]) hn13 (by rw [List.length_map];omega) (by omega) fun a' c' w₁₄ hu14 hl14 _=>?_
    refine ⟨⟨i+1,i,costF l[i],outs ++ [i],rfl,rfl,rfl,hi',by omega,by omega,by simp;omega,by simp,by simpa using hl14,?_,(heu'.trans e5).beyond hu14 fun x hx=>hx.1⟩,meas hi'⟩
    rw [← hcg,ed]
    conv=>rhs;unfold cutGo
    rw [if_pos hc,List.append_assoc];rfl
   refine br_eq (fun h0=>push (.inl (by omega))) fun h0=>br_dec (fun hgt=>push (.inr (.inl (by omega)))) fun hle=>br_eq (fun h255=>push (.inr (.inr (by omega)))) fun h255=>?_
   refine ⟨⟨i+1,from_,used+costF l[i],outs,rfl,rfl,rfl,hi',by omega,by omega,by omega,rfl,hi5,?_,heu'.trans e5⟩,meas hi'⟩
   rw [← hcg,ed]
   conv=>rhs;unfold cutGo
   rw [if_neg (by omega)]
  ·have hii:i=l.length:=by omega
   subst hii
   rw [List.drop_length] at hcg
   have:outs=cutGo (roomOf size) 0 0 0 l:=by rw [← hcg];simp [cutGo]
   subst this
   exact hR _ _ ⟨a5,c5,rfl,hil,heu'⟩
theorem pack_Pages_spec {l:List Fact} {w:World} {G:Nat→Prop} {a:Option Addr} {c:Nat} (h:SliceAt factR w G a l) (hG:∀ b,G b→b<w.heap.size) (hn:NamesF l) (hv:∀ f∈l,f.val.length≤1000000000000) (hl:l.length≤100000000) (size:Int) :
  CallsR prog K.pack_Pages #[.int .i64 size,.slice a l.length c] w fun v w'=>∃ a' c',v= .tuple #[.slice a' (packF size l).1.length c',.int .i64 ((packF size l).2:Nat)]∧ListAt bytesR NoB w.heap.size w' a' c' T.L_uint8 (packF size l).1∧Ext w w':=by
 apply pack_Pages.sh
 suffices H:∀ R:Value→World→Prop,(∀ v w',(∃ a' c',v= .tuple #[.slice a' (packF size l).1.length c',.int .i64 ((packF size l).2:Nat)]∧ListAt bytesR NoB w.heap.size w' a' c' T.L_uint8 (packF size l).1∧Ext w w')→R v w')→pack_Pages.body size a l.length c w R from H _ fun _ _ h=>h
 intro R hR
 unfold pack_Pages.body
 refine (pack_cuts_spec h hn hv hl size).mono ?_
 have hpk:packF size l=if (cutsF size l).2≠0 then ([],(cutsF size l).2) else pagesGo size l (cutsF size l).1 []:=rfl
 have hcs:(cutsF size l).1.Pairwise (· < ·)∧∀ x∈(cutsF size l).1,x<l.length:=by
  unfold cutsF
  split
  ·exact ⟨List.Pairwise.nil,fun _ h=>by cases h⟩
  ·split
   ·exact ⟨List.Pairwise.nil,fun _ h=>by cases h⟩
   ·split
    ·exact ⟨List.Pairwise.nil,fun _ h=>by cases h⟩
    ·obtain ⟨h1,h2⟩:=cutGo_sorted (roomOf size) l 0 0 0
     exact ⟨h1,fun x hx=>by have:=h2 x hx;omega⟩
 rw [hpk] at hR
 generalize cutsF size l=cu at *
 rintro _ w₁ ⟨a1,c1,rfl,hi1,he1⟩
 have hs1:=he1.size
 have fail:∀ e,(if cu.2≠0 then ([],cu.2) else pagesGo size l cu.1 [])=([],e)→∀ u,Ext w u→R (.tuple #[.slice none 0 0,.int .i64 (e:Nat)]) u:=fun e hc u hu=>hR _ _ (by
  rw [hc]
  exact ⟨none,0,rfl,ListAt.nil _ _,hu⟩)
 refine ⟨_,_,_,_,rfl,br_ne (fun hne=>fail _ (by rw [if_pos (by omega)]) _ he1) fun h0=>?_⟩
 rw [if_neg (by omega)] at hR fail
 obtain ⟨cuts,e0⟩:=cu
 simp only at hcs hi1 hR fail ⊢
 refine ⟨fun a2 l2 c2 x u=>∃ i:Nat,x=i∧i≤l.length∧l2=((l.take i).map asChange).length∧ListAt changeR G w₁.heap.size u a2 c2 T.api_Change ((l.take i).map asChange)∧Ext w₁ u,fun _ _ _ x _=>((l.length:Int) - x).toNat,
  ⟨0,rfl,by omega,rfl,ListAt.nil _ _,Upd.refl _ _⟩,?_⟩
 rintro a2 l2 c2 x u ⟨i,rfl,hi,rfl,hls,heu⟩
 have hsu:=heu.size
 refine br_dec (fun hlt=>?_) fun hge=>?_
 ·have hi':i<l.length:=by omega
  have ew:IntKind.i64.wrap ((i:Int)+1)=((i+1:Nat):Int):=w64 (by omega) (by omega)
  simp only [ew]
  refine SliceAt.idx (r:=factR) (h.ext (he1.trans heu)) rfl hi' fun b o vs _ hrow hR' _=>?_
  obtain ⟨av,cv,rfl,hcv,hbv,hgv⟩:=factR_elim hR'
  refine ⟨_,_,_,_,_,_,_,hrow.cells,new_put rfl fun B1 w₄ hb4 hs4 e4 g4=>?_⟩
  refine ⟨l[i].key.ino,(l[i].key.what.toNat:Int),l[i].key.name,l[i].key.chunk,factV_cells g4,_,_,_,cell_of g4 rfl,fun B2 w₅ hn5=>?_⟩
  have hs5:=hn5.size
  have hts:(l.take (i+1)).map asChange=(l.take i).map asChange ++ [asChange l[i]]:=by rw [List.take_succ_eq_append_getElem hi',List.map_append];rfl
  have hlen:((l.take i).map asChange).length=i:=by simp;omega
  refine ListAt.push (r:=changeR) (H:=G) (x:=asChange l[i]) ((hls.ext e4).ext hn5.upd) (changeR_intro (x:=asChange l[i]) hcv (hbv.ext (e4.trans hn5.upd)) hgv) (fun b hb=>⟨.inr hb,by have:=hG b hb;omega,fun hab=>?_⟩) hn5 rfl rfl (by omega) (by omega) (by omega) fun a' c' w₆ hu6 hl6=>?_
  ·obtain ⟨_,_,_,h3⟩:=hls
   have:=(h3 b hab).1
   have:=hG b hb
   omega
  ·rw [← hts] at hl6 ⊢
   exact ⟨⟨i+1,rfl,hi',rfl,hl6,Ext.own ((heu.trans e4).trans hn5.upd) hu6 (Nat.le_refl _)⟩,meas hi'⟩
 ·have hii:i=l.length:=by omega
  subst hii
  rw [List.take_length] at hls ⊢
  have eu:=he1.trans heu
  have hcl:cuts.length≤l.length:=by
   have key:∀ (cs:List Nat) (n lo:Nat),cs.Pairwise (· < ·)→(∀ x∈cs,lo≤x∧x<n)→lo≤n→cs.length≤n - lo:=by
    intro cs
    induction cs with
    | nil=>intro n lo _ _ _;simp
    | cons x cs ih =>
     intro n lo hp hx hlo
     obtain ⟨h1,h2⟩:=List.pairwise_cons.1 hp
     have hx0:=hx x (by simp)
     have:=ih n (x+1) h2 (fun y hy=>⟨by have:=h1 y hy;omega,(hx y (by simp [hy])).2⟩) (by omega)
     simp
     omega
   have:=key cuts l.length 0 hcs.1 (fun x hx=>⟨by omega,hcs.2 x hx⟩) (by omega)
   omega
  refine ⟨fun a6 l6 c6 x v=>∃ (k:Nat) (outs:List (List UInt8)),x=k∧k≤cuts.length∧outs.length=k∧l6=outs.length∧ListAt bytesR NoB u.heap.size v a6 c6 T.L_uint8 outs∧pagesGo size l (cuts.drop k) outs=pagesGo size l cuts []∧Ext u v,fun _ _ _ x _=>((cuts.length:Int) - x).toNat,
   ⟨0,[],rfl,by omega,rfl,rfl,ListAt.nil _ _,rfl,Upd.refl _ _⟩,?_⟩
  rintro a6 l6 c6 x v ⟨k,outs,rfl,hk,hok,rfl,hlo,hpg,hev⟩
  have hsv:=hev.size
  refine br_dec (fun hltk=>?_) fun hgek=>?_
  ·have hk':k<cuts.length:=by omega
   have ewk:IntKind.i64.wrap ((k:Int)+1)=((k+1:Nat):Int):=w64 (by omega) (by omega)
   simp only [ewk]
   have hed:cuts.drop k=cuts[k] :: cuts.drop (k+1):=List.drop_eq_getElem_cons hk'
   have hrowc:RowAt v a1 (cuts.map fun n:Nat=>Value.int .i64 (n:Int)):=by
    have:=(hi1.ext (heu.trans hev)).1.row
    rwa [List.map_map] at this
   have hck:=hcs.2 _ (List.getElem_mem hk')
   obtain ⟨b',o',hab,hcell⟩:=hrowc.cell (i:=k) (v:=.int .i64 (cuts[k]:Nat)) (by simp [hk'])
   subst hab
   refine ⟨by omega,by omega,?_⟩
   simp only [nilC_some',add_lit,Nat.mul_one,Int.toNat_natCast]
   refine ⟨_,hcell,?_⟩
   obtain ⟨b2,hb2⟩: ∃ b2,a2=some ⟨b2,0,none⟩:=by
    obtain ⟨_,⟨_,⟨_,_,hx⟩,_⟩,_⟩:=hls
    rcases hx with ⟨_,h0,_⟩| ⟨b2,_,hx,_⟩
    ·rw [List.length_map] at h0;omega
    ·exact ⟨b2,hx⟩
   subst hb2
   have hcap:=hls.cap
   rw [List.length_map] at hcap
   obtain ⟨G2,hG2,hG2'⟩:=(hls.ext hev).slice
   have one:∀ to:Nat,cuts[k]<to→to≤l.length→pagesGo size l (cuts.drop k) outs=(if (putL size (((l.take to).drop cuts[k]).map asChange)).2≠0 then ([],(putL size (((l.take to).drop cuts[k]).map asChange)).2) else pagesGo size l (cuts.drop (k+1)) (outs ++ [(putL size (((l.take to).drop cuts[k]).map asChange)).1]))→
     sliceP 6 (some ⟨b2,0,none⟩) (l.map asChange).length c2 (some ((cuts[k]:Nat):Int)) (some ((to:Nat):Int)) (some ((to:Nat):Int)) fun a7 l7 c7=>CallsR prog K.rec_Put #[.int .i64 size,.slice a7 l7 c7] v fun v2 w8=>∃ (a8:Option Addr) (l8 c8:Nat),∃ x12:Int,v2= .tuple #[.slice a8 l8 c8,.int .i64 x12]∧
      br (x12 != 0) (R (.tuple #[.slice none 0 0,.int .i64 x12]) w8) (∀ (B3:Nat) (w9:World),New w8 (.cells #[.slice a8 l8 c8] T.L_uint8) B3 w9→
       appendP T.L_uint8 1 24 [.slice none 0 0] a6 outs.length c6 (.slice (some ⟨B3,0,none⟩) 1 1) w9 fun a9 l9 c9 w10=>(∃ (k':Nat) (outs:List (List UInt8)),((k+1:Nat):Int)=k'∧k'≤cuts.length∧outs.length=k'∧l9=outs.length∧ListAt bytesR NoB u.heap.size w10 a9 c9 T.L_uint8 outs∧pagesGo size l (cuts.drop k') outs=pagesGo size l cuts []∧Ext u w10)∧
        ((cuts.length:Int) - ((k+1:Nat):Int)).toNat<((cuts.length:Int) - (k:Int)).toNat):=by
    intro to hto htl hstep
    rw [List.length_map]
    refine slice_any (lo:=cuts[k]) (hi:=to) (mx:=to) rfl rfl rfl (by omega) (by omega) (by omega) (fun _=>rfl) fun a7 ha7=>?_
    have ha7:a7=some ⟨b2,cuts[k] * 6,none⟩:=by
     rcases ha7 with h | ⟨h,_⟩
     ·exact h
     ·omega
    subst ha7
    have hsl:=(hG2.take to).drop cuts[k]
    have hk6:changeR.k=6:=rfl
    rw [hk6,Nat.zero_add,← List.map_take,← List.map_drop] at hsl
    have hll:(((l.take to).drop cuts[k]).map asChange).length=to - cuts[k]:=by simp;omega
    have hput:=rec_Put_spec (c:=to - cuts[k]) hsl (fun x hx=>by
     obtain ⟨f,hf,rfl⟩:=List.mem_map.1 hx
     exact hn f (List.mem_of_mem_take (List.mem_of_mem_drop hf))) (by rw [hll];omega) size
    rw [hll] at hput
    refine hput.mono ?_
    rw [hpg] at hstep
    generalize putL size (((l.take to).drop cuts[k]).map asChange)=pr at *
    rintro _ w8 ⟨a8,c8,rfl,hb8,hf8,he8,hc8⟩
    have hs8:=he8.size
    refine ⟨_,_,_,_,rfl,br_ne (fun hne=>fail _ (by rw [hstep,if_pos (by omega)]) _ (eu.trans (hev.trans he8))) fun hz=>?_⟩
    rw [if_neg (by omega)] at hstep
    intro B3 w9 hn9
    have hs9:=hn9.size
    refine ListAt.push (r:=bytesR) (H:=fun b=>∃ p:Addr,a8=some p∧p.block=b∧pr.1≠[]) (x:=pr.1) ((hlo.ext he8).ext hn9.upd) ⟨a8,c8,rfl,hc8,hb8.ext hn9.upd,fun hne p hp=>⟨p,hp,rfl,hne⟩⟩ (fun b hb=>?_) hn9 rfl rfl (by omega) (by omega) (by omega) fun a' c' w10 hu10 hl10=>?_
    ·obtain ⟨q,hq,rfl,hne⟩:=hb
     have h1:v.heap.size≤q.block:=hf8 q hq
     obtain ⟨b',o',hab',hlt'⟩:=RowAt.blk hb8 (by simpa using hne)
     rw [hq] at hab'
     cases hab'
     refine ⟨.inl (by show u.heap.size≤b';have:v.heap.size≤b':=h1;omega),by show b' < _;omega,fun hab=>?_⟩
     have:=hlo.lt hab
     have h1':v.heap.size≤b':=h1
     have:b' < v.heap.size:=this
     omega
    ·exact ⟨⟨k+1,outs ++ [pr.1],rfl,hk',by simp [hok],rfl,hl10,hstep.symm,Ext.own ((hev.trans he8).trans hn9.upd) hu10 (by omega)⟩,meas hk'⟩
   refine br_dec (fun hlt2=>?_) fun hge2=>?_
   ·have hk2:k+1<cuts.length:=by omega
    obtain ⟨b3,o3,hab3,hcell3⟩:=hrowc.cell (i:=k+1) (v:=.int .i64 (cuts[k+1]:Nat)) (by simp [hk2])
    cases hab3
    refine ⟨by omega,by omega,?_⟩
    simp only [nilC_some',add_lit,Nat.mul_one,Int.toNat_natCast]
    refine ⟨_,hcell3,one cuts[k+1] ?_ (by have:=hcs.2 _ (List.getElem_mem hk2);omega) ?_⟩
    ·exact List.pairwise_iff_getElem.1 hcs.1 k (k+1) hk' hk2 (by omega)
    ·have hed2:cuts.drop (k+1)=cuts[k+1] :: cuts.drop (k+2):=List.drop_eq_getElem_cons hk2
     rw [hed]
     conv=>lhs;unfold pagesGo
     rw [hed2]
   ·refine one l.length hck (Nat.le_refl _) ?_
    have hed2:cuts.drop (k+1)=[]:=List.drop_eq_nil_of_le (by omega)
    rw [hed]
    conv=>lhs;unfold pagesGo
    rw [hed2]
  ·have hkk:k=cuts.length:=by omega
   subst hkk
   rw [List.drop_length] at hpg
   have hfin:pagesGo size l cuts []=(outs,0):=by rw [← hpg];rfl
   rw [hfin] at hR
   exact hR _ _ ⟨a6,c6,rfl,hlo.weak eu.size (fun _ h=>h.elim),eu.trans hev⟩
theorem slices_IndexFunc_Taken_spec {w:World} {a:Option Addr} {cp:Nat} {l:List Taken} {del:Value} {p:Taken→Bool} (hr:RowAt w a (l.flatMap Taken.vals)) (hn:l.length≤1000000000) (hf:∀ u,Ext w u→∀ t∈l,callT del [takenV t] u fun v u'=>v= .bool (p t)∧Ext u u') :
  CallsR prog K.slices_IndexFunc_api_Taken #[.slice a l.length cp,del] w fun v w'=>Ext w w'∧((v= .int .i64 (-1)∧∀ t∈l,p t=false)∨∃ (i:Nat) (hi:i<l.length),v= .int .i64 (i:Nat)∧(∀ t∈l.take i,p t=false)∧p l[i]=true):=by
 apply slices_IndexFunc_api_Taken.sh
 unfold slices_IndexFunc_api_Taken.body
 refine ⟨fun x u=>∃ i:Nat,x=i∧i≤l.length∧(∀ t∈l.take i,p t=false)∧Ext w u,fun x _=>((l.length:Int) - x).toNat,⟨0,rfl,by omega,by simp,Upd.refl _ _⟩,?_⟩
 rintro x u ⟨i,rfl,hi,hno,heu⟩
 refine br_dec (fun hlt=>?_) fun hge=>?_
 ·have hi':i<l.length:=by omega
  refine idx_flat (f:=Taken.vals) Taken.vals_length (by omega) (hr.ext heu) rfl hi' fun b o hab hr=>?_
  refine ⟨l[i].block,l[i].head.kind.toNat,l[i].head.era,l[i].head.seq,l[i].bad,RowAt.cells hr,(hf u heu l[i] (List.getElem_mem hi')).mono ?_⟩
  rintro _ u' ⟨rfl,he'⟩
  refine ⟨_,rfl,br_intro (fun hp=>⟨heu.trans he',.inr ⟨i,hi',rfl,hno,hp⟩⟩) fun hp=>?_⟩
  rw [w64 (by omega) (by omega)]
  refine ⟨⟨i+1,rfl,hi',fun t ht=>?_,heu.trans he'⟩,meas hi'⟩
  rw [List.take_succ_eq_append_getElem hi'] at ht
  rcases List.mem_append.1 ht with ht | ht
  ·exact hno t ht
  ·simp at ht;rw [ht];exact hp
 ·have:i=l.length:=by omega
  subst this
  rw [List.take_length] at hno
  exact ⟨heu,.inl ⟨rfl,hno⟩⟩
theorem tk_take {l:List Taken} (i:Nat):(l.flatMap Taken.vals).take (i * 5)=(l.take i).flatMap Taken.vals:=by
 induction l generalizing i with
 | nil=>simp
 | cons x l ih =>
  cases i with
  | zero=>simp
  | succ i =>
   rw [List.take_succ_cons,List.flatMap_cons,List.flatMap_cons,List.take_append,Taken.vals_length,List.take_of_length_le (by rw [Taken.vals_length];omega),Nat.succ_mul,Nat.add_sub_cancel,ih]
theorem tk_drop {l:List Taken} (i:Nat):(l.flatMap Taken.vals).drop (i * 5)=(l.drop i).flatMap Taken.vals:=by
 induction l generalizing i with
 | nil=>simp
 | cons x l ih =>
  cases i with
  | zero=>simp
  | succ i =>
   rw [List.drop_succ_cons,List.flatMap_cons,List.drop_append,Taken.vals_length,List.drop_eq_nil_of_le (by rw [Taken.vals_length];omega),Nat.succ_mul,Nat.add_sub_cancel,ih];rfl
theorem slices_DeleteFunc_spec {w:World} {a:Option Addr} {cap:Nat} {l:List Taken} {del:Value} {p:Taken→Bool} (h:OwnAt w a l.length cap T.api_Taken 5 (l.flatMap Taken.vals)) (hn:l.length≤1000000000)
  (hf:∀ u,Upd (fun b=>a=some ⟨b,0,none⟩) w u→∀ t∈l,callT del [takenV t] u fun v u'=>v= .bool (p t)∧Ext u u') :
  CallsR prog K.slices_DeleteFunc_api_Taken #[.slice a l.length cap,del] w fun v w'=>v= .slice a (l.filter fun t=> !p t).length cap∧OwnAt w' a (l.filter fun t=> !p t).length cap T.api_Taken 5 ((l.filter fun t=> !p t).flatMap Taken.vals)∧Upd (fun b=>a=some ⟨b,0,none⟩) w w':=by
 apply slices_DeleteFunc_api_Taken.sh
 suffices H:∀ R:Value→World→Prop,(∀ v w',v= .slice a (l.filter fun t=> !p t).length cap∧OwnAt w' a (l.filter fun t=> !p t).length cap T.api_Taken 5 ((l.filter fun t=> !p t).flatMap Taken.vals)∧Upd (fun b=>a=some ⟨b,0,none⟩) w w'→R v w')→slices_DeleteFunc_api_Taken.body a l.length cap del w R from H _ fun _ _ h=>h
 intro R hR
 unfold slices_DeleteFunc_api_Taken.body
 refine (slices_IndexFunc_Taken_spec h.row hn (fun u hu t ht=>hf u (Upd.ext hu) t ht)).mono ?_
 rintro _ w1 ⟨he1,⟨rfl,hno⟩| ⟨i0,hi0,rfl,hno,hyes⟩⟩
 ·refine ⟨_,rfl,br_eq (fun _=>?_) fun h=>absurd rfl h⟩
  have:(l.filter fun t=> !p t)=l:=List.filter_eq_self.2 fun t ht=>by rw [hno t ht];rfl
  rw [this] at hR
  exact hR _ _ ⟨rfl,h.ext he1,Upd.ext he1⟩
 obtain ⟨b,rfl⟩: ∃ b,a=some ⟨b,0,none⟩:=by
  obtain ⟨_,_,hx⟩:=h
  rcases hx with ⟨_,h0,_⟩| ⟨b,_,hx,_⟩
  ·omega
  ·exact ⟨b,hx⟩
 refine ⟨_,rfl,br_eq (fun h=>by omega) fun _=>?_⟩
 have hcap:=h.2.1
 have hfi:(l.take i0).filter (fun t=> !p t)=l.take i0:=List.filter_eq_self.2 fun t ht=>by rw [hno t ht];rfl
 have hq0:(l.take (i0+1)).filter (fun t=> !p t)=l.take i0:=by
  rw [List.take_succ_eq_append_getElem hi0,List.filter_append,hfi]
  simp [hyes]
 have hti0:(l.take i0).length=i0:=by rw [List.length_take];omega
 refine ⟨fun x2 x3 u=>∃ (j i:Nat) (vs:List Value),x2=j∧x3=i∧i≤l.length∧j≤i∧j=((l.take i).filter fun t=> !p t).length∧OwnAt u (some ⟨b,0,none⟩) l.length cap T.api_Taken 5 vs∧vs.take (j * 5)=((l.take i).filter fun t=> !p t).flatMap Taken.vals∧vs.drop (i * 5)=(l.drop i).flatMap Taken.vals∧Upd (fun x=>(some ⟨b,0,none⟩: Option Addr)=some ⟨x,0,none⟩) w u,fun _ x _=>((l.length:Int) - x).toNat,
  ⟨i0,i0+1,_,rfl,by rw [w64 (by omega) (by omega)];omega,by omega,by omega,by rw [hq0,hti0],h.ext he1,by rw [hq0,tk_take],tk_drop _,Upd.ext he1⟩,?_⟩
 rintro x2 x3 u ⟨j,i,vs,rfl,rfl,hi,hji,hj,ho,ht,hd,hu⟩
 have hvl:vs.length=l.length * 5:=ho.1
 refine br_dec (fun hlt=>?_) fun hge=>?_
 ·have hi':i<l.length:=by omega
  have ew:IntKind.i64.wrap ((i:Int)+1)=((i+1:Nat):Int):=w64 (by omega) (by omega)
  have ewj:IntKind.i64.wrap ((j:Int)+1)=((j+1:Nat):Int):=w64 (by omega) (by omega)
  simp only [ew,ewj]
  have hdi:l.drop i=l[i] :: l.drop (i+1):=List.drop_eq_getElem_cons hi'
  have hrow:RowAt u (some ⟨b,i * 5,none⟩) l[i].vals:=by
   have h1:=(ho.row.drop (i * 5)).take 5
   rw [hd,hdi,List.flatMap_cons] at h1
   have:(l[i].vals ++ (l.drop (i+1)).flatMap Taken.vals).take 5=l[i].vals:=by
    rw [List.take_append_of_le_length (by rw [Taken.vals_length];omega),List.take_of_length_le (by rw [Taken.vals_length];omega)]
   rw [this,Nat.zero_add] at h1
   exact h1
  have hd1:vs.drop ((i+1) * 5)=(l.drop (i+1)).flatMap Taken.vals:=by
   have:vs.drop ((i+1) * 5)=(vs.drop (i * 5)).drop 5:=by rw [List.drop_drop];congr 1;omega
   rw [this,hd,hdi,List.flatMap_cons,List.drop_append,List.drop_eq_nil_of_le (by rw [Taken.vals_length];omega),Taken.vals_length];rfl
  refine ⟨by omega,by omega,?_⟩
  simp only [nilC_some',add_lit,Int.toNat_natCast,Nat.zero_add]
  refine ⟨l[i].block,l[i].head.kind.toNat,l[i].head.era,l[i].head.seq,l[i].bad,hrow.cells,new_put (vs:=l[i].vals) rfl fun B1 w4 hb4 hs4 e4 g4=>?_⟩
  refine ⟨l[i].block,l[i].head.kind.toNat,l[i].head.era,l[i].head.seq,l[i].bad,cells_all (vs:=l[i].vals) g4,(hf w4 (hu.then e4) l[i] (List.getElem_mem hi')).mono ?_⟩
  rintro _ w5 ⟨rfl,he5⟩
  have e5:=e4.trans he5
  have hts:(l.take (i+1)).filter (fun t=> !p t)=(l.take i).filter (fun t=> !p t) ++ if !p l[i] then [l[i]] else []:=by
   rw [List.take_succ_eq_append_getElem hi',List.filter_append]
   congr 1
   rw [List.filter_cons]
   split<;>rfl
  refine ⟨_,rfl,br_intro (fun hp=>?_) fun hp=>?_⟩
  ·rw [hp] at hts
   simp only [if_true] at hts
   refine ⟨l[i].block,l[i].head.kind.toNat,l[i].head.era,l[i].head.seq,l[i].bad,cells_all (vs:=l[i].vals) (Ext.get he5 g4),by omega,by omega,?_⟩
   simp only [nilC_some',add_lit,Int.toNat_natCast,Nat.zero_add]
   refine own_store (ho.ext e5) (o:=j * 5) (vs:=l[i].vals) (by rw [Taken.vals_length,hvl];omega) fun w6 hu6 ho6=>?_
   refine ⟨⟨j+1,i+1,_,rfl,rfl,hi',by omega,by rw [hts,List.length_append,← hj];rfl,ho6,?_,?_,(hu.then e5).trans (hu6.mono fun x _ hx=>by rw [hx])⟩,meas hi'⟩
   ·rw [hts,List.flatMap_append,← ht]
    have hl1:(vs.take (j * 5) ++ l[i].vals).length=(j+1) * 5:=by rw [List.length_append,List.length_take,Taken.vals_length,hvl];omega
    rw [← hl1,List.take_append_of_le_length (Nat.le_refl _),List.take_length]
    simp
   ·rw [← hd1]
    have hl1:(vs.take (j * 5) ++ l[i].vals).length=(j+1) * 5:=by rw [List.length_append,List.length_take,Taken.vals_length,hvl];omega
    rw [List.drop_append,hl1,List.drop_eq_nil_of_le (by rw [hl1];omega),List.nil_append,List.drop_drop,Taken.vals_length]
    congr 1
    omega
  ·rw [hp] at hts
   simp only [Bool.false_eq_true,if_false,List.append_nil] at hts
   exact ⟨⟨j,i+1,vs,rfl,rfl,hi',by omega,by rw [hts];exact hj,ho.ext e5,by rw [hts];exact ht,hd1,hu.then e5⟩,meas hi'⟩
 ·have hii:i=l.length:=by omega
  subst hii
  rw [List.take_length] at ht hj
  rw [← hj,← ht] at hR
  obtain ⟨C,hC,hCl,hCt⟩:=ho.full
  refine slice_any (lo:=j) (hi:=l.length) (mx:=cap) (by simp) (by simp) (by simp) (by omega) (by omega) (by omega) (by simp) fun a1 ha1=>?_
  have fin:∀ w7,Upd (·=b) u w7→∀ C',Full w7 b T.api_Taken C'→C'.length=cap * 5→C'.take (j * 5)=vs.take (j * 5)→sliceP 5 (some ⟨b,0,none⟩) l.length cap none (some (j:Int)) none fun a2 l2 c2=>R (.slice a2 l2 c2) w7:=fun w7 hu7 C' hC' hCl' hCt'=>by
   refine slice_any (lo:=0) (hi:=j) (mx:=cap) (by simp) (by simp) (by simp) (by omega) (by omega) (by omega) (by simp) fun a2 ha2=>?_
   have ha2:a2=some ⟨b,0,none⟩:=by rcases ha2 with h | ⟨_,h⟩<;>simpa using h
   subst ha2
   refine hR _ _ ⟨rfl,?_,hu.trans (hu7.mono fun x _ hx=>by rw [hx])⟩
   rw [← hCt']
   exact hC'.own hCl' (by omega)
  have hCv:C.take (j * 5)=vs.take (j * 5):=by rw [← hCt,List.take_take,Nat.min_eq_left (by omega)]
  cases hz:l.length - j with
  | zero =>
   rcases ha1 with rfl | ⟨_,rfl⟩<;>exact fin u (Upd.refl _ _) C hC hCl hCv
  | succ n =>
   have ha1:a1=some ⟨b,j * 5,none⟩:=by
    rcases ha1 with h | ⟨h,_⟩
    ·exact h
    ·omega
   subst ha1
   have hzl:(zerosL [Value.int .i64 0,.int .u8 0,.int .u32 0,.int .u64 0,.bool false] (n+1)).length=(n+1) * 5:=by rw [zerosL_length];rfl
   refine ⟨zerosL_ones (by decide) _,hC.store (by rw [hzl,hCl];omega) fun w7 hu7 hf7=>fin w7 hu7 _ hf7 (by rw [spl_length (by rw [hzl,hCl];omega)];exact hCl) ?_⟩
   rw [spl_take_lo (Nat.le_refl _) (by omega)]
   exact hCv
section
abbrev logVs (M:PLoc) (s:LogS) (a:Option Addr) (c:Nat):List Value:=[.pointer (some ⟨M.q,0,none⟩),.int .u32 s.era,.slice a s.facts.length c,.int .i64 s.block,.int .i64 (s.page:Nat)]
def PX (F X:Nat→Prop) (w:World) (M:PLoc) (P:Pool) (c:Chip):Prop:=∃ L G,PC w M P c L G∧(∀ x,PF M L x→F x)∧∀ x,G x→X x∧x<w.heap.size
section
variable {F X:Nat→Prop} {w w':World} {M:PLoc} {P:Pool} {c:Chip}
theorem PX.pin (h:PX F X w M P c):PIn F 0 w M P c:=by
 obtain ⟨L,G,h1,h2,h3⟩:=h
 exact ⟨L,G,h1,h2,fun x hx=>⟨Nat.zero_le _,(h3 x hx).2⟩⟩
theorem PX.of {A:Nat} (h:PIn F A w M P c):PX F (fun x=>A≤x∧x<w.heap.size) w M P c:=by
 obtain ⟨L,G,h1,h2,h3⟩:=h
 exact ⟨L,G,h1,h2,fun x hx=>⟨h3 x hx,(h3 x hx).2⟩⟩
theorem PX.upd {F':Nat→Prop} (h:PX F X w M P c) (k:Upd F' w w') (h1:∀ x,F x→¬ F' x) (h2:∀ x,X x→¬ F' x):PX F X w' M P c:=by
 obtain ⟨L,G,hc,hF,hG⟩:=h
 exact ⟨L,G,hc.upd k (fun x hx=>h1 x (hF x hx)) (fun x hx=>h2 x (hG x hx).1),hF,fun x hx=>⟨(hG x hx).1,Nat.lt_of_lt_of_le (hG x hx).2 k.size⟩⟩
theorem PX.ext (h:PX F X w M P c) (k:Ext w w'):PX F X w' M P c:=h.upd k (fun _ _ h=>h) fun _ _ h=>h
theorem pxTake (h:PX F X w M P c) {kind:UInt8} {era:Nat} (hera:era<4294967296) :
  CallsR prog K.pool_Pool_Take #[.pointer (some ⟨M.q,0,none⟩),bv kind,.int .u32 era] w fun v w' =>
   v= .tuple #[.int .i64 ((takePool P c kind era).block:Nat),.int .i64 ((takePool P c kind era).err:Nat)]∧Upd F w w'∧PX F X w' M (takePool P c kind era).pool (takePool P c kind era).chip:=by
 obtain ⟨L,G,hr,hF,hG⟩:=h
 refine (pool_Take_spec hr hera).mono ?_
 rintro v w' ⟨rfl,hu,L',hs,hp⟩
 exact ⟨rfl,hu.mono fun x _ hx=>hF x hx,L',G,hp,fun x hx=>hF x (by rw [PF.same hs] at hx;exact hx),fun x hx=>⟨(hG x hx).1,Nat.lt_of_lt_of_le (hG x hx).2 hu.size⟩⟩
theorem pxFree (h:PX F X w M P c) (i:Int) :
  CallsR prog K.pool_Pool_Free #[.pointer (some ⟨M.q,0,none⟩),.int .i64 i] w fun v w' =>
   v= .int .i64 ((freePool P c i).2.2:Nat)∧Upd F w w'∧PX F X w' M (freePool P c i).1 (freePool P c i).2.1:=by
 obtain ⟨L,G,hr,hF,hG⟩:=h
 refine (pool_Free_spec hr i).mono ?_
 rintro v w' ⟨rfl,hu,L',hs,hp⟩
 exact ⟨rfl,hu.mono fun x _ hx=>hF x hx,L',G,hp,fun x hx=>hF x (by rw [PF.same hs] at hx;exact hx),fun x hx=>⟨(hG x hx).1,Nat.lt_of_lt_of_le (hG x hx).2 hu.size⟩⟩
theorem pxProgram (h:PX F X w M P c) (block page:Int) {a:Option Addr} {b:List UInt8} {cp:Nat} (hb:BytesAt w a b) (hap:∀ q,a=some q→¬ F q.block) :
  CallsR prog K.nand_Chip_Program #[.pointer (some ⟨M.p,0,none⟩),.int .i64 block,.int .i64 page,.slice a b.length cp] w fun v w'=>v= .int .i64 ((c.program block page b).2:Nat)∧Upd F w w'∧PX F X w' M P (c.program block page b).1:=by
 obtain ⟨L,G,hp,hF,hGG⟩:=h
 refine (nand_Program_spec hp.chip block page hb (fun q hq hm=>?_)).mono ?_
 ·exact hap q hq (hF q.block (.inr (.inr (by
   simp only [List.mem_cons] at hm ⊢
   rcases hm with hm | hm
   ·exact .inl hm
   ·exact .inr (.inr hm)))))
 rintro _ w' ⟨hu,L',hs',hc,rfl⟩
 exact ⟨rfl,hu.mono fun x _ hx=>hF x (.inr (.inr hx)),L',G,hp.rechip hu hc hs' (Chip.program_geo _ _ _ _) (fun x hx=>(hp.apart x hx).2),fun x hx=>hF x (by rw [PF.same hs'] at hx;exact hx),fun x hx=>⟨(hGG x hx).1,Nat.lt_of_lt_of_le (hGG x hx).2 hu.size⟩⟩
end
structure LogIn (F X:Nat→Prop) (w:World) (q:Nat) (M:PLoc) (s:LogS):Prop where
 head:∃ a c,w.heap[q]?=some (.cells (logVs M s a c).toArray T.log_Log (0,0))∧∃ G,SliceAt factR w G a s.facts∧∀ b,G b→X b∧¬ F b∧b<w.heap.size
 pool:PX F X w M s.pool s.chip
 out:¬ F q
 outX:¬ X q
 era:s.era<4294967296
abbrev LogF (F:Nat→Prop) (q:Nat):Nat→Prop:=fun x=>F x∨x=q
section
variable {F X:Nat→Prop} {w w':World} {q:Nat} {M:PLoc} {s:LogS}
theorem LogIn.ext (h:LogIn F X w q M s) (k:Ext w w'):LogIn F X w' q M s:=by
 obtain ⟨⟨a,c,g,G,h1,h2⟩,hp,ho,hx,he⟩:=h
 exact ⟨⟨a,c,Ext.get k g,G,h1.ext k,fun b hb=>⟨(h2 b hb).1,(h2 b hb).2.1,Nat.lt_of_lt_of_le (h2 b hb).2.2 k.size⟩⟩,hp.ext k,ho,hx,he⟩
theorem LogIn.lt (h:LogIn F X w q M s):q<w.heap.size:=by
 obtain ⟨⟨a,c,g,_⟩,_⟩:=h
 exact (Array.getElem?_eq_some_iff.1 g).1
theorem LogIn.step (h:LogIn F X w q M s) (k:Upd F w w') {P:Pool} {d:Chip} (hp:PX F X w' M P d):LogIn F X w' q M { s with pool:=P,chip:=d }:=by
 obtain ⟨⟨a,c,g,G,h1,h2⟩,_,ho,hx,he⟩:=h
 exact ⟨⟨a,c,k.get g ho,G,h1.upd k fun b hb=>(h2 b hb).2.1,fun b hb=>⟨(h2 b hb).1,(h2 b hb).2.1,Nat.lt_of_lt_of_le (h2 b hb).2.2 k.size⟩⟩,hp,ho,hx,he⟩
theorem LogIn.upd (h:LogIn F X w q M s) {F':Nat→Prop} (k:Upd F' w w') (h1:∀ x,F' x→¬ F x∧¬ X x∧x≠q):LogIn F X w' q M s:=by
 obtain ⟨⟨a,c,g,G,g1,g2⟩,hp,ho,hx,he⟩:=h
 exact ⟨⟨a,c,k.get g (fun hq=>(h1 q hq).2.2 rfl),G,g1.upd k fun b hb hf=>(h1 b hf).2.1 (g2 b hb).1,fun b hb=>⟨(g2 b hb).1,(g2 b hb).2.1,Nat.lt_of_lt_of_le (g2 b hb).2.2 k.size⟩⟩,hp.upd k (fun x hF hf=>(h1 x hf).1 hF) fun x hX hf=>(h1 x hf).2.1 hX,ho,hx,he⟩
theorem LogIn.store (h:LogIn F X w q M s) {o:Nat} {v:Value} {t:LogS} (ht:t.facts=s.facts∧t.pool=s.pool∧t.chip=s.chip∧t.era=s.era) (hv:∀ a c,splice (logVs M s a c).toArray o [v]=(logVs M t a c).toArray) (ho:o+1≤5) {K:World→Prop} (hk:∀ w',Upd (·=q) w w'→LogIn F X w' q M t→K w'):storeP w ⟨q,o,none⟩ [v] K:=by
 obtain ⟨⟨a,c,g,G,h1,h2⟩,hp,ho',hx,he⟩:=h
 refine store_of g (by simpa using ho) fun w' hpt=>hk w' hpt.upd1 ?_
 have hu:=hpt.upd1
 have g':=hpt.get
 rw [hv] at g'
 obtain ⟨t1,t2,t3,t4⟩:=ht
 refine ⟨⟨a,c,g',G,by rw [t1];exact h1.upd hu fun b hb e=>hx (by rw [← e];exact (h2 b hb).1),fun b hb=>⟨(h2 b hb).1,(h2 b hb).2.1,Nat.lt_of_lt_of_le (h2 b hb).2.2 hu.size⟩⟩,?_,ho',hx,by rw [t4];exact he⟩
 rw [t2,t3]
 exact hp.upd hu (fun x hF e=>ho' (by rw [← e];exact hF)) fun x hX e=>hx (by rw [← e];exact hX)
theorem LogIn.cell (h:LogIn F X w q M s) {i:Nat} {v:Value} (hv:∀ a c,(logVs M s a c)[i]?=some v):w.cell? ⟨q,i,none⟩= some v:=by
 obtain ⟨⟨a,c,g,_⟩,_⟩:=h
 exact cell_of g (by simpa using hv a c)
end
theorem log_take_spec {F X:Nat→Prop} {w:World} {q:Nat} {M:PLoc} {s:LogS} (h:LogIn F X w q M s) :
  CallsR prog K.log_Log_take #[.pointer (some ⟨q,0,none⟩)] w fun v w'=>v= .int .i64 (s.take.2:Nat)∧Upd (LogF F q) w w'∧LogIn F X w' q M s.take.1:=by
 apply log_Log_take.sh
 unfold log_Log_take.body
 intro w1 hd1
 have h1:=h.ext hd1.upd
 refine ⟨fun u=>Ext w1 u,Upd.refl _ _,?_⟩
 simp only [nilC_some',add_lit,Nat.zero_add]
 refine ⟨_,fun u hu=>(h1.ext hu).cell (fun _ _=>rfl),_,fun u hu=>(h1.ext hu).cell (fun _ _=>rfl),(pxTake h1.pool (kind:=1) h1.era).mono ?_⟩
 rintro _ w2 ⟨rfl,hu2,hp2⟩
 have h2:=h1.step hu2 hp2
 have u2:Upd (LogF F q) w w2:=(Upd.ext hd1.upd).trans (hu2.mono fun x _ hx=>.inl hx)
 have ht:s.take=if (takePool s.pool s.chip 1 s.era).err=0 then ({ s with pool:=(takePool s.pool s.chip 1 s.era).pool,chip:=(takePool s.pool s.chip 1 s.era).chip,block:=(takePool s.pool s.chip 1 s.era).block,page:=1 },0) else ({ s with pool:=(takePool s.pool s.chip 1 s.era).pool,chip:=(takePool s.pool s.chip 1 s.era).chip },(takePool s.pool s.chip 1 s.era).err):=rfl
 rw [ht]
 generalize takePool s.pool s.chip 1 s.era=r at *
 refine ⟨_,_,rfl,br_eq (fun h0=>?_) fun h0=>?_⟩
 ·rw [if_pos (by omega)]
  refine h2.store (t:={ s with pool:=r.pool,chip:=r.chip,block:=r.block }) ⟨rfl,rfl,rfl,rfl⟩ (fun _ _=>rfl) (by omega) fun w3 hu3 h3=>?_
  refine h3.store (t:={ s with pool:=r.pool,chip:=r.chip,block:=r.block,page:=1 }) ⟨rfl,rfl,rfl,rfl⟩ (fun _ _=>rfl) (by omega) fun w4 hu4 h4=>?_
  exact ⟨by rw [h0];rfl,u2.trans ((hu3.trans hu4).mono fun x _ hx=>.inr hx),h4⟩
 ·rw [if_neg (by omega)]
  exact ⟨rfl,u2,h2⟩
theorem LogS.take_keep (s:LogS):s.take.1.facts=s.facts∧s.take.1.era=s.era∧s.chip.SameGeo s.take.1.chip∧s.take.1.chip.hits.length≤s.chip.hits.length∧(s.take.2=0→∃ b:Nat,s.take.1.block=b∧s.take.1.page=1∧s.take.1.chip.isBad b=false):=by
 obtain ⟨h1,h2⟩:=lg_takePool_hits s.pool s.chip 1 s.era
 have hg:=takePool_geo s.pool s.chip 1 s.era
 unfold LogS.take
 simp only
 split
 ·rename_i h0
  exact ⟨rfl,rfl,hg,h1,fun _=>⟨_,rfl,rfl,h2 h0⟩⟩
 ·rename_i h0
  exact ⟨rfl,rfl,hg,h1,fun h=>absurd h h0⟩
theorem LogS.write_step (b:List UInt8) (n:Nat) (s:LogS):LogS.write b (n+1) s=(if (if s.block= -1∨s.page≥s.chip.np then s.take else (s,0)).2≠0 then (if s.block= -1∨s.page≥s.chip.np then s.take else (s,0)) else
  if ((if s.block= -1∨s.page≥s.chip.np then s.take else (s,0)).1.chip.program (if s.block= -1∨s.page≥s.chip.np then s.take else (s,0)).1.block (if s.block= -1∨s.page≥s.chip.np then s.take else (s,0)).1.page b).2≠9 then
   ({ (if s.block= -1∨s.page≥s.chip.np then s.take else (s,0)).1 with chip:=((if s.block= -1∨s.page≥s.chip.np then s.take else (s,0)).1.chip.program (if s.block= -1∨s.page≥s.chip.np then s.take else (s,0)).1.block (if s.block= -1∨s.page≥s.chip.np then s.take else (s,0)).1.page b).1,page:=(if s.block= -1∨s.page≥s.chip.np then s.take else (s,0)).1.page+1 },((if s.block= -1∨s.page≥s.chip.np then s.take else (s,0)).1.chip.program (if s.block= -1∨s.page≥s.chip.np then s.take else (s,0)).1.block (if s.block= -1∨s.page≥s.chip.np then s.take else (s,0)).1.page b).2)
  else LogS.write b n { (if s.block= -1∨s.page≥s.chip.np then s.take else (s,0)).1 with chip:=((if s.block= -1∨s.page≥s.chip.np then s.take else (s,0)).1.chip.program (if s.block= -1∨s.page≥s.chip.np then s.take else (s,0)).1.block (if s.block= -1∨s.page≥s.chip.np then s.take else (s,0)).1.page b).1,page:=(if s.block= -1∨s.page≥s.chip.np then s.take else (s,0)).1.page+1,block:= -1 }):=rfl
theorem log_write_spec {F X:Nat→Prop} {w:World} {q:Nat} {M:PLoc} {s:LogS} (h:LogIn F X w q M s) {a:Option Addr} {b:List UInt8} {cp:Nat} (hb:BytesAt w a b) (hap:∀ p,a=some p→¬ F p.block∧p.block≠q) (hpg:s.page<1000000) :
  CallsR prog K.log_Log_write #[.pointer (some ⟨q,0,none⟩),.slice a b.length cp] w fun v w'=>v= .int .i64 ((s.write b s.fuel).2:Nat)∧Upd (LogF F q) w w'∧LogIn F X w' q M (s.write b s.fuel).1:=by
 obtain ⟨r,hr⟩: ∃ r,r=s.write b s.fuel:=⟨_,rfl⟩
 rw [← hr]
 apply log_Log_write.sh
 suffices H:∀ R:Value→World→Prop,(∀ v w',v= .int .i64 (r.2:Nat)∧Upd (LogF F q) w w'∧LogIn F X w' q M r.1→R v w')→log_Log_write.body (some ⟨q,0,none⟩) a b.length cp w R from H _ fun _ _ h=>h
 intro R hR
 unfold log_Log_write.body
 simp only [nilC_some',add_lit,Nat.zero_add]
 refine ⟨_,h.cell (fun _ _=>rfl),(pChip h.pool.pin).mono ?_⟩
 rintro _ _ ⟨rfl,rfl⟩
 rename_i w
 obtain ⟨J',hJ⟩: ∃ J':Nat→World→Prop,∀ n u,J' n u ↔ ∃ t:LogS,LogIn F X u q M t∧t.left≤n∧(t.page<1000000∨t.block= -1)∧t.write b n=r∧Upd (LogF F q) w u:=⟨_,fun _ _=>Iff.rfl⟩
 have hfu:s.left≤s.fuel:=by unfold LogS.left LogS.fuel;split<;>omega
 refine ⟨_,rfl,LJ J',Lμ J',⟨s.fuel,(hJ _ _).2 ⟨s,h,hfu,.inl hpg,hr.symm,Upd.refl _ _⟩⟩,?_⟩
 intro u hJu
 obtain ⟨n,hj,hK⟩:=loop_step hJu
 obtain ⟨t,ht,hleft,hpt,hw,hu⟩:=(hJ _ _).1 hj
 obtain ⟨n,rfl⟩: ∃ m,n=m+1:=⟨n - 1,by unfold LogS.left at hleft;split at hleft<;>omega⟩
 rw [LogS.write_step] at hw
 have hok:=ht.pool.pin.chip.ok
 refine ⟨fun v=>∃ y:LogS×Nat,y=(if t.block= -1∨t.page≥t.chip.np then t.take else (t,0))∧y.2=0∧LogIn F X v q M y.1∧Upd (LogF F q) w v,?_,?_⟩
 ·intro w3 hd3
  have h3:=ht.ext hd3.upd
  have u3:=hu.then hd3.upd
  have take:∀ u',LogIn F X u' q M t→Upd (LogF F q) w u'→(t.block= -1∨t.page≥t.chip.np)→CallsR prog K.log_Log_take #[.pointer (some ⟨q,0,none⟩)] u' fun v2 w4=>∃ x2:Int,v2= .int .i64 x2∧br (x2 != 0) (R (.int .i64 x2) w4) (∃ y:LogS×Nat,y=(if t.block= -1∨t.page≥t.chip.np then t.take else (t,0))∧y.2=0∧LogIn F X w4 q M y.1∧Upd (LogF F q) w w4):=fun u' h' hu' hc=>by
   refine (log_take_spec h').mono ?_
   rintro _ w4 ⟨rfl,hu4,h4⟩
   rw [if_pos hc] at hw ⊢
   refine ⟨_,rfl,br_ne (fun hne=>?_) fun h0=>⟨_,rfl,by omega,h4,hu'.trans hu4⟩⟩
   rw [if_pos (by omega)] at hw
   rw [← hw] at hR
   exact hR _ _ ⟨rfl,hu'.trans hu4,h4⟩
  refine ⟨fun v=>Ext w3 v,Upd.refl _ _,_,fun v hv=>(h3.ext hv).cell (i:=3) (fun _ _=>rfl),br_eq (fun hn1=>⟨Upd.refl _ _,take w3 h3 u3 (.inl hn1)⟩) fun hn1=>?_⟩
  refine ⟨_,fun v hv=>(h3.ext hv).cell (i:=4) (fun _ _=>rfl),(cGeo h3.pool.pin.chip).mono ?_⟩
  rintro _ w5 ⟨rfl,he5⟩
  refine ⟨_,_,_,_,rfl,he5,br_dec (fun hge=>take w5 (h3.ext he5) (u3.then he5) (.inr (by omega))) fun hlt=>?_⟩
  rw [if_neg (by omega)]
  exact ⟨_,rfl,rfl,h3.ext he5,u3.then he5⟩
 rintro v ⟨y,hy,hy0,hv,huv⟩
 rw [← hy] at hw
 rw [if_neg (by omega)] at hw
 intro w8 hd8
 have h8:=hv.ext hd8.upd
 have u8:=huv.then hd8.upd
 refine ⟨fun v=>Ext w8 v,Upd.refl _ _,_,fun v hv=>(h8.ext hv).cell (i:=3) (fun _ _=>rfl),_,fun v hv=>(h8.ext hv).cell (i:=4) (fun _ _=>rfl),?_⟩
 have hb8:BytesAt w8 a b:=RowAt.upd hb u8 fun p hp hx=>by
  have:=hap p hp
  rcases hx with hx | hx
  ·exact this.1 hx
  ·exact this.2 hx
 refine (pxProgram h8.pool y.1.block (y.1.page:Nat) (cp:=cp) hb8 fun p hp=>(hap p hp).1).mono ?_
 rintro _ w9 ⟨rfl,hu9,hp9⟩
 have h9:=h8.step hu9 hp9
 have u9:=u8.trans (hu9.mono fun x _ hx=>.inl hx)
 have hyp:y.1.page<1000000∧y.1.chip.hits.length≤t.chip.hits.length∧((y.1.chip.program y.1.block (y.1.page:Nat) b).2=9→(y.1.chip.program y.1.block (y.1.page:Nat) b).1.hits.length+1≤n):=by
  obtain ⟨p1,p2,_⟩:=lg_program_hits y.1.chip y.1.block (y.1.page:Nat) b
  by_cases hc:t.block= -1∨t.page≥t.chip.np
  ·rw [if_pos hc] at hy
   subst hy
   obtain ⟨_,_,_,k4,k5⟩:=t.take_keep
   obtain ⟨bb,kb,kp,kbad⟩:=k5 hy0
   refine ⟨by omega,k4,fun h9=>?_⟩
   have:=p2 h9 (by rw [kb];exact kbad)
   unfold LogS.left at hleft
   split at hleft<;>omega
  ·rw [if_neg hc] at hy
   subst hy
   refine ⟨?_,Nat.le_refl _,fun _=>?_⟩
   ·rcases hpt with h | h
    ·exact h
    ·exact absurd (.inl h) hc
   unfold LogS.left at hleft
   rw [if_neg (fun h=>hc (.inl h))] at hleft
   simp only at p1 ⊢
   omega
 generalize y.1.chip.program y.1.block (y.1.page:Nat) b=r9 at *
 have ew:IntKind.i64.wrap ((y.1.page:Int)+1)=((y.1.page+1:Nat):Int):=by rw [w64 (by omega) (by omega)];omega
 refine ⟨_,rfl,_,h9.cell (i:=4) (fun _ _=>rfl),?_⟩
 rw [ew]
 refine h9.store (t:={ y.1 with chip:=r9.1,page:=y.1.page+1 }) ⟨rfl,rfl,rfl,rfl⟩ (fun _ _=>rfl) (by omega) fun w10 hu10 h10=>?_
 have u10:=u9.trans (hu10.mono fun x _ hx=>.inr hx)
 refine br_ne (fun h9'=>?_) fun h9'=>?_
 ·rw [if_pos (by omega)] at hw
  rw [← hw] at hR
  exact hR _ _ ⟨rfl,u10,h10⟩
 ·rw [if_neg (by omega)] at hw
  refine h10.store (t:={ y.1 with chip:=r9.1,page:=y.1.page+1,block:= -1 }) ⟨rfl,rfl,rfl,rfl⟩ (fun _ _=>rfl) (by omega) fun w11 hu11 h11=>?_
  refine hK n _ (by omega) ((hJ _ _).2 ⟨_,h11,?_,?_,hw,u10.trans (hu11.mono fun x _ hx=>.inr hx)⟩)
  ·have:=hyp.2.2 (by omega)
   unfold LogS.left
   rw [if_pos rfl]
   exact this
  ·exact .inr rfl
end
section
theorem log_own_1_spec (t:Taken) {B era:Nat} {u:World} (g:u.heap[B]?=some (.cells #[.int .u32 era] T.uint32 (0,0))) :
  CallsR prog K.log_own_1 #[takenV t,.pointer (some ⟨B,0,none⟩)] u fun v u'=>v= .bool (!(decide (t.head.kind=1) && decide (t.head.era=era)))∧Ext u u':=by
 apply log_own_1.sh
 unfold log_own_1.body
 intro B1 w1 hn1
 have g1:w1.heap[B1]?=some (.cells t.vals.toArray T.api_Taken (0,0)):=hn1.get
 have g0:=Ext.get hn1.upd g
 simp only [add_lit,Nat.zero_add]
 refine ⟨_,cell_of g1 rfl,br_ne (fun hne=>⟨?_,hn1.upd⟩) fun he=>⟨_,cell_of g1 rfl,_,cell_of g0 rfl,?_,hn1.upd⟩⟩
 ·rw [decide_eq_false (p:=t.head.kind=1) (fun e=>hne (by rw [e];rfl))];rfl
 ·have hk:t.head.kind=1:=kind_is (n:=1) (by decide) he
  rw [decide_eq_true hk,Bool.true_and]
  by_cases hh:t.head.era=era
  ·rw [hh,decide_eq_true rfl]
   simp
  ·rw [decide_eq_false hh]
   have:((t.head.era:Int) != (era:Int))=true:=by simpa using (fun h=>hh (by omega):¬ ((t.head.era:Int)=(era:Int)))
   rw [this];rfl
theorem log_own_spec {F:Nat→Prop} {A:Nat} {w:World} {M:PLoc} {P:Pool} {c:Chip} (h:PIn F A w M P c) (hnb:c.nb<20) (era:Nat) :
  CallsR prog K.log_own #[.pointer (some ⟨M.q,0,none⟩),.int .u32 era] w fun v w'=>Ext w w'∧TakenAt w w' v (ownL era (takenPool P c)):=by
 apply log_own.sh
 unfold log_own.body
 intro B1 w1 hn1
 have g1:w1.heap[B1]?=some (.cells #[.int .u32 era] T.uint32 (0,0)):=hn1.get
 have hb1:B1=w.heap.size:=hn1.num
 have hs1:=hn1.size
 refine (pTaken (h.ext hn1.upd) hnb rfl).mono ?_
 rintro _ w2 ⟨he2,a1,c1,rfl,ho2,hf2⟩
 have hll:(takenPool P c).length≤20:=by
  unfold takenPool
  rw [isort_length]
  have:=takenRaw_length P c c.nb
  omega
 unfold ownL
 generalize takenPool P c=l at *
 refine ⟨_,_,_,rfl,(slices_DeleteFunc_spec (p:=fun t=> !(decide (t.head.kind=1) && decide (t.head.era=era))) ho2 (by omega) fun u hu t ht=>?_).mono ?_⟩
 ·refine ⟨by kernel_rfl,?_⟩
  exact log_own_1_spec t (hu.get (Ext.get he2 g1) fun hb=>by have:w1.heap.size≤B1:=hf2 _ hb;omega)
 ·rintro _ w3 ⟨rfl,ho3,hu3⟩
  have hff:(l.filter fun t=> !(!(decide (t.head.kind=1) && decide (t.head.era=era))))=l.filter fun t=>decide (t.head.kind=1) && decide (t.head.era=era):=by simp
  rw [hff] at ho3 ⊢
  refine ⟨_,_,_,rfl,(hn1.upd.trans he2).beyond hu3 fun x hx=>?_,a1,c1,rfl,ho3,hf2.mono (by omega)⟩
  have:w1.heap.size≤x:=hf2 _ hx
  omega
def CX (F X:Nat→Prop) (w:World) (p:Nat) (c:Chip):Prop:=∃ L G,ChipRep w p c L G∧(∀ x,x∈p :: L.bb :: L.locs→F x)∧∀ x,G x→X x∧x<w.heap.size
section
variable {F X:Nat→Prop} {w w':World} {p:Nat} {c:Chip}
theorem CX.cin (h:CX F X w p c):CIn F 0 w p c:=by
 obtain ⟨L,G,h1,h2,h3⟩:=h
 exact ⟨L,G,h1,h2,fun x hx=>⟨Nat.zero_le _,(h3 x hx).2⟩⟩
theorem CX.of {A:Nat} (h:CIn F A w p c):CX F (fun x=>A≤x∧x<w.heap.size) w p c:=by
 obtain ⟨L,G,h1,h2,h3⟩:=h
 exact ⟨L,G,h1,h2,fun x hx=>⟨h3 x hx,(h3 x hx).2⟩⟩
theorem CX.upd {F':Nat→Prop} (h:CX F X w p c) (k:Upd F' w w') (h1:∀ x,F x→¬ F' x) (h2:∀ x,X x→¬ F' x):CX F X w' p c:=by
 obtain ⟨L,G,hc,hF,hG⟩:=h
 exact ⟨L,G,hc.upd k (fun x hx=>h1 x (hF x hx)) (fun x hx=>h2 x (hG x hx).1),hF,fun x hx=>⟨(hG x hx).1,Nat.lt_of_lt_of_le (hG x hx).2 k.size⟩⟩
theorem CX.ext (h:CX F X w p c) (k:Ext w w'):CX F X w' p c:=h.upd k (fun _ _ h=>h) fun _ _ h=>h
theorem CX.mono {F' X':Nat→Prop} (h:CX F X w p c) (h1:∀ x,F x→F' x) (h2:∀ x,X x→X' x):CX F' X' w p c:=by
 obtain ⟨L,G,hc,hF,hG⟩:=h
 exact ⟨L,G,hc,fun x hx=>h1 x (hF x hx),fun x hx=>⟨h2 x (hG x hx).1,(hG x hx).2⟩⟩
theorem PX.mono {F' X':Nat→Prop} {M:PLoc} {P:Pool} (h:PX F X w M P c) (h1:∀ x,F x→F' x) (h2:∀ x,X x→X' x):PX F' X' w M P c:=by
 obtain ⟨L,G,hc,hF,hG⟩:=h
 exact ⟨L,G,hc,fun x hx=>h1 x (hF x hx),fun x hx=>⟨h2 x (hG x hx).1,(hG x hx).2⟩⟩
theorem PX.chip {M:PLoc} {P:Pool} (h:PX F X w M P c):CX F X w M.p c:=by
 obtain ⟨L,G,hc,hF,hG⟩:=h
 exact ⟨L,G,hc.chip,fun x hx=>hF x (.inr (.inr hx)),hG⟩
theorem cxScan (h:CX F X w p c) :
  CallsR prog K.pool_Scan #[.pointer (some ⟨p,0,none⟩)] w fun v w'=>Ext w w'∧
   if c.dead then v= .tuple #[.pointer none,.int .i64 10]
   else ∃ M:PLoc,M.p=p∧v= .tuple #[.pointer (some ⟨M.q,0,none⟩),.int .i64 0]∧PX (fun x=>F x∨(w.heap.size≤x∧x<w'.heap.size)) X w' M (scanPool c) c:=by
 obtain ⟨L,G,hr,hF,hG⟩:=h
 refine (pool_Scan_spec hr (fun x hx=>(hG x hx).2)).mono ?_
 rintro v w' ⟨he,hv⟩
 refine ⟨he,?_⟩
 split at hv
 ·rename_i hd
  rw [if_pos hd];exact hv
 ·rename_i hd
  rw [if_neg hd]
  obtain ⟨q,pb,rfl,hq,hpb,hq',hpb',hp⟩:=hv
  refine ⟨⟨q,pb,c.nb,p⟩,rfl,rfl,L,G,hp,fun x hx=>?_,fun x hx=>⟨(hG x hx).1,Nat.lt_of_lt_of_le (hG x hx).2 he.size⟩⟩
  rcases hx with hx | hx | hx
  ·have:x=q:=hx
   exact .inr (by omega)
  ·have:x=pb:=hx
   exact .inr (by omega)
  ·exact .inl (hF x hx)
end
def BeginOut (F X:Nat→Prop) (p:Nat) (c:Chip) (era:Nat) (w w':World) (v:Value):Prop:=Ext w w'∧
   if c.dead then v= .tuple #[.pointer none,.slice none 0 0,.int .i64 10]
   else if era=0 then v= .tuple #[.pointer none,.slice none 0 0,.int .i64 2]
   else ∃ (M:PLoc) (a:Option Addr) (cap:Nat),M.p=p∧v= .tuple #[.pointer (some ⟨M.q,0,none⟩),.slice a (ownL era (takenPool (scanPool c) c)).length cap,.int .i64 0]∧PX (fun x=>F x∨(w.heap.size≤x∧x<w'.heap.size)) X w' M (scanPool c) c∧OwnAt w' a (ownL era (takenPool (scanPool c) c)).length cap T.api_Taken 5 ((ownL era (takenPool (scanPool c) c)).flatMap Taken.vals)∧Fresh w a
theorem log_begin_spec {F X:Nat→Prop} {w:World} {p:Nat} {c:Chip} (h:CX F X w p c) (hnb:c.nb<20) (era:Nat) :
  CallsR prog K.log_begin #[.pointer (some ⟨p,0,none⟩),.int .u32 era] w fun v w'=>BeginOut F X p c era w w' v:=by
 apply log_begin.sh
 unfold log_begin.body
 refine (cxScan h).mono ?_
 rintro _ w1 ⟨he1,hv⟩
 by_cases hd:c.dead=true
 ·rw [if_pos hd] at hv
  subst hv
  exact ⟨_,_,rfl,br_ne (fun _=>by show BeginOut F X p c era w w1 _;unfold BeginOut;rw [if_pos hd];exact ⟨he1,rfl⟩) fun h=>by cases h⟩
 ·rw [if_neg hd] at hv
  obtain ⟨M,hMp,rfl,hp⟩:=hv
  refine ⟨_,_,rfl,br_ne (fun h=>absurd rfl h) fun _=>br_eq (fun h0=>?_) fun h0=>?_⟩
  ·show BeginOut F X p c era w w1 _
   unfold BeginOut
   rw [if_neg hd,if_pos (by omega)]
   exact ⟨he1,rfl⟩
  ·refine (log_own_spec hp.pin hnb era).mono ?_
   rintro _ w2 ⟨he2,a,cap,rfl,ho,hf⟩
   refine ⟨_,_,_,rfl,?_⟩
   show BeginOut F X p c era w w2 _
   unfold BeginOut
   rw [if_neg hd,if_neg (by omega)]
   exact ⟨he1.trans he2,M,a,cap,hMp,rfl,(hp.ext he2).mono (fun x hx=>by rcases hx with hx | hx;exact .inl hx;exact .inr ⟨hx.1,Nat.lt_of_lt_of_le hx.2 he2.size⟩) (fun _ h=>h),ho,hf.mono he1.size⟩
theorem log_low_spec {F X:Nat→Prop} {w:World} {q:Nat} {M:PLoc} {s:LogS} (h:LogIn F X w q M s) (hsp:s.chip.sp≤4) (n:Nat) (hn:n≤1000000000) :
  CallsR prog K.log_Log_low #[.pointer (some ⟨q,0,none⟩),.int .i64 n] w fun v w'=>v= .bool (s.low n)∧Ext w w':=by
 apply log_Log_low.sh
 suffices H:∀ R:Value→World→Prop,(∀ v w',v= .bool (s.low n)∧Ext w w'→R v w')→log_Log_low.body (some ⟨q,0,none⟩) n w R from H _ fun _ _ h=>h
 intro R hR
 unfold log_Log_low.body
 simp only [nilC_some',add_lit,Nat.zero_add]
 refine ⟨_,h.cell (fun _ _=>rfl),(pChip h.pool.pin).mono ?_⟩
 rintro _ _ ⟨rfl,rfl⟩
 rename_i w
 refine ⟨_,rfl,(cGeo h.pool.pin.chip).mono ?_⟩
 rintro _ w2 ⟨rfl,he2⟩
 have hok:=h.pool.pin.chip.ok
 refine ⟨_,_,_,_,rfl,new_put rfl fun B1 w4 hB1 hs4 e4 g4=>⟨_,cell_of g4 rfl,fun w5 hd5=>?_⟩⟩
 have e5:=(he2.trans e4).trans hd5.upd
 have h5:=h.ext e5
 have g5:=Ext.get hd5.upd g4
 have hnp1:=hok.np1
 have hnp2:=hok.np2
 have q1:IntKind.i64.wrap ((s.chip.np:Int) - 1)=((s.chip.np - 1:Nat):Int):=by rw [w64 (by omega) (by omega)];omega
 rw [q1]
 refine ⟨fun v=>Ext w5 v,Upd.refl _ _,_,fun v hv=>(h5.ext hv).cell (fun _ _=>rfl),by omega,_,fun v hv=>cell_of (Ext.get hv g5) rfl,(pBlanks h5.pool.pin).mono ?_⟩
 rintro _ w6 ⟨rfl,he6⟩
 refine ⟨_,rfl,he6,hR _ _ ⟨?_,e5.trans he6⟩⟩
 have q2:IntKind.i64.wrap ((n:Int)+2)=((n+2:Nat):Int):=by rw [w64 (by omega) (by omega)];omega
 have q3:IntKind.i64.wrap (((n+2:Nat):Int)+((s.chip.np - 1:Nat):Int))=((n+2+(s.chip.np - 1):Nat):Int):=by rw [w64 (by omega) (by omega)];omega
 have q4:IntKind.i64.wrap (((n+2+(s.chip.np - 1):Nat):Int) - 1)=((n+2+(s.chip.np - 1) - 1:Nat):Int):=by rw [w64 (by omega) (by omega)];omega
 have hdiv:(n+2+(s.chip.np - 1) - 1) / (s.chip.np - 1)≤n+2+(s.chip.np - 1) - 1:=Nat.div_le_self _ _
 have q5':Int.tdiv ((n+2+(s.chip.np - 1) - 1:Nat):Int) ((s.chip.np - 1:Nat):Int)=(((n+2+(s.chip.np - 1) - 1) / (s.chip.np - 1):Nat):Int):=(Int.ofNat_tdiv _ _).symm
 have hlow:s.low n=decide (blanksPool s.pool s.chip<(n+2+(s.chip.np - 1) - 1) / (s.chip.np - 1)+2+s.chip.sp):=rfl
 rw [q2,q3,q4,q5',hlow]
 generalize (n+2+(s.chip.np - 1) - 1) / (s.chip.np - 1)=D at *
 have q5:IntKind.i64.wrap ((D:Nat):Int)=((D:Nat):Int):=w64 (by omega) (by omega)
 have q6:IntKind.i64.wrap ((D:Int)+2)=((D+2:Nat):Int):=by rw [w64 (by omega) (by omega)];omega
 have q7:IntKind.i64.wrap (((D+2:Nat):Int)+(s.chip.sp:Int))=((D+2+s.chip.sp:Nat):Int):=by rw [w64 (by omega) (by omega)];omega
 rw [q5,q6,q7]
 congr 1
 rw [decide_eq_decide]
 omega
end
theorem anew_1_spec {F X:Nat→Prop} {u:World} {q:Nat} {M:PLoc} {t:LogS} (h:LogIn F X u q M t) {B1 B3 n:Nat} (g1:u.heap[B1]?=some (.cells #[.pointer (some ⟨q,0,none⟩)] T.p_log_Log (0,0))) (g3:u.heap[B3]?=some (.cells #[.int .u64 n] T.uint64 (0,0)))
  (h1:¬ LogF F q B1) (h3:¬ LogF F q B3) (h3X:¬ X B3) :
  CallsR prog K.log_Log_anew_1 #[.pointer (some ⟨B1,0,none⟩),.pointer (some ⟨B3,0,none⟩)] u fun v u'=>v= .int .i64 (t.take.2:Nat)∧LogIn F X u' q M t.take.1∧u'.heap[B3]?=some (.cells #[.int .u64 t.take.1.pool.last] T.uint64 (0,0))∧Upd (fun x=>LogF F q x∨x=B3) u u':=by
 apply log_Log_anew_1.sh
 unfold log_Log_anew_1.body
 refine ⟨_,cell_of g1 rfl,(log_take_spec h).mono ?_⟩
 rintro _ u1 ⟨rfl,hu1,ht1⟩
 refine ⟨_,rfl,_,cell_of (hu1.get g1 h1) rfl,?_⟩
 simp only [nilC_some',add_lit,Nat.zero_add]
 refine ⟨_,ht1.cell (i:=0) (fun _ _=>rfl),(pLast ht1.pool.pin).mono ?_⟩
 rintro _ u2 ⟨rfl,hu2⟩
 obtain rfl:u1=u2:=hu2.symm
 refine ⟨_,rfl,store_of (hu1.get g3 h3) (by simp) fun u3 hp=>⟨(by trivial),?_,?_,(hu1.mono fun x _ hx=>.inl hx).trans (hp.upd1.mono fun x _ hx=>.inr hx)⟩⟩
 ·exact ht1.upd hp.upd1 fun x hx=>by
   subst hx
   exact ⟨fun hf=>h3 (.inl hf),h3X,fun hq=>h3 (.inr hq)⟩
 ·exact hp.get
theorem anew_2_spec {F X:Nat→Prop} {u:World} {q:Nat} {M:PLoc} {t:LogS} (h:LogIn F X u q M t) {B1 B5:Nat} (g1:u.heap[B1]?=some (.cells #[.pointer (some ⟨q,0,none⟩)] T.p_log_Log (0,0))) {a:Option Addr} {b:List UInt8} {cp:Nat} (g5:u.heap[B5]?=some (.cells #[.slice a b.length cp] T.L_uint8 (0,0)))
  (hb:BytesAt u a b) (hap:∀ p,a=some p→¬ F p.block∧p.block≠q) (hpg:t.page<1000000) :
  CallsR prog K.log_Log_anew_2 #[.pointer (some ⟨B1,0,none⟩),.pointer (some ⟨B5,0,none⟩)] u fun v u'=>v= .int .i64 ((t.write b t.fuel).2:Nat)∧LogIn F X u' q M (t.write b t.fuel).1∧Upd (LogF F q) u u':=by
 apply log_Log_anew_2.sh
 unfold log_Log_anew_2.body
 refine ⟨_,cell_of g1 rfl,_,_,_,cell_of g5 rfl,(log_write_spec h hb hap hpg).mono ?_⟩
 rintro _ u1 ⟨rfl,hu1,ht1⟩
 exact ⟨_,rfl,rfl,ht1,hu1⟩
theorem anew_3_spec {F X:Nat→Prop} {u:World} {q:Nat} {M:PLoc} {t:LogS} (h:LogIn F X u q M t) {B1 B2 B3 n:Nat} {size:Int} (g1:u.heap[B1]?=some (.cells #[.pointer (some ⟨q,0,none⟩)] T.p_log_Log (0,0))) (g2:u.heap[B2]?=some (.cells #[.int .i64 size] T.int (0,0))) (g3:u.heap[B3]?=some (.cells #[.int .u64 n] T.uint64 (0,0)))
  (hn:n<18446744073709551616) (hS:∀ x,F x→x<u.heap.size) (hpg:t.page<1000000) :
  CallsR prog K.log_Log_anew_3 #[.pointer (some ⟨B2,0,none⟩),.pointer (some ⟨B3,0,none⟩),.pointer (some ⟨B1,0,none⟩)] u fun v u'=>v= .int .i64 ((t.write (putDropB size n).1 t.fuel).2:Nat)∧LogIn F X u' q M (t.write (putDropB size n).1 t.fuel).1∧Upd (LogF F q) u u':=by
 apply log_Log_anew_3.sh
 unfold log_Log_anew_3.body
 refine ⟨_,cell_of g2 rfl,_,cell_of g3 rfl,(rec_PutDrop_spec size n hn u).mono ?_⟩
 rintro _ u1 ⟨a,c,rfl,hb,hf,he,hc⟩
 have hq:=h.lt
 refine ⟨_,_,_,_,rfl,_,cell_of (Ext.get he g1) rfl,(log_write_spec (h.ext he) hb (fun p hp=>⟨fun hF=>?_,fun e=>?_⟩) hpg).mono ?_⟩
 ·have:=hf p hp
  have:=hS _ hF
  omega
 ·have:=hf p hp
  omega
 ·rintro _ u2 ⟨rfl,hu2,ht2⟩
  exact ⟨_,rfl,rfl,ht2,(Upd.ext he).trans hu2⟩
structure LogS.Keeps (s t:LogS):Prop where
 facts:t.facts=s.facts
 era:t.era=s.era
 geo:s.chip.SameGeo t.chip
theorem LogS.Keeps.refl (s:LogS):s.Keeps s:=⟨rfl,rfl,Chip.SameGeo.refl _⟩
theorem LogS.Keeps.trans {a b c:LogS} (h:a.Keeps b) (k:b.Keeps c):a.Keeps c:=⟨k.facts.trans h.facts,k.era.trans h.era,h.geo.trans k.geo⟩
theorem LogS.take_keeps (s:LogS):s.Keeps s.take.1:=by
 obtain ⟨h1,h2,h3,_⟩:=s.take_keep
 exact ⟨h1,h2,h3⟩
theorem LogS.take_page (s:LogS) (h:s.page≤40):s.take.1.page≤40:=by
 unfold LogS.take
 simp only
 split
 ·simp
 ·exact h
theorem LogS.write_keeps (b:List UInt8):∀ (n:Nat) (s:LogS),s.page≤40→s.chip.np≤32→s.Keeps (s.write b n).1∧(s.write b n).1.page≤40
 | 0,s,h,_=>⟨.refl s,h⟩
 | n+1,s,h,hnp=>by
  rw [LogS.write_step]
  obtain ⟨y,hy⟩: ∃ y,y=(if s.block= -1∨s.page≥s.chip.np then s.take else (s,0)):=⟨_,rfl⟩
  rw [← hy]
  have hk:s.Keeps y.1∧y.1.page≤40∧(y.2=0→y.1.page≤32):=by
   subst hy
   split
   ·refine ⟨s.take_keeps,s.take_page h,fun h0=>?_⟩
    obtain ⟨_,_,_,_,h5⟩:=s.take_keep
    obtain ⟨_,_,hp,_⟩:=h5 h0
    omega
   ·rename_i hc
    exact ⟨.refl s,h,fun _=>by show s.page≤32;omega⟩
  split
  ·exact ⟨hk.1,hk.2.1⟩
  ·rename_i h0
   have hp:=hk.2.2 (by omega)
   have hg:=Chip.program_geo y.1.chip y.1.block (y.1.page:Nat) b
   split
   ·exact ⟨⟨hk.1.facts,hk.1.era,hk.1.geo.trans hg⟩,by show y.1.page+1≤40;omega⟩
   ·obtain ⟨r1,r2⟩:=LogS.write_keeps b n { y.1 with chip:=(y.1.chip.program y.1.block (y.1.page:Nat) b).1,page:=y.1.page+1,block:= -1 } (by show y.1.page+1≤40;omega) (by have:=(hk.1.geo.trans hg).2.1;show (y.1.chip.program y.1.block (y.1.page:Nat) b).1.np≤32;omega)
    exact ⟨(LogS.Keeps.mk hk.1.facts hk.1.era (hk.1.geo.trans hg):s.Keeps { y.1 with chip:=(y.1.chip.program y.1.block (y.1.page:Nat) b).1,page:=y.1.page+1,block:= -1 }).trans r1,r2⟩
theorem putPage_ne {size:Int} {kind:UInt8} {body:List UInt8} (h:(putPage size kind body).2=0):(putPage size kind body).1≠[]:=by
 unfold putPage at *
 split at h
 ·cases h
 ·split at h
  ·cases h
  ·rename_i h1 h2
   rw [if_neg h1,if_neg h2]
   intro he
   have hs:isSize size=true:=by cases hb:isSize size with | true=>rfl | false=>exact absurd (.inl hb) h1
   unfold isSize at hs
   simp only [Bool.and_eq_true,decide_eq_true_eq] at hs
   have:=pageOf_length size.toNat kind body (by omega)
   rw [show pageOf size.toNat kind body=[] from he] at this
   simp at this
   omega
theorem putL_ne {size:Int} {l:List Change} (h:(putL size l).2=0):(putL size l).1≠[]:=by
 unfold putL at *
 split at h
 ·rename_i hm
  rw [if_pos hm]
  exact putPage_ne h
 ·cases h
theorem pagesGo_ne {size:Int} {l:List Fact}:∀ (cs:List Nat) (acc:List (List UInt8)),(∀ p∈acc,p≠[])→∀ p∈(pagesGo size l cs acc).1,p≠[]
 | [],acc,h=>h
 | a :: cs,acc,h=>by
  obtain ⟨P,hP,key⟩: ∃ P,P=putL size (((l.take (match cs with | []=>l.length | b :: _=>b)).drop a).map asChange)∧pagesGo size l (a :: cs) acc=(if P.2≠0 then ([],P.2) else pagesGo size l cs (acc ++ [P.1])):=⟨_,rfl,by cases cs<;>rfl⟩
  rw [key]
  split
  ·simp
  ·rename_i h0
   refine pagesGo_ne cs _ fun p hp=>?_
   rcases List.mem_append.1 hp with hp | hp
   ·exact h p hp
   ·simp at hp
    rw [hp,hP]
    exact putL_ne (by rw [← hP];omega)
theorem packF_ne {size:Int} {l:List Fact}:∀ p∈(packF size l).1,p≠[]:=by
 unfold packF
 split
 ·simp
 ·exact pagesGo_ne _ _ (by simp)
theorem LogS.anew_eq (s:LogS):s.anew=(if (packF s.chip.sz s.facts).2≠0 then (s,(packF s.chip.sz s.facts).2) else if s.take.2≠0 then s.take else
  if (LogS.writeAll ((packF s.chip.sz s.facts).1 ++ [(putDropB s.chip.sz s.take.1.pool.last).1]) s.take.1).2≠0 then LogS.writeAll ((packF s.chip.sz s.facts).1 ++ [(putDropB s.chip.sz s.take.1.pool.last).1]) s.take.1
  else LogS.freeAll s.take.1.pool.last (ownL s.era (takenPool (LogS.writeAll ((packF s.chip.sz s.facts).1 ++ [(putDropB s.chip.sz s.take.1.pool.last).1]) s.take.1).1.pool (LogS.writeAll ((packF s.chip.sz s.facts).1 ++ [(putDropB s.chip.sz s.take.1.pool.last).1]) s.take.1).1.chip)) (LogS.writeAll ((packF s.chip.sz s.facts).1 ++ [(putDropB s.chip.sz s.take.1.pool.last).1]) s.take.1).1):=rfl
theorem cutGo_len (room:Int):∀ (l:List Fact) (i from_ used:Nat),(cutGo room i from_ used l).length≤l.length
 | [],_,_,_=>Nat.le_refl _
 | f :: l,i,from_,used=>by
  unfold cutGo
  split
  ·have:=cutGo_len room l (i+1) i (costF f)
   simp;exact this
  ·have:=cutGo_len room l (i+1) from_ (used+costF f)
   simp;omega
theorem pagesGo_len {size:Int} {l:List Fact}:∀ (cs:List Nat) (acc:List (List UInt8)),(pagesGo size l cs acc).1.length≤acc.length+cs.length
 | [],acc=>Nat.le_refl _
 | a :: cs,acc=>by
  obtain ⟨P,_,key⟩: ∃ P,P=putL size (((l.take (match cs with | []=>l.length | b :: _=>b)).drop a).map asChange)∧pagesGo size l (a :: cs) acc=(if P.2≠0 then ([],P.2) else pagesGo size l cs (acc ++ [P.1])):=⟨_,rfl,by cases cs<;>rfl⟩
  rw [key]
  split
  ·simp
  ·have:=pagesGo_len (size:=size) (l:=l) cs (acc ++ [P.1])
   simp at this ⊢
   omega
theorem packF_len {size:Int} {l:List Fact}:(packF size l).1.length≤l.length:=by
 unfold packF
 split
 ·exact Nat.zero_le _
 ·have h1:=pagesGo_len (size:=size) (l:=l) (cutsF size l).1 []
  have h2:(cutsF size l).1.length≤l.length:=by
   unfold cutsF
   split
   ·exact Nat.zero_le _
   ·split
    ·exact Nat.zero_le _
    ·split
     ·exact Nat.zero_le _
     ·exact cutGo_len _ _ _ _ _
  simp at h1
  omega
abbrev clo1 (B1 B3:Nat):Value:=.func (.func K.log_Log_anew_1) #[] #[.pointer (some ⟨B1,0,none⟩),.pointer (some ⟨B3,0,none⟩)]
abbrev clo2 (B1 b:Nat):Value:=.func (.func K.log_Log_anew_2) #[] #[.pointer (some ⟨B1,0,none⟩),.pointer (some ⟨b,0,none⟩)]
abbrev clo3 (B2 B3 B1:Nat):Value:=.func (.func K.log_Log_anew_3) #[] #[.pointer (some ⟨B2,0,none⟩),.pointer (some ⟨B3,0,none⟩),.pointer (some ⟨B1,0,none⟩)]
def Boxes (lo:Nat) (u:World) (bs:List Nat) (pages:List (List UInt8)):Prop:=∀ (k:Nat) (hk:k<bs.length) (hp:k<pages.length),lo≤bs[k]∧∃ a c,u.heap[bs[k]]?=some (.cells #[.slice a pages[k].length c] T.L_uint8 (0,0))
theorem Boxes.upd {lo:Nat} {F:Nat→Prop} {u u':World} {bs:List Nat} {pages:List (List UInt8)} (h:Boxes lo u bs pages) (k:Upd F u u') (hF:∀ x,F x→x<lo∨∃ cs fr,u.heap[x]?=some (.cells cs T.func_api_Errno fr)):Boxes lo u' bs pages:=fun i hi hp=>by
 obtain ⟨h1,a,c,g⟩:=h i hi hp
 refine ⟨h1,a,c,k.get g fun hf=>?_⟩
 rcases hF _ hf with hx | ⟨cs,fr,hx⟩
 ·omega
 ·rw [g] at hx
  injection hx with hx
  injection hx with _ hx _
  exact absurd hx (by decide)
theorem OwnAt.typed {w:World} {b len cap size:Nat} {e:TypeId} {cells:List Value} (h:OwnAt w (some ⟨b,0,none⟩) len cap e size cells):∃ cs fr,w.heap[b]?=some (.cells cs e fr):=by
 obtain ⟨_,_,h⟩:=h
 rcases h with ⟨h,_⟩| ⟨b',cur,h,hb,_⟩
 ·cases h
 ·cases h;exact ⟨_,_,hb⟩
theorem log_anew_spec {F X:Nat→Prop} {w:World} {q:Nat} {M:PLoc} {s:LogS} (h:LogIn F X w q M s) (hS:∀ x,F x→x<w.heap.size) (hXS:∀ x,X x→x<w.heap.size) (hnb:s.chip.nb<20) (hpg:s.page≤40)
  (hfn:NamesF s.facts) (hfv:∀ f∈s.facts,f.val.length≤1000000000000) (hfl:s.facts.length≤100000000) (hlast:s.take.1.pool.last<18446744073709551616) :
  CallsR prog K.log_Log_anew #[.pointer (some ⟨q,0,none⟩)] w fun v w'=>v= .int .i64 (s.anew.2:Nat)∧Upd (LogF F q) w w'∧LogIn F X w' q M s.anew.1:=by
 obtain ⟨r,hr⟩: ∃ r,r=s.anew:=⟨_,rfl⟩
 rw [← hr]
 rw [LogS.anew_eq] at hr
 apply log_Log_anew.sh
 suffices H:∀ R:Value→World→Prop,(∀ v w',v= .int .i64 (r.2:Nat)∧Upd (LogF F q) w w'∧LogIn F X w' q M r.1→R v w')→log_Log_anew.body (some ⟨q,0,none⟩) w R from H _ fun _ _ h=>h
 intro R hR
 unfold log_Log_anew.body
 have hok:=h.pool.pin.chip.ok
 have hnp2:=hok.np2
 have hql:=h.lt
 intro B1 w1 hn1
 have hB1:B1=w.heap.size:=hn1.num
 have hs1:=hn1.size
 have g1:w1.heap[B1]?=some (.cells #[.pointer (some ⟨q,0,none⟩)] T.p_log_Log (0,0)):=hn1.get
 refine ⟨_,cell_of g1 rfl,?_⟩
 simp only [nilC_some',add_lit,Nat.zero_add]
 refine ⟨_,(h.ext hn1.upd).cell (i:=0) (fun _ _=>rfl),(pChip (h.ext hn1.upd).pool.pin).mono ?_⟩
 rintro _ u ⟨rfl,hu⟩
 obtain rfl:w1=u:=hu.symm
 refine ⟨_,rfl,(cGeo (h.ext hn1.upd).pool.pin.chip).mono ?_⟩
 rintro _ w3 ⟨rfl,he3⟩
 have hs3:=he3.size
 refine ⟨_,_,_,_,rfl,new_put rfl fun B2 w5 hB2 hs5 e5 g2=>?_⟩
 intro w6 hd6
 have e16:Ext w1 w6:=(he3.trans e5).trans hd6.upd
 have e6:Ext w w6:=hn1.upd.trans e16
 have h6:=h.ext e6
 have g16:=Ext.get e16 g1
 have g26:w6.heap[B2]?=some (.cells #[.int .i64 (s.chip.sz:Nat)] T.int (0,0)):=Ext.get hd6.upd g2
 have hs6:w6.heap.size=w5.heap.size:=by rw [hd6.heap]
 refine ⟨fun v=>Ext w6 v,Upd.refl _ _,_,fun v hv=>cell_of (Ext.get hv g26) rfl,_,fun v hv=>cell_of (Ext.get hv g16) rfl,?_⟩
 simp only [nilC_some',add_lit,Nat.zero_add]
 obtain ⟨af,cf,gq,Gf,hGf,hGf'⟩:=h6.head
 refine ⟨af,_,cf,fun v hv=>cell_of (Ext.get hv gq) rfl,(pack_Pages_spec hGf (fun b hb=>(hGf' b hb).2.2) hfn hfv hfl (s.chip.sz:Nat)).mono ?_⟩
 have hpne:=packF_ne (size:=(s.chip.sz:Nat)) (l:=s.facts)
 have hpl:=packF_len (size:=(s.chip.sz:Nat)) (l:=s.facts)
 generalize packF (s.chip.sz:Nat) s.facts=P at *
 obtain ⟨pages,pe⟩:=P
 simp only at hpne hpl hr ⊢
 rintro _ w7 ⟨a2,c2,rfl,hl7,he7⟩
 have hs7:=he7.size
 have e7:=e6.trans he7
 refine ⟨_,_,_,_,rfl,he7,br_ne (fun hne=>?_) fun h0=>?_⟩
 ·rw [if_pos (by omega)] at hr
  rw [hr] at hR
  exact hR _ _ ⟨rfl,Upd.ext e7,h.ext e7⟩
 rw [if_neg (by omega)] at hr
 refine new_put rfl fun B3 w9 hB3 hs9 e9 g3=>?_
 intro B4 w10 hn10
 have hs10:=hn10.size
 have e710:=e9.trans hn10.upd
 obtain ⟨G7,hG7,hG7'⟩:=hl7.slice
 have hrow10:OwnAt w10 (some ⟨B4,0,none⟩) 1 1 T.func_api_Errno 1 [clo1 B1 B3]:=OwnAt.new hn10 rfl
 have hB4:B4=w9.heap.size:=hn10.num
 refine ⟨fun a3 l3 c3 x u=>∃ (i:Nat) (bs:List Nat),x=i∧i≤pages.length∧bs.length=i∧l3=i+1∧OwnAt u a3 (i+1) c3 T.func_api_Errno 1 (clo1 B1 B3 :: bs.map (clo2 B1))∧Fresh w9 a3∧Boxes w9.heap.size u bs pages∧(∀ (k:Nat) (hk:k<bs.length) (hp:k<pages.length) a c,u.heap[bs[k]]?=some (.cells #[.slice a pages[k].length c] T.L_uint8 (0,0))→BytesAt w7 a pages[k]∧∀ p,a=some p→w6.heap.size≤p.block∧p.block<w7.heap.size)∧Ext w9 u,fun _ _ _ x _=>((pages.length:Int) - x).toNat,
  ⟨0,[],rfl,by omega,rfl,rfl,hrow10,Fresh.some (by omega),fun k hk=>absurd hk (by simp),fun k hk=>absurd hk (by simp),hn10.upd⟩,?_⟩
 rintro a3 l3 c3 x u ⟨i,bs,rfl,hi,hbl,rfl,ho,hfr,hbx,hby,heu⟩
 have hsu:=heu.size
 have ha3:∀ b,a3=some ⟨b,0,none⟩→w9.heap.size≤b∧b<u.heap.size:=fun b hb=>⟨hfr _ hb,ho.blk hb⟩
 refine br_dec (fun hlt=>?_) fun hge=>?_
 ·have hi':i<pages.length:=by omega
  have ew:IntKind.i64.wrap ((i:Int)+1)=((i+1:Nat):Int):=w64 (by omega) (by omega)
  simp only [ew]
  have e7u:=e9.trans heu
  refine SliceAt.idx (r:=bytesR) (hG7.ext e7u) rfl hi' fun b o vs _ hrow hR' _=>?_
  obtain ⟨av,cv,rfl,hcv,hbv,hgv⟩:=hR'
  refine ⟨av,pages[i].length,cv,(by have h1:=hrow.cells.1;rw [add_zero] at h1;exact h1),new_put (vs:=[Value.slice av pages[i].length cv]) rfl fun B5 w13 hB5 hs13 e13 g5=>fun B6 w14 hn14=>?_⟩
  have hs14:=hn14.size
  have e14:=e13.trans hn14.upd
  have g514:=Ext.get hn14.upd g5
  refine append_own (ho.ext e14) rfl (read_row (RowAt.of hn14.get (vs:=[clo2 B1 B5]) fun j v hj=>by simpa using hj) rfl) rfl (fun v hv=>by simp at hv;rw [hv];rfl) rfl (by omega) (by omega) fun a' c' w15 hu15 ho15 hf15=>?_
  have hb5ne:∀ x,a3=some ⟨x,0,none⟩→B5≠x:=fun x hx=>by have:=ha3 x hx;omega
  have g515:w15.heap[B5]?=some (.cells #[.slice av pages[i].length cv] T.L_uint8 (0,0)):=hu15.get g514 fun hx=>hb5ne _ hx rfl
  have hbx14:Boxes w9.heap.size w14 bs pages:=hbx.upd (Upd.ext (F:=NoB) e14) fun x hx=>hx.elim
  have hbx15:Boxes w9.heap.size w15 bs pages:=hbx14.upd hu15 fun x hx=>by
   subst hx
   exact .inr (OwnAt.typed (ho.ext e14))
  have hgb:∀ k (hk:k<bs.length) (hp:k<pages.length),bs[k]<u.heap.size∧w15.heap[bs[k]]?=u.heap[bs[k]]?:=fun k hk hp=>by
   obtain ⟨h1,a,c,g⟩:=hbx k hk hp
   obtain ⟨_,a',c',g'⟩:=hbx15 k hk hp
   have hltb:=(Array.getElem?_eq_some_iff.1 g).1
   refine ⟨hltb,?_⟩
   have g14:=Ext.get e14 g
   by_cases hx:a3=some ⟨bs[k],0,none⟩
   ·subst hx
    obtain ⟨cs,fr,gt⟩:=OwnAt.typed ho
    rw [g] at gt
    injection gt with gt
    injection gt with _ gt _
    exact absurd gt (by decide)
   ·rw [g];exact hu15.get g14 hx
  refine ⟨⟨i+1,bs ++ [B5],rfl,hi',by simp [hbl],rfl,by simpa using ho15,?_,?_,?_,Upd.beyond (heu.trans e14) hu15 fun x hx=>(ha3 x hx).1⟩,meas hi'⟩
  ·rcases hf15 with rfl | ⟨b',rfl,hb'⟩
   ·exact hfr
   ·exact Fresh.some (by omega)
  ·intro k hk hp
   by_cases hki:k<bs.length
   ·rw [List.getElem_append_left hki]
    exact hbx15 k hki hp
   ·have hke:k=i:=by simp at hk;omega
    subst hke
    rw [List.getElem_append_right (by omega)]
    simp only [hbl,Nat.sub_self,List.getElem_cons_zero]
    exact ⟨by omega,av,cv,g515⟩
  ·intro k hk hp a c g
   by_cases hki:k<bs.length
   ·rw [List.getElem_append_left hki] at g
    rw [(hgb k hki hp).2] at g
    exact hby k hki hp a c g
   ·have hke:k=i:=by simp at hk;omega
    subst hke
    rw [List.getElem_append_right (by omega)] at g
    simp only [hbl,Nat.sub_self,List.getElem_cons_zero] at g
    rw [g515] at g
    injection g with g
    injection g with g _ _
    injection g with g
    injection g with g _
    injection g with ga _ gc
    subst ga;subst gc
    have hne:=hpne _ (List.getElem_mem hi')
    have hreg:∀ p,av=some p→w6.heap.size≤p.block∧p.block<w7.heap.size:=fun p hp=>by
     have:=hG7' _ (hgv hne p hp)
     rcases this.1 with h | h
     ·exact ⟨h,this.2⟩
     ·exact h.elim
    refine ⟨?_,hreg⟩
    obtain ⟨bb,oo,hab,_⟩:=RowAt.blk hbv (by simpa using hne)
    subst hab
    have hrg:=hreg _ rfl
    rcases hbv with hbv | ⟨b9,o9,cur,T9,fr,hab9,hb9,hv9⟩
    ·exact .inl hbv
    ·cases hab9
     refine .inr ⟨_,_,cur,T9,fr,rfl,?_,hv9⟩
     rw [← e7u.blk _ hrg.2 (fun h=>h)]
     exact hb9
 ·have hii:i=pages.length:=by omega
  subst hii
  intro B7 w16 hn16
  have hs16:=hn16.size
  refine append_own (ho.ext hn16.upd) rfl (read_row (RowAt.of hn16.get (vs:=[clo3 B2 B3 B1]) fun j v hj=>by simpa using hj) rfl) rfl (fun v hv=>by simp at hv;rw [hv];rfl) rfl (by omega) (by omega) fun a6 c6 w17 hu17 ho17 hf17=>?_
  have hs17:=hu17.size
  have hbx17:Boxes w9.heap.size w17 bs pages:=(hbx.upd (Upd.ext (F:=NoB) hn16.upd) fun x hx=>hx.elim).upd hu17 fun x hx=>by
   subst hx
   exact .inr (OwnAt.typed (ho.ext hn16.upd))
  have e917:Ext w9 w17:=Upd.beyond (heu.trans hn16.upd) hu17 fun x hx=>(ha3 x hx).1
  have hby17:∀ (k:Nat) (hk:k<bs.length) (hp:k<pages.length) a c,w17.heap[bs[k]]?=some (.cells #[.slice a pages[k].length c] T.L_uint8 (0,0))→BytesAt w7 a pages[k]∧∀ p,a=some p→w6.heap.size≤p.block∧p.block<w7.heap.size:=fun k hk hp a c g=>by
   obtain ⟨h1,a',c',g'⟩:=hbx k hk hp
   have g16':=Ext.get hn16.upd g'
   by_cases hx:a3=some ⟨bs[k],0,none⟩
   ·subst hx
    obtain ⟨cs,fr,gt⟩:=OwnAt.typed ho
    rw [g'] at gt
    injection gt with gt
    injection gt with _ gt _
    exact absurd gt (by decide)
   ·rw [hu17.get g16' hx] at g
    injection g with g
    injection g with g _ _
    injection g with g
    injection g with g _
    injection g with ga _ gc
    subst ga;subst gc
    exact hby k hk hp a' c' g'
  have hf6:∀ b,a6=some ⟨b,0,none⟩→w9.heap.size≤b:=fun b hb=>by
   rcases hf17 with rfl | ⟨b',rfl,hb'⟩
   ·exact (ha3 b hb).1
   ·cases hb;omega
  have htodo:∀ k (hk:k<pages.length),(clo1 B1 B3 :: bs.map (clo2 B1) ++ [clo3 B2 B3 B1])[k+1]?=some (clo2 B1 (bs[k]'(by omega))):=fun k hk=>by
   have:(bs.map (clo2 B1)).length=pages.length:=by simp [hbl]
   rw [List.cons_append,List.getElem?_cons_succ,List.getElem?_append_left (by omega),List.getElem?_map,List.getElem?_eq_getElem (by omega:k<bs.length)]
   rfl
  have htodo3:(clo1 B1 B3 :: bs.map (clo2 B1) ++ [clo3 B2 B3 B1])[pages.length+1]?=some (clo3 B2 B3 B1):=by
   have:(bs.map (clo2 B1)).length=pages.length:=by simp [hbl]
   rw [List.cons_append,List.getElem?_cons_succ,List.getElem?_append_right (by omega),this]
   simp
  generalize htd:clo1 B1 B3 :: bs.map (clo2 B1) ++ [clo3 B2 B3 B1]=todo at ho17 htodo htodo3
  have htodo0:todo[0]?=some (clo1 B1 B3):=by rw [← htd];rfl
  have e17:Ext w w17:=(e7.trans e9).trans e917
  have h17:=h.ext e17
  have g117:=Ext.get ((he7.trans e9).trans e917) g16
  have g217:=Ext.get ((he7.trans e9).trans e917) g26
  have g317:=Ext.get e917 g3
  have hB3':w7.heap.size≤B3∧B3<w9.heap.size:=by omega
  have nF:∀ x,w.heap.size≤x→¬ LogF F q x:=fun x hx hf=>by
   rcases hf with hf | hf
   ·have:=hS x hf;omega
   ·omega
  obtain ⟨all,hall⟩: ∃ all,all=pages ++ [(putDropB (s.chip.sz:Nat) s.take.1.pool.last).1]:=⟨_,rfl⟩
  rw [← hall] at hr
  have halll:all.length=pages.length+1:=by rw [hall];simp
  have hsk:=s.take_keeps
  have htp:=s.take_page hpg
  refine ⟨fun x u=>∃ k:Nat,x=k∧k≤pages.length+2∧Upd (fun y=>LogF F q y∨y=B3) w17 u∧((k=0∧LogIn F X u q M s∧u.heap[B3]?=some (.cells #[.int .u64 0] T.uint64 (0,0)))∨(1≤k∧s.take.2=0∧∃ t:LogS,LogIn F X u q M t∧s.Keeps t∧t.page≤40∧u.heap[B3]?=some (.cells #[.int .u64 s.take.1.pool.last] T.uint64 (0,0))∧LogS.writeAll (all.drop (k - 1)) t=LogS.writeAll all s.take.1)),fun x _=>(((pages.length+2:Nat):Int) - x).toNat,
   ⟨0,rfl,by omega,Upd.refl _ _,.inl ⟨rfl,h17,g317⟩⟩,?_⟩
  rintro x u' ⟨k,rfl,hk,huk,hst⟩
  have hwu:Upd (fun y=>LogF F q y∨y=B3) w u':=(Upd.ext e17).trans huk
  have hwq:∀ {v:World},Upd (fun y=>LogF F q y∨y=B3) w v→Upd (LogF F q) w v:=fun hv=>(Upd.refl _ w).over hv fun y hy=>by
   rcases hy with hy | hy
   ·exact .inl hy
   ·exact .inr (by omega)
  have kB:∀ b,w.heap.size≤b→b≠B3→∀ {o:Obj},w17.heap[b]?=some o→u'.heap[b]?=some o:=fun b hb hne {o} g=>huk.get g fun hf=>by
   rcases hf with hf | hf
   ·exact nF b hb hf
   ·exact hne hf
  have gk1:=kB B1 (by omega) (by omega) g117
  have gk2:=kB B2 (by omega) (by omega) g217
  have hsu':=huk.size
  have hrowu:RowAt u' a6 todo:=by
   refine RowAt.upd ho17.row huk fun p hp hf=>?_
   obtain ⟨_,_,hx⟩:=ho17
   rcases hx with ⟨hx,_⟩| ⟨b',_,hx,_⟩
   ·rw [hx] at hp;cases hp
   ·have h6':=hf6 b' hx
    rw [hx] at hp
    cases hp
    rcases hf with hf | hf
    ·exact nF b' (by omega) hf
    ·have:b'=B3:=hf
     omega
  refine br_dec (fun hltk=>?_) fun hgek=>?_
  ·have hk':k<pages.length+2:=by omega
   have ewk:IntKind.i64.wrap ((k:Int)+1)=((k+1:Nat):Int):=w64 (by omega) (by omega)
   simp only [ewk]
   have hvk:∃ v4,todo[k]?=some v4:=⟨_,List.getElem?_eq_getElem (by rw [← htd];simp [hbl];omega)⟩
   obtain ⟨v4,hv4⟩:=hvk
   obtain ⟨b6,o6,rfl,hc6⟩:=hrowu.cell hv4
   refine ⟨by omega,by omega,?_⟩
   simp only [nilC_some',add_lit,Nat.mul_one,Int.toNat_natCast]
   refine ⟨v4,hc6,?_⟩
   rcases hst with ⟨rfl,hlk,gk30⟩| ⟨hk1,htk,t,hlk,hkeep,htpg,gk3,hwa⟩
   ·rw [htodo0] at hv4
    cases hv4
    refine (show callT (clo1 B1 B3) [] u' _ from ⟨by kernel_rfl,(anew_1_spec (n:=0) hlk gk1 gk30 (nF _ (by omega)) (nF _ (by omega)) (fun hx=>by have:=hXS _ hx;omega)).mono ?_⟩)
    rintro _ u1 ⟨rfl,ht1,g31,hu1⟩
    refine ⟨_,rfl,br_ne (fun hne=>?_) fun hz=>?_⟩
    ·rw [if_pos (by omega)] at hr
     rw [hr] at hR
     exact hR _ _ ⟨rfl,hwq (hwu.trans hu1),ht1⟩
    ·exact ⟨⟨1,rfl,by omega,huk.trans hu1,.inr ⟨Nat.le_refl _,by omega,s.take.1,ht1,hsk,htp,g31,rfl⟩⟩,by omega⟩
   ·rw [if_neg (by omega)] at hr
    have step:∀ (pg:List UInt8) (hkl:k - 1<all.length),all[k - 1]=pg→∀ u1,LogIn F X u1 q M (t.write pg t.fuel).1→Upd (LogF F q) u' u1→br (((t.write pg t.fuel).2:Int) != 0) (R (.int .i64 ((t.write pg t.fuel).2:Nat)) u1) ((∃ k':Nat,((k+1:Nat):Int)=k'∧k'≤pages.length+2∧Upd (fun y=>LogF F q y∨y=B3) w17 u1∧((k'=0∧LogIn F X u1 q M s∧u1.heap[B3]?=some (.cells #[.int .u64 0] T.uint64 (0,0)))∨(1≤k'∧s.take.2=0∧∃ t:LogS,LogIn F X u1 q M t∧s.Keeps t∧t.page≤40∧u1.heap[B3]?=some (.cells #[.int .u64 s.take.1.pool.last] T.uint64 (0,0))∧LogS.writeAll (all.drop (k' - 1)) t=LogS.writeAll all s.take.1)))∧
      (((pages.length+2:Nat):Int) - ((k+1:Nat):Int)).toNat<(((pages.length+2:Nat):Int) - (k:Int)).toNat):=fun pg hkl hpgk u1 ht1 hu1=>by
     have hed:all.drop (k - 1)=pg :: all.drop k:=by
      rw [List.drop_eq_getElem_cons hkl,hpgk]
      congr 2
      omega
     rw [hed] at hwa
     have hwk:=LogS.write_keeps pg t.fuel t htpg (by have:=hkeep.geo.2.1;omega)
     have u17:=huk.trans (hu1.mono fun x _ hx=>.inl hx)
     have hwu1:=hwu.trans (hu1.mono fun x _ hx=>.inl hx)
     refine br_ne (fun hne=>?_) fun hz=>?_
     ·have hwa':LogS.writeAll all s.take.1=t.write pg t.fuel:=by
       rw [← hwa]
       show (if (t.write pg t.fuel).2≠0 then t.write pg t.fuel else _)=_
       rw [if_pos (by omega)]
      rw [hwa',if_pos (by omega)] at hr
      rw [hr] at hR
      exact hR _ _ ⟨rfl,hwq hwu1,ht1⟩
     ·refine ⟨⟨k+1,rfl,by omega,u17,.inr ⟨by omega,htk,(t.write pg t.fuel).1,ht1,hkeep.trans hwk.1,hwk.2,hu1.get gk3 (nF _ (by omega)),?_⟩⟩,by omega⟩
      rw [← hwa,Nat.add_sub_cancel]
      show _=(if (t.write pg t.fuel).2≠0 then t.write pg t.fuel else _)
      rw [if_neg (by omega)]
    by_cases hkp:k - 1<pages.length
    ·have hbk:k - 1<bs.length:=by omega
     have hk2:k=(k - 1)+1:=by omega
     rw [hk2,htodo (k - 1) hkp] at hv4
     cases hv4
     obtain ⟨hlo,ab,cb,gb⟩:=hbx17 (k - 1) hbk hkp
     obtain ⟨hb7,hbr⟩:=hby17 (k - 1) hbk hkp ab cb gb
     have gbu:=kB bs[k - 1] (by omega) (by omega) gb
     have hbu:BytesAt u' ab pages[k - 1]:=RowAt.upd (hb7.ext (e9.trans e917)) huk fun p hp hf=>by
      have:=hbr p hp
      rcases hf with hf | hf
      ·exact nF _ (by omega) hf
      ·have:p.block=B3:=hf
       omega
     refine (show callT (clo2 B1 bs[k - 1]) [] u' _ from ⟨by kernel_rfl,(anew_2_spec hlk gk1 gbu hbu (fun p hp=>⟨fun hf=>nF _ (by have:=hbr p hp;omega) (.inl hf),fun e=>nF _ (by have:=hbr p hp;omega) (.inr e)⟩) (by omega)).mono ?_⟩)
     rintro _ u1 ⟨rfl,ht1,hu1⟩
     exact ⟨_,rfl,step pages[k - 1] (by omega) (by subst hall;exact List.getElem_append_left hkp) u1 ht1 hu1⟩
    ·have hke:k=pages.length+1:=by omega
     subst hke
     rw [htodo3] at hv4
     cases hv4
     have hsz:s.chip.sz=s.chip.sz:=rfl
     refine (show callT (clo3 B2 B3 B1) [] u' _ from ⟨by kernel_rfl,(anew_3_spec hlk gk1 gk2 gk3 hlast (fun x hx=>by have:=hS x hx;have:=e17.size;omega) (by omega)).mono ?_⟩)
     rintro _ u1 ⟨rfl,ht1,hu1⟩
     refine ⟨_,rfl,step _ (by omega) ?_ u1 ht1 hu1⟩
     subst hall
     rw [List.getElem_append_right (by omega)]
     simp
  ·have hke:k=pages.length+2:=by omega
   subst hke
   rcases hst with ⟨h00,_⟩| ⟨_,htk,t,hlk,hkeep,htpg,gk3,hwa⟩
   ·omega
   have hdr:all.drop (pages.length+2 - 1)=[]:=List.drop_eq_nil_of_le (by omega)
   rw [hdr] at hwa
   have hwa':LogS.writeAll all s.take.1=(t,0):=hwa.symm
   rw [if_neg (by omega),hwa',if_neg (by simp)] at hr
   simp only at hr
   intro w20 hd20
   have h20:=hlk.ext hd20.upd
   have g120:=Ext.get hd20.upd gk1
   have g320:=Ext.get hd20.upd gk3
   have hwu20:=hwu.then hd20.upd
   have hs20:w20.heap.size=u'.heap.size:=by rw [hd20.heap]
   refine ⟨fun v=>Ext w20 v,Upd.refl _ _,_,fun v hv=>cell_of (Ext.get hv g120) rfl,?_⟩
   simp only [nilC_some',add_lit,Nat.zero_add]
   refine ⟨_,fun v hv=>(h20.ext hv).cell (i:=0) (fun _ _=>rfl),_,fun v hv=>cell_of (Ext.get hv g120) rfl,?_⟩
   simp only [nilC_some',add_lit,Nat.zero_add]
   have hnbt:t.chip.nb<20:=by have:=hkeep.geo.1;omega
   refine ⟨_,fun v hv=>(h20.ext hv).cell (i:=1) (fun _ _=>rfl),(log_own_spec h20.pool.pin hnbt t.era).mono ?_⟩
   have hLl:(ownL t.era (takenPool t.pool t.chip)).length≤20:=by
    unfold ownL takenPool
    have h1:=List.length_filter_le (fun x:Taken=>decide (x.head.kind=1) && decide (x.head.era=t.era)) (isort takenLt (takenRaw t.pool t.chip t.chip.nb))
    rw [isort_length] at h1
    have h2:=takenRaw_length t.pool t.chip t.chip.nb
    omega
   rw [hkeep.era] at hLl ⊢
   generalize ownL s.era (takenPool t.pool t.chip)=L at *
   generalize s.take.1.pool.last=first at *
   rintro _ w21 ⟨he21,a7,c7,rfl,ho21,hf21⟩
   have hs21:=he21.size
   refine ⟨_,_,_,rfl,he21,fun x u=>∃ (i:Nat) (t':LogS),x=i∧i≤L.length∧LogIn F X u q M t'∧LogS.freeAll first (L.drop i) t'=r∧Upd (LogF F q) w21 u,fun x _=>((L.length:Int) - x).toNat,⟨0,t,rfl,by omega,h20.ext he21,hr.symm,Upd.refl _ _⟩,?_⟩
   rintro x u ⟨i,t',rfl,hi2,ht',hfa,hu22⟩
   have hs22:=hu22.size
   have hwu22:Upd (LogF F q) w u:=(hwq (hwu20.then he21)).trans hu22
   refine br_dec (fun hlt2=>?_) fun hge2=>?_
   ·have hi':i<L.length:=by omega
    have ew:IntKind.i64.wrap ((i:Int)+1)=((i+1:Nat):Int):=w64 (by omega) (by omega)
    simp only [ew]
    have hsz0:=hwu20.size
    have hrow22:RowAt u a7 (L.flatMap Taken.vals):=RowAt.upd ho21.row hu22 fun p hp hf=>nF _ (by have:w20.heap.size≤p.block:=hf21 p hp;omega) hf
    have hed:L.drop i=L[i] :: L.drop (i+1):=List.drop_eq_getElem_cons hi'
    refine idx_flat (f:=Taken.vals) (k:=5) (fun _=>rfl) (by decide) hrow22 rfl hi' fun b o ha hrr=>?_
    refine ⟨_,_,_,_,_,hrr.cells,new_put (vs:=L[i].vals) rfl fun B8 w24 hB8 hs24 e24 g8=>?_⟩
    have h24:=ht'.ext e24
    have g124:=Ext.get e24 (hu22.get (Ext.get he21 g120) (nF _ (by omega)))
    have g324:=Ext.get e24 (hu22.get (Ext.get he21 g320) (nF _ (by omega)))
    have hwu24:=hu22.then e24
    have next:∀ {u3:World} {t3:LogS},LogIn F X u3 q M t3→LogS.freeAll first (L.drop (i+1)) t3=r→Upd (LogF F q) w21 u3→(∃ (k:Nat) (t':LogS),((i+1:Nat):Int)=k∧k≤L.length∧LogIn F X u3 q M t'∧LogS.freeAll first (L.drop k) t'=r∧Upd (LogF F q) w21 u3)∧((L.length:Int) - ((i+1:Nat):Int)).toNat<((L.length:Int) - (i:Int)).toNat:=fun ht3 hf3 hu3=>⟨⟨i+1,_,rfl,hi',ht3,hf3,hu3⟩,meas hi'⟩
    rw [hed] at hfa
    refine ⟨_,cell_of g8 rfl,_,cell_of g324 rfl,br_dec (fun hge3=>next h24 ?_ hwu24) fun hlt3=>⟨_,cell_of g8 rfl,br_intro (fun hbad=>next h24 ?_ hwu24) fun hbad=>?_⟩⟩
    ·rw [← hfa]
     show _=(if _ then _ else _)
     rw [if_pos (.inl (by omega))]
    ·rw [← hfa]
     show _=(if _ then _ else _)
     rw [if_pos (.inr hbad)]
    ·intro w25 hd25
     have h25:=h24.ext hd25.upd
     obtain ⟨aq,cq,gq25,_⟩:=h25.head
     have g125:=Ext.get hd25.upd g124
     have g825:=Ext.get hd25.upd g8
     refine ⟨fun v=>v.heap[B1]?=some (.cells #[.pointer (some ⟨q,0,none⟩)] T.p_log_Log (0,0))∧v.heap[q]?=some (.cells (logVs M t' aq cq).toArray T.log_Log (0,0))∧v.heap[B8]?=some (.cells L[i].vals.toArray T.api_Taken (0,0)),⟨g125,gq25,g825⟩,_,fun v hv=>cell_of hv.1 rfl,?_⟩
     simp only [nilC_some',add_lit,Nat.zero_add]
     refine ⟨_,fun v hv=>cell_of hv.2.1 rfl,_,fun v hv=>cell_of hv.2.2 rfl,(pxFree h25.pool (L[i].block:Nat)).mono ?_⟩
     rintro _ w26 ⟨rfl,hu26,hp26⟩
     have hs26:=hu26.size
     have nFx:∀ x,w.heap.size≤x→¬ F x:=fun x hx hf=>nF x hx (.inl hf)
     refine ⟨_,rfl,⟨hu26.get g125 (nFx _ (by omega)),hu26.get gq25 h.out,hu26.get g825 (nFx _ (by omega))⟩,?_⟩
     have h26:=h25.step hu26 hp26
     have u26:Upd (LogF F q) w21 w26:=(hwu24.then hd25.upd).trans (hu26.mono fun x _ hx=>.inl hx)
     have hf':LogS.freeAll first (L[i] :: L.drop (i+1)) t'=(if (freePool t'.pool t'.chip L[i].block).2.2≠0 then ({ t' with pool:=(freePool t'.pool t'.chip L[i].block).1,chip:=(freePool t'.pool t'.chip L[i].block).2.1 },(freePool t'.pool t'.chip L[i].block).2.2) else LogS.freeAll first (L.drop (i+1)) { t' with pool:=(freePool t'.pool t'.chip L[i].block).1,chip:=(freePool t'.pool t'.chip L[i].block).2.1 }):=by
      show (if _ then _ else _)=_
      rw [if_neg (by rintro (h | h);omega;rw [h] at hbad;cases hbad)]
     rw [hf'] at hfa
     refine br_ne (fun hne=>?_) fun hz=>?_
     ·rw [if_pos (by omega)] at hfa
      rw [← hfa] at hR
      exact hR _ _ ⟨rfl,(hwq (hwu20.then he21)).trans u26,h26⟩
     ·rw [if_neg (by omega)] at hfa
      exact next h26 hfa u26
   ·have hii2:i=L.length:=by omega
    subst hii2
    rw [List.drop_length] at hfa
    have hfa':r=(t',0):=hfa.symm
    rw [hfa'] at hR
    exact hR _ _ ⟨rfl,hwu22,ht'⟩
section
theorem raise_last (P:Pool):P.raise.last<18446744073709551616:=Nat.mod_lt _ (by decide)
theorem try_last (P:Pool) (c:Chip) (i:Nat) (kind:UInt8) (era:Nat) (h:P.last<18446744073709551616):(tryBlk P c i kind era).1.last<18446744073709551616:=by
 unfold tryBlk
 split
 ·split
  ·exact h
  ·exact raise_last _
 ·exact raise_last _
theorem takeGo_last (kind:UInt8) (era:Nat):∀ (ks:List Nat) (P:Pool) (c:Chip),P.last<18446744073709551616→(takeGo kind era P c ks).pool.last<18446744073709551616
 | [],P,c,h=>h
 | k :: ks,P,c,h=>by
  unfold takeGo
  split
  ·exact takeGo_last kind era ks P c h
  ·have h1:=try_last P c ((P.turn+k) % c.nb) kind era h
   split
   ·exact h1
   ·split
    ·exact h1
    ·exact takeGo_last kind era ks _ _ h1
theorem takePool_last (P:Pool) (c:Chip) (kind:UInt8) (era:Nat) (h:P.last<18446744073709551616):(takePool P c kind era).pool.last<18446744073709551616:=by
 unfold takePool
 split
 ·exact h
 ·split
  ·exact h
  ·exact takeGo_last kind era _ P c h
theorem LogS.take_last (s:LogS) (h:s.pool.last<18446744073709551616):s.take.1.pool.last<18446744073709551616:=by
 have:=takePool_last s.pool s.chip 1 s.era h
 unfold LogS.take
 simp only
 split<;>exact this
theorem LogS.write_last (b:List UInt8):∀ (n:Nat) (s:LogS),s.pool.last<18446744073709551616→(s.write b n).1.pool.last<18446744073709551616
 | 0,s,h=>h
 | n+1,s,h=>by
  rw [LogS.write_step]
  obtain ⟨y,hy⟩: ∃ y,y=(if s.block= -1∨s.page≥s.chip.np then s.take else (s,0)):=⟨_,rfl⟩
  rw [← hy]
  have hk:y.1.pool.last<18446744073709551616:=by
   subst hy
   split
   ·exact s.take_last h
   ·exact h
  split
  ·exact hk
  ·split
   ·exact hk
   ·exact LogS.write_last b n _ hk
theorem freePool_last (P:Pool) (c:Chip) (i:Int):(freePool P c i).1.last=P.last:=by
 unfold freePool
 split<;>rfl
structure LogS.Fit (s:LogS):Prop where
 nb:s.chip.nb<20
 np:s.chip.np≤32
 sp:s.chip.sp≤4
 page:s.page≤40
 last:s.pool.last<18446744073709551616
theorem LogS.Fit.of {s t:LogS} (h:s.Fit) (k:s.Keeps t) (hp:t.page≤40) (hl:t.pool.last<18446744073709551616):t.Fit :=
 ⟨by rw [k.geo.1];exact h.nb,by rw [k.geo.2.1];exact h.np,by rw [k.geo.2.2.2];exact h.sp,hp,hl⟩
theorem LogS.take_fit {s:LogS} (h:s.Fit):s.Keeps s.take.1∧s.take.1.Fit:=⟨s.take_keeps,h.of s.take_keeps (s.take_page h.page) (s.take_last h.last)⟩
theorem LogS.write_fit {s:LogS} (h:s.Fit) (b:List UInt8) (n:Nat):s.Keeps (s.write b n).1∧(s.write b n).1.Fit:=by
 obtain ⟨h1,h2⟩:=LogS.write_keeps b n s h.page h.np
 exact ⟨h1,h.of h1 h2 (LogS.write_last b n s h.last)⟩
theorem LogS.writeAll_fit:∀ (l:List (List UInt8)) (s:LogS),s.Fit→s.Keeps (LogS.writeAll l s).1∧(LogS.writeAll l s).1.Fit
 | [],s,h=>⟨.refl s,h⟩
 | b :: l,s,h=>by
  obtain ⟨h1,h2⟩:=LogS.write_fit h b s.fuel
  show s.Keeps (if (s.write b s.fuel).2≠0 then s.write b s.fuel else LogS.writeAll l (s.write b s.fuel).1).1∧(if (s.write b s.fuel).2≠0 then s.write b s.fuel else LogS.writeAll l (s.write b s.fuel).1).1.Fit
  split
  ·exact ⟨h1,h2⟩
  ·obtain ⟨h3,h4⟩:=LogS.writeAll_fit l _ h2
   exact ⟨h1.trans h3,h4⟩
theorem freePool_same (P:Pool) (c:Chip) (i:Int):c.SameGeo (freePool P c i).2.1:=by
 unfold freePool
 split
 ·exact .refl _
 ·exact Chip.erase_geo _ _
theorem LogS.freeAll_fit (first:Nat):∀ (l:List Taken) (s:LogS),s.Fit→s.Keeps (LogS.freeAll first l s).1∧(LogS.freeAll first l s).1.Fit
 | [],s,h=>⟨.refl s,h⟩
 | x :: l,s,h=>by
  have hk:s.Keeps { s with pool:=(freePool s.pool s.chip x.block).1,chip:=(freePool s.pool s.chip x.block).2.1 }:=⟨rfl,rfl,freePool_same _ _ _⟩
  have hf:=h.of hk h.page (by show (freePool s.pool s.chip x.block).1.last < _;rw [freePool_last];exact h.last)
  have hs:LogS.freeAll first (x :: l) s=(if x.head.seq≥first∨x.bad=true then LogS.freeAll first l s else if (freePool s.pool s.chip x.block).2.2≠0 then ({ s with pool:=(freePool s.pool s.chip x.block).1,chip:=(freePool s.pool s.chip x.block).2.1 },(freePool s.pool s.chip x.block).2.2) else LogS.freeAll first l { s with pool:=(freePool s.pool s.chip x.block).1,chip:=(freePool s.pool s.chip x.block).2.1 }):=rfl
  rw [hs]
  split
  ·exact LogS.freeAll_fit first l s h
  ·split
   ·exact ⟨hk,hf⟩
   ·obtain ⟨h3,h4⟩:=LogS.freeAll_fit first l _ hf
    exact ⟨hk.trans h3,h4⟩
theorem LogS.anew_fit {s:LogS} (h:s.Fit):s.Keeps s.anew.1∧s.anew.1.Fit:=by
 rw [LogS.anew_eq]
 obtain ⟨t1,t2⟩:=LogS.take_fit h
 split
 ·exact ⟨.refl s,h⟩
 ·split
  ·exact ⟨t1,t2⟩
  ·obtain ⟨w1,w2⟩:=LogS.writeAll_fit ((packF s.chip.sz s.facts).1 ++ [(putDropB s.chip.sz s.take.1.pool.last).1]) _ t2
   split
   ·exact ⟨t1.trans w1,w2⟩
   ·obtain ⟨f1,f2⟩:=LogS.freeAll_fit s.take.1.pool.last (ownL s.era (takenPool (LogS.writeAll ((packF s.chip.sz s.facts).1 ++ [(putDropB s.chip.sz s.take.1.pool.last).1]) s.take.1).1.pool (LogS.writeAll ((packF s.chip.sz s.facts).1 ++ [(putDropB s.chip.sz s.take.1.pool.last).1]) s.take.1).1.chip)) _ w2
    exact ⟨(t1.trans w1).trans f1,f2⟩
section
variable {F X:Nat→Prop} {w w':World} {q:Nat} {M:PLoc} {s:LogS}
theorem log_off_spec (h:LogIn F X w q M s):CallsR prog K.log_Log_off #[.pointer (some ⟨q,0,none⟩)] w fun v w'=>v= .bool false∧Ext w w':=by
 apply log_Log_off.sh
 unfold log_Log_off.body
 exact br_intro (fun hx=>by cases hx) fun _=>⟨_,h.cell (i:=0) (fun _ _=>rfl),rfl,Upd.refl _ _⟩
theorem log_alive_spec (h:LogIn F X w q M s):CallsR prog K.log_Log_alive #[.pointer (some ⟨q,0,none⟩)] w fun v w'=>v= .int .i64 (s.chip.ask 0 0:Nat)∧Ext w w':=by
 apply log_Log_alive.sh
 unfold log_Log_alive.body
 refine (log_off_spec h).mono ?_
 rintro _ w1 ⟨rfl,he1⟩
 have h1:=h.ext he1
 refine ⟨_,rfl,br_intro (fun hx=>by cases hx) fun _=>?_⟩
 simp only [nilC_some',add_lit,Nat.zero_add]
 refine ⟨_,h1.cell (i:=0) (fun _ _=>rfl),(pChip h1.pool.pin).mono ?_⟩
 rintro _ u ⟨rfl,hu⟩
 obtain rfl:w1=u:=hu.symm
 refine ⟨_,rfl,(cReadAt h1.pool.pin.chip 0 0).mono ?_⟩
 rintro _ w3 ⟨he3,hv⟩
 split at hv
 ·rename_i h0
  obtain ⟨a,cp,rfl,_⟩:=hv
  rw [h0]
  exact ⟨_,_,_,_,rfl,rfl,he1.trans he3⟩
 ·subst hv
  exact ⟨_,_,_,_,rfl,rfl,he1.trans he3⟩
theorem log_Sync_spec (h:LogIn F X w q M s):CallsR prog K.log_Log_Sync #[.pointer (some ⟨q,0,none⟩)] w fun v w'=>v= .int .i64 (s.chip.ask 0 0:Nat)∧Ext w w':=by
 apply log_Log_Sync.sh
 refine (log_alive_spec h).mono ?_
 rintro _ w1 ⟨rfl,he1⟩
 exact ⟨_,rfl,rfl,he1⟩
theorem log_Blanks_spec (h:LogIn F X w q M s):CallsR prog K.log_Log_Blanks #[.pointer (some ⟨q,0,none⟩)] w fun v w'=>v= .int .i64 (blanksPool s.pool s.chip:Nat)∧Ext w w':=by
 apply log_Log_Blanks.sh
 unfold log_Log_Blanks.body
 refine (log_off_spec h).mono ?_
 rintro _ w1 ⟨rfl,he1⟩
 have h1:=h.ext he1
 refine ⟨_,rfl,br_intro (fun hx=>by cases hx) fun _=>?_⟩
 simp only [nilC_some',add_lit,Nat.zero_add]
 refine ⟨_,h1.cell (i:=0) (fun _ _=>rfl),(pBlanks h1.pool.pin).mono ?_⟩
 rintro _ w2 ⟨rfl,he2⟩
 exact ⟨_,rfl,rfl,he1.trans he2⟩
theorem log_Facts_own (h:LogIn F X w q M s) (hfl:s.facts.length≤100000000) (hfv:∀ f∈s.facts,f.val.length≤140737488355232):CallsR prog K.log_Log_Facts #[.pointer (some ⟨q,0,none⟩)] w fun v w'=>∃ a c,v= .slice a (applyF s.facts []).length c∧ListAt factF NoB w.heap.size w' a c T.api_Fact (applyF s.facts [])∧Ext w w':=by
 apply log_Log_Facts.sh
 unfold log_Log_Facts.body
 refine (log_off_spec h).mono ?_
 rintro _ w1 ⟨rfl,he1⟩
 have h1:=h.ext he1
 refine ⟨_,rfl,br_intro (fun hx=>by cases hx) fun _=>?_⟩
 simp only [nilC_some',add_lit,Nat.zero_add]
 obtain ⟨af,cf,gq,G,hG,hG'⟩:=h1.head
 refine ⟨af,_,cf,cell_of gq rfl,(fact_Apply_own (Gc:=NoB) (cs:=[]) hG (fun b hb=>(hG' b hb).2.2) (SliceAt.nil _ _ _) (by simp;omega) hfv (fun _ hx=>by cases hx)).mono ?_⟩
 rintro _ w2 ⟨a',c',rfl,hl2,he2⟩
 exact ⟨_,_,_,rfl,a',c',rfl,hl2.weak he1.size (fun _ h=>h.elim),he1.trans he2⟩
theorem log_Facts_spec (h:LogIn F X w q M s) (hfl:s.facts.length≤100000000) (hfv:∀ f∈s.facts,f.val.length≤140737488355232):CallsR prog K.log_Log_Facts #[.pointer (some ⟨q,0,none⟩)] w fun v w'=>∃ a c,v= .slice a (applyF s.facts []).length c∧ListAt factR NoB w.heap.size w' a c T.api_Fact (applyF s.facts [])∧Ext w w' :=
 (log_Facts_own h hfl hfv).mono fun _ _ ⟨a,c,e,hl,he⟩=>⟨a,c,e,hl.toWeak (fun _ _ _ _=>factF_weak) rfl,he⟩
end
end
end Go.Den
