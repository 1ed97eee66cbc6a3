/- How a laid variable is read: room's bounds. (Merged and shortened by program: SRDown SRWalked SOpen19 SLives19 Frame Frame2 Frame3 FrameLaid.) -/
import Derived.Test.YtmjlhddkhkgpfaaGreatDoorQ6
import Derived.ProofKit
import Derived.Carry
import Derived.OpenShut
import Derived.SizedLaws
import Derived.LaidLaws
import Derived.Handed
set_option linter.unusedVariables false
set_option linter.unusedSimpArgs false
set_option maxRecDepth 20000
open Go.IntKind (i64 u64 u32 u8)
namespace Go.Den
def RDown (L:TLoc) (O U:Nat->Prop) (r:Option (Key×TreeS)) (w:World) (v:Value) (w':World):Prop:=Upd O w w'/\match r with
 | some (k,t')=>v= .tuple #[keyV k,.bool true]/\RGrown L O U w w' t'
 | none=>v= .tuple #[keyV Key.zero,.bool false]
def RDownAt (wS:World) (c:Chip) (L:TLoc) (bs:List Nat) (f:Nat):Prop:=∀ (t:TreeS) (p:Place) (d:Nat) (w:World) (O U:Nat->Prop),f+d=14->1<=d->Ext wS w->(∀ x,O x->wS.heap.size<=x)->RTreeIn L O U w t->t.Ok c->0<=p.page->
 CallsR prog K.carrackref18_Tree_down #[.pointer (some ⟨L.b,0,none⟩),placeV p,.int .i64 d] w fun v w'=>RDown L O U (downS c bs f t p d) w v w'
theorem key_out2 {u:World} {B:Nat} {k k0:Key} {b:Bool} {R:Value->World->Prop} (g:KeyAt u B k0) (hR:∀ u',Upd (·=B) u u'->R (.tuple #[keyV k,.bool b]) u') :
  storeP u ⟨B,0,none⟩ (Key.vals k) fun w6=>∃ x4 x5:Int,∃ s:ByteArray,∃ x6:Int,cellsAt w6 ⟨B,0,none⟩ [.int .i64 x4,.int .u8 x5,.string s,.int .i64 x6] 0/\R (.tuple #[.agg #[.int .i64 x4,.int .u8 x5,.string s,.int .i64 x6],.bool b]) w6 :=
 put_all g rfl fun w' hu hs g'=>⟨_,_,_,_,key_cells g',hR _ hu⟩
theorem rdown_step {F:Nat->Prop} {A:Nat} {wS:World} {c:Chip} {L:TLoc} {bs:List Nat} (h:CIn F A wS L.p c) (hd0:c.dead=false) (hbs:L.bs=bs.map Int.ofNat) (hrow:RowAt wS L.ab (L.bs.map (Value.int .i64))) (hnb:bs.length<1000) {f:Nat} (ih:∀ f',f=f'+1->RDownAt wS c L bs f'):RDownAt wS c L bs f:=by
 intro t p d w O U hfd hd1 heS hO hT hok hp0
 apply carrackref18_Tree_down.sh
 suffices H:∀ R:Value->World->Prop,(∀ v w',RDown L O U (downS c bs f t p d) w v w'->R v w')->carrackref18_Tree_down.body (some ⟨L.b,0,none⟩) p.block p.page d w R from H _ fun _ _ h=>h
 intro R hR
 unfold carrackref18_Tree_down.body
 simp only [nilC_some',add_lit,Nat.zero_add]
 intro B1 w1 hn1 B2 w2 hn2
 have hB1:=hn1.num
 have hs1:=hn1.size
 have hB2:=hn2.num
 have hs2:=hn2.size
 have e2:=hn1.upd.trans hn2.upd
 have gP:w2.heap[B1]?=some (.cells p.vals.toArray T.api_Place (0,0)):=Ext.get hn2.upd hn1.get
 have gK:KeyAt w2 B2 Key.zero:=hn2.get
 have hT2:=hT.ext e2
 have hlt:=hT.lt
 have hou:=hT.ou
 obtain ⟨ap,cp,af,cf,G,q1,q2,q3,q6⟩:=hT2
 obtain ⟨hpl,hfl⟩:=hok.small h.ok
 have fail:∀ {u:World},Upd O w u->KeyAt u B2 Key.zero->downS c bs f t p d=none->storeP u ⟨B2,0,none⟩ (Key.vals Key.zero) fun w6=>∃ x4 x5:Int,∃ s:ByteArray,∃ x6:Int,cellsAt w6 ⟨B2,0,none⟩ [.int .i64 x4,.int .u8 x5,.string s,.int .i64 x6] 0/\R (.tuple #[.agg #[.int .i64 x4,.int .u8 x5,.string s,.int .i64 x6],.bool false]) w6:=fun hu hk hd=>key_out2 hk fun u' hu'=>hR _ _ ⟨hu.over hu' fun z hz=>.inr (by omega),by rw [hd]⟩
 refine ⟨fun u=>Ext w2 u/\¬ (12<d\/p.page<=0\/p.block ∉ bs.map Int.ofNat\/p∈t.pages),?_,?_⟩
 .have no:∀ {u:World},Ext w2 u->(12<d\/p.page<=0\/p.block ∉ bs.map Int.ofNat\/p∈t.pages)->_:=fun {u} hu hc=>fail (u:=u) (Upd.ext (e2.trans hu)) (Ext.get hu gK) (downS_no hc)
  refine br_dec (fun h12=>no (Upd.refl _ _) (.inl (by omega))) fun h12=>⟨_,cell_of gP rfl,br_eq (fun h0=>no (Upd.refl _ _) (.inr (.inl (by omega)))) fun h0=>⟨_,cell_of gP rfl,(has_spec (l:=L.bs) q1 (hrow.ext (heS.trans e2)) (by rw [hbs,List.length_map];omega) p.block).mono ?_⟩⟩
  rintro _ _ ⟨rfl,rfl⟩
  refine ⟨_,rfl,br_intro (fun hb=>no (Upd.refl _ _) (.inr (.inr (.inl ?_)))) fun hb=>⟨_,_,cells_all gP,(met_spec q1 q2.row (by omega) p).mono ?_⟩⟩
  .rw [<- hbs];simpa using hb
  rintro _ w7 ⟨he7,rfl⟩
  refine ⟨_,rfl,br_dec (fun hm=>no he7 (.inr (.inr (.inr hm)))) fun hm=>⟨he7,?_⟩⟩
  have hin:p.block∈L.bs:=by simpa using hb
  rw [hbs] at hin
  rintro (h | h | h | h)
  .omega
  .omega
  .exact h hin
  .exact hm h
 rintro w9 ⟨he9,hno⟩ w10 hd10
 have hnin:p ∉ t.pages:=fun h=>hno (.inr (.inr (.inr h)))
 have hd12:d<=12:=Nat.le_of_not_lt fun h=>hno (.inl h)
 obtain ⟨f',rfl⟩: ∃ f',f=f'+1:=⟨f - 1,by omega⟩
 have ih:=ih f' rfl
 have he10:=he9.trans hd10.upd
 have e10:=e2.trans he10
 have hs10:=he10.size
 have hbU:=q6.ou _ q6.ob
 have hbl:=hlt _ hbU
 have hB1U:¬ U B1:=fun hu=>by have:=hlt _ hu;omega
 have hB2U:¬ U B2:=fun hu=>by have:=hlt _ hu;omega
 have nap:∀ {z},¬ U z->ap≠some ⟨z,0,none⟩:=fun hz e=>hz (q6.ou _ (q6.op _ e).1)
 have nb:∀ {z},¬ U z->z≠L.b:=fun hz e=>hz (e ▸ hbU)
 have kP:=Ext.get he10 gP
 have kK:=Ext.get he10 gK
 have k1:=Ext.get he10 q1
 refine ⟨fun u=>Upd (fun b=>ap=some ⟨b,0,none⟩) w10 u,Upd.refl _ _,_,_,_,fun u hu=>cell_of (hu.get k1 fun e=>(q6.op _ e).2 rfl) rfl,_,_,fun u hu=>cells_all (hu.get kP (nap hB1U)),fun B3 w13 hn13=>⟨Upd.ext hn13.upd,?_⟩⟩
 have hs13:=hn13.size
 refine append_flat (f:=Place.vals) (fun _=>rfl) ((q2.ext he10).ext hn13.upd) (x:=p) rfl hn13 rfl (fun v hv=>by simp at hv;rcases hv with h | h<;>(rw [h];rfl)) rfl (by omega) (by omega) fun a' c' w14 hu14 ho14 hf14=>⟨(Upd.ext hn13.upd).trans hu14,?_⟩
 have hs14:=hu14.size
 have k114:=hu14.get (Ext.get hn13.upd k1) fun e=>(q6.op _ e).2 rfl
 refine store_of k114 (by simp) fun w15 hput15 w16 hd16=>?_
 have k115:w15.heap[L.b]?=some (.cells (L.rcells a' (t.pages ++ [p]).length c' af t.facts.length cf t.depth).toArray T.carrackref18_Tree (0,0)):=by rw [hput15.get];rfl
 have hu15:=hput15.upd1
 have hs15:=hput15.size
 obtain ⟨O1,U1,hT15,hO1,hU1,hO1',hU1',k15⟩:=rtree_page (w:=w10) (p:=p) (q3.ext he10) (q6.size (by omega)) hn13.upd hu14 ho14 hf14 hu15 k115
 have he16:=hd16.upd
 have hs16:=he16.size
 have hT16:=hT15.ext he16
 have k16:Upd O w w16:=((Upd.ext e10).trans k15).then he16
 have fr:∀ {z:Nat} {o:Obj},¬ U z->w10.heap[z]?=some o->w16.heap[z]?=some o:=fun hz hg=>Ext.get he16 (hu15.get (hu14.get (Ext.get hn13.upd hg) (nap hz)) (nb hz))
 have rP:=fr hB1U kP
 have rK:KeyAt w16 B2 Key.zero:=fr hB2U kK
 have r1:=Ext.get he16 k115
 have hSw:=heS.size
 have eS16:Ext wS w16:=heS.beyond k16 fun z hz=>hO z hz
 have old:∀ {z:Nat},z<w13.heap.size->¬ U z->¬ U1 z:=fun hz hn hu=>by
  rcases hU1' _ hu with hh | hh
  .exact hn hh
  .omega
 have hB2':¬ U1 B2:=old (by omega) hB2U
 have hO1S:∀ z,O1 z->wS.heap.size<=z:=fun z hz=>by
  rcases hO1' z hz with hh | hh
  .exact hO z hh
  .omega
 have hou1:=hT16.ou
 have hlt1:=hT16.lt
 have hstep:=downS_succ c bs f' t p d
 rw [if_neg hno] at hstep
 have fail1:∀ {u:World},Upd O1 w16 u->downS c bs (f'+1) t p d=none->storeP u ⟨B2,0,none⟩ (Key.vals Key.zero) fun w6=>∃ x4 x5:Int,∃ s:ByteArray,∃ x6:Int,cellsAt w6 ⟨B2,0,none⟩ [.int .i64 x4,.int .u8 x5,.string s,.int .i64 x6] 0/\R (.tuple #[.agg #[.int .i64 x4,.int .u8 x5,.string s,.int .i64 x6],.bool false]) w6:=fun hu hd=>fail (k16.over hu fun z hz=>(hO1' z hz).imp id fun hh=>by omega) (hu.get rK fun ho=>hB2' (hou1 _ ho)) hd
 refine ⟨fun u=>Ext w16 u,Upd.refl _ _,_,fun u hu=>cell_of (Ext.get hu r1) rfl,_,fun u hu=>cell_of (Ext.get hu rP) rfl,_,fun u hu=>cell_of (Ext.get hu rP) rfl,(cReadAt (h.ext eS16) p.block p.page).mono ?_⟩
 rintro _ w17 ⟨he17,hv17⟩
 by_cases hask:c.ask p.block p.page≠0
 .rw [if_neg hask] at hv17
  obtain rfl:=hv17
  rw [if_pos hask] at hstep
  exact ⟨_,_,_,_,rfl,br_ne (fun _=>fail1 (Upd.ext he17) hstep) fun h=>absurd h (by omega)⟩
 have hask0:c.ask p.block p.page=0:=by omega
 rw [if_pos hask0] at hv17
 rw [if_neg hask] at hstep
 obtain ⟨a4,c4,rfl,hb4,hc4,hf4⟩:=hv17
 obtain ⟨_,z1,z2,z3,z4⟩:=ask_none0 hask0
 have hpg:=page_len h.ok (i:=p.block.toNat) (k:=p.page.toNat) (by omega) (by omega)
 rw [<- hpg] at hc4 ⊢
 have hsm:=page_small h.ok (i:=p.block.toNat) (k:=p.page.toNat) (by omega) (by omega)
 refine ⟨_,_,_,_,rfl,br_ne (fun h=>absurd rfl h) fun _=>(carrackref02_Get_spec hb4 hc4).mono ?_⟩
 rintro _ w19 ⟨he19,a5,c5,rfl,hb5,hc5⟩
 have e19:=he17.trans he19
 generalize getPage (c.page p.block.toNat p.page.toNat)=g at *
 refine ⟨_,_,_,_,_,rfl,br_ne (fun hz=>fail1 (Upd.ext e19) (by rw [hstep,if_pos (by omega)])) fun hz=>?_⟩
 rw [if_neg (by omega)] at hstep
 have hs19:=e19.size
 have hT19:=hT16.ext e19
 have hok1:=hok.add hnin hask0
 have out:∀ {u:World} {O' U':Nat->Prop} {t':TreeS} {k:Key},RTreeIn L O' U' u t'->(∀ z,O' z->O1 z\/w16.heap.size<=z)->(∀ z,U' z->U1 z\/w16.heap.size<=z)->Upd O1 w16 u->downS c bs (f'+1) t p d=some (k,t')->
   storeP u ⟨B2,0,none⟩ (Key.vals k) fun w25=>∃ x17 x18:Int,∃ s2:ByteArray,∃ x19:Int,cellsAt w25 ⟨B2,0,none⟩ [.int .i64 x17,.int .u8 x18,.string s2,.int .i64 x19] 0/\R (.tuple #[.agg #[.int .i64 x17,.int .u8 x18,.string s2,.int .i64 x19],.bool true]) w25:=by
  intro u O' U' t' k hT' hO' hU' hu hd
  have hsu:=hu.size
  have gK':KeyAt u B2 Key.zero:=hu.get rK fun ho=>hB2' (hou1 _ ho)
  refine key_out2 gK' fun w25 hu25=>hR _ _ ⟨(k16.over hu fun z hz=>(hO1' z hz).imp id fun hh=>by omega).over hu25 fun z hz=>.inr (by omega),?_⟩
  rw [hd]
  refine ⟨rfl,O',U',?_,?_,?_⟩
  .refine hT'.upd hu25 fun z hz hu'=>?_
   subst hz
   rcases hU' _ hu' with hh | hh
   .exact hB2' hh
   .omega
  .intro z hz
   rcases hO' z hz with hh | hh
   .exact (hO1' z hh).imp id fun hh=>by omega
   .exact .inr (by omega)
  .intro z hz
   rcases hU' z hz with hh | hh
   .exact (hU1' z hh).imp id fun hh=>by omega
   .exact .inr (by omega)
 refine br_eq (fun h4=>?_) fun h4=>?_
 .have h4':g.1=4:=(u8i _ 4 (by omega)).1 h4
  rw [if_pos h4'] at hstep
  refine (carrackref15_GetLeaf_spec (c:=c5) hb5 hc5 (by omega)).mono ?_
  rintro _ w20 ⟨a6,c6,Gl,rfl,hl6,hGl,hc6,he20⟩
  have hs20:=he20.size
  have e20:=e19.trans he20
  have hT20:=hT19.ext he20
  obtain ⟨gl1,gl2⟩:=getLeaf_ok g.2.1
  refine ⟨_,_,_,_,rfl,fun u=>Ext w20 u/\∃ x r,(getLeaf g.2.1).1=x :: r/\leafT { t with pages:=t.pages ++ [p] } (getLeaf g.2.1) d=some (x.key,{ t with pages:=t.pages ++ [p],facts:=t.facts ++ (getLeaf g.2.1).1,depth:=d }),fun w21 hd21=>?_,?_⟩
  .have he21:=hd21.upd
   have e21:=e20.trans he21
   have hT21:=hT20.ext he21
   have hT21':=hT21
   obtain ⟨ap2,cp2,af2,cf2,G2,z1,z2,z3,z6⟩:=hT21'
   refine ⟨fun u=>Ext w21 u,Upd.refl _ _,br_ne (fun hne=>⟨Upd.refl _ _,fail1 (Upd.ext e21) (by rw [hstep];exact leafT_none1 (by omega))⟩) fun hl0=>?_⟩
   have hz0:(getLeaf g.2.1).2=0:=by omega
   obtain ⟨x,r,hx⟩: ∃ x r,(getLeaf g.2.1).1=x :: r:=by
    have hne:=listS_some (key:=Fact.key) (one:=leafS) (b:=g.2.1) hz0
    cases hl:(getLeaf g.2.1).1 with
    | nil=>exact absurd hl hne
    | cons x r=>exact ⟨x,r,rfl⟩
   have hsl:=hl6.ext he21
   rw [hx] at hsl
   have hlast:=fun hdep=>leafT_last (t:={ t with pages:=t.pages ++ [p] }) (d:=d) hz0 hdep hx
   have rest:(t.depth=0\/t.depth=d)->∃ (a6':Option Addr) (l6 c6':Nat),(∀ u8,Ext w21 u8->World.cell? u8 ⟨L.b,3,none⟩= some (.slice a6' l6 c6'))/\
     br (decide ((l6:Int) > 0)) (∃ (a7:Option Addr) (l7 c7:Nat),(∀ u9,Ext w21 u9->World.cell? u9 ⟨L.b,3,none⟩= some (.slice a7 l7 c7))/\∃ (a8:Option Addr) (l8 c8:Nat),(∀ u10,Ext w21 u10->World.cell? u10 ⟨L.b,3,none⟩= some (.slice a8 l8 c8))/\
      idxP a7 l7 (i64.wrap ((l8:Int) - 1)) 5 fun q9=>∃ x39 x40:Int,∃ s9:ByteArray,∃ x41:Int,(∀ u11,Ext w21 u11->cellsAt u11 q9 [.int .i64 x39,.int .u8 x40,.string s9,.int .i64 x41] 0)/\
      idxP a6 (getLeaf g.2.1).1.length (0:Int) 5 fun q10=>∃ x42 x43:Int,∃ s10:ByteArray,∃ x44:Int,(∀ u12,Ext w21 u12->cellsAt u12 q10 [.int .i64 x42,.int .u8 x43,.string s10,.int .i64 x44] 0)/\
      CallsR prog K.carrackref06_Before #[.agg #[.int .i64 x39,.int .u8 x40,.string s9,.int .i64 x41],.agg #[.int .i64 x42,.int .u8 x43,.string s10,.int .i64 x44]] w21 fun v6 w23=>∃ b3:Bool,v6= .bool b3/\Ext w21 w23/\
      br (!b3) (storeP w23 ⟨B2,0,none⟩ [.int .i64 0,.int .u8 0,.string (⟨#[]⟩: ByteArray),.int .i64 0] fun w24=>∃ x45 x46:Int,∃ s11:ByteArray,∃ x47:Int,cellsAt w24 ⟨B2,0,none⟩ [.int .i64 x45,.int .u8 x46,.string s11,.int .i64 x47] 0/\R (.tuple #[.agg #[.int .i64 x45,.int .u8 x46,.string s11,.int .i64 x47],.bool false]) w24)
       (Ext w20 w23/\∃ x r,(getLeaf g.2.1).1=x :: r/\leafT { t with pages:=t.pages ++ [p] } (getLeaf g.2.1) d=some (x.key,{ t with pages:=t.pages ++ [p],facts:=t.facts ++ (getLeaf g.2.1).1,depth:=d })))
      (Ext w21 w21/\(Ext w20 w21/\∃ x r,(getLeaf g.2.1).1=x :: r/\leafT { t with pages:=t.pages ++ [p] } (getLeaf g.2.1) d=some (x.key,{ t with pages:=t.pages ++ [p],facts:=t.facts ++ (getLeaf g.2.1).1,depth:=d }))):=by
    intro hdep
    have hlast:=hlast hdep
    refine ⟨_,_,_,fun u hu=>cell_of (Ext.get hu z1) rfl,br_dec (fun hpos=>⟨_,_,_,fun u hu=>cell_of (Ext.get hu z1) rfl,_,_,_,fun u hu=>cell_of (Ext.get hu z1) rfl,?_⟩) fun hz=>⟨Upd.refl _ _,he21,x,r,hx,?_⟩⟩
    .obtain ⟨j,hj⟩: ∃ j,t.facts.length=j+1:=⟨t.facts.length - 1,by have:(t.facts.length:Int) > 0:=hpos;omega⟩
     have hla:=lastAhead_at (k:=x.key) hj.symm
     have ew2:i64.wrap ((t.facts.length:Int) - 1)=((j:Nat):Int):=w64 (by omega) (by omega) |>.trans (by omega)
     change idxP af2 t.facts.length (i64.wrap ((t.facts.length:Int) - 1)) 5 _
     rw [ew2]
     have hfs:SliceAt factR w21 (fun z=>G2 z\/O1 z) af2 t.facts:=OwnS.at_ (l:=t.facts) (z3.mono fun z hz=>.inl hz) fun p hp=>by
      obtain ⟨z,hz,_,rfl⟩:=z3.blk hp
      exact .inr (z6.of_ _ hz).1
     refine SliceAt.idx (r:=factR) hfs rfl (by omega) fun b' o vs ha hrow' hR' hG'=>?_
     obtain ⟨av,cv,rfl,hcv,hbv,hgv⟩:=factR_elim hR'
     refine ⟨_,_,_,_,fun u hu=>(RowAt.take (RowAt.ext hrow' hu) 4).cells,first_fact hsl (by rw [hx]) fun q hq=>⟨_,_,_,_,hq,(carrackref06_Before_spec _ _ (Nat.lt_trans (hok.facts _ (List.getElem_mem _)).1 (by decide)) (Nat.lt_trans (gl1 x (by rw [hx];exact List.mem_cons_self ..)).1 (by decide)) _).mono ?_⟩⟩
     rintro _ W23 ⟨rfl,he23⟩
     rw [<- hla]
     refine ⟨_,rfl,he23,br_intro (fun hn=>fail1 (Upd.ext (e21.trans he23)) ?_) fun hy=>⟨he21.trans he23,x,r,hx,?_⟩⟩
     .rw [hstep,hlast,if_pos (by simpa using hn)]
     .rw [hlast,if_neg (by simpa using hy),hx]
    .have:t.facts=[]:=List.eq_nil_of_length_eq_zero (by have:¬ (t.facts.length:Int) > 0:=hz;omega)
     rw [hlast,if_neg (by show ¬ lastAhead t.facts x.key=false;rw [this,lastAhead_nil];decide),hx]
   refine ⟨_,fun u hu=>cell_of (Ext.get hu z1) rfl,br_ne (fun hd0'=>⟨_,fun u hu=>cell_of (Ext.get hu z1) rfl,br_ne (fun hdd=>⟨Upd.refl _ _,fail1 (Upd.ext e21) ?_⟩) fun hdd=>rest (.inr ?_)⟩) fun hd0'=>rest (.inl ?_)⟩
   .rw [hstep]
    exact leafT_none2 (t:={ t with pages:=t.pages ++ [p] }) (by have:((t.depth:Nat):Int)≠0:=hd0';show t.depth≠0;omega) (by have:((t.depth:Nat):Int)≠d:=hdd;show t.depth≠d;omega)
   .have:((t.depth:Nat):Int)=d:=hdd;omega
   .have:((t.depth:Nat):Int)=0:=hd0';omega
  .rintro w27 ⟨he27,x,r,hx,hleaf⟩
   have e27:=e20.trans he27
   have hs27:=he27.size
   have hT27:=hT20.ext he27
   have hsl27:=hl6.ext he27
   have hGlU:∀ z,Gl z->¬ U1 z/\z<w27.heap.size:=fun z hz=>⟨fun hu=>by have:=hGl z hz;have:=hlt1 _ hu;omega,by have:=hGl z hz;omega⟩
   refine rtree_facts (d:=d) hT27 hsl27 hGlU rfl (by show t.facts.length + _<=_;omega) fun w30 O' U' hT' hO' hU' hu30=>?_
   have hsl30:=hsl27.upd hu30 fun z hz ho=>(hGlU z hz).1 (hou1 _ ho)
   rw [hx] at hsl30
   refine first_fact hsl30 (by rw [hx]) fun q hq=>⟨_,_,_,_,hq _ (Upd.refl _ _),out hT' (fun z hz=>(hO' z hz).imp id fun hh=>by omega) (fun z hz=>?_) ((Upd.ext e27).trans hu30) (by rw [hstep];exact hleaf)⟩
   rcases hU' z hz with hh | hh | hh
   .exact .inl hh
   .exact .inr (by have:=hGl z hh;omega)
   .exact .inr (by omega)
 rw [if_neg (fun e=>h4 (by rw [e];rfl))] at hstep
 refine br_ne (fun hne=>fail1 (Upd.ext e19) (by rw [hstep,if_neg (fun e=>hne (by rw [e];rfl))])) fun h5=>?_
 have h5':g.1=5:=(u8i _ 5 (by omega)).1 h5
 rw [if_pos h5'] at hstep
 refine (carrackref15_GetInner_spec (c:=c5) hb5 hc5 (by omega)).mono ?_
 rintro _ w26 ⟨a6,c6,Gc,rfl,hl6,hGc,hc6,he26⟩
 have hs26:=he26.size
 obtain ⟨gi1,gi2⟩:=getInner_ok g.2.1
 have e26:=e19.trans he26
 refine ⟨_,_,_,_,rfl,br_ne (fun hne=>fail1 (Upd.ext e26) (by rw [hstep,if_pos (by omega)])) fun hz2'=>?_⟩
 have hz2:(getInner g.2.1).2=0:=by omega
 rw [if_neg (by omega)] at hstep
 have hne:=listS_some (key:=Child.key) (one:=innerS) (b:=g.2.1) hz2
 have hT26:=hT19.ext he26
 obtain ⟨x0,r0,hl0⟩: ∃ x r,(getInner g.2.1).1=x :: r:=by
  cases hl:(getInner g.2.1).1 with
  | nil=>exact absurd hl hne
  | cons x r=>exact ⟨x,r,rfl⟩
 have hmatch:downS c bs (f'+1) t p d=(match kidsS (fun t p=>downS c bs f' t p (d+1)) (getInner g.2.1).1 { t with pages:=t.pages ++ [p] } with
   | some t'=>some (x0.key,t')
   | none=>none):=by rw [hstep,hl0]<;>rfl
 have hkey0:(getInner g.2.1).1=x0 :: r0:=hl0
 clear hstep hl0
 generalize (getInner g.2.1).1=l at *
 have hsI:=e26.size
 refine ⟨fun x u=>∃ (i:Nat) (ti:TreeS) (Oi Ui:Nat->Prop),x=i/\i<=l.length/\kidsS (fun t p=>downS c bs f' t p (d+1)) (l.take i) { t with pages:=t.pages ++ [p] }=some ti/\RTreeIn L Oi Ui u ti/\ti.Ok c/\(∀ z,Oi z->O1 z\/w26.heap.size<=z)/\(∀ z,Ui z->U1 z\/w26.heap.size<=z)/\Upd O1 w26 u,
  fun x _=>((l.length:Int) - x).toNat,⟨0,_,O1,U1,rfl,by omega,rfl,hT26,hok1,fun z hz=>.inl hz,fun z hz=>.inl hz,Upd.refl _ _⟩,?_⟩
 rintro x u ⟨i,ti,Oi,Ui,rfl,hi,hki,hTi,hoki,hOi,hUi,hu⟩
 have hsu:=hu.size
 have hGcO:∀ z,Gc z->¬ O1 z:=fun z hz ho=>by have:=hGc z hz;have:=hlt1 _ (hou1 _ ho);omega
 have hlu:SliceAt childR u Gc a6 l:=hl6.upd hu fun z hz ho=>hGcO z hz ho
 have k26:Upd O1 w16 u:=(Upd.ext e26).trans hu
 refine br_dec (fun hlt' u36 hd36=>?_) fun hge=>?_
 .have hi':i<l.length:=by omega
  have ew:i64.wrap ((i:Int)+1)=((i+1:Nat):Int):=w64 (by omega) (by omega)
  have ewd:i64.wrap ((d:Int)+1)=((d+1:Nat):Int):=w64 (by omega) (by omega)
  simp only [ew,ewd]
  have he36:=hd36.upd
  have hs36:=he36.size
  have hlu36:=hlu.ext he36
  have houi:=hTi.ou
  have hlti:=hTi.lt
  have hGcOi:∀ z,Gc z->¬ Oi z:=fun z hz ho=>by
   rcases hOi z ho with hh | hh
   .exact hGcO z hz hh
   .have:=hGc z hz;omega
  refine ⟨fun u'=>Upd Oi u36 u',Upd.refl _ _,?_⟩
  refine SliceAt.idx (r:=childR) hlu36 rfl hi' fun b' o vs ha hrow' hR' hG'=>?_
  obtain rfl:vs=childVs l[i]:=hR'
  have hrowS:∀ {u':World},Upd Oi u36 u'->RowAt u' (some ⟨b',o+i * childR.k,none⟩) (childVs l[i]):=fun hu'=>RowAt.upd hrow' hu' fun q hq=>by cases hq;exact hGcOi _ hG'
  simp only [add_lit,Nat.zero_add]
  refine ⟨_,fun u' hu'=>row_cell (hrowS hu') (j:=4) rfl,?_⟩
  refine SliceAt.idx (r:=childR) hlu36 rfl hi' fun b'' o'' vs'' ha'' hrow'' hR'' hG''=>?_
  have hbe:b''=b'/\o''=o:=by rw [ha] at ha'';cases ha'';exact ⟨rfl,rfl⟩
  obtain ⟨rfl,rfl⟩:=hbe
  simp only [add_lit,Nat.zero_add]
  refine ⟨_,fun u' hu'=>row_cell (hrowS hu') (j:=5) rfl,?_⟩
  have hci:=gi1 _ (List.getElem_mem hi')
  have hks:=kidsS_take_succ (down:=fun t p=>downS c bs f' t p (d+1)) hi' hki
  have hOiS:∀ z,Oi z->wS.heap.size<=z:=fun z hz=>by
   rcases hOi z hz with hh | hh
   .exact hO1S z hh
   .omega
  have eS36:Ext wS u36:=((eS16.trans e26).beyond hu hO1S).trans he36
  have over1:∀ {u':World},Upd Oi u36 u'->Upd O1 w16 u':=fun hu'=>(k26.then he36).over hu' fun z hz=>(hOi z hz).imp id fun hh=>by omega
  have dead:kidsS (fun t p=>downS c bs f' t p (d+1)) (l.take (i+1)) { t with pages:=t.pages ++ [p] }=none->downS c bs (f'+1) t p d=none:=fun hk=>by
   rw [hmatch,kidsS_drop i hki]
   have hdrop:l.drop i=l[i] :: l.drop (i+1):=List.drop_eq_getElem_cons hi'
   rw [hdrop]
   rw [hks] at hk
   unfold kidsS
   cases hdn:downS c bs f' ti ⟨l[i].block,l[i].page⟩ (d+1) with
   | none=>rfl
   | some y =>
    obtain ⟨k,t1⟩:=y
    rw [hdn] at hk
    simp only at hk ⊢
    split at hk
    .cases hk
    .rename_i hkk;rw [if_neg hkk]
  have call:=fun (u37:World) (h37:Ext u36 u37)=>ih ti ⟨l[i].block,l[i].page⟩ (d+1) u37 Oi Ui (by omega) (by omega) (eS36.trans h37) hOiS ((hTi.ext he36).ext h37) hoki (by show 0<=l[i].page;omega)
  have tail:∀ {u37 u38 u39:World} {v:Value} {Bk:Nat},Ext u36 u37->RDown L Oi Ui (downS c bs f' ti ⟨l[i].block,l[i].page⟩ (d+1)) u37 v u38->∀ (k:Key) (b:Bool),v= .tuple #[keyV k,.bool b]->Upd (·=Bk) u38 u39->KeyAt u39 Bk k->w26.heap.size<=Bk->(∀ O' U' t',RTreeIn L O' U' u38 t'->(∀ z,U' z->Ui z\/u37.heap.size<=z)->¬ Ui Bk/\(Bk<u37.heap.size\/u38.heap.size<=Bk))->
    ∀ w40:World,Drew u39 w40->∃ S5:World->Prop,S5 w40/\br (!b) (storeP w40 ⟨B2,0,none⟩ [.int .i64 0,.int .u8 0,.string (⟨#[]⟩: ByteArray),.int .i64 0] fun w41=>∃ x76 x77:Int,∃ s20:ByteArray,∃ x78:Int,cellsAt w41 ⟨B2,0,none⟩ [.int .i64 x76,.int .u8 x77,.string s20,.int .i64 x78] 0/\R (.tuple #[.agg #[.int .i64 x76,.int .u8 x77,.string s20,.int .i64 x78],.bool false]) w41)
     (∃ x79 x80:Int,∃ s21:ByteArray,∃ x81:Int,(∀ u20,S5 u20->cellsAt u20 ⟨Bk,0,none⟩ [.int .i64 x79,.int .u8 x80,.string s21,.int .i64 x81] 0)/\
      idxP a6 l.length (i:Int) 6 fun q22=>∃ x82 x83:Int,∃ s22:ByteArray,∃ x84:Int,(∀ u21,S5 u21->cellsAt u21 q22 [.int .i64 x82,.int .u8 x83,.string s22,.int .i64 x84] 0)/\
      br (!((x79 == x82) && ((x80 == x83) && ((s21.toList == s22.toList) && ((x81 == x84) && true))))) (storeP w40 ⟨B2,0,none⟩ [.int .i64 0,.int .u8 0,.string (⟨#[]⟩: ByteArray),.int .i64 0] fun w42=>∃ x85 x86:Int,∃ s23:ByteArray,∃ x87:Int,cellsAt w42 ⟨B2,0,none⟩ [.int .i64 x85,.int .u8 x86,.string s23,.int .i64 x87] 0/\R (.tuple #[.agg #[.int .i64 x85,.int .u8 x86,.string s23,.int .i64 x87],.bool false]) w42)
       ((∃ (j:Nat) (ti:TreeS) (Oi Ui:Nat->Prop),((i+1:Nat):Int)=j/\j<=l.length/\kidsS (fun t p=>downS c bs f' t p (d+1)) (l.take j) { t with pages:=t.pages ++ [p] }=some ti/\RTreeIn L Oi Ui w40 ti/\ti.Ok c/\(∀ z,Oi z->O1 z\/w26.heap.size<=z)/\(∀ z,Ui z->U1 z\/w26.heap.size<=z)/\Upd O1 w26 w40)/\((l.length:Int) - ((i+1:Nat):Int)).toNat<((l.length:Int) - (i:Int)).toNat)):=by
   intro u37 u38 u39 v Bk h37 hrd k b hv hu39 hk39 hBk hsepk w40 hd40
   obtain ⟨hu38,hres⟩:=hrd
   have hs37:=h37.size
   have hs38:=hu38.size
   have hs39:=hu39.size
   have he40:=hd40.upd
   have v38:Upd O1 w26 u38:=((hu.then he36).then h37).over hu38 fun z hz=>(hOi z hz).imp id fun hh=>by omega
   have v40:Upd O1 w26 w40:=(v38.over hu39 fun z hz=>.inr (by omega)).then he40
   have k40:=Ext.get he40 hk39
   refine ⟨fun u=>Ext w40 u,Upd.refl _ _,?_⟩
   have hl40:SliceAt childR w40 Gc a6 l:=hl6.upd v40 fun z hz ho=>hGcO z hz ho
   cases hdn:downS c bs f' ti ⟨l[i].block,l[i].page⟩ (d+1) with
   | none =>
    rw [hdn] at hres hks
    subst hv
    have hb:b=false:=by
     have:=hres
     simp only [Value.tuple.injEq,Array.mk.injEq,List.cons.injEq,Value.bool.injEq,and_true] at this
     exact this.2
    subst hb
    exact fail1 ((Upd.ext e26).trans v40) (dead hks)
   | some y =>
    obtain ⟨k',t'⟩:=y
    rw [hdn] at hres hks
    simp only at hres hks
    obtain ⟨hv',O',U',hT',hO',hU'⟩:=hres
    subst hv
    have hb:b=true:=by
     have:=hv'
     simp only [Value.tuple.injEq,Array.mk.injEq,List.cons.injEq,Value.bool.injEq,and_true] at this
     exact this.2
    have hkk:k=k':=by
     have:=hv'
     simp only [Value.tuple.injEq,Array.mk.injEq,List.cons.injEq,Value.agg.injEq,Value.int.injEq,Value.string.injEq,and_true,true_and] at this
     obtain ⟨⟨i1,i2,i3,i4⟩,_⟩:=this
     cases k;cases k'
     simp only at i1 i2 i3 i4
     have i2':=UInt8.toNat_inj.1 (Int.ofNat.inj i2)
     subst i1;subst i2';subst i3;subst i4;rfl
    subst hb;subst hkk
    simp only [Bool.not_true,br_false]
    refine ⟨_,_,_,_,fun u hu=>key_cells (Ext.get hu k40),SliceAt.idx (r:=childR) hl40 rfl hi' fun b3 o3 vs3 ha3 hrow3 hR3 hG3=>?_⟩
    obtain rfl:vs3=childVs l[i]:=hR3
    refine ⟨_,_,_,_,fun u hu=>(RowAt.take (RowAt.ext hrow3 hu) 4).cells,?_⟩
    rw [key_beq]
    refine br_intro (fun hn=>?_) fun hy=>?_
    .have hne:¬ k=l[i].key:=by simpa using hn
     rw [if_neg hne] at hks
     exact fail1 ((Upd.ext e26).trans v40) (dead hks)
    .have heq:k=l[i].key:=by simpa using hy
     rw [if_pos heq] at hks
     refine ⟨⟨i+1,t',O',U',rfl,hi',hks,?_,downS_ok c bs f' ti _ (d+1) k t' hoki hdn,fun z hz=>?_,fun z hz=>?_,v40⟩,meas hi'⟩
     .refine (hT'.upd hu39 fun z hz hu'=>?_).ext he40
      subst hz
      obtain ⟨n1,n2⟩:=hsepk O' U' t' hT' hU'
      rcases hU' _ hu' with hh | hh
      .exact n1 hh
      .rcases n2 with n2 | n2
       .omega
       .have:=hT'.lt _ hu';omega
     .rcases hO' z hz with hh | hh
      .exact hOi z hh
      .exact .inr (by omega)
     .rcases hU' z hz with hh | hh
      .exact hUi z hh
      .exact .inr (by omega)
  have shape:∀ {u37 u38:World} {v:Value},RDown L Oi Ui (downS c bs f' ti ⟨l[i].block,l[i].page⟩ (d+1)) u37 v u38->∃ k b,v= .tuple #[keyV k,.bool b]:=fun hrd=>by
   obtain ⟨_,hres⟩:=hrd
   cases hdn:downS c bs f' ti ⟨l[i].block,l[i].page⟩ (d+1) with
   | none=>rw [hdn] at hres;exact ⟨_,_,hres⟩
   | some y=>obtain ⟨k,t'⟩:=y;rw [hdn] at hres;exact ⟨_,_,hres.1⟩
  refine ⟨(call u36 (Upd.refl _ _)).mono ?_,fun B5 w43 hn43=>⟨Upd.ext hn43.upd,(call w43 hn43.upd).mono ?_⟩⟩
  .intro v w37 hrd
   obtain ⟨k,b,rfl⟩:=shape hrd
   have hu37:=hrd.1
   have hs37:=hu37.size
   refine ⟨_,_,_,_,_,rfl,hu37,fun B4 w38 hn38=>⟨hu37.then hn38.upd,?_⟩⟩
   have hB4:=hn38.num
   have hs38:=hn38.size
   refine put_all (vs:=Key.vals k) hn38.get rfl fun w39 hu39 hs39 g39=>?_
   exact tail (u38:=w37) (Bk:=B4) (Upd.refl _ _) hrd k b rfl ((Upd.ext hn38.upd).trans hu39) g39 (by omega) fun O' U' t' hT' hU'=>⟨fun hh=>by have:=hlti _ hh;omega,.inr (by omega)⟩
  .intro v w44 hrd
   obtain ⟨k,b,rfl⟩:=shape hrd
   have hu44:=hrd.1
   have hB5:=hn43.num
   have hs43:=hn43.size
   have hs44:=hu44.size
   have hB5O:¬ Oi B5:=fun hh=>by have:=hlti _ (houi _ hh);omega
   refine ⟨_,_,_,_,_,rfl,(Upd.ext hn43.upd).trans hu44,put_all (vs:=Key.vals k) (hu44.get hn43.get hB5O) rfl fun w45 hu45 hs45 g45=>?_⟩
   exact tail (u37:=w43) (u38:=w44) (Bk:=B5) hn43.upd hrd k b rfl hu45 g45 (by omega) fun O' U' t' hT' hU'=>⟨fun hh=>by have:=hlti _ hh;omega,.inl (by omega)⟩
 .have hii:i=l.length:=by omega
  subst hii
  rw [List.take_length] at hki
  subst hkey0
  refine first_child hlu rfl fun q hq=>⟨_,_,_,_,hq,out hTi (fun z hz=>(hOi z hz).imp id fun hh=>by omega) (fun z hz=>(hUi z hz).imp id fun hh=>by omega) k26 ?_⟩
  rw [hmatch,hki]
theorem rdown_spec {F:Nat->Prop} {A:Nat} {wS:World} {c:Chip} {L:TLoc} {bs:List Nat} (h:CIn F A wS L.p c) (hd0:c.dead=false) (hbs:L.bs=bs.map Int.ofNat) (hrow:RowAt wS L.ab (L.bs.map (Value.int .i64))) (hnb:bs.length<1000):∀ f,RDownAt wS c L bs f
 | 0=>rdown_step h hd0 hbs hrow hnb fun f' e=>by cases e
 | f+1=>rdown_step h hd0 hbs hrow hnb fun f' e=>by cases e;exact rdown_spec h hd0 hbs hrow hnb f
theorem carrackref18_walked_spec {F:Nat->Prop} {A:Nat} {w:World} {p:Nat} {c:Chip} (h:CIn F A w p c) (hd0:c.dead=false) (era:Nat) :
  CallsR prog K.carrackref18_walked #[.pointer (some ⟨p,0,none⟩),.int .u32 era] w fun v w'=>Ext w w'/\match walkedR c era with
   |(some t,_)=>∃ L O U,v= .tuple #[.pointer (some ⟨L.b,0,none⟩),.int .i64 0]/\RTreeIn L O U w' t/\∀ x,U x->w.heap.size<=x
   |(none,e)=>v= .tuple #[.pointer none,.int .i64 (e:Nat)]:=by
 apply carrackref18_walked.sh
 suffices H:∀ R:Value->World->Prop,(∀ v w',(Ext w w'/\match walkedR c era with
   |(some t,_)=>∃ L O U,v= .tuple #[.pointer (some ⟨L.b,0,none⟩),.int .i64 0]/\RTreeIn L O U w' t/\∀ x,U x->w.heap.size<=x
   |(none,e)=>v= .tuple #[.pointer none,.int .i64 (e:Nat)])->R v w')->carrackref18_walked.body (some ⟨p,0,none⟩) era w R from H _ fun _ _ h=>h
 intro R hR
 unfold carrackref18_walked.body
 refine (carrackref18_Newest_spec h hd0 era).mono ?_
 rintro _ w1 ⟨rfl,he1⟩
 unfold walkedR at hR
 refine ⟨_,_,_,_,_,_,_,rfl,new_put (vs:=Point.vals (accP (newestR c era).1)) rfl fun B1 w3 hb1 hs3 he3 g3=>br_ne (fun hne=>?_) fun hz=>?_⟩
 .rw [if_pos (by omega)] at hR
  exact hR _ _ ⟨he1.trans he3,rfl⟩
 rw [if_neg (by omega)] at hR
 obtain ⟨hask,x,hnx,hnr⟩:=newestR_zero (c:=c) (era:=era) (by omega)
 rw [hnr] at hR g3
 obtain ⟨hmay,_⟩:=newest_may hnx
 obtain ⟨⟨m1,m2,m3,m4,m5,m6,m7⟩,_⟩:=(Point.may_iff _).1 hmay
 have e3:=he1.trans he3
 refine (carrackref18_Blocks_spec (h.ext e3) hd0 era).mono ?_
 rintro _ w4 ⟨a4,c4,rfl,hl4,he4⟩
 have e4:=e3.trans he4
 simp only [add_lit,Nat.zero_add]
 refine ⟨_,_,_,rfl,fun B2 w5 hn5=>?_⟩
 have hB2:=hn5.num
 have hs5:=hn5.size
 have hs4:=e4.size
 have e5:=e4.trans hn5.upd
 have hblen:=treeBlocks_len h.ok hd0 era
 have hnb2:=h.ok.nb2
 have g5:w5.heap[B1]?=some (.cells (Point.vals x.1).toArray T.api_Point (0,0)):=Ext.get hn5.upd (Ext.get he4 g3)
 have hT:RTreeIn ⟨B2,0,p,a4,c4,blocksI c era⟩ (fun z=>z=B2) (fun z=>z=B2) w5 ⟨[],[],0⟩:=by
  refine ⟨none,0,none,0,NoB,hn5.get,OwnAt.nil _ _ _,OwnS.nil _ _ _,⟨rfl,fun z hz=>(by cases hz),fun z hz=>(by cases hz),fun z hz=>hz.elim,fun z hz=>hz,?_⟩⟩
  rintro z rfl
  omega
 change ∀ v w',(Ext w w'/\match (match walkS c (treeBlocks c era) x.1 with
   | some t=>(some t,0)
   | none=>(none,16)) with
   |(some t,_)=>∃ L O U,v= .tuple #[.pointer (some ⟨L.b,0,none⟩),.int .i64 0]/\RTreeIn L O U w' t/\∀ x,U x->w.heap.size<=x
   |(none,e)=>v= .tuple #[.pointer none,.int .i64 (e:Nat)])->R v w' at hR
 have hwalk:walkS c (treeBlocks c era) x.1=if x.1.count=0 then some ⟨[],[],0⟩ else (match downS c (treeBlocks c era) 13 ⟨[],[],0⟩ ⟨x.1.block,x.1.page⟩ 1 with
  | some (_,t)=>if (t.facts.length:Int)=x.1.count then some t else none
  | none=>none):=rfl
 refine ⟨_,cell_of g5 rfl,br_eq (fun h0=>?_) fun h0=>⟨_,cell_of g5 rfl,_,cell_of g5 rfl,?_⟩⟩
 .rw [if_pos h0] at hwalk
  rw [hwalk] at hR
  exact hR _ _ ⟨e5,_,_,_,rfl,hT,fun z hz=>by have:z=B2:=hz;omega⟩
 rw [if_neg h0] at hwalk
 refine (rdown_spec (L:=⟨B2,0,p,a4,c4,blocksI c era⟩) (bs:=treeBlocks c era) (h.ext e4) hd0 rfl hl4.1.row (by omega) 13 ⟨[],[],0⟩ ⟨x.1.block,x.1.page⟩ 1 w5 (fun z=>z=B2) (fun z=>z=B2) (by decide) (by decide) hn5.upd (by rintro z rfl;omega) hT (TreeS.Ok.nil c) (by show 0<=x.1.page;omega)).mono ?_
 rintro v w6 ⟨hu6,hres⟩
 have hs6:=hu6.size
 have e6:Ext w w6:=e5.beyond hu6 (by rintro z rfl;omega)
 have hs44:=he4.size
 have g6:=hu6.get g5 (by omega)
 cases hdn:downS c (treeBlocks c era) 13 ⟨[],[],0⟩ ⟨x.1.block,x.1.page⟩ 1 with
 | none =>
  rw [hdn] at hres hwalk
  rw [hwalk] at hR
  obtain rfl:=hres
  refine ⟨_,_,_,_,_,rfl,new_put (vs:=Key.vals Key.zero) rfl fun B3 w8 hb8 hs8 he8 g8 w9 hd9=>⟨fun u=>Ext w9 u,Upd.refl _ _,?_⟩⟩
  exact hR _ _ ⟨(e6.trans he8).trans hd9.upd,rfl⟩
 | some y =>
  obtain ⟨k,t⟩:=y
  rw [hdn] at hres hwalk
  obtain ⟨rfl,O',U',hT',hO',hU'⟩:=hres
  refine ⟨_,_,_,_,_,rfl,new_put (vs:=Key.vals k) rfl fun B3 w8 hb8 hs8 he8 g8 w9 hd9=>⟨fun u=>Ext w9 u,Upd.refl _ _,?_⟩⟩
  have e89:=he8.trans hd9.upd
  have hT9:=hT'.ext e89
  have hT9':=hT9
  obtain ⟨ap,cp,af,cf,G,q1,_⟩:=hT9'
  refine ⟨_,_,_,fun u hu=>cell_of (Ext.get hu q1) rfl,_,fun u hu=>cell_of (Ext.get (e89.trans hu) g6) rfl,br_ne (fun hne=>?_) fun heq=>?_⟩
  .rw [show walkS c (treeBlocks c era) x.1=none by rw [hwalk];exact if_neg hne] at hR
   exact hR _ _ ⟨e6.trans e89,rfl⟩
  .rw [show walkS c (treeBlocks c era) x.1=some t by rw [hwalk];exact if_pos heq] at hR
   refine hR _ _ ⟨e6.trans e89,_,O',U',rfl,hT9,fun z hz=>?_⟩
   rcases hU' z hz with hh | hh
   .have:z=B2:=hh;omega
   .omega
theorem RTreeIn.facts {L:TLoc} {O U:Nat->Prop} {w:World} {t:TreeS} (h:RTreeIn L O U w t):∃ a c,World.cell? w ⟨L.b,3,none⟩= some (.slice a t.facts.length c)/\SliceAt factR w U a t.facts/\t.facts.length<=c:=by
 obtain ⟨ap,cp,af,cf,G,q1,q2,q3,q6⟩:=h
 refine ⟨af,cf,cell_of q1 rfl,OwnS.at_ (q3.mono fun z hz=>(q6.go z hz).1) fun p hp=>?_,q3.cap⟩
 obtain ⟨z,hz,_,rfl⟩:=q3.blk hp
 exact q6.ou _ (q6.of_ _ hz).1
theorem RTreeIn.pages {L:TLoc} {O U:Nat->Prop} {w:World} {t:TreeS} (h:RTreeIn L O U w t):∃ a c,World.cell? w ⟨L.b,2,none⟩= some (.slice a t.pages.length c)/\SliceAt placeR w U a t.pages/\t.pages.length<=c:=by
 obtain ⟨ap,cp,af,cf,G,q1,q2,q3,q6⟩:=h
 refine ⟨ap,cp,cell_of q1 rfl,flat_slice q2.row fun hne p hp=>?_,q2.2.1⟩
 obtain ⟨b,o,hb,_⟩:=RowAt.blk q2.row (fun e=>hne (by
  have:=congrArg List.length e
  rw [flat_len (k:=2) (fun _=>rfl),List.length_nil] at this
  exact List.eq_nil_of_length_eq_zero (by omega)))
 have hb':=hb
 rw [hp] at hb
 cases hb
 obtain ⟨_,_,hx⟩:=q2
 rcases hx with ⟨rfl,_⟩| ⟨b',_,e',_⟩
 .cases hb'
 .rw [e'] at hb';cases hb'
  exact q6.ou _ (q6.op _ e').1
theorem walkedR_none {c:Chip} {era:Nat} {e:Nat} (h:walkedR c era=(none,e)):e≠0:=by
 intro e0
 subst e0
 unfold walkedR at h
 split at h
 .rename_i hh;exact hh (congrArg Prod.snd h)
 .split at h
  .cases h
  .exact absurd (congrArg Prod.snd h) (by decide)
theorem carrackref18_Facts_spec {F:Nat->Prop} {A:Nat} {w:World} {p:Nat} {c:Chip} (h:CIn F A w p c) (hd0:c.dead=false) (era:Nat) :
  CallsR prog K.carrackref18_Facts #[.pointer (some ⟨p,0,none⟩),.int .u32 era] w fun v w'=>SliceOut factR w w' v (factsR (walkedR c era)) (walkedR c era).2:=by
 apply carrackref18_Facts.sh
 unfold carrackref18_Facts.body
 refine (carrackref18_walked_spec h hd0 era).mono ?_
 rintro v w1 ⟨he1,hv⟩
 rcases hw:walkedR c era with ⟨_ | t,e⟩
 .rw [hw] at hv
  obtain rfl:=hv
  have:=walkedR_none hw
  exact ⟨_,_,rfl,br_ne (fun _=>SliceOut.none rfl he1) fun h=>by omega⟩
 .have he:=walkedR_some hw
  subst he
  rw [hw] at hv
  obtain ⟨L,O,U,rfl,hT,hU⟩:=hv
  refine ⟨_,_,rfl,br_ne (fun h=>absurd rfl h) fun _=>?_⟩
  obtain ⟨a,c',h1,h2,h3⟩:=hT.facts
  simp only [nilC_some',add_lit,Nat.zero_add]
  exact ⟨_,_,_,h1,a,c',U,rfl,h2,fun b hb=>⟨hU b hb,hT.lt b hb⟩,h3,he1⟩
theorem walk_Facts_none {F:Nat->Prop} {A:Nat} {w:World} {p:Nat} {c:Chip} (h:CIn F A w p c) (hnb:Few c) (era:Nat) (hno:(newestR c era).2≠0) :
  CallsR prog K.walk_Facts #[.pointer (some ⟨p,0,none⟩),.int .u32 era] w fun v w'=>v= .tuple #[.slice none 0 0,.int .i64 ((newestR c era).2:Nat)]/\Ext w w':=by
 apply walk_Facts.sh
 unfold walk_Facts.body
 refine CallsR.mono (R:=fun v w'=>v= .tuple #[.pointer none,.int .i64 ((newestR c era).2:Nat)]/\Ext w w') ?_ ?_
 .apply walk_walked.sh
  unfold walk_walked.body
  refine (walk_Newest_spec h hnb era).mono ?_
  rintro _ w1 ⟨rfl,he1⟩
  exact ⟨_,_,_,_,_,_,_,rfl,new_put (vs:=Point.vals (accP (newestR c era).1)) rfl fun B1 w3 hb1 hs3 he3 g3=>br_ne (fun hne=>⟨rfl,he1.trans he3⟩) fun hz=>absurd hz (by omega)⟩
 .rintro _ w1 ⟨rfl,he1⟩
  exact ⟨_,_,rfl,br_ne (fun _=>⟨rfl,he1⟩) fun hz=>absurd hz (by omega)⟩
theorem stem_Open_no {F X:Nat->Prop} {w:World} {p:Nat} {c:Chip} (h:CX F X w p c) (hd0:c.dead=false) {era:Nat} (hera:era≠0) (hfew:Few c) (hno:(newestR c era).2≠0) :
  CallsR prog K.stem_Open #[.pointer (some ⟨p,0,none⟩),.int .u32 era] w fun v w'=>v= .tuple #[.pointer none,.int .i64 16]/\Ext w w':=by
 apply stem_Open.sh
 unfold stem_Open.body
 refine (cxScan h).mono ?_
 rintro v w1 ⟨he1,hv⟩
 rw [hd0,if_neg (by decide)] at hv
 obtain ⟨M,hM,rfl,hP⟩:=hv
 refine ⟨_,_,rfl,br_ne (fun h=>absurd rfl h) fun _=>br_eq (fun h0=>absurd h0 (by omega)) fun h0=>?_⟩
 refine (walk_Facts_none ((h.ext he1).cin) hfew era hno).mono ?_
 rintro _ w2 ⟨rfl,he2⟩
 exact ⟨_,_,_,_,rfl,br_ne (fun _=>⟨rfl,he1.trans he2⟩) fun h=>absurd h (by omega)⟩
theorem carracklaw19_geo_spec {sp:Nat} (hsp:sp<1000) (w:World):CallsR prog K.carracklaw19_geo #[.int .i64 sp] w fun v w'=>v= .agg #[.int .i64 (24:Nat),.int .i64 (8:Nat),.int .i64 (128:Nat),.int .i64 ((sp % 3:Nat):Int)]/\Ext w w':=by
 apply carracklaw19_geo.sh
 unfold carracklaw19_geo.body
 intro B w1 hn1
 have e0:u64.wrap (sp:Int)=(sp:Int):=wu64 (by omega) (by omega)
 have e:Int.tmod (sp:Int) 3=((sp % 3:Nat):Int):=(Int.ofNat_tmod _ _).symm
 have e2:i64.wrap ((sp % 3:Nat):Int)=((sp % 3:Nat):Int):=w64 (by omega) (by omega)
 rw [e0,e,e2]
 refine ⟨by decide,?_⟩
 refine store_of hn1.get (by simp) fun w2 hp=>?_
 have hB:=hn1.num
 have g:=hp.get
 rw [splice_all _ _ (by simp)] at g
 exact ⟨_,_,_,_,cells_all g,rfl,hn1.upd.beyond hp.upd1 fun x hx=>by omega⟩
theorem cs19_small:Small cs19/\SmallC cs19:=by
 constructor<;>intro x hx<;>simp [cs19] at hx<;>subst hx
 .decide
 .exact ⟨by decide,by decide⟩
theorem carracklaw19_lives_spec {w:World} (hb:BoundsAt w):CallsR prog K.carracklaw19_lives #[] w fun v w'=>v= .bool true/\Ext w w':=by
 have hA:=lives19a_true
 have hB:=lives19b_true
 have hC:=lives19c_true
 unfold lives19a at hA
 unfold lives19b at hB
 unfold lives19c at hC
 simp only [Bool.and_eq_true,decide_eq_true_eq,Bool.not_eq_true',List.all_eq_true] at hA hB hC
 obtain ⟨⟨⟨⟨a0,a1⟩,a2⟩,a3⟩,a4⟩:=hA
 obtain ⟨⟨⟨⟨⟨⟨b0,b1⟩,b2⟩,b3⟩,b4⟩,b5⟩,b6⟩:=hB
 obtain ⟨⟨⟨⟨⟨d0,d1⟩,d2⟩,d3⟩,d4⟩,d5⟩:=hC
 obtain ⟨mk,hnum⟩:=made19
 have hr0:(stem0 c19 3).Ready 2:=fresh_ready (by decide) (by decide) (by decide) (by decide) (by decide) (by decide) (by decide) (by decide) (by decide)
 obtain ⟨k1,k2,k3,k4,k5,k6⟩:=m19.1.put_keeps cs19
 have hp:m19.1.put cs19=p19:=rfl
 have hy:p19.1.syncC=y19:=rfl
 have hm:makeS c19 3=m19:=rfl
 have hc0:newChip 24 8 128 0=c19:=rfl
 have hdead:c19.dead=false:=rfl
 have hh0:c19.hits.length=0:=rfl
 have hg0:c19.nb=24/\c19.np=8/\c19.sz=128/\c19.sp=0:=⟨rfl,rfl,rfl,rfl⟩
 rw [hp] at k1 k2 k3 k4 k5 k6
 have geo:=mk.geo
 rw [<- k1] at a2 a3 a4 geo
 have hpr:p19.1.Ready 10:=k6 _ mk.ready
 have hpd:=hpr.alive
 have hph:p19.1.chip.hits.length<=0:=by rw [k1];exact mk.hits
 have htk:(takenPool p19.1.pool p19.1.chip).length<20:=by rw [taken_ref hpr.inv hpd];exact a2
 have hpb:PB p19.1.pages:=by rw [k4,mk.pages];intro x hx;cases hx
 have hfit:FitL p19.1.chip.sz p19.1.facts:=by
  refine ⟨fun f hf=>?_,?_,fun f hf=>?_⟩
  .have:=b5 f hf
   exact this.1
  .match hl:p19.1.facts,b4 with
   | [x],_=>exact List.pairwise_singleton _ _
  .have:=b5 f hf
   rw [geo.2.2.1,hg0.2.2.1]
   exact this.2
 have hmf:m19.1.facts.length=0:=by rw [mk.facts];rfl
 have hvl:∀ f∈m19.1.facts,f.val.length<=140737488355232:=by rw [mk.facts];intro f hf;cases hf
 have hcl:cs19.length=1:=rfl
 have hsm:=cs19_small
 have hcs:cs19=[⟨⟨1,1,ByteArray.empty,0⟩,[5],false⟩]:=rfl
 apply carracklaw19_lives.sh
 suffices H:∀ R:Value->World->Prop,(∀ v w',v= .bool true/\Ext w w'->R v w')->carracklaw19_lives.body w R from H _ fun _ _ h=>h
 intro R hR
 unfold carracklaw19_lives.body
 refine (carracklaw19_geo_spec (sp:=0) (by decide) w).mono ?_
 rintro _ w1 ⟨rfl,he1⟩
 refine ⟨_,_,_,_,rfl,(cxNew w1 (nb:=24) (np:=8) (sz:=128) (sp:=0) (by omega) (by omega) (by omega) (by omega) (by omega) (by omega) (by omega)).mono ?_⟩
 rintro _ w2 ⟨he2,p,rfl,hc2⟩
 rw [hc0] at hc2
 have hs1:=he1.size
 have hs2:=he2.size
 refine ⟨_,_,rfl,(stem_Make_spec (era:=3) hc2 (fun x hx=>hx.2) (fun x hx=>hx.2) (by decide) a1 (fun _ _=>by rw [hh0];exact hr0) (by omega)).mono ?_⟩
 rintro _ w3 ⟨hu3,hv⟩
 rw [hm] at hv
 have hv':∃ q M,_/\_/\_/\_:=hv.elim (fun h=>h.2) fun h=>absurd a0 h.1
 obtain ⟨q,M,rfl,rfl,hq0',hq,h3⟩:=hv'
 generalize hF:(fun x=>Fr w1 w2 x\/(w2.heap.size<=x/\x<q))=F at h3
 have hs3:=hu3.size
 have e3:Ext w w3:=(he1.trans he2).beyond hu3 fun x hx=>by have:=hx.1;omega
 refine ⟨_,_,rfl,?_⟩
 intro B1 w4 hn4 B2 w5 hn5
 have hB1:=hn4.num
 have hB2:=hn5.num
 have hs4:=hn4.size
 have hs5:=hn5.size
 have g1:=Ext.get hn5.upd hn4.get
 have g2:=hn5.get
 have e35:Ext w3 w5:=hn4.upd.trans hn5.upd
 have hrow:RowAt w5 (some ⟨B2,0,none⟩) (changeVs ⟨1,1,ByteArray.empty,0⟩ (some ⟨B1,0,none⟩) [(5:UInt8)].length 1 false):=RowAt.of g2 fun j v hj=>by rw [Nat.zero_add,<- Array.getElem?_toList];exact hj
 have hby:BytesAt w5 (some ⟨B1,0,none⟩) [5]:=RowAt.of g1 fun j v hj=>by rw [Nat.zero_add,<- Array.getElem?_toList];exact hj
 have hsl:SliceAt changeR w5 (Fr w3 w5) (some ⟨B2,0,none⟩) cs19:=by
  rw [hcs]
  exact ⟨_,hrow,Rows.single (changeR_intro (x:=⟨⟨1,1,ByteArray.empty,0⟩,[5],false⟩) (c:=1) (a:=some ⟨B1,0,none⟩) (by decide) hby fun _ p hp=>by cases hp;exact ⟨by show w3.heap.size<=B1;omega,by show B1<w5.heap.size;omega⟩),fun _ p hp=>by cases hp;exact ⟨by show w3.heap.size<=B2;omega,by show B2<w5.heap.size;omega⟩⟩
 have e5:=e3.trans e35
 have h5:=h3.ext e35
 have hFS:∀ x,F x->w.heap.size<=x/\x<w3.heap.size:=fun x hx=>by
  rw [<- hF] at hx
  rcases hx with hx | hx
  .have:=hx.1;have:=hx.2;omega
  .omega
 have hXS:∀ x,Fr w1 w2 x->w.heap.size<=x/\x<w3.heap.size:=fun x hx=>by have:=hx.1;have:=hx.2;omega
 clear hF
 generalize Fr w1 w2=X at *
 have hq3:=h3.lt
 have hq0:w.heap.size<=q:=by omega
 refine (stem_Put_spec (cc:=1) h5 (fun x hx=>by have:=hFS x hx;omega) (fun x hx=>by have:=hXS x hx;omega) hsl hsm.1 hsm.2 (by omega) hvl).mono ?_
 rw [hp]
 rintro _ w6 ⟨rfl,hu6,h6⟩
 have hs6:=hu6.size
 have e6:Ext w w6:=e5.beyond hu6 fun x hx=>by
  rcases hx with hx | hx
  .exact (hFS x hx).1
  .omega
 have hX6:∀ x,NewX X w5 w6 x->w.heap.size<=x/\x<w6.heap.size:=fun x hx=>by
  rcases hx with hx | hx
  .have:=hXS x hx;omega
  .omega
 generalize NewX X w5 w6=X6 at *
 refine ⟨_,rfl,(carrackref18_Facts_spec h6.pool.chip.cin hpd 3).mono ?_⟩
 rintro _ w7 ⟨a7,c7,G7,rfl,_,_,_,he7⟩
 have hs7:=he7.size
 have e7:=e6.trans he7
 refine ⟨_,_,_,_,rfl,(stem_Sync_calm (H:=0) (h6.ext he7) (fun x hx=>by have:=hFS x hx;omega) (fun x hx=>by have:=hX6 x hx;omega) hpd hfit (by omega) (hpr.less (by omega)) hph hpb (by omega) htk (hb.ext e7) (by rw [geo.2.2.2];omega) (by rw [geo.2.1];omega) b3 (fun _=>b1)).mono ?_⟩
 rw [hy]
 rintro _ w8 ⟨rfl,hu8,h8⟩
 have hs8:=hu8.size
 have e8:Ext w w8:=e7.beyond hu8 fun x hx=>by
  rcases hx with hx | hx
  .exact (hFS x hx).1
  .omega
 refine ⟨_,rfl,(carrackref18_Facts_spec h8.pool.chip.cin d5 3).mono ?_⟩
 rintro _ w9 ⟨a9,c9,G9,rfl,_,_,_,he9⟩
 refine ⟨_,_,_,_,rfl,(stem_Open_no ((h8.ext he9).pool.chip) d5 (era:=4) (by decide) d1 d4).mono ?_⟩
 rintro _ w10 ⟨rfl,he10⟩
 refine ⟨_,_,rfl,?_⟩
 rw [b0,a3,a4,d0,d2,d3]
 exact br_eq (fun _=>br_eq (fun _=>br_eq (fun _=>br_eq (fun _=>br_eq (fun _=>br_eq (fun _=>br_eq (fun _=>br_eq (fun _=>hR _ _ ⟨rfl,(e8.trans he9).trans he10⟩) fun h=>absurd rfl h) fun h=>absurd rfl h) fun h=>absurd rfl h) fun h=>absurd rfl h) fun h=>absurd rfl h) fun h=>absurd rfl h) fun h=>absurd rfl h) fun h=>absurd rfl h
section
open Go.ChangeShapes Go.WideShapes Go.ChangeAt Go.RowKit
theorem Ext.below {w w':World} (h:Ext w w'):Below w.heap.size w w':=⟨h.os,h.tape,h.output,h.size,fun k hk=>h.blk k hk (fun hf=>hf)⟩
section
variable {H:Type} {enc:TypeId×Value->H} {P:Program}
theorem trodAll_stays (hl:laidOutB P=true) {W W':World} (hb:Below W.heap.size W W') {sp:Nat->Bool}:∀ {ts:List TypeId} {vs:List Value} {ds:List (DataW H)} {ps:List MemPlace},(∀ t∈ts,P.readableRec t=true/\t<P.types.size)->
  DataW.TrodAll enc P W 0 (fun _=>true) true ts vs ds ps->(∀ x∈ps,x.block<W.heap.size)->(∀ x∈ps,sp x.block=true)->DataW.TrodAll enc P W' 0 sp true ts vs ds ps
 | [],_,_,_,_,h,_,_=>by
  obtain ⟨rfl,rfl,rfl⟩:=trodAll_nil h
  rfl
 | t :: ts,_,_,_,hr,h,hlt,hsp=>by
  obtain ⟨v,vs1,d,ds1,a,b,rfl,rfl,rfl,h1,h2⟩:=trodAll_cons h
  exact ⟨a,b,WideElems.Trod_stays hl (hr t (by simp)).1 (hr t (by simp)).2 h1 (fun x hx=>hb.same (hlt x (by simp [hx]))) (fun x hx=>hsp x (by simp [hx])),
   trodAll_stays hl hb (fun u hu=>hr u (by simp [hu])) h2 (fun x hx=>hlt x (by simp [hx])) (fun x hx=>hsp x (by simp [hx])),rfl⟩
theorem post_true (hl:laidOutB P=true) {f:Func} {s:ChangeSpec} {apart fresh handsOn again:Bool} {W W':World} {args:Array Value} {ds gs:List (DataW H)} {before:List MemPlace} {tb:TypeId}
  (hW:DataW.Whole enc P f.params.toList s.vars apart W args.toList ds gs before) (hv:s.vars=[]) (hrows:∀ t∈f.params.toList,P.readableRec t=true/\t<P.types.size) (hb:Below W.heap.size W W')
  (ht:P.underlying tb=some .bool) (hres:f.resultTypes=#[tb]) (hfn:(s.fn H (ds ++ gs))={ results:=[.lit (.bool true)],args:=ds }) :
  s.post enc P f apart fresh handsOn again W args (.bool true) W':=by
 have hlt:=hW.lt
 have hW':=hW
 obtain ⟨p,q,hA,hV,hpq,hz,hn⟩:=hW'
 rw [hv] at hV
 obtain ⟨rfl,rfl⟩:=trodVars_none hV
 simp only [List.append_nil] at hpq
 subst hpq
 have hargs:∀ sp:Nat->Bool,(∀ x∈before,sp x.block=true)->DataW.TrodAll enc P W' 0 sp true f.params.toList args.toList ds before:=fun sp hsp=>trodAll_stays hl hb hrows hA hlt hsp
 have hresT:∀ (b:Nat) (sp:Nat->Bool) (hd:Bool),DataW.TrodAll enc P W' b sp hd f.resultTypes.toList ((Value.bool true).resultList f.resultTypes.size) [.lit (.bool true)] []:=by
  intro b sp hd
  rw [hres]
  exact trodAll_cons_mk (shut_bool ht _) trodAll_mk0
 refine ⟨ds,[],before,[],before,[],hW,?_,?_,?_,hb.frame _,fun _=>⟨?_,.lit (.bool true) :: ds,[],before,⟨before,[],?_,?_,by simp,?_,hn⟩,fun p hp _=>hp⟩⟩
 .rw [hfn];exact hresT _ _ _
 .rw [hfn];exact hargs _ (fun x hx=>by simpa using hlt x hx)
 .rw [hv,hfn];rfl
 .exact ok_one hres rfl (okWide_bool_mk ht _)
 .have:=trodAll_append (hargs _ (fun _ _=>rfl)) (hresT 0 (fun _=>true) true)
  exact this
 .rw [hv];rfl
 .intro b off hp
  have hbl:=hlt _ hp
  rw [hb.frozen (p:=⟨b,off,none⟩) hbl]
  exact hz b off hp
end
end
section
open Go.ChangeShapes Go.WideShapes Go.ChangeAt Go.RowKit
section
variable {H:Type} {enc:TypeId×Value->H} {P:Program}
end
end
section
open Go.ChangeShapes Go.WideShapes Go.ChangeAt Go.RowKit
section
variable {H:Type} {enc:TypeId×Value->H} {P:Program}
def Fits (P:Program) (t:TypeId) (d:DataW H):Prop:=∀ n∈d.weights P t,n<=reachBytes
theorem Fits.len {t e:TypeId} {elems spare:List (DataW H)} (h:Fits P t (.slice elems spare)) (hu:P.underlying t=some (.slice e)):(elems.length+spare.length) * P.bytesOf e<=reachBytes:=by
 refine h _ ?_
 simp only [DataW.weights,hu,List.mem_cons]
 exact .inl trivial
end
end
section
open Go.ChangeShapes Go.WideShapes Go.ChangeAt Go.RowKit
section
variable {H:Type} {enc:TypeId×Value->H} {P:Program} {w:World} {base:Nat} {spare:Nat->Bool} {held:Bool} {fuel:Nat} {cs:List Value} {x:DataW H×List MemPlace}
theorem laid_pair {r e:TypeId} (hr:P.underlying r=some (.array 2 e)) (he:P.underlying e=some (.int .i64)) (hc:P.cellsOf e=1) (hc2:P.cellsOf r=2) (h:DataW.trod enc P w base spare held fuel r cs=some x) {a b:Int} (hx:x.1= .agg [.lit (.int .i64 a),.lit (.int .i64 b)]):cs=[.int .i64 a,.int .i64 b]:=by
 obtain ⟨xs,m,_,rfl,hlen,hxl,hat⟩:=DataW.trod_array hr h
 obtain ⟨y0,y1,rfl⟩: ∃ y0 y1,xs=[y0,y1]:=by
  match xs,hxl with
  | [y0,y1],_=>exact ⟨y0,y1,rfl⟩
 have h0:=hat 0 (by decide)
 have h1:=hat 1 (by decide)
 rw [hc] at h0 h1
 obtain ⟨n0,c0,rfl,_⟩:=DataW.trod_int he (h0.trans rfl)
 obtain ⟨n1,c1,rfl,_⟩:=DataW.trod_int he (h1.trans rfl)
 simp at hx
 obtain ⟨rfl,rfl⟩:=hx
 match cs,hlen.trans hc2 with
 | [u,v],_ =>
  simp at c0 c1
  rw [c0,c1]
theorem laid_bounds {t r e:TypeId} (ht:P.underlying t=some (.array 4 r)) (hr:P.underlying r=some (.array 2 e)) (he:P.underlying e=some (.int .i64)) (hc:P.cellsOf e=1) (hc2:P.cellsOf r=2) (hc8:P.cellsOf t=8) (h:DataW.trod enc P w base spare held fuel t cs=some x)
  (hx:x.1= .agg [.agg [.lit (.int .i64 8),.lit (.int .i64 64)],.agg [.lit (.int .i64 4),.lit (.int .i64 32)],.agg [.lit (.int .i64 128),.lit (.int .i64 256)],.agg [.lit (.int .i64 0),.lit (.int .i64 4)]]):cs=BoundsL:=by
 obtain ⟨xs,m,_,rfl,hlen,hxl,hat⟩:=DataW.trod_array ht h
 obtain ⟨y0,y1,y2,y3,rfl⟩: ∃ y0 y1 y2 y3,xs=[y0,y1,y2,y3]:=by
  match xs,hxl with
  | [y0,y1,y2,y3],_=>exact ⟨y0,y1,y2,y3,rfl⟩
 have h0:=hat 0 (by decide)
 have h1:=hat 1 (by decide)
 have h2:=hat 2 (by decide)
 have h3:=hat 3 (by decide)
 rw [hc2] at h0 h1 h2 h3
 simp at hx
 obtain ⟨x0,x1,x2,x3⟩:=hx
 have c0:=laid_pair hr he hc hc2 (h0.trans rfl) x0
 have c1:=laid_pair hr he hc hc2 (h1.trans rfl) x1
 have c2:=laid_pair hr he hc hc2 (h2.trans rfl) x2
 have c3:=laid_pair hr he hc hc2 (h3.trans rfl) x3
 match cs,hlen.trans hc8 with
 | [u0,u1,u2,u3,u4,u5,u6,u7],_ =>
  simp at c0 c1 c2 c3
  obtain ⟨rfl,rfl⟩:=c0
  obtain ⟨rfl,rfl⟩:=c1
  obtain ⟨rfl,rfl⟩:=c2
  obtain ⟨rfl,rfl⟩:=c3
  rfl
end
section
open Go.Proofs
theorem bounds_named:Tryz.prog.globalNamed "carrack/room.bounds" = some 0:=by kernel_rfl
theorem bounds_type:(Tryz.prog.globals[0]?).map (·.type)=some 291:=by kernel_rfl
abbrev boundsLaid:List (String×DataW Unit):=[("carrack/room.bounds", .agg [.agg [.lit (.int .i64 8),.lit (.int .i64 64)],.agg [.lit (.int .i64 4),.lit (.int .i64 32)],.agg [.lit (.int .i64 128),.lit (.int .i64 256)],.agg [.lit (.int .i64 0),.lit (.int .i64 4)]])]
theorem bounds_at {W:World} (h:laidMetH Tryz.prog boundsLaid W):BoundsAt W:=by
 have h':laidMet Tryz.prog boundsLaid W:=h
 obtain ⟨ps,⟨g,t,cs,fuel,p,q,hg,ht,hvar,hd,_,_⟩,_⟩:=h'
 obtain rfl:=Option.some.inj (bounds_named.symm.trans hg)
 obtain rfl:=Option.some.inj (bounds_type.symm.trans ht)
 have hcs:=laid_bounds Tryz.underlying291 Tryz.underlying290 Tryz.underlying3 (by kernel_rfl) (by kernel_rfl) (by kernel_rfl) hd rfl
 simp only [World.var?,bounds_named,Option.bind_some] at hvar
 split at hvar
 .rename_i c t' fr hb
  obtain rfl:=Option.some.inj hvar
  exact ⟨_,_,_,hb,hcs⟩
 .cases hvar
def boundsC:Array Value:=#[.int .i64 8,.int .i64 64,.int .i64 4,.int .i64 32,.int .i64 128,.int .i64 256,.int .i64 0,.int .i64 4]
noncomputable def boundsW (os:Os):World :=
 { World.holding Tryz.prog os ⟨#[],#[],[]⟩ with heap:=(World.holding Tryz.prog os ⟨#[],#[],[]⟩).heap.modify 0 fun
   | .cells _ t frozen=>.cells boundsC t frozen
   | o=>o }
theorem bounds_met (os:Os) (args:Array Value):laidMetH Tryz.prog boundsLaid ((boundsW os).forCall (fun _ _=>0) ⟨#[],args,[]⟩).memory:=by
 show laidMet Tryz.prog boundsLaid _
 exact laidMet_of_run (ps:=[.cell 0 0,.cell 0 1,.cell 0 2,.cell 0 3,.cell 0 4,.cell 0 5,.cell 0 6,.cell 0 7]) 8 (by kernel_rfl) (by kernel_rfl) (by kernel_rfl)
end
end
end Go.Den
